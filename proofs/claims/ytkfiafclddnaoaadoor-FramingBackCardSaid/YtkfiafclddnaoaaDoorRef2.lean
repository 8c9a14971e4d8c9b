/- Walks: the reference's tokens, trimmed texts, numbers. -/
import Derived.Test.YtkfiafclddnaoaaDoorRef1
set_option linter.unusedVariables false
set_option linter.unusedSimpArgs false
namespace Go.Proofs.YtkfiafclddnaoaaDoor.Tk
open Go.RowKit Go.Proofs.YtkfiafclddnaoaaDoorW.PrintWords Go.Proofs.YtkfiafclddnaoaaDoorW.PrintLast Go.Proofs.YtkfiafclddnaoaaDoor.Rw

set_option maxRecDepth 100000 in
theorem rIs_walk (s : ByteArray) (w : World) (hs : s.size ≤ 500000) :
    Calls Tryd.prog 63 #[.string s] w fun e w' => e = .returned (.bool (isTok (bl s))) ∧ w = w' := by
  go_enter Tryd.func63, Tryd.ntmps63
  go_wp2
  go_loop [3] (fun v3 => ∃ k : Nat, k ≤ s.size ∧ v3 = .int .i64 k ∧ ((bl s).take k).all tch = true) (fun v3 => s.size - (intOf v3).toNat)
  case atStart => exact ⟨0, Nat.zero_le _, rfl, by simp⟩
  case round =>
    obtain ⟨k, hk, rfl, hA⟩ := hrel
    have HA := Lib.hid hA
    clear hA
    by_cases hlt : k < s.size
    · have hx := bl_at s k hlt
      have HX := Lib.hid hx
      clear hx
      obtain ⟨b, hb⟩ : ∃ b, b = tch s[k] := ⟨_, rfl⟩
      go_wp2_with fail
      refine (rtchar_walk s[k] w).mono ?_
      rintro e w1 ⟨rfl, rfl⟩
      rw [← hb]
      have HB := Lib.hid hb
      clear hb
      cases b with
      | true =>
        go_wp2
        go_round
        case rel => exact ⟨k + 1, by omega, by go_num, by rw [all_snoc tch _ _ _ HX.out, HA.out, ← HB.out]; rfl⟩
        case measure => simp [intOf]; omega
      | false =>
        go_wp2
        go_ret
        exact ⟨by unfold isTok; rw [all_stop tch _ _ _ HX.out HB.out.symm, Bool.and_false]; rfl, rfl⟩
    · obtain rfl : k = s.size := by omega
      have e : (bl s).take s.size = bl s := by rw [← bl_length, List.take_length]
      rw [e] at HA
      have hr : isTok (bl s) = decide (0 < s.size) := by
        unfold isTok
        rw [HA.out, ← bl_length]
        cases bl s <;> simp
      have HR := Lib.hid hr
      clear hr e
      by_cases h0 : 0 < s.size
      · have h0' : (0 : Int) < s.size := by omega
        go_wp2
        go_ret
        exact ⟨by rw [HR.out, decide_eq_true h0]; rfl, rfl⟩
      · have h0' : ¬ (0 : Int) < s.size := by omega
        go_wp2
        go_ret
        exact ⟨by rw [HR.out, decide_eq_false h0]; rfl, rfl⟩

/-! ### Trimmed -/
def tl (l : Bs) : Bs := l.dropWhile blk
def tr (l : Bs) : Bs := (l.reverse.dropWhile blk).reverse
theorem tr_cons (c : UInt8) (r : Bs) : tr (c :: r) = if tr r = [] ∧ blk c = true then [] else c :: tr r := by
  unfold tr
  rw [List.reverse_cons, List.dropWhile_append]
  cases h : r.reverse.dropWhile blk with
  | nil =>
    cases hb : blk c <;> simp [List.dropWhile_cons, hb]
  | cons a b => simp
theorem tl_tr (l : Bs) : tl (tr l) = tr (tl l) := by
  induction l with
  | nil => rfl
  | cons c r ih =>
    rw [tr_cons]
    by_cases hb : blk c = true
    · have e : tl (c :: r) = tl r := by unfold tl; rw [List.dropWhile_cons, if_pos hb]
      rw [e, ← ih]
      by_cases h : tr r = []
      · rw [if_pos ⟨h, hb⟩, h]
      · rw [if_neg (fun hh => h hh.1)]
        unfold tl
        rw [List.dropWhile_cons, if_pos hb]
    · have e : tl (c :: r) = c :: r := by unfold tl; rw [List.dropWhile_cons, if_neg hb]
      rw [e, if_neg (fun hh => hb hh.2), tr_cons, if_neg (fun hh => hb hh.2)]
      unfold tl
      rw [List.dropWhile_cons, if_neg hb]
theorem blk_contains (c : UInt8) : ([32, 9] : Bs).contains c = blk c := by
  simp only [List.contains_cons, List.contains_nil, Bool.or_false, blk]
theorem trim_eq (l : Bs) : trim l = tr (tl l) := by
  rw [← tl_tr]
  unfold trim Lib.trimS Lib.trimLeftS Lib.trimRightS tl tr
  have : (fun x : UInt8 => ([32, 9] : Bs).contains x) = blk := funext blk_contains
  rw [this]
theorem tr_snoc (r : Bs) (c : UInt8) : tr (r ++ [c]) = if blk c = true then tr r else r ++ [c] := by
  unfold tr
  rw [List.reverse_append]
  simp only [List.reverse_cons, List.reverse_nil, List.nil_append, List.singleton_append, List.dropWhile_cons]
  split
  · rfl
  · simp
theorem bl_cons (t : ByteArray) (h : 0 < t.size) : bl t = t[0] :: bl (t.extract 1 t.size) := by
  rw [bl_extract]
  have := List.drop_eq_getElem_cons (l := bl t) (i := 0) (by rw [bl_length]; exact h)
  rw [List.drop_zero] at this
  rw [List.take_of_length_le (Nat.le_of_eq (bl_length t))]
  conv => lhs; rw [this]
  rfl
theorem bl_last (t : ByteArray) (h : 0 < t.size) : bl t = bl (t.extract 0 (t.size - 1)) ++ [t[t.size - 1]] := by
  rw [bl_extract, List.drop_zero]
  have hl : t.size - 1 < (bl t).length := by rw [bl_length]; omega
  have := List.take_succ_eq_append_getElem hl
  rw [show t.size - 1 + 1 = t.size by omega, List.take_of_length_le (Nat.le_of_eq (bl_length t))] at this
  exact this
theorem tl_blk (c : UInt8) (r : Bs) (h : blk c = true) : tl (c :: r) = tl r := by unfold tl; rw [List.dropWhile_cons, if_pos h]
theorem tl_non (c : UInt8) (r : Bs) (h : blk c = false) : tl (c :: r) = c :: r := by unfold tl; rw [List.dropWhile_cons, if_neg (by rw [h]; decide)]
set_option maxRecDepth 100000 in
set_option maxHeartbeats 2000000 in
theorem rtrim_walk (s : ByteArray) (w : World) (hs : s.size ≤ 500000) :
    Calls Tryd.prog 72 #[.string s] w fun e w' => e = .returned (.string (sb (trim (bl s)))) ∧ w = w' := by
  have htr := Lib.hid (trim_eq (bl s))
  go_enter Tryd.func72, Tryd.ntmps72
  go_wp2
  go_loop [0] (fun v0 => ∃ t : ByteArray, v0 = .string t ∧ t.size ≤ s.size ∧ tl (bl t) = tl (bl s)) (fun v0 => match v0 with | .string t => t.size | _ => 0)
  case atStart => exact ⟨s, rfl, Nat.le_refl _, rfl⟩
  case round =>
    obtain ⟨t, rfl, hts, htl⟩ := hrel
    have HT := Lib.hid htl
    clear htl
    by_cases h0 : 0 < t.size
    · have h0I : (0 : Int) < t.size := by omega
      have HC := Lib.hid (bl_cons t h0)
      obtain ⟨b, hb⟩ : ∃ b, b = blk t[0] := ⟨_, rfl⟩
      go_wp2_with fail
      refine (rblank_walk t[0] w).mono ?_
      rintro e w1 ⟨rfl, rfl⟩
      rw [← hb]
      have HB := Lib.hid hb
      clear hb
      cases b with
      | true =>
        go_wp2
        go_round
        case rel => exact ⟨_, rfl, by rw [ByteArray.size_extract]; omega, by rw [← HT.out, HC.out, tl_blk _ _ HB.out.symm]⟩
        case measure => simp only [ByteArray.size_extract]; omega
      | false =>
        have HZ := Lib.hid (show tr (bl t) = trim (bl s) by rw [htr.out, ← HT.out, HC.out, tl_non _ _ HB.out.symm])
        clear HT HC
        go_wp2
        go_loop [0] (fun v0 => ∃ u : ByteArray, v0 = .string u ∧ u.size ≤ s.size ∧ tr (bl u) = trim (bl s)) (fun v0 => match v0 with | .string t => t.size | _ => 0)
        case atStart => exact ⟨t, rfl, hts, HZ.out⟩
        case round =>
          obtain ⟨u, rfl, hus, hu⟩ := hrel
          have HU := Lib.hid hu
          clear hu
          by_cases g0 : 0 < u.size
          · have g0I : (0 : Int) < u.size := by omega
            have g1 : u.size - 1 < u.size := by omega
            have HL := Lib.hid (bl_last u g0)
            obtain ⟨b, hb⟩ : ∃ b, b = blk u[u.size - 1] := ⟨_, rfl⟩
            have ei : (((u.size : Int) - 1)).toNat = u.size - 1 := by omega
            have e0 : ((u.size - 1 : Nat) : Int) = (u.size : Int) - 1 := by omega
            go_wp2_with fail
            refine (rblank_walk u[u.size - 1] w).mono ?_
            rintro e w1 ⟨rfl, rfl⟩
            rw [← hb]
            have HB := Lib.hid hb
            clear hb
            cases b with
            | true =>
              go_wp2
              go_round
              case rel => exact ⟨_, rfl, by rw [ByteArray.size_extract]; omega, by rw [← HU.out]; conv => rhs; rw [HL.out, tr_snoc, if_pos HB.out.symm]⟩
              case measure => simp only [ByteArray.size_extract]; omega
            | false =>
              go_wp2
              go_ret
              exact ⟨by rw [← HU.out, HL.out, tr_snoc, if_neg (by rw [← HB.out]; decide), ← HL.out, sb_bl]; rfl, rfl⟩
          · have g0I : ¬ (0 : Int) < u.size := by omega
            have eu : bl u = [] := List.eq_nil_of_length_eq_zero (by rw [bl_length]; omega)
            have EU := Lib.hid eu
            clear eu
            go_wp2
            go_ret
            exact ⟨by rw [← HU.out]; conv => rhs; rw [EU.out]
                      rw [show tr [] = bl u from EU.out.symm, sb_bl]; rfl, rfl⟩
    · have h0I : ¬ (0 : Int) < t.size := by omega
      have HZ := Lib.hid (show tr (bl t) = trim (bl s) by
        have e : bl t = [] := List.eq_nil_of_length_eq_zero (by rw [bl_length]; omega)
        rw [htr.out, ← HT.out, e]; rfl)
      clear HT
      go_wp2
      go_loop [0] (fun v0 => ∃ u : ByteArray, v0 = .string u ∧ u.size ≤ s.size ∧ tr (bl u) = trim (bl s)) (fun v0 => match v0 with | .string t => t.size | _ => 0)
      case atStart => exact ⟨t, rfl, hts, HZ.out⟩
      case round =>
        obtain ⟨u, rfl, hus, hu⟩ := hrel
        have HU := Lib.hid hu
        clear hu
        by_cases g0 : 0 < u.size
        · have g0I : (0 : Int) < u.size := by omega
          have g1 : u.size - 1 < u.size := by omega
          have HL := Lib.hid (bl_last u g0)
          obtain ⟨b, hb⟩ : ∃ b, b = blk u[u.size - 1] := ⟨_, rfl⟩
          have ei : (((u.size : Int) - 1)).toNat = u.size - 1 := by omega
          have e0 : ((u.size - 1 : Nat) : Int) = (u.size : Int) - 1 := by omega
          go_wp2_with fail
          refine (rblank_walk u[u.size - 1] w).mono ?_
          rintro e w1 ⟨rfl, rfl⟩
          rw [← hb]
          have HB := Lib.hid hb
          clear hb
          cases b with
          | true =>
            go_wp2
            go_round
            case rel => exact ⟨_, rfl, by rw [ByteArray.size_extract]; omega, by rw [← HU.out]; conv => rhs; rw [HL.out, tr_snoc, if_pos HB.out.symm]⟩
            case measure => simp only [ByteArray.size_extract]; omega
          | false =>
            go_wp2
            go_ret
            exact ⟨by rw [← HU.out, HL.out, tr_snoc, if_neg (by rw [← HB.out]; decide), ← HL.out, sb_bl]; rfl, rfl⟩
        · have g0I : ¬ (0 : Int) < u.size := by omega
          have eu : bl u = [] := List.eq_nil_of_length_eq_zero (by rw [bl_length]; omega)
          have EU := Lib.hid eu
          clear eu
          go_wp2
          go_ret
          exact ⟨by rw [← HU.out]; conv => rhs; rw [EU.out]
                    rw [show tr [] = bl u from EU.out.symm, sb_bl]; rfl, rfl⟩
end Go.Proofs.YtkfiafclddnaoaaDoor.Tk
