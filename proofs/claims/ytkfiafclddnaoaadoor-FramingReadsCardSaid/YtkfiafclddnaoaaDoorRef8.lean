/- The reference's fields' values and fields' lines. -/
import Derived.Test.YtkfiafclddnaoaaDoorRef7
import Derived.Test.YtkfiafclddnaoaaDoorPrs
set_option linter.unusedVariables false
set_option linter.unusedSimpArgs false
namespace Go.Proofs.YtkfiafclddnaoaaDoor.Tk
open Go.RowKit Go.Proofs.YtkfiafclddnaoaaDoorW.PrintWords Go.Proofs.YtkfiafclddnaoaaDoorW.PrintLast Go.Proofs.YtkfiafclddnaoaaDoor.Rw

def ends (l : Bs) : Bool := l.isEmpty || (!blk (l.headD 0) && !blk (l.getLastD 0))
def rVal (l : Bs) : Bool := l.all valb && ends l
theorem blk_nat (c : UInt8) : blk c = (c.toNat == 32 || c.toNat == 9) := by
  have key : ∀ n : Fin 256, blk (UInt8.ofNat n.1) = (n.1 == 32 || n.1 == 9) := by decide +kernel
  have := key ⟨c.toNat, u8_lt c⟩
  simpa only [UInt8.ofNat_toNat] using this
theorem drop_head (p : UInt8 → Bool) : ∀ l : Bs, ∀ c, (l.dropWhile p).head? = some c → p c = false
  | [], c, h => by cases h
  | a :: r, c, h => by
    rw [List.dropWhile_cons] at h
    split at h
    · exact drop_head p r c h
    · rename_i ha
      simp only [List.head?_cons, Option.some.injEq] at h
      subst h
      simpa using ha
theorem ends_trim (l : Bs) : ends (trim l) = true := by
  unfold ends
  rw [trim_eq]
  cases hx : tr (tl l) with
  | nil => rfl
  | cons c r =>
    have h1 : blk c = false := by
      cases ht : tl l with
      | nil => rw [ht] at hx; cases hx
      | cons d q =>
        have hd : blk d = false := drop_head blk l d (by rw [show l.dropWhile blk = tl l from rfl, ht]; rfl)
        rw [ht, tr_cons, if_neg (by rw [hd]; simp)] at hx
        injection hx with e1 _
        rw [← e1]; exact hd
    have h2 : blk ((c :: r).getLastD 0) = false := by
      have h3 : (tr (tl l)).getLast? = ((tl l).reverse.dropWhile blk).head? := by unfold tr; rw [List.getLast?_reverse]
      rw [hx] at h3
      have h4 : (c :: r).getLast? = some ((c :: r).getLastD 0) := by
        rw [List.getLast?_eq_some_getLast (by simp), List.getLastD_eq_getLast?, List.getLast?_eq_some_getLast (by simp)]
        rfl
      rw [h4] at h3
      exact drop_head blk _ _ h3.symm
    simp only [List.headD_cons, h1, h2]
    rfl
theorem trim_trim (l : Bs) : trim (trim l) = trim l := by
  have he := ends_trim l
  generalize trim l = x at he
  rw [trim_eq]
  cases hx : x with
  | nil => rfl
  | cons c r =>
    subst hx
    unfold ends at he
    simp only [List.isEmpty_cons, List.headD_cons, Bool.false_or, Bool.and_eq_true, Bool.not_eq_true'] at he
    rw [tl_non _ _ he.1]
    unfold tr
    have h4 : (c :: r).getLast? = some ((c :: r).getLastD 0) := by
      rw [List.getLast?_eq_some_getLast (by simp), List.getLastD_eq_getLast?, List.getLast?_eq_some_getLast (by simp)]
      rfl
    rw [← List.head?_reverse] at h4
    cases hr : (c :: r).reverse with
    | nil => simp at hr
    | cons d q =>
      rw [hr] at h4
      simp only [List.head?_cons, Option.some.injEq] at h4
      rw [List.dropWhile_cons, if_neg (by rw [h4, he.2]; simp), ← hr, List.reverse_reverse]
theorem rVal_trim (l : Bs) : rVal (trim l) = isVal (trim l) := by
  unfold rVal isVal
  rw [ends_trim, trim_trim]
  simp
set_option maxRecDepth 100000 in
set_option maxHeartbeats 1000000 in
theorem rvalue_walk (s : ByteArray) (w : World) (hs : s.size ≤ 500000) :
    Calls Tryd.prog 73 #[.string s] w fun e w' => e = .returned (.bool (rVal (bl s))) ∧ w = w' := by
  go_enter Tryd.func73, Tryd.ntmps73
  go_wp2
  go_loop [3] (fun v3 => ∃ k : Nat, k ≤ s.size ∧ v3 = .int .i64 k ∧ ((bl s).take k).all valb = true) (fun v3 => s.size - (intOf v3).toNat)
  case atStart => exact ⟨0, Nat.zero_le _, rfl, by simp⟩
  case round =>
    obtain ⟨k, hk, rfl, hA⟩ := hrel
    have HA := Lib.hid hA
    clear hA
    by_cases hlt : k < s.size
    · have hltI : (k : Int) < s.size := by omega
      have HX := Lib.hid (bl_at s k hlt)
      have hx256 := u8_lt s[k]
      obtain ⟨b, hb⟩ : ∃ b, b = blk s[k] := ⟨_, rfl⟩
      have hv : valb s[k] = (blk s[k] || (decide (32 < s[k].toNat) && !(s[k].toNat == 127))) := by rw [blk_nat]; rfl
      rw [← hb] at hv
      have HB := Lib.hid hb
      clear hb
      go_wp2_with fail
      refine (rblank_walk s[k] w).mono ?_
      rw [← HB.out]
      rintro e w1 ⟨rfl, rfl⟩
      cases b with
      | true =>
        have HV := Lib.hid (show valb s[k] = true by rw [hv]; rfl)
        clear hv
        go_wp2
        go_round
        case rel => exact ⟨k + 1, by omega, by go_num, by rw [all_snoc valb _ _ _ HX.out, HA.out, HV.out]; rfl⟩
        case measure => simp [intOf]; omega
      | false =>
        rw [Bool.false_or] at hv
        rcases (show s[k].toNat < 33 ∨ (33 ≤ s[k].toNat ∧ s[k].toNat = 127) ∨ (33 ≤ s[k].toNat ∧ s[k].toNat ≠ 127) by omega) with h1 | ⟨h1, h2⟩ | ⟨h1, h2⟩
        · have HV := Lib.hid (show rVal (bl s) = false by
            unfold rVal
            rw [all_stop valb _ _ _ HX.out (by rw [hv]; simp; omega)]; rfl)
          have h1I : (s[k].toNat : Int) < 33 := by omega
          clear hv
          go_wp2
          go_ret
          exact ⟨by rw [HV.out]; rfl, rfl⟩
        · have HV := Lib.hid (show rVal (bl s) = false by
            unfold rVal
            rw [all_stop valb _ _ _ HX.out (by rw [hv]; simp; omega)]; rfl)
          have h1I : ¬ (s[k].toNat : Int) < 33 := by omega
          have e127 : ((s[k].toNat : Int) == 127) = true := by rw [h2]; rfl
          clear hv h2
          go_wp2
          go_ret
          exact ⟨by rw [HV.out]; rfl, rfl⟩
        · have HV := Lib.hid (show valb s[k] = true by rw [hv]; simp; omega)
          have h1I : ¬ (s[k].toNat : Int) < 33 := by omega
          have e127 : ((s[k].toNat : Int) == 127) = false := by simp; omega
          clear hv h2
          go_wp2
          go_round
          case rel => exact ⟨k + 1, by omega, by go_num, by rw [all_snoc valb _ _ _ HX.out, HA.out, HV.out]; rfl⟩
          case measure => simp [intOf]; omega
    · have hA := HA.out
      rw [show (bl s).take k = bl s from List.take_of_length_le (by rw [bl_length]; omega)] at hA
      have hv : rVal (bl s) = ends (bl s) := by unfold rVal; rw [hA]; rfl
      have HV := Lib.hid hv
      have hkI : ¬ (k : Int) < s.size := by omega
      clear hA hv HA
      by_cases h0 : s.size = 0
      · have hb0 : bl s = [] := List.eq_nil_of_length_eq_zero (by rw [bl_length]; exact h0)
        have hne : s.toList.isEmpty = true := by rw [toList_bl, hb0]; rfl
        have hne' : s.toList = [] := by rw [toList_bl, hb0]
        have HR := Lib.hid (show rVal (bl s) = true by rw [HV.out, hb0]; rfl)
        clear hb0 h0
        go_wp2
        go_ret
        exact ⟨by rw [HR.out]; rfl, rfl⟩
      · have hb0 : bl s ≠ [] := fun h => h0 (by rw [← bl_length, h]; rfl)
        have hne : s.toList.isEmpty = false := by rw [toList_bl]; exact List.isEmpty_eq_false_iff.2 hb0
        have hne' : ¬ s.toList = [] := by rw [toList_bl]; exact hb0
        have hpos : 0 < s.size := by omega
        have hposI : (0 : Int) < s.size := by omega
        have h1 : (bl s).headD 0 = s[0] := by
          rw [List.headD_eq_head?_getD, List.head?_eq_getElem?, bl_at s 0 hpos]; rfl
        have h2 : (bl s).getLastD 0 = s[s.size - 1] := by
          rw [List.getLastD_eq_getLast?, List.getLast?_eq_getElem?, bl_length, bl_at s (s.size - 1) (by omega)]; rfl
        have hv : rVal (bl s) = (!blk s[0] && !blk s[s.size - 1]) := by
          rw [HV.out]
          unfold ends
          rw [List.isEmpty_eq_false_iff.2 hb0, h1, h2]; rfl
        have HR := Lib.hid hv
        have hix : ((s.size : Int) - 1).toNat = s.size - 1 := by omega
        clear hb0 h0 h1 h2 hv HV
        obtain ⟨b, hb⟩ : ∃ b, b = blk s[0] := ⟨_, rfl⟩
        have HB := Lib.hid hb
        clear hb
        go_wp2_with fail
        refine (rblank_walk s[0] w).mono ?_
        rw [← HB.out]
        rintro e w1 ⟨rfl, rfl⟩
        cases b with
        | true =>
          go_wp2
          go_ret
          exact ⟨by rw [HR.out, ← HB.out]; rfl, rfl⟩
        | false =>
          go_wp2_with fail
          refine (rblank_walk s[s.size - 1] w).mono ?_
          rintro e w1 ⟨rfl, rfl⟩
          go_wp2
          go_ret
          exact ⟨by rw [HR.out, ← HB.out]; rfl, rfl⟩
end Go.Proofs.YtkfiafclddnaoaaDoor.Tk
