/- Walks: tokens, numbers, trimmed texts. -/
import Derived.Test.YtkfiafclddnaoaaDoorTok
set_option linter.unusedVariables false
set_option linter.unusedSimpArgs false
namespace Go.Proofs.YtkfiafclddnaoaaDoor.Tk
open Go.RowKit Go.Proofs.YtkfiafclddnaoaaDoorW.PrintWords Go.Proofs.YtkfiafclddnaoaaDoorW.PrintLast Go.Proofs.YtkfiafclddnaoaaDoor.Rw

set_option maxRecDepth 100000 in
set_option maxHeartbeats 1000000 in
theorem inToken_walk (c : UInt8) (w : World) : Calls Tryd.prog 85 #[.int .u8 (c.toNat : Int)] w fun e w' => e = .returned (.bool (tch c)) ∧ Below w.heap.size w w' := by
  have hlow := or32b c
  have hl256 := u8_lt (c ||| 32)
  have hc256 := u8_lt c
  have ht : tch c = ((decide (97 ≤ (c ||| 32).toNat) && decide ((c ||| 32).toNat ≤ 122)) || (decide (48 ≤ c.toNat) && decide (c.toNat ≤ 57)) || marksL.contains c) := rfl
  generalize hz : tch c = z at ht ⊢
  generalize hlw : (c ||| 32).toNat = lw at hlow ht hl256
  clear hz hlw
  by_cases h1 : 97 ≤ lw ∧ lw ≤ 122
  · obtain ⟨h1a, h1b⟩ := h1
    have hz : z = true := by rw [ht]; simp [h1a, h1b]
    subst hz
    clear ht
    go_enter Tryd.func85, Tryd.ntmps85
    go_wp2
    go_ret
    exact ⟨rfl, Below.refl _ _⟩
  · by_cases h2 : 48 ≤ c.toNat ∧ c.toNat ≤ 57
    · obtain ⟨h2a, h2b⟩ := h2
      have hz : z = true := by rw [ht]; simp [h2a, h2b]
      subst hz
      clear ht
      rcases (show lw < 97 ∨ 122 < lw by omega) with h1 | h1
      all_goals
        go_enter Tryd.func85, Tryd.ntmps85
        go_wp2
        go_ret
        exact ⟨rfl, Below.refl _ _⟩
    · have hz : z = marksL.contains c := by
        rw [ht]
        have e1 : (decide (97 ≤ lw) && decide (lw ≤ 122)) = false := by simp; omega
        have e2 : (decide (48 ≤ c.toNat) && decide (c.toNat ≤ 57)) = false := by simp; omega
        rw [e1, e2]; rfl
      have HZ := Lib.hid hz
      clear hz ht
      rcases (show lw < 97 ∨ 122 < lw by omega) with h1 | h1 <;> rcases (show c.toNat < 48 ∨ 57 < c.toNat by omega) with h2 | h2
      all_goals
        go_enter Tryd.func85, Tryd.ntmps85
        go_wp2_with (go_at_call 99; refine (marks_walk _).mono ?_; rintro e w1 ⟨rfl, hb1⟩)
        go_loop [23] (fun v23 => ∃ k : Nat, k ≤ 15 ∧ v23 = .int .i64 k ∧ (marksL.take k).contains c = false) (fun v23 => 15 - (intOf v23).toNat)
        case atStart => exact ⟨0, Nat.zero_le _, rfl, rfl⟩
        case round =>
          obtain ⟨k, hk, rfl, hN⟩ := hrel
          by_cases hlt : k < 15
          · have hm := marks_at k hlt
            have hct := contains_take marksL k hlt c
            generalize marksL[k]'hlt = m at hm hct
            have hm256 := u8_lt m
            have HN := Lib.hid hN
            have HCT := Lib.hid hct
            clear hN hct
            by_cases hmc : m = c
            · subst hmc
              have hz : z = true := by
                rw [HZ.out]
                have h1 : (marksL.take (k + 1)).contains m = true := by rw [HCT.out, HN.out]; simp
                rw [List.contains_iff_mem] at h1 ⊢
                exact List.mem_of_mem_take h1
              clear HZ
              subst hz
              go_wp2
              go_ret
              exact ⟨rfl, hb1⟩
            · have hne : ((m.toNat : Int) == (c.toNat : Int)) = false := by
                simp only [beq_eq_false_iff_ne, ne_eq]
                intro e
                exact hmc (UInt8.toNat_inj.1 (by omega))
              have hcm : (c == m) = false := by simp; exact fun e => hmc e.symm
              have HCM := Lib.hid hcm
              clear hcm hmc
              go_wp2
              go_round
              case rel => exact ⟨k + 1, by omega, by go_num, by rw [HCT.out, HN.out, HCM.out]; rfl⟩
              case measure => simp [intOf]; omega
          · obtain rfl : k = 15 := by omega
            have hz : z = false := by rw [HZ.out]; exact hN
            clear HZ hN
            subst hz
            go_wp2
            go_ret
            exact ⟨rfl, hb1⟩

theorem ret_bool {a b : Bool} (h : a = b) : Ending.returned (.bool a) = .returned (.bool b) := by rw [h]
theorem tells_inToken : Tells 85 tch := ⟨enters_ (P := Tryd.prog) Tryd.func85 (by kernel_rfl) (by kernel_rfl), inToken_walk⟩
theorem isTok_walk (s : ByteArray) (w : World) (hs : s.size ≤ 140737488355328) :
    Calls Tryd.prog 58 #[.string s] w fun e w' => e = .returned (.bool (isTok (bl s))) ∧ Below w.heap.size w w' := by
  by_cases h : s.toList = []
  · have ht : isTok (bl s) = false := by rw [toList_bl] at h; rw [h]; rfl
    have HT := Lib.hid ht
    clear ht
    go_enter Tryd.func58, Tryd.ntmps58
    go_wp2
    go_ret
    exact ⟨by rw [HT.out]; rfl, Below.refl _ _⟩
  · have ht : isTok (bl s) = (bl s).all tch := by
      unfold isTok
      rw [← toList_bl, List.isEmpty_eq_false_iff.2 h]; rfl
    have HT := Lib.hid ht
    have h' : (!s.toList.isEmpty) = true := by rw [List.isEmpty_eq_false_iff.2 h]; rfl
    clear ht
    go_enter Tryd.func58, Tryd.ntmps58
    go_wp2_with fail
    refine (all_walk _ _ tells_inToken s _ hs).mono ?_
    rintro e w1 ⟨rfl, hb1⟩
    go_wp2
    go_ret
    exact ⟨by rw [HT.out]; rfl, hb1⟩
theorem digit_walk (c : UInt8) (w : World) : Calls Tryd.prog 81 #[.int .u8 (c.toNat : Int)] w fun e w' => e = .returned (.bool (dig c)) ∧ Below w.heap.size w w' := by
  have hc256 := u8_lt c
  have hd : dig c = (decide (48 ≤ c.toNat) && decide (c.toNat ≤ 57)) := rfl
  generalize dig c = z at hd ⊢
  by_cases h1 : 48 ≤ c.toNat ∧ c.toNat ≤ 57
  · obtain ⟨h1a, h1b⟩ := h1
    have hz : z = true := by rw [hd]; simp [h1a, h1b]
    clear hd
    subst hz
    go_enter Tryd.func81, Tryd.ntmps81
    go_wp2
    go_ret
    exact ⟨by first | rfl | exact ret_bool (by simp; omega), Below.refl _ _⟩
  · have hz : z = false := by rw [hd]; simp; omega
    clear hd
    subst hz
    rcases (show c.toNat < 48 ∨ 57 < c.toNat by omega) with h2 | h2
    all_goals
      go_enter Tryd.func81, Tryd.ntmps81
      go_wp2
      go_ret
      exact ⟨by first | rfl | exact ret_bool (by simp; omega), Below.refl _ _⟩
theorem tells_digit : Tells 81 dig := ⟨enters_ (P := Tryd.prog) Tryd.func81 (by kernel_rfl) (by kernel_rfl), digit_walk⟩

def NumPost (most : Nat) (l : Bs) (w : World) (e : Ending) (w' : World) : Prop := e = .returned (.tuple #[.int .i64 (number most l).1, .bool (number most l).2]) ∧ Below w.heap.size w w'
set_option maxRecDepth 100000 in
set_option maxHeartbeats 1000000 in
theorem number_walk (s : ByteArray) (most : Nat) (hm : most ≤ 1099511627776) (w : World) (hs : s.size ≤ 140737488355328) :
    Calls Tryd.prog 55 #[.string s, .int .i64 most] w (NumPost most (bl s) w) := by
  by_cases h : s.toList = []
  · have ht : number most (bl s) = (0, false) := by rw [toList_bl] at h; rw [h]; rfl
    have HT := Lib.hid ht
    clear ht
    go_enter Tryd.func55, Tryd.ntmps55
    go_wp2
    go_ret2
    exact ⟨by rw [HT.out]; rfl, Below.refl _ _⟩
  · have h' : (!s.toList.isEmpty) = true := by rw [List.isEmpty_eq_false_iff.2 h]; rfl
    have hne : (bl s).isEmpty = false := by rw [← toList_bl]; exact List.isEmpty_eq_false_iff.2 h
    have HNE := Lib.hid hne
    clear hne
    go_enter Tryd.func55, Tryd.ntmps55
    go_wp2_with fail
    refine (all_walk _ _ tells_digit s _ hs).mono ?_
    rintro e w1 ⟨rfl, hb1⟩
    obtain ⟨z, hz⟩ : ∃ z, z = (bl s).all dig := ⟨_, rfl⟩
    rw [← hz]
    have HZ := Lib.hid hz
    clear hz
    cases z with
    | false =>
      have ht : number most (bl s) = (0, false) := by unfold number; rw [HNE.out, ← HZ.out]; rfl
      have HT := Lib.hid ht
      clear ht
      go_wp2
      go_ret2
      exact ⟨by rw [HT.out]; rfl, hb1⟩
    | true =>
      have ht : number most (bl s) = numGo most 0 (bl s) := by unfold number; rw [HNE.out, ← HZ.out]; rfl
      have HT := Lib.hid ht
      clear ht
      have he : s.toList.isEmpty = false := List.isEmpty_eq_false_iff.2 h
      have hm0 : (0 : Int) ≤ most := by omega
      go_wp2
      go_loop [22, 6] (fun v22 v6 => ∃ k n : Nat, k ≤ s.size ∧ v22 = .int .i64 k ∧ v6 = .int .i64 n ∧ n ≤ most ∧ numGo most n ((bl s).drop k) = numGo most 0 (bl s)) (fun v22 _ => s.size - (intOf v22).toNat)
      case atStart => exact ⟨0, 0, Nat.zero_le _, rfl, rfl, Nat.zero_le _, rfl⟩
      case round =>
        obtain ⟨k, n, hk, rfl, rfl, hnm, hrel⟩ := hrel
        by_cases hlt : k < s.size
        · obtain ⟨c, hc, hc1, hc2, hover, hon⟩ := num_round most (bl s) k n _ (by rw [bl_length]; exact hlt) HZ.out.symm hrel
          rw [bl_at s k hlt] at hc
          injection hc with hc
          subst hc
          have hwr : IntKind.u8.wrap ((s[k].toNat : Int) - 48) = ((s[k].toNat - 48 : Nat) : Int) := by rw [IntKind.wrap_u8]; omega
          obtain ⟨d, hd⟩ : ∃ d, d = s[k].toNat - 48 := ⟨_, rfl⟩
          rw [← hd] at hwr hover hon
          have hd9 : d ≤ 9 := by omega
          have HOV := Lib.hid hover
          have HON := Lib.hid hon
          have HR := Lib.hid hrel
          clear hd hover hon hrel
          by_cases hc1 : most < d
          · have hI : (most : Int) < d := by omega
            have hr := HOV.out (.inl hc1)
            have HRR := Lib.hid hr
            clear hr hc1
            go_wp2
            go_ret2
            exact ⟨by rw [HT.out, HRR.out]; rfl, hb1⟩
          · have hI : ¬ (most : Int) < d := by omega
            have hI0 : (d : Int) ≤ most := by omega
            have hI1 : (0 : Int) ≤ most - d := by omega
            by_cases hc2 : (most - d) / 10 < n
            · have hI2 : ((most : Int) - d) / 10 < n := by omega
              have hr := HOV.out (.inr hc2)
              have HRR := Lib.hid hr
              clear hr hc1 hc2
              go_wp2
              go_ret2
              exact ⟨by rw [HT.out, HRR.out]; rfl, hb1⟩
            · have hI2 : ¬ ((most : Int) - d) / 10 < n := by omega
              obtain ⟨hr, hle⟩ := HON.out (by omega)
              have HRR := Lib.hid hr
              clear hr hc1 hc2
              go_wp2
              go_round
              case rel => exact ⟨k + 1, 10 * n + d, by omega, by go_num, by go_num, hle, HRR.out⟩
              case measure => simp [intOf]; omega
        · obtain rfl : k = s.size := by omega
          have hd0 : (bl s).drop s.size = [] := by rw [← bl_length, List.drop_length]
          have hr : numGo most 0 (bl s) = (n, true) := by rw [← hrel, hd0]; rfl
          have HRR := Lib.hid hr
          clear hr hrel hd0
          go_wp2
          go_ret2
          exact ⟨by rw [HT.out, HRR.out]; rfl, hb1⟩
end Go.Proofs.YtkfiafclddnaoaaDoor.Tk
