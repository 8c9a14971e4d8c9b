/- Walks: the reference's numbers. -/
import Derived.Test.YtkfiafclddnaoaaDoorRef3
set_option linter.unusedVariables false
set_option linter.unusedSimpArgs false
namespace Go.Proofs.YtkfiafclddnaoaaDoor.Tk
open Go.RowKit Go.Proofs.YtkfiafclddnaoaaDoorW.PrintWords Go.Proofs.YtkfiafclddnaoaaDoorW.PrintLast Go.Proofs.YtkfiafclddnaoaaDoor.Rw

set_option maxRecDepth 100000 in
set_option maxHeartbeats 1000000 in
theorem rnumber_walk (s : ByteArray) (most : Nat) (hm9 : 9 ≤ most) (hm : most ≤ 1099511627776) (w : World) (hs : s.size ≤ 500000) :
    Calls Tryd.prog 61 #[.string s, .int .i64 most] w (NumPost most (bl s) w) := by
  have hm0 : ¬ (most : Int) < 0 := by omega
  by_cases h : s.size = 0
  · have ht : number most (bl s) = (0, false) := by rw [List.eq_nil_of_length_eq_zero (show (bl s).length = 0 by rw [bl_length]; exact h)]; rfl
    have HT := Lib.hid ht
    have hI : ((s.size : Int) == 0) = true := by rw [h]; rfl
    have hI' : (s.size : Int) = 0 := by omega
    clear ht
    go_enter Tryd.func61, Tryd.ntmps61
    go_wp2
    go_ret2
    exact ⟨by rw [HT.out]; rfl, Below.refl _ _⟩
  · have hne : (bl s).isEmpty = false := List.isEmpty_eq_false_iff.2 (fun e => h (by rw [← bl_length, e]; rfl))
    have HNE := Lib.hid hne
    have hI : ((s.size : Int) == 0) = false := by simpa using h
    have hI' : ¬ (s.size : Int) = 0 := by omega
    clear hne
    go_enter Tryd.func61, Tryd.ntmps61
    go_wp2
    go_loop [7] (fun v7 => ∃ k : Nat, k ≤ s.size ∧ v7 = .int .i64 k ∧ ((bl s).take k).all dig = true) (fun v7 => s.size - (intOf v7).toNat)
    case atStart => exact ⟨0, Nat.zero_le _, rfl, by simp⟩
    case round =>
      obtain ⟨k, hk, rfl, hA⟩ := hrel
      have HA := Lib.hid hA
      clear hA
      by_cases hlt : k < s.size
      · have HX := Lib.hid (bl_at s k hlt)
        by_cases hd : 48 ≤ s[k].toNat ∧ s[k].toNat ≤ 57
        · have HD := Lib.hid (show dig s[k] = true by unfold dig; simp [hd.1, hd.2])
          obtain ⟨d1, d2⟩ := hd
          go_wp2
          go_round
          case rel => exact ⟨k + 1, by omega, by go_num, by rw [all_snoc dig _ _ _ HX.out, HA.out, HD.out]; rfl⟩
          case measure => simp [intOf]; omega
        · have hd0 : dig s[k] = false := by
            unfold dig
            rcases (show s[k].toNat < 48 ∨ 57 < s[k].toNat by omega) with h | h
            · have : ¬ 48 ≤ s[k].toNat := by omega
              simp [this]
            · have : ¬ s[k].toNat ≤ 57 := by omega
              simp [this]
          have ht : number most (bl s) = (0, false) := by
            unfold number
            rw [all_stop dig _ _ _ HX.out hd0, HNE.out]; rfl
          have HT := Lib.hid ht
          clear ht hd0
          rcases (show s[k].toNat < 48 ∨ (48 ≤ s[k].toNat ∧ 57 < s[k].toNat) by omega) with h1 | ⟨h1, h2⟩
          all_goals
            clear hd
            go_wp2
            go_ret2
            exact ⟨by rw [HT.out]; rfl, Below.refl _ _⟩
      · obtain rfl : k = s.size := by omega
        have e : (bl s).take s.size = bl s := by rw [← bl_length, List.take_length]
        rw [e] at HA
        have ht : number most (bl s) = numGo most 0 (bl s) := by unfold number; rw [HNE.out, HA.out]; rfl
        have HT := Lib.hid ht
        clear ht e hk hlt
        go_wp2
        go_loop [6, 8] (fun v6 v8 => ∃ k n : Nat, k ≤ s.size ∧ v8 = .int .i64 k ∧ v6 = .int .i64 n ∧ n ≤ most ∧ numGo most n ((bl s).drop k) = numGo most 0 (bl s)) (fun _ v8 => s.size - (intOf v8).toNat)
        case atStart => exact ⟨0, 0, Nat.zero_le _, rfl, rfl, Nat.zero_le _, rfl⟩
        case round =>
          obtain ⟨k, n, hk, rfl, rfl, hnm, hrel⟩ := hrel
          by_cases hlt : k < s.size
          · obtain ⟨c, hc, hc1, hc2, hover, hon⟩ := num_round most (bl s) k n _ (by rw [bl_length]; exact hlt) HA.out hrel
            rw [bl_at s k hlt] at hc
            injection hc with hc
            subst hc
            have hwr : IntKind.u8.wrap ((s[k].toNat : Int) - 48) = ((s[k].toNat - 48 : Nat) : Int) := by rw [IntKind.wrap_u8]; omega
            obtain ⟨d, hd⟩ : ∃ d, d = s[k].toNat - 48 := ⟨_, rfl⟩
            rw [← hd] at hwr hover hon
            have hd9 : d ≤ 9 := by omega
            have HOV := Lib.hid hover
            have HON := Lib.hid hon
            have HR := Lib.hid hrel
            clear hd hover hon hrel
            have hI : ¬ (most : Int) < d := by omega
            have hI0 : (d : Int) ≤ most := by omega
            have hI1 : (0 : Int) ≤ most - d := by omega
            by_cases hc2 : (most - d) / 10 < n
            · have hI2 : ((most : Int) - d) / 10 < n := by omega
              have hr := HOV.out (.inr hc2)
              have HRR := Lib.hid hr
              clear hr hc2
              go_wp2
              go_ret2
              exact ⟨by rw [HT.out, HRR.out]; rfl, Below.refl _ _⟩
            · have hI2 : ¬ ((most : Int) - d) / 10 < n := by omega
              obtain ⟨hr, hle⟩ := HON.out (by omega)
              have HRR := Lib.hid hr
              clear hr hc2
              go_wp2
              go_round
              case rel => exact ⟨k + 1, 10 * n + d, by omega, by go_num, by go_num, hle, HRR.out⟩
              case measure => simp [intOf]; omega
          · obtain rfl : k = s.size := by omega
            have hd0 : (bl s).drop s.size = [] := by rw [← bl_length, List.drop_length]
            have hr : numGo most 0 (bl s) = (n, true) := by rw [← hrel, hd0]; rfl
            have HRR := Lib.hid hr
            clear hr hrel hd0
            go_wp2
            go_ret2
            exact ⟨by rw [HT.out, HRR.out]; rfl, Below.refl _ _⟩
end Go.Proofs.YtkfiafclddnaoaaDoor.Tk
