/- Plain: a number's text in base sixteen. -/
import Derived.WalkKit
set_option linter.unusedVariables false
set_option linter.unusedSimpArgs false
namespace Go.Proofs.YtkfiafclddnaoaaDoor.Fm

def hexc (d : Nat) : Nat := if d < 10 then 48 + d else 87 + d
def hexl (n : Nat) : List Int := if h : n < 16 then [(hexc n : Int)] else hexl (n / 16) ++ [(hexc (n % 16) : Int)]
termination_by n
decreasing_by omega
theorem hexl_small {n : Nat} (h : n < 16) : hexl n = [(hexc n : Int)] := by rw [hexl, dif_pos h]
theorem hexl_step {n : Nat} (h : 16 ≤ n) : hexl n = hexl (n / 16) ++ [(hexc (n % 16) : Int)] := by rw [hexl, dif_neg (by omega)]
theorem hexl_len (n k : Nat) (hk : 0 < k) (h : n < 16 ^ k) : (hexl n).length ≤ k ∧ 0 < (hexl n).length := by
  induction k generalizing n with
  | zero => omega
  | succ k ih =>
    by_cases hn : n < 16
    · rw [hexl_small hn]; simp
    · rw [hexl_step (by omega)]
      rcases Nat.eq_zero_or_pos k with rfl | hk0
      · simp at h; omega
      · have := ih (n / 16) hk0 (by rw [Nat.pow_succ] at h; omega)
        simp; omega

/-- What the loop holds: u is still to be told, k is the place. -/
def HexInv (U u k : Nat) (xs : List Int) : Prop := xs.length = 65 ∧ 50 ≤ k ∧ k ≤ 65 ∧ u < 16 ^ (k - 49) ∧ hexl U = hexl u ++ xs.drop k
theorem HexInv.start (U : Nat) (h : U < 18446744073709551616) : HexInv U U 65 (List.replicate 65 0) :=
  ⟨by simp, by omega, by omega, by simpa using h, by simp⟩
theorem drop_set_pred (xs : List Int) (k : Nat) (v : Int) (h0 : 0 < k) (h : k ≤ xs.length) : (xs.set (k - 1) v).drop (k - 1) = v :: xs.drop k := by
  rw [List.drop_eq_getElem_cons (by simp; omega)]
  simp
  rw [show k - 1 + 1 = k by omega, List.drop_set_of_lt (by omega)]
theorem HexInv.step {U u k : Nat} {xs : List Int} (h : HexInv U u k xs) (hu : 16 ≤ u) : 51 ≤ k ∧ HexInv U (u / 16) (k - 1) (xs.set (k - 1) (hexc (u % 16) : Int)) := by
  obtain ⟨hl, h1, h2, h3, h4⟩ := h
  have hk : 51 ≤ k := by
    rcases Nat.lt_or_ge k 51 with hk | hk
    · have : k - 49 = 1 := by omega
      rw [this] at h3; simp at h3; omega
    · exact hk
  refine ⟨hk, by simpa using hl, by omega, by omega, ?_, ?_⟩
  · have : k - 49 = (k - 1 - 49) + 1 := by omega
    rw [this, Nat.pow_succ] at h3; omega
  · rw [drop_set_pred _ _ _ (by omega) (by omega), h4, hexl_step hu, List.append_assoc]; rfl
theorem HexInv.last {U u k : Nat} {xs : List Int} (h : HexInv U u k xs) (hu : u < 16) : (xs.set (k - 1) (hexc u : Int)).drop (k - 1) = hexl U := by
  obtain ⟨hl, h1, h2, h3, h4⟩ := h
  rw [drop_set_pred _ _ _ (by omega) (by omega), h4, hexl_small hu]; rfl
theorem HexInv.bound {U u k : Nat} {xs : List Int} (h : HexInv U u k xs) : u < 18446744073709551616 := by
  obtain ⟨hl, h1, h2, h3, h4⟩ := h
  have : 16 ^ (k - 49) ≤ 16 ^ 16 := Nat.pow_le_pow_right (by omega) (by omega)
  omega
theorem and15 (u : Nat) : u &&& 15 = u % 16 := Nat.and_two_pow_sub_one_eq_mod u 4
/-- The reference's loop: n is still to be told in front of suf. -/
def RefInv (N n : Nat) (suf : List Int) : Prop := n ≤ N ∧ (0 < n → hexl N = hexl n ++ suf) ∧ (n = 0 → hexl N = suf)
theorem RefInv.start {N : Nat} (h : 0 < N) : RefInv N N [] := ⟨Nat.le_refl _, fun _ => by simp, fun h0 => by omega⟩
theorem RefInv.step {N n : Nat} {suf : List Int} (h : RefInv N n suf) (hn : 0 < n) : RefInv N (n / 16) ((hexc (n % 16) : Int) :: suf) := by
  obtain ⟨h1, h2, h3⟩ := h
  refine ⟨by omega, fun h0 => ?_, fun h0 => ?_⟩
  · rw [h2 hn, hexl_step (by omega)]; simp
  · rw [h2 hn, hexl_small (by omega)]; simp; congr 2; omega
end Go.Proofs.YtkfiafclddnaoaaDoor.Fm
