/- Plain law: the program's decoder and the reference's go the same way. -/
import Derived.Test.YtkfiafclddnaoaaDoorRefD
set_option linter.unusedVariables false
set_option linter.unusedSimpArgs false
namespace Go.Proofs.YtkfiafclddnaoaaDoor.Tk
open Go.RowKit Go.Proofs.YtkfiafclddnaoaaDoorW.PrintWords Go.Proofs.YtkfiafclddnaoaaDoorW.PrintLast Go.Proofs.YtkfiafclddnaoaaDoor.Rw

def stepR (y : RS) (c : UInt8) : RS × Bs :=
  if y.kind = 3 then (if 1048576 ≤ y.sum then ({ y with sum := y.sum + 1, e := 3 }, []) else ({ y with sum := y.sum + 1 }, [c]))
  else if y.kind = 1 ∨ y.part = 1 then
    (if y.left - 1 = 0 then (if y.kind = 1 then { y with left := y.left - 1, done := true } else { y with left := y.left - 1, part := 2 }) else { y with left := y.left - 1 }, [c])
  else if 1025 ≤ y.own.length then ({ y with own := y.own ++ [c], e := 3 }, [])
  else if c = 10 then (endedR { y with own := [] } (Lib.trimSuffix y.own [13]), []) else ({ y with own := y.own ++ [c] }, [])
def RelY (d : DS) (y : RS) : Prop :=
  y.done = d.done ∧ y.e = d.e ∧
    ((y.kind = 2 ∧ y.part = d.st ∧ d.st ≤ 3 ∧ y.own = d.own ∧ y.sum = d.sum ∧ (d.st = 1 → y.left = d.left)) ∨
      (y.kind ≤ 1 ∧ d.st = 4 ∧ y.left = d.left ∧ y.part = 0 ∧ (y.kind = 0 → d.done = true)) ∨ (y.kind = 3 ∧ d.st = 5 ∧ (d.e = 0 → y.sum = d.sum) ∧ y.part = 0))
theorem new_rel (kind n : Int) (h : newBad kind n = 0) : RelY (newD kind n) (newR kind n) := by
  unfold newBad at h
  split at h
  · cases h
  · split at h
    · cases h
    · rcases (show (kind = 0 ∧ n = 0) ∨ (kind = 1 ∧ n = 0) ∨ (kind = 1 ∧ 0 < n) ∨ (kind = 2 ∧ n = 0) ∨ (kind = 3 ∧ n = 0) by omega) with ⟨rfl, rfl⟩ | ⟨rfl, rfl⟩ | ⟨rfl, h1⟩ | ⟨rfl, rfl⟩ | ⟨rfl, rfl⟩
      · exact ⟨rfl, rfl, .inr (.inl ⟨by decide, rfl, rfl, rfl, fun _ => rfl⟩)⟩
      · exact ⟨rfl, rfl, .inr (.inl ⟨by decide, rfl, rfl, rfl, fun _ => rfl⟩)⟩
      · refine ⟨?_, rfl, .inr (.inl ⟨by simp [newR], rfl, rfl, rfl, fun h => by cases h⟩)⟩
        simp [newD, newR]
      · exact ⟨rfl, rfl, .inl ⟨rfl, rfl, by decide, rfl, rfl, fun h => by cases h⟩⟩
      · exact ⟨rfl, rfl, .inr (.inr ⟨rfl, rfl, fun _ => rfl, rfl⟩)⟩
theorem step_rel (d : DS) (y : RS) (c : UInt8) (h : RelY d y) (hk : DOk d) (hs : stops d = false) : RelY (stepD d c) (stepR y c).1 ∧ (stepD d c).out = d.out ++ (stepR y c).2 := by
  have hs' : d.done = false ∧ d.e = 0 := by
    unfold stops at hs
    simpa using hs
  obtain ⟨hdn, he⟩ := hs'
  have hown := hk.own he
  have hsum := hk.sum
  obtain ⟨r1, r2, r3⟩ := h
  obtain ⟨st, left, sum, own, out, done, e⟩ := d
  obtain ⟨kind, left', sum', part, own', done', e'⟩ := y
  simp only at hdn he r1 r2 r3 hown hsum
  subst hdn he r1 r2
  rcases r3 with ⟨rfl, rfl, q3, rfl, rfl, q6⟩ | ⟨q1, rfl, rfl, rfl, q5⟩ | ⟨rfl, rfl, q3, rfl⟩
  · rcases (show part = 1 ∨ part = 0 ∨ part = 2 ∨ part = 3 by omega) with rfl | rfl | rfl | rfl
    · obtain rfl := q6 rfl
      by_cases h0 : left' - 1 = 0
      · simp [stepR, stepD, dataF, h0, RelY]
      · simp [stepR, stepD, dataF, h0, RelY]
    · by_cases hl : 1025 ≤ own'.length
      · simp [stepR, stepD, sizeD, lineF, hl, RelY]
      · by_cases hc : c = 10
        · simp only [stepR, stepD, sizeD, lineF, hl, hc, if_true, if_false, endedR]
          generalize Lib.trimSuffix own' [13] = s
          cases sizeF s with
          | none => simp [RelY]
          | some n =>
            by_cases h1 : 1048576 - sum' < n
            · have h2 : 1048576 < sum' + n := by omega
              simp [h1, h2, RelY]
            · have h2 : ¬ 1048576 < sum' + n := by omega
              by_cases h0 : n = 0
              · subst h0
                have h3 : ¬ 1048576 < sum' := by omega
                simp [h3, RelY]
              · simp [h1, h2, h0, RelY]
        · simp [stepR, stepD, sizeD, lineF, hl, hc, RelY]
    · by_cases hl : 1025 ≤ own'.length
      · simp [stepR, stepD, behindD, lineF, hl, RelY]
      · by_cases hc : c = 10
        · simp only [stepR, stepD, behindD, lineF, hl, hc, if_true, if_false, endedR]
          generalize Lib.trimSuffix own' [13] = s
          by_cases h0 : s = [] <;> simp [h0, RelY]
        · simp [stepR, stepD, behindD, lineF, hl, hc, RelY]
    · by_cases hl : 1025 ≤ own'.length
      · simp [stepR, stepD, fieldsD, lineF, hl, RelY]
      · by_cases hc : c = 10
        · simp only [stepR, stepD, fieldsD, lineF, hl, hc, if_true, if_false, endedR]
          generalize Lib.trimSuffix own' [13] = s
          by_cases h0 : s = [] <;> simp [h0, RelY]
        · simp [stepR, stepD, fieldsD, lineF, hl, hc, RelY]
  · obtain rfl : kind = 1 := by
      by_cases h0 : kind = 0
      · cases q5 h0
      · omega
    by_cases h0 : left' - 1 = 0
    · simp [stepR, stepD, lengthF, h0, RelY]
    · simp [stepR, stepD, lengthF, h0, RelY]
  · obtain rfl := q3 rfl
    by_cases h0 : 1048576 ≤ sum'
    · have h1 : sum' = 1048576 := by omega
      simp [stepR, stepD, restF, h1, RelY]
    · have h1 : ¬ sum' = 1048576 := by omega
      simp [stepR, stepD, restF, h0, h1, RelY]
theorem end_rel (d : DS) (y : RS) (h : RelY d y) : RelY (endF d) (endR y) := by
  obtain ⟨r1, r2, r3⟩ := h
  have hst : stopsR y = stops d := by unfold stopsR stops; rw [r1, r2]
  unfold endF endR
  rw [hst]
  by_cases hs : stops d = true
  · rw [if_pos hs, if_pos hs]
    exact ⟨r1, r2, r3⟩
  · rw [if_neg hs, if_neg hs]
    rcases r3 with ⟨q1, q2, q3, q4, q5, q6⟩ | ⟨q1, q2, q3, q4, q5⟩ | ⟨q1, q2, q3, q4⟩
    · rw [if_neg (by omega), if_neg (by omega)]
      exact ⟨r1, rfl, .inl ⟨q1, q2, q3, q4, q5, q6⟩⟩
    · rw [if_neg (by omega), if_neg (by omega)]
      exact ⟨r1, rfl, .inr (.inl ⟨q1, q2, q3, q4, q5⟩)⟩
    · rw [if_pos q1, if_pos q2]
      exact ⟨rfl, r2, .inr (.inr ⟨q1, q2, q3, q4⟩)⟩
theorem rel_out (d : DS) (o : Bs) (y : RS) (h : RelY d y) : RelY { d with out := o } y := h
end Go.Proofs.YtkfiafclddnaoaaDoor.Tk
