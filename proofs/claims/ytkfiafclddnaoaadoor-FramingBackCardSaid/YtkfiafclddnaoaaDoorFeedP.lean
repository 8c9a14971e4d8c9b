/- What the decoder does, in plain words: a step, many steps, its bounds. -/
import Derived.Test.YtkfiafclddnaoaaDoorMeth
set_option linter.unusedVariables false
set_option linter.unusedSimpArgs false
namespace Go.Proofs.YtkfiafclddnaoaaDoor.Tk
open Go.RowKit Go.Proofs.YtkfiafclddnaoaaDoorW.PrintWords Go.Proofs.YtkfiafclddnaoaaDoorW.PrintLast Go.Proofs.YtkfiafclddnaoaaDoor.Rw

def stepD (d : DS) (c : UInt8) : DS :=
  match d.st with
  | 0 => sizeD d c
  | 1 => dataF d c
  | 2 => behindD d c
  | 3 => fieldsD d c
  | 4 => lengthF d c
  | _ => restF d c
def stops (d : DS) : Bool := d.done || d.e != 0
def feedGo : DS → Bs → DS × Nat
  | d, [] => (d, 0)
  | d, c :: r => if stops d then (d, 0) else ((feedGo (stepD d c) r).1, (feedGo (stepD d c) r).2 + 1)
structure DOk (d : DS) : Prop where
  st : d.st ≤ 5
  sum : d.sum ≤ 1048576
  left : d.left ≤ 1048576
  own : d.e = 0 → d.own.length ≤ 1025
  l1 : d.st = 1 → 1 ≤ d.left
  l4 : d.st = 4 → d.done = false → 1 ≤ d.left
theorem line_ok (d : DS) (c : UInt8) (h : DOk d) (he : d.e = 0) : DOk (lineF d c).1 ∧ (lineF d c).1.out = d.out ∧ ((lineF d c).2.isSome = true → (lineF d c).1.e = 0) := by
  unfold lineF
  split
  · exact ⟨⟨h.st, h.sum, h.left, (fun h => by cases h), h.l1, h.l4⟩, rfl, fun h => by cases h⟩
  · split
    · exact ⟨⟨h.st, h.sum, h.left, (fun _ => by simp), h.l1, h.l4⟩, rfl, fun _ => he⟩
    · exact ⟨⟨h.st, h.sum, h.left, (fun _ => by simp; omega), h.l1, h.l4⟩, rfl, fun h => by cases h⟩
theorem step_ok (d : DS) (c : UInt8) (h : DOk d) (he : d.e = 0) (hd : d.done = false) : DOk (stepD d c) ∧ (stepD d c).out.length ≤ d.out.length + 1 := by
  obtain ⟨hl, hlo, hle⟩ := line_ok d c h he
  obtain ⟨q1, q2, q3⟩ := line_same d c
  unfold stepD
  split
  · unfold sizeD
    generalize lineF d c = q at hl hlo hle q1 q2 q3 ⊢
    obtain ⟨d1, o⟩ := q
    simp only at hl hlo hle q1 q2 q3
    cases o with
    | none => exact ⟨hl, by simp only; rw [hlo]; omega⟩
    | some s =>
      have hle := hle rfl
      simp only
      split
      · exact ⟨⟨hl.st, hl.sum, hl.left, (fun h => by cases h), hl.l1, hl.l4⟩, by simp only; rw [hlo]; omega⟩
      · rename_i n _
        have := hl.sum
        split
        · exact ⟨⟨hl.st, hl.sum, hl.left, (fun h => by cases h), hl.l1, hl.l4⟩, by simp only; rw [hlo]; omega⟩
        · split
          · exact ⟨⟨by simp, hl.sum, hl.left, hl.own, (fun h => by cases h), fun h => by cases h⟩, by simp only; rw [hlo]; omega⟩
          · exact ⟨⟨by simp, by simp only; omega, by simp only; omega, hl.own, (fun _ => by simp only; omega), fun h => by cases h⟩, by simp only; rw [hlo]; omega⟩
  · have := h.left
    unfold dataF
    split
    · exact ⟨⟨by simp, h.sum, by simp only; omega, h.own, (fun h => by cases h), fun h => by cases h⟩, by simp⟩
    · rename_i h1 _
      exact ⟨⟨h.st, h.sum, by simp only; omega, h.own, (fun _ => by simp only; omega), fun h => by simp only at h; omega⟩, by simp⟩
  · unfold behindD
    generalize lineF d c = q at hl hlo hle q1 q2 q3 ⊢
    obtain ⟨d1, o⟩ := q
    simp only at hl hlo hle q1 q2 q3
    cases o with
    | none => exact ⟨hl, by simp only; rw [hlo]; omega⟩
    | some s =>
      simp only
      split
      · exact ⟨⟨by simp, hl.sum, hl.left, hl.own, (fun h => by cases h), fun h => by cases h⟩, by simp only; rw [hlo]; omega⟩
      · exact ⟨⟨by simp, hl.sum, hl.left, (fun h => by cases h), (fun h => by cases h), fun h => by cases h⟩, by simp only; rw [hlo]; omega⟩
  · rename_i h3
    unfold fieldsD
    generalize lineF d c = q at hl hlo hle q1 q2 q3 ⊢
    obtain ⟨d1, o⟩ := q
    simp only at hl hlo hle q1 q2 q3
    cases o with
    | none => exact ⟨hl, by simp only; rw [hlo]; omega⟩
    | some s =>
      simp only
      split
      · exact ⟨⟨hl.st, hl.sum, hl.left, hl.own, hl.l1, fun _ h => by cases h⟩, by simp only; rw [hlo]; omega⟩
      · exact ⟨⟨hl.st, hl.sum, hl.left, fun _ => hl.own (hle rfl), hl.l1, hl.l4⟩, by simp only; rw [hlo]; omega⟩
  · have := h.left
    unfold lengthF
    exact ⟨⟨h.st, h.sum, by simp only; omega, h.own, (fun h1 => by simp only at h1; omega), fun _ hd => by simp at hd; simp only; omega⟩, by simp⟩
  · have := h.sum
    unfold restF
    split
    · exact ⟨⟨h.st, h.sum, h.left, (fun h => by cases h), h.l1, h.l4⟩, by simp⟩
    · exact ⟨⟨h.st, by simp only; omega, h.left, h.own, h.l1, h.l4⟩, by simp⟩
theorem feed_ok : ∀ (l : Bs) (d : DS), DOk d → DOk (feedGo d l).1 ∧ (feedGo d l).1.out.length ≤ d.out.length + l.length ∧ (feedGo d l).2 ≤ l.length
  | [], d, h => ⟨h, by simp [feedGo], by simp [feedGo]⟩
  | c :: r, d, h => by
    unfold feedGo
    split
    · exact ⟨h, by simp, by simp⟩
    · rename_i hs
      simp only [stops, Bool.or_eq_true, bne_iff_ne, ne_eq, not_or, Bool.not_eq_true, Decidable.not_not] at hs
      obtain ⟨h1, h2⟩ := step_ok d c h hs.2 hs.1
      obtain ⟨h3, h4, h5⟩ := feed_ok r (stepD d c) h1
      exact ⟨h3, by simp only [List.length_cons]; omega, by simp only [List.length_cons]; omega⟩
end Go.Proofs.YtkfiafclddnaoaaDoor.Tk
