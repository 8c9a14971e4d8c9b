/- Plain law: a decoder's steps do not hang on what it has told; a slice's middle. -/
import Derived.Test.YtkfiafclddnaoaaDoorNewEnd
set_option linter.unusedVariables false
set_option linter.unusedSimpArgs false
namespace Go.Proofs.YtkfiafclddnaoaaDoor.Tk
open Go.RowKit Go.Proofs.YtkfiafclddnaoaaDoorW.PrintWords Go.Proofs.YtkfiafclddnaoaaDoorW.PrintLast Go.Proofs.YtkfiafclddnaoaaDoor.Rw

def told (g : Bs) (d : DS) : DS := { d with out := g ++ d.out }
theorem line_told (g : Bs) (d : DS) (c : UInt8) : lineF (told g d) c = (told g (lineF d c).1, (lineF d c).2) := by
  unfold lineF told
  by_cases h1 : 1025 ≤ d.own.length <;> by_cases h2 : c = 10 <;> simp [h1, h2]
theorem step_told (g : Bs) (d : DS) (c : UInt8) : stepD (told g d) c = told g (stepD d c) := by
  have hl := line_told g d c
  unfold stepD
  have hst : (told g d).st = d.st := rfl
  rw [hst]
  split
  · unfold sizeD
    rw [hl]
    generalize lineF d c = q
    obtain ⟨d1, o⟩ := q
    cases o with
    | none => rfl
    | some s =>
      simp only
      cases sizeF s with
      | none => rfl
      | some n =>
        by_cases h1 : 1048576 - d1.sum < n <;> by_cases h2 : n = 0 <;> simp [told, h1, h2]
  · unfold dataF told
    by_cases h1 : d.left - 1 = 0 <;> simp [h1, List.append_assoc]
  · unfold behindD
    rw [hl]
    generalize lineF d c = q
    obtain ⟨d1, o⟩ := q
    cases o with
    | none => rfl
    | some s =>
      by_cases h1 : s = [] <;> simp [told, h1]
  · unfold fieldsD
    rw [hl]
    generalize lineF d c = q
    obtain ⟨d1, o⟩ := q
    cases o with
    | none => rfl
    | some s =>
      by_cases h1 : s = [] <;> simp [told, h1]
  · unfold lengthF told
    simp [List.append_assoc]
  · unfold restF told
    by_cases h1 : d.sum = 1048576 <;> simp [h1, List.append_assoc]
theorem stops_told (g : Bs) (d : DS) : stops (told g d) = stops d := rfl
theorem feed_told : ∀ (l : Bs) (g : Bs) (d : DS), feedGo (told g d) l = (told g (feedGo d l).1, (feedGo d l).2)
  | [], g, d => rfl
  | c :: r, g, d => by
    unfold feedGo
    rw [stops_told, step_told, feed_told r g (stepD d c)]
    split <;> rfl
theorem told_told (g h : Bs) (d : DS) : told g (told h d) = told (g ++ h) d := by simp [told, List.append_assoc]
theorem told_nil (d : DS) : told [] d = d := rfl
/-- One byte. -/
theorem feed_one (d : DS) (c : UInt8) (h : stops d = false) : feedGo d [c] = (stepD d c, 1) := by
  unfold feedGo
  rw [if_neg (by rw [h]; simp)]
  simp [feedGo]
theorem feed_go (d : DS) (c : UInt8) (r : Bs) (h : ¬ stops d = true) : feedGo d (c :: r) = ((feedGo (stepD d c) r).1, (feedGo (stepD d c) r).2 + 1) := by
  rw [feedGo, if_neg h]
theorem feed_no (d : DS) (l : Bs) (h : stops d = true) : feedGo d l = (d, 0) := by
  cases l with
  | nil => rfl
  | cons c r => rw [feedGo, if_pos h]
/-- Bytes behind bytes. -/
theorem feed_app : ∀ (a b : Bs) (d : DS), feedGo d (a ++ b) = if (feedGo d a).2 = a.length then ((feedGo (feedGo d a).1 b).1, a.length + (feedGo (feedGo d a).1 b).2) else feedGo d a
  | [], b, d => by simp [feedGo]
  | c :: r, b, d => by
    rw [List.cons_append]
    by_cases hs : stops d = true
    · rw [feed_no _ _ hs, feed_no _ _ hs]
      simp
    · rw [feed_go _ _ _ hs, feed_go _ _ _ hs, feed_app r b (stepD d c)]
      by_cases h : (feedGo (stepD d c) r).2 = r.length
      · rw [if_pos h, if_pos (by simp [h])]
        refine Prod.ext rfl ?_
        simp only [List.length_cons]
        omega
      · rw [if_neg h, if_neg (by simp [h])]
theorem feed_left (d : DS) (a : Bs) (h : (feedGo d a).2 ≠ a.length) : stops (feedGo d a).1 = true := by
  induction a generalizing d with
  | nil => simp [feedGo] at h
  | cons c r ih =>
    unfold feedGo at h ⊢
    by_cases hs : stops d = true
    · rw [if_pos hs]; exact hs
    · rw [if_neg hs] at h ⊢
      exact ih _ (by simpa using h)
theorem cut_mid (A : Option Addr) (c : Nat) (l : Bs) (k m : Nat) (hk : k + m ≤ l.length) (hc : l.length ≤ c) :
    ∃ A' : Option Addr, (∀ (hi : Int), hi = (k : Int) + m → ∀ W : World, (Instr.slice 22 (.slice A l.length c) (some (.int .i64 (k : Int))) (some (.int .i64 hi)) none).run Tryd.prog W = .ok (.slice A' m (c - k)) W) ∧
      (∀ w : World, ReadsInt w .u8 A l.length (ib l) → ReadsInt w .u8 A' m (ib ((l.drop k).take m))) ∧ (∀ ad', A' = some ad' → ∃ ad, A = some ad ∧ ad.block = ad'.block) := by
  obtain ⟨i0, hi, hz⟩ := Option.map_eq_some_iff.1 info1
  refine ⟨if c = k then A else A.map (·.add k), fun hi' he W => ?_, fun w h => ?_, fun ad' h => ?_⟩
  · have hel : Tryd.prog.elem 22 = 5 := by simp [Program.elem, Tryd.underlying22]
    have hu : Tryd.prog.underlying 22 = some (.slice (Tryd.prog.elem 22)) := by rw [hel]; exact Tryd.underlying22
    subst he
    rw [run_slice_lh W 22 A l.length c hu .i64 .i64 (k : Int) ((k : Int) + m) (by omega) (by omega) (by omega), hel]
    have e1 : ((k : Int) + (m : Int)).toNat = k + m := by omega
    simp [sizeOf, typeInfo, hi, hz, sliced, Result.andThen, e1]
  · have h2 := (h.take_ (k + m) hk).drop_ (c := c) k (by omega) (by omega)
    rw [Nat.add_sub_cancel_left] at h2
    have e : ((ib l).take (k + m)).drop k = ib ((l.drop k).take m) := by
      unfold ib
      rw [← List.map_take, ← List.map_drop, List.drop_take, Nat.add_sub_cancel_left]
    rwa [e] at h2
  · split at h
    · exact ⟨ad', h, rfl⟩
    · cases A with
      | none => cases h
      | some ad =>
        simp only [Option.map_some, Option.some.injEq] at h
        subst h
        exact ⟨ad, rfl, by unfold Addr.add; split <;> rfl⟩
end Go.Proofs.YtkfiafclddnaoaaDoor.Tk
