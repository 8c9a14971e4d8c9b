/- Fields that come in: what a row's reading tells of them. -/
import Derived.Test.YtkfiafclddnaoaaDoorLawOf
import Derived.Lib.SmallJoins
import Derived.SizedLaws
import Derived.ChangeSlices
import Derived.ChangeSame
set_option linter.unusedVariables false
set_option linter.unusedSimpArgs false
namespace Go.Proofs.YtkfiafclddnaoaaDoor.Tk
open Go.ChangeShapes Go.WideShapes Go.ChangeAt Go.RowKit Go.Proofs.YtkfiafclddnaoaaDoorW.PrintWords Go.Proofs.YtkfiafclddnaoaaDoorW.PrintLast Go.Proofs.YtkfiafclddnaoaaDoor.Rw

theorem build {α : Type} (Q : Nat → α → Prop) : ∀ m : Nat, (∀ i, i < m → ∃ x, Q i x) → ∃ l : List α, l.length = m ∧ ∀ i x, l[i]? = some x → Q i x
  | 0, _ => ⟨[], rfl, fun i x h => by simp at h⟩
  | m + 1, h => by
    obtain ⟨l, hl, hq⟩ := build Q m (fun i hi => h i (by omega))
    obtain ⟨x, hx⟩ := h m (by omega)
    refine ⟨l ++ [x], by simp [hl], fun i y hy => ?_⟩
    rcases Nat.lt_or_ge i l.length with hi | hi
    · rw [List.getElem?_append_left hi] at hy; exact hq i y hy
    · rw [List.getElem?_append_right hi] at hy
      have : i - l.length = 0 := by
        rcases Nat.eq_zero_or_pos (i - l.length) with h0 | h0
        · exact h0
        · rw [List.getElem?_eq_none (by simp; omega)] at hy; cases hy
      rw [this] at hy
      simp at hy
      subst hy
      rw [show i = m by omega]; exact hx
theorem cellsF : Tryd.prog.cellsOf 28 = 2 := by kernel_rfl
theorem bytesF : Tryd.prog.bytesOf 28 = 32 := by kernel_rfl
theorem cellsS : Tryd.prog.cellsOf 9 = 1 := by kernel_rfl
theorem two_cells {W : World} {base : Nat} {a : Addr} {cs : List Value} (h : W.cells? base a 2 = some cs) : ∃ u v, cs = [u, v] ∧ W.cell? a = some u ∧ W.cell? ⟨a.block, a.off + 1, none⟩ = some v := by
  unfold World.cells? at h
  split at h
  · have e0 : a.add 0 = a := by unfold Addr.add; rfl
    have e1 : a.add 1 = ⟨a.block, a.off + 1, none⟩ := by unfold Addr.add; rfl
    have e : (List.range 2).mapM (fun i => W.cell? (a.add i)) = (W.cell? (a.add 0)).bind fun u => (W.cell? (a.add 1)).bind fun v => some [u, v] := rfl
    rw [e, e0, e1] at h
    simp only [Option.bind_eq_some_iff, Option.some.injEq] at h
    obtain ⟨u, hu, v, hv, rfl⟩ := h
    exact ⟨u, v, rfl, hu, hv⟩
  · cases h
theorem weights_mem {H : Type} {P : Program} {e : TypeId} : ∀ {l : List (DataW H)} {d : DataW H}, d ∈ l → ∀ {x : Nat}, x ∈ d.weights P e → x ∈ DataW.weightsAll P e l
  | a :: r, d, hd, x, hx => by
    simp only [DataW.weightsAll, List.mem_append]
    rcases List.mem_cons.1 hd with rfl | hd
    · exact .inl hx
    · exact .inr (weights_mem hd hx)
  | [], d, hd, _, _ => by cases hd
section
variable {H : Type} {enc : TypeId × Value → H} {W : World} {base : Nat} {spare : Nat → Bool} {held : Bool}
theorem open_fields {fuel : Nat} {v : Value} {y : DataW H × List MemPlace} (h : DataW.trod enc Tryd.prog W base spare held fuel 29 [v] = some y)
    (hw : ∀ x ∈ y.1.weights Tryd.prog 29, x ≤ reachBytes) :
    ∃ A n c fs, v = .slice A n c ∧ FieldsAt W A n fs ∧ n ≤ 140737488351232 ∧ ∀ f ∈ fs, f.1.size ≤ 140737488351232 ∧ f.2.size ≤ 140737488351232 := by
  rcases DataW.trod_slice Tryd.underlying29 h with ⟨hv, rfl⟩ | ⟨a, len, cap, elems, rest, n, rfl, hv, rfl, hb, hl, hm, hlen, hel, _, _⟩
  · simp only [List.cons.injEq, and_true] at hv
    subst hv
    exact ⟨none, 0, 0, [], rfl, ⟨rfl, by omega, fun j f hj => by simp at hj⟩, by omega, fun f hf => by cases hf⟩
  · simp only [List.cons.injEq, and_true] at hv
    subst hv
    have hu := Tryd.underlying29
    have huf := Tryd.underlying28
    have each : ∀ i, i < len → ∃ f : Fd, W.cell? (a.add (i * 2)) = some (.string f.1) ∧ W.cell? ⟨(a.add (i * 2)).block, (a.add (i * 2)).off + 1, none⟩ = some (.string f.2) ∧ f.1.size ≤ 140737488351232 ∧ f.2.size ≤ 140737488351232 := by
      intro i hi
      have h1 := hel i hi
      obtain ⟨z, hz⟩ : ∃ z, elems[i]? = some z := ⟨_, List.getElem?_eq_getElem (by omega)⟩
      rw [hz, cellsF, Option.bind_eq_some_iff] at h1
      obtain ⟨cs, hcs, htr⟩ := h1
      obtain ⟨u, v, rfl, hcu, hcv⟩ := two_cells hcs
      obtain ⟨y0, y1, n', rfl, _, t0, t1⟩ := trod_struct2 huf htr
      rw [cellsS] at t0 t1
      obtain ⟨s0, e0, rfl, _⟩ := DataW.trod_string Tryd.underlying9 t0
      obtain ⟨s1, e1, rfl, _⟩ := DataW.trod_string Tryd.underlying9 t1
      have e0' : u = .string s0 := by simpa using e0
      have e1' : v = .string s1 := by simpa using e1
      subst e0' e1'
      have hmem : (DataW.agg [.lit (.string s0.data.toList), .lit (.string s1.data.toList)] : DataW H) ∈ elems.map (·.1) := by
        have := List.mem_of_getElem? hz
        exact List.mem_map.2 ⟨_, this, rfl⟩
      have hwt : ∀ x ∈ (DataW.agg [.lit (.string s0.data.toList), .lit (.string s1.data.toList)] : DataW H).weights Tryd.prog 28, x ≤ reachBytes := by
        intro x hx
        refine hw x ?_
        rw [DataW.weights, hu]
        simp only [List.mem_cons, List.mem_append]
        exact .inr (.inl (weights_mem hmem hx))
      have w0 := hwt s0.data.toList.length (by rw [DataW.weights, huf]; simp [DataW.weightsEach, DataW.weights])
      have w1 := hwt s1.data.toList.length (by rw [DataW.weights, huf]; simp [DataW.weightsEach, DataW.weights])
      simp only [reachBytes, Array.length_toList] at w0 w1
      exact ⟨(s0, s1), hcu, hcv, w0, w1⟩
    obtain ⟨fs, hfl, hfs⟩ := build _ len each
    refine ⟨some a, len, cap, fs, rfl, ⟨hfl, by simp only [maxLen] at hm; omega, fun j f hj => ⟨a, rfl, (hfs j f hj).1, (hfs j f hj).2.1⟩⟩, ?_, fun f hf => ?_⟩
    · have := hw ((elems.length + rest.length) * 32) (by rw [DataW.weights, hu]; simp [bytesF])
      simp only [reachBytes] at this
      omega
    · obtain ⟨j, hj⟩ := List.getElem?_of_mem hf
      exact (hfs j f hj).2.2
end
end Go.Proofs.YtkfiafclddnaoaaDoor.Tk
