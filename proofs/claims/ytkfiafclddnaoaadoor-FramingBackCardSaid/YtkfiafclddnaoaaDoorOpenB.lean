/- A slice of slices of bytes, and a slice of integers, that come in. -/
import Derived.Test.YtkfiafclddnaoaaDoorBackW
import Derived.Test.YtkfiafclddnaoaaDoorEnvOf
import Derived.SizedLaws
import Derived.ChangeSlices
import Derived.ChangeSame
set_option linter.unusedVariables false
set_option linter.unusedSimpArgs false
namespace Go.Proofs.YtkfiafclddnaoaaDoor.Tk
open Go.ChangeShapes Go.WideShapes Go.ChangeAt Go.RowKit Go.Proofs.YtkfiafclddnaoaaDoorW.PrintWords Go.Proofs.YtkfiafclddnaoaaDoor.Rw

theorem build_ {α : Type} (Q : Nat → α → Prop) : ∀ m : Nat, (∀ i, i < m → ∃ x, Q i x) → ∃ l : List α, l.length = m ∧ ∀ i x, l[i]? = some x → Q i x
  | 0, _ => ⟨[], rfl, fun i x h => by simp at h⟩
  | m + 1, h => by
    obtain ⟨l, hl, hq⟩ := build_ Q m (fun i hi => h i (by omega))
    obtain ⟨x, hx⟩ := h m (by omega)
    refine ⟨l ++ [x], by simp [hl], fun i y hy => ?_⟩
    rcases Nat.lt_or_ge i l.length with hi | hi
    · rw [List.getElem?_append_left hi] at hy; exact hq i y hy
    · rw [List.getElem?_append_right hi] at hy
      have : i - l.length = 0 := by
        rcases Nat.eq_zero_or_pos (i - l.length) with h0 | h0
        · exact h0
        · rw [List.getElem?_eq_none (by simp; omega)] at hy; cases hy
      rw [this] at hy
      simp at hy
      subst hy
      rw [show i = m by omega]; exact hx
theorem one_cell {W : World} {base : Nat} {a : Addr} {cs : List Value} (h : W.cells? base a 1 = some cs) : ∃ u, cs = [u] ∧ W.cell? a = some u := by
  unfold World.cells? at h
  split at h
  · have e0 : a.add 0 = a := by unfold Addr.add; rfl
    have e : (List.range 1).mapM (fun i => W.cell? (a.add i)) = (W.cell? (a.add 0)).bind fun u => some [u] := rfl
    rw [e, e0] at h
    simp only [Option.bind_eq_some_iff, Option.some.injEq] at h
    obtain ⟨u, hu, rfl⟩ := h
    exact ⟨u, rfl, hu⟩
  · cases h
section
variable {H : Type} {enc : TypeId × Value → H} {W : World} {base : Nat}
set_option maxRecDepth 100000 in
theorem bytes_cs {fuel : Nat} {cs : List Value} {y : DataW H × List MemPlace} (hf : DataW.trod enc Tryd.prog W base (fun _ => true) true fuel 22 cs = some y) :
    ∃ (A : Option Addr) (l : Bs) (cp : Nat), cs = [.slice A l.length cp] ∧ ReadsInt W .u8 A l.length (ib l) ∧ l.length ≤ cp := by
  rcases open_ints Tryd.underlying22 Tryd.underlying5 (by kernel_rfl) hf with ⟨hcs, _⟩ | ⟨x, l, c, zs, hcs, _, hl, hm, hz, _, hcell, hwz⟩
  · exact ⟨none, [], 0, hcs, ⟨rfl, Nat.zero_le _, fun h => absurd h (Nat.lt_irrefl 0)⟩, Nat.le_refl _⟩
  · have hz : zs.length = c := by simpa using hz
    obtain ⟨ll, hll⟩ := ib_of_wf (zs.take l) (fun n hn => hwz n (List.mem_of_mem_take hn))
    have hlen : ll.length = l := by
      have := congrArg List.length hll
      rw [ib_length, List.length_take, Nat.min_eq_left (by omega)] at this
      exact this.symm
    refine ⟨some x, ll, c, by rw [hlen]; exact hcs, ?_, by omega⟩
    rw [hlen, ← hll]
    refine ⟨by rw [List.length_take]; omega, by simp only [maxLen] at hm; omega, fun _ => ⟨x, rfl, fun j hj => ?_⟩⟩
    rw [hcell j (by omega)]
    simp [List.getD_eq_getElem?_getD, hj]
set_option maxRecDepth 100000 in
theorem ints_cs {fuel : Nat} {cs : List Value} {y : DataW H × List MemPlace} (hf : DataW.trod enc Tryd.prog W base (fun _ => true) true fuel 61 cs = some y) (hw : ∀ x ∈ y.1.weights Tryd.prog 61, x ≤ reachBytes) :
    ∃ (A : Option Addr) (n : Nat) (xs : List Int) (cp : Nat), cs = [.slice A n cp] ∧ ReadsInt W .i64 A n xs ∧ n ≤ 8000000000000000 := by
  have hwn : ∃ A n cp, cs = [.slice A n cp] ∧ n ≤ 140737488351232 := by
    rcases DataW.trod_slice Tryd.underlying61 hf with ⟨hv, rfl⟩ | ⟨a, len, cap, elems, rest, n, rfl, hv, rfl, hb, hl, hm, hlen, hel, _, _⟩
    · exact ⟨none, 0, 0, hv, by omega⟩
    · refine ⟨some a, len, cap, hv, ?_⟩
      have hb8 : Tryd.prog.bytesOf 3 = 8 := by kernel_rfl
      have := hw ((elems.length + rest.length) * 8) (by rw [DataW.weights, Tryd.underlying61]; simp [hb8])
      simp only [reachBytes] at this
      omega
  obtain ⟨A, n, cp, hcs0, hn⟩ := hwn
  rcases open_ints Tryd.underlying61 Tryd.underlying3 (by kernel_rfl) hf with ⟨hcs, _⟩ | ⟨x, l, c, zs, hcs, _, hl, hm, hz, _, hcell, hwz⟩
  · exact ⟨none, 0, [], 0, hcs, ⟨rfl, Nat.zero_le _, fun h => absurd h (Nat.lt_irrefl 0)⟩, Nat.zero_le _⟩
  · have hz : zs.length = c := by simpa using hz
    have hln : l = n := by
      rw [hcs] at hcs0
      simp only [List.cons.injEq, Value.slice.injEq, and_true] at hcs0
      exact hcs0.2.1
    refine ⟨some x, l, zs.take l, c, hcs, ⟨by rw [List.length_take]; omega, by simp only [maxLen] at hm; omega, fun _ => ⟨x, rfl, fun j hj => ?_⟩⟩, by omega⟩
    rw [hcell j (by omega)]
    simp [List.getD_eq_getElem?_getD, hj]
theorem cellsB : Tryd.prog.cellsOf 22 = 1 := by kernel_rfl
theorem bytesB : Tryd.prog.bytesOf 22 = 24 := by kernel_rfl
theorem pieces_cs {fuel : Nat} {cs : List Value} {y : DataW H × List MemPlace} (hf : DataW.trod enc Tryd.prog W base (fun _ => true) true fuel 60 cs = some y) (hw : ∀ x ∈ y.1.weights Tryd.prog 60, x ≤ reachBytes) :
    ∃ (P : Option Addr) (ps : List Bs) (cp : Nat), cs = [.slice P ps.length cp] ∧ PiecesAt W P ps ∧ ps.length ≤ 9000000000000000 := by
  rcases DataW.trod_slice Tryd.underlying60 hf with ⟨hv, rfl⟩ | ⟨a, len, cap, elems, rest, n, rfl, hv, rfl, hb, hl, hm, hlen, hel, _, _⟩
  · exact ⟨none, [], 0, hv, fun h => absurd h (Nat.lt_irrefl 0), Nat.zero_le _⟩
  · have each : ∀ i, i < len → ∃ l : Bs, ∃ A c, W.cell? (a.add i) = some (.slice A l.length c) ∧ ReadsInt W .u8 A l.length (ib l) ∧ l.length ≤ c := by
      intro i hi
      have h1 := hel i hi
      obtain ⟨z, hz⟩ : ∃ z, elems[i]? = some z := ⟨_, List.getElem?_eq_getElem (by omega)⟩
      rw [hz, cellsB, Option.bind_eq_some_iff, Nat.mul_one] at h1
      obtain ⟨cs', hcs, htr⟩ := h1
      obtain ⟨u, rfl, hcu⟩ := one_cell hcs
      obtain ⟨A, l, c, he, hR, hc⟩ := bytes_cs htr
      simp only [List.cons.injEq, and_true] at he
      subst he
      exact ⟨l, A, c, hcu, hR, hc⟩
    obtain ⟨ps, hpl, hps⟩ := build_ _ len each
    refine ⟨some a, ps, cap, by rw [hpl]; exact hv, fun _ => ⟨a, rfl, fun i hi => ?_⟩, ?_⟩
    · exact hps i ps[i] (List.getElem?_eq_getElem hi)
    · have := hw ((elems.length + rest.length) * 24) (by rw [DataW.weights, Tryd.underlying60]; simp [bytesB])
      simp only [reachBytes] at this
      omega
end
end Go.Proofs.YtkfiafclddnaoaaDoor.Tk
