/- The errors and the number of Go's library that a decoder's lines lean on, out of a row's premises; a slice of bytes as an argument. -/
import Derived.Test.YtkfiafclddnaoaaDoorLine
import Derived.Test.YtkfiafclddnaoaaDoorRows
import Derived.WalkKit
import Derived.ProofKit
import Derived.OpenShut
import Derived.LaidLaws
import Derived.LaidSub
import Derived.Shelf.Vars
set_option linter.unusedVariables false
set_option linter.unusedSimpArgs false
namespace Go.Proofs.YtkfiafclddnaoaaDoor.Tk
open Go.ChangeShapes Go.WideShapes Go.ChangeAt Go.RowKit Go.Proofs.YtkfiafclddnaoaaDoor.Rw

theorem err_of_laid {W : World} {nm : String} {g : Nat} {d : DataW Unit} {tn : String} (hn : Tryd.prog.globalNamed nm = some g) (ht : (Tryd.prog.globals[g]?).map (·.type) = some 108)
    (h : laidMet Tryd.prog [(nm, .iface tn d)] W) : ∃ v, W.cell? ⟨g, 0, none⟩ = some v ∧ IsErr v := by
  obtain ⟨ps, ⟨g0, t0, cs0, f0, p0, q0, hg0, ht0, hv0, hd0, hq0, e0⟩, hnd, hrows⟩ := h
  obtain rfl := Option.some.inj (hn.symm.trans hg0)
  obtain rfl := Option.some.inj (ht.symm.trans ht0)
  obtain ⟨l0⟩ := cs0
  obtain ⟨f1, u, v, hcs, hnm, h1⟩ := iface_of_trod Tryd.underlying108 hd0
  refine ⟨.iface u v, ?_, u, v, rfl⟩
  simp only at hcs
  subst hcs
  simpa using World.var?_cell hg0 hv0 0
theorem max_of_shaped {W : World} (h : W.ShapedOpen Tryd.prog) : ∃ m, W.cell? ⟨3, 0, none⟩ = some (.int .i64 m) :=
  cell_of_shapedOpen_int (zero := #[.int .i64 0]) (t := 3) h (of_decide_eq_true (by kernel_rfl)) (by kernel_rfl) rfl (by kernel_rfl) (by kernel_rfl) Tryd.underlying3
theorem pickedE : Rows.framingCutsRow.laid.filter (fun x => x.1 == "strconv.ErrSyntax") = [("strconv.ErrSyntax", Rows.laid_strconv_ErrSyntax)] := by kernel_rfl
theorem pickedR : Rows.framingCutsRow.laid.filter (fun x => x.1 == "strconv.ErrRange") = [("strconv.ErrRange", Rows.laid_strconv_ErrRange)] := by kernel_rfl
theorem env_of {W : World} (h : laidMetH Tryd.prog Rows.framingCutsRow.laid W) (hs : W.ShapedOpen Tryd.prog) : Env W := by
  have h1 := laidMetH.filter (fun x => x.1 == "strconv.ErrSyntax") h
  rw [pickedE] at h1
  have h2 := laidMetH.filter (fun x => x.1 == "strconv.ErrRange") h
  rw [pickedR] at h2
  exact ⟨⟨err_of_laid (by kernel_rfl) (by kernel_rfl) (show laidMet _ [("strconv.ErrSyntax", _)] _ from h1), err_of_laid (by kernel_rfl) (by kernel_rfl) (show laidMet _ [("strconv.ErrRange", _)] _ from h2)⟩, max_of_shaped hs⟩
theorem ib_of_wf : ∀ (zs : List Int), (∀ n ∈ zs, (Lit.int .u8 n).wf = true) → ∃ l : Bs, zs = ib l
  | [], _ => ⟨[], rfl⟩
  | n :: r, h => by
    obtain ⟨l, hl⟩ := ib_of_wf r (fun m hm => h m (by simp [hm]))
    have hb := bounds_u8 (h n (by simp))
    refine ⟨UInt8.ofNat n.toNat :: l, ?_⟩
    have e : ((UInt8.ofNat n.toNat).toNat : Int) = n := by
      rw [UInt8.toNat_ofNat']
      omega
    rw [hl]
    show n :: ib l = ((UInt8.ofNat n.toNat).toNat : Int) :: ib l
    rw [e]
set_option maxRecDepth 100000 in
/-- A slice of bytes that came in. -/
theorem open_bytes {H : Type} {enc : TypeId × Value → H} {W : World} {base : Nat} {v : Value} {d : DataW H} {p : List MemPlace}
    (hval : Value.okWide Tryd.prog W .any base 22 v) (h : ∃ fuel, DataW.trod enc Tryd.prog W 0 (fun _ => true) true fuel 22 v.cells.toList = some (d, p)) :
    ∃ (A : Option Addr) (l : Bs) (cp : Nat), v = .slice A l.length cp ∧ Go.Proofs.YtkfiafclddnaoaaDoorW.PrintWords.ReadsInt W .u8 A l.length (ib l) ∧ l.length ≤ cp := by
  obtain ⟨a0, len0, cap0, rfl⟩ := okWide_slice Tryd.underlying22 hval
  obtain ⟨fuel, hf⟩ := h
  rcases open_ints Tryd.underlying22 Tryd.underlying5 (by kernel_rfl) hf with ⟨hcs, _⟩ | ⟨x, l, c, zs, hcs, _, hl, hm, hz, _, hcell, hwz⟩
  · simp [Value.cells] at hcs
    obtain ⟨rfl, rfl, rfl⟩ := hcs
    exact ⟨none, [], 0, rfl, ⟨rfl, Nat.zero_le _, fun h => absurd h (Nat.lt_irrefl 0)⟩, Nat.le_refl _⟩
  · simp [Value.cells] at hcs
    obtain ⟨rfl, rfl, rfl⟩ := hcs
    have hz : zs.length = cap0 := by simpa using hz
    obtain ⟨ll, hll⟩ := ib_of_wf (zs.take len0) (fun n hn => hwz n (List.mem_of_mem_take hn))
    have hlen : ll.length = len0 := by
      have := congrArg List.length hll
      rw [ib_length, List.length_take, Nat.min_eq_left (by omega)] at this
      exact this.symm
    refine ⟨some x, ll, cap0, by rw [hlen], ?_, by omega⟩
    rw [hlen, ← hll]
    refine ⟨by rw [List.length_take]; omega, by simp only [maxLen] at hm; omega, fun _ => ⟨x, rfl, fun j hj => ?_⟩⟩
    rw [hcell j (by omega)]
    simp [List.getD_eq_getElem?_getD, hj]
end Go.Proofs.YtkfiafclddnaoaaDoor.Tk
