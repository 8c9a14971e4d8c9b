/- Walk: where a piece ends; what the law FramingBack keeps in memory. -/
import Derived.Test.YtkfiafclddnaoaaDoorBackP
import Derived.Test.YtkfiafclddnaoaaDoorLawCuts
set_option linter.unusedVariables false
set_option linter.unusedSimpArgs false
namespace Go.Proofs.YtkfiafclddnaoaaDoor.Tk
open Go.RowKit Go.Proofs.YtkfiafclddnaoaaDoorW.PrintWords Go.Proofs.YtkfiafclddnaoaaDoorW.PrintLast Go.Proofs.YtkfiafclddnaoaaDoor.Rw

theorem and_1023 (n : Int) : ∃ k : Nat, k ≤ 1023 ∧ bits BinOp.and IntKind.i64 n 1023 = k := by
  have h : (BitVec.ofInt IntKind.i64.bits n &&& BitVec.ofInt IntKind.i64.bits 1023).toNat ≤ 1023 := by
    rw [BitVec.toNat_and]
    exact Nat.le_trans Nat.and_le_right (by decide)
  refine ⟨_, h, ?_⟩
  show IntKind.i64.wrap ((BitVec.ofInt IntKind.i64.bits n &&& BitVec.ofInt IntKind.i64.bits 1023).toNat : Int) = _
  rw [IntKind.wrap_i64]
  omega
def PieceP (nc : Nat) (i from_ long : Nat) (W : World) (e : Ending) (W' : World) : Prop :=
  ∃ q : Nat, e = .returned (.int .i64 q) ∧ from_ ≤ q ∧ q ≤ long ∧ (nc ≤ i → q = long) ∧ W = W'
set_option maxRecDepth 100000 in
set_option maxHeartbeats 1000000 in
theorem piece_walk (C : Option Addr) (nc cc : Nat) (cs : List Int) (i from_ long : Nat) (W : World) (hR : ReadsInt W .i64 C nc cs) (hi : i ≤ 9000000000000000) (hl : long ≤ 1000000) (hf : from_ ≤ long) :
    Calls Tryd.prog 25 #[.slice C nc cc, .int .i64 i, .int .i64 from_, .int .i64 long] W (PieceP nc i from_ long W) := by
  have hflI : (from_ : Int) ≤ long := by omega
  have hlI : (long : Int) ≤ 1000000 := by omega
  by_cases hin : i < nc
  · obtain ⟨ad, rfl, hcell⟩ := hR.2.2 (by omega)
    have hc := hcell i hin
    obtain ⟨m, hm, hmb⟩ := and_1023 (cs.getD i 0)
    have HMB := Lib.hid hmb
    have hinI : (i : Int) < nc := by omega
    have hmI : (m : Int) ≤ 1023 := by omega
    generalize cs.getD i 0 = x at hc hmb HMB
    clear hcell hR
    by_cases hlt : (m : Int) < (long : Int) - from_
    · go_enter Tryd.func25, Tryd.ntmps25
      go_wp2
      go_ret
      exact ⟨from_ + m, by simp, by omega, by omega, fun h => by omega, rfl⟩
    · go_enter Tryd.func25, Tryd.ntmps25
      go_wp2
      go_ret
      exact ⟨long, by simp; omega, hf, Nat.le_refl _, fun _ => rfl, rfl⟩
  · have hinI : ¬ (i : Int) < nc := by omega
    clear hR
    go_enter Tryd.func25, Tryd.ntmps25
    go_wp2
    go_ret
    exact ⟨long, by simp; omega, hf, Nat.le_refl _, fun _ => rfl, rfl⟩
/-- Pieces that came in. -/
def PiecesAt (W : World) (P : Option Addr) (ps : List Bs) : Prop :=
  0 < ps.length → ∃ ad, P = some ad ∧ ∀ i (h : i < ps.length), ∃ A c, W.cell? (ad.add i) = some (.slice A ps[i].length c) ∧ ReadsInt W .u8 A ps[i].length (ib ps[i]) ∧ ps[i].length ≤ c
theorem PiecesAt.below {W W' : World} {P : Option Addr} {ps : List Bs} (h : PiecesAt W P ps) (hb : Below W.heap.size W W') : PiecesAt W' P ps := fun h0 => by
  obtain ⟨ad, he, hc⟩ := h h0
  refine ⟨ad, he, fun i hi => ?_⟩
  obtain ⟨A, c, h1, h2, h3⟩ := hc i hi
  exact ⟨A, c, pw_cell_below hb h1, h2.below hb, h3⟩
/-- Two rows of bytes of the call's own, apart. -/
structure Back (W wr : World) (F7 F8 : Nat → Prop) (v7 v8 : Value) (a b : Bs) : Prop where
  r7 : Row wr F7 1 v7 a.length (nums .u8 (ib a))
  r8 : Row wr F8 1 v8 b.length (nums .u8 (ib b))
  h7 : ∀ k, F7 k → W.heap.size ≤ k ∧ k < wr.heap.size
  h8 : ∀ k, F8 k → W.heap.size ≤ k ∧ k < wr.heap.size
  ap : ∀ k, F7 k → F8 k → False
  bel : Below W.heap.size W wr
namespace Back
variable {W wr w2 : World} {F7 F8 : Nat → Prop} {v7 v8 v2 : Value} {a b p : Bs}
theorem start (W : World) : Back W W (fun _ => False) (fun _ => False) (.slice none 0 0) (.slice none 0 0) [] [] :=
  ⟨Row.nil _ _ _, Row.nil _ _ _, fun _ h => h.elim, fun _ h => h.elim, fun _ h => h.elim, Below.refl _ _⟩
theorem below (h : Back W wr F7 F8 v7 v8 a b) (hb : Below wr.heap.size wr w2) : Back W w2 F7 F8 v7 v8 a b :=
  ⟨h.r7.touch (Tch.of_below hb (fun _ => False)) (fun _ _ _ h => h), h.r8.touch (Tch.of_below hb (fun _ => False)) (fun _ _ _ h => h),
    fun k hk => ⟨(h.h7 k hk).1, Nat.lt_of_lt_of_le (h.h7 k hk).2 hb.size⟩, fun k hk => ⟨(h.h8 k hk).1, Nat.lt_of_lt_of_le (h.h8 k hk).2 hb.size⟩, h.ap, h.bel.trans (hb.mono h.bel.size)⟩
theorem app7 (h : Back W wr F7 F8 v7 v8 a b) (hr : Row w2 (fun g => F7 g ∨ wr.heap.size ≤ g) 1 v2 (a.length + p.length) (nums .u8 (ib a) ++ nums .u8 (ib p))) (t : Tch F7 wr w2) :
    ∃ F7', Back W w2 F7' F8 v2 v8 (a ++ p) b := by
  have hz := h.bel.size
  refine ⟨fun g => (F7 g ∨ wr.heap.size ≤ g) ∧ g < w2.heap.size, ?_, h.r8.touch t (fun k hk _ h7 => h.ap k h7 hk), ?_, ?_, ?_, ?_⟩
  · rw [List.length_append, ib_app, show nums .u8 (ib a ++ ib p) = nums .u8 (ib a) ++ nums .u8 (ib p) by simp [nums]]
    exact hr.bound
  · exact fun k hk => ⟨hk.1.elim (fun h1 => (h.h7 k h1).1) (fun h1 => Nat.le_trans hz h1), hk.2⟩
  · exact fun k hk => ⟨(h.h8 k hk).1, Nat.lt_of_lt_of_le (h.h8 k hk).2 t.size⟩
  · intro k hk h8
    rcases hk.1 with h1 | h1
    · exact h.ap k h1 h8
    · have := (h.h8 k h8).2
      omega
  · exact Tch.below_then h.bel t (Nat.le_refl _) (fun k hk => (h.h7 k hk).1)
theorem app8 (h : Back W wr F7 F8 v7 v8 a b) (hr : Row w2 (fun g => F8 g ∨ wr.heap.size ≤ g) 1 v2 (b.length + p.length) (nums .u8 (ib b) ++ nums .u8 (ib p))) (t : Tch F8 wr w2) :
    ∃ F8', Back W w2 F7 F8' v7 v2 a (b ++ p) := by
  have hz := h.bel.size
  refine ⟨fun g => (F8 g ∨ wr.heap.size ≤ g) ∧ g < w2.heap.size, h.r7.touch t (fun k hk _ h8 => h.ap k hk h8), ?_, ?_, ?_, ?_, ?_⟩
  · rw [List.length_append, ib_app, show nums .u8 (ib b ++ ib p) = nums .u8 (ib b) ++ nums .u8 (ib p) by simp [nums]]
    exact hr.bound
  · exact fun k hk => ⟨(h.h7 k hk).1, Nat.lt_of_lt_of_le (h.h7 k hk).2 t.size⟩
  · exact fun k hk => ⟨hk.1.elim (fun h1 => (h.h8 k h1).1) (fun h1 => Nat.le_trans hz h1), hk.2⟩
  · intro k h7 hk
    rcases hk.1 with h1 | h1
    · exact h.ap k h7 h1
    · have := (h.h7 k h7).2
      omega
  · exact Tch.below_then h.bel t (Nat.le_refl _) (fun k hk => (h.h8 k hk).1)
end Back
/-- The first so many pieces, each cut. -/
def cutsOf (ps : List Bs) (i : Nat) : List Bs := (ps.take i).map (·.take 300)
theorem cuts_snoc (ps : List Bs) (i : Nat) (h : i < ps.length) : cutsOf ps (i + 1) = cutsOf ps i ++ [ps[i].take 300] := by
  unfold cutsOf
  rw [List.take_succ_eq_append_getElem h, List.map_append]
  rfl
theorem cuts_le (ps : List Bs) (i : Nat) : ∀ p ∈ cutsOf ps i, p.length ≤ 300 := by
  intro p hp
  unfold cutsOf at hp
  obtain ⟨q, _, rfl⟩ := List.mem_map.1 hp
  exact List.length_take_le _ _
theorem cuts_len (ps : List Bs) (i : Nat) : (cutsOf ps i).length ≤ i := by
  unfold cutsOf
  rw [List.length_map]
  exact List.length_take_le _ _
end Go.Proofs.YtkfiafclddnaoaaDoor.Tk
