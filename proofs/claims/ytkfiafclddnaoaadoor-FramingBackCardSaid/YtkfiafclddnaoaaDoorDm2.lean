/- The decoder's methods that take a byte of a body; New; none. -/
import Derived.Test.YtkfiafclddnaoaaDoorDm
set_option linter.unusedVariables false
set_option linter.unusedSimpArgs false
namespace Go.Proofs.YtkfiafclddnaoaaDoor.Tk
open Go.RowKit Go.Proofs.YtkfiafclddnaoaaDoorW.PrintWords Go.Proofs.YtkfiafclddnaoaaDoorW.PrintLast Go.Proofs.YtkfiafclddnaoaaDoor.Rw

theorem Moved.set {S : Nat → Prop} {b : Nat} {d d' : DS} {W W' : World} {vo vu : Value} {Fo Fu S' : Nat → Prop} (t : Tch S W W') (hS : ∀ k, S' k → S k ∨ W.heap.size ≤ k) (h : Dec W' S' b d vo vu Fo Fu) (i : Nat) (u : Value) (hS0 : S b)
    (h' : Dec (W'.setCell ⟨b, i, none⟩ u) S' b d' vo vu Fo Fu) : Moved S b d' W (W'.setCell ⟨b, i, none⟩ u) := ⟨t.setCell (.inl hS0) u, S', hS, h'.at_⟩
def restF (d : DS) (c : UInt8) : DS := if d.sum = 1048576 then { d with e := 3 } else { d with sum := d.sum + 1, out := d.out ++ [c] }
def lengthF (d : DS) (c : UInt8) : DS := { d with out := d.out ++ [c], left := d.left - 1, done := d.left - 1 == 0 }
def dataF (d : DS) (c : UInt8) : DS := if d.left - 1 = 0 then { d with out := d.out ++ [c], left := d.left - 1, st := 2 } else { d with out := d.out ++ [c], left := d.left - 1 }

set_option maxRecDepth 100000 in
set_option maxHeartbeats 1000000 in
theorem rest_walk (S : Nat → Prop) (b : Nat) (d : DS) (c : UInt8) (W : World) (hd : DecAt W S b d) (ho : d.out.length ≤ 2000000) (hs : d.sum ≤ 1048576) :
    Calls Tryd.prog 35 #[.pointer (some ⟨b, 0, none⟩), .int .u8 (c.toNat : Int)] W fun e W' => e = .returned (.tuple #[]) ∧ Moved S b (restF d c) W W' := by
  obtain ⟨vo, vu, Fo, Fu, h⟩ := hd
  obtain ⟨⟨_, _, _, c3, _, _, _, c7⟩, _, _, f3, _, _, _, f7⟩ := h.facts
  have HSB := h.sb
  have H := Lib.hid h
  clear h
  by_cases hm : d.sum = 1048576
  · have hr : restF d c = { d with e := 3 } := if_pos hm
    have HR := Lib.hid hr
    have hq : ((d.sum : Int) == 1048576) = true := by rw [hm]; rfl
    clear hm hr
    go_enter Tryd.func35, Tryd.ntmps35
    go_wp2
    refine bodyPost_ret (results_none rfl _ _ _) rfl ?_
    refine ⟨rfl, ?_⟩
    rw [HR.out]
    exact Moved.set (Tch.refl _ _) (fun _ h => .inl h) H.out 7 (.int .i64 (3 : Nat)) HSB (H.out.putE 3)
  · have hr : restF d c = { d with sum := d.sum + 1, out := d.out ++ [c] } := if_neg hm
    have HR := Lib.hid hr
    have hq : ((d.sum : Int) == 1048576) = false := by simp; omega
    have hsI : (d.sum : Int) ≤ 1048576 := by omega
    have H1 := Lib.hid (H.out.putSum (d.sum + 1))
    have HM := Lib.hid hm
    clear hm hr
    go_enter Tryd.func35, Tryd.ntmps35
    go_wp2_with fail
    refine (put_walk S b { d with sum := d.sum + 1 } c _ H1.out.at_ ho).mono ?_
    rintro e w2 ⟨rfl, hm2⟩
    have HM2 := Lib.hid hm2
    clear hm2 c3 c7 f3 f7
    go_wp2
    go_end0
    refine ⟨rfl, ?_⟩
    rw [HR.out]
    exact Moved.trans ((Tch.refl S W).setCell (.inl HSB) _) (fun _ h => .inl h) HM2.out

set_option maxRecDepth 100000 in
set_option maxHeartbeats 1000000 in
theorem length_walk (S : Nat → Prop) (b : Nat) (d : DS) (c : UInt8) (W : World) (hd : DecAt W S b d) (ho : d.out.length ≤ 2000000) (hl : 1 ≤ d.left) (hl2 : d.left ≤ 1048576) :
    Calls Tryd.prog 34 #[.pointer (some ⟨b, 0, none⟩), .int .u8 (c.toNat : Int)] W fun e W' => e = .returned (.tuple #[]) ∧ Moved S b (lengthF d c) W W' := by
  have HSB : S b := by obtain ⟨_, _, _, _, h⟩ := hd; exact h.sb
  obtain ⟨m, hm⟩ : ∃ m, d.left = m + 1 := ⟨d.left - 1, by omega⟩
  have hr : lengthF d c = { { { d with out := d.out ++ [c] } with left := m } with done := m == 0 } := by unfold lengthF; rw [hm]; rfl
  have HR := Lib.hid hr
  have HM := Lib.hid hm
  have HD := Lib.hid hd
  have hmI : (m : Int) ≤ 1048576 := by omega
  clear hr hm hd hl hl2
  go_enter Tryd.func34, Tryd.ntmps34
  go_wp2_with fail
  refine (put_walk S b d c _ HD.out ho).mono ?_
  rintro e w2 ⟨rfl, t2, S2, hS2, vo, vu, Fo, Fu, h2⟩
  have hf := h2.facts
  simp only [HM.out] at hf
  obtain ⟨⟨_, _, c2, _, _, _, c6, _⟩, _, f2, _, _, _, f6, _⟩ := hf
  have H2 := Lib.hid h2
  have T2 := Lib.hid t2
  have HS2 := Lib.hid hS2
  have hq : ((m : Int) == 0) = (m == 0) := by rw [Bool.eq_iff_iff]; simp
  have HQ := Lib.hid hq
  clear h2 t2 hS2 hq
  go_wp2
  go_end0
  refine ⟨rfl, ?_⟩
  rw [HR.out]
  have h3 := (H2.out.putLeft m).putDone (m == 0)
  rw [← HQ.out] at h3
  exact Moved.set (T2.out.setCell (.inl HSB) _) HS2.out (H2.out.putLeft m) 6 _ HSB (by rw [HQ.out] at h3 ⊢; exact h3)
set_option maxRecDepth 100000 in
set_option maxHeartbeats 1000000 in
theorem data_walk (S : Nat → Prop) (b : Nat) (d : DS) (c : UInt8) (W : World) (hd : DecAt W S b d) (ho : d.out.length ≤ 2000000) (hl : 1 ≤ d.left) (hl2 : d.left ≤ 1048576) :
    Calls Tryd.prog 31 #[.pointer (some ⟨b, 0, none⟩), .int .u8 (c.toNat : Int)] W fun e W' => e = .returned (.tuple #[]) ∧ Moved S b (dataF d c) W W' := by
  have HSB : S b := by obtain ⟨_, _, _, _, h⟩ := hd; exact h.sb
  obtain ⟨m, hm⟩ : ∃ m, d.left = m + 1 := ⟨d.left - 1, by omega⟩
  have hr : dataF d c = if m = 0 then { { { d with out := d.out ++ [c] } with left := m } with st := 2 } else { { d with out := d.out ++ [c] } with left := m } := by unfold dataF; rw [hm]; rfl
  have HR := Lib.hid hr
  have HM := Lib.hid hm
  have HD := Lib.hid hd
  have hmI : (m : Int) ≤ 1048576 := by omega
  clear hr hm hd hl hl2
  go_enter Tryd.func31, Tryd.ntmps31
  go_wp2_with fail
  refine (put_walk S b d c _ HD.out ho).mono ?_
  rintro e w2 ⟨rfl, t2, S2, hS2, vo, vu, Fo, Fu, h2⟩
  have hf := h2.facts
  simp only [HM.out] at hf
  obtain ⟨⟨_, c1, c2, _, _, _, c6, _⟩, f1, f2, _, _, _, f6, _⟩ := hf
  have H2 := Lib.hid h2
  have T2 := Lib.hid t2
  have HS2 := Lib.hid hS2
  clear h2 t2 hS2
  by_cases h0 : m = 0
  · have hr := HR.out
    rw [if_pos h0] at hr
    have HR := Lib.hid hr
    have hq : ((m : Int) == 0) = true := by rw [h0]; rfl
    clear h0 hr
    go_wp2
    go_end0
    refine ⟨rfl, ?_⟩
    rw [HR.out]
    exact Moved.set (T2.out.setCell (.inl HSB) _) HS2.out (H2.out.putLeft m) 1 (.int .i64 (2 : Nat)) HSB ((H2.out.putLeft m).putSt 2)
  · have hr := HR.out
    rw [if_neg h0] at hr
    have HR := Lib.hid hr
    have hq : ((m : Int) == 0) = false := by simp; omega
    clear h0 hr
    go_wp2
    go_end0
    refine ⟨rfl, ?_⟩
    rw [HR.out]
    exact Moved.set T2.out HS2.out H2.out 2 (.int .i64 (m : Nat)) HSB (H2.out.putLeft m)
set_option maxRecDepth 100000 in
theorem none_walk (W : World) (b : Nat) (h : W.cell? ⟨b, 0, none⟩ = some (.bool true)) :
    Calls Tryd.prog 29 #[.pointer (some ⟨b, 0, none⟩)] W fun e W' => e = .returned (.bool false) ∧ W = W' := by
  go_enter Tryd.func29, Tryd.ntmps29
  go_wp2
  go_ret
  exact ⟨rfl, rfl⟩
end Go.Proofs.YtkfiafclddnaoaaDoor.Tk
