/- The reference's decoder in memory; New, ended, End. -/
import Derived.Test.YtkfiafclddnaoaaDoorRef9
import Derived.Test.YtkfiafclddnaoaaDoorNewEnd
set_option linter.unusedVariables false
set_option linter.unusedSimpArgs false
namespace Go.Proofs.YtkfiafclddnaoaaDoor.Tk
open Go.RowKit Go.Proofs.YtkfiafclddnaoaaDoorW.PrintWords Go.Proofs.YtkfiafclddnaoaaDoorW.PrintLast Go.Proofs.YtkfiafclddnaoaaDoor.Rw

structure RS where
  kind : Nat
  left : Nat
  sum : Nat
  part : Nat
  own : Bs
  done : Bool
  e : Nat
def RS.vals (y : RS) : List Value := [.int .i64 y.kind, .int .i64 y.left, .int .i64 y.sum, .int .i64 y.part, .string (sb y.own), .bool y.done, .int .i64 y.e]
def RAt (W : World) (b : Nat) (y : RS) : Prop := Seg W b 0 y.vals
def RF (b : Nat) : Nat → Prop := fun k => k = b
namespace RAt
variable {W W' : World} {b : Nat} {y : RS}
theorem cell (h : RAt W b y) (i : Nat) (u : Value) (hu : y.vals[i]? = some u) : W.cell? ⟨b, i, none⟩ = some u ∧ W.frozen? ⟨b, i, none⟩ = false := by
  have := h i u hu
  rwa [Nat.zero_add] at this
theorem facts (h : RAt W b y) :
    (W.cell? ⟨b, 0, none⟩ = some (.int .i64 y.kind) ∧ W.cell? ⟨b, 1, none⟩ = some (.int .i64 y.left) ∧ W.cell? ⟨b, 2, none⟩ = some (.int .i64 y.sum) ∧ W.cell? ⟨b, 3, none⟩ = some (.int .i64 y.part) ∧
      W.cell? ⟨b, 4, none⟩ = some (.string (sb y.own)) ∧ W.cell? ⟨b, 5, none⟩ = some (.bool y.done) ∧ W.cell? ⟨b, 6, none⟩ = some (.int .i64 y.e)) ∧
    (W.frozen? ⟨b, 1, none⟩ = false ∧ W.frozen? ⟨b, 2, none⟩ = false ∧ W.frozen? ⟨b, 3, none⟩ = false ∧ W.frozen? ⟨b, 4, none⟩ = false ∧ W.frozen? ⟨b, 5, none⟩ = false ∧ W.frozen? ⟨b, 6, none⟩ = false) :=
  ⟨⟨(h.cell 0 _ rfl).1, (h.cell 1 _ rfl).1, (h.cell 2 _ rfl).1, (h.cell 3 _ rfl).1, (h.cell 4 _ rfl).1, (h.cell 5 _ rfl).1, (h.cell 6 _ rfl).1⟩,
    (h.cell 1 _ rfl).2, (h.cell 2 _ rfl).2, (h.cell 3 _ rfl).2, (h.cell 4 _ rfl).2, (h.cell 5 _ rfl).2, (h.cell 6 _ rfl).2⟩
theorem blt (h : RAt W b y) : b < W.heap.size := lt_of_cell (h.cell 0 _ rfl).1
theorem keep (h : RAt W b y) (hb : W'.heap[b]? = W.heap[b]?) : RAt W' b y := Seg.block h hb
theorem below (h : RAt W b y) (hb : Below W.heap.size W W') : RAt W' b y := h.keep (hb.block b h.blt)
theorem drewN (h : RAt W b y) (n : Nat) : RAt (W.drewN n) b y := h.keep rfl
theorem drew (h : RAt W b y) : RAt W.drew b y := h.keep rfl
theorem put {y' : RS} (h : RAt W b y) (i : Nat) (u : Value) (hi : i < 7) (he : y.vals.set i u = y'.vals) : RAt (W.setCell ⟨b, i, none⟩ u) b y' := by
  have := Seg.set h i hi u
  rwa [Nat.zero_add, he] at this
theorem putLeft (h : RAt W b y) (n : Nat) : RAt (W.setCell ⟨b, 1, none⟩ (.int .i64 n)) b { y with left := n } := h.put 1 _ (by omega) rfl
theorem putSum (h : RAt W b y) (n : Nat) : RAt (W.setCell ⟨b, 2, none⟩ (.int .i64 n)) b { y with sum := n } := h.put 2 _ (by omega) rfl
theorem putPart (h : RAt W b y) (n : Nat) : RAt (W.setCell ⟨b, 3, none⟩ (.int .i64 n)) b { y with part := n } := h.put 3 _ (by omega) rfl
theorem putOwn (h : RAt W b y) (l : Bs) : RAt (W.setCell ⟨b, 4, none⟩ (.string (sb l))) b { y with own := l } := h.put 4 _ (by omega) rfl
theorem putDone (h : RAt W b y) (t : Bool) : RAt (W.setCell ⟨b, 5, none⟩ (.bool t)) b { y with done := t } := h.put 5 _ (by omega) rfl
theorem putE (h : RAt W b y) (n : Nat) : RAt (W.setCell ⟨b, 6, none⟩ (.int .i64 n)) b { y with e := n } := h.put 6 _ (by omega) rfl
end RAt

theorem rt {W W' : World} {b : Nat} (i : Nat) (u : Value) (t : Tch (RF b) W W') : Tch (RF b) W (W'.setCell ⟨b, i, none⟩ u) := t.setCell (p := ⟨b, i, none⟩) (.inl rfl) u

/-! ### ended -/
def endedR (y : RS) (s : Bs) : RS :=
  match y.part with
  | 0 => match sizeF s with
    | none => { y with e := 32 }
    | some n => if 1048576 < y.sum + n then { y with e := 3 } else if n = 0 then { y with sum := y.sum + n, left := n, part := 3 } else { y with sum := y.sum + n, left := n, part := 1 }
  | 2 => if s = [] then { y with part := 0 } else { y with e := 32, part := 0 }
  | _ => if s = [] then { y with done := true } else { y with e := perr (parseF s) }
theorem size_lt (l : Bs) (n : Nat) (hn : sizeF l = some n) : n ≤ 4294967295 := by
  unfold sizeF at hn
  split at hn
  · cases hn
  · exact hxGo_le _ _ _ hn (by omega)
set_option maxRecDepth 100000 in
set_option maxHeartbeats 1000000 in
theorem ended_walk (b : Nat) (y : RS) (s : Bs) (W : World) (h : RAt W b y) (hp : y.part ≤ 3 ∧ y.part ≠ 1) (hs : s.length ≤ 2000) (hsum : y.sum ≤ 1048576) :
    Calls Tryd.prog 36 #[.pointer (some ⟨b, 0, none⟩), .string (sb s)] W fun e W' => e = .returned (.tuple #[]) ∧ Tch (RF b) W W' ∧ RAt W' b (endedR y s) := by
  obtain ⟨⟨c0, c1, c2, c3, c4, c5, c6⟩, f1, f2, f3, f4, f5, f6⟩ := h.facts
  have hb := h.blt
  have H := Lib.hid h
  clear h
  have hsI : (y.sum : Int) ≤ 1048576 := by omega
  rcases (show y.part = 0 ∨ y.part = 2 ∨ y.part = 3 by omega) with hq | hq | hq
  · rw [hq] at c3
    have hr : endedR y s = match sizeF s with
      | none => { y with e := 32 }
      | some n => if 1048576 < y.sum + n then { y with e := 3 } else if n = 0 then { y with sum := y.sum + n, left := n, part := 3 } else { y with sum := y.sum + n, left := n, part := 1 } := by unfold endedR; rw [hq]; rfl
    have HR := Lib.hid hr
    have hsz := rsize_walk (sb s)
    rw [bl_sb] at hsz
    have HSZ := Lib.hid hsz
    have hlt := size_lt s
    have hsi : sizeI s = match sizeF s with | some n => (n : Int) | none => -1 := rfl
    have HSI := Lib.hid hsi
    clear hr hsz hsi hq hp
    go_enter Tryd.func36, Tryd.ntmps36
    go_wp2_with fail
    refine (HSZ.out W (by rw [sb_size]; omega)).mono ?_
    rw [HSI.out]
    generalize sizeF s = R at HR hlt ⊢
    rintro e w1 ⟨rfl, rfl⟩
    cases R with
    | none =>
      simp only
      go_wp2
      refine bodyPost_ret (results_none rfl _ _ _) rfl ?_
      refine ⟨rfl, rt _ _ (Tch.refl _ _), ?_⟩
      rw [HR.out]
      exact H.out.putE 32
    | some n =>
      simp only
      have hn := hlt n rfl
      have hnI : (n : Int) ≤ 4294967295 := by omega
      have hn0 : 0 ≤ (n : Int) := by omega
      have hn1 : ¬ (n : Int) < 0 := by omega
      have hR3 := HR.out
      simp only at hR3
      have HR3 := Lib.hid hR3
      clear HR hR3 hlt
      by_cases hbig : 1048576 < y.sum + n
      · have hbI : (1048576 : Int) < (y.sum : Int) + n := by omega
        go_wp2
        refine bodyPost_ret (results_none rfl _ _ _) rfl ?_
        refine ⟨rfl, rt _ _ (Tch.refl _ _), ?_⟩
        rw [HR3.out, if_pos hbig]
        exact H.out.putE 3
      · have hbI : ¬ (1048576 : Int) < (y.sum : Int) + n := by omega
        by_cases h0 : n = 0
        · have hq : ((n : Int) == 0) = true := by rw [h0]; rfl
          have HH := Lib.hid h0
          clear h0
          go_wp2
          first | go_end0 | refine bodyPost_ret (results_none rfl _ _ _) rfl ?_
          refine ⟨rfl, rt _ _ (rt _ _ (rt _ _ (rt _ _ (Tch.refl _ _)))), ?_⟩
          rw [HR3.out, if_neg hbig, if_pos HH.out]
          exact (((H.out.putSum (y.sum + n)).putLeft n).putPart 1).putPart 3
        · have hq : ((n : Int) == 0) = false := by simp; omega
          have HH := Lib.hid h0
          clear h0
          go_wp2
          first | go_end0 | refine bodyPost_ret (results_none rfl _ _ _) rfl ?_
          refine ⟨rfl, rt _ _ (rt _ _ (rt _ _ (Tch.refl _ _))), ?_⟩
          rw [HR3.out, if_neg hbig, if_neg HH.out]
          exact ((H.out.putSum (y.sum + n)).putLeft n).putPart 1
  · rw [hq] at c3
    have hr : endedR y s = if s = [] then { y with part := 0 } else { y with e := 32, part := 0 } := by unfold endedR; rw [hq]; rfl
    have HR := Lib.hid hr
    clear hr hq hp
    by_cases h0 : s = []
    · have hD : endedR y s = { y with part := 0 } := by rw [HR.out, if_pos h0]
      have HD := Lib.hid hD
      have he : (sb s).toList.isEmpty = true := by rw [toList_bl, bl_sb, h0]; rfl
      have he' : (sb s).toList = [] := by rw [toList_bl, bl_sb, h0]
      generalize sb s = ss at he he'
      clear hD h0 HR
      go_enter Tryd.func36, Tryd.ntmps36
      go_wp2
      first | go_end0 | refine bodyPost_ret (results_none rfl _ _ _) rfl ?_
      refine ⟨rfl, rt _ _ (Tch.refl _ _), ?_⟩
      rw [HD.out]
      exact H.out.putPart 0
    · have hD : endedR y s = { { y with e := 32 } with part := 0 } := by rw [HR.out, if_neg h0]
      have HD := Lib.hid hD
      have he : (sb s).toList.isEmpty = false := by rw [toList_bl, bl_sb]; exact List.isEmpty_eq_false_iff.2 h0
      have he' : ¬ (sb s).toList = [] := by rw [toList_bl, bl_sb]; exact h0
      generalize sb s = ss at he he'
      clear hD h0 HR
      go_enter Tryd.func36, Tryd.ntmps36
      go_wp2
      first | go_end0 | refine bodyPost_ret (results_none rfl _ _ _) rfl ?_
      refine ⟨rfl, rt _ _ (rt _ _ (Tch.refl _ _)), ?_⟩
      rw [HD.out]
      exact (H.out.putE 32).putPart 0
  · rw [hq] at c3
    have hr : endedR y s = if s = [] then { y with done := true } else { y with e := perr (parseF s) } := by unfold endedR; rw [hq]; rfl
    have HR := Lib.hid hr
    clear hr hq hp
    by_cases h0 : s = []
    · have hD : endedR y s = { y with done := true } := by rw [HR.out, if_pos h0]
      have HD := Lib.hid hD
      have he : (sb s).toList.isEmpty = true := by rw [toList_bl, bl_sb, h0]; rfl
      have he' : (sb s).toList = [] := by rw [toList_bl, bl_sb, h0]
      generalize sb s = ss at he he'
      clear hD h0 HR
      go_enter Tryd.func36, Tryd.ntmps36
      go_wp2
      first | go_end0 | refine bodyPost_ret (results_none rfl _ _ _) rfl ?_
      refine ⟨rfl, rt _ _ (Tch.refl _ _), ?_⟩
      rw [HD.out]
      exact H.out.putDone true
    · have hD : endedR y s = { y with e := perr (parseF s) } := by rw [HR.out, if_neg h0]
      have HD := Lib.hid hD
      have hpar := rparse_walk (sb s)
      rw [bl_sb] at hpar
      have he : (sb s).toList.isEmpty = false := by rw [toList_bl, bl_sb]; exact List.isEmpty_eq_false_iff.2 h0
      have he' : ¬ (sb s).toList = [] := by rw [toList_bl, bl_sb]; exact h0
      have hz : (sb s).size ≤ 500000 := by rw [sb_size]; omega
      have HPAR := Lib.hid hpar
      generalize sb s = ss at he he' HPAR hz
      generalize parseF s = R at HD HPAR
      clear hD h0 HR hpar
      go_enter Tryd.func36, Tryd.ntmps36
      go_wp2_with fail
      refine (HPAR.out W hz).mono ?_
      rintro e w1 ⟨rfl, hb1⟩
      have h1 := H.out.below hb1
      have hsz1 := hb1.size
      have HB1 := Lib.hid hb1
      have H1 := Lib.hid h1
      obtain ⟨a, bq, hfv⟩ : ∃ a bq : ByteArray, fieldV R = .agg #[.string a, .string bq] := by
        cases R with
        | none => exact ⟨_, _, rfl⟩
        | some q => obtain ⟨q1, q2⟩ := q; exact ⟨_, _, rfl⟩
      rw [hfv]
      have hc6 := h1.facts.1.2.2.2.2.2.2
      have hf6 := h1.facts.2.2.2.2.2.2
      have hb1' : b < w1.heap.size := by omega
      clear hfv h1 hb1 c0 c1 c2 c3 c4 c5 c6 f1 f2 f3 f4 f5 f6
      go_wp2
      first | go_end0 | refine bodyPost_ret (results_none rfl _ _ _) rfl ?_
      refine ⟨rfl, ?_, ?_⟩
      · exact (rt _ _ (Tch.of_below HB1.out (RF b))).alloc _
      · rw [HD.out]
        exact (H1.out.putE (perr R)).below ((Below.refl _ _).alloc (Nat.le_refl _) _)

/-! ### New -/
def newR (kind n : Int) : RS := { kind := kind.toNat, left := n.toNat, sum := 0, part := 0, own := [], done := decide (kind = 0 ∨ (kind = 1 ∧ n = 0)), e := 0 }
def NewRP (kind n : Int) (W : World) (e : Ending) (W' : World) : Prop :=
  Below W.heap.size W W' ∧ ((newBad kind n ≠ 0 ∧ e = .returned (.tuple #[.pointer none, .int .i64 (newBad kind n)])) ∨
    (newBad kind n = 0 ∧ ∃ b, e = .returned (.tuple #[.pointer (some ⟨b, 0, none⟩), .int .i64 (0 : Nat)]) ∧ W.heap.size ≤ b ∧ RAt W' b (newR kind n)))
theorem newr_at (W : World) (y : RS) (v : Array Value) (hv : v = y.vals.toArray) : RAt (W.alloc (.cells v 74)) W.heap.size y := by
  subst hv
  intro j u hj
  have hg := heap_alloc_new W (.cells y.vals.toArray 74)
  unfold World.cell? World.frozen?
  simp only [hg, Nat.zero_add]
  exact ⟨by simpa using hj, by simp⟩
theorem newr_fin {W : World} (y : RS) (v : Array Value) (hv : v = y.vals.toArray) :
    ∃ (b : Nat), Ending.returned (.tuple #[.pointer (some ⟨W.heap.size, 0, none⟩), .int .i64 0]) = .returned (.tuple #[.pointer (some ⟨b, 0, none⟩), .int .i64 (0 : Nat)]) ∧ W.heap.size ≤ b ∧ RAt (W.alloc (.cells v 74)) b y :=
  ⟨_, rfl, Nat.le_refl _, newr_at W y v hv⟩
set_option maxRecDepth 100000 in
set_option maxHeartbeats 2000000 in
theorem newr_walk (kind n : Int) (W : World) : Calls Tryd.prog 21 #[.int .i64 kind, .int .i64 n] W (NewRP kind n W) := by
  by_cases hb : kind < 0 ∨ 3 < kind ∨ n < 0 ∨ (0 < n ∧ kind ≠ 1)
  · have hr : newBad kind n = 2 := if_pos hb
    have HR := Lib.hid hr
    rcases (show kind < 0 ∨ (¬ kind < 0 ∧ 3 < kind) ∨ (¬ kind < 0 ∧ ¬ 3 < kind ∧ n < 0) ∨ (¬ kind < 0 ∧ ¬ 3 < kind ∧ ¬ n < 0 ∧ 0 < n ∧ kind ≠ 1) by omega) with h1 | ⟨h1, h2⟩ | ⟨h1, h2, h3⟩ | ⟨h1, h2, h3, h4, h5⟩
    all_goals
      (try have h5' : (kind != 1) = true := by simpa using h5)
      clear hr hb
      (try clear h5)
      go_enter Tryd.func21, Tryd.ntmps21
      go_wp2
      go_ret2
      exact ⟨Below.refl _ _, .inl ⟨by rw [HR.out]; omega, by rw [HR.out]; rfl⟩⟩
  · by_cases hg : 1048576 < n
    · have hr : newBad kind n = 3 := by unfold newBad; rw [if_neg hb, if_pos hg]
      have HR := Lib.hid hr
      obtain rfl : kind = 1 := by omega
      have h3 : ¬ n < 0 := by omega
      clear hr hb
      go_enter Tryd.func21, Tryd.ntmps21
      go_wp2
      go_ret2
      exact ⟨Below.refl _ _, .inl ⟨by rw [HR.out]; omega, by rw [HR.out]; rfl⟩⟩
    · have hr : newBad kind n = 0 := by unfold newBad; rw [if_neg hb, if_neg hg]
      have HR := Lib.hid hr
      rcases (show (kind = 0 ∧ n = 0) ∨ (kind = 1 ∧ n = 0) ∨ (kind = 1 ∧ 0 < n) ∨ (kind = 2 ∧ n = 0) ∨ (kind = 3 ∧ n = 0) by omega) with ⟨rfl, rfl⟩ | ⟨rfl, rfl⟩ | ⟨rfl, h1⟩ | ⟨rfl, rfl⟩ | ⟨rfl, rfl⟩
      · clear hr hb hg
        go_enter Tryd.func21, Tryd.ntmps21
        go_wp2
        go_ret2
        exact ⟨(Below.refl _ _).alloc (Nat.le_refl _) _, .inr ⟨HR.out, newr_fin (newR 0 0) _ rfl⟩⟩
      · clear hr hb hg
        go_enter Tryd.func21, Tryd.ntmps21
        go_wp2
        go_ret2
        exact ⟨(Below.refl _ _).alloc (Nat.le_refl _) _, .inr ⟨HR.out, newr_fin (newR 1 0) _ rfl⟩⟩
      · obtain ⟨m, rfl⟩ : ∃ m : Nat, n = m := ⟨n.toNat, by omega⟩
        have h1I : 0 < (m : Int) := h1
        have hq : ((m : Int) == 0) = false := by simp; omega
        have hv : (newR 1 m).vals = [.int .i64 1, .int .i64 m, .int .i64 0, .int .i64 0, .string ⟨#[]⟩, .bool false, .int .i64 0] := by
          unfold newR RS.vals
          have : decide ((1 : Int) = 0 ∨ ((1 : Int) = 1 ∧ (m : Int) = 0)) = false := by simp; omega
          rw [this]; rfl
        have HV := Lib.hid hv
        have h3 : ¬ (m : Int) < 0 := by omega
        clear hr hb h1 hv
        go_enter Tryd.func21, Tryd.ntmps21
        go_wp2
        go_ret2
        exact ⟨(Below.refl _ _).alloc (Nat.le_refl _) _, .inr ⟨HR.out, newr_fin (newR 1 m) _ (by rw [HV.out])⟩⟩
      · clear hr hb hg
        go_enter Tryd.func21, Tryd.ntmps21
        go_wp2
        go_ret2
        exact ⟨(Below.refl _ _).alloc (Nat.le_refl _) _, .inr ⟨HR.out, newr_fin (newR 2 0) _ rfl⟩⟩
      · clear hr hb hg
        go_enter Tryd.func21, Tryd.ntmps21
        go_wp2
        go_ret2
        exact ⟨(Below.refl _ _).alloc (Nat.le_refl _) _, .inr ⟨HR.out, newr_fin (newR 3 0) _ rfl⟩⟩

/-! ### End -/
def stopsR (y : RS) : Bool := y.done || y.e != 0
def endR (y : RS) : RS := if stopsR y then y else if y.kind = 3 then { y with done := true } else { y with e := 20 }
set_option maxRecDepth 100000 in
set_option maxHeartbeats 2000000 in
theorem endr_walk (b : Nat) (y : RS) (W : World) (h : RAt W b y) :
    Calls Tryd.prog 24 #[.pointer (some ⟨b, 0, none⟩)] W fun e W' => e = .returned (.tuple #[.bool (endR y).done, .int .i64 (endR y).e]) ∧ Tch (RF b) W W' ∧ RAt W' b (endR y) := by
  obtain ⟨⟨c0, _, _, _, _, c5, c6⟩, _, _, _, _, f5, f6⟩ := h.facts
  have H := Lib.hid h
  clear h
  by_cases hs : stopsR y = true
  · have hr : endR y = y := if_pos hs
    have HR := Lib.hid hr
    have hways : ((y.e : Int) == 0) = false ∨ (((y.e : Int) == 0) = true ∧ y.done = true) := by
      unfold stopsR at hs
      cases hd : y.done with
      | true =>
        by_cases he : y.e = 0
        · exact .inr ⟨by rw [he]; rfl, rfl⟩
        · exact .inl (by simp; exact he)
      | false =>
        rw [hd] at hs
        simp only [Bool.false_or, bne_iff_ne, ne_eq] at hs
        exact .inl (by simp; exact hs)
    clear hs hr
    rcases hways with hq | ⟨hq, hd⟩
    · go_enter Tryd.func24, Tryd.ntmps24
      go_wp2
      go_quiet (fail)
      go_wp2
      go_ret2
      exact ⟨by rw [HR.out]; rfl, (Tch.refl _ _).drewN _, by rw [HR.out]; exact H.out.drewN _⟩
    · have HD := Lib.hid hd
      rw [hd] at c5
      clear hd
      go_enter Tryd.func24, Tryd.ntmps24
      go_wp2
      go_quiet (fail)
      go_wp2
      go_ret2
      exact ⟨by rw [HR.out, HD.out]; rfl, (Tch.refl _ _).drewN _, by rw [HR.out]; exact H.out.drewN _⟩
  · have hs' : y.done = false ∧ y.e = 0 := by
      unfold stopsR at hs
      simpa using hs
    obtain ⟨hdn, he⟩ := hs'
    rw [hdn] at c5
    rw [he] at c6
    by_cases h3 : y.kind = 3
    · have hr : endR y = { y with done := true } := by unfold endR; rw [if_neg hs, if_pos h3]
      have HR := Lib.hid hr
      rw [h3] at c0
      have HE := Lib.hid he
      have hp := H.out.putDone true
      have k6 := hp.facts.1.2.2.2.2.2.2
      have k5 := hp.facts.1.2.2.2.2.2.1
      simp only [he] at k6
      have HP := Lib.hid hp
      clear hs hr hdn he h3 hp
      go_enter Tryd.func24, Tryd.ntmps24
      go_wp2
      go_quiet (fail)
      go_wp2
      go_ret2
      exact ⟨by rw [HR.out, HE.out]; rfl, (rt _ _ (Tch.refl _ _)).drewN _, by rw [HR.out]; exact HP.out.drewN _⟩
    · have hr : endR y = { y with e := 20 } := by unfold endR; rw [if_neg hs, if_neg h3]
      have HR := Lib.hid hr
      have hq : ((y.kind : Int) == 3) = false := by simp; omega
      have HE := Lib.hid hdn
      have hp := H.out.putE 20
      have k6 := hp.facts.1.2.2.2.2.2.2
      have k5 := hp.facts.1.2.2.2.2.2.1
      simp only [hdn] at k5
      have HP := Lib.hid hp
      clear hs hr hdn he h3 hp
      go_enter Tryd.func24, Tryd.ntmps24
      go_wp2
      go_quiet (fail)
      go_wp2
      go_ret2
      exact ⟨by rw [HR.out, HE.out]; rfl, (rt _ _ (Tch.refl _ _)).drewN _, by rw [HR.out]; exact HP.out.drewN _⟩
end Go.Proofs.YtkfiafclddnaoaaDoor.Tk
