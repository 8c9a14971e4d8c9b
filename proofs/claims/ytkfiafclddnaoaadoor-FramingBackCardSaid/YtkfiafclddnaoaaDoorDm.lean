/- The program's decoder of bodies in memory: its struct, what its lines hold, what it has told; and the small methods. -/
import Derived.Test.YtkfiafclddnaoaaDoorTok2
set_option linter.unusedVariables false
set_option linter.unusedSimpArgs false
namespace Go.Proofs.YtkfiafclddnaoaaDoor.Tk
open Go.RowKit Go.Proofs.YtkfiafclddnaoaaDoorW.PrintWords Go.Proofs.YtkfiafclddnaoaaDoorW.PrintLast Go.Proofs.YtkfiafclddnaoaaDoor.Rw

structure DS where
  st : Nat
  left : Nat
  sum : Nat
  own : Bs
  out : Bs
  done : Bool
  e : Nat
def DS.vals (d : DS) (vo vu : Value) : List Value :=
  [.bool true, .int .i64 d.st, .int .i64 d.left, .int .i64 d.sum, vo, vu, .bool d.done, .int .i64 d.e]
/-- The decoder at block b; S: the blocks that are its own. -/
structure Dec (W : World) (S : Nat → Prop) (b : Nat) (d : DS) (vo vu : Value) (Fo Fu : Nat → Prop) : Prop where
  cells : Seg W b 0 (d.vals vo vu)
  own : Row W Fo 1 vo d.own.length (nums .u8 (ib d.own))
  out : Row W Fu 1 vu d.out.length (nums .u8 (ib d.out))
  so : ∀ k, Fo k → S k ∧ k ≠ b
  su : ∀ k, Fu k → S k ∧ k ≠ b
  ap : ∀ k, Fo k → Fu k → False
  sb : S b
  lt : ∀ k, S k → k < W.heap.size
def DecAt (W : World) (S : Nat → Prop) (b : Nat) (d : DS) : Prop := ∃ vo vu Fo Fu, Dec W S b d vo vu Fo Fu
/-- What a call on a decoder leaves. -/
def Moved (S : Nat → Prop) (b : Nat) (d' : DS) (W W' : World) : Prop := Tch S W W' ∧ ∃ S', (∀ k, S' k → S k ∨ W.heap.size ≤ k) ∧ DecAt W' S' b d'
theorem Moved.refl {S : Nat → Prop} {b : Nat} {d : DS} {W : World} (h : DecAt W S b d) : Moved S b d W W := ⟨Tch.refl _ _, S, fun _ h => .inl h, h⟩
theorem Moved.trans {S S1 : Nat → Prop} {b : Nat} {d : DS} {W W1 W2 : World} (t : Tch S W W1) (hs : ∀ k, S1 k → S k ∨ W.heap.size ≤ k) (h : Moved S1 b d W1 W2) : Moved S b d W W2 := by
  obtain ⟨t2, S2, h2, h3⟩ := h
  refine ⟨t.trans t2 hs, S2, fun k hk => ?_, h3⟩
  rcases h2 k hk with h | h
  · exact hs k h
  · exact .inr (Nat.le_trans t.size h)
namespace Dec
variable {W W' : World} {S : Nat → Prop} {b : Nat} {d : DS} {vo vu : Value} {Fo Fu : Nat → Prop}
theorem at_ (h : Dec W S b d vo vu Fo Fu) : DecAt W S b d := ⟨vo, vu, Fo, Fu, h⟩
theorem cell (h : Dec W S b d vo vu Fo Fu) (i : Nat) (u : Value) (hu : (d.vals vo vu)[i]? = some u) : W.cell? ⟨b, i, none⟩ = some u ∧ W.frozen? ⟨b, i, none⟩ = false := by
  have := h.cells i u hu
  rwa [Nat.zero_add] at this
theorem facts (h : Dec W S b d vo vu Fo Fu) :
    (W.cell? ⟨b, 0, none⟩ = some (.bool true) ∧ W.cell? ⟨b, 1, none⟩ = some (.int .i64 d.st) ∧ W.cell? ⟨b, 2, none⟩ = some (.int .i64 d.left) ∧ W.cell? ⟨b, 3, none⟩ = some (.int .i64 d.sum) ∧
      W.cell? ⟨b, 4, none⟩ = some vo ∧ W.cell? ⟨b, 5, none⟩ = some vu ∧ W.cell? ⟨b, 6, none⟩ = some (.bool d.done) ∧ W.cell? ⟨b, 7, none⟩ = some (.int .i64 d.e)) ∧
    (W.frozen? ⟨b, 1, none⟩ = false ∧ W.frozen? ⟨b, 2, none⟩ = false ∧ W.frozen? ⟨b, 3, none⟩ = false ∧ W.frozen? ⟨b, 4, none⟩ = false ∧ W.frozen? ⟨b, 5, none⟩ = false ∧ W.frozen? ⟨b, 6, none⟩ = false ∧ W.frozen? ⟨b, 7, none⟩ = false) :=
  ⟨⟨(h.cell 0 _ rfl).1, (h.cell 1 _ rfl).1, (h.cell 2 _ rfl).1, (h.cell 3 _ rfl).1, (h.cell 4 _ rfl).1, (h.cell 5 _ rfl).1, (h.cell 6 _ rfl).1, (h.cell 7 _ rfl).1⟩,
    (h.cell 1 _ rfl).2, (h.cell 2 _ rfl).2, (h.cell 3 _ rfl).2, (h.cell 4 _ rfl).2, (h.cell 5 _ rfl).2, (h.cell 6 _ rfl).2, (h.cell 7 _ rfl).2⟩
theorem blt (h : Dec W S b d vo vu Fo Fu) : b < W.heap.size := h.lt b h.sb
/-- Nothing of it turns where nothing of S does. -/
theorem keep (h : Dec W S b d vo vu Fo Fu) (hs : W.heap.size ≤ W'.heap.size) (hb : ∀ k, S k → W'.heap[k]? = W.heap[k]?) : Dec W' S b d vo vu Fo Fu :=
  ⟨h.cells.block (hb b h.sb), h.own.keep hs fun k hk _ => hb k (h.so k hk).1, h.out.keep hs fun k hk _ => hb k (h.su k hk).1, h.so, h.su, h.ap, h.sb, fun k hk => Nat.lt_of_lt_of_le (h.lt k hk) hs⟩
theorem below (h : Dec W S b d vo vu Fo Fu) (hb : Below W.heap.size W W') : Dec W' S b d vo vu Fo Fu := h.keep hb.size fun k hk => hb.block k (h.lt k hk)
theorem drew (h : Dec W S b d vo vu Fo Fu) : Dec W.drew S b d vo vu Fo Fu := h.keep (Nat.le_refl _) fun _ _ => rfl
theorem drewN (h : Dec W S b d vo vu Fo Fu) (n : Nat) : Dec (W.drewN n) S b d vo vu Fo Fu := h.keep (Nat.le_refl _) fun _ _ => rfl
/-- One of its numbers is written. -/
theorem put {d' : DS} (h : Dec W S b d vo vu Fo Fu) (i : Nat) (u : Value) (hi : i < 8) (he : (d.vals vo vu).set i u = d'.vals vo vu) (ho : d'.own = d.own) (hu : d'.out = d.out) :
    Dec (W.setCell ⟨b, i, none⟩ u) S b d' vo vu Fo Fu := by
  refine ⟨?_, ?_, ?_, h.so, h.su, h.ap, h.sb, fun k hk => by simpa [World.setCell] using h.lt k hk⟩
  · have := h.cells.set i hi u
    rwa [Nat.zero_add, he] at this
  · rw [ho]
    exact h.own.far (fun k hk => (h.so k hk).2) u
  · rw [hu]
    exact h.out.far (fun k hk => (h.su k hk).2) u
theorem putSt (h : Dec W S b d vo vu Fo Fu) (n : Nat) : Dec (W.setCell ⟨b, 1, none⟩ (.int .i64 n)) S b { d with st := n } vo vu Fo Fu := h.put 1 _ (by omega) rfl rfl rfl
theorem putLeft (h : Dec W S b d vo vu Fo Fu) (n : Nat) : Dec (W.setCell ⟨b, 2, none⟩ (.int .i64 n)) S b { d with left := n } vo vu Fo Fu := h.put 2 _ (by omega) rfl rfl rfl
theorem putSum (h : Dec W S b d vo vu Fo Fu) (n : Nat) : Dec (W.setCell ⟨b, 3, none⟩ (.int .i64 n)) S b { d with sum := n } vo vu Fo Fu := h.put 3 _ (by omega) rfl rfl rfl
theorem putDone (h : Dec W S b d vo vu Fo Fu) (t : Bool) : Dec (W.setCell ⟨b, 6, none⟩ (.bool t)) S b { d with done := t } vo vu Fo Fu := h.put 6 _ (by omega) rfl rfl rfl
theorem putE (h : Dec W S b d vo vu Fo Fu) (n : Nat) : Dec (W.setCell ⟨b, 7, none⟩ (.int .i64 n)) S b { d with e := n } vo vu Fo Fu := h.put 7 _ (by omega) rfl rfl rfl
/-- Its line, or what it has told, is another row, behind other blocks. -/
theorem setOwn {l : Bs} {v : Value} {G : Nat → Prop} (h : Dec W S b d vo vu Fo Fu) (t : Tch Fo W W') (hr : Row W' G 1 v l.length (nums .u8 (ib l))) (hG : ∀ k, G k → Fo k ∨ W.heap.size ≤ k) :
    ∃ S' G', (∀ k, S' k → S k ∨ W.heap.size ≤ k) ∧ Dec (W'.setCell ⟨b, 4, none⟩ v) S' b { d with own := l } v vu G' Fu := by
  have hb := h.blt
  have hbn : ¬ Fo b := fun hf => (h.so b hf).2 rfl
  have hc : Seg W' b 0 (d.vals vo vu) := h.cells.block (t.block b hb hbn)
  refine ⟨fun k => S k ∨ (W.heap.size ≤ k ∧ k < W'.heap.size), fun k => G k ∧ k < W'.heap.size, fun k hk => hk.elim .inl fun h => .inr h.1, ?_, ?_, ?_, ?_, ?_, ?_, .inl h.sb, ?_⟩
  · have := hc.set 4 (show 4 < 8 by omega) v
    rwa [Nat.zero_add] at this
  · exact hr.bound.far (fun k hk => (by
      rcases hG k hk.1 with h1 | h1
      · exact (h.so k h1).2
      · simp only; omega)) v
  · exact (h.out.touch t fun k hk _ hf => h.ap k hf hk).far (fun k hk => (h.su k hk).2) v
  · intro k hk
    rcases hG k hk.1 with h1 | h1
    · exact ⟨.inl (h.so k h1).1, (h.so k h1).2⟩
    · exact ⟨.inr ⟨h1, hk.2⟩, by omega⟩
  · exact fun k hk => ⟨.inl (h.su k hk).1, (h.su k hk).2⟩
  · intro k hk hu
    rcases hG k hk.1 with h1 | h1
    · exact h.ap k h1 hu
    · have := h.lt k (h.su k hu).1
      omega
  · intro k hk
    have : (W'.setCell ⟨b, 4, none⟩ v).heap.size = W'.heap.size := by simp [World.setCell]
    rw [this]
    rcases hk with hk | hk
    · exact Nat.lt_of_lt_of_le (h.lt k hk) t.size
    · exact hk.2
theorem setOut {l : Bs} {v : Value} {G : Nat → Prop} (h : Dec W S b d vo vu Fo Fu) (t : Tch Fu W W') (hr : Row W' G 1 v l.length (nums .u8 (ib l))) (hG : ∀ k, G k → Fu k ∨ W.heap.size ≤ k) :
    ∃ S' G', (∀ k, S' k → S k ∨ W.heap.size ≤ k) ∧ Dec (W'.setCell ⟨b, 5, none⟩ v) S' b { d with out := l } vo v Fo G' := by
  have hb := h.blt
  have hbn : ¬ Fu b := fun hf => (h.su b hf).2 rfl
  have hc : Seg W' b 0 (d.vals vo vu) := h.cells.block (t.block b hb hbn)
  refine ⟨fun k => S k ∨ (W.heap.size ≤ k ∧ k < W'.heap.size), fun k => G k ∧ k < W'.heap.size, fun k hk => hk.elim .inl fun h => .inr h.1, ?_, ?_, ?_, ?_, ?_, ?_, .inl h.sb, ?_⟩
  · have := hc.set 5 (show 5 < 8 by omega) v
    rwa [Nat.zero_add] at this
  · exact (h.own.touch t fun k hk _ hf => h.ap k hk hf).far (fun k hk => (h.so k hk).2) v
  · exact hr.bound.far (fun k hk => (by
      rcases hG k hk.1 with h1 | h1
      · exact (h.su k h1).2
      · simp only; omega)) v
  · exact fun k hk => ⟨.inl (h.so k hk).1, (h.so k hk).2⟩
  · intro k hk
    rcases hG k hk.1 with h1 | h1
    · exact ⟨.inl (h.su k h1).1, (h.su k h1).2⟩
    · exact ⟨.inr ⟨h1, hk.2⟩, by omega⟩
  · intro k hk hu
    rcases hG k hu.1 with h1 | h1
    · exact h.ap k hk h1
    · have := h.lt k (h.so k hk).1
      omega
  · intro k hk
    have : (W'.setCell ⟨b, 5, none⟩ v).heap.size = W'.heap.size := by simp [World.setCell]
    rw [this]
    rcases hk with hk | hk
    · exact Nat.lt_of_lt_of_le (h.lt k hk) t.size
    · exact hk.2
theorem tchS (h : Dec W S b d vo vu Fo Fu) {p : Addr} (hp : p.block = b) (t : Tch S W W') (u : Value) : Tch S W (W'.setCell p u) := t.setCell (.inl (by rw [hp]; exact h.sb)) u
end Dec

/-! ### put -/
set_option maxRecDepth 100000 in
set_option maxHeartbeats 1000000 in
theorem put_walk (S : Nat → Prop) (b : Nat) (d : DS) (c : UInt8) (W : World) (hd : DecAt W S b d) (ho : d.out.length ≤ 2000000) :
    Calls Tryd.prog 46 #[.pointer (some ⟨b, 0, none⟩), .int .u8 (c.toNat : Int)] W fun e W' => e = .returned (.tuple #[]) ∧ Moved S b { d with out := d.out ++ [c] } W W' := by
  obtain ⟨vo, vu, Fo, Fu, h⟩ := hd
  obtain ⟨A, cp, hv, _⟩ := h.out.slice
  subst hv
  obtain ⟨⟨_, _, _, _, _, c5, _, _⟩, _, _, _, _, f5, _, _⟩ := h.facts
  have hbl := h.blt
  have H := Lib.hid h
  clear h
  go_enter Tryd.func46, Tryd.ntmps46
  go_wp2_with (first | (at_builtin; refine wp_append rfl (.tmp 8) (.tmp 10) 22 5 (.int .u8 0) 1 rfl Tryd.underlying22 info5 rfl (some ⟨W.heap.size, 0, none⟩) 1 1 [.int .u8 (c.toNat : Int)] rfl rfl (H.out.out.alloc _) (box_src (w := W) [.int .u8 (c.toNat : Int)] 5 ?y1 1 rfl).1 (box_src (w := W) [.int .u8 (c.toNat : Int)] 5 ?y1 1 rfl).2.1 (box_src (w := W) [.int .u8 (c.toNat : Int)] 5 ?y1 1 rfl).2.2.1 (box_src (w := W) [.int .u8 (c.toNat : Int)] 5 ?y1 1 rfl).2.2.2 ?y2 ?y3 ?y4))
  case y1 => intro u hu; simp at hu; subst hu; rfl
  case y2 => simp only [maxLen]; omega
  case y3 => omega
  case y4 =>
    intro v2 w2 hr2 ht2
    obtain ⟨A2, c2, hv2, _⟩ := hr2.slice
    subst hv2
    have hsz := World.size_alloc W (.cells #[.int .u8 (c.toNat : Int)] 5)
    have hal : Tch Fu W (W.alloc (.cells #[.int .u8 (c.toNat : Int)] 5)) := (Tch.refl _ _).alloc _
    have ht := hal.trans ht2 (fun k hk => .inl hk)
    have hfu : ∀ k, Fu k → S k := fun k hk => (H.out.su k hk).1
    obtain ⟨S', G', hS', hD'⟩ := H.out.setOut (l := d.out ++ [c]) (v := .slice A2 (d.out.length + 1) c2) (G := fun g => Fu g ∨ (W.alloc (.cells #[.int .u8 (c.toNat : Int)] 5)).heap.size ≤ g) ht
      (by rw [List.length_append, ib_app]; simpa [nums, ib] using hr2) (fun k hk => hk.elim .inl fun hk => .inr (by omega))
    have HD' := Lib.hid hD'
    have HS' := Lib.hid hS'
    have HT := Lib.hid (H.out.tchS (p := ⟨b, 5, none⟩) rfl (ht.mono (fun k hk => .inl (hfu k hk))) (.slice A2 (d.out.length + 1) c2))
    have hc5 : w2.cell? ⟨b, 5, none⟩ = some (.slice A d.out.length cp) := (ht.cell (p := ⟨b, 5, none⟩) hbl (fun hf => (H.out.su b hf).2 rfl)).trans c5
    have hf5 : w2.frozen? ⟨b, 5, none⟩ = false := (ht.frozen (p := ⟨b, 5, none⟩) hbl (fun hf => (H.out.su b hf).2 rfl)).trans f5
    clear hD' hS' hfu ht hal ht2 hr2 c5 f5
    go_wp2
    go_end0
    exact ⟨rfl, HT.out, S', HS'.out, HD'.out.at_⟩
end Go.Proofs.YtkfiafclddnaoaaDoor.Tk
