/- Rows told cell by cell: a slice value that may be written and appended to, wherever its block came from; and what a step leaves of the old memory. -/
import Derived.WalkKit
import Derived.ArgAppend
import Derived.Lib.AppendStr
import Derived.Lib.ConvBytes
import Derived.Laws.BytesArg
import Derived.Laws.IdiomCopy
import Derived.Test.YtkfiafclddnaoaaDoorWWords
set_option linter.unusedVariables false
set_option linter.unusedSimpArgs false
namespace Go.Proofs.YtkfiafclddnaoaaDoor.Rw
open Go.RowKit Go.Proofs.YtkfiafclddnaoaaDoorW.PrintWords

/-! ### What a step leaves -/
structure Tch (F : Nat → Prop) (W W' : World) : Prop where
  os : W'.os = W.os
  tape : W'.tape = W.tape
  output : W'.output = W.output
  size : W.heap.size ≤ W'.heap.size
  block : ∀ k, k < W.heap.size → ¬ F k → W'.heap[k]? = W.heap[k]?
namespace Tch
variable {F G : Nat → Prop} {a b c : World}
theorem refl (F : Nat → Prop) (w : World) : Tch F w w := ⟨rfl, rfl, rfl, Nat.le_refl _, fun _ _ _ => rfl⟩
theorem trans (h : Tch F a b) (k : Tch G b c) (hs : ∀ k, G k → F k ∨ a.heap.size ≤ k) : Tch F a c :=
  ⟨k.os.trans h.os, k.tape.trans h.tape, k.output.trans h.output, Nat.le_trans h.size k.size,
    fun i hi hn => (k.block i (Nat.lt_of_lt_of_le hi h.size) (fun hg => (hs i hg).elim hn (fun h2 => by omega))).trans (h.block i hi hn)⟩
theorem mono (h : Tch F a b) (hs : ∀ k, F k → G k ∨ a.heap.size ≤ k) : Tch G a b :=
  ⟨h.os, h.tape, h.output, h.size, fun i hi hn => h.block i hi (fun hf => (hs i hf).elim hn (fun h2 => by omega))⟩
theorem alloc (h : Tch F a b) (o : Obj) : Tch F a (b.alloc o) :=
  ⟨h.os, h.tape, h.output, Nat.le_trans h.size (by simp), fun i hi hn => (Below.heap_alloc b o i (Nat.lt_of_lt_of_le hi h.size)).trans (h.block i hi hn)⟩
theorem drewN (h : Tch F a b) (n : Nat) : Tch F a (b.drewN n) := ⟨h.os, h.tape, h.output, h.size, h.block⟩
theorem drew (h : Tch F a b) : Tch F a b.drew := ⟨h.os, h.tape, h.output, h.size, h.block⟩
theorem setCell (h : Tch F a b) {p : Addr} (hp : F p.block ∨ a.heap.size ≤ p.block) (u : Value) : Tch F a (b.setCell p u) :=
  ⟨h.os, h.tape, h.output, by simpa [World.setCell] using h.size, fun i hi hn => (Below.heap_setCell b p u i (by
    rintro rfl
    rcases hp with hp | hp
    · exact hn hp
    · omega)).trans (h.block i hi hn)⟩
theorem setCells (h : Tch F a b) {g : Nat} (hp : F g ∨ a.heap.size ≤ g) : ∀ (vs : List Value) (o : Nat), Tch F a (b.setCells g o vs) := by
  intro vs
  induction vs generalizing b with
  | nil => exact fun _ => h
  | cons v r ih => exact fun o => ih (h.setCell (p := ⟨g, o, none⟩) hp v) (o + 1)
theorem of_below (h : Below a.heap.size a b) (F : Nat → Prop) : Tch F a b := ⟨h.os, h.tape, h.output, h.size, fun i hi _ => h.block i hi⟩
theorem below (h : Tch F a b) {B : Nat} (hB : B ≤ a.heap.size) (hF : ∀ k, F k → B ≤ k) : Below B a b := ⟨h.os, h.tape, h.output, h.size, fun i hi => h.block i (by omega) (fun hf => by have := hF i hf; omega)⟩
theorem of_grown {row : Option Nat} (h : a.grownBy b row) (hF : ∀ k, row = some k → F k ∨ a.heap.size ≤ k) : Tch F a b :=
  ⟨h.os, h.tape, h.output, h.size, fun i hi hn => h.block i hi (fun e => (hF i e.symm).elim hn (fun h2 => by omega))⟩
theorem cell (h : Tch F a b) {p : Addr} (hp : p.block < a.heap.size) (hn : ¬ F p.block) : b.cell? p = a.cell? p := World.cell?_of_block (h.block _ hp hn)
theorem frozen (h : Tch F a b) {p : Addr} (hp : p.block < a.heap.size) (hn : ¬ F p.block) : b.frozen? p = a.frozen? p := World.frozen?_of_block (h.block _ hp hn)
theorem below_then {B : Nat} (h : Below B a b) (k : Tch F b c) (hB : B ≤ a.heap.size) (hF : ∀ i, F i → B ≤ i) : Below B a c :=
  ⟨k.os.trans h.os, k.tape.trans h.tape, k.output.trans h.output, Nat.le_trans h.size k.size, fun i hi =>
    (k.block i (by have := h.size; omega) (fun hf => by have := hF i hf; omega)).trans (h.block i hi)⟩
end Tch
theorem lt_of_cell {w : World} {p : Addr} {v : Value} (h : w.cell? p = some v) : p.block < w.heap.size := World.block_lt_of_cell? w p h

/-! ### Cells that may be written -/
def Seg (W : World) (b o : Nat) (xs : List Value) : Prop := ∀ j u, xs[j]? = some u → W.cell? ⟨b, o + j, none⟩ = some u ∧ W.frozen? ⟨b, o + j, none⟩ = false
namespace Seg
variable {W W' : World} {b o : Nat} {xs ys : List Value}
theorem nil (W : World) (b o : Nat) : Seg W b o [] := fun j u h => by simp at h
theorem block (h : Seg W b o xs) (hb : W'.heap[b]? = W.heap[b]?) : Seg W' b o xs := fun j u hj => by
  obtain ⟨h1, h2⟩ := h j u hj
  exact ⟨(World.cell?_of_block (w := W) (w' := W') hb).trans h1, (World.frozen?_of_block (w := W) (w' := W') hb).trans h2⟩
theorem left (h : Seg W b o (xs ++ ys)) : Seg W b o xs := fun j u hj => h j u (by
  have hl : j < xs.length := (List.getElem?_eq_some_iff.1 hj).1
  rw [List.getElem?_append_left hl]; exact hj)
theorem right (h : Seg W b o (xs ++ ys)) : Seg W b (o + xs.length) ys := fun j u hj => by
  have := h (xs.length + j) u (by rw [List.getElem?_append_right (by omega), Nat.add_sub_cancel_left]; exact hj)
  rwa [← Nat.add_assoc] at this
theorem join (h : Seg W b o xs) (k : Seg W b (o + xs.length) ys) : Seg W b o (xs ++ ys) := fun j u hj => by
  rcases Nat.lt_or_ge j xs.length with hl | hl
  · exact h j u (by rwa [List.getElem?_append_left hl] at hj)
  · have := k (j - xs.length) u (by rwa [List.getElem?_append_right hl] at hj)
    rwa [show o + xs.length + (j - xs.length) = o + j by omega] at this
theorem write (h : Seg W b o xs) (hl : ys.length = xs.length) : Seg (W.setCells b o ys) b o ys := fun j u hj => by
  have hlt : j < ys.length := (List.getElem?_eq_some_iff.1 hj).1
  have hu : ys[j] = u := (List.getElem?_eq_some_iff.1 hj).2
  have hs : ∀ i, i < ys.length → (W.cell? ⟨b, o + i, none⟩).isSome = true := fun i hi => by
    have := (h i _ (List.getElem?_eq_getElem (by omega))).1
    rw [this]; rfl
  refine ⟨by rw [World.cell?_setCells_in b ys o W hs j hlt, hu], ?_⟩
  rw [World.frozen?_setCells]
  exact (h j _ (List.getElem?_eq_getElem (by omega))).2
theorem apart (h : Seg W b o xs) {p : Nat} (vs : List Value) (hp : p + vs.length ≤ o ∨ o + xs.length ≤ p) : Seg (W.setCells b p vs) b o xs := fun j u hj => by
  have hlt : j < xs.length := (List.getElem?_eq_some_iff.1 hj).1
  obtain ⟨h1, h2⟩ := h j u hj
  refine ⟨?_, by rw [World.frozen?_setCells]; exact h2⟩
  rw [World.cell?_setCells_out b vs p W _ (fun _ _ => by simp only; omega)]
  exact h1
theorem lt (h : Seg W b o xs) (hx : 0 < xs.length) : b < W.heap.size := by
  have := (h 0 _ (List.getElem?_eq_getElem hx)).1
  exact lt_of_cell this
theorem set (h : Seg W b o xs) (i : Nat) (hi : i < xs.length) (v : Value) : Seg (W.setCell ⟨b, o + i, none⟩ v) b o (xs.set i v) := fun j u hj => by
  have hlt : j < xs.length := by have := (List.getElem?_eq_some_iff.1 hj).1; simpa using this
  obtain ⟨h1, h2⟩ := h j _ (List.getElem?_eq_getElem hlt)
  refine ⟨?_, by rw [World.frozen?_setCell]; exact h2⟩
  by_cases e : i = j
  · subst e
    rw [List.getElem?_set_self (by omega)] at hj
    injection hj with hj
    subst hj
    exact World.cell?_setCell_same _ _ _ h1
  · rw [List.getElem?_set_ne e] at hj
    rw [World.cell?_setCell_other _ _ _ _ (by simp [e])]
    exact (h j u hj).1
end Seg

/-! ### Rows -/
/-- v is a slice of n elements of sz cells each that may be written: the cells xs; its block is of F. -/
def Row (W : World) (F : Nat → Prop) (sz : Nat) (v : Value) (n : Nat) (xs : List Value) : Prop :=
  xs.length = n * sz ∧ n ≤ maxLen ∧ ((v = .slice none 0 0 ∧ n = 0) ∨
    ∃ g o cap sp, v = .slice (some ⟨g, o, none⟩) n cap ∧ F g ∧ g < W.heap.size ∧ n ≤ cap ∧ cap ≤ maxLen ∧ (xs ++ sp).length = cap * sz ∧ Seg W g o (xs ++ sp))
namespace Row
variable {W W' : World} {F G : Nat → Prop} {sz n : Nat} {v : Value} {xs : List Value}
theorem nil (W : World) (F : Nat → Prop) (sz : Nat) : Row W F sz (.slice none 0 0) 0 [] := ⟨by simp, Nat.zero_le _, .inl ⟨rfl, rfl⟩⟩
theorem mono (h : Row W F sz v n xs) (hF : ∀ k, F k → G k) : Row W G sz v n xs := by
  obtain ⟨h1, h2, h3⟩ := h
  refine ⟨h1, h2, ?_⟩
  rcases h3 with h3 | ⟨g, o, cap, sp, h4, h5, h6⟩
  · exact .inl h3
  · exact .inr ⟨g, o, cap, sp, h4, hF _ h5, h6⟩
theorem keep (h : Row W F sz v n xs) (hs : W.heap.size ≤ W'.heap.size) (hb : ∀ k, F k → k < W.heap.size → W'.heap[k]? = W.heap[k]?) : Row W' F sz v n xs := by
  obtain ⟨h1, h2, h3⟩ := h
  refine ⟨h1, h2, ?_⟩
  rcases h3 with h3 | ⟨g, o, cap, sp, h4, h5, h6, h7, h8, h9, h10⟩
  · exact .inl h3
  · exact .inr ⟨g, o, cap, sp, h4, h5, by omega, h7, h8, h9, h10.block (hb _ h5 h6)⟩
theorem touch (h : Row W F sz v n xs) (t : Tch G W W') (hn : ∀ k, F k → k < W.heap.size → ¬ G k) : Row W' F sz v n xs := h.keep t.size fun k hk hl => t.block k hl (hn k hk hl)
theorem bound (h : Row W F sz v n xs) : Row W (fun k => F k ∧ k < W.heap.size) sz v n xs := by
  obtain ⟨h1, h2, h3⟩ := h
  refine ⟨h1, h2, ?_⟩
  rcases h3 with h3 | ⟨g, o, cap, sp, h4, h5, h6, h7⟩
  · exact .inl h3
  · exact .inr ⟨g, o, cap, sp, h4, ⟨h5, h6⟩, h6, h7⟩
theorem alloc (h : Row W F sz v n xs) (o : Obj) : Row (W.alloc o) F sz v n xs := h.keep (by simp) fun k _ hl => Below.heap_alloc W o k hl
theorem drew (h : Row W F sz v n xs) : Row W.drew F sz v n xs := h
theorem drewN (h : Row W F sz v n xs) (m : Nat) : Row (W.drewN m) F sz v n xs := h
theorem slice (h : Row W F sz v n xs) : ∃ A c, v = .slice A n c ∧ n ≤ c := by
  rcases h.2.2 with ⟨rfl, rfl⟩ | ⟨g, o, cap, sp, rfl, _, _, h7, _⟩
  · exact ⟨none, 0, rfl, Nat.le_refl _⟩
  · exact ⟨_, _, rfl, h7⟩
theorem of_own {base e : Nat} (h : W.ownsRow base e sz v n xs) : Row W (fun k => base ≤ k) sz v n xs := by
  obtain ⟨h1, h2⟩ := h
  rcases h2 with ⟨rfl, rfl⟩ | ⟨g, cap, cur, rfl, h3, h4, h5, h6, h7, h8⟩
  · exact ⟨h1, by simp [maxLen], .inl ⟨rfl, rfl⟩⟩
  · have hx : xs ++ cur.toList.drop (n * sz) = cur.toList := by rw [← h8]; exact List.take_append_drop _ _
    refine ⟨h1, by omega, .inr ⟨g, 0, cap, cur.toList.drop (n * sz), rfl, h3, (Array.getElem?_eq_some_iff.1 h4).1, h5, h6, by rw [hx, Array.length_toList, h7], ?_⟩⟩
    rw [hx]
    intro j u hj
    rw [Array.getElem?_toList] at hj
    exact ⟨by simp [World.cell?, h4, hj], by simp [World.frozen?, h4]⟩
theorem of_block {g : Nat} {cur : Array Value} {e p q : Nat} (hg : W.heap[g]? = some (.cells cur e (p, q))) (hF : F g) (n cap : Nat) (sz : Nat) (hn : n ≤ cap) (hm : cap ≤ maxLen) (hc : cap * sz ≤ cur.size) (hf : q = 0 ∨ cap * sz ≤ p) :
    Row W F sz (.slice (some ⟨g, 0, none⟩) n cap) n (cur.toList.take (n * sz)) := by
  have h1 : n * sz ≤ cap * sz := Nat.mul_le_mul_right _ hn
  have hx : cur.toList.take (n * sz) ++ (cur.toList.take (cap * sz)).drop (n * sz) = cur.toList.take (cap * sz) := by
    have := List.take_append_drop (n * sz) (cur.toList.take (cap * sz))
    rwa [List.take_take, Nat.min_eq_left h1] at this
  refine ⟨by rw [List.length_take, Array.length_toList]; omega, by omega, .inr ⟨g, 0, cap, (cur.toList.take (cap * sz)).drop (n * sz), rfl, hF, (Array.getElem?_eq_some_iff.1 hg).1, hn, hm, by rw [hx, List.length_take, Array.length_toList]; omega, ?_⟩⟩
  rw [hx]
  intro j u hj
  have hjl : j < cap * sz := by
    have := (List.getElem?_eq_some_iff.1 hj).1
    rw [List.length_take] at this; omega
  rw [List.getElem?_take_of_lt hjl, Array.getElem?_toList] at hj
  refine ⟨by simp [World.cell?, hg, hj], ?_⟩
  simp only [World.frozen?, hg, Nat.zero_add]
  rcases hf with rfl | hf
  · simp
  · have : ¬ p ≤ j := by omega
    simp [this]
/-- The cells of an element, and that they may be written. -/
theorem at_ {A : Option Addr} {c : Nat} (h : Row W F sz (.slice A n c) n xs) (j : Nat) (u : Value) (hj : xs[j]? = some u) :
    ∃ g o, A = some ⟨g, o, none⟩ ∧ F g ∧ g < W.heap.size ∧ W.cell? ⟨g, o + j, none⟩ = some u ∧ W.frozen? ⟨g, o + j, none⟩ = false := by
  obtain ⟨h1, h2, h3⟩ := h
  rcases h3 with ⟨he, rfl⟩ | ⟨g, o, cap, sp, he, h5, h6, h7, h8, h9, h10⟩
  · have : xs = [] := List.eq_nil_of_length_eq_zero (by simpa using h1)
    subst this
    simp at hj
  · injection he with he _ _
    exact ⟨g, o, he, h5, h6, h10.left j u hj⟩
theorem set {g o c : Nat} (h : Row W F sz (.slice (some ⟨g, o, none⟩) n c) n xs) (j : Nat) (hj : j < xs.length) (u : Value) :
    Row (W.setCell ⟨g, o + j, none⟩ u) F sz (.slice (some ⟨g, o, none⟩) n c) n (xs.set j u) := by
  obtain ⟨h1, h2, h3⟩ := h
  rcases h3 with ⟨he, _⟩ | ⟨g', o', cap, sp, he, h5, h6, h7, h8, h9, h10⟩
  · cases he
  · injection he with he _ hc
    injection he with he
    injection he with hg ho
    subst hg ho hc
    refine ⟨by simpa using h1, h2, .inr ⟨g, o, c, sp, rfl, h5, by simpa [World.setCell] using h6, h7, h8, by simpa using h9, ?_⟩⟩
    have := h10.set j (by simp; omega) u
    rwa [List.set_append_left _ _ hj] at this

theorem far (h : Row W F sz v n xs) {p : Addr} (hp : ∀ k, F k → k ≠ p.block) (u : Value) : Row (W.setCell p u) F sz v n xs :=
  h.keep (by simp [World.setCell]) fun k hk _ => Below.heap_setCell W p u k (hp k hk)
theorem cut {A : Option Addr} {c : Nat} (h : Row W F sz (.slice A n c) n xs) : Row W F sz (.slice A n n) n xs := by
  obtain ⟨h1, h2, h3⟩ := h
  refine ⟨h1, h2, ?_⟩
  rcases h3 with ⟨he, rfl⟩ | ⟨g, o, cap, sp, he, h4, h5, h6, h7, h8, h9⟩
  · injection he with he _ _
    subst he
    exact .inl ⟨rfl, rfl⟩
  · injection he with he _ _
    subst he
    exact .inr ⟨g, o, n, [], rfl, h4, h5, Nat.le_refl _, h2, by simpa using h1, by simpa using h9.left⟩
theorem as1 {ys : List Value} (h : Row W F 1 v n xs) (e : xs = ys) {m : Nat} (hm : ys.length = m) : Row W F 1 v m ys := by
  subst e
  have h1 := h.1
  obtain rfl : n = m := by omega
  exact h
/-! append -/
section
variable {P : Program}
theorem append {t ty e : TypeId} {i : TypeInfo} {z : Value} {bytes : Nat} (h : Row W F sz v n xs) (ht : P.underlying t = some (.slice e)) (hi : P.info? e = some i) (hz : i.zero = some z)
    (hs : i.size = sz) (hb : i.bytes = bytes) (hzs : z.cells.size = sz) (A : Option Addr) (m c : Nat) (news : List Value) (hl : news.length = m * sz) (hA : A = none → m = 0)
    (hnews : ∀ ad, A = some ad → ∀ j u, news[j]? = some u → W.cell? (ad.add j) = some u) (h1 : ∀ u ∈ news, u.oneCell' = true) (hm63 : n + m ≤ maxLen) (hbytes : (n + m) * bytes ≤ 140737488355328) :
    ∃ v' W', (Builtin.append_ #[t, t] ty #[v, .slice A m c]).run P W = .ok v' W' ∧ Row W' (fun g => F g ∨ W.heap.size ≤ g) sz v' (n + m) (xs ++ news) ∧ Tch F W W' := by
  subst hs hb
  have hsmall : n + m ≤ 9223372036854775807 := by simp only [maxLen] at hm63; omega
  obtain ⟨h2, h3, h4⟩ := h
  have hlen : (xs ++ news).length = (n + m) * i.size := by rw [List.length_append, h2, hl, Nat.add_mul]
  have grown : ∀ (old : Nat), old < n + m →
      Row (W.drew.alloc (.cells (xs.toArray ++ news.toArray ++ Builtin.zeroCells z.cells (grownCap W (n + m) old e - (n + m))) e)) (fun g => F g ∨ W.heap.size ≤ g) i.size
        (.slice (some ⟨W.heap.size, 0, none⟩) (n + m) (grownCap W (n + m) old e)) (n + m) (xs ++ news) ∧
      Tch F W (W.drew.alloc (.cells (xs.toArray ++ news.toArray ++ Builtin.zeroCells z.cells (grownCap W (n + m) old e - (n + m))) e)) := by
    intro old ho
    have hge := grownCap_ge W (n + m) old e
    have hcm : grownCap W (n + m) old e ≤ maxLen := grownCap_le_maxLen W (n + m) old e hm63
    have hr := of_block (F := fun g => F g ∨ W.heap.size ≤ g) (sz := i.size) (n := n + m) (cap := grownCap W (n + m) old e)
      (heap_alloc_new W.drew (.cells (xs.toArray ++ news.toArray ++ Builtin.zeroCells z.cells (grownCap W (n + m) old e - (n + m))) e)) (.inr (Nat.le_refl _)) hge hcm
      (by simp only [Array.size_append, List.size_toArray, size_zeroCells, hzs, h2, hl, ← Nat.add_mul]; exact Nat.mul_le_mul_right _ (by omega)) (.inl rfl)
    have hx : ((xs.toArray ++ news.toArray ++ Builtin.zeroCells z.cells (grownCap W (n + m) old e - (n + m))).toList).take ((n + m) * i.size) = xs ++ news := by
      simp only [Array.toList_append, List.append_assoc]
      rw [← List.append_assoc, ← hlen]
      exact List.take_left
    rw [hx] at hr
    exact ⟨hr, ⟨rfl, rfl, rfl, by simp, fun k hk _ => Below.heap_alloc W.drew _ k hk⟩⟩
  rcases h4 with ⟨rfl, rfl⟩ | ⟨g, o, cap, sp, rfl, h5, h6, h7, h8, h9, h10⟩
  · obtain rfl : xs = [] := List.eq_nil_of_length_eq_zero (by simpa using h2)
    rcases Nat.eq_zero_or_pos m with rfl | hm
    · obtain rfl : news = [] := List.eq_nil_of_length_eq_zero (by simpa using hl)
      refine ⟨.slice none 0 0, W, ?_, ⟨by simp, by simp [maxLen], .inl ⟨rfl, rfl⟩⟩, .refl _ _⟩
      cases A <;> simp [Builtin.append_, run_underlying ht, sizeOf, typeInfo, hi, Builtin.lenOf, Builtin.firstCells, loadCells, loadCellsFrom]
    · obtain ⟨ad, rfl⟩ : ∃ ad, A = some ad := by
        cases A with
        | none => have := hA rfl; omega
        | some ad => exact ⟨ad, rfl⟩
      have hr := run_append_nil (P := P) W t ty e i z ht hi hz ad m c news hl (hnews ad rfl) hm (by omega) (by have hb := hbytes; simp only [Nat.zero_add] at hb; omega)
      have hgr := grown 0 (by omega)
      simp only [Nat.zero_add, List.nil_append, Array.empty_append] at hgr ⊢
      exact ⟨_, _, hr, hgr.1, hgr.2⟩
  · have h9' : (n * i.size + sp.length) = cap * i.size := by rw [← h2, ← List.length_append]; exact h9
    by_cases hroom : n + m ≤ cap
    · have hfit : (n + m) * i.size ≤ cap * i.size := Nat.mul_le_mul_right _ hroom
      rw [Nat.add_mul] at hfit
      have hsp : sp.take (m * i.size) ++ sp.drop (m * i.size) = sp := List.take_append_drop _ _
      have hspl : (sp.take (m * i.size)).length = m * i.size := by rw [List.length_take]; omega
      have hsx := h10.left
      have hs1 := h10.right
      rw [← hsp] at hs1
      have hs2 := hs1.left
      have hs3 := hs1.right
      have hseg : Seg (W.setCells g (o + n * i.size) news) g o ((xs ++ news) ++ sp.drop (m * i.size)) := by
        rw [List.append_assoc]
        refine Seg.join (hsx.apart news (.inr (by omega))) (Seg.join ?_ ?_)
        · rw [h2]
          rw [h2] at hs2
          exact hs2.write (by rw [hspl, hl])
        · rw [h2, hl]
          rw [h2, hspl] at hs3
          exact hs3.apart news (.inl (by omega))
      have hkey : ∀ A', (A' = none → m = 0) → (∀ ad, A' = some ad → ∀ j u, news[j]? = some u → W.cell? (ad.add j) = some u) →
          (Builtin.append_ #[t, t] ty #[.slice (some ⟨g, o, none⟩) n cap, .slice A' m c]).run P W = .ok (.slice (some ⟨g, o, none⟩) (n + m) cap) (W.setCells g (o + n * i.size) news) := by
        intro A' hA' hn'
        cases A' with
        | some ad =>
          refine run_append_room_cells (P := P) W t ty e i ht hi g o n cap ad m c news hl (hn' ad rfl) h1 hroom (fun j hj => ?_) (fun j hj => ?_)
          · rw [h2] at hs2
            rw [(hs2 j _ (List.getElem?_eq_getElem (by omega))).1]; rfl
          · rw [h2] at hs2
            exact (hs2 j _ (List.getElem?_eq_getElem (by omega))).2
        | none =>
          have hm0 := hA' rfl
          subst hm0
          obtain rfl : news = [] := List.eq_nil_of_length_eq_zero (by simpa using hl)
          simp [Builtin.append_, run_underlying ht, sizeOf, typeInfo, hi, Builtin.lenOf, Builtin.firstCells, h7, storeCells, World.setCells]
      have htch := (Tch.refl F W).setCells (g := g) (.inl h5) news (o + n * i.size)
      refine ⟨_, _, hkey A hA hnews, ⟨hlen, hm63, .inr ⟨g, o, cap, sp.drop (m * i.size), rfl, .inl h5, Nat.lt_of_lt_of_le h6 htch.size, hroom, h8, ?_, hseg⟩⟩, htch⟩
      rw [List.length_append, List.length_drop, hlen, Nat.add_mul]
      omega
    · obtain ⟨ad, rfl⟩ : ∃ ad, A = some ad := by
        cases A with
        | none => have := hA rfl; omega
        | some ad => exact ⟨ad, rfl⟩
      have holds : ∀ j u, xs[j]? = some u → W.cell? ((⟨g, o, none⟩ : Addr).add j) = some u := fun j u hj => by
        have := (h10.left j u hj).1
        unfold Addr.add
        split
        · rename_i h0; simpa [h0] using this
        · exact this
      have hr := run_append_grow (P := P) W t ty e i z ht hi hz ⟨g, o, none⟩ n cap xs h2 holds ad m c news hl (hnews ad rfl) (by omega) (by omega) (growslice_fits (by omega) hbytes)
      have hgr := grown cap (by omega)
      exact ⟨_, _, hr, hgr.1, hgr.2⟩

theorem append_str {t u ty e : TypeId} {i : TypeInfo} (h : Row W F 1 v n xs) (ht : P.underlying t = some (.slice e)) (hu : P.underlying u = some .string) (hi : P.info? e = some i) (hz : i.zero = some (.int .u8 0))
    (hs : i.size = 1) (hb : i.bytes = 1) (s : ByteArray) (hbytes : n + s.size ≤ 140737488355328) :
    ∃ v' W', (Builtin.append_ #[t, u] ty #[v, .string s]).run P W = .ok v' W' ∧ Row W' (fun g => F g ∨ W.heap.size ≤ g) 1 v' (n + s.size) (xs ++ nums .u8 (bytesOf s)) ∧ Tch F W W' := by
  have hnb : nums .u8 (bytesOf s) = Lib.strCells s := by
    simp [nums, bytesOf, Lib.strCells, List.map_map, Function.comp_def]
  have hcl := Lib.strCells_length s
  rw [hnb]
  obtain ⟨h2, h3, h4⟩ := h
  have hm63 : n + s.size ≤ maxLen := by simp only [maxLen]; omega
  have hlen : (xs ++ Lib.strCells s).length = (n + s.size) * 1 := by rw [List.length_append, h2, hcl]; omega
  have grown : ∀ (old : Nat), old < n + s.size →
      Row (W.drew.alloc (.cells (xs.toArray ++ (Lib.strCells s).toArray ++ Builtin.zeroCells (Value.int .u8 0).cells (grownCap W (n + s.size) old e - (n + s.size))) e)) (fun g => F g ∨ W.heap.size ≤ g) 1
        (.slice (some ⟨W.heap.size, 0, none⟩) (n + s.size) (grownCap W (n + s.size) old e)) (n + s.size) (xs ++ Lib.strCells s) ∧
      Tch F W (W.drew.alloc (.cells (xs.toArray ++ (Lib.strCells s).toArray ++ Builtin.zeroCells (Value.int .u8 0).cells (grownCap W (n + s.size) old e - (n + s.size))) e)) := by
    intro old ho
    have hge := grownCap_ge W (n + s.size) old e
    have hcm : grownCap W (n + s.size) old e ≤ maxLen := grownCap_le_maxLen W (n + s.size) old e hm63
    have hr := of_block (F := fun g => F g ∨ W.heap.size ≤ g) (sz := 1) (n := n + s.size) (cap := grownCap W (n + s.size) old e)
      (heap_alloc_new W.drew (.cells (xs.toArray ++ (Lib.strCells s).toArray ++ Builtin.zeroCells (Value.int .u8 0).cells (grownCap W (n + s.size) old e - (n + s.size))) e)) (.inr (Nat.le_refl _)) hge hcm
      (by simp only [Array.size_append, List.size_toArray, size_zeroCells, h2, hcl]; simp [Value.cells]; omega) (.inl rfl)
    have hx : ((xs.toArray ++ (Lib.strCells s).toArray ++ Builtin.zeroCells (Value.int .u8 0).cells (grownCap W (n + s.size) old e - (n + s.size))).toList).take ((n + s.size) * 1) = xs ++ Lib.strCells s := by
      simp only [Array.toList_append, List.append_assoc]
      rw [← List.append_assoc, ← hlen]
      exact List.take_left
    rw [hx] at hr
    exact ⟨hr, ⟨rfl, rfl, rfl, by simp, fun k hk _ => Below.heap_alloc W.drew _ k hk⟩⟩
  rcases h4 with ⟨rfl, rfl⟩ | ⟨g, o, cap, sp, rfl, h5, h6, h7, h8, h9, h10⟩
  · obtain rfl : xs = [] := List.eq_nil_of_length_eq_zero (by simpa using h2)
    rcases Nat.eq_zero_or_pos s.size with hm | hm
    · have he : Lib.strCells s = [] := List.eq_nil_of_length_eq_zero (by omega)
      refine ⟨.slice none 0 0, W, ?_, ⟨by simp [he, hm], by simp [hm, maxLen], .inl ⟨rfl, by omega⟩⟩, .refl _ _⟩
      simp [Builtin.append_, run_underlying ht, run_underlying hu, sizeOf, typeInfo, hi, Builtin.lenOf, Builtin.firstCells, hm]
    · have hr := run_append_nil_string (P := P) W t u ty e i (.int .u8 0) ht hu hi hz s hm (by omega) (by rw [hb]; omega)
      have hgr := grown 0 (by omega)
      have hsc : (Lib.strCells s).toArray = s.data.map (fun b => Value.int .u8 b.toNat) := by
        apply Array.ext'
        simp [Lib.strCells]
      simp only [Nat.zero_add, List.nil_append, Array.empty_append, hsc] at hgr ⊢
      exact ⟨_, _, hr, hgr.1, hgr.2⟩
  · have h9' : (n * 1 + sp.length) = cap * 1 := by rw [← h2, ← List.length_append]; exact h9
    by_cases hroom : n + s.size ≤ cap
    · have hsp : sp.take s.size ++ sp.drop s.size = sp := List.take_append_drop _ _
      have hspl : (sp.take s.size).length = s.size := by rw [List.length_take]; omega
      have hsx := h10.left
      have hs1 := h10.right
      rw [← hsp] at hs1
      have hs2 := hs1.left
      have hs3 := hs1.right
      have hseg : Seg (W.setCells g (o + n * 1) (Lib.strCells s)) g o ((xs ++ Lib.strCells s) ++ sp.drop s.size) := by
        rw [List.append_assoc]
        refine Seg.join (hsx.apart _ (.inr (by omega))) (Seg.join ?_ ?_)
        · rw [h2]
          rw [h2] at hs2
          exact hs2.write (by rw [hspl, hcl])
        · rw [h2, hcl]
          rw [h2, hspl] at hs3
          exact hs3.apart _ (.inl (by omega))
      have hf := Lib.run_firstCells_string (P := P) W 1 s
      have hst := run_storeCells_cells (P := P) g (o + n * 1) (Lib.strCells s) 0 W
        (fun j hj => by rw [h2] at hs2; simp only [Nat.add_zero]; rw [(hs2 j _ (List.getElem?_eq_getElem (by omega))).1]; rfl)
        (fun j hj => by rw [h2] at hs2; simp only [Nat.add_zero]; exact (hs2 j _ (List.getElem?_eq_getElem (by omega))).2) (Lib.strCells_oneCell s)
      have htch := (Tch.refl F W).setCells (g := g) (.inl h5) (Lib.strCells s) (o + n * 1)
      refine ⟨_, _, ?_, ⟨hlen, hm63, .inr ⟨g, o, cap, sp.drop s.size, rfl, .inl h5, Nat.lt_of_lt_of_le h6 htch.size, hroom, h8, ?_, hseg⟩⟩, htch⟩
      · simp only [Nat.add_zero, Nat.mul_one] at hst
        simp [Builtin.append_, run_underlying ht, run_underlying hu, sizeOf, typeInfo, hi, hs, Builtin.lenOf, hroom, hf, Addr.add_lit, hst]
      · rw [List.length_append, List.length_drop, hlen]
        omega
    · have holds : ∀ j u, xs[j]? = some u → W.cell? ((⟨g, o, none⟩ : Addr).add j) = some u := fun j u hj => by
        have := (h10.left j u hj).1
        unfold Addr.add
        split
        · rename_i h0; simpa [h0] using this
        · exact this
      have hr := Lib.run_append_grow_string (P := P) W t u ty e i (.int .u8 0) ht hu hi hz ⟨g, o, none⟩ n cap xs (by rw [hs]; exact h2) holds s (by omega) (by omega) (growslice_fits (by omega) (by rw [hb]; omega))
      have hgr := grown cap (by omega)
      exact ⟨_, _, hr, hgr.1, hgr.2⟩
end
end Row

/-! ### At the operation -/
section
variable {P : Program} {ops : Array Oper} {rest : List Oper} {o : Oper} {a : Act} {Q : Exit → Act → World → Prop}
theorem wp_append {F : Nat → Prop} {sz n : Nat} {v : Value} {xs : List Value} {W : World} (hgd : o.guard = none) (s x : Operand) (t e : TypeId) (z : Value) (bytes : Nat)
    (ho : o.op = .call { callee := .builtin .append, args := #[s, x], argTypes := #[t, t] })
    (ht : P.underlying t = some (.slice e)) (hinfo : (P.info? e).map (fun i => (i.zero, i.size, i.bytes)) = some (some z, sz, bytes)) (hzs : z.cells.size = sz)
    (A : Option Addr) (m c : Nat) (news : List Value) (hs : a.eval s = v) (hx : a.eval x = .slice A m c)
    (h : Row W F sz v n xs) (hl : news.length = m * sz) (hA : A = none → m = 0)
    (hnews : ∀ ad, A = some ad → ∀ j u, news[j]? = some u → W.cell? (ad.add j) = some u) (h1 : ∀ u ∈ news, u.oneCell' = true) (hm63 : n + m ≤ maxLen) (hbytes : (n + m) * bytes ≤ 140737488355328)
    (hK : ∀ v' W', Row W' (fun g => F g ∨ W.heap.size ≤ g) sz v' (n + m) (xs ++ news) → Tch F W W' → wpList P ops Q rest (a.put o.dst v') W') :
    wpList P ops Q (o :: rest) a W := by
  obtain ⟨i0, hi, hzz⟩ := Option.map_eq_some_iff.1 hinfo
  simp only [Prod.mk.injEq] at hzz
  obtain ⟨hz0, hz1, hz2⟩ := hzz
  obtain ⟨v1, w1, hr, h2, h3⟩ := h.append (P := P) (ty := o.type) ht hi hz0 hz1 hz2 hzs A m c news hl hA hnews h1 hm63 hbytes
  refine wpList_plain hgd fun K hK' => ?_
  unfold Oper.wp execOp
  simp only [ho, resolve, invoke, builtin, Sem.run_bind, Sem.run_pure, Result.andThen_ok, List.map_toArray, List.map_cons, List.map_nil, hs, hx, hr]
  exact hK' _ _ (hK v1 w1 h2 h3)
theorem wp_append_str {F : Nat → Prop} {n : Nat} {v : Value} {xs : List Value} {W : World} (hgd : o.guard = none) (s x : Operand) (t u e : TypeId)
    (ho : o.op = .call { callee := .builtin .append, args := #[s, x], argTypes := #[t, u] })
    (ht : P.underlying t = some (.slice e)) (hu : P.underlying u = some .string) (hinfo : (P.info? e).map (fun i => (i.zero, i.size, i.bytes)) = some (some (.int .u8 0), 1, 1))
    (y : ByteArray) (hs : a.eval s = v) (hx : a.eval x = .string y)
    (h : Row W F 1 v n xs) (hbytes : n + y.size ≤ 140737488355328)
    (hK : ∀ v' W', Row W' (fun g => F g ∨ W.heap.size ≤ g) 1 v' (n + y.size) (xs ++ nums .u8 (bytesOf y)) → Tch F W W' → wpList P ops Q rest (a.put o.dst v') W') :
    wpList P ops Q (o :: rest) a W := by
  obtain ⟨i0, hi, hzz⟩ := Option.map_eq_some_iff.1 hinfo
  simp only [Prod.mk.injEq] at hzz
  obtain ⟨hz0, hz1, hz2⟩ := hzz
  obtain ⟨v1, w1, hr, h2, h3⟩ := h.append_str (P := P) (ty := o.type) ht hu hi hz0 hz1 hz2 y hbytes
  refine wpList_plain hgd fun K hK' => ?_
  unfold Oper.wp execOp
  simp only [ho, resolve, invoke, builtin, Sem.run_bind, Sem.run_pure, Result.andThen_ok, List.map_toArray, List.map_cons, List.map_nil, hs, hx, hr]
  exact hK' _ _ (hK v1 w1 h2 h3)
/-! The same for rows among the blocks from B on, with what is known of the old memory. -/
theorem wp_appendB {w0 : World} {B sz n : Nat} {v : Value} {xs : List Value} {W : World} (hgd : o.guard = none) (s x : Operand) (t e : TypeId) (z : Value) (bytes : Nat)
    (ho : o.op = .call { callee := .builtin .append, args := #[s, x], argTypes := #[t, t] })
    (ht : P.underlying t = some (.slice e)) (hinfo : (P.info? e).map (fun i => (i.zero, i.size, i.bytes)) = some (some z, sz, bytes)) (hzs : z.cells.size = sz)
    (A : Option Addr) (m c : Nat) (news : List Value) (hs : a.eval s = v) (hx : a.eval x = .slice A m c) (hB : Below B w0 W) (hB0 : B ≤ w0.heap.size)
    (h : Row W (fun k => B ≤ k) sz v n xs) (hsrc : news.length = m * sz ∧ (A = none → m = 0) ∧ (∀ ad, A = some ad → ∀ j u, news[j]? = some u → W.cell? (ad.add j) = some u) ∧ ∀ u ∈ news, u.oneCell' = true)
    (hm63 : n + m ≤ maxLen) (hbytes : (n + m) * bytes ≤ 140737488355328)
    (hK : ∀ v' W', Row W' (fun k => B ≤ k) sz v' (n + m) (xs ++ news) → Below B w0 W' → wpList P ops Q rest (a.put o.dst v') W') :
    wpList P ops Q (o :: rest) a W := by
  have hbs := hB.size
  exact wp_append hgd s x t e z bytes ho ht hinfo hzs A m c news hs hx h hsrc.1 hsrc.2.1 hsrc.2.2.1 hsrc.2.2.2 hm63 hbytes
    fun v' W' hr ht' => hK v' W' (hr.mono fun k hk => hk.elim id fun hk => by omega) (Tch.below_then hB ht' hB0 fun _ h => h)
theorem wp_append_strB {w0 : World} {B n : Nat} {v : Value} {xs : List Value} {W : World} (hgd : o.guard = none) (s x : Operand) (t u e : TypeId)
    (ho : o.op = .call { callee := .builtin .append, args := #[s, x], argTypes := #[t, u] })
    (ht : P.underlying t = some (.slice e)) (hu : P.underlying u = some .string) (hinfo : (P.info? e).map (fun i => (i.zero, i.size, i.bytes)) = some (some (.int .u8 0), 1, 1))
    (y : ByteArray) (hs : a.eval s = v) (hx : a.eval x = .string y) (hB : Below B w0 W) (hB0 : B ≤ w0.heap.size)
    (h : Row W (fun k => B ≤ k) 1 v n xs) (hbytes : n + y.size ≤ 140737488355328)
    (hK : ∀ v' W', Row W' (fun k => B ≤ k) 1 v' (n + y.size) (xs ++ nums .u8 (bytesOf y)) → Below B w0 W' → wpList P ops Q rest (a.put o.dst v') W') :
    wpList P ops Q (o :: rest) a W := by
  have hbs := hB.size
  exact wp_append_str hgd s x t u e ho ht hu hinfo y hs hx h hbytes
    fun v' W' hr ht' => hK v' W' (hr.mono fun k hk => hk.elim id fun hk => by omega) (Tch.below_then hB ht' hB0 fun _ h => h)
end

/-! ### Bytes of a string, and back -/
theorem bytes_row (W : World) (e : TypeId) (s : ByteArray) (hs : s.size ≤ 140737488355328) :
    Row (Lib.bytesWorld W e s) (fun g => W.heap.size ≤ g) 1 (.slice (some ⟨W.heap.size, 0, none⟩) s.size (grownCap W s.size 0 e)) s.size (nums .u8 (bytesOf s)) ∧ ∀ F, Tch F W (Lib.bytesWorld W e s) := by
  have hm : s.size ≤ maxLen := by simp only [maxLen]; omega
  have hd : s.data.size = s.size := rfl
  refine ⟨?_, fun F => ⟨rfl, rfl, rfl, by rw [Lib.bytesWorld_size]; omega, fun k hk _ => Lib.bytesWorld_at_old W e s k hk⟩⟩
  have hge := grownCap_ge W s.size 0 e
  have hsz : (Lib.bytesCells W e s).size = grownCap W s.size 0 e := by
    simp [Lib.bytesCells, hd]; omega
  have h := Row.of_block (F := fun g => W.heap.size ≤ g) (Lib.bytesWorld_at_new W e s) (Nat.le_refl _) s.size (grownCap W s.size 0 e) 1 hge (grownCap_le_maxLen W s.size 0 e hm) (by omega) (.inr (by omega))
  have hx : (Lib.bytesCells W e s).toList.take (s.size * 1) = nums .u8 (bytesOf s) := by
    simp only [Lib.bytesCells, Array.toList_append, Nat.mul_one]
    rw [List.take_append_of_le_length (by simp [hd]), List.take_of_length_le (by simp [hd])]
    simp [nums, bytesOf, List.map_map, Function.comp_def]
  rwa [hx] at h
theorem row_string {P : Program} {W : World} {F : Nat → Prop} {n : Nat} {v : Value} {xs : List Int} {src dst e : TypeId} (hs : P.underlying src = some (.slice e)) (he : P.underlying e = some (.int .u8)) (hd : P.underlying dst = some .string)
    (h : Row W F 1 v n (nums .u8 xs)) : (convert src dst v).run P W = .ok (.string (strOfNums xs)) W := by
  have hl : xs.length = n := by have := h.1; simp [nums] at this; exact this
  rcases h.2.2 with ⟨rfl, rfl⟩ | ⟨g, o, cap, sp, rfl, _, _, _, _, _, h10⟩
  · obtain rfl : xs = [] := List.eq_nil_of_length_eq_zero hl
    exact run_convert_bytes_nil W src e hs he 0 0 dst hd
  · refine run_convert_bytes_arg W src e hs he g o n cap xs hl (fun i hi => ?_) dst hd
    exact (h10.left i (.int .u8 (xs.getD i 0)) (by simp [nums, List.getElem?_eq_getElem (show i < xs.length by omega), List.getD_eq_getElem?_getD])).1
theorem row_reads {W : World} {F : Nat → Prop} {n : Nat} {k : IntKind} {v : Value} {xs : List Int} (h : Row W F 1 v n (nums k xs)) : ∃ A c, v = .slice A n c ∧ n ≤ c ∧ ReadsInt W k A n xs := by
  have hl : xs.length = n := by have := h.1; simp [nums] at this; exact this
  have hm : n ≤ 9223372036854775807 := h.2.1
  rcases h.2.2 with ⟨rfl, rfl⟩ | ⟨g, o, cap, sp, rfl, _, _, h7, _, _, h10⟩
  · exact ⟨none, 0, rfl, Nat.le_refl _, hl, hm, fun hp => absurd hp (by omega)⟩
  · refine ⟨_, cap, rfl, h7, hl, hm, fun _ => ⟨_, rfl, fun j hj => ?_⟩⟩
    have := (h10.left j (.int k (xs.getD j 0)) (by simp [nums, List.getElem?_eq_getElem (show j < xs.length by omega), List.getD_eq_getElem?_getD])).1
    unfold Addr.add
    split
    · rename_i h0; simpa [h0] using this
    · exact this
/-- What a reading of whole numbers gives to an append's source. -/
theorem reads_src {W : World} {k : IntKind} {A : Option Addr} {n : Nat} {xs : List Int} (h : ReadsInt W k A n xs) :
    (nums k xs).length = n * 1 ∧ (A = none → n = 0) ∧ (∀ ad, A = some ad → ∀ j u, (nums k xs)[j]? = some u → W.cell? (ad.add j) = some u) ∧ ∀ u ∈ nums k xs, u.oneCell' = true := by
  refine ⟨by rw [nums_length, h.1, Nat.mul_one], fun hA => ?_, fun ad hA j u hu => ?_, fun u hu => ?_⟩
  · rcases Nat.eq_zero_or_pos n with h0 | h0
    · exact h0
    · obtain ⟨ad, h', _⟩ := h.2.2 h0
      rw [hA] at h'
      cases h'
  · have hj : j < xs.length := by have := (List.getElem?_eq_some_iff.1 hu).1; rwa [nums_length] at this
    obtain ⟨ad', h', hc⟩ := h.2.2 (by have := h.1; omega)
    rw [hA] at h'
    injection h' with h'
    subst h'
    rw [hc j (by have := h.1; omega)]
    simp [nums, List.getElem?_eq_getElem hj] at hu
    subst hu
    simp [List.getD_eq_getElem?_getD, List.getElem?_eq_getElem hj]
  · simp only [nums, List.mem_map] at hu
    obtain ⟨q, _, rfl⟩ := hu
    rfl
theorem reads_touch {W W' : World} {F : Nat → Prop} {k : IntKind} {A : Option Addr} {n : Nat} {xs : List Int} (h : ReadsInt W k A n xs) (t : Tch F W W') (hF : ∀ ad, A = some ad → ¬ F ad.block) : ReadsInt W' k A n xs :=
  ⟨h.1, h.2.1, fun hn => by
    obtain ⟨ad, e, hc⟩ := h.2.2 hn
    refine ⟨ad, e, fun j hj => ?_⟩
    have := hc j hj
    have hb : (ad.add j).block = ad.block := by unfold Addr.add; split <;> rfl
    rw [t.cell (lt_of_cell this) (by rw [hb]; exact hF ad e)]
    exact this⟩
theorem bytesOf_app (a b : ByteArray) : bytesOf (a ++ b) = bytesOf a ++ bytesOf b := by
  simp [bytesOf, ByteArray.data_append]
theorem strOf_bytesOf (s : ByteArray) : strOfNums (bytesOf s) = s := by
  cases s with
  | mk d =>
    simp [strOfNums, bytesOf, List.map_map, Function.comp_def]
theorem conv_row {P : Program} {src dst e : TypeId} {u : TypeDesc} (hs : P.underlying src = some u) (hd : P.underlying dst = some (.slice e)) (he : P.underlying e = some (.int .u8)) (s : ByteArray) (hl : s.size ≤ 140737488355328) (W : World) :
    ∃ v W', (convert src dst (.string s)).run P W = .ok v W' ∧ Row W' (fun k => W.heap.size ≤ k) 1 v s.size (nums .u8 (bytesOf s)) ∧ Below W.heap.size W W' :=
  ⟨_, _, print_bytes src dst e hs hd he s W, (bytes_row W e s hl).1, ((bytes_row W e s hl).2 (fun _ => False)).below (Nat.le_refl _) (fun _ h => h.elim)⟩
/-- One value in a box of its own, as an append's source. -/
theorem box_src {w : World} (xs : List Value) (t : TypeId) (h1 : ∀ u ∈ xs, u.oneCell' = true) (n : Nat) (hn : xs.length = n) :
    xs.length = n * 1 ∧ ((some ⟨w.heap.size, 0, none⟩ : Option Addr) = none → n = 0) ∧
      (∀ ad, (some ⟨w.heap.size, 0, none⟩ : Option Addr) = some ad → ∀ j u, xs[j]? = some u → (w.alloc (.cells xs.toArray t)).cell? (ad.add j) = some u) ∧ ∀ u ∈ xs, u.oneCell' = true := by
  refine ⟨by omega, (fun h => absurd h (by simp)), (fun ad e j u hj => ?_), h1⟩
  injection e with e
  subst e
  have hg := heap_alloc_new w (.cells xs.toArray t)
  have ha : (⟨w.heap.size, 0, none⟩ : Addr).add j = ⟨w.heap.size, j, none⟩ := add_plain _ _
  rw [ha]
  unfold World.cell?
  simp only [hg]
  simpa using hj
theorem below_undrew {B : Nat} {w w1 : World} (h : Below B w.drew w1) : Below B w w1 := ⟨h.os, h.tape, h.output, h.size, h.block⟩
theorem below_undrewN {B n : Nat} {w w1 : World} (h : Below B (w.drewN n) w1) : Below B w w1 := ⟨h.os, h.tape, h.output, h.size, h.block⟩
/-- The same with the value's shape. -/
theorem conv_row2 {P : Program} {src dst e : TypeId} {u : TypeDesc} (hs : P.underlying src = some u) (hd : P.underlying dst = some (.slice e)) (he : P.underlying e = some (.int .u8)) (s : ByteArray) (hl : s.size ≤ 140737488355328) (W : World) :
    ∃ cap W', (convert src dst (.string s)).run P W = .ok (.slice (some ⟨W.heap.size, 0, none⟩) s.size cap) W' ∧ s.size ≤ cap ∧ Row W' (fun k => W.heap.size ≤ k) 1 (.slice (some ⟨W.heap.size, 0, none⟩) s.size cap) s.size (nums .u8 (bytesOf s)) ∧ Below W.heap.size W W' :=
  ⟨_, _, print_bytes src dst e hs hd he s W, grownCap_ge W s.size 0 e, (bytes_row W e s hl).1, ((bytes_row W e s hl).2 (fun _ => False)).below (Nat.le_refl _) (fun _ h => h.elim)⟩
theorem nums_get {k : IntKind} {xs : List Int} {j : Nat} (h : j < xs.length) : (nums k xs)[j]? = some (.int k xs[j]) := by
  simp [nums, List.getElem?_eq_getElem h]
theorem nums_set (k : IntKind) (xs : List Int) (j : Nat) (v : Int) : (nums k xs).set j (.int k v) = nums k (xs.set j v) := by simp [nums, List.map_set]
end Go.Proofs.YtkfiafclddnaoaaDoor.Rw
