/- Rows: copy, make. -/
import Derived.Test.YtkfiafclddnaoaaDoorRw
set_option linter.unusedVariables false
set_option linter.unusedSimpArgs false
namespace Go.Proofs.YtkfiafclddnaoaaDoor.Rw
open Go.RowKit Go.Proofs.YtkfiafclddnaoaaDoorW.PrintWords

section
variable {P : Program}
theorem Row.copy {W : World} {F : Nat → Prop} {n : Nat} {v : Value} {xs : List Value} {t t' ty e : TypeId} (h : Row W F 1 v n xs) (ht : P.underlying t = some (.slice e)) (hinfo : (P.info? e).map (·.size) = some 1)
    (A : Option Addr) (m c : Nat) (news : List Value) (hl : news.length = m * 1) (hA : A = none → m = 0)
    (hnews : ∀ ad, A = some ad → ∀ j u, news[j]? = some u → W.cell? (ad.add j) = some u) (h1 : ∀ u ∈ news, u.oneCell' = true) :
    ∃ W', (Builtin.copy_ #[t, t'] ty #[v, .slice A m c]).run P W = .ok (goInt ((min m n : Nat) : Int)) W' ∧ Row W' F 1 v n (news.take (min m n) ++ xs.drop (min m n)) ∧ Tch F W W' := by
  have hm : news.length = m := by omega
  obtain ⟨h2, h3, h4⟩ := h
  have hxl : xs.length = n := by omega
  rcases Nat.eq_zero_or_pos (min m n) with h0 | hp
  · refine ⟨W, ?_, ?_, Tch.refl _ _⟩
    · rcases h4 with ⟨rfl, _⟩ | ⟨g, o, cap, sp, rfl, _⟩
      · have := run_copy_none (P := P) W t t' ty e none A 0 0 m c ht hinfo (by simp)
        rw [this, h0]; rfl
      · have := run_copy_none (P := P) W t t' ty e (some ⟨g, o, none⟩) A n cap m c ht hinfo h0
        rw [this, h0]; rfl
    · rw [h0, List.take_zero, List.nil_append, List.drop_zero]
      exact ⟨h2, h3, h4⟩
  · rcases h4 with ⟨rfl, rfl⟩ | ⟨g, o, cap, sp, rfl, h5, h6, h7, h8, h9, h10⟩
    · omega
    cases hAe : A with
    | none => have := hA hAe; omega
    | some ad =>
      have hkl : (news.take (min m n)).length = min m n := by rw [List.length_take]; omega
      have hsrc : ∀ j u, (news.take (min m n))[j]? = some u → W.cell? (ad.add j) = some u := fun j u hj => by
        have hjl := (List.getElem?_eq_some_iff.1 hj).1
        rw [hkl] at hjl
        rw [List.getElem?_take_of_lt hjl] at hj
        exact hnews ad hAe j u hj
      have hsx := h10.left
      have hxs : xs.take (min m n) ++ xs.drop (min m n) = xs := List.take_append_drop _ _
      have hr := run_copy_cells (P := P) W t t' ty e g o n cap ad m c (news.take (min m n)) ht hinfo hkl hsrc
        (fun j hj => by rw [hkl] at hj; rw [(hsx j _ (List.getElem?_eq_getElem (by omega))).1]; rfl) (fun j hj => by rw [hkl] at hj; exact (hsx j _ (List.getElem?_eq_getElem (by omega))).2)
        (fun u hu => h1 u (List.mem_of_mem_take hu))
      have htch := (Tch.refl F W).setCells (g := g) (.inl h5) (news.take (min m n)) o
      refine ⟨_, by rw [hr, hkl], ?_, htch⟩
      have hseg : Seg (W.setCells g o (news.take (min m n))) g o ((news.take (min m n) ++ xs.drop (min m n)) ++ sp) := by
        rw [← hxs] at hsx
        have e1 : (xs.take (min m n)).length = min m n := by rw [List.length_take]; omega
        have s1 := hsx.left.write (ys := news.take (min m n)) (by rw [hkl, e1])
        have s2 := hsx.right.apart (p := o) (news.take (min m n)) (.inl (by rw [hkl, e1]; omega))
        have s3 := h10.right.apart (p := o) (news.take (min m n)) (.inl (by rw [hkl]; omega))
        refine Seg.join (Seg.join s1 ?_) ?_
        · rw [hkl]; rwa [e1] at s2
        · rw [List.length_append, hkl, List.length_drop, show min m n + (xs.length - min m n) = xs.length by omega]
          exact s3
      have hln : (news.take (min m n) ++ xs.drop (min m n)).length = xs.length := by
        rw [List.length_append, hkl, List.length_drop]; omega
      exact ⟨by rw [hln]; exact h2, h3, .inr ⟨g, o, cap, sp, rfl, h5, Nat.lt_of_lt_of_le h6 htch.size, h7, h8, by rw [List.length_append, hln, ← List.length_append]; exact h9, hseg⟩⟩
end
section
variable {P : Program} {ops : Array Oper} {rest : List Oper} {o : Oper} {a : Act} {Q : Exit → Act → World → Prop}
theorem wp_copy {F : Nat → Prop} {n : Nat} {v : Value} {xs : List Value} {W : World} (hgd : o.guard = none) (s x : Operand) (t t' e : TypeId)
    (ho : o.op = .call { callee := .builtin .copy, args := #[s, x], argTypes := #[t, t'] })
    (ht : P.underlying t = some (.slice e)) (hinfo : (P.info? e).map (·.size) = some 1)
    (A : Option Addr) (m c : Nat) (news : List Value) (hs : a.eval s = v) (hx : a.eval x = .slice A m c)
    (h : Row W F 1 v n xs) (hl : news.length = m * 1) (hA : A = none → m = 0)
    (hnews : ∀ ad, A = some ad → ∀ j u, news[j]? = some u → W.cell? (ad.add j) = some u) (h1 : ∀ u ∈ news, u.oneCell' = true)
    (hK : ∀ W', Row W' F 1 v n (news.take (min m n) ++ xs.drop (min m n)) → Tch F W W' → wpList P ops Q rest (a.put o.dst (.int .i64 ((min m n : Nat) : Int))) W') :
    wpList P ops Q (o :: rest) a W := by
  obtain ⟨w1, hr, h2, h3⟩ := h.copy (P := P) (t' := t') (ty := o.type) ht hinfo A m c news hl hA hnews h1
  refine wpList_plain hgd fun K hK' => ?_
  unfold Oper.wp execOp
  simp only [ho, resolve, invoke, builtin, Sem.run_bind, Sem.run_pure, Result.andThen_ok, List.map_toArray, List.map_cons, List.map_nil, hs, hx, hr]
  exact hK' _ _ (hK w1 h2 h3)
end
/-- One value in a box of its own, whose number is told otherwise. -/
theorem box_src2 {w : World} {b : Nat} (hb : b = w.heap.size) (xs : List Value) (t : TypeId) (h1 : ∀ u ∈ xs, u.oneCell' = true) (n : Nat) (hn : xs.length = n) :
    xs.length = n * 1 ∧ ((some ⟨b, 0, none⟩ : Option Addr) = none → n = 0) ∧
      (∀ ad, (some ⟨b, 0, none⟩ : Option Addr) = some ad → ∀ j u, xs[j]? = some u → (w.alloc (.cells xs.toArray t)).cell? (ad.add j) = some u) ∧ ∀ u ∈ xs, u.oneCell' = true := by
  subst hb
  exact box_src xs t h1 n hn
/-- What a new row of zeros holds. -/
theorem made_row (W : World) (e : TypeId) (z : Value) (m : Nat) (hm : m ≤ maxLen) :
    Row (W.alloc (.cells (madeCells #[z] m) e)) (fun g => W.heap.size ≤ g) 1 (.slice (some ⟨W.heap.size, 0, none⟩) m m) m (List.replicate m z) := by
  have hg := heap_alloc_new W (.cells (madeCells #[z] m) e)
  have h := Row.of_block (F := fun g => W.heap.size ≤ g) hg (Nat.le_refl _) m m 1 (Nat.le_refl _) hm (by simp [madeCells]) (.inl rfl)
  have hx : (madeCells #[z] m).toList.take (m * 1) = List.replicate m z := by
    refine List.ext_getElem? fun j => ?_
    rcases Nat.lt_or_ge j m with hj | hj
    · rw [List.getElem?_take_of_lt (by omega)]
      simp [madeCells, hj, Nat.mod_one]
    · rw [List.getElem?_eq_none (by rw [List.length_take]; omega), List.getElem?_eq_none (by rw [List.length_replicate]; exact hj)]
  rwa [hx] at h
end Go.Proofs.YtkfiafclddnaoaaDoor.Rw
