/- Walks: names in fields; a message's length and framing. -/
import Derived.Test.YtkfiafclddnaoaaDoorFld
set_option linter.unusedVariables false
set_option linter.unusedSimpArgs false
namespace Go.Proofs.YtkfiafclddnaoaaDoor.Tk
open Go.RowKit Go.Proofs.YtkfiafclddnaoaaDoorW.PrintWords Go.Proofs.YtkfiafclddnaoaaDoorW.PrintLast Go.Proofs.YtkfiafclddnaoaaDoor.Rw

/-- A row of texts of the call's own is read: element k. -/
theorem strs_at {W : World} {B : Nat} {A : Option Addr} {c : Nat} {xs : List Bs} (h : Row W (fun k => B ≤ k) 1 (.slice A xs.length c) xs.length (strs xs)) {k : Nat} {x : Bs} (hk : xs[k]? = some x) :
    ∃ ad : Addr, A = some ad ∧ ad.block < W.heap.size ∧ W.cell? (ad.add k) = some (.string (sb x)) := by
  obtain ⟨g, o, rfl, _, h1, h2, _⟩ := Row.at_ h k (.string (sb x)) (by simp [strs, hk])
  refine ⟨_, rfl, h1, ?_⟩
  unfold Addr.add
  split
  · rename_i h0; simpa [h0] using h2
  · exact h2
theorem take_map_snoc {α β : Type} (f : α → β) (l : List α) (k : Nat) (x : α) (h : l[k]? = some x) : (l.take (k + 1)).map f = (l.take k).map f ++ [f x] := by
  obtain ⟨hl, rfl⟩ := List.getElem?_eq_some_iff.1 h
  rw [List.take_succ_eq_append_getElem hl, List.map_append]; rfl
theorem all_snoc1 {α : Type} (p : α → Bool) (l : List α) (k : Nat) (x : α) (h : l[k]? = some x) : (l.take (k + 1)).all p = ((l.take k).all p && p x) := by
  obtain ⟨hl, rfl⟩ := List.getElem?_eq_some_iff.1 h
  rw [List.take_succ_eq_append_getElem hl, List.all_append]; simp only [List.all_cons, List.all_nil, Bool.and_true]
theorem trim_len (l : Bs) : (trim l).length ≤ l.length := by
  unfold trim Lib.trimS Lib.trimLeftS Lib.trimRightS
  refine Nat.le_trans (List.dropWhile_sublist _).length_le ?_
  rw [List.length_reverse]
  refine Nat.le_trans (List.dropWhile_sublist _).length_le ?_
  rw [List.length_reverse]
  exact Nat.le_refl _
theorem adds_len {l x : Bs} (h : x ∈ adds l) : x.length ≤ l.length := by
  unfold adds at h
  split at h
  · cases h
  · simp at h; subst h; exact trim_len l
theorem splitGo_elem (M : Nat) : ∀ (n : Nat) (l own : Bs) (q : Bool) (out : List Bs), l.length ≤ n → own.length + l.length ≤ M → (∀ x ∈ out, x.length ≤ M) → ∀ x ∈ (splitGo l own q out).1, x.length ≤ M
  | n, [], own, q, out, _, hm, ho, x, hx => by
    cases q
    · simp only [splitGo, Bool.false_eq_true, if_false] at hx
      rcases List.mem_append.1 hx with h | h
      · exact ho x h
      · have := adds_len h; simp at hm; omega
    · simp [splitGo] at hx
  | n + 1, [c], own, q, out, h, hm, ho, x, hx => by
    simp only [List.length_cons, List.length_nil] at hm
    have h1 := splitGo_elem M n [] (own ++ [c]) (!q) out (by simp) (by simp; omega) ho x
    have h2 := splitGo_elem M n [] [] q (out ++ adds own) (by simp) (by simp) (fun y hy => (List.mem_append.1 hy).elim (ho y) (fun h => by have := adds_len h; omega)) x
    have h3 := splitGo_elem M n [] (own ++ [c]) q out (by simp) (by simp; omega) ho x
    rw [splitGo] at hx
    split at hx
    · exact h1 hx
    · split at hx
      · cases hx
      · split at hx
        · exact h2 hx
        · exact h3 hx
  | n + 1, c :: d :: r, own, q, out, h, hm, ho, x, hx => by
    simp only [List.length_cons] at h hm
    have h1 := splitGo_elem M n (d :: r) (own ++ [c]) (!q) out (by simp; omega) (by simp; omega) ho x
    have h2 := splitGo_elem M n (d :: r) [] q (out ++ adds own) (by simp; omega) (by simp; omega) (fun y hy => (List.mem_append.1 hy).elim (ho y) (fun h => by have := adds_len h; omega)) x
    have h3 := splitGo_elem M n (d :: r) (own ++ [c]) q out (by simp; omega) (by simp; omega) ho x
    have h4 := splitGo_elem M n r (own ++ [c, d]) q out (by omega) (by simp; omega) ho x
    rw [splitGo] at hx
    split at hx
    · exact h1 hx
    · split at hx
      · exact h4 hx
      · split at hx
        · exact h2 hx
        · exact h3 hx
theorem split_elem_len (l x : Bs) (h : x ∈ (split l).1) : x.length ≤ l.length :=
  splitGo_elem l.length l.length l [] false [] (Nat.le_refl _) (by simp) (fun _ h => by cases h) x h
/-- The state of the names' loop: what there is so far, and whether all were tokens. -/
def NamesPost (fs : List Fd) (name : Bs) (w : World) (e : Ending) (w' : World) : Prop :=
  ∃ v, e = .returned (.tuple #[v, .bool (names fs name).2]) ∧ Row w' (fun k => w.heap.size ≤ k) 1 v (names fs name).1.length (strs (names fs name).1) ∧ Below w.heap.size w w'
set_option maxRecDepth 100000 in
set_option maxHeartbeats 1000000 in
theorem names_walk (A : Option Addr) (n c : Nat) (fs : List Fd) (name : ByteArray) (w : World) (hf : FieldsAt w A n fs) (hw : wt fs ≤ 500000) (hn : name.size ≤ 500000) :
    Calls Tryd.prog 40 #[.slice A n c, .string name] w (NamesPost fs (bl name) w) := by
  have hgl := getF_len fs (bl name)
  have HF := Lib.hid hf
  clear hf
  go_enter Tryd.func40, Tryd.ntmps40
  go_wp2_with fail
  refine (get_walk A n c fs name w HF.out hw hn).mono ?_
  rintro e w1 ⟨rfl, hb1⟩
  generalize htx : sb (getF fs (bl name)) = tx
  have htxs : tx.size ≤ 500000 := by rw [← htx, sb_size]; omega
  have hspl : split (bl tx) = split (getF fs (bl name)) := by rw [← htx, bl_sb]
  have HSPL := Lib.hid hspl
  clear htx hspl
  go_wp2_with fail
  refine (split_walk tx w1 htxs).mono ?_
  rintro e w2 ⟨v, rfl, hR, hb2⟩
  have hB2 := Below.trans hb1 (hb2.mono hb1.size)
  have hlen := split_len (bl tx)
  rw [bl_length] at hlen
  have hnm : names fs (bl name) = if (split (bl tx)).2 && (split (bl tx)).1.all isTok then ((split (bl tx)).1.map lower, true) else ([], false) := by rw [HSPL.out]; rfl
  generalize hl : (split (bl tx)).1 = l at hR hlen hnm
  generalize hok : (split (bl tx)).2 = ok0 at hnm
  have HSL := Lib.hid hl
  have HB2 := Lib.hid hB2
  clear hl hB2
  have HNM := Lib.hid hnm
  have hR' := hR.mono (G := fun k => w.heap.size ≤ k) (fun k hk => by have := hb1.size; omega)
  obtain ⟨A8, c8, hv8, hc8⟩ := hR'.slice
  subst hv8
  have HR := Lib.hid hR'
  clear hnm hR hR' hb1 hb2 hok
  generalize hm : l.length = m at hc8 hlen
  have HM := Lib.hid hm
  clear hm
  go_wp2
  go_loopw [9, 10, 26] (fun v9 v10 v26 wr => ∃ (k : Nat) (ok : Bool) (outs : List Bs), k ≤ m ∧ v26 = .int .i64 k ∧ v9 = .bool ok ∧ ok = (ok0 && (l.take k).all isTok) ∧ outs = (l.take k).map lower ∧ Row wr (fun k => w2.heap.size ≤ k) 1 v10 outs.length (strs outs) ∧ Below w2.heap.size w2 wr) (fun _ _ v26 _ => m - (intOf v26).toNat)
  case atStart => exact ⟨0, ok0, [], Nat.zero_le _, rfl, rfl, by simp, rfl, Row.nil _ _ _, Below.refl _ _⟩
  case round =>
    obtain ⟨k, ok, outs, hk, rfl, rfl, hok, ho, hR, hB⟩ := hrel
    have HOK := Lib.hid hok
    have HO := Lib.hid ho
    have HRO := Lib.hid hR
    have hol : outs.length ≤ 1000000 := by rw [ho, List.length_map, List.length_take]; omega
    clear hok ho hR
    by_cases hlt : k < m
    · obtain ⟨x, hx⟩ : ∃ x, l[k]? = some x := ⟨_, List.getElem?_eq_getElem (by rw [HM.out]; exact hlt)⟩
      have hR8 := HR.out
      obtain ⟨ad, hA, hadl, hc1⟩ := strs_at hR8 hx
      have hxs : (sb x).size ≤ 500000 := by
        have := split_elem_len (bl tx) x (by rw [HSL.out]; exact List.mem_of_getElem? hx)
        rw [sb_size]; rw [bl_length] at this; omega
      replace hc1 := pw_cell_below hB hc1
      have HX := Lib.hid hx
      clear hx hR8 hadl
      subst hA
      cases ok with
      | false =>
        go_wp2_with fail
        refine (lower_walk (sb x) wr (by omega)).mono ?_
        rintro e w4 ⟨rfl, hb4⟩
        generalize hlo : sb (lower (bl (sb x))) = lo
        have HLO := Lib.hid hlo
        have hB4 := Below.trans hB (hb4.mono hB.size)
        have hR4 := Lib.hid (HRO.out.touch (Tch.of_below hb4 (fun _ => False)) (fun _ _ _ h => h))
        have hB4a := hB4.alloc hB4.size (.cells #[.string lo] 9)
        clear hlo hb4
        go_wp2_with (first | (at_builtin; refine wp_appendB rfl (.tmp 35) (.tmp 38) 80 9 (.string ⟨#[]⟩) 16 rfl Tryd.underlying80 info9 rfl (some ⟨w4.heap.size, 0, none⟩) 1 1 [.string lo] rfl rfl hB4a (Nat.le_refl _) (hR4.out.alloc _) (box_src (w := w4) [.string lo] 9 ?y1a 1 rfl) ?y2a ?y3a ?y4a))
        case y1a => intro u hu; simp at hu; subst hu; rfl
        case y2a => simp only [maxLen]; omega
        case y3a => omega
        case y4a =>
          intro v5 w5 hr5 hb5
          have HR5 := Lib.hid hr5
          clear hr5
          go_wp2
          go_roundw
          case rel => exact ⟨k + 1, false, outs ++ [lower x], by omega, by go_num, rfl, by rw [all_snoc1 isTok l k x HX.out, ← Bool.and_assoc, ← HOK.out]; rfl, by rw [HO.out, take_map_snoc lower l k x HX.out], HR5.out.as1 (by rw [strs_app, ← HLO.out, bl_sb]; rfl) (by simp [strs]), hb5⟩
          case measure => simp [intOf]; omega
      | true =>
        go_wp2_with fail
        refine (isTok_walk (sb x) wr (by omega)).mono ?_
        rintro e w3 ⟨rfl, hb3⟩
        have hB3 := Below.trans hB (hb3.mono hB.size)
        have hR3 := Lib.hid (HRO.out.touch (Tch.of_below hb3 (fun _ => False)) (fun _ _ _ h => h))
        generalize hzz : isTok (bl (sb x)) = z
        rw [bl_sb] at hzz
        have HZ := Lib.hid hzz
        clear hzz hb3
        go_wp2_with fail
        refine (lower_walk (sb x) w3 (by omega)).mono ?_
        rintro e w4 ⟨rfl, hb4⟩
        generalize hlo : sb (lower (bl (sb x))) = lo
        have HLO := Lib.hid hlo
        have hB4 := Below.trans hB3 (hb4.mono hB3.size)
        have hR4 := Lib.hid (hR3.out.touch (Tch.of_below hb4 (fun _ => False)) (fun _ _ _ h => h))
        have hB4a := hB4.alloc hB4.size (.cells #[.string lo] 9)
        clear hlo hb4
        go_wp2_with (first | (at_builtin; refine wp_appendB rfl (.tmp 35) (.tmp 38) 80 9 (.string ⟨#[]⟩) 16 rfl Tryd.underlying80 info9 rfl (some ⟨w4.heap.size, 0, none⟩) 1 1 [.string lo] rfl rfl hB4a (Nat.le_refl _) (hR4.out.alloc _) (box_src (w := w4) [.string lo] 9 ?y1b 1 rfl) ?y2b ?y3b ?y4b))
        case y1b => intro u hu; simp at hu; subst hu; rfl
        case y2b => simp only [maxLen]; omega
        case y3b => omega
        case y4b =>
          intro v5 w5 hr5 hb5
          have HR5 := Lib.hid hr5
          clear hr5
          go_wp2
          go_roundw
          case rel => exact ⟨k + 1, z, outs ++ [lower x], by omega, by go_num, rfl, by rw [all_snoc1 isTok l k x HX.out, ← Bool.and_assoc, ← HOK.out, HZ.out]; rfl, by rw [HO.out, take_map_snoc lower l k x HX.out], HR5.out.as1 (by rw [strs_app, ← HLO.out, bl_sb]; rfl) (by simp [strs]), hb5⟩
          case measure => simp [intOf]; omega
    · obtain rfl : k = m := by omega
      have e0 : l.take k = l := by rw [← HM.out, List.take_length]
      rw [e0] at HOK HO
      have hBF := Below.trans HB2.out (hB.mono HB2.out.size)
      cases ok with
      | false =>
        have hr : names fs (bl name) = ([], false) := by rw [HNM.out, ← HOK.out]; rfl
        have HRR := Lib.hid hr
        clear hr
        go_wp2
        go_ret2
        exact ⟨_, by rw [HRR.out]; rfl, by rw [HRR.out]; exact Row.nil _ _ _, hBF⟩
      | true =>
        have hr : names fs (bl name) = (outs, true) := by rw [HNM.out, ← HOK.out, HO.out]; rfl
        have HRR := Lib.hid hr
        clear hr
        go_wp2
        go_ret2
        refine ⟨_, by rw [HRR.out]; rfl, ?_, hBF⟩
        rw [HRR.out]
        exact HRO.out.mono (fun k hk => by have := HB2.out.size; omega)
end Go.Proofs.YtkfiafclddnaoaaDoor.Tk
