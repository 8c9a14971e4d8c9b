/- Walks: the reference's fields. -/
import Derived.Test.YtkfiafclddnaoaaDoorRef4
import Derived.Test.YtkfiafclddnaoaaDoorFld2
set_option linter.unusedVariables false
set_option linter.unusedSimpArgs false
namespace Go.Proofs.YtkfiafclddnaoaaDoor.Tk
open Go.RowKit Go.Proofs.YtkfiafclddnaoaaDoorW.PrintWords Go.Proofs.YtkfiafclddnaoaaDoorW.PrintLast Go.Proofs.YtkfiafclddnaoaaDoor.Rw

theorem join_snoc (xs : List Bs) (x sep : Bs) (h : xs ≠ []) : Lib.join (xs ++ [x]) sep = Lib.join xs sep ++ sep ++ x := by
  induction xs with
  | nil => exact absurd rfl h
  | cons a r ih =>
    cases r with
    | nil => simp [Lib.join, List.intercalate]
    | cons b r =>
      have := ih (by simp)
      have e : ∀ (y : List Bs), y ≠ [] → Lib.join (a :: y) sep = a ++ sep ++ Lib.join y sep := by
        intro y hy
        cases y with
        | nil => exact absurd rfl hy
        | cons c y => simp [Lib.join, List.intercalate]
      rw [List.cons_append, e _ (by simp), e _ (by simp), this]
      simp
set_option maxRecDepth 100000 in
set_option maxHeartbeats 1000000 in
theorem rget_walk (A : Option Addr) (n c : Nat) (fs : List Fd) (name : ByteArray) (w : World) (hf : FieldsAt w A n fs) (hw : wt fs ≤ 500000) (hn : name.size ≤ 500000) :
    Calls Tryd.prog 42 #[.slice A n c, .string name] w (GetPost fs (bl name) w) := by
  have hfl := hf.1
  have hwl := wt_len fs
  have hnl : n ≤ 500000 := by omega
  have HF := Lib.hid hf
  have HL := Lib.hid hfl
  clear hf hfl hwl
  go_enter Tryd.func42, Tryd.ntmps42
  go_wp2
  go_loopw [6, 7, 8] (fun v4 v5 v6 wr => ∃ (k : Nat) (outs : List Bs) (x : ByteArray), k ≤ n ∧ v6 = .int .i64 k ∧ outs = vals (fs.take k) (bl name) ∧ v5 = .int .i64 outs.length ∧ v4 = .string x ∧ bl x = Lib.join outs [44, 32] ∧ Below w.heap.size w wr) (fun _ _ v6 _ => n - (intOf v6).toNat)
  case atStart => exact ⟨0, [], ⟨#[]⟩, Nat.zero_le _, rfl, rfl, rfl, rfl, rfl, Below.refl _ _⟩
  case round =>
    obtain ⟨k, outs, x, hk, rfl, ho, rfl, rfl, hx, hB⟩ := hrel
    have HO := Lib.hid ho
    have HX := Lib.hid hx
    have hol : outs.length ≤ 500000 := by
      rw [ho]
      have h1 := vals_len (fs.take k) (bl name)
      rw [List.length_take] at h1
      omega
    have hxs : x.size ≤ 500000 := by
      rw [← bl_length, hx, ho]
      have := getF_len (fs.take k) (bl name)
      have h2 : wt (fs.take k) ≤ wt fs := by
        unfold wt
        have e : fs = fs.take k ++ fs.drop k := (List.take_append_drop k fs).symm
        conv => rhs; rw [e]
        rw [List.map_append, List.sum_append]
        omega
      unfold getF at this
      omega
    clear ho hx
    by_cases hlt : k < n
    · obtain ⟨f, hfk⟩ : ∃ f, fs[k]? = some f := ⟨_, List.getElem?_eq_getElem (by rw [HL.out]; exact hlt)⟩
      obtain ⟨ad, hA, hc1, hc2⟩ := HF.out.2.2 k f hfk
      have hwf := wt_get hfk
      replace hc1 := pw_cell_below hB hc1
      replace hc2 := pw_cell_below hB hc2
      have HFK := Lib.hid hfk
      clear hfk
      subst hA
      have hvs := Lib.hid (vals_snoc fs (bl name) k f HFK.out)
      go_wp2_with fail
      refine (rsame_walk f.1 name _ (by omega) (by omega)).mono ?_
      rintro e w1 ⟨rfl, hb1⟩
      obtain ⟨z, hz⟩ : ∃ z, z = same (bl f.1) (bl name) := ⟨_, rfl⟩
      rw [← hz]
      have HZ := Lib.hid hz
      have hB1 := Below.trans hB (hb1.mono hB.size)
      replace hc1 := pw_cell_below hb1 hc1
      replace hc2 := pw_cell_below hb1 hc2
      clear hz hb1
      cases z with
      | false =>
        go_wp2
        go_roundw
        case rel => exact ⟨k + 1, outs, x, by omega, by go_num, by rw [hvs.out, ← HZ.out, HO.out]; simp, rfl, rfl, HX.out, hB1⟩
        case measure => simp [intOf]; omega
      | true =>
        have hvv := Lib.hid (show outs ++ [bl f.2] = vals (fs.take (k + 1)) (bl name) by rw [hvs.out, ← HZ.out, HO.out]; simp)
        by_cases h0 : outs = []
        · have h0l : outs.length = 0 := by rw [h0]; rfl
          have h0I : ¬ (0 : Int) < outs.length := by omega
          have hx0 : bl x = [] := by rw [HX.out, h0]; rfl
          have HX0 := Lib.hid hx0
          have hj := Lib.hid (show Lib.join (outs ++ [bl f.2]) [44, 32] = bl f.2 by rw [h0]; simp [Lib.join, List.intercalate])
          have hfx : x.size = 0 := by rw [← bl_length, hx0]; rfl
          clear h0 hx0
          go_wp2
          go_roundw
          case rel => exact ⟨k + 1, outs ++ [bl f.2], _, by omega, by go_num, hvv.out, by rw [List.length_append, List.length_singleton]; go_num, rfl, by rw [bl_app, HX0.out, hj.out]; rfl, hB1⟩
          case measure => simp [intOf]; omega
        · have h0l : 0 < outs.length := List.length_pos_iff.2 h0
          have h0I : (0 : Int) < outs.length := by omega
          have hj := Lib.hid (join_snoc outs (bl f.2) [44, 32] h0)
          have h2s : (x ++ (⟨#[44, 32]⟩ : ByteArray)).size = x.size + 2 := by rw [ByteArray.size_append]; rfl
          clear h0
          go_wp2
          go_roundw
          case rel => exact ⟨k + 1, outs ++ [bl f.2], _, by omega, by go_num, hvv.out, by rw [List.length_append, List.length_singleton]; go_num, rfl, by rw [bl_app, bl_app, HX.out, hj.out]; rfl, hB1⟩
          case measure => simp [intOf]; omega
    · obtain rfl : k = n := by omega
      have ho : outs = vals fs (bl name) := by rw [HO.out, ← HL.out, List.take_length]
      have HZ := Lib.hid ho
      clear ho
      go_wp2
      go_ret2
      exact ⟨by unfold getF; rw [← HZ.out, ← HX.out, sb_bl]; rfl, hB⟩

set_option maxRecDepth 100000 in
set_option maxHeartbeats 1000000 in
theorem rnames_walk (A : Option Addr) (n c : Nat) (fs : List Fd) (name : ByteArray) (w : World) (hf : FieldsAt w A n fs) (hw : wt fs ≤ 500000) (hn : name.size ≤ 500000) :
    Calls Tryd.prog 43 #[.slice A n c, .string name] w (NamesPost fs (bl name) w) := by
  have hgl := getF_len fs (bl name)
  have HF := Lib.hid hf
  clear hf
  go_enter Tryd.func43, Tryd.ntmps43
  go_wp2_with fail
  refine (rget_walk A n c fs name w HF.out hw hn).mono ?_
  rintro e w1 ⟨rfl, hb1⟩
  generalize htx : sb (getF fs (bl name)) = tx
  have htxs : tx.size ≤ 500000 := by rw [← htx, sb_size]; omega
  have hspl : split (bl tx) = split (getF fs (bl name)) := by rw [← htx, bl_sb]
  have HSPL := Lib.hid hspl
  clear htx hspl
  go_wp2_with fail
  refine (rsplit_walk tx w1 htxs).mono ?_
  rintro e w2 ⟨v, rfl, hR, hb2⟩
  have hB2 := Below.trans hb1 (hb2.mono hb1.size)
  have hlen := split_len (bl tx)
  rw [bl_length] at hlen
  have hnm : names fs (bl name) = if (split (bl tx)).2 && (split (bl tx)).1.all isTok then ((split (bl tx)).1.map lower, true) else ([], false) := by rw [HSPL.out]; rfl
  generalize hl : (split (bl tx)).1 = l at hR hlen hnm
  generalize hok : (split (bl tx)).2 = ok0 at hnm
  have HSL := Lib.hid hl
  have HB2 := Lib.hid hB2
  clear hl hB2
  have HNM := Lib.hid hnm
  have hR' := hR.mono (G := fun k => w.heap.size ≤ k) (fun k hk => by have := hb1.size; omega)
  obtain ⟨A8, c8, hv8, hc8⟩ := hR'.slice
  subst hv8
  have HR := Lib.hid hR'
  clear hnm hR hR' hb1 hb2 hok
  generalize hm : l.length = m at hc8 hlen ⊢
  have HM := Lib.hid hm
  clear hm
  cases ok0 with
  | false =>
    have hr : names fs (bl name) = ([], false) := by rw [HNM.out]; rfl
    have HRR := Lib.hid hr
    clear hr
    go_wp2
    go_ret2
    exact ⟨_, by rw [HRR.out]; rfl, by rw [HRR.out]; exact Row.nil _ _ _, HB2.out⟩
  | true =>
    go_wp2
    go_loopw [10, 11] (fun v10 v11 wr => ∃ (k : Nat) (outs : List Bs), k ≤ m ∧ v11 = .int .i64 k ∧ (l.take k).all isTok = true ∧ outs = (l.take k).map lower ∧ Row wr (fun k => w2.heap.size ≤ k) 1 v10 outs.length (strs outs) ∧ Below w2.heap.size w2 wr) (fun _ v11 _ => m - (intOf v11).toNat)
    case atStart => exact ⟨0, [], Nat.zero_le _, rfl, by simp, rfl, Row.nil _ _ _, Below.refl _ _⟩
    case round =>
      obtain ⟨k, outs, hk, rfl, hok, ho, hR, hB⟩ := hrel
      have HOK := Lib.hid hok
      have HO := Lib.hid ho
      have HRO := Lib.hid hR
      have hol : outs.length ≤ 1000000 := by rw [ho, List.length_map, List.length_take]; omega
      clear hok ho hR
      by_cases hlt : k < m
      · obtain ⟨x, hx⟩ : ∃ x, l[k]? = some x := ⟨_, List.getElem?_eq_getElem (by rw [HM.out]; exact hlt)⟩
        have hR8 := HR.out
        obtain ⟨ad, hA, hadl, hc1⟩ := strs_at hR8 hx
        have hxs : (sb x).size ≤ 500000 := by
          have := split_elem_len (bl tx) x (by rw [HSL.out]; exact List.mem_of_getElem? hx)
          rw [sb_size]; rw [bl_length] at this; omega
        replace hc1 := pw_cell_below hB hc1
        have HX := Lib.hid hx
        clear hx hR8 hadl
        subst hA
        go_wp2_with fail
        refine (rIs_walk (sb x) wr (by omega)).mono ?_
        rintro e w3 ⟨rfl, rfl⟩
        generalize hzz : isTok (bl (sb x)) = z
        rw [bl_sb] at hzz
        have HZ := Lib.hid hzz
        clear hzz
        cases z with
        | false =>
          have hr : names fs (bl name) = ([], false) := by
            rw [HNM.out]
            have : l.all isTok = false := by
              rw [Bool.eq_false_iff]
              intro ha
              have := List.all_eq_true.1 ha x (List.mem_of_getElem? HX.out)
              rw [HZ.out] at this
              exact absurd this (by decide)
            rw [this]; rfl
          have HRR := Lib.hid hr
          have hBF := Below.trans HB2.out (hB.mono HB2.out.size)
          clear hr
          go_wp2
          go_ret2
          exact ⟨_, by rw [HRR.out]; rfl, by rw [HRR.out]; exact Row.nil _ _ _, hBF⟩
        | true =>
          go_wp2_with fail
          refine (rlower_walk (sb x) wr (by omega)).mono ?_
          rintro e w4 ⟨rfl, hb4⟩
          generalize hlo : sb (lower (bl (sb x))) = lo
          have HLO := Lib.hid hlo
          have hB4 := Below.trans hB (hb4.mono hB.size)
          have hR4 := Lib.hid (HRO.out.touch (Tch.of_below hb4 (fun _ => False)) (fun _ _ _ h => h))
          have hB4a := hB4.alloc hB4.size (.cells #[.string lo] 9)
          clear hlo hb4
          go_wp2_with (first | fail | (at_builtin; refine wp_appendB rfl (.tmp 37) (.tmp 43) 80 9 (.string ⟨#[]⟩) 16 rfl Tryd.underlying80 info9 rfl (some ⟨w4.heap.size, 0, none⟩) 1 1 [.string lo] rfl rfl hB4a (Nat.le_refl _) (hR4.out.alloc _) (box_src (w := w4) [.string lo] 9 ?y1 1 rfl) ?y2 ?y3 ?y4))
          case y1 => intro u hu; simp at hu; subst hu; rfl
          case y2 => simp only [maxLen]; omega
          case y3 => omega
          case y4 =>
            intro v5 w5 hr5 hb5
            have HR5 := Lib.hid hr5
            clear hr5
            go_wp2
            go_roundw
            case rel => exact ⟨k + 1, outs ++ [lower x], by omega, by go_num, by rw [all_snoc1 isTok l k x HX.out, HOK.out, HZ.out]; rfl, by rw [HO.out, take_map_snoc lower l k x HX.out], HR5.out.as1 (by rw [strs_app, ← HLO.out, bl_sb]; rfl) (by simp [strs]), hb5⟩
            case measure => simp [intOf]; omega
      · obtain rfl : k = m := by omega
        have e0 : l.take k = l := by rw [← HM.out, List.take_length]
        rw [e0] at HOK HO
        have hBF := Below.trans HB2.out (hB.mono HB2.out.size)
        have hr : names fs (bl name) = (outs, true) := by rw [HNM.out, HOK.out, HO.out]; rfl
        have HRR := Lib.hid hr
        clear hr
        go_wp2
        go_ret2
        refine ⟨_, by rw [HRR.out]; rfl, ?_, hBF⟩
        rw [HRR.out]
        exact HRO.out.mono (fun k hk => by have := HB2.out.size; omega)
end Go.Proofs.YtkfiafclddnaoaaDoor.Tk
