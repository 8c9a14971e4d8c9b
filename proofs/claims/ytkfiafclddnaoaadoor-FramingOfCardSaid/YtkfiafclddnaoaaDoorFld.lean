/- Walks: fields. -/
import Derived.Test.YtkfiafclddnaoaaDoorTok4
set_option linter.unusedVariables false
set_option linter.unusedSimpArgs false
namespace Go.Proofs.YtkfiafclddnaoaaDoor.Tk
open Go.RowKit Go.Proofs.YtkfiafclddnaoaaDoorW.PrintWords Go.Proofs.YtkfiafclddnaoaaDoorW.PrintLast Go.Proofs.YtkfiafclddnaoaaDoor.Rw

abbrev Fd := ByteArray × ByteArray
/-- A list of fields that is read. -/
def FieldsAt (W : World) (A : Option Addr) (n : Nat) (fs : List Fd) : Prop :=
  fs.length = n ∧ n ≤ 9223372036854775807 ∧ ∀ j f, fs[j]? = some f → ∃ ad, A = some ad ∧ W.cell? (ad.add (j * 2)) = some (.string f.1) ∧ W.cell? ⟨(ad.add (j * 2)).block, (ad.add (j * 2)).off + 1, none⟩ = some (.string f.2)
theorem FieldsAt.below {W W' : World} {A : Option Addr} {n : Nat} {fs : List Fd} (h : FieldsAt W A n fs) (hb : Below W.heap.size W W') : FieldsAt W' A n fs :=
  ⟨h.1, h.2.1, fun j f hj => by
    obtain ⟨ad, h1, h2, h3⟩ := h.2.2 j f hj
    exact ⟨ad, h1, pw_cell_below hb h2, pw_cell_below hb h3⟩⟩
def wt (fs : List Fd) : Nat := (fs.map fun f => f.1.size + f.2.size + 2).sum
def vals (fs : List Fd) (name : Bs) : List Bs := (fs.filter fun f => same (bl f.1) name).map fun f => bl f.2
def getF (fs : List Fd) (name : Bs) : Bs := Lib.join (vals fs name) [44, 32]
theorem wt_get {fs : List Fd} {j : Nat} {f : Fd} (h : fs[j]? = some f) : f.1.size + f.2.size + 2 ≤ wt fs := by
  have hm : f ∈ fs := List.mem_of_getElem? h
  clear h
  unfold wt
  induction fs with
  | nil => cases hm
  | cons a r ih =>
    simp only [List.map_cons, List.sum_cons]
    rcases List.mem_cons.1 hm with rfl | hm'
    · omega
    · have := ih hm'
      omega
theorem wt_len (fs : List Fd) : 2 * fs.length ≤ wt fs := by
  unfold wt
  induction fs with
  | nil => simp
  | cons a r ih => simp only [List.map_cons, List.sum_cons, List.length_cons]; omega
theorem vals_len (fs : List Fd) (name : Bs) : (vals fs name).length ≤ fs.length := by unfold vals; rw [List.length_map]; exact List.length_filter_le _ _
theorem vals_wt (fs : List Fd) (name : Bs) : ((vals fs name).map fun x => x.length + 2).sum ≤ wt fs := by
  unfold vals wt
  induction fs with
  | nil => simp
  | cons a r ih =>
    rw [List.filter_cons]
    split
    · simp only [List.map_cons, List.sum_cons, bl_length]; omega
    · simp only [List.map_cons, List.sum_cons]; omega
theorem vals_snoc (fs : List Fd) (name : Bs) (k : Nat) (f : Fd) (h : fs[k]? = some f) :
    vals (fs.take (k + 1)) name = vals (fs.take k) name ++ if same (bl f.1) name then [bl f.2] else [] := by
  obtain ⟨hl, rfl⟩ := List.getElem?_eq_some_iff.1 h
  rw [List.take_succ_eq_append_getElem hl]
  unfold vals
  rw [List.filter_append, List.map_append]
  congr 1
  rw [List.filter_cons]
  split <;> simp

theorem join_le : ∀ (xs : List Bs), (Lib.join xs [44, 32]).length ≤ (xs.map fun x => x.length + 2).sum
  | [] => by simp [Lib.join_nil]
  | x :: r => by
    rw [Lib.join_length]
    have : Lib.lens (x :: r) + 2 * (x :: r).length = ((x :: r).map fun x => x.length + 2).sum := by
      generalize x :: r = l
      induction l with
      | nil => rfl
      | cons a l ih => simp only [Lib.lens, List.map_cons, List.sum_cons, List.length_cons] at ih ⊢; omega
    simp only [List.length_cons, List.length_nil] at this ⊢
    omega
theorem join_count (xs : List Bs) (h : 0 < xs.length) : xs.length ≤ (Lib.join xs [44, 32]).length + 1 := by
  match xs, h with
  | x :: r, _ =>
    rw [Lib.join_length]
    simp only [List.length_cons, List.length_nil]
    omega
/-- strings.Join at a row of texts of the call's own, empty or not. -/
theorem join_call (A : Option Addr) (c : Nat) (outs : List Bs) (B : Nat) (w : World) (hR : Row w (fun k => B ≤ k) 1 (.slice A outs.length c) outs.length (strs outs)) (hc : outs.length ≤ c) (hl : (Lib.join outs [44, 32]).length ≤ 500000) :
    Calls Tryd.prog 57 #[.slice A outs.length c, .string ⟨#[44, 32]⟩] w fun e w' => e = .returned (.string (sb (Lib.join outs [44, 32]))) ∧ Below w.heap.size w w' := by
  rcases Nat.eq_zero_or_pos outs.length with h0 | h0
  · obtain rfl : outs = [] := List.eq_nil_of_length_eq_zero h0
    refine (Tryd.strings_Join_none A c ⟨#[44, 32]⟩ w).mono ?_
    rintro e w' ⟨rfl, rfl⟩
    exact ⟨rfl, Below.refl _ _⟩
  · have hg := fun j (x : ByteArray) (hj : (outs.map sb)[j]? = some x) => Row.at_ hR j (.string x) (by
      rw [List.getElem?_map] at hj
      simp only [strs, List.getElem?_map]
      cases h : outs[j]? with
      | none => rw [h] at hj; cases hj
      | some y => rw [h] at hj; simp at hj; simp [hj])
    obtain ⟨g, o, rfl, _, hlt, _, _⟩ := hg 0 (sb outs[0]) (by simp [h0])
    have hlen : (outs.map sb).length = outs.length := by simp
    have hmap : (outs.map sb).map (fun x => x.data.toList) = outs := by
      rw [List.map_map]
      conv => rhs; rw [← List.map_id outs]
      apply List.map_congr_left
      intro x _
      exact bl_sb x
    have hjn := Tryd.strings_Join g o c (outs.map sb) ⟨#[44, 32]⟩ w (fun j x hj => by
      obtain ⟨g', o', he, _, _, h1, _⟩ := hg j x hj
      injection he with he
      injection he with he1 he2
      subst he1 he2
      exact h1) hlt (by
        rw [hlen]
        have := join_count outs h0
        omega) (by rw [hlen]; exact hc) (by rw [hmap]; exact Nat.le_trans hl (by omega))
    rw [hmap, hlen] at hjn
    exact hjn
def GetPost (fs : List Fd) (name : Bs) (w : World) (e : Ending) (w' : World) : Prop :=
  e = .returned (.tuple #[.string (sb (getF fs name)), .int .i64 (vals fs name).length]) ∧ Below w.heap.size w w'
set_option maxRecDepth 100000 in
set_option maxHeartbeats 1000000 in
theorem get_walk (A : Option Addr) (n c : Nat) (fs : List Fd) (name : ByteArray) (w : World) (hf : FieldsAt w A n fs) (hw : wt fs ≤ 500000) (hn : name.size ≤ 500000) :
    Calls Tryd.prog 39 #[.slice A n c, .string name] w (GetPost fs (bl name) w) := by
  have hfl := hf.1
  have hwl := wt_len fs
  have hnl : n ≤ 500000 := by omega
  have HF := Lib.hid hf
  have HL := Lib.hid hfl
  clear hf hfl hwl
  go_enter Tryd.func39, Tryd.ntmps39
  go_wp2
  go_loopw [6, 11] (fun v6 v11 wr => ∃ (k : Nat) (outs : List Bs), k ≤ n ∧ v11 = .int .i64 k ∧ outs = vals (fs.take k) (bl name) ∧ Row wr (fun k => w.heap.size ≤ k) 1 v6 outs.length (strs outs) ∧ Below w.heap.size w wr) (fun _ v11 _ => n - (intOf v11).toNat)
  case atStart => exact ⟨0, [], Nat.zero_le _, rfl, rfl, Row.nil _ _ _, Below.refl _ _⟩
  case round =>
    obtain ⟨k, outs, hk, rfl, ho, hR, hB⟩ := hrel
    have HO := Lib.hid ho
    have HR := Lib.hid hR
    clear ho hR
    by_cases hlt : k < n
    · obtain ⟨f, hfk⟩ : ∃ f, fs[k]? = some f := ⟨_, List.getElem?_eq_getElem (by rw [HL.out]; exact hlt)⟩
      obtain ⟨ad, hA, hc1, hc2⟩ := HF.out.2.2 k f hfk
      have hwf := wt_get hfk
      replace hc1 := pw_cell_below hB hc1
      replace hc2 := pw_cell_below hB hc2
      have HFK := Lib.hid hfk
      clear hfk
      subst hA
      have hvs := Lib.hid (vals_snoc fs (bl name) k f HFK.out)
      go_wp2_with fail
      refine (same_walk f.1 name _ (by omega) (by omega)).mono ?_
      rintro e w1 ⟨rfl, hb1⟩
      obtain ⟨z, hz⟩ : ∃ z, z = same (bl f.1) (bl name) := ⟨_, rfl⟩
      rw [← hz]
      have HZ := Lib.hid hz
      have hB0 := hB.alloc hB.size (.cells #[.string f.1, .string f.2] 28)
      have hB1 := Below.trans hB0 (hb1.mono hB0.size)
      have hR1 := Lib.hid ((HR.out.alloc (.cells #[.string f.1, .string f.2] 28)).touch (Tch.of_below hb1 (fun _ => False)) (fun _ _ _ h => h))
      have hcv : w1.cell? ⟨wr.heap.size, 1, none⟩ = some (.string f.2) := pw_cell_below hb1 (by simp)
      clear hz hc1 hc2 hb1 hB0
      cases z with
      | false =>
        go_wp2
        go_roundw
        case rel => exact ⟨k + 1, outs, by omega, by go_num, by rw [hvs.out, ← HZ.out, HO.out]; simp, hR1.out, hB1⟩
        case measure => simp [intOf]; omega
      | true =>
        have hol : outs.length ≤ 500000 := by
          rw [HO.out]
          have h1 := vals_len (fs.take k) (bl name)
          rw [List.length_take] at h1
          omega
        have hB1a := hB1.alloc hB1.size (.cells #[.string f.2] 9)
        go_wp2_with (first | (at_builtin; refine wp_appendB rfl (.tmp 19) (.tmp 22) 80 9 (.string ⟨#[]⟩) 16 rfl Tryd.underlying80 info9 rfl (some ⟨w1.heap.size, 0, none⟩) 1 1 [.string f.2] rfl rfl hB1a (Nat.le_refl _) (hR1.out.alloc _) (box_src (w := w1) [.string f.2] 9 ?y1 1 rfl) ?y2 ?y3 ?y4))
        case y1 => intro u hu; simp at hu; subst hu; rfl
        case y2 => simp only [maxLen]; omega
        case y3 => omega
        case y4 =>
          intro v2 w2 hr2 hb2
          have HR2 := Lib.hid hr2
          clear hr2
          go_wp2
          go_roundw
          case rel => exact ⟨k + 1, outs ++ [bl f.2], by omega, by go_num, by rw [hvs.out, ← HZ.out, HO.out]; simp, HR2.out.as1 (by simp [strs, sb_bl]) (by simp [strs]), hb2⟩
          case measure => simp [intOf]; omega
    · obtain rfl : k = n := by omega
      have ho : outs = vals fs (bl name) := by rw [HO.out, ← HL.out, List.take_length]
      have hR := HR.out
      obtain ⟨A6, c6, hv6, hc6⟩ := hR.slice
      subst hv6
      have hol : outs.length ≤ 500000 := by
        rw [ho]
        have h1 := vals_len fs (bl name)
        have := HL.out
        omega
      have hjl : (Lib.join outs [44, 32]).length ≤ 500000 := by
        rw [ho]
        have h1 := join_le (vals fs (bl name))
        have h2 := vals_wt fs (bl name)
        omega
      have hget : getF fs (bl name) = Lib.join outs [44, 32] := by rw [ho]; rfl
      have HO' := Lib.hid ho
      have HG := Lib.hid hget
      clear ho hget HO HR
      have hj := join_call A6 c6 outs w.heap.size wr hR hc6 hjl
      have HJ := Lib.hid hj
      have HN := Lib.hid (congrArg List.length HO'.out)
      clear hj hR
      generalize outs.length = m at hol hc6 HN HJ
      go_wp2_with fail
      refine HJ.out.mono ?_
      rintro e w1 ⟨rfl, hb1⟩
      have hB1 := Below.trans hB (hb1.mono hB.size)
      generalize hres : sb (Lib.join outs [44, 32]) = res
      have HRES := Lib.hid hres
      clear hres hb1
      go_wp2
      go_ret2
      exact ⟨by rw [HG.out, HRES.out, ← HN.out]; rfl, hB1⟩

/-! ### Tokens of a list -/
def names (fs : List Fd) (name : Bs) : List Bs × Bool := if (split (getF fs name)).2 && (split (getF fs name)).1.all isTok then ((split (getF fs name)).1.map lower, true) else ([], false)
theorem splitGo_len : ∀ (n : Nat) (l own : Bs) (q : Bool) (out : List Bs), l.length ≤ n → (splitGo l own q out).1.length ≤ out.length + l.length + 1
  | n, [], own, q, out, _ => by
    have : (adds own).length ≤ 1 := by unfold adds; split <;> simp
    cases q <;> simp [splitGo]; omega
  | n + 1, [c], own, q, out, h => by
    have h1 := splitGo_len n [] (own ++ [c]) (!q) out (by simp)
    have h2 := splitGo_len n [] [] q (out ++ adds own) (by simp)
    have h3 := splitGo_len n [] (own ++ [c]) q out (by simp)
    have : (adds own).length ≤ 1 := by unfold adds; split <;> simp
    simp only [List.length_append, List.length_nil] at h1 h2 h3
    rw [splitGo]
    simp only [List.length_cons, List.length_nil]
    split
    · omega
    · split
      · simp
      · split
        · omega
        · omega
  | n + 1, c :: d :: r, own, q, out, h => by
    simp only [List.length_cons] at h
    have h1 := splitGo_len n (d :: r) (own ++ [c]) (!q) out (by simp; omega)
    have h2 := splitGo_len n (d :: r) [] q (out ++ adds own) (by simp; omega)
    have h3 := splitGo_len n (d :: r) (own ++ [c]) q out (by simp; omega)
    have h4 := splitGo_len n r (own ++ [c, d]) q out (by omega)
    have : (adds own).length ≤ 1 := by unfold adds; split <;> simp
    simp only [List.length_append, List.length_cons] at h1 h2 h3 h4
    rw [splitGo]
    simp only [List.length_cons]
    split
    · omega
    · split
      · omega
      · split
        · omega
        · omega
theorem split_len (l : Bs) : (split l).1.length ≤ l.length + 1 := by have := splitGo_len l.length l [] false [] (Nat.le_refl _); simpa [split] using this
theorem getF_len (fs : List Fd) (name : Bs) : (getF fs name).length ≤ wt fs := Nat.le_trans (join_le _) (vals_wt fs name)
end Go.Proofs.YtkfiafclddnaoaaDoor.Tk
