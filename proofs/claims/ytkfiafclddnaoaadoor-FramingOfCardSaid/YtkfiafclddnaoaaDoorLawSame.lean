/- The law FramingSame: its walk. -/
import Derived.Test.YtkfiafclddnaoaaDoorSameP
import Derived.Deep.RegionWith
import Derived.RegionTactic
import Derived.BigRegion
import Derived.Outline
set_option linter.unusedVariables false
set_option linter.unusedSimpArgs false
namespace Go.Proofs.YtkfiafclddnaoaaDoor.Tk
open Go.RowKit Go.Proofs.YtkfiafclddnaoaaDoorW.PrintWords Go.Proofs.YtkfiafclddnaoaaDoorW.PrintLast Go.Proofs.YtkfiafclddnaoaaDoor.Rw

theorem and_mask (n : Int) : ∃ k : Nat, k ≤ 2097151 ∧ bits BinOp.and IntKind.i64 n 2097151 = k := by
  have h : (BitVec.ofInt IntKind.i64.bits n &&& BitVec.ofInt IntKind.i64.bits 2097151).toNat ≤ 2097151 := by
    rw [BitVec.toNat_and]
    exact Nat.le_trans Nat.and_le_right (by decide)
  refine ⟨_, h, ?_⟩
  show IntKind.i64.wrap ((BitVec.ofInt IntKind.i64.bits n &&& BitVec.ofInt IntKind.i64.bits 2097151).toNat : Int) = _
  rw [IntKind.wrap_i64]
  omega
/-- What a list of fields is in memory. -/
def fv (fs : List Fd) : List Value := fs.flatMap fun f => [.string f.1, .string f.2]
theorem fv_len (fs : List Fd) : (fv fs).length = fs.length * 2 := by
  induction fs with
  | nil => rfl
  | cons f r ih => unfold fv at ih ⊢; rw [List.flatMap_cons, List.length_append, ih]; simp; omega
theorem fv_get {fs : List Fd} {j : Nat} {f : Fd} (h : fs[j]? = some f) : (fv fs)[j * 2]? = some (.string f.1) ∧ (fv fs)[j * 2 + 1]? = some (.string f.2) := by
  induction fs generalizing j with
  | nil => simp at h
  | cons g r ih =>
    have e : fv (g :: r) = .string g.1 :: .string g.2 :: fv r := rfl
    rw [e]
    cases j with
    | zero => simp at h; subst h; simp
    | succ j =>
      have := ih (j := j) (by simpa using h)
      rw [show (j + 1) * 2 = j * 2 + 1 + 1 by omega]
      simpa using this
theorem fields_row {W : World} {F : Nat → Prop} {A : Option Addr} {n c : Nat} {fs : List Fd} (hn : fs.length = n) (h : Row W F 2 (.slice A n c) n (fv fs)) : FieldsAt W A n fs := by
  refine ⟨hn, h.2.1, fun j f hj => ?_⟩
  obtain ⟨h1, h2⟩ := fv_get hj
  obtain ⟨g, o, rfl, _, _, h3, _⟩ := h.at_ _ _ h1
  obtain ⟨g', o', he, _, _, h4, _⟩ := h.at_ _ _ h2
  injection he with he
  injection he with hg ho
  subst hg ho
  have ea : (⟨g, o, none⟩ : Addr).add (j * 2) = ⟨g, o + j * 2, none⟩ := Go.WideShapes.add_plain _ _ _
  exact ⟨_, rfl, by rw [ea]; exact h3, by rw [ea]; exact h4⟩
theorem fields_lit (w : World) (fs : List Fd) (t n : Nat) (hn : fs.length = n) (hm : n ≤ 1000000) : Row (w.alloc (.cells (fv fs).toArray t)) (fun k => w.heap.size ≤ k) 2 (.slice (some ⟨w.heap.size, 0, none⟩) n n) n (fv fs) := by
  have hl := fv_len fs
  have := Row.of_block (heap_alloc_new w (.cells (fv fs).toArray t)) (F := fun k => w.heap.size ≤ k) (Nat.le_refl _) n n 2 (Nat.le_refl _) (by simp [maxLen]; omega) (by simp; omega) (.inl rfl)
  simp only [List.take_of_length_le (show (fv fs).length ≤ n * 2 by omega)] at this
  exact this
theorem name_sizes : CL.size = 14 ∧ cl.size = 14 ∧ TE.size = 17 ∧ CH.size = 7 := ⟨rfl, rfl, rfl, rfl⟩
theorem fields_src (w : World) (f : Fd) (t : Nat) : (fv [f]).length = 1 * 2 ∧ ((some ⟨w.heap.size, 0, none⟩ : Option Addr) = none → 1 = 0) ∧
      (∀ ad, (some ⟨w.heap.size, 0, none⟩ : Option Addr) = some ad → ∀ j u, (fv [f])[j]? = some u → (w.alloc (.cells (fv [f]).toArray t)).cell? (ad.add j) = some u) ∧ ∀ u ∈ fv [f], u.oneCell' = true := by
  refine ⟨rfl, (fun h => absurd h (by simp)), (fun ad e j u hj => ?_), ?_⟩
  · injection e with e
    subst e
    have hg := heap_alloc_new w (.cells (fv [f]).toArray t)
    have ha : (⟨w.heap.size, 0, none⟩ : Addr).add j = ⟨w.heap.size, j, none⟩ := add_plain _ _
    rw [ha]
    unfold World.cell?
    simp only [hg]
    simpa using hj
  · intro u hu
    simp [fv] at hu
    rcases hu with rfl | rfl <;> rfl
set_option maxRecDepth 100000 in
set_option maxHeartbeats 4000000 in
theorem law_same (n m way : Int) (w : World) :
    Calls Tryd.prog 4 #[.int .i64 n, .int .i64 m, .int .i64 way] w fun e w' => e = .returned (.bool true) ∧ Below w.heap.size w w' := by
  obtain ⟨kn, hkn, en⟩ := and_mask n
  obtain ⟨km, hkm, em⟩ := and_mask m
  go_enter Tryd.func4, Tryd.ntmps4
  go_wp2_with fail
  refine (lawnumber_walk kn hkn w).mono ?_
  rintro e w1 ⟨⟨a, rfl, ha⟩, rfl⟩
  have HA := Lib.hid ha
  have hal : a.size ≤ kn / 10 + 1 := by have := ha.len; rw [bl_length] at this; exact this
  clear ha
  go_wp2_with fail
  refine (lawnumber_walk km hkm w).mono ?_
  rintro e w1 ⟨⟨b, rfl, hb⟩, rfl⟩
  have HB := Lib.hid hb
  have hbl : b.size ≤ km / 10 + 1 := by have := hb.len; rw [bl_length] at this; exact this
  clear hb
  by_cases hz1 : bits BinOp.and IntKind.i64 way 1 = 1
  · go_wp2_with fail
    refine (lawnumber_walk kn hkn _).mono ?_
    rintro e w1 ⟨⟨a2, rfl, ha⟩, rfl⟩
    have HA2 := Lib.hid ha
    have hal2 : a2.size ≤ kn / 10 + 1 := by have := ha.len; rw [bl_length] at this; exact this
    clear ha
    go_wp2_with fail
    refine (lawnumber_walk km hkm _).mono ?_
    rintro e w1 ⟨⟨b2, rfl, hb⟩, rfl⟩
    have HB2 := Lib.hid hb
    have hbl2 : b2.size ≤ km / 10 + 1 := by have := hb.len; rw [bl_length] at this; exact this
    clear hb
    have hsz : (a2 ++ (⟨#[44, 32, 48]⟩ : ByteArray) ++ b2).size = a2.size + 3 + b2.size := by rw [ByteArray.size_append, ByteArray.size_append]; rfl
    have hbls : bl (a2 ++ (⟨#[44, 32, 48]⟩ : ByteArray) ++ b2) = bl a2 ++ [44, 32, 48] ++ bl b2 := by rw [bl_app, bl_app]; rfl
    go_wp2_with fail
    generalize a2 ++ (⟨#[44, 32, 48]⟩ : ByteArray) ++ b2 = s at hsz hbls ⊢
    generalize hw0 : w.alloc (.cells #[_, .string a, _, .string b] 28) = w0
    have hs0 : w0.heap.size = w.heap.size + 1 := by rw [← hw0, World.size_alloc]
    have HB0 := Lib.hid (show Below w.heap.size w (w0.alloc (.cells #[.string CL, .string s] 28)) by rw [← hw0]; exact ((Below.refl w.heap.size w).alloc (Nat.le_refl _) _).alloc (by simp) _)
    have hl := same_one s (bl a2) (bl b2) kn km hbls HA2.out HB2.out (by unfold most; omega) (by unfold most; omega)
    have hr := fields_lit w0 [(CL, s)] 28 1 rfl (by omega)
    rw [hs0] at hr
    have HR := Lib.hid hr
    have hwt : wt [(CL, s)] ≤ 500000 := by obtain ⟨s1, s2, s3, s4⟩ := name_sizes; simp only [wt, List.map_cons, List.map_nil, List.sum_cons, List.sum_nil]; omega
    have hwt3 : wt ([(CL, s)] ++ [(TE, CH)]) ≤ 500000 := by obtain ⟨s1, s2, s3, s4⟩ := name_sizes; simp only [wt, List.cons_append, List.nil_append, List.map_cons, List.map_nil, List.sum_cons, List.sum_nil]; omega
    clear hr hw0 hbls
    by_cases hnm : kn = km
    · by_cases hbig : 1048576 < kn
      · rw [if_pos hnm, if_pos hbig] at hl
        have HL := Lib.hid hl
        clear hl
        have hnmI : (kn : Int) = km := by omega
        have hbigI : (1048576 : Int) < kn := by omega
        refine (ofRequest_walk ⟨#[]⟩ ⟨#[]⟩ 1 (some ⟨w.heap.size + 1, 0, none⟩) 1 1 [(CL, s)] _ (fields_row rfl HR.out) hwt).mono ?_
        rw [HL.out]
        rintro e w1 ⟨rfl, hb1⟩
        have hB1 : Below w.heap.size w w1 := Below.trans HB0.out (hb1.mono HB0.out.size)
        have HR1 := Lib.hid (HR.out.touch (Tch.of_below hb1 (fun _ => False)) (fun _ _ _ h => h))
        clear hb1
        go_wp2_with (first | fail | (at_builtin; refine wp_append rfl (.tmp 44) (.tmp 46) 29 28 (.agg #[.string ⟨#[]⟩, .string ⟨#[]⟩]) 32 rfl Tryd.underlying29 (by kernel_rfl) rfl (some ⟨w1.heap.size, 0, none⟩) 1 1 (fv [(TE, CH)]) rfl rfl (HR1.out.alloc _) (fields_src w1 (TE, CH) 28).1 (fields_src w1 (TE, CH) 28).2.1 (fields_src w1 (TE, CH) 28).2.2.1 (fields_src w1 (TE, CH) 28).2.2.2 (by simp [maxLen]) (by omega) ?y4))
        case y4 =>
          intro v2 w2 hr2 ht2
          obtain ⟨A2, c2, rfl, _⟩ := hr2.slice
          have hB2 := Tch.below_then (hB1.alloc (by have := hB1.size; omega) _) ht2 (Nat.le_refl _) (fun _ h => by omega)
          have HR2 := Lib.hid hr2
          clear hr2 ht2
          go_wp2_with fail
          refine (ofRequest_walk ⟨#[]⟩ ⟨#[]⟩ 1 A2 2 c2 ([(CL, s)] ++ [(TE, CH)]) w2 (fields_row rfl HR2.out) hwt3).mono ?_
          rw [show framedF 1 ([(CL, s)] ++ [(TE, CH)]) 0 = (0, 0, 32) from same_one' s]
          rintro e w3 ⟨rfl, hb3⟩
          have hB3 := Below.trans hB2 (hb3.mono hB2.size)
          clear hb3
          go_wp2
          go_ret
          exact ⟨rfl, hB3⟩
      · rw [if_pos hnm, if_neg hbig] at hl
        have HL := Lib.hid hl
        clear hl
        have hnmI : (kn : Int) = km := by omega
        have hbigI : ¬ (1048576 : Int) < kn := by omega
        refine (ofRequest_walk ⟨#[]⟩ ⟨#[]⟩ 1 (some ⟨w.heap.size + 1, 0, none⟩) 1 1 [(CL, s)] _ (fields_row rfl HR.out) hwt).mono ?_
        rw [HL.out]
        rintro e w1 ⟨rfl, hb1⟩
        have hB1 : Below w.heap.size w w1 := Below.trans HB0.out (hb1.mono HB0.out.size)
        have HR1 := Lib.hid (HR.out.touch (Tch.of_below hb1 (fun _ => False)) (fun _ _ _ h => h))
        clear hb1
        go_wp2_with (first | fail | (at_builtin; refine wp_append rfl (.tmp 44) (.tmp 46) 29 28 (.agg #[.string ⟨#[]⟩, .string ⟨#[]⟩]) 32 rfl Tryd.underlying29 (by kernel_rfl) rfl (some ⟨w1.heap.size, 0, none⟩) 1 1 (fv [(TE, CH)]) rfl rfl (HR1.out.alloc _) (fields_src w1 (TE, CH) 28).1 (fields_src w1 (TE, CH) 28).2.1 (fields_src w1 (TE, CH) 28).2.2.1 (fields_src w1 (TE, CH) 28).2.2.2 (by simp [maxLen]) (by omega) ?y4))
        case y4 =>
          intro v2 w2 hr2 ht2
          obtain ⟨A2, c2, rfl, _⟩ := hr2.slice
          have hB2 := Tch.below_then (hB1.alloc (by have := hB1.size; omega) _) ht2 (Nat.le_refl _) (fun _ h => by omega)
          have HR2 := Lib.hid hr2
          clear hr2 ht2
          go_wp2_with fail
          refine (ofRequest_walk ⟨#[]⟩ ⟨#[]⟩ 1 A2 2 c2 ([(CL, s)] ++ [(TE, CH)]) w2 (fields_row rfl HR2.out) hwt3).mono ?_
          rw [show framedF 1 ([(CL, s)] ++ [(TE, CH)]) 0 = (0, 0, 32) from same_one' s]
          rintro e w3 ⟨rfl, hb3⟩
          have hB3 := Below.trans hB2 (hb3.mono hB2.size)
          clear hb3
          go_wp2
          go_ret
          exact ⟨rfl, hB3⟩
    · rw [if_neg hnm] at hl
      have HL := Lib.hid hl
      clear hl
      have hnmI : ¬ (kn : Int) = km := by omega
      refine (ofRequest_walk ⟨#[]⟩ ⟨#[]⟩ 1 (some ⟨w.heap.size + 1, 0, none⟩) 1 1 [(CL, s)] _ (fields_row rfl HR.out) hwt).mono ?_
      rw [HL.out]
      rintro e w1 ⟨rfl, hb1⟩
      have hB1 : Below w.heap.size w w1 := Below.trans HB0.out (hb1.mono HB0.out.size)
      have HR1 := Lib.hid (HR.out.touch (Tch.of_below hb1 (fun _ => False)) (fun _ _ _ h => h))
      clear hb1
      go_wp2_with (first | fail | (at_builtin; refine wp_append rfl (.tmp 44) (.tmp 46) 29 28 (.agg #[.string ⟨#[]⟩, .string ⟨#[]⟩]) 32 rfl Tryd.underlying29 (by kernel_rfl) rfl (some ⟨w1.heap.size, 0, none⟩) 1 1 (fv [(TE, CH)]) rfl rfl (HR1.out.alloc _) (fields_src w1 (TE, CH) 28).1 (fields_src w1 (TE, CH) 28).2.1 (fields_src w1 (TE, CH) 28).2.2.1 (fields_src w1 (TE, CH) 28).2.2.2 (by simp [maxLen]) (by omega) ?y4))
      case y4 =>
        intro v2 w2 hr2 ht2
        obtain ⟨A2, c2, rfl, _⟩ := hr2.slice
        have hB2 := Tch.below_then (hB1.alloc (by have := hB1.size; omega) _) ht2 (Nat.le_refl _) (fun _ h => by omega)
        have HR2 := Lib.hid hr2
        clear hr2 ht2
        go_wp2_with fail
        refine (ofRequest_walk ⟨#[]⟩ ⟨#[]⟩ 1 A2 2 c2 ([(CL, s)] ++ [(TE, CH)]) w2 (fields_row rfl HR2.out) hwt3).mono ?_
        rw [show framedF 1 ([(CL, s)] ++ [(TE, CH)]) 0 = (0, 0, 32) from same_one' s]
        rintro e w3 ⟨rfl, hb3⟩
        have hB3 := Below.trans hB2 (hb3.mono hB2.size)
        clear hb3
        go_wp2
        go_ret
        exact ⟨rfl, hB3⟩
  · have hz0 : (bits BinOp.and IntKind.i64 way 1 == 1) = false := by simpa using hz1
    have hl := same_two a b kn km HA.out HB.out (by unfold most; omega) (by unfold most; omega)
    by_cases hnm : kn = km
    · by_cases hbig : 1048576 < kn
      · rw [if_pos hnm, if_pos hbig] at hl
        have HL := Lib.hid hl
        clear hl
        have hnmI : (kn : Int) = km := by omega
        have hbigI : (1048576 : Int) < kn := by omega
        have HR := Lib.hid (fields_lit w [(CL, a), (cl, b)] 28 2 rfl (by omega))
        have hwt : wt [(CL, a), (cl, b)] ≤ 500000 := by obtain ⟨s1, s2, s3, s4⟩ := name_sizes; simp only [wt, List.map_cons, List.map_nil, List.sum_cons, List.sum_nil]; omega
        have hwt3 : wt ([(CL, a), (cl, b)] ++ [(TE, CH)]) ≤ 500000 := by obtain ⟨s1, s2, s3, s4⟩ := name_sizes; simp only [wt, List.cons_append, List.nil_append, List.map_cons, List.map_nil, List.sum_cons, List.sum_nil]; omega
        go_wp2_with fail
        refine (ofRequest_walk ⟨#[]⟩ ⟨#[]⟩ 1 (some ⟨(w).heap.size, 0, none⟩) 2 2 [(CL, a), (cl, b)] _ (fields_row rfl HR.out) hwt).mono ?_
        rw [HL.out]
        rintro e w1 ⟨rfl, hb1⟩
        have hB1 : Below w.heap.size w w1 := Below.trans ((Below.refl w.heap.size w).alloc (Nat.le_refl _) _) (hb1.mono (by simp))
        have HR1 := Lib.hid (HR.out.touch (Tch.of_below hb1 (fun _ => False)) (fun _ _ _ h => h))
        clear hb1
        go_wp2_with (first | fail | (at_builtin; refine wp_append rfl (.tmp 44) (.tmp 46) 29 28 (.agg #[.string ⟨#[]⟩, .string ⟨#[]⟩]) 32 rfl Tryd.underlying29 (by kernel_rfl) rfl (some ⟨w1.heap.size, 0, none⟩) 1 1 (fv [(TE, CH)]) rfl rfl (HR1.out.alloc _) (fields_src w1 (TE, CH) 28).1 (fields_src w1 (TE, CH) 28).2.1 (fields_src w1 (TE, CH) 28).2.2.1 (fields_src w1 (TE, CH) 28).2.2.2 (by simp [maxLen]) (by omega) ?y4))
        case y4 =>
          intro v2 w2 hr2 ht2
          obtain ⟨A2, c2, rfl, _⟩ := hr2.slice
          have hB2 := Tch.below_then (hB1.alloc (by have := hB1.size; omega) _) ht2 (Nat.le_refl _) (fun _ h => h)
          have HR2 := Lib.hid hr2
          clear hr2 ht2
          go_wp2_with fail
          refine (ofRequest_walk ⟨#[]⟩ ⟨#[]⟩ 1 A2 3 c2 ([(CL, a), (cl, b)] ++ [(TE, CH)]) w2 (fields_row rfl HR2.out) hwt3).mono ?_
          rw [show framedF 1 ([(CL, a), (cl, b)] ++ [(TE, CH)]) 0 = (0, 0, 32) from same_two' a b]
          rintro e w3 ⟨rfl, hb3⟩
          have hB3 := Below.trans hB2 (hb3.mono hB2.size)
          clear hb3
          go_wp2
          go_ret
          exact ⟨rfl, hB3⟩
      · rw [if_pos hnm, if_neg hbig] at hl
        have HL := Lib.hid hl
        clear hl
        have hnmI : (kn : Int) = km := by omega
        have hbigI : ¬ (1048576 : Int) < kn := by omega
        have HR := Lib.hid (fields_lit w [(CL, a), (cl, b)] 28 2 rfl (by omega))
        have hwt : wt [(CL, a), (cl, b)] ≤ 500000 := by obtain ⟨s1, s2, s3, s4⟩ := name_sizes; simp only [wt, List.map_cons, List.map_nil, List.sum_cons, List.sum_nil]; omega
        have hwt3 : wt ([(CL, a), (cl, b)] ++ [(TE, CH)]) ≤ 500000 := by obtain ⟨s1, s2, s3, s4⟩ := name_sizes; simp only [wt, List.cons_append, List.nil_append, List.map_cons, List.map_nil, List.sum_cons, List.sum_nil]; omega
        go_wp2_with fail
        refine (ofRequest_walk ⟨#[]⟩ ⟨#[]⟩ 1 (some ⟨(w).heap.size, 0, none⟩) 2 2 [(CL, a), (cl, b)] _ (fields_row rfl HR.out) hwt).mono ?_
        rw [HL.out]
        rintro e w1 ⟨rfl, hb1⟩
        have hB1 : Below w.heap.size w w1 := Below.trans ((Below.refl w.heap.size w).alloc (Nat.le_refl _) _) (hb1.mono (by simp))
        have HR1 := Lib.hid (HR.out.touch (Tch.of_below hb1 (fun _ => False)) (fun _ _ _ h => h))
        clear hb1
        go_wp2_with (first | fail | (at_builtin; refine wp_append rfl (.tmp 44) (.tmp 46) 29 28 (.agg #[.string ⟨#[]⟩, .string ⟨#[]⟩]) 32 rfl Tryd.underlying29 (by kernel_rfl) rfl (some ⟨w1.heap.size, 0, none⟩) 1 1 (fv [(TE, CH)]) rfl rfl (HR1.out.alloc _) (fields_src w1 (TE, CH) 28).1 (fields_src w1 (TE, CH) 28).2.1 (fields_src w1 (TE, CH) 28).2.2.1 (fields_src w1 (TE, CH) 28).2.2.2 (by simp [maxLen]) (by omega) ?y4))
        case y4 =>
          intro v2 w2 hr2 ht2
          obtain ⟨A2, c2, rfl, _⟩ := hr2.slice
          have hB2 := Tch.below_then (hB1.alloc (by have := hB1.size; omega) _) ht2 (Nat.le_refl _) (fun _ h => h)
          have HR2 := Lib.hid hr2
          clear hr2 ht2
          go_wp2_with fail
          refine (ofRequest_walk ⟨#[]⟩ ⟨#[]⟩ 1 A2 3 c2 ([(CL, a), (cl, b)] ++ [(TE, CH)]) w2 (fields_row rfl HR2.out) hwt3).mono ?_
          rw [show framedF 1 ([(CL, a), (cl, b)] ++ [(TE, CH)]) 0 = (0, 0, 32) from same_two' a b]
          rintro e w3 ⟨rfl, hb3⟩
          have hB3 := Below.trans hB2 (hb3.mono hB2.size)
          clear hb3
          go_wp2
          go_ret
          exact ⟨rfl, hB3⟩
    · rw [if_neg hnm] at hl
      have HL := Lib.hid hl
      clear hl
      have hnmI : ¬ (kn : Int) = km := by omega
      have HR := Lib.hid (fields_lit w [(CL, a), (cl, b)] 28 2 rfl (by omega))
      have hwt : wt [(CL, a), (cl, b)] ≤ 500000 := by obtain ⟨s1, s2, s3, s4⟩ := name_sizes; simp only [wt, List.map_cons, List.map_nil, List.sum_cons, List.sum_nil]; omega
      have hwt3 : wt ([(CL, a), (cl, b)] ++ [(TE, CH)]) ≤ 500000 := by obtain ⟨s1, s2, s3, s4⟩ := name_sizes; simp only [wt, List.cons_append, List.nil_append, List.map_cons, List.map_nil, List.sum_cons, List.sum_nil]; omega
      go_wp2_with fail
      refine (ofRequest_walk ⟨#[]⟩ ⟨#[]⟩ 1 (some ⟨(w).heap.size, 0, none⟩) 2 2 [(CL, a), (cl, b)] _ (fields_row rfl HR.out) hwt).mono ?_
      rw [HL.out]
      rintro e w1 ⟨rfl, hb1⟩
      have hB1 : Below w.heap.size w w1 := Below.trans ((Below.refl w.heap.size w).alloc (Nat.le_refl _) _) (hb1.mono (by simp))
      have HR1 := Lib.hid (HR.out.touch (Tch.of_below hb1 (fun _ => False)) (fun _ _ _ h => h))
      clear hb1
      go_wp2_with (first | fail | (at_builtin; refine wp_append rfl (.tmp 44) (.tmp 46) 29 28 (.agg #[.string ⟨#[]⟩, .string ⟨#[]⟩]) 32 rfl Tryd.underlying29 (by kernel_rfl) rfl (some ⟨w1.heap.size, 0, none⟩) 1 1 (fv [(TE, CH)]) rfl rfl (HR1.out.alloc _) (fields_src w1 (TE, CH) 28).1 (fields_src w1 (TE, CH) 28).2.1 (fields_src w1 (TE, CH) 28).2.2.1 (fields_src w1 (TE, CH) 28).2.2.2 (by simp [maxLen]) (by omega) ?y4))
      case y4 =>
        intro v2 w2 hr2 ht2
        obtain ⟨A2, c2, rfl, _⟩ := hr2.slice
        have hB2 := Tch.below_then (hB1.alloc (by have := hB1.size; omega) _) ht2 (Nat.le_refl _) (fun _ h => h)
        have HR2 := Lib.hid hr2
        clear hr2 ht2
        go_wp2_with fail
        refine (ofRequest_walk ⟨#[]⟩ ⟨#[]⟩ 1 A2 3 c2 ([(CL, a), (cl, b)] ++ [(TE, CH)]) w2 (fields_row rfl HR2.out) hwt3).mono ?_
        rw [show framedF 1 ([(CL, a), (cl, b)] ++ [(TE, CH)]) 0 = (0, 0, 32) from same_two' a b]
        rintro e w3 ⟨rfl, hb3⟩
        have hB3 := Below.trans hB2 (hb3.mono hB2.size)
        clear hb3
        go_wp2
        go_ret
        exact ⟨rfl, hB3⟩
end Go.Proofs.YtkfiafclddnaoaaDoor.Tk
