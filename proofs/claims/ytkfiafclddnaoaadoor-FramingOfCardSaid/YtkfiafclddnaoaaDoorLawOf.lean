/- The law FramingOf: its walk. -/
import Derived.Test.YtkfiafclddnaoaaDoorRef6
import Derived.Test.YtkfiafclddnaoaaDoorLawSame
import Derived.Deep.RegionWith
import Derived.RegionTactic
import Derived.BigRegion
import Derived.Outline
import Derived.Deep.QuietTactic
import Derived.BigQuiet
set_option linter.unusedVariables false
set_option linter.unusedSimpArgs false
namespace Go.Proofs.YtkfiafclddnaoaaDoor.Tk
open Go.RowKit Go.Proofs.YtkfiafclddnaoaaDoorW.PrintWords Go.Proofs.YtkfiafclddnaoaaDoorW.PrintLast Go.Proofs.YtkfiafclddnaoaaDoor.Rw

/-- The sizes, one behind the other. -/
def tot (fs : List Fd) : Nat := (fs.map fun f => f.1.size + f.2.size).sum
theorem tot_snoc (fs : List Fd) (k : Nat) (f : Fd) (h : fs[k]? = some f) : tot (fs.take (k + 1)) = tot (fs.take k) + f.1.size + f.2.size := by
  obtain ⟨hl, rfl⟩ := List.getElem?_eq_some_iff.1 h
  rw [List.take_succ_eq_append_getElem hl]
  unfold tot
  rw [List.map_append, List.sum_append]
  simp; omega
theorem wt_tot (fs : List Fd) : wt fs = tot fs + 2 * fs.length := by
  unfold wt tot
  induction fs with
  | nil => rfl
  | cons f r ih => simp only [List.map_cons, List.sum_cons, List.length_cons]; omega
theorem below_drewN {B : Nat} {a b : World} (h : Below B a b) (n : Nat) : Below B a (b.drewN n) := ⟨h.os, h.tape, h.output, h.size, h.block⟩
def FewPost (fs : List Fd) (w : World) (e : Ending) (w' : World) : Prop := ∃ z, e = .returned (.bool z) ∧ (z = true → wt fs ≤ 12000) ∧ Below w.heap.size w w'
set_option maxRecDepth 100000 in
set_option maxHeartbeats 1000000 in
theorem few_walk (A : Option Addr) (n c : Nat) (fs : List Fd) (w : World) (hf : FieldsAt w A n fs) (hn : n ≤ 140737488351232) (hs : ∀ f ∈ fs, f.1.size ≤ 140737488351232 ∧ f.2.size ≤ 140737488351232) :
    Calls Tryd.prog 14 #[.slice A n c] w (FewPost fs w) := by
  have HF := Lib.hid hf
  have HL := Lib.hid hf.1
  have HS := Lib.hid hs
  clear hf hs
  go_enter Tryd.func14, Tryd.ntmps14
  go_wp2
  go_loopw [3, 4] (fun v3 v4 wr => ∃ k : Nat, Below w.heap.size w wr ∧ k ≤ n ∧ v4 = .int .i64 k ∧ v3 = .int .i64 ((n + tot (fs.take k) : Nat) : Int) ∧ n + tot (fs.take k) ≤ 1000000000000000) (fun _ v4 _ => n - (intOf v4).toNat)
  case atStart => exact ⟨0, Below.refl _ _, Nat.zero_le _, rfl, rfl, by show n + 0 ≤ _; omega⟩
  case round =>
    obtain ⟨k, hB, hk, rfl, rfl, htt⟩ := hrel
    generalize ht : n + tot (fs.take k) = t at htt
    have HT := Lib.hid ht
    clear ht
    by_cases hlt : k < n
    · by_cases h4 : t < 4000
      · have h4I : (t : Int) < 4000 := by omega
        obtain ⟨f, hfk⟩ : ∃ f, fs[k]? = some f := ⟨_, List.getElem?_eq_getElem (by rw [HL.out]; exact hlt)⟩
        obtain ⟨ad, hA, hc1, hc2⟩ := HF.out.2.2 k f hfk
        have hsz := HS.out f (List.mem_of_getElem? hfk)
        have hto := Lib.hid (tot_snoc fs k f hfk)
        obtain ⟨z1, z2⟩ := hsz
        replace hc1 := pw_cell_below hB hc1
        replace hc2 := pw_cell_below hB hc2
        have hkI : (k : Int) < n := by omega
        clear hfk
        subst hA
        go_wp2
        go_quiet (fail)
        go_wp2
        go_roundw
        case rel => exact ⟨k + 1, below_drewN hB _, by omega, by go_num, by rw [hto.out]; have := HT.out; go_num, by rw [hto.out]; have := HT.out; omega⟩
        case measure => simp [intOf]; omega
      · have h4I : ¬ (t : Int) < 4000 := by omega
        go_wp2
        go_ret
        exact ⟨false, rfl, fun h => absurd h (by simp), hB⟩
    · obtain rfl : k = n := by omega
      have e0 : fs.take k = fs := by rw [← HL.out, List.take_length]
      have hwt := wt_tot fs
      have htt2 := HT.out
      rw [e0] at htt2
      have hl2 := HL.out
      by_cases h4 : t < 4000
      · have h4I : (t : Int) < 4000 := by omega
        go_wp2
        go_ret
        exact ⟨true, rfl, fun _ => by omega, hB⟩
      · have h4I : ¬ (t : Int) < 4000 := by omega
        go_wp2
        go_ret
        exact ⟨false, rfl, fun h => absurd h (by simp), hB⟩
theorem lawnames_walk (w : World) : Calls Tryd.prog 18 #[] w fun e w' => e = .returned (.bool true) ∧ w = w' := by
  go_enter Tryd.func18, Tryd.ntmps18
  go_wp2
  go_ret
  exact ⟨rfl, rfl⟩

theorem one_law : framedF 1 [(cl, ⟨#[55]⟩)] 0 = (1, 7, 0) := by decide +kernel
set_option maxRecDepth 100000 in
set_option maxHeartbeats 4000000 in
theorem law_of (m t : ByteArray) (minor : Int) (A : Option Addr) (n c : Nat) (fs : List Fd) (minor2 code : Int) (rs : ByteArray) (A2 : Option Addr) (n2 c2 : Nat) (fs2 : List Fd) (method : ByteArray) (w : World)
    (hf : FieldsAt w A n fs) (hn : n ≤ 140737488351232) (hs : ∀ f ∈ fs, f.1.size ≤ 140737488351232 ∧ f.2.size ≤ 140737488351232)
    (hf2 : FieldsAt w A2 n2 fs2) (hn2 : n2 ≤ 140737488351232) (hs2 : ∀ f ∈ fs2, f.1.size ≤ 140737488351232 ∧ f.2.size ≤ 140737488351232) :
    Calls Tryd.prog 5 #[.agg #[.string m, .string t, .int .i64 minor, .slice A n c], .agg #[.int .i64 minor2, .int .i64 code, .string rs, .slice A2 n2 c2], .string method] w
      fun e w' => e = .returned (.bool true) ∧ Below w.heap.size w w' := by
  have HF := Lib.hid hf
  have HF2 := Lib.hid hf2
  have HS := Lib.hid hs
  have HS2 := Lib.hid hs2
  clear hf hf2 hs hs2
  go_enter Tryd.func5, Tryd.ntmps5
  go_wp2_with fail
  generalize hw0 : (w.alloc (.cells #[.string m, .string t, .int .i64 minor, .slice A n c] 34)).alloc (.cells #[.int .i64 minor2, .int .i64 code, .string rs, .slice A2 n2 c2] 37) = w0
  have hb0 : Below w.heap.size w w0 := by rw [← hw0]; exact ((Below.refl w.heap.size w).alloc (Nat.le_refl _) _).alloc (by simp) _
  have hs0 : w0.heap.size = w.heap.size + 2 := by rw [← hw0, World.size_alloc, World.size_alloc]
  have hbr : w0.heap[w.heap.size]? = some (.cells #[.string m, .string t, .int .i64 minor, .slice A n c] 34) := by rw [← hw0]; exact (Below.heap_alloc _ _ _ (by simp)).trans (heap_alloc_new w _)
  have hbp : w0.heap[w.heap.size + 1]? = some (.cells #[.int .i64 minor2, .int .i64 code, .string rs, .slice A2 n2 c2] 37) := by
    rw [← hw0]
    have := heap_alloc_new (w.alloc (.cells #[.string m, .string t, .int .i64 minor, .slice A n c] 34)) (.cells #[.int .i64 minor2, .int .i64 code, .string rs, .slice A2 n2 c2] 37)
    rw [World.size_alloc] at this
    exact this
  clear hw0
  have HF0 := Lib.hid (HF.out.below hb0)
  have HF20 := Lib.hid (HF2.out.below hb0)
  refine (few_walk A n c fs w0 HF0.out hn HS.out).mono ?_
  rintro e w1 ⟨z1, rfl, hz1, hb1⟩
  have hB1 : Below w.heap.size w w1 := Below.trans hb0 (hb1.mono hb0.size)
  have gbr1 := (hb1.block w.heap.size (by omega)).trans hbr
  have gbp1 := (hb1.block (w.heap.size + 1) (by omega)).trans hbp
  have hs1 : w.heap.size + 2 ≤ w1.heap.size := by have := hb1.size; omega
  clear hb1 hbr hbp hb0 hs0
  cases z1 with
  | false =>
    go_wp2
    go_ret
    exact ⟨rfl, hB1⟩
  | true =>
    have W1 := Lib.hid (hz1 rfl)
    clear hz1
    have c0 : w1.cell? ⟨w.heap.size + 1, 3, none⟩ = some (.slice A2 n2 c2) := by unfold World.cell?; rw [gbp1]; rfl
    go_wp2_with fail
    refine (few_walk A2 n2 c2 fs2 w1 (HF2.out.below hB1) hn2 HS2.out).mono ?_
    rintro e w2 ⟨z2, rfl, hz2, hb2⟩
    have hB2 : Below w.heap.size w w2 := Below.trans hB1 (hb2.mono hB1.size)
    have gbr2 := (hb2.block w.heap.size (by omega)).trans gbr1
    have gbp2 := (hb2.block (w.heap.size + 1) (by omega)).trans gbp1
    have hs2 : w.heap.size + 2 ≤ w2.heap.size := by have := hb2.size; omega
    clear hb2 gbr1 gbp1 hB1 c0 hs1
    cases z2 with
    | false =>
      go_wp2
      go_ret
      exact ⟨rfl, hB2⟩
    | true =>
      have W2 := Lib.hid (hz2 rfl)
      clear hz2
      have r0 : w2.cell? ⟨w.heap.size, 0, none⟩ = some (.string m) := by unfold World.cell?; rw [gbr2]; rfl
      have r1 : w2.cell? ⟨w.heap.size, 1, none⟩ = some (.string t) := by unfold World.cell?; rw [gbr2]; rfl
      have r2 : w2.cell? ⟨w.heap.size, 2, none⟩ = some (.int .i64 minor) := by unfold World.cell?; rw [gbr2]; rfl
      have r3 : w2.cell? ⟨w.heap.size, 3, none⟩ = some (.slice A n c) := by unfold World.cell?; rw [gbr2]; rfl
      go_wp2_with fail
      have W1b : wt fs ≤ 500000 := Nat.le_trans W1.out (by decide)
      have W2b : wt fs2 ≤ 500000 := Nat.le_trans W2.out (by decide)
      generalize hR1 : framedF minor fs 0 = R1
      have HR1 := Lib.hid hR1
      generalize hR2 : ofRespF minor2 code fs2 (bl method) = R2
      have HR2 := Lib.hid hR2
      clear hR1 hR2
      refine (ofRequest_walk m t minor A n c fs w2 (HF.out.below hB2) W1b).mono ?_
      rw [HR1.out]
      rintro e w3 ⟨rfl, hb3⟩
      have hB3 : Below w.heap.size w w3 := Below.trans hB2 (hb3.mono hB2.size)
      have gbr3 := (hb3.block w.heap.size (by omega)).trans gbr2
      have gbp3 := (hb3.block (w.heap.size + 1) (by omega)).trans gbp2
      have hs3 : w.heap.size + 2 ≤ w3.heap.size := by have := hb3.size; omega
      clear r0 r1 r2 r3
      clear hb3 gbr2 gbp2 hB2 hs2
      have r03 : w3.cell? ⟨w.heap.size, 0, none⟩ = some (.string m) := by unfold World.cell?; rw [gbr3]; rfl
      have r13 : w3.cell? ⟨w.heap.size, 1, none⟩ = some (.string t) := by unfold World.cell?; rw [gbr3]; rfl
      have r23 : w3.cell? ⟨w.heap.size, 2, none⟩ = some (.int .i64 minor) := by unfold World.cell?; rw [gbr3]; rfl
      have r33 : w3.cell? ⟨w.heap.size, 3, none⟩ = some (.slice A n c) := by unfold World.cell?; rw [gbr3]; rfl
      go_wp2_with fail
      refine (rofRequest_walk m t minor A n c fs w3 (HF.out.below hB3) W1b).mono ?_
      rw [HR1.out]
      rintro e w4 ⟨rfl, hb4⟩
      have hB4 : Below w.heap.size w w4 := Below.trans hB3 (hb4.mono hB3.size)
      have gbr4 := (hb4.block w.heap.size (by omega)).trans gbr3
      have gbp4 := (hb4.block (w.heap.size + 1) (by omega)).trans gbp3
      have hs4 : w.heap.size + 2 ≤ w4.heap.size := by have := hb4.size; omega
      clear r03 r13 r23 r33
      clear hb4 gbr3 gbp3 hB3 hs3
      have p04 : w4.cell? ⟨w.heap.size + 1, 0, none⟩ = some (.int .i64 minor2) := by unfold World.cell?; rw [gbp4]; rfl
      have p14 : w4.cell? ⟨w.heap.size + 1, 1, none⟩ = some (.int .i64 code) := by unfold World.cell?; rw [gbp4]; rfl
      have p24 : w4.cell? ⟨w.heap.size + 1, 2, none⟩ = some (.string rs) := by unfold World.cell?; rw [gbp4]; rfl
      have p34 : w4.cell? ⟨w.heap.size + 1, 3, none⟩ = some (.slice A2 n2 c2) := by unfold World.cell?; rw [gbp4]; rfl
      go_wp2_with fail
      refine (ofResponse_walk minor2 code rs A2 n2 c2 fs2 method w4 (HF2.out.below hB4) W2b).mono ?_
      rw [HR2.out]
      rintro e w5 ⟨rfl, hb5⟩
      have hB5 : Below w.heap.size w w5 := Below.trans hB4 (hb5.mono hB4.size)
      have gbr5 := (hb5.block w.heap.size (by omega)).trans gbr4
      have gbp5 := (hb5.block (w.heap.size + 1) (by omega)).trans gbp4
      have hs5 : w.heap.size + 2 ≤ w5.heap.size := by have := hb5.size; omega
      clear p04 p14 p24 p34
      clear hb5 gbr4 gbp4 hB4 hs4
      have p05 : w5.cell? ⟨w.heap.size + 1, 0, none⟩ = some (.int .i64 minor2) := by unfold World.cell?; rw [gbp5]; rfl
      have p15 : w5.cell? ⟨w.heap.size + 1, 1, none⟩ = some (.int .i64 code) := by unfold World.cell?; rw [gbp5]; rfl
      have p25 : w5.cell? ⟨w.heap.size + 1, 2, none⟩ = some (.string rs) := by unfold World.cell?; rw [gbp5]; rfl
      have p35 : w5.cell? ⟨w.heap.size + 1, 3, none⟩ = some (.slice A2 n2 c2) := by unfold World.cell?; rw [gbp5]; rfl
      go_wp2_with fail
      refine (rofResponse_walk minor2 code rs A2 n2 c2 fs2 method w5 (HF2.out.below hB5) W2b).mono ?_
      rw [HR2.out]
      rintro e w6 ⟨rfl, hb6⟩
      have hB6 : Below w.heap.size w w6 := Below.trans hB5 (hb6.mono hB5.size)
      have gbr6 := (hb6.block w.heap.size (by omega)).trans gbr5
      have gbp6 := (hb6.block (w.heap.size + 1) (by omega)).trans gbp5
      have hs6 : w.heap.size + 2 ≤ w6.heap.size := by have := hb6.size; omega
      clear p05 p15 p25 p35
      clear hb6 gbr5 gbp5 hB5 hs5
      go_wp2_with fail
      have hwt : wt [(cl, ⟨#[55]⟩)] ≤ 500000 := by decide
      refine (ofRequest_walk ⟨#[]⟩ ⟨#[]⟩ 1 (some ⟨w6.heap.size, 0, none⟩) 1 1 [(cl, ⟨#[55]⟩)] _ (fields_row rfl (fields_lit w6 [(cl, ⟨#[55]⟩)] 28 1 rfl (by omega))) hwt).mono ?_
      rw [one_law]
      rintro e w7 ⟨rfl, hb7⟩
      have hBa := hB6.alloc hB6.size (.cells #[.string ⟨#[99, 111, 110, 116, 101, 110, 116, 45, 108, 101, 110, 103, 116, 104]⟩, .string ⟨#[55]⟩] 28)
      have hB7 : Below w.heap.size w w7 := Below.trans hBa (hb7.mono hBa.size)
      clear hb7 gbr6 gbp6 hB6 hs6 hBa
      obtain ⟨ra, rb, rc⟩ := R1
      obtain ⟨rd, re, rf⟩ := R2
      go_wp2_with fail
      refine (lawnames_walk w7).mono ?_
      rintro e w8 ⟨rfl, rfl⟩
      go_wp2
      go_ret
      exact ⟨rfl, hB7⟩
end Go.Proofs.YtkfiafclddnaoaaDoor.Tk
