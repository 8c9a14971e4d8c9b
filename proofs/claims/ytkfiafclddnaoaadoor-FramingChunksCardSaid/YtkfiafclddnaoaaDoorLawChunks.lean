/- The law FramingChunks: its walk. -/
import Derived.Test.YtkfiafclddnaoaaDoorChunk
import Derived.Deep.RegionWith
import Derived.RegionTactic
import Derived.BigRegion
import Derived.Outline
set_option linter.unusedVariables false
set_option linter.unusedSimpArgs false
namespace Go.Proofs.YtkfiafclddnaoaaDoor.Fm
open Go.RowKit Go.Proofs.YtkfiafclddnaoaaDoorW.PrintWords Go.Proofs.YtkfiafclddnaoaaDoor.Rw

theorem last_text : strOfNums [48, 13, 10, 13, 10] = (⟨#[48, 13, 10, 13, 10]⟩ : ByteArray) := by rfl
set_option maxRecDepth 100000 in
set_option maxHeartbeats 1000000 in
theorem law_chunks (A : Option Addr) (n c : Nat) (b : List Int) (w : World) (hn5 : n ≤ 5000) (h : Tab w) (ht : 2 < w.heap.size) (hr : ReadsInt w .u8 A n b) :
    Calls Tryd.prog 3 #[.slice A n c] w fun e w' => e = .returned (.bool true) ∧ Below w.heap.size w w' := by
  have HR := Lib.hid hr
  have HT := Lib.hid h
  clear hr h
  go_enter Tryd.func3, Tryd.ntmps3
  go_wp2_with fail
  go_region_with (first
    | (go_at_call 9; refine (chunk_any A n c b w.drew hn5 HT.out HR.out).mono ?_; rintro e w1 ⟨v1, rfl, ho1, hb1⟩; have hB1 : Below w.heap.size w w1 := below_undrew hb1; have cv1 := row_string (P := Tryd.prog) Tryd.underlying22 Tryd.underlying5 Tryd.underlying9 ho1; have HO1 := Lib.hid ho1; clear ho1 hb1)
    | (go_at_call 10; refine (refchunk_any A n c b w1 hn5 (HR.out.below hB1)).mono ?_; rintro e w2 ⟨v2, rfl, ho2, hb2⟩; have cv1' := row_string (P := Tryd.prog) Tryd.underlying22 Tryd.underlying5 Tryd.underlying9 (HO1.out.touch (Tch.of_below hb2 (fun _ => False)) (fun _ _ _ h => h)); have cv2 := row_string (P := Tryd.prog) Tryd.underlying22 Tryd.underlying5 Tryd.underlying9 ho2; have hB2 : Below w.heap.size w w2 := Below.trans hB1 (hb2.mono hB1.size); clear ho2 hb2)
    | (go_at_call 11; refine (last_walk _).mono ?_; rintro e w3 ⟨v3, rfl, ho3, hb3⟩; have cv3 := row_string (P := Tryd.prog) Tryd.underlying22 Tryd.underlying5 Tryd.underlying9 ho3; rw [last_text] at cv3; have hB3 : Below w.heap.size w w3 := Below.trans hB2 (hb3.mono hB2.size); clear ho3 hb3))
  all_goals go_wp2
  all_goals go_ret
  all_goals exact ⟨rfl, hB3⟩
set_option maxRecDepth 100000 in
set_option maxHeartbeats 1000000 in
theorem law_chunks_cut (A : Option Addr) (n c : Nat) (b : List Int) (w : World) (hn : 5000 < n) (hnc : n ≤ c) (h : Tab w) (ht : 2 < w.heap.size) (hr : ReadsInt w .u8 A n b) :
    Calls Tryd.prog 3 #[.slice A n c] w fun e w' => e = .returned (.bool true) ∧ Below w.heap.size w w' := by
  have HR := Lib.hid (hr.take_ 5000 (by omega))
  have HT := Lib.hid h
  have hc5 : (5000 : Int) ≤ c := by omega
  have hc5n : 5000 ≤ c := by omega
  clear hr h
  go_enter Tryd.func3, Tryd.ntmps3
  go_wp2_with fail
  go_region_with (first
    | (go_at_call 9; refine (chunk_any A 5000 c (b.take 5000) w.drew (Nat.le_refl _) HT.out HR.out).mono ?_; rintro e w1 ⟨v1, rfl, ho1, hb1⟩; have hB1 : Below w.heap.size w w1 := below_undrew hb1; have cv1 := row_string (P := Tryd.prog) Tryd.underlying22 Tryd.underlying5 Tryd.underlying9 ho1; have HO1 := Lib.hid ho1; clear ho1 hb1)
    | (go_at_call 10; refine (refchunk_any A 5000 c (b.take 5000) w1 (Nat.le_refl _) (HR.out.below hB1)).mono ?_; rintro e w2 ⟨v2, rfl, ho2, hb2⟩; have cv1' := row_string (P := Tryd.prog) Tryd.underlying22 Tryd.underlying5 Tryd.underlying9 (HO1.out.touch (Tch.of_below hb2 (fun _ => False)) (fun _ _ _ h => h)); have cv2 := row_string (P := Tryd.prog) Tryd.underlying22 Tryd.underlying5 Tryd.underlying9 ho2; have hB2 : Below w.heap.size w w2 := Below.trans hB1 (hb2.mono hB1.size); clear ho2 hb2)
    | (go_at_call 11; refine (last_walk _).mono ?_; rintro e w3 ⟨v3, rfl, ho3, hb3⟩; have cv3 := row_string (P := Tryd.prog) Tryd.underlying22 Tryd.underlying5 Tryd.underlying9 ho3; rw [last_text] at cv3; have hB3 : Below w.heap.size w w3 := Below.trans hB2 (hb3.mono hB2.size); clear ho3 hb3))
  all_goals go_wp2
  all_goals go_ret
  all_goals exact ⟨rfl, hB3⟩
end Go.Proofs.YtkfiafclddnaoaaDoor.Fm
