/- Walks: the text of a length in base sixteen, as strconv lays it behind a nil slice. -/
import Derived.Test.YtkfiafclddnaoaaDoorProg
import Derived.WalkKit
import Derived.KernelRfl
import Derived.Lib.Hide
import Derived.Outline
import Derived.Laws.OwnMore
import Derived.WalkLawsBesides
import Derived.WalkSpells
import Derived.Laws.Rows
import Derived.Test.YtkfiafclddnaoaaDoorHexl
import Derived.Test.YtkfiafclddnaoaaDoorWWords
import Derived.Deep.LoopGhost
import Derived.Laws.Bits64b
set_option linter.unusedVariables false
set_option linter.unusedSimpArgs false
namespace Go.Proofs.YtkfiafclddnaoaaDoor.Fm
open Go.RowKit Go.Proofs.YtkfiafclddnaoaaDoorW.PrintWords

theorem info5 : (Tryd.prog.info? 5).map (fun i => (i.zero, i.size, i.bytes)) = some (some (.int .u8 0), 1, 1) := by kernel_rfl
/-- The end of a row of the call's own, from place j on, is read. -/
theorem tail_reads {W : World} {base b n e j : Nat} {xs ys : List Int} (h : W.ownsRow base e 1 (.slice (some ⟨b, 0, none⟩) n n) n (nums .u8 xs)) (hj : j < n) (hy : xs.drop j = ys) :
    ReadsInt W .u8 (some ⟨b, j, none⟩) (n - j) ys := by
  obtain ⟨A, c, he, hr⟩ := own_reads h
  injection he with h1 h2 h3
  subst h1 h3
  have := hr.drop_ j (by omega) (Nat.le_refl _)
  rw [if_neg (by omega), hy] at this
  simpa [add_plain] using this
theorem pow16 (w : World) : Calls Tryd.prog 77 #[.int .i64 16] w fun e w' => e = .returned (.bool true) ∧ w = w' := by
  go_enter Tryd.func77, Tryd.ntmps77
  go_wp2
  go_ret
  exact ⟨rfl, rfl⟩

theorem tz64 (w : World) (h : w.cell? ⟨2, 15, none⟩ = some (.int .u8 4)) :
    Calls Tryd.prog 96 #[.int .u64 16] w fun e w' => e = .returned (.int .i64 4) ∧ w = w' := by
  have e : IntKind.u64.wrap (bits BinOp.and IntKind.u64 16 (IntKind.u64.wrap (-16)) * 285870213051353865) / 288230376151711744 = 15 := by kernel_rfl
  go_enter Tryd.func96, Tryd.ntmps96
  go_wp2
  go_ret
  exact ⟨rfl, rfl⟩

theorem tz (w : World) (h : w.cell? ⟨2, 15, none⟩ = some (.int .u8 4)) :
    Calls Tryd.prog 78 #[.int .u64 16] w fun e w' => e = .returned (.int .i64 4) ∧ w = w' := by
  go_enter Tryd.func78, Tryd.ntmps78
  go_wp2_with (go_at_call 96; refine (tz64 _ h).mono ?_; rintro e w' ⟨rfl, rfl⟩)
  go_ret
  exact ⟨rfl, rfl⟩

theorem digAt (i : Nat) (hi : i < 16) (h : i < ({ data := #[48, 49, 50, 51, 52, 53, 54, 55, 56, 57, 97, 98, 99, 100, 101, 102, 103, 104, 105, 106, 107, 108, 109, 110, 111, 112, 113, 114, 115, 116, 117, 118, 119, 120, 121, 122] } : ByteArray).size) :
    (({ data := #[48, 49, 50, 51, 52, 53, 54, 55, 56, 57, 97, 98, 99, 100, 101, 102, 103, 104, 105, 106, 107, 108, 109, 110, 111, 112, 113, 114, 115, 116, 117, 118, 119, 120, 121, 122] } : ByteArray)[i]'h).toNat = hexc i := by
  have key : ∀ i : Fin 16, ∀ h, (({ data := #[48, 49, 50, 51, 52, 53, 54, 55, 56, 57, 97, 98, 99, 100, 101, 102, 103, 104, 105, 106, 107, 108, 109, 110, 111, 112, 113, 114, 115, 116, 117, 118, 119, 120, 121, 122] } : ByteArray)[i.1]'h).toNat = hexc i.1 := by decide +kernel
  exact key ⟨i, hi⟩ h
theorem bits15 (u : Nat) (hu : u < 18446744073709551616) : bits BinOp.and IntKind.u64 (u : Int) 15 = ((u % 16 : Nat) : Int) := by
  have h := bits_and_u64_nat u 15 hu (by omega)
  rw [and15] at h
  exact h
set_option maxRecDepth 100000 in
set_option maxHeartbeats 1000000 in
theorem formatBits16 (U : Nat) (hU : U < 18446744073709551616) (w : World) (h : w.cell? ⟨2, 15, none⟩ = some (.int .u8 4)) :
    Calls Tryd.prog 53 #[.slice none 0 0, .int .u64 U, .int .i64 16, .bool false, .bool true] w fun e w' =>
      ∃ v, e = .returned (.tuple #[v, .string ⟨#[]⟩]) ∧ w'.ownsRow w.heap.size 5 1 v (hexl U).length (nums .u8 (hexl U)) ∧ Below w.heap.size w w' := by
  go_enter Tryd.func53, Tryd.ntmps53
  go_wp2_with (first | (go_at_call 77; refine (pow16 _).mono ?_; rintro e w' ⟨rfl, rfl⟩) | (go_at_call 78; refine (tz _ (pw_cell_below ((Below.refl _ _).alloc (Nat.le_refl _) _) h)).mono ?_; rintro e w' ⟨rfl, rfl⟩))
  have hz : (Tryd.zeroCells119).toList = nums .u8 (List.replicate 65 0) := by kernel_rfl
  have hz' : (Tryd.zeroCells119) = (nums .u8 (List.replicate 65 0)).toArray := by rw [← hz]
  go_loopw [1, 13] (fun v1 v13 wr => ∃ (u k : Nat) (xs : List Int), v1 = .int .u64 u ∧ v13 = .int .i64 k ∧ HexInv U u k xs ∧ wr.ownsRow w.heap.size 119 1 (.slice (some ⟨w.heap.size, 0, none⟩) 65 65) 65 (nums .u8 xs) ∧ Below w.heap.size w wr) (fun _ k _ => (intOf k).toNat)
  case atStart => exact ⟨U, 65, _, rfl, rfl, HexInv.start U hU, by rw [hz']; exact own_lit w _ _ .u8 (List.replicate 65 0) (Nat.le_refl _) (by simp), (Below.refl _ _).alloc (Nat.le_refl _) _⟩
  case round =>
    obtain ⟨u, k, xs, rfl, rfl, hI, hown, hB⟩ := hrel
    by_cases hu : 16 ≤ u
    · obtain ⟨hk, hI'⟩ := hI.step hu
      have hk65 := hI.2.2.1
      have hc := own_at hown ((k : Int) - 1) (by omega) (by omega)
      rw [show ((k : Int) - 1).toNat = k - 1 by omega] at hc
      obtain ⟨hc1, hc2⟩ := hc
      have e15 := bits15 u (hI.bound)
      have hm16 : u % 16 < 16 := by omega
      go_wp2
      go_roundw
      case rel =>
        refine ⟨u / 16, k - 1, _, by go_num, by go_num, hI', ?_, hB.setCell (by simp) _⟩
        rw [digAt _ hm16]
        have hs := (own_store hown ((k : Int) - 1) (hexc (u % 16) : Int)).1
        rwa [show ((k : Int) - 1).toNat = k - 1 by omega] at hs
      case measure => simp [intOf]; omega
    · have hk50 := hI.2.1
      have hk65 := hI.2.2.1
      have hl := hI.last (show u < 16 by omega)
      have hxl := hI.1
      have hu16 : u < 16 := by omega
      clear hu hI
      obtain ⟨j, rfl⟩ : ∃ j, k = j + 1 := ⟨k - 1, by omega⟩
      rw [Nat.add_sub_cancel] at hl
      have hL := Lib.hid hl
      clear hl
      have hc := own_at hown (j : Int) (by omega) (by omega)
      rw [Int.toNat_natCast] at hc
      obtain ⟨hc1, hc2⟩ := hc
      have hs := (own_store hown (j : Int) (hexc u : Int)).1
      rw [Int.toNat_natCast] at hs
      have hs' := Lib.hid hs
      clear hs
      have HX := Lib.hid hxl
      clear hxl
      have hj65 : (j : Int) ≤ 65 := by omega
      have hj65n : j ≤ 65 := by omega
      have hj0 : j ≠ 65 := by omega
      go_wp2_with (first | (at_builtin; (refine print_append_row (w0 := w) w.heap.size rfl (.tmp 95) (.tmp 97) 22 5 .u8 1 rfl Tryd.underlying22 info5 (by decide) (.slice none 0 0) [] (hexl U) (some ⟨w.heap.size, j, none⟩) (65 - j) (65 - j) rfl rfl ?zo ?zr ?zb ?zs ?zl ?zk)))
      case zo => exact own_nil _ _ _ _
      case zr =>
        rw [digAt _ hu16]
        exact tail_reads hs'.out (by omega) hL.out
      case zb => exact hB.setCell (by simp) _
      case zs => have := hB.size; simpa using this
      case zl => simp; omega
      case zk =>
        intro v1 w1 ho hb _ _
        go_wp2
        go_ret2
        exact ⟨v1, rfl, ho, hb⟩
end Go.Proofs.YtkfiafclddnaoaaDoor.Fm
