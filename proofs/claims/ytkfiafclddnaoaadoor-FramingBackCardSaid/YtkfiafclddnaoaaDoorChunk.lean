/- Walks: a chunk of bytes, by the program and by the reference; the last chunk. -/
import Derived.Test.YtkfiafclddnaoaaDoorFmt
import Derived.Test.YtkfiafclddnaoaaDoorRw
import Derived.Lib.SlBytesConst
set_option linter.unusedVariables false
set_option linter.unusedSimpArgs false
namespace Go.Proofs.YtkfiafclddnaoaaDoor.Fm
open Go.RowKit Go.Proofs.YtkfiafclddnaoaaDoorW.PrintWords Go.Proofs.YtkfiafclddnaoaaDoor.Rw

/-- The table's one number that is read. -/
def Tab (w : World) : Prop := w.cell? ⟨2, 15, none⟩ = some (.int .u8 4)
theorem Tab.touch {F : Nat → Prop} {w w' : World} (h : Tab w) (t : Tch F w w') (hF : ¬ F 2) : Tab w' := (t.cell (lt_of_cell h) hF).trans h
theorem Tab.below {B : Nat} {w w' : World} (h : Tab w) (t : Below B w w') (hB : 2 < B) : Tab w' := (t.cell (p := ⟨2, 15, none⟩) hB).trans h

theorem appendUint16i (U : Nat) (hU : U < 18446744073709551616) (w : World) (h : Tab w) :
    Calls Tryd.prog 37 #[.slice none 0 0, .int .u64 U, .int .i64 16] w fun e w' =>
      ∃ v, e = .returned v ∧ Row w' (fun k => w.heap.size ≤ k) 1 v (hexl U).length (nums .u8 (hexl U)) ∧ Below w.heap.size w w' := by
  go_enter Tryd.func37, Tryd.ntmps37
  go_wp2_with fail
  refine (formatBits16 U hU w h).mono ?_
  rintro e w' ⟨v, rfl, ho, hb⟩
  go_wp2
  go_ret
  exact ⟨v, rfl, .of_own ho, hb⟩
theorem appendUint16 (U : Nat) (hU : U < 18446744073709551616) (w : World) (h : Tab w) :
    Calls Tryd.prog 26 #[.slice none 0 0, .int .u64 U, .int .i64 16] w fun e w' =>
      ∃ v, e = .returned v ∧ Row w' (fun k => w.heap.size ≤ k) 1 v (hexl U).length (nums .u8 (hexl U)) ∧ Below w.heap.size w w' := by
  go_enter Tryd.func26, Tryd.ntmps26
  go_wp2_with fail
  refine (appendUint16i U hU w h).mono ?_
  rintro e w' ⟨v, rfl, ho, hb⟩
  go_wp2
  go_ret
  exact ⟨v, rfl, ho, hb⟩

def crlf : ByteArray := ⟨#[13, 10]⟩
/-- What a chunk of bytes is. -/
def chunk (b : List Int) : List Int := if b.length = 0 then [] else hexl b.length ++ [13, 10] ++ b ++ [13, 10]
theorem chunk_pos {b : List Int} (h : 0 < b.length) : chunk b = hexl b.length ++ [13, 10] ++ b ++ [13, 10] := by unfold chunk; rw [if_neg (by omega)]

theorem chunk_walk_nil (A : Option Addr) (c : Nat) (w : World) :
    Calls Tryd.prog 9 #[.slice A 0 c] w fun e w' => e = .returned (.slice none 0 0) ∧ w' = w := by
  go_enter Tryd.func9, Tryd.ntmps9
  go_wp2
  go_ret
  exact ⟨rfl, rfl⟩
set_option maxRecDepth 100000 in
set_option maxHeartbeats 1000000 in
theorem chunk_walk (A : Option Addr) (n c : Nat) (b : List Int) (w : World) (hn : 0 < n) (hn5 : n ≤ 5000) (h : Tab w) (hr : ReadsInt w .u8 A n b) :
    Calls Tryd.prog 9 #[.slice A n c] w fun e w' => ∃ v, e = .returned v ∧ Row w' (fun k => w.heap.size ≤ k) 1 v (chunk b).length (nums .u8 (chunk b)) ∧ Below w.heap.size w w' := by
  have hbl := hr.1
  have hch : chunk b = hexl n ++ [13, 10] ++ b ++ [13, 10] := by rw [chunk_pos (by omega), hbl]
  have HC := Lib.hid hch
  clear hch
  have HB := Lib.hid hbl
  clear hbl
  have hl := (hexl_len n 4 (by omega) (by omega)).1
  have hA : ∀ ad, A = some ad → ad.block < w.heap.size := fun ad e => by
    obtain ⟨ad', e', hc⟩ := hr.2.2 (by omega)
    rw [e] at e'
    injection e' with e'
    subst e'
    have := lt_of_cell (hc 0 hn)
    simpa [Addr.add] using this
  have HA := Lib.hid hA
  clear hA
  have HR := Lib.hid hr
  clear hr
  have HT := Lib.hid h
  clear h
  have h0 : ((n : Int) == 0) = false := by simp; omega
  go_enter Tryd.func9, Tryd.ntmps9
  go_wp2_with fail
  refine (appendUint16 n (by omega) w HT.out).mono ?_
  rintro e w1 ⟨v, rfl, ho, hb⟩
  have HO := Lib.hid ho
  clear ho
  go_wp2_with (first | (at_builtin; refine wp_append_strB rfl (.tmp 11) (.const (.string ⟨#[13, 10]⟩)) 22 9 5 rfl Tryd.underlying22 Tryd.underlying9 info5 ⟨#[13, 10]⟩ rfl rfl hb (Nat.le_refl _) HO.out ?y1 ?y2))
  case y1 => simp [ByteArray.size]; omega
  case y2 =>
    intro v2 w2 ho2 hb2
    have HO2 := Lib.hid ho2
    have R2 := Lib.hid (reads_src (HR.out.below hb2))
    clear ho2 HO hb
    go_wp2_with (first | (at_builtin; refine wp_appendB rfl (.tmp 13) (.tmp 14) 22 5 (.int .u8 0) 1 rfl Tryd.underlying22 info5 rfl A n c (nums .u8 b) rfl rfl hb2 (Nat.le_refl _) HO2.out R2.out ?y3 ?y4 ?y5))
    case y3 => simp [ByteArray.size, maxLen]; omega
    case y4 => simp [ByteArray.size]; omega
    case y5 =>
      intro v3 w3 ho3 hb3
      have HO3 := Lib.hid ho3
      clear ho3 HO2 R2 hb2
      go_wp2_with (first | (at_builtin; refine wp_append_strB rfl (.tmp 15) (.const (.string ⟨#[13, 10]⟩)) 22 9 5 rfl Tryd.underlying22 Tryd.underlying9 info5 ⟨#[13, 10]⟩ rfl rfl hb3 (Nat.le_refl _) HO3.out ?y6 ?y7))
      case y6 => simp [ByteArray.size]; omega
      case y7 =>
        intro v4 w4 ho4 hb4
        have HO4 := Lib.hid ho4
        clear ho4 HO3 hb3
        go_wp2
        go_ret
        refine ⟨v4, rfl, HO4.out.as1 ?_ (nums_length _ _), hb4⟩
        rw [HC.out]
        simp only [nums_append, List.append_assoc]
        rfl

theorem hexAt (i : Nat) (d : ByteArray) (hi : i < 16) :
    bytesOf (({ data := #[48, 49, 50, 51, 52, 53, 54, 55, 56, 57, 97, 98, 99, 100, 101, 102] } : ByteArray).extract i (i + 1) ++ d) = (hexc i : Int) :: bytesOf d := by
  have key : ∀ i : Fin 16, bytesOf (({ data := #[48, 49, 50, 51, 52, 53, 54, 55, 56, 57, 97, 98, 99, 100, 101, 102] } : ByteArray).extract i.1 (i.1 + 1)) = [(hexc i.1 : Int)] := by decide +kernel
  rw [bytesOf_app, key ⟨i, hi⟩]
  rfl
theorem refchunk_walk_nil (A : Option Addr) (c : Nat) (w : World) :
    Calls Tryd.prog 10 #[.slice A 0 c] w fun e w' => e = .returned (.slice none 0 0) ∧ w' = w := by
  go_enter Tryd.func10, Tryd.ntmps10
  go_wp2
  go_ret
  exact ⟨rfl, rfl⟩
set_option maxRecDepth 100000 in
set_option maxHeartbeats 1000000 in
theorem refchunk_walk (A : Option Addr) (n c : Nat) (b : List Int) (w : World) (hn : 0 < n) (hn5 : n ≤ 5000) (hr : ReadsInt w .u8 A n b) :
    Calls Tryd.prog 10 #[.slice A n c] w fun e w' => ∃ v, e = .returned v ∧ Row w' (fun k => w.heap.size ≤ k) 1 v (chunk b).length (nums .u8 (chunk b)) ∧ Below w.heap.size w w' := by
  have hbl := hr.1
  have hch : chunk b = hexl n ++ [13, 10] ++ b ++ [13, 10] := by rw [chunk_pos (by omega), hbl]
  have HC := Lib.hid hch
  clear hch
  have HB := Lib.hid hbl
  clear hbl
  have hl := (hexl_len n 4 (by omega) (by omega)).1
  have HR := Lib.hid hr
  clear hr
  have h0 : ((n : Int) == 0) = false := by simp; omega
  go_enter Tryd.func10, Tryd.ntmps10
  go_wp2
  go_loop [3, 4] (fun v3 v4 => ∃ (m : Nat) (d : ByteArray), v3 = .string d ∧ v4 = .int .i64 m ∧ RefInv n m (bytesOf d)) (fun _ m => (intOf m).toNat)
  case atStart => exact ⟨n, _, rfl, rfl, RefInv.start hn⟩
  case round =>
    obtain ⟨m, d, rfl, rfl, hI⟩ := hrel
    have hmn := hI.1
    by_cases hm : 0 < m
    · have hI' := hI.step hm
      have hd : (bytesOf d).length ≤ 4 := by
        have := hI.2.1 hm
        have h2 := congrArg List.length this
        simp at h2
        omega
      rw [bytesOf_length] at hd
      have h16 : m % 16 < 16 := by omega
      have h16' : m % 16 + 1 ≤ 16 := by omega
      go_wp2
      go_round
      case rel => exact ⟨m / 16, _, rfl, by go_num, by rw [hexAt _ _ h16]; exact hI'⟩
      case measure => simp [intOf]; omega
    · obtain rfl : m = 0 := by omega
      have hd0 := hI.2.2 rfl
      have hds : d.size ≤ 4 := by
        have h2 := congrArg List.length hd0
        rw [bytesOf_length] at h2
        omega
      have HD := Lib.hid hd0
      clear hd0 hm hI hmn
      have hsz : (d ++ ⟨#[13, 10]⟩ : ByteArray).size ≤ 6 := by rw [ByteArray.size_append]; show d.size + 2 ≤ 6; omega
      obtain ⟨v1, w1, kb, ho1, hb1⟩ := conv_row (P := Tryd.prog) (src := 9) (dst := 22) (e := 5) Tryd.underlying9 Tryd.underlying22 Tryd.underlying5 (d ++ ⟨#[13, 10]⟩) (by omega) w
      have HO1 := Lib.hid ho1
      have R1 := Lib.hid (reads_src (HR.out.below hb1))
      have HS := Lib.hid hsz
      clear ho1 HR hsz
      go_wp2_with (first | (at_builtin; refine wp_appendB rfl (.tmp 24) (.tmp 25) 22 5 (.int .u8 0) 1 rfl Tryd.underlying22 info5 rfl A n c (nums .u8 b) rfl rfl hb1 (Nat.le_refl _) HO1.out R1.out ?y3 ?y4 ?y5))
      case y3 => have := HS.out; simp only [maxLen]; omega
      case y4 => have := HS.out; omega
      case y5 =>
        intro v2 w2 ho2 hb2
        have HO2 := Lib.hid ho2
        clear ho2 HO1 R1 hb1 kb
        go_wp2_with (first | (at_builtin; refine wp_appendB rfl (.tmp 26) (.tmp 27) 22 5 (.int .u8 0) 1 rfl Tryd.underlying22 info5 rfl (some ⟨w2.heap.size, 0, none⟩) 2 2 [.int .u8 13, .int .u8 10] rfl rfl (hb2.alloc hb2.size _) (Nat.le_refl _) (HO2.out.alloc _) (box_src (w := w2) [.int .u8 13, .int .u8 10] 5 ?y9 2 rfl) ?y6 ?y7 ?y8))
        case y9 => intro u hu; simp at hu; rcases hu with rfl | rfl <;> rfl
        case y6 => simp only [maxLen]; omega
        case y7 => omega
        case y8 =>
          intro v3 w3 ho3 hb3
          have HO3 := Lib.hid ho3
          clear ho3 HO2 hb2
          go_wp2
          go_ret
          refine ⟨v3, rfl, HO3.out.as1 ?_ (nums_length _ _), hb3⟩
          rw [HC.out, HD.out, bytesOf_app]
          simp only [nums_append, List.append_assoc]
          rfl

set_option maxRecDepth 100000 in
theorem last_walk (w : World) : Calls Tryd.prog 11 #[] w fun e w' => ∃ v, e = .returned v ∧ Row w' (fun k => w.heap.size ≤ k) 1 v 5 (nums .u8 [48, 13, 10, 13, 10]) ∧ Below w.heap.size w w' := by
  have kc := fun (w : World) (C : Array Value) (n c : Nat) => Lib.run_convert_bytes_const (P := Tryd.prog) w 22 5 C n c Tryd.underlying22 Tryd.underlying5
  go_enter Tryd.func11, Tryd.ntmps11
  go_wp2
  go_ret
  exact ⟨_, rfl, Row.of_block (F := fun k => w.heap.size ≤ k) (sz := 1) (n := 5) (cap := 5) (heap_alloc_new w (.cells #[.int .u8 48, .int .u8 13, .int .u8 10, .int .u8 13, .int .u8 10] 5 (5, 6))) (Nat.le_refl _) (Nat.le_refl _) (by simp [maxLen]) (Nat.le_refl _) (.inr (Nat.le_refl _)), (Below.refl _ _).alloc (Nat.le_refl _) _⟩

def ChunkPost (b : List Int) (w : World) (e : Ending) (w' : World) : Prop := ∃ v, e = .returned v ∧ Row w' (fun k => w.heap.size ≤ k) 1 v (chunk b).length (nums .u8 (chunk b)) ∧ Below w.heap.size w w'
theorem chunk_any (A : Option Addr) (n c : Nat) (b : List Int) (w : World) (hn5 : n ≤ 5000) (h : Tab w) (hr : ReadsInt w .u8 A n b) :
    Calls Tryd.prog 9 #[.slice A n c] w (ChunkPost b w) := by
  rcases Nat.eq_zero_or_pos n with rfl | hn
  · refine (chunk_walk_nil A c w).mono ?_
    rintro e w' ⟨rfl, rfl⟩
    obtain rfl : b = [] := List.eq_nil_of_length_eq_zero hr.1
    exact ⟨_, rfl, Row.nil _ _ _, Below.refl _ _⟩
  · exact chunk_walk A n c b w hn hn5 h hr
theorem refchunk_any (A : Option Addr) (n c : Nat) (b : List Int) (w : World) (hn5 : n ≤ 5000) (hr : ReadsInt w .u8 A n b) :
    Calls Tryd.prog 10 #[.slice A n c] w (ChunkPost b w) := by
  rcases Nat.eq_zero_or_pos n with rfl | hn
  · refine (refchunk_walk_nil A c w).mono ?_
    rintro e w' ⟨rfl, rfl⟩
    obtain rfl : b = [] := List.eq_nil_of_length_eq_zero hr.1
    exact ⟨_, rfl, Row.nil _ _ _, Below.refl _ _⟩
  · exact refchunk_walk A n c b w hn hn5 hr
end Go.Proofs.YtkfiafclddnaoaaDoor.Fm
