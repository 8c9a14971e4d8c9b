/- Walks: the token functions of the reference. -/
import Derived.Test.YtkfiafclddnaoaaDoorTok4
set_option linter.unusedVariables false
set_option linter.unusedSimpArgs false
namespace Go.Proofs.YtkfiafclddnaoaaDoor.Tk
open Go.RowKit Go.Proofs.YtkfiafclddnaoaaDoorW.PrintWords Go.Proofs.YtkfiafclddnaoaaDoorW.PrintLast Go.Proofs.YtkfiafclddnaoaaDoor.Rw

theorem conv_one (W : World) (x : Int) : (convert 22 9 (.slice (some ⟨W.heap.size, 0, none⟩) 1 1)).run Tryd.prog (W.alloc (.cells #[.int .u8 x] 5)) = .ok (.string (strOfNums [x])) (W.alloc (.cells #[.int .u8 x] 5)) :=
  row_string (P := Tryd.prog) (xs := [x]) (F := fun _ => True) Tryd.underlying22 Tryd.underlying5 Tryd.underlying9 ((Row.of_own (own_lit W 0 5 .u8 [x] (Nat.zero_le _) (by simp))).mono fun _ _ => trivial)
theorem one_low (c : UInt8) : bl (strOfNums [(c.toNat : Int)]) = [c] := by
  have := str_ib [c]
  simp only [ib, List.map_cons, List.map_nil] at this
  rw [this, bl_sb]
theorem lowb_big (c : UInt8) (h : 65 ≤ c.toNat ∧ c.toNat ≤ 90) : ((lowb c).toNat : Int) = (c.toNat : Int) + 32 := by
  unfold lowb
  rw [if_pos h, UInt8.toNat_add]
  simp; omega
theorem lowb_small (c : UInt8) (h : ¬ (65 ≤ c.toNat ∧ c.toNat ≤ 90)) : lowb c = c := by unfold lowb; rw [if_neg h]
theorem lower_snoc (l : Bs) (k : Nat) (x : UInt8) (h : l[k]? = some x) : lower (l.take (k + 1)) = lower (l.take k) ++ [lowb x] := by
  obtain ⟨hl, rfl⟩ := List.getElem?_eq_some_iff.1 h
  rw [List.take_succ_eq_append_getElem hl]; simp only [lower, List.map_append]; rfl
set_option maxRecDepth 100000 in
set_option maxHeartbeats 1000000 in
theorem rlower_walk (s : ByteArray) (w : World) (hs : s.size ≤ 500000) :
    Calls Tryd.prog 64 #[.string s] w fun e w' => e = .returned (.string (sb (lower (bl s)))) ∧ Below w.heap.size w w' := by
  have hcv := conv_one
  go_enter Tryd.func64, Tryd.ntmps64
  go_wp2
  go_loopw [3, 4] (fun v3 v4 wr => ∃ (k : Nat) (d : ByteArray), k ≤ s.size ∧ v4 = .int .i64 k ∧ v3 = .string d ∧ bl d = lower ((bl s).take k) ∧ Below w.heap.size w wr) (fun _ v4 _ => s.size - (intOf v4).toNat)
  case atStart => exact ⟨0, _, Nat.zero_le _, rfl, rfl, rfl, Below.refl _ _⟩
  case round =>
    obtain ⟨k, d, hk, rfl, rfl, hd, hB⟩ := hrel
    have hds : d.size ≤ 500000 := by rw [← bl_length, hd, lower_length, List.length_take]; omega
    have HD := Lib.hid hd
    clear hd
    by_cases hlt : k < s.size
    · have hx := bl_at s k hlt
      have HS := Lib.hid (lower_snoc (bl s) k s[k] hx)
      have hx256 := u8_lt s[k]
      have hcap := fun x : Int => (show (strOfNums [x]).size = 1 from rfl)
      clear hx
      by_cases hU : 65 ≤ s[k].toNat ∧ s[k].toNat ≤ 90
      · have HLB := Lib.hid (lowb_big _ hU)
        obtain ⟨hU1, hU2⟩ := hU
        go_wp2
        go_roundw
        case rel => exact ⟨k + 1, _, by omega, by go_num, rfl, by rw [bl_app, HS.out, HD.out, ← HLB.out, one_low], hB.alloc hB.size _⟩
        case measure => simp [intOf]; omega
      · have HLB := Lib.hid (lowb_small _ hU)
        rcases (show s[k].toNat < 65 ∨ 90 < s[k].toNat by omega) with hU1 | hU1
        all_goals
          go_wp2
          go_roundw
          case rel => exact ⟨k + 1, _, by omega, by go_num, rfl, by rw [bl_app, HS.out, HD.out, HLB.out, one_low], hB.alloc hB.size _⟩
          case measure => simp [intOf]; omega
    · obtain rfl : k = s.size := by omega
      have e0 : (bl s).take s.size = bl s := by rw [← bl_length, List.take_length]
      rw [e0] at HD
      go_wp2
      go_ret
      exact ⟨by rw [← HD.out, sb_bl]; rfl, hB⟩
set_option maxRecDepth 100000 in
theorem rsame_walk (a b : ByteArray) (w : World) (ha : a.size ≤ 500000) (hb : b.size ≤ 500000) :
    Calls Tryd.prog 62 #[.string a, .string b] w fun e w' => e = .returned (.bool (same (bl a) (bl b))) ∧ Below w.heap.size w w' := by
  go_enter Tryd.func62, Tryd.ntmps62
  go_wp2_with fail
  refine (rlower_walk a _ ha).mono ?_
  rintro e w1 ⟨rfl, hb1⟩
  generalize hla : sb (lower (bl a)) = la
  have HLA := Lib.hid hla
  clear hla
  go_wp2_with fail
  refine (rlower_walk b _ hb).mono ?_
  rintro e w2 ⟨rfl, hb2⟩
  generalize hlb : sb (lower (bl b)) = lb
  have HLB := Lib.hid hlb
  clear hlb
  have hB := Below.trans hb1 (hb2.mono hb1.size)
  clear hb1 hb2
  go_wp2
  go_ret
  refine ⟨?_, hB⟩
  have := same_toList (lower (bl a)) (lower (bl b))
  rw [HLA.out, HLB.out] at this
  simp only [same, ← this]
  rfl
/-- Blanks. -/
def blk (c : UInt8) : Bool := c == 32 || c == 9
theorem rblank_walk (c : UInt8) (w : World) : Calls Tryd.prog 94 #[.int .u8 (c.toNat : Int)] w fun e w' => e = .returned (.bool (blk c)) ∧ w = w' := by
  by_cases h1 : c = 32
  · subst h1
    go_enter Tryd.func94, Tryd.ntmps94
    go_wp2
    go_ret
    exact ⟨rfl, rfl⟩
  · by_cases h2 : c = 9
    · subst h2
      go_enter Tryd.func94, Tryd.ntmps94
      go_wp2
      go_ret
      exact ⟨rfl, rfl⟩
    · have e1 : ((c.toNat : Int) == 32) = false := byte_ne (byte_of rfl h1 (n := 32) rfl) _ rfl
      have e2 : ((c.toNat : Int) == 9) = false := byte_ne (byte_of rfl h2 (n := 9) rfl) _ rfl
      have hb : blk c = false := by simp [blk, h1, h2]
      have HB := Lib.hid hb
      clear hb h1 h2
      go_enter Tryd.func94, Tryd.ntmps94
      go_wp2
      go_ret
      exact ⟨by rw [HB.out]; rfl, rfl⟩

theorem tch_alt (c : UInt8) : tch c = ((decide (97 ≤ c.toNat) && decide (c.toNat ≤ 122)) || (decide (65 ≤ c.toNat) && decide (c.toNat ≤ 90)) || (decide (48 ≤ c.toNat) && decide (c.toNat ≤ 57)) || marksL.contains c) := by
  have key : ∀ n : Fin 256, tch (UInt8.ofNat n.1) = ((decide (97 ≤ n.1) && decide (n.1 ≤ 122)) || (decide (65 ≤ n.1) && decide (n.1 ≤ 90)) || (decide (48 ≤ n.1) && decide (n.1 ≤ 57)) || marksL.contains (UInt8.ofNat n.1)) := by decide +kernel
  have := key ⟨c.toNat, u8_lt c⟩
  simpa using this
set_option maxRecDepth 100000 in
set_option maxHeartbeats 2000000 in
theorem rtchar_walk (c : UInt8) (w : World) : Calls Tryd.prog 86 #[.int .u8 (c.toNat : Int)] w fun e w' => e = .returned (.bool (tch c)) ∧ w = w' := by
  have ht := tch_alt c
  have hc256 := u8_lt c
  generalize tch c = z at ht ⊢
  by_cases h1 : (97 ≤ c.toNat ∧ c.toNat ≤ 122) ∨ (65 ≤ c.toNat ∧ c.toNat ≤ 90) ∨ (48 ≤ c.toNat ∧ c.toNat ≤ 57)
  · have hz : z = true := by rw [ht]; rcases h1 with h | h | h <;> simp [h.1, h.2]
    subst hz
    clear ht
    rcases h1 with ⟨ha, hb⟩ | ⟨ha, hb⟩ | ⟨ha, hb⟩
    all_goals
      go_enter Tryd.func86, Tryd.ntmps86
      go_wp2
      go_ret
      exact ⟨rfl, rfl⟩
  · have hz : z = marksL.contains c := by
      rw [ht]
      have e1 : (decide (97 ≤ c.toNat) && decide (c.toNat ≤ 122)) = false := by simp; omega
      have e2 : (decide (65 ≤ c.toNat) && decide (c.toNat ≤ 90)) = false := by simp; omega
      have e3 : (decide (48 ≤ c.toNat) && decide (c.toNat ≤ 57)) = false := by simp; omega
      rw [e1, e2, e3]; rfl
    by_cases hm : marksL.contains c = true
    · rw [hm] at hz
      subst hz
      clear ht
      have hmem : c ∈ marksL := List.contains_iff_mem.1 hm
      clear hm h1
      simp only [marksL, List.mem_cons, List.mem_nil_iff, or_false] at hmem
      rcases hmem with rfl | rfl | rfl | rfl | rfl | rfl | rfl | rfl | rfl | rfl | rfl | rfl | rfl | rfl | rfl
      all_goals
        go_enter Tryd.func86, Tryd.ntmps86
        go_wp2
        go_ret
        exact ⟨rfl, rfl⟩
    · have hz0 : z = false := by rw [hz]; simpa using hm
      subst hz0
      clear ht hz
      rcases (show c.toNat < 48 ∨ (57 < c.toNat ∧ c.toNat < 65) ∨ (90 < c.toNat ∧ c.toNat < 97) ∨ 122 < c.toNat by omega) with h | ⟨h, h'⟩ | ⟨h, h'⟩ | h
      all_goals
        have f33 : ((c.toNat : Int) == 33) = false := byte_ne (byte_of rfl (fun e => hm (by rw [e]; decide)) (n := 33) (d := 33) rfl) _ rfl
        have f35 : ((c.toNat : Int) == 35) = false := byte_ne (byte_of rfl (fun e => hm (by rw [e]; decide)) (n := 35) (d := 35) rfl) _ rfl
        have f36 : ((c.toNat : Int) == 36) = false := byte_ne (byte_of rfl (fun e => hm (by rw [e]; decide)) (n := 36) (d := 36) rfl) _ rfl
        have f37 : ((c.toNat : Int) == 37) = false := byte_ne (byte_of rfl (fun e => hm (by rw [e]; decide)) (n := 37) (d := 37) rfl) _ rfl
        have f38 : ((c.toNat : Int) == 38) = false := byte_ne (byte_of rfl (fun e => hm (by rw [e]; decide)) (n := 38) (d := 38) rfl) _ rfl
        have f39 : ((c.toNat : Int) == 39) = false := byte_ne (byte_of rfl (fun e => hm (by rw [e]; decide)) (n := 39) (d := 39) rfl) _ rfl
        have f42 : ((c.toNat : Int) == 42) = false := byte_ne (byte_of rfl (fun e => hm (by rw [e]; decide)) (n := 42) (d := 42) rfl) _ rfl
        have f43 : ((c.toNat : Int) == 43) = false := byte_ne (byte_of rfl (fun e => hm (by rw [e]; decide)) (n := 43) (d := 43) rfl) _ rfl
        have f45 : ((c.toNat : Int) == 45) = false := byte_ne (byte_of rfl (fun e => hm (by rw [e]; decide)) (n := 45) (d := 45) rfl) _ rfl
        have f46 : ((c.toNat : Int) == 46) = false := byte_ne (byte_of rfl (fun e => hm (by rw [e]; decide)) (n := 46) (d := 46) rfl) _ rfl
        have f94 : ((c.toNat : Int) == 94) = false := byte_ne (byte_of rfl (fun e => hm (by rw [e]; decide)) (n := 94) (d := 94) rfl) _ rfl
        have f95 : ((c.toNat : Int) == 95) = false := byte_ne (byte_of rfl (fun e => hm (by rw [e]; decide)) (n := 95) (d := 95) rfl) _ rfl
        have f96 : ((c.toNat : Int) == 96) = false := byte_ne (byte_of rfl (fun e => hm (by rw [e]; decide)) (n := 96) (d := 96) rfl) _ rfl
        have f124 : ((c.toNat : Int) == 124) = false := byte_ne (byte_of rfl (fun e => hm (by rw [e]; decide)) (n := 124) (d := 124) rfl) _ rfl
        have f126 : ((c.toNat : Int) == 126) = false := byte_ne (byte_of rfl (fun e => hm (by rw [e]; decide)) (n := 126) (d := 126) rfl) _ rfl
        clear hm h1
        go_enter Tryd.func86, Tryd.ntmps86
        go_wp2
        go_ret
        exact ⟨rfl, rfl⟩
end Go.Proofs.YtkfiafclddnaoaaDoor.Tk
