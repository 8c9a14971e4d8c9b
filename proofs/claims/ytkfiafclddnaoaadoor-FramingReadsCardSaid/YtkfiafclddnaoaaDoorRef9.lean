/- The reference's fields' lines. -/
import Derived.Test.YtkfiafclddnaoaaDoorRef8
set_option linter.unusedVariables false
set_option linter.unusedSimpArgs false
namespace Go.Proofs.YtkfiafclddnaoaaDoor.Tk
open Go.RowKit Go.Proofs.YtkfiafclddnaoaaDoorW.PrintWords Go.Proofs.YtkfiafclddnaoaaDoorW.PrintLast Go.Proofs.YtkfiafclddnaoaaDoor.Rw

theorem index_at : ∀ (l : Bs) (k : Nat) (c : UInt8), (l.take k).all (· != c) = true → l[k]? = some c → Lib.indexByte l c = k
  | [], k, c, _, h => by simp at h
  | a :: r, 0, c, _, h => by
    simp at h
    subst h
    simp [Lib.indexByte]
  | a :: r, k + 1, c, ha, h => by
    simp only [List.take_succ_cons, List.all_cons, Bool.and_eq_true] at ha
    have ih := index_at r k c ha.2 (by simpa using h)
    have hne : (a == c) = false := by simpa using ha.1
    unfold Lib.indexByte
    rw [hne, ih]
    have : ((k : Int) == -1) = false := by simp
    simp [this]
theorem index_no : ∀ (l : Bs) (c : UInt8), l.all (· != c) = true → Lib.indexByte l c = -1
  | [], c, _ => rfl
  | a :: r, c, ha => by
    simp only [List.all_cons, Bool.and_eq_true] at ha
    have hne : (a == c) = false := by simpa using ha.1
    unfold Lib.indexByte
    rw [hne, index_no r c ha.2]
    rfl
theorem cut_at (l : Bs) (k : Nat) (ha : (l.take k).all (· != 58) = true) (h : l[k]? = some 58) : Lib.cut l [58] = (l.take k, l.drop (k + 1), true) := by
  unfold Lib.cut
  rw [Lib.index_one, index_at l k 58 ha h, if_pos (by omega)]
  simp
theorem cut_no (l : Bs) (ha : l.all (· != 58) = true) : Lib.cut l [58] = (l, [], false) := by
  unfold Lib.cut
  rw [Lib.index_one, index_no l 58 ha, if_neg (by omega)]
theorem parse_no (l : Bs) (ha : l.all (· != 58) = true) : parseF l = none := by
  unfold parseF
  rw [cut_no l ha]
  rfl
theorem parse_at (l : Bs) (k : Nat) (ha : (l.take k).all (· != 58) = true) (h : l[k]? = some 58) :
    parseF l = if isTok (l.take k) && rVal (trim (l.drop (k + 1))) then some (l.take k, trim (l.drop (k + 1))) else none := by
  unfold parseF
  rw [cut_at l k ha h, rVal_trim]
  rfl
set_option maxRecDepth 100000 in
set_option maxHeartbeats 2000000 in
theorem rparse_walk (s : ByteArray) (w : World) (hs : s.size ≤ 500000) :
    Calls Tryd.prog 49 #[.string s] w (ParseP (parseF (bl s)) w) := by
  obtain ⟨R, hR⟩ : ∃ R, R = parseF (bl s) := ⟨_, rfl⟩
  rw [← hR]
  have HR := Lib.hid hR
  clear hR
  have hB := (Below.refl w.heap.size w).alloc (Nat.le_refl _) (.cells #[.string ⟨#[]⟩, .string ⟨#[]⟩] 28)
  have HB := Lib.hid hB
  clear hB
  go_enter Tryd.func49, Tryd.ntmps49
  go_wp2
  go_loop [4] (fun v4 => ∃ k : Nat, k ≤ s.size ∧ v4 = .int .i64 k ∧ ((bl s).take k).all (· != 58) = true) (fun v4 => s.size - (intOf v4).toNat)
  case atStart => exact ⟨0, Nat.zero_le _, rfl, by simp⟩
  case round =>
    obtain ⟨k, hk, rfl, hA⟩ := hrel
    have HA := Lib.hid hA
    clear hA
    by_cases hlt : k < s.size
    · have hltI : (k : Int) < s.size := by omega
      have HX := Lib.hid (bl_at s k hlt)
      have hx256 := u8_lt s[k]
      by_cases h58 : s[k] = 58
      · have hq : ((s[k].toNat : Int) != 58) = false := by rw [h58]; rfl
        have hq2 : ((k : Int) == (s.size : Int)) = false := by simp; omega
        have hP := HR.out.trans (parse_at (bl s) k HA.out (by rw [HX.out, h58]))
        have e1 : bl (s.extract 0 k) = (bl s).take k := by rw [bl_extract, List.drop_zero]
        have e2 : bl (s.extract (k + 1) s.size) = (bl s).drop (k + 1) := by rw [bl_extract, List.take_of_length_le (Nat.le_of_eq (bl_length s))]
        rw [← e1, ← e2] at hP
        have hz1 : (s.extract 0 k).size ≤ 500000 := by rw [ByteArray.size_extract]; omega
        have hz2 : (s.extract (k + 1) s.size).size ≤ 500000 := by rw [ByteArray.size_extract]; omega
        have HE1 := Lib.hid (sb_bl (s.extract 0 k))
        have HP := Lib.hid hP
        clear h58 hP e1 e2
        obtain ⟨b, hb⟩ : ∃ b, b = isTok (bl (s.extract 0 k)) := ⟨_, rfl⟩
        have HBt := Lib.hid hb
        clear hb
        go_wp2_with fail
        refine (rIs_walk (s.extract 0 k) _ hz1).mono ?_
        rw [← HBt.out]
        rintro e w1 ⟨rfl, rfl⟩
        cases b with
        | false =>
          obtain rfl : R = none := by rw [HP.out, ← HBt.out]; rfl
          go_wp2
          refine bodyPost_ret (v := .tuple #[.agg #[.string ⟨#[]⟩, .string ⟨#[]⟩], .int .i64 31]) (by simp [results, Tryd.results49, go_sem]) rfl ⟨rfl, ?_⟩
          first | exact (Below.refl _ _).alloc (Nat.le_refl _) _ | exact (((Below.refl _ _).alloc (Nat.le_refl _) _).setCell (Nat.le_refl _) _).setCell (Nat.le_refl _) _
        | true =>
          go_wp2_with fail
          refine (rtrim_walk (s.extract (k + 1) s.size) _ hz2).mono ?_
          rintro e w1 ⟨rfl, rfl⟩
          have hP2 := HP.out
          rw [← HBt.out, Bool.true_and] at hP2
          have hlt : (trim (bl (s.extract (k + 1) s.size))).length ≤ 500000 := Nat.le_trans (trim_le _) (by rw [bl_length]; exact hz2)
          have HP2 := Lib.hid hP2
          clear hP2
          generalize trim (bl (s.extract (k + 1) s.size)) = tv at HP2 hlt ⊢
          go_wp2_with fail
          refine (rvalue_walk (sb tv) _ (by rw [sb_size]; exact hlt)).mono ?_
          rw [bl_sb]
          generalize rVal tv = z at HP2 ⊢
          rintro e w1 ⟨rfl, rfl⟩
          cases z with
          | false =>
            obtain rfl : R = none := by rw [HP2.out]; rfl
            go_wp2
            refine bodyPost_ret (v := .tuple #[.agg #[.string ⟨#[]⟩, .string ⟨#[]⟩], .int .i64 31]) (by simp [results, Tryd.results49, go_sem]) rfl ⟨rfl, ?_⟩
            first | exact (Below.refl _ _).alloc (Nat.le_refl _) _ | exact (((Below.refl _ _).alloc (Nat.le_refl _) _).setCell (Nat.le_refl _) _).setCell (Nat.le_refl _) _
          | true =>
            obtain rfl : R = some (bl (s.extract 0 k), tv) := by rw [HP2.out]; rfl
            go_wp2
            refine bodyPost_ret (v := .tuple #[.agg #[.string (s.extract 0 k), .string (sb tv)], .int .i64 0]) (by simp [results, Tryd.results49, go_sem]) rfl ⟨?_, ?_⟩
            · unfold fieldV
              simp only
              rw [HE1.out]; rfl
            first | exact (Below.refl _ _).alloc (Nat.le_refl _) _ | exact (((Below.refl _ _).alloc (Nat.le_refl _) _).setCell (Nat.le_refl _) _).setCell (Nat.le_refl _) _
      · have hq : ((s[k].toNat : Int) != 58) = true := by
          simp only [bne_iff_ne, ne_eq]
          intro h
          exact h58 (UInt8.toNat_inj.1 (by simpa using (Int.ofNat.inj (h : ((s[k].toNat : Nat) : Int) = ((58 : Nat) : Int)))))
        have HN := Lib.hid h58
        clear h58
        go_wp2
        go_round
        case rel => exact ⟨k + 1, by omega, by go_num, by rw [all_snoc (· != 58) _ _ _ HX.out, HA.out]; simpa using HN.out⟩
        case measure => simp [intOf]; omega
    · have hA := HA.out
      rw [show (bl s).take k = bl s from List.take_of_length_le (by rw [bl_length]; omega)] at hA
      obtain rfl : R = none := by rw [HR.out, parse_no _ hA]
      have hq2 : ((k : Int) == (s.size : Int)) = true := by simp; omega
      have hkI : ¬ (k : Int) < s.size := by omega
      clear hA
      go_wp2
      refine bodyPost_ret (v := .tuple #[.agg #[.string ⟨#[]⟩, .string ⟨#[]⟩], .int .i64 31]) (by simp [results, Tryd.results49, go_sem]) rfl ⟨rfl, ?_⟩
      first | exact (Below.refl _ _).alloc (Nat.le_refl _) _ | exact (((Below.refl _ _).alloc (Nat.le_refl _) _).setCell (Nat.le_refl _) _).setCell (Nat.le_refl _) _
end Go.Proofs.YtkfiafclddnaoaaDoor.Tk
