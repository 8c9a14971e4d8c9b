/- Walk: a chunk's line. -/
import Derived.Test.YtkfiafclddnaoaaDoorPu
import Derived.Outline
set_option linter.unusedVariables false
set_option linter.unusedSimpArgs false
namespace Go.Proofs.YtkfiafclddnaoaaDoor.Tk
open Go.RowKit Go.Proofs.YtkfiafclddnaoaaDoorW.PrintWords Go.Proofs.YtkfiafclddnaoaaDoorW.PrintLast Go.Proofs.YtkfiafclddnaoaaDoor.Rw

def hexText : ByteArray := ⟨#[48, 49, 50, 51, 52, 53, 54, 55, 56, 57, 97, 98, 99, 100, 101, 102, 65, 66, 67, 68, 69, 70]⟩
theorem hex_index (c : UInt8) : (0 ≤ Lib.indexByte hexText.data.toList ((c.toNat : Int).toNat.toUInt8)) ↔ hxd c = true := by
  have key : ∀ n : Fin 256, (0 ≤ Lib.indexByte hexText.data.toList (n.1.toUInt8)) ↔ hxd (UInt8.ofNat n.1) = true := by decide +kernel
  have := key ⟨c.toNat, u8_lt c⟩
  simp only [UInt8.ofNat_toNat] at this
  rw [Int.toNat_natCast, show c.toNat.toUInt8 = c from UInt8.ofNat_toNat]
  exact this
/-- A byte that no line of a chunk may have. -/
def odd (c : UInt8) : Bool := decide (c.toNat < 9) || c.toNat == 127
def hexN (l : Bs) : Nat := (l.takeWhile hxd).length
def more (l : Bs) : Bs := trim (l.drop (hexN l))
def sizeF (l : Bs) : Option Nat :=
  if hexN l = 0 ∨ 8 < hexN l ∨ (more l ≠ [] ∧ (more l).head? ≠ some 59) ∨ l.any odd = true then none else hxGo 0 (l.take (hexN l))
def SizePost (l : Bs) (w : World) (e : Ending) (w' : World) : Prop :=
  e = .returned (.tuple #[.int .i64 ((sizeF l).getD 0), .bool (sizeF l).isSome]) ∧ Below w.heap.size w w'
theorem takeWhile_len (p : UInt8 → Bool) : ∀ (l : Bs) (k : Nat), k ≤ l.length → (l.take k).all p = true → (∀ c, l[k]? = some c → p c = false) → (l.takeWhile p).length = k
  | [], k, h, _, _ => by have : k = 0 := by simpa using h
                         subst this; rfl
  | a :: r, 0, _, _, h => by
    have := h a rfl
    simp [List.takeWhile_cons, this]
  | a :: r, k + 1, hk, ha, h => by
    simp only [List.take_succ_cons, List.all_cons, Bool.and_eq_true] at ha
    have := takeWhile_len p r k (by simpa using hk) ha.2 (fun c hc => h c (by simpa using hc))
    rw [List.takeWhile_cons, if_pos ha.1, List.length_cons, this]
theorem hxGo_le : ∀ (l : Bs) (n m : Nat), hxGo n l = some m → n ≤ 4294967295 → m ≤ 4294967295
  | [], n, m, h, hn => by simp only [hxGo, Option.some.injEq] at h; omega
  | c :: r, n, m, h, hn => by
    unfold hxGo at h
    split at h
    · cases h
    · exact hxGo_le r _ m h (by omega)
set_option maxRecDepth 100000 in
set_option maxHeartbeats 20000000 in
theorem size_walk (s : ByteArray) (w : World) (hs : s.size ≤ 500000) (he : ErrsAt w) :
    Calls Tryd.prog 45 #[.string s] w (SizePost (bl s) w) := by
  have HE := Lib.hid he
  clear he
  go_enter Tryd.func45, Tryd.ntmps45
  go_wp2
  go_loop [4] (fun v4 => ∃ k : Nat, k ≤ s.size ∧ v4 = .int .i64 k ∧ ((bl s).take k).all hxd = true) (fun v4 => s.size - (intOf v4).toNat)
  case atStart => exact ⟨0, Nat.zero_le _, rfl, by simp⟩
  case round =>
    obtain ⟨k, hk, rfl, hA⟩ := hrel
    have HA := Lib.hid hA
    clear hA
    have hkI : (k : Int) ≤ s.size := by omega
    by_cases hgo : ∃ h : k < s.size, hxd s[k] = true
    · obtain ⟨hlt, hd⟩ := hgo
      have hltI : (k : Int) < s.size := by omega
      have HX := Lib.hid (bl_at s k hlt)
      have hix := (hex_index s[k]).2 hd
      have HD := Lib.hid hd
      clear hd
      go_wp2_with fail
      refine (Tryd.strings_IndexByte hexText (s[k].toNat : Int) w).mono ?_
      rintro e w1 ⟨rfl, rfl⟩
      generalize Lib.indexByte hexText.data.toList ((s[k].toNat : Int).toNat.toUInt8) = ix at hix ⊢
      go_wp2
      go_round
      case rel => exact ⟨k + 1, by omega, by go_num, by rw [all_snoc hxd _ _ _ HX.out, HA.out, HD.out]; rfl⟩
      case measure => simp [intOf]; omega
    · have hN : hexN (bl s) = k := by
        refine takeWhile_len hxd (bl s) k (by rw [bl_length]; exact hk) HA.out (fun c hc => ?_)
        obtain ⟨hl, rfl⟩ := List.getElem?_eq_some_iff.1 hc
        rw [bl_length] at hl
        rw [Bool.eq_false_iff]
        intro h
        exact hgo ⟨hl, by rw [← bl_get s k hl]; exact h⟩
      have HN := Lib.hid hN
      clear hN
      by_cases hlt : k < s.size
      · have hltI : (k : Int) < s.size := by omega
        have hd : ¬ hxd s[k] = true := fun h => hgo ⟨hlt, h⟩
        have hix : ¬ (0 ≤ Lib.indexByte hexText.data.toList ((s[k].toNat : Int).toNat.toUInt8)) := fun h => hd ((hex_index s[k]).1 h)
        clear hgo hd
        go_wp2_with fail
        refine (Tryd.strings_IndexByte hexText (s[k].toNat : Int) w).mono ?_
        rintro e w1 ⟨rfl, rfl⟩
        generalize Lib.indexByte hexText.data.toList ((s[k].toNat : Int).toNat.toUInt8) = ix at hix ⊢
        go_wp2_with fail
        refine (pu_walk (s.extract 0 k) (by rw [bl_extract, List.drop_zero]; exact HA.out) w1 (by rw [ByteArray.size_extract]; omega) HE.out).mono ?_
        rw [show bl (s.extract 0 k) = (bl s).take k by rw [bl_extract, List.drop_zero]]
        rintro e w2 ⟨⟨x, v, rfl, hv⟩, hb2⟩
        generalize hds : (bl s).take k = ds at hv
        have HDS := Lib.hid hds
        clear hds
        go_wp2_with fail
        refine (trim_walk (s.extract k s.size) w2 (by rw [ByteArray.size_extract]; omega)).mono ?_
        rw [show bl (s.extract k s.size) = (bl s).drop k by rw [bl_extract, List.take_of_length_le (Nat.le_of_eq (bl_length s))]]
        rintro e w3 ⟨rfl, hb3⟩
        have hB := Below.trans hb2 (hb3.mono hb2.size)
        generalize hmo : trim ((bl s).drop k) = mo
        have HMO := Lib.hid (show more (bl s) = mo by unfold more; rw [HN.out]; exact hmo)
        clear hmo hb2 hb3
        generalize hmt : sb mo = mt
        have HMT := Lib.hid hmt
        have hmts : mt.size = mo.length := by rw [← hmt, sb_size]
        have hbmt : bl mt = mo := by rw [← hmt, bl_sb]
        have HBM := Lib.hid hbmt
        clear hmt hbmt
        rcases hv with ⟨hv, hwhy⟩ | ⟨rfl, hne, nn, hnn, hxn⟩
        · have hr : sizeF (bl s) = none := by
            unfold sizeF
            split
            · rfl
            · rename_i hc
              rcases hwhy with h | h
              · exfalso
                refine hc (.inl ?_)
                rw [HN.out]
                have := congrArg List.length (HDS.out.trans h)
                rw [List.length_take, bl_length] at this
                have h3 : min k s.size = 0 := this
                omega
              · rw [HN.out, HDS.out]; exact h
          have HR := Lib.hid hr
          obtain ⟨t, p, rfl⟩ := hv
          clear hr hwhy
          go_wp2
          go_ret2
          exact ⟨by rw [HR.out]; rfl, hB⟩
        · subst hxn
          have HNN := Lib.hid hnn
          have HNE := Lib.hid hne
          clear hnn hne
          by_cases hk8 : 8 < k
          · have hr : sizeF (bl s) = none := by unfold sizeF; rw [if_pos (.inr (.inl (by rw [HN.out]; exact hk8)))]
            have HR := Lib.hid hr
            have hk8I : (8 : Int) < k := by omega
            clear hr
            go_wp2
            go_ret2
            exact ⟨by rw [HR.out]; rfl, hB⟩
          · have hk8I : ¬ (8 : Int) < k := by omega
            by_cases hm : mo ≠ [] ∧ mo.head? ≠ some 59
            · have hr : sizeF (bl s) = none := by unfold sizeF; rw [if_pos (.inr (.inr (.inl (by rw [HMO.out]; exact hm))))]
              have HR := Lib.hid hr
              obtain ⟨hm1, hm2⟩ := hm
              have hl : 0 < mt.size := by rw [hmts]; exact List.length_pos_iff.2 hm1
              have hlI : (0 : Int) < mt.size := by omega
              have hnel : ¬ mt.toList = [] := by rw [toList_bl, HBM.out]; exact hm1
              have hnel' : mt.toList.isEmpty = false := List.isEmpty_eq_false_iff.2 hnel
              have hx : mt[0] ≠ 59 := by
                intro e
                refine hm2 ?_
                rw [← HBM.out, List.head?_eq_getElem?, bl_at mt 0 hl, e]
              have h59 : ((mt[0].toNat : Int) == 59) = false := byte_ne (byte_of rfl hx (n := 59) rfl) _ rfl
              have h59' : ((mt[0].toNat : Int) != 59) = true := by unfold bne; rw [h59]; rfl
              clear hr hm1 hm2
              go_wp2
              go_ret2
              exact ⟨by rw [HR.out]; rfl, hB⟩
            · by_cases hm1 : mo = []
              · have hnel : mt.toList = [] := by rw [toList_bl, HBM.out]; exact hm1
                have hnel' : mt.toList.isEmpty = true := by rw [hnel]; rfl
                have HM := Lib.hid hm
                clear hm hm1 hmts
                go_wp2
                go_loopw [50] (fun v50 wr => ∃ j : Nat, j ≤ s.size ∧ v50 = .int .i64 j ∧ ((bl s).take j).any odd = false ∧ wr = w3) (fun v50 _ => s.size - (intOf v50).toNat)
                case atStart => exact ⟨0, Nat.zero_le _, rfl, by simp, rfl⟩
                case round =>
                  obtain ⟨j, hj, rfl, hO, rfl⟩ := hrel
                  have HO := Lib.hid hO
                  clear hO
                  by_cases hjl : j < s.size
                  · have hjI : (j : Int) < s.size := by omega
                    have HX := Lib.hid (bl_at s j hjl)
                    have hx256 := u8_lt s[j]
                    by_cases hodd : odd s[j] = true
                    · have hr : sizeF (bl s) = none := by
                        unfold sizeF
                        rw [if_pos (.inr (.inr (.inr (List.any_eq_true.2 ⟨s[j], List.mem_of_getElem? HX.out, hodd⟩))))]
                      have HR := Lib.hid hr
                      have hc : s[j].toNat < 9 ∨ (9 ≤ s[j].toNat ∧ s[j].toNat = 127) := by
                        unfold odd at hodd
                        simp only [Bool.or_eq_true, decide_eq_true_eq, beq_iff_eq] at hodd
                        omega
                      clear hr hodd
                      rcases hc with h9 | ⟨h9, h127⟩
                      · have h9I : (s[j].toNat : Int) < 9 := by omega
                        go_wp2
                        go_ret2
                        exact ⟨by rw [HR.out]; rfl, hB⟩
                      · have h9I : ¬ (s[j].toNat : Int) < 9 := by omega
                        have e127 : ((s[j].toNat : Int) == 127) = true := by rw [h127]; rfl
                        clear h127
                        go_wp2
                        go_ret2
                        exact ⟨by rw [HR.out]; rfl, hB⟩
                    · have hc : 9 ≤ s[j].toNat ∧ s[j].toNat ≠ 127 := by
                        unfold odd at hodd
                        simp only [Bool.or_eq_true, decide_eq_true_eq, beq_iff_eq] at hodd
                        omega
                      obtain ⟨h9, h127⟩ := hc
                      have HODD := Lib.hid hodd
                      have h9I : ¬ (s[j].toNat : Int) < 9 := by omega
                      have e127 : ((s[j].toNat : Int) == 127) = false := by simp; omega
                      clear h127 hodd
                      go_wp2
                      go_roundw
                      case rel =>
                        refine ⟨j + 1, by omega, by go_num, ?_, trivial⟩
                        obtain ⟨hl, he⟩ := List.getElem?_eq_some_iff.1 HX.out
                        rw [List.take_succ_eq_append_getElem hl, List.any_append, HO.out, he]
                        simp [HODD.out]
                      case measure => simp [intOf]; omega
                  · obtain rfl : j = s.size := by omega
                    have e0 : (bl s).take s.size = bl s := by rw [← bl_length, List.take_length]
                    have hr : sizeF (bl s) = some nn := by
                      unfold sizeF
                      rw [if_neg, HN.out, HDS.out]
                      · exact HNN.out
                      · rintro (h | h | h | h)
                        · refine HNE.out ?_
                          rw [← HDS.out, ← HN.out, h]; rfl
                        · rw [HN.out] at h; omega
                        · exact HM.out (by rw [← HMO.out]; exact h)
                        · have := HO.out
                          rw [e0] at this
                          rw [this] at h; cases h
                    have HR := Lib.hid hr
                    have hnb := hxGo_le _ _ _ HNN.out (by omega)
                    clear hr e0
                    go_wp2
                    go_ret2
                    exact ⟨by rw [HR.out]; rfl, hB⟩
              · have hnel : ¬ mt.toList = [] := by rw [toList_bl, HBM.out]; exact hm1
                have hnel' : mt.toList.isEmpty = false := List.isEmpty_eq_false_iff.2 hnel
                have HM := Lib.hid hm
                have hl : 0 < mt.size := by rw [hmts]; exact List.length_pos_iff.2 hm1
                have hlI : (0 : Int) < mt.size := by omega
                have hx : mt[0] = 59 := by
                  have h2 : mo.head? = some 59 := Classical.byContradiction fun h => hm ⟨hm1, h⟩
                  rw [← HBM.out, List.head?_eq_getElem?, bl_at mt 0 hl] at h2
                  exact Option.some.inj h2
                have h59 : ((mt[0].toNat : Int) == 59) = true := by rw [hx]; rfl
                have h59' : ((mt[0].toNat : Int) != 59) = false := by unfold bne; rw [h59]; rfl
                clear hm hm1 hmts hx
                go_wp2
                go_loopw [50] (fun v50 wr => ∃ j : Nat, j ≤ s.size ∧ v50 = .int .i64 j ∧ ((bl s).take j).any odd = false ∧ wr = w3) (fun v50 _ => s.size - (intOf v50).toNat)
                case atStart => exact ⟨0, Nat.zero_le _, rfl, by simp, rfl⟩
                case round =>
                  obtain ⟨j, hj, rfl, hO, rfl⟩ := hrel
                  have HO := Lib.hid hO
                  clear hO
                  by_cases hjl : j < s.size
                  · have hjI : (j : Int) < s.size := by omega
                    have HX := Lib.hid (bl_at s j hjl)
                    have hx256 := u8_lt s[j]
                    by_cases hodd : odd s[j] = true
                    · have hr : sizeF (bl s) = none := by
                        unfold sizeF
                        rw [if_pos (.inr (.inr (.inr (List.any_eq_true.2 ⟨s[j], List.mem_of_getElem? HX.out, hodd⟩))))]
                      have HR := Lib.hid hr
                      have hc : s[j].toNat < 9 ∨ (9 ≤ s[j].toNat ∧ s[j].toNat = 127) := by
                        unfold odd at hodd
                        simp only [Bool.or_eq_true, decide_eq_true_eq, beq_iff_eq] at hodd
                        omega
                      clear hr hodd
                      rcases hc with h9 | ⟨h9, h127⟩
                      · have h9I : (s[j].toNat : Int) < 9 := by omega
                        go_wp2
                        go_ret2
                        exact ⟨by rw [HR.out]; rfl, hB⟩
                      · have h9I : ¬ (s[j].toNat : Int) < 9 := by omega
                        have e127 : ((s[j].toNat : Int) == 127) = true := by rw [h127]; rfl
                        clear h127
                        go_wp2
                        go_ret2
                        exact ⟨by rw [HR.out]; rfl, hB⟩
                    · have hc : 9 ≤ s[j].toNat ∧ s[j].toNat ≠ 127 := by
                        unfold odd at hodd
                        simp only [Bool.or_eq_true, decide_eq_true_eq, beq_iff_eq] at hodd
                        omega
                      obtain ⟨h9, h127⟩ := hc
                      have HODD := Lib.hid hodd
                      have h9I : ¬ (s[j].toNat : Int) < 9 := by omega
                      have e127 : ((s[j].toNat : Int) == 127) = false := by simp; omega
                      clear h127 hodd
                      go_wp2
                      go_roundw
                      case rel =>
                        refine ⟨j + 1, by omega, by go_num, ?_, trivial⟩
                        obtain ⟨hl, he⟩ := List.getElem?_eq_some_iff.1 HX.out
                        rw [List.take_succ_eq_append_getElem hl, List.any_append, HO.out, he]
                        simp [HODD.out]
                      case measure => simp [intOf]; omega
                  · obtain rfl : j = s.size := by omega
                    have e0 : (bl s).take s.size = bl s := by rw [← bl_length, List.take_length]
                    have hr : sizeF (bl s) = some nn := by
                      unfold sizeF
                      rw [if_neg, HN.out, HDS.out]
                      · exact HNN.out
                      · rintro (h | h | h | h)
                        · refine HNE.out ?_
                          rw [← HDS.out, ← HN.out, h]; rfl
                        · rw [HN.out] at h; omega
                        · exact HM.out (by rw [← HMO.out]; exact h)
                        · have := HO.out
                          rw [e0] at this
                          rw [this] at h; cases h
                    have HR := Lib.hid hr
                    have hnb := hxGo_le _ _ _ HNN.out (by omega)
                    clear hr e0
                    go_wp2
                    go_ret2
                    exact ⟨by rw [HR.out]; rfl, hB⟩
      · have hks : k = s.size := by omega
        have hltI : ¬ (k : Int) < s.size := by omega
        clear hgo hks
        go_wp2_with fail
        refine (pu_walk (s.extract 0 k) (by rw [bl_extract, List.drop_zero]; exact HA.out) w (by rw [ByteArray.size_extract]; omega) HE.out).mono ?_
        rw [show bl (s.extract 0 k) = (bl s).take k by rw [bl_extract, List.drop_zero]]
        rintro e w2 ⟨⟨x, v, rfl, hv⟩, hb2⟩
        generalize hds : (bl s).take k = ds at hv
        have HDS := Lib.hid hds
        clear hds
        go_wp2_with fail
        refine (trim_walk (s.extract k s.size) w2 (by rw [ByteArray.size_extract]; omega)).mono ?_
        rw [show bl (s.extract k s.size) = (bl s).drop k by rw [bl_extract, List.take_of_length_le (Nat.le_of_eq (bl_length s))]]
        rintro e w3 ⟨rfl, hb3⟩
        have hB := Below.trans hb2 (hb3.mono hb2.size)
        generalize hmo : trim ((bl s).drop k) = mo
        have HMO := Lib.hid (show more (bl s) = mo by unfold more; rw [HN.out]; exact hmo)
        clear hmo hb2 hb3
        generalize hmt : sb mo = mt
        have HMT := Lib.hid hmt
        have hmts : mt.size = mo.length := by rw [← hmt, sb_size]
        have hbmt : bl mt = mo := by rw [← hmt, bl_sb]
        have HBM := Lib.hid hbmt
        clear hmt hbmt
        rcases hv with ⟨hv, hwhy⟩ | ⟨rfl, hne, nn, hnn, hxn⟩
        · have hr : sizeF (bl s) = none := by
            unfold sizeF
            split
            · rfl
            · rename_i hc
              rcases hwhy with h | h
              · exfalso
                refine hc (.inl ?_)
                rw [HN.out]
                have := congrArg List.length (HDS.out.trans h)
                rw [List.length_take, bl_length] at this
                have h3 : min k s.size = 0 := this
                omega
              · rw [HN.out, HDS.out]; exact h
          have HR := Lib.hid hr
          obtain ⟨t, p, rfl⟩ := hv
          clear hr hwhy
          go_wp2
          go_ret2
          exact ⟨by rw [HR.out]; rfl, hB⟩
        · subst hxn
          have HNN := Lib.hid hnn
          have HNE := Lib.hid hne
          clear hnn hne
          by_cases hk8 : 8 < k
          · have hr : sizeF (bl s) = none := by unfold sizeF; rw [if_pos (.inr (.inl (by rw [HN.out]; exact hk8)))]
            have HR := Lib.hid hr
            have hk8I : (8 : Int) < k := by omega
            clear hr
            go_wp2
            go_ret2
            exact ⟨by rw [HR.out]; rfl, hB⟩
          · have hk8I : ¬ (8 : Int) < k := by omega
            by_cases hm : mo ≠ [] ∧ mo.head? ≠ some 59
            · have hr : sizeF (bl s) = none := by unfold sizeF; rw [if_pos (.inr (.inr (.inl (by rw [HMO.out]; exact hm))))]
              have HR := Lib.hid hr
              obtain ⟨hm1, hm2⟩ := hm
              have hl : 0 < mt.size := by rw [hmts]; exact List.length_pos_iff.2 hm1
              have hlI : (0 : Int) < mt.size := by omega
              have hnel : ¬ mt.toList = [] := by rw [toList_bl, HBM.out]; exact hm1
              have hnel' : mt.toList.isEmpty = false := List.isEmpty_eq_false_iff.2 hnel
              have hx : mt[0] ≠ 59 := by
                intro e
                refine hm2 ?_
                rw [← HBM.out, List.head?_eq_getElem?, bl_at mt 0 hl, e]
              have h59 : ((mt[0].toNat : Int) == 59) = false := byte_ne (byte_of rfl hx (n := 59) rfl) _ rfl
              have h59' : ((mt[0].toNat : Int) != 59) = true := by unfold bne; rw [h59]; rfl
              clear hr hm1 hm2
              go_wp2
              go_ret2
              exact ⟨by rw [HR.out]; rfl, hB⟩
            · by_cases hm1 : mo = []
              · have hnel : mt.toList = [] := by rw [toList_bl, HBM.out]; exact hm1
                have hnel' : mt.toList.isEmpty = true := by rw [hnel]; rfl
                have HM := Lib.hid hm
                clear hm hm1 hmts
                go_wp2
                go_loopw [50] (fun v50 wr => ∃ j : Nat, j ≤ s.size ∧ v50 = .int .i64 j ∧ ((bl s).take j).any odd = false ∧ wr = w3) (fun v50 _ => s.size - (intOf v50).toNat)
                case atStart => exact ⟨0, Nat.zero_le _, rfl, by simp, rfl⟩
                case round =>
                  obtain ⟨j, hj, rfl, hO, rfl⟩ := hrel
                  have HO := Lib.hid hO
                  clear hO
                  by_cases hjl : j < s.size
                  · have hjI : (j : Int) < s.size := by omega
                    have HX := Lib.hid (bl_at s j hjl)
                    have hx256 := u8_lt s[j]
                    by_cases hodd : odd s[j] = true
                    · have hr : sizeF (bl s) = none := by
                        unfold sizeF
                        rw [if_pos (.inr (.inr (.inr (List.any_eq_true.2 ⟨s[j], List.mem_of_getElem? HX.out, hodd⟩))))]
                      have HR := Lib.hid hr
                      have hc : s[j].toNat < 9 ∨ (9 ≤ s[j].toNat ∧ s[j].toNat = 127) := by
                        unfold odd at hodd
                        simp only [Bool.or_eq_true, decide_eq_true_eq, beq_iff_eq] at hodd
                        omega
                      clear hr hodd
                      rcases hc with h9 | ⟨h9, h127⟩
                      · have h9I : (s[j].toNat : Int) < 9 := by omega
                        go_wp2
                        go_ret2
                        exact ⟨by rw [HR.out]; rfl, hB⟩
                      · have h9I : ¬ (s[j].toNat : Int) < 9 := by omega
                        have e127 : ((s[j].toNat : Int) == 127) = true := by rw [h127]; rfl
                        clear h127
                        go_wp2
                        go_ret2
                        exact ⟨by rw [HR.out]; rfl, hB⟩
                    · have hc : 9 ≤ s[j].toNat ∧ s[j].toNat ≠ 127 := by
                        unfold odd at hodd
                        simp only [Bool.or_eq_true, decide_eq_true_eq, beq_iff_eq] at hodd
                        omega
                      obtain ⟨h9, h127⟩ := hc
                      have HODD := Lib.hid hodd
                      have h9I : ¬ (s[j].toNat : Int) < 9 := by omega
                      have e127 : ((s[j].toNat : Int) == 127) = false := by simp; omega
                      clear h127 hodd
                      go_wp2
                      go_roundw
                      case rel =>
                        refine ⟨j + 1, by omega, by go_num, ?_, trivial⟩
                        obtain ⟨hl, he⟩ := List.getElem?_eq_some_iff.1 HX.out
                        rw [List.take_succ_eq_append_getElem hl, List.any_append, HO.out, he]
                        simp [HODD.out]
                      case measure => simp [intOf]; omega
                  · obtain rfl : j = s.size := by omega
                    have e0 : (bl s).take s.size = bl s := by rw [← bl_length, List.take_length]
                    have hr : sizeF (bl s) = some nn := by
                      unfold sizeF
                      rw [if_neg, HN.out, HDS.out]
                      · exact HNN.out
                      · rintro (h | h | h | h)
                        · refine HNE.out ?_
                          rw [← HDS.out, ← HN.out, h]; rfl
                        · rw [HN.out] at h; omega
                        · exact HM.out (by rw [← HMO.out]; exact h)
                        · have := HO.out
                          rw [e0] at this
                          rw [this] at h; cases h
                    have HR := Lib.hid hr
                    have hnb := hxGo_le _ _ _ HNN.out (by omega)
                    clear hr e0
                    go_wp2
                    go_ret2
                    exact ⟨by rw [HR.out]; rfl, hB⟩
              · have hnel : ¬ mt.toList = [] := by rw [toList_bl, HBM.out]; exact hm1
                have hnel' : mt.toList.isEmpty = false := List.isEmpty_eq_false_iff.2 hnel
                have HM := Lib.hid hm
                have hl : 0 < mt.size := by rw [hmts]; exact List.length_pos_iff.2 hm1
                have hlI : (0 : Int) < mt.size := by omega
                have hx : mt[0] = 59 := by
                  have h2 : mo.head? = some 59 := Classical.byContradiction fun h => hm ⟨hm1, h⟩
                  rw [← HBM.out, List.head?_eq_getElem?, bl_at mt 0 hl] at h2
                  exact Option.some.inj h2
                have h59 : ((mt[0].toNat : Int) == 59) = true := by rw [hx]; rfl
                have h59' : ((mt[0].toNat : Int) != 59) = false := by unfold bne; rw [h59]; rfl
                clear hm hm1 hmts hx
                go_wp2
                go_loopw [50] (fun v50 wr => ∃ j : Nat, j ≤ s.size ∧ v50 = .int .i64 j ∧ ((bl s).take j).any odd = false ∧ wr = w3) (fun v50 _ => s.size - (intOf v50).toNat)
                case atStart => exact ⟨0, Nat.zero_le _, rfl, by simp, rfl⟩
                case round =>
                  obtain ⟨j, hj, rfl, hO, rfl⟩ := hrel
                  have HO := Lib.hid hO
                  clear hO
                  by_cases hjl : j < s.size
                  · have hjI : (j : Int) < s.size := by omega
                    have HX := Lib.hid (bl_at s j hjl)
                    have hx256 := u8_lt s[j]
                    by_cases hodd : odd s[j] = true
                    · have hr : sizeF (bl s) = none := by
                        unfold sizeF
                        rw [if_pos (.inr (.inr (.inr (List.any_eq_true.2 ⟨s[j], List.mem_of_getElem? HX.out, hodd⟩))))]
                      have HR := Lib.hid hr
                      have hc : s[j].toNat < 9 ∨ (9 ≤ s[j].toNat ∧ s[j].toNat = 127) := by
                        unfold odd at hodd
                        simp only [Bool.or_eq_true, decide_eq_true_eq, beq_iff_eq] at hodd
                        omega
                      clear hr hodd
                      rcases hc with h9 | ⟨h9, h127⟩
                      · have h9I : (s[j].toNat : Int) < 9 := by omega
                        go_wp2
                        go_ret2
                        exact ⟨by rw [HR.out]; rfl, hB⟩
                      · have h9I : ¬ (s[j].toNat : Int) < 9 := by omega
                        have e127 : ((s[j].toNat : Int) == 127) = true := by rw [h127]; rfl
                        clear h127
                        go_wp2
                        go_ret2
                        exact ⟨by rw [HR.out]; rfl, hB⟩
                    · have hc : 9 ≤ s[j].toNat ∧ s[j].toNat ≠ 127 := by
                        unfold odd at hodd
                        simp only [Bool.or_eq_true, decide_eq_true_eq, beq_iff_eq] at hodd
                        omega
                      obtain ⟨h9, h127⟩ := hc
                      have HODD := Lib.hid hodd
                      have h9I : ¬ (s[j].toNat : Int) < 9 := by omega
                      have e127 : ((s[j].toNat : Int) == 127) = false := by simp; omega
                      clear h127 hodd
                      go_wp2
                      go_roundw
                      case rel =>
                        refine ⟨j + 1, by omega, by go_num, ?_, trivial⟩
                        obtain ⟨hl, he⟩ := List.getElem?_eq_some_iff.1 HX.out
                        rw [List.take_succ_eq_append_getElem hl, List.any_append, HO.out, he]
                        simp [HODD.out]
                      case measure => simp [intOf]; omega
                  · obtain rfl : j = s.size := by omega
                    have e0 : (bl s).take s.size = bl s := by rw [← bl_length, List.take_length]
                    have hr : sizeF (bl s) = some nn := by
                      unfold sizeF
                      rw [if_neg, HN.out, HDS.out]
                      · exact HNN.out
                      · rintro (h | h | h | h)
                        · refine HNE.out ?_
                          rw [← HDS.out, ← HN.out, h]; rfl
                        · rw [HN.out] at h; omega
                        · exact HM.out (by rw [← HMO.out]; exact h)
                        · have := HO.out
                          rw [e0] at this
                          rw [this] at h; cases h
                    have HR := Lib.hid hr
                    have hnb := hxGo_le _ _ _ HNN.out (by omega)
                    clear hr e0
                    go_wp2
                    go_ret2
                    exact ⟨by rw [HR.out]; rfl, hB⟩
end Go.Proofs.YtkfiafclddnaoaaDoor.Tk
