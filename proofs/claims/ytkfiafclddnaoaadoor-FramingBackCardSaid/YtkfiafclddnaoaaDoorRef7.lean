/- The reference's chunk line: hex, size. -/
import Derived.Test.YtkfiafclddnaoaaDoorRef2
import Derived.Test.YtkfiafclddnaoaaDoorSize
set_option linter.unusedVariables false
set_option linter.unusedSimpArgs false
namespace Go.Proofs.YtkfiafclddnaoaaDoor.Tk
open Go.RowKit Go.Proofs.YtkfiafclddnaoaaDoorW.PrintWords Go.Proofs.YtkfiafclddnaoaaDoorW.PrintLast Go.Proofs.YtkfiafclddnaoaaDoor.Rw

def hexI (c : UInt8) : Int := if hxd c = true then hxv c else -1
theorem rhex_walk (c : UInt8) (w : World) : Calls Tryd.prog 71 #[.int .u8 (c.toNat : Int)] w fun e w' => e = .returned (.int .i64 (hexI c)) ∧ w = w' := by
  have hc256 := u8_lt c
  have hd : hexI c = if 48 ≤ c.toNat ∧ c.toNat ≤ 57 then (c.toNat : Int) - 48 else if 97 ≤ c.toNat ∧ c.toNat ≤ 102 then (c.toNat : Int) - 87 else if 65 ≤ c.toNat ∧ c.toNat ≤ 70 then (c.toNat : Int) - 55 else -1 := by
    have key : ∀ n : Fin 256, hexI (UInt8.ofNat n.1) = if 48 ≤ n.1 ∧ n.1 ≤ 57 then (n.1 : Int) - 48 else if 97 ≤ n.1 ∧ n.1 ≤ 102 then (n.1 : Int) - 87 else if 65 ≤ n.1 ∧ n.1 ≤ 70 then (n.1 : Int) - 55 else -1 := by decide +kernel
    have := key ⟨c.toNat, u8_lt c⟩
    simpa only [UInt8.ofNat_toNat] using this
  generalize hexI c = z at hd ⊢
  generalize c.toNat = x at hd hc256
  rcases (show (48 ≤ x ∧ x ≤ 57) ∨ (97 ≤ x ∧ x ≤ 102) ∨ (65 ≤ x ∧ x ≤ 70) ∨ x < 48 ∨ (57 < x ∧ x < 65) ∨ (70 < x ∧ x < 97) ∨ 102 < x by omega) with ⟨h1, h2⟩ | ⟨h1, h2⟩ | ⟨h1, h2⟩ | h1 | ⟨h1, h2⟩ | ⟨h1, h2⟩ | h1
  · have hz : z = (x : Int) - 48 := by rw [hd, if_pos ⟨h1, h2⟩]
    have hw : IntKind.u8.wrap ((x : Int) - 48) = (x : Int) - 48 := by rw [IntKind.wrap_u8]; omega
    have HZ := Lib.hid hz
    clear hd hz
    go_enter Tryd.func71, Tryd.ntmps71
    go_wp2
    go_ret
    exact ⟨by rw [HZ.out]; rfl, rfl⟩
  · have hz : z = (x : Int) - 97 + 10 := by rw [hd, if_neg (by omega), if_pos ⟨h1, h2⟩]; omega
    have hw : IntKind.u8.wrap ((x : Int) - 97) = (x : Int) - 97 := by rw [IntKind.wrap_u8]; omega
    have HZ := Lib.hid hz
    clear hd hz
    go_enter Tryd.func71, Tryd.ntmps71
    go_wp2
    go_ret
    exact ⟨by rw [HZ.out]; rfl, rfl⟩
  · have hz : z = (x : Int) - 65 + 10 := by rw [hd, if_neg (by omega), if_neg (by omega), if_pos ⟨h1, h2⟩]; omega
    have hw : IntKind.u8.wrap ((x : Int) - 65) = (x : Int) - 65 := by rw [IntKind.wrap_u8]; omega
    have HZ := Lib.hid hz
    clear hd hz
    go_enter Tryd.func71, Tryd.ntmps71
    go_wp2
    go_ret
    exact ⟨by rw [HZ.out]; rfl, rfl⟩
  all_goals
    have hz : z = -1 := by rw [hd, if_neg (by omega), if_neg (by omega), if_neg (by omega)]
    have HZ := Lib.hid hz
    clear hd hz
    go_enter Tryd.func71, Tryd.ntmps71
    go_wp2
    go_ret
    exact ⟨by rw [HZ.out]; rfl, rfl⟩

theorem pow16_pos : ∀ n : Nat, 0 < 16 ^ n
  | 0 => by decide
  | n + 1 => by have := pow16_pos n; rw [Nat.pow_succ]; omega
theorem drop_all (p : UInt8 → Bool) : ∀ l : Bs, l.dropWhile p = [] → ∀ c ∈ l, p c = true
  | [], _, c, h => by cases h
  | a :: r, h, c, hc => by
    rw [List.dropWhile_cons] at h
    split at h
    · rename_i ha
      rcases List.mem_cons.1 hc with rfl | hc
      · exact ha
      · exact drop_all p r h c hc
    · cases h
theorem take_all (p : UInt8 → Bool) : ∀ l : Bs, ∀ c ∈ l.takeWhile p, p c = true
  | [], c, h => by cases h
  | a :: r, c, hc => by
    rw [List.takeWhile_cons] at hc
    split at hc
    · rename_i ha
      rcases List.mem_cons.1 hc with rfl | hc
      · exact ha
      · exact take_all p r c hc
    · cases hc
def hv (n : Nat) (l : Bs) : Nat := l.foldl (fun a c => 16 * a + hxv c) n
theorem hv_snoc (n : Nat) (l : Bs) (c : UInt8) : hv n (l ++ [c]) = 16 * hv n l + hxv c := by simp [hv, List.foldl_append]
theorem hv_go : ∀ (l : Bs) (n : Nat), l.all hxd = true → (n + 1) * 16 ^ l.length ≤ 4294967296 → hxGo n l = some (hv n l) ∧ hv n l < (n + 1) * 16 ^ l.length
  | [], n, _, _ => ⟨rfl, by simp [hv]⟩
  | c :: r, n, ha, hb => by
    simp only [List.all_cons, Bool.and_eq_true] at ha
    have hd := hxv_lt c ha.1
    rw [List.length_cons, Nat.pow_succ, Nat.mul_comm (16 ^ r.length) 16, ← Nat.mul_assoc] at hb ⊢
    have h1 : (16 * n + hxv c + 1) * 16 ^ r.length ≤ (n + 1) * 16 * 16 ^ r.length := Nat.mul_le_mul_right _ (by omega)
    have h2 : (n + 1) * 16 * 1 ≤ (n + 1) * 16 * 16 ^ r.length := Nat.mul_le_mul_left _ (pow16_pos r.length)
    obtain ⟨h3, h4⟩ := hv_go r (16 * n + hxv c) ha.2 (by omega)
    refine ⟨?_, ?_⟩
    · unfold hxGo
      rw [if_neg (by omega), h3]
      rfl
    · exact Nat.lt_of_lt_of_le h4 h1
def sizeI (l : Bs) : Int := match sizeF l with | some n => n | none => -1
theorem odd_hx (c : UInt8) (h : hxd c = true) : odd c = false := by
  have key : ∀ n : Fin 256, hxd (UInt8.ofNat n.1) = true → odd (UInt8.ofNat n.1) = false := by decide +kernel
  have := key ⟨c.toNat, u8_lt c⟩
  simp only [UInt8.ofNat_toNat] at this
  exact this h
theorem odd_blk (c : UInt8) (h : blk c = true) : odd c = false := by
  have key : ∀ n : Fin 256, blk (UInt8.ofNat n.1) = true → odd (UInt8.ofNat n.1) = false := by decide +kernel
  have := key ⟨c.toNat, u8_lt c⟩
  simp only [UInt8.ofNat_toNat] at this
  exact this h
theorem trim_blank (l : Bs) (h : trim l = []) : ∀ c ∈ l, blk c = true := by
  have h2 : ∀ l : Bs, tr l = [] → ∀ c ∈ l, blk c = true := by
    intro l hl
    unfold tr at hl
    have : l.reverse.dropWhile blk = [] := by simpa using hl
    intro c hc
    exact drop_all blk _ this c (by simpa using hc)
  rw [trim_eq] at h
  have h3 := h2 (tl l) h
  intro c hc
  have hs := List.takeWhile_append_dropWhile (p := blk) (l := l)
  rw [← hs] at hc
  rcases List.mem_append.1 hc with hc | hc
  · exact take_all blk _ c hc
  · exact h3 c hc
/-- What size comes to, by where it stands. -/
theorem size_cases {l : Bs} {k : Nat} (hk : k ≤ l.length) (hA : (l.take k).all hxd = true) (hstop : ∀ c, l[k]? = some c → hxd c = false) (h8 : k ≤ 8) :
    hexN l = k ∧ (k = 0 → sizeF l = none) ∧ (0 < k → more l = [] → sizeF l = some (hv 0 (l.take k))) ∧ (more l ≠ [] → (more l).head? ≠ some 59 → sizeF l = none) ∧
      (l.any odd = true → sizeF l = none) ∧ (0 < k → (more l).head? = some 59 → (l.drop k).any odd = false → sizeF l = some (hv 0 (l.take k))) := by
  have hN : hexN l = k := takeWhile_len hxd l k hk hA hstop
  have hlt : (l.take k).length = k := by rw [List.length_take]; omega
  have hgo := (hv_go (l.take k) 0 hA (by
    rw [hlt, Nat.zero_add, Nat.one_mul]
    exact Nat.le_trans (Nat.pow_le_pow_right (by omega) h8) (by decide))).1
  have hno : (l.drop k).any odd = false → l.any odd = false := fun h => by
    rw [← List.take_append_drop k l, List.any_append, h, Bool.or_false]
    rw [Bool.eq_false_iff]
    intro hc
    obtain ⟨c, hc1, hc2⟩ := List.any_eq_true.1 hc
    rw [odd_hx c (List.all_eq_true.1 hA c hc1)] at hc2
    cases hc2
  have hbl : more l = [] → (l.drop k).any odd = false := fun h => by
    unfold more at h
    rw [hN] at h
    rw [Bool.eq_false_iff]
    intro hc
    obtain ⟨c, hc1, hc2⟩ := List.any_eq_true.1 hc
    rw [odd_blk c (trim_blank _ h c hc1)] at hc2
    cases hc2
  refine ⟨hN, fun h0 => ?_, fun h0 hm => ?_, fun h1 h2 => ?_, fun h => ?_, fun h0 h1 h2 => ?_⟩
  · unfold sizeF
    rw [if_pos (.inl (by omega))]
  · unfold sizeF
    rw [if_neg, hN, hgo]
    rintro (h | h | h | h)
    · omega
    · omega
    · exact h.1 hm
    · rw [hno (hbl hm)] at h; cases h
  · unfold sizeF
    rw [if_pos (.inr (.inr (.inl ⟨h1, h2⟩)))]
  · unfold sizeF
    rw [if_pos (.inr (.inr (.inr h)))]
  · unfold sizeF
    rw [if_neg, hN, hgo]
    rintro (h | h | h | h)
    · omega
    · omega
    · exact h.2 h1
    · rw [hno h2] at h; cases h
theorem size_long {l : Bs} (hA : (l.take 9).all hxd = true) (h9 : 9 ≤ l.length) : sizeF l = none := by
  have : 9 ≤ hexN l := by
    unfold hexN
    have hs : l = l.take 9 ++ l.drop 9 := (List.take_append_drop 9 l).symm
    rw [hs, List.takeWhile_append_of_pos (fun c hc => List.all_eq_true.1 hA c hc), List.length_append, List.length_take]
    omega
  unfold sizeF
  rw [if_pos (.inr (.inl (by omega)))]
set_option maxRecDepth 100000 in
set_option maxHeartbeats 2000000 in
theorem rsize_walk (s : ByteArray) (w : World) (hs : s.size ≤ 500000) :
    Calls Tryd.prog 48 #[.string s] w fun e w' => e = .returned (.int .i64 (sizeI (bl s))) ∧ w = w' := by
  go_enter Tryd.func48, Tryd.ntmps48
  go_wp2
  go_loop [3, 4] (fun v3 v4 => ∃ k : Nat, k ≤ s.size ∧ k ≤ 8 ∧ v4 = .int .i64 k ∧ v3 = .int .i64 (hv 0 ((bl s).take k)) ∧ ((bl s).take k).all hxd = true) (fun _ v4 => s.size - (intOf v4).toNat)
  case atStart => exact ⟨0, Nat.zero_le _, by omega, rfl, rfl, by simp⟩
  case round =>
    obtain ⟨k, hk, hk8, rfl, rfl, hA⟩ := hrel
    have hlt8 : ((bl s).take k).length ≤ k := List.length_take_le _ _
    have hvb : hv 0 ((bl s).take k) < 4294967296 := by
      have h1 : 16 ^ ((bl s).take k).length ≤ 16 ^ 8 := Nat.pow_le_pow_right (by omega) (by omega)
      have h2 : (16 : Nat) ^ 8 = 4294967296 := by decide
      have := (hv_go ((bl s).take k) 0 hA (by omega)).2
      omega
    have HA := Lib.hid hA
    clear hA hlt8
    by_cases hgo : ∃ h : k < s.size, hxd s[k] = true
    · obtain ⟨hlt, hd⟩ := hgo
      have hltI : (k : Int) < s.size := by omega
      have HX := Lib.hid (bl_at s k hlt)
      have hd16 := hxv_lt _ hd
      have hI : hexI s[k] = hxv s[k] := if_pos hd
      have HD := Lib.hid hd
      by_cases h8 : k = 8
      · have hr : sizeI (bl s) = -1 := by
          unfold sizeI
          rw [size_long (by rw [show 9 = k + 1 by omega, all_snoc hxd _ _ _ HX.out, HA.out, HD.out]; rfl) (by rw [bl_length]; omega)]
        have HR := Lib.hid hr
        have hq : ((k : Int) == 8) = true := by rw [h8]; rfl
        clear hr h8 hd
        go_wp2_with fail
        refine (rhex_walk s[k] w).mono ?_
        rw [hI]
        generalize hxv s[k] = d at hd16
        clear hI
        rintro e w1 ⟨rfl, rfl⟩
        go_wp2
        go_ret
        exact ⟨by rw [HR.out]; rfl, rfl⟩
      · have hq : ((k : Int) == 8) = false := by simp; omega
        have hsn : hv 0 ((bl s).take (k + 1)) = 16 * hv 0 ((bl s).take k) + hxv s[k] := by
          obtain ⟨hl, he⟩ := List.getElem?_eq_some_iff.1 HX.out
          rw [List.take_succ_eq_append_getElem hl, hv_snoc, he]
        have HSN := Lib.hid hsn
        have h8' : k + 1 ≤ 8 := by omega
        clear h8 hd hsn
        go_wp2_with fail
        refine (rhex_walk s[k] w).mono ?_
        rw [hI]
        generalize hxv s[k] = d at hd16 HSN hI ⊢
        generalize hv 0 ((bl s).take k) = V at hvb HSN ⊢
        rintro e w1 ⟨rfl, rfl⟩
        have hIH := Lib.hid hI
        clear hI
        go_wp2_with fail
        refine (rhex_walk s[k] w).mono ?_
        rw [hIH.out]
        rintro e w1 ⟨rfl, rfl⟩
        have hvI : (V : Int) < 4294967296 := by omega
        go_wp2
        go_round
        case rel => exact ⟨k + 1, by omega, h8', by go_num, by rw [HSN.out]; go_num, by rw [all_snoc hxd _ _ _ HX.out, HA.out, HD.out]; rfl⟩
        case measure => simp [intOf]; omega
    · obtain ⟨hN, c1, c2, c3, c4, c5⟩ := size_cases (l := bl s) (by rw [bl_length]; exact hk) HA.out (fun c hc => by
        obtain ⟨hl, rfl⟩ := List.getElem?_eq_some_iff.1 hc
        rw [bl_length] at hl
        rw [Bool.eq_false_iff]
        intro h
        exact hgo ⟨hl, by rw [← bl_get s k hl]; exact h⟩) hk8
      have hmo : more (bl s) = trim ((bl s).drop k) := by unfold more; rw [hN]
      generalize hv 0 ((bl s).take k) = V at hvb c2 c5 ⊢
      have C1 := Lib.hid c1
      have C2 := Lib.hid c2
      have C3 := Lib.hid c3
      have C4 := Lib.hid c4
      have C5 := Lib.hid c5
      have HMO := Lib.hid hmo
      clear c1 c2 c3 c4 c5 hmo hN
      have hway : (∃ h : k < s.size, hexI s[k] = -1) ∨ ¬ (k : Int) < s.size := by
        by_cases h : k < s.size
        · exact .inl ⟨h, if_neg fun h2 => hgo ⟨h, h2⟩⟩
        · exact .inr (by omega)
      clear hgo
      by_cases h0 : k = 0
      · have HR := Lib.hid (show sizeI (bl s) = -1 by unfold sizeI; rw [C1.out h0])
        have hq0 : ((k : Int) == 0) = true := by rw [h0]; rfl
        clear h0
        rcases hway with ⟨hlt, hI⟩ | hlt
        · have hltI : (k : Int) < s.size := by omega
          have HI := Lib.hid hI
          clear hI
          go_wp2_with fail
          refine (rhex_walk s[k] w).mono ?_
          rw [HI.out]
          rintro e w1 ⟨rfl, rfl⟩
          go_wp2
          go_ret
          exact ⟨by rw [HR.out]; rfl, rfl⟩
        · go_wp2
          go_ret
          exact ⟨by rw [HR.out]; rfl, rfl⟩
      · have hq0 : ((k : Int) == 0) = false := by simp; omega
        have hk0 : 0 < k := by omega
        have hkI : (k : Int) ≤ s.size := by omega
        clear h0
        rcases hway with ⟨hlt, hI⟩ | hlt
        all_goals first
          | (have HI := Lib.hid hI
             have hltI : (k : Int) < s.size := by omega
             clear hI
             go_wp2_with fail
             refine (rhex_walk s[k] w).mono ?_
             rw [HI.out]
             rintro e w1 ⟨rfl, rfl⟩
             go_wp2_with fail)
          | go_wp2_with fail
        all_goals
          refine (rtrim_walk (s.extract k s.size) w (by rw [ByteArray.size_extract]; omega)).mono ?_
          rw [show bl (s.extract k s.size) = (bl s).drop k by rw [bl_extract, List.take_of_length_le (Nat.le_of_eq (bl_length s))], ← HMO.out]
          rintro e w1 ⟨rfl, rfl⟩
          clear HMO
          generalize more (bl s) = mo at C2 C3 C5 ⊢
          by_cases hm : mo = []
          · have HR := Lib.hid (show sizeI (bl s) = V by unfold sizeI; rw [C2.out hk0 hm])
            have hne : (sb mo).toList.isEmpty = true := by rw [toList_bl, bl_sb, hm]; rfl
            have hne' : (sb mo).toList = [] := by rw [toList_bl, bl_sb, hm]
            generalize sb mo = mt at hne hne'
            clear hm
            go_wp2
            go_ret
            exact ⟨by rw [HR.out]; rfl, rfl⟩
          · have hne : (sb mo).toList.isEmpty = false := by rw [toList_bl, bl_sb]; exact List.isEmpty_eq_false_iff.2 hm
            have hne' : ¬ (sb mo).toList = [] := by rw [toList_bl, bl_sb]; exact hm
            have hml : 0 < (sb mo).size := by rw [sb_size]; exact List.length_pos_iff.2 hm
            have hhd : mo.head? = some (sb mo)[0] := by
              have h1 := bl_at (sb mo) 0 hml
              rw [bl_sb] at h1
              rw [List.head?_eq_getElem?, h1]
            have HHD := Lib.hid hhd
            have HM := Lib.hid hm
            generalize sb mo = mt at hne hne' hml HHD
            have hmlI : (0 : Int) < mt.size := by omega
            clear hhd hm
            by_cases h59 : mt[0] = 59
            · have hq : ((mt[0].toNat : Int) == 59) = true := by rw [h59]; rfl
              have hq' : ((mt[0].toNat : Int) != 59) = false := by unfold bne; rw [hq]; rfl
              have C6 := Lib.hid (C5.out hk0 (by rw [HHD.out, h59]))
              clear h59
              go_wp2
              go_loop [6] (fun v6 => ∃ j : Nat, k ≤ j ∧ j ≤ s.size ∧ v6 = .int .i64 j ∧ (((bl s).take j).drop k).any odd = false) (fun v6 => s.size - (intOf v6).toNat)
              case atStart => exact ⟨k, Nat.le_refl _, hk, rfl, by rw [List.drop_of_length_le (List.length_take_le _ _)]; rfl⟩
              case round =>
                obtain ⟨j, hkj, hj, rfl, hO⟩ := hrel
                have HO := Lib.hid hO
                clear hO
                by_cases hjl : j < s.size
                · have hjI : (j : Int) < s.size := by omega
                  have HX := Lib.hid (bl_at s j hjl)
                  have hx256 := u8_lt s[j]
                  by_cases hodd : odd s[j] = true
                  · have hr : sizeI (bl s) = -1 := by
                      unfold sizeI
                      rw [C4.out (List.any_eq_true.2 ⟨s[j], List.mem_of_getElem? HX.out, hodd⟩)]
                    have HR := Lib.hid hr
                    have hc : s[j].toNat < 9 ∨ (9 ≤ s[j].toNat ∧ s[j].toNat = 127) := by
                      unfold odd at hodd
                      simp only [Bool.or_eq_true, decide_eq_true_eq, beq_iff_eq] at hodd
                      omega
                    clear hr hodd
                    rcases hc with h9 | ⟨h9, h127⟩
                    · have h9I : (s[j].toNat : Int) < 9 := by omega
                      go_wp2
                      go_ret
                      exact ⟨by rw [HR.out]; rfl, rfl⟩
                    · have h9I : ¬ (s[j].toNat : Int) < 9 := by omega
                      have e127 : ((s[j].toNat : Int) == 127) = true := by rw [h127]; rfl
                      clear h127
                      go_wp2
                      go_ret
                      exact ⟨by rw [HR.out]; rfl, rfl⟩
                  · have hc : 9 ≤ s[j].toNat ∧ s[j].toNat ≠ 127 := by
                      unfold odd at hodd
                      simp only [Bool.or_eq_true, decide_eq_true_eq, beq_iff_eq] at hodd
                      omega
                    obtain ⟨h9, h127⟩ := hc
                    have HODD := Lib.hid hodd
                    have h9I : ¬ (s[j].toNat : Int) < 9 := by omega
                    have e127 : ((s[j].toNat : Int) == 127) = false := by simp; omega
                    clear h127 hodd
                    go_wp2
                    go_round
                    case rel =>
                      refine ⟨j + 1, by omega, by omega, by go_num, ?_⟩
                      obtain ⟨hl, he⟩ := List.getElem?_eq_some_iff.1 HX.out
                      rw [own_snoc _ _ _ hl hkj, List.any_append, HO.out, he]
                      simp [HODD.out]
                    case measure => simp [intOf]; omega
                · have hO := HO.out
                  rw [show (bl s).take j = bl s from List.take_of_length_le (by rw [bl_length]; omega)] at hO
                  have HR := Lib.hid (show sizeI (bl s) = V by unfold sizeI; rw [C6.out hO])
                  have hjI : ¬ (j : Int) < s.size := by omega
                  clear hO
                  go_wp2
                  go_ret
                  exact ⟨by rw [HR.out]; rfl, rfl⟩
            · have hq : ((mt[0].toNat : Int) == 59) = false := byte_ne (byte_of rfl h59 (n := 59) rfl) _ rfl
              have hq' : ((mt[0].toNat : Int) != 59) = true := by unfold bne; rw [hq]; rfl
              have HR := Lib.hid (show sizeI (bl s) = -1 by unfold sizeI; rw [C3.out HM.out (by rw [HHD.out]; exact fun h => h59 (Option.some.inj h))])
              clear h59
              go_wp2
              go_ret
              exact ⟨by rw [HR.out]; rfl, rfl⟩
end Go.Proofs.YtkfiafclddnaoaaDoor.Tk
