/- Walks: a message's length and framing, by the reference. -/
import Derived.Test.YtkfiafclddnaoaaDoorRef5
import Derived.Test.YtkfiafclddnaoaaDoorFrm2
set_option linter.unusedVariables false
set_option linter.unusedSimpArgs false
namespace Go.Proofs.YtkfiafclddnaoaaDoor.Tk
open Go.RowKit Go.Proofs.YtkfiafclddnaoaaDoorW.PrintWords Go.Proofs.YtkfiafclddnaoaaDoorW.PrintLast Go.Proofs.YtkfiafclddnaoaaDoor.Rw

def rclName : Bs := [99, 111, 110, 116, 101, 110, 116, 45, 108, 101, 110, 103, 116, 104]
def rteName : Bs := [116, 114, 97, 110, 115, 102, 101, 114, 45, 101, 110, 99, 111, 100, 105, 110, 103]
theorem vals_low (fs : List Fd) {a b : Bs} (h : lower a = lower b) : vals fs a = vals fs b := by unfold vals same; rw [h]
theorem getpost_low (fs : List Fd) {a b : Bs} (h : lower a = lower b) (w : World) : GetPost fs a w = GetPost fs b w := by unfold GetPost getF; rw [vals_low fs h]
theorem getpost_cl (fs : List Fd) (w : World) : GetPost fs rclName w = GetPost fs clName w := getpost_low fs (by decide) w
theorem getpost_te (fs : List Fd) (w : World) : GetPost fs rteName w = GetPost fs teName w := getpost_low fs (by decide) w
theorem namespost_te (fs : List Fd) (w : World) : NamesPost fs rteName w = NamesPost fs teName w := by
  have h : names fs rteName = names fs teName := by unfold names getF; rw [vals_low fs (show lower rteName = lower teName by decide)]
  unfold NamesPost
  rw [h]
set_option maxRecDepth 100000 in
set_option maxHeartbeats 1000000 in
theorem rlength_walk (A : Option Addr) (n c : Nat) (fs : List Fd) (w : World) (hf : FieldsAt w A n fs) (hw : wt fs ≤ 500000) :
    Calls Tryd.prog 41 #[.slice A n c] w (LenPost fs w) := by
  have hgl := getF_len fs clName
  have HF := Lib.hid hf
  clear hf
  go_enter Tryd.func41, Tryd.ntmps41
  go_wp2_with fail
  refine (rget_walk A n c fs (sb rclName) w HF.out hw (by rw [sb_size]; decide)).mono ?_
  rw [bl_sb, getpost_cl]
  rintro e w1 ⟨rfl, hb1⟩
  have hnl : (vals fs clName).length ≤ 500000 := by have := vals_len fs clName; have := wt_len fs; omega
  generalize htx : sb (getF fs clName) = tx
  have htxs : tx.size ≤ 500000 := by rw [← htx, sb_size]; omega
  have hspl : split (bl tx) = split (getF fs clName) := by rw [← htx, bl_sb]
  have HSPL := Lib.hid hspl
  clear htx hspl
  generalize hnv : (vals fs clName).length = nv at hnl
  by_cases h0 : nv = 0
  · subst h0
    have hr : lengthF fs = (0, false, 0) := by unfold lengthF; rw [if_pos (List.eq_nil_of_length_eq_zero hnv)]
    have HRR := Lib.hid hr
    clear hr hnv
    go_wp2
    go_ret3
    exact ⟨by rw [HRR.out]; rfl, hb1⟩
  · have hv : ¬ vals fs clName = [] := fun e => h0 (by rw [← hnv, e]; rfl)
    have hnb : ((nv : Int) == 0) = false := by simp; omega
    have HV := Lib.hid hv
    clear hnv hv h0
    go_wp2_with fail
    refine (rsplit_walk tx w1 htxs).mono ?_
    rintro e w2 ⟨v, rfl, hR, hb2⟩
    have hB2 := Below.trans hb1 (hb2.mono hb1.size)
    have hlen := split_len (bl tx)
    rw [bl_length] at hlen
    have hlf : lengthF fs = if (split (bl tx)).2 = false ∨ (split (bl tx)).1 = [] then (0, true, 32) else match lenGo false 0 (split (bl tx)).1 with
        | none => (0, true, 32)
        | some n => if 1048576 < n then (0, true, 3) else (n, true, 0) := by unfold lengthF; rw [if_neg HV.out, HSPL.out] <;> rfl
    generalize hl : (split (bl tx)).1 = l at hR hlen hlf
    generalize hok : (split (bl tx)).2 = ok at hlf
    have HSL := Lib.hid hl
    have HLF := Lib.hid hlf
    have HB2 := Lib.hid hB2
    have hR' := hR.mono (G := fun k => w.heap.size ≤ k) (fun k hk => by have := hb1.size; omega)
    obtain ⟨A7, c7, hv7, hc7⟩ := hR'.slice
    subst hv7
    have HR := Lib.hid hR'
    clear hlf hR hR' hb2 hok hl hB2
    generalize hm : l.length = m at hc7 hlen
    have HM := Lib.hid hm
    clear hm
    cases ok with
    | false =>
      have hr : lengthF fs = (0, true, 32) := by rw [HLF.out, if_pos (.inl rfl)]
      have HRR := Lib.hid hr
      clear hr
      go_wp2
      go_ret3
      exact ⟨by rw [HRR.out]; rfl, HB2.out⟩
    | true =>
      by_cases h0 : m = 0
      · have hr : lengthF fs = (0, true, 32) := by rw [HLF.out, if_pos (.inr (List.eq_nil_of_length_eq_zero (by rw [HM.out, h0])))]
        have HRR := Lib.hid hr
        clear hr
        have hmb : ((m : Int) == 0) = true := by simp [h0]
        go_wp2
        go_ret3
        exact ⟨by rw [HRR.out]; rfl, HB2.out⟩
      · have hne : ¬ l = [] := fun e => h0 (by rw [← HM.out, e]; rfl)
        have hmb : ((m : Int) == 0) = false := by simp; omega
        have hr : lengthF fs = match lenGo false 0 l with
            | none => (0, true, 32)
            | some n => if 1048576 < n then (0, true, 3) else (n, true, 0) := by rw [HLF.out, if_neg (by simp [hne])]
        have HRR := Lib.hid hr
        clear hr hne
        go_wp2
        go_loopw [9, 10] (fun v2 v34 wr => ∃ (k nn : Nat), k ≤ m ∧ v34 = .int .i64 k ∧ v2 = .int .i64 nn ∧ nn ≤ most ∧ lenGo (decide (0 < k)) nn (l.drop k) = lenGo false 0 l ∧ Below w2.heap.size w2 wr) (fun _ v34 _ => m - (intOf v34).toNat)
        case atStart => exact ⟨0, 0, Nat.zero_le _, rfl, rfl, Nat.zero_le _, rfl, Below.refl _ _⟩
        case round =>
          obtain ⟨k, nn, hk, rfl, rfl, hnn, hgo, hB⟩ := hrel
          have HGO := Lib.hid hgo
          clear hgo
          have hBF := Below.trans HB2.out (hB.mono HB2.out.size)
          by_cases hlt : k < m
          · obtain ⟨x, hx, hbad, hgood⟩ := len_round (l := l) (k := k) (by rw [HM.out]; exact hlt) HGO.out
            obtain ⟨ad, hA, hadl, hc1⟩ := strs_at HR.out hx
            have hxs : (sb x).size ≤ 500000 := by
              have := split_elem_len (bl tx) x (by rw [HSL.out]; exact List.mem_of_getElem? hx)
              rw [sb_size]; rw [bl_length] at this; omega
            replace hc1 := pw_cell_below hB hc1
            have HX := Lib.hid hx
            have HBAD := Lib.hid hbad
            have HGOOD := Lib.hid hgood
            clear hx hadl hbad hgood
            subst hA
            have hnum := rnumber_walk (sb x) most (by decide) (by decide) wr (by omega)
            rw [bl_sb] at hnum
            change Calls Tryd.prog 61 #[.string (sb x), .int .i64 1099511627776] wr _ at hnum
            have HNUM := Lib.hid hnum
            have hle := number_le most x
            clear hnum
            generalize hnr : number most x = nr at hle
            have HNR := Lib.hid hnr
            clear hnr
            go_wp2_with fail
            refine HNUM.out.mono ?_
            rintro e w3 ⟨rfl, hb3⟩
            rw [HNR.out]
            have hB3 := Below.trans hB (hb3.mono hB.size)
            have hBF3 := Below.trans HB2.out (hB3.mono HB2.out.size)
            obtain ⟨v, ok⟩ := nr
            simp only at hle ⊢
            clear hb3 HNUM
            rw [HNR.out] at HBAD HGOOD
            simp only at HBAD HGOOD
            by_cases hbd : ok = false ∨ (0 < k ∧ v ≠ nn)
            · have hr : lengthF fs = (0, true, 32) := by rw [HRR.out, HBAD.out hbd]
              have HR2 := Lib.hid hr
              clear hr
              cases ok with
              | false =>
                go_wp2
                go_ret3
                exact ⟨by rw [HR2.out]; rfl, hBF3⟩
              | true =>
                have hk0 : 0 < k := by
                  rcases hbd with h | h
                  · cases h
                  · exact h.1
                have hvn : ((v : Int) != (nn : Int)) = true := by
                  rcases hbd with h | h
                  · cases h
                  · rw [bne_iff_ne]; omega
                clear hbd
                go_wp2
                go_ret3
                exact ⟨by rw [HR2.out]; rfl, hBF3⟩
            · have hgo' := HGOOD.out hbd
              have HG2 := Lib.hid hgo'
              have hok : ok = true := by
                cases ok
                · exact absurd (.inl rfl) hbd
                · rfl
              subst hok
              rcases Nat.eq_zero_or_pos k with hk0 | hk0
              · subst hk0
                clear hgo' hbd
                go_wp2
                go_roundw
                case rel => exact ⟨1, v, by omega, by go_num, rfl, hle, HG2.out, hB3⟩
                case measure => simp [intOf]; omega
              · have hvn : ((v : Int) != (nn : Int)) = false := by
                  have : ¬ (v ≠ nn) := fun h => hbd (.inr ⟨hk0, h⟩)
                  simp; omega
                clear hgo' hbd
                go_wp2
                go_roundw
                case rel => exact ⟨k + 1, v, by omega, by go_num, rfl, hle, HG2.out, hB3⟩
                case measure => simp [intOf]; omega
          · obtain rfl : k = m := by omega
            have he : lenGo false 0 l = some nn := by
              rw [← HGO.out, ← HM.out, List.drop_length]; rfl
            have hr : lengthF fs = if 1048576 < nn then (0, true, 3) else (nn, true, 0) := by rw [HRR.out, he]
            have hnn' : nn ≤ 1099511627776 := hnn
            clear HGO he
            by_cases hbig : 1048576 < nn
            · rw [if_pos hbig] at hr
              have HR2 := Lib.hid hr
              clear hr
              go_wp2
              go_ret3
              exact ⟨by rw [HR2.out]; rfl, hBF⟩
            · rw [if_neg hbig] at hr
              have HR2 := Lib.hid hr
              clear hr
              go_wp2
              go_ret3
              exact ⟨by rw [HR2.out]; rfl, hBF⟩
set_option maxRecDepth 100000 in
set_option maxHeartbeats 1000000 in
theorem rof_walk (minor : Int) (A : Option Addr) (n c : Nat) (fs : List Fd) (other : Nat) (w : World) (hf : FieldsAt w A n fs) (hw : wt fs ≤ 500000) :
    Calls Tryd.prog 28 #[.int .i64 minor, .slice A n c, .int .i64 other] w (FrPost (framedF minor fs other) w) := by
  have HF := Lib.hid hf
  have hfr : framedF minor fs other = if vals fs teName = [] then
    if (lengthF fs).2.2 = 0 then if (lengthF fs).2.1 = true then (1, (lengthF fs).1, 0) else (other, 0, 0) else (0, 0, (lengthF fs).2.2)
    else if minor = 0 ∨ (lengthF fs).2.1 = true ∨ (names fs teName).1 ≠ [chunkedT] then (0, 0, 32) else (2, 0, 0) := rfl
  have HFR0 := Lib.hid hfr
  have HERR := Lib.hid (lengthF_err fs)
  clear hf hfr
  go_enter Tryd.func28, Tryd.ntmps28
  go_wp2_with fail
  refine (rlength_walk A n c fs w HF.out hw).mono ?_
  rintro e w1 ⟨rfl, hb1⟩
  obtain ⟨L, hL⟩ : ∃ L, L = lengthF fs := ⟨_, rfl⟩
  have hfr := HFR0.out
  have herr := HERR.out
  rw [← hL] at hfr herr ⊢
  clear HFR0 HERR
  clear hL
  obtain ⟨ln, has, er⟩ := L
  simp only at hfr herr ⊢
  have HFR := Lib.hid hfr
  clear hfr
  go_wp2_with fail
  refine (rget_walk A n c fs (sb rteName) w1 (HF.out.below hb1) hw (by rw [sb_size]; decide)).mono ?_
  rw [bl_sb, getpost_te]
  rintro e w2 ⟨rfl, hb2⟩
  have hB2 := Below.trans hb1 (hb2.mono hb1.size)
  have hnl : (vals fs teName).length ≤ 500000 := by have := vals_len fs teName; have := wt_len fs; omega
  generalize htx : sb (getF fs teName) = tx
  have HTX := Lib.hid htx
  clear htx
  generalize hnv : (vals fs teName).length = nv at hnl
  by_cases h0 : nv = 0
  · have hv : vals fs teName = [] := List.eq_nil_of_length_eq_zero (by omega)
    subst h0
    have hr : framedF minor fs other = if er = 0 then if has = true then (1, ln, 0) else (other, 0, 0) else (0, 0, er) := by rw [HFR.out, if_pos hv]
    clear hnv hv
    have hB2' := Lib.hid hB2
    clear hb1 hb2
    rcases herr with rfl | rfl | rfl
    · rw [if_pos rfl] at hr
      cases has with
      | true =>
        have HRR := Lib.hid hr
        clear hr
        go_wp2
        go_ret3
        exact ⟨by rw [HRR.out]; rfl, hB2'.out⟩
      | false =>
        have HRR := Lib.hid hr
        clear hr
        go_wp2
        go_ret3
        exact ⟨by rw [HRR.out]; rfl, hB2'.out⟩
    · have HRR := Lib.hid hr
      clear hr
      go_wp2
      go_ret3
      exact ⟨by rw [HRR.out]; rfl, hB2'.out⟩
    · have HRR := Lib.hid hr
      clear hr
      go_wp2
      go_ret3
      exact ⟨by rw [HRR.out]; rfl, hB2'.out⟩
  · have hv : ¬ vals fs teName = [] := fun e => h0 (by rw [← hnv, e]; rfl)
    have hpos : 0 < nv := by omega
    have hposI : (0 : Int) < nv := by omega
    have hr : framedF minor fs other = if minor = 0 ∨ has = true ∨ (names fs teName).1 ≠ [chunkedT] then (0, 0, 32) else (2, 0, 0) := by rw [HFR.out, if_neg hv]
    have HRR := Lib.hid hr
    clear hr hnv hv h0
    go_wp2_with fail
    refine (rnames_walk A n c fs (sb rteName) w2 (HF.out.below hB2) hw (by rw [sb_size]; decide)).mono ?_
    rw [bl_sb, namespost_te]
    rintro e w3 ⟨v, rfl, hR, hb3⟩
    have hB3 := Lib.hid (Below.trans hB2 (hb3.mono hB2.size))
    obtain ⟨nm, hnm⟩ : ∃ nm, nm = names fs teName := ⟨_, rfl⟩
    rw [← hnm] at hR ⊢
    have hrr := HRR.out
    rw [← hnm] at hrr
    have HR2 := Lib.hid hrr
    clear hnm hrr HRR hb1 hb2 hb3 hB2
    obtain ⟨nl, nok⟩ := nm
    simp only at hR ⊢
    obtain ⟨A13, c13, hv13, hc13⟩ := hR.slice
    subst hv13
    have HR := Lib.hid hR
    clear hR
    by_cases hmin : minor = 0
    · have hr : framedF minor fs other = (0, 0, 32) := by rw [HR2.out, if_pos (.inl hmin)]
      have HRR := Lib.hid hr
      have hmb : (minor == 0) = true := by simp [hmin]
      clear hr hmin
      go_wp2
      go_ret3
      exact ⟨by rw [HRR.out]; rfl, hB3.out⟩
    · have hmb : (minor == 0) = false := by simpa using hmin
      cases has with
      | true =>
        have hr : framedF minor fs other = (0, 0, 32) := by rw [HR2.out, if_pos (.inr (.inl rfl))]
        have HRR := Lib.hid hr
        clear hr
        go_wp2
        go_ret3
        exact ⟨by rw [HRR.out]; rfl, hB3.out⟩
      | false =>
        by_cases h1 : nl.length = 1
        · obtain ⟨x, rfl⟩ : ∃ x, nl = [x] := List.length_eq_one_iff.1 h1
          obtain ⟨ad, hA, _, hc⟩ := strs_at (k := 0) HR.out rfl
          subst hA
          have hc' : w3.cell? ad = some (.string (sb x)) := by simpa [Addr.add] using hc
          clear hc
          by_cases hx : x = chunkedT
          · subst hx
            have hr : framedF minor fs other = (2, 0, 0) := by rw [HR2.out, if_neg (by simp [hmin])]
            have HRR := Lib.hid hr
            clear hr
            have hq : ((sb chunkedT).toList == ([99, 104, 117, 110, 107, 101, 100] : List UInt8)) = true := by rw [toList_bl, bl_sb]; rfl
            generalize sb chunkedT = ct at hc' hq
            go_wp2
            go_ret3
            exact ⟨by rw [HRR.out]; rfl, hB3.out⟩
          · have hr : framedF minor fs other = (0, 0, 32) := by rw [HR2.out, if_pos (.inr (.inr (by simpa using hx)))]
            have HRR := Lib.hid hr
            have hq : ((sb x).toList == ([99, 104, 117, 110, 107, 101, 100] : List UInt8)) = false := by rw [toList_bl, bl_sb]; exact beq_eq_false_iff_ne.2 hx
            clear hr hx
            generalize sb x = ct at hc' hq
            go_wp2
            go_ret3
            exact ⟨by rw [HRR.out]; rfl, hB3.out⟩
        · have hr : framedF minor fs other = (0, 0, 32) := by rw [HR2.out, if_pos (.inr (.inr (fun e => h1 (by rw [show nl = [chunkedT] from e]; rfl))))]
          have HRR := Lib.hid hr
          generalize nl.length = m at h1 hc13 HR
          have hm : ((m : Int) != 1) = true := by rw [bne_iff_ne]; omega
          clear hr h1
          go_wp2
          go_ret3
          exact ⟨by rw [HRR.out]; rfl, hB3.out⟩

/-- A request's framing. -/
theorem rofRequest_walk (m t : ByteArray) (minor : Int) (A : Option Addr) (n c : Nat) (fs : List Fd) (w : World) (hf : FieldsAt w A n fs) (hw : wt fs ≤ 500000) :
    Calls Tryd.prog 15 #[.agg #[.string m, .string t, .int .i64 minor, .slice A n c]] w (FrPost (framedF minor fs 0) w) := by
  have HF := Lib.hid hf
  clear hf
  generalize hR : framedF minor fs 0 = R
  have HR := Lib.hid hR
  clear hR
  go_enter Tryd.func15, Tryd.ntmps15
  go_wp2_with fail
  have hB := (Below.refl w.heap.size w).alloc (Nat.le_refl _) (.cells #[.string m, .string t, .int .i64 minor, .slice A n c] 34)
  refine (rof_walk minor A n c fs 0 _ (HF.out.below hB) hw).mono ?_
  rw [HR.out]
  rintro e w1 ⟨rfl, hb1⟩
  have hB1 := Below.trans hB (hb1.mono hB.size)
  clear hb1 hB
  go_wp2
  go_ret3
  exact ⟨rfl, hB1⟩
set_option maxRecDepth 100000 in
set_option maxHeartbeats 1000000 in
theorem rofResponse_walk (minor code : Int) (r : ByteArray) (A : Option Addr) (n c : Nat) (fs : List Fd) (method : ByteArray) (w : World) (hf : FieldsAt w A n fs) (hw : wt fs ≤ 500000) :
    Calls Tryd.prog 17 #[.agg #[.int .i64 minor, .int .i64 code, .string r, .slice A n c], .string method] w (FrPost (ofRespF minor code fs (bl method)) w) := by
  have HF := Lib.hid hf
  clear hf
  have hB := (Below.refl w.heap.size w).alloc (Nat.le_refl _) (.cells #[.int .i64 minor, .int .i64 code, .string r, .slice A n c] 37)
  have hdef : ofRespF minor code fs (bl method) = if bl method = headT ∨ code < 200 ∨ code = 204 ∨ code = 304 then (0, 0, 0) else framedF minor fs 3 := rfl
  generalize hR : ofRespF minor code fs (bl method) = R at hdef
  generalize hR3 : framedF minor fs 3 = R3 at hdef
  have HR3 := Lib.hid hR3
  clear hR hR3
  by_cases hm : bl method = headT
  · have hq : (method.toList == ([72, 69, 65, 68] : List UInt8)) = true := by rw [toList_bl, hm]; rfl
    have hr : R = (0, 0, 0) := by rw [hdef, if_pos (.inl hm)]
    subst hr
    clear hdef hm
    go_enter Tryd.func17, Tryd.ntmps17
    go_wp2
    go_ret3
    exact ⟨rfl, hB⟩
  · have hq : (method.toList == ([72, 69, 65, 68] : List UInt8)) = false := by rw [toList_bl]; exact beq_eq_false_iff_ne.2 hm
    by_cases h1 : code < 200
    · have hr : R = (0, 0, 0) := by rw [hdef, if_pos (.inr (.inl h1))]
      subst hr
      clear hdef hm
      go_enter Tryd.func17, Tryd.ntmps17
      go_wp2
      go_ret3
      exact ⟨rfl, hB⟩
    · by_cases h2 : code = 204
      · have hr : R = (0, 0, 0) := by rw [hdef, if_pos (.inr (.inr (.inl h2)))]
        subst hr h2
        clear hdef hm
        go_enter Tryd.func17, Tryd.ntmps17
        go_wp2
        go_ret3
        exact ⟨rfl, hB⟩
      · by_cases h3 : code = 304
        · have hr : R = (0, 0, 0) := by rw [hdef, if_pos (.inr (.inr (.inr h3)))]
          subst hr h3
          clear hdef hm
          go_enter Tryd.func17, Tryd.ntmps17
          go_wp2
          go_ret3
          exact ⟨rfl, hB⟩
        · have hr : R = R3 := by rw [hdef, if_neg (by simp [hm, h1, h2, h3])]
          subst hr
          have hb2 : (code == 204) = false := by simpa using h2
          have hb3 : (code == 304) = false := by simpa using h3
          clear hdef hm h2 h3
          go_enter Tryd.func17, Tryd.ntmps17
          go_wp2_with fail
          refine (rof_walk minor A n c fs 3 _ (HF.out.below hB) hw).mono ?_
          rw [HR3.out]
          rintro e w1 ⟨rfl, hb1⟩
          have hB1 := Below.trans hB (hb1.mono hB.size)
          clear hb1 hB
          go_wp2
          go_ret3
          exact ⟨rfl, hB1⟩
end Go.Proofs.YtkfiafclddnaoaaDoor.Tk
