/- Walks: a message's length and framing. -/
import Derived.Test.YtkfiafclddnaoaaDoorFld2
set_option linter.unusedVariables false
set_option linter.unusedSimpArgs false
namespace Go.Proofs.YtkfiafclddnaoaaDoor.Tk
open Go.RowKit Go.Proofs.YtkfiafclddnaoaaDoorW.PrintWords Go.Proofs.YtkfiafclddnaoaaDoorW.PrintLast Go.Proofs.YtkfiafclddnaoaaDoor.Rw

def most : Nat := 1099511627776
def clName : Bs := [67, 111, 110, 116, 101, 110, 116, 45, 76, 101, 110, 103, 116, 104]
def teName : Bs := [84, 114, 97, 110, 115, 102, 101, 114, 45, 69, 110, 99, 111, 100, 105, 110, 103]
def chunkedT : Bs := [99, 104, 117, 110, 107, 101, 100]
def lenGo : Bool → Nat → List Bs → Option Nat
  | _, n, [] => some n
  | b, n, s :: r => if (number most s).2 = false ∨ (b = true ∧ (number most s).1 ≠ n) then none else lenGo true (number most s).1 r
def lengthF (fs : List Fd) : Nat × Bool × Nat :=
  if vals fs clName = [] then (0, false, 0)
  else if (split (getF fs clName)).2 = false ∨ (split (getF fs clName)).1 = [] then (0, true, 32)
  else match lenGo false 0 (split (getF fs clName)).1 with
    | none => (0, true, 32)
    | some n => if 1048576 < n then (0, true, 3) else (n, true, 0)
theorem len_round {l : List Bs} {k n : Nat} {R : Option Nat} (hk : k < l.length) (h : lenGo (decide (0 < k)) n (l.drop k) = R) :
    ∃ s, l[k]? = some s ∧ ((number most s).2 = false ∨ (0 < k ∧ (number most s).1 ≠ n) → R = none) ∧
      (¬ ((number most s).2 = false ∨ (0 < k ∧ (number most s).1 ≠ n)) → lenGo (decide (0 < k + 1)) (number most s).1 (l.drop (k + 1)) = R) := by
  rw [List.drop_eq_getElem_cons hk] at h
  unfold lenGo at h
  refine ⟨l[k], List.getElem?_eq_getElem hk, fun hc => ?_, fun hc => ?_⟩
  · rw [if_pos (by simpa using hc)] at h; exact h.symm
  · rw [if_neg (by simpa using hc)] at h
    rw [← h]
    simp
def LenPost (fs : List Fd) (w : World) (e : Ending) (w' : World) : Prop :=
  e = .returned (.tuple #[.int .i64 (lengthF fs).1, .bool (lengthF fs).2.1, .int .i64 (lengthF fs).2.2]) ∧ Below w.heap.size w w'
set_option maxRecDepth 100000 in
set_option maxHeartbeats 1000000 in
theorem length_walk (A : Option Addr) (n c : Nat) (fs : List Fd) (w : World) (hf : FieldsAt w A n fs) (hw : wt fs ≤ 500000) :
    Calls Tryd.prog 38 #[.slice A n c] w (LenPost fs w) := by
  have hgl := getF_len fs clName
  have HF := Lib.hid hf
  clear hf
  go_enter Tryd.func38, Tryd.ntmps38
  go_wp2_with fail
  refine (get_walk A n c fs (sb clName) w HF.out hw (by rw [sb_size]; decide)).mono ?_
  rw [bl_sb]
  rintro e w1 ⟨rfl, hb1⟩
  have hnl : (vals fs clName).length ≤ 500000 := by have := vals_len fs clName; have := wt_len fs; omega
  generalize htx : sb (getF fs clName) = tx
  have htxs : tx.size ≤ 500000 := by rw [← htx, sb_size]; omega
  have hspl : split (bl tx) = split (getF fs clName) := by rw [← htx, bl_sb]
  have HSPL := Lib.hid hspl
  clear htx hspl
  generalize hnv : (vals fs clName).length = nv at hnl
  by_cases h0 : nv = 0
  · subst h0
    have hr : lengthF fs = (0, false, 0) := by unfold lengthF; rw [if_pos (List.eq_nil_of_length_eq_zero hnv)]
    have HRR := Lib.hid hr
    clear hr hnv
    go_wp2
    go_ret3
    exact ⟨by rw [HRR.out]; rfl, hb1⟩
  · have hv : ¬ vals fs clName = [] := fun e => h0 (by rw [← hnv, e]; rfl)
    have hnb : ((nv : Int) == 0) = false := by simp; omega
    have HV := Lib.hid hv
    clear hnv hv h0
    go_wp2_with fail
    refine (split_walk tx w1 htxs).mono ?_
    rintro e w2 ⟨v, rfl, hR, hb2⟩
    have hB2 := Below.trans hb1 (hb2.mono hb1.size)
    have hlen := split_len (bl tx)
    rw [bl_length] at hlen
    have hlf : lengthF fs = if (split (bl tx)).2 = false ∨ (split (bl tx)).1 = [] then (0, true, 32) else match lenGo false 0 (split (bl tx)).1 with
        | none => (0, true, 32)
        | some n => if 1048576 < n then (0, true, 3) else (n, true, 0) := by unfold lengthF; rw [if_neg HV.out, HSPL.out]
    generalize hl : (split (bl tx)).1 = l at hR hlen hlf
    generalize hok : (split (bl tx)).2 = ok at hlf
    have HSL := Lib.hid hl
    have HLF := Lib.hid hlf
    have HB2 := Lib.hid hB2
    have hR' := hR.mono (G := fun k => w.heap.size ≤ k) (fun k hk => by have := hb1.size; omega)
    obtain ⟨A7, c7, hv7, hc7⟩ := hR'.slice
    subst hv7
    have HR := Lib.hid hR'
    clear hlf hR hR' hb2 hok hl hB2
    generalize hm : l.length = m at hc7 hlen
    have HM := Lib.hid hm
    clear hm
    cases ok with
    | false =>
      have hr : lengthF fs = (0, true, 32) := by rw [HLF.out, if_pos (.inl rfl)]
      have HRR := Lib.hid hr
      clear hr
      go_wp2
      go_ret3
      exact ⟨by rw [HRR.out]; rfl, HB2.out⟩
    | true =>
      by_cases h0 : m = 0
      · have hr : lengthF fs = (0, true, 32) := by rw [HLF.out, if_pos (.inr (List.eq_nil_of_length_eq_zero (by rw [HM.out, h0])))]
        have HRR := Lib.hid hr
        clear hr
        have hmb : ((m : Int) == 0) = true := by simp [h0]
        go_wp2
        go_ret3
        exact ⟨by rw [HRR.out]; rfl, HB2.out⟩
      · have hne : ¬ l = [] := fun e => h0 (by rw [← HM.out, e]; rfl)
        have hmb : ((m : Int) == 0) = false := by simp; omega
        have hr : lengthF fs = match lenGo false 0 l with
            | none => (0, true, 32)
            | some n => if 1048576 < n then (0, true, 3) else (n, true, 0) := by rw [HLF.out, if_neg (by simp [hne])]
        have HRR := Lib.hid hr
        clear hr hne
        go_wp2
        go_loopw [2, 34] (fun v2 v34 wr => ∃ (k nn : Nat), k ≤ m ∧ v34 = .int .i64 k ∧ v2 = .int .i64 nn ∧ nn ≤ most ∧ lenGo (decide (0 < k)) nn (l.drop k) = lenGo false 0 l ∧ Below w2.heap.size w2 wr) (fun _ v34 _ => m - (intOf v34).toNat)
        case atStart => exact ⟨0, 0, Nat.zero_le _, rfl, rfl, Nat.zero_le _, rfl, Below.refl _ _⟩
        case round =>
          obtain ⟨k, nn, hk, rfl, rfl, hnn, hgo, hB⟩ := hrel
          have HGO := Lib.hid hgo
          clear hgo
          have hBF := Below.trans HB2.out (hB.mono HB2.out.size)
          by_cases hlt : k < m
          · obtain ⟨x, hx, hbad, hgood⟩ := len_round (l := l) (k := k) (by rw [HM.out]; exact hlt) HGO.out
            obtain ⟨ad, hA, hadl, hc1⟩ := strs_at HR.out hx
            have hxs : (sb x).size ≤ 500000 := by
              have := split_elem_len (bl tx) x (by rw [HSL.out]; exact List.mem_of_getElem? hx)
              rw [sb_size]; rw [bl_length] at this; omega
            replace hc1 := pw_cell_below hB hc1
            have HX := Lib.hid hx
            have HBAD := Lib.hid hbad
            have HGOOD := Lib.hid hgood
            clear hx hadl hbad hgood
            subst hA
            have hnum := number_walk (sb x) most (by decide) wr (by omega)
            rw [bl_sb] at hnum
            change Calls Tryd.prog 55 #[.string (sb x), .int .i64 1099511627776] wr _ at hnum
            have HNUM := Lib.hid hnum
            have hle := number_le most x
            clear hnum
            generalize hnr : number most x = nr at hle
            have HNR := Lib.hid hnr
            clear hnr
            go_wp2_with fail
            refine HNUM.out.mono ?_
            rintro e w3 ⟨rfl, hb3⟩
            rw [HNR.out]
            have hB3 := Below.trans hB (hb3.mono hB.size)
            have hBF3 := Below.trans HB2.out (hB3.mono HB2.out.size)
            obtain ⟨v, ok⟩ := nr
            simp only at hle ⊢
            clear hb3 HNUM
            rw [HNR.out] at HBAD HGOOD
            simp only at HBAD HGOOD
            by_cases hbd : ok = false ∨ (0 < k ∧ v ≠ nn)
            · have hr : lengthF fs = (0, true, 32) := by rw [HRR.out, HBAD.out hbd]
              have HR2 := Lib.hid hr
              clear hr
              cases ok with
              | false =>
                go_wp2
                go_ret3
                exact ⟨by rw [HR2.out]; rfl, hBF3⟩
              | true =>
                have hk0 : 0 < k := by
                  rcases hbd with h | h
                  · cases h
                  · exact h.1
                have hvn : ((v : Int) != (nn : Int)) = true := by
                  rcases hbd with h | h
                  · cases h
                  · rw [bne_iff_ne]; omega
                clear hbd
                go_wp2
                go_ret3
                exact ⟨by rw [HR2.out]; rfl, hBF3⟩
            · have hgo' := HGOOD.out hbd
              have HG2 := Lib.hid hgo'
              have hok : ok = true := by
                cases ok
                · exact absurd (.inl rfl) hbd
                · rfl
              subst hok
              rcases Nat.eq_zero_or_pos k with hk0 | hk0
              · subst hk0
                clear hgo' hbd
                go_wp2
                go_roundw
                case rel => exact ⟨1, v, by omega, by go_num, rfl, hle, HG2.out, hB3⟩
                case measure => simp [intOf]; omega
              · have hvn : ((v : Int) != (nn : Int)) = false := by
                  have : ¬ (v ≠ nn) := fun h => hbd (.inr ⟨hk0, h⟩)
                  simp; omega
                clear hgo' hbd
                go_wp2
                go_roundw
                case rel => exact ⟨k + 1, v, by omega, by go_num, rfl, hle, HG2.out, hB3⟩
                case measure => simp [intOf]; omega
          · obtain rfl : k = m := by omega
            have he : lenGo false 0 l = some nn := by
              rw [← HGO.out, ← HM.out, List.drop_length]; rfl
            have hr : lengthF fs = if 1048576 < nn then (0, true, 3) else (nn, true, 0) := by rw [HRR.out, he]
            have hnn' : nn ≤ 1099511627776 := hnn
            clear HGO he
            by_cases hbig : 1048576 < nn
            · rw [if_pos hbig] at hr
              have HR2 := Lib.hid hr
              clear hr
              go_wp2
              go_ret3
              exact ⟨by rw [HR2.out]; rfl, hBF⟩
            · rw [if_neg hbig] at hr
              have HR2 := Lib.hid hr
              clear hr
              go_wp2
              go_ret3
              exact ⟨by rw [HR2.out]; rfl, hBF⟩
end Go.Proofs.YtkfiafclddnaoaaDoor.Tk
