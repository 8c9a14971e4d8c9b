/- Walks: a message's framing. -/
import Derived.Test.YtkfiafclddnaoaaDoorFrm
set_option linter.unusedVariables false
set_option linter.unusedSimpArgs false
namespace Go.Proofs.YtkfiafclddnaoaaDoor.Tk
open Go.RowKit Go.Proofs.YtkfiafclddnaoaaDoorW.PrintWords Go.Proofs.YtkfiafclddnaoaaDoorW.PrintLast Go.Proofs.YtkfiafclddnaoaaDoor.Rw

def framedF (minor : Int) (fs : List Fd) (other : Nat) : Nat × Nat × Nat :=
  if vals fs teName = [] then
    if (lengthF fs).2.2 = 0 then if (lengthF fs).2.1 = true then (1, (lengthF fs).1, 0) else (other, 0, 0) else (0, 0, (lengthF fs).2.2)
  else if minor = 0 ∨ (lengthF fs).2.1 = true ∨ (names fs teName).1 ≠ [chunkedT] then (0, 0, 32) else (2, 0, 0)
def FrPost (r : Nat × Nat × Nat) (w : World) (e : Ending) (w' : World) : Prop :=
  e = .returned (.tuple #[.int .i64 r.1, .int .i64 r.2.1, .int .i64 r.2.2]) ∧ Below w.heap.size w w'
theorem lengthF_err (fs : List Fd) : (lengthF fs).2.2 = 0 ∨ (lengthF fs).2.2 = 3 ∨ (lengthF fs).2.2 = 32 := by
  unfold lengthF
  split
  · exact .inl rfl
  · split
    · exact .inr (.inr rfl)
    · split
      · exact .inr (.inr rfl)
      · split
        · exact .inr (.inl rfl)
        · exact .inl rfl
set_option maxRecDepth 100000 in
set_option maxHeartbeats 1000000 in
theorem framed_walk (minor : Int) (A : Option Addr) (n c : Nat) (fs : List Fd) (other : Nat) (w : World) (hf : FieldsAt w A n fs) (hw : wt fs ≤ 500000) :
    Calls Tryd.prog 27 #[.int .i64 minor, .slice A n c, .int .i64 other] w (FrPost (framedF minor fs other) w) := by
  have HF := Lib.hid hf
  have hfr : framedF minor fs other = if vals fs teName = [] then
    if (lengthF fs).2.2 = 0 then if (lengthF fs).2.1 = true then (1, (lengthF fs).1, 0) else (other, 0, 0) else (0, 0, (lengthF fs).2.2)
    else if minor = 0 ∨ (lengthF fs).2.1 = true ∨ (names fs teName).1 ≠ [chunkedT] then (0, 0, 32) else (2, 0, 0) := rfl
  have HFR0 := Lib.hid hfr
  have HERR := Lib.hid (lengthF_err fs)
  clear hf hfr
  go_enter Tryd.func27, Tryd.ntmps27
  go_wp2_with fail
  refine (length_walk A n c fs w HF.out hw).mono ?_
  rintro e w1 ⟨rfl, hb1⟩
  obtain ⟨L, hL⟩ : ∃ L, L = lengthF fs := ⟨_, rfl⟩
  have hfr := HFR0.out
  have herr := HERR.out
  rw [← hL] at hfr herr ⊢
  clear HFR0 HERR
  clear hL
  obtain ⟨ln, has, er⟩ := L
  simp only at hfr herr ⊢
  have HFR := Lib.hid hfr
  clear hfr
  go_wp2_with fail
  refine (get_walk A n c fs (sb teName) w1 (HF.out.below hb1) hw (by rw [sb_size]; decide)).mono ?_
  rw [bl_sb]
  rintro e w2 ⟨rfl, hb2⟩
  have hB2 := Below.trans hb1 (hb2.mono hb1.size)
  have hnl : (vals fs teName).length ≤ 500000 := by have := vals_len fs teName; have := wt_len fs; omega
  generalize htx : sb (getF fs teName) = tx
  have HTX := Lib.hid htx
  clear htx
  generalize hnv : (vals fs teName).length = nv at hnl
  by_cases h0 : nv = 0
  · have hv : vals fs teName = [] := List.eq_nil_of_length_eq_zero (by omega)
    subst h0
    have hr : framedF minor fs other = if er = 0 then if has = true then (1, ln, 0) else (other, 0, 0) else (0, 0, er) := by rw [HFR.out, if_pos hv]
    clear hnv hv
    have hB2' := Lib.hid hB2
    clear hb1 hb2
    rcases herr with rfl | rfl | rfl
    · rw [if_pos rfl] at hr
      cases has with
      | true =>
        have HRR := Lib.hid hr
        clear hr
        go_wp2
        go_ret3
        exact ⟨by rw [HRR.out]; rfl, hB2'.out⟩
      | false =>
        have HRR := Lib.hid hr
        clear hr
        go_wp2
        go_ret3
        exact ⟨by rw [HRR.out]; rfl, hB2'.out⟩
    · have HRR := Lib.hid hr
      clear hr
      go_wp2
      go_ret3
      exact ⟨by rw [HRR.out]; rfl, hB2'.out⟩
    · have HRR := Lib.hid hr
      clear hr
      go_wp2
      go_ret3
      exact ⟨by rw [HRR.out]; rfl, hB2'.out⟩
  · have hv : ¬ vals fs teName = [] := fun e => h0 (by rw [← hnv, e]; rfl)
    have hpos : 0 < nv := by omega
    have hposI : (0 : Int) < nv := by omega
    have hr : framedF minor fs other = if minor = 0 ∨ has = true ∨ (names fs teName).1 ≠ [chunkedT] then (0, 0, 32) else (2, 0, 0) := by rw [HFR.out, if_neg hv]
    have HRR := Lib.hid hr
    clear hr hnv hv h0
    go_wp2_with fail
    refine (names_walk A n c fs (sb teName) w2 (HF.out.below hB2) hw (by rw [sb_size]; decide)).mono ?_
    rw [bl_sb]
    rintro e w3 ⟨v, rfl, hR, hb3⟩
    have hB3 := Lib.hid (Below.trans hB2 (hb3.mono hB2.size))
    obtain ⟨nm, hnm⟩ : ∃ nm, nm = names fs teName := ⟨_, rfl⟩
    rw [← hnm] at hR ⊢
    have hrr := HRR.out
    rw [← hnm] at hrr
    have HR2 := Lib.hid hrr
    clear hnm hrr HRR hb1 hb2 hb3 hB2
    obtain ⟨nl, nok⟩ := nm
    simp only at hR ⊢
    obtain ⟨A13, c13, hv13, hc13⟩ := hR.slice
    subst hv13
    have HR := Lib.hid hR
    clear hR
    by_cases hmin : minor = 0
    · have hr : framedF minor fs other = (0, 0, 32) := by rw [HR2.out, if_pos (.inl hmin)]
      have HRR := Lib.hid hr
      have hmb : (minor == 0) = true := by simp [hmin]
      clear hr hmin
      go_wp2
      go_ret3
      exact ⟨by rw [HRR.out]; rfl, hB3.out⟩
    · have hmb : (minor == 0) = false := by simpa using hmin
      cases has with
      | true =>
        have hr : framedF minor fs other = (0, 0, 32) := by rw [HR2.out, if_pos (.inr (.inl rfl))]
        have HRR := Lib.hid hr
        clear hr
        go_wp2
        go_ret3
        exact ⟨by rw [HRR.out]; rfl, hB3.out⟩
      | false =>
        by_cases h1 : nl.length = 1
        · obtain ⟨x, rfl⟩ : ∃ x, nl = [x] := List.length_eq_one_iff.1 h1
          obtain ⟨ad, hA, _, hc⟩ := strs_at (k := 0) HR.out rfl
          subst hA
          have hc' : w3.cell? ad = some (.string (sb x)) := by simpa [Addr.add] using hc
          clear hc
          by_cases hx : x = chunkedT
          · subst hx
            have hr : framedF minor fs other = (2, 0, 0) := by rw [HR2.out, if_neg (by simp [hmin])]
            have HRR := Lib.hid hr
            clear hr
            have hq : ((sb chunkedT).toList == ([99, 104, 117, 110, 107, 101, 100] : List UInt8)) = true := by rw [toList_bl, bl_sb]; rfl
            generalize sb chunkedT = ct at hc' hq
            go_wp2
            go_ret3
            exact ⟨by rw [HRR.out]; rfl, hB3.out⟩
          · have hr : framedF minor fs other = (0, 0, 32) := by rw [HR2.out, if_pos (.inr (.inr (by simpa using hx)))]
            have HRR := Lib.hid hr
            have hq : ((sb x).toList == ([99, 104, 117, 110, 107, 101, 100] : List UInt8)) = false := by rw [toList_bl, bl_sb]; exact beq_eq_false_iff_ne.2 hx
            clear hr hx
            generalize sb x = ct at hc' hq
            go_wp2
            go_ret3
            exact ⟨by rw [HRR.out]; rfl, hB3.out⟩
        · have hr : framedF minor fs other = (0, 0, 32) := by rw [HR2.out, if_pos (.inr (.inr (fun e => h1 (by rw [show nl = [chunkedT] from e]; rfl))))]
          have HRR := Lib.hid hr
          generalize nl.length = m at h1 hc13 HR
          have hm : ((m : Int) != 1) = true := by rw [bne_iff_ne]; omega
          clear hr h1
          go_wp2
          go_ret3
          exact ⟨by rw [HRR.out]; rfl, hB3.out⟩

/-- A request's framing. -/
theorem ofRequest_walk (m t : ByteArray) (minor : Int) (A : Option Addr) (n c : Nat) (fs : List Fd) (w : World) (hf : FieldsAt w A n fs) (hw : wt fs ≤ 500000) :
    Calls Tryd.prog 13 #[.agg #[.string m, .string t, .int .i64 minor, .slice A n c]] w (FrPost (framedF minor fs 0) w) := by
  have HF := Lib.hid hf
  clear hf
  generalize hR : framedF minor fs 0 = R
  have HR := Lib.hid hR
  clear hR
  go_enter Tryd.func13, Tryd.ntmps13
  go_wp2_with fail
  have hB := (Below.refl w.heap.size w).alloc (Nat.le_refl _) (.cells #[.string m, .string t, .int .i64 minor, .slice A n c] 34)
  refine (framed_walk minor A n c fs 0 _ (HF.out.below hB) hw).mono ?_
  rw [HR.out]
  rintro e w1 ⟨rfl, hb1⟩
  have hB1 := Below.trans hB (hb1.mono hB.size)
  clear hb1 hB
  go_wp2
  go_ret3
  exact ⟨rfl, hB1⟩
def headT : Bs := [72, 69, 65, 68]
def ofRespF (minor code : Int) (fs : List Fd) (method : Bs) : Nat × Nat × Nat :=
  if method = headT ∨ code < 200 ∨ code = 204 ∨ code = 304 then (0, 0, 0) else framedF minor fs 3
set_option maxRecDepth 100000 in
set_option maxHeartbeats 1000000 in
theorem ofResponse_walk (minor code : Int) (r : ByteArray) (A : Option Addr) (n c : Nat) (fs : List Fd) (method : ByteArray) (w : World) (hf : FieldsAt w A n fs) (hw : wt fs ≤ 500000) :
    Calls Tryd.prog 16 #[.agg #[.int .i64 minor, .int .i64 code, .string r, .slice A n c], .string method] w (FrPost (ofRespF minor code fs (bl method)) w) := by
  have HF := Lib.hid hf
  clear hf
  have hB := (Below.refl w.heap.size w).alloc (Nat.le_refl _) (.cells #[.int .i64 minor, .int .i64 code, .string r, .slice A n c] 37)
  have hdef : ofRespF minor code fs (bl method) = if bl method = headT ∨ code < 200 ∨ code = 204 ∨ code = 304 then (0, 0, 0) else framedF minor fs 3 := rfl
  generalize hR : ofRespF minor code fs (bl method) = R at hdef
  generalize hR3 : framedF minor fs 3 = R3 at hdef
  have HR3 := Lib.hid hR3
  clear hR hR3
  by_cases hm : bl method = headT
  · have hq : (method.toList == ([72, 69, 65, 68] : List UInt8)) = true := by rw [toList_bl, hm]; rfl
    have hr : R = (0, 0, 0) := by rw [hdef, if_pos (.inl hm)]
    subst hr
    clear hdef hm
    go_enter Tryd.func16, Tryd.ntmps16
    go_wp2
    go_ret3
    exact ⟨rfl, hB⟩
  · have hq : (method.toList == ([72, 69, 65, 68] : List UInt8)) = false := by rw [toList_bl]; exact beq_eq_false_iff_ne.2 hm
    by_cases h1 : code < 200
    · have hr : R = (0, 0, 0) := by rw [hdef, if_pos (.inr (.inl h1))]
      subst hr
      clear hdef hm
      go_enter Tryd.func16, Tryd.ntmps16
      go_wp2
      go_ret3
      exact ⟨rfl, hB⟩
    · by_cases h2 : code = 204
      · have hr : R = (0, 0, 0) := by rw [hdef, if_pos (.inr (.inr (.inl h2)))]
        subst hr h2
        clear hdef hm
        go_enter Tryd.func16, Tryd.ntmps16
        go_wp2
        go_ret3
        exact ⟨rfl, hB⟩
      · by_cases h3 : code = 304
        · have hr : R = (0, 0, 0) := by rw [hdef, if_pos (.inr (.inr (.inr h3)))]
          subst hr h3
          clear hdef hm
          go_enter Tryd.func16, Tryd.ntmps16
          go_wp2
          go_ret3
          exact ⟨rfl, hB⟩
        · have hr : R = R3 := by rw [hdef, if_neg (by simp [hm, h1, h2, h3])]
          subst hr
          have hb2 : (code == 204) = false := by simpa using h2
          have hb3 : (code == 304) = false := by simpa using h3
          clear hdef hm h2 h3
          go_enter Tryd.func16, Tryd.ntmps16
          go_wp2_with fail
          refine (framed_walk minor A n c fs 3 _ (HF.out.below hB) hw).mono ?_
          rw [HR3.out]
          rintro e w1 ⟨rfl, hb1⟩
          have hB1 := Below.trans hB (hb1.mono hB.size)
          clear hb1 hB
          go_wp2
          go_ret3
          exact ⟨rfl, hB1⟩
end Go.Proofs.YtkfiafclddnaoaaDoor.Tk
