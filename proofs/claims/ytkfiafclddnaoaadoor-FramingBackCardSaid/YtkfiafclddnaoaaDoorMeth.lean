/- The decoder's methods that take a byte of a line; what any of the six does. -/
import Derived.Test.YtkfiafclddnaoaaDoorPrs
set_option linter.unusedVariables false
set_option linter.unusedSimpArgs false
namespace Go.Proofs.YtkfiafclddnaoaaDoor.Tk
open Go.RowKit Go.Proofs.YtkfiafclddnaoaaDoorW.PrintWords Go.Proofs.YtkfiafclddnaoaaDoorW.PrintLast Go.Proofs.YtkfiafclddnaoaaDoor.Rw

def sizeD (d : DS) (c : UInt8) : DS :=
  match lineF d c with
  | (d1, none) => d1
  | (d1, some s) => match sizeF s with
    | none => { d1 with e := 32 }
    | some n => if 1048576 - d1.sum < n then { d1 with e := 3 } else if n = 0 then { d1 with st := 3 } else { d1 with sum := d1.sum + n, left := n, st := 1 }
def behindD (d : DS) (c : UInt8) : DS :=
  match lineF d c with
  | (d1, none) => d1
  | (d1, some s) => if s = [] then { d1 with st := 0 } else { d1 with e := 32, st := 0 }
def fieldsD (d : DS) (c : UInt8) : DS :=
  match lineF d c with
  | (d1, none) => d1
  | (d1, some s) => if s = [] then { d1 with done := true } else { d1 with e := perr (parseF s) }
theorem line_some_le (d : DS) (c : UInt8) (s : Bs) (h : (lineF d c).2 = some s) (ho : d.own.length ≤ 1025) : s.length ≤ 1025 := by
  unfold lineF at h
  split at h
  · cases h
  · split at h
    · simp only [Option.some.injEq] at h
      rw [← h]
      exact Nat.le_trans (Lib.trimSuffix_le _ _) ho
    · cases h
theorem line_same (d : DS) (c : UInt8) : (lineF d c).1.sum = d.sum ∧ (lineF d c).1.left = d.left ∧ (lineF d c).1.st = d.st := by
  unfold lineF
  split
  · exact ⟨rfl, rfl, rfl⟩
  · split <;> exact ⟨rfl, rfl, rfl⟩

set_option maxRecDepth 100000 in
set_option maxHeartbeats 1000000 in
theorem behind_walk (S : Nat → Prop) (b : Nat) (d : DS) (c : UInt8) (W : World) (hd : DecAt W S b d) (ho : d.own.length ≤ 1025) :
    Calls Tryd.prog 32 #[.pointer (some ⟨b, 0, none⟩), .int .u8 (c.toNat : Int)] W fun e W' => e = .returned (.tuple #[]) ∧ Moved S b (behindD d c) W W' := by
  have HSB : S b := by obtain ⟨_, _, _, _, h⟩ := hd; exact h.sb
  have hr : behindD d c = match lineF d c with
    | (d1, none) => d1
    | (d1, some s) => if s = [] then { d1 with st := 0 } else { d1 with e := 32, st := 0 } := rfl
  have hl := line_walk S b d c W hd ho
  generalize behindD d c = D at hr ⊢
  generalize lineF d c = q at hr hl
  obtain ⟨d1, o⟩ := q
  have HL := Lib.hid hl
  have HR := Lib.hid hr
  clear hr hd hl
  go_enter Tryd.func32, Tryd.ntmps32
  go_wp2_with fail
  refine HL.out.mono ?_
  rintro e w1 ⟨rfl, t1, S1, hS1, vo, vu, Fo, Fu, h1⟩
  cases o with
  | none =>
    obtain rfl : D = d1 := HR.out
    have H1 := Lib.hid h1
    have T1 := Lib.hid t1
    have HS1 := Lib.hid hS1
    clear h1 t1 hS1
    go_wp2
    refine bodyPost_ret (results_none rfl _ _ _) rfl ?_
    exact ⟨rfl, T1.out, S1, HS1.out, H1.out.at_⟩
  | some s =>
    obtain ⟨⟨_, c1, _, _, _, _, _, c7⟩, f1, _, _, _, _, _, f7⟩ := h1.facts
    have H1 := Lib.hid h1
    have T1 := Lib.hid t1
    have HS1 := Lib.hid hS1
    clear h1 t1 hS1
    by_cases h0 : s = []
    · have hD : D = { d1 with st := 0 } := by have := HR.out; simp only at this; rwa [if_pos h0] at this
      have HD := Lib.hid hD
      subst h0
      have hv : strV (some ([] : Bs)) = .string ⟨#[]⟩ := rfl
      rw [hv]
      clear hD hv
      go_wp2
      go_end0
      refine ⟨rfl, ?_⟩
      rw [HD.out]
      exact Moved.set T1.out HS1.out H1.out 1 (.int .i64 (0 : Nat)) HSB (H1.out.putSt 0)
    · have hD : D = { { d1 with e := 32 } with st := 0 } := by have := HR.out; simp only at this; rwa [if_neg h0] at this
      have HD := Lib.hid hD
      have he : (sb s).toList.isEmpty = false := by rw [toList_bl, bl_sb]; exact List.isEmpty_eq_false_iff.2 h0
      have he' : ¬ (sb s).toList = [] := by rw [toList_bl, bl_sb]; exact h0
      have hv : strV (some s) = .string (sb s) := rfl
      rw [hv]
      generalize sb s = ss at he he'
      clear hD hv h0
      go_wp2
      go_end0
      refine ⟨rfl, ?_⟩
      rw [HD.out]
      exact Moved.set (T1.out.setCell (.inl HSB) _) HS1.out (H1.out.putE 32) 1 (.int .i64 (0 : Nat)) HSB ((H1.out.putE 32).putSt 0)
set_option maxRecDepth 100000 in
set_option maxHeartbeats 1000000 in
theorem fields_walk (S : Nat → Prop) (b : Nat) (d : DS) (c : UInt8) (W : World) (hd : DecAt W S b d) (ho : d.own.length ≤ 1025) (hE : Env W) (hO : Off S) :
    Calls Tryd.prog 33 #[.pointer (some ⟨b, 0, none⟩), .int .u8 (c.toNat : Int)] W fun e W' => e = .returned (.tuple #[]) ∧ Moved S b (fieldsD d c) W W' := by
  have HSB : S b := by obtain ⟨_, _, _, _, h⟩ := hd; exact h.sb
  have hr : fieldsD d c = match lineF d c with
    | (d1, none) => d1
    | (d1, some s) => if s = [] then { d1 with done := true } else { d1 with e := perr (parseF s) } := rfl
  have hl := line_walk S b d c W hd ho
  have hle := fun s => line_some_le d c s
  generalize fieldsD d c = D at hr ⊢
  generalize lineF d c = q at hr hl hle
  obtain ⟨d1, o⟩ := q
  have HL := Lib.hid hl
  have HR := Lib.hid hr
  have HLE := Lib.hid hle
  have HE := Lib.hid hE
  clear hr hd hl hle hE
  go_enter Tryd.func33, Tryd.ntmps33
  go_wp2_with fail
  refine HL.out.mono ?_
  rintro e w1 ⟨rfl, t1, S1, hS1, vo, vu, Fo, Fu, h1⟩
  have HE1 := Lib.hid (HE.out.tch hO t1)
  cases o with
  | none =>
    obtain rfl : D = d1 := HR.out
    have H1 := Lib.hid h1
    have T1 := Lib.hid t1
    have HS1 := Lib.hid hS1
    clear h1 t1 hS1
    go_wp2
    go_end0
    exact ⟨rfl, T1.out, S1, HS1.out, H1.out.at_⟩
  | some s =>
    obtain ⟨⟨_, _, _, _, _, _, c6, _⟩, _, _, _, _, _, f6, _⟩ := h1.facts
    have H1 := Lib.hid h1
    have T1 := Lib.hid t1
    have HS1 := Lib.hid hS1
    clear h1 t1 hS1
    by_cases h0 : s = []
    · have hD : D = { d1 with done := true } := by have := HR.out; simp only at this; rwa [if_pos h0] at this
      have HD := Lib.hid hD
      subst h0
      have hv : strV (some ([] : Bs)) = .string ⟨#[]⟩ := rfl
      rw [hv]
      clear hD hv
      go_wp2
      go_end0
      refine ⟨rfl, ?_⟩
      rw [HD.out]
      exact Moved.set T1.out HS1.out H1.out 6 (.bool true) HSB (H1.out.putDone true)
    · have hD : D = { d1 with e := perr (parseF s) } := by have := HR.out; simp only at this; rwa [if_neg h0] at this
      have HD := Lib.hid hD
      have he : (sb s).toList.isEmpty = false := by rw [toList_bl, bl_sb]; exact List.isEmpty_eq_false_iff.2 h0
      have he' : ¬ (sb s).toList = [] := by rw [toList_bl, bl_sb]; exact h0
      have hv : strV (some s) = .string (sb s) := rfl
      rw [hv]
      have hpar := parse_walk (sb s) w1 (by rw [sb_size]; have := HLE.out s rfl ho; omega) HE1.out
      rw [bl_sb] at hpar
      have HPAR := Lib.hid hpar
      generalize sb s = ss at he he' HPAR
      clear hD hv h0 hpar c6 f6
      go_wp2_with fail
      refine HPAR.out.mono ?_
      generalize parseF s = R at HD
      rintro e w2 ⟨rfl, hb2⟩
      have h2 := H1.out.below hb2
      obtain ⟨⟨_, _, _, _, _, _, _, c7⟩, _, _, _, _, _, _, f7⟩ := h2.facts
      have H2 := Lib.hid h2
      have T2 := Lib.hid (T1.out.trans (Tch.of_below hb2 (fun _ => False)) (fun k hk => hk.elim))
      have hle12 := hb2.size
      clear h2 hb2 HPAR
      generalize fieldV R = fv
      go_wp2
      go_end0
      refine ⟨rfl, ?_⟩
      rw [HD.out]
      exact Moved.set T2.out (fun k hk => HS1.out k hk) H2.out 7 (.int .i64 (perr R)) HSB (H2.out.putE (perr R))
set_option maxRecDepth 100000 in
set_option maxHeartbeats 1000000 in
theorem size_d_walk (S : Nat → Prop) (b : Nat) (d : DS) (c : UInt8) (W : World) (hd : DecAt W S b d) (ho : d.own.length ≤ 1025) (hs : d.sum ≤ 1048576) (hE : Env W) (hO : Off S) :
    Calls Tryd.prog 30 #[.pointer (some ⟨b, 0, none⟩), .int .u8 (c.toNat : Int)] W fun e W' => e = .returned (.tuple #[]) ∧ Moved S b (sizeD d c) W W' := by
  have HSB : S b := by obtain ⟨_, _, _, _, h⟩ := hd; exact h.sb
  have hr : sizeD d c = match lineF d c with
    | (d1, none) => d1
    | (d1, some s) => match sizeF s with
      | none => { d1 with e := 32 }
      | some n => if 1048576 - d1.sum < n then { d1 with e := 3 } else if n = 0 then { d1 with st := 3 } else { d1 with sum := d1.sum + n, left := n, st := 1 } := rfl
  have hl := line_walk S b d c W hd ho
  have hle := fun s => line_some_le d c s
  have hsm := (line_same d c).1
  generalize sizeD d c = D at hr ⊢
  generalize lineF d c = q at hr hl hle hsm
  obtain ⟨d1, o⟩ := q
  simp only at hsm
  have hs1 : (d1.sum : Int) ≤ 1048576 := by omega
  have hs1' : d1.sum ≤ 1048576 := by omega
  have HL := Lib.hid hl
  have HR := Lib.hid hr
  have HLE := Lib.hid hle
  have HE := Lib.hid hE
  clear hr hd hl hle hE hsm
  go_enter Tryd.func30, Tryd.ntmps30
  go_wp2_with fail
  refine HL.out.mono ?_
  rintro e w1 ⟨rfl, t1, S1, hS1, vo, vu, Fo, Fu, h1⟩
  have HE1 := Lib.hid (HE.out.tch hO t1)
  cases o with
  | none =>
    obtain rfl : D = d1 := HR.out
    have H1 := Lib.hid h1
    have T1 := Lib.hid t1
    have HS1 := Lib.hid hS1
    clear h1 t1 hS1
    go_wp2
    refine bodyPost_ret (results_none rfl _ _ _) rfl ?_
    exact ⟨rfl, T1.out, S1, HS1.out, H1.out.at_⟩
  | some s =>
    have H1 := Lib.hid h1
    have T1 := Lib.hid t1
    have HS1 := Lib.hid hS1
    clear h1 t1 hS1
    have hv : strV (some s) = .string (sb s) := rfl
    rw [hv]
    have hpar := size_walk (sb s) w1 (by rw [sb_size]; have := HLE.out s rfl ho; omega) HE1.out.1
    rw [bl_sb] at hpar
    have HPAR := Lib.hid hpar
    generalize sb s = ss at HPAR
    have hR2 := HR.out
    simp only at hR2
    have HR2 := Lib.hid hR2
    clear hv hpar HR hR2
    go_wp2_with fail
    refine HPAR.out.mono ?_
    unfold SizePost
    have HLT : ∀ n, sizeF s = some n → n ≤ 4294967295 := by
      intro n hn
      unfold sizeF at hn
      split at hn
      · cases hn
      · exact hxGo_le _ _ _ hn (by omega)
    generalize sizeF s = R at HR2 HLT
    rintro e w2 ⟨rfl, hb2⟩
    have h2 := H1.out.below hb2
    obtain ⟨⟨_, c1, c2, c3, _, _, _, c7⟩, f1, f2, f3, _, _, _, f7⟩ := h2.facts
    have H2 := Lib.hid h2
    have T2 := Lib.hid (T1.out.trans (Tch.of_below hb2 (fun _ => False)) (fun k hk => hk.elim))
    clear h2 hb2 HPAR
    cases R with
    | none =>
      simp only [Option.getD_none, Option.isSome_none]
      go_wp2
      go_end0
      refine ⟨rfl, ?_⟩
      rw [HR2.out]
      exact Moved.set T2.out HS1.out H2.out 7 (.int .i64 (32 : Nat)) HSB (H2.out.putE 32)
    | some n =>
      simp only [Option.getD_some, Option.isSome_some]
      have hn := HLT n rfl
      have hnI : (n : Int) ≤ 4294967295 := by omega
      have hn0 : 0 ≤ (n : Int) := by omega
      have hR3 := HR2.out
      simp only at hR3
      have HR3 := Lib.hid hR3
      clear HLT HR2 hR3
      by_cases hbig : 1048576 - d1.sum < n
      · have hbI : (1048576 : Int) - d1.sum < n := by omega
        go_wp2
        go_end0
        refine ⟨rfl, ?_⟩
        rw [HR3.out, if_pos hbig]
        exact Moved.set T2.out HS1.out H2.out 7 (.int .i64 (3 : Nat)) HSB (H2.out.putE 3)
      · have hbI : ¬ (1048576 : Int) - d1.sum < n := by omega
        by_cases h0 : n = 0
        · have hq : ((n : Int) == 0) = true := by rw [h0]; rfl
          have HH := Lib.hid h0
          clear h0
          go_wp2
          go_end0
          refine ⟨rfl, ?_⟩
          rw [HR3.out, if_neg hbig, if_pos HH.out]
          exact Moved.set T2.out HS1.out H2.out 1 (.int .i64 (3 : Nat)) HSB (H2.out.putSt 3)
        · have hq : ((n : Int) == 0) = false := by simp; omega
          have HH := Lib.hid h0
          clear h0
          go_wp2
          go_end0
          refine ⟨rfl, ?_⟩
          rw [HR3.out, if_neg hbig, if_neg HH.out]
          have h3 := H2.out.putSum (d1.sum + n)
          have h4 := h3.putLeft n
          have h5 := h4.putSt 1
          exact Moved.set ((T2.out.setCell (.inl HSB) _).setCell (.inl HSB) _) HS1.out h4 1 (.int .i64 (1 : Nat)) HSB h5
end Go.Proofs.YtkfiafclddnaoaaDoor.Tk
