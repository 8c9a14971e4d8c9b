/- Walks: New and End. -/
import Derived.Test.YtkfiafclddnaoaaDoorFeed
set_option linter.unusedVariables false
set_option linter.unusedSimpArgs false
namespace Go.Proofs.YtkfiafclddnaoaaDoor.Tk
open Go.RowKit Go.Proofs.YtkfiafclddnaoaaDoorW.PrintWords Go.Proofs.YtkfiafclddnaoaaDoorW.PrintLast Go.Proofs.YtkfiafclddnaoaaDoor.Rw

def newBad (kind n : Int) : Nat := if kind < 0 ∨ 3 < kind ∨ n < 0 ∨ (0 < n ∧ kind ≠ 1) then 2 else if 1048576 < n then 3 else 0
def newD (kind n : Int) : DS := { st := if kind = 2 then 0 else if kind = 3 then 5 else 4, left := n.toNat, sum := 0, own := [], out := [], done := decide (n = 0 ∧ kind ≤ 1), e := 0 }
theorem newD_ok (kind n : Int) (h : newBad kind n = 0) : DOk (newD kind n) := by
  unfold newBad at h
  split at h
  · cases h
  · split at h
    · cases h
    · refine ⟨?_, by simp [newD], ?_, fun _ => by simp [newD], ?_, ?_⟩
      · simp only [newD]; split
        · omega
        · split <;> omega
      · simp only [newD]; omega
      · simp only [newD]; split
        · omega
        · split <;> omega
      · intro h4 hd
        simp only [newD, decide_eq_false_iff_not, not_and] at h4 hd ⊢
        have hk : kind ≠ 2 ∧ kind ≠ 3 := by
          constructor
          · intro hk; rw [if_pos hk] at h4; cases h4
          · intro hk; subst hk; simp at h4
        have : n ≠ 0 := fun h => hd h (by omega)
        omega
def NewP (kind n : Int) (W : World) (e : Ending) (W' : World) : Prop :=
  Below W.heap.size W W' ∧ ((newBad kind n ≠ 0 ∧ e = .returned (.tuple #[.pointer none, .int .i64 (newBad kind n)])) ∨
    (newBad kind n = 0 ∧ ∃ b S, e = .returned (.tuple #[.pointer (some ⟨b, 0, none⟩), .int .i64 (0 : Nat)]) ∧ (∀ k, S k → W.heap.size ≤ k) ∧ DecAt W' S b (newD kind n)))
theorem new_dec (W : World) (d : DS) (ho : d.own = []) (hu : d.out = []) (v : Array Value) (hv : v = (d.vals (.slice none 0 0) (.slice none 0 0)).toArray) :
    DecAt (W.alloc (.cells v 70)) (fun k => k = W.heap.size) W.heap.size d := by
  subst hv
  refine ⟨.slice none 0 0, .slice none 0 0, fun _ => False, fun _ => False, ?_, ?_, ?_, fun _ h => h.elim, fun _ h => h.elim, fun _ h => h.elim, rfl, fun k hk => by rw [hk]; simp⟩
  · intro j u hj
    have hg := heap_alloc_new W (.cells (d.vals (.slice none 0 0) (.slice none 0 0)).toArray 70)
    unfold World.cell? World.frozen?
    simp only [hg, Nat.zero_add]
    exact ⟨by simpa using hj, by simp⟩
  · rw [ho]; exact Row.nil _ _ _
  · rw [hu]; exact Row.nil _ _ _
theorem new_fin {W W1 : World} (hb : W1.heap.size = W.heap.size + 1) (d : DS) (ho : d.own = []) (hu : d.out = []) (v : Array Value) (hv : v = (d.vals (.slice none 0 0) (.slice none 0 0)).toArray) :
    ∃ (b : Nat) (S : Nat → Prop), Ending.returned (.tuple #[.pointer (some ⟨W.heap.size + 1, 0, none⟩), .int .i64 0]) = .returned (.tuple #[.pointer (some ⟨b, 0, none⟩), .int .i64 (0 : Nat)]) ∧ (∀ k, S k → W.heap.size ≤ k) ∧ DecAt (W1.alloc (.cells v 70)) S b d :=
  ⟨_, _, rfl, fun k hk => by have hk : k = W1.heap.size := hk; omega, by rw [← hb]; exact new_dec W1 d ho hu v hv⟩
set_option maxRecDepth 100000 in
set_option maxHeartbeats 2000000 in
theorem new_walk (kind n : Int) (W : World) : Calls Tryd.prog 19 #[.int .i64 kind, .int .i64 n] W (NewP kind n W) := by
  by_cases hb : kind < 0 ∨ 3 < kind ∨ n < 0 ∨ (0 < n ∧ kind ≠ 1)
  · have hr : newBad kind n = 2 := if_pos hb
    have HR := Lib.hid hr
    rcases (show kind < 0 ∨ (¬ kind < 0 ∧ 3 < kind) ∨ (¬ kind < 0 ∧ ¬ 3 < kind ∧ n < 0) ∨ (¬ kind < 0 ∧ ¬ 3 < kind ∧ ¬ n < 0 ∧ 0 < n ∧ kind ≠ 1) by omega) with h1 | ⟨h1, h2⟩ | ⟨h1, h2, h3⟩ | ⟨h1, h2, h3, h4, h5⟩
    all_goals
      (try have h5' : (kind != 1) = true := by simpa using h5)
      clear hr hb
      (try clear h5)
      go_enter Tryd.func19, Tryd.ntmps19
      go_wp2
      go_ret2
      exact ⟨Below.refl _ _, .inl ⟨by rw [HR.out]; omega, by rw [HR.out]; rfl⟩⟩
  · by_cases hg : 1048576 < n
    · have hr : newBad kind n = 3 := by unfold newBad; rw [if_neg hb, if_pos hg]
      have HR := Lib.hid hr
      obtain rfl : kind = 1 := by omega
      have h3 : ¬ n < 0 := by omega
      clear hr hb
      go_enter Tryd.func19, Tryd.ntmps19
      go_wp2
      go_ret2
      exact ⟨Below.refl _ _, .inl ⟨by rw [HR.out]; omega, by rw [HR.out]; rfl⟩⟩
    · have hr : newBad kind n = 0 := by unfold newBad; rw [if_neg hb, if_neg hg]
      have HR := Lib.hid hr
      rcases (show (kind = 0 ∧ n = 0) ∨ (kind = 1 ∧ n = 0) ∨ (kind = 1 ∧ 0 < n) ∨ (kind = 2 ∧ n = 0) ∨ (kind = 3 ∧ n = 0) by omega) with ⟨rfl, rfl⟩ | ⟨rfl, rfl⟩ | ⟨rfl, h1⟩ | ⟨rfl, rfl⟩ | ⟨rfl, rfl⟩
      · clear hr hb hg
        go_enter Tryd.func19, Tryd.ntmps19
        go_wp2
        go_ret2
        exact ⟨((Below.refl _ _).alloc (Nat.le_refl _) _).alloc (by simp) _, .inr ⟨HR.out, new_fin (by simp) (newD 0 0) rfl rfl _ rfl⟩⟩
      · clear hr hb hg
        go_enter Tryd.func19, Tryd.ntmps19
        go_wp2
        go_ret2
        exact ⟨((Below.refl _ _).alloc (Nat.le_refl _) _).alloc (by simp) _, .inr ⟨HR.out, new_fin (by simp) (newD 1 0) rfl rfl _ rfl⟩⟩
      · obtain ⟨m, rfl⟩ : ∃ m : Nat, n = m := ⟨n.toNat, by omega⟩
        have h1I : 0 < (m : Int) := h1
        have hq : ((m : Int) == 0) = false := by simp; omega
        have hv : ∀ (vo vu : Value), (newD 1 m).vals vo vu = [.bool true, .int .i64 4, .int .i64 m, .int .i64 0, vo, vu, .bool false, .int .i64 0] := by
          intro vo vu
          unfold newD DS.vals
          have : decide ((m : Int) = 0 ∧ (1 : Int) ≤ 1) = false := by simp; omega
          simp only [this]; rfl
        have HV := Lib.hid hv
        have h3 : ¬ (m : Int) < 0 := by omega
        clear hr hb h1 hv
        go_enter Tryd.func19, Tryd.ntmps19
        go_wp2
        go_ret2
        exact ⟨((Below.refl _ _).alloc (Nat.le_refl _) _).alloc (by simp) _, .inr ⟨HR.out, new_fin (by simp) (newD 1 m) rfl rfl _ (by rw [HV.out])⟩⟩
      · clear hr hb hg
        go_enter Tryd.func19, Tryd.ntmps19
        go_wp2
        go_ret2
        exact ⟨((Below.refl _ _).alloc (Nat.le_refl _) _).alloc (by simp) _, .inr ⟨HR.out, new_fin (by simp) (newD 2 0) rfl rfl _ rfl⟩⟩
      · clear hr hb hg
        go_enter Tryd.func19, Tryd.ntmps19
        go_wp2
        go_ret2
        exact ⟨((Below.refl _ _).alloc (Nat.le_refl _) _).alloc (by simp) _, .inr ⟨HR.out, new_fin (by simp) (newD 3 0) rfl rfl _ rfl⟩⟩

def endF (d : DS) : DS := if stops d then d else if d.st = 5 then { d with done := true } else { d with e := 20 }
theorem endF_ok (d : DS) (h : DOk d) : DOk (endF d) := by
  unfold endF
  split
  · exact h
  · split
    · exact ⟨h.st, h.sum, h.left, h.own, h.l1, fun _ h => by cases h⟩
    · exact ⟨h.st, h.sum, h.left, (fun h => by cases h), h.l1, h.l4⟩
set_option maxRecDepth 100000 in
set_option maxHeartbeats 2000000 in
theorem end_walk (S : Nat → Prop) (b : Nat) (d : DS) (W : World) (hd : DecAt W S b d) (hst : d.st ≤ 5) :
    Calls Tryd.prog 23 #[.pointer (some ⟨b, 0, none⟩)] W fun e W' => e = .returned (.tuple #[.bool (endF d).done, .int .i64 (endF d).e]) ∧ Moved S b (endF d) W W' := by
  obtain ⟨vo, vu, Fo, Fu, h⟩ := hd
  obtain ⟨⟨c0, c1, _, _, _, _, c6, c7⟩, _, _, _, _, _, f6, f7⟩ := h.facts
  have HSB := h.sb
  have H := Lib.hid h
  clear h
  by_cases hs : stops d = true
  · have hr : endF d = d := if_pos hs
    have HR := Lib.hid hr
    cases hdn : d.done with
    | true =>
      rw [hdn] at c6
      have HDN := Lib.hid hdn
      clear hs hr hdn
      go_enter Tryd.func23, Tryd.ntmps23
      go_wp2_with fail
      refine (none_walk W b c0).mono ?_
      rintro e w1 ⟨rfl, rfl⟩
      go_wp2
      go_quiet (fail)
      go_wp2
      go_ret2
      exact ⟨by rw [HR.out, HDN.out]; rfl, by rw [HR.out]; exact ⟨(Tch.refl _ _).drewN _, S, fun _ h => .inl h, (H.out.drewN _).at_⟩⟩
    | false =>
      rw [hdn] at c6
      have hq : ((d.e : Int) != 0) = true := by
        unfold stops at hs
        rw [hdn] at hs
        simp only [Bool.false_or, bne_iff_ne, ne_eq] at hs ⊢
        omega
      have HDN := Lib.hid hdn
      clear hs hr hdn
      go_enter Tryd.func23, Tryd.ntmps23
      go_wp2_with fail
      refine (none_walk W b c0).mono ?_
      rintro e w1 ⟨rfl, rfl⟩
      go_wp2
      go_quiet (fail)
      go_wp2
      go_ret2
      exact ⟨by rw [HR.out, HDN.out]; rfl, by rw [HR.out]; exact ⟨(Tch.refl _ _).drewN _, S, fun _ h => .inl h, (H.out.drewN _).at_⟩⟩
  · have hs' : d.done = false ∧ d.e = 0 := by
      unfold stops at hs
      simpa using hs
    obtain ⟨hdn, he⟩ := hs'
    rw [hdn] at c6
    rw [he] at c7
    by_cases h5 : d.st = 5
    · have hr : endF d = { d with done := true } := by unfold endF; rw [if_neg hs, if_pos h5]
      have HR := Lib.hid hr
      rw [h5] at c1
      have HE := Lib.hid he
      have hp := H.out.putDone true
      have k7 := hp.facts.1.2.2.2.2.2.2.2
      have k6 := hp.facts.1.2.2.2.2.2.2.1
      simp only [he] at k7
      have HP := Lib.hid hp
      clear hs hr hdn he h5 hp hst
      go_enter Tryd.func23, Tryd.ntmps23
      go_wp2_with fail
      refine (none_walk W b c0).mono ?_
      rintro e w1 ⟨rfl, rfl⟩
      go_wp2
      go_quiet (fail)
      go_wp2
      go_ret2
      exact ⟨by rw [HR.out, HE.out]; rfl, by rw [HR.out]; exact ⟨((Tch.refl _ _).setCell (.inl HSB) _).drewN _, S, fun _ h => .inl h, (HP.out.drewN _).at_⟩⟩
    · have hr : endF d = { d with e := 20 } := by unfold endF; rw [if_neg hs, if_neg h5]
      have HR := Lib.hid hr
      have hq : ((d.st : Int) == 5) = false := by simp; omega
      have HE := Lib.hid hdn
      have hp := H.out.putE 20
      have k7 := hp.facts.1.2.2.2.2.2.2.2
      have k6 := hp.facts.1.2.2.2.2.2.2.1
      simp only [hdn] at k6
      have HP := Lib.hid hp
      clear hs hr hdn he h5 hp hst
      go_enter Tryd.func23, Tryd.ntmps23
      go_wp2_with fail
      refine (none_walk W b c0).mono ?_
      rintro e w1 ⟨rfl, rfl⟩
      go_wp2
      go_quiet (fail)
      go_wp2
      go_ret2
      exact ⟨by rw [HR.out, HE.out]; rfl, by rw [HR.out]; exact ⟨((Tch.refl _ _).setCell (.inl HSB) _).drewN _, S, fun _ h => .inl h, (HP.out.drewN _).at_⟩⟩
end Go.Proofs.YtkfiafclddnaoaaDoor.Tk
