/- Plain law: chunks, and the last one, are read as their pieces. -/
import Derived.Test.YtkfiafclddnaoaaDoorCutsP
import Derived.Test.YtkfiafclddnaoaaDoorRef7
import Derived.Test.YtkfiafclddnaoaaDoorChunk
set_option linter.unusedVariables false
set_option linter.unusedSimpArgs false
namespace Go.Proofs.YtkfiafclddnaoaaDoor.Tk
open Go.RowKit Go.Proofs.YtkfiafclddnaoaaDoorW.PrintWords Go.Proofs.YtkfiafclddnaoaaDoorW.PrintLast Go.Proofs.YtkfiafclddnaoaaDoor.Rw

def hb (d : Nat) : UInt8 := UInt8.ofNat (Fm.hexc d)
def hexB (n : Nat) : Bs := if n < 16 then [hb n] else if n < 256 then [hb (n / 16), hb (n % 16)] else [hb (n / 256), hb (n / 16 % 16), hb (n % 16)]
theorem hb_nat (d : Nat) (h : d < 16) : ((hb d).toNat : Int) = (Fm.hexc d : Int) := by
  have key : ∀ n : Fin 16, (hb n.1).toNat = Fm.hexc n.1 := by decide +kernel
  rw [key ⟨d, h⟩]
theorem hexB_ib (n : Nat) (h : n < 4096) : ib (hexB n) = Fm.hexl n := by
  unfold hexB
  by_cases h1 : n < 16
  · rw [if_pos h1, Fm.hexl_small h1]
    simp [ib, hb_nat n h1]
  · rw [if_neg h1, Fm.hexl_step (by omega)]
    by_cases h2 : n < 256
    · rw [if_pos h2, Fm.hexl_small (by omega)]
      simp [ib, hb_nat (n / 16) (by omega), hb_nat (n % 16) (by omega)]
    · rw [if_neg h2, Fm.hexl_step (by omega), Fm.hexl_small (by omega)]
      simp [ib, hb_nat (n / 256) (by omega), hb_nat (n / 16 % 16) (by omega), hb_nat (n % 16) (by omega), Nat.div_div_eq_div_mul]
theorem hexB_facts (n : Nat) (h : n ≤ 300) : (hexB n).all hxd = true ∧ 0 < (hexB n).length ∧ (hexB n).length ≤ 3 ∧ hv 0 (hexB n) = n ∧ (hexB n).all (· != 10) = true := by
  have key : ∀ n : Fin 301, (hexB n.1).all hxd = true ∧ 0 < (hexB n.1).length ∧ (hexB n.1).length ≤ 3 ∧ hv 0 (hexB n.1) = n.1 ∧ (hexB n.1).all (· != 10) = true := by decide +kernel
  exact key ⟨n, by omega⟩
theorem hexB_size (n : Nat) (h : n ≤ 300) : sizeF (hexB n) = some n := by
  obtain ⟨h1, h2, h3, h4, _⟩ := hexB_facts n h
  have ht : (hexB n).take (hexB n).length = hexB n := List.take_length
  obtain ⟨hN, _, c2, _⟩ := size_cases (l := hexB n) (k := (hexB n).length) (Nat.le_refl _) (by rw [ht]; exact h1) (fun c hc => by rw [List.getElem?_eq_none (Nat.le_refl _)] at hc; cases hc) (by omega)
  have hm : more (hexB n) = [] := by
    unfold more
    rw [hN, List.drop_length]
    rfl
  rw [c2 h2 hm, ht, h4]
def All (d : DS) (l : Bs) (D : DS) : Prop := feedGo d l = (D, l.length)
theorem All.nil (d : DS) : All d [] d := rfl
theorem All.app {d d1 d2 : DS} {a b : Bs} (h : All d a d1) (k : All d1 b d2) : All d (a ++ b) d2 := by
  unfold All at *
  rw [feed_app, h]
  simp only [if_true]
  rw [k, List.length_append]
theorem All.one {d : DS} {c : UInt8} (h : stops d = false) : All d [c] (stepD d c) := feed_one d c h
theorem All.cons {d d2 : DS} {c : UInt8} {r : Bs} (h : stops d = false) (k : All (stepD d c) r d2) : All d (c :: r) d2 := All.app (a := [c]) (All.one h) k
/-- Bytes of a line, but its end. -/
theorem all_line (st : Nat) (hst : st = 0 ∨ st = 2 ∨ st = 3) : ∀ (x : Bs) (left sum : Nat) (own out : Bs), x.all (· != 10) = true → own.length + x.length ≤ 1025 →
    All { st := st, left := left, sum := sum, own := own, out := out, done := false, e := 0 } x { st := st, left := left, sum := sum, own := own ++ x, out := out, done := false, e := 0 }
  | [], left, sum, own, out, _, _ => by rw [List.append_nil]; exact All.nil _
  | c :: r, left, sum, own, out, ha, hl => by
    simp only [List.all_cons, Bool.and_eq_true] at ha
    have hc : ¬ c = 10 := by simpa using ha.1
    rw [List.length_cons] at hl
    refine All.cons rfl ?_
    have hs : stepD { st := st, left := left, sum := sum, own := own, out := out, done := false, e := 0 } c = { st := st, left := left, sum := sum, own := own ++ [c], out := out, done := false, e := 0 } := by
      have hlf : lineF { st := st, left := left, sum := sum, own := own, out := out, done := false, e := 0 } c = ({ st := st, left := left, sum := sum, own := own ++ [c], out := out, done := false, e := 0 }, none) := by
        unfold lineF
        rw [if_neg (by simp only; omega), if_neg hc]
      rcases hst with rfl | rfl | rfl
      · simp only [stepD, sizeD, hlf]
      · simp only [stepD, behindD, hlf]
      · simp only [stepD, fieldsD, hlf]
    rw [hs]
    have := all_line st hst r left sum (own ++ [c]) out ha.2 (by rw [List.length_append]; simp; omega)
    rwa [List.append_assoc] at this
theorem line_end (d : DS) (s : Bs) (ho : d.own = s ++ [13]) (hl : s.length ≤ 1000) : lineF d 10 = ({ d with own := [] }, some s) := by
  unfold lineF
  rw [if_neg (by rw [ho, List.length_append]; simp; omega), if_pos rfl, ho]
  simp [Lib.trimSuffix, Lib.hasSuffix]
def st0 (s : Nat) (g : Bs) : DS := { st := 0, left := 0, sum := s, own := [], out := g, done := false, e := 0 }
theorem all_data : ∀ (p : Bs) (sum : Nat) (g : Bs), p ≠ [] →
    All { st := 1, left := p.length, sum := sum, own := [], out := g, done := false, e := 0 } p { st := 2, left := 0, sum := sum, own := [], out := g ++ p, done := false, e := 0 }
  | [], _, _, h => absurd rfl h
  | [c], sum, g, _ => All.cons rfl (by simp [stepD, dataF, All, feedGo])
  | c :: d :: r, sum, g, _ => by
    refine All.cons rfl ?_
    have hs : stepD { st := 1, left := (c :: d :: r).length, sum := sum, own := [], out := g, done := false, e := 0 } c = { st := 1, left := (d :: r).length, sum := sum, own := [], out := g ++ [c], done := false, e := 0 } := by
      simp [stepD, dataF]
    rw [hs]
    have := all_data (d :: r) sum (g ++ [c]) (by simp)
    rwa [List.append_assoc] at this
/-- A piece's chunk. -/
def chunkB (p : Bs) : Bs := if p = [] then [] else hexB p.length ++ [13, 10] ++ p ++ [13, 10]
theorem chunkB_ib (p : Bs) (h : p.length ≤ 300) : ib (chunkB p) = Fm.chunk (ib p) := by
  unfold chunkB Fm.chunk
  rw [ib_length]
  by_cases h0 : p = []
  · rw [if_pos h0, if_pos (by rw [h0]; rfl)]; rfl
  · rw [if_neg h0, if_neg (by intro h; exact h0 (List.eq_nil_of_length_eq_zero h)), ib_app, ib_app, ib_app, hexB_ib _ (by omega)]
    rfl
theorem chunkB_len (p : Bs) (h : p.length ≤ 300) : (chunkB p).length ≤ 310 := by
  unfold chunkB
  split
  · simp
  · have := (hexB_facts p.length h).2.2.1
    simp
    omega
theorem all_chunk (p : Bs) (h : p.length ≤ 300) (s : Nat) (g : Bs) (hs : s + p.length ≤ 1048576) : All (st0 s g) (chunkB p) (st0 (s + p.length) (g ++ p)) := by
  unfold chunkB
  by_cases h0 : p = []
  · rw [if_pos h0, h0, List.append_nil]
    exact All.nil _
  · rw [if_neg h0]
    have hlen : 0 < p.length := List.length_pos_iff.2 h0
    obtain ⟨h1, h2, h3, h4, h5⟩ := hexB_facts p.length h
    have e1 : hexB p.length ++ [13, 10] ++ p ++ [13, 10] = (hexB p.length ++ [13]) ++ ([10] ++ (p ++ ([13] ++ [10]))) := by simp
    rw [e1]
    have a1 := all_line 0 (.inl rfl) (hexB p.length ++ [13]) 0 s [] g (by rw [List.all_append, h5]; rfl) (by simp; omega)
    rw [List.nil_append] at a1
    refine All.app a1 (All.app (All.one rfl) ?_)
    have hst : stepD { st := 0, left := 0, sum := s, own := hexB p.length ++ [13], out := g, done := false, e := 0 } 10 = { st := 1, left := p.length, sum := s + p.length, own := [], out := g, done := false, e := 0 } := by
      have hlf := line_end { st := 0, left := 0, sum := s, own := hexB p.length ++ [13], out := g, done := false, e := 0 } (hexB p.length) rfl (by omega)
      simp only [stepD, sizeD, hlf, hexB_size p.length h]
      rw [if_neg (by omega), if_neg (by omega)]
    rw [hst]
    refine All.app (all_data p (s + p.length) g h0) ?_
    have a2 := all_line 2 (.inr (.inl rfl)) [13] 0 (s + p.length) [] (g ++ p) rfl (by decide)
    refine All.app a2 ?_
    have hst2 : stepD { st := 2, left := 0, sum := s + p.length, own := [] ++ [13], out := g ++ p, done := false, e := 0 } 10 = st0 (s + p.length) (g ++ p) := by
      have hlf := line_end { st := 2, left := 0, sum := s + p.length, own := [] ++ [13], out := g ++ p, done := false, e := 0 } [] rfl (by decide)
      simp only [stepD, behindD, hlf, if_true]
      rfl
    have a3 := All.one (d := { st := 2, left := 0, sum := s + p.length, own := [] ++ [13], out := g ++ p, done := false, e := 0 }) (c := 10) rfl
    rwa [hst2] at a3
def lastB : Bs := [48, 13, 10, 13, 10]
theorem all_last (s : Nat) (g : Bs) (hs : s ≤ 1048576) : All (st0 s g) lastB { st := 3, left := 0, sum := s, own := [], out := g, done := true, e := 0 } := by
  have a1 := all_line 0 (.inl rfl) [48, 13] 0 s [] g (by decide) (by decide)
  have a2 := all_line 3 (.inr (.inr rfl)) [13] 0 s [] g (by decide) (by decide)
  have hst : stepD { st := 0, left := 0, sum := s, own := [] ++ [48, 13], out := g, done := false, e := 0 } 10 = { st := 3, left := 0, sum := s, own := [], out := g, done := false, e := 0 } := by
    have hlf := line_end { st := 0, left := 0, sum := s, own := [] ++ [48, 13], out := g, done := false, e := 0 } [48] rfl (by decide)
    have hz : sizeF [48] = some 0 := hexB_size 0 (by omega)
    simp only [stepD, sizeD, hlf, hz]
    rw [if_neg (by omega)]
    simp
  have hst2 : stepD { st := 3, left := 0, sum := s, own := [] ++ [13], out := g, done := false, e := 0 } 10 = { st := 3, left := 0, sum := s, own := [], out := g, done := true, e := 0 } := by
    have hlf := line_end { st := 3, left := 0, sum := s, own := [] ++ [13], out := g, done := false, e := 0 } [] rfl (by decide)
    simp only [stepD, fieldsD, hlf, if_true]
  have a3 := All.one (d := { st := 0, left := 0, sum := s, own := [] ++ [48, 13], out := g, done := false, e := 0 }) (c := 10) rfl
  rw [hst] at a3
  have a4 := All.one (d := { st := 3, left := 0, sum := s, own := [] ++ [13], out := g, done := false, e := 0 }) (c := 10) rfl
  rw [hst2] at a4
  exact All.app (a := [48, 13]) a1 (All.app (a := [10]) a3 (All.app (a := [13]) a2 a4))
/-- The wire of pieces, and the pieces together. -/
def wireB : List Bs → Bs
  | [] => []
  | p :: r => chunkB p ++ wireB r
def bodyB : List Bs → Bs
  | [] => []
  | p :: r => p ++ bodyB r
theorem wire_snoc : ∀ (ps : List Bs) (p : Bs), wireB (ps ++ [p]) = wireB ps ++ chunkB p
  | [], p => by simp [wireB]
  | q :: r, p => by rw [List.cons_append, wireB, wireB, wire_snoc r p, List.append_assoc]
theorem body_snoc : ∀ (ps : List Bs) (p : Bs), bodyB (ps ++ [p]) = bodyB ps ++ p
  | [], p => by simp [bodyB]
  | q :: r, p => by rw [List.cons_append, bodyB, bodyB, body_snoc r p, List.append_assoc]
theorem wire_all : ∀ (ps : List Bs) (s : Nat) (g : Bs), (∀ p ∈ ps, p.length ≤ 300) → s + 300 * ps.length ≤ 1048576 → ∃ s', s' ≤ s + 300 * ps.length ∧ All (st0 s g) (wireB ps) (st0 s' (g ++ bodyB ps))
  | [], s, g, _, _ => ⟨s, Nat.le_refl _, by rw [bodyB, List.append_nil]; exact All.nil _⟩
  | p :: r, s, g, h, hs => by
    have hp := h p (by simp)
    rw [List.length_cons] at hs
    obtain ⟨s', h1, h2⟩ := wire_all r (s + p.length) (g ++ p) (fun q hq => h q (by simp [hq])) (by omega)
    refine ⟨s', by rw [List.length_cons]; omega, ?_⟩
    rw [bodyB, wireB, ← List.append_assoc]
    exact All.app (all_chunk p hp s g (by omega)) h2
theorem body_len : ∀ (ps : List Bs), (∀ p ∈ ps, p.length ≤ 300) → (bodyB ps).length ≤ 300 * ps.length ∧ (wireB ps).length ≤ 310 * ps.length
  | [], _ => by simp [bodyB, wireB]
  | p :: r, h => by
    have h1 := body_len r (fun q hq => h q (by simp [hq]))
    have h2 := h p (by simp)
    have h3 := chunkB_len p h2
    simp only [bodyB, wireB, List.length_append, List.length_cons]
    omega
/-- What the decoder comes to at the whole wire. -/
theorem back_all (ps : List Bs) (mo : Bs) (h : ∀ p ∈ ps, p.length ≤ 300) (h20 : ps.length ≤ 20) :
    ∃ D, feedGo (newD 2 0) ((wireB ps ++ lastB) ++ mo) = (D, (wireB ps ++ lastB).length) ∧ D.done = true ∧ D.e = 0 ∧ D.out = bodyB ps := by
  obtain ⟨s', h1, h2⟩ := wire_all ps 0 [] h (by omega)
  have h3 := All.app h2 (all_last s' ([] ++ bodyB ps) (by omega))
  refine ⟨{ st := 3, left := 0, sum := s', own := [], out := [] ++ bodyB ps, done := true, e := 0 }, ?_, rfl, rfl, List.nil_append _⟩
  show feedGo (st0 0 []) _ = _
  rw [feed_app, h3]
  simp only [if_true]
  rw [feed_no _ _ rfl]
  rfl
theorem feed_out : ∀ (l : Bs) (d : DS), DOk d → (feedGo d l).1.out.length ≤ d.out.length + (feedGo d l).2
  | [], d, h => by simp [feedGo]
  | c :: r, d, h => by
    by_cases hs : stops d = true
    · rw [feed_no _ _ hs]
      simp
    · have hs' : d.done = false ∧ d.e = 0 := by
        unfold stops at hs
        simpa using hs
      obtain ⟨h1, h2⟩ := step_ok d c h hs'.2 hs'.1
      have := feed_out r (stepD d c) h1
      rw [feed_go _ _ _ hs]
      simp only
      omega
/-- A piece of what is left. -/
theorem back_round {g : Bs} {d' D : DS} {wi : Bs} {k q m : Nat} (h : feedGo (told g d') (wi.drop k) = (D, m)) (he : D.e = 0) (hk : k ≤ q) (hq : q ≤ wi.length) :
    (feedGo d' ((wi.drop k).take (q - k))).1.e = 0 ∧ ((feedGo d' ((wi.drop k).take (q - k))).1.done = false → (feedGo d' ((wi.drop k).take (q - k))).2 = q - k) ∧
      ∃ m', feedGo (told g (feedGo d' ((wi.drop k).take (q - k))).1) (wi.drop (k + (feedGo d' ((wi.drop k).take (q - k))).2)) = (D, m') ∧ (feedGo d' ((wi.drop k).take (q - k))).2 + m' = m := by
  have hs : wi.drop k = (wi.drop k).take (q - k) ++ wi.drop q := by
    have := List.take_append_drop (q - k) (wi.drop k)
    rw [List.drop_drop, show k + (q - k) = q by omega] at this
    exact this.symm
  have hl : ((wi.drop k).take (q - k)).length = q - k := by rw [List.length_take, List.length_drop]; omega
  rw [hs] at h
  generalize (wi.drop k).take (q - k) = sl at h hl ⊢
  have hleft := feed_left d' sl
  rw [feed_app, feed_told] at h
  generalize feedGo d' sl = sn at h hleft ⊢
  obtain ⟨s, n⟩ := sn
  simp only at h hleft ⊢
  by_cases hn : n = sl.length
  · rw [if_pos hn] at h
    have he0 : s.e = 0 := by
      refine Classical.byContradiction fun hne => ?_
      have hst : stops (told g s) = true := by rw [stops_told]; unfold stops; simp [hne]
      rw [feed_no _ _ hst] at h
      injection h with h1 _
      rw [← h1] at he
      exact hne he
    refine ⟨he0, fun _ => by omega, (feedGo (told g s) (wi.drop q)).2, ?_, ?_⟩
    · rw [show k + n = q by omega]
      injection h with h1 _
      rw [← h1]
    · injection h with _ h2
      omega
  · rw [if_neg hn] at h
    have hst := hleft hn
    injection h with h1 h2
    have he0 : s.e = 0 := by rw [← h1] at he; exact he
    refine ⟨he0, fun hd => ?_, 0, ?_, by omega⟩
    · unfold stops at hst
      rw [hd, he0] at hst
      cases hst
    · rw [feed_no _ _ (by rw [stops_told]; exact hst), h1]
end Go.Proofs.YtkfiafclddnaoaaDoor.Tk
