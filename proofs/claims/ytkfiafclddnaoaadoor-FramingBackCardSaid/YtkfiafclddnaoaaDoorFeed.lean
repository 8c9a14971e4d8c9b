/- Walk: the decoder's Feed. -/
import Derived.Test.YtkfiafclddnaoaaDoorFeedP
import Derived.Test.YtkfiafclddnaoaaDoorRw2
import Derived.StillTailTactics
import Derived.Deep.DeepCutAuto
import Derived.Laws.EntriesVeiled
set_option linter.unusedVariables false
set_option linter.unusedSimpArgs false
namespace Go.Proofs.YtkfiafclddnaoaaDoor.Tk
open Go.RowKit Go.Proofs.YtkfiafclddnaoaaDoorW.PrintWords Go.Proofs.YtkfiafclddnaoaaDoorW.PrintLast Go.Proofs.YtkfiafclddnaoaaDoor.Rw

def meth (b : Nat) (f : FuncId) : Value := .func (.func f) #[.pointer (some ⟨b, 0, none⟩)] #[]
def meths (b : Nat) : List Value := [meth b 30, meth b 31, meth b 32, meth b 33, meth b 34, meth b 35]
theorem step_walk (S : Nat → Prop) (b : Nat) (d : DS) (c : UInt8) (W : World) (hd : DecAt W S b d) (hk : DOk d) (he : d.e = 0) (hdn : d.done = false) (ho : d.out.length ≤ 2000000) (hE : Env W) (hO : Off S) :
    ∃ f, (meths b)[d.st]? = some (meth b f) ∧ (∀ (args : Array Value) (w : World), (callFunc f args).run Tryd.prog w = .ok (.enter f args) w) ∧
      Calls Tryd.prog f #[.pointer (some ⟨b, 0, none⟩), .int .u8 (c.toNat : Int)] W fun e W' => e = .returned (.tuple #[]) ∧ Moved S b (stepD d c) W W' := by
  have hst := hk.st
  have hown := hk.own he
  unfold stepD
  generalize hq : d.st = n at hst
  match n, hst with
  | 0, _ => exact ⟨_, rfl, enters_ (P := Tryd.prog) Tryd.func30 (by kernel_rfl) (by kernel_rfl), size_d_walk S b d c W hd hown hk.sum hE hO⟩
  | 1, _ => exact ⟨_, rfl, enters_ (P := Tryd.prog) Tryd.func31 (by kernel_rfl) (by kernel_rfl), data_walk S b d c W hd ho (hk.l1 hq) hk.left⟩
  | 2, _ => exact ⟨_, rfl, enters_ (P := Tryd.prog) Tryd.func32 (by kernel_rfl) (by kernel_rfl), behind_walk S b d c W hd hown⟩
  | 3, _ => exact ⟨_, rfl, enters_ (P := Tryd.prog) Tryd.func33 (by kernel_rfl) (by kernel_rfl), fields_walk S b d c W hd hown hE hO⟩
  | 4, _ => exact ⟨_, rfl, enters_ (P := Tryd.prog) Tryd.func34 (by kernel_rfl) (by kernel_rfl), length_walk S b d c W hd ho (hk.l4 hq hdn) hk.left⟩
  | 5, _ => exact ⟨_, rfl, enters_ (P := Tryd.prog) Tryd.func35 (by kernel_rfl) (by kernel_rfl), rest_walk S b d c W hd ho hk.sum⟩
theorem feed_step {l : Bs} {dk D : DS} {k m : Nat} (hgo : feedGo dk (l.drop k) = (D, m)) (hk : k < l.length) (hs : stops dk = false) : ∃ m', m = m' + 1 ∧ feedGo (stepD dk l[k]) (l.drop (k + 1)) = (D, m') := by
  rw [List.drop_eq_getElem_cons hk] at hgo
  unfold feedGo at hgo
  rw [if_neg (by rw [hs]; simp)] at hgo
  injection hgo with h1 h2
  exact ⟨_, h2.symm, by rw [← h1]⟩
theorem feed_stop {l : Bs} {dk D : DS} {k m : Nat} (hgo : feedGo dk (l.drop k) = (D, m)) (hs : stops dk = true ∨ l.length ≤ k) : D = dk ∧ m = 0 := by
  cases hd : l.drop k with
  | nil => rw [hd] at hgo; unfold feedGo at hgo; injection hgo with h1 h2; exact ⟨h1.symm, h2.symm⟩
  | cons c r =>
    rcases hs with hs | hs
    · rw [hd] at hgo; unfold feedGo at hgo; rw [if_pos hs] at hgo; injection hgo with h1 h2; exact ⟨h1.symm, h2.symm⟩
    · rw [List.drop_of_length_le hs] at hd; cases hd
theorem drop_cons (l : Bs) (c : UInt8) (r : Bs) (k : Nat) (h : k < l.length) : (l.drop k = c :: r ↔ l[k]? = some c ∧ r = l.drop (k + 1)) := by
  rw [List.drop_eq_getElem_cons h, List.getElem?_eq_getElem h, List.cons.injEq, Option.some.injEq]
  exact ⟨fun ⟨a, b⟩ => ⟨a, b.symm⟩, fun ⟨a, b⟩ => ⟨a, b.symm⟩⟩
theorem meths_cells (w : World) (b : Nat) : ∀ k u, (meths b)[k]? = some u → (w.alloc (.cells (meths b).toArray 72)).cell? ⟨w.heap.size, k, none⟩ = some u := by
  intro k u hk
  have hg := heap_alloc_new w (.cells (meths b).toArray 72)
  unfold World.cell?
  simp only [hg]
  simpa using hk
theorem reads_touch0 {W W' : World} {F : Nat → Prop} {k : IntKind} {A : Option Addr} {n : Nat} {xs : List Int} (h : ReadsInt W k A n xs) (t : Tch F W W') (hF : 0 < n → ∀ ad, A = some ad → ¬ F ad.block) : ReadsInt W' k A n xs := by
  rcases Nat.eq_zero_or_pos n with h0 | h0
  · exact ⟨h.1, h.2.1, fun hp => absurd hp (by omega)⟩
  · exact reads_touch h t (hF h0)
theorem info1 : (Tryd.prog.info? 5).map (·.size) = some 1 := by kernel_rfl
/-- What a row gives to an append's or a copy's source. -/
theorem row_src {W : World} {F : Nat → Prop} {n c : Nat} {A : Option Addr} {k : IntKind} {xs : List Int} (h : Row W F 1 (.slice A n c) n (nums k xs)) :
    (A = none → n = 0) ∧ (∀ ad, A = some ad → ∀ j u, (nums k xs)[j]? = some u → W.cell? (ad.add j) = some u) ∧ ∀ u ∈ nums k xs, u.oneCell' = true := by
  obtain ⟨A', c', he, _, hR⟩ := row_reads h
  injection he with e1 e2 e3
  subst e1
  have := reads_src hR
  exact ⟨this.2.1, this.2.2.1, this.2.2.2⟩
/-- What Feed leaves: what it told, in a row of its own, how many bytes it took; the decoder. -/
def FeedP (S : Nat → Prop) (b : Nat) (d : DS) (l : Bs) (W : World) (e : Ending) (W' : World) : Prop :=
  ∃ v F, e = .returned (.tuple #[v, .int .i64 (feedGo { d with out := [] } l).2, .bool (feedGo { d with out := [] } l).1.done, .int .i64 (feedGo { d with out := [] } l).1.e]) ∧
    Row W' F 1 v (feedGo { d with out := [] } l).1.out.length (nums .u8 (ib (feedGo { d with out := [] } l).1.out)) ∧ (∀ k, F k → W.heap.size ≤ k) ∧ Moved S b (feedGo { d with out := [] } l).1 W W'
def FeedRel (S1 : Nat → Prop) (b : Nat) (d0 : DS) (l : Bs) (W1 : World) (v5 : Value) (wr : World) : Prop :=
  ∃ (k m : Nat) (dk : DS), v5 = .int .i64 k ∧ k ≤ l.length ∧ Moved S1 b dk W1 wr ∧ DOk dk ∧ dk.out.length ≤ k ∧ feedGo dk (l.drop k) = ((feedGo d0 l).1, m) ∧ k + m = (feedGo d0 l).2
set_option maxRecDepth 100000 in
set_option maxHeartbeats 4000000 in
theorem feed_walk (S : Nat → Prop) (b : Nat) (d : DS) (A : Option Addr) (n cp : Nat) (l : Bs) (W : World) (hd : DecAt W S b d) (hk : DOk d) (hE : Env W) (hO : Off S)
    (hR : ReadsInt W .u8 A n (ib l)) (hA : 0 < l.length → ∀ ad, A = some ad → ¬ S ad.block) (hl : l.length ≤ 1000000) :
    Calls Tryd.prog 20 #[.pointer (some ⟨b, 0, none⟩), .slice A n cp] W (FeedP S b d l W) := by
  have hnl : l.length = n := by have := hR.1; rwa [ib_length] at this
  subst hnl
  obtain ⟨vo, vu, Fo, Fu, h⟩ := hd
  obtain ⟨A1, c1, hv, _⟩ := h.out.slice
  subst hv
  obtain ⟨⟨k0, _, _, _, _, k5, _, _⟩, _, _, _, _, g5, _, _⟩ := h.facts
  have hbl := h.blt
  have HSB := h.sb
  have hrow0 : Row W Fu 1 (.slice A1 0 c1) ([] : Bs).length (nums .u8 (ib [])) := by
    have h2 := Row.upto h.out 0 (by omega)
    simpa [nums, ib] using h2
  obtain ⟨S1, F1, hS1, hD1⟩ := h.setOut (l := []) (v := .slice A1 0 c1) (Tch.refl _ _) hrow0 (fun k hk => .inl hk)
  have hS1b : ¬ S1 W.heap.size := fun hf => by have := hD1.lt _ hf; simp [World.setCell] at this
  have HD1 := Lib.hid (hD1.below ((Below.refl _ _).alloc (Nat.le_refl _) (.cells (meths b).toArray 72)))
  have HT1 := Lib.hid ((h.tchS (p := ⟨b, 5, none⟩) rfl (Tch.refl S W) (.slice A1 0 c1)).alloc (.cells (meths b).toArray 72))
  have HS1 := Lib.hid hS1
  have H := Lib.hid h
  have HE := Lib.hid hE
  have HK := Lib.hid hk
  have HR := Lib.hid hR
  have HA := Lib.hid hA
  clear h hD1 hS1 hrow0 hE hk hR hA
  go_enter Tryd.func20, Tryd.ntmps20
  have hmf : ∀ (fn : Fn) (first cap : Array Value) (w : World), (Instr.makeFunc fn first cap).run Tryd.prog w = .ok (.func fn first cap) w := fun _ _ _ _ => rfl
  go_wp2_with fail
  refine (none_walk W b k0).mono ?_
  rintro e w1 ⟨rfl, rfl⟩
  go_wp2
  generalize hW1 : (W.setCell ⟨b, 5, none⟩ (.slice A1 0 c1)).alloc (.cells #[.func (.func 30) #[.pointer (some ⟨b, 0, none⟩)] #[], .func (.func 31) #[.pointer (some ⟨b, 0, none⟩)] #[], .func (.func 32) #[.pointer (some ⟨b, 0, none⟩)] #[], .func (.func 33) #[.pointer (some ⟨b, 0, none⟩)] #[], .func (.func 34) #[.pointer (some ⟨b, 0, none⟩)] #[], .func (.func 35) #[.pointer (some ⟨b, 0, none⟩)] #[]] 72) = W1
  have hD1 : Dec W1 S1 b { d with out := [] } vo (.slice A1 0 c1) Fo F1 := by rw [← hW1]; exact HD1.out
  have hT1 : Tch S W W1 := by rw [← hW1]; exact HT1.out
  have hm1 : ∀ k u, (meths b)[k]? = some u → W1.cell? ⟨W.heap.size, k, none⟩ = some u := by
    intro k u hk
    have := meths_cells (W.setCell ⟨b, 5, none⟩ (.slice A1 0 c1)) b k u hk
    rw [show (W.setCell ⟨b, 5, none⟩ (.slice A1 0 c1)).heap.size = W.heap.size by simp [World.setCell]] at this
    rw [← hW1]; exact this
  have hsz1 : W.heap.size < W1.heap.size := by rw [← hW1]; simp [World.setCell]
  have HD1' := Lib.hid hD1
  have HT1' := Lib.hid hT1
  have HM1 := Lib.hid hm1
  have HO1 := Lib.hid (hO.grow HE.out HS1.out)
  clear hW1 HD1 HT1 hD1 hT1 hm1 k0 k5 g5 hmf
  have hR0 : ∀ c r k, k < l.length → (l.drop k = c :: r ↔ l[k]? = some c ∧ r = l.drop (k + 1)) := drop_cons l
  have HR0 := Lib.hid hR0
  clear hR0
  go_loopw [5] (fun v5 wr => FeedRel S1 b { d with out := [] } l W1 v5 wr) (fun v5 _ => l.length - (intOf v5).toNat)
  case atStart => exact ⟨0, _, _, rfl, Nat.zero_le _, Moved.refl HD1'.out.at_, ⟨HK.out.st, HK.out.sum, HK.out.left, HK.out.own, HK.out.l1, HK.out.l4⟩, Nat.zero_le _, rfl, Nat.zero_add _⟩
  case round =>
    obtain ⟨k, m, dk, rfl, hk, ⟨t2, S2, hS2, h2⟩, hok, hol, hgo, hkm⟩ := hrel
    have hE2 := (HE.out.tch hO HT1'.out).tch (HO1.out) t2
    have hO2 := HO1.out.grow (HE.out.tch hO HT1'.out) hS2
    obtain ⟨vo2, vu2, Fo2, Fu2, h2'⟩ := h2
    obtain ⟨⟨_, c1, _, _, _, c5, c6, c7⟩, _⟩ := h2'.facts
    have hR2 := reads_touch0 HR.out (HT1'.out.trans t2 HS1.out) HA.out
    have HT2 := Lib.hid t2
    have HS2 := Lib.hid hS2
    have HOK := Lib.hid hok
    have HGO := Lib.hid hgo
    have HKM := Lib.hid hkm
    have HE2 := Lib.hid hE2
    have HO2 := Lib.hid hO2
    have H2 := Lib.hid h2'
    have HR2 := Lib.hid hR2
    clear t2 hS2 hok hgo hkm hE2 hO2 h2' hR2
    by_cases hgo : k < l.length ∧ dk.done = false ∧ dk.e = 0
    · obtain ⟨hlt, hdn, he⟩ := hgo
      rw [he] at c7
      rw [hdn] at c6
      obtain ⟨ad, rfl, hball⟩ := HR2.out.2.2 (by omega)
      have hb := hball k hlt
      clear hball
      have hx : l[k]? = some l[k] := List.getElem?_eq_getElem hlt
      obtain ⟨f, hf1, hent, hcall⟩ := step_walk S2 b dk l[k] _ (H2.out.drew).at_ HOK.out he hdn (by omega) HE2.out HO2.out
      have hbk : (ib l).getD k 0 = (l[k].toNat : Int) := by simp [ib, List.getD_eq_getElem?_getD, List.getElem?_eq_getElem hlt]
      rw [hbk] at hb
      have hcm := (HT2.out.cell (p := ⟨W.heap.size, dk.st, none⟩) hsz1 hS1b).trans (HM1.out _ _ hf1)
      have hst6 : (dk.st : Int) < 6 := by have := HOK.out.st; omega
      unfold meth at hcm
      have HC := Lib.hid hcall
      have HX := Lib.hid hx
      have HEQ := Lib.hid he
      have HDN := Lib.hid hdn
      clear hcall hx hbk he hdn hf1
      have hltI : (k : Int) < l.length := by omega
      have hll : (l.length : Int) ≤ 1000000 := by omega
      go_wp2
      go_still_tail 10, (by kernel_rfl)
      change wpList _ _ _ _ _ wr.drew
      go_wp2_with fail
      refine HC.out.mono ?_
      rintro e w3 ⟨rfl, t3, S3, hS3, h3⟩
      have hmv : Moved S1 b (stepD dk l[k]) W1 w3 := Moved.trans (HT2.out.drew) HS2.out ⟨t3, S3, hS3, h3⟩
      have HMV := Lib.hid hmv
      clear t3 hS3 h3 hmv c1 c5 c6 c7 hb hcm hent
      go_wp2
      go_roundw
      case rel =>
        obtain ⟨m', hm', hgo'⟩ := feed_step HGO.out hlt (by unfold stops; rw [HDN.out, HEQ.out]; rfl)
        obtain ⟨ok', le'⟩ := step_ok dk l[k] HOK.out HEQ.out HDN.out
        have hkm := HKM.out
        exact ⟨k + 1, m', stepD dk l[k], by go_num, by omega, HMV.out, ok', by omega, hgo', by omega⟩
      case measure => simp [intOf]; omega
    · have hend : stops dk = true ∨ l.length ≤ k := by
        unfold stops
        cases hdn : dk.done with
        | true => exact .inl rfl
        | false =>
          by_cases he : dk.e = 0
          · exact .inr (Nat.le_of_not_lt fun h => hgo ⟨h, hdn, he⟩)
          · exact .inl (by simp [he])
      obtain ⟨hD, hm0⟩ := feed_stop HGO.out hend
      have HD := Lib.hid hD
      have HN : Hid ((feedGo { d with out := [] } l).2 = k) := Lib.hid (by have := HKM.out; omega)
      obtain ⟨A2, cp2, hv2, _⟩ := H2.out.out.slice
      subst hv2
      have hol2 : dk.out.length ≤ 1000000 := by omega
      have hmk := print_make (P := Tryd.prog) 22 5 .u8 1 Tryd.underlying22 info5 (by omega) dk.out.length (by omega)
      have hways : (k < l.length ∧ dk.done = true) ∨ (k < l.length ∧ dk.done = false ∧ ((dk.e : Int) == 0) = false) ∨ ¬ (k : Int) < l.length := by
        by_cases h1 : k < l.length
        · cases hdn : dk.done with
          | true => exact .inl ⟨h1, rfl⟩
          | false => exact .inr (.inl ⟨h1, rfl, by simp; exact fun h => hgo ⟨h1, hdn, h⟩⟩)
        · exact .inr (.inr (by omega))
      clear hgo hend hD hm0
      rcases hways with ⟨hlt, hdn⟩ | ⟨hlt, hdn, hq⟩ | hlt
      all_goals
        (try rw [hdn] at c6)
        (try have hltI : (k : Int) < l.length := by omega)
        have HRO := Lib.hid H2.out.out
        have hll : (l.length : Int) ≤ 1000000 := by omega
        have holI : (dk.out.length : Int) ≤ 1000000 := by omega
        have hblr : b < wr.heap.size := H2.out.blt
        (try clear hdn)
        go_wp2_with (with_reducible refine wp_copy rfl (.tmp 69) (.tmp 73) 22 22 5 rfl Tryd.underlying22 info1 A2 dk.out.length cp2 (nums .u8 (ib dk.out)) rfl rfl (made_row wr 5 (.int .u8 0) dk.out.length ?z1) ?z2 ?z3 ?z4 ?z5 ?z6)
        case z1 => simp only [maxLen]; omega
        case z2 => simp [nums, ib]
        case z3 => first | exact (row_src HRO.out).1 | exact fun h => List.eq_nil_of_length_eq_zero ((row_src HRO.out).1 h)
        case z4 => exact (row_src (HRO.out.alloc _)).2.1
        case z5 => exact (row_src HRO.out).2.2
        case z6 =>
          intro w4 hr4 ht4
          have hb4 : Below wr.heap.size wr w4 := Tch.below_then ((Below.refl wr.heap.size wr).alloc (Nat.le_refl _) _) ht4 (by simp) (fun _ h => h)
          have h4 := H2.out.below hb4
          have hr4' : Row w4 (fun g => wr.heap.size ≤ g) 1 (.slice (some ⟨wr.heap.size, 0, none⟩) dk.out.length dk.out.length) dk.out.length (nums .u8 (ib dk.out)) := by
            have e1 : (nums .u8 (ib dk.out)).length = dk.out.length := by simp [nums, ib]
            simp only [Nat.min_self, List.drop_replicate, Nat.sub_self, List.replicate_zero, List.append_nil, List.take_of_length_le (Nat.le_of_eq e1)] at hr4
            exact hr4
          obtain ⟨⟨_, _, _, _, _, _, d6, d7⟩, _⟩ := h4.facts
          have H4 := Lib.hid h4
          have HR4 := Lib.hid hr4'
          have HB4 := Lib.hid hb4
          clear hb4 h4 hr4' hr4 ht4 c1 c5 c6 c7 hmk
          go_wp2
          go_quiet (fail)
          go_wp2
          refine bodyPost_ret (v := .tuple #[.slice (some ⟨wr.heap.size, 0, none⟩) dk.out.length dk.out.length, .int .i64 k, .bool dk.done, .int .i64 dk.e]) (by simp [results, Tryd.results20, go_sem]) rfl ?_
          have hD := HD.out
          have hN := HN.out
          have hz : W.heap.size ≤ wr.heap.size := Nat.le_trans (Nat.le_of_lt hsz1) HT2.out.size
          refine ⟨.slice (some ⟨wr.heap.size, 0, none⟩) dk.out.length dk.out.length, fun g => wr.heap.size ≤ g, ?_, ?_, ?_, ?_⟩
          · rw [hD, hN]
          · rw [hD]; exact HR4.out.drewN _
          · exact fun g hg => Nat.le_trans hz hg
          · rw [hD]
            have t4 : Tch S W w4 := (HT1'.out.trans HT2.out HS1.out).trans (Tch.of_below HB4.out (fun _ => False)) (fun _ h => h.elim)
            exact ⟨t4.drewN _, S2, fun g hg => (HS2.out g hg).elim (HS1.out g) (fun h => .inr (Nat.le_trans (Nat.le_of_lt hsz1) h)), (H4.out.drewN _).at_⟩
end Go.Proofs.YtkfiafclddnaoaaDoor.Tk
