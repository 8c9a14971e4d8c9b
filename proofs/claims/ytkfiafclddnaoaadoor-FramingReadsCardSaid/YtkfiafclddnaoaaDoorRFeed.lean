/- Walk: the reference's Feed. -/
import Derived.Test.YtkfiafclddnaoaaDoorRelY
import Derived.Test.YtkfiafclddnaoaaDoorCutsP
import Derived.RegionTactic
import Derived.OwnWalk
set_option linter.unusedVariables false
set_option linter.unusedSimpArgs false
namespace Go.Proofs.YtkfiafclddnaoaaDoor.Tk
open Go.RowKit Go.Proofs.YtkfiafclddnaoaaDoorW.PrintWords Go.Proofs.YtkfiafclddnaoaaDoorW.PrintLast Go.Proofs.YtkfiafclddnaoaaDoor.Rw

def FeedRP (b : Nat) (d0 : DS) (l : Bs) (W : World) (e : Ending) (W' : World) : Prop :=
  ∃ v F y, e = .returned (.tuple #[v, .int .i64 (feedGo d0 l).2, .bool (feedGo d0 l).1.done, .int .i64 (feedGo d0 l).1.e]) ∧
    Row W' F 1 v (feedGo d0 l).1.out.length (nums .u8 (ib (feedGo d0 l).1.out)) ∧ (∀ k, F k → W.heap.size ≤ k) ∧ Tch (RF b) W W' ∧ RAt W' b y ∧ RelY (feedGo d0 l).1 y
structure RRel (b : Nat) (d0 : DS) (l : Bs) (W : World) (k m : Nat) (dk : DS) (y : RS) (Fg : Nat → Prop) (v8 : Value) (wr : World) : Prop where
  kl : k ≤ l.length
  at_ : RAt wr b y
  rel : RelY dk y
  ok : DOk dk
  len : dk.out.length ≤ k
  row : Row wr Fg 1 v8 dk.out.length (nums .u8 (ib dk.out))
  fg : ∀ j, Fg j → W.heap.size ≤ j
  tch : Tch (RF b) W wr
  go : feedGo dk (l.drop k) = ((feedGo d0 l).1, m)
  km : k + m = (feedGo d0 l).2
def RFeedRel (b : Nat) (d0 : DS) (l : Bs) (W : World) (v8 v9 : Value) (wr : World) : Prop :=
  ∃ (k m : Nat) (dk : DS) (y : RS) (Fg : Nat → Prop), v9 = .int .i64 k ∧ RRel b d0 l W k m dk y Fg v8 wr
theorem rfeed_fin {b : Nat} {d0 : DS} {l : Bs} {W wr : World} {k m : Nat} {dk : DS} {y : RS} {Fg : Nat → Prop} {v8 : Value} (h : RRel b d0 l W k m dk y Fg v8 wr) (hs : stops dk = true ∨ l.length ≤ k) (n : Nat) :
    FeedRP b d0 l W (.returned (.tuple #[v8, .int .i64 k, .bool y.done, .int .i64 y.e])) (wr.drewN n) := by
  obtain ⟨hD, hm⟩ := feed_stop h.go hs
  have hN : (feedGo d0 l).2 = k := by have := h.km; omega
  unfold FeedRP
  rw [hD, hN]
  exact ⟨v8, Fg, y, by rw [h.rel.1, h.rel.2.1], h.row.drewN _, h.fg, h.tch.drewN _, h.at_.drewN _, h.rel⟩
/-- A step that tells nothing, in memory. -/
theorem RRel.step0 {b : Nat} {d0 : DS} {l : Bs} {W wr wr' : World} {k m : Nat} {dk : DS} {y : RS} {Fg : Nat → Prop} {v8 : Value} (h : RRel b d0 l W k m dk y Fg v8 wr) (hb : b < W.heap.size) (hk : k < l.length) (hs : stops dk = false) (t : Tch (RF b) wr wr')
    (ho : (stepR y l[k]).2 = []) (ha : RAt wr' b (stepR y l[k]).1) : ∃ m', RRel b d0 l W (k + 1) m' (stepD dk l[k]) (stepR y l[k]).1 Fg v8 wr' := by
  obtain ⟨m', hm', hgo⟩ := feed_step h.go hk hs
  obtain ⟨h1, h2⟩ := step_rel dk y l[k] h.rel h.ok hs
  have hs' : dk.done = false ∧ dk.e = 0 := by unfold stops at hs; simpa using hs
  rw [ho, List.append_nil] at h2
  have := h.len
  have := h.km
  refine ⟨m', hk, ha, h1, (step_ok dk l[k] h.ok hs'.2 hs'.1).1, by rw [h2]; omega, ?_, h.fg, h.tch.trans t (fun _ h => .inl h), hgo, by omega⟩
  rw [h2]
  exact h.row.touch t (fun j hj _ hr => by have := h.fg j hj; have hr : j = b := hr; omega)
theorem RRel.step1 {b : Nat} {d0 : DS} {l : Bs} {W wr wr' : World} {k m : Nat} {dk : DS} {y : RS} {Fg Fg' : Nat → Prop} {v8 v8' : Value} (h : RRel b d0 l W k m dk y Fg v8 wr) (hk : k < l.length) (hs : stops dk = false)
    (t : Tch (RF b) W wr') (ho : (stepR y l[k]).2 = [l[k]]) (ha : RAt wr' b (stepR y l[k]).1) (hr : Row wr' Fg' 1 v8' (dk.out.length + 1) (nums .u8 (ib (dk.out ++ [l[k]])))) (hf : ∀ j, Fg' j → W.heap.size ≤ j) :
    ∃ m', RRel b d0 l W (k + 1) m' (stepD dk l[k]) (stepR y l[k]).1 Fg' v8' wr' := by
  obtain ⟨m', hm', hgo⟩ := feed_step h.go hk hs
  obtain ⟨h1, h2⟩ := step_rel dk y l[k] h.rel h.ok hs
  have hs' : dk.done = false ∧ dk.e = 0 := by unfold stops at hs; simpa using hs
  rw [ho] at h2
  have := h.len
  have := h.km
  refine ⟨m', hk, ha, h1, (step_ok dk l[k] h.ok hs'.2 hs'.1).1, by rw [h2]; simp; omega, ?_, hf, t, hgo, by omega⟩
  rw [h2, List.length_append]
  exact hr
theorem rfeed_app {b : Nat} {d0 : DS} {l : Bs} {W wr wm : World} {k m : Nat} {dk : DS} {y y' : RS} {Fg : Nat → Prop} {v8 : Value} (h : RRel b d0 l W k m dk y Fg v8 wr) (hb : b < W.heap.size) (hk : k < l.length) (hs : stops dk = false)
    (tm : Tch (RF b) wr wm) (hsr : stepR y l[k] = (y', [l[k]])) (ha : RAt wm b y') (o : Obj) {v2 : Value} {w2 : World} {z : Nat} (hz : z = (wm.alloc o).heap.size) (hr : Row w2 (fun g => Fg g ∨ z ≤ g) 1 v2 (dk.out.length + 1) (nums .u8 (ib dk.out) ++ [.int .u8 (l[k].toNat : Int)]))
    (t : Tch Fg (wm.alloc o) w2) : RAt w2 b y' ∧ ∃ Fg' m', RRel b d0 l W (k + 1) m' (stepD dk l[k]) y' Fg' v2 w2 := by
  subst hz
  have h1 := h.tch.trans tm (fun _ h => .inl h)
  have hbw : b < wm.heap.size := Nat.lt_of_lt_of_le hb h1.size
  have ha2 : RAt w2 b y' := (ha.below ((Below.refl _ _).alloc (Nat.le_refl _) o)).keep (t.block b (by simp; omega) (fun hf => by have := h.fg b hf; omega))
  obtain ⟨m', hm'⟩ := RRel.step1 (wr' := w2) (Fg' := fun g => Fg g ∨ (wm.alloc o).heap.size ≤ g) (v8' := v2) h hk hs ((h1.alloc o).trans t (fun j hj => .inr (h.fg j hj))) (by rw [hsr]) (by rw [hsr]; exact ha2)
    (by rw [show nums .u8 (ib (dk.out ++ [l[k]])) = nums .u8 (ib dk.out) ++ [.int .u8 (l[k].toNat : Int)] by simp [nums, ib]]; exact hr)
    (fun j hj => hj.elim (h.fg j) fun hj => by have := h1.size; simp at hj; omega)
  rw [hsr] at hm'
  exact ⟨ha2, _, m', hm'⟩
theorem rfeed_pre {b : Nat} {d0 : DS} {l : Bs} {W wr : World} {k m : Nat} {dk : DS} {y : RS} {Fg : Nat → Prop} {v8 : Value} (h : RRel b d0 l W k m dk y Fg v8 wr) (hb : b < W.heap.size) (c : UInt8)
    (o : Obj) {v2 : Value} {w2 : World} {z : Nat} (hz : z = (wr.alloc o).heap.size) (hr : Row w2 (fun g => Fg g ∨ z ≤ g) 1 v2 (dk.out.length + 1) (nums .u8 (ib dk.out) ++ [.int .u8 (c.toNat : Int)]))
    (t : Tch Fg (wr.alloc o) w2) : RAt w2 b y ∧ Tch (RF b) W w2 ∧ ∃ Fg', Row w2 Fg' 1 v2 (dk.out.length + 1) (nums .u8 (ib (dk.out ++ [c]))) ∧ ∀ j, Fg' j → W.heap.size ≤ j := by
  subst hz
  have hbw : b < wr.heap.size := Nat.lt_of_lt_of_le hb h.tch.size
  have ha2 : RAt w2 b y := (h.at_.below ((Below.refl _ _).alloc (Nat.le_refl _) o)).keep (t.block b (by simp; omega) (fun hf => by have := h.fg b hf; omega))
  refine ⟨ha2, (h.tch.alloc o).trans t (fun j hj => .inr (h.fg j hj)), (fun g => Fg g ∨ (wr.alloc o).heap.size ≤ g), ?_, ?_⟩
  · rw [show nums .u8 (ib (dk.out ++ [c])) = nums .u8 (ib dk.out) ++ [.int .u8 (c.toNat : Int)] by simp [nums, ib]]
    exact hr
  · exact fun j hj => hj.elim (h.fg j) fun hj => by have := h.tch.size; simp at hj; omega
theorem rfeed_post {b : Nat} {d0 : DS} {l : Bs} {W wr w2 w3 : World} {k m : Nat} {dk : DS} {y y' : RS} {Fg Fg' : Nat → Prop} {v8 v2 : Value} (h : RRel b d0 l W k m dk y Fg v8 wr) (hb : b < W.heap.size) (hk : k < l.length) (hs : stops dk = false)
    (t2 : Tch (RF b) W w2) (hr : Row w2 Fg' 1 v2 (dk.out.length + 1) (nums .u8 (ib (dk.out ++ [l[k]])))) (hf : ∀ j, Fg' j → W.heap.size ≤ j) (t3 : Tch (RF b) w2 w3) (hsr : stepR y l[k] = (y', [l[k]])) (ha : RAt w3 b y') :
    ∃ m', RRel b d0 l W (k + 1) m' (stepD dk l[k]) y' Fg' v2 w3 := by
  have := RRel.step1 (wr' := w3) (Fg' := Fg') (v8' := v2) h hk hs (t2.trans t3 (fun _ h => .inl h)) (by rw [hsr]) (by rw [hsr]; exact ha)
    (hr.touch t3 (fun j hj _ hr => by have := hf j hj; have hr : j = b := hr; omega)) hf
  rwa [hsr] at this
theorem rfeed_none {b : Nat} {d0 : DS} {l : Bs} {W wr w3 : World} {k m : Nat} {dk : DS} {y y' : RS} {Fg : Nat → Prop} {v8 : Value} (h : RRel b d0 l W k m dk y Fg v8 wr) (hb : b < W.heap.size) (hk : k < l.length) (hs : stops dk = false)
    (t3 : Tch (RF b) wr w3) (hsr : stepR y l[k] = (y', [])) (ha : RAt w3 b y') : ∃ m', RRel b d0 l W (k + 1) m' (stepD dk l[k]) y' Fg v8 w3 := by
  have := RRel.step0 (wr' := w3) h hb hk hs t3 (by rw [hsr]) (by rw [hsr]; exact ha)
  rwa [hsr] at this
theorem tail13 (l : Bs) : (l = [] ∧ Lib.trimSuffix l [13] = l) ∨ (∃ p x, l = p ++ [x] ∧ x ≠ 13 ∧ Lib.trimSuffix l [13] = l) ∨ (∃ p, l = p ++ [13] ∧ Lib.trimSuffix l [13] = p) := by
  rcases List.eq_nil_or_concat l with rfl | ⟨p, x, rfl⟩
  · exact .inl ⟨rfl, rfl⟩
  · rw [List.concat_eq_append]
    by_cases hx : x = 13
    · subst hx
      refine .inr (.inr ⟨p, rfl, ?_⟩)
      simp [Lib.trimSuffix, Lib.hasSuffix]
    · refine .inr (.inl ⟨p, x, rfl, hx, ?_⟩)
      simp [Lib.trimSuffix, Lib.hasSuffix]
      exact fun h => hx h.symm
theorem last_at (s : ByteArray) (p : Bs) (x : UInt8) (h : bl s = p ++ [x]) (hz : 0 < s.size) : s[s.size - 1] = x := by
  have e : s.size - 1 = p.length := by rw [← bl_length, h, List.length_append]; rfl
  have h2 : (bl s)[s.size - 1]? = some x := by rw [h, e]; simp
  rw [bl_at s (s.size - 1) (by omega)] at h2
  exact Option.some.inj h2
theorem conv_oneD (W : World) (x : Int) : (convert 22 9 (.slice (some ⟨W.heap.size, 0, none⟩) 1 1)).run Tryd.prog (W.alloc (.cells #[.int .u8 x] 5)).drew = .ok (.string (strOfNums [x])) (W.alloc (.cells #[.int .u8 x] 5)).drew :=
  row_string (P := Tryd.prog) (xs := [x]) (F := fun _ => True) Tryd.underlying22 Tryd.underlying5 Tryd.underlying9 (((Row.of_own (own_lit W 0 5 .u8 [x] (Nat.zero_le _) (by simp))).mono fun _ _ => trivial).drew)
theorem rstops {d : DS} {y : RS} (h : RelY d y) : stops d = (y.done || y.e != 0) := by unfold stops; rw [h.1, h.2.1]
set_option maxRecDepth 100000 in
set_option maxHeartbeats 4000000 in
theorem rfeed_walk (b : Nat) (d0 : DS) (y0 : RS) (A : Option Addr) (cp : Nat) (l : Bs) (W : World) (hd : RAt W b y0) (hrel0 : RelY d0 y0) (hk0 : DOk d0) (ho : d0.out = [])
    (hR : ReadsInt W .u8 A l.length (ib l)) (hA : 0 < l.length → ∀ ad, A = some ad → ad.block ≠ b) (hl : l.length ≤ 1000000) :
    Calls Tryd.prog 22 #[.pointer (some ⟨b, 0, none⟩), .slice A l.length cp] W (FeedRP b d0 l W) := by
  have hbl := hd.blt
  have H0 : Hid (∃ m, RRel b d0 l W 0 m d0 y0 (fun _ => False) (.slice none 0 0) W) := Lib.hid ⟨_, Nat.zero_le _, hd, hrel0, hk0, by rw [ho]; exact Nat.le_refl _, by rw [ho]; exact Row.nil _ _ _, fun _ h => h.elim, Tch.refl _ _, by rw [List.drop_zero], Nat.zero_add _⟩
  have HR := Lib.hid hR
  have HA := Lib.hid hA
  clear hd hrel0 hk0 ho hR hA
  go_enter Tryd.func22, Tryd.ntmps22
  go_wp2
  go_loopw [8, 9] (fun v8 v9 wr => RFeedRel b d0 l W v8 v9 wr) (fun _ v9 _ => l.length - (intOf v9).toNat)
  case atStart =>
    obtain ⟨m, h⟩ := H0.out
    exact ⟨0, m, d0, y0, _, rfl, h⟩
  case round =>
    obtain ⟨k, m, dk, y, Fg, rfl, h⟩ := hrel
    have hk := h.kl
    obtain ⟨⟨c0, c1, c2, c3, c4, c5, c6⟩, f1, f2, f3, f4, f5, f6⟩ := h.at_.facts
    have hR2 := reads_touch0 HR.out h.tch (fun h0 ad he hs => HA.out h0 ad he hs)
    have hbr : b < wr.heap.size := h.at_.blt
    have hyd := h.rel.1
    have hye := h.rel.2.1
    have H := Lib.hid h
    have HR2 := Lib.hid hR2
    clear h hR2
    by_cases hgo : k < l.length ∧ dk.done = false ∧ dk.e = 0
    · obtain ⟨hlt, hdn, he⟩ := hgo
      have hst : stops dk = false := by unfold stops; rw [hdn, he]; rfl
      rw [hyd, hdn] at c5
      rw [hye, he] at c6
      obtain ⟨ad, rfl, hball⟩ := HR2.out.2.2 (by omega)
      have hbc := hball k hlt
      have hbk : (ib l).getD k 0 = (l[k].toNat : Int) := by simp [ib, List.getD_eq_getElem?_getD, List.getElem?_eq_getElem hlt]
      rw [hbk] at hbc
      have hltI : (k : Int) < l.length := by omega
      have hll : (l.length : Int) ≤ 1000000 := by omega
      have hown := H.out.ok.own he
      have hsum := H.out.ok.sum
      have hleft := H.out.ok.left
      have HST := Lib.hid hst
      have hrel3 := H.out.rel.2.2
      have hl1 := H.out.ok.l1
      have hl4 := H.out.ok.l4
      have hx256 := u8_lt l[k]
      clear hball hbk hst
      rcases hrel3 with ⟨q1, q2, q3, q4, q5, q6⟩ | ⟨q1, q2, q3, q4, q5⟩ | ⟨q1, q2, q3, q4⟩
      · by_cases hs1 : dk.st = 1
        · obtain ⟨mm, hym⟩ : ∃ mm, y.left = mm + 1 := ⟨y.left - 1, by have := q6 hs1; have := hl1 hs1; omega⟩
          have hym0 : (mm : Int) ≤ 1048576 := by have := q6 hs1; omega
          have hp1 : y.part = 1 := by omega
          rw [q1] at c0
          rw [hym] at c1
          rw [hp1] at c3
          have hsrc := box_src2 (w := wr) (b := wr.heap.size) rfl [.int .u8 (l[k].toNat : Int)] 5 (by intro u hu; simp at hu; subst hu; rfl) 1 rfl
          have HSRC := Lib.hid hsrc
          clear hsrc
          go_wp2_with (first | (at_builtin; go_loud (refine wp_append rfl (.tmp 72) (.tmp 74) 22 5 (.int .u8 0) 1 rfl Tryd.underlying22 info5 rfl (some ⟨wr.heap.size, 0, none⟩) 1 1 [.int .u8 (l[k].toNat : Int)] rfl rfl (H.out.row.alloc _) HSRC.out.1 HSRC.out.2.1 HSRC.out.2.2.1 HSRC.out.2.2.2 ?y2 ?y3 ?y4)))
          case y2 => have := H.out.len; simp only [maxLen]; omega
          case y3 => have := H.out.len; omega
          case y4 =>
            intro v2 w2 hr2 ht2
            obtain ⟨ha2, t2, Fg', hr3, hf3⟩ := rfeed_pre H.out hbl l[k] (.cells #[.int .u8 (l[k].toNat : Int)] 5) (by simp) hr2 ht2
            have hfa := ha2.facts
            rw [hym, q1, hp1] at hfa
            obtain ⟨⟨d0', d1', _, d3', _, d5', _⟩, e1', _, e3', _, e5', _⟩ := hfa
            have hpl := ha2.putLeft mm
            have HA2 := Lib.hid ha2
            have HT2 := Lib.hid t2
            have HR3 := Lib.hid hr3
            have HPL := Lib.hid hpl
            clear hr2 ht2 ha2 t2 hr3 hpl c0 c1 c2 c3 c4 c5 c6 f1 f2 f3 f4 f5 f6 hbc
            by_cases hz : mm = 0
            · have hsr : stepR y l[k] = ({ { y with left := mm } with part := 2 }, [l[k]]) := by
                unfold stepR
                rw [if_neg (by omega), if_pos (.inr hp1), if_pos (by omega), if_neg (by omega), show y.left - 1 = mm by omega]
              obtain ⟨m', h5⟩ := rfeed_post H.out hbl hlt HST.out HT2.out HR3.out hf3 (rt 3 (.int .i64 (2 : Nat)) (rt 1 (.int .i64 (mm : Nat)) (Tch.refl _ _))) hsr (HPL.out.putPart 2)
              have H5 := Lib.hid h5
              have hq0 : ((mm : Int) == 0) = true := by rw [hz]; rfl
              clear hsr hz h5 q1 q2 q3 q4 q5 q6 hyd hye hdn he hl1 hl4 hown hym hp1 hs1
              go_wp2
              go_roundw
              case rel =>
                have hrel : RFeedRel b d0 l W v2 (.int .i64 ((k : Int) + 1)) _ := ⟨k + 1, m', _, _, Fg', by go_num, H5.out⟩
                first | exact hrel | ((repeat apply Exists.intro); exact ⟨hrel, rfl⟩)
              case measure => simp [intOf]; omega
            · have hsr : stepR y l[k] = ({ y with left := mm }, [l[k]]) := by
                unfold stepR
                rw [if_neg (by omega), if_pos (.inr hp1), if_neg (by omega), show y.left - 1 = mm by omega]
              obtain ⟨m', h5⟩ := rfeed_post H.out hbl hlt HST.out HT2.out HR3.out hf3 (rt 1 (.int .i64 (mm : Nat)) (Tch.refl _ _)) hsr HPL.out
              have H5 := Lib.hid h5
              have hq0 : ((mm : Int) == 0) = false := by simp; omega
              clear hsr hz h5 q1 q2 q3 q4 q5 q6 hyd hye hdn he hl1 hl4 hown hym hp1 hs1
              go_wp2
              go_roundw
              case rel =>
                have hrel : RFeedRel b d0 l W v2 (.int .i64 ((k : Int) + 1)) _ := ⟨k + 1, m', _, _, Fg', by go_num, H5.out⟩
                first | exact hrel | ((repeat apply Exists.intro); exact ⟨hrel, rfl⟩)
              case measure => simp [intOf]; omega
        · have hp1 : ((y.part : Int) == 1) = false := by simp; omega
          rw [q1] at c0
          rw [q4] at c4
          have hcv := conv_oneD wr (l[k].toNat : Int)
          have hosz : (sb dk.own).size ≤ 1025 := by rw [sb_size]; exact hown
          have hcap : (strOfNums [(l[k].toNat : Int)]).size = 1 := rfl
          have hoI : (dk.own.length : Int) ≤ 1025 := by omega
          have HQ := Lib.hid (⟨q1, q2, q3, q4, q5, q6⟩ : y.kind = 2 ∧ y.part = dk.st ∧ dk.st ≤ 3 ∧ y.own = dk.own ∧ y.sum = dk.sum ∧ (dk.st = 1 → y.left = dk.left))
          have HHS := Lib.hid hs1
          have HYE := Lib.hid (⟨hyd, hye, hdn, he⟩ : y.done = dk.done ∧ y.e = dk.e ∧ dk.done = false ∧ dk.e = 0)
          have hso : sb dk.own ++ strOfNums [(l[k].toNat : Int)] = sb (dk.own ++ [l[k]]) := by
            rw [show strOfNums [(l[k].toNat : Int)] = sb [l[k]] from str_ib [l[k]], sb_app]
          have HSO := Lib.hid hso
          clear q1 q2 q3 q4 q5 q6 hyd hye hdn he hs1 hl1 hl4 hso
          generalize hsoe : sb dk.own = so at c4 hosz HSO
          have HSOE := Lib.hid hsoe
          clear hsoe
          go_upto_region 18 with fail
          go_region
          rw [HSO.out]
          have hpo := H.out.at_.putOwn (dk.own ++ [l[k]])
          have ha2 : RAt (((wr.setCell ⟨b, 4, none⟩ (.string (sb (dk.own ++ [l[k]])))).alloc (.cells #[.int .u8 (l[k].toNat : Int)] 5)).drew) b { y with own := dk.own ++ [l[k]] } :=
            (hpo.below ((Below.refl _ _).alloc (Nat.le_refl _) _)).drew
          have t2 : Tch (RF b) wr (((wr.setCell ⟨b, 4, none⟩ (.string (sb (dk.own ++ [l[k]])))).alloc (.cells #[.int .u8 (l[k].toNat : Int)] 5)).drew) := ((rt 4 _ (Tch.refl _ _)).alloc _).drew
          generalize hw2 : (((wr.setCell ⟨b, 4, none⟩ (.string (sb (dk.own ++ [l[k]])))).alloc (.cells #[.int .u8 (l[k].toNat : Int)] 5)).drew) = w2 at ha2 t2 ⊢
          have hfa := ha2.facts
          rw [HQ.out.1] at hfa
          simp only at hfa
          obtain ⟨⟨d0', _, _, d3', d4', d5', d6'⟩, _, _, _, e4', _, e6'⟩ := hfa
          rw [HYE.out.1, HYE.out.2.2.1] at d5'
          rw [HYE.out.2.1, HYE.out.2.2.2] at d6'
          have HA2 := Lib.hid ha2
          have HT2 := Lib.hid t2
          have hsn : (sb (dk.own ++ [l[k]])).size = dk.own.length + 1 := by rw [sb_size, List.length_append]; rfl
          have hsx : (sb (dk.own ++ [l[k]])).extract 0 dk.own.length = so := by
            rw [← HSOE.out]
            apply bl_inj
            rw [bl_extract, bl_sb, bl_sb, List.drop_zero, List.take_left']
            rfl
          have HSX := Lib.hid hsx
          generalize sb (dk.own ++ [l[k]]) = sn at d4' hsn HSX hw2
          clear hw2 ha2 t2 hpo hsx c0 c1 c2 c3 c4 c5 c6 f1 f2 f3 f4 f5 f6 hbc hcv hcap
          by_cases hl : 1025 ≤ dk.own.length
          · have hsr : stepR y l[k] = ({ { y with own := dk.own ++ [l[k]] } with e := 3 }, []) := by
              have hq := HQ.out
              have hs1 := HHS.out
              unfold stepR
              rw [if_neg (by omega), if_neg (by omega), hq.2.2.2.1, if_pos hl]
            obtain ⟨m', h5⟩ := rfeed_none H.out hbl hlt HST.out (rt 6 (.int .i64 (3 : Nat)) HT2.out) hsr (HA2.out.putE 3)
            have hfin := rfeed_fin h5 (.inl (by rw [rstops h5.rel]; simp))
            have hd' : y.done = false := by rw [HYE.out.1, HYE.out.2.2.1]
            simp only [hd'] at hfin
            have HFIN := Lib.hid hfin
            have hlI : (1025 : Int) < (dk.own.length : Int) + 1 := by omega
            clear hsr h5 hfin hd' hl
            go_wp2
            go_quiet (fail)
            go_wp2
            refine bodyPost_ret (v := .tuple #[u8, .int .i64 ((k : Int) + 1), .bool false, .int .i64 3]) (by simp [results, Tryd.results22, go_sem]) rfl ?_
            exact HFIN.out _
          · have hlI : ¬ (1025 : Int) < (dk.own.length : Int) + 1 := by omega
            by_cases hc : l[k] = 10
            · have hqc : ((l[k].toNat : Int) == 10) = true := by rw [hc]; rfl
              have hsr0 : stepR y l[k] = (endedR { y with own := [] } (Lib.trimSuffix dk.own [13]), []) := by
                have hq := HQ.out
                have hs1 := HHS.out
                unfold stepR
                rw [if_neg (by omega), if_neg (by omega), hq.2.2.2.1, if_neg hl, if_pos hc]
              have HSR0 := Lib.hid hsr0
              have hw1 : IntKind.i64.wrap ((dk.own.length : Int) + 1 - 1) = dk.own.length := by rw [show (dk.own.length : Int) + 1 - 1 = dk.own.length by omega]; exact IntWalk.i64_in _ (by omega)
              have hw2 : IntKind.i64.wrap (dk.own.length : Int) = dk.own.length := IntWalk.i64_in _ (by omega)
              clear hc hsr0
              clear hl
              go_wp2
              go_quiet (fail)
              rw [HSX.out]
              clear hsn hw1 hw2 hlI HSX
              rcases tail13 dk.own with ⟨h0, ht⟩ | ⟨p, x, h0, hx, ht⟩ | ⟨p, h0, ht⟩
              · have hz : so.size = 0 := by rw [← HSOE.out, sb_size, h0]; rfl
                have hzI : ¬ (0 : Int) < so.size := by omega
                obtain ⟨ts, hts⟩ : ∃ ts, ts = dk.own := ⟨_, rfl⟩
                have HSR := Lib.hid (show stepR y l[k] = (endedR { y with own := [] } ts, []) by rw [HSR0.out, ht, hts])
                have HTS := Lib.hid (show ts.length ≤ 1025 by rw [hts]; exact hown)
                rw [← HSOE.out, ← hts] at hzI hz ⊢
                clear ht hts h0
                go_wp2_with fail
                refine (ended_walk b { y with own := [] } ts ((w2.drewN nq).setCell ⟨b, 4, none⟩ (.string ⟨#[]⟩)) (HA2.out.drewN nq |>.putOwn []) ⟨by have := HQ.out.2.1; have := HQ.out.2.2.1; simp only; omega, by have := HQ.out.2.1; have := HHS.out; simp only; omega⟩ (by have := HTS.out; omega) (by have := HQ.out.2.2.2.2.1; simp only; omega)).mono ?_
                rintro e w3 ⟨rfl, t3, ha3⟩
                obtain ⟨m', h5⟩ := rfeed_none H.out hbl hlt HST.out ((rt 4 _ (HT2.out.drewN nq)).trans t3 (fun _ h => .inl h)) HSR.out ha3
                have H5 := Lib.hid h5
                clear h5 t3 ha3
                go_wp2
                go_roundw
                case rel =>
                  have hrel : RFeedRel b d0 l W u8 (.int .i64 ((k : Int) + 1)) _ := ⟨k + 1, m', _, _, Fg, by go_num, H5.out⟩
                  first | exact hrel | ((repeat apply Exists.intro); exact ⟨hrel, rfl⟩)
                case measure => simp [intOf]; omega
              · have hz : 0 < so.size := by rw [← HSOE.out, sb_size, h0, List.length_append]; simp
                have hzI : (0 : Int) < so.size := by omega
                have hxx : so[so.size - 1] = x := last_at so p x (by rw [← HSOE.out, bl_sb, h0]) hz
                have hq13 : ((so[so.size - 1].toNat : Int) == 13) = false := by
                  rw [hxx]
                  simp only [beq_eq_false_iff_ne, ne_eq]
                  intro h
                  exact hx (UInt8.toNat_inj.1 (by simpa using (Int.ofNat.inj (h : ((x.toNat : Nat) : Int) = ((13 : Nat) : Int)))))
                have hix : ((so.size : Int) - 1).toNat = so.size - 1 := by omega
                obtain ⟨ts, hts⟩ : ∃ ts, ts = dk.own := ⟨_, rfl⟩
                have HSR := Lib.hid (show stepR y l[k] = (endedR { y with own := [] } ts, []) by rw [HSR0.out, ht, hts])
                have HTS := Lib.hid (show ts.length ≤ 1025 by rw [hts]; exact hown)
                have HSE := Lib.hid (show so = sb ts by rw [← HSOE.out, hts])
                clear ht hts h0 hxx hx
                have hend := ended_walk b { y with own := [] } ts ((w2.drewN nq).setCell ⟨b, 4, none⟩ (.string ⟨#[]⟩)) (HA2.out.drewN nq |>.putOwn []) ⟨by have := HQ.out.2.1; have := HQ.out.2.2.1; simp only; omega, by have := HQ.out.2.1; have := HHS.out; simp only; omega⟩ (by have := HTS.out; omega) (by have := HQ.out.2.2.2.2.1; simp only; omega)
                rw [← HSE.out] at hend
                have HEND := Lib.hid hend
                clear hend
                go_wp2_with fail
                refine HEND.out.mono ?_
                rintro e w3 ⟨rfl, t3, ha3⟩
                obtain ⟨m', h5⟩ := rfeed_none H.out hbl hlt HST.out ((rt 4 _ (HT2.out.drewN nq)).trans t3 (fun _ h => .inl h)) HSR.out ha3
                have H5 := Lib.hid h5
                clear h5 t3 ha3
                go_wp2
                go_roundw
                case rel =>
                  have hrel : RFeedRel b d0 l W u8 (.int .i64 ((k : Int) + 1)) _ := ⟨k + 1, m', _, _, Fg, by go_num, H5.out⟩
                  first | exact hrel | ((repeat apply Exists.intro); exact ⟨hrel, rfl⟩)
                case measure => simp [intOf]; omega
              · have hz : 0 < so.size := by rw [← HSOE.out, sb_size, h0, List.length_append]; simp
                have hzI : (0 : Int) < so.size := by omega
                have hb2 : bl so = p ++ [13] := by rw [← HSOE.out, bl_sb, h0]
                have hxx : so[so.size - 1] = 13 := last_at so p 13 hb2 hz
                have hq13 : ((so[so.size - 1].toNat : Int) == 13) = true := by rw [hxx]; rfl
                have hix : ((so.size : Int) - 1).toNat = so.size - 1 := by omega
                obtain ⟨ts, hts⟩ : ∃ ts, ts = p := ⟨_, rfl⟩
                have HSR := Lib.hid (show stepR y l[k] = (endedR { y with own := [] } ts, []) by rw [HSR0.out, ht, hts])
                have HTS := Lib.hid (show ts.length ≤ 1025 by rw [hts]; rw [h0, List.length_append] at hown; omega)
                have hb3 : so.size - 1 = p.length := by rw [← bl_length, hb2, List.length_append]; rfl
                have HSE := Lib.hid (show so.extract 0 (so.size - 1) = sb ts by
                  apply bl_inj
                  rw [bl_extract, hb2, hb3, bl_sb, List.drop_zero, hts, List.take_left'] ; rfl)
                clear ht hts h0 hxx hb2 hb3
                have hend := ended_walk b { y with own := [] } ts ((w2.drewN nq).setCell ⟨b, 4, none⟩ (.string ⟨#[]⟩)) (HA2.out.drewN nq |>.putOwn []) ⟨by have := HQ.out.2.1; have := HQ.out.2.2.1; simp only; omega, by have := HQ.out.2.1; have := HHS.out; simp only; omega⟩ (by have := HTS.out; omega) (by have := HQ.out.2.2.2.2.1; simp only; omega)
                rw [← HSE.out] at hend
                have HEND := Lib.hid hend
                clear hend
                go_wp2_with fail
                refine HEND.out.mono ?_
                rintro e w3 ⟨rfl, t3, ha3⟩
                obtain ⟨m', h5⟩ := rfeed_none H.out hbl hlt HST.out ((rt 4 _ (HT2.out.drewN nq)).trans t3 (fun _ h => .inl h)) HSR.out ha3
                have H5 := Lib.hid h5
                clear h5 t3 ha3
                go_wp2
                go_roundw
                case rel =>
                  have hrel : RFeedRel b d0 l W u8 (.int .i64 ((k : Int) + 1)) _ := ⟨k + 1, m', _, _, Fg, by go_num, H5.out⟩
                  first | exact hrel | ((repeat apply Exists.intro); exact ⟨hrel, rfl⟩)
                case measure => simp [intOf]; omega
            · have hsr : stepR y l[k] = ({ y with own := dk.own ++ [l[k]] }, []) := by
                have hq := HQ.out
                have hs1 := HHS.out
                unfold stepR
                rw [if_neg (by omega), if_neg (by omega), hq.2.2.2.1, if_neg hl, if_neg hc]
              obtain ⟨m', h5⟩ := rfeed_none H.out hbl hlt HST.out HT2.out hsr HA2.out
              have H5 := Lib.hid h5
              have hqc : ((l[k].toNat : Int) == 10) = false := by
                simp only [beq_eq_false_iff_ne, ne_eq]
                intro h
                exact hc (UInt8.toNat_inj.1 (by simpa using (Int.ofNat.inj (h : ((l[k].toNat : Nat) : Int) = ((10 : Nat) : Int)))))
              clear hsr h5 hc hl
              go_wp2
              go_roundw
              case rel =>
                have hrel : RFeedRel b d0 l W u8 (.int .i64 ((k : Int) + 1)) _ := ⟨k + 1, m', _, _, Fg, by go_num, H5.out⟩
                first | exact hrel | ((repeat apply Exists.intro); exact ⟨hrel, rfl⟩)
              case measure => simp [intOf]; omega
      · have hk1 : y.kind = 1 := by
          by_cases h0 : y.kind = 0
          · have := q5 h0
            rw [hdn] at this
            cases this
          · omega
        have q1 := hk1
        clear hk1
        obtain ⟨mm, hym⟩ : ∃ mm, y.left = mm + 1 := ⟨y.left - 1, by have := hl4 q2 hdn; omega⟩
        have hym0 : (mm : Int) ≤ 1048576 := by omega
        rw [q1] at c0
        rw [hym] at c1
        have hsrc := box_src2 (w := wr) (b := wr.heap.size) rfl [.int .u8 (l[k].toNat : Int)] 5 (by intro u hu; simp at hu; subst hu; rfl) 1 rfl
        have HSRC := Lib.hid hsrc
        clear hsrc
        go_wp2_with (first | (at_builtin; go_loud (refine wp_append rfl (.tmp 72) (.tmp 74) 22 5 (.int .u8 0) 1 rfl Tryd.underlying22 info5 rfl (some ⟨wr.heap.size, 0, none⟩) 1 1 [.int .u8 (l[k].toNat : Int)] rfl rfl (H.out.row.alloc _) HSRC.out.1 HSRC.out.2.1 HSRC.out.2.2.1 HSRC.out.2.2.2 ?y2 ?y3 ?y4)))
        case y2 => have := H.out.len; simp only [maxLen]; omega
        case y3 => have := H.out.len; omega
        case y4 =>
          intro v2 w2 hr2 ht2
          obtain ⟨ha2, t2, Fg', hr3, hf3⟩ := rfeed_pre H.out hbl l[k] (.cells #[.int .u8 (l[k].toNat : Int)] 5) (by simp) hr2 ht2
          have hfa := ha2.facts
          rw [hym, q1] at hfa
          obtain ⟨⟨d0', d1', _, d3', _, d5', _⟩, e1', _, e3', _, e5', _⟩ := hfa
          have hpl := ha2.putLeft mm
          have HA2 := Lib.hid ha2
          have HT2 := Lib.hid t2
          have HR3 := Lib.hid hr3
          have HPL := Lib.hid hpl
          clear hr2 ht2 ha2 t2 hr3 hpl c0 c1 c2 c3 c4 c5 c6 f1 f2 f3 f4 f5 f6 hbc
          by_cases hz : mm = 0
          · have hsr : stepR y l[k] = ({ { y with left := mm } with done := true }, [l[k]]) := by
              unfold stepR
              rw [if_neg (by omega), if_pos (.inl q1), if_pos (by omega), if_pos q1, show y.left - 1 = mm by omega]
            obtain ⟨m', h5⟩ := rfeed_post H.out hbl hlt HST.out HT2.out HR3.out hf3 (rt 5 (.bool true) (rt 1 (.int .i64 (mm : Nat)) (Tch.refl _ _))) hsr (HPL.out.putDone true)
            have H5 := Lib.hid h5
            have hq0 : ((mm : Int) == 0) = true := by rw [hz]; rfl
            clear hsr hz h5 q1 q2 q3 q4 q5 hyd hye hdn he hl1 hl4 hown hym
            go_wp2
            go_roundw
            case rel =>
              have hrel : RFeedRel b d0 l W v2 (.int .i64 ((k : Int) + 1)) _ := ⟨k + 1, m', _, _, Fg', by go_num, H5.out⟩
              first | exact hrel | ((repeat apply Exists.intro); exact ⟨hrel, rfl⟩)
            case measure => simp [intOf]; omega
          · have hsr : stepR y l[k] = ({ y with left := mm }, [l[k]]) := by
              unfold stepR
              rw [if_neg (by omega), if_pos (.inl q1), if_neg (by omega), show y.left - 1 = mm by omega]
            obtain ⟨m', h5⟩ := rfeed_post H.out hbl hlt HST.out HT2.out HR3.out hf3 (rt 1 (.int .i64 (mm : Nat)) (Tch.refl _ _)) hsr HPL.out
            have H5 := Lib.hid h5
            have hq0 : ((mm : Int) == 0) = false := by simp; omega
            clear hsr hz h5 q1 q2 q3 q4 q5 hyd hye hdn he hl1 hl4 hown hym
            go_wp2
            go_roundw
            case rel =>
              have hrel : RFeedRel b d0 l W v2 (.int .i64 ((k : Int) + 1)) _ := ⟨k + 1, m', _, _, Fg', by go_num, H5.out⟩
              first | exact hrel | ((repeat apply Exists.intro); exact ⟨hrel, rfl⟩)
            case measure => simp [intOf]; omega
      · rw [q1] at c0
        have hys := q3 he
        by_cases hmax : 1048576 ≤ y.sum
        · have hsr : stepR y l[k] = ({ { y with sum := y.sum + 1 } with e := 3 }, []) := by unfold stepR; rw [if_pos q1, if_pos hmax]
          have hys2 : (1048576 : Int) < (y.sum : Int) + 1 := by omega
          have hs0 : (y.sum : Int) ≤ 1048576 := by omega
          have hp : RAt (wr.setCell ⟨b, 2, none⟩ (.int .i64 ((y.sum : Int) + 1))) b { y with sum := y.sum + 1 } := H.out.at_.putSum (y.sum + 1)
          obtain ⟨m', h5⟩ := rfeed_none H.out hbl hlt HST.out (rt 6 (.int .i64 (3 : Nat)) (rt 2 (.int .i64 ((y.sum : Int) + 1)) (Tch.refl _ _))) hsr (hp.putE 3)
          have hfin := rfeed_fin h5 (.inl (by rw [rstops h5.rel]; simp))
          have hd' : y.done = false := by rw [hyd, hdn]
          simp only [hd'] at hfin
          have HFIN := Lib.hid hfin
          clear hsr h5 hp hfin hd' q1 q2 q3 q4 hys hyd hye hdn he hmax hl1 hl4 hown
          go_wp2
          go_quiet (fail)
          go_wp2
          refine bodyPost_ret (v := .tuple #[u8, .int .i64 ((k : Int) + 1), .bool false, .int .i64 3]) (by simp [results, Tryd.results22, go_sem]) rfl ?_
          exact HFIN.out _
        · have hsr : stepR y l[k] = ({ y with sum := y.sum + 1 }, [l[k]]) := by unfold stepR; rw [if_pos q1, if_neg hmax]
          have hys2 : ¬ (1048576 : Int) < (y.sum : Int) + 1 := by omega
          have hs0 : (y.sum : Int) ≤ 1048576 := by omega
          have HSR := Lib.hid hsr
          have hp : RAt (wr.setCell ⟨b, 2, none⟩ (.int .i64 ((y.sum : Int) + 1))) b { y with sum := y.sum + 1 } := H.out.at_.putSum (y.sum + 1)
          have HP := Lib.hid hp
          have hrowp := H.out.row.far (p := ⟨b, 2, none⟩) (fun j hj => by have := H.out.fg j hj; simp only; omega) (.int .i64 ((y.sum : Int) + 1))
          have HROW := Lib.hid hrowp
          clear hsr q1 q2 q3 q4 hys hyd hye hdn he hmax hp hrowp hl1 hl4 hown
          have hsrc := box_src2 (w := wr.setCell ⟨b, 2, none⟩ (.int .i64 ((y.sum : Int) + 1))) (b := wr.heap.size) (by simp [World.setCell]) [.int .u8 (l[k].toNat : Int)] 5 (by intro u hu; simp at hu; subst hu; rfl) 1 rfl
          have HSRC := Lib.hid hsrc
          clear hsrc
          go_wp2_with (first | (at_builtin; go_loud (refine wp_append rfl (.tmp 56) (.tmp 58) 22 5 (.int .u8 0) 1 rfl Tryd.underlying22 info5 rfl (some ⟨wr.heap.size, 0, none⟩) 1 1 [.int .u8 (l[k].toNat : Int)] rfl rfl (HROW.out.alloc _) HSRC.out.1 HSRC.out.2.1 HSRC.out.2.2.1 HSRC.out.2.2.2 ?y2 ?y3 ?y4)))
          case y2 => have := H.out.len; simp only [maxLen]; omega
          case y3 => have := H.out.len; omega
          case y4 =>
            intro v2 w2 hr2 ht2
            obtain ⟨_, Fg', m', h5⟩ := rfeed_app H.out hbl hlt HST.out (rt 2 (.int .i64 ((y.sum : Int) + 1)) (Tch.refl _ _)) HSR.out HP.out (.cells #[.int .u8 (l[k].toNat : Int)] 5) (by simp [World.setCell]) hr2 ht2
            have H5 := Lib.hid h5
            clear hr2 ht2 c0 c1 c2 c3 c4 c5 c6 f1 f2 f3 f4 f5 f6 hbc h5
            go_wp2
            go_roundw
            case rel =>
              have hrel : RFeedRel b d0 l W v2 (.int .i64 ((k : Int) + 1)) w2 := ⟨k + 1, m', _, _, Fg', by go_num, H5.out⟩
              first | exact hrel | ((repeat apply Exists.intro); exact ⟨hrel, rfl⟩)
            case measure => simp [intOf]; omega
    · have hend : stops dk = true ∨ l.length ≤ k := by
        unfold stops
        cases hdn : dk.done with
        | true => exact .inl rfl
        | false =>
          by_cases he : dk.e = 0
          · exact .inr (Nat.le_of_not_lt fun h => hgo ⟨h, hdn, he⟩)
          · exact .inl (by simp [he])
      have hfin := rfeed_fin H.out hend
      have hways : (k < l.length ∧ y.done = true) ∨ (k < l.length ∧ y.done = false ∧ ((y.e : Int) == 0) = false) ∨ ¬ (k : Int) < l.length := by
        rw [hyd, hye]
        by_cases h1 : k < l.length
        · cases hdn : dk.done with
          | true => exact .inl ⟨h1, rfl⟩
          | false => exact .inr (.inl ⟨h1, rfl, by simp; exact fun h => hgo ⟨h1, hdn, h⟩⟩)
        · exact .inr (.inr (by omega))
      have HFIN := Lib.hid hfin
      clear hgo hend hfin hyd hye
      rcases hways with ⟨hlt, hdn⟩ | ⟨hlt, hdn, hq⟩ | hlt
      · have hltI : (k : Int) < l.length := by omega
        have HFIN2 := HFIN.out
        rw [hdn] at c5 HFIN2
        have HF2 := Lib.hid HFIN2
        clear hdn HFIN2
        go_wp2
        go_quiet (fail)
        go_wp2
        refine bodyPost_ret (v := .tuple #[u8, .int .i64 k, .bool true, .int .i64 y.e]) (by simp [results, Tryd.results22, go_sem]) rfl ?_
        exact HF2.out _
      · have hltI : (k : Int) < l.length := by omega
        have HFIN2 := HFIN.out
        rw [hdn] at c5 HFIN2
        have HF2 := Lib.hid HFIN2
        clear hdn HFIN2
        go_wp2
        go_quiet (fail)
        go_wp2
        refine bodyPost_ret (v := .tuple #[u8, .int .i64 k, .bool false, .int .i64 y.e]) (by simp [results, Tryd.results22, go_sem]) rfl ?_
        exact HF2.out _
      · go_wp2
        go_quiet (fail)
        go_wp2
        refine bodyPost_ret (v := .tuple #[u8, .int .i64 k, .bool y.done, .int .i64 y.e]) (by simp [results, Tryd.results22, go_sem]) rfl ?_
        exact HFIN.out _
end Go.Proofs.YtkfiafclddnaoaaDoor.Tk
