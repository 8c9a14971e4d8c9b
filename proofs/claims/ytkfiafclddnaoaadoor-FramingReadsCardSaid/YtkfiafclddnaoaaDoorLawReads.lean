/- Walk: the law FramingReads. -/
import Derived.Test.YtkfiafclddnaoaaDoorRFeed
import Derived.Test.YtkfiafclddnaoaaDoorLawCuts
import Derived.Lib.SlBytesConst
set_option linter.unusedVariables false
set_option linter.unusedSimpArgs false
namespace Go.Proofs.YtkfiafclddnaoaaDoor.Tk
open Go.RowKit Go.Proofs.YtkfiafclddnaoaaDoorW.PrintWords Go.Proofs.YtkfiafclddnaoaaDoorW.PrintLast Go.Proofs.YtkfiafclddnaoaaDoor.Rw

/-- Both decoders in memory, apart. -/
structure Two (W : World) (S : Nat → Prop) (b c : Nat) (d : DS) (y : RS) : Prop where
  x : DecAt W S b d
  yr : RAt W c y
  rel : RelY d y
  ok : DOk d
  ap : ¬ S c
theorem DecAt.keep {W W' : World} {S : Nat → Prop} {b : Nat} {d : DS} (h : DecAt W S b d) (hs : W.heap.size ≤ W'.heap.size) (hb : ∀ k, S k → W'.heap[k]? = W.heap[k]?) : DecAt W' S b d := by
  obtain ⟨a1, a2, a3, a4, hx⟩ := h
  exact ⟨a1, a2, a3, a4, hx.keep hs hb⟩
theorem DecAt.lt {W : World} {S : Nat → Prop} {b : Nat} {d : DS} (h : DecAt W S b d) : ∀ k, S k → k < W.heap.size := by
  obtain ⟨a1, a2, a3, a4, hx⟩ := h
  exact hx.lt
def Un (S : Nat → Prop) (c : Nat) : Nat → Prop := fun k => S k ∨ k = c
/-- The two Feeds, one behind the other, at the same bytes. -/
def FeedsP (S : Nat → Prop) (b c : Nat) (d : DS) (l : Bs) (W : World) (D : DS) (N : Nat) (vx vy : Value) (W' : World) : Prop :=
  (∃ F, Row W' F 1 vx D.out.length (nums .u8 (ib D.out))) ∧ (∃ F, Row W' F 1 vy D.out.length (nums .u8 (ib D.out))) ∧ Tch (Un S c) W W' ∧ N ≤ l.length ∧
    ∃ S' y', (∀ k, S' k → S k ∨ W.heap.size ≤ k) ∧ Two W' S' b c D y'
/-- What the first Feed leaves for the second. -/
theorem feeds_first {S : Nat → Prop} {b c : Nat} {d : DS} {y : RS} {l : Bs} {W W1 : World} {e : Ending} (h : Two W S b c d y) (hf : FeedP S b d l W e W1) :
    ∃ v F S1 D N, feedGo { d with out := [] } l = (D, N) ∧ e = .returned (.tuple #[v, .int .i64 N, .bool D.done, .int .i64 D.e]) ∧ Row W1 F 1 v D.out.length (nums .u8 (ib D.out)) ∧ (∀ k, F k → W.heap.size ≤ k) ∧ Tch S W W1 ∧
      (∀ k, S1 k → S k ∨ W.heap.size ≤ k) ∧ DecAt W1 S1 b D ∧ RAt W1 c y := by
  obtain ⟨v, F, he, hr, hF, t, S1, hS, hd⟩ := hf
  exact ⟨v, F, S1, _, _, rfl, he, hr, hF, t, hS, hd, h.yr.keep (t.block c h.yr.blt h.ap)⟩
theorem feeds_second {S S1 F : Nat → Prop} {b c : Nat} {d D : DS} {y : RS} {l : Bs} {W W1 W2 : World} {e : Ending} {v : Value} {N : Nat} (h : Two W S b c d y) (hl : l.length ≤ 1000000) (hg : feedGo { d with out := [] } l = (D, N)) (hr : Row W1 F 1 v D.out.length (nums .u8 (ib D.out)))
    (hF : ∀ k, F k → W.heap.size ≤ k) (t : Tch S W W1) (hS : ∀ k, S1 k → S k ∨ W.heap.size ≤ k) (hd : DecAt W1 S1 b D) (hf : FeedRP c { d with out := [] } l W1 e W2) :
    ∃ v2, e = .returned (.tuple #[v2, .int .i64 N, .bool D.done, .int .i64 D.e]) ∧ FeedsP S b c d l W D N v v2 W2 := by
  obtain ⟨v2, F2, y', he, hr2, hF2, t2, ha, hrel⟩ := hf
  rw [hg] at he hr2 hrel
  have hb := h.yr.blt
  have hc1 : ¬ S1 c := fun hk => (hS c hk).elim h.ap (by omega)
  have hok := feed_ok l { d with out := [] } ⟨h.ok.st, h.ok.sum, h.ok.left, h.ok.own, h.ok.l1, h.ok.l4⟩
  rw [hg] at hok
  refine ⟨v2, he, ⟨F, hr.touch t2 (fun k hk _ hc => by have := hF k hk; have hc : k = c := hc; omega)⟩, ⟨F2, hr2⟩, ?_, hok.2.2, S1, y', hS, ?_, ha, hrel, hok.1, hc1⟩
  · exact (t.mono (G := Un S c) (fun k hk => .inl (.inl hk))).trans t2 (fun k hk => .inl (.inr hk))
  · exact hd.keep t2.size (fun k hk => t2.block k (hd.lt k hk) (fun hc => hc1 (by have hc : k = c := hc; rw [← hc]; exact hk)))
theorem Off.left {S : Nat → Prop} {c : Nat} (h : Off (Un S c)) : Off S := ⟨fun k => h.1 (.inl k), fun k => h.2.1 (.inl k), fun k => h.2.2 (.inl k)⟩
theorem two_end {S : Nat → Prop} {b c : Nat} {d : DS} {y : RS} {W W1 W2 : World} (h : Two W S b c d y) (hm : Moved S b (endF d) W W1) (t : Tch (RF c) W1 W2) (ha : RAt W2 c (endR y)) :
    ∃ S', (∀ k, S' k → S k ∨ W.heap.size ≤ k) ∧ Two W2 S' b c (endF d) (endR y) ∧ Tch (Un S c) W W2 := by
  obtain ⟨t1, S1, hS, hd⟩ := hm
  have hb := h.yr.blt
  have hc1 : ¬ S1 c := fun hk => (hS c hk).elim h.ap (by omega)
  refine ⟨S1, hS, ⟨?_, ha, end_rel d y h.rel, endF_ok d h.ok, hc1⟩, (t1.mono (G := Un S c) (fun k hk => .inl (.inl hk))).trans t (fun k hk => .inl (.inr hk))⟩
  exact hd.keep t.size (fun k hk => t.block k (hd.lt k hk) (fun hc => hc1 (by have hc : k = c := hc; rw [← hc]; exact hk)))
theorem Two.alloc {S : Nat → Prop} {b c : Nat} {d : DS} {y : RS} {W : World} (h : Two W S b c d y) (o : Obj) : Two (W.alloc o) S b c d y :=
  ⟨h.x.keep (by simp) (fun k hk => Below.heap_alloc W o k (h.x.lt k hk)), h.yr.below ((Below.refl _ _).alloc (Nat.le_refl _) o), h.rel, h.ok, h.ap⟩
def ReadsRel (S1 : Nat → Prop) (b c : Nat) (l : Bs) (W2 : World) (v11 v12 : Value) (wr : World) : Prop :=
  ∃ (i k : Nat) (d : DS) (y : RS) (S : Nat → Prop), v12 = .int .i64 i ∧ i ≤ 5 ∧ v11 = .int .i64 k ∧ k ≤ l.length ∧ Tch (Un S1 c) W2 wr ∧ (∀ j, S j → S1 j ∨ W2.heap.size ≤ j) ∧ Two wr S b c d y
theorem lit_reads (W : World) : ReadsInt (W.alloc (.cells #[.int .u8 97, .int .u8 98, .int .u8 99] 5 (3, 4))) .u8 (some ⟨W.heap.size, 0, none⟩) 3 (ib [97, 98, 99]) := by
  refine ⟨rfl, by omega, fun _ => ⟨_, rfl, fun j hj => ?_⟩⟩
  have hg := heap_alloc_new W (.cells #[.int .u8 97, .int .u8 98, .int .u8 99] 5 (3, 4))
  rw [add_plain]
  unfold World.cell?
  simp only [hg]
  match j, hj with
  | 0, _ => rfl
  | 1, _ => rfl
  | 2, _ => rfl
set_option maxRecDepth 100000 in
set_option maxHeartbeats 4000000 in
theorem law_reads (kind n : Int) (A : Option Addr) (cp : Nat) (l : Bs) (W : World) (hc : l.length ≤ cp) (hE : Env W) (hR : ReadsInt W .u8 A l.length (ib l)) :
    Calls Tryd.prog 7 #[.int .i64 kind, .int .i64 n, .slice A l.length cp] W fun e w' => e = .returned (.bool true) ∧ Below W.heap.size W w' := by
  have HR := Lib.hid hR
  have HE := Lib.hid hE
  clear hR hE
  go_enter Tryd.func7, Tryd.ntmps7
  go_upto_if 34 with fail
  go_cut [2] (fun s2 wc => Input W A cp 3000 s2 ∧ W = wc)
  case first =>
    by_cases h3 : 3000 < l.length
    · have h3I : (3000 : Int) < l.length := by omega
      have hcI : (3000 : Int) ≤ cp := by omega
      go_wp2
      go_meet
      case rel =>
        refine ⟨⟨l.take 3000, ?_, by simp; omega, by simp; omega, ?_⟩, rfl⟩
        · rw [List.length_take, Nat.min_eq_left (by omega)]
        · rw [List.length_take, Nat.min_eq_left (by omega)]
          have := HR.out.take_ 3000 (by omega)
          rwa [show (ib l).take 3000 = ib (l.take 3000) by unfold ib; rw [List.map_take]] at this
    · have h3I : ¬ (3000 : Int) < l.length := by omega
      go_wp2
      go_meet
      case rel => exact ⟨⟨l, rfl, by omega, hc, HR.out⟩, rfl⟩
  case rest =>
    obtain ⟨⟨l', rfl, hl, hc', hR'⟩, rfl⟩ := hcut
    have HR' := Lib.hid hR'
    clear hR' HR hc
    by_cases hbad : newBad kind n = 0
    · have HB0 := Lib.hid hbad
      clear hbad
      go_wp2_with fail
      refine (new_walk kind n _).mono ?_
      rintro e w1 ⟨hb1, ⟨h, _⟩ | ⟨_, b1, S1, rfl, hs1, hd1⟩⟩
      · exact absurd HB0.out h
      have HB1 := Lib.hid hb1
      clear hb1
      go_wp2_with fail
      refine (newr_walk kind n _).mono ?_
      rintro e w2 ⟨hb2, ⟨h, _⟩ | ⟨_, b2, rfl, hs2, hd2⟩⟩
      · exact absurd HB0.out h
      have HB2 := Lib.hid hb2
      have hd1' := hd1.keep hb2.size (fun k hk => hb2.block k (hd1.lt k hk))
      have hT : Two w2 S1 b1 b2 (newD kind n) (newR kind n) := ⟨hd1', hd2, new_rel kind n HB0.out, newD_ok kind n HB0.out, fun h => by have := hd1.lt _ h; omega⟩
      have hb02 := Below.trans HB1.out (HB2.out.mono HB1.out.size)
      have hS1W : ∀ j, Un S1 b2 j → W.heap.size ≤ j := fun j hj => by
        have := HB1.out.size
        rcases hj with hj | hj
        · exact hs1 j hj
        · omega
      have hE2 := HE.out.below hb02
      have hR2 := HR'.out.below hb02
      have hO2 : Off (Un S1 b2) := Off.grow (S := fun _ => False) (W := W) ⟨id, id, id⟩ HE.out (fun k hk => .inr (hS1W k hk))
      have hA2 : 0 < l'.length → ∀ ad, A = some ad → ¬ Un S1 b2 ad.block := fun h0 ad he hs => by
        have := addr_old HR'.out h0 ad he
        have := hS1W _ hs
        omega
      generalize newD kind n = d0 at hT
      generalize newR kind n = y0 at hT
      have HT := Lib.hid hT
      have HB02 := Lib.hid hb02
      have HS1W := Lib.hid hS1W
      have HE2 := Lib.hid hE2
      have HR2 := Lib.hid hR2
      have HO2 := Lib.hid hO2
      have HA2 := Lib.hid hA2
      clear hb2 hd1 hd1' hd2 hT hb02 hS1W hE2 hR2 hO2 hA2 hs1 hs2 HB1 HB2
      go_wp2
      go_loopw [11, 12] (fun v11 v12 wr => ReadsRel S1 b1 b2 l' w2 v11 v12 wr) (fun _ v12 _ => 5 - (intOf v12).toNat)
      case atStart => exact ⟨0, 0, d0, y0, S1, rfl, by omega, rfl, Nat.zero_le _, Tch.refl _ _, fun _ h => .inl h, HT.out⟩
      case round =>
        obtain ⟨i, k, d, y, S, rfl, hi, rfl, hk, ht, hS, hT⟩ := hrel
        by_cases hi5 : i < 5
        · obtain ⟨P, hP, hP4⟩ : ∃ P : Nat, wrap64 (((l'.length : Int) - k) * i) = P ∧ P ≤ 4 * (l'.length - k) := by
            refine ⟨(l'.length - k) * i, ?_, by rw [Nat.mul_comm 4]; exact Nat.mul_le_mul_left _ (by omega)⟩
            have h1 : (l'.length - k) * i ≤ (l'.length - k) * 4 := Nat.mul_le_mul_left _ (by omega)
            have h2 : ((l'.length : Int) - k) * i = (((l'.length - k) * i : Nat) : Int) := by
              rw [Int.natCast_mul, Int.ofNat_sub hk]
            rw [h2]
            unfold wrap64
            omega
          have hll : (l'.length : Int) ≤ 3000 := by omega
          have hPI : (P : Int) ≤ 12000 := by omega
          have hkm : k + P / 4 ≤ l'.length := by omega
          obtain ⟨A', hcut0, hcR, hcA⟩ := cut_mid A cp l' k (P / 4) hkm hc'
          have hcut := hcut0 ((k : Int) + (P : Int) / 4) (by omega)
          clear hcut0
          obtain ⟨q, hq⟩ : ∃ q, q = P / 4 := ⟨_, rfl⟩
          have hlen : ((l'.drop k).take (P / 4)).length = P / 4 := by rw [List.length_take, List.length_drop]; omega
          have hE3 := HE2.out.tch HO2.out ht
          have hR3 := hcR _ (reads_touch0 HR2.out ht HA2.out)
          have hO3 : Off S := HO2.out.grow HE2.out (fun j hj => (hS j hj).elim (fun h => .inl (.inl h)) .inr)
          have hA3 : 0 < P / 4 → ∀ ad, A' = some ad → ¬ S ad.block ∧ ad.block ≠ b2 := fun h0 ad' he => by
            obtain ⟨ad, h2, h3⟩ := hcA ad' he
            have h4 := HA2.out (by omega) ad h2
            have h5 := addr_old HR2.out (by omega) ad h2
            rw [h3] at h4 h5
            exact ⟨fun hs => (hS _ hs).elim (fun h => h4 (.inl h)) (by omega), fun he => h4 (.inr he)⟩
          have HPQ := Lib.hid hq
          rw [← hq] at hcut hR3 hA3 hlen hkm
          generalize hsl : (l'.drop k).take q = sl at hR3 hlen
          have HH := Lib.hid hsl
          subst hlen
          have HE3 := Lib.hid hE3
          have HR3 := Lib.hid hR3
          have HO3 := Lib.hid hO3
          have HA3 := Lib.hid hA3
          have HTW := Lib.hid hT
          have HTC := Lib.hid ht
          have HSS := Lib.hid hS
          clear hsl hE3 hR3 hO3 hA3 hcR hcA hT ht hS hq
          go_wp2_with fail
          refine (feed_walk S b1 d A' sl.length (cp - k) sl wr HTW.out.x HTW.out.ok HE3.out HO3.out HR3.out (fun h0 ad he => (HA3.out h0 ad he).1) (by omega)).mono ?_
          intro e w3 hf
          obtain ⟨vx, Fx, Sx, D, N, hg, rfl, hrx, hFx, tx, hSx, hdx, hyx⟩ := feeds_first HTW.out hf
          have hrf := rfeed_walk b2 { d with out := [] } y A' (cp - k) sl w3 hyx HTW.out.rel ⟨HTW.out.ok.st, HTW.out.ok.sum, HTW.out.ok.left, HTW.out.ok.own, HTW.out.ok.l1, HTW.out.ok.l4⟩ rfl
            (reads_touch0 HR3.out tx (fun h0 ad he => (HA3.out h0 ad he).1)) (fun h0 ad he => (HA3.out h0 ad he).2) (by omega)
          have HRF := Lib.hid hrf
          have HG := Lib.hid hg
          have HRX := Lib.hid hrx
          have HFX := Lib.hid hFx
          have HTX := Lib.hid tx
          have HSX := Lib.hid hSx
          have HDX := Lib.hid hdx
          clear hf hrf hg hrx hFx tx hSx hdx hyx
          go_wp2_with fail
          refine HRF.out.mono ?_
          intro e w4 hf
          obtain ⟨vy, rfl, ⟨F1, hr1⟩, ⟨F2, hr2⟩, t4, hN, S4, y4, hS4, hT4⟩ := feeds_second HTW.out (by omega) HG.out HRX.out HFX.out HTX.out HSX.out HDX.out hf
          have hcv1 := row_string (P := Tryd.prog) Tryd.underlying22 Tryd.underlying5 Tryd.underlying9 hr1
          have hcv2 := row_string (P := Tryd.prog) Tryd.underlying22 Tryd.underlying5 Tryd.underlying9 hr2
          have hrel : ReadsRel S1 b1 b2 l' w2 (.int .i64 ((k : Int) + N)) (.int .i64 ((i : Int) + 1)) w4 :=
            ⟨i + 1, k + N, D, y4, S4, by go_num, by omega, by go_num, by omega, HTC.out.trans t4 (fun j hj => hj.elim (fun h => (HSS.out j h).elim (fun h => .inl (.inl h)) .inr) (fun h => .inl (.inr h))),
              fun j hj => (hS4 j hj).elim (HSS.out j) (fun h => .inr (Nat.le_trans HTC.out.size h)), hT4⟩
          have HREL := Lib.hid hrel
          clear hf hr1 hr2 t4 hS4 hT4 hrel
          go_wp2
          go_roundw
          case rel => first | exact HREL.out | ((repeat apply Exists.intro); exact ⟨HREL.out, rfl⟩)
          case measure => simp [intOf]; omega
        · have hiI : ¬ (i : Int) < 5 := by omega
          have hE3 := HE2.out.tch HO2.out ht
          have hO3 : Off (Un S b2) := HO2.out.grow HE2.out (fun j hj => hj.elim (fun hj => (hS j hj).elim (fun h => .inl (.inl h)) .inr) (fun h => .inl (.inr h)))
          have hB3 := Tch.below_then HB02.out ht (Nat.le_refl _) HS1W.out
          have hSW : ∀ j, Un S b2 j → W.heap.size ≤ j := fun j hj => by
            have := HB02.out.size
            rcases hj with hj | hj
            · rcases hS j hj with h | h
              · exact HS1W.out j (.inl h)
              · omega
            · exact HS1W.out j (.inr hj)
          have HTW := Lib.hid hT
          have HE3 := Lib.hid hE3
          have HO3 := Lib.hid hO3
          have HB3 := Lib.hid hB3
          have HSW := Lib.hid hSW
          clear hT ht hS hE3 hO3 hB3 hSW
          go_wp2_with fail
          refine (end_walk S b1 d wr HTW.out.x HTW.out.ok.st).mono ?_
          rintro e w3 ⟨rfl, hm3⟩
          have hyr3 : RAt w3 b2 y := HTW.out.yr.keep (hm3.1.block b2 HTW.out.yr.blt HTW.out.ap)
          have HM3 := Lib.hid hm3
          have HY3 := Lib.hid hyr3
          clear hm3 hyr3
          go_wp2_with fail
          refine (endr_walk b2 y w3 HY3.out).mono ?_
          rintro e w4 ⟨rfl, t4, ha4⟩
          obtain ⟨S4, hS4, hT4, ht4⟩ := two_end HTW.out HM3.out t4 ha4
          have hed : (endR y).done = (endF d).done := hT4.rel.1
          have hee : (endR y).e = (endF d).e := hT4.rel.2.1
          rw [hed, hee]
          have hE4 := HE3.out.tch HO3.out ht4
          have hO4 : Off (Un S4 b2) := HO3.out.grow HE3.out (fun j hj => hj.elim (fun hj => (hS4 j hj).elim (fun h => .inl (.inl h)) .inr) (fun h => .inl (.inr h)))
          have hB4 := Tch.below_then HB3.out ht4 (Nat.le_refl _) HSW.out
          have hSW4 : ∀ j, Un S4 b2 j → W.heap.size ≤ j := fun j hj => by
            have := HB3.out.size
            rcases hj with hj | hj
            · rcases hS4 j hj with h | h
              · exact HSW.out j (.inl h)
              · omega
            · exact HSW.out j (.inr hj)
          have hlt4 := hT4.x.lt
          have hbl4 := hT4.yr.blt
          have hlit := lit_reads w4
          have hT5 := hT4.alloc (.cells #[.int .u8 97, .int .u8 98, .int .u8 99] 5 (3, 4))
          have hE5 := hE4.below ((Below.refl _ _).alloc (Nat.le_refl _) (.cells #[.int .u8 97, .int .u8 98, .int .u8 99] 5 (3, 4)))
          have hB5 := hB4.alloc hB4.size (.cells #[.int .u8 97, .int .u8 98, .int .u8 99] 5 (3, 4))
          generalize endF d = d4 at hT5 ⊢
          generalize endR y = y4 at hT5
          have HT5 := Lib.hid hT5
          have HE5 := Lib.hid hE5
          have HO4 := Lib.hid hO4
          have HB5 := Lib.hid hB5
          have HSW4 := Lib.hid hSW4
          have HL4 := Lib.hid hlt4
          have HLIT := Lib.hid hlit
          have kc := fun (w : World) (C : Array Value) (n c : Nat) => Lib.run_convert_bytes_const (P := Tryd.prog) w 22 5 C n c Tryd.underlying22 Tryd.underlying5
          clear hed hee hE4 hO4 hB4 hSW4 hlt4 hlit hT4 hT5 hE5 hB5 ht4 t4 ha4 hS4
          go_wp2_with fail
          refine (feed_walk S4 b1 d4 (some ⟨w4.heap.size, 0, none⟩) 3 3 [97, 98, 99] _ HT5.out.x HT5.out.ok HE5.out HO4.out.left HLIT.out (fun _ ad he hs => by
            injection he with he
            subst he
            have := HL4.out _ hs
            simp at this) (by decide)).mono ?_
          intro e w6 hf
          obtain ⟨vx, Fx, Sx, D, N, hg, rfl, hrx, hFx, tx, hSx, hdx, hyx⟩ := feeds_first HT5.out hf
          have hlit6 := lit_reads w6
          have hb6 := hyx.blt
          have hrf := rfeed_walk b2 { d4 with out := [] } y4 (some ⟨w6.heap.size, 0, none⟩) 3 [97, 98, 99] (w6.alloc (.cells #[.int .u8 97, .int .u8 98, .int .u8 99] 5 (3, 4))) (hyx.below ((Below.refl _ _).alloc (Nat.le_refl _) _)) HT5.out.rel
            ⟨HT5.out.ok.st, HT5.out.ok.sum, HT5.out.ok.left, HT5.out.ok.own, HT5.out.ok.l1, HT5.out.ok.l4⟩ rfl hlit6 (fun _ ad he => by
              injection he with he
              subst he
              simp only
              omega) (by decide)
          have HRF := Lib.hid hrf
          have HG := Lib.hid hg
          have HRX := Lib.hid (hrx.alloc (.cells #[.int .u8 97, .int .u8 98, .int .u8 99] 5 (3, 4)))
          have HFX := Lib.hid hFx
          have HTX := Lib.hid (tx.alloc (.cells #[.int .u8 97, .int .u8 98, .int .u8 99] 5 (3, 4)))
          have HSX := Lib.hid hSx
          have HDX := Lib.hid (hdx.keep (by simp) (fun k hk => Below.heap_alloc w6 (.cells #[.int .u8 97, .int .u8 98, .int .u8 99] 5 (3, 4)) k (hdx.lt k hk)))
          clear hf hrf hg hrx hFx tx hSx hdx hyx hlit6 hb6
          go_wp2_with fail
          refine HRF.out.mono ?_
          intro e w7 hf
          obtain ⟨vy, rfl, _, _, t7, _, _, _, _, _⟩ := feeds_second HT5.out (by decide) HG.out HRX.out HFX.out HTX.out HSX.out HDX.out hf
          have hBf := Lib.hid (Tch.below_then HB5.out t7 (Nat.le_refl _) HSW4.out)
          clear hf t7
          go_wp2
          go_ret
          exact ⟨rfl, hBf.out⟩
    · have HBAD := Lib.hid hbad
      have hne : ((newBad kind n : Int) != 0) = true := by simp; omega
      clear hbad
      go_wp2_with fail
      refine (new_walk kind n _).mono ?_
      rintro e w1 ⟨hb1, ⟨_, rfl⟩ | ⟨h, _⟩⟩
      case inr => exact absurd h HBAD.out
      go_wp2_with fail
      refine (newr_walk kind n _).mono ?_
      rintro e w2 ⟨hb2, ⟨_, rfl⟩ | ⟨h, _⟩⟩
      case inr => exact absurd h HBAD.out
      have hB := Lib.hid (Below.trans hb1 (hb2.mono hb1.size))
      clear hb1 hb2
      go_wp2
      go_ret
      exact ⟨rfl, hB.out⟩
end Go.Proofs.YtkfiafclddnaoaaDoor.Tk
