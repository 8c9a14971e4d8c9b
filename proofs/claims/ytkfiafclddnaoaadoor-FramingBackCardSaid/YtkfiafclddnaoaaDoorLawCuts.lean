/- Walk: the law FramingCuts. -/
import Derived.Test.YtkfiafclddnaoaaDoorCutsP
set_option linter.unusedVariables false
set_option linter.unusedSimpArgs false
namespace Go.Proofs.YtkfiafclddnaoaaDoor.Tk
open Go.RowKit Go.Proofs.YtkfiafclddnaoaaDoorW.PrintWords Go.Proofs.YtkfiafclddnaoaaDoorW.PrintLast Go.Proofs.YtkfiafclddnaoaaDoor.Rw

/-- Bytes that are read, at most so many. -/
def Input (W : World) (A : Option Addr) (cp : Nat) (most : Nat) (s : Value) : Prop :=
  ∃ l : Bs, s = .slice A l.length cp ∧ l.length ≤ most ∧ l.length ≤ cp ∧ ReadsInt W .u8 A l.length (ib l)
theorem addr_old {W : World} {A : Option Addr} {l : Bs} (h : ReadsInt W .u8 A l.length (ib l)) (h0 : 0 < l.length) : ∀ ad, A = some ad → ad.block < W.heap.size := by
  intro ad he
  obtain ⟨ad', e, hc⟩ := h.2.2 h0
  rw [he] at e
  injection e with e
  subst e
  have := lt_of_cell (hc 0 h0)
  have hb : (ad.add 0).block = ad.block := by unfold Addr.add; split <;> rfl
  rwa [hb] at this
def CutsRel (S5 : Nat → Prop) (b5 : Nat) (D : DS) (N : Nat) (l : Bs) (W5 : World) (v10 v16 v17 v20 : Value) (wr : World) : Prop :=
  ∃ (k m : Nat) (dk : DS) (g : Bs) (Fg S2 : Nat → Prop), v17 = .int .i64 k ∧ v20 = .bool dk.done ∧ v10 = .int .i64 dk.e ∧ k ≤ l.length ∧ g.length ≤ k ∧ Row wr Fg 1 v16 g.length (nums .u8 (ib g)) ∧
    (∀ j, Fg j → W5.heap.size ≤ j ∧ j < wr.heap.size ∧ ¬ S2 j) ∧ Tch S5 W5 wr ∧ (∀ j, S2 j → S5 j ∨ W5.heap.size ≤ j) ∧ DecAt wr S2 b5 dk ∧ DOk dk ∧
    feedGo (told g { dk with out := [] }) (l.drop k) = (D, m) ∧ k + m = N
set_option maxRecDepth 100000 in
set_option maxHeartbeats 4000000 in
theorem law_cuts (kind n : Int) (A : Option Addr) (cp : Nat) (l : Bs) (W : World) (hc : l.length ≤ cp) (hE : Env W) (hR : ReadsInt W .u8 A l.length (ib l)) :
    Calls Tryd.prog 6 #[.int .i64 kind, .int .i64 n, .slice A l.length cp] W fun e w' => e = .returned (.bool true) ∧ Below W.heap.size W w' := by
  have HR := Lib.hid hR
  have HE := Lib.hid hE
  clear hR hE
  go_enter Tryd.func6, Tryd.ntmps6
  go_upto_if 25 with fail
  go_cut [2] (fun s2 wc => Input W A cp 3000 s2 ∧ W = wc)
  case first =>
    by_cases h3 : 3000 < l.length
    · have h3I : (3000 : Int) < l.length := by omega
      have hcI : (3000 : Int) ≤ cp := by omega
      go_wp2
      go_meet
      case rel =>
        refine ⟨⟨l.take 3000, ?_, by simp; omega, by simp; omega, ?_⟩, rfl⟩
        · rw [List.length_take, Nat.min_eq_left (by omega)]
        · rw [List.length_take, Nat.min_eq_left (by omega)]
          have := HR.out.take_ 3000 (by omega)
          rwa [show (ib l).take 3000 = ib (l.take 3000) by unfold ib; rw [List.map_take]] at this
    · have h3I : ¬ (3000 : Int) < l.length := by omega
      go_wp2
      go_meet
      case rel => exact ⟨⟨l, rfl, by omega, hc, HR.out⟩, rfl⟩
  case rest =>
    obtain ⟨⟨l', rfl, hl, hc', hR'⟩, rfl⟩ := hcut
    have HR' := Lib.hid hR'
    clear hR' HR hc
    have hsz3 : newBad 1 2 = 0 := by decide
    have HN := Lib.hid hsz3
    clear hsz3
    by_cases hbad : newBad kind n = 0
    · have HB0 := Lib.hid hbad
      clear hbad
      go_wp2_with fail
      refine (new_walk kind n _).mono ?_
      rintro e w1 ⟨hb1, ⟨h, _⟩ | ⟨_, b1, S1, rfl, hs1, hd1⟩⟩
      · exact absurd HB0.out h
      have HB1 := Lib.hid hb1
      clear hb1
      go_wp2_with fail
      refine (new_walk kind n _).mono ?_
      rintro e w2 ⟨hb2, ⟨h, _⟩ | ⟨_, b2, S2, rfl, hs2, hd2⟩⟩
      · exact absurd HB0.out h
      have HB2 := Lib.hid hb2
      clear hb2
      go_wp2_with fail
      refine (new_walk 1 2 _).mono ?_
      rintro e w3 ⟨hb3, ⟨h, _⟩ | ⟨_, b3, S3, rfl, hs3, hd3⟩⟩
      · exact absurd HN.out h
      have HB3 := Lib.hid hb3
      have hB := Lib.hid (Below.trans HB1.out (HB2.out.mono HB1.out.size))
      clear hb3 hd3 hs3
      obtain ⟨vo1, vu1, Fo1, Fu1, hd1'⟩ := hd1
      obtain ⟨vo2, vu2, Fo2, Fu2, hd2'⟩ := hd2
      have hd1'' := (hd1'.below HB2.out).below HB3.out
      have hd2'' := hd2'.below HB3.out
      have hdis : ∀ k, S1 k → S2 k → False := fun k h1 h2 => by
        have := hd1'.lt k h1
        have := hs2 k h2
        omega
      have hb3 : Below W.heap.size W w3 := Below.trans (Below.trans HB1.out (HB2.out.mono HB1.out.size)) (HB3.out.mono (Nat.le_trans HB1.out.size HB2.out.size))
      have hE3 := HE.out.below hb3
      have hR3 := HR'.out.below hb3
      have ho1 : Off S1 := Off.grow (S := fun _ => False) (W := W) ⟨id, id, id⟩ HE.out (fun k hk => .inr (hs1 k hk))
      have ho2 : Off S2 := Off.grow (S := fun _ => False) (W := W) ⟨id, id, id⟩ HE.out (fun k hk => .inr (Nat.le_trans HB1.out.size (hs2 k hk)))
      have hok := newD_ok kind n HB0.out
      have hout : (newD kind n).out = [] := rfl
      have hA1 : 0 < l'.length → ∀ ad, A = some ad → ¬ S1 ad.block := fun h0 ad he hs => by
        have := addr_old HR'.out h0 ad he
        have := hs1 _ hs
        omega
      have hA2 : 0 < l'.length → ∀ ad, A = some ad → ¬ S2 ad.block := fun h0 ad he hs => by
        have := addr_old HR'.out h0 ad he
        have := hs2 _ hs
        have := HB1.out.size
        omega
      generalize newD kind n = d0 at *
      have H1 := Lib.hid hd1''
      have H2 := Lib.hid hd2''
      have HD := Lib.hid hdis
      have HBB := Lib.hid hb3
      have HE3 := Lib.hid hE3
      have HR3 := Lib.hid hR3
      have HO1 := Lib.hid ho1
      have HO2 := Lib.hid ho2
      have HOK := Lib.hid hok
      have HOUT := Lib.hid hout
      have HA1 := Lib.hid hA1
      have HA2 := Lib.hid hA2
      have HS1 := Lib.hid hs1
      have HS2 := Lib.hid hs2
      clear hd1' hd2' hd1'' hd2'' hdis hb3 hE3 hR3 ho1 ho2 hok hout hA1 hA2 hs1 hs2
      go_wp2_with fail
      refine (feed_walk S1 b1 d0 A l'.length cp l' w3 H1.out.at_ HOK.out HE3.out HO1.out HR3.out HA1.out (by omega)).mono ?_
      rintro e w4 ⟨vx, Fx, rfl, hrx, hFx, t4, S1', hS1', hd4⟩
      have hd2 := H2.out.keep t4.size (fun k hk => t4.block k (H2.out.lt k hk) (fun h => HD.out k h hk))
      have hE4 := HE3.out.tch HO1.out t4
      have hR4 := reads_touch0 HR3.out t4 HA1.out
      rw [show ({ d0 with out := [] } : DS) = d0 by rw [← HOUT.out]] at hrx hd4 ⊢
      generalize hDN : feedGo d0 l' = DN at hrx hd4 ⊢
      obtain ⟨D, N⟩ := DN
      simp only at hrx hd4 ⊢
      have HDN := Lib.hid hDN
      have HRX := Lib.hid hrx
      have HFX := Lib.hid hFx
      have HD2 := Lib.hid hd2
      have HE4 := Lib.hid hE4
      have HR4 := Lib.hid hR4
      have HT4 := Lib.hid t4
      clear hDN hrx hFx hd2 hE4 hR4 hd4 hS1' t4
      go_wp2_with fail
      refine (feed_walk S2 b2 d0 none 0 0 [] w4 HD2.out.at_ HOK.out HE4.out HO2.out (ReadsInt.nil _ _) (fun h => absurd h (by simp)) (by simp)).mono ?_
      rintro e w5 ⟨vy, Fy, rfl, _, _, t5, S5, hS5, hd5⟩
      rw [show ({ d0 with out := [] } : DS) = d0 by rw [← HOUT.out]] at hd5 ⊢
      simp only [feedGo] at hd5 ⊢
      have hE5 := HE4.out.tch HO2.out t5
      have hR5 := reads_touch0 HR4.out t5 HA2.out
      have hO5 := HO2.out.grow HE4.out hS5
      have h34 := HT4.out.size
      have h45 := t5.size
      have hrx5 : Row w5 (fun k => Fx k ∧ k < w4.heap.size) 1 vx D.out.length (nums .u8 (ib D.out)) := HRX.out.bound.touch t5 (fun k hk _ h2 => by
        have := HFX.out k hk.1
        have := H2.out.lt k h2
        omega)
      have hfx5 : ∀ k, Fx k ∧ k < w4.heap.size → ¬ S5 k := fun k hk h5 => by
        rcases hS5 k h5 with h | h
        · have := HFX.out k hk.1
          have := H2.out.lt k h
          omega
        · omega
      have hA5 : 0 < l'.length → ∀ ad, A = some ad → ¬ S5 ad.block := fun h0 ad he h5 => by
        rcases hS5 _ h5 with h | h
        · exact HA2.out h0 ad he h
        · have := addr_old HR4.out h0 ad he
          omega
      have hB5 : Below W.heap.size W w5 := by
        have b4 := Tch.below_then HBB.out HT4.out (Nat.le_refl _) HS1.out
        have h01 := HB1.out.size
        exact Tch.below_then b4 t5 (Nat.le_refl _) (fun k hk => Nat.le_trans h01 (HS2.out k hk))
      have HS5W : Hid (∀ j, S5 j → W.heap.size ≤ j) := Lib.hid fun j hj => by
        rcases hS5 j hj with h | h
        · have := HS2.out j h
          have := HB1.out.size
          omega
        · have := HBB.out.size
          omega
      have HE5 := Lib.hid hE5
      have HR5 := Lib.hid hR5
      have HO5 := Lib.hid hO5
      have HRX5 := Lib.hid hrx5
      have HFX5 := Lib.hid hfx5
      have HA5 := Lib.hid hA5
      have HB5 := Lib.hid hB5
      have HD5 := Lib.hid hd5
      have HS5 := Lib.hid hS5
      clear hE5 hR5 hO5 hrx5 hfx5 hA5 hB5 hd5 hS5 t5 HRX HFX HD2 HE4 HR4 HT4 h34 h45 HBB HA1 HA2 HS1 HS2 H1 H2 HD HE3 HR3 HO1 HO2 hB HB3 HB2 HB1
      go_wp2_with fail
      go_loopw [10, 16, 17, 20] (fun v10 v16 v17 v20 wr => CutsRel S5 b2 D N l' w5 v10 v16 v17 v20 wr) (fun _ _ v17 _ _ => l'.length - (intOf v17).toNat)
      case atStart => exact ⟨0, N, d0, [], fun _ => False, S5, rfl, rfl, rfl, Nat.zero_le _, Nat.zero_le _, Row.nil _ _ _, fun _ h => h.elim, Tch.refl _ _, fun _ h => .inl h, HD5.out, HOK.out, by rw [told_nil, show ({ d0 with out := [] } : DS) = d0 by rw [← HOUT.out]]; exact HDN.out, Nat.zero_add _⟩
      case round =>
        obtain ⟨k, m, dk, g, Fg, S2, rfl, rfl, rfl, hk, hg, hrg, hfg, tr, hS2, hd, hok, hgo, hkm⟩ := hrel
        have hE6 := HE5.out.tch HO5.out tr
        have hR6 := reads_touch0 HR5.out tr HA5.out
        have hO6 := HO5.out.grow HE5.out hS2
        have hA6 : 0 < l'.length → ∀ ad, A = some ad → ¬ S2 ad.block := fun h0 ad he h5 => by
          rcases hS2 _ h5 with h | h
          · exact HA5.out h0 ad he h
          · have := addr_old HR5.out h0 ad he
            omega
        have HRG := Lib.hid hrg
        have HFG := Lib.hid hfg
        have HTR := Lib.hid tr
        have HS2 := Lib.hid hS2
        have HDK := Lib.hid hd
        have HK := Lib.hid hok
        have HGO := Lib.hid hgo
        have HKM := Lib.hid hkm
        have HE6 := Lib.hid hE6
        have HR6 := Lib.hid hR6
        have HO6 := Lib.hid hO6
        have HA6 := Lib.hid hA6
        clear hrg hfg tr hS2 hd hok hgo hkm hE6 hR6 hO6 hA6
        by_cases hgo : k < l'.length ∧ dk.done = false ∧ dk.e = 0
        · obtain ⟨hlt, hdn, he⟩ := hgo
          have hst : stops dk = false := by unfold stops; rw [hdn, he]; rfl
          have hst0 : stops { dk with out := [] } = false := hst
          obtain ⟨A', hcut, hcR, hcA⟩ := cut_mid A cp l' k 1 (by omega) hc'
          have hcut := hcut ((k : Int) + 1) rfl
          have h1 : (l'.drop k).take 1 = [l'[k]] := by rw [List.drop_eq_getElem_cons hlt]; rfl
          rw [h1] at hcR
          have hfeed := feed_walk S2 b2 dk A' 1 (cp - k) [l'[k]] wr HDK.out HK.out HE6.out HO6.out (hcR _ HR6.out) (fun _ ad' he' hs => by
            obtain ⟨ad, h2, h3⟩ := hcA ad' he'
            exact HA6.out (by omega) ad h2 (by rw [h3]; exact hs)) (by simp)
          unfold FeedP at hfeed
          rw [feed_one _ _ hst0] at hfeed
          have hstep := step_ok { dk with out := [] } l'[k] ⟨HK.out.st, HK.out.sum, HK.out.left, HK.out.own, HK.out.l1, HK.out.l4⟩ he hdn
          obtain ⟨m', hm', hgo'⟩ := feed_step HGO.out hlt (by rw [stops_told]; exact hst0)
          rw [step_told] at hgo'
          generalize stepD { dk with out := [] } l'[k] = s at hfeed hstep hgo'
          have HFEED := Lib.hid hfeed
          have HSTEP := Lib.hid hstep
          have HGO' := Lib.hid hgo'
          have hltI : (k : Int) < l'.length := by omega
          have hlI : (l'.length : Int) ≤ 3000 := by omega
          have hq : ((dk.e : Int) == 0) = true := by rw [he]; rfl
          have HHM := Lib.hid hm'
          clear hfeed hstep hgo' hcR hcA hst hst0 h1 he hm'
          have hhdn := hdn
          go_wp2_with fail
          refine HFEED.out.mono ?_
          rintro e w6 ⟨vo, Fo, rfl, hro, hFo, t6, S6, hS6, hd6⟩
          obtain ⟨Ao, co, rfl, _⟩ := hro.slice
          have hrg6 := HRG.out.touch t6 (fun j hj _ h => (HFG.out j hj).2.2 h)
          have hol : s.out.length ≤ 1 := HSTEP.out.2
          have hgl : (g.length : Int) ≤ k := by omega
          have hsrc := row_src hro
          have hsl : (nums .u8 (ib s.out)).length = s.out.length * 1 := by simp [nums, ib]
          have hT6 : Tch S5 w5 w6 := HTR.out.trans t6 HS2.out
          have h6 := t6.size
          have hd7 : ∀ w7, Tch Fg w6 w7 → DecAt w7 S6 b2 s := fun w7 t7 => by
            obtain ⟨a1, a2, a3, a4, hx⟩ := hd6
            exact ⟨a1, a2, a3, a4, hx.keep t7.size fun j hj => t7.block j (hx.lt j hj) fun hf => by
              rcases hS6 j hj with h | h
              · exact (HFG.out j hf).2.2 h
              · have := (HFG.out j hf).2.1
                omega⟩
          have hs6 : ∀ j, S6 j → S5 j ∨ w5.heap.size ≤ j := fun j hj => by
            rcases hS6 j hj with h | h
            · exact HS2.out j h
            · have := HTR.out.size
              exact .inr (by omega)
          have hlt6 : ∀ j, S6 j → j < w6.heap.size := by
            obtain ⟨a1, a2, a3, a4, hx⟩ := hd6
            exact hx.lt
          have hRG6 := Lib.hid hrg6
          have hSRC := Lib.hid hsrc
          have hSL := Lib.hid hsl
          have hT6 := Lib.hid hT6
          have hD7 := Lib.hid hd7
          have hS6' := Lib.hid hs6
          have hL6 := Lib.hid hlt6
          have hS60 := Lib.hid hS6
          clear hrg6 hsrc hsl hd7 hs6 hlt6 hS6 hd6 hro hFo t6 hcut
          go_wp2_with (first | (at_builtin; refine wp_append rfl (.tmp 116) (.tmp 117) 22 5 (.int .u8 0) 1 rfl Tryd.underlying22 info5 rfl Ao s.out.length co (nums .u8 (ib s.out)) rfl rfl hRG6.out hSL.out hSRC.out.1 hSRC.out.2.1 hSRC.out.2.2 ?y1 ?y2 ?y3))
          case y1 => simp only [maxLen]; omega
          case y2 => omega
          case y3 =>
            intro v7 w7 hr7 t7
            have hD8 := Lib.hid (hD7.out w7 t7)
            have hT7 := Lib.hid (hT6.out.trans t7 (fun j hj => .inr (HFG.out j hj).1))
            have hR7 := Lib.hid hr7
            have h7 := t7.size
            clear hr7 t7
            go_wp2
            go_roundw
            case rel =>
              have hbr := hR7.out.bound
              have hrel : CutsRel S5 b2 D N l' w5 (.int .i64 s.e) v7 (.int .i64 ((k : Int) + 1)) (.bool s.done) w7 := by
               refine ⟨k + 1, m', s, g ++ s.out, _, S6, by go_num, rfl, rfl, by omega, by rw [List.length_append]; omega, by rw [List.length_append, ib_app, show nums .u8 (ib g ++ ib s.out) = nums .u8 (ib g) ++ nums .u8 (ib s.out) by simp [nums]]; exact hbr, ?_, hT7.out, hS6'.out, hD8.out, HSTEP.out.1, ?_, by have := HKM.out; have := HHM.out; omega⟩
               · rintro j ⟨hj | hj, hl7⟩
                 · refine ⟨(HFG.out j hj).1, hl7, fun h => ?_⟩
                   rcases hS60.out j h with h | h
                   · exact (HFG.out j hj).2.2 h
                   · have := (HFG.out j hj).2.1
                     omega
                 · refine ⟨?_, hl7, fun h => ?_⟩
                   · have := hT6.out.size
                     omega
                   · have := hL6.out j h
                     omega
               · rw [show told (g ++ s.out) { s with out := [] } = told g s by simp [told]]
                 exact HGO'.out
              first | exact hrel | ((repeat apply Exists.intro); exact ⟨hrel, rfl⟩)
            case measure => simp [intOf]; omega
        · have hend : stops (told g { dk with out := [] }) = true ∨ l'.length ≤ k := by
            rw [stops_told]
            unfold stops
            simp only
            cases hdn : dk.done with
            | true => exact .inl rfl
            | false =>
              by_cases he : dk.e = 0
              · exact .inr (Nat.le_of_not_lt fun h => hgo ⟨h, hdn, he⟩)
              · exact .inl (by simp [he])
          obtain ⟨hD, hm0⟩ := feed_stop HGO.out hend
          have hNk : N = k := by have := HKM.out; omega
          have hDd : D.done = dk.done := by rw [hD]; rfl
          have hDe : D.e = dk.e := by rw [hD]; rfl
          have hDo : D.out = g := by rw [hD]; simp [told]
          have hcv1 := row_string (P := Tryd.prog) Tryd.underlying22 Tryd.underlying5 Tryd.underlying9 HRG.out
          have hcv2 := row_string (P := Tryd.prog) Tryd.underlying22 Tryd.underlying5 Tryd.underlying9 (HRX5.out.touch HTR.out (fun j hj _ h => HFX5.out j hj h))
          rw [str_ib] at hcv1 hcv2
          rw [hDo] at hcv2
          have hBf := Tch.below_then HB5.out HTR.out (Nat.le_refl _) HS5W.out
          have HBF := Lib.hid hBf
          subst hNk
          have hways : (N < l'.length ∧ dk.done = true) ∨ (N < l'.length ∧ dk.done = false ∧ ((dk.e : Int) == 0) = false) ∨ ¬ (N : Int) < l'.length := by
            by_cases h1 : N < l'.length
            · cases hdn : dk.done with
              | true => exact .inl ⟨h1, rfl⟩
              | false => exact .inr (.inl ⟨h1, rfl, by simp; exact fun h => hgo ⟨h1, hdn, h⟩⟩)
            · exact .inr (.inr (by omega))
          clear hgo hend hD hm0 hBf hDo
          rcases hways with ⟨hlt, hdn⟩ | ⟨hlt, hdn, hq⟩ | hlt
          all_goals
            (try have hltI : (N : Int) < l'.length := by omega)
            go_wp2
            go_ret
            exact ⟨rfl, HBF.out⟩
    · have HBAD := Lib.hid hbad
      have hne : ((newBad kind n : Int) != 0) = true := by simp; omega
      clear hbad
      go_wp2_with fail
      refine (new_walk kind n _).mono ?_
      rintro e w1 ⟨hb1, ⟨_, rfl⟩ | ⟨h, _⟩⟩
      case inr => exact absurd h HBAD.out
      go_wp2_with fail
      refine (new_walk kind n _).mono ?_
      rintro e w2 ⟨hb2, ⟨_, rfl⟩ | ⟨h, _⟩⟩
      case inr => exact absurd h HBAD.out
      go_wp2_with fail
      refine (new_walk 1 2 _).mono ?_
      rintro e w3 ⟨hb3, ⟨h, _⟩ | ⟨_, b3, S3, rfl, _, _⟩⟩
      case inl => exact absurd HN.out h
      have hB := Lib.hid (Below.trans (Below.trans hb1 (hb2.mono hb1.size)) (hb3.mono (Nat.le_trans hb1.size hb2.size)))
      clear hb1 hb2 hb3
      go_wp2
      go_ret
      exact ⟨rfl, hB.out⟩
end Go.Proofs.YtkfiafclddnaoaaDoor.Tk
