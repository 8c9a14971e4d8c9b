/- Walk: the law FramingBack. -/
import Derived.Test.YtkfiafclddnaoaaDoorBackW
set_option linter.unusedVariables false
set_option linter.unusedSimpArgs false
namespace Go.Proofs.YtkfiafclddnaoaaDoor.Tk
open Go.RowKit Go.Proofs.YtkfiafclddnaoaaDoorW.PrintWords Go.Proofs.YtkfiafclddnaoaaDoorW.PrintLast Go.Proofs.YtkfiafclddnaoaaDoor.Rw

theorem _root_.Go.Proofs.YtkfiafclddnaoaaDoor.Fm.Tab.below' {W W' : World} (h : Fm.Tab W) (hb : Below W.heap.size W W') : Fm.Tab W' := pw_cell_below hb h
def BackRel1 (ps : List Bs) (W : World) (v7 v8 v9 : Value) (wr : World) : Prop :=
  ∃ (i : Nat) (F7 F8 : Nat → Prop), v9 = .int .i64 i ∧ i ≤ ps.length ∧ i ≤ 20 ∧ Back W wr F7 F8 v7 v8 (bodyB (cutsOf ps i)) (wireB (cutsOf ps i))
def BackMid (W : World) (qs : List Bs) (v7 v8 : Value) (wc : World) : Prop :=
  ∃ (F7 F8 : Nat → Prop) (mo wi : Bs), wi = (wireB qs ++ lastB) ++ mo ∧ mo.length < 1000 ∧ Back W wc F7 F8 v7 v8 (bodyB qs) wi
def boolOf : Value → Bool
  | .bool b => b
  | _ => false
def back2 (nc long : Nat) (v15 v16 v17 : Value) : Nat := (nc - (intOf v17).toNat) + (if boolOf v16 = true ∨ long ≤ (intOf v15).toNat then 0 else 1)
def BackRel2 (nc : Nat) (S6 : Nat → Prop) (b6 : Nat) (D : DS) (N : Nat) (wi : Bs) (w6 : World) (v14 v15 v16 v17 : Value) (wr : World) : Prop :=
  ∃ (k m i : Nat) (dk : DS) (g : Bs) (Fg S2 : Nat → Prop), v15 = .int .i64 k ∧ v16 = .bool dk.done ∧ v17 = .int .i64 i ∧ v14 = v14 ∧ k ≤ wi.length ∧ g.length ≤ k ∧ Row wr Fg 1 v14 g.length (nums .u8 (ib g)) ∧
    (∀ j, Fg j → w6.heap.size ≤ j ∧ j < wr.heap.size ∧ ¬ S2 j) ∧ Tch S6 w6 wr ∧ (∀ j, S2 j → S6 j ∨ w6.heap.size ≤ j) ∧ DecAt wr S2 b6 dk ∧ DOk dk ∧
    feedGo (told g { dk with out := [] }) (wi.drop k) = (D, m) ∧ k + m = N ∧ i ≤ nc + 1 ∧ (nc < i → dk.done = true ∨ wi.length ≤ k)
theorem back2_lt (nc long k n j : Nat) (done : Bool) (hk : k < long) (hj : j ≤ nc) (h : j = nc → done = true ∨ long ≤ k + n) :
    back2 nc long (.int .i64 ((k : Int) + n)) (.bool done) (.int .i64 ((j : Int) + 1)) < back2 nc long (.int .i64 k) (.bool false) (.int .i64 j) := by
  have e1 : ((k : Int) + n).toNat = k + n := by omega
  have e2 : ((j : Int) + 1).toNat = j + 1 := by omega
  have l1 : back2 nc long (.int .i64 ((k : Int) + n)) (.bool done) (.int .i64 ((j : Int) + 1)) = (nc - (j + 1)) + (if done = true ∨ long ≤ k + n then 0 else 1) := by
    unfold back2 boolOf intOf
    simp only [e1, e2]
  have l2 : back2 nc long (.int .i64 k) (.bool false) (.int .i64 j) = (nc - j) + 1 := by
    unfold back2 boolOf intOf
    simp only [Int.toNat_natCast]
    rw [if_neg (by simp; omega)]
  rw [l1, l2]
  by_cases hd : done = true ∨ long ≤ k + n
  · rw [if_pos hd]; omega
  · rw [if_neg hd]
    have : j ≠ nc := fun hh => hd (h hh)
    omega
set_option maxRecDepth 100000 in
set_option maxHeartbeats 4000000 in
theorem law_back (P : Option Addr) (cpP : Nat) (ps : List Bs) (C : Option Addr) (nc cc : Nat) (cs : List Int) (M : Option Addr) (cpM : Nat) (mo : Bs) (W : World) (hP : PiecesAt W P ps) (hpl : ps.length ≤ 9000000000000000) (hC : ReadsInt W .i64 C nc cs) (hnc : nc ≤ 8000000000000000)
    (hM : ReadsInt W .u8 M mo.length (ib mo)) (hE : Env W) (hT : Fm.Tab W) :
    Calls Tryd.prog 8 #[.slice P ps.length cpP, .slice C nc cc, .slice M mo.length cpM] W fun e w' => e = .returned (.bool true) ∧ Below W.heap.size W w' := by
  have HP := Lib.hid hP
  have HC := Lib.hid hC
  have HM := Lib.hid hM
  have HE := Lib.hid hE
  have HT := Lib.hid hT
  clear hP hC hM hE hT
  go_enter Tryd.func8, Tryd.ntmps8
  go_wp2
  go_loopw [7, 8, 9] (fun v7 v8 v9 wr => BackRel1 ps W v7 v8 v9 wr) (fun _ _ v9 _ => 20 - (intOf v9).toNat)
  case atStart => exact ⟨0, _, _, rfl, Nat.zero_le _, by omega, Back.start W⟩
  case round =>
    obtain ⟨i, F7, F8, rfl, hi, hi20, hB⟩ := hrel
    obtain ⟨hbl, hwl⟩ := body_len (cutsOf ps i) (cuts_le ps i)
    have hcl := cuts_len ps i
    by_cases hgo : i < ps.length ∧ i < 20
    · obtain ⟨hlt, h20⟩ := hgo
      obtain ⟨ad, rfl, hcell⟩ := HP.out (by omega)
      obtain ⟨A', cA, hc1, hc2, hc3⟩ := hcell i hlt
      have hc1 := pw_cell_below hB.bel hc1
      have HCS := Lib.hid (cuts_snoc ps i hlt)
      have hltI : (i : Int) < ps.length := by omega
      have h20I : (i : Int) < 20 := by omega
      have HTAB := Lib.hid hB.bel
      have HB := Lib.hid hB
      clear hcell
      by_cases h3 : 300 < ps[i].length
      · have h3I : (300 : Int) < ps[i].length := by omega
        have hcI : (300 : Int) ≤ cA := by omega
        have hpl0 : (ps[i].take 300).length = 300 := by rw [List.length_take]; omega
        have hrw : ReadsInt W .u8 A' 300 (ib (ps[i].take 300)) := by
          have := hc2.take_ 300 (by omega)
          rwa [show (ib ps[i]).take 300 = ib (ps[i].take 300) by unfold ib; rw [List.map_take]] at this
        have HRW := Lib.hid hrw
        have HSRC := Lib.hid (reads_src (hrw.below hB.bel))
        generalize ps[i].take 300 = pc at hpl0 HRW HSRC HCS
        have HPL := Lib.hid hpl0
        clear h3 hpl0 hrw hc2 hB
        go_wp2_with (first | (at_builtin; refine wp_append rfl (.tmp 42) (.tmp 43) 22 5 (.int .u8 0) 1 rfl Tryd.underlying22 info5 rfl A' 300 cA (nums .u8 (ib pc)) rfl rfl HB.out.r7 HSRC.out.1 HSRC.out.2.1 HSRC.out.2.2.1 HSRC.out.2.2.2 ?y1 ?y2 ?y3))
        case y1 => simp only [maxLen]; omega
        case y2 => omega
        case y3 =>
          intro v2 w2 hr2 ht2
          have hpl := HPL.out
          rw [← hpl] at hr2
          obtain ⟨F7', hB2⟩ := HB.out.app7 hr2 ht2
          have hR2 : ReadsInt w2 .u8 A' 300 (ib pc) := (HRW.out).below hB2.bel
          have HB2 := Lib.hid hB2
          have HR2 := Lib.hid hR2
          clear hr2 ht2 hpl hB2 hR2
          have hTab := HT.out.below' HB2.out.bel
          have HTB := Lib.hid hTab
          clear hTab
          go_wp2_with fail
          refine (Fm.chunk_any A' 300 cA (ib pc) w2 (by omega) HTB.out HR2.out).mono ?_
          unfold Fm.ChunkPost
          rw [← chunkB_ib pc (by have := HPL.out; omega)]
          rintro e w3 ⟨v3, rfl, hr3, hb3⟩
          rw [ib_length] at hr3
          obtain ⟨A3, c3, rfl, _⟩ := hr3.slice
          have hsrc3 := row_src hr3
          have hsl3 : (nums .u8 (ib (chunkB pc))).length = (chunkB pc).length * 1 := by simp [nums, ib]
          have HB3 := Lib.hid (HB2.out.below hb3)
          have HS3 := Lib.hid hsrc3
          have HL3 := Lib.hid hsl3
          have hcl := chunkB_len pc (by have := HPL.out; omega)
          clear hr3 hb3 hsrc3 hsl3
          go_wp2_with (first | (at_builtin; refine wp_append rfl (.tmp 45) (.tmp 47) 22 5 (.int .u8 0) 1 rfl Tryd.underlying22 info5 rfl A3 (chunkB pc).length c3 (nums .u8 (ib (chunkB pc))) rfl rfl HB3.out.r8 HL3.out HS3.out.1 HS3.out.2.1 HS3.out.2.2 ?z1 ?z2 ?z3))
          case z1 => simp only [maxLen]; omega
          case z2 => omega
          case z3 =>
            intro v4 w4 hr4 ht4
            obtain ⟨F8', hB4⟩ := HB3.out.app8 hr4 ht4
            have hrel : BackRel1 ps W v2 v4 (.int .i64 ((i : Int) + 1)) w4 := by
              refine ⟨i + 1, F7', F8', by go_num, by omega, by omega, ?_⟩
              rw [HCS.out, body_snoc, wire_snoc]
              exact hB4
            have HREL := Lib.hid hrel
            clear hr4 ht4 hB4 hrel
            go_wp2
            go_roundw
            case rel => first | exact HREL.out | ((repeat apply Exists.intro); exact ⟨HREL.out, rfl⟩)
            case measure => simp [intOf]; omega
      · have h3I : ¬ (300 : Int) < ps[i].length := by omega
        have hpl0 : ps[i].take 300 = ps[i] := List.take_of_length_le (by omega)
        rw [hpl0] at HCS
        have hplI : (ps[i].length : Int) ≤ 300 := by omega
        have HRW := Lib.hid hc2
        have HSRC := Lib.hid (reads_src (hc2.below hB.bel))
        generalize ps[i] = pc at *
        have hpc3 : pc.length ≤ 300 := by omega
        clear hpl0 hc2 hB
        go_wp2_with (first | (at_builtin; refine wp_append rfl (.tmp 42) (.tmp 43) 22 5 (.int .u8 0) 1 rfl Tryd.underlying22 info5 rfl A' pc.length cA (nums .u8 (ib pc)) rfl rfl HB.out.r7 HSRC.out.1 HSRC.out.2.1 HSRC.out.2.2.1 HSRC.out.2.2.2 ?y1 ?y2 ?y3))
        case y1 => simp only [maxLen]; omega
        case y2 => omega
        case y3 =>
          intro v2 w2 hr2 ht2
          obtain ⟨F7', hB2⟩ := HB.out.app7 hr2 ht2
          have hR2 : ReadsInt w2 .u8 A' pc.length (ib pc) := (HRW.out).below hB2.bel
          have HB2 := Lib.hid hB2
          have HR2 := Lib.hid hR2
          clear hr2 ht2 hB2 hR2
          have hTab := HT.out.below' HB2.out.bel
          have HTB := Lib.hid hTab
          clear hTab
          go_wp2_with fail
          refine (Fm.chunk_any A' pc.length cA (ib pc) w2 (by omega) HTB.out HR2.out).mono ?_
          unfold Fm.ChunkPost
          rw [← chunkB_ib pc (by omega)]
          rintro e w3 ⟨v3, rfl, hr3, hb3⟩
          rw [ib_length] at hr3
          obtain ⟨A3, c3, rfl, _⟩ := hr3.slice
          have hsrc3 := row_src hr3
          have hsl3 : (nums .u8 (ib (chunkB pc))).length = (chunkB pc).length * 1 := by simp [nums, ib]
          have HB3 := Lib.hid (HB2.out.below hb3)
          have HS3 := Lib.hid hsrc3
          have HL3 := Lib.hid hsl3
          have hcl := chunkB_len pc (by omega)
          clear hr3 hb3 hsrc3 hsl3
          go_wp2_with (first | (at_builtin; refine wp_append rfl (.tmp 45) (.tmp 47) 22 5 (.int .u8 0) 1 rfl Tryd.underlying22 info5 rfl A3 (chunkB pc).length c3 (nums .u8 (ib (chunkB pc))) rfl rfl HB3.out.r8 HL3.out HS3.out.1 HS3.out.2.1 HS3.out.2.2 ?z1 ?z2 ?z3))
          case z1 => simp only [maxLen]; omega
          case z2 => omega
          case z3 =>
            intro v4 w4 hr4 ht4
            obtain ⟨F8', hB4⟩ := HB3.out.app8 hr4 ht4
            have hrel : BackRel1 ps W v2 v4 (.int .i64 ((i : Int) + 1)) w4 := by
              refine ⟨i + 1, F7', F8', by go_num, by omega, by omega, ?_⟩
              rw [HCS.out, body_snoc, wire_snoc]
              exact hB4
            have HREL := Lib.hid hrel
            clear hr4 ht4 hB4 hrel
            go_wp2
            go_roundw
            case rel => first | exact HREL.out | ((repeat apply Exists.intro); exact ⟨HREL.out, rfl⟩)
            case measure => simp [intOf]; omega
    · have hways : ¬ (i : Int) < ps.length ∨ ((i : Int) < ps.length ∧ ¬ (i : Int) < 20) := by omega
      have hq3 := cuts_le ps i
      have hq20 : (cutsOf ps i).length ≤ 20 := by omega
      generalize cutsOf ps i = qs at *
      have HB := Lib.hid hB
      have HQ3 := Lib.hid hq3
      clear hgo hB hq3 hcl
      rcases hways with hlt | ⟨hlt, h20⟩
      all_goals
        go_wp2_with fail
        refine (Fm.last_walk wr).mono ?_
        rintro e w2 ⟨vl, rfl, hrl, hb2⟩
        obtain ⟨Al, cl, rfl, _⟩ := hrl.slice
        have hsrc := row_src (xs := [48, 13, 10, 13, 10]) hrl
        have HB2 := Lib.hid (HB.out.below hb2)
        have HSRC := Lib.hid hsrc
        clear hrl hsrc hb2
        go_wp2_with (first | (at_builtin; refine wp_append rfl (.tmp 49) (.tmp 50) 22 5 (.int .u8 0) 1 rfl Tryd.underlying22 info5 rfl Al 5 cl (nums .u8 [48, 13, 10, 13, 10]) rfl rfl HB2.out.r8 rfl HSRC.out.1 HSRC.out.2.1 HSRC.out.2.2 ?y1 ?y2 ?y3))
        case y1 => simp only [maxLen]; omega
        case y2 => omega
        case y3 =>
          intro v3 w3 hr3 ht3
          obtain ⟨F8', hB3⟩ := HB2.out.app8 (p := lastB) hr3 ht3
          obtain ⟨A3, c3, hv3, _⟩ := hr3.slice
          subst hv3
          have HB3 := Lib.hid hB3
          clear hr3 ht3 hB3
          go_upto_if 56 with fail
          go_cut [8] (fun s8 wc => BackMid W qs u7 s8 wc)
          case first =>
            by_cases hm : mo.length < 1000
            · have hmI : (mo.length : Int) < 1000 := by omega
              have HS := Lib.hid (reads_src (HM.out.below HB3.out.bel))
              go_wp2_with (first | (at_builtin; refine wp_append rfl (.tmp 57) (.tmp 58) 22 5 (.int .u8 0) 1 rfl Tryd.underlying22 info5 rfl M mo.length cpM (nums .u8 (ib mo)) rfl rfl HB3.out.r8 HS.out.1 HS.out.2.1 HS.out.2.2.1 HS.out.2.2.2 ?z1 ?z2 ?z3))
              case z1 => rw [List.length_append]; simp only [maxLen, lastB, List.length_cons, List.length_nil]; omega
              case z2 => rw [List.length_append]; simp only [lastB, List.length_cons, List.length_nil]; omega
              case z3 =>
                intro v4 w4 hr4 ht4
                rw [← List.length_append] at hr4
                obtain ⟨F8'', hB4⟩ := HB3.out.app8 hr4 ht4
                have HB4 := Lib.hid hB4
                clear hr4 ht4 hB4
                go_wp2
                go_meet
                case rel => exact ⟨_, F8'', mo, _, rfl, hm, HB4.out⟩
            · have hmI : ¬ (mo.length : Int) < 1000 := by omega
              go_wp2
              go_meet
              case rel => exact ⟨_, F8', [], _, rfl, by decide, by rw [List.append_nil]; exact HB3.out⟩
          case rest =>
            obtain ⟨G7, G8, mo', wi, hwi, hmo', hB5⟩ := hcut
            obtain ⟨D, hD, hDd, hDe, hDo⟩ := back_all qs mo' HQ3.out hq20
            rw [← hwi] at hD
            have hwl2 : wi.length ≤ 8000 := by rw [hwi]; simp only [List.length_append, lastB, List.length_cons, List.length_nil]; omega
            obtain ⟨N, hN⟩ : ∃ N, N = (wireB qs ++ lastB).length := ⟨_, rfl⟩
            rw [← hN] at hD
            have hN5 : N = (wireB qs).length + 5 := by rw [hN, List.length_append]; rfl
            have HN5 := Lib.hid hN5
            clear hwi hN hN5
            have HB5 := Lib.hid hB5
            have HD := Lib.hid hD
            have HDD := Lib.hid hDd
            have HDE := Lib.hid hDe
            have HDO := Lib.hid hDo
            obtain ⟨A5, c5, hv5, hc5⟩ := hB5.r8.slice
            have hnb : newBad 2 0 = 0 := by decide
            have HNB := Lib.hid hnb
            subst hv5
            clear hD hDd hDe hDo hB5 hnb
            go_wp2_with fail
            refine (new_walk 2 0 _).mono ?_
            rintro e w6 ⟨hb6, ⟨h, _⟩ | ⟨_, b6, S6, rfl, hs6, hd6⟩⟩
            case inl => exact absurd HNB.out h
            have HB6 := Lib.hid (HB5.out.below hb6)
            have HS6 := Lib.hid hs6
            have HD6 := Lib.hid hd6
            have HZ6 := Lib.hid hb6.size
            clear hb6 hs6 hd6
            have hR6 : ∃ A c, Value.slice A5 wi.length c5 = .slice A wi.length c ∧ wi.length ≤ c ∧ ReadsInt w6 .u8 A wi.length (ib wi) := row_reads HB6.out.r8
            have hE6 := HE.out.below HB6.out.bel
            have hC6 := HC.out.below HB6.out.bel
            have hO6 : Off S6 := Off.grow (S := fun _ => False) (W := W) ⟨id, id, id⟩ HE.out (fun k hk => .inr (Nat.le_trans HB5.out.bel.size (HS6.out k hk)))
            have hS6W : ∀ j, S6 j → W.heap.size ≤ j := fun j hj => Nat.le_trans HB5.out.bel.size (HS6.out j hj)
            have hA6 : 0 < wi.length → ∀ ad, A5 = some ad → ¬ S6 ad.block := fun h0 ad he hs => by
              have h1 := HS6.out _ hs
              obtain ⟨A, c, e1, _, hr⟩ := row_reads HB5.out.r8
              injection e1 with e1 _ _
              subst e1
              have h2 := addr_old hr h0 ad he
              omega
            obtain ⟨A6, c6, e6, hc6, hr6⟩ := hR6
            injection e6 with e61 e62 e63
            subst e61 e63
            have hok6 := newD_ok 2 0 HNB.out
            have hC6b : 0 < nc → ∀ ad, C = some ad → ¬ S6 ad.block := fun h0 ad he hs => by
              have h1 := hS6W _ hs
              obtain ⟨ad', e1, hcl⟩ := HC.out.2.2 h0
              rw [he] at e1
              injection e1 with e1
              subst e1
              have h2 := lt_of_cell (hcl 0 h0)
              have hb : (ad.add 0).block = ad.block := by unfold Addr.add; split <;> rfl
              rw [hb] at h2
              omega
            have HR6 := Lib.hid hr6
            have HE6 := Lib.hid hE6
            have HC6 := Lib.hid hC6
            have HO6 := Lib.hid hO6
            have HS6W := Lib.hid hS6W
            have HA6 := Lib.hid hA6
            have HCB := Lib.hid hC6b
            have HOK6 := Lib.hid hok6
            clear hr6 hE6 hC6 hO6 hS6W hA6 hC6b hok6
            go_wp2_with fail
            go_loopw [14, 15, 16, 17] (fun v14 v15 v16 v17 wr => BackRel2 nc S6 b6 D N wi w6 v14 v15 v16 v17 wr) (fun _ v15 v16 v17 _ => back2 nc wi.length v15 v16 v17)
            case atStart => exact ⟨0, N, 0, newD 2 0, [], fun _ => False, S6, rfl, rfl, rfl, rfl, Nat.zero_le _, Nat.zero_le _, Row.nil _ _ _, fun _ h => h.elim, Tch.refl _ _, fun _ h => .inl h, HD6.out, HOK6.out, HD.out, Nat.zero_add _, Nat.zero_le _, fun h => absurd h (Nat.not_lt_zero _)⟩
            case round =>
              obtain ⟨k, m, j, dk, g, Fg, S2, rfl, rfl, rfl, _, hk, hg, hrg, hfg, tr, hS2, hd, hok, hgo, hkm, hj, hjn⟩ := hrel
              have hE7 := HE6.out.tch HO6.out tr
              have hR7 := reads_touch0 HR6.out tr HA6.out
              have hC7 := reads_touch0 HC6.out tr HCB.out
              have hO7 := HO6.out.grow HE6.out hS2
              have hA7 : 0 < wi.length → ∀ ad, A5 = some ad → ¬ S2 ad.block := fun h0 ad he h5 => by
                rcases hS2 _ h5 with h | h
                · exact HA6.out h0 ad he h
                · have := addr_old HR6.out h0 ad he
                  omega
              have HRG := Lib.hid hrg
              have HFG := Lib.hid hfg
              have HTR := Lib.hid tr
              have HS2 := Lib.hid hS2
              have HDK := Lib.hid hd
              have HK := Lib.hid hok
              have HGO := Lib.hid hgo
              have HKM := Lib.hid hkm
              have HE7 := Lib.hid hE7
              have HR7 := Lib.hid hR7
              have HC7 := Lib.hid hC7
              have HO7 := Lib.hid hO7
              have HA7 := Lib.hid hA7
              clear hrg hfg tr hS2 hd hok hgo hkm hE7 hR7 hC7 hO7 hA7
              by_cases hgo : k < wi.length ∧ dk.done = false
              · obtain ⟨hlt, hdn⟩ := hgo
                have hltI : (k : Int) < wi.length := by omega
                have hlI : (wi.length : Int) ≤ 8000 := by omega
                have hjc : j ≤ nc := Nat.le_of_not_lt fun h => (hjn h).elim (fun h => by rw [hdn] at h; cases h) (fun h => by omega)
                have hjI : (j : Int) ≤ 8000000000000000 := by omega
                clear hjn
                go_wp2_with fail
                refine (piece_walk C nc cc cs j k wi.length wr HC7.out (by omega) (by omega) hk).mono ?_
                rintro e w7 ⟨q, rfl, hkq, hql, hqn, rfl⟩
                obtain ⟨A', hcut0, hcR, hcA⟩ := cut_mid A5 c5 wi k (q - k) (by omega) hc6
                have hcut := hcut0 (q : Int) (by omega)
                clear hcut0
                obtain ⟨hbe, hbd, m', hbg, hbm⟩ := back_round HGO.out HDE.out hkq hql
                have hlen : ((wi.drop k).take (q - k)).length = q - k := by rw [List.length_take, List.length_drop]; omega
                have hfeed := feed_walk S2 b6 dk A' (q - k) (c5 - k) ((wi.drop k).take (q - k)) wr HDK.out HK.out HE7.out HO7.out (hcR _ HR7.out) (fun h0 ad' he' hs => by
                  obtain ⟨ad, h2, h3⟩ := hcA ad' he'
                  exact HA7.out (by omega) ad h2 (by rw [h3]; exact hs)) (by omega)
                have hfok := feed_ok ((wi.drop k).take (q - k)) { dk with out := [] } ⟨HK.out.st, HK.out.sum, HK.out.left, HK.out.own, HK.out.l1, HK.out.l4⟩
                have hfout := feed_out ((wi.drop k).take (q - k)) { dk with out := [] } ⟨HK.out.st, HK.out.sum, HK.out.left, HK.out.own, HK.out.l1, HK.out.l4⟩
                unfold FeedP at hfeed
                rw [hlen] at hfok
                generalize feedGo { dk with out := [] } ((wi.drop k).take (q - k)) = sn at hfeed hbe hbd hbg hbm hfok hfout
                obtain ⟨s, n⟩ := sn
                simp only at hfeed hbe hbd hbg hbm hfok hfout
                simp only [List.length_nil, Nat.zero_add] at hfout
                have HFEED := Lib.hid hfeed
                have HBE := Lib.hid hbe
                have HBD := Lib.hid hbd
                have HBG := Lib.hid hbg
                have HBM := Lib.hid hbm
                have HFOK := Lib.hid hfok
                have HQN := Lib.hid hqn
                have HDN := Lib.hid hdn
                have hnq : n ≤ q - k := hfok.2.2
                have hkqI : (k : Int) ≤ q := by omega
                have hqlI : (q : Int) ≤ wi.length := by omega
                clear hfeed hbe hbd hbg hbm hfok hqn hcR hcA hlen
                go_wp2_with fail
                refine HFEED.out.mono ?_
                rintro e w8 ⟨vo, Fo, rfl, hro, hFo, t8, S8, hS8, hd8⟩
                rw [HBE.out]
                have hfinish : j = nc → s.done = true ∨ wi.length ≤ k + n := fun hh => by
                  have hq' := HQN.out (by omega)
                  cases hsd : s.done with
                  | true => exact .inl rfl
                  | false => have := HBD.out hsd; exact .inr (by omega)
                have hmeas := back2_lt nc wi.length k n j s.done hlt hjc hfinish
                have HMEAS := Lib.hid hmeas
                have HFIN := Lib.hid hfinish
                clear hmeas hfinish
                have hways : (s.done = false ∧ n = q - k) ∨ s.done = true := by
                  cases hsd : s.done with
                  | true => exact .inr rfl
                  | false => exact .inl ⟨rfl, HBD.out hsd⟩
                rcases hways with ⟨hsd, hnq2⟩ | hsd
                all_goals
                  (try have hq2 : ((n : Int) != (q : Int) - k) = false := by simp; omega)
                  (try clear hnq2)
                  have HSD := Lib.hid hsd
                  rw [hsd] at HMEAS ⊢
                  clear hsd
                  obtain ⟨Ao, co, rfl, _⟩ := hro.slice
                  have hrg6 := HRG.out.touch t8 (fun j hj _ h => (HFG.out j hj).2.2 h)
                  have hol : s.out.length ≤ n ∧ s.out.length ≤ 8000 := ⟨hfout, by omega⟩
                  have hsrc := row_src hro
                  have hsl : (nums .u8 (ib s.out)).length = s.out.length * 1 := by simp [nums, ib]
                  have hT6 : Tch S6 w6 w8 := HTR.out.trans t8 HS2.out
                  have h8 := t8.size
                  have hd9 : ∀ w9, Tch Fg w8 w9 → DecAt w9 S8 b6 s := fun w9 t9 => by
                    obtain ⟨a1, a2, a3, a4, hx⟩ := hd8
                    exact ⟨a1, a2, a3, a4, hx.keep t9.size fun j hj => t9.block j (hx.lt j hj) fun hf => by
                      rcases hS8 j hj with h | h
                      · exact (HFG.out j hf).2.2 h
                      · have := (HFG.out j hf).2.1
                        omega⟩
                  have hs8 : ∀ j, S8 j → S6 j ∨ w6.heap.size ≤ j := fun j hj => by
                    rcases hS8 j hj with h | h
                    · exact HS2.out j h
                    · have := HTR.out.size
                      exact .inr (by omega)
                  have hlt8 : ∀ j, S8 j → j < w8.heap.size := by
                    obtain ⟨a1, a2, a3, a4, hx⟩ := hd8
                    exact hx.lt
                  have hRG6 := Lib.hid hrg6
                  have hSRC := Lib.hid hsrc
                  have hSL := Lib.hid hsl
                  have hT6 := Lib.hid hT6
                  have hD9 := Lib.hid hd9
                  have hS8' := Lib.hid hs8
                  have hL8 := Lib.hid hlt8
                  have hS80 := Lib.hid hS8
                  obtain ⟨hol1, hol2⟩ := hol
                  clear hrg6 hsrc hsl hd9 hs8 hlt8 hS8 hd8 hro hFo t8 hcut
                  go_wp2_with (first | (at_builtin; refine wp_append rfl (.tmp 110) (.tmp 111) 22 5 (.int .u8 0) 1 rfl Tryd.underlying22 info5 rfl Ao s.out.length co (nums .u8 (ib s.out)) rfl rfl hRG6.out hSL.out hSRC.out.1 hSRC.out.2.1 hSRC.out.2.2 ?x1 ?x2 ?x3))
                  case x1 => simp only [maxLen]; omega
                  case x2 => omega
                  case x3 =>
                    intro v9 w9 hr9 t9
                    have hrel : BackRel2 nc S6 b6 D N wi w6 v9 (.int .i64 ((k : Int) + n)) (.bool s.done) (.int .i64 ((j : Int) + 1)) w9 := by
                      have hbr := hr9.bound
                      refine ⟨k + n, m', j + 1, s, g ++ s.out, _, S8, by go_num, rfl, by go_num, rfl, by omega, by rw [List.length_append]; omega, by rw [List.length_append, ib_app, show nums .u8 (ib g ++ ib s.out) = nums .u8 (ib g) ++ nums .u8 (ib s.out) by simp [nums]]; exact hbr, ?_, hT6.out.trans t9 (fun j hj => .inr (HFG.out j hj).1), hS8'.out, hD9.out w9 t9, HFOK.out.1, ?_, by have := HKM.out; have := HBM.out; omega, by omega, fun hh => HFIN.out (by omega)⟩
                      · rintro j ⟨hj | hj, hl7⟩
                        · refine ⟨(HFG.out j hj).1, hl7, fun h => ?_⟩
                          rcases hS80.out j h with h | h
                          · exact (HFG.out j hj).2.2 h
                          · have := (HFG.out j hj).2.1
                            omega
                        · refine ⟨?_, hl7, fun h => ?_⟩
                          · have := hT6.out.size
                            omega
                          · have := hL8.out j h
                            omega
                      · rw [show told (g ++ s.out) { s with out := [] } = told g s by simp [told]]
                        exact HBG.out
                    rw [HSD.out] at hrel
                    have HREL := Lib.hid hrel
                    have h9 := t9.size
                    clear hr9 t9 hrel
                    go_wp2
                    go_roundw
                    case rel => first | exact HREL.out | ((repeat apply Exists.intro); exact ⟨HREL.out, rfl⟩)
                    case measure => rw [HDN.out]; exact HMEAS.out
              · have hend : stops (told g { dk with out := [] }) = true ∨ wi.length ≤ k := by
                  rw [stops_told]
                  unfold stops
                  simp only
                  cases hdn : dk.done with
                  | true => exact .inl rfl
                  | false => exact .inr (Nat.le_of_not_lt fun h => hgo ⟨h, hdn⟩)
                obtain ⟨hD1, hm0⟩ := feed_stop HGO.out hend
                have hNk : N = k := by have := HKM.out; omega
                have hdn : dk.done = true := by
                  have := HDD.out
                  rw [hD1] at this
                  exact this
                have hgo2 : g = bodyB qs := by
                  have := HDO.out
                  rw [hD1] at this
                  simpa [told] using this
                have hcv1 := row_string (P := Tryd.prog) Tryd.underlying22 Tryd.underlying5 Tryd.underlying9 HRG.out
                have hcv2 := row_string (P := Tryd.prog) Tryd.underlying22 Tryd.underlying5 Tryd.underlying9 (HB6.out.r7.touch HTR.out (fun j hj _ h => by
                  have h1 := (HB5.out.h7 j hj).2
                  have h2 := HS6.out j h
                  omega))
                rw [str_ib] at hcv1 hcv2
                rw [hgo2] at hcv1
                have hBF := Lib.hid (Tch.below_then HB6.out.bel HTR.out (Nat.le_refl _) HS6W.out)
                have hq5 : ((k : Int) == ((wireB qs).length : Int) + 5) = true := by have := HN5.out; simp; omega
                generalize sb (bodyB qs) = sbo at hcv1 hcv2
                clear hend hD1 hm0 hgo2 hNk hgo hjn
                rcases (show (k : Int) < wi.length ∨ ¬ (k : Int) < wi.length by omega) with hlt | hlt
                all_goals
                  rw [hdn]
                  go_wp2
                  go_ret
                  exact ⟨rfl, hBF.out⟩
end Go.Proofs.YtkfiafclddnaoaaDoor.Tk
