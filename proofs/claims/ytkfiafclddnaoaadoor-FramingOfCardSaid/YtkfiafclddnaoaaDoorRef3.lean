/- Walk: the reference's lists. -/
import Derived.Test.YtkfiafclddnaoaaDoorRef2
set_option linter.unusedVariables false
set_option linter.unusedSimpArgs false
namespace Go.Proofs.YtkfiafclddnaoaaDoor.Tk
open Go.RowKit Go.Proofs.YtkfiafclddnaoaaDoorW.PrintWords Go.Proofs.YtkfiafclddnaoaaDoorW.PrintLast Go.Proofs.YtkfiafclddnaoaaDoor.Rw

/-- What the reference's loop keeps. -/
structure RSplit (l : Bs) (k : Nat) (own : ByteArray) (q : Bool) (outs : List Bs) : Prop where
  le : k ≤ l.length
  ow : own.size ≤ k
  ol : outs.length ≤ k
  go : splitGo (l.drop k) (bl own) q outs = split l
theorem radds_len (x : Bs) : (adds x).length ≤ 1 := by unfold adds; split <;> simp
theorem RSplit.comma {l : Bs} {k : Nat} {own : ByteArray} {outs : List Bs} (h : RSplit l k own false outs) (hk : k < l.length) (hc : l[k] = 44) : RSplit l (k + 1) ⟨#[]⟩ false (outs ++ adds (bl own)) := by
  have ha := radds_len (bl own)
  have h2 := h.ol
  refine ⟨hk, by show 0 ≤ _; omega, by rw [List.length_append]; omega, ?_⟩
  have h4 := h.go
  rw [List.drop_eq_getElem_cons hk] at h4
  rw [← h4]
  show splitGo _ [] _ _ = _
  cases hd : l.drop (k + 1) <;> simp [splitGo, hc]
theorem RSplit.quote {l : Bs} {k : Nat} {own own' : ByteArray} {q : Bool} {outs : List Bs} (h : RSplit l k own q outs) (hk : k < l.length) (hc : l[k] = 34) (ho : bl own' = bl own ++ [l[k]]) : RSplit l (k + 1) own' (!q) outs := by
  have h1 := h.ow
  have h2 := h.ol
  have hs : own'.size = own.size + 1 := by rw [← bl_length, ho, List.length_append, bl_length]; rfl
  refine ⟨hk, by omega, by omega, ?_⟩
  have h4 := h.go
  rw [List.drop_eq_getElem_cons hk] at h4
  rw [← h4, ho]
  cases hd : l.drop (k + 1) <;> simp [splitGo, hc]
theorem RSplit.plain {l : Bs} {k : Nat} {own own' : ByteArray} {q : Bool} {outs : List Bs} (h : RSplit l k own q outs) (hk : k < l.length) (hc : l[k] ≠ 34) (h1 : ¬ (q = true ∧ l[k] = 92)) (h2 : ¬ (q = false ∧ l[k] = 44)) (ho : bl own' = bl own ++ [l[k]]) : RSplit l (k + 1) own' q outs := by
  have g1 := h.ow
  have g2 := h.ol
  have hs : own'.size = own.size + 1 := by rw [← bl_length, ho, List.length_append, bl_length]; rfl
  refine ⟨hk, by omega, by omega, ?_⟩
  have h4 := h.go
  rw [List.drop_eq_getElem_cons hk] at h4
  rw [← h4, ho]
  have e1 : (q && l[k] == 92) = false := by
    rw [Bool.eq_false_iff]; intro e; rw [Bool.and_eq_true, beq_iff_eq] at e; exact h1 e
  have e2 : (!q && l[k] == 44) = false := by
    rw [Bool.eq_false_iff]; intro e; rw [Bool.and_eq_true, beq_iff_eq, Bool.not_eq_true'] at e; exact h2 e
  cases hd : l.drop (k + 1) <;> simp [splitGo, hc, e1, e2]
theorem RSplit.pair {l : Bs} {k : Nat} {own own' : ByteArray} {outs : List Bs} (h : RSplit l k own true outs) (hk : k + 1 < l.length) (hc : l[k]'(by omega) = 92) (ho : bl own' = bl own ++ [l[k]'(by omega)] ++ [l[k + 1]]) : RSplit l (k + 2) own' true outs := by
  have g1 := h.ow
  have g2 := h.ol
  have hs : own'.size = own.size + 2 := by rw [← bl_length, ho, List.length_append, List.length_append, bl_length]; rfl
  refine ⟨by omega, by omega, by omega, ?_⟩
  have h4 := h.go
  rw [List.drop_eq_getElem_cons (show k < l.length by omega), List.drop_eq_getElem_cons hk] at h4
  rw [← h4, ho]
  simp [splitGo, hc]
/-- A quoted text that ends behind a stroke. -/
theorem RSplit.stroke {l : Bs} {k : Nat} {own : ByteArray} {outs : List Bs} (h : RSplit l k own true outs) (hk : k + 1 = l.length) (hc : l[k]'(by omega) = 92) : split l = ([], false) := by
  have h4 := h.go
  rw [List.drop_eq_getElem_cons (show k < l.length by omega), List.drop_eq_nil_of_le (by omega)] at h4
  rw [← h4]
  simp [splitGo, hc]
theorem RSplit.done {l : Bs} {own : ByteArray} {q : Bool} {outs : List Bs} (h : RSplit l l.length own q outs) : split l = if q then ([], false) else (outs ++ adds (bl own), true) := by
  have h4 := h.go
  rw [List.drop_length] at h4
  rw [← h4, splitGo]
theorem one_ext (s : ByteArray) (k : Nat) (h : k < s.size) : bl (s.extract k (k + 1)) = [s[k]] := by
  rw [bl_extract]
  have := List.take_succ_eq_append_getElem (l := bl s) (i := k) (by rw [bl_length]; exact h)
  rw [this, List.drop_append_of_le_length (by rw [List.length_take, bl_length]; omega), List.drop_eq_nil_of_le (by rw [List.length_take, bl_length]; omega), bl_get s k h]
  rfl
def RSplitRel (s : ByteArray) (w : World) (k : Nat) (own : ByteArray) (q : Bool) (outs : List Bs) (v : Value) (wr : World) : Prop :=
  (RSplit (bl s) k own q outs ∨ (k = s.size ∧ q = true ∧ own.size ≤ k ∧ split (bl s) = ([], false))) ∧ Row wr (fun k => w.heap.size ≤ k) 1 v outs.length (strs outs) ∧ outs.length ≤ k ∧ Below w.heap.size w wr
set_option maxRecDepth 100000 in
set_option maxHeartbeats 4000000 in
theorem rsplit_walk (s : ByteArray) (w : World) (hs : s.size ≤ 500000) : Calls Tryd.prog 60 #[.string s] w (SplitPost (bl s) w) := by
  go_enter Tryd.func60, Tryd.ntmps60
  go_wp2
  go_loopw [4, 5, 6, 7] (fun v4 v5 v6 v7 wr => ∃ (k : Nat) (own : ByteArray) (q : Bool) (outs : List Bs) (v : Value), v4 = v ∧ v5 = .string own ∧ v6 = .bool q ∧ v7 = .int .i64 k ∧ RSplitRel s w k own q outs v wr) (fun _ _ _ v7 _ => s.size + 2 - (intOf v7).toNat)
  case atStart => exact ⟨0, ⟨#[]⟩, false, [], .slice none 0 0, rfl, rfl, rfl, rfl, .inl ⟨Nat.zero_le _, Nat.le_refl _, Nat.le_refl _, rfl⟩, Row.nil _ _ _, Nat.le_refl _, Below.refl _ _⟩
  case round =>
    obtain ⟨k, own, q, outs, v, rfl, rfl, rfl, rfl, hS, hR, hol, hB⟩ := hrel
    have HR := Lib.hid hR
    clear hR
    by_cases hlt : k < s.size
    · have hltI : (k : Int) < s.size := by omega
      replace hS : RSplit (bl s) k own q outs := by
        rcases hS with hS | hS
        · exact hS
        · omega
      have hlb : k < (bl s).length := by rw [bl_length]; exact hlt
      have hgc : (bl s)[k] = s[k] := bl_get s k hlt
      have how : own.size ≤ 500000 := by have := hS.ow; omega
      have HS := Lib.hid hS
      have HGC := Lib.hid hgc
      have hx1 := one_ext s k hlt
      have hk1 : (s.extract k (k + 1)).size = 1 := by rw [← bl_length, hx1]; rfl
      have HX := Lib.hid hx1
      have hki : ((k : Int) + 1).toNat = k + 1 := by omega
      have hx256 := u8_lt s[k]
      clear hS hgc hx1
      by_cases cA : q = false ∧ s[k] = 44
      · obtain ⟨rfl, c2⟩ := cA
        have e44 : ((s[k].toNat : Int) == 44) = true := by rw [c2]; rfl
        have HA := Lib.hid (HS.out.comma hlb (HGC.out.trans c2))
        go_wp2_with fail
        refine (rtrim_walk own wr how).mono ?_
        rintro e w1 ⟨rfl, rfl⟩
        by_cases ht : trim (bl own) = []
        · have ha := Lib.hid (adds_nil ht)
          have hne : (sb (trim (bl own))).toList = [] := by rw [toList_bl, bl_sb, ht]
          have hne' : (sb (trim (bl own))).toList.isEmpty = true := by rw [hne]; rfl
          generalize sb (trim (bl own)) = t at hne hne'
          clear ht
          go_wp2
          go_roundw
          case rel => 
            have := HA.out
            rw [ha.out, List.append_nil] at this
            exact ⟨k + 1, ⟨#[]⟩, false, outs, _, rfl, rfl, rfl, by go_num, .inl this, HR.out, by omega, hB⟩
          case measure => simp [intOf]; omega
        · have ha := Lib.hid (adds_one ht)
          have hne : ¬ (sb (trim (bl own))).toList = [] := by rw [toList_bl, bl_sb]; exact ht
          have hne' : (sb (trim (bl own))).toList.isEmpty = false := by rw [toList_bl, bl_sb]; exact List.isEmpty_eq_false_iff.2 ht
          have hst : strs (outs ++ [trim (bl own)]) = strs outs ++ [.string (sb (trim (bl own)))] := by simp [strs]
          have HST := Lib.hid hst
          generalize hown : sb (trim (bl own)) = t at hne hne' hst
          have HOWN := Lib.hid hown
          clear ht hst hown
          go_wp2_with (first | fail | (at_builtin; refine wp_appendB (w0 := w) (B := w.heap.size) rfl (.tmp 28) (.tmp 30) 80 9 (.string ⟨#[]⟩) 16 rfl Tryd.underlying80 info9 rfl (some ⟨wr.heap.size, 0, none⟩) 1 1 [.string t] rfl rfl (hB.alloc hB.size _) (Nat.le_refl _) (HR.out.alloc _) (box_src (w := wr) [.string t] 9 ?y1 1 rfl) ?y2 ?y3 ?y4))
          case y1 => intro u hu; simp at hu; subst hu; rfl
          case y2 => simp only [maxLen]; omega
          case y3 => omega
          case y4 =>
            intro v2 w2 hr2 hb2
            obtain ⟨A2, c2', hv2, _⟩ := hr2.slice
            subst hv2
            replace hr2 : Row w2 (fun k => w.heap.size ≤ k) 1 (.slice A2 (outs.length + 1) c2') (outs ++ [trim (bl own)]).length (strs (outs ++ [trim (bl own)])) := by
              rw [HST.out, HOWN.out, List.length_append]
              exact hr2
            have HR2 := Lib.hid hr2
            clear hr2
            go_wp2
            go_roundw
            case rel =>
              have := HA.out
              rw [ha.out] at this
              exact ⟨k + 1, ⟨#[]⟩, false, outs ++ [trim (bl own)], _, rfl, rfl, rfl, by go_num, .inl this, HR2.out, by rw [List.length_append, List.length_singleton]; omega, hb2⟩
            case measure => simp [intOf]; omega
      · by_cases cB : s[k] = 34
        · have e34 : ((s[k].toNat : Int) == 34) = true := by rw [cB]; rfl
          have e44 : ((s[k].toNat : Int) == 44) = false := by rw [cB]; rfl
          have e92 : ((s[k].toNat : Int) == 92) = false := by rw [cB]; rfl
          have p92 : ¬ (s[k].toNat : Int) = 92 := by simpa using e92
          have HA := Lib.hid (HS.out.quote (own' := own ++ s.extract k (k + 1)) hlb (HGC.out.trans cB) (by rw [bl_app, HX.out, HGC.out] <;> rfl))
          clear cA cB
          cases q
          all_goals
            go_wp2
            go_roundw
            case rel => exact ⟨k + 1, _, _, outs, _, rfl, rfl, rfl, by go_num, .inl HA.out, HR.out, by omega, hB⟩
            case measure => simp [intOf]; omega
        · have e34 : ((s[k].toNat : Int) == 34) = false := byte_ne (byte_of rfl cB (n := 34) rfl) _ rfl
          by_cases cC : q = true ∧ s[k] = 92
          · obtain ⟨rfl, c9⟩ := cC
            have e92 : ((s[k].toNat : Int) == 92) = true := by rw [c9]; rfl
            have p92 : (s[k].toNat : Int) = 92 := by simpa using e92
            clear cA cB
            by_cases hk2 : k + 1 < s.size
            · have hk2I : (k : Int) + 1 < s.size := by omega
              have hkii : ((k : Int) + 1 + 1).toNat = k + 1 + 1 := by omega
              have hx2 := one_ext s (k + 1) hk2
              have HX2 := Lib.hid hx2
              have hk3 : (s.extract (k + 1) (k + 1 + 1)).size = 1 := by rw [← bl_length, hx2]; rfl
              have HA := Lib.hid (HS.out.pair (own' := own ++ s.extract k (k + 1) ++ s.extract (k + 1) (k + 1 + 1)) (by rw [bl_length]; exact hk2) (HGC.out.trans c9) (by rw [bl_app, bl_app, HX.out, HX2.out, HGC.out, bl_get s (k + 1) hk2] <;> rfl))
              clear hx2
              go_wp2
              go_roundw
              case rel => exact ⟨k + 2, _, _, outs, _, rfl, rfl, rfl, by go_num, .inl HA.out, HR.out, by omega, hB⟩
              case measure => simp [intOf]; omega
            · have hk2I : ¬ (k : Int) + 1 < s.size := by omega
              have HA := Lib.hid (HS.out.stroke (by rw [bl_length]; omega) (HGC.out.trans c9))
              have hos := HS.out.ow
              go_wp2
              go_roundw
              case rel => exact ⟨k + 1, _, _, outs, _, rfl, rfl, rfl, by go_num, .inr ⟨by omega, rfl, by rw [ByteArray.size_append]; omega, HA.out⟩, HR.out, by omega, hB⟩
              case measure => simp [intOf]; omega
          · have HA := Lib.hid (HS.out.plain (own' := own ++ s.extract k (k + 1)) hlb (by rw [HGC.out]; exact cB) (by rw [HGC.out]; exact cC) (by rw [HGC.out]; exact cA) (by rw [bl_app, HX.out, HGC.out] <;> rfl))
            cases q with
            | true =>
              have e92 : ((s[k].toNat : Int) == 92) = false := byte_ne (byte_of rfl (fun e => cC ⟨rfl, e⟩) (n := 92) rfl) _ rfl
              have p92 : ¬ (s[k].toNat : Int) = 92 := by simpa using e92
              clear cA cB cC
              go_wp2
              go_roundw
              case rel => exact ⟨k + 1, _, _, outs, _, rfl, rfl, rfl, by go_num, .inl HA.out, HR.out, by omega, hB⟩
              case measure => simp [intOf]; omega
            | false =>
              have e44 : ((s[k].toNat : Int) == 44) = false := byte_ne (byte_of rfl (fun e => cA ⟨rfl, e⟩) (n := 44) rfl) _ rfl
              clear cA cB cC
              go_wp2
              go_roundw
              case rel => exact ⟨k + 1, _, _, outs, _, rfl, rfl, rfl, by go_num, .inl HA.out, HR.out, by omega, hB⟩
              case measure => simp [intOf]; omega
    · have hks : k = s.size := by
        rcases hS with hS | hS
        · have := hS.le; rw [bl_length] at this; omega
        · exact hS.1
      subst hks
      have how : own.size ≤ 500000 := by
        rcases hS with hS | hS
        · have := hS.ow; omega
        · omega
      have hsp : (q = true ∧ split (bl s) = ([], false)) ∨ (q = false ∧ split (bl s) = (outs ++ adds (bl own), true)) := by
        rcases hS with hS | hS
        · have e := hS
          rw [← bl_length] at e
          have := e.done
          cases q
          · exact .inr ⟨rfl, this⟩
          · exact .inl ⟨rfl, this⟩
        · exact .inl ⟨hS.2.1, hS.2.2.2⟩
      clear hS
      go_wp2_with fail
      refine (rtrim_walk own wr how).mono ?_
      rintro e w1 ⟨rfl, rfl⟩
      rcases hsp with ⟨rfl, hsp⟩ | ⟨rfl, hsp⟩
      · have HSP := Lib.hid hsp
        clear hsp
        go_wp2
        go_ret2
        exact ⟨_, by rw [HSP.out]; rfl, by rw [HSP.out]; exact Row.nil _ _ _, hB⟩
      · by_cases ht : trim (bl own) = []
        · have HSP := Lib.hid (show split (bl s) = (outs, true) by rw [hsp, adds_nil ht, List.append_nil])
          have hne : (sb (trim (bl own))).toList = [] := by rw [toList_bl, bl_sb, ht]
          have hne' : (sb (trim (bl own))).toList.isEmpty = true := by rw [hne]; rfl
          generalize sb (trim (bl own)) = t at hne hne'
          clear ht hsp
          go_wp2
          go_ret2
          exact ⟨_, by rw [HSP.out]; rfl, by rw [HSP.out]; exact HR.out, hB⟩
        · have HSP := Lib.hid (show split (bl s) = (outs ++ [trim (bl own)], true) by rw [hsp, adds_one ht])
          have hne : ¬ (sb (trim (bl own))).toList = [] := by rw [toList_bl, bl_sb]; exact ht
          have hne' : (sb (trim (bl own))).toList.isEmpty = false := by rw [toList_bl, bl_sb]; exact List.isEmpty_eq_false_iff.2 ht
          have hst : strs (outs ++ [trim (bl own)]) = strs outs ++ [.string (sb (trim (bl own)))] := by simp [strs]
          have HST := Lib.hid hst
          generalize hown : sb (trim (bl own)) = t at hne hne' hst
          have HOWN := Lib.hid hown
          clear ht hst hown hsp
          go_wp2_with (first | fail | (at_builtin; refine wp_appendB (w0 := w) (B := w.heap.size) rfl (.tmp 69) (.tmp 71) 80 9 (.string ⟨#[]⟩) 16 rfl Tryd.underlying80 info9 rfl (some ⟨wr.heap.size, 0, none⟩) 1 1 [.string t] rfl rfl (hB.alloc hB.size _) (Nat.le_refl _) (HR.out.alloc _) (box_src (w := wr) [.string t] 9 ?y1 1 rfl) ?y2 ?y3 ?y4))
          case y1 => intro u hu; simp at hu; subst hu; rfl
          case y2 => simp only [maxLen]; omega
          case y3 => omega
          case y4 =>
            intro v2 w2 hr2 hb2
            obtain ⟨A2, c2', hv2, _⟩ := hr2.slice
            subst hv2
            replace hr2 : Row w2 (fun k => w.heap.size ≤ k) 1 (.slice A2 (outs.length + 1) c2') (outs ++ [trim (bl own)]).length (strs (outs ++ [trim (bl own)])) := by
              rw [HST.out, HOWN.out, List.length_append]
              exact hr2
            have HR2 := Lib.hid hr2
            clear hr2
            go_wp2
            go_ret2
            exact ⟨_, by rw [HSP.out]; rfl, by rw [HSP.out]; exact HR2.out, hb2⟩
end Go.Proofs.YtkfiafclddnaoaaDoor.Tk
