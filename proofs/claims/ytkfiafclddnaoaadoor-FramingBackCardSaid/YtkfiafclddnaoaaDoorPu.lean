/- Walks: hexadecimal numbers of Go's library. -/
import Derived.Test.YtkfiafclddnaoaaDoorTok4
import Derived.Test.YtkfiafclddnaoaaDoorShelf
import Derived.Shelf.Strconv.ToError
import Derived.Outline
set_option linter.unusedVariables false
set_option linter.unusedSimpArgs false
namespace Go.Proofs.YtkfiafclddnaoaaDoor.Tk
open Go.RowKit Go.Proofs.YtkfiafclddnaoaaDoorW.PrintWords Go.Proofs.YtkfiafclddnaoaaDoorW.PrintLast Go.Proofs.YtkfiafclddnaoaaDoor.Rw

/-- Digits of hexadecimal numbers, and their values. -/
def hxd (c : UInt8) : Bool := (decide (48 ≤ c.toNat) && decide (c.toNat ≤ 57)) || (decide (97 ≤ c.toNat) && decide (c.toNat ≤ 102)) || (decide (65 ≤ c.toNat) && decide (c.toNat ≤ 70))
def hxv (c : UInt8) : Nat := if c.toNat ≤ 57 then c.toNat - 48 else if c.toNat ≤ 70 then c.toNat - 55 else c.toNat - 87
theorem hxv_lt (c : UInt8) (h : hxd c = true) : hxv c < 16 := by
  have key : ∀ n : Fin 256, hxd (UInt8.ofNat n.1) = true → hxv (UInt8.ofNat n.1) < 16 := by decide +kernel
  have := key ⟨c.toNat, u8_lt c⟩
  simp only [UInt8.ofNat_toNat] at this
  exact this h
/-- The number, from n on; none: more than 32 bits. -/
def hxGo : Nat → Bs → Option Nat
  | n, [] => some n
  | n, c :: r => if 4294967295 < 16 * n + hxv c then none else hxGo (16 * n + hxv c) r
theorem or32_low (c : UInt8) (h : 97 ≤ c.toNat ∧ c.toNat ≤ 102) : bits BinOp.or IntKind.u8 (c.toNat : Int) 32 = (c.toNat : Int) := by
  have key : ∀ n : Fin 256, 97 ≤ n.1 ∧ n.1 ≤ 102 → bits BinOp.or IntKind.u8 (n.1 : Int) 32 = (n.1 : Int) := by decide +kernel
  exact key ⟨c.toNat, u8_lt c⟩ h
theorem or32_big (c : UInt8) (h : 65 ≤ c.toNat ∧ c.toNat ≤ 70) : bits BinOp.or IntKind.u8 (c.toNat : Int) 32 = (c.toNat : Int) + 32 := by
  have key : ∀ n : Fin 256, 65 ≤ n.1 ∧ n.1 ≤ 70 → bits BinOp.or IntKind.u8 (n.1 : Int) 32 = (n.1 : Int) + 32 := by decide +kernel
  exact key ⟨c.toNat, u8_lt c⟩ h
theorem hx_round {l : Bs} {k n : Nat} {R : Option Nat} (hk : k < l.length) (h : hxGo n (l.drop k) = R) :
    ∃ s, l[k]? = some s ∧ (4294967295 < 16 * n + hxv s → R = none) ∧ (¬ 4294967295 < 16 * n + hxv s → hxGo (16 * n + hxv s) (l.drop (k + 1)) = R) := by
  rw [List.drop_eq_getElem_cons hk] at h
  unfold hxGo at h
  refine ⟨l[k], List.getElem?_eq_getElem hk, fun hc => ?_, fun hc => ?_⟩
  · rw [if_pos hc] at h; exact h.symm
  · rw [if_neg hc] at h; exact h
theorem wrap_u64_ (n : Int) : IntKind.u64.wrap n = n % 18446744073709551616 := by simp [IntKind.wrap, IntKind.bits, IntKind.signed]
def errRangeV : Value := .iface 137 (.int .i64 1)
def PuI (l : Bs) (w : World) (e : Ending) (w' : World) : Prop :=
  (match hxGo 0 l with
    | some n => e = .returned (.tuple #[.int .u64 n, .nilIface])
    | none => e = .returned (.tuple #[.int .u64 4294967295, errRangeV])) ∧ Below w.heap.size w w'
set_option maxRecDepth 100000 in
set_option maxHeartbeats 1000000 in
theorem puI_empty (w : World) : Calls Tryd.prog 89 #[.string ⟨#[]⟩, .int .i64 16, .int .i64 32] w fun e w' => e = .returned (.tuple #[.int .u64 0, .iface 137 (.int .i64 2)]) ∧ Below w.heap.size w w' := by
  go_enter Tryd.func89, Tryd.ntmps89
  go_wp2
  go_ret2
  exact ⟨rfl, Below.refl _ _⟩
set_option maxRecDepth 100000 in
set_option maxHeartbeats 1000000 in
theorem puI_walk (s : ByteArray) (h0 : bl s ≠ []) (hh : (bl s).all hxd = true) (w : World) (hs : s.size ≤ 500000) :
    Calls Tryd.prog 89 #[.string s, .int .i64 16, .int .i64 32] w (PuI (bl s) w) := by
  have hne : s.toList.isEmpty = false := by rw [toList_bl]; exact List.isEmpty_eq_false_iff.2 h0
  have hne2 : ¬ s.toList = [] := by rw [toList_bl]; exact h0
  have HH := Lib.hid hh
  have H0 := Lib.hid h0
  clear hh h0
  obtain ⟨cap, w1, kb, hcap, ho, hb⟩ := conv_row2 (P := Tryd.prog) (src := 9) (dst := 22) (e := 5) Tryd.underlying9 Tryd.underlying22 Tryd.underlying5 s (by omega) w
  have hn := bl_length s
  have hO : BRow w.heap.size w1 (.slice (some ⟨w.heap.size, 0, none⟩) s.size cap) (bl s) := by
    unfold BRow; rw [hn]; exact ho
  have HN := Lib.hid hn
  have HO := Lib.hid hO
  clear hn hO ho
  go_enter Tryd.func89, Tryd.ntmps89
  go_wp2
  generalize hC : (1152921504606846976 : Int) = C
  have HC := Lib.hid hC
  clear hC
  go_loopw [12, 13, 101] (fun v12 v13 v101 wr => ∃ k n : Nat, v12 = .bool false ∧ k ≤ s.size ∧ v101 = .int .i64 k ∧ v13 = .int .u64 n ∧ n ≤ 4294967295 ∧ hxGo n ((bl s).drop k) = hxGo 0 (bl s) ∧ wr = w1) (fun _ _ v101 _ => s.size - (intOf v101).toNat)
  case atStart => exact ⟨0, 0, rfl, Nat.zero_le _, rfl, rfl, by omega, rfl, rfl⟩
  case round =>
    obtain ⟨k, n, rfl, hk, rfl, rfl, hn, hgo, rfl⟩ := hrel
    have HGO := Lib.hid hgo
    clear kb hgo
    by_cases hlt : k < s.size
    · obtain ⟨c, hc, hbad, hgood⟩ := hx_round (by rw [HN.out]; exact hlt) HGO.out
      obtain ⟨hg1, hg2⟩ := BRow.get HO.out HN.out hc
      have hd : hxd c = true := List.all_eq_true.1 HH.out c (List.mem_of_getElem? hc)
      have hd16 := hxv_lt c hd
      have hc256 := u8_lt c
      have HBAD := Lib.hid hbad
      have HGOOD := Lib.hid hgood
      clear hc hbad hgood
      have hcase : (48 ≤ c.toNat ∧ c.toNat ≤ 57 ∧ hxv c = c.toNat - 48) ∨ (97 ≤ c.toNat ∧ c.toNat ≤ 102 ∧ hxv c = c.toNat - 87) ∨ (65 ≤ c.toNat ∧ c.toNat ≤ 70 ∧ hxv c = c.toNat - 55) := by
        unfold hxd at hd
        unfold hxv
        simp only [Bool.or_eq_true, Bool.and_eq_true, decide_eq_true_eq] at hd
        rcases hd with (h | h) | h
        · exact .inl ⟨h.1, h.2, if_pos h.2⟩
        · exact .inr (.inl ⟨h.1, h.2, by rw [if_neg (by omega), if_neg (by omega)]⟩)
        · exact .inr (.inr ⟨h.1, h.2, by rw [if_neg (by omega), if_pos h.2]⟩)
      generalize hxv c = d at hcase hd16 HBAD HGOOD
      clear hd
      have hb := Lib.hid hb
      have hCn : (n : Int) < C := by rw [← HC.out]; omega
      have hu1 : IntKind.u64.wrap ((n : Int) * 16) = (n : Int) * 16 := by rw [wrap_u64_]; omega
      have hu2 : IntKind.u64.wrap ((n : Int) * 16 + d) = (n : Int) * 16 + d := by rw [wrap_u64_]; omega
      rcases hcase with ⟨q1, q2, q3⟩ | ⟨q1, q2, q3⟩ | ⟨q1, q2, q3⟩
      · have hwr : IntKind.u8.wrap ((c.toNat : Int) - 48) = (d : Int) := by rw [IntKind.wrap_u8]; omega
        have e95 : ((c.toNat : Int) == 95) = false := by simp; omega
        generalize c.toNat = x at hc256 q1 q2 hg1 hwr e95
        clear q3 hne hne2 hcap
        by_cases hov : 4294967295 < 16 * n + d
        · have HR := Lib.hid (HBAD.out hov)
          have hovI : (4294967295 : Int) < (n : Int) * 16 + d := by omega
          go_wp2
          go_ret2
          exact ⟨by rw [HR.out]; rfl, hb.out⟩
        · have HG := Lib.hid (HGOOD.out hov)
          have hovI : ¬ (4294967295 : Int) < (n : Int) * 16 + d := by omega
          go_wp2
          go_roundw
          case rel => exact ⟨k + 1, 16 * n + d, rfl, by omega, by go_num, by go_num, by omega, HG.out, trivial⟩
          case measure => simp [intOf]; omega
      · have ho := or32_low c ⟨q1, q2⟩
        have hwr : IntKind.u8.wrap ((c.toNat : Int) - 97) = (c.toNat : Int) - 97 := by rw [IntKind.wrap_u8]; omega
        have hwr2 : IntKind.u8.wrap ((c.toNat : Int) - 97 + 10) = (d : Int) := by rw [IntKind.wrap_u8]; omega
        have e95 : ((c.toNat : Int) == 95) = false := by simp; omega
        generalize c.toNat = x at hc256 q1 q2 hg1 hwr hwr2 ho e95
        clear q3 hne hne2 hcap
        by_cases hov : 4294967295 < 16 * n + d
        · have HR := Lib.hid (HBAD.out hov)
          have hovI : (4294967295 : Int) < (n : Int) * 16 + d := by omega
          go_wp2
          go_ret2
          exact ⟨by rw [HR.out]; rfl, hb.out⟩
        · have HG := Lib.hid (HGOOD.out hov)
          have hovI : ¬ (4294967295 : Int) < (n : Int) * 16 + d := by omega
          go_wp2
          go_roundw
          case rel => exact ⟨k + 1, 16 * n + d, rfl, by omega, by go_num, by go_num, by omega, HG.out, trivial⟩
          case measure => simp [intOf]; omega
      · have ho := or32_big c ⟨q1, q2⟩
        have hwr : IntKind.u8.wrap ((c.toNat : Int) + 32 - 97) = (c.toNat : Int) + 32 - 97 := by rw [IntKind.wrap_u8]; omega
        have hwr2 : IntKind.u8.wrap ((c.toNat : Int) + 32 - 97 + 10) = (d : Int) := by rw [IntKind.wrap_u8]; omega
        have e95 : ((c.toNat : Int) == 95) = false := by simp; omega
        generalize c.toNat = x at hc256 q1 q2 hg1 hwr hwr2 ho e95
        clear q3 hne hne2 hcap
        by_cases hov : 4294967295 < 16 * n + d
        · have HR := Lib.hid (HBAD.out hov)
          have hovI : (4294967295 : Int) < (n : Int) * 16 + d := by omega
          go_wp2
          go_ret2
          exact ⟨by rw [HR.out]; rfl, hb.out⟩
        · have HG := Lib.hid (HGOOD.out hov)
          have hovI : ¬ (4294967295 : Int) < (n : Int) * 16 + d := by omega
          go_wp2
          go_roundw
          case rel => exact ⟨k + 1, 16 * n + d, rfl, by omega, by go_num, by go_num, by omega, HG.out, trivial⟩
          case measure => simp [intOf]; omega
    · obtain rfl : k = s.size := by omega
      have hd0 : (bl s).drop s.size = [] := by rw [← bl_length, List.drop_length]
      have hr : hxGo 0 (bl s) = some n := by rw [← HGO.out, hd0]; rfl
      have HR := Lib.hid hr
      have hb := Lib.hid hb
      clear hr hd0
      go_wp2
      go_ret2
      exact ⟨by rw [HR.out]; rfl, hb.out⟩

/-- An error value that is none. -/
def IsErr (v : Value) : Prop := ∃ t p, v = .iface t p
def PuS (l : Bs) (w : World) (e : Ending) (w' : World) : Prop :=
  (∃ x v, e = .returned (.tuple #[.int .u64 x, v]) ∧ (IsErr v ∧ (l = [] ∨ hxGo 0 l = none) ∨ v = .nilIface ∧ l ≠ [] ∧ ∃ n : Nat, hxGo 0 l = some n ∧ x = n)) ∧ Below w.heap.size w w'
theorem toErr_syntax (fn s : ByteArray) (base bits : Int) (ev : Value) (w : World) (hlim : s.size ≤ 281474976710656) (hv : w.cell? ⟨4, 0, none⟩ = some ev) (hev : IsErr ev) :
    Calls Tryd.prog 90 #[.string fn, .string s, .int .i64 base, .int .i64 bits, .iface 137 (.int .i64 2)] w fun e w' => (∃ v, e = .returned v ∧ IsErr v) ∧ Below w.heap.size w w' := by
  refine Calls.mono (Any.strconv_toError_syntax Tryd.laysC245 fn s base bits ev w hlim hv (.inr hev)) ?_
  rintro e w' ⟨N, rfl, _, _, hb⟩
  exact ⟨⟨_, rfl, _, _, rfl⟩, hb⟩
theorem toErr_range (fn s : ByteArray) (base bits : Int) (ev : Value) (w : World) (hlim : s.size ≤ 281474976710656) (hv : w.cell? ⟨5, 0, none⟩ = some ev) (hev : IsErr ev) :
    Calls Tryd.prog 90 #[.string fn, .string s, .int .i64 base, .int .i64 bits, errRangeV] w fun e w' => (∃ v, e = .returned v ∧ IsErr v) ∧ Below w.heap.size w w' := by
  refine Calls.mono (Tryd.strconv_toError_range fn s base bits ev w hlim hv (.inr hev)) ?_
  rintro e w' ⟨N, rfl, _, _, hb⟩
  exact ⟨⟨_, rfl, _, _, rfl⟩, hb⟩
/-- The two errors are there. -/
def ErrsAt (w : World) : Prop := (∃ v, w.cell? ⟨4, 0, none⟩ = some v ∧ IsErr v) ∧ ∃ v, w.cell? ⟨5, 0, none⟩ = some v ∧ IsErr v
theorem ErrsAt.below {w w' : World} (h : ErrsAt w) (hb : Below w.heap.size w w') : ErrsAt w' := by
  obtain ⟨⟨a, h1, h2⟩, ⟨b, h3, h4⟩⟩ := h
  exact ⟨⟨a, pw_cell_below hb h1, h2⟩, ⟨b, pw_cell_below hb h3, h4⟩⟩
set_option maxRecDepth 100000 in
set_option maxHeartbeats 1000000 in
theorem pu_empty (w : World) (he : ErrsAt w) : Calls Tryd.prog 67 #[.string ⟨#[]⟩, .int .i64 16, .int .i64 32] w (PuS [] w) := by
  have HE := Lib.hid he
  clear he
  go_enter Tryd.func67, Tryd.ntmps67
  go_wp2_with fail
  refine (puI_empty w).mono ?_
  rintro e w1 ⟨rfl, hb1⟩
  obtain ⟨⟨ev, hv, hev⟩, _⟩ := HE.out.below hb1
  have HV := Lib.hid hv
  have HEV := Lib.hid hev
  clear hv hev
  go_wp2_with fail
  refine (toErr_syntax _ _ _ _ ev w1 (by decide) HV.out HEV.out).mono ?_
  rintro e w2 ⟨⟨v, rfl, hv⟩, hb2⟩
  have HR := Lib.hid hv
  have hB := Below.trans hb1 (hb2.mono hb1.size)
  obtain ⟨t, p, rfl⟩ := hv
  clear hb1 hb2
  go_wp2
  go_ret2
  exact ⟨⟨_, _, rfl, .inl ⟨HR.out, .inl rfl⟩⟩, hB⟩
set_option maxRecDepth 100000 in
set_option maxHeartbeats 1000000 in
theorem pu_walk (s : ByteArray) (hh : (bl s).all hxd = true) (w : World) (hs : s.size ≤ 500000) (he : ErrsAt w) :
    Calls Tryd.prog 67 #[.string s, .int .i64 16, .int .i64 32] w (PuS (bl s) w) := by
  by_cases h0 : bl s = []
  · have e : s = ⟨#[]⟩ := bl_inj h0
    subst e
    exact pu_empty w he
  have HE := Lib.hid he
  have HH := Lib.hid hh
  have H0 := Lib.hid h0
  clear he hh h0
  obtain ⟨R, hR⟩ : ∃ R, R = hxGo 0 (bl s) := ⟨_, rfl⟩
  have HR0 := Lib.hid hR
  clear hR
  go_enter Tryd.func67, Tryd.ntmps67
  go_wp2_with fail
  refine (puI_walk s H0.out HH.out w hs).mono ?_
  unfold PuI
  rw [← HR0.out]
  rintro e w1 ⟨h1, hb1⟩
  cases R with
  | some n =>
    simp only at h1
    subst h1
    go_wp2
    go_ret2
    exact ⟨⟨_, _, rfl, .inr ⟨rfl, H0.out, n, HR0.out.symm, rfl⟩⟩, hb1⟩
  | none =>
    simp only [errRangeV] at h1
    subst h1
    obtain ⟨_, ⟨ev, hv, hev⟩⟩ := HE.out.below hb1
    have HV := Lib.hid hv
    have HEV := Lib.hid hev
    clear hv hev
    go_wp2_with fail
    refine (toErr_range _ _ _ _ ev w1 (by omega) HV.out HEV.out).mono ?_
    rintro e w2 ⟨⟨v, rfl, hv⟩, hb2⟩
    have HR := Lib.hid hv
    have hB := Below.trans hb1 (hb2.mono hb1.size)
    obtain ⟨t, p, rfl⟩ := hv
    clear hb1 hb2
    go_wp2
    go_ret2
    exact ⟨⟨_, _, rfl, .inl ⟨HR.out, .inr HR0.out.symm⟩⟩, hB⟩
end Go.Proofs.YtkfiafclddnaoaaDoor.Tk
