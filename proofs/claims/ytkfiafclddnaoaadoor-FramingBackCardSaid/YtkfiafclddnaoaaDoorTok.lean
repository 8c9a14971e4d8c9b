/- Walks: the token functions of the program. -/
import Derived.Test.YtkfiafclddnaoaaDoorRw
import Derived.Test.YtkfiafclddnaoaaDoorTokP
import Derived.Test.YtkfiafclddnaoaaDoorProg
import Derived.KernelRfl
import Derived.Lib.Hide
import Derived.Outline
import Derived.Deep.LoopGhost
import Derived.WalkLawsBesides
import Derived.WalkSpells
import Derived.Deep.QuietTactic
import Derived.BigQuiet
import Derived.Deep.RegionWith
import Derived.RegionTactic
import Derived.Test.YtkfiafclddnaoaaDoorWLast
set_option linter.unusedVariables false
set_option linter.unusedSimpArgs false
namespace Go.Proofs.YtkfiafclddnaoaaDoor.Tk
open Go.RowKit Go.Proofs.YtkfiafclddnaoaaDoorW.PrintWords Go.Proofs.YtkfiafclddnaoaaDoorW.PrintLast Go.Proofs.YtkfiafclddnaoaaDoor.Rw

theorem info5 : (Tryd.prog.info? 5).map (fun i => (i.zero, i.size, i.bytes)) = some (some (.int .u8 0), 1, 1) := by kernel_rfl
theorem info9 : (Tryd.prog.info? 9).map (fun i => (i.zero, i.size, i.bytes)) = some (some (.string ⟨#[]⟩), 1, 16) := by kernel_rfl

/-- A row of bytes of the call's own. -/
def BRow (B : Nat) (W : World) (v : Value) (l : Bs) : Prop := Row W (fun k => B ≤ k) 1 v l.length (nums .u8 (ib l))
theorem BRow.get {B : Nat} {W : World} {g c n : Nat} {l : Bs} (h : BRow B W (.slice (some ⟨g, 0, none⟩) n c) l) (hn : l.length = n) {k : Nat} {x : UInt8} (hk : l[k]? = some x) :
    W.cell? ⟨g, k, none⟩ = some (.int .u8 (x.toNat : Int)) ∧ W.frozen? ⟨g, k, none⟩ = false := by
  subst hn
  obtain ⟨hl, rfl⟩ := List.getElem?_eq_some_iff.1 hk
  obtain ⟨g', o, he, _, _, h1, h2⟩ := Row.at_ h k (.int .u8 (l[k].toNat : Int)) (by simp [nums, ib, List.getElem?_eq_getElem hl])
  injection he with he
  injection he with hg ho
  subst hg ho
  rw [Nat.zero_add] at h1 h2
  exact ⟨h1, h2⟩
theorem BRow.set {B : Nat} {W : World} {g c n : Nat} {l : Bs} (h : BRow B W (.slice (some ⟨g, 0, none⟩) n c) l) (hn : l.length = n) {k : Nat} (hk : k < l.length) (x : UInt8) :
    BRow B (W.setCell ⟨g, k, none⟩ (.int .u8 (x.toNat : Int))) (.slice (some ⟨g, 0, none⟩) n c) (l.set k x) := by
  subst hn
  have := Row.set h k (by rw [nums_length, ib_length]; exact hk) (.int .u8 (x.toNat : Int))
  rw [nums_set] at this
  unfold BRow
  have e : (ib l).set k (x.toNat : Int) = ib (l.set k x) := by simp [ib, List.map_set]
  rw [e, Nat.zero_add] at this
  rwa [List.length_set]
theorem BRow.string {B : Nat} {W : World} {v : Value} {l : Bs} (h : BRow B W v l) : (convert 22 9 v).run Tryd.prog W = .ok (.string (sb l)) W := by
  have := row_string (P := Tryd.prog) Tryd.underlying22 Tryd.underlying5 Tryd.underlying9 h
  rwa [str_ib] at this

set_option maxHeartbeats 1000000 in
set_option maxRecDepth 100000 in
theorem lower_walk (s : ByteArray) (w : World) (hs : s.size ≤ 140737488355328) :
    Calls Tryd.prog 59 #[.string s] w fun e w' => e = .returned (.string (sb (lower (bl s)))) ∧ Below w.heap.size w w' := by
  obtain ⟨cap, w1, kb, hcap, ho, hb⟩ := conv_row2 (P := Tryd.prog) (src := 9) (dst := 22) (e := 5) Tryd.underlying9 Tryd.underlying22 Tryd.underlying5 s hs w
  have hn := bl_length s
  have hO : BRow w.heap.size w1 (.slice (some ⟨w.heap.size, 0, none⟩) s.size cap) (bl s) := by
    unfold BRow; rw [hn]; exact ho
  have HN := Lib.hid hn
  have HO := Lib.hid hO
  clear hn hO ho
  go_enter Tryd.func59, Tryd.ntmps59
  go_wp2
  go_loopw [10] (fun v10 wr => ∃ k : Nat, k ≤ s.size ∧ v10 = .int .i64 k ∧ BRow w.heap.size wr (.slice (some ⟨w.heap.size, 0, none⟩) s.size cap) (lowTo (bl s) k) ∧ Below w.heap.size w wr) (fun v10 _ => s.size - (intOf v10).toNat)
  case atStart => exact ⟨0, Nat.zero_le _, rfl, by rw [lowTo_zero]; exact HO.out, hb⟩
  case round =>
    obtain ⟨k, hk, rfl, hO, hB⟩ := hrel
    clear kb
    by_cases hlt : k < s.size
    · obtain ⟨x, _, hx, hbig, hnot⟩ := low_round (bl s) k (by rw [HN.out]; exact hlt)
      have hlen : (lowTo (bl s) k).length = s.size := by rw [lowTo_length, HN.out]
      obtain ⟨hg1, hg2⟩ := BRow.get hO hlen hx
      have hst := Lib.hid (BRow.set hO hlen (by rw [hlen]; exact hlt) (lowb x))
      have HBG := Lib.hid hbig
      have HNT := Lib.hid hnot
      have hO' := Lib.hid hO
      have hx256 := u8_lt x
      clear hbig hnot hx hlen hO
      by_cases hU : 65 ≤ x.toNat ∧ x.toNat ≤ 90
      · have ho32 := or32 x hU
        obtain ⟨hU1, hU2⟩ := hU
        go_wp2
        go_roundw
        case rel => exact ⟨k + 1, by omega, by go_num, by rw [← HBG.out ⟨hU1, hU2⟩]; exact hst.out, hB.setCell (by simp) _⟩
        case measure => simp [intOf]; omega
      · rcases (show x.toNat < 65 ∨ 90 < x.toNat by omega) with hU1 | hU1
        all_goals
          go_wp2
          go_roundw
          case rel => exact ⟨k + 1, by omega, by go_num, by rw [← HNT.out hU]; exact hO'.out, hB⟩
          case measure => simp [intOf]; omega
    · obtain rfl : k = s.size := by omega
      have hst := BRow.string hO
      have e : lowTo (bl s) s.size = lower (bl s) := by rw [← HN.out, lowTo_all]
      rw [e] at hst
      clear hO e
      go_wp2
      go_ret
      exact ⟨rfl, hB⟩

theorem all_snoc (p : UInt8 → Bool) (l : Bs) (k : Nat) (x : UInt8) (h : l[k]? = some x) : (l.take (k + 1)).all p = ((l.take k).all p && p x) := by
  obtain ⟨hl, rfl⟩ := List.getElem?_eq_some_iff.1 h
  rw [List.take_succ_eq_append_getElem hl, List.all_append]; simp only [List.all_cons, List.all_nil, Bool.and_true]
theorem all_stop (p : UInt8 → Bool) (l : Bs) (k : Nat) (x : UInt8) (h : l[k]? = some x) (hp : p x = false) : l.all p = false := by
  rw [List.all_eq_false]
  exact ⟨x, List.mem_of_getElem? h, by simp [hp]⟩
theorem bl_at (s : ByteArray) (k : Nat) (h : k < s.size) : (bl s)[k]? = some s[k] := by
  rw [List.getElem?_eq_getElem (by rw [bl_length]; exact h), bl_get s k h]
/-- A function value of no captured variable that tells whether a byte is something. -/
def Tells (f : FuncId) (p : UInt8 → Bool) : Prop :=
  (∀ (args : Array Value) (w : World), (callFunc f args).run Tryd.prog w = .ok (.enter f args) w) ∧
  ∀ (c : UInt8) (w : World), Calls Tryd.prog f #[.int .u8 (c.toNat : Int)] w fun e w' => e = .returned (.bool (p c)) ∧ Below w.heap.size w w'
set_option maxRecDepth 100000 in
theorem all_walk (f : FuncId) (p : UInt8 → Bool) (hp : Tells f p) (s : ByteArray) (w : World) (hs : s.size ≤ 140737488355328) :
    Calls Tryd.prog 80 #[.string s, .func (.func f) #[] #[]] w fun e w' => e = .returned (.bool ((bl s).all p)) ∧ Below w.heap.size w w' := by
  have HP := Lib.hid hp.2
  go_enter Tryd.func80, Tryd.ntmps80
  go_wp2
  go_loopw [8] (fun v8 wr => ∃ k : Nat, k ≤ s.size ∧ v8 = .int .i64 k ∧ ((bl s).take k).all p = true ∧ Below w.heap.size w wr) (fun v8 _ => s.size - (intOf v8).toNat)
  case atStart => exact ⟨0, Nat.zero_le _, rfl, by simp, Below.refl _ _⟩
  case round =>
    obtain ⟨k, hk, rfl, hA, hB⟩ := hrel
    by_cases hlt : k < s.size
    · have hx := bl_at s k hlt
      have HX := Lib.hid hx
      have HA := Lib.hid hA
      have hent := hp.1
      clear hx hA
      obtain ⟨b, hb⟩ : ∃ b, b = p s[k] := ⟨_, rfl⟩
      go_wp2_with fail
      refine (HP.out s[k] wr).mono ?_
      rintro e w1 ⟨rfl, hb1⟩
      rw [← hb]
      have HB := Lib.hid hb
      clear hb hent
      have hB1 := Below.trans hB (hb1.mono hB.size)
      cases b with
      | true =>
        go_wp2
        go_roundw
        case rel => exact ⟨k + 1, by omega, by go_num, by rw [all_snoc p _ _ _ HX.out, HA.out, ← HB.out]; rfl, hB1⟩
        case measure => simp [intOf]; omega
      | false =>
        go_wp2
        go_ret
        exact ⟨by rw [all_stop p _ _ _ HX.out HB.out.symm]; rfl, hB1⟩
    · obtain rfl : k = s.size := by omega
      have e : (bl s).take s.size = bl s := by rw [← bl_length, List.take_length]
      rw [e] at hA
      have HA := Lib.hid hA
      clear hA e
      go_wp2
      go_ret
      exact ⟨by rw [HA.out]; rfl, hB⟩

theorem toList_bl (s : ByteArray) : s.toList = bl s := ByteArray.toList_eq s
theorem same_len {a b : Bs} (h : a.length ≠ b.length) : same a b = false := by
  rw [Bool.eq_false_iff]
  intro e
  simp only [same, beq_iff_eq] at e
  have := congrArg List.length e
  rw [lower_length, lower_length] at this
  exact h this
theorem same_toList (a b : Bs) : ((sb a).toList == (sb b).toList) = (a == b) := by rw [toList_bl, toList_bl, bl_sb, bl_sb]
set_option maxRecDepth 100000 in
theorem same_walk (a b : ByteArray) (w : World) (ha : a.size ≤ 140737488355328) (hb : b.size ≤ 140737488355328) :
    Calls Tryd.prog 56 #[.string a, .string b] w fun e w' => e = .returned (.bool (same (bl a) (bl b))) ∧ Below w.heap.size w w' := by
  by_cases hl : (a.size : Int) = (b.size : Int)
  · have hl' : ((a.size : Int) == (b.size : Int)) = true := by simpa using hl
    clear hl
    go_enter Tryd.func56, Tryd.ntmps56
    go_wp2_with fail
    refine (lower_walk a _ ha).mono ?_
    rintro e w1 ⟨rfl, hb1⟩
    generalize hla : sb (lower (bl a)) = la
    have HLA := Lib.hid hla
    clear hla
    go_wp2_with fail
    refine (lower_walk b _ hb).mono ?_
    rintro e w2 ⟨rfl, hb2⟩
    generalize hlb : sb (lower (bl b)) = lb
    have HLB := Lib.hid hlb
    clear hlb
    have hB := Below.trans hb1 (hb2.mono hb1.size)
    clear hb1 hb2
    go_wp2
    go_ret
    refine ⟨?_, hB⟩
    have := same_toList (lower (bl a)) (lower (bl b))
    rw [HLA.out, HLB.out] at this
    simp only [same, ← this]
    rfl
  · have hl' : ((a.size : Int) == (b.size : Int)) = false := by simpa using hl
    have hs : same (bl a) (bl b) = false := same_len (by rw [bl_length, bl_length]; omega)
    have HS := Lib.hid hs
    clear hl hs
    go_enter Tryd.func56, Tryd.ntmps56
    go_wp2
    go_ret
    exact ⟨by rw [HS.out]; rfl, Below.refl _ _⟩

def marksA : Array Value := #[.int .u8 33, .int .u8 35, .int .u8 36, .int .u8 37, .int .u8 38, .int .u8 39, .int .u8 42, .int .u8 43, .int .u8 45, .int .u8 46, .int .u8 94, .int .u8 95, .int .u8 96, .int .u8 124, .int .u8 126]
theorem marks_walk (w : World) : Calls Tryd.prog 99 #[] w fun e w' => e = .returned (.agg marksA) ∧ Below w.heap.size w w' := by
  go_enter Tryd.func99, Tryd.ntmps99
  go_wp2
  exact bodyPost_ret (v := .agg marksA) (by simp [results, Tryd.results99, go_sem, marksA]) rfl ⟨rfl, (Below.refl _ _).alloc (Nat.le_refl _) _⟩
theorem marks_at0 (w : World) : (Instr.index 135 (.agg marksA) (.int .i64 0)).run Tryd.prog w = .ok (.int .u8 33) w := by kernel_rfl
theorem marks_at1 (w : World) : (Instr.index 135 (.agg marksA) (.int .i64 1)).run Tryd.prog w = .ok (.int .u8 35) w := by kernel_rfl
theorem marks_at2 (w : World) : (Instr.index 135 (.agg marksA) (.int .i64 2)).run Tryd.prog w = .ok (.int .u8 36) w := by kernel_rfl
theorem marks_at3 (w : World) : (Instr.index 135 (.agg marksA) (.int .i64 3)).run Tryd.prog w = .ok (.int .u8 37) w := by kernel_rfl
theorem marks_at4 (w : World) : (Instr.index 135 (.agg marksA) (.int .i64 4)).run Tryd.prog w = .ok (.int .u8 38) w := by kernel_rfl
theorem marks_at5 (w : World) : (Instr.index 135 (.agg marksA) (.int .i64 5)).run Tryd.prog w = .ok (.int .u8 39) w := by kernel_rfl
theorem marks_at6 (w : World) : (Instr.index 135 (.agg marksA) (.int .i64 6)).run Tryd.prog w = .ok (.int .u8 42) w := by kernel_rfl
theorem marks_at7 (w : World) : (Instr.index 135 (.agg marksA) (.int .i64 7)).run Tryd.prog w = .ok (.int .u8 43) w := by kernel_rfl
theorem marks_at8 (w : World) : (Instr.index 135 (.agg marksA) (.int .i64 8)).run Tryd.prog w = .ok (.int .u8 45) w := by kernel_rfl
theorem marks_at9 (w : World) : (Instr.index 135 (.agg marksA) (.int .i64 9)).run Tryd.prog w = .ok (.int .u8 46) w := by kernel_rfl
theorem marks_at10 (w : World) : (Instr.index 135 (.agg marksA) (.int .i64 10)).run Tryd.prog w = .ok (.int .u8 94) w := by kernel_rfl
theorem marks_at11 (w : World) : (Instr.index 135 (.agg marksA) (.int .i64 11)).run Tryd.prog w = .ok (.int .u8 95) w := by kernel_rfl
theorem marks_at12 (w : World) : (Instr.index 135 (.agg marksA) (.int .i64 12)).run Tryd.prog w = .ok (.int .u8 96) w := by kernel_rfl
theorem marks_at13 (w : World) : (Instr.index 135 (.agg marksA) (.int .i64 13)).run Tryd.prog w = .ok (.int .u8 124) w := by kernel_rfl
theorem marks_at14 (w : World) : (Instr.index 135 (.agg marksA) (.int .i64 14)).run Tryd.prog w = .ok (.int .u8 126) w := by kernel_rfl
theorem marks_at (k : Nat) (hk : k < 15) (w : World) : (Instr.index 135 (.agg marksA) (.int .i64 (k : Int))).run Tryd.prog w = .ok (.int .u8 ((marksL[k]'hk).toNat : Int)) w := by
  match k, hk with
  | 0, _ => exact marks_at0 w
  | 1, _ => exact marks_at1 w
  | 2, _ => exact marks_at2 w
  | 3, _ => exact marks_at3 w
  | 4, _ => exact marks_at4 w
  | 5, _ => exact marks_at5 w
  | 6, _ => exact marks_at6 w
  | 7, _ => exact marks_at7 w
  | 8, _ => exact marks_at8 w
  | 9, _ => exact marks_at9 w
  | 10, _ => exact marks_at10 w
  | 11, _ => exact marks_at11 w
  | 12, _ => exact marks_at12 w
  | 13, _ => exact marks_at13 w
  | 14, _ => exact marks_at14 w

end Go.Proofs.YtkfiafclddnaoaaDoor.Tk
