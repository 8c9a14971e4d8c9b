/- The plain law of FramingSame. -/
import Derived.Test.YtkfiafclddnaoaaDoorFrm2
import Derived.Test.YtkfiafclddnaoaaDoorRef2
set_option linter.unusedVariables false
set_option linter.unusedSimpArgs false
namespace Go.Proofs.YtkfiafclddnaoaaDoor.Tk
open Go.RowKit Go.Proofs.YtkfiafclddnaoaaDoorW.PrintWords Go.Proofs.YtkfiafclddnaoaaDoorW.PrintLast Go.Proofs.YtkfiafclddnaoaaDoor.Rw

@[irreducible] def dv (c : UInt8) : Nat := c.toNat - 48
theorem dv_eq (c : UInt8) : c.toNat - 48 = dv c := by unfold dv; rfl
def numv : Nat → Bs → Nat
  | n, [] => n
  | n, c :: r => numv (10 * n + dv c) r
/-- A number's decimal digits. -/
structure Dec (n : Nat) (l : Bs) : Prop where
  ne : l ≠ []
  all : l.all dig = true
  val : numv 0 l = n
  len : l.length ≤ n / 10 + 1
def dg (n : Nat) : UInt8 := (48 + n).toUInt8
theorem numv_nil (n : Nat) : numv n [] = n := rfl
theorem numv_cons (n : Nat) (c : UInt8) (r : Bs) : numv n (c :: r) = numv (10 * n + dv c) r := rfl
theorem numv_snoc (c : UInt8) (l : Bs) : ∀ (a : Nat), numv a (l ++ [c]) = 10 * numv a l + dv c := by
  induction l with
  | nil => intro a; exact numv_cons a c []
  | cons e r ih => intro a; rw [List.cons_append, numv_cons, numv_cons]; exact ih _
theorem le_numv : ∀ (l : Bs) (a : Nat), a ≤ numv a l
  | [], a => Nat.le_refl _
  | d :: r, a => by have := le_numv r (10 * a + dv d); rw [numv_cons]; omega
theorem numGo_eq (most : Nat) : ∀ (l : Bs) (a : Nat), numv a l ≤ most → numGo most a l = (numv a l, true)
  | [], a, _ => rfl
  | d :: r, a, h => by
    rw [numv_cons] at h
    have := le_numv r (10 * a + dv d)
    have hn : ¬ (most < dv d ∨ (most - dv d) / 10 < a) := by omega
    rw [numGo, dv_eq, if_neg hn, numv_cons]
    exact numGo_eq most r _ h
theorem Dec.num {n : Nat} {l : Bs} (h : Dec n l) (most : Nat) (hn : n ≤ most) : number most l = (n, true) := by
  have h1 : l.isEmpty = false := List.isEmpty_eq_false_iff.2 h.ne
  unfold number
  rw [h1, h.all]
  have := numGo_eq most l 0 (by rw [h.val]; exact hn)
  rw [h.val] at this
  simpa using this
theorem dv_dg (n : Nat) (hn : n < 10) : dv (dg n) = n := by
  have key : ∀ n : Fin 10, dv (dg n.1) = n.1 := by unfold dv; decide
  exact key ⟨n, hn⟩
theorem Dec.num0 {n : Nat} {l : Bs} (h : Dec n l) (most : Nat) (hn : n ≤ most) : number most (48 :: l) = (n, true) := by
  have e : (48 :: l).all dig = true := by rw [List.all_cons, h.all]; decide
  have e2 : numv 0 (48 :: l) = n := by rw [numv_cons, show (48 : UInt8) = dg 0 from rfl, dv_dg 0 (by omega)]; exact h.val
  unfold number
  rw [e]
  have := numGo_eq most (48 :: l) 0 (by rw [e2]; exact hn)
  rw [e2] at this
  simpa using this
theorem Dec.one (n : Nat) (hn : n < 10) : Dec n [dg n] := by
  have key : ∀ n : Fin 10, dig (dg n.1) = true := by decide
  exact ⟨by simp, by simp only [List.all_cons, List.all_nil, Bool.and_true]; exact key ⟨n, hn⟩, by rw [numv_cons, numv_nil, dv_dg n hn]; omega, by simp⟩
theorem Dec.more {n : Nat} (hn : 10 ≤ n) {a b : Bs} (ha : Dec (n / 10) a) (hb : b = [dg (n % 10)]) : Dec n (a ++ b) := by
  subst hb
  have hd := Dec.one (n % 10) (by omega)
  refine ⟨by simp, by rw [List.all_append, ha.all, hd.all]; rfl, by rw [numv_snoc, ha.val, dv_dg _ (by omega)]; omega, ?_⟩
  have := ha.len
  rw [List.length_append, List.length_singleton]
  omega

/-! ### The list is cut -/
theorem dig_facts (c : UInt8) (h : dig c = true) : c ≠ 34 ∧ c ≠ 44 ∧ blk c = false := by
  have key : ∀ n : Fin 256, dig (UInt8.ofNat n.1) = true → UInt8.ofNat n.1 ≠ 34 ∧ UInt8.ofNat n.1 ≠ 44 ∧ blk (UInt8.ofNat n.1) = false := by decide +kernel
  have := key ⟨c.toNat, u8_lt c⟩
  simp only [UInt8.ofNat_toNat] at this
  exact this h
theorem splitGo_plain (c : UInt8) (t own : Bs) (out : List Bs) (h1 : c ≠ 34) (h2 : c ≠ 44) : splitGo (c :: t) own false out = splitGo t (own ++ [c]) false out := by
  have e2 : (!false && c == 44) = false := by simpa using h2
  cases t <;> simp [splitGo, h1, h2]
theorem splitGo_digs : ∀ (x r own : Bs) (out : List Bs), x.all dig = true → splitGo (x ++ r) own false out = splitGo r (own ++ x) false out
  | [], r, own, out, _ => by simp
  | c :: x, r, own, out, h => by
    rw [List.all_cons, Bool.and_eq_true] at h
    obtain ⟨h1, h2, _⟩ := dig_facts c h.1
    rw [List.cons_append, splitGo_plain c _ _ _ h1 h2, splitGo_digs x r _ _ h.2]
    simp
theorem tl_digs (x : Bs) (h : x.all dig = true) : tl x = x := by
  cases x with
  | nil => rfl
  | cons c r =>
    rw [List.all_cons, Bool.and_eq_true] at h
    exact tl_non c r (dig_facts c h.1).2.2
theorem tr_digs (x : Bs) (h : x.all dig = true) : tr x = x := by
  unfold tr
  have : x.reverse.all dig = true := by rw [List.all_reverse]; exact h
  rw [show x.reverse.dropWhile blk = x.reverse from tl_digs x.reverse this, List.reverse_reverse]
theorem adds_digs (x : Bs) (hne : x ≠ []) (h : x.all dig = true) : adds x = [x] := by
  have e : trim x = x := by rw [trim_eq, tl_digs x h, tr_digs x h]
  rw [adds_one (by rw [e]; exact hne), e]
theorem adds_digs32 (x : Bs) (hne : x ≠ []) (h : x.all dig = true) : adds (32 :: x) = [x] := by
  have e : trim (32 :: x) = x := by rw [trim_eq, tl_blk 32 x rfl, tl_digs x h, tr_digs x h]
  rw [adds_one (by rw [e]; exact hne), e]
theorem split_two (x y : Bs) (hx : x ≠ []) (hy : y ≠ []) (hxd : x.all dig = true) (hyd : y.all dig = true) : split (x ++ ([44, 32] ++ y)) = ([x, y], true) := by
  unfold split
  rw [splitGo_digs x _ _ _ hxd]
  show splitGo (44 :: 32 :: y) ([] ++ x) false [] = _
  have e : splitGo (44 :: 32 :: y) ([] ++ x) false [] = splitGo (32 :: y) [] false ([] ++ adds ([] ++ x)) := by simp [splitGo]
  rw [e, splitGo_plain 32 _ _ _ (by decide) (by decide)]
  have := splitGo_digs y [] ([] ++ [32]) ([] ++ adds ([] ++ x)) hyd
  rw [List.append_nil] at this
  rw [this]
  simp only [List.nil_append, splitGo, List.singleton_append, adds_digs x hx hxd, adds_digs32 y hy hyd]
  rfl

/-! ### The framing -/
theorem lengthF_two (fs : List Fd) (x y : Bs) (n m : Nat) (h1 : vals fs clName ≠ []) (h2 : split (getF fs clName) = ([x, y], true)) (hx : number most x = (n, true)) (hy : number most y = (m, true)) :
    lengthF fs = if n = m then if 1048576 < n then (0, true, 3) else (n, true, 0) else (0, true, 32) := by
  unfold lengthF
  rw [if_neg h1, h2, if_neg (by simp)]
  simp only [lenGo, hx, hy]
  by_cases h : n = m
  · subst h
    simp
  · simp [h, Ne.symm h, show ¬ m = n from fun e => h e.symm]
theorem framedF_two (fs : List Fd) (x y : Bs) (n m : Nat) (h0 : vals fs teName = []) (h1 : vals fs clName ≠ []) (h2 : split (getF fs clName) = ([x, y], true)) (hx : number most x = (n, true)) (hy : number most y = (m, true)) :
    framedF 1 fs 0 = if n = m then if 1048576 < n then (0, 0, 3) else (1, n, 0) else (0, 0, 32) := by
  unfold framedF
  rw [if_pos h0, lengthF_two fs x y n m h1 h2 hx hy]
  by_cases h : n = m
  · subst h
    by_cases h3 : 1048576 < n
    · simp [h3]
    · simp [h3]
  · simp [h]
theorem framedF_both (fs : List Fd) (h0 : vals fs teName ≠ []) (h1 : vals fs clName ≠ []) : framedF 1 fs 0 = (0, 0, 32) := by
  have h2 : (lengthF fs).2.1 = true := by
    unfold lengthF
    rw [if_neg h1]
    split
    · rfl
    · split
      · rfl
      · split <;> rfl
  unfold framedF
  rw [if_neg h0, if_pos (.inr (.inl h2))]
def CL : ByteArray := ⟨#[67, 111, 110, 116, 101, 110, 116, 45, 76, 101, 110, 103, 116, 104]⟩
def cl : ByteArray := ⟨#[99, 111, 110, 116, 101, 110, 116, 45, 108, 101, 110, 103, 116, 104]⟩
def TE : ByteArray := ⟨#[84, 114, 97, 110, 115, 102, 101, 114, 45, 69, 110, 99, 111, 100, 105, 110, 103]⟩
def CH : ByteArray := ⟨#[99, 104, 117, 110, 107, 101, 100]⟩
theorem same_tab : same (bl CL) clName = true ∧ same (bl cl) clName = true ∧ same (bl TE) clName = false ∧ same (bl CL) teName = false ∧ same (bl cl) teName = false ∧ same (bl TE) teName = true := by decide
theorem vals_cons (f : Fd) (fs : List Fd) (nm : Bs) : vals (f :: fs) nm = if same (bl f.1) nm = true then bl f.2 :: vals fs nm else vals fs nm := by
  unfold vals
  rw [List.filter_cons]
  split <;> rfl
theorem vals_nil (nm : Bs) : vals [] nm = [] := rfl
theorem same_two (a b : ByteArray) (n m : Nat) (ha : Dec n (bl a)) (hb : Dec m (bl b)) (hn : n ≤ most) (hm : m ≤ most) :
    framedF 1 [(CL, a), (cl, b)] 0 = if n = m then if 1048576 < n then (0, 0, 3) else (1, n, 0) else (0, 0, 32) := by
  obtain ⟨s1, s2, s3, s4, s5, s6⟩ := same_tab
  have v1 : vals [(CL, a), (cl, b)] clName = [bl a, bl b] := by simp only [vals_cons, vals_nil, s1, s2, if_true]
  have v2 : vals [(CL, a), (cl, b)] teName = [] := by simp only [vals_cons, vals_nil, s4, s5]; rfl
  refine framedF_two _ (bl a) (bl b) n m v2 (by rw [v1]; simp) ?_ (ha.num _ hn) (hb.num _ hm)
  unfold getF
  rw [v1]
  have := split_two (bl a) (bl b) ha.ne hb.ne ha.all hb.all
  rw [← this]
  simp [Lib.join]
theorem same_one (a : ByteArray) (x y : Bs) (n m : Nat) (he : bl a = x ++ [44, 32, 48] ++ y) (ha : Dec n x) (hb : Dec m y) (hn : n ≤ most) (hm : m ≤ most) :
    framedF 1 [(CL, a)] 0 = if n = m then if 1048576 < n then (0, 0, 3) else (1, n, 0) else (0, 0, 32) := by
  obtain ⟨s1, s2, s3, s4, s5, s6⟩ := same_tab
  have v1 : vals [(CL, a)] clName = [bl a] := by simp only [vals_cons, vals_nil, s1, if_true]
  have v2 : vals [(CL, a)] teName = [] := by simp only [vals_cons, vals_nil, s4]; rfl
  refine framedF_two _ x (48 :: y) n m v2 (by rw [v1]; simp) ?_ (ha.num _ hn) (hb.num0 _ hm)
  unfold getF
  rw [v1]
  have := split_two x (48 :: y) ha.ne (by simp) ha.all (by rw [List.all_cons, hb.all]; decide)
  rw [← this]
  simp [Lib.join, he]
theorem same_two' (a b : ByteArray) : framedF 1 [(CL, a), (cl, b), (TE, CH)] 0 = (0, 0, 32) := by
  obtain ⟨s1, s2, s3, s4, s5, s6⟩ := same_tab
  exact framedF_both _ (by simp only [vals_cons, vals_nil, s4, s5, s6]; simp) (by simp only [vals_cons, vals_nil, s1]; simp)
theorem same_one' (a : ByteArray) : framedF 1 [(CL, a), (TE, CH)] 0 = (0, 0, 32) := by
  obtain ⟨s1, s2, s3, s4, s5, s6⟩ := same_tab
  exact framedF_both _ (by simp only [vals_cons, vals_nil, s4, s6]; simp) (by simp only [vals_cons, vals_nil, s1]; simp)

/-! ### The law's own number -/
theorem dig_at : ∀ n : Fin 10, bl ((⟨#[48, 49, 50, 51, 52, 53, 54, 55, 56, 57]⟩ : ByteArray).extract n.1 (n.1 + 1)) = [dg n.1] := by decide +kernel
set_option maxRecDepth 100000 in
theorem lawnumber1_walk (n : Nat) (hn : n < 10) (w : World) :
    Calls Tryd.prog 12 #[.int .i64 n] w fun e w' => (∃ s, e = .returned (.string s) ∧ bl s = [dg n]) ∧ w = w' := by
  have hx := Lib.hid (dig_at ⟨n, hn⟩)
  go_enter Tryd.func12, Tryd.ntmps12
  go_wp2
  go_ret
  exact ⟨⟨_, rfl, hx.out⟩, rfl⟩
set_option maxRecDepth 100000 in
theorem lawnumber_walk : ∀ (n : Nat) (hn : n ≤ 2097151) (w : World),
    Calls Tryd.prog 12 #[.int .i64 n] w fun e w' => (∃ s, e = .returned (.string s) ∧ Dec n (bl s)) ∧ w = w' := by
  intro n
  induction n using Nat.strongRecOn with
  | ind n ih =>
    intro hn w
    by_cases h10 : n < 10
    · exact (lawnumber1_walk n h10 w).mono fun e w' h => ⟨h.1.elim fun s hs => ⟨s, hs.1, by rw [hs.2]; exact Dec.one n h10⟩, h.2⟩
    · have hih := ih (n / 10) (by omega) (by omega) w
      have h1 := lawnumber1_walk (n % 10) (by omega) w
      have e1 : ((n / 10 : Nat) : Int) = (n : Int) / 10 := by omega
      have e2 : ((n % 10 : Nat) : Int) = (n : Int) % 10 := by omega
      have HIH := Lib.hid hih
      have H1 := Lib.hid h1
      clear hih h1 ih
      go_enter Tryd.func12, Tryd.ntmps12
      go_wp2_with fail
      rw [← e1]
      refine HIH.out.mono ?_
      rintro e w1 ⟨⟨a, rfl, ha⟩, rfl⟩
      have HA := Lib.hid ha
      have hal : a.size ≤ n / 10 / 10 + 1 := by have := ha.len; rw [bl_length] at this; exact this
      clear ha
      go_wp2_with fail
      rw [← e2]
      refine H1.out.mono ?_
      rintro e w2 ⟨⟨b, rfl, hb⟩, rfl⟩
      have HB := Lib.hid hb
      have hbl : b.size = 1 := by rw [← bl_length, hb]; rfl
      clear hb
      go_wp2
      go_ret
      exact ⟨⟨_, rfl, by rw [bl_app]; exact Dec.more (by omega) HA.out HB.out⟩, rfl⟩
end Go.Proofs.YtkfiafclddnaoaaDoor.Tk
