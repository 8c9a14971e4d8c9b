/- The decoder's lines. -/
import Derived.Test.YtkfiafclddnaoaaDoorDm2
import Derived.Test.YtkfiafclddnaoaaDoorSize
import Derived.IntWalk
set_option linter.unusedVariables false
set_option linter.unusedSimpArgs false
namespace Go.Proofs.YtkfiafclddnaoaaDoor.Tk
open Go.RowKit Go.Proofs.YtkfiafclddnaoaaDoorW.PrintWords Go.Proofs.YtkfiafclddnaoaaDoorW.PrintLast Go.Proofs.YtkfiafclddnaoaaDoor.Rw

theorem Row.upto {W : World} {F : Nat → Prop} {sz n c : Nat} {A : Option Addr} {xs : List Value} (h : Row W F sz (.slice A n c) n xs) (m : Nat) (hm : m ≤ n) : Row W F sz (.slice A m c) m (xs.take (m * sz)) := by
  obtain ⟨h1, h2, h3⟩ := h
  have hmul : m * sz ≤ n * sz := Nat.mul_le_mul_right _ hm
  refine ⟨by rw [List.length_take]; omega, by omega, ?_⟩
  rcases h3 with ⟨he, rfl⟩ | ⟨g, o, cap, sp, he, h5, h6, h7, h8, h9, h10⟩
  · obtain rfl : m = 0 := by omega
    injection he with e1 e2 e3
    subst e1 e3
    exact .inl ⟨rfl, rfl⟩
  · injection he with e1 e2 e3
    subst e1 e3
    have hx : xs.take (m * sz) ++ (xs.drop (m * sz) ++ sp) = xs ++ sp := by rw [← List.append_assoc, List.take_append_drop]
    exact .inr ⟨g, o, c, xs.drop (m * sz) ++ sp, rfl, h5, h6, by omega, h8, by rw [hx]; exact h9, by rw [hx]; exact h10⟩
def Env (W : World) : Prop := ErrsAt W ∧ ∃ m, W.cell? ⟨3, 0, none⟩ = some (.int .i64 m)
def Off (S : Nat → Prop) : Prop := ¬ S 4 ∧ ¬ S 5 ∧ ¬ S 3
theorem Env.tch {S : Nat → Prop} {W W' : World} (h : Env W) (ho : Off S) (t : Tch S W W') : Env W' := by
  obtain ⟨⟨⟨a, h1, h2⟩, ⟨b, h3, h4⟩⟩, m, h5⟩ := h
  obtain ⟨o1, o2, o3⟩ := ho
  exact ⟨⟨⟨a, (t.cell (lt_of_cell h1) o1).trans h1, h2⟩, b, (t.cell (lt_of_cell h3) o2).trans h3, h4⟩, m, (t.cell (lt_of_cell h5) o3).trans h5⟩
theorem Env.below {W W' : World} (h : Env W) (hb : Below W.heap.size W W') : Env W' := h.tch (S := fun _ => False) ⟨id, id, id⟩ (Tch.of_below hb _)
theorem Off.grow {S S' : Nat → Prop} {W : World} (h : Off S) (he : Env W) (hs : ∀ k, S' k → S k ∨ W.heap.size ≤ k) : Off S' := by
  obtain ⟨⟨⟨a, h1, _⟩, ⟨b, h3, _⟩⟩, m, h5⟩ := he
  have l1 := lt_of_cell h1
  have l2 := lt_of_cell h3
  have l3 := lt_of_cell h5
  simp only at l1 l2 l3
  exact ⟨fun hk => (hs _ hk).elim h.1 (by omega), fun hk => (hs _ hk).elim h.2.1 (by omega), fun hk => (hs _ hk).elim h.2.2 (by omega)⟩

def lineF (d : DS) (c : UInt8) : DS × Option Bs :=
  if 1025 ≤ d.own.length then ({ d with own := d.own ++ [c], e := 3 }, none)
  else if c = 10 then ({ d with own := [] }, some (Lib.trimSuffix d.own [13])) else ({ d with own := d.own ++ [c] }, none)
def strV (o : Option Bs) : Value := .string (sb (o.getD []))
set_option maxRecDepth 100000 in
set_option maxHeartbeats 1000000 in
theorem line_walk (S : Nat → Prop) (b : Nat) (d : DS) (c : UInt8) (W : World) (hd : DecAt W S b d) (ho : d.own.length ≤ 1025) :
    Calls Tryd.prog 44 #[.pointer (some ⟨b, 0, none⟩), .int .u8 (c.toNat : Int)] W fun e W' => e = .returned (.tuple #[strV (lineF d c).2, .bool (lineF d c).2.isSome]) ∧ Moved S b (lineF d c).1 W W' := by
  obtain ⟨vo, vu, Fo, Fu, h⟩ := hd
  obtain ⟨A, cp, hv, _⟩ := h.own.slice
  subst hv
  obtain ⟨⟨_, _, _, _, c4, _, _, _⟩, _, _, _, f4, _, _, _⟩ := h.facts
  have hbl := h.blt
  have H := Lib.hid h
  clear h
  go_enter Tryd.func44, Tryd.ntmps44
  go_wp2_with (first | (at_builtin; refine wp_append rfl (.tmp 11) (.tmp 13) 22 5 (.int .u8 0) 1 rfl Tryd.underlying22 info5 rfl (some ⟨W.heap.size, 0, none⟩) 1 1 [.int .u8 (c.toNat : Int)] rfl rfl (H.out.own.alloc _) (box_src (w := W) [.int .u8 (c.toNat : Int)] 5 ?y1 1 rfl).1 (box_src (w := W) [.int .u8 (c.toNat : Int)] 5 ?y1 1 rfl).2.1 (box_src (w := W) [.int .u8 (c.toNat : Int)] 5 ?y1 1 rfl).2.2.1 (box_src (w := W) [.int .u8 (c.toNat : Int)] 5 ?y1 1 rfl).2.2.2 ?y2 ?y3 ?y4))
  case y1 => intro u hu; simp at hu; subst hu; rfl
  case y2 => simp only [maxLen]; omega
  case y3 => omega
  case y4 =>
    intro v2 w2 hr2 ht2
    obtain ⟨A2, c2, hv2, _⟩ := hr2.slice
    subst hv2
    have hsz := World.size_alloc W (.cells #[.int .u8 (c.toNat : Int)] 5)
    have hal : Tch Fo W (W.alloc (.cells #[.int .u8 (c.toNat : Int)] 5)) := (Tch.refl _ _).alloc _
    have ht := hal.trans ht2 (fun k hk => .inl hk)
    have hfo : ∀ k, Fo k → S k := fun k hk => (H.out.so k hk).1
    have hrow : Row w2 (fun g => Fo g ∨ (W.alloc (.cells #[.int .u8 (c.toNat : Int)] 5)).heap.size ≤ g) 1 (.slice A2 (d.own.length + 1) c2) (d.own ++ [c]).length (nums .u8 (ib (d.own ++ [c]))) := by
      rw [List.length_append, ib_app]; simpa [nums, ib] using hr2
    obtain ⟨S', G', hS', hD'⟩ := H.out.setOwn (l := d.own ++ [c]) (v := .slice A2 (d.own.length + 1) c2) ht hrow (fun k hk => hk.elim .inl fun hk => .inr (by omega))
    have HD' := Lib.hid hD'
    have HS' := Lib.hid hS'
    have HT := Lib.hid (H.out.tchS (p := ⟨b, 4, none⟩) rfl (ht.mono (fun k hk => .inl (hfo k hk))) (.slice A2 (d.own.length + 1) c2))
    have HSB := H.out.sb
    have HSB' := hD'.sb
    have hc4 : w2.cell? ⟨b, 4, none⟩ = some (.slice A d.own.length cp) := (ht.cell (p := ⟨b, 4, none⟩) hbl (fun hf => (H.out.so b hf).2 rfl)).trans c4
    have hf4 : w2.frozen? ⟨b, 4, none⟩ = false := (ht.frozen (p := ⟨b, 4, none⟩) hbl (fun hf => (H.out.so b hf).2 rfl)).trans f4
    obtain ⟨⟨_, _, _, _, _, _, _, k7⟩, _, _, _, _, _, _, g7⟩ := hD'.facts
    clear hD' hS' hfo ht hal ht2 hr2 c4 f4 hrow
    by_cases hlong : 1025 ≤ d.own.length
    · have hr : lineF d c = ({ d with own := d.own ++ [c], e := 3 }, none) := if_pos hlong
      have HR := Lib.hid hr
      have hlI : (1025 : Int) < (d.own.length : Int) + 1 := by omega
      have hoI : (d.own.length : Int) ≤ 1025 := by omega
      clear hr hlong
      go_wp2
      go_ret2
      rw [HR.out]
      exact ⟨rfl, Moved.set HT.out HS'.out HD'.out 7 (.int .i64 (3 : Nat)) HSB (HD'.out.putE 3)⟩
    · have hlI : ¬ (1025 : Int) < (d.own.length : Int) + 1 := by omega
      by_cases hc : c = 10
      · have hr : lineF d c = ({ d with own := [] }, some (Lib.trimSuffix d.own [13])) := by unfold lineF; rw [if_neg hlong, if_pos hc]
        have HR := Lib.hid hr
        have hq : ((c.toNat : Int) != 10) = false := by rw [hc]; rfl
        have hnn : 0 ≤ (d.own.length : Int) := by omega
        have hcap : (d.own.length : Int) ≤ c2 := by omega
        have hcv : ∀ n, (convert 22 9 (.slice A2 d.own.length c2)).run Tryd.prog ((w2.setCell ⟨b, 4, none⟩ (.slice A2 (d.own.length + 1) c2)).drewN n) = .ok (.string (sb d.own)) ((w2.setCell ⟨b, 4, none⟩ (.slice A2 (d.own.length + 1) c2)).drewN n) := fun n => by
          have h1 := HD'.out.own
          rw [show (d.own ++ [c]).length = d.own.length + 1 by simp] at h1
          have h2 := Row.upto h1 d.own.length (by omega)
          rw [show (nums .u8 (ib (d.own ++ [c]))).take (d.own.length * 1) = nums .u8 (ib d.own) by rw [ib_app]; simp [nums, ib]] at h2
          have h3 := row_string (P := Tryd.prog) Tryd.underlying22 Tryd.underlying5 Tryd.underlying9 (h2.drewN n)
          rwa [str_ib] at h3
        have hrow0 : Row (w2.setCell ⟨b, 4, none⟩ (.slice A2 (d.own.length + 1) c2)) G' 1 (.slice A2 0 c2) ([] : Bs).length (nums .u8 (ib [])) := by
          have h1 := HD'.out.own
          rw [show (d.own ++ [c]).length = d.own.length + 1 by simp] at h1
          have h2 := Row.upto h1 0 (by omega)
          simpa [nums, ib] using h2
        obtain ⟨S2, G2, hS2, hD2⟩ := HD'.out.setOwn (l := []) (v := .slice A2 0 c2) (Tch.refl _ _) (W' := w2.setCell ⟨b, 4, none⟩ (.slice A2 (d.own.length + 1) c2)) (G := G') hrow0 (fun k hk => .inl hk)
        have HD2 := Lib.hid hD2
        have HS2 := Lib.hid hS2
        have hHC := Lib.hid hc
        have hT65 : ∀ n, Calls Tryd.prog 65 #[.string (sb d.own), .string ⟨#[13]⟩] (((w2.setCell ⟨b, 4, none⟩ (.slice A2 (d.own.length + 1) c2))).drewN n) fun e w' => e = .returned (.string (sb (Lib.trimSuffix d.own [13]))) ∧ w' = ((w2.setCell ⟨b, 4, none⟩ (.slice A2 (d.own.length + 1) c2))).drewN n := fun n => by
          have := Tryd.strings_TrimSuffix (sb d.own) ⟨#[13]⟩ ((w2.setCell ⟨b, 4, none⟩ (.slice A2 (d.own.length + 1) c2)).drewN n) (by rw [sb_size]; omega)
          exact this
        have HT65 := Lib.hid hT65
        have hrow1 : Row (w2.setCell ⟨b, 4, none⟩ (.slice A2 (d.own.length + 1) c2)) G' 1 (.slice A2 (d.own.length + 1) c2) (d.own.length + 1) (nums .u8 (ib (d.own ++ [c]))) := by
          have h1 := HD'.out.own
          rwa [show (d.own ++ [c]).length = d.own.length + 1 by simp] at h1
        obtain ⟨g, o, hA2, _⟩ := hrow1.at_ 0 _ (List.getElem?_eq_getElem (by simp [nums, ib]))
        have hw1 : IntKind.i64.wrap ((d.own.length : Int) + 1 - 1) = d.own.length := by rw [show (d.own.length : Int) + 1 - 1 = d.own.length by omega]; exact IntWalk.i64_in _ (by omega)
        have hw2 : IntKind.i64.wrap (d.own.length : Int) = d.own.length := IntWalk.i64_in _ (by omega)
        subst hA2
        clear hr hlong hD2 hS2 hc hrow0 hT65 hrow1
        go_wp2
        go_quiet ((go_at_call 65; exact Calls.quiet_of_same (HT65.out _)))
        go_wp2
        go_ret2
        rw [HR.out]
        refine ⟨rfl, ?_⟩
        exact ⟨(HT.out.drewN nq).setCell (.inl HSB) _, S2, fun k hk => (HS2.out k hk).elim (HS'.out k) fun h => .inr (Nat.le_trans HT.out.size h), (HD2.out.drewN nq).at_⟩
      · have hr : lineF d c = ({ d with own := d.own ++ [c] }, none) := by unfold lineF; rw [if_neg hlong, if_neg hc]
        have HR := Lib.hid hr
        have hq : ((c.toNat : Int) != 10) = true := by
          simp only [bne_iff_ne, ne_eq]
          intro h
          exact hc (UInt8.toNat_inj.1 (by simpa using (Int.ofNat.inj (h : ((c.toNat : Nat) : Int) = ((10 : Nat) : Int)))))
        have hoI : (d.own.length : Int) ≤ 1025 := by omega
        clear hr hlong hc
        go_wp2
        go_ret2
        rw [HR.out]
        exact ⟨rfl, HT.out, S', HS'.out, HD'.out.at_⟩
end Go.Proofs.YtkfiafclddnaoaaDoor.Tk
