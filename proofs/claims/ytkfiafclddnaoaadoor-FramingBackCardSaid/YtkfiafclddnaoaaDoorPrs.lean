/- Fields' lines: token.Value, field.fine, field.Parse. -/
import Derived.Test.YtkfiafclddnaoaaDoorLine
set_option linter.unusedVariables false
set_option linter.unusedSimpArgs false
namespace Go.Proofs.YtkfiafclddnaoaaDoor.Tk
open Go.RowKit Go.Proofs.YtkfiafclddnaoaaDoorW.PrintWords Go.Proofs.YtkfiafclddnaoaaDoorW.PrintLast Go.Proofs.YtkfiafclddnaoaaDoor.Rw

/-- May a byte stand in a field's value? -/
def valb (c : UInt8) : Bool := c.toNat == 32 || c.toNat == 9 || (decide (32 < c.toNat) && !(c.toNat == 127))
def isVal (l : Bs) : Bool := trim l == l && l.all valb
theorem valb_walk (c : UInt8) (w : World) : Calls Tryd.prog 116 #[.int .u8 (c.toNat : Int)] w fun e w' => e = .returned (.bool (valb c)) ∧ Below w.heap.size w w' := by
  have hc256 := u8_lt c
  have hd : valb c = (c.toNat == 32 || c.toNat == 9 || (decide (32 < c.toNat) && !(c.toNat == 127))) := rfl
  generalize valb c = z at hd ⊢
  generalize c.toNat = x at hd hc256
  rcases (show x = 32 ∨ x = 9 ∨ x = 127 ∨ (32 < x ∧ x ≠ 127) ∨ (x < 32 ∧ x ≠ 9) by omega) with rfl | rfl | rfl | ⟨h1, h2⟩ | ⟨h1, h2⟩
  · have hz : z = true := by rw [hd]; rfl
    clear hd
    subst hz
    go_enter Tryd.func116, Tryd.ntmps116
    go_wp2
    go_ret
    exact ⟨rfl, Below.refl _ _⟩
  · have hz : z = true := by rw [hd]; rfl
    clear hd
    subst hz
    go_enter Tryd.func116, Tryd.ntmps116
    go_wp2
    go_ret
    exact ⟨rfl, Below.refl _ _⟩
  · have hz : z = false := by rw [hd]; rfl
    clear hd
    subst hz
    go_enter Tryd.func116, Tryd.ntmps116
    go_wp2
    go_ret
    exact ⟨rfl, Below.refl _ _⟩
  · have hz : z = true := by rw [hd]; simp; omega
    have e1 : ((x : Int) == 32) = false := by simp; omega
    have e2 : ((x : Int) == 9) = false := by simp; omega
    have e3 : ((x : Int) != 127) = true := by simp; omega
    have h1I : (32 : Int) < x := by omega
    clear hd h2
    subst hz
    go_enter Tryd.func116, Tryd.ntmps116
    go_wp2
    go_ret
    exact ⟨rfl, Below.refl _ _⟩
  · have hz : z = false := by rw [hd]; simp; omega
    have e1 : ((x : Int) == 32) = false := by simp; omega
    have e2 : ((x : Int) == 9) = false := by simp; omega
    have h1I : ¬ (32 : Int) < x := by omega
    clear hd h2
    subst hz
    go_enter Tryd.func116, Tryd.ntmps116
    go_wp2
    go_ret
    exact ⟨rfl, Below.refl _ _⟩
theorem tells_valb : Tells 116 valb := ⟨enters_ (P := Tryd.prog) Tryd.func116 (by kernel_rfl) (by kernel_rfl), valb_walk⟩
theorem val_walk (s : ByteArray) (w : World) (hs : s.size ≤ 140737488355328) :
    Calls Tryd.prog 93 #[.string s] w fun e w' => e = .returned (.bool (isVal (bl s))) ∧ Below w.heap.size w w' := by
  go_enter Tryd.func93, Tryd.ntmps93
  go_wp2_with fail
  refine (trim_walk s _ hs).mono ?_
  rintro e w1 ⟨rfl, hb1⟩
  obtain ⟨z, hz⟩ : ∃ z, z = ((sb (trim (bl s))).toList == s.toList) := ⟨_, rfl⟩
  have hv : isVal (bl s) = (z && (bl s).all valb) := by
    unfold isVal
    rw [hz, toList_bl, toList_bl, bl_sb]
  have HV := Lib.hid hv
  clear hv
  generalize sb (trim (bl s)) = t at hz
  cases z with
  | false =>
    have hz' := hz.symm
    clear hz
    go_wp2
    go_ret
    exact ⟨by rw [HV.out]; rfl, hb1⟩
  | true =>
    have hz' := hz.symm
    clear hz
    go_wp2_with fail
    refine (all_walk _ _ tells_valb s _ hs).mono ?_
    rintro e w2 ⟨rfl, hb2⟩
    have hB := Below.trans hb1 (hb2.mono hb1.size)
    go_wp2
    go_ret
    exact ⟨by rw [HV.out]; rfl, hB⟩
def fine (n v : Bs) : Bool := isTok n && isVal v
theorem fine_walk (a b : ByteArray) (w : World) (ha : a.size ≤ 140737488355328) (hb : b.size ≤ 140737488355328) :
    Calls Tryd.prog 70 #[.agg #[.string a, .string b]] w fun e w' => e = .returned (.bool (fine (bl a) (bl b))) ∧ Below w.heap.size w w' := by
  obtain ⟨z, hz⟩ : ∃ z, z = isTok (bl a) := ⟨_, rfl⟩
  have hv : fine (bl a) (bl b) = (z && isVal (bl b)) := by unfold fine; rw [hz]
  have HV := Lib.hid hv
  have HZ := Lib.hid hz
  clear hv hz
  go_enter Tryd.func70, Tryd.ntmps70
  go_wp2_with fail
  refine (isTok_walk a _ ha).mono ?_
  rw [← HZ.out]
  rintro e w1 ⟨rfl, hb1⟩
  have hsz : w.heap.size < w1.heap.size := by have := hb1.size; simp at this; omega
  have hB1 := ((Below.refl w.heap.size w).alloc (Nat.le_refl _) (.cells #[.string a, .string b] 28)).trans (hb1.mono (by simp))
  have hc1 : w1.cell? ⟨w.heap.size, 1, none⟩ = some (.string b) := (hb1.cell (p := ⟨w.heap.size, 1, none⟩) (by simp)).trans (by simp [World.cell?_alloc_new])
  cases z with
  | false =>
    go_wp2
    go_ret
    exact ⟨by rw [HV.out]; rfl, hB1⟩
  | true =>
    have HB1 := Lib.hid hB1
    clear hB1 hb1
    go_wp2_with fail
    refine (val_walk b _ hb).mono ?_
    rintro e w2 ⟨rfl, hb2⟩
    have hB := Below.trans HB1.out (hb2.mono (by have := HB1.out.size; omega))
    go_wp2
    go_ret
    exact ⟨by rw [HV.out]; rfl, hB⟩
def parseF (l : Bs) : Option (Bs × Bs) :=
  if (Lib.cut l [58]).2.2 && fine (Lib.cut l [58]).1 (trim (Lib.cut l [58]).2.1) then some ((Lib.cut l [58]).1, trim (Lib.cut l [58]).2.1) else none
theorem trim_le (l : Bs) : (trim l).length ≤ l.length := by
  unfold trim Lib.trimS Lib.trimLeftS Lib.trimRightS
  refine Nat.le_trans (List.dropWhile_sublist _).length_le ?_
  rw [List.length_reverse]
  refine Nat.le_trans (List.dropWhile_sublist _).length_le ?_
  rw [List.length_reverse]
  exact Nat.le_refl _
theorem cut_le (l x : Bs) : (Lib.cut l x).1.length ≤ l.length ∧ (Lib.cut l x).2.1.length ≤ l.length := by
  unfold Lib.cut
  split
  · exact ⟨by simp; omega, by simp⟩
  · exact ⟨Nat.le_refl _, by simp⟩
def fieldV (o : Option (Bs × Bs)) : Value := match o with | some (n, v) => .agg #[.string (sb n), .string (sb v)] | none => .agg #[.string ⟨#[]⟩, .string ⟨#[]⟩]
theorem two_cells {w : World} {b : Nat} {u v : Value} (h0 : w.cell? ⟨b, 0, none⟩ = some u) (h1 : w.cell? ⟨b, 1, none⟩ = some v) (x y : Value) :
    (w.setCell ⟨b, 0, none⟩ x).cell? ⟨b, 0, none⟩ = some x ∧ ((w.setCell ⟨b, 0, none⟩ x).setCell ⟨b, 1, none⟩ y).cell? ⟨b, 1, none⟩ = some y :=
  ⟨World.cell?_setCell_same _ _ _ h0, World.cell?_setCell_same _ _ _ ((World.cell?_setCell_other _ _ _ _ (by simp)).trans h1)⟩
def perr (o : Option (Bs × Bs)) : Nat := match o with | some _ => 0 | none => 31
def ParseP (R : Option (Bs × Bs)) (w : World) (e : Ending) (w' : World) : Prop :=
  e = .returned (.tuple #[fieldV R, .int .i64 (perr R)]) ∧ Below w.heap.size w w'
set_option maxRecDepth 100000 in
set_option maxHeartbeats 1000000 in
theorem parse_walk (s : ByteArray) (w : World) (hs : s.size ≤ 500000) (hE : Env w) :
    Calls Tryd.prog 47 #[.string s] w (ParseP (parseF (bl s)) w) := by
  obtain ⟨m, hm⟩ := hE.2
  have hcl := cut_le (bl s) [58]
  have hcon := fun (w' : World) (h : w'.cell? ⟨3, 0, none⟩ = some (.int .i64 m)) => Tryd.strings_Cut s ⟨#[58]⟩ m w' (by omega) h
  change ∀ (w' : World), w'.cell? ⟨3, 0, none⟩ = some (.int .i64 m) → Calls Tryd.prog 69 #[.string s, .string ⟨#[58]⟩] w' fun e w2 => e = .returned (.tuple #[.string (sb (Lib.cut (bl s) [58]).1), .string (sb (Lib.cut (bl s) [58]).2.1), .bool (Lib.cut (bl s) [58]).2.2]) ∧ ∃ n, w2 = w'.drewN n at hcon
  have hpf : parseF (bl s) = if (Lib.cut (bl s) [58]).2.2 && fine (Lib.cut (bl s) [58]).1 (trim (Lib.cut (bl s) [58]).2.1) then some ((Lib.cut (bl s) [58]).1, trim (Lib.cut (bl s) [58]).2.1) else none := rfl
  rw [bl_length] at hcl
  generalize parseF (bl s) = R at hpf ⊢
  generalize Lib.cut (bl s) [58] = q at hcon hcl hpf
  obtain ⟨n, v, has⟩ := q
  simp only at hcon hcl hpf
  have HPF := Lib.hid hpf
  have HC := Lib.hid hcon
  have htl := trim_le v
  clear hpf hcon
  go_enter Tryd.func47, Tryd.ntmps47
  go_wp2_with fail
  refine (HC.out _ ?_).mono ?_
  · exact pw_cell_below ((Below.refl w.heap.size w).alloc (Nat.le_refl _) _) hm
  rintro e w1 ⟨rfl, nq, rfl⟩
  go_wp2_with fail
  refine (trim_walk (sb v) _ (by rw [sb_size]; omega)).mono ?_
  rintro e w2 ⟨rfl, hb2⟩
  have hB2 : Below w.heap.size w w2 := ((Below.refl w.heap.size w).alloc (Nat.le_refl _) (.cells #[.string ⟨#[]⟩, .string ⟨#[]⟩] 28)).trans ((below_undrewN hb2).mono (by simp))
  have hsz : w.heap.size < w2.heap.size := by have := hb2.size; simp at this; omega
  have hc0 : w2.cell? ⟨w.heap.size, 0, none⟩ = some (.string ⟨#[]⟩) := (hb2.cell (p := ⟨w.heap.size, 0, none⟩) (by simp)).trans (by simp [World.cell?_alloc_new])
  have hc1 : w2.cell? ⟨w.heap.size, 1, none⟩ = some (.string ⟨#[]⟩) := (hb2.cell (p := ⟨w.heap.size, 1, none⟩) (by simp)).trans (by simp [World.cell?_alloc_new])
  have hf0 : w2.frozen? ⟨w.heap.size, 0, none⟩ = false := (hb2.frozen (p := ⟨w.heap.size, 0, none⟩) (by simp)).trans (by simp [World.frozen?_alloc_new])
  have hf1 : w2.frozen? ⟨w.heap.size, 1, none⟩ = false := (hb2.frozen (p := ⟨w.heap.size, 1, none⟩) (by simp)).trans (by simp [World.frozen?_alloc_new])
  have HB2 := Lib.hid hB2
  clear hb2 hB2
  cases has with
  | false =>
    obtain rfl : R = none := by rw [HPF.out]; rfl
    go_wp2
    obtain ⟨k0, k1⟩ := two_cells hc0 hc1 (.string ⟨#[]⟩) (.string ⟨#[]⟩)
    refine bodyPost_ret (v := .tuple #[.agg #[.string ⟨#[]⟩, .string ⟨#[]⟩], .int .i64 31]) (by simp [results, Tryd.results47, go_sem, hsz, k0, k1]) rfl ⟨rfl, ?_⟩
    exact (((HB2.out.setCell (Nat.le_refl _) _).setCell (Nat.le_refl _) _).alloc (by simp [World.setCell]; omega) _)
  | true =>
    rw [bl_sb] at *
    generalize trim v = tv at HPF htl ⊢
    have HQ := Lib.hid (show R = if fine n tv then some (n, tv) else none by rw [HPF.out]; simp)
    clear HPF
    go_wp2_with fail
    refine (fine_walk (sb n) (sb tv) _ (by rw [sb_size]; omega) (by rw [sb_size]; omega)).mono ?_
    rw [bl_sb, bl_sb]
    generalize fine n tv = z at HQ
    rintro e w3 ⟨rfl, hb3⟩
    have hsz2 := hb3.size
    simp only [World.size_alloc] at hsz2
    have hB3 : Below w.heap.size w w3 := (HB2.out.alloc (by omega) _).trans (hb3.mono (by simp; omega))
    have ht0 : w3.cell? ⟨w2.heap.size, 0, none⟩ = some (.string (sb n)) := (hb3.cell (p := ⟨w2.heap.size, 0, none⟩) (by simp)).trans (by simp [World.cell?_alloc_new])
    have ht1 : w3.cell? ⟨w2.heap.size, 1, none⟩ = some (.string (sb tv)) := (hb3.cell (p := ⟨w2.heap.size, 1, none⟩) (by simp)).trans (by simp [World.cell?_alloc_new])
    have hc0' : w3.cell? ⟨w.heap.size, 0, none⟩ = some (.string ⟨#[]⟩) := (hb3.cell (p := ⟨w.heap.size, 0, none⟩) (by simp; omega)).trans ((World.cell?_alloc_old _ _ _ (by simp; omega)).trans hc0)
    have hc1' : w3.cell? ⟨w.heap.size, 1, none⟩ = some (.string ⟨#[]⟩) := (hb3.cell (p := ⟨w.heap.size, 1, none⟩) (by simp; omega)).trans ((World.cell?_alloc_old _ _ _ (by simp; omega)).trans hc1)
    have hf0' : w3.frozen? ⟨w.heap.size, 0, none⟩ = false := (hb3.frozen (p := ⟨w.heap.size, 0, none⟩) (by simp; omega)).trans ((World.frozen?_alloc_old _ _ _ (by simp; omega)).trans hf0)
    have hf1' : w3.frozen? ⟨w.heap.size, 1, none⟩ = false := (hb3.frozen (p := ⟨w.heap.size, 1, none⟩) (by simp; omega)).trans ((World.frozen?_alloc_old _ _ _ (by simp; omega)).trans hf1)
    have HB3 := Lib.hid hB3
    clear hB3 hb3 hc0 hc1 hf0 hf1 hsz2
    cases z with
    | false =>
      obtain rfl : R = none := by rw [HQ.out]; rfl
      go_wp2
      obtain ⟨k0, k1⟩ := two_cells hc0' hc1' (.string ⟨#[]⟩) (.string ⟨#[]⟩)
      refine bodyPost_ret (v := .tuple #[.agg #[.string ⟨#[]⟩, .string ⟨#[]⟩], .int .i64 31]) (by simp [results, Tryd.results47, go_sem, k0, k1]) rfl ⟨rfl, ?_⟩
      exact (HB3.out.setCell (Nat.le_refl _) _).setCell (Nat.le_refl _) _
    | true =>
      obtain rfl : R = some (n, tv) := by rw [HQ.out]; rfl
      go_wp2
      obtain ⟨k0, k1⟩ := two_cells hc0' hc1' (.string (sb n)) (.string (sb tv))
      refine bodyPost_ret (v := .tuple #[.agg #[.string (sb n), .string (sb tv)], .int .i64 0]) (by simp [results, Tryd.results47, go_sem, k0, k1]) rfl ⟨rfl, ?_⟩
      exact (HB3.out.setCell (Nat.le_refl _) _).setCell (Nat.le_refl _) _
end Go.Proofs.YtkfiafclddnaoaaDoor.Tk
