/- Plain: bytes, tokens, lists of them, numbers, fields: what the walks come to. Nothing of the program. -/
import Derived.WalkKit
import Derived.Test.YtkfiafclddnaoaaDoorWWords
set_option linter.unusedVariables false
set_option linter.unusedSimpArgs false
namespace Go.Proofs.YtkfiafclddnaoaaDoor.Tk
open Go.RowKit Go.Proofs.YtkfiafclddnaoaaDoorW.PrintWords

abbrev Bs := List UInt8
/-- A string's bytes, and back. -/
def bl (s : ByteArray) : Bs := s.data.toList
def sb (l : Bs) : ByteArray := ⟨l.toArray⟩
theorem bl_sb (l : Bs) : bl (sb l) = l := by simp [bl, sb]
theorem sb_bl (s : ByteArray) : sb (bl s) = s := by cases s; simp [bl, sb]
theorem bl_length (s : ByteArray) : (bl s).length = s.size := by simp [bl]
theorem sb_size (l : Bs) : (sb l).size = l.length := by rw [← bl_length, bl_sb]
theorem bl_inj {a b : ByteArray} (h : bl a = bl b) : a = b := by rw [← sb_bl a, ← sb_bl b, h]
theorem bl_app (a b : ByteArray) : bl (a ++ b) = bl a ++ bl b := by simp [bl, ByteArray.data_append]
theorem sb_app (a b : Bs) : sb a ++ sb b = sb (a ++ b) := bl_inj (by rw [bl_app]; simp [bl_sb])
theorem bl_get (s : ByteArray) (i : Nat) (h : i < s.size) : (bl s)[i]'(by rw [bl_length]; exact h) = s[i] := by
  cases s; simp [bl]; rfl
theorem bl_extract (s : ByteArray) (i j : Nat) : bl (s.extract i j) = ((bl s).take j).drop i := by
  simp only [bl, ByteArray.data_extract, Array.toList_extract, List.extract_eq_take_drop]
  rw [List.drop_take]
/-- As whole numbers. -/
def ib (l : Bs) : List Int := l.map fun b => (b.toNat : Int)
theorem bytesOf_eq (s : ByteArray) : bytesOf s = ib (bl s) := rfl
theorem ib_length (l : Bs) : (ib l).length = l.length := by simp [ib]
theorem ib_app (a b : Bs) : ib (a ++ b) = ib a ++ ib b := by simp [ib]
theorem str_ib (l : Bs) : strOfNums (ib l) = sb l := by
  simp [strOfNums, ib, sb, List.map_map, Function.comp_def]
theorem u8_lt (c : UInt8) : c.toNat < 256 := c.toNat_lt

/-! ### Small letters -/
def lowb (c : UInt8) : UInt8 := if 65 ≤ c.toNat ∧ c.toNat ≤ 90 then c + 32 else c
def lower (l : Bs) : Bs := l.map lowb
theorem lower_length (l : Bs) : (lower l).length = l.length := by simp [lower]
def same (a b : Bs) : Bool := lower a == lower b
/-- A text of which the first k bytes are small letters. -/
def lowTo (l : Bs) (k : Nat) : Bs := lower (l.take k) ++ l.drop k
theorem lowTo_zero (l : Bs) : lowTo l 0 = l := by simp [lowTo, lower]
theorem lowTo_all (l : Bs) : lowTo l l.length = lower l := by simp [lowTo]
theorem lowTo_length (l : Bs) (k : Nat) : (lowTo l k).length = l.length := by simp [lowTo, lower]; omega
theorem lowTo_get (l : Bs) (k : Nat) (h : k < l.length) : (lowTo l k)[k]? = some l[k] := by
  unfold lowTo
  rw [List.getElem?_append_right (by simp [lower]; omega)]
  simp [lower, Nat.min_eq_left (Nat.le_of_lt h)]
theorem lowTo_step (l : Bs) (k : Nat) (h : k < l.length) : lowTo l (k + 1) = (lowTo l k).set k (lowb l[k]) := by
  unfold lowTo
  rw [List.set_append_right _ _ (by simp [lower]; omega), List.take_succ_eq_append_getElem h]
  have : k - (lower (l.take k)).length = 0 := by simp [lower]; omega
  rw [this, List.drop_eq_getElem_cons h, List.set_cons_zero]
  simp only [lower, List.map_append, List.map_cons, List.map_nil, List.append_assoc, List.singleton_append]
theorem lowTo_skip (l : Bs) (k : Nat) (h : k < l.length) (hn : ¬ (65 ≤ l[k].toNat ∧ l[k].toNat ≤ 90)) : lowTo l (k + 1) = lowTo l k := by
  have hg := lowTo_get l k h
  rw [lowTo_step l k h, show lowb l[k] = l[k] from by unfold lowb; rw [if_neg hn]]
  apply List.ext_getElem?
  intro i
  by_cases e : i = k
  · subst e; rw [List.getElem?_set_self (by rw [lowTo_length]; exact h), hg]
  · rw [List.getElem?_set_ne (fun h => e h.symm)]
theorem or32 (c : UInt8) (h : 65 ≤ c.toNat ∧ c.toNat ≤ 90) : bits BinOp.or IntKind.u8 (c.toNat : Int) 32 = ((lowb c).toNat : Int) := by
  have key : ∀ n : Fin 256, 65 ≤ n.1 → n.1 ≤ 90 → bits BinOp.or IntKind.u8 (n.1 : Int) 32 = ((UInt8.ofNat n.1 + 32).toNat : Int) := by decide +kernel
  have := key ⟨c.toNat, u8_lt c⟩ h.1 h.2
  unfold lowb
  rw [if_pos h]
  simpa using this
def Big (c : UInt8) : Prop := 65 ≤ c.toNat ∧ c.toNat ≤ 90
theorem low_round (l : Bs) (k : Nat) (h : k < l.length) : ∃ x, l[k]? = some x ∧ (lowTo l k)[k]? = some x ∧ (Big x → (lowTo l k).set k (lowb x) = lowTo l (k + 1)) ∧ (¬ Big x → lowTo l k = lowTo l (k + 1)) :=
  ⟨l[k], List.getElem?_eq_getElem h, lowTo_get l k h, fun _ => (lowTo_step l k h).symm, fun hn => (lowTo_skip l k h hn).symm⟩
/-! ### Bytes of tokens -/
def marksL : Bs := [33, 35, 36, 37, 38, 39, 42, 43, 45, 46, 94, 95, 96, 124, 126]
def tch (c : UInt8) : Bool := (decide (97 ≤ (c ||| 32).toNat) && decide ((c ||| 32).toNat ≤ 122)) || (decide (48 ≤ c.toNat) && decide (c.toNat ≤ 57)) || marksL.contains c
theorem or32b (c : UInt8) : bits BinOp.or IntKind.u8 (c.toNat : Int) 32 = ((c ||| 32).toNat : Int) := by
  have key : ∀ n : Fin 256, bits BinOp.or IntKind.u8 (n.1 : Int) 32 = ((UInt8.ofNat n.1 ||| 32).toNat : Int) := by decide +kernel
  have := key ⟨c.toNat, u8_lt c⟩
  simpa using this
def isTok (l : Bs) : Bool := !l.isEmpty && l.all tch
theorem contains_take (l : Bs) (k : Nat) (h : k < l.length) (c : UInt8) : (l.take (k + 1)).contains c = ((l.take k).contains c || c == l[k]) := by
  rw [List.take_succ_eq_append_getElem h, List.contains_append]
  simp only [List.contains_cons, List.contains_nil, Bool.or_false]
/-! ### Numbers -/
def dig (c : UInt8) : Bool := decide (48 ≤ c.toNat) && decide (c.toNat ≤ 57)
/-- From n on, the digits' number, at most so much. -/
def numGo (most : Nat) : Nat → Bs → Nat × Bool
  | n, [] => (n, true)
  | n, c :: r => if most < c.toNat - 48 ∨ (most - (c.toNat - 48)) / 10 < n then (most, true) else numGo most (10 * n + (c.toNat - 48)) r
def number (most : Nat) (l : Bs) : Nat × Bool := if l.isEmpty || !l.all dig then (0, false) else numGo most 0 l
theorem numGo_le (most : Nat) : ∀ (l : Bs) (n : Nat), n ≤ most → (numGo most n l).1 ≤ most
  | [], n, h => h
  | c :: r, n, h => by
    unfold numGo
    split
    · exact Nat.le_refl _
    · exact numGo_le most r _ (by omega)
theorem number_le (most : Nat) (l : Bs) : (number most l).1 ≤ most := by
  unfold number
  split
  · exact Nat.zero_le _
  · exact numGo_le most l 0 (Nat.zero_le _)
theorem dig_iff (c : UInt8) : dig c = true ↔ 48 ≤ c.toNat ∧ c.toNat ≤ 57 := by simp [dig]
/-- One round of the number's loop. -/
theorem num_round (most : Nat) (l : Bs) (k n : Nat) (r : Nat × Bool) (hk : k < l.length) (hd : l.all dig = true) (h : numGo most n (l.drop k) = r) :
    ∃ c : UInt8, l[k]? = some c ∧ 48 ≤ c.toNat ∧ c.toNat ≤ 57 ∧ (most < c.toNat - 48 ∨ (most - (c.toNat - 48)) / 10 < n → r = (most, true)) ∧
      (¬ (most < c.toNat - 48 ∨ (most - (c.toNat - 48)) / 10 < n) → numGo most (10 * n + (c.toNat - 48)) (l.drop (k + 1)) = r ∧ 10 * n + (c.toNat - 48) ≤ most) := by
  have hg := List.getElem?_eq_getElem hk
  have hdk : dig l[k] = true := List.all_eq_true.1 hd _ (List.getElem_mem hk)
  obtain ⟨h1, h2⟩ := (dig_iff _).1 hdk
  rw [List.drop_eq_getElem_cons hk] at h
  unfold numGo at h
  refine ⟨l[k], hg, h1, h2, fun hc => ?_, fun hc => ?_⟩
  · rw [if_pos hc] at h; exact h.symm
  · rw [if_neg hc] at h; exact ⟨h, by omega⟩
end Go.Proofs.YtkfiafclddnaoaaDoor.Tk
