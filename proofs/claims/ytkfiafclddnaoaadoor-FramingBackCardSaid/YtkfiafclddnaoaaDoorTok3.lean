/- Walks: trimmed texts, lists. -/
import Derived.Test.YtkfiafclddnaoaaDoorTok2
import Derived.Test.YtkfiafclddnaoaaDoorShelf
import Derived.Shelf.Strings.SlTrimAscii
set_option linter.unusedVariables false
set_option linter.unusedSimpArgs false
namespace Go.Proofs.YtkfiafclddnaoaaDoor.Tk
open Go.RowKit Go.Proofs.YtkfiafclddnaoaaDoorW.PrintWords Go.Proofs.YtkfiafclddnaoaaDoorW.PrintLast Go.Proofs.YtkfiafclddnaoaaDoor.Rw

def trim (l : Bs) : Bs := Lib.trimS l [32, 9]
theorem trim_walk (s : ByteArray) (w : World) (hs : s.size ≤ 140737488355328) :
    Calls Tryd.prog 68 #[.string s] w fun e w' => e = .returned (.string (sb (trim (bl s)))) ∧ Below w.heap.size w w' := by
  have hcon := Any.strings_Trim_laid Tryd.lays160 (by kernel_rfl) s ⟨#[32, 9]⟩ w (by omega) (by decide) (ascii_of_all (by decide))
  change Calls Tryd.prog 91 _ _ (fun e w' => e = .returned (.string (sb (trim (bl s)))) ∧ Below w.heap.size w w') at hcon
  generalize sb (trim (bl s)) = r at hcon ⊢
  have HC := Lib.hid hcon
  clear hcon
  go_enter Tryd.func68, Tryd.ntmps68
  go_wp2_with fail
  refine (HC.out).mono ?_
  rintro e w1 ⟨rfl, hb1⟩
  go_wp2
  go_ret
  exact ⟨rfl, hb1⟩

/-- What a list of texts is in memory. -/
def strs (xs : List Bs) : List Value := xs.map fun x => .string (sb x)
theorem strs_app (a b : List Bs) : strs (a ++ b) = strs a ++ strs b := by simp [strs]
theorem strs_length (a : List Bs) : (strs a).length = a.length := by simp [strs]
/-- The state of a list that is cut: s, where the element begins, what there is so far, in three boxes. -/
structure SplitSt (B : Nat) (s : ByteArray) (fr : Nat) (outs : List Bs) (v : Value) (W : World) : Prop where
  cs : W.heap[B]? = some (.cells #[.string s] 9 (0, 0))
  co : W.heap[B + 1]? = some (.cells #[v] 80 (0, 0))
  cf : W.heap[B + 2]? = some (.cells #[.int .i64 fr] 3 (0, 0))
  row : Row W (fun k => B + 3 ≤ k) 1 v outs.length (strs outs)
theorem SplitSt.below {B : Nat} {s : ByteArray} {fr : Nat} {outs : List Bs} {v : Value} {W W' : World} (h : SplitSt B s fr outs v W) (hb : Below W.heap.size W W') : SplitSt B s fr outs v W' := by
  have l := fun {k : Nat} {o : Obj} (e : W.heap[k]? = some o) => (Array.getElem?_eq_some_iff.1 e).1
  exact ⟨(hb.block _ (l h.cs)).trans h.cs, (hb.block _ (l h.co)).trans h.co, (hb.block _ (l h.cf)).trans h.cf, h.row.touch (Tch.of_below hb (fun _ => False)) (fun _ _ _ h => h)⟩
theorem SplitSt.setFrom {B : Nat} {s : ByteArray} {fr : Nat} {outs : List Bs} {v : Value} {W : World} (h : SplitSt B s fr outs v W) (m : Nat) : SplitSt B s m outs v (W.setCell ⟨B + 2, 0, none⟩ (.int .i64 m)) :=
  ⟨(Below.heap_setCell W ⟨B + 2, 0, none⟩ _ B (by simp)).trans h.cs, (Below.heap_setCell W ⟨B + 2, 0, none⟩ _ (B + 1) (by simp)).trans h.co, one_setCell h.cf, h.row.far (fun k hk => by simp only; omega) _⟩
theorem SplitSt.setOut {B : Nat} {s : ByteArray} {fr : Nat} {outs : List Bs} {v : Value} {W W' : World} (h : SplitSt B s fr outs v W) {outs' : List Bs} {v' : Value} (hb : ∀ k, k < B + 3 → W'.heap[k]? = W.heap[k]?)
    (hr : Row W' (fun k => B + 3 ≤ k) 1 v' outs'.length (strs outs')) : SplitSt B s fr outs' v' (W'.setCell ⟨B + 1, 0, none⟩ v') :=
  ⟨(Below.heap_setCell W' ⟨B + 1, 0, none⟩ _ B (by simp)).trans ((hb B (by omega)).trans h.cs), one_setCell ((hb (B + 1) (by omega)).trans h.co), (Below.heap_setCell W' ⟨B + 1, 0, none⟩ _ (B + 2) (by simp)).trans ((hb (B + 2) (by omega)).trans h.cf), hr.far (fun k hk => by simp only; omega) _⟩
/-- What an element that ends adds. -/
def adds (l : Bs) : List Bs := if trim l = [] then [] else [trim l]
theorem adds_nil {l : Bs} (h : trim l = []) : adds l = [] := if_pos h
theorem adds_one {l : Bs} (h : trim l ≠ []) : adds l = [trim l] := if_neg h

set_option maxRecDepth 100000 in
set_option maxHeartbeats 1000000 in
theorem split1_walk (B : Nat) (s : ByteArray) (fr hi : Nat) (outs : List Bs) (v : Value) (W : World) (h : SplitSt B s fr outs v W) (h1 : fr ≤ hi) (h2 : hi ≤ s.size) (hs : s.size ≤ 140737488355328) (ho : outs.length ≤ 1000000) :
    Calls Tryd.prog 79 #[.int .i64 hi, .pointer (some ⟨B, 0, none⟩), .pointer (some ⟨B + 2, 0, none⟩), .pointer (some ⟨B + 1, 0, none⟩)] W fun e W' =>
      e = .returned (.tuple #[]) ∧ (∃ v', SplitSt B s (hi + 1) (outs ++ adds (((bl s).take hi).drop fr)) v' W') ∧ Tch (fun k => B ≤ k) W W' := by
  have hc1 := cell_of_one h.cs
  have hc2 := cell_of_one h.cf
  have hc3 := cell_of_one h.co
  have hf2 := free_of_one h.cf
  have hf3 := free_of_one h.co
  have H := Lib.hid h
  clear h
  go_enter Tryd.func79, Tryd.ntmps79
  go_wp2_with fail
  have he : bl (s.extract fr hi) = ((bl s).take hi).drop fr := bl_extract s fr hi
  have hes : (s.extract fr hi).size ≤ 140737488355328 := by rw [ByteArray.size_extract]; omega
  refine (trim_walk _ W hes).mono ?_
  rw [he]
  generalize hseg : ((bl s).take hi).drop fr = seg
  have HSEG := Lib.hid hseg
  clear hseg
  rintro e w1 ⟨rfl, hb1⟩
  have H1 := Lib.hid (H.out.below hb1)
  have T1 := Lib.hid (Tch.of_below hb1 (fun k => B ≤ k))
  clear he hes hb1 hc1 hc2 hc3 hf2 hf3 H
  have hB1 := H1.out.cf
  have hsz : B + 3 ≤ w1.heap.size := by have := lt_of_block hB1; omega
  clear hB1
  by_cases hr : trim seg = []
  · have ha := Lib.hid (adds_nil hr)
    have hne : (sb (trim seg)).toList.isEmpty = true := by rw [toList_bl, bl_sb, hr]; rfl
    have hne' : (sb (trim seg)).toList = [] := by rw [toList_bl, bl_sb, hr]
    generalize sb (trim seg) = own at hne hne'
    clear hr
    have hc2 := cell_of_one H1.out.cf
    have hf2 := free_of_one H1.out.cf
    go_wp2
    go_end0
    exact ⟨rfl, ⟨v, by rw [HSEG.out, ha.out, List.append_nil]; exact H1.out.setFrom (hi + 1)⟩, T1.out.setCell (.inl (by simp only; omega)) _⟩
  · have ha := Lib.hid (adds_one hr)
    have hne : (sb (trim seg)).toList.isEmpty = false := by rw [toList_bl, bl_sb]; exact List.isEmpty_eq_false_iff.2 hr
    have hne' : ¬ (sb (trim seg)).toList = [] := by rw [toList_bl, bl_sb]; exact hr
    have hst : strs (outs ++ [trim seg]) = strs outs ++ [.string (sb (trim seg))] := by simp [strs]
    have HST := Lib.hid hst
    generalize hown : sb (trim seg) = own at hne hne' hst
    have HOWN := Lib.hid hown
    clear hr hst hown
    have hc3 := cell_of_one H1.out.co
    have hf3 := free_of_one H1.out.co
    go_wp2_with (first | (at_builtin; refine wp_append rfl (.tmp 13) (.tmp 15) 80 9 (.string ⟨#[]⟩) 16 rfl Tryd.underlying80 info9 rfl (some ⟨w1.heap.size, 0, none⟩) 1 1 [.string own] rfl rfl (H1.out.row.alloc _) (box_src (w := w1) [.string own] 9 ?y1 1 rfl).1 (box_src (w := w1) [.string own] 9 ?y1 1 rfl).2.1 (box_src (w := w1) [.string own] 9 ?y1 1 rfl).2.2.1 (box_src (w := w1) [.string own] 9 ?y1 1 rfl).2.2.2 ?y2 ?y3 ?y4))
    case y1 => intro u hu; simp at hu; subst hu; rfl
    case y2 => simp only [maxLen]; omega
    case y3 => omega
    case y4 =>
      intro v2 w2 hr2 ht2
      obtain ⟨A2, c2, hv2, _⟩ := hr2.slice
      subst hv2
      have hr2 : Row w2 (fun k => B + 3 ≤ k) 1 (.slice A2 (outs.length + 1) c2) (outs ++ [trim seg]).length (strs (outs ++ [trim seg])) := by
        rw [HST.out, HOWN.out, List.length_append]
        refine hr2.mono fun k hk => hk.elim id fun hk => ?_
        have := World.size_alloc w1 (.cells #[.string own] 9)
        omega
      have hbl : ∀ k, k < B + 3 → w2.heap[k]? = w1.heap[k]? := fun k hk => (ht2.block k (by simp; omega) (by omega)).trans (Below.heap_alloc w1 _ k (by omega))
      have H2 := Lib.hid (H1.out.setOut hbl hr2)
      have T2 : Tch (fun k => B ≤ k) W (w2.setCell ⟨B + 1, 0, none⟩ (.slice A2 (outs.length + 1) c2)) := ((T1.out.alloc _).trans ht2 (fun k hk => .inl (by omega))).setCell (.inl (by simp only; omega)) _
      have T2' := Lib.hid T2
      have hcW2 : w2.cell? ⟨B + 1, 0, none⟩ = some v := (World.cell?_of_block (hbl _ (by simp only; omega))).trans (cell_of_one H1.out.co)
      have hfW2 : w2.frozen? ⟨B + 1, 0, none⟩ = false := (World.frozen?_of_block (hbl _ (by simp only; omega))).trans (free_of_one H1.out.co)
      have hcf2 : w2.cell? ⟨B + 2, 0, none⟩ = some (.int .i64 fr) := (World.cell?_of_block (hbl _ (by simp only; omega))).trans (cell_of_one H1.out.cf)
      have hff2 : w2.frozen? ⟨B + 2, 0, none⟩ = false := (World.frozen?_of_block (hbl _ (by simp only; omega))).trans (free_of_one H1.out.cf)
      clear hc3 hf3 T2 hr2 ht2 hbl hne hne'
      go_wp2
      go_end0
      exact ⟨rfl, ⟨_, by rw [HSEG.out, ha.out]; exact H2.out.setFrom (hi + 1)⟩, T2'.out.setCell (.inl (by simp only; omega)) _⟩

/-! ### Lists -/
def splitGo : Bs → Bs → Bool → List Bs → List Bs × Bool
  | [], own, q, out => if q then ([], false) else (out ++ adds own, true)
  | [c], own, q, out =>
    if c = 34 then splitGo [] (own ++ [c]) (!q) out
    else if q && c == 92 then ([], false)
    else if !q && c == 44 then splitGo [] [] q (out ++ adds own)
    else splitGo [] (own ++ [c]) q out
  | c :: d :: r, own, q, out =>
    if c = 34 then splitGo (d :: r) (own ++ [c]) (!q) out
    else if q && c == 92 then splitGo r (own ++ [c, d]) q out
    else if !q && c == 44 then splitGo (d :: r) [] q (out ++ adds own)
    else splitGo (d :: r) (own ++ [c]) q out
def split (l : Bs) : List Bs × Bool := splitGo l [] false []
/-- The state at place k: the element begins at fr. -/
def SplitAt (l : Bs) (k fr : Nat) (q : Bool) (outs : List Bs) : Prop :=
  fr ≤ k ∧ outs.length ≤ k ∧ ((k ≤ l.length ∧ splitGo (l.drop k) ((l.take k).drop fr) q outs = split l) ∨ (k = l.length + 1 ∧ q = true ∧ split l = ([], false)))
theorem SplitAt.start (l : Bs) : SplitAt l 0 0 false [] := ⟨Nat.le_refl _, Nat.le_refl _, .inl ⟨Nat.zero_le _, rfl⟩⟩
theorem own_snoc (l : Bs) (k fr : Nat) (hk : k < l.length) (hf : fr ≤ k) : (l.take (k + 1)).drop fr = (l.take k).drop fr ++ [l[k]] := by
  rw [List.take_succ_eq_append_getElem hk, List.drop_append_of_le_length (by simp; omega)]
/-- A round, by what its byte is. -/
theorem SplitAt.round {l : Bs} {k fr : Nat} {q : Bool} {outs : List Bs} (h : SplitAt l k fr q outs) (hk : k < l.length) : ∃ c : UInt8, l[k]? = some c ∧
    (c = 34 → SplitAt l (k + 1) fr (!q) outs) ∧
    (c ≠ 34 → q = true → c = 92 → SplitAt l (k + 2) fr q outs) ∧
    (c ≠ 34 → ¬ (q = true ∧ c = 92) → q = false → c = 44 → SplitAt l (k + 1) (k + 1) q (outs ++ adds ((l.take k).drop fr))) ∧
    (c ≠ 34 → ¬ (q = true ∧ c = 92) → ¬ (q = false ∧ c = 44) → SplitAt l (k + 1) fr q outs) := by
  obtain ⟨h1, h2, h3⟩ := h
  have h4 : splitGo (l.drop k) ((l.take k).drop fr) q outs = split l := by
    rcases h3 with h3 | h3
    · exact h3.2
    · omega
  have hs := own_snoc l k fr hk h1
  have ha : ∀ x : Bs, (adds x).length ≤ 1 := fun x => by unfold adds; split <;> simp
  rw [List.drop_eq_getElem_cons hk] at h4
  refine ⟨l[k], List.getElem?_eq_getElem hk, ?_, ?_, ?_, ?_⟩
  · intro hc
    refine ⟨by omega, by omega, .inl ⟨hk, ?_⟩⟩
    rw [hs, ← h4]
    cases hd : l.drop (k + 1) <;> simp [splitGo, hc]
  · intro hc hq h9
    by_cases hk1 : k + 1 < l.length
    · refine ⟨by omega, by omega, .inl ⟨hk1, ?_⟩⟩
      rw [own_snoc l (k + 1) fr hk1 (by omega), hs, ← h4, List.drop_eq_getElem_cons hk1]
      simp [splitGo, hq, h9]
    · refine ⟨by omega, by omega, .inr ⟨by omega, hq, ?_⟩⟩
      rw [List.drop_eq_nil_of_le (by omega)] at h4
      rw [← h4]
      simp [splitGo, hq, h9]
  · intro hc hn hq h9
    refine ⟨by omega, by rw [List.length_append]; have := ha ((l.take k).drop fr); omega, .inl ⟨hk, ?_⟩⟩
    have e : (l.take (k + 1)).drop (k + 1) = [] := List.drop_eq_nil_of_le (by simp; omega)
    rw [e, ← h4]
    cases hd : l.drop (k + 1) <;> simp [splitGo, hq, h9]
  · intro hc hn hm
    refine ⟨by omega, by omega, .inl ⟨hk, ?_⟩⟩
    rw [hs, ← h4]
    have e1 : (q && l[k] == 92) = false := by
      rw [Bool.eq_false_iff]; intro e; rw [Bool.and_eq_true, beq_iff_eq] at e; exact hn e
    have e2 : (!q && l[k] == 44) = false := by
      rw [Bool.eq_false_iff]; intro e; rw [Bool.and_eq_true, beq_iff_eq, Bool.not_eq_true'] at e; exact hm e
    cases hd : l.drop (k + 1) <;> simp [splitGo, hc, e1, e2]
theorem SplitAt.done {l : Bs} {k fr : Nat} {q : Bool} {outs : List Bs} (h : SplitAt l k fr q outs) (hk : l.length ≤ k) :
    (q = true ∧ split l = ([], false)) ∨ (q = false ∧ k = l.length ∧ split l = (outs ++ adds (l.drop fr), true)) := by
  obtain ⟨h1, h2, h3⟩ := h
  rcases h3 with ⟨h3, h4⟩ | ⟨h3, h4, h5⟩
  · obtain rfl : k = l.length := by omega
    rw [List.drop_length, List.take_length] at h4
    cases q
    · exact .inr ⟨rfl, rfl, by rw [← h4]; simp [splitGo]⟩
    · exact .inl ⟨rfl, by rw [← h4]; simp [splitGo]⟩
  · exact .inl ⟨h4, h5⟩
end Go.Proofs.YtkfiafclddnaoaaDoor.Tk
