/- Walk: a list's elements. -/
import Derived.Test.YtkfiafclddnaoaaDoorTok3
set_option linter.unusedVariables false
set_option linter.unusedSimpArgs false
namespace Go.Proofs.YtkfiafclddnaoaaDoor.Tk
open Go.RowKit Go.Proofs.YtkfiafclddnaoaaDoorW.PrintWords Go.Proofs.YtkfiafclddnaoaaDoorW.PrintLast Go.Proofs.YtkfiafclddnaoaaDoor.Rw

theorem heap3 (w : World) (a b c : Obj) : (((w.alloc a).alloc b).alloc c).heap[w.heap.size]? = some a ∧ (((w.alloc a).alloc b).alloc c).heap[w.heap.size + 1]? = some b ∧ (((w.alloc a).alloc b).alloc c).heap[w.heap.size + 2]? = some c := by
  have s1 := World.size_alloc w a
  have s2 := World.size_alloc (w.alloc a) b
  have h1 := heap_alloc_new (w.alloc a) b
  have h2 := heap_alloc_new ((w.alloc a).alloc b) c
  rw [s1] at h1
  rw [s2, s1] at h2
  exact ⟨((Below.heap_alloc _ c _ (by omega)).trans (Below.heap_alloc _ b _ (by omega))).trans (heap_alloc_new w a), (Below.heap_alloc _ c _ (by omega)).trans h1, h2⟩
theorem byte_eq {x : UInt8} {n : Nat} (h : x.toNat = n) (m : Int) (e : m = n) : ((x.toNat : Int) == m) = true := by subst e; simp [h]
theorem byte_ne {x : UInt8} {n : Nat} (h : x.toNat ≠ n) (m : Int) (e : m = n) : ((x.toNat : Int) == m) = false := by subst e; simp; omega
theorem byte_of {x c d : UInt8} (hx : x = c) (h : ¬ c = d) {n : Nat} (hd : d.toNat = n) : x.toNat ≠ n := by
  intro e
  exact h (by rw [← hx]; exact UInt8.toNat_inj.1 (by omega))
def SplitPost (l : Bs) (w : World) (e : Ending) (w' : World) : Prop :=
  ∃ v, e = .returned (.tuple #[v, .bool (split l).2]) ∧ Row w' (fun k => w.heap.size ≤ k) 1 v (split l).1.length (strs (split l).1) ∧ Below w.heap.size w w'
def SplitRel (s : ByteArray) (w : World) (k fr : Nat) (q : Bool) (outs : List Bs) (v : Value) (wr : World) : Prop :=
  SplitAt (bl s) k fr q outs ∧ SplitSt w.heap.size s fr outs v wr ∧ Below w.heap.size w wr
theorem split_enters : ∀ (args : Array Value) (w : World), (callFunc 79 args).run Tryd.prog w = .ok (.enter 79 args) w :=
  enters_ (P := Tryd.prog) Tryd.func79 (by kernel_rfl) (by kernel_rfl)
set_option maxRecDepth 100000 in
set_option maxHeartbeats 1000000 in
theorem split_walk (s : ByteArray) (w : World) (hs : s.size ≤ 500000) : Calls Tryd.prog 54 #[.string s] w (SplitPost (bl s) w) := by
  go_enter Tryd.func54, Tryd.ntmps54
  go_wp2_with fail
  go_loopw [7, 8] (fun v7 v8 wr => ∃ (k fr : Nat) (q : Bool) (outs : List Bs) (v : Value), v7 = .bool q ∧ v8 = .int .i64 k ∧ SplitRel s w k fr q outs v wr) (fun _ v8 _ => s.size + 2 - (intOf v8).toNat)
  case atStart =>
    refine ⟨0, 0, false, [], .slice none 0 0, rfl, rfl, SplitAt.start _, ⟨(heap3 _ _ _ _).1, (heap3 _ _ _ _).2.1, (heap3 _ _ _ _).2.2, Row.nil _ _ _⟩, ?_⟩
    · exact (((Below.refl _ _).alloc (Nat.le_refl _) _).alloc (by simp) _).alloc (by simp; omega) _
  case round =>
    obtain ⟨k, fr, q, outs, v, rfl, rfl, hS, hM, hB⟩ := hrel
    have hcs := cell_of_one hM.cs
    have HS := Lib.hid hS
    have HM := Lib.hid hM
    clear hS hM
    by_cases hlt : k < s.size
    · obtain ⟨c, hc, h1, h2, h3, h4⟩ := HS.out.round (by rw [bl_length]; exact hlt)
      rw [bl_at s k hlt] at hc
      injection hc with hc
      have HC := Lib.hid hc
      have H1 := Lib.hid h1
      have H2 := Lib.hid h2
      have H3 := Lib.hid h3
      have H4 := Lib.hid h4
      clear hc h1 h2 h3 h4
      have hk31 : k ≤ 1000000 := by omega
      by_cases c1 : c = 34
      · have e1 : ((s[k].toNat : Int) == 34) = true := by rw [HC.out, c1]; rfl
        go_wp2
        go_roundw
        case rel => exact ⟨k + 1, fr, !q, outs, v, rfl, by go_num, H1.out c1, HM.out, hB⟩
        case measure => simp [intOf]; omega
      · have e1 : ((s[k].toNat : Int) == 34) = false := byte_ne (byte_of HC.out c1 (n := 34) rfl) _ rfl
        by_cases c2 : q = true ∧ c = 92
        · obtain ⟨c2a, c2b⟩ := c2
          subst c2a
          have e2 : ((s[k].toNat : Int) == 92) = true := by rw [HC.out, c2b]; rfl
          go_wp2
          go_roundw
          case rel => exact ⟨k + 2, fr, true, outs, v, rfl, by go_num, H2.out c1 rfl c2b, HM.out, hB⟩
          case measure => simp [intOf]; omega
        · by_cases c3 : q = false ∧ c = 44
          · obtain ⟨c3a, c3b⟩ := c3
            subst c3a
            have e3 : ((s[k].toNat : Int) == 44) = true := by rw [HC.out, c3b]; rfl
            have hent := split_enters
            go_wp2_with fail
            refine (split1_walk w.heap.size s fr k outs v wr HM.out HS.out.1 (by omega) (by omega) (by have := HS.out.2.1; omega)).mono ?_
            rintro e w1 ⟨rfl, ⟨v1, hM1⟩, hT1⟩
            have hB1 := Tch.below_then hB hT1 (Nat.le_refl _) (fun _ h => h)
            have HM1 := Lib.hid hM1
            clear hM1 hT1 hent
            go_wp2
            go_roundw
            case rel => exact ⟨k + 1, k + 1, false, _, v1, rfl, by go_num, H3.out c1 c2 (by trivial) c3b, HM1.out, hB1⟩
            case measure => simp [intOf]; omega
          · have hrel' : SplitRel s w (k + 1) fr q outs v wr := ⟨H4.out c1 c2 c3, HM.out, hB⟩
            have HREL := Lib.hid hrel'
            clear hrel'
            cases q with
            | true =>
              have e2 : ((s[k].toNat : Int) == 92) = false := byte_ne (byte_of HC.out (fun e => c2 ⟨rfl, e⟩) (n := 92) rfl) _ rfl
              go_wp2
              go_roundw
              case rel => exact ⟨k + 1, fr, true, outs, v, rfl, by go_num, HREL.out⟩
              case measure => simp [intOf]; omega
            | false =>
              have e3 : ((s[k].toNat : Int) == 44) = false := byte_ne (byte_of HC.out (fun e => c3 ⟨rfl, e⟩) (n := 44) rfl) _ rfl
              go_wp2
              go_roundw
              case rel => exact ⟨k + 1, fr, false, outs, v, rfl, by go_num, HREL.out⟩
              case measure => simp [intOf]; omega
    · rcases HS.out.done (by rw [bl_length]; omega) with ⟨hq, hr⟩ | ⟨hq, hk, hr⟩
      · subst hq
        have HR := Lib.hid hr
        clear hr
        go_wp2
        go_ret2
        exact ⟨_, by rw [HR.out]; rfl, by rw [HR.out]; exact Row.nil _ _ _, hB⟩
      · subst hq
        rw [bl_length] at hk
        subst hk
        have HR := Lib.hid hr
        have hent := split_enters
        clear hr
        go_wp2_with fail
        refine (split1_walk w.heap.size s fr s.size outs v wr HM.out HS.out.1 (by omega) (by omega) (by have := HS.out.2.1; omega)).mono ?_
        rintro e w1 ⟨rfl, ⟨v1, hM1⟩, hT1⟩
        have hB1 := Tch.below_then hB hT1 (Nat.le_refl _) (fun _ h => h)
        have e0 : (bl s).take s.size = bl s := by rw [← bl_length, List.take_length]
        rw [e0] at hM1
        obtain ⟨A1, c1, hv1, hc1⟩ := hM1.row.slice
        subst hv1
        have hco := cell_of_one hM1.co
        have HROW := Lib.hid (hM1.row.cut.mono (G := fun k => w.heap.size ≤ k) (fun k hk => by omega))
        generalize hN : (outs ++ adds ((bl s).drop fr)).length = N at hco hc1
        have HN := Lib.hid hN
        clear hM1 hT1 hent e0 hN
        go_wp2
        go_ret2
        refine ⟨_, by rw [HR.out]; rfl, ?_, hB1⟩
        rw [HR.out]
        have := HROW.out
        rw [HN.out] at this
        show Row w1 (fun k => w.heap.size ≤ k) 1 (.slice A1 N N) (outs ++ adds ((bl s).drop fr)).length _
        rw [HN.out]
        exact this
end Go.Proofs.YtkfiafclddnaoaaDoor.Tk
