/- Chapter 41: the reference passes over a remark. -/
import Derived.Test.YtcblakflhheepaaTagJ
import Derived.Test.YtcblakflhheepaaTagE
namespace Go.Proofs.Ytcblakflhheepaa
open Go.RowKit
set_option linter.unusedVariables false
set_option linter.unusedSimpArgs false

def remS (s : ByteArray) (x : Nat × Nat) : Nat × Nat := if x.2 = 0 then exS (remL s x.1) id else x
theorem remL_end {s : ByteArray} {j : Nat} (h : s.size < j + 3) : remL s j = .error (s.size, 16) := by
  unfold remL
  cases hi : idx3 (s.data.toList.drop j) with
  | none => rfl
  | some i =>
    have := idx3_le hi
    simp at this
    omega
theorem idx3_drop {s : ByteArray} {j : Nat} (h : j + 3 ≤ s.size) : ∃ b l, s.data.toList.drop j = b :: l ∧ s.data.toList.drop (j + 1) = l ∧ ([45, 45, 62].isPrefixOf (b :: l) = true ↔ (s.extract j (j + 3)).toList = [45, 45, 62]) := by
  have hj : j < s.data.toList.length := by simp; omega
  refine ⟨_, _, List.drop_eq_getElem_cons hj, rfl, ?_⟩
  rw [← List.drop_eq_getElem_cons hj, Lib.extract_toList, List.isPrefixOf_iff_prefix, List.prefix_iff_eq_take]
  simp only [List.length_cons, List.length_nil, Nat.zero_add, Nat.reduceAdd, Nat.add_sub_cancel_left]
  exact eq_comm
theorem remL_hit {s : ByteArray} {j : Nat} (h : j + 3 ≤ s.size) (hq : (s.extract j (j + 3)).toList = [45, 45, 62]) : remL s j = .ok (j + 3) := by
  obtain ⟨b, l, e1, e2, e3⟩ := idx3_drop h
  unfold remL
  rw [e1]
  simp [idx3, e3.2 hq]
theorem remL_miss {s : ByteArray} {j : Nat} (h : j + 3 ≤ s.size) (hq : ¬ (s.extract j (j + 3)).toList = [45, 45, 62]) : remL s j = remL s (j + 1) := by
  obtain ⟨b, l, e1, e2, e3⟩ := idx3_drop h
  have hn : [45, 45, 62].isPrefixOf (b :: l) = false := by
    cases h1 : [45, 45, 62].isPrefixOf (b :: l)
    · rfl
    · exact absurd (e3.1 h1) hq
  have h1 : idx3 (b :: l) = (idx3 l).map (· + 1) := by
    rw [idx3, hn]
    rfl
  unfold remL
  rw [e1, e2, h1]
  cases idx3 l with
  | none => simp
  | some i => simp; omega

set_option maxRecDepth 100000 in
set_option maxHeartbeats 4000000 in
theorem rremark_any (X : Nat) (s : ByteArray) (x : Nat × Nat) (hs : s.size ≤ 4000000) (hx : x.1 ≤ s.size) (w : World) (hX : Blk w X TS86 (stt s x)) :
    Calls Try.prog 42 #[.pointer (some ⟨X, 0, none⟩)] w fun e w' => e = .returned (.tuple #[]) ∧ Blk w' X TS86 (stt s (remS s (oneS s 45 (oneS s 45 x)))) ∧ But w.heap.size X w w' := by
  have hXl := hX.lt
  go_enter Try.func42, Try.ntmps42
  go_wp2_with (fail)
  refine (one_any X s x 45 hs _ hX).mono ?_
  rintro e w1 ⟨rfl, hX1, hb1⟩
  go_wp2_with (fail)
  refine (one_any X s _ 45 hs _ hX1).mono ?_
  rintro e w2 ⟨rfl, hX2, hb2⟩
  have hb3 := hb1.trans hb2 hb1.size
  have hx2 : (oneS s 45 (oneS s 45 x)).1 ≤ s.size := oneS_le (oneS_le hx)
  clear hX1 hb1 hb2
  obtain ⟨k, er, hk⟩ : ∃ k er, oneS s 45 (oneS s 45 x) = (k, er) := ⟨_, _, rfl⟩
  rw [hk] at hX2 hx2
  have HK := hide hk
  clear hk
  dsimp only at hx2
  go_wp2
  go_loopg [] (s.size + 1) (fun g wr => ∃ j, j ≤ s.size ∧ s.size < j + g ∧ remS s (k, er) = remS s (j, er) ∧ Blk wr X TS86 (stt s (j, er)) ∧ But w.heap.size X w wr)
  case atStart => exact ⟨k, hx2, by omega, rfl, hX2, hb3⟩
  case round =>
    obtain ⟨j, hj, hg, he, hB, hb⟩ := hrel
    have HE := hide he
    clear he hX2 hb3
    have d0 := hB.cell 0
    have d1 := hB.cell 1
    have d2 := hB.frozen 1
    have d3 := hB.cell 2
    simp at d0 d1 d3
    by_cases h0 : er = 0
    · subst h0
      have t0 : (((0 : Nat) : Int) == 0) = true := rfl
      have s0 : IntKind.i64.wrap ((j : Int) + 3) = (j : Int) + 3 := IntWalk.i64_in _ (by omega)
      have s1 : IntKind.i64.wrap ((j : Int) + 1) = (j : Int) + 1 := IntWalk.i64_in _ (by omega)
      by_cases h3 : j + 3 ≤ s.size
      · have t1 : decide ((s.size : Int) < (j : Int) + 3) = false := by simp; omega
        have i0 : (0 : Int) ≤ (j : Int) := by omega
        have i1 : (j : Int) ≤ (j : Int) + 3 := by omega
        have i2 : (j : Int) + 3 ≤ (s.size : Int) := by omega
        have i3 : ((j : Int) + 3).toNat = j + 3 := by omega
        have i4 : (j : Int).toNat = j := by omega
        by_cases hq : (s.extract j (j + 3)).toList = [45, 45, 62]
        · have HR := hide (remL_hit h3 hq)
          have t2 : ((s.extract j (j + 3)).toList == [45, 45, 62]) = true := by rw [hq]; rfl
          have s2 : ((j : Int) + 3) = ((j + 3 : Nat) : Int) := by simp
          clear hq s2
          go_wp2
          go_quiet (fail)
          go_wp2
          go_quiet (fail)
          go_wp2
          refine bodyPost_ret (v := .tuple #[]) (results_none rfl _ _ _) rfl ?_
          refine ⟨rfl, ?_, (hb.drewN _).self 1 _⟩
          rw [HK.out, HE.out]
          simp only [remS, if_true]
          rw [HR.out]
          have h1 := fun n => (hB.drewN n).set_ 1 (.int .i64 ((j : Int) + 3))
          simpa [exS, stt] using h1 _
        · have HR := hide (remL_miss h3 hq)
          have t2 : ((s.extract j (j + 3)).toList == [45, 45, 62]) = false := by simpa using hq
          clear hq
          go_wp2
          go_quiet (fail)
          go_wp2
          go_quiet (fail)
          go_wp2
          go_roundg (gk - 1)
          case measure => omega
          case rel =>
            refine ⟨j + 1, by omega, by omega, ?_, ?_, (hb.drewN _).self 1 _⟩
            · rw [HE.out]; simp only [remS, if_true]; rw [HR.out]
            · rw [stt_step]
              have h1 := fun n => (hB.drewN n).set_ 1 (.int .i64 ((j : Int) + 1))
              simpa using h1 _
      · have t1 : decide ((s.size : Int) < (j : Int) + 3) = true := by simp; omega
        have HR := hide (remL_end (s := s) (j := j) (by omega))
        go_wp2
        go_quiet (fail)
        go_wp2_with (fail)
        refine (tbad_any X s (j, 0) _ 16 _ (by repeat (first | exact hB | refine Blk.alloc ?_ _ | refine Blk.drewN ?_ _ | refine Blk.drew ?_))).mono ?_
        rintro e w4 ⟨rfl, hX4, hb4⟩
        go_wp2
        refine bodyPost_ret (v := .tuple #[]) (results_none rfl _ _ _) rfl ?_
        refine ⟨rfl, ?_, (hb.drewN _).trans hb4 hb.size⟩
        rw [HK.out, HE.out]
        simp only [remS, if_true]
        rw [HR.out]
        exact hX4
    · have t0 : ((er : Int) == 0) = false := by simp; omega
      have H0 := hide h0
      clear h0
      go_wp2
      refine bodyPost_end (results_none rfl _ _ _) rfl ?_
      refine ⟨rfl, ?_, hb⟩
      rw [HK.out, HE.out]
      simp only [remS, H0.out, if_false]
      exact hB
end Go.Proofs.Ytcblakflhheepaa
