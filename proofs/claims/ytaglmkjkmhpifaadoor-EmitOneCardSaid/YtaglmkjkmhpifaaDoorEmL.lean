/- Chapter 31: the law EmitOne. -/
import Derived.Test.YtaglmkjkmhpifaaDoorEmJ
import Derived.Test.YtaglmkjkmhpifaaDoorEmK
import Derived.Test.YtaglmkjkmhpifaaDoorPoolF
namespace Go.Proofs.YtaglmkjkmhpifaaDoor
open Go.RowKit
set_option linter.unusedVariables false
set_option linter.unusedSimpArgs false

/-- What Few says of a pool that lies below N. -/
def FewOk (N : Nat) (W : World) (A : Option Addr) (p1 p2 p3 p4 : Int) (L : List Dv) (v : Int) : Prop :=
  RdD W N A L ∧ L.length ≤ 6000000000000 ∧ (∀ d ∈ L, d.2.2.2.2.length ≤ 6000000000000) ∧ fewV (p1, p2, p3, p4, L) = v
theorem few_in (N : Nat) (W : World) (A : Option Addr) (cap : Nat) (p1 p2 p3 p4 : Int) (L : List Dv) (v : Int) (h : FewOk N W A p1 p2 p3 p4 L v) (hN : N ≤ W.heap.size) (wz : World) (hz : Below N W wz) :
    Calls Tryd.prog 11 #[.agg #[.int .i64 p1, .int .i64 p2, .int .i64 p3, .int .i64 p4, .slice A L.length cap]] wz fun e w' => e = .returned (.int .i64 v) ∧ Below N wz w' := by
  obtain ⟨h1, h2, h3, h4⟩ := h
  rw [← h4]
  exact (few18_any A cap (p1, p2, p3, p4, L) N wz (by have := hz.size; omega) (h1.below hz) h2 h3).mono fun e w' ⟨q1, q2⟩ => ⟨q1, q2.mono (by have := hz.size; omega)⟩
def SameOk (N : Nat) (W : World) (A A' : Option Addr) (p1 p2 p3 p4 : Int) (L : List Dv) (q1 q2 q3 q4 : Int) (L' : List Dv) (v : Bool) : Prop :=
  RdD W N A L ∧ RdD W N A' L' ∧ L.length ≤ 1000000 ∧ (∀ d ∈ L, d.2.2.2.2.length ≤ 1000000) ∧ decide (((p1, p2, p3, p4, L) : Pl) = (q1, q2, q3, q4, L')) = v
theorem same_in (N : Nat) (W : World) (A A' : Option Addr) (cap cap' : Nat) (p1 p2 p3 p4 : Int) (L : List Dv) (q1 q2 q3 q4 : Int) (L' : List Dv) (v : Bool) (h : SameOk N W A A' p1 p2 p3 p4 L q1 q2 q3 q4 L' v) (hN : N ≤ W.heap.size) (wz : World) (hz : Below N W wz) :
    Calls Tryd.prog 16 #[.agg #[.int .i64 p1, .int .i64 p2, .int .i64 p3, .int .i64 p4, .slice A L.length cap], .agg #[.int .i64 q1, .int .i64 q2, .int .i64 q3, .int .i64 q4, .slice A' L'.length cap']] wz fun e w' => e = .returned (.bool v) ∧ Below N wz w' := by
  obtain ⟨h1, h2, h3, h4, h5⟩ := h
  exact (sameP_is A A' cap cap' (p1, p2, p3, p4, L) (q1, q2, q3, q4, L') N wz (by have := hz.size; omega) (h1.below hz) (h2.below hz) h3 h4 v h5).mono fun e w' ⟨q1, q2⟩ => ⟨q1, q2.mono (by have := hz.size; omega)⟩
theorem poolL_ne (p : Pl) : (poolL p) ≠ [] := by simp [poolL, lineL]
theorem poolL_emp (p : Pl) : (⟨(poolL p).toArray⟩ : ByteArray).toList.isEmpty = false := by
  rw [Lib.toList_data]
  have := poolL_ne p
  cases h : poolL p with
  | nil => exact absurd h this
  | cons a l => rfl
theorem emitOf_ok {p : Pl} (h : chkE p = 0) : emitOf p = (⟨(poolL p).toArray⟩, 0) := by simp [emitOf, h]
theorem emitOf_bad {p : Pl} {v : Int} (h : chkE p = v) (hv : v ≠ 0) : emitOf p = (⟨#[]⟩, v) := by simp [emitOf, h, hv]
theorem emit_eq {p q : Pl} (v : Bool) (h : decide (p = q) = v) : ((⟨(poolL p).toArray⟩ : ByteArray).data.toList == (⟨(poolL q).toArray⟩ : ByteArray).data.toList) = v := by
  rw [← h, Bool.eq_iff_iff]
  simp
  exact ⟨fun hh => pool_inj (by simpa using hh), fun hh => by rw [hh]⟩

set_option maxRecDepth 100000 in
set_option maxHeartbeats 8000000 in
theorem emitOne_any (A A' : Option Addr) (cap cap' : Nat) (p q : Pl) (w : World) (ht : Tab w) (h : RdD w w.heap.size A p.2.2.2.2) (hl : p.2.2.2.2.length ≤ 6000000000000) (hm : ∀ d ∈ p.2.2.2.2, d.2.2.2.2.length ≤ 6000000000000)
    (h' : RdD w w.heap.size A' q.2.2.2.2) (hl' : q.2.2.2.2.length ≤ 6000000000000) (hm' : ∀ d ∈ q.2.2.2.2, d.2.2.2.2.length ≤ 6000000000000) :
    Calls Tryd.prog 5 #[.agg #[.int .i64 p.1, .int .i64 p.2.1, .int .i64 p.2.2.1, .int .i64 p.2.2.2.1, .slice A p.2.2.2.2.length cap], .agg #[.int .i64 q.1, .int .i64 q.2.1, .int .i64 q.2.2.1, .int .i64 q.2.2.2.1, .slice A' q.2.2.2.2.length cap']] w
      fun e w' => e = .returned (.bool true) ∧ Below w.heap.size w w' := by
  obtain ⟨p1, p2, p3, p4, L⟩ := p
  obtain ⟨q1, q2, q3, q4, L'⟩ := q
  dsimp only at h hl hm h' hl' hm' ⊢
  have HM := hide hm
  have HM' := hide hm'
  have hp := ht.pos
  have HT := hide ht
  clear ht hm hm'
  have hT := (Blk.new w 32 #[.int .i64 p1, .int .i64 p2, .int .i64 p3, .int .i64 p4, .slice A L.length cap]).alloc (.cells #[.int .i64 q1, .int .i64 q2, .int .i64 q3, .int .i64 q4, .slice A' L'.length cap'] 32)
  have hU : Blk ((w.alloc (.cells #[.int .i64 p1, .int .i64 p2, .int .i64 p3, .int .i64 p4, .slice A L.length cap] 32)).alloc (.cells #[.int .i64 q1, .int .i64 q2, .int .i64 q3, .int .i64 q4, .slice A' L'.length cap'] 32)) (w.heap.size + 1) 32 #[.int .i64 q1, .int .i64 q2, .int .i64 q3, .int .i64 q4, .slice A' L'.length cap'] := heap_new_at (by simp)
  have hW : Below w.heap.size w ((w.alloc (.cells #[.int .i64 p1, .int .i64 p2, .int .i64 p3, .int .i64 p4, .slice A L.length cap] 32)).alloc (.cells #[.int .i64 q1, .int .i64 q2, .int .i64 q3, .int .i64 q4, .slice A' L'.length cap'] 32)) := (by repeat (first | exact Below.refl _ _ | refine Below.alloc ?_ (by first | (simp; omega) | simp | omega) _ | refine drewN_below ?_ _ | refine Below.drew ?_))
  have hTl := hT.lt
  have hUl := hU.lt
  have hs1 := hW.size
  obtain ⟨v1, hv1⟩ : ∃ v, fewV (p1, p2, p3, p4, L) = v := ⟨_, rfl⟩
  obtain ⟨v2, hv2⟩ : ∃ v, fewV (q1, q2, q3, q4, L') = v := ⟨_, rfl⟩
  have F1 := hide (And.intro hl (And.intro HM.out hv1))
  have F2 := hide (And.intro hl' (And.intro HM'.out hv2))
  have hdich : ∀ x : Pl, (fewV x = 1 ∧ x.2.2.2.2.length ≤ 200 ∧ cntL x.2.2.2.2 ≤ 2000) ∨ fewV x = 0 := fun x => by
    by_cases hf : fewP x = true
    · exact .inl ⟨by simp [fewV, hf], fewP_true hf⟩
    · exact .inr (by simp [fewV, hf])
  have e1 := hdich (p1, p2, p3, p4, L)
  have e2 := hdich (q1, q2, q3, q4, L')
  rw [hv1] at e1
  rw [hv2] at e2
  clear hdich hv1 hv2 hl hl'
  dsimp only at e1 e2
  go_enter Tryd.func5, Tryd.ntmps5
  go_wp2_with (fail)
  generalize ((w.alloc (.cells #[.int .i64 p1, .int .i64 p2, .int .i64 p3, .int .i64 p4, .slice A L.length cap] 32)).alloc (.cells #[.int .i64 q1, .int .i64 q2, .int .i64 q3, .int .i64 q4, .slice A' L'.length cap'] 32)) = w1 at *
  refine (few_in w1.heap.size w1 A cap p1 p2 p3 p4 L v1 ⟨(h.below hW).mono hs1, F1.out⟩ (Nat.le_refl _) _ (Below.refl _ _)).mono ?_
  rintro e w2 ⟨rfl, hb2⟩
  have hT2 := hT.below hb2 hTl
  have hU2 := hU.below hb2 hUl
  have hW2 := hW.trans (hb2.mono hs1)
  clear hT hU hW
  have hTl2 := hT2.lt
  have hUl2 := hU2.lt
  have hs2 := hW2.size
  rcases e1 with ⟨rfl, hf1, hf2⟩ | rfl
  · have d0 := hU2.cell 0
    have d1 := hU2.cell 1
    have d2 := hU2.cell 2
    have d3 := hU2.cell 3
    have d4 := hU2.cell 4
    simp at d0 d1 d2 d3 d4
    go_wp2_with (fail)
    refine (few_in w2.heap.size w2 A' cap' q1 q2 q3 q4 L' v2 ⟨(h'.below hW2).mono hs2, F2.out⟩ (Nat.le_refl _) _ (Below.refl _ _)).mono ?_
    rintro e w3 ⟨rfl, hb3⟩
    have hT3 := hT2.below hb3 hTl2
    have hU3 := hU2.below hb3 hUl2
    have hW3 := hW2.trans (hb3.mono hs2)
    clear hT2 hU2 hW2 d0 d1 d2 d3 d4 hb2 hb3
    have hTl3 := hT3.lt
    have hUl3 := hU3.lt
    have hs3 := hW3.size
    rcases e2 with ⟨rfl, hf3, hf4⟩ | rfl
    · have c0 := hT3.cell 0
      have c1 := hT3.cell 1
      have c2 := hT3.cell 2
      have c3 := hT3.cell 3
      have c4 := hT3.cell 4
      simp at c0 c1 c2 c3 c4
      go_wp2_with (fail)
      clear c0 c1 c2 c3 c4
      refine (emit_any A cap (p1, p2, p3, p4, L) w3 (HT.out.below hW3 hp) ((h.below hW3).mono hs3) (by dsimp only; omega) (by dsimp only; omega)).mono ?_
      rintro e w4 ⟨rfl, hb4⟩
      obtain ⟨s, f, hsf⟩ : ∃ s f, emitOf (p1, p2, p3, p4, L) = (s, f) := ⟨_, _, rfl⟩
      have HSF := hide hsf
      rw [hsf]
      clear hsf
      dsimp only
      have hT4 := hT3.below hb4 hTl3
      have hU4 := hU3.below hb4 hUl3
      have hW4 := hW3.trans (hb4.mono hs3)
      clear hT3 hU3 hW3 hb4
      have hTl4 := hT4.lt
      have hUl4 := hU4.lt
      have hs4 := hW4.size
      have c0 := hU4.cell 0
      have c1 := hU4.cell 1
      have c2 := hU4.cell 2
      have c3 := hU4.cell 3
      have c4 := hU4.cell 4
      simp at c0 c1 c2 c3 c4
      go_wp2_with (fail)
      clear c0 c1 c2 c3 c4
      refine (emit_any A' cap' (q1, q2, q3, q4, L') w4 (HT.out.below hW4 hp) ((h'.below hW4).mono hs4) (by dsimp only; omega) (by dsimp only; omega)).mono ?_
      rintro e w5 ⟨rfl, hb5⟩
      obtain ⟨t, g, htg⟩ : ∃ s f, emitOf (q1, q2, q3, q4, L') = (s, f) := ⟨_, _, rfl⟩
      have HTG := hide htg
      rw [htg]
      clear htg
      dsimp only
      have hT5 := hT4.below hb5 hTl4
      have hU5 := hU4.below hb5 hUl4
      have hW5 := hW4.trans (hb5.mono hs4)
      clear hT4 hU4 hW4 hb5
      have hTl5 := hT5.lt
      have hUl5 := hU5.lt
      have hs5 := hW5.size
      have c0 := hT5.cell 0
      have c1 := hT5.cell 1
      have c2 := hT5.cell 2
      have c3 := hT5.cell 3
      have c4 := hT5.cell 4
      have d0 := hU5.cell 0
      have d1 := hU5.cell 1
      have d2 := hU5.cell 2
      have d3 := hU5.cell 3
      have d4 := hU5.cell 4
      simp at c0 c1 c2 c3 c4 d0 d1 d2 d3 d4
      have hTR := HT.out.below hW5 hp
      have HTR := hide hTR
      have hpr : 1 < w5.heap.size := by omega
      clear hTR
      by_cases hz1 : chkE (p1, p2, p3, p4, L) = 0
      · have e1 := emitOf_ok hz1
        rw [HSF.out] at e1
        obtain ⟨rfl, rfl⟩ := Prod.mk.inj e1
        by_cases hz2 : chkE (q1, q2, q3, q4, L') = 0
        · have e2 := emitOf_ok hz2
          rw [HTG.out] at e2
          obtain ⟨rfl, rfl⟩ := Prod.mk.inj e2
          obtain ⟨v, hv⟩ : ∃ v, decide (((p1, p2, p3, p4, L) : Pl) = (q1, q2, q3, q4, L')) = v := ⟨_, rfl⟩
          have hm6 : ∀ d ∈ L, d.2.2.2.2.length ≤ 1000000 := fun d hd => by
            obtain ⟨k, hk⟩ := List.getElem?_of_mem hd
            have := len_cntL hk
            omega
          have FS : SameOk w5.heap.size w5 A A' p1 p2 p3 p4 L q1 q2 q3 q4 L' v := ⟨(h.below hW5).mono hs5, (h'.below hW5).mono hs5, by omega, hm6, hv⟩
          have hEQ := emit_eq v hv
          obtain ⟨s1, hs1'⟩ : ∃ s1, (⟨(poolL (p1, p2, p3, p4, L)).toArray⟩ : ByteArray) = s1 := ⟨_, rfl⟩
          obtain ⟨s2, hs2'⟩ : ∃ s2, (⟨(poolL (q1, q2, q3, q4, L')).toArray⟩ : ByteArray) = s2 := ⟨_, rfl⟩
          rw [hs1', hs2'] at hEQ
          rw [hs1', hs2']
          rw [← Lib.toList_data, ← Lib.toList_data] at hEQ
          clear hs1' hs2' e1 e2 hz1 hz2 HSF HTG hm6 hv
          go_wp2_with (fail)
          refine (same_in w5.heap.size w5 A A' cap cap' p1 p2 p3 p4 L q1 q2 q3 q4 L' v FS (Nat.le_refl _) _ (Below.refl _ _)).mono ?_
          rintro e w6 ⟨rfl, hb6⟩
          have hw6 := hW5.trans (hb6.mono hs5)
          have hT6 := HTR.out.below hb6 hpr
          clear c0 c1 c2 c3 c4 d0 d1 d2 d3 d4 FS hT5 hU5
          cases v
          all_goals
            go_wp2_with (fail)
            refine (lives31_any _ hT6).mono ?_
            rintro e w7 ⟨rfl, hb7⟩
            have hw7 := hw6.trans (hb7.mono hw6.size)
            go_wp2
            go_ret
            exact ⟨rfl, hw7⟩
        · obtain ⟨v2, hv2⟩ : ∃ v, chkE (q1, q2, q3, q4, L') = v := ⟨_, rfl⟩
          have e2 := emitOf_bad hv2 (by rw [← hv2]; exact hz2)
          rw [HTG.out] at e2
          obtain ⟨rfl, rfl⟩ := Prod.mk.inj e2
          have hnz : g ≠ 0 := by rw [← hv2]; exact hz2
          have y0 : (g != 0) = true := by simpa using hnz
          have hne := poolL_emp (p1, p2, p3, p4, L)
          obtain ⟨s1, hs1'⟩ : ∃ s1, (⟨(poolL (p1, p2, p3, p4, L)).toArray⟩ : ByteArray) = s1 := ⟨_, rfl⟩
          rw [hs1'] at hne
          rw [hs1']
          clear e1 e2 hs1' hv2 hz1 hz2 HSF HTG hnz c0 c1 c2 c3 c4 d0 d1 d2 d3 d4 hT5 hU5
          go_wp2_with (fail)
          refine (lives31_any _ HTR.out).mono ?_
          rintro e w7 ⟨rfl, hb7⟩
          have hw7 := hW5.trans (hb7.mono hs5)
          go_wp2
          go_ret
          exact ⟨rfl, hw7⟩
      · obtain ⟨v1, hv1⟩ : ∃ v, chkE (p1, p2, p3, p4, L) = v := ⟨_, rfl⟩
        have e1 := emitOf_bad hv1 (by rw [← hv1]; exact hz1)
        rw [HSF.out] at e1
        obtain ⟨rfl, rfl⟩ := Prod.mk.inj e1
        have hnz : f ≠ 0 := by rw [← hv1]; exact hz1
        have y0 : (f != 0) = true := by simpa using hnz
        clear e1 hv1 hz1 hnz c0 c1 c2 c3 c4 d0 d1 d2 d3 d4 hT5 hU5
        by_cases hz2 : chkE (q1, q2, q3, q4, L') = 0
        · have e2 := emitOf_ok hz2
          rw [HTG.out] at e2
          obtain ⟨rfl, rfl⟩ := Prod.mk.inj e2
          have hne := poolL_emp (q1, q2, q3, q4, L')
          obtain ⟨s1, hs1'⟩ : ∃ s1, (⟨(poolL (q1, q2, q3, q4, L')).toArray⟩ : ByteArray) = s1 := ⟨_, rfl⟩
          rw [hs1'] at hne
          rw [hs1']
          clear e2 hs1' hz2 HSF HTG
          go_wp2_with (fail)
          refine (lives31_any _ HTR.out).mono ?_
          rintro e w7 ⟨rfl, hb7⟩
          have hw7 := hW5.trans (hb7.mono hs5)
          go_wp2
          go_ret
          exact ⟨rfl, hw7⟩
        · obtain ⟨v2, hv2⟩ : ∃ v, chkE (q1, q2, q3, q4, L') = v := ⟨_, rfl⟩
          have e2 := emitOf_bad hv2 (by rw [← hv2]; exact hz2)
          rw [HTG.out] at e2
          obtain ⟨rfl, rfl⟩ := Prod.mk.inj e2
          have hnz : g ≠ 0 := by rw [← hv2]; exact hz2
          have y1 : (g != 0) = true := by simpa using hnz
          clear e2 hv2 hz2 HSF HTG hnz
          go_wp2_with (fail)
          refine (lives31_any _ HTR.out).mono ?_
          rintro e w7 ⟨rfl, hb7⟩
          have hw7 := hW5.trans (hb7.mono hs5)
          go_wp2
          go_ret
          exact ⟨rfl, hw7⟩
    · go_wp2_with (fail)
      refine (lives31_any _ (HT.out.below hW3 hp)).mono ?_
      rintro e w4 ⟨rfl, hb4⟩
      have hw4 := hW3.trans (hb4.mono hs3)
      go_wp2
      go_ret
      exact ⟨rfl, hw4⟩
  · go_wp2_with (fail)
    refine (lives31_any _ (HT.out.below hW2 hp)).mono ?_
    rintro e w3 ⟨rfl, hb3⟩
    have hw3 := hW2.trans (hb3.mono hs2)
    go_wp2
    go_ret
    exact ⟨rfl, hw3⟩
end Go.Proofs.YtaglmkjkmhpifaaDoor
