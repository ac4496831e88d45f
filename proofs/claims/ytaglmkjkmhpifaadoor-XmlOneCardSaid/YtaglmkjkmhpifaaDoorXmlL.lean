/- Chapter 42: the law XmlOne. -/
import Derived.Test.YtaglmkjkmhpifaaDoorXmlJ
import Derived.Test.YtaglmkjkmhpifaaDoorXmlK
import Derived.Test.YtaglmkjkmhpifaaDoorPoolC
import Derived.Test.YtaglmkjkmhpifaaDoorPoolF
namespace Go.Proofs.YtaglmkjkmhpifaaDoor
open Go.RowKit
set_option linter.unusedVariables false
set_option linter.unusedSimpArgs false

/-- What Few says of a pool that lies below N. -/
def FewOk (N : Nat) (W : World) (A : Option Addr) (p1 p2 p3 p4 : Int) (L : List Dv) (v : Int) : Prop :=
  RdD W N A L ∧ L.length ≤ 6000000000000 ∧ (∀ d ∈ L, d.2.2.2.2.length ≤ 6000000000000) ∧ fewV (p1, p2, p3, p4, L) = v
theorem few_in (N : Nat) (W : World) (A : Option Addr) (cap : Nat) (p1 p2 p3 p4 : Int) (L : List Dv) (v : Int) (h : FewOk N W A p1 p2 p3 p4 L v) (hN : N ≤ W.heap.size) (wz : World) (hz : Below N W wz) :
    Calls Tryd.prog 11 #[.agg #[.int .i64 p1, .int .i64 p2, .int .i64 p3, .int .i64 p4, .slice A L.length cap]] wz fun e w' => e = .returned (.int .i64 v) ∧ Below N wz w' := by
  obtain ⟨h1, h2, h3, h4⟩ := h
  rw [← h4]
  exact (few18_any A cap (p1, p2, p3, p4, L) N wz (by have := hz.size; omega) (h1.below hz) h2 h3).mono fun e w' ⟨q1, q2⟩ => ⟨q1, q2.mono (by have := hz.size; omega)⟩
def SameOk (N : Nat) (W : World) (A A' : Option Addr) (p1 p2 p3 p4 : Int) (L : List Dv) (q1 q2 q3 q4 : Int) (L' : List Dv) (v : Bool) : Prop :=
  RdD W N A L ∧ RdD W N A' L' ∧ L.length ≤ 1000000 ∧ (∀ d ∈ L, d.2.2.2.2.length ≤ 1000000) ∧ decide (((p1, p2, p3, p4, L) : Pl) = (q1, q2, q3, q4, L')) = v
theorem same_in (N : Nat) (W : World) (A A' : Option Addr) (cap cap' : Nat) (p1 p2 p3 p4 : Int) (L : List Dv) (q1 q2 q3 q4 : Int) (L' : List Dv) (v : Bool) (h : SameOk N W A A' p1 p2 p3 p4 L q1 q2 q3 q4 L' v) (hN : N ≤ W.heap.size) (wz : World) (hz : Below N W wz) :
    Calls Tryd.prog 16 #[.agg #[.int .i64 p1, .int .i64 p2, .int .i64 p3, .int .i64 p4, .slice A L.length cap], .agg #[.int .i64 q1, .int .i64 q2, .int .i64 q3, .int .i64 q4, .slice A' L'.length cap']] wz fun e w' => e = .returned (.bool v) ∧ Below N wz w' := by
  obtain ⟨h1, h2, h3, h4, h5⟩ := h
  exact (sameP_is A A' cap cap' (p1, p2, p3, p4, L) (q1, q2, q3, q4, L') N wz (by have := hz.size; omega) (h1.below hz) (h2.below hz) h3 h4 v h5).mono fun e w' ⟨q1, q2⟩ => ⟨q1, q2.mono (by have := hz.size; omega)⟩
theorem xmlL_ne (p : Pl) : (xmlL p) ≠ [] := by
  intro h
  have := congrArg List.length h
  simp [xmlL, xmlTs, itxt, indT, ttxt, opn, headT] at this
theorem xmlOf_ok {p : Pl} (h : chkE p = 0) : xmlOf p = (⟨(xmlL p).toArray⟩, 0) := if_pos h
theorem xmlOf_bad {p : Pl} {v : Int} (h : chkE p = v) (hv : v ≠ 0) : xmlOf p = (⟨#[]⟩, v) := by rw [← h] at hv ⊢; exact if_neg hv
theorem xmlL_emp (p : Pl) : (⟨(xmlL p).toArray⟩ : ByteArray).toList.isEmpty = false := by
  rw [Lib.toList_data]
  have := xmlL_ne p
  cases h : xmlL p with
  | nil => exact absurd h this
  | cons a l => rfl
theorem Own_at (A : Option Addr) (n cap : Nat) (L : List Ti) (hn : n = L.length) (B : Nat) (w : World) (hB : B ≤ w.heap.size) (h : RdI w B A L) (hl : L.length ≤ 5000000) (hla : ∀ t ∈ L, t.2.2.1.length ≤ 5000000) :
    Calls Tryd.prog 23 #[.slice A n cap] w fun e w' => ∃ v rows, e = .returned v ∧ Own w' w.heap.size RTag 4 ric v rows ∧ MtI RAttr w' w.heap.size rows L ∧ Below w.heap.size w w' := by
  subst hn; exact Own_any A cap L B w hB h hl hla
theorem xml_eq {p q : Pl} (v : Bool) (h : decide (p = q) = v) : ((⟨(xmlL p).toArray⟩ : ByteArray).toList == (⟨(xmlL q).toArray⟩ : ByteArray).toList) = v := by
  rw [← h, Bool.eq_iff_iff, Lib.toList_data, Lib.toList_data]
  simp
  exact ⟨fun hh => xml_inj (by simpa using hh), fun hh => by rw [hh]⟩

set_option maxRecDepth 100000 in
set_option maxHeartbeats 3000000 in
theorem xmlOne_any (A A' : Option Addr) (cap cap' : Nat) (p q : Pl) (w : World) (ht : Tab w) (hmx : MaxL w) (h : RdD w w.heap.size A p.2.2.2.2) (hl : p.2.2.2.2.length ≤ 6000000000000) (hm : ∀ d ∈ p.2.2.2.2, d.2.2.2.2.length ≤ 6000000000000)
    (h' : RdD w w.heap.size A' q.2.2.2.2) (hl' : q.2.2.2.2.length ≤ 6000000000000) (hm' : ∀ d ∈ q.2.2.2.2, d.2.2.2.2.length ≤ 6000000000000) :
    Calls Tryd.prog 7 #[.agg #[.int .i64 p.1, .int .i64 p.2.1, .int .i64 p.2.2.1, .int .i64 p.2.2.2.1, .slice A p.2.2.2.2.length cap], .agg #[.int .i64 q.1, .int .i64 q.2.1, .int .i64 q.2.2.1, .int .i64 q.2.2.2.1, .slice A' q.2.2.2.2.length cap']] w
      fun e w' => e = .returned (.bool true) ∧ Below w.heap.size w w' := by
  obtain ⟨p1, p2, p3, p4, L⟩ := p
  obtain ⟨q1, q2, q3, q4, L'⟩ := q
  dsimp only at h hl hm h' hl' hm' ⊢
  have HM := hide hm
  have HM' := hide hm'
  have hp := ht.pos
  have HT := hide ht
  clear ht hm hm'
  have hT := (Blk.new w 32 #[.int .i64 p1, .int .i64 p2, .int .i64 p3, .int .i64 p4, .slice A L.length cap]).alloc (.cells #[.int .i64 q1, .int .i64 q2, .int .i64 q3, .int .i64 q4, .slice A' L'.length cap'] 32)
  have hU : Blk ((w.alloc (.cells #[.int .i64 p1, .int .i64 p2, .int .i64 p3, .int .i64 p4, .slice A L.length cap] 32)).alloc (.cells #[.int .i64 q1, .int .i64 q2, .int .i64 q3, .int .i64 q4, .slice A' L'.length cap'] 32)) (w.heap.size + 1) 32 #[.int .i64 q1, .int .i64 q2, .int .i64 q3, .int .i64 q4, .slice A' L'.length cap'] := heap_new_at (by simp)
  have hW : Below w.heap.size w ((w.alloc (.cells #[.int .i64 p1, .int .i64 p2, .int .i64 p3, .int .i64 p4, .slice A L.length cap] 32)).alloc (.cells #[.int .i64 q1, .int .i64 q2, .int .i64 q3, .int .i64 q4, .slice A' L'.length cap'] 32)) := (by repeat (first | exact Below.refl _ _ | refine Below.alloc ?_ (by first | (simp; omega) | simp | omega) _ | refine drewN_below ?_ _ | refine Below.drew ?_))
  have hTl := hT.lt
  have hUl := hU.lt
  have hs1 := hW.size
  obtain ⟨v1, hv1⟩ : ∃ v, fewV (p1, p2, p3, p4, L) = v := ⟨_, rfl⟩
  obtain ⟨v2, hv2⟩ : ∃ v, fewV (q1, q2, q3, q4, L') = v := ⟨_, rfl⟩
  have F1 := hide (And.intro hl (And.intro HM.out hv1))
  have F2 := hide (And.intro hl' (And.intro HM'.out hv2))
  have hdich : ∀ x : Pl, (fewV x = 1 ∧ x.2.2.2.2.length ≤ 200 ∧ cntL x.2.2.2.2 ≤ 2000) ∨ fewV x = 0 := fun x => by
    by_cases hf : fewP x = true
    · exact .inl ⟨by simp [fewV, hf], fewP_true hf⟩
    · exact .inr (by simp [fewV, hf])
  have e1 := hdich (p1, p2, p3, p4, L)
  have e2 := hdich (q1, q2, q3, q4, L')
  rw [hv1] at e1
  rw [hv2] at e2
  clear hdich hv1 hv2 hl hl'
  dsimp only at e1 e2
  go_enter Tryd.func7, Tryd.ntmps7
  go_wp2_with (fail)
  generalize ((w.alloc (.cells #[.int .i64 p1, .int .i64 p2, .int .i64 p3, .int .i64 p4, .slice A L.length cap] 32)).alloc (.cells #[.int .i64 q1, .int .i64 q2, .int .i64 q3, .int .i64 q4, .slice A' L'.length cap'] 32)) = w1 at *
  refine (few_in w1.heap.size w1 A cap p1 p2 p3 p4 L v1 ⟨(h.below hW).mono hs1, F1.out⟩ (Nat.le_refl _) _ (Below.refl _ _)).mono ?_
  rintro e w2 ⟨rfl, hb2⟩
  have hT2 := hT.below hb2 hTl
  have hU2 := hU.below hb2 hUl
  have hW2 := hW.trans (hb2.mono hs1)
  clear hT hU hW
  have hTl2 := hT2.lt
  have hUl2 := hU2.lt
  have hs2 := hW2.size
  rcases e1 with ⟨rfl, hf1, hf2⟩ | rfl
  · have d0 := hU2.cell 0
    have d1 := hU2.cell 1
    have d2 := hU2.cell 2
    have d3 := hU2.cell 3
    have d4 := hU2.cell 4
    simp at d0 d1 d2 d3 d4
    go_wp2_with (fail)
    refine (few_in w2.heap.size w2 A' cap' q1 q2 q3 q4 L' v2 ⟨(h'.below hW2).mono hs2, F2.out⟩ (Nat.le_refl _) _ (Below.refl _ _)).mono ?_
    rintro e w3 ⟨rfl, hb3⟩
    have hT3 := hT2.below hb3 hTl2
    have hU3 := hU2.below hb3 hUl2
    have hW3 := hW2.trans (hb3.mono hs2)
    clear hT2 hU2 hW2 d0 d1 d2 d3 d4 hb2 hb3
    have hTl3 := hT3.lt
    have hUl3 := hU3.lt
    have hs3 := hW3.size
    rcases e2 with ⟨rfl, hf3, hf4⟩ | rfl
    · have c0 := hT3.cell 0
      have c1 := hT3.cell 1
      have c2 := hT3.cell 2
      have c3 := hT3.cell 3
      have c4 := hT3.cell 4
      simp at c0 c1 c2 c3 c4
      go_wp2_with (fail)
      clear c0 c1 c2 c3 c4
      refine (xemit_any A cap (p1, p2, p3, p4, L) w3 (HT.out.below hW3 hp) ((h.below hW3).mono hs3) (by dsimp only; omega) (by dsimp only; omega)).mono ?_
      rintro e w4 ⟨rfl, hb4⟩
      obtain ⟨s, f, hsf⟩ : ∃ s f, xmlOf (p1, p2, p3, p4, L) = (s, f) := ⟨_, _, rfl⟩
      have HSF := hide hsf
      rw [hsf]
      clear hsf
      dsimp only
      have hT4 := hT3.below hb4 hTl3
      have hU4 := hU3.below hb4 hUl3
      have hW4 := hW3.trans (hb4.mono hs3)
      clear hT3 hU3 hW3 hb4
      have hTl4 := hT4.lt
      have hUl4 := hU4.lt
      have hs4 := hW4.size
      have c0 := hU4.cell 0
      have c1 := hU4.cell 1
      have c2 := hU4.cell 2
      have c3 := hU4.cell 3
      have c4 := hU4.cell 4
      simp at c0 c1 c2 c3 c4
      go_wp2_with (fail)
      clear c0 c1 c2 c3 c4
      refine (xemit_any A' cap' (q1, q2, q3, q4, L') w4 (HT.out.below hW4 hp) ((h'.below hW4).mono hs4) (by dsimp only; omega) (by dsimp only; omega)).mono ?_
      rintro e w5 ⟨rfl, hb5⟩
      obtain ⟨t, g, htg⟩ : ∃ s f, xmlOf (q1, q2, q3, q4, L') = (s, f) := ⟨_, _, rfl⟩
      have HTG := hide htg
      rw [htg]
      clear htg
      dsimp only
      have hT5 := hT4.below hb5 hTl4
      have hU5 := hU4.below hb5 hUl4
      have hW5 := hW4.trans (hb5.mono hs4)
      clear hT4 hU4 hW4 hb5
      have hTl5 := hT5.lt
      have hUl5 := hU5.lt
      have hs5 := hW5.size
      have c0 := hT5.cell 0
      have c1 := hT5.cell 1
      have c2 := hT5.cell 2
      have c3 := hT5.cell 3
      have c4 := hT5.cell 4
      have d0 := hU5.cell 0
      have d1 := hU5.cell 1
      have d2 := hU5.cell 2
      have d3 := hU5.cell 3
      have d4 := hU5.cell 4
      simp at c0 c1 c2 c3 c4 d0 d1 d2 d3 d4
      have hTR := HT.out.below hW5 hp
      have HTR := hide hTR
      have hpr : 1 < w5.heap.size := by omega
      clear hTR
      by_cases hz1 : chkE (p1, p2, p3, p4, L) = 0
      · have e1 := xmlOf_ok hz1
        rw [HSF.out] at e1
        obtain ⟨rfl, rfl⟩ := Prod.mk.inj e1
        by_cases hz2 : chkE (q1, q2, q3, q4, L') = 0
        · have e2 := xmlOf_ok hz2
          rw [HTG.out] at e2
          obtain ⟨rfl, rfl⟩ := Prod.mk.inj e2
          obtain ⟨v, hv⟩ : ∃ v, decide (((p1, p2, p3, p4, L) : Pl) = (q1, q2, q3, q4, L')) = v := ⟨_, rfl⟩
          have hm6 : ∀ d ∈ L, d.2.2.2.2.length ≤ 1000000 := fun d hd => by
            obtain ⟨k, hk⟩ := List.getElem?_of_mem hd
            have := len_cntL hk
            omega
          have FS : SameOk w5.heap.size w5 A A' p1 p2 p3 p4 L q1 q2 q3 q4 L' v := ⟨(h.below hW5).mono hs5, (h'.below hW5).mono hs5, by omega, hm6, hv⟩
          have hEQ := xml_eq v hv
          have HM6 := hide hm6
          have HV := hide hv
          have htg := tags42_gen A cap (p1, p2, p3, p4, L) w5 HTR.out ((h.below hW5).mono hs5) hf2 hf1
          have hxs := xmlOf_size (p := (p1, p2, p3, p4, L)) hf2 hf1
          rw [xmlOf_ok hz1] at htg hxs
          dsimp only at htg hxs
          have hmx5 := hmx.below hW5 hmx.pos
          obtain ⟨s1, hs1'⟩ : ∃ s1, (⟨(xmlL (p1, p2, p3, p4, L)).toArray⟩ : ByteArray) = s1 := ⟨_, rfl⟩
          obtain ⟨s2, hs2'⟩ : ∃ s2, (⟨(xmlL (q1, q2, q3, q4, L')).toArray⟩ : ByteArray) = s2 := ⟨_, rfl⟩
          rw [hs1', hs2'] at hEQ
          rw [hs1'] at htg hxs
          rw [hs1', hs2']
          have HTGS := hide htg
          clear hs1' hs2' e1 e2 hz1 hz2 HSF HTG hm6 hv htg
          go_wp2_with (fail)
          refine HTGS.out.mono ?_
          rintro e w6 ⟨A2, cap2, T, rfl, hR6, hb6, hTn, hTa, L2, hLp, hLe⟩
          have hT6 := hT5.below hb6 hTl5
          have hU6 := hU5.below hb6 hUl5
          have hW6 := hW5.trans (hb6.mono hs5)
          have hs6 := hW6.size
          have hs56 := hb6.size
          have hTl6 := hT6.lt
          have hUl6 := hU6.lt
          have HLE := hide hLe
          have HTA := hide hTa
          have HR6 := hide hR6
          have htt := Tags_any s1 hxs w6 (hmx.below hW6 hmx.pos)
          rw [hLp] at htt
          have HTT := hide htt
          clear c0 c1 c2 c3 c4 d0 d1 d2 d3 d4 hT5 hU5 hLe hTa hR6 htt hLp HTGS FS
          go_wp2_with (fail)
          refine HTT.out.mono ?_
          rintro e w7 ⟨v7, rows7, rfl, hO7, hM7, hb7⟩
          obtain ⟨A7, n7, cap7, rfl, -, -⟩ := hO7.rd trc_len
          obtain ⟨hn7, hR7⟩ := rdI_of hO7 hM7
          obtain ⟨M, hMM⟩ : ∃ M, L2.map tOf = M := ⟨_, rfl⟩
          rw [hMM] at hn7 hR7
          have hLe := HLE.out
          rw [hMM] at hLe
          have HLE := hide hLe
          have hT7 := hT6.below hb7 hTl6
          have hU7 := hU6.below hb7 hUl6
          have hW7 := hW6.trans (hb7.mono hs6)
          have hs7 := hW7.size
          have hs67 := hb7.size
          have hTl7 := hT7.lt
          have hUl7 := hU7.lt
          have HR6' := hide ((HR6.out.below hb7).mono hs67)
          have HR7 := hide hR7
          have HN7 := hide hn7
          have FS : SameOk w7.heap.size w7 A A' p1 p2 p3 p4 L q1 q2 q3 q4 L' v := ⟨(h.below hW7).mono hs7, (h'.below hW7).mono hs7, by omega, HM6.out, HV.out⟩
          clear hO7 hM7 hb7 hn7 hR7 hMM hLe hT6 hU6 HTT HR6 hb6
          have c0 := hT7.cell 0
          have c1 := hT7.cell 1
          have c2 := hT7.cell 2
          have c3 := hT7.cell 3
          have c4 := hT7.cell 4
          have d0 := hU7.cell 0
          have d1 := hU7.cell 1
          have d2 := hU7.cell 2
          have d3 := hU7.cell 3
          have d4 := hU7.cell 4
          simp at c0 c1 c2 c3 c4 d0 d1 d2 d3 d4
          go_wp2_with (fail)
          refine (same_in w7.heap.size w7 A A' cap cap' p1 p2 p3 p4 L q1 q2 q3 q4 L' v FS (Nat.le_refl _) _ (Below.refl _ _)).mono ?_
          rintro e w8 ⟨rfl, hb8⟩
          have hW8 := hW7.trans (hb8.mono hs7)
          have hs8 := hW8.size
          have hs78 := hb8.size
          have HR8 := hide (HR6'.out.below hb8)
          have HRK := hide (HR7.out.below hb8)
          clear c0 c1 c2 c3 c4 d0 d1 d2 d3 d4 FS hT7 hU7 hb8 HR6' HR7
          have hLl : M.length = T.length := by have := congrArg List.length HLE.out; simpa using this
          have hLa : ∀ t ∈ M, t.2.2.1.length ≤ 5000000 := by
            intro t ht
            obtain ⟨i, hi⟩ := List.getElem?_of_mem ht
            obtain ⟨t', ht'⟩ := get_of_lt (show i < T.length by have := lt_of_get hi; omega)
            have h1 := congrArg (fun l => l[i]?) HLE.out
            have h2 : eraT t = eraT t' := by simpa [hi, ht'] using h1
            have h3 := (HTA.out t' (List.mem_of_getElem? ht')).2
            have h4 := congrArg (fun x => x.2.2.length) h2
            simp [eraT] at h4
            omega
          have HLA := hide hLa
          have HLL := hide hLl
          clear hLa hLl
          cases v
          all_goals
            go_wp2_with (fail)
            refine (Own_any A2 cap2 T w7.heap.size w8 hs78 HR8.out (by omega) (fun t ht => by have := (HTA.out t ht).2; omega)).mono ?_
            rintro e w9 ⟨v9, rows9, rfl, hO9, hM9, hb9⟩
            obtain ⟨A9, n9, cap9, rfl, -, -⟩ := hO9.rd ric_len
            obtain ⟨hn9, hR9⟩ := rdI_ofI hO9 hM9
            subst hn9
            have hW9 := hW8.trans (hb9.mono hs8)
            have hs9 := hW9.size
            have hs89 := hb9.size
            have HR9 := hide hR9
            have HRK9 := hide (HRK.out.below (hb9.mono hs78))
            clear hO9 hM9 hb9 hR9
            go_wp2_with (fail)
            refine (Own_at A7 n7 cap7 M HN7.out w7.heap.size w9 (by omega) HRK9.out (by have := HLL.out; omega) HLA.out).mono ?_
            rintro e w10 ⟨v10, rows10, rfl, hO10, hM10, hb10⟩
            obtain ⟨A10, n10, cap10, rfl, -, -⟩ := hO10.rd ric_len
            obtain ⟨hn10, hR10⟩ := rdI_ofI hO10 hM10
            have hW10 := hW9.trans (hb10.mono hs9)
            have hs10 := hW10.size
            have HN10 := hide hn10
            have HR10 := hide hR10
            have HR9' := hide ((HR9.out.below hb10).mono hb10.size)
            clear hO10 hM10 hb10 hR10 hn10 HR9
            go_wp2_with (fail)
            refine (same41f_any A9 A10 cap9 cap10 n10 T M w10.heap.size w10 (Nat.le_refl _) HR9'.out HR10.out (by omega) (fun t ht => by have := (HTA.out t ht).2; omega) HN10.out HLE.out.symm).mono ?_
            rintro e w11 ⟨rfl, hb11⟩
            have hW11 := hW10.trans (hb11.mono hs10)
            clear hb11
            go_wp2_with (fail)
            refine (lives42_any w11 (HT.out.below hW11 hp)).mono ?_
            rintro e w12 ⟨rfl, hb12⟩
            have hW12 := hW11.trans (hb12.mono hW11.size)
            go_wp2
            go_ret
            exact ⟨rfl, hW12⟩
        · obtain ⟨v2, hv2⟩ : ∃ v, chkE (q1, q2, q3, q4, L') = v := ⟨_, rfl⟩
          have e2 := xmlOf_bad hv2 (by rw [← hv2]; exact hz2)
          rw [HTG.out] at e2
          obtain ⟨rfl, rfl⟩ := Prod.mk.inj e2
          have hnz : g ≠ 0 := by rw [← hv2]; exact hz2
          have y0 : (g != 0) = true := by simpa using hnz
          have hne := xmlL_emp (p1, p2, p3, p4, L)
          obtain ⟨s1, hs1'⟩ : ∃ s1, (⟨(xmlL (p1, p2, p3, p4, L)).toArray⟩ : ByteArray) = s1 := ⟨_, rfl⟩
          rw [hs1'] at hne
          rw [hs1']
          clear e1 e2 hs1' hv2 hz1 hz2 HSF HTG hnz c0 c1 c2 c3 c4 d0 d1 d2 d3 d4 hT5 hU5
          go_wp2_with (fail)
          refine (lives42_any _ HTR.out).mono ?_
          rintro e w7 ⟨rfl, hb7⟩
          have hw7 := hW5.trans (hb7.mono hs5)
          go_wp2
          go_ret
          exact ⟨rfl, hw7⟩
      · obtain ⟨v1, hv1⟩ : ∃ v, chkE (p1, p2, p3, p4, L) = v := ⟨_, rfl⟩
        have e1 := xmlOf_bad hv1 (by rw [← hv1]; exact hz1)
        rw [HSF.out] at e1
        obtain ⟨rfl, rfl⟩ := Prod.mk.inj e1
        have hnz : f ≠ 0 := by rw [← hv1]; exact hz1
        have y0 : (f != 0) = true := by simpa using hnz
        clear e1 hv1 hz1 hnz c0 c1 c2 c3 c4 d0 d1 d2 d3 d4 hT5 hU5
        by_cases hz2 : chkE (q1, q2, q3, q4, L') = 0
        · have e2 := xmlOf_ok hz2
          rw [HTG.out] at e2
          obtain ⟨rfl, rfl⟩ := Prod.mk.inj e2
          have hne := xmlL_emp (q1, q2, q3, q4, L')
          obtain ⟨s1, hs1'⟩ : ∃ s1, (⟨(xmlL (q1, q2, q3, q4, L')).toArray⟩ : ByteArray) = s1 := ⟨_, rfl⟩
          rw [hs1'] at hne
          rw [hs1']
          clear e2 hs1' hz2 HSF HTG
          go_wp2_with (fail)
          refine (lives42_any _ HTR.out).mono ?_
          rintro e w7 ⟨rfl, hb7⟩
          have hw7 := hW5.trans (hb7.mono hs5)
          go_wp2
          go_ret
          exact ⟨rfl, hw7⟩
        · obtain ⟨v2, hv2⟩ : ∃ v, chkE (q1, q2, q3, q4, L') = v := ⟨_, rfl⟩
          have e2 := xmlOf_bad hv2 (by rw [← hv2]; exact hz2)
          rw [HTG.out] at e2
          obtain ⟨rfl, rfl⟩ := Prod.mk.inj e2
          have hnz : g ≠ 0 := by rw [← hv2]; exact hz2
          have y1 : (g != 0) = true := by simpa using hnz
          clear e2 hv2 hz2 HSF HTG hnz
          go_wp2_with (fail)
          refine (lives42_any _ HTR.out).mono ?_
          rintro e w7 ⟨rfl, hb7⟩
          have hw7 := hW5.trans (hb7.mono hs5)
          go_wp2
          go_ret
          exact ⟨rfl, hw7⟩
    · go_wp2_with (fail)
      refine (lives42_any _ (HT.out.below hW3 hp)).mono ?_
      rintro e w4 ⟨rfl, hb4⟩
      have hw4 := hW3.trans (hb4.mono hs3)
      go_wp2
      go_ret
      exact ⟨rfl, hw4⟩
  · go_wp2_with (fail)
    refine (lives42_any _ (HT.out.below hW2 hp)).mono ?_
    rintro e w3 ⟨rfl, hb3⟩
    have hw3 := hW2.trans (hb3.mono hs2)
    go_wp2
    go_ret
    exact ⟨rfl, hw3⟩
end Go.Proofs.YtaglmkjkmhpifaaDoor
