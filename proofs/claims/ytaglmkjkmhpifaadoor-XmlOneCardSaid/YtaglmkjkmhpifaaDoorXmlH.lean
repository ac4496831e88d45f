/- Chapter 41: Same of tags that are equal but for their places; lives of chapter 42. -/
import Derived.Test.YtaglmkjkmhpifaaDoorXmlF
namespace Go.Proofs.YtaglmkjkmhpifaaDoor
open Go.RowKit
set_option linter.unusedVariables false
set_option linter.unusedSimpArgs false

set_option maxRecDepth 100000 in
set_option maxHeartbeats 8000000 in
theorem same41f_any (A A' : Option Addr) (cap cap' n : Nat) (L M : List Ti) (B : Nat) (w : World) (hB : B ≤ w.heap.size) (h : RdI w B A L) (h' : RdI w B A' M) (hl : L.length ≤ 5000000) (hla : ∀ t ∈ L, t.2.2.1.length ≤ 5000000) (hn : n = M.length) (he : L.map eraT = M.map eraT) :
    Calls Tryd.prog 22 #[.slice A L.length cap, .slice A' n cap', .bool false] w fun e w' => e = .returned (.bool true) ∧ Below w.heap.size w w' := by
  have hlm : M.length = L.length := by have := congrArg List.length he; simpa using this.symm
  rw [hlm] at hn
  subst hn
  have HE := hide he
  have HLM := hide hlm
  clear he hlm
  go_enter Tryd.func22, Tryd.ntmps22
  go_wp2
  go_loopw [7] (fun i wr => ∃ k : Nat, k ≤ L.length ∧ i = .int .i64 k ∧ Below w.heap.size w wr) (fun i _ => L.length - (intOf i).toNat)
  case atStart => exact ⟨0, Nat.zero_le _, rfl, Below.refl _ _⟩
  case round =>
    obtain ⟨k, hk, rfl, hb⟩ := hrel
    by_cases hlt : k < L.length
    · obtain ⟨t, ht⟩ := get_of_lt hlt
      obtain ⟨t', ht'⟩ := get_of_lt (show k < M.length by have := HLM.out; omega)
      have hte : eraT t = eraT t' := by
        have h1 := congrArg (fun l => l[k]?) HE.out
        simpa [ht, ht'] using h1
      obtain ⟨b, off, A1, cap1, rfl, hbB, c0, c1, c2, c3, hr⟩ := (h.below (hb.mono hB)) k t ht
      obtain ⟨b', off', A2, cap2, rfl, hbB', d0, d1, d2, d3, hr'⟩ := (h'.below (hb.mono hB)) k t' ht'
      have hal := hla t (List.mem_of_getElem? ht)
      obtain ⟨t1, t2, t3, t4⟩ := t
      obtain ⟨y1, y2, y3, y4⟩ := t'
      simp only [eraT, Prod.mk.injEq] at hte
      obtain ⟨rfl, rfl, hat⟩ := hte
      have hyl : y3.length = t3.length := by have := congrArg List.length hat; simpa using this.symm
      dsimp only at c0 c1 c2 c3 d0 d1 d2 d3 hr hr' hal
      rw [hyl] at d2
      have HAT := hide hat
      have HYL := hide hyl
      clear ht ht' hat hyl
      have i0 : (0 : Int) ≤ (k : Int) := by omega
      have i1 : (k : Int) < (L.length : Int) := by omega
      go_wp2
      go_quiet (fail)
      go_wp2_with (fail)
      have hBr : B ≤ wr.heap.size := by have := hb.size; omega
      obtain ⟨wo, hwo⟩ : ∃ wo : World, wo = wr := ⟨_, rfl⟩
      subst hwo
      go_loopw [8] (fun i wx => ∃ j : Nat, j ≤ t3.length ∧ i = .int .i64 j ∧ Below wo.heap.size wo wx) (fun i _ => t3.length - (intOf i).toNat)
      case atStart => exact ⟨0, Nat.zero_le _, rfl, drewN_below (Below.refl _ _) _⟩
      case round =>
        obtain ⟨j, hj, rfl, hbx⟩ := hrel
        have g2 : wr.cell? ⟨b, off + k * 4 + 2, none⟩ = some (.slice A1 t3.length cap1) := (hbx.cell (p := ⟨b, _, none⟩) (show b < wo.heap.size by omega)).trans c2
        have g2' : wr.cell? ⟨b', off' + k * 4 + 2, none⟩ = some (.slice A2 t3.length cap2) := (hbx.cell (p := ⟨b', _, none⟩) (show b' < wo.heap.size by omega)).trans d2
        by_cases hlt2 : j < t3.length
        · obtain ⟨a, ha⟩ := get_of_lt hlt2
          obtain ⟨a', ha'⟩ := get_of_lt (show j < y3.length by have := HYL.out; omega)
          have hae : eraA a = eraA a' := by
            have h1 := congrArg (fun l => l[j]?) HAT.out
            simpa [ha, ha'] using h1
          obtain ⟨b2, off2, rfl, hb2, e0, e1, e2⟩ := ((hr.mono hBr).below hbx).ai ha
          obtain ⟨b3, off3, rfl, hb3, m0, m1, m2⟩ := ((hr'.mono hBr).below hbx).ai ha'
          obtain ⟨a1, a2, a3⟩ := a
          obtain ⟨z1, z2, z3⟩ := a'
          simp only [eraA, Prod.mk.injEq] at hae
          obtain ⟨rfl, rfl⟩ := hae
          dsimp only at e0 e1 e2 m0 m1 m2
          have hsx := hbx.size
          have j0 : (0 : Int) ≤ (j : Int) := by omega
          have j1 : (j : Int) < (t3.length : Int) := by omega
          have hbr2 : b < wr.heap.size := by omega
          have hbr3 : b' < wr.heap.size := by omega
          have hbr4 : b2 < wr.heap.size := by omega
          have hbr5 : b3 < wr.heap.size := by omega
          clear ha ha' c0 c1 c2 c3 d0 d1 d2 d3
          go_wp2
          go_roundw
          case rel => exact ⟨j + 1, by omega, by go_num, (by have hsz := (hbx).size; repeat (first | exact hbx | refine Below.alloc ?_ (by first | (simp; omega) | simp | omega) _ | refine drewN_below ?_ _ | refine Below.drew ?_))⟩
          case measure => simp [intOf]; omega
        · have hj2 : j = t3.length := by omega
          subst hj2
          clear c0 c1 c2 c3 d0 d1 d2 d3
          go_wp2
          go_roundw
          case rel => exact ⟨k + 1, by omega, by go_num, hb.trans (hbx.mono hb.size)⟩
          case measure => simp [intOf]; omega
    · have hk2 : k = L.length := by omega
      subst hk2
      go_wp2
      go_ret
      exact ⟨rfl, hb⟩

theorem exPool_xml : xmlOf exPool = (⟨#[60, 115, 117, 112, 101, 114, 98, 108, 111, 99, 107, 32, 117, 117, 105, 100, 61, 34, 34, 32, 116, 105, 109, 101, 61, 34, 48, 34, 32, 116, 114, 97, 110, 115, 97, 99, 116, 105, 111, 110, 61, 34, 48, 34, 32, 100, 97, 116, 97, 95, 98, 108, 111, 99, 107, 95, 115, 105, 122, 101, 61, 34, 49, 34, 32, 110, 114, 95, 100, 97, 116, 97, 95, 98, 108, 111, 99, 107, 115, 61, 34, 48, 34, 62, 10, 60, 47, 115, 117, 112, 101, 114, 98, 108, 111, 99, 107, 62, 10]⟩, 0) := by
  have h : chkE exPool = 0 := by decide
  have h2 : xmlL exPool = [60, 115, 117, 112, 101, 114, 98, 108, 111, 99, 107, 32, 117, 117, 105, 100, 61, 34, 34, 32, 116, 105, 109, 101, 61, 34, 48, 34, 32, 116, 114, 97, 110, 115, 97, 99, 116, 105, 111, 110, 61, 34, 48, 34, 32, 100, 97, 116, 97, 95, 98, 108, 111, 99, 107, 95, 115, 105, 122, 101, 61, 34, 49, 34, 32, 110, 114, 95, 100, 97, 116, 97, 95, 98, 108, 111, 99, 107, 115, 61, 34, 48, 34, 62, 10, 60, 47, 115, 117, 112, 101, 114, 98, 108, 111, 99, 107, 62, 10] := by
    have d1 : deepN sSuper = 0 := by simp [deepN, Lib.toList_data]
    simp [xmlL, exPool, xmlTs, indT, itxt, d1, headT, headN, endT, ttxt, opn, cls, atxt, attrN, dig, Lib.itoa, Lib.decDigits_one]
    try decide
  simp [xmlOf, h, h2]
set_option maxRecDepth 100000 in
theorem lives42_any (w : World) (ht : Tab w) : Calls Tryd.prog 17 #[] w fun e w' => e = .returned (.bool true) ∧ Below w.heap.size w w' := by
  have hem := xemit_any none 0 exPool w ht (RdD.nil _ _ _) (by decide) (by decide)
  rw [exPool_xml] at hem
  have HE := hide hem
  clear hem
  go_enter Tryd.func17, Tryd.ntmps17
  go_wp2_with (fail)
  refine HE.out.mono ?_
  rintro e w' ⟨rfl, hb⟩
  go_wp2
  go_ret
  exact ⟨rfl, hb⟩
end Go.Proofs.YtaglmkjkmhpifaaDoor
