/- A pool that may be: its bounds, plain. -/
import Derived.Test.YtaglmkjkmhpifaaGreatDoorPoolB
namespace Go.Proofs.YtaglmkjkmhpifaaGreatDoor
open Go.RowKit
set_option linter.unusedVariables false
set_option linter.unusedSimpArgs false

theorem chk_ok {p : Pl} (h : chkE p = 0) : I64 p.1 ∧ I64 p.2.1 ∧ I64 p.2.2.1 ∧ I64 p.2.2.2.1 ∧ p.2.2.2.2.length ≤ 4096 ∧ cntL p.2.2.2.2 ≤ 16384 ∧ (0 ≤ p.2.2.2.1 ∧ p.2.2.2.1 ≤ 65536) ∧ ∀ d ∈ p.2.2.2.2, okD d := by
  unfold chkE at h
  split at h
  · rename_i h1
    simp only [Bool.and_eq_true, timesB, allT, List.all_cons, List.all_nil, Bool.and_true] at h1
    obtain ⟨⟨⟨a1, a2⟩, a3⟩, a4⟩ := h1
    have b1 := inB_true a1
    have b2 := inB_true a2
    have b3 := inB_true a3
    have b4 := inB_true a4
    split at h
    · cases h
    · rename_i h2
      refine ⟨by unfold I64; omega, by unfold I64; omega, by unfold I64; omega, by unfold I64; omega, by omega, by omega, b4, fun d hd => ?_⟩
      obtain ⟨⟨la, h3⟩, h4⟩ := devsE_zero h d hd
      obtain ⟨k, hk⟩ := List.getElem?_of_mem hd
      have hlen := len_cntL hk
      unfold devE at h3
      split at h3
      · rename_i h5
        simp only [Bool.and_eq_true, timesB, allT, List.all_cons, List.all_nil, Bool.and_true] at h5
        obtain ⟨c1, c2, c3, c4⟩ := h5
        have e1 := inB_true c1
        have e2 := inB_true c2
        have e3 := inB_true c3
        have e4 := inB_true c4
        refine ⟨by unfold I64; omega, by unfold I64; omega, by unfold I64; omega, by unfold I64; omega, fun m hm => ?_, by omega⟩
        have h6 := mapE_zero h4 m hm
        simp only [mapB, Bool.and_eq_true] at h6
        obtain ⟨⟨f1, f2⟩, f3⟩ := h6
        have g1 := inB_true f1
        have g2 := inB_true f2
        have g3 := inB_true f3
        exact ⟨by omega, by omega, by omega, by omega, by unfold I64; omega⟩
      · cases h3
  · cases h

end Go.Proofs.YtaglmkjkmhpifaaGreatDoor
