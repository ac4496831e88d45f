/- A pool that may be: its bounds, plain. -/
import Derived.Test.YtaglmkjkmhpifaaGreatDoorPoolB
namespace Go.Proofs.YtaglmkjkmhpifaaGreatDoor
open Go.RowKit
set_option linter.unusedVariables false
set_option linter.unusedSimpArgs false

theorem inB_true {n lo hi : Int} (h : inB n lo hi = true) : lo ≤ n ∧ n ≤ hi := by simpa [inB] using h
theorem mapE_zero {data : Int} : ∀ {l : List Mp} {last : Int}, mapE data last l = 0 → ∀ m ∈ l, mapB data m = true
  | [], _, _, m, hm => by cases hm
  | x :: l, last, h, m, hm => by
    unfold mapE at h
    split at h
    · rename_i hb
      split at h
      · cases h
      · rcases List.mem_cons.1 hm with rfl | hm
        · exact hb
        · exact mapE_zero h m hm
    · cases h
theorem devsE_zero {data : Int} : ∀ {L : List Dv} {last : Int}, devsE data last L = 0 → ∀ d ∈ L, (∃ la, devE d la = 0) ∧ mapE data (-1) d.2.2.2.2 = 0
  | [], _, _, d, hd => by cases hd
  | x :: L, last, h, d, hd => by
    unfold devsE at h
    split at h
    · rename_i h1
      split at h
      · rename_i h2
        rcases List.mem_cons.1 hd with rfl | hd
        · exact ⟨⟨_, h1⟩, h2⟩
        · exact devsE_zero h d hd
      · rename_i h2; exact absurd h h2
    · rename_i h1; exact absurd h h1
theorem chk_ok {p : Pl} (h : chkE p = 0) : I64 p.1 ∧ I64 p.2.1 ∧ I64 p.2.2.1 ∧ I64 p.2.2.2.1 ∧ p.2.2.2.2.length ≤ 4096 ∧ cntL p.2.2.2.2 ≤ 16384 ∧ (0 ≤ p.2.2.2.1 ∧ p.2.2.2.1 ≤ 65536) ∧ ∀ d ∈ p.2.2.2.2, okD d := by
  unfold chkE at h
  split at h
  · rename_i h1
    simp only [Bool.and_eq_true, timesB, allT, List.all_cons, List.all_nil, Bool.and_true] at h1
    obtain ⟨⟨⟨a1, a2⟩, a3⟩, a4⟩ := h1
    have b1 := inB_true a1
    have b2 := inB_true a2
    have b3 := inB_true a3
    have b4 := inB_true a4
    split at h
    · cases h
    · rename_i h2
      refine ⟨by unfold I64; omega, by unfold I64; omega, by unfold I64; omega, by unfold I64; omega, by omega, by omega, b4, fun d hd => ?_⟩
      obtain ⟨⟨la, h3⟩, h4⟩ := devsE_zero h d hd
      obtain ⟨k, hk⟩ := List.getElem?_of_mem hd
      have hlen := len_cntL hk
      unfold devE at h3
      split at h3
      · rename_i h5
        simp only [Bool.and_eq_true, timesB, allT, List.all_cons, List.all_nil, Bool.and_true] at h5
        obtain ⟨c1, c2, c3, c4⟩ := h5
        have e1 := inB_true c1
        have e2 := inB_true c2
        have e3 := inB_true c3
        have e4 := inB_true c4
        refine ⟨by unfold I64; omega, by unfold I64; omega, by unfold I64; omega, by unfold I64; omega, fun m hm => ?_, by omega⟩
        have h6 := mapE_zero h4 m hm
        simp only [mapB, Bool.and_eq_true] at h6
        obtain ⟨⟨f1, f2⟩, f3⟩ := h6
        have g1 := inB_true f1
        have g2 := inB_true f2
        have g3 := inB_true f3
        exact ⟨by omega, by omega, by omega, by omega, by unfold I64; omega⟩
      · cases h3
  · cases h

end Go.Proofs.YtaglmkjkmhpifaaGreatDoor
