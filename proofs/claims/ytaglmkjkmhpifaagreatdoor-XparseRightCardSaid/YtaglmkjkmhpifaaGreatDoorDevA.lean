/- Devices; their runs are mild, plain. -/
import Derived.Test.YtaglmkjkmhpifaaGreatDoorDigA
import Derived.Test.YtaglmkjkmhpifaaGreatDoorPlnA
namespace Go.Proofs.YtaglmkjkmhpifaaGreatDoor
open Go.RowKit
set_option linter.unusedVariables false
set_option linter.unusedSimpArgs false

def okM (m : Mp) : Prop := 0 ≤ m.1 ∧ m.1 ≤ 1000000000000000 ∧ 0 ≤ m.2.1 ∧ m.2.1 ≤ 1000000000000000 ∧ I64 m.2.2
def okD (d : Dv) : Prop := I64 d.1 ∧ I64 d.2.1 ∧ I64 d.2.2.1 ∧ I64 d.2.2.2.1 ∧ (∀ m ∈ d.2.2.2.2, okM m) ∧ d.2.2.2.2.length ≤ 100000

theorem runsOf_mem (l : List Mp) : ∀ r ∈ runsOf l, (∃ m ∈ l, r.1 = m.1 ∧ r.2.1 = m.2.1 ∧ r.2.2.2 = m.2.2) ∧ 0 ≤ r.2.2.1 ∧ r.2.2.1 ≤ l.length := by
  refine runsOf_rev (fun l => ∀ r ∈ runsOf l, (∃ m ∈ l, r.1 = m.1 ∧ r.2.1 = m.2.1 ∧ r.2.2.2 = m.2.2) ∧ 0 ≤ r.2.2.1 ∧ r.2.2.1 ≤ l.length) ?_ ?_ l
  · intro r hr; simp [runsOf] at hr
  · intro l m ih r hr
    rw [runsOf_snoc] at hr
    rcases List.eq_nil_or_concat (runsOf l) with h0 | ⟨l', a, h0⟩
    · rw [h0] at hr
      simp [addR] at hr
      subst hr
      exact ⟨⟨m, by simp, rfl, rfl, rfl⟩, by simp [oneR], by simp [oneR]; omega⟩
    · have hc : runsOf l = l' ++ [a] := by rw [h0]; simp
      rw [hc, addR_snoc] at hr
      rcases List.mem_append.1 hr with h1 | h1
      · obtain ⟨⟨m', h2, h3⟩, h4, h5⟩ := ih r (by rw [hc]; simp [h1])
        exact ⟨⟨m', by simp [h2], h3⟩, h4, by simp; omega⟩
      · obtain ⟨⟨m', h2, h3⟩, h4, h5⟩ := ih a (by rw [hc]; simp)
        split at h1
        · simp at h1
          subst h1
          exact ⟨⟨m', by simp [h2], h3⟩, by simp [oneR]; omega, by simp [oneR]; omega⟩
        · simp at h1
          rcases h1 with rfl | rfl
          · exact ⟨⟨m', by simp [h2], h3⟩, h4, by simp; omega⟩
          · exact ⟨⟨m, by simp, rfl, rfl, rfl⟩, by simp [oneR], by simp [oneR]; omega⟩

theorem itoa_le (n : Int) (h : I64 n) : (Lib.itoa n).length ≤ 21 := Lib.itoa_length_le n h.1 h.2
theorem run_ok {l : List Mp} (h : ∀ m ∈ l, okM m) (hl : l.length ≤ 100000) {r : Rn} (hr : r ∈ runsOf l) : I64 r.1 ∧ I64 r.2.1 ∧ I64 r.2.2.1 ∧ I64 r.2.2.2 := by
  obtain ⟨⟨m, hm, e1, e2, e3⟩, h1, h2⟩ := runsOf_mem l r hr
  obtain ⟨q1, q2, q3, q4, q5⟩ := h m hm
  rw [e1, e2, e3]
  exact ⟨by unfold I64; omega, by unfold I64; omega, by unfold I64; omega, q5⟩
end Go.Proofs.YtaglmkjkmhpifaaGreatDoor
