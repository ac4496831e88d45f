/- Chapter 19, plain: mappings of runs (the lemmas of RunsJ and RunsM that need no walk). -/
import Derived.Test.YtcblakflhheepaaRunsC
namespace Go.Proofs.Ytcblakflhheepaa
open Go.RowKit
set_option linter.unusedVariables false
set_option linter.unusedSimpArgs false

def mOf (x : Rn) : Mp := (x.1, x.2.1, x.2.2.2)
def mapsR (x : Rn) (n : Nat) : List Mp := (List.range n).map (nextM (mOf x))
def mapsOf (l : List Rn) : List Mp := l.flatMap fun x => mapsR x x.2.2.1.toNat
theorem mapsR_succ (x : Rn) (n : Nat) : mapsR x (n + 1) = mapsR x n ++ [nextM (mOf x) n] := by simp [mapsR, List.range_succ]
theorem mapsR_len (x : Rn) (n : Nat) : (mapsR x n).length = n := by simp [mapsR]
theorem mapsOf_snoc (l : List Rn) (x : Rn) : mapsOf (l ++ [x]) = mapsOf l ++ mapsR x x.2.2.1.toNat := by simp [mapsOf]
theorem snoc_ind {α : Type} {p : List α → Prop} (h0 : p []) (h1 : ∀ l a, p l → p (l ++ [a])) (l : List α) : p l := by
  rw [← List.reverse_reverse l]
  induction l.reverse with
  | nil => exact h0
  | cons a r ih => rw [List.reverse_cons]; exact h1 _ _ ih

/-- The virtual block behind the last run. -/
theorem mapsR_add (a x : Rn) (m n : Nat) (h : a.2.2.1 = (m : Int)) (hf : fol a x = true) : mapsR (a.1, a.2.1, a.2.2.1 + x.2.2.1, a.2.2.2) (m + n) = mapsR a m ++ mapsR x n := by
  induction n with
  | zero => simp [mapsR, mOf]
  | succ n ih =>
    rw [show m + (n + 1) = (m + n) + 1 by omega, mapsR_succ, ih, mapsR_succ, List.append_assoc]
    simp [fol] at hf
    obtain ⟨⟨f1, f2⟩, f3⟩ := hf
    congr 2
    simp [nextM, mOf]
    omega
theorem mapsOf_addR (l : List Rn) (x : Rn) (h : ∀ a ∈ l, 0 ≤ a.2.2.1) (hx : 0 ≤ x.2.2.1) : mapsOf (addR l x) = mapsOf l ++ mapsR x x.2.2.1.toNat := by
  rcases List.eq_nil_or_concat l with rfl | ⟨l0, a, rfl⟩
  · simp [addR, mapsOf]
  · rw [List.concat_eq_append, addR_snoc]
    split
    · rename_i hf
      have ha := h a (by simp)
      rw [mapsOf_snoc, mapsOf_snoc, List.append_assoc]
      congr 1
      have := mapsR_add a x a.2.2.1.toNat x.2.2.1.toNat (by omega) hf
      rw [← this]
      congr 1
      dsimp only
      omega
    · rw [show l0 ++ [a, x] = (l0 ++ [a]) ++ [x] by simp, mapsOf_snoc]
theorem addR_nonneg (l : List Rn) (x : Rn) (h : ∀ a ∈ l, 0 ≤ a.2.2.1) (hx : 0 ≤ x.2.2.1) : ∀ a ∈ addR l x, 0 ≤ a.2.2.1 := by
  rcases List.eq_nil_or_concat l with rfl | ⟨l0, a, rfl⟩
  · simpa [addR] using hx
  · rw [List.concat_eq_append] at *
    rw [addR_snoc]
    have ha := h a (by simp)
    intro b hb
    split at hb
    · simp at hb
      rcases hb with hb | rfl
      · exact h b (by simp [hb])
      · dsimp only; omega
    · simp at hb
      rcases hb with hb | rfl | rfl
      · exact h b (by simp [hb])
      · exact ha
      · exact hx
theorem mapsOf_runsOf (l : List Mp) : mapsOf (runsOf l) = l ∧ ∀ a ∈ runsOf l, 0 ≤ a.2.2.1 := by
  refine snoc_ind (p := fun l => mapsOf (runsOf l) = l ∧ ∀ a ∈ runsOf l, 0 ≤ a.2.2.1) (by simp [runsOf, mapsOf]) (fun l m ih => ?_) l
  rw [runsOf_snoc]
  refine ⟨?_, addR_nonneg _ _ ih.2 (by simp [oneR])⟩
  rw [mapsOf_addR _ _ ih.2 (by simp [oneR]), ih.1]
  congr 1
  simp [oneR, mapsR, nextM, mOf, List.range_succ]
theorem runsOf_inj {l l' : List Mp} (h : runsOf l = runsOf l') : l = l' := by
  rw [← (mapsOf_runsOf l).1, ← (mapsOf_runsOf l').1, h]
end Go.Proofs.Ytcblakflhheepaa
