/- Chapter 19: the plain laws: runs of mappings and mappings of runs are each other's inverses. -/
import Derived.Test.YtcblakflhheepaaRunsL
namespace Go.Proofs.Ytcblakflhheepaa
open Go.RowKit

theorem snoc_ind {α : Type} {p : List α → Prop} (h0 : p []) (h1 : ∀ l a, p l → p (l ++ [a])) (l : List α) : p l := by
  rw [← List.reverse_reverse l]
  induction l.reverse with
  | nil => exact h0
  | cons a r ih => rw [List.reverse_cons]; exact h1 _ _ ih

/-- The virtual block behind the last run. -/
def endD (l : List Rn) (n : Int) : Int := (l.getLast?.map fun a => a.1 + a.2.2.1).getD n
theorem endD_snoc (l : List Rn) (a : Rn) (n : Int) : endD (l ++ [a]) n = a.1 + a.2.2.1 := by simp [endD]
theorem endD_cons (y : Rn) (l : List Rn) (n : Int) : endD (y :: l) n = endD l (y.1 + y.2.2.1) := by
  cases l with
  | nil => simp [endD]
  | cons z l =>
    simp only [endD, List.getLast?_cons_cons]
    rw [List.getLast?_eq_some_getLast (by simp : z :: l ≠ [])]
    rfl

theorem chk_snoc : ∀ (l : List Rn) (x : Rn) (s n : Int), chk l s n = 0 → chk (l ++ [x]) s n =
    (if okR x = false ∨ s + sumN l + x.2.2.1 > 16384 then 2 else if x.1 < endD l n then 17 else 0)
  | [], x, s, n, _ => by
    rw [List.nil_append, chk, chk, show s + sumN [] + x.2.2.1 = s + x.2.2.1 by simp [sumN]]
    rfl
  | y :: l, x, s, n, h => by
    rw [chk] at h
    rw [List.cons_append, chk]
    split at h
    · cases h
    · rename_i h1
      rw [if_neg h1]
      split at h
      · cases h
      · rename_i h2
        have e1 : s + y.2.2.1 + sumN l = s + sumN (y :: l) := by simp [sumN]; omega
        rw [if_neg h2, chk_snoc l x _ _ h, e1, endD_cons]

/-- Runs that may be, with what they end at. -/
def Good (l : List Rn) (e : Int) : Prop := chk l 0 0 = 0 ∧ endD l 0 = e
theorem good_nil : Good [] 0 := ⟨rfl, rfl⟩
theorem good_add {l : List Rn} {e : Int} {x : Rn} (h : Good l e) (hx : okR x = true) (hs : sumN l + x.2.2.1 ≤ 16384) (he : e ≤ x.1) : Good (addR l x) (x.1 + x.2.2.1) := by
  obtain ⟨h1, h2⟩ := h
  have hxs := okR_spec hx
  rcases List.eq_nil_or_concat l with rfl | ⟨l0, a, rfl⟩
  · refine ⟨?_, by simp [addR, endD]⟩
    have h3 := chk_snoc [] x 0 0 rfl
    simp only [List.nil_append] at h3
    rw [show addR [] x = [x] from rfl, h3, if_neg, if_neg]
    · simp [endD]; omega
    · rw [hx]
      simp only [sumN, List.map_nil, List.sum_nil] at hs ⊢
      intro hh
      rcases hh with hh | hh
      · cases hh
      · omega
  · rw [List.concat_eq_append] at *
    rw [endD_snoc] at h2
    have h0 : chk l0 0 0 = 0 := by
      have : ∀ (l : List Rn) (x : Rn) (s n : Int), chk (l ++ [x]) s n = 0 → chk l s n = 0 := by
        intro l
        induction l with
        | nil => intro x s n _; rfl
        | cons y l ih =>
          intro x s n h
          rw [List.cons_append, chk] at h
          rw [chk]
          split at h
          · cases h
          · rename_i g1
            rw [if_neg g1]
            split at h
            · cases h
            · rename_i g2
              rw [if_neg g2]
              exact ih x _ _ h
      exact this l0 a 0 0 h1
    have h3 := chk_snoc l0 a 0 0 h0
    rw [h1] at h3
    have hsum : sumN (l0 ++ [a]) = sumN l0 + a.2.2.1 := by simp [sumN]
    rw [hsum] at hs
    split at h3
    · cases h3
    · rename_i g1
      split at h3
      · cases h3
      · rename_i g2
        have hoa : okR a = true := by
          cases ho : okR a
          · exact absurd (Or.inl ho) g1
          · rfl
        have has := okR_spec hoa
        rw [addR_snoc]
        split
        · rename_i hf
          simp [fol] at hf
          obtain ⟨⟨f1, f2⟩, f3⟩ := hf
          refine ⟨?_, by rw [endD_snoc]; dsimp only; omega⟩
          rw [chk_snoc l0 _ 0 0 h0, if_neg, if_neg]
          · exact g2
          · intro hh
            rcases hh with hh | hh
            · have : okR (a.1, a.2.1, a.2.2.1 + x.2.2.1, a.2.2.2) = true := by
                simp [okR]
                omega
              rw [this] at hh
              cases hh
            · dsimp only at hh; omega
        · rw [show l0 ++ [a, x] = (l0 ++ [a]) ++ [x] by simp]
          refine ⟨?_, endD_snoc _ _ _⟩
          rw [chk_snoc _ _ 0 0 h1, if_neg, if_neg]
          · rw [endD_snoc]; omega
          · rw [hx, hsum]
            intro hh
            rcases hh with hh | hh
            · cases hh
            · omega

theorem mapsR_add (a x : Rn) (m n : Nat) (h : a.2.2.1 = (m : Int)) (hf : fol a x = true) : mapsR (a.1, a.2.1, a.2.2.1 + x.2.2.1, a.2.2.2) (m + n) = mapsR a m ++ mapsR x n := by
  induction n with
  | zero => simp [mapsR, mOf]
  | succ n ih =>
    rw [show m + (n + 1) = (m + n) + 1 by omega, mapsR_succ, ih, mapsR_succ, List.append_assoc]
    simp [fol] at hf
    obtain ⟨⟨f1, f2⟩, f3⟩ := hf
    congr 2
    simp [nextM, mOf]
    omega
theorem mapsOf_addR (l : List Rn) (x : Rn) (h : ∀ a ∈ l, 0 ≤ a.2.2.1) (hx : 0 ≤ x.2.2.1) : mapsOf (addR l x) = mapsOf l ++ mapsR x x.2.2.1.toNat := by
  rcases List.eq_nil_or_concat l with rfl | ⟨l0, a, rfl⟩
  · simp [addR, mapsOf]
  · rw [List.concat_eq_append, addR_snoc]
    split
    · rename_i hf
      have ha := h a (by simp)
      rw [mapsOf_snoc, mapsOf_snoc, List.append_assoc]
      congr 1
      have := mapsR_add a x a.2.2.1.toNat x.2.2.1.toNat (by omega) hf
      rw [← this]
      congr 1
      dsimp only
      omega
    · rw [show l0 ++ [a, x] = (l0 ++ [a]) ++ [x] by simp, mapsOf_snoc]
theorem addR_nonneg (l : List Rn) (x : Rn) (h : ∀ a ∈ l, 0 ≤ a.2.2.1) (hx : 0 ≤ x.2.2.1) : ∀ a ∈ addR l x, 0 ≤ a.2.2.1 := by
  rcases List.eq_nil_or_concat l with rfl | ⟨l0, a, rfl⟩
  · simpa [addR] using hx
  · rw [List.concat_eq_append] at *
    rw [addR_snoc]
    have ha := h a (by simp)
    intro b hb
    split at hb
    · simp at hb
      rcases hb with hb | rfl
      · exact h b (by simp [hb])
      · dsimp only; omega
    · simp at hb
      rcases hb with hb | rfl | rfl
      · exact h b (by simp [hb])
      · exact ha
      · exact hx
theorem mapsOf_runsOf (l : List Mp) : mapsOf (runsOf l) = l ∧ ∀ a ∈ runsOf l, 0 ≤ a.2.2.1 := by
  refine snoc_ind (p := fun l => mapsOf (runsOf l) = l ∧ ∀ a ∈ runsOf l, 0 ≤ a.2.2.1) (by simp [runsOf, mapsOf]) (fun l m ih => ?_) l
  rw [runsOf_snoc]
  refine ⟨?_, addR_nonneg _ _ ih.2 (by simp [oneR])⟩
  rw [mapsOf_addR _ _ ih.2 (by simp [oneR]), ih.1]
  congr 1
  simp [oneR, mapsR, nextM, mOf, List.range_succ]
theorem mapsOf_foldR (l : List Rn) (h : ∀ a ∈ l, 0 ≤ a.2.2.1) : mapsOf (foldR l) = mapsOf l ∧ ∀ a ∈ foldR l, 0 ≤ a.2.2.1 := by
  revert h
  refine snoc_ind (p := fun l => (∀ a ∈ l, 0 ≤ a.2.2.1) → mapsOf (foldR l) = mapsOf l ∧ ∀ a ∈ foldR l, 0 ≤ a.2.2.1) (by intro _; simp [foldR, mapsOf]) (fun l m ih h => ?_) l
  have h1 := ih (fun a ha => h a (by simp [ha]))
  have hm := h m (by simp)
  rw [foldR_snoc]
  exact ⟨by rw [mapsOf_addR _ _ h1.2 hm, h1.1, mapsOf_snoc], addR_nonneg _ _ h1.2 hm⟩

theorem chk_prefix : ∀ (l : List Rn) (x : Rn) (s n : Int), chk (l ++ [x]) s n = 0 → chk l s n = 0
  | [], _, _, _, _ => rfl
  | y :: l, x, s, n, h => by
    rw [List.cons_append, chk] at h
    rw [chk]
    split at h
    · cases h
    · rename_i g1
      rw [if_neg g1]
      split at h
      · cases h
      · rename_i g2
        rw [if_neg g2]
        exact chk_prefix l x _ _ h
/-- Merged runs may be where the runs may. -/
theorem good_foldR (l : List Rn) (h : chk l 0 0 = 0) : Good (foldR l) (endD l 0) := by
  revert h
  refine snoc_ind (p := fun l => chk l 0 0 = 0 → Good (foldR l) (endD l 0)) (fun _ => good_nil) (fun l x ih h => ?_) l
  have h0 := chk_prefix l x 0 0 h
  have h1 := chk_snoc l x 0 0 h0
  rw [h] at h1
  split at h1
  · cases h1
  · rename_i g1
    split at h1
    · cases h1
    · rename_i g2
      have hox : okR x = true := by
        cases ho : okR x
        · exact absurd (Or.inl ho) g1
        · rfl
      rw [foldR_snoc, endD_snoc]
      refine good_add (ih h0) hox ?_ ?_
      · rw [foldR_sum]
        rcases Int.lt_or_le 16384 (0 + sumN l + x.2.2.1) with h7 | h7
        · exact absurd (Or.inr h7) g1
        · omega
      · omega

/-- Mappings that rise, and whose numbers may be. -/
def Rise (l : List Mp) : Prop := (∀ m ∈ l, 0 ≤ m.1 ∧ m.1 ≤ 281474976710655 ∧ 0 ≤ m.2.1 ∧ m.2.1 < 65536 ∧ 0 ≤ m.2.2 ∧ m.2.2 ≤ 16777215) ∧ ∀ i a b, l[i]? = some a → l[i + 1]? = some b → a.1 < b.1
/-- The virtual block behind the last mapping. -/
def endM (l : List Mp) : Int := (l.getLast?.map fun a => a.1 + 1).getD 0
theorem good_runsOf (l : List Mp) (h : Rise l) (hl : l.length ≤ 16384) : Good (runsOf l) (endM l) := by
  revert h hl
  refine snoc_ind (p := fun l => Rise l → l.length ≤ 16384 → Good (runsOf l) (endM l)) (fun _ _ => good_nil) (fun l m ih h hl => ?_) l
  have hr : Rise l := ⟨fun a ha => h.1 a (by simp [ha]), fun i a b ha hb => h.2 i a b (by rw [List.getElem?_append_left (lt_of_get ha)]; exact ha) (by rw [List.getElem?_append_left (lt_of_get hb)]; exact hb)⟩
  simp at hl
  have h1 := ih hr (by omega)
  have hm := h.1 m (by simp)
  rw [runsOf_snoc]
  have hokm : okR (oneR m) = true := by
    obtain ⟨m1, m2, m3⟩ := m
    dsimp only at hm
    simp [okR, oneR]
    refine ⟨⟨⟨⟨⟨?_, ?_⟩, ?_⟩, ?_⟩, ?_⟩, ?_⟩ <;> exact decide_eq_true (by omega)
  have h2 := good_add (x := oneR m) h1 hokm (by rw [runsOf_sum]; simp [oneR]; omega) (by
    rcases List.eq_nil_or_concat l with rfl | ⟨l0, a, rfl⟩
    · simp [oneR, endM]; omega
    · rw [List.concat_eq_append] at *
      have h3 := h.2 l0.length a m (by simp) (by simp)
      simp [oneR, endM]
      omega)
  simpa [oneR, endM] using h2

/-- No run continues the one ahead. -/
def NoFol (l : List Rn) : Prop := ∀ i a b, l[i]? = some a → l[i + 1]? = some b → fol a b = false
theorem noFol_snoc {l : List Rn} {x : Rn} (h : NoFol l) (hx : ∀ a, l.getLast? = some a → fol a x = false) : NoFol (l ++ [x]) := by
  intro i a b ha hb
  have hi := lt_of_get hb
  simp at hi
  rcases Nat.lt_or_ge (i + 1) l.length with h1 | h1
  · rw [List.getElem?_append_left h1] at hb
    rw [List.getElem?_append_left (by omega)] at ha
    exact h i a b ha hb
  · have e : i + 1 = l.length := by omega
    rw [List.getElem?_append_right h1, e] at hb
    simp at hb
    subst hb
    rw [List.getElem?_append_left (by omega)] at ha
    refine hx a ?_
    rw [List.getLast?_eq_getElem?, ← ha]
    congr 1
    omega
theorem noFol_prefix {l : List Rn} {x : Rn} (h : NoFol (l ++ [x])) : NoFol l := fun i a b ha hb => h i a b (by rw [List.getElem?_append_left (lt_of_get ha)]; exact ha) (by rw [List.getElem?_append_left (lt_of_get hb)]; exact hb)
theorem noFol_last {l : List Rn} {x : Rn} (h : NoFol (l ++ [x])) : ∀ a, l.getLast? = some a → fol a x = false := by
  intro a ha
  rw [List.getLast?_eq_getElem?] at ha
  have h1 := lt_of_get ha
  exact h (l.length - 1) a x (by rw [List.getElem?_append_left h1]; exact ha) (by rw [show l.length - 1 + 1 = l.length by omega]; simp)
theorem noFol_addR {l : List Rn} (h : NoFol l) (x : Rn) : NoFol (addR l x) := by
  rcases List.eq_nil_or_concat l with rfl | ⟨l0, a, rfl⟩
  · intro i a b ha hb
    have := lt_of_get hb
    simp [addR] at this
  · rw [List.concat_eq_append] at *
    rw [addR_snoc]
    split
    · exact noFol_snoc (noFol_prefix h) (fun b hb => noFol_last h b hb)
    · rename_i hf
      rw [show l0 ++ [a, x] = (l0 ++ [a]) ++ [x] by simp]
      exact noFol_snoc h (fun b hb => by simp at hb; subst hb; simpa using hf)
theorem noFol_runsOf (l : List Mp) : NoFol (runsOf l) := by
  refine snoc_ind (p := fun l => NoFol (runsOf l)) (by intro i a b ha; simp [runsOf] at ha) (fun l m ih => ?_) l
  rw [runsOf_snoc]
  exact noFol_addR ih _
theorem foldR_self {l : List Rn} (h : NoFol l) : foldR l = l := by
  revert h
  refine snoc_ind (p := fun l => NoFol l → foldR l = l) (fun _ => rfl) (fun l x ih h => ?_) l
  rw [foldR_snoc, ih (noFol_prefix h)]
  rcases List.eq_nil_or_concat l with rfl | ⟨l0, a, rfl⟩
  · rfl
  · rw [List.concat_eq_append] at *
    rw [addR_snoc, if_neg]
    · simp
    · rw [noFol_last h a (by simp)]
      simp
end Go.Proofs.Ytcblakflhheepaa
