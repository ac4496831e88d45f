/- Chapter 31, plain: a pool's text tells the pool. -/
import Derived.Test.YtaglmkjkmhpifaaDoorRunsP
import Derived.Test.YtaglmkjkmhpifaaDoorEmF
import Derived.Test.YtaglmkjkmhpifaaDoorEmD
namespace Go.Proofs.YtaglmkjkmhpifaaDoor
open Go.RowKit
set_option linter.unusedVariables false
set_option linter.unusedSimpArgs false

def valD (l : List UInt8) : Nat := l.foldl (fun a c => 10 * a + (c.toNat - 48)) 0
theorem valD_snoc (l : List UInt8) (c : UInt8) : valD (l ++ [c]) = 10 * valD l + (c.toNat - 48) := by simp [valD]
theorem dig_byte : ∀ v : Nat, v < 10 → (UInt8.ofNat (48 + v)).toNat = 48 + v := by decide
theorem valD_dec (u : Nat) : valD (Lib.decDigits u) = u := by
  induction u using Nat.strongRecOn with
  | ind u ih =>
    by_cases h : u < 10
    · rw [Lib.decDigits_one h]
      show 10 * 0 + ((UInt8.ofNat (48 + u)).toNat - 48) = u
      rw [dig_byte u h]; omega
    · rw [dec_big h, valD_snoc, ih (u / 10) (by omega), dig_byte _ (by omega)]; omega
theorem dec_mem (u : Nat) : ∀ c ∈ Lib.decDigits u, 48 ≤ c.toNat ∧ c.toNat ≤ 57 := by
  induction u using Nat.strongRecOn with
  | ind u ih =>
    by_cases h : u < 10
    · rw [Lib.decDigits_one h]
      intro c hc
      rw [List.mem_singleton] at hc
      rw [hc]
      have := dig_byte u h
      omega
    · rw [dec_big h]
      intro c hc
      rcases List.mem_append.1 hc with hc | hc
      · exact ih (u / 10) (by omega) c hc
      · rw [List.mem_singleton] at hc
        rw [hc]
        have := dig_byte (u % 10) (by omega)
        omega
theorem dec_inj {u v : Nat} (h : Lib.decDigits u = Lib.decDigits v) : u = v := by rw [← valD_dec u, ← valD_dec v, h]
theorem itoa_mem (n : Int) : ∀ c ∈ Lib.itoa n, 45 ≤ c.toNat ∧ c.toNat ≤ 57 := by
  intro c hc
  unfold Lib.itoa at hc
  split at hc
  · rcases List.mem_cons.1 hc with rfl | hc
    · decide
    · have := dec_mem _ c hc; omega
  · have := dec_mem _ c hc; omega
theorem itoa_inj {a b : Int} (h : Lib.itoa a = Lib.itoa b) : a = b := by
  unfold Lib.itoa at h
  split at h <;> split at h
  · simp at h
    have := dec_inj h
    omega
  · have := dec_mem b.toNat 45 (by rw [← h]; simp)
    exact absurd this.1 (by decide)
  · have := dec_mem a.toNat 45 (by rw [h]; simp)
    exact absurd this.1 (by decide)
  · have := dec_inj h
    omega

/-- No blank, no line feed. -/
def wgood (l : List UInt8) : Prop := ∀ c ∈ l, c ≠ 32 ∧ c ≠ 10
theorem wgood_itoa (n : Int) : wgood (Lib.itoa n) := fun c hc => by
  have := itoa_mem n c hc
  constructor
  · rintro rfl; exact absurd this.1 (by decide)
  · rintro rfl; exact absurd this.1 (by decide)
theorem word_split : ∀ {a b : List UInt8} {c c' : UInt8} {X Y : List UInt8}, wgood a → wgood b → (c = 32 ∨ c = 10) → (c' = 32 ∨ c' = 10) → a ++ c :: X = b ++ c' :: Y → a = b ∧ c = c' ∧ X = Y
  | [], [], c, c', X, Y, _, _, _, _, h => by simp at h; exact ⟨rfl, h.1, h.2⟩
  | [], y :: b, c, c', X, Y, _, hb, hc, _, h => by
    simp at h
    have := hb y (by simp)
    rcases hc with hc | hc <;> simp_all
  | x :: a, [], c, c', X, Y, ha, _, _, hc', h => by
    simp at h
    have := ha x (by simp)
    rcases hc' with hc | hc <;> simp_all
  | x :: a, y :: b, c, c', X, Y, ha, hb, hc, hc', h => by
    simp at h
    obtain ⟨h1, h2, h3⟩ := word_split (fun z hz => ha z (by simp [hz])) (fun z hz => hb z (by simp [hz])) hc hc' h.2
    exact ⟨by rw [h.1, h1], h2, h3⟩
def tailL (l : List Wd) : List UInt8 := (l.flatMap fun y => 32 :: wtx y) ++ [10]
theorem tail_split : ∀ {A B : List Wd} {X Y : List UInt8}, (∀ x ∈ A, wgood (wtx x)) → (∀ x ∈ B, wgood (wtx x)) → tailL A ++ X = tailL B ++ Y → A.map wtx = B.map wtx ∧ X = Y
  | [], [], X, Y, _, _, h => by simp [tailL] at h; exact ⟨rfl, h⟩
  | [], y :: B, X, Y, _, _, h => by simp [tailL] at h
  | x :: A, [], X, Y, _, _, h => by simp [tailL] at h
  | x :: A, y :: B, X, Y, ha, hb, h => by
    have e : ∀ (z : Wd) (l : List Wd) (Z : List UInt8), tailL (z :: l) ++ Z = 32 :: (wtx z ++ (tailL l ++ Z)) := fun z l Z => by simp [tailL]
    rw [e, e] at h
    have h1 := (List.cons.inj h).2
    obtain ⟨c, X', hX, hc⟩ : ∃ c X', tailL A ++ X = c :: X' ∧ (c = 32 ∨ c = 10) := by
      cases A with
      | nil => exact ⟨10, X, rfl, .inr rfl⟩
      | cons z l => exact ⟨32, _, e z l X, .inl rfl⟩
    obtain ⟨c', Y', hY, hc'⟩ : ∃ c X', tailL B ++ Y = c :: X' ∧ (c = 32 ∨ c = 10) := by
      cases B with
      | nil => exact ⟨10, Y, rfl, .inr rfl⟩
      | cons z l => exact ⟨32, _, e z l Y, .inl rfl⟩
    rw [hX, hY] at h1
    obtain ⟨h2, h3, h4⟩ := word_split (ha x (by simp)) (hb y (by simp)) hc hc' h1
    have h5 : tailL A ++ X = tailL B ++ Y := by rw [hX, hY, h3, h4]
    obtain ⟨h6, h7⟩ := tail_split (fun z hz => ha z (by simp [hz])) (fun z hz => hb z (by simp [hz])) h5
    exact ⟨by rw [List.map_cons, List.map_cons, h2, h6], h7⟩
theorem line_split {A B : List Wd} {X Y : List UInt8} (hA : A ≠ []) (hB : B ≠ []) (ha : ∀ x ∈ A, wgood (wtx x)) (hb : ∀ x ∈ B, wgood (wtx x)) (h : lineL A ++ X = lineL B ++ Y) : A.map wtx = B.map wtx ∧ X = Y := by
  cases A with
  | nil => exact absurd rfl hA
  | cons x A =>
    cases B with
    | nil => exact absurd rfl hB
    | cons y B =>
      have h1 : tailL (x :: A) ++ X = tailL (y :: B) ++ Y := by
        simp only [lineL, sepL, List.append_assoc] at h
        simp only [tailL, List.flatMap_cons, List.append_assoc, List.cons_append, List.nil_append] at h ⊢
        rw [h]
      exact tail_split ha hb h1

theorem head_good (d : Dv) : ∀ x ∈ headW d, wgood (wtx x) := by
  intro x hx
  simp only [headW, List.mem_cons, List.not_mem_nil, or_false] at hx
  rcases hx with rfl | rfl | rfl | rfl | rfl | rfl | rfl | rfl | rfl | rfl <;> first | exact wgood_itoa _ | (show ∀ c ∈ _, _; decide)
theorem run_good (r : Rn) : ∀ x ∈ runW r, wgood (wtx x) := by
  intro x hx
  simp only [runW, List.mem_cons, List.not_mem_nil, or_false] at hx
  rcases hx with rfl | rfl | rfl | rfl | rfl <;> first | exact wgood_itoa _ | (show ∀ c ∈ _, _; decide)
theorem pool_good (p : Pl) : ∀ x ∈ poolW p, wgood (wtx x) := by
  intro x hx
  simp only [poolW, List.mem_cons, List.not_mem_nil, or_false] at hx
  rcases hx with rfl | rfl | rfl | rfl | rfl | rfl | rfl | rfl | rfl | rfl | rfl <;> first | exact wgood_itoa _ | (show ∀ c ∈ _, _; decide)
theorem end_good : ∀ x ∈ endW, wgood (wtx x) := by
  intro x hx
  simp only [endW, List.mem_cons, List.not_mem_nil, or_false] at hx
  subst hx
  show ∀ c ∈ _, _; decide

/-- A text that begins with a line that is no run's. -/
def NoRun (X : List UInt8) : Prop := ∃ A Y, X = lineL A ++ Y ∧ A ≠ [] ∧ (∀ x ∈ A, wgood (wtx x)) ∧ (A.map wtx)[0]? ≠ some [109, 97, 112]
theorem runs_split : ∀ {R R' : List Rn} {X X' : List UInt8}, NoRun X → NoRun X' → R.flatMap runL ++ X = R'.flatMap runL ++ X' → R = R' ∧ X = X'
  | [], [], X, X', _, _, h => ⟨rfl, by simpa using h⟩
  | [], r :: R', X, X', hX, _, h => by
    obtain ⟨A, Y, rfl, hA, hg, hn⟩ := hX
    rw [List.flatMap_cons, runL, List.flatMap_nil, List.nil_append, List.append_assoc] at h
    obtain ⟨h1, _⟩ := line_split hA (by simp [runW]) hg (run_good r) h
    exact absurd (by rw [h1]; rfl) hn
  | r :: R, [], X, X', _, hX, h => by
    obtain ⟨A, Y, rfl, hA, hg, hn⟩ := hX
    rw [List.flatMap_cons, runL, List.flatMap_nil, List.nil_append, List.append_assoc] at h
    obtain ⟨h1, _⟩ := line_split (by simp [runW]) hA (run_good r) hg h
    exact absurd (by rw [← h1]; rfl) hn
  | r :: R, r' :: R', X, X', hX, hX', h => by
    rw [List.flatMap_cons, List.flatMap_cons, runL, runL, List.append_assoc, List.append_assoc] at h
    obtain ⟨h1, h2⟩ := line_split (by simp [runW]) (by simp [runW]) (run_good r) (run_good r') h
    obtain ⟨h3, h4⟩ := runs_split hX hX' h2
    simp only [runW, List.map_cons, List.map_nil, wtx, List.cons.injEq, and_true, true_and] at h1
    obtain ⟨e1, e2, e3, e4⟩ := h1
    have hr : r = r' := Prod.ext (itoa_inj e1) (Prod.ext (itoa_inj e2) (Prod.ext (itoa_inj e3) (itoa_inj e4)))
    exact ⟨by rw [hr, h3], h4⟩
theorem noRun_devs (L : List Dv) : NoRun (L.flatMap devL ++ lineL endW) := by
  cases L with
  | nil => exact ⟨endW, [], by simp, by simp [endW], end_good, by decide⟩
  | cons d L =>
    refine ⟨headW d, (runsOf d.2.2.2.2).flatMap runL ++ (L.flatMap devL ++ lineL endW), ?_, by simp [headW], head_good d, ?_⟩
    · rw [List.flatMap_cons, devL, List.append_assoc, List.append_assoc]
    · simp [headW, wtx]
theorem devs_split : ∀ {L L' : List Dv}, L.flatMap devL ++ lineL endW = L'.flatMap devL ++ lineL endW → L = L'
  | [], [], _ => rfl
  | [], d :: L', h => by
    rw [List.flatMap_cons, devL, List.flatMap_nil, List.nil_append, List.append_assoc, List.append_assoc, ← List.append_nil (lineL endW)] at h
    obtain ⟨h1, _⟩ := line_split (by simp [endW]) (by simp [headW]) end_good (head_good d) h
    simp [endW, headW] at h1
  | d :: L, [], h => by
    rw [List.flatMap_cons, devL, List.flatMap_nil, List.nil_append, List.append_assoc, List.append_assoc] at h
    have h' := h.trans (List.append_nil (lineL endW)).symm
    obtain ⟨h1, _⟩ := line_split (by simp [headW]) (by simp [endW]) (head_good d) end_good h'
    simp [endW, headW] at h1
  | d :: L, d' :: L', h => by
    rw [List.flatMap_cons, List.flatMap_cons, devL, devL, List.append_assoc, List.append_assoc, List.append_assoc, List.append_assoc] at h
    obtain ⟨h1, h2⟩ := line_split (by simp [headW]) (by simp [headW]) (head_good d) (head_good d') h
    obtain ⟨h3, h4⟩ := runs_split (noRun_devs L) (noRun_devs L') h2
    have h5 := devs_split h4
    have h6 := runsOf_inj h3
    simp only [headW, List.map_cons, List.map_nil, wtx, List.cons.injEq, and_true, true_and] at h1
    obtain ⟨e1, e2, e3, e4, e5⟩ := h1
    have hd : d = d' := Prod.ext (itoa_inj e1) (Prod.ext (itoa_inj e2) (Prod.ext (itoa_inj e3) (Prod.ext (itoa_inj e4) h6)))
    rw [hd, h5]
/-- A pool's text tells the pool. -/
theorem pool_inj {p q : Pl} (h : poolL p = poolL q) : p = q := by
  unfold poolL at h
  rw [List.append_assoc, List.append_assoc] at h
  obtain ⟨h1, h2⟩ := line_split (by simp [poolW]) (by simp [poolW]) (pool_good p) (pool_good q) h
  have h3 := devs_split h2
  simp only [poolW, List.map_cons, List.map_nil, wtx, List.cons.injEq, and_true, true_and] at h1
  obtain ⟨e1, e2, e3, e4, e5⟩ := h1
  exact Prod.ext (itoa_inj e1) (Prod.ext (itoa_inj e2) (Prod.ext (itoa_inj e3) (Prod.ext (itoa_inj e4) h3)))
end Go.Proofs.YtaglmkjkmhpifaaDoor
