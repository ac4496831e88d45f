/- Chapter 41, plain: what the scanner finds at a place whose text is known. -/
import Derived.Test.YtaglmkjkmhpifaaGreatDoorTagV
namespace Go.Proofs.YtaglmkjkmhpifaaGreatDoor
open Go.RowKit
set_option linter.unusedVariables false
set_option linter.unusedSimpArgs false

/-- From k on, s reads X, and no more. -/
def Sx (s : ByteArray) (k : Nat) (X : List UInt8) : Prop := k + X.length = s.size ∧ s.data.toList.drop k = X
theorem Sx.all (l : List UInt8) : Sx ⟨l.toArray⟩ 0 l := ⟨by simp [ByteArray.size], by simp⟩
section
variable {s : ByteArray} {k : Nat} {X Y : List UInt8} {c : UInt8} {p : Int → Bool}
theorem Sx.lt (h : Sx s k (c :: X)) : k < s.size := by have := h.1; simp at this; omega
theorem Sx.le (h : Sx s k X) : k ≤ s.size := by have := h.1; omega
theorem Sx.step (h : Sx s k (X ++ Y)) : Sx s (k + X.length) Y := by
  refine ⟨by have := h.1; simp at this; omega, ?_⟩
  rw [← List.drop_drop, h.2, List.drop_left]
theorem Sx.step1 (h : Sx s k (c :: X)) : Sx s (k + 1) X := Sx.step (X := [c]) h
theorem Sx.byt (h : Sx s k (c :: X)) : byt s k = (c.toNat : Int) := by
  have h1 : s.data.toList[k]? = some c := by
    have h2 : (s.data.toList.drop k)[0]? = some c := by rw [h.2]; rfl
    simpa [List.getElem?_drop] using h2
  unfold Go.Proofs.YtaglmkjkmhpifaaGreatDoor.byt
  rw [h1]; rfl
theorem Sx.isB (h : Sx s k (c :: X)) : isB p s k = p (c.toNat : Int) := by
  unfold Go.Proofs.YtaglmkjkmhpifaaGreatDoor.isB
  rw [h.byt]; simp [h.lt]
theorem Sx.isB_nil (h : Sx s k []) : Go.Proofs.YtaglmkjkmhpifaaGreatDoor.isB p s k = false := by
  have := h.1
  unfold Go.Proofs.YtaglmkjkmhpifaaGreatDoor.isB
  simp at this
  simp; omega
theorem takeWhile_app {α : Type} {p : α → Bool} : ∀ {a X : List α}, (∀ x ∈ a, p x = true) → (∀ c, X.head? = some c → p c = false) → (a ++ X).takeWhile p = a
  | [], [], _, _ => rfl
  | [], c :: X, _, hX => by simp [List.takeWhile_cons, hX c rfl]
  | x :: a, X, ha, hX => by
    rw [List.cons_append, List.takeWhile_cons, ha x (by simp)]
    have := takeWhile_app (a := a) (fun y hy => ha y (List.mem_cons_of_mem _ hy)) hX
    simp [this]
theorem Sx.endB {a : List UInt8} (h : Sx s k (a ++ X)) (ha : ∀ x ∈ a, p (x.toNat : Int) = true) (hX : ∀ c, X.head? = some c → p (c.toNat : Int) = false) : endB p s k = k + a.length := by
  unfold Go.Proofs.YtaglmkjkmhpifaaGreatDoor.endB
  rw [h.2, takeWhile_app (p := fun b : UInt8 => p (b.toNat : Int)) ha hX]
theorem Sx.extract {a : List UInt8} (h : Sx s k (a ++ X)) : s.extract k (k + a.length) = ⟨a.toArray⟩ := by
  apply ByteArray.ext
  apply Array.toList_inj.1
  rw [Lib.extract_data, h.2]
  simp
theorem Sx.must : ∀ {l : List UInt8} {k : Nat}, Sx s k (l ++ X) → mustL s k l = .ok (k + l.length)
  | [], k, _ => rfl
  | c :: l, k, h => by
    unfold mustL
    rw [Sx.isB (X := l ++ X) h]
    simp only [isC, BEq.rfl, if_true]
    rw [Sx.must (l := l) (Sx.step1 (X := l ++ X) h)]
    simp; omega
end

theorem bytes_of (b : ByteArray) : (⟨b.data.toList.toArray⟩ : ByteArray) = b := by cases b; simp
theorem nameB_spec {n : ByteArray} (h : nameB n = true) : (∀ x ∈ n.data.toList, letB (x.toNat : Int) = true) ∧ ∃ c r, n.data.toList = c :: r := by
  simp only [nameB, Bool.and_eq_true, allP, List.all_eq_true] at h
  refine ⟨h.2, ?_⟩
  have h1 := h.1
  rw [Lib.toList_data] at h1
  cases hn : n.data.toList with
  | nil => rw [hn] at h1; simp at h1
  | cons c r => exact ⟨c, r, rfl⟩
theorem let_bla {c : Int} (h : letB c = true) : blaB c = false := by simp [letB] at h; simp [blaB]; omega
theorem let_ne {c : Int} (h : letB c = true) : c ≠ 47 ∧ c ≠ 33 ∧ c ≠ 62 := by simp [letB] at h; omega
theorem fndS_false {l : List Av} {n : ByteArray} (h : ∀ a ∈ l, a.1 ≠ n) : (fndS l n).2 = false := by
  induction l with
  | nil => rfl
  | cons a l ih =>
    unfold fndS
    rw [if_neg (h a (by simp))]
    exact ih fun b hb => h b (by simp [hb])

/-- A tag, an attribute, less its places. -/
def eraA (a : ByteArray × ByteArray × Int) : ByteArray × ByteArray := (a.1, a.2.1)
def eraT (t : Ti) : Int × ByteArray × List (ByteArray × ByteArray) := (t.1, t.2.1, t.2.2.1.map eraA)

theorem attrL_at {s : ByteArray} {k : Nat} {X : List UInt8} {l : List Av} {n v : ByteArray} (h : Sx s k (n.data.toList ++ ([61, 34] ++ (v.data.toList ++ ([34] ++ X))))) (hn : nameB n = true) (hv : allP plaB v = true) (hl : ∀ a ∈ l, a.1 ≠ n) :
    attrL l s k = .ok ((n, v, k), k + n.data.toList.length + 2 + v.data.toList.length + 1) := by
  obtain ⟨h1, c, r, hc⟩ := nameB_spec hn
  have e1 : endB letB s k = k + n.data.toList.length := h.endB h1 (fun c hc => by simp at hc; subst hc; decide)
  have e2 : isB letB s k = true := by
    have h' := h
    rw [hc, List.cons_append] at h'
    rw [h'.isB]
    exact h1 c (by rw [hc]; simp)
  have h2 := h.step
  have e3 := Sx.must h2
  have h3 := h2.step
  have e4 : endB plaB s (k + n.data.toList.length + 2) = k + n.data.toList.length + 2 + v.data.toList.length :=
    h3.endB (fun x hx => List.all_eq_true.1 hv x hx) (fun c hc => by simp at hc; subst hc; decide)
  have h4 := h3.step
  have e5 := Sx.must h4
  have e6 := h.extract
  have e7 := h3.extract
  rw [bytes_of] at e6 e7
  simp only [List.length_cons, List.length_nil, Nat.zero_add, Nat.reduceAdd] at e3 e5 e7
  unfold attrL nameL
  rw [e2]
  simp only [if_true]
  rw [e1, e6, fndS_false hl]
  simp only [Bool.false_eq_true, if_false]
  rw [e3]
  dsimp only
  rw [e4, e5, e7]

theorem atxt_eq (a : Ai) : atxt a = 32 :: (a.1.data.toList ++ ([61, 34] ++ (a.2.1.data.toList ++ [34]))) := by simp [atxt]
theorem hasB_names {n : ByteArray} {seen : List Ai} {l : List Av} (h : hasB n seen = false) (hs : l.map (·.1) = seen.map (·.1)) : ∀ a ∈ l, a.1 ≠ n := by
  intro a ha he
  have h1 : a.1 ∈ seen.map (·.1) := by rw [← hs]; exact List.mem_map.2 ⟨a, ha, rfl⟩
  obtain ⟨b, hb, hb2⟩ := List.mem_map.1 h1
  have : hasB n seen = true := by
    unfold hasB
    refine List.any_eq_true.2 ⟨b, hb, ?_⟩
    simp [eqS, hb2, he]
  rw [h] at this
  cases this

theorem attrsL_at {s : ByteArray} {X : List UInt8} (hX : ∃ c Y, X = c :: Y ∧ (c = 47 ∨ c = 62)) : ∀ (ats seen : List Ai) (l : List Av) (k n : Nat), Sx s k (ats.flatMap atxt ++ X) → rgtA seen ats = true → l.map (·.1) = seen.map (·.1) → ats.length < n →
    ∃ l' : List Av, attrsL false s n l k = .ok (l ++ l', k + (ats.flatMap atxt).length) ∧ (l'.map aOf).map eraA = ats.map eraA
  | [], seen, l, k, n, h, hr, hs, hn => by
    obtain ⟨c, Y, rfl, hc⟩ := hX
    obtain ⟨n, rfl⟩ : ∃ m, n = m + 1 := ⟨n - 1, by simp at hn; omega⟩
    have e1 : endB blaB s k = k := by
      have := Sx.endB (p := blaB) (a := []) h (fun x hx => by cases hx) (fun d hd => by simp at hd; subst hd; rcases hc with rfl | rfl <;> decide)
      simpa using this
    refine ⟨[], ?_, rfl⟩
    unfold attrsL
    simp [stB, e1]
  | a :: ats, seen, l, k, n, h, hr, hs, hn => by
    obtain ⟨n, rfl⟩ : ∃ m, n = m + 1 := ⟨n - 1, by simp at hn; omega⟩
    simp only [rgtA, Bool.and_eq_true, Bool.not_eq_true'] at hr
    obtain ⟨⟨⟨r1, r2⟩, r3⟩, r4⟩ := hr
    rw [List.flatMap_cons, atxt_eq] at h
    have h0 : Sx s k (32 :: (a.1.data.toList ++ ([61, 34] ++ (a.2.1.data.toList ++ ([34] ++ (ats.flatMap atxt ++ X)))))) := by simpa using h
    obtain ⟨q1, c, r, hc⟩ := nameB_spec r2
    have e1 : endB blaB s k = k + 1 := by
      have := Sx.endB (p := blaB) (a := [32]) (X := a.1.data.toList ++ ([61, 34] ++ (a.2.1.data.toList ++ ([34] ++ (ats.flatMap atxt ++ X))))) h0 (fun x hx => by simp at hx; subst hx; decide) (fun d hd => by
        rw [hc] at hd; simp at hd; subst hd; exact let_bla (q1 c (by rw [hc]; simp)))
      simpa using this
    have h1 := h0.step1
    have e2 : isB letB s (k + 1) = true := by
      have h' := h1
      rw [hc, List.cons_append] at h'
      rw [h'.isB]
      exact q1 c (by rw [hc]; simp)
    have e3 := attrL_at h1 r2 r3 (hasB_names r1 hs)
    have h2 : Sx s (k + 1 + a.1.data.toList.length + 2 + a.2.1.data.toList.length + 1) (ats.flatMap atxt ++ X) := h1.step.step.step.step
    obtain ⟨l', i1, i2⟩ := attrsL_at hX ats (seen ++ [a]) (l ++ [(a.1, a.2.1, k + 1)]) _ n h2 r4 (by simp [hs]) (by simp at hn; omega)
    refine ⟨(a.1, a.2.1, k + 1) :: l', ?_, by simp [aOf, eraA] at i2 ⊢; exact i2⟩
    unfold attrsL
    have e4 : stB false s k = false := by simp [stB, e1, e2]
    rw [e4]
    simp only [Bool.false_eq_true, if_false]
    rw [e1, e3]
    dsimp only
    rw [i1]
    simp only [List.append_assoc, List.singleton_append, Except.ok.injEq, Prod.mk.injEq, true_and]
    rw [List.flatMap_cons, List.length_append, atxt_eq]
    simp
    omega

theorem len_wgtA2 (l : List Ai) : l.length ≤ (l.map wgtA).sum := by
  induction l with
  | nil => simp
  | cons x l ih => simp only [List.map_cons, List.sum_cons, List.length_cons, wgtA] at *; omega
/-- The text of a tag less its line's end. -/
def btxt (t : Ti) : List UInt8 := opn t.1 ++ t.2.1.data.toList ++ t.2.2.1.flatMap atxt ++ (if t.1 = 3 then [47, 62] else [62])
theorem ttxt_eq (t : Ti) : ttxt t = btxt t ++ [10] := by
  unfold ttxt btxt cls
  split <;> simp
theorem tagL_at {s : ByteArray} {k at_ : Nat} {X : List UInt8} {t : Ti} (h : Sx s k (btxt t ++ X)) (hr : rgtB t = true) :
    ∃ l', tagL s (k + 1) at_ = .ok ((t.1, t.2.1, l', at_), k + (btxt t).length) ∧ (l'.map aOf).map eraA = t.2.2.1.map eraA ∧ isB (isC 33) s (k + 1) = false ∧ isB (isC 60) s k = true := by
  obtain ⟨t1, nm, ats, t4⟩ := t
  have hk := rgtB_kind hr
  simp only [rgtB, Bool.and_eq_true, Bool.not_eq_true'] at hr
  obtain ⟨⟨⟨⟨r1, r2⟩, r3⟩, r4⟩, r5⟩ := hr
  obtain ⟨q1, c, r, hc⟩ := nameB_spec r3
  have hcl := q1 c (by rw [hc]; simp)
  obtain ⟨z1, z2, z3⟩ := let_ne hcl
  dsimp only at hk r5
  rcases hk with rfl | rfl | rfl
  · have h0 : Sx s k (60 :: (nm.data.toList ++ (ats.flatMap atxt ++ (62 :: X)))) := by simpa [btxt, opn] using h
    have h1 := h0.step1
    have h1c := h1
    rw [hc, List.cons_append] at h1c
    have hcl0 : isB (isC 47) s (k + 1) = false := by rw [h1c.isB]; simpa [isC] using z1
    have hn : nameL s (oneIf false (k + 1)) = .ok (nm, k + 1 + nm.data.toList.length) := by
      have e1 : endB letB s (k + 1) = k + 1 + nm.data.toList.length := h1.endB q1 (fun d hd => by
        cases ats with
        | nil => simp at hd; subst hd; decide
        | cons a ats => simp [atxt] at hd; subst hd; decide)
      have e2 := h1.extract
      rw [bytes_of] at e2
      unfold nameL oneIf
      simp only [Bool.false_eq_true, if_false]
      rw [h1c.isB, hcl, e1, e2]
      simp
    obtain ⟨l', i1, i2⟩ := attrsL_at (X := 62 :: X) ⟨62, X, rfl, .inr rfl⟩ ats [] [] _ (s.size + 1) h1.step r5 rfl (by
      have h2 := h1.step.1
      have h3 := flat_wgtA ats
      have h4 : ats.length ≤ (ats.map wgtA).sum := len_wgtA2 ats
      simp only [List.length_append] at h2
      omega)
    have h5 := h1.step.step
    have hal : aloB false s (k + 1 + nm.data.toList.length + (ats.flatMap atxt).length) = false := by unfold aloB; rw [h5.isB]; simp [isC]
    have hm : mustL s (oneIf (aloB false s (k + 1 + nm.data.toList.length + (ats.flatMap atxt).length)) (k + 1 + nm.data.toList.length + (ats.flatMap atxt).length)) [62] = .ok (k + 1 + nm.data.toList.length + (ats.flatMap atxt).length + 1) := by
      rw [hal]; exact Sx.must (l := [62]) h5
    have := tagL_ok (at_ := at_) hcl0.symm hn i1 hm
    refine ⟨l', ?_, i2, by rw [h1c.isB]; simpa [isC] using z2, by rw [h0.isB]; simp [isC]⟩
    rw [this, hal]
    simp [btxt, opn, kdI]
    omega
  · have has : ats = [] := by
      have := r4
      simp at this
      exact this
    subst has
    have h0 : Sx s k (60 :: (47 :: (nm.data.toList ++ (62 :: X)))) := by simpa [btxt, opn] using h
    have h1 := h0.step1
    have hcl0 : isB (isC 47) s (k + 1) = true := by rw [h1.isB]; simp [isC]
    have h2 := h1.step1
    have h2c := h2
    rw [hc, List.cons_append] at h2c
    have hn : nameL s (oneIf true (k + 1)) = .ok (nm, k + 1 + 1 + nm.data.toList.length) := by
      have e1 : endB letB s (k + 1 + 1) = k + 1 + 1 + nm.data.toList.length := h2.endB q1 (fun d hd => by simp at hd; subst hd; decide)
      have e2 := h2.extract
      rw [bytes_of] at e2
      unfold nameL oneIf
      simp only [if_true]
      rw [h2c.isB, hcl, e1, e2]
      simp
    have h3 := h2.step
    have e1 : endB blaB s (k + 1 + 1 + nm.data.toList.length) = k + 1 + 1 + nm.data.toList.length := by
      have := Sx.endB (p := blaB) (a := []) h3 (fun x hx => by cases hx) (fun d hd => by simp at hd; subst hd; decide)
      simpa using this
    have i1 : attrsL true s (s.size + 1) [] (k + 1 + 1 + nm.data.toList.length) = .ok ([], k + 1 + 1 + nm.data.toList.length) := by
      have e2 : stB true s (k + 1 + 1 + nm.data.toList.length) = true := by unfold stB; rfl
      unfold attrsL
      rw [e2, if_pos rfl, e1]
    have hm : mustL s (oneIf (aloB true s (k + 1 + 1 + nm.data.toList.length)) (k + 1 + 1 + nm.data.toList.length)) [62] = .ok (k + 1 + 1 + nm.data.toList.length + 1) := by
      simp only [aloB, Bool.not_true, Bool.false_and, oneIf, Bool.false_eq_true, if_false]
      exact Sx.must (l := [62]) h3
    have := tagL_ok (at_ := at_) hcl0.symm hn i1 hm
    refine ⟨[], ?_, rfl, by rw [h1.isB]; simp [isC], by rw [h0.isB]; simp [isC]⟩
    rw [this]
    simp [btxt, opn, kdI]
    omega
  · have h0 : Sx s k (60 :: (nm.data.toList ++ (ats.flatMap atxt ++ (47 :: (62 :: X))))) := by simpa [btxt, opn] using h
    have h1 := h0.step1
    have h1c := h1
    rw [hc, List.cons_append] at h1c
    have hcl0 : isB (isC 47) s (k + 1) = false := by rw [h1c.isB]; simpa [isC] using z1
    have hn : nameL s (oneIf false (k + 1)) = .ok (nm, k + 1 + nm.data.toList.length) := by
      have e1 : endB letB s (k + 1) = k + 1 + nm.data.toList.length := h1.endB q1 (fun d hd => by
        cases ats with
        | nil => simp at hd; subst hd; decide
        | cons a ats => simp [atxt] at hd; subst hd; decide)
      have e2 := h1.extract
      rw [bytes_of] at e2
      unfold nameL oneIf
      simp only [Bool.false_eq_true, if_false]
      rw [h1c.isB, hcl, e1, e2]
      simp
    obtain ⟨l', i1, i2⟩ := attrsL_at (X := 47 :: (62 :: X)) ⟨47, _, rfl, .inl rfl⟩ ats [] [] _ (s.size + 1) h1.step r5 rfl (by
      have h2 := h1.step.1
      have h3 := flat_wgtA ats
      have h4 : ats.length ≤ (ats.map wgtA).sum := len_wgtA2 ats
      simp only [List.length_append] at h2
      omega)
    have h5 := h1.step.step
    have hal : aloB false s (k + 1 + nm.data.toList.length + (ats.flatMap atxt).length) = true := by unfold aloB; rw [h5.isB]; simp [isC]
    have hm : mustL s (oneIf (aloB false s (k + 1 + nm.data.toList.length + (ats.flatMap atxt).length)) (k + 1 + nm.data.toList.length + (ats.flatMap atxt).length)) [62] = .ok (k + 1 + nm.data.toList.length + (ats.flatMap atxt).length + 1 + 1) := by
      rw [hal]; exact Sx.must (l := [62]) h5.step1
    have := tagL_ok (at_ := at_) hcl0.symm hn i1 hm
    refine ⟨l', ?_, i2, by rw [h1c.isB]; simpa [isC] using z2, by rw [h0.isB]; simp [isC]⟩
    rw [this, hal]
    simp [btxt, opn, kdI]
    omega

/-- Tags, each behind blanks. -/
def itxt (x : List UInt8 × Ti) : List UInt8 := x.1 ++ ttxt x.2
theorem tagsL_at {s : ByteArray} : ∀ (Ls : List (List UInt8 × Ti)) (acc : List Tgv) (pre : List UInt8) (k n : Nat), (∀ x ∈ pre, blaB (x.toNat : Int) = true) → (∀ x ∈ Ls, (∀ b ∈ x.1, blaB (b.toNat : Int) = true) ∧ rgtB x.2 = true) → Sx s k (pre ++ Ls.flatMap itxt) → Ls.length ≤ n →
    ∃ L', tagsL s n acc (endB blaB s k) = .ok (acc ++ L') ∧ (L'.map tOf).map eraT = (Ls.map (·.2)).map eraT
  | [], acc, pre, k, n, hp, hL, h, hn => by
    have e1 : endB blaB s k = k + pre.length := h.endB hp (fun d hd => by simp at hd)
    have h2 := h.step.1
    simp at h2
    refine ⟨[], ?_, rfl⟩
    cases n with
    | zero => simp [tagsL]
    | succ n => rw [tagsL_ge (by rw [e1]; omega)]; simp
  | (b, t) :: Ls, acc, pre, k, n, hp, hL, h, hn => by
    obtain ⟨n, rfl⟩ : ∃ m, n = m + 1 := ⟨n - 1, by simp at hn; omega⟩
    obtain ⟨hb, hr⟩ := hL (b, t) (by simp)
    dsimp only at hb hr
    have h0 : Sx s k ((pre ++ b) ++ (btxt t ++ ([10] ++ Ls.flatMap itxt))) := by
      simpa [itxt, ttxt_eq] using h
    have hop : ∃ Y, btxt t = 60 :: Y := by
      unfold btxt opn
      split
      · exact ⟨_, by simp; rfl⟩
      · exact ⟨_, by simp; rfl⟩
    obtain ⟨Y, hY⟩ := hop
    have e1 : endB blaB s k = k + (pre ++ b).length := h0.endB (fun x hx => (List.mem_append.1 hx).elim (hp x) (hb x)) (fun d hd => by rw [hY] at hd; simp at hd; subst hd; decide)
    have h1 := h0.step
    obtain ⟨l', i1, i2, i3, i4⟩ := tagL_at (at_ := k + (pre ++ b).length) h1 hr
    have h2 := h1.step
    obtain ⟨L', j1, j2⟩ := tagsL_at Ls (acc ++ [(t.1, t.2.1, l', k + (pre ++ b).length)]) [10] _ n (fun x hx => by simp at hx; subst hx; decide) (fun x hx => hL x (by simp [hx])) h2 (by simp at hn; omega)
    refine ⟨(t.1, t.2.1, l', k + (pre ++ b).length) :: L', ?_, ?_⟩
    · rw [e1]
      have hlt : k + (pre ++ b).length < s.size := by have h3 := h1; rw [hY] at h3; exact h3.lt
      rw [tagsL_lt hlt]
      have hm : mustL s (k + (pre ++ b).length) [60] = .ok (k + (pre ++ b).length + 1) := by
        have h3 := h1; rw [hY] at h3
        exact Sx.must (l := [60]) h3
      rw [hm]
      dsimp only
      rw [i3]
      simp only [Bool.false_eq_true, if_false]
      rw [i1]
      dsimp only
      rw [j1]
      simp
    · simp only [List.map_cons, j2]
      congr 1
      simp [eraT, tOf, i2]
/-- The tags of a text of right tags are these. -/
theorem tagsP_at (Ls : List (List UInt8 × Ti)) (hL : ∀ x ∈ Ls, (∀ b ∈ x.1, blaB (b.toNat : Int) = true) ∧ rgtB x.2 = true) :
    ∃ L', tagsP ⟨(Ls.flatMap itxt).toArray⟩ = .ok L' ∧ (L'.map tOf).map eraT = (Ls.map (·.2)).map eraT := by
  have hlen : ∀ Ls : List (List UInt8 × Ti), Ls.length ≤ (Ls.flatMap itxt).length := by
    intro Ls
    induction Ls with
    | nil => simp
    | cons x Ls ih => rw [List.flatMap_cons, List.length_append, List.length_cons, itxt, ttxt_eq, List.length_append, List.length_append, List.length_singleton]; omega
  obtain ⟨L', h1, h2⟩ := tagsL_at (s := ⟨(Ls.flatMap itxt).toArray⟩) Ls [] [] 0 (ByteArray.size ⟨(Ls.flatMap itxt).toArray⟩ + 1) (fun x hx => by cases hx) hL (Sx.all _) (by have := hlen Ls; show Ls.length ≤ (Ls.flatMap itxt).toArray.size + 1; rw [List.size_toArray]; omega)
  exact ⟨L', by simpa [tagsP] using h1, h2⟩
end Go.Proofs.YtaglmkjkmhpifaaGreatDoor
