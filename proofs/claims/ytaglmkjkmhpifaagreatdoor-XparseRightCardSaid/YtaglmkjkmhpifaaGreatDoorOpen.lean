/- Arguments that are slices of structs of one-cell fields, opened to lists. -/
import Derived.Test.YtaglmkjkmhpifaaGreatDoorBase
import Derived.Deep.Slices
import Derived.Deep.Fields
import Derived.ChangeSame
import Derived.ProofKit
import Derived.OpenShut
import Derived.ChangeOld
namespace Go.Proofs.YtaglmkjkmhpifaaGreatDoor
open Go.RowKit Go.ChangeShapes Go.WideShapes Go.Deep

section
variable {H : Type} {enc : TypeId × Value → H} {P : Program} {w : World} {base : Nat} {spare : Nat → Bool} {held : Bool}
theorem open_slice_fields {t e : TypeId} {fs : Array Field} {fuel : Nat} {cs : List Value} {x : DataW H × List MemPlace} (ht : P.underlying t = some (.slice e)) (he : P.underlying e = some (.struct fs))
    (hone : oneCellFields P fs = true) (hC : P.cellsOf e = fs.size) (h : DataW.trod enc P w base spare held fuel t cs = some x) :
    cs = [.slice none 0 0] ∨
    ∃ (a : Addr) (len cap : Nat), cs = [.slice (some a) len cap] ∧ len ≤ cap ∧ cap ≤ maxLen ∧
      ∀ i, i < len → ∃ (n : Nat), ∀ (j : Nat) (f : Field), fs[j]? = some f → ∃ (v : Value) (y : DataW H × List MemPlace), w.cell? (a.add (i * fs.size + j)) = some v ∧ DataW.trod enc P w base spare held n f.type [v] = some y := by
  rcases open_slice ht h with h0 | ⟨a, len, cap, m, n, D, Pl, hcs, hb, hl, hm, hmm, hx, hi⟩
  · exact .inl h0.1
  · refine .inr ⟨a, len, cap, hcs, hl, hm, fun i him => ?_⟩
    obtain ⟨cs', hc, ht'⟩ := hi i (by rw [hmm]; split <;> omega)
    rw [hC] at hc
    obtain ⟨ys, n', hn', hy, hlen, hyl, hf⟩ := DataW.trod_struct he ht'
    obtain ⟨_, hcl, hat⟩ := World.cells?_some hc
    refine ⟨n', fun j f hj => ?_⟩
    obtain ⟨ho, hk⟩ := hone_of hone j f hj
    have hjl : j < fs.size := (Array.getElem?_eq_some_iff.1 hj).1
    have hcell := hat j hjl
    have hv : cs'[j]? = some (cs'[j]'(by omega)) := List.getElem?_eq_getElem (by omega)
    have h1 := hf j f hj
    rw [ho, hk] at h1
    have hone' : (cs'.drop j).take 1 = [cs'[j]'(by omega)] := by
      rw [List.drop_eq_getElem_cons (by omega)]
      rfl
    rw [hone'] at h1
    have hys : ys[j]? = some (ys[j]'(by omega)) := List.getElem?_eq_getElem (by omega)
    refine ⟨_, _, ?_, h1.trans hys⟩
    rw [← Go.Deep.add_add, hcell, hv]
end

theorem list_choice {α : Type} {Q : Nat → α → Prop} : ∀ n : Nat, (∀ i, i < n → ∃ x, Q i x) → ∃ l : List α, l.length = n ∧ ∀ i x, l[i]? = some x → Q i x
  | 0, _ => ⟨[], rfl, fun i x h => by simp at h⟩
  | n + 1, h => by
    obtain ⟨l, hl, hq⟩ := list_choice n (fun i hi => h i (by omega))
    obtain ⟨x, hx⟩ := h n (by omega)
    refine ⟨l ++ [x], by simp [hl], fun i y hy => ?_⟩
    rcases Nat.lt_or_ge i l.length with h1 | h1
    · rw [List.getElem?_append_left h1] at hy; exact hq i y hy
    · rw [List.getElem?_append_right h1] at hy
      have hi : i - l.length < 1 := by simpa using lt_of_get hy
      have e : i = n := by omega
      subst e
      rw [hl] at hy
      simp at hy
      exact hy ▸ hx

/-- From cells to the word 'Rd'. -/
theorem rd_of_cells {α : Type} {w : World} {a : Addr} {size n : Nat} {c : α → List Value} (hsz : 0 < size) (hc : ∀ x, (c x).length = size)
    (h : ∀ i, i < n → ∃ x : α, ∀ j u, (c x)[j]? = some u → w.cell? (a.add (i * size + j)) = some u) : ∃ l : List α, l.length = n ∧ Rd w w.heap.size size c (some a) l := by
  obtain ⟨l, hl, hq⟩ := list_choice n h
  refine ⟨l, hl, fun i x hx => ?_⟩
  have h1 := hq i x hx
  have hj0 : (c x)[0]? = some ((c x)[0]'(by rw [hc]; exact hsz)) := List.getElem?_eq_getElem _
  have h2 := h1 0 _ hj0
  have hspot : a.spot = none ∨ i * size + 0 ≠ 0 := by
    by_cases e : i * size + 0 = 0
    · left
      rw [e] at h2
      simpa [Addr.add] using World.cell?_spot h2
    · exact Or.inr e
  have hblk : a.block < w.heap.size := by
    have := World.block_lt_of_cell? w _ h2
    rwa [show (a.add (i * size + 0)).block = a.block by unfold Addr.add; split <;> rfl] at this
  obtain ⟨b, off, spot⟩ := a
  have hx0 : l[0]? = some (l[0]'(by have := lt_of_get hx; omega)) := List.getElem?_eq_getElem _
  have h3 := hq 0 _ hx0 0 _ (List.getElem?_eq_getElem (by rw [hc]; exact hsz))
  have hs : spot = none := by simpa [Addr.add] using World.cell?_spot h3
  subst hs
  exact ⟨b, off, rfl, hblk, fun j u hu => by have := h1 j u hu; rwa [Addr.add_lit, ← Nat.add_assoc] at this⟩

end Go.Proofs.YtaglmkjkmhpifaaGreatDoor
