/- Chapter 41: a slice of tags that came in reads as a list; what it weighs. -/
import Derived.Test.YtcblakflhheepaaRows
import Derived.Test.YtcblakflhheepaaOpen
import Derived.Test.YtcblakflhheepaaTagZ
namespace Go.Proofs.Ytcblakflhheepaa
open Go.ChangeShapes Go.WideShapes Go.ChangeAt Go.RowKit Go.Deep
set_option linter.unusedVariables false
set_option linter.unusedSimpArgs false

theorem bulk_append {H : Type} (l r : List (DataW H)) : Rows.uptoBulkAll (l ++ r) = Rows.uptoBulkAll l + Rows.uptoBulkAll r := by
  induction l with
  | nil => simp [Rows.uptoBulkAll]
  | cons x l ih => simp only [List.cons_append, Rows.uptoBulkAll, ih]; omega

section
variable {H : Type} {enc : TypeId × Value → H} {P : Program} {w : World} {base : Nat} {spare : Nat → Bool} {held : Bool}
theorem struct_cells {e : TypeId} {fs : Array Field} {n : Nat} {a : Addr} {cs' : List Value} {x : DataW H × List MemPlace} (he : P.underlying e = some (.struct fs))
    (hone : oneCellFields P fs = true) (hC : P.cellsOf e = fs.size) (hc : w.cells? base a (P.cellsOf e) = some cs') (ht' : DataW.trod enc P w base spare held n e cs' = some x) :
    ∃ (xs : List (DataW H × List MemPlace)) (n' : Nat), x.1 = .agg (xs.map (·.1)) ∧ xs.length = fs.size ∧
      ∀ (j : Nat) (f : Field), fs[j]? = some f → ∃ v, w.cell? (a.add j) = some v ∧ DataW.trod enc P w base spare held n' f.type [v] = xs[j]? := by
  rw [hC] at hc
  obtain ⟨ys, n', hn', hy, hlen, hyl, hf⟩ := DataW.trod_struct he ht'
  obtain ⟨_, hcl, hat⟩ := World.cells?_some hc
  refine ⟨ys, n', by rw [hy], hyl, fun j f hj => ?_⟩
  obtain ⟨ho, hk⟩ := hone_of hone j f hj
  have hjl : j < fs.size := (Array.getElem?_eq_some_iff.1 hj).1
  have hcell := hat j hjl
  have hv : cs'[j]? = some (cs'[j]'(by omega)) := List.getElem?_eq_getElem (by omega)
  have h1 := hf j f hj
  rw [ho, hk] at h1
  have hone' : (cs'.drop j).take 1 = [cs'[j]'(by omega)] := by
    rw [List.drop_eq_getElem_cons (by omega)]
    rfl
  rw [hone'] at h1
  exact ⟨_, by rw [hcell, hv], h1⟩
end

/-- From cells of a list to the word 'Rd'. -/
theorem rd_of_list {α : Type} {w : World} {a : Addr} {size : Nat} {c : α → List Value} (hsz : 0 < size) (hc : ∀ x, (c x).length = size) (l : List α)
    (hq : ∀ i x, l[i]? = some x → ∀ j u, (c x)[j]? = some u → w.cell? (a.add (i * size + j)) = some u) : Rd w w.heap.size size c (some a) l := by
  intro i x hx
  have h1 := hq i x hx
  have hj0 : (c x)[0]? = some ((c x)[0]'(by rw [hc]; exact hsz)) := List.getElem?_eq_getElem _
  have h2 := h1 0 _ hj0
  have hblk : a.block < w.heap.size := by
    have := World.block_lt_of_cell? w _ h2
    rwa [show (a.add (i * size + 0)).block = a.block by unfold Addr.add; split <;> rfl] at this
  obtain ⟨b, off, spot⟩ := a
  have hx0 : l[0]? = some (l[0]'(by have := lt_of_get hx; omega)) := List.getElem?_eq_getElem _
  have h3 := hq 0 _ hx0 0 _ (List.getElem?_eq_getElem (by rw [hc]; exact hsz))
  have hs : spot = none := by simpa [Addr.add] using World.cell?_spot h3
  subst hs
  exact ⟨b, off, rfl, hblk, fun j u hu => by have := h1 j u hu; rwa [Addr.add_lit, ← Nat.add_assoc] at this⟩

theorem bulk_range {H : Type} {α : Type} (f : α → Nat) (D : Nat → DataW H) : ∀ (n : Nat) (l : List α), l.length = n → (∀ i x, l[i]? = some x → f x ≤ Rows.uptoBulk (D i)) → (l.map f).sum ≤ Rows.uptoBulkAll ((List.range n).map D)
  | 0, l, hl, _ => by rw [List.eq_nil_of_length_eq_zero hl]; simp
  | n + 1, l, hl, h => by
    have hx : l[n]? = some (l[n]'(by omega)) := List.getElem?_eq_getElem _
    have e : l = l.take n ++ [l[n]'(by omega)] := by rw [← take_step hx, List.take_of_length_le (by omega)]
    have h1 := bulk_range f D n (l.take n) (by simp; omega) (fun i x hi => h i x (by
      rw [List.getElem?_take] at hi
      split at hi
      · exact hi
      · cases hi))
    have h2 := h n _ hx
    rw [e, List.range_succ, List.map_append, List.sum_append, List.map_append, bulk_append]
    simp only [List.map_cons, List.map_nil, List.sum_cons, List.sum_nil, Rows.uptoBulkAll]
    omega

section
variable {H : Type} {enc : TypeId × Value → H} {w : World} {base fuel : Nat} {spare : Nat → Bool} {held : Bool}
/-- A slice of attributes that came in. -/
theorem open_attrs {a : Option Addr} {n cap : Nat} {x : DataW H × List MemPlace}
    (h : DataW.trod enc Try.prog w base spare held fuel 58 [.slice a n cap] = some x) : ∃ l : List Ai, n = l.length ∧ n ≤ cap ∧ Rd w w.heap.size 3 aic a l ∧ (l.map wgtA).sum + 1 ≤ Rows.uptoBulk x.1 := by
  rcases open_slice Try.underlying58 h with ⟨h0, hx⟩ | ⟨a', n', cap', m, n0, D, Pl, h0, hb, hl, hm, hmm, hx, hi⟩
  · simp at h0
    obtain ⟨rfl, rfl, rfl⟩ := h0
    exact ⟨[], rfl, by simp, Rd.nil, by rw [hx]; simp [Rows.uptoBulk]⟩
  · simp at h0
    obtain ⟨rfl, rfl, rfl⟩ := h0
    have hnm : n ≤ m := by rw [hmm]; split <;> omega
    obtain ⟨l, hll, hq⟩ := list_choice (α := Ai) (Q := fun i x => (∀ j u, (aic x)[j]? = some u → w.cell? (a'.add (i * 3 + j)) = some u) ∧ wgtA x ≤ Rows.uptoBulk (D i)) n (fun i hin => by
      obtain ⟨cs', hc, htr⟩ := hi i (by omega)
      obtain ⟨xs, n1, hxs, hxl, hf⟩ := struct_cells Try.underlying62 (by kernel_rfl) (by kernel_rfl) hc htr
      have hC : Try.prog.cellsOf 62 = 3 := by kernel_rfl
      obtain ⟨v0, c0, t0⟩ := hf 0 _ rfl
      obtain ⟨v1, c1, t1⟩ := hf 1 _ rfl
      obtain ⟨v2, c2, t2⟩ := hf 2 _ rfl
      have hx3 : xs.length = 3 := hxl
      match xs, hx3, t0, t1, t2, hxs with
      | [x0, x1, x2], _, t0, t1, t2, hxs =>
        obtain ⟨s0, e0, y0, _⟩ := DataW.trod_string Try.underlying9 t0
        obtain ⟨s1, e1, y1, _⟩ := DataW.trod_string Try.underlying9 t1
        obtain ⟨i2, e2, y2, _⟩ := DataW.trod_int (k := .i64) Try.underlying3 t2
        simp at e0 e1 e2
        subst e0; subst e1; subst e2
        refine ⟨(s0, s1, i2), fun j u hu => ?_, ?_⟩
        · rw [hC, Go.Deep.add_add] at c0 c1 c2
          match j, hu with
          | 0, hu => simp at hu; subst hu; exact c0
          | 1, hu => simp at hu; subst hu; exact c1
          | 2, hu => simp at hu; subst hu; exact c2
          | j + 3, hu => simp at hu
        · have q0 : s0.data.toList.length = s0.size := by simp
          have q1 : s1.data.toList.length = s1.size := by simp
          dsimp only at hxs
          rw [hxs, y0, y1, y2]
          simp only [List.map_cons, List.map_nil, Rows.uptoBulk, Rows.uptoBulkAll, wgtA]
          omega)
    refine ⟨l, hll.symm, by omega, rd_of_list (by decide) aic_len l (fun i x hx => (hq i x hx).1), ?_⟩
    have h1 := bulk_range wgtA D n l hll (fun i x hx => (hq i x hx).2)
    rw [hx]
    simp only [Rows.uptoBulk]
    omega

/-- A slice of tags that came in. -/
theorem open_tags {a : Option Addr} {n cap : Nat} {x : DataW H × List MemPlace}
    (h : DataW.trod enc Try.prog w base spare held fuel 42 [.slice a n cap] = some x) : ∃ L : List Ti, n = L.length ∧ RdJ w w.heap.size a L ∧ (L.map wgt).sum + 1 ≤ Rows.uptoBulk x.1 := by
  rcases open_slice Try.underlying42 h with ⟨h0, hx⟩ | ⟨a', n', cap', m, n0, D, Pl, h0, hb, hl, hm, hmm, hx, hi⟩
  · simp at h0
    obtain ⟨rfl, rfl, rfl⟩ := h0
    exact ⟨[], rfl, (fun i t ht => by simp at ht), by rw [hx]; simp [Rows.uptoBulk]⟩
  · simp at h0
    obtain ⟨rfl, rfl, rfl⟩ := h0
    have hnm : n ≤ m := by rw [hmm]; split <;> omega
    obtain ⟨l, hll, hq⟩ := list_choice (α := Ri × Ti) (Q := fun i x => (∀ j u, (ric x.1)[j]? = some u → w.cell? (a'.add (i * 4 + j)) = some u) ∧ wgt x.2 ≤ Rows.uptoBulk (D i) ∧
        x.1.1 = x.2.1 ∧ x.1.2.1 = x.2.2.1 ∧ x.1.2.2.2 = x.2.2.2.2 ∧ x.1.2.2.1.2.1 = x.2.2.2.1.length ∧ x.1.2.2.1.2.1 ≤ x.1.2.2.1.2.2 ∧ Rd w w.heap.size 3 aic x.1.2.2.1.1 x.2.2.2.1) n (fun i hin => by
      obtain ⟨cs', hc, htr⟩ := hi i (by omega)
      obtain ⟨xs, n1, hxs, hxl, hf⟩ := struct_cells Try.underlying60 (by kernel_rfl) (by kernel_rfl) hc htr
      have hC : Try.prog.cellsOf 60 = 4 := by kernel_rfl
      obtain ⟨v0, c0, t0⟩ := hf 0 _ rfl
      obtain ⟨v1, c1, t1⟩ := hf 1 _ rfl
      obtain ⟨v2, c2, t2⟩ := hf 2 _ rfl
      obtain ⟨v3, c3, t3⟩ := hf 3 _ rfl
      have hx3 : xs.length = 4 := hxl
      match xs, hx3, t0, t1, t2, t3, hxs with
      | [x0, x1, x2, x3], _, t0, t1, t2, t3, hxs =>
        obtain ⟨i0, e0, y0, _⟩ := DataW.trod_int (k := .i64) Try.underlying3 t0
        obtain ⟨s1, e1, y1, _⟩ := DataW.trod_string Try.underlying9 t1
        obtain ⟨i3, e3, y3, _⟩ := DataW.trod_int (k := .i64) Try.underlying3 t3
        simp at e0 e1 e3
        subst e0; subst e1; subst e3
        obtain ⟨a2, n2, cap2, rfl⟩ : ∃ a2 n2 cap2, v2 = .slice a2 n2 cap2 := by
          rcases open_slice Try.underlying58 t2 with ⟨h0, _⟩ | ⟨a', n', cap', _, _, _, _, h0, _⟩
          · simp at h0; exact ⟨_, _, _, h0⟩
          · simp at h0; exact ⟨_, _, _, h0⟩
        obtain ⟨l, hn, hcap, hr, hbk⟩ := open_attrs t2
        refine ⟨((i0, s1, (a2, n2, cap2), i3), (i0, s1, l, i3)), fun j u hu => ?_, ?_, rfl, rfl, rfl, hn, hcap, hr⟩
        · rw [hC, Go.Deep.add_add] at c0 c1 c2 c3
          match j, hu with
          | 0, hu => simp at hu; subst hu; exact c0
          | 1, hu => simp at hu; subst hu; exact c1
          | 2, hu => simp at hu; subst hu; exact c2
          | 3, hu => simp at hu; subst hu; exact c3
          | j + 4, hu => simp at hu
        · have q1 : s1.data.toList.length = s1.size := by simp
          dsimp only at hxs hbk
          rw [hxs, y0, y1, y3]
          simp only [List.map_cons, List.map_nil, Rows.uptoBulk, Rows.uptoBulkAll, wgt]
          omega)
    have hrd : Rd w w.heap.size 4 ric (some a') (l.map (·.1)) := rd_of_list (by decide) ric_len _ (fun i x hx => by
      rw [List.getElem?_map] at hx
      obtain ⟨y, hy, rfl⟩ := Option.map_eq_some_iff.1 hx
      exact (hq i y hy).1)
    refine ⟨l.map (·.2), by simp [hll], fun i t ht => ?_, ?_⟩
    · rw [List.getElem?_map] at ht
      obtain ⟨y, hy, rfl⟩ := Option.map_eq_some_iff.1 ht
      obtain ⟨_, _, h1, h2, h3, h4, h5, h6⟩ := hq i y hy
      obtain ⟨b, off, hA, hb', hcc⟩ := hrd i y.1 (by rw [List.getElem?_map, hy]; rfl)
      refine ⟨b, off, y.1.2.2.1.1, y.1.2.2.1.2.2, hA, hb', ?_, ?_, ?_, ?_, h6, by omega⟩
      · have := hcc 0 _ rfl; simpa [h1] using this
      · have := hcc 1 _ rfl; rw [this, h2]
      · have := hcc 2 _ rfl; rw [this, h4]
      · have := hcc 3 _ rfl; rw [this, h3]
    · have h1 := bulk_range (fun x : Ri × Ti => wgt x.2) D n l hll (fun i x hx => (hq i x hx).2.1)
      rw [hx]
      simp only [Rows.uptoBulk]
      rw [List.map_map]
      have e : (List.map (wgt ∘ fun x : Ri × Ti => x.2) l).sum = (List.map (fun x : Ri × Ti => wgt x.2) l).sum := rfl
      omega
end
end Go.Proofs.Ytcblakflhheepaa
