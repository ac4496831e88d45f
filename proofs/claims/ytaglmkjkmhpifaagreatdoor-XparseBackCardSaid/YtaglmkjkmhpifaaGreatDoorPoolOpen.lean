/- Pools that came in by value read as lists, within the reach of the machine. -/
import Derived.Test.YtaglmkjkmhpifaaGreatDoorEmOpen
import Derived.SizedLaws
namespace Go.Proofs.YtaglmkjkmhpifaaGreatDoor
open Go.ChangeShapes Go.WideShapes Go.ChangeAt Go.RowKit Go.Deep
set_option linter.unusedVariables false
set_option linter.unusedSimpArgs false

section
variable {H : Type} {enc : TypeId × Value → H} {P : Program} {w : World} {base : Nat} {spare : Nat → Bool} {held : Bool}
theorem weights_mem_all {P : Program} {e : TypeId} : ∀ {l : List (DataW H)} {d : DataW H}, d ∈ l → ∀ n ∈ d.weights P e, n ∈ DataW.weightsAll P e l
  | x :: l, d, hd, n, hn => by
    simp only [DataW.weightsAll, List.mem_append]
    rcases List.mem_cons.1 hd with rfl | hd
    · exact .inl hn
    · exact .inr (weights_mem_all hd n hn)
theorem struct_cells {e : TypeId} {fs : Array Field} {n : Nat} {a : Addr} {cs' : List Value} {x : DataW H × List MemPlace} (he : P.underlying e = some (.struct fs))
    (hone : oneCellFields P fs = true) (hC : P.cellsOf e = fs.size) (hc : w.cells? base a (P.cellsOf e) = some cs') (ht' : DataW.trod enc P w base spare held n e cs' = some x) :
    ∃ (xs : List (DataW H × List MemPlace)) (n' : Nat), x.1 = .agg (xs.map (·.1)) ∧ xs.length = fs.size ∧
      ∀ (j : Nat) (f : Field), fs[j]? = some f → ∃ v, w.cell? (a.add j) = some v ∧ DataW.trod enc P w base spare held n' f.type [v] = xs[j]? := by
  rw [hC] at hc
  obtain ⟨ys, n', hn', hy, hlen, hyl, hf⟩ := DataW.trod_struct he ht'
  obtain ⟨_, hcl, hat⟩ := World.cells?_some hc
  refine ⟨ys, n', by rw [hy], hyl, fun j f hj => ?_⟩
  obtain ⟨ho, hk⟩ := hone_of hone j f hj
  have hjl : j < fs.size := (Array.getElem?_eq_some_iff.1 hj).1
  have hcell := hat j hjl
  have hv : cs'[j]? = some (cs'[j]'(by omega)) := List.getElem?_eq_getElem (by omega)
  have h1 := hf j f hj
  rw [ho, hk] at h1
  have hone' : (cs'.drop j).take 1 = [cs'[j]'(by omega)] := by
    rw [List.drop_eq_getElem_cons (by omega)]
    rfl
  rw [hone'] at h1
  exact ⟨_, by rw [hcell, hv], h1⟩
/-- What a slice's own weight says of its length. -/
theorem open_len {t e : TypeId} {fuel : Nat} {a : Option Addr} {n cap : Nat} {x : DataW H × List MemPlace} (ht : P.underlying t = some (.slice e)) (h : DataW.trod enc P w base spare held fuel t [.slice a n cap] = some x)
    (hw : ∀ q ∈ x.1.weights P t, q ≤ reachBytes) : n * P.bytesOf e ≤ reachBytes := by
  rcases open_slice ht h with ⟨h0, hx⟩ | ⟨a', n', cap', m, n0, D, Pl, h0, hb, hl, hm, hmm, hx, hi⟩
  · simp at h0
    obtain ⟨rfl, rfl, rfl⟩ := h0
    simp
  · simp at h0
    obtain ⟨rfl, rfl, rfl⟩ := h0
    have h1 := hw ((((List.range n).map D).length + ((List.range (m - n)).map fun j => D (n + j)).length) * P.bytesOf e) (by rw [hx]; simp only [DataW.weights, ht]; exact List.mem_cons_self)
    simp only [List.length_map, List.length_range] at h1
    exact Nat.le_trans (Nat.mul_le_mul_right _ (by omega)) h1
end

theorem list_choice2 {α : Type} {Q : Nat → α → Prop} (n : Nat) (h : ∀ i, i < n → ∃ x, Q i x) : ∃ l : List α, l.length = n ∧ ∀ i x, l[i]? = some x → Q i x := list_choice n h

section
variable {H : Type} {enc : TypeId × Value → H} {w : World} {base fuel : Nat} {spare : Nat → Bool} {held : Bool}
set_option maxRecDepth 100000 in
theorem open_devs {a : Option Addr} {n cap : Nat} {x : DataW H × List MemPlace}
    (h : DataW.trod enc Tryz.prog w base spare held fuel 22 [.slice a n cap] = some x) (hw : ∀ q ∈ x.1.weights Tryz.prog 22, q ≤ reachBytes) :
    ∃ L : List Dv, n = L.length ∧ RdD w w.heap.size a L ∧ L.length ≤ 6000000000000 ∧ ∀ d ∈ L, d.2.2.2.2.length ≤ 6000000000000 := by
  have hn := open_len Tryz.underlying22 h hw
  have hbd : Tryz.prog.bytesOf 38 = 56 := by kernel_rfl
  have hbm : Tryz.prog.bytesOf 112 = 24 := by kernel_rfl
  rw [hbd] at hn
  have hre : reachBytes = 140737488351232 := rfl
  rw [hre] at hn hw
  rcases open_slice Tryz.underlying22 h with ⟨h0, hx⟩ | ⟨a', n', cap', m, n0, D, Pl, h0, hb, hl, hm, hmm, hx, hi⟩
  · simp at h0
    obtain ⟨rfl, rfl, rfl⟩ := h0
    exact ⟨[], rfl, RdD.nil _ _ _, by simp, by simp⟩
  · simp at h0
    obtain ⟨rfl, rfl, rfl⟩ := h0
    have hnm : n ≤ m := by rw [hmm]; split <;> omega
    obtain ⟨L, hll, hq⟩ := list_choice2 (α := Dv) (Q := fun i d => ∃ b off A' cap, a' = ⟨b, off, none⟩ ∧ b < w.heap.size ∧ w.cell? ⟨b, off + i * 5, none⟩ = some (.int .i64 d.1) ∧ w.cell? ⟨b, off + i * 5 + 1, none⟩ = some (.int .i64 d.2.1) ∧
        w.cell? ⟨b, off + i * 5 + 2, none⟩ = some (.int .i64 d.2.2.1) ∧ w.cell? ⟨b, off + i * 5 + 3, none⟩ = some (.int .i64 d.2.2.2.1) ∧ w.cell? ⟨b, off + i * 5 + 4, none⟩ = some (.slice A' d.2.2.2.2.length cap) ∧ Rd w w.heap.size 3 mc A' d.2.2.2.2 ∧
        d.2.2.2.2.length ≤ 6000000000000) n (fun i hin => by
      obtain ⟨cs', hc, htr⟩ := hi i (by omega)
      obtain ⟨xs, n1, hxs, hxl, hf⟩ := struct_cells Tryz.underlying38 (by kernel_rfl) (by kernel_rfl) hc htr
      have hC : Tryz.prog.cellsOf 38 = 5 := by kernel_rfl
      have hDw : ∀ q ∈ (D i).weights Tryz.prog 38, q ≤ 140737488351232 := fun q hqm => hw q (by
        rw [hx]
        simp only [DataW.weights, Tryz.underlying22, List.mem_cons, List.mem_append]
        exact .inr (.inl (weights_mem_all (List.mem_map.2 ⟨i, List.mem_range.2 hin, rfl⟩) q hqm)))
      have hx5 : xs.length = 5 := hxl
      obtain ⟨v0, c0, t0⟩ := hf 0 _ rfl
      obtain ⟨v1, c1, t1⟩ := hf 1 _ rfl
      obtain ⟨v2, c2, t2⟩ := hf 2 _ rfl
      obtain ⟨v3, c3, t3⟩ := hf 3 _ rfl
      obtain ⟨v4, c4, t4⟩ := hf 4 _ rfl
      match xs, hx5, t0, t1, t2, t3, t4, hxs with
      | [x0, x1, x2, x3, x4], _, t0, t1, t2, t3, t4, hxs =>
        obtain ⟨i0, e0, y0, _⟩ := DataW.trod_int (k := .i64) Tryz.underlying3 t0
        obtain ⟨i1, e1, y1, _⟩ := DataW.trod_int (k := .i64) Tryz.underlying3 t1
        obtain ⟨i2, e2, y2, _⟩ := DataW.trod_int (k := .i64) Tryz.underlying3 t2
        obtain ⟨i3, e3, y3, _⟩ := DataW.trod_int (k := .i64) Tryz.underlying3 t3
        simp at e0 e1 e2 e3
        subst e0; subst e1; subst e2; subst e3
        obtain ⟨a2, n2, cap2, rfl⟩ := slice_of Tryz.underlying36 t4
        obtain ⟨l, hn2, _, hr⟩ := open_maps t4
        have h4 : ∀ q ∈ x4.1.weights Tryz.prog 36, q ≤ reachBytes := fun q hqm => hDw q (by
          dsimp only at hxs
          rw [hxs]
          simp only [DataW.weights, Tryz.underlying38]
          exact DataW.weights_mem_each (j := 4) rfl rfl q hqm)
        have hn4 := open_len Tryz.underlying36 t4 h4
        rw [hbm, hre] at hn4
        rw [hC, Go.Deep.add_add] at c0 c1 c2 c3 c4
        obtain ⟨b, off, spot⟩ := a'
        have hblk : b < w.heap.size := by
          have := World.block_lt_of_cell? w _ c0
          rwa [show (Addr.add ⟨b, off, spot⟩ (i * 5 + 0)).block = b by unfold Addr.add; split <;> rfl] at this
        have hsp : spot = none := by
          obtain ⟨cs0, hc0, htr0⟩ := hi 0 (by omega)
          obtain ⟨xs0, n10, hxs0, hxl0, hf0⟩ := struct_cells Tryz.underlying38 (by kernel_rfl) (by kernel_rfl) hc0 htr0
          obtain ⟨v00, c00, _⟩ := hf0 0 _ rfl
          simpa [Addr.add] using World.cell?_spot c00
        subst hsp
        subst hn2
        rw [Addr.add_lit, ← Nat.add_assoc] at c0 c1 c2 c3 c4
        exact ⟨(i0, i1, i2, i3, l), b, off, a2, cap2, rfl, hblk, c0, c1, c2, c3, c4, hr, by dsimp only; omega⟩)
    refine ⟨L, hll.symm, fun i d hd => ?_, by omega, fun d hd => ?_⟩
    · obtain ⟨b, off, A', cap', h1, h2, h3, h4, h5, h6, h7, h8, h9⟩ := hq i d hd
      exact ⟨b, off, A', cap', by rw [h1], h2, h3, h4, h5, h6, h7, h8⟩
    · obtain ⟨i, hi'⟩ := List.getElem?_of_mem hd
      obtain ⟨b, off, A', cap', h1, h2, h3, h4, h5, h6, h7, h8, h9⟩ := hq i d hi'
      exact h9
set_option maxRecDepth 100000 in
/-- A pool that came in by value. -/
theorem open_pool {r : Reach} {b0 : Nat} {v : Value} {d : DataW H} {p : List MemPlace} (hv : Value.okWide Tryz.prog w r b0 24 v) (h : DataW.Trod enc Tryz.prog w base spare held 24 v d p) (hw : ∀ q ∈ d.weights Tryz.prog 24, q ≤ reachBytes) :
    ∃ (p : Pl) (A : Option Addr) (cap : Nat), v = .agg #[.int .i64 p.1, .int .i64 p.2.1, .int .i64 p.2.2.1, .int .i64 p.2.2.2.1, .slice A p.2.2.2.2.length cap] ∧ I64 p.1 ∧ I64 p.2.1 ∧ I64 p.2.2.1 ∧ I64 p.2.2.2.1 ∧
      RdD w w.heap.size A p.2.2.2.2 ∧ p.2.2.2.2.length ≤ 6000000000000 ∧ ∀ d ∈ p.2.2.2.2, d.2.2.2.2.length ≤ 6000000000000 := by
  obtain ⟨cs, rfl, hsz, ys, n, hd, hyl, hf⟩ := open_value Tryz.underlying24 (by kernel_rfl) (by kernel_rfl) hv h
  obtain ⟨v0, y0, c0, -, t0⟩ := hf 0 _ rfl
  obtain ⟨v1, y1, c1, -, t1⟩ := hf 1 _ rfl
  obtain ⟨v2, y2, c2, -, t2⟩ := hf 2 _ rfl
  obtain ⟨v3, y3, c3, -, t3⟩ := hf 3 _ rfl
  obtain ⟨v4, y4, c4, g4, t4⟩ := hf 4 _ rfl
  obtain ⟨i0, e0, _, w0⟩ := DataW.trod_int (k := .i64) Tryz.underlying3 t0
  obtain ⟨i1, e1, _, w1⟩ := DataW.trod_int (k := .i64) Tryz.underlying3 t1
  obtain ⟨i2, e2, _, w2⟩ := DataW.trod_int (k := .i64) Tryz.underlying3 t2
  obtain ⟨i3, e3, _, w3⟩ := DataW.trod_int (k := .i64) Tryz.underlying3 t3
  simp at e0 e1 e2 e3
  subst e0; subst e1; subst e2; subst e3
  obtain ⟨a, n0, cap, rfl⟩ := slice_of Tryz.underlying22 t4
  have h4 : ∀ q ∈ y4.1.weights Tryz.prog 22, q ≤ reachBytes := fun q hqm => hw q (by
    rw [hd]
    simp only [DataW.weights, Tryz.underlying24]
    exact DataW.weights_mem_each (j := 4) rfl (by rw [List.getElem?_map, g4]; rfl) q hqm)
  obtain ⟨L, hn, hr, hl, hm⟩ := open_devs t4 h4
  subst hn
  obtain rfl := agg5 hsz c0 c1 c2 c3 c4
  exact ⟨(i0, i1, i2, i3, L), a, cap, rfl, bounds_i64 w0, bounds_i64 w1, bounds_i64 w2, bounds_i64 w3, hr, hl, hm⟩
end
end Go.Proofs.YtaglmkjkmhpifaaGreatDoor
