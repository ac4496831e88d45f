/- Slices of mappings and of runs that came in read as lists. -/
import Derived.Test.YtcblakflhheepaaOpen
import Derived.Test.YtcblakflhheepaaRunsF
namespace Go.Proofs.Ytcblakflhheepaa
open Go.ChangeShapes Go.WideShapes Go.ChangeAt Go.RowKit

theorem own : ownKnob Try.prog.godebug = none := by kernel_rfl
theorem laidOut : laidOutB Try.prog = true := by kernel_rfl

/-- A slice of mappings that came in reads as a list. -/
theorem open_maps {H : Type} {enc : TypeId × Value → H} {w : World} {base fuel : Nat} {spare : Nat → Bool} {held : Bool} {a : Option Addr} {n cap : Nat} {x : DataW H × List MemPlace}
    (h : DataW.trod enc Try.prog w base spare held fuel 22 [.slice a n cap] = some x) : ∃ l : List Mp, n = l.length ∧ l.length ≤ maxLen ∧ Rd w w.heap.size 3 mc a l := by
  rcases open_slice_fields Try.underlying22 Try.underlying39 (by kernel_rfl) (by kernel_rfl) h with h0 | ⟨a', n', cap', h0, h1, h2, h3⟩
  · simp at h0
    obtain ⟨rfl, rfl, rfl⟩ := h0
    exact ⟨[], rfl, by simp, Rd.nil⟩
  · simp at h0
    obtain ⟨rfl, rfl, rfl⟩ := h0
    obtain ⟨l, hl, hr⟩ := rd_of_cells (α := Mp) (w := w) (a := a') (size := 3) (n := n) (c := mc) (by decide) mc_len (fun i hi => by
      obtain ⟨m, hm⟩ := h3 i hi
      obtain ⟨v0, y0, c0, t0⟩ := hm 0 _ rfl
      obtain ⟨v1, y1, c1, t1⟩ := hm 1 _ rfl
      obtain ⟨v2, y2, c2, t2⟩ := hm 2 _ rfl
      obtain ⟨i0, e0, _, _⟩ := DataW.trod_int (k := .i64) Try.underlying3 t0
      obtain ⟨i1, e1, _, _⟩ := DataW.trod_int (k := .i64) Try.underlying3 t1
      obtain ⟨i2, e2, _, _⟩ := DataW.trod_int (k := .i64) Try.underlying3 t2
      simp at e0 e1 e2
      subst e0; subst e1; subst e2
      refine ⟨(i0, i1, i2), fun j u hu => ?_⟩
      match j, hu with
      | 0, hu => simp [mc] at hu; subst hu; exact c0
      | 1, hu => simp [mc] at hu; subst hu; exact c1
      | 2, hu => simp [mc] at hu; subst hu; exact c2
      | j + 3, hu => simp [mc] at hu)
    exact ⟨l, hl.symm, by omega, hr⟩

/-- A slice of runs that came in reads as a list. -/
theorem open_runs {H : Type} {enc : TypeId × Value → H} {w : World} {base fuel : Nat} {spare : Nat → Bool} {held : Bool} {a : Option Addr} {n cap : Nat} {x : DataW H × List MemPlace}
    (h : DataW.trod enc Try.prog w base spare held fuel 26 [.slice a n cap] = some x) : ∃ l : List Rn, n = l.length ∧ l.length ≤ maxLen ∧ Rd w w.heap.size 4 rc a l := by
  rcases open_slice_fields Try.underlying26 Try.underlying41 (by kernel_rfl) (by kernel_rfl) h with h0 | ⟨a', n', cap', h0, h1, h2, h3⟩
  · simp at h0
    obtain ⟨rfl, rfl, rfl⟩ := h0
    exact ⟨[], rfl, by simp, Rd.nil⟩
  · simp at h0
    obtain ⟨rfl, rfl, rfl⟩ := h0
    obtain ⟨l, hl, hr⟩ := rd_of_cells (α := Rn) (w := w) (a := a') (size := 4) (n := n) (c := rc) (by decide) rc_len (fun i hi => by
      obtain ⟨m, hm⟩ := h3 i hi
      obtain ⟨v0, y0, c0, t0⟩ := hm 0 _ rfl
      obtain ⟨v1, y1, c1, t1⟩ := hm 1 _ rfl
      obtain ⟨v2, y2, c2, t2⟩ := hm 2 _ rfl
      obtain ⟨v3, y3, c3, t3⟩ := hm 3 _ rfl
      obtain ⟨i0, e0, _, _⟩ := DataW.trod_int (k := .i64) Try.underlying3 t0
      obtain ⟨i1, e1, _, _⟩ := DataW.trod_int (k := .i64) Try.underlying3 t1
      obtain ⟨i2, e2, _, _⟩ := DataW.trod_int (k := .i64) Try.underlying3 t2
      obtain ⟨i3, e3, _, _⟩ := DataW.trod_int (k := .i64) Try.underlying3 t3
      simp at e0 e1 e2 e3
      subst e0; subst e1; subst e2; subst e3
      refine ⟨(i0, i1, i2, i3), fun j u hu => ?_⟩
      match j, hu with
      | 0, hu => simp [rc] at hu; subst hu; exact c0
      | 1, hu => simp [rc] at hu; subst hu; exact c1
      | 2, hu => simp [rc] at hu; subst hu; exact c2
      | 3, hu => simp [rc] at hu; subst hu; exact c3
      | j + 4, hu => simp [rc] at hu)
    exact ⟨l, hl.symm, by omega, hr⟩

end Go.Proofs.Ytcblakflhheepaa
