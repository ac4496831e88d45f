/- Devices and pools that came in read as lists; the tables that a row lists. -/
import Derived.Test.YtaglmkjkmhpifaaGreatDoorCards
import Derived.Test.YtaglmkjkmhpifaaGreatDoorTie
import Derived.Test.YtaglmkjkmhpifaaGreatDoorOpen
import Derived.Test.YtaglmkjkmhpifaaGreatDoorPoolB
import Derived.Deep.DeepHandedRow
import Derived.Lib.LaidTab
namespace Go.Proofs.YtaglmkjkmhpifaaGreatDoor
open Go.ChangeShapes Go.WideShapes Go.ChangeAt Go.RowKit Go.Deep
set_option linter.unusedVariables false
set_option linter.unusedSimpArgs false

theorem own : ownKnob Tryz.prog.godebug = none := by kernel_rfl
theorem laidOut : laidOutB Tryz.prog = true := by kernel_rfl

/-- A struct of one-cell fields that came in by value: its cells, and how each field reads. -/
theorem open_value {H : Type} {enc : TypeId × Value → H} {P : Program} {w : World} {base : Nat} {spare : Nat → Bool} {held : Bool} {r : Reach} {b0 : Nat} {t : TypeId} {fs : Array Field} {v : Value} {d : DataW H} {p : List MemPlace}
    (hs : P.underlying t = some (.struct fs)) (hone : oneCellFields P fs = true) (hC : P.cellsOf t = fs.size) (hv : Value.okWide P w r b0 t v) (h : DataW.Trod enc P w base spare held t v d p) :
    ∃ cs : Array Value, v = .agg cs ∧ cs.size = fs.size ∧ ∃ (ys : List (DataW H × List MemPlace)) (n : Nat), d = .agg (ys.map (·.1)) ∧ ys.length = fs.size ∧
      ∀ (j : Nat) (f : Field), fs[j]? = some f → ∃ (c : Value) (y : DataW H × List MemPlace), cs[j]? = some c ∧ ys[j]? = some y ∧ DataW.trod enc P w base spare held n f.type [c] = some y := by
  obtain ⟨cs, rfl, hsz⟩ := okWide_struct hs hv
  obtain ⟨fuel, hf⟩ := h
  obtain ⟨ys, n, _, hx, hl, hyl, hg⟩ := DataW.trod_struct hs hf
  simp only [Prod.mk.injEq] at hx
  refine ⟨cs, rfl, hsz.trans hC, ys, n, hx.1, hyl, fun j f hj => ?_⟩
  obtain ⟨ho, hk⟩ := hone_of hone j f hj
  have hjl : j < fs.size := (Array.getElem?_eq_some_iff.1 hj).1
  have h1 := hg j f hj
  rw [ho, hk] at h1
  have hcl : j < cs.toList.length := by simp; omega
  have h2 : ((Value.agg cs).cells.toList.drop j).take 1 = [cs.toList[j]] := by
    show (cs.toList.drop j).take 1 = _
    rw [List.drop_eq_getElem_cons hcl]; rfl
  rw [h2] at h1
  have hyj : ys[j]? = some (ys[j]'(by omega)) := List.getElem?_eq_getElem _
  refine ⟨cs.toList[j], _, ?_, hyj, by rw [h1, hyj]⟩
  rw [← Array.getElem?_toList]
  exact List.getElem?_eq_getElem hcl

theorem agg5 {cs : Array Value} {a0 a1 a2 a3 a4 : Value} (hs : cs.size = 5) (h0 : cs[0]? = some a0) (h1 : cs[1]? = some a1) (h2 : cs[2]? = some a2) (h3 : cs[3]? = some a3) (h4 : cs[4]? = some a4) : cs = #[a0, a1, a2, a3, a4] := by
  obtain ⟨l⟩ := cs
  match l, hs with
  | [c0, c1, c2, c3, c4], _ =>
    simp at h0 h1 h2 h3 h4
    subst h0; subst h1; subst h2; subst h3; subst h4
    rfl

section
variable {H : Type} {enc : TypeId × Value → H} {w : World} {base fuel : Nat} {spare : Nat → Bool} {held : Bool}
/-- A slice of mappings that came in. -/
theorem open_maps {a : Option Addr} {n cap : Nat} {x : DataW H × List MemPlace}
    (h : DataW.trod enc Tryz.prog w base spare held fuel 36 [.slice a n cap] = some x) : ∃ l : List Mp, n = l.length ∧ l.length ≤ maxLen ∧ Rd w w.heap.size 3 mc a l := by
  rcases open_slice_fields Tryz.underlying36 Tryz.underlying112 (by kernel_rfl) (by kernel_rfl) h with h0 | ⟨a', n', cap', h0, h1, h2, h3⟩
  · simp at h0
    obtain ⟨rfl, rfl, rfl⟩ := h0
    exact ⟨[], rfl, by simp, Rd.nil⟩
  · simp at h0
    obtain ⟨rfl, rfl, rfl⟩ := h0
    obtain ⟨l, hl, hr⟩ := rd_of_cells (α := Mp) (w := w) (a := a') (size := 3) (n := n) (c := mc) (by decide) (fun _ => rfl) (fun i hi => by
      obtain ⟨m, hm⟩ := h3 i hi
      obtain ⟨v0, y0, c0, t0⟩ := hm 0 _ rfl
      obtain ⟨v1, y1, c1, t1⟩ := hm 1 _ rfl
      obtain ⟨v2, y2, c2, t2⟩ := hm 2 _ rfl
      obtain ⟨i0, e0, _, _⟩ := DataW.trod_int (k := .i64) Tryz.underlying3 t0
      obtain ⟨i1, e1, _, _⟩ := DataW.trod_int (k := .i64) Tryz.underlying3 t1
      obtain ⟨i2, e2, _, _⟩ := DataW.trod_int (k := .i64) Tryz.underlying3 t2
      simp at e0 e1 e2
      subst e0; subst e1; subst e2
      refine ⟨(i0, i1, i2), fun j u hu => ?_⟩
      match j, hu with
      | 0, hu => simp [mc] at hu; subst hu; exact c0
      | 1, hu => simp [mc] at hu; subst hu; exact c1
      | 2, hu => simp [mc] at hu; subst hu; exact c2
      | j + 3, hu => simp [mc] at hu)
    exact ⟨l, hl.symm, by omega, hr⟩
theorem slice_of {t e : TypeId} (ht : Tryz.prog.underlying t = some (.slice e)) {v : Value} {x : DataW H × List MemPlace} (h : DataW.trod enc Tryz.prog w base spare held fuel t [v] = some x) : ∃ a n cap, v = .slice a n cap := by
  rcases open_slice ht h with ⟨h0, _⟩ | ⟨a', n', cap', _, _, _, _, h0, _⟩
  · simp at h0; exact ⟨_, _, _, h0⟩
  · simp at h0; exact ⟨_, _, _, h0⟩
set_option maxRecDepth 100000 in
/-- A device that came in by value. -/
theorem open_device {r : Reach} {b0 : Nat} {v : Value} {d : DataW H} {p : List MemPlace} (hv : Value.okWide Tryz.prog w r b0 38 v) (h : DataW.Trod enc Tryz.prog w base spare held 38 v d p) :
    ∃ (D : Dv) (A : Option Addr) (cap : Nat), v = .agg #[.int .i64 D.1, .int .i64 D.2.1, .int .i64 D.2.2.1, .int .i64 D.2.2.2.1, .slice A D.2.2.2.2.length cap] ∧ I64 D.1 ∧ I64 D.2.1 ∧ I64 D.2.2.1 ∧ I64 D.2.2.2.1 ∧ D.2.2.2.2.length ≤ maxLen ∧ Rd w w.heap.size 3 mc A D.2.2.2.2 := by
  obtain ⟨cs, rfl, hsz, ys, n, hd, hyl, hf⟩ := open_value Tryz.underlying38 (by kernel_rfl) (by kernel_rfl) hv h
  obtain ⟨v0, y0, c0, -, t0⟩ := hf 0 _ rfl
  obtain ⟨v1, y1, c1, -, t1⟩ := hf 1 _ rfl
  obtain ⟨v2, y2, c2, -, t2⟩ := hf 2 _ rfl
  obtain ⟨v3, y3, c3, -, t3⟩ := hf 3 _ rfl
  obtain ⟨v4, y4, c4, -, t4⟩ := hf 4 _ rfl
  obtain ⟨i0, e0, _, w0⟩ := DataW.trod_int (k := .i64) Tryz.underlying3 t0
  obtain ⟨i1, e1, _, w1⟩ := DataW.trod_int (k := .i64) Tryz.underlying3 t1
  obtain ⟨i2, e2, _, w2⟩ := DataW.trod_int (k := .i64) Tryz.underlying3 t2
  obtain ⟨i3, e3, _, w3⟩ := DataW.trod_int (k := .i64) Tryz.underlying3 t3
  simp at e0 e1 e2 e3
  subst e0; subst e1; subst e2; subst e3
  obtain ⟨a, n0, cap, rfl⟩ := slice_of Tryz.underlying36 t4
  obtain ⟨l, hn, hl, hr⟩ := open_maps t4
  subst hn
  obtain rfl := agg5 hsz c0 c1 c2 c3 c4
  exact ⟨(i0, i1, i2, i3, l), a, cap, rfl, bounds_i64 w0, bounds_i64 w1, bounds_i64 w2, bounds_i64 w3, hl, hr⟩
end

/-- What a row lists gives the table of powers of ten. -/
theorem tab_of {W : World} (h : laidMetH Tryz.prog [("math/bits.deBruijn32tab", Rows.laid_math_bits_deBruijn32tab), ("math/bits.deBruijn64tab", Rows.laid_math_bits_deBruijn64tab), ("internal/strconv.uint64pow10", Rows.laid_internal_strconv_uint64pow10)] W) : Tab W := by
  have h1 : laidMet Tryz.prog [("math/bits.deBruijn32tab", Rows.laid_math_bits_deBruijn32tab), ("math/bits.deBruijn64tab", Rows.laid_math_bits_deBruijn64tab), ("internal/strconv.uint64pow10", Rows.laid_internal_strconv_uint64pow10)] W := h
  obtain ⟨ps, ⟨_, _, _, _, _, q1, _, _, _, _, ⟨_, _, _, _, _, q2, _, _, _, _, h2, _⟩, _⟩, _⟩ := h1
  obtain ⟨g', t', cs, fuel, p, q, hg', ht', hvar, hd, _, _⟩ := h2
  obtain rfl := Option.some.inj (gTab.symm.trans hg')
  have hty : (Tryz.prog.globals[1]?).map (·.type) = some 163 := by kernel_rfl
  obtain rfl := Option.some.inj (hty.symm.trans ht')
  have htab : Rows.laid_internal_strconv_uint64pow10 (H := Unit) = Lib.tabData .u64 Lib.pow10Tab := by rfl
  rw [htab] at hd
  unfold Tab Lib.TabIs
  rw [hvar, ← Lib.cells_of_tab Tryz.underlying163 Tryz.underlying131 (by kernel_rfl) (by kernel_rfl) hd]

def layIn (cs : Array Value) : Obj → Obj
  | .cells _ t frozen => .cells cs t frozen
  | o => o
/-- A world for the witnesses: the settled one, the three tables holding what the text lays. -/
noncomputable def laidWorld (os : Os) : World :=
  { World.holding Tryz.prog os ⟨#[], #[], []⟩ with heap := (((World.holding Tryz.prog os ⟨#[], #[], []⟩).heap.modify 1 (layIn #[.int .u64 1, .int .u64 10, .int .u64 100, .int .u64 1000, .int .u64 10000, .int .u64 100000, .int .u64 1000000, .int .u64 10000000, .int .u64 100000000, .int .u64 1000000000, .int .u64 10000000000, .int .u64 100000000000, .int .u64 1000000000000, .int .u64 10000000000000, .int .u64 100000000000000, .int .u64 1000000000000000, .int .u64 10000000000000000, .int .u64 100000000000000000, .int .u64 1000000000000000000, .int .u64 10000000000000000000])).modify 2 (layIn #[.int .u8 0, .int .u8 1, .int .u8 28, .int .u8 2, .int .u8 29, .int .u8 14, .int .u8 24, .int .u8 3, .int .u8 30, .int .u8 22, .int .u8 20, .int .u8 15, .int .u8 25, .int .u8 17, .int .u8 4, .int .u8 8, .int .u8 31, .int .u8 27, .int .u8 13, .int .u8 23, .int .u8 21, .int .u8 19, .int .u8 16, .int .u8 7, .int .u8 26, .int .u8 12, .int .u8 18, .int .u8 6, .int .u8 11, .int .u8 5, .int .u8 10, .int .u8 9])).modify 3 (layIn #[.int .u8 0, .int .u8 1, .int .u8 56, .int .u8 2, .int .u8 57, .int .u8 49, .int .u8 28, .int .u8 3, .int .u8 61, .int .u8 58, .int .u8 42, .int .u8 50, .int .u8 38, .int .u8 29, .int .u8 17, .int .u8 4, .int .u8 62, .int .u8 47, .int .u8 59, .int .u8 36, .int .u8 45, .int .u8 43, .int .u8 51, .int .u8 22, .int .u8 53, .int .u8 39, .int .u8 33, .int .u8 30, .int .u8 24, .int .u8 18, .int .u8 12, .int .u8 5, .int .u8 63, .int .u8 55, .int .u8 48, .int .u8 27, .int .u8 60, .int .u8 41, .int .u8 37, .int .u8 16, .int .u8 46, .int .u8 35, .int .u8 44, .int .u8 21, .int .u8 52, .int .u8 32, .int .u8 23, .int .u8 11, .int .u8 54, .int .u8 26, .int .u8 40, .int .u8 15, .int .u8 34, .int .u8 20, .int .u8 31, .int .u8 10, .int .u8 25, .int .u8 14, .int .u8 19, .int .u8 9, .int .u8 13, .int .u8 8, .int .u8 7, .int .u8 6]) }
end Go.Proofs.YtaglmkjkmhpifaaGreatDoor
