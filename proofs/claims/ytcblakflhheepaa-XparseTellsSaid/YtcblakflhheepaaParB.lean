/- Chapter 43: the known tags: bounds. -/
import Derived.Test.YtcblakflhheepaaMapA
import Derived.Test.YtcblakflhheepaaNamA
namespace Go.Proofs.Ytcblakflhheepaa
open Go.RowKit
set_option linter.unusedVariables false
set_option linter.unusedSimpArgs false

/-- Every block but b stands. -/
structure KB (b : Nat) (w w' : World) : Prop where
  os : w'.os = w.os
  tape : w'.tape = w.tape
  output : w'.output = w.output
  size : w'.heap.size = w.heap.size
  block : ∀ k, k ≠ b → w'.heap[k]? = w.heap[k]?
section
variable {w w' : World} {b g B : Nat} {t : TypeId} {cs : Array Value} {es : List (ByteArray × Value)}
theorem Blk.kb (h : Blk w g t cs) (k : KB b w w') (hne : g ≠ b) : Blk w' g t cs := (k.block g hne).trans h
theorem MapAt.heap (h : MapAt w g es) (hh : w'.heap[g]? = w.heap[g]?) : MapAt w' g es := by
  obtain ⟨a, c, h1, h2⟩ := h
  exact ⟨a, c, hh.trans h1, h2⟩
theorem MapAt.kb (h : MapAt w g es) (k : KB b w w') (hne : g ≠ b) : MapAt w' g es := h.heap (k.block g hne)
theorem MapAt.lt (h : MapAt w g es) : g < w.heap.size := by
  obtain ⟨a, c, h1, h2⟩ := h
  exact (Array.getElem?_eq_some_iff.1 h1).1
theorem MapAt.alloc (h : MapAt w g es) (o : Obj) : MapAt (w.alloc o) g es := h.heap (Below.heap_alloc w o g h.lt)
theorem MapAt.new {k : Nat} (h : k = w.heap.size) : MapAt (w.alloc (.map #[] 0)) k [] := ⟨#[], 0, heap_new_at h, rfl⟩
theorem below_kb {a : World} (h : Below B a w) (k : KB b w w') (hB : B ≤ b) : Below B a w' :=
  ⟨k.os.trans h.os, k.tape.trans h.tape, k.output.trans h.output, by rw [k.size]; exact h.size, fun i hi => (k.block i (by omega)).trans (h.block i hi)⟩
theorem MapAt.below {B : Nat} (h : MapAt w g es) (hb : Below B w w') (hg : g < B) : MapAt w' g es := h.heap (hb.block g hg)
end
theorem MapAt.store {P : Program} {w : World} {b : Nat} {es : List (ByteArray × Value)} {t k e : TypeId} {s : ByteArray} (h : MapAt w b es) (ht : P.underlying t = some (.map k e)) (hk : P.underlying k = some .string) (v : Value) :
    ∃ w', (Instr.mapUpdate t (.map (some b)) (.string s) v).run P w = .ok () w' ∧ MapAt w' b (putA s v es) ∧ KB b w w' := by
  obtain ⟨w', h1, h2, h3, h4, h5, h6, h7⟩ := h.update ht hk (s := s) v
  exact ⟨w', h1, h2, ⟨h3, h4, h5, h6, h7⟩⟩
theorem wpList_insert_mp {P : Program} (w : World) {ops : Array Oper} {rest : List Oper} {o : Oper} {a : Act} {Q : Exit → Act → World → Prop}
    (hg : o.guard = none) (m x v : Operand) (t : TypeId) (hop : o.op = Op.insert t m x v) {k e : TypeId} (ht : P.underlying t = some (.map k e)) (hk : P.underlying k = some .string) (b : Nat) (es : List (ByteArray × Value)) (s : ByteArray) (val : Value)
    (hm : a.eval m = .map (some b)) (hx : a.eval x = .string s) (hv : a.eval v = val) (h : MapAt w b es)
    (hK : ∀ w', MapAt w' b (putA s val es) → KB b w w' → wpList P ops Q rest (a.put o.dst undef) w') : wpList P ops Q (o :: rest) a w := by
  refine wpList_plain hg fun K' hK' => ?_
  obtain ⟨w', hrun, r1, r2⟩ := h.store ht hk (s := s) val
  unfold Oper.wp
  simp [execOp, hop, hm, hx, hv, hrun, Result.andThen]
  exact hK' _ _ (hK w' r1 r2)
theorem wpList_update_mp {P : Program} (w : World) {ops : Array Oper} {rest : List Oper} {o : Oper} {a : Act} {Q : Exit → Act → World → Prop}
    (hg : o.guard = none) (m x v : Operand) (t : TypeId) (hop : o.op = Op.mapUpdate t m x v) {k e : TypeId} (ht : P.underlying t = some (.map k e)) (hk : P.underlying k = some .string) (b : Nat) (es : List (ByteArray × Value)) (s : ByteArray) (val : Value)
    (hm : a.eval m = .map (some b)) (hx : a.eval x = .string s) (hv : a.eval v = val) (h : MapAt w b es)
    (hK : ∀ w', MapAt w' b (putA s val es) → KB b w w' → wpList P ops Q rest (a.put o.dst undef) w') : wpList P ops Q (o :: rest) a w := by
  refine wpList_plain hg fun K' hK' => ?_
  obtain ⟨w', hrun, r1, r2⟩ := h.store ht hk (s := s) val
  unfold Oper.wp
  simp [execOp, hop, hm, hx, hv, hrun, Result.andThen]
  exact hK' _ _ (hK w' r1 r2)

/-- What is known of each tag: its attributes, and from where to where their numbers may be. -/
def kSuper : List (ByteArray × Int × Int) := [(⟨#[116, 105, 109, 101]⟩, 0, 16777215), (⟨#[116, 114, 97, 110, 115, 97, 99, 116, 105, 111, 110]⟩, 0, 2147483647), (⟨#[100, 97, 116, 97, 95, 98, 108, 111, 99, 107, 95, 115, 105, 122, 101]⟩, 1, 65536), (⟨#[110, 114, 95, 100, 97, 116, 97, 95, 98, 108, 111, 99, 107, 115]⟩, 0, 65536)]
def kDevice : List (ByteArray × Int × Int) := [(⟨#[100, 101, 118, 95, 105, 100]⟩, 0, 16777215), (⟨#[109, 97, 112, 112, 101, 100, 95, 98, 108, 111, 99, 107, 115]⟩, 0, 16384), (⟨#[116, 114, 97, 110, 115, 97, 99, 116, 105, 111, 110]⟩, 0, 2147483647), (⟨#[99, 114, 101, 97, 116, 105, 111, 110, 95, 116, 105, 109, 101]⟩, 0, 16777215), (⟨#[115, 110, 97, 112, 95, 116, 105, 109, 101]⟩, 0, 16777215)]
def kSingle : List (ByteArray × Int × Int) := [(⟨#[111, 114, 105, 103, 105, 110, 95, 98, 108, 111, 99, 107]⟩, 0, 281474976710655), (⟨#[100, 97, 116, 97, 95, 98, 108, 111, 99, 107]⟩, 0, 65535), (⟨#[116, 105, 109, 101]⟩, 0, 16777215)]
def kRange : List (ByteArray × Int × Int) := [(⟨#[111, 114, 105, 103, 105, 110, 95, 98, 101, 103, 105, 110]⟩, 0, 281474976710655), (⟨#[100, 97, 116, 97, 95, 98, 101, 103, 105, 110]⟩, 0, 65535), (⟨#[108, 101, 110, 103, 116, 104]⟩, 1, 16384), (⟨#[116, 105, 109, 101]⟩, 0, 16777215)]

def kv (l : List (ByteArray × Int × Int)) : List (ByteArray × Value) := l.map fun x => (x.1, .agg #[.int .i64 x.2.1, .int .i64 x.2.2])
/-- Block b holds the known tags, below β. -/
def Known (w : World) (β b : Nat) : Prop :=
  b < β ∧ ∃ b1 b2 b3 b4, (b1 < β ∧ b2 < β ∧ b3 < β ∧ b4 < β) ∧ MapAt w b [(sSuper, .map (some b1)), (sDevice, .map (some b2)), (sSingle, .map (some b3)), (sRange, .map (some b4))] ∧
    MapAt w b1 (kv kSuper) ∧ MapAt w b2 (kv kDevice) ∧ MapAt w b3 (kv kSingle) ∧ MapAt w b4 (kv kRange)
theorem Known.keep {w w' : World} {β b : Nat} (h : Known w β b) (hh : ∀ k, k < β → w'.heap[k]? = w.heap[k]?) : Known w' β b := by
  obtain ⟨h0, b1, b2, b3, b4, ⟨l1, l2, l3, l4⟩, m0, m1, m2, m3, m4⟩ := h
  exact ⟨h0, b1, b2, b3, b4, ⟨l1, l2, l3, l4⟩, m0.heap (hh _ h0), m1.heap (hh _ l1), m2.heap (hh _ l2), m3.heap (hh _ l3), m4.heap (hh _ l4)⟩

abbrev W6 (w : World) : World := (((((w.alloc (.cells #[.int .i64 0, .int .i64 16777215] 136)).alloc (.cells #[.int .i64 0, .int .i64 2147483647] 136)).alloc (.cells #[.int .i64 0, .int .i64 281474976710655] 136)).alloc (.cells #[.int .i64 0, .int .i64 65535] 136)).alloc (.map #[] 0)).alloc (.map #[] 0)

set_option maxRecDepth 100000 in
set_option maxHeartbeats 8000000 in
theorem bounds_any (w : World) : Calls Try.prog 48 #[] w fun e w' => ∃ b, e = .returned (.map (some b)) ∧ Known w' w'.heap.size b ∧ Below w.heap.size w w' := by
  have hmm := @run_makeMap Try.prog
  have T1 := (((((Blk.new w 136 #[.int .i64 0, .int .i64 16777215]).alloc (.cells #[.int .i64 0, .int .i64 2147483647] 136)).alloc (.cells #[.int .i64 0, .int .i64 281474976710655] 136)).alloc (.cells #[.int .i64 0, .int .i64 65535] 136)).alloc (.map #[] 0)).alloc (.map #[] 0)
  have T2 : Blk (W6 w) (w.heap.size + 1) 136 #[.int .i64 0, .int .i64 2147483647] := ((((show Blk _ (w.heap.size + 1) _ _ from heap_new_at (by simp)).alloc _).alloc _).alloc _).alloc _
  have T3 : Blk (W6 w) (w.heap.size + 2) 136 #[.int .i64 0, .int .i64 281474976710655] := (((show Blk _ (w.heap.size + 2) _ _ from heap_new_at (by simp)).alloc _).alloc _).alloc _
  have T4 : Blk (W6 w) (w.heap.size + 3) 136 #[.int .i64 0, .int .i64 65535] := ((show Blk _ (w.heap.size + 3) _ _ from heap_new_at (by simp)).alloc _).alloc _
  have MO : MapAt (W6 w) (w.heap.size + 4) [] := (MapAt.new (by simp)).alloc _
  have MSuper : MapAt (W6 w) (w.heap.size + 5) [] := MapAt.new (by simp)
  have hb : Below w.heap.size w (W6 w) := (by repeat (first | exact Below.refl _ _ | refine Below.alloc ?_ (by first | (simp; omega) | simp | omega) _ | refine drewN_below ?_ _ | refine Below.drew ?_))
  have hs : (W6 w).heap.size = w.heap.size + 6 := by simp
  go_enter Try.func48, Try.ntmps48
  have x1a := T1.cell 0
  have x1b := T1.cell 1
  have x2a := T2.cell 0
  have x2b := T2.cell 1
  have x3a := T3.cell 0
  have x3b := T3.cell 1
  have x4a := T4.cell 0
  have x4b := T4.cell 1
  simp at x1a x1b x2a x2b x3a x3b x4a x4b
  go_wp2_with (refine wpList_insert_mp _ rfl _ _ _ 137 rfl Try.underlying137 Try.underlying9 (w.heap.size + 5) _ ⟨#[116, 105, 109, 101]⟩ (.agg #[.int .i64 0, .int .i64 16777215]) rfl rfl rfl MSuper ?_)
  intro wn1 Mn kb
  clear x1a x1b x2a x2b x3a x3b x4a x4b
  replace T1 := T1.kb kb (by omega)
  replace T2 := T2.kb kb (by omega)
  replace T3 := T3.kb kb (by omega)
  replace T4 := T4.kb kb (by omega)
  replace MO := MO.kb kb (by omega)
  replace hb := below_kb hb kb (by omega)
  replace hs := kb.size.trans hs
  replace MSuper := Mn
  clear kb Mn
  have x1a := T1.cell 0
  have x1b := T1.cell 1
  have x2a := T2.cell 0
  have x2b := T2.cell 1
  have x3a := T3.cell 0
  have x3b := T3.cell 1
  have x4a := T4.cell 0
  have x4b := T4.cell 1
  simp at x1a x1b x2a x2b x3a x3b x4a x4b
  go_wp2_with (refine wpList_insert_mp _ rfl _ _ _ 137 rfl Try.underlying137 Try.underlying9 (w.heap.size + 5) _ ⟨#[116, 114, 97, 110, 115, 97, 99, 116, 105, 111, 110]⟩ (.agg #[.int .i64 0, .int .i64 2147483647]) rfl rfl rfl MSuper ?_)
  intro wn2 Mn kb
  clear x1a x1b x2a x2b x3a x3b x4a x4b
  replace T1 := T1.kb kb (by omega)
  replace T2 := T2.kb kb (by omega)
  replace T3 := T3.kb kb (by omega)
  replace T4 := T4.kb kb (by omega)
  replace MO := MO.kb kb (by omega)
  replace hb := below_kb hb kb (by omega)
  replace hs := kb.size.trans hs
  replace MSuper := Mn
  clear kb Mn
  have x1a := T1.cell 0
  have x1b := T1.cell 1
  have x2a := T2.cell 0
  have x2b := T2.cell 1
  have x3a := T3.cell 0
  have x3b := T3.cell 1
  have x4a := T4.cell 0
  have x4b := T4.cell 1
  simp at x1a x1b x2a x2b x3a x3b x4a x4b
  go_wp2_with (refine wpList_insert_mp _ rfl _ _ _ 137 rfl Try.underlying137 Try.underlying9 (w.heap.size + 5) _ ⟨#[100, 97, 116, 97, 95, 98, 108, 111, 99, 107, 95, 115, 105, 122, 101]⟩ (.agg #[.int .i64 1, .int .i64 65536]) rfl rfl rfl MSuper ?_)
  intro wn3 Mn kb
  clear x1a x1b x2a x2b x3a x3b x4a x4b
  replace T1 := T1.kb kb (by omega)
  replace T2 := T2.kb kb (by omega)
  replace T3 := T3.kb kb (by omega)
  replace T4 := T4.kb kb (by omega)
  replace MO := MO.kb kb (by omega)
  replace hb := below_kb hb kb (by omega)
  replace hs := kb.size.trans hs
  replace MSuper := Mn
  clear kb Mn
  have x1a := T1.cell 0
  have x1b := T1.cell 1
  have x2a := T2.cell 0
  have x2b := T2.cell 1
  have x3a := T3.cell 0
  have x3b := T3.cell 1
  have x4a := T4.cell 0
  have x4b := T4.cell 1
  simp at x1a x1b x2a x2b x3a x3b x4a x4b
  go_wp2_with (refine wpList_insert_mp _ rfl _ _ _ 137 rfl Try.underlying137 Try.underlying9 (w.heap.size + 5) _ ⟨#[110, 114, 95, 100, 97, 116, 97, 95, 98, 108, 111, 99, 107, 115]⟩ (.agg #[.int .i64 0, .int .i64 65536]) rfl rfl rfl MSuper ?_)
  intro wn4 Mn kb
  clear x1a x1b x2a x2b x3a x3b x4a x4b
  replace T1 := T1.kb kb (by omega)
  replace T2 := T2.kb kb (by omega)
  replace T3 := T3.kb kb (by omega)
  replace T4 := T4.kb kb (by omega)
  replace MO := MO.kb kb (by omega)
  replace hb := below_kb hb kb (by omega)
  replace hs := kb.size.trans hs
  replace MSuper := Mn
  clear kb Mn
  simp [putA] at MSuper
  go_wp2_with (refine wpList_insert_mp _ rfl _ _ _ 107 rfl Try.underlying107 Try.underlying9 (w.heap.size + 4) _ ⟨#[115, 117, 112, 101, 114, 98, 108, 111, 99, 107]⟩ (.map (some (w.heap.size + 5))) rfl rfl rfl MO ?_)
  intro wn5 Mn kb
  replace T1 := T1.kb kb (by omega)
  replace T2 := T2.kb kb (by omega)
  replace T3 := T3.kb kb (by omega)
  replace T4 := T4.kb kb (by omega)
  replace MSuper := MSuper.kb kb (by omega)
  replace hb := below_kb hb kb (by omega)
  replace hs := kb.size.trans hs
  replace MO := Mn
  clear kb Mn
  simp [putA] at MO
  have hs5 : (wn5.alloc (.map #[] 0)).heap.size = w.heap.size + 7 := by simp [hs]
  replace T1 := T1.alloc (.map #[] 0)
  replace T2 := T2.alloc (.map #[] 0)
  replace T3 := T3.alloc (.map #[] 0)
  replace T4 := T4.alloc (.map #[] 0)
  replace MO := MO.alloc (.map #[] 0)
  replace MSuper := MSuper.alloc (.map #[] 0)
  have MDevice : MapAt (wn5.alloc (.map #[] 0)) (w.heap.size + 6) [] := MapAt.new hs.symm
  replace hb := hb.alloc (by rw [hs]; omega) (.map #[] 0)
  have x1a := T1.cell 0
  have x1b := T1.cell 1
  have x2a := T2.cell 0
  have x2b := T2.cell 1
  have x3a := T3.cell 0
  have x3b := T3.cell 1
  have x4a := T4.cell 0
  have x4b := T4.cell 1
  simp at x1a x1b x2a x2b x3a x3b x4a x4b
  go_wp2_with (refine wpList_insert_mp _ rfl _ _ _ 137 rfl Try.underlying137 Try.underlying9 (w.heap.size + 6) _ ⟨#[100, 101, 118, 95, 105, 100]⟩ (.agg #[.int .i64 0, .int .i64 16777215]) rfl rfl rfl MDevice ?_)
  intro wn6 Mn kb
  clear x1a x1b x2a x2b x3a x3b x4a x4b
  replace T1 := T1.kb kb (by omega)
  replace T2 := T2.kb kb (by omega)
  replace T3 := T3.kb kb (by omega)
  replace T4 := T4.kb kb (by omega)
  replace MO := MO.kb kb (by omega)
  replace MSuper := MSuper.kb kb (by omega)
  replace hb := below_kb hb kb (by omega)
  have hs := kb.size.trans hs5
  replace MDevice := Mn
  clear kb Mn
  have x1a := T1.cell 0
  have x1b := T1.cell 1
  have x2a := T2.cell 0
  have x2b := T2.cell 1
  have x3a := T3.cell 0
  have x3b := T3.cell 1
  have x4a := T4.cell 0
  have x4b := T4.cell 1
  simp at x1a x1b x2a x2b x3a x3b x4a x4b
  go_wp2_with (refine wpList_insert_mp _ rfl _ _ _ 137 rfl Try.underlying137 Try.underlying9 (w.heap.size + 6) _ ⟨#[109, 97, 112, 112, 101, 100, 95, 98, 108, 111, 99, 107, 115]⟩ (.agg #[.int .i64 0, .int .i64 16384]) rfl rfl rfl MDevice ?_)
  intro wn7 Mn kb
  clear x1a x1b x2a x2b x3a x3b x4a x4b
  replace T1 := T1.kb kb (by omega)
  replace T2 := T2.kb kb (by omega)
  replace T3 := T3.kb kb (by omega)
  replace T4 := T4.kb kb (by omega)
  replace MO := MO.kb kb (by omega)
  replace MSuper := MSuper.kb kb (by omega)
  replace hb := below_kb hb kb (by omega)
  replace hs := kb.size.trans hs
  replace MDevice := Mn
  clear kb Mn
  have x1a := T1.cell 0
  have x1b := T1.cell 1
  have x2a := T2.cell 0
  have x2b := T2.cell 1
  have x3a := T3.cell 0
  have x3b := T3.cell 1
  have x4a := T4.cell 0
  have x4b := T4.cell 1
  simp at x1a x1b x2a x2b x3a x3b x4a x4b
  go_wp2_with (refine wpList_insert_mp _ rfl _ _ _ 137 rfl Try.underlying137 Try.underlying9 (w.heap.size + 6) _ ⟨#[116, 114, 97, 110, 115, 97, 99, 116, 105, 111, 110]⟩ (.agg #[.int .i64 0, .int .i64 2147483647]) rfl rfl rfl MDevice ?_)
  intro wn8 Mn kb
  clear x1a x1b x2a x2b x3a x3b x4a x4b
  replace T1 := T1.kb kb (by omega)
  replace T2 := T2.kb kb (by omega)
  replace T3 := T3.kb kb (by omega)
  replace T4 := T4.kb kb (by omega)
  replace MO := MO.kb kb (by omega)
  replace MSuper := MSuper.kb kb (by omega)
  replace hb := below_kb hb kb (by omega)
  replace hs := kb.size.trans hs
  replace MDevice := Mn
  clear kb Mn
  have x1a := T1.cell 0
  have x1b := T1.cell 1
  have x2a := T2.cell 0
  have x2b := T2.cell 1
  have x3a := T3.cell 0
  have x3b := T3.cell 1
  have x4a := T4.cell 0
  have x4b := T4.cell 1
  simp at x1a x1b x2a x2b x3a x3b x4a x4b
  go_wp2_with (refine wpList_insert_mp _ rfl _ _ _ 137 rfl Try.underlying137 Try.underlying9 (w.heap.size + 6) _ ⟨#[99, 114, 101, 97, 116, 105, 111, 110, 95, 116, 105, 109, 101]⟩ (.agg #[.int .i64 0, .int .i64 16777215]) rfl rfl rfl MDevice ?_)
  intro wn9 Mn kb
  clear x1a x1b x2a x2b x3a x3b x4a x4b
  replace T1 := T1.kb kb (by omega)
  replace T2 := T2.kb kb (by omega)
  replace T3 := T3.kb kb (by omega)
  replace T4 := T4.kb kb (by omega)
  replace MO := MO.kb kb (by omega)
  replace MSuper := MSuper.kb kb (by omega)
  replace hb := below_kb hb kb (by omega)
  replace hs := kb.size.trans hs
  replace MDevice := Mn
  clear kb Mn
  have x1a := T1.cell 0
  have x1b := T1.cell 1
  have x2a := T2.cell 0
  have x2b := T2.cell 1
  have x3a := T3.cell 0
  have x3b := T3.cell 1
  have x4a := T4.cell 0
  have x4b := T4.cell 1
  simp at x1a x1b x2a x2b x3a x3b x4a x4b
  go_wp2_with (refine wpList_insert_mp _ rfl _ _ _ 137 rfl Try.underlying137 Try.underlying9 (w.heap.size + 6) _ ⟨#[115, 110, 97, 112, 95, 116, 105, 109, 101]⟩ (.agg #[.int .i64 0, .int .i64 16777215]) rfl rfl rfl MDevice ?_)
  intro wn10 Mn kb
  clear x1a x1b x2a x2b x3a x3b x4a x4b
  replace T1 := T1.kb kb (by omega)
  replace T2 := T2.kb kb (by omega)
  replace T3 := T3.kb kb (by omega)
  replace T4 := T4.kb kb (by omega)
  replace MO := MO.kb kb (by omega)
  replace MSuper := MSuper.kb kb (by omega)
  replace hb := below_kb hb kb (by omega)
  replace hs := kb.size.trans hs
  replace MDevice := Mn
  clear kb Mn
  simp [putA] at MDevice
  go_wp2_with (refine wpList_insert_mp _ rfl _ _ _ 107 rfl Try.underlying107 Try.underlying9 (w.heap.size + 4) _ ⟨#[100, 101, 118, 105, 99, 101]⟩ (.map (some (w.heap.size + 6))) rfl rfl rfl MO ?_)
  intro wn11 Mn kb
  replace T1 := T1.kb kb (by omega)
  replace T2 := T2.kb kb (by omega)
  replace T3 := T3.kb kb (by omega)
  replace T4 := T4.kb kb (by omega)
  replace MSuper := MSuper.kb kb (by omega)
  replace MDevice := MDevice.kb kb (by omega)
  replace hb := below_kb hb kb (by omega)
  replace hs := kb.size.trans hs
  replace MO := Mn
  clear kb Mn
  simp [putA] at MO
  have hs11 : (wn11.alloc (.map #[] 0)).heap.size = w.heap.size + 8 := by simp [hs]
  replace T1 := T1.alloc (.map #[] 0)
  replace T2 := T2.alloc (.map #[] 0)
  replace T3 := T3.alloc (.map #[] 0)
  replace T4 := T4.alloc (.map #[] 0)
  replace MO := MO.alloc (.map #[] 0)
  replace MSuper := MSuper.alloc (.map #[] 0)
  replace MDevice := MDevice.alloc (.map #[] 0)
  have MSingle : MapAt (wn11.alloc (.map #[] 0)) (w.heap.size + 7) [] := MapAt.new hs.symm
  replace hb := hb.alloc (by rw [hs]; omega) (.map #[] 0)
  have x1a := T1.cell 0
  have x1b := T1.cell 1
  have x2a := T2.cell 0
  have x2b := T2.cell 1
  have x3a := T3.cell 0
  have x3b := T3.cell 1
  have x4a := T4.cell 0
  have x4b := T4.cell 1
  simp at x1a x1b x2a x2b x3a x3b x4a x4b
  go_wp2_with (refine wpList_insert_mp _ rfl _ _ _ 137 rfl Try.underlying137 Try.underlying9 (w.heap.size + 7) _ ⟨#[111, 114, 105, 103, 105, 110, 95, 98, 108, 111, 99, 107]⟩ (.agg #[.int .i64 0, .int .i64 281474976710655]) rfl rfl rfl MSingle ?_)
  intro wn12 Mn kb
  clear x1a x1b x2a x2b x3a x3b x4a x4b
  replace T1 := T1.kb kb (by omega)
  replace T2 := T2.kb kb (by omega)
  replace T3 := T3.kb kb (by omega)
  replace T4 := T4.kb kb (by omega)
  replace MO := MO.kb kb (by omega)
  replace MSuper := MSuper.kb kb (by omega)
  replace MDevice := MDevice.kb kb (by omega)
  replace hb := below_kb hb kb (by omega)
  have hs := kb.size.trans hs11
  replace MSingle := Mn
  clear kb Mn
  have x1a := T1.cell 0
  have x1b := T1.cell 1
  have x2a := T2.cell 0
  have x2b := T2.cell 1
  have x3a := T3.cell 0
  have x3b := T3.cell 1
  have x4a := T4.cell 0
  have x4b := T4.cell 1
  simp at x1a x1b x2a x2b x3a x3b x4a x4b
  go_wp2_with (refine wpList_insert_mp _ rfl _ _ _ 137 rfl Try.underlying137 Try.underlying9 (w.heap.size + 7) _ ⟨#[100, 97, 116, 97, 95, 98, 108, 111, 99, 107]⟩ (.agg #[.int .i64 0, .int .i64 65535]) rfl rfl rfl MSingle ?_)
  intro wn13 Mn kb
  clear x1a x1b x2a x2b x3a x3b x4a x4b
  replace T1 := T1.kb kb (by omega)
  replace T2 := T2.kb kb (by omega)
  replace T3 := T3.kb kb (by omega)
  replace T4 := T4.kb kb (by omega)
  replace MO := MO.kb kb (by omega)
  replace MSuper := MSuper.kb kb (by omega)
  replace MDevice := MDevice.kb kb (by omega)
  replace hb := below_kb hb kb (by omega)
  replace hs := kb.size.trans hs
  replace MSingle := Mn
  clear kb Mn
  have x1a := T1.cell 0
  have x1b := T1.cell 1
  have x2a := T2.cell 0
  have x2b := T2.cell 1
  have x3a := T3.cell 0
  have x3b := T3.cell 1
  have x4a := T4.cell 0
  have x4b := T4.cell 1
  simp at x1a x1b x2a x2b x3a x3b x4a x4b
  go_wp2_with (refine wpList_insert_mp _ rfl _ _ _ 137 rfl Try.underlying137 Try.underlying9 (w.heap.size + 7) _ ⟨#[116, 105, 109, 101]⟩ (.agg #[.int .i64 0, .int .i64 16777215]) rfl rfl rfl MSingle ?_)
  intro wn14 Mn kb
  clear x1a x1b x2a x2b x3a x3b x4a x4b
  replace T1 := T1.kb kb (by omega)
  replace T2 := T2.kb kb (by omega)
  replace T3 := T3.kb kb (by omega)
  replace T4 := T4.kb kb (by omega)
  replace MO := MO.kb kb (by omega)
  replace MSuper := MSuper.kb kb (by omega)
  replace MDevice := MDevice.kb kb (by omega)
  replace hb := below_kb hb kb (by omega)
  replace hs := kb.size.trans hs
  replace MSingle := Mn
  clear kb Mn
  simp [putA] at MSingle
  go_wp2_with (refine wpList_insert_mp _ rfl _ _ _ 107 rfl Try.underlying107 Try.underlying9 (w.heap.size + 4) _ ⟨#[115, 105, 110, 103, 108, 101, 95, 109, 97, 112, 112, 105, 110, 103]⟩ (.map (some (w.heap.size + 7))) rfl rfl rfl MO ?_)
  intro wn15 Mn kb
  replace T1 := T1.kb kb (by omega)
  replace T2 := T2.kb kb (by omega)
  replace T3 := T3.kb kb (by omega)
  replace T4 := T4.kb kb (by omega)
  replace MSuper := MSuper.kb kb (by omega)
  replace MDevice := MDevice.kb kb (by omega)
  replace MSingle := MSingle.kb kb (by omega)
  replace hb := below_kb hb kb (by omega)
  replace hs := kb.size.trans hs
  replace MO := Mn
  clear kb Mn
  simp [putA] at MO
  have hs15 : (wn15.alloc (.map #[] 0)).heap.size = w.heap.size + 9 := by simp [hs]
  replace T1 := T1.alloc (.map #[] 0)
  replace T2 := T2.alloc (.map #[] 0)
  replace T3 := T3.alloc (.map #[] 0)
  replace T4 := T4.alloc (.map #[] 0)
  replace MO := MO.alloc (.map #[] 0)
  replace MSuper := MSuper.alloc (.map #[] 0)
  replace MDevice := MDevice.alloc (.map #[] 0)
  replace MSingle := MSingle.alloc (.map #[] 0)
  have MRange : MapAt (wn15.alloc (.map #[] 0)) (w.heap.size + 8) [] := MapAt.new hs.symm
  replace hb := hb.alloc (by rw [hs]; omega) (.map #[] 0)
  have x1a := T1.cell 0
  have x1b := T1.cell 1
  have x2a := T2.cell 0
  have x2b := T2.cell 1
  have x3a := T3.cell 0
  have x3b := T3.cell 1
  have x4a := T4.cell 0
  have x4b := T4.cell 1
  simp at x1a x1b x2a x2b x3a x3b x4a x4b
  go_wp2_with (refine wpList_insert_mp _ rfl _ _ _ 137 rfl Try.underlying137 Try.underlying9 (w.heap.size + 8) _ ⟨#[111, 114, 105, 103, 105, 110, 95, 98, 101, 103, 105, 110]⟩ (.agg #[.int .i64 0, .int .i64 281474976710655]) rfl rfl rfl MRange ?_)
  intro wn16 Mn kb
  clear x1a x1b x2a x2b x3a x3b x4a x4b
  replace T1 := T1.kb kb (by omega)
  replace T2 := T2.kb kb (by omega)
  replace T3 := T3.kb kb (by omega)
  replace T4 := T4.kb kb (by omega)
  replace MO := MO.kb kb (by omega)
  replace MSuper := MSuper.kb kb (by omega)
  replace MDevice := MDevice.kb kb (by omega)
  replace MSingle := MSingle.kb kb (by omega)
  replace hb := below_kb hb kb (by omega)
  have hs := kb.size.trans hs15
  replace MRange := Mn
  clear kb Mn
  have x1a := T1.cell 0
  have x1b := T1.cell 1
  have x2a := T2.cell 0
  have x2b := T2.cell 1
  have x3a := T3.cell 0
  have x3b := T3.cell 1
  have x4a := T4.cell 0
  have x4b := T4.cell 1
  simp at x1a x1b x2a x2b x3a x3b x4a x4b
  go_wp2_with (refine wpList_insert_mp _ rfl _ _ _ 137 rfl Try.underlying137 Try.underlying9 (w.heap.size + 8) _ ⟨#[100, 97, 116, 97, 95, 98, 101, 103, 105, 110]⟩ (.agg #[.int .i64 0, .int .i64 65535]) rfl rfl rfl MRange ?_)
  intro wn17 Mn kb
  clear x1a x1b x2a x2b x3a x3b x4a x4b
  replace T1 := T1.kb kb (by omega)
  replace T2 := T2.kb kb (by omega)
  replace T3 := T3.kb kb (by omega)
  replace T4 := T4.kb kb (by omega)
  replace MO := MO.kb kb (by omega)
  replace MSuper := MSuper.kb kb (by omega)
  replace MDevice := MDevice.kb kb (by omega)
  replace MSingle := MSingle.kb kb (by omega)
  replace hb := below_kb hb kb (by omega)
  replace hs := kb.size.trans hs
  replace MRange := Mn
  clear kb Mn
  have x1a := T1.cell 0
  have x1b := T1.cell 1
  have x2a := T2.cell 0
  have x2b := T2.cell 1
  have x3a := T3.cell 0
  have x3b := T3.cell 1
  have x4a := T4.cell 0
  have x4b := T4.cell 1
  simp at x1a x1b x2a x2b x3a x3b x4a x4b
  go_wp2_with (refine wpList_insert_mp _ rfl _ _ _ 137 rfl Try.underlying137 Try.underlying9 (w.heap.size + 8) _ ⟨#[108, 101, 110, 103, 116, 104]⟩ (.agg #[.int .i64 1, .int .i64 16384]) rfl rfl rfl MRange ?_)
  intro wn18 Mn kb
  clear x1a x1b x2a x2b x3a x3b x4a x4b
  replace T1 := T1.kb kb (by omega)
  replace T2 := T2.kb kb (by omega)
  replace T3 := T3.kb kb (by omega)
  replace T4 := T4.kb kb (by omega)
  replace MO := MO.kb kb (by omega)
  replace MSuper := MSuper.kb kb (by omega)
  replace MDevice := MDevice.kb kb (by omega)
  replace MSingle := MSingle.kb kb (by omega)
  replace hb := below_kb hb kb (by omega)
  replace hs := kb.size.trans hs
  replace MRange := Mn
  clear kb Mn
  have x1a := T1.cell 0
  have x1b := T1.cell 1
  have x2a := T2.cell 0
  have x2b := T2.cell 1
  have x3a := T3.cell 0
  have x3b := T3.cell 1
  have x4a := T4.cell 0
  have x4b := T4.cell 1
  simp at x1a x1b x2a x2b x3a x3b x4a x4b
  go_wp2_with (refine wpList_insert_mp _ rfl _ _ _ 137 rfl Try.underlying137 Try.underlying9 (w.heap.size + 8) _ ⟨#[116, 105, 109, 101]⟩ (.agg #[.int .i64 0, .int .i64 16777215]) rfl rfl rfl MRange ?_)
  intro wn19 Mn kb
  clear x1a x1b x2a x2b x3a x3b x4a x4b
  replace T1 := T1.kb kb (by omega)
  replace T2 := T2.kb kb (by omega)
  replace T3 := T3.kb kb (by omega)
  replace T4 := T4.kb kb (by omega)
  replace MO := MO.kb kb (by omega)
  replace MSuper := MSuper.kb kb (by omega)
  replace MDevice := MDevice.kb kb (by omega)
  replace MSingle := MSingle.kb kb (by omega)
  replace hb := below_kb hb kb (by omega)
  replace hs := kb.size.trans hs
  replace MRange := Mn
  clear kb Mn
  simp [putA] at MRange
  go_wp2_with (refine wpList_insert_mp _ rfl _ _ _ 107 rfl Try.underlying107 Try.underlying9 (w.heap.size + 4) _ ⟨#[114, 97, 110, 103, 101, 95, 109, 97, 112, 112, 105, 110, 103]⟩ (.map (some (w.heap.size + 8))) rfl rfl rfl MO ?_)
  intro wn20 Mn kb
  replace T1 := T1.kb kb (by omega)
  replace T2 := T2.kb kb (by omega)
  replace T3 := T3.kb kb (by omega)
  replace T4 := T4.kb kb (by omega)
  replace MSuper := MSuper.kb kb (by omega)
  replace MDevice := MDevice.kb kb (by omega)
  replace MSingle := MSingle.kb kb (by omega)
  replace MRange := MRange.kb kb (by omega)
  replace hb := below_kb hb kb (by omega)
  replace hs := kb.size.trans hs
  replace MO := Mn
  clear kb Mn
  simp [putA] at MO
  go_wp2
  go_ret
  exact ⟨_, rfl, ⟨by omega, w.heap.size + 5, w.heap.size + 6, w.heap.size + 7, w.heap.size + 8, ⟨by omega, by omega, by omega, by omega⟩, MO, MSuper, MDevice, MSingle, MRange⟩, hb⟩
end Go.Proofs.Ytcblakflhheepaa
