/- Maps of strings to values: what a block holds, a look-up, a store. -/
import Derived.Test.YtcblakflhheepaaBase
import Derived.MapKept
import Derived.Maps.Own
import Derived.Maps.OwnSet
namespace Go.Proofs.Ytcblakflhheepaa
open Go.RowKit Go.MapKept

/-- Block b is a map of strings to values. -/
def MapAt (w : World) (b : Nat) (es : List (ByteArray × Value)) : Prop := ∃ a c, w.heap[b]? = some (.map a c) ∧ a.toList.map (fun e => (e.key, e.val)) = es.map (fun x => (Value.string x.1, x.2))
def assoc {α : Type} (s : ByteArray) : List (ByteArray × α) → Option α
  | [] => none
  | x :: l => if s = x.1 then some x.2 else assoc s l
def putA {α : Type} (s : ByteArray) (v : α) : List (ByteArray × α) → List (ByteArray × α)
  | [] => [(s, v)]
  | x :: l => if s = x.1 then (x.1, v) :: l else x :: putA s v l
theorem find_now (s : ByteArray) : ∀ (a : List MapEntry) (es : List (ByteArray × Value)) (i : Nat), a.map (fun e => (e.key, e.val)) = es.map (fun x => (Value.string x.1, x.2)) →
    (assoc s es = none ∧ Instr.findNow .string (.string s) a i = some none) ∨ ∃ j v, assoc s es = some v ∧ Instr.findNow .string (.string s) a i = some (some (i + j, v)) ∧ (∃ e, a[j]? = some e ∧ e.key = .string s) ∧
      ∀ v', (a.modify j (fun e => { e with key := .string s, val := v' })).map (fun e => (e.key, e.val)) = (putA s v' es).map (fun x => (Value.string x.1, x.2))
  | [], [], i, _ => .inl ⟨rfl, rfl⟩
  | [], _ :: _, i, h => by simp at h
  | _ :: _, [], i, h => by simp at h
  | e :: a, x :: es, i, h => by
    simp only [List.map_cons, List.cons.injEq, Prod.mk.injEq] at h
    obtain ⟨⟨h1, h2⟩, h3⟩ := h
    by_cases hs : s = x.1
    · right
      refine ⟨0, x.2, by simp [assoc, hs], ?_, ⟨e, rfl, by rw [h1, hs]⟩, fun v' => ?_⟩
      · have hb : (x.1 == x.1) = true := (bytes_beq _ _).2 rfl
        simp [Instr.findNow, Instr.sameNow, h1, h2, hs, hb]
      · simp [List.modify, putA, hs, h3]
    · have hn : Instr.findNow .string (.string s) (e :: a) i = Instr.findNow .string (.string s) a (i + 1) := by
        have hb : (s == x.1) = false := by rw [Bool.eq_false_iff]; exact fun h => hs ((bytes_beq _ _).1 h)
        simp [Instr.findNow, Instr.sameNow, h1, hb]
      rcases find_now s a es (i + 1) h3 with ⟨q1, q2⟩ | ⟨j, v, q1, q2, ⟨e', q3, q4⟩, q5⟩
      · left
        exact ⟨by simp [assoc, hs, q1], by rw [hn, q2]⟩
      · right
        refine ⟨j + 1, v, by simp [assoc, hs, q1], by rw [hn, q2]; simp; omega, ⟨e', by simpa using q3, q4⟩, fun v' => ?_⟩
        have := q5 v'
        simp [List.modify_succ_cons, putA, hs, h1, h2, this]
theorem assoc_map {α β : Type} (f : α → β) (s : ByteArray) : ∀ l : List (ByteArray × α), assoc s (l.map fun x => (x.1, f x.2)) = (assoc s l).map f
  | [] => rfl
  | x :: l => by
    simp only [List.map_cons, assoc]
    split
    · rfl
    · exact assoc_map f s l
theorem putA_map {α β : Type} (f : α → β) (s : ByteArray) (v : α) : ∀ l : List (ByteArray × α), putA s (f v) (l.map fun x => (x.1, f x.2)) = (putA s v l).map fun x => (x.1, f x.2)
  | [] => rfl
  | x :: l => by
    simp only [List.map_cons, putA]
    split
    · rfl
    · simp [putA_map f s v l]
theorem putA_none {α : Type} {s : ByteArray} {v : α} : ∀ {es : List (ByteArray × α)}, assoc s es = none → putA s v es = es ++ [(s, v)]
  | [], _ => rfl
  | x :: l, h => by
    unfold assoc at h
    split at h
    · cases h
    · rename_i hs
      simp [putA, hs, putA_none h]

section
variable {P : Program} {w : World} {b : Nat} {es : List (ByteArray × Value)} {t k e : TypeId} {s : ByteArray}
theorem MapAt.look (h : MapAt w b es) (ht : P.underlying t = some (.map k e)) (hk : P.underlying k = some .string) {z : Value} (hz : (zeroValue e).run P w = .ok z w) (ok : Bool) :
    (Instr.lookup t (.map (some b)) (.string s) ok).run P w = .ok (if ok then .tuple #[(assoc s es).getD z, .bool (assoc s es).isSome] else (assoc s es).getD z) w := by
  obtain ⟨a, c, hb, he⟩ := h
  have hc := run_checkKey (P := P) (w := w) (k := .string s) hk (by trivial) a.isEmpty 9999
  rcases find_now s a.toList es 0 he with ⟨q1, q2⟩ | ⟨j, v, q1, q2, _, _⟩
  · have hf := run_findKey (P := P) (w := w) hk q2
    unfold Instr.lookup
    cases ok <;> simp [run_underlying ht, Result.andThen, Go.MapKept.run_getObj_map hb, hc, hf, q1, hz]
  · have hf := run_findKey (P := P) (w := w) hk q2
    unfold Instr.lookup
    cases ok <;> simp [run_underlying ht, Result.andThen, Go.MapKept.run_getObj_map hb, hc, hf, q1]
theorem MapAt.update (h : MapAt w b es) (ht : P.underlying t = some (.map k e)) (hk : P.underlying k = some .string) (v : Value) :
    ∃ w', (Instr.mapUpdate t (.map (some b)) (.string s) v).run P w = .ok () w' ∧ MapAt w' b (putA s v es) ∧ w'.os = w.os ∧ w'.tape = w.tape ∧ w'.output = w.output ∧ w'.heap.size = w.heap.size ∧ ∀ k, k ≠ b → w'.heap[k]? = w.heap[k]? := by
  obtain ⟨a, c, hb, he⟩ := h
  have hc := run_checkKey (P := P) (w := w) (k := .string s) hk (by trivial) false 9999
  rcases find_now s a.toList es 0 he with ⟨q1, q2⟩ | ⟨j, v0, q1, q2, ⟨e', q3, q4⟩, q5⟩
  · have hf := run_findKey (P := P) (w := w) hk q2
    refine ⟨{ w with heap := w.heap.setIfInBounds b (.map (a.push { key := .string s, val := v, born := c }) (c + 1)) }, ?_, ⟨_, _, (heap_set hb).1, ?_⟩, rfl, rfl, rfl, by simp, fun k hk => (heap_set hb).2 k hk⟩
    · unfold Instr.mapUpdate
      simp [run_underlying ht, Result.andThen, Go.MapKept.run_getObj_map hb, hc, hf, Go.MapKept.run_setObj_map _ hb]
    · rw [putA_none q1]; simp [he]
  · have hf := run_findKey (P := P) (w := w) hk q2
    have hq3 : a[j]? = some e' := by rw [← q3]; simp
    have hq4 : ((a[j]?).map (·.key)).getD (.string s) = .string s := by rw [hq3]; simp [q4]
    have hst := run_keyThatStays (P := P) (w := w) (d := .string) (k := .string s) (by trivial)
    refine ⟨{ w with heap := w.heap.setIfInBounds b (.map (a.modify j fun e => { e with key := .string s, val := v }) c) }, ?_, ⟨_, _, (heap_set hb).1, ?_⟩, rfl, rfl, rfl, by simp, fun k hk => (heap_set hb).2 k hk⟩
    · unfold Instr.mapUpdate
      simp [run_underlying ht, Result.andThen, Go.MapKept.run_getObj_map hb, hc, hf, hq3, q4, hst, Go.MapKept.run_setObj_map _ hb]
    · rw [Array.toList_modify]; exact q5 v
end
section
variable {P : Program} {w : World} {b : Nat} {es : List (ByteArray × Value)} {t k e : TypeId}
theorem MapAt.len (h : MapAt w b es) (ht : P.underlying t = some (.map k e)) (ty : TypeId) : (Builtin.len_ #[t] ty #[.map (some b)]).run P w = .ok (.int .i64 es.length) w := by
  obtain ⟨a, c, h1, h2⟩ := h
  have h3 : a.size = es.length := by have := congrArg List.length h2; simpa using this
  rw [← h3]
  simp [Builtin.len_, run_underlying ht, MapKept.run_getObj_map h1, goInt, Result.andThen]
theorem wpList_len_mp {ops : Array Oper} {rest : List Oper} {o : Oper} {a : Act} {Q : Exit → Act → World → Prop} (w : World) (hg : o.guard = none) (m : Operand) (t : TypeId) (hop : o.op = Op.call { callee := Callee.builtin Builtin.len, args := #[m], argTypes := #[t] })
    {k e : TypeId} (ht : P.underlying t = some (.map k e)) (b : Nat) (es : List (ByteArray × Value)) (hm : a.eval m = .map (some b)) (h : MapAt w b es)
    (hK : wpList P ops Q rest (a.put o.dst (.int .i64 es.length)) w) : wpList P ops Q (o :: rest) a w := by
  refine wpList_plain hg fun K' hK' => ?_
  unfold Oper.wp
  simp [execOp, hop, resolve, invoke, builtin, hm, h.len ht o.type, Result.andThen]
  exact hK' _ _ hK
end
end Go.Proofs.Ytcblakflhheepaa
