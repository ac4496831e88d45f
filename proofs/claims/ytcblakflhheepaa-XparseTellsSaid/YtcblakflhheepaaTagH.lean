/- Chapter 41: Tags, with the deferred closure that recovers. -/
import Derived.Test.YtcblakflhheepaaTagG
import Derived.Defers
import Derived.Recover
namespace Go.Proofs.Ytcblakflhheepaa
open Go.RowKit
set_option linter.unusedVariables false
set_option linter.unusedSimpArgs false

theorem asserts (v : Value) (w : World) : (Instr.typeAssert (.iface 78 v) 20 78 true).run Try.prog w = .ok (.tuple #[v, .bool true]) w := by
  simp [Instr.typeAssert, run_underlying Try.underlying78, go_sem, Result.andThen]
theorem zeroWrong (w : World) : (zeroValue 78).run Try.prog w = .ok (wrongV 0 0) w := by
  have h : (Try.prog.info? 78).map (·.zero) = some (some (wrongV 0 0)) := by kernel_rfl
  obtain ⟨j, hj, hz⟩ := Option.map_eq_some_iff.1 h
  simp [zeroValue, typeInfo, hj, hz]
theorem assertsNot (w : World) : (Instr.typeAssert .nilIface 20 78 true).run Try.prog w = .ok (.tuple #[wrongV 0 0, .bool false]) w := by
  simp [Instr.typeAssert, run_underlying Try.underlying78, go_sem, Result.andThen, zeroWrong]

set_option maxRecDepth 100000 in
set_option maxHeartbeats 2000000 in
theorem catch_wrong (a b d : Nat) (x0 x1 x2 : Value) (p c : Int) (older : List PanicEntry) (w : World) (ha : Blk w a 42 #[x0]) (hb : Blk w b 3 #[x1]) (hd : Blk w d 28 #[x2]) :
    CallsD Try.prog 37 #[.pointer (some ⟨a, 0, none⟩), .pointer (some ⟨b, 0, none⟩), .pointer (some ⟨d, 0, none⟩)] (.panicking ({ v := .iface 78 (wrongV p c), recovered := false } :: older)) w fun e u' w' =>
      e = .returned (.tuple #[]) ∧ u' = .panicking ({ v := .iface 78 (wrongV p c), recovered := true } :: older) ∧ Blk w' a 42 #[.slice none 0 0] ∧ Blk w' b 3 #[.int .i64 p] ∧ Blk w' d 28 #[.int .i64 c] ∧
        ∀ B, B ≤ a → B ≤ b → B ≤ d → Below B w w' := by
  refine callsD_of_wpS Try.func37 rfl fun c₀ cs hu => ?_
  apply wpS_seq
  apply wpS_region
  have et : (#[.pointer (some ⟨a, 0, none⟩), .pointer (some ⟨b, 0, none⟩), .pointer (some ⟨d, 0, none⟩)] ++ Array.replicate (Try.f37.ntmps - #[Value.pointer (some ⟨a, 0, none⟩), .pointer (some ⟨b, 0, none⟩), .pointer (some ⟨d, 0, none⟩)].size) undef : Array Value) =
    #[.pointer (some ⟨a, 0, none⟩), .pointer (some ⟨b, 0, none⟩), .pointer (some ⟨d, 0, none⟩), undef, undef, undef, undef, undef, undef, undef, undef, undef, undef, undef, undef] := by
    simp [Try.ntmps37]
  rw [et]
  have hass := asserts
  simp [wpOpsS, go_sem, recoverD, hu, hass, Exit.thenS]
  clear hass et hu
  have a0 := ha.cell 0
  have a1 := ha.frozen 0
  have a2 := ha.lt
  have b0 := hb.cell 0
  have b1 := hb.frozen 0
  have b2 := hb.lt
  have d0 := hd.cell 0
  have d1 := hd.frozen 0
  have d2 := hd.lt
  have n1 := ha.ne_ hb (by decide)
  have n2 := ha.ne_ hd (by decide)
  have n3 := hb.ne_ hd (by decide)
  simp at a0 b0 d0
  apply wpS_of_wp
  go_wp2
  go_region
  refine ⟨rfl, _, rfl, .tuple #[], results_none rfl _ _ _, rfl, rfl, ?_, ?_, ?_, ?_⟩
  · have h1 := ((((ha.set_ 0 (.slice none 0 0)).far (p := ⟨b, 0, none⟩) n1 (.int .i64 p)).far (p := ⟨d, 0, none⟩) n2 (.int .i64 c)).alloc (.cells #[.int .i64 p, .int .i64 c] 78)).drew
    simpa using h1
  · have h1 := ((((hb.far (p := ⟨a, 0, none⟩) (Ne.symm n1) (.slice none 0 0)).set_ 0 (.int .i64 p)).far (p := ⟨d, 0, none⟩) n3 (.int .i64 c)).alloc (.cells #[.int .i64 p, .int .i64 c] 78)).drew
    simpa using h1
  · have h1 := ((((hd.far (p := ⟨a, 0, none⟩) (Ne.symm n2) (.slice none 0 0)).far (p := ⟨b, 0, none⟩) (Ne.symm n3) (.int .i64 p)).set_ 0 (.int .i64 c)).alloc (.cells #[.int .i64 p, .int .i64 c] 78)).drew
    simpa using h1
  · intro B h1 h2 h3
    exact (((((Below.refl B w).setCell (p := ⟨a, 0, none⟩) h1 _).setCell (p := ⟨b, 0, none⟩) h2 _).setCell (p := ⟨d, 0, none⟩) h3 _).alloc (by simp; omega) _).drew

set_option maxRecDepth 100000 in
set_option maxHeartbeats 2000000 in
theorem catch_idle (a b d : Nat) (w : World) :
    CallsD Try.prog 37 #[.pointer (some ⟨a, 0, none⟩), .pointer (some ⟨b, 0, none⟩), .pointer (some ⟨d, 0, none⟩)] .returning w fun e u' w' =>
      e = .returned (.tuple #[]) ∧ u' = .returning ∧ w' = w.alloc (.cells #[.int .i64 0, .int .i64 0] 78) := by
  refine callsD_of_wpS Try.func37 rfl fun c₀ cs hu => ?_
  apply wpS_seq
  apply wpS_region
  have et : (#[.pointer (some ⟨a, 0, none⟩), .pointer (some ⟨b, 0, none⟩), .pointer (some ⟨d, 0, none⟩)] ++ Array.replicate (Try.f37.ntmps - #[Value.pointer (some ⟨a, 0, none⟩), .pointer (some ⟨b, 0, none⟩), .pointer (some ⟨d, 0, none⟩)].size) undef : Array Value) =
    #[.pointer (some ⟨a, 0, none⟩), .pointer (some ⟨b, 0, none⟩), .pointer (some ⟨d, 0, none⟩), undef, undef, undef, undef, undef, undef, undef, undef, undef, undef, undef, undef] := by
    simp [Try.ntmps37]
  rw [et]
  have hass := assertsNot
  simp [wpOpsS, go_sem, recoverD, hu, hass, Exit.thenS]
  clear hass et
  apply wpS_of_wp
  go_wp2
  have hc : c₀ = { c₀ with mode := .returning } := by rw [← hu]
  refine ⟨rfl, .returning, by rw [← hc], .tuple #[], results_none rfl _ _ _, rfl, rfl, rfl⟩

def tagsP (s : ByteArray) : Except (Nat × Nat) (List Tgv) := tagsL s (s.size + 1) [] (endB blaB s 0)
/-- What Tags hands back. -/
def TagsOut (w : World) (r : Except (Nat × Nat) (List Tgv)) (e : Ending) (w' : World) : Prop :=
  match r with
  | .ok L => ∃ v rows, e = .returned (.tuple #[v, .int .i64 0, .int .i64 0]) ∧ Own w' w.heap.size 60 4 trc v rows ∧ Mt 62 w' w.heap.size rows L ∧ Below w.heap.size w w'
  | .error (p, c) => e = .returned (.tuple #[.slice none 0 0, .int .i64 p, .int .i64 c]) ∧ Below w.heap.size w w'
theorem MaxL.pos {w : World} (h : MaxL w) : 0 < w.heap.size := by
  obtain ⟨m, h⟩ := h
  exact World.block_lt_of_cell? w _ h

set_option maxRecDepth 100000 in
set_option maxHeartbeats 4000000 in
theorem Tags_any (s : ByteArray) (hs : s.size ≤ 4000000) (w : World) (hm : MaxL w) :
    Calls Try.prog 22 #[.string s] w (TagsOut w (tagsP s)) := by
  have hmf : ∀ (fn : Fn) (first cap : Array Value) (w : World), (Instr.makeFunc fn first cap).run Try.prog w = .ok (.func fn first cap) w := fun _ _ _ _ => rfl
  have hp := hm.pos
  have t0 : decide (4194304 < (s.size : Int)) = false := by simp; omega
  go_enter_defers Try.func22, Try.ntmps22
  go_wp2_with (fail)
  have hX4 := Blk.new (((w.alloc (.cells #[.slice none 0 0] 42)).alloc (.cells #[.int .i64 0] 3)).alloc (.cells #[.int .i64 0] 28)) 82 (scn s 0)
  have hA4 := (((Blk.new w 42 #[.slice none 0 0]).alloc (.cells #[.int .i64 0] 3)).alloc (.cells #[.int .i64 0] 28)).alloc (.cells (scn s 0) 82)
  have hB4 := ((Blk.new (w.alloc (.cells #[.slice none 0 0] 42)) 3 #[.int .i64 0]).alloc (.cells #[.int .i64 0] 28)).alloc (.cells (scn s 0) 82)
  have hD4 := (Blk.new ((w.alloc (.cells #[.slice none 0 0] 42)).alloc (.cells #[.int .i64 0] 3)) 28 #[.int .i64 0]).alloc (.cells (scn s 0) 82)
  have hW4 : Below w.heap.size w ((((w.alloc (.cells #[.slice none 0 0] 42)).alloc (.cells #[.int .i64 0] 3)).alloc (.cells #[.int .i64 0] 28)).alloc (.cells (scn s 0) 82)) := (by repeat (first | exact Below.refl _ _ | refine Below.alloc ?_ (by first | (simp; omega) | simp | omega) _ | refine drewN_below ?_ _ | refine Below.drew ?_))
  have ht := tags_any _ s hs _ (hm.below hW4 hp) hX4 (by simp)
  simp only [World.size_alloc] at ht hX4 hA4 hB4 hD4
  generalize hW : ((((w.alloc (.cells #[.slice none 0 0] 42)).alloc (.cells #[.int .i64 0] 3)).alloc (.cells #[.int .i64 0] 28)).alloc (.cells (scn s 0) 82)) = W4 at ht hX4 hA4 hB4 hD4 hW4
  have hsz : w.heap.size + 4 = W4.heap.size := by rw [← hW]; simp
  clear hW hmf
  have ht2 : Calls Try.prog 38 #[.pointer (some ⟨w.heap.size + 1 + 1 + 1, 0, none⟩)] W4 (TagsEnd (w.heap.size + 1 + 1 + 1) W4 (tagsP s)) := ht
  clear ht
  refine ht2.mono ?_
  clear ht2
  cases hr : tagsP s with
  | error x =>
    obtain ⟨p, c⟩ := x
    rintro e w5 ⟨rfl, hb5⟩
    have hA5 := hA4.but hb5 (by omega) (by omega)
    have hB5 := hB4.but hb5 (by omega) (by omega)
    have hD5 := hD4.but hb5 (by omega) (by omega)
    refine leaves_cons (f := 37) (args := #[.pointer (some ⟨w.heap.size, 0, none⟩), .pointer (some ⟨w.heap.size + 1, 0, none⟩), .pointer (some ⟨w.heap.size + 1 + 1, 0, none⟩)]) (by simp) (by simp [go_sem]) ?_
    refine (catch_wrong w.heap.size (w.heap.size + 1) (w.heap.size + 1 + 1) _ _ _ p c [] _ hA5 hB5 hD5).mono ?_
    rintro e u' w6 ⟨rfl, rfl, hA6, hB6, hD6, hbel⟩
    have a0 := hA6.cell 0
    have b0 := hB6.cell 0
    have d0 := hD6.cell 0
    simp at a0 b0 d0
    simp [Leaves, settle, results, Try.results22, go_sem, a0, b0, d0]
    exact ⟨rfl, (hW4.trans (hb5.below (C := w.heap.size) (by omega) (by omega))).trans (hbel _ (Nat.le_refl _) (by omega) (by omega))⟩
  | ok L =>
    rintro e w5 ⟨v, rows, rfl, hO5, hM5, hb5⟩
    obtain ⟨A, n, cap, rfl, -, -⟩ := hO5.rd trc_len
    have hA5 := hA4.but hb5 (by omega) (by omega)
    have hB5 := hB4.but hb5 (by omega) (by omega)
    have hD5 := hD4.but hb5 (by omega) (by omega)
    have hw5 := hW4.trans (hb5.below (C := w.heap.size) (by omega) (by omega))
    have a0 := hA5.cell 0
    have a1 := hA5.frozen 0
    have b0 := hB5.cell 0
    have b1 := hB5.frozen 0
    have d0 := hD5.cell 0
    have d1 := hD5.frozen 0
    simp at a0 b0 d0
    have HR := hide hr
    clear hr
    go_wp2
    refine leaves_cons (f := 37) (args := #[.pointer (some ⟨w.heap.size, 0, none⟩), .pointer (some ⟨w.heap.size + 1, 0, none⟩), .pointer (some ⟨w.heap.size + 1 + 1, 0, none⟩)]) (by simp) (by simp [go_sem]) ?_
    refine (catch_idle w.heap.size (w.heap.size + 1) (w.heap.size + 1 + 1) _).mono ?_
    rintro e u' w6 ⟨rfl, rfl, rfl⟩
    have hA6 := (((hA5.set_ 0 (.slice A n cap)).far (p := ⟨w.heap.size + 1, 0, none⟩) (by dsimp only; omega) (.int .i64 0)).far (p := ⟨w.heap.size + 1 + 1, 0, none⟩) (by dsimp only; omega) (.int .i64 0)).alloc (.cells #[.int .i64 0, .int .i64 0] 78)
    have hB6 := (((hB5.far (p := ⟨w.heap.size, 0, none⟩) (by dsimp only; omega) (.slice A n cap)).set_ 0 (.int .i64 0)).far (p := ⟨w.heap.size + 1 + 1, 0, none⟩) (by dsimp only; omega) (.int .i64 0)).alloc (.cells #[.int .i64 0, .int .i64 0] 78)
    have hD6 := (((hD5.far (p := ⟨w.heap.size, 0, none⟩) (by dsimp only; omega) (.slice A n cap)).far (p := ⟨w.heap.size + 1, 0, none⟩) (by dsimp only; omega) (.int .i64 0)).set_ 0 (.int .i64 0)).alloc (.cells #[.int .i64 0, .int .i64 0] 78)
    have hk : ∀ {α : Type} {e : TypeId} {sz : Nat} {c : α → List Value} (v : Value) (l : List α), Own w5 W4.heap.size e sz c v l → Own ((((w5.setCell ⟨w.heap.size, 0, none⟩ (.slice A n cap)).setCell ⟨w.heap.size + 1, 0, none⟩ (.int .i64 0)).setCell ⟨w.heap.size + 1 + 1, 0, none⟩ (.int .i64 0)).alloc (.cells #[.int .i64 0, .int .i64 0] 78)) W4.heap.size e sz c v l :=
      fun v l ho => (((ho.setCell (p := ⟨w.heap.size, 0, none⟩) (fun e => by have := ho.lt _ e; dsimp only at this; omega) _).setCell (p := ⟨w.heap.size + 1, 0, none⟩) (fun e => by have := ho.lt _ e; dsimp only at this; omega) _).setCell (p := ⟨w.heap.size + 1 + 1, 0, none⟩) (fun e => by have := ho.lt _ e; dsimp only at this; omega) _).alloc _
    have e0 := hA6.cell 0
    have e1 := hB6.cell 0
    have e2 := hD6.cell 0
    have hO6 := hk _ _ hO5
    have hM6 := hM5.keep (fun v l h => hk v l h)
    have hw6 := (((hw5.setCell (p := ⟨w.heap.size, 0, none⟩) (Nat.le_refl _) (.slice A n cap)).setCell (p := ⟨w.heap.size + 1, 0, none⟩) (by dsimp only; omega) (.int .i64 0)).setCell (p := ⟨w.heap.size + 1 + 1, 0, none⟩) (by dsimp only; omega) (.int .i64 0)).alloc (by have := hw5.size; simp; omega) (.cells #[.int .i64 0, .int .i64 0] 78)
    clear hk a0 a1 b0 b1 d0 d1
    generalize ((((w5.setCell ⟨w.heap.size, 0, none⟩ (.slice A n cap)).setCell ⟨w.heap.size + 1, 0, none⟩ (.int .i64 0)).setCell ⟨w.heap.size + 1 + 1, 0, none⟩ (.int .i64 0)).alloc (.cells #[.int .i64 0, .int .i64 0] 78)) = w7 at *
    simp at e0 e1 e2
    simp [Leaves, settle, results, Try.results22, go_sem, e0, e1, e2]
    rw [HR.out]
    exact ⟨_, rows, rfl, hO6.mono (by omega), hM6.mono (by omega), hw6⟩
end Go.Proofs.Ytcblakflhheepaa
