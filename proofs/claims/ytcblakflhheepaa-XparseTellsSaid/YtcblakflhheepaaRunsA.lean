/- Chapter 19: the walks of runs.follows, runs.grower and its two closures. -/
import Derived.Test.YtcblakflhheepaaBase
import Derived.Deep.RegionHeld3
import Derived.Deep.DrawnRows
import Derived.StillTailTactics
namespace Go.Proofs.Ytcblakflhheepaa
open Go.RowKit

abbrev Mp := Int × Int × Int
abbrev Rn := Int × Int × Int × Int
def mc (m : Mp) : List Value := [.int .i64 m.1, .int .i64 m.2.1, .int .i64 m.2.2]
def rc (m : Rn) : List Value := [.int .i64 m.1, .int .i64 m.2.1, .int .i64 m.2.2.1, .int .i64 m.2.2.2]
def rv (m : Rn) : Value := .agg #[.int .i64 m.1, .int .i64 m.2.1, .int .i64 m.2.2.1, .int .i64 m.2.2.2]

/-- Numbers of a run that are far from the edges of int. -/
def Mild (r : Rn) : Prop := 0 ≤ r.1 ∧ r.1 ≤ 1000000000000000 ∧ 0 ≤ r.2.1 ∧ r.2.1 ≤ 1000000000000000 ∧ 0 ≤ r.2.2.1 ∧ r.2.2.1 ≤ 1000000000000

def fol (a x : Rn) : Bool := a.1 + a.2.2.1 == x.1 && a.2.1 + a.2.2.1 == x.2.1 && a.2.2.2 == x.2.2.2

set_option maxHeartbeats 400000 in
theorem follows_any (a b c d a' b' c' d' : Int) (w : World) (ha : 0 ≤ a) (ha' : a ≤ 1000000000000000) (hb : 0 ≤ b) (hb' : b ≤ 1000000000000000) (hc : 0 ≤ c) (hc' : c ≤ 1000000000000) :
    Calls Try.prog 57 #[.agg #[.int .i64 a, .int .i64 b, .int .i64 c, .int .i64 d], .agg #[.int .i64 a', .int .i64 b', .int .i64 c', .int .i64 d']] w
      fun e w' => e = .returned (.bool (fol (a, b, c, d) (a', b', c', d'))) ∧ Below w.heap.size w w' := by
  go_enter Try.func57, Try.ntmps57
  go_wp2
  all_goals
    go_ret
    refine ⟨ret_bool ?_, ((Below.refl _ _).alloc (by simp) _).alloc (by simp) _⟩
    simp [fol, *]

set_option maxHeartbeats 400000 in
theorem grower_any (w : World) :
    Calls Try.prog 35 #[] w fun e w' => e = .returned (.tuple #[.func (.func 56) #[] #[.pointer (some ⟨w.heap.size, 0, none⟩)], .func (.func 58) #[] #[.pointer (some ⟨w.heap.size, 0, none⟩)]]) ∧
      w' = w.alloc (.cells #[.slice none 0 0] 26) := by
  have hmf : ∀ (fn : Fn) (first cap : Array Value) (w : World), (Instr.makeFunc fn first cap).run Try.prog w = .ok (.func fn first cap) w := fun _ _ _ _ => rfl
  go_enter Try.func35, Try.ntmps35
  go_wp2
  go_ret2
  exact ⟨rfl, rfl⟩

set_option maxHeartbeats 400000 in
theorem told_any (w : World) (bo : Nat) (v : Value) (h : Blk w bo 26 #[v]) :
    Calls Try.prog 58 #[.pointer (some ⟨bo, 0, none⟩)] w fun e w' => e = .returned v ∧ w' = w := by
  have hc := h.cell 0
  simp at hc
  go_enter Try.func58, Try.ntmps58
  go_wp2
  go_ret
  exact ⟨rfl, rfl⟩
end Go.Proofs.Ytcblakflhheepaa
