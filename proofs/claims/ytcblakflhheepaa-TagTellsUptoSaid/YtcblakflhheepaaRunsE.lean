/- Chapter 19: Same compares two lists of runs. -/
import Derived.Test.YtcblakflhheepaaRunsD
namespace Go.Proofs.Ytcblakflhheepaa
open Go.RowKit

theorem st41 : Try.prog.stoodInHeld 41 = false := by kernel_rfl
theorem eg41 : Try.prog.eqGuardType Try.prog.depth 41 = false := by kernel_rfl
def neR (a b c d a' b' c' d' : Int) : Bool := !(a == a' && b == b' && c == c' && d == d')
theorem neq41 (a b c d a' b' c' d' : Int) (w : World) : (binOp .neq 41 (.agg #[.int .i64 a, .int .i64 b, .int .i64 c, .int .i64 d]) (.agg #[.int .i64 a', .int .i64 b', .int .i64 c', .int .i64 d'])).run Try.prog w = .ok (.bool (neR a b c d a' b' c' d')) w := by
  rw [run_neq_struct, run_equalIn_agg _ _ _ _ _ (by simp [go_sem, Try.underlying41]) st41]
  simp [go_sem, Try.underlying41, Op.eqFields]
  unfold neR
  by_cases h1 : a = a' <;> by_cases h2 : b = b' <;> by_cases h3 : c = c' <;> by_cases h4 : d = d' <;> simp [h1, h2, h3, h4]
attribute [local go_sem ↓] neq41
attribute [local go_sem] eg41

theorem neR_ne {x y : Rn} (h : x ≠ y) : neR x.1 x.2.1 x.2.2.1 x.2.2.2 y.1 y.2.1 y.2.2.1 y.2.2.2 = true := by
  obtain ⟨x1, x2, x3, x4⟩ := x
  obtain ⟨y1, y2, y3, y4⟩ := y
  cases hq : neR x1 x2 x3 x4 y1 y2 y3 y4
  · simp [neR] at hq
    exact absurd (by rw [hq.1.1.1, hq.1.1.2, hq.1.2, hq.2]) h
  · rfl
set_option maxHeartbeats 400000 in
theorem same_any (A A' : Option Addr) (c c' : Nat) (l l' : List Rn) (w : World) (B : Nat) (hB : B ≤ w.heap.size) (h : Rd w B 4 rc A l) (h' : Rd w B 4 rc A' l') (hl : l.length ≤ 200000) (_hl' : l'.length ≤ 200000) :
    Calls Try.prog 12 #[.slice A l.length c, .slice A' l'.length c'] w
      fun e w' => e = .returned (.bool (decide (l = l'))) ∧ Below w.heap.size w w' := by
  by_cases hlen : l.length = l'.length
  · have e0 : ((l.length : Int) != l'.length) = false := by simp; omega
    have H := hide hlen
    clear hlen
    go_enter Try.func12, Try.ntmps12
    go_wp2
    go_loopw [5] (fun i wr => ∃ k : Nat, k ≤ l.length ∧ i = .int .i64 k ∧ Below w.heap.size w wr ∧ l.take k = l'.take k) (fun i _ => l.length - (intOf i).toNat)
    case atStart => exact ⟨0, Nat.zero_le _, rfl, Below.refl _ _, rfl⟩
    case round =>
      obtain ⟨k, hk, rfl, hb, htk⟩ := hrel
      by_cases hlt : k < l.length
      · obtain ⟨x, hx⟩ := get_of_lt hlt
        obtain ⟨y, hy⟩ := get_of_lt (l := l') (k := k) (by rw [← H.out]; exact hlt)
        obtain ⟨b, off, rfl, hbB, c0, c1, c2, c3⟩ := (h.below (hb.mono hB)).rn hx
        obtain ⟨b', off', rfl, hbB', d0, d1, d2, d3⟩ := (h'.below (hb.mono hB)).rn hy
        have hlt' : (k : Int) < (l'.length : Int) := by have := H.out; omega
        have HT := hide htk
        have HX := hide hx
        have HY := hide hy
        clear htk hx hy
        by_cases hxy : x = y
        · have e1 : neR x.1 x.2.1 x.2.2.1 x.2.2.2 y.1 y.2.1 y.2.2.1 y.2.2.2 = false := by subst hxy; simp [neR]
          have HXY := hide hxy
          clear hxy
          go_wp2
          go_quiet (fail)
          go_wp2
          go_roundw
          case rel => exact ⟨k + 1, by omega, by go_num, drewN_below hb _, by rw [take_step HX.out, take_step HY.out, HT.out, HXY.out]⟩
          case measure => simp [intOf]; omega
        · have e1 : neR x.1 x.2.1 x.2.2.1 x.2.2.2 y.1 y.2.1 y.2.2.1 y.2.2.2 = true := neR_ne hxy
          have HXY := hide hxy
          clear hxy
          go_wp2
          go_quiet (fail)
          go_wp2
          go_ret
          refine ⟨?_, drewN_below hb _⟩
          have : l ≠ l' := by
            intro e
            have h1 := HX.out
            have h2 := HY.out
            rw [e, h2] at h1
            exact HXY.out (Option.some.inj h1).symm
          simp [this]
      · have hkl : k = l.length := by omega
        subst hkl
        have HT := hide htk
        clear htk
        go_wp2
        go_ret
        refine ⟨?_, hb⟩
        have h1 := HT.out
        rw [List.take_length, H.out, List.take_length] at h1
        simp [h1]
  · have e0 : ((l.length : Int) != l'.length) = true := by simp; omega
    have H := hide hlen
    clear hlen
    go_enter Try.func12, Try.ntmps12
    go_wp2
    go_ret
    refine ⟨?_, Below.refl _ _⟩
    have : l ≠ l' := by intro e; exact H.out (by rw [e])
    simp [this]

end Go.Proofs.Ytcblakflhheepaa
