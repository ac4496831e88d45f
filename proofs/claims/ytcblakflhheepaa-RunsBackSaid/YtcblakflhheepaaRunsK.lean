/- Chapter 19: the reference's Maps; SameMaps. -/
import Derived.Test.YtcblakflhheepaaRunsJ
namespace Go.Proofs.Ytcblakflhheepaa
open Go.RowKit

set_option maxRecDepth 100000 in
set_option maxHeartbeats 4000000 in
theorem refmaps_any (A : Option Addr) (cap : Nat) (l : List Rn) (w : World) (h : Rd w w.heap.size 4 rc A l) (hl : l.length ≤ 1000000) :
    Calls Try.prog 16 #[.slice A l.length cap] w fun e w' => ∃ v, e = .returned (.tuple #[v, .int .i64 (chk l 0 0)]) ∧ Own w' w.heap.size 39 3 mc v (if chk l 0 0 = 0 then mapsOf l else []) ∧ Below w.heap.size w w' := by
  by_cases hc : chk l 0 0 = 0
  · obtain ⟨hok, hsum⟩ := chk_zero l 0 0 hc
    rw [if_pos hc, hc]
    have HC := hide hc
    clear hc
    go_enter Try.func16, Try.ntmps16
    go_wp2_with (go_at_call 19; go_must (refine (refcheck_any A cap l _ h hl).mono ?_; rintro e w1 ⟨he, hb1⟩; rw [HC.out] at he; subst he))
    obtain ⟨w0, hw0⟩ : ∃ w0 : World, w0 = w1 := ⟨_, rfl⟩
    subst hw0
    go_loopw [5, 6] (fun out i wr => ∃ (k : Nat), k ≤ l.length ∧ i = .int .i64 k ∧ Own wr w.heap.size 39 3 mc out (mapsOf (l.take k)) ∧ Below w.heap.size w wr) (fun _ i _ => l.length - (intOf i).toNat)
    case atStart => exact ⟨0, Nat.zero_le _, rfl, Own.nil _ _ _ _ _, hb1⟩
    case round =>
      obtain ⟨k, hk, rfl, hO, hb⟩ := hrel
      by_cases hlt : k < l.length
      · obtain ⟨x, hx⟩ := get_of_lt hlt
        have HX := hide hx
        clear hx
        obtain ⟨g1, g2, g3, g4, g5, g6, g7⟩ := okR_spec (hok x (List.mem_of_getElem? HX.out))
        obtain ⟨x1, x2, x3, x4⟩ := x
        dsimp only at g1 g2 g3 g4 g5 g6 g7
        obtain ⟨N, rfl⟩ := Int.eq_ofNat_of_zero_le (show 0 ≤ x3 by omega)
        have HO := hide hO
        clear hO
        go_wp2
        obtain ⟨wo, hwo⟩ : ∃ wo : World, wo = wr := ⟨_, rfl⟩
        subst hwo
        go_loopw [5, 7] (fun out i w2 => ∃ (j : Nat), j ≤ N ∧ i = .int .i64 j ∧ Own w2 w.heap.size 39 3 mc out (mapsOf (l.take k) ++ mapsR (x1, x2, (N : Int), x4) j) ∧ Below w.heap.size w w2) (fun _ i _ => N - (intOf i).toNat)
        case atStart => exact ⟨0, by omega, rfl, by simpa [mapsR] using HO.out, hb⟩
        case round =>
          obtain ⟨j, hj, rfl, hO2, hb2⟩ := hrel
          have HO2 := hide hO2
          clear hO2 HO
          by_cases hjn : j < N
          · have hlen : (mapsOf (l.take k) ++ mapsR (x1, x2, (N : Int), x4) j).length ≤ 16384 := by
              rw [List.length_append, mapsR_len]
              have := mapsOf_room hok hsum HX.out
              dsimp only at this
              omega
            have hsz := hb2.size
            obtain ⟨b, off, rfl, hbB, c0, c1, c2, c3⟩ := h.rn HX.out
            obtain ⟨_, _, hA', _, d0, d1, d2, d3⟩ := (h.below hb2).rn HX.out
            injection hA' with hA'
            injection hA' with e1 e2
            subst e1; subst e2
            dsimp only at c0 c1 c2 c3 d0 d1 d2 d3
            have s1 : IntKind.i64.wrap (x1 + (j : Int)) = x1 + (j : Int) := IntWalk.i64_in _ (by omega)
            have s2 : IntKind.i64.wrap (x2 + (j : Int)) = x2 + (j : Int) := IntWalk.i64_in _ (by omega)
            have i0 : (0 : Int) ≤ (k : Int) := by omega
            have i1 : (k : Int) < (l.length : Int) := by omega
            go_wp2
            go_region_held3 (fun w' => Below (w.heap.size) (w) w' ∧ (∀ b o, b < w.heap.size → w'.cell? ⟨b, o, none⟩ = (w).cell? ⟨b, o, none⟩) ∧ (∀ b o, b < w.heap.size → w'.frozen? ⟨b, o, none⟩ = (w).frozen? ⟨b, o, none⟩))
              (first | (refine held_grown ?_ hg1 ?_ (fun q hq => (HO2.out.lt q hq).1); (repeat (first | exact hb2 | refine drewN_below ?_ _ | refine Below.drew ?_ | refine Below.alloc ?_ ?_ _ | refine Below.setCell ?_ ?_ _ | omega | (simp; omega) | (simp; done))); done) | (refine held_of ?_; (repeat (first | exact hb2 | refine drewN_below ?_ _ | refine Below.drew ?_ | refine Below.alloc ?_ ?_ _ | refine Below.setCell ?_ ?_ _ | omega | (simp; omega) | (simp; done))); done))
              ((refine step_append1 _ (by rfl) (.tmp 28) (.tmp 49) 22 (by rfl) Try.underlying22 info39 (by rfl) (by decide) mc_len mc_one (base := w.heap.size) (v := u5) (l := mapsOf (l.take k) ++ mapsR (x1, x2, (N : Int), x4) j) (by rfl) (by repeat (first | exact HO2.out | refine Own.alloc ?_ _ | refine Own.drewN ?_ _ | refine Own.drew ?_)) (nextM (mOf (x1, x2, (N : Int), x4)) j) wr.heap.size 1 (by rfl) ⟨_, _, heap_new_at (by simp)⟩ (by omega) (by omega) (by simp; omega) ?_; intro g capn w3 hO3 hg1 hat hlt1))
            have hb3 : Below w.heap.size w w3 := Below.grown (B := w.heap.size) (a := w) (by have hsz := (hb2).size; repeat (first | exact hb2 | refine Below.alloc ?_ (by first | (simp; omega) | simp | omega) _ | refine drewN_below ?_ _ | refine Below.drew ?_)) hg1 (by simp; omega) (fun q hq => (HO2.out.lt q hq).1)
            go_wp2
            go_roundw
            case rel =>
              refine ⟨j + 1, by omega, by go_num, ?_, hb3⟩
              rw [mapsR_succ, ← List.append_assoc]
              simpa using hO3
            case measure => simp [intOf]; omega
          · obtain rfl : j = N := by omega
            obtain ⟨b, off, rfl, hbB, c0, c1, c2, c3⟩ := (h.below hb2).rn HX.out
            dsimp only at c0 c1 c2 c3
            go_wp2
            go_roundw
            case rel =>
              refine ⟨k + 1, by omega, by go_num, ?_, hb2⟩
              rw [take_step HX.out, mapsOf_snoc]
              simpa using HO2.out
            case measure => simp [intOf]; omega
      · obtain rfl : k = l.length := by omega
        go_wp2
        go_ret2
        refine ⟨_, rfl, ?_, hb⟩
        rwa [List.take_length] at hO
  · rw [if_neg hc]
    have hc' : (chk l 0 0 != 0) = true := by simpa using hc
    have HC := hide hc
    clear hc
    go_enter Try.func16, Try.ntmps16
    go_wp2_with (go_at_call 19; go_must (refine (refcheck_any A cap l _ h hl).mono ?_; rintro e w1 ⟨rfl, hb1⟩))
    go_ret2
    exact ⟨_, rfl, Own.nil _ _ _ _ _, hb1⟩

theorem st39 : Try.prog.stoodInHeld 39 = false := by kernel_rfl
theorem eg39 : Try.prog.eqGuardType Try.prog.depth 39 = false := by kernel_rfl
def neM (a b c a' b' c' : Int) : Bool := !(a == a' && b == b' && c == c')
theorem neq39 (a b c a' b' c' : Int) (w : World) : (binOp .neq 39 (.agg #[.int .i64 a, .int .i64 b, .int .i64 c]) (.agg #[.int .i64 a', .int .i64 b', .int .i64 c'])).run Try.prog w = .ok (.bool (neM a b c a' b' c')) w := by
  rw [run_neq_struct, run_equalIn_agg _ _ _ _ _ (by simp [go_sem, Try.underlying39]) st39]
  simp [go_sem, Try.underlying39, Op.eqFields]
  unfold neM
  by_cases h1 : a = a' <;> by_cases h2 : b = b' <;> by_cases h3 : c = c' <;> simp [h1, h2, h3]
attribute [local go_sem ↓] neq39
attribute [local go_sem] eg39
theorem neM_ne {x y : Mp} (h : x ≠ y) : neM x.1 x.2.1 x.2.2 y.1 y.2.1 y.2.2 = true := by
  obtain ⟨x1, x2, x3⟩ := x
  obtain ⟨y1, y2, y3⟩ := y
  cases hq : neM x1 x2 x3 y1 y2 y3
  · simp [neM] at hq
    exact absurd (by rw [hq.1.1, hq.1.2, hq.2]) h
  · rfl

set_option maxHeartbeats 400000 in
theorem samemaps_any (A A' : Option Addr) (c c' : Nat) (l l' : List Mp) (w : World) (B : Nat) (hB : B ≤ w.heap.size) (h : Rd w B 3 mc A l) (h' : Rd w B 3 mc A' l') (hl : l.length ≤ 200000) (_hl' : l'.length ≤ 200000) :
    Calls Try.prog 17 #[.slice A l.length c, .slice A' l'.length c'] w
      fun e w' => e = .returned (.bool (decide (l = l'))) ∧ Below w.heap.size w w' := by
  by_cases hlen : l.length = l'.length
  · have e0 : ((l.length : Int) != l'.length) = false := by simp; omega
    have H := hide hlen
    clear hlen
    go_enter Try.func17, Try.ntmps17
    go_wp2
    go_loopw [5] (fun i wr => ∃ k : Nat, k ≤ l.length ∧ i = .int .i64 k ∧ Below w.heap.size w wr ∧ l.take k = l'.take k) (fun i _ => l.length - (intOf i).toNat)
    case atStart => exact ⟨0, Nat.zero_le _, rfl, Below.refl _ _, rfl⟩
    case round =>
      obtain ⟨k, hk, rfl, hb, htk⟩ := hrel
      by_cases hlt : k < l.length
      · obtain ⟨x, hx⟩ := get_of_lt hlt
        obtain ⟨y, hy⟩ := get_of_lt (l := l') (k := k) (by rw [← H.out]; exact hlt)
        obtain ⟨b, off, rfl, hbB, c0, c1, c2⟩ := (h.below (hb.mono hB)).mp hx
        obtain ⟨b', off', rfl, hbB', d0, d1, d2⟩ := (h'.below (hb.mono hB)).mp hy
        have hlt' : (k : Int) < (l'.length : Int) := by have := H.out; omega
        have HT := hide htk
        have HX := hide hx
        have HY := hide hy
        clear htk hx hy
        by_cases hxy : x = y
        · have e1 : neM x.1 x.2.1 x.2.2 y.1 y.2.1 y.2.2 = false := by subst hxy; simp [neM]
          have HXY := hide hxy
          clear hxy
          go_wp2
          go_quiet (fail)
          go_wp2
          go_roundw
          case rel => exact ⟨k + 1, by omega, by go_num, drewN_below hb _, by rw [take_step HX.out, take_step HY.out, HT.out, HXY.out]⟩
          case measure => simp [intOf]; omega
        · have e1 : neM x.1 x.2.1 x.2.2 y.1 y.2.1 y.2.2 = true := neM_ne hxy
          have HXY := hide hxy
          clear hxy
          go_wp2
          go_quiet (fail)
          go_wp2
          go_ret
          refine ⟨?_, drewN_below hb _⟩
          have : l ≠ l' := by
            intro e
            have h1 := HX.out
            have h2 := HY.out
            rw [e, h2] at h1
            exact HXY.out (Option.some.inj h1).symm
          simp [this]
      · have hkl : k = l.length := by omega
        subst hkl
        have HT := hide htk
        clear htk
        go_wp2
        go_ret
        refine ⟨?_, hb⟩
        have h1 := HT.out
        rw [List.take_length, H.out, List.take_length] at h1
        simp [h1]
  · have e0 : ((l.length : Int) != l'.length) = true := by simp; omega
    have H := hide hlen
    clear hlen
    go_enter Try.func17, Try.ntmps17
    go_wp2
    go_ret
    refine ⟨?_, Below.refl _ _⟩
    have : l ≠ l' := by intro e; exact H.out (by rw [e])
    simp [this]
end Go.Proofs.Ytcblakflhheepaa
