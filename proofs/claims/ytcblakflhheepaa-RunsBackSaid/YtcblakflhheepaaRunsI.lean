/- Chapter 19: the reference's Check tells the same as runs.Check. -/
import Derived.Test.YtcblakflhheepaaRunsH
namespace Go.Proofs.Ytcblakflhheepaa
open Go.RowKit

def okS (x : Rn) : Bool := okR x && decide (x.2.2.1 ≤ 16384)

set_option maxRecDepth 100000 in
set_option maxHeartbeats 4000000 in
theorem refcheck_any (A : Option Addr) (cap : Nat) (l : List Rn) (w : World) (h : Rd w w.heap.size 4 rc A l) (hl : l.length ≤ 1000000) :
    Calls Try.prog 19 #[.slice A l.length cap] w fun e w' => e = .returned (.int .i64 (chk l 0 0)) ∧ Below w.heap.size w w' := by
  go_enter Try.func19, Try.ntmps19
  go_wp2
  go_loopw [3, 4] (fun s i wr => ∃ (k : Nat) (sum next : Int), k ≤ l.length ∧ i = .int .i64 k ∧ s = .int .i64 sum ∧ 0 ≤ sum ∧ sum ≤ 16384 ∧ Below w.heap.size w wr ∧ chk l 0 0 = chk (l.drop k) sum next ∧
      ((k = 0 ∧ next = 0) ∨ ∃ (y : Rn) (k' : Nat), k = k' + 1 ∧ l[k']? = some y ∧ next = y.1 + y.2.2.1 ∧ okR y = true)) (fun _ i _ => l.length - (intOf i).toNat)
  case atStart => exact ⟨0, 0, 0, Nat.zero_le _, rfl, rfl, by omega, by omega, Below.refl _ _, by simp, .inl ⟨rfl, rfl⟩⟩
  case round =>
    obtain ⟨k, sum, next, hk, rfl, rfl, hs0, hs1, hb, hck, hprev⟩ := hrel
    have HC := hide hck
    have HP := hide hprev
    clear hck hprev
    by_cases hlt : k < l.length
    · obtain ⟨x, hx⟩ := get_of_lt hlt
      obtain ⟨b, off, rfl, hbB, c0, c1, c2, c3⟩ := (h.below hb).rn hx
      have HX := hide hx
      clear hx
      have hbs : b < wr.heap.size := by have := hb.size; omega
      have hck := HC.out
      rw [drop_step HX.out, chk] at hck
      have HC2 := hide hck
      clear hck HC
      obtain ⟨x1, x2, x3, x4⟩ := x
      dsimp only at c0 c1 c2 c3
      go_upto_region 6 with (fail)
      go_cut [70] (fun c wx => c = .bool (!okS (x1, x2, x3, x4)) ∧ wx = wr.alloc (.cells #[.int .i64 x1, .int .i64 x2, .int .i64 x3, .int .i64 x4] 41))
      case first =>
        go_wp2_with (fail)
        all_goals go_meet
        all_goals exact ⟨congrArg Value.bool (by rw [Bool.eq_iff_iff]; simp [okS, okR]; omega), rfl⟩
      case rest =>
        obtain ⟨hc, rfl⟩ := hcut
        have hB1 : Below w.heap.size w (wr.alloc (.cells #[.int .i64 x1, .int .i64 x2, .int .i64 x3, .int .i64 x4] 41)) := hb.alloc hb.size _
        cases ho : okS (x1, x2, x3, x4)
        · rw [ho] at hc
          subst hc
          have h2 : chk ((x1, x2, x3, x4) :: l.drop (k + 1)) sum next = 2 := by
            rw [chk]
            refine if_pos ?_
            simp only [okS, Bool.and_eq_false_iff, decide_eq_false_iff_not] at ho
            rcases ho with ho | ho
            · exact Or.inl ho
            · exact Or.inr (by dsimp only at ho ⊢; omega)
          rw [chk] at h2
          have H2 := hide h2
          clear h2 ho
          go_wp2
          go_ret
          exact ⟨ret_int (by rw [HC2.out, H2.out]), hB1⟩
        · have hor : okR (x1, x2, x3, x4) = true := by simp [okS] at ho; exact ho.1
          have hr : 1 ≤ x3 ∧ 0 ≤ x1 ∧ x1 + x3 ≤ 281474976710656 ∧ x3 ≤ 16384 := by
            simp [okS, okR] at ho
            omega
          obtain ⟨g1, g2, g3, g4⟩ := hr
          rw [ho] at hc
          subst hc
          have HO := hide hor
          clear ho hor
          by_cases h6 : 16384 < sum + x3
          · go_wp2
            go_ret
            exact ⟨ret_int (by rw [HC2.out, if_pos (Or.inr h6)]), hB1⟩
          · have hn : ¬ (okR (x1, x2, x3, x4) = false ∨ sum + (x1, x2, x3, x4).2.2.1 > 16384) := by
              rw [HO.out]
              intro hh
              rcases hh with hh | hh
              · cases hh
              · exact h6 hh
            have HN := hide hn
            clear hn
            go_upto_region 11 with (fail)
            go_cut [96] (fun c wx => c = .bool (decide (x1 < next)) ∧ Below w.heap.size w wx ∧ wx.cell? ⟨wr.heap.size, 0, none⟩ = some (.int .i64 x1) ∧ wx.cell? ⟨wr.heap.size, 2, none⟩ = some (.int .i64 x3))
            case first =>
              rcases HP.out with ⟨rfl, rfl⟩ | ⟨y, k', rfl, hy, hnx, hoy⟩
              · go_quiet (fail)
                go_wp2_with fail
                go_meet
                exact ⟨congrArg Value.bool (by rw [Bool.eq_iff_iff]; simp; omega), drewN_below hB1 _, by simp, by simp⟩
              · obtain ⟨b', off', hA', hbB', d0, d1, d2, d3⟩ := (h.below hb).rn hy
                injection hA' with hA'
                injection hA' with e1 e2
                subst e1; subst e2
                obtain ⟨y1, y2, y3, y4⟩ := y
                dsimp only at d0 d1 d2 d3 hnx
                have hr : 1 ≤ y3 ∧ 0 ≤ y1 ∧ y1 + y3 ≤ 281474976710656 := by
                  simp [okR] at hoy
                  omega
                obtain ⟨j1, j2, j3⟩ := hr
                have HY := hide hy
                have HNX := hide hnx
                clear hy hnx hoy
                have s0 : IntKind.i64.wrap (y1 + y3) = y1 + y3 := IntWalk.i64_in _ (by omega)
                have t0 : decide ((0 : Int) < ((k' + 1 : Nat) : Int)) = true := by simp
                go_quiet (fail)
                go_wp2_with fail
                go_meet
                exact ⟨by rw [HNX.out], drewN_below hB1 _, by simp, by simp⟩
            case rest =>
              obtain ⟨hc, hB2, e0, e2⟩ := hcut
              by_cases h7 : x1 < next
              · rw [decide_eq_true h7] at hc
                subst hc
                go_wp2
                go_ret
                exact ⟨ret_int (by rw [HC2.out, if_neg HN.out, if_pos h7]), hB2⟩
              · rw [decide_eq_false h7] at hc
                subst hc
                go_wp2
                go_roundw
                case rel => exact ⟨k + 1, sum + x3, x1 + x3, by omega, by go_num, rfl, by omega, by omega, hB2, by rw [HC2.out, if_neg HN.out, if_neg h7], .inr ⟨_, k, rfl, HX.out, rfl, HO.out⟩⟩
                case measure => simp [intOf]; omega
    · obtain rfl : k = l.length := by omega
      go_wp2
      go_ret
      exact ⟨ret_int (by rw [HC.out, List.drop_length, chk]), hb⟩
end Go.Proofs.Ytcblakflhheepaa
