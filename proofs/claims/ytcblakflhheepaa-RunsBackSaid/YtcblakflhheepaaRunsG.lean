/- Chapter 19: the walk of the law RunsOf. -/
import Derived.Test.YtcblakflhheepaaRunsF
namespace Go.Proofs.Ytcblakflhheepaa
open Go.RowKit

theorem small_mild {l : List Mp} (h : smallB l = true) : MildM l ∧ l.length ≤ 2000 := by
  simp only [smallB, Bool.and_eq_true, decide_eq_true_eq, List.all_eq_true] at h
  refine ⟨fun m hm => ?_, h.1⟩
  have := h.2 m hm
  simp [okM] at this
  omega

set_option maxRecDepth 100000 in
set_option maxHeartbeats 2000000 in
theorem lawRunsOf_any (A : Option Addr) (cap : Nat) (l : List Mp) (w : World) (h : Rd w w.heap.size 3 mc A l) (hl : l.length ≤ maxLen) :
    Calls Try.prog 3 #[.slice A l.length cap] w fun e w' => e = .returned (.bool true) ∧ Below w.heap.size w w' := by
  cases hs : smallB l
  · have HS := hide hs
    clear hs
    go_enter Try.func3, Try.ntmps3
    go_wp2_with (first
      | (go_at_call 10; go_must (refine (small_any A cap l _ h hl).mono ?_; rintro e w1 ⟨he, hb1⟩; rw [HS.out] at he; subst he))
      | (go_at_call 11; go_must (refine (lives_any _).mono ?_; rintro e w2 ⟨rfl, hb2⟩)))
    go_ret
    exact ⟨rfl, hb1.trans (hb2.mono hb1.size)⟩
  · obtain ⟨hm, hlen⟩ := small_mild hs
    have HS := hide hs
    clear hs
    go_enter Try.func3, Try.ntmps3
    go_wp2_with (first
      | (go_at_call 10; go_must (refine (small_any A cap l _ h hl).mono ?_; rintro e w1 ⟨he, hb1⟩; rw [HS.out] at he; subst he)))
    refine (of_any A cap l _ ((h.below hb1).mono hb1.size) hm (by omega)).mono ?_
    rintro e w2 ⟨v, rfl, hO, hb2⟩
    obtain ⟨A2, n2, cap2, rfl, hn2, hr2⟩ := hO.rd rc_len
    subst hn2
    have hB2 : Below w.heap.size w w2 := hb1.trans (hb2.mono hb1.size)
    clear hO hb2
    go_wp2_with (fail)
    refine (refof_any A cap l _ ((h.below hB2).mono hB2.size) hm (by omega)).mono ?_
    rintro e w3 ⟨v, rfl, hO, hb3⟩
    obtain ⟨A3, n3, cap3, rfl, hn3, hr3⟩ := hO.rd rc_len
    subst hn3
    have hB3 : Below w.heap.size w w3 := hB2.trans (hb3.mono hB2.size)
    have hr2' := (hr2.below hb3).mono hb3.size
    have hlr := runsOf_len l
    clear hO hb3 hr2
    go_wp2_with (fail)
    refine (same_any A2 A3 cap2 cap3 (runsOf l) (runsOf l) _ _ (Nat.le_refl _) hr2' hr3 (by omega) (by omega)).mono ?_
    rintro e w4 ⟨he, hb4⟩
    rw [decide_eq_true rfl] at he
    subst he
    have hB4 : Below w.heap.size w w4 := hB3.trans (hb4.mono hB3.size)
    go_wp2_with (fail)
    refine (lives_any _).mono ?_
    rintro e w5 ⟨rfl, hb5⟩
    go_wp2
    go_ret
    exact ⟨rfl, hB4.trans (hb5.mono hB4.size)⟩
end Go.Proofs.Ytcblakflhheepaa
