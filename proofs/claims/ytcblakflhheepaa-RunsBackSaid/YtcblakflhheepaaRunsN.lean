/- Chapter 19: the walks of the laws RunsMaps and RunsMerged. -/
import Derived.Test.YtcblakflhheepaaRunsM
namespace Go.Proofs.Ytcblakflhheepaa
open Go.RowKit

theorem maps_small {l : List Rn} (h : chk l 0 0 = 0) : (mapsOf l).length ≤ 16384 := by
  obtain ⟨hok, hsum⟩ := chk_zero l 0 0 h
  have h1 := mapsOf_len hok
  by_cases e : l = []
  · subst e; simp [mapsOf]
  · have := hsum e; omega
def mapsX (l : List Rn) : List Mp := if chk l 0 0 = 0 then mapsOf l else []
def mergeX (l : List Rn) : List Rn := if chk l 0 0 = 0 then foldR l else []
theorem mapsX_yes {l : List Rn} (h : chk l 0 0 = 0) : mapsX l = mapsOf l := if_pos h
theorem mapsX_no {l : List Rn} (h : ¬ chk l 0 0 = 0) : mapsX l = [] := if_neg h
theorem mergeX_yes {l : List Rn} (h : chk l 0 0 = 0) : mergeX l = foldR l := if_pos h
theorem mergeX_no {l : List Rn} (h : ¬ chk l 0 0 = 0) : mergeX l = [] := if_neg h
theorem maps_x (A : Option Addr) (cap : Nat) (l : List Rn) (w : World) (h : Rd w w.heap.size 4 rc A l) (hl : l.length ≤ 1000000) :
    Calls Try.prog 15 #[.slice A l.length cap] w fun e w' => ∃ v, e = .returned (.tuple #[v, .int .i64 (chk l 0 0)]) ∧ Own w' w.heap.size 39 3 mc v (mapsX l) ∧ Below w.heap.size w w' := maps_any A cap l w h hl
theorem refmaps_x (A : Option Addr) (cap : Nat) (l : List Rn) (w : World) (h : Rd w w.heap.size 4 rc A l) (hl : l.length ≤ 1000000) :
    Calls Try.prog 16 #[.slice A l.length cap] w fun e w' => ∃ v, e = .returned (.tuple #[v, .int .i64 (chk l 0 0)]) ∧ Own w' w.heap.size 39 3 mc v (mapsX l) ∧ Below w.heap.size w w' := refmaps_any A cap l w h hl
theorem merge_x (A : Option Addr) (cap : Nat) (l : List Rn) (w : World) (h : Rd w w.heap.size 4 rc A l) (hl : l.length ≤ 100000) :
    Calls Try.prog 20 #[.slice A l.length cap] w fun e w' => ∃ v, e = .returned v ∧ Own w' w.heap.size 41 4 rc v (mergeX l) ∧ Below w.heap.size w w' := merge_any A cap l w h hl
theorem refmerge_x (A : Option Addr) (cap : Nat) (l : List Rn) (w : World) (h : Rd w w.heap.size 4 rc A l) (hl : l.length ≤ 100000) :
    Calls Try.prog 21 #[.slice A l.length cap] w fun e w' => ∃ v, e = .returned v ∧ Own w' w.heap.size 41 4 rc v (mergeX l) ∧ Below w.heap.size w w' := refmerge_any A cap l w h hl
theorem maps_small' (l : List Rn) : (mapsX l).length ≤ 16384 := by
  unfold mapsX
  split
  · exact maps_small ‹_›
  · simp
theorem merge_small (l : List Rn) (hl : l.length ≤ 500) : (mergeX l).length ≤ 500 := by
  unfold mergeX
  split
  · have := foldR_len l; omega
  · simp

set_option maxRecDepth 100000 in
set_option maxHeartbeats 4000000 in
theorem lawRunsMaps_any (A : Option Addr) (cap : Nat) (l : List Rn) (w : World) (h : Rd w w.heap.size 4 rc A l) (hl : l.length ≤ maxLen) :
    Calls Try.prog 4 #[.slice A l.length cap] w fun e w' => e = .returned (.bool true) ∧ Below w.heap.size w w' := by
  unfold maxLen at hl
  by_cases h5 : 500 < l.length
  · have h5' : (500 : Int) < (l.length : Int) := by omega
    go_enter Try.func4, Try.ntmps4
    go_wp2_with (go_at_call 11; refine (lives_any _).mono ?_; rintro e w2 ⟨rfl, hb2⟩)
    go_ret
    exact ⟨rfl, hb2⟩
  · have h5' : (l.length : Int) ≤ 500 := by omega
    have hm1 := maps_small' l
    have hm2 := merge_small l (by omega)
    go_enter Try.func4, Try.ntmps4
    go_wp2_with (fail)
    refine (maps_x A cap l _ h (by omega)).mono ?_
    rintro e w1 ⟨v, rfl, hO, hb1⟩
    obtain ⟨A1, n1, cap1, rfl, hn1, hr1⟩ := hO.rd mc_len
    subst hn1
    clear hO
    go_wp2_with (fail)
    refine (refmaps_x A cap l _ ((h.below hb1).mono hb1.size) (by omega)).mono ?_
    rintro e w2 ⟨v, rfl, hO, hb2⟩
    obtain ⟨A2, n2, cap2, rfl, hn2, hr2⟩ := hO.rd mc_len
    subst hn2
    have hB2 : Below w.heap.size w w2 := hb1.trans (hb2.mono hb1.size)
    have hr1' := (hr1.below hb2).mono hb2.size
    clear hO hb2 hr1
    go_wp2_with (fail)
    refine (samemaps_any A1 A2 cap1 cap2 _ _ _ _ (Nat.le_refl _) hr1' hr2 (by omega) (by omega)).mono ?_
    rintro e w3 ⟨he, hb3⟩
    rw [decide_eq_true rfl] at he
    subst he
    have hB3 : Below w.heap.size w w3 := hB2.trans (hb3.mono hB2.size)
    clear hb3 hr1' hr2
    go_wp2_with (fail)
    refine (check_any A cap l _ ((h.below hB3).mono hB3.size) (by omega)).mono ?_
    rintro e w4 ⟨rfl, hb4⟩
    have hB4 : Below w.heap.size w w4 := hB3.trans (hb4.mono hB3.size)
    clear hb4
    go_wp2_with (fail)
    refine (refcheck_any A cap l _ ((h.below hB4).mono hB4.size) (by omega)).mono ?_
    rintro e w5 ⟨rfl, hb5⟩
    have hB5 : Below w.heap.size w w5 := hB4.trans (hb5.mono hB4.size)
    clear hb5
    go_wp2_with (fail)
    refine (merge_x A cap l _ ((h.below hB5).mono hB5.size) (by omega)).mono ?_
    rintro e w6 ⟨v, rfl, hO, hb6⟩
    obtain ⟨A6, n6, cap6, rfl, hn6, hr6⟩ := hO.rd rc_len
    subst hn6
    have hB6 : Below w.heap.size w w6 := hB5.trans (hb6.mono hB5.size)
    clear hO hb6
    go_wp2_with (fail)
    refine (refmerge_x A cap l _ ((h.below hB6).mono hB6.size) (by omega)).mono ?_
    rintro e w7 ⟨v, rfl, hO, hb7⟩
    obtain ⟨A7, n7, cap7, rfl, hn7, hr7⟩ := hO.rd rc_len
    subst hn7
    have hB7 : Below w.heap.size w w7 := hB6.trans (hb7.mono hB6.size)
    have hr6' := (hr6.below hb7).mono hb7.size
    clear hO hb7 hr6
    go_wp2_with (fail)
    refine (same_any A6 A7 cap6 cap7 _ _ _ _ (Nat.le_refl _) hr6' hr7 (by omega) (by omega)).mono ?_
    rintro e w8 ⟨he, hb8⟩
    rw [decide_eq_true rfl] at he
    subst he
    have hB8 : Below w.heap.size w w8 := hB7.trans (hb8.mono hB7.size)
    clear hb8 hr6' hr7
    go_wp2_with (fail)
    refine (lives_any _).mono ?_
    rintro e w9 ⟨rfl, hb9⟩
    go_wp2
    go_ret
    exact ⟨rfl, hB8.trans (hb9.mono hB8.size)⟩

set_option maxRecDepth 100000 in
set_option maxHeartbeats 4000000 in
theorem lawRunsMerged_any (A : Option Addr) (cap : Nat) (l : List Rn) (w : World) (h : Rd w w.heap.size 4 rc A l) (hl : l.length ≤ maxLen) :
    Calls Try.prog 6 #[.slice A l.length cap] w fun e w' => e = .returned (.bool true) ∧ Below w.heap.size w w' := by
  unfold maxLen at hl
  by_cases h5 : 500 < l.length
  · have h5' : (500 : Int) < (l.length : Int) := by omega
    go_enter Try.func6, Try.ntmps6
    go_wp2_with (go_at_call 11; refine (lives_any _).mono ?_; rintro e w2 ⟨rfl, hb2⟩)
    go_ret
    exact ⟨rfl, hb2⟩
  · have h5' : (l.length : Int) ≤ 500 := by omega
    by_cases hc : chk l 0 0 = 0
    · have hm1 := maps_small hc
      have hm2 := foldR_len l
      obtain ⟨hok, hsum⟩ := chk_zero l 0 0 hc
      obtain ⟨hcf, -⟩ := good_foldR l hc
      have hnn : ∀ a ∈ l, 0 ≤ a.2.2.1 := fun a ha => by have := okR_spec (hok a ha); omega
      have HMF := hide (mapsOf_foldR l hnn).1
      have HRM := hide (runsOf_mapsOf l hok)
      have HMM := hide (mapsOf_mild l hok)
      have HC := hide hc
      have HCF := hide hcf
      clear hc hcf hok hsum hnn
      go_enter Try.func6, Try.ntmps6
      go_wp2_with (fail)
      refine (merge_x A cap l _ h (by omega)).mono ?_
      rintro e w1 ⟨v, rfl, hO, hb1⟩
      rw [mergeX_yes HC.out] at hO
      obtain ⟨A1, n1, cap1, rfl, hn1, hr1⟩ := hO.rd rc_len
      subst hn1
      clear hO
      go_wp2_with (fail)
      refine (maps_x A cap l _ ((h.below hb1).mono hb1.size) (by omega)).mono ?_
      rintro e w2 ⟨v, rfl, hO, hb2⟩
      rw [mapsX_yes HC.out] at hO
      rw [HC.out]
      obtain ⟨A2, n2, cap2, rfl, hn2, hr2⟩ := hO.rd mc_len
      subst hn2
      have hB2 : Below w.heap.size w w2 := hb1.trans (hb2.mono hb1.size)
      have hr1' := (hr1.below hb2).mono hb2.size
      clear hO hb2 hr1
      go_wp2_with (fail)
      refine (maps_x A1 cap1 (foldR l) _ hr1' (by omega)).mono ?_
      rintro e w3 ⟨v, rfl, hO, hb3⟩
      rw [mapsX_yes HCF.out, HMF.out] at hO
      rw [HCF.out]
      obtain ⟨A3, n3, cap3, rfl, hn3, hr3⟩ := hO.rd mc_len
      subst hn3
      have hB3 : Below w.heap.size w w3 := hB2.trans (hb3.mono hB2.size)
      have hr1 := (hr1'.below hb3).mono hb3.size
      have hr2' := (hr2.below hb3).mono hb3.size
      clear hO hb3 hr1' hr2
      go_wp2_with (fail)
      refine (samemaps_any A2 A3 cap2 cap3 _ _ _ _ (Nat.le_refl _) hr2' hr3 (by omega) (by omega)).mono ?_
      rintro e w4 ⟨he, hb4⟩
      rw [decide_eq_true rfl] at he
      subst he
      have hB4 : Below w.heap.size w w4 := hB3.trans (hb4.mono hB3.size)
      have hr1' := (hr1.below hb4).mono hb4.size
      have hr2 := (hr2'.below hb4).mono hb4.size
      clear hb4 hr1 hr2' hr3
      go_wp2_with (fail)
      refine (of_any A2 cap2 (mapsOf l) _ hr2 HMM.out (by omega)).mono ?_
      rintro e w5 ⟨v, rfl, hO, hb5⟩
      rw [HRM.out] at hO
      obtain ⟨A5, n5, cap5, rfl, hn5, hr5⟩ := hO.rd rc_len
      subst hn5
      have hB5 : Below w.heap.size w w5 := hB4.trans (hb5.mono hB4.size)
      have hr1 := (hr1'.below hb5).mono hb5.size
      clear hO hb5 hr1'
      go_wp2_with (fail)
      refine (same_any A5 A1 cap5 cap1 _ _ _ _ (Nat.le_refl _) hr5 hr1 (by omega) (by omega)).mono ?_
      rintro e w6 ⟨he, hb6⟩
      rw [decide_eq_true rfl] at he
      subst he
      have hB6 : Below w.heap.size w w6 := hB5.trans (hb6.mono hB5.size)
      clear hb6 hr1 hr5
      have hle : decide (((foldR l).length : Int) ≤ (l.length : Int)) = true := by simp; omega
      go_wp2_with (fail)
      refine (lives_any _).mono ?_
      rintro e w9 ⟨rfl, hb9⟩
      go_wp2
      go_ret
      exact ⟨rfl, hB6.trans (hb9.mono hB6.size)⟩
    · have hc' : (chk l 0 0 != 0) = true := by simpa using hc
      have HC := hide hc
      clear hc
      go_enter Try.func6, Try.ntmps6
      go_wp2_with (fail)
      refine (merge_x A cap l _ h (by omega)).mono ?_
      rintro e w1 ⟨v, rfl, hO, hb1⟩
      rw [mergeX_no HC.out] at hO
      obtain ⟨A1, n1, cap1, rfl, hn1, hr1⟩ := hO.rd rc_len
      simp only [List.length_nil] at hn1
      subst hn1
      clear hO hr1
      go_wp2_with (fail)
      refine (maps_x A cap l _ ((h.below hb1).mono hb1.size) (by omega)).mono ?_
      rintro e w2 ⟨v, rfl, hO, hb2⟩
      rw [mapsX_no HC.out] at hO
      obtain ⟨A2, n2, cap2, rfl, hn2, hr2⟩ := hO.rd mc_len
      simp only [List.length_nil] at hn2
      subst hn2
      have hB2 : Below w.heap.size w w2 := hb1.trans (hb2.mono hb1.size)
      clear hO hb2 hr2
      go_wp2_with (fail)
      refine (lives_any _).mono ?_
      rintro e w9 ⟨rfl, hb9⟩
      go_wp2
      go_ret
      exact ⟨rfl, hB2.trans (hb9.mono hB2.size)⟩
end Go.Proofs.Ytcblakflhheepaa
