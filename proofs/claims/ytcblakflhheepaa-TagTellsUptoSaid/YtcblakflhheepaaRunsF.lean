/- Chapter 19: small and lives of the laws. -/
import Derived.Test.YtcblakflhheepaaRunsE
namespace Go.Proofs.Ytcblakflhheepaa
open Go.RowKit

def okM (m : Mp) : Bool := decide (0 ≤ m.1) && decide (m.1 ≤ 281474976710655) && decide (0 ≤ m.2.1) && decide (m.2.1 ≤ 281474976710655)
def smallB (l : List Mp) : Bool := decide (l.length ≤ 2000) && l.all okM

theorem small_false {l : List Mp} {k : Nat} {m : Mp} (hx : l[k]? = some m) (h : okM m = false) : smallB l = false := by
  cases hs : smallB l
  · rfl
  · simp only [smallB, Bool.and_eq_true, List.all_eq_true] at hs
    rw [hs.2 m (List.mem_of_getElem? hx)] at h
    cases h
theorem small_end {l : List Mp} (h : ∀ m ∈ l.take l.length, okM m = true) : smallB l = decide (l.length ≤ 2000) := by
  rw [List.take_length] at h
  simp only [smallB, (List.all_eq_true.2 h), Bool.and_true]
theorem okM_false {m : Mp} (h : m.1 < 0 ∨ 281474976710655 < m.1 ∨ m.2.1 < 0 ∨ 281474976710655 < m.2.1) : okM m = false := by
  cases ho : okM m
  · rfl
  · simp [okM] at ho
    omega
theorem okM_true {m : Mp} (h1 : 0 ≤ m.1) (h2 : m.1 ≤ 281474976710655) (h3 : 0 ≤ m.2.1) (h4 : m.2.1 ≤ 281474976710655) : okM m = true := by
  simp [okM, h1, h2, h3, h4]

set_option maxRecDepth 100000 in
set_option maxHeartbeats 2000000 in
theorem small_any (A : Option Addr) (cap : Nat) (l : List Mp) (w : World) (h : Rd w w.heap.size 3 mc A l) (hl : l.length ≤ maxLen) :
    Calls Try.prog 10 #[.slice A l.length cap] w fun e w' => e = .returned (.bool (smallB l)) ∧ Below w.heap.size w w' := by
  unfold maxLen at hl
  go_enter Try.func10, Try.ntmps10
  go_wp2
  go_loopw [3] (fun i wr => ∃ (k : Nat), k ≤ l.length ∧ k ≤ 2001 ∧ i = .int .i64 k ∧ Below w.heap.size w wr ∧ (∀ m ∈ l.take k, okM m = true)) (fun i _ => l.length - (intOf i).toNat)
  case atStart => exact ⟨0, Nat.zero_le _, by omega, rfl, Below.refl _ _, by simp⟩
  case round =>
    obtain ⟨k, hk, hk1, rfl, hb, hall⟩ := hrel
    have HA := hide hall
    clear hall
    by_cases hlt : k < l.length
    · by_cases hlt2 : k < 2001
      · obtain ⟨m, hx⟩ := get_of_lt hlt
        obtain ⟨b, off, rfl, hbB, c0, c1, c2⟩ := (h.below hb).mp hx
        have HX := hide hx
        clear hx
        have t0 : decide ((k : Int) < 2001) = true := by simp; omega
        go_wp2
        · go_ret
          exact ⟨ret_bool (small_false HX.out (okM_false (by omega))).symm, hb⟩
        · go_roundw
          case rel =>
            refine ⟨k + 1, by omega, by omega, by go_num, hb, fun a ha => ?_⟩
            rw [take_step HX.out] at ha
            rcases List.mem_append.1 ha with ha | ha
            · exact HA.out a ha
            · obtain rfl : a = m := by simpa using ha
              exact okM_true (by omega) (by omega) (by omega) (by omega)
          case measure => simp [intOf]; omega
        · go_ret
          exact ⟨ret_bool (small_false HX.out (okM_false (by omega))).symm, hb⟩
        · go_ret
          exact ⟨ret_bool (small_false HX.out (okM_false (by omega))).symm, hb⟩
        · go_ret
          exact ⟨ret_bool (small_false HX.out (okM_false (by omega))).symm, hb⟩
      · have t0 : decide ((k : Int) < 2001) = false := by simp; omega
        have t1 : decide ((l.length : Int) ≤ 2000) = false := by simp; omega
        go_wp2
        go_ret
        refine ⟨ret_bool ?_, hb⟩
        have : ¬ l.length ≤ 2000 := by omega
        simp [smallB, this]
    · obtain rfl : k = l.length := by omega
      go_wp2
      go_ret
      refine ⟨ret_bool ?_, hb⟩
      rw [small_end HA.out]
      by_cases h2 : l.length ≤ 2000
      · simp [h2]; omega
      · simp [h2]; omega

theorem mc_len (x : Mp) : (mc x).length = 3 := rfl
set_option maxRecDepth 100000 in
set_option maxHeartbeats 2000000 in
theorem lives_any (w : World) : Calls Try.prog 11 #[] w fun e w' => e = .returned (.bool true) ∧ Below w.heap.size w w' := by
  go_enter Try.func11, Try.ntmps11
  go_wp2_with (fail)
  refine (of_any (some ⟨w.heap.size, 0, none⟩) 3 [(5, 9, 1), (6, 10, 1), (8, 12, 1)] _ (Rd.of_block (heap_new_at rfl) (by simp) mc_len rfl) (by intro m hm; simp at hm; rcases hm with rfl | rfl | rfl <;> decide) (by decide)).mono ?_
  rintro e w1 ⟨v, rfl, hO, hb⟩
  have hr : runsOf [(5, 9, 1), (6, 10, 1), (8, 12, 1)] = [(5, 9, 2, 1), (8, 12, 1, 1)] := by decide
  rw [hr] at hO
  obtain ⟨A, n, cap, rfl, hn, hrd⟩ := hO.rd rc_len
  simp only [List.length_cons, List.length_nil, Nat.zero_add, Nat.reduceAdd] at hn
  subst hn
  have hb1 : Below w.heap.size w w1 := ((Below.refl _ _).alloc (Nat.le_refl _) _).trans (hb.mono (by simp))
  clear hO hb hr
  go_wp2_with (fail)
  refine (same_any A (some ⟨w1.heap.size, 0, none⟩) cap 2 [(5, 9, 2, 1), (8, 12, 1, 1)] [(5, 9, 2, 1), (8, 12, 1, 1)] _ (w1.heap.size + 1) (by simp) ((hrd.below ((Below.refl _ _).alloc (Nat.le_refl _) _)).mono (by simp)) (Rd.of_block (heap_new_at rfl) (by simp) rc_len rfl) (by decide) (by decide)).mono ?_
  rintro e w2 ⟨rfl, hb2⟩
  have hb3 : Below w.heap.size w w2 := (hb1.alloc hb1.size _).trans (hb2.mono (by have := hb1.size; simp; omega))
  go_wp2
  go_ret
  exact ⟨ret_bool (by decide), hb3⟩
end Go.Proofs.Ytcblakflhheepaa
