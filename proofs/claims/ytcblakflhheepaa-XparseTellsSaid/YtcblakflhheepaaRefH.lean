/- Chapter 18: the reference's Same of pools that are equal. -/
import Derived.Test.YtcblakflhheepaaPlnA
import Derived.BigQuiet
import Derived.StillTailTactics
namespace Go.Proofs.Ytcblakflhheepaa
open Go.RowKit
set_option linter.unusedVariables false
set_option linter.unusedSimpArgs false

set_option maxRecDepth 100000 in
set_option maxHeartbeats 4000000 in
theorem rsameM_any (A A' : Option Addr) (cap cap' : Nat) (l : List Mp) (B : Nat) (w : World) (hB : B ≤ w.heap.size) (h : Rd w B 3 mc A l) (h' : Rd w B 3 mc A' l) (hlen : l.length ≤ 5000000) :
    Calls Try.prog 17 #[.slice A l.length cap, .slice A' l.length cap'] w fun e w' => e = .returned (.bool true) ∧ Below w.heap.size w w' := by
  obtain ⟨n, hn⟩ : ∃ n, l.length = n := ⟨_, rfl⟩
  rw [hn] at hlen ⊢
  have HN := hide hn
  clear hn
  go_enter Try.func17, Try.ntmps17
  go_wp2
  go_loopw [5] (fun i wr => ∃ k : Nat, k ≤ n ∧ i = .int .i64 k ∧ Below w.heap.size w wr) (fun i _ => n - (intOf i).toNat)
  case atStart => exact ⟨0, Nat.zero_le _, rfl, Below.refl _ _⟩
  case round =>
    obtain ⟨k, hk, rfl, hb⟩ := hrel
    by_cases hlt : k < n
    · obtain ⟨m, hm⟩ := get_of_lt (show k < l.length by have := HN.out; omega)
      obtain ⟨b, off, rfl, hbB, c0, c1, c2⟩ := (h.below (hb.mono hB)).mp hm
      obtain ⟨b', off', rfl, hbB', c0', c1', c2'⟩ := (h'.below (hb.mono hB)).mp hm
      have hs := hb.size
      have hbr : b < wr.heap.size := by omega
      have hbr' : b' < wr.heap.size := by omega
      clear hm h h'
      obtain ⟨m1, m2, m3⟩ := m
      dsimp only at c0 c1 c2 c0' c1' c2'
      have i0 : (0 : Int) ≤ (k : Int) := by omega
      have i1 : (k : Int) < (n : Int) := by omega
      have t0 : decide ((k : Int) < (n : Int)) = true := by rw [decide_eq_true_eq]; omega
      go_wp2
      go_region
      go_wp2
      go_roundw
      case rel => exact ⟨k + 1, by omega, by go_num, (by have hsz := (hb).size; repeat (first | with_reducible exact hb | with_reducible refine Below.alloc ?_ (by first | (simp; omega) | simp | omega) _ | with_reducible refine drewN_below ?_ _ | with_reducible refine Below.drew ?_))⟩
      case measure => simp [intOf]; omega
    · have hkk : k = n := by omega
      have t0 : decide ((k : Int) < (n : Int)) = false := by rw [decide_eq_false_iff_not]; omega
      go_wp2
      go_ret
      exact ⟨rfl, hb⟩

set_option maxRecDepth 100000 in
set_option maxHeartbeats 4000000 in
theorem rsameD_any (A A' : Option Addr) (cap cap' : Nat) (d : Dv) (B : Nat) (w : World) (hB : B ≤ w.heap.size) (h : Rd w B 3 mc A d.2.2.2.2) (h' : Rd w B 3 mc A' d.2.2.2.2) (hlen : d.2.2.2.2.length ≤ 5000000) :
    Calls Try.prog 55 #[.agg #[.int .i64 d.1, .int .i64 d.2.1, .int .i64 d.2.2.1, .int .i64 d.2.2.2.1, .slice A d.2.2.2.2.length cap], .agg #[.int .i64 d.1, .int .i64 d.2.1, .int .i64 d.2.2.1, .int .i64 d.2.2.2.1, .slice A' d.2.2.2.2.length cap']] w
      fun e w' => e = .returned (.bool true) ∧ Below w.heap.size w w' := by
  obtain ⟨a1, a2, a3, a4, l⟩ := d
  dsimp only at h h' hlen ⊢
  have hW : ∀ c c' : Array Value, Below w.heap.size w ((w.alloc (.cells c 123)).alloc (.cells c' 123)) := fun c c' => ((Below.refl _ w).alloc (Nat.le_refl _) _).alloc (by simp) _
  have HW := hide hW
  clear hW
  go_enter Try.func55, Try.ntmps55
  go_wp2_with (fail)
  refine (rsameM_any A A' cap cap' l B _ (by simp; omega) (h.below ((HW.out _ _).mono hB)) (h'.below ((HW.out _ _).mono hB)) hlen).mono ?_
  rintro e w3 ⟨rfl, hb3⟩
  have hw3 := (HW.out _ _).trans (hb3.mono (by simp; omega))
  go_wp2
  go_ret
  exact ⟨rfl, hw3⟩

set_option maxRecDepth 100000 in
set_option maxHeartbeats 4000000 in
theorem rsame_any (A A' : Option Addr) (cap cap' : Nat) (p : Pl) (B : Nat) (w : World) (hB : B ≤ w.heap.size) (h : RdD w B A p.2.2.2.2) (h' : RdD w B A' p.2.2.2.2) (hlen : p.2.2.2.2.length ≤ 5000000) (hm : ∀ d ∈ p.2.2.2.2, d.2.2.2.2.length ≤ 5000000) :
    Calls Try.prog 33 #[.agg #[.int .i64 p.1, .int .i64 p.2.1, .int .i64 p.2.2.1, .int .i64 p.2.2.2.1, .slice A p.2.2.2.2.length cap], .agg #[.int .i64 p.1, .int .i64 p.2.1, .int .i64 p.2.2.1, .int .i64 p.2.2.2.1, .slice A' p.2.2.2.2.length cap']] w
      fun e w' => e = .returned (.bool true) ∧ Below w.heap.size w w' := by
  obtain ⟨p1, p2, p3, p4, l⟩ := p
  dsimp only at h h' hlen hm ⊢
  have HM := hide hm
  clear hm
  obtain ⟨n, hn⟩ : ∃ n, l.length = n := ⟨_, rfl⟩
  rw [hn] at hlen ⊢
  have HN := hide hn
  clear hn
  have hW : Below w.heap.size w ((w.alloc (.cells #[.int .i64 p1, .int .i64 p2, .int .i64 p3, .int .i64 p4, .slice A n cap] 66)).alloc (.cells #[.int .i64 p1, .int .i64 p2, .int .i64 p3, .int .i64 p4, .slice A' n cap'] 66)) := ((Below.refl _ w).alloc (Nat.le_refl _) _).alloc (by simp) _
  have hP : Blk ((w.alloc (.cells #[.int .i64 p1, .int .i64 p2, .int .i64 p3, .int .i64 p4, .slice A n cap] 66)).alloc (.cells #[.int .i64 p1, .int .i64 p2, .int .i64 p3, .int .i64 p4, .slice A' n cap'] 66)) w.heap.size 66 #[.int .i64 p1, .int .i64 p2, .int .i64 p3, .int .i64 p4, .slice A n cap] := (show Blk (w.alloc _) w.heap.size _ _ from heap_new_at rfl).alloc _
  have hQ : Blk ((w.alloc (.cells #[.int .i64 p1, .int .i64 p2, .int .i64 p3, .int .i64 p4, .slice A n cap] 66)).alloc (.cells #[.int .i64 p1, .int .i64 p2, .int .i64 p3, .int .i64 p4, .slice A' n cap'] 66)) (w.heap.size + 1) 66 #[.int .i64 p1, .int .i64 p2, .int .i64 p3, .int .i64 p4, .slice A' n cap'] := heap_new_at (by simp)
  have hs2 : ((w.alloc (.cells #[.int .i64 p1, .int .i64 p2, .int .i64 p3, .int .i64 p4, .slice A n cap] 66)).alloc (.cells #[.int .i64 p1, .int .i64 p2, .int .i64 p3, .int .i64 p4, .slice A' n cap'] 66)).heap.size = w.heap.size + 2 := by simp
  have HW := hide hW; have HP := hide hP; have HQ := hide hQ; have HS := hide hs2
  have H := hide ((h.below (hW.mono hB)).mono (show B ≤ w.heap.size + 2 by omega))
  have H' := hide ((h'.below (hW.mono hB)).mono (show B ≤ w.heap.size + 2 by omega))
  clear hW hP hQ hs2 h h'
  go_enter Try.func33, Try.ntmps33
  go_wp2_with (fail)
  generalize hw2 : ((w.alloc (.cells #[.int .i64 p1, .int .i64 p2, .int .i64 p3, .int .i64 p4, .slice A n cap] 66)).alloc (.cells #[.int .i64 p1, .int .i64 p2, .int .i64 p3, .int .i64 p4, .slice A' n cap'] 66)) = w2 at *
  clear hw2
  go_loopw [5] (fun i wr => ∃ k : Nat, k ≤ n ∧ i = .int .i64 k ∧ Below w2.heap.size w2 wr) (fun i _ => n - (intOf i).toNat)
  case atStart => exact ⟨0, Nat.zero_le _, rfl, Below.refl _ _⟩
  case round =>
    obtain ⟨k, hk, rfl, hb⟩ := hrel
    have hs2 := HS.out
    have hs := hb.size
    have hP := HP.out.below hb HP.out.lt
    have hQ := HQ.out.below hb HQ.out.lt
    have u4 := hP.cell 4
    have v4 := hQ.cell 4
    have hPl := hP.lt
    have hQl := hQ.lt
    simp at u4 v4
    clear hP hQ
    by_cases hlt : k < n
    · obtain ⟨d, hd⟩ := get_of_lt (show k < l.length by have := HN.out; omega)
      obtain ⟨b, off, A1, cap1, rfl, hbB, c0, c1, c2, c3, c4, hr⟩ := (H.out.below (hb.mono (by omega))) k d hd
      obtain ⟨b', off', A2, cap2, rfl, hbB', c0', c1', c2', c3', c4', hr'⟩ := (H'.out.below (hb.mono (by omega))) k d hd
      have hdl := HM.out d (List.mem_of_getElem? hd)
      have hbr : b < wr.heap.size := by omega
      have hbr' : b' < wr.heap.size := by omega
      have HR := hide hr; have HR' := hide hr'
      clear hd hr hr'
      obtain ⟨a1, a2, a3, a4, m⟩ := d
      dsimp only at c0 c1 c2 c3 c4 c0' c1' c2' c3' c4' hdl
      have i0 : (0 : Int) ≤ (k : Int) := by omega
      have i1 : (k : Int) < (n : Int) := by omega
      have t0 : decide ((k : Int) < (n : Int)) = true := by rw [decide_eq_true_eq]; omega
      go_wp2_with (fail)
      go_still_tail 10, (by kernel_rfl)
      change wpList _ _ _ _ _ (World.drew _)
      go_wp2_with (fail)
      have hdr : Below (w.heap.size + 2) wr wr.drew := Below.drew (Below.refl _ _)
      refine (rsameD_any A1 A2 cap1 cap2 (a1, a2, a3, a4, m) (w.heap.size + 2) wr.drew (by show w.heap.size + 2 ≤ wr.heap.size; omega) (HR.out.below hdr) (HR'.out.below hdr) hdl).mono ?_
      rintro e w3 ⟨rfl, hb3⟩
      have hw3 := (Below.drew hb).trans (hb3.mono (show w2.heap.size ≤ wr.heap.size by omega))
      clear hdr hb3 c0 c1 c2 c3 c4 c0' c1' c2' c3' c4' u4 v4
      go_wp2
      go_roundw
      case rel => exact ⟨k + 1, by omega, by go_num, hw3⟩
      case measure => simp [intOf]; omega
    · have hkk : k = n := by omega
      have t0 : decide ((k : Int) < (n : Int)) = false := by rw [decide_eq_false_iff_not]; omega
      go_wp2
      go_ret
      exact ⟨rfl, HW.out.trans (hb.mono (by omega))⟩
end Go.Proofs.Ytcblakflhheepaa
