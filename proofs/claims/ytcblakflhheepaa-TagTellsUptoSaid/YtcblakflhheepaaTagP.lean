/- Chapter 41: Same of equal tags, places and all. -/
import Derived.Test.YtcblakflhheepaaTagO
namespace Go.Proofs.Ytcblakflhheepaa
open Go.RowKit
set_option linter.unusedVariables false
set_option linter.unusedSimpArgs false

set_option maxRecDepth 100000 in
set_option maxHeartbeats 8000000 in
theorem same41_any (A A' : Option Addr) (cap cap' : Nat) (L : List Ti) (B : Nat) (w : World) (hB : B ≤ w.heap.size) (h : RdI w B A L) (h' : RdI w B A' L) (hl : L.length ≤ 100000) (hla : ∀ t ∈ L, t.2.2.1.length ≤ 100000) :
    Calls Try.prog 24 #[.slice A L.length cap, .slice A' L.length cap', .bool true] w fun e w' => e = .returned (.bool true) ∧ Below w.heap.size w w' := by
  go_enter Try.func24, Try.ntmps24
  go_wp2
  go_loopw [7] (fun i wr => ∃ k : Nat, k ≤ L.length ∧ i = .int .i64 k ∧ Below w.heap.size w wr) (fun i _ => L.length - (intOf i).toNat)
  case atStart => exact ⟨0, Nat.zero_le _, rfl, Below.refl _ _⟩
  case round =>
    obtain ⟨k, hk, rfl, hb⟩ := hrel
    by_cases hlt : k < L.length
    · obtain ⟨t, ht⟩ := get_of_lt hlt
      obtain ⟨b, off, A1, cap1, rfl, hbB, c0, c1, c2, c3, hr⟩ := (h.below (hb.mono hB)) k t ht
      obtain ⟨b', off', A2, cap2, rfl, hbB', d0, d1, d2, d3, hr'⟩ := (h'.below (hb.mono hB)) k t ht
      have hal := hla t (List.mem_of_getElem? ht)
      obtain ⟨t1, t2, t3, t4⟩ := t
      dsimp only at c0 c1 c2 c3 d0 d1 d2 d3 hr hr' hal
      have HX := hide ht
      clear ht
      have i0 : (0 : Int) ≤ (k : Int) := by omega
      have i1 : (k : Int) < (L.length : Int) := by omega
      go_wp2
      go_quiet (fail)
      go_wp2_with (fail)
      have hBr : B ≤ wr.heap.size := by have := hb.size; omega
      obtain ⟨wo, hwo⟩ : ∃ wo : World, wo = wr := ⟨_, rfl⟩
      subst hwo
      go_loopw [8] (fun i wx => ∃ j : Nat, j ≤ t3.length ∧ i = .int .i64 j ∧ Below wo.heap.size wo wx) (fun i _ => t3.length - (intOf i).toNat)
      case atStart => exact ⟨0, Nat.zero_le _, rfl, drewN_below (Below.refl _ _) _⟩
      case round =>
        obtain ⟨j, hj, rfl, hbx⟩ := hrel
        have g2 : wr.cell? ⟨b, off + k * 4 + 2, none⟩ = some (.slice A1 t3.length cap1) := (hbx.cell (p := ⟨b, _, none⟩) (show b < wo.heap.size by omega)).trans c2
        have g2' : wr.cell? ⟨b', off' + k * 4 + 2, none⟩ = some (.slice A2 t3.length cap2) := (hbx.cell (p := ⟨b', _, none⟩) (show b' < wo.heap.size by omega)).trans d2
        by_cases hlt2 : j < t3.length
        · obtain ⟨a, ha⟩ := get_of_lt hlt2
          obtain ⟨b2, off2, rfl, hb2, e0, e1, e2⟩ := ((hr.mono hBr).below hbx).ai ha
          obtain ⟨b3, off3, rfl, hb3, m0, m1, m2⟩ := ((hr'.mono hBr).below hbx).ai ha
          obtain ⟨a1, a2, a3⟩ := a
          dsimp only at e0 e1 e2 m0 m1 m2
          have hsx := hbx.size
          have j0 : (0 : Int) ≤ (j : Int) := by omega
          have j1 : (j : Int) < (t3.length : Int) := by omega
          have hbr2 : b < wr.heap.size := by omega
          have hbr3 : b' < wr.heap.size := by omega
          have hbr4 : b2 < wr.heap.size := by omega
          have hbr5 : b3 < wr.heap.size := by omega
          clear ha c0 c1 c2 c3 d0 d1 d2 d3
          go_wp2
          go_roundw
          case rel => exact ⟨j + 1, by omega, by go_num, (by have hsz := (hbx).size; repeat (first | exact hbx | refine Below.alloc ?_ (by first | (simp; omega) | simp | omega) _ | refine drewN_below ?_ _ | refine Below.drew ?_))⟩
          case measure => simp [intOf]; omega
        · have hj2 : j = t3.length := by omega
          subst hj2
          clear c0 c1 c2 c3 d0 d1 d2 d3
          go_wp2
          go_roundw
          case rel => exact ⟨k + 1, by omega, by go_num, hb.trans (hbx.mono hb.size)⟩
          case measure => simp [intOf]; omega
    · have hk2 : k = L.length := by omega
      subst hk2
      go_wp2
      go_ret
      exact ⟨rfl, hb⟩
end Go.Proofs.Ytcblakflhheepaa
