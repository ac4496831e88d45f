/- Chapter 18: the law's Few. -/
import Derived.Test.YtaglmkjkmhpifaaGreatDoorPoolB
namespace Go.Proofs.YtaglmkjkmhpifaaGreatDoor
open Go.RowKit
set_option linter.unusedVariables false
set_option linter.unusedSimpArgs false

def fewP (p : Pl) : Bool := decide (p.2.2.2.2.length ≤ 200) && decide (cntL (p.2.2.2.2.take 201) ≤ 2000)
def fewV (p : Pl) : Int := if fewP p then 1 else 0
theorem fewP_true {p : Pl} (h : fewP p = true) : p.2.2.2.2.length ≤ 200 ∧ cntL p.2.2.2.2 ≤ 2000 := by
  simp [fewP] at h
  refine ⟨h.1, ?_⟩
  have h2 := h.2
  rwa [List.take_of_length_le (by omega)] at h2
theorem cntL_bd (b : Nat) : ∀ (L : List Dv), (∀ d ∈ L, d.2.2.2.2.length ≤ b) → cntL L ≤ L.length * b
  | [], _ => by simp [cntL]
  | d :: L, h => by
    have h1 := cntL_bd b L (fun y hy => h y (by simp [hy]))
    have h2 := h d (by simp)
    simp only [cntL, List.map_cons, List.sum_cons, List.length_cons, Nat.add_mul] at *
    omega
theorem take_min2 {α : Type} {l : List α} {k : Nat} (hk : k ≤ l.length) (hm : k ≤ 201) (h : ¬ (k < l.length ∧ k < 201)) : l.take k = l.take 201 := by
  by_cases h1 : k = 201
  · rw [h1]
  · have h2 : k = l.length := by omega
    rw [h2, List.take_length, List.take_of_length_le (by omega)]

set_option maxRecDepth 100000 in
set_option maxHeartbeats 8000000 in
theorem few18_any (A : Option Addr) (cap : Nat) (p : Pl) (B : Nat) (w : World) (hB : B ≤ w.heap.size) (h : RdD w B A p.2.2.2.2) (hl : p.2.2.2.2.length ≤ 6000000000000) (hm : ∀ d ∈ p.2.2.2.2, d.2.2.2.2.length ≤ 6000000000000) :
    Calls Tryz.prog 5 #[.agg #[.int .i64 p.1, .int .i64 p.2.1, .int .i64 p.2.2.1, .int .i64 p.2.2.2.1, .slice A p.2.2.2.2.length cap]] w
      fun e w' => e = .returned (.int .i64 (fewV p)) ∧ Below w.heap.size w w' := by
  obtain ⟨p1, p2, p3, p4, L⟩ := p
  dsimp only at h hl hm
  have HM := hide hm
  clear hm
  have hP := Blk.new w 24 #[.int .i64 p1, .int .i64 p2, .int .i64 p3, .int .i64 p4, .slice A L.length cap]
  have hW : Below w.heap.size w (w.alloc (.cells #[.int .i64 p1, .int .i64 p2, .int .i64 p3, .int .i64 p4, .slice A L.length cap] 24)) := (by repeat (first | exact Below.refl _ _ | refine Below.alloc ?_ (by first | (simp; omega) | simp | omega) _ | refine drewN_below ?_ _ | refine Below.drew ?_))
  go_enter Tryz.func5, Tryz.ntmps5
  go_wp2
  generalize w.alloc (.cells #[.int .i64 p1, .int .i64 p2, .int .i64 p3, .int .i64 p4, .slice A L.length cap] 24) = w1 at *
  have hPl := hP.lt
  have c4 := hP.cell 4
  simp at c4
  go_loop [3, 4] (fun n i => ∃ k : Nat, k ≤ L.length ∧ k ≤ 201 ∧ i = .int .i64 k ∧ n = .int .i64 ((cntL (L.take k) : Nat) : Int)) (fun _ i => L.length - (intOf i).toNat)
  case atStart => exact ⟨0, Nat.zero_le _, by omega, rfl, rfl⟩
  case round =>
    obtain ⟨k, hk, hk1, rfl, rfl⟩ := hrel
    have hN : cntL (L.take k) ≤ k * 6000000000000 := by
      have h1 := cntL_bd 6000000000000 (L.take k) (fun d hd => HM.out d (List.mem_of_mem_take hd))
      have h2 : (L.take k).length = k := by simp; omega
      rw [h2] at h1
      exact h1
    by_cases hlt : k < L.length ∧ k < 201
    · obtain ⟨hlt, hlt1⟩ := hlt
      obtain ⟨d, hd⟩ := get_of_lt hlt
      obtain ⟨b, off, A', cap', rfl, hbB, c0, c1, c2, c3, g4, hr⟩ := (h.below (hW.mono hB)) k d hd
      have hst := cntL_step hd
      have hdm := HM.out d (List.mem_of_getElem? hd)
      obtain ⟨N, hN2⟩ : ∃ N, cntL (L.take k) = N := ⟨_, rfl⟩
      rw [hN2] at hst hN ⊢
      have HST := hide hst
      have i0 : (0 : Int) ≤ (k : Int) := by omega
      have i1 : (k : Int) < (L.length : Int) := by omega
      have t0 : decide (k < L.length) = true := by simp; omega
      have t1 : decide ((k : Int) < 201) = true := by simp; omega
      clear hst hd hN2 hr c0 c1 c2 c3
      go_wp2
      go_round
      case rel => exact ⟨k + 1, by omega, by omega, by go_num, by rw [HST.out]; (congr 1)⟩
      case measure => simp [intOf]; omega
    · have hfin := take_min2 hk hk1 hlt
      have u0 : L.length ≤ k ∨ (k < L.length ∧ 201 ≤ (k : Int)) := by omega
      rw [hfin] at hN ⊢
      have hfp : fewV (p1, p2, p3, p4, L) = if (decide (L.length ≤ 200) && decide (cntL (L.take 201) ≤ 2000)) then 1 else 0 := rfl
      obtain ⟨N, hN2⟩ : ∃ N, cntL (L.take 201) = N := ⟨_, rfl⟩
      rw [hN2] at hN hfp ⊢
      have HFP := hide hfp
      clear hfin hlt hN2 hfp
      have ha : L.length ≤ 200 ∨ 200 < L.length := by omega
      have hb : N ≤ 2000 ∨ 2000 < N := by omega
      rcases u0 with u0 | ⟨u0, u1⟩ <;> rcases ha with ha | ha <;> rcases hb with hb | hb
      all_goals try (exfalso; omega)
      all_goals
        (first | (have v1 : decide ((k : Int) < 201) = false := by simp; omega) | skip)
        (first | (have v0 : decide (k < L.length) = false := by simp; omega) | (have v0 : decide (k < L.length) = true := by simp; omega))
        (first | (have x0 : decide ((L.length : Int) ≤ 200) = false := by simp; omega) | (have x0 : decide ((L.length : Int) ≤ 200) = true := by simp; omega))
        (first | (have y0 : decide ((N : Int) ≤ 2000) = false := by simp; omega) | (have y0 : decide ((N : Int) ≤ 2000) = true := by simp; omega))
        go_wp2
        go_ret
        refine ⟨ret_int ?_, hW⟩
        rw [HFP.out]
        simp
        try omega
end Go.Proofs.YtaglmkjkmhpifaaGreatDoor
