/- Chapter 41: the law's few. -/
import Derived.Test.YtcblakflhheepaaTagX
namespace Go.Proofs.Ytcblakflhheepaa
open Go.RowKit
set_option linter.unusedVariables false
set_option linter.unusedSimpArgs false

def fewA (a : Ai) : Nat := a.1.size + a.2.1.size
def sumA (l : List Ai) : Nat := (l.map fewA).sum
def fewT (t : Ti) : Nat := t.2.1.size + t.2.2.1.length + sumA (t.2.2.1.take 101)
def sumT (L : List Ti) : Nat := (L.map fewT).sum
def fewN (L : List Ti) : Nat := sumT (L.take 101)
def fewB (L : List Ti) : Bool := decide (L.length ≤ 100) && decide (fewN L ≤ 3000)

theorem sum_bd {α : Type} (f : α → Nat) (b : Nat) : ∀ l : List α, (∀ x ∈ l, f x ≤ b) → (l.map f).sum ≤ l.length * b
  | [], _ => by simp
  | x :: l, h => by
    have h1 := sum_bd f b l (fun y hy => h y (by simp [hy]))
    have h2 := h x (by simp)
    simp only [List.map_cons, List.sum_cons, List.length_cons, Nat.add_mul]
    omega
theorem sum_step {α : Type} (f : α → Nat) {l : List α} {k : Nat} {x : α} (h : l[k]? = some x) : ((l.take (k + 1)).map f).sum = ((l.take k).map f).sum + f x := by
  rw [take_step h]; simp
theorem take_min {α : Type} {l : List α} {k : Nat} (hk : k ≤ l.length) (hm : k ≤ 101) (h : ¬ (k < l.length ∧ k < 101)) : l.take k = l.take 101 := by
  by_cases h1 : k = 101
  · rw [h1]
  · have h2 : k = l.length := by omega
    rw [h2, List.take_length, List.take_of_length_le (by omega)]
theorem ret_int_nat {a b : Nat} (h : a = b) : Value.int .i64 (a : Int) = Value.int .i64 (b : Int) := by rw [h]

set_option maxRecDepth 100000 in
set_option maxHeartbeats 8000000 in
theorem few_any (A : Option Addr) (cap : Nat) (L : List Ti) (B : Nat) (w : World) (hB : B ≤ w.heap.size) (h : RdI w B A L) (hl : L.length ≤ 1000000000000)
    (hla : ∀ t ∈ L, t.2.2.1.length ≤ 1000000000000 ∧ t.2.1.size ≤ 1000000000000 ∧ ∀ a ∈ t.2.2.1, a.1.size ≤ 1000000000000 ∧ a.2.1.size ≤ 1000000000000) :
    Calls Try.prog 27 #[.slice A L.length cap] w fun e w' => e = .returned (.bool (fewB L)) ∧ Below w.heap.size w w' := by
  go_enter Try.func27, Try.ntmps27
  go_wp2
  go_loopw [3, 4] (fun n i wr => ∃ k : Nat, k ≤ L.length ∧ k ≤ 101 ∧ i = .int .i64 k ∧ n = .int .i64 ((sumT (L.take k) : Nat) : Int) ∧ Below w.heap.size w wr) (fun _ i _ => L.length - (intOf i).toNat)
  case atStart => exact ⟨0, Nat.zero_le _, by omega, rfl, rfl, Below.refl _ _⟩
  case round =>
    obtain ⟨k, hk, hk1, rfl, rfl, hb⟩ := hrel
    have hN : sumT (L.take k) ≤ k * 210000000000000 := by
      have h1 := sum_bd fewT 210000000000000 (L.take k) (fun t ht => by
        obtain ⟨g1, g2, g3⟩ := hla t (List.mem_of_mem_take ht)
        have h2 := sum_bd fewA 2000000000000 (t.2.2.1.take 101) (fun a ha => by
          obtain ⟨q1, q2⟩ := g3 a (List.mem_of_mem_take ha)
          unfold fewA; omega)
        have h3 : (t.2.2.1.take 101).length ≤ 101 := by simp; omega
        have h4 : sumA (t.2.2.1.take 101) = ((t.2.2.1.take 101).map fewA).sum := rfl
        unfold fewT
        omega)
      have h2 : (L.take k).length = k := by simp; omega
      rw [h2] at h1
      exact h1
    by_cases hlt : k < L.length ∧ k < 101
    · obtain ⟨hlt, hlt1⟩ := hlt
      obtain ⟨t, ht⟩ := get_of_lt hlt
      obtain ⟨b, off, A', cap', rfl, hbB, c0, c1, c2, c3, hr0⟩ := h k t ht
      have hbw : b < w.heap.size := by omega
      replace c1 := (hb.cell (p := ⟨b, _, none⟩) hbw).trans c1
      replace c2 := (hb.cell (p := ⟨b, _, none⟩) hbw).trans c2
      obtain ⟨g1, g2, g3⟩ := hla t (List.mem_of_getElem? ht)
      have hst : sumT (L.take (k + 1)) = sumT (L.take k) + fewT t := sum_step fewT ht
      obtain ⟨N, hN2⟩ : ∃ N, sumT (L.take k) = N := ⟨_, rfl⟩
      rw [hN2] at hN hst
      rw [hN2]
      have HST := hide hst
      have i0 : (0 : Int) ≤ (k : Int) := by omega
      have i1 : (k : Int) < (L.length : Int) := by omega
      have t0 : decide ((k : Int) < (L.length : Int)) = true := by simp; omega
      have t1 : decide ((k : Int) < 101) = true := by simp; omega
      clear ht hst hN2 c0 c3
      obtain ⟨t1_, t2, t3, t4⟩ := t
      dsimp only at c1 c2 hr0 g1 g2 g3
      have s0 : IntKind.i64.wrap ((t2.size : Int) + (t3.length : Int)) = (t2.size : Int) + (t3.length : Int) := IntWalk.i64_in _ (by omega)
      have s1 : IntKind.i64.wrap ((N : Int) + ((t2.size : Int) + (t3.length : Int))) = (N : Int) + ((t2.size : Int) + (t3.length : Int)) := IntWalk.i64_in _ (by omega)
      go_wp2
      go_quiet (fail)
      clear s0 s1 t0 t1
      go_wp2_with (fail)
      obtain ⟨wo, hwo⟩ : ∃ wo : World, wo = wr := ⟨_, rfl⟩
      subst hwo
      have hc2 := hide c2
      clear c1 c2
      go_loopw [3, 5] (fun n i wx => ∃ j : Nat, j ≤ t3.length ∧ j ≤ 101 ∧ i = .int .i64 j ∧ n = .int .i64 ((N : Int) + ((t2.size : Int) + (t3.length : Int)) + ((sumA (t3.take j) : Nat) : Int)) ∧ Below wo.heap.size wo wx) (fun _ i _ => t3.length - (intOf i).toNat)
      case atStart => exact ⟨0, Nat.zero_le _, by omega, rfl, by simp [sumA], drewN_below (Below.refl _ _) _⟩
      case round =>
        obtain ⟨j, hj, hj1, rfl, rfl, hbx⟩ := hrel
        have hbx2 := hb.trans (hbx.mono hb.size)
        have c2 : wr.cell? ⟨b, off + k * 4 + 2, none⟩ = some (.slice A' t3.length cap') := (hbx.cell (p := ⟨b, _, none⟩) (by have := hb.size; dsimp only; omega)).trans hc2.out
        have hM : sumA (t3.take j) ≤ j * 2000000000000 := by
          have h1 := sum_bd fewA 2000000000000 (t3.take j) (fun a ha => by
            obtain ⟨q1, q2⟩ := g3 a (List.mem_of_mem_take ha)
            unfold fewA; omega)
          have h2 : (t3.take j).length = j := by simp; omega
          rw [h2] at h1
          exact h1
        by_cases hlt2 : j < t3.length ∧ j < 101
        · obtain ⟨hlt2, hlt3⟩ := hlt2
          obtain ⟨x, hx⟩ := get_of_lt hlt2
          obtain ⟨b2, off2, hA2, hb22, e0, e1, e2⟩ := (hr0.below (hbx2.mono hB)).ai hx
          subst hA2
          obtain ⟨q1, q2⟩ := g3 x (List.mem_of_getElem? hx)
          have hst : sumA (t3.take (j + 1)) = sumA (t3.take j) + (x.1.size + x.2.1.size) := sum_step fewA hx
          obtain ⟨M, hM2⟩ : ∃ M, sumA (t3.take j) = M := ⟨_, rfl⟩
          rw [hM2] at hM hst
          rw [hM2]
          have HST2 := hide hst
          have j0 : (0 : Int) ≤ (j : Int) := by omega
          have j1 : (j : Int) < (t3.length : Int) := by omega
          have u0 : decide ((j : Int) < (t3.length : Int)) = true := by simp; omega
          have u1 : decide ((j : Int) < 101) = true := by simp; omega
          clear hx hst hM2 e2
          have s0 : IntKind.i64.wrap ((x.1.size : Int) + (x.2.1.size : Int)) = (x.1.size : Int) + (x.2.1.size : Int) := IntWalk.i64_in _ (by omega)
          have s1 : IntKind.i64.wrap ((N : Int) + ((t2.size : Int) + (t3.length : Int)) + (M : Int) + ((x.1.size : Int) + (x.2.1.size : Int))) = (N : Int) + ((t2.size : Int) + (t3.length : Int)) + (M : Int) + ((x.1.size : Int) + (x.2.1.size : Int)) := IntWalk.i64_in _ (by omega)
          go_wp2
          go_quiet (fail)
          clear s0 s1 u0 u1
          go_wp2
          go_roundw
          case rel => exact ⟨j + 1, by omega, by omega, by go_num, by rw [HST2.out]; congr 1; push_cast; omega, (by have hsz := (hbx).size; repeat (first | with_reducible exact hbx | with_reducible refine Below.alloc ?_ (by first | (simp; omega) | simp | omega) _ | with_reducible refine drewN_below ?_ _ | with_reducible refine Below.drew ?_))⟩
          case measure => simp [intOf]; omega
        · have hfin := take_min hj hj1 hlt2
          have hsum : N + (t2.size + t3.length) + sumA (t3.take j) = sumT (L.take (k + 1)) := by
            rw [HST.out, hfin]; simp only [fewT]; omega
          have HSUM := hide hsum
          have u0 : t3.length ≤ j ∨ (j < t3.length ∧ 101 ≤ (j : Int)) := by omega
          clear hsum hfin hlt2
          rcases u0 with u0 | ⟨u0, u1⟩
          all_goals
            (first | (have v1 : decide ((j : Int) < 101) = false := by simp; omega) | skip)
            (first | (have v0 : decide (j < t3.length) = false := by simp; omega) | (have v0 : decide (j < t3.length) = true := by simp; omega))
            go_wp2
            go_roundw
            case rel => exact ⟨k + 1, by omega, by omega, by go_num, by rw [← HSUM.out]; (congr 1; try (push_cast; omega)), hbx2⟩
            case measure => simp [intOf]; omega
    · have hfin := take_min hk hk1 hlt
      have HF := hide (show sumT (L.take k) = fewN L by rw [hfin]; rfl)
      have u0 : L.length ≤ k ∨ (k < L.length ∧ 101 ≤ (k : Int)) := by omega
      rw [HF.out] at hN
      rw [HF.out]
      clear hfin hlt
      by_cases hl1 : L.length ≤ 100
      · have hl2 : decide ((L.length : Int) ≤ 100) = true := by simp; omega
        rcases u0 with u0 | ⟨u0, u1⟩
        all_goals
          (first | (have v1 : decide ((k : Int) < 101) = false := by simp; omega) | skip)
          (first | (have v0 : decide (k < L.length) = false := by simp; omega) | (have v0 : decide (k < L.length) = true := by simp; omega))
          go_wp2
          go_ret
          exact ⟨ret_bool (by simp [fewB, hl1]; try omega), hb⟩
      · have hl2 : decide ((L.length : Int) ≤ 100) = false := by simp; omega
        rcases u0 with u0 | ⟨u0, u1⟩
        all_goals
          (first | (have v1 : decide ((k : Int) < 101) = false := by simp; omega) | skip)
          (first | (have v0 : decide (k < L.length) = false := by simp; omega) | (have v0 : decide (k < L.length) = true := by simp; omega))
          go_wp2
          go_ret
          exact ⟨ret_bool (by simp [fewB, hl1]), hb⟩
end Go.Proofs.Ytcblakflhheepaa
