/- Chapter 19: runs.Maps returns the mappings that the plain function 'mapsOf' tells. -/
import Derived.Test.YtcblakflhheepaaRunsI
namespace Go.Proofs.Ytcblakflhheepaa
open Go.RowKit

theorem info39 : (Try.prog.info? 39).map (fun i => (i.zero, i.size, i.bytes)) = some (some (.agg #[.int .i64 0, .int .i64 0, .int .i64 0]), 3, 24) := by kernel_rfl
theorem mc_one (x : Mp) : ∀ u ∈ mc x, u.oneCell' = true := by
  intro u hu
  simp [mc] at hu
  rcases hu with rfl | rfl | rfl <;> rfl

def mOf (x : Rn) : Mp := (x.1, x.2.1, x.2.2.2)
def mapsR (x : Rn) (n : Nat) : List Mp := (List.range n).map (nextM (mOf x))
def mapsOf (l : List Rn) : List Mp := l.flatMap fun x => mapsR x x.2.2.1.toNat
theorem mapsR_succ (x : Rn) (n : Nat) : mapsR x (n + 1) = mapsR x n ++ [nextM (mOf x) n] := by simp [mapsR, List.range_succ]
theorem mapsR_len (x : Rn) (n : Nat) : (mapsR x n).length = n := by simp [mapsR]
theorem mapsOf_snoc (l : List Rn) (x : Rn) : mapsOf (l ++ [x]) = mapsOf l ++ mapsR x x.2.2.1.toNat := by simp [mapsOf]

theorem chk_zero : ∀ (l : List Rn) (s n : Int), chk l s n = 0 → (∀ x ∈ l, okR x = true) ∧ (l ≠ [] → s + sumN l ≤ 16384)
  | [], s, n, _ => ⟨by simp, by simp⟩
  | x :: l, s, n, h => by
    rw [chk] at h
    split at h
    · cases h
    · rename_i h1
      split at h
      · cases h
      · rename_i h2
        obtain ⟨h3, h4⟩ := chk_zero l _ _ h
        have h5 : okR x = true := by
          cases ho : okR x
          · exact absurd (Or.inl ho) h1
          · rfl
        have h6 : s + x.2.2.1 ≤ 16384 := by
          rcases Int.lt_or_le 16384 (s + x.2.2.1) with h7 | h7
          · exact absurd (Or.inr h7) h1
          · exact h7
        refine ⟨fun y hy => ?_, fun _ => ?_⟩
        · rcases List.mem_cons.1 hy with rfl | hy
          · exact h5
          · exact h3 y hy
        · by_cases hl : l = []
          · subst hl; simp [sumN]; exact h6
          · have := h4 hl
            simp only [sumN, List.map_cons, List.sum_cons] at this ⊢
            omega
theorem okR_spec {x : Rn} (h : okR x = true) : 1 ≤ x.2.2.1 ∧ 0 ≤ x.1 ∧ x.1 + x.2.2.1 ≤ 281474976710656 ∧ 0 ≤ x.2.1 ∧ x.2.1 + x.2.2.1 ≤ 65536 ∧ 0 ≤ x.2.2.2 ∧ x.2.2.2 ≤ 16777215 := by
  simp [okR] at h
  omega
theorem sumN_take {l : List Rn} (h : ∀ x ∈ l, 0 ≤ x.2.2.1) (k : Nat) : sumN (l.take k) ≤ sumN l := by
  have h1 : sumN l = sumN (l.take k) + sumN (l.drop k) := by
    conv => lhs; rw [← List.take_append_drop k l]
    simp only [sumN, List.map_append, List.sum_append]
  have h2 := sumN_nonneg (l := l.drop k) (fun a ha => h a (List.mem_of_mem_drop ha))
  omega
theorem mapsOf_len {l : List Rn} (h : ∀ x ∈ l, okR x = true) : ((mapsOf l).length : Int) = sumN l := by
  induction l with
  | nil => simp [mapsOf, sumN]
  | cons x l ih =>
    have h1 := ih (fun y hy => h y (by simp [hy]))
    have h2 := okR_spec (h x (by simp))
    have h3 : mapsOf (x :: l) = mapsR x x.2.2.1.toNat ++ mapsOf l := by simp [mapsOf]
    rw [h3, List.length_append, mapsR_len]
    simp only [sumN, List.map_cons, List.sum_cons] at h1 ⊢
    omega

theorem mapsOf_room {l : List Rn} {k : Nat} {x : Rn} (hok : ∀ x ∈ l, okR x = true) (hsum : l ≠ [] → 0 + sumN l ≤ 16384) (hx : l[k]? = some x) : ((mapsOf (l.take k)).length : Int) + x.2.2.1 ≤ 16384 := by
  have h1 : ∀ y ∈ l, 0 ≤ y.2.2.1 := fun y hy => by have := okR_spec (hok y hy); omega
  have h2 := sumN_take h1 (k + 1)
  have h3 := mapsOf_len (l := l.take k) (fun y hy => hok y (List.mem_of_mem_take hy))
  have h4 := hsum (by intro e; rw [e] at hx; simp at hx)
  rw [take_step hx] at h2
  have h5 : sumN (l.take k ++ [x]) = sumN (l.take k) + x.2.2.1 := by simp [sumN]
  omega

set_option maxRecDepth 100000 in
set_option maxHeartbeats 4000000 in
theorem maps_any (A : Option Addr) (cap : Nat) (l : List Rn) (w : World) (h : Rd w w.heap.size 4 rc A l) (hl : l.length ≤ 1000000) :
    Calls Try.prog 15 #[.slice A l.length cap] w fun e w' => ∃ v, e = .returned (.tuple #[v, .int .i64 (chk l 0 0)]) ∧ Own w' w.heap.size 39 3 mc v (if chk l 0 0 = 0 then mapsOf l else []) ∧ Below w.heap.size w w' := by
  by_cases hc : chk l 0 0 = 0
  · obtain ⟨hok, hsum⟩ := chk_zero l 0 0 hc
    rw [if_pos hc, hc]
    have HC := hide hc
    clear hc
    go_enter Try.func15, Try.ntmps15
    go_wp2_with (go_at_call 18; go_must (refine (check_any A cap l _ h hl).mono ?_; rintro e w1 ⟨he, hb1⟩; rw [HC.out] at he; subst he))
    obtain ⟨w0, hw0⟩ : ∃ w0 : World, w0 = w1 := ⟨_, rfl⟩
    subst hw0
    go_loopw [5, 16] (fun out i wr => ∃ (k : Nat), k ≤ l.length ∧ i = .int .i64 k ∧ Own wr w.heap.size 39 3 mc out (mapsOf (l.take k)) ∧ Below w.heap.size w wr) (fun _ i _ => l.length - (intOf i).toNat)
    case atStart => exact ⟨0, Nat.zero_le _, rfl, Own.nil _ _ _ _ _, hb1⟩
    case round =>
      obtain ⟨k, hk, rfl, hO, hb⟩ := hrel
      by_cases hlt : k < l.length
      · obtain ⟨x, hx⟩ := get_of_lt hlt
        obtain ⟨b, off, rfl, hbB, c0, c1, c2, c3⟩ := (h.below hb).rn hx
        have HX := hide hx
        clear hx
        obtain ⟨g1, g2, g3, g4, g5, g6, g7⟩ := okR_spec (hok x (List.mem_of_getElem? HX.out))
        have hbs : b < wr.heap.size := by have := hb.size; omega
        obtain ⟨x1, x2, x3, x4⟩ := x
        dsimp only at c0 c1 c2 c3 g1 g2 g3 g4 g5 g6 g7
        obtain ⟨N, rfl⟩ := Int.eq_ofNat_of_zero_le (show 0 ≤ x3 by omega)
        have HO := hide hO
        clear hO
        go_wp2
        obtain ⟨wo, hwo⟩ : ∃ wo : World, wo = wr := ⟨_, rfl⟩
        subst hwo
        go_loopw [5, 22] (fun out i w2 => ∃ (j : Nat), j ≤ N ∧ i = .int .i64 j ∧ Own w2 w.heap.size 39 3 mc out (mapsOf (l.take k) ++ mapsR (x1, x2, (N : Int), x4) j) ∧ Blk w2 wo.heap.size 41 #[.int .i64 x1, .int .i64 x2, .int .i64 N, .int .i64 x4] ∧ Below w.heap.size w w2) (fun _ i _ => N - (intOf i).toNat)
        case atStart => exact ⟨0, by omega, rfl, by simpa [mapsR] using HO.out.alloc _, Blk.new _ _ _, hb.alloc hb.size _⟩
        case round =>
          obtain ⟨j, hj, rfl, hO2, hB2, hb2⟩ := hrel
          have HO2 := hide hO2
          have d0 := hB2.cell 0
          have d1 := hB2.cell 1
          have d2 := hB2.cell 2
          have d3 := hB2.cell 3
          simp at d0 d1 d2 d3
          have HB2 := hide hB2
          clear hO2 hB2 HO
          by_cases hjn : j < N
          · have hlen : (mapsOf (l.take k) ++ mapsR (x1, x2, (N : Int), x4) j).length ≤ 16384 := by
              rw [List.length_append, mapsR_len]
              have := mapsOf_room hok hsum HX.out
              dsimp only at this
              omega
            have hsz := hb2.size
            go_wp2_with (at_builtin; go_must (refine wpList_append1 _ rfl (.tmp 25) (.tmp 37) _ rfl Try.underlying22 info39 rfl (by decide) mc_len mc_one (base := w.heap.size) (l := mapsOf (l.take k) ++ mapsR (x1, x2, (N : Int), x4) j) rfl ?_ (nextM (mOf (x1, x2, (N : Int), x4)) j) wr.heap.size 1 rfl ?_ ?_ ?_ ?_ ?_))
            · exact (by repeat (first | exact HO2.out | refine Own.alloc ?_ _ | refine Own.drewN ?_ _ | refine Own.drew ?_))
            · exact ⟨_, _, heap_new_at (by simp)⟩
            · omega
            · omega
            · simp; omega
            · intro g cap' w3 hO3 hg3 hat hlt3
              have hB3 := ((HB2.out.alloc _).grown hg3 (Ne.symm (by simpa using own_blk_ne HO2.out HB2.out (by decide))))
              have hb3 : Below w.heap.size w w3 := Below.grown (B := w.heap.size) (a := w) (by have hsz := (hb2).size; repeat (first | exact hb2 | refine Below.alloc ?_ (by first | (simp; omega) | simp | omega) _ | refine drewN_below ?_ _ | refine Below.drew ?_)) hg3 (by simp; omega) (fun q hq => (HO2.out.lt q hq).1)
              go_wp2
              go_roundw
              case rel =>
                refine ⟨j + 1, by omega, by go_num, ?_, hB3, hb3⟩
                rw [mapsR_succ, ← List.append_assoc]
                simpa using hO3
              case measure => simp [intOf]; omega
          · obtain rfl : j = N := by omega
            go_wp2
            go_roundw
            case rel =>
              refine ⟨k + 1, by omega, by go_num, ?_, hb2⟩
              rw [take_step HX.out, mapsOf_snoc]
              simpa using HO2.out
            case measure => simp [intOf]; omega
      · obtain rfl : k = l.length := by omega
        go_wp2
        go_ret2
        refine ⟨_, rfl, ?_, hb⟩
        rwa [List.take_length] at hO
  · rw [if_neg hc]
    have hc' : (chk l 0 0 != 0) = true := by simpa using hc
    have HC := hide hc
    clear hc
    go_enter Try.func15, Try.ntmps15
    go_wp2_with (go_at_call 18; go_must (refine (check_any A cap l _ h hl).mono ?_; rintro e w1 ⟨rfl, hb1⟩))
    go_ret2
    exact ⟨_, rfl, Own.nil _ _ _ _ _, hb1⟩
end Go.Proofs.Ytcblakflhheepaa
