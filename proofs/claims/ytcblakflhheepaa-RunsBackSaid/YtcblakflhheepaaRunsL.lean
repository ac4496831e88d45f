/- Chapter 19: both Merge return the runs of the mappings. -/
import Derived.Test.YtcblakflhheepaaRunsK
namespace Go.Proofs.Ytcblakflhheepaa
open Go.RowKit

def foldR (l : List Rn) : List Rn := l.foldl addR []
theorem foldR_snoc (l : List Rn) (x : Rn) : foldR (l ++ [x]) = addR (foldR l) x := by simp [foldR]

theorem addR_addR (acc : List Rn) (y z : Rn) (h : fol y z = true) : addR (addR acc y) z = addR acc (y.1, y.2.1, y.2.2.1 + z.2.2.1, y.2.2.2) := by
  rcases List.eq_nil_or_concat acc with rfl | ⟨l0, a, rfl⟩
  · simp [addR, h]
  · rw [List.concat_eq_append, addR_snoc, addR_snoc]
    have hf : fol a (y.1, y.2.1, y.2.2.1 + z.2.2.1, y.2.2.2) = fol a y := rfl
    rw [hf]
    split
    · rename_i h1
      rw [addR_snoc, if_pos]
      · simp; omega
      · simp [fol] at h h1 ⊢
        omega
    · rename_i h1
      rw [show l0 ++ [a, y] = (l0 ++ [a]) ++ [y] by simp, addR_snoc, if_pos h]
      simp
theorem add_units (acc : List Rn) (x : Rn) : ∀ n : Nat, (mapsR x (n + 1)).foldl (fun acc m => addR acc (oneR m)) acc = addR acc (x.1, x.2.1, (n : Int) + 1, x.2.2.2)
  | 0 => by simp [mapsR, nextM, mOf, oneR, List.range_succ]
  | n + 1 => by
    rw [mapsR_succ, List.foldl_append, add_units acc x n]
    simp only [List.foldl_cons, List.foldl_nil]
    rw [addR_addR]
    · simp [oneR, nextM, mOf]
    · simp [fol, oneR, nextM, mOf]
theorem runsOf_mapsOf (l : List Rn) (h : ∀ x ∈ l, okR x = true) : runsOf (mapsOf l) = foldR l := by
  revert h
  rw [← List.reverse_reverse l]
  induction l.reverse with
  | nil => intro _; simp [mapsOf, runsOf, foldR]
  | cons a r ih =>
    intro h
    rw [List.reverse_cons, foldR_snoc, mapsOf_snoc, ← ih (fun x hx => h x (by simp at hx ⊢; exact Or.inl hx))]
    have ha := okR_spec (h a (by simp))
    obtain ⟨n, hn⟩ : ∃ n : Nat, a.2.2.1.toNat = n + 1 := ⟨a.2.2.1.toNat - 1, by omega⟩
    unfold runsOf
    rw [List.foldl_append, hn, add_units]
    congr 1
    have : a.2.2.1 = (n : Int) + 1 := by omega
    rw [← this]
theorem foldR_len (l : List Rn) : (foldR l).length ≤ l.length := by
  rw [← List.reverse_reverse l]
  induction l.reverse with
  | nil => simp [foldR]
  | cons a r ih =>
    rw [List.reverse_cons, foldR_snoc]
    have := addR_len (foldR r.reverse) a
    simp only [List.length_append, List.length_reverse, List.length_cons, List.length_nil] at ih ⊢
    omega
theorem foldR_sum (l : List Rn) : sumN (foldR l) = sumN l := by
  rw [← List.reverse_reverse l]
  induction l.reverse with
  | nil => simp [foldR]
  | cons a r ih => rw [List.reverse_cons, foldR_snoc, sumN_addR, ih]; simp [sumN]
theorem foldR_mild (l : List Rn) (h : ∀ x ∈ l, okR x = true) (hs : sumN l ≤ 1000000) : MildL (foldR l) := by
  revert h hs
  rw [← List.reverse_reverse l]
  induction l.reverse with
  | nil => intro _ _; exact ⟨by simp [foldR], by simp [foldR, sumN]⟩
  | cons a r ih =>
    intro h hs
    have ha := okR_spec (h a (by simp))
    rw [List.reverse_cons] at hs ⊢
    have hsum : sumN (r.reverse ++ [a]) = sumN r.reverse + a.2.2.1 := by simp [sumN]
    rw [foldR_snoc]
    have h2 := ih (fun x hx => h x (by simp at hx ⊢; exact Or.inl hx)) (by omega)
    exact h2.add ⟨by omega, by omega, by omega, by omega, by omega⟩ (by rw [foldR_sum]; omega)

set_option maxRecDepth 100000 in
set_option maxHeartbeats 2000000 in
theorem merge_any (A : Option Addr) (cap : Nat) (l : List Rn) (w : World) (h : Rd w w.heap.size 4 rc A l) (hl : l.length ≤ 100000) :
    Calls Try.prog 20 #[.slice A l.length cap] w fun e w' => ∃ v, e = .returned v ∧ Own w' w.heap.size 41 4 rc v (if chk l 0 0 = 0 then foldR l else []) ∧ Below w.heap.size w w' := by
  by_cases hc : chk l 0 0 = 0
  · obtain ⟨hok, hsum⟩ := chk_zero l 0 0 hc
    rw [if_pos hc]
    have HC := hide hc
    clear hc
    go_enter Try.func20, Try.ntmps20
    go_wp2_with (first
      | (go_at_call 18; go_must (refine (check_any A cap l _ h (by omega)).mono ?_; rintro e w1 ⟨he, hb1⟩; rw [HC.out] at he; subst he))
      | (go_at_call 35; refine (grower_any _).mono ?_; rintro e w2 ⟨rfl, rfl⟩))
    have hsz1 := hb1.size
    obtain ⟨w0, hw0⟩ : ∃ w0 : World, w0 = w1 := ⟨_, rfl⟩
    subst hw0
    go_loopw [16] (fun i wr => ∃ (k : Nat) (v : Value), k ≤ l.length ∧ i = .int .i64 k ∧ Blk wr w0.heap.size 26 #[v] ∧ Own wr w.heap.size 41 4 rc v (foldR (l.take k)) ∧ Below w.heap.size w wr) (fun i _ => l.length - (intOf i).toNat)
    case atStart => exact ⟨0, _, Nat.zero_le _, rfl, Blk.new _ _ _, by rw [List.take_zero]; exact (Own.nil _ _ _ _ _).alloc _, hb1.alloc hb1.size _⟩
    case round =>
      obtain ⟨k, v, hk, rfl, hB, hO, hb⟩ := hrel
      have HB := hide hB
      have HO := hide hO
      clear hB hO
      by_cases hlt : k < l.length
      · obtain ⟨x, hx⟩ := get_of_lt hlt
        obtain ⟨b, off, rfl, hbB, c0, c1, c2, c3⟩ := (h.below hb).rn hx
        have HX := hide hx
        clear hx
        have hbs : b < wr.heap.size := by have := hb.size; omega
        have hlk : (foldR (l.take k)).length ≤ 100000 := by have := foldR_len (l.take k); have := List.length_take_le k l; omega
        have hox := okR_spec (hok x (List.mem_of_getElem? HX.out))
        have hmx : Mild x := ⟨by omega, by omega, by omega, by omega, by omega, by omega⟩
        have hml : MildL (foldR (l.take k)) := foldR_mild _ (fun y hy => hok y (List.mem_of_mem_take hy)) (by
          have h1 := sumN_take (l := l) (fun y hy => by have := okR_spec (hok y hy); omega) k
          have h2 := hsum (by intro e; rw [e] at hlt; simp at hlt)
          omega)
        have HM := hide hml
        have HX2 := hide hmx
        clear hml hmx hox
        obtain ⟨x1, x2, x3, x4⟩ := x
        dsimp only at c0 c1 c2 c3
        go_wp2_with (go_at_call 56; go_must (refine (add_any _ w0.heap.size w.heap.size v (foldR (l.take k)) (x1, x2, x3, x4) (by repeat (first | exact HB.out | refine Blk.alloc ?_ _ | refine Blk.drewN ?_ _ | refine Blk.drew ?_)) (by repeat (first | exact HO.out | refine Own.alloc ?_ _ | refine Own.drewN ?_ _ | refine Own.drew ?_)) hsz1 HM.out HX2.out hlk).mono ?_; rintro e w1 ⟨rfl, v1, hB1, hO1, hb2⟩))
        go_roundw
        case rel =>
          refine ⟨k + 1, v1, by omega, by go_num, hB1, ?_, ?_⟩
          · rw [take_step HX.out, foldR_snoc]; exact hO1
          · exact Below.trans (by have hsz := (hb).size; repeat (first | exact hb | refine Below.alloc ?_ (by first | (simp; omega) | simp | omega) _ | refine drewN_below ?_ _ | refine Below.drew ?_)) hb2
        case measure => simp [intOf]; omega
      · obtain rfl : k = l.length := by omega
        go_wp2_with (go_at_call 58; refine (told_any _ _ _ HB.out).mono ?_; rintro e w3 ⟨rfl, rfl⟩)
        go_ret
        refine ⟨_, rfl, ?_, hb⟩
        have := HO.out
        rwa [List.take_length] at this
  · rw [if_neg hc]
    have hc' : (chk l 0 0 != 0) = true := by simpa using hc
    have HC := hide hc
    clear hc
    go_enter Try.func20, Try.ntmps20
    go_wp2_with (go_at_call 18; go_must (refine (check_any A cap l _ h (by omega)).mono ?_; rintro e w1 ⟨rfl, hb1⟩))
    go_ret
    exact ⟨_, rfl, Own.nil _ _ _ _ _, hb1⟩

theorem mapsOf_mild (l : List Rn) (h : ∀ x ∈ l, okR x = true) : MildM (mapsOf l) := by
  intro m hm
  simp only [mapsOf, List.mem_flatMap] at hm
  obtain ⟨x, hx, hm⟩ := hm
  have hox := okR_spec (h x hx)
  simp only [mapsR, List.mem_map, List.mem_range] at hm
  obtain ⟨j, hj, rfl⟩ := hm
  simp only [nextM, mOf]
  omega

set_option maxRecDepth 100000 in
set_option maxHeartbeats 2000000 in
theorem refmerge_any (A : Option Addr) (cap : Nat) (l : List Rn) (w : World) (h : Rd w w.heap.size 4 rc A l) (hl : l.length ≤ 100000) :
    Calls Try.prog 21 #[.slice A l.length cap] w fun e w' => ∃ v, e = .returned v ∧ Own w' w.heap.size 41 4 rc v (if chk l 0 0 = 0 then foldR l else []) ∧ Below w.heap.size w w' := by
  by_cases hc : chk l 0 0 = 0
  · obtain ⟨hok, hsum⟩ := chk_zero l 0 0 hc
    rw [if_pos hc]
    have hlm : (mapsOf l).length ≤ 100000 := by
      have h1 := mapsOf_len hok
      by_cases e : l = []
      · subst e; simp [mapsOf]
      · have := hsum e; omega
    have HC := hide hc
    clear hc
    go_enter Try.func21, Try.ntmps21
    go_wp2_with (fail)
    refine (refmaps_any A cap l _ h (by omega)).mono ?_
    rintro e w1 ⟨v, rfl, hO, hb1⟩
    rw [if_pos HC.out] at hO
    rw [HC.out]
    obtain ⟨A2, n2, cap2, rfl, hn2, hr2⟩ := hO.rd mc_len
    subst hn2
    clear hO
    go_wp2_with (fail)
    refine (refof_any A2 cap2 (mapsOf l) _ hr2 (mapsOf_mild l hok) hlm).mono ?_
    rintro e w2 ⟨v, rfl, hO2, hb2⟩
    go_wp2
    go_ret
    refine ⟨_, rfl, ?_, hb1.trans (hb2.mono hb1.size)⟩
    rw [runsOf_mapsOf l hok] at hO2
    exact hO2.mono hb1.size
  · rw [if_neg hc]
    have hc' : (chk l 0 0 != 0) = true := by simpa using hc
    have HC := hide hc
    clear hc
    go_enter Try.func21, Try.ntmps21
    go_wp2_with (fail)
    refine (refmaps_any A cap l _ h (by omega)).mono ?_
    rintro e w1 ⟨v, rfl, hO, hb1⟩
    go_wp2
    go_ret
    exact ⟨_, rfl, Own.nil _ _ _ _ _, hb1⟩
end Go.Proofs.Ytcblakflhheepaa
