/- Chapter 19: runs.Of returns the runs that the plain function 'runsOf' tells. -/
import Derived.Test.YtcblakflhheepaaRunsB
namespace Go.Proofs.Ytcblakflhheepaa
open Go.RowKit

def sumN (l : List Rn) : Int := (l.map (·.2.2.1)).sum
/-- Lists of runs whose numbers are far from the edges of int. -/
def MildL (l : List Rn) : Prop := (∀ a ∈ l, 0 ≤ a.1 ∧ a.1 ≤ 1000000000000000 ∧ 0 ≤ a.2.1 ∧ a.2.1 ≤ 1000000000000000 ∧ 0 ≤ a.2.2.1) ∧ sumN l ≤ 1000000000000

theorem sumN_nonneg {l : List Rn} (h : ∀ a ∈ l, 0 ≤ a.2.2.1) : 0 ≤ sumN l := by
  induction l with
  | nil => simp [sumN]
  | cons a l ih =>
    have h1 := ih (fun b hb => h b (by simp [hb]))
    have h2 := h a (by simp)
    simp only [sumN, List.map_cons, List.sum_cons] at *
    omega
theorem le_sumN {l : List Rn} (h : ∀ a ∈ l, 0 ≤ a.2.2.1) {a : Rn} (ha : a ∈ l) : a.2.2.1 ≤ sumN l := by
  induction l with
  | nil => simp at ha
  | cons b l ih =>
    have h0 := sumN_nonneg (l := l) (fun b hb => h b (by simp [hb]))
    have hb := h b (by simp)
    simp only [sumN, List.map_cons, List.sum_cons] at *
    rcases List.mem_cons.1 ha with rfl | ha'
    · omega
    · have := ih (fun b hb => h b (by simp [hb])) ha'
      omega
theorem MildL.mild {l : List Rn} (h : MildL l) {a : Rn} (ha : a ∈ l) : Mild a := by
  obtain ⟨h1, h2, h3, h4, h5⟩ := h.1 a ha
  have := le_sumN (fun b hb => (h.1 b hb).2.2.2.2) ha
  exact ⟨h1, h2, h3, h4, h5, by have := h.2; omega⟩
theorem sumN_addR (l : List Rn) (x : Rn) : sumN (addR l x) = sumN l + x.2.2.1 := by
  rcases List.eq_nil_or_concat l with rfl | ⟨l0, a, rfl⟩
  · simp [addR, sumN]
  · rw [List.concat_eq_append, addR_snoc]
    split <;> simp [sumN] <;> omega
theorem MildL.add {l : List Rn} {x : Rn} (h : MildL l) (hx : 0 ≤ x.1 ∧ x.1 ≤ 1000000000000000 ∧ 0 ≤ x.2.1 ∧ x.2.1 ≤ 1000000000000000 ∧ 0 ≤ x.2.2.1) (hs : sumN l + x.2.2.1 ≤ 1000000000000) : MildL (addR l x) := by
  refine ⟨?_, by rw [sumN_addR]; exact hs⟩
  rcases List.eq_nil_or_concat l with rfl | ⟨l0, a, rfl⟩
  · intro b hb
    simp [addR] at hb
    subst hb
    exact hx
  · rw [List.concat_eq_append] at *
    rw [addR_snoc]
    have ha := h.1 a (by simp)
    intro b hb
    split at hb
    · simp at hb
      rcases hb with hb | rfl
      · exact h.1 b (by simp [hb])
      · exact ⟨ha.1, ha.2.1, ha.2.2.1, ha.2.2.2.1, by have := ha.2.2.2.2; have := hx.2.2.2.2; dsimp only; omega⟩
    · simp at hb
      rcases hb with hb | rfl | rfl
      · exact h.1 b (by simp [hb])
      · exact ha
      · exact hx
theorem addR_len (l : List Rn) (x : Rn) : (addR l x).length ≤ l.length + 1 := by
  rcases List.eq_nil_or_concat l with rfl | ⟨l0, a, rfl⟩
  · simp [addR]
  · rw [List.concat_eq_append, addR_snoc]
    split <;> simp

theorem add_any (w : World) (bo base : Nat) (v : Value) (l : List Rn) (x : Rn) (hbo : Blk w bo 26 #[v]) (hown : Own w base 41 4 rc v l) (hbb : base ≤ bo) (hm : MildL l) (hx : Mild x) (hl : l.length ≤ 100000) :
    Calls Try.prog 56 #[rv x, .pointer (some ⟨bo, 0, none⟩)] w fun e w' => e = .returned (.tuple #[]) ∧
      ∃ v', Blk w' bo 26 #[v'] ∧ Own w' base 41 4 rc v' (addR l x) ∧ Below base w w' := by
  rcases List.eq_nil_or_concat l with rfl | ⟨l0, a, rfl⟩
  · exact add_new w bo base v [] x hbo hown hbb (by intro a ha; cases ha) (by decide)
  · rw [List.concat_eq_append] at *
    by_cases hf : fol a x = true
    · obtain ⟨g, cap, rfl, _⟩ := World.ownsRow.form hown (by simp)
      have e : (l0 ++ [a]).length = l0.length + 1 := by rw [List.length_append]; rfl
      rw [e] at hbo hown hl
      exact (add_grow w bo base g cap l0 a x hbo hown hf (hm.mild (a := a) (by simp)) hx (by omega)).mono fun e w' ⟨h1, h2, h3, h4⟩ => ⟨h1, _, h2, h3, h4⟩
    · exact add_new w bo base v (l0 ++ [a]) x hbo hown hbb (fun b hb => by
        simp at hb
        subst hb
        exact ⟨by simpa using hf, hm.mild (by simp)⟩) hl

def oneR (m : Mp) : Rn := (m.1, m.2.1, 1, m.2.2)
def runsOf (l : List Mp) : List Rn := l.foldl (fun acc m => addR acc (oneR m)) []
/-- Mappings whose numbers are far from the edges of int. -/
def MildM (l : List Mp) : Prop := ∀ m ∈ l, 0 ≤ m.1 ∧ m.1 ≤ 1000000000000000 ∧ 0 ≤ m.2.1 ∧ m.2.1 ≤ 1000000000000000

theorem runsOf_snoc (l : List Mp) (m : Mp) : runsOf (l ++ [m]) = addR (runsOf l) (oneR m) := by simp [runsOf]
theorem runsOf_rev (P : List Mp → Prop) (h0 : P []) (h1 : ∀ l m, P l → P (l ++ [m])) : ∀ l, P l := by
  intro l
  rw [← List.reverse_reverse l]
  induction l.reverse with
  | nil => exact h0
  | cons a r ih => rw [List.reverse_cons]; exact h1 _ _ ih
theorem runsOf_len (l : List Mp) : (runsOf l).length ≤ l.length := by
  refine runsOf_rev (fun l => (runsOf l).length ≤ l.length) (by simp [runsOf]) (fun l m ih => ?_) l
  rw [runsOf_snoc]
  have := addR_len (runsOf l) (oneR m)
  simp; omega
theorem runsOf_sum (l : List Mp) : sumN (runsOf l) = l.length := by
  refine runsOf_rev (fun l => sumN (runsOf l) = l.length) (by simp [runsOf, sumN]) (fun l m ih => ?_) l
  rw [runsOf_snoc, sumN_addR, ih]
  simp [oneR]
theorem runsOf_mild (l : List Mp) (h : MildM l) (hl : l.length ≤ 100000) : MildL (runsOf l) := by
  revert h hl
  refine runsOf_rev (fun l => MildM l → l.length ≤ 100000 → MildL (runsOf l)) (fun _ _ => ?_) (fun l m ih h hl => ?_) l
  · exact ⟨by simp [runsOf], by simp [runsOf, sumN]⟩
  · rw [runsOf_snoc]
    simp at hl
    obtain ⟨h1, h2, h3, h4⟩ := h m (by simp)
    exact (ih (fun a ha => h a (by simp [ha])) (by omega)).add ⟨h1, h2, h3, h4, by simp [oneR]⟩ (by rw [runsOf_sum]; simp [oneR]; omega)

theorem Rd.mp {w : World} {B : Nat} {A : Option Addr} {l : List Mp} (h : Rd w B 3 mc A l) {k : Nat} {x : Mp} (hk : l[k]? = some x) :
    ∃ b off, A = some ⟨b, off, none⟩ ∧ b < B ∧ w.cell? ⟨b, off + k * 3, none⟩ = some (.int .i64 x.1) ∧ w.cell? ⟨b, off + k * 3 + 1, none⟩ = some (.int .i64 x.2.1) ∧ w.cell? ⟨b, off + k * 3 + 2, none⟩ = some (.int .i64 x.2.2) := by
  obtain ⟨b, off, hA, hB, hc⟩ := h k x hk
  exact ⟨b, off, hA, hB, hc 0 _ rfl, hc 1 _ rfl, hc 2 _ rfl⟩
theorem Rd.rn {w : World} {B : Nat} {A : Option Addr} {l : List Rn} (h : Rd w B 4 rc A l) {k : Nat} {x : Rn} (hk : l[k]? = some x) :
    ∃ b off, A = some ⟨b, off, none⟩ ∧ b < B ∧ w.cell? ⟨b, off + k * 4, none⟩ = some (.int .i64 x.1) ∧ w.cell? ⟨b, off + k * 4 + 1, none⟩ = some (.int .i64 x.2.1)
      ∧ w.cell? ⟨b, off + k * 4 + 2, none⟩ = some (.int .i64 x.2.2.1) ∧ w.cell? ⟨b, off + k * 4 + 3, none⟩ = some (.int .i64 x.2.2.2) := by
  obtain ⟨b, off, hA, hB, hc⟩ := h k x hk
  exact ⟨b, off, hA, hB, hc 0 _ rfl, hc 1 _ rfl, hc 2 _ rfl, hc 3 _ rfl⟩

set_option maxRecDepth 100000 in
set_option maxHeartbeats 1000000 in
theorem of_any (A : Option Addr) (cap : Nat) (l : List Mp) (w : World) (h : Rd w w.heap.size 3 mc A l) (hm : MildM l) (hl : l.length ≤ 100000) :
    Calls Try.prog 13 #[.slice A l.length cap] w fun e w' => ∃ v, e = .returned v ∧ Own w' w.heap.size 41 4 rc v (runsOf l) ∧ Below w.heap.size w w' := by
  go_enter Try.func13, Try.ntmps13
  go_wp2_with (go_at_call 35; refine (grower_any _).mono ?_; rintro e w1 ⟨rfl, rfl⟩)
  go_loopw [13] (fun i wr => ∃ (k : Nat) (v : Value), k ≤ l.length ∧ i = .int .i64 k ∧ Blk wr w.heap.size 26 #[v] ∧ Own wr w.heap.size 41 4 rc v (runsOf (l.take k)) ∧ Below w.heap.size w wr) (fun i _ => l.length - (intOf i).toNat)
  case atStart => exact ⟨0, _, Nat.zero_le _, rfl, Blk.new _ _ _, by rw [List.take_zero]; exact (Own.nil _ _ _ _ _).alloc _, (Below.refl _ _).alloc (Nat.le_refl _) _⟩
  case round =>
    obtain ⟨k, v, hk, rfl, hB, hO, hb⟩ := hrel
    have HB := hide hB
    have HO := hide hO
    clear hB hO
    by_cases hlt : k < l.length
    · obtain ⟨m, hx⟩ := get_of_lt hlt
      obtain ⟨b, off, rfl, hbB, c0, c1, c2⟩ := (h.below hb).mp hx
      have HX := hide hx
      clear hx
      have hbs : b < wr.heap.size := by have := hb.size; omega
      have hlk : (runsOf (l.take k)).length ≤ 100000 := by have := runsOf_len (l.take k); have := List.length_take_le k l; omega
      have hmk : MildM (l.take k) := fun a ha => hm a (List.mem_of_mem_take ha)
      obtain ⟨h1, h2, h3, h4⟩ := hm m (List.mem_of_getElem? HX.out)
      have hmx : Mild (oneR m) := ⟨h1, h2, h3, h4, by simp [oneR], by simp [oneR]⟩
      have hml := runsOf_mild _ hmk (by have := List.length_take_le k l; omega)
      go_wp2_with (go_at_call 56; go_must (refine (add_any _ w.heap.size w.heap.size v (runsOf (l.take k)) (oneR m) (by repeat (first | exact HB.out | refine Blk.alloc ?_ _ | refine Blk.drewN ?_ _ | refine Blk.drew ?_)) (by repeat (first | exact HO.out | refine Own.alloc ?_ _ | refine Own.drewN ?_ _ | refine Own.drew ?_)) (Nat.le_refl _) hml hmx hlk).mono ?_; rintro e w1 ⟨rfl, v1, hB1, hO1, hb1⟩))
      go_roundw
      case rel =>
        refine ⟨k + 1, v1, by omega, by go_num, hB1, ?_, ?_⟩
        · rw [take_step HX.out, runsOf_snoc]; exact hO1
        · exact Below.trans (by have hsz := (hb).size; repeat (first | exact hb | refine Below.alloc ?_ (by first | (simp; omega) | simp | omega) _ | refine drewN_below ?_ _ | refine Below.drew ?_)) hb1
      case measure => simp [intOf]; omega
    · obtain rfl : k = l.length := by omega
      go_wp2_with (go_at_call 58; refine (told_any _ _ _ HB.out).mono ?_; rintro e w1 ⟨rfl, rfl⟩)
      go_ret
      refine ⟨_, rfl, ?_, hb⟩
      have := HO.out
      rwa [List.take_length] at this
def nextM (m : Mp) (j : Nat) : Mp := (m.1 + j, m.2.1 + j, m.2.2)
end Go.Proofs.Ytcblakflhheepaa
