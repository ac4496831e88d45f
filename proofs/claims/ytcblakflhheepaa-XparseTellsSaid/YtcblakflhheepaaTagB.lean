/- Chapter 41: the scanner passes over bytes of a kind. -/
import Derived.Test.YtcblakflhheepaaTagA
namespace Go.Proofs.Ytcblakflhheepaa
open Go.RowKit
set_option linter.unusedVariables false
set_option linter.unusedSimpArgs false

/-- Below B the world is as it was, but for block X. -/
structure But (B X : Nat) (w w' : World) : Prop where
  os : w'.os = w.os
  tape : w'.tape = w.tape
  output : w'.output = w.output
  size : w.heap.size ≤ w'.heap.size
  block : ∀ k, k < B → k ≠ X → w'.heap[k]? = w.heap[k]?
section
variable {B C X : Nat} {a b c : World}
theorem But.refl (B X : Nat) (w : World) : But B X w w := ⟨rfl, rfl, rfl, Nat.le_refl _, fun _ _ _ => rfl⟩
theorem But.of (h : Below B a b) (X : Nat) : But B X a b := ⟨h.os, h.tape, h.output, h.size, fun k hk _ => h.block k hk⟩
theorem But.below (h : But B X a b) (hC : C ≤ B) (hX : C ≤ X) : Below C a b := ⟨h.os, h.tape, h.output, h.size, fun k hk => h.block k (by omega) (by omega)⟩
theorem But.mono (h : But B X a b) (hC : C ≤ B) : But C X a b := ⟨h.os, h.tape, h.output, h.size, fun k hk hne => h.block k (by omega) hne⟩
theorem But.trans (h : But B X a b) (k : But C X b c) (hC : B ≤ C) : But B X a c :=
  ⟨k.os.trans h.os, k.tape.trans h.tape, k.output.trans h.output, Nat.le_trans h.size k.size, fun i hi hne => (k.block i (by omega) hne).trans (h.block i hi hne)⟩
theorem But.drewN (h : But B X a b) (n : Nat) : But B X a (b.drewN n) := ⟨h.os, h.tape, h.output, h.size, h.block⟩
theorem But.drew (h : But B X a b) : But B X a b.drew := ⟨h.os, h.tape, h.output, h.size, h.block⟩
theorem But.self (h : But B X a b) (i : Nat) (v : Value) : But B X a (b.setCell ⟨X, i, none⟩ v) :=
  ⟨h.os, h.tape, h.output, by simpa using h.size, fun k hk hne => (Below.heap_setCell _ _ _ k hne).trans (h.block k hk hne)⟩
theorem But.setCell (h : But B X a b) {p : Addr} (hp : B ≤ p.block) (v : Value) : But B X a (b.setCell p v) :=
  ⟨h.os, h.tape, h.output, by simpa using h.size, fun k hk hne => (Below.heap_setCell _ _ _ k (by omega)).trans (h.block k hk hne)⟩
theorem But.alloc (h : But B X a b) (hB : B ≤ b.heap.size) (o : Obj) : But B X a (b.alloc o) :=
  ⟨h.os, h.tape, h.output, by have := h.size; simp; omega, fun k hk hne => (Below.heap_alloc _ _ k (by omega)).trans (h.block k hk hne)⟩
theorem But.grown {row : Option Nat} (h : But B X a b) (hg : b.grownBy c row) (hB : B ≤ b.heap.size) (hr : ∀ k, row = some k → B ≤ k) : But B X a c :=
  ⟨hg.os.trans h.os, hg.tape.trans h.tape, hg.output.trans h.output, Nat.le_trans h.size hg.size, fun k hk hne => (hg.block k (by omega) (by intro e; have := hr k e.symm; omega)).trans (h.block k hk hne)⟩
theorem Blk.but {g : Nat} {t : TypeId} {cs : Array Value} (h : Blk a g t cs) (hb : But B X a b) (hg : g < B) (hne : g ≠ X) : Blk b g t cs := (hb.block g hg hne).trans h
theorem Own.but {α : Type} {base size : Nat} {e : TypeId} {c : α → List Value} {v : Value} {l : List α} (h : Own a base e size c v l) (hb : But B X a b) (hv : ∀ k, v.ownBlock = some k → k < B ∧ k ≠ X) : Own b base e size c v l :=
  h.keep fun k hk => hb.block k (hv k hk).1 (hv k hk).2
end

/-- The first place from k on at which no byte of a kind stands. -/
def endB (p : Int → Bool) (s : ByteArray) (k : Nat) : Nat := k + ((s.data.toList.drop k).takeWhile fun b => p (b.toNat : Int)).length
theorem endB_step {p : Int → Bool} {s : ByteArray} {k : Nat} (h : isB p s k = true) : k < s.size ∧ endB p s (k + 1) = endB p s k := by
  simp only [isB, Bool.and_eq_true, decide_eq_true_eq] at h
  obtain ⟨h1, h2⟩ := h
  refine ⟨h1, ?_⟩
  have h1' : k < s.data.toList.length := by simpa using h1
  have hd : s.data.toList.drop k = s.data.toList[k] :: s.data.toList.drop (k + 1) := List.drop_eq_getElem_cons h1'
  have hb : p ((s.data.toList[k]).toNat : Int) = true := by
    simp only [byt, List.getElem?_eq_getElem h1', Option.getD_some] at h2
    exact h2
  unfold endB
  rw [hd, List.takeWhile_cons, hb]
  simp only [if_true, List.length_cons]
  omega
theorem endB_stop {p : Int → Bool} {s : ByteArray} {k : Nat} (h : isB p s k = false) : endB p s k = k := by
  unfold endB
  by_cases h1 : k < s.data.toList.length
  · have hd : s.data.toList.drop k = s.data.toList[k] :: s.data.toList.drop (k + 1) := List.drop_eq_getElem_cons h1
    have hs : k < s.size := by simpa using h1
    have hb : p ((s.data.toList[k]).toNat : Int) = false := by
      simp only [isB, hs, decide_true, Bool.true_and, byt, List.getElem?_eq_getElem h1, Option.getD_some] at h
      exact h
    rw [hd, List.takeWhile_cons, hb]
    simp
  · rw [List.drop_eq_nil_of_le (by omega)]; simp
theorem endB_ge (p : Int → Bool) (s : ByteArray) (k : Nat) : k ≤ endB p s k := by unfold endB; omega
theorem endB_le (p : Int → Bool) (s : ByteArray) (k : Nat) (hk : k ≤ s.size) : endB p s k ≤ s.size := by
  unfold endB
  have h1 : ((s.data.toList.drop k).takeWhile fun b => p (b.toNat : Int)).length ≤ (s.data.toList.drop k).length := List.Sublist.length_le (List.takeWhile_sublist _)
  have h2 : s.data.toList.length = s.size := by simp
  simp only [List.length_drop, h2] at h1
  omega

set_option maxRecDepth 100000 in
set_option maxHeartbeats 2000000 in
theorem all_any (X K : Nat) (p : Int → Bool) (hK : KindOf K p) (s : ByteArray) (k : Nat) (hs : s.size ≤ 5000000) (hk : k ≤ s.size) (w : World) (hX : Blk w X 82 (scn s k)) :
    Calls Try.prog 59 #[.pointer (some ⟨X, 0, none⟩), .func (.func K) #[] #[]] w fun e w' => e = .returned (.string (s.extract k (endB p s k))) ∧ Blk w' X 82 (scn s (endB p s k)) ∧ But w.heap.size X w w' := by
  have c1 := hX.cell 1
  simp at c1
  have hXl := hX.lt
  go_enter Try.func59, Try.ntmps59
  go_wp2
  go_loopg [] (s.size - k) (fun g wr => ∃ j, k ≤ j ∧ j ≤ s.size ∧ g = s.size - j ∧ endB p s j = endB p s k ∧ Blk wr X 82 (scn s j) ∧ But w.heap.size X w wr)
  case atStart => exact ⟨k, Nat.le_refl _, hk, rfl, rfl, hX, But.refl _ _ _⟩
  case round =>
    obtain ⟨j, hj, hj1, hg, he, hB, hb⟩ := hrel
    have HE := hide he
    have HG := hide hg
    clear he hg c1
    go_wp2_with (fail)
    refine (is_any X K p hK s j hs hj1 _ (by repeat (first | exact hB | refine Blk.alloc ?_ _ | refine Blk.drewN ?_ _ | refine Blk.drew ?_))).mono ?_
    rintro e w1 ⟨rfl, n, rfl⟩
    have d0 := hB.cell 0
    have d1 := hB.cell 1
    have d2 := hB.frozen 1
    simp at d0 d1 d2
    cases hi : isB p s j
    · have hE := hide (endB_stop hi)
      clear hi
      obtain rfl : j = endB p s k := by rw [← HE.out, hE.out]
      have i0 : (0 : Int) ≤ (k : Int) := by omega
      have i1 : (k : Int) ≤ (endB p s k : Int) := by omega
      have i2 : (endB p s k : Int) ≤ (s.size : Int) := by omega
      go_wp2
      go_quiet (fail)
      go_wp2
      go_ret
      exact ⟨by simp, (by repeat (first | exact hB | refine Blk.alloc ?_ _ | refine Blk.drewN ?_ _ | refine Blk.drew ?_)), (hb.drewN _).drewN _⟩
    · obtain ⟨hlt, hE⟩ := endB_step hi
      have HE2 := hide hE
      clear hi hE
      have t0 : IntKind.i64.wrap ((j : Int) + 1) = (j : Int) + 1 := IntWalk.i64_in _ (by omega)
      go_wp2
      go_roundg (s.size - (j + 1))
      case measure => rw [HG.out]; omega
      case rel => exact ⟨j + 1, by omega, by omega, rfl, by rw [HE2.out, HE.out], (hB.drewN n).set_ 1 _, (hb.drewN n).self 1 _⟩
end Go.Proofs.Ytcblakflhheepaa
