/- Chapter 41: remark. -/
import Derived.Test.YtcblakflhheepaaTagD
namespace Go.Proofs.Ytcblakflhheepaa
open Go.RowKit
set_option linter.unusedVariables false
set_option linter.unusedSimpArgs false

def idx3 : List UInt8 → Option Nat
  | [] => none
  | b :: l => if [45, 45, 62].isPrefixOf (b :: l) then some 0 else (idx3 l).map (· + 1)
def idxI (o : Option Nat) : Int := match o with | none => -1 | some i => i
theorem index_idx3 : ∀ l : List UInt8, Lib.index l [45, 45, 62] = idxI (idx3 l)
  | [] => rfl
  | b :: l => by
    unfold Lib.index idx3
    rw [index_idx3 l]
    split
    · rfl
    · cases idx3 l with
      | none => rfl
      | some i =>
        have h1 : ((i : Int) == -1) = false := by simp
        show (if ((i : Int) == -1) = true then (-1 : Int) else (i : Int) + 1) = ((i + 1 : Nat) : Int)
        rw [h1]
        simp
theorem idx3_le : ∀ {l : List UInt8} {i : Nat}, idx3 l = some i → i + 3 ≤ l.length
  | [], i, h => by cases h
  | b :: l, i, h => by
    unfold idx3 at h
    split at h
    · rename_i hp
      injection h with h
      subst h
      have := (List.isPrefixOf_iff_prefix.1 hp).length_le
      simpa using this
    · cases hi : idx3 l with
      | none => rw [hi] at h; cases h
      | some j =>
        rw [hi] at h
        simp at h
        have := idx3_le hi
        simp only [List.length_cons]
        omega

def remL (s : ByteArray) (k : Nat) : Except (Nat × Nat) Nat :=
  match idx3 (s.data.toList.drop k) with
  | none => .error (s.size, 16)
  | some i => .ok (k + i + 3)
theorem remL_le {s : ByteArray} {k k' : Nat} (h : remL s k = .ok k') : k < k' ∧ k' ≤ s.size := by
  unfold remL at h
  cases hi : idx3 (s.data.toList.drop k) with
  | none => rw [hi] at h; cases h
  | some i =>
    rw [hi] at h
    injection h with h
    have := idx3_le hi
    simp at this
    omega

/-- The bound of the library's index, whatever it is. -/
def MaxL (w : World) : Prop := ∃ m, w.cell? ⟨0, 0, none⟩ = some (.int .i64 m)
theorem MaxL.but {B X : Nat} {w w' : World} (h : MaxL w) (hb : But B X w w') (hB : 0 < B) (hX : 0 < X) : MaxL w' := by
  obtain ⟨m, h⟩ := h
  exact ⟨m, by rw [← h]; exact World.cell?_of_block (hb.block _ hB (by dsimp only; omega))⟩
theorem MaxL.below {B : Nat} {w w' : World} (h : MaxL w) (hb : Below B w w') (hB : 0 < B) : MaxL w' := by
  obtain ⟨m, h⟩ := h
  exact ⟨m, by rw [← h]; exact hb.cell hB⟩

theorem index_any (s : ByteArray) (k : Nat) (w : World) (hs : s.size ≤ 5000000) (hm : MaxL w) :
    Calls Try.prog 96 #[.string (s.extract k s.size), .string ⟨#[45, 45, 62]⟩] w fun e w' => e = .returned (.int .i64 (idxI (idx3 (s.data.toList.drop k)))) ∧ w' = w := by
  obtain ⟨m, hm⟩ := hm
  have h1 : (s.extract k s.size).data.toList = s.data.toList.drop k := by
    rw [Lib.extract_data]
    exact List.take_of_length_le (by simp)
  refine (Try.strings_Index (s.extract k s.size) ⟨#[45, 45, 62]⟩ m w ?_ hm).mono ?_
  · rw [Lib.size_eq, h1]; simp; omega
  · rintro e w' ⟨rfl, rfl⟩
    refine ⟨?_, rfl⟩
    rw [← index_idx3, h1]

set_option maxRecDepth 100000 in
set_option maxHeartbeats 2000000 in
theorem remark_any (X : Nat) (s : ByteArray) (k : Nat) (hs : s.size ≤ 5000000) (hk : k ≤ s.size) (w : World) (hm : MaxL w) (hX : Blk w X 82 (scn s k)) :
    Calls Try.prog 63 #[.pointer (some ⟨X, 0, none⟩)] w (EndX w.heap.size X s w (remL s k) (fun _ => .tuple #[]) id) := by
  have c0 := hX.cell 0
  have c1 := hX.cell 1
  have c2 := hX.frozen 1
  simp at c0 c1 c2
  have i0 : (0 : Int) ≤ (k : Int) := by omega
  have i1 : (k : Int) ≤ (s.size : Int) := by omega
  cases hi : idx3 (s.data.toList.drop k) with
  | none =>
    have hI := fun n => index_any s k (w.drewN n) hs hm
    rw [hi] at hI
    have HI := hide hI
    have hr : remL s k = .error (s.size, 16) := by simp [remL, hi]
    have HR := hide hr
    clear hr hi hI
    go_enter Try.func63, Try.ntmps63
    go_wp2
    go_quiet ((go_at_call 96; exact Calls.quiet_of_same (HI.out _)))
    go_wp2_with (fail)
    refine (fail_any _ _ _ _).mono ?_
    rintro e w1 ⟨rfl, rfl⟩
    refine ⟨rfl, ?_⟩
    rw [HR.out]
    exact ⟨rfl, (But.refl _ _ _).drewN _⟩
  | some i =>
    have hI := fun n => index_any s k (w.drewN n) hs hm
    rw [hi] at hI
    have HI : Hid (∀ n, Calls Try.prog 96 #[.string (s.extract k s.size), .string ⟨#[45, 45, 62]⟩] (w.drewN n) fun e w' => e = .returned (.int .i64 (i : Int)) ∧ w' = w.drewN n) := hI
    have hle := idx3_le hi
    simp at hle
    have hr : remL s k = .ok (k + i + 3) := by simp [remL, hi]
    have HR := hide hr
    clear hr hi hI
    have t0 : decide ((i : Int) < 0) = false := by simp
    have t1 : IntKind.i64.wrap ((i : Int) + 3) = (i : Int) + 3 := IntWalk.i64_in _ (by omega)
    have t2 : IntKind.i64.wrap ((k : Int) + ((i : Int) + 3)) = (k : Int) + ((i : Int) + 3) := IntWalk.i64_in _ (by omega)
    go_enter Try.func63, Try.ntmps63
    go_wp2
    go_quiet ((go_at_call 96; exact Calls.quiet_of_same (HI.out _)))
    go_wp2
    refine bodyPost_end (results_none rfl _ _ _) rfl ?_
    rw [HR.out]
    have e1 : scn s (id (k + i + 3)) = #[.string s, .int .i64 ((k : Int) + ((i : Int) + 3))] := by simp [Int.add_assoc]
    refine ⟨rfl, ?_, ((But.refl _ _ _).drewN _).self 1 _⟩
    rw [e1]
    have h1 := (hX.drewN ‹Nat›).set_ 1 (.int .i64 ((k : Int) + ((i : Int) + 3)))
    simpa using h1
end Go.Proofs.Ytcblakflhheepaa
