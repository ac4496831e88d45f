/- Chapter 41: bytes of a name, blanks, bytes of a value; the scanner's small methods. -/
import Derived.Test.YtcblakflhheepaaBase
namespace Go.Proofs.Ytcblakflhheepaa
open Go.RowKit
set_option linter.unusedVariables false
set_option linter.unusedSimpArgs false

def letB (c : Int) : Bool := decide (97 ≤ c ∧ c ≤ 122 ∨ c = 95)
def blaB (c : Int) : Bool := decide (c = 32 ∨ c = 9 ∨ c = 10 ∨ c = 13)
def plaB (c : Int) : Bool := decide (32 ≤ c ∧ c ≠ 60 ∧ c ≠ 34)

theorem letter_any (c : Int) (w : World) : Calls Try.prog 72 #[.int .u8 c] w fun e w' => e = .returned (.bool (letB c)) ∧ w' = w := by
  go_enter Try.func72, Try.ntmps72
  go_wp2
  all_goals
    go_ret
    refine ⟨ret_bool ?_, rfl⟩
    rw [Bool.eq_iff_iff]; simp [letB]; try omega
theorem blank_any (c : Int) (w : World) : Calls Try.prog 60 #[.int .u8 c] w fun e w' => e = .returned (.bool (blaB c)) ∧ w' = w := by
  go_enter Try.func60, Try.ntmps60
  go_wp2
  all_goals
    go_ret
    refine ⟨ret_bool ?_, rfl⟩
    rw [Bool.eq_iff_iff]; simp [blaB]; try omega
theorem plain_any (c : Int) (w : World) : Calls Try.prog 75 #[.int .u8 c] w fun e w' => e = .returned (.bool (plaB c)) ∧ w' = w := by
  go_enter Try.func75, Try.ntmps75
  go_wp2
  all_goals
    go_ret
    refine ⟨ret_bool ?_, rfl⟩
    rw [Bool.eq_iff_iff]; simp [plaB]; try omega

/-- Byte k of s. -/
def byt (s : ByteArray) (k : Nat) : Int := ((s.data.toList[k]?).getD 0).toNat
theorem byt_eq {s : ByteArray} {k : Nat} (h : k < s.size) : ((s[k]).toNat : Int) = byt s k := by
  have : s.data.toList[k]? = some s[k] := by
    rw [List.getElem?_eq_getElem (by simpa using h)]; rfl
  simp [byt, this]

/-- The scanner x, at a place of a text. -/
abbrev scn (s : ByteArray) (k : Nat) : Array Value := #[.string s, .int .i64 k]
def isB (p : Int → Bool) (s : ByteArray) (k : Nat) : Bool := decide (k < s.size) && p (byt s k)
def KindOf (K : Nat) (p : Int → Bool) : Prop := (K = 72 ∧ p = letB) ∨ (K = 60 ∧ p = blaB) ∨ (K = 75 ∧ p = plaB)

set_option maxRecDepth 100000 in
set_option maxHeartbeats 2000000 in
theorem is_any (X K : Nat) (p : Int → Bool) (hK : KindOf K p) (s : ByteArray) (k : Nat) (hs : s.size ≤ 5000000) (hk : k ≤ s.size) (w : World) (hX : Blk w X 82 (scn s k)) :
    Calls Try.prog 93 #[.pointer (some ⟨X, 0, none⟩), .func (.func K) #[] #[]] w fun e w' => e = .returned (.bool (isB p s k)) ∧ ∃ n, w' = w.drewN n := by
  have c0 := hX.cell 0
  have c1 := hX.cell 1
  simp at c0 c1
  rcases hK with ⟨rfl, rfl⟩ | ⟨rfl, rfl⟩ | ⟨rfl, rfl⟩
  all_goals
    by_cases hlt : k < s.size
    · have t0 : decide ((k : Int) < (s.size : Int)) = true := by simp; omega
      have i2 : (k : Int).toNat = k := by omega
      go_enter Try.func93, Try.ntmps93
      go_wp2
      go_quiet ((first | (go_at_call 72; exact Calls.quiet_of_same (letter_any _ _)) | (go_at_call 60; exact Calls.quiet_of_same (blank_any _ _)) | (go_at_call 75; exact Calls.quiet_of_same (plain_any _ _))))
      go_wp2
      go_ret
      exact ⟨ret_bool (by simp [isB, hlt, byt_eq hlt]), _, rfl⟩
    · have t0 : decide ((k : Int) < (s.size : Int)) = false := by simp; omega
      go_enter Try.func93, Try.ntmps93
      go_wp2
      go_quiet (fail)
      go_wp2
      go_ret
      exact ⟨ret_bool (by simp [isB, hlt]), _, rfl⟩
end Go.Proofs.Ytcblakflhheepaa
