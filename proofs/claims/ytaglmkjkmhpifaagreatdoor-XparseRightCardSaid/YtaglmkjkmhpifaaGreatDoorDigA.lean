/- strconv.Itoa and its table; word.Digits. -/
import Derived.Test.YtaglmkjkmhpifaaGreatDoorShelf
import Derived.Test.YtaglmkjkmhpifaaGreatDoorBase
import Derived.Lib.LaidTab
import Derived.Lib.ItoaLen
import Derived.Lib.AppendIntMem
namespace Go.Proofs.YtaglmkjkmhpifaaGreatDoor
open Go.RowKit
set_option linter.unusedVariables false
set_option linter.unusedSimpArgs false

/-- The library's table of powers of ten lies as it was laid. -/
def Tab (w : World) : Prop := Lib.TabIs Tryz.prog w "internal/strconv.uint64pow10" .u64 Lib.pow10Tab
theorem gTab : Tryz.prog.globalNamed "internal/strconv.uint64pow10" = some 1 := by kernel_rfl
theorem Tab.pos {w : World} (h : Tab w) : 1 < w.heap.size := by
  unfold Tab Lib.TabIs World.var? at h
  rw [gTab] at h
  simp only [Option.bind_some] at h
  rcases Nat.lt_or_ge 1 w.heap.size with h1 | h1
  · exact h1
  · rw [Array.getElem?_eq_none h1] at h; simp at h
theorem Tab.below {B : Nat} {w w' : World} (h : Tab w) (hb : Below B w w') (hB : 1 < B) : Tab w' := by
  unfold Tab Lib.TabIs World.var? at h ⊢
  rw [gTab] at h ⊢
  simp only [Option.bind_some] at h ⊢
  rw [hb.block _ hB]
  exact h

/-- A number's text. -/
def dig (n : Int) : ByteArray := ⟨(Lib.itoa n).toArray⟩
theorem dig_list (n : Int) : (dig n).data.toList = Lib.itoa n := by simp [dig]
def I64 (n : Int) : Prop := -9223372036854775808 ≤ n ∧ n ≤ 9223372036854775807
theorem dig_len (n : Int) (h : I64 n) : (dig n).size ≤ 21 := by
  have := Lib.itoa_length_le n h.1 h.2
  simpa [dig, ByteArray.size] using this
set_option maxRecDepth 100000 in
theorem digits_any (n : Int) (h : I64 n) (w : World) (ht : Tab w) :
    Calls Tryz.prog 53 #[.int .i64 n] w fun e w' => e = .returned (.string (dig n)) ∧ Below w.heap.size w w' := by
  obtain ⟨h0, h1⟩ := h
  have HH := hide (And.intro h0 h1)
  clear h0 h1
  go_enter Tryz.func53, Tryz.ntmps53
  go_wp2_with (fail)
  refine (Tryz.strconv_Itoa n HH.out.1 HH.out.2 w ht).mono ?_
  rintro e w' ⟨rfl, k, os, rfl⟩
  have hb := Lib.below_grow w.heap.size w (Nat.le_refl _) k os
  go_wp2
  go_ret
  exact ⟨rfl, hb⟩
end Go.Proofs.YtaglmkjkmhpifaaGreatDoor
