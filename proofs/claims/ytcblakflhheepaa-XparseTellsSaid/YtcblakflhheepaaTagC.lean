/- Chapter 41: fail, skip, must, name. -/
import Derived.Test.YtcblakflhheepaaTagB
import Derived.Test.YtcblakflhheepaaShelf
namespace Go.Proofs.Ytcblakflhheepaa
open Go.RowKit
set_option linter.unusedVariables false
set_option linter.unusedSimpArgs false

/-- The panic by which scanning ends. -/
abbrev wrongV (p c : Int) : Value := .agg #[.int .i64 p, .int .i64 c]
abbrev wrongP (p c : Int) : List PanicEntry := [{ v := .iface 78 (wrongV p c), recovered := false }]
theorem fail_any (a : Value) (p c : Int) (w : World) : Calls Try.prog 94 #[a, .int .i64 p, .int .i64 c] w fun e w' => e = .panicked (wrongP p c) ∧ w' = w := by
  go_enter Try.func94, Try.ntmps94
  go_wp2
  exact ⟨rfl, rfl, rfl⟩

def skB (s t : ByteArray) (k : Nat) : Bool := Lib.hasPrefix (s.extract k s.size).data.toList t.data.toList
def skN (s t : ByteArray) (k : Nat) : Nat := if skB s t k then k + t.size else k

theorem prefix_any (s t : ByteArray) (k : Nat) (w : World) : Calls Try.prog 95 #[.string (s.extract k s.size), .string t] w fun e w' => e = .returned (.bool (skB s t k)) ∧ w' = w := Try.strings_HasPrefix _ _ _

set_option maxRecDepth 100000 in
set_option maxHeartbeats 2000000 in
theorem skip_any (X : Nat) (s t : ByteArray) (k : Nat) (hs : s.size ≤ 5000000) (ht : t.size ≤ 5000000) (hk : k ≤ s.size) (w : World) (hX : Blk w X 82 (scn s k)) :
    Calls Try.prog 62 #[.pointer (some ⟨X, 0, none⟩), .string t] w fun e w' => e = .returned (.bool (skB s t k)) ∧ Blk w' X 82 (scn s (skN s t k)) ∧ But w.heap.size X w w' := by
  have c0 := hX.cell 0
  have c1 := hX.cell 1
  have c2 := hX.frozen 1
  simp at c0 c1 c2
  have i0 : (0 : Int) ≤ (k : Int) := by omega
  have i1 : (k : Int) ≤ (s.size : Int) := by omega
  have s0 : IntKind.i64.wrap ((k : Int) + (t.size : Int)) = (k : Int) + (t.size : Int) := IntWalk.i64_in _ (by omega)
  cases hb : skB s t k
  · have hn : skN s t k = k := by simp [skN, hb]
    have HN := hide hn
    clear hn
    go_enter Try.func62, Try.ntmps62
    go_wp2
    go_quiet ((go_at_call 95; exact Calls.quiet_of_same (prefix_any _ _ _ _)))
    go_wp2
    go_ret
    rw [HN.out]
    exact ⟨rfl, (by repeat (first | exact hX | refine Blk.alloc ?_ _ | refine Blk.drewN ?_ _ | refine Blk.drew ?_)), (But.refl _ _ _).drewN _⟩
  · have hn : skN s t k = k + t.size := by simp [skN, hb]
    have HN := hide hn
    clear hn
    go_enter Try.func62, Try.ntmps62
    go_wp2
    go_quiet ((go_at_call 95; exact Calls.quiet_of_same (prefix_any _ _ _ _)))
    go_wp2
    go_ret
    rw [HN.out]
    refine ⟨rfl, ?_, ((But.refl _ _ _).drewN _).self 1 _⟩
    have h1 := (hX.drewN ‹Nat›).set_ 1 (.int .i64 ((k : Int) + (t.size : Int)))
    have h2 : scn s (k + t.size) = #[.string s, .int .i64 ((k : Int) + (t.size : Int))] := by simp
    rw [h2]
    simpa using h1

def isC (c : UInt8) (x : Int) : Bool := x == (c.toNat : Int)
theorem skB_one {s t : ByteArray} {k : Nat} {c : UInt8} (ht : t.data.toList = [c]) : skB s t k = isB (isC c) s k := by
  unfold skB isB isC Lib.hasPrefix
  rw [ht, Lib.extract_data]
  have h1 : (s.data.toList.drop k).take (s.size - k) = s.data.toList.drop k := List.take_of_length_le (by simp)
  rw [h1]
  by_cases hlt : k < s.size
  · have hl : k < s.data.toList.length := by simpa using hlt
    rw [List.drop_eq_getElem_cons hl]
    simp only [byt, List.getElem?_eq_getElem hl, Option.getD_some, hlt, decide_true, Bool.true_and]
    rw [Bool.eq_iff_iff]
    simp
    constructor
    · intro e; rw [e]
    · intro e; exact (UInt8.toNat_inj.1 (by exact_mod_cast e)).symm
  · rw [List.drop_eq_nil_of_le (by simp; omega)]
    simp [hlt]
theorem skN_one {s t : ByteArray} {k : Nat} {c : UInt8} (ht : t.data.toList = [c]) : skN s t k = if isB (isC c) s k then k + 1 else k := by
  have : t.size = 1 := by rw [Lib.size_eq, ht]; rfl
  unfold skN
  rw [skB_one ht, this]
theorem skN_le {s t : ByteArray} {k : Nat} {c : UInt8} (ht : t.data.toList = [c]) (hk : k ≤ s.size) : k ≤ skN s t k ∧ skN s t k ≤ s.size := by
  rw [skN_one ht]
  split
  · rename_i h
    simp [isB] at h
    omega
  · omega

/-- How a method of the scanner ends: with a value and a place, or by the panic. -/
def EndX {α : Type} (B X : Nat) (s : ByteArray) (w : World) (r : Except (Nat × Nat) α) (val : α → Value) (pos : α → Nat) (e : Ending) (w' : World) : Prop :=
  match r with
  | .ok a => e = .returned (val a) ∧ Blk w' X 82 (scn s (pos a)) ∧ But B X w w'
  | .error (p, c) => e = .panicked (wrongP p c) ∧ But B X w w'

def mustL (s : ByteArray) : Nat → List UInt8 → Except (Nat × Nat) Nat
  | k, [] => .ok k
  | k, c :: cs => if isB (isC c) s k then mustL s (k + 1) cs else .error (k, 16)

set_option maxRecDepth 100000 in
set_option maxHeartbeats 2000000 in
theorem must_any (X : Nat) (s t : ByteArray) (k : Nat) (hs : s.size ≤ 5000000) (ht : t.size ≤ 5000000) (hk : k ≤ s.size) (w : World) (hX : Blk w X 82 (scn s k)) :
    Calls Try.prog 61 #[.pointer (some ⟨X, 0, none⟩), .string t] w (EndX w.heap.size X s w (mustL s k t.data.toList) (fun _ => .tuple #[]) id) := by
  have hXl := hX.lt
  go_enter Try.func61, Try.ntmps61
  go_wp2
  go_loopg [7] t.size (fun g i wr => ∃ j m : Nat, j ≤ t.size ∧ m ≤ s.size ∧ g = t.size - j ∧ i = .int .i64 j ∧ mustL s k t.data.toList = mustL s m (t.data.toList.drop j) ∧ Blk wr X 82 (scn s m) ∧ But w.heap.size X w wr)
  case atStart => exact ⟨0, k, Nat.zero_le _, hk, rfl, rfl, rfl, hX, But.refl _ _ _⟩
  case round =>
    obtain ⟨j, m, hj, hm, hg, rfl, he, hB, hb⟩ := hrel
    have HE := hide he
    have HG := hide hg
    clear he hg
    by_cases hlt : j < t.size
    · have i0 : (0 : Int) ≤ (j : Int) := by omega
      have i1 : (j : Int) ≤ (j : Int) + 1 := by omega
      have i2 : (j : Int) + 1 ≤ (t.size : Int) := by omega
      have hl : j < t.data.toList.length := by simpa using hlt
      have ht1 : (t.extract j (j + 1)).data.toList = [t.data.toList[j]] := by
        rw [Lib.extract_data, List.drop_eq_getElem_cons hl]
        simp
      have HT := hide ht1
      have hst := skN_le (s := s) (k := m) ht1 hm
      have HM : Hid (mustL s m (t.data.toList.drop j) = if isB (isC t.data.toList[j]) s m then mustL s (m + 1) (t.data.toList.drop (j + 1)) else .error (m, 16)) := by
        show mustL s m (t.data.toList.drop j) = _
        rw [List.drop_eq_getElem_cons hl]; rfl
      clear ht1
      go_wp2_with (fail)
      refine (skip_any X s _ m hs (by rw [Lib.size_eq, HT.out]; simp) hm _ hB).mono ?_
      rintro e w1 ⟨rfl, hB1, hb1⟩
      rw [skB_one HT.out]
      have hn := skN_one (s := s) (k := m) HT.out
      have hb2 := hb.trans hb1 hb.size
      cases hq : isB (isC t.data.toList[j]) s m
      · have hn2 : skN s (t.extract j (j + 1)) m = m := by rw [hn, hq]; rfl
        rw [hn2] at hB1
        have hr : mustL s k t.data.toList = .error (m, 16) := by rw [HE.out, HM.out, hq]; rfl
        have HR := hide hr
        clear hn hn2 hr hq
        have d1 := hB1.cell 1
        simp at d1
        go_wp2_with (fail)
        refine (fail_any _ _ _ _).mono ?_
        rintro e w2 ⟨rfl, rfl⟩
        refine ⟨rfl, ?_⟩
        rw [HR.out]
        exact ⟨rfl, hb2⟩
      · have hn2 : skN s (t.extract j (j + 1)) m = m + 1 := by rw [hn, hq]; rfl
        rw [hn2] at hB1 hst
        have hr : mustL s m (t.data.toList.drop j) = mustL s (m + 1) (t.data.toList.drop (j + 1)) := by rw [HM.out, hq]; rfl
        have HR := hide hr
        clear hn hn2 hr hq
        go_wp2
        go_roundg (t.size - (j + 1))
        case measure => rw [HG.out]; omega
        case rel => exact ⟨j + 1, m + 1, by omega, hst.2, rfl, by go_num, by rw [HE.out, HR.out], hB1, hb2⟩
    · have hr : mustL s k t.data.toList = .ok m := by rw [HE.out, List.drop_eq_nil_of_le (by simp; omega)]; rfl
      have HR := hide hr
      clear hr
      go_wp2
      refine bodyPost_ret (v := .tuple #[]) (results_none rfl _ _ _) rfl ?_
      rw [HR.out]
      exact ⟨rfl, hB, hb⟩

theorem extract_ne {s : ByteArray} {a b : Nat} (h : a < b) (hb : b ≤ s.size) : (s.extract a b).toList.isEmpty = false := by
  rw [Lib.extract_toList]
  have : ((s.data.toList.drop a).take (b - a)).length = b - a := by simp; omega
  cases hq : (s.data.toList.drop a).take (b - a) with
  | nil => rw [hq] at this; simp at this; omega
  | cons x y => rfl
def nameL (s : ByteArray) (k : Nat) : Except (Nat × Nat) (ByteArray × Nat) := if isB letB s k then .ok (s.extract k (endB letB s k), endB letB s k) else .error (k, 16)

set_option maxRecDepth 100000 in
set_option maxHeartbeats 2000000 in
theorem name_any (X : Nat) (s : ByteArray) (k : Nat) (hs : s.size ≤ 5000000) (hk : k ≤ s.size) (w : World) (hX : Blk w X 82 (scn s k)) :
    Calls Try.prog 97 #[.pointer (some ⟨X, 0, none⟩)] w (EndX w.heap.size X s w (nameL s k) (fun a => .string a.1) (·.2)) := by
  have hXl := hX.lt
  have hle := endB_le letB s k hk
  go_enter Try.func97, Try.ntmps97
  go_wp2_with (fail)
  refine (all_any X 72 letB (.inl ⟨rfl, rfl⟩) s k hs hk _ hX).mono ?_
  rintro e w1 ⟨rfl, hB1, hb1⟩
  cases hq : isB letB s k
  · have he := endB_stop hq
    rw [he] at hB1
    rw [he]
    have hr : nameL s k = .error (k, 16) := by unfold nameL; rw [hq]; rfl
    have hz : s.extract k k = ByteArray.empty := by simp
    have HR := hide hr
    clear he hr hq hle
    have d1 := hB1.cell 1
    simp at d1
    go_wp2_with (fail)
    refine (fail_any _ _ _ _).mono ?_
    rintro e w2 ⟨rfl, rfl⟩
    refine ⟨rfl, ?_⟩
    rw [HR.out]
    exact ⟨rfl, hb1⟩
  · have hr : nameL s k = .ok (s.extract k (endB letB s k), endB letB s k) := by unfold nameL; rw [hq]; rfl
    have HR := hide hr
    have hlt : k < endB letB s k := by
      obtain ⟨_, h2⟩ := endB_step hq
      have := endB_ge letB s (k + 1)
      omega
    have e1 := extract_ne (s := s) hlt hle
    clear hr hq
    go_wp2_with (fail)
    go_ret
    rw [HR.out]
    exact ⟨rfl, hB1, hb1⟩
end Go.Proofs.Ytcblakflhheepaa
