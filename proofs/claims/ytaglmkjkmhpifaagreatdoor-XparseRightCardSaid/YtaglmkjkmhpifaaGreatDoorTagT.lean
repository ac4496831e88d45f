/- Chapter 41: made, the closure named, ContainsFunc over names, right. -/
import Derived.Test.YtaglmkjkmhpifaaGreatDoorTagNa
namespace Go.Proofs.YtaglmkjkmhpifaaGreatDoor
open Go.RowKit
set_option linter.unusedVariables false
set_option linter.unusedSimpArgs false

set_option maxRecDepth 100000 in
set_option maxHeartbeats 2000000 in
theorem is_wide (X K : Nat) (p : Int → Bool) (hK : KindOf K p) (s : ByteArray) (k : Nat) (hs : s.size ≤ 1000000000000) (hk : k ≤ s.size) (w : World) (hX : Blk w X 99 (scn s k)) :
    Calls Tryz.prog 80 #[.pointer (some ⟨X, 0, none⟩), .func (.func K) #[] #[]] w fun e w' => e = .returned (.bool (isB p s k)) ∧ ∃ n, w' = w.drewN n := by
  have c0 := hX.cell 0
  have c1 := hX.cell 1
  simp at c0 c1
  rcases hK with ⟨rfl, rfl⟩ | ⟨rfl, rfl⟩ | ⟨rfl, rfl⟩
  all_goals
    by_cases hlt : k < s.size
    · have t0 : decide ((k : Int) < (s.size : Int)) = true := by simp; omega
      have i2 : (k : Int).toNat = k := by omega
      go_enter Tryz.func80, Tryz.ntmps80
      go_wp2
      go_quiet ((first | (go_at_call 57; exact Calls.quiet_of_same (letter_any _ _)) | (go_at_call 67; exact Calls.quiet_of_same (blank_any _ _)) | (go_at_call 60; exact Calls.quiet_of_same (plain_any _ _))))
      go_wp2
      go_ret
      exact ⟨ret_bool (by simp [isB, hlt, byt_eq hlt]), _, rfl⟩
    · have t0 : decide ((k : Int) < (s.size : Int)) = false := by simp; omega
      go_enter Tryz.func80, Tryz.ntmps80
      go_wp2
      go_quiet (fail)
      go_wp2
      go_ret
      exact ⟨ret_bool (by simp [isB, hlt]), _, rfl⟩

set_option maxRecDepth 100000 in
set_option maxHeartbeats 2000000 in
theorem all_wide (X K : Nat) (p : Int → Bool) (hK : KindOf K p) (s : ByteArray) (k : Nat) (hs : s.size ≤ 1000000000000) (hk : k ≤ s.size) (w : World) (hX : Blk w X 99 (scn s k)) :
    Calls Tryz.prog 66 #[.pointer (some ⟨X, 0, none⟩), .func (.func K) #[] #[]] w fun e w' => e = .returned (.string (s.extract k (endB p s k))) ∧ Blk w' X 99 (scn s (endB p s k)) ∧ But w.heap.size X w w' := by
  have c1 := hX.cell 1
  simp at c1
  have hXl := hX.lt
  go_enter Tryz.func66, Tryz.ntmps66
  go_wp2
  go_loopg [] (s.size - k) (fun g wr => ∃ j, k ≤ j ∧ j ≤ s.size ∧ g = s.size - j ∧ endB p s j = endB p s k ∧ Blk wr X 99 (scn s j) ∧ But w.heap.size X w wr)
  case atStart => exact ⟨k, Nat.le_refl _, hk, rfl, rfl, hX, But.refl _ _ _⟩
  case round =>
    obtain ⟨j, hj, hj1, hg, he, hB, hb⟩ := hrel
    have HE := hide he
    have HG := hide hg
    clear he hg c1
    go_wp2_with (fail)
    refine (is_wide X K p hK s j hs hj1 _ (by repeat (first | exact hB | refine Blk.alloc ?_ _ | refine Blk.drewN ?_ _ | refine Blk.drew ?_))).mono ?_
    rintro e w1 ⟨rfl, n, rfl⟩
    have d0 := hB.cell 0
    have d1 := hB.cell 1
    have d2 := hB.frozen 1
    simp at d0 d1 d2
    cases hi : isB p s j
    · have hE := hide (endB_stop hi)
      clear hi
      obtain rfl : j = endB p s k := by rw [← HE.out, hE.out]
      have i0 : (0 : Int) ≤ (k : Int) := by omega
      have i1 : (k : Int) ≤ (endB p s k : Int) := by omega
      have i2 : (endB p s k : Int) ≤ (s.size : Int) := by omega
      go_wp2
      go_quiet (fail)
      go_wp2
      go_ret
      exact ⟨by simp, (by repeat (first | exact hB | refine Blk.alloc ?_ _ | refine Blk.drewN ?_ _ | refine Blk.drew ?_)), (hb.drewN _).drewN _⟩
    · obtain ⟨hlt, hE⟩ := endB_step hi
      have HE2 := hide hE
      clear hi hE
      have t0 : IntKind.i64.wrap ((j : Int) + 1) = (j : Int) + 1 := IntWalk.i64_in _ (by omega)
      go_wp2
      go_roundg (s.size - (j + 1))
      case measure => rw [HG.out]; omega
      case rel => exact ⟨j + 1, by omega, by omega, rfl, by rw [HE2.out, HE.out], (hB.drewN n).set_ 1 _, (hb.drewN n).self 1 _⟩

/-- All bytes of s are of a kind. -/
def allP (p : Int → Bool) (s : ByteArray) : Bool := s.data.toList.all fun b => p (b.toNat : Int)
theorem takeWhile_take {α : Type} (p : α → Bool) : ∀ l : List α, l.take (l.takeWhile p).length = l.takeWhile p
  | [] => rfl
  | a :: l => by
    rw [List.takeWhile_cons]
    split
    · simp [takeWhile_take p l]
    · simp
theorem takeWhile_all {α : Type} (p : α → Bool) : ∀ l : List α, l.takeWhile p = l ↔ l.all p = true
  | [] => by simp
  | a :: l => by
    rw [List.takeWhile_cons]
    cases h : p a
    · simp [h]
    · simp [h, takeWhile_all p l]
theorem allP_eq (p : Int → Bool) (s : ByteArray) : ((s.extract 0 (endB p s 0)).toList == s.toList) = allP p s := by
  rw [Bool.eq_iff_iff]
  rw [Lib.extract_toList, Lib.toList_data]
  simp only [endB, List.drop_zero, Nat.zero_add, Nat.sub_zero, takeWhile_take, allP, beq_iff_eq]
  exact takeWhile_all _ _

set_option maxRecDepth 100000 in
set_option maxHeartbeats 2000000 in
theorem made_any (K : Nat) (p : Int → Bool) (hK : KindOf K p) (s : ByteArray) (hs : s.size ≤ 1000000000000) (w : World) :
    Calls Tryz.prog 56 #[.string s, .func (.func K) #[] #[]] w fun e w' => e = .returned (.bool (allP p s)) ∧ Below w.heap.size w w' := by
  go_enter Tryz.func56, Tryz.ntmps56
  go_wp2_with (fail)
  refine (all_wide _ K p hK s 0 hs (Nat.zero_le _) _ (Blk.new w _ (scn s 0))).mono ?_
  rintro e w1 ⟨rfl, hB1, hb1⟩
  have hbel : Below w.heap.size w w1 := ((by repeat (first | exact Below.refl _ _ | refine Below.alloc ?_ (by first | (simp; omega) | simp | omega) _ | refine drewN_below ?_ _ | refine Below.drew ?_)) : Below w.heap.size w (w.alloc (.cells (scn s 0) 99))).trans (hb1.below (C := w.heap.size) (by simp) (Nat.le_refl _))
  clear hB1 hb1
  go_wp2
  go_ret
  exact ⟨ret_bool (allP_eq p s), hbel⟩

/-- s is a name. -/
def nameB (s : ByteArray) : Bool := !s.toList.isEmpty && allP letB s
set_option maxRecDepth 100000 in
set_option maxHeartbeats 2000000 in
theorem named_any (s : ByteArray) (hs : s.size ≤ 1000000000000) (w : World) :
    Calls Tryz.prog 55 #[.string s] w fun e w' => e = .returned (.bool (nameB s)) ∧ Below w.heap.size w w' := by
  cases he : s.toList.isEmpty
  · go_enter Tryz.func55, Tryz.ntmps55
    go_wp2_with (fail)
    refine (made_any 57 letB (.inl ⟨rfl, rfl⟩) s hs _).mono ?_
    rintro e w1 ⟨rfl, hb⟩
    have H := hide he
    go_wp2
    go_ret
    exact ⟨ret_bool (by simp [nameB, H.out]), hb⟩
  · have H := hide he
    go_enter Tryz.func55, Tryz.ntmps55
    go_wp2
    go_ret
    exact ⟨ret_bool (by simp [nameB, H.out]), Below.refl _ _⟩

theorem Rd.take {α : Type} {w : World} {B size : Nat} {c : α → List Value} {A : Option Addr} {l : List α} (h : Rd w B size c A l) (k : Nat) : Rd w B size c A (l.take k) := by
  intro i x hx
  refine h i x ?_
  rw [List.getElem?_take] at hx
  split at hx
  · exact hx
  · cases hx

def eqS (a b : ByteArray) : Bool := a.toList == b.toList
set_option maxRecDepth 100000 in
set_option maxHeartbeats 2000000 in
theorem clos_any (X : Nat) (a b : Ai) (w : World) (hX : Blk w X 86 #[.string a.1, .string a.2.1, .int .i64 a.2.2]) :
    Calls Tryz.prog 59 #[.agg #[.string b.1, .string b.2.1, .int .i64 b.2.2], .pointer (some ⟨X, 0, none⟩)] w fun e w' => e = .returned (.bool (eqS b.1 a.1)) ∧ Below w.heap.size w w' := by
  have c0 := hX.cell 0
  have hXl := hX.lt
  simp at c0
  go_enter Tryz.func59, Tryz.ntmps59
  go_wp2
  go_ret
  exact ⟨rfl, (by repeat (first | exact Below.refl _ _ | refine Below.alloc ?_ (by first | (simp; omega) | simp | omega) _ | refine drewN_below ?_ _ | refine Below.drew ?_))⟩
theorem clos_is (X : Nat) (a b : Ai) (v : Bool) (hv : eqS b.1 a.1 = v) (w : World) (hX : Blk w X 86 #[.string a.1, .string a.2.1, .int .i64 a.2.2]) :
    Calls Tryz.prog 59 #[.agg #[.string b.1, .string b.2.1, .int .i64 b.2.2], .pointer (some ⟨X, 0, none⟩)] w fun e w' => e = .returned (.bool v) ∧ Below w.heap.size w w' := by
  rw [← hv]; exact clos_any X a b w hX

def idxL (n : ByteArray) : List Ai → Int → Int
  | [], _ => -1
  | a :: l, k => if eqS a.1 n then k else idxL n l (k + 1)
def hasB (n : ByteArray) (l : List Ai) : Bool := l.any fun x => eqS x.1 n
theorem idxL_has (n : ByteArray) : ∀ (l : List Ai) (k : Int), 0 ≤ k → decide (0 ≤ idxL n l k) = hasB n l
  | [], k, _ => by simp [idxL, hasB]
  | a :: l, k, hk => by
    cases h : eqS a.1 n
    · have := idxL_has n l (k + 1) (by omega)
      simpa [idxL, hasB, h] using this
    · simp [idxL, hasB, h, hk]
theorem idxL_bd (n : ByteArray) : ∀ (l : List Ai) (k : Int), 0 ≤ k → -1 ≤ idxL n l k ∧ idxL n l k < k + l.length + 1
  | [], k, hk => by simp [idxL]; omega
  | a :: l, k, hk => by
    have := idxL_bd n l (k + 1) (by omega)
    simp only [idxL, List.length_cons]
    split <;> omega

set_option maxRecDepth 100000 in
set_option maxHeartbeats 2000000 in
theorem idx_any (A : Option Addr) (cap : Nat) (l : List Ai) (B X : Nat) (a : Ai) (w : World) (hB : B ≤ w.heap.size) (h : Rd w B 3 aic A l) (hl : l.length ≤ 1000000000000) (hX : Blk w X 86 #[.string a.1, .string a.2.1, .int .i64 a.2.2]) :
    Calls Tryz.prog 78 #[.slice A l.length cap, .func (.func 59) #[] #[.pointer (some ⟨X, 0, none⟩)]] w fun e w' => e = .returned (.int .i64 (idxL a.1 l 0)) ∧ Below w.heap.size w w' := by
  have hXl := hX.lt
  go_enter Tryz.func78, Tryz.ntmps78
  go_wp2
  go_loopw [8] (fun i wr => ∃ k : Nat, k ≤ l.length ∧ i = .int .i64 k ∧ Below w.heap.size w wr ∧ idxL a.1 l 0 = idxL a.1 (l.drop k) k) (fun i _ => l.length - (intOf i).toNat)
  case atStart => exact ⟨0, Nat.zero_le _, rfl, Below.refl _ _, rfl⟩
  case round =>
    obtain ⟨k, hk, rfl, hb, hf⟩ := hrel
    by_cases hlt : k < l.length
    · obtain ⟨x, hx⟩ := get_of_lt hlt
      obtain ⟨b, off, rfl, hbB, c0, c1, c2⟩ := (h.below (hb.mono hB)).ai hx
      have hf2 : idxL a.1 l 0 = if eqS x.1 a.1 then (k : Int) else idxL a.1 (l.drop (k + 1)) (k + 1) := by rw [hf, drop_step hx]; rfl
      have HF := hide hf2
      have i0 : (0 : Int) ≤ (k : Int) := by omega
      have i1 : (k : Int) < (l.length : Int) := by omega
      clear hf hf2 hx
      obtain ⟨v, hv⟩ : ∃ v, eqS x.1 a.1 = v := ⟨_, rfl⟩
      have HV := hide hv
      clear hv
      go_wp2_with (fail)
      refine (clos_is X a x v HV.out _ (hX.below hb hXl)).mono ?_
      rintro e w1 ⟨rfl, hb1⟩
      have hb2 := hb.trans (hb1.mono hb.size)
      clear hb1
      cases v
      · go_wp2
        go_roundw
        case rel => exact ⟨k + 1, by omega, by go_num, hb2, by rw [HF.out, HV.out]; simp⟩
        case measure => simp [intOf]; omega
      · go_wp2
        go_ret
        exact ⟨ret_int (by rw [HF.out, HV.out]; simp), hb2⟩
    · have HF : Hid (idxL a.1 l 0 = -1) := by
        show idxL a.1 l 0 = _
        rw [hf, List.drop_eq_nil_of_le (by omega)]; rfl
      clear hf
      go_wp2
      go_ret
      exact ⟨ret_int (by rw [HF.out]), hb⟩

set_option maxRecDepth 100000 in
set_option maxHeartbeats 2000000 in
theorem contains_is (A : Option Addr) (cap : Nat) (l : List Ai) (B X : Nat) (a : Ai) (v : Bool) (hv : hasB a.1 l = v) (w : World) (hB : B ≤ w.heap.size) (h : Rd w B 3 aic A l) (hl : l.length ≤ 1000000000000) (hX : Blk w X 86 #[.string a.1, .string a.2.1, .int .i64 a.2.2]) :
    Calls Tryz.prog 58 #[.slice A l.length cap, .func (.func 59) #[] #[.pointer (some ⟨X, 0, none⟩)]] w fun e w' => e = .returned (.bool v) ∧ Below w.heap.size w w' := by
  have hd := idxL_has a.1 l 0 (by omega)
  rw [hv] at hd
  have HD := hide hd
  clear hd hv
  go_enter Tryz.func58, Tryz.ntmps58
  go_wp2_with (fail)
  refine (idx_any A cap l B X a w hB h hl hX).mono ?_
  rintro e w1 ⟨rfl, hb⟩
  go_wp2
  go_ret
  exact ⟨ret_bool HD.out, hb⟩

theorem contains_at (A : Option Addr) (cap n : Nat) (l : List Ai) (hn : l.length = n) (B X : Nat) (a : Ai) (v : Bool) (hv : hasB a.1 l = v) (w : World) (hB : B ≤ w.heap.size) (h : Rd w B 3 aic A l) (hl : n ≤ 1000000000000) (hX : Blk w X 86 #[.string a.1, .string a.2.1, .int .i64 a.2.2]) :
    Calls Tryz.prog 58 #[.slice A n cap, .func (.func 59) #[] #[.pointer (some ⟨X, 0, none⟩)]] w fun e w' => e = .returned (.bool v) ∧ Below w.heap.size w w' := by
  subst hn; exact contains_is A cap l B X a v hv w hB h hl hX

theorem named_is (s : ByteArray) (v : Bool) (hv : nameB s = v) (hs : s.size ≤ 1000000000000) (w : World) :
    Calls Tryz.prog 55 #[.string s] w fun e w' => e = .returned (.bool v) ∧ Below w.heap.size w w' := by
  rw [← hv]; exact named_any s hs w
theorem plained_is (s : ByteArray) (v : Bool) (hv : allP plaB s = v) (hs : s.size ≤ 1000000000000) (w : World) :
    Calls Tryz.prog 56 #[.string s, .func (.func 60) #[] #[]] w fun e w' => e = .returned (.bool v) ∧ Below w.heap.size w w' := by
  rw [← hv]; exact made_any _ plaB (.inr (.inr ⟨rfl, rfl⟩)) s hs w

def rgtA : List Ai → List Ai → Bool
  | _, [] => true
  | seen, a :: l => !hasB a.1 seen && nameB a.1 && allP plaB a.2.1 && rgtA (seen ++ [a]) l
/-- A tag may be. -/
def rgtB (t : Ti) : Bool := decide (1 ≤ t.1) && decide (t.1 ≤ 3) && nameB t.2.1 && !(decide (t.1 = 2) && decide (0 < t.2.2.1.length)) && rgtA [] t.2.2.1
end Go.Proofs.YtaglmkjkmhpifaaGreatDoor
