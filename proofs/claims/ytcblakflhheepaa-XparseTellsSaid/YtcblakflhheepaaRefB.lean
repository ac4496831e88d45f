/- Chapter 43: the reference's state: bad, is, wrong, place, numbers. -/
import Derived.Test.YtcblakflhheepaaRefA
import Derived.Test.YtcblakflhheepaaParGa
namespace Go.Proofs.Ytcblakflhheepaa
open Go.RowKit
set_option linter.unusedVariables false
set_option linter.unusedSimpArgs false

abbrev RSt : TypeId := 117
/-- The reference's state, cell by cell. -/
structure Rh where
  lv : Value
  N : Int
  tx : Int
  tm : Int
  un : Int
  da : Int
  dv : Value
  sum : Int
  e : Int
  at_ : Int
abbrev rst (r : Rh) : Array Value := #[r.lv, .int .i64 r.N, .int .i64 r.tx, .int .i64 r.tm, .int .i64 r.un, .int .i64 r.da, r.dv, .int .i64 r.sum, .int .i64 r.e, .int .i64 r.at_]

theorem bad_any (X : Nat) (r : Rh) (p c : Int) (w : World) (hX : Blk w X RSt (rst r)) (he : r.e = 0) :
    Calls Try.prog 91 #[.pointer (some ⟨X, 0, none⟩), .int .i64 p, .int .i64 c] w fun e w' => e = .returned (.tuple #[]) ∧ Blk w' X RSt (rst { r with e := c, at_ := p }) ∧ But w.heap.size X w w' := by
  have hXl := hX.lt
  have x8 := hX.cell 8
  have x9 := hX.cell 9
  simp at x8 x9
  rw [he] at x8
  have f8 := hX.frozen 8
  have f9 := hX.frozen 9
  have h2 := hide (show Blk ((w.setCell ⟨X, 8, none⟩ (.int .i64 c)).setCell ⟨X, 9, none⟩ (.int .i64 p)) X RSt (rst { r with e := c, at_ := p }) by simpa using (hX.set_ 8 (.int .i64 c)).set_ 9 (.int .i64 p))
  have hb := hide (((But.refl w.heap.size X w).self 8 (.int .i64 c)).self 9 (.int .i64 p))
  clear hX
  go_enter Try.func91, Try.ntmps91
  go_wp2
  first
    | exact ⟨rfl, h2.out, hb.out⟩
    | (go_end0; exact ⟨rfl, h2.out, hb.out⟩)
    | (refine bodyPost_ret (v := .tuple #[]) (results_none rfl _ _ _) rfl ?_; exact ⟨rfl, h2.out, hb.out⟩)
theorem bad_no (X : Nat) (r : Rh) (p c : Int) (w : World) (hX : Blk w X RSt (rst r)) (he : r.e ≠ 0) :
    Calls Try.prog 91 #[.pointer (some ⟨X, 0, none⟩), .int .i64 p, .int .i64 c] w fun e w' => e = .returned (.tuple #[]) ∧ w' = w := by
  have hXl := hX.lt
  have x8 := hX.cell 8
  simp at x8
  have t0 : (r.e == 0) = false := by simpa using he
  clear hX
  go_enter Try.func91, Try.ntmps91
  go_wp2
  first
    | exact ⟨rfl, rfl⟩
    | (go_end0; exact ⟨rfl, rfl⟩)
    | (refine bodyPost_ret (v := .tuple #[]) (results_none rfl _ _ _) rfl ?_; exact ⟨rfl, rfl⟩)

def isR (e : Int) (L : List Ti) (kd : Int) (nm : ByteArray) : Bool := decide (e = 0) && (match L with | [] => false | t :: _ => decide (t.1 = kd) && (t.2.1.toList == nm.toList))
set_option maxRecDepth 100000 in
set_option maxHeartbeats 4000000 in
theorem ris_any (X B : Nat) (r : Rh) (A : Option Addr) (cap : Nat) (L : List Ti) (kd : Int) (nm : ByteArray) (v : Bool) (w : World) (hX : Blk w X RSt (rst r)) (hlv : r.lv = .slice A L.length cap) (hI : RdI w B A L) (hB : B ≤ w.heap.size) (hll : L.length ≤ 5000000) (hv : isR r.e L kd nm = v) :
    Calls Try.prog 51 #[.pointer (some ⟨X, 0, none⟩), .int .i64 kd, .string nm] w fun e w' => e = .returned (.bool v) ∧ w' = w := by
  have hXl := hX.lt
  have x0 := hX.cell 0
  have x8 := hX.cell 8
  simp at x0 x8
  rw [hlv] at x0
  unfold isR at hv
  clear hX hlv
  by_cases he : r.e = 0
  · have t0 : (r.e == 0) = true := by simpa using he
    rw [decide_eq_true he, Bool.true_and] at hv
    cases L with
    | nil =>
      have H := hide hv
      clear hv hI he
      go_enter Try.func51, Try.ntmps51
      go_wp2
      go_ret
      exact ⟨by rw [← H.out]; rfl, by first | rfl | trivial⟩
    | cons t L =>
      obtain ⟨b, off, A', cap', rfl, hbB, c0, c1, c2, c3, hr⟩ := hI 0 t rfl
      have hbl : b < w.heap.size := by omega
      simp at c0 c1 hll
      obtain ⟨u1, h1⟩ : ∃ u, decide (t.1 = kd) = u := ⟨_, rfl⟩
      have h1' : (t.1 == kd) = u1 := by rw [← h1]; rfl
      obtain ⟨u2, h2⟩ : ∃ u, (t.2.1.toList == nm.toList) = u := ⟨_, rfl⟩
      dsimp only at hv
      rw [h1, h2] at hv
      have H := hide hv
      have tl : decide ((0 : Int) < (L.length : Int) + 1) = true := by rw [decide_eq_true_eq]; omega
      clear hv hI he h1 c2 c3 hr
      cases u1
      · go_enter Try.func51, Try.ntmps51
        go_wp2
        go_ret
        exact ⟨by rw [← H.out]; rfl, by first | rfl | trivial⟩
      · go_enter Try.func51, Try.ntmps51
        go_wp2
        go_ret
        exact ⟨by rw [← H.out]; rfl, by first | rfl | trivial⟩
  · have t0 : (r.e == 0) = false := by simpa using he
    rw [decide_eq_false he, Bool.false_and] at hv
    have H := hide hv
    clear hv hI he
    go_enter Try.func51, Try.ntmps51
    go_wp2
    go_ret
    exact ⟨by rw [← H.out]; rfl, by first | rfl | trivial⟩
def headAt (N : Int) (L : List Ti) : Int := match L with | [] => N | t :: _ => t.2.2.2
set_option maxRecDepth 100000 in
set_option maxHeartbeats 4000000 in
theorem wrong_gen (X B : Nat) (r : Rh) (A : Option Addr) (cap : Nat) (L : List Ti) (w : World) (Q : Ending → World → Prop) (hX : Blk w X RSt (rst r)) (hlv : r.lv = .slice A L.length cap) (hI : RdI w B A L) (hB : B ≤ w.heap.size) (hll : L.length ≤ 5000000)
    (hbad : Calls Try.prog 91 #[.pointer (some ⟨X, 0, none⟩), .int .i64 (headAt r.N L), .int .i64 16] w fun e w' => e = .returned (.tuple #[]) ∧ Q e w') :
    Calls Try.prog 54 #[.pointer (some ⟨X, 0, none⟩)] w fun e w' => e = .returned (.tuple #[]) ∧ Q e w' := by
  have hXl := hX.lt
  have x0 := hX.cell 0
  have x1 := hX.cell 1
  simp at x0 x1
  rw [hlv] at x0
  have HB := hide hbad
  clear hX hlv hbad
  cases L with
  | nil =>
    clear hI
    go_enter Try.func54, Try.ntmps54
    go_wp2_with (fail)
    refine HB.out.mono ?_
    rintro e w2 ⟨rfl, hq⟩
    have HQ := hide hq
    clear hq
    go_wp2
    first
      | exact ⟨rfl, HQ.out⟩
      | (go_end0; exact ⟨rfl, HQ.out⟩)
      | (refine bodyPost_ret (v := .tuple #[]) (results_none rfl _ _ _) rfl ?_; exact ⟨rfl, HQ.out⟩)
  | cons t L =>
    obtain ⟨b, off, A', cap', rfl, hbB, c0, c1, c2, c3, hr⟩ := hI 0 t rfl
    have hbl : b < w.heap.size := by omega
    simp at c3 hll
    have tl : ((L.length : Int) + 1 == 0) = false := by simp; omega
    clear hI c0 c1 c2 hr
    go_enter Try.func54, Try.ntmps54
    go_wp2_with (fail)
    refine HB.out.mono ?_
    rintro e w2 ⟨rfl, hq⟩
    have HQ := hide hq
    clear hq
    go_wp2
    first
      | exact ⟨rfl, HQ.out⟩
      | (go_end0; exact ⟨rfl, HQ.out⟩)
      | (refine bodyPost_ret (v := .tuple #[]) (results_none rfl _ _ _) rfl ?_; exact ⟨rfl, HQ.out⟩)
theorem wrong_any (X B : Nat) (r : Rh) (A : Option Addr) (cap : Nat) (L : List Ti) (w : World) (hX : Blk w X RSt (rst r)) (he : r.e = 0) (hlv : r.lv = .slice A L.length cap) (hI : RdI w B A L) (hB : B ≤ w.heap.size) (hll : L.length ≤ 5000000) :
    Calls Try.prog 54 #[.pointer (some ⟨X, 0, none⟩)] w fun e w' => e = .returned (.tuple #[]) ∧ Blk w' X RSt (rst { r with e := 16, at_ := headAt r.N L }) ∧ But w.heap.size X w w' :=
  wrong_gen X B r A cap L w (fun _ w' => Blk w' X RSt (rst { r with e := 16, at_ := headAt r.N L }) ∧ But w.heap.size X w w') hX hlv hI hB hll (bad_any X r _ 16 w hX he)
theorem wrong_no (X B : Nat) (r : Rh) (A : Option Addr) (cap : Nat) (L : List Ti) (w : World) (hX : Blk w X RSt (rst r)) (he : r.e ≠ 0) (hlv : r.lv = .slice A L.length cap) (hI : RdI w B A L) (hB : B ≤ w.heap.size) (hll : L.length ≤ 5000000) :
    Calls Try.prog 54 #[.pointer (some ⟨X, 0, none⟩)] w fun e w' => e = .returned (.tuple #[]) ∧ w' = w :=
  wrong_gen X B r A cap L w (fun _ w' => w' = w) hX hlv hI hB hll (bad_no X r _ 16 w hX he)

abbrev sc1 (s : ByteArray) : List Value := [.string s]
abbrev ic1 (n : Int) : List Value := [.int .i64 n]
def placeI : List ByteArray → ByteArray → Int → Int
  | [], _, _ => -1
  | x :: l, s, k => if x.toList == s.toList then k else placeI l s (k + 1)
set_option maxRecDepth 100000 in
set_option maxHeartbeats 4000000 in
theorem place_any (A : Option Addr) (cap B : Nat) (l : List ByteArray) (s : ByteArray) (w : World) (hr : Rd w B 1 sc1 A l) (hB : B ≤ w.heap.size) (hl : l.length ≤ 1000) :
    Calls Try.prog 89 #[.slice A l.length cap, .string s] w fun e w' => e = .returned (.int .i64 (placeI l s 0)) ∧ w' = w := by
  go_enter Try.func89, Try.ntmps89
  go_wp2_with (fail)
  go_loopw [5] (fun i wr => ∃ k : Nat, k ≤ l.length ∧ i = .int .i64 k ∧ placeI l s 0 = placeI (l.drop k) s k ∧ wr = w) (fun i _ => l.length - (intOf i).toNat)
  case atStart => exact ⟨0, Nat.zero_le _, rfl, rfl, rfl⟩
  case round =>
    obtain ⟨k, hk, rfl, hp, rfl⟩ := hrel
    by_cases hlt : k < l.length
    · obtain ⟨x, hx⟩ := get_of_lt hlt
      obtain ⟨b, off, rfl, hbB, hc⟩ := hr k x hx
      have hbl : b < wr.heap.size := by omega
      have c0 : wr.cell? ⟨b, off + k, none⟩ = some (.string x) := by simpa using hc 0 _ rfl
      rw [drop_step hx] at hp
      have i0 : (0 : Int) ≤ (k : Int) := by omega
      have i1 : (k : Int) < (l.length : Int) := by omega
      obtain ⟨u, hu⟩ : ∃ u, (x.toList == s.toList) = u := ⟨_, rfl⟩
      have hp2 : placeI l s 0 = if u then (k : Int) else placeI (l.drop (k + 1)) s (k + 1) := by rw [hp, ← hu]; rfl
      have HP := hide hp2
      clear hp hp2 hc hx hr
      cases u
      · go_wp2
        go_roundw
        case rel => exact ⟨k + 1, by omega, by go_num, by rw [HP.out]; simp, by first | rfl | trivial⟩
        case measure => simp [intOf]; omega
      · go_wp2
        go_ret
        exact ⟨ret_int (by rw [HP.out]; simp), by first | rfl | trivial⟩
    · have HP := hide (show placeI l s 0 = -1 by rw [hp, List.drop_eq_nil_of_le (by omega)]; rfl)
      have t0 : decide ((k : Int) < (l.length : Int)) = false := by simp; omega
      clear hp hr
      go_wp2
      go_ret
      exact ⟨ret_int (by rw [HP.out]), by first | rfl | trivial⟩
end Go.Proofs.Ytcblakflhheepaa
