/- Chapter 19: runs.Check and the reference's Check tell the same. -/
import Derived.Test.YtcblakflhheepaaRunsF
namespace Go.Proofs.Ytcblakflhheepaa
open Go.RowKit

def fitsB (f n e : Int) : Bool := decide (0 ≤ f) && decide (f < e) && decide (n ≤ e - f)
theorem fits_any (f n e : Int) (w : World) (he : 0 ≤ e) (he' : e ≤ 1000000000000000) :
    Calls Try.prog 36 #[.int .i64 f, .int .i64 n, .int .i64 e] w fun r w' => r = .returned (.bool (fitsB f n e)) ∧ w = w' := by
  by_cases h1 : 0 ≤ f
  · by_cases h2 : f < e
    · go_enter Try.func36, Try.ntmps36
      go_wp2
      go_ret
      exact ⟨ret_bool (by simp [fitsB, h1, h2]), rfl⟩
    · have h2' : decide (f < e) = false := by simp; omega
      go_enter Try.func36, Try.ntmps36
      go_wp2
      go_ret
      exact ⟨ret_bool (by simp only [fitsB]; simp; omega), rfl⟩
  · have h1' : decide (0 ≤ f) = false := by simp; omega
    go_enter Try.func36, Try.ntmps36
    go_wp2
    go_ret
    exact ⟨ret_bool (by simp only [fitsB]; simp; omega), rfl⟩

/-- May a run be, by its own numbers? -/
def okR (x : Rn) : Bool := decide (1 ≤ x.2.2.1) && decide (0 ≤ x.1) && decide (x.1 + x.2.2.1 ≤ 281474976710656) && decide (0 ≤ x.2.1) && decide (x.2.1 + x.2.2.1 ≤ 65536) && decide (0 ≤ x.2.2.2) && decide (x.2.2.2 ≤ 16777215)
/-- Why runs may not be. -/
def chk : List Rn → Int → Int → Int
  | [], _, _ => 0
  | x :: l, sum, next => if okR x = false ∨ sum + x.2.2.1 > 16384 then 2 else if x.1 < next then 17 else chk l (sum + x.2.2.1) (x.1 + x.2.2.1)

def badP (x : Rn) : Bool := decide (x.2.2.1 < 1) || !fitsB x.1 x.2.2.1 281474976710656 || !fitsB x.2.1 x.2.2.1 65536 || decide (x.2.2.2 < 0) || decide (16777215 < x.2.2.2)
theorem badP_eq (x : Rn) : badP x = !okR x := by
  rw [Bool.eq_iff_iff]
  simp only [badP, okR, fitsB, Bool.or_eq_true, Bool.not_eq_true', Bool.and_eq_false_iff, decide_eq_true_eq, decide_eq_false_iff_not]
  omega

set_option maxRecDepth 100000 in
set_option maxHeartbeats 2000000 in
theorem check_any (A : Option Addr) (cap : Nat) (l : List Rn) (w : World) (h : Rd w w.heap.size 4 rc A l) (hl : l.length ≤ 1000000) :
    Calls Try.prog 18 #[.slice A l.length cap] w fun e w' => e = .returned (.int .i64 (chk l 0 0)) ∧ Below w.heap.size w w' := by
  go_enter Try.func18, Try.ntmps18
  go_wp2
  go_loopw [3, 4, 9] (fun s n i wr => ∃ (k : Nat) (sum next : Int), k ≤ l.length ∧ i = .int .i64 k ∧ s = .int .i64 sum ∧ n = .int .i64 next ∧ 0 ≤ sum ∧ sum ≤ 16384 ∧ Below w.heap.size w wr ∧ chk l 0 0 = chk (l.drop k) sum next) (fun _ _ i _ => l.length - (intOf i).toNat)
  case atStart => exact ⟨0, 0, 0, Nat.zero_le _, rfl, rfl, rfl, by omega, by omega, Below.refl _ _, by simp⟩
  case round =>
    obtain ⟨k, sum, next, hk, rfl, rfl, rfl, hs0, hs1, hb, hck⟩ := hrel
    have HC := hide hck
    clear hck
    by_cases hlt : k < l.length
    · obtain ⟨x, hx⟩ := get_of_lt hlt
      obtain ⟨b, off, rfl, hbB, c0, c1, c2, c3⟩ := (h.below hb).rn hx
      have HX := hide hx
      clear hx
      have hbs : b < wr.heap.size := by have := hb.size; omega
      have hck := HC.out
      rw [drop_step HX.out, chk] at hck
      have HC2 := hide hck
      clear hck HC
      have hstep : okR x = true → 1 ≤ x.2.2.1 ∧ 0 ≤ x.1 ∧ x.1 + x.2.2.1 ≤ 281474976710656 ∧ x.2.2.1 ≤ 65536 := by
        intro ho
        simp [okR] at ho
        omega
      obtain ⟨x1, x2, x3, x4⟩ := x
      dsimp only at c0 c1 c2 c3
      go_upto_region 5 with (fail)
      go_cut [41] (fun c wx => c = .bool (badP (x1, x2, x3, x4)) ∧ wx = wr.alloc (.cells #[.int .i64 x1, .int .i64 x2, .int .i64 x3, .int .i64 x4] 41))
      case first =>
        by_cases hN : x3 < 1
        · go_wp2_with (fail)
          go_meet
          exact ⟨by simp [badP, hN], rfl⟩
        · cases hf1 : fitsB x1 x3 281474976710656
          · have HF1 := hide hf1
            clear hf1
            go_wp2_with (go_at_call 36; refine (fits_any _ _ _ _ (by omega) (by omega)).mono ?_; rintro e w2 ⟨he, rfl⟩; rw [HF1.out] at he; subst he)
            go_meet
            exact ⟨by simp [badP, HF1.out], rfl⟩
          · have HF1 := hide hf1
            clear hf1
            cases hf2 : fitsB x2 x3 65536
            · have HF2 := hide hf2
              clear hf2
              go_wp2_with (go_at_call 36; refine (fits_any _ _ _ _ (by omega) (by omega)).mono ?_; rintro e w2 ⟨he, rfl⟩; (first | rw [HF1.out] at he | rw [HF2.out] at he); subst he)
              go_meet
              exact ⟨by simp [badP, HF2.out], rfl⟩
            · have HF2 := hide hf2
              clear hf2
              by_cases h4 : x4 < 0
              · go_wp2_with (go_at_call 36; refine (fits_any _ _ _ _ (by omega) (by omega)).mono ?_; rintro e w2 ⟨he, rfl⟩; (first | rw [HF1.out] at he | rw [HF2.out] at he); subst he)
                go_meet
                exact ⟨by simp [badP, h4], rfl⟩
              · by_cases h5 : 16777215 < x4
                · go_wp2_with (go_at_call 36; refine (fits_any _ _ _ _ (by omega) (by omega)).mono ?_; rintro e w2 ⟨he, rfl⟩; (first | rw [HF1.out] at he | rw [HF2.out] at he); subst he)
                  go_meet
                  exact ⟨by simp [badP, h5], rfl⟩
                · go_wp2_with (go_at_call 36; refine (fits_any _ _ _ _ (by omega) (by omega)).mono ?_; rintro e w2 ⟨he, rfl⟩; (first | rw [HF1.out] at he | rw [HF2.out] at he); subst he)
                  go_meet
                  exact ⟨by simp only [badP, decide_eq_false (show ¬ x3 < 1 by omega), decide_eq_false (show ¬ x4 < 0 by omega), decide_eq_false (show ¬ 16777215 < x4 by omega), HF1.out, HF2.out]; rfl, rfl⟩
      case rest =>
        obtain ⟨hc, rfl⟩ := hcut
        rw [badP_eq] at hc
        have hB1 : Below w.heap.size w (wr.alloc (.cells #[.int .i64 x1, .int .i64 x2, .int .i64 x3, .int .i64 x4] 41)) := hb.alloc hb.size _
        cases ho : okR (x1, x2, x3, x4)
        · rw [ho] at hc
          subst hc
          have HO := hide ho
          clear ho
          go_wp2
          go_ret
          exact ⟨ret_int (by rw [HC2.out, if_pos (Or.inl HO.out)]), hB1⟩
        · obtain ⟨g1, g2, g3, g4⟩ := hstep ho
          dsimp only at g1 g2 g3 g4
          rw [ho] at hc
          subst hc
          have HO := hide ho
          clear ho
          by_cases h6 : 16384 < sum + x3
          · go_wp2
            go_ret
            exact ⟨ret_int (by rw [HC2.out, if_pos (Or.inr h6)]), hB1⟩
          · have hn : ¬ (okR (x1, x2, x3, x4) = false ∨ sum + (x1, x2, x3, x4).2.2.1 > 16384) := by
              rw [HO.out]
              intro hh
              rcases hh with hh | hh
              · cases hh
              · exact h6 hh
            have HN := hide hn
            clear hn
            by_cases h7 : x1 < next
            · go_wp2
              go_ret
              exact ⟨ret_int (by rw [HC2.out, if_neg HN.out, if_pos h7]), hB1⟩
            · go_wp2
              go_roundw
              case rel => exact ⟨k + 1, sum + x3, x1 + x3, by omega, by go_num, rfl, rfl, by omega, by omega, hB1, by rw [HC2.out, if_neg HN.out, if_neg h7]⟩
              case measure => simp [intOf]; omega
    · obtain rfl : k = l.length := by omega
      go_wp2
      go_ret
      exact ⟨ret_int (by rw [HC.out, List.drop_length, chk]), hb⟩
end Go.Proofs.Ytcblakflhheepaa
