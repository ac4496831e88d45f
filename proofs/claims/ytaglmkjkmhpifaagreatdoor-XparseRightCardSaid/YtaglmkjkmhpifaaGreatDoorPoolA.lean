/- Chapter 18: pool.in, times, device. -/
import Derived.Test.YtaglmkjkmhpifaaGreatDoorPlnA
namespace Go.Proofs.YtaglmkjkmhpifaaGreatDoor
open Go.RowKit
set_option linter.unusedVariables false
set_option linter.unusedSimpArgs false

theorem in_any (n lo hi : Int) (w : World) : Calls Tryz.prog 24 #[.int .i64 n, .int .i64 lo, .int .i64 hi] w fun e w' => e = .returned (.bool (inB n lo hi)) ∧ w' = w := by
  go_enter Tryz.func24, Tryz.ntmps24
  go_wp2
  all_goals
    go_ret
    refine ⟨ret_bool ?_, rfl⟩
    rw [Bool.eq_iff_iff]; simp [inB]; try omega
theorem in_is (n lo hi : Int) (v : Bool) (hv : inB n lo hi = v) (w : World) : Calls Tryz.prog 24 #[.int .i64 n, .int .i64 lo, .int .i64 hi] w fun e w' => e = .returned (.bool v) ∧ w' = w := by
  rw [← hv]; exact in_any n lo hi w
theorem tclos_is (n : Int) (v : Bool) (hv : inB n 0 16777215 = v) (w : World) : Calls Tryz.prog 52 #[.int .i64 n] w fun e w' => e = .returned (.bool (!v)) ∧ w' = w := by
  have HV := hide hv
  clear hv
  go_enter Tryz.func52, Tryz.ntmps52
  go_wp2_with (fail)
  refine (in_is n 0 16777215 v HV.out w).mono ?_
  rintro e w' ⟨rfl, rfl⟩
  cases v
  all_goals
    go_wp2
    go_ret
    exact ⟨rfl, rfl⟩

abbrev nuc (n : Int) : List Value := [.int .i64 n]
def idxT : List Int → Int → Int
  | [], _ => -1
  | a :: l, k => if inB a 0 16777215 then idxT l (k + 1) else k
theorem idxT_all : ∀ (l : List Int) (k : Int), 0 ≤ k → decide (0 ≤ idxT l k) = !allT l
  | [], k, _ => by simp [idxT, allT]
  | a :: l, k, hk => by
    cases h : inB a 0 16777215
    · simp [idxT, allT, h, hk]
    · have := idxT_all l (k + 1) (by omega)
      simpa [idxT, allT, h] using this

set_option maxRecDepth 100000 in
set_option maxHeartbeats 2000000 in
theorem idxT_any (A : Option Addr) (cap : Nat) (l : List Int) (w : World) (h : Rd w w.heap.size 1 nuc A l) (hl : l.length ≤ 1000000) :
    Calls Tryz.prog 73 #[.slice A l.length cap, .func (.func 52) #[] #[]] w fun e w' => e = .returned (.int .i64 (idxT l 0)) ∧ w' = w := by
  go_enter Tryz.func73, Tryz.ntmps73
  go_wp2
  go_loop [8] (fun i => ∃ k : Nat, k ≤ l.length ∧ i = .int .i64 k ∧ idxT l 0 = idxT (l.drop k) k) (fun i => l.length - (intOf i).toNat)
  case atStart => exact ⟨0, Nat.zero_le _, rfl, rfl⟩
  case round =>
    obtain ⟨k, hk, rfl, hf⟩ := hrel
    by_cases hlt : k < l.length
    · obtain ⟨x, hx⟩ := get_of_lt hlt
      obtain ⟨b, off, rfl, hbB, hc⟩ := h k x hx
      have c0 : w.cell? ⟨b, off + k, none⟩ = some (.int .i64 x) := by simpa using hc 0 _ rfl
      have hf2 : idxT l 0 = if inB x 0 16777215 then idxT (l.drop (k + 1)) (k + 1) else (k : Int) := by rw [hf, drop_step hx]; rfl
      have HF := hide hf2
      have i0 : (0 : Int) ≤ (k : Int) := by omega
      have i1 : (k : Int) < (l.length : Int) := by omega
      clear hf hf2 hx hc
      obtain ⟨v, hv⟩ : ∃ v, inB x 0 16777215 = v := ⟨_, rfl⟩
      have HV := hide hv
      clear hv
      go_wp2_with (fail)
      refine (tclos_is x v HV.out _).mono ?_
      rintro e w1 ⟨rfl, rfl⟩
      cases v
      · go_wp2
        go_ret
        exact ⟨ret_int (by rw [HF.out, HV.out]; simp), rfl⟩
      · go_wp2
        go_round
        case rel => exact ⟨k + 1, by omega, by go_num, by rw [HF.out, HV.out]; simp⟩
        case measure => simp [intOf]; omega
    · have HF : Hid (idxT l 0 = -1) := by
        show idxT l 0 = _
        rw [hf, List.drop_eq_nil_of_le (by omega)]; rfl
      clear hf
      go_wp2
      go_ret
      exact ⟨ret_int (by rw [HF.out]), rfl⟩

theorem contT_is (A : Option Addr) (cap : Nat) (l : List Int) (v : Bool) (hv : allT l = v) (w : World) (h : Rd w w.heap.size 1 nuc A l) (hl : l.length ≤ 1000000) :
    Calls Tryz.prog 51 #[.slice A l.length cap, .func (.func 52) #[] #[]] w fun e w' => e = .returned (.bool (!v)) ∧ w' = w := by
  have hd := idxT_all l 0 (by omega)
  rw [hv] at hd
  have HD := hide hd
  clear hd hv
  go_enter Tryz.func51, Tryz.ntmps51
  go_wp2_with (fail)
  refine (idxT_any A cap l w h hl).mono ?_
  rintro e w1 ⟨rfl, rfl⟩
  go_wp2
  go_ret
  exact ⟨ret_bool HD.out, rfl⟩
theorem times_is (A : Option Addr) (cap : Nat) (tx : Int) (l : List Int) (v : Bool) (hv : timesB tx l = v) (w : World) (h : Rd w w.heap.size 1 nuc A l) (hl : l.length ≤ 1000000) :
    Calls Tryz.prog 23 #[.int .i64 tx, .slice A l.length cap] w fun e w' => e = .returned (.bool v) ∧ w' = w := by
  obtain ⟨v1, hv1⟩ : ∃ v1, inB tx 0 2147483647 = v1 := ⟨_, rfl⟩
  obtain ⟨v2, hv2⟩ : ∃ v2, allT l = v2 := ⟨_, rfl⟩
  have hvv : v = (v1 && v2) := by rw [← hv, ← hv1, ← hv2]; rfl
  subst hvv
  have HV1 := hide hv1
  have HV2 := hide hv2
  clear hv hv1 hv2
  go_enter Tryz.func23, Tryz.ntmps23
  go_wp2_with (fail)
  refine (in_is tx 0 2147483647 v1 HV1.out w).mono ?_
  rintro e w' ⟨rfl, rfl⟩
  cases v1
  · go_wp2
    go_ret
    exact ⟨rfl, rfl⟩
  · go_wp2_with (fail)
    refine (contT_is A cap l v2 HV2.out _ h hl).mono ?_
    rintro e w'' ⟨rfl, rfl⟩
    cases v2
    all_goals
      go_wp2
      go_ret
      exact ⟨rfl, rfl⟩
end Go.Proofs.YtaglmkjkmhpifaaGreatDoor
