/- Chapters 5, 30, 31, the reference: digits of a number, the lines of a device. -/
import Derived.Test.YtaglmkjkmhpifaaDoorEmC
import Derived.Laws.BytesArg
namespace Go.Proofs.YtaglmkjkmhpifaaDoor
open Go.RowKit
set_option linter.unusedVariables false
set_option linter.unusedSimpArgs false

theorem dec_big {u : Nat} (h : ¬ u < 10) : Lib.decDigits u = Lib.decDigits (u / 10) ++ [UInt8.ofNat (48 + u % 10)] := by
  rw [Lib.decDigits, dif_neg h]
theorem conv1 (w : World) (v : Int) : (convert 55 9 (.slice (some ⟨w.heap.size, 0, none⟩) 1 1)).run Tryd.prog (w.alloc (.cells #[.int .u8 v] 5)) = .ok (.string (strOfNums [v])) (w.alloc (.cells #[.int .u8 v] 5)) := by
  refine run_convert_bytes_arg _ 55 5 Tryd.underlying55 Tryd.underlying5 w.heap.size 0 1 1 [v] rfl (fun i hi => ?_) 9 Tryd.underlying9
  obtain rfl : i = 0 := by omega
  exact (Blk.new w 5 #[.int .u8 v]).cell 0
theorem bytes_eq2 {a b : ByteArray} (h : a.data.toList = b.data.toList) : a = b := ByteArray.ext (Array.toList_inj.1 h)
theorem ret_str {a b : ByteArray} (h : a = b) : Ending.returned (.string a) = .returned (.string b) := by rw [h]
theorem dec_len (u : Nat) : 1 ≤ (Lib.decDigits u).length := by
  by_cases h : u < 10
  · rw [Lib.decDigits_one h]; simp
  · rw [dec_big h]; simp

set_option maxRecDepth 100000 in
set_option maxHeartbeats 4000000 in
theorem rdig_nat (n : Nat) (h : (n : Int) ≤ 9223372036854775807) (w : World) :
    Calls Tryd.prog 51 #[.int .i64 n] w fun e w' => e = .returned (.string (dig n)) ∧ Below w.heap.size w w' := by
  have hlen : (Lib.decDigits n).length ≤ 21 := by
    have := Lib.itoa_length_le (n : Int) (by omega) h
    rwa [Lib.itoa_nonneg] at this
  have hd : (dig n).data.toList = Lib.decDigits n := by rw [dig_list, Lib.itoa_nonneg]
  have HD := hide hd
  have hcv := conv1
  have HL := hide hlen
  clear hd hlen
  have t0 : decide ((n : Int) ≤ -10) = false := by simp; omega
  have t1 : decide ((n : Int) < 0) = false := by simp
  have hz1 : ∀ v : Int, (strOfNums [v]).size = 1 := fun v => strOfNums_size [v]
  go_enter Tryd.func51, Tryd.ntmps51
  go_wp2
  go_loopw [0, 3] (fun x s wr => ∃ (m : Nat) (str : ByteArray), m ≤ n ∧ x = .int .i64 m ∧ s = .string str ∧ Lib.decDigits m ++ str.data.toList = Lib.decDigits n ∧ Below w.heap.size w wr) (fun x _ _ => (intOf x).toNat)
  case atStart => exact ⟨n, ⟨#[]⟩, Nat.le_refl _, rfl, rfl, by simp, Below.refl _ _⟩
  case round =>
    obtain ⟨m, str, hm, rfl, rfl, he, hb⟩ := hrel
    have hsz : str.size + 1 ≤ 21 := by
      have h1 := congrArg List.length he
      have h2 := dec_len m
      have h3 : str.data.toList.length = str.size := by simp
      have h4 := HL.out
      simp only [List.length_append] at h1
      omega
    have HE := hide he
    clear he
    by_cases hlt : m < 10
    · have u0 : decide ((10 : Int) ≤ (m : Int)) = false := by simp; omega
      go_wp2
      go_ret
      have hz : (strOfNums [48 + (m : Int)] ++ str).data.toList = (dig n).data.toList := by
        rw [HD.out, ← HE.out, Lib.decDigits_one hlt]
        have e : (48 + (m : Int)).toNat = 48 + m := by omega
        simp [strOfNums_data, e]
      exact ⟨ret_str (bytes_eq2 hz), (by have hsz := (hb).size; repeat (first | with_reducible exact hb | with_reducible refine Below.alloc ?_ (by first | (simp; omega) | simp | omega) _ | with_reducible refine drewN_below ?_ _ | with_reducible refine Below.drew ?_))⟩
    · have u0 : decide ((10 : Int) ≤ (m : Int)) = true := by simp; omega
      go_wp2
      go_roundw
      case rel =>
        refine ⟨m / 10, _, by omega, by go_num, rfl, ?_, (by have hsz := (hb).size; repeat (first | with_reducible exact hb | with_reducible refine Below.alloc ?_ (by first | (simp; omega) | simp | omega) _ | with_reducible refine drewN_below ?_ _ | with_reducible refine Below.drew ?_))⟩
        have e : (48 + (m : Int) % 10).toNat = 48 + m % 10 := by omega
        rw [← HE.out, dec_big hlt]
        simp [strOfNums_data, e]
      case measure => simp [intOf]; omega

theorem itoa_neg_big (u : Nat) (h : 10 ≤ u) : Lib.itoa (-(u : Int)) = Lib.itoa (-((u / 10 : Nat) : Int)) ++ Lib.decDigits (u % 10) := by
  rw [Lib.itoa_neg u (by omega), Lib.itoa_neg (u / 10) (by omega), dec_big (by omega), Lib.decDigits_one (show u % 10 < 10 by omega)]
  simp

set_option maxRecDepth 100000 in
set_option maxHeartbeats 4000000 in
theorem rdig_neg (f : Nat) : ∀ (u : Nat) (w : World), u ≤ f → 1 ≤ u → u ≤ 9223372036854775808 → Calls Tryd.prog 51 #[.int .i64 (-(u : Int))] w fun e w' => e = .returned (.string (dig (-(u : Int)))) ∧ Below w.heap.size w w' := by
  induction f with
  | zero => intro u w h1 h2 _; omega
  | succ f ih =>
    intro u w huf hu1 hu2
    by_cases hu : u < 10
    · have t0 : decide (-(u : Int) ≤ -10) = false := by simp; omega
      have t1 : decide (-(u : Int) < 0) = true := by simp; omega
      go_enter Tryd.func51, Tryd.ntmps51
      have hs : (dig (u : Int)).size ≤ 21 := dig_len _ (by unfold I64; omega)
      have z1 : (⟨#[45]⟩ : ByteArray).size = 1 := rfl
      go_wp2_with (fail)
      refine (rdig_nat u (by omega) w).mono ?_
      rintro e w1 ⟨rfl, hb1⟩
      go_wp2
      go_ret
      exact ⟨ret_str (bytes_eq2 (by simp [dig_list, Lib.itoa_nonneg, Lib.itoa_neg u hu1])), hb1⟩
    · have t0 : decide (-(u : Int) ≤ -10) = true := by simp; omega
      have hs1 : (dig (-((u / 10 : Nat) : Int))).size ≤ 21 := dig_len _ (by unfold I64; omega)
      have hs2 : (dig ((u % 10 : Nat) : Int)).size ≤ 21 := dig_len _ (by unfold I64; omega)
      have h1 := ih (u / 10) w (by omega) (by omega) (by omega)
      have h2 := fun w => rdig_nat (u % 10) (by omega) w
      have e1 : ((u / 10 : Nat) : Int) = (u : Int) / 10 := by omega
      have e2 : ((u % 10 : Nat) : Int) = (u : Int) % 10 := by omega
      have hfin : (dig (-((u / 10 : Nat) : Int)) ++ dig ((u % 10 : Nat) : Int)) = dig (-(u : Int)) := bytes_eq2 (by simp only [ByteArray.data_append, Array.toList_append, dig_list]; rw [Lib.itoa_nonneg, itoa_neg_big u (by omega)])
      rw [e1] at h1 hs1 hfin
      rw [e2] at hs2 hfin
      simp only [e2] at h2
      have H1 := hide h1
      have H2 := hide h2
      have HF := hide hfin
      clear h1 h2 hfin e1 e2 ih
      go_enter Tryd.func51, Tryd.ntmps51
      go_wp2_with (fail)
      refine H1.out.mono ?_
      rintro e w1 ⟨rfl, hb1⟩
      go_wp2_with (fail)
      refine (H2.out w1).mono ?_
      rintro e w2 ⟨rfl, hb2⟩
      have hb3 := hb1.trans (hb2.mono hb1.size)
      go_wp2
      go_ret
      exact ⟨ret_str HF.out, hb3⟩

theorem rdig_any (n : Int) (h : I64 n) (w : World) :
    Calls Tryd.prog 51 #[.int .i64 n] w fun e w' => e = .returned (.string (dig n)) ∧ Below w.heap.size w w' := by
  obtain ⟨h0, h1⟩ := h
  by_cases hn : 0 ≤ n
  · obtain ⟨m, rfl⟩ := Int.eq_ofNat_of_zero_le hn
    exact rdig_nat m h1 w
  · obtain ⟨m, hm⟩ := Int.eq_ofNat_of_zero_le (show 0 ≤ -n by omega)
    obtain rfl : n = -(m : Int) := by omega
    exact rdig_neg m m w (Nat.le_refl _) (by omega) (by omega)

theorem rdigits_any (n : Int) (h : I64 n) (w : World) :
    Calls Tryd.prog 27 #[.int .i64 n] w fun e w' => e = .returned (.string (dig n)) ∧ Below w.heap.size w w' := by
  have HH := hide h
  clear h
  go_enter Tryd.func27, Tryd.ntmps27
  go_wp2_with (fail)
  refine (rdig_any n HH.out w).mono ?_
  rintro e w' ⟨rfl, hb⟩
  go_wp2
  go_ret
  exact ⟨rfl, hb⟩

/-- The reference's ' name number'. -/
def namB (s : ByteArray) (n : Int) : ByteArray := ⟨#[32]⟩ ++ s ++ ⟨#[32]⟩ ++ dig n
theorem rnamed31_any (s : ByteArray) (n : Int) (hs : s.size ≤ 1000) (h : I64 n) (w : World) :
    Calls Tryd.prog 28 #[.string s, .int .i64 n] w fun e w' => e = .returned (.string (namB s n)) ∧ Below w.heap.size w w' := by
  have hd := dig_len n h
  have z1 : (⟨#[32]⟩ : ByteArray).size = 1 := rfl
  have HH := hide h
  clear h
  go_enter Tryd.func28, Tryd.ntmps28
  go_wp2_with (fail)
  refine (rdigits_any n HH.out w).mono ?_
  rintro e w' ⟨rfl, hb⟩
  go_wp2
  go_ret
  exact ⟨rfl, hb⟩
end Go.Proofs.YtaglmkjkmhpifaaDoor
