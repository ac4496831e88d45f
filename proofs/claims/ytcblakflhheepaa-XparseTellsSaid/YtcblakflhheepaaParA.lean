/- Chapter 30: a number's text: word.Parse. -/
import Derived.Test.YtcblakflhheepaaTagB
namespace Go.Proofs.Ytcblakflhheepaa
open Go.RowKit
set_option linter.unusedVariables false
set_option linter.unusedSimpArgs false

def digB (c : Int) : Bool := decide (48 ≤ c ∧ c ≤ 57)
theorem digit_any (c : Int) (w : World) : Calls Try.prog 109 #[.int .u8 c] w fun e w' => e = .returned (.bool (digB c)) ∧ w' = w := by
  go_enter Try.func109, Try.ntmps109
  go_wp2
  all_goals
    go_ret
    refine ⟨ret_bool ?_, rfl⟩
    rw [Bool.eq_iff_iff]; simp [digB]; try omega
theorem digit_is (c : Int) (v : Bool) (hv : digB c = v) (w : World) : Calls Try.prog 109 #[.int .u8 c] w fun e w' => e = .returned (.bool v) ∧ w' = w := by
  rw [← hv]; exact digit_any c w

set_option maxRecDepth 100000 in
set_option maxHeartbeats 2000000 in
theorem wrun_any (s : ByteArray) (hs : s.size ≤ 5000000) (w : World) :
    Calls Try.prog 108 #[.string s, .func (.func 109) #[] #[]] w fun e w' => e = .returned (.int .i64 (endB digB s 0 : Nat)) ∧ w' = w := by
  go_enter Try.func108, Try.ntmps108
  go_wp2
  go_loopw [5] (fun i wr => ∃ j : Nat, j ≤ s.size ∧ i = .int .i64 j ∧ endB digB s j = endB digB s 0 ∧ wr = w) (fun i _ => s.size - (intOf i).toNat)
  case atStart => exact ⟨0, Nat.zero_le _, rfl, rfl, rfl⟩
  case round =>
    obtain ⟨j, hj, rfl, he, rfl⟩ := hrel
    have HE := hide he
    clear he
    by_cases hlt : j < s.size
    · have t0 : decide ((j : Int) < (s.size : Int)) = true := by simp; omega
      have i2 : (j : Int).toNat = j := by omega
      obtain ⟨v, hv⟩ : ∃ v, isB digB s j = v := ⟨_, rfl⟩
      have hv2 : digB ((s[j]).toNat : Int) = v := by rw [← hv]; simp [isB, hlt, byt_eq hlt]
      have HV := hide hv2
      go_wp2_with (fail)
      refine (digit_is _ v HV.out _).mono ?_
      rintro e w1 ⟨rfl, rfl⟩
      cases v
      · have hE := hide (endB_stop hv)
        clear hv hv2
        go_wp2
        go_ret
        exact ⟨by rw [← HE.out, hE.out]; rfl, rfl⟩
      · obtain ⟨_, hE⟩ := endB_step hv
        have HE2 := hide hE
        clear hv hv2 hE
        go_wp2
        go_roundw
        case rel => exact ⟨j + 1, by omega, by go_num, by rw [HE2.out, HE.out], by first | rfl | trivial⟩
        case measure => simp [intOf]; omega
    · have t0 : decide ((j : Int) < (s.size : Int)) = false := by simp; omega
      have hv : isB digB s j = false := by simp [isB, hlt]
      have hE := hide (endB_stop hv)
      clear hv
      go_wp2
      go_ret
      exact ⟨by rw [← HE.out, hE.out]; rfl, rfl⟩

theorem wrun_is (s : ByteArray) (hs : s.size ≤ 5000000) (k : Nat) (hk : endB digB s 0 = k) (w : World) :
    Calls Try.prog 108 #[.string s, .func (.func 109) #[] #[]] w fun e w' => e = .returned (.int .i64 k) ∧ w' = w := by
  rw [← hk]; exact wrun_any s hs w

/-- The number that digits tell, if it is not too great. -/
def numF : List UInt8 → Int → Option Int
  | [], n => some n
  | c :: l, n => if (4611686018427387904 - ((c.toNat : Int) - 48)) / 10 < n then none else numF l (n * 10 + ((c.toNat : Int) - 48))
def formB (s : ByteArray) : Bool := !s.toList.isEmpty && decide (endB digB s 0 = s.size) && !(decide (1 < s.size) && decide (byt s 0 = 48))
/-- What Parse hands back. -/
def numP (s : ByteArray) : Int × Int := if formB s then (match numF s.data.toList 0 with | none => (0, 2) | some n => (n, 0)) else (0, 7)

theorem mem_tw {α : Type} {p : α → Bool} : ∀ {l : List α} {x : α}, x ∈ l.takeWhile p → p x = true
  | [], x, h => by simp at h
  | a :: l, x, h => by
    rw [List.takeWhile_cons] at h
    split at h
    · rename_i ha
      rcases List.mem_cons.1 h with rfl | h
      · exact ha
      · exact mem_tw h
    · simp at h
theorem all_dig {s : ByteArray} (h : endB digB s 0 = s.size) {k : Nat} {c : UInt8} (hc : s.data.toList[k]? = some c) : 48 ≤ (c.toNat : Int) ∧ (c.toNat : Int) ≤ 57 := by
  have h1 : (s.data.toList.takeWhile fun b => digB (b.toNat : Int)).length = s.data.toList.length := by
    have : s.data.toList.length = s.size := by simp
    rw [this, ← h]; simp [endB]
  have h2 : s.data.toList.takeWhile (fun b => digB (b.toNat : Int)) = s.data.toList := List.IsPrefix.eq_of_length (List.takeWhile_prefix _) h1
  have h3 := List.mem_of_getElem? hc
  rw [← h2] at h3
  have h4 := mem_tw h3
  simpa [digB] using h4
theorem numF_bd : ∀ (l : List UInt8) (n m : Int), (∀ c ∈ l, 48 ≤ (c.toNat : Int) ∧ (c.toNat : Int) ≤ 57) → 0 ≤ n → numF l n = some m → 0 ≤ m
  | [], n, m, _, hn, h => by simp [numF] at h; omega
  | c :: l, n, m, hc, hn, h => by
    unfold numF at h
    split at h
    · cases h
    · have := hc c (by simp)
      exact numF_bd l _ m (fun x hx => hc x (by simp [hx])) (by omega) h
set_option maxRecDepth 100000 in
set_option maxHeartbeats 4000000 in
theorem wparse_any (s : ByteArray) (hs : s.size ≤ 5000000) (w : World) :
    Calls Try.prog 102 #[.string s] w fun e w' => e = .returned (.tuple #[.int .i64 (numP s).1, .int .i64 (numP s).2]) ∧ w' = w := by
  have hle := endB_le digB s 0 (Nat.zero_le _)
  have hlen : s.data.toList.length = s.size := by simp
  go_enter Try.func102, Try.ntmps102
  go_upto_region 1 with (fail)
  go_cut [25] (fun c wx => c = .bool (!formB s) ∧ wx = w)
  case first =>
    cases he : s.toList.isEmpty
    · have hpos : 0 < s.size := by
        rcases Nat.eq_zero_or_pos s.size with h | h
        · have h2 : s.toList = s.data.toList := ByteArray.toList_eq s
          rw [h2, List.length_eq_zero_iff.1 (by omega : s.data.toList.length = 0)] at he
          simp at he
        · exact h
      by_cases hd : endB digB s 0 = s.size
      · by_cases h1 : 1 < s.size
        · have t1 : decide ((1 : Int) < (s.size : Int)) = true := by simp; omega
          have t1' : decide (1 < s.size) = true := by simp; omega
          by_cases h48 : ((s[0]).toNat : Int) = 48
          · have t2 : (((s[0]).toNat : Int) == 48) = true := by simpa using h48
            have hf := hide (show formB s = false by simp [formB, hd, h1, ← byt_eq hpos, h48])
            have HD := hide hd
            clear h48 hd h1
            go_wp2_with fail
            refine (wrun_is s hs s.size HD.out _).mono ?_
            rintro e w1 ⟨rfl, rfl⟩
            go_wp2_with fail
            go_meet
            exact ⟨by rw [hf.out]; rfl, by first | rfl | trivial⟩
          · have t2 : (((s[0]).toNat : Int) == 48) = false := by simpa using h48
            have hf := hide (show formB s = true by
              have : ¬ byt s 0 = 48 := by rw [← byt_eq hpos]; exact h48
              simp [formB, hd, h1, this, he])
            have HD := hide hd
            clear h48 hd h1
            go_wp2_with fail
            refine (wrun_is s hs s.size HD.out _).mono ?_
            rintro e w1 ⟨rfl, rfl⟩
            go_wp2_with fail
            go_meet
            exact ⟨by rw [hf.out]; rfl, by first | rfl | trivial⟩
        · have t1 : decide ((1 : Int) < (s.size : Int)) = false := by simp; omega
          have t1' : decide (1 < s.size) = false := by simp; omega
          have hf := hide (show formB s = true by simp [formB, hd, h1, he])
          have HD := hide hd
          clear hd h1
          go_wp2_with fail
          refine (wrun_is s hs s.size HD.out _).mono ?_
          rintro e w1 ⟨rfl, rfl⟩
          go_wp2_with fail
          go_meet
          exact ⟨by rw [hf.out]; rfl, by first | rfl | trivial⟩
      · have hf := hide (show formB s = false by simp [formB, hd])
        obtain ⟨k, hk⟩ : ∃ k, endB digB s 0 = k := ⟨_, rfl⟩
        rw [hk] at hd hle
        have t0 : decide ((k : Int) < (s.size : Int)) = true := by simp; omega
        have t0' : decide (k < s.size) = true := by simp; omega
        have HK := hide hk
        clear hd hk
        go_wp2_with fail
        refine (wrun_is s hs k HK.out _).mono ?_
        rintro e w1 ⟨rfl, rfl⟩
        go_wp2_with fail
        go_meet
        exact ⟨by rw [hf.out]; rfl, by first | rfl | trivial⟩
    · have hf := hide (show formB s = false by simp [formB, he])
      go_wp2_with fail
      go_meet
      exact ⟨by rw [hf.out]; rfl, by first | rfl | trivial⟩
  case rest =>
    obtain ⟨rfl, rfl⟩ := hcut
    cases hf : formB s
    · have hP := hide (show numP s = (0, 7) by simp [numP, hf])
      clear hf
      go_wp2
      go_ret2
      rw [hP.out]
      exact ⟨rfl, rfl⟩
    · have hP := hide (show numP s = (match numF s.data.toList 0 with | none => (0, 2) | some n => (n, 0)) by simp [numP, hf])
      have hd : endB digB s 0 = s.size := by
        simp only [formB, Bool.and_eq_true, decide_eq_true_eq] at hf
        exact hf.1.2
      have HD := hide hd
      clear hf hd
      go_wp2
      go_loopw [4, 28] (fun n i wr => ∃ (j : Nat) (m : Int), j ≤ s.size ∧ i = .int .i64 j ∧ n = .int .i64 m ∧ 0 ≤ m ∧ m ≤ 4611686018427387904 ∧ numF s.data.toList 0 = numF (s.data.toList.drop j) m ∧ wr = wc) (fun _ i _ => s.size - (intOf i).toNat)
      case atStart => exact ⟨0, 0, Nat.zero_le _, rfl, rfl, by omega, by omega, rfl, rfl⟩
      case round =>
        obtain ⟨j, m, hj, rfl, rfl, hm0, hm1, hN, rfl⟩ := hrel
        by_cases hlt : j < s.size
        · have hlt' : j < s.data.toList.length := by omega
          have hc0 : s.data.toList[j]? = some (s.data.toList[j]) := List.getElem?_eq_getElem hlt'
          have hcd := all_dig HD.out hc0
          have hcj : s.data.toList[j] = s[j] := rfl
          rw [hcj] at hcd
          have hN2 : numF s.data.toList 0 = if (4611686018427387904 - (((s[j]).toNat : Int) - 48)) / 10 < m then none else numF (s.data.toList.drop (j + 1)) (m * 10 + (((s[j]).toNat : Int) - 48)) := by
            rw [hN, List.drop_eq_getElem_cons hlt']; rfl
          obtain ⟨d, hdd⟩ : ∃ d : Int, ((s[j]).toNat : Int) - 48 = d := ⟨_, rfl⟩
          rw [hdd] at hN2
          have hd9 : 0 ≤ d ∧ d ≤ 9 := by omega
          have hmod : (((s[j]).toNat : Int) - 48) % 256 = d := by omega
          have HN := hide hN2
          have t0 : decide ((j : Int) < (s.size : Int)) = true := by simp; omega
          have i2 : (j : Int).toNat = j := by omega
          clear hN hN2 hc0 hcj hdd hcd
          by_cases ho : (4611686018427387904 - d) / 10 < m
          · have hnone := hide (show numF s.data.toList 0 = none by rw [HN.out, if_pos ho])
            have ho2 : decide ((4611686018427387904 - d) / 10 < m) = true := by simpa using ho
            go_wp2
            go_ret2
            rw [hP.out, hnone.out]
            exact ⟨rfl, rfl⟩
          · have hsome := hide (show numF s.data.toList 0 = numF (s.data.toList.drop (j + 1)) (m * 10 + d) by rw [HN.out, if_neg ho])
            have ho2 : decide ((4611686018427387904 - d) / 10 < m) = false := by simpa using ho
            have hm2 : m * 10 + d ≤ 4611686018427387904 := by
              omega
            have hm3 : 0 ≤ m * 10 + d := by omega
            go_wp2
            go_roundw
            case rel => exact ⟨j + 1, m * 10 + d, by omega, by go_num, by first | rfl | go_num, hm3, hm2, hsome.out, by first | rfl | trivial⟩
            case measure => simp [intOf]; omega
        · have hjj : j = s.size := by omega
          have hN2 : numF s.data.toList 0 = some m := by rw [hN, List.drop_eq_nil_of_le (by omega)]; rfl
          have HN := hide hN2
          have t0 : decide ((j : Int) < (s.size : Int)) = false := by simp; omega
          clear hN hN2
          go_wp2
          go_ret2
          rw [hP.out, HN.out]
          exact ⟨rfl, rfl⟩
end Go.Proofs.Ytcblakflhheepaa
