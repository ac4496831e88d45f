/- Chapter 30: the reference's Parse of a number's text. -/
import Derived.Test.YtcblakflhheepaaRefN
namespace Go.Proofs.Ytcblakflhheepaa
open Go.RowKit
set_option linter.unusedVariables false
set_option linter.unusedSimpArgs false

theorem rdigit_any (c : Int) (w : World) : Calls Try.prog 103 #[.int .u8 c] w fun e w' => e = .returned (.bool (digB c)) ∧ w' = w := by
  go_enter Try.func103, Try.ntmps103
  go_wp2
  all_goals
    go_ret
    refine ⟨ret_bool ?_, rfl⟩
    rw [Bool.eq_iff_iff]; simp [digB]; try omega
theorem rdigit_is (c : Int) (v : Bool) (hv : digB c = v) (w : World) : Calls Try.prog 103 #[.int .u8 c] w fun e w' => e = .returned (.bool v) ∧ w' = w := by
  rw [← hv]; exact rdigit_any c w
theorem grt_is (a b : ByteArray) (v : Bool) (hv : grtB a b = v) (w : World) : Calls Try.prog 104 #[.string a, .string b] w fun e w' => e = .returned (.bool v) ∧ w' = w := by
  by_cases h : a.size = b.size
  · have t0 : ((a.size : Int) != (b.size : Int)) = false := by simp; omega
    have t1 : (a.size != b.size) = false := by simp [h]
    have HG := hide (show (!Op.bytesLess a.toList b.toList && !(a.toList == b.toList)) = v by rw [← hv]; unfold grtB; rw [if_neg (by simp [h]), Bool.not_or])
    clear hv
    go_enter Try.func104, Try.ntmps104
    go_wp2
    go_ret
    exact ⟨by rw [← HG.out]; rfl, by first | rfl | trivial⟩
  · have t0 : ((a.size : Int) != (b.size : Int)) = true := by simp; omega
    have t1 : (a.size != b.size) = true := by simp [h]
    have HG := hide (show decide (b.size < a.size) = v by rw [← hv]; unfold grtB; rw [if_pos h])
    clear hv
    go_enter Try.func104, Try.ntmps104
    go_wp2
    go_ret
    exact ⟨by rw [← HG.out]; rfl, by first | rfl | trivial⟩
theorem formB_dig {s : ByteArray} (h : formB s = true) : endB digB s 0 = s.size ∧ DigL s.data.toList ∧ ∃ c r, s.data.toList = c :: r ∧ (48 < c.toNat ∨ s.size ≤ 1) := by
  unfold formB at h
  simp only [Bool.and_eq_true, Bool.not_eq_true', decide_eq_true_eq, Bool.and_eq_false_iff, decide_eq_false_iff_not] at h
  obtain ⟨⟨h1, h2⟩, h3⟩ := h
  have hd : DigL s.data.toList := fun c hc => by
    obtain ⟨k, hk⟩ := List.getElem?_of_mem hc
    have := all_dig h2 hk
    omega
  refine ⟨h2, hd, ?_⟩
  rw [Lib.toList_data] at h1
  cases hl : s.data.toList with
  | nil => rw [hl] at h1; simp at h1
  | cons c r =>
    refine ⟨c, r, rfl, ?_⟩
    rcases h3 with h3 | h3
    · exact .inr (by omega)
    · left
      have hb : byt s 0 = (c.toNat : Int) := by unfold byt; rw [hl]; rfl
      rw [hb] at h3
      have := hd c (by rw [hl]; simp)
      omega
theorem numP_form {s : ByteArray} (h : formB s = false) : numP s = (0, 7) := by unfold numP; rw [h]; rfl
theorem numP_val {s : ByteArray} (h : formB s = true) : numP s = if 4611686018427387904 < valF s.data.toList 0 then (0, 2) else (valF s.data.toList 0, 0) := by
  obtain ⟨h1, h2, h3⟩ := formB_dig h
  unfold numP
  rw [if_pos h, numF_val h2 (by omega) (by omega)]
  by_cases hb : valF s.data.toList 0 ≤ 4611686018427387904
  · rw [if_pos hb, if_neg (by omega)]
  · rw [if_neg hb, if_pos (by omega)]
set_option maxRecDepth 100000 in
set_option maxHeartbeats 4000000 in
theorem rnum_any (s : ByteArray) (hs : s.size ≤ 5000000) (w : World) :
    Calls Try.prog 90 #[.string s] w fun e w' => e = .returned (.tuple #[.int .i64 (numP s).1, .int .i64 (numP s).2]) ∧ w' = w := by
  have hle := endB_le digB s 0 (Nat.zero_le _)
  have hlen : s.data.toList.length = s.size := by simp
  go_enter Try.func90, Try.ntmps90
  go_upto_region 1 with (fail)
  go_cut [18] (fun c wx => c = .bool (s.toList.isEmpty || (decide (1 < s.size) && decide (byt s 0 = 48))) ∧ wx = w)
  case first =>
    cases he : s.toList.isEmpty
    · have hpos : 0 < s.size := by
        rcases Nat.eq_zero_or_pos s.size with h | h
        · have h2 : s.toList = s.data.toList := ByteArray.toList_eq s
          rw [h2, List.length_eq_zero_iff.1 (by omega : s.data.toList.length = 0)] at he
          simp at he
        · exact h
      by_cases h48 : ((s[0]).toNat : Int) = 48
      · have t2 : (((s[0]).toNat : Int) == 48) = true := by simpa using h48
        by_cases h1 : 1 < s.size
        · have t1 : decide ((1 : Int) < (s.size : Int)) = true := by simp; omega
          have t1' : decide (1 < s.size) = true := by simp; omega
          have hf := hide (show (false || (decide (1 < s.size) && decide (byt s 0 = 48))) = true by simp [h1, ← byt_eq hpos, h48])
          clear h48 h1
          go_wp2_with fail
          go_meet
          exact ⟨by rw [he, hf.out], by first | rfl | trivial⟩
        · have t1 : decide ((1 : Int) < (s.size : Int)) = false := by simp; omega
          have t1' : decide (1 < s.size) = false := by simp; omega
          have hf := hide (show (false || (decide (1 < s.size) && decide (byt s 0 = 48))) = false by simp [h1])
          clear h48 h1
          go_wp2_with fail
          go_meet
          exact ⟨by rw [he, hf.out], by first | rfl | trivial⟩
      · have t2 : (((s[0]).toNat : Int) == 48) = false := by simpa using h48
        have hf := hide (show (false || (decide (1 < s.size) && decide (byt s 0 = 48))) = false by
          have : ¬ byt s 0 = 48 := by rw [← byt_eq hpos]; exact h48
          simp [this])
        clear h48
        go_wp2_with fail
        go_meet
        exact ⟨by rw [he, hf.out], by first | rfl | trivial⟩
    · go_wp2_with fail
      go_meet
      exact ⟨by rw [he]; rfl, by first | rfl | trivial⟩
  case rest =>
    obtain ⟨rfl, rfl⟩ := hcut
    obtain ⟨u, hu⟩ : ∃ u, (s.toList.isEmpty || (decide (1 < s.size) && decide (byt s 0 = 48))) = u := ⟨_, rfl⟩
    rw [hu]
    cases u with
    | true =>
      have hP := hide (numP_form (s := s) (by
        unfold formB
        simp only [Bool.or_eq_true] at hu
        rcases hu with h | h
        · rw [h]; rfl
        · rw [h]; simp))
      clear hu
      go_wp2
      go_ret2
      rw [hP.out]
      exact ⟨rfl, rfl⟩
    | false =>
      have hform : formB s = decide (endB digB s 0 = s.size) := by
        simp only [Bool.or_eq_false_iff] at hu
        unfold formB
        rw [hu.1, hu.2]
        simp
      have HF := hide hform
      clear hu hform
      go_wp2_with (fail)
      go_loopw [4] (fun i wr => ∃ j : Nat, j ≤ s.size ∧ i = .int .i64 j ∧ endB digB s j = endB digB s 0 ∧ wr = wc) (fun i _ => s.size - (intOf i).toNat)
      case atStart => exact ⟨0, Nat.zero_le _, rfl, rfl, rfl⟩
      case round =>
        obtain ⟨j, hj, rfl, he, rfl⟩ := hrel
        have HE := hide he
        clear he
        by_cases hlt : j < s.size
        · have t0 : decide ((j : Int) < (s.size : Int)) = true := by simp; omega
          have i2 : (j : Int).toNat = j := by omega
          obtain ⟨v, hv⟩ : ∃ v, isB digB s j = v := ⟨_, rfl⟩
          have hv2 : digB ((s[j]).toNat : Int) = v := by rw [← hv]; simp [isB, hlt, byt_eq hlt]
          have HV := hide hv2
          cases v
          · have hE := endB_stop hv
            have hP := hide (numP_form (s := s) (by rw [HF.out, ← HE.out, hE]; simp; omega))
            clear hv hv2 hE
            go_wp2_with (fail)
            refine (rdigit_is _ _ HV.out _).mono ?_
            rintro e w1 ⟨rfl, rfl⟩
            go_wp2
            go_ret2
            rw [hP.out]
            exact ⟨rfl, rfl⟩
          · obtain ⟨_, hE⟩ := endB_step hv
            have HE2 := hide hE
            clear hv hv2 hE
            go_wp2_with (fail)
            refine (rdigit_is _ _ HV.out _).mono ?_
            rintro e w1 ⟨rfl, rfl⟩
            go_wp2
            go_roundw
            case rel => exact ⟨j + 1, by omega, by go_num, by rw [HE2.out, HE.out], by first | rfl | trivial⟩
            case measure => simp [intOf]; omega
        · have t0 : decide ((j : Int) < (s.size : Int)) = false := by simp; omega
          have hv : isB digB s j = false := by simp [isB, hlt]
          have hE := endB_stop hv
          have hform : formB s = true := by
            rw [HF.out, ← HE.out, hE]
            simp; omega
          obtain ⟨hd1, hd2, hd3⟩ := formB_dig hform
          have hg := grt_val hd2 hd3
          have hval := numP_val hform
          have HD := hide hd2
          obtain ⟨V, hV⟩ : ∃ V, valF s.data.toList 0 = V := ⟨_, rfl⟩
          rw [hV] at hg hval
          have HVV := hide hV
          clear hv hE hform hd1 hd2 hd3 hV
          by_cases hbig : 4611686018427387904 < V
          · have hP := hide (hval.trans (if_pos hbig))
            rw [decide_eq_true hbig] at hg
            have HG := hide hg
            clear hval hg
            go_wp2_with (fail)
            refine (grt_is s sMost true HG.out _).mono ?_
            rintro e w1 ⟨rfl, rfl⟩
            go_wp2
            go_ret2
            rw [hP.out]
            exact ⟨rfl, rfl⟩
          · have hP := hide (hval.trans (if_neg hbig))
            rw [decide_eq_false hbig] at hg
            have HG := hide hg
            clear hval hg
            go_wp2_with (fail)
            refine (grt_is s sMost false HG.out _).mono ?_
            rintro e w1 ⟨rfl, rfl⟩
            go_wp2_with (fail)
            go_loopw [5, 6] (fun n i wr => ∃ (j : Nat) (m : Int), j ≤ s.size ∧ i = .int .i64 j ∧ n = .int .i64 m ∧ 0 ≤ m ∧ valF (s.data.toList.drop j) m = V ∧ wr = w1) (fun _ i _ => s.size - (intOf i).toNat)
            case atStart => exact ⟨0, 0, Nat.zero_le _, rfl, rfl, by omega, HVV.out, rfl⟩
            case round =>
              obtain ⟨k, m, hk, rfl, rfl, hm0, hval, rfl⟩ := hrel
              by_cases hlt2 : k < s.size
              · have hlt' : k < s.data.toList.length := by omega
                have hc0 : s.data.toList[k]? = some (s.data.toList[k]) := List.getElem?_eq_getElem hlt'
                have hcd := HD.out _ (List.mem_of_getElem? hc0)
                have hcj : s.data.toList[k] = s[k] := rfl
                rw [hcj] at hcd
                have hv2 : valF (s.data.toList.drop (k + 1)) (m * 10 + (((s[k]).toNat : Int) - 48)) = V := by
                  rw [← hval, List.drop_eq_getElem_cons hlt']; rfl
                have hge : m * 10 + (((s[k]).toNat : Int) - 48) ≤ V := by
                  rw [← hv2]
                  exact valF_ge (fun c hc => HD.out c (List.mem_of_mem_drop hc)) (by omega)
                obtain ⟨d, hdd⟩ : ∃ d : Int, ((s[k]).toNat : Int) = d := ⟨_, rfl⟩
                rw [hdd] at hv2 hge
                have hd9 : 48 ≤ d ∧ d ≤ 57 := by omega
                have HV2 := hide hv2
                have t0 : decide ((k : Int) < (s.size : Int)) = true := by simp; omega
                have i2 : (k : Int).toNat = k := by omega
                have k1 : IntKind.i64.wrap (10 * m) = 10 * m := IntWalk.i64_in _ (by omega)
                have k2 : IntKind.i64.wrap (10 * m + d) = 10 * m + d := IntWalk.i64_in _ (by omega)
                have k3 : IntKind.i64.wrap (10 * m + d - 48) = 10 * m + d - 48 := IntWalk.i64_in _ (by omega)
                clear hval hv2 hc0 hcj hcd
                go_wp2
                go_roundw
                case rel => exact ⟨k + 1, 10 * m + d - 48, by omega, by go_num, by first | rfl | go_num, by omega, by rw [← HV2.out]; congr 1; omega, by first | rfl | trivial⟩
                case measure => simp [intOf]; omega
              · have hN : V = m := by rw [← hval, List.drop_eq_nil_of_le (by omega)]; rfl
                have t0 : decide ((k : Int) < (s.size : Int)) = false := by simp; omega
                have HN := hide hN
                clear hval hN
                go_wp2
                go_ret2
                rw [hP.out, HN.out]
                exact ⟨rfl, rfl⟩
end Go.Proofs.Ytcblakflhheepaa
