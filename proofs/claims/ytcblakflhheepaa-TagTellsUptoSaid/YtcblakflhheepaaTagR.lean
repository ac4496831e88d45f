/- Chapter 41: the law TagScans. -/
import Derived.Test.YtcblakflhheepaaTagQ
namespace Go.Proofs.Ytcblakflhheepaa
open Go.RowKit
set_option linter.unusedVariables false
set_option linter.unusedSimpArgs false

def cutS (s : ByteArray) : ByteArray := if 3000 < s.size then s.extract 0 3000 else s
theorem cutS_le (s : ByteArray) : (cutS s).size ≤ 3000 := by
  unfold cutS
  split
  · simp; omega
  · omega

set_option maxRecDepth 100000 in
set_option maxHeartbeats 8000000 in
theorem lawTagScans_any (s : ByteArray) (w : World) (hm : MaxL w) (hs : s.size ≤ maxLen) : Calls Try.prog 7 #[.string s] w fun e w' => e = .returned (.bool true) ∧ Below w.heap.size w w' := by
  clear hs
  go_enter Try.func7, Try.ntmps7
  go_upto_if 11 with (fail)
  go_cut [0] (fun v wx => v = .string (cutS s) ∧ Below w.heap.size w wx)
  case first =>
    by_cases hlt : 3000 < s.size
    · have t0 : decide ((3000 : Int) < (s.size : Int)) = true := by simp; omega
      have t1 : decide (3000 < s.size) = true := by simp; omega
      have i0 : (3000 : Int) ≤ (s.size : Int) := by omega
      have hc : cutS s = s.extract 0 3000 := by simp [cutS, hlt]
      have HC := hide hc
      clear hc
      go_wp2_with fail
      go_meet
      exact ⟨by rw [HC.out], Below.refl _ _⟩
    · have t0 : decide ((3000 : Int) < (s.size : Int)) = false := by simp; omega
      have t1 : decide (3000 < s.size) = false := by simp; omega
      have hc : cutS s = s := by simp [cutS, hlt]
      have HC := hide hc
      clear hc
      go_wp2_with fail
      go_meet
      exact ⟨by rw [HC.out], Below.refl _ _⟩
  case rest =>
    obtain ⟨rfl, hb⟩ := hcut
    have hl := cutS_le s
    generalize cutS s = s' at *
    have hp := hm.pos
    have hmc := hm.below hb hp
    go_wp2_with (fail)
    refine (Tags_any s' (by omega) _ hmc).mono ?_
    cases hr : tagsP s' with
    | error x =>
      obtain ⟨p, c⟩ := x
      rintro e w1 ⟨rfl, hb1⟩
      have hw1 := hb.trans (hb1.mono hb.size)
      clear hb1
      go_wp2_with (fail)
      refine (rTags_any s' (by omega) _).mono ?_
      rw [hr]
      rintro e w2 ⟨rfl, hb2⟩
      have hw2 := hw1.trans (hb2.mono hw1.size)
      have HR := hide hr
      clear hb2 hr
      go_wp2_with (fail)
      refine (Own_any none 0 [] 0 w2 (Nat.zero_le _) (RdI.nil _ _ _) (by simp) (by simp)).mono ?_
      rintro e w3 ⟨v, rows, rfl, hO, hM, hb3⟩
      obtain ⟨A, n, cap, rfl, -, -⟩ := hO.rd ric_len
      obtain ⟨hn, hR⟩ := rdI_ofI hO hM
      have hw3 := hw2.trans (hb3.mono hw2.size)
      simp at hn
      subst hn
      clear hO hM hb3
      go_wp2_with (fail)
      refine (same41_any A none cap 0 [] w3.heap.size w3 (Nat.le_refl _) hR (RdI.nil _ _ _) (by simp) (by simp)).mono ?_
      rintro e w4 ⟨rfl, hb4⟩
      have hw4 := hw3.trans (hb4.mono hw3.size)
      clear hb4 hR
      go_wp2_with (fail)
      refine (lives41_any w4 (hm.below hw4 hp)).mono ?_
      rintro e w5 ⟨rfl, hb5⟩
      have hw5 := hw4.trans (hb5.mono hw4.size)
      go_wp2
      go_ret
      exact ⟨rfl, hw5⟩
    | ok L =>
      rintro e w1 ⟨v, rows, rfl, hO, hM, hb1⟩
      obtain ⟨A, n, cap, rfl, -, -⟩ := hO.rd trc_len
      obtain ⟨hn, hR⟩ := rdI_of hO hM
      have hw1 := hb.trans (hb1.mono hb.size)
      have hlen := tagsP_len hr
      have hl1 : (L.map tOf).length ≤ 100000 := by simp; omega
      have hl2 : ∀ t ∈ L.map tOf, t.2.2.1.length ≤ 100000 := by
        intro t ht
        obtain ⟨y, hy, rfl⟩ := List.mem_map.1 ht
        have := hlen.2 y hy
        simp [tOf]; omega
      obtain ⟨L2, hL2⟩ : ∃ L2, L.map tOf = L2 := ⟨_, rfl⟩
      rw [hL2] at hn hR hl1 hl2
      have HEQ := hide hL2
      clear hL2
      subst hn
      have HL1 := hide hl1
      have HL2 := hide hl2
      have HR := hide hr
      have HLEN := hide hlen
      have HRD := hide hR
      clear hO hM hl1 hl2 hlen hr hR
      go_wp2_with (fail)
      refine (rTags_any s' (by omega) _).mono ?_
      rw [HR.out]
      rintro e w2 ⟨v2, rows2, rfl, hO2, hM2, hb2⟩
      obtain ⟨A2, n2, cap2, rfl, -, -⟩ := hO2.rd trc_len
      obtain ⟨hn2, hR2⟩ := rdI_of hO2 hM2
      rw [HEQ.out] at hn2 hR2
      have hw2 := hw1.trans (hb2.mono hw1.size)
      have HR' := hide (HRD.out.below hb2)
      have hs12 := hb2.size
      subst hn2
      have HRD2 := hide hR2
      clear hO2 hM2 hR2 HLEN HR hb2 hb1
      go_wp2_with (fail)
      refine (Own_any A cap L2 w1.heap.size w2 hs12 HR'.out HL1.out HL2.out).mono ?_
      rintro e w3 ⟨v3, rows3, rfl, hO3, hM3, hb3⟩
      obtain ⟨A3, n3, cap3, rfl, -, -⟩ := hO3.rd ric_len
      obtain ⟨hn3, hR3⟩ := rdI_ofI hO3 hM3
      have hw3 := hw2.trans (hb3.mono hw2.size)
      have hs23 := hb3.size
      subst hn3
      have HRD3 := hide hR3
      have HB3 := hide hb3
      clear hO3 hM3 hR3 hb3
      go_wp2_with (fail)
      refine (same41_any A3 A2 cap3 cap2 L2 w3.heap.size w3 (Nat.le_refl _) HRD3.out ((HRD2.out.below HB3.out).mono hs23) HL1.out HL2.out).mono ?_
      rintro e w4 ⟨rfl, hb4⟩
      have hw4 := hw3.trans (hb4.mono hw3.size)
      clear hb4
      go_wp2_with (fail)
      refine (lives41_any w4 (hm.below hw4 hp)).mono ?_
      rintro e w5 ⟨rfl, hb5⟩
      have hw5 := hw4.trans (hb5.mono hw4.size)
      go_wp2
      go_ret
      exact ⟨rfl, hw5⟩
end Go.Proofs.Ytcblakflhheepaa
