/- Chapter 31, the reference: the lines of a device. -/
import Derived.Test.YtaglmkjkmhpifaaDoorEmD
namespace Go.Proofs.YtaglmkjkmhpifaaDoor
open Go.RowKit
set_option linter.unusedVariables false
set_option linter.unusedSimpArgs false

theorem namB_size (s : ByteArray) (n : Int) (h : I64 n) : (namB s n).size ≤ s.size + 23 := by
  have := dig_len n h
  have z1 : (⟨#[32]⟩ : ByteArray).size = 1 := rfl
  simp only [namB, ByteArray.size_append, z1]
  omega
theorem namB_list (s : ByteArray) (n : Int) : (namB s n).data.toList = 32 :: (s.data.toList ++ 32 :: Lib.itoa n) := by
  simp [namB, dig_list]
theorem rdigits_in (N : Nat) (W : World) (n : Int) (h : I64 n) (s : ByteArray) (hs : dig n = s) (wz : World) (hz : Below N W wz) (hN : N ≤ W.heap.size) : Calls Tryd.prog 27 #[.int .i64 n] wz fun e w' => e = .returned (.string s) ∧ Below N wz w' :=
  (rdigits_any n h wz).mono fun e w' ⟨h1, h2⟩ => ⟨hs ▸ h1, h2.mono (by have := hz.size; omega)⟩
theorem rnamed31_in (N : Nat) (W : World) (t : ByteArray) (n : Int) (ht : t.size ≤ 1000) (h : I64 n) (s : ByteArray) (hs : namB t n = s) (wz : World) (hz : Below N W wz) (hN : N ≤ W.heap.size) : Calls Tryd.prog 28 #[.string t, .int .i64 n] wz fun e w' => e = .returned (.string s) ∧ Below N wz w' :=
  (rnamed31_any t n ht h wz).mono fun e w' ⟨h1, h2⟩ => ⟨hs ▸ h1, h2.mono (by have := hz.size; omega)⟩

set_option maxRecDepth 100000 in
set_option maxHeartbeats 8000000 in
theorem rDevice_any (A : Option Addr) (cap : Nat) (d : Dv) (w : World) (hr : Rd w w.heap.size 3 mc A d.2.2.2.2) (hok : okD d) :
    Calls Tryd.prog 10 #[.agg #[.int .i64 d.1, .int .i64 d.2.1, .int .i64 d.2.2.1, .int .i64 d.2.2.2.1, .slice A d.2.2.2.2.length cap]] w fun e w' => e = .returned (.string ⟨(devL d).toArray⟩) ∧ Below w.heap.size w w' := by
  obtain ⟨d1, d2, d3, d4, l⟩ := d
  have HOK := hide hok
  have hll := hok.2.2.2.2.2
  dsimp only at hr hll
  have s1 : (dig d1).size ≤ 100 := by have := dig_len d1 hok.1; omega
  have s2 : (namB ⟨#[116, 120]⟩ d2).size ≤ 100 := by have := namB_size ⟨#[116, 120]⟩ d2 hok.2.1; have z : (⟨#[116, 120]⟩ : ByteArray).size = 2 := rfl; omega
  have s3 : (namB ⟨#[109, 97, 100, 101]⟩ d3).size ≤ 100 := by have := namB_size ⟨#[109, 97, 100, 101]⟩ d3 hok.2.2.1; have z : (⟨#[109, 97, 100, 101]⟩ : ByteArray).size = 4 := rfl; omega
  have s4 : (namB ⟨#[115, 110, 97, 112, 112, 101, 100]⟩ d4).size ≤ 100 := by have := namB_size ⟨#[115, 110, 97, 112, 112, 101, 100]⟩ d4 hok.2.2.2.1; have z : (⟨#[115, 110, 97, 112, 112, 101, 100]⟩ : ByteArray).size = 7 := rfl; omega
  have i5 : I64 (l.length : Int) := by unfold I64; omega
  have s5 : (namB ⟨#[109, 97, 112, 115]⟩ (l.length : Int)).size ≤ 100 := by have := namB_size ⟨#[109, 97, 112, 115]⟩ (l.length : Int) i5; have z : (⟨#[109, 97, 112, 115]⟩ : ByteArray).size = 4 := rfl; omega
  have z1 : (⟨#[100, 101, 118, 105, 99, 101, 32]⟩ : ByteArray).size = 7 := rfl
  have z2 : (⟨#[10]⟩ : ByteArray).size = 1 := rfl
  have q1 : ¬ 9223372036854775807 < 7 + (dig d1).size := by omega
  have q2 : ¬ 9223372036854775807 < 7 + (dig d1).size + (namB ⟨#[116, 120]⟩ d2).size := by omega
  have q3 : ¬ 9223372036854775807 < 7 + (dig d1).size + (namB ⟨#[116, 120]⟩ d2).size + (namB ⟨#[109, 97, 100, 101]⟩ d3).size := by omega
  have q4 : ¬ 9223372036854775807 < 7 + (dig d1).size + (namB ⟨#[116, 120]⟩ d2).size + (namB ⟨#[109, 97, 100, 101]⟩ d3).size + (namB ⟨#[115, 110, 97, 112, 112, 101, 100]⟩ d4).size := by omega
  have q5 : ¬ 9223372036854775807 < 7 + (dig d1).size + (namB ⟨#[116, 120]⟩ d2).size + (namB ⟨#[109, 97, 100, 101]⟩ d3).size + (namB ⟨#[115, 110, 97, 112, 112, 101, 100]⟩ d4).size + (namB ⟨#[109, 97, 112, 115]⟩ (l.length : Int)).size := by omega
  have q6 : ¬ 9223372036854775807 < 7 + (dig d1).size + (namB ⟨#[116, 120]⟩ d2).size + (namB ⟨#[109, 97, 100, 101]⟩ d3).size + (namB ⟨#[115, 110, 97, 112, 112, 101, 100]⟩ d4).size + (namB ⟨#[109, 97, 112, 115]⟩ (l.length : Int)).size + 1 := by omega
  have i1 : I64 d1 := hok.1
  have i2 : I64 d2 := hok.2.1
  have i3 : I64 d3 := hok.2.2.1
  have i4 : I64 d4 := hok.2.2.2.1
  have hT := Blk.new w 24 #[.int .i64 d1, .int .i64 d2, .int .i64 d3, .int .i64 d4, .slice A l.length cap]
  have hbw : Below w.heap.size w (w.alloc (.cells #[.int .i64 d1, .int .i64 d2, .int .i64 d3, .int .i64 d4, .slice A l.length cap] 24)) := (by repeat (first | exact Below.refl _ _ | refine Below.alloc ?_ (by first | (simp; omega) | simp | omega) _ | refine drewN_below ?_ _ | refine Below.drew ?_))
  clear hok
  go_enter Tryd.func10, Tryd.ntmps10
  go_wp2_with (fail)
  generalize w.alloc (.cells #[.int .i64 d1, .int .i64 d2, .int .i64 d3, .int .i64 d4, .slice A l.length cap] 24) = w1 at *
  have hTl := hT.lt
  have c0 := hT.cell 0
  have c1 := hT.cell 1
  have c2 := hT.cell 2
  have c3 := hT.cell 3
  have c4 := hT.cell 4
  simp at c0 c1 c2 c3 c4
  have hN : w1.heap.size ≤ w1.heap.size := Nat.le_refl _
  go_region_held3 (fun w' => Below (w1.heap.size) (w1) w' ∧ (∀ b o, b < w1.heap.size → w'.cell? ⟨b, o, none⟩ = (w1).cell? ⟨b, o, none⟩) ∧ (∀ b o, b < w1.heap.size → w'.frozen? ⟨b, o, none⟩ = (w1).frozen? ⟨b, o, none⟩))
    (first | exact held_refl _ _ | exact held_drew | exact held_trans (by assumption) hb3 (Nat.le_refl _))
    (first | (go_at_call 27; refine (rdigits_in w1.heap.size w1 _ (by assumption) _ rfl _ (by first | exact Below.refl _ _ | exact (Below.refl _ _).drew | exact And.left (by assumption)) (Nat.le_refl _)).mono ?_; rintro e w3 ⟨rfl, hb3⟩) | (go_at_call 28; refine (rnamed31_in w1.heap.size w1 _ _ (by decide) (by assumption) _ rfl _ (by first | exact Below.refl _ _ | exact (Below.refl _ _).drew | exact And.left (by assumption)) (Nat.le_refl _)).mono ?_; rintro e w3 ⟨rfl, hb3⟩))
  obtain ⟨hW, -, -⟩ : Below w1.heap.size w1 w3 ∧ _ ∧ _ := by assumption
  have hT3 := hT.below hW hTl
  have hw3 : Below w.heap.size w w3 := hbw.trans (hW.mono (by omega))
  have hs3 := hw3.size
  have hr3 := (hr.below hw3).mono hs3
  have hmm : MildM l := fun m hm => ⟨(HOK.out.2.2.2.2.1 m hm).1, (HOK.out.2.2.2.2.1 m hm).2.1, (HOK.out.2.2.2.2.1 m hm).2.2.1, (HOK.out.2.2.2.2.1 m hm).2.2.2.1⟩
  have HM := hide hmm
  obtain ⟨st, hst⟩ : ∃ st, (⟨#[100, 101, 118, 105, 99, 101, 32]⟩ ++ dig d1 ++ namB ⟨#[116, 120]⟩ d2 ++ namB ⟨#[109, 97, 100, 101]⟩ d3 ++ namB ⟨#[115, 110, 97, 112, 112, 101, 100]⟩ d4 ++ namB ⟨#[109, 97, 112, 115]⟩ (l.length : Int) ++ ⟨#[10]⟩) = st := ⟨_, rfl⟩
  have hstl : st.data.toList = lineL (headW (d1, d2, d3, d4, l)) := by
    rw [← hst]
    simp [lineL, headW, sepL, wtx, namB_list, dig_list]
  have hsts : st.size ≤ 1000 := by
    rw [← hst]; simp only [ByteArray.size_append, z1, z2]; omega
  have HSTL := hide hstl
  clear q1 q2 q3 q4 q5 q6 c0 c1 c2 c3 hT hmm hb3 hr hbw
  have c5 := hT3.cell 4
  simp at c5
  rw [hst]
  have HST := hide hst
  clear hst hstl z1 z2 hN s1 s2 s3 s4 s5
  go_wp2_with (fail)
  refine (refof_any A cap l w3 hr3 HM.out hll).mono ?_
  rintro e w4 ⟨v, rfl, hO4, hb4⟩
  obtain ⟨A2, n2, cap2, rfl, hn2, -⟩ := hO4.rd rc_len
  subst hn2
  have hw4 := hw3.trans (hb4.mono hs3)
  have hs4 := hb4.size
  have hrl := runsOf_len l
  have hro : ∀ r ∈ runsOf l, I64 r.1 ∧ I64 r.2.1 ∧ I64 r.2.2.1 ∧ I64 r.2.2.2 := fun r hr => run_ok HOK.out.2.2.2.2.1 hll hr
  obtain ⟨rs, hrs⟩ : ∃ rs, runsOf l = rs := ⟨_, rfl⟩
  have hdv : devL (d1, d2, d3, d4, l) = lineL (headW (d1, d2, d3, d4, l)) ++ rs.flatMap runL := by rw [← hrs]; simp [devL]
  rw [← HSTL.out] at hdv
  rw [hrs] at hO4 hrl hro
  rw [hrs]
  obtain ⟨A3, n3, cap3, he, hn3, hrd⟩ := hO4.rd rc_len
  injection he with e1 e2 e3
  subst e1
  have HDV := hide hdv
  have HRO := hide hro
  clear hO4 hdv hro hrs hr3 hb4 c4 c5 hT3 hW e2 e3 hn3
  go_wp2
  go_loopw [3, 5] (fun s i wr => ∃ (k : Nat) (str : ByteArray), k ≤ rs.length ∧ i = .int .i64 k ∧ s = .string str ∧ str.data.toList = st.data.toList ++ (rs.take k).flatMap runL ∧ Below w4.heap.size w4 wr) (fun _ i _ => rs.length - (intOf i).toNat)
  case atStart => exact ⟨0, _, Nat.zero_le _, rfl, rfl, by simp, Below.refl _ _⟩
  case round =>
    obtain ⟨k, str, hk, rfl, rfl, hstr, hb⟩ := hrel
    have hpre := runs_len (l := rs.take k) (fun x hx => HRO.out x (List.mem_of_mem_take hx))
    have htl : (rs.take k).length ≤ 100000 := by simp; omega
    have hssz : str.size ≤ 20000000 := by
      have h1 := congrArg List.length hstr
      have h2 : str.data.toList.length = str.size := by simp
      have h3 : st.data.toList.length = st.size := by simp
      simp only [List.length_append] at h1
      omega
    have HSTR := hide hstr
    clear hstr hpre htl
    by_cases hlt : k < rs.length
    · obtain ⟨r, hx⟩ := get_of_lt hlt
      obtain ⟨b3, off3, hA3, hb3, g0, g1, g2, g3⟩ := (hrd.below hb).rn hx
      have hst2 : (rs.take (k + 1)).flatMap runL = (rs.take k).flatMap runL ++ runL r := by rw [take_step hx]; simp
      obtain ⟨j1, j2, j3, j4⟩ := HRO.out r (List.mem_of_getElem? hx)
      have HST2 := hide hst2
      subst hA3
      have k0 : (0 : Int) ≤ (k : Int) := by omega
      have k1 : (k : Int) < (rs.length : Int) := by omega
      have u1 := dig_len r.1 j1
      have u2 := dig_len r.2.1 j2
      have u3 := dig_len r.2.2.1 j3
      have u4 := dig_len r.2.2.2 j4
      clear hst2 hx
      obtain ⟨r1, r2, r3, r4⟩ := r
      dsimp only at g0 g1 g2 g3 j1 j2 j3 j4 u1 u2 u3 u4
      have z1 : (⟨#[109, 97, 112, 32]⟩ : ByteArray).size = 4 := rfl
      have z2 : (⟨#[10]⟩ : ByteArray).size = 1 := rfl
      have z3 : (⟨#[32]⟩ : ByteArray).size = 1 := rfl
      have q0 : ¬ 9223372036854775807 < str.size + 4 := by omega
      have q1 : ¬ 9223372036854775807 < str.size + 4 + (dig r1).size := by omega
      have q2 : ¬ 9223372036854775807 < str.size + 4 + (dig r1).size + 1 := by omega
      have q3 : ¬ 9223372036854775807 < str.size + 4 + (dig r1).size + 1 + (dig r2).size := by omega
      have q4 : ¬ 9223372036854775807 < str.size + 4 + (dig r1).size + 1 + (dig r2).size + 1 := by omega
      have q5 : ¬ 9223372036854775807 < str.size + 4 + (dig r1).size + 1 + (dig r2).size + 1 + (dig r3).size := by omega
      have q6 : ¬ 9223372036854775807 < str.size + 4 + (dig r1).size + 1 + (dig r2).size + 1 + (dig r3).size + 1 := by omega
      have q7 : ¬ 9223372036854775807 < str.size + 4 + (dig r1).size + 1 + (dig r2).size + 1 + (dig r3).size + 1 + (dig r4).size := by omega
      have q8 : ¬ 9223372036854775807 < str.size + 4 + (dig r1).size + 1 + (dig r2).size + 1 + (dig r3).size + 1 + (dig r4).size + 1 := by omega
      have hbr : b3 < wr.heap.size := by have := hb.size; omega
      go_wp2_with (fail)
      go_region_held3 (fun w' => Below (wr.heap.size) (wr) w' ∧ (∀ b o, b < wr.heap.size → w'.cell? ⟨b, o, none⟩ = (wr).cell? ⟨b, o, none⟩) ∧ (∀ b o, b < wr.heap.size → w'.frozen? ⟨b, o, none⟩ = (wr).frozen? ⟨b, o, none⟩))
        (first | exact held_refl _ _ | exact held_drew | exact held_trans (by assumption) hb5 (Nat.le_refl _))
        (first | (go_at_call 27; refine (rdigits_in wr.heap.size wr _ (by assumption) _ rfl _ (by first | exact Below.refl _ _ | exact (Below.refl _ _).drew | exact And.left (by assumption)) (Nat.le_refl _)).mono ?_; rintro e w5 ⟨rfl, hb5⟩))
      obtain ⟨hW, -, -⟩ : Below wr.heap.size wr w5 ∧ _ ∧ _ := by assumption
      have hb6 := hb.trans (hW.mono hb.size)
      clear q0 q1 q2 q3 q4 q5 q6 q7 q8 g0 g1 g2 g3 hb5 hW
      go_wp2
      go_roundw
      case rel => exact ⟨k + 1, _, by omega, by go_num, rfl, by rw [HST2.out]; simp [HSTR.out, runL, lineL, runW, sepL, wtx, dig_list], hb6⟩
      case measure => simp [intOf]; omega
    · have hkk : k = rs.length := by omega
      have hs5 := HSTR.out
      rw [hkk, List.take_length, ← HDV.out] at hs5
      have HF := hide hs5
      have hb6 := hw4.trans (hb.mono (by omega))
      clear hkk hs5
      go_wp2
      go_ret
      exact ⟨ret_str (bytes_eq2 (by rw [HF.out])), hb6⟩
end Go.Proofs.YtaglmkjkmhpifaaDoor
