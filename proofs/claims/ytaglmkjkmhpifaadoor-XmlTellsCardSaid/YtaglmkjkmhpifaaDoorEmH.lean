/- Chapter 31, the reference: Emit. -/
import Derived.Test.YtaglmkjkmhpifaaDoorEmE
import Derived.Test.YtaglmkjkmhpifaaDoorEmF
import Derived.Test.YtaglmkjkmhpifaaDoorPoolD
namespace Go.Proofs.YtaglmkjkmhpifaaDoor
open Go.RowKit
set_option linter.unusedVariables false
set_option linter.unusedSimpArgs false

set_option maxRecDepth 100000 in
set_option maxHeartbeats 8000000 in
theorem rEmit_any (A : Option Addr) (cap : Nat) (p : Pl) (w : World) (h : RdD w w.heap.size A p.2.2.2.2) (hc : cntL p.2.2.2.2 ≤ 1000000) (hl : p.2.2.2.2.length ≤ 1000000) :
    Calls Tryd.prog 13 #[.agg #[.int .i64 p.1, .int .i64 p.2.1, .int .i64 p.2.2.1, .int .i64 p.2.2.2.1, .slice A p.2.2.2.2.length cap]] w fun e w' => e = .returned (.tuple #[.string (emitOf p).1, .int .i64 (emitOf p).2]) ∧ Below w.heap.size w w' := by
  obtain ⟨p1, p2, p3, p4, L⟩ := p
  dsimp only at h hc hl
  go_enter Tryd.func13, Tryd.ntmps13
  go_wp2_with (fail)
  have hP := Blk.new w 32 #[.int .i64 p1, .int .i64 p2, .int .i64 p3, .int .i64 p4, .slice A L.length cap]
  have hW : Below w.heap.size w (w.alloc (.cells #[.int .i64 p1, .int .i64 p2, .int .i64 p3, .int .i64 p4, .slice A L.length cap] 32)) := (by repeat (first | exact Below.refl _ _ | refine Below.alloc ?_ (by first | (simp; omega) | simp | omega) _ | refine drewN_below ?_ _ | refine Below.drew ?_))
  generalize w.alloc (.cells #[.int .i64 p1, .int .i64 p2, .int .i64 p3, .int .i64 p4, .slice A L.length cap] 32) = w1 at *
  have hsz1 := hW.size
  refine (rcheck_any A cap (p1, p2, p3, p4, L) w.heap.size w1 hsz1 (h.below hW) hc hl).mono ?_
  rintro e w2 ⟨rfl, hb2⟩
  have hP2 := hP.below hb2 hP.lt
  have hW2 := hW.trans (hb2.mono hsz1)
  obtain ⟨ev, hev⟩ : ∃ ev, chkE (p1, p2, p3, p4, L) = ev := ⟨_, rfl⟩
  rw [hev]
  have HEV := hide hev
  have c0 := hP2.cell 0
  have c1 := hP2.cell 1
  have c2 := hP2.cell 2
  have c3 := hP2.cell 3
  have c4 := hP2.cell 4
  simp at c0 c1 c2 c3 c4
  clear hP hb2 hev hW
  have hsz2 := hW2.size
  have hP2l := hP2.lt
  by_cases hz : ev = 0
  · subst hz
    obtain ⟨k1, k2, k3, k4, k5, k6, -, k8⟩ := chk_ok HEV.out
    dsimp only at k1 k2 k3 k4 k5 k6
    have HD := hide k8
    have hR := hide (show (emitOf (p1, p2, p3, p4, L)) = (⟨(poolL (p1, p2, p3, p4, L)).toArray⟩, 0) by simp [emitOf, HEV.out])
    have i5 : I64 (L.length : Int) := by unfold I64; omega
    have s1 : (namB ⟨#[116, 120]⟩ p1).size ≤ 100 := by have := namB_size ⟨#[116, 120]⟩ p1 k1; have z : (⟨#[116, 120]⟩ : ByteArray).size = 2 := rfl; omega
    have s2 : (namB ⟨#[116, 105, 109, 101]⟩ p2).size ≤ 100 := by have := namB_size ⟨#[116, 105, 109, 101]⟩ p2 k2; have z : (⟨#[116, 105, 109, 101]⟩ : ByteArray).size = 4 := rfl; omega
    have s3 : (namB ⟨#[117, 110, 105, 116]⟩ p3).size ≤ 100 := by have := namB_size ⟨#[117, 110, 105, 116]⟩ p3 k3; have z : (⟨#[117, 110, 105, 116]⟩ : ByteArray).size = 4 := rfl; omega
    have s4 : (namB ⟨#[100, 97, 116, 97]⟩ p4).size ≤ 100 := by have := namB_size ⟨#[100, 97, 116, 97]⟩ p4 k4; have z : (⟨#[100, 97, 116, 97]⟩ : ByteArray).size = 4 := rfl; omega
    have s5 : (namB ⟨#[100, 101, 118, 105, 99, 101, 115]⟩ (L.length : Int)).size ≤ 100 := by have := namB_size ⟨#[100, 101, 118, 105, 99, 101, 115]⟩ (L.length : Int) i5; have z : (⟨#[100, 101, 118, 105, 99, 101, 115]⟩ : ByteArray).size = 7 := rfl; omega
    have z1 : (⟨#[112, 111, 111, 108]⟩ : ByteArray).size = 4 := rfl
    have z2 : (⟨#[10]⟩ : ByteArray).size = 1 := rfl
    have q1 : ¬ 9223372036854775807 < 4 + (namB ⟨#[116, 120]⟩ p1).size := by omega
    have q2 : ¬ 9223372036854775807 < 4 + (namB ⟨#[116, 120]⟩ p1).size + (namB ⟨#[116, 105, 109, 101]⟩ p2).size := by omega
    have q3 : ¬ 9223372036854775807 < 4 + (namB ⟨#[116, 120]⟩ p1).size + (namB ⟨#[116, 105, 109, 101]⟩ p2).size + (namB ⟨#[117, 110, 105, 116]⟩ p3).size := by omega
    have q4 : ¬ 9223372036854775807 < 4 + (namB ⟨#[116, 120]⟩ p1).size + (namB ⟨#[116, 105, 109, 101]⟩ p2).size + (namB ⟨#[117, 110, 105, 116]⟩ p3).size + (namB ⟨#[100, 97, 116, 97]⟩ p4).size := by omega
    have q5 : ¬ 9223372036854775807 < 4 + (namB ⟨#[116, 120]⟩ p1).size + (namB ⟨#[116, 105, 109, 101]⟩ p2).size + (namB ⟨#[117, 110, 105, 116]⟩ p3).size + (namB ⟨#[100, 97, 116, 97]⟩ p4).size + (namB ⟨#[100, 101, 118, 105, 99, 101, 115]⟩ (L.length : Int)).size := by omega
    have q6 : ¬ 9223372036854775807 < 4 + (namB ⟨#[116, 120]⟩ p1).size + (namB ⟨#[116, 105, 109, 101]⟩ p2).size + (namB ⟨#[117, 110, 105, 116]⟩ p3).size + (namB ⟨#[100, 97, 116, 97]⟩ p4).size + (namB ⟨#[100, 101, 118, 105, 99, 101, 115]⟩ (L.length : Int)).size + 1 := by omega
    clear k8
    go_wp2_with (fail)
    go_region_held3 (fun w' => Below (w2.heap.size) (w2) w' ∧ (∀ b o, b < w2.heap.size → w'.cell? ⟨b, o, none⟩ = (w2).cell? ⟨b, o, none⟩) ∧ (∀ b o, b < w2.heap.size → w'.frozen? ⟨b, o, none⟩ = (w2).frozen? ⟨b, o, none⟩))
      (first | exact held_refl _ _ | exact held_drew | exact held_trans (by assumption) hb3 (Nat.le_refl _))
      (first | (go_at_call 28; refine (rnamed31_in w2.heap.size w2 _ _ (by decide) (by assumption) _ rfl _ (by first | exact Below.refl _ _ | exact (Below.refl _ _).drew | exact And.left (by assumption)) (Nat.le_refl _)).mono ?_; rintro e w3 ⟨rfl, hb3⟩))
    obtain ⟨hW3, -, -⟩ : Below w2.heap.size w2 w3 ∧ _ ∧ _ := by assumption
    have hP3 := hP2.below hW3 hP2l
    have hw3 : Below w.heap.size w w3 := hW2.trans (hW3.mono hsz2)
    obtain ⟨st, hst⟩ : ∃ st, (⟨#[112, 111, 111, 108]⟩ ++ namB ⟨#[116, 120]⟩ p1 ++ namB ⟨#[116, 105, 109, 101]⟩ p2 ++ namB ⟨#[117, 110, 105, 116]⟩ p3 ++ namB ⟨#[100, 97, 116, 97]⟩ p4 ++ namB ⟨#[100, 101, 118, 105, 99, 101, 115]⟩ (L.length : Int) ++ ⟨#[10]⟩) = st := ⟨_, rfl⟩
    have hstl : st.data.toList = lineL (poolW (p1, p2, p3, p4, L)) := by
      rw [← hst]
      simp [lineL, poolW, sepL, wtx, namB_list]
    have hsts : st.size ≤ 1000 := by
      rw [← hst]; simp only [ByteArray.size_append, z1, z2]; omega
    have HSTL := hide hstl
    rw [hst]
    have hs3 := hw3.size
    have hP3l := hP3.lt
    clear q1 q2 q3 q4 q5 q6 hb3 hst hstl z1 z2 s1 s2 s3 s4 s5 i5 k1 k2 k3 k4 c0 c1 c2 c3 c4
    go_wp2
    go_loopw [4, 5] (fun s i wr => ∃ (k : Nat) (str : ByteArray), k ≤ L.length ∧ i = .int .i64 k ∧ s = .string str ∧ str.data.toList = st.data.toList ++ (L.take k).flatMap devL ∧ Below w3.heap.size w3 wr) (fun _ i _ => L.length - (intOf i).toNat)
    case atStart => exact ⟨0, _, Nat.zero_le _, rfl, rfl, by simp, Below.refl _ _⟩
    case round =>
      obtain ⟨k, str, hk, rfl, rfl, hstr, hb⟩ := hrel
      have hdl := devs_len (L := L.take k) (fun d hd => HD.out d (List.mem_of_mem_take hd))
      have hcl := cntL_le L k
      have htl : (L.take k).length ≤ 4096 := by simp; omega
      have hssz : str.size ≤ 20000000 := by
        have h1 := congrArg List.length hstr
        have h2 : str.data.toList.length = str.size := by simp
        have h3 : st.data.toList.length = st.size := by simp
        simp only [List.length_append] at h1
        omega
      have HSTR := hide hstr
      have hPr := hP3.below hb hP3l
      have g4 := hPr.cell 4
      simp at g4
      have hbw := hw3.trans (hb.mono hs3)
      have hsr := hbw.size
      clear hstr hdl hcl htl
      by_cases hlt : k < L.length
      · obtain ⟨d, hd⟩ := get_of_lt hlt
        obtain ⟨b, off, A', cap', rfl, hbB, e0, e1, e2, e3, e4, hr⟩ := (h.below hbw) k d hd
        have hst2 : (L.take (k + 1)).flatMap devL = (L.take k).flatMap devL ++ devL d := by rw [take_step hd]; simp
        have hokd := HD.out d (List.mem_of_getElem? hd)
        have hdl := devL_len hokd
        have hcm := len_cntL hd
        have HST2 := hide hst2
        have HOK := hide hokd
        have hds : (⟨(devL d).toArray⟩ : ByteArray).size ≤ 20000000 := by
          have e : (⟨(devL d).toArray⟩ : ByteArray).size = (devL d).length := by simp [ByteArray.size]
          rw [e]; omega
        have i0 : (0 : Int) ≤ (k : Int) := by omega
        have i1 : (k : Int) < (L.length : Int) := by omega
        clear hst2 hd hokd hdl
        obtain ⟨ds, hds2⟩ : ∃ ds : ByteArray, (⟨(devL d).toArray⟩ : ByteArray) = ds := ⟨_, rfl⟩
        rw [hds2] at hds
        have HDS := hide hds2
        have hdev := rDevice_any A' cap' d wr (hr.mono hsr) HOK.out
        rw [hds2] at hdev
        have HDEV := hide hdev
        clear hds2 hdev
        obtain ⟨d1, d2, d3, d4, l⟩ := d
        dsimp only at e0 e1 e2 e3 e4
        go_wp2_with (fail)
        refine HDEV.out.mono ?_
        rintro e w5 ⟨rfl, hb5⟩
        have hb6 := hb.trans (hb5.mono hb.size)
        clear hb5 e0 e1 e2 e3 e4 g4
        go_wp2
        go_roundw
        case rel => exact ⟨k + 1, _, by omega, by go_num, rfl, by rw [HST2.out]; simp [HSTR.out, ← HDS.out], hb6⟩
        case measure => simp [intOf]; omega
      · have hkk : k = L.length := by omega
        have hs5 := HSTR.out
        rw [hkk, List.take_length] at hs5
        have z3 : (⟨#[101, 110, 100, 10]⟩ : ByteArray).size = 4 := rfl
        have HF := hide (show str ++ ⟨#[101, 110, 100, 10]⟩ = ⟨(poolL (p1, p2, p3, p4, L)).toArray⟩ from bytes_eq2 (by simp [hs5, poolL, HSTL.out]; rfl))
        clear hkk hs5
        go_wp2
        go_ret2
        rw [hR.out, HF.out]
        exact ⟨rfl, hbw⟩
  · have y0 : (ev != 0) = true := by simpa using hz
    have hR := hide (show (emitOf (p1, p2, p3, p4, L)) = (⟨#[]⟩, ev) by simp [emitOf, HEV.out, hz])
    have hag := rcheck_any A cap (p1, p2, p3, p4, L) w.heap.size w2 hsz2 (h.below hW2) hc hl
    rw [HEV.out] at hag
    have HAG := hide hag
    clear hz hag
    go_wp2_with (fail)
    refine HAG.out.mono ?_
    rintro e w3 ⟨rfl, hb3⟩
    have hw3 := hW2.trans (hb3.mono hsz2)
    go_wp2
    go_ret2
    rw [hR.out]
    exact ⟨rfl, hw3⟩
end Go.Proofs.YtaglmkjkmhpifaaDoor
