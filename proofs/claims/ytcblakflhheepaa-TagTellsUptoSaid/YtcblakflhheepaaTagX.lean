/- Chapter 41, the reference: Text; the law's few. -/
import Derived.Test.YtcblakflhheepaaTagV
import Derived.Test.YtcblakflhheepaaTagW
namespace Go.Proofs.Ytcblakflhheepaa
open Go.RowKit
set_option linter.unusedVariables false
set_option linter.unusedSimpArgs false

theorem bytes_of {s : ByteArray} {l : List UInt8} (h : s.data.toList = l) : s = ⟨l.toArray⟩ := by
  apply ByteArray.ext
  rw [← h]

set_option maxRecDepth 100000 in
set_option maxHeartbeats 8000000 in
theorem rtext_any (A : Option Addr) (cap : Nat) (L : List Ti) (B : Nat) (w : World) (hB : B ≤ w.heap.size) (h : RdI w B A L) (hl : L.length ≤ 1000000000000)
    (hla : ∀ t ∈ L, t.2.2.1.length ≤ 1000000000000 ∧ t.2.1.size ≤ 1000000000000 ∧ ∀ a ∈ t.2.2.1, a.1.size ≤ 1000000000000 ∧ a.2.1.size ≤ 1000000000000) (hw : (L.map wgt).sum ≤ 1000000000000) :
    Calls Try.prog 29 #[.slice A L.length cap] w fun e w' => e = .returned (.tuple #[.string (textOf L).1, .int .i64 (textOf L).2]) ∧ Below w.heap.size w w' := by
  go_enter Try.func29, Try.ntmps29
  go_wp2
  go_loopw [4, 5] (fun s i wr => ∃ (k : Nat) (str : ByteArray), k ≤ L.length ∧ i = .int .i64 k ∧ s = .string str ∧ str.data.toList = (L.take k).flatMap ttxt ∧ Below w.heap.size w wr ∧ (L.take k).all rgtB = true) (fun _ i _ => L.length - (intOf i).toNat)
  case atStart => exact ⟨0, _, Nat.zero_le _, rfl, rfl, rfl, Below.refl _ _, rfl⟩
  case round =>
    obtain ⟨k, str, hk, rfl, rfl, hstr, hb, hal⟩ := hrel
    have HAL := hide hal
    have HSTR := hide hstr
    clear hal hstr
    by_cases hlt : k < L.length
    · obtain ⟨t, ht⟩ := get_of_lt hlt
      obtain ⟨b, off, A', cap', rfl, hbB, c0, c1, c2, c3, hr0⟩ := h k t ht
      have hbw : b < w.heap.size := by omega
      replace c0 := (hb.cell (p := ⟨b, _, none⟩) hbw).trans c0
      replace c1 := (hb.cell (p := ⟨b, _, none⟩) hbw).trans c1
      replace c2 := (hb.cell (p := ⟨b, _, none⟩) hbw).trans c2
      replace c3 := (hb.cell (p := ⟨b, _, none⟩) hbw).trans c3
      obtain ⟨g1, g2, g3⟩ := hla t (List.mem_of_getElem? ht)
      have HT := hide ht
      have i0 : (0 : Int) ≤ (k : Int) := by omega
      have i1 : (k : Int) < (L.length : Int) := by omega
      obtain ⟨v, hv⟩ : ∃ v, rgtB t = v := ⟨_, rfl⟩
      have HV := hide hv
      have htk : (L.take (k + 1)).flatMap ttxt = (L.take k).flatMap ttxt ++ ttxt t := by rw [take_step ht]; simp
      have hak : (L.take (k + 1)).all rgtB = rgtB t := by rw [take_step ht]; simp [HAL.out]
      have HAK := hide hak
      have HTK := hide htk
      have hBr : B ≤ wr.heap.size := by have := hb.size; omega
      have hwk := take_wgt L k t ht
      rw [← HSTR.out] at hwk
      have hsl : str.data.toList.length = str.size := by simp
      rw [hsl] at hwk
      simp only [wgt] at hwk
      clear ht hv hak htk hsl
      obtain ⟨t1, t2, t3, t4⟩ := t
      dsimp only at c0 c1 c2 c3 hr0 g1 g2 g3 hwk
      have hT1 := Blk.new wr 91 #[.int .i64 t1, .string t2, .slice A' t3.length cap', .int .i64 t4]
      have hb1 := ((by repeat (first | exact Below.refl _ _ | refine Below.alloc ?_ (by first | (simp; omega) | simp | omega) _ | refine drewN_below ?_ _ | refine Below.drew ?_)) : Below wr.heap.size wr (wr.alloc (.cells #[.int .i64 t1, .string t2, .slice A' t3.length cap', .int .i64 t4] 91)))
      have hs1 : wr.heap.size < (wr.alloc (.cells #[.int .i64 t1, .string t2, .slice A' t3.length cap', .int .i64 t4] 91)).heap.size := by simp
      go_wp2_with (fail)
      have hw1 := hb.trans (hb1.mono hb.size)
      generalize wr.alloc (.cells #[.int .i64 t1, .string t2, .slice A' t3.length cap', .int .i64 t4] 91) = w1 at *
      refine (rright_is A' cap' (t1, t2, t3, t4) B v HV.out w1 (by omega) (hr0.below (hw1.mono hB)) g1 g3 g2).mono ?_
      rintro e w2 ⟨rfl, hb2⟩
      have hT2 := hT1.below hb2 hs1
      have hw2 := hw1.trans (hb2.mono hw1.size)
      clear hT1 hb1 hb2 c0 c1 c2 c3 hw1
      cases v with
      | false =>
        have hr' : textOf L = (⟨#[]⟩, 7) := by
          have : L.all rgtB = false := by
            rw [Bool.eq_false_iff]
            intro hq
            have := List.all_eq_true.1 hq _ (List.mem_of_getElem? HT.out)
            rw [HV.out] at this
            cases this
          simp [textOf, this]
        have HR := hide hr'
        clear hr'
        go_wp2_with (fail)
        go_ret2
        rw [HR.out]
        exact ⟨rfl, hw2⟩
      | true =>
        have hkd := rgtB_kind HV.out
        dsimp only at hkd
        have d0 := hT2.cell 0
        have d1 := hT2.cell 1
        simp at d0 d1
        obtain ⟨wo, hwo⟩ : ∃ wo : World, wo = wr := ⟨_, rfl⟩
        subst hwo
        have hTl2 := hT2.lt
        have hol : (opn t1).length ≤ 2 := by unfold opn; split <;> simp
        obtain ⟨op, hop⟩ : ∃ op, opn t1 = op := ⟨_, rfl⟩
        rw [hop] at hol
        have HOP := hide hop
        have hs2 : ((L.take k).flatMap ttxt).length = str.size := by rw [← HSTR.out]; simp
        obtain ⟨acc, hacc⟩ : ∃ acc, (L.take k).flatMap ttxt = acc := ⟨_, rfl⟩
        rw [hacc] at hs2
        have HS2 := hide hs2
        have HACC := hide hacc
        have HW := hide hwk
        have HOL := hide hol
        clear hop hs2 hacc hol
        rcases hkd with rfl | rfl | rfl
        all_goals
          have z1 : (⟨#[60]⟩ : ByteArray).size = 1 := rfl
          have z2 : (⟨#[47]⟩ : ByteArray).size = 1 := rfl
          go_wp2_with (fail)
          clear d0 d1
          go_loopw [4, 7] (fun s i wx => ∃ (j : Nat) (st : ByteArray), j ≤ t3.length ∧ i = .int .i64 j ∧ s = .string st ∧ st.data.toList = acc ++ (op ++ t2.data.toList ++ (t3.take j).flatMap atxt) ∧ Below w2.heap.size w2 wx) (fun _ i _ => t3.length - (intOf i).toNat)
          case atStart => exact ⟨0, _, Nat.zero_le _, rfl, rfl, by simp [opn, HSTR.out, ← HOP.out, ← HACC.out], Below.refl _ _⟩
          case round =>
            obtain ⟨j, st, hj, rfl, rfl, hst, hbx⟩ := hrel
            have HST := hide hst
            clear hst
            have hTx := hT2.below hbx hTl2
            have c2 := hTx.cell 2
            simp at c2
            have hwx := hw2.trans (hbx.mono hw2.size)
            by_cases hlt2 : j < t3.length
            · obtain ⟨x, hx⟩ := get_of_lt hlt2
              obtain ⟨b2, off2, hA2, hb22, e0, e1, e2⟩ := (hr0.below (hwx.mono hB)).ai hx
              subst hA2
              have htk2 : (t3.take (j + 1)).flatMap atxt = (t3.take j).flatMap atxt ++ atxt x := by rw [take_step hx]; simp
              have HTK2 := hide htk2
              have hwa := take_wgtA t3 j x hx
              simp only [wgtA] at hwa
              have hsz : st.size ≤ acc.length + 2 + t2.size + ((t3.take j).flatMap atxt).length := by
                have q1 : st.data.toList.length = st.size := by simp
                have q2 : t2.data.toList.length = t2.size := by simp
                have q3 := HOL.out
                have q4 := congrArg List.length HST.out
                simp only [List.length_append] at q4
                omega
              have hsz2 : st.size + (x.1.size + x.2.1.size + 4) ≤ 1000000000000 := by
                have := HS2.out
                have := HW.out
                omega
              have z3 : (⟨#[32]⟩ : ByteArray).size = 1 := rfl
              have z4 : (⟨#[61, 34]⟩ : ByteArray).size = 2 := rfl
              have z5 : (⟨#[34]⟩ : ByteArray).size = 1 := rfl
              clear hsz hwa
              have j0 : (0 : Int) ≤ (j : Int) := by omega
              have j1 : (j : Int) < (t3.length : Int) := by omega
              clear hx htk2
              go_wp2
              go_quiet (fail)
              go_wp2
              go_roundw
              case rel => exact ⟨j + 1, _, by omega, by go_num, rfl, by rw [HTK2.out]; simp [HST.out, atxt], (by have hsz := (hbx).size; repeat (first | with_reducible exact hbx | with_reducible refine Below.alloc ?_ (by first | (simp; omega) | simp | omega) _ | with_reducible refine drewN_below ?_ _ | with_reducible refine Below.drew ?_))⟩
              case measure => simp [intOf]; omega
            · have hjj : j = t3.length := by omega
              have hst2 := HST.out
              rw [hjj, List.take_length] at hst2
              have hsz : st.size ≤ acc.length + 2 + t2.size + (t3.map wgtA).sum := by
                have q1 : st.data.toList.length = st.size := by simp
                have q2 : t2.data.toList.length = t2.size := by simp
                have q3 := HOL.out
                have q4 := congrArg List.length hst2
                have q5 := flat_wgtA t3
                simp only [List.length_append] at q4
                omega
              have hsz2 : st.size + 3 ≤ 1000000000000 := by
                have := HS2.out
                have := HW.out
                omega
              have z6 : (⟨#[62, 10]⟩ : ByteArray).size = 2 := rfl
              have HST2 := hide hst2
              clear hst2 hjj hsz
              have d0 := hTx.cell 0
              simp at d0
              go_wp2
              go_roundw
              case rel => exact ⟨k + 1, _, by omega, by go_num, rfl, by rw [HTK.out]; simp [HST2.out, ttxt, cls, HOP.out, HACC.out], hwx, by rw [HAK.out, HV.out]⟩
              case measure => simp [intOf]; omega
    · have hkk : k = L.length := by omega
      have hr' : textOf L = (⟨(L.flatMap ttxt).toArray⟩, 0) := by
        have := HAL.out
        rw [hkk, List.take_length] at this
        simp [textOf, this]
      have hs2 := HSTR.out
      rw [hkk, List.take_length] at hs2
      have HR := hide (show (textOf L).1 = str ∧ (textOf L).2 = 0 from by rw [hr']; exact ⟨(bytes_of hs2).symm, rfl⟩)
      clear hr' hs2
      go_wp2
      go_ret2
      rw [HR.out.1, HR.out.2]
      exact ⟨rfl, hb⟩
end Go.Proofs.Ytcblakflhheepaa
