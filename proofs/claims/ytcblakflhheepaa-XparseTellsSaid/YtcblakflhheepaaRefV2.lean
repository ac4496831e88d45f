/- Chapter 43: the reference's device: its numbers. -/
import Derived.Test.YtcblakflhheepaaRefV6
namespace Go.Proofs.Ytcblakflhheepaa
open Go.RowKit
set_option linter.unusedVariables false
set_option linter.unusedSimpArgs false

set_option maxRecDepth 100000 in
set_option maxHeartbeats 8000000 in
theorem rdev2 {X Tb : Nat} {r : Rh} {L : List Ti} {sum kd at_ : Int} {ats : List Ai} {A' A2 : Option Addr} {cap' c2 : Nat} {devs : List Dv} {w : World} {wc : World} {R : Except (Int × Int) (List Dv × Int × List Ti)}
    {u1 u3 u4 u5 u6 u7 u8 u9 u10 u11 u12 u13 u14 u15 u16 u17 u18 u19 u20 u21 u22 u23 u24 u25 u26 u27 u28 u29 u30 u31 u32 u33 u34 u35 u36 u37 u38 u39 u40 u41 u42 u43 u44 u45 u46 u47 u48 u49 u50 u51 u52 u53 u54 u55 u56 u57 u58 u59 u60 u61 u62 u63 u64 u65 u66 u67 u68 u69 u70 u71 u72 u73 u74 u75 u76 u77 u78 u79 u80 u81 u82 u83 u84 u85 u86 u87 u88 u89 u90 u91 u92 u93 u94 u95 u96 u97 u98 u99 u100 u101 u102 u103 u104 u105 u106 u107 u108 u109 u110 u111 u112 u113 u114 u115 u116 u117 u118 u119 u120 u121 : Value} (hX : Blk wc X RSt (rst { r with lv := .slice A2 L.length c2, sum := sum, e := 0 })) (hT : Blk wc Tb RTg #[.int .i64 kd, .string sDevice, .slice A' ats.length cap', .int .i64 at_]) (hI : RdI wc X A2 L) (hV : RDev X wc r.dv devs) (hb : Below X w wc) (hr : Rd wc X 3 aic A' ats)
    (hc2 : L.length ≤ c2) (hXT : X < Tb) (hTM : TMild ((kd, sDevice, ats, at_) :: L)) (hda : 0 ≤ r.da ∧ r.da ≤ 65536) (hsm : 0 ≤ sum ∧ sum ≤ 16384) (hdlen : devs.length ≤ 5000000) (hkd : kd = 1 ∨ kd = 3)
    (hR : R = devX r.N r.da devs sum (kd, sDevice, ats, at_) L) :
    Code.wp Try.prog (sdrop 2 dvBody) (bodyPost Try.prog Try.f53 (RDevOut X r w R)) ⟨(.pointer (some ⟨X, 0, none⟩) :: u1 :: .pointer (some ⟨Tb, 0, none⟩) :: u3 :: u4 :: u5 :: u6 :: u7 :: u8 :: u9 :: u10 :: u11 :: u12 :: u13 :: u14 :: u15 :: u16 :: u17 :: u18 :: u19 :: u20 :: u21 :: u22 :: u23 :: u24 :: u25 :: u26 :: u27 :: u28 :: u29 :: u30 :: u31 :: u32 :: u33 :: u34 :: u35 :: u36 :: u37 :: u38 :: u39 :: u40 :: u41 :: u42 :: u43 :: u44 :: u45 :: u46 :: u47 :: u48 :: u49 :: u50 :: u51 :: u52 :: u53 :: u54 :: u55 :: u56 :: u57 :: u58 :: u59 :: u60 :: u61 :: u62 :: u63 :: u64 :: u65 :: u66 :: u67 :: u68 :: u69 :: u70 :: u71 :: u72 :: u73 :: u74 :: u75 :: u76 :: u77 :: u78 :: u79 :: u80 :: u81 :: u82 :: u83 :: u84 :: u85 :: u86 :: u87 :: u88 :: u89 :: u90 :: u91 :: u92 :: u93 :: u94 :: u95 :: u96 :: u97 :: u98 :: u99 :: u100 :: u101 :: u102 :: u103 :: u104 :: u105 :: u106 :: u107 :: u108 :: u109 :: u110 :: u111 :: u112 :: u113 :: u114 :: u115 :: u116 :: u117 :: u118 :: u119 :: u120 :: u121 :: ([] : List Value)).toArray, []⟩ wc := by
  have HEQ := hide hR
  have HTL := hide (show TMild L from hTM.sub (by simp) (fun t ht => List.mem_cons_of_mem _ ht))
  have HTM := hide hTM
  clear hR hTM
  have hXl := hX.lt
  have hTl := hT.lt
  have t0 := hT.cell 0
  have t1 := hT.cell 1
  have t2 := hT.cell 2
  have t3 := hT.cell 3
  simp at t0 t1 t2 t3
  have hX5 : Blk (((wc.alloc (.cells #[.string sId, .string sMapped, .string sTx, .string sMade, .string sSnap] 9)).alloc (.cells #[.int .i64 0, .int .i64 0, .int .i64 0, .int .i64 0, .int .i64 0] 3)).alloc (.cells #[.int .i64 16777215, .int .i64 16384, .int .i64 2147483647, .int .i64 16777215, .int .i64 16777215] 3)) X RSt (rst { r with lv := .slice A2 L.length c2, sum := sum, e := 0 }) := ((hX.alloc (.cells #[.string sId, .string sMapped, .string sTx, .string sMade, .string sSnap] 9)).alloc (.cells #[.int .i64 0, .int .i64 0, .int .i64 0, .int .i64 0, .int .i64 0] 3)).alloc (.cells #[.int .i64 16777215, .int .i64 16384, .int .i64 2147483647, .int .i64 16777215, .int .i64 16777215] 3)
  have hT5 : Blk (((wc.alloc (.cells #[.string sId, .string sMapped, .string sTx, .string sMade, .string sSnap] 9)).alloc (.cells #[.int .i64 0, .int .i64 0, .int .i64 0, .int .i64 0, .int .i64 0] 3)).alloc (.cells #[.int .i64 16777215, .int .i64 16384, .int .i64 2147483647, .int .i64 16777215, .int .i64 16777215] 3)) Tb RTg #[.int .i64 kd, .string sDevice, .slice A' ats.length cap', .int .i64 at_] := ((hT.alloc (.cells #[.string sId, .string sMapped, .string sTx, .string sMade, .string sSnap] 9)).alloc (.cells #[.int .i64 0, .int .i64 0, .int .i64 0, .int .i64 0, .int .i64 0] 3)).alloc (.cells #[.int .i64 16777215, .int .i64 16384, .int .i64 2147483647, .int .i64 16777215, .int .i64 16777215] 3)
  have hn5 : Blk (((wc.alloc (.cells #[.string sId, .string sMapped, .string sTx, .string sMade, .string sSnap] 9)).alloc (.cells #[.int .i64 0, .int .i64 0, .int .i64 0, .int .i64 0, .int .i64 0] 3)).alloc (.cells #[.int .i64 16777215, .int .i64 16384, .int .i64 2147483647, .int .i64 16777215, .int .i64 16777215] 3)) wc.heap.size 9 (((kDevice.map (·.1)).map fun x => Value.string x).toArray) := ((show Blk (wc.alloc (.cells #[.string sId, .string sMapped, .string sTx, .string sMade, .string sSnap] 9)) wc.heap.size _ _ from heap_new_at rfl).alloc (.cells #[.int .i64 0, .int .i64 0, .int .i64 0, .int .i64 0, .int .i64 0] 3)).alloc (.cells #[.int .i64 16777215, .int .i64 16384, .int .i64 2147483647, .int .i64 16777215, .int .i64 16777215] 3)
  have hl5 : Blk (((wc.alloc (.cells #[.string sId, .string sMapped, .string sTx, .string sMade, .string sSnap] 9)).alloc (.cells #[.int .i64 0, .int .i64 0, .int .i64 0, .int .i64 0, .int .i64 0] 3)).alloc (.cells #[.int .i64 16777215, .int .i64 16384, .int .i64 2147483647, .int .i64 16777215, .int .i64 16777215] 3)) (wc.heap.size + 1) 3 (((kDevice.map (·.2.1)).map fun x => Value.int .i64 x).toArray) := (show Blk ((wc.alloc (.cells #[.string sId, .string sMapped, .string sTx, .string sMade, .string sSnap] 9)).alloc (.cells #[.int .i64 0, .int .i64 0, .int .i64 0, .int .i64 0, .int .i64 0] 3)) (wc.heap.size + 1) _ _ from heap_new_at (by simp)).alloc (.cells #[.int .i64 16777215, .int .i64 16384, .int .i64 2147483647, .int .i64 16777215, .int .i64 16777215] 3)
  have hh5 : Blk (((wc.alloc (.cells #[.string sId, .string sMapped, .string sTx, .string sMade, .string sSnap] 9)).alloc (.cells #[.int .i64 0, .int .i64 0, .int .i64 0, .int .i64 0, .int .i64 0] 3)).alloc (.cells #[.int .i64 16777215, .int .i64 16384, .int .i64 2147483647, .int .i64 16777215, .int .i64 16777215] 3)) (wc.heap.size + 1 + 1) 3 (((kDevice.map (·.2.2)).map fun x => Value.int .i64 x).toArray) := heap_new_at (by simp)
  have hbw : Below X wc (((wc.alloc (.cells #[.string sId, .string sMapped, .string sTx, .string sMade, .string sSnap] 9)).alloc (.cells #[.int .i64 0, .int .i64 0, .int .i64 0, .int .i64 0, .int .i64 0] 3)).alloc (.cells #[.int .i64 16777215, .int .i64 16384, .int .i64 2147483647, .int .i64 16777215, .int .i64 16777215] 3)) := (((Below.refl X wc).alloc (by omega) (.cells #[.string sId, .string sMapped, .string sTx, .string sMade, .string sSnap] 9)).alloc (by simp; omega) (.cells #[.int .i64 0, .int .i64 0, .int .i64 0, .int .i64 0, .int .i64 0] 3)).alloc (by simp; omega) (.cells #[.int .i64 16777215, .int .i64 16384, .int .i64 2147483647, .int .i64 16777215, .int .i64 16777215] 3)
  have hb5 := hb.trans hbw
  have hV5 : RDev X (((wc.alloc (.cells #[.string sId, .string sMapped, .string sTx, .string sMade, .string sSnap] 9)).alloc (.cells #[.int .i64 0, .int .i64 0, .int .i64 0, .int .i64 0, .int .i64 0] 3)).alloc (.cells #[.int .i64 16777215, .int .i64 16384, .int .i64 2147483647, .int .i64 16777215, .int .i64 16777215] 3)) r.dv devs := by
    obtain ⟨rows, h1, h2⟩ := hV
    exact ⟨rows, ((h1.alloc (.cells #[.string sId, .string sMapped, .string sTx, .string sMade, .string sSnap] 9)).alloc (.cells #[.int .i64 0, .int .i64 0, .int .i64 0, .int .i64 0, .int .i64 0] 3)).alloc (.cells #[.int .i64 16777215, .int .i64 16384, .int .i64 2147483647, .int .i64 16777215, .int .i64 16777215] 3), h2.keep fun r' _ l hl => ((hl.alloc (.cells #[.string sId, .string sMapped, .string sTx, .string sMade, .string sSnap] 9)).alloc (.cells #[.int .i64 0, .int .i64 0, .int .i64 0, .int .i64 0, .int .i64 0] 3)).alloc (.cells #[.int .i64 16777215, .int .i64 16384, .int .i64 2147483647, .int .i64 16777215, .int .i64 16777215] 3)⟩
  have hs5 : wc.heap.size + 3 = (((wc.alloc (.cells #[.string sId, .string sMapped, .string sTx, .string sMade, .string sSnap] 9)).alloc (.cells #[.int .i64 0, .int .i64 0, .int .i64 0, .int .i64 0, .int .i64 0] 3)).alloc (.cells #[.int .i64 16777215, .int .i64 16384, .int .i64 2147483647, .int .i64 16777215, .int .i64 16777215] 3)).heap.size := by simp
  generalize hW5 : (((wc.alloc (.cells #[.string sId, .string sMapped, .string sTx, .string sMade, .string sSnap] 9)).alloc (.cells #[.int .i64 0, .int .i64 0, .int .i64 0, .int .i64 0, .int .i64 0] 3)).alloc (.cells #[.int .i64 16777215, .int .i64 16384, .int .i64 2147483647, .int .i64 16777215, .int .i64 16777215] 3)) = w5 at *
  have hI5 := hI.below hbw
  have hr5 := (hr.below hbw).mono (show X ≤ w5.heap.size by omega)
  have HC := hide (rnumbers_any X _ (kd, sDevice, ats, at_) kDevice A' (some ⟨wc.heap.size, 0, none⟩) (some ⟨wc.heap.size + 1, 0, none⟩) (some ⟨wc.heap.size + 1 + 1, 0, none⟩) cap' 5 5 5 false w5 hX5 rfl (by decide) (by decide)
    hr5 (HTM.out.2 _ (by simp)).1 (HTM.out.2 _ (by simp)).2 (rd_blk (v := fun x : ByteArray => Value.string x) hn5) (rd_blk (v := fun x : Int => Value.int .i64 x) hl5) (rd_blk (v := fun x : Int => Value.int .i64 x) hh5) isSup_d)
  have HX5 := hide hX5; have HT5 := hide hT5; have HI5 := hide hI5; have HV5 := hide hV5; have HB5 := hide hb5
  have HW5 := hide hW5
  have hcc := HC.out
  dsimp only at hcc
  obtain ⟨Rn, hRR⟩ : ∃ Rn, numsL false kDevice at_ ats [] = Rn := ⟨_, rfl⟩
  rw [hRR] at hcc
  have HCC := hide hcc
  have HRR := hide hRR
  clear hX5 hT5 hn5 hl5 hh5 hb5 hI5 hV5 hr5 HC hcc hRR hW5 hX hT hI hV hb hr hbw
  conv => arg 2; whnf
  go_wp2_with (fail)
  rw [HW5.out]
  refine HCC.out.mono ?_
  rintro e w6 hN
  obtain ⟨g, m0, m1, m2, m3, m4, rfl, n0, n2, n3, n4, hgl, ce, pe, hst, hS⟩ := DvS.start hN HX5.out hc2 HI5.out HT5.out HV5.out HB5.out hXT (fun p c h => by have := (numsL_err (HRR.out.trans h)).1; omega)
  have HST := hide (show (ce ≠ 0 ∧ R = .error (pe, ce)) ∨ (ce = 0 ∧ ∃ o, numsL false kDevice at_ ats [] = .ok o ∧ [m0, m1, m2, m3, m4] = kDevice.map fun x => gv o x.1) from by
    rcases hst with ⟨h1, h2⟩ | ⟨h1, o, h2, h3⟩
    · exact .inl ⟨h1, by rw [HEQ.out]; unfold devX; dsimp only; rw [HRR.out, h2]⟩
    · exact .inr ⟨h1, o, HRR.out.trans h2, h3⟩)
  clear hN hst HCC HX5 HT5 HI5 HV5 HB5 HW5 HRR t0 t1 t2 t3
  go_wp2_with (fail)
  go_region
  generalize hW8 : (w6.alloc (.cells #[.int .i64 m0, .int .i64 m2, .int .i64 m3, .int .i64 m4, .slice none 0 0] 123)).drew = w8 at *
  obtain ⟨D, hDD⟩ : ∃ D, w6.heap.size = D := ⟨_, rfl⟩
  rw [hDD] at hS ⊢
  clear hW8 hDD n0 n2 n3 n4 hgl
  obtain ⟨hXl8, hDl8, hTl8, hGl8, d0, d4, t0, t3, n1, x6, x8⟩ := hS.cells
  obtain ⟨Ad, cd, hdv, hdl⟩ := hS.dv
  rw [hdv] at x6
  clear hdl d0 d4 t0 n1 x8
  obtain ⟨u, hu⟩ : ∃ u, decide ((4096 : Int) ≤ (devs.length : Int)) = u := ⟨_, rfl⟩
  go_upto_if 47 with (fail)
  go_cut [] (fun wx => ∃ ce pe, DvS X D Tb g r L sum kd at_ (.slice A' ats.length cap') m0 m1 m2 m3 m4 (.slice none 0 0) [] devs w ce pe wx ∧
    ((ce ≠ 0 ∧ R = .error (pe, ce)) ∨ (ce = 0 ∧ ∃ o, numsL false kDevice at_ ats [] = .ok o ∧ [m0, m1, m2, m3, m4] = kDevice.map (fun x => gv o x.1) ∧ ¬ (4096 : Int) ≤ (devs.length : Int))))
  case first =>
    cases u
    · have H9 := hide (show ∃ ce pe, DvS X D Tb g r L sum kd at_ (.slice A' ats.length cap') m0 m1 m2 m3 m4 (.slice none 0 0) [] devs w ce pe w8 ∧
        ((ce ≠ 0 ∧ R = .error (pe, ce)) ∨ (ce = 0 ∧ ∃ o, numsL false kDevice at_ ats [] = .ok o ∧ [m0, m1, m2, m3, m4] = kDevice.map (fun x => gv o x.1) ∧ ¬ (4096 : Int) ≤ (devs.length : Int))) from
        ⟨ce, pe, hS, HST.out.imp id (fun ⟨h1, o, h2, h3⟩ => ⟨h1, o, h2, h3, by simpa using hu⟩)⟩)
      go_wp2_with fail
      go_meet
      exact H9.out
    · have H9 := hide (show Calls Try.prog 91 #[.pointer (some ⟨X, 0, none⟩), .int .i64 at_, .int .i64 2] w8 fun e w' => e = .returned (.tuple #[]) ∧ ∃ ce pe, DvS X D Tb g r L sum kd at_ (.slice A' ats.length cap') m0 m1 m2 m3 m4 (.slice none 0 0) [] devs w ce pe w' ∧
        ((ce ≠ 0 ∧ R = .error (pe, ce)) ∨ (ce = 0 ∧ ∃ o, numsL false kDevice at_ ats [] = .ok o ∧ [m0, m1, m2, m3, m4] = kDevice.map (fun x => gv o x.1) ∧ ¬ (4096 : Int) ≤ (devs.length : Int))) from by
        have h4 : (4096 : Int) ≤ (devs.length : Int) := by simpa using hu
        rcases HST.out with ⟨h1, h2⟩ | ⟨rfl, o, h2, h3⟩
        · exact (hS.badno h1 at_ 2).mono fun e w' h => ⟨h.1, ce, pe, h.2, .inl ⟨h1, h2⟩⟩
        · exact (hS.bad at_ 2).mono fun e w' h => ⟨h.1, 2, at_, h.2, .inl ⟨by decide, by rw [HEQ.out]; unfold devX; dsimp only; rw [h2]; exact if_pos h4⟩⟩)
      go_wp2_with fail
      refine H9.out.mono ?_
      rintro e w9 ⟨rfl, h9⟩
      have H10 := hide h9
      clear h9
      go_wp2_with fail
      go_meet
      exact H10.out
  case rest =>
    obtain ⟨ce1, pe1, hS9, hst9⟩ := hcut
    go_step
    exact rdev6 hS9 HTL.out hda hsm hdlen hkd HEQ.out hst9

set_option maxRecDepth 100000 in
set_option maxHeartbeats 8000000 in
theorem rdevice_any (X : Nat) (r : Rh) (t : Ti) (L : List Ti) (devs : List Dv) (sum : Int) (w : World) (hO : ROk X r (t :: L) sum w) (hV : RDev X w r.dv devs) (hd : isDevT t = true) (hTM : TMild (t :: L)) (hda : 0 ≤ r.da ∧ r.da ≤ 65536) (hsm : 0 ≤ sum ∧ sum ≤ 16384) (hdl : devs.length ≤ 5000000) :
    Calls Try.prog 53 #[.pointer (some ⟨X, 0, none⟩)] w (RDevOut X r w (devX r.N r.da devs sum t L)) := by
  obtain ⟨A, cap, hcap, hX, hI⟩ := hO
  obtain ⟨b, off, A', cap', rfl, hbB, c0, c1, c2, c3, hr⟩ := hI 0 t rfl
  have hXl := hX.lt
  have hbl : b < w.heap.size := by omega
  simp only [isDevT, Bool.and_eq_true, Bool.or_eq_true, decide_eq_true_eq] at hd
  obtain ⟨hkd, hd⟩ := hd
  have hnm := isDev_eq hd
  obtain ⟨kd, nm, ats, at_⟩ := t
  dsimp only at hkd hnm c0 c1 c2 c3 hr
  subst hnm
  simp at c0 c1 c2 c3
  have x0 := hX.cell 0
  have x0f := hX.frozen 0
  simp at x0
  have HX := hide hX
  have HV := hide hV
  have HRd := hide hr
  have hIt := hide hI.tail
  have HTM := hide hTM
  simp only [List.length_cons] at hcap
  have hTl := hTM.1
  simp only [List.length_cons] at hTl
  have i2 : (1 : Int) ≤ (L.length : Int) + 1 := by omega
  have i3 : (L.length : Int) + 1 ≤ (cap : Int) := by omega
  obtain ⟨R, hR⟩ : ∃ R, R = devX r.N r.da devs sum (kd, sDevice, ats, at_) L := ⟨_, rfl⟩
  rw [← hR]
  have HEQ := hide hR
  clear hX hI hr hTM hV hd hR
  go_enter Try.func53, Try.ntmps53
  go_upto_region 1 with (fail)
  go_cut [] (fun wx => ∃ A2 c2, L.length ≤ c2 ∧ RdI w X A2 L ∧ wx = (w.setCell ⟨X, 0, none⟩ (.slice A2 L.length c2)).alloc (.cells #[.int .i64 kd, .string sDevice, .slice A' ats.length cap', .int .i64 at_] RTg))
  case first =>
    by_cases hcap1 : cap = 1
    · subst hcap1
      obtain rfl : L = [] := List.eq_nil_of_length_eq_zero (by omega)
      go_wp2_with fail
      go_meet
      exact ⟨some ⟨b, off, none⟩, 0, by simp, RdI.nil _ _ _, rfl⟩
    · have i4 : ¬ cap - 1 = 0 := by omega
      go_wp2_with fail
      go_meet
      exact ⟨some ⟨b, off + 4, none⟩, cap - 1, by omega, hIt.out, rfl⟩
  case rest =>
    obtain ⟨A2, c2, hc2, hI2, rfl⟩ := hcut
    have hbl : Below X w ((w.setCell ⟨X, 0, none⟩ (.slice A2 L.length c2)).alloc (.cells #[.int .i64 kd, .string sDevice, .slice A' ats.length cap', .int .i64 at_] RTg)) := ((Below.refl X w).setCell (p := ⟨X, 0, none⟩) (Nat.le_refl X) (.slice A2 L.length c2)).alloc (by simp; omega) _
    have hVV : RDev X ((w.setCell ⟨X, 0, none⟩ (.slice A2 L.length c2)).alloc (.cells #[.int .i64 kd, .string sDevice, .slice A' ats.length cap', .int .i64 at_] RTg)) r.dv devs := by
      obtain ⟨rows, h1, h2⟩ := HV.out
      exact ⟨rows, (h1.setCell (p := ⟨X, 0, none⟩) (own_blk_ne h1 HX.out (by decide)) (.slice A2 L.length c2)).alloc _, h2.keep fun r' _ l hl => (hl.setCell (p := ⟨X, 0, none⟩) (own_blk_ne hl HX.out (by decide)) (.slice A2 L.length c2)).alloc _⟩
    go_step
    exact rdev2 (Tb := w.heap.size) (by simpa using (HX.out.set_ 0 (.slice A2 L.length c2)).alloc (.cells #[.int .i64 kd, .string sDevice, .slice A' ats.length cap', .int .i64 at_] RTg)) (show Blk ((w.setCell ⟨X, 0, none⟩ (.slice A2 L.length c2)).alloc (.cells #[.int .i64 kd, .string sDevice, .slice A' ats.length cap', .int .i64 at_] RTg)) w.heap.size _ _ from heap_new_at (by simp))
      (hI2.below hbl) hVV hbl (HRd.out.below hbl) hc2 hXl HTM.out hda hsm hdl hkd HEQ.out
end Go.Proofs.Ytcblakflhheepaa
