/- Chapter 43: the reference's Parse: within the superblock. -/
import Derived.Test.YtcblakflhheepaaRefG
import Derived.Test.YtcblakflhheepaaRefV2
import Derived.Deep.CutRange
namespace Go.Proofs.Ytcblakflhheepaa
open Go.RowKit
set_option linter.unusedVariables false
set_option linter.unusedSimpArgs false

noncomputable def psBody : Code := (Try.f32.body).getD .skip
def cHead : Code → Code
  | .seq a _ => a
  | c => c
def cThen : Code → Code
  | .cond _ a _ => a
  | c => c
noncomputable def thenC : Code := cThen (sdrop 1 (cHead (sdrop 4 psBody)))
noncomputable def openC : Code := cThen (sdrop 1 (cHead (sdrop 4 thenC)))
/-- The superblock's place, once its numbers are stored. -/
theorem supAt {X Tb : Nat} {N kd at_ ce pe m0 m1 m2 m3 : Int} {w0 w6 W : World} {R : Except (Int × Int) Pl} {L : List Ti} {A2 : Option Addr} {c2 : Nat} {tv : Value}
    (hX : Blk W X RSt (rst ⟨.slice A2 L.length c2, N, m1, m0, m2, m3, .slice none 0 0, 0, ce, pe⟩)) (hbt : But w6.heap.size X w6 W) (hb : Below X w0 W)
    (hT : Blk w6 Tb RTg #[.int .i64 kd, .string sSuper, tv, .int .i64 at_]) (hI : RdI w6 X A2 L) (hTM : TMild L) (hc2 : L.length ≤ c2) (hXT : X < Tb) (hXl : X < w6.heap.size)
    (hst : (ce ≠ 0 ∧ R = .error (pe, ce)) ∨ (ce = 0 ∧ ∃ o, (0 ≤ gv o sData ∧ gv o sData ≤ 65536) ∧ [m0, m1, m2, m3] = kSuper.map (fun x => gv o x.1) ∧ R = if kd = 1 then supEndX N o (devsX N (gv o sData) L.length [] 0 L) else endX (plOf o []) L)) :
    RSup X Tb N w0 R kd L W := by
  have hT2 := hT.but hbt hT.lt (by omega)
  have hI2 := hI.below (hbt.below (C := X) (by omega) (Nat.le_refl X))
  have c0 := hT2.cell 0
  simp at c0
  refine ⟨hb, hT2.lt, c0, hTM, ?_⟩
  rcases hst with ⟨h1, h2⟩ | ⟨rfl, o, h1, h2, h3⟩
  · exact .inl ⟨pe, ce, h2, h1, _, L, A2, c2, rfl, rfl, rfl, hTM.1, rfl, hX, hI2⟩
  · obtain ⟨e0, e1, e2, e3⟩ := sup_ns h2
    exact .inr ⟨o, ⟨.slice A2 L.length c2, N, m1, m0, m2, m3, .slice none 0 0, 0, 0, pe⟩, h1, ⟨rfl, e1, e0, e2, e3⟩, rfl, ⟨A2, c2, hc2, hX, hI2⟩, h3⟩


set_option maxRecDepth 100000 in
set_option maxHeartbeats 8000000 in
/-- Behind the superblock's inside: are tags left? -/
theorem rpB {X P : Nat} {N : Int} {s : ByteArray} {w0 wc : World} {R : Except (Int × Int) Pl} {Q : Exit → Act → World → Prop} {u1 u3 u4 u5 u6 u7 u9 u10 u11 u12 u13 u14 u15 u16 u17 u18 u19 u20 u21 u22 u23 u24 u25 u26 u27 u28 u29 u30 u31 u32 u33 u34 u35 u36 u37 u38 u39 u40 u41 u42 u43 u44 u45 u46 u47 u48 u49 u50 u51 u52 u53 u54 u55 u56 u57 u58 u59 u60 u61 u62 u63 u64 u65 u66 u67 u68 u69 u70 u71 u72 u73 u74 u75 u76 u77 u78 u79 u80 u81 u82 u83 u84 u85 u86 u87 u88 u89 u90 u91 u92 u93 u94 u95 u96 u97 u98 u99 u100 u101 u102 u103 u104 u105 u106 u107 u108 u109 u110 u111 u112 u113 u114 u115 u116 u117 u118 u119 u120 : Value} (hM : RMid X N w0 R wc)
    (hQ : ∀ {v11 v12 v13 v14 v15 v16 v17 v18 v19 v20 v21 v22 v23 v24 v25 v26 v27 v28 v29 v30 v31 v32 v33 v34 v35 v36 v37 v38 v39 v40 v41 v42 v43 v44 v45 v46 v47 v48 v49 v50 v51 v52 v53 v54 v55 v56 v57 v58 v59 v60 v61 v62 v63 v64 v65 v66 v67 v68 v69 v70 v71 v72 v73 v74 v75 v76 v77 v78 v79 v80 v81 v82 v83 v84 v85 v86 v87 v88 v89 v90 v91 v92 v93 v94 v95 v96 v97 v98 v99 v100 v101 v102 v103 v104 v105 v106 v107 v108 v109 v110 v111 v112 v113 v114 v115 v116 v117 v118 v119 v120 : Value} {w' : World}, RParse X N w0 R w' → Q .normal (⟨(.string s :: u1 :: .pointer (some ⟨P, 0, none⟩) :: u3 :: u4 :: u5 :: u6 :: u7 :: .pointer (some ⟨X, 0, none⟩) :: u9 :: u10 :: v11 :: v12 :: v13 :: v14 :: v15 :: v16 :: v17 :: v18 :: v19 :: v20 :: v21 :: v22 :: v23 :: v24 :: v25 :: v26 :: v27 :: v28 :: v29 :: v30 :: v31 :: v32 :: v33 :: v34 :: v35 :: v36 :: v37 :: v38 :: v39 :: v40 :: v41 :: v42 :: v43 :: v44 :: v45 :: v46 :: v47 :: v48 :: v49 :: v50 :: v51 :: v52 :: v53 :: v54 :: v55 :: v56 :: v57 :: v58 :: v59 :: v60 :: v61 :: v62 :: v63 :: v64 :: v65 :: v66 :: v67 :: v68 :: v69 :: v70 :: v71 :: v72 :: v73 :: v74 :: v75 :: v76 :: v77 :: v78 :: v79 :: v80 :: v81 :: v82 :: v83 :: v84 :: v85 :: v86 :: v87 :: v88 :: v89 :: v90 :: v91 :: v92 :: v93 :: v94 :: v95 :: v96 :: v97 :: v98 :: v99 :: v100 :: v101 :: v102 :: v103 :: v104 :: v105 :: v106 :: v107 :: v108 :: v109 :: v110 :: v111 :: v112 :: v113 :: v114 :: v115 :: v116 :: v117 :: v118 :: v119 :: v120 :: ([] : List Value)).toArray, []⟩ : Act) w') :
    Code.wp Try.prog (sdrop 5 thenC) Q (⟨(.string s :: u1 :: .pointer (some ⟨P, 0, none⟩) :: u3 :: u4 :: u5 :: u6 :: u7 :: .pointer (some ⟨X, 0, none⟩) :: u9 :: u10 :: u11 :: u12 :: u13 :: u14 :: u15 :: u16 :: u17 :: u18 :: u19 :: u20 :: u21 :: u22 :: u23 :: u24 :: u25 :: u26 :: u27 :: u28 :: u29 :: u30 :: u31 :: u32 :: u33 :: u34 :: u35 :: u36 :: u37 :: u38 :: u39 :: u40 :: u41 :: u42 :: u43 :: u44 :: u45 :: u46 :: u47 :: u48 :: u49 :: u50 :: u51 :: u52 :: u53 :: u54 :: u55 :: u56 :: u57 :: u58 :: u59 :: u60 :: u61 :: u62 :: u63 :: u64 :: u65 :: u66 :: u67 :: u68 :: u69 :: u70 :: u71 :: u72 :: u73 :: u74 :: u75 :: u76 :: u77 :: u78 :: u79 :: u80 :: u81 :: u82 :: u83 :: u84 :: u85 :: u86 :: u87 :: u88 :: u89 :: u90 :: u91 :: u92 :: u93 :: u94 :: u95 :: u96 :: u97 :: u98 :: u99 :: u100 :: u101 :: u102 :: u103 :: u104 :: u105 :: u106 :: u107 :: u108 :: u109 :: u110 :: u111 :: u112 :: u113 :: u114 :: u115 :: u116 :: u117 :: u118 :: u119 :: u120 :: ([] : List Value)).toArray, []⟩ : Act) wc := by
  obtain ⟨hb, hst⟩ := hM
  conv => arg 2; whnf
  rcases hst with ⟨p, c, hR, hE⟩ | ⟨o, D, T, r, sum, hR, hTl, hP, hO, hV⟩
  · obtain ⟨hXl, A, n, k, hn, x0⟩ := hE.len
    have H1 := hide (rwrong_err hE)
    have HF := hide (show RParse X N w0 R wc from ⟨hb, by rw [hR]; exact hE⟩)
    clear hE hb hR
    by_cases hz : 0 < n
    · have t0 : decide ((0 : Int) < (n : Int)) = true := by rw [decide_eq_true_eq]; omega
      have t1 : decide (0 < n) = true := by rw [decide_eq_true_eq]; omega
      go_wp2_with (fail)
      refine H1.out.mono ?_
      rintro e w4 ⟨rfl, hw4⟩
      have hw5 := hw4.symm
      subst hw5
      go_wp2_with (fail)
      exact HF.out
    · have t0 : decide ((0 : Int) < (n : Int)) = false := by rw [decide_eq_false_iff_not]; omega
      have t1 : decide (0 < n) = false := by rw [decide_eq_false_iff_not]; omega
      go_wp2_with (fail)
      exact HF.out
  · obtain ⟨h1, h2, h3, h4, h5⟩ := hP
    obtain ⟨A, k, x0⟩ := hO.len
    have hXl := hO.lt
    cases T with
    | nil =>
      have HF := hide (show RParse X N w0 R wc from ⟨hb, by
        rw [hR]
        obtain ⟨A, cap, q1, q2, q3⟩ := hO
        exact ⟨.slice A ([] : List Ti).length cap, sum, r.at_, r.dv, by rw [← h1]; unfold plOf; dsimp only; rw [← h2, ← h3, ← h4, ← h5]; exact q2, hV⟩⟩)
      clear hb hR hO hV
      go_wp2_with (fail)
      exact HF.out
    | cons t L =>
      have H1 := hide (hO.wrong hTl hb)
      have HR := hide (show R = .error (t.2.2.2, 16) from hR)
      have t0 : decide ((0 : Int) < (L.length : Int) + 1) = true := by rw [decide_eq_true_eq]; omega
      have t1 : decide (0 < L.length + 1) = true := by rw [decide_eq_true_eq]; omega
      simp only [List.length_cons] at x0
      clear hR hO hV hb
      go_wp2_with (fail)
      refine H1.out.mono ?_
      rintro e w4 ⟨rfl, hb4, hE4⟩
      have HF := hide (show RParse X N w0 R w4 from ⟨hb4, by rw [HR.out, ← h1]; exact hE4⟩)
      clear hb4 hE4
      go_wp2_with (fail)
      exact HF.out

set_option maxRecDepth 100000 in
set_option maxHeartbeats 8000000 in
/-- The superblock's devices, and its end. -/
theorem rpLoop {X P : Nat} {N : Int} {s : ByteArray} {w0 wc : World} {R : Except (Int × Int) Pl} {g0 : Nat} {Q : Exit → Act → World → Prop} {u1 u3 u4 u5 u6 u7 u9 u10 u11 u12 u13 u14 u15 u16 u17 u18 u19 u20 u21 u22 u23 u24 u25 u26 u27 u28 u29 u30 u31 u32 u33 u34 u35 u36 u37 u38 u39 u40 u41 u42 u43 u44 u45 u46 u47 u48 u49 u50 u51 u52 u53 u54 u55 u56 u57 u58 u59 u60 u61 u62 u63 u64 u65 u66 u67 u68 u69 u70 u71 u72 u73 u74 u75 u76 u77 u78 u79 u80 u81 u82 u83 u84 u85 u86 u87 u88 u89 u90 u91 u92 u93 u94 u95 u96 u97 u98 u99 u100 u101 u102 u103 u104 u105 u106 u107 u108 u109 u110 u111 u112 u113 u114 u115 u116 u117 u118 u119 u120 : Value} (hL : RLoop X N w0 R g0 wc)
    (hQ : ∀ {v11 v12 v13 v14 v15 v16 v17 v18 v19 v20 v21 v22 v23 v24 v25 v26 v27 v28 v29 v30 v31 v32 v33 v34 v35 v36 v37 v38 v39 v40 v41 v42 v43 v44 v45 v46 v47 v48 v49 v50 v51 v52 v53 v54 v55 v56 v57 v58 v59 v60 v61 v62 v63 v64 v65 v66 v67 v68 v69 v70 v71 v72 v73 v74 v75 v76 v77 v78 v79 v80 v81 v82 v83 v84 v85 v86 v87 v88 v89 v90 v91 v92 v93 v94 v95 v96 v97 v98 v99 v100 v101 v102 v103 v104 v105 v106 v107 v108 v109 v110 v111 v112 v113 v114 v115 v116 v117 v118 v119 v120 : Value} {w' : World}, RMid X N w0 R w' → Q .normal (⟨(.string s :: u1 :: .pointer (some ⟨P, 0, none⟩) :: u3 :: u4 :: u5 :: u6 :: u7 :: .pointer (some ⟨X, 0, none⟩) :: u9 :: u10 :: v11 :: v12 :: v13 :: v14 :: v15 :: v16 :: v17 :: v18 :: v19 :: v20 :: v21 :: v22 :: v23 :: v24 :: v25 :: v26 :: v27 :: v28 :: v29 :: v30 :: v31 :: v32 :: v33 :: v34 :: v35 :: v36 :: v37 :: v38 :: v39 :: v40 :: v41 :: v42 :: v43 :: v44 :: v45 :: v46 :: v47 :: v48 :: v49 :: v50 :: v51 :: v52 :: v53 :: v54 :: v55 :: v56 :: v57 :: v58 :: v59 :: v60 :: v61 :: v62 :: v63 :: v64 :: v65 :: v66 :: v67 :: v68 :: v69 :: v70 :: v71 :: v72 :: v73 :: v74 :: v75 :: v76 :: v77 :: v78 :: v79 :: v80 :: v81 :: v82 :: v83 :: v84 :: v85 :: v86 :: v87 :: v88 :: v89 :: v90 :: v91 :: v92 :: v93 :: v94 :: v95 :: v96 :: v97 :: v98 :: v99 :: v100 :: v101 :: v102 :: v103 :: v104 :: v105 :: v106 :: v107 :: v108 :: v109 :: v110 :: v111 :: v112 :: v113 :: v114 :: v115 :: v116 :: v117 :: v118 :: v119 :: v120 :: ([] : List Value)).toArray, []⟩ : Act) w') :
    Code.wp Try.prog openC Q (⟨(.string s :: u1 :: .pointer (some ⟨P, 0, none⟩) :: u3 :: u4 :: u5 :: u6 :: u7 :: .pointer (some ⟨X, 0, none⟩) :: u9 :: u10 :: u11 :: u12 :: u13 :: u14 :: u15 :: u16 :: u17 :: u18 :: u19 :: u20 :: u21 :: u22 :: u23 :: u24 :: u25 :: u26 :: u27 :: u28 :: u29 :: u30 :: u31 :: u32 :: u33 :: u34 :: u35 :: u36 :: u37 :: u38 :: u39 :: u40 :: u41 :: u42 :: u43 :: u44 :: u45 :: u46 :: u47 :: u48 :: u49 :: u50 :: u51 :: u52 :: u53 :: u54 :: u55 :: u56 :: u57 :: u58 :: u59 :: u60 :: u61 :: u62 :: u63 :: u64 :: u65 :: u66 :: u67 :: u68 :: u69 :: u70 :: u71 :: u72 :: u73 :: u74 :: u75 :: u76 :: u77 :: u78 :: u79 :: u80 :: u81 :: u82 :: u83 :: u84 :: u85 :: u86 :: u87 :: u88 :: u89 :: u90 :: u91 :: u92 :: u93 :: u94 :: u95 :: u96 :: u97 :: u98 :: u99 :: u100 :: u101 :: u102 :: u103 :: u104 :: u105 :: u106 :: u107 :: u108 :: u109 :: u110 :: u111 :: u112 :: u113 :: u114 :: u115 :: u116 :: u117 :: u118 :: u119 :: u120 :: ([] : List Value)).toArray, []⟩ : Act) wc := by
  have HL := hide hL
  clear hL
  conv => arg 2; whnf
  go_wp2_with (fail)
  go_loopg [72] g0 (fun g x wr => RLoop X N w0 R g wr)
  case atStart => exact HL.out
  case round =>
    clear HL
    obtain ⟨hb, hst⟩ := hrel
    rcases hst with ⟨p, c, hR, hE⟩ | ⟨o, D, T, r, sum, k, hda, hR, hTg, hTk, hTM, hsm, hDl, hP, hO, hV⟩
    · have hXl := hE.len.1
      have H1 := hide (ris_err hE 1 sDevice)
      have H2 := hide (ris_err hE 3 sDevice)
      have H3 := hide (ris_err hE 2 sSuper)
      have H4 := hide (rwrong_err hE)
      have HF := hide (show RMid X N w0 R wr from ⟨hb, .inl ⟨p, c, hR, hE⟩⟩)
      clear hE hb hR
      go_wp2_with (fail)
      refine H1.out.mono ?_
      rintro e w4 ⟨rfl, hw4⟩
      have hw5 := hw4.symm
      subst hw5
      go_wp2_with (fail)
      refine H2.out.mono ?_
      rintro e w4 ⟨rfl, hw4⟩
      have hw5 := hw4.symm
      subst hw5
      go_wp2_with (fail)
      refine H3.out.mono ?_
      rintro e w4 ⟨rfl, hw4⟩
      have hw5 := hw4.symm
      subst hw5
      go_wp2_with (fail)
      refine H4.out.mono ?_
      rintro e w4 ⟨rfl, hw4⟩
      have hw5 := hw4.symm
      subst hw5
      go_wp2_with (fail)
      exact HF.out
    · have hXl := hO.lt
      have hT5 := hTM.1
      have H1 := hide (fun v hv => hO.is0 hT5 1 sDevice v hv)
      have H3 := hide (fun v hv => hO.is0 hT5 3 sDevice v hv)
      obtain ⟨u, hu⟩ : ∃ u, opB isDev T = u := ⟨_, rfl⟩
      go_upto_region 11 with (fail)
      go_cut [77] from 72 to 79 (fun v wx => v = .bool u ∧ wx = wr)
      case first =>
        rcases op_is dev_iff T with ⟨q1, q2, q3⟩ | ⟨q1, q2⟩ | ⟨q1, q2, q3⟩
        · rw [hu] at q1
          subst q1
          have J1 := hide (H1.out _ q2)
          have J3 := hide (H3.out _ q3)
          clear H1 H3 q2 q3
          go_wp2_with (fail)
          refine J1.out.mono ?_
          rintro e w4 ⟨rfl, hw4⟩
          have hw5 := hw4.symm
          subst hw5
          go_wp2_with (fail)
          refine J3.out.mono ?_
          rintro e w4 ⟨rfl, hw4⟩
          have hw5 := hw4.symm
          subst hw5
          go_wp2_with (fail)
          go_meet
          exact ⟨rfl, rfl⟩
        · rw [hu] at q1
          subst q1
          have J1 := hide (H1.out _ q2)
          clear H1 H3 q2
          go_wp2_with (fail)
          refine J1.out.mono ?_
          rintro e w4 ⟨rfl, hw4⟩
          have hw5 := hw4.symm
          subst hw5
          go_wp2_with (fail)
          go_meet
          exact ⟨rfl, rfl⟩
        · rw [hu] at q1
          subst q1
          have J1 := hide (H1.out _ q2)
          have J3 := hide (H3.out _ q3)
          clear H1 H3 q2 q3
          go_wp2_with (fail)
          refine J1.out.mono ?_
          rintro e w4 ⟨rfl, hw4⟩
          have hw5 := hw4.symm
          subst hw5
          go_wp2_with (fail)
          refine J3.out.mono ?_
          rintro e w4 ⟨rfl, hw4⟩
          have hw5 := hw4.symm
          subst hw5
          go_wp2_with (fail)
          go_meet
          exact ⟨rfl, rfl⟩
      case rest =>
        obtain ⟨rfl, rfl⟩ := hcut
        clear H1 H3
        cases u
        · have HR := hide (hR.trans (congrArg (supEndX N o) (devs_stop (N := N) (data := gv o sData) (g := k) (D := D) (s := sum) hu)))
          obtain ⟨v, hv⟩ : ∃ v, clB isSup T = v := ⟨_, rfl⟩
          have J2 := hide (hO.is0 hT5 2 sSuper v ((cl_is sup_iff T).trans hv))
          cases v
          · have J4 := hide (hO.wrong hT5 hb)
            have HE := hide (HR.out.trans (supEnd_no hv))
            have HN := hide hP.1
            clear hO hV hb hR hu hv
            go_wp2_with (fail)
            refine J2.out.mono ?_
            rintro e w4 ⟨rfl, hw4⟩
            have hw5 := hw4.symm
            subst hw5
            go_wp2_with (fail)
            refine J4.out.mono ?_
            rintro e w4 ⟨rfl, hb4, hE4⟩
            have HF := hide (show RMid X N w0 R w4 from ⟨hb4, .inl ⟨_, _, HE.out, by rw [← HN.out]; exact hE4⟩⟩)
            clear hb4 hE4
            go_wp2_with (fail)
            exact HF.out
          · obtain ⟨c, T2, rfl, q1, q2⟩ := clB_ok hv
            have HE := hide (HR.out.trans (supEnd_yes ⟨q1, q2⟩))
            obtain ⟨b, off, cap, x0, x0f, j1, j2, j3⟩ := hO.head
            simp only [List.length_cons] at hT5
            have i2 : (1 : Int) ≤ (T2.length : Int) + 1 := by omega
            have i3 : (T2.length : Int) + 1 ≤ (cap : Int) := by omega
            by_cases hc1 : cap = 1
            · obtain ⟨y1, y2, y3⟩ := j3 (some ⟨b, off, none⟩) 0 (.inl ⟨hc1, rfl, rfl⟩)
              have HF := hide (show RMid X N w0 R _ from ⟨hb.trans y2, .inr ⟨o, D, T2, r, sum, HE.out, by omega, hP, y1, y3 _ _ hV⟩⟩)
              subst hc1
              obtain rfl : T2 = [] := List.eq_nil_of_length_eq_zero (by omega)
              clear hO hV hb hR hu hv j3 y1 y2 y3
              go_wp2_with (fail)
              refine J2.out.mono ?_
              rintro e w4 ⟨rfl, hw4⟩
              have hw5 := hw4.symm
              subst hw5
              go_wp2_with (fail)
              exact HF.out
            · have i4 : ¬ cap - 1 = 0 := by omega
              obtain ⟨y1, y2, y3⟩ := j3 (some ⟨b, off + 4, none⟩) (cap - 1) (.inr ⟨hc1, rfl, rfl⟩)
              have HF := hide (show RMid X N w0 R _ from ⟨hb.trans y2, .inr ⟨o, D, T2, r, sum, HE.out, by omega, hP, y1, y3 _ _ hV⟩⟩)
              clear hO hV hb hR hu hv j3 y1 y2 y3
              go_wp2_with (fail)
              refine J2.out.mono ?_
              rintro e w4 ⟨rfl, hw4⟩
              have hw5 := hw4.symm
              subst hw5
              go_wp2_with (fail)
              exact HF.out
        · obtain ⟨t, T2, rfl, q1, q2⟩ := opB_ok hu
          have HD := hide (rdevice_any X r t T2 D sum _ hO hV hu hTM (by rw [hP.2.2.2.2]; exact hda) hsm (by omega))
          have HR := hide hR
          have HP := hide hP
          have HB := hide hb
          have HTM := hide hTM
          have HSM := hide hsm
          have HDA := hide hda
          simp only [List.length_cons] at hTg hTk
          clear hO hV hb hR hu hTM hsm hP hda
          go_wp2_with (fail)
          refine HD.out.mono ?_
          rintro e w4 ⟨rfl, hb4, h4⟩
          obtain ⟨k', rfl⟩ : ∃ k', k = k' + 1 := ⟨k - 1, by omega⟩
          have HR2 := hide (HR.out.trans (congrArg (supEndX N o) (devs_go (N := N) (data := gv o sData) (g := k') (D := D) (s := sum) (t := t) (L := T2) (by unfold isDevT; rw [q2]; simpa using q1))))
          have hNd := HP.out.1
          have hdd := HP.out.2.2.2.2
          obtain ⟨V, hVX⟩ : ∃ V, devX N (gv o sData) D sum t T2 = V := ⟨_, rfl⟩
          rw [show devX r.N r.da D sum t T2 = V by rw [hNd, hdd]; exact hVX] at h4
          have HV2 := hide hVX
          have hR2 := HR2.out
          rw [hVX] at hR2
          cases V with
          | error pc =>
            obtain ⟨p, c⟩ := pc
            dsimp only at h4
            rw [hNd] at h4
            have HF := hide (show RLoop X N w0 R (gk - 1) w4 from ⟨HB.out.trans hb4, .inl ⟨p, c, hR2, h4⟩⟩)
            clear hb4 h4 hVX hR2
            go_wp2_with (fail)
            go_roundg (gk - 1)
            case measure => omega
            case rel => exact HF.out
          | ok q =>
            obtain ⟨D', sum', T'⟩ := q
            obtain ⟨v, a, hO4, hV4⟩ := h4
            obtain ⟨a1, a2, a3, a4⟩ := devX_ok HSM.out hVX
            have HF := hide (show RLoop X N w0 R (gk - 1) w4 from ⟨HB.out.trans hb4, .inr ⟨o, D', T', { r with dv := v, at_ := a }, sum', k', HDA.out, hR2, by omega, by omega, HTM.out.sub (by simp only [List.length_cons]; omega) (fun x hx => List.mem_cons_of_mem _ (a3 x hx)), a1, a4, HP.out, hO4, hV4⟩⟩)
            clear hb4 hO4 hV4 hVX hR2
            go_wp2_with (fail)
            go_roundg (gk - 1)
            case measure => omega
            case rel => exact HF.out

set_option maxRecDepth 100000 in
set_option maxHeartbeats 8000000 in
/-- Behind the superblock's numbers. -/
theorem rpA {X P Tb : Nat} {N : Int} {s : ByteArray} {w0 wc : World} {R : Except (Int × Int) Pl} {kd : Int} {L : List Ti} {Q : Exit → Act → World → Prop} {u1 u3 u4 u5 u6 u7 u10 u11 u12 u13 u14 u15 u16 u17 u18 u19 u20 u21 u22 u23 u24 u25 u26 u27 u28 u29 u30 u31 u32 u33 u34 u35 u36 u37 u38 u39 u40 u41 u42 u43 u44 u45 u46 u47 u48 u49 u50 u51 u52 u53 u54 u55 u56 u57 u58 u59 u60 u61 u62 u63 u64 u65 u66 u67 u68 u69 u70 u71 u72 u73 u74 u75 u76 u77 u78 u79 u80 u81 u82 u83 u84 u85 u86 u87 u88 u89 u90 u91 u92 u93 u94 u95 u96 u97 u98 u99 u100 u101 u102 u103 u104 u105 u106 u107 u108 u109 u110 u111 u112 u113 u114 u115 u116 u117 u118 u119 u120 : Value} (hS : RSup X Tb N w0 R kd L wc) (hkd : kd = 1 ∨ kd = 3)
    (hQ : ∀ {v11 v12 v13 v14 v15 v16 v17 v18 v19 v20 v21 v22 v23 v24 v25 v26 v27 v28 v29 v30 v31 v32 v33 v34 v35 v36 v37 v38 v39 v40 v41 v42 v43 v44 v45 v46 v47 v48 v49 v50 v51 v52 v53 v54 v55 v56 v57 v58 v59 v60 v61 v62 v63 v64 v65 v66 v67 v68 v69 v70 v71 v72 v73 v74 v75 v76 v77 v78 v79 v80 v81 v82 v83 v84 v85 v86 v87 v88 v89 v90 v91 v92 v93 v94 v95 v96 v97 v98 v99 v100 v101 v102 v103 v104 v105 v106 v107 v108 v109 v110 v111 v112 v113 v114 v115 v116 v117 v118 v119 v120 : Value} {w' : World}, RParse X N w0 R w' → Q .normal (⟨(.string s :: u1 :: .pointer (some ⟨P, 0, none⟩) :: u3 :: u4 :: u5 :: u6 :: u7 :: .pointer (some ⟨X, 0, none⟩) :: .pointer (some ⟨Tb, 0, none⟩) :: u10 :: v11 :: v12 :: v13 :: v14 :: v15 :: v16 :: v17 :: v18 :: v19 :: v20 :: v21 :: v22 :: v23 :: v24 :: v25 :: v26 :: v27 :: v28 :: v29 :: v30 :: v31 :: v32 :: v33 :: v34 :: v35 :: v36 :: v37 :: v38 :: v39 :: v40 :: v41 :: v42 :: v43 :: v44 :: v45 :: v46 :: v47 :: v48 :: v49 :: v50 :: v51 :: v52 :: v53 :: v54 :: v55 :: v56 :: v57 :: v58 :: v59 :: v60 :: v61 :: v62 :: v63 :: v64 :: v65 :: v66 :: v67 :: v68 :: v69 :: v70 :: v71 :: v72 :: v73 :: v74 :: v75 :: v76 :: v77 :: v78 :: v79 :: v80 :: v81 :: v82 :: v83 :: v84 :: v85 :: v86 :: v87 :: v88 :: v89 :: v90 :: v91 :: v92 :: v93 :: v94 :: v95 :: v96 :: v97 :: v98 :: v99 :: v100 :: v101 :: v102 :: v103 :: v104 :: v105 :: v106 :: v107 :: v108 :: v109 :: v110 :: v111 :: v112 :: v113 :: v114 :: v115 :: v116 :: v117 :: v118 :: v119 :: v120 :: ([] : List Value)).toArray, []⟩ : Act) w') :
    Code.wp Try.prog (sdrop 4 thenC) Q (⟨(.string s :: u1 :: .pointer (some ⟨P, 0, none⟩) :: u3 :: u4 :: u5 :: u6 :: u7 :: .pointer (some ⟨X, 0, none⟩) :: .pointer (some ⟨Tb, 0, none⟩) :: u10 :: u11 :: u12 :: u13 :: u14 :: u15 :: u16 :: u17 :: u18 :: u19 :: u20 :: u21 :: u22 :: u23 :: u24 :: u25 :: u26 :: u27 :: u28 :: u29 :: u30 :: u31 :: u32 :: u33 :: u34 :: u35 :: u36 :: u37 :: u38 :: u39 :: u40 :: u41 :: u42 :: u43 :: u44 :: u45 :: u46 :: u47 :: u48 :: u49 :: u50 :: u51 :: u52 :: u53 :: u54 :: u55 :: u56 :: u57 :: u58 :: u59 :: u60 :: u61 :: u62 :: u63 :: u64 :: u65 :: u66 :: u67 :: u68 :: u69 :: u70 :: u71 :: u72 :: u73 :: u74 :: u75 :: u76 :: u77 :: u78 :: u79 :: u80 :: u81 :: u82 :: u83 :: u84 :: u85 :: u86 :: u87 :: u88 :: u89 :: u90 :: u91 :: u92 :: u93 :: u94 :: u95 :: u96 :: u97 :: u98 :: u99 :: u100 :: u101 :: u102 :: u103 :: u104 :: u105 :: u106 :: u107 :: u108 :: u109 :: u110 :: u111 :: u112 :: u113 :: u114 :: u115 :: u116 :: u117 :: u118 :: u119 :: u120 :: ([] : List Value)).toArray, []⟩ : Act) wc := by
  obtain ⟨hb, hTl, t0, hTM, hst⟩ := hS
  conv => arg 2; whnf
  go_upto_if 71 with (fail)
  go_cut [] from 11 to 120 (fun wx => RMid X N w0 R wx)
  case first =>
    rcases hkd with rfl | rfl
    · have HL := hide (show RLoop X N w0 R (L.length + 1) wc from ⟨hb, hst.imp id (fun ⟨o, r, h1, h2, h3, h4, h5⟩ => ⟨o, [], L, r, 0, L.length, h1, h5, by omega, Nat.le_refl _, hTM, by omega, by simp, h2, h4, by rw [h3]; exact RDev.nil _ _⟩)⟩)
      clear hst hb hTM
      go_step
      refine rpLoop HL.out ?_
      intros
      go_step
      go_step
      go_meet
      assumption
    · have HL := hide (show RMid X N w0 R wc from ⟨hb, hst.imp id (fun ⟨o, r, h1, h2, h3, h4, h5⟩ => ⟨o, [], L, r, 0, h5, hTM.1, h2, h4, by rw [h3]; exact RDev.nil _ _⟩)⟩)
      clear hst hb hTM
      go_wp2_with (fail)
      go_meet
      exact HL.out
  case rest =>
    go_step
    exact rpB hcut hQ
set_option maxRecDepth 100000 in
set_option maxHeartbeats 8000000 in
/-- The superblock's numbers. -/
theorem rp2 {X P Tb : Nat} {N : Int} {s : ByteArray} {w0 wc : World} {R : Except (Int × Int) Pl} {kd at_ : Int} {ats : List Ai} {A' A2 : Option Addr} {cap' c2 : Nat} {L : List Ti} {Q : Exit → Act → World → Prop} {u1 u3 u4 u5 u6 u7 u10 u11 u12 u13 u14 u15 u16 u17 u18 u19 u20 u21 u22 u23 u24 u25 u26 u27 u28 u29 u30 u31 u32 u33 u34 u35 u36 u37 u38 u39 u40 u41 u42 u43 u44 u45 u46 u47 u48 u49 u50 u51 u52 u53 u54 u55 u56 u57 u58 u59 u60 u61 u62 u63 u64 u65 u66 u67 u68 u69 u70 u71 u72 u73 u74 u75 u76 u77 u78 u79 u80 u81 u82 u83 u84 u85 u86 u87 u88 u89 u90 u91 u92 u93 u94 u95 u96 u97 u98 u99 u100 u101 u102 u103 u104 u105 u106 u107 u108 u109 u110 u111 u112 u113 u114 u115 u116 u117 u118 u119 u120 : Value}
    (hX : Blk wc X RSt (rst ⟨.slice A2 L.length c2, N, 0, 0, 0, 0, .slice none 0 0, 0, 0, 0⟩)) (hT : Blk wc Tb RTg #[.int .i64 kd, .string sSuper, .slice A' ats.length cap', .int .i64 at_]) (hI : RdI wc X A2 L) (hb : Below X w0 wc) (hr : Rd wc X 3 aic A' ats) (hc2 : L.length ≤ c2) (hXT : X < Tb) (hTM : TMild ((kd, sSuper, ats, at_) :: L)) (hkd : kd = 1 ∨ kd = 3)
    (hR : R = parseX N ((kd, sSuper, ats, at_) :: L))
    (hQ : ∀ {v10 v11 v12 v13 v14 v15 v16 v17 v18 v19 v20 v21 v22 v23 v24 v25 v26 v27 v28 v29 v30 v31 v32 v33 v34 v35 v36 v37 v38 v39 v40 v41 v42 v43 v44 v45 v46 v47 v48 v49 v50 v51 v52 v53 v54 v55 v56 v57 v58 v59 v60 v61 v62 v63 v64 v65 v66 v67 v68 v69 v70 v71 v72 v73 v74 v75 v76 v77 v78 v79 v80 v81 v82 v83 v84 v85 v86 v87 v88 v89 v90 v91 v92 v93 v94 v95 v96 v97 v98 v99 v100 v101 v102 v103 v104 v105 v106 v107 v108 v109 v110 v111 v112 v113 v114 v115 v116 v117 v118 v119 v120 : Value} {w' : World}, RParse X N w0 R w' → Q .normal (⟨(.string s :: u1 :: .pointer (some ⟨P, 0, none⟩) :: u3 :: u4 :: u5 :: u6 :: u7 :: .pointer (some ⟨X, 0, none⟩) :: .pointer (some ⟨Tb, 0, none⟩) :: v10 :: v11 :: v12 :: v13 :: v14 :: v15 :: v16 :: v17 :: v18 :: v19 :: v20 :: v21 :: v22 :: v23 :: v24 :: v25 :: v26 :: v27 :: v28 :: v29 :: v30 :: v31 :: v32 :: v33 :: v34 :: v35 :: v36 :: v37 :: v38 :: v39 :: v40 :: v41 :: v42 :: v43 :: v44 :: v45 :: v46 :: v47 :: v48 :: v49 :: v50 :: v51 :: v52 :: v53 :: v54 :: v55 :: v56 :: v57 :: v58 :: v59 :: v60 :: v61 :: v62 :: v63 :: v64 :: v65 :: v66 :: v67 :: v68 :: v69 :: v70 :: v71 :: v72 :: v73 :: v74 :: v75 :: v76 :: v77 :: v78 :: v79 :: v80 :: v81 :: v82 :: v83 :: v84 :: v85 :: v86 :: v87 :: v88 :: v89 :: v90 :: v91 :: v92 :: v93 :: v94 :: v95 :: v96 :: v97 :: v98 :: v99 :: v100 :: v101 :: v102 :: v103 :: v104 :: v105 :: v106 :: v107 :: v108 :: v109 :: v110 :: v111 :: v112 :: v113 :: v114 :: v115 :: v116 :: v117 :: v118 :: v119 :: v120 :: ([] : List Value)).toArray, []⟩ : Act) w') :
    Code.wp Try.prog (sdrop 2 thenC) Q (⟨(.string s :: u1 :: .pointer (some ⟨P, 0, none⟩) :: u3 :: u4 :: u5 :: u6 :: u7 :: .pointer (some ⟨X, 0, none⟩) :: .pointer (some ⟨Tb, 0, none⟩) :: u10 :: u11 :: u12 :: u13 :: u14 :: u15 :: u16 :: u17 :: u18 :: u19 :: u20 :: u21 :: u22 :: u23 :: u24 :: u25 :: u26 :: u27 :: u28 :: u29 :: u30 :: u31 :: u32 :: u33 :: u34 :: u35 :: u36 :: u37 :: u38 :: u39 :: u40 :: u41 :: u42 :: u43 :: u44 :: u45 :: u46 :: u47 :: u48 :: u49 :: u50 :: u51 :: u52 :: u53 :: u54 :: u55 :: u56 :: u57 :: u58 :: u59 :: u60 :: u61 :: u62 :: u63 :: u64 :: u65 :: u66 :: u67 :: u68 :: u69 :: u70 :: u71 :: u72 :: u73 :: u74 :: u75 :: u76 :: u77 :: u78 :: u79 :: u80 :: u81 :: u82 :: u83 :: u84 :: u85 :: u86 :: u87 :: u88 :: u89 :: u90 :: u91 :: u92 :: u93 :: u94 :: u95 :: u96 :: u97 :: u98 :: u99 :: u100 :: u101 :: u102 :: u103 :: u104 :: u105 :: u106 :: u107 :: u108 :: u109 :: u110 :: u111 :: u112 :: u113 :: u114 :: u115 :: u116 :: u117 :: u118 :: u119 :: u120 :: ([] : List Value)).toArray, []⟩ : Act) wc := by
  have HEQ := hide (hR.trans (parseX_yes ⟨hkd, isSup_s⟩))
  have HTL := hide (show TMild L from hTM.sub (by simp) (fun t ht => List.mem_cons_of_mem _ ht))
  have HTM := hide hTM
  clear hR hTM
  have hXl := hX.lt
  have hTl := hT.lt
  have t0 := hT.cell 0
  have t1 := hT.cell 1
  have t2 := hT.cell 2
  have t3 := hT.cell 3
  simp at t0 t1 t2 t3
  have hX5 : Blk (((wc.alloc (.cells #[.string sTime, .string sTx, .string sUnit, .string sData] 9)).alloc (.cells #[.int .i64 0, .int .i64 0, .int .i64 1, .int .i64 0] 3)).alloc (.cells #[.int .i64 16777215, .int .i64 2147483647, .int .i64 65536, .int .i64 65536] 3)) X RSt (rst ⟨.slice A2 L.length c2, N, 0, 0, 0, 0, .slice none 0 0, 0, 0, 0⟩) := ((hX.alloc (.cells #[.string sTime, .string sTx, .string sUnit, .string sData] 9)).alloc (.cells #[.int .i64 0, .int .i64 0, .int .i64 1, .int .i64 0] 3)).alloc (.cells #[.int .i64 16777215, .int .i64 2147483647, .int .i64 65536, .int .i64 65536] 3)
  have hT5 : Blk (((wc.alloc (.cells #[.string sTime, .string sTx, .string sUnit, .string sData] 9)).alloc (.cells #[.int .i64 0, .int .i64 0, .int .i64 1, .int .i64 0] 3)).alloc (.cells #[.int .i64 16777215, .int .i64 2147483647, .int .i64 65536, .int .i64 65536] 3)) Tb RTg #[.int .i64 kd, .string sSuper, .slice A' ats.length cap', .int .i64 at_] := ((hT.alloc (.cells #[.string sTime, .string sTx, .string sUnit, .string sData] 9)).alloc (.cells #[.int .i64 0, .int .i64 0, .int .i64 1, .int .i64 0] 3)).alloc (.cells #[.int .i64 16777215, .int .i64 2147483647, .int .i64 65536, .int .i64 65536] 3)
  have hn5 : Blk (((wc.alloc (.cells #[.string sTime, .string sTx, .string sUnit, .string sData] 9)).alloc (.cells #[.int .i64 0, .int .i64 0, .int .i64 1, .int .i64 0] 3)).alloc (.cells #[.int .i64 16777215, .int .i64 2147483647, .int .i64 65536, .int .i64 65536] 3)) wc.heap.size 9 (((kSuper.map (·.1)).map fun x => Value.string x).toArray) := ((show Blk (wc.alloc (.cells #[.string sTime, .string sTx, .string sUnit, .string sData] 9)) wc.heap.size _ _ from heap_new_at rfl).alloc (.cells #[.int .i64 0, .int .i64 0, .int .i64 1, .int .i64 0] 3)).alloc (.cells #[.int .i64 16777215, .int .i64 2147483647, .int .i64 65536, .int .i64 65536] 3)
  have hl5 : Blk (((wc.alloc (.cells #[.string sTime, .string sTx, .string sUnit, .string sData] 9)).alloc (.cells #[.int .i64 0, .int .i64 0, .int .i64 1, .int .i64 0] 3)).alloc (.cells #[.int .i64 16777215, .int .i64 2147483647, .int .i64 65536, .int .i64 65536] 3)) (wc.heap.size + 1) 3 (((kSuper.map (·.2.1)).map fun x => Value.int .i64 x).toArray) := (show Blk ((wc.alloc (.cells #[.string sTime, .string sTx, .string sUnit, .string sData] 9)).alloc (.cells #[.int .i64 0, .int .i64 0, .int .i64 1, .int .i64 0] 3)) (wc.heap.size + 1) _ _ from heap_new_at (by simp)).alloc (.cells #[.int .i64 16777215, .int .i64 2147483647, .int .i64 65536, .int .i64 65536] 3)
  have hh5 : Blk (((wc.alloc (.cells #[.string sTime, .string sTx, .string sUnit, .string sData] 9)).alloc (.cells #[.int .i64 0, .int .i64 0, .int .i64 1, .int .i64 0] 3)).alloc (.cells #[.int .i64 16777215, .int .i64 2147483647, .int .i64 65536, .int .i64 65536] 3)) (wc.heap.size + 1 + 1) 3 (((kSuper.map (·.2.2)).map fun x => Value.int .i64 x).toArray) := heap_new_at (by simp)
  have hbw : Below X wc (((wc.alloc (.cells #[.string sTime, .string sTx, .string sUnit, .string sData] 9)).alloc (.cells #[.int .i64 0, .int .i64 0, .int .i64 1, .int .i64 0] 3)).alloc (.cells #[.int .i64 16777215, .int .i64 2147483647, .int .i64 65536, .int .i64 65536] 3)) := (((Below.refl X wc).alloc (by omega) (.cells #[.string sTime, .string sTx, .string sUnit, .string sData] 9)).alloc (by simp; omega) (.cells #[.int .i64 0, .int .i64 0, .int .i64 1, .int .i64 0] 3)).alloc (by simp; omega) (.cells #[.int .i64 16777215, .int .i64 2147483647, .int .i64 65536, .int .i64 65536] 3)
  have hb5 := hb.trans hbw
  have hs5 : wc.heap.size + 3 = (((wc.alloc (.cells #[.string sTime, .string sTx, .string sUnit, .string sData] 9)).alloc (.cells #[.int .i64 0, .int .i64 0, .int .i64 1, .int .i64 0] 3)).alloc (.cells #[.int .i64 16777215, .int .i64 2147483647, .int .i64 65536, .int .i64 65536] 3)).heap.size := by simp
  generalize hW5 : (((wc.alloc (.cells #[.string sTime, .string sTx, .string sUnit, .string sData] 9)).alloc (.cells #[.int .i64 0, .int .i64 0, .int .i64 1, .int .i64 0] 3)).alloc (.cells #[.int .i64 16777215, .int .i64 2147483647, .int .i64 65536, .int .i64 65536] 3)) = w5 at *
  have hI5 := hI.below hbw
  have hr5 := (hr.below hbw).mono (show X ≤ w5.heap.size by omega)
  have HC := hide (rnumbers_any X _ (kd, sSuper, ats, at_) kSuper A' (some ⟨wc.heap.size, 0, none⟩) (some ⟨wc.heap.size + 1, 0, none⟩) (some ⟨wc.heap.size + 1 + 1, 0, none⟩) cap' 4 4 4 true w5 hX5 rfl (by decide) (by decide)
    hr5 (HTM.out.2 _ (by simp)).1 (HTM.out.2 _ (by simp)).2 (rd_blk (v := fun x : ByteArray => Value.string x) hn5) (rd_blk (v := fun x : Int => Value.int .i64 x) hl5) (rd_blk (v := fun x : Int => Value.int .i64 x) hh5) isSup_s)
  have HX5 := hide hX5; have HT5 := hide hT5; have HI5 := hide hI5; have HB5 := hide hb5
  have HW5 := hide hW5
  have hcc := HC.out
  dsimp only at hcc
  obtain ⟨Rn, hRR⟩ : ∃ Rn, numsL true kSuper at_ ats [] = Rn := ⟨_, rfl⟩
  rw [hRR] at hcc
  have HCC := hide hcc
  have HRR := hide hRR
  clear hX5 hT5 hn5 hl5 hh5 hb5 hI5 hr5 HC hcc hRR hW5 hX hT hI hb hr hbw
  conv => arg 2; whnf
  go_wp2_with (fail)
  rw [HW5.out]
  refine HCC.out.mono ?_
  rintro e w6 hN
  obtain ⟨g, m0, m1, m2, m3, rfl, n0, n1, n2, n3, hgl, hXg, ce, pe, hst, hX6, hI6, hT6, hb6⟩ := sup_start hN HX5.out HI5.out HT5.out HB5.out hXT (fun p c h => by have := (numsL_err (HRR.out.trans h)).1; omega)
  have HST := hide (show (ce ≠ 0 ∧ R = .error (pe, ce)) ∨ (ce = 0 ∧ ∃ o, (0 ≤ gv o sData ∧ gv o sData ≤ 65536) ∧ [m0, m1, m2, m3] = kSuper.map (fun x => gv o x.1) ∧ R = if kd = 1 then supEndX N o (devsX N (gv o sData) L.length [] 0 L) else endX (plOf o []) L) from by
    rcases hst with ⟨h1, h2⟩ | ⟨h1, o, h2, h3⟩
    · exact .inl ⟨h1, by rw [HEQ.out, HRR.out, h2]⟩
    · exact .inr ⟨h1, o, sup_data (HRR.out.trans h2), h3, by rw [HEQ.out, HRR.out, h2]⟩)
  clear hN hst HCC HX5 HT5 HI5 HB5 HW5 HRR t0 t1 t2 t3
  have HWS := hide (sup_set (m0 := m0) (m1 := m1) (m2 := m2) (m3 := m3) hX6 hb6 (Nat.le_refl X) rfl)
  have x2 := hX6.cell 2
  have x3 := hX6.cell 3
  have x4 := hX6.cell 4
  have x5 := hX6.cell 5
  have x6 := hX6.cell 6
  simp at x2 x3 x4 x5 x6
  have xf := hX6.frozen
  have hXl6 := hX6.lt
  have HT6 := hide hT6
  have HI6 := hide hI6
  have hTl6 := hT6.lt
  clear hT6 hI6 hb6
  go_upto_region 9 with (fail)
  go_cut [] from 11 to 120 (fun wx => RSup X Tb N w0 R kd L wx)
  case first =>
    go_still_tail 16, (by kernel_rfl)
    change wpList _ _ _ _ _ (World.drew _)
    go_wp2_with (fail)
    go_meet
    exact supAt (HWS.out.1.drew) (HWS.out.2.1.drew) (HWS.out.2.2.drew) HT6.out HI6.out HTL.out hc2 hXT hXl6 HST.out
  case rest =>
    go_step
    exact rpA hcut hkd hQ
set_option maxRecDepth 100000 in
set_option maxHeartbeats 8000000 in
/-- The superblock's tag is taken. -/
theorem rpThen {X P : Nat} {N : Int} {s : ByteArray} {lv : Value} {w0 w1 : World} {R : Except (Int × Int) Pl} {t : Ti} {L : List Ti} {Q : Exit → Act → World → Prop} {u1 u3 u4 u5 u6 u7 u9 u10 u11 u12 u13 u14 u15 u16 u17 u18 u19 u20 u21 u22 u23 u24 u25 u26 u27 u28 u29 u30 u31 u32 u33 u34 u35 u36 u37 u38 u39 u40 u41 u42 u43 u44 u45 u46 u47 u48 u49 u50 u51 u52 u53 u54 u55 u56 u57 u58 u59 u60 u61 u62 u63 u64 u65 u66 u67 u68 u69 u70 u71 u72 u73 u74 u75 u76 u77 u78 u79 u80 u81 u82 u83 u84 u85 u86 u87 u88 u89 u90 u91 u92 u93 u94 u95 u96 u97 u98 u99 u100 u101 u102 u103 u104 u105 u106 u107 u108 u109 u110 u111 u112 u113 u114 u115 u116 u117 u118 u119 u120 : Value}
    (hO : ROk X ⟨lv, N, 0, 0, 0, 0, .slice none 0 0, 0, 0, 0⟩ (t :: L) 0 w1) (hb : Below X w0 w1) (hs : (t.1 = 1 ∨ t.1 = 3) ∧ isSup t.2.1 = true) (hTM : TMild (t :: L)) (hR : R = parseX N (t :: L))
    (hQ : ∀ {v9 v10 v11 v12 v13 v14 v15 v16 v17 v18 v19 v20 v21 v22 v23 v24 v25 v26 v27 v28 v29 v30 v31 v32 v33 v34 v35 v36 v37 v38 v39 v40 v41 v42 v43 v44 v45 v46 v47 v48 v49 v50 v51 v52 v53 v54 v55 v56 v57 v58 v59 v60 v61 v62 v63 v64 v65 v66 v67 v68 v69 v70 v71 v72 v73 v74 v75 v76 v77 v78 v79 v80 v81 v82 v83 v84 v85 v86 v87 v88 v89 v90 v91 v92 v93 v94 v95 v96 v97 v98 v99 v100 v101 v102 v103 v104 v105 v106 v107 v108 v109 v110 v111 v112 v113 v114 v115 v116 v117 v118 v119 v120 : Value} {w' : World}, RParse X N w0 R w' → Q .normal (⟨(.string s :: u1 :: .pointer (some ⟨P, 0, none⟩) :: u3 :: u4 :: u5 :: u6 :: u7 :: .pointer (some ⟨X, 0, none⟩) :: v9 :: v10 :: v11 :: v12 :: v13 :: v14 :: v15 :: v16 :: v17 :: v18 :: v19 :: v20 :: v21 :: v22 :: v23 :: v24 :: v25 :: v26 :: v27 :: v28 :: v29 :: v30 :: v31 :: v32 :: v33 :: v34 :: v35 :: v36 :: v37 :: v38 :: v39 :: v40 :: v41 :: v42 :: v43 :: v44 :: v45 :: v46 :: v47 :: v48 :: v49 :: v50 :: v51 :: v52 :: v53 :: v54 :: v55 :: v56 :: v57 :: v58 :: v59 :: v60 :: v61 :: v62 :: v63 :: v64 :: v65 :: v66 :: v67 :: v68 :: v69 :: v70 :: v71 :: v72 :: v73 :: v74 :: v75 :: v76 :: v77 :: v78 :: v79 :: v80 :: v81 :: v82 :: v83 :: v84 :: v85 :: v86 :: v87 :: v88 :: v89 :: v90 :: v91 :: v92 :: v93 :: v94 :: v95 :: v96 :: v97 :: v98 :: v99 :: v100 :: v101 :: v102 :: v103 :: v104 :: v105 :: v106 :: v107 :: v108 :: v109 :: v110 :: v111 :: v112 :: v113 :: v114 :: v115 :: v116 :: v117 :: v118 :: v119 :: v120 :: ([] : List Value)).toArray, []⟩ : Act) w') :
    Code.wp Try.prog thenC Q (⟨(.string s :: u1 :: .pointer (some ⟨P, 0, none⟩) :: u3 :: u4 :: u5 :: u6 :: u7 :: .pointer (some ⟨X, 0, none⟩) :: u9 :: u10 :: u11 :: u12 :: u13 :: u14 :: u15 :: u16 :: u17 :: u18 :: u19 :: u20 :: u21 :: u22 :: u23 :: u24 :: u25 :: u26 :: u27 :: u28 :: u29 :: u30 :: u31 :: u32 :: u33 :: u34 :: u35 :: u36 :: u37 :: u38 :: u39 :: u40 :: u41 :: u42 :: u43 :: u44 :: u45 :: u46 :: u47 :: u48 :: u49 :: u50 :: u51 :: u52 :: u53 :: u54 :: u55 :: u56 :: u57 :: u58 :: u59 :: u60 :: u61 :: u62 :: u63 :: u64 :: u65 :: u66 :: u67 :: u68 :: u69 :: u70 :: u71 :: u72 :: u73 :: u74 :: u75 :: u76 :: u77 :: u78 :: u79 :: u80 :: u81 :: u82 :: u83 :: u84 :: u85 :: u86 :: u87 :: u88 :: u89 :: u90 :: u91 :: u92 :: u93 :: u94 :: u95 :: u96 :: u97 :: u98 :: u99 :: u100 :: u101 :: u102 :: u103 :: u104 :: u105 :: u106 :: u107 :: u108 :: u109 :: u110 :: u111 :: u112 :: u113 :: u114 :: u115 :: u116 :: u117 :: u118 :: u119 :: u120 :: ([] : List Value)).toArray, []⟩ : Act) w1 := by
  obtain ⟨A, cap, hcap, hX, hI⟩ := hO
  obtain ⟨b, off, A', cap', rfl, hbB, c0, c1, c2, c3, hr⟩ := hI 0 t rfl
  have hXl := hX.lt
  have hbl : b < w1.heap.size := by omega
  obtain ⟨hkd, hd⟩ := hs
  have hnm := isSup_eq hd
  obtain ⟨kd, nm, ats, at_⟩ := t
  dsimp only at hkd hnm c0 c1 c2 c3 hr
  subst hnm
  simp at c0 c1 c2 c3
  have x0 := hX.cell 0
  have x0f := hX.frozen 0
  simp at x0
  have HX := hide hX
  have HRd := hide hr
  have hIt := hide hI.tail
  have HTM := hide hTM
  have HB := hide hb
  simp only [List.length_cons] at hcap
  have hTl := hTM.1
  simp only [List.length_cons] at hTl
  have i2 : (1 : Int) ≤ (L.length : Int) + 1 := by omega
  have i3 : (L.length : Int) + 1 ≤ (cap : Int) := by omega
  have HEQ := hide hR
  clear hX hI hr hTM hd hR hb
  conv => arg 2; whnf
  go_upto_region 7 with (fail)
  go_cut [] from 11 to 120 (fun wx => ∃ A2 c2, L.length ≤ c2 ∧ RdI w1 X A2 L ∧ wx = ((w1.setCell ⟨X, 0, none⟩ (.slice A2 L.length c2)).alloc (.cells #[.int .i64 kd, .string sSuper, .slice A' ats.length cap', .int .i64 at_] RTg)))
  case first =>
    by_cases hcap1 : cap = 1
    · subst hcap1
      obtain rfl : L = [] := List.eq_nil_of_length_eq_zero (by omega)
      go_wp2_with fail
      go_meet
      exact ⟨some ⟨b, off, none⟩, 0, by simp, RdI.nil _ _ _, rfl⟩
    · have i4 : ¬ cap - 1 = 0 := by omega
      go_wp2_with fail
      go_meet
      exact ⟨some ⟨b, off + 4, none⟩, cap - 1, by omega, hIt.out, rfl⟩
  case rest =>
    obtain ⟨A2, c2, hc2, hI2, rfl⟩ := hcut
    have hbl : Below X w1 ((w1.setCell ⟨X, 0, none⟩ (.slice A2 L.length c2)).alloc (.cells #[.int .i64 kd, .string sSuper, .slice A' ats.length cap', .int .i64 at_] RTg)) := ((Below.refl X w1).setCell (p := ⟨X, 0, none⟩) (Nat.le_refl X) (.slice A2 L.length c2)).alloc (by simp; omega) _
    go_step
    exact rp2 (Tb := w1.heap.size) (by simpa using (HX.out.set_ 0 (.slice A2 L.length c2)).alloc (.cells #[.int .i64 kd, .string sSuper, .slice A' ats.length cap', .int .i64 at_] RTg)) (show Blk ((w1.setCell ⟨X, 0, none⟩ (.slice A2 L.length c2)).alloc (.cells #[.int .i64 kd, .string sSuper, .slice A' ats.length cap', .int .i64 at_] RTg)) w1.heap.size _ _ from heap_new_at (by simp))
      (hI2.below hbl) (HB.out.trans hbl) (HRd.out.below hbl) hc2 hXl HTM.out hkd HEQ.out hQ
end Go.Proofs.Ytcblakflhheepaa
