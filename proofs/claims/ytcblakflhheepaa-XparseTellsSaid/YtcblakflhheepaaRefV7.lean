/- Chapter 43: the reference's device: its runs. -/
import Derived.Test.YtcblakflhheepaaRefV9
namespace Go.Proofs.Ytcblakflhheepaa
open Go.RowKit
set_option linter.unusedVariables false
set_option linter.unusedSimpArgs false

set_option maxRecDepth 100000 in
set_option maxHeartbeats 8000000 in
theorem rdev7 {X D Tb G : Nat} {r : Rh} {L : List Ti} {sum kd at_ : Int} {tv : Value} {m0 m1 m2 m3 m4 : Int} {devs : List Dv} {w : World} {ce2 pe2 : Int} {wc : World} {R : Except (Int × Int) (List Dv × Int × List Ti)}
    {u1 u6 u7 u8 u9 u10 u11 u12 u13 u14 u15 u16 u17 u18 u19 u20 u21 u22 u23 u24 u25 u26 u27 u28 u29 u30 u31 u32 u33 u34 u35 u36 u37 u38 u39 u40 u41 u42 u43 u44 u45 u46 u47 u48 u49 u50 u51 u52 u53 u54 u55 u56 u57 u58 u59 u60 u61 u62 u63 u64 u65 u66 u67 u68 u69 u70 u71 u72 u73 u74 u75 u76 u77 u78 u79 u80 u81 u82 u83 u84 u85 u86 u87 u88 u89 u90 u91 u92 u93 u94 u95 u96 u97 u98 u99 u100 u101 u102 u103 u104 u105 u106 u107 u108 u109 u110 u111 u112 u113 u114 u115 u116 u117 u118 u119 u120 u121 : Value} (hSb : DvS X D Tb G r L sum kd at_ tv m0 m1 m2 m3 m4 (.slice none 0 0) [] devs w ce2 pe2 wc) (hTL : TMild L) (hda : 0 ≤ r.da ∧ r.da ≤ 65536) (hsm : 0 ≤ sum ∧ sum ≤ 16384) (hdl : devs.length ≤ 5000000) (hkd : kd = 1 ∨ kd = 3)
    (hst : (ce2 ≠ 0 ∧ R = .error (pe2, ce2)) ∨ (ce2 = 0 ∧ R = if kd = 1 then devEndX r.N m1 (m0, m2, m3, m4, []) devs (runsX r.da sum [] L) else if (0 : Int) ≠ m1 then .error (at_, 13) else .ok (devs ++ [(m0, m2, m3, m4, [])], sum, L))) :
    Code.wp Try.prog (sdrop 7 dvBody) (bodyPost Try.prog Try.f53 (RDevOut X r w R)) ⟨(.pointer (some ⟨X, 0, none⟩) :: u1 :: .pointer (some ⟨Tb, 0, none⟩) :: .slice (some ⟨G, 0, none⟩) 5 5 :: .pointer (some ⟨D, 0, none⟩) :: .int .i64 devs.length :: u6 :: u7 :: u8 :: u9 :: u10 :: u11 :: u12 :: u13 :: u14 :: u15 :: u16 :: u17 :: u18 :: u19 :: u20 :: u21 :: u22 :: u23 :: u24 :: u25 :: u26 :: u27 :: u28 :: u29 :: u30 :: u31 :: u32 :: u33 :: u34 :: u35 :: u36 :: u37 :: u38 :: u39 :: u40 :: u41 :: u42 :: u43 :: u44 :: u45 :: u46 :: u47 :: u48 :: u49 :: u50 :: u51 :: u52 :: u53 :: u54 :: u55 :: u56 :: u57 :: u58 :: u59 :: u60 :: u61 :: u62 :: u63 :: u64 :: u65 :: u66 :: u67 :: u68 :: u69 :: u70 :: u71 :: u72 :: u73 :: u74 :: u75 :: u76 :: u77 :: u78 :: u79 :: u80 :: u81 :: u82 :: u83 :: u84 :: u85 :: u86 :: u87 :: u88 :: u89 :: u90 :: u91 :: u92 :: u93 :: u94 :: u95 :: u96 :: u97 :: u98 :: u99 :: u100 :: u101 :: u102 :: u103 :: u104 :: u105 :: u106 :: u107 :: u108 :: u109 :: u110 :: u111 :: u112 :: u113 :: u114 :: u115 :: u116 :: u117 :: u118 :: u119 :: u120 :: u121 :: ([] : List Value)).toArray, []⟩ wc := by
  have HSTb := hide hst
  have HTL := hide hTL
  clear hst hTL
  conv => arg 2; whnf
  obtain ⟨hXlb, hDlb, hTlb, hGlb, d0, d4, t0, t3, n1, x6, x8⟩ := hSb.cells
  clear d0 d4 n1 x6 x8
  go_upto_if 77 with (fail)
  go_cut [6] (fun v wx => ∃ ce pe p sum' T' vm ms, v = .int .i64 p ∧ DvS X D Tb G r T' sum' kd at_ tv m0 m1 m2 m3 m4 vm ms devs w ce pe wx ∧ T'.length ≤ 5000000 ∧
    ((ce ≠ 0 ∧ R = .error (pe, ce)) ∨ (ce = 0 ∧ R = if (ms.length : Int) ≠ m1 then .error (p, 13) else .ok (devs ++ [(m0, m2, m3, m4, ms)], sum', T'))))
  case first =>
    rcases hkd with rfl | rfl
    · rcases HSTb.out with ⟨h1, h2⟩ | ⟨rfl, h2⟩
      · have hE := hSb.err h1 HTL.out.1
        have H1 := hide (rruns_err D hE)
        have H2 := hide (ris_err hE 2 sDevice)
        have H3 := hide (rwrong_err hE)
        have HR := hide (show RDevOut X r w (R) (.returned (.tuple #[])) wc from ⟨rfl, hSb.bel, by rw [h2]; exact hE⟩)
        clear hE h2
        go_wp2_with (fail)
        refine H1.out.mono ?_
        rintro e w4 ⟨rfl, hw4⟩
        have hw5 := hw4.symm
        subst hw5
        go_wp2_with (fail)
        refine H2.out.mono ?_
        rintro e w4 ⟨rfl, hw4⟩
        have hw5 := hw4.symm
        subst hw5
        go_wp2_with (fail)
        refine H3.out.mono ?_
        rintro e w4 ⟨rfl, hw4⟩
        have hw5 := hw4.symm
        subst hw5
        go_wp2_with (fail)
        go_end0
        exact HR.out
      · have hR := hSb.runs hda hsm HTL.out
        obtain ⟨R, hRR⟩ : ∃ R, runsX r.da sum [] L = R := ⟨_, rfl⟩
        rw [hRR] at hR h2
        have HC := hide hR
        have HRR := hide hRR
        have H2 := hide h2
        clear hR hRR h2
        go_wp2_with (fail)
        refine HC.out.mono ?_
        rintro e w4 ⟨rfl, hb4, h4⟩
        have HB4 := hide hb4
        clear hb4
        cases R with
        | error pc =>
          obtain ⟨p, c⟩ := pc
          have hE : RErr X r.N p c w4 := h4
          have H3 := hide (ris_err hE 2 sDevice)
          have H4 := hide (rwrong_err hE)
          have HR := hide (show RDevOut X r w (R) (.returned (.tuple #[])) w4 from ⟨rfl, HB4.out, by rw [H2.out]; exact hE⟩)
          clear hE h4
          go_wp2_with (fail)
          refine H3.out.mono ?_
          rintro e w4 ⟨rfl, hw4⟩
          have hw5 := hw4.symm
          subst hw5
          go_wp2_with (fail)
          refine H4.out.mono ?_
          rintro e w4 ⟨rfl, hw4⟩
          have hw5 := hw4.symm
          subst hw5
          go_wp2_with (fail)
          go_end0
          exact HR.out
        | ok q =>
          obtain ⟨s4, ms4, T4⟩ := q
          obtain ⟨vm4, hS4⟩ := h4
          obtain ⟨k1, k2, k3⟩ := runsX_ok hsm HRR.out
          have hT4 : T4.length ≤ 5000000 := by have := HTL.out.1; omega
          obtain ⟨v, hv⟩ : ∃ v, isR 0 T4 2 sDevice = v := ⟨_, rfl⟩
          have H3 := hide (hS4.is0 hT4 2 sDevice v hv)
          have hXl4 := hS4.cells.1
          cases v
          · have H4 := hide (hS4.wrong0 hT4)
            have HE := hide (show R = .error (headAt r.N T4, 16) from by
              rw [H2.out]
              cases T4 with
              | nil => rfl
              | cons c T5 =>
                show (if c.1 = 2 ∧ isDev c.2.1 = true then _ else _) = _
                rw [if_neg]
                · rfl
                · rintro ⟨y1, y2⟩
                  have y3 := isDev_eq y2
                  simp [isR, y1, y3] at hv)
            clear hv hS4 k3
            go_wp2_with (fail)
            refine H3.out.mono ?_
            rintro e w5 ⟨rfl, hw5⟩
            have hw6 := hw5.symm
            subst hw6
            go_wp2_with (fail)
            refine H4.out.mono ?_
            rintro e w6 ⟨rfl, hb6, hE6⟩
            have HR := hide (show RDevOut X r w (R) (.returned (.tuple #[])) w6 from ⟨rfl, hb6, by rw [HE.out]; exact hE6⟩)
            clear hb6 hE6
            go_wp2_with (fail)
            go_end0
            exact HR.out
          · obtain ⟨c, T5, rfl⟩ : ∃ c T5, T4 = c :: T5 := by
              cases T4 with
              | nil => simp [isR] at hv
              | cons c T5 => exact ⟨c, T5, rfl⟩
            simp only [List.length_cons] at hT4
            have HE := hide (show R = if (ms4.length : Int) ≠ m1 then .error (c.2.2.2, 13) else .ok (devs ++ [(m0, m2, m3, m4, ms4)], s4, T5) from by
              rw [H2.out]
              show (if c.1 = 2 ∧ isDev c.2.1 = true then _ else _) = _
              rw [if_pos]
              simp only [isR, Bool.and_eq_true, decide_eq_true_eq, beq_iff_eq] at hv
              exact ⟨hv.2.1, by rw [bytes_list hv.2.2]; exact isDev_d⟩)
            obtain ⟨b5, off5, c5, x0, x0f, j1, j2, j3, j4⟩ := hS4.head
            have J4 := hide j4
            have i2 : (1 : Int) ≤ (T5.length : Int) + 1 := by omega
            have i3 : (T5.length : Int) + 1 ≤ (c5 : Int) := by omega
            clear hv hS4 k3 j4
            by_cases hc1 : c5 = 1
            · subst hc1
              obtain rfl : T5 = [] := List.eq_nil_of_length_eq_zero (by omega)
              go_wp2_with (fail)
              refine H3.out.mono ?_
              rintro e w5 ⟨rfl, hw5⟩
              have hw6 := hw5.symm
              subst hw6
              go_wp2_with (fail)
              go_meet
              exact ⟨0, pe2, c.2.2.2, s4, [], vm4, ms4, rfl, J4.out (some ⟨b5, off5, none⟩) 0 (.inl ⟨by trivial, rfl, rfl⟩), by simp, .inr ⟨by trivial, HE.out⟩⟩
            · have i4 : ¬ c5 - 1 = 0 := by omega
              go_wp2_with (fail)
              refine H3.out.mono ?_
              rintro e w5 ⟨rfl, hw5⟩
              have hw6 := hw5.symm
              subst hw6
              go_wp2_with (fail)
              go_meet
              exact ⟨0, pe2, c.2.2.2, s4, T5, vm4, ms4, rfl, J4.out (some ⟨b5, off5 + 4, none⟩) (c5 - 1) (.inr ⟨hc1, rfl, rfl⟩), by omega, .inr ⟨by trivial, HE.out⟩⟩
    · have H9 := hide (show ∃ ce pe p sum' T' vm ms, Value.int .i64 at_ = .int .i64 p ∧ DvS X D Tb G r T' sum' 3 at_ tv m0 m1 m2 m3 m4 vm ms devs w ce pe wc ∧ T'.length ≤ 5000000 ∧
        ((ce ≠ 0 ∧ R = .error (pe, ce)) ∨ (ce = 0 ∧ R = if (ms.length : Int) ≠ m1 then .error (p, 13) else .ok (devs ++ [(m0, m2, m3, m4, ms)], sum', T'))) from
        ⟨ce2, pe2, at_, sum, L, _, [], rfl, hSb, HTL.out.1, HSTb.out⟩)
      go_wp2_with (fail)
      go_meet
      exact H9.out
  case rest =>
    obtain ⟨ce3, pe3, p3, sum3, T3, vm3, ms3, rfl, hSc, hT3, hstc⟩ := hcut
    rename_i K hK
    refine hK _ _ ?_
    exact rdev9 hSc hT3 hdl hstc
end Go.Proofs.Ytcblakflhheepaa
