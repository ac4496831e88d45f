/- Chapter 43: the reference's device: its place among the devices. -/
import Derived.Test.YtcblakflhheepaaRefV7
namespace Go.Proofs.Ytcblakflhheepaa
open Go.RowKit
set_option linter.unusedVariables false
set_option linter.unusedSimpArgs false

set_option maxRecDepth 100000 in
set_option maxHeartbeats 8000000 in
theorem rdev6 {X D Tb G : Nat} {r : Rh} {L : List Ti} {sum kd at_ : Int} {ats : List Ai} {tv : Value} {m0 m1 m2 m3 m4 : Int} {devs : List Dv} {w : World} {ce1 pe1 : Int} {wc : World} {R : Except (Int × Int) (List Dv × Int × List Ti)}
    {u1 u6 u7 u8 u9 u10 u11 u12 u13 u14 u15 u16 u17 u18 u19 u20 u21 u22 u23 u24 u25 u26 u27 u28 u29 u30 u31 u32 u33 u34 u35 u36 u37 u38 u39 u40 u41 u42 u43 u44 u45 u46 u47 u48 u49 u50 u51 u52 u53 u54 u55 u56 u57 u58 u59 u60 u61 u62 u63 u64 u65 u66 u67 u68 u69 u70 u71 u72 u73 u74 u75 u76 u77 u78 u79 u80 u81 u82 u83 u84 u85 u86 u87 u88 u89 u90 u91 u92 u93 u94 u95 u96 u97 u98 u99 u100 u101 u102 u103 u104 u105 u106 u107 u108 u109 u110 u111 u112 u113 u114 u115 u116 u117 u118 u119 u120 u121 : Value} (hS9 : DvS X D Tb G r L sum kd at_ tv m0 m1 m2 m3 m4 (.slice none 0 0) [] devs w ce1 pe1 wc) (hTL : TMild L) (hda : 0 ≤ r.da ∧ r.da ≤ 65536) (hsm : 0 ≤ sum ∧ sum ≤ 16384) (hdlen : devs.length ≤ 5000000) (hkd : kd = 1 ∨ kd = 3)
    (hR : R = devX r.N r.da devs sum (kd, sDevice, ats, at_) L) (hst : (ce1 ≠ 0 ∧ R = .error (pe1, ce1)) ∨ (ce1 = 0 ∧ ∃ o, numsL false kDevice at_ ats [] = .ok o ∧ [m0, m1, m2, m3, m4] = kDevice.map (fun x => gv o x.1) ∧ ¬ (4096 : Int) ≤ (devs.length : Int))) :
    Code.wp Try.prog (sdrop 6 dvBody) (bodyPost Try.prog Try.f53 (RDevOut X r w R)) ⟨(.pointer (some ⟨X, 0, none⟩) :: u1 :: .pointer (some ⟨Tb, 0, none⟩) :: .slice (some ⟨G, 0, none⟩) 5 5 :: .pointer (some ⟨D, 0, none⟩) :: .int .i64 devs.length :: u6 :: u7 :: u8 :: u9 :: u10 :: u11 :: u12 :: u13 :: u14 :: u15 :: u16 :: u17 :: u18 :: u19 :: u20 :: u21 :: u22 :: u23 :: u24 :: u25 :: u26 :: u27 :: u28 :: u29 :: u30 :: u31 :: u32 :: u33 :: u34 :: u35 :: u36 :: u37 :: u38 :: u39 :: u40 :: u41 :: u42 :: u43 :: u44 :: u45 :: u46 :: u47 :: u48 :: u49 :: u50 :: u51 :: u52 :: u53 :: u54 :: u55 :: u56 :: u57 :: u58 :: u59 :: u60 :: u61 :: u62 :: u63 :: u64 :: u65 :: u66 :: u67 :: u68 :: u69 :: u70 :: u71 :: u72 :: u73 :: u74 :: u75 :: u76 :: u77 :: u78 :: u79 :: u80 :: u81 :: u82 :: u83 :: u84 :: u85 :: u86 :: u87 :: u88 :: u89 :: u90 :: u91 :: u92 :: u93 :: u94 :: u95 :: u96 :: u97 :: u98 :: u99 :: u100 :: u101 :: u102 :: u103 :: u104 :: u105 :: u106 :: u107 :: u108 :: u109 :: u110 :: u111 :: u112 :: u113 :: u114 :: u115 :: u116 :: u117 :: u118 :: u119 :: u120 :: u121 :: ([] : List Value)).toArray, []⟩ wc := by
  have HST9 := hide hst
  have HEQ := hide hR
  clear hst hR
  conv => arg 2; whnf
  obtain ⟨hXl9, hDl9, hTl9, hGl9, d0, d4, t0, t3, n1, x6, x8⟩ := hS9.cells
  obtain ⟨Ad, cd, hdv, hdl⟩ := hS9.dv
  rw [hdv] at x6
  clear hdv d4 t0 n1 x8
  go_upto_region 7 with (fail)
  go_cut [68] (fun v wx => v = .bool (lateP devs m0) ∧ ∃ q, wx = wc.drewN q)
  case first =>
    rcases List.eq_nil_or_concat devs with hdn | ⟨li, ll, hdn⟩
    · have HL := hide (show lateP devs m0 = false by rw [hdn]; rfl)
      have k0 : decide ((0 : Int) < (devs.length : Int)) = false := by rw [hdn]; rfl
      have k0' : decide (0 < devs.length) = false := by rw [hdn]; rfl
      clear hdn hdl
      go_quiet (fail)
      go_wp2_with fail
      go_meet
      exact ⟨by rw [HL.out], _, rfl⟩
    · rw [List.concat_eq_append] at hdn
      obtain ⟨rb, rf, hAe, hrb, hl0⟩ := hdl li.length ll (by rw [hdn]; simp)
      have HL := hide (show lateP devs m0 = decide (m0 ≤ ll.1) by rw [hdn]; simp [lateP])
      have hlen : devs.length = li.length + 1 := by rw [hdn]; simp
      have k0 : decide ((0 : Int) < (devs.length : Int)) = true := by rw [decide_eq_true_eq]; omega
      have k0' : decide (0 < devs.length) = true := by rw [decide_eq_true_eq]; omega
      have k1 : (0 : Int) ≤ (li.length : Int) := by omega
      have k2 : (li.length : Int) < (devs.length : Int) := by omega
      have k3 : IntKind.i64.wrap ((devs.length : Int) - 1) = (li.length : Int) := by
        have : (devs.length : Int) - 1 = (li.length : Int) := by omega
        rw [this]; exact IntWalk.i64_in _ (by omega)
      rw [hAe] at x6
      clear hdn hlen hdl
      go_quiet (fail)
      go_wp2_with fail
      go_meet
      exact ⟨by rw [HL.out], _, rfl⟩
  case rest =>
    obtain ⟨rfl, q, rfl⟩ := hcut
    have hSa := hS9.drewN q
    clear hS9 hXl9 hDl9 hTl9 hGl9 d0 t3 x6 hdl
    generalize (wc.drewN q) = wa at *
    obtain ⟨hXla, hDla, hTla, hGla, d0, d4, t0, t3, n1, x6, x8⟩ := hSa.cells
    clear d0 d4 t0 n1 x6 x8
    obtain ⟨u, hu⟩ : ∃ u, lateP devs m0 = u := ⟨_, rfl⟩
    rw [hu]
    go_upto_if 68 with (fail)
    go_cut [] (fun wx => ∃ ce pe, DvS X D Tb G r L sum kd at_ tv m0 m1 m2 m3 m4 (.slice none 0 0) [] devs w ce pe wx ∧
      ((ce ≠ 0 ∧ R = .error (pe, ce)) ∨ (ce = 0 ∧ R = if kd = 1 then devEndX r.N m1 (m0, m2, m3, m4, []) devs (runsX r.da sum [] L) else if (0 : Int) ≠ m1 then .error (at_, 13) else .ok (devs ++ [(m0, m2, m3, m4, [])], sum, L))))
    case first =>
      cases u
      · have H9 := hide (show ∃ ce pe, DvS X D Tb G r L sum kd at_ tv m0 m1 m2 m3 m4 (.slice none 0 0) [] devs w ce pe wa ∧
          ((ce ≠ 0 ∧ R = .error (pe, ce)) ∨ (ce = 0 ∧ R = if kd = 1 then devEndX r.N m1 (m0, m2, m3, m4, []) devs (runsX r.da sum [] L) else if (0 : Int) ≠ m1 then .error (at_, 13) else .ok (devs ++ [(m0, m2, m3, m4, [])], sum, L))) from by
          refine ⟨ce1, pe1, hSa, HST9.out.imp id ?_⟩
          rintro ⟨h1, o, h2, h3, h4⟩
          obtain ⟨rfl, rfl, rfl, rfl, rfl⟩ := dev_ns h3
          refine ⟨h1, ?_⟩
          rw [HEQ.out]
          unfold devX
          dsimp only
          rw [h2]
          dsimp only
          rw [if_neg h4, hu]
          rfl)
        go_wp2_with fail
        go_meet
        exact H9.out
      · have H9 := hide (show Calls Try.prog 91 #[.pointer (some ⟨X, 0, none⟩), .int .i64 at_, .int .i64 8] wa fun e w' => e = .returned (.tuple #[]) ∧ ∃ ce pe, DvS X D Tb G r L sum kd at_ tv m0 m1 m2 m3 m4 (.slice none 0 0) [] devs w ce pe w' ∧
          ((ce ≠ 0 ∧ R = .error (pe, ce)) ∨ (ce = 0 ∧ R = if kd = 1 then devEndX r.N m1 (m0, m2, m3, m4, []) devs (runsX r.da sum [] L) else if (0 : Int) ≠ m1 then .error (at_, 13) else .ok (devs ++ [(m0, m2, m3, m4, [])], sum, L))) from by
          rcases HST9.out with ⟨h1, h2⟩ | ⟨rfl, o, h2, h3, h4⟩
          · exact (hSa.badno h1 at_ 8).mono fun e w' h => ⟨h.1, ce1, pe1, h.2, .inl ⟨h1, h2⟩⟩
          · refine (hSa.bad at_ 8).mono fun e w' h => ⟨h.1, 8, at_, h.2, .inl ⟨by decide, ?_⟩⟩
            obtain ⟨rfl, -⟩ := dev_ns h3
            rw [HEQ.out]
            unfold devX
            dsimp only
            rw [h2]
            dsimp only
            rw [if_neg h4, hu]
            rfl)
        go_wp2_with fail
        refine H9.out.mono ?_
        rintro e w9 ⟨rfl, h9⟩
        have H10 := hide h9
        clear h9
        go_wp2_with fail
        go_meet
        exact H10.out
    case rest =>
      obtain ⟨ce2, pe2, hSb, hstb⟩ := hcut
      go_step
      exact rdev7 hSb hTL hda hsm hdlen hkd hstb
end Go.Proofs.Ytcblakflhheepaa
