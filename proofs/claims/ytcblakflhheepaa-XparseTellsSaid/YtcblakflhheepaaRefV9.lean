/- Chapter 43: the reference's device: its end. -/
import Derived.Test.YtcblakflhheepaaRefK
import Derived.BigQuiet
namespace Go.Proofs.Ytcblakflhheepaa
open Go.RowKit
set_option linter.unusedVariables false
set_option linter.unusedSimpArgs false

/-- A statement's list less its first n statements. -/
def sdrop : Nat → Code → Code
  | 0, c => c
  | n + 1, .seq _ b => sdrop n b
  | _ + 1, c => c
noncomputable def dvBody : Code := (Try.f53.body).getD .skip
/-- .. behind draws. -/
theorem DvS.fin' {X D Tb G : Nat} {r : Rh} {T : List Ti} {sum kd at_ : Int} {tv : Value} {m0 m1 m2 m3 m4 : Int} {ms : List Mp} {devs : List Dv} {w0 : World} {ce pe : Int} {w w1 : World} {rows : List Dr} {Am : Option Addr} {nm cm g n1 cap : Nat}
    (h : DvS X D Tb G r T sum kd at_ tv m0 m1 m2 m3 m4 (.slice Am nm cm) ms devs w0 ce pe w) (hV4 : Own w (X + 1) 123 5 drc r.dv rows) (hV5 : MD w (X + 1) rows devs) (k : Nat)
    (hO1 : Own w1 (X + 1) 123 5 drc (.slice (some ⟨g, 0, none⟩) n1 cap) (rows ++ [(m0, m2, m3, m4, (Am, nm, cm))])) (hg : ((w.drewN k).alloc (.cells #[.int .i64 m0, .int .i64 m2, .int .i64 m3, .int .i64 m4, .slice Am nm cm] 123)).grownBy w1 r.dv.ownBlock) (hT : T.length ≤ 5000000) :
    w1.cell? ⟨X, 6, none⟩ = some r.dv ∧ w1.frozen? ⟨X, 6, none⟩ = false ∧ X < w1.heap.size ∧ ∀ q,
      Below X w0 ((w1.setCell ⟨X, 6, none⟩ (.slice (some ⟨g, 0, none⟩) n1 cap)).drewN q) ∧ (ce ≠ 0 → RErr X r.N pe ce ((w1.setCell ⟨X, 6, none⟩ (.slice (some ⟨g, 0, none⟩) n1 cap)).drewN q)) ∧
      (ce = 0 → ∃ v a, ROk X { r with dv := v, at_ := a } T sum ((w1.setCell ⟨X, 6, none⟩ (.slice (some ⟨g, 0, none⟩) n1 cap)).drewN q) ∧ RDev X ((w1.setCell ⟨X, 6, none⟩ (.slice (some ⟨g, 0, none⟩) n1 cap)).drewN q) v (devs ++ [(m0, m2, m3, m4, ms)])) :=
  (h.drewN k).fin (hV4.drewN k) (hV5.keep (fun r' _ l hl => hl.drewN k)) hO1 hg hT
set_option maxRecDepth 100000 in
set_option maxHeartbeats 8000000 in
theorem rdev9 {X D Tb G : Nat} {r : Rh} {T : List Ti} {sum kd at_ : Int} {tv : Value} {m0 m1 m2 m3 m4 : Int} {vm : Value} {ms : List Mp} {devs : List Dv} {w : World} {ce pe p : Int} {wc : World} {R : Except (Int × Int) (List Dv × Int × List Ti)}
    {u1 u7 u8 u9 u10 u11 u12 u13 u14 u15 u16 u17 u18 u19 u20 u21 u22 u23 u24 u25 u26 u27 u28 u29 u30 u31 u32 u33 u34 u35 u36 u37 u38 u39 u40 u41 u42 u43 u44 u45 u46 u47 u48 u49 u50 u51 u52 u53 u54 u55 u56 u57 u58 u59 u60 u61 u62 u63 u64 u65 u66 u67 u68 u69 u70 u71 u72 u73 u74 u75 u76 u77 u78 u79 u80 u81 u82 u83 u84 u85 u86 u87 u88 u89 u90 u91 u92 u93 u94 u95 u96 u97 u98 u99 u100 u101 u102 u103 u104 u105 u106 u107 u108 u109 u110 u111 u112 u113 u114 u115 u116 u117 u118 u119 u120 u121 : Value} (hSc : DvS X D Tb G r T sum kd at_ tv m0 m1 m2 m3 m4 vm ms devs w ce pe wc) (hT : T.length ≤ 5000000) (hdl : devs.length ≤ 5000000)
    (hst : (ce ≠ 0 ∧ R = .error (pe, ce)) ∨ (ce = 0 ∧ R = if (ms.length : Int) ≠ m1 then .error (p, 13) else .ok (devs ++ [(m0, m2, m3, m4, ms)], sum, T))) :
    Code.wp Try.prog (sdrop 9 dvBody) (bodyPost Try.prog Try.f53 (RDevOut X r w R)) ⟨(.pointer (some ⟨X, 0, none⟩) :: u1 :: .pointer (some ⟨Tb, 0, none⟩) :: .slice (some ⟨G, 0, none⟩) 5 5 :: .pointer (some ⟨D, 0, none⟩) :: .int .i64 devs.length :: .int .i64 p :: u7 :: u8 :: u9 :: u10 :: u11 :: u12 :: u13 :: u14 :: u15 :: u16 :: u17 :: u18 :: u19 :: u20 :: u21 :: u22 :: u23 :: u24 :: u25 :: u26 :: u27 :: u28 :: u29 :: u30 :: u31 :: u32 :: u33 :: u34 :: u35 :: u36 :: u37 :: u38 :: u39 :: u40 :: u41 :: u42 :: u43 :: u44 :: u45 :: u46 :: u47 :: u48 :: u49 :: u50 :: u51 :: u52 :: u53 :: u54 :: u55 :: u56 :: u57 :: u58 :: u59 :: u60 :: u61 :: u62 :: u63 :: u64 :: u65 :: u66 :: u67 :: u68 :: u69 :: u70 :: u71 :: u72 :: u73 :: u74 :: u75 :: u76 :: u77 :: u78 :: u79 :: u80 :: u81 :: u82 :: u83 :: u84 :: u85 :: u86 :: u87 :: u88 :: u89 :: u90 :: u91 :: u92 :: u93 :: u94 :: u95 :: u96 :: u97 :: u98 :: u99 :: u100 :: u101 :: u102 :: u103 :: u104 :: u105 :: u106 :: u107 :: u108 :: u109 :: u110 :: u111 :: u112 :: u113 :: u114 :: u115 :: u116 :: u117 :: u118 :: u119 :: u120 :: u121 :: ([] : List Value)).toArray, []⟩ wc := by
  have HSTc := hide hst
  clear hst
  obtain ⟨rows, Am, nm, cm, rfl, rfl, hrl, -, -⟩ := hSc.app
  obtain ⟨hXlc, hDlc, hTlc, hGlc, d0, d4, t0, t3, n1, x6, x8⟩ := hSc.cells
  clear d0 t0 t3 x6 x8
  conv => arg 2; whnf
  go_upto_region 16 with (fail)
  go_cut [106] (fun v wx => v = .bool ((ms.length : Int) != m1) ∧ ∃ q, wx = wc.drewN q)
  case first =>
    go_quiet (fail)
    go_wp2_with fail
    go_meet
    exact ⟨rfl, _, rfl⟩
  case rest =>
    obtain ⟨rfl, q, rfl⟩ := hcut
    have hSd := hSc.drewN q
    clear hSc hXlc hDlc hTlc hGlc d4 n1
    generalize (wc.drewN q) = wd at *
    obtain ⟨u, hu⟩ : ∃ u, ((ms.length : Int) != m1) = u := ⟨_, rfl⟩
    rw [hu]
    go_upto_if 106 with (fail)
    go_cut [] (fun wx => ∃ ce pe, DvS X D Tb G r T sum kd at_ tv m0 m1 m2 m3 m4 (.slice Am ms.length cm) ms devs w ce pe wx ∧
      ((ce ≠ 0 ∧ R = .error (pe, ce)) ∨ (ce = 0 ∧ R = .ok (devs ++ [(m0, m2, m3, m4, ms)], sum, T))))
    case first =>
      cases u
      · have H9 := hide (show ∃ ce pe, DvS X D Tb G r T sum kd at_ tv m0 m1 m2 m3 m4 (.slice Am ms.length cm) ms devs w ce pe wd ∧
          ((ce ≠ 0 ∧ R = .error (pe, ce)) ∨ (ce = 0 ∧ R = .ok (devs ++ [(m0, m2, m3, m4, ms)], sum, T))) from
          ⟨ce, pe, hSd, HSTc.out.imp id (fun ⟨h1, h2⟩ => ⟨h1, by rw [h2, if_neg]; simpa using hu⟩)⟩)
        go_wp2_with fail
        go_meet
        exact H9.out
      · have H9 := hide (show Calls Try.prog 91 #[.pointer (some ⟨X, 0, none⟩), .int .i64 p, .int .i64 13] wd fun e w' => e = .returned (.tuple #[]) ∧ ∃ ce pe, DvS X D Tb G r T sum kd at_ tv m0 m1 m2 m3 m4 (.slice Am ms.length cm) ms devs w ce pe w' ∧
          ((ce ≠ 0 ∧ R = .error (pe, ce)) ∨ (ce = 0 ∧ R = .ok (devs ++ [(m0, m2, m3, m4, ms)], sum, T))) from by
          rcases HSTc.out with ⟨h1, h2⟩ | ⟨rfl, h2⟩
          · exact (hSd.badno h1 p 13).mono fun e w' h => ⟨h.1, ce, pe, h.2, .inl ⟨h1, h2⟩⟩
          · refine (hSd.bad p 13).mono fun e w' h => ⟨h.1, 13, p, h.2, .inl ⟨by decide, ?_⟩⟩
            rw [h2, if_pos]
            simpa using hu)
        go_wp2_with fail
        refine H9.out.mono ?_
        rintro e w9 ⟨rfl, h9⟩
        have H10 := hide h9
        clear h9
        go_wp2_with fail
        go_meet
        exact H10.out
    case rest =>
      obtain ⟨ce4, pe4, hSe, hste⟩ := hcut
      have HSTe := hide hste
      clear hste hSd HSTc hu hrl rows
      obtain ⟨rows, Am', nm', cm', hvm, -, hrl, hV4, hV5⟩ := hSe.app
      have HV4 := hide hV4
      have hDe := hSe.fD
      have d0 := hDe.cell 0
      have d1 := hDe.cell 1
      have d2 := hDe.cell 2
      have d3 := hDe.cell 3
      have d4 := hDe.cell 4
      simp at d0 d1 d2 d3 d4
      obtain ⟨hXlc, hDlc, hTlc, hGlc, -, -, -, -, -, x6, x8⟩ := hSe.cells
      have hrl5 : rows.length ≤ 5000000 := by omega
      have HNE := hide (own_blk_ne hV4 hSe.fX.choose_spec.choose_spec.2.1 (by decide))
      clear hvm x8 hTlc hGlc hV4 hDe
      go_wp2_with (fail)
      go_region_law ((refine step_append1 _ (by rfl) (.tmp 115) (.tmp 117) 64 (by rfl) Try.underlying64 infoDev (by rfl) (by decide) drc_len drc_one (base := X + 1) (v := r.dv) (l := rows) (by rfl) (by repeat (first | exact HV4.out | refine Own.alloc ?_ _ | refine Own.drewN ?_ _ | refine Own.drew ?_)) (m0, m2, m3, m4, (Am, ms.length, cm)) wc.heap.size 1 (by rfl) ⟨_, _, (show (wc.alloc _).heap[wc.heap.size]? = some _ from heap_new_at rfl)⟩ (by omega) (by omega) (by show X + 1 ≤ (wc.alloc _).heap.size; simp; omega) ?_; intro gn capn w1 hO1 hg1 hat1 hlt1; first | (obtain ⟨q1, q2, q3, q4⟩ := hSe.fin' HV4.out hV5 1 hO1 hg1 hT; have HQ4 := hide q4; clear hO1 hg1 hat1 hlt1 q4) | (obtain ⟨q1, q2, q3, q4⟩ := hSe.fin' HV4.out hV5 2 hO1 hg1 hT; have HQ4 := hide q4; clear hO1 hg1 hat1 hlt1 q4) | (obtain ⟨q1, q2, q3, q4⟩ := hSe.fin' HV4.out hV5 0 hO1 hg1 hT; have HQ4 := hide q4; clear hO1 hg1 hat1 hlt1 q4)))
      all_goals
        refine bodyPost_end (results_none rfl _ _ _) rfl ?_
        have hz := HQ4.out 0
        rw [hrl] at hz
        obtain ⟨z1, z2, z3⟩ := hz
        rcases HSTe.out with ⟨h1, h2⟩ | ⟨h1, h2⟩
        · exact ⟨rfl, z1, by rw [h2]; exact z2 h1⟩
        · exact ⟨rfl, z1, by rw [h2]; exact z3 h1⟩
end Go.Proofs.Ytcblakflhheepaa
