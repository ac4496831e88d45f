/- Chapter 43: the reference's Parse, and the law XparseTells. -/
import Derived.Test.YtcblakflhheepaaRefW
import Derived.Test.YtcblakflhheepaaRefH
namespace Go.Proofs.Ytcblakflhheepaa
open Go.RowKit
set_option linter.unusedVariables false
set_option linter.unusedSimpArgs false

theorem own_capT {α : Type} {w : World} {base : Nat} {e : TypeId} {size : Nat} {c : α → List Value} {A : Option Addr} {n cap : Nat} {l : List α} (h : Own w base e size c (.slice A n cap) l) : l.length ≤ cap := by
  rcases h.2 with ⟨h1, hn⟩ | ⟨g, cp, cur, h1, hb, hg, hnc, -⟩
  · omega
  · injection h1 with e1 e2 e3
    omega
set_option maxRecDepth 100000 in
set_option maxHeartbeats 8000000 in
/-- The end of the reference's Parse. -/
theorem rp5 {X P : Nat} {N : Int} {s : ByteArray} {w w4 wc : World} {R : Except (Int × Int) Pl} {u1 u3 u4 u5 u6 u7 u9 u10 u11 u12 u13 u14 u15 u16 u17 u18 u19 u20 u21 u22 u23 u24 u25 u26 u27 u28 u29 u30 u31 u32 u33 u34 u35 u36 u37 u38 u39 u40 u41 u42 u43 u44 u45 u46 u47 u48 u49 u50 u51 u52 u53 u54 u55 u56 u57 u58 u59 u60 u61 u62 u63 u64 u65 u66 u67 u68 u69 u70 u71 u72 u73 u74 u75 u76 u77 u78 u79 u80 u81 u82 u83 u84 u85 u86 u87 u88 u89 u90 u91 u92 u93 u94 u95 u96 u97 u98 u99 u100 u101 u102 u103 u104 u105 u106 u107 u108 u109 u110 u111 u112 u113 u114 u115 u116 u117 u118 u119 u120 : Value} (hPw : w.heap.size = P) (hP : Blk w4 P 66 pool0) (hPX : P < X) (hb4 : Below P w w4) (hM : RParse X N w4 R wc) :
    Code.wp Try.prog (sdrop 5 psBody) (bodyPost Try.prog Try.f32 (ParseOut w R)) (⟨(.string s :: u1 :: .pointer (some ⟨P, 0, none⟩) :: u3 :: u4 :: u5 :: u6 :: u7 :: .pointer (some ⟨X, 0, none⟩) :: u9 :: u10 :: u11 :: u12 :: u13 :: u14 :: u15 :: u16 :: u17 :: u18 :: u19 :: u20 :: u21 :: u22 :: u23 :: u24 :: u25 :: u26 :: u27 :: u28 :: u29 :: u30 :: u31 :: u32 :: u33 :: u34 :: u35 :: u36 :: u37 :: u38 :: u39 :: u40 :: u41 :: u42 :: u43 :: u44 :: u45 :: u46 :: u47 :: u48 :: u49 :: u50 :: u51 :: u52 :: u53 :: u54 :: u55 :: u56 :: u57 :: u58 :: u59 :: u60 :: u61 :: u62 :: u63 :: u64 :: u65 :: u66 :: u67 :: u68 :: u69 :: u70 :: u71 :: u72 :: u73 :: u74 :: u75 :: u76 :: u77 :: u78 :: u79 :: u80 :: u81 :: u82 :: u83 :: u84 :: u85 :: u86 :: u87 :: u88 :: u89 :: u90 :: u91 :: u92 :: u93 :: u94 :: u95 :: u96 :: u97 :: u98 :: u99 :: u100 :: u101 :: u102 :: u103 :: u104 :: u105 :: u106 :: u107 :: u108 :: u109 :: u110 :: u111 :: u112 :: u113 :: u114 :: u115 :: u116 :: u117 :: u118 :: u119 :: u120 :: ([] : List Value)).toArray, []⟩ : Act) wc := by
  obtain ⟨hb, hst⟩ := hM
  have hP5 := hP.below hb hPX
  have hB5 := hb4.trans (hb.mono (by omega))
  have fz := hP5.frozen
  have hPl := hP5.lt
  have p0 := hP5.cell 0
  have p1 := hP5.cell 1
  have p2 := hP5.cell 2
  have p3 := hP5.cell 3
  have p4 := hP5.cell 4
  simp at p0 p1 p2 p3 p4
  have hXP : X ≠ P := by omega
  have hPX' : P ≠ X := by omega
  conv => arg 2; whnf
  cases R with
  | error pc =>
    obtain ⟨p, c⟩ := pc
    obtain ⟨hc, r, T, A, cap, h1, h2, h3, h4, h5, h6, h7⟩ := hst
    have x8 := h6.cell 8
    have x9 := h6.cell 9
    have hXl := h6.lt
    simp at x8 x9
    rw [h2] at x8
    rw [h3] at x9
    have hc0 : (c != 0) = true := by simpa using hc
    have hst := (fun (W : World) (hW : W = setP wc P (.int .i64 0) (.int .i64 0) (.int .i64 0) (.int .i64 0) (.slice none 0 0)) => setP_ok hP5 hB5 (Nat.le_refl _) (.int .i64 0) (.int .i64 0) (.int .i64 0) (.int .i64 0) (.slice none 0 0) hW)
    obtain ⟨q0, q1, q2, q3, q4, q5⟩ := hst _ rfl
    have HQ0 := hide q0; have HQ1 := hide q1; have HQ2 := hide q2; have HQ3 := hide q3; have HQ4 := hide q4; have HQ5 := hide q5
    have HPW := hide hPw
    clear hst q0 q1 q2 q3 q4 q5 h1 h2 h3 h4 h5 h6 h7 hb hP hP5 hB5 hb4 hc hPw
    go_wp2_with (fail)
    go_region
    all_goals
      have q0 := HQ0.out; have q1 := HQ1.out; have q2 := HQ2.out; have q3 := HQ3.out; have q4 := HQ4.out
      go_wp2
      refine bodyPost_ret (v := .tuple #[.agg pool0, .int .i64 p, .int .i64 c]) (by simp [results, Try.results32, go_sem, q0, q1, q2, q3, q4]) rfl ?_
      exact ⟨rfl, by rw [HPW.out]; exact HQ5.out.drew⟩
  | ok pl =>
    obtain ⟨t1, t2, t3, t4, D⟩ := pl
    obtain ⟨lv, sum, a, v, hX, hV⟩ := hst
    dsimp only at hX hV
    obtain ⟨A, cap, rfl, -⟩ := hV.rd
    have x2 := hX.cell 2
    have x3 := hX.cell 3
    have x4 := hX.cell 4
    have x5 := hX.cell 5
    have x6 := hX.cell 6
    have x8 := hX.cell 8
    have hXl := hX.lt
    simp at x2 x3 x4 x5 x6 x8
    obtain ⟨q0, q1, q2, q3, q4, q5⟩ := setP_ok hP5 hB5 (Nat.le_refl _) (.int .i64 t1) (.int .i64 t2) (.int .i64 t3) (.int .i64 t4) (.slice A D.length cap) rfl
    have HQ5 := hide q5
    obtain ⟨A', cap', he, hrd⟩ := (((((hV.far (i := 0) (Nat.le_of_lt hPX) (.int .i64 t1)).far (i := 1) (Nat.le_of_lt hPX) (.int .i64 t2)).far (i := 2) (Nat.le_of_lt hPX) (.int .i64 t3)).far (i := 3) (Nat.le_of_lt hPX) (.int .i64 t4)).far (i := 4) (Nat.le_of_lt hPX) (.slice A D.length cap)).rd
    injection he with e1 e2 e3
    subst e1
    have HRD := hide hrd
    have HPW := hide hPw
    clear q5 hrd e2 e3 hV hX hb hP hP5 hB5 hb4 hPw
    go_wp2
    refine bodyPost_ret (v := .tuple #[.agg #[.int .i64 t1, .int .i64 t2, .int .i64 t3, .int .i64 t4, .slice A D.length cap], .int .i64 0, .int .i64 0]) (by simp [results, Try.results32, go_sem, q0, q1, q2, q3, q4]) rfl ?_
    exact ⟨A, cap, rfl, HRD.out, by rw [HPW.out]; exact HQ5.out⟩

set_option maxRecDepth 100000 in
set_option maxHeartbeats 8000000 in
/-- The reference's Parse hands back what the program's does. -/
theorem rParse_any (s : ByteArray) (hs : s.size ≤ 4000000) (w : World) :
    Calls Try.prog 32 #[.string s] w (ParseOut w (parseP s)) := by
  have hPR := parse_ref s
  obtain ⟨RR, hRR⟩ : ∃ RR, parseP s = RR := ⟨_, rfl⟩
  rw [hRR] at hPR ⊢
  clear hRR
  have HPR := hide hPR
  clear hPR
  obtain ⟨P, hPw⟩ : ∃ P, w.heap.size = P := ⟨_, rfl⟩
  have hP1 : Blk (w.alloc (.cells pool0 66)) P 66 pool0 := by rw [← hPw]; exact Blk.new w 66 pool0
  have hb1 : Below P w (w.alloc (.cells pool0 66)) := (Below.refl P w).alloc (by omega) _
  have HPw := hide hPw
  go_enter Try.func32, Try.ntmps32
  go_wp2_with (fail)
  clear hPw
  generalize (w.alloc (.cells pool0 66)) = w1 at *
  refine (rTags_any s hs w1).mono ?_
  intro e w2 hT
  have hP1l := hP1.lt
  obtain ⟨R, hR⟩ : ∃ R, tagsP s = R := ⟨_, rfl⟩
  rw [hR] at hT
  have HRR := hide hR
  clear hR
  cases R with
  | error pc =>
    obtain ⟨p, c⟩ := pc
    obtain ⟨rfl, hb2⟩ := hT
    have hP2 := hP1.below hb2 hP1.lt
    have c0 := hP2.cell 0
    have c1 := hP2.cell 1
    have c2 := hP2.cell 2
    have c3 := hP2.cell 3
    have c4 := hP2.cell 4
    simp at c0 c1 c2 c3 c4
    have fz := hP2.frozen
    have hc := (tagsF_err HRR.out).2
    have hc0 : ((c : Int) != 0) = true := by simp; dsimp only at hc; omega
    clear hc
    have hl2 := hP2.lt
    have HB2 := hide (hb1.trans (hb2.mono (by omega)))
    obtain ⟨q0, q1, q2, q3, q4, q5⟩ := setP_ok hP2 HB2.out (Nat.le_refl _) (.int .i64 0) (.int .i64 0) (.int .i64 0) (.int .i64 0) (.slice none 0 0) rfl
    have HQ5 := hide q5
    have hr := hide (show RR = .error ((p : Int), (c : Int)) by rw [HPR.out, HRR.out])
    clear hb2 hP1 hb1 q5
    go_wp2
    refine bodyPost_ret (v := .tuple #[.agg pool0, .int .i64 p, .int .i64 c]) (by simp [results, Try.results32, go_sem, q0, q1, q2, q3, q4]) rfl ?_
    rw [hr.out]
    exact ⟨rfl, by rw [HPw.out]; exact HQ5.out⟩
  | ok L =>
    obtain ⟨v, rows, rfl, hO, hM, hb2⟩ := hT
    obtain ⟨A, n, cap, rfl, hn0, -⟩ := hO.rd trc_len
    have hcp := own_capT hO
    obtain ⟨hn, hI⟩ := rdI_of hO hM
    have hP2 := hP1.below hb2 hP1.lt
    have hB2 := hb1.trans (hb2.mono (by omega))
    obtain ⟨T, hT⟩ : ∃ T, L.map tOf = T := ⟨_, rfl⟩
    rw [hT] at hn hI
    rw [← hn0, hn] at hcp
    subst hn
    have hTf : ∀ t ∈ T, IFine s t := by
      intro t ht
      rw [← hT] at ht
      obtain ⟨y, hy, rfl⟩ := List.mem_map.1 ht
      exact tOf_fine ((tagsP_fine HRR.out).1 y hy)
    have hTn : 2 * T.length ≤ s.size := by
      have := (tagsP_fine HRR.out).2
      rw [← hT, List.length_map]
      exact this
    have hTM : TMild T := ⟨by omega, fun t ht => ⟨by have := (hTf t ht).2.1; omega, fun a ha => by have := ((hTf t ht).2.2.1 a ha).1; omega⟩⟩
    have HEQ := hide (show RR = parseX (s.size : Int) T by rw [HPR.out, HRR.out, ← hT])
    have HTM := hide hTM
    have hT5 := hTM.1
    have hPX : P < w2.heap.size := hP2.lt
    clear hb1 hb2 hP1 hO hM hn0 hP1l hTf hTn hT hTM HRR HPR
    go_upto_region 5 with (fail)
    have hX4 : Blk (w2.alloc (.cells (rst ⟨.slice A T.length cap, s.size, 0, 0, 0, 0, .slice none 0 0, 0, 0, 0⟩) RSt)) w2.heap.size RSt (rst ⟨.slice A T.length cap, s.size, 0, 0, 0, 0, .slice none 0 0, 0, 0, 0⟩) := heap_new_at rfl
    have hb4 : Below w2.heap.size w2 (w2.alloc (.cells (rst ⟨.slice A T.length cap, s.size, 0, 0, 0, 0, .slice none 0 0, 0, 0, 0⟩) RSt)) := (Below.refl _ _).alloc (Nat.le_refl _) _
    change Code.wp _ _ _ _ (w2.alloc (.cells (rst ⟨.slice A T.length cap, s.size, 0, 0, 0, 0, .slice none 0 0, 0, 0, 0⟩) RSt))
    generalize (w2.alloc (.cells (rst ⟨.slice A T.length cap, s.size, 0, 0, 0, 0, .slice none 0 0, 0, 0, 0⟩) RSt)) = w4 at *
    have hP4 := hP2.below hb4 hPX
    have hB4 := hB2.trans (hb4.mono (by omega))
    have hO4 : ROk w2.heap.size ⟨.slice A T.length cap, s.size, 0, 0, 0, 0, .slice none 0 0, 0, 0, 0⟩ T 0 w4 := ⟨A, cap, hcp, hX4, hI.below hb4⟩
    obtain ⟨X, hX⟩ : ∃ X, w2.heap.size = X := ⟨_, rfl⟩
    rw [hX] at hO4 hPX ⊢
    clear hX hX4 hb4 hP2 hB2 hI hcp
    have hXl := hO4.lt
    have H1 := hide (fun v hv => hO4.is0 hT5 1 sSuper v hv)
    have H3 := hide (fun v hv => hO4.is0 hT5 3 sSuper v hv)
    have HP4 := hide hP4
    have HB4 := hide hB4
    have HO4 := hide hO4
    clear hP4 hB4 hO4
    obtain ⟨u, hu⟩ : ∃ u, opB isSup T = u := ⟨_, rfl⟩
    go_cut [32] from 9 to 120 (fun v wx => v = .bool u ∧ wx = w4)
    case first =>
      rcases op_is sup_iff T with ⟨q1, q2, q3⟩ | ⟨q1, q2⟩ | ⟨q1, q2, q3⟩
      · rw [hu] at q1
        subst q1
        have J1 := hide (H1.out _ q2)
        have J3 := hide (H3.out _ q3)
        clear H1 H3 q2 q3
        go_wp2_with (fail)
        refine J1.out.mono ?_
        rintro e w5 ⟨rfl, hw4⟩
        have hw5 := hw4.symm
        subst hw5
        go_wp2_with (fail)
        refine J3.out.mono ?_
        rintro e w5 ⟨rfl, hw4⟩
        have hw5 := hw4.symm
        subst hw5
        go_wp2_with (fail)
        go_meet
        exact ⟨rfl, rfl⟩
      · rw [hu] at q1
        subst q1
        have J1 := hide (H1.out _ q2)
        clear H1 H3 q2
        go_wp2_with (fail)
        refine J1.out.mono ?_
        rintro e w5 ⟨rfl, hw4⟩
        have hw5 := hw4.symm
        subst hw5
        go_wp2_with (fail)
        go_meet
        exact ⟨rfl, rfl⟩
      · rw [hu] at q1
        subst q1
        have J1 := hide (H1.out _ q2)
        have J3 := hide (H3.out _ q3)
        clear H1 H3 q2 q3
        go_wp2_with (fail)
        refine J1.out.mono ?_
        rintro e w5 ⟨rfl, hw4⟩
        have hw5 := hw4.symm
        subst hw5
        go_wp2_with (fail)
        refine J3.out.mono ?_
        rintro e w5 ⟨rfl, hw4⟩
        have hw5 := hw4.symm
        subst hw5
        go_wp2_with (fail)
        go_meet
        exact ⟨rfl, rfl⟩
    case rest =>
      obtain ⟨rfl, hw4⟩ := hcut
      have hw5 := hw4.symm
      subst hw5
      clear H1 H3
      go_upto_if 32 with (fail)
      go_cut [] from 9 to 120 (fun wx => RParse X s.size w4 RR wx)
      case first =>
        cases u
        · have HF := hide (HO4.out.wrong hT5 (Below.refl X w4))
          have HE := hide (HEQ.out.trans (parseX_no hu))
          go_wp2_with (fail)
          refine HF.out.mono ?_
          rintro e w6 ⟨rfl, hb6, hE6⟩
          have HZ := hide (show RParse X s.size w4 RR w6 from ⟨hb6, by rw [HE.out]; exact hE6⟩)
          clear hb6 hE6
          go_wp2_with (fail)
          go_meet
          exact HZ.out
        · obtain ⟨t, L2, rfl, q1, q2⟩ := opB_ok hu
          go_step
          refine rpThen HO4.out (Below.refl X w4) ⟨q1, q2⟩ HTM.out HEQ.out ?_
          intros
          go_step
          go_step
          go_meet
          assumption
      case rest =>
        go_step
        exact rp5 HPw.out HP4.out hPX HB4.out hcut
theorem fold_goodT : ∀ {L : List Ti} {s s' : Ps}, (∀ t ∈ L, t.2.1 ≠ ⟨#[]⟩) → Good s → foldP s L = .ok s' → Good s'
  | [], s, s', _, hg, h => by injection h with h; subst h; exact hg
  | t :: L, s, s', hn, hg, h => by
    rw [foldP_cons] at h
    cases ht : takeP s t with
    | error e => rw [ht] at h; cases h
    | ok s1 =>
      rw [ht] at h
      exact fold_goodT (fun x hx => hn x (by simp [hx])) (.inr (take_good hg (hn t (by simp)) ht)) h
/-- A parsed pool has few devices and few maps. -/
theorem parse_few {s : ByteArray} {p : Pl} (h : parseP s = .ok p) : p.2.2.2.2.length ≤ 4096 ∧ ∀ d ∈ p.2.2.2.2, d.2.2.2.2.length ≤ 16384 := by
  unfold parseP at h
  split at h
  · cases h
  · rename_i L hL
    obtain ⟨hf, hl⟩ := tagsP_fine hL
    split at h
    · cases h
    · rename_i st hst
      split at h
      · rename_i he
        injection h with h
        subst h
        have hg := fold_goodT (fun t ht => by
          obtain ⟨y, hy, rfl⟩ := List.mem_map.1 ht
          exact (tOf_fine (hf y hy)).1) (.inl rfl) hst
        rcases hg with rfl | hg
        · cases he
        · refine ⟨hg.len, fun d hd => ?_⟩
          obtain ⟨k, hk⟩ := List.getElem?_of_mem hd
          have h1 := len_cntL hk
          have h2 := hg.sum
          have h3 := hg.max
          dsimp only [poolOf] at h1
          omega
      · cases h
def cut5 (s : ByteArray) : ByteArray := if 5000 < s.size then s.extract 0 5000 else s
theorem cut5_le (s : ByteArray) : (cut5 s).size ≤ 5000 := by
  unfold cut5
  split
  · simp; omega
  · omega

set_option maxRecDepth 100000 in
set_option maxHeartbeats 8000000 in
theorem xparseTells_any (s : ByteArray) (w : World) (hm : MaxL w) (hs : s.size ≤ maxLen) : Calls Try.prog 9 #[.string s] w fun e w' => e = .returned (.bool true) ∧ Below w.heap.size w w' := by
  clear hs
  have hmp := hm.pos
  have HX := hide hm
  clear hm
  go_enter Try.func9, Try.ntmps9
  go_upto_if 11 with (fail)
  go_cut [0] (fun v wx => v = .string (cut5 s) ∧ Below w.heap.size w wx)
  case first =>
    by_cases hlt : 5000 < s.size
    · have t0 : decide ((5000 : Int) < (s.size : Int)) = true := by simp; omega
      have t1 : decide (5000 < s.size) = true := by simp; omega
      have i0 : (5000 : Int) ≤ (s.size : Int) := by omega
      have hc : cut5 s = s.extract 0 5000 := by simp [cut5, hlt]
      have HC := hide hc
      clear hc
      go_wp2_with fail
      go_meet
      exact ⟨by rw [HC.out], Below.refl _ _⟩
    · have t0 : decide ((5000 : Int) < (s.size : Int)) = false := by simp; omega
      have t1 : decide (5000 < s.size) = false := by simp; omega
      have hc : cut5 s = s := by simp [cut5, hlt]
      have HC := hide hc
      clear hc
      go_wp2_with fail
      go_meet
      exact ⟨by rw [HC.out], Below.refl _ _⟩
  case rest =>
    obtain ⟨rfl, hb⟩ := hcut
    have hl := cut5_le s
    generalize cut5 s = s' at *
    have hsz := hb.size
    have hpar := Parse_any s' (by omega) wc (HX.out.below hb hmp)
    have HQ := hide (fun w => rParse_any s' (by omega) w)
    obtain ⟨R, hR⟩ : ∃ R, parseP s' = R := ⟨_, rfl⟩
    rw [hR] at hpar
    have HP := hide hpar
    have HRR := hide hR
    clear hR hpar
    go_wp2_with (fail)
    refine HP.out.mono ?_
    cases R with
    | error pc =>
      obtain ⟨p, c⟩ := pc
      rintro e w1 ⟨rfl, hb1⟩
      have hW1 := hb.trans (hb1.mono hsz)
      have hW2 := hW1.alloc hW1.size (.cells pool0 66)
      have hs2 := hW2.size
      have hT := Blk.new w1 66 pool0
      have hTl := hT.lt
      clear hb1 HP
      go_wp2_with (fail)
      generalize (w1.alloc (.cells pool0 66)) = w2 at *
      refine (HQ.out w2).mono ?_
      rw [HRR.out]
      rintro e w3 ⟨rfl, hb3⟩
      have hT3 := hT.below hb3 hTl
      have hW3 := hW2.trans (hb3.mono hs2)
      have hs3 := hW3.size
      have hT4 := hT3.alloc (.cells pool0 66)
      have hU4 : Blk (w3.alloc (.cells pool0 66)) w3.heap.size 66 pool0 := heap_new_at rfl
      have hW4 := hW3.alloc hs3 (.cells pool0 66)
      have hs4 := hW4.size
      have c0 := hT4.cell 0
      have c1 := hT4.cell 1
      have c2 := hT4.cell 2
      have c3 := hT4.cell 3
      have c4 := hT4.cell 4
      have d0 := hU4.cell 0
      have d1 := hU4.cell 1
      have d2 := hU4.cell 2
      have d3 := hU4.cell 3
      have d4 := hU4.cell 4
      have hTl4 := hT4.lt
      have hUl4 := hU4.lt
      simp at c0 c1 c2 c3 c4 d0 d1 d2 d3 d4
      clear hb3 hT hT3 hT4 hU4 HQ
      go_wp2_with (fail)
      generalize (w3.alloc (.cells pool0 66)) = w4 at *
      refine (rsame_any none none 0 0 (0, 0, 0, 0, []) w4.heap.size w4 (Nat.le_refl _) (RdD.nil _ _ _) (RdD.nil _ _ _) (by simp) (by simp)).mono ?_
      rintro e w5 ⟨rfl, hb5⟩
      have hW5 := hW4.trans (hb5.mono hs4)
      clear c0 c1 c2 c3 c4 d0 d1 d2 d3 d4 hb5
      go_wp2_with (fail)
      refine (lives43_any w5 (HX.out.below hW5 hmp)).mono ?_
      rintro e w6 ⟨rfl, hb6⟩
      have hW6 := hW5.trans (hb6.mono hW5.size)
      go_wp2
      go_ret
      exact ⟨rfl, hW6⟩
    | ok p =>
      obtain ⟨p1, p2, p3, p4, L⟩ := p
      rintro e w1 ⟨A, cap, rfl, hR1, hb1⟩
      dsimp only at hR1
      obtain ⟨hL, hMM⟩ := parse_few HRR.out
      dsimp only at hL hMM
      have HMM := hide (show ∀ d ∈ L, d.2.2.2.2.length ≤ 5000000 from fun d hd => by have := hMM d hd; omega)
      have hW1 := hb.trans (hb1.mono hsz)
      have hs1 := hW1.size
      have hW2 := hW1.alloc hs1 (.cells #[.int .i64 p1, .int .i64 p2, .int .i64 p3, .int .i64 p4, .slice A L.length cap] 66)
      have hs2 := hW2.size
      have hT := Blk.new w1 66 #[.int .i64 p1, .int .i64 p2, .int .i64 p3, .int .i64 p4, .slice A L.length cap]
      have hTl := hT.lt
      have HR2 := hide (hR1.below (show Below w1.heap.size w1 (w1.alloc (.cells #[.int .i64 p1, .int .i64 p2, .int .i64 p3, .int .i64 p4, .slice A L.length cap] 66)) from (Below.refl _ _).alloc (Nat.le_refl _) _))
      have hz2 : w1.heap.size ≤ (w1.alloc (.cells #[.int .i64 p1, .int .i64 p2, .int .i64 p3, .int .i64 p4, .slice A L.length cap] 66)).heap.size := by simp
      clear hb1 HP hR1 hMM
      go_wp2_with (fail)
      generalize (w1.alloc (.cells #[.int .i64 p1, .int .i64 p2, .int .i64 p3, .int .i64 p4, .slice A L.length cap] 66)) = w2 at *
      refine (HQ.out w2).mono ?_
      rw [HRR.out]
      rintro e w3 ⟨A3, cap3, rfl, hR3, hb3⟩
      dsimp only at hR3
      have hT3 := hT.below hb3 hTl
      have hW3 := hW2.trans (hb3.mono hs2)
      have hs3 := hW3.size
      have hz3 := hb3.size
      have hb4 : Below w3.heap.size w3 (w3.alloc (.cells #[.int .i64 p1, .int .i64 p2, .int .i64 p3, .int .i64 p4, .slice A3 L.length cap3] 66)) := (Below.refl _ _).alloc (Nat.le_refl _) _
      have HR3 := hide (hR3.below hb4)
      have HR4 := hide ((((HR2.out.mono hz2).below hb3).mono hz3).below hb4)
      have hT4 := hT3.alloc (.cells #[.int .i64 p1, .int .i64 p2, .int .i64 p3, .int .i64 p4, .slice A3 L.length cap3] 66)
      have hU4 : Blk (w3.alloc (.cells #[.int .i64 p1, .int .i64 p2, .int .i64 p3, .int .i64 p4, .slice A3 L.length cap3] 66)) w3.heap.size 66 #[.int .i64 p1, .int .i64 p2, .int .i64 p3, .int .i64 p4, .slice A3 L.length cap3] := heap_new_at rfl
      have hW4 := hW3.alloc hs3 (.cells #[.int .i64 p1, .int .i64 p2, .int .i64 p3, .int .i64 p4, .slice A3 L.length cap3] 66)
      have hs4 := hW4.size
      have hz4 : w3.heap.size ≤ (w3.alloc (.cells #[.int .i64 p1, .int .i64 p2, .int .i64 p3, .int .i64 p4, .slice A3 L.length cap3] 66)).heap.size := by simp
      have c0 := hT4.cell 0
      have c1 := hT4.cell 1
      have c2 := hT4.cell 2
      have c3 := hT4.cell 3
      have c4 := hT4.cell 4
      have d0 := hU4.cell 0
      have d1 := hU4.cell 1
      have d2 := hU4.cell 2
      have d3 := hU4.cell 3
      have d4 := hU4.cell 4
      have hTl4 := hT4.lt
      have hUl4 := hU4.lt
      simp at c0 c1 c2 c3 c4 d0 d1 d2 d3 d4
      clear hb3 hT hT3 hT4 hU4 HQ hR3 hb4 HR2
      go_wp2_with (fail)
      generalize (w3.alloc (.cells #[.int .i64 p1, .int .i64 p2, .int .i64 p3, .int .i64 p4, .slice A3 L.length cap3] 66)) = w4 at *
      refine (rsame_any A A3 cap cap3 (p1, p2, p3, p4, L) w3.heap.size w4 hz4 HR4.out HR3.out (by dsimp only; omega) HMM.out).mono ?_
      rintro e w5 ⟨rfl, hb5⟩
      have hW5 := hW4.trans (hb5.mono hs4)
      clear c0 c1 c2 c3 c4 d0 d1 d2 d3 d4 hb5
      go_wp2_with (fail)
      refine (lives43_any w5 (HX.out.below hW5 hmp)).mono ?_
      rintro e w6 ⟨rfl, hb6⟩
      have hW6 := hW5.trans (hb6.mono hW5.size)
      go_wp2
      go_ret
      exact ⟨rfl, hW6⟩
end Go.Proofs.Ytcblakflhheepaa
