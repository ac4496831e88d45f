/- Chapter 43: the parser: device. -/
import Derived.Test.YtcblakflhheepaaParGa
namespace Go.Proofs.Ytcblakflhheepaa
open Go.RowKit
set_option linter.unusedVariables false
set_option linter.unusedSimpArgs false

set_option maxRecDepth 100000 in
set_option maxHeartbeats 8000000 in
theorem device_any (base X K b : Nat) (s : Ps) (kd at_ : Int) (nm : ByteArray) (v : Value) (out : List (ByteArray × Int)) (w : World) (h : PS base X K s w) (hm : MapAt w b (iv out)) (hbX : b ≠ X) :
    Calls Try.prog 85 #[.pointer (some ⟨X, 0, none⟩), .agg #[.int .i64 kd, .string nm, v, .int .i64 at_], .map (some b)] w (StOut base X K w (deviceP s kd at_ out)) := by
  obtain ⟨hXb, hb, vv, hX, hD⟩ := h
  have hXl : X < w.heap.size := by omega
  have hml := hm.lt
  obtain ⟨s1, s2, s3, s4, sd, s6, s7, s8, ins, en⟩ := s
  dsimp only at hX hD
  obtain ⟨A, cap, rfl⟩ := hD.slice
  obtain ⟨n, hn⟩ : ∃ n, n = sd.length := ⟨_, rfl⟩
  rw [← hn] at hX hD
  have hX2 := (hX.alloc (.cells #[.int .i64 kd, .string nm, v, .int .i64 at_] 60)).alloc (.cells #[.int .i64 0, .int .i64 0] 112)
  have hD2 := (hD.alloc (.cells #[.int .i64 kd, .string nm, v, .int .i64 at_] 60)).alloc (.cells #[.int .i64 0, .int .i64 0] 112)
  have hm2 := (hm.alloc (.cells #[.int .i64 kd, .string nm, v, .int .i64 at_] 60)).alloc (.cells #[.int .i64 0, .int .i64 0] 112)
  have hT2 := (Blk.new w 60 #[.int .i64 kd, .string nm, v, .int .i64 at_]).alloc (.cells #[.int .i64 0, .int .i64 0] 112)
  have hF2 : Blk ((w.alloc (.cells #[.int .i64 kd, .string nm, v, .int .i64 at_] 60)).alloc (.cells #[.int .i64 0, .int .i64 0] 112)) (w.heap.size + 1) 112 #[.int .i64 0, .int .i64 0] := heap_new_at (by simp)
  have hB2 := ((Bt.refl base X w).alloc hb (.cells #[.int .i64 kd, .string nm, v, .int .i64 at_] 60)).alloc (by simp; omega) (.cells #[.int .i64 0, .int .i64 0] 112)
  have x4 := hX.cell 4
  simp at x4
  obtain ⟨u1, hu1⟩ : ∃ u, decide ((4096 : Int) ≤ (n : Int)) = u := ⟨_, rfl⟩
  have HN := hide hn
  have hu2 : decide ((4096 : Int) ≤ (sd.length : Int)) = u1 := by rw [← hn]; exact hu1
  clear hn
  go_enter Try.func85, Try.ntmps85
  cases u1 with
  | true =>
    have hge : (4096 : Int) ≤ (sd.length : Int) := by simpa using hu2
    have hr := hide (show deviceP ⟨s1, s2, s3, s4, sd, s6, s7, s8, ins, en⟩ kd at_ out = .error (at_, 2) from if_pos hge)
    have hfin := hide (fin_err hB2 hF2 (by omega) (.int .i64 at_) (.int .i64 2))
    clear hX2 hD2 hT2 hF2 hB2 hD hX hm hm2
    go_wp2
    obtain ⟨q0, q1, q2⟩ := hfin.out
    refine bodyPost_ret (v := .agg #[.int .i64 at_, .int .i64 2]) (by simp [results, Try.results85, go_sem, q0, q1]) rfl ?_
    rw [hr.out]
    exact ⟨rfl, ((Bt.refl base X w).alloc hb _).alloc (by simp; omega) _⟩
  | false =>
    have hge : ¬ (4096 : Int) ≤ (sd.length : Int) := by simpa using hu2
    have hdl : n < 4096 := by have := HN.out; omega
    clear hu2
    have hr0 : deviceP ⟨s1, s2, s3, s4, sd, s6, s7, s8, ins, en⟩ kd at_ out = if lateP sd (gv out sId) then .error (at_, 8) else if kd = 3 then closeP (openP ⟨s1, s2, s3, s4, sd, s6, s7, s8, ins, en⟩ out) at_ else .ok (openP ⟨s1, s2, s3, s4, sd, s6, s7, s8, ins, en⟩ out) := if_neg hge
    clear hge
    go_wp2
    generalize hW3 : ((w.alloc (.cells #[.int .i64 kd, .string nm, v, .int .i64 at_] 60)).alloc (.cells #[.int .i64 0, .int .i64 0] 112)) = w3 at *
    clear hW3
    have hFl := hF2.lt
    have hTl := hT2.lt
    have hXl3 := hX2.lt
    have x4' := hX2.cell 4
    have y0 := hT2.cell 0
    have y3 := hT2.cell 3
    have g0 := hF2.cell 0
    have g1 := hF2.cell 1
    have g2 := hF2.frozen 0
    have g3 := hF2.frozen 1
    simp at x4' y0 y3 g0 g1
    have L1 := hide (fun nq => look_gv (show MapAt (w3.drewN nq) b (iv out) from hm2) sId)
    have HX2 := hide hX2
    have HD2 := hide hD2
    have HM2 := hide hm2
    have HT2 := hide hT2
    have HF2 := hide hF2
    have HB2 := hide hB2
    clear hX2 hm2 hT2 hF2 hB2 hX hm hD x4
    have hlate : (lateP sd (gv out sId) = true ∧ ∃ li ll, sd = li ++ [ll] ∧ gv out sId ≤ ll.1) ∨ (lateP sd (gv out sId) = false ∧ sd = []) ∨ (lateP sd (gv out sId) = false ∧ ∃ li ll, sd = li ++ [ll] ∧ ¬ gv out sId ≤ ll.1) := by
      rcases List.eq_nil_or_concat sd with rfl | ⟨li, ll, rfl⟩
      · exact .inr (.inl ⟨rfl, rfl⟩)
      · have e : lateP (li.concat ll) (gv out sId) = decide (gv out sId ≤ ll.1) := by simp [lateP]
        by_cases hz : gv out sId ≤ ll.1
        · exact .inl ⟨by rw [e]; simpa using hz, li, ll, by simp, hz⟩
        · exact .inr (.inr ⟨by rw [e]; simpa using hz, li, ll, by simp, hz⟩)
    rcases hlate with ⟨hL, li, ll, rfl, hz⟩ | hlate
    · obtain ⟨g, cap', β, A', n', c, hv, hgb, hgl, hβ, hβl, c0, c4, fz, hom, -⟩ := hD2.last
      injection hv with hv1 hv2 hv3
      subst hv1
      subst hv2
      subst hv3
      have hz1 : decide (gv out sId ≤ ll.1) = true := by simpa using hz
      have hpos : decide ((0 : Int) < (li.length : Int) + 1) = true := by simp
      have hl1 := L1.out
      have i0 : (0 : Int) ≤ (li.length : Int) := by omega
      have i1 : (li.length : Int) < (li.length : Int) + 1 := by omega
      have hr := hide (hr0.trans (if_pos hL))
      have hfin := hide (fun nq => fin_err (HB2.out.drewN nq) (HF2.out.drewN nq) (by omega) (.int .i64 at_) (.int .i64 8))
      clear hom c4 fz hD2 hr0 hL HN
      go_quiet (fail)
      go_wp2
      have q0 := fun nq => (hfin.out nq).1
      have q1 := fun nq => (hfin.out nq).2.1
      refine bodyPost_ret (v := .agg #[.int .i64 at_, .int .i64 8]) (by simp [results, Try.results85, go_sem, q0, q1]) rfl ?_
      rw [hr.out]
      exact ⟨rfl, (hfin.out _).2.2⟩
    · have hL : lateP sd (gv out sId) = false := by rcases hlate with h | h <;> exact h.1
      have hr := hide (hr0.trans (if_neg (show ¬ lateP sd (gv out sId) = true by rw [hL]; simp)))
      have hL1 := L1.out
      have hL2 := fun nq => look_gv (show MapAt (w3.drewN nq) b (iv out) from HM2.out) sTx
      have hL3 := fun nq => look_gv (show MapAt (w3.drewN nq) b (iv out) from HM2.out) sMade
      have hL4 := fun nq => look_gv (show MapAt (w3.drewN nq) b (iv out) from HM2.out) sSnap
      have HDD := hide hD2
      obtain ⟨rows, hown, hrow⟩ := hD2
      have hrl : rows.length < 4096 := by rw [← hown.len]; exact hdl
      have hrs : sd.length < 4096 := by rw [← HN.out]; exact hdl
      have hD2 := HDD.out
      have HOWN := hide hown
      clear hr0 hL hrow hown
      rcases hlate with ⟨-, rfl⟩ | ⟨-, li, ll, rfl, hz⟩
      · have hpos : decide (0 < n) = false := by have := HN.out; simp at this; subst this; simp
        clear hD2 HN
        go_quiet (fail)
        go_wp2_with (at_builtin; go_must (refine wpList_append1 _ rfl (.tmp 40) (.tmp 50) _ rfl Try.underlying64 infoDev rfl (by decide) drc_len drc_one (base := base) (l := rows) rfl ?_ (gv out sId, gv out sTx, gv out sMade, gv out sSnap, (none, 0, 0)) w3.heap.size 1 rfl ?_ ?_ ?_ ?_ ?_))
        · exact (by repeat (first | exact HOWN.out | refine Own.alloc ?_ _ | refine Own.drewN ?_ _ | refine Own.drew ?_))
        · first | exact ⟨_, _, heap_new_at rfl⟩ | exact ⟨_, by simp [World.alloc]⟩ | (simp [World.alloc]; done)
        · omega
        · omega
        · first | omega | (simp; omega)
        · intro gn cap2 w6 hO6 hg6 hat6 hlt6
          have hnb : (Value.slice A n cap).ownBlock ≠ some b := own_map_ne HOWN.out HM2.out
          have hm6 : MapAt w6 b (iv out) := ((show MapAt (w3.drewN _) b (iv out) from HM2.out).alloc _).heap (hg6.block b (by simp; have := HM2.out.lt; omega) (Ne.symm hnb))
          have hX6 := ((HX2.out.drewN _).alloc _).grown hg6 (Ne.symm (own_blk_ne HOWN.out HX2.out (by decide)))
          have hT6 := ((HT2.out.drewN _).alloc _).grown hg6 (Ne.symm (own_blk_ne HOWN.out HT2.out (by decide)))
          have hF6 := ((HF2.out.drewN _).alloc _).grown hg6 (Ne.symm (own_blk_ne HOWN.out HF2.out (by decide)))
          have hB6 := ((HB2.out.drewN _).alloc (by simp; omega) _).grown hg6 (by simp; omega) (fun k hk => ⟨(HOWN.out.lt k hk).1, ((HOWN.out.drewN _).alloc _).rowAt (.inl rfl) hk⟩)
          have hD6 := DV.push (d := newDev out) rfl (HOWN.out.drewN _) (HDD.out.drewN _) (fun rows' h' => own_inj drc_inj drc_len (by decide) h' HOWN.out) (by simp; omega) _ hO6 hg6
          have hm7 : MapAt (w6.setCell ⟨X, 4, none⟩ (.slice (some ⟨gn, 0, none⟩) (rows.length + 1) cap2)) b (iv out) := hm6.heap (Below.heap_setCell _ _ _ _ hbX)
          have l5 := look_gv hm7 sMapped
          have x4b := hX6.cell 4
          have x6b := hX6.cell 6
          have x7b := hX6.cell 7
          have x9b := hX6.cell 9
          simp at x4b x6b x7b x9b
          have f4b := hX6.frozen 4
          have f6b := hX6.frozen 6
          have f7b := hX6.frozen 7
          have f9b := hX6.frozen 9
          have t0b := hT6.cell 0
          have t1b := hT6.cell 1
          have t2b := hT6.cell 2
          have t3b := hT6.cell 3
          simp at t0b t1b t2b t3b
          have hX7 := (((hX6.set_ 4 (.slice (some ⟨gn, 0, none⟩) (rows.length + 1) cap2)).set_ 6 (.int .i64 (gv out sMapped))).set_ 7 (.int .i64 0)).set_ 9 (.string sDevice)
          have hXf := fun i u => (hX6.set_ i u)
          have hD7 := (((hD6.set_ hX6 (i := 4) (by decide) (by decide) (.slice (some ⟨gn, 0, none⟩) (rows.length + 1) cap2)).set_ (hX6.set_ 4 (.slice (some ⟨gn, 0, none⟩) (rows.length + 1) cap2)) (i := 6) (by decide) (by decide) (.int .i64 (gv out sMapped))).set_ ((hX6.set_ 4 (.slice (some ⟨gn, 0, none⟩) (rows.length + 1) cap2)).set_ 6 (.int .i64 (gv out sMapped))) (i := 7) (by decide) (by decide) (.int .i64 0)).set_ (((hX6.set_ 4 (.slice (some ⟨gn, 0, none⟩) (rows.length + 1) cap2)).set_ 6 (.int .i64 (gv out sMapped))).set_ 7 (.int .i64 0)) (i := 9) (by decide) (by decide) (.string sDevice)
          have hF7 := (((hF6.far (p := ⟨X, 4, none⟩) (by dsimp only; omega) (.slice (some ⟨gn, 0, none⟩) (rows.length + 1) cap2)).far (p := ⟨X, 6, none⟩) (by dsimp only; omega) (.int .i64 (gv out sMapped))).far (p := ⟨X, 7, none⟩) (by dsimp only; omega) (.int .i64 0)).far (p := ⟨X, 9, none⟩) (by dsimp only; omega) (.string sDevice)
          have hT7 := (((hT6.far (p := ⟨X, 4, none⟩) (by dsimp only; omega) (.slice (some ⟨gn, 0, none⟩) (rows.length + 1) cap2)).far (p := ⟨X, 6, none⟩) (by dsimp only; omega) (.int .i64 (gv out sMapped))).far (p := ⟨X, 7, none⟩) (by dsimp only; omega) (.int .i64 0)).far (p := ⟨X, 9, none⟩) (by dsimp only; omega) (.string sDevice)
          have hB7 := (((hB6.self 4 (.slice (some ⟨gn, 0, none⟩) (rows.length + 1) cap2)).self 6 (.int .i64 (gv out sMapped))).self 7 (.int .i64 0)).self 9 (.string sDevice)
          have HX7 := hide hX7; have HD7 := hide hD7; have HF7 := hide hF7; have HT7 := hide hT7; have HB7 := hide hB7
          have hne2 : X ≠ w.heap.size := by omega
          clear hX7 hD7 hF7 hT7 hB7 hXf hX6 hD6 hT6 hF6 hB6 hO6 hg6
          obtain ⟨u3, hu3⟩ : ∃ u, (kd == 3) = u := ⟨_, rfl⟩
          clear hL1 hL2 hL3 hL4 x4' y0 y3 g0 g1 g2 g3
          go_wp2_with (fail)
          · obtain rfl : u3 = true := by assumption
            have hk : kd = 3 := by simpa using hu3
            have hps : PS base X K (openP ⟨s1, s2, s3, s4, [], s6, s7, s8, ins, en⟩ out) ((((w6.setCell ⟨X, 4, none⟩ (.slice (some ⟨gn, 0, none⟩) (rows.length + 1) cap2)).setCell ⟨X, 6, none⟩ (.int .i64 (gv out sMapped))).setCell ⟨X, 7, none⟩ (.int .i64 0)).setCell ⟨X, 9, none⟩ (.string sDevice)) :=
              ⟨hXb, by have := HB7.out.size; simp at this ⊢; omega, _, by simpa [openP] using HX7.out, HD7.out⟩
            have hr2 := hr.out
            rw [if_pos hk] at hr2
            refine (close_any base X K (openP ⟨s1, s2, s3, s4, [], s6, s7, s8, ins, en⟩ out) kd at_ nm v _ hps (by simp [openP]) (by simp [openP] at hrl hrs ⊢ <;> omega)).mono ?_
            rintro e w8 hS
            cases hcl : closeP (openP ⟨s1, s2, s3, s4, [], s6, s7, s8, ins, en⟩ out) at_ with
            | ok s' =>
              rw [hcl] at hS hr2
              obtain ⟨rfl, ⟨-, hb8, v8, hX8, hD8⟩, hbt⟩ := hS
              have hF8 := HF7.out.bt hbt (by omega) (by decide)
              have hB8 := HB7.out.trans hbt (Nat.le_refl _)
              have k0 := hF8.cell 0
              have k1 := hF8.cell 1
              have k2 := hF8.frozen 0
              have k3 := hF8.frozen 1
              have hFl5 := hF8.lt
              simp at k0 k1
              have hfin := hide (fin_ok hX8 hD8 hB8 hF8 hXb (by omega) (.int .i64 0) (.int .i64 0))
              have hr3 := hide hr2
              clear hF8 hX8 hD8 hB8 hbt hr2 hcl hr
              go_wp2
              obtain ⟨q0, q1, q2, q3⟩ := hfin.out
              refine bodyPost_ret (v := .agg #[.int .i64 0, .int .i64 0]) (by simp [results, Try.results85, go_sem, q0, q1]) rfl ?_
              rw [hr3.out]
              exact ⟨rfl, q2, q3⟩
            | error pc =>
              obtain ⟨pp, pc⟩ := pc
              rw [hcl] at hS hr2
              obtain ⟨rfl, hbt⟩ := hS
              have hF8 := HF7.out.bt hbt (by omega) (by decide)
              have hB8 := HB7.out.trans hbt (Nat.le_refl _)
              have k0 := hF8.cell 0
              have k1 := hF8.cell 1
              have k2 := hF8.frozen 0
              have k3 := hF8.frozen 1
              have hFl5 := hF8.lt
              simp at k0 k1
              have hfin := hide (fin_err hB8 hF8 (by omega) (.int .i64 pp) (.int .i64 pc))
              have hr3 := hide hr2
              clear hF8 hB8 hbt hr2 hcl hr
              go_wp2
              obtain ⟨q0, q1, q3⟩ := hfin.out
              refine bodyPost_ret (v := .agg #[.int .i64 pp, .int .i64 pc]) (by simp [results, Try.results85, go_sem, q0, q1]) rfl ?_
              rw [hr3.out]
              exact ⟨rfl, q3⟩
          · obtain rfl : u3 = false := by assumption
            have hk : ¬ kd = 3 := by simpa using hu3
            have hr2 := hr.out
            rw [if_neg hk] at hr2
            refine (fine_any _).mono ?_
            rintro e w8 ⟨rfl, hb8⟩
            have hF8 := HF7.out.below hb8 HF7.out.lt
            have hX8 := HX7.out.below hb8 HX7.out.lt
            have hD8 := HD7.out.below hb8
            have hB8 := HB7.out.trans (Bt.of hb8 X) (by have := HF7.out.lt; simp at this ⊢; omega)
            have k0 := hF8.cell 0
            have k1 := hF8.cell 1
            have k2 := hF8.frozen 0
            have k3 := hF8.frozen 1
            have hFl5 := hF8.lt
            simp at k0 k1
            have hfin := hide (fin_ok (s := openP ⟨s1, s2, s3, s4, [], s6, s7, s8, ins, en⟩ out) (by simpa [openP] using hX8) hD8 hB8 hF8 hXb (by omega) (.int .i64 0) (.int .i64 0))
            have hr3 := hide hr2
            clear hF8 hX8 hD8 hB8 hb8 hr2 hr
            go_wp2
            obtain ⟨q0, q1, q2, q3⟩ := hfin.out
            refine bodyPost_ret (v := .agg #[.int .i64 0, .int .i64 0]) (by simp [results, Try.results85, go_sem, q0, q1]) rfl ?_
            rw [hr3.out]
            exact ⟨rfl, q2, q3⟩
      · obtain ⟨g, cap', β, A', n', c, hv, hgb, hgl, hβ, hβl, c0, c4, fz, hom, -⟩ := hD2.last
        injection hv with hv1 hv2 hv3
        subst hv1
        subst hv2
        subst hv3
        have hz1 : decide (gv out sId ≤ ll.1) = false := by simpa using hz
        have hpos : decide ((0 : Int) < (li.length : Int) + 1) = true := by simp
        have i0 : (0 : Int) ≤ (li.length : Int) := by omega
        have i1 : (li.length : Int) < (li.length : Int) + 1 := by omega
        clear hom c4 fz hD2 HN
        go_quiet (fail)
        go_wp2_with (at_builtin; go_must (refine wpList_append1 _ rfl (.tmp 40) (.tmp 50) _ rfl Try.underlying64 infoDev rfl (by decide) drc_len drc_one (base := base) (l := rows) rfl ?_ (gv out sId, gv out sTx, gv out sMade, gv out sSnap, (none, 0, 0)) w3.heap.size 1 rfl ?_ ?_ ?_ ?_ ?_))
        · exact (by repeat (first | exact HOWN.out | refine Own.alloc ?_ _ | refine Own.drewN ?_ _ | refine Own.drew ?_))
        · first | exact ⟨_, _, heap_new_at rfl⟩ | exact ⟨_, by simp [World.alloc]⟩ | (simp [World.alloc]; done)
        · omega
        · omega
        · first | omega | (simp; omega)
        · intro gn cap2 w6 hO6 hg6 hat6 hlt6
          have hnb : (Value.slice (some ⟨g, 0, none⟩) (li.length + 1) cap).ownBlock ≠ some b := own_map_ne HOWN.out HM2.out
          have hm6 : MapAt w6 b (iv out) := ((show MapAt (w3.drewN _) b (iv out) from HM2.out).alloc _).heap (hg6.block b (by simp; have := HM2.out.lt; omega) (Ne.symm hnb))
          have hX6 := ((HX2.out.drewN _).alloc _).grown hg6 (Ne.symm (own_blk_ne HOWN.out HX2.out (by decide)))
          have hT6 := ((HT2.out.drewN _).alloc _).grown hg6 (Ne.symm (own_blk_ne HOWN.out HT2.out (by decide)))
          have hF6 := ((HF2.out.drewN _).alloc _).grown hg6 (Ne.symm (own_blk_ne HOWN.out HF2.out (by decide)))
          have hB6 := ((HB2.out.drewN _).alloc (by simp; omega) _).grown hg6 (by simp; omega) (fun k hk => ⟨(HOWN.out.lt k hk).1, ((HOWN.out.drewN _).alloc _).rowAt (.inl rfl) hk⟩)
          have hD6 := DV.push (d := newDev out) rfl (HOWN.out.drewN _) (HDD.out.drewN _) (fun rows' h' => own_inj drc_inj drc_len (by decide) h' HOWN.out) (by simp; omega) _ hO6 hg6
          have hm7 : MapAt (w6.setCell ⟨X, 4, none⟩ (.slice (some ⟨gn, 0, none⟩) (rows.length + 1) cap2)) b (iv out) := hm6.heap (Below.heap_setCell _ _ _ _ hbX)
          have l5 := look_gv hm7 sMapped
          have x4b := hX6.cell 4
          have x6b := hX6.cell 6
          have x7b := hX6.cell 7
          have x9b := hX6.cell 9
          simp at x4b x6b x7b x9b
          have f4b := hX6.frozen 4
          have f6b := hX6.frozen 6
          have f7b := hX6.frozen 7
          have f9b := hX6.frozen 9
          have t0b := hT6.cell 0
          have t1b := hT6.cell 1
          have t2b := hT6.cell 2
          have t3b := hT6.cell 3
          simp at t0b t1b t2b t3b
          have hX7 := (((hX6.set_ 4 (.slice (some ⟨gn, 0, none⟩) (rows.length + 1) cap2)).set_ 6 (.int .i64 (gv out sMapped))).set_ 7 (.int .i64 0)).set_ 9 (.string sDevice)
          have hXf := fun i u => (hX6.set_ i u)
          have hD7 := (((hD6.set_ hX6 (i := 4) (by decide) (by decide) (.slice (some ⟨gn, 0, none⟩) (rows.length + 1) cap2)).set_ (hX6.set_ 4 (.slice (some ⟨gn, 0, none⟩) (rows.length + 1) cap2)) (i := 6) (by decide) (by decide) (.int .i64 (gv out sMapped))).set_ ((hX6.set_ 4 (.slice (some ⟨gn, 0, none⟩) (rows.length + 1) cap2)).set_ 6 (.int .i64 (gv out sMapped))) (i := 7) (by decide) (by decide) (.int .i64 0)).set_ (((hX6.set_ 4 (.slice (some ⟨gn, 0, none⟩) (rows.length + 1) cap2)).set_ 6 (.int .i64 (gv out sMapped))).set_ 7 (.int .i64 0)) (i := 9) (by decide) (by decide) (.string sDevice)
          have hF7 := (((hF6.far (p := ⟨X, 4, none⟩) (by dsimp only; omega) (.slice (some ⟨gn, 0, none⟩) (rows.length + 1) cap2)).far (p := ⟨X, 6, none⟩) (by dsimp only; omega) (.int .i64 (gv out sMapped))).far (p := ⟨X, 7, none⟩) (by dsimp only; omega) (.int .i64 0)).far (p := ⟨X, 9, none⟩) (by dsimp only; omega) (.string sDevice)
          have hT7 := (((hT6.far (p := ⟨X, 4, none⟩) (by dsimp only; omega) (.slice (some ⟨gn, 0, none⟩) (rows.length + 1) cap2)).far (p := ⟨X, 6, none⟩) (by dsimp only; omega) (.int .i64 (gv out sMapped))).far (p := ⟨X, 7, none⟩) (by dsimp only; omega) (.int .i64 0)).far (p := ⟨X, 9, none⟩) (by dsimp only; omega) (.string sDevice)
          have hB7 := (((hB6.self 4 (.slice (some ⟨gn, 0, none⟩) (rows.length + 1) cap2)).self 6 (.int .i64 (gv out sMapped))).self 7 (.int .i64 0)).self 9 (.string sDevice)
          have HX7 := hide hX7; have HD7 := hide hD7; have HF7 := hide hF7; have HT7 := hide hT7; have HB7 := hide hB7
          have hne2 : X ≠ w.heap.size := by omega
          clear hX7 hD7 hF7 hT7 hB7 hXf hX6 hD6 hT6 hF6 hB6 hO6 hg6
          obtain ⟨u3, hu3⟩ : ∃ u, (kd == 3) = u := ⟨_, rfl⟩
          clear hL1 hL2 hL3 hL4 x4' y0 y3 g0 g1 g2 g3
          go_wp2_with (fail)
          · obtain rfl : u3 = true := by assumption
            have hk : kd = 3 := by simpa using hu3
            have hps : PS base X K (openP ⟨s1, s2, s3, s4, li ++ [ll], s6, s7, s8, ins, en⟩ out) ((((w6.setCell ⟨X, 4, none⟩ (.slice (some ⟨gn, 0, none⟩) (rows.length + 1) cap2)).setCell ⟨X, 6, none⟩ (.int .i64 (gv out sMapped))).setCell ⟨X, 7, none⟩ (.int .i64 0)).setCell ⟨X, 9, none⟩ (.string sDevice)) :=
              ⟨hXb, by have := HB7.out.size; simp at this ⊢; omega, _, by simpa [openP] using HX7.out, HD7.out⟩
            have hr2 := hr.out
            rw [if_pos hk] at hr2
            refine (close_any base X K (openP ⟨s1, s2, s3, s4, li ++ [ll], s6, s7, s8, ins, en⟩ out) kd at_ nm v _ hps (by simp [openP]) (by simp [openP] at hrl hrs ⊢ <;> omega)).mono ?_
            rintro e w8 hS
            cases hcl : closeP (openP ⟨s1, s2, s3, s4, li ++ [ll], s6, s7, s8, ins, en⟩ out) at_ with
            | ok s' =>
              rw [hcl] at hS hr2
              obtain ⟨rfl, ⟨-, hb8, v8, hX8, hD8⟩, hbt⟩ := hS
              have hF8 := HF7.out.bt hbt (by omega) (by decide)
              have hB8 := HB7.out.trans hbt (Nat.le_refl _)
              have k0 := hF8.cell 0
              have k1 := hF8.cell 1
              have k2 := hF8.frozen 0
              have k3 := hF8.frozen 1
              have hFl5 := hF8.lt
              simp at k0 k1
              have hfin := hide (fin_ok hX8 hD8 hB8 hF8 hXb (by omega) (.int .i64 0) (.int .i64 0))
              have hr3 := hide hr2
              clear hF8 hX8 hD8 hB8 hbt hr2 hcl hr
              go_wp2
              obtain ⟨q0, q1, q2, q3⟩ := hfin.out
              refine bodyPost_ret (v := .agg #[.int .i64 0, .int .i64 0]) (by simp [results, Try.results85, go_sem, q0, q1]) rfl ?_
              rw [hr3.out]
              exact ⟨rfl, q2, q3⟩
            | error pc =>
              obtain ⟨pp, pc⟩ := pc
              rw [hcl] at hS hr2
              obtain ⟨rfl, hbt⟩ := hS
              have hF8 := HF7.out.bt hbt (by omega) (by decide)
              have hB8 := HB7.out.trans hbt (Nat.le_refl _)
              have k0 := hF8.cell 0
              have k1 := hF8.cell 1
              have k2 := hF8.frozen 0
              have k3 := hF8.frozen 1
              have hFl5 := hF8.lt
              simp at k0 k1
              have hfin := hide (fin_err hB8 hF8 (by omega) (.int .i64 pp) (.int .i64 pc))
              have hr3 := hide hr2
              clear hF8 hB8 hbt hr2 hcl hr
              go_wp2
              obtain ⟨q0, q1, q3⟩ := hfin.out
              refine bodyPost_ret (v := .agg #[.int .i64 pp, .int .i64 pc]) (by simp [results, Try.results85, go_sem, q0, q1]) rfl ?_
              rw [hr3.out]
              exact ⟨rfl, q3⟩
          · obtain rfl : u3 = false := by assumption
            have hk : ¬ kd = 3 := by simpa using hu3
            have hr2 := hr.out
            rw [if_neg hk] at hr2
            refine (fine_any _).mono ?_
            rintro e w8 ⟨rfl, hb8⟩
            have hF8 := HF7.out.below hb8 HF7.out.lt
            have hX8 := HX7.out.below hb8 HX7.out.lt
            have hD8 := HD7.out.below hb8
            have hB8 := HB7.out.trans (Bt.of hb8 X) (by have := HF7.out.lt; simp at this ⊢; omega)
            have k0 := hF8.cell 0
            have k1 := hF8.cell 1
            have k2 := hF8.frozen 0
            have k3 := hF8.frozen 1
            have hFl5 := hF8.lt
            simp at k0 k1
            have hfin := hide (fin_ok (s := openP ⟨s1, s2, s3, s4, li ++ [ll], s6, s7, s8, ins, en⟩ out) (by simpa [openP] using hX8) hD8 hB8 hF8 hXb (by omega) (.int .i64 0) (.int .i64 0))
            have hr3 := hide hr2
            clear hF8 hX8 hD8 hB8 hb8 hr2 hr
            go_wp2
            obtain ⟨q0, q1, q2, q3⟩ := hfin.out
            refine bodyPost_ret (v := .agg #[.int .i64 0, .int .i64 0]) (by simp [results, Try.results85, go_sem, q0, q1]) rfl ?_
            rw [hr3.out]
            exact ⟨rfl, q2, q3⟩
end Go.Proofs.Ytcblakflhheepaa
