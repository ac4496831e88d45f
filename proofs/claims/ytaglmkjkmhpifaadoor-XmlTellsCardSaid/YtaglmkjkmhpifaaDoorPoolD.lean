/- Chapter 18, the reference: Check. -/
import Derived.Test.YtaglmkjkmhpifaaDoorPoolC
namespace Go.Proofs.YtaglmkjkmhpifaaDoor
open Go.RowKit
set_option linter.unusedVariables false
set_option linter.unusedSimpArgs false

set_option maxRecDepth 100000 in
set_option maxHeartbeats 16000000 in
theorem rcheck_any (A : Option Addr) (cap : Nat) (p : Pl) (B : Nat) (w : World) (hB : B ≤ w.heap.size) (h : RdD w B A p.2.2.2.2) (hc : cntL p.2.2.2.2 ≤ 1000000) (hl : p.2.2.2.2.length ≤ 1000000) :
    Calls Tryd.prog 32 #[.agg #[.int .i64 p.1, .int .i64 p.2.1, .int .i64 p.2.2.1, .int .i64 p.2.2.2.1, .slice A p.2.2.2.2.length cap]] w fun e w' => e = .returned (.int .i64 (chkE p)) ∧ Below w.heap.size w w' := by
  obtain ⟨p1, p2, p3, p4, L⟩ := p
  dsimp only at h hc hl
  obtain ⟨v1, hv1⟩ : ∃ v1, inB p1 0 2147483647 = v1 := ⟨_, rfl⟩
  obtain ⟨v2, hv2⟩ : ∃ v2, inB p2 0 16777215 = v2 := ⟨_, rfl⟩
  obtain ⟨v3, hv3⟩ : ∃ v3, inB p3 1 65536 = v3 := ⟨_, rfl⟩
  obtain ⟨v4, hv4⟩ : ∃ v4, inB p4 0 65536 = v4 := ⟨_, rfl⟩
  have hce : chkE (p1, p2, p3, p4, L) = if v1 && v2 && v3 && v4 then (if 4096 < L.length ∨ 16384 < cntL L then 2 else devsE p4 (-1) L) else 2 := by
    simp only [chkE, timesB, allT, List.all_cons, List.all_nil, Bool.and_true]; rw [hv1, hv2, hv3, hv4]
  have HCE := hide hce
  have HV1 := hide hv1
  have HV2 := hide hv2
  have HV3 := hide hv3
  have HV4 := hide hv4
  clear hce hv1 hv2 hv3 hv4
  have hP := Blk.new w 32 #[.int .i64 p1, .int .i64 p2, .int .i64 p3, .int .i64 p4, .slice A L.length cap]
  have hW : Below w.heap.size w (w.alloc (.cells #[.int .i64 p1, .int .i64 p2, .int .i64 p3, .int .i64 p4, .slice A L.length cap] 32)) := (by repeat (first | exact Below.refl _ _ | refine Below.alloc ?_ (by first | (simp; omega) | simp | omega) _ | refine drewN_below ?_ _ | refine Below.drew ?_))
  go_enter Tryd.func32, Tryd.ntmps32
  go_wp2_with (fail)
  generalize w.alloc (.cells #[.int .i64 p1, .int .i64 p2, .int .i64 p3, .int .i64 p4, .slice A L.length cap] 32) = w1 at *
  have hPl := hP.lt
  have hsz := hW.size
  have c1 := hP.cell 1
  have c2 := hP.cell 2
  have c3 := hP.cell 3
  have c4 := hP.cell 4
  have c0 := hP.cell 0
  simp at c0 c1 c2 c3 c4
  refine (rin_is p1 0 2147483647 v1 HV1.out _).mono ?_
  rintro e w' ⟨rfl, rfl⟩
  cases v1
  · go_wp2
    go_ret
    exact ⟨ret_int (by rw [HCE.out]; rfl), hW⟩
  · go_wp2_with (fail)
    refine (rin_is p2 0 16777215 v2 HV2.out _).mono ?_
    rintro e w2 ⟨rfl, rfl⟩
    cases v2
    · go_wp2
      go_ret
      exact ⟨ret_int (by rw [HCE.out]; rfl), hW⟩
    · go_wp2_with (fail)
      refine (rin_is p3 1 65536 v3 HV3.out _).mono ?_
      rintro e w3 ⟨rfl, rfl⟩
      cases v3
      · go_wp2
        go_ret
        exact ⟨ret_int (by rw [HCE.out]; rfl), hW⟩
      · go_wp2_with (fail)
        refine (rin_is p4 0 65536 v4 HV4.out _).mono ?_
        rintro e w4 ⟨rfl, rfl⟩
        cases v4
        · go_wp2
          go_ret
          exact ⟨ret_int (by rw [HCE.out]; rfl), hW⟩
        · have hp4 := HV4.out
          simp [inB] at hp4
          by_cases hd : 4096 < L.length
          · have t0 : decide ((4096 : Int) < (L.length : Int)) = true := by simp; omega
            have HD := hide (show chkE (p1, p2, p3, p4, L) = 2 by rw [HCE.out]; simp [hd])
            go_wp2
            go_ret
            exact ⟨ret_int (by rw [HD.out]), hW⟩
          · have t0 : decide ((4096 : Int) < (L.length : Int)) = false := by simp; omega
            go_wp2_with (fail)
            refine (rcount_any A cap (p1, p2, p3, p4, L) B _ (by omega) (h.below (hW.mono hB)) hc hl).mono ?_
            rintro e w5 ⟨rfl, hb5⟩
            have hP5 := hP.below hb5 hPl
            have hW5 := hW.trans (hb5.mono hsz)
            have hs5 := hb5.size
            clear hP c0 c1 c2 c3 c4 hb5 hPl
            by_cases hcn : 16384 < cntL L
            · have u0 : decide ((16384 : Int) < (cntL L : Int)) = true := by simp; omega
              have HD := hide (show chkE (p1, p2, p3, p4, L) = 2 by rw [HCE.out]; simp [hcn])
              go_wp2
              go_ret
              exact ⟨ret_int (by rw [HD.out]), hW5⟩
            · have u0 : decide ((16384 : Int) < (cntL L : Int)) = false := by simp; omega
              have HD := hide (show chkE (p1, p2, p3, p4, L) = devsE p4 (-1) L by rw [HCE.out]; simp [hd, hcn])
              have hP5l := hP5.lt
              go_wp2_with (fail)
              clear t0 u0 hd hcn
              go_loopw [3] (fun i wr => ∃ k : Nat, k ≤ L.length ∧ i = .int .i64 k ∧ devsE p4 (-1) L = devsE p4 (prevD L k) (L.drop k) ∧ Below w5.heap.size w5 wr) (fun i _ => L.length - (intOf i).toNat)
              case atStart => exact ⟨0, Nat.zero_le _, rfl, rfl, Below.refl _ _⟩
              case round =>
                obtain ⟨k, hk, rfl, hf, hb⟩ := hrel
                have hbw := hW5.trans (hb.mono hW5.size)
                have hsr := hb.size
                have hPr := hP5.below hb hP5l
                have g4 := hPr.cell 4
                simp at g4
                by_cases hlt : k < L.length
                · obtain ⟨d, hx⟩ := get_of_lt hlt
                  obtain ⟨b, off, A', cap', hAe, hbB, e0, e1, e2, e3, e4, hr⟩ := (h.below (hbw.mono hB)) k d hx
                  have hdl := len_cntL hx
                  have hf2 : devsE p4 (-1) L = if devE d (prevD L k) = 0 then (if mapE p4 (-1) d.2.2.2.2 = 0 then devsE p4 d.1 (L.drop (k + 1)) else mapE p4 (-1) d.2.2.2.2) else devE d (prevD L k) := by rw [hf, drop_step hx]; rfl
                  have HF := hide hf2
                  have hprev : 0 < k → ∃ pv : Int, prevD L k = pv ∧ wr.cell? ⟨b, off + (k - 1) * 5, none⟩ = some (.int .i64 pv) := by
                    intro hk0
                    obtain ⟨d', hd'⟩ := get_of_lt (show k - 1 < L.length by omega)
                    obtain ⟨b', off', _, _, hAe', _, q0, _⟩ := (h.below (hbw.mono hB)) (k - 1) d' hd'
                    rw [hAe] at hAe'
                    injection hAe' with h1
                    injection h1 with h2 h3
                    subst h2; subst h3
                    have h4 := prevD_succ hd'
                    rw [show k - 1 + 1 = k by omega] at h4
                    exact ⟨_, h4, q0⟩
                  have HPV := hide hprev
                  have HX := hide hx
                  subst hAe
                  have i0 : (0 : Int) ≤ (k : Int) := by omega
                  have i1 : (k : Int) < (L.length : Int) := by omega
                  clear hf hf2 hx hprev
                  obtain ⟨d1, d2, d3, d4, l⟩ := d
                  dsimp only at e0 e1 e2 e3 e4 hr hdl
                  obtain ⟨a1, ha1⟩ : ∃ a1, inB d1 0 16777215 = a1 := ⟨_, rfl⟩
                  obtain ⟨a2, ha2⟩ : ∃ a2, inB d2 0 2147483647 = a2 := ⟨_, rfl⟩
                  obtain ⟨a3, ha3⟩ : ∃ a3, inB d3 0 16777215 = a3 := ⟨_, rfl⟩
                  obtain ⟨a4, ha4⟩ : ∃ a4, inB d4 0 16777215 = a4 := ⟨_, rfl⟩
                  have hde : devE (d1, d2, d3, d4, l) (prevD L k) = if a1 && (a2 && (a3 && a4)) then (if d1 ≤ prevD L k then 8 else 0) else 2 := by
                    simp only [devE, timesB, allT, List.all_cons, List.all_nil, Bool.and_true]; rw [ha1, ha2, ha3, ha4]
                  have HDE := hide hde
                  have HA1 := hide ha1
                  have HA2 := hide ha2
                  have HA3 := hide ha3
                  have HA4 := hide ha4
                  have hbad : (a1 && (a2 && (a3 && a4))) = false → chkE (p1, p2, p3, p4, L) = 2 := fun hb => by
                    rw [HD.out, HF.out, HDE.out, hb]; rfl
                  have HBAD := hide hbad
                  clear hde ha1 ha2 ha3 ha4 hbad
                  go_wp2_with (fail)
                  have hT := Blk.new wr 24 #[.int .i64 d1, .int .i64 d2, .int .i64 d3, .int .i64 d4, .slice A' l.length cap']
                  have hWd : Below wr.heap.size wr (wr.alloc (.cells #[.int .i64 d1, .int .i64 d2, .int .i64 d3, .int .i64 d4, .slice A' l.length cap'] 24)) := (by repeat (first | exact Below.refl _ _ | refine Below.alloc ?_ (by first | (simp; omega) | simp | omega) _ | refine drewN_below ?_ _ | refine Below.drew ?_))
                  have hP6 := hPr.alloc (.cells #[.int .i64 d1, .int .i64 d2, .int .i64 d3, .int .i64 d4, .slice A' l.length cap'] 24)
                  generalize wr.alloc (.cells #[.int .i64 d1, .int .i64 d2, .int .i64 d3, .int .i64 d4, .slice A' l.length cap'] 24) = w6 at *
                  have hb6 := hb.trans (hWd.mono hsr)
                  have hbw6 := hW5.trans (hb6.mono hW5.size)
                  have hT0 := hT.cell 0
                  have hT1 := hT.cell 1
                  have hT2 := hT.cell 2
                  have hT3 := hT.cell 3
                  simp at hT0 hT1 hT2 hT3
                  have hTl := hT.lt
                  have hP6l := hP6.lt
                  refine (rin_is d1 0 16777215 a1 HA1.out _).mono ?_
                  rintro e x1 ⟨rfl, rfl⟩
                  cases a1
                  · go_wp2
                    go_ret
                    exact ⟨ret_int (by rw [HBAD.out rfl]), hbw6⟩
                  go_wp2_with (fail)
                  refine (rin_is d2 0 2147483647 a2 HA2.out _).mono ?_
                  rintro e x2 ⟨rfl, rfl⟩
                  cases a2
                  · go_wp2
                    go_ret
                    exact ⟨ret_int (by rw [HBAD.out rfl]), hbw6⟩
                  go_wp2_with (fail)
                  refine (rin_is d3 0 16777215 a3 HA3.out _).mono ?_
                  rintro e x3 ⟨rfl, rfl⟩
                  cases a3
                  · go_wp2
                    go_ret
                    exact ⟨ret_int (by rw [HBAD.out rfl]), hbw6⟩
                  go_wp2_with (fail)
                  refine (rin_is d4 0 16777215 a4 HA4.out _).mono ?_
                  rintro e x4 ⟨rfl, rfl⟩
                  cases a4
                  · go_wp2
                    go_ret
                    exact ⟨ret_int (by rw [HBAD.out rfl]), hbw6⟩
                  have hd1 := HA1.out
                  simp [inB] at hd1
                  have g4' := hP6.cell 4
                  simp at g4'
                  have q0 := fun hk0 : 0 < k => (HPV.out hk0)
                  have hbx : ∀ o, b < B → x4.cell? ⟨b, o, none⟩ = wr.cell? ⟨b, o, none⟩ := fun o hbB => hWd.cell (p := ⟨b, _, none⟩) (by dsimp only; have := hbw.size; omega)
                  have HBX := hide hbx
                  have Q0 := hide q0
                  have i3 := hT.cell 4
                  simp at i3
                  clear hbx q0 e0 e1 e2 e3 e4
                  have hgo : (k = 0 ∨ ∃ pv : Int, 0 < k ∧ prevD L k = pv ∧ pv < d1) ∨ (∃ pv : Int, 0 < k ∧ prevD L k = pv ∧ d1 ≤ pv) := by
                    rcases Nat.eq_zero_or_pos k with h0 | h0
                    · exact .inl (.inl h0)
                    · obtain ⟨pv, h1, _⟩ := Q0.out h0
                      by_cases hle : d1 ≤ pv
                      · exact .inr ⟨pv, h0, h1, hle⟩
                      · exact .inl (.inr ⟨pv, h0, h1, by omega⟩)
                  rcases hgo with hgo | ⟨pv, hk0, hpv, hle⟩
                  · have hok : devE (d1, d2, d3, d4, l) (prevD L k) = 0 := by
                      rw [HDE.out]
                      have : ¬ d1 ≤ prevD L k := by
                        rcases hgo with rfl | ⟨pv, _, h1, h2⟩
                        · simp only [prevD]; omega
                        · omega
                      rw [if_neg this]; rfl
                    have HOK := hide hok
                    clear hok
                    rcases hgo with hk0 | ⟨pv, hk0, hpv, hlt2⟩
                    · have z0 : decide ((0 : Int) < (k : Int)) = false := by simp; omega
                      have z1 : decide (0 < k) = false := by simp; omega
                      go_wp2
                      go_quiet (fail)
                      go_wp2_with (fail)
                      obtain ⟨wo, hwo⟩ : ∃ wo : World, wo = wr := ⟨_, rfl⟩
                      subst hwo
                      clear z0 z1
                      go_loopw [5] (fun i wx => ∃ j : Nat, j ≤ l.length ∧ i = .int .i64 j ∧ mapE p4 (-1) l = mapE p4 (prevM l j) (l.drop j) ∧ Below x4.heap.size x4 wx) (fun i _ => l.length - (intOf i).toNat)
                      case atStart => exact ⟨0, Nat.zero_le _, rfl, rfl, drewN_below (Below.refl _ _) _⟩
                      case round =>
                        obtain ⟨j, hj, rfl, hfm, hbx⟩ := hrel
                        clear hT0 hT1 hT2 hT3 g4' i3 g4
                        have hTx := hT.below hbx hTl
                        have hPx := hP6.below hbx hP6l
                        have hsx := hbx.size
                        have hb6x := hb6.trans (hbx.mono hb6.size)
                        have hbwx := hW5.trans (hb6x.mono hW5.size)
                        have hTxl := hTx.lt
                        have hPxl := hPx.lt
                        have t4 := hTx.cell 4
                        have p3c := hPx.cell 3
                        simp at t4 p3c
                        have hrx := hr.below ((hWd.trans (hbx.mono hWd.size)).mono (show B ≤ wo.heap.size by have := hbw.size; omega))
                        by_cases hlt2 : j < l.length
                        · obtain ⟨m, hm⟩ := get_of_lt hlt2
                          obtain ⟨b3, off3, hA3, hb3, m0, m1, m2⟩ := hrx.mp hm
                          have hprv : 0 < j → ∃ pv : Int, prevM l j = pv ∧ wr.cell? ⟨b3, off3 + (j - 1) * 3, none⟩ = some (.int .i64 pv) := by
                            intro hj0
                            obtain ⟨m', hm'⟩ := get_of_lt (show j - 1 < l.length by omega)
                            obtain ⟨b', off', hAe', _, q0, _⟩ := hrx.mp hm'
                            rw [hA3] at hAe'
                            injection hAe' with h1
                            injection h1 with h2 h3
                            subst h2; subst h3
                            have h4 := prevM_succ hm'
                            rw [show j - 1 + 1 = j by omega] at h4
                            exact ⟨_, h4, q0⟩
                          have hfm2 : mapE p4 (-1) l = if mapB p4 m then (if m.1 ≤ prevM l j then 8 else mapE p4 m.1 (l.drop (j + 1))) else 2 := by rw [hfm, drop_step hm]; rfl
                          obtain ⟨u1, hu1⟩ : ∃ u1, inB m.1 0 281474976710655 = u1 := ⟨_, rfl⟩
                          obtain ⟨u2, hu2⟩ : ∃ u2, inB m.2.1 0 (p4 - 1) = u2 := ⟨_, rfl⟩
                          obtain ⟨u3, hu3⟩ : ∃ u3, inB m.2.2 0 16777215 = u3 := ⟨_, rfl⟩
                          have hmb : mapB p4 m = (u1 && u2 && u3) := by simp only [mapB]; rw [hu1, hu2, hu3]
                          rw [hmb] at hfm2
                          have hcm : ∀ v : Int, v ≠ 0 → mapE p4 (-1) l = v → chkE (p1, p2, p3, p4, L) = v := fun v hv he => by
                            rw [HD.out, HF.out, HOK.out]
                            simp only [if_true]
                            rw [he, if_neg hv]
                          have HCM := hide hcm
                          have HFM := hide hfm2
                          have HU1 := hide hu1
                          have HU2 := hide hu2
                          have HU3 := hide hu3
                          have HPR := hide hprv
                          have HMM := hide hm
                          subst hA3
                          have hb3w : b3 < wr.heap.size := by have := hbwx.size; omega
                          have y0 : (0 : Int) ≤ (j : Int) := by omega
                          have y1 : (j : Int) < (l.length : Int) := by omega
                          clear hfm hfm2 hm hmb hu1 hu2 hu3 hcm hprv hrx
                          obtain ⟨m1_, m2_, m3_⟩ := m
                          dsimp only at m0 m1 m2
                          go_wp2_with (fail)
                          refine (rin_is m1_ 0 281474976710655 u1 HU1.out _).mono ?_
                          rintro e x5 ⟨rfl, rfl⟩
                          cases u1
                          · go_wp2
                            go_ret
                            exact ⟨ret_int (by rw [HCM.out 2 (by decide) (by rw [HFM.out]; rfl)]), (by have hsz := (hbwx).size; repeat (first | with_reducible exact hbwx | with_reducible refine Below.alloc ?_ (by first | (simp; omega) | simp | omega) _ | with_reducible refine drewN_below ?_ _ | with_reducible refine Below.drew ?_))⟩
                          go_wp2_with (fail)
                          refine (rin_is m2_ 0 (p4 - 1) u2 HU2.out _).mono ?_
                          rintro e x6 ⟨rfl, rfl⟩
                          cases u2
                          · go_wp2
                            go_ret
                            exact ⟨ret_int (by rw [HCM.out 2 (by decide) (by rw [HFM.out]; rfl)]), (by have hsz := (hbwx).size; repeat (first | with_reducible exact hbwx | with_reducible refine Below.alloc ?_ (by first | (simp; omega) | simp | omega) _ | with_reducible refine drewN_below ?_ _ | with_reducible refine Below.drew ?_))⟩
                          go_wp2_with (fail)
                          refine (rin_is m3_ 0 16777215 u3 HU3.out _).mono ?_
                          rintro e x7 ⟨rfl, rfl⟩
                          cases u3
                          · go_wp2
                            go_ret
                            exact ⟨ret_int (by rw [HCM.out 2 (by decide) (by rw [HFM.out]; rfl)]), (by have hsz := (hbwx).size; repeat (first | with_reducible exact hbwx | with_reducible refine Below.alloc ?_ (by first | (simp; omega) | simp | omega) _ | with_reducible refine drewN_below ?_ _ | with_reducible refine Below.drew ?_))⟩
                          have hm1 := HU1.out
                          simp [inB] at hm1
                          clear m0 m1 m2 p3c
                          rcases Nat.eq_zero_or_pos j with hj0 | hj0
                          · have z0 : decide ((0 : Int) < (j : Int)) = false := by simp; omega
                            have z1 : decide (0 < j) = false := by simp; omega
                            have hnx := hide (show mapE p4 (-1) l = mapE p4 (prevM l (j + 1)) (l.drop (j + 1)) by
                              rw [HFM.out, prevM_succ HMM.out, hj0]
                              exact (if_pos rfl).trans (if_neg (by simp only [prevM]; omega)))
                            go_wp2
                            go_quiet (fail)
                            go_wp2
                            go_roundw
                            case rel => exact ⟨j + 1, by omega, by go_num, hnx.out, drewN_below (by have hsz := (hbx).size; repeat (first | with_reducible exact hbx | with_reducible refine Below.alloc ?_ (by first | (simp; omega) | simp | omega) _ | with_reducible refine drewN_below ?_ _ | with_reducible refine Below.drew ?_)) _⟩
                            case measure => simp [intOf]; omega
                          · obtain ⟨pv, hp1, hp2⟩ := HPR.out hj0
                            have z0 : decide ((0 : Int) < (j : Int)) = true := by simp; omega
                            have z1 : decide (0 < j) = true := by simp; omega
                            have z3 : IntKind.i64.wrap ((j : Int) - 1) = (j : Int) - 1 := IntWalk.i64_in _ (by omega)
                            have z4 : ((j : Int) - 1).toNat = j - 1 := by omega
                            have z5 : (1 : Int) ≤ (j : Int) := by omega
                            have z6 : (j : Int) - 1 < (l.length : Int) := by omega
                            have z7 : (0 : Int) ≤ (j : Int) - 1 := by omega
                            by_cases hle : m1_ ≤ pv
                            · have z2 : decide (m1_ ≤ pv) = true := by simpa using hle
                              have hnx := hide (show mapE p4 (-1) l = 8 by rw [HFM.out, hp1]; exact (if_pos rfl).trans (if_pos hle))
                              clear hp1
                              go_wp2
                              go_quiet (fail)
                              go_wp2
                              go_ret
                              exact ⟨ret_int (by rw [HCM.out 8 (by decide) hnx.out]), drewN_below (by have hsz := (hbwx).size; repeat (first | with_reducible exact hbwx | with_reducible refine Below.alloc ?_ (by first | (simp; omega) | simp | omega) _ | with_reducible refine drewN_below ?_ _ | with_reducible refine Below.drew ?_)) _⟩
                            · have z2 : decide (m1_ ≤ pv) = false := by simpa using hle
                              have hnx := hide (show mapE p4 (-1) l = mapE p4 (prevM l (j + 1)) (l.drop (j + 1)) by
                                rw [HFM.out, prevM_succ HMM.out, hp1]; exact (if_pos rfl).trans (if_neg hle))
                              clear hp1
                              go_wp2
                              go_quiet (fail)
                              go_wp2
                              go_roundw
                              case rel => exact ⟨j + 1, by omega, by go_num, hnx.out, drewN_below (by have hsz := (hbx).size; repeat (first | with_reducible exact hbx | with_reducible refine Below.alloc ?_ (by first | (simp; omega) | simp | omega) _ | with_reducible refine drewN_below ?_ _ | with_reducible refine Below.drew ?_)) _⟩
                              case measure => simp [intOf]; omega
                        · have hnx := hide (show devsE p4 (-1) L = devsE p4 (prevD L (k + 1)) (L.drop (k + 1)) by
                            have hz : mapE p4 (-1) l = 0 := by rw [hfm, List.drop_eq_nil_of_le (by omega)]; rfl
                            rw [HF.out, HOK.out, prevD_succ HX.out]
                            simp only [if_true]
                            rw [hz]
                            simp only [if_true])
                          clear hfm
                          go_wp2
                          go_roundw
                          case rel => exact ⟨k + 1, by omega, by go_num, hnx.out, hb6x⟩
                          case measure => simp [intOf]; omega
                    · obtain ⟨pv', hp1, hp2⟩ := Q0.out hk0
                      obtain rfl : pv' = pv := hp1.symm.trans hpv
                      have hp3 := (HBX.out (off + (k - 1) * 5) hbB).trans hp2
                      have z0 : decide ((0 : Int) < (k : Int)) = true := by simp; omega
                      have z1 : decide (0 < k) = true := by simp; omega
                      have z2 : decide (d1 ≤ pv') = false := by simp; omega
                      have z3 : IntKind.i64.wrap ((k : Int) - 1) = (k : Int) - 1 := IntWalk.i64_in _ (by omega)
                      have z4 : ((k : Int) - 1).toNat = k - 1 := by omega
                      have z5 : (1 : Int) ≤ (k : Int) := by omega
                      have z6 : (k : Int) - 1 < (L.length : Int) := by omega
                      have z7 : (0 : Int) ≤ (k : Int) - 1 := by omega
                      clear hp1 hp2 hpv
                      go_wp2
                      go_quiet (fail)
                      go_wp2_with (fail)
                      obtain ⟨wo, hwo⟩ : ∃ wo : World, wo = wr := ⟨_, rfl⟩
                      subst hwo
                      clear z0 z1 z2 z3 z4 z5 z6 z7 hp3
                      go_loopw [5] (fun i wx => ∃ j : Nat, j ≤ l.length ∧ i = .int .i64 j ∧ mapE p4 (-1) l = mapE p4 (prevM l j) (l.drop j) ∧ Below x4.heap.size x4 wx) (fun i _ => l.length - (intOf i).toNat)
                      case atStart => exact ⟨0, Nat.zero_le _, rfl, rfl, drewN_below (Below.refl _ _) _⟩
                      case round =>
                        obtain ⟨j, hj, rfl, hfm, hbx⟩ := hrel
                        clear hT0 hT1 hT2 hT3 g4' i3 g4
                        have hTx := hT.below hbx hTl
                        have hPx := hP6.below hbx hP6l
                        have hsx := hbx.size
                        have hb6x := hb6.trans (hbx.mono hb6.size)
                        have hbwx := hW5.trans (hb6x.mono hW5.size)
                        have hTxl := hTx.lt
                        have hPxl := hPx.lt
                        have t4 := hTx.cell 4
                        have p3c := hPx.cell 3
                        simp at t4 p3c
                        have hrx := hr.below ((hWd.trans (hbx.mono hWd.size)).mono (show B ≤ wo.heap.size by have := hbw.size; omega))
                        by_cases hlt2 : j < l.length
                        · obtain ⟨m, hm⟩ := get_of_lt hlt2
                          obtain ⟨b3, off3, hA3, hb3, m0, m1, m2⟩ := hrx.mp hm
                          have hprv : 0 < j → ∃ pv : Int, prevM l j = pv ∧ wr.cell? ⟨b3, off3 + (j - 1) * 3, none⟩ = some (.int .i64 pv) := by
                            intro hj0
                            obtain ⟨m', hm'⟩ := get_of_lt (show j - 1 < l.length by omega)
                            obtain ⟨b', off', hAe', _, q0, _⟩ := hrx.mp hm'
                            rw [hA3] at hAe'
                            injection hAe' with h1
                            injection h1 with h2 h3
                            subst h2; subst h3
                            have h4 := prevM_succ hm'
                            rw [show j - 1 + 1 = j by omega] at h4
                            exact ⟨_, h4, q0⟩
                          have hfm2 : mapE p4 (-1) l = if mapB p4 m then (if m.1 ≤ prevM l j then 8 else mapE p4 m.1 (l.drop (j + 1))) else 2 := by rw [hfm, drop_step hm]; rfl
                          obtain ⟨u1, hu1⟩ : ∃ u1, inB m.1 0 281474976710655 = u1 := ⟨_, rfl⟩
                          obtain ⟨u2, hu2⟩ : ∃ u2, inB m.2.1 0 (p4 - 1) = u2 := ⟨_, rfl⟩
                          obtain ⟨u3, hu3⟩ : ∃ u3, inB m.2.2 0 16777215 = u3 := ⟨_, rfl⟩
                          have hmb : mapB p4 m = (u1 && u2 && u3) := by simp only [mapB]; rw [hu1, hu2, hu3]
                          rw [hmb] at hfm2
                          have hcm : ∀ v : Int, v ≠ 0 → mapE p4 (-1) l = v → chkE (p1, p2, p3, p4, L) = v := fun v hv he => by
                            rw [HD.out, HF.out, HOK.out]
                            simp only [if_true]
                            rw [he, if_neg hv]
                          have HCM := hide hcm
                          have HFM := hide hfm2
                          have HU1 := hide hu1
                          have HU2 := hide hu2
                          have HU3 := hide hu3
                          have HPR := hide hprv
                          have HMM := hide hm
                          subst hA3
                          have hb3w : b3 < wr.heap.size := by have := hbwx.size; omega
                          have y0 : (0 : Int) ≤ (j : Int) := by omega
                          have y1 : (j : Int) < (l.length : Int) := by omega
                          clear hfm hfm2 hm hmb hu1 hu2 hu3 hcm hprv hrx
                          obtain ⟨m1_, m2_, m3_⟩ := m
                          dsimp only at m0 m1 m2
                          go_wp2_with (fail)
                          refine (rin_is m1_ 0 281474976710655 u1 HU1.out _).mono ?_
                          rintro e x5 ⟨rfl, rfl⟩
                          cases u1
                          · go_wp2
                            go_ret
                            exact ⟨ret_int (by rw [HCM.out 2 (by decide) (by rw [HFM.out]; rfl)]), (by have hsz := (hbwx).size; repeat (first | with_reducible exact hbwx | with_reducible refine Below.alloc ?_ (by first | (simp; omega) | simp | omega) _ | with_reducible refine drewN_below ?_ _ | with_reducible refine Below.drew ?_))⟩
                          go_wp2_with (fail)
                          refine (rin_is m2_ 0 (p4 - 1) u2 HU2.out _).mono ?_
                          rintro e x6 ⟨rfl, rfl⟩
                          cases u2
                          · go_wp2
                            go_ret
                            exact ⟨ret_int (by rw [HCM.out 2 (by decide) (by rw [HFM.out]; rfl)]), (by have hsz := (hbwx).size; repeat (first | with_reducible exact hbwx | with_reducible refine Below.alloc ?_ (by first | (simp; omega) | simp | omega) _ | with_reducible refine drewN_below ?_ _ | with_reducible refine Below.drew ?_))⟩
                          go_wp2_with (fail)
                          refine (rin_is m3_ 0 16777215 u3 HU3.out _).mono ?_
                          rintro e x7 ⟨rfl, rfl⟩
                          cases u3
                          · go_wp2
                            go_ret
                            exact ⟨ret_int (by rw [HCM.out 2 (by decide) (by rw [HFM.out]; rfl)]), (by have hsz := (hbwx).size; repeat (first | with_reducible exact hbwx | with_reducible refine Below.alloc ?_ (by first | (simp; omega) | simp | omega) _ | with_reducible refine drewN_below ?_ _ | with_reducible refine Below.drew ?_))⟩
                          have hm1 := HU1.out
                          simp [inB] at hm1
                          clear m0 m1 m2 p3c
                          rcases Nat.eq_zero_or_pos j with hj0 | hj0
                          · have z0 : decide ((0 : Int) < (j : Int)) = false := by simp; omega
                            have z1 : decide (0 < j) = false := by simp; omega
                            have hnx := hide (show mapE p4 (-1) l = mapE p4 (prevM l (j + 1)) (l.drop (j + 1)) by
                              rw [HFM.out, prevM_succ HMM.out, hj0]
                              exact (if_pos rfl).trans (if_neg (by simp only [prevM]; omega)))
                            go_wp2
                            go_quiet (fail)
                            go_wp2
                            go_roundw
                            case rel => exact ⟨j + 1, by omega, by go_num, hnx.out, drewN_below (by have hsz := (hbx).size; repeat (first | with_reducible exact hbx | with_reducible refine Below.alloc ?_ (by first | (simp; omega) | simp | omega) _ | with_reducible refine drewN_below ?_ _ | with_reducible refine Below.drew ?_)) _⟩
                            case measure => simp [intOf]; omega
                          · obtain ⟨pv, hp1, hp2⟩ := HPR.out hj0
                            have z0 : decide ((0 : Int) < (j : Int)) = true := by simp; omega
                            have z1 : decide (0 < j) = true := by simp; omega
                            have z3 : IntKind.i64.wrap ((j : Int) - 1) = (j : Int) - 1 := IntWalk.i64_in _ (by omega)
                            have z4 : ((j : Int) - 1).toNat = j - 1 := by omega
                            have z5 : (1 : Int) ≤ (j : Int) := by omega
                            have z6 : (j : Int) - 1 < (l.length : Int) := by omega
                            have z7 : (0 : Int) ≤ (j : Int) - 1 := by omega
                            by_cases hle : m1_ ≤ pv
                            · have z2 : decide (m1_ ≤ pv) = true := by simpa using hle
                              have hnx := hide (show mapE p4 (-1) l = 8 by rw [HFM.out, hp1]; exact (if_pos rfl).trans (if_pos hle))
                              clear hp1
                              go_wp2
                              go_quiet (fail)
                              go_wp2
                              go_ret
                              exact ⟨ret_int (by rw [HCM.out 8 (by decide) hnx.out]), drewN_below (by have hsz := (hbwx).size; repeat (first | with_reducible exact hbwx | with_reducible refine Below.alloc ?_ (by first | (simp; omega) | simp | omega) _ | with_reducible refine drewN_below ?_ _ | with_reducible refine Below.drew ?_)) _⟩
                            · have z2 : decide (m1_ ≤ pv) = false := by simpa using hle
                              have hnx := hide (show mapE p4 (-1) l = mapE p4 (prevM l (j + 1)) (l.drop (j + 1)) by
                                rw [HFM.out, prevM_succ HMM.out, hp1]; exact (if_pos rfl).trans (if_neg hle))
                              clear hp1
                              go_wp2
                              go_quiet (fail)
                              go_wp2
                              go_roundw
                              case rel => exact ⟨j + 1, by omega, by go_num, hnx.out, drewN_below (by have hsz := (hbx).size; repeat (first | with_reducible exact hbx | with_reducible refine Below.alloc ?_ (by first | (simp; omega) | simp | omega) _ | with_reducible refine drewN_below ?_ _ | with_reducible refine Below.drew ?_)) _⟩
                              case measure => simp [intOf]; omega
                        · have hnx := hide (show devsE p4 (-1) L = devsE p4 (prevD L (k + 1)) (L.drop (k + 1)) by
                            have hz : mapE p4 (-1) l = 0 := by rw [hfm, List.drop_eq_nil_of_le (by omega)]; rfl
                            rw [HF.out, HOK.out, prevD_succ HX.out]
                            simp only [if_true]
                            rw [hz]
                            simp only [if_true])
                          clear hfm
                          go_wp2
                          go_roundw
                          case rel => exact ⟨k + 1, by omega, by go_num, hnx.out, hb6x⟩
                          case measure => simp [intOf]; omega
                  · obtain ⟨pv', hp1, hp2⟩ := Q0.out hk0
                    obtain rfl : pv' = pv := hp1.symm.trans hpv
                    have hp3 := (HBX.out (off + (k - 1) * 5) hbB).trans hp2
                    have HR8 := hide (show chkE (p1, p2, p3, p4, L) = 8 by
                      rw [HD.out, HF.out, HDE.out, hp1, if_pos hle]; rfl)
                    have z0 : decide ((0 : Int) < (k : Int)) = true := by simp; omega
                    have z1 : decide (0 < k) = true := by simp; omega
                    have z2 : decide (d1 ≤ pv') = true := by simp; omega
                    have z3 : IntKind.i64.wrap ((k : Int) - 1) = (k : Int) - 1 := IntWalk.i64_in _ (by omega)
                    have z4 : ((k : Int) - 1).toNat = k - 1 := by omega
                    have z5 : (1 : Int) ≤ (k : Int) := by omega
                    have z6 : (k : Int) - 1 < (L.length : Int) := by omega
                    have z7 : (0 : Int) ≤ (k : Int) - 1 := by omega
                    clear hp1 hp2 hpv
                    go_wp2
                    go_quiet (fail)
                    go_wp2
                    go_ret
                    exact ⟨ret_int (by rw [HR8.out]), drewN_below hbw6 _⟩
                · have HF : Hid (devsE p4 (-1) L = 0) := by
                    show devsE p4 (-1) L = _
                    rw [hf, List.drop_eq_nil_of_le (by omega)]; rfl
                  clear hf
                  go_wp2
                  go_ret
                  exact ⟨ret_int (by rw [HD.out, HF.out]), hbw⟩
end Go.Proofs.YtaglmkjkmhpifaaDoor
