/- Chapter 18: pool.device, mapped, Count, Check. -/
import Derived.Test.YtaglmkjkmhpifaaGreatDoorPoolA
import Derived.Test.YtaglmkjkmhpifaaGreatDoorDevA
namespace Go.Proofs.YtaglmkjkmhpifaaGreatDoor
open Go.RowKit
set_option linter.unusedVariables false
set_option linter.unusedSimpArgs false

set_option maxRecDepth 100000 in
set_option maxHeartbeats 2000000 in
theorem pdevice_any (A : Option Addr) (n cap : Nat) (d : Dv) (last : Int) (w : World) :
    Calls Tryz.prog 26 #[.agg #[.int .i64 d.1, .int .i64 d.2.1, .int .i64 d.2.2.1, .int .i64 d.2.2.2.1, .slice A n cap], .int .i64 last] w fun e w' => e = .returned (.int .i64 (devE d last)) ∧ Below w.heap.size w w' := by
  obtain ⟨d1, d2, d3, d4, l⟩ := d
  obtain ⟨v1, hv1⟩ : ∃ v1, inB d1 0 16777215 = v1 := ⟨_, rfl⟩
  obtain ⟨v2, hv2⟩ : ∃ v2, timesB d2 [d3, d4] = v2 := ⟨_, rfl⟩
  have hde : devE (d1, d2, d3, d4, l) last = if v1 && v2 then (if d1 ≤ last then 8 else 0) else 2 := by simp only [devE]; rw [hv1, hv2]
  have HDE := hide hde
  have HV1 := hide hv1
  have HV2 := hide hv2
  clear hde hv1 hv2
  go_enter Tryz.func26, Tryz.ntmps26
  go_wp2_with (fail)
  refine (in_is d1 0 16777215 v1 HV1.out _).mono ?_
  rintro e w' ⟨rfl, rfl⟩
  cases v1
  · go_wp2
    go_ret
    exact ⟨ret_int (by rw [HDE.out]; rfl), (by repeat (first | exact Below.refl _ _ | refine Below.alloc ?_ (by first | (simp; omega) | simp | omega) _ | refine drewN_below ?_ _ | refine Below.drew ?_))⟩
  · go_wp2_with (fail)
    have hR : Rd ((w.alloc (.cells #[.int .i64 d1, .int .i64 d2, .int .i64 d3, .int .i64 d4, .slice A n cap] 38)).alloc (.cells #[.int .i64 d3, .int .i64 d4] 3)) ((w.alloc (.cells #[.int .i64 d1, .int .i64 d2, .int .i64 d3, .int .i64 d4, .slice A n cap] 38)).alloc (.cells #[.int .i64 d3, .int .i64 d4] 3)).heap.size 1 nuc (some ⟨w.heap.size + 1, 0, none⟩) [d3, d4] :=
      Rd.of_block (heap_new_at (by simp)) (by simp) (fun _ => rfl) rfl
    refine (times_is (some ⟨w.heap.size + 1, 0, none⟩) 2 d2 [d3, d4] v2 HV2.out _ hR (by simp)).mono ?_
    rintro e w'' ⟨rfl, rfl⟩
    clear hR
    cases v2
    · go_wp2
      go_ret
      exact ⟨ret_int (by rw [HDE.out]; rfl), (by repeat (first | exact Below.refl _ _ | refine Below.alloc ?_ (by first | (simp; omega) | simp | omega) _ | refine drewN_below ?_ _ | refine Below.drew ?_))⟩
    · by_cases hl : d1 ≤ last
      · have t0 : decide (d1 ≤ last) = true := by simpa using hl
        go_wp2
        go_ret
        exact ⟨ret_int (by rw [HDE.out]; simp [hl]), (by repeat (first | exact Below.refl _ _ | refine Below.alloc ?_ (by first | (simp; omega) | simp | omega) _ | refine drewN_below ?_ _ | refine Below.drew ?_))⟩
      · have t0 : decide (d1 ≤ last) = false := by simpa using hl
        go_wp2
        go_ret
        exact ⟨ret_int (by rw [HDE.out]; simp [hl]), (by repeat (first | exact Below.refl _ _ | refine Below.alloc ?_ (by first | (simp; omega) | simp | omega) _ | refine drewN_below ?_ _ | refine Below.drew ?_))⟩


set_option maxRecDepth 100000 in
set_option maxHeartbeats 4000000 in
theorem mapped_any (A : Option Addr) (cap : Nat) (l : List Mp) (B : Nat) (data : Int) (hd : 0 ≤ data) (hd2 : data ≤ 1000000) (w : World) (hB : B ≤ w.heap.size) (h : Rd w B 3 mc A l) (hl : l.length ≤ 1000000) :
    Calls Tryz.prog 27 #[.slice A l.length cap, .int .i64 data] w fun e w' => e = .returned (.int .i64 (mapE data (-1) l)) ∧ Below w.heap.size w w' := by
  go_enter Tryz.func27, Tryz.ntmps27
  go_wp2
  go_loopw [5, 10] (fun la i wr => ∃ (k : Nat) (last : Int), k ≤ l.length ∧ i = .int .i64 k ∧ la = .int .i64 last ∧ mapE data (-1) l = mapE data last (l.drop k) ∧ Below w.heap.size w wr) (fun _ i _ => l.length - (intOf i).toNat)
  case atStart => exact ⟨0, -1, Nat.zero_le _, rfl, rfl, rfl, Below.refl _ _⟩
  case round =>
    obtain ⟨k, last, hk, rfl, rfl, hf, hb⟩ := hrel
    by_cases hlt : k < l.length
    · obtain ⟨x, hx⟩ := get_of_lt hlt
      obtain ⟨b, off, rfl, hbB, c0, c1, c2⟩ := (h.below (hb.mono hB)).mp hx
      have hf2 : mapE data (-1) l = if mapB data x then (if x.1 ≤ last then 8 else mapE data x.1 (l.drop (k + 1))) else 2 := by rw [hf, drop_step hx]; rfl
      obtain ⟨v1, hv1⟩ : ∃ v1, inB x.1 0 281474976710655 = v1 := ⟨_, rfl⟩
      obtain ⟨v2, hv2⟩ : ∃ v2, inB x.2.1 0 (data - 1) = v2 := ⟨_, rfl⟩
      obtain ⟨v3, hv3⟩ : ∃ v3, inB x.2.2 0 16777215 = v3 := ⟨_, rfl⟩
      have hmb : mapB data x = (v1 && v2 && v3) := by simp only [mapB]; rw [hv1, hv2, hv3]
      rw [hmb] at hf2
      have HF := hide hf2
      have HV1 := hide hv1
      have HV2 := hide hv2
      have HV3 := hide hv3
      have i0 : (0 : Int) ≤ (k : Int) := by omega
      have i1 : (k : Int) < (l.length : Int) := by omega
      clear hf hf2 hx hmb hv1 hv2 hv3
      obtain ⟨x1, x2, x3⟩ := x
      dsimp only at c0 c1 c2
      go_wp2_with (fail)
      refine (in_is x1 0 281474976710655 v1 HV1.out _).mono ?_
      rintro e w1 ⟨rfl, rfl⟩
      cases v1
      · go_wp2
        go_ret
        exact ⟨ret_int (by rw [HF.out]; rfl), (by have hsz := (hb).size; repeat (first | with_reducible exact hb | with_reducible refine Below.alloc ?_ (by first | (simp; omega) | simp | omega) _ | with_reducible refine drewN_below ?_ _ | with_reducible refine Below.drew ?_))⟩
      · go_wp2_with (fail)
        refine (in_is x2 0 (data - 1) v2 HV2.out _).mono ?_
        rintro e w2 ⟨rfl, rfl⟩
        cases v2
        · go_wp2
          go_ret
          exact ⟨ret_int (by rw [HF.out]; rfl), (by have hsz := (hb).size; repeat (first | with_reducible exact hb | with_reducible refine Below.alloc ?_ (by first | (simp; omega) | simp | omega) _ | with_reducible refine drewN_below ?_ _ | with_reducible refine Below.drew ?_))⟩
        · go_wp2_with (fail)
          refine (in_is x3 0 16777215 v3 HV3.out _).mono ?_
          rintro e w3 ⟨rfl, rfl⟩
          cases v3
          · go_wp2
            go_ret
            exact ⟨ret_int (by rw [HF.out]; rfl), (by have hsz := (hb).size; repeat (first | with_reducible exact hb | with_reducible refine Below.alloc ?_ (by first | (simp; omega) | simp | omega) _ | with_reducible refine drewN_below ?_ _ | with_reducible refine Below.drew ?_))⟩
          · by_cases hle : x1 ≤ last
            · have t0 : decide (x1 ≤ last) = true := by simpa using hle
              go_wp2
              go_ret
              exact ⟨ret_int (by rw [HF.out]; simp [hle]), (by have hsz := (hb).size; repeat (first | with_reducible exact hb | with_reducible refine Below.alloc ?_ (by first | (simp; omega) | simp | omega) _ | with_reducible refine drewN_below ?_ _ | with_reducible refine Below.drew ?_))⟩
            · have t0 : decide (x1 ≤ last) = false := by simpa using hle
              have HLE := hide hle
              go_wp2
              go_roundw
              case rel => exact ⟨k + 1, x1, by omega, by go_num, rfl, by rw [HF.out]; exact (if_pos rfl).trans (if_neg (by have := HLE.out; omega)), (by have hsz := (hb).size; repeat (first | with_reducible exact hb | with_reducible refine Below.alloc ?_ (by first | (simp; omega) | simp | omega) _ | with_reducible refine drewN_below ?_ _ | with_reducible refine Below.drew ?_))⟩
              case measure => simp [intOf]; omega
    · have HF : Hid (mapE data (-1) l = 0) := by
        show mapE data (-1) l = _
        rw [hf, List.drop_eq_nil_of_le (by omega)]; rfl
      clear hf
      go_wp2
      go_ret
      exact ⟨ret_int (by rw [HF.out]), hb⟩


set_option maxRecDepth 100000 in
set_option maxHeartbeats 4000000 in
theorem count_any (A : Option Addr) (cap : Nat) (p : Pl) (B : Nat) (w : World) (hB : B ≤ w.heap.size) (h : RdD w B A p.2.2.2.2) (hc : cntL p.2.2.2.2 ≤ 1000000) (hl : p.2.2.2.2.length ≤ 1000000) :
    Calls Tryz.prog 25 #[.agg #[.int .i64 p.1, .int .i64 p.2.1, .int .i64 p.2.2.1, .int .i64 p.2.2.2.1, .slice A p.2.2.2.2.length cap]] w fun e w' => e = .returned (.int .i64 (cntL p.2.2.2.2 : Nat)) ∧ Below w.heap.size w w' := by
  obtain ⟨p1, p2, p3, p4, L⟩ := p
  dsimp only at h hc hl
  go_enter Tryz.func25, Tryz.ntmps25
  go_wp2
  go_loopw [3, 9] (fun n i wr => ∃ k : Nat, k ≤ L.length ∧ i = .int .i64 k ∧ n = .int .i64 ((cntL (L.take k) : Nat) : Int) ∧ Below w.heap.size w wr) (fun _ i _ => L.length - (intOf i).toNat)
  case atStart => exact ⟨0, Nat.zero_le _, rfl, rfl, (by repeat (first | exact Below.refl _ _ | refine Below.alloc ?_ (by first | (simp; omega) | simp | omega) _ | refine drewN_below ?_ _ | refine Below.drew ?_))⟩
  case round =>
    obtain ⟨k, hk, rfl, rfl, hb⟩ := hrel
    have hle := cntL_le L k
    by_cases hlt : k < L.length
    · obtain ⟨d, hd⟩ := get_of_lt hlt
      obtain ⟨b, off, A', cap', rfl, hbB, c0, c1, c2, c3, c4, hr⟩ := (h.below (hb.mono hB)) k d hd
      have hst := cntL_step hd
      have hle2 := cntL_le L (k + 1)
      obtain ⟨N, hN⟩ : ∃ N, cntL (L.take k) = N := ⟨_, rfl⟩
      rw [hst] at hle2
      rw [hN] at hst hle hle2 ⊢
      have HST := hide hst
      have i0 : (0 : Int) ≤ (k : Int) := by omega
      have i1 : (k : Int) < (L.length : Int) := by omega
      clear hst hd hN hr
      obtain ⟨d1, d2, d3, d4, l⟩ := d
      dsimp only at c0 c1 c2 c3 c4 hle2
      go_wp2
      go_roundw
      case rel => exact ⟨k + 1, by omega, by go_num, by rw [HST.out]; (congr 1), (by have hsz := (hb).size; repeat (first | with_reducible exact hb | with_reducible refine Below.alloc ?_ (by first | (simp; omega) | simp | omega) _ | with_reducible refine drewN_below ?_ _ | with_reducible refine Below.drew ?_))⟩
      case measure => simp [intOf]; omega
    · have hkk : k = L.length := by omega
      subst hkk
      rw [List.take_length]
      go_wp2
      go_ret
      exact ⟨rfl, hb⟩


set_option maxRecDepth 100000 in
set_option maxHeartbeats 8000000 in
theorem check_any (A : Option Addr) (cap : Nat) (p : Pl) (B : Nat) (w : World) (hB : B ≤ w.heap.size) (h : RdD w B A p.2.2.2.2) (hc : cntL p.2.2.2.2 ≤ 1000000) (hl : p.2.2.2.2.length ≤ 1000000) :
    Calls Tryz.prog 10 #[.agg #[.int .i64 p.1, .int .i64 p.2.1, .int .i64 p.2.2.1, .int .i64 p.2.2.2.1, .slice A p.2.2.2.2.length cap]] w fun e w' => e = .returned (.int .i64 (chkE p)) ∧ Below w.heap.size w w' := by
  obtain ⟨p1, p2, p3, p4, L⟩ := p
  dsimp only at h hc hl
  obtain ⟨v1, hv1⟩ : ∃ v1, timesB p1 [p2] = v1 := ⟨_, rfl⟩
  obtain ⟨v2, hv2⟩ : ∃ v2, inB p3 1 65536 = v2 := ⟨_, rfl⟩
  obtain ⟨v3, hv3⟩ : ∃ v3, inB p4 0 65536 = v3 := ⟨_, rfl⟩
  have hce : chkE (p1, p2, p3, p4, L) = if v1 && v2 && v3 then (if 4096 < L.length ∨ 16384 < cntL L then 2 else devsE p4 (-1) L) else 2 := by simp only [chkE]; rw [hv1, hv2, hv3]
  have HCE := hide hce
  have HV1 := hide hv1
  have HV2 := hide hv2
  have HV3 := hide hv3
  clear hce hv1 hv2 hv3
  go_enter Tryz.func10, Tryz.ntmps10
  go_wp2_with (fail)
  have hP := (Blk.new w 24 #[.int .i64 p1, .int .i64 p2, .int .i64 p3, .int .i64 p4, .slice A L.length cap]).alloc (.cells #[.int .i64 p2] 3)
  have hW : Below w.heap.size w ((w.alloc (.cells #[.int .i64 p1, .int .i64 p2, .int .i64 p3, .int .i64 p4, .slice A L.length cap] 24)).alloc (.cells #[.int .i64 p2] 3)) := (by repeat (first | exact Below.refl _ _ | refine Below.alloc ?_ (by first | (simp; omega) | simp | omega) _ | refine drewN_below ?_ _ | refine Below.drew ?_))
  have hR : Rd ((w.alloc (.cells #[.int .i64 p1, .int .i64 p2, .int .i64 p3, .int .i64 p4, .slice A L.length cap] 24)).alloc (.cells #[.int .i64 p2] 3)) ((w.alloc (.cells #[.int .i64 p1, .int .i64 p2, .int .i64 p3, .int .i64 p4, .slice A L.length cap] 24)).alloc (.cells #[.int .i64 p2] 3)).heap.size 1 nuc (some ⟨w.heap.size + 1, 0, none⟩) [p2] :=
    Rd.of_block (heap_new_at (by simp)) (by simp) (fun _ => rfl) rfl
  generalize ((w.alloc (.cells #[.int .i64 p1, .int .i64 p2, .int .i64 p3, .int .i64 p4, .slice A L.length cap] 24)).alloc (.cells #[.int .i64 p2] 3)) = w1 at *
  refine (times_is (some ⟨w.heap.size + 1, 0, none⟩) 1 p1 [p2] v1 HV1.out _ hR (by simp)).mono ?_
  rintro e w' ⟨rfl, rfl⟩
  clear hR
  have hPl := hP.lt
  have hsz := hW.size
  have c2 := hP.cell 2
  have c3 := hP.cell 3
  have c4 := hP.cell 4
  have c0 := hP.cell 0
  have c1 := hP.cell 1
  simp at c0 c1 c2 c3 c4
  cases v1
  · go_wp2
    go_ret
    exact ⟨ret_int (by rw [HCE.out]; rfl), hW⟩
  · go_wp2_with (fail)
    refine (in_is p3 1 65536 v2 HV2.out _).mono ?_
    rintro e w'' ⟨rfl, rfl⟩
    cases v2
    · go_wp2
      go_ret
      exact ⟨ret_int (by rw [HCE.out]; rfl), hW⟩
    · go_wp2_with (fail)
      refine (in_is p4 0 65536 v3 HV3.out _).mono ?_
      rintro e w3 ⟨rfl, rfl⟩
      cases v3
      · go_wp2
        go_ret
        exact ⟨ret_int (by rw [HCE.out]; rfl), hW⟩
      · have hp4 := HV3.out
        simp [inB] at hp4
        by_cases hd : 4096 < L.length
        · have t0 : decide ((4096 : Int) < (L.length : Int)) = true := by simp; omega
          have HD := hide (show chkE (p1, p2, p3, p4, L) = 2 by rw [HCE.out]; simp [hd])
          go_wp2
          go_ret
          exact ⟨ret_int (by rw [HD.out]), hW⟩
        · have t0 : decide ((4096 : Int) < (L.length : Int)) = false := by simp; omega
          go_wp2_with (fail)
          refine (count_any A cap (p1, p2, p3, p4, L) B _ (by omega) (h.below (hW.mono hB)) hc hl).mono ?_
          rintro e w4 ⟨rfl, hb4⟩
          have hP4 := hP.below hb4 hPl
          have hW4 := hW.trans (hb4.mono hsz)
          have hs4 := hb4.size
          clear hP c0 c1 c2 c3 c4 hb4 hPl
          by_cases hcn : 16384 < cntL L
          · have u0 : decide ((16384 : Int) < (cntL L : Int)) = true := by simp; omega
            have HD := hide (show chkE (p1, p2, p3, p4, L) = 2 by rw [HCE.out]; simp [hcn])
            go_wp2
            go_ret
            exact ⟨ret_int (by rw [HD.out]), hW4⟩
          · have u0 : decide ((16384 : Int) < (cntL L : Int)) = false := by simp; omega
            have HD := hide (show chkE (p1, p2, p3, p4, L) = devsE p4 (-1) L by rw [HCE.out]; simp [hd, hcn])
            have hP4l := hP4.lt
            have c4 := hP4.cell 4
            simp at c4
            go_wp2_with (fail)
            clear t0 u0 c4 hd hcn
            go_loopw [3, 39] (fun la i wr => ∃ (k : Nat) (last : Int), k ≤ L.length ∧ i = .int .i64 k ∧ la = .int .i64 last ∧ devsE p4 (-1) L = devsE p4 last (L.drop k) ∧ Below w4.heap.size w4 wr) (fun _ i _ => L.length - (intOf i).toNat)
            case atStart => exact ⟨0, -1, Nat.zero_le _, rfl, rfl, rfl, Below.refl _ _⟩
            case round =>
              obtain ⟨k, last, hk, rfl, rfl, hf, hb⟩ := hrel
              have hbw := hW4.trans (hb.mono hW4.size)
              have hsr := hb.size
              by_cases hlt : k < L.length
              · obtain ⟨d, hx⟩ := get_of_lt hlt
                obtain ⟨b, off, A', cap', rfl, hbB, g0, g1, g2, g3, g4, hr⟩ := (h.below (hbw.mono hB)) k d hx
                have hdl := len_cntL hx
                have hf2 : devsE p4 (-1) L = if devE d last = 0 then (if mapE p4 (-1) d.2.2.2.2 = 0 then devsE p4 d.1 (L.drop (k + 1)) else mapE p4 (-1) d.2.2.2.2) else devE d last := by rw [hf, drop_step hx]; rfl
                have HF := hide hf2
                have i0 : (0 : Int) ≤ (k : Int) := by omega
                have i1 : (k : Int) < (L.length : Int) := by omega
                clear hf hf2 hx
                obtain ⟨d1, d2, d3, d4, l⟩ := d
                dsimp only at g0 g1 g2 g3 g4 hr hdl
                go_wp2_with (fail)
                have hD := Blk.new wr 38 #[.int .i64 d1, .int .i64 d2, .int .i64 d3, .int .i64 d4, .slice A' l.length cap']
                have hWd : Below wr.heap.size wr (wr.alloc (.cells #[.int .i64 d1, .int .i64 d2, .int .i64 d3, .int .i64 d4, .slice A' l.length cap'] 38)) := (by repeat (first | exact Below.refl _ _ | refine Below.alloc ?_ (by first | (simp; omega) | simp | omega) _ | refine drewN_below ?_ _ | refine Below.drew ?_))
                have hP5 := (hP4.below hb hP4l).alloc (.cells #[.int .i64 d1, .int .i64 d2, .int .i64 d3, .int .i64 d4, .slice A' l.length cap'] 38)
                generalize wr.alloc (.cells #[.int .i64 d1, .int .i64 d2, .int .i64 d3, .int .i64 d4, .slice A' l.length cap'] 38) = w5 at *
                refine (pdevice_any A' l.length cap' (d1, d2, d3, d4, l) last w5).mono ?_
                rintro e w6 ⟨rfl, hb6⟩
                have hD6 := hD.below hb6 hD.lt
                have hP6 := hP5.below hb6 hP5.lt
                have hb7 := hb.trans ((hWd.trans (hb6.mono hWd.size)).mono hsr)
                have hw7 := hW4.trans (hb7.mono hW4.size)
                have hr7 := hr.below ((hWd.trans (hb6.mono hWd.size)).mono (by omega))
                have hs7 := hw7.size
                obtain ⟨ev, hev⟩ : ∃ ev, devE (d1, d2, d3, d4, l) last = ev := ⟨_, rfl⟩
                rw [hev]
                have HEV := hide hev
                clear hD hP5 hb6 hWd g0 g1 g2 g3 g4 hev
                by_cases hz : ev = 0
                · subst hz
                  have d4c := hD6.cell 4
                  have d0c := hD6.cell 0
                  have p3c := hP6.cell 3
                  simp at d4c d0c p3c
                  go_wp2_with (fail)
                  refine (mapped_any A' cap' l B p4 hp4.1 (by omega) w6 (by omega) hr7 (by omega)).mono ?_
                  rintro e w8 ⟨rfl, hb8⟩
                  have hD8 := hD6.below hb8 hD6.lt
                  have hb9 := hb7.trans (hb8.mono (by have := hb7.size; omega))
                  have hw9 := hW4.trans (hb9.mono hW4.size)
                  obtain ⟨mv, hmv⟩ : ∃ mv, mapE p4 (-1) l = mv := ⟨_, rfl⟩
                  rw [hmv]
                  have HMV := hide hmv
                  clear hD6 hP6 hb7 hw7 hr7 hb8 d4c d0c p3c hmv
                  by_cases hz2 : mv = 0
                  · subst hz2
                    have d0c := hD8.cell 0
                    simp at d0c
                    go_wp2
                    go_roundw
                    case rel => exact ⟨k + 1, d1, by omega, by go_num, rfl, by rw [HF.out, HEV.out, HMV.out]; rfl, hb9⟩
                    case measure => simp [intOf]; omega
                  · have y0 : (mv != 0) = true := by simpa using hz2
                    have HZ2 := hide hz2
                    go_wp2
                    go_ret
                    exact ⟨ret_int (by rw [HD.out, HF.out, HEV.out, HMV.out]; simp [HZ2.out]), hw9⟩
                · have y0 : (ev != 0) = true := by simpa using hz
                  have HZ := hide hz
                  go_wp2
                  go_ret
                  exact ⟨ret_int (by rw [HD.out, HF.out, HEV.out]; simp [HZ.out]), hw7⟩
              · have HF : Hid (devsE p4 (-1) L = 0) := by
                  show devsE p4 (-1) L = _
                  rw [hf, List.drop_eq_nil_of_le (by omega)]; rfl
                clear hf
                go_wp2
                go_ret
                exact ⟨ret_int (by rw [HD.out, HF.out]), hbw⟩
end Go.Proofs.YtaglmkjkmhpifaaGreatDoor
