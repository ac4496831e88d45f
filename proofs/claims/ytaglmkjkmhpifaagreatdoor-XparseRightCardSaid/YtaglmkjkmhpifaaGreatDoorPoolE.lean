/- Chapter 18: Same: pools compared field by field. -/
import Derived.Test.YtaglmkjkmhpifaaGreatDoorPoolB
namespace Go.Proofs.YtaglmkjkmhpifaaGreatDoor
open Go.RowKit
set_option linter.unusedVariables false
set_option linter.unusedSimpArgs false

set_option maxRecDepth 100000 in
set_option maxHeartbeats 4000000 in
theorem equalM_any (A A' : Option Addr) (cap cap' : Nat) (l l' : List Mp) (B : Nat) (w : World) (hB : B ≤ w.heap.size) (h : Rd w B 3 mc A l) (h' : Rd w B 3 mc A' l') (hlen : l.length ≤ 1000000) :
    Calls Tryz.prog 50 #[.slice A l.length cap, .slice A' l'.length cap'] w fun e w' => e = .returned (.bool (decide (l = l'))) ∧ Below w.heap.size w w' := by
  by_cases hl : l.length = l'.length
  · obtain ⟨n, hn⟩ : ∃ n, l.length = n := ⟨_, rfl⟩
    have hn' : l'.length = n := by omega
    rw [hn] at hlen
    rw [hn, hn']
    have HN := hide (And.intro hn hn')
    clear hn hn' hl
    go_enter Tryz.func50, Tryz.ntmps50
    go_wp2
    go_loopw [13] (fun i wr => ∃ k : Nat, k ≤ n ∧ i = .int .i64 k ∧ l.take k = l'.take k ∧ Below w.heap.size w wr) (fun i _ => n - (intOf i).toNat)
    case atStart => exact ⟨0, Nat.zero_le _, rfl, by simp, Below.refl _ _⟩
    case round =>
      obtain ⟨k, hk, rfl, htk, hb⟩ := hrel
      have HTK := hide htk
      clear htk
      by_cases hlt : k < n
      · obtain ⟨m, hm⟩ := get_of_lt (show k < l.length by have := HN.out; omega)
        obtain ⟨m', hm'⟩ := get_of_lt (show k < l'.length by have := HN.out; omega)
        obtain ⟨b, off, rfl, hbB, c0, c1, c2⟩ := (h.below (hb.mono hB)).mp hm
        obtain ⟨b', off', rfl, hbB', c0', c1', c2'⟩ := (h'.below (hb.mono hB)).mp hm'
        have HM := hide hm
        have HM' := hide hm'
        have hout : m ≠ m' → l ≠ l' := fun hne hll => by subst hll; rw [hm] at hm'; exact hne (Option.some.inj hm')
        have HOUT := hide hout
        clear hm hm' hout
        obtain ⟨m1, m2, m3⟩ := m
        obtain ⟨n1, n2, n3⟩ := m'
        dsimp only at c0 c1 c2 c0' c1' c2'
        have i0 : (0 : Int) ≤ (k : Int) := by omega
        have i1 : (k : Int) < (n : Int) := by omega
        by_cases e1 : m1 = n1
        · by_cases e2 : m2 = n2
          · by_cases e3 : m3 = n3
            · subst e1; subst e2; subst e3
              go_wp2
              go_region
              go_wp2
              go_roundw
              case rel => exact ⟨k + 1, by omega, by go_num, by rw [take_step HM.out, take_step HM'.out, HTK.out], (by have hsz := (hb).size; repeat (first | with_reducible exact hb | with_reducible refine Below.alloc ?_ (by first | (simp; omega) | simp | omega) _ | with_reducible refine drewN_below ?_ _ | with_reducible refine Below.drew ?_))⟩
              case measure => simp [intOf]; omega
            · subst e1; subst e2
              go_wp2
              go_region
              go_wp2
              go_ret
              exact ⟨by rw [decide_eq_false (HOUT.out (by simpa using e3))]; rfl, (by have hsz := (hb).size; repeat (first | with_reducible exact hb | with_reducible refine Below.alloc ?_ (by first | (simp; omega) | simp | omega) _ | with_reducible refine drewN_below ?_ _ | with_reducible refine Below.drew ?_))⟩
          · subst e1
            go_wp2
            go_region
            go_wp2
            go_ret
            exact ⟨by rw [decide_eq_false (HOUT.out (fun hh => e2 (by simp at hh; exact hh.1)))]; rfl, (by have hsz := (hb).size; repeat (first | with_reducible exact hb | with_reducible refine Below.alloc ?_ (by first | (simp; omega) | simp | omega) _ | with_reducible refine drewN_below ?_ _ | with_reducible refine Below.drew ?_))⟩
        · go_wp2
          go_region
          go_wp2
          go_ret
          exact ⟨by rw [decide_eq_false (HOUT.out (fun hh => e1 (by simp at hh; exact hh.1)))]; rfl, (by have hsz := (hb).size; repeat (first | with_reducible exact hb | with_reducible refine Below.alloc ?_ (by first | (simp; omega) | simp | omega) _ | with_reducible refine drewN_below ?_ _ | with_reducible refine Below.drew ?_))⟩
      · have hkk : k = n := by omega
        have hll : l = l' := by
          have := HTK.out
          rwa [List.take_of_length_le (by have := HN.out; omega), List.take_of_length_le (by have := HN.out; omega)] at this
        have HLL := hide (decide_eq_true hll)
        clear hll
        go_wp2
        go_ret
        exact ⟨by rw [HLL.out]; rfl, hb⟩
  · have hll : l ≠ l' := fun hh => hl (by rw [hh])
    have HLL := hide (decide_eq_false hll)
    clear hll
    go_enter Tryz.func50, Tryz.ntmps50
    go_wp2
    go_ret
    exact ⟨by rw [HLL.out]; rfl, Below.refl _ _⟩
theorem equalM_is (A A' : Option Addr) (cap cap' : Nat) (l l' : List Mp) (B : Nat) (w : World) (hB : B ≤ w.heap.size) (h : Rd w B 3 mc A l) (h' : Rd w B 3 mc A' l') (hlen : l.length ≤ 1000000) (v : Bool) (hv : decide (l = l') = v) :
    Calls Tryz.prog 50 #[.slice A l.length cap, .slice A' l'.length cap'] w fun e w' => e = .returned (.bool v) ∧ Below w.heap.size w w' :=
  hv ▸ equalM_any A A' cap cap' l l' B w hB h h' hlen

instance decMps : DecidableEq (List Mp) := inferInstance
instance decIM : DecidableEq (Int × List Mp) := instDecidableEqProd
instance decIM2 : DecidableEq (Int × Int × List Mp) := instDecidableEqProd
instance decIM3 : DecidableEq (Int × Int × Int × List Mp) := instDecidableEqProd
instance decDv : DecidableEq Dv := instDecidableEqProd
instance decDvs : DecidableEq (List Dv) := inferInstance
instance decID : DecidableEq (Int × List Dv) := instDecidableEqProd
instance decID2 : DecidableEq (Int × Int × List Dv) := instDecidableEqProd
instance decID3 : DecidableEq (Int × Int × Int × List Dv) := instDecidableEqProd
instance decPl : DecidableEq Pl := instDecidableEqProd

set_option maxRecDepth 100000 in
set_option maxHeartbeats 4000000 in
theorem sameD_any (A A' : Option Addr) (cap cap' : Nat) (d d' : Dv) (B : Nat) (w : World) (hB : B ≤ w.heap.size) (h : Rd w B 3 mc A d.2.2.2.2) (h' : Rd w B 3 mc A' d'.2.2.2.2) (hlen : d.2.2.2.2.length ≤ 1000000) :
    Calls Tryz.prog 22 #[.agg #[.int .i64 d.1, .int .i64 d.2.1, .int .i64 d.2.2.1, .int .i64 d.2.2.2.1, .slice A d.2.2.2.2.length cap], .agg #[.int .i64 d'.1, .int .i64 d'.2.1, .int .i64 d'.2.2.1, .int .i64 d'.2.2.2.1, .slice A' d'.2.2.2.2.length cap']] w
      fun e w' => e = .returned (.bool (decide (d = d'))) ∧ Below w.heap.size w w' := by
  obtain ⟨a1, a2, a3, a4, l⟩ := d
  obtain ⟨b1, b2, b3, b4, l'⟩ := d'
  dsimp only at h h' hlen ⊢
  have hW : ∀ c c' : Array Value, Below w.heap.size w ((w.alloc (.cells c 38)).alloc (.cells c' 38)) := fun c c' => ((Below.refl _ w).alloc (Nat.le_refl _) _).alloc (by simp) _
  by_cases e1 : a1 = b1
  · by_cases e2 : a2 = b2
    · by_cases e3 : a3 = b3
      · by_cases e4 : a4 = b4
        · subst e1; subst e2; subst e3; subst e4
          obtain ⟨v, hv⟩ : ∃ v, decide (l = l') = v := ⟨_, rfl⟩
          have hv2 : decide ((a1, a2, a3, a4, l) = (a1, a2, a3, a4, l')) = v := by rw [← hv]; simp
          rw [hv2]
          have HV := hide hv
          clear hv hv2
          go_enter Tryz.func22, Tryz.ntmps22
          go_wp2_with (fail)
          refine (equalM_is A A' cap cap' l l' B _ (by simp; omega) (h.below ((hW _ _).mono hB)) (h'.below ((hW _ _).mono hB)) hlen v HV.out).mono ?_
          rintro e w3 ⟨rfl, hb3⟩
          have hw3 := (hW _ _).trans (hb3.mono (by simp; omega))
          cases v
          all_goals
            go_wp2
            go_ret
            exact ⟨rfl, hw3⟩
        · subst e1; subst e2; subst e3
          have hv2 := decide_eq_false (show ¬ ((a1, a2, a3, a4, l) = (a1, a2, a3, b4, l')) by simp [e4])
          rw [hv2]
          clear hv2
          go_enter Tryz.func22, Tryz.ntmps22
          go_wp2
          go_ret
          exact ⟨rfl, hW _ _⟩
      · subst e1; subst e2
        have hv2 := decide_eq_false (show ¬ ((a1, a2, a3, a4, l) = (a1, a2, b3, b4, l')) by simp [e3])
        rw [hv2]
        clear hv2
        go_enter Tryz.func22, Tryz.ntmps22
        go_wp2
        go_ret
        exact ⟨rfl, hW _ _⟩
    · subst e1
      have hv2 := decide_eq_false (show ¬ ((a1, a2, a3, a4, l) = (a1, b2, b3, b4, l')) by simp [e2])
      rw [hv2]
      clear hv2
      go_enter Tryz.func22, Tryz.ntmps22
      go_wp2
      go_ret
      exact ⟨rfl, hW _ _⟩
  · have hv2 := decide_eq_false (show ¬ ((a1, a2, a3, a4, l) = (b1, b2, b3, b4, l')) by simp [e1])
    rw [hv2]
    clear hv2
    go_enter Tryz.func22, Tryz.ntmps22
    go_wp2
    go_ret
    exact ⟨rfl, hW _ _⟩
theorem sameD_is (A A' : Option Addr) (cap cap' : Nat) (d d' : Dv) (B : Nat) (w : World) (hB : B ≤ w.heap.size) (h : Rd w B 3 mc A d.2.2.2.2) (h' : Rd w B 3 mc A' d'.2.2.2.2) (hlen : d.2.2.2.2.length ≤ 1000000) (v : Bool) (hv : decide (d = d') = v) :
    Calls Tryz.prog 22 #[.agg #[.int .i64 d.1, .int .i64 d.2.1, .int .i64 d.2.2.1, .int .i64 d.2.2.2.1, .slice A d.2.2.2.2.length cap], .agg #[.int .i64 d'.1, .int .i64 d'.2.1, .int .i64 d'.2.2.1, .int .i64 d'.2.2.2.1, .slice A' d'.2.2.2.2.length cap']] w
      fun e w' => e = .returned (.bool v) ∧ Below w.heap.size w w' := hv ▸ sameD_any A A' cap cap' d d' B w hB h h' hlen


set_option maxRecDepth 100000 in
set_option maxHeartbeats 4000000 in
theorem equalD_any (A A' : Option Addr) (cap cap' : Nat) (l l' : List Dv) (B : Nat) (w : World) (hB : B ≤ w.heap.size) (h : RdD w B A l) (h' : RdD w B A' l') (hlen : l.length ≤ 1000000) (hm : ∀ d ∈ l, d.2.2.2.2.length ≤ 1000000) :
    Calls Tryz.prog 21 #[.slice A l.length cap, .slice A' l'.length cap', .func (.func 22) #[] #[]] w fun e w' => e = .returned (.bool (decide (l = l'))) ∧ Below w.heap.size w w' := by
  have HMM := hide hm
  clear hm
  by_cases hl : l.length = l'.length
  · obtain ⟨n, hn⟩ : ∃ n, l.length = n := ⟨_, rfl⟩
    have hn' : l'.length = n := by omega
    rw [hn] at hlen
    rw [hn, hn']
    have HN := hide (And.intro hn hn')
    clear hn hn' hl
    go_enter Tryz.func21, Tryz.ntmps21
    go_wp2
    go_loopw [17] (fun i wr => ∃ k : Nat, k ≤ n ∧ i = .int .i64 k ∧ l.take k = l'.take k ∧ Below w.heap.size w wr) (fun i _ => n - (intOf i).toNat)
    case atStart => exact ⟨0, Nat.zero_le _, rfl, by simp, Below.refl _ _⟩
    case round =>
      obtain ⟨k, hk, rfl, htk, hb⟩ := hrel
      have HTK := hide htk
      clear htk
      by_cases hlt : k < n
      · obtain ⟨d, hd⟩ := get_of_lt (show k < l.length by have := HN.out; omega)
        obtain ⟨d', hd'⟩ := get_of_lt (show k < l'.length by have := HN.out; omega)
        obtain ⟨b, off, A1, cap1, rfl, hbB, c0, c1, c2, c3, c4, hr⟩ := (h.below (hb.mono hB)) k d hd
        obtain ⟨b', off', A2, cap2, rfl, hbB', c0', c1', c2', c3', c4', hr'⟩ := (h'.below (hb.mono hB)) k d' hd'
        have HM := hide hd
        have HM' := hide hd'
        have hdl := HMM.out d (List.mem_of_getElem? hd)
        have hout : d ≠ d' → l ≠ l' := fun hne hll => by subst hll; rw [hd] at hd'; exact hne (Option.some.inj hd')
        have HOUT := hide hout
        obtain ⟨v, hv⟩ : ∃ v, decide (d = d') = v := ⟨_, rfl⟩
        have HV := hide hv
        have hsr := hb.size
        clear hd hd' hout hv
        obtain ⟨a1, a2, a3, a4, m⟩ := d
        obtain ⟨b1, b2, b3, b4, m'⟩ := d'
        dsimp only at c0 c1 c2 c3 c4 c0' c1' c2' c3' c4' hr hr' hdl
        have i0 : (0 : Int) ≤ (k : Int) := by omega
        have i1 : (k : Int) < (n : Int) := by omega
        have hbr : b < wr.heap.size := by omega
        have hbr' : b' < wr.heap.size := by omega
        have hW : Below wr.heap.size wr ((wr.alloc (.cells #[.int .i64 a1, .int .i64 a2, .int .i64 a3, .int .i64 a4, .slice A1 m.length cap1] 38)).alloc (.cells #[.int .i64 b1, .int .i64 b2, .int .i64 b3, .int .i64 b4, .slice A2 m'.length cap2] 38)) := (by repeat (first | exact Below.refl _ _ | refine Below.alloc ?_ (by first | (simp; omega) | simp | omega) _ | refine drewN_below ?_ _ | refine Below.drew ?_))
        go_wp2_with (fail)
        refine (sameD_is A1 A2 cap1 cap2 (a1, a2, a3, a4, m) (b1, b2, b3, b4, m') B _ (by simp; omega) (hr.below (hW.mono (by omega))) (hr'.below (hW.mono (by omega))) hdl v HV.out).mono ?_
        rintro e w3 ⟨rfl, hb3⟩
        have hw3 := hb.trans ((hW.trans (hb3.mono (by simp; omega))).mono hsr)
        clear hW hb3 c0 c1 c2 c3 c4 c0' c1' c2' c3' c4'
        cases v
        · go_wp2
          go_ret
          exact ⟨by rw [decide_eq_false (HOUT.out (of_decide_eq_false HV.out))]; rfl, hw3⟩
        · go_wp2
          go_roundw
          case rel => exact ⟨k + 1, by omega, by go_num, by rw [take_step HM.out, take_step HM'.out, HTK.out, of_decide_eq_true HV.out], hw3⟩
          case measure => simp [intOf]; omega
      · have hkk : k = n := by omega
        have hll : l = l' := by
          have := HTK.out
          rwa [List.take_of_length_le (by have := HN.out; omega), List.take_of_length_le (by have := HN.out; omega)] at this
        have HLL := hide (decide_eq_true hll)
        clear hll
        go_wp2
        go_ret
        exact ⟨by rw [HLL.out]; rfl, hb⟩
  · have hll : l ≠ l' := fun hh => hl (by rw [hh])
    have HLL := hide (decide_eq_false hll)
    clear hll
    go_enter Tryz.func21, Tryz.ntmps21
    go_wp2
    go_ret
    exact ⟨by rw [HLL.out]; rfl, Below.refl _ _⟩
theorem equalD_is (A A' : Option Addr) (cap cap' : Nat) (l l' : List Dv) (B : Nat) (w : World) (hB : B ≤ w.heap.size) (h : RdD w B A l) (h' : RdD w B A' l') (hlen : l.length ≤ 1000000) (hm : ∀ d ∈ l, d.2.2.2.2.length ≤ 1000000) (v : Bool) (hv : decide (l = l') = v) :
    Calls Tryz.prog 21 #[.slice A l.length cap, .slice A' l'.length cap', .func (.func 22) #[] #[]] w fun e w' => e = .returned (.bool v) ∧ Below w.heap.size w w' :=
  hv ▸ equalD_any A A' cap cap' l l' B w hB h h' hlen hm

set_option maxRecDepth 100000 in
set_option maxHeartbeats 4000000 in
theorem sameP_any (A A' : Option Addr) (cap cap' : Nat) (d d' : Pl) (B : Nat) (w : World) (hB : B ≤ w.heap.size) (h : RdD w B A d.2.2.2.2) (h' : RdD w B A' d'.2.2.2.2) (hlen : d.2.2.2.2.length ≤ 1000000) (hm : ∀ x ∈ d.2.2.2.2, x.2.2.2.2.length ≤ 1000000) :
    Calls Tryz.prog 9 #[.agg #[.int .i64 d.1, .int .i64 d.2.1, .int .i64 d.2.2.1, .int .i64 d.2.2.2.1, .slice A d.2.2.2.2.length cap], .agg #[.int .i64 d'.1, .int .i64 d'.2.1, .int .i64 d'.2.2.1, .int .i64 d'.2.2.2.1, .slice A' d'.2.2.2.2.length cap']] w
      fun e w' => e = .returned (.bool (decide (d = d'))) ∧ Below w.heap.size w w' := by
  obtain ⟨a1, a2, a3, a4, l⟩ := d
  obtain ⟨b1, b2, b3, b4, l'⟩ := d'
  dsimp only at h h' hlen hm ⊢
  have HMM := hide hm
  clear hm
  have hW : ∀ c c' : Array Value, Below w.heap.size w ((w.alloc (.cells c 24)).alloc (.cells c' 24)) := fun c c' => ((Below.refl _ w).alloc (Nat.le_refl _) _).alloc (by simp) _
  by_cases e1 : a1 = b1
  · by_cases e2 : a2 = b2
    · by_cases e3 : a3 = b3
      · by_cases e4 : a4 = b4
        · subst e1; subst e2; subst e3; subst e4
          obtain ⟨v, hv⟩ : ∃ v, decide (l = l') = v := ⟨_, rfl⟩
          have hv2 : decide ((a1, a2, a3, a4, l) = (a1, a2, a3, a4, l')) = v := by rw [← hv]; simp
          rw [hv2]
          have HV := hide hv
          clear hv hv2
          go_enter Tryz.func9, Tryz.ntmps9
          go_wp2_with (fail)
          refine (equalD_is A A' cap cap' l l' B _ (by simp; omega) (h.below ((hW _ _).mono hB)) (h'.below ((hW _ _).mono hB)) hlen HMM.out v HV.out).mono ?_
          rintro e w3 ⟨rfl, hb3⟩
          have hw3 := (hW _ _).trans (hb3.mono (by simp; omega))
          cases v
          all_goals
            go_wp2
            go_ret
            exact ⟨rfl, hw3⟩
        · subst e1; subst e2; subst e3
          have hv2 := decide_eq_false (show ¬ ((a1, a2, a3, a4, l) = (a1, a2, a3, b4, l')) by simp [e4])
          rw [hv2]
          clear hv2
          go_enter Tryz.func9, Tryz.ntmps9
          go_wp2
          go_ret
          exact ⟨rfl, hW _ _⟩
      · subst e1; subst e2
        have hv2 := decide_eq_false (show ¬ ((a1, a2, a3, a4, l) = (a1, a2, b3, b4, l')) by simp [e3])
        rw [hv2]
        clear hv2
        go_enter Tryz.func9, Tryz.ntmps9
        go_wp2
        go_ret
        exact ⟨rfl, hW _ _⟩
    · subst e1
      have hv2 := decide_eq_false (show ¬ ((a1, a2, a3, a4, l) = (a1, b2, b3, b4, l')) by simp [e2])
      rw [hv2]
      clear hv2
      go_enter Tryz.func9, Tryz.ntmps9
      go_wp2
      go_ret
      exact ⟨rfl, hW _ _⟩
  · have hv2 := decide_eq_false (show ¬ ((a1, a2, a3, a4, l) = (b1, b2, b3, b4, l')) by simp [e1])
    rw [hv2]
    clear hv2
    go_enter Tryz.func9, Tryz.ntmps9
    go_wp2
    go_ret
    exact ⟨rfl, hW _ _⟩
theorem sameP_is (A A' : Option Addr) (cap cap' : Nat) (d d' : Pl) (B : Nat) (w : World) (hB : B ≤ w.heap.size) (h : RdD w B A d.2.2.2.2) (h' : RdD w B A' d'.2.2.2.2) (hlen : d.2.2.2.2.length ≤ 1000000) (hm : ∀ x ∈ d.2.2.2.2, x.2.2.2.2.length ≤ 1000000) (v : Bool) (hv : decide (d = d') = v) :
    Calls Tryz.prog 9 #[.agg #[.int .i64 d.1, .int .i64 d.2.1, .int .i64 d.2.2.1, .int .i64 d.2.2.2.1, .slice A d.2.2.2.2.length cap], .agg #[.int .i64 d'.1, .int .i64 d'.2.1, .int .i64 d'.2.2.1, .int .i64 d'.2.2.2.1, .slice A' d'.2.2.2.2.length cap']] w
      fun e w' => e = .returned (.bool v) ∧ Below w.heap.size w w' := hv ▸ sameP_any A A' cap cap' d d' B w hB h h' hlen hm
end Go.Proofs.YtaglmkjkmhpifaaGreatDoor
