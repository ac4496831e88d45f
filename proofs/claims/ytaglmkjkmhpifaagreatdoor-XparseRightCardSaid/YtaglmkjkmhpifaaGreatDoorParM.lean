/- Chapter 43: what is parsed may be; the law XparseRight. -/
import Derived.Test.YtaglmkjkmhpifaaGreatDoorParL
namespace Go.Proofs.YtaglmkjkmhpifaaGreatDoor
open Go.RowKit
set_option linter.unusedVariables false
set_option linter.unusedSimpArgs false

/-! how many runs a device's mappings have -/
theorem addR_lenM (l : List Rn) (x : Rn) : (addR l x).length ≤ l.length + 1 := by
  rcases List.eq_nil_or_concat l with rfl | ⟨l0, a, rfl⟩
  · simp [addR]
  · rw [List.concat_eq_append, addR_snoc]
    split <;> simp
theorem runs_add (ms : List Mp) (r : Rn) : ∀ k : Nat, (runsOf (ms ++ mapsR r (k + 1))).length ≤ (runsOf ms).length + 1 ∧ ∃ l0 a, runsOf (ms ++ mapsR r (k + 1)) = l0 ++ [a] ∧ a.1 + a.2.2.1 = r.1 + ((k + 1 : Nat) : Int) ∧ a.2.1 + a.2.2.1 = r.2.1 + ((k + 1 : Nat) : Int) ∧ a.2.2.2 = r.2.2.2
  | 0 => by
    have h1 : mapsR r 1 = [nextM (mOf r) 0] := by simp [mapsR, List.range_succ]
    have h2 : oneR (nextM (mOf r) 0) = (r.1, r.2.1, 1, r.2.2.2) := by simp [oneR, nextM, mOf]
    rw [h1, runsOf_snoc, h2]
    refine ⟨addR_lenM _ _, ?_⟩
    rcases List.eq_nil_or_concat (runsOf ms) with h3 | ⟨l0, a, h3⟩
    · rw [h3]
      exact ⟨[], (r.1, r.2.1, 1, r.2.2.2), rfl, by simp, by simp, rfl⟩
    · rw [h3, List.concat_eq_append, addR_snoc]
      split
      · rename_i hf
        simp only [fol, Bool.and_eq_true, beq_iff_eq] at hf
        exact ⟨l0, _, rfl, by dsimp only; omega, by dsimp only; omega, hf.2⟩
      · exact ⟨l0 ++ [a], (r.1, r.2.1, 1, r.2.2.2), by simp, by simp, by simp, rfl⟩
  | k + 1 => by
    obtain ⟨h1, l0, a, h2, h3, h4, h5⟩ := runs_add ms r k
    have h6 : oneR (nextM (mOf r) (k + 1)) = (r.1 + ((k + 1 : Nat) : Int), r.2.1 + ((k + 1 : Nat) : Int), 1, r.2.2.2) := by simp [oneR, nextM, mOf]
    rw [mapsR_succ, ← List.append_assoc, runsOf_snoc, h6, h2, addR_snoc]
    have hf : fol a (r.1 + ((k + 1 : Nat) : Int), r.2.1 + ((k + 1 : Nat) : Int), 1, r.2.2.2) = true := by
      simp only [fol, Bool.and_eq_true, beq_iff_eq]
      exact ⟨⟨h3, h4⟩, h5⟩
    rw [if_pos hf]
    rw [h2] at h1
    refine ⟨by simpa using h1, l0, _, rfl, by dsimp only; omega, by dsimp only; omega, h5⟩
theorem runs_le (ms : List Mp) (r : Rn) (n : Nat) : (runsOf (ms ++ mapsR r n)).length ≤ (runsOf ms).length + 1 := by
  cases n with
  | zero => simp [mapsR]
  | succ k => exact (runs_add ms r k).1
/-- How many devices and runs there are. -/
def wL (L : List Dv) : Nat := (L.map fun d => 1 + (runsOf d.2.2.2.2).length).sum
theorem wL_snoc (L : List Dv) (d : Dv) : wL (L ++ [d]) = wL L + (1 + (runsOf d.2.2.2.2).length) := by simp [wL]
theorem take_w {s s' : Ps} {t : Ti} (h : takeP s t = .ok s') : wL s'.devs ≤ wL s.devs + 1 := by
  have hclose : ∀ {s s' : Ps} {a : Int}, closeP s a = .ok s' → wL s'.devs = wL s.devs := fun hc => by rw [closeP_ok hc]
  have hrun : ∀ {s s' : Ps} {a : Int} {r : Rn}, runP s a r = .ok s' → wL s'.devs ≤ wL s.devs + 1 := by
    intro s s' a r hr
    unfold runP at hr
    split at hr
    · cases hr
    · split at hr
      · cases hr
      · injection hr with hr
        subst hr
        dsimp only
        rcases List.eq_nil_or_concat s.devs with h1 | ⟨li, ll, h1⟩
        · rw [h1]; simp [addMs]
        · rw [h1, List.concat_eq_append, addMs_snoc, wL_snoc, wL_snoc]
          dsimp only
          have := runs_le ll.2.2.2.2 r r.2.2.1.toNat
          omega
  unfold takeP at h
  split at h
  · cases h
  · split at h
    · split at h
      · rw [hclose h]; omega
      · injection h with h; subst h; dsimp only; omega
    · split at h
      · cases h
      · rename_i out ho
        unfold doesP at h
        split at h
        · injection h with h; subst h; simp [superP, wL]
        · split at h
          · unfold deviceP at h
            have hop : wL (openP s out).devs = wL s.devs + 1 := by
              simp only [openP, wL_snoc, newDev]
              rfl
            split at h
            · cases h
            · split at h
              · cases h
              · split at h
                · rw [hclose h, hop]; omega
                · injection h with h; subst h; omega
          · split at h
            · exact hrun h
            · exact hrun h
theorem fold_w : ∀ {L : List Ti} {s s' : Ps}, foldP s L = .ok s' → wL s'.devs ≤ wL s.devs + L.length
  | [], s, s', h => by injection h with h; subst h; simp
  | t :: L, s, s', h => by
    rw [foldP_cons] at h
    cases ht : takeP s t with
    | error e => rw [ht] at h; cases h
    | ok s1 =>
      rw [ht] at h
      have h1 := take_w ht
      have h2 := fold_w h
      simp only [List.length_cons]
      omega
theorem fold_good : ∀ {L : List Ti} {s s' : Ps}, (∀ t ∈ L, t.2.1 ≠ ⟨#[]⟩) → Good s → foldP s L = .ok s' → Good s'
  | [], s, s', _, hg, h => by injection h with h; subst h; exact hg
  | t :: L, s, s', hn, hg, h => by
    rw [foldP_cons] at h
    cases ht : takeP s t with
    | error e => rw [ht] at h; cases h
    | ok s1 =>
      rw [ht] at h
      exact fold_good (fun x hx => hn x (by simp [hx])) (.inr (take_good hg (hn t (by simp)) ht)) h
theorem fold_err : ∀ {L : List Ti} {s : Ps} {p c : Int}, foldP s L = .error (p, c) → 0 < c ∧ ∃ t ∈ L, p = t.2.2.2 ∨ ∃ a ∈ t.2.2.1, p = a.2.2
  | [], s, p, c, h => by cases h
  | t :: L, s, p, c, h => by
    rw [foldP_cons] at h
    cases ht : takeP s t with
    | error e =>
      rw [ht] at h
      injection h with h
      subst h
      obtain ⟨h1, h2⟩ := take_err ht
      exact ⟨h1, t, by simp, h2⟩
    | ok s1 =>
      rw [ht] at h
      obtain ⟨h1, x, hx, h2⟩ := fold_err h
      exact ⟨h1, x, by simp [hx], h2⟩
theorem parse_err {s : ByteArray} {p c : Int} (h : parseP s = .error (p, c)) : 0 < c ∧ 0 ≤ p ∧ p ≤ (s.size : Int) := by
  unfold parseP at h
  split at h
  · rename_i e he
    injection h with h
    injection h with h1 h2
    obtain ⟨q1, q2⟩ := tagsF_err he
    omega
  · rename_i L hL
    have hf := (tagsP_fine hL).1
    split at h
    · rename_i e he
      injection h with h
      subst h
      obtain ⟨q1, t, ht, q2⟩ := fold_err he
      obtain ⟨y, hy, rfl⟩ := List.mem_map.1 ht
      obtain ⟨_, _, f3, ⟨f4, f5⟩, _⟩ := tOf_fine (hf y hy)
      rcases q2 with q2 | ⟨a, ha, q2⟩
      · exact ⟨q1, by omega, by omega⟩
      · have := f3 a ha
        exact ⟨q1, by omega, by omega⟩
    · split at h
      · cases h
      · injection h with h
        injection h with h1 h2
        omega
theorem parse_ok {s : ByteArray} {p : Pl} (h : parseP s = .ok p) : chkE p = 0 ∧ 2 * wL p.2.2.2.2 ≤ s.size := by
  unfold parseP at h
  split at h
  · cases h
  · rename_i L hL
    obtain ⟨hf, hl⟩ := tagsP_fine hL
    split at h
    · cases h
    · rename_i st hst
      split at h
      · rename_i he
        injection h with h
        subst h
        have hw := fold_w hst
        have hg := fold_good (fun t ht => by
          obtain ⟨y, hy, rfl⟩ := List.mem_map.1 ht
          exact (tOf_fine (hf y hy)).1) (.inl rfl) hst
        rw [List.length_map] at hw
        have h0 : wL initP.devs = 0 := rfl
        refine ⟨?_, by show 2 * wL st.devs ≤ _; omega⟩
        rcases hg with rfl | hg
        · cases he
        · exact hg.pool
      · cases h
theorem xmlTs_w (p : Pl) : (xmlTs p).length ≤ 2 + 2 * wL p.2.2.2.2 := by
  have : ∀ L : List Dv, (L.flatMap devTs).length ≤ 2 * wL L := by
    intro L
    induction L with
    | nil => simp
    | cons d L ih =>
      simp only [List.flatMap_cons, List.length_append, devTs, List.length_cons, List.length_map, List.length_nil, wL, List.map_cons, List.sum_cons] at ih ⊢
      omega
  have h1 := this p.2.2.2.2
  simp only [xmlTs, List.length_cons, List.length_append, List.length_nil]
  omega
theorem xmlL_w {p : Pl} (h : chkE p = 0) : (xmlL p).length ≤ 404 * (2 + 2 * wL p.2.2.2.2) := by
  obtain ⟨k1, k2, k3, k4, k5, k6, -, k8⟩ := chk_ok h
  have h1 := itxts_len (L := xmlTs p) (fun t ht => xmlTs_wgt ⟨k1, k2, k3, k4⟩ k8 ht)
  have h2 := xmlTs_w p
  unfold xmlL
  omega

def cut5 (s : ByteArray) : ByteArray := if 5000 < s.size then s.extract 0 5000 else s
theorem cut5_le (s : ByteArray) : (cut5 s).size ≤ 5000 := by
  unfold cut5
  split
  · simp; omega
  · omega
set_option maxRecDepth 100000 in
set_option maxHeartbeats 8000000 in
theorem xparseRight_any (s : ByteArray) (w : World) (ht : Tab w) (hmx : MaxL w) (hs : s.size ≤ maxLen) : Calls Tryz.prog 4 #[.string s] w fun e w' => e = .returned (.bool true) ∧ Below w.heap.size w w' := by
  clear hs
  have hp := ht.pos
  have hmp := hmx.pos
  have HT := hide ht
  have HX := hide hmx
  clear ht hmx
  go_enter Tryz.func4, Tryz.ntmps4
  go_upto_if 13 with (fail)
  go_cut [0] (fun v wx => v = .string (cut5 s) ∧ Below w.heap.size w wx)
  case first =>
    by_cases hlt : 5000 < s.size
    · have t0 : decide ((5000 : Int) < (s.size : Int)) = true := by simp; omega
      have t1 : decide (5000 < s.size) = true := by simp; omega
      have i0 : (5000 : Int) ≤ (s.size : Int) := by omega
      have hc : cut5 s = s.extract 0 5000 := by simp [cut5, hlt]
      have HC := hide hc
      clear hc
      go_wp2_with fail
      go_meet
      exact ⟨by rw [HC.out], Below.refl _ _⟩
    · have t0 : decide ((5000 : Int) < (s.size : Int)) = false := by simp; omega
      have t1 : decide (5000 < s.size) = false := by simp; omega
      have hc : cut5 s = s := by simp [cut5, hlt]
      have HC := hide hc
      clear hc
      go_wp2_with fail
      go_meet
      exact ⟨by rw [HC.out], Below.refl _ _⟩
  case rest =>
    obtain ⟨rfl, hb⟩ := hcut
    have hl := cut5_le s
    generalize cut5 s = s' at *
    have hsz := hb.size
    have hpar := Parse_any s' (by omega) wc (HX.out.below hb hmp)
    obtain ⟨R, hR⟩ : ∃ R, parseP s' = R := ⟨_, rfl⟩
    rw [hR] at hpar
    have HP := hide hpar
    have HRR := hide hR
    clear hR hpar
    go_wp2_with (fail)
    refine HP.out.mono ?_
    cases R with
    | error pc =>
      obtain ⟨p, c⟩ := pc
      rintro e w1 ⟨rfl, hb1⟩
      obtain ⟨e1, e2, e3⟩ := parse_err HRR.out
      have hW1 := hb.trans (hb1.mono hsz)
      have hT := Blk.new w1 24 pool0
      have hW2 := hW1.alloc hW1.size (.cells pool0 24)
      have hs2 := hW2.size
      have c0 := hT.cell 0
      have c1 := hT.cell 1
      have c2 := hT.cell 2
      have c3 := hT.cell 3
      have c4 := hT.cell 4
      have hTl := hT.lt
      simp at c0 c1 c2 c3 c4
      have t0 : decide (p < 0) = false := by simp; omega
      have t1 : decide ((s'.size : Int) < p) = false := by simp; omega
      have t2 : (c != 0) = true := by simp; omega
      clear hb1 HP e1 e2 e3
      go_wp2_with (fail)
      generalize (w1.alloc (.cells pool0 24)) = w2 at *
      refine (sameP_is none none 0 0 (0, 0, 0, 0, []) (0, 0, 0, 0, []) w2.heap.size w2 (Nat.le_refl _) (RdD.nil _ _ _) (RdD.nil _ _ _) (by simp) (by simp) true (by simp)).mono ?_
      rintro e w3 ⟨rfl, hb3⟩
      have hW3 := hW2.trans (hb3.mono hs2)
      clear c0 c1 c2 c3 c4 hb3
      go_wp2_with (fail)
      refine (lives43_any w3 (HX.out.below hW3 hmp)).mono ?_
      rintro e w4 ⟨rfl, hb4⟩
      have hW4 := hW3.trans (hb4.mono hW3.size)
      go_wp2
      go_ret
      exact ⟨rfl, hW4⟩
    | ok p =>
      obtain ⟨p1, p2, p3, p4, L⟩ := p
      rintro e w1 ⟨A, cap, rfl, hR1, hb1⟩
      dsimp only at hR1
      obtain ⟨hz, hw⟩ := parse_ok HRR.out
      have hk := chk_ok hz
      have hxl := xmlL_w hz
      dsimp only at hw hk hxl
      have hW1 := hb.trans (hb1.mono hsz)
      have hs1 := hW1.size
      have hT := Blk.new w1 24 #[.int .i64 p1, .int .i64 p2, .int .i64 p3, .int .i64 p4, .slice A L.length cap]
      have hW2 := hW1.alloc hs1 (.cells #[.int .i64 p1, .int .i64 p2, .int .i64 p3, .int .i64 p4, .slice A L.length cap] 24)
      have HR2 := hide (hR1.below (show Below w1.heap.size w1 (w1.alloc (.cells #[.int .i64 p1, .int .i64 p2, .int .i64 p3, .int .i64 p4, .slice A L.length cap] 24)) from (by repeat (first | exact Below.refl _ _ | refine Below.alloc ?_ (by first | (simp; omega) | simp | omega) _ | refine drewN_below ?_ _ | refine Below.drew ?_))))
      have hs2 := hW2.size
      have hz2 : w1.heap.size ≤ (w1.alloc (.cells #[.int .i64 p1, .int .i64 p2, .int .i64 p3, .int .i64 p4, .slice A L.length cap] 24)).heap.size := by simp
      have hTl := hT.lt
      have c0 := hT.cell 0
      have c1 := hT.cell 1
      have c2 := hT.cell 2
      have c3 := hT.cell 3
      have c4 := hT.cell 4
      simp at c0 c1 c2 c3 c4
      have t1 : decide ((s'.size : Int) < 0) = false := by rw [decide_eq_false_iff_not]; omega
      have hLl : L.length ≤ 4096 := hk.2.2.2.2.1
      have hLc : cntL L ≤ 16384 := hk.2.2.2.2.2.1
      have HMM := hide (show ∀ x ∈ L, x.2.2.2.2.length ≤ 1000000 from fun x hx => by
        obtain ⟨k, hkx⟩ := List.getElem?_of_mem hx
        have := len_cntL hkx
        omega)
      have HXL := hide (show (⟨(xmlL (p1, p2, p3, p4, L)).toArray⟩ : ByteArray).size ≤ 4000000 by
        show ((xmlL (p1, p2, p3, p4, L)).toArray).size ≤ 4000000
        simp only [List.size_toArray]
        omega)
      have HZ := hide hz
      clear hb1 HP hR1 hk hxl hw hz
      go_wp2_with (fail)
      generalize (w1.alloc (.cells #[.int .i64 p1, .int .i64 p2, .int .i64 p3, .int .i64 p4, .slice A L.length cap] 24)) = w2 at *
      clear c0 c1 c2 c3 c4
      refine (xemit_any A cap (p1, p2, p3, p4, L) w2 (HT.out.below hW2 hp) (HR2.out.mono hz2) (by dsimp only; omega) (by dsimp only; omega)).mono ?_
      rintro e w3 ⟨rfl, hb3⟩
      rw [show xmlOf (p1, p2, p3, p4, L) = (⟨(xmlL (p1, p2, p3, p4, L)).toArray⟩, 0) from if_pos HZ.out]
      dsimp only
      have hpx := Parse_any ⟨(xmlL (p1, p2, p3, p4, L)).toArray⟩ HXL.out
      rw [parse_xml HZ.out] at hpx
      have HPX := hide hpx
      clear hpx HXL
      generalize (⟨(xmlL (p1, p2, p3, p4, L)).toArray⟩ : ByteArray) = tx at *
      have hT3 := hT.below hb3 hTl
      have hTl3 := hT3.lt
      have hW3 := hW2.trans (hb3.mono hs2)
      have hs3 := hW3.size
      have HR3 := hide ((HR2.out.mono hz2).below hb3)
      have hz3 := hb3.size
      clear hb3 HR2 hT
      go_wp2_with (fail)
      refine (HPX.out w3 (HX.out.below hW3 hmp)).mono ?_
      rintro e w4 ⟨A4, cap4, rfl, hR4, hb4⟩
      dsimp only at hR4
      have hT4 := hT3.below hb4 hTl3
      have hW4 := hW3.trans (hb4.mono hs3)
      have hs4 := hW4.size
      have HR4 := hide (hR4.below (show Below w4.heap.size w4 (w4.alloc (.cells #[.int .i64 p1, .int .i64 p2, .int .i64 p3, .int .i64 p4, .slice A4 L.length cap4] 24)) from (by repeat (first | exact Below.refl _ _ | refine Below.alloc ?_ (by first | (simp; omega) | simp | omega) _ | refine drewN_below ?_ _ | refine Below.drew ?_))))
      have hU5 : Blk (w4.alloc (.cells #[.int .i64 p1, .int .i64 p2, .int .i64 p3, .int .i64 p4, .slice A4 L.length cap4] 24)) w4.heap.size 24 #[.int .i64 p1, .int .i64 p2, .int .i64 p3, .int .i64 p4, .slice A4 L.length cap4] := heap_new_at rfl
      have hT5 := hT4.alloc (.cells #[.int .i64 p1, .int .i64 p2, .int .i64 p3, .int .i64 p4, .slice A4 L.length cap4] 24)
      have HR5 := hide (((HR3.out.mono hz3).below hb4).below (show Below w3.heap.size w4 (w4.alloc (.cells #[.int .i64 p1, .int .i64 p2, .int .i64 p3, .int .i64 p4, .slice A4 L.length cap4] 24)) from Below.alloc (Below.refl _ _) hb4.size _))
      have hW5 := hW4.alloc hs4 (.cells #[.int .i64 p1, .int .i64 p2, .int .i64 p3, .int .i64 p4, .slice A4 L.length cap4] 24)
      have hs5 := hW5.size
      have hz5 : w4.heap.size ≤ (w4.alloc (.cells #[.int .i64 p1, .int .i64 p2, .int .i64 p3, .int .i64 p4, .slice A4 L.length cap4] 24)).heap.size := by simp
      have hz6 : w3.heap.size ≤ (w4.alloc (.cells #[.int .i64 p1, .int .i64 p2, .int .i64 p3, .int .i64 p4, .slice A4 L.length cap4] 24)).heap.size := by have := hb4.size; simp; omega
      clear hb4 hR4 HPX hT3 hT4 HR3
      have c0 := hT5.cell 0
      have c1 := hT5.cell 1
      have c2 := hT5.cell 2
      have c3 := hT5.cell 3
      have c4 := hT5.cell 4
      have hTl5 := hT5.lt
      have hUl5 := hU5.lt
      simp at c0 c1 c2 c3 c4
      go_wp2_with (fail)
      generalize (w4.alloc (.cells #[.int .i64 p1, .int .i64 p2, .int .i64 p3, .int .i64 p4, .slice A4 L.length cap4] 24)) = w5 at *
      refine (check_any A cap (p1, p2, p3, p4, L) w3.heap.size w5 hz6 HR5.out (by dsimp only; omega) (by dsimp only; omega)).mono ?_
      rintro e w6 ⟨rfl, hb6⟩
      have hT6 := hT5.below hb6 hTl5
      have hU6 := hU5.below hb6 hUl5
      have HR6 := hide ((HR5.out.mono hz6).below hb6)
      have HR4' := hide ((HR4.out.mono hz5).below hb6)
      have hW6 := hW5.trans (hb6.mono hs5)
      have hs6 := hW6.size
      have hs56 := hb6.size
      clear c0 c1 c2 c3 c4 hb6 HR4 HR5 hT5 hU5
      rw [show chkE (p1, p2, p3, p4, L) = 0 from HZ.out]
      have c0 := hT6.cell 0
      have c1 := hT6.cell 1
      have c2 := hT6.cell 2
      have c3 := hT6.cell 3
      have c4 := hT6.cell 4
      have d0 := hU6.cell 0
      have d1 := hU6.cell 1
      have d2 := hU6.cell 2
      have d3 := hU6.cell 3
      have d4 := hU6.cell 4
      have hTl6 := hT6.lt
      have hUl6 := hU6.lt
      simp at c0 c1 c2 c3 c4 d0 d1 d2 d3 d4
      go_wp2_with (fail)
      refine (sameP_is A A4 cap cap4 (p1, p2, p3, p4, L) (p1, p2, p3, p4, L) w5.heap.size w6 hs56 HR6.out HR4'.out (by dsimp only; omega) HMM.out true (by simp)).mono ?_
      rintro e w7 ⟨rfl, hb7⟩
      have hW7 := hW6.trans (hb7.mono hs6)
      clear c0 c1 c2 c3 c4 d0 d1 d2 d3 d4 hb7 HR4' HR6
      go_wp2_with (fail)
      refine (lives43_any w7 (HX.out.below hW7 hmp)).mono ?_
      rintro e w8 ⟨rfl, hb8⟩
      have hW8 := hW7.trans (hb8.mono hW7.size)
      go_wp2
      go_ret
      exact ⟨rfl, hW8⟩
end Go.Proofs.YtaglmkjkmhpifaaGreatDoor
