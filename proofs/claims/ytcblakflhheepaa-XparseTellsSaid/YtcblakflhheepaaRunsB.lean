/- Chapter 19: the walk of the closure by which runs are added. -/
import Derived.Test.YtcblakflhheepaaRunsA
namespace Go.Proofs.Ytcblakflhheepaa
open Go.RowKit
attribute [local go_sem ↓] Go.wp_at_zero Go.wp_at_succ

theorem info41 : (Try.prog.info? 41).map (fun i => (i.zero, i.size, i.bytes)) = some (some (.agg #[.int .i64 0, .int .i64 0, .int .i64 0, .int .i64 0]), 4, 32) := by kernel_rfl

/-- What adding a run makes of the runs so far: the last one grows, or a new one comes. -/
def addR : List Rn → Rn → List Rn
  | [], x => [x]
  | [a], x => if fol a x then [(a.1, a.2.1, a.2.2.1 + x.2.2.1, a.2.2.2)] else [a, x]
  | a :: b :: l, x => a :: addR (b :: l) x

theorem addR_snoc (l : List Rn) (a x : Rn) : addR (l ++ [a]) x = l ++ (if fol a x then [(a.1, a.2.1, a.2.2.1 + x.2.2.1, a.2.2.2)] else [a, x]) := by
  induction l with
  | nil => simp [addR]
  | cons b l ih =>
    cases l with
    | nil => simp [addR]
    | cons c l => simpa [addR] using ih

theorem rc_len (x : Rn) : (rc x).length = 4 := rfl
theorem rc_one (x : Rn) : ∀ u ∈ rc x, u.oneCell' = true := by
  intro u hu
  simp [rc] at hu
  rcases hu with rfl | rfl | rfl | rfl <;> rfl

set_option maxRecDepth 100000 in
set_option maxHeartbeats 1000000 in
theorem add_grow (w : World) (bo base g cap : Nat) (l : List Rn) (a x : Rn) (hbo : Blk w bo 26 #[.slice (some ⟨g, 0, none⟩) (l.length + 1) cap])
    (hown : Own w base 41 4 rc (.slice (some ⟨g, 0, none⟩) (l.length + 1) cap) (l ++ [a])) (hf : fol a x = true) (ha : Mild a) (hx : Mild x) (hl : l.length ≤ 100000) :
    Calls Try.prog 56 #[rv x, .pointer (some ⟨bo, 0, none⟩)] w fun e w' => e = .returned (.tuple #[]) ∧
      Blk w' bo 26 #[.slice (some ⟨g, 0, none⟩) (l.length + 1) cap] ∧ Own w' base 41 4 rc (.slice (some ⟨g, 0, none⟩) (l.length + 1) cap) (addR (l ++ [a]) x) ∧ Below base w w' := by
  obtain ⟨x1, x2, x3, x4⟩ := x
  obtain ⟨a1, a2, a3, a4⟩ := a
  unfold Mild at ha hx
  obtain ⟨ha1, ha2, ha3, ha4, ha5, ha6⟩ := ha
  obtain ⟨hx1, hx2, hx3, hx4, hx5, hx6⟩ := hx
  dsimp only at ha1 ha2 ha3 ha4 ha5 ha6 hx1 hx2 hx3 hx4 hx5 hx6
  unfold rv
  have hlast : (l ++ [(a1, a2, a3, a4)])[l.length]? = some (a1, a2, a3, a4) := by simp
  have c0 : w.cell? ⟨g, l.length * 4, none⟩ = some (.int .i64 a1) := hown.cell rc_len (j := 0) hlast rfl
  have c1 : w.cell? ⟨g, l.length * 4 + 1, none⟩ = some (.int .i64 a2) := hown.cell rc_len (j := 1) hlast rfl
  have c2 : w.cell? ⟨g, l.length * 4 + 2, none⟩ = some (.int .i64 a3) := hown.cell rc_len (j := 2) hlast rfl
  have c3 : w.cell? ⟨g, l.length * 4 + 3, none⟩ = some (.int .i64 a4) := hown.cell rc_len (j := 3) hlast rfl
  have co := hbo.cell 0
  simp at co
  obtain ⟨hbg, hgs⟩ := hown.lt g rfl
  have hbs : bo < w.heap.size := hbo.lt
  have hne : g ≠ bo := fun e => own_blk_ne hown hbo (by decide) (by rw [e]; rfl)
  have hfz : w.frozen? ⟨g, l.length * 4 + 2, none⟩ = false := hown.frozen _
  have HL := hide hlast
  have HO := hide hown
  have HB := hide hbo
  have HF := hide hf
  clear hown hbo hf hlast
  have hgs' : g < w.heap.size + 1 := by omega
  have hbs' : bo < w.heap.size + 1 := by omega
  have hi0 : (0 : Int) ≤ (l.length : Int) := by omega
  have hi1 : (l.length : Int) < (l.length : Int) + 1 := by omega
  have hw : IntKind.i64.wrap (a3 + x3) = a3 + x3 := IntWalk.i64_in _ (by omega)
  go_enter Try.func56, Try.ntmps56
  go_wp2
  go_region_held3 (fun w' => Below (w.heap.size + 1) (w.alloc (.cells #[.int .i64 x1, .int .i64 x2, .int .i64 x3, .int .i64 x4] 41)) w' ∧ (∀ b o, b < w.heap.size + 1 → w'.cell? ⟨b, o, none⟩ = (w.alloc (.cells #[.int .i64 x1, .int .i64 x2, .int .i64 x3, .int .i64 x4] 41)).cell? ⟨b, o, none⟩) ∧ (∀ b o, b < w.heap.size + 1 → w'.frozen? ⟨b, o, none⟩ = (w.alloc (.cells #[.int .i64 x1, .int .i64 x2, .int .i64 x3, .int .i64 x4] 41)).frozen? ⟨b, o, none⟩))
    (first | exact held_refl _ _ | exact held_drew | exact held_trans (by assumption) hb1 (by simp))
    (first | (go_at_call 57; refine (follows_any _ _ _ _ _ _ _ _ _ ha1 ha2 ha3 ha4 ha5 ha6).mono ?_; rintro e w1 ⟨he, hb1⟩; rw [HF.out] at he; subst he))
  go_wp2
  go_still_tail 10, (by kernel_rfl)
  change wpList _ _ _ _ _ w1.drew
  go_wp2
  refine bodyPost_ret (results_none rfl _ _ _) rfl ?_
  obtain ⟨hW, -, -⟩ : Below (w.heap.size + 1) (w.alloc _) w1 ∧ _ ∧ _ := by assumption
  have hO1 := (HO.out.alloc _).below hW (fun k hk => by simp [Value.ownBlock] at hk; omega)
  have hB1 := (HB.out.alloc _).below hW hbs'
  refine ⟨rfl, (hB1.far (p := ⟨g, _, none⟩) (Ne.symm hne) _).drew, ?_, ((((Below.refl _ _).alloc (by omega) _).trans (hW.mono (by omega))).setCell (p := ⟨g, _, none⟩) hbg _).drew⟩
  have hs := hO1.set_ rc_len (j := 2) (a' := (a1, a2, a3 + x3, a4)) (u := .int .i64 (a3 + x3)) HL.out (by decide) rfl
  rw [addR_snoc, if_pos HF.out]
  have hs' := hs.drew
  simpa using hs'

set_option maxRecDepth 100000 in
set_option maxHeartbeats 1000000 in
theorem add_new (w : World) (bo base : Nat) (v : Value) (l : List Rn) (x : Rn) (hbo : Blk w bo 26 #[v]) (hown : Own w base 41 4 rc v l) (hbb : base ≤ bo)
    (hf : ∀ a, l.getLast? = some a → fol a x = false ∧ Mild a) (hl : l.length ≤ 100000) :
    Calls Try.prog 56 #[rv x, .pointer (some ⟨bo, 0, none⟩)] w fun e w' => e = .returned (.tuple #[]) ∧
      ∃ v', Blk w' bo 26 #[v'] ∧ Own w' base 41 4 rc v' (addR l x) ∧ Below base w w' := by
  obtain ⟨x1, x2, x3, x4⟩ := x
  unfold rv
  have hbs : bo < w.heap.size := hbo.lt
  have hbs' : bo < w.heap.size + 1 := by omega
  rcases List.eq_nil_or_concat l with rfl | ⟨l0, a, hl0⟩
  · obtain ⟨A, n, cap, rfl, hn, _⟩ := hown.rd rc_len
    simp at hn
    subst hn
    have co := hbo.cell 0
    simp at co
    have HO := hide hown
    have HB := hide hbo
    clear hown hbo
    go_enter Try.func56, Try.ntmps56
    go_wp2
    go_quiet (fail)
    go_wp2_with (at_builtin; go_must (refine wpList_append1 _ rfl (.tmp 27) (.tmp 29) _ rfl Try.underlying26 info41 rfl (by decide) rc_len rc_one (base := base) (l := []) rfl ?_ (x1, x2, x3, x4) (w.heap.size + 1) 1 rfl ?_ (by decide) (by decide) ?_ ?_))
    · exact (by repeat (first | exact HO.out | refine Own.alloc ?_ _ | refine Own.drewN ?_ _ | refine Own.drew ?_))
    · exact ⟨_, _, heap_new_at (by simp)⟩
    · simp; omega
    · intro g cap' w1 hO1 hg1 hat hlt
      obtain ⟨d1, d2, d3, d4, d5⟩ := own_store_back (k := 0) (w := w) (B := base) (t := 26) (cs := #[.slice A 0 cap]) (by repeat (first | exact Below.refl _ _ | refine Below.alloc ?_ (by first | (simp; omega) | simp | omega) _ | refine drewN_below ?_ _ | refine Below.drew ?_)) (by repeat (first | exact HB.out | refine Blk.alloc ?_ _ | refine Blk.drewN ?_ _ | refine Blk.drew ?_)) hO1 hg1 (own_blk_ne HO.out HB.out (by decide)) (fun k hk => (HO.out.lt k hk).1) (by decide) (by simp; omega) hbb
      simp at d1
      have D3 := hide d3
      have D4 := hide d4
      have D5 := hide d5
      clear d3 d4 d5 hO1 hg1 hat hlt
      go_wp2
      refine bodyPost_end (results_none rfl _ _ _) rfl ?_
      exact ⟨rfl, _, D3.out, D4.out, D5.out⟩
  · subst hl0
    simp only [List.concat_eq_append] at *
    obtain ⟨hff, hm⟩ := hf a (by simp)
    obtain ⟨A, n, cap, rfl, hn, _⟩ := hown.rd rc_len
    obtain rfl : n = l0.length + 1 := by simpa using hn
    obtain ⟨g, cap', hA, _, hgs⟩ := World.ownsRow.form hown (by simp)
    injection hA with hA1 hA2 hA3
    subst hA1
    clear hA2 hA3
    obtain ⟨a1, a2, a3, a4⟩ := a
    unfold Mild at hm
    obtain ⟨ha1, ha2, ha3, ha4, ha5, ha6⟩ := hm
    dsimp only at ha1 ha2 ha3 ha4 ha5 ha6
    have hlast : (l0 ++ [(a1, a2, a3, a4)])[l0.length]? = some (a1, a2, a3, a4) := by simp
    have c0 : w.cell? ⟨g, l0.length * 4, none⟩ = some (.int .i64 a1) := hown.cell rc_len (j := 0) hlast rfl
    have c1 : w.cell? ⟨g, l0.length * 4 + 1, none⟩ = some (.int .i64 a2) := hown.cell rc_len (j := 1) hlast rfl
    have c2 : w.cell? ⟨g, l0.length * 4 + 2, none⟩ = some (.int .i64 a3) := hown.cell rc_len (j := 2) hlast rfl
    have c3 : w.cell? ⟨g, l0.length * 4 + 3, none⟩ = some (.int .i64 a4) := hown.cell rc_len (j := 3) hlast rfl
    have co := hbo.cell 0
    simp at co
    have HL := hide hlast
    have HO := hide hown
    have HB := hide hbo
    have HF := hide hff
    have hl0 : l0.length + 1 ≤ 100000 := by simpa using hl
    clear hown hbo hff hlast hf hn hl
    have hgs' : g < w.heap.size + 1 := by omega
    have hi0 : (0 : Int) ≤ (l0.length : Int) := by omega
    have hi1 : (l0.length : Int) < (l0.length : Int) + 1 := by omega
    go_enter Try.func56, Try.ntmps56
    go_wp2
    go_region_held3 (fun w' => Below (w.heap.size + 1) (w.alloc (.cells #[.int .i64 x1, .int .i64 x2, .int .i64 x3, .int .i64 x4] 41)) w' ∧ (∀ b o, b < w.heap.size + 1 → w'.cell? ⟨b, o, none⟩ = (w.alloc (.cells #[.int .i64 x1, .int .i64 x2, .int .i64 x3, .int .i64 x4] 41)).cell? ⟨b, o, none⟩) ∧ (∀ b o, b < w.heap.size + 1 → w'.frozen? ⟨b, o, none⟩ = (w.alloc (.cells #[.int .i64 x1, .int .i64 x2, .int .i64 x3, .int .i64 x4] 41)).frozen? ⟨b, o, none⟩))
      (first | exact held_refl _ _ | exact held_drew | exact held_trans (by assumption) hb1 (by simp))
      (first | (go_at_call 57; refine (follows_any _ _ _ _ _ _ _ _ _ ha1 ha2 ha3 ha4 ha5 ha6).mono ?_; rintro e w1 ⟨he, hb1⟩; rw [HF.out] at he; subst he))
    obtain ⟨hW, -, -⟩ : Below (w.heap.size + 1) (w.alloc _) w1 ∧ _ ∧ _ := by assumption
    have hO1 := (HO.out.alloc _).below hW (fun k hk => by simp [Value.ownBlock] at hk; omega)
    have hB1 := (HB.out.alloc _).below hW hbs'
    have hW0 : Below base w w1 := ((Below.refl _ _).alloc (by omega) _).trans (hW.mono (by omega))
    have hs1 : w.heap.size + 1 ≤ w1.heap.size := by have := hW.size; simpa using this
    have HO := hide hO1
    have HB := hide hB1
    have HW := hide hW0
    clear hO1 hB1 hW0
    go_wp2_with (at_builtin; go_must (refine wpList_append1 _ rfl (.tmp 27) (.tmp 29) _ rfl Try.underlying26 info41 rfl (by decide) rc_len rc_one (base := base) (l := l0 ++ [(a1, a2, a3, a4)]) rfl ?_ (x1, x2, x3, x4) w1.heap.size 1 rfl ?_ ?_ ?_ ?_ ?_))
    · exact (by repeat (first | exact HO.out | refine Own.alloc ?_ _ | refine Own.drewN ?_ _ | refine Own.drew ?_))
    · exact ⟨_, _, heap_new_at (by simp)⟩
    · simp; omega
    · simp; omega
    · simp; omega
    · intro g2 cap2 w2 hO2 hg2 hat hlt
      obtain ⟨d1, d2, d3, d4, d5⟩ := own_store_back (k := 0) (w := w) (B := base) (t := 26) (cs := #[.slice (some ⟨g, 0, none⟩) (l0.length + 1) cap]) (by have hsz := (HW.out).size; repeat (first | exact HW.out | refine Below.alloc ?_ (by first | (simp; omega) | simp | omega) _ | refine drewN_below ?_ _ | refine Below.drew ?_)) (by repeat (first | exact HB.out | refine Blk.alloc ?_ _ | refine Blk.drewN ?_ _ | refine Blk.drew ?_)) hO2 hg2 (own_blk_ne HO.out HB.out (by decide)) (fun k hk => (HO.out.lt k hk).1) (by decide) (by simp; omega) hbb
      simp at d1
      have D3 := hide d3
      have D4 := hide d4
      have D5 := hide d5
      clear d3 d4 d5 hO2 hg2 hat hlt
      go_wp2
      refine bodyPost_end (results_none rfl _ _ _) rfl ?_
      refine ⟨rfl, _, D3.out, ?_, D5.out⟩
      have e : addR (l0 ++ [(a1, a2, a3, a4)]) (x1, x2, x3, x4) = l0 ++ [(a1, a2, a3, a4)] ++ [(x1, x2, x3, x4)] := by
        rw [addR_snoc, HF.out]; simp
      rw [e]
      simpa using D4.out
end Go.Proofs.Ytcblakflhheepaa
