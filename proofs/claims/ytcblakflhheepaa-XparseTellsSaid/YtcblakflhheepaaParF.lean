/- Chapter 43: the parser: run. -/
import Derived.Test.YtcblakflhheepaaParE
import Derived.Test.YtcblakflhheepaaRunsP
import Derived.Deep.RegionHeld3
namespace Go.Proofs.Ytcblakflhheepaa
open Go.RowKit
set_option linter.unusedVariables false
set_option linter.unusedSimpArgs false

/-- Mappings behind those of the last device. -/
def addMs (L : List Dv) (ms : List Mp) : List Dv :=
  match L.getLast? with
  | none => L
  | some d => L.dropLast ++ [(d.1, d.2.1, d.2.2.1, d.2.2.2.1, d.2.2.2.2 ++ ms)]
theorem addMs_snoc (li : List Dv) (d : Dv) (ms : List Mp) : addMs (li ++ [d]) ms = li ++ [(d.1, d.2.1, d.2.2.1, d.2.2.2.1, d.2.2.2.2 ++ ms)] := by simp [addMs]
def runP (s : Ps) (at_ : Int) (r : Rn) : Except (Int × Int) Ps :=
  if 281474976710655 < r.1 + r.2.2.1 - 1 ∨ s.data < r.2.1 + r.2.2.1 ∨ 16384 < s.sum + r.2.2.1 then .error (at_, 2)
  else if r.1 < s.next then .error (at_, 17)
  else .ok { s with devs := addMs s.devs (mapsR r r.2.2.1.toNat), next := r.1 + r.2.2.1, sum := s.sum + r.2.2.1 }

theorem cells3 {w : World} {b : Nat} {t : TypeId} {x y z u : Value} (h : Blk w b t #[x, y, z, u]) : w.cell? ⟨b, 0, none⟩ = some x ∧ w.cell? ⟨b, 1, none⟩ = some y ∧ w.cell? ⟨b, 3, none⟩ = some u := by
  have h0 := h.cell 0
  have h1 := h.cell 1
  have h3 := h.cell 3
  simp at h0 h1 h3
  exact ⟨h0, h1, h3⟩
set_option maxRecDepth 100000 in
set_option maxHeartbeats 8000000 in
theorem run_any (base X K : Nat) (s : Ps) (kd at_ : Int) (nm : ByteArray) (v : Value) (r : Rn) (w : World) (h : PS base X K s w) (hne : s.devs ≠ []) (hdl : s.devs.length ≤ 5000000) (hml : (lastMaps s.devs).length ≤ 5000000)
    (hr : (0 ≤ r.1 ∧ r.1 ≤ 281474976710655) ∧ (0 ≤ r.2.1 ∧ r.2.1 ≤ 65535) ∧ (0 ≤ r.2.2.1 ∧ r.2.2.1 ≤ 16384)) (hs : (0 ≤ s.data ∧ s.data ≤ 65536) ∧ (0 ≤ s.sum ∧ s.sum ≤ 16384)) :
    Calls Try.prog 87 #[.pointer (some ⟨X, 0, none⟩), .agg #[.int .i64 kd, .string nm, v, .int .i64 at_], .agg #[.int .i64 r.1, .int .i64 r.2.1, .int .i64 r.2.2.1, .int .i64 r.2.2.2]] w (StOut base X K w (runP s at_ r)) := by
  obtain ⟨hXb, hb, vv, hX, hD⟩ := h
  have hXl : X < w.heap.size := by omega
  obtain ⟨s1, s2, s3, s4, sd, s6, s7, s8, ins, en⟩ := s
  obtain ⟨r1, r2, r3, r4⟩ := r
  dsimp only at hX hD hne hdl hml hr hs ⊢
  obtain ⟨⟨a1, a2⟩, ⟨a3, a4⟩, a5, a6⟩ := hr
  obtain ⟨⟨b1, b2⟩, b3, b4⟩ := hs
  obtain ⟨N, rfl⟩ := Int.eq_ofNat_of_zero_le a5
  obtain ⟨li, ll, rfl⟩ : ∃ li ll, sd = li ++ [ll] := by
    rcases List.eq_nil_or_concat sd with rfl | ⟨li, ll, h⟩
    · exact absurd rfl hne
    · exact ⟨li, ll, by simpa using h⟩
  have hlm : lastMaps (li ++ [ll]) = ll.2.2.2.2 := by simp [lastMaps]
  rw [hlm] at hml
  obtain ⟨g, cap, β, A, n, c, rfl, hgb, hgl, hβ, hβl, c0, c4, fz, hom, hturn⟩ := hD.last
  simp at hdl
  have hX2 := ((hX.alloc (.cells #[.int .i64 kd, .string nm, v, .int .i64 at_] 60)).alloc (.cells #[.int .i64 r1, .int .i64 r2, .int .i64 (N : Int), .int .i64 r4] 41)).alloc (.cells #[.int .i64 0, .int .i64 0] 112)
  have hD2 := ((hD.alloc (.cells #[.int .i64 kd, .string nm, v, .int .i64 at_] 60)).alloc (.cells #[.int .i64 r1, .int .i64 r2, .int .i64 (N : Int), .int .i64 r4] 41)).alloc (.cells #[.int .i64 0, .int .i64 0] 112)
  have hT2 := ((Blk.new w 60 #[.int .i64 kd, .string nm, v, .int .i64 at_]).alloc (.cells #[.int .i64 r1, .int .i64 r2, .int .i64 (N : Int), .int .i64 r4] 41)).alloc (.cells #[.int .i64 0, .int .i64 0] 112)
  have hR2 : Blk (((w.alloc (.cells #[.int .i64 kd, .string nm, v, .int .i64 at_] 60)).alloc (.cells #[.int .i64 r1, .int .i64 r2, .int .i64 (N : Int), .int .i64 r4] 41)).alloc (.cells #[.int .i64 0, .int .i64 0] 112)) (w.heap.size + 1) 41 #[.int .i64 r1, .int .i64 r2, .int .i64 (N : Int), .int .i64 r4] := (show Blk _ (w.heap.size + 1) _ _ from heap_new_at (by simp)).alloc _
  have hF2 : Blk (((w.alloc (.cells #[.int .i64 kd, .string nm, v, .int .i64 at_] 60)).alloc (.cells #[.int .i64 r1, .int .i64 r2, .int .i64 (N : Int), .int .i64 r4] 41)).alloc (.cells #[.int .i64 0, .int .i64 0] 112)) (w.heap.size + 1 + 1) 112 #[.int .i64 0, .int .i64 0] := heap_new_at (by simp)
  have hB2 := (((Bt.refl base X w).alloc hb (.cells #[.int .i64 kd, .string nm, v, .int .i64 at_] 60)).alloc (by simp; omega) (.cells #[.int .i64 r1, .int .i64 r2, .int .i64 (N : Int), .int .i64 r4] 41)).alloc (by simp; omega) (.cells #[.int .i64 0, .int .i64 0] 112)
  go_enter Try.func87, Try.ntmps87
  go_wp2
  generalize hW3 : ((w.alloc (.cells #[.int .i64 kd, .string nm, v, .int .i64 at_] 60)).alloc (.cells #[.int .i64 r1, .int .i64 r2, .int .i64 (N : Int), .int .i64 r4] 41)).alloc (.cells #[.int .i64 0, .int .i64 0] 112) = w3 at *
  clear hW3
  have hFl := hF2.lt
  have hTl := hT2.lt
  have hRl := hR2.lt
  have hXl3 := hX2.lt
  have x3 := hX2.cell 3
  have x4 := hX2.cell 4
  have x7 := hX2.cell 7
  have x8 := hX2.cell 8
  have y0 := hR2.cell 0
  have y1 := hR2.cell 1
  have y2 := hR2.cell 2
  have y3 := hR2.cell 3
  have t3 := hT2.cell 3
  have g0 := hF2.cell 0
  have g1 := hF2.cell 1
  have g2 := hF2.frozen 0
  have g3 := hF2.frozen 1
  simp at x3 x4 x7 x8 y0 y1 y2 y3 t3 g0 g1
  have HX2 := hide hX2
  have HD2 := hide hD2
  have HT2 := hide hT2
  have HR2 := hide hR2
  have HF2 := hide hF2
  have HB2 := hide hB2
  have HTURN := hide hturn
  clear hX2 hD2 hT2 hR2 hF2 hB2 hturn hom hX hD c0 c4 fz
  have v1 : IntKind.i64.wrap (r1 + (N : Int)) = r1 + (N : Int) := IntWalk.i64_in _ (by omega)
  have v2 : IntKind.i64.wrap (r1 + (N : Int) - 1) = r1 + (N : Int) - 1 := IntWalk.i64_in _ (by omega)
  have v3 : IntKind.i64.wrap (r2 + (N : Int)) = r2 + (N : Int) := IntWalk.i64_in _ (by omega)
  have v4 : IntKind.i64.wrap (s8 + (N : Int)) = s8 + (N : Int) := IntWalk.i64_in _ (by omega)
  by_cases hbad : 281474976710655 < r1 + (N : Int) - 1 ∨ s4 < r2 + (N : Int) ∨ 16384 < s8 + (N : Int)
  · have hr := hide (show runP ⟨s1, s2, s3, s4, li ++ [ll], s6, s7, s8, ins, en⟩ at_ (r1, r2, (N : Int), r4) = .error (at_, 2) from if_pos hbad)
    have hfin := hide (fun nq => fin_err (HB2.out.drewN nq) (HF2.out.drewN nq) (by omega) (.int .i64 at_) (.int .i64 2))
    have hcb : 281474976710655 < r1 + (N : Int) - 1 ∨ (r1 + (N : Int) - 1 ≤ 281474976710655 ∧ s4 < r2 + (N : Int)) ∨ (r1 + (N : Int) - 1 ≤ 281474976710655 ∧ r2 + (N : Int) ≤ s4 ∧ 16384 < s8 + (N : Int)) := by omega
    clear hbad
    obtain ⟨u1, hu1⟩ : ∃ b, decide (281474976710655 < r1 + (N : Int) - 1) = b := ⟨_, rfl⟩
    obtain ⟨u2, hu2⟩ : ∃ b, decide (s4 < r2 + (N : Int)) = b := ⟨_, rfl⟩
    obtain ⟨u3, hu3⟩ : ∃ b, decide (16384 < s8 + (N : Int)) = b := ⟨_, rfl⟩
    have hub : u1 = true ∨ (u1 = false ∧ u2 = true) ∨ (u1 = false ∧ u2 = false ∧ u3 = true) := by
      rw [← hu1, ← hu2, ← hu3]
      simp only [decide_eq_true_eq, decide_eq_false_iff_not]
      omega
    clear hcb
    rcases hub with rfl | ⟨rfl, rfl⟩ | ⟨rfl, rfl, rfl⟩
    all_goals
      go_quiet (fail)
      go_wp2
      have q0 := fun nq => (hfin.out nq).1
      have q1 := fun nq => (hfin.out nq).2.1
      refine bodyPost_ret (v := .agg #[.int .i64 at_, .int .i64 2]) (by simp [results, Try.results87, go_sem, q0, q1]) rfl ?_
      rw [hr.out]
      exact ⟨rfl, (hfin.out _).2.2⟩
  · have hr0 : runP ⟨s1, s2, s3, s4, li ++ [ll], s6, s7, s8, ins, en⟩ at_ (r1, r2, (N : Int), r4) = if r1 < s7 then .error (at_, 17) else .ok ⟨s1, s2, s3, s4, addMs (li ++ [ll]) (mapsR (r1, r2, (N : Int), r4) (N : Int).toNat), s6, r1 + (N : Int), s8 + (N : Int), ins, en⟩ := if_neg hbad
    have hu1 : decide (281474976710655 < r1 + (N : Int) - 1) = false := by simp; omega
    have hu2 : decide (s4 < r2 + (N : Int)) = false := by simp; omega
    have hu3 : decide (16384 < s8 + (N : Int)) = false := by simp; omega
    clear hbad
    by_cases hlt : r1 < s7
    · have hr := hide (show runP ⟨s1, s2, s3, s4, li ++ [ll], s6, s7, s8, ins, en⟩ at_ (r1, r2, (N : Int), r4) = .error (at_, 17) from hr0.trans (if_pos hlt))
      have hfin := hide (fun nq => fin_err (HB2.out.drewN nq) (HF2.out.drewN nq) (by omega) (.int .i64 at_) (.int .i64 17))
      have hu4 : decide (r1 < s7) = true := by simpa using hlt
      clear hr0 hlt
      go_quiet (fail)
      go_wp2
      go_quiet (fail)
      go_wp2
      have q0 := fun nq => (hfin.out nq).1
      have q1 := fun nq => (hfin.out nq).2.1
      refine bodyPost_ret (v := .agg #[.int .i64 at_, .int .i64 17]) (by simp [results, Try.results87, go_sem, q0, q1]) rfl ?_
      rw [hr.out]
      exact ⟨rfl, (hfin.out _).2.2⟩
    · have hr := hide (show runP ⟨s1, s2, s3, s4, li ++ [ll], s6, s7, s8, ins, en⟩ at_ (r1, r2, (N : Int), r4) = .ok _ from hr0.trans (if_neg hlt))
      have hu4 : decide (r1 < s7) = false := by simpa using hlt
      clear hr0 hlt
      have i0 : (0 : Int) ≤ (li.length : Int) := by omega
      have i1 : (li.length : Int) < (li.length : Int) + 1 := by omega
      go_quiet (fail)
      go_wp2
      go_quiet (fail)
      go_wp2
      go_quiet (fail)
      go_wp2
      have HA2 := hide (show (w3.heap.size : Nat) = w3.heap.size from rfl)
      generalize hW4 : w3.drewN _ = w4
      have HX4 := hide (show Blk w4 X _ _ from hW4 ▸ HX2.out.drewN _)
      have HD4 := hide (show DV w4 base _ _ from hW4 ▸ HD2.out.drewN _)
      have HT4 := hide (show Blk w4 w.heap.size _ _ from hW4 ▸ HT2.out.drewN _)
      have HR4 := hide (show Blk w4 (w.heap.size + 1) _ _ from hW4 ▸ HR2.out.drewN _)
      have HF4 := hide (show Blk w4 (w.heap.size + 1 + 1) _ _ from hW4 ▸ HF2.out.drewN _)
      have HB4 := hide (show Bt base X w w4 from hW4 ▸ HB2.out.drewN _)
      clear hW4 x3 x4 x7 x8 y0 y1 y2 y3 t3 g0 g1 g2 g3 hu1 hu2 hu3 hu4 v2 v4 HTURN i0 i1
      go_loopw [69] (fun i w2 => ∃ (j : Nat), j ≤ N ∧ i = .int .i64 j ∧ Blk w2 X 110 (prs ⟨s1, s2, s3, s4, li ++ [ll], s6, s7, s8, ins, en⟩ (.slice (some ⟨g, 0, none⟩) (li.length + 1) cap) K) ∧ DV w2 base (.slice (some ⟨g, 0, none⟩) (li.length + 1) cap) (li ++ [(ll.1, ll.2.1, ll.2.2.1, ll.2.2.2.1, ll.2.2.2.2 ++ mapsR (r1, r2, (N : Int), r4) j)]) ∧
        Blk w2 (w.heap.size + 1) 41 #[.int .i64 r1, .int .i64 r2, .int .i64 N, .int .i64 r4] ∧ Blk w2 (w.heap.size + 1 + 1) 112 #[.int .i64 0, .int .i64 0] ∧ Bt base X w w2) (fun i _ => N - (intOf i).toNat)
      case atStart => exact ⟨0, by omega, rfl, HX4.out, by simpa [mapsR] using HD4.out, HR4.out, HF4.out, HB4.out⟩
      case round =>
        obtain ⟨j, hj, rfl, hX5, hD5, hR5, hF5, hb5⟩ := hrel
        have hw5 := hb5.size
        have hX5l := hX5.lt
        have hR5l := hR5.lt
        have hF5l := hF5.lt
        have y0 := hR5.cell 0
        have y1 := hR5.cell 1
        have y2 := hR5.cell 2
        have y3 := hR5.cell 3
        simp at y0 y1 y2 y3
        have HX5 := hide hX5
        have HR5 := hide hR5
        have HF5 := hide hF5
        have HB5 := hide hb5
        have HD5 := hide hD5
        clear hX5 hR5 hF5 hb5 hD5
        by_cases hjn : j < N
        · have hlt : decide ((j : Int) < (N : Int)) = true := by simpa using hjn
          obtain ⟨g', cap', β', A', n', c', hv5, gb5, gl5, β5, βl5, cc0, cc4, fz5, hom5, hturn5⟩ := HD5.out.drew.last
          injection hv5 with hv5 hv6 hv7
          injection hv5 with hv5
          injection hv5 with hv5
          subst hv5
          subst hv7
          dsimp only at hom5 hturn5
          have HOM := hide hom5
          have HTU := hide hturn5
          have hn' : n' ≤ 5016384 := by
            rw [Own.len hom5, List.length_append, mapsR_len]
            omega
          have k1 : IntKind.i64.wrap (r1 + (j : Int)) = r1 + (j : Int) := IntWalk.i64_in _ (by omega)
          have k2 : IntKind.i64.wrap (r2 + (j : Int)) = r2 + (j : Int) := IntWalk.i64_in _ (by omega)
          have hll5 : (ll.2.2.2.2 ++ mapsR (r1, r2, (N : Int), r4) j).length ≤ 5016384 := by
            rw [List.length_append, mapsR_len]
            omega
          have HLL := hide hll5
          clear hom5 hturn5 hll5 cc0
          change wr.cell? _ = _ at cc4
          change wr.frozen? _ = _ at fz5
          change β' ≤ wr.heap.size at βl5
          change g < wr.heap.size at gl5
          go_wp2
          have HNUM := hide (And.intro hXb (And.intro hb (And.intro hj (And.intro hw5 (And.intro hX5l (And.intro hR5l (And.intro hF5l (And.intro hjn (And.intro gb5 (And.intro gl5 (And.intro hgl (And.intro a6 hdl))))))))))))
          clear hXb hb hXl a1 a2 a3 a4 a6 b1 b2 b3 b4 hne hml hlm hgb hgl hβ hβl hdl hFl hTl hRl hXl3 hj hw5 hX5l hR5l hF5l hjn hlt gb5 β5 hn' y2 v1 v3 hr HX2 HD2 HT2 HR2 HF2 HB2 HX4 HD4 HT4 HR4 HF4 HB4 HA2
          refine wp_region_held_drew (S := fun w' => w'.cell? ⟨w.heap.size + 1, 0, none⟩ = some (.int .i64 r1) ∧ w'.cell? ⟨w.heap.size + 1, 1, none⟩ = some (.int .i64 r2) ∧ w'.cell? ⟨w.heap.size + 1, 3, none⟩ = some (.int .i64 r4)) (by kernel_rfl) (cells3 HR5.out.drew) (fun hHeld => ?_)
          refine wpAnyH_take (i := 0) (v := ?_) rfl (by kernel_rfl) (by kernel_rfl) (by kernel_rfl) (fun _ _ _ h => h) (Or.inl ⟨by rfl, ?_⟩) (by assumption) ?_
          rotate_left
          · intro w' hSw; (try dsimp only at hSw); go_simp; (try with_reducible rfl)
          try simp only [Act.put, List.setIfInBounds_toArray, List.set_cons_zero, List.set_cons_succ]
          refine wpAnyH_take (i := 1) (v := ?_) rfl (by kernel_rfl) (by kernel_rfl) (by kernel_rfl) (fun _ _ _ h => h) (Or.inl ⟨by rfl, ?_⟩) (by assumption) ?_
          rotate_left
          · intro w' hSw; (try dsimp only at hSw); go_simp; (try with_reducible rfl)
          try simp only [Act.put, List.setIfInBounds_toArray, List.set_cons_zero, List.set_cons_succ]
          refine wpAnyH_take (i := 2) (v := ?_) rfl (by kernel_rfl) (by kernel_rfl) (by kernel_rfl) (fun _ _ _ h => h) (Or.inl ⟨by rfl, ?_⟩) (by assumption) ?_
          rotate_left
          · intro w' hSw; (try dsimp only at hSw); go_simp; (try with_reducible rfl)
          try simp only [Act.put, List.setIfInBounds_toArray, List.set_cons_zero, List.set_cons_succ]
          refine wpAnyH_take (i := 3) (v := ?_) rfl (by kernel_rfl) (by kernel_rfl) (by kernel_rfl) (fun _ _ _ h => h) (Or.inl ⟨by rfl, ?_⟩) (by assumption) ?_
          rotate_left
          · intro w' hSw; (try dsimp only at hSw); go_simp; (try with_reducible rfl)
          try simp only [Act.put, List.setIfInBounds_toArray, List.set_cons_zero, List.set_cons_succ]
          refine wpAnyH_take (i := 5) (v := ?_) rfl (by kernel_rfl) (by kernel_rfl) (by kernel_rfl) (fun _ _ _ h => h) (Or.inl ⟨by rfl, ?_⟩) (by assumption) ?_
          rotate_left
          · intro w' hSw; (try dsimp only at hSw); go_simp; (try with_reducible rfl)
          try simp only [Act.put, List.setIfInBounds_toArray, List.set_cons_zero, List.set_cons_succ]
          refine wpAnyH_take (i := 6) (v := ?_) rfl (by kernel_rfl) (by kernel_rfl) (by kernel_rfl) (fun _ _ _ h => h) (Or.inl ⟨by rfl, ?_⟩) (by assumption) ?_
          rotate_left
          · intro w' hSw; (try dsimp only at hSw); go_simp; (try with_reducible rfl)
          try simp only [Act.put, List.setIfInBounds_toArray, List.set_cons_zero, List.set_cons_succ]
          refine wpAnyH_take (i := 7) (v := ?_) rfl (by kernel_rfl) (by kernel_rfl) (by kernel_rfl) (fun _ _ _ h => h) (Or.inl ⟨by rfl, ?_⟩) (by assumption) ?_
          rotate_left
          · intro w' hSw; (try dsimp only at hSw); go_simp; (try with_reducible rfl)
          try simp only [Act.put, List.setIfInBounds_toArray, List.set_cons_zero, List.set_cons_succ]
          refine wpAnyH_take (i := 8) (v := ?_) rfl (by kernel_rfl) (by kernel_rfl) (by kernel_rfl) (fun _ _ _ h => h) (Or.inl ⟨by rfl, ?_⟩) (by assumption) ?_
          rotate_left
          · intro w' hSw; (try dsimp only at hSw); go_simp; (try with_reducible rfl)
          try simp only [Act.put, List.setIfInBounds_toArray, List.set_cons_zero, List.set_cons_succ]
          refine wpAnyH_take (i := 9) (v := ?_) rfl (by kernel_rfl) (by kernel_rfl) (by kernel_rfl) (fun _ _ _ h => h) (Or.inl ⟨by rfl, ?_⟩) (by assumption) ?_
          rotate_left
          · intro w' hSw; (try dsimp only at hSw); go_simp; (try with_reducible rfl)
          try simp only [Act.put, List.setIfInBounds_toArray, List.set_cons_zero, List.set_cons_succ]
          refine wpAnyH_take (i := 10) (v := ?_) rfl (by kernel_rfl) (by kernel_rfl) (by kernel_rfl) (fun _ _ _ h => h) (Or.inl ⟨by rfl, ?_⟩) (by assumption) ?_
          rotate_left
          · intro w' hSw; (try dsimp only at hSw); go_simp; (try with_reducible rfl)
          try simp only [Act.put, List.setIfInBounds_toArray, List.set_cons_zero, List.set_cons_succ]
          refine wpAnyH_take (i := 11) (v := ?_) rfl (by kernel_rfl) (by kernel_rfl) (by kernel_rfl) (fun _ _ _ h => h) (Or.inl ⟨by rfl, ?_⟩) (by assumption) ?_
          rotate_left
          · intro w' hSw; (try dsimp only at hSw); go_simp; (try with_reducible rfl)
          try simp only [Act.put, List.setIfInBounds_toArray, List.set_cons_zero, List.set_cons_succ]
          refine wpAnyH_take (i := 12) (v := ?_) rfl (by kernel_rfl) (by kernel_rfl) (by kernel_rfl) (fun _ _ _ h => h) (Or.inl ⟨by rfl, ?_⟩) (by assumption) ?_
          rotate_left
          · intro w' hSw; (try dsimp only at hSw); go_simp; (try with_reducible rfl)
          try simp only [Act.put, List.setIfInBounds_toArray, List.set_cons_zero, List.set_cons_succ]
          refine wpAnyH_take (i := 13) (v := ?_) rfl (by kernel_rfl) (by kernel_rfl) (by kernel_rfl) (fun _ _ _ h => h) (Or.inl ⟨by rfl, ?_⟩) (by assumption) ?_
          rotate_left
          · intro w' hSw; (try dsimp only at hSw); go_simp; (try with_reducible rfl)
          try simp only [Act.put, List.setIfInBounds_toArray, List.set_cons_zero, List.set_cons_succ]
          refine wpAnyH_take (i := 14) (v := ?_) rfl (by kernel_rfl) (by kernel_rfl) (by kernel_rfl) (fun _ _ _ h => h) (Or.inl ⟨by rfl, ?_⟩) (by assumption) ?_
          rotate_left
          · intro w' hSw; (try dsimp only at hSw); go_simp; (try with_reducible rfl)
          try simp only [Act.put, List.setIfInBounds_toArray, List.set_cons_zero, List.set_cons_succ]
          refine wpAnyH_take (i := 15) (v := ?_) rfl (by kernel_rfl) (by kernel_rfl) (by kernel_rfl) (fun _ _ _ h => h) (Or.inl ⟨by rfl, ?_⟩) (by assumption) ?_
          rotate_left
          · intro w' hSw; (try dsimp only at hSw); go_simp; (try with_reducible rfl)
          try simp only [Act.put, List.setIfInBounds_toArray, List.set_cons_zero, List.set_cons_succ]
          refine wpAnyH_ready (rs := [4, 16]) (by kernel_rfl) (by simp) ?_
          refine AllReadyH.cons rfl (fun KK hKK => ?_) (AllReadyH.cons rfl (fun KK hKK => ?_) AllReadyH.nil)
          · go_simp
            refine hKK.out _ _ (by first | exact cells3 HR5.out | exact cells3 HR5.out.drew | exact cells3 (HR5.out.alloc _) | exact cells3 (HR5.out.drew.alloc _) | exact cells3 HR7.out | exact cells3 (HR7.out.far (p := ⟨g, li.length * 5 + 4, none⟩) (by have := HNUM.out; dsimp only; omega) _)) (fun hHeld => ?_)
            clear hKK KK
            try simp only [Act.put, List.setIfInBounds_toArray, List.set_cons_zero, List.set_cons_succ]
            refine wpAnyH_ready (rs := [16]) (by kernel_rfl) (by simp) ?_
            refine AllReadyH.cons rfl (fun KK hKK => ?_) AllReadyH.nil
            go_simp
            refine hKK.out _ _ (by first | exact cells3 HR5.out | exact cells3 HR5.out.drew | exact cells3 (HR5.out.alloc _) | exact cells3 (HR5.out.drew.alloc _) | exact cells3 HR7.out | exact cells3 (HR7.out.far (p := ⟨g, li.length * 5 + 4, none⟩) (by have := HNUM.out; dsimp only; omega) _)) (fun hHeld => ?_)
            clear hKK KK
            try simp only [Act.put, List.setIfInBounds_toArray, List.set_cons_zero, List.set_cons_succ]
            refine wpAnyH_ready (rs := [17]) (by kernel_rfl) (by simp) ?_
            refine AllReadyH.cons rfl (fun KK hKK => ?_) AllReadyH.nil
            (refine step_append1 _ (by rfl) (.tmp 76) (.tmp 88) 22 (by rfl) Try.underlying22 infoMpg (by rfl) (by decide) mc_len' mc_one' (base := β') (v := .slice A' n' c') (l := ll.2.2.2.2 ++ mapsR (r1, r2, (N : Int), r4) j) (by rfl) (by repeat (first | exact HOM.out | refine Own.alloc ?_ _ | refine Own.drewN ?_ _ | refine Own.drew ?_)) (nextM (mOf (r1, r2, (N : Int), r4)) j) wr.heap.size 1 (by rfl) ⟨_, _, heap_new_at (by simp)⟩ (by have := HLL.out; omega) (by have := HLL.out; omega) (by simp; omega) ?_; intro g2 cap2 w7 hO7 hg7 hat7 hlt7; obtain ⟨D1, D2, D3, D4⟩ := HTU.out w7 _ (nextM (mOf (r1, r2, (N : Int), r4)) j) _ hO7 ⟨_, _, _, rfl⟩ hg7; have HG7 := hide hg7; have HD3 := hide D3; have HD4 := hide D4; have HR7 := hide ((HR5.out.drew.alloc _).grown hg7 (Ne.symm (own_blk_ne HOM.out HR5.out (by decide)))); clear hO7 hg7 hat7 hlt7 D3 D4)
            refine hKK.out _ _ (by first | exact cells3 HR5.out | exact cells3 HR5.out.drew | exact cells3 (HR5.out.alloc _) | exact cells3 (HR5.out.drew.alloc _) | exact cells3 HR7.out | exact cells3 (HR7.out.far (p := ⟨g, li.length * 5 + 4, none⟩) (by have := HNUM.out; dsimp only; omega) _)) (fun hHeld => ?_)
            clear hKK KK
            try simp only [Act.put, List.setIfInBounds_toArray, List.set_cons_zero, List.set_cons_succ]
            refine wpAnyH_ready (rs := [18]) (by kernel_rfl) (by simp) ?_
            refine AllReadyH.cons rfl (fun KK hKK => ?_) AllReadyH.nil
            go_simp
            refine hKK.out _ _ (by first | exact cells3 HR5.out | exact cells3 HR5.out.drew | exact cells3 (HR5.out.alloc _) | exact cells3 (HR5.out.drew.alloc _) | exact cells3 HR7.out | exact cells3 (HR7.out.far (p := ⟨g, li.length * 5 + 4, none⟩) (by have := HNUM.out; dsimp only; omega) _)) (fun hHeld => ?_)
            clear hKK KK
            try simp only [Act.put, List.setIfInBounds_toArray, List.set_cons_zero, List.set_cons_succ]
            refine wpAnyH_ready (rs := [19]) (by kernel_rfl) (by simp) ?_
            refine AllReadyH.cons rfl (fun KK hKK => ?_) AllReadyH.nil
            go_simp
            refine hKK.out _ _ (by first | exact cells3 HR5.out | exact cells3 HR5.out.drew | exact cells3 (HR5.out.alloc _) | exact cells3 (HR5.out.drew.alloc _) | exact cells3 HR7.out | exact cells3 (HR7.out.far (p := ⟨g, li.length * 5 + 4, none⟩) (by have := HNUM.out; dsimp only; omega) _)) (fun hHeld => ?_)
            clear hKK KK
            try simp only [Act.put, List.setIfInBounds_toArray, List.set_cons_zero, List.set_cons_succ]
            refine wpAnyH_ready (rs := [20]) (by kernel_rfl) (by simp) ?_
            refine AllReadyH.cons rfl (fun KK hKK => ?_) AllReadyH.nil
            go_simp
            refine hKK.out _ _ (by first | exact cells3 HR5.out | exact cells3 HR5.out.drew | exact cells3 (HR5.out.alloc _) | exact cells3 (HR5.out.drew.alloc _) | exact cells3 HR7.out | exact cells3 (HR7.out.far (p := ⟨g, li.length * 5 + 4, none⟩) (by have := HNUM.out; dsimp only; omega) _)) (fun hHeld => ?_)
            clear hKK KK
            try simp only [Act.put, List.setIfInBounds_toArray, List.set_cons_zero, List.set_cons_succ]
            refine wpAnyH_done (by kernel_rfl) ?_ _
            have hX8 := (((HX5.out.drew.alloc _).grown HG7.out (Ne.symm (own_blk_ne HOM.out HX5.out (by decide)))).far (p := ⟨g, li.length * 5 + 4, none⟩) (by have := HNUM.out; dsimp only; omega) (.slice (some ⟨g2, 0, none⟩) ((ll.2.2.2.2 ++ mapsR (r1, r2, (N : Int), r4) j).length + 1) cap2))
            have hF8 := (((HF5.out.drew.alloc _).grown HG7.out (Ne.symm (own_blk_ne HOM.out HF5.out (by decide)))).far (p := ⟨g, li.length * 5 + 4, none⟩) (by have := HNUM.out; dsimp only; omega) (.slice (some ⟨g2, 0, none⟩) ((ll.2.2.2.2 ++ mapsR (r1, r2, (N : Int), r4) j).length + 1) cap2))
            have hR8 := HR7.out.far (p := ⟨g, li.length * 5 + 4, none⟩) (by have := HNUM.out; dsimp only; omega) (.slice (some ⟨g2, 0, none⟩) ((ll.2.2.2.2 ++ mapsR (r1, r2, (N : Int), r4) j).length + 1) cap2)
            have hD8 := HD3.out
            have hB8 := HD4.out _ _ HB5.out.drew
            rw [List.length_append] at hX8 hF8 hR8 hD8 hB8
            rw [List.append_assoc, ← mapsR_succ] at hD8
            have HX8 := hide hX8; have HF8 := hide hF8; have HR8 := hide hR8; have HD8 := hide hD8; have HB8 := hide hB8
            clear hX8 hF8 hR8 hD8 hB8 HD3 HD4 HTU HR7 HG7
            have hjn2 : j < N := by have := HNUM.out; omega
            have a62 : (N : Int) ≤ 16384 := by have := HNUM.out; omega
            go_wp2
            go_roundw
            case rel => exact ⟨j + 1, by have := HNUM.out; omega, by go_num, HX8.out, HD8.out, HR8.out, HF8.out, HB8.out⟩
            case measure => have := HNUM.out; simp [intOf]; omega
          · go_simp
            refine hKK.out _ _ (by first | exact cells3 HR5.out | exact cells3 HR5.out.drew | exact cells3 (HR5.out.alloc _) | exact cells3 (HR5.out.drew.alloc _) | exact cells3 HR7.out | exact cells3 (HR7.out.far (p := ⟨g, li.length * 5 + 4, none⟩) (by have := HNUM.out; dsimp only; omega) _)) (fun hHeld => ?_)
            clear hKK KK
            try simp only [Act.put, List.setIfInBounds_toArray, List.set_cons_zero, List.set_cons_succ]
            refine wpAnyH_ready (rs := [4]) (by kernel_rfl) (by simp) ?_
            refine AllReadyH.cons rfl (fun KK hKK => ?_) AllReadyH.nil
            go_simp
            refine hKK.out _ _ (by first | exact cells3 HR5.out | exact cells3 HR5.out.drew | exact cells3 (HR5.out.alloc _) | exact cells3 (HR5.out.drew.alloc _) | exact cells3 HR7.out | exact cells3 (HR7.out.far (p := ⟨g, li.length * 5 + 4, none⟩) (by have := HNUM.out; dsimp only; omega) _)) (fun hHeld => ?_)
            clear hKK KK
            try simp only [Act.put, List.setIfInBounds_toArray, List.set_cons_zero, List.set_cons_succ]
            refine wpAnyH_ready (rs := [17]) (by kernel_rfl) (by simp) ?_
            refine AllReadyH.cons rfl (fun KK hKK => ?_) AllReadyH.nil
            (refine step_append1 _ (by rfl) (.tmp 76) (.tmp 88) 22 (by rfl) Try.underlying22 infoMpg (by rfl) (by decide) mc_len' mc_one' (base := β') (v := .slice A' n' c') (l := ll.2.2.2.2 ++ mapsR (r1, r2, (N : Int), r4) j) (by rfl) (by repeat (first | exact HOM.out | refine Own.alloc ?_ _ | refine Own.drewN ?_ _ | refine Own.drew ?_)) (nextM (mOf (r1, r2, (N : Int), r4)) j) wr.heap.size 1 (by rfl) ⟨_, _, heap_new_at (by simp)⟩ (by have := HLL.out; omega) (by have := HLL.out; omega) (by simp; omega) ?_; intro g2 cap2 w7 hO7 hg7 hat7 hlt7; obtain ⟨D1, D2, D3, D4⟩ := HTU.out w7 _ (nextM (mOf (r1, r2, (N : Int), r4)) j) _ hO7 ⟨_, _, _, rfl⟩ hg7; have HG7 := hide hg7; have HD3 := hide D3; have HD4 := hide D4; have HR7 := hide ((HR5.out.drew.alloc _).grown hg7 (Ne.symm (own_blk_ne HOM.out HR5.out (by decide)))); clear hO7 hg7 hat7 hlt7 D3 D4)
            refine hKK.out _ _ (by first | exact cells3 HR5.out | exact cells3 HR5.out.drew | exact cells3 (HR5.out.alloc _) | exact cells3 (HR5.out.drew.alloc _) | exact cells3 HR7.out | exact cells3 (HR7.out.far (p := ⟨g, li.length * 5 + 4, none⟩) (by have := HNUM.out; dsimp only; omega) _)) (fun hHeld => ?_)
            clear hKK KK
            try simp only [Act.put, List.setIfInBounds_toArray, List.set_cons_zero, List.set_cons_succ]
            refine wpAnyH_ready (rs := [18]) (by kernel_rfl) (by simp) ?_
            refine AllReadyH.cons rfl (fun KK hKK => ?_) AllReadyH.nil
            go_simp
            refine hKK.out _ _ (by first | exact cells3 HR5.out | exact cells3 HR5.out.drew | exact cells3 (HR5.out.alloc _) | exact cells3 (HR5.out.drew.alloc _) | exact cells3 HR7.out | exact cells3 (HR7.out.far (p := ⟨g, li.length * 5 + 4, none⟩) (by have := HNUM.out; dsimp only; omega) _)) (fun hHeld => ?_)
            clear hKK KK
            try simp only [Act.put, List.setIfInBounds_toArray, List.set_cons_zero, List.set_cons_succ]
            refine wpAnyH_ready (rs := [19]) (by kernel_rfl) (by simp) ?_
            refine AllReadyH.cons rfl (fun KK hKK => ?_) AllReadyH.nil
            go_simp
            refine hKK.out _ _ (by first | exact cells3 HR5.out | exact cells3 HR5.out.drew | exact cells3 (HR5.out.alloc _) | exact cells3 (HR5.out.drew.alloc _) | exact cells3 HR7.out | exact cells3 (HR7.out.far (p := ⟨g, li.length * 5 + 4, none⟩) (by have := HNUM.out; dsimp only; omega) _)) (fun hHeld => ?_)
            clear hKK KK
            try simp only [Act.put, List.setIfInBounds_toArray, List.set_cons_zero, List.set_cons_succ]
            refine wpAnyH_ready (rs := [20]) (by kernel_rfl) (by simp) ?_
            refine AllReadyH.cons rfl (fun KK hKK => ?_) AllReadyH.nil
            go_simp
            refine hKK.out _ _ (by first | exact cells3 HR5.out | exact cells3 HR5.out.drew | exact cells3 (HR5.out.alloc _) | exact cells3 (HR5.out.drew.alloc _) | exact cells3 HR7.out | exact cells3 (HR7.out.far (p := ⟨g, li.length * 5 + 4, none⟩) (by have := HNUM.out; dsimp only; omega) _)) (fun hHeld => ?_)
            clear hKK KK
            try simp only [Act.put, List.setIfInBounds_toArray, List.set_cons_zero, List.set_cons_succ]
            refine wpAnyH_done (by kernel_rfl) ?_ _
            have hX8 := (((HX5.out.drew.alloc _).grown HG7.out (Ne.symm (own_blk_ne HOM.out HX5.out (by decide)))).far (p := ⟨g, li.length * 5 + 4, none⟩) (by have := HNUM.out; dsimp only; omega) (.slice (some ⟨g2, 0, none⟩) ((ll.2.2.2.2 ++ mapsR (r1, r2, (N : Int), r4) j).length + 1) cap2))
            have hF8 := (((HF5.out.drew.alloc _).grown HG7.out (Ne.symm (own_blk_ne HOM.out HF5.out (by decide)))).far (p := ⟨g, li.length * 5 + 4, none⟩) (by have := HNUM.out; dsimp only; omega) (.slice (some ⟨g2, 0, none⟩) ((ll.2.2.2.2 ++ mapsR (r1, r2, (N : Int), r4) j).length + 1) cap2))
            have hR8 := HR7.out.far (p := ⟨g, li.length * 5 + 4, none⟩) (by have := HNUM.out; dsimp only; omega) (.slice (some ⟨g2, 0, none⟩) ((ll.2.2.2.2 ++ mapsR (r1, r2, (N : Int), r4) j).length + 1) cap2)
            have hD8 := HD3.out
            have hB8 := HD4.out _ _ HB5.out.drew
            rw [List.length_append] at hX8 hF8 hR8 hD8 hB8
            rw [List.append_assoc, ← mapsR_succ] at hD8
            have HX8 := hide hX8; have HF8 := hide hF8; have HR8 := hide hR8; have HD8 := hide hD8; have HB8 := hide hB8
            clear hX8 hF8 hR8 hD8 hB8 HD3 HD4 HTU HR7 HG7
            have hjn2 : j < N := by have := HNUM.out; omega
            have a62 : (N : Int) ≤ 16384 := by have := HNUM.out; omega
            go_wp2
            go_roundw
            case rel => exact ⟨j + 1, by have := HNUM.out; omega, by go_num, HX8.out, HD8.out, HR8.out, HF8.out, HB8.out⟩
            case measure => have := HNUM.out; simp [intOf]; omega
        · obtain rfl : j = N := by omega
          have hlt : decide ((j : Int) < (j : Int)) = false := by simp
          have x7f := HX5.out.frozen 7
          have x7 := HX5.out.cell 7
          have hX6 := HX5.out.set_ 7 (.int .i64 (r1 + (j : Int)))
          simp at hX6 x7
          have hD6 := HD5.out.set_ HX5.out (i := 7) (by decide) (by decide) (.int .i64 (r1 + (j : Int)))
          have hR6 := HR5.out.far (p := ⟨X, 7, none⟩) (by dsimp only; omega) (.int .i64 (r1 + (j : Int)))
          have hF6 := HF5.out.far (p := ⟨X, 7, none⟩) (by dsimp only; omega) (.int .i64 (r1 + (j : Int)))
          have hB6 := HB5.out.self 7 (.int .i64 (r1 + (j : Int)))
          have HX6 := hide hX6; have HD6 := hide hD6; have HR6 := hide hR6; have HF6 := hide hF6; have HB6 := hide hB6
          clear hX6 hD6 hR6 hF6 hB6
          go_wp2_with (fail)
          generalize wr.setCell ⟨X, 7, none⟩ (.int .i64 (r1 + (j : Int))) = w6 at *
          have z8 := HX6.out.cell 8
          have z8f := HX6.out.frozen 8
          have z2 := HR6.out.cell 2
          simp at z8 z2
          have hX6l := HX6.out.lt
          have hR6l := HR6.out.lt
          have hX7 := (HX6.out.set_ 8 (.int .i64 (s8 + (j : Int)))).drew
          have hD7 := (HD6.out.set_ HX6.out (i := 8) (by decide) (by decide) (.int .i64 (s8 + (j : Int)))).drew
          have hF7 := (HF6.out.far (p := ⟨X, 8, none⟩) (by dsimp only; omega) (.int .i64 (s8 + (j : Int)))).drew
          have hB7 := (HB6.out.self 8 (.int .i64 (s8 + (j : Int)))).drew
          simp at hX7
          have HX7 := hide hX7; have HD7 := hide hD7; have HF7 := hide hF7; have HB7 := hide hB7
          clear hX7 hD7 hF7 hB7 x7 x7f y0 y1 y2 y3
          go_region
          go_wp2_with (fail)
          generalize (w6.setCell ⟨X, 8, none⟩ (.int .i64 (s8 + (j : Int)))).drew = w7 at *
          refine (fine_any w7).mono ?_
          rintro e w8 ⟨rfl, hb8⟩
          have hF5 := HF7.out.below hb8 HF7.out.lt
          have hX5 := HX7.out.below hb8 HX7.out.lt
          have hD5 := HD7.out.below hb8
          have hB5 := HB7.out.trans (Bt.of hb8 X) (by have := HF7.out.lt; omega)
          have k0 := hF5.cell 0
          have k1 := hF5.cell 1
          have k2 := hF5.frozen 0
          have k3 := hF5.frozen 1
          have hFl5 := hF5.lt
          simp at k0 k1
          have hfin := hide (fin_ok (s := ⟨s1, s2, s3, s4, addMs (li ++ [ll]) (mapsR (r1, r2, (j : Int), r4) (j : Int).toNat), s6, r1 + (j : Int), s8 + (j : Int), ins, en⟩) hX5 (by rw [addMs_snoc]; simpa using hD5) hB5 hF5 hXb (by omega) (.int .i64 0) (.int .i64 0))
          clear hF5 hX5 hD5 hB5 hb8
          go_wp2
          obtain ⟨q0, q1, q2, q3⟩ := hfin.out
          refine bodyPost_ret (v := .agg #[.int .i64 0, .int .i64 0]) (by simp [results, Try.results87, go_sem, q0, q1]) rfl ?_
          rw [hr.out]
          exact ⟨rfl, q2, q3⟩
end Go.Proofs.Ytcblakflhheepaa
