/- Chapter 43: within the reference's device: what its steps leave. -/
import Derived.Test.YtcblakflhheepaaRefF
namespace Go.Proofs.Ytcblakflhheepaa
open Go.RowKit
set_option linter.unusedVariables false
set_option linter.unusedSimpArgs false

theorem runT_rn {t : Ti} (h : isRunT t = true) {o : List (ByteArray × Int)} (ho : numsL false (kOf t.2.1) t.2.2.2 t.2.2.1 [] = .ok o) : 0 ≤ (rnOf t.2.1 o).2.2.1 := by
  obtain ⟨kd, nm, ats, at_⟩ := t
  simp only [isRunT, Bool.and_eq_true, Bool.or_eq_true, decide_eq_true_eq] at h
  dsimp only at ho h ⊢
  rcases h.2 with h2 | h2
  · have hn := isSin_eq h2
    subst hn
    rw [← isSup_1] at ho
    have := (one_ok ho).2.1
    unfold rnOf
    rw [isSin_1]
    show 0 ≤ (oneRn o).2.2.1
    omega
  · have hn := isRng_eq h2
    subst hn
    rw [← isSup_r] at ho
    have := (rng_ok ho).2.1
    unfold rnOf
    rw [isSin_r]
    show 0 ≤ (rngRn o).2.2.1
    omega
theorem runsX_ok {data s' : Int} {ms' : List Mp} {T' : List Ti} : ∀ {L : List Ti} {sum : Int} {ms : List Mp}, (0 ≤ sum ∧ sum ≤ 16384) → runsX data sum ms L = .ok (s', ms', T') → (0 ≤ s' ∧ s' ≤ 16384) ∧ T'.length ≤ L.length ∧ ∀ t ∈ T', t ∈ L
  | [], sum, ms, h, hr => by
    rw [runsX_nil] at hr
    injection hr with hr
    injection hr with h1 hr
    injection hr with h2 h3
    subst h1; subst h3
    exact ⟨h, Nat.le_refl _, fun t ht => ht⟩
  | t :: L, sum, ms, h, hr => by
    rw [runsX_cons] at hr
    split at hr
    · rename_i hrt
      split at hr
      · cases hr
      · rename_i o ho
        split at hr
        · cases hr
        · rename_i hx
          have h0 := runT_rn hrt ho
          have h1 := runX_none hx
          have h2 := runsX_ok (L := L) (by omega) hr
          exact ⟨h2.1, by simp only [List.length_cons]; omega, fun t' ht' => List.mem_cons_of_mem _ (h2.2.2 t' ht')⟩
    · injection hr with hr
      injection hr with h1 hr
      injection hr with h2 h3
      subst h1; subst h3
      exact ⟨h, Nat.le_refl _, fun t ht => ht⟩
theorem TMild.sub {L L' : List Ti} (h : TMild L) (h1 : L'.length ≤ L.length) (h2 : ∀ t ∈ L', t ∈ L) : TMild L' := ⟨by have := h.1; omega, fun t ht => h.2 t (h2 t ht)⟩
section
variable {X D Tb G : Nat} {r : Rh} {T : List Ti} {sum kd at_ : Int} {tv : Value} {m0 m1 m2 m3 m4 : Int} {vm : Value} {ms : List Mp} {devs : List Dv} {w0 : World} {ce pe : Int} {w w' : World}
theorem DvS.rok (h : DvS X D Tb G r T sum kd at_ tv m0 m1 m2 m3 m4 vm ms devs w0 0 pe w) : ROk X { r with at_ := pe } T sum w := by
  obtain ⟨A, c, h1, h2, h3⟩ := h.fX
  exact ⟨A, c, h1, h2, h3⟩
/-- The device's runs. -/
theorem DvS.runs (h : DvS X D Tb G r T sum kd at_ tv m0 m1 m2 m3 m4 vm [] devs w0 0 pe w) (hda : 0 ≤ r.da ∧ r.da ≤ 65536) (hsum : 0 ≤ sum ∧ sum ≤ 16384) (hT : TMild T) :
    Calls Try.prog 92 #[.pointer (some ⟨X, 0, none⟩), .pointer (some ⟨D, 0, none⟩)] w fun e w' => e = .returned (.tuple #[]) ∧ Below X w0 w' ∧ match runsX r.da sum [] T with
      | .error (p, c) => RErr X r.N p c w'
      | .ok (s, ms, T') => ∃ vm, DvS X D Tb G r T' s kd at_ tv m0 m1 m2 m3 m4 vm ms devs w0 0 pe w' := by
  obtain ⟨rows, h4, h5, h6, h7⟩ := h.fV
  obtain ⟨o1, o2, o3, o4⟩ := h.ord
  have hDl := h.fD.lt
  refine (rruns_any X D D { r with at_ := pe } m0 m2 m3 m4 vm T sum w h.rok h.fD h.fM (by omega) (by omega) (by omega) hda hsum hT).mono ?_
  rintro e w' ⟨rfl, hF, hR⟩
  have hbl := hF.low' (C := X) (by omega) (by omega) (by omega)
  refine ⟨rfl, h.bel.trans hbl, ?_⟩
  dsimp only at hR ⊢
  cases hx : runsX r.da sum [] T with
  | error pc =>
    rw [hx] at hR
    exact hR
  | ok q =>
    obtain ⟨s, ms, T'⟩ := q
    rw [hx] at hR
    obtain ⟨vm', hO, hD, hM⟩ := hR
    obtain ⟨A, c, h1, h2, h3⟩ := hO
    refine ⟨vm', ⟨A, c, h1, h2, h3⟩, hD, hM, h.fT.fr hF (by omega) (by omega) (by decide), h.fN.fr hF (by omega) (by omega) (by decide), ⟨rows, h4.keep (fun k hk => hF.low k (h6 k hk) (by have := (h4.lt k hk).1; omega) (by have := h6 k hk; omega)), ?_, h6, h7⟩, h.bel.trans hbl, h.ord⟩
    exact h5.keep fun r' hr' l hl => hl.keep fun k hk => hF.low k (h7 r' hr' k hk) (by have := (hl.lt k hk).1; omega) (by have := h7 r' hr' k hk; omega)
theorem DvS.is0 (h : DvS X D Tb G r T sum kd at_ tv m0 m1 m2 m3 m4 vm ms devs w0 0 pe w) (hT : T.length ≤ 5000000) (k : Int) (nm : ByteArray) (v : Bool) (hv : isR 0 T k nm = v) :
    Calls Try.prog 51 #[.pointer (some ⟨X, 0, none⟩), .int .i64 k, .string nm] w fun e w' => e = .returned (.bool v) ∧ w' = w := by
  obtain ⟨A, c, h1, h2, h3⟩ := h.fX
  exact ris_any X X _ A c T k nm v w h2 rfl h3 (by have := h2.lt; omega) hT hv
theorem DvS.wrong0 (h : DvS X D Tb G r T sum kd at_ tv m0 m1 m2 m3 m4 vm ms devs w0 0 pe w) (hT : T.length ≤ 5000000) :
    Calls Try.prog 54 #[.pointer (some ⟨X, 0, none⟩)] w fun e w' => e = .returned (.tuple #[]) ∧ Below X w0 w' ∧ RErr X r.N (headAt r.N T) 16 w' := by
  obtain ⟨A, c, h1, h2, h3⟩ := h.fX
  refine (wrong_any X X _ A c T w h2 rfl rfl h3 (by have := h2.lt; omega) hT).mono ?_
  rintro e w' ⟨rfl, hX, hb⟩
  have hbl := hb.below (C := X) (by have := h2.lt; omega) (Nat.le_refl X)
  exact ⟨rfl, h.bel.trans hbl, by decide, { r with lv := .slice A T.length c, sum := sum, e := 16, at_ := headAt r.N T }, T, A, c, rfl, rfl, rfl, hT, rfl, hX, h3.below hbl⟩
/-- The state's next tag. -/
theorem DvS.head {t : Ti} {L : List Ti} (h : DvS X D Tb G r (t :: L) sum kd at_ tv m0 m1 m2 m3 m4 vm ms devs w0 ce pe w) :
    ∃ b off c, w.cell? ⟨X, 0, none⟩ = some (.slice (some ⟨b, off, none⟩) (L.length + 1) c) ∧ w.frozen? ⟨X, 0, none⟩ = false ∧ L.length + 1 ≤ c ∧ b < w.heap.size ∧ w.cell? ⟨b, off + 3, none⟩ = some (.int .i64 t.2.2.2) ∧
      ∀ A2 c2, (c = 1 ∧ A2 = some ⟨b, off, none⟩ ∧ c2 = 0) ∨ (c ≠ 1 ∧ A2 = some ⟨b, off + 4, none⟩ ∧ c2 = c - 1) → DvS X D Tb G r L sum kd at_ tv m0 m1 m2 m3 m4 vm ms devs w0 ce pe (w.setCell ⟨X, 0, none⟩ (.slice A2 L.length c2)) := by
  obtain ⟨⟨A, c, h1, h2, h3⟩, hD, hM, hT, hN, ⟨rows, h4, h5, h6, h7⟩, hb, o1, o2, o3, o4⟩ := h
  obtain ⟨b, off, A', cap', rfl, hbB, c0, c1, c2, c3, hr⟩ := h3 0 t rfl
  have x0 := h2.cell 0
  simp at x0 c3
  have hXl := h2.lt
  refine ⟨b, off, c, x0, h2.frozen 0, h1, by omega, c3, fun A2 c2 hc => ?_⟩
  have hbl : Below X w (w.setCell ⟨X, 0, none⟩ (.slice A2 L.length c2)) := (Below.refl X w).setCell (p := ⟨X, 0, none⟩) (Nat.le_refl X) _
  have hbt : But w.heap.size X w (w.setCell ⟨X, 0, none⟩ (.slice A2 L.length c2)) := ⟨rfl, rfl, rfl, by simp, fun k hk hX => Below.heap_setCell _ _ _ k hX⟩
  have hS := h2.set_ 0 (.slice A2 L.length c2)
  refine ⟨⟨A2, c2, ?_, by simpa using hS, ?_⟩, hD.but hbt hD.lt (by omega), hM.but hbt (fun q hq => ⟨(hM.lt q hq).2, by have := (hM.lt q hq).1; omega⟩), hT.but hbt hT.lt (by omega), hN.but hbt hN.lt (by omega), ⟨rows, h4.but hbt (fun q hq => ⟨(h4.lt q hq).2, by have := (h4.lt q hq).1; omega⟩), h5.keep (fun _ _ _ hl => hl.but hbt (fun q hq => ⟨(hl.lt q hq).2, by have := (hl.lt q hq).1; omega⟩)), h6, h7⟩, hb.trans hbl, o1, o2, o3, o4⟩
  · simp only [List.length_cons] at h1
    rcases hc with ⟨rfl, rfl, rfl⟩ | ⟨hc, rfl, rfl⟩ <;> omega
  · simp only [List.length_cons] at h1
    rcases hc with ⟨rfl, rfl, rfl⟩ | ⟨hc, rfl, rfl⟩
    · obtain rfl : L = [] := List.eq_nil_of_length_eq_zero (by omega)
      exact RdI.nil _ _ _
    · exact h3.tail.below hbl
/-- What the device's append takes. -/
theorem DvS.app (h : DvS X D Tb G r T sum kd at_ tv m0 m1 m2 m3 m4 vm ms devs w0 ce pe w) : ∃ (rows : List Dr) (Am : Option Addr) (nm cm : Nat), vm = .slice Am nm cm ∧ nm = ms.length ∧ rows.length = devs.length ∧ Own w (X + 1) 123 5 drc r.dv rows ∧ MD w (X + 1) rows devs := by
  obtain ⟨rows, h4, h5, -⟩ := h.fV
  obtain ⟨A, n, c, hv, hn, -⟩ := h.fM.rd mc_len'
  exact ⟨rows, A, n, c, hv, hn, h5.len, h4, h5⟩
/-- .. and leaves. -/
theorem DvS.fin {rows : List Dr} {Am : Option Addr} {nm cm g n1 cap : Nat} {w1 : World} (h : DvS X D Tb G r T sum kd at_ tv m0 m1 m2 m3 m4 (.slice Am nm cm) ms devs w0 ce pe w) (hV4 : Own w (X + 1) 123 5 drc r.dv rows) (hV5 : MD w (X + 1) rows devs)
    (hO1 : Own w1 (X + 1) 123 5 drc (.slice (some ⟨g, 0, none⟩) n1 cap) (rows ++ [(m0, m2, m3, m4, (Am, nm, cm))])) (hg : (w.alloc (.cells #[.int .i64 m0, .int .i64 m2, .int .i64 m3, .int .i64 m4, .slice Am nm cm] 123)).grownBy w1 r.dv.ownBlock) (hT : T.length ≤ 5000000) :
    w1.cell? ⟨X, 6, none⟩ = some r.dv ∧ w1.frozen? ⟨X, 6, none⟩ = false ∧ X < w1.heap.size ∧ ∀ q,
      Below X w0 ((w1.setCell ⟨X, 6, none⟩ (.slice (some ⟨g, 0, none⟩) n1 cap)).drewN q) ∧ (ce ≠ 0 → RErr X r.N pe ce ((w1.setCell ⟨X, 6, none⟩ (.slice (some ⟨g, 0, none⟩) n1 cap)).drewN q)) ∧
      (ce = 0 → ∃ v a, ROk X { r with dv := v, at_ := a } T sum ((w1.setCell ⟨X, 6, none⟩ (.slice (some ⟨g, 0, none⟩) n1 cap)).drewN q) ∧ RDev X ((w1.setCell ⟨X, 6, none⟩ (.slice (some ⟨g, 0, none⟩) n1 cap)).drewN q) v (devs ++ [(m0, m2, m3, m4, ms)])) := by
  obtain ⟨⟨A, c, h1, h2, h3⟩, hD, hM, hTt, hN, hV, hb, o1, o2, o3, o4⟩ := h
  have hXl := h2.lt
  have hDl := hD.lt
  have hXa := h2.alloc (.cells #[.int .i64 m0, .int .i64 m2, .int .i64 m3, .int .i64 m4, .slice Am nm cm] 123)
  have hOa := hV4.alloc (.cells #[.int .i64 m0, .int .i64 m2, .int .i64 m3, .int .i64 m4, .slice Am nm cm] 123)
  have hba : Below X w (w.alloc (.cells #[.int .i64 m0, .int .i64 m2, .int .i64 m3, .int .i64 m4, .slice Am nm cm] 123)) := Below.alloc (Below.refl X w) (by omega) _
  obtain ⟨d1, d2, d3, d4, d5⟩ := own_store_back (k := 6) hba hXa hO1 hg (own_blk_ne hV4 h2 (by decide)) (fun k hk => by have := (hV4.lt k hk).1; omega) (by decide) (by simp; omega) (Nat.le_refl X)
  have hX1 := hXa.grown hg (Ne.symm (own_blk_ne hV4 h2 (by decide)))
  have hkp : ∀ (v : Value) (l : List Mp) (lo : Nat), Own w lo 39 3 mc v l → Own (w1.setCell ⟨X, 6, none⟩ (.slice (some ⟨g, 0, none⟩) n1 cap)) lo 39 3 mc v l := by
    intro v l lo hl
    have hl1 := (hl.alloc (.cells #[.int .i64 m0, .int .i64 m2, .int .i64 m3, .int .i64 m4, .slice Am nm cm] 123)).grown hg (own_own_ne hl hV4 (by decide))
    exact hl1.setCell (p := ⟨X, 6, none⟩) (own_blk_ne hl1 hX1 (by decide)) _
  simp at d1 d3
  refine ⟨d1, d2, hX1.lt, fun q => ⟨(drewN_below (hb.trans d5) q), fun hc => ?_, fun hc => ?_⟩⟩
  · exact ⟨hc, { r with lv := .slice A T.length c, sum := sum, e := ce, at_ := pe, dv := .slice (some ⟨g, 0, none⟩) n1 cap }, T, A, c, rfl, rfl, rfl, hT, rfl, d3.drewN q, h3.below (drewN_below d5 q)⟩
  · subst hc
    refine ⟨_, pe, ⟨A, c, h1, d3.drewN q, h3.below (drewN_below d5 q)⟩, rows ++ [(m0, m2, m3, m4, (Am, nm, cm))], d4.drewN q, MD.snoc ⟨rfl, rfl, rfl, rfl, ((hkp _ _ _ hM).mono (by omega)).drewN q⟩ (hV5.keep fun r' _ l hl => (hkp _ _ _ hl).drewN q)⟩
end
end Go.Proofs.Ytcblakflhheepaa
