/- Chapter 43: the reference's run. -/
import Derived.Test.YtcblakflhheepaaRefC
import Derived.Test.YtcblakflhheepaaRefP
namespace Go.Proofs.Ytcblakflhheepaa
open Go.RowKit
set_option linter.unusedVariables false
set_option linter.unusedSimpArgs false

def MapRow (w : World) (k : Nat) : Prop := ∃ cs fr, w.heap[k]? = some (.cells cs 39 fr)
/-- Below β all but X and D stands; of the old blocks all but X, D and rows of mappings stands. -/
structure Fr (X D β : Nat) (w w' : World) : Prop where
  os : w'.os = w.os
  tape : w'.tape = w.tape
  output : w'.output = w.output
  size : w.heap.size ≤ w'.heap.size
  low : ∀ k, k < β → k ≠ X → k ≠ D → w'.heap[k]? = w.heap[k]?
  calm : ∀ k, k < w.heap.size → k ≠ X → k ≠ D → ¬ MapRow w k → w'.heap[k]? = w.heap[k]?
section
variable {X D β : Nat} {a b c : World}
theorem Fr.refl (X D β : Nat) (w : World) : Fr X D β w w := ⟨rfl, rfl, rfl, Nat.le_refl _, fun _ _ _ _ => rfl, fun _ _ _ _ _ => rfl⟩
theorem Fr.of (h : But a.heap.size X a b) (hβ : β ≤ a.heap.size) : Fr X D β a b := ⟨h.os, h.tape, h.output, h.size, fun k hk hX _ => h.block k (by omega) hX, fun k hk hX _ _ => h.block k hk hX⟩
theorem Fr.below (h : Below a.heap.size a b) (hβ : β ≤ a.heap.size) : Fr X D β a b := Fr.of (But.of h X) hβ
theorem Fr.trans (h : Fr X D β a b) (k : Fr X D β b c) : Fr X D β a c :=
  ⟨k.os.trans h.os, k.tape.trans h.tape, k.output.trans h.output, Nat.le_trans h.size k.size, fun i hi h1 h2 => (k.low i hi h1 h2).trans (h.low i hi h1 h2), fun i hi h1 h2 h3 => (k.calm i (by have := h.size; omega) h1 h2 (by
    rintro ⟨cs, fr, h4⟩
    rw [h.calm i hi h1 h2 h3] at h4
    exact h3 ⟨cs, fr, h4⟩)).trans (h.calm i hi h1 h2 h3)⟩
theorem Fr.drew (h : Fr X D β a b) : Fr X D β a b.drew := ⟨h.os, h.tape, h.output, h.size, h.low, h.calm⟩
theorem Fr.drewN (h : Fr X D β a b) (n : Nat) : Fr X D β a (b.drewN n) := ⟨h.os, h.tape, h.output, h.size, h.low, h.calm⟩
theorem Fr.alloc (h : Fr X D β a b) (hβ : β ≤ b.heap.size) (o : Obj) : Fr X D β a (b.alloc o) := h.trans (Fr.below (Below.alloc (Below.refl _ _) (Nat.le_refl _) o) hβ)
theorem Fr.setX (h : Fr X D β a b) (i : Nat) (v : Value) : Fr X D β a (b.setCell ⟨X, i, none⟩ v) :=
  ⟨h.os, h.tape, h.output, by simpa using h.size, fun k hk h1 h2 => (Below.heap_setCell _ _ _ k h1).trans (h.low k hk h1 h2), fun k hk h1 h2 h3 => (Below.heap_setCell _ _ _ k h1).trans (h.calm k hk h1 h2 h3)⟩
theorem Fr.setD (h : Fr X D β a b) (i : Nat) (v : Value) : Fr X D β a (b.setCell ⟨D, i, none⟩ v) :=
  ⟨h.os, h.tape, h.output, by simpa using h.size, fun k hk h1 h2 => (Below.heap_setCell _ _ _ k h2).trans (h.low k hk h1 h2), fun k hk h1 h2 h3 => (Below.heap_setCell _ _ _ k h2).trans (h.calm k hk h1 h2 h3)⟩
theorem Fr.grown {row : Option Nat} (h : Fr X D β a b) (hg : b.grownBy c row) (hβ : β ≤ b.heap.size) (hr : ∀ k, row = some k → β ≤ k ∧ MapRow b k) : Fr X D β a c :=
  h.trans ⟨hg.os, hg.tape, hg.output, hg.size, fun k hk _ _ => hg.block k (by omega) (by intro e; have := hr k e.symm; omega), fun k hk _ _ h3 => hg.block k hk (by intro e; exact h3 (hr k e.symm).2)⟩
theorem Blk.fr {g : Nat} {t : TypeId} {cs : Array Value} (h : Blk a g t cs) (hf : Fr X D β a b) (h1 : g ≠ X) (h2 : g ≠ D) (ht : t ≠ 39) : Blk b g t cs := by
  refine (hf.calm g h.lt h1 h2 ?_).trans h
  rintro ⟨cs', fr, h3⟩
  unfold Blk at h
  rw [h] at h3
  injection h3 with h3
  injection h3 with h4 h5 h6
  exact ht h5
theorem Fr.low' (h : Fr X D β a b) {C : Nat} (h1 : C ≤ X) (h2 : C ≤ D) (h3 : C ≤ β) : Below C a b := ⟨h.os, h.tape, h.output, h.size, fun k hk => h.low k (by omega) (by omega) (by omega)⟩
end
theorem own_maprow {w : World} {β : Nat} {v : Value} {l : List Mp} (h : Own w β 39 3 mc v l) : ∀ k, v.ownBlock = some k → β ≤ k ∧ MapRow w k := by
  intro k hk
  refine ⟨(h.lt k hk).1, ?_⟩
  rcases h.2 with ⟨rfl, _⟩ | ⟨g, cap, cur, rfl, _, hh, _⟩
  · simp [Value.ownBlock] at hk
  · simp [Value.ownBlock] at hk
    subst hk
    exact ⟨_, _, hh⟩
/-- How the reference's run ends. -/
def RRun (X D β : Nat) (r : Rh) (d1 d2 d3 d4 : Int) (ms : List Mp) (rn : Rn) (w : World) (o : Option (Int × Int)) (e : Ending) (w' : World) : Prop :=
  e = .returned (.tuple #[]) ∧ match o with
    | some (p, c) => Blk w' X RSt (rst { r with e := c, at_ := p, sum := r.sum + rn.2.2.1 }) ∧ But w.heap.size X w w'
    | none => ∃ vm, Blk w' X RSt (rst { r with sum := r.sum + rn.2.2.1 }) ∧ Blk w' D 123 #[.int .i64 d1, .int .i64 d2, .int .i64 d3, .int .i64 d4, vm] ∧ Own w' β 39 3 mc vm (ms ++ mapsR rn rn.2.2.1.toNat) ∧ Fr X D β w w'
set_option maxRecDepth 100000 in
set_option maxHeartbeats 8000000 in
theorem rrun_any (X D β : Nat) (r : Rh) (kd at_ : Int) (nm : ByteArray) (v : Value) (rn : Rn) (d1 d2 d3 d4 : Int) (vm : Value) (ms : List Mp) (w : World) (hX : Blk w X RSt (rst r)) (he : r.e = 0) (hD : Blk w D 123 #[.int .i64 d1, .int .i64 d2, .int .i64 d3, .int .i64 d4, vm])
    (hM : Own w β 39 3 mc vm ms) (hβ : β ≤ w.heap.size) (hne : X ≠ D) (hda : 0 ≤ r.da ∧ r.da ≤ 65536) (hsum : 0 ≤ r.sum ∧ r.sum ≤ 16384) (hml : ms.length ≤ 5000000) (hmv : ∀ m ∈ ms, 0 ≤ m.1 ∧ m.1 ≤ 281474976710655)
    (hr : (0 ≤ rn.1 ∧ rn.1 ≤ 281474976710655) ∧ (0 ≤ rn.2.1 ∧ rn.2.1 ≤ 65535) ∧ (1 ≤ rn.2.2.1 ∧ rn.2.2.1 ≤ 16384)) :
    Calls Try.prog 105 #[.pointer (some ⟨X, 0, none⟩), .pointer (some ⟨D, 0, none⟩), .agg #[.int .i64 kd, .string nm, v, .int .i64 at_], .int .i64 rn.1, .int .i64 rn.2.1, .int .i64 rn.2.2.1, .int .i64 rn.2.2.2] w
      (RRun X D β r d1 d2 d3 d4 ms rn w (runX r.sum r.da (lastV (-1) ms + 1) at_ rn)) := by
  obtain ⟨r1, r2, r3, r4⟩ := rn
  dsimp only at hr ⊢
  obtain ⟨⟨a1, a2⟩, ⟨a3, a4⟩, a5, a6⟩ := hr
  obtain ⟨N, rfl⟩ := Int.eq_ofNat_of_zero_le (show 0 ≤ r3 by omega)
  have hXl := hX.lt
  have hDl := hD.lt
  have hT1 := Blk.new w 91 #[.int .i64 kd, .string nm, v, .int .i64 at_]
  have hX1 := hX.alloc (.cells #[.int .i64 kd, .string nm, v, .int .i64 at_] 91)
  have hD1 := hD.alloc (.cells #[.int .i64 kd, .string nm, v, .int .i64 at_] 91)
  have hM1 := hM.alloc (.cells #[.int .i64 kd, .string nm, v, .int .i64 at_] 91)
  have hW1 : Below w.heap.size w (w.alloc (.cells #[.int .i64 kd, .string nm, v, .int .i64 at_] 91)) := (by repeat (first | exact Below.refl _ _ | refine Below.alloc ?_ (by first | (simp; omega) | simp | omega) _ | refine drewN_below ?_ _ | refine Below.drew ?_))
  obtain ⟨A, n, cap, rfl, hn, hrd⟩ := hM1.rd mc_len'
  have HX1 := hide hX1; have HD1 := hide hD1; have HM1 := hide hM1; have HT1 := hide hT1; have HW1 := hide hW1; have HRD := hide hrd
  have HMV := hide hmv
  have HN := hide hn
  clear hX hD hM hX1 hD1 hM1 hT1 hW1 hrd hmv hn
  have dv4 := HD1.out.cell 4
  simp at dv4
  go_enter Try.func105, Try.ntmps105
  go_upto_if 21 with (fail)
  generalize (w.alloc (.cells #[.int .i64 kd, .string nm, v, .int .i64 at_] 91)) = w1 at *
  go_cut [14] (fun x wx => x = .int .i64 (lastV (-1) ms + 1) ∧ ∃ q, wx = w1.drewN q)
  case first =>
    rcases List.eq_nil_or_concat ms with hms | ⟨l0, m, hms⟩
    · have hn0 : n = 0 := by rw [HN.out, hms]; rfl
      have HL := hide (show lastV (-1) ms + 1 = 0 by rw [hms]; rfl)
      clear hms
      subst hn0
      go_wp2_with fail
      go_meet
      exact ⟨by rw [HL.out], 0, rfl⟩
    · rw [List.concat_eq_append] at hms
      have hm : ms[l0.length]? = some m := by rw [hms]; simp
      obtain ⟨b, off, rfl, hb, hc⟩ := HRD.out l0.length m hm
      have c0 : w1.cell? ⟨b, off + l0.length * 3, none⟩ = some (.int .i64 m.1) := by simpa using hc 0 _ rfl
      have HL := hide (show lastV (-1) ms + 1 = m.1 + 1 by rw [hms]; simp [lastV])
      have hmb := HMV.out m (List.mem_of_getElem? hm)
      have hwr : IntKind.i64.wrap (m.1 + 1) = m.1 + 1 := IntWalk.i64_in _ (by omega)
      have hlm : l0.length + 1 = ms.length := by rw [hms]; simp
      have i0 : (0 : Int) ≤ (l0.length : Int) := by omega
      have i1 : (l0.length : Int) < (ms.length : Int) := by omega
      have i2 : decide ((0 : Int) < (ms.length : Int)) = true := by rw [decide_eq_true_eq]; omega
      have i2' : decide (0 < ms.length) = true := by rw [decide_eq_true_eq]; omega
      have i3 : IntKind.i64.wrap ((ms.length : Int) - 1) = (l0.length : Int) := by
        have : (ms.length : Int) - 1 = (l0.length : Int) := by omega
        rw [this]; exact IntWalk.i64_in _ (by omega)
      have hn1 : n = ms.length := HN.out
      subst hn1
      clear hms hm hc hlm
      have hbl : b < w1.heap.size := hb
      go_wp2_with fail
      go_quiet (fail)
      go_wp2_with fail
      go_meet
      exact ⟨by rw [HL.out], _, rfl⟩
  case rest =>
    obtain ⟨rfl, q, rfl⟩ := hcut
    have hX2 := HX1.out.drewN q
    have hD2 := HD1.out.drewN q
    have hM2 := HM1.out.drewN q
    have hT2 := HT1.out.drewN q
    have hW2 := drewN_below HW1.out q
    generalize (w1.drewN q) = w2 at *
    clear dv4 HX1 HD1 HM1 HT1 HRD HW1
    have hws := hW2.size
    have x5 := hX2.cell 5
    have x7 := hX2.cell 7
    have x8 := hX2.cell 8
    have f7 := hX2.frozen 7
    have t3 := hT2.cell 3
    have hXl2 := hX2.lt
    have hDl2 := hD2.lt
    have hTl2 := hT2.lt
    simp at x5 x7 x8 t3
    rw [he] at x8
    have HX2 := hide hX2; have HD2 := hide hD2; have HM2 := hide hM2; have HT2 := hide hT2; have HW2 := hide hW2
    obtain ⟨nx, hnx⟩ : ∃ nx, lastV (-1) ms + 1 = nx := ⟨_, rfl⟩
    rw [hnx]
    have HNX := hide hnx
    clear hnx
    have v1 : IntKind.i64.wrap (r1 + (N : Int)) = r1 + (N : Int) := IntWalk.i64_in _ (by omega)
    have v2 : IntKind.i64.wrap (r1 + (N : Int) - 1) = r1 + (N : Int) - 1 := IntWalk.i64_in _ (by omega)
    have v3 : IntKind.i64.wrap (r2 + (N : Int)) = r2 + (N : Int) := IntWalk.i64_in _ (by omega)
    have v4 : IntKind.i64.wrap (r2 + (N : Int) - 1) = r2 + (N : Int) - 1 := IntWalk.i64_in _ (by omega)
    have v5 : IntKind.i64.wrap (r.sum + (N : Int)) = r.sum + (N : Int) := IntWalk.i64_in _ (by omega)
    have hN0 : decide ((0 : Int) < (N : Int)) = true := by rw [decide_eq_true_eq]; omega
    have herr := hide (fun (p c : Int) (w3 : World) (hX3 : Blk w3 X RSt (rst { r with e := c, at_ := p })) (hb3 : But w2.heap.size X w2 w3) => show RRun X D β r d1 d2 d3 d4 ms (r1, r2, (N : Int), r4) w (some (p, c)) (.returned (.tuple #[])) (w3.setCell ⟨X, 7, none⟩ (.int .i64 (r.sum + (N : Int)))) from
      ⟨rfl, by simpa using hX3.set_ 7 (.int .i64 (r.sum + (N : Int))), ((But.of HW2.out X).trans hb3 hws).self 7 _⟩)
    clear hX2 hD2 hM2 hT2 hW2
    by_cases hbad : 281474976710655 < r1 + (N : Int) - 1 ∨ r.da ≤ r2 + (N : Int) - 1 ∨ 16384 < r.sum + (N : Int)
    · have hrx := hide (show runX r.sum r.da nx at_ (r1, r2, (N : Int), r4) = some (at_, 2) from if_pos hbad)
      have hb2 := hide (bad_any X r at_ 2 w2 HX2.out he)
      obtain ⟨u1, hu1⟩ : ∃ b, decide (281474976710655 < r1 + (N : Int) - 1) = b := ⟨_, rfl⟩
      obtain ⟨u2, hu2⟩ : ∃ b, decide (r.da ≤ r2 + (N : Int) - 1) = b := ⟨_, rfl⟩
      obtain ⟨u3, hu3⟩ : ∃ b, decide (16384 < r.sum + (N : Int)) = b := ⟨_, rfl⟩
      obtain ⟨u4, hu4⟩ : ∃ b, decide (r1 < nx) = b := ⟨_, rfl⟩
      have hub : u1 = true ∨ (u1 = false ∧ u2 = true) ∨ (u1 = false ∧ u2 = false ∧ u3 = true) := by
        rw [← hu1, ← hu2, ← hu3]
        simp only [decide_eq_true_eq, decide_eq_false_iff_not]
        omega
      clear hbad
      rcases hub with rfl | ⟨rfl, rfl⟩ | ⟨rfl, rfl, rfl⟩
      all_goals
        cases u4
        all_goals
          go_wp2_with (fail)
          refine hb2.out.mono ?_
          rintro e w3 ⟨rfl, hX3, hb3⟩
          have hT3 := HT2.out.but hb3 HT2.out.lt (by omega)
          have z3 := hT3.cell 3
          have z7 := hX3.cell 7
          have z8 := hX3.cell 8
          have g7 := hX3.frozen 7
          have hXl3 := hX3.lt
          have hTl3 := hT3.lt
          simp at z3 z7 z8
          have hno := hide (bad_no X { r with e := 2, at_ := at_ } at_ 17 w3 hX3 (by simp))
          have H3 := hide (herr.out _ _ _ hX3 hb3)
          clear hX3 hb3 hT3 x5 x7 x8 t3 f7
          go_wp2_with (refine hno.out.mono ?_; rintro e w4 ⟨rfl, hw4⟩; have hw5 := hw4.symm; subst hw5)
          go_loopw [15] (fun i wr => i = .int .i64 0 ∧ wr = w3) (fun _ _ => 0)
          case atStart => exact ⟨rfl, rfl⟩
          case round =>
            obtain ⟨rfl, rfl⟩ := hrel
            go_wp2
            go_end0
            rw [HNX.out, hrx.out]
            exact H3.out
    · have hnb : ¬ (281474976710655 < r1 + (N : Int) - 1) ∧ ¬ (r.da ≤ r2 + (N : Int) - 1) ∧ ¬ (16384 < r.sum + (N : Int)) := by omega
      have hrx0 : runX r.sum r.da nx at_ (r1, r2, (N : Int), r4) = if r1 < nx then some (at_, 17) else none := if_neg hbad
      have hu1 : decide (281474976710655 < r1 + (N : Int) - 1) = false := by rw [decide_eq_false_iff_not]; omega
      have hu2 : decide (r.da ≤ r2 + (N : Int) - 1) = false := by rw [decide_eq_false_iff_not]; omega
      have hu3 : decide (16384 < r.sum + (N : Int)) = false := by rw [decide_eq_false_iff_not]; omega
      clear hbad hnb
      by_cases hlt : r1 < nx
      · have hrx := hide (hrx0.trans (if_pos hlt))
        have hb17 := hide (bad_any X r at_ 17 w2 HX2.out he)
        have hu4 : decide (r1 < nx) = true := by rw [decide_eq_true_eq]; exact hlt
        clear hrx0 hlt
        go_wp2_with (fail)
        refine hb17.out.mono ?_
        rintro e w3 ⟨rfl, hX3, hb3⟩
        have hT3 := HT2.out.but hb3 HT2.out.lt (by omega)
        have z7 := hX3.cell 7
        have z8 := hX3.cell 8
        have g7 := hX3.frozen 7
        have hXl3 := hX3.lt
        simp at z7 z8
        have H3 := hide (herr.out _ _ _ hX3 hb3)
        clear hX3 hb3 hT3 x5 x7 x8 t3 f7
        go_wp2_with (fail)
        go_loopw [15] (fun i wr => i = .int .i64 0 ∧ wr = w3) (fun _ _ => 0)
        case atStart => exact ⟨rfl, rfl⟩
        case round =>
          obtain ⟨rfl, rfl⟩ := hrel
          go_wp2
          go_end0
          rw [HNX.out, hrx.out]
          exact H3.out
      · have hrx := hide (hrx0.trans (if_neg hlt))
        have hu4 : decide (r1 < nx) = false := by rw [decide_eq_false_iff_not]; exact hlt
        clear hrx0 hlt
        have HF2 := hide (Fr.below (X := X) (D := D) (HW2.out) hβ)
        go_wp2_with (fail)
        go_loopw [15] (fun i wr => ∃ (j : Nat) (vj : Value), j ≤ N ∧ i = .int .i64 j ∧ Blk wr X RSt (rst r) ∧ Blk wr D 123 #[.int .i64 d1, .int .i64 d2, .int .i64 d3, .int .i64 d4, vj] ∧ Own wr β 39 3 mc vj (ms ++ mapsR (r1, r2, (N : Int), r4) j) ∧ Fr X D β w wr) (fun i _ => N - (intOf i).toNat)
        case atStart => exact ⟨0, _, Nat.zero_le _, rfl, HX2.out, HD2.out, by simpa [mapsR] using HM2.out, HF2.out⟩
        case round =>
          obtain ⟨j, vj, hj, rfl, hX5, hD5, hM5, hF5⟩ := hrel
          have hs5 := hF5.size
          have y7 := hX5.cell 7
          have y8 := hX5.cell 8
          have k7 := hX5.frozen 7
          have hXl5 := hX5.lt
          have hDl5 := hD5.lt
          simp at y7 y8
          rw [he] at y8
          obtain ⟨Aj, nj, cj, rfl, hnj, -⟩ := hM5.rd mc_len'
          have e4 := hD5.cell 4
          have e4f := hD5.frozen 4
          simp at e4
          have HX5 := hide hX5; have HD5 := hide hD5; have HM5 := hide hM5; have HF5 := hide hF5
          have hnjl : nj ≤ 5016384 := by
            rw [hnj, List.length_append, mapsR_len]
            omega
          clear hX5 hD5 hM5 hF5 hnj
          by_cases hjn : j < N
          · have hjt : decide ((j : Int) < (N : Int)) = true := by rw [decide_eq_true_eq]; omega
            have k1 : IntKind.i64.wrap (r1 + (j : Int)) = r1 + (j : Int) := IntWalk.i64_in _ (by omega)
            have k2 : IntKind.i64.wrap (r2 + (j : Int)) = r2 + (j : Int) := IntWalk.i64_in _ (by omega)
            obtain ⟨lj, hlj⟩ : ∃ lj, ms ++ mapsR (r1, r2, (N : Int), r4) j = lj := ⟨_, rfl⟩
            have HM5 := hide (hlj ▸ HM5.out)
            have hljl : lj.length ≤ 5016384 := by rw [← hlj, List.length_append, mapsR_len]; omega
            have HLJ := hide (show lj ++ [(r1 + (j : Int), r2 + (j : Int), r4)] = ms ++ mapsR (r1, r2, (N : Int), r4) (j + 1) by
              rw [mapsR_succ, ← List.append_assoc, hlj]; rfl)
            clear hlj
            go_wp2_with (at_builtin; go_must (refine wpList_append1 _ rfl (.tmp 89) (.tmp 98) _ rfl Try.underlying22 infoMpg rfl (by decide) mc_len' mc_one' (base := β) (l := lj) rfl ?_ (r1 + (j : Int), r2 + (j : Int), r4) wr.heap.size 1 rfl ?_ ?_ ?_ ?_ ?_))
            · exact (by repeat (first | exact HM5.out | refine Own.alloc ?_ _ | refine Own.drewN ?_ _ | refine Own.drew ?_))
            · first | exact ⟨_, _, heap_new_at rfl⟩ | exact ⟨_, by simp [World.alloc]⟩ | (simp [World.alloc]; done)
            · omega
            · omega
            · first | omega | (simp; omega)
            · intro gn cap2 w6 hO6 hg6 hat6 hlt6
              have hX6 := (HX5.out.alloc (.cells #[.int .i64 (r1 + (j : Int)), .int .i64 (r2 + (j : Int)), .int .i64 r4] 39)).grown hg6 (Ne.symm (own_blk_ne HM5.out HX5.out (by decide)))
              have hD6 := (HD5.out.alloc (.cells #[.int .i64 (r1 + (j : Int)), .int .i64 (r2 + (j : Int)), .int .i64 r4] 39)).grown hg6 (Ne.symm (own_blk_ne HM5.out HD5.out (by decide)))
              have hF6 := (HF5.out.alloc (by omega) (.cells #[.int .i64 (r1 + (j : Int)), .int .i64 (r2 + (j : Int)), .int .i64 r4] 39)).grown hg6 (by simp; omega) (own_maprow (HM5.out.alloc _))
              have q4 := hD6.cell 4
              have q4f := hD6.frozen 4
              have hDl6 := hD6.lt
              simp at q4
              have hX7 := hide (hX6.far (p := ⟨D, 4, none⟩) (by dsimp only; omega) (.slice (some ⟨gn, 0, none⟩) (lj.length + 1) cap2))
              have hD7 := hide (show Blk (w6.setCell ⟨D, 4, none⟩ (.slice (some ⟨gn, 0, none⟩) (lj.length + 1) cap2)) D 123 #[.int .i64 d1, .int .i64 d2, .int .i64 d3, .int .i64 d4, .slice (some ⟨gn, 0, none⟩) (lj.length + 1) cap2] by simpa using hD6.set_ 4 (.slice (some ⟨gn, 0, none⟩) (lj.length + 1) cap2))
              have hM7 := hide (show Own (w6.setCell ⟨D, 4, none⟩ (.slice (some ⟨gn, 0, none⟩) (lj.length + 1) cap2)) β 39 3 mc (.slice (some ⟨gn, 0, none⟩) (lj.length + 1) cap2) (ms ++ mapsR (r1, r2, (N : Int), r4) (j + 1)) by
                have h1 := hO6.setCell (p := ⟨D, 4, none⟩) (own_blk_ne hO6 hD6 (by decide)) (.slice (some ⟨gn, 0, none⟩) (lj.length + 1) cap2)
                rw [← HLJ.out]
                exact h1)
              have hF7 := hide (hF6.setD 4 (.slice (some ⟨gn, 0, none⟩) (lj.length + 1) cap2))
              clear hO6 hg6 hX6 hD6 hF6 e4 e4f y7 y8 k7 hat6 hlt6
              go_wp2
              go_roundw
              case rel => exact ⟨j + 1, _, by omega, by go_num, hX7.out, hD7.out, hM7.out, hF7.out⟩
              case measure => simp [intOf]; omega
          · have hjj : j = N := by omega
            have hjt : decide ((j : Int) < (N : Int)) = false := by rw [decide_eq_false_iff_not]; omega
            subst hjj
            have hfin := hide (show RRun X D β r d1 d2 d3 d4 ms (r1, r2, (j : Int), r4) w none (.returned (.tuple #[])) (wr.setCell ⟨X, 7, none⟩ (.int .i64 (r.sum + (j : Int)))) from
              ⟨rfl, _, by simpa using HX5.out.set_ 7 (.int .i64 (r.sum + (j : Int))), HD5.out.far (p := ⟨X, 7, none⟩) (by dsimp only; omega) _, HM5.out.setCell (p := ⟨X, 7, none⟩) (own_blk_ne HM5.out HX5.out (by decide)) _, HF5.out.setX 7 _⟩)
            go_wp2
            go_end0
            rw [HNX.out, hrx.out]
            exact hfin.out
end Go.Proofs.Ytcblakflhheepaa
