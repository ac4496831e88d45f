/- Chapter 43: the reference's runs. -/
import Derived.Test.YtcblakflhheepaaRefD
import Derived.Deep.RegionWith
namespace Go.Proofs.Ytcblakflhheepaa
open Go.RowKit
set_option linter.unusedVariables false
set_option linter.unusedSimpArgs false

theorem RdI.tail {w : World} {B b off : Nat} {t : Ti} {L : List Ti} (h : RdI w B (some ⟨b, off, none⟩) (t :: L)) : RdI w B (some ⟨b, off + 4, none⟩) L := by
  intro i x hx
  obtain ⟨b', off', A', cap, h1, h2, c0, c1, c2, c3, hr⟩ := h (i + 1) x (by simpa using hx)
  injection h1 with h1
  injection h1 with h3 h4
  subst h3; subst h4
  have e : b = b ∧ off + (i + 1) * 4 = off + 4 + i * 4 := ⟨rfl, by omega⟩
  rw [e.2] at c0 c1 c2 c3
  exact ⟨b, off + 4, A', cap, rfl, h2, c0, c1, c2, c3, hr⟩
/-- The reference's state: its tags, no error yet. -/
def ROk (X : Nat) (r : Rh) (T : List Ti) (sum : Int) (w : World) : Prop :=
  ∃ A cap, T.length ≤ cap ∧ Blk w X RSt (rst { r with lv := .slice A T.length cap, sum := sum, e := 0 }) ∧ RdI w X A T
/-- .. with an error. -/
def RErr (X : Nat) (N p c : Int) (w : World) : Prop :=
  c ≠ 0 ∧ ∃ (r : Rh) (T : List Ti) (A : Option Addr) (cap : Nat), r.N = N ∧ r.e = c ∧ r.at_ = p ∧ T.length ≤ 5000000 ∧ r.lv = .slice A T.length cap ∧ Blk w X RSt (rst r) ∧ RdI w X A T
def RRunsOut (X D β : Nat) (r : Rh) (d1 d2 d3 d4 : Int) (w : World) (R : Except (Int × Int) (Int × List Mp × List Ti)) (e : Ending) (w' : World) : Prop :=
  e = .returned (.tuple #[]) ∧ Fr X D β w w' ∧ match R with
    | .error (p, c) => RErr X r.N p c w'
    | .ok (sum, ms, T) => ∃ vm, ROk X r T sum w' ∧ Blk w' D 123 #[.int .i64 d1, .int .i64 d2, .int .i64 d3, .int .i64 d4, vm] ∧ Own w' β 39 3 mc vm ms
theorem runsX_nil {data sum : Int} {ms : List Mp} : runsX data sum ms [] = .ok (sum, ms, []) := rfl
theorem runsX_cons {data sum : Int} {ms : List Mp} {t : Ti} {L : List Ti} : runsX data sum ms (t :: L) = if isRunT t then
      match numsL false (kOf t.2.1) t.2.2.2 t.2.2.1 [] with
      | .error e => .error e
      | .ok o => match runX sum data (lastV (-1) ms + 1) t.2.2.2 (rnOf t.2.1 o) with
        | some e => .error e
        | none => runsX data (sum + (rnOf t.2.1 o).2.2.1) (ms ++ mapsR (rnOf t.2.1 o) (rnOf t.2.1 o).2.2.1.toNat) L
    else .ok (sum, ms, t :: L) := rfl
abbrev RTg : TypeId := 91
theorem rd1_at {w : World} {B b off : Nat} {l : List Int} (h : Rd w B 1 ic1 (some ⟨b, off, none⟩) l) {i : Nat} {n : Int} (hi : l[i]? = some n) : w.cell? ⟨b, off + i, none⟩ = some (.int .i64 n) := by
  obtain ⟨b', off', h1, h2, hc⟩ := h i n hi
  injection h1 with h1
  injection h1 with h3 h4
  subst h3; subst h4
  have := hc 0 _ rfl
  simpa using this
theorem runX_err {sum data nx at_ p c : Int} {r : Rn} (h : runX sum data nx at_ r = some (p, c)) : c ≠ 0 := by
  unfold runX at h
  split at h
  · injection h with h; injection h with h1 h2; omega
  · split at h
    · injection h with h; injection h with h1 h2; omega
    · cases h
theorem runX_none {sum data nx at_ : Int} {r : Rn} (h : runX sum data nx at_ r = none) : r.1 + r.2.2.1 - 1 ≤ 281474976710655 ∧ r.2.1 + r.2.2.1 - 1 < data ∧ sum + r.2.2.1 ≤ 16384 := by
  unfold runX at h
  split at h
  · cases h
  · omega
theorem mapsR_key {ms : List Mp} {r : Rn} (h : ∀ m ∈ ms, 0 ≤ m.1 ∧ m.1 ≤ 281474976710655) (h1 : 0 ≤ r.1) (h2 : r.1 + r.2.2.1 - 1 ≤ 281474976710655) : ∀ m ∈ ms ++ mapsR r r.2.2.1.toNat, 0 ≤ m.1 ∧ m.1 ≤ 281474976710655 := by
  intro m hm
  rcases List.mem_append.1 hm with hm | hm
  · exact h m hm
  · simp only [mapsR, List.mem_map, List.mem_range] at hm
    obtain ⟨j, hj, rfl⟩ := hm
    simp only [nextM, mOf]
    omega
/-- Tags that are not too great. -/
def TMild (T : List Ti) : Prop := T.length ≤ 5000000 ∧ ∀ t ∈ T, t.2.2.1.length ≤ 5000000 ∧ ∀ a ∈ t.2.2.1, a.2.1.size ≤ 5000000
set_option maxRecDepth 100000 in
set_option maxHeartbeats 8000000 in
theorem rruns_any (X D β : Nat) (r : Rh) (d1 d2 d3 d4 : Int) (vm : Value) (T0 : List Ti) (sum0 : Int) (w : World) (hO : ROk X r T0 sum0 w) (hD : Blk w D 123 #[.int .i64 d1, .int .i64 d2, .int .i64 d3, .int .i64 d4, vm])
    (hM : Own w β 39 3 mc vm ([] : List Mp)) (hβ : β ≤ w.heap.size) (hXD : X < D) (hXβ : X < β) (hda : 0 ≤ r.da ∧ r.da ≤ 65536) (hsum : 0 ≤ sum0 ∧ sum0 ≤ 16384) (hT : TMild T0) :
    Calls Try.prog 92 #[.pointer (some ⟨X, 0, none⟩), .pointer (some ⟨D, 0, none⟩)] w (RRunsOut X D β r d1 d2 d3 d4 w (runsX r.da sum0 [] T0)) := by
  have HO0 := hide hO; have HD0 := hide hD; have HM0 := hide hM
  have hDl := hD.lt
  clear hO hD hM
  go_enter Try.func92, Try.ntmps92
  go_wp2_with (fail)
  go_loopg [7] (T0.length + 1) (fun g x wr => Fr X D β w wr ∧ ((∃ (T : List Ti) (sum : Int) (ms : List Mp) (vm : Value), T.length < g ∧ TMild T ∧ (0 ≤ sum ∧ sum ≤ 16384) ∧ ms.length ≤ 16384 ∧ (∀ m ∈ ms, 0 ≤ m.1 ∧ m.1 ≤ 281474976710655) ∧ ROk X r T sum wr ∧ Blk wr D 123 #[.int .i64 d1, .int .i64 d2, .int .i64 d3, .int .i64 d4, vm] ∧ Own wr β 39 3 mc vm ms ∧ (ms.length : Int) + sum0 = sum ∧ runsX r.da sum0 [] T0 = runsX r.da sum ms T) ∨
    ∃ p c, runsX r.da sum0 [] T0 = .error (p, c) ∧ RErr X r.N p c wr))
  case atStart => exact ⟨Fr.refl _ _ _ _, .inl ⟨T0, sum0, [], vm, by omega, hT, hsum, by simp, by simp, HO0.out, HD0.out, HM0.out, by simp, rfl⟩⟩
  case round =>
    obtain ⟨hF, hst⟩ := hrel
    have hFs := hF.size
    have HF := hide hF
    clear hF
    rcases hst with ⟨T, sum, ms, vm, hTg, hTM, hsm, hml, hmv, ⟨A, cap, hcap, hX, hI⟩, hD, hM, hms, hR⟩ | ⟨p, c, hR, hc0, r', T, A, cap, hN, he, hat, hTl, hlv, hX, hI⟩
    · have hXl := hX.lt
      have hwX : X ≤ wr.heap.size := by omega
      by_cases hnr : (∃ t L, T = t :: L ∧ isRunT t = true)
      · obtain ⟨t, L, rfl, hrun⟩ := hnr
        simp only [isRunT, Bool.and_eq_true, decide_eq_true_eq, Bool.or_eq_true] at hrun
        obtain ⟨hk3, hnm⟩ := hrun
        have hT5 := hTM.1
        obtain ⟨b, off, A', cap', rfl, hbB, c0, c1, c2, c3, hr⟩ := hI 0 t rfl
        have hbl : b < wr.heap.size := by omega
        have hRc := hR.trans (runsX_cons.trans (if_pos (by simp only [isRunT, Bool.and_eq_true, decide_eq_true_eq, Bool.or_eq_true]; exact ⟨hk3, hnm⟩)))
        have HRC := hide hRc
        have hIt := hide hI.tail
        have HTM := hide hTM
        simp at c0 c1 c2 c3 hT5
        rcases hnm with hnm | hnm
        · have hsn := isSin_eq hnm
          obtain ⟨kd, nm, ats, at_⟩ := t
          dsimp only at hk3 hsn c0 c1 c2 c3 hr
          subst hsn
          subst hk3
          have h1 := hide (ris_any X X _ _ cap _ 3 sSingle true wr hX rfl hI hwX hTM.1 (by unfold isR; simp))
          have x0 := hX.cell 0
          have x0f := hX.frozen 0
          have x8 := hX.cell 8
          simp at x0 x8
          have HX := hide hX
          have HRd := hide hr
          have HDd := hide hD
          have HMm := hide hM
          have HMV := hide hmv
          clear hX hI hR hRc hnm hr hD hM hmv
          have hg2 := hTg
          simp only [List.length_cons] at hg2
          go_wp2_with (fail)
          refine h1.out.mono ?_
          rintro e w4 ⟨rfl, hw4⟩
          have hw5 := hw4.symm
          subst hw5
          clear hw4
          by_cases hcap1 : cap = 1
          · subst hcap1
            obtain rfl : L = [] := List.eq_nil_of_length_eq_zero (by have := hcap; simp only [List.length_cons] at this; omega)
            have hX5 : Blk (((((wr.setCell ⟨X, 0, none⟩ (.slice (some ⟨b, off, none⟩) 0 0)).alloc (.cells #[.int .i64 3, .string sSingle, .slice A' ats.length cap', .int .i64 at_] RTg)).alloc (.cells #[.string sOBlock, .string sDBlock, .string sTime] 9)).alloc (.cells #[.int .i64 0, .int .i64 0, .int .i64 0] 3)).alloc (.cells #[.int .i64 281474976710655, .int .i64 65535, .int .i64 16777215] 3)) X RSt (rst { r with lv := (.slice (some ⟨b, off, none⟩) 0 0), sum := sum, e := 0 }) := by simpa using ((((HX.out.set_ 0 (.slice (some ⟨b, off, none⟩) 0 0)).alloc (.cells #[.int .i64 3, .string sSingle, .slice A' ats.length cap', .int .i64 at_] RTg)).alloc (.cells #[.string sOBlock, .string sDBlock, .string sTime] 9)).alloc (.cells #[.int .i64 0, .int .i64 0, .int .i64 0] 3)).alloc (.cells #[.int .i64 281474976710655, .int .i64 65535, .int .i64 16777215] 3)
            have hD5 : Blk (((((wr.setCell ⟨X, 0, none⟩ (.slice (some ⟨b, off, none⟩) 0 0)).alloc (.cells #[.int .i64 3, .string sSingle, .slice A' ats.length cap', .int .i64 at_] RTg)).alloc (.cells #[.string sOBlock, .string sDBlock, .string sTime] 9)).alloc (.cells #[.int .i64 0, .int .i64 0, .int .i64 0] 3)).alloc (.cells #[.int .i64 281474976710655, .int .i64 65535, .int .i64 16777215] 3)) D 123 #[.int .i64 d1, .int .i64 d2, .int .i64 d3, .int .i64 d4, vm] := ((((HDd.out.far (p := ⟨X, 0, none⟩) (by dsimp only; omega) (.slice (some ⟨b, off, none⟩) 0 0)).alloc (.cells #[.int .i64 3, .string sSingle, .slice A' ats.length cap', .int .i64 at_] RTg)).alloc (.cells #[.string sOBlock, .string sDBlock, .string sTime] 9)).alloc (.cells #[.int .i64 0, .int .i64 0, .int .i64 0] 3)).alloc (.cells #[.int .i64 281474976710655, .int .i64 65535, .int .i64 16777215] 3)
            have hM5 : Own (((((wr.setCell ⟨X, 0, none⟩ (.slice (some ⟨b, off, none⟩) 0 0)).alloc (.cells #[.int .i64 3, .string sSingle, .slice A' ats.length cap', .int .i64 at_] RTg)).alloc (.cells #[.string sOBlock, .string sDBlock, .string sTime] 9)).alloc (.cells #[.int .i64 0, .int .i64 0, .int .i64 0] 3)).alloc (.cells #[.int .i64 281474976710655, .int .i64 65535, .int .i64 16777215] 3)) β 39 3 mc vm ms := ((((HMm.out.setCell (p := ⟨X, 0, none⟩) (own_blk_ne HMm.out HX.out (by decide)) (.slice (some ⟨b, off, none⟩) 0 0)).alloc (.cells #[.int .i64 3, .string sSingle, .slice A' ats.length cap', .int .i64 at_] RTg)).alloc (.cells #[.string sOBlock, .string sDBlock, .string sTime] 9)).alloc (.cells #[.int .i64 0, .int .i64 0, .int .i64 0] 3)).alloc (.cells #[.int .i64 281474976710655, .int .i64 65535, .int .i64 16777215] 3)
            have hT5 : Blk (((((wr.setCell ⟨X, 0, none⟩ (.slice (some ⟨b, off, none⟩) 0 0)).alloc (.cells #[.int .i64 3, .string sSingle, .slice A' ats.length cap', .int .i64 at_] RTg)).alloc (.cells #[.string sOBlock, .string sDBlock, .string sTime] 9)).alloc (.cells #[.int .i64 0, .int .i64 0, .int .i64 0] 3)).alloc (.cells #[.int .i64 281474976710655, .int .i64 65535, .int .i64 16777215] 3)) wr.heap.size RTg #[.int .i64 3, .string sSingle, .slice A' ats.length cap', .int .i64 at_] := (((show Blk ((wr.setCell ⟨X, 0, none⟩ (.slice (some ⟨b, off, none⟩) 0 0)).alloc (.cells #[.int .i64 3, .string sSingle, .slice A' ats.length cap', .int .i64 at_] RTg)) wr.heap.size _ _ from heap_new_at (by simp)).alloc (.cells #[.string sOBlock, .string sDBlock, .string sTime] 9)).alloc (.cells #[.int .i64 0, .int .i64 0, .int .i64 0] 3)).alloc (.cells #[.int .i64 281474976710655, .int .i64 65535, .int .i64 16777215] 3)
            have hn5 : Blk (((((wr.setCell ⟨X, 0, none⟩ (.slice (some ⟨b, off, none⟩) 0 0)).alloc (.cells #[.int .i64 3, .string sSingle, .slice A' ats.length cap', .int .i64 at_] RTg)).alloc (.cells #[.string sOBlock, .string sDBlock, .string sTime] 9)).alloc (.cells #[.int .i64 0, .int .i64 0, .int .i64 0] 3)).alloc (.cells #[.int .i64 281474976710655, .int .i64 65535, .int .i64 16777215] 3)) (wr.heap.size + 1) 9 (((kSingle.map (·.1)).map fun x => Value.string x).toArray) := ((show Blk (((wr.setCell ⟨X, 0, none⟩ (.slice (some ⟨b, off, none⟩) 0 0)).alloc (.cells #[.int .i64 3, .string sSingle, .slice A' ats.length cap', .int .i64 at_] RTg)).alloc (.cells #[.string sOBlock, .string sDBlock, .string sTime] 9)) (wr.heap.size + 1) _ _ from heap_new_at (by simp)).alloc (.cells #[.int .i64 0, .int .i64 0, .int .i64 0] 3)).alloc (.cells #[.int .i64 281474976710655, .int .i64 65535, .int .i64 16777215] 3)
            have hl5 : Blk (((((wr.setCell ⟨X, 0, none⟩ (.slice (some ⟨b, off, none⟩) 0 0)).alloc (.cells #[.int .i64 3, .string sSingle, .slice A' ats.length cap', .int .i64 at_] RTg)).alloc (.cells #[.string sOBlock, .string sDBlock, .string sTime] 9)).alloc (.cells #[.int .i64 0, .int .i64 0, .int .i64 0] 3)).alloc (.cells #[.int .i64 281474976710655, .int .i64 65535, .int .i64 16777215] 3)) (wr.heap.size + 1 + 1) 3 (((kSingle.map (·.2.1)).map fun x => Value.int .i64 x).toArray) := (show Blk ((((wr.setCell ⟨X, 0, none⟩ (.slice (some ⟨b, off, none⟩) 0 0)).alloc (.cells #[.int .i64 3, .string sSingle, .slice A' ats.length cap', .int .i64 at_] RTg)).alloc (.cells #[.string sOBlock, .string sDBlock, .string sTime] 9)).alloc (.cells #[.int .i64 0, .int .i64 0, .int .i64 0] 3)) (wr.heap.size + 1 + 1) _ _ from heap_new_at (by simp)).alloc (.cells #[.int .i64 281474976710655, .int .i64 65535, .int .i64 16777215] 3)
            have hh5 : Blk (((((wr.setCell ⟨X, 0, none⟩ (.slice (some ⟨b, off, none⟩) 0 0)).alloc (.cells #[.int .i64 3, .string sSingle, .slice A' ats.length cap', .int .i64 at_] RTg)).alloc (.cells #[.string sOBlock, .string sDBlock, .string sTime] 9)).alloc (.cells #[.int .i64 0, .int .i64 0, .int .i64 0] 3)).alloc (.cells #[.int .i64 281474976710655, .int .i64 65535, .int .i64 16777215] 3)) (wr.heap.size + 1 + 1 + 1) 3 (((kSingle.map (·.2.2)).map fun x => Value.int .i64 x).toArray) := heap_new_at (by simp)
            have hF5 : Fr X D β w (((((wr.setCell ⟨X, 0, none⟩ (.slice (some ⟨b, off, none⟩) 0 0)).alloc (.cells #[.int .i64 3, .string sSingle, .slice A' ats.length cap', .int .i64 at_] RTg)).alloc (.cells #[.string sOBlock, .string sDBlock, .string sTime] 9)).alloc (.cells #[.int .i64 0, .int .i64 0, .int .i64 0] 3)).alloc (.cells #[.int .i64 281474976710655, .int .i64 65535, .int .i64 16777215] 3)) := ((((HF.out.setX 0 (.slice (some ⟨b, off, none⟩) 0 0)).alloc (by simp; omega) (.cells #[.int .i64 3, .string sSingle, .slice A' ats.length cap', .int .i64 at_] RTg)).alloc (by simp; omega) (.cells #[.string sOBlock, .string sDBlock, .string sTime] 9)).alloc (by simp; omega) (.cells #[.int .i64 0, .int .i64 0, .int .i64 0] 3)).alloc (by simp; omega) (.cells #[.int .i64 281474976710655, .int .i64 65535, .int .i64 16777215] 3)
            have hb5 : Below X wr (((((wr.setCell ⟨X, 0, none⟩ (.slice (some ⟨b, off, none⟩) 0 0)).alloc (.cells #[.int .i64 3, .string sSingle, .slice A' ats.length cap', .int .i64 at_] RTg)).alloc (.cells #[.string sOBlock, .string sDBlock, .string sTime] 9)).alloc (.cells #[.int .i64 0, .int .i64 0, .int .i64 0] 3)).alloc (.cells #[.int .i64 281474976710655, .int .i64 65535, .int .i64 16777215] 3)) := (((((Below.refl X wr).setCell (p := ⟨X, 0, none⟩) (Nat.le_refl X) (.slice (some ⟨b, off, none⟩) 0 0)).alloc (by simp; omega) (.cells #[.int .i64 3, .string sSingle, .slice A' ats.length cap', .int .i64 at_] RTg)).alloc (by simp; omega) (.cells #[.string sOBlock, .string sDBlock, .string sTime] 9)).alloc (by simp; omega) (.cells #[.int .i64 0, .int .i64 0, .int .i64 0] 3)).alloc (by simp; omega) (.cells #[.int .i64 281474976710655, .int .i64 65535, .int .i64 16777215] 3)
            generalize hW5 : (((((wr.setCell ⟨X, 0, none⟩ (.slice (some ⟨b, off, none⟩) 0 0)).alloc (.cells #[.int .i64 3, .string sSingle, .slice A' ats.length cap', .int .i64 at_] RTg)).alloc (.cells #[.string sOBlock, .string sDBlock, .string sTime] 9)).alloc (.cells #[.int .i64 0, .int .i64 0, .int .i64 0] 3)).alloc (.cells #[.int .i64 281474976710655, .int .i64 65535, .int .i64 16777215] 3)) = w5 at *
            have hs5 := hb5.size
            have hI5 : RdI w5 X (some ⟨b, off, none⟩) ([] : List Ti) := by
              exact RdI.nil _ _ _
            have hr5 := (HRd.out.below hb5).mono (show X ≤ w5.heap.size by omega)
            have HC := hide (rnumbers_any X _ (3, sSingle, ats, at_) kSingle A' (some ⟨wr.heap.size + 1, 0, none⟩) (some ⟨wr.heap.size + 1 + 1, 0, none⟩) (some ⟨wr.heap.size + 1 + 1 + 1, 0, none⟩) cap' 3 3 3 false w5 hX5 rfl (by decide) (by decide)
              hr5 (HTM.out.2 _ (by simp)).1 (HTM.out.2 _ (by simp)).2 (rd_blk (v := fun x : ByteArray => Value.string x) hn5) (rd_blk (v := fun x : Int => Value.int .i64 x) hl5) (rd_blk (v := fun x : Int => Value.int .i64 x) hh5) isSup_1)
            have HX5 := hide hX5; have HD5 := hide hD5; have HM5 := hide hM5; have HT5 := hide hT5; have HF5 := hide hF5; have HI5 := hide hI5
            have hkk : kOf sSingle = kSingle := by simp [kOf, isSup_1, isDev_1, isSin_1]
            have hrc := HRC.out
            try dsimp only at hrc
            rw [hkk] at hrc
            obtain ⟨R, hRR⟩ : ∃ R, numsL false kSingle at_ ats [] = R := ⟨_, rfl⟩
            rw [hRR] at hrc
            have hcc := HC.out
            try dsimp only at hcc
            rw [hRR] at hcc
            have HCC := hide hcc
            have HR2 := hide hrc
            have HRR := hide hRR
            have HW5 := hide hW5
            clear hX5 hD5 hM5 hT5 hn5 hl5 hh5 hF5 hb5 hI5 hr5 HC hrc hcc hRR HRC hW5
            go_wp2_with (fail)
            rw [HW5.out]
            refine HCC.out.mono ?_
            intro e w6 hN
            cases R with
            | error pc =>
              obtain ⟨p, c⟩ := pc
              obtain ⟨g6, ns, hg6, rfl, hnl, hR6, hX6, hb6⟩ := hN
              have hc0 : c ≠ 0 := by have := (numsL_err HRR.out).1; omega
              have z8 := hX6.cell 8
              have hXl6 := hX6.lt
              simp at z8
              have hce : (c == 0) = false := by simpa using hc0
              have H9 := hide (show Fr X D β w w6 ∧ RErr X r.N p c w6 from ⟨HF5.out.trans (Fr.of hb6 (by omega)), hc0, { r with lv := (.slice (some ⟨b, off, none⟩) 0 0), sum := sum, e := c, at_ := p }, ([] : List Ti), (some ⟨b, off, none⟩), 0, rfl, rfl, rfl, by omega, rfl, hX6, HI5.out.below (hb6.below (by omega) (Nat.le_refl X))⟩)
              clear hX6 hb6 hR6 c0 c1 c2 c3 x0 x0f x8
              go_wp2
              go_roundg (gk - 1)
              case measure => omega
              case rel => exact ⟨H9.out.1, .inr ⟨p, c, HR2.out, H9.out.2⟩⟩
            | ok o =>
              obtain ⟨g6, hg6, rfl, hR6, hb6⟩ := hN
              have hnb := hR6.lt
              simp only [show kSingle.length = 3 from rfl]
              have n0 : w6.cell? ⟨g6, 0, none⟩ = some (.int .i64 (gv o sOBlock)) := hR6.cell 0
              have n1 : w6.cell? ⟨g6, 1, none⟩ = some (.int .i64 (gv o sDBlock)) := hR6.cell 1
              have n2 : w6.cell? ⟨g6, 2, none⟩ = some (.int .i64 (gv o sTime)) := hR6.cell 2
              have hX6 := HX5.out.below hb6 HX5.out.lt
              have hD6 := HD5.out.below hb6 HD5.out.lt
              have hM6 := HM5.out.below hb6 (fun q hq => (HM5.out.lt q hq).2)
              have hT6 := HT5.out.below hb6 HT5.out.lt
              have hF6 := HF5.out.trans (Fr.below hb6 (by omega))
              have hI6 := HI5.out.below (hb6.mono (show X ≤ w5.heap.size by omega))
              have hs6 := hb6.size
              have z8 := hX6.cell 8
              have hXl6 := hX6.lt
              have t0 := hT6.cell 0
              have t1 := hT6.cell 1
              have t2 := hT6.cell 2
              have t3 := hT6.cell 3
              have hTl6 := hT6.lt
              simp at z8 t0 t1 t2 t3
              have hbd := one_ok (at_ := at_) (ats := ats) (out := o) (by rw [isSup_1, hkk]; exact HRR.out)
              have hro : rnOf sSingle o = oneRn o := by unfold rnOf; rw [if_pos isSin_1]
              have hrc := HR2.out
              try dsimp only at hrc
              rw [hro] at hrc
              obtain ⟨q, hq⟩ : ∃ q, runX sum r.da (lastV (-1) ms + 1) at_ (oneRn o) = q := ⟨_, rfl⟩
              rw [hq] at hrc
              have hcall := fun (wz : World) (h1 : Blk wz X RSt _) (h2 : Blk wz D 123 _) (h3 : Own wz β 39 3 mc vm ms) (h4 : β ≤ wz.heap.size) => rrun_any X D β _ 3 at_ sSingle (.slice A' ats.length cap') (oneRn o) d1 d2 d3 d4 vm ms wz h1 (show (({ r with lv := (.slice (some ⟨b, off, none⟩) 0 0), sum := sum, e := 0 } : Rh)).e = 0 from rfl) h2 h3 h4 (by omega) hda hsm (by omega) HMV.out ⟨hbd.1.1, hbd.1.2.1, hbd.2.1, hbd.1.2.2.2⟩
              have HCALL := hide hcall
              have HRC3 := hide hrc
              have HQ := hide hq
              have HBD := hide hbd
              have HX6 := hide hX6.drew; have HD6 := hide hD6.drew; have HM6 := hide hM6.drew; have HF6 := hide hF6.drew; have HI6 := hide hI6
              clear hX6 hD6 hM6 hT6 hF6 hI6 hcall hrc hq hbd hR6 c0 c1 c2 c3 x0 x0f x8 hb6
              go_wp2_with (fail)
              go_still_tail 12, (by kernel_rfl)
              change wpList _ _ _ _ _ (World.drew _)
              go_wp2_with (fail)
              refine (HCALL.out _ HX6.out HD6.out HM6.out (by show β ≤ w6.heap.size; omega)).mono ?_
              rintro e w8 ⟨rfl, hrr⟩
              dsimp only at hrr
              rw [HQ.out] at hrr
              have hrr2 := hrr
              clear hrr
              cases q with
              | some pc =>
                obtain ⟨p, c⟩ := pc
                obtain ⟨hX8, hb8⟩ := hrr2
                have hc0 := runX_err HQ.out
                have H9 := hide (show Fr X D β w w8 ∧ RErr X r.N p c w8 from ⟨HF6.out.trans (Fr.of hb8 (by show β ≤ w6.heap.size; omega)), hc0, { r with lv := (.slice (some ⟨b, off, none⟩) 0 0), sum := sum + (oneRn o).2.2.1, e := c, at_ := p }, ([] : List Ti), (some ⟨b, off, none⟩), 0, rfl, rfl, rfl, by omega, rfl, hX8, RdI.below (show RdI w6.drew X (some ⟨b, off, none⟩) ([] : List Ti) from HI6.out) (hb8.below (show X ≤ w6.heap.size by omega) (Nat.le_refl X))⟩)
                clear hX8 hb8
                go_wp2
                go_roundg (gk - 1)
                case measure => omega
                case rel => exact ⟨H9.out.1, .inr ⟨p, c, HRC3.out, H9.out.2⟩⟩
              | none =>
                obtain ⟨vm8, hX8, hD8, hM8, hF8⟩ := hrr2
                obtain ⟨u1, u2, u3⟩ := runX_none HQ.out
                obtain ⟨⟨y1, y2, y3⟩, y4⟩ := HBD.out
                have hlow := hF8.low' (C := X) (Nat.le_refl X) (by omega) (by omega)
                have H9 := hide (show Fr X D β w w8 ∧ ROk X r ([] : List Ti) (sum + (oneRn o).2.2.1) w8 from ⟨HF6.out.trans hF8, (some ⟨b, off, none⟩), 0, by simp, hX8, RdI.below (show RdI w6.drew X (some ⟨b, off, none⟩) ([] : List Ti) from HI6.out) hlow⟩)
                have HD8 := hide hD8; have HM8 := hide hM8
                have hml2 : (ms ++ mapsR (oneRn o) (oneRn o).2.2.1.toNat).length = ms.length + (oneRn o).2.2.1.toNat := by rw [List.length_append, mapsR_len]
                have hmv2 := hide (mapsR_key HMV.out y1.1 u1)
                have HTL := hide (show TMild ([] : List Ti) from ⟨by have := HTM.out.1; simp only [List.length_cons] at this; simp, fun x hx => HTM.out.2 x (by simp [hx])⟩)
                clear hX8 hD8 hM8 hF8 hlow
                go_wp2
                go_roundg (gk - 1)
                case measure => omega
                case rel => exact ⟨H9.out.1, .inl ⟨([] : List Ti), _, _, vm8, by omega, HTL.out, by omega, by omega, hmv2.out, H9.out.2, HD8.out, HM8.out, by omega, HRC3.out⟩⟩
          · have i4 : ¬ cap - 1 = 0 := by have := hcap; simp only [List.length_cons] at this; omega
            have hX5 : Blk (((((wr.setCell ⟨X, 0, none⟩ (.slice (some ⟨b, off + 4, none⟩) L.length (cap - 1))).alloc (.cells #[.int .i64 3, .string sSingle, .slice A' ats.length cap', .int .i64 at_] RTg)).alloc (.cells #[.string sOBlock, .string sDBlock, .string sTime] 9)).alloc (.cells #[.int .i64 0, .int .i64 0, .int .i64 0] 3)).alloc (.cells #[.int .i64 281474976710655, .int .i64 65535, .int .i64 16777215] 3)) X RSt (rst { r with lv := (.slice (some ⟨b, off + 4, none⟩) L.length (cap - 1)), sum := sum, e := 0 }) := by simpa using ((((HX.out.set_ 0 (.slice (some ⟨b, off + 4, none⟩) L.length (cap - 1))).alloc (.cells #[.int .i64 3, .string sSingle, .slice A' ats.length cap', .int .i64 at_] RTg)).alloc (.cells #[.string sOBlock, .string sDBlock, .string sTime] 9)).alloc (.cells #[.int .i64 0, .int .i64 0, .int .i64 0] 3)).alloc (.cells #[.int .i64 281474976710655, .int .i64 65535, .int .i64 16777215] 3)
            have hD5 : Blk (((((wr.setCell ⟨X, 0, none⟩ (.slice (some ⟨b, off + 4, none⟩) L.length (cap - 1))).alloc (.cells #[.int .i64 3, .string sSingle, .slice A' ats.length cap', .int .i64 at_] RTg)).alloc (.cells #[.string sOBlock, .string sDBlock, .string sTime] 9)).alloc (.cells #[.int .i64 0, .int .i64 0, .int .i64 0] 3)).alloc (.cells #[.int .i64 281474976710655, .int .i64 65535, .int .i64 16777215] 3)) D 123 #[.int .i64 d1, .int .i64 d2, .int .i64 d3, .int .i64 d4, vm] := ((((HDd.out.far (p := ⟨X, 0, none⟩) (by dsimp only; omega) (.slice (some ⟨b, off + 4, none⟩) L.length (cap - 1))).alloc (.cells #[.int .i64 3, .string sSingle, .slice A' ats.length cap', .int .i64 at_] RTg)).alloc (.cells #[.string sOBlock, .string sDBlock, .string sTime] 9)).alloc (.cells #[.int .i64 0, .int .i64 0, .int .i64 0] 3)).alloc (.cells #[.int .i64 281474976710655, .int .i64 65535, .int .i64 16777215] 3)
            have hM5 : Own (((((wr.setCell ⟨X, 0, none⟩ (.slice (some ⟨b, off + 4, none⟩) L.length (cap - 1))).alloc (.cells #[.int .i64 3, .string sSingle, .slice A' ats.length cap', .int .i64 at_] RTg)).alloc (.cells #[.string sOBlock, .string sDBlock, .string sTime] 9)).alloc (.cells #[.int .i64 0, .int .i64 0, .int .i64 0] 3)).alloc (.cells #[.int .i64 281474976710655, .int .i64 65535, .int .i64 16777215] 3)) β 39 3 mc vm ms := ((((HMm.out.setCell (p := ⟨X, 0, none⟩) (own_blk_ne HMm.out HX.out (by decide)) (.slice (some ⟨b, off + 4, none⟩) L.length (cap - 1))).alloc (.cells #[.int .i64 3, .string sSingle, .slice A' ats.length cap', .int .i64 at_] RTg)).alloc (.cells #[.string sOBlock, .string sDBlock, .string sTime] 9)).alloc (.cells #[.int .i64 0, .int .i64 0, .int .i64 0] 3)).alloc (.cells #[.int .i64 281474976710655, .int .i64 65535, .int .i64 16777215] 3)
            have hT5 : Blk (((((wr.setCell ⟨X, 0, none⟩ (.slice (some ⟨b, off + 4, none⟩) L.length (cap - 1))).alloc (.cells #[.int .i64 3, .string sSingle, .slice A' ats.length cap', .int .i64 at_] RTg)).alloc (.cells #[.string sOBlock, .string sDBlock, .string sTime] 9)).alloc (.cells #[.int .i64 0, .int .i64 0, .int .i64 0] 3)).alloc (.cells #[.int .i64 281474976710655, .int .i64 65535, .int .i64 16777215] 3)) wr.heap.size RTg #[.int .i64 3, .string sSingle, .slice A' ats.length cap', .int .i64 at_] := (((show Blk ((wr.setCell ⟨X, 0, none⟩ (.slice (some ⟨b, off + 4, none⟩) L.length (cap - 1))).alloc (.cells #[.int .i64 3, .string sSingle, .slice A' ats.length cap', .int .i64 at_] RTg)) wr.heap.size _ _ from heap_new_at (by simp)).alloc (.cells #[.string sOBlock, .string sDBlock, .string sTime] 9)).alloc (.cells #[.int .i64 0, .int .i64 0, .int .i64 0] 3)).alloc (.cells #[.int .i64 281474976710655, .int .i64 65535, .int .i64 16777215] 3)
            have hn5 : Blk (((((wr.setCell ⟨X, 0, none⟩ (.slice (some ⟨b, off + 4, none⟩) L.length (cap - 1))).alloc (.cells #[.int .i64 3, .string sSingle, .slice A' ats.length cap', .int .i64 at_] RTg)).alloc (.cells #[.string sOBlock, .string sDBlock, .string sTime] 9)).alloc (.cells #[.int .i64 0, .int .i64 0, .int .i64 0] 3)).alloc (.cells #[.int .i64 281474976710655, .int .i64 65535, .int .i64 16777215] 3)) (wr.heap.size + 1) 9 (((kSingle.map (·.1)).map fun x => Value.string x).toArray) := ((show Blk (((wr.setCell ⟨X, 0, none⟩ (.slice (some ⟨b, off + 4, none⟩) L.length (cap - 1))).alloc (.cells #[.int .i64 3, .string sSingle, .slice A' ats.length cap', .int .i64 at_] RTg)).alloc (.cells #[.string sOBlock, .string sDBlock, .string sTime] 9)) (wr.heap.size + 1) _ _ from heap_new_at (by simp)).alloc (.cells #[.int .i64 0, .int .i64 0, .int .i64 0] 3)).alloc (.cells #[.int .i64 281474976710655, .int .i64 65535, .int .i64 16777215] 3)
            have hl5 : Blk (((((wr.setCell ⟨X, 0, none⟩ (.slice (some ⟨b, off + 4, none⟩) L.length (cap - 1))).alloc (.cells #[.int .i64 3, .string sSingle, .slice A' ats.length cap', .int .i64 at_] RTg)).alloc (.cells #[.string sOBlock, .string sDBlock, .string sTime] 9)).alloc (.cells #[.int .i64 0, .int .i64 0, .int .i64 0] 3)).alloc (.cells #[.int .i64 281474976710655, .int .i64 65535, .int .i64 16777215] 3)) (wr.heap.size + 1 + 1) 3 (((kSingle.map (·.2.1)).map fun x => Value.int .i64 x).toArray) := (show Blk ((((wr.setCell ⟨X, 0, none⟩ (.slice (some ⟨b, off + 4, none⟩) L.length (cap - 1))).alloc (.cells #[.int .i64 3, .string sSingle, .slice A' ats.length cap', .int .i64 at_] RTg)).alloc (.cells #[.string sOBlock, .string sDBlock, .string sTime] 9)).alloc (.cells #[.int .i64 0, .int .i64 0, .int .i64 0] 3)) (wr.heap.size + 1 + 1) _ _ from heap_new_at (by simp)).alloc (.cells #[.int .i64 281474976710655, .int .i64 65535, .int .i64 16777215] 3)
            have hh5 : Blk (((((wr.setCell ⟨X, 0, none⟩ (.slice (some ⟨b, off + 4, none⟩) L.length (cap - 1))).alloc (.cells #[.int .i64 3, .string sSingle, .slice A' ats.length cap', .int .i64 at_] RTg)).alloc (.cells #[.string sOBlock, .string sDBlock, .string sTime] 9)).alloc (.cells #[.int .i64 0, .int .i64 0, .int .i64 0] 3)).alloc (.cells #[.int .i64 281474976710655, .int .i64 65535, .int .i64 16777215] 3)) (wr.heap.size + 1 + 1 + 1) 3 (((kSingle.map (·.2.2)).map fun x => Value.int .i64 x).toArray) := heap_new_at (by simp)
            have hF5 : Fr X D β w (((((wr.setCell ⟨X, 0, none⟩ (.slice (some ⟨b, off + 4, none⟩) L.length (cap - 1))).alloc (.cells #[.int .i64 3, .string sSingle, .slice A' ats.length cap', .int .i64 at_] RTg)).alloc (.cells #[.string sOBlock, .string sDBlock, .string sTime] 9)).alloc (.cells #[.int .i64 0, .int .i64 0, .int .i64 0] 3)).alloc (.cells #[.int .i64 281474976710655, .int .i64 65535, .int .i64 16777215] 3)) := ((((HF.out.setX 0 (.slice (some ⟨b, off + 4, none⟩) L.length (cap - 1))).alloc (by simp; omega) (.cells #[.int .i64 3, .string sSingle, .slice A' ats.length cap', .int .i64 at_] RTg)).alloc (by simp; omega) (.cells #[.string sOBlock, .string sDBlock, .string sTime] 9)).alloc (by simp; omega) (.cells #[.int .i64 0, .int .i64 0, .int .i64 0] 3)).alloc (by simp; omega) (.cells #[.int .i64 281474976710655, .int .i64 65535, .int .i64 16777215] 3)
            have hb5 : Below X wr (((((wr.setCell ⟨X, 0, none⟩ (.slice (some ⟨b, off + 4, none⟩) L.length (cap - 1))).alloc (.cells #[.int .i64 3, .string sSingle, .slice A' ats.length cap', .int .i64 at_] RTg)).alloc (.cells #[.string sOBlock, .string sDBlock, .string sTime] 9)).alloc (.cells #[.int .i64 0, .int .i64 0, .int .i64 0] 3)).alloc (.cells #[.int .i64 281474976710655, .int .i64 65535, .int .i64 16777215] 3)) := (((((Below.refl X wr).setCell (p := ⟨X, 0, none⟩) (Nat.le_refl X) (.slice (some ⟨b, off + 4, none⟩) L.length (cap - 1))).alloc (by simp; omega) (.cells #[.int .i64 3, .string sSingle, .slice A' ats.length cap', .int .i64 at_] RTg)).alloc (by simp; omega) (.cells #[.string sOBlock, .string sDBlock, .string sTime] 9)).alloc (by simp; omega) (.cells #[.int .i64 0, .int .i64 0, .int .i64 0] 3)).alloc (by simp; omega) (.cells #[.int .i64 281474976710655, .int .i64 65535, .int .i64 16777215] 3)
            generalize hW5 : (((((wr.setCell ⟨X, 0, none⟩ (.slice (some ⟨b, off + 4, none⟩) L.length (cap - 1))).alloc (.cells #[.int .i64 3, .string sSingle, .slice A' ats.length cap', .int .i64 at_] RTg)).alloc (.cells #[.string sOBlock, .string sDBlock, .string sTime] 9)).alloc (.cells #[.int .i64 0, .int .i64 0, .int .i64 0] 3)).alloc (.cells #[.int .i64 281474976710655, .int .i64 65535, .int .i64 16777215] 3)) = w5 at *
            have hs5 := hb5.size
            have hI5 : RdI w5 X (some ⟨b, off + 4, none⟩) L := by
              exact hIt.out.below hb5
            have hr5 := (HRd.out.below hb5).mono (show X ≤ w5.heap.size by omega)
            have HC := hide (rnumbers_any X _ (3, sSingle, ats, at_) kSingle A' (some ⟨wr.heap.size + 1, 0, none⟩) (some ⟨wr.heap.size + 1 + 1, 0, none⟩) (some ⟨wr.heap.size + 1 + 1 + 1, 0, none⟩) cap' 3 3 3 false w5 hX5 rfl (by decide) (by decide)
              hr5 (HTM.out.2 _ (by simp)).1 (HTM.out.2 _ (by simp)).2 (rd_blk (v := fun x : ByteArray => Value.string x) hn5) (rd_blk (v := fun x : Int => Value.int .i64 x) hl5) (rd_blk (v := fun x : Int => Value.int .i64 x) hh5) isSup_1)
            have HX5 := hide hX5; have HD5 := hide hD5; have HM5 := hide hM5; have HT5 := hide hT5; have HF5 := hide hF5; have HI5 := hide hI5
            have hkk : kOf sSingle = kSingle := by simp [kOf, isSup_1, isDev_1, isSin_1]
            have hrc := HRC.out
            try dsimp only at hrc
            rw [hkk] at hrc
            obtain ⟨R, hRR⟩ : ∃ R, numsL false kSingle at_ ats [] = R := ⟨_, rfl⟩
            rw [hRR] at hrc
            have hcc := HC.out
            try dsimp only at hcc
            rw [hRR] at hcc
            have HCC := hide hcc
            have HR2 := hide hrc
            have HRR := hide hRR
            have HW5 := hide hW5
            clear hX5 hD5 hM5 hT5 hn5 hl5 hh5 hF5 hb5 hI5 hr5 HC hrc hcc hRR HRC hW5
            go_wp2_with (fail)
            rw [HW5.out]
            refine HCC.out.mono ?_
            intro e w6 hN
            cases R with
            | error pc =>
              obtain ⟨p, c⟩ := pc
              obtain ⟨g6, ns, hg6, rfl, hnl, hR6, hX6, hb6⟩ := hN
              have hc0 : c ≠ 0 := by have := (numsL_err HRR.out).1; omega
              have z8 := hX6.cell 8
              have hXl6 := hX6.lt
              simp at z8
              have hce : (c == 0) = false := by simpa using hc0
              have H9 := hide (show Fr X D β w w6 ∧ RErr X r.N p c w6 from ⟨HF5.out.trans (Fr.of hb6 (by omega)), hc0, { r with lv := (.slice (some ⟨b, off + 4, none⟩) L.length (cap - 1)), sum := sum, e := c, at_ := p }, L, (some ⟨b, off + 4, none⟩), (cap - 1), rfl, rfl, rfl, by omega, rfl, hX6, HI5.out.below (hb6.below (by omega) (Nat.le_refl X))⟩)
              clear hX6 hb6 hR6 c0 c1 c2 c3 x0 x0f x8
              go_wp2
              go_roundg (gk - 1)
              case measure => omega
              case rel => exact ⟨H9.out.1, .inr ⟨p, c, HR2.out, H9.out.2⟩⟩
            | ok o =>
              obtain ⟨g6, hg6, rfl, hR6, hb6⟩ := hN
              have hnb := hR6.lt
              simp only [show kSingle.length = 3 from rfl]
              have n0 : w6.cell? ⟨g6, 0, none⟩ = some (.int .i64 (gv o sOBlock)) := hR6.cell 0
              have n1 : w6.cell? ⟨g6, 1, none⟩ = some (.int .i64 (gv o sDBlock)) := hR6.cell 1
              have n2 : w6.cell? ⟨g6, 2, none⟩ = some (.int .i64 (gv o sTime)) := hR6.cell 2
              have hX6 := HX5.out.below hb6 HX5.out.lt
              have hD6 := HD5.out.below hb6 HD5.out.lt
              have hM6 := HM5.out.below hb6 (fun q hq => (HM5.out.lt q hq).2)
              have hT6 := HT5.out.below hb6 HT5.out.lt
              have hF6 := HF5.out.trans (Fr.below hb6 (by omega))
              have hI6 := HI5.out.below (hb6.mono (show X ≤ w5.heap.size by omega))
              have hs6 := hb6.size
              have z8 := hX6.cell 8
              have hXl6 := hX6.lt
              have t0 := hT6.cell 0
              have t1 := hT6.cell 1
              have t2 := hT6.cell 2
              have t3 := hT6.cell 3
              have hTl6 := hT6.lt
              simp at z8 t0 t1 t2 t3
              have hbd := one_ok (at_ := at_) (ats := ats) (out := o) (by rw [isSup_1, hkk]; exact HRR.out)
              have hro : rnOf sSingle o = oneRn o := by unfold rnOf; rw [if_pos isSin_1]
              have hrc := HR2.out
              try dsimp only at hrc
              rw [hro] at hrc
              obtain ⟨q, hq⟩ : ∃ q, runX sum r.da (lastV (-1) ms + 1) at_ (oneRn o) = q := ⟨_, rfl⟩
              rw [hq] at hrc
              have hcall := fun (wz : World) (h1 : Blk wz X RSt _) (h2 : Blk wz D 123 _) (h3 : Own wz β 39 3 mc vm ms) (h4 : β ≤ wz.heap.size) => rrun_any X D β _ 3 at_ sSingle (.slice A' ats.length cap') (oneRn o) d1 d2 d3 d4 vm ms wz h1 (show (({ r with lv := (.slice (some ⟨b, off + 4, none⟩) L.length (cap - 1)), sum := sum, e := 0 } : Rh)).e = 0 from rfl) h2 h3 h4 (by omega) hda hsm (by omega) HMV.out ⟨hbd.1.1, hbd.1.2.1, hbd.2.1, hbd.1.2.2.2⟩
              have HCALL := hide hcall
              have HRC3 := hide hrc
              have HQ := hide hq
              have HBD := hide hbd
              have HX6 := hide hX6.drew; have HD6 := hide hD6.drew; have HM6 := hide hM6.drew; have HF6 := hide hF6.drew; have HI6 := hide hI6
              clear hX6 hD6 hM6 hT6 hF6 hI6 hcall hrc hq hbd hR6 c0 c1 c2 c3 x0 x0f x8 hb6
              go_wp2_with (fail)
              go_still_tail 12, (by kernel_rfl)
              change wpList _ _ _ _ _ (World.drew _)
              go_wp2_with (fail)
              refine (HCALL.out _ HX6.out HD6.out HM6.out (by show β ≤ w6.heap.size; omega)).mono ?_
              rintro e w8 ⟨rfl, hrr⟩
              dsimp only at hrr
              rw [HQ.out] at hrr
              have hrr2 := hrr
              clear hrr
              cases q with
              | some pc =>
                obtain ⟨p, c⟩ := pc
                obtain ⟨hX8, hb8⟩ := hrr2
                have hc0 := runX_err HQ.out
                have H9 := hide (show Fr X D β w w8 ∧ RErr X r.N p c w8 from ⟨HF6.out.trans (Fr.of hb8 (by show β ≤ w6.heap.size; omega)), hc0, { r with lv := (.slice (some ⟨b, off + 4, none⟩) L.length (cap - 1)), sum := sum + (oneRn o).2.2.1, e := c, at_ := p }, L, (some ⟨b, off + 4, none⟩), (cap - 1), rfl, rfl, rfl, by omega, rfl, hX8, RdI.below (show RdI w6.drew X (some ⟨b, off + 4, none⟩) L from HI6.out) (hb8.below (show X ≤ w6.heap.size by omega) (Nat.le_refl X))⟩)
                clear hX8 hb8
                go_wp2
                go_roundg (gk - 1)
                case measure => omega
                case rel => exact ⟨H9.out.1, .inr ⟨p, c, HRC3.out, H9.out.2⟩⟩
              | none =>
                obtain ⟨vm8, hX8, hD8, hM8, hF8⟩ := hrr2
                obtain ⟨u1, u2, u3⟩ := runX_none HQ.out
                obtain ⟨⟨y1, y2, y3⟩, y4⟩ := HBD.out
                have hlow := hF8.low' (C := X) (Nat.le_refl X) (by omega) (by omega)
                have H9 := hide (show Fr X D β w w8 ∧ ROk X r L (sum + (oneRn o).2.2.1) w8 from ⟨HF6.out.trans hF8, (some ⟨b, off + 4, none⟩), (cap - 1), by simp at hcap; omega, hX8, RdI.below (show RdI w6.drew X (some ⟨b, off + 4, none⟩) L from HI6.out) hlow⟩)
                have HD8 := hide hD8; have HM8 := hide hM8
                have hml2 : (ms ++ mapsR (oneRn o) (oneRn o).2.2.1.toNat).length = ms.length + (oneRn o).2.2.1.toNat := by rw [List.length_append, mapsR_len]
                have hmv2 := hide (mapsR_key HMV.out y1.1 u1)
                have HTL := hide (show TMild L from ⟨by have := HTM.out.1; simp only [List.length_cons] at this; omega, fun x hx => HTM.out.2 x (by simp [hx])⟩)
                clear hX8 hD8 hM8 hF8 hlow
                go_wp2
                go_roundg (gk - 1)
                case measure => omega
                case rel => exact ⟨H9.out.1, .inl ⟨L, _, _, vm8, by omega, HTL.out, by omega, by omega, hmv2.out, H9.out.2, HD8.out, HM8.out, by omega, HRC3.out⟩⟩
        · have hsn := isRng_eq hnm
          obtain ⟨kd, nm, ats, at_⟩ := t
          dsimp only at hk3 hsn c0 c1 c2 c3 hr
          subst hsn
          subst hk3
          have h0 := hide (ris_any X X _ _ cap _ 3 sSingle false wr hX rfl hI hwX hTM.1 (by
            show (decide ((0 : Int) = 0) && (decide ((3 : Int) = 3) && (sRange.toList == sSingle.toList))) = false
            rw [Lib.toList_data, Lib.toList_data]; decide))
          have h1 := hide (ris_any X X _ _ cap _ 3 sRange true wr hX rfl hI hwX hTM.1 (by unfold isR; simp))
          have x0 := hX.cell 0
          have x0f := hX.frozen 0
          have x8 := hX.cell 8
          simp at x0 x8
          have HX := hide hX
          have HRd := hide hr
          have HDd := hide hD
          have HMm := hide hM
          have HMV := hide hmv
          clear hX hI hR hRc hnm hr hD hM hmv
          have hg2 := hTg
          simp only [List.length_cons] at hg2
          go_wp2_with (fail)
          refine h0.out.mono ?_
          rintro e w4 ⟨rfl, hw4⟩
          have hw5 := hw4.symm
          subst hw5
          clear hw4
          go_wp2_with (fail)
          refine h1.out.mono ?_
          rintro e w4 ⟨rfl, hw4⟩
          have hw5 := hw4.symm
          subst hw5
          clear hw4
          by_cases hcap1 : cap = 1
          · subst hcap1
            obtain rfl : L = [] := List.eq_nil_of_length_eq_zero (by have := hcap; simp only [List.length_cons] at this; omega)
            have hX5 : Blk (((((wr.setCell ⟨X, 0, none⟩ (.slice (some ⟨b, off, none⟩) 0 0)).alloc (.cells #[.int .i64 3, .string sRange, .slice A' ats.length cap', .int .i64 at_] RTg)).alloc (.cells #[.string sOBegin, .string sDBegin, .string sLength, .string sTime] 9)).alloc (.cells #[.int .i64 0, .int .i64 0, .int .i64 1, .int .i64 0] 3)).alloc (.cells #[.int .i64 281474976710655, .int .i64 65535, .int .i64 16384, .int .i64 16777215] 3)) X RSt (rst { r with lv := (.slice (some ⟨b, off, none⟩) 0 0), sum := sum, e := 0 }) := by simpa using ((((HX.out.set_ 0 (.slice (some ⟨b, off, none⟩) 0 0)).alloc (.cells #[.int .i64 3, .string sRange, .slice A' ats.length cap', .int .i64 at_] RTg)).alloc (.cells #[.string sOBegin, .string sDBegin, .string sLength, .string sTime] 9)).alloc (.cells #[.int .i64 0, .int .i64 0, .int .i64 1, .int .i64 0] 3)).alloc (.cells #[.int .i64 281474976710655, .int .i64 65535, .int .i64 16384, .int .i64 16777215] 3)
            have hD5 : Blk (((((wr.setCell ⟨X, 0, none⟩ (.slice (some ⟨b, off, none⟩) 0 0)).alloc (.cells #[.int .i64 3, .string sRange, .slice A' ats.length cap', .int .i64 at_] RTg)).alloc (.cells #[.string sOBegin, .string sDBegin, .string sLength, .string sTime] 9)).alloc (.cells #[.int .i64 0, .int .i64 0, .int .i64 1, .int .i64 0] 3)).alloc (.cells #[.int .i64 281474976710655, .int .i64 65535, .int .i64 16384, .int .i64 16777215] 3)) D 123 #[.int .i64 d1, .int .i64 d2, .int .i64 d3, .int .i64 d4, vm] := ((((HDd.out.far (p := ⟨X, 0, none⟩) (by dsimp only; omega) (.slice (some ⟨b, off, none⟩) 0 0)).alloc (.cells #[.int .i64 3, .string sRange, .slice A' ats.length cap', .int .i64 at_] RTg)).alloc (.cells #[.string sOBegin, .string sDBegin, .string sLength, .string sTime] 9)).alloc (.cells #[.int .i64 0, .int .i64 0, .int .i64 1, .int .i64 0] 3)).alloc (.cells #[.int .i64 281474976710655, .int .i64 65535, .int .i64 16384, .int .i64 16777215] 3)
            have hM5 : Own (((((wr.setCell ⟨X, 0, none⟩ (.slice (some ⟨b, off, none⟩) 0 0)).alloc (.cells #[.int .i64 3, .string sRange, .slice A' ats.length cap', .int .i64 at_] RTg)).alloc (.cells #[.string sOBegin, .string sDBegin, .string sLength, .string sTime] 9)).alloc (.cells #[.int .i64 0, .int .i64 0, .int .i64 1, .int .i64 0] 3)).alloc (.cells #[.int .i64 281474976710655, .int .i64 65535, .int .i64 16384, .int .i64 16777215] 3)) β 39 3 mc vm ms := ((((HMm.out.setCell (p := ⟨X, 0, none⟩) (own_blk_ne HMm.out HX.out (by decide)) (.slice (some ⟨b, off, none⟩) 0 0)).alloc (.cells #[.int .i64 3, .string sRange, .slice A' ats.length cap', .int .i64 at_] RTg)).alloc (.cells #[.string sOBegin, .string sDBegin, .string sLength, .string sTime] 9)).alloc (.cells #[.int .i64 0, .int .i64 0, .int .i64 1, .int .i64 0] 3)).alloc (.cells #[.int .i64 281474976710655, .int .i64 65535, .int .i64 16384, .int .i64 16777215] 3)
            have hT5 : Blk (((((wr.setCell ⟨X, 0, none⟩ (.slice (some ⟨b, off, none⟩) 0 0)).alloc (.cells #[.int .i64 3, .string sRange, .slice A' ats.length cap', .int .i64 at_] RTg)).alloc (.cells #[.string sOBegin, .string sDBegin, .string sLength, .string sTime] 9)).alloc (.cells #[.int .i64 0, .int .i64 0, .int .i64 1, .int .i64 0] 3)).alloc (.cells #[.int .i64 281474976710655, .int .i64 65535, .int .i64 16384, .int .i64 16777215] 3)) wr.heap.size RTg #[.int .i64 3, .string sRange, .slice A' ats.length cap', .int .i64 at_] := (((show Blk ((wr.setCell ⟨X, 0, none⟩ (.slice (some ⟨b, off, none⟩) 0 0)).alloc (.cells #[.int .i64 3, .string sRange, .slice A' ats.length cap', .int .i64 at_] RTg)) wr.heap.size _ _ from heap_new_at (by simp)).alloc (.cells #[.string sOBegin, .string sDBegin, .string sLength, .string sTime] 9)).alloc (.cells #[.int .i64 0, .int .i64 0, .int .i64 1, .int .i64 0] 3)).alloc (.cells #[.int .i64 281474976710655, .int .i64 65535, .int .i64 16384, .int .i64 16777215] 3)
            have hn5 : Blk (((((wr.setCell ⟨X, 0, none⟩ (.slice (some ⟨b, off, none⟩) 0 0)).alloc (.cells #[.int .i64 3, .string sRange, .slice A' ats.length cap', .int .i64 at_] RTg)).alloc (.cells #[.string sOBegin, .string sDBegin, .string sLength, .string sTime] 9)).alloc (.cells #[.int .i64 0, .int .i64 0, .int .i64 1, .int .i64 0] 3)).alloc (.cells #[.int .i64 281474976710655, .int .i64 65535, .int .i64 16384, .int .i64 16777215] 3)) (wr.heap.size + 1) 9 (((kRange.map (·.1)).map fun x => Value.string x).toArray) := ((show Blk (((wr.setCell ⟨X, 0, none⟩ (.slice (some ⟨b, off, none⟩) 0 0)).alloc (.cells #[.int .i64 3, .string sRange, .slice A' ats.length cap', .int .i64 at_] RTg)).alloc (.cells #[.string sOBegin, .string sDBegin, .string sLength, .string sTime] 9)) (wr.heap.size + 1) _ _ from heap_new_at (by simp)).alloc (.cells #[.int .i64 0, .int .i64 0, .int .i64 1, .int .i64 0] 3)).alloc (.cells #[.int .i64 281474976710655, .int .i64 65535, .int .i64 16384, .int .i64 16777215] 3)
            have hl5 : Blk (((((wr.setCell ⟨X, 0, none⟩ (.slice (some ⟨b, off, none⟩) 0 0)).alloc (.cells #[.int .i64 3, .string sRange, .slice A' ats.length cap', .int .i64 at_] RTg)).alloc (.cells #[.string sOBegin, .string sDBegin, .string sLength, .string sTime] 9)).alloc (.cells #[.int .i64 0, .int .i64 0, .int .i64 1, .int .i64 0] 3)).alloc (.cells #[.int .i64 281474976710655, .int .i64 65535, .int .i64 16384, .int .i64 16777215] 3)) (wr.heap.size + 1 + 1) 3 (((kRange.map (·.2.1)).map fun x => Value.int .i64 x).toArray) := (show Blk ((((wr.setCell ⟨X, 0, none⟩ (.slice (some ⟨b, off, none⟩) 0 0)).alloc (.cells #[.int .i64 3, .string sRange, .slice A' ats.length cap', .int .i64 at_] RTg)).alloc (.cells #[.string sOBegin, .string sDBegin, .string sLength, .string sTime] 9)).alloc (.cells #[.int .i64 0, .int .i64 0, .int .i64 1, .int .i64 0] 3)) (wr.heap.size + 1 + 1) _ _ from heap_new_at (by simp)).alloc (.cells #[.int .i64 281474976710655, .int .i64 65535, .int .i64 16384, .int .i64 16777215] 3)
            have hh5 : Blk (((((wr.setCell ⟨X, 0, none⟩ (.slice (some ⟨b, off, none⟩) 0 0)).alloc (.cells #[.int .i64 3, .string sRange, .slice A' ats.length cap', .int .i64 at_] RTg)).alloc (.cells #[.string sOBegin, .string sDBegin, .string sLength, .string sTime] 9)).alloc (.cells #[.int .i64 0, .int .i64 0, .int .i64 1, .int .i64 0] 3)).alloc (.cells #[.int .i64 281474976710655, .int .i64 65535, .int .i64 16384, .int .i64 16777215] 3)) (wr.heap.size + 1 + 1 + 1) 3 (((kRange.map (·.2.2)).map fun x => Value.int .i64 x).toArray) := heap_new_at (by simp)
            have hF5 : Fr X D β w (((((wr.setCell ⟨X, 0, none⟩ (.slice (some ⟨b, off, none⟩) 0 0)).alloc (.cells #[.int .i64 3, .string sRange, .slice A' ats.length cap', .int .i64 at_] RTg)).alloc (.cells #[.string sOBegin, .string sDBegin, .string sLength, .string sTime] 9)).alloc (.cells #[.int .i64 0, .int .i64 0, .int .i64 1, .int .i64 0] 3)).alloc (.cells #[.int .i64 281474976710655, .int .i64 65535, .int .i64 16384, .int .i64 16777215] 3)) := ((((HF.out.setX 0 (.slice (some ⟨b, off, none⟩) 0 0)).alloc (by simp; omega) (.cells #[.int .i64 3, .string sRange, .slice A' ats.length cap', .int .i64 at_] RTg)).alloc (by simp; omega) (.cells #[.string sOBegin, .string sDBegin, .string sLength, .string sTime] 9)).alloc (by simp; omega) (.cells #[.int .i64 0, .int .i64 0, .int .i64 1, .int .i64 0] 3)).alloc (by simp; omega) (.cells #[.int .i64 281474976710655, .int .i64 65535, .int .i64 16384, .int .i64 16777215] 3)
            have hb5 : Below X wr (((((wr.setCell ⟨X, 0, none⟩ (.slice (some ⟨b, off, none⟩) 0 0)).alloc (.cells #[.int .i64 3, .string sRange, .slice A' ats.length cap', .int .i64 at_] RTg)).alloc (.cells #[.string sOBegin, .string sDBegin, .string sLength, .string sTime] 9)).alloc (.cells #[.int .i64 0, .int .i64 0, .int .i64 1, .int .i64 0] 3)).alloc (.cells #[.int .i64 281474976710655, .int .i64 65535, .int .i64 16384, .int .i64 16777215] 3)) := (((((Below.refl X wr).setCell (p := ⟨X, 0, none⟩) (Nat.le_refl X) (.slice (some ⟨b, off, none⟩) 0 0)).alloc (by simp; omega) (.cells #[.int .i64 3, .string sRange, .slice A' ats.length cap', .int .i64 at_] RTg)).alloc (by simp; omega) (.cells #[.string sOBegin, .string sDBegin, .string sLength, .string sTime] 9)).alloc (by simp; omega) (.cells #[.int .i64 0, .int .i64 0, .int .i64 1, .int .i64 0] 3)).alloc (by simp; omega) (.cells #[.int .i64 281474976710655, .int .i64 65535, .int .i64 16384, .int .i64 16777215] 3)
            generalize hW5 : (((((wr.setCell ⟨X, 0, none⟩ (.slice (some ⟨b, off, none⟩) 0 0)).alloc (.cells #[.int .i64 3, .string sRange, .slice A' ats.length cap', .int .i64 at_] RTg)).alloc (.cells #[.string sOBegin, .string sDBegin, .string sLength, .string sTime] 9)).alloc (.cells #[.int .i64 0, .int .i64 0, .int .i64 1, .int .i64 0] 3)).alloc (.cells #[.int .i64 281474976710655, .int .i64 65535, .int .i64 16384, .int .i64 16777215] 3)) = w5 at *
            have hs5 := hb5.size
            have hI5 : RdI w5 X (some ⟨b, off, none⟩) ([] : List Ti) := by
              exact RdI.nil _ _ _
            have hr5 := (HRd.out.below hb5).mono (show X ≤ w5.heap.size by omega)
            have HC := hide (rnumbers_any X _ (3, sRange, ats, at_) kRange A' (some ⟨wr.heap.size + 1, 0, none⟩) (some ⟨wr.heap.size + 1 + 1, 0, none⟩) (some ⟨wr.heap.size + 1 + 1 + 1, 0, none⟩) cap' 4 4 4 false w5 hX5 rfl (by decide) (by decide)
              hr5 (HTM.out.2 _ (by simp)).1 (HTM.out.2 _ (by simp)).2 (rd_blk (v := fun x : ByteArray => Value.string x) hn5) (rd_blk (v := fun x : Int => Value.int .i64 x) hl5) (rd_blk (v := fun x : Int => Value.int .i64 x) hh5) isSup_r)
            have HX5 := hide hX5; have HD5 := hide hD5; have HM5 := hide hM5; have HT5 := hide hT5; have HF5 := hide hF5; have HI5 := hide hI5
            have hkk : kOf sRange = kRange := by simp [kOf, isSup_r, isDev_r, isSin_r]
            have hrc := HRC.out
            try dsimp only at hrc
            rw [hkk] at hrc
            obtain ⟨R, hRR⟩ : ∃ R, numsL false kRange at_ ats [] = R := ⟨_, rfl⟩
            rw [hRR] at hrc
            have hcc := HC.out
            try dsimp only at hcc
            rw [hRR] at hcc
            have HCC := hide hcc
            have HR2 := hide hrc
            have HRR := hide hRR
            have HW5 := hide hW5
            clear hX5 hD5 hM5 hT5 hn5 hl5 hh5 hF5 hb5 hI5 hr5 HC hrc hcc hRR HRC hW5
            go_wp2_with (fail)
            rw [HW5.out]
            refine HCC.out.mono ?_
            intro e w6 hN
            cases R with
            | error pc =>
              obtain ⟨p, c⟩ := pc
              obtain ⟨g6, ns, hg6, rfl, hnl, hR6, hX6, hb6⟩ := hN
              have hc0 : c ≠ 0 := by have := (numsL_err HRR.out).1; omega
              have z8 := hX6.cell 8
              have hXl6 := hX6.lt
              simp at z8
              have hce : (c == 0) = false := by simpa using hc0
              have H9 := hide (show Fr X D β w w6 ∧ RErr X r.N p c w6 from ⟨HF5.out.trans (Fr.of hb6 (by omega)), hc0, { r with lv := (.slice (some ⟨b, off, none⟩) 0 0), sum := sum, e := c, at_ := p }, ([] : List Ti), (some ⟨b, off, none⟩), 0, rfl, rfl, rfl, by omega, rfl, hX6, HI5.out.below (hb6.below (by omega) (Nat.le_refl X))⟩)
              clear hX6 hb6 hR6 c0 c1 c2 c3 x0 x0f x8
              go_wp2
              go_roundg (gk - 1)
              case measure => omega
              case rel => exact ⟨H9.out.1, .inr ⟨p, c, HR2.out, H9.out.2⟩⟩
            | ok o =>
              obtain ⟨g6, hg6, rfl, hR6, hb6⟩ := hN
              have hnb := hR6.lt
              simp only [show kRange.length = 4 from rfl]
              have n0 : w6.cell? ⟨g6, 0, none⟩ = some (.int .i64 (gv o sOBegin)) := hR6.cell 0
              have n1 : w6.cell? ⟨g6, 1, none⟩ = some (.int .i64 (gv o sDBegin)) := hR6.cell 1
              have n2 : w6.cell? ⟨g6, 2, none⟩ = some (.int .i64 (gv o sLength)) := hR6.cell 2
              have n3 : w6.cell? ⟨g6, 3, none⟩ = some (.int .i64 (gv o sTime)) := hR6.cell 3
              have hX6 := HX5.out.below hb6 HX5.out.lt
              have hD6 := HD5.out.below hb6 HD5.out.lt
              have hM6 := HM5.out.below hb6 (fun q hq => (HM5.out.lt q hq).2)
              have hT6 := HT5.out.below hb6 HT5.out.lt
              have hF6 := HF5.out.trans (Fr.below hb6 (by omega))
              have hI6 := HI5.out.below (hb6.mono (show X ≤ w5.heap.size by omega))
              have hs6 := hb6.size
              have z8 := hX6.cell 8
              have hXl6 := hX6.lt
              have t0 := hT6.cell 0
              have t1 := hT6.cell 1
              have t2 := hT6.cell 2
              have t3 := hT6.cell 3
              have hTl6 := hT6.lt
              simp at z8 t0 t1 t2 t3
              have hbd := rng_ok (at_ := at_) (ats := ats) (out := o) (by rw [isSup_r, hkk]; exact HRR.out)
              have hro : rnOf sRange o = rngRn o := by unfold rnOf; rw [if_neg (by rw [isSin_r]; simp)]
              have hrc := HR2.out
              try dsimp only at hrc
              rw [hro] at hrc
              obtain ⟨q, hq⟩ : ∃ q, runX sum r.da (lastV (-1) ms + 1) at_ (rngRn o) = q := ⟨_, rfl⟩
              rw [hq] at hrc
              have hcall := fun (wz : World) (h1 : Blk wz X RSt _) (h2 : Blk wz D 123 _) (h3 : Own wz β 39 3 mc vm ms) (h4 : β ≤ wz.heap.size) => rrun_any X D β _ 3 at_ sRange (.slice A' ats.length cap') (rngRn o) d1 d2 d3 d4 vm ms wz h1 (show (({ r with lv := (.slice (some ⟨b, off, none⟩) 0 0), sum := sum, e := 0 } : Rh)).e = 0 from rfl) h2 h3 h4 (by omega) hda hsm (by omega) HMV.out ⟨hbd.1.1, hbd.1.2.1, hbd.2.1, hbd.1.2.2.2⟩
              have HCALL := hide hcall
              have HRC3 := hide hrc
              have HQ := hide hq
              have HBD := hide hbd
              have HX6 := hide hX6.drew; have HD6 := hide hD6.drew; have HM6 := hide hM6.drew; have HF6 := hide hF6.drew; have HI6 := hide hI6
              clear hX6 hD6 hM6 hT6 hF6 hI6 hcall hrc hq hbd hR6 c0 c1 c2 c3 x0 x0f x8 hb6
              go_wp2_with (fail)
              go_still_tail 15, (by kernel_rfl)
              change wpList _ _ _ _ _ (World.drew _)
              go_wp2_with (fail)
              refine (HCALL.out _ HX6.out HD6.out HM6.out (by show β ≤ w6.heap.size; omega)).mono ?_
              rintro e w8 ⟨rfl, hrr⟩
              dsimp only at hrr
              rw [HQ.out] at hrr
              have hrr2 := hrr
              clear hrr
              cases q with
              | some pc =>
                obtain ⟨p, c⟩ := pc
                obtain ⟨hX8, hb8⟩ := hrr2
                have hc0 := runX_err HQ.out
                have H9 := hide (show Fr X D β w w8 ∧ RErr X r.N p c w8 from ⟨HF6.out.trans (Fr.of hb8 (by show β ≤ w6.heap.size; omega)), hc0, { r with lv := (.slice (some ⟨b, off, none⟩) 0 0), sum := sum + (rngRn o).2.2.1, e := c, at_ := p }, ([] : List Ti), (some ⟨b, off, none⟩), 0, rfl, rfl, rfl, by omega, rfl, hX8, RdI.below (show RdI w6.drew X (some ⟨b, off, none⟩) ([] : List Ti) from HI6.out) (hb8.below (show X ≤ w6.heap.size by omega) (Nat.le_refl X))⟩)
                clear hX8 hb8
                go_wp2
                go_roundg (gk - 1)
                case measure => omega
                case rel => exact ⟨H9.out.1, .inr ⟨p, c, HRC3.out, H9.out.2⟩⟩
              | none =>
                obtain ⟨vm8, hX8, hD8, hM8, hF8⟩ := hrr2
                obtain ⟨u1, u2, u3⟩ := runX_none HQ.out
                obtain ⟨⟨y1, y2, y3⟩, y4⟩ := HBD.out
                have hlow := hF8.low' (C := X) (Nat.le_refl X) (by omega) (by omega)
                have H9 := hide (show Fr X D β w w8 ∧ ROk X r ([] : List Ti) (sum + (rngRn o).2.2.1) w8 from ⟨HF6.out.trans hF8, (some ⟨b, off, none⟩), 0, by simp, hX8, RdI.below (show RdI w6.drew X (some ⟨b, off, none⟩) ([] : List Ti) from HI6.out) hlow⟩)
                have HD8 := hide hD8; have HM8 := hide hM8
                have hml2 : (ms ++ mapsR (rngRn o) (rngRn o).2.2.1.toNat).length = ms.length + (rngRn o).2.2.1.toNat := by rw [List.length_append, mapsR_len]
                have hmv2 := hide (mapsR_key HMV.out y1.1 u1)
                have HTL := hide (show TMild ([] : List Ti) from ⟨by have := HTM.out.1; simp only [List.length_cons] at this; simp, fun x hx => HTM.out.2 x (by simp [hx])⟩)
                clear hX8 hD8 hM8 hF8 hlow
                go_wp2
                go_roundg (gk - 1)
                case measure => omega
                case rel => exact ⟨H9.out.1, .inl ⟨([] : List Ti), _, _, vm8, by omega, HTL.out, by omega, by omega, hmv2.out, H9.out.2, HD8.out, HM8.out, by omega, HRC3.out⟩⟩
          · have i4 : ¬ cap - 1 = 0 := by have := hcap; simp only [List.length_cons] at this; omega
            have hX5 : Blk (((((wr.setCell ⟨X, 0, none⟩ (.slice (some ⟨b, off + 4, none⟩) L.length (cap - 1))).alloc (.cells #[.int .i64 3, .string sRange, .slice A' ats.length cap', .int .i64 at_] RTg)).alloc (.cells #[.string sOBegin, .string sDBegin, .string sLength, .string sTime] 9)).alloc (.cells #[.int .i64 0, .int .i64 0, .int .i64 1, .int .i64 0] 3)).alloc (.cells #[.int .i64 281474976710655, .int .i64 65535, .int .i64 16384, .int .i64 16777215] 3)) X RSt (rst { r with lv := (.slice (some ⟨b, off + 4, none⟩) L.length (cap - 1)), sum := sum, e := 0 }) := by simpa using ((((HX.out.set_ 0 (.slice (some ⟨b, off + 4, none⟩) L.length (cap - 1))).alloc (.cells #[.int .i64 3, .string sRange, .slice A' ats.length cap', .int .i64 at_] RTg)).alloc (.cells #[.string sOBegin, .string sDBegin, .string sLength, .string sTime] 9)).alloc (.cells #[.int .i64 0, .int .i64 0, .int .i64 1, .int .i64 0] 3)).alloc (.cells #[.int .i64 281474976710655, .int .i64 65535, .int .i64 16384, .int .i64 16777215] 3)
            have hD5 : Blk (((((wr.setCell ⟨X, 0, none⟩ (.slice (some ⟨b, off + 4, none⟩) L.length (cap - 1))).alloc (.cells #[.int .i64 3, .string sRange, .slice A' ats.length cap', .int .i64 at_] RTg)).alloc (.cells #[.string sOBegin, .string sDBegin, .string sLength, .string sTime] 9)).alloc (.cells #[.int .i64 0, .int .i64 0, .int .i64 1, .int .i64 0] 3)).alloc (.cells #[.int .i64 281474976710655, .int .i64 65535, .int .i64 16384, .int .i64 16777215] 3)) D 123 #[.int .i64 d1, .int .i64 d2, .int .i64 d3, .int .i64 d4, vm] := ((((HDd.out.far (p := ⟨X, 0, none⟩) (by dsimp only; omega) (.slice (some ⟨b, off + 4, none⟩) L.length (cap - 1))).alloc (.cells #[.int .i64 3, .string sRange, .slice A' ats.length cap', .int .i64 at_] RTg)).alloc (.cells #[.string sOBegin, .string sDBegin, .string sLength, .string sTime] 9)).alloc (.cells #[.int .i64 0, .int .i64 0, .int .i64 1, .int .i64 0] 3)).alloc (.cells #[.int .i64 281474976710655, .int .i64 65535, .int .i64 16384, .int .i64 16777215] 3)
            have hM5 : Own (((((wr.setCell ⟨X, 0, none⟩ (.slice (some ⟨b, off + 4, none⟩) L.length (cap - 1))).alloc (.cells #[.int .i64 3, .string sRange, .slice A' ats.length cap', .int .i64 at_] RTg)).alloc (.cells #[.string sOBegin, .string sDBegin, .string sLength, .string sTime] 9)).alloc (.cells #[.int .i64 0, .int .i64 0, .int .i64 1, .int .i64 0] 3)).alloc (.cells #[.int .i64 281474976710655, .int .i64 65535, .int .i64 16384, .int .i64 16777215] 3)) β 39 3 mc vm ms := ((((HMm.out.setCell (p := ⟨X, 0, none⟩) (own_blk_ne HMm.out HX.out (by decide)) (.slice (some ⟨b, off + 4, none⟩) L.length (cap - 1))).alloc (.cells #[.int .i64 3, .string sRange, .slice A' ats.length cap', .int .i64 at_] RTg)).alloc (.cells #[.string sOBegin, .string sDBegin, .string sLength, .string sTime] 9)).alloc (.cells #[.int .i64 0, .int .i64 0, .int .i64 1, .int .i64 0] 3)).alloc (.cells #[.int .i64 281474976710655, .int .i64 65535, .int .i64 16384, .int .i64 16777215] 3)
            have hT5 : Blk (((((wr.setCell ⟨X, 0, none⟩ (.slice (some ⟨b, off + 4, none⟩) L.length (cap - 1))).alloc (.cells #[.int .i64 3, .string sRange, .slice A' ats.length cap', .int .i64 at_] RTg)).alloc (.cells #[.string sOBegin, .string sDBegin, .string sLength, .string sTime] 9)).alloc (.cells #[.int .i64 0, .int .i64 0, .int .i64 1, .int .i64 0] 3)).alloc (.cells #[.int .i64 281474976710655, .int .i64 65535, .int .i64 16384, .int .i64 16777215] 3)) wr.heap.size RTg #[.int .i64 3, .string sRange, .slice A' ats.length cap', .int .i64 at_] := (((show Blk ((wr.setCell ⟨X, 0, none⟩ (.slice (some ⟨b, off + 4, none⟩) L.length (cap - 1))).alloc (.cells #[.int .i64 3, .string sRange, .slice A' ats.length cap', .int .i64 at_] RTg)) wr.heap.size _ _ from heap_new_at (by simp)).alloc (.cells #[.string sOBegin, .string sDBegin, .string sLength, .string sTime] 9)).alloc (.cells #[.int .i64 0, .int .i64 0, .int .i64 1, .int .i64 0] 3)).alloc (.cells #[.int .i64 281474976710655, .int .i64 65535, .int .i64 16384, .int .i64 16777215] 3)
            have hn5 : Blk (((((wr.setCell ⟨X, 0, none⟩ (.slice (some ⟨b, off + 4, none⟩) L.length (cap - 1))).alloc (.cells #[.int .i64 3, .string sRange, .slice A' ats.length cap', .int .i64 at_] RTg)).alloc (.cells #[.string sOBegin, .string sDBegin, .string sLength, .string sTime] 9)).alloc (.cells #[.int .i64 0, .int .i64 0, .int .i64 1, .int .i64 0] 3)).alloc (.cells #[.int .i64 281474976710655, .int .i64 65535, .int .i64 16384, .int .i64 16777215] 3)) (wr.heap.size + 1) 9 (((kRange.map (·.1)).map fun x => Value.string x).toArray) := ((show Blk (((wr.setCell ⟨X, 0, none⟩ (.slice (some ⟨b, off + 4, none⟩) L.length (cap - 1))).alloc (.cells #[.int .i64 3, .string sRange, .slice A' ats.length cap', .int .i64 at_] RTg)).alloc (.cells #[.string sOBegin, .string sDBegin, .string sLength, .string sTime] 9)) (wr.heap.size + 1) _ _ from heap_new_at (by simp)).alloc (.cells #[.int .i64 0, .int .i64 0, .int .i64 1, .int .i64 0] 3)).alloc (.cells #[.int .i64 281474976710655, .int .i64 65535, .int .i64 16384, .int .i64 16777215] 3)
            have hl5 : Blk (((((wr.setCell ⟨X, 0, none⟩ (.slice (some ⟨b, off + 4, none⟩) L.length (cap - 1))).alloc (.cells #[.int .i64 3, .string sRange, .slice A' ats.length cap', .int .i64 at_] RTg)).alloc (.cells #[.string sOBegin, .string sDBegin, .string sLength, .string sTime] 9)).alloc (.cells #[.int .i64 0, .int .i64 0, .int .i64 1, .int .i64 0] 3)).alloc (.cells #[.int .i64 281474976710655, .int .i64 65535, .int .i64 16384, .int .i64 16777215] 3)) (wr.heap.size + 1 + 1) 3 (((kRange.map (·.2.1)).map fun x => Value.int .i64 x).toArray) := (show Blk ((((wr.setCell ⟨X, 0, none⟩ (.slice (some ⟨b, off + 4, none⟩) L.length (cap - 1))).alloc (.cells #[.int .i64 3, .string sRange, .slice A' ats.length cap', .int .i64 at_] RTg)).alloc (.cells #[.string sOBegin, .string sDBegin, .string sLength, .string sTime] 9)).alloc (.cells #[.int .i64 0, .int .i64 0, .int .i64 1, .int .i64 0] 3)) (wr.heap.size + 1 + 1) _ _ from heap_new_at (by simp)).alloc (.cells #[.int .i64 281474976710655, .int .i64 65535, .int .i64 16384, .int .i64 16777215] 3)
            have hh5 : Blk (((((wr.setCell ⟨X, 0, none⟩ (.slice (some ⟨b, off + 4, none⟩) L.length (cap - 1))).alloc (.cells #[.int .i64 3, .string sRange, .slice A' ats.length cap', .int .i64 at_] RTg)).alloc (.cells #[.string sOBegin, .string sDBegin, .string sLength, .string sTime] 9)).alloc (.cells #[.int .i64 0, .int .i64 0, .int .i64 1, .int .i64 0] 3)).alloc (.cells #[.int .i64 281474976710655, .int .i64 65535, .int .i64 16384, .int .i64 16777215] 3)) (wr.heap.size + 1 + 1 + 1) 3 (((kRange.map (·.2.2)).map fun x => Value.int .i64 x).toArray) := heap_new_at (by simp)
            have hF5 : Fr X D β w (((((wr.setCell ⟨X, 0, none⟩ (.slice (some ⟨b, off + 4, none⟩) L.length (cap - 1))).alloc (.cells #[.int .i64 3, .string sRange, .slice A' ats.length cap', .int .i64 at_] RTg)).alloc (.cells #[.string sOBegin, .string sDBegin, .string sLength, .string sTime] 9)).alloc (.cells #[.int .i64 0, .int .i64 0, .int .i64 1, .int .i64 0] 3)).alloc (.cells #[.int .i64 281474976710655, .int .i64 65535, .int .i64 16384, .int .i64 16777215] 3)) := ((((HF.out.setX 0 (.slice (some ⟨b, off + 4, none⟩) L.length (cap - 1))).alloc (by simp; omega) (.cells #[.int .i64 3, .string sRange, .slice A' ats.length cap', .int .i64 at_] RTg)).alloc (by simp; omega) (.cells #[.string sOBegin, .string sDBegin, .string sLength, .string sTime] 9)).alloc (by simp; omega) (.cells #[.int .i64 0, .int .i64 0, .int .i64 1, .int .i64 0] 3)).alloc (by simp; omega) (.cells #[.int .i64 281474976710655, .int .i64 65535, .int .i64 16384, .int .i64 16777215] 3)
            have hb5 : Below X wr (((((wr.setCell ⟨X, 0, none⟩ (.slice (some ⟨b, off + 4, none⟩) L.length (cap - 1))).alloc (.cells #[.int .i64 3, .string sRange, .slice A' ats.length cap', .int .i64 at_] RTg)).alloc (.cells #[.string sOBegin, .string sDBegin, .string sLength, .string sTime] 9)).alloc (.cells #[.int .i64 0, .int .i64 0, .int .i64 1, .int .i64 0] 3)).alloc (.cells #[.int .i64 281474976710655, .int .i64 65535, .int .i64 16384, .int .i64 16777215] 3)) := (((((Below.refl X wr).setCell (p := ⟨X, 0, none⟩) (Nat.le_refl X) (.slice (some ⟨b, off + 4, none⟩) L.length (cap - 1))).alloc (by simp; omega) (.cells #[.int .i64 3, .string sRange, .slice A' ats.length cap', .int .i64 at_] RTg)).alloc (by simp; omega) (.cells #[.string sOBegin, .string sDBegin, .string sLength, .string sTime] 9)).alloc (by simp; omega) (.cells #[.int .i64 0, .int .i64 0, .int .i64 1, .int .i64 0] 3)).alloc (by simp; omega) (.cells #[.int .i64 281474976710655, .int .i64 65535, .int .i64 16384, .int .i64 16777215] 3)
            generalize hW5 : (((((wr.setCell ⟨X, 0, none⟩ (.slice (some ⟨b, off + 4, none⟩) L.length (cap - 1))).alloc (.cells #[.int .i64 3, .string sRange, .slice A' ats.length cap', .int .i64 at_] RTg)).alloc (.cells #[.string sOBegin, .string sDBegin, .string sLength, .string sTime] 9)).alloc (.cells #[.int .i64 0, .int .i64 0, .int .i64 1, .int .i64 0] 3)).alloc (.cells #[.int .i64 281474976710655, .int .i64 65535, .int .i64 16384, .int .i64 16777215] 3)) = w5 at *
            have hs5 := hb5.size
            have hI5 : RdI w5 X (some ⟨b, off + 4, none⟩) L := by
              exact hIt.out.below hb5
            have hr5 := (HRd.out.below hb5).mono (show X ≤ w5.heap.size by omega)
            have HC := hide (rnumbers_any X _ (3, sRange, ats, at_) kRange A' (some ⟨wr.heap.size + 1, 0, none⟩) (some ⟨wr.heap.size + 1 + 1, 0, none⟩) (some ⟨wr.heap.size + 1 + 1 + 1, 0, none⟩) cap' 4 4 4 false w5 hX5 rfl (by decide) (by decide)
              hr5 (HTM.out.2 _ (by simp)).1 (HTM.out.2 _ (by simp)).2 (rd_blk (v := fun x : ByteArray => Value.string x) hn5) (rd_blk (v := fun x : Int => Value.int .i64 x) hl5) (rd_blk (v := fun x : Int => Value.int .i64 x) hh5) isSup_r)
            have HX5 := hide hX5; have HD5 := hide hD5; have HM5 := hide hM5; have HT5 := hide hT5; have HF5 := hide hF5; have HI5 := hide hI5
            have hkk : kOf sRange = kRange := by simp [kOf, isSup_r, isDev_r, isSin_r]
            have hrc := HRC.out
            try dsimp only at hrc
            rw [hkk] at hrc
            obtain ⟨R, hRR⟩ : ∃ R, numsL false kRange at_ ats [] = R := ⟨_, rfl⟩
            rw [hRR] at hrc
            have hcc := HC.out
            try dsimp only at hcc
            rw [hRR] at hcc
            have HCC := hide hcc
            have HR2 := hide hrc
            have HRR := hide hRR
            have HW5 := hide hW5
            clear hX5 hD5 hM5 hT5 hn5 hl5 hh5 hF5 hb5 hI5 hr5 HC hrc hcc hRR HRC hW5
            go_wp2_with (fail)
            rw [HW5.out]
            refine HCC.out.mono ?_
            intro e w6 hN
            cases R with
            | error pc =>
              obtain ⟨p, c⟩ := pc
              obtain ⟨g6, ns, hg6, rfl, hnl, hR6, hX6, hb6⟩ := hN
              have hc0 : c ≠ 0 := by have := (numsL_err HRR.out).1; omega
              have z8 := hX6.cell 8
              have hXl6 := hX6.lt
              simp at z8
              have hce : (c == 0) = false := by simpa using hc0
              have H9 := hide (show Fr X D β w w6 ∧ RErr X r.N p c w6 from ⟨HF5.out.trans (Fr.of hb6 (by omega)), hc0, { r with lv := (.slice (some ⟨b, off + 4, none⟩) L.length (cap - 1)), sum := sum, e := c, at_ := p }, L, (some ⟨b, off + 4, none⟩), (cap - 1), rfl, rfl, rfl, by omega, rfl, hX6, HI5.out.below (hb6.below (by omega) (Nat.le_refl X))⟩)
              clear hX6 hb6 hR6 c0 c1 c2 c3 x0 x0f x8
              go_wp2
              go_roundg (gk - 1)
              case measure => omega
              case rel => exact ⟨H9.out.1, .inr ⟨p, c, HR2.out, H9.out.2⟩⟩
            | ok o =>
              obtain ⟨g6, hg6, rfl, hR6, hb6⟩ := hN
              have hnb := hR6.lt
              simp only [show kRange.length = 4 from rfl]
              have n0 : w6.cell? ⟨g6, 0, none⟩ = some (.int .i64 (gv o sOBegin)) := hR6.cell 0
              have n1 : w6.cell? ⟨g6, 1, none⟩ = some (.int .i64 (gv o sDBegin)) := hR6.cell 1
              have n2 : w6.cell? ⟨g6, 2, none⟩ = some (.int .i64 (gv o sLength)) := hR6.cell 2
              have n3 : w6.cell? ⟨g6, 3, none⟩ = some (.int .i64 (gv o sTime)) := hR6.cell 3
              have hX6 := HX5.out.below hb6 HX5.out.lt
              have hD6 := HD5.out.below hb6 HD5.out.lt
              have hM6 := HM5.out.below hb6 (fun q hq => (HM5.out.lt q hq).2)
              have hT6 := HT5.out.below hb6 HT5.out.lt
              have hF6 := HF5.out.trans (Fr.below hb6 (by omega))
              have hI6 := HI5.out.below (hb6.mono (show X ≤ w5.heap.size by omega))
              have hs6 := hb6.size
              have z8 := hX6.cell 8
              have hXl6 := hX6.lt
              have t0 := hT6.cell 0
              have t1 := hT6.cell 1
              have t2 := hT6.cell 2
              have t3 := hT6.cell 3
              have hTl6 := hT6.lt
              simp at z8 t0 t1 t2 t3
              have hbd := rng_ok (at_ := at_) (ats := ats) (out := o) (by rw [isSup_r, hkk]; exact HRR.out)
              have hro : rnOf sRange o = rngRn o := by unfold rnOf; rw [if_neg (by rw [isSin_r]; simp)]
              have hrc := HR2.out
              try dsimp only at hrc
              rw [hro] at hrc
              obtain ⟨q, hq⟩ : ∃ q, runX sum r.da (lastV (-1) ms + 1) at_ (rngRn o) = q := ⟨_, rfl⟩
              rw [hq] at hrc
              have hcall := fun (wz : World) (h1 : Blk wz X RSt _) (h2 : Blk wz D 123 _) (h3 : Own wz β 39 3 mc vm ms) (h4 : β ≤ wz.heap.size) => rrun_any X D β _ 3 at_ sRange (.slice A' ats.length cap') (rngRn o) d1 d2 d3 d4 vm ms wz h1 (show (({ r with lv := (.slice (some ⟨b, off + 4, none⟩) L.length (cap - 1)), sum := sum, e := 0 } : Rh)).e = 0 from rfl) h2 h3 h4 (by omega) hda hsm (by omega) HMV.out ⟨hbd.1.1, hbd.1.2.1, hbd.2.1, hbd.1.2.2.2⟩
              have HCALL := hide hcall
              have HRC3 := hide hrc
              have HQ := hide hq
              have HBD := hide hbd
              have HX6 := hide hX6.drew; have HD6 := hide hD6.drew; have HM6 := hide hM6.drew; have HF6 := hide hF6.drew; have HI6 := hide hI6
              clear hX6 hD6 hM6 hT6 hF6 hI6 hcall hrc hq hbd hR6 c0 c1 c2 c3 x0 x0f x8 hb6
              go_wp2_with (fail)
              go_still_tail 15, (by kernel_rfl)
              change wpList _ _ _ _ _ (World.drew _)
              go_wp2_with (fail)
              refine (HCALL.out _ HX6.out HD6.out HM6.out (by show β ≤ w6.heap.size; omega)).mono ?_
              rintro e w8 ⟨rfl, hrr⟩
              dsimp only at hrr
              rw [HQ.out] at hrr
              have hrr2 := hrr
              clear hrr
              cases q with
              | some pc =>
                obtain ⟨p, c⟩ := pc
                obtain ⟨hX8, hb8⟩ := hrr2
                have hc0 := runX_err HQ.out
                have H9 := hide (show Fr X D β w w8 ∧ RErr X r.N p c w8 from ⟨HF6.out.trans (Fr.of hb8 (by show β ≤ w6.heap.size; omega)), hc0, { r with lv := (.slice (some ⟨b, off + 4, none⟩) L.length (cap - 1)), sum := sum + (rngRn o).2.2.1, e := c, at_ := p }, L, (some ⟨b, off + 4, none⟩), (cap - 1), rfl, rfl, rfl, by omega, rfl, hX8, RdI.below (show RdI w6.drew X (some ⟨b, off + 4, none⟩) L from HI6.out) (hb8.below (show X ≤ w6.heap.size by omega) (Nat.le_refl X))⟩)
                clear hX8 hb8
                go_wp2
                go_roundg (gk - 1)
                case measure => omega
                case rel => exact ⟨H9.out.1, .inr ⟨p, c, HRC3.out, H9.out.2⟩⟩
              | none =>
                obtain ⟨vm8, hX8, hD8, hM8, hF8⟩ := hrr2
                obtain ⟨u1, u2, u3⟩ := runX_none HQ.out
                obtain ⟨⟨y1, y2, y3⟩, y4⟩ := HBD.out
                have hlow := hF8.low' (C := X) (Nat.le_refl X) (by omega) (by omega)
                have H9 := hide (show Fr X D β w w8 ∧ ROk X r L (sum + (rngRn o).2.2.1) w8 from ⟨HF6.out.trans hF8, (some ⟨b, off + 4, none⟩), (cap - 1), by simp at hcap; omega, hX8, RdI.below (show RdI w6.drew X (some ⟨b, off + 4, none⟩) L from HI6.out) hlow⟩)
                have HD8 := hide hD8; have HM8 := hide hM8
                have hml2 : (ms ++ mapsR (rngRn o) (rngRn o).2.2.1.toNat).length = ms.length + (rngRn o).2.2.1.toNat := by rw [List.length_append, mapsR_len]
                have hmv2 := hide (mapsR_key HMV.out y1.1 u1)
                have HTL := hide (show TMild L from ⟨by have := HTM.out.1; simp only [List.length_cons] at this; omega, fun x hx => HTM.out.2 x (by simp [hx])⟩)
                clear hX8 hD8 hM8 hF8 hlow
                go_wp2
                go_roundg (gk - 1)
                case measure => omega
                case rel => exact ⟨H9.out.1, .inl ⟨L, _, _, vm8, by omega, HTL.out, by omega, by omega, hmv2.out, H9.out.2, HD8.out, HM8.out, by omega, HRC3.out⟩⟩
      · have hR2 : runsX r.da sum ms T = .ok (sum, ms, T) := by
          cases T with
          | nil => rfl
          | cons t L => rw [runsX_cons, if_neg (fun h => hnr ⟨t, L, rfl, h⟩)]
        have hf1 : ∀ s : ByteArray, s = sSingle ∨ s = sRange → isR 0 T 3 s = false := by
          intro s hs
          unfold isR
          cases T with
          | nil => rfl
          | cons t L =>
            rw [Bool.eq_false_iff]
            intro hc
            simp only [Bool.and_eq_true, decide_eq_true_eq, beq_iff_eq] at hc
            apply hnr
            refine ⟨t, L, rfl, ?_⟩
            have hb := bytes_list hc.2.2
            simp only [isRunT, hc.2.1, hb]
            rcases hs with rfl | rfl
            · rw [isSin_1]; rfl
            · rw [isRng_r]; simp
        have h1 := hide (ris_any X X _ A cap T 3 sSingle false wr hX rfl hI hwX hTM.1 (hf1 _ (.inl rfl)))
        have h2 := hide (ris_any X X _ A cap T 3 sRange false wr hX rfl hI hwX hTM.1 (hf1 _ (.inr rfl)))
        have hfin := hide (show RRunsOut X D β r d1 d2 d3 d4 w (.ok (sum, ms, T)) (.returned (.tuple #[])) wr from ⟨rfl, HF.out, vm, ⟨A, cap, hcap, hX, hI⟩, hD, hM⟩)
        have HR := hide (hR.trans hR2)
        clear hX hI hR hR2 hD hM hmv hf1 hnr
        go_wp2_with (fail)
        refine h1.out.mono ?_
        rintro e w4 ⟨rfl, hw4⟩
        have hw5 := hw4.symm
        subst hw5
        go_wp2_with (fail)
        refine h2.out.mono ?_
        rintro e w4 ⟨rfl, hw4⟩
        have hw5 := hw4.symm
        subst hw5
        go_wp2_with (fail)
        go_end0
        rw [HR.out]
        exact hfin.out
    · have hXl := hX.lt
      have hwX : X ≤ wr.heap.size := by omega
      have h1 := hide (ris_any X X r' A cap T 3 sSingle false wr hX hlv hI hwX hTl (by unfold isR; rw [he, decide_eq_false hc0]; rfl))
      have h2 := hide (ris_any X X r' A cap T 3 sRange false wr hX hlv hI hwX hTl (by unfold isR; rw [he, decide_eq_false hc0]; rfl))
      have hfin := hide (show RRunsOut X D β r d1 d2 d3 d4 w (.error (p, c)) (.returned (.tuple #[])) wr from ⟨rfl, HF.out, hc0, r', T, A, cap, hN, he, hat, hTl, hlv, hX, hI⟩)
      have HR := hide hR
      clear hX hI hR
      go_wp2_with (fail)
      refine h1.out.mono ?_
      rintro e w4 ⟨rfl, hw4⟩
      have hw5 := hw4.symm
      subst hw5
      go_wp2_with (fail)
      refine h2.out.mono ?_
      rintro e w4 ⟨rfl, hw4⟩
      have hw5 := hw4.symm
      subst hw5
      go_wp2_with (fail)
      go_end0
      rw [HR.out]
      exact hfin.out
end Go.Proofs.Ytcblakflhheepaa
