/- Chapter 43: the reference's Parse: what its steps leave. -/
import Derived.Test.YtcblakflhheepaaRefK
import Derived.Test.YtcblakflhheepaaTagM
namespace Go.Proofs.Ytcblakflhheepaa
open Go.RowKit
set_option linter.unusedVariables false
set_option linter.unusedSimpArgs false

/-- Is the next tag an opening or a lone one that f names? -/
def opB (f : ByteArray → Bool) (T : List Ti) : Bool := match T with | [] => false | t :: _ => (decide (t.1 = 1) || decide (t.1 = 3)) && f t.2.1
def clB (f : ByteArray → Bool) (T : List Ti) : Bool := match T with | [] => false | t :: _ => decide (t.1 = 2) && f t.2.1
theorem isR_cons {t : Ti} {L : List Ti} {k : Int} {nm : ByteArray} {f : ByteArray → Bool} (hf : ∀ x, f x = true ↔ x = nm) : isR 0 (t :: L) k nm = (decide (t.1 = k) && f t.2.1) := by
  have h : (t.2.1.toList == nm.toList) = f t.2.1 := by
    rw [Bool.eq_iff_iff, hf]
    constructor
    · intro h; exact bytes_list (by simpa using h)
    · intro h; rw [h]; simp
  unfold isR
  dsimp only
  rw [h]
  simp
theorem op_is {f : ByteArray → Bool} {nm : ByteArray} (hf : ∀ x, f x = true ↔ x = nm) (T : List Ti) :
    (opB f T = false ∧ isR 0 T 1 nm = false ∧ isR 0 T 3 nm = false) ∨ (opB f T = true ∧ isR 0 T 1 nm = true) ∨ (opB f T = true ∧ isR 0 T 1 nm = false ∧ isR 0 T 3 nm = true) := by
  cases T with
  | nil => exact .inl ⟨rfl, rfl, rfl⟩
  | cons t L =>
    rw [isR_cons hf, isR_cons hf]
    unfold opB
    dsimp only
    by_cases h1 : t.1 = 1
    · cases f t.2.1 <;> simp [h1]
    · by_cases h3 : t.1 = 3 <;> cases f t.2.1 <;> simp [h1, h3]
theorem cl_is {f : ByteArray → Bool} {nm : ByteArray} (hf : ∀ x, f x = true ↔ x = nm) (T : List Ti) : isR 0 T 2 nm = clB f T := by
  cases T with
  | nil => rfl
  | cons t L => rw [isR_cons hf]; rfl
theorem sup_iff (x : ByteArray) : isSup x = true ↔ x = sSuper := ⟨isSup_eq, fun h => by rw [h]; exact isSup_s⟩
theorem dev_iff (x : ByteArray) : isDev x = true ↔ x = sDevice := ⟨isDev_eq, fun h => by rw [h]; exact isDev_d⟩
theorem opB_ok {f : ByteArray → Bool} {T : List Ti} (h : opB f T = true) : ∃ t L, T = t :: L ∧ (t.1 = 1 ∨ t.1 = 3) ∧ f t.2.1 = true := by
  cases T with
  | nil => cases h
  | cons t L => exact ⟨t, L, rfl, by simpa [opB] using h⟩
theorem clB_ok {f : ByteArray → Bool} {T : List Ti} (h : clB f T = true) : ∃ t L, T = t :: L ∧ t.1 = 2 ∧ f t.2.1 = true := by
  cases T with
  | nil => cases h
  | cons t L => exact ⟨t, L, rfl, by simpa [clB] using h⟩
theorem parseX_no {N : Int} {T : List Ti} (h : opB isSup T = false) : parseX N T = .error (headAt N T, 16) := by
  cases T with
  | nil => rfl
  | cons t L => unfold parseX; exact if_neg (show ¬ isSupT t = true by rw [show isSupT t = false from h]; simp)
/-- parseX of a superblock whose numbers are fine. -/
theorem parseX_yes {N : Int} {t : Ti} {L : List Ti} (h : (t.1 = 1 ∨ t.1 = 3) ∧ isSup t.2.1 = true) : parseX N (t :: L) = (match numsL true kSuper t.2.2.2 t.2.2.1 [] with
      | .error e => .error e
      | .ok o => if t.1 = 1 then supEndX N o (devsX N (gv o sData) L.length [] 0 L) else endX (plOf o []) L) := if_pos (show isSupT t = true by unfold isSupT; rw [h.2]; simpa using h.1)
theorem supEnd_no {N : Int} {o : List (ByteArray × Int)} {D : List Dv} {s : Int} {T : List Ti} (h : clB isSup T = false) : supEndX N o (.ok (D, s, T)) = .error (headAt N T, 16) := by
  cases T with
  | nil => rfl
  | cons c L =>
    show (if c.1 = 2 ∧ isSup c.2.1 = true then _ else _) = _
    rw [if_neg (by simpa [clB] using h)]
    rfl
theorem supEnd_yes {N : Int} {o : List (ByteArray × Int)} {D : List Dv} {s : Int} {c : Ti} {L : List Ti} (h : c.1 = 2 ∧ isSup c.2.1 = true) : supEndX N o (.ok (D, s, c :: L)) = endX (plOf o D) L := if_pos h
theorem devs_stop {N data : Int} {g : Nat} {D : List Dv} {s : Int} {T : List Ti} (h : opB isDev T = false) : devsX N data g D s T = .ok (D, s, T) := by
  cases g with
  | zero => rfl
  | succ g => cases T with
    | nil => rfl
    | cons t L => exact if_neg (show ¬ isDevT t = true by rw [show isDevT t = false from h]; simp)
theorem devs_go {N data : Int} {g : Nat} {D : List Dv} {s : Int} {t : Ti} {L : List Ti} (h : isDevT t = true) : devsX N data (g + 1) D s (t :: L) = (match devX N data D s t L with
      | .error e => .error e
      | .ok (D', sum', L') => devsX N data g D' sum' L') := if_pos h
theorem devX_ok {N data : Int} {D D' : List Dv} {sum sum' : Int} {t : Ti} {T L' : List Ti} (hs : 0 ≤ sum ∧ sum ≤ 16384) (h : devX N data D sum t T = .ok (D', sum', L')) : (0 ≤ sum' ∧ sum' ≤ 16384) ∧ L'.length ≤ T.length ∧ (∀ x ∈ L', x ∈ T) ∧ D'.length ≤ 4096 := by
  unfold devX at h
  split at h
  · cases h
  · split at h
    · cases h
    · rename_i h1
      split at h
      · cases h
      · split at h
        · cases hr : runsX data sum [] T with
          | error e => rw [hr] at h; cases h
          | ok q =>
            obtain ⟨s2, ms, T2⟩ := q
            obtain ⟨a1, a2, a3⟩ := runsX_ok hs hr
            rw [hr] at h
            cases T2 with
            | nil => cases h
            | cons c T3 =>
              unfold devEndX at h
              dsimp only at h
              split at h
              · split at h
                · cases h
                · injection h with h
                  injection h with e1 h
                  injection h with e2 e3
                  subst e1; subst e2; subst e3
                  simp only [List.length_cons] at a2
                  exact ⟨a1, by omega, fun x hx => a3 x (by simp [hx]), by simp only [List.length_append, List.length_cons, List.length_nil]; omega⟩
              · cases h
        · split at h
          · cases h
          · injection h with h
            injection h with e1 h
            injection h with e2 e3
            subst e1; subst e2; subst e3
            exact ⟨hs, Nat.le_refl _, fun x hx => hx, by simp only [List.length_append, List.length_cons, List.length_nil]; omega⟩
theorem sup_ns {m0 m1 m2 m3 : Int} {o : List (ByteArray × Int)} (h : [m0, m1, m2, m3] = kSuper.map (fun x => gv o x.1)) : m0 = gv o sTime ∧ m1 = gv o sTx ∧ m2 = gv o sUnit ∧ m3 = gv o sData := by
  have h2 : [m0, m1, m2, m3] = [gv o sTime, gv o sTx, gv o sUnit, gv o sData] := h
  injection h2 with h0 h2
  injection h2 with h1 h2
  injection h2 with h3 h2
  injection h2 with h4 h2
  exact ⟨h0, h1, h3, h4⟩
theorem sup_data {at_ : Int} {ats : List Ai} {o : List (ByteArray × Int)} (h : numsL true kSuper at_ ats [] = .ok o) : 0 ≤ gv o sData ∧ gv o sData ≤ 65536 := by
  have hk : kOf sSuper = kSuper := by simp [kOf, isSup_s]
  exact nums_ok (nm := sSuper) (at_ := at_) (ats := ats) (by rw [isSup_s, hk]; exact h) (k := sData) (by rw [hk]; rfl)

/-- How the reference's parsing ends. -/
def RParse (X : Nat) (N : Int) (w0 : World) (R : Except (Int × Int) Pl) (w : World) : Prop :=
  Below X w0 w ∧ match R with
  | .error (p, c) => RErr X N p c w
  | .ok pl => ∃ lv sum a v, Blk w X RSt (rst ⟨lv, N, pl.1, pl.2.1, pl.2.2.1, pl.2.2.2.1, v, sum, 0, a⟩) ∧ RDev X w v pl.2.2.2.2
def RhP (N : Int) (o : List (ByteArray × Int)) (r : Rh) : Prop := r.N = N ∧ r.tx = gv o sTx ∧ r.tm = gv o sTime ∧ r.un = gv o sUnit ∧ r.da = gv o sData
/-- Behind the superblock's inside. -/
def RMid (X : Nat) (N : Int) (w0 : World) (R : Except (Int × Int) Pl) (w : World) : Prop :=
  Below X w0 w ∧ ((∃ p c, R = .error (p, c) ∧ RErr X N p c w) ∨
    (∃ (o : List (ByteArray × Int)) (D : List Dv) (T : List Ti) (r : Rh) (sum : Int), R = endX (plOf o D) T ∧ T.length ≤ 5000000 ∧ RhP N o r ∧ ROk X r T sum w ∧ RDev X w r.dv D))
/-- Within the superblock. -/
def RLoop (X : Nat) (N : Int) (w0 : World) (R : Except (Int × Int) Pl) (g : Nat) (w : World) : Prop :=
  Below X w0 w ∧ ((∃ p c, R = .error (p, c) ∧ RErr X N p c w) ∨
    (∃ (o : List (ByteArray × Int)) (D : List Dv) (T : List Ti) (r : Rh) (sum : Int) (k : Nat), (0 ≤ gv o sData ∧ gv o sData ≤ 65536) ∧ R = supEndX N o (devsX N (gv o sData) k D sum T) ∧ T.length < g ∧ T.length ≤ k ∧ TMild T ∧ (0 ≤ sum ∧ sum ≤ 16384) ∧ D.length ≤ 4096 ∧ RhP N o r ∧ ROk X r T sum w ∧ RDev X w r.dv D))
/-- Behind the superblock's numbers. -/
def RSup (X Tb : Nat) (N : Int) (w0 : World) (R : Except (Int × Int) Pl) (kd : Int) (L : List Ti) (w : World) : Prop :=
  Below X w0 w ∧ Tb < w.heap.size ∧ w.cell? ⟨Tb, 0, none⟩ = some (.int .i64 kd) ∧ TMild L ∧ ((∃ p c, R = .error (p, c) ∧ RErr X N p c w) ∨
    (∃ (o : List (ByteArray × Int)) (r : Rh), (0 ≤ gv o sData ∧ gv o sData ≤ 65536) ∧ RhP N o r ∧ r.dv = .slice none 0 0 ∧ ROk X r L 0 w ∧ R = if kd = 1 then supEndX N o (devsX N (gv o sData) L.length [] 0 L) else endX (plOf o []) L))
section
variable {X : Nat} {r : Rh} {T : List Ti} {sum : Int} {w w0 : World}
theorem ROk.lt (h : ROk X r T sum w) : X < w.heap.size := by
  obtain ⟨A, c, h1, h2, h3⟩ := h
  exact h2.lt
theorem ROk.is0 (h : ROk X r T sum w) (hT : T.length ≤ 5000000) (k : Int) (nm : ByteArray) (v : Bool) (hv : isR 0 T k nm = v) :
    Calls Try.prog 51 #[.pointer (some ⟨X, 0, none⟩), .int .i64 k, .string nm] w fun e w' => e = .returned (.bool v) ∧ w' = w := by
  obtain ⟨A, c, h1, h2, h3⟩ := h
  exact ris_any X X _ A c T k nm v w h2 rfl h3 (by have := h2.lt; omega) hT hv
theorem ROk.wrong (h : ROk X r T sum w) (hT : T.length ≤ 5000000) (hb : Below X w0 w) :
    Calls Try.prog 54 #[.pointer (some ⟨X, 0, none⟩)] w fun e w' => e = .returned (.tuple #[]) ∧ Below X w0 w' ∧ RErr X r.N (headAt r.N T) 16 w' := by
  obtain ⟨A, c, h1, h2, h3⟩ := h
  refine (wrong_any X X _ A c T w h2 rfl rfl h3 (by have := h2.lt; omega) hT).mono ?_
  rintro e w' ⟨rfl, hX, hbt⟩
  have hbl := hbt.below (C := X) (by have := h2.lt; omega) (Nat.le_refl X)
  exact ⟨rfl, hb.trans hbl, by decide, { r with lv := .slice A T.length c, sum := sum, e := 16, at_ := headAt r.N T }, T, A, c, rfl, rfl, rfl, hT, rfl, hX, h3.below hbl⟩
theorem ROk.len (h : ROk X r T sum w) : ∃ A c, w.cell? ⟨X, 0, none⟩ = some (.slice A T.length c) := by
  obtain ⟨A, c, h1, h2, h3⟩ := h
  have x0 := h2.cell 0
  simp at x0
  exact ⟨A, c, x0⟩
theorem RErr.len {N p c : Int} (h : RErr X N p c w) : X < w.heap.size ∧ ∃ A n k, n ≤ 5000000 ∧ w.cell? ⟨X, 0, none⟩ = some (.slice A n k) := by
  obtain ⟨hc, r, T, A, cap, h1, h2, h3, h4, h5, h6, h7⟩ := h
  have x0 := h6.cell 0
  simp at x0
  rw [h5] at x0
  exact ⟨h6.lt, A, _, cap, h4, x0⟩
/-- The state's next tag. -/
theorem ROk.head {t : Ti} {L : List Ti} (h : ROk X r (t :: L) sum w) :
    ∃ b off c, w.cell? ⟨X, 0, none⟩ = some (.slice (some ⟨b, off, none⟩) (L.length + 1) c) ∧ w.frozen? ⟨X, 0, none⟩ = false ∧ L.length + 1 ≤ c ∧ b < w.heap.size ∧
      ∀ A2 c2, (c = 1 ∧ A2 = some ⟨b, off, none⟩ ∧ c2 = 0) ∨ (c ≠ 1 ∧ A2 = some ⟨b, off + 4, none⟩ ∧ c2 = c - 1) →
        ROk X r L sum (w.setCell ⟨X, 0, none⟩ (.slice A2 L.length c2)) ∧ Below X w (w.setCell ⟨X, 0, none⟩ (.slice A2 L.length c2)) ∧ ∀ v D, RDev X w v D → RDev X (w.setCell ⟨X, 0, none⟩ (.slice A2 L.length c2)) v D := by
  obtain ⟨A, c, h1, h2, h3⟩ := h
  obtain ⟨b, off, A', cap', rfl, hbB, -, -, -, -, -⟩ := h3 0 t rfl
  have x0 := h2.cell 0
  simp at x0
  have hXl := h2.lt
  simp only [List.length_cons] at h1
  refine ⟨b, off, c, x0, h2.frozen 0, h1, by omega, fun A2 c2 hc => ?_⟩
  have hbl : Below X w (w.setCell ⟨X, 0, none⟩ (.slice A2 L.length c2)) := (Below.refl X w).setCell (p := ⟨X, 0, none⟩) (Nat.le_refl X) _
  have hS := h2.set_ 0 (.slice A2 L.length c2)
  refine ⟨⟨A2, c2, ?_, by simpa using hS, ?_⟩, hbl, ?_⟩
  · rcases hc with ⟨rfl, rfl, rfl⟩ | ⟨hc, rfl, rfl⟩ <;> omega
  · rcases hc with ⟨rfl, rfl, rfl⟩ | ⟨hc, rfl, rfl⟩
    · obtain rfl : L = [] := List.eq_nil_of_length_eq_zero (by omega)
      exact RdI.nil _ _ _
    · exact h3.tail.below hbl
  · rintro v D ⟨rows, q1, q2⟩
    exact ⟨rows, q1.setCell (p := ⟨X, 0, none⟩) (own_blk_ne q1 h2 (by decide)) _, q2.keep fun r' _ l hl => hl.setCell (p := ⟨X, 0, none⟩) (own_blk_ne hl h2 (by decide)) _⟩
end
theorem RDev.nil (X : Nat) (w : World) : RDev X w (.slice none 0 0) [] := ⟨[], Own.nil _ _ _ _ _, trivial⟩
/-- The devices as a slice of devices that are read. -/
theorem RDev.rd {X : Nat} {w : World} {v : Value} {L : List Dv} (h : RDev X w v L) : ∃ A cap, v = .slice A L.length cap ∧ RdD w w.heap.size A L := by
  obtain ⟨rows, h1, h2⟩ := h
  obtain ⟨A, n, cap, rfl, hn, hrd⟩ := h1.rd drc_len
  refine ⟨A, cap, by rw [hn, h2.len], ?_⟩
  intro i d hd
  obtain ⟨r, hr, e1, e2, e3, e4, ho⟩ := h2.get hd
  obtain ⟨b, off, hA, hb, hc⟩ := hrd i r hr
  obtain ⟨A2, n2, cap2, he2, hn2, hrd2⟩ := ho.rd mc_len'
  injection he2 with y1 y2 y3
  refine ⟨b, off, A2, cap2, hA, hb, ?_, ?_, ?_, ?_, ?_, hrd2⟩
  · have := hc 0 _ rfl; simpa [e1] using this
  · have := hc 1 _ rfl; simpa [e2] using this
  · have := hc 2 _ rfl; simpa [e3] using this
  · have := hc 3 _ rfl; simpa [e4] using this
  · have := hc 4 _ rfl; rw [this, y1, y2, y3, hn2]
theorem RDev.far {X P i : Nat} {w : World} {v : Value} {L : List Dv} (h : RDev X w v L) (hP : P ≤ X) (u : Value) : RDev X (w.setCell ⟨P, i, none⟩ u) v L := by
  obtain ⟨rows, h1, h2⟩ := h
  refine ⟨rows, h1.setCell (p := ⟨P, i, none⟩) (fun e => by have := (h1.lt _ e).1; dsimp only at this; omega) u, h2.keep fun r' _ l hl => hl.setCell (p := ⟨P, i, none⟩) (fun e => by have := (hl.lt _ e).1; dsimp only at this; omega) u⟩
theorem RDev.drewN {X : Nat} {w : World} {v : Value} {L : List Dv} (h : RDev X w v L) (n : Nat) : RDev X (w.drewN n) v L := by
  obtain ⟨rows, h1, h2⟩ := h
  exact ⟨rows, h1.drewN n, h2.keep fun r' _ l hl => hl.drewN n⟩
/-- What the reference's Parse's numbers leave. -/
theorem sup_start {X : Nat} {N : Int} {T : List Ti} {kd at_ : Int} {tv : Value} {w0 w5 w6 : World} {A2 : Option Addr} {c2 Tb : Nat} {R : Except (Int × Int) (List (ByteArray × Int))} {e : Ending}
    (hN : RNums X ⟨.slice A2 T.length c2, N, 0, 0, 0, 0, .slice none 0 0, 0, 0, 0⟩ kSuper w5 R e w6) (hX5 : Blk w5 X RSt (rst ⟨.slice A2 T.length c2, N, 0, 0, 0, 0, .slice none 0 0, 0, 0, 0⟩)) (hI5 : RdI w5 X A2 T) (hT5 : Blk w5 Tb RTg #[.int .i64 kd, .string sSuper, tv, .int .i64 at_]) (hb5 : Below X w0 w5) (hTb : X < Tb)
    (hRe : ∀ p c, R = .error (p, c) → c ≠ 0) :
    ∃ (g : Nat) (m0 m1 m2 m3 : Int), e = .returned (.slice (some ⟨g, 0, none⟩) 4 4) ∧ w6.cell? ⟨g, 0, none⟩ = some (.int .i64 m0) ∧ w6.cell? ⟨g, 1, none⟩ = some (.int .i64 m1) ∧ w6.cell? ⟨g, 2, none⟩ = some (.int .i64 m2) ∧ w6.cell? ⟨g, 3, none⟩ = some (.int .i64 m3) ∧ g < w6.heap.size ∧ X < g ∧
      ∃ ce pe, ((ce ≠ 0 ∧ R = .error (pe, ce)) ∨ (ce = 0 ∧ ∃ o, R = .ok o ∧ [m0, m1, m2, m3] = kSuper.map fun x => gv o x.1)) ∧
        Blk w6 X RSt (rst ⟨.slice A2 T.length c2, N, 0, 0, 0, 0, .slice none 0 0, 0, ce, pe⟩) ∧ RdI w6 X A2 T ∧ Blk w6 Tb RTg #[.int .i64 kd, .string sSuper, tv, .int .i64 at_] ∧ Below X w0 w6 := by
  have hXl := hX5.lt
  cases R with
  | error pc =>
    obtain ⟨p, c⟩ := pc
    obtain ⟨g6, ns, h0, rfl, h2, h3, h4, h5⟩ := hN
    obtain ⟨m0, m1, m2, m3, rfl⟩ : ∃ a b c d, ns = [a, b, c, d] := by
      match ns, h2 with
      | [a, b, c, d], _ => exact ⟨a, b, c, d, rfl⟩
    have hbl := h5.below (C := X) (by omega) (Nat.le_refl X)
    exact ⟨g6, m0, m1, m2, m3, rfl, h3.cell 0, h3.cell 1, h3.cell 2, h3.cell 3, h3.lt, by omega, c, p, .inl ⟨hRe p c rfl, rfl⟩, h4, hI5.below hbl, hT5.but h5 hT5.lt (by omega), hb5.trans hbl⟩
  | ok o =>
    obtain ⟨g6, h0, rfl, h2, h3⟩ := hN
    have hbl := (But.of h3 X).below (C := X) (by omega) (Nat.le_refl X)
    exact ⟨g6, _, _, _, _, rfl, h2.cell 0, h2.cell 1, h2.cell 2, h2.cell 3, h2.lt, by omega, 0, 0, .inr ⟨rfl, o, rfl, rfl⟩, hX5.below h3 hX5.lt, hI5.below hbl, hT5.below h3 hT5.lt, hb5.trans hbl⟩
/-- .. and the superblock's place. -/
theorem sup_set {X : Nat} {lv : Value} {N t0 t1 t2 t3 s ce pe m0 m1 m2 m3 : Int} {v : Value} {B : Nat} {w0 w6 W : World} (h : Blk w6 X RSt (rst ⟨lv, N, t0, t1, t2, t3, v, s, ce, pe⟩)) (hb : Below B w0 w6) (hB : B ≤ X)
    (hW : W = ((((w6.setCell ⟨X, 2, none⟩ (.int .i64 m1)).setCell ⟨X, 3, none⟩ (.int .i64 m0)).setCell ⟨X, 4, none⟩ (.int .i64 m2)).setCell ⟨X, 5, none⟩ (.int .i64 m3)).setCell ⟨X, 6, none⟩ (.slice none 0 0)) :
    Blk W X RSt (rst ⟨lv, N, m1, m0, m2, m3, .slice none 0 0, s, ce, pe⟩) ∧ But w6.heap.size X w6 W ∧ Below B w0 W := by
  subst hW
  exact ⟨by simpa using ((((h.set_ 2 (.int .i64 m1)).set_ 3 (.int .i64 m0)).set_ 4 (.int .i64 m2)).set_ 5 (.int .i64 m3)).set_ 6 (.slice none 0 0),
    (((((But.refl w6.heap.size X w6).self 2 _).self 3 _).self 4 _).self 5 _).self 6 _,
    ((((hb.setCell (p := ⟨X, 2, none⟩) hB _).setCell (p := ⟨X, 3, none⟩) hB _).setCell (p := ⟨X, 4, none⟩) hB _).setCell (p := ⟨X, 5, none⟩) hB _).setCell (p := ⟨X, 6, none⟩) hB _⟩
end Go.Proofs.Ytcblakflhheepaa
