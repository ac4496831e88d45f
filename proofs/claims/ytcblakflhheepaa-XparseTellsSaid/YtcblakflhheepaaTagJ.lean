/- Chapter 41: the reference takes an attribute. -/
import Derived.Test.YtcblakflhheepaaTagI
namespace Go.Proofs.Ytcblakflhheepaa
open Go.RowKit
set_option linter.unusedVariables false
set_option linter.unusedSimpArgs false

def dupS (l : List Av) (nm : ByteArray) (x : Nat × Nat) (p : Nat) : Nat × Nat := if (fndS l nm).2 then badS x p 17 else x
def plaS (s : ByteArray) (x : Nat × Nat) : Nat × Nat := if x.2 = 0 then (endB plaB s x.1, 0) else x
def plaV (s : ByteArray) (x : Nat × Nat) : ByteArray := if x.2 = 0 then s.extract x.1 (endB plaB s x.1) else ⟨#[]⟩
def attrX4 (l : List Av) (s : ByteArray) (x : Nat × Nat) : Nat × Nat := oneS s 34 (oneS s 61 (dupS l (namV s x) (namS s x) x.1))
def attrX (l : List Av) (s : ByteArray) (x : Nat × Nat) : Nat × Nat := oneS s 34 (plaS s (attrX4 l s x))
def attrV (l : List Av) (s : ByteArray) (x : Nat × Nat) : Av := (namV s x, plaV s (attrX4 l s x), x.1)

theorem mustL_err {s : ByteArray} : ∀ {l : List UInt8} {k : Nat} {e : Nat × Nat}, mustL s k l = .error e → k ≤ s.size → e.1 ≤ s.size ∧ e.2 = 16
  | [], k, e, h, _ => by cases h
  | c :: cs, k, e, h, hk => by
    unfold mustL at h
    split at h
    · rename_i hc
      have := isB_lt hc
      exact mustL_err h (by omega)
    · injection h with h
      subst h
      exact ⟨hk, rfl⟩
theorem nameL_err {s : ByteArray} {k : Nat} {e : Nat × Nat} (h : nameL s k = .error e) : e = (k, 16) := by
  unfold nameL at h
  split at h
  · cases h
  · injection h with h
    exact h.symm
theorem oneS_le {s : ByteArray} {c : UInt8} {x : Nat × Nat} (h : x.1 ≤ s.size) : (oneS s c x).1 ≤ s.size := by
  unfold oneS
  split
  · cases hm : mustL s x.1 [c] with
    | error e => exact (mustL_err hm h).1
    | ok k => exact (mustL_le hm h).2
  · exact h
theorem namS_le {s : ByteArray} {x : Nat × Nat} (h : x.1 ≤ s.size) : (namS s x).1 ≤ s.size := by
  unfold namS
  split
  · cases hm : nameL s x.1 with
    | error e => rw [nameL_err hm]; exact h
    | ok k => exact (nameL_le hm h).2
  · exact h
theorem badS_le {s : ByteArray} {x : Nat × Nat} {p c : Nat} (h : x.1 ≤ s.size) (hp : p ≤ s.size) : (badS x p c).1 ≤ s.size := by
  unfold badS
  split
  · exact hp
  · exact h
theorem dupS_le {s nm : ByteArray} {x : Nat × Nat} {p : Nat} {l : List Av} (h : x.1 ≤ s.size) (hp : p ≤ s.size) : (dupS l nm x p).1 ≤ s.size := by
  unfold dupS
  split
  · exact badS_le h hp
  · exact h
theorem plaS_le {s : ByteArray} {x : Nat × Nat} (h : x.1 ≤ s.size) : (plaS s x).1 ≤ s.size := by
  unfold plaS
  split
  · exact endB_le _ _ _ h
  · exact h
theorem attrX4_le {l : List Av} {s : ByteArray} {x : Nat × Nat} (h : x.1 ≤ s.size) : (attrX4 l s x).1 ≤ s.size := oneS_le (oneS_le (dupS_le (namS_le h) h))
theorem attrX_le {l : List Av} {s : ByteArray} {x : Nat × Nat} (h : x.1 ≤ s.size) : (attrX l s x).1 ≤ s.size := oneS_le (plaS_le (attrX4_le h))

theorem fndS_snoc (nm : ByteArray) (a : Av) : ∀ l : List Av, (fndS (l ++ [a]) nm).2 = ((fndS l nm).2 || decide (a.1 = nm))
  | [] => by
    simp only [List.nil_append, fndS]
    by_cases h : a.1 = nm <;> simp [h]
  | b :: l => by
    simp only [List.cons_append, fndS]
    split
    · rfl
    · exact fndS_snoc nm a l
theorem badS_bad (x : Nat × Nat) (p : Nat) : badS (badS x p 17) p 17 = badS x p 17 := by
  obtain ⟨k, er⟩ := x
  by_cases h : er = 0 <;> simp [badS, h]
theorem dupS_hit {l : List Av} {nm : ByteArray} {x : Nat × Nat} {p k : Nat} {a : Av} (h : l[k]? = some a) (ha : a.1 = nm) : dupS (l.take (k + 1)) nm x p = badS (dupS (l.take k) nm x p) p 17 := by
  unfold dupS
  rw [take_step h, fndS_snoc]
  simp only [ha, decide_true, Bool.or_true, if_true]
  split
  · rw [badS_bad]
  · rfl
theorem dupS_miss {l : List Av} {nm : ByteArray} {x : Nat × Nat} {p k : Nat} {a : Av} (h : l[k]? = some a) (ha : ¬ a.1 = nm) : dupS (l.take (k + 1)) nm x p = dupS (l.take k) nm x p := by
  unfold dupS
  rw [take_step h, fndS_snoc]
  simp [ha]

/-- What the walk of attr has: the state, the attribute, the result's cells. -/
def AS (X : Nat) (s : ByteArray) (w0 : World) (k : Nat) (nm vl : ByteArray) (x : Nat × Nat) (w : World) : Prop :=
  Blk w X TS86 (stt s x) ∧ Blk w (w0.heap.size + 1) 93 #[.string nm, .string vl, .int .i64 k] ∧ Blk w w0.heap.size 93 #[.string ⟨#[]⟩, .string ⟨#[]⟩, .int .i64 0] ∧ But w0.heap.size X w0 w
theorem AS.but {X : Nat} {s : ByteArray} {w0 : World} {k : Nat} {nm vl : ByteArray} {x x' : Nat × Nat} {w w' : World} (h : AS X s w0 k nm vl x w) (hX : Blk w' X TS86 (stt s x')) (hb : But w.heap.size X w w') (hXl : X < w0.heap.size) : AS X s w0 k nm vl x' w' := by
  obtain ⟨h1, h2, h3, h4⟩ := h
  exact ⟨hX, h2.but hb h2.lt (by omega), h3.but hb h3.lt (by omega), h4.trans hb h4.size⟩
theorem AS.drewN {X : Nat} {s : ByteArray} {w0 : World} {k : Nat} {nm vl : ByteArray} {x : Nat × Nat} {w : World} (h : AS X s w0 k nm vl x w) (n : Nat) : AS X s w0 k nm vl x (w.drewN n) := by
  obtain ⟨h1, h2, h3, h4⟩ := h
  exact ⟨h1.drewN n, h2.drewN n, h3.drewN n, h4.drewN n⟩
theorem AS.drew {X : Nat} {s : ByteArray} {w0 : World} {k : Nat} {nm vl : ByteArray} {x : Nat × Nat} {w : World} (h : AS X s w0 k nm vl x w) : AS X s w0 k nm vl x w.drew := by
  obtain ⟨h1, h2, h3, h4⟩ := h
  exact ⟨h1.drew, h2.drew, h3.drew, h4.drew⟩
theorem AS.val {X : Nat} {s : ByteArray} {w0 : World} {k : Nat} {nm vl : ByteArray} {x : Nat × Nat} {w : World} (h : AS X s w0 k nm vl x w) (vl' : ByteArray) (hXl : X < w0.heap.size) : AS X s w0 k nm vl' x (w.setCell ⟨w0.heap.size + 1, 1, none⟩ (.string vl')) := by
  obtain ⟨h1, h2, h3, h4⟩ := h
  refine ⟨h1.far (p := ⟨w0.heap.size + 1, 1, none⟩) (by dsimp only; omega) _, by simpa using h2.set_ 1 (.string vl'), h3.far (p := ⟨w0.heap.size + 1, 1, none⟩) (by dsimp only; omega) _, h4.setCell (p := ⟨w0.heap.size + 1, 1, none⟩) (by dsimp only; omega) _⟩
theorem AS.nam {X : Nat} {s : ByteArray} {w0 : World} {k : Nat} {nm vl : ByteArray} {x : Nat × Nat} {w : World} (h : AS X s w0 k nm vl x w) (nm' : ByteArray) (hXl : X < w0.heap.size) : AS X s w0 k nm' vl x (w.setCell ⟨w0.heap.size + 1, 0, none⟩ (.string nm')) := by
  obtain ⟨h1, h2, h3, h4⟩ := h
  refine ⟨h1.far (p := ⟨w0.heap.size + 1, 0, none⟩) (by dsimp only; omega) _, by simpa using h2.set_ 0 (.string nm'), h3.far (p := ⟨w0.heap.size + 1, 0, none⟩) (by dsimp only; omega) _, h4.setCell (p := ⟨w0.heap.size + 1, 0, none⟩) (by dsimp only; omega) _⟩
theorem AS.at_ {X : Nat} {s : ByteArray} {w0 : World} {k : Nat} {nm vl : ByteArray} {x : Nat × Nat} {w : World} (h : AS X s w0 k nm vl x w) (v : Nat) (hXl : X < w0.heap.size) : AS X s w0 k nm vl (v, x.2) (w.setCell ⟨X, 1, none⟩ (.int .i64 v)) := by
  obtain ⟨h1, h2, h3, h4⟩ := h
  refine ⟨by simpa using h1.set_ 1 (.int .i64 v), h2.far (p := ⟨X, 1, none⟩) (by dsimp only; omega) _, h3.far (p := ⟨X, 1, none⟩) (by dsimp only; omega) _, h4.self 1 _⟩

set_option maxRecDepth 100000 in
set_option maxHeartbeats 8000000 in
theorem rattr_any (X : Nat) (s : ByteArray) (x : Nat × Nat) (A : Option Addr) (cap : Nat) (l : List Av) (hs : s.size ≤ 4000000) (hx : x.1 ≤ s.size) (hll : l.length ≤ 5000000) (w : World) (hX : Blk w X TS86 (stt s x)) (hl : ∀ w', But w.heap.size X w w' → Rd w' w'.heap.size 3 avc A l) :
    Calls Try.prog 69 #[.pointer (some ⟨X, 0, none⟩), .slice A l.length cap] w fun e w' =>
      e = .returned (.agg #[.string (attrV l s x).1, .string (attrV l s x).2.1, .int .i64 (attrV l s x).2.2]) ∧ Blk w' X TS86 (stt s (attrX l s x)) ∧ But w.heap.size X w w' := by
  have hXl := hX.lt
  have HL := hide hl
  have c1 := hX.cell 1
  simp at c1
  clear hl
  go_enter Try.func69, Try.ntmps69
  go_wp2_with (fail)
  refine (rname_any X s x hs hx _ ((hX.alloc _).alloc _)).mono ?_
  rintro e w1 ⟨rfl, hX1, hb1⟩
  have hA1 : AS X s w x.1 ⟨#[]⟩ ⟨#[]⟩ (namS s x) w1 := by
    refine ⟨hX1, Blk.but (heap_new_at (by simp)) hb1 (by simp) (by omega), Blk.but ((Blk.new w _ _).alloc _) hb1 (by simp; omega) (by omega), ?_⟩
    exact (((But.refl _ _ _).alloc (Nat.le_refl _) _).alloc (by simp) _).trans hb1 (by simp; omega)
  clear hX1 hb1 c1
  have c0 := hA1.2.1.cell 0
  have c1 := hA1.2.1.frozen 0
  simp at c0
  have hA2 := hA1.nam (namV s x) hXl
  go_wp2
  generalize w1.setCell ⟨w.heap.size + 1, 0, none⟩ (.string (namV s x)) = w2 at *
  clear hA1 c0 c1
  go_loopg [6] l.length (fun g i wr => ∃ j : Nat, j ≤ l.length ∧ g = l.length - j ∧ i = .int .i64 j ∧ AS X s w x.1 (namV s x) ⟨#[]⟩ (dupS (l.take j) (namV s x) (namS s x) x.1) wr)
  case atStart => exact ⟨0, Nat.zero_le _, rfl, rfl, by simpa [dupS, fndS] using hA2⟩
  case round =>
    obtain ⟨j, hj, hg, rfl, hA⟩ := hrel
    have HG := hide hg
    clear hg hA2
    by_cases hlt : j < l.length
    · obtain ⟨y, hy⟩ := get_of_lt hlt
      obtain ⟨b, off, rfl, hbB, e0, e1, e2⟩ := (HL.out wr hA.2.2.2).av hy
      have a0 := hA.2.1.cell 0
      have a2 := hA.2.1.cell 2
      simp at a0 a2
      have HY := hide hy
      clear hy
      by_cases hq : y.1 = namV s x
      · have t0 : (y.1.toList == (namV s x).toList) = true := by rw [hq]; simp
        have HD := hide (dupS_hit (x := namS s x) (p := x.1) HY.out hq)
        clear hq
        go_wp2
        go_quiet (fail)
        go_wp2_with (fail)
        refine (tbad_any X s _ x.1 17 _ (hA.drewN _).1).mono ?_
        rintro e w3 ⟨rfl, hX3, hb3⟩
        have hA3 := (hA.drewN _).but hX3 hb3 hXl
        rw [← HD.out] at hA3
        clear hA hX3 hb3 a0 a2 e0 e1 e2
        go_wp2
        go_roundg (l.length - (j + 1))
        case measure => rw [HG.out]; omega
        case rel => exact ⟨j + 1, by omega, rfl, by go_num, hA3⟩
      · have t0 : (y.1.toList == (namV s x).toList) = false := by simp; exact fun e => hq (bytes_eq.1 e)
        have HD := hide (dupS_miss (x := namS s x) (p := x.1) HY.out hq)
        clear hq
        go_wp2
        go_quiet (fail)
        go_wp2
        go_roundg (l.length - (j + 1))
        case measure => rw [HG.out]; omega
        case rel => exact ⟨j + 1, by omega, rfl, by go_num, by rw [HD.out]; exact hA.drewN _⟩
    · have hjl : l.take j = l := List.take_of_length_le (by omega)
      rw [hjl] at hA
      clear hjl
      go_wp2_with (fail)
      refine (one_any X s _ 61 hs _ hA.1).mono ?_
      rintro e w3 ⟨rfl, hX3, hb3⟩
      have hA3 := hA.but hX3 hb3 hXl
      clear hA hX3 hb3
      go_wp2_with (fail)
      refine (one_any X s _ 34 hs _ hA3.1).mono ?_
      rintro e w4 ⟨rfl, hX4, hb4⟩
      have hA4 : AS X s w x.1 (namV s x) ⟨#[]⟩ (attrX4 l s x) w4 := hA3.but hX4 hb4 hXl
      have hx4 : (attrX4 l s x).1 ≤ s.size := attrX4_le hx
      clear hA3 hX4 hb4
      obtain ⟨k4, er4, hk4⟩ : ∃ k4 er4, attrX4 l s x = (k4, er4) := ⟨_, _, rfl⟩
      rw [hk4] at hA4 hx4
      have HK := hide hk4
      clear hk4
      dsimp only at hx4
      go_wp2
      obtain ⟨wo, hwo⟩ : ∃ wo : World, wo = w4 := ⟨_, rfl⟩
      subst hwo
      go_loopg [] (s.size + 1) (fun g wr => ∃ j, k4 ≤ j ∧ j ≤ s.size ∧ s.size < j + g ∧ endB plaB s j = endB plaB s k4 ∧ (er4 ≠ 0 → j = k4) ∧ AS X s w x.1 (namV s x) (s.extract k4 j) (j, er4) wr)
      case atStart => exact ⟨k4, Nat.le_refl _, hx4, by omega, rfl, fun _ => rfl, by rw [show s.extract k4 k4 = ⟨#[]⟩ from by simp; rfl]; exact hA4⟩
      case round =>
        obtain ⟨j, hj, hj1, hg, he, hz, hA⟩ := hrel
        have HE := hide he
        have HZ := hide hz
        clear he hz hA4
        have d0 := hA.1.cell 0
        have d1 := hA.1.cell 1
        have d2 := hA.1.frozen 1
        simp at d0 d1
        cases ho : onB s (j, er4)
        · have hon := fun n => on_at (w := wr.drewN n) (hA.1.drewN n) ho
          have HON := hide hon
          have hf : plaS s (k4, er4) = (j, er4) ∧ plaV s (k4, er4) = s.extract k4 j := by
            unfold plaS plaV
            by_cases h : er4 = 0
            · subst h
              simp [onB] at ho
              have h1 : isB plaB s j = false := by simp [isB]; omega
              have h2 := HE.out
              rw [endB_stop h1] at h2
              simp [← h2]
            · have h1 := HZ.out h
              subst h1
              simp [h]
              rfl
          have HF := hide hf
          clear hf ho hon
          go_wp2
          go_quiet ((go_at_call 40; exact Calls.quiet_of (HON.out _)))
          go_wp2_with (fail)
          refine (one_any X s _ 34 hs _ (hA.drewN _).1).mono ?_
          rintro e w6 ⟨rfl, hX6, hb6⟩
          have hA6 := (hA.drewN _).but hX6 hb6 hXl
          clear hA hX6 hb6 d0 d1 d2
          have r0 := hA6.2.2.1.cell 0
          have r1 := hA6.2.2.1.cell 1
          have r2 := hA6.2.2.1.cell 2
          have f0 := hA6.2.2.1.frozen 0
          have f1 := hA6.2.2.1.frozen 1
          have f2 := hA6.2.2.1.frozen 2
          have a0 := hA6.2.1.cell 0
          have a1 := hA6.2.1.cell 1
          have a2 := hA6.2.1.cell 2
          simp at r0 r1 r2 a0 a1 a2
          obtain ⟨hX7, hA7, hR7, hw7⟩ := hA6
          have hR8 := ((hR7.set_ 0 (.string (namV s x))).set_ 1 (.string (s.extract k4 j))).set_ 2 (.int .i64 x.1)
          have hX8 := ((hX7.far (p := ⟨w.heap.size, 0, none⟩) (by dsimp only; omega) (.string (namV s x))).far (p := ⟨w.heap.size, 1, none⟩) (by dsimp only; omega) (.string (s.extract k4 j))).far (p := ⟨w.heap.size, 2, none⟩) (by dsimp only; omega) (.int .i64 x.1)
          have hw8 := ((hw7.setCell (p := ⟨w.heap.size, 0, none⟩) (Nat.le_refl _) (.string (namV s x))).setCell (p := ⟨w.heap.size, 1, none⟩) (Nat.le_refl _) (.string (s.extract k4 j))).setCell (p := ⟨w.heap.size, 2, none⟩) (Nat.le_refl _) (.int .i64 x.1)
          clear hX7 hA7 hR7 hw7
          go_wp2
          generalize (((w6.setCell ⟨w.heap.size, 0, none⟩ (.string (namV s x))).setCell ⟨w.heap.size, 1, none⟩ (.string (s.extract k4 j))).setCell ⟨w.heap.size, 2, none⟩ (.int .i64 x.1)) = w8 at *
          have q0 := hR8.cell 0
          have q1 := hR8.cell 1
          have q2 := hR8.cell 2
          simp at q0 q1 q2
          refine bodyPost_ret (v := .agg #[.string (namV s x), .string (s.extract k4 j), .int .i64 x.1]) (by simp [results, Try.results69, go_sem, q0, q1, q2]) rfl ?_
          refine ⟨?_, ?_, hw8⟩
          · show _ = Ending.returned (.agg #[.string (namV s x), .string (plaV s (attrX4 l s x)), .int .i64 x.1])
            rw [HK.out, HF.out.2]
          · show Blk _ X TS86 (stt s (oneS s 34 (plaS s (attrX4 l s x))))
            rw [HK.out, HF.out.1]
            exact hX8
        · have ho2 := ho
          simp [onB] at ho2
          obtain ⟨he, hlt⟩ := ho2
          subst he
          have hon := fun n => on_at (w := wr.drewN n) (hA.1.drewN n) ho
          have HON := hide hon
          clear ho hon
          have i0 : (0 : Int) ≤ (j : Int) := by omega
          have i1 : (j : Int) < (s.size : Int) := by omega
          have i2 : (j : Int).toNat = j := by omega
          have i3 : (j : Int) ≤ (j : Int) + 1 := by omega
          have i4 : (j : Int) + 1 ≤ (s.size : Int) := by omega
          have i5 : ((j : Int) + 1).toNat = j + 1 := by omega
          have s0 : IntKind.i64.wrap ((j : Int) + 1) = (j : Int) + 1 := IntWalk.i64_in _ (by omega)
          have hbl := fun w => rplain_any ((s[j]).toNat : Int) w
          cases hq : isB plaB s j
          · have hv : plaB ((s[j]).toNat : Int) = false := by simpa [isB, hlt, ← byt_eq hlt] using hq
            rw [hv] at hbl
            have HBL := hide hbl
            have hf : plaS s (k4, 0) = (j, 0) ∧ plaV s (k4, 0) = s.extract k4 j := by
              have h2 := HE.out
              rw [endB_stop hq] at h2
              simp [plaS, plaV, ← h2]
            have HF := hide hf
            clear hf hq hv hbl
            go_wp2
            go_quiet ((first | (go_at_call 40; exact Calls.quiet_of (HON.out _)) | (go_at_call 99; exact Calls.quiet_of_same (HBL.out _))))
            go_wp2_with (fail)
            refine (one_any X s _ 34 hs _ (hA.drewN _).1).mono ?_
            rintro e w6 ⟨rfl, hX6, hb6⟩
            have hA6 := (hA.drewN _).but hX6 hb6 hXl
            clear hA hX6 hb6 d0 d1 d2
            have r0 := hA6.2.2.1.cell 0
            have r1 := hA6.2.2.1.cell 1
            have r2 := hA6.2.2.1.cell 2
            have f0 := hA6.2.2.1.frozen 0
            have f1 := hA6.2.2.1.frozen 1
            have f2 := hA6.2.2.1.frozen 2
            have a0 := hA6.2.1.cell 0
            have a1 := hA6.2.1.cell 1
            have a2 := hA6.2.1.cell 2
            simp at r0 r1 r2 a0 a1 a2
            obtain ⟨hX7, hA7, hR7, hw7⟩ := hA6
            have hR8 := ((hR7.set_ 0 (.string (namV s x))).set_ 1 (.string (s.extract k4 j))).set_ 2 (.int .i64 x.1)
            have hX8 := ((hX7.far (p := ⟨w.heap.size, 0, none⟩) (by dsimp only; omega) (.string (namV s x))).far (p := ⟨w.heap.size, 1, none⟩) (by dsimp only; omega) (.string (s.extract k4 j))).far (p := ⟨w.heap.size, 2, none⟩) (by dsimp only; omega) (.int .i64 x.1)
            have hw8 := ((hw7.setCell (p := ⟨w.heap.size, 0, none⟩) (Nat.le_refl _) (.string (namV s x))).setCell (p := ⟨w.heap.size, 1, none⟩) (Nat.le_refl _) (.string (s.extract k4 j))).setCell (p := ⟨w.heap.size, 2, none⟩) (Nat.le_refl _) (.int .i64 x.1)
            clear hX7 hA7 hR7 hw7
            go_wp2
            generalize (((w6.setCell ⟨w.heap.size, 0, none⟩ (.string (namV s x))).setCell ⟨w.heap.size, 1, none⟩ (.string (s.extract k4 j))).setCell ⟨w.heap.size, 2, none⟩ (.int .i64 x.1)) = w8 at *
            have q0 := hR8.cell 0
            have q1 := hR8.cell 1
            have q2 := hR8.cell 2
            simp at q0 q1 q2
            refine bodyPost_ret (v := .agg #[.string (namV s x), .string (s.extract k4 j), .int .i64 x.1]) (by simp [results, Try.results69, go_sem, q0, q1, q2]) rfl ?_
            refine ⟨?_, ?_, hw8⟩
            · show _ = Ending.returned (.agg #[.string (namV s x), .string (plaV s (attrX4 l s x)), .int .i64 x.1])
              rw [HK.out, HF.out.2]
            · show Blk _ X TS86 (stt s (oneS s 34 (plaS s (attrX4 l s x))))
              rw [HK.out, HF.out.1]
              exact hX8
          · have hv : plaB ((s[j]).toNat : Int) = true := by simpa [isB, hlt, ← byt_eq hlt] using hq
            rw [hv] at hbl
            have HBL := hide hbl
            obtain ⟨_, hE⟩ := endB_step hq
            have HE2 := hide hE
            clear hq hv hbl hE
            have a1 := hA.2.1.cell 1
            have a2 := hA.2.1.frozen 1
            simp at a1
            go_wp2
            go_quiet ((first | (go_at_call 40; exact Calls.quiet_of (HON.out _)) | (go_at_call 99; exact Calls.quiet_of_same (HBL.out _))))
            go_wp2_with (fail)
            have hA9 := hA.drewN nq
            clear hA a1 a2 d0 d1 d2
            generalize wr.drewN nq = wq at *
            have d0 := hA9.1.cell 0
            have d1 := hA9.1.cell 1
            have d2 := hA9.1.frozen 1
            have a1 := hA9.2.1.cell 1
            have a2 := hA9.2.1.frozen 1
            simp at d0 d1 a1
            go_still_tail 16, (by kernel_rfl)
            change wpList _ _ _ _ _ (World.drew _)
            go_wp2
            go_roundg (gk - 1)
            case measure => omega
            case rel =>
              refine ⟨j + 1, by omega, by omega, by omega, by rw [HE2.out, HE.out], fun h => absurd rfl h, ?_⟩
              have h1 := ((hA9.val (s.extract k4 (j + 1)) hXl).at_ (j + 1) hXl).drew
              simpa using h1

/-- In a state with an error nothing moves. -/
theorem oneS_err {s : ByteArray} {c : UInt8} {x : Nat × Nat} (h : x.2 ≠ 0) : oneS s c x = x := by simp [oneS, h]
theorem plaS_err {s : ByteArray} {x : Nat × Nat} (h : x.2 ≠ 0) : plaS s x = x := by simp [plaS, h]
theorem blaS_err {s : ByteArray} {x : Nat × Nat} (h : x.2 ≠ 0) : blaS s x = x := by simp [blaS, h]
theorem namS_err {s : ByteArray} {x : Nat × Nat} (h : x.2 ≠ 0) : namS s x = x := by simp [namS, h]
theorem dupS_err {l : List Av} {nm : ByteArray} {x : Nat × Nat} {p : Nat} (h : x.2 ≠ 0) : dupS l nm x p = x := by simp [dupS, badS, h]
theorem attrX_err {l : List Av} {s : ByteArray} {x : Nat × Nat} (h : x.2 ≠ 0) : attrX l s x = x := by
  simp only [attrX, attrX4]
  rw [namS_err h, dupS_err h, oneS_err h, oneS_err h, plaS_err h, oneS_err h]
theorem one_two {s : ByteArray} {k : Nat} {a b : UInt8} (_hk : k ≤ s.size) : oneS s b (oneS s a (k, 0)) = exS (mustL s k [a, b]) id := by
  cases hq : isB (isC a) s k
  · simp [oneS, mustL, hq, exS]
  · cases hq2 : isB (isC b) s (k + 1)
    · simp [oneS, mustL, hq, hq2, exS]
    · simp [oneS, mustL, hq, hq2, exS]
/-- Where there is no error yet: what the scanner's attr does. -/
theorem attrX_rel {l : List Av} {s : ByteArray} {k : Nat} (hk : k ≤ s.size) : attrX l s (k, 0) = exS (attrL l s k) (·.2) ∧ (∀ a k', attrL l s k = .ok (a, k') → attrV l s (k, 0) = a) := by
  unfold attrL
  cases hn : nameL s k with
  | error e =>
    have he := nameL_err hn
    subst he
    have h1 : namS s (k, 0) = (k, 16) := by simp [namS, hn, exS]
    refine ⟨?_, fun a k' h => by cases h⟩
    simp only [attrX, attrX4]
    have hz : ((k, 16) : Nat × Nat).2 ≠ 0 := by simp
    rw [h1, dupS_err hz, oneS_err hz, oneS_err hz, plaS_err hz, oneS_err hz]
    rfl
  | ok b =>
    obtain ⟨n, k1⟩ := b
    have hk1 := nameL_le hn hk
    dsimp only at hk1
    have h1 : namS s (k, 0) = (k1, 0) := by simp [namS, hn, exS]
    have h2 : namV s (k, 0) = n := by
      cases hq : isB letB s k <;> simp [nameL, hq] at hn
      simp [namV, hn.1]
    dsimp only
    cases hf : (fndS l n).2
    · simp only [Bool.false_eq_true, if_false]
      have h3 : dupS l n (k1, 0) k = (k1, 0) := by simp [dupS, hf]
      have h4 : attrX4 l s (k, 0) = exS (mustL s k1 [61, 34]) id := by
        unfold attrX4
        rw [h1, h2, h3, one_two hk1.2]
      cases hm : mustL s k1 [61, 34] with
      | error e =>
        have he := (mustL_err hm hk1.2).2
        refine ⟨?_, fun a k' h => by cases h⟩
        unfold attrX
        rw [h4, hm]
        simp only [exS]
        rw [plaS_err (by omega), oneS_err (by omega)]
      | ok k2 =>
        have hk2 := mustL_le hm hk1.2
        have hke := endB_le plaB s k2 hk2.2
        rw [hm] at h4
        simp only [exS, id] at h4
        have h5 : plaS s (k2, 0) = (endB plaB s k2, 0) := by simp [plaS]
        dsimp only
        cases hm2 : mustL s (endB plaB s k2) [34] with
        | error e =>
          refine ⟨?_, fun a k' h => by cases h⟩
          unfold attrX
          rw [h4, h5]
          simp [oneS, hm2, exS]
        | ok k4 =>
          refine ⟨?_, fun a k' h => ?_⟩
          · unfold attrX
            rw [h4, h5]
            simp [oneS, hm2, exS]
          · injection h with h
            injection h with h _
            rw [← h]
            simp [attrV, h2, h4, plaV]
    · simp only [if_true]
      have h3 : dupS l n (k1, 0) k = (k, 17) := by simp [dupS, hf, badS]
      refine ⟨?_, fun a k' h => by cases h⟩
      simp only [attrX, attrX4]
      have hz : ((k, 17) : Nat × Nat).2 ≠ 0 := by simp
      rw [h1, h2, h3, oneS_err hz, oneS_err hz, plaS_err hz, oneS_err hz]
      rfl
end Go.Proofs.Ytcblakflhheepaa
