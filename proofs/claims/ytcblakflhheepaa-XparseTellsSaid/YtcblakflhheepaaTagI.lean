/- Chapter 41: the reference's state: on, bad, one, blanks, name. -/
import Derived.Test.YtcblakflhheepaaTagG
namespace Go.Proofs.Ytcblakflhheepaa
open Go.RowKit
set_option linter.unusedVariables false
set_option linter.unusedSimpArgs false

theorem rletter_any (c : Int) (w : World) : Calls Try.prog 68 #[.int .u8 c] w fun e w' => e = .returned (.bool (letB c)) ∧ w' = w := by
  go_enter Try.func68, Try.ntmps68
  go_wp2
  all_goals
    go_ret
    refine ⟨ret_bool ?_, rfl⟩
    rw [Bool.eq_iff_iff]; simp [letB]; try omega
theorem rblank_any (c : Int) (w : World) : Calls Try.prog 65 #[.int .u8 c] w fun e w' => e = .returned (.bool (blaB c)) ∧ w' = w := by
  go_enter Try.func65, Try.ntmps65
  go_wp2
  all_goals
    go_ret
    refine ⟨ret_bool ?_, rfl⟩
    rw [Bool.eq_iff_iff]; simp [blaB]; try omega
theorem rplain_any (c : Int) (w : World) : Calls Try.prog 99 #[.int .u8 c] w fun e w' => e = .returned (.bool (plaB c)) ∧ w' = w := by
  go_enter Try.func99, Try.ntmps99
  go_wp2
  all_goals
    go_ret
    refine ⟨ret_bool ?_, rfl⟩
    rw [Bool.eq_iff_iff]; simp [plaB]; try omega

/-- The reference's state: a place, an error there (0: none). -/
abbrev stt (s : ByteArray) (x : Nat × Nat) : Array Value := #[.string s, .int .i64 x.1, .int .i64 x.2]
abbrev TS86 : TypeId := 86
def onB (s : ByteArray) (x : Nat × Nat) : Bool := decide (x.2 = 0) && decide (x.1 < s.size)

set_option maxRecDepth 100000 in
set_option maxHeartbeats 2000000 in
theorem on_any (X : Nat) (s : ByteArray) (x : Nat × Nat) (w : World) (hX : Blk w X TS86 (stt s x)) :
    Calls Try.prog 40 #[.pointer (some ⟨X, 0, none⟩)] w fun e w' => e = .returned (.bool (onB s x)) ∧ ∃ n, w' = w.drewN n := by
  obtain ⟨k, er⟩ := x
  have c0 := hX.cell 0
  have c1 := hX.cell 1
  have c2 := hX.cell 2
  simp at c0 c1 c2
  by_cases he : er = 0
  · subst he
    have t0 : (((0 : Nat) : Int) == 0) = true := rfl
    by_cases hlt : k < s.size
    · have t1 : decide ((k : Int) < (s.size : Int)) = true := by simp; omega
      go_enter Try.func40, Try.ntmps40
      go_wp2
      go_quiet (fail)
      go_wp2
      go_ret
      exact ⟨ret_bool (by simp [onB, hlt]), _, rfl⟩
    · have t1 : decide ((k : Int) < (s.size : Int)) = false := by simp; omega
      go_enter Try.func40, Try.ntmps40
      go_wp2
      go_quiet (fail)
      go_wp2
      go_ret
      exact ⟨ret_bool (by simp [onB, hlt]), _, rfl⟩
  · have t0 : ((er : Int) == 0) = false := by simp; omega
    have HE := hide he
    clear he
    go_enter Try.func40, Try.ntmps40
    go_wp2
    go_quiet (fail)
    go_wp2
    go_ret
    exact ⟨ret_bool (by have := HE.out; simp [onB, this]), _, rfl⟩
theorem on_at {X : Nat} {s : ByteArray} {x : Nat × Nat} {w : World} {b : Bool} (hX : Blk w X TS86 (stt s x)) (h : onB s x = b) :
    Calls Try.prog 40 #[.pointer (some ⟨X, 0, none⟩)] w fun e w' => e = .returned (.bool b) ∧ ∃ n, w' = w.drewN n := by
  subst h
  exact on_any X s x w hX

theorem stt_step (s : ByteArray) (k er : Nat) : stt s (k + 1, er) = #[.string s, .int .i64 ((k : Int) + 1), .int .i64 er] := by simp
def badS (x : Nat × Nat) (p c : Nat) : Nat × Nat := if x.2 = 0 then (p, c) else x
set_option maxRecDepth 100000 in
set_option maxHeartbeats 2000000 in
theorem tbad_any (X : Nat) (s : ByteArray) (x : Nat × Nat) (p c : Nat) (w : World) (hX : Blk w X TS86 (stt s x)) :
    Calls Try.prog 66 #[.pointer (some ⟨X, 0, none⟩), .int .i64 p, .int .i64 c] w fun e w' => e = .returned (.tuple #[]) ∧ Blk w' X TS86 (stt s (badS x p c)) ∧ But w.heap.size X w w' := by
  obtain ⟨k, er⟩ := x
  have c1 := hX.cell 1
  have c2 := hX.cell 2
  have c3 := hX.frozen 1
  have c4 := hX.frozen 2
  simp at c1 c2
  by_cases he : er = 0
  · subst he
    have t0 : (((0 : Nat) : Int) == 0) = true := rfl
    go_enter Try.func66, Try.ntmps66
    go_wp2
    refine bodyPost_end (results_none rfl _ _ _) rfl ?_
    refine ⟨rfl, ?_, (((But.refl _ _ _).self 2 _).self 1 _)⟩
    have h1 := (hX.set_ 2 (.int .i64 c)).set_ 1 (.int .i64 p)
    simpa [badS] using h1
  · have t0 : ((er : Int) == 0) = false := by simp; omega
    have hb : badS (k, er) p c = (k, er) := by simp [badS, he]
    have HB := hide hb
    clear he hb
    go_enter Try.func66, Try.ntmps66
    go_wp2
    refine bodyPost_end (results_none rfl _ _ _) rfl ?_
    rw [HB.out]
    exact ⟨rfl, hX, But.refl _ _ _⟩

/-- The state behind a step of the scanner. -/
def exS {α : Type} (r : Except (Nat × Nat) α) (pos : α → Nat) : Nat × Nat := match r with | .ok a => (pos a, 0) | .error e => e
def oneS (s : ByteArray) (c : UInt8) (x : Nat × Nat) : Nat × Nat := if x.2 = 0 then exS (mustL s x.1 [c]) id else x

set_option maxRecDepth 100000 in
set_option maxHeartbeats 2000000 in
theorem one_any (X : Nat) (s : ByteArray) (x : Nat × Nat) (c : UInt8) (hs : s.size ≤ 4000000) (w : World) (hX : Blk w X TS86 (stt s x)) :
    Calls Try.prog 41 #[.pointer (some ⟨X, 0, none⟩), .int .u8 (c.toNat : Int)] w fun e w' => e = .returned (.tuple #[]) ∧ Blk w' X TS86 (stt s (oneS s c x)) ∧ But w.heap.size X w w' := by
  have c0 := hX.cell 0
  have c1 := hX.cell 1
  have c2 := hX.frozen 1
  simp at c0 c1
  cases ho : onB s x
  · have hb : oneS s c x = badS x x.1 16 := by
      unfold oneS badS
      split
      · rename_i h
        simp [onB, h] at ho
        have : isB (isC c) s x.1 = false := by simp [isB]; intro h1; omega
        simp [mustL, this, exS]
      · rfl
    have HB := hide hb
    clear hb
    have hon := fun n => on_at (w := w.drewN n) (hX.drewN n) ho
    have HON := hide hon
    clear hon ho
    go_enter Try.func41, Try.ntmps41
    go_wp2
    go_quiet ((go_at_call 40; exact Calls.quiet_of (HON.out _)))
    go_wp2_with (fail)
    refine (tbad_any X s x _ 16 _ (by repeat (first | exact hX | refine Blk.alloc ?_ _ | refine Blk.drewN ?_ _ | refine Blk.drew ?_))).mono ?_
    rintro e w1 ⟨rfl, hX1, hb1⟩
    go_wp2
    refine bodyPost_ret (v := .tuple #[]) (results_none rfl _ _ _) rfl ?_
    rw [HB.out]
    exact ⟨rfl, hX1, ((But.refl _ _ _).drewN _).trans hb1 (Nat.le_refl _)⟩
  · obtain ⟨k, er⟩ := x
    dsimp only at c0 c1 hX
    have ho2 := ho
    simp [onB] at ho2
    obtain ⟨he, hlt⟩ := ho2
    subst he
    have hon := fun n => on_at (w := w.drewN n) (hX.drewN n) ho
    have HON := hide hon
    clear hon ho
    have i0 : (0 : Int) ≤ (k : Int) := by omega
    have i1 : (k : Int) < (s.size : Int) := by omega
    have i2 : (k : Int).toNat = k := by omega
    have s0 : IntKind.i64.wrap ((k : Int) + 1) = (k : Int) + 1 := IntWalk.i64_in _ (by omega)
    by_cases hc : s[k] = c
    · have t0 : (((s[k]).toNat : Int) != (c.toNat : Int)) = false := by simp [hc]
      have hb : oneS s c (k, 0) = (k + 1, 0) := by
        have : isB (isC c) s k = true := by simp [isB, hlt, ← byt_eq hlt, isC, hc]
        simp [oneS, mustL, this, exS]
      have HB := hide hb
      clear hb hc
      go_enter Try.func41, Try.ntmps41
      go_wp2
      go_quiet ((go_at_call 40; exact Calls.quiet_of (HON.out _)))
      go_wp2
      refine bodyPost_end (results_none rfl _ _ _) rfl ?_
      rw [HB.out]
      refine ⟨rfl, ?_, ((But.refl _ _ _).drewN _).self 1 _⟩
      have h1 := (hX.drewN ‹Nat›).set_ 1 (.int .i64 ((k : Int) + 1))
      rw [stt_step]
      simpa using h1
    · have hc2 : ¬ (s[k]).toNat = c.toNat := fun e => hc (UInt8.toNat_inj.1 e)
      have t0 : (((s[k]).toNat : Int) != (c.toNat : Int)) = true := by simp; omega
      have hb : oneS s c (k, 0) = badS (k, 0) k 16 := by
        have : isB (isC c) s k = false := by simp [isB, hlt, ← byt_eq hlt, isC]; omega
        simp [oneS, mustL, this, exS, badS]
      have HB := hide hb
      clear hb hc hc2
      go_enter Try.func41, Try.ntmps41
      go_wp2
      go_quiet ((go_at_call 40; exact Calls.quiet_of (HON.out _)))
      go_wp2_with (fail)
      refine (tbad_any X s (k, 0) _ 16 _ (by repeat (first | exact hX | refine Blk.alloc ?_ _ | refine Blk.drewN ?_ _ | refine Blk.drew ?_))).mono ?_
      rintro e w1 ⟨rfl, hX1, hb1⟩
      go_wp2
      refine bodyPost_ret (v := .tuple #[]) (results_none rfl _ _ _) rfl ?_
      rw [HB.out]
      exact ⟨rfl, hX1, ((But.refl _ _ _).drewN _).trans hb1 (Nat.le_refl _)⟩

def blaS (s : ByteArray) (x : Nat × Nat) : Nat × Nat := if x.2 = 0 then (endB blaB s x.1, 0) else x
def blaN (s : ByteArray) (x : Nat × Nat) : Nat := if x.2 = 0 then endB blaB s x.1 - x.1 else 0
set_option maxRecDepth 100000 in
set_option maxHeartbeats 2000000 in
theorem blanks_any (X : Nat) (s : ByteArray) (x : Nat × Nat) (hs : s.size ≤ 4000000) (hx : x.1 ≤ s.size) (w : World) (hX : Blk w X TS86 (stt s x)) :
    Calls Try.prog 39 #[.pointer (some ⟨X, 0, none⟩)] w fun e w' => e = .returned (.int .i64 (blaN s x)) ∧ Blk w' X TS86 (stt s (blaS s x)) ∧ But w.heap.size X w w' := by
  obtain ⟨k, er⟩ := x
  dsimp only at hx
  have hXl := hX.lt
  go_enter Try.func39, Try.ntmps39
  go_wp2
  go_loopg [3] (s.size + 1) (fun g n wr => ∃ j, k ≤ j ∧ j ≤ s.size ∧ s.size < j + g ∧ n = .int .i64 ((j - k : Nat) : Int) ∧ blaS s (j, er) = blaS s (k, er) ∧ (er ≠ 0 → j = k) ∧ Blk wr X TS86 (stt s (j, er)) ∧ But w.heap.size X w wr)
  case atStart => exact ⟨k, Nat.le_refl _, hx, by omega, by simp, rfl, fun _ => rfl, hX, But.refl _ _ _⟩
  case round =>
    obtain ⟨j, hj, hj1, hg, rfl, he, hz, hB, hb⟩ := hrel
    have HE := hide he
    have HZ := hide hz
    clear he hz
    have d0 := hB.cell 0
    have d1 := hB.cell 1
    have d2 := hB.frozen 1
    simp at d0 d1
    cases ho : onB s (j, er)
    · have hon := fun n => on_at (w := wr.drewN n) (hB.drewN n) ho
      have HON := hide hon
      have hf : blaS s (k, er) = (j, er) ∧ blaN s (k, er) = j - k := by
        rw [← HE.out]
        unfold blaS blaN
        by_cases h : er = 0
        · subst h
          simp [onB] at ho
          have : isB blaB s j = false := by simp [isB]; omega
          have h2 := HE.out
          simp [blaS, endB_stop this] at h2
          simp [endB_stop this, ← h2]
        · simp [h, HZ.out h]
      have HF := hide hf
      clear hf ho hon
      go_wp2
      go_quiet ((go_at_call 40; exact Calls.quiet_of (HON.out _)))
      go_wp2
      go_ret
      rw [HF.out.1, HF.out.2]
      exact ⟨rfl, (by repeat (first | exact hB | refine Blk.alloc ?_ _ | refine Blk.drewN ?_ _ | refine Blk.drew ?_)), hb.drewN _⟩
    · have ho2 := ho
      simp [onB] at ho2
      obtain ⟨he, hlt⟩ := ho2
      subst he
      have hon := fun n => on_at (w := wr.drewN n) (hB.drewN n) ho
      have HON := hide hon
      clear ho hon
      have i0 : (0 : Int) ≤ (j : Int) := by omega
      have i1 : (j : Int) < (s.size : Int) := by omega
      have i2 : (j : Int).toNat = j := by omega
      have s0 : IntKind.i64.wrap ((j : Int) + 1) = (j : Int) + 1 := IntWalk.i64_in _ (by omega)
      have s1 : IntKind.i64.wrap (((j - k : Nat) : Int) + 1) = ((j - k : Nat) : Int) + 1 := IntWalk.i64_in _ (by omega)
      cases hq : isB blaB s j
      · have hv : blaB ((s[j]).toNat : Int) = false := by simpa [isB, hlt, ← byt_eq hlt] using hq
        have hf : blaS s (k, 0) = (j, 0) ∧ blaN s (k, 0) = j - k := by
          have h2 := HE.out
          simp [blaS, endB_stop hq] at h2
          simp [blaS, blaN, ← h2]
        have HF := hide hf
        have hbl := fun w => rblank_any ((s[j]).toNat : Int) w
        rw [hv] at hbl
        have HBL := hide hbl
        clear hf hq hv hbl
        go_wp2
        go_quiet ((first | (go_at_call 40; exact Calls.quiet_of (HON.out _)) | (go_at_call 65; exact Calls.quiet_of_same (HBL.out _))))
        go_wp2
        go_ret
        rw [HF.out.1, HF.out.2]
        exact ⟨rfl, (by repeat (first | exact hB | refine Blk.alloc ?_ _ | refine Blk.drewN ?_ _ | refine Blk.drew ?_)), hb.drewN _⟩
      · have hv : blaB ((s[j]).toNat : Int) = true := by simpa [isB, hlt, ← byt_eq hlt] using hq
        obtain ⟨_, hE⟩ := endB_step hq
        have HE2 := hide hE
        have hbl := fun w => rblank_any ((s[j]).toNat : Int) w
        rw [hv] at hbl
        have HBL := hide hbl
        clear hq hv hbl hE
        go_wp2
        go_quiet ((first | (go_at_call 40; exact Calls.quiet_of (HON.out _)) | (go_at_call 65; exact Calls.quiet_of_same (HBL.out _))))
        go_wp2
        go_roundg (gk - 1)
        case measure => omega
        case rel =>
          refine ⟨j + 1, by omega, by omega, by omega, by congr 1; omega, ?_, fun h => absurd rfl h, ?_, (hb.drewN _).self 1 _⟩
          · rw [← HE.out]; simp [blaS, HE2.out]
          · have h1 := (hB.drewN ‹Nat›).set_ 1 (.int .i64 ((j : Int) + 1))
            rw [stt_step]
            simpa using h1

def namS (s : ByteArray) (x : Nat × Nat) : Nat × Nat := if x.2 = 0 then exS (nameL s x.1) (·.2) else x
def namV (s : ByteArray) (x : Nat × Nat) : ByteArray := if x.2 = 0 then s.extract x.1 (endB letB s x.1) else ⟨#[]⟩
theorem extract_step {s : ByteArray} {k j : Nat} (h1 : k ≤ j) : s.extract k j ++ s.extract j (j + 1) = s.extract k (j + 1) := by
  rw [ByteArray.extract_append_extract]
  congr 1 <;> omega
set_option maxRecDepth 100000 in
set_option maxHeartbeats 2000000 in
theorem rname_any (X : Nat) (s : ByteArray) (x : Nat × Nat) (hs : s.size ≤ 4000000) (hx : x.1 ≤ s.size) (w : World) (hX : Blk w X TS86 (stt s x)) :
    Calls Try.prog 67 #[.pointer (some ⟨X, 0, none⟩)] w fun e w' => e = .returned (.string (namV s x)) ∧ Blk w' X TS86 (stt s (namS s x)) ∧ But w.heap.size X w w' := by
  obtain ⟨k, er⟩ := x
  dsimp only at hx
  have hXl := hX.lt
  have hbs : er ≠ 0 → badS (k, er) k 16 = (k, er) := fun h => by simp [badS, h]
  have HBS := hide hbs
  clear hbs
  go_enter Try.func67, Try.ntmps67
  go_wp2
  go_loopg [3] (s.size + 1) (fun g n wr => ∃ j, k ≤ j ∧ j ≤ s.size ∧ s.size < j + g ∧ n = .string (s.extract k j) ∧ endB letB s j = endB letB s k ∧ (er ≠ 0 → j = k) ∧ Blk wr X TS86 (stt s (j, er)) ∧ But w.heap.size X w wr)
  case atStart => exact ⟨k, Nat.le_refl _, hx, by omega, by simp; rfl, rfl, fun _ => rfl, hX, But.refl _ _ _⟩
  case round =>
    obtain ⟨j, hj, hj1, hg, rfl, he, hz, hB, hb⟩ := hrel
    have HE := hide he
    have HZ := hide hz
    clear he hz
    have d0 := hB.cell 0
    have d1 := hB.cell 1
    have d2 := hB.frozen 1
    simp at d0 d1
    have fin : ∀ w' : World, True := fun _ => trivial
    clear fin
    cases ho : onB s (j, er)
    · have hon := fun n => on_at (w := wr.drewN n) (hB.drewN n) ho
      have HON := hide hon
      clear hon
      by_cases h0 : j = k
      · subst h0
        have hz2 : s.extract j j = ByteArray.empty := by simp
        have hf : namS s (j, er) = badS (j, er) j 16 ∧ namV s (j, er) = ⟨#[]⟩ := by
          unfold namS namV badS
          by_cases h : er = 0
          · subst h
            simp [onB] at ho
            have hq : isB letB s j = false := by simp [isB]; omega
            simp [nameL, hq, exS, endB_stop hq]
            rfl
          · simp [h]
        have HF := hide hf
        clear hf ho
        go_wp2
        go_quiet ((go_at_call 40; exact Calls.quiet_of (HON.out _)))
        go_wp2_with (fail)
        refine (tbad_any X s (j, er) _ 16 _ (by repeat (first | exact hB | refine Blk.alloc ?_ _ | refine Blk.drewN ?_ _ | refine Blk.drew ?_))).mono ?_
        rintro e w1 ⟨rfl, hX1, hb1⟩
        go_wp2
        go_ret
        rw [HF.out.1, HF.out.2]
        exact ⟨rfl, hX1, (hb.drewN _).trans hb1 hb.size⟩
      · have her : er = 0 := by
          cases er with
          | zero => rfl
          | succ n => exact absurd (HZ.out (by omega)) h0
        subst her
        have e1 := extract_ne (s := s) (a := k) (b := j) (by omega) hj1
        have hf : namS s (k, 0) = (j, 0) ∧ namV s (k, 0) = s.extract k j := by
          simp [onB] at ho
          have hq : isB letB s j = false := by simp [isB]; omega
          have h2 := HE.out
          rw [endB_stop hq] at h2
          have hq2 : isB letB s k = true := by
            cases h3 : isB letB s k
            · rw [endB_stop h3] at h2; omega
            · rfl
          simp [namS, namV, nameL, hq2, exS, ← h2]
        have HF := hide hf
        clear hf ho h0
        go_wp2
        go_quiet ((go_at_call 40; exact Calls.quiet_of (HON.out _)))
        go_wp2
        go_ret
        rw [HF.out.1, HF.out.2]
        exact ⟨rfl, (by repeat (first | exact hB | refine Blk.alloc ?_ _ | refine Blk.drewN ?_ _ | refine Blk.drew ?_)), hb.drewN _⟩
    · have ho2 := ho
      simp [onB] at ho2
      obtain ⟨he, hlt⟩ := ho2
      subst he
      have hon := fun n => on_at (w := wr.drewN n) (hB.drewN n) ho
      have HON := hide hon
      clear ho hon
      have i0 : (0 : Int) ≤ (j : Int) := by omega
      have i1 : (j : Int) < (s.size : Int) := by omega
      have i2 : (j : Int).toNat = j := by omega
      have i3 : (j : Int) ≤ (j : Int) + 1 := by omega
      have i4 : (j : Int) + 1 ≤ (s.size : Int) := by omega
      have i5 : ((j : Int) + 1).toNat = j + 1 := by omega
      have s0 : IntKind.i64.wrap ((j : Int) + 1) = (j : Int) + 1 := IntWalk.i64_in _ (by omega)
      have hbl := fun w => rletter_any ((s[j]).toNat : Int) w
      cases hq : isB letB s j
      · have hv : letB ((s[j]).toNat : Int) = false := by simpa [isB, hlt, ← byt_eq hlt] using hq
        rw [hv] at hbl
        have HBL := hide hbl
        clear hv hbl
        by_cases h0 : j = k
        · subst h0
          have hz2 : s.extract j j = ByteArray.empty := by simp
          have hf : namS s (j, 0) = badS (j, 0) j 16 ∧ namV s (j, 0) = ⟨#[]⟩ := by
            unfold namS namV badS
            simp [nameL, hq, exS, endB_stop hq]
            rfl
          have HF := hide hf
          clear hf hq
          go_wp2
          go_quiet ((first | (go_at_call 40; exact Calls.quiet_of (HON.out _)) | (go_at_call 68; exact Calls.quiet_of_same (HBL.out _))))
          go_wp2_with (fail)
          refine (tbad_any X s (j, 0) _ 16 _ (by repeat (first | exact hB | refine Blk.alloc ?_ _ | refine Blk.drewN ?_ _ | refine Blk.drew ?_))).mono ?_
          rintro e w1 ⟨rfl, hX1, hb1⟩
          go_wp2
          go_ret
          rw [HF.out.1, HF.out.2]
          exact ⟨rfl, hX1, (hb.drewN _).trans hb1 hb.size⟩
        · have e1 := extract_ne (s := s) (a := k) (b := j) (by omega) hj1
          have hf : namS s (k, 0) = (j, 0) ∧ namV s (k, 0) = s.extract k j := by
            have h2 := HE.out
            rw [endB_stop hq] at h2
            have hq2 : isB letB s k = true := by
              cases h3 : isB letB s k
              · rw [endB_stop h3] at h2; omega
              · rfl
            simp [namS, namV, nameL, hq2, exS, ← h2]
          have HF := hide hf
          clear hf hq h0
          go_wp2
          go_quiet ((first | (go_at_call 40; exact Calls.quiet_of (HON.out _)) | (go_at_call 68; exact Calls.quiet_of_same (HBL.out _))))
          go_wp2
          go_ret
          rw [HF.out.1, HF.out.2]
          exact ⟨rfl, (by repeat (first | exact hB | refine Blk.alloc ?_ _ | refine Blk.drewN ?_ _ | refine Blk.drew ?_)), hb.drewN _⟩
      · have hv : letB ((s[j]).toNat : Int) = true := by simpa [isB, hlt, ← byt_eq hlt] using hq
        obtain ⟨_, hE⟩ := endB_step hq
        have HE2 := hide hE
        rw [hv] at hbl
        have HBL := hide hbl
        clear hq hv hbl hE
        go_wp2
        go_quiet ((first | (go_at_call 40; exact Calls.quiet_of (HON.out _)) | (go_at_call 68; exact Calls.quiet_of_same (HBL.out _))))
        go_wp2
        go_quiet (fail)
        go_wp2
        go_roundg (gk - 1)
        case measure => omega
        case rel =>
          refine ⟨j + 1, by omega, by omega, by omega, ?_, ?_, fun h => absurd rfl h, ?_, ?_⟩
          · rfl
          · rw [HE2.out, HE.out]
          · rw [stt_step]
            have h1 := fun n => (hB.drewN n).set_ 1 (.int .i64 ((j : Int) + 1))
            simpa using h1 _
          · exact (hb.drewN _).self 1 _
end Go.Proofs.Ytcblakflhheepaa
