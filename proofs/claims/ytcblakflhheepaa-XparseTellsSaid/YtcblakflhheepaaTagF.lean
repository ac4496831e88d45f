/- Chapter 41: the scanner takes a tag. -/
import Derived.Test.YtcblakflhheepaaTagE
namespace Go.Proofs.Ytcblakflhheepaa
open Go.RowKit
set_option linter.unusedVariables false
set_option linter.unusedSimpArgs false

def stB (cl : Bool) (s : ByteArray) (k : Nat) : Bool := cl || decide (endB blaB s k = k) || !isB letB s (endB blaB s k)
/-- The attributes of a tag, and the blanks behind the last. -/
def attrsL (cl : Bool) (s : ByteArray) : Nat → List Av → Nat → Except (Nat × Nat) (List Av × Nat)
  | 0, l, k => .ok (l, k)
  | n + 1, l, k => if stB cl s k then .ok (l, endB blaB s k) else
    match attrL l s (endB blaB s k) with
    | .error e => .error e
    | .ok (a, k') => attrsL cl s n (l ++ [a]) k'
/-- A tag: its kind, its name, its attributes, its place. -/
abbrev Tgv := Int × ByteArray × List Av × Nat
def oneIf (b : Bool) (k : Nat) : Nat := if b then k + 1 else k
def kdI (cl al : Bool) : Int := if cl then 2 else if al then 3 else 1
def aloB (cl : Bool) (s : ByteArray) (k : Nat) : Bool := !cl && isB (isC 47) s k
def tagL (s : ByteArray) (k at_ : Nat) : Except (Nat × Nat) (Tgv × Nat) :=
  match nameL s (oneIf (isB (isC 47) s k) k) with
  | .error e => .error e
  | .ok (nm, k2) =>
    match attrsL (isB (isC 47) s k) s (s.size + 1) [] k2 with
    | .error e => .error e
    | .ok (l, k3) =>
      match mustL s (oneIf (aloB (isB (isC 47) s k) s k3) k3) [62] with
      | .error e => .error e
      | .ok k5 => .ok ((kdI (isB (isC 47) s k) (aloB (isB (isC 47) s k) s k3), nm, l, at_), k5)

theorem attrL_le {l : List Av} {s : ByteArray} {k k' : Nat} {a : Av} (h : attrL l s k = .ok (a, k')) (hk : k ≤ s.size) : k < k' ∧ k' ≤ s.size := by
  unfold attrL at h
  cases hn : nameL s k with
  | error e => rw [hn] at h; cases h
  | ok b =>
    obtain ⟨n, k1⟩ := b
    have h1 := nameL_le hn hk
    dsimp only at h1
    rw [hn] at h
    dsimp only at h
    split at h
    · cases h
    · cases hm : mustL s k1 [61, 34] with
      | error e => rw [hm] at h; cases h
      | ok k2 =>
        have h2 := mustL_le hm h1.2
        rw [hm] at h
        dsimp only at h
        have h3 := endB_le plaB s k2 h2.2
        have h4 := endB_ge plaB s k2
        cases hm2 : mustL s (endB plaB s k2) [34] with
        | error e => rw [hm2] at h; cases h
        | ok k4 =>
          have h5 := mustL_le hm2 h3
          rw [hm2] at h
          simp at h
          omega
theorem isB_lt {p : Int → Bool} {s : ByteArray} {k : Nat} (h : isB p s k = true) : k < s.size := by
  simp [isB] at h
  exact h.1
theorem oneIf_le {p : Int → Bool} {s : ByteArray} {k : Nat} (hk : k ≤ s.size) : k ≤ oneIf (isB p s k) k ∧ oneIf (isB p s k) k ≤ s.size := by
  unfold oneIf
  split
  · rename_i h
    have := isB_lt h
    omega
  · omega
theorem attrsL_le {cl : Bool} {s : ByteArray} : ∀ {n : Nat} {l l' : List Av} {k k' : Nat}, attrsL cl s n l k = .ok (l', k') → k ≤ s.size → k ≤ k' ∧ k' ≤ s.size
  | 0, l, l', k, k', h, hk => by
    simp [attrsL] at h
    omega
  | n + 1, l, l', k, k', h, hk => by
    have h1 := endB_le blaB s k hk
    have h2 := endB_ge blaB s k
    unfold attrsL at h
    split at h
    · simp at h
      omega
    · cases ha : attrL l s (endB blaB s k) with
      | error e => rw [ha] at h; cases h
      | ok b =>
        obtain ⟨a, k1⟩ := b
        rw [ha] at h
        dsimp only at h
        have h3 := attrL_le ha h1
        have := attrsL_le h h3.2
        omega

theorem skN_oneIf {s t : ByteArray} {k : Nat} {c : UInt8} (ht : t.data.toList = [c]) : skN s t k = oneIf (isB (isC c) s k) k := skN_one ht

/-- What the scanner has of a tag. -/
def TS (base X R T : Nat) (s : ByteArray) (w0 : World) (kd : Int) (at_ : Nat) (nm : ByteArray) (l : List Av) (k : Nat) (w : World) : Prop :=
  Blk w X 82 (scn s k) ∧ (∃ v, Blk w T 60 #[.int .i64 kd, .string nm, v, .int .i64 at_] ∧ Own w base 62 3 avc v l) ∧
    Blk w R 60 #[.int .i64 0, .string ⟨#[]⟩, .slice none 0 0, .int .i64 0] ∧ But w0.heap.size X w0 w

theorem TS.but {base X R T : Nat} {s : ByteArray} {w0 : World} {kd : Int} {at_ k k' : Nat} {nm : ByteArray} {l : List Av} {w w' : World} (h : TS base X R T s w0 kd at_ nm l k w) (hb : But w.heap.size X w w') (hX : Blk w' X 82 (scn s k')) (hXb : X < base) (hT : base ≤ T) (hR : X < R) :
    TS base X R T s w0 kd at_ nm l k' w' := by
  obtain ⟨h1, ⟨v, h2, h3⟩, h4, h5⟩ := h
  refine ⟨hX, ⟨v, h2.but hb h2.lt (by omega), h3.but hb (fun q hq => ?_)⟩, h4.but hb h4.lt (by omega), h5.trans hb h5.size⟩
  have := h3.lt q hq
  omega
theorem TS.drewN {base X R T : Nat} {s : ByteArray} {w0 : World} {kd : Int} {at_ k : Nat} {nm : ByteArray} {l : List Av} {w : World} (h : TS base X R T s w0 kd at_ nm l k w) (n : Nat) : TS base X R T s w0 kd at_ nm l k (w.drewN n) := by
  obtain ⟨h1, ⟨v, h2, h3⟩, h4, h5⟩ := h
  exact ⟨h1.drewN n, ⟨v, h2.drewN n, h3.drewN n⟩, h4.drewN n, h5.drewN n⟩
theorem TS.kind {base X R T : Nat} {s : ByteArray} {w0 : World} {kd : Int} {at_ k : Nat} {nm : ByteArray} {l : List Av} {w : World} (h : TS base X R T s w0 kd at_ nm l k w) (kd' : Int) (hXb : X < base) (hT : base ≤ T) (hw : w0.heap.size ≤ T) (hR : R < base) :
    TS base X R T s w0 kd' at_ nm l k (w.setCell ⟨T, 0, none⟩ (.int .i64 kd')) := by
  obtain ⟨h1, ⟨v, h2, h3⟩, h4, h5⟩ := h
  refine ⟨h1.far (p := ⟨T, 0, none⟩) (by dsimp only; omega) _, ⟨v, by simpa using h2.set_ 0 (.int .i64 kd'), h3.setCell (p := ⟨T, 0, none⟩) (own_blk_ne h3 h2 (by decide)) _⟩, h4.far (p := ⟨T, 0, none⟩) (by dsimp only; omega) _, h5.setCell (p := ⟨T, 0, none⟩) hw _⟩
theorem TS.name {base X R T : Nat} {s : ByteArray} {w0 : World} {kd : Int} {at_ k : Nat} {nm : ByteArray} {l : List Av} {w : World} (h : TS base X R T s w0 kd at_ nm l k w) (nm' : ByteArray) (hXb : X < base) (hT : base ≤ T) (hw : w0.heap.size ≤ T) (hR : R < base) :
    TS base X R T s w0 kd at_ nm' l k (w.setCell ⟨T, 1, none⟩ (.string nm')) := by
  obtain ⟨h1, ⟨v, h2, h3⟩, h4, h5⟩ := h
  refine ⟨h1.far (p := ⟨T, 1, none⟩) (by dsimp only; omega) _, ⟨v, by simpa using h2.set_ 1 (.string nm'), h3.setCell (p := ⟨T, 1, none⟩) (own_blk_ne h3 h2 (by decide)) _⟩, h4.far (p := ⟨T, 1, none⟩) (by dsimp only; omega) _, h5.setCell (p := ⟨T, 1, none⟩) hw _⟩

/-- How tag ends. -/
def TagEnd (X : Nat) (s : ByteArray) (w : World) (r : Except (Nat × Nat) (Tgv × Nat)) (e : Ending) (w' : World) : Prop :=
  match r with
  | .ok (t, k) => ∃ v, e = .returned (.agg #[.int .i64 t.1, .string t.2.1, v, .int .i64 t.2.2.2]) ∧ Own w' w.heap.size 62 3 avc v t.2.2.1 ∧ Blk w' X 82 (scn s k) ∧ But w.heap.size X w w'
  | .error (p, c) => e = .panicked (wrongP p c) ∧ But w.heap.size X w w'

theorem tagL_err1 {cl : Bool} {s nm : ByteArray} {k k2 at_ : Nat} {e : Nat × Nat} (hcl : cl = isB (isC 47) s k) (hn : nameL s (oneIf cl k) = .ok (nm, k2)) (ha : attrsL cl s (s.size + 1) [] k2 = .error e) : tagL s k at_ = .error e := by
  subst hcl
  simp [tagL, hn, ha]
theorem tagL_err2 {cl : Bool} {s nm : ByteArray} {k k2 k3 at_ : Nat} {l : List Av} {e : Nat × Nat} (hcl : cl = isB (isC 47) s k) (hn : nameL s (oneIf cl k) = .ok (nm, k2)) (ha : attrsL cl s (s.size + 1) [] k2 = .ok (l, k3)) (hm : mustL s (oneIf (aloB cl s k3) k3) [62] = .error e) : tagL s k at_ = .error e := by
  subst hcl
  simp [tagL, hn, ha, hm]
theorem tagL_ok {cl : Bool} {s nm : ByteArray} {k k2 k3 k5 at_ : Nat} {l : List Av} (hcl : cl = isB (isC 47) s k) (hn : nameL s (oneIf cl k) = .ok (nm, k2)) (ha : attrsL cl s (s.size + 1) [] k2 = .ok (l, k3)) (hm : mustL s (oneIf (aloB cl s k3) k3) [62] = .ok k5) : tagL s k at_ = .ok ((kdI cl (aloB cl s k3), nm, l, at_), k5) := by
  subst hcl
  simp [tagL, hn, ha, hm]
theorem aloB_le {cl : Bool} {s : ByteArray} {k : Nat} (hk : k ≤ s.size) : k ≤ oneIf (aloB cl s k) k ∧ oneIf (aloB cl s k) k ≤ s.size := by
  unfold oneIf
  split
  · rename_i h
    simp [aloB] at h
    have := isB_lt h.2
    omega
  · omega
theorem t47 : (⟨#[47]⟩ : ByteArray).data.toList = [47] := rfl
set_option maxRecDepth 100000 in
set_option maxHeartbeats 8000000 in
theorem tag_any (X : Nat) (s : ByteArray) (k at_ : Nat) (hs : s.size ≤ 4000000) (hk : k ≤ s.size) (w : World) (hX : Blk w X 82 (scn s k)) :
    Calls Try.prog 64 #[.pointer (some ⟨X, 0, none⟩), .int .i64 at_] w (TagEnd X s w (tagL s k at_)) := by
  have hXl := hX.lt
  have hs2 : s.size ≤ 5000000 := by omega
  go_enter Try.func64, Try.ntmps64
  go_wp2_with (fail)
  obtain ⟨cl, hcl⟩ : ∃ cl, cl = isB (isC 47) s k := ⟨_, rfl⟩
  refine (skip_any X s ⟨#[47]⟩ k hs2 (by decide) hk _ ((hX.alloc _).alloc _)).mono ?_
  rintro e w1 ⟨rfl, hX1, hb1⟩
  rw [skN_oneIf t47, ← hcl] at hX1
  rw [skB_one t47, ← hcl]
  have hTS1 : TS (w.heap.size + 1) X w.heap.size (w.heap.size + 1) s w 1 at_ ⟨#[]⟩ [] (oneIf cl k) w1 := by
    refine ⟨hX1, ⟨.slice none 0 0, ?_, Own.nil _ _ _ _ _⟩, ?_, ?_⟩
    · exact Blk.but (heap_new_at (by simp)) hb1 (by simp) (by omega)
    · exact Blk.but ((Blk.new w _ _).alloc _) hb1 (by simp; omega) (by omega)
    · exact (((But.refl _ _ _).alloc (Nat.le_refl _) _).alloc (by simp) _).trans hb1 (by simp; omega)
  clear hb1 hX1
  have hk1 : oneIf cl k ≤ s.size := by rw [hcl]; exact (oneIf_le hk).2
  have HC := hide hcl
  clear hcl
  go_upto_if 10 with (fail)
  go_cut [] (fun wx => TS (w.heap.size + 1) X w.heap.size (w.heap.size + 1) s w (kdI cl false) at_ ⟨#[]⟩ [] (oneIf cl k) wx)
  case first =>
    have hT := hTS1
    obtain ⟨_, ⟨v, h2, _⟩, _, _⟩ := hTS1
    have c0 := h2.cell 0
    have c1 := h2.frozen 0
    simp at c0
    clear h2
    cases cl
    · go_wp2_with fail
      go_meet
      exact hT
    · go_wp2_with fail
      go_meet
      exact hT.kind 2 (by omega) (by omega) (by omega) (by omega)
  case rest =>
    clear hTS1
    have hX2 := hcut.1
    go_wp2_with (fail)
    refine (name_any X s (oneIf cl k) hs2 hk1 _ hX2).mono ?_
    cases hn : nameL s (oneIf cl k) with
    | error e =>
      obtain ⟨p, c⟩ := e
      rintro e w2 ⟨rfl, hb2⟩
      refine ⟨rfl, ?_⟩
      have hr : tagL s k at_ = .error (p, c) := by simp [tagL, ← HC.out, hn]
      rw [hr]
      exact ⟨rfl, hcut.2.2.2.trans hb2 hcut.2.2.2.size⟩
    | ok a =>
      obtain ⟨nm, k2⟩ := a
      rintro e w2 ⟨rfl, hX3, hb2⟩
      dsimp only at hX3
      have hk2 := nameL_le hn hk1
      dsimp only at hk2
      have HN := hide hn
      have hTS2 := hcut.but hb2 hX3 (by omega) (Nat.le_refl _) (by omega)
      clear hcut hX2 hX3 hb2 hn
      have c0 := hTS2.2.1.choose_spec.1.cell 1
      have c1 := hTS2.2.1.choose_spec.1.frozen 1
      simp at c0
      have hTS3 := hTS2.name nm (by omega) (Nat.le_refl _) (by omega) (by omega)
      go_wp2
      generalize w2.setCell ⟨w.heap.size + 1, 1, none⟩ (.string nm) = w3 at *
      clear hTS2 c0 c1
      go_loopg [] (s.size + 1) (fun g wr => ∃ l kp, kp ≤ s.size ∧ l.length ≤ kp ∧ s.size < kp + g ∧ attrsL cl s (s.size + 1) [] k2 = attrsL cl s g l kp ∧ TS (w.heap.size + 1) X w.heap.size (w.heap.size + 1) s w (kdI cl false) at_ nm l kp wr)
      case atStart => exact ⟨[], k2, hk2.2, Nat.zero_le _, by omega, rfl, hTS3⟩
      case round =>
        obtain ⟨l, kp, hkp, hll, hg, he, hTS⟩ := hrel
        have HE := hide he
        clear he hTS3
        have hX4 := hTS.1
        go_wp2_with (fail)
        refine (all_any X 60 blaB (.inr (.inl ⟨rfl, rfl⟩)) s kp hs2 hkp _ hX4).mono ?_
        rintro e w4 ⟨rfl, hX5, hb4⟩
        have hTS4 := hTS.but hb4 hX5 (by omega) (Nat.le_refl _) (by omega)
        have hkb := endB_le blaB s kp hkp
        have hkb2 := endB_ge blaB s kp
        clear hTS hX4 hX5 hb4
        go_upto_region 6 with (fail)
        go_cut [28] (fun c wx => c = .bool (stB cl s kp) ∧ TS (w.heap.size + 1) X w.heap.size (w.heap.size + 1) s w (kdI cl false) at_ nm l (endB blaB s kp) wx)
        case first =>
          have c0 := hTS4.2.1.choose_spec.1.cell 0
          simp at c0
          have hX6 := hTS4.1
          have hT := hide hTS4
          clear hTS4
          cases cl
          · have kz : (kdI false false == 2) = false := rfl
            by_cases hz : endB blaB s kp = kp
            · have hz2 : s.extract kp (endB blaB s kp) = ByteArray.empty := by rw [hz]; simp
              have e1 : stB false s kp = true := by simp [stB, hz]
              have E1 := hide e1
              have hT2 := hT
              clear e1 hz
              go_wp2_with fail
              go_meet
              exact ⟨by rw [E1.out], hT.out⟩
            · have hz2 : (s.extract kp (endB blaB s kp)).toList.isEmpty = false := extract_ne (by omega) hkb
              have e1 : stB false s kp = !isB letB s (endB blaB s kp) := by simp [stB, hz]
              have E1 := hide e1
              clear e1 hz
              go_wp2_with fail
              refine (is_any X 72 letB (.inl ⟨rfl, rfl⟩) s _ hs2 hkb _ hX6).mono ?_
              rintro e w5 ⟨rfl, n5, rfl⟩
              go_wp2_with fail
              go_meet
              exact ⟨by rw [E1.out], hT.out.drewN _⟩
          · have kz : (kdI true false == 2) = true := rfl
            have e1 : stB true s kp = true := by simp [stB]
            have E1 := hide e1
            clear e1
            go_wp2_with fail
            go_meet
            exact ⟨by rw [E1.out], hT.out⟩
        case rest =>
          obtain ⟨hc, hTS5⟩ := hcut
          clear hTS4
          cases hst : stB cl s kp
          · rw [hst] at hc
            subst hc
            have hX6 := hTS5.1
            obtain ⟨v, hT5, hO5⟩ := hTS5.2.1
            go_wp2_with (fail)
            have hat := attr_any (w.heap.size + 1) X (w.heap.size + 1) s (endB blaB s kp) (kdI cl false) at_ nm v l hs2 hkb (by omega) wc hX6 hT5 hO5 (Nat.le_refl _) (by omega)
            refine hat.mono ?_
            cases ha : attrL l s (endB blaB s kp) with
            | error e =>
              obtain ⟨p, c⟩ := e
              rintro e w6 ⟨rfl, hb6⟩
              refine ⟨rfl, ?_⟩
              have hr : attrsL cl s gk l kp = .error (p, c) := by
                obtain ⟨g', rfl⟩ : ∃ g', gk = g' + 1 := ⟨gk - 1, by omega⟩
                simp [attrsL, hst, ha]
              rw [tagL_err1 HC.out HN.out (HE.out.trans hr)]
              exact ⟨rfl, hTS5.2.2.2.trans hb6 (by omega)⟩
            | ok b =>
              obtain ⟨a, k'⟩ := b
              rintro e w6 ⟨rfl, hX7, ⟨v', hT7, hO7⟩, hb6⟩
              have hr : attrsL cl s gk l kp = attrsL cl s (gk - 1) (l ++ [a]) k' := by
                obtain ⟨g', rfl⟩ : ∃ g', gk = g' + 1 := ⟨gk - 1, by omega⟩
                simp [attrsL, hst, ha]
              have HR := hide (HE.out.trans hr)
              have hk' := attrL_le ha hkb
              have hTS6 : TS (w.heap.size + 1) X w.heap.size (w.heap.size + 1) s w (kdI cl false) at_ nm (l ++ [a]) k' w6 :=
                ⟨hX7, ⟨v', hT7, hO7⟩, hTS5.2.2.1.but hb6 (by omega) (by omega), hTS5.2.2.2.trans hb6 (by omega)⟩
              clear hr ha hst hTS5 hX6 hT5 hO5 hX7 hT7 hO7 hb6
              go_wp2
              go_roundg (gk - 1)
              case measure => omega
              case rel => exact ⟨l ++ [a], k', hk'.2, by simp; omega, by omega, HR.out, hTS6⟩
          · rw [hst] at hc
            subst hc
            have hr : attrsL cl s gk l kp = .ok (l, endB blaB s kp) := by
              obtain ⟨g', rfl⟩ : ∃ g', gk = g' + 1 := ⟨gk - 1, by omega⟩
              simp [attrsL, hst]
            have HR := hide (HE.out.trans hr)
            clear hr hst
            have c0 := hTS5.2.1.choose_spec.1.cell 0
            have c1 := hTS5.2.1.choose_spec.1.frozen 0
            simp at c0
            have hX6 := hTS5.1
            generalize endB blaB s kp = k3 at *
            cases cl
            · have kz : (kdI false false == 1) = true := rfl
              go_wp2_with (fail)
              refine (skip_any X s ⟨#[47]⟩ k3 hs2 (by decide) hkb _ hX6).mono ?_
              rintro e w6 ⟨rfl, hX7, hb6⟩
              rw [skN_oneIf t47] at hX7
              rw [skB_one t47]
              have hTS6 := hTS5.but hb6 hX7 (by omega) (Nat.le_refl _) (by omega)
              clear hTS5 hX6 hX7 hb6 c0 c1
              have c0 := hTS6.2.1.choose_spec.1.cell 0
              have c1 := hTS6.2.1.choose_spec.1.frozen 0
              simp at c0
              cases hal : isB (isC 47) s k3
              · have hal2 : aloB false s k3 = false := by simp [aloB, hal]
                rw [hal] at hTS6
                clear hal
                go_wp2_with (fail)
                have hk4 : oneIf false k3 ≤ s.size := by rw [← hal2]; exact (aloB_le hkb).2
                have hm : Calls Try.prog 61 #[.pointer (some ⟨X, 0, none⟩), .string ⟨#[62]⟩] _ (EndX _ X s _ (mustL s (oneIf false k3) [62]) (fun _ => .tuple #[]) id) := must_any X s ⟨#[62]⟩ (oneIf false k3) hs2 (by decide) hk4 _ hTS6.1
                refine hm.mono ?_
                clear hm
                cases hm5 : mustL s (oneIf false k3) [62] with
                | error e =>
                  obtain ⟨p, c⟩ := e
                  rintro e w7 ⟨rfl, hb7⟩
                  refine ⟨rfl, ?_⟩
                  rw [tagL_err2 HC.out HN.out HR.out (by rw [hal2]; exact hm5)]
                  exact ⟨rfl, hTS6.2.2.2.trans hb7 hTS6.2.2.2.size⟩
                | ok k5 =>
                  rintro e w7 ⟨rfl, hX8, hb7⟩
                  dsimp only [id] at hX8
                  have hTS8 := hTS6.but hb7 hX8 (by omega) (Nat.le_refl _) (by omega)
                  have hk := tagL_ok (at_ := at_) HC.out HN.out HR.out (by rw [hal2]; exact hm5)
                  rw [hal2] at hk
                  have HK := hide hk
                  clear hk hTS6 hX8 hb7 hm5 hal2 kz
                  obtain ⟨hX9, ⟨v, hT9, hO9⟩, hR9, hb9⟩ := hTS8
                  obtain ⟨A, n, cap, rfl, -, -⟩ := hO9.rd avc_len
                  have t0 := hT9.cell 0
                  have t1 := hT9.cell 1
                  have t2 := hT9.cell 2
                  have t3 := hT9.cell 3
                  have r0 := hR9.cell 0
                  have r1 := hR9.cell 1
                  have r2 := hR9.cell 2
                  have r3 := hR9.cell 3
                  have f0 := hR9.frozen 0
                  have f1 := hR9.frozen 1
                  have f2 := hR9.frozen 2
                  have f3 := hR9.frozen 3
                  simp at t0 t1 t2 t3 r0 r1 r2 r3
                  have hne := own_blk_ne hO9 hR9 (by decide)
                  have hR10 := (((hR9.set_ 0 (.int .i64 (kdI false false))).set_ 1 (.string nm)).set_ 2 (.slice A n cap)).set_ 3 (.int .i64 at_)
                  have q0 := hR10.cell 0
                  have q1 := hR10.cell 1
                  have q2 := hR10.cell 2
                  have q3 := hR10.cell 3
                  simp at q0 q1 q2 q3
                  have Q := hide (And.intro q0 (And.intro q1 (And.intro q2 q3)))
                  clear q0 q1 q2 q3 hR10
                  have hNE := hide hne
                  clear hne
                  go_wp2
                  obtain ⟨q0, q1, q2, q3⟩ := Q.out
                  refine bodyPost_ret (v := .agg #[.int .i64 (kdI false false), .string nm, .slice A n cap, .int .i64 at_]) (by simp [results, Try.results64, go_sem, q0, q1, q2, q3]) rfl ?_
                  rw [HK.out]
                  refine ⟨_, rfl, (((((hO9.setCell (p := ⟨w.heap.size, 0, none⟩) hNE.out _).setCell (p := ⟨w.heap.size, 1, none⟩) hNE.out _).setCell (p := ⟨w.heap.size, 2, none⟩) hNE.out _).setCell (p := ⟨w.heap.size, 3, none⟩) hNE.out _).mono (by omega)), ?_, ?_⟩
                  · exact (((hX9.far (p := ⟨w.heap.size, 0, none⟩) (by dsimp only; omega) _).far (p := ⟨w.heap.size, 1, none⟩) (by dsimp only; omega) _).far (p := ⟨w.heap.size, 2, none⟩) (by dsimp only; omega) _).far (p := ⟨w.heap.size, 3, none⟩) (by dsimp only; omega) _
                  · exact (((hb9.setCell (p := ⟨w.heap.size, 0, none⟩) (Nat.le_refl _) _).setCell (p := ⟨w.heap.size, 1, none⟩) (Nat.le_refl _) _).setCell (p := ⟨w.heap.size, 2, none⟩) (Nat.le_refl _) _).setCell (p := ⟨w.heap.size, 3, none⟩) (Nat.le_refl _) _
              · have hal2 : aloB false s k3 = true := by simp [aloB, hal]
                rw [hal] at hTS6
                clear hal
                have hTS7 := hTS6.kind (kdI false true) (by omega) (Nat.le_refl _) (by omega) (by omega)
                go_wp2_with (fail)
                have hk4 : oneIf true k3 ≤ s.size := by rw [← hal2]; exact (aloB_le hkb).2
                have hm : Calls Try.prog 61 #[.pointer (some ⟨X, 0, none⟩), .string ⟨#[62]⟩] _ (EndX _ X s _ (mustL s (oneIf true k3) [62]) (fun _ => .tuple #[]) id) := must_any X s ⟨#[62]⟩ (oneIf true k3) hs2 (by decide) hk4 _ hTS7.1
                refine hm.mono ?_
                clear hm
                cases hm5 : mustL s (oneIf true k3) [62] with
                | error e =>
                  obtain ⟨p, c⟩ := e
                  rintro e w7 ⟨rfl, hb7⟩
                  refine ⟨rfl, ?_⟩
                  rw [tagL_err2 HC.out HN.out HR.out (by rw [hal2]; exact hm5)]
                  exact ⟨rfl, hTS7.2.2.2.trans hb7 hTS7.2.2.2.size⟩
                | ok k5 =>
                  rintro e w7 ⟨rfl, hX8, hb7⟩
                  dsimp only [id] at hX8
                  have hTS8 := hTS7.but hb7 hX8 (by omega) (Nat.le_refl _) (by omega)
                  have hk := tagL_ok (at_ := at_) HC.out HN.out HR.out (by rw [hal2]; exact hm5)
                  rw [hal2] at hk
                  have HK := hide hk
                  clear hk hTS7 hTS6 hX8 hb7 hm5 hal2 kz
                  obtain ⟨hX9, ⟨v, hT9, hO9⟩, hR9, hb9⟩ := hTS8
                  obtain ⟨A, n, cap, rfl, -, -⟩ := hO9.rd avc_len
                  have t0 := hT9.cell 0
                  have t1 := hT9.cell 1
                  have t2 := hT9.cell 2
                  have t3 := hT9.cell 3
                  have r0 := hR9.cell 0
                  have r1 := hR9.cell 1
                  have r2 := hR9.cell 2
                  have r3 := hR9.cell 3
                  have f0 := hR9.frozen 0
                  have f1 := hR9.frozen 1
                  have f2 := hR9.frozen 2
                  have f3 := hR9.frozen 3
                  simp at t0 t1 t2 t3 r0 r1 r2 r3
                  have hne := own_blk_ne hO9 hR9 (by decide)
                  have hR10 := (((hR9.set_ 0 (.int .i64 (kdI false true))).set_ 1 (.string nm)).set_ 2 (.slice A n cap)).set_ 3 (.int .i64 at_)
                  have q0 := hR10.cell 0
                  have q1 := hR10.cell 1
                  have q2 := hR10.cell 2
                  have q3 := hR10.cell 3
                  simp at q0 q1 q2 q3
                  have Q := hide (And.intro q0 (And.intro q1 (And.intro q2 q3)))
                  clear q0 q1 q2 q3 hR10
                  have hNE := hide hne
                  clear hne
                  go_wp2
                  obtain ⟨q0, q1, q2, q3⟩ := Q.out
                  refine bodyPost_ret (v := .agg #[.int .i64 (kdI false true), .string nm, .slice A n cap, .int .i64 at_]) (by simp [results, Try.results64, go_sem, q0, q1, q2, q3]) rfl ?_
                  rw [HK.out]
                  refine ⟨_, rfl, (((((hO9.setCell (p := ⟨w.heap.size, 0, none⟩) hNE.out _).setCell (p := ⟨w.heap.size, 1, none⟩) hNE.out _).setCell (p := ⟨w.heap.size, 2, none⟩) hNE.out _).setCell (p := ⟨w.heap.size, 3, none⟩) hNE.out _).mono (by omega)), ?_, ?_⟩
                  · exact (((hX9.far (p := ⟨w.heap.size, 0, none⟩) (by dsimp only; omega) _).far (p := ⟨w.heap.size, 1, none⟩) (by dsimp only; omega) _).far (p := ⟨w.heap.size, 2, none⟩) (by dsimp only; omega) _).far (p := ⟨w.heap.size, 3, none⟩) (by dsimp only; omega) _
                  · exact (((hb9.setCell (p := ⟨w.heap.size, 0, none⟩) (Nat.le_refl _) _).setCell (p := ⟨w.heap.size, 1, none⟩) (Nat.le_refl _) _).setCell (p := ⟨w.heap.size, 2, none⟩) (Nat.le_refl _) _).setCell (p := ⟨w.heap.size, 3, none⟩) (Nat.le_refl _) _
            · have kz : (kdI true false == 1) = false := rfl
              have hal2 : aloB true s k3 = false := by simp [aloB]
              go_wp2_with (fail)
              have hk4 : oneIf false k3 ≤ s.size := by rw [← hal2]; exact (aloB_le hkb).2
              have hm : Calls Try.prog 61 #[.pointer (some ⟨X, 0, none⟩), .string ⟨#[62]⟩] _ (EndX _ X s _ (mustL s (oneIf false k3) [62]) (fun _ => .tuple #[]) id) := must_any X s ⟨#[62]⟩ (oneIf false k3) hs2 (by decide) hk4 _ hTS5.1
              refine hm.mono ?_
              clear hm
              cases hm5 : mustL s (oneIf false k3) [62] with
              | error e =>
                obtain ⟨p, c⟩ := e
                rintro e w7 ⟨rfl, hb7⟩
                refine ⟨rfl, ?_⟩
                rw [tagL_err2 HC.out HN.out HR.out (by rw [hal2]; exact hm5)]
                exact ⟨rfl, hTS5.2.2.2.trans hb7 hTS5.2.2.2.size⟩
              | ok k5 =>
                rintro e w7 ⟨rfl, hX8, hb7⟩
                dsimp only [id] at hX8
                have hTS8 := hTS5.but hb7 hX8 (by omega) (Nat.le_refl _) (by omega)
                have hk := tagL_ok (at_ := at_) HC.out HN.out HR.out (by rw [hal2]; exact hm5)
                rw [hal2] at hk
                have HK := hide hk
                clear hk hTS5 hX8 hb7 hm5 hal2 kz
                obtain ⟨hX9, ⟨v, hT9, hO9⟩, hR9, hb9⟩ := hTS8
                obtain ⟨A, n, cap, rfl, -, -⟩ := hO9.rd avc_len
                have t0 := hT9.cell 0
                have t1 := hT9.cell 1
                have t2 := hT9.cell 2
                have t3 := hT9.cell 3
                have r0 := hR9.cell 0
                have r1 := hR9.cell 1
                have r2 := hR9.cell 2
                have r3 := hR9.cell 3
                have f0 := hR9.frozen 0
                have f1 := hR9.frozen 1
                have f2 := hR9.frozen 2
                have f3 := hR9.frozen 3
                simp at t0 t1 t2 t3 r0 r1 r2 r3
                have hne := own_blk_ne hO9 hR9 (by decide)
                have hR10 := (((hR9.set_ 0 (.int .i64 (kdI true false))).set_ 1 (.string nm)).set_ 2 (.slice A n cap)).set_ 3 (.int .i64 at_)
                have q0 := hR10.cell 0
                have q1 := hR10.cell 1
                have q2 := hR10.cell 2
                have q3 := hR10.cell 3
                simp at q0 q1 q2 q3
                have Q := hide (And.intro q0 (And.intro q1 (And.intro q2 q3)))
                clear q0 q1 q2 q3 hR10
                have hNE := hide hne
                clear hne
                go_wp2
                obtain ⟨q0, q1, q2, q3⟩ := Q.out
                refine bodyPost_ret (v := .agg #[.int .i64 (kdI true false), .string nm, .slice A n cap, .int .i64 at_]) (by simp [results, Try.results64, go_sem, q0, q1, q2, q3]) rfl ?_
                rw [HK.out]
                refine ⟨_, rfl, (((((hO9.setCell (p := ⟨w.heap.size, 0, none⟩) hNE.out _).setCell (p := ⟨w.heap.size, 1, none⟩) hNE.out _).setCell (p := ⟨w.heap.size, 2, none⟩) hNE.out _).setCell (p := ⟨w.heap.size, 3, none⟩) hNE.out _).mono (by omega)), ?_, ?_⟩
                · exact (((hX9.far (p := ⟨w.heap.size, 0, none⟩) (by dsimp only; omega) _).far (p := ⟨w.heap.size, 1, none⟩) (by dsimp only; omega) _).far (p := ⟨w.heap.size, 2, none⟩) (by dsimp only; omega) _).far (p := ⟨w.heap.size, 3, none⟩) (by dsimp only; omega) _
                · exact (((hb9.setCell (p := ⟨w.heap.size, 0, none⟩) (Nat.le_refl _) _).setCell (p := ⟨w.heap.size, 1, none⟩) (Nat.le_refl _) _).setCell (p := ⟨w.heap.size, 2, none⟩) (Nat.le_refl _) _).setCell (p := ⟨w.heap.size, 3, none⟩) (Nat.le_refl _) _

end Go.Proofs.Ytcblakflhheepaa
