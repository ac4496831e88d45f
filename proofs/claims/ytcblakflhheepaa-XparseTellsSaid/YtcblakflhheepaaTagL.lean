/- Chapter 41: the reference takes a tag. -/
import Derived.Test.YtcblakflhheepaaTagK
namespace Go.Proofs.Ytcblakflhheepaa
open Go.RowKit
set_option linter.unusedVariables false
set_option linter.unusedSimpArgs false

abbrev RTag : TypeId := 91
abbrev RAttr : TypeId := 93
theorem infoRAttr : (Try.prog.info? 93).map (fun i => (i.zero, i.size, i.bytes)) = some (some (.agg #[.string ⟨#[]⟩, .string ⟨#[]⟩, .int .i64 0]), 3, 40) := by kernel_rfl

/-- What the reference has of a tag. -/
def RS (base X R T : Nat) (s : ByteArray) (w0 : World) (kd : Int) (at_ : Nat) (nm : ByteArray) (l : List Av) (x : Nat × Nat) (w : World) : Prop :=
  Blk w X TS86 (stt s x) ∧ (∃ v, Blk w T RTag #[.int .i64 kd, .string nm, v, .int .i64 at_] ∧ Own w base RAttr 3 avc v l) ∧
    Blk w R RTag #[.int .i64 0, .string ⟨#[]⟩, .slice none 0 0, .int .i64 0] ∧ But w0.heap.size X w0 w
section
variable {base X R T : Nat} {s : ByteArray} {w0 : World} {kd : Int} {at_ : Nat} {x x' : Nat × Nat} {nm : ByteArray} {l : List Av} {w w' : World}
theorem RS.but (h : RS base X R T s w0 kd at_ nm l x w) (hb : But w.heap.size X w w') (hX : Blk w' X TS86 (stt s x')) (hXb : X < base) (hT : base ≤ T) (hR : X < R) :
    RS base X R T s w0 kd at_ nm l x' w' := by
  obtain ⟨h1, ⟨v, h2, h3⟩, h4, h5⟩ := h
  refine ⟨hX, ⟨v, h2.but hb h2.lt (by omega), h3.but hb (fun q hq => ?_)⟩, h4.but hb h4.lt (by omega), h5.trans hb h5.size⟩
  have := h3.lt q hq
  omega
theorem RS.drewN (h : RS base X R T s w0 kd at_ nm l x w) (n : Nat) : RS base X R T s w0 kd at_ nm l x (w.drewN n) := by
  obtain ⟨h1, ⟨v, h2, h3⟩, h4, h5⟩ := h
  exact ⟨h1.drewN n, ⟨v, h2.drewN n, h3.drewN n⟩, h4.drewN n, h5.drewN n⟩
theorem RS.kind (h : RS base X R T s w0 kd at_ nm l x w) (kd' : Int) (hXb : X < base) (hT : base ≤ T) (hw : w0.heap.size ≤ T) (hR : R < base) :
    RS base X R T s w0 kd' at_ nm l x (w.setCell ⟨T, 0, none⟩ (.int .i64 kd')) := by
  obtain ⟨h1, ⟨v, h2, h3⟩, h4, h5⟩ := h
  refine ⟨h1.far (p := ⟨T, 0, none⟩) (by dsimp only; omega) _, ⟨v, by simpa using h2.set_ 0 (.int .i64 kd'), h3.setCell (p := ⟨T, 0, none⟩) (own_blk_ne h3 h2 (by decide)) _⟩, h4.far (p := ⟨T, 0, none⟩) (by dsimp only; omega) _, h5.setCell (p := ⟨T, 0, none⟩) hw _⟩
theorem RS.name (h : RS base X R T s w0 kd at_ nm l x w) (nm' : ByteArray) (hXb : X < base) (hT : base ≤ T) (hw : w0.heap.size ≤ T) (hR : R < base) :
    RS base X R T s w0 kd at_ nm' l x (w.setCell ⟨T, 1, none⟩ (.string nm')) := by
  obtain ⟨h1, ⟨v, h2, h3⟩, h4, h5⟩ := h
  refine ⟨h1.far (p := ⟨T, 1, none⟩) (by dsimp only; omega) _, ⟨v, by simpa using h2.set_ 1 (.string nm'), h3.setCell (p := ⟨T, 1, none⟩) (own_blk_ne h3 h2 (by decide)) _⟩, h4.far (p := ⟨T, 1, none⟩) (by dsimp only; omega) _, h5.setCell (p := ⟨T, 1, none⟩) hw _⟩
theorem RS.place (h : RS base X R T s w0 kd at_ nm l x w) (k : Nat) (hXb : X < base) (hT : base ≤ T) (hR : X < R) :
    RS base X R T s w0 kd at_ nm l (k, x.2) (w.setCell ⟨X, 1, none⟩ (.int .i64 k)) := by
  obtain ⟨h1, ⟨v, h2, h3⟩, h4, h5⟩ := h
  refine ⟨by simpa using h1.set_ 1 (.int .i64 k), ⟨v, h2.far (p := ⟨X, 1, none⟩) (by dsimp only; omega) _, h3.setCell (p := ⟨X, 1, none⟩) (fun e => by have := h3.lt _ e; dsimp only at this; omega) _⟩, h4.far (p := ⟨X, 1, none⟩) (by dsimp only; omega) _, h5.self 1 _⟩
end

/-- Does a byte of a kind stand here, and no error? -/
def tisR (p : Int → Bool) (s : ByteArray) (x : Nat × Nat) : Bool := decide (x.2 = 0) && isB p s x.1
def stepR (b : Bool) (x : Nat × Nat) : Nat × Nat := if b then (x.1 + 1, x.2) else x
theorem isR_on {p : Int → Bool} {s : ByteArray} {x : Nat × Nat} (h : onB s x = false) : tisR p s x = false := by
  unfold tisR isB
  by_cases h1 : x.2 = 0
  · simp [onB, h1] at h
    simp [h1]; omega
  · simp [h1]
theorem stepR_le {p : Int → Bool} {s : ByteArray} {x : Nat × Nat} (h : x.1 ≤ s.size) : (stepR (tisR p s x) x).1 ≤ s.size := by
  unfold stepR
  split
  · rename_i h1
    simp [tisR] at h1
    have := isB_lt h1.2
    dsimp only; omega
  · exact h

/-- 'x.on() && x.S[x.At] == c': what the region that reads it knows. -/
theorem on_facts {s : ByteArray} {k er : Nat} (ho : onB s (k, er) = true) : er = 0 ∧ k < s.size := by
  simpa [onB] using ho

def cB (cl : Bool) (s : ByteArray) (n : Nat) (x : Nat × Nat) : Bool := !cl && decide (0 < n) && tisR letB s x

theorem blaS_le {s : ByteArray} {x : Nat × Nat} (h : x.1 ≤ s.size) : (blaS s x).1 ≤ s.size := by
  unfold blaS
  split
  · exact endB_le _ _ _ h
  · exact h
/-- What the loop over attributes knows: the state ahead of the blanks, the attributes so far. -/
def LoopR (cl : Bool) (s : ByteArray) (x2 : Nat × Nat) (g : Nat) (l : List Av) (xp : Nat × Nat) : Prop :=
  (x2.2 ≠ 0 → xp = x2) ∧ (x2.2 = 0 → (xp.2 = 0 → attrsL cl s (s.size + 1) [] x2.1 = attrsL cl s g l xp.1) ∧ (xp.2 ≠ 0 → attrsL cl s (s.size + 1) [] x2.1 = .error xp))
theorem LoopR.start {cl : Bool} {s : ByteArray} {x2 : Nat × Nat} : LoopR cl s x2 (s.size + 1) [] x2 := ⟨fun _ => rfl, fun _ => ⟨fun _ => rfl, fun h => by contradiction⟩⟩

theorem cB_true {cl : Bool} {s : ByteArray} {n k er : Nat} {xp : Nat × Nat} (h : cB cl s n (k, er) = true) (hn : blaN s xp = n) (hx : blaS s xp = (k, er)) : cl = false ∧ er = 0 ∧ stB false s xp.1 = false := by
  simp [cB, tisR] at h
  obtain ⟨⟨h1, h2⟩, h3, h4⟩ := h
  have hz : xp.2 = 0 := by
    by_cases hz : xp.2 = 0
    · exact hz
    · simp [blaS, hz] at hx
      rw [hx] at hz
      exact absurd h3 hz
  refine ⟨h1, h3, ?_⟩
  simp [blaS, hz] at hx
  simp [blaN, hz] at hn
  simp [stB, hx.1, h4]
  omega
theorem attrL_err {l : List Av} {s : ByteArray} {k : Nat} {e : Nat × Nat} (h : attrL l s k = .error e) (hk : k ≤ s.size) : e.2 ≠ 0 := by
  unfold attrL at h
  cases hn : nameL s k with
  | error e' =>
    rw [hn] at h
    injection h with h
    rw [← h, nameL_err hn]
    simp
  | ok b =>
    obtain ⟨n, k1⟩ := b
    have h1 := nameL_le hn hk
    dsimp only at h1
    rw [hn] at h
    dsimp only at h
    split at h
    · injection h with h
      rw [← h]
      simp
    · cases hm : mustL s k1 [61, 34] with
      | error e' =>
        rw [hm] at h
        injection h with h
        rw [← h, (mustL_err hm h1.2).2]
        simp
      | ok k2 =>
        have h2 := mustL_le hm h1.2
        rw [hm] at h
        dsimp only at h
        cases hm2 : mustL s (endB plaB s k2) [34] with
        | error e' =>
          rw [hm2] at h
          injection h with h
          rw [← h, (mustL_err hm2 (endB_le plaB s k2 h2.2)).2]
          simp
        | ok k4 => rw [hm2] at h; cases h
theorem LoopR.step {s : ByteArray} {x2 xp : Nat × Nat} {g k : Nat} {l : List Av} (h : LoopR false s x2 g l xp) (hst : stB false s xp.1 = false) (hx : blaS s xp = (k, 0)) (hxp : xp.1 ≤ s.size) :
    ∀ g', g = g' + 1 → LoopR false s x2 g' (l ++ [attrV l s (k, 0)]) (attrX l s (k, 0)) ∧ ((attrX l s (k, 0)).2 = 0 → xp.1 < (attrX l s (k, 0)).1) := by
  rintro g' rfl
  have hz : xp.2 = 0 := by
    by_cases hz : xp.2 = 0
    · exact hz
    · simp [blaS, hz] at hx
      rw [hx] at hz
      exact absurd rfl hz
  simp [blaS, hz] at hx
  have hk : k ≤ s.size := by rw [← hx]; exact endB_le _ _ _ hxp
  have hk2 : xp.1 ≤ k := by rw [← hx]; exact endB_ge _ _ _
  obtain ⟨r1, r2⟩ := attrX_rel (l := l) hk
  have e1 : attrsL false s (g' + 1) l xp.1 = match attrL l s k with | .error e => .error e | .ok (a, k') => attrsL false s g' (l ++ [a]) k' := by
    rw [attrsL, hst, hx]
    rfl
  cases ha : attrL l s k with
  | error e =>
    have he := attrL_err ha hk
    rw [ha] at r1 e1
    simp only [exS] at r1
    rw [r1]
    refine ⟨⟨fun h2 => ?_, fun h2 => ⟨fun h3 => absurd h3 he, fun _ => ?_⟩⟩, fun h3 => absurd h3 he⟩
    · have := h.1 h2
      rw [this] at hz
      exact absurd hz h2
    · rw [(h.2 h2).1 hz, e1]
  | ok b =>
    obtain ⟨a, k'⟩ := b
    have hl := attrL_le ha hk
    have hv := r2 a k' ha
    rw [ha] at r1 e1
    simp only [exS] at r1
    rw [r1, hv]
    refine ⟨⟨fun h2 => ?_, fun h2 => ⟨fun _ => ?_, fun h3 => absurd rfl h3⟩⟩, fun _ => by dsimp only; omega⟩
    · have := h.1 h2
      rw [this] at hz
      exact absurd hz h2
    · rw [(h.2 h2).1 hz, e1]

/-- What the reference's tag is to the scanner's. -/
def TagRel (s : ByteArray) (x : Nat × Nat) (at_ : Nat) (t : Tgv) (x' : Nat × Nat) : Prop :=
  x'.1 ≤ s.size ∧ (x.2 ≠ 0 → x' = x) ∧ (x.2 = 0 → exS (tagL s x.1 at_) (·.2) = x' ∧ ∀ t0 k', tagL s x.1 at_ = .ok (t0, k') → t = t0)
def RTagEnd (X : Nat) (s : ByteArray) (w : World) (x : Nat × Nat) (at_ : Nat) (e : Ending) (w' : World) : Prop :=
  ∃ (t : Tgv) (x' : Nat × Nat) (v : Value), e = .returned (.agg #[.int .i64 t.1, .string t.2.1, v, .int .i64 t.2.2.2]) ∧ Own w' w.heap.size RAttr 3 avc v t.2.2.1 ∧ Blk w' X TS86 (stt s x') ∧ But w.heap.size X w w' ∧ TagRel s x at_ t x'
theorem tagRel_end {s nm : ByteArray} {x x2 xp : Nat × Nat} {cl al : Bool} {n k3 er3 g at_ : Nat} {l : List Av} (hcl : cl = tisR (isC 47) s x) (hx : x.1 ≤ s.size) (h2 : namS s (stepR cl x) = x2) (hnm : namV s (stepR cl x) = nm)
    (hL : LoopR cl s x2 g l xp) (hxp : xp.1 ≤ s.size) (hg : xp.2 = 0 → s.size < xp.1 + g) (hx3 : blaS s xp = (k3, er3)) (hn : blaN s xp = n) (hcb : cB cl s n (k3, er3) = false) (hal : al = (!cl && tisR (isC 47) s (k3, er3))) :
    TagRel s x at_ (kdI cl al, nm, l, at_) (oneS s 62 (stepR al (k3, er3))) := by
  have hk3 : k3 ≤ s.size := by have := blaS_le hxp; rw [hx3] at this; exact this
  have hst : (stepR al (k3, er3)).1 ≤ s.size := by
    rw [hal]
    cases cl
    · exact stepR_le (x := (k3, er3)) hk3
    · exact hk3
  refine ⟨oneS_le hst, fun he => ?_, fun he => ?_⟩
  · have hc : cl = false := by rw [hcl]; simp [tisR, he]
    subst hc
    have e1 : stepR false x = x := rfl
    rw [e1, namS_err he] at h2
    subst h2
    have e2 := hL.1 he
    subst e2
    rw [blaS_err he] at hx3
    have ha : al = false := by rw [hal, ← hx3]; simp [tisR, he]
    subst ha
    have e3 : stepR false (k3, er3) = (k3, er3) := rfl
    rw [e3, ← hx3, oneS_err he]
  · obtain ⟨k, er⟩ := x
    dsimp only at he hx
    subst he
    have hcl2 : cl = isB (isC 47) s k := by rw [hcl]; simp [tisR]
    have e1 : stepR cl (k, 0) = (oneIf cl k, 0) := by unfold stepR oneIf; split <;> rfl
    have hk1 : oneIf cl k ≤ s.size := by rw [hcl2]; exact (oneIf_le hx).2
    rw [e1] at h2 hnm
    dsimp only
    cases hname : nameL s (oneIf cl k) with
    | error e =>
      have he := nameL_err hname
      have ht : tagL s k at_ = .error e := by subst hcl2; simp [tagL, hname]
      have hx2 : x2 = e := by rw [← h2]; simp [namS, hname, exS]
      have hz : x2.2 ≠ 0 := by rw [hx2, he]; simp
      have e2 := hL.1 hz
      subst e2
      rw [blaS_err hz] at hx3
      have ha : al = false := by rw [hal, ← hx3]; simp [tisR, hz]
      subst ha
      have e3 : stepR false (k3, er3) = (k3, er3) := rfl
      rw [e3, ← hx3, oneS_err hz, ht]
      exact ⟨hx2.symm, fun _ _ h => by cases h⟩
    | ok b =>
      obtain ⟨nm', k2⟩ := b
      have hk2 := nameL_le hname hk1
      dsimp only at hk2
      have hx2 : x2 = (k2, 0) := by rw [← h2]; simp [namS, hname, exS]
      have hnm2 : nm' = nm := by
        rw [← hnm]
        cases hq : isB letB s (oneIf cl k) <;> simp [nameL, hq] at hname
        simp [namV, hname.1]
      subst hnm2
      subst hx2
      obtain ⟨g1, g2⟩ := hL.2 rfl
      by_cases hz : xp.2 = 0
      · have ha := g1 hz
        have hgz := hg hz
        obtain ⟨g', rfl⟩ : ∃ g', g = g' + 1 := ⟨g - 1, by omega⟩
        simp [blaS, hz] at hx3
        simp [blaN, hz] at hn
        obtain ⟨h3, rfl⟩ := hx3
        have hstb : stB cl s xp.1 = true := by
          cases cl
          · simp [cB, tisR, ← hn, h3] at hcb
            simp [stB, h3]
            by_cases hlt : xp.1 < k3
            · exact Or.inr (hcb (by omega))
            · have := endB_ge blaB s xp.1
              exact Or.inl (by omega)
          · simp [stB]
        have hb : attrsL cl s (g' + 1) l xp.1 = .ok (l, k3) := by rw [attrsL, hstb]; simp [h3]
        rw [hb] at ha
        have hal2 : al = aloB cl s k3 := by rw [hal]; simp [aloB, tisR]
        subst hal2
        have e3 : stepR (aloB cl s k3) (k3, 0) = (oneIf (aloB cl s k3) k3, 0) := by unfold stepR oneIf; split <;> rfl
        rw [e3]
        cases hm : mustL s (oneIf (aloB cl s k3) k3) [62] with
        | error e =>
          rw [tagL_err2 hcl2 hname ha hm]
          exact ⟨by simp [oneS, hm, exS], fun _ _ h => by cases h⟩
        | ok k5 =>
          rw [tagL_ok hcl2 hname ha hm]
          refine ⟨by simp [oneS, hm, exS], fun t0 k' h => ?_⟩
          injection h with h
          injection h with h _
      · have ha := g2 hz
        rw [tagL_err1 hcl2 hname ha]
        rw [blaS_err hz] at hx3
        have hal2 : al = false := by rw [hal, ← hx3]; simp [tisR, hz]
        subst hal2
        have e3 : stepR false (k3, er3) = (k3, er3) := rfl
        rw [e3, ← hx3, oneS_err hz]
        exact ⟨rfl, fun _ _ h => by cases h⟩

set_option maxRecDepth 100000 in
set_option maxHeartbeats 8000000 in
theorem rtag_any (X : Nat) (s : ByteArray) (x : Nat × Nat) (at_ : Nat) (hs : s.size ≤ 4000000) (hx : x.1 ≤ s.size) (w : World) (hX : Blk w X TS86 (stt s x)) :
    Calls Try.prog 43 #[.pointer (some ⟨X, 0, none⟩), .int .i64 at_] w (RTagEnd X s w x at_) := by
  have hXl := hX.lt
  go_enter Try.func43, Try.ntmps43
  go_wp2
  have hS1 : RS (w.heap.size + 1) X w.heap.size (w.heap.size + 1) s w 1 at_ ⟨#[]⟩ [] x ((w.alloc (.cells #[.int .i64 0, .string ⟨#[]⟩, .slice none 0 0, .int .i64 0] RTag)).alloc (.cells #[.int .i64 1, .string ⟨#[]⟩, .slice none 0 0, .int .i64 at_] RTag)) := by
    refine ⟨(hX.alloc _).alloc _, ⟨.slice none 0 0, heap_new_at (by simp), Own.nil _ _ _ _ _⟩, (Blk.new w _ _).alloc _, ((But.refl _ _ _).alloc (Nat.le_refl _) _).alloc (by simp) _⟩
  generalize ((w.alloc (.cells #[.int .i64 0, .string ⟨#[]⟩, .slice none 0 0, .int .i64 0] RTag)).alloc (.cells #[.int .i64 1, .string ⟨#[]⟩, .slice none 0 0, .int .i64 at_] RTag)) = w1 at *
  go_cut [22] (fun c wx => c = .bool (tisR (isC 47) s x) ∧ RS (w.heap.size + 1) X w.heap.size (w.heap.size + 1) s w 1 at_ ⟨#[]⟩ [] x wx)
  case first =>
    obtain ⟨k, er⟩ := x
    have hX1 := hS1.1
    have d0 := hX1.cell 0
    have d1 := hX1.cell 1
    simp at d0 d1
    cases ho : onB s (k, er)
    · have hon := fun n => on_at (w := w1.drewN n) (hX1.drewN n) ho
      have HON := hide hon
      have H := hide (isR_on (p := isC 47) ho)
      have HS := hide hS1
      clear ho hon hS1 hX1
      go_quiet ((go_at_call 40; exact Calls.quiet_of (HON.out _)))
      go_wp2_with fail
      go_meet
      exact ⟨by rw [H.out], HS.out.drewN _⟩
    · have hon := fun n => on_at (w := w1.drewN n) (hX1.drewN n) ho
      have HON := hide hon
      obtain ⟨rfl, hlt⟩ := on_facts ho
      have i0 : (0 : Int) ≤ (k : Int) := by omega
      have i1 : (k : Int) < (s.size : Int) := by omega
      have i2 : (k : Int).toNat = k := by omega
      have H : Hid (tisR (isC 47) s (k, 0) = (((s[k]).toNat : Int) == 47)) := by
        show tisR (isC 47) s (k, 0) = _
        simp [tisR, isB, hlt, ← byt_eq hlt, isC]
      have HS := hide hS1
      clear ho hon hS1 hX1
      go_quiet ((go_at_call 40; exact Calls.quiet_of (HON.out _)))
      go_wp2_with fail
      go_meet
      exact ⟨by rw [H.out], HS.out.drewN _⟩
  case rest =>
    obtain ⟨hc, hS2⟩ := hcut
    clear hS1
    obtain ⟨cl, hcl⟩ : ∃ cl, cl = tisR (isC 47) s x := ⟨_, rfl⟩
    rw [← hcl] at hc
    subst hc
    have hx1 : (stepR cl x).1 ≤ s.size := by rw [hcl]; exact stepR_le hx
    have hcl2 : cl = true → x.2 = 0 ∧ x.1 < s.size := by
      intro h
      rw [h] at hcl
      have h1 := hcl.symm
      simp [tisR] at h1
      exact ⟨h1.1, isB_lt h1.2⟩
    have HC := hide hcl
    have HC2 := hide hcl2
    clear hcl hcl2
    go_upto_if 22 with (fail)
    go_cut [] (fun wx => RS (w.heap.size + 1) X w.heap.size (w.heap.size + 1) s w (kdI cl false) at_ ⟨#[]⟩ [] (stepR cl x) wx)
    case first =>
      have hX2 := hS2.1
      have d0 := hX2.cell 1
      have d1 := hX2.frozen 1
      have c0 := hS2.2.1.choose_spec.1.cell 0
      have c1 := hS2.2.1.choose_spec.1.frozen 0
      simp at d0 c0
      cases cl
      · have HS := hide hS2
        clear hS2 hX2
        go_wp2_with fail
        go_meet
        exact HS.out
      · have hle := (HC2.out rfl).2
        have hn : X ≠ w.heap.size + 1 := by omega
        have s0 : IntKind.i64.wrap ((x.1 : Int) + 1) = (x.1 : Int) + 1 := IntWalk.i64_in _ (by omega)
        have HS := hide ((hS2.kind 2 (by omega) (Nat.le_refl _) (by omega) (by omega)).place (x.1 + 1) (by omega) (Nat.le_refl _) (by omega))
        clear hS2 hX2
        go_wp2_with fail
        go_meet
        have h1 := HS.out
        simpa [stepR, kdI] using h1
    case rest =>
      clear hS2
      have hX3 := hcut.1
      go_wp2_with (fail)
      refine (rname_any X s (stepR cl x) hs hx1 _ hX3).mono ?_
      rintro e w2 ⟨rfl, hX4, hb4⟩
      have hS4 := hcut.but hb4 hX4 (by omega) (Nat.le_refl _) (by omega)
      have hx2 : (namS s (stepR cl x)).1 ≤ s.size := namS_le hx1
      clear hcut hX3 hX4 hb4
      obtain ⟨x2, hk2⟩ : ∃ x2, namS s (stepR cl x) = x2 := ⟨_, rfl⟩
      obtain ⟨nm, hnm⟩ : ∃ nm, namV s (stepR cl x) = nm := ⟨_, rfl⟩
      rw [hk2] at hS4 hx2
      rw [hnm]
      have HK := hide (And.intro hk2 hnm)
      clear hk2 hnm
      have c0 := hS4.2.1.choose_spec.1.cell 1
      have c1 := hS4.2.1.choose_spec.1.frozen 1
      simp at c0
      have hS5 := hS4.name nm (by omega) (Nat.le_refl _) (by omega) (by omega)
      go_wp2_with (fail)
      generalize w2.setCell ⟨w.heap.size + 1, 1, none⟩ (.string nm) = w3 at *
      clear hS4 c0 c1
      refine (blanks_any X s x2 hs hx2 _ hS5.1).mono ?_
      rintro e w4 ⟨rfl, hX6, hb6⟩
      have hS6 := hS5.but hb6 hX6 (by omega) (Nat.le_refl _) (by omega)
      clear hS5 hX6 hb6
      go_wp2
      go_loopg [6] (s.size + 1) (fun g n wr => ∃ l xp, xp.1 ≤ s.size ∧ l.length + g ≤ s.size + 1 ∧ (xp.2 = 0 → s.size < xp.1 + g) ∧ n = .int .i64 (blaN s xp) ∧ LoopR cl s x2 g l xp ∧ RS (w.heap.size + 1) X w.heap.size (w.heap.size + 1) s w (kdI cl false) at_ nm l (blaS s xp) wr)
      case atStart => exact ⟨[], x2, hx2, by simp, fun _ => by omega, rfl, LoopR.start, hS6⟩
      case round =>
        obtain ⟨l, xp, hxp, hlg, hg, rfl, hL, hS⟩ := hrel
        have HL := hide hL
        clear hL hS6
        obtain ⟨n, hn⟩ : ∃ n, blaN s xp = n := ⟨_, rfl⟩
        obtain ⟨x3, hx3⟩ : ∃ x3, blaS s xp = x3 := ⟨_, rfl⟩
        have hx3s : x3.1 ≤ s.size := by rw [← hx3]; exact blaS_le hxp
        rw [hx3] at hS
        rw [hn]
        have HB := hide (And.intro hn hx3)
        clear hn hx3
        obtain ⟨k3, er3⟩ := x3
        dsimp only at hx3s
        go_upto_region 7 with (fail)
        go_cut [58] (fun c wx => c = .bool (cB cl s n (k3, er3)) ∧ RS (w.heap.size + 1) X w.heap.size (w.heap.size + 1) s w (kdI cl false) at_ nm l (k3, er3) wx)
        case first =>
          have hX7 := hS.1
          have d0 := hX7.cell 0
          have d1 := hX7.cell 1
          have c0 := hS.2.1.choose_spec.1.cell 0
          simp at d0 d1 c0
          cases cl
          · have kz : (kdI false false == 1) = true := rfl
            by_cases hn0 : 0 < n
            · have t0 : decide ((0 : Int) < (n : Int)) = true := by simp; omega
              have t1 : decide (0 < n) = true := by simp; omega
              cases ho : onB s (k3, er3)
              · have hon := fun m => on_at (w := wr.drewN m) (hX7.drewN m) ho
                have HON := hide hon
                have e1 : cB false s n (k3, er3) = false := by simp [cB, isR_on ho]
                have E1 := hide e1
                have HS := hide hS
                clear ho hon hS hX7 e1 hn0
                go_quiet ((go_at_call 40; exact Calls.quiet_of (HON.out _)))
                go_wp2_with fail
                go_meet
                exact ⟨by rw [E1.out], HS.out.drewN _⟩
              · have hon := fun m => on_at (w := wr.drewN m) (hX7.drewN m) ho
                have HON := hide hon
                obtain ⟨rfl, hlt⟩ := on_facts ho
                have i0 : (0 : Int) ≤ (k3 : Int) := by omega
                have i1 : (k3 : Int) < (s.size : Int) := by omega
                have i2 : (k3 : Int).toNat = k3 := by omega
                have e1 : cB false s n (k3, 0) = letB ((s[k3]).toNat : Int) := by
                  simp [cB, tisR, isB, hlt, ← byt_eq hlt, hn0]
                have E1 := hide e1
                have HS := hide hS
                clear ho hon hS hX7 e1 hn0
                go_quiet ((first | (go_at_call 40; exact Calls.quiet_of (HON.out _)) | (go_at_call 68; exact Calls.quiet_of_same (rletter_any _ _))))
                go_wp2_with fail
                go_meet
                exact ⟨by rw [E1.out], HS.out.drewN _⟩
            · have t0 : decide ((0 : Int) < (n : Int)) = false := by simp; omega
              have t1 : decide (0 < n) = false := by simp; omega
              have e1 : cB false s n (k3, er3) = false := by simp [cB]; omega
              have E1 := hide e1
              have HS := hide hS
              clear hS hX7 e1 hn0
              go_quiet (fail)
              go_wp2_with fail
              go_meet
              exact ⟨by rw [E1.out], HS.out.drewN _⟩
          · have kz : (kdI true false == 1) = false := rfl
            have E1 : Hid (cB true s n (k3, er3) = false) := by
              show cB true s n (k3, er3) = false
              simp [cB]
            have HS := hide hS
            clear hS hX7
            go_quiet (fail)
            go_wp2_with fail
            go_meet
            exact ⟨by rw [E1.out], HS.out.drewN _⟩
        case rest =>
          obtain ⟨hc, hS8⟩ := hcut
          clear hS
          cases hcb : cB cl s n (k3, er3)
          · rw [hcb] at hc
            subst hc
            have HCB := hide hcb
            clear hcb
            go_wp2_with (fail)
            obtain ⟨al, hal⟩ : ∃ al, al = (!cl && tisR (isC 47) s (k3, er3)) := ⟨_, rfl⟩
            have HAL := hide hal
            clear hal
            go_cut [88] (fun c wx => c = .bool al ∧ RS (w.heap.size + 1) X w.heap.size (w.heap.size + 1) s w (kdI cl false) at_ nm l (k3, er3) wx)
            case first =>
              have hX9 := hS8.1
              have d0 := hX9.cell 0
              have d1 := hX9.cell 1
              have c0 := hS8.2.1.choose_spec.1.cell 0
              simp at d0 d1 c0
              cases cl
              · have kz : (kdI false false == 1) = true := rfl
                cases ho : onB s (k3, er3)
                · have hon := fun m => on_at (w := wc.drewN m) (hX9.drewN m) ho
                  have HON := hide hon
                  have E1 : Hid (al = false) := by
                    show al = false
                    rw [HAL.out, isR_on ho]; rfl
                  have HS := hide hS8
                  clear ho hon hS8 hX9
                  go_quiet ((go_at_call 40; exact Calls.quiet_of (HON.out _)))
                  go_wp2_with fail
                  go_meet
                  exact ⟨by rw [E1.out], HS.out.drewN _⟩
                · have hon := fun m => on_at (w := wc.drewN m) (hX9.drewN m) ho
                  have HON := hide hon
                  obtain ⟨rfl, hlt⟩ := on_facts ho
                  have i0 : (0 : Int) ≤ (k3 : Int) := by omega
                  have i1 : (k3 : Int) < (s.size : Int) := by omega
                  have i2 : (k3 : Int).toNat = k3 := by omega
                  have E1 : Hid (al = (((s[k3]).toNat : Int) == 47)) := by
                    show al = _
                    rw [HAL.out]
                    simp [tisR, isB, hlt, ← byt_eq hlt, isC]
                  have HS := hide hS8
                  clear ho hon hS8 hX9
                  go_quiet ((go_at_call 40; exact Calls.quiet_of (HON.out _)))
                  go_wp2_with fail
                  go_meet
                  exact ⟨by rw [E1.out], HS.out.drewN _⟩
              · have kz : (kdI true false == 1) = false := rfl
                have E1 : Hid (al = false) := by
                  show al = false
                  rw [HAL.out]; rfl
                have HS := hide hS8
                clear hS8 hX9
                go_quiet (fail)
                go_wp2_with fail
                go_meet
                exact ⟨by rw [E1.out], HS.out.drewN _⟩
            case rest =>
              obtain ⟨hc, hS9⟩ := hcut
              subst hc
              clear hS8
              have hal2 : al = true → cl = false ∧ er3 = 0 ∧ k3 < s.size := by
                intro h
                have h1 := HAL.out
                rw [h] at h1
                have h2 := h1.symm
                simp [tisR] at h2
                exact ⟨h2.1, h2.2.1, isB_lt h2.2.2⟩
              have HAL2 := hide hal2
              clear hal2
              go_upto_if 88 with (fail)
              go_cut [] (fun wx => RS (w.heap.size + 1) X w.heap.size (w.heap.size + 1) s w (kdI cl al) at_ nm l (stepR al (k3, er3)) wx)
              case first =>
                have hX9 := hS9.1
                have d0 := hX9.cell 1
                have d1 := hX9.frozen 1
                have c0 := hS9.2.1.choose_spec.1.cell 0
                have c1 := hS9.2.1.choose_spec.1.frozen 0
                simp at d0 c0
                cases al
                · have HS := hide hS9
                  clear hS9 hX9
                  go_wp2_with fail
                  go_meet
                  exact HS.out
                · obtain ⟨rfl, rfl, hle⟩ := HAL2.out rfl
                  have hn : X ≠ w.heap.size + 1 := by omega
                  have s0 : IntKind.i64.wrap ((k3 : Int) + 1) = (k3 : Int) + 1 := IntWalk.i64_in _ (by omega)
                  have HS := hide ((hS9.kind 3 (by omega) (Nat.le_refl _) (by omega) (by omega)).place (k3 + 1) (by omega) (Nat.le_refl _) (by omega))
                  clear hS9 hX9
                  go_wp2_with fail
                  go_meet
                  have h1 := HS.out
                  simpa [stepR, kdI] using h1
              case rest =>
                clear hS9
                go_wp2_with (fail)
                refine (one_any X s _ 62 hs _ hcut.1).mono ?_
                rintro e w6 ⟨rfl, hX6, hb6⟩
                have hS9 := hcut.but hb6 hX6 (by omega) (Nat.le_refl _) (by omega)
                clear hcut hX6 hb6
                obtain ⟨hX9, ⟨v, hT9, hO9⟩, hR9, hb9⟩ := hS9
                obtain ⟨A, n0, cap, rfl, -, -⟩ := hO9.rd avc_len
                have t0 := hT9.cell 0
                have t1 := hT9.cell 1
                have t2 := hT9.cell 2
                have t3 := hT9.cell 3
                have r0 := hR9.cell 0
                have r1 := hR9.cell 1
                have r2 := hR9.cell 2
                have r3 := hR9.cell 3
                have f0 := hR9.frozen 0
                have f1 := hR9.frozen 1
                have f2 := hR9.frozen 2
                have f3 := hR9.frozen 3
                simp at t0 t1 t2 t3 r0 r1 r2 r3
                have hne := own_blk_ne hO9 hR9 (by decide)
                have hR10 := (((hR9.set_ 0 (.int .i64 (kdI cl al))).set_ 1 (.string nm)).set_ 2 (.slice A n0 cap)).set_ 3 (.int .i64 at_)
                have q0 := hR10.cell 0
                have q1 := hR10.cell 1
                have q2 := hR10.cell 2
                have q3 := hR10.cell 3
                simp at q0 q1 q2 q3
                have Q := hide (And.intro q0 (And.intro q1 (And.intro q2 q3)))
                clear q0 q1 q2 q3 hR10
                have hNE := hide hne
                clear hne
                go_wp2
                obtain ⟨q0, q1, q2, q3⟩ := Q.out
                refine bodyPost_ret (v := .agg #[.int .i64 (kdI cl al), .string nm, .slice A n0 cap, .int .i64 at_]) (by simp [results, Try.results43, go_sem, q0, q1, q2, q3]) rfl ?_
                refine ⟨(kdI cl al, nm, l, at_), oneS s 62 (stepR al (k3, er3)), .slice A n0 cap, rfl, (((((hO9.setCell (p := ⟨w.heap.size, 0, none⟩) hNE.out _).setCell (p := ⟨w.heap.size, 1, none⟩) hNE.out _).setCell (p := ⟨w.heap.size, 2, none⟩) hNE.out _).setCell (p := ⟨w.heap.size, 3, none⟩) hNE.out _).mono (by omega)), ?_, ?_, ?_⟩
                · exact (((hX9.far (p := ⟨w.heap.size, 0, none⟩) (by dsimp only; omega) _).far (p := ⟨w.heap.size, 1, none⟩) (by dsimp only; omega) _).far (p := ⟨w.heap.size, 2, none⟩) (by dsimp only; omega) _).far (p := ⟨w.heap.size, 3, none⟩) (by dsimp only; omega) _
                · exact (((hb9.setCell (p := ⟨w.heap.size, 0, none⟩) (Nat.le_refl _) _).setCell (p := ⟨w.heap.size, 1, none⟩) (Nat.le_refl _) _).setCell (p := ⟨w.heap.size, 2, none⟩) (Nat.le_refl _) _).setCell (p := ⟨w.heap.size, 3, none⟩) (Nat.le_refl _) _
                · exact tagRel_end HC.out hx HK.out.1 HK.out.2 HL.out hxp hg HB.out.2 HB.out.1 HCB.out HAL.out
          · rw [hcb] at hc
            subst hc
            obtain ⟨rfl, rfl, hstb⟩ := cB_true hcb HB.out.1 HB.out.2
            have hstep := HL.out.step hstb HB.out.2 hxp
            have HSt := hide hstep
            have hm := HB.out
            clear hcb hstep hstb
            obtain ⟨hX8, ⟨v, hT8, hO8⟩, hR8, hb8⟩ := hS8
            obtain ⟨A, n0, cap, rfl, hn0, -⟩ := hO8.rd avc_len
            subst hn0
            have hl8 : ∀ w', But wc.heap.size X wc w' → Rd w' w'.heap.size 3 avc A l := fun w' h => by
              obtain ⟨A', n', cap', he, _, hr⟩ := (hO8.but h (fun q hq => by have := hO8.lt q hq; omega)).rd avc_len
              injection he with e1 _ _
              subst e1
              exact hr
            have hcall : Calls Try.prog 69 #[.pointer (some ⟨X, 0, none⟩), .slice A l.length cap] wc.drew fun e w' =>
                e = .returned (.agg #[.string (attrV l s (k3, 0)).1, .string (attrV l s (k3, 0)).2.1, .int .i64 (attrV l s (k3, 0)).2.2]) ∧ Blk w' X TS86 (stt s (attrX l s (k3, 0))) ∧ But wc.heap.size X wc w' :=
              (rattr_any X s (k3, 0) A cap l hs hx3s (by omega) wc.drew hX8.drew (fun w' h => hl8 w' ⟨h.os, h.tape, h.output, h.size, h.block⟩)).mono fun e w' ⟨h1, h2, h⟩ => ⟨h1, h2, ⟨h.os, h.tape, h.output, h.size, h.block⟩⟩
            have HCALL := hide hcall
            clear hcall hl8
            have t2 := hT8.cell 2
            have t3 := hT8.lt
            simp at t2
            have HO8 := hide hO8
            have HT8 := hide hT8
            have hvb : ∀ q, (Value.slice A l.length cap).ownBlock = some q → w.heap.size + 1 ≤ q ∧ q < wc.heap.size := hO8.lt
            clear hO8 hT8
            go_wp2_with (fail)
            go_region_law (first
              | (refine step_append1 _ (by rfl) (.tmp 60) (.tmp 65) 89 (by rfl) Try.underlying89 infoRAttr (by rfl) (by decide) avc_len avc_one (base := w.heap.size + 1) (v := .slice A l.length cap) (l := l) (by rfl) (by repeat (first | exact HO6.out | refine Own.alloc ?_ _ | refine Own.drewN ?_ _ | refine Own.drew ?_)) (attrV l s (k3, 0)) w6.heap.size 1 (by rfl) ⟨_, _, heap_new_at (by simp)⟩ (by omega) (by omega) (by have := hb6.size; simp; omega) ?_; intro g capn w7 hO7 hg7 hat7 hlt7; have hsz6 := hb6.size; obtain ⟨d1, d2, D3, D4, D5⟩ := own_store_back (k := 2) (w := w6) (B := w.heap.size + 1) (t := RTag) (cs := #[.int .i64 (kdI false false), .string nm, .slice A l.length cap, .int .i64 at_]) (by refine Below.alloc (Below.refl _ _) ?_ _; omega) (Blk.alloc HT6.out _) hO7 hg7 (own_blk_ne HO6.out HT6.out (by decide)) (fun q hq => (hvb q hq).1) (by decide) (by simp; omega) (Nat.le_refl _); clear hO7 hg7 hat7; simp at d1)
              | (go_simp; go_at_call 69; refine HCALL.out.mono ?_; rintro e w6 ⟨rfl, hX6, hb6⟩; have HT6 := hide (HT8.out.but hb6 t3 (by omega)); have HO6 := hide (HO8.out.but hb6 (fun q hq => by have := hvb q hq; omega)); have t6 := HT6.out.cell 2; have t7 := HT6.out.frozen 2; have t8 := HT6.out.lt; simp at t6))
            all_goals
              have hS9 : RS (w.heap.size + 1) X w.heap.size (w.heap.size + 1) s w (kdI false false) at_ nm (l ++ [attrV l s (k3, 0)]) (attrX l s (k3, 0)) (w7.setCell ⟨w.heap.size + 1, 2, none⟩ (.slice (some ⟨g, 0, none⟩) (l.length + 1) capn)) :=
                ⟨hX6.below D5 (by omega), ⟨_, by simpa using D3, D4⟩, (hR8.but hb6 hR8.lt (by omega)).below D5 (by omega), (hb8.trans hb6 hb8.size).trans (But.of D5 X) (by omega)⟩
              generalize w7.setCell ⟨w.heap.size + 1, 2, none⟩ (.slice (some ⟨g, 0, none⟩) (l.length + 1) capn) = w8 at *
              have hxa : (attrX l s (k3, 0)).1 ≤ s.size := attrX_le hx3s
              clear hX6 hb6 d1 d2 D3 D4 D5 hX8 hR8 hb8 t6 t7 t2
              go_wp2_with (fail)
              refine (blanks_any X s _ hs hxa _ hS9.1).mono ?_
              rintro e w9 ⟨rfl, hX10, hb10⟩
              have hS10 := hS9.but hb10 hX10 (by omega) (Nat.le_refl _) (by omega)
              clear hS9 hX10 hb10
              go_wp2
              go_roundg (gk - 1)
              case measure =>
                have := hg (by have := HB.out.2; by_cases hz : xp.2 = 0; exact hz; simp [blaS, hz] at this; rw [this] at hz; exact absurd rfl hz)
                omega
              case rel =>
                have hz : xp.2 = 0 := by
                  have := HB.out.2
                  by_cases hz : xp.2 = 0
                  · exact hz
                  · simp [blaS, hz] at this
                    rw [this] at hz
                    exact absurd rfl hz
                have hg2 := hg hz
                obtain ⟨r1, r2⟩ := HSt.out (gk - 1) (by omega)
                exact ⟨l ++ [attrV l s (k3, 0)], attrX l s (k3, 0), hxa, by simp; omega, fun h => by have := r2 h; omega, rfl, r1, hS10⟩
end Go.Proofs.Ytcblakflhheepaa
