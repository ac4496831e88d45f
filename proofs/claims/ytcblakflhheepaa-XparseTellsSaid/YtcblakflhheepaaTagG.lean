/- Chapter 41: the scanner takes all tags. -/
import Derived.Test.YtcblakflhheepaaTagF
namespace Go.Proofs.Ytcblakflhheepaa
open Go.RowKit
set_option linter.unusedVariables false
set_option linter.unusedSimpArgs false

/-- A tag as its row has it: kind, name, the slice of its attributes, place. -/
abbrev Tr := Int × ByteArray × (Option Addr × Nat × Nat) × Nat
abbrev trc (r : Tr) : List Value := [.int .i64 r.1, .string r.2.1, .slice r.2.2.1.1 r.2.2.1.2.1 r.2.2.1.2.2, .int .i64 r.2.2.2]
theorem trc_len (r : Tr) : (trc r).length = 4 := rfl
theorem trc_one (x : Tr) : ∀ u ∈ trc x, u.oneCell' = true := by
  intro u hu
  simp at hu
  rcases hu with rfl | rfl | rfl | rfl <;> rfl
theorem infoTag : (Try.prog.info? 60).map (fun i => (i.zero, i.size, i.bytes)) = some (some (.agg #[.int .i64 0, .string ⟨#[]⟩, .slice none 0 0, .int .i64 0]), 4, 56) := by kernel_rfl

/-- Row r is tag t, its attributes a row of the call's own (elements of type e). -/
def TrOk (e : TypeId) (w : World) (base : Nat) (r : Tr) (t : Tgv) : Prop :=
  r.1 = t.1 ∧ r.2.1 = t.2.1 ∧ r.2.2.2 = t.2.2.2 ∧ Own w base e 3 avc (.slice r.2.2.1.1 r.2.2.1.2.1 r.2.2.1.2.2) t.2.2.1
def Mt (e : TypeId) (w : World) (base : Nat) : List Tr → List Tgv → Prop
  | [], [] => True
  | r :: rs, t :: ts => TrOk e w base r t ∧ Mt e w base rs ts
  | _, _ => False
section
variable {e : TypeId} {w w' : World} {base : Nat}
theorem Mt.len : ∀ {rs : List Tr} {ts : List Tgv}, Mt e w base rs ts → rs.length = ts.length
  | [], [], _ => rfl
  | [], _ :: _, h => h.elim
  | _ :: _, [], h => h.elim
  | _ :: _, _ :: _, h => by simp [Mt.len h.2]
theorem Mt.snoc {r : Tr} {t : Tgv} (h : TrOk e w base r t) : ∀ {rs : List Tr} {ts : List Tgv}, Mt e w base rs ts → Mt e w base (rs ++ [r]) (ts ++ [t])
  | [], [], _ => ⟨h, trivial⟩
  | [], _ :: _, h' => h'.elim
  | _ :: _, [], h' => h'.elim
  | _ :: _, _ :: _, h' => ⟨h'.1, Mt.snoc h h'.2⟩
theorem Mt.keep (hk : ∀ (v : Value) (l : List Av), Own w base e 3 avc v l → Own w' base e 3 avc v l) : ∀ {rs : List Tr} {ts : List Tgv}, Mt e w base rs ts → Mt e w' base rs ts
  | [], [], _ => trivial
  | [], _ :: _, h => h.elim
  | _ :: _, [], h => h.elim
  | _ :: _, _ :: _, h => ⟨⟨h.1.1, h.1.2.1, h.1.2.2.1, hk _ _ h.1.2.2.2⟩, Mt.keep hk h.2⟩
theorem Mt.but {X : Nat} {rs : List Tr} {ts : List Tgv} (h : Mt e w base rs ts) (hb : But w.heap.size X w w') (hX : X < base) : Mt e w' base rs ts :=
  h.keep fun _ _ ho => ho.but hb fun q hq => by have := ho.lt q hq; omega
theorem Mt.mono {base' : Nat} (hb : base' ≤ base) : ∀ {rs : List Tr} {ts : List Tgv}, Mt e w base rs ts → Mt e w base' rs ts
  | [], [], _ => trivial
  | [], _ :: _, h => h.elim
  | _ :: _, [], h => h.elim
  | _ :: _, _ :: _, h => ⟨⟨h.1.1, h.1.2.1, h.1.2.2.1, h.1.2.2.2.mono hb⟩, Mt.mono hb h.2⟩
theorem Mt.get : ∀ {rs : List Tr} {ts : List Tgv}, Mt e w base rs ts → ∀ {i : Nat} {t : Tgv}, ts[i]? = some t → ∃ r, rs[i]? = some r ∧ TrOk e w base r t
  | [], [], _, i, t, ht => by simp at ht
  | [], _ :: _, h, _, _, _ => h.elim
  | _ :: _, [], h, _, _, _ => h.elim
  | r :: _, _ :: _, h, 0, t, ht => ⟨r, rfl, by simp at ht; exact ht ▸ h.1⟩
  | _ :: _, _ :: _, h, i + 1, t, ht => Mt.get h.2 (i := i) (by simpa using ht)
end
theorem own_own_ne {α β : Type} {w : World} {b b' sz sz' : Nat} {e e' : TypeId} {c : α → List Value} {c' : β → List Value} {v v' : Value} {l : List α} {l' : List β} (h : Own w b e sz c v l) (h' : Own w b' e' sz' c' v' l') (hne : e ≠ e') :
    v.ownBlock = none ∨ v.ownBlock ≠ v'.ownBlock := by
  rcases h.2 with ⟨rfl, _⟩ | ⟨g, cap, cur, rfl, _, hg, _⟩
  · exact Or.inl rfl
  · rcases h'.2 with ⟨rfl, _⟩ | ⟨g', cap', cur', rfl, _, hg', _⟩
    · exact Or.inr (by simp [Value.ownBlock])
    · refine Or.inr fun e1 => ?_
      have : g = g' := by simpa [Value.ownBlock] using e1
      subst this
      exact Blk.ne_ (t := e) hg hg' hne rfl

def tagsL (s : ByteArray) : Nat → List Tgv → Nat → Except (Nat × Nat) (List Tgv)
  | 0, L, _ => .ok L
  | n + 1, L, k =>
    if k < s.size then
      match mustL s k [60] with
      | .error e => .error e
      | .ok k1 =>
        if isB (isC 33) s k1 then
          match mustL s (k1 + 1) [45, 45] with
          | .error e => .error e
          | .ok k2 =>
            match remL s k2 with
            | .error e => .error e
            | .ok k3 => tagsL s n L (endB blaB s k3)
        else
          match tagL s k1 k with
          | .error e => .error e
          | .ok (t, k2) => tagsL s n (L ++ [t]) (endB blaB s k2)
    else .ok L

theorem tagL_le {s : ByteArray} {k k' at_ : Nat} {t : Tgv} (h : tagL s k at_ = .ok (t, k')) (hk : k ≤ s.size) : k < k' ∧ k' ≤ s.size := by
  unfold tagL at h
  have h0 := oneIf_le (p := isC 47) hk
  cases hn : nameL s (oneIf (isB (isC 47) s k) k) with
  | error e => rw [hn] at h; cases h
  | ok b =>
    obtain ⟨nm, k2⟩ := b
    have h1 := nameL_le hn h0.2
    rw [hn] at h
    dsimp only at h h1
    cases ha : attrsL (isB (isC 47) s k) s (s.size + 1) [] k2 with
    | error e => rw [ha] at h; cases h
    | ok b =>
      obtain ⟨l, k3⟩ := b
      have h2 := attrsL_le ha h1.2
      rw [ha] at h
      dsimp only at h
      have h3 := aloB_le (cl := isB (isC 47) s k) h2.2
      cases hm : mustL s (oneIf (aloB (isB (isC 47) s k) s k3) k3) [62] with
      | error e => rw [hm] at h; cases h
      | ok k5 =>
        have h4 := mustL_le hm h3.2
        rw [hm] at h
        simp at h
        omega

/-- How tags ends. -/
def TagsEnd (X : Nat) (w : World) (r : Except (Nat × Nat) (List Tgv)) (e : Ending) (w' : World) : Prop :=
  match r with
  | .ok L => ∃ v rows, e = .returned v ∧ Own w' w.heap.size 60 4 trc v rows ∧ Mt 62 w' w.heap.size rows L ∧ But w.heap.size X w w'
  | .error (p, c) => e = .panicked (wrongP p c) ∧ But w.heap.size X w w'

/-- What the scanner has of all tags. -/
def GS (X : Nat) (s : ByteArray) (w : World) (out : Value) (L : List Tgv) (k : Nat) (wr : World) : Prop :=
  Blk wr X 82 (scn s k) ∧ (∃ rows, Own wr w.heap.size 60 4 trc out rows ∧ Mt 62 wr w.heap.size rows L) ∧ But w.heap.size X w wr
theorem GS.but {X : Nat} {s : ByteArray} {w : World} {out : Value} {L : List Tgv} {k k' : Nat} {wr w' : World} (h : GS X s w out L k wr) (hb : But wr.heap.size X wr w') (hX : Blk w' X 82 (scn s k')) (hXl : X < w.heap.size) : GS X s w out L k' w' := by
  obtain ⟨h1, ⟨rows, h2, h3⟩, h4⟩ := h
  exact ⟨hX, ⟨rows, h2.but hb (fun q hq => by have := h2.lt q hq; omega), h3.but hb hXl⟩, h4.trans hb h4.size⟩
theorem GS.drewN {X : Nat} {s : ByteArray} {w : World} {out : Value} {L : List Tgv} {k : Nat} {wr : World} (h : GS X s w out L k wr) (n : Nat) : GS X s w out L k (wr.drewN n) := by
  obtain ⟨h1, ⟨rows, h2, h3⟩, h4⟩ := h
  exact ⟨h1.drewN n, ⟨rows, h2.drewN n, h3.keep fun _ _ h => h.drewN n⟩, h4.drewN n⟩

theorem tagsL_lt {s : ByteArray} {n k : Nat} {L : List Tgv} (h : k < s.size) : tagsL s (n + 1) L k =
      match mustL s k [60] with
      | .error e => .error e
      | .ok k1 =>
        if isB (isC 33) s k1 then
          match mustL s (k1 + 1) [45, 45] with
          | .error e => .error e
          | .ok k2 =>
            match remL s k2 with
            | .error e => .error e
            | .ok k3 => tagsL s n L (endB blaB s k3)
        else
          match tagL s k1 k with
          | .error e => .error e
          | .ok (t, k2) => tagsL s n (L ++ [t]) (endB blaB s k2) := by
  rw [tagsL, if_pos h]
theorem tagsL_ge {s : ByteArray} {n k : Nat} {L : List Tgv} (h : ¬ k < s.size) : tagsL s (n + 1) L k = .ok L := by
  rw [tagsL, if_neg h]
theorem must1 {s : ByteArray} {k k' : Nat} {c : UInt8} (h : mustL s k [c] = .ok k') : k' = k + 1 := by
  unfold mustL at h
  split at h
  · injection h with h
    exact h.symm
  · cases h
theorem t60 : (⟨#[60]⟩ : ByteArray).data.toList = [60] := rfl
theorem t33 : (⟨#[33]⟩ : ByteArray).data.toList = [33] := rfl
set_option maxRecDepth 100000 in
set_option maxHeartbeats 8000000 in
theorem tags_any (X : Nat) (s : ByteArray) (hs : s.size ≤ 4000000) (w : World) (hm0 : MaxL w) (hX : Blk w X 82 (scn s 0)) (hX0 : 0 < X) :
    Calls Try.prog 38 #[.pointer (some ⟨X, 0, none⟩)] w (TagsEnd X w (tagsL s (s.size + 1) [] (endB blaB s 0))) := by
  have hXl := hX.lt
  have hs2 : s.size ≤ 5000000 := by omega
  go_enter Try.func38, Try.ntmps38
  go_wp2_with (fail)
  refine (all_any X 60 blaB (.inr (.inl ⟨rfl, rfl⟩)) s 0 hs2 (Nat.zero_le _) _ hX).mono ?_
  rintro e w1 ⟨rfl, hX1, hb1⟩
  go_wp2_with (fail)
  have hG1 : GS X s w (.slice none 0 0) [] (endB blaB s 0) w1 := ⟨hX1, ⟨[], Own.nil _ _ _ _ _, trivial⟩, hb1⟩
  clear hX1 hb1
  go_loopg [3] (s.size + 1) (fun g out wr => ∃ L kp, kp ≤ s.size ∧ L.length ≤ kp ∧ s.size < kp + g ∧ tagsL s (s.size + 1) [] (endB blaB s 0) = tagsL s g L kp ∧ GS X s w out L kp wr)
  case atStart => exact ⟨[], _, endB_le _ _ _ (Nat.zero_le _), Nat.zero_le _, by omega, rfl, hG1⟩
  case round =>
    obtain ⟨L, kp, hkp, hLl, hg, he, hG⟩ := hrel
    clear hG1
    have c0 := hG.1.cell 0
    have c1 := hG.1.cell 1
    simp at c0 c1
    obtain ⟨g', hg'⟩ : ∃ g', gk = g' + 1 := ⟨gk - 1, by omega⟩
    rw [hg'] at he
    have HG' := hide hg'
    clear hg'
    by_cases hlt : kp < s.size
    · have he2 := tagsL_lt (L := L) (n := g') hlt
      rw [← he] at he2
      have HE := hide he2
      clear he he2
      go_wp2
      go_quiet (fail)
      go_wp2_with (fail)
      have hG2 := hG.drewN nq
      clear hG c0 c1
      generalize wr.drewN nq = w2 at *
      have hm : Calls Try.prog 61 #[.pointer (some ⟨X, 0, none⟩), .string ⟨#[60]⟩] _ (EndX _ X s _ (mustL s kp [60]) (fun _ => .tuple #[]) id) := must_any X s ⟨#[60]⟩ kp hs2 (by decide) hkp _ hG2.1
      refine hm.mono ?_
      clear hm
      cases hm1 : mustL s kp [60] with
      | error e =>
        obtain ⟨p, c⟩ := e
        rintro e w3 ⟨rfl, hb3⟩
        refine ⟨rfl, ?_⟩
        have hr : tagsL s (s.size + 1) [] (endB blaB s 0) = .error (p, c) := by rw [HE.out, hm1]
        rw [hr]
        exact ⟨rfl, hG2.2.2.trans hb3 hG2.2.2.size⟩
      | ok k1 =>
        rintro e w3 ⟨rfl, hX3, hb3⟩
        dsimp only [id] at hX3
        have hG3 := hG2.but hb3 hX3 hXl
        have hk1 : k1 = kp + 1 := must1 hm1
        have hk1s := (mustL_le hm1 hkp).2
        have he2 := HE.out
        rw [hm1] at he2
        dsimp only at he2
        have HE2 := hide he2
        clear he2 hm1 HE hX3 hb3 hG2
        go_wp2_with (fail)
        refine (skip_any X s ⟨#[33]⟩ k1 hs2 (by decide) hk1s _ hG3.1).mono ?_
        rintro e w4 ⟨rfl, hX4, hb4⟩
        rw [skN_oneIf t33] at hX4
        rw [skB_one t33]
        have hG4 := hG3.but hb4 hX4 hXl
        have hk2s := (oneIf_le (p := isC 33) hk1s).2
        clear hX4 hb4 hG3
        cases hq : isB (isC 33) s k1
        · rw [hq] at hG4
          have he2 := HE2.out
          rw [hq] at he2
          simp only [Bool.false_eq_true, if_false] at he2
          have HE3 := hide he2
          clear he2 HE2 hq hk2s
          go_wp2_with (fail)
          have hG5 : GS X s w u3 L k1 w4 := hG4
          clear hG4
          refine (tag_any X s k1 kp hs hk1s _ hG5.1).mono ?_
          cases ht : tagL s k1 kp with
          | error e =>
            obtain ⟨p, c⟩ := e
            rintro e w5 ⟨rfl, hb5⟩
            refine ⟨rfl, ?_⟩
            have hr : tagsL s (s.size + 1) [] (endB blaB s 0) = .error (p, c) := by rw [HE3.out, ht]
            rw [hr]
            exact ⟨rfl, hG5.2.2.trans hb5 hG5.2.2.size⟩
          | ok a =>
            obtain ⟨⟨t1, t2, t3, t4⟩, k2⟩ := a
            rintro e w5 ⟨v, rfl, hO5, hX5, hb5⟩
            dsimp only at hO5 hX5
            have hk2 := tagL_le ht hk1s
            have he2 := HE3.out
            rw [ht] at he2
            dsimp only at he2
            have HE4 := hide he2
            obtain ⟨A, n, cap, rfl, -, -⟩ := hO5.rd avc_len
            have hG6 := hG5.but hb5 hX5 hXl
            have hO6 := hO5.mono (base' := w.heap.size) (by have := hG5.2.2.size; omega)
            clear he2 HE3 ht hb5 hG5 hO5 hX5
            obtain ⟨hX6, ⟨rows, hR6, hM6⟩, hb6⟩ := hG6
            have hrl := hM6.len
            have hsz6 := hb6.size
            go_wp2_with (at_builtin; go_must (refine wpList_append1 _ rfl (.tmp 31) (.tmp 35) _ rfl Try.underlying42 infoTag rfl (by decide) trc_len trc_one (base := w.heap.size) (v := u3) (l := rows) rfl ?_ (t1, t2, (A, n, cap), t4) w5.heap.size 1 rfl ?_ ?_ ?_ ?_ ?_))
            · exact (by repeat (first | exact hR6 | refine Own.alloc ?_ _ | refine Own.drewN ?_ _ | refine Own.drew ?_))
            · exact ⟨_, _, heap_new_at (by simp)⟩
            · omega
            · omega
            · simp; omega
            · intro g cap' w6 hO7 hg7 hat7 hlt7
              have hne : ∀ (v : Value) (l : List Av), Own w5 w.heap.size 62 3 avc v l → Own w6 w.heap.size 62 3 avc v l :=
                fun v l ho => (ho.alloc _).grown hg7 (own_own_ne ho hR6 (by decide))
              have hG7 : GS X s w (.slice (some ⟨g, 0, none⟩) (L.length + 1) cap') (L ++ [(t1, t2, t3, t4)]) k2 w6 := by
                refine ⟨(hX6.alloc _).grown hg7 (fun e => by have := (hR6.lt X e.symm).1; omega), ⟨rows ++ [(t1, t2, (A, n, cap), t4)], hO7, Mt.snoc ⟨rfl, rfl, rfl, hne _ _ hO6⟩ (hM6.keep hne)⟩, ?_⟩
                exact (hb6.alloc (by omega) _).grown hg7 (by simp; omega) (fun q hq => (hR6.lt q hq).1)
              clear hO7 hg7 hat7 hlt7 hne hX6 hR6 hM6 hb6 hO6
              go_wp2_with (fail)
              refine (all_any X 60 blaB (.inr (.inl ⟨rfl, rfl⟩)) s k2 hs2 hk2.2 _ hG7.1).mono ?_
              rintro e w7 ⟨rfl, hX8, hb8⟩
              have hG8 := hG7.but hb8 hX8 hXl
              have hk4 := endB_le blaB s k2 hk2.2
              have hk5 := endB_ge blaB s k2
              clear hG7 hX8 hb8
              go_wp2
              go_roundg g'
              case measure => rw [HG'.out]; omega
              case rel => exact ⟨L ++ [(t1, t2, t3, t4)], endB blaB s k2, hk4, by simp; omega, by have := HG'.out; omega, HE4.out, hG8⟩
        · rw [hq] at hG4
          have he2 := HE2.out
          rw [hq] at he2
          simp only [if_true] at he2
          have HE3 := hide he2
          have hk2 : oneIf true k1 = k1 + 1 := rfl
          rw [hq, hk2] at hk2s
          rw [hk2] at hG4
          clear he2 HE2 hq hk2
          go_wp2_with (fail)
          have hm : Calls Try.prog 61 #[.pointer (some ⟨X, 0, none⟩), .string ⟨#[45, 45]⟩] _ (EndX _ X s _ (mustL s (k1 + 1) [45, 45]) (fun _ => .tuple #[]) id) := must_any X s ⟨#[45, 45]⟩ (k1 + 1) hs2 (by decide) hk2s _ hG4.1
          refine hm.mono ?_
          clear hm
          cases hm2 : mustL s (k1 + 1) [45, 45] with
          | error e =>
            obtain ⟨p, c⟩ := e
            rintro e w5 ⟨rfl, hb5⟩
            refine ⟨rfl, ?_⟩
            have hr : tagsL s (s.size + 1) [] (endB blaB s 0) = .error (p, c) := by rw [HE3.out, hm2]
            rw [hr]
            exact ⟨rfl, hG4.2.2.trans hb5 hG4.2.2.size⟩
          | ok k2 =>
            rintro e w5 ⟨rfl, hX5, hb5⟩
            dsimp only [id] at hX5
            have hG5 := hG4.but hb5 hX5 hXl
            have hk2 := mustL_le hm2 hk2s
            have he2 := HE3.out
            rw [hm2] at he2
            dsimp only at he2
            have HE4 := hide he2
            have hm5 : MaxL w5 := hm0.but hG5.2.2 (by omega) hX0
            clear he2 hm2 HE3 hX5 hb5 hG4
            go_wp2_with (fail)
            refine (remark_any X s k2 hs2 hk2.2 _ hm5 hG5.1).mono ?_
            cases hm3 : remL s k2 with
            | error e =>
              obtain ⟨p, c⟩ := e
              rintro e w6 ⟨rfl, hb6⟩
              refine ⟨rfl, ?_⟩
              have hr : tagsL s (s.size + 1) [] (endB blaB s 0) = .error (p, c) := by rw [HE4.out, hm3]
              rw [hr]
              exact ⟨rfl, hG5.2.2.trans hb6 hG5.2.2.size⟩
            | ok k3 =>
              rintro e w6 ⟨rfl, hX6, hb6⟩
              dsimp only [id] at hX6
              have hG6 := hG5.but hb6 hX6 hXl
              have hk3 := remL_le hm3
              have he2 := HE4.out
              rw [hm3] at he2
              dsimp only at he2
              have HE5 := hide he2
              clear he2 hm3 HE4 hX6 hb6 hG5 hm5
              go_wp2_with (fail)
              refine (all_any X 60 blaB (.inr (.inl ⟨rfl, rfl⟩)) s k3 hs2 hk3.2 _ hG6.1).mono ?_
              rintro e w7 ⟨rfl, hX7, hb7⟩
              have hG7 := hG6.but hb7 hX7 hXl
              have hk4 := endB_le blaB s k3 hk3.2
              have hk5 := endB_ge blaB s k3
              clear hG6 hX7 hb7
              go_wp2
              go_roundg g'
              case measure => rw [HG'.out]; omega
              case rel => exact ⟨L, endB blaB s k3, hk4, by omega, by have := HG'.out; omega, HE5.out, hG7⟩
    · have he2 := tagsL_ge (L := L) (n := g') hlt
      rw [← he] at he2
      have HE := hide he2
      clear he he2
      go_wp2
      go_quiet (fail)
      go_wp2
      have hG2 := hG.drewN nq
      go_ret
      rw [HE.out]
      obtain ⟨_, ⟨rows, h1, h2⟩, h3⟩ := hG2
      exact ⟨_, rows, rfl, h1, h2, h3⟩
end Go.Proofs.Ytcblakflhheepaa
