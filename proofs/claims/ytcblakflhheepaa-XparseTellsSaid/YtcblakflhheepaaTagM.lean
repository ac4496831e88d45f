/- Chapter 41: the reference's Tags. -/
import Derived.Test.YtcblakflhheepaaTagL
import Derived.Test.YtcblakflhheepaaTagH
namespace Go.Proofs.Ytcblakflhheepaa
open Go.RowKit
set_option linter.unusedVariables false
set_option linter.unusedSimpArgs false

theorem infoRTag : (Try.prog.info? 91).map (fun i => (i.zero, i.size, i.bytes)) = some (some (.agg #[.int .i64 0, .string ⟨#[]⟩, .slice none 0 0, .int .i64 0]), 4, 56) := by kernel_rfl

/-- What the reference has of all tags. -/
def RG (X : Nat) (s : ByteArray) (w : World) (out : Value) (L : List Tgv) (x : Nat × Nat) (wr : World) : Prop :=
  Blk wr X TS86 (stt s x) ∧ (∃ rows, Own wr w.heap.size RTag 4 trc out rows ∧ Mt RAttr wr w.heap.size rows L) ∧ But w.heap.size X w wr
section
variable {X : Nat} {s : ByteArray} {w : World} {out : Value} {L : List Tgv} {x x' : Nat × Nat} {wr w' : World}
theorem RG.but (h : RG X s w out L x wr) (hb : But wr.heap.size X wr w') (hX : Blk w' X TS86 (stt s x')) (hXl : X < w.heap.size) : RG X s w out L x' w' := by
  obtain ⟨h1, ⟨rows, h2, h3⟩, h4⟩ := h
  exact ⟨hX, ⟨rows, h2.but hb (fun q hq => by have := h2.lt q hq; omega), h3.but hb hXl⟩, h4.trans hb h4.size⟩
theorem RG.drewN (h : RG X s w out L x wr) (n : Nat) : RG X s w out L x (wr.drewN n) := by
  obtain ⟨h1, ⟨rows, h2, h3⟩, h4⟩ := h
  exact ⟨h1.drewN n, ⟨rows, h2.drewN n, h3.keep fun _ _ h => h.drewN n⟩, h4.drewN n⟩
theorem RG.place (h : RG X s w out L x wr) (k : Nat) (hXl : X < w.heap.size) : RG X s w out L (k, x.2) (wr.setCell ⟨X, 1, none⟩ (.int .i64 k)) := by
  obtain ⟨h1, ⟨rows, h2, h3⟩, h4⟩ := h
  refine ⟨by simpa using h1.set_ 1 (.int .i64 k), ⟨rows, h2.setCell (p := ⟨X, 1, none⟩) (fun e => by have := h2.lt _ e; dsimp only at this; omega) _, h3.keep fun v l ho => ho.setCell (p := ⟨X, 1, none⟩) (fun e => by have := ho.lt _ e; dsimp only at this; omega) _⟩, h4.self 1 _⟩
end

/-- What the reference's Tags hands back. -/
def RTagsOut (w : World) (r : Except (Nat × Nat) (List Tgv)) (e : Ending) (w' : World) : Prop :=
  match r with
  | .ok L => ∃ v rows, e = .returned (.tuple #[v, .int .i64 0, .int .i64 0]) ∧ Own w' w.heap.size RTag 4 trc v rows ∧ Mt RAttr w' w.heap.size rows L ∧ Below w.heap.size w w'
  | .error (p, c) => e = .returned (.tuple #[.slice none 0 0, .int .i64 p, .int .i64 c]) ∧ Below w.heap.size w w'
/-- What the loop over tags knows. -/
def LoopT (s : ByteArray) (g : Nat) (L : List Tgv) (x : Nat × Nat) : Prop :=
  (x.2 = 0 → tagsP s = tagsL s g L x.1) ∧ (x.2 ≠ 0 → tagsP s = .error x)

theorem remL_err {s : ByteArray} {k : Nat} {e : Nat × Nat} (h : remL s k = .error e) : e = (s.size, 16) := by
  unfold remL at h
  cases hi : idx3 (s.data.toList.drop k) with
  | none => rw [hi] at h; injection h with h; exact h.symm
  | some i => rw [hi] at h; cases h
theorem blaS_zero {s : ByteArray} {x : Nat × Nat} (h : (blaS s x).2 = 0) : x.2 = 0 := by
  by_cases hz : x.2 = 0
  · exact hz
  · rw [blaS_err hz] at h; exact h
theorem blaS_ok {s : ByteArray} {k : Nat} : blaS s (k, 0) = (endB blaB s k, 0) := by simp [blaS]
theorem loopT_remark {s : ByteArray} {k k1 g : Nat} {L : List Tgv} {x2 : Nat × Nat} (hlt : k < s.size)
    (he : tagsP s = tagsL s (g + 1) L k)
    (h1 : oneS s 60 (k, 0) = (k1, 0)) (hq : isB (isC 33) s k1 = true) (h2 : remS s (oneS s 45 (oneS s 45 (k1 + 1, 0))) = x2) :
    x2.1 ≤ s.size ∧ ((blaS s x2).2 = 0 → k < (blaS s x2).1) ∧ LoopT s g L (blaS s x2) := by
  have hk1 := isB_lt hq
  rw [tagsL_lt hlt] at he
  cases hm : mustL s k [60] with
  | error e =>
    have := (mustL_err hm (by omega)).2
    simp [oneS, hm, exS] at h1
    rw [h1] at this
    cases this
  | ok k1' =>
    have hle := mustL_le hm (by omega)
    have hk1' : k1' = k1 := by simpa [oneS, hm, exS] using h1
    subst hk1'
    rw [hm] at he
    dsimp only at he
    rw [hq] at he
    simp only [if_true] at he
    rw [one_two (by omega)] at h2
    cases hm2 : mustL s (k1' + 1) [45, 45] with
    | error e =>
      have hz := mustL_err hm2 (by omega)
      rw [hm2] at he h2
      have hx : x2 = e := by
        rw [← h2]
        simp only [exS]
        unfold remS
        rw [if_neg (by simp [hz.2])]
      rw [hx, blaS_err (by simp [hz.2])]
      exact ⟨hz.1, (fun h => by rw [hz.2] at h; cases h), (fun h => by rw [hz.2] at h; cases h), fun _ => he⟩
    | ok k2 =>
      have hle2 := mustL_le hm2 (by omega)
      rw [hm2] at he h2
      dsimp only at he
      simp only [exS, id, remS, if_true] at h2
      cases hr : remL s k2 with
      | error e =>
        have hz := remL_err hr
        rw [hr] at he h2
        have hx : x2 = e := h2.symm
        rw [hx, blaS_err (by simp [hz])]
        exact ⟨by rw [hz]; exact Nat.le_refl _, (fun h => by rw [hz] at h; cases h), (fun h => by rw [hz] at h; cases h), fun _ => he⟩
      | ok k3 =>
        have hle3 := remL_le hr
        rw [hr] at he h2
        have hx : x2 = (k3, 0) := h2.symm
        rw [hx, blaS_ok]
        have := endB_ge blaB s k3
        refine ⟨hle3.2, (fun _ => by dsimp only; omega), fun _ => he, fun h => absurd rfl h⟩

theorem attrsL_err {cl : Bool} {s : ByteArray} : ∀ {n : Nat} {l : List Av} {k : Nat} {e : Nat × Nat}, attrsL cl s n l k = .error e → k ≤ s.size → e.2 ≠ 0
  | 0, l, k, e, h, _ => by simp [attrsL] at h
  | n + 1, l, k, e, h, hk => by
    have h1 := endB_le blaB s k hk
    unfold attrsL at h
    split at h
    · cases h
    · cases ha : attrL l s (endB blaB s k) with
      | error e' =>
        rw [ha] at h
        injection h with h
        subst h
        exact attrL_err ha h1
      | ok b =>
        obtain ⟨a, k1⟩ := b
        rw [ha] at h
        exact attrsL_err h (attrL_le ha h1).2
theorem tagL_errne {s : ByteArray} {k at_ : Nat} {e : Nat × Nat} (h : tagL s k at_ = .error e) (hk : k ≤ s.size) : e.2 ≠ 0 := by
  unfold tagL at h
  have h0 := oneIf_le (p := isC 47) hk
  cases hn : nameL s (oneIf (isB (isC 47) s k) k) with
  | error e' =>
    rw [hn] at h
    injection h with h
    rw [← h, nameL_err hn]
    simp
  | ok b =>
    obtain ⟨nm, k2⟩ := b
    have h1 := nameL_le hn h0.2
    rw [hn] at h
    dsimp only at h h1
    cases ha : attrsL (isB (isC 47) s k) s (s.size + 1) [] k2 with
    | error e' =>
      rw [ha] at h
      injection h with h
      subst h
      exact attrsL_err ha h1.2
    | ok b =>
      obtain ⟨l, k3⟩ := b
      have h2 := attrsL_le ha h1.2
      rw [ha] at h
      dsimp only at h
      cases hm : mustL s (oneIf (aloB (isB (isC 47) s k) s k3) k3) [62] with
      | error e' =>
        rw [hm] at h
        injection h with h
        rw [← h, (mustL_err hm (aloB_le h2.2).2).2]
        simp
      | ok k5 => rw [hm] at h; cases h
theorem loopT_tag {s : ByteArray} {k g : Nat} {L : List Tgv} {x1 x' : Nat × Nat} {t : Tgv} (hlt : k < s.size)
    (he : tagsP s = tagsL s (g + 1) L k) (h1 : oneS s 60 (k, 0) = x1) (hq : tisR (isC 33) s x1 = false) (ht : TagRel s x1 k t x') :
    x'.1 ≤ s.size ∧ ((blaS s x').2 = 0 → k < (blaS s x').1) ∧ LoopT s g (L ++ [t]) (blaS s x') := by
  refine ⟨ht.1, ?_⟩
  rw [tagsL_lt hlt] at he
  cases hm : mustL s k [60] with
  | error e =>
    have hz := mustL_err hm (by omega)
    have hx : x1 = e := by rw [← h1]; simp [oneS, hm, exS]
    have hx' : x' = e := by rw [← hx]; exact ht.2.1 (by simp [hx, hz.2])
    rw [hm] at he
    rw [hx', blaS_err (by simp [hz.2])]
    exact ⟨(fun h => by rw [hz.2] at h; cases h), (fun h => by rw [hz.2] at h; cases h), fun _ => he⟩
  | ok k1 =>
    have hle := mustL_le hm (by omega)
    have hk1 := must1 hm
    have hx : x1 = (k1, 0) := by rw [← h1]; simp [oneS, hm, exS]
    subst hx
    rw [hm] at he
    have hq2 : isB (isC 33) s k1 = false := by simpa [tisR] using hq
    dsimp only at he
    rw [hq2] at he
    simp only [Bool.false_eq_true, if_false] at he
    obtain ⟨r1, r2⟩ := ht.2.2 rfl
    dsimp only at r1 r2
    cases htl : tagL s k1 k with
    | error e =>
      have hz := tagL_errne htl hle.2
      rw [htl] at he r1
      have hx' : x' = e := r1.symm
      rw [hx', blaS_err hz]
      exact ⟨fun h => absurd h hz, fun h => absurd h hz, fun _ => he⟩
    | ok b =>
      obtain ⟨t0, k2⟩ := b
      have hle2 := tagL_le htl hle.2
      have ht0 := r2 t0 k2 htl
      rw [htl] at he r1
      have hx' : x' = (k2, 0) := r1.symm
      rw [hx', blaS_ok, ht0]
      have := endB_ge blaB s k2
      exact ⟨(fun _ => by dsimp only; omega), fun _ => he, fun h => absurd rfl h⟩

set_option maxRecDepth 100000 in
set_option maxHeartbeats 8000000 in
theorem rTags_any (s : ByteArray) (hs : s.size ≤ 4000000) (w : World) :
    Calls Try.prog 23 #[.string s] w (RTagsOut w (tagsP s)) := by
  have t0 : decide (4194304 < (s.size : Int)) = false := by simp; omega
  go_enter Try.func23, Try.ntmps23
  go_wp2_with (fail)
  have hX1 := Blk.new w TS86 (stt s (0, 0))
  have hb1 := (But.refl w.heap.size w.heap.size w).alloc (Nat.le_refl _) (.cells (stt s (0, 0)) TS86)
  have hsz1 : w.heap.size < (w.alloc (.cells (stt s (0, 0)) TS86)).heap.size := by simp
  generalize w.alloc (.cells (stt s (0, 0)) TS86) = w1 at *
  refine (blanks_any w.heap.size s (0, 0) hs (Nat.zero_le _) _ hX1).mono ?_
  rintro e w2 ⟨rfl, hX2, hb2⟩
  have hG2 : RG w.heap.size s w1 (.slice none 0 0) [] (blaS s (0, 0)) w2 := ⟨hX2, ⟨[], Own.nil _ _ _ _ _, trivial⟩, hb2⟩
  have hx2 : (blaS s (0, 0)).1 ≤ s.size := blaS_le (Nat.zero_le _)
  have hL2 : LoopT s (s.size + 1) [] (blaS s (0, 0)) := by
    refine ⟨fun _ => ?_, fun h => ?_⟩
    · simp [tagsP, blaS]
    · simp [blaS] at h
  clear hX2 hb2 hX1
  go_wp2
  go_loopg [6] (s.size + 1) (fun g out wr => ∃ L x, x.1 ≤ s.size ∧ L.length + g ≤ s.size + 1 ∧ (x.2 = 0 → s.size < x.1 + g) ∧ LoopT s g L x ∧ RG w.heap.size s w1 out L x wr)
  case atStart => exact ⟨[], _, hx2, by simp, fun _ => by omega, hL2, hG2⟩
  case round =>
    obtain ⟨L, x, hx, hLg, hg, hL, hG⟩ := hrel
    have HL := hide hL
    clear hL hL2 hG2
    obtain ⟨k, er⟩ := x
    dsimp only at hx hg
    go_wp2_with (fail)
    cases ho : onB s (k, er)
    · refine (on_at hG.1 ho).mono ?_
      rintro e w3 ⟨rfl, n3, rfl⟩
      have hG3 := hG.drewN n3
      clear hG
      generalize wr.drewN n3 = w3 at *
      have d1 := hG3.1.cell 1
      have d2 := hG3.1.cell 2
      simp at d1 d2
      have hb3 := hb1.trans (hG3.2.2.mono (C := w.heap.size) (by omega)) (Nat.le_refl _)
      by_cases he : er = 0
      · subst he
        have t1 : (((0 : Nat) : Int) != 0) = false := rfl
        have hr : tagsP s = .ok L := by
          have h1 := HL.out.1 rfl
          simp [onB] at ho
          have hgz := hg rfl
          obtain ⟨g', rfl⟩ : ∃ g', gk = g' + 1 := ⟨gk - 1, by omega⟩
          rw [tagsL_ge (by omega)] at h1
          exact h1
        have HR := hide hr
        clear hr ho
        go_wp2
        refine bodyPost_ret (v := .tuple #[u6, .int .i64 0, .int .i64 0]) (by simp [results, Try.results23, go_sem]) rfl ?_
        rw [HR.out]
        obtain ⟨_, ⟨rows, h1, h2⟩, _⟩ := hG3
        exact ⟨_, rows, rfl, h1.mono (by omega), h2.mono (by omega), hb3.below (Nat.le_refl _) (Nat.le_refl _)⟩
      · have t1 : ((er : Int) != 0) = true := by simp; omega
        have hr : tagsP s = .error (k, er) := HL.out.2 he
        have HR := hide hr
        clear hr ho he
        go_wp2
        go_quiet (fail)
        go_wp2
        refine bodyPost_ret (v := .tuple #[.slice none 0 0, .int .i64 k, .int .i64 er]) (by simp [results, Try.results23, go_sem]) rfl ?_
        rw [HR.out]
        exact ⟨rfl, (hb3.below (Nat.le_refl _) (Nat.le_refl _)).trans (drewN_below (Below.refl _ _) _)⟩
    · have ho2 := ho
      simp [onB] at ho2
      obtain ⟨rfl, hlt⟩ := ho2
      refine (on_at hG.1 ho).mono ?_
      rintro e w3 ⟨rfl, n3, rfl⟩
      have hG3 := hG.drewN n3
      clear hG
      generalize wr.drewN n3 = w3 at *
      have d1 := hG3.1.cell 1
      simp at d1
      have hgz := hg rfl
      obtain ⟨g', hg'⟩ : ∃ g', gk = g' + 1 := ⟨gk - 1, by omega⟩
      have he2 : tagsP s = tagsL s (g' + 1) L k := (HL.out.1 rfl).trans (by rw [hg'])
      have HE := hide he2
      have HG' := hide hg'
      clear he2 hg' ho
      go_wp2_with (fail)
      refine (one_any w.heap.size s (k, 0) 60 hs _ hG3.1).mono ?_
      rintro e w4 ⟨rfl, hX4, hb4⟩
      have hG4 := hG3.but hb4 hX4 hsz1
      clear hG3 hX4 hb4 d1
      obtain ⟨x1, hx1⟩ : ∃ x1, oneS s 60 (k, 0) = x1 := ⟨_, rfl⟩
      rw [hx1] at hG4
      have hx1s : x1.1 ≤ s.size := by rw [← hx1]; exact oneS_le hx
      have HX1 := hide hx1
      clear hx1
      go_wp2_with (fail)
      go_cut [37] (fun c wx => c = .bool (tisR (isC 33) s x1) ∧ RG w.heap.size s w1 u6 L x1 wx)
      case first =>
        obtain ⟨k1, er1⟩ := x1
        have hX9 := hG4.1
        have d0 := hX9.cell 0
        have d1 := hX9.cell 1
        simp at d0 d1
        cases ho : onB s (k1, er1)
        · have hon := fun m => on_at (w := w4.drewN m) (hX9.drewN m) ho
          have HON := hide hon
          have H := hide (isR_on (p := isC 33) ho)
          have HS := hide hG4
          clear ho hon hG4 hX9
          go_quiet ((go_at_call 40; exact Calls.quiet_of (HON.out _)))
          go_wp2_with fail
          go_meet
          exact ⟨by rw [H.out], HS.out.drewN _⟩
        · have hon := fun m => on_at (w := w4.drewN m) (hX9.drewN m) ho
          have HON := hide hon
          obtain ⟨rfl, hlt2⟩ := on_facts ho
          have i0 : (0 : Int) ≤ (k1 : Int) := by omega
          have i1 : (k1 : Int) < (s.size : Int) := by omega
          have i2 : (k1 : Int).toNat = k1 := by omega
          have H : Hid (tisR (isC 33) s (k1, 0) = (((s[k1]).toNat : Int) == 33)) := by
            show tisR (isC 33) s (k1, 0) = _
            simp [tisR, isB, hlt2, ← byt_eq hlt2, isC]
          have HS := hide hG4
          clear ho hon hG4 hX9
          go_quiet ((go_at_call 40; exact Calls.quiet_of (HON.out _)))
          go_wp2_with fail
          go_meet
          exact ⟨by rw [H.out], HS.out.drewN _⟩
      case rest =>
        obtain ⟨hc, hG5⟩ := hcut
        clear hG4
        cases hq : tisR (isC 33) s x1
        · rw [hq] at hc
          subst hc
          have HQ := hide hq
          clear hq
          go_wp2_with (fail)
          refine (rtag_any w.heap.size s x1 k hs hx1s _ hG5.1).mono ?_
          rintro e w5 ⟨t, x', v, rfl, hO5, hX5, hb5, hT⟩
          obtain ⟨A, n, cap, rfl, -, -⟩ := hO5.rd avc_len
          obtain ⟨t1, t2, t3, t4⟩ := t
          dsimp only at hO5
          have HT := hide (loopT_tag (L := L) (g := g') hlt HE.out HX1.out HQ.out hT)
          have hG6 := hG5.but hb5 hX5 hsz1
          have hO6 := hO5.mono (base' := w1.heap.size) (by have := hG5.2.2.size; omega)
          clear hG5 hO5 hX5 hb5 hT
          obtain ⟨hX6, ⟨rows, hR6, hM6⟩, hb6⟩ := hG6
          have hrl := hM6.len
          have hsz6 := hb6.size
          have hg2 := HG'.out
          go_wp2_with (at_builtin; go_must (refine wpList_append1 _ rfl (.tmp 47) (.tmp 51) _ rfl Try.underlying45 infoRTag rfl (by decide) trc_len trc_one (base := w1.heap.size) (v := u6) (l := rows) rfl ?_ (t1, t2, (A, n, cap), t4) w5.heap.size 1 rfl ?_ ?_ ?_ ?_ ?_))
          · exact (by repeat (first | exact hR6 | refine Own.alloc ?_ _ | refine Own.drewN ?_ _ | refine Own.drew ?_))
          · exact ⟨_, _, heap_new_at (by simp)⟩
          · omega
          · omega
          · simp; omega
          · intro g cap' w6 hO7 hg7 hat7 hlt7
            have hne : ∀ (v : Value) (l : List Av), Own w5 w1.heap.size RAttr 3 avc v l → Own w6 w1.heap.size RAttr 3 avc v l :=
              fun v l ho => (ho.alloc _).grown hg7 (own_own_ne ho hR6 (by decide))
            have hG7 : RG w.heap.size s w1 (.slice (some ⟨g, 0, none⟩) (L.length + 1) cap') (L ++ [(t1, t2, t3, t4)]) x' w6 := by
              refine ⟨(hX6.alloc _).grown hg7 (fun e => by have := (hR6.lt _ e.symm).1; omega), ⟨rows ++ [(t1, t2, (A, n, cap), t4)], hO7, Mt.snoc ⟨rfl, rfl, rfl, hne _ _ hO6⟩ (hM6.keep hne)⟩, ?_⟩
              exact (hb6.alloc (by omega) _).grown hg7 (by simp; omega) (fun q hq => (hR6.lt q hq).1)
            clear hO7 hg7 hat7 hlt7 hne hX6 hR6 hM6 hb6 hO6
            go_wp2_with (fail)
            refine (blanks_any w.heap.size s x' hs HT.out.1 _ hG7.1).mono ?_
            rintro e w8 ⟨rfl, hX8, hb8⟩
            have hG8 := hG7.but hb8 hX8 hsz1
            clear hG7 hX8 hb8
            go_wp2
            go_roundg g'
            case measure => omega
            case rel => exact ⟨L ++ [(t1, t2, t3, t4)], blaS s x', blaS_le HT.out.1, by simp; omega, fun h => by have := HT.out.2.1 h; omega, HT.out.2.2, hG8⟩
        · rw [hq] at hc
          subst hc
          obtain ⟨k1, er1⟩ := x1
          have hq2 := hq
          simp [tisR] at hq2
          obtain ⟨rfl, hq3⟩ := hq2
          have hlt3 := isB_lt hq3
          have d1 := hG5.1.cell 1
          have d2 := hG5.1.frozen 1
          simp at d1
          have s0 : IntKind.i64.wrap ((k1 : Int) + 1) = (k1 : Int) + 1 := IntWalk.i64_in _ (by omega)
          have hG6 := hG5.place (k1 + 1) hsz1
          rw [show (((k1 + 1 : Nat) : Int)) = (k1 : Int) + 1 by simp] at hG6
          have HQ := hide hq3
          clear hq hq3
          go_wp2_with (fail)
          generalize wc.setCell ⟨w.heap.size, 1, none⟩ (.int .i64 ((k1 : Int) + 1)) = w6 at *
          clear hG5 d1 d2
          refine (rremark_any w.heap.size s (k1 + 1, 0) hs (by dsimp only; omega) _ hG6.1).mono ?_
          rintro e w7 ⟨rfl, hX7, hb7⟩
          have hG7 := hG6.but hb7 hX7 hsz1
          clear hG6 hX7 hb7
          obtain ⟨x2, hx2'⟩ : ∃ x2, remS s (oneS s 45 (oneS s 45 (k1 + 1, 0))) = x2 := ⟨_, rfl⟩
          rw [hx2'] at hG7
          have hst := loopT_remark (L := L) (g := g') hlt HE.out HX1.out HQ.out hx2'
          have HST := hide hst
          clear hx2' hst
          go_wp2_with (fail)
          refine (blanks_any w.heap.size s x2 hs HST.out.1 _ hG7.1).mono ?_
          rintro e w8 ⟨rfl, hX8, hb8⟩
          have hG8 := hG7.but hb8 hX8 hsz1
          clear hG7 hX8 hb8
          go_wp2
          go_roundg g'
          case measure => rw [HG'.out]; omega
          case rel =>
            have := HG'.out
            exact ⟨L, blaS s x2, blaS_le HST.out.1, by omega, fun h => by have := HST.out.2.1 h; omega, HST.out.2.2, hG8⟩
end Go.Proofs.Ytcblakflhheepaa
