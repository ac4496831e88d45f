/- Chapter 43: Parse. -/
import Derived.Test.YtcblakflhheepaaParI
import Derived.Test.YtcblakflhheepaaTagH
import Derived.Test.YtcblakflhheepaaTagN
namespace Go.Proofs.Ytcblakflhheepaa
open Go.RowKit
set_option linter.unusedVariables false
set_option linter.unusedSimpArgs false

def AFine (s : ByteArray) (a : Av) : Prop := a.2.1.size ≤ s.size ∧ a.2.2 ≤ s.size
def TFine (s : ByteArray) (t : Tgv) : Prop := t.2.1 ≠ ⟨#[]⟩ ∧ t.2.2.1.length ≤ s.size ∧ (∀ a ∈ t.2.2.1, AFine s a) ∧ t.2.2.2 ≤ s.size ∧ (1 ≤ t.1 ∧ t.1 ≤ 3)
def EFine (s : ByteArray) (e : Nat × Nat) : Prop := e.1 ≤ s.size ∧ (e.2 = 16 ∨ e.2 = 17)
section
variable {s : ByteArray}
theorem extractF_le (a b : Nat) : (s.extract a b).size ≤ s.size := by simp; omega
theorem nameF_err {k : Nat} {e : Nat × Nat} (h : nameL s k = .error e) (hk : k ≤ s.size) : EFine s e := by
  unfold nameL at h
  split at h
  · cases h
  · injection h with h; subst h; exact ⟨hk, .inl rfl⟩
theorem nameF_ne {k : Nat} {a : ByteArray × Nat} (h : nameL s k = .ok a) (hk : k ≤ s.size) : a.1 ≠ ⟨#[]⟩ := by
  have h1 := nameL_le h hk
  unfold nameL at h
  split at h
  · injection h with h
    subst h
    intro he
    have h2 := congrArg ByteArray.size he
    have h3 : (⟨#[]⟩ : ByteArray).size = 0 := rfl
    rw [h3] at h2
    simp at h2
    dsimp only at h1
    omega
  · cases h
theorem mustF_err : ∀ {l : List UInt8} {k : Nat} {e : Nat × Nat}, mustL s k l = .error e → k ≤ s.size → EFine s e
  | [], k, e, h, hk => by cases h
  | c :: cs, k, e, h, hk => by
    unfold mustL at h
    split at h
    · rename_i hc
      have := isB_lt hc
      exact mustF_err h (by omega)
    · injection h with h; subst h; exact ⟨hk, .inl rfl⟩
theorem attrL_fine {l : List Av} {k : Nat} (hk : k ≤ s.size) : (∀ e, attrL l s k = .error e → EFine s e) ∧ ∀ a, attrL l s k = .ok a → AFine s a.1 := by
  unfold attrL
  cases hn : nameL s k with
  | error e => exact ⟨fun e' h => by injection h with h; subst h; exact nameF_err hn hk, fun a h => by cases h⟩
  | ok b =>
    obtain ⟨n, k1⟩ := b
    have h1 := nameL_le hn hk
    dsimp only at h1 ⊢
    split
    · exact ⟨fun e' h => by injection h with h; subst h; exact ⟨hk, .inr rfl⟩, fun a h => by cases h⟩
    · cases hm : mustL s k1 [61, 34] with
      | error e => exact ⟨fun e' h => by injection h with h; subst h; exact mustF_err hm h1.2, fun a h => by cases h⟩
      | ok k2 =>
        have h2 := mustL_le hm h1.2
        have h3 := endB_le plaB s k2 h2.2
        dsimp only
        cases hm2 : mustL s (endB plaB s k2) [34] with
        | error e => exact ⟨fun e' h => by injection h with h; subst h; exact mustF_err hm2 h3, fun a h => by cases h⟩
        | ok k4 => exact ⟨fun e' h => (by cases h), fun a h => by injection h with h; subst h; exact ⟨extractF_le _ _, hk⟩⟩
theorem attrsL_fine {cl : Bool} : ∀ {n : Nat} {l : List Av} {k : Nat}, k ≤ s.size → (∀ a ∈ l, AFine s a) →
    (∀ e, attrsL cl s n l k = .error e → EFine s e) ∧ ∀ b, attrsL cl s n l k = .ok b → (∀ a ∈ b.1, AFine s a) ∧ b.1.length + k ≤ l.length + b.2
  | 0, l, k, hk, hl => by
    unfold attrsL
    exact ⟨fun e h => (by cases h), fun b h => (by injection h with h; subst h; exact ⟨hl, Nat.le_refl _⟩)⟩
  | n + 1, l, k, hk, hl => by
    unfold attrsL
    have h1 := endB_le blaB s k hk
    have h0 := endB_ge blaB s k
    split
    · exact ⟨fun e h => (by cases h), fun b h => (by injection h with h; subst h; exact ⟨hl, by dsimp only; omega⟩)⟩
    · obtain ⟨f1, f2⟩ := attrL_fine (l := l) h1
      cases ha : attrL l s (endB blaB s k) with
      | error e => exact ⟨fun e' h => by injection h with h; subst h; exact f1 _ ha, fun b h => by cases h⟩
      | ok b =>
        obtain ⟨a, k'⟩ := b
        have h3 := attrL_le ha h1
        have h4 := f2 _ ha
        dsimp only
        obtain ⟨g1, g2⟩ := attrsL_fine (cl := cl) (n := n) (l := l ++ [a]) (k := k') h3.2 (by
          intro x hx
          rcases List.mem_append.1 hx with hx | hx
          · exact hl x hx
          · rw [List.mem_singleton] at hx; subst hx; exact h4)
        refine ⟨g1, fun b hb => ⟨(g2 b hb).1, ?_⟩⟩
        have := (g2 b hb).2
        simp only [List.length_append, List.length_singleton] at this
        omega
theorem tagL_fine {k at_ : Nat} (hk : k ≤ s.size) (hat : at_ ≤ s.size) : (∀ e, tagL s k at_ = .error e → EFine s e) ∧ ∀ b, tagL s k at_ = .ok b → TFine s b.1 := by
  unfold tagL
  have h0 := oneIf_le (p := isC 47) hk
  cases hn : nameL s (oneIf (isB (isC 47) s k) k) with
  | error e => exact ⟨fun e' h => by injection h with h; subst h; exact nameF_err hn h0.2, fun b h => by cases h⟩
  | ok b =>
    obtain ⟨nm, k2⟩ := b
    have h1 := nameL_le hn h0.2
    have hne := nameF_ne hn h0.2
    dsimp only at h1 hne ⊢
    obtain ⟨f1, f2⟩ := attrsL_fine (s := s) (cl := isB (isC 47) s k) (n := s.size + 1) (l := []) h1.2 (by simp)
    cases ha : attrsL (isB (isC 47) s k) s (s.size + 1) [] k2 with
    | error e => exact ⟨fun e' h => by injection h with h; subst h; exact f1 _ ha, fun b h => by cases h⟩
    | ok b =>
      obtain ⟨l, k3⟩ := b
      have h2 := attrsL_le ha h1.2
      have h4 := f2 _ ha
      have h3 := aloB_le (cl := isB (isC 47) s k) h2.2
      dsimp only at h4 ⊢
      cases hm : mustL s (oneIf (aloB (isB (isC 47) s k) s k3) k3) [62] with
      | error e => exact ⟨fun e' h => by injection h with h; subst h; exact mustF_err hm h3.2, fun b h => by cases h⟩
      | ok k5 =>
        refine ⟨fun e' h => (by cases h), fun b h => ?_⟩
        injection h with h
        subst h
        refine ⟨hne, ?_, h4.1, hat, by dsimp only [kdI]; split <;> (try split) <;> omega⟩
        have := h4.2
        simp at this ⊢
        omega
theorem remF_err {k : Nat} {e : Nat × Nat} (h : remL s k = .error e) : EFine s e := by
  unfold remL at h
  split at h
  · injection h with h; subst h; exact ⟨Nat.le_refl _, .inl rfl⟩
  · cases h
theorem tagsL_fine : ∀ {n : Nat} {L : List Tgv} {k : Nat}, k ≤ s.size → (∀ t ∈ L, TFine s t) → 2 * L.length ≤ k →
    (∀ e, tagsL s n L k = .error e → EFine s e) ∧ ∀ L', tagsL s n L k = .ok L' → (∀ t ∈ L', TFine s t) ∧ 2 * L'.length ≤ s.size
  | 0, L, k, hk, hl, hn => by
    unfold tagsL
    exact ⟨fun e h => (by cases h), fun b h => (by injection h with h; subst h; exact ⟨hl, by omega⟩)⟩
  | n + 1, L, k, hk, hl, hn => by
    unfold tagsL
    split
    · rename_i hlt
      cases hm : mustL s k [60] with
      | error e => exact ⟨fun e' h => by injection h with h; subst h; exact mustF_err hm hk, fun b h => by cases h⟩
      | ok k1 =>
        have h1 := mustL_le hm hk
        have h1' := must1 hm
        dsimp only
        split
        · rename_i h33
          have h3 := isB_lt h33
          cases hm2 : mustL s (k1 + 1) [45, 45] with
          | error e => exact ⟨fun e' h => by injection h with h; subst h; exact mustF_err hm2 (by omega), fun b h => by cases h⟩
          | ok k2 =>
            have h4 := mustL_le hm2 (by omega)
            dsimp only
            cases hr : remL s k2 with
            | error e => exact ⟨fun e' h => by injection h with h; subst h; exact remF_err hr, fun b h => by cases h⟩
            | ok k3 =>
              have h5 := remL_le hr
              have h6 := endB_le blaB s k3 h5.2
              have h7 := endB_ge blaB s k3
              exact tagsL_fine h6 hl (by omega)
        · obtain ⟨f1, f2⟩ := tagL_fine (s := s) (k := k1) (at_ := k) h1.2 hk
          cases ht : tagL s k1 k with
          | error e => exact ⟨fun e' h => by injection h with h; subst h; exact f1 _ ht, fun b h => by cases h⟩
          | ok b =>
            obtain ⟨t, k2⟩ := b
            have h5 := tagL_le ht h1.2
            have h6 := endB_le blaB s k2 h5.2
            have h7 := endB_ge blaB s k2
            have h8 := f2 _ ht
            refine tagsL_fine h6 (fun x hx => ?_) (by simp only [List.length_append, List.length_singleton]; omega)
            rcases List.mem_append.1 hx with hx | hx
            · exact hl x hx
            · rw [List.mem_singleton] at hx; subst hx; exact h8
    · exact ⟨fun e h => (by cases h), fun b h => (by injection h with h; subst h; exact ⟨hl, by omega⟩)⟩
/-- Scanned tags; an error's place. -/
theorem tagsF_err {e : Nat × Nat} (h : tagsP s = .error e) : EFine s e := by
  refine (tagsL_fine (s := s) ?_ (by simp) (by simp)).1 e h
  exact endB_le blaB s 0 (Nat.zero_le _)
theorem tagsP_fine {L : List Tgv} (h : tagsP s = .ok L) : (∀ t ∈ L, TFine s t) ∧ 2 * L.length ≤ s.size := by
  refine (tagsL_fine (s := s) ?_ (by simp) (by simp)).2 L h
  exact endB_le blaB s 0 (Nat.zero_le _)
end
/-- The same of the tags as the parser reads them. -/
def IFine (s : ByteArray) (t : Ti) : Prop := t.2.1 ≠ ⟨#[]⟩ ∧ t.2.2.1.length ≤ s.size ∧ (∀ a ∈ t.2.2.1, a.2.1.size ≤ s.size ∧ 0 ≤ a.2.2 ∧ a.2.2 ≤ s.size) ∧ (0 ≤ t.2.2.2 ∧ t.2.2.2 ≤ s.size) ∧ (1 ≤ t.1 ∧ t.1 ≤ 3)
theorem tOf_fine {s : ByteArray} {t : Tgv} (h : TFine s t) : IFine s (tOf t) := by
  obtain ⟨h1, h2, h3, h4, h5⟩ := h
  refine ⟨h1, by simpa [tOf] using h2, fun a ha => ?_, ⟨by simp [tOf], by simp only [tOf]; omega⟩, h5⟩
  simp only [tOf, List.mem_map] at ha
  obtain ⟨x, hx, rfl⟩ := ha
  obtain ⟨q1, q2⟩ := h3 x hx
  exact ⟨q1, by simp [aOf], by simp only [aOf]; omega⟩


def poolOf (s : Ps) : Pl := (s.tx, s.time, s.unit, s.data, s.devs)
/-- What Parse hands back. -/
def parseP (s : ByteArray) : Except (Int × Int) Pl :=
  match tagsP s with
  | .error e => .error ((e.1 : Int), (e.2 : Int))
  | .ok L => match foldP initP (L.map tOf) with
    | .error e => .error e
    | .ok st => if st.ended then .ok (poolOf st) else .error ((s.size : Int), 16)
def ParseOut (w : World) (r : Except (Int × Int) Pl) (e : Ending) (w' : World) : Prop :=
  match r with
  | .ok p => ∃ A cap, e = .returned (.tuple #[.agg #[.int .i64 p.1, .int .i64 p.2.1, .int .i64 p.2.2.1, .int .i64 p.2.2.2.1, .slice A p.2.2.2.2.length cap], .int .i64 0, .int .i64 0]) ∧ RdD w' w'.heap.size A p.2.2.2.2 ∧ Below w.heap.size w w'
  | .error (p, c) => e = .returned (.tuple #[.agg #[.int .i64 0, .int .i64 0, .int .i64 0, .int .i64 0, .slice none 0 0], .int .i64 p, .int .i64 c]) ∧ Below w.heap.size w w'
abbrev pool0 : Array Value := #[.int .i64 0, .int .i64 0, .int .i64 0, .int .i64 0, .slice none 0 0]
theorem foldP_cons {st : Ps} {t : Ti} {L : List Ti} : foldP st (t :: L) = (match takeP st t with | .error e => .error e | .ok s' => foldP s' L) := rfl
abbrev setP (w : World) (P : Nat) (v0 v1 v2 v3 v4 : Value) : World := ((((w.setCell ⟨P, 0, none⟩ v0).setCell ⟨P, 1, none⟩ v1).setCell ⟨P, 2, none⟩ v2).setCell ⟨P, 3, none⟩ v3).setCell ⟨P, 4, none⟩ v4
theorem setP_ok {w w2 W : World} {P B : Nat} {a0 a1 a2 a3 a4 : Value} (hP : Blk w2 P 66 #[a0, a1, a2, a3, a4]) (hb : Below B w w2) (hB : B ≤ P) (v0 v1 v2 v3 v4 : Value) (hW : W = setP w2 P v0 v1 v2 v3 v4) :
    W.cell? ⟨P, 0, none⟩ = some v0 ∧ W.cell? ⟨P, 1, none⟩ = some v1 ∧ W.cell? ⟨P, 2, none⟩ = some v2 ∧ W.cell? ⟨P, 3, none⟩ = some v3 ∧ W.cell? ⟨P, 4, none⟩ = some v4 ∧ Below B w W := by
  have h := ((((hP.set_ 0 v0).set_ 1 v1).set_ 2 v2).set_ 3 v3).set_ 4 v4
  have hb2 : Below B w W := by
    rw [hW]
    refine Below.setCell ?_ hB _
    refine Below.setCell ?_ hB _
    refine Below.setCell ?_ hB _
    refine Below.setCell ?_ hB _
    exact Below.setCell hb hB _
  rw [show (((((w2.setCell ⟨P, 0, none⟩ v0).setCell ⟨P, 1, none⟩ v1).setCell ⟨P, 2, none⟩ v2).setCell ⟨P, 3, none⟩ v3).setCell ⟨P, 4, none⟩ v4) = W from hW.symm] at h
  have c0 := h.cell 0
  have c1 := h.cell 1
  have c2 := h.cell 2
  have c3 := h.cell 3
  have c4 := h.cell 4
  simp at c0 c1 c2 c3 c4
  exact ⟨c0, c1, c2, c3, c4, hb2⟩
set_option maxRecDepth 100000 in
set_option maxHeartbeats 8000000 in
theorem Parse_any (s : ByteArray) (hs : s.size ≤ 4000000) (w : World) (hm : MaxL w) :
    Calls Try.prog 31 #[.string s] w (ParseOut w (parseP s)) := by
  have hmp := hm.pos
  have hP1 := Blk.new w 66 pool0
  have hb1 : Below w.heap.size w (w.alloc (.cells pool0 66)) := (by repeat (first | exact Below.refl _ _ | refine Below.alloc ?_ (by first | (simp; omega) | simp | omega) _ | refine drewN_below ?_ _ | refine Below.drew ?_))
  have hm1 := hm.below hb1 hmp
  go_enter Try.func31, Try.ntmps31
  go_wp2_with (fail)
  generalize (w.alloc (.cells pool0 66)) = w1 at *
  refine (Tags_any s hs w1 hm1).mono ?_
  intro e w2 hT
  have hP1l := hP1.lt
  obtain ⟨R, hR⟩ : ∃ R, tagsP s = R := ⟨_, rfl⟩
  rw [hR] at hT
  have HRR := hide hR
  clear hR hm1
  cases R with
  | error pc =>
    obtain ⟨p, c⟩ := pc
    obtain ⟨rfl, hb2⟩ := hT
    have hP2 := hP1.below hb2 hP1.lt
    have c0 := hP2.cell 0
    have c1 := hP2.cell 1
    have c2 := hP2.cell 2
    have c3 := hP2.cell 3
    have c4 := hP2.cell 4
    simp at c0 c1 c2 c3 c4
    have fz := hP2.frozen
    have hc := (tagsF_err HRR.out).2
    have hc0 : ((c : Int) != 0) = true := by simp; dsimp only at hc; omega
    clear hc
    have hl2 := hP2.lt
    have HB2 := hide (hb1.trans (hb2.mono hb1.size))
    obtain ⟨q0, q1, q2, q3, q4, q5⟩ := setP_ok hP2 HB2.out (Nat.le_refl _) (.int .i64 0) (.int .i64 0) (.int .i64 0) (.int .i64 0) (.slice none 0 0) rfl
    have hr := hide (show parseP s = .error ((p : Int), (c : Int)) by unfold parseP; rw [HRR.out])
    clear hb2 hP1 hb1
    go_wp2
    refine bodyPost_ret (v := .tuple #[.agg pool0, .int .i64 p, .int .i64 c]) (by simp [results, Try.results31, go_sem, q0, q1, q2, q3, q4]) rfl ?_
    rw [hr.out]
    exact ⟨rfl, q5⟩
  | ok L =>
    obtain ⟨v, rows, rfl, hO, hM, hb2⟩ := hT
    obtain ⟨A, n, cap, rfl, hn0, -⟩ := hO.rd trc_len
    obtain ⟨hn, hI⟩ := rdI_of hO hM
    have HN := hide hn
    clear hn
    have hP2 := hP1.below hb2 hP1.lt
    have HB2 := hide (hb1.trans (hb2.mono hb1.size))
    clear hb1 hb2 hP1 hO hM hn0 hP1l
    have hpl := hP2.lt
    go_wp2_with (fail)
    refine (bounds_any w2).mono ?_
    rintro e w3 ⟨K, rfl, hK, hb3⟩
    have hP3 := hP2.below hb3 hP2.lt
    have HB3 := hide (HB2.out.trans (hb3.mono HB2.out.size))
    have hI3 := (hI.below hb3).mono hb3.size
    have hPl := hP3.lt
    clear hb3 hI hP2 HB2 hpl
    go_upto_region 5 with (fail)
    have hXs : w3.heap.size < (w3.alloc (.cells (prs initP (.slice none 0 0) K) 110)).heap.size := by simp
    have hX4 : Blk (w3.alloc (.cells (prs initP (.slice none 0 0) K) 110)) w3.heap.size 110 (prs initP (.slice none 0 0) K) := heap_new_at rfl
    have hb4 : Below w3.heap.size w3 (w3.alloc (.cells (prs initP (.slice none 0 0) K) 110)) := (by repeat (first | exact Below.refl _ _ | refine Below.alloc ?_ (by first | (simp; omega) | simp | omega) _ | refine drewN_below ?_ _ | refine Below.drew ?_))
    have HP4 := hide (hP3.below hb4 hP3.lt)
    have HB4 := hide (HB3.out.trans (hb4.mono HB3.out.size))
    have HI4 := hide (hI3.below hb4)
    have HK4 := hide (hK.keep (fun k hk => hb4.block k hk))
    have hs4 : (w3.alloc (.cells (prs initP (.slice none 0 0) K) 110)).heap.size = w3.heap.size + 1 := by simp
    change Code.wp _ _ _ _ (w3.alloc (.cells (prs initP (.slice none 0 0) K) 110))
    generalize (w3.alloc (.cells (prs initP (.slice none 0 0) K) 110)) = w4 at *
    clear hP3 hI3 hb4 hK HB3 hmp
    have HPS := hide (show PS (w3.heap.size + 1) w3.heap.size K initP w4 from ⟨by omega, by omega, _, hX4, DV.nil _ _⟩)
    clear hX4
    obtain ⟨X, hX⟩ : ∃ X, w3.heap.size = X := ⟨_, rfl⟩
    rw [hX] at HPS HK4 HI4 hs4 hXs hPl ⊢
    clear hX
    obtain ⟨T, hT⟩ : ∃ T, L.map tOf = T := ⟨_, rfl⟩
    rw [hT] at HI4 HN
    have hTf : ∀ t ∈ T, IFine s t := by
      intro t ht
      rw [← hT] at ht
      obtain ⟨y, hy, rfl⟩ := List.mem_map.1 ht
      exact tOf_fine ((tagsP_fine HRR.out).1 y hy)
    have hP0 : parseP s = (match foldP initP T with | .error e => .error e | .ok st => if st.ended then .ok (poolOf st) else .error ((s.size : Int), 16)) := by
      unfold parseP
      rw [HRR.out, ← hT]
    have HP0 := hide hP0
    have HTF := hide hTf
    have HL := hide (show 2 * T.length ≤ s.size by
      have := (tagsP_fine HRR.out).2
      rw [← hT, List.length_map]
      exact this)
    clear hP0 hTf hT HRR
    have hnb : n ≤ 4000000 := by
      have h1 := HN.out
      have h2 := HL.out
      omega
    go_wp2_with (fail)
    go_loopw [28] (fun i wr => ∃ (j : Nat) (st : Ps), j ≤ n ∧ i = .int .i64 j ∧ foldP initP T = foldP st (T.drop j) ∧ Good st ∧ PS (X + 1) X K st wr ∧ Bt (X + 1) X w4 wr) (fun i _ => n - (intOf i).toNat)
    case atStart => exact ⟨0, initP, Nat.zero_le _, rfl, rfl, .inl rfl, HPS.out, Bt.refl _ _ _⟩
    case round =>
      obtain ⟨j, st, hj, rfl, hfo, hg, hps, hbt⟩ := hrel
      have hbX := hbt.but.below (C := X) (by omega) (Nat.le_refl X)
      have hwr := hbt.size
      have HPS5 := hide hps
      have HBT5 := hide hbt
      have HBX5 := hide hbX
      have HFO := hide hfo
      have HP5 := hide (HP4.out.below hbX (by omega))
      clear hbX hfo hps hbt
      by_cases hjn : j < n
      · have i0 : (0 : Int) ≤ (j : Int) := by omega
        have i1 : (j : Int) < (n : Int) := by omega
        have t0 : decide ((j : Int) < (n : Int)) = true := by simpa using hjn
        have hjT : j < T.length := by have := HN.out; omega
        obtain ⟨t, ht⟩ : ∃ t, T[j]? = some t := ⟨_, List.getElem?_eq_getElem hjT⟩
        obtain ⟨tb, tf, A', cap', rfl, htb, c0, c1, c2, c3, hr⟩ := (HI4.out.below HBX5.out) j t ht
        have HR := hide hr
        have HF := hide (HTF.out t (List.mem_of_getElem? ht))
        have HFO2 := hide (show foldP initP T = (match takeP st t with | .error e => .error e | .ok s' => foldP s' (T.drop (j + 1))) by
          rw [HFO.out, ← foldP_cons]
          congr 1
          rw [List.drop_eq_getElem_cons hjT]
          rw [List.getElem?_eq_getElem hjT] at ht
          injection ht with ht
          rw [ht])
        clear hr ht
        obtain ⟨kd, nm, ats, at_⟩ := t
        dsimp only at c0 c1 c2 c3
        go_wp2_with (fail)
        have hps6 := HPS5.out.alloc (.cells #[.int .i64 kd, .string nm, .slice A' ats.length cap', .int .i64 at_] 60)
        have HBT6 := hide (HBT5.out.alloc HPS5.out.2.1 (.cells #[.int .i64 kd, .string nm, .slice A' ats.length cap', .int .i64 at_] 60))
        have HP6 := hide (HP5.out.alloc (.cells #[.int .i64 kd, .string nm, .slice A' ats.length cap', .int .i64 at_] 60))
        have hb6 : Below X wr (wr.alloc (.cells #[.int .i64 kd, .string nm, .slice A' ats.length cap', .int .i64 at_] 60)) := Below.alloc (Below.refl _ _) (by omega) _
        have hk6 := HK4.out.keep (fun k hk => (HBX5.out.trans hb6).block k hk)
        have hr6 := (HR.out.below hb6).mono (show X ≤ (wr.alloc (.cells #[.int .i64 kd, .string nm, .slice A' ats.length cap', .int .i64 at_] 60)).heap.size by have := hb6.size; omega)
        have hsz6 : X ≤ (wr.alloc (.cells #[.int .i64 kd, .string nm, .slice A' ats.length cap', .int .i64 at_] 60)).heap.size := by have := hb6.size; omega
        obtain ⟨fi1, fi2, fi3, fi4⟩ := HF.out
        dsimp only at fi1 fi2 fi3 fi4
        have HFI1 := hide fi1
        generalize (wr.alloc (.cells #[.int .i64 kd, .string nm, .slice A' ats.length cap', .int .i64 at_] 60)) = w6 at *
        refine (take_any (X + 1) X K X A' cap' st (kd, nm, ats, at_) w6 hps6 hg hk6 hsz6 hr6 (by dsimp only; omega) (fun a ha => by have := (fi3 a ha).1; omega)).mono ?_
        intro e w7 hS
        have HW6 := hide (HBT6.out.size)
        clear hps6 hk6 hr6 hsz6 hb6 fi1 fi2 fi3 fi4 c0 c1 c2 c3
        obtain ⟨R, hR⟩ : ∃ R, takeP st (kd, nm, ats, at_) = R := ⟨_, rfl⟩
        rw [hR] at hS
        have hfo2 := HFO2.out
        rw [hR] at hfo2
        have HFO3 := hide hfo2
        have HRR := hide hR
        clear hfo2 hR HFO2 HFO
        cases R with
        | error pc =>
          obtain ⟨p, c⟩ := pc
          obtain ⟨rfl, hbt7⟩ := hS
          have hc := (take_err HRR.out).1
          have HBT7 := hide (HBT6.out.trans hbt7 (Nat.le_refl _))
          have hbX7 := HBT7.out.but.below (C := X) (by omega) (Nat.le_refl X)
          have HB8 := hide (HB4.out.trans (hbX7.mono (by omega)))
          have hp7 := HP4.out.below hbX7 (by omega)
          have HP8 := hide (hp7.alloc (.cells #[.int .i64 p, .int .i64 c] 112))
          have HC8 := hide (HB8.out.trans (show Below w.heap.size w7 (w7.alloc (.cells #[.int .i64 p, .int .i64 c] 112)) from Below.alloc (Below.refl _ _) (by have := HB8.out.size; omega) _))
          have hE8 : Blk (w7.alloc (.cells #[.int .i64 p, .int .i64 c] 112)) w7.heap.size 112 #[.int .i64 p, .int .i64 c] := heap_new_at rfl
          have HE8 := hide hE8
          have hc0 : (c == 0) = false := by simp; omega
          have hne7 : w7.heap.size ≠ w.heap.size := by have := hbX7.size; omega
          have hne8 : w.heap.size ≠ w7.heap.size := hne7.symm
          obtain ⟨u, hu⟩ : ∃ u, (p == 0) = u := ⟨_, rfl⟩
          clear hbt7 hbX7 hp7 HB8 hc hE8
          go_wp2_with (fail)
          generalize (w7.alloc (.cells #[.int .i64 p, .int .i64 c] 112)) = w8 at *
          have e0 := HE8.out.cell 0
          have e1 := HE8.out.cell 1
          have el := HE8.out.lt
          simp at e0 e1
          have hr := hide (show parseP s = .error (p, c) by rw [HP0.out, HFO3.out])
          cases u
          all_goals
            go_region_with (go_at_call 50; refine (fine_any _).mono ?_; rintro e w9 ⟨rfl, hb9⟩; have e0' := (HE8.out.drew.below hb9 HE8.out.lt).cell 0; have e1' := (HE8.out.drew.below hb9 HE8.out.lt).cell 1; simp at e0' e1')
          all_goals
            have hP9 := HP8.out.drew.below hb9 HP8.out.lt
            have HB9 := hide ((HC8.out.drew).trans (hb9.mono HC8.out.size))
            have hP9l := hP9.lt
            have hE9l := (HE8.out.drew.below hb9 HE8.out.lt).lt
            have s0 := hP9.cell 0
            have s1 := hP9.cell 1
            have s2 := hP9.cell 2
            have s3 := hP9.cell 3
            have s4 := hP9.cell 4
            simp at s0 s1 s2 s3 s4
            have fz := hP9.frozen
            clear hb9 e0 e1 el
            go_wp2_with (fail)
            have HP9 := hide hP9
            clear hP9
            have hst := (fun (W : World) (hW : W = setP w9 w.heap.size (.int .i64 0) (.int .i64 0) (.int .i64 0) (.int .i64 0) (.slice none 0 0)) => setP_ok HP9.out HB9.out (Nat.le_refl _) (.int .i64 0) (.int .i64 0) (.int .i64 0) (.int .i64 0) (.slice none 0 0) hW)
            try simp only [Act.put, Array.setIfInBounds, List.setIfInBounds_toArray, List.set_cons_zero, List.set_cons_succ]
            obtain ⟨q0, q1, q2, q3, q4, q5⟩ := hst _ rfl
            have HQ0 := hide q0; have HQ1 := hide q1; have HQ2 := hide q2; have HQ3 := hide q3; have HQ4 := hide q4; have HQ5 := hide q5
            clear hst q0 q1 q2 q3 q4 q5
            go_region
          all_goals
            have q0 := HQ0.out; have q1 := HQ1.out; have q2 := HQ2.out; have q3 := HQ3.out; have q4 := HQ4.out
            clear s0 s1 s2 s3 s4 e0' e1' fz
            go_wp2
            refine bodyPost_ret (v := .tuple #[.agg pool0, .int .i64 p, .int .i64 c]) (by simp [results, Try.results31, go_sem, q0, q1, q2, q3, q4]) rfl ?_
            rw [hr.out]
            exact ⟨rfl, HQ5.out.drew⟩
        | ok st' =>
          obtain ⟨rfl, hps7, hbt7⟩ := hS
          have hg' := take_good hg HFI1.out HRR.out
          have HPS7 := hide hps7
          have HBT7 := hide (HBT6.out.trans hbt7 (Nat.le_refl _))
          clear hbt7 hps7
          have HPS8 := hide (HPS7.out.alloc (.cells #[.int .i64 0, .int .i64 0] 112))
          have HBT8 := hide (HBT7.out.alloc HPS7.out.2.1 (.cells #[.int .i64 0, .int .i64 0] 112))
          have hE8 : Blk (w7.alloc (.cells #[.int .i64 0, .int .i64 0] 112)) w7.heap.size 112 #[.int .i64 0, .int .i64 0] := heap_new_at rfl
          have HE8 := hide hE8
          clear hE8
          go_wp2_with (fail)
          generalize (w7.alloc (.cells #[.int .i64 0, .int .i64 0] 112)) = w8 at *
          have e0 := HE8.out.cell 0
          have e1 := HE8.out.cell 1
          have el := HE8.out.lt
          simp at e0 e1
          go_region_with (go_at_call 50; refine (fine_any _).mono ?_; rintro e w9 ⟨rfl, hb9⟩; have e0' := (HE8.out.drew.below hb9 HE8.out.lt).cell 0; have e1' := (HE8.out.drew.below hb9 HE8.out.lt).cell 1; simp at e0' e1')
          all_goals
            have HPS9 := hide (HPS8.out.drew.below hb9)
            have HBT9 := hide (HBT8.out.drew.trans (Bt.of hb9 X) HPS8.out.2.1)
            clear e0 e1 e0' e1' hb9 HPS8 HBT8 HPS7 HBT7 HE8 el
            go_wp2
            go_roundw
            case rel => exact ⟨j + 1, st', by omega, by go_num, HFO3.out, .inr hg', HPS9.out, HBT9.out⟩
            case measure => simp [intOf]; omega
      · have t0 : decide ((j : Int) < (n : Int)) = false := by simp; omega
        have hfo := HFO.out
        rw [List.drop_eq_nil_of_le (by have := HN.out; omega)] at hfo
        have hr0 := HP0.out
        rw [hfo] at hr0
        have hr1 : parseP s = if st.ended then .ok (poolOf st) else .error ((s.size : Int), 16) := hr0
        obtain ⟨q1, q2, v, hX, hD⟩ := HPS5.out
        obtain ⟨A5, cap5, rfl⟩ := hD.slice
        have x0 := hX.cell 0
        have x1 := hX.cell 1
        have x2 := hX.cell 2
        have x3 := hX.cell 3
        have x4 := hX.cell 4
        have x10 := hX.cell 10
        have hXl := hX.lt
        simp at x0 x1 x2 x3 x4 x10
        have p0 := HP5.out.cell 0
        have p1 := HP5.out.cell 1
        have p2 := HP5.out.cell 2
        have p3 := HP5.out.cell 3
        have p4 := HP5.out.cell 4
        simp at p0 p1 p2 p3 p4
        have fz := HP5.out.frozen
        have hP5l := HP5.out.lt
        have hXP : X ≠ w.heap.size := by omega
        have HB5 := hide (HB4.out.trans (HBX5.out.mono (by omega)))
        have HD := hide hD
        obtain ⟨u, hu⟩ : ∃ u, st.ended = u := ⟨_, rfl⟩
        rw [hu] at hr1 x10
        have HR1 := hide hr1
        clear hD hX hr0 hr1 hfo hu
        cases u with
        | false =>
          obtain ⟨q0, q1, q2, q3, q4, q5⟩ := setP_ok HP5.out HB5.out (Nat.le_refl _) (.int .i64 0) (.int .i64 0) (.int .i64 0) (.int .i64 0) (.slice none 0 0) rfl
          have HQ5 := hide q5
          clear q5
          go_wp2
          refine bodyPost_ret (v := .tuple #[.agg pool0, .int .i64 s.size, .int .i64 16]) (by simp [results, Try.results31, go_sem, q0, q1, q2, q3, q4]) rfl ?_
          rw [HR1.out]
          exact ⟨rfl, HQ5.out⟩
        | true =>
          obtain ⟨q0, q1, q2, q3, q4, q5⟩ := setP_ok HP5.out HB5.out (Nat.le_refl _) (.int .i64 st.tx) (.int .i64 st.time) (.int .i64 st.unit) (.int .i64 st.data) (.slice A5 st.devs.length cap5) rfl
          have HQ5 := hide q5
          have HDD := hide (((((HD.out.set_ (i := 0) HP5.out (by decide) (by decide) (.int .i64 st.tx)).set_ (i := 1) (HP5.out.set_ 0 _) (by decide) (by decide) (.int .i64 st.time)).set_ (i := 2) ((HP5.out.set_ 0 _).set_ 1 _) (by decide) (by decide) (.int .i64 st.unit)).set_ (i := 3) (((HP5.out.set_ 0 _).set_ 1 _).set_ 2 _) (by decide) (by decide) (.int .i64 st.data)).set_ (i := 4) ((((HP5.out.set_ 0 _).set_ 1 _).set_ 2 _).set_ 3 _) (by decide) (by decide) (.slice A5 st.devs.length cap5)).rd
          clear q5 HD
          go_wp2
          refine bodyPost_ret (v := .tuple #[.agg #[.int .i64 st.tx, .int .i64 st.time, .int .i64 st.unit, .int .i64 st.data, .slice A5 st.devs.length cap5], .int .i64 0, .int .i64 0]) (by simp [results, Try.results31, go_sem, q0, q1, q2, q3, q4]) rfl ?_
          rw [HR1.out]
          exact ⟨A5, cap5, rfl, HDD.out, HQ5.out⟩
abbrev ex1 : ByteArray := ⟨#[60, 115, 117, 112, 101, 114, 98, 108, 111, 99, 107, 32, 116, 105, 109, 101, 61, 34, 48, 34, 32, 116, 114, 97, 110, 115, 97, 99, 116, 105, 111, 110, 61, 34, 48, 34, 32, 100, 97, 116, 97, 95, 98, 108, 111, 99, 107, 95, 115, 105, 122, 101, 61, 34, 49, 34, 47, 62]⟩
abbrev ex2 : ByteArray := ⟨#[60, 115, 117, 112, 101, 114, 98, 108, 111, 99, 107, 32, 116, 105, 109, 101, 61, 34, 48, 34, 32, 116, 114, 97, 110, 115, 97, 99, 116, 105, 111, 110, 61, 34, 55, 34, 32, 100, 97, 116, 97, 95, 98, 108, 111, 99, 107, 95, 115, 105, 122, 101, 61, 34, 49, 34, 32, 110, 114, 95, 100, 97, 116, 97, 95, 98, 108, 111, 99, 107, 115, 61, 34, 51, 34, 47, 62]⟩
set_option maxRecDepth 100000 in
theorem ex1_parse : parseP ex1 = .error (0, 18) := by kernel_rfl
set_option maxRecDepth 100000 in
theorem ex2_parse : parseP ex2 = .ok (7, 0, 1, 3, []) := by kernel_rfl

set_option maxRecDepth 100000 in
set_option maxHeartbeats 4000000 in
theorem lives43_any (w : World) (hm : MaxL w) : Calls Try.prog 34 #[] w fun e w' => e = .returned (.bool true) ∧ Below w.heap.size w w' := by
  have hmp := hm.pos
  have h1 := Parse_any ex1 (by decide) w hm
  rw [ex1_parse] at h1
  have h2 : ∀ w', MaxL w' → Calls Try.prog 31 #[.string ex2] w' (ParseOut w' (.ok (7, 0, 1, 3, []))) := fun w' hm' => by
    have := Parse_any ex2 (by decide) w' hm'
    rw [ex2_parse] at this
    exact this
  have HM := hide hm
  clear hm
  go_enter Try.func34, Try.ntmps34
  go_wp2_with (fail)
  refine h1.mono ?_
  rintro e w1 ⟨rfl, hb1⟩
  have hb2 := hb1.alloc hb1.size (.cells #[.int .i64 0, .int .i64 0, .int .i64 0, .int .i64 0, .slice none 0 0] 66)
  clear h1
  go_wp2_with (fail)
  generalize (w1.alloc (.cells #[.int .i64 0, .int .i64 0, .int .i64 0, .int .i64 0, .slice none 0 0] 66)) = w2 at *
  refine (h2 w2 (HM.out.below hb2 hmp)).mono ?_
  rintro e w3 ⟨A, cap, rfl, hR, hb3⟩
  have hb4 := hb2.trans (hb3.mono hb2.size)
  have hb5 := hb4.alloc hb4.size (.cells #[.int .i64 7, .int .i64 0, .int .i64 1, .int .i64 3, .slice A 0 cap] 66)
  clear h2 hR hb1 hb3
  go_wp2
  go_ret
  exact ⟨rfl, hb5⟩

end Go.Proofs.Ytcblakflhheepaa
