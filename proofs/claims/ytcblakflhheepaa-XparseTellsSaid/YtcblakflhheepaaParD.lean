/- Chapter 43: the parser's memory: devices whose mappings are rows of the call's own. -/
import Derived.Test.YtcblakflhheepaaParC
import Derived.Test.YtcblakflhheepaaPlnA
namespace Go.Proofs.Ytcblakflhheepaa
open Go.RowKit
set_option linter.unusedVariables false
set_option linter.unusedSimpArgs false

abbrev Dr := Int × Int × Int × Int × (Option Addr × Nat × Nat)
abbrev drc (r : Dr) : List Value := [.int .i64 r.1, .int .i64 r.2.1, .int .i64 r.2.2.1, .int .i64 r.2.2.2.1, .slice r.2.2.2.2.1 r.2.2.2.2.2.1 r.2.2.2.2.2.2]
theorem drc_len (r : Dr) : (drc r).length = 5 := rfl
theorem drc_one (x : Dr) : ∀ u ∈ drc x, u.oneCell' = true := by
  intro u hu
  simp at hu
  rcases hu with rfl | rfl | rfl | rfl | rfl <;> rfl
theorem mc_len' (x : Mp) : (mc x).length = 3 := rfl
theorem mc_one' (x : Mp) : ∀ u ∈ mc x, u.oneCell' = true := by
  intro u hu
  simp [mc] at hu
  rcases hu with rfl | rfl | rfl <;> rfl
theorem infoDev : (Try.prog.info? 123).map (fun i => (i.zero, i.size, i.bytes)) = some (some (.agg #[.int .i64 0, .int .i64 0, .int .i64 0, .int .i64 0, .slice none 0 0]), 5, 56) := by kernel_rfl
theorem infoMpg : (Try.prog.info? 39).map (fun i => (i.zero, i.size, i.bytes)) = some (some (.agg #[.int .i64 0, .int .i64 0, .int .i64 0]), 3, 24) := by kernel_rfl

theorem own_own_cell {α β : Type} {w : World} {b b' sz sz' g n cap : Nat} {c : α → List Value} {c' : β → List Value} {v : Value} {l : List α} {l' : List β} (h : Own w b 39 sz c v l) (h' : Own w b' 123 sz' c' (.slice (some ⟨g, 0, none⟩) n cap) l') : v.ownBlock ≠ some g := by
  rcases own_own_ne h h' (by decide) with h1 | h1
  · rw [h1]; simp
  · simpa [Value.ownBlock] using h1
/-- Row r is device d, its mappings a row of the call's own, from block lo on. -/
def DrOk (w : World) (lo : Nat) (r : Dr) (d : Dv) : Prop :=
  r.1 = d.1 ∧ r.2.1 = d.2.1 ∧ r.2.2.1 = d.2.2.1 ∧ r.2.2.2.1 = d.2.2.2.1 ∧ Own w lo 39 3 mc (.slice r.2.2.2.2.1 r.2.2.2.2.2.1 r.2.2.2.2.2.2) d.2.2.2.2
def DrLt (hi : Nat) (r : Dr) : Prop := ∀ q, (Value.slice r.2.2.2.2.1 r.2.2.2.2.2.1 r.2.2.2.2.2.2).ownBlock = some q → q < hi
def MD (w : World) (lo : Nat) : List Dr → List Dv → Prop
  | [], [] => True
  | r :: rs, d :: ds => DrOk w lo r d ∧ MD w lo rs ds
  | _, _ => False
section
variable {w w' : World} {lo : Nat}
theorem MD.len : ∀ {rs : List Dr} {ds : List Dv}, MD w lo rs ds → rs.length = ds.length
  | [], [], _ => rfl
  | [], _ :: _, h => h.elim
  | _ :: _, [], h => h.elim
  | _ :: _, _ :: _, h => by simp [MD.len h.2]
theorem MD.snoc {r : Dr} {d : Dv} (h : DrOk w lo r d) : ∀ {rs : List Dr} {ds : List Dv}, MD w lo rs ds → MD w lo (rs ++ [r]) (ds ++ [d])
  | [], [], _ => ⟨h, trivial⟩
  | [], _ :: _, h' => h'.elim
  | _ :: _, [], h' => h'.elim
  | _ :: _, _ :: _, h' => ⟨h'.1, MD.snoc h h'.2⟩
theorem MD.keep : ∀ {rs : List Dr} {ds : List Dv}, (∀ r ∈ rs, ∀ l : List Mp, Own w lo 39 3 mc (.slice r.2.2.2.2.1 r.2.2.2.2.2.1 r.2.2.2.2.2.2) l → Own w' lo 39 3 mc (.slice r.2.2.2.2.1 r.2.2.2.2.2.1 r.2.2.2.2.2.2) l) → MD w lo rs ds → MD w' lo rs ds
  | [], [], _, _ => trivial
  | [], _ :: _, _, h => h.elim
  | _ :: _, [], _, h => h.elim
  | r :: _, _ :: _, hk, h => ⟨⟨h.1.1, h.1.2.1, h.1.2.2.1, h.1.2.2.2.1, hk r (by simp) _ h.1.2.2.2.2⟩, MD.keep (fun r hr => hk r (by simp [hr])) h.2⟩
theorem MD.get : ∀ {rs : List Dr} {ds : List Dv}, MD w lo rs ds → ∀ {i : Nat} {d : Dv}, ds[i]? = some d → ∃ r, rs[i]? = some r ∧ DrOk w lo r d
  | [], [], _, i, d, ht => by simp at ht
  | [], _ :: _, h, _, _, _ => h.elim
  | _ :: _, [], h, _, _, _ => h.elim
  | r :: _, _ :: _, h, 0, d, ht => ⟨r, rfl, by simp at ht; exact ht ▸ h.1⟩
  | _ :: _, _ :: _, h, i + 1, d, ht => MD.get h.2 (i := i) (by simpa using ht)
theorem DrOk.mono {lo' : Nat} {r : Dr} {d : Dv} (h : DrOk w lo r d) (hl : lo' ≤ lo) : DrOk w lo' r d := ⟨h.1, h.2.1, h.2.2.1, h.2.2.2.1, h.2.2.2.2.mono hl⟩
end

/-- The slice v holds the devices L: rows of the call's own; the last one's mappings lie beyond all others'. -/
def DV (w : World) (base : Nat) (v : Value) (L : List Dv) : Prop :=
  ∃ rows, Own w base 123 5 drc v rows ∧ ((L = [] ∧ rows = []) ∨ ∃ β ri rl li ll, base ≤ β ∧ β ≤ w.heap.size ∧ rows = ri ++ [rl] ∧ L = li ++ [ll] ∧ MD w base ri li ∧ (∀ r ∈ ri, DrLt β r) ∧ DrOk w β rl ll)
theorem DV.nil (w : World) (base : Nat) : DV w base (.slice none 0 0) [] := ⟨[], Own.nil _ _ _ _ _, .inl ⟨rfl, rfl⟩⟩
section
variable {w w' : World} {base : Nat} {v : Value} {L : List Dv}
theorem DV.len {A : Option Addr} {n cap : Nat} (h : DV w base (.slice A n cap) L) : n = L.length := by
  obtain ⟨rows, h1, h2⟩ := h
  rw [h1.len]
  rcases h2 with ⟨rfl, rfl⟩ | ⟨β, ri, rl, li, ll, _, _, rfl, rfl, hm, _⟩
  · rfl
  · simp [hm.len]
theorem DV.slice (h : DV w base v L) : ∃ A cap, v = .slice A L.length cap := by
  obtain ⟨rows, h1, h2⟩ := h
  obtain ⟨A, n, cap, rfl, hn, _⟩ := h1.rd drc_len
  have : DV w base (.slice A n cap) L := ⟨rows, h1, h2⟩
  exact ⟨A, cap, by rw [this.len]⟩
theorem DV.keep (h : DV w base v L) (hs : w.heap.size ≤ w'.heap.size) (hd : ∀ rows, Own w base 123 5 drc v rows → Own w' base 123 5 drc v rows)
    (hm : ∀ (lo : Nat) (v : Value) (l : List Mp), Own w lo 39 3 mc v l → Own w' lo 39 3 mc v l) : DV w' base v L := by
  obtain ⟨rows, h1, h2⟩ := h
  refine ⟨rows, hd _ h1, ?_⟩
  rcases h2 with h2 | ⟨β, ri, rl, li, ll, q1, q2, q3, q4, q5, q6, q7⟩
  · exact .inl h2
  · exact .inr ⟨β, ri, rl, li, ll, q1, by omega, q3, q4, q5.keep (fun r _ l ho => hm _ _ _ ho), q6, q7.1, q7.2.1, q7.2.2.1, q7.2.2.2.1, hm _ _ _ q7.2.2.2.2⟩
theorem DV.below (h : DV w base v L) (hb : Below w.heap.size w w') : DV w' base v L :=
  h.keep hb.size (fun _ ho => ho.below hb (fun q hq => (ho.lt q hq).2)) (fun _ _ _ ho => ho.below hb (fun q hq => (ho.lt q hq).2))
theorem DV.alloc (h : DV w base v L) (o : Obj) : DV (w.alloc o) base v L := h.keep (by simp) (fun _ ho => ho.alloc o) (fun _ _ _ ho => ho.alloc o)
theorem DV.set_ (h : DV w base v L) {g i : Nat} {t : TypeId} {cs : Array Value} (hg : Blk w g t cs) (h1 : t ≠ 123) (h2 : t ≠ 39) (u : Value) : DV (w.setCell ⟨g, i, none⟩ u) base v L :=
  h.keep (by simp) (fun _ ho => ho.setCell (p := ⟨g, i, none⟩) (own_blk_ne ho hg (Ne.symm h1)) u) (fun _ _ _ ho => ho.setCell (p := ⟨g, i, none⟩) (own_blk_ne ho hg (Ne.symm h2)) u)
theorem DV.drewN (h : DV w base v L) (n : Nat) : DV (w.drewN n) base v L := h.keep (Nat.le_refl _) (fun _ ho => ho.drewN n) (fun _ _ _ ho => ho.drewN n)
theorem DV.drew (h : DV w base v L) : DV w.drew base v L := h.keep (Nat.le_refl _) (fun _ ho => ho.drew) (fun _ _ _ ho => ho.drew)

/-- A new device, behind the others: append's law, at the state's words. -/
theorem DV.push {w5 w6 : World} {v' : Value} {rows : List Dr} {d : Dv} (hd : d.2.2.2.2 = []) (h1 : Own w5 base 123 5 drc v rows) (h : DV w5 base v L) (hrows : ∀ rows', Own w5 base 123 5 drc v rows' → rows' = rows)
    (hb : base ≤ w5.heap.size) (o : Obj) (hO : Own w6 base 123 5 drc v' (rows ++ [(d.1, d.2.1, d.2.2.1, d.2.2.2.1, (none, 0, 0))])) (hg : (w5.alloc o).grownBy w6 v.ownBlock) : DV w6 base v' (L ++ [d]) := by
  obtain ⟨rows', h2, h3⟩ := h
  obtain rfl := hrows _ h2
  have hm : ∀ (lo : Nat) (x : Value) (l : List Mp), Own w5 lo 39 3 mc x l → Own w6 lo 39 3 mc x l := fun lo x l ho => (ho.alloc o).grown hg (own_own_ne ho h2 (by decide))
  have hs : w5.heap.size ≤ w6.heap.size := by have := hg.size; simp at this; omega
  have hlast : DrOk w6 w5.heap.size (d.1, d.2.1, d.2.2.1, d.2.2.2.1, (none, 0, 0)) d := ⟨rfl, rfl, rfl, rfl, by rw [hd]; exact Own.nil _ _ _ _ _⟩
  refine ⟨_, hO, .inr ⟨w5.heap.size, rows', _, L, d, hb, hs, rfl, rfl, ?_, ?_, hlast⟩⟩
  · rcases h3 with ⟨rfl, rfl⟩ | ⟨β, ri, rl, li, ll, q1, q2, rfl, rfl, q5, q6, q7⟩
    · trivial
    · have hl : DrOk w6 β rl ll := ⟨q7.1, q7.2.1, q7.2.2.1, q7.2.2.2.1, hm _ _ _ q7.2.2.2.2⟩
      exact MD.snoc (hl.mono q1) (q5.keep (fun r _ l ho => hm _ _ _ ho))
  · rcases h3 with ⟨rfl, rfl⟩ | ⟨β, ri, rl, li, ll, q1, q2, rfl, rfl, q5, q6, q7⟩
    · intro r hr; simp at hr
    · intro r hr q hq
      rcases List.mem_append.1 hr with hr | hr
      · have := q6 r hr q hq; omega
      · rw [List.mem_singleton] at hr
        subst hr
        exact (q7.2.2.2.2.lt q hq).2
end
theorem own_inj {α : Type} {w : World} {base size : Nat} {e : TypeId} {c : α → List Value} {v : Value} {l l' : List α} (hc : ∀ x y, c x = c y → x = y) (hl : ∀ x, (c x).length = size) (hsz : 0 < size) (h : Own w base e size c v l) (h' : Own w base e size c v l') : l = l' := by
  have e1 : l.length = l'.length := by
    obtain ⟨A, n, cap, rfl, hn, _⟩ := h.rd hl
    rw [← h.len, ← h'.len]
  have e2 : l.flatMap c = l'.flatMap c := by
    rcases h.2 with ⟨h1, h2⟩ | ⟨g, cap, cur, hv, _, hh, _, _, _, ht⟩
    · have : l = [] := List.eq_nil_of_length_eq_zero h2
      have h3 : l' = [] := List.eq_nil_of_length_eq_zero (by rw [← e1, this]; rfl)
      rw [this, h3]
    · rcases h'.2 with ⟨h1, h2⟩ | ⟨g', cap', cur', hv', _, hh', _, _, _, ht'⟩
      · rw [h1] at hv; injection hv with h3; cases h3
      · rw [hv] at hv'
        injection hv' with h3 h4 h5
        injection h3 with h3
        injection h3 with h3
        subst h3
        rw [hh] at hh'
        injection hh' with hh'
        injection hh' with hh'
        rw [← ht, ← ht', hh', e1]
  clear h h'
  induction l generalizing l' with
  | nil => cases l' with
    | nil => rfl
    | cons y l' => simp at e1
  | cons x l ih => cases l' with
    | nil => simp at e1
    | cons y l' =>
      simp only [List.flatMap_cons] at e2
      have h1 := List.append_inj e2 (by rw [hl, hl])
      rw [hc x y h1.1, ih (by simpa using e1) h1.2]
theorem drc_inj (x y : Dr) (h : drc x = drc y) : x = y := by
  obtain ⟨a1, a2, a3, a4, a5, a6, a7⟩ := x
  obtain ⟨b1, b2, b3, b4, b5, b6, b7⟩ := y
  simp at h
  obtain ⟨rfl, rfl, rfl, rfl, rfl, rfl, rfl⟩ := h
  rfl
/-- The slice as a slice of devices that are read. -/
theorem DV.rd {w : World} {base n cap : Nat} {A : Option Addr} {L : List Dv} (h : DV w base (.slice A n cap) L) : RdD w w.heap.size A L := by
  obtain ⟨rows, h1, h2⟩ := h
  have hall : MD w base rows L := by
    rcases h2 with ⟨rfl, rfl⟩ | ⟨β, ri, rl, li, ll, q1, q2, rfl, rfl, q5, q6, q7⟩
    · trivial
    · exact MD.snoc (q7.mono q1) q5
  intro i d hd
  obtain ⟨r, hr, e1, e2, e3, e4, ho⟩ := hall.get hd
  obtain ⟨A1, n1, cap1, he, hn, hrd⟩ := h1.rd drc_len
  injection he with x1 x2 x3
  subst x1
  obtain ⟨b, off, hA, hb, hc⟩ := hrd i r hr
  obtain ⟨A2, n2, cap2, he2, hn2, hrd2⟩ := ho.rd mc_len'
  injection he2 with y1 y2 y3
  refine ⟨b, off, A2, cap2, hA, hb, ?_, ?_, ?_, ?_, ?_, hrd2⟩
  · have := hc 0 _ rfl; simpa [e1] using this
  · have := hc 1 _ rfl; simpa [e2] using this
  · have := hc 2 _ rfl; simpa [e3] using this
  · have := hc 3 _ rfl; simpa [e4] using this
  · have := hc 4 _ rfl; rw [this, y1, y2, y3, hn2]

/-- Block k is a row of devices or of mappings. -/
def RowAt (w : World) (k : Nat) : Prop := ∃ cs t fr, w.heap[k]? = some (.cells cs t fr) ∧ (t = 123 ∨ t = 39)
/-- But, and every old block but X that is no row of devices or mappings stands. -/
structure Bt (B X : Nat) (w w' : World) : Prop where
  but : But B X w w'
  calm : ∀ k, k < w.heap.size → k ≠ X → ¬ RowAt w k → w'.heap[k]? = w.heap[k]?
section
variable {B C X : Nat} {a b c : World}
theorem RowAt.of_eq {k : Nat} (h : b.heap[k]? = a.heap[k]?) (hn : ¬ RowAt a k) : ¬ RowAt b k := by
  rintro ⟨cs, t, fr, h1, h2⟩
  exact hn ⟨cs, t, fr, h ▸ h1, h2⟩
theorem Bt.refl (B X : Nat) (w : World) : Bt B X w w := ⟨But.refl B X w, fun _ _ _ _ => rfl⟩
theorem Bt.of (h : Below a.heap.size a b) (X : Nat) : Bt a.heap.size X a b := ⟨But.of h X, fun k hk _ _ => h.block k hk⟩
theorem Bt.mono (h : Bt B X a b) (hC : C ≤ B) : Bt C X a b := ⟨h.but.mono hC, h.calm⟩
theorem Bt.size (h : Bt B X a b) : a.heap.size ≤ b.heap.size := h.but.size
theorem Bt.trans (h : Bt B X a b) (k : Bt C X b c) (hC : B ≤ C) : Bt B X a c :=
  ⟨h.but.trans k.but hC, fun i hi hne hr => (k.calm i (by have := h.size; omega) hne (RowAt.of_eq (h.calm i hi hne hr) hr)).trans (h.calm i hi hne hr)⟩
theorem Bt.drewN (h : Bt B X a b) (n : Nat) : Bt B X a (b.drewN n) := ⟨h.but.drewN n, h.calm⟩
theorem Bt.drew (h : Bt B X a b) : Bt B X a b.drew := ⟨h.but.drew, h.calm⟩
theorem Bt.self (h : Bt B X a b) (i : Nat) (v : Value) : Bt B X a (b.setCell ⟨X, i, none⟩ v) :=
  ⟨h.but.self i v, fun k hk hne hr => (Below.heap_setCell _ _ _ k hne).trans (h.calm k hk hne hr)⟩
theorem Bt.setCell (h : Bt B X a b) {p : Addr} (hp : B ≤ p.block ∧ a.heap.size ≤ p.block) (v : Value) : Bt B X a (b.setCell p v) :=
  ⟨h.but.setCell hp.1 v, fun k hk hne hr => (Below.heap_setCell _ _ _ k (by omega)).trans (h.calm k hk hne hr)⟩
theorem Bt.setRow (h : Bt B X a b) {p : Addr} (hp : B ≤ p.block) (hR : RowAt b p.block) (v : Value) : Bt B X a (b.setCell p v) :=
  ⟨h.but.setCell hp v, fun k hk hne hr => (Below.heap_setCell _ _ _ k (by rintro rfl; exact RowAt.of_eq (h.calm _ hk hne hr) hr hR)).trans (h.calm k hk hne hr)⟩
theorem Bt.alloc (h : Bt B X a b) (hB : B ≤ b.heap.size) (o : Obj) : Bt B X a (b.alloc o) :=
  ⟨h.but.alloc hB o, fun k hk hne hr => (Below.heap_alloc _ _ k (by have := h.size; omega)).trans (h.calm k hk hne hr)⟩
theorem Bt.grown {row : Option Nat} (h : Bt B X a b) (hg : b.grownBy c row) (hB : B ≤ b.heap.size) (hr : ∀ k, row = some k → B ≤ k ∧ RowAt b k) : Bt B X a c :=
  ⟨h.but.grown hg hB (fun k hk => (hr k hk).1), fun k hk hne hn => (hg.block k (by have := h.size; omega) (by intro e; exact RowAt.of_eq (h.calm k hk hne hn) hn (hr k e.symm).2)).trans (h.calm k hk hne hn)⟩
end
theorem Own.rowAt {α : Type} {w : World} {base size : Nat} {e : TypeId} {c : α → List Value} {v : Value} {l : List α} (h : Own w base e size c v l) (he : e = 123 ∨ e = 39) {k : Nat} (hk : v.ownBlock = some k) : RowAt w k := by
  rcases h.2 with ⟨rfl, _⟩ | ⟨g, cap, cur, rfl, _, hh, _⟩
  · simp [Value.ownBlock] at hk
  · simp [Value.ownBlock] at hk
    subst hk
    exact ⟨_, _, _, hh, he⟩

/-- The last device's mappings, and how the state turns when they grow by one. -/
theorem DV.last {w : World} {base : Nat} {v : Value} {li : List Dv} {ll : Dv} (h : DV w base v (li ++ [ll])) :
    ∃ g cap β A n c, v = .slice (some ⟨g, 0, none⟩) (li.length + 1) cap ∧ base ≤ g ∧ g < w.heap.size ∧ base ≤ β ∧ β ≤ w.heap.size ∧ w.cell? ⟨g, li.length * 5, none⟩ = some (.int .i64 ll.1) ∧ w.cell? ⟨g, li.length * 5 + 4, none⟩ = some (.slice A n c) ∧ w.frozen? ⟨g, li.length * 5 + 4, none⟩ = false ∧
      Own w β 39 3 mc (.slice A n c) ll.2.2.2.2 ∧
      ∀ (w6 : World) (o : Obj) (m : Mp) (v' : Value), Own w6 β 39 3 mc v' (ll.2.2.2.2 ++ [m]) → (∃ A' n' c', v' = .slice A' n' c') → (w.alloc o).grownBy w6 (Value.slice A n c).ownBlock →
        w6.cell? ⟨g, li.length * 5 + 4, none⟩ = some (.slice A n c) ∧ w6.frozen? ⟨g, li.length * 5 + 4, none⟩ = false ∧ DV (w6.setCell ⟨g, li.length * 5 + 4, none⟩ v') base v (li ++ [(ll.1, ll.2.1, ll.2.2.1, ll.2.2.2.1, ll.2.2.2.2 ++ [m])]) ∧
        ∀ (W : World) (X : Nat), Bt base X W w → Bt base X W (w6.setCell ⟨g, li.length * 5 + 4, none⟩ v') := by
  obtain ⟨rows, h1, h2⟩ := h
  rcases h2 with ⟨h2, _⟩ | ⟨β, ri, rl, li', ll', q1, q2, rfl, hL, q5, q6, q7⟩
  · simp at h2
  · have hL2 := List.append_inj' hL rfl
    obtain ⟨rfl, hl⟩ := hL2
    obtain rfl : ll = ll' := by simpa using hl
    have hlen := q5.len
    obtain ⟨A0, n0, cap0, rfl, hn0, hrd⟩ := h1.rd drc_len
    have hrl : (ri ++ [rl])[li.length]? = some rl := by rw [← hlen]; simp
    obtain ⟨g, off, rfl, hg, hc⟩ := hrd li.length rl hrl
    obtain ⟨g', hg'⟩ : ∃ g', (some (⟨g, off, none⟩ : Addr)) = some ⟨g', 0, none⟩ := by
      rcases h1.2 with ⟨hx, _⟩ | ⟨g', _, _, hv, _⟩
      · injection hx with hx; cases hx
      · injection hv with hv; exact ⟨g', hv⟩
    injection hg' with hg'
    injection hg' with x1 x2
    subst x1; subst x2
    have hn1 : n0 = li.length + 1 := by rw [hn0]; simp [hlen]
    subst hn1
    have hgb : base ≤ g := (h1.lt g (by simp [Value.ownBlock])).1
    obtain ⟨e1, e2, e3, e4, ho⟩ := q7
    have c0 := hc 0 _ rfl
    have c4 := hc 4 _ rfl
    simp only [Nat.zero_add, Nat.add_zero] at c0 c4
    refine ⟨g, cap0, β, rl.2.2.2.2.1, rl.2.2.2.2.2.1, rl.2.2.2.2.2.2, rfl, hgb, hg, q1, q2, by rw [c0, e1], c4, Own.frozen h1 _, ho, ?_⟩
    intro w6 o m v' hO6 hv' hg6
    obtain ⟨A', n', c', rfl⟩ := hv'
    have hdev : Own w6 base 123 5 drc (.slice (some ⟨g, 0, none⟩) (li.length + 1) cap0) (ri ++ [rl]) := (h1.alloc o).grown hg6 (own_own_ne h1 ho (by decide))
    refine ⟨?_, Own.frozen hdev _, ⟨(ri ++ [rl]).set li.length (rl.1, rl.2.1, rl.2.2.1, rl.2.2.2.1, (A', n', c')), ?_, .inr ⟨β, ri, (rl.1, rl.2.1, rl.2.2.1, rl.2.2.2.1, (A', n', c')), li, _, q1, ?_, ?_, rfl, ?_, q6, ?_⟩⟩, ?_⟩
    · exact Own.cell hdev drc_len hrl rfl
    · exact Own.set_ hdev drc_len hrl (by decide) rfl
    · have := hg6.size; simp at this ⊢; omega
    · rw [← hlen]; simp
    · refine q5.keep (fun r hr l hol => ?_)
      have h3 : Own w6 base 39 3 mc (.slice r.2.2.2.2.1 r.2.2.2.2.2.1 r.2.2.2.2.2.2) l := by
        refine (hol.alloc o).grown hg6 ?_
        cases hq : (Value.slice r.2.2.2.2.1 r.2.2.2.2.2.1 r.2.2.2.2.2.2).ownBlock with
        | none => exact .inl rfl
        | some q =>
          refine .inr fun he => ?_
          have h4 := q6 r hr q hq
          have h5 := (ho.lt q he.symm).1
          omega
      exact h3.setCell (p := ⟨g, li.length * 5 + 4, none⟩) (own_own_cell h3 hdev) _
    · exact ⟨e1, e2, e3, e4, hO6.setCell (p := ⟨g, li.length * 5 + 4, none⟩) (own_own_cell hO6 hdev) _⟩
    · intro W X hb
      have hbw : Bt base X W (w.alloc o) := hb.alloc (by have := (h1.lt g (by simp [Value.ownBlock])).2; omega) o
      exact (hbw.grown hg6 (by simp; omega) (fun k hk => ⟨by have := (ho.lt k hk).1; omega, (ho.alloc o).rowAt (.inr rfl) hk⟩)).setRow (p := ⟨g, li.length * 5 + 4, none⟩) hgb (hdev.rowAt (.inl rfl) (by simp [Value.ownBlock])) _
end Go.Proofs.Ytcblakflhheepaa
