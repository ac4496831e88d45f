/- Words and small lemmas that all walks of this seat use: slices that read as lists, kept from the walk facts, the append of one element to a row of the call's own. -/
import Derived.Test.YtcblakflhheepaaProg
import Derived.KernelRfl
import Derived.WalkKit
import Derived.WalkLawsBesides
import Derived.WalkSpells
import Derived.Deep.QuietTactic
import Derived.BigQuiet
import Derived.Maps.AppendAt
import Derived.Deep.AppendLies
import Derived.Deep.RegionHeld3
import Derived.Deep.DrawnRows
import Derived.StillTailTactics
import Derived.Deep.DeepMust
import Derived.Deep.DeepCutAuto
import Derived.Deep.LoopGhost
import Derived.Deep.Light
namespace Go.Proofs.Ytcblakflhheepaa
open Go.RowKit

theorem hide {p : Prop} (h : p) : Hid p := h

/-- The slice at address A holds the elements l, each as the cells c gives, below block B. -/
def Rd {α : Type} (w : World) (B size : Nat) (c : α → List Value) (A : Option Addr) (l : List α) : Prop :=
  ∀ i x, l[i]? = some x → ∃ b off, A = some ⟨b, off, none⟩ ∧ b < B ∧ ∀ j u, (c x)[j]? = some u → w.cell? ⟨b, off + i * size + j, none⟩ = some u

section
variable {α : Type} {w w' : World} {B B' size : Nat} {c : α → List Value} {A : Option Addr} {l : List α}
theorem Rd.below (h : Rd w B size c A l) (hb : Below B w w') : Rd w' B size c A l := by
  intro i x hx
  obtain ⟨b, off, hA, hB, hc⟩ := h i x hx
  exact ⟨b, off, hA, hB, fun j u hu => (hb.cell (p := ⟨b, _, none⟩) hB).trans (hc j u hu)⟩
theorem Rd.mono (h : Rd w B size c A l) (hB : B ≤ B') : Rd w B' size c A l := by
  intro i x hx
  obtain ⟨b, off, hA, hb, hc⟩ := h i x hx
  exact ⟨b, off, hA, by omega, hc⟩
theorem Rd.keep (h : Rd w B size c A l) (hk : ∀ p : Addr, p.block < B → w'.cell? p = w.cell? p) : Rd w' B size c A l := by
  intro i x hx
  obtain ⟨b, off, hA, hB, hc⟩ := h i x hx
  exact ⟨b, off, hA, hB, fun j u hu => (hk ⟨b, _, none⟩ hB).trans (hc j u hu)⟩
theorem Rd.nil : Rd w B size c A [] := by
  intro i x hx
  simp at hx
end

theorem get_of_lt {α : Type} {l : List α} {k : Nat} (h : k < l.length) : ∃ x, l[k]? = some x := ⟨l[k], List.getElem?_eq_getElem h⟩
theorem lt_of_get {α : Type} {l : List α} {k : Nat} {x : α} (h : l[k]? = some x) : k < l.length := (List.getElem?_eq_some_iff.1 h).1
theorem take_step {α : Type} {l : List α} {k : Nat} {x : α} (h : l[k]? = some x) : l.take (k + 1) = l.take k ++ [x] := by
  rw [List.take_add_one, h]; rfl
theorem drop_step {α : Type} {l : List α} {k : Nat} {x : α} (h : l[k]? = some x) : l.drop k = x :: l.drop (k + 1) := by
  obtain ⟨hk, e⟩ := List.getElem?_eq_some_iff.1 h
  rw [List.drop_eq_getElem_cons hk, e]
theorem drewN_below {B : Nat} {a w : World} (h : Below B a w) (n : Nat) : Below B a (w.drewN n) := ⟨h.os, h.tape, h.output, h.size, h.block⟩
theorem ret_bool {a b : Bool} (h : a = b) : Ending.returned (.bool a) = .returned (.bool b) := by rw [h]
theorem ret_int {k : IntKind} {a b : Int} (h : a = b) : Ending.returned (.int k a) = .returned (.int k b) := by rw [h]

/-- What a region that draws its order keeps: the blocks below n are as in W (written out as three rules for the walk). -/
theorem held_refl (n : Nat) (W : World) : Below n W W ∧ (∀ b o, b < n → W.cell? ⟨b, o, none⟩ = W.cell? ⟨b, o, none⟩) ∧ (∀ b o, b < n → W.frozen? ⟨b, o, none⟩ = W.frozen? ⟨b, o, none⟩) := ⟨Below.refl _ _, fun _ _ _ => rfl, fun _ _ _ => rfl⟩
theorem held_of {n : Nat} {W w : World} (h : Below n W w) : Below n W w ∧ (∀ b o, b < n → w.cell? ⟨b, o, none⟩ = W.cell? ⟨b, o, none⟩) ∧ (∀ b o, b < n → w.frozen? ⟨b, o, none⟩ = W.frozen? ⟨b, o, none⟩) :=
  ⟨h, fun b o hb => h.cell (p := ⟨b, o, none⟩) hb, fun b o hb => h.frozen (p := ⟨b, o, none⟩) hb⟩
theorem held_drew {n : Nat} {W : World} : Below n W W.drew ∧ (∀ b o, b < n → W.drew.cell? ⟨b, o, none⟩ = W.cell? ⟨b, o, none⟩) ∧ (∀ b o, b < n → W.drew.frozen? ⟨b, o, none⟩ = W.frozen? ⟨b, o, none⟩) :=
  held_of (Below.refl n W).drew
theorem held_trans {n m : Nat} {W w w' : World} (h : Below n W w ∧ (∀ b o, b < n → w.cell? ⟨b, o, none⟩ = W.cell? ⟨b, o, none⟩) ∧ (∀ b o, b < n → w.frozen? ⟨b, o, none⟩ = W.frozen? ⟨b, o, none⟩)) (h2 : Below m w w') (hm : n ≤ m) :
    Below n W w' ∧ (∀ b o, b < n → w'.cell? ⟨b, o, none⟩ = W.cell? ⟨b, o, none⟩) ∧ (∀ b o, b < n → w'.frozen? ⟨b, o, none⟩ = W.frozen? ⟨b, o, none⟩) := held_of (h.1.trans (h2.mono hm))

theorem held_grown {n : Nat} {W w0 w1 : World} {row : Option Nat} (h : Below n W w0) (hg : w0.grownBy w1 row) (hn : n ≤ w0.heap.size) (hr : ∀ k, row = some k → n ≤ k) :
    Below n W w1 ∧ (∀ b o, b < n → w1.cell? ⟨b, o, none⟩ = W.cell? ⟨b, o, none⟩) ∧ (∀ b o, b < n → w1.frozen? ⟨b, o, none⟩ = W.frozen? ⟨b, o, none⟩) := held_of (h.grown hg hn hr)

/-- Block g is the cells cs of type t, none frozen. -/
def Blk (w : World) (g : Nat) (t : TypeId) (cs : Array Value) : Prop := w.heap[g]? = some (.cells cs t (0, 0))
section
variable {w w' : World} {g : Nat} {t : TypeId} {cs : Array Value}
theorem Blk.lt (h : Blk w g t cs) : g < w.heap.size := by
  rcases Nat.lt_or_ge g w.heap.size with hlt | hge
  · exact hlt
  · unfold Blk at h; rw [Array.getElem?_eq_none hge] at h; cases h
theorem Blk.cell (h : Blk w g t cs) (i : Nat) : w.cell? ⟨g, i, none⟩ = cs[i]? := cell_of_row w g i cs t (0, 0) h
theorem Blk.frozen (h : Blk w g t cs) (i : Nat) : w.frozen? ⟨g, i, none⟩ = false := by
  unfold Blk at h
  simp [World.frozen?, h]
theorem Blk.new (w : World) (t : TypeId) (cs : Array Value) : Blk (w.alloc (.cells cs t)) w.heap.size t cs := heap_alloc_new w _
theorem Blk.drew (h : Blk w g t cs) : Blk w.drew g t cs := h
theorem Blk.drewN (h : Blk w g t cs) (n : Nat) : Blk (w.drewN n) g t cs := h
theorem Blk.alloc (h : Blk w g t cs) (o : Obj) : Blk (w.alloc o) g t cs := (Below.heap_alloc w o g h.lt).trans h
theorem Blk.set_ (h : Blk w g t cs) (i : Nat) (u : Value) : Blk (w.setCell ⟨g, i, none⟩ u) g t (cs.setIfInBounds i u) := by
  unfold Blk at h ⊢
  simp [World.setCell, Array.getElem?_modify, h]
theorem Blk.far (h : Blk w g t cs) {p : Addr} (hp : g ≠ p.block) (u : Value) : Blk (w.setCell p u) g t cs := (Below.heap_setCell w p u g hp).trans h
theorem Blk.below {B : Nat} (h : Blk w g t cs) (hb : Below B w w') (hg : g < B) : Blk w' g t cs := (hb.block g hg).trans h
theorem Blk.grown {row : Option Nat} (h : Blk w g t cs) (hb : w.grownBy w' row) (hg : some g ≠ row) : Blk w' g t cs := (hb.block g h.lt hg).trans h
theorem Blk.ne_ {g' : Nat} {t' : TypeId} {cs' : Array Value} (h : Blk w g t cs) (h' : Blk w g' t' cs') (hne : t ≠ t') : g ≠ g' := by
  rintro rfl
  unfold Blk at h h'
  rw [h] at h'
  injection h' with h'
  injection h' with _ ht
  exact hne ht
theorem own_blk_ne {base : Nat} {e : TypeId} {size n : Nat} {v : Value} {xs : List Value} (h : w.ownsRow base e size v n xs) (hg : Blk w g t cs) (hne : e ≠ t) : v.ownBlock ≠ some g := by
  rcases h.2 with ⟨rfl, _⟩ | ⟨g', cap, cur, rfl, _, hh, _⟩
  · simp [Value.ownBlock]
  · intro he
    have : g' = g := by simpa [Value.ownBlock] using he
    subst this
    exact Blk.ne_ (t := e) hh hg hne rfl
end

theorem heap_new_at {w : World} {o : Obj} {k : Nat} (h : k = w.heap.size) : (w.alloc o).heap[k]? = some o := by rw [h]; exact heap_alloc_new w o

/-- A row of the call's own that holds the elements l. -/
def Own {α : Type} (w : World) (base : Nat) (e : TypeId) (size : Nat) (c : α → List Value) (v : Value) (l : List α) : Prop := w.ownsRow base e size v l.length (l.flatMap c)

theorem flat_get {α : Type} {c : α → List Value} {size : Nat} (hc : ∀ x, (c x).length = size) : ∀ (l : List α) (i : Nat) (x : α) (j : Nat) (u : Value), l[i]? = some x → (c x)[j]? = some u → (l.flatMap c)[i * size + j]? = some u
  | [], i, x, j, u, h, _ => by simp at h
  | y :: l, 0, x, j, u, h, hu => by
    obtain rfl : y = x := by simpa using h
    have hj : j < (c y).length := lt_of_get hu
    simp only [List.flatMap_cons, Nat.zero_mul, Nat.zero_add]
    rw [List.getElem?_append_left hj]
    exact hu
  | y :: l, i + 1, x, j, u, h, hu => by
    have hl := hc y
    simp only [List.flatMap_cons]
    rw [List.getElem?_append_right (by rw [hl, Nat.add_mul]; omega), hl, show (i + 1) * size + j - size = i * size + j by rw [Nat.add_mul]; omega]
    exact flat_get hc l i x j u (by simpa using h) hu

section
variable {α : Type} {w w' : World} {base B size : Nat} {e : TypeId} {c : α → List Value} {v : Value} {l : List α}
theorem Own.rd (h : Own w base e size c v l) (hc : ∀ x, (c x).length = size) : ∃ A n cap, v = .slice A n cap ∧ n = l.length ∧ Rd w w.heap.size size c A l := by
  rcases h.2 with ⟨rfl, hn⟩ | ⟨g, cap, cur, rfl, hb, hg, hnc, hcm, hcs, ht⟩
  · exact ⟨none, 0, 0, rfl, hn.symm, by
      have : l = [] := List.eq_nil_of_length_eq_zero hn
      rw [this]; exact Rd.nil⟩
  · refine ⟨_, _, _, rfl, rfl, fun i x hx => ⟨g, 0, rfl, ?_, fun j u hu => ?_⟩⟩
    · exact (Array.getElem?_eq_some_iff.1 hg).1
    · have h1 := flat_get hc l i x j u hx hu
      have h2 := World.ownsRow.cells h (g := g) rfl _ u h1
      rw [Addr.add_lit] at h2
      simpa [Nat.add_assoc] using h2
theorem Own.nil (w : World) (base : Nat) (e : TypeId) (size : Nat) (c : α → List Value) : Own w base e size c (.slice none 0 0) [] := World.ownsRow_nil _ _ _ _
theorem Own.drew (h : Own w base e size c v l) : Own w.drew base e size c v l := h
theorem Own.drewN (h : Own w base e size c v l) (n : Nat) : Own (w.drewN n) base e size c v l := h
theorem Own.alloc (h : Own w base e size c v l) (o : Obj) : Own (w.alloc o) base e size c v l := World.ownsRow.alloc h o
theorem Own.keep (h : Own w base e size c v l) (hk : ∀ k, v.ownBlock = some k → w'.heap[k]? = w.heap[k]?) : Own w' base e size c v l := by
  refine ⟨h.1, ?_⟩
  rcases h.2 with h2 | ⟨g, cap, cur, hv, hg, hh, r⟩
  · exact Or.inl h2
  · exact Or.inr ⟨g, cap, cur, hv, hg, by rw [hk g (by rw [hv]; rfl)]; exact hh, r⟩
theorem Own.below {B : Nat} (h : Own w base e size c v l) (hb : Below B w w') (hv : ∀ k, v.ownBlock = some k → k < B) : Own w' base e size c v l :=
  h.keep fun k hk => hb.block k (hv k hk)
theorem Own.lt (h : Own w base e size c v l) : ∀ k, v.ownBlock = some k → base ≤ k ∧ k < w.heap.size := World.ownsRow.lt h
theorem Own.setCell (h : Own w base e size c v l) {p : Addr} (hp : v.ownBlock ≠ some p.block) (u : Value) : Own (w.setCell p u) base e size c v l :=
  h.keep fun k hk => Below.heap_setCell _ _ _ _ (by rintro rfl; exact hp hk)
theorem Own.grown {row : Option Nat} (h : Own w base e size c v l) (hg : w.grownBy w' row) (hne : v.ownBlock = none ∨ v.ownBlock ≠ row) : Own w' base e size c v l := World.ownsRow.kept h hg hne
theorem Own.mono {base' : Nat} (h : Own w base e size c v l) (hb : base' ≤ base) : Own w base' e size c v l := by
  refine ⟨h.1, ?_⟩
  rcases h.2 with h2 | ⟨g, cap, cur, hv, hg, r⟩
  · exact Or.inl h2
  · exact Or.inr ⟨g, cap, cur, hv, by omega, r⟩
end

theorem flat_set {α : Type} {c : α → List Value} {size : Nat} (hc : ∀ x, (c x).length = size) {a a' : α} {j : Nat} {u : Value} (hj : j < size) (ha : c a' = (c a).set j u) :
    ∀ (l : List α) (i : Nat), l[i]? = some a → (l.set i a').flatMap c = (l.flatMap c).set (i * size + j) u
  | [], i, h => by simp at h
  | y :: l, 0, h => by
    obtain rfl : y = a := by simpa using h
    simp only [List.set_cons_zero, List.flatMap_cons, Nat.zero_mul, Nat.zero_add]
    rw [List.set_append_left _ _ (by rw [hc]; exact hj), ha]
  | y :: l, i + 1, h => by
    simp only [List.set_cons_succ, List.flatMap_cons]
    rw [List.set_append_right _ _ (by rw [hc, Nat.add_mul]; omega), hc, show (i + 1) * size + j - size = i * size + j by rw [Nat.add_mul]; omega]
    rw [flat_set hc hj ha l i (by simpa using h)]

/-- A store into a field of an element of a row of the call's own. -/
theorem Own.set_ {α : Type} {w : World} {base size g n cap : Nat} {e : TypeId} {c : α → List Value} {l : List α} (h : Own w base e size c (.slice (some ⟨g, 0, none⟩) n cap) l) (hc : ∀ x, (c x).length = size)
    {i j : Nat} {a a' : α} {u : Value} (hi : l[i]? = some a) (hj : j < size) (ha : c a' = (c a).set j u) :
    Own (w.setCell ⟨g, i * size + j, none⟩ u) base e size c (.slice (some ⟨g, 0, none⟩) n cap) (l.set i a') := by
  refine ⟨?_, ?_⟩
  · rw [flat_set hc hj ha l i hi, List.length_set, List.length_set]; exact h.1
  · rcases h.2 with ⟨h1, _⟩ | ⟨g', cap', cur, hv, hb, hg, hnc, hcm, hcs, ht⟩
    · injection h1 with h1; cases h1
    · injection hv with h1 h2 h3
      injection h1 with h1
      injection h1 with h1
      subst h1; subst h2; subst h3
      refine Or.inr ⟨g, cap, cur.setIfInBounds (i * size + j) u, by rw [List.length_set], hb, ?_, by rw [List.length_set]; exact hnc, hcm, by simpa using hcs, ?_⟩
      · simp [World.setCell, Array.getElem?_modify, hg]
      · rw [flat_set hc hj ha l i hi, List.length_set, ← ht, Array.toList_setIfInBounds, List.take_set]

theorem Own.cell {α : Type} {w : World} {base size g n cap : Nat} {e : TypeId} {c : α → List Value} {l : List α} (h : Own w base e size c (.slice (some ⟨g, 0, none⟩) n cap) l) (hc : ∀ x, (c x).length = size)
    {i j : Nat} {a : α} {u : Value} (hi : l[i]? = some a) (hu : (c a)[j]? = some u) : w.cell? ⟨g, i * size + j, none⟩ = some u := by
  have h1 := flat_get hc l i a j u hi hu
  have h2 := World.ownsRow.cells h (g := g) rfl _ u h1
  rw [Addr.add_lit] at h2
  simpa using h2
theorem Own.frozen {α : Type} {w : World} {base size g n cap : Nat} {e : TypeId} {c : α → List Value} {l : List α} (h : Own w base e size c (.slice (some ⟨g, 0, none⟩) n cap) l) (o : Nat) : w.frozen? ⟨g, o, none⟩ = false := by
  rcases h.2 with ⟨h1, _⟩ | ⟨g', cap', cur, hv, hb, hg, _⟩
  · injection h1 with h1; cases h1
  · injection hv with h1 h2 h3
    injection h1 with h1
    injection h1 with h1
    subst h1
    simp [World.frozen?, hg]
theorem Own.len {α : Type} {w : World} {base size n cap : Nat} {A : Option Addr} {e : TypeId} {c : α → List Value} {l : List α} (h : Own w base e size c (.slice A n cap) l) : n = l.length := by
  rcases h.2 with ⟨h1, h2⟩ | ⟨g', cap', cur, hv, _⟩
  · injection h1 with _ h1; omega
  · injection hv with _ h1

/-- 'out = append(out, x)' of one element that lies in a block b of its own, onto a row of the call's own. -/
theorem wpList_append1 {α : Type} {P : Program} (w : World) {ops : Array Oper} {rest : List Oper} {o : Oper} {a : Act} {Q : Exit → Act → World → Prop} (hgd : o.guard = none) (s x : Operand) (t : TypeId)
    (ho : o.op = .call { callee := .builtin .append, args := #[s, x], argTypes := #[t, t] })
    {base : Nat} {e : TypeId} {z : Value} {size bytes : Nat} (ht : P.underlying t = some (.slice e)) (hinfo : (P.info? e).map (fun i => (i.zero, i.size, i.bytes)) = some (some z, size, bytes)) (hzs : z.cells.size = size) (hsz : 0 < size)
    {c : α → List Value} (hc : ∀ x, (c x).length = size) (h1 : ∀ x, ∀ u ∈ c x, u.oneCell' = true)
    {v : Value} {l : List α} (hs : a.eval s = v) (hown : Own w base e size c v l) (y : α) (b cap : Nat) (hx : a.eval x = .slice (some ⟨b, 0, none⟩) 1 cap) (hb : ∃ et fr, w.heap[b]? = some (.cells (c y).toArray et fr))
    (hbytes : (l.length + 1) * bytes ≤ 140737488355328) (hlen : l.length + 1 ≤ 140737488355328) (hbase : base ≤ w.heap.size)
    (h : ∀ g cap w', Own w' base e size c (.slice (some ⟨g, 0, none⟩) (l.length + 1) cap) (l ++ [y]) → w.grownBy w' v.ownBlock → (v.ownBlock = some g ∨ g = w.heap.size) → g < w'.heap.size → wpList P ops Q rest (a.put o.dst (.slice (some ⟨g, 0, none⟩) (l.length + 1) cap)) w') :
    wpList P ops Q (o :: rest) a w := by
  obtain ⟨i, hi, hz, hs1, hby⟩ := info_parts hinfo
  obtain ⟨et, fr, hb⟩ := hb
  refine wpList_append_lies w hgd s x t ho base e i z size bytes ht hi hz hs1 hby hzs hsz v l.length (l.flatMap c) hs hown ⟨b, 0, none⟩ 1 cap (c y) hx (by rw [hc]; omega) ?_ (h1 y) (by decide) (by unfold maxLen; omega) hbytes hbase w.heap.size rfl ?_
  · intro j u hj
    rw [Addr.add_lit, Nat.zero_add, cell_of_row w b j _ et fr hb]
    simpa using hj
  · intro g cap w' h2 h3 h4 h5
    exact h g cap w' ⟨by simpa using h2.1, by simpa using h2.2⟩ h3 h4 h5

theorem step_append1 {α : Type} {P : Program} (w : World) {ops : Array Oper} {o : Oper} {a : Act} {K : Act → World → Prop} {Q : Exit → Act → World → Prop} {E : Prop} (hgd : o.guard = none) (s x : Operand) (t : TypeId)
    (ho : o.op = .call { callee := .builtin .append, args := #[s, x], argTypes := #[t, t] })
    {base : Nat} {e : TypeId} {z : Value} {size bytes : Nat} (ht : P.underlying t = some (.slice e)) (hinfo : (P.info? e).map (fun i => (i.zero, i.size, i.bytes)) = some (some z, size, bytes)) (hzs : z.cells.size = size) (hsz : 0 < size)
    {c : α → List Value} (hc : ∀ x, (c x).length = size) (h1 : ∀ x, ∀ u ∈ c x, u.oneCell' = true)
    {v : Value} {l : List α} (hs : a.eval s = v) (hown : Own w base e size c v l) (y : α) (b cap : Nat) (hx : a.eval x = .slice (some ⟨b, 0, none⟩) 1 cap) (hb : ∃ et fr, w.heap[b]? = some (.cells (c y).toArray et fr))
    (hbytes : (l.length + 1) * bytes ≤ 140737488355328) (hlen : l.length + 1 ≤ 140737488355328) (hbase : base ≤ w.heap.size)
    (h : ∀ g cap w', Own w' base e size c (.slice (some ⟨g, 0, none⟩) (l.length + 1) cap) (l ++ [y]) → w.grownBy w' v.ownBlock → (v.ownBlock = some g ∨ g = w.heap.size) → g < w'.heap.size → K (a.put o.dst (.slice (some ⟨g, 0, none⟩) (l.length + 1) cap)) w') :
    if Region.wanted o (yielded ops a.tmps) = true then Oper.wp P o a w K Q else E := by
  obtain ⟨i, hi, hz, hs1, hby⟩ := info_parts hinfo
  obtain ⟨et, fr, hb⟩ := hb
  refine step_append_lies w hgd s x t ho base e i z size bytes ht hi hz hs1 hby hzs hsz v l.length (l.flatMap c) hs hown ⟨b, 0, none⟩ 1 cap (c y) hx (by rw [hc]; omega) ?_ (h1 y) (by decide) (by unfold maxLen; omega) hbytes hbase w.heap.size rfl ?_
  · intro j u hj
    rw [Addr.add_lit, Nat.zero_add, cell_of_row w b j _ et fr hb]
    simpa using hj
  · intro g cap w' h2 h3 h4 h5
    exact h g cap w' ⟨by simpa using h2.1, by simpa using h2.2⟩ h3 h4 h5

/-- 'x.f = append(x.f, ..)': what the row and the cell that holds it are behind the append and the store back. -/
theorem own_store_back {α : Type} {w w0 w1 : World} {base B bo k : Nat} {t e : TypeId} {size : Nat} {c : α → List Value} {v v' : Value} {l' : List α} {cs : Array Value}
    (hw : Below B w w0) (hB : Blk w0 bo t cs) (hO : Own w1 base e size c v' l') (hg : w0.grownBy w1 v.ownBlock) (hv : v.ownBlock ≠ some bo) (hvb : ∀ k, v.ownBlock = some k → B ≤ k) (hne : e ≠ t) (hb : B ≤ w0.heap.size) (hbo : B ≤ bo) :
    w1.cell? ⟨bo, k, none⟩ = cs[k]? ∧ w1.frozen? ⟨bo, k, none⟩ = false ∧
    Blk (w1.setCell ⟨bo, k, none⟩ v') bo t (cs.setIfInBounds k v') ∧ Own (w1.setCell ⟨bo, k, none⟩ v') base e size c v' l' ∧ Below B w (w1.setCell ⟨bo, k, none⟩ v') := by
  have hB1 := hB.grown hg (Ne.symm hv)
  refine ⟨hB1.cell k, hB1.frozen k, hB1.set_ k v', hO.setCell (own_blk_ne hO hB1 hne) v', (hw.grown hg hb hvb).setCell (p := ⟨bo, k, none⟩) hbo v'⟩

/-- A slice over a block that is known whole, from its first cell on. -/
theorem Rd.of_block {α : Type} {w : World} {B size b : Nat} {c : α → List Value} {l : List α} {cs : Array Value} {t : TypeId} {fr : Nat × Nat} (h : w.heap[b]? = some (.cells cs t fr)) (hB : b < B) (hc : ∀ x, (c x).length = size)
    (hcs : cs.toList.take (l.length * size) = l.flatMap c) : Rd w B size c (some ⟨b, 0, none⟩) l := by
  intro i x hx
  refine ⟨b, 0, rfl, hB, fun j u hu => ?_⟩
  rw [cell_of_row w b _ cs t fr h, Nat.zero_add]
  have h1 := flat_get hc l i x j u hx hu
  rw [← hcs, List.getElem?_take] at h1
  split at h1
  · simpa using h1
  · cases h1

end Go.Proofs.Ytcblakflhheepaa
