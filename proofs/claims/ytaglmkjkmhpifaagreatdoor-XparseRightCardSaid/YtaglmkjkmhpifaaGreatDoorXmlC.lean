/- Chapter 42: the tag of a pool's head; the tags of a pool. -/
import Derived.Test.YtaglmkjkmhpifaaGreatDoorXmlB
namespace Go.Proofs.YtaglmkjkmhpifaaGreatDoor
open Go.RowKit
set_option linter.unusedVariables false
set_option linter.unusedSimpArgs false

theorem flat_len {α : Type} {c : α → List Value} {size : Nat} (hc : ∀ x, (c x).length = size) : ∀ l : List α, (l.flatMap c).length = l.length * size
  | [] => by simp
  | x :: l => by rw [List.flatMap_cons, List.length_append, hc, flat_len hc l, List.length_cons, Nat.add_mul]; omega
theorem own_of_block {α : Type} {w : World} {base g size : Nat} {e : TypeId} {c : α → List Value} {l : List α} {cs : Array Value} (hc : ∀ x, (c x).length = size) (h : Blk w g e cs) (hb : base ≤ g) (hcs : cs.toList = l.flatMap c) (hl : l.length ≤ maxLen) :
    Own w base e size c (.slice (some ⟨g, 0, none⟩) l.length l.length) l := by
  refine ⟨flat_len hc l, Or.inr ⟨g, l.length, cs, rfl, hb, h, Nat.le_refl _, hl, ?_, ?_⟩⟩
  · rw [← Array.length_toList, hcs, flat_len hc]
  · rw [hcs, ← flat_len hc, List.take_length]
theorem flat_at {α : Type} {c : α → List Value} {size : Nat} (hc : ∀ x, (c x).length = size) : ∀ (l : List α) (j : Nat) (u : Value), (l.flatMap c)[j]? = some u → ∃ i x r, j = i * size + r ∧ l[i]? = some x ∧ (c x)[r]? = some u
  | [], j, u, h => by simp at h
  | y :: l, j, u, h => by
    rw [List.flatMap_cons] at h
    by_cases hj : j < (c y).length
    · rw [List.getElem?_append_left hj] at h
      exact ⟨0, y, j, by simp, rfl, h⟩
    · rw [List.getElem?_append_right (by omega), hc] at h
      obtain ⟨i, x, r, h1, h2, h3⟩ := flat_at hc l _ u h
      rw [hc] at hj
      exact ⟨i + 1, x, r, by rw [Nat.add_mul]; omega, by simpa using h2, h3⟩

/-- 'append(s, l2...)' onto a row of the call's own. -/
theorem wpList_appendN {α : Type} {P : Program} (w : World) {ops : Array Oper} {rest : List Oper} {o : Oper} {a : Act} {Q : Exit → Act → World → Prop} (hgd : o.guard = none) (s x : Operand) (t : TypeId)
    (ho : o.op = .call { callee := .builtin .append, args := #[s, x], argTypes := #[t, t] })
    {base B : Nat} {e : TypeId} {z : Value} {size bytes : Nat} (ht : P.underlying t = some (.slice e)) (hinfo : (P.info? e).map (fun i => (i.zero, i.size, i.bytes)) = some (some z, size, bytes)) (hzs : z.cells.size = size) (hsz : 0 < size)
    {c : α → List Value} (hc : ∀ x, (c x).length = size) (h1 : ∀ x, ∀ u ∈ c x, u.oneCell' = true)
    {v : Value} {l : List α} (hs : a.eval s = v) (hown : Own w base e size c v l) (l2 : List α) (A : Option Addr) (n cap : Nat) (hn : n = l2.length) (hx : a.eval x = .slice A n cap) (hr : Rd w B size c A l2) (h0 : 0 < l2.length)
    (hbytes : (l.length + l2.length) * bytes ≤ 140737488355328) (hlen : l.length + l2.length ≤ 140737488355328) (hbase : base ≤ w.heap.size)
    (h : ∀ g cap w', Own w' base e size c (.slice (some ⟨g, 0, none⟩) (l.length + l2.length) cap) (l ++ l2) → w.grownBy w' v.ownBlock → (v.ownBlock = some g ∨ g = w.heap.size) → g < w'.heap.size → wpList P ops Q rest (a.put o.dst (.slice (some ⟨g, 0, none⟩) (l.length + l2.length) cap)) w') :
    wpList P ops Q (o :: rest) a w := by
  subst hn
  obtain ⟨i, hi, hz, hs1, hby⟩ := info_parts hinfo
  obtain ⟨x0, hx0⟩ := get_of_lt h0
  obtain ⟨b0, off0, rfl, _, _⟩ := hr 0 x0 hx0
  refine wpList_append_lies w hgd s x t ho base e i z size bytes ht hi hz hs1 hby hzs hsz v l.length (l.flatMap c) hs hown ⟨b0, off0, none⟩ l2.length cap (l2.flatMap c) hx (flat_len hc l2) ?_ ?_ h0 (by unfold maxLen; omega) hbytes hbase w.heap.size rfl ?_
  · intro j u hj
    obtain ⟨i, y, r, rfl, hy, hu⟩ := flat_at hc l2 j u hj
    obtain ⟨b, off, hA, _, hcell⟩ := hr i y hy
    injection hA with hA
    injection hA with e1 e2
    subst e1; subst e2
    rw [Addr.add_lit, ← Nat.add_assoc]
    exact hcell r u hu
  · intro u hu
    obtain ⟨y, _, hy⟩ := List.mem_flatMap.1 hu
    exact h1 y u hy
  · intro g cap w' h2 h3 h4 h5
    refine h g cap w' ⟨?_, ?_⟩ h3 h4 h5
    · simpa using h2.1
    · simpa using h2.2

set_option maxRecDepth 100000 in
set_option maxHeartbeats 4000000 in
theorem head42_any (A : Option Addr) (cap : Nat) (p : Pl) (w : World) (ht : Tab w) (hok : I64 p.1 ∧ I64 p.2.1 ∧ I64 p.2.2.1 ∧ I64 p.2.2.2.1) :
    Calls Tryz.prog 28 #[.agg #[.int .i64 p.1, .int .i64 p.2.1, .int .i64 p.2.2.1, .int .i64 p.2.2.2.1, .slice A p.2.2.2.2.length cap]] w (TagOut w (headT p)) := by
  obtain ⟨p1, p2, p3, p4, L⟩ := p
  obtain ⟨h1, h2, h3, h4⟩ := hok
  dsimp only at h1 h2 h3 h4 ⊢
  have hp := ht.pos
  have HT := hide ht
  have HI := hide (And.intro h1 (And.intro h2 (And.intro h3 h4)))
  have e1 : headT (p1, p2, p3, p4, L) = (1, sSuper, (sUuid, ⟨#[]⟩, 0) :: (headN (p1, p2, p3, p4, L)).map attrN, 0) := rfl
  rw [e1]
  obtain ⟨hd, hhd⟩ : ∃ hd, headN (p1, p2, p3, p4, L) = hd := ⟨_, rfl⟩
  clear ht h1 h2 h3 h4 e1
  go_enter Tryz.func28, Tryz.ntmps28
  go_wp2_with (fail)
  have hR := ((Blk.new (w.alloc (.cells #[.int .i64 p1, .int .i64 p2, .int .i64 p3, .int .i64 p4, .slice A L.length cap] 24)) 48 #[.int .i64 0, .string ⟨#[]⟩, .slice none 0 0, .int .i64 0]).alloc (.cells ((headN (p1, p2, p3, p4, L)).flatMap nmc).toArray 77))
  have hN : Blk (((w.alloc (.cells #[.int .i64 p1, .int .i64 p2, .int .i64 p3, .int .i64 p4, .slice A L.length cap] 24)).alloc (.cells #[.int .i64 0, .string ⟨#[]⟩, .slice none 0 0, .int .i64 0] 48)).alloc (.cells ((headN (p1, p2, p3, p4, L)).flatMap nmc).toArray 77)) (w.heap.size + 2) 77 ((headN (p1, p2, p3, p4, L)).flatMap nmc).toArray := heap_new_at (by simp)
  have hW : Below w.heap.size w (((w.alloc (.cells #[.int .i64 p1, .int .i64 p2, .int .i64 p3, .int .i64 p4, .slice A L.length cap] 24)).alloc (.cells #[.int .i64 0, .string ⟨#[]⟩, .slice none 0 0, .int .i64 0] 48)).alloc (.cells ((headN (p1, p2, p3, p4, L)).flatMap nmc).toArray 77)) := (by repeat (first | exact Below.refl _ _ | refine Below.alloc ?_ (by first | (simp; omega) | simp | omega) _ | refine drewN_below ?_ _ | refine Below.drew ?_))
  rw [World.size_alloc] at hR
  have hrd : Rd (((w.alloc (.cells #[.int .i64 p1, .int .i64 p2, .int .i64 p3, .int .i64 p4, .slice A L.length cap] 24)).alloc (.cells #[.int .i64 0, .string ⟨#[]⟩, .slice none 0 0, .int .i64 0] 48)).alloc (.cells ((headN (p1, p2, p3, p4, L)).flatMap nmc).toArray 77)) (w.heap.size + 3) 2 nmc (some ⟨w.heap.size + 2, 0, none⟩) (headN (p1, p2, p3, p4, L)) :=
    Rd.of_block (t := 77) (fr := (0, 0)) hN (by omega) nmc_len (by simp [headN, nmc])
  have hmd := made42_any (some ⟨w.heap.size + 2, 0, none⟩) 4 (headN (p1, p2, p3, p4, L)) 1 sSuper (w.heap.size + 3) _ (HT.out.below hW hp) (by simp) hrd (by simp [headN]) (by simp [headN]; exact ⟨HI.out.2.1, HI.out.1, HI.out.2.2.1, HI.out.2.2.2⟩)
  refine hmd.mono ?_
  clear hmd hrd
  rintro e w2 ⟨A9, n9, cap9, rfl, hO, hb2⟩
  generalize (((w.alloc (.cells #[.int .i64 p1, .int .i64 p2, .int .i64 p3, .int .i64 p4, .slice A L.length cap] 24)).alloc (.cells #[.int .i64 0, .string ⟨#[]⟩, .slice none 0 0, .int .i64 0] 48)).alloc (.cells ((headN (p1, p2, p3, p4, L)).flatMap nmc).toArray 77)) = w1 at *
  dsimp only at hO ⊢
  rw [hhd] at hO
  have hdl : (hd.map attrN).length = 4 := by rw [← hhd]; rfl
  obtain rfl : n9 = 4 := by rw [← hdl]; exact hO.len
  obtain ⟨_, _, _, he, hn0, hrO⟩ := hO.rd aic_len
  injection he with e1 e2 e3
  subst e1; subst e2; subst e3
  have hRl := hR.lt
  have hw2 := hW.trans (hb2.mono hW.size)
  have hs2 := hw2.size
  have hs12 := hb2.size
  have hR2 := ((hR.below hb2 hR.lt).alloc (.cells #[.int .i64 1, .string sSuper, .slice A9 4 cap9, .int .i64 0] 48)).alloc (.cells #[.string sUuid, .string ⟨#[]⟩, .int .i64 0] 86)
  have hT2 := (Blk.new w2 48 #[.int .i64 1, .string sSuper, .slice A9 4 cap9, .int .i64 0]).alloc (.cells #[.string sUuid, .string ⟨#[]⟩, .int .i64 0] 86)
  have hU2 : Blk ((w2.alloc (.cells #[.int .i64 1, .string sSuper, .slice A9 4 cap9, .int .i64 0] 48)).alloc (.cells #[.string sUuid, .string ⟨#[]⟩, .int .i64 0] 86)) (w2.heap.size + 1) 86 #[.string sUuid, .string ⟨#[]⟩, .int .i64 0] := heap_new_at (by simp)
  have hW3 : Below w2.heap.size w2 ((w2.alloc (.cells #[.int .i64 1, .string sSuper, .slice A9 4 cap9, .int .i64 0] 48)).alloc (.cells #[.string sUuid, .string ⟨#[]⟩, .int .i64 0] 86)) := (by repeat (first | exact Below.refl _ _ | refine Below.alloc ?_ (by first | (simp; omega) | simp | omega) _ | refine drewN_below ?_ _ | refine Below.drew ?_))
  have hb3 := hw2.trans (hW3.mono hs2)
  have hO3 := (hrO.mono (Nat.le_refl _)).below hW3
  have hOU := own_of_block (base := w.heap.size) (l := [((sUuid, (⟨#[]⟩ : ByteArray), (0 : Int)) : Ai)]) aic_len hU2 (by omega) rfl (by unfold maxLen; simp)
  have hsz3 : ((w2.alloc (.cells #[.int .i64 1, .string sSuper, .slice A9 4 cap9, .int .i64 0] 48)).alloc (.cells #[.string sUuid, .string ⟨#[]⟩, .int .i64 0] 86)).heap.size = w2.heap.size + 2 := by simp
  have HDL := hide hdl
  have HN := hide hdl.symm
  have HHD := hide hhd
  clear hO hR hb2 hW hN hhd hdl hn0
  go_wp2_with (at_builtin; go_must (refine wpList_appendN _ rfl (.tmp 19) (.tmp 21) _ rfl Tryz.underlying46 infoAttr rfl (by decide) aic_len aic_one (base := w.heap.size) (B := w2.heap.size) (l := [((sUuid, (⟨#[]⟩ : ByteArray), (0 : Int)) : Ai)]) rfl ?_ (hd.map attrN) A9 4 cap9 HN.out rfl ?_ ?_ ?_ ?_ ?_ ?_))
  · exact hOU
  · exact hO3
  · rw [HDL.out]; omega
  · rw [HDL.out]; simp
  · rw [HDL.out]; simp
  · rw [hsz3]; omega
  · intro g cap4 w6 hO7 hg7 hat7 hlt7
    have hdl2 : hd.length = 4 := by have := HDL.out; simpa using this
    rw [hdl2] at hO7 ⊢
    have hR6 := hR2.grown hg7 (by simp [Value.ownBlock]; omega)
    have hsb := own_store_back (k := 2) (w := w) (B := w.heap.size) (t := 48) (cs := #[.int .i64 1, .string sSuper, .slice A9 4 cap9, .int .i64 0]) hb3 hT2 hO7 hg7 (by simp [Value.ownBlock]) (fun q hq => by simp [Value.ownBlock] at hq; omega) (by decide) (by omega) hs2
    obtain ⟨D1, D2, D3, D4, D5⟩ := hsb
    have hR8 := hR6.far (p := ⟨w2.heap.size, 2, none⟩) (by dsimp only; omega) (.slice (some ⟨g, 0, none⟩) (1 + 4) cap4)
    simp at D1
    have e0 := D3.cell 0
    have e1 := D3.cell 1
    have e2 := D3.cell 2
    have e3 := D3.cell 3
    simp at e0 e1 e2 e3
    have r0 := hR8.frozen 0
    have r1' := hR8.frozen 1
    have r2' := hR8.frozen 2
    have r3' := hR8.frozen 3
    have c0 := hR8.cell 0
    have c1 := hR8.cell 1
    have c2 := hR8.cell 2
    have c3 := hR8.cell 3
    simp at c0 c1 c2 c3
    have hst := hide (store4 hR8 rfl D4 (.int .i64 1) (.string sSuper) (.int .i64 0))
    have HD5 := hide D5
    clear hR2 hT2 hU2 hW3 hb3 hO3 hOU hO7 hg7 hat7 hR6 hR8 D3 D4 D5 hsz3
    go_wp2
    obtain ⟨q0, q1, q2, q3, qO, qB⟩ := hst.out
    refine bodyPost_ret (v := .agg #[.int .i64 1, .string sSuper, .slice (some ⟨g, 0, none⟩) (1 + 4) cap4, .int .i64 0]) (by simp [results, Tryz.results28, go_sem, q0, q1, q2, q3]) rfl ?_
    rw [HHD.out]
    exact ⟨_, _, _, rfl, qO, qB _ _ (by omega) HD5.out⟩
end Go.Proofs.YtaglmkjkmhpifaaGreatDoor
