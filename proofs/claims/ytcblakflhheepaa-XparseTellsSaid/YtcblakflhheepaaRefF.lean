/- Chapter 43: the reference's device. -/
import Derived.Test.YtcblakflhheepaaRefE
namespace Go.Proofs.Ytcblakflhheepaa
open Go.RowKit
set_option linter.unusedVariables false
set_option linter.unusedSimpArgs false

theorem ris_err {X : Nat} {N p c : Int} {w : World} (h : RErr X N p c w) (kd : Int) (nm : ByteArray) :
    Calls Try.prog 51 #[.pointer (some ⟨X, 0, none⟩), .int .i64 kd, .string nm] w fun e w' => e = .returned (.bool false) ∧ w' = w := by
  obtain ⟨hc, r, T, A, cap, h1, h2, h3, h4, h5, h6, h7⟩ := h
  exact ris_any X X r A cap T kd nm false w h6 h5 h7 (by have := h6.lt; omega) h4 (by unfold isR; rw [h2, decide_eq_false hc]; rfl)
theorem rwrong_err {X : Nat} {N p c : Int} {w : World} (h : RErr X N p c w) :
    Calls Try.prog 54 #[.pointer (some ⟨X, 0, none⟩)] w fun e w' => e = .returned (.tuple #[]) ∧ w' = w := by
  obtain ⟨hc, r, T, A, cap, h1, h2, h3, h4, h5, h6, h7⟩ := h
  exact wrong_no X X r A cap T w h6 (by rw [h2]; exact hc) h5 h7 (by have := h6.lt; omega) h4
theorem rbad_err {X : Nat} {N p c : Int} {w : World} (h : RErr X N p c w) (p' c' : Int) :
    Calls Try.prog 91 #[.pointer (some ⟨X, 0, none⟩), .int .i64 p', .int .i64 c'] w fun e w' => e = .returned (.tuple #[]) ∧ w' = w := by
  obtain ⟨hc, r, T, A, cap, h1, h2, h3, h4, h5, h6, h7⟩ := h
  exact bad_no X r p' c' w h6 (by rw [h2]; exact hc)
set_option maxHeartbeats 4000000 in
theorem rruns_err {X : Nat} (D : Nat) {N p c : Int} {w : World} (h : RErr X N p c w) :
    Calls Try.prog 92 #[.pointer (some ⟨X, 0, none⟩), .pointer (some ⟨D, 0, none⟩)] w fun e w' => e = .returned (.tuple #[]) ∧ w' = w := by
  have h1 := hide (ris_err h 3 sSingle)
  have h2 := hide (ris_err h 3 sRange)
  clear h
  go_enter Try.func92, Try.ntmps92
  go_wp2_with (fail)
  go_loopg [7] 1 (fun g x wr => wr = w)
  case atStart => rfl
  case round =>
    obtain rfl := hrel
    go_wp2_with (fail)
    refine h1.out.mono ?_
    rintro e w4 ⟨rfl, hw4⟩
    have hw5 := hw4.symm
    subst hw5
    go_wp2_with (fail)
    refine h2.out.mono ?_
    rintro e w4 ⟨rfl, hw4⟩
    have hw5 := hw4.symm
    subst hw5
    go_wp2_with (fail)
    go_end0
    exact ⟨rfl, rfl⟩
/-- The devices so far: rows of the call's own beyond X. -/
def RDev (X : Nat) (w : World) (v : Value) (L : List Dv) : Prop := ∃ rows, Own w (X + 1) 123 5 drc v rows ∧ MD w (X + 1) rows L
def RDevOut (X : Nat) (r : Rh) (w : World) (R : Except (Int × Int) (List Dv × Int × List Ti)) (e : Ending) (w' : World) : Prop :=
  e = .returned (.tuple #[]) ∧ Below X w w' ∧ match R with
    | .error (p, c) => RErr X r.N p c w'
    | .ok (L, sum, T) => ∃ v a, ROk X { r with dv := v, at_ := a } T sum w' ∧ RDev X w' v L
theorem dev_ns {m0 m1 m2 m3 m4 : Int} {o : List (ByteArray × Int)} (h : [m0, m1, m2, m3, m4] = kDevice.map (fun x => gv o x.1)) : m0 = gv o sId ∧ m1 = gv o sMapped ∧ m2 = gv o sTx ∧ m3 = gv o sMade ∧ m4 = gv o sSnap := by
  have h2 : [m0, m1, m2, m3, m4] = [gv o sId, gv o sMapped, gv o sTx, gv o sMade, gv o sSnap] := h
  injection h2 with h0 h2
  injection h2 with h1 h2
  injection h2 with h3 h2
  injection h2 with h4 h2
  injection h2 with h5 h2
  exact ⟨h0, h1, h3, h4, h5⟩
/-- The state within device: the reference's state X, the device D with its mappings, the tag Tb, the numbers G, the devices so far. -/
structure DvS (X D Tb G : Nat) (r : Rh) (T : List Ti) (sum kd at_ : Int) (tv : Value) (m0 m1 m2 m3 m4 : Int) (vm : Value) (ms : List Mp) (devs : List Dv) (w0 : World) (ce pe : Int) (w : World) : Prop where
  fX : ∃ A c, T.length ≤ c ∧ Blk w X RSt (rst { r with lv := .slice A T.length c, sum := sum, e := ce, at_ := pe }) ∧ RdI w X A T
  fD : Blk w D 123 #[.int .i64 m0, .int .i64 m2, .int .i64 m3, .int .i64 m4, vm]
  fM : Own w D 39 3 mc vm ms
  fT : Blk w Tb RTg #[.int .i64 kd, .string sDevice, tv, .int .i64 at_]
  fN : Blk w G 3 (([m0, m1, m2, m3, m4].map fun n => Value.int .i64 n).toArray)
  fV : ∃ rows, Own w (X + 1) 123 5 drc r.dv rows ∧ MD w (X + 1) rows devs ∧ (∀ q, r.dv.ownBlock = some q → q < D) ∧ (∀ r' ∈ rows, DrLt D r')
  bel : Below X w0 w
  ord : X < Tb ∧ Tb < D ∧ X < G ∧ G < D
section
variable {X D Tb G : Nat} {r : Rh} {T : List Ti} {sum kd at_ : Int} {tv : Value} {m0 m1 m2 m3 m4 : Int} {vm : Value} {ms : List Mp} {devs : List Dv} {w0 : World} {ce pe : Int} {w w' : World}
theorem DvS.drewN (h : DvS X D Tb G r T sum kd at_ tv m0 m1 m2 m3 m4 vm ms devs w0 ce pe w) (q : Nat) : DvS X D Tb G r T sum kd at_ tv m0 m1 m2 m3 m4 vm ms devs w0 ce pe (w.drewN q) := by
  obtain ⟨⟨A, c, h1, h2, h3⟩, hD, hM, hT, hN, ⟨rows, h4, h5, h6⟩, hb, ho⟩ := h
  exact ⟨⟨A, c, h1, h2.drewN q, h3.below (drewN_below (Below.refl X w) q)⟩, hD.drewN q, hM.drewN q, hT.drewN q, hN.drewN q, ⟨rows, h4.drewN q, h5.keep (fun _ _ _ hl => hl.drewN q), h6⟩, drewN_below hb q, ho⟩
/-- An error is put down. -/
theorem DvS.bad (h : DvS X D Tb G r T sum kd at_ tv m0 m1 m2 m3 m4 vm ms devs w0 0 pe w) (p c : Int) :
    Calls Try.prog 91 #[.pointer (some ⟨X, 0, none⟩), .int .i64 p, .int .i64 c] w fun e w' => e = .returned (.tuple #[]) ∧ DvS X D Tb G r T sum kd at_ tv m0 m1 m2 m3 m4 vm ms devs w0 c p w' := by
  obtain ⟨⟨A, cc, h1, h2, h3⟩, hD, hM, hT, hN, ⟨rows, h4, h5, h6, h7⟩, hb, o1, o2, o3, o4⟩ := h
  refine (bad_any X _ p c w h2 rfl).mono ?_
  rintro e w' ⟨rfl, hX, hbt⟩
  have hXl := h2.lt
  have hbl := hbt.below (C := X) (by omega) (Nat.le_refl X)
  refine ⟨rfl, ⟨A, cc, h1, hX, h3.below hbl⟩, hD.but hbt hD.lt (by omega), hM.but hbt (fun q hq => ⟨(hM.lt q hq).2, by have := (hM.lt q hq).1; omega⟩), hT.but hbt hT.lt (by omega), hN.but hbt hN.lt (by omega), ⟨rows, h4.but hbt (fun q hq => ⟨(h4.lt q hq).2, by have := (h4.lt q hq).1; omega⟩), h5.keep (fun _ _ _ hl => hl.but hbt (fun q hq => ⟨(hl.lt q hq).2, by have := (hl.lt q hq).1; omega⟩)), h6, h7⟩, hb.trans hbl, o1, o2, o3, o4⟩
theorem DvS.badno (h : DvS X D Tb G r T sum kd at_ tv m0 m1 m2 m3 m4 vm ms devs w0 ce pe w) (hc : ce ≠ 0) (p c : Int) :
    Calls Try.prog 91 #[.pointer (some ⟨X, 0, none⟩), .int .i64 p, .int .i64 c] w fun e w' => e = .returned (.tuple #[]) ∧ DvS X D Tb G r T sum kd at_ tv m0 m1 m2 m3 m4 vm ms devs w0 ce pe w' := by
  obtain ⟨A, cc, h1, h2, h3⟩ := h.fX
  refine (bad_no X _ p c w h2 hc).mono ?_
  rintro e w' ⟨rfl, rfl⟩
  exact ⟨rfl, h⟩
theorem DvS.err (h : DvS X D Tb G r T sum kd at_ tv m0 m1 m2 m3 m4 vm ms devs w0 ce pe w) (hc : ce ≠ 0) (hl : T.length ≤ 5000000) : RErr X r.N pe ce w := by
  obtain ⟨A, cc, h1, h2, h3⟩ := h.fX
  exact ⟨hc, { r with lv := .slice A T.length cc, sum := sum, e := ce, at_ := pe }, T, A, cc, rfl, rfl, rfl, hl, rfl, h2, h3⟩
theorem DvS.cells (h : DvS X D Tb G r T sum kd at_ tv m0 m1 m2 m3 m4 vm ms devs w0 ce pe w) : X < w.heap.size ∧ D < w.heap.size ∧ Tb < w.heap.size ∧ G < w.heap.size ∧ w.cell? ⟨D, 0, none⟩ = some (.int .i64 m0) ∧ w.cell? ⟨D, 4, none⟩ = some vm ∧ w.cell? ⟨Tb, 0, none⟩ = some (.int .i64 kd) ∧ w.cell? ⟨Tb, 3, none⟩ = some (.int .i64 at_) ∧
    w.cell? ⟨G, 1, none⟩ = some (.int .i64 m1) ∧ w.cell? ⟨X, 6, none⟩ = some r.dv ∧ w.cell? ⟨X, 8, none⟩ = some (.int .i64 ce) := by
  obtain ⟨A, cc, h1, h2, h3⟩ := h.fX
  have d0 := h.fD.cell 0
  have d4 := h.fD.cell 4
  have t0 := h.fT.cell 0
  have t3 := h.fT.cell 3
  have n1 : w.cell? ⟨G, 1, none⟩ = some (.int .i64 m1) := h.fN.cell 1
  have x6 := h2.cell 6
  have x8 := h2.cell 8
  simp at d0 d4 t0 t3 x6 x8
  exact ⟨h2.lt, h.fD.lt, h.fT.lt, h.fN.lt, d0, d4, t0, t3, n1, x6, x8⟩
theorem DvS.dv (h : DvS X D Tb G r T sum kd at_ tv m0 m1 m2 m3 m4 vm ms devs w0 ce pe w) : ∃ A c, r.dv = .slice A devs.length c ∧ ∀ i d, devs[i]? = some d → ∃ b off, A = some ⟨b, off, none⟩ ∧ b < w.heap.size ∧ w.cell? ⟨b, off + i * 5, none⟩ = some (.int .i64 d.1) := by
  obtain ⟨rows, h1, h2, -⟩ := h.fV
  obtain ⟨A, n, c, hv, hn, hrd⟩ := h1.rd drc_len
  refine ⟨A, c, by rw [hv, hn, h2.len], fun i d hd => ?_⟩
  obtain ⟨r2, hr2, e1, -⟩ := h2.get hd
  obtain ⟨b, off, hA, hb, hc⟩ := hrd i r2 hr2
  exact ⟨b, off, hA, hb, by have := hc 0 _ rfl; simpa [e1] using this⟩
end
/-- After numbers and the making of the device. -/
theorem DvS.start {X : Nat} {r : Rh} {T : List Ti} {sum kd at_ : Int} {tv : Value} {devs : List Dv} {w0 w5 w6 : World} {A2 : Option Addr} {c2 Tb : Nat} {R : Except (Int × Int) (List (ByteArray × Int))} {e : Ending}
    (hN : RNums X { r with lv := .slice A2 T.length c2, sum := sum, e := 0 } kDevice w5 R e w6) (hX5 : Blk w5 X RSt (rst { r with lv := .slice A2 T.length c2, sum := sum, e := 0 })) (hc2 : T.length ≤ c2) (hI5 : RdI w5 X A2 T) (hT5 : Blk w5 Tb RTg #[.int .i64 kd, .string sDevice, tv, .int .i64 at_]) (hV5 : RDev X w5 r.dv devs) (hb5 : Below X w0 w5) (hTb : X < Tb)
    (hRe : ∀ p c, R = .error (p, c) → c ≠ 0) :
    ∃ (g : Nat) (m0 m1 m2 m3 m4 : Int), e = .returned (.slice (some ⟨g, 0, none⟩) 5 5) ∧ w6.cell? ⟨g, 0, none⟩ = some (.int .i64 m0) ∧ w6.cell? ⟨g, 2, none⟩ = some (.int .i64 m2) ∧ w6.cell? ⟨g, 3, none⟩ = some (.int .i64 m3) ∧ w6.cell? ⟨g, 4, none⟩ = some (.int .i64 m4) ∧ g < w6.heap.size ∧
      ∃ ce pe, ((ce ≠ 0 ∧ R = .error (pe, ce)) ∨ (ce = 0 ∧ ∃ o, R = .ok o ∧ [m0, m1, m2, m3, m4] = kDevice.map fun x => gv o x.1)) ∧
        DvS X w6.heap.size Tb g r T sum kd at_ tv m0 m1 m2 m3 m4 (.slice none 0 0) [] devs w0 ce pe ((w6.alloc (.cells #[.int .i64 m0, .int .i64 m2, .int .i64 m3, .int .i64 m4, .slice none 0 0] 123)).drew) := by
  have hJ : ∃ (ce pe : Int) (ns : List Int) (g6 : Nat), w5.heap.size ≤ g6 ∧ e = .returned (.slice (some ⟨g6, 0, none⟩) 5 5) ∧ ns.length = 5 ∧ Blk w6 g6 3 ((ns.map fun n => Value.int .i64 n).toArray) ∧ Blk w6 X RSt (rst { r with lv := .slice A2 T.length c2, sum := sum, e := ce, at_ := pe }) ∧ But w5.heap.size X w5 w6 ∧
      ((ce ≠ 0 ∧ R = .error (pe, ce)) ∨ (ce = 0 ∧ ∃ o, R = .ok o ∧ ns = kDevice.map fun x => gv o x.1)) := by
    cases R with
    | error pc =>
      obtain ⟨p, c⟩ := pc
      obtain ⟨g6, ns, h0, h1, h2, h3, h4, h5⟩ := hN
      exact ⟨c, p, ns, g6, h0, h1, h2, h3, h4, h5, .inl ⟨hRe p c rfl, rfl⟩⟩
    | ok o =>
      obtain ⟨g6, h0, h1, h2, h3⟩ := hN
      exact ⟨0, r.at_, _, g6, h0, h1, rfl, h2, hX5.below h3 hX5.lt, But.of h3 X, .inr ⟨rfl, o, rfl, rfl⟩⟩
  obtain ⟨ce, pe, ns, g6, hg6, rfl, hnl, hR6, hX6, hb6, hst⟩ := hJ
  obtain ⟨m0, m1, m2, m3, m4, rfl⟩ : ∃ a b c d e, ns = [a, b, c, d, e] := by
    match ns, hnl with
    | [a, b, c, d, e], _ => exact ⟨a, b, c, d, e, rfl⟩
  have hXl := hX5.lt
  have hT6 := hT5.but hb6 hT5.lt (by omega)
  have hbl6 := hb6.below (C := X) (by omega) (Nat.le_refl X)
  have hTl := hT6.lt
  have hgl := hR6.lt
  have hs6 := hb6.size
  obtain ⟨rows, h1, h2⟩ := hV5
  have h16 := h1.but hb6 (fun q hq => ⟨(h1.lt q hq).2, by have := (h1.lt q hq).1; omega⟩)
  have h26 : MD w6 (X + 1) rows devs := h2.keep fun r' _ l hl => hl.but hb6 (fun q hq => ⟨(hl.lt q hq).2, by have := (hl.lt q hq).1; omega⟩)
  refine ⟨g6, m0, m1, m2, m3, m4, rfl, hR6.cell 0, hR6.cell 2, hR6.cell 3, hR6.cell 4, hgl, ce, pe, hst, ⟨A2, c2, hc2, (hX6.alloc _).drew, ((hI5.below hbl6).below (Below.alloc (Below.refl X w6) (by omega) _)).below (Below.drew (Below.refl _ _))⟩, (show Blk (w6.alloc _) w6.heap.size _ _ from heap_new_at rfl).drew, Own.nil _ _ _ _ _, (hT6.alloc _).drew, (hR6.alloc _).drew, ⟨rows, (h16.alloc _).drew, h26.keep (fun r' _ l hl => (hl.alloc _).drew), fun q hq => (h16.lt q hq).2, fun r' hr' q hq => ?_⟩, ((hb5.trans hbl6).alloc (by omega) _).drew, hTb, ?_, by omega, hgl⟩
  · obtain ⟨k, hk⟩ := List.getElem?_of_mem hr'
    have hkd : k < devs.length := by rw [← h26.len]; exact lt_of_get hk
    obtain ⟨d, hdk⟩ := get_of_lt hkd
    obtain ⟨r2, hr2, -, -, -, -, ho⟩ := h26.get hdk
    rw [hk] at hr2
    injection hr2 with hr2
    subst hr2
    exact (ho.lt q hq).2
  · have := hT5.lt; omega
end Go.Proofs.Ytcblakflhheepaa
