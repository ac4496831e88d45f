/- Chapter 42: Tags. -/
import Derived.Test.YtaglmkjkmhpifaaGreatDoorXmlC
namespace Go.Proofs.YtaglmkjkmhpifaaGreatDoor
open Go.RowKit
set_option linter.unusedVariables false
set_option linter.unusedSimpArgs false

/-- The slice v holds the tags L, in rows of the call's own. -/
def TG (base : Nat) (W : World) (v : Value) (L : List Ti) (wr : World) : Prop := ∃ rows, Own wr base 48 4 ric v rows ∧ MtI 86 wr base rows L ∧ Below base W wr
theorem infoTg : (Tryz.prog.info? 48).map (fun i => (i.zero, i.size, i.bytes)) = some (some (.agg #[.int .i64 0, .string ⟨#[]⟩, .slice none 0 0, .int .i64 0]), 4, 56) := by kernel_rfl
section
variable {base : Nat} {W w w' : World} {v : Value} {L : List Ti}
theorem TG.size (h : TG base W v L w) : W.heap.size ≤ w.heap.size := by obtain ⟨_, _, _, h⟩ := h; exact h.size
theorem TG.bel (h : TG base W v L w) : Below base W w := by obtain ⟨_, _, _, h⟩ := h; exact h
theorem TG.below (h : TG base W v L w) (hb : Below w.heap.size w w') (hB : base ≤ w.heap.size) : TG base W v L w' := by
  obtain ⟨rows, h1, h2, h3⟩ := h
  exact ⟨rows, h1.below hb (fun q hq => (h1.lt q hq).2), h2.keep (fun v l ho => ho.below hb (fun q hq => (ho.lt q hq).2)), h3.trans (hb.mono hB)⟩
end
theorem Own.keepBlk {α : Type} {w w' : World} {base size : Nat} {e T : TypeId} {c : α → List Value} {v : Value} {l : List α} (h : Own w base e size c v l) (hk : ∀ g ty cs, Blk w g ty cs → ty ≠ T → Blk w' g ty cs) (he : e ≠ T) : Own w' base e size c v l := by
  refine ⟨h.1, ?_⟩
  rcases h.2 with h2 | ⟨g, cap, cur, hv, hg, hh, r⟩
  · exact Or.inl h2
  · exact Or.inr ⟨g, cap, cur, hv, hg, hk g _ _ hh he, r⟩
theorem wpList_push {base : Nat} {W w5 : World} {out : Value} {L : List Ti} {ops : Array Oper} {rest : List Oper} {o : Oper} {a : Act} {Q : Exit → Act → World → Prop} (hgd : o.guard = none) (s x : Operand)
    (ho : o.op = .call { callee := .builtin .append, args := #[s, x], argTypes := #[39, 39] }) (hs : a.eval s = out) (t : Ti) (A : Option Addr) (n cap capx : Nat) (hx : a.eval x = .slice (some ⟨w5.heap.size, 0, none⟩) 1 capx)
    (hTG : TG base W out L w5) (hA : Own w5 base 86 3 aic (.slice A n cap) t.2.2.1) (hL : L.length ≤ 1000000) (hB : base ≤ w5.heap.size)
    (h : ∀ v' w6, TG base W v' (L ++ [t]) w6 → w5.heap.size ≤ w6.heap.size → Below base w5 w6 → (∀ g ty cs, Blk w5 g ty cs → ty ≠ 48 → Blk w6 g ty cs) → wpList Tryz.prog ops Q rest (a.put o.dst v') w6) :
    wpList Tryz.prog ops Q (o :: rest) a (w5.alloc (.cells #[.int .i64 t.1, .string t.2.1, .slice A n cap, .int .i64 t.2.2.2] 48)) := by
  obtain ⟨rows, h1, h2, h3⟩ := hTG
  have hrl := h2.len
  refine wpList_append1 _ hgd s x _ ho Tryz.underlying39 infoTg rfl (by decide) ric_len ric_one (base := base) (v := out) (l := rows) hs (h1.alloc _) (t.1, t.2.1, (A, n, cap), t.2.2.2) w5.heap.size capx hx ⟨_, _, heap_new_at (by simp)⟩ (by rw [hrl]; omega) (by rw [hrl]; omega) (by simp; omega) ?_
  intro g cap4 w6 hO7 hg7 hat7 hlt7
  have hne : ∀ (v : Value) (l : List Ai), Own w5 base 86 3 aic v l → Own w6 base 86 3 aic v l :=
    fun v l ho => (ho.alloc _).grown hg7 (own_own_ne ho h1 (by decide))
  refine h _ w6 ⟨_, hO7, MtI.snoc (r := (t.1, t.2.1, (A, n, cap), t.2.2.2)) ⟨rfl, rfl, rfl, hne _ _ hA⟩ (h2.keep hne), (h3.alloc hB _).grown hg7 (by simp; omega) (fun q hq => (h1.lt q hq).1)⟩ (by have := hg7.size; simp at this; omega) (((Below.refl _ w5).alloc hB _).grown hg7 (by simp; omega) (fun q hq => (h1.lt q hq).1)) ?_
  intro g' ty cs hbk hty
  exact (hbk.alloc _).grown hg7 (by
    intro e
    exact own_blk_ne h1 hbk (Ne.symm hty) e.symm)

/-- What Tags hands back. -/
def Tags42 (w : World) (p : Pl) (e : Ending) (w' : World) : Prop :=
  if chkE p = 0 then ∃ v, e = .returned (.tuple #[v, .int .i64 0]) ∧ TG w.heap.size w v (xmlTs p) w' else e = .returned (.tuple #[.slice none 0 0, .int .i64 (chkE p)]) ∧ Below w.heap.size w w'
theorem devTs_len {L : List Dv} (h : ∀ d ∈ L, okD d) : (L.flatMap devTs).length ≤ 2 * L.length + cntL L := by
  induction L with
  | nil => simp [cntL]
  | cons d L ih =>
    have h1 := ih (fun x hx => h x (by simp [hx]))
    have h2 := runsOf_len d.2.2.2.2
    simp only [List.flatMap_cons, List.length_append, devTs, List.length_cons, List.length_map, List.length_nil, cntL, List.map_cons, List.sum_cons] at *
    omega

set_option maxRecDepth 100000 in
set_option maxHeartbeats 8000000 in
theorem tags42_any (A : Option Addr) (cap : Nat) (p : Pl) (w : World) (ht : Tab w) (h : RdD w w.heap.size A p.2.2.2.2) (hc : cntL p.2.2.2.2 ≤ 1000000) (hl : p.2.2.2.2.length ≤ 1000000) :
    Calls Tryz.prog 11 #[.agg #[.int .i64 p.1, .int .i64 p.2.1, .int .i64 p.2.2.1, .int .i64 p.2.2.2.1, .slice A p.2.2.2.2.length cap]] w (Tags42 w p) := by
  obtain ⟨p1, p2, p3, p4, L⟩ := p
  dsimp only at h hc hl
  have hp := ht.pos
  have HT := hide ht
  clear ht
  go_enter Tryz.func11, Tryz.ntmps11
  go_wp2_with (fail)
  have hP := Blk.new w 24 #[.int .i64 p1, .int .i64 p2, .int .i64 p3, .int .i64 p4, .slice A L.length cap]
  have hW : Below w.heap.size w (w.alloc (.cells #[.int .i64 p1, .int .i64 p2, .int .i64 p3, .int .i64 p4, .slice A L.length cap] 24)) := (by repeat (first | exact Below.refl _ _ | refine Below.alloc ?_ (by first | (simp; omega) | simp | omega) _ | refine drewN_below ?_ _ | refine Below.drew ?_))
  generalize w.alloc (.cells #[.int .i64 p1, .int .i64 p2, .int .i64 p3, .int .i64 p4, .slice A L.length cap] 24) = w1 at *
  have hsz1 := hW.size
  refine (check_any A cap (p1, p2, p3, p4, L) w.heap.size w1 hsz1 (h.below hW) hc hl).mono ?_
  rintro e w2 ⟨rfl, hb2⟩
  have hP2 := hP.below hb2 hP.lt
  have hW2 := hW.trans (hb2.mono hsz1)
  obtain ⟨ev, hev⟩ : ∃ ev, chkE (p1, p2, p3, p4, L) = ev := ⟨_, rfl⟩
  rw [hev]
  have HEV := hide hev
  clear hP hb2 hev hW
  by_cases hz : ev = 0
  · subst hz
    obtain ⟨k1, k2, k3, k4, k5, k6, -, k8⟩ := chk_ok HEV.out
    have HK := hide (And.intro k1 (And.intro k2 (And.intro k3 k4)))
    have HD := hide k8
    dsimp only at k5 k6
    have hsz2 := hW2.size
    have hP2l := hP2.lt
    clear k1 k2 k3 k4 k8
    have c0 := hP2.cell 0
    have c1 := hP2.cell 1
    have c2 := hP2.cell 2
    have c3 := hP2.cell 3
    have c4 := hP2.cell 4
    simp at c0 c1 c2 c3 c4
    go_wp2_with (fail)
    have hhd : Calls Tryz.prog 28 #[.agg #[.int .i64 p1, .int .i64 p2, .int .i64 p3, .int .i64 p4, .slice A L.length cap]] w2 (TagOut w2 (1, sSuper, (sUuid, ⟨#[]⟩, 0) :: (headN (p1, p2, p3, p4, L)).map attrN, 0)) := head42_any A cap (p1, p2, p3, p4, L) w2 (HT.out.below hW2 hp) HK.out
    refine hhd.mono ?_
    clear hhd
    rintro e w3 ⟨A1, n1, cap1, rfl, hA1, hb3⟩
    have hP3 := hP2.below hb3 hP2l
    have hW3 := hW2.trans (hb3.mono hsz2)
    have hsz3 := hW3.size
    have hH := Blk.new w3 48 #[.int .i64 1, .string sSuper, .slice A1 n1 cap1, .int .i64 0]
    have hP4 := hP3.alloc (.cells #[.int .i64 1, .string sSuper, .slice A1 n1 cap1, .int .i64 0] 48)
    have hW4 := hW3.alloc hsz3 (.cells #[.int .i64 1, .string sSuper, .slice A1 n1 cap1, .int .i64 0] 48)
    have hG4 : TG w.heap.size w (.slice (some ⟨w3.heap.size, 0, none⟩) 1 1) [headT (p1, p2, p3, p4, L)] (w3.alloc (.cells #[.int .i64 1, .string sSuper, .slice A1 n1 cap1, .int .i64 0] 48)) :=
      ⟨[(1, sSuper, (A1, n1, cap1), 0)], own_of_block (l := [((1, sSuper, (A1, n1, cap1), 0) : Ri)]) ric_len hH hsz3 rfl (by unfold maxLen; simp), ⟨⟨rfl, rfl, rfl, (hA1.mono hsz2).alloc _⟩, trivial⟩, hW4⟩
    have hP3l := hP3.lt
    clear hP2 hW2 hb3 hW3 hH c0 c1 c2 c3 c4 hA1
    have c4 := hP3.cell 4
    simp at c4
    go_wp2_with (fail)
    clear c4
    go_loopw [5, 21] (fun out i wr => ∃ k : Nat, k ≤ L.length ∧ i = .int .i64 k ∧ TG w.heap.size w out (headT (p1, p2, p3, p4, L) :: (L.take k).flatMap devTs) wr) (fun _ i _ => L.length - (intOf i).toNat)
    case atStart => exact ⟨0, Nat.zero_le _, rfl, by simpa using hG4⟩
    case round =>
      obtain ⟨k, hk, rfl, hG⟩ := hrel
      clear hG4 hP3 hP4 hW4
      have hsr := hG.size
      have hLl := devTs_len (L := L.take k) (fun d hd => HD.out d (List.mem_of_mem_take hd))
      have hcl := cntL_le L k
      have htl : (L.take k).length ≤ 4096 := by simp; omega
      by_cases hlt : k < L.length
      · obtain ⟨d, hd⟩ := get_of_lt hlt
        obtain ⟨b, off, A', cap', rfl, hbB, g0, g1, g2, g3, g4, hr⟩ := (h.below hG.bel) k d hd
        have hokd := HD.out d (List.mem_of_getElem? hd)
        have hdl := len_cntL hd
        have hst : (L.take (k + 1)).flatMap devTs = (L.take k).flatMap devTs ++ devTs d := by rw [take_step hd]; simp
        obtain ⟨acc, hacc⟩ : ∃ acc, headT (p1, p2, p3, p4, L) :: (L.take k).flatMap devTs = acc := ⟨_, rfl⟩
        have hal : acc.length ≤ 100000 := by rw [← hacc, List.length_cons]; omega
        have hst2 : headT (p1, p2, p3, p4, L) :: (L.take (k + 1)).flatMap devTs = acc ++ devTs d := by rw [hst, ← hacc]; rfl
        rw [hacc] at hG
        have HST := hide hst2
        have HOK := hide hokd
        have i0 : (0 : Int) ≤ (k : Int) := by omega
        have i1 : (k : Int) < (L.length : Int) := by omega
        clear hst hst2 hacc hd hokd hLl
        obtain ⟨d1, d2, d3, d4, l⟩ := d
        dsimp only at g0 g1 g2 g3 g4 hr hdl
        have hWd : Below wr.heap.size wr ((wr.alloc (.cells #[.int .i64 d1, .int .i64 d2, .int .i64 d3, .int .i64 d4, .slice A' l.length cap'] 38)).alloc (.cells ((devN (d1, d2, d3, d4, l)).flatMap nmc).toArray 77)) := (by repeat (first | exact Below.refl _ _ | refine Below.alloc ?_ (by first | (simp; omega) | simp | omega) _ | refine drewN_below ?_ _ | refine Below.drew ?_))
        have hDb := (Blk.new wr 38 #[.int .i64 d1, .int .i64 d2, .int .i64 d3, .int .i64 d4, .slice A' l.length cap']).alloc (.cells ((devN (d1, d2, d3, d4, l)).flatMap nmc).toArray 77)
        have hN : Blk ((wr.alloc (.cells #[.int .i64 d1, .int .i64 d2, .int .i64 d3, .int .i64 d4, .slice A' l.length cap'] 38)).alloc (.cells ((devN (d1, d2, d3, d4, l)).flatMap nmc).toArray 77)) (wr.heap.size + 1) 77 ((devN (d1, d2, d3, d4, l)).flatMap nmc).toArray := heap_new_at (by simp)
        have hsz5 : ((wr.alloc (.cells #[.int .i64 d1, .int .i64 d2, .int .i64 d3, .int .i64 d4, .slice A' l.length cap'] 38)).alloc (.cells ((devN (d1, d2, d3, d4, l)).flatMap nmc).toArray 77)).heap.size = wr.heap.size + 2 := by simp
        have hrd := Rd.of_block (B := wr.heap.size + 2) (l := devN (d1, d2, d3, d4, l)) (t := 77) (fr := (0, 0)) hN (by omega) nmc_len (by simp [devN, nmc])
        have hTb := HT.out.below (hG.bel.trans (hWd.mono hsr)) hp
        have hmd := made42_any (some ⟨wr.heap.size + 1, 0, none⟩) 5 (devN (d1, d2, d3, d4, l)) 1 sDevice (wr.heap.size + 2) _ hTb (by omega) hrd (by simp [devN]) (by
          obtain ⟨q1, q2, q3, q4, -, q6⟩ := HOK.out
          have q5 : I64 (l.length : Int) := by unfold I64; dsimp only at q6; omega
          intro x hx
          simp only [devN, List.mem_cons, List.not_mem_nil, or_false] at hx
          rcases hx with rfl | rfl | rfl | rfl | rfl <;> assumption)
        go_wp2_with (fail)
        refine hmd.mono ?_
        clear hmd hrd
        rintro e w5 ⟨A5, n5, cap5, rfl, hA5, hb5⟩
        have hG5 := hG.below (hWd.trans (hb5.mono (by omega))) hsr
        have hD5 := hDb.below hb5 (by omega)
        have hs5 := hb5.size
        rw [hsz5] at hs5
        have hbw5 : Below w.heap.size wr w5 := (hWd.trans (hb5.mono (by omega))).mono hsr
        have hA5' := hA5.mono (show w.heap.size ≤ _ by rw [hsz5]; omega)
        clear hG hWd hDb hN hTb hb5 hA5 g0 g1 g2 g3 g4 hsz5
        go_wp2_with (at_builtin; go_must (refine wpList_push rfl _ _ rfl rfl (devT (d1, d2, d3, d4, l)) A5 n5 cap5 1 rfl hG5 hA5' (by omega) (by omega) ?_))
        intro v6 w6 hG6 hs6 hbl6 hk6
        have hbw6 := hbw5.trans hbl6
        have hD6 := hk6 _ _ _ hD5 (by decide)
        clear hG5 hA5' hD5 hk6
        have c4 := hD6.cell 4
        have hDl := hD6.lt
        simp at c4
        have hr6 := (hr.below hbw6).mono (show w.heap.size ≤ w6.heap.size by omega)
        have hmm : MildM l := fun m hm => ⟨(HOK.out.2.2.2.2.1 m hm).1, (HOK.out.2.2.2.2.1 m hm).2.1, (HOK.out.2.2.2.2.1 m hm).2.2.1, (HOK.out.2.2.2.2.1 m hm).2.2.2.1⟩
        have HM := hide hmm
        clear hmm
        go_wp2_with (fail)
        refine (of_any A' cap' l w6 hr6 HM.out HOK.out.2.2.2.2.2).mono ?_
        rintro e w7 ⟨v7, rfl, hO7, hb7⟩
        obtain ⟨A7, n7, cap7, rfl, hn7, -⟩ := hO7.rd rc_len
        subst hn7
        have hG7 := hG6.below hb7 (by omega)
        have hs7 := hb7.size
        have hrl := runsOf_len l
        have hro : ∀ r ∈ runsOf l, I64 r.1 ∧ I64 r.2.1 ∧ I64 r.2.2.1 ∧ I64 r.2.2.2 := fun r hr => run_ok HOK.out.2.2.2.2.1 HOK.out.2.2.2.2.2 hr
        obtain ⟨rs, hrs⟩ : ∃ rs, runsOf l = rs := ⟨_, rfl⟩
        have hdv : acc ++ devTs (d1, d2, d3, d4, l) = (acc ++ [devT (d1, d2, d3, d4, l)] ++ rs.map runT) ++ [endT sDevice] := by rw [← hrs]; simp [devTs]
        obtain ⟨ac2, hac2⟩ : ∃ ac2, acc ++ [devT (d1, d2, d3, d4, l)] = ac2 := ⟨_, rfl⟩
        have hal2 : ac2.length ≤ 100001 := by rw [← hac2, List.length_append, List.length_singleton]; omega
        rw [hac2] at hdv hG7
        rw [hrs] at hO7 hrl hro
        rw [hrs]
        have HDV := hide (HST.out.trans hdv)
        have HRO := hide hro
        have HO := hide hO7
        clear hO7 hdv hro hrs hG6 hr6 c4 hD6 hb7 hac2
        go_wp2
        go_loopw [5, 50] (fun out i wx => ∃ j : Nat, j ≤ rs.length ∧ i = .int .i64 j ∧ TG w.heap.size w out (ac2 ++ (rs.take j).map runT) wx ∧ Own wx w6.heap.size 81 4 rc (.slice A7 rs.length cap7) rs) (fun _ i _ => rs.length - (intOf i).toNat)
        case atStart => exact ⟨0, Nat.zero_le _, rfl, by simpa using hG7, HO.out⟩
        case round =>
          obtain ⟨j, hj, rfl, hGx, hOr⟩ := hrel
          clear hG7
          have hsx := hGx.size
          by_cases hlt2 : j < rs.length
          · obtain ⟨r, hx⟩ := get_of_lt hlt2
            have HOR := hide hOr
            obtain ⟨A3, n3, cap3, he, hn3, hrd⟩ := hOr.rd rc_len
            injection he with e1 e2 e3
            subst e1
            obtain ⟨b3, off3, hA3, hb3, q0, q1, q2, q3⟩ := hrd.rn hx
            have hstr : ac2 ++ (rs.take (j + 1)).map runT = (ac2 ++ (rs.take j).map runT) ++ [runT r] := by rw [take_step hx]; simp
            have hrk := HRO.out r (List.mem_of_getElem? hx)
            have hacl : (ac2 ++ (rs.take j).map runT).length ≤ 1000000 := by rw [List.length_append, List.length_map, List.length_take]; omega
            obtain ⟨ac3, hac3⟩ : ∃ ac3, ac2 ++ (rs.take j).map runT = ac3 := ⟨_, rfl⟩
            rw [hac3] at hstr hGx hacl
            have HRK := hide hrk
            have HSTR := hide hstr
            subst hA3
            have j0 : (0 : Int) ≤ (j : Int) := by omega
            have j1 : (j : Int) < (rs.length : Int) := by omega
            clear hstr hx hOr hrd hrk hn3 e2 e3 hac3 HO
            obtain ⟨r1, r2, r3, r4⟩ := r
            dsimp only at q0 q1 q2 q3
            have hWr : Below wr.heap.size wr (wr.alloc (.cells #[.int .i64 r1, .int .i64 r2, .int .i64 r3, .int .i64 r4] 81)) := (by repeat (first | exact Below.refl _ _ | refine Below.alloc ?_ (by first | (simp; omega) | simp | omega) _ | refine drewN_below ?_ _ | refine Below.drew ?_))
            have hrun := run42_any (r1, r2, r3, r4) (wr.alloc (.cells #[.int .i64 r1, .int .i64 r2, .int .i64 r3, .int .i64 r4] 81)) (HT.out.below (hGx.bel.trans (hWr.mono (by omega))) hp) HRK.out
            obtain ⟨tr, htr⟩ : ∃ tr, runT (r1, r2, r3, r4) = tr := ⟨_, rfl⟩
            rw [htr] at hrun
            have HTR := hide htr
            clear htr
            go_wp2_with (fail)
            refine hrun.mono ?_
            clear hrun
            rintro e w8 ⟨A8, n8, cap8, rfl, hA8, hb8⟩
            have hsz8 : (wr.alloc (.cells #[.int .i64 r1, .int .i64 r2, .int .i64 r3, .int .i64 r4] 81)).heap.size = wr.heap.size + 1 := by simp
            have hb8' := hWr.trans (hb8.mono (by omega))
            have hG8 := hGx.below hb8' (by omega)
            have hs8 := hb8'.size
            have hA8' := hA8.mono (show w.heap.size ≤ _ by omega)
            have hO8 := HOR.out.below hb8' (fun q hq => (HOR.out.lt q hq).2)
            clear hGx hb8 hb8' hWr hA8 q0 q1 q2 q3 hsz8 HOR
            go_wp2_with (at_builtin; go_must (refine wpList_push rfl _ _ rfl rfl tr A8 n8 cap8 1 rfl hG8 hA8' (by omega) (by omega) ?_))
            intro v9 w9 hG9 hs9 hbl9 hk9
            have hO9 := hO8.keepBlk hk9 (by decide)
            clear hG8 hA8' hO8 hk9
            go_wp2
            go_roundw
            case rel => exact ⟨j + 1, by omega, by go_num, by rw [HSTR.out, HTR.out]; exact hG9, hO9⟩
            case measure => simp [intOf]; omega
          · have hjj : j = rs.length := by omega
            rw [hjj, List.take_length] at hGx
            clear hjj hOr HO
            have hacl : (ac2 ++ rs.map runT).length ≤ 1000000 := by rw [List.length_append, List.length_map]; omega
            obtain ⟨ac3, hac3⟩ : ∃ ac3, ac2 ++ rs.map runT = ac3 := ⟨_, rfl⟩
            rw [hac3] at hGx hacl
            have HAC := hide hac3
            clear hac3
            have hmd := made42_any none 0 [] 2 sDevice 0 wr (HT.out.below hGx.bel hp) (Nat.zero_le _) Rd.nil (by simp) (by simp)
            go_wp2_with (fail)
            refine hmd.mono ?_
            clear hmd
            rintro e w8 ⟨A8, n8, cap8, rfl, hA8, hb8⟩
            have hG8 := hGx.below hb8 hsx
            have hs8 := hb8.size
            have hA8' := hA8.mono hsx
            clear hGx hb8 hA8
            go_wp2_with (at_builtin; go_must (refine wpList_push rfl _ _ rfl rfl (endT sDevice) A8 n8 cap8 1 rfl hG8 hA8' (by omega) (by omega) ?_))
            intro v9 w9 hG9 hs9 hbl9 hk9
            clear hG8 hA8' hk9
            go_wp2
            go_roundw
            case rel => exact ⟨k + 1, by omega, by go_num, by rw [HDV.out, HAC.out]; exact hG9⟩
            case measure => simp [intOf]; omega
      · have hkk : k = L.length := by omega
        rw [hkk, List.take_length] at hG hLl
        clear hkk
        have hxt : xmlTs (p1, p2, p3, p4, L) = (headT (p1, p2, p3, p4, L) :: L.flatMap devTs) ++ [endT sSuper] := rfl
        have hacl : (headT (p1, p2, p3, p4, L) :: L.flatMap devTs).length ≤ 1000000 := by rw [List.length_cons]; omega
        obtain ⟨ac3, hac3⟩ : ∃ ac3, headT (p1, p2, p3, p4, L) :: L.flatMap devTs = ac3 := ⟨_, rfl⟩
        rw [hac3] at hxt hacl hG
        have HXT := hide hxt
        clear hxt hac3 hLl
        have hmd := made42_any none 0 [] 2 sSuper 0 wr (HT.out.below hG.bel hp) (Nat.zero_le _) Rd.nil (by simp) (by simp)
        go_wp2_with (fail)
        refine hmd.mono ?_
        clear hmd
        rintro e w8 ⟨A8, n8, cap8, rfl, hA8, hb8⟩
        have hG8 := hG.below hb8 hsr
        have hs8 := hb8.size
        have hA8' := hA8.mono hsr
        clear hG hb8 hA8
        go_wp2_with (at_builtin; go_must (refine wpList_push rfl _ _ rfl rfl (endT sSuper) A8 n8 cap8 1 rfl hG8 hA8' (by omega) (by omega) ?_))
        intro v9 w9 hG9 hs9 hbl9 hk9
        clear hG8 hA8' hk9
        go_wp2
        go_ret2
        unfold Tags42
        rw [if_pos HEV.out, HXT.out]
        exact ⟨_, rfl, hG9⟩
  · have y0 : (ev != 0) = true := by simpa using hz
    go_wp2
    go_ret2
    unfold Tags42
    rw [if_neg (by rw [HEV.out]; exact hz), HEV.out]
    exact ⟨rfl, hW2⟩
end Go.Proofs.YtaglmkjkmhpifaaGreatDoor
