/- Chapter 43: the reference's numbers. -/
import Derived.Test.YtcblakflhheepaaRefB
import Derived.Deep.OwnRows
namespace Go.Proofs.Ytcblakflhheepaa
open Go.RowKit
set_option linter.unusedVariables false
set_option linter.unusedSimpArgs false

theorem madeN (z : Value) (n : Nat) : madeCells #[z] n = (List.replicate n z).toArray := by
  apply Array.ext
  · simp [madeCells]
  · intro i h1 h2
    simp [madeCells, Nat.mod_one]
theorem rd_blk {α : Type} {w : World} {g : Nat} {t : TypeId} {v : α → Value} {L : List α} (h : Blk w g t (L.map v).toArray) : Rd w w.heap.size 1 (fun x => [v x]) (some ⟨g, 0, none⟩) L := by
  intro i x hx
  refine ⟨g, 0, rfl, h.lt, fun j u hu => ?_⟩
  have hj : j = 0 := by
    rcases j with _ | j
    · rfl
    · simp at hu
  subst hj
  have h1 := h.cell i
  simp [hx] at h1 hu
  subst hu
  simpa using h1
theorem place_spec {l : List (ByteArray × Int × Int)} {s : ByteArray} : ∀ {k : Nat}, (assoc s l = none ∧ placeI (l.map (·.1)) s k = -1) ∨ ∃ (i : Nat) (lo hi : Int), l[i]? = some (s, lo, hi) ∧ assoc s l = some (lo, hi) ∧ placeI (l.map (·.1)) s k = ((k + i : Nat) : Int) := by
  induction l with
  | nil => intro k; exact .inl ⟨rfl, rfl⟩
  | cons x l ih =>
    intro k
    by_cases h : s = x.1
    · right
      obtain ⟨x1, lo, hi⟩ := x
      dsimp only at h
      subst h
      refine ⟨0, lo, hi, rfl, by simp [assoc], ?_⟩
      simp [placeI]
    · have hb : (x.1.toList == s.toList) = false := by
        rw [beq_eq_false_iff_ne]
        intro he
        exact h (bytes_list he).symm
      have e : placeI ((x :: l).map (·.1)) s k = placeI (l.map (·.1)) s ((k + 1 : Nat) : Int) := by
        simp [placeI, hb]
      rcases ih (k := k + 1) with ⟨h1, h2⟩ | ⟨i, lo, hi, h1, h2, h3⟩
      · exact .inl ⟨by simp [assoc, h, h1], by rw [e, h2]⟩
      · refine .inr ⟨i + 1, lo, hi, by simpa using h1, by simp [assoc, h, h2], ?_⟩
        rw [e, h3]
        congr 1
        omega
theorem gv_putA {o : List (ByteArray × Int)} {k k' : ByteArray} {n : Int} : gv (putA k n o) k' = if k' = k then n else gv o k' := by
  unfold gv
  rw [assoc_putA]
  split <;> simp_all
theorem map_put {β : Type} {l : List (ByteArray × Int × Int)} {f f' : ByteArray → β} {s : ByteArray} {lo hi : Int} {b : β} : ∀ {i : Nat}, (l.map (·.1)).Nodup → l[i]? = some (s, lo, hi) → f' s = b → (∀ k, k ≠ s → f' k = f k) → (l.map fun x => f x.1).set i b = l.map fun x => f' x.1 := by
  induction l with
  | nil => intro i _ h _ _; simp at h
  | cons x l ih =>
    intro i hn hi hb hf
    simp only [List.map_cons, List.nodup_cons] at hn
    cases i with
    | zero =>
      simp at hi
      subst hi
      simp only [List.map_cons, List.set_cons_zero, hb, List.cons.injEq, true_and]
      apply List.map_congr_left
      intro y hy
      exact (hf y.1 (fun he => hn.1 (he ▸ List.mem_map.2 ⟨y, hy, rfl⟩))).symm
    | succ i =>
      simp only [List.map_cons, List.set_cons_succ]
      rw [ih hn.2 (by simpa using hi) hb hf]
      congr 1
      refine (hf x.1 (fun he => hn.1 ?_)).symm
      rw [he]
      exact List.mem_map.2 ⟨_, List.mem_of_getElem? (by simpa using hi), rfl⟩
theorem all_there {l : List (ByteArray × Int × Int)} {o : List (ByteArray × Int)} (hn : (l.map (·.1)).Nodup) (hI : NI l o) : (∀ x ∈ l, (assoc x.1 o).isSome = true) ↔ ¬ o.length < l.length := by
  constructor
  · intro h hlt
    have := sub_len (ks := l.map (·.1)) (l := o.map (·.1)) hn (fun k hk => by
      obtain ⟨x, hx, rfl⟩ := List.mem_map.1 hk
      have := h x hx
      rw [Option.isSome_iff_exists] at this
      obtain ⟨v, hv⟩ := this
      exact mem_assoc hv)
    rw [List.length_map, List.length_map] at this
    omega
  · intro h x hx
    have hkm : x.1 ∈ l.map (·.1) := List.mem_map.2 ⟨x, hx, rfl⟩
    have hmem : x.1 ∈ o.map (·.1) := by
      refine Classical.byContradiction fun hno => ?_
      have h1 := sub_len (ks := o.map (·.1)) (l := (l.map (·.1)).filter fun y => decide (y ≠ x.1)) hI.1 (fun y hy => by
        obtain ⟨v, hv⟩ := assoc_mem hy
        obtain ⟨lo', hi', h2, _⟩ := hI.2 _ _ hv
        rw [List.mem_filter]
        refine ⟨mem_assoc h2, decide_eq_true ?_⟩
        rintro rfl
        exact hno hy)
      have h2 := drop_len hkm
      rw [List.length_map] at h1 h2
      omega
    obtain ⟨v, hv⟩ := assoc_mem hmem
    rw [hv]; rfl

/-- What the reference's numbers hands back. -/
def RNums (X : Nat) (r : Rh) (l : List (ByteArray × Int × Int)) (w : World) (R : Except (Int × Int) (List (ByteArray × Int))) (e : Ending) (w' : World) : Prop :=
  match R with
  | .ok o => ∃ g : Nat, w.heap.size ≤ g ∧ e = .returned (.slice (some ⟨g, 0, none⟩) l.length l.length) ∧ Blk w' g 3 (((l.map fun x => gv o x.1).map fun n => Value.int .i64 n).toArray) ∧ Below w.heap.size w w'
  | .error (p, c) => ∃ (g : Nat) (ns : List Int), w.heap.size ≤ g ∧ e = .returned (.slice (some ⟨g, 0, none⟩) l.length l.length) ∧ ns.length = l.length ∧ Blk w' g 3 ((ns.map fun n => Value.int .i64 n).toArray) ∧ Blk w' X RSt (rst { r with e := c, at_ := p }) ∧ But w.heap.size X w w'
def outC (l : List (ByteArray × Int × Int)) (o : List (ByteArray × Int)) : Array Value := (l.map fun x => Value.int .i64 (gv o x.1)).toArray
def thrC (l : List (ByteArray × Int × Int)) (o : List (ByteArray × Int)) : Array Value := (l.map fun x => Value.bool (assoc x.1 o).isSome).toArray
theorem outC_put {l : List (ByteArray × Int × Int)} {o : List (ByteArray × Int)} {s : ByteArray} {lo hi n : Int} {i : Nat} (hn : (l.map (·.1)).Nodup) (hi' : l[i]? = some (s, lo, hi)) : (outC l o).setIfInBounds i (.int .i64 n) = outC l (putA s n o) := by
  unfold outC
  rw [List.setIfInBounds_toArray, map_put (f := fun k => Value.int .i64 (gv o k)) (f' := fun k => Value.int .i64 (gv (putA s n o) k)) hn hi' (by rw [gv_putA, if_pos rfl]) (fun k hk => by rw [gv_putA, if_neg hk])]
theorem thrC_put {l : List (ByteArray × Int × Int)} {o : List (ByteArray × Int)} {s : ByteArray} {lo hi n : Int} {i : Nat} (hn : (l.map (·.1)).Nodup) (hi' : l[i]? = some (s, lo, hi)) : (thrC l o).setIfInBounds i (.bool true) = thrC l (putA s n o) := by
  unfold thrC
  rw [List.setIfInBounds_toArray, map_put (f := fun k => Value.bool (assoc k o).isSome) (f' := fun k => Value.bool (assoc k (putA s n o)).isSome) hn hi' (by rw [assoc_putA, if_pos rfl]; rfl) (fun k hk => by rw [assoc_putA, if_neg hk])]
theorem infoInt : (Try.prog.info? 3).map (fun i => (i.zero, i.size, i.bytes)) = some (some (.int .i64 0), 1, 8) := by kernel_rfl
theorem infoBool : (Try.prog.info? 4).map (fun i => (i.zero, i.size, i.bytes)) = some (some (.bool false), 1, 1) := by kernel_rfl
theorem place_at (A : Option Addr) (n cap B : Nat) (l : List ByteArray) (hn : n = l.length) (s : ByteArray) (v : Int) (hv : placeI l s 0 = v) (w : World) (hr : Rd w B 1 sc1 A l) (hB : B ≤ w.heap.size) (hl : l.length ≤ 1000) :
    Calls Try.prog 89 #[.slice A n cap, .string s] w fun e w' => e = .returned (.int .i64 v) ∧ w' = w := by
  subst hn; subst hv; exact place_any A cap B l s w hr hB hl
theorem rnum_is (s : ByteArray) (hs : s.size ≤ 5000000) (n c : Int) (h : numP s = (n, c)) (w : World) :
    Calls Try.prog 90 #[.string s] w fun e w' => e = .returned (.tuple #[.int .i64 n, .int .i64 c]) ∧ w' = w := by
  have := rnum_any s hs w
  rw [h] at this
  exact this
theorem out_nil (l : List (ByteArray × Int × Int)) : (List.replicate l.length (Value.int .i64 0)).toArray = outC l [] := by
  unfold outC
  congr 1
  rw [show (fun x : ByteArray × Int × Int => Value.int .i64 (gv [] x.1)) = fun _ => Value.int .i64 0 from rfl, List.map_const']
theorem thr_nil (l : List (ByteArray × Int × Int)) : (List.replicate l.length (Value.bool false)).toArray = thrC l [] := by
  unfold thrC
  congr 1
  rw [show (fun x : ByteArray × Int × Int => Value.bool (assoc x.1 ([] : List (ByteArray × Int))).isSome) = fun _ => Value.bool false from rfl, List.map_const']
theorem rd_out {w : World} {g : Nat} {t : TypeId} {l : List (ByteArray × Int × Int)} {o : List (ByteArray × Int)} (h : Blk w g t (outC l o)) : Blk w g t (((l.map fun x => gv o x.1).map fun n => Value.int .i64 n).toArray) := by
  rw [List.map_map]; exact h
set_option maxRecDepth 100000 in
set_option maxHeartbeats 8000000 in
theorem rnumbers_any (X : Nat) (r : Rh) (t : Ti) (l : List (ByteArray × Int × Int)) (At An Al Ah : Option Addr) (ct cn cl ch : Nat) (sup : Bool) (w : World) (hX : Blk w X RSt (rst r)) (he : r.e = 0) (hnd : (l.map (·.1)).Nodup) (hl : l.length ≤ 100)
    (hr : Rd w w.heap.size 3 aic At t.2.2.1) (hll : t.2.2.1.length ≤ 5000000) (hsz : ∀ a ∈ t.2.2.1, a.2.1.size ≤ 5000000) (hrn : Rd w w.heap.size 1 sc1 An (l.map (·.1))) (hrl : Rd w w.heap.size 1 ic1 Al (l.map (·.2.1))) (hrh : Rd w w.heap.size 1 ic1 Ah (l.map (·.2.2))) (hsup : isSup t.2.1 = sup) :
    Calls Try.prog 52 #[.pointer (some ⟨X, 0, none⟩), .agg #[.int .i64 t.1, .string t.2.1, .slice At t.2.2.1.length ct, .int .i64 t.2.2.2], .slice An l.length cn, .slice Al l.length cl, .slice Ah l.length ch] w (RNums X r l w (numsL sup l t.2.2.2 t.2.2.1 [])) := by
  obtain ⟨t1, nm, ats, t4⟩ := t
  dsimp only at hr hll hsz hsup ⊢
  have hXl := hX.lt
  have hmkB : ∀ w : World, (Instr.makeSlice 144 (.int .i64 (l.length : Int)) (.int .i64 (l.length : Int))).run Try.prog w = .ok (.slice (some ⟨w.heap.size, 0, none⟩) l.length l.length) (w.alloc (.cells (thrC l []) 4)) := fun w => by
    rw [← thr_nil, ← madeN]
    exact run_make_row' _ _ _ _ Try.underlying144 infoBool rfl .i64 .i64 l.length (by omega) (by omega) w
  have hmkI : ∀ w : World, (Instr.makeSlice 119 (.int .i64 (l.length : Int)) (.int .i64 (l.length : Int))).run Try.prog w = .ok (.slice (some ⟨w.heap.size, 0, none⟩) l.length l.length) (w.alloc (.cells (outC l []) 3)) := fun w => by
    rw [← out_nil, ← madeN]
    exact run_make_row' _ _ _ _ Try.underlying119 infoInt rfl .i64 .i64 l.length (by omega) (by omega) w
  have hT1 := Blk.new w 91 #[.int .i64 t1, .string nm, .slice At ats.length ct, .int .i64 t4]
  have hW1 : Below w.heap.size w (w.alloc (.cells #[.int .i64 t1, .string nm, .slice At ats.length ct, .int .i64 t4] 91)) := (by repeat (first | exact Below.refl _ _ | refine Below.alloc ?_ (by first | (simp; omega) | simp | omega) _ | refine drewN_below ?_ _ | refine Below.drew ?_))
  have HX := hide hX
  have HSZ := hide hsz
  have HR := hide hr
  have HRN := hide hrn
  have HRL := hide hrl
  have HRH := hide hrh
  unfold isSup at hsup
  clear hX hsz hr hrn hrl hrh
  go_enter Try.func52, Try.ntmps52
  have hn0 : NI l [] := NI.nil l
  have hO3 : Blk (((w.alloc (.cells #[.int .i64 t1, .string nm, .slice At ats.length ct, .int .i64 t4] 91)).alloc (.cells (outC l []) 3)).alloc (.cells (thrC l []) 4)) (w.heap.size + 1) 3 (outC l []) := (show Blk _ (w.heap.size + 1) _ _ from heap_new_at (by simp)).alloc _
  have hB3 : Blk (((w.alloc (.cells #[.int .i64 t1, .string nm, .slice At ats.length ct, .int .i64 t4] 91)).alloc (.cells (outC l []) 3)).alloc (.cells (thrC l []) 4)) (w.heap.size + 1 + 1) 4 (thrC l []) := heap_new_at (by simp)
  have hT3 := (hT1.alloc (.cells (outC l []) 3)).alloc (.cells (thrC l []) 4)
  have hW3 : Below w.heap.size w (((w.alloc (.cells #[.int .i64 t1, .string nm, .slice At ats.length ct, .int .i64 t4] 91)).alloc (.cells (outC l []) 3)).alloc (.cells (thrC l []) 4)) := (hW1.alloc hW1.size _).alloc (by simp; omega) _
  go_wp2_with (fail)
  generalize (((w.alloc (.cells #[.int .i64 t1, .string nm, .slice At ats.length ct, .int .i64 t4] 91)).alloc (.cells (outC l []) 3)).alloc (.cells (thrC l []) 4)) = w3 at *
  have HO3 := hide hO3
  have HB3 := hide hB3
  have HT3 := hide hT3
  have HW3 := hide hW3
  have HN0 := hide hn0
  clear hO3 hB3 hT3 hW3 hW1 hT1 hmkB hmkI hn0
  go_wp2_with (fail)
  go_loopw [13] (fun i wr => ∃ (k : Nat) (o : List (ByteArray × Int)), k ≤ ats.length ∧ i = .int .i64 k ∧ NI l o ∧ Blk wr (w.heap.size + 1) 3 (outC l o) ∧ Blk wr (w.heap.size + 1 + 1) 4 (thrC l o) ∧ Blk wr w.heap.size 91 #[.int .i64 t1, .string nm, .slice At ats.length ct, .int .i64 t4] ∧ Below w.heap.size w wr ∧ numsL sup l t4 ats [] = numsL sup l t4 (ats.drop k) o) (fun i _ => ats.length - (intOf i).toNat)
  case atStart => exact ⟨0, [], Nat.zero_le _, rfl, HN0.out, HO3.out, HB3.out, HT3.out, HW3.out, rfl⟩
  case round =>
    obtain ⟨k, o, hk, rfl, hni, hO, hB, hT, hW, hN⟩ := hrel
    have c1 := hT.cell 1
    have c2 := hT.cell 2
    have c3 := hT.cell 3
    have hTl := hT.lt
    have hOl := hO.lt
    have hBl := hB.lt
    simp at c1 c2 c3
    have HX5 := hide (HX.out.below hW hXl)
    have HW := hide hW
    have HO := hide hO
    have HB := hide hB
    have HT := hide hT
    have HNI := hide hni
    have hws := hW.size
    clear hO hB hT hW hni
    by_cases hlt : k < ats.length
    · obtain ⟨a, ha⟩ := get_of_lt hlt
      obtain ⟨ab, af, rfl, habB, d0, d1, d2⟩ := (HR.out.below HW.out).ai ha
      have habl : ab < wr.heap.size := by omega
      have i0 : (0 : Int) ≤ (k : Int) := by omega
      have i1 : (k : Int) < (ats.length : Int) := by omega
      rw [drop_step ha, numsL_cons] at hN
      have hasz := HSZ.out a (List.mem_of_getElem? ha)
      obtain ⟨a1, a2, a3⟩ := a
      dsimp only at d0 d1 d2 hN hasz
      obtain ⟨uu, huu⟩ : ∃ u, isUuid a1 = u := ⟨_, rfl⟩
      rw [huu] at hN
      unfold isUuid at huu
      have HNN := hide hN
      clear hN ha
      have hA6 := Blk.new wr 93 #[.string a1, .string a2, .int .i64 a3]
      have hO6 := HO.out.alloc (.cells #[.string a1, .string a2, .int .i64 a3] 93)
      have hB6 := HB.out.alloc (.cells #[.string a1, .string a2, .int .i64 a3] 93)
      have hT6 := HT.out.alloc (.cells #[.string a1, .string a2, .int .i64 a3] 93)
      have hX6 := HX5.out.alloc (.cells #[.string a1, .string a2, .int .i64 a3] 93)
      have hW6 := HW.out.alloc hws (.cells #[.string a1, .string a2, .int .i64 a3] 93)
      by_cases hskip : (sup && uu) = true
      · obtain ⟨rfl, rfl⟩ : sup = true ∧ uu = true := by simpa using hskip
        have hN2 := hide (HNN.out.trans (if_pos hskip))
        have HO6 := hide hO6; have HB6 := hide hB6; have HT6 := hide hT6; have HW6 := hide hW6
        clear hO6 hB6 hT6 hW6 hA6 hX6 hskip
        go_wp2
        go_roundw
        case rel => exact ⟨k + 1, o, by omega, by go_num, HNI.out, HO6.out, HB6.out, HT6.out, HW6.out, hN2.out⟩
        case measure => simp [intOf]; omega
      · have hN2 := HNN.out.trans (if_neg hskip)
        have hcase : sup = false ∨ (sup = true ∧ uu = false) := by cases sup <;> cases uu <;> simp_all
        have HA6 := hide hA6; have HO6 := hide hO6; have HB6 := hide hB6; have HT6 := hide hT6; have HW6 := hide hW6; have HX6 := hide hX6
        clear hO6 hB6 hT6 hW6 hA6 hX6 hskip HNN
        obtain ⟨pn, pc, hpn⟩ : ∃ n c, numP a2 = (n, c) := ⟨_, _, rfl⟩
        rw [hpn] at hN2
        dsimp only at hN2
        generalize hW6e : (wr.alloc (.cells #[.string a1, .string a2, .int .i64 a3] 93)) = w6 at *
        have HE6 := hide hW6e
        clear hW6e
        have hA6l := HA6.out.lt
        have hws6 := HW6.out.size
        have e0 := HA6.out.cell 0
        have e1 := HA6.out.cell 1
        have e2 := HA6.out.cell 2
        simp at e0 e1 e2
        have hbad16 := hide (bad_any X r a3 16 w6 HX6.out he)
        have hbad2 := hide (bad_any X r a3 2 w6 HX6.out he)
        have hout := hide (fun (p c : Int) (w8 : World) (hX8 : Blk w8 X RSt (rst { r with e := c, at_ := p })) (hb8 : But w6.heap.size X w6 w8) => show RNums X r l w (.error (p, c)) (.returned (.slice (some ⟨w.heap.size + 1, 0, none⟩) l.length l.length)) w8 from
          ⟨w.heap.size + 1, _, by omega, rfl, by simp, rd_out (HO6.out.but hb8 HO6.out.lt (by omega)), hX8, (But.of HW6.out X).trans hb8 hws6⟩)
        have hnum := hide (rnum_is a2 hasz pn pc hpn w6)
        rcases place_spec (l := l) (s := a1) (k := 0) with ⟨hk1, hk2⟩ | ⟨i, lo, hi, hli, hk1, hk2⟩
        · rw [hk1] at hN2
          have hfin := hide hN2
          have hk3 : placeI (l.map (·.1)) a1 0 = -1 := by simpa using hk2
          have hplace := hide (place_at An l.length cn w.heap.size (l.map (·.1)) (by simp) a1 (-1) hk3 w6 (HRN.out.below HW6.out) hws6 (by simp; omega))
          clear hN2 hk1 hk2 hk3 hpn hnd
          rcases hcase with rfl | ⟨rfl, rfl⟩
          all_goals
            go_wp2_with (fail)
            rw [HE6.out]
            refine hplace.out.mono ?_
            rintro e w7 ⟨rfl, rfl⟩
            go_wp2_with (fail)
            refine hnum.out.mono ?_
            rintro e w8 ⟨rfl, rfl⟩
            go_wp2_with (fail)
            refine hbad16.out.mono ?_
            rintro e w9 ⟨rfl, hX9, hb9⟩
            have H9 := hide (hout.out _ _ _ hX9 hb9)
            clear hX9 hb9 e0 e1 e2 c1 c2 c3 d0 d1 d2
            go_wp2
            go_ret
            rw [hfin.out]
            exact H9.out
        · rw [hk1] at hN2
          dsimp only at hN2
          have hk3 : placeI (l.map (·.1)) a1 0 = (i : Int) := by simpa using hk2
          have hil : i < l.length := lt_of_get hli
          have hplace := hide (place_at An l.length cn w.heap.size (l.map (·.1)) (by simp) a1 (i : Int) hk3 w6 (HRN.out.below HW6.out) hws6 (by simp; omega))
          have p0 : (0 : Int) ≤ (i : Int) := by omega
          have p1 : (i : Int) < (l.length : Int) := by omega
          have p2 : decide ((i : Int) < 0) = false := by rw [decide_eq_false_iff_not]; omega
          have hlo : (l.map (·.2.1))[i]? = some lo := by simp [hli]
          have hhi : (l.map (·.2.2))[i]? = some hi := by simp [hli]
          obtain ⟨lb, lf, rfl, hlb, hlc⟩ := (HRL.out.below HW6.out) i lo hlo
          obtain ⟨hb, hf, rfl, hhb, hhc⟩ := (HRH.out.below HW6.out) i hi hhi
          have g0 : w6.cell? ⟨lb, lf + i, none⟩ = some (.int .i64 lo) := by simpa using hlc 0 _ rfl
          have g1 : w6.cell? ⟨hb, hf + i, none⟩ = some (.int .i64 hi) := by simpa using hhc 0 _ rfl
          have hlbl : lb < w6.heap.size := by omega
          have hhbl : hb < w6.heap.size := by omega
          clear hlo hhi hlc hhc hk2 hk3 hpn
          by_cases h7 : pc = 7
          · have hfin := hide (hN2.trans (if_pos h7))
            have t7 : (pc == 7) = true := by simpa using h7
            clear hN2 hk1 h7 hnd
            rcases hcase with rfl | ⟨rfl, rfl⟩
            all_goals
              go_wp2_with (fail)
              rw [HE6.out]
              refine hplace.out.mono ?_
              rintro e w7 ⟨rfl, rfl⟩
              go_wp2_with (fail)
              refine hnum.out.mono ?_
              rintro e w8 ⟨rfl, rfl⟩
              go_wp2_with (fail)
              refine hbad16.out.mono ?_
              rintro e w9 ⟨rfl, hX9, hb9⟩
              have H9 := hide (hout.out _ _ _ hX9 hb9)
              clear hX9 hb9 e0 e1 e2 c1 c2 c3 d0 d1 d2 g0 g1
              go_wp2
              go_ret
              rw [hfin.out]
              exact H9.out
          · have t7 : (pc == 7) = false := by simpa using h7
            have hN3 := hN2.trans (if_neg h7)
            by_cases hbad : pc ≠ 0 ∨ pn < lo ∨ hi < pn
            · have hfin := hide (hN3.trans (if_pos hbad))
              obtain ⟨u1, hu1⟩ : ∃ u, (pc != 0) = u := ⟨_, rfl⟩
              obtain ⟨u2, hu2⟩ : ∃ u, decide (pn < lo) = u := ⟨_, rfl⟩
              obtain ⟨u3, hu3⟩ : ∃ u, decide (hi < pn) = u := ⟨_, rfl⟩
              have hub : u1 = true ∨ (u1 = false ∧ u2 = true) ∨ (u1 = false ∧ u2 = false ∧ u3 = true) := by
                rw [← hu1, ← hu2, ← hu3]
                simp only [decide_eq_true_eq, decide_eq_false_iff_not, bne_iff_ne, ne_eq, bne_eq_false_iff_eq]
                omega
              clear hN2 hN3 hk1 h7 hnd hbad
              rcases hub with rfl | ⟨rfl, rfl⟩ | ⟨rfl, rfl, rfl⟩
              all_goals
                rcases hcase with rfl | ⟨rfl, rfl⟩
                all_goals
                  go_wp2_with (fail)
                  rw [HE6.out]
                  refine hplace.out.mono ?_
                  rintro e w7 ⟨rfl, rfl⟩
                  go_wp2_with (fail)
                  refine hnum.out.mono ?_
                  rintro e w8 ⟨rfl, rfl⟩
                  go_wp2_with (fail)
                  refine hbad2.out.mono ?_
                  rintro e w9 ⟨rfl, hX9, hb9⟩
                  have H9 := hide (hout.out _ _ _ hX9 hb9)
                  clear hX9 hb9 e0 e1 e2 c1 c2 c3 d0 d1 d2 g0 g1
                  go_wp2
                  go_ret
                  rw [hfin.out]
                  exact H9.out
            · have hok := hide (hN3.trans (if_neg hbad))
              have hgood : pc = 0 ∧ lo ≤ pn ∧ pn ≤ hi := by omega
              obtain ⟨rfl, q1, q2⟩ := hgood
              have t1 : decide (pn < lo) = false := by rw [decide_eq_false_iff_not]; omega
              have t2 : decide (hi < pn) = false := by rw [decide_eq_false_iff_not]; omega
              have hni2 := hide (HNI.out.put hk1 q1 q2)
              have o1 : w6.cell? ⟨w.heap.size + 1, i, none⟩ = some (.int .i64 (gv o a1)) := by
                have := HO6.out.cell i
                unfold outC at this
                simpa [hli] using this
              have o2 := HO6.out.frozen i
              have b1 : w6.cell? ⟨w.heap.size + 1 + 1, i, none⟩ = some (.bool (assoc a1 o).isSome) := by
                have := HB6.out.cell i
                unfold thrC at this
                simpa [hli] using this
              have b2 := HB6.out.frozen i
              have hOl6 := HO6.out.lt
              have hBl6 := HB6.out.lt
              have hO7 : Blk ((w6.setCell ⟨w.heap.size + 1, i, none⟩ (.int .i64 pn)).setCell ⟨w.heap.size + 1 + 1, i, none⟩ (.bool true)) (w.heap.size + 1) 3 (outC l (putA a1 pn o)) := by
                have := (HO6.out.set_ i (.int .i64 pn)).far (p := ⟨w.heap.size + 1 + 1, i, none⟩) (by dsimp only; omega) (.bool true)
                rwa [outC_put hnd hli] at this
              have hB7 : Blk ((w6.setCell ⟨w.heap.size + 1, i, none⟩ (.int .i64 pn)).setCell ⟨w.heap.size + 1 + 1, i, none⟩ (.bool true)) (w.heap.size + 1 + 1) 4 (thrC l (putA a1 pn o)) := by
                have := (HB6.out.far (p := ⟨w.heap.size + 1, i, none⟩) (by dsimp only; omega) (.int .i64 pn)).set_ i (.bool true)
                rwa [thrC_put hnd hli] at this
              have hT7 := (HT6.out.far (p := ⟨w.heap.size + 1, i, none⟩) (by dsimp only; omega) (.int .i64 pn)).far (p := ⟨w.heap.size + 1 + 1, i, none⟩) (by dsimp only; omega) (.bool true)
              have hW7 := (HW6.out.setCell (p := ⟨w.heap.size + 1, i, none⟩) (by dsimp only; omega) (.int .i64 pn)).setCell (p := ⟨w.heap.size + 1 + 1, i, none⟩) (by dsimp only; omega) (.bool true)
              have HO7 := hide hO7; have HB7 := hide hB7; have HT7 := hide hT7; have HW7 := hide hW7
              clear hN2 hN3 hk1 h7 hnd hbad hO7 hB7 hT7 hW7 q1 q2
              rcases hcase with rfl | ⟨rfl, rfl⟩
              all_goals
                go_wp2_with (fail)
                rw [HE6.out]
                refine hplace.out.mono ?_
                rintro e w7 ⟨rfl, rfl⟩
                go_wp2_with (fail)
                refine hnum.out.mono ?_
                rintro e w8 ⟨rfl, rfl⟩
                go_wp2
                go_roundw
                case rel => exact ⟨k + 1, putA a1 pn o, by omega, by go_num, hni2.out, HO7.out, HB7.out, HT7.out, HW7.out, hok.out⟩
                case measure => simp [intOf]; omega
    · have hkk : k = ats.length := by omega
      rw [hkk, List.drop_length] at hN
      have hN2 : numsL sup l t4 ats [] = if o.length < l.length then .error (t4, 18) else .ok o := hN
      have HN := hide hN2
      have hat := all_there hnd HNI.out
      have HAT := hide hat
      have hok := hide (show RNums X r l w (.ok o) (.returned (.slice (some ⟨w.heap.size + 1, 0, none⟩) l.length l.length)) wr from ⟨w.heap.size + 1, by omega, rfl, rd_out HO.out, HW.out⟩)
      have hout := hide (fun (w8 : World) (hX8 : Blk w8 X RSt (rst { r with e := 18, at_ := t4 })) (hb8 : But wr.heap.size X wr w8) => show RNums X r l w (.error (t4, 18)) (.returned (.slice (some ⟨w.heap.size + 1, 0, none⟩) l.length l.length)) w8 from
        ⟨w.heap.size + 1, _, by omega, rfl, by simp, rd_out (HO.out.but hb8 HO.out.lt (by omega)), hX8, (But.of HW.out X).trans hb8 hws⟩)
      clear hN hN2 hkk hat
      go_wp2_with (fail)
      generalize wr = wq at *
      go_loopw [18] (fun i wr => ∃ k2 : Nat, k2 ≤ l.length ∧ i = .int .i64 k2 ∧ (((∀ x ∈ l.take k2, (assoc x.1 o).isSome = true) ∧ wr = wq) ∨ ((∃ x ∈ l.take k2, (assoc x.1 o).isSome = false) ∧ Blk wr X RSt (rst { r with e := 18, at_ := t4 }) ∧ But wq.heap.size X wq wr))) (fun i _ => l.length - (intOf i).toNat)
      case atStart => exact ⟨0, Nat.zero_le _, rfl, .inl ⟨by simp, rfl⟩⟩
      case round =>
        obtain ⟨k2, hk2, rfl, hst⟩ := hrel
        by_cases hlt2 : k2 < l.length
        · obtain ⟨x, hx⟩ := get_of_lt hlt2
          have j0 : (0 : Int) ≤ (k2 : Int) := by omega
          have j1 : (k2 : Int) < (l.length : Int) := by omega
          obtain ⟨u, hu⟩ : ∃ u, (assoc x.1 o).isSome = u := ⟨_, rfl⟩
          have hbw : wq.cell? ⟨w.heap.size + 1 + 1, k2, none⟩ = some (.bool u) := by
            have := HB.out.cell k2
            unfold thrC at this
            simpa [hx, hu] using this
          rcases hst with ⟨hall, rfl⟩ | ⟨hno, hXz, hbz⟩
          · have hXz := HX5.out
            have HALL := hide hall
            clear hall
            cases u
            · have hbad := hide (bad_any X r t4 18 _ hXz he)
              have hno := hide (show ∃ y ∈ l.take (k2 + 1), (assoc y.1 o).isSome = false from ⟨x, by rw [take_step hx]; simp, hu⟩)
              clear hXz hx hu
              go_wp2_with (fail)
              refine hbad.out.mono ?_
              rintro e w9 ⟨rfl, hX9, hb9⟩
              have HX9 := hide hX9; have HB9 := hide hb9
              clear hX9 hb9
              go_wp2
              go_roundw
              case rel => exact ⟨k2 + 1, by omega, by go_num, .inr ⟨hno.out, HX9.out, HB9.out⟩⟩
              case measure => simp [intOf]; omega
            · have hall2 := hide (show ∀ y ∈ l.take (k2 + 1), (assoc y.1 o).isSome = true from fun y hy => by
                rw [take_step hx] at hy
                rcases List.mem_append.1 hy with hy | hy
                · exact HALL.out y hy
                · rw [List.mem_singleton] at hy; subst hy; exact hu)
              clear hXz hx hu
              go_wp2
              go_roundw
              case rel => exact ⟨k2 + 1, by omega, by go_num, .inl ⟨hall2.out, by first | rfl | trivial⟩⟩
              case measure => simp [intOf]; omega
          · have hbw2 : wr.cell? ⟨w.heap.size + 1 + 1, k2, none⟩ = some (.bool u) := by
              have := (HB.out.but hbz HB.out.lt (by omega)).cell k2
              unfold thrC at this
              simpa [hx, hu] using this
            have hTz := HT.out.but hbz HT.out.lt (by omega)
            have z3 := hTz.cell 3
            simp at z3
            have hzs := hbz.size
            have hno2 := hide (show ∃ y ∈ l.take (k2 + 1), (assoc y.1 o).isSome = false by
              obtain ⟨y, hy, hy2⟩ := hno
              exact ⟨y, by rw [take_step hx]; simp [hy], hy2⟩)
            have hbad := hide (bad_no X { r with e := 18, at_ := t4 } t4 18 wr hXz (by simp))
            have HXZ := hide hXz; have HBZ := hide hbz
            clear hXz hbz hTz hno hx hu hbw
            cases u
            · go_wp2_with (fail)
              refine hbad.out.mono ?_
              rintro e w9 ⟨rfl, rfl⟩
              go_wp2
              go_roundw
              case rel => exact ⟨k2 + 1, by omega, by go_num, .inr ⟨hno2.out, HXZ.out, HBZ.out⟩⟩
              case measure => simp [intOf]; omega
            · go_wp2
              go_roundw
              case rel => exact ⟨k2 + 1, by omega, by go_num, .inr ⟨hno2.out, HXZ.out, HBZ.out⟩⟩
              case measure => simp [intOf]; omega
        · have hkk : k2 = l.length := by omega
          rw [hkk, List.take_length] at hst
          have t0 : decide ((k2 : Int) < (l.length : Int)) = false := by rw [decide_eq_false_iff_not]; omega
          rcases hst with ⟨hall, rfl⟩ | ⟨hno, hXz, hbz⟩
          · have hfin := hide (HN.out.trans (if_neg (HAT.out.1 hall)))
            clear hall
            go_wp2
            go_ret
            rw [hfin.out]
            exact hok.out
          · have hfin := hide (HN.out.trans (if_pos (by
              refine Classical.byContradiction fun hc => ?_
              obtain ⟨y, hy, hy2⟩ := hno
              rw [HAT.out.2 hc y hy] at hy2
              cases hy2)))
            have H9 := hide (hout.out wr hXz hbz)
            clear hno hXz hbz
            go_wp2
            go_ret
            rw [hfin.out]
            exact H9.out
end Go.Proofs.Ytcblakflhheepaa
