/- Chapter 42: made. -/
import Derived.Test.YtaglmkjkmhpifaaGreatDoorTagNa
import Derived.Test.YtaglmkjkmhpifaaGreatDoorDigA
namespace Go.Proofs.YtaglmkjkmhpifaaGreatDoor
open Go.RowKit
set_option linter.unusedVariables false
set_option linter.unusedSimpArgs false

/-- A name and a number. -/
abbrev Nm := ByteArray × Int
abbrev nmc (x : Nm) : List Value := [.string x.1, .int .i64 x.2]
theorem nmc_len (x : Nm) : (nmc x).length = 2 := rfl
theorem Rd.nm {w : World} {B : Nat} {A : Option Addr} {l : List Nm} (h : Rd w B 2 nmc A l) {i : Nat} {x : Nm} (hx : l[i]? = some x) :
    ∃ b off, A = some ⟨b, off, none⟩ ∧ b < B ∧ w.cell? ⟨b, off + i * 2, none⟩ = some (.string x.1) ∧ w.cell? ⟨b, off + i * 2 + 1, none⟩ = some (.int .i64 x.2) := by
  obtain ⟨b, off, hA, hb, h⟩ := h i x hx
  exact ⟨b, off, hA, hb, by simpa using h 0 _ rfl, h 1 _ rfl⟩
/-- An attribute with a number. -/
def attrN (x : Nm) : Ai := (x.1, dig x.2, 0)
/-- A call hands back a tag whose attributes it laid. -/
def TagOut (w : World) (t : Ti) (e : Ending) (w' : World) : Prop :=
  ∃ A n cap, e = .returned (.agg #[.int .i64 t.1, .string t.2.1, .slice A n cap, .int .i64 t.2.2.2]) ∧ Own w' w.heap.size 86 3 aic (.slice A n cap) t.2.2.1 ∧ Below w.heap.size w w'
theorem store4 {w : World} {b base : Nat} {cs : Array Value} {v : Value} {l : List Ai} (hR : Blk w b 48 cs) (hs : cs.size = 4) (hO : Own w base 86 3 aic v l) (a0 a1 a3 : Value) :
    ((((w.setCell ⟨b, 0, none⟩ a0).setCell ⟨b, 1, none⟩ a1).setCell ⟨b, 2, none⟩ v).setCell ⟨b, 3, none⟩ a3).cell? ⟨b, 0, none⟩ = some a0 ∧
    ((((w.setCell ⟨b, 0, none⟩ a0).setCell ⟨b, 1, none⟩ a1).setCell ⟨b, 2, none⟩ v).setCell ⟨b, 3, none⟩ a3).cell? ⟨b, 1, none⟩ = some a1 ∧
    ((((w.setCell ⟨b, 0, none⟩ a0).setCell ⟨b, 1, none⟩ a1).setCell ⟨b, 2, none⟩ v).setCell ⟨b, 3, none⟩ a3).cell? ⟨b, 2, none⟩ = some v ∧
    ((((w.setCell ⟨b, 0, none⟩ a0).setCell ⟨b, 1, none⟩ a1).setCell ⟨b, 2, none⟩ v).setCell ⟨b, 3, none⟩ a3).cell? ⟨b, 3, none⟩ = some a3 ∧
    Own ((((w.setCell ⟨b, 0, none⟩ a0).setCell ⟨b, 1, none⟩ a1).setCell ⟨b, 2, none⟩ v).setCell ⟨b, 3, none⟩ a3) base 86 3 aic v l ∧
    ∀ (B : Nat) (W : World), B ≤ b → Below B W w → Below B W ((((w.setCell ⟨b, 0, none⟩ a0).setCell ⟨b, 1, none⟩ a1).setCell ⟨b, 2, none⟩ v).setCell ⟨b, 3, none⟩ a3) := by
  have hne := own_blk_ne hO hR (by decide)
  have h4 := (((hR.set_ 0 a0).set_ 1 a1).set_ 2 v).set_ 3 a3
  obtain ⟨cs⟩ := cs
  match cs, hs with
  | [x0, x1, x2, x3], _ =>
    refine ⟨by simpa using h4.cell 0, by simpa using h4.cell 1, by simpa using h4.cell 2, by simpa using h4.cell 3, ?_, ?_⟩
    · exact (((hO.setCell (p := ⟨b, 0, none⟩) hne _).setCell (p := ⟨b, 1, none⟩) hne _).setCell (p := ⟨b, 2, none⟩) hne _).setCell (p := ⟨b, 3, none⟩) hne _
    · intro B W hB h
      exact (((h.setCell (p := ⟨b, 0, none⟩) hB _).setCell (p := ⟨b, 1, none⟩) hB _).setCell (p := ⟨b, 2, none⟩) hB _).setCell (p := ⟨b, 3, none⟩) hB _

set_option maxRecDepth 100000 in
set_option maxHeartbeats 4000000 in
theorem made42_any (A : Option Addr) (cap : Nat) (l : List Nm) (kd : Int) (nm : ByteArray) (B : Nat) (w : World) (ht : Tab w) (hB : B ≤ w.heap.size) (hr : Rd w B 2 nmc A l) (hl : l.length ≤ 1000) (hi : ∀ x ∈ l, I64 x.2) :
    Calls Tryz.prog 29 #[.int .i64 kd, .string nm, .slice A l.length cap] w (TagOut w (kd, nm, l.map attrN, 0)) := by
  have hp := ht.pos
  have HT := hide ht
  have HI := hide hi
  clear ht hi
  go_enter Tryz.func29, Tryz.ntmps29
  go_wp2
  have hR0 := (Blk.new w 48 #[.int .i64 0, .string ⟨#[]⟩, .slice none 0 0, .int .i64 0]).alloc (.cells #[.int .i64 kd, .string nm, .slice none 0 0, .int .i64 0] 48)
  have hT0 : Blk ((w.alloc (.cells #[.int .i64 0, .string ⟨#[]⟩, .slice none 0 0, .int .i64 0] 48)).alloc (.cells #[.int .i64 kd, .string nm, .slice none 0 0, .int .i64 0] 48)) (w.heap.size + 1) 48 #[.int .i64 kd, .string nm, .slice none 0 0, .int .i64 0] := heap_new_at (by simp)
  have hW0 : Below w.heap.size w ((w.alloc (.cells #[.int .i64 0, .string ⟨#[]⟩, .slice none 0 0, .int .i64 0] 48)).alloc (.cells #[.int .i64 kd, .string nm, .slice none 0 0, .int .i64 0] 48)) := (by repeat (first | exact Below.refl _ _ | refine Below.alloc ?_ (by first | (simp; omega) | simp | omega) _ | refine drewN_below ?_ _ | refine Below.drew ?_))
  generalize ((w.alloc (.cells #[.int .i64 0, .string ⟨#[]⟩, .slice none 0 0, .int .i64 0] 48)).alloc (.cells #[.int .i64 kd, .string nm, .slice none 0 0, .int .i64 0] 48)) = w1 at *
  go_loopw [15] (fun i wr => ∃ (k : Nat) (v : Value), k ≤ l.length ∧ i = .int .i64 k ∧ Blk wr w.heap.size 48 #[.int .i64 0, .string ⟨#[]⟩, .slice none 0 0, .int .i64 0] ∧ Blk wr (w.heap.size + 1) 48 #[.int .i64 kd, .string nm, v, .int .i64 0] ∧ Own wr (w.heap.size + 1) 86 3 aic v ((l.take k).map attrN) ∧ Below w.heap.size w wr) (fun i _ => l.length - (intOf i).toNat)
  case atStart => exact ⟨0, _, Nat.zero_le _, rfl, hR0, hT0, Own.nil _ _ _ _ _, hW0⟩
  case round =>
    obtain ⟨k, v, hk, rfl, hR, hT, hO, hb⟩ := hrel
    clear hR0 hT0 hW0
    obtain ⟨A3, n3, cap3, rfl, hn3, -⟩ := hO.rd aic_len
    have hkn : n3 = k := by rw [hn3]; simp; omega
    subst hkn
    have hlm : ((l.take n3).map attrN).length = n3 := by simp; omega
    have HLM := hide hlm
    have hs := hb.size
    have hTl := hT.lt
    have f0 := hT.cell 0
    have f1 := hT.cell 1
    have f2 := hT.cell 2
    have f3 := hT.cell 3
    simp at f0 f1 f2 f3
    by_cases hlt : n3 < l.length
    · obtain ⟨x, hx⟩ := get_of_lt hlt
      obtain ⟨b2, off2, rfl, hb2, e0, e1⟩ := (hr.below (hb.mono hB)).nm hx
      have hix := HI.out x (List.mem_of_getElem? hx)
      have HIX := hide hix
      have HX := hide hx
      obtain ⟨x1, x2⟩ := x
      dsimp only at e0 e1
      have j0 : (0 : Int) ≤ (n3 : Int) := by omega
      have j1 : (n3 : Int) < (l.length : Int) := by omega
      have hb2r : b2 < wr.heap.size := by omega
      have hvb : ∀ q, (Value.slice A3 n3 cap3).ownBlock = some q → w.heap.size + 1 ≤ q ∧ q < wr.heap.size := hO.lt
      have hW2 : Below wr.heap.size wr (wr.alloc (.cells #[.string x1, .int .i64 x2] 77)) := (by repeat (first | exact Below.refl _ _ | refine Below.alloc ?_ (by first | (simp; omega) | simp | omega) _ | refine drewN_below ?_ _ | refine Below.drew ?_))
      have hN2 := Blk.new wr 77 #[.string x1, .int .i64 x2]
      have hR2 := hR.alloc (.cells #[.string x1, .int .i64 x2] 77)
      have hT2 := hT.alloc (.cells #[.string x1, .int .i64 x2] 77)
      have hO2 := hO.alloc (.cells #[.string x1, .int .i64 x2] 77)
      have hTb2 := HT.out.below (hb.trans (hW2.mono hs)) hp
      have hs2 : (wr.alloc (.cells #[.string x1, .int .i64 x2] 77)).heap.size = wr.heap.size + 1 := by simp
      clear hlm hix hx hn3 hR hT hO
      go_wp2_with (fail)
      clear f0 f1 f2 f3 e0 e1
      generalize hwc : wr.alloc (.cells #[.string x1, .int .i64 x2] 77) = wc at *
      clear hwc
      have g0 := hN2.cell 0
      have g1 := hN2.cell 1
      have f2 := hT2.cell 2
      simp at g0 g1 f2
      have HO := hide hO2.drew
      have HTT := hide hT2.drew
      have HRR := hide hR2.drew
      have HNN := hide hN2.drew
      clear hO2 hT2 hR2
      have hcall : Calls Tryz.prog 53 #[.int .i64 x2] wc.drew fun e w' => e = .returned (.string (dig x2)) ∧ Below wc.heap.size wc.drew w' := digits_any x2 HIX.out wc.drew (hTb2.below (Below.refl _ _).drew (show 1 < wc.heap.size by omega))
      have HC := hide hcall
      clear hcall
      have hNl := hN2.lt
      go_region_law (first
        | (refine step_append1 _ (by rfl) (.tmp 20) (.tmp 27) 46 (by rfl) Tryz.underlying46 infoAttr (by rfl) (by decide) aic_len aic_one (base := w.heap.size + 1) (v := .slice A3 n3 cap3) (l := (l.take n3).map attrN) (by rfl) (by repeat (first | exact HO3.out | refine Own.alloc ?_ _ | refine Own.drewN ?_ _ | refine Own.drew ?_)) (attrN (x1, x2)) w6.heap.size 1 (by rfl) ⟨_, _, heap_new_at (by simp)⟩ (by rw [HLM.out]; omega) (by rw [HLM.out]; omega) (by have := hb6.size; simp; omega) ?_; intro g capn w7 hO7 hg7 hat7 hlt7; have hsz6 := hb6.size; obtain ⟨D1, D2, D3, D4, D5⟩ := own_store_back (k := 2) (w := w6) (B := w.heap.size + 1) (t := 48) (cs := #[.int .i64 kd, .string nm, .slice A3 n3 cap3, .int .i64 0]) (by refine Below.alloc (Below.refl _ _) ?_ _; omega) (Blk.alloc HT3.out _) hO7 hg7 (own_blk_ne HO3.out HT3.out (by decide)) (fun q hq => (hvb q hq).1) (by decide) (by simp; omega) (Nat.le_refl _); clear hO7 hg7 hat7; rw [HLM.out] at D3 D4 D5; simp at D1)
        | (go_simp; go_at_call 53; refine HC.out.mono ?_; rintro e w6 ⟨rfl, hb6⟩; have HT3 := hide (HTT.out.below hb6 (by have := HTT.out.lt; omega)); have HO3 := hide (HO.out.below hb6 (fun q hq => (HO.out.lt q hq).2)); have HR3 := hide (HRR.out.below hb6 (by have := HRR.out.lt; omega)); have t6 := HT3.out.cell 2; have t7 := HT3.out.frozen 2; have t8 := HT3.out.lt; have m0 := (HNN.out.below hb6 hNl).cell 0; simp at t6 m0))
      all_goals
        have hR8 := HR3.out.below D5 (by omega)
        have hT8 : Blk (w7.setCell ⟨w.heap.size + 1, 2, none⟩ (.slice (some ⟨g, 0, none⟩) (n3 + 1) capn)) (w.heap.size + 1) 48 #[.int .i64 kd, .string nm, .slice (some ⟨g, 0, none⟩) (n3 + 1) capn, .int .i64 0] := by simpa using D3
        have hO8 : Own (w7.setCell ⟨w.heap.size + 1, 2, none⟩ (.slice (some ⟨g, 0, none⟩) (n3 + 1) capn)) (w.heap.size + 1) 86 3 aic (.slice (some ⟨g, 0, none⟩) (n3 + 1) capn) ((l.take (n3 + 1)).map attrN) := by rw [take_step HX.out, List.map_append]; exact D4
        have hw8 := (hb.trans ((hW2.trans (Below.trans (Below.refl _ _).drew (hb6.mono (show wr.heap.size ≤ wc.heap.size by omega)))).mono hs)).trans (D5.mono (show w.heap.size ≤ w.heap.size + 1 by omega))
        generalize w7.setCell ⟨w.heap.size + 1, 2, none⟩ (.slice (some ⟨g, 0, none⟩) (n3 + 1) capn) = w8 at *
        clear D1 D2 D3 D4 D5 t6 t7 t8 m0 g0 g1 f2 HC HO HTT HRR HNN HT3 HO3 HR3 hb6
        go_wp2
        go_roundw
        case rel => exact ⟨n3 + 1, _, by omega, by go_num, hR8, hT8, hO8, hw8⟩
        case measure => simp [intOf]; omega
    · have hkk : n3 = l.length := by omega
      rw [hkk, List.take_length] at hO
      have r0 := hR.frozen 0
      have r1' := hR.frozen 1
      have r2' := hR.frozen 2
      have r3' := hR.frozen 3
      have c0 := hR.cell 0
      have c1 := hR.cell 1
      have c2 := hR.cell 2
      have c3 := hR.cell 3
      have hRl := hR.lt
      simp at c0 c1 c2 c3
      rw [← hkk] at hO
      have hst := hide (store4 hR rfl hO (.int .i64 kd) (.string nm) (.int .i64 0))
      clear hlm HLM hkk hn3 hR hT hO
      go_wp2
      obtain ⟨q0, q1, q2, q3, qO, qB⟩ := hst.out
      refine bodyPost_ret (v := .agg #[.int .i64 kd, .string nm, .slice A3 n3 cap3, .int .i64 0]) (by simp [results, Tryz.results29, go_sem, q0, q1, q2, q3]) rfl ?_
      exact ⟨_, _, _, rfl, qO.mono (by omega), qB _ _ (Nat.le_refl _) hb⟩
end Go.Proofs.YtaglmkjkmhpifaaGreatDoor
