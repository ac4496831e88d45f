/- Chapter 41: Own copies tags for the reference. -/
import Derived.Test.YtaglmkjkmhpifaaDoorTagN
namespace Go.Proofs.YtaglmkjkmhpifaaDoor
open Go.RowKit
set_option linter.unusedVariables false
set_option linter.unusedSimpArgs false

def TrOkI (e : TypeId) (w : World) (base : Nat) (r : Ri) (t : Ti) : Prop :=
  r.1 = t.1 ∧ r.2.1 = t.2.1 ∧ r.2.2.2 = t.2.2.2 ∧ Own w base e 3 aic (.slice r.2.2.1.1 r.2.2.1.2.1 r.2.2.1.2.2) t.2.2.1
def MtI (e : TypeId) (w : World) (base : Nat) : List Ri → List Ti → Prop
  | [], [] => True
  | r :: rs, t :: ts => TrOkI e w base r t ∧ MtI e w base rs ts
  | _, _ => False
section
variable {e : TypeId} {w w' : World} {base : Nat}
theorem MtI.len : ∀ {rs : List Ri} {ts : List Ti}, MtI e w base rs ts → rs.length = ts.length
  | [], [], _ => rfl
  | [], _ :: _, h => h.elim
  | _ :: _, [], h => h.elim
  | _ :: _, _ :: _, h => by simp [MtI.len h.2]
theorem MtI.snoc {r : Ri} {t : Ti} (h : TrOkI e w base r t) : ∀ {rs : List Ri} {ts : List Ti}, MtI e w base rs ts → MtI e w base (rs ++ [r]) (ts ++ [t])
  | [], [], _ => ⟨h, trivial⟩
  | [], _ :: _, h' => h'.elim
  | _ :: _, [], h' => h'.elim
  | _ :: _, _ :: _, h' => ⟨h'.1, MtI.snoc h h'.2⟩
theorem MtI.keep (hk : ∀ (v : Value) (l : List Ai), Own w base e 3 aic v l → Own w' base e 3 aic v l) : ∀ {rs : List Ri} {ts : List Ti}, MtI e w base rs ts → MtI e w' base rs ts
  | [], [], _ => trivial
  | [], _ :: _, h => h.elim
  | _ :: _, [], h => h.elim
  | _ :: _, _ :: _, h => ⟨⟨h.1.1, h.1.2.1, h.1.2.2.1, hk _ _ h.1.2.2.2⟩, MtI.keep hk h.2⟩
theorem MtI.get : ∀ {rs : List Ri} {ts : List Ti}, MtI e w base rs ts → ∀ {i : Nat} {t : Ti}, ts[i]? = some t → ∃ r, rs[i]? = some r ∧ TrOkI e w base r t
  | [], [], _, i, t, ht => by simp at ht
  | [], _ :: _, h, _, _, _ => h.elim
  | _ :: _, [], h, _, _, _ => h.elim
  | r :: _, _ :: _, h, 0, t, ht => ⟨r, rfl, by simp at ht; exact ht ▸ h.1⟩
  | _ :: _, _ :: _, h, i + 1, t, ht => MtI.get h.2 (i := i) (by simpa using ht)
end
theorem rdI_ofI {e eT : TypeId} {w : World} {base n cap : Nat} {A : Option Addr} {rows : List Ri} {L : List Ti} (hO : Own w base eT 4 ric (.slice A n cap) rows) (hM : MtI e w base rows L) : n = L.length ∧ RdI w w.heap.size A L := by
  refine ⟨by rw [hO.len, hM.len], fun i y hy => ?_⟩
  obtain ⟨r, hr, h1, h2, h3, h4⟩ := hM.get hy
  obtain ⟨A1, n1, cap1, he, hn, hrd⟩ := hO.rd ric_len
  injection he with e1 e2 e3
  subst e1
  obtain ⟨b, off, hA, hb, hc⟩ := hrd i r hr
  obtain ⟨A2, n2, cap2, he2, hn2, hrd2⟩ := h4.rd aic_len
  injection he2 with e4 e5 e6
  refine ⟨b, off, A2, cap2, hA, hb, ?_, ?_, ?_, ?_, hrd2⟩
  · have := hc 0 _ rfl
    simpa [h1] using this
  · have := hc 1 _ rfl
    simpa [h2] using this
  · have := hc 2 _ rfl
    rw [this, e4, e5, e6, hn2]
  · have := hc 3 _ rfl
    rw [this, h3]

set_option maxRecDepth 100000 in
set_option maxHeartbeats 8000000 in
theorem Own_any (A : Option Addr) (cap : Nat) (L : List Ti) (B : Nat) (w : World) (hB : B ≤ w.heap.size) (h : RdI w B A L) (hl : L.length ≤ 5000000) (hla : ∀ t ∈ L, t.2.2.1.length ≤ 5000000) :
    Calls Tryd.prog 23 #[.slice A L.length cap] w fun e w' => ∃ v rows, e = .returned v ∧ Own w' w.heap.size RTag 4 ric v rows ∧ MtI RAttr w' w.heap.size rows L ∧ Below w.heap.size w w' := by
  go_enter Tryd.func23, Tryd.ntmps23
  go_wp2
  go_loopw [3, 4] (fun out i wr => ∃ (k : Nat) (rows : List Ri), k ≤ L.length ∧ i = .int .i64 k ∧ Own wr w.heap.size RTag 4 ric out rows ∧ MtI RAttr wr w.heap.size rows (L.take k) ∧ Below w.heap.size w wr) (fun _ i _ => L.length - (intOf i).toNat)
  case atStart => exact ⟨0, [], Nat.zero_le _, rfl, Own.nil _ _ _ _ _, by rw [List.take_zero]; trivial, Below.refl _ _⟩
  case round =>
    obtain ⟨k, rows, hk, rfl, hO, hM, hb⟩ := hrel
    have HO := hide hO
    have HM := hide hM
    clear hO hM
    by_cases hlt : k < L.length
    · obtain ⟨t, ht⟩ := get_of_lt hlt
      obtain ⟨b, off, A', cap', rfl, hbB, c0, c1, c2, c3, hr⟩ := (h.below (hb.mono hB)) k t ht
      have hal := hla t (List.mem_of_getElem? ht)
      obtain ⟨t1, t2, t3, t4⟩ := t
      dsimp only at c0 c1 c2 c3 hr hal
      have HX := hide ht
      clear ht
      have i0 : (0 : Int) ≤ (k : Int) := by omega
      have i1 : (k : Int) < (L.length : Int) := by omega
      have hBr : B ≤ wr.heap.size := by have := hb.size; omega
      have hbr : b < wr.heap.size := by omega
      go_wp2
      go_region_held3 (fun w' => Below (wr.heap.size) (wr) w' ∧ (∀ b o, b < wr.heap.size → w'.cell? ⟨b, o, none⟩ = (wr).cell? ⟨b, o, none⟩) ∧ (∀ b o, b < wr.heap.size → w'.frozen? ⟨b, o, none⟩ = (wr).frozen? ⟨b, o, none⟩))
        (first | exact held_refl _ _ | exact held_drew | (refine held_of ?_; (repeat (first | exact Below.refl wr.heap.size wr | refine drewN_below ?_ _ | refine Below.drew ?_ | refine Below.alloc ?_ ?_ _ | refine Below.setCell ?_ ?_ _ | omega | (simp; omega) | (simp; done))); done))
        (fail)
      have hT1 := (Blk.new wr RTag #[.int .i64 t1, .string t2, .slice none 0 0, .int .i64 t4]).drew
      have hb1 := ((Below.refl wr.heap.size wr).alloc (Nat.le_refl _) (.cells #[.int .i64 t1, .string t2, .slice none 0 0, .int .i64 t4] RTag)).drew
      generalize (wr.alloc (.cells #[.int .i64 t1, .string t2, .slice none 0 0, .int .i64 t4] RTag)).drew = w1 at *
      clear c0 c1 c3
      have hwo := hb.size
      go_wp2_with (fail)
      obtain ⟨wo, hwo2⟩ : ∃ wo : World, wo = wr := ⟨_, rfl⟩
      subst hwo2
      go_loopw [6] (fun i wx => ∃ (j : Nat) (v : Value), j ≤ t3.length ∧ i = .int .i64 j ∧ Blk wx wo.heap.size RTag #[.int .i64 t1, .string t2, v, .int .i64 t4] ∧ Own wx wo.heap.size RAttr 3 aic v (t3.take j) ∧ Below wo.heap.size wo wx) (fun i _ => t3.length - (intOf i).toNat)
      case atStart => exact ⟨0, _, Nat.zero_le _, rfl, hT1, by rw [List.take_zero]; exact Own.nil _ _ _ _ _, hb1⟩
      case round =>
        obtain ⟨j, v, hj, rfl, hT, hA, hbx⟩ := hrel
        clear hT1 hb1
        have d2 : wr.cell? ⟨b, off + k * 4 + 2, none⟩ = some (.slice A' t3.length cap') := (hbx.cell (p := ⟨b, _, none⟩) hbr).trans c2
        by_cases hlt2 : j < t3.length
        · obtain ⟨a, ha⟩ := get_of_lt hlt2
          obtain ⟨b2, off2, rfl, hb2, e0, e1, e2⟩ := ((hr.mono hBr).below hbx).ai ha
          have HY := hide ha
          clear ha
          obtain ⟨A3, n3, cap3, rfl, hn3, -⟩ := hA.rd aic_len
          have hjn : n3 = j := by rw [hn3]; simp; omega
          subst hjn
          have j0 : (0 : Int) ≤ (n3 : Int) := by omega
          have j1 : (n3 : Int) < (t3.length : Int) := by omega
          have f2 := hT.cell 2
          have f3 := hT.frozen 2
          have f4 := hT.lt
          have hsx := hbx.size
          simp at f2
          have HT := hide hT
          have HA := hide hA
          have hvb : ∀ q, (Value.slice A3 n3 cap3).ownBlock = some q → wo.heap.size ≤ q ∧ q < wr.heap.size := hA.lt
          have hb2r : b2 < wr.heap.size := by omega
          have hbr2 : b < wr.heap.size := by omega
          clear hT hA c2 hn3
          have hlt3 : (t3.take n3).length = n3 := by simp; omega
          have HL3 := hide hlt3
          clear hlt3
          go_wp2_with (fail)
          go_region_law ((refine step_append1 _ (by rfl) (.tmp 40) (.tmp 49) 86 (by rfl) Tryd.underlying86 infoRAttr (by rfl) (by decide) aic_len aic_one (base := wo.heap.size) (v := .slice A3 n3 cap3) (l := t3.take n3) (by rfl) (by repeat (first | exact HA.out | refine Own.alloc ?_ _ | refine Own.drewN ?_ _ | refine Own.drew ?_)) a wr.heap.size 1 (by rfl) ⟨_, _, heap_new_at (by simp)⟩ (by rw [HL3.out]; omega) (by rw [HL3.out]; omega) (by simp; omega) ?_; intro g capn w7 hO7 hg7 hat7 hlt7; obtain ⟨D1, D2, D3, D4, D5⟩ := own_store_back (k := 2) (w := wr) (B := wo.heap.size) (t := RTag) (cs := #[.int .i64 t1, .string t2, .slice A3 n3 cap3, .int .i64 t4]) (by repeat (first | exact Below.refl _ _ | refine Below.alloc ?_ (by first | (simp; omega) | simp | omega) _ | refine drewN_below ?_ _ | refine Below.drew ?_)) (by repeat (first | exact HT.out | refine Blk.alloc ?_ _ | refine Blk.drewN ?_ _ | refine Blk.drew ?_)) hO7 hg7 (own_blk_ne HA.out HT.out (by decide)) (fun q hq => (hvb q hq).1) (by decide) (by simp; omega) (Nat.le_refl _); clear hO7 hg7 hat7; rw [HL3.out] at D3 D4 D5; simp at D1))
          all_goals
            go_wp2
            go_roundw
            case rel => exact ⟨n3 + 1, _, by omega, by go_num, by simpa using D3, by rw [take_step HY.out]; exact D4, hbx.trans D5⟩
            case measure => simp [intOf]; omega
        · obtain rfl : j = t3.length := by omega
          rw [List.take_length] at hA
          obtain ⟨A3, n3, cap3, rfl, hn3, -⟩ := hA.rd aic_len
          have hsx := hbx.size
          have f0 := hT.cell 0
          have f1 := hT.cell 1
          have f2 := hT.cell 2
          have f3 := hT.cell 3
          simp at f0 f1 f2 f3
          have hO2 := HO.out.below hbx (fun q hq => (HO.out.lt q hq).2)
          have hM2 := HM.out.keep (w' := wr) (fun v l ho => ho.below hbx (fun q hq => (ho.lt q hq).2))
          have hb2 := hb.trans (hbx.mono (by have := hb.size; omega))
          have hrl := hM2.len
          have hsz2 := hb2.size
          have hrl2 : rows.length = k := by rw [hrl]; simp; omega
          have HRL := hide hrl2
          clear hT c2 hrl hrl2 hn3
          go_wp2_with (at_builtin; go_must (refine wpList_append1 _ rfl (.tmp 52) (.tmp 54) _ rfl Tryd.underlying44 infoRTag rfl (by decide) ric_len ric_one (base := w.heap.size) (v := u3) (l := rows) rfl ?_ (t1, t2, (A3, n3, cap3), t4) wr.heap.size 1 rfl ?_ ?_ ?_ ?_ ?_))
          · exact (by repeat (first | exact hO2 | refine Own.alloc ?_ _ | refine Own.drewN ?_ _ | refine Own.drew ?_))
          · exact ⟨_, _, heap_new_at (by simp)⟩
          · rw [HRL.out]; omega
          · rw [HRL.out]; omega
          · simp; omega
          · intro g cap4 w6 hO7 hg7 hat7 hlt7
            have hne : ∀ (v : Value) (l : List Ai), Own wr w.heap.size RAttr 3 aic v l → Own w6 w.heap.size RAttr 3 aic v l :=
              fun v l ho => (ho.alloc _).grown hg7 (own_own_ne ho hO2 (by decide))
            have hM7 := MtI.snoc (r := (t1, t2, (A3, n3, cap3), t4)) (t := (t1, t2, t3, t4)) ⟨rfl, rfl, rfl, hne _ _ (hA.mono (by have := hb.size; omega))⟩ (hM2.keep hne)
            have hb7 : Below w.heap.size w w6 := (hb2.alloc (by omega) _).grown hg7 (by simp; omega) (fun q hq => (hO2.lt q hq).1)
            clear hO2 hM2 hb2 hg7 hat7 hlt7 hne hA f0 f1 f2 f3
            go_wp2
            go_roundw
            case rel => exact ⟨k + 1, rows ++ [(t1, t2, (A3, n3, cap3), t4)], by omega, by go_num, hO7, by rw [take_step HX.out]; exact hM7, hb7⟩
            case measure => simp [intOf]; omega
    · have hk2 : k = L.length := by omega
      subst hk2
      go_wp2
      go_ret
      have hM := HM.out
      rw [List.take_length] at hM
      exact ⟨_, rows, rfl, HO.out, hM, hb⟩
end Go.Proofs.YtaglmkjkmhpifaaDoor
