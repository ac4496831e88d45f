/- Chapter 42: Emit; lives. -/
import Derived.Test.YtaglmkjkmhpifaaGreatDoorXmlE
namespace Go.Proofs.YtaglmkjkmhpifaaGreatDoor
open Go.RowKit
set_option linter.unusedVariables false
set_option linter.unusedSimpArgs false

theorem own_cap {α : Type} {w : World} {base size n cap : Nat} {A : Option Addr} {e : TypeId} {c : α → List Value} {l : List α} (h : Own w base e size c (.slice A n cap) l) : n ≤ cap := by
  rcases h.2 with ⟨h1, h2⟩ | ⟨g', cap', cur, hv, _, _, hc, _⟩
  · injection h1; omega
  · injection hv with _ h1 h2; omega
theorem rdJ_ofI {e eT : TypeId} {w : World} {base n cap : Nat} {A : Option Addr} {rows : List Ri} {L : List Ti} (hO : Own w base eT 4 ric (.slice A n cap) rows) (hM : MtI e w base rows L) : n = L.length ∧ RdJ w w.heap.size A L := by
  refine ⟨by rw [hO.len, hM.len], fun i y hy => ?_⟩
  obtain ⟨r, hr, h1, h2, h3, h4⟩ := hM.get hy
  obtain ⟨A1, n1, cap1, he, hn, hrd⟩ := hO.rd ric_len
  injection he with e1 e2 e3
  subst e1
  obtain ⟨b, off, hA, hb, hc⟩ := hrd i r hr
  have hcap := own_cap h4
  obtain ⟨A2, n2, cap2, he2, hn2, hrd2⟩ := h4.rd aic_len
  injection he2 with e4 e5 e6
  refine ⟨b, off, A2, cap2, hA, hb, ?_, ?_, ?_, ?_, hrd2, by omega⟩
  · have := hc 0 _ rfl
    simpa [h1] using this
  · have := hc 1 _ rfl
    simpa [h2] using this
  · have := hc 2 _ rfl
    rw [this, e4, e5, e6, hn2]
  · have := hc 3 _ rfl
    rw [this, h3]
theorem rep_space (n : Nat) : Lib.repeatL [32] n = List.replicate n 32 := by
  induction n with
  | zero => rfl
  | succ n ih => rw [Lib.repeatL_add, ih, Lib.repeatL_one, List.replicate_succ']
theorem textOf_one {t : Ti} (h : rgtB t = true) : textOf [t] = (⟨(ttxt t).toArray⟩, 0) := by simp [textOf, h]
theorem repeat_any (n : Nat) (hn : n ≤ 4) (w : World) : Calls Tryz.prog 14 #[.string ⟨#[32]⟩, .int .i64 n] w fun e w' => e = .returned (.string ⟨Array.replicate n (32 : UInt8)⟩) ∧ Below w.heap.size w w' := by
  refine (Tryz.strings_Repeat ⟨#[32]⟩ n w (by omega) (by have : (⟨#[32]⟩ : ByteArray).size = 1 := rfl; rw [this]; omega)).mono ?_
  rintro e w' ⟨rfl, h⟩
  exact ⟨by rw [show (⟨#[32]⟩ : ByteArray).data.toList = [32] from rfl, rep_space]; simp, h⟩

theorem mem_wgtA2 {l : List Ai} {a : Ai} (h : a ∈ l) : wgtA a ≤ (l.map wgtA).sum := by
  induction l with
  | nil => cases h
  | cons x l ih =>
    simp only [List.map_cons, List.sum_cons]
    rcases List.mem_cons.1 h with rfl | h
    · omega
    · have := ih h; omega
theorem rdJ_one {w : World} {B g cap' : Nat} {A' : Option Addr} {t : Ti} (hb : Blk w g 48 #[.int .i64 t.1, .string t.2.1, .slice A' t.2.2.1.length cap', .int .i64 t.2.2.2]) (hg : g < B) (hr : Rd w B 3 aic A' t.2.2.1) (hc : t.2.2.1.length ≤ cap') : RdJ w B (some ⟨g, 0, none⟩) [t] := by
  intro i t' ht'
  match i, ht' with
  | 0, ht' =>
    simp at ht'
    subst ht'
    exact ⟨g, 0, A', cap', rfl, hg, by simpa using hb.cell 0, by simpa using hb.cell 1, by simpa using hb.cell 2, by simpa using hb.cell 3, hr, hc⟩
  | i + 1, ht' => simp at ht'

set_option maxRecDepth 100000 in
set_option maxHeartbeats 8000000 in
theorem xemit_any (A : Option Addr) (cap : Nat) (p : Pl) (w : World) (ht : Tab w) (h : RdD w w.heap.size A p.2.2.2.2) (hc : cntL p.2.2.2.2 ≤ 1000000) (hl : p.2.2.2.2.length ≤ 1000000) :
    Calls Tryz.prog 7 #[.agg #[.int .i64 p.1, .int .i64 p.2.1, .int .i64 p.2.2.1, .int .i64 p.2.2.2.1, .slice A p.2.2.2.2.length cap]] w fun e w' => e = .returned (.tuple #[.string (xmlOf p).1, .int .i64 (xmlOf p).2]) ∧ Below w.heap.size w w' := by
  obtain ⟨p1, p2, p3, p4, L⟩ := p
  dsimp only at h hc hl
  have hp := ht.pos
  have HT := hide ht
  clear ht
  go_enter Tryz.func7, Tryz.ntmps7
  go_wp2_with (fail)
  have hW : Below w.heap.size w (w.alloc (.cells #[.int .i64 p1, .int .i64 p2, .int .i64 p3, .int .i64 p4, .slice A L.length cap] 24)) := (by repeat (first | exact Below.refl _ _ | refine Below.alloc ?_ (by first | (simp; omega) | simp | omega) _ | refine drewN_below ?_ _ | refine Below.drew ?_))
  generalize w.alloc (.cells #[.int .i64 p1, .int .i64 p2, .int .i64 p3, .int .i64 p4, .slice A L.length cap] 24) = w1 at *
  have hs1 := hW.size
  refine (tags42_any A cap (p1, p2, p3, p4, L) w1 (HT.out.below hW hp) ((h.below hW).mono hs1) hc hl).mono ?_
  intro e w2 hT
  unfold Tags42 at hT
  by_cases hz : chkE (p1, p2, p3, p4, L) = 0
  · rw [if_pos hz] at hT
    obtain ⟨v, rfl, rows, hO, hM, hb2⟩ := hT
    obtain ⟨A2, n2, cap2, rfl, -, -⟩ := hO.rd ric_len
    obtain ⟨hn2, hJ⟩ := rdJ_ofI hO hM
    obtain ⟨k1, k2, k3, k4, k5, k6, -, k8⟩ := chk_ok hz
    dsimp only at k5 k6
    have hwg : ∀ t ∈ xmlTs (p1, p2, p3, p4, L), wgt t ≤ 400 := fun t ht => xmlTs_wgt ⟨k1, k2, k3, k4⟩ k8 ht
    have hrg : ∀ t ∈ xmlTs (p1, p2, p3, p4, L), rgtB t = true := fun t ht => xmlTs_right ht
    have hlen := xmlTs_len k8
    have hR : xmlOf (p1, p2, p3, p4, L) = (⟨(((xmlTs (p1, p2, p3, p4, L)).map indT).flatMap itxt).toArray⟩, 0) := if_pos hz
    have hw2 := hW.trans (hb2.mono hs1)
    have hs2 := hw2.size
    dsimp only at hlen
    generalize xmlTs (p1, p2, p3, p4, L) = T at *
    subst hn2
    have HR := hide hR
    have HWG := hide hwg
    have HRG := hide hrg
    have HJ := hide hJ
    clear hR hwg hrg k1 k2 k3 k4 k8 hO hM hb2 hJ hW
    have hbd0 := Bld.new w2.heap.size w2 (Nat.le_refl _)
    have hb0 : Below w2.heap.size w2 (w2.alloc (.cells #[.pointer none, .slice none 0 0] 45)) := (by repeat (first | exact Below.refl _ _ | refine Below.alloc ?_ (by first | (simp; omega) | simp | omega) _ | refine drewN_below ?_ _ | refine Below.drew ?_))
    go_wp2_with (fail)
    go_loopw [21] (fun i wr => ∃ k : Nat, k ≤ T.length ∧ i = .int .i64 k ∧ Bld w2.heap.size w2.heap.size (((T.take k).map indT).flatMap itxt) wr ∧ Below w2.heap.size w2 wr) (fun i _ => T.length - (intOf i).toNat)
    case atStart => exact ⟨0, Nat.zero_le _, rfl, by simpa using hbd0, hb0⟩
    case round =>
      obtain ⟨k, hk, rfl, hbd, hb⟩ := hrel
      clear hbd0 hb0
      have hsr := hb.size
      have hacl := itxts_len (L := T.take k) (fun t ht => HWG.out t (List.mem_of_mem_take ht))
      have htl : (T.take k).length ≤ T.length := by simp; omega
      by_cases hlt : k < T.length
      · obtain ⟨t, ht⟩ := get_of_lt hlt
        obtain ⟨b, off, A', cap', rfl, hbB, c0, c1, c2, c3, hr, hcap⟩ := (HJ.out.below hb) k t ht
        have htm := List.mem_of_getElem? ht
        have hwt := HWG.out t htm
        have hrt := HRG.out t htm
        have hil := itxt_len t
        have hst : ((T.take (k + 1)).map indT).flatMap itxt = ((T.take k).map indT).flatMap itxt ++ itxt (indT t) := by rw [take_step ht]; simp
        obtain ⟨acc, hacc⟩ : ∃ acc, ((T.take k).map indT).flatMap itxt = acc := ⟨_, rfl⟩
        rw [hacc] at hst hbd hacl
        have HST := hide hst
        have i0 : (0 : Int) ≤ (k : Int) := by omega
        have i1 : (k : Int) < (T.length : Int) := by omega
        have hJ1 : ∀ w' : World, Below w2.heap.size wr w' → Blk w' (wr.heap.size + 1) 48 #[.int .i64 t.1, .string t.2.1, .slice A' t.2.2.1.length cap', .int .i64 t.2.2.2] → wr.heap.size + 2 ≤ w'.heap.size → RdJ w' (wr.heap.size + 2) (some ⟨wr.heap.size + 1, 0, none⟩) [t] := fun w' hb' hg' hs' =>
          rdJ_one hg' (by omega) ((hr.below hb').mono (by omega)) hcap
        have HTX := hide (textOf_one hrt)
        have hsz : t.2.2.1.length ≤ 1000000000000 ∧ t.2.1.size ≤ 1000000000000 ∧ ∀ a ∈ t.2.2.1, a.1.size ≤ 1000000000000 ∧ a.2.1.size ≤ 1000000000000 := by
          have h1 := len_wgtA2 t.2.2.1
          simp only [wgt] at hwt
          refine ⟨by omega, by omega, fun a ha => ?_⟩
          have h2 := mem_wgtA2 ha
          simp only [wgtA] at h2
          constructor <;> omega
        have HSZ := hide hsz
        clear hst hacc ht htm hsz hr hcap
        obtain ⟨t1, t2, t3, t4⟩ := t
        dsimp only at c0 c1 c2 c3 hJ1 hwt
        obtain ⟨tx, htx⟩ : ∃ tx, ttxt (t1, t2, t3, t4) = tx := ⟨_, rfl⟩
        have hid : itxt (indT (t1, t2, t3, t4)) = List.replicate (deepN t2) 32 ++ tx := by rw [← htx]; rfl
        have htl2 : tx.length ≤ 400 := by have := ttxt_len (t1, t2, t3, t4); rw [htx] at this; omega
        have HT2 := HTX.out
        rw [htx] at HT2
        have HTX := hide HT2
        have HID := hide hid
        clear HT2 htx hid hrt hil
        have hWb : Below wr.heap.size wr ((wr.alloc (.cells #[.int .i64 t1, .string t2, .slice A' t3.length cap', .int .i64 t4] 48)).alloc (.cells #[.int .i64 t1, .string t2, .slice A' t3.length cap', .int .i64 t4] 48)) := (by repeat (first | exact Below.refl _ _ | refine Below.alloc ?_ (by first | (simp; omega) | simp | omega) _ | refine drewN_below ?_ _ | refine Below.drew ?_))
        have hB2 := (Blk.new wr 48 #[.int .i64 t1, .string t2, .slice A' t3.length cap', .int .i64 t4]).alloc (.cells #[.int .i64 t1, .string t2, .slice A' t3.length cap', .int .i64 t4] 48)
        have hB3 : Blk ((wr.alloc (.cells #[.int .i64 t1, .string t2, .slice A' t3.length cap', .int .i64 t4] 48)).alloc (.cells #[.int .i64 t1, .string t2, .slice A' t3.length cap', .int .i64 t4] 48)) (wr.heap.size + 1) 48 #[.int .i64 t1, .string t2, .slice A' t3.length cap', .int .i64 t4] := heap_new_at (by simp)
        have hsz2 : ((wr.alloc (.cells #[.int .i64 t1, .string t2, .slice A' t3.length cap', .int .i64 t4] 48)).alloc (.cells #[.int .i64 t1, .string t2, .slice A' t3.length cap', .int .i64 t4] 48)).heap.size = wr.heap.size + 2 := by simp
        go_wp2_with (fail)
        clear c0 c1 c2 c3
        refine (text_any (some ⟨wr.heap.size + 1, 0, none⟩) 1 [(t1, t2, t3, t4)] (wr.heap.size + 2) _ (by omega) (hJ1 _ (hWb.mono hsr) hB3 (by omega)) (by simp) (by simpa using HSZ.out) (by simp; omega)).mono ?_
        rintro e w3 ⟨rfl, hb3⟩
        rw [HTX.out]
        dsimp only
        have hBx := hB2.below hb3 (by omega)
        have hb13 := hWb.trans (hb3.mono (by omega))
        have hbd3 := hbd.below hb13
        have hbb3 := hb.trans (hb13.mono hsr)
        have hBl := hBx.lt
        have hs3 := hb13.size
        clear hJ1 hWb hB2 hB3 hsz2 hb3 hb13 hbd hb
        have c0 := hBx.cell 0
        have c1 := hBx.cell 1
        have c2 := hBx.cell 2
        have c3 := hBx.cell 3
        simp at c0 c1 c2 c3
        go_wp2_with (fail)
        refine (deep_any t1 t4 t2 _ w3).mono ?_
        rintro e w4 ⟨rfl, hb4⟩
        have hbd4 := hbd3.below hb4
        have hbb4 := hbb3.trans (hb4.mono (by omega))
        clear hbd3 hbb3 c0 c1 c2 c3 hBx
        go_wp2_with (fail)
        refine (repeat_any (deepN t2) (deepN_le _) w4).mono ?_
        rintro e w5 ⟨rfl, hb5⟩
        have hbd5 := hbd4.below hb5
        have hbb5 := hbb4.trans (hb5.mono hbb4.size)
        have hdl := deepN_le t2
        clear hbd4 hbb4 hb4 hb5
        go_wp2_with (fail)
        refine (write_any w2.heap.size w2.heap.size acc _ w5 hbd5 (by
          have e1 : (⟨Array.replicate (deepN t2) (32 : UInt8)⟩ : ByteArray).size = deepN t2 := by simp [ByteArray.size]
          have e2 : (⟨tx.toArray⟩ : ByteArray).size = tx.length := by simp [ByteArray.size]
          rw [ByteArray.size_append, e1, e2]; omega) hbb5.size).mono ?_
        rintro e w6 ⟨rfl, n1, n2, n3⟩
        have he6 : acc ++ ((⟨Array.replicate (deepN t2) (32 : UInt8)⟩ : ByteArray) ++ ⟨tx.toArray⟩).data.toList = ((T.take (k + 1)).map indT).flatMap itxt := by rw [HST.out, HID.out]; simp
        rw [he6] at n1
        have hb6 := hbb5.trans n2
        clear hbd5 hbb5 n2 n3 he6
        go_wp2
        go_roundw
        case rel => exact ⟨k + 1, by omega, by go_num, n1, hb6⟩
        case measure => simp [intOf]; omega
      · have hkk : k = T.length := by omega
        rw [hkk, List.take_length] at hbd
        clear hkk
        go_wp2_with (fail)
        refine (bstring_any w2.heap.size w2.heap.size _ wr hbd hsr).mono ?_
        rintro e w3 ⟨rfl, hb3⟩
        have hw3 := hw2.trans ((hb.trans hb3).mono hs2)
        go_wp2
        go_ret2
        rw [HR.out]
        exact ⟨rfl, hw3⟩
  · rw [if_neg hz] at hT
    obtain ⟨rfl, hb2⟩ := hT
    have hR : xmlOf (p1, p2, p3, p4, L) = (⟨#[]⟩, chkE (p1, p2, p3, p4, L)) := if_neg hz
    have HR := hide hR
    have hw2 := hW.trans (hb2.mono hs1)
    obtain ⟨ev, hev⟩ : ∃ ev, chkE (p1, p2, p3, p4, L) = ev := ⟨_, rfl⟩
    rw [hev] at hz ⊢
    have y0 : (ev != 0) = true := by simpa using hz
    have HEV := hide hev
    clear hz hR hev
    go_wp2
    go_ret2
    rw [HR.out, HEV.out]
    exact ⟨rfl, hw2⟩
end Go.Proofs.YtaglmkjkmhpifaaGreatDoor
