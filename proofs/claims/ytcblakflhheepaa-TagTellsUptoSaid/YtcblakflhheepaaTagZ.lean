/- Chapter 41: the law TagTells. -/
import Derived.Test.YtcblakflhheepaaTagY
namespace Go.Proofs.Ytcblakflhheepaa
open Go.RowKit
set_option linter.unusedVariables false
set_option linter.unusedSimpArgs false

def fndI : List Ai → ByteArray → ByteArray × Bool
  | [], _ => (⟨#[]⟩, false)
  | a :: l, n => if eqS a.1 n then (a.2.1, true) else fndI l n

set_option maxRecDepth 100000 in
set_option maxHeartbeats 2000000 in
theorem findI_any (A : Option Addr) (cap : Nat) (l : List Ai) (B : Nat) (kd at_ : Int) (nm n : ByteArray) (w : World) (hB : B ≤ w.heap.size) (h : Rd w B 3 aic A l) (hl : l.length ≤ 100000) :
    Calls Try.prog 30 #[.agg #[.int .i64 kd, .string nm, .slice A l.length cap, .int .i64 at_], .string n] w
      fun e w' => e = .returned (.tuple #[.string (fndI l n).1, .bool (fndI l n).2]) ∧ Below w.heap.size w w' := by
  go_enter Try.func30, Try.ntmps30
  go_wp2
  go_loopw [11] (fun i wr => ∃ k : Nat, k ≤ l.length ∧ i = .int .i64 k ∧ Below w.heap.size w wr ∧ fndI l n = fndI (l.drop k) n) (fun i _ => l.length - (intOf i).toNat)
  case atStart => exact ⟨0, Nat.zero_le _, rfl, (by repeat (first | exact Below.refl _ _ | refine Below.alloc ?_ (by first | (simp; omega) | simp | omega) _ | refine drewN_below ?_ _ | refine Below.drew ?_)), rfl⟩
  case round =>
    obtain ⟨k, hk, rfl, hb, hf⟩ := hrel
    by_cases hlt : k < l.length
    · obtain ⟨x, hx⟩ := get_of_lt hlt
      obtain ⟨b, off, rfl, hbB, c0, c1, c2⟩ := (h.below (hb.mono hB)).ai hx
      have hf2 : fndI l n = if eqS x.1 n then (x.2.1, true) else fndI (l.drop (k + 1)) n := by rw [hf, drop_step hx]; rfl
      obtain ⟨v, hv⟩ : ∃ v, eqS x.1 n = v := ⟨_, rfl⟩
      rw [hv] at hf2
      have hv' : (x.1.toList == n.toList) = v := hv
      have HF := hide hf2
      clear hf hf2 hx hv
      cases v with
      | true =>
        go_wp2
        go_ret2
        rw [HF.out]
        exact ⟨rfl, (by have hsz := (hb).size; repeat (first | exact hb | refine Below.alloc ?_ (by first | (simp; omega) | simp | omega) _ | refine drewN_below ?_ _ | refine Below.drew ?_))⟩
      | false =>
        go_wp2
        go_roundw
        case rel => exact ⟨k + 1, by omega, by go_num, (by have hsz := (hb).size; repeat (first | exact hb | refine Below.alloc ?_ (by first | (simp; omega) | simp | omega) _ | refine drewN_below ?_ _ | refine Below.drew ?_)), by rw [HF.out]; rfl⟩
        case measure => simp [intOf]; omega
    · have HF : Hid (fndI l n = (⟨#[]⟩, false)) := by
        show fndI l n = _
        rw [hf, List.drop_eq_nil_of_le (by omega)]; rfl
      clear hf
      go_wp2
      go_ret2
      rw [HF.out]
      exact ⟨rfl, hb⟩
theorem findI_is (A : Option Addr) (cap : Nat) (l : List Ai) (B : Nat) (kd at_ : Int) (nm n fv : ByteArray) (fb : Bool) (hf : fndI l n = (fv, fb)) (w : World) (hB : B ≤ w.heap.size) (h : Rd w B 3 aic A l) (hl : l.length ≤ 100000) :
    Calls Try.prog 30 #[.agg #[.int .i64 kd, .string nm, .slice A l.length cap, .int .i64 at_], .string n] w
      fun e w' => e = .returned (.tuple #[.string fv, .bool fb]) ∧ Below w.heap.size w w' := by
  have := findI_any A cap l B kd at_ nm n w hB h hl
  rw [hf] at this
  exact this

theorem few_len {L : List Ti} (h : fewB L = true) : L.length ≤ 100 ∧ ∀ t ∈ L, t.2.2.1.length ≤ 3000 := by
  simp [fewB] at h
  refine ⟨h.1, fun t ht => ?_⟩
  have h1 : L.take 101 = L := List.take_of_length_le (by omega)
  have h2 := h.2
  unfold fewN at h2
  rw [h1] at h2
  have h3 : ∀ l : List Ti, t ∈ l → fewT t ≤ sumT l := by
    intro l
    induction l with
    | nil => intro h; cases h
    | cons x l ih =>
      intro h
      simp only [sumT, List.map_cons, List.sum_cons] at *
      rcases List.mem_cons.1 h with rfl | h
      · omega
      · have := ih h; omega
  have h4 := h3 L ht
  have h5 : t.2.2.1.length ≤ fewT t := by unfold fewT; omega
  omega

set_option maxRecDepth 100000 in
set_option maxHeartbeats 8000000 in
theorem lawTagTells_any (A : Option Addr) (cap : Nat) (L : List Ti) (n : ByteArray) (w : World) (hm : MaxL w) (h : RdJ w w.heap.size A L) (hl : L.length ≤ 1000000000000)
    (hla : ∀ t ∈ L, t.2.2.1.length ≤ 1000000000000 ∧ t.2.1.size ≤ 1000000000000 ∧ ∀ a ∈ t.2.2.1, a.1.size ≤ 1000000000000 ∧ a.2.1.size ≤ 1000000000000) (hw : (L.map wgt).sum ≤ 1000000000000) :
    Calls Try.prog 8 #[.slice A L.length cap, .string n] w fun e w' => e = .returned (.bool true) ∧ Below w.heap.size w w' := by
  have hp := hm.pos
  have HLA := hide hla
  have hi := h.i
  obtain ⟨v, hv⟩ : ∃ v, fewB L = v := ⟨_, rfl⟩
  have HV := hide hv
  clear hla hv
  go_enter Try.func8, Try.ntmps8
  go_wp2_with (fail)
  refine (few_any A cap L w.heap.size w (Nat.le_refl _) hi hl HLA.out).mono ?_
  rw [HV.out]
  rintro e w1 ⟨rfl, hb1⟩
  cases v with
  | false =>
    go_wp2_with (fail)
    refine (lives41_any w1 (hm.below hb1 hp)).mono ?_
    rintro e w2 ⟨rfl, hb2⟩
    have hw2 := hb1.trans (hb2.mono hb1.size)
    go_wp2
    go_ret
    exact ⟨rfl, hw2⟩
  | true =>
    have hfew := few_len HV.out
    have hlen := hfew.1
    have HFEW := hide hfew.2
    clear hfew
    have hs1 := hb1.size
    go_wp2_with (fail)
    refine (text_any A cap L w.heap.size w1 hs1 (h.below hb1) hl HLA.out hw).mono ?_
    obtain ⟨tx, te, htx⟩ : ∃ tx te, textOf L = (tx, te) := ⟨_, _, rfl⟩
    rw [htx]
    have HTX := hide htx
    clear htx
    rintro e w2 ⟨rfl, hb2⟩
    have hw2 := hb1.trans (hb2.mono hs1)
    have hs2 := hw2.size
    clear hb2
    go_wp2_with (fail)
    refine (Own_any A cap L w.heap.size w2 hs2 (hi.below hw2) (by omega) (fun t ht => by have := HFEW.out t ht; omega)).mono ?_
    rintro e w3 ⟨v3, rows3, rfl, hO3, hM3, hb3⟩
    obtain ⟨A3, n3, cap3, rfl, -, -⟩ := hO3.rd ric_len
    obtain ⟨hn3, hR3⟩ := rdI_ofI hO3 hM3
    have hw3 := hw2.trans (hb3.mono hs2)
    have hs3 := hw3.size
    subst hn3
    clear hO3 hM3 hb3
    go_wp2_with (fail)
    refine (rtext_any A3 cap3 L w3.heap.size w3 (Nat.le_refl _) hR3 hl HLA.out hw).mono ?_
    rw [HTX.out]
    rintro e w4 ⟨rfl, hb4⟩
    have hw4 := hw3.trans (hb4.mono hs3)
    clear hb4 hR3
    go_wp2_with (fail)
    go_loopw [9] (fun i wr => ∃ k : Nat, k ≤ L.length ∧ i = .int .i64 k ∧ Below w.heap.size w wr) (fun i _ => L.length - (intOf i).toNat)
    case atStart => exact ⟨0, Nat.zero_le _, rfl, hw4⟩
    case round =>
      obtain ⟨k, hk, rfl, hb⟩ := hrel
      have hsr := hb.size
      by_cases hlt : k < L.length
      · obtain ⟨t, ht⟩ := get_of_lt hlt
        obtain ⟨b, off, A', cap', rfl, hbB, c0, c1, c2, c3, hr0, hcap⟩ := h k t ht
        have hC2 := hide c2
        replace c0 := (hb.cell (p := ⟨b, _, none⟩) hbB).trans c0
        replace c1 := (hb.cell (p := ⟨b, _, none⟩) hbB).trans c1
        replace c2 := (hb.cell (p := ⟨b, _, none⟩) hbB).trans c2
        replace c3 := (hb.cell (p := ⟨b, _, none⟩) hbB).trans c3
        have htl := HFEW.out t (List.mem_of_getElem? ht)
        have i0 : (0 : Int) ≤ (k : Int) := by omega
        have i1 : (k : Int) < (L.length : Int) := by omega
        clear ht
        obtain ⟨t1, t2, t3, t4⟩ := t
        dsimp only at c0 c1 c2 c3 hC2 hr0 htl hcap
        obtain ⟨fv, fb, hf⟩ : ∃ fv fb, fndI t3 n = (fv, fb) := ⟨_, _, rfl⟩
        have HF := hide hf
        clear hf
        go_wp2_with (fail)
        refine (findI_is A' cap' t3 w.heap.size t1 t4 t2 n fv fb HF.out wr hsr (hr0.below hb) (by omega)).mono ?_
        rintro e w5 ⟨rfl, hb5⟩
        have hw5 := hb.trans (hb5.mono hsr)
        clear hb5 c0 c1 c2 c3
        go_wp2_with (fail)
        obtain ⟨wo, hwo⟩ : ∃ wo : World, wo = wr := ⟨_, rfl⟩
        subst hwo
        go_loopw [12] (fun i wx => ∃ j : Nat, j ≤ t3.length ∧ i = .int .i64 j ∧ Below w.heap.size w wx ∧ fndI t3 n = fndI (t3.drop j) n) (fun i _ => t3.length - (intOf i).toNat)
        case atStart => exact ⟨0, Nat.zero_le _, rfl, hw5, rfl⟩
        case round =>
          obtain ⟨j, hj, rfl, hbx, hfj⟩ := hrel
          have c2 := (hbx.cell (p := ⟨b, _, none⟩) hbB).trans hC2.out
          by_cases hlt2 : j < t3.length
          · obtain ⟨x, hx⟩ := get_of_lt hlt2
            obtain ⟨b2, off2, hA2, hb22, e0, e1, e2⟩ := (hr0.below hbx).ai hx
            subst hA2
            have hfj2 : fndI t3 n = if eqS x.1 n then (x.2.1, true) else fndI (t3.drop (j + 1)) n := by rw [hfj, drop_step hx]; rfl
            obtain ⟨v, hv⟩ : ∃ v, eqS x.1 n = v := ⟨_, rfl⟩
            rw [hv] at hfj2
            have hv1 : (x.1.toList == n.toList) = v := hv
            have hv2 : (x.1.toList != n.toList) = !v := by rw [← hv]; rfl
            have HFJ := hide hfj2
            have j0 : (0 : Int) ≤ (j : Int) := by omega
            have j1 : (j : Int) < (t3.length : Int) := by omega
            have j2 : decide (j < t3.length) = true := by simp; omega
            clear hfj hfj2 hx hv
            cases v with
            | false =>
              go_wp2
              go_roundw
              case rel => exact ⟨j + 1, by omega, by go_num, (by have hsz := (hbx).size; repeat (first | with_reducible exact hbx | with_reducible refine Below.alloc ?_ (by first | (simp; omega) | simp | omega) _ | with_reducible refine drewN_below ?_ _ | with_reducible refine Below.drew ?_)), by rw [HFJ.out]; rfl⟩
              case measure => simp [intOf]; omega
            | true =>
              have hff := HF.out
              rw [HFJ.out] at hff
              simp only [if_true, Prod.mk.injEq] at hff
              obtain ⟨rfl, rfl⟩ := hff
              go_wp2
              go_roundw
              case rel => exact ⟨k + 1, by omega, by go_num, (by have hsz := (hbx).size; repeat (first | with_reducible exact hbx | with_reducible refine Below.alloc ?_ (by first | (simp; omega) | simp | omega) _ | with_reducible refine drewN_below ?_ _ | with_reducible refine Below.drew ?_))⟩
              case measure => simp [intOf]; omega
          · have hff := HF.out
            rw [hfj, List.drop_eq_nil_of_le (by omega)] at hff
            simp only [fndI, Prod.mk.injEq] at hff
            obtain ⟨rfl, rfl⟩ := hff
            have j2 : decide (j < t3.length) = false := by simp; omega
            clear hfj
            go_wp2
            go_roundw
            case rel => exact ⟨k + 1, by omega, by go_num, (by have hsz := (hbx).size; repeat (first | with_reducible exact hbx | with_reducible refine Below.alloc ?_ (by first | (simp; omega) | simp | omega) _ | with_reducible refine drewN_below ?_ _ | with_reducible refine Below.drew ?_))⟩
            case measure => simp [intOf]; omega
      · go_wp2_with (fail)
        refine (lives41_any wr (hm.below hb hp)).mono ?_
        rintro e w6 ⟨rfl, hb6⟩
        have hw6 := hb.trans (hb6.mono hsr)
        go_wp2
        go_ret
        exact ⟨rfl, hw6⟩
end Go.Proofs.Ytcblakflhheepaa
