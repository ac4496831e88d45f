/- Chapter 41: right. -/
import Derived.Test.YtaglmkjkmhpifaaGreatDoorTagT
namespace Go.Proofs.YtaglmkjkmhpifaaGreatDoor
open Go.RowKit
set_option linter.unusedVariables false
set_option linter.unusedSimpArgs false

theorem right_early (A : Option Addr) (cap : Nat) (l : List Ai) (kd at_ : Int) (nm : ByteArray) (w : World) (hk : kd < 1 ∨ 3 < kd) :
    Calls Tryz.prog 32 #[.agg #[.int .i64 kd, .string nm, .slice A l.length cap, .int .i64 at_]] w fun e w' => e = .returned (.bool false) ∧ Below w.heap.size w w' := by
  rcases hk with hk | hk
  · have t0 : decide (kd < 1) = true := by simpa using hk
    go_enter Tryz.func32, Tryz.ntmps32
    go_wp2
    go_ret
    exact ⟨rfl, (by repeat (first | exact Below.refl _ _ | refine Below.alloc ?_ (by first | (simp; omega) | simp | omega) _ | refine drewN_below ?_ _ | refine Below.drew ?_))⟩
  · have t0 : decide (kd < 1) = false := by simp; omega
    have t1 : decide (3 < kd) = true := by simpa using hk
    go_enter Tryz.func32, Tryz.ntmps32
    go_wp2
    go_ret
    exact ⟨rfl, (by repeat (first | exact Below.refl _ _ | refine Below.alloc ?_ (by first | (simp; omega) | simp | omega) _ | refine drewN_below ?_ _ | refine Below.drew ?_))⟩

theorem right_unnamed (A : Option Addr) (cap : Nat) (l : List Ai) (kd at_ : Int) (nm : ByteArray) (w : World) (h1 : 1 ≤ kd) (h3 : kd ≤ 3) (hs : nm.size ≤ 1000000000000) (hn : nameB nm = false) :
    Calls Tryz.prog 32 #[.agg #[.int .i64 kd, .string nm, .slice A l.length cap, .int .i64 at_]] w fun e w' => e = .returned (.bool false) ∧ Below w.heap.size w w' := by
  have t0 : decide (kd < 1) = false := by simp; omega
  have t1 : decide (3 < kd) = false := by simp; omega
  have HN := hide hn
  clear hn
  go_enter Tryz.func32, Tryz.ntmps32
  go_wp2_with (fail)
  refine (named_is nm false HN.out hs _).mono ?_
  rintro e w1 ⟨rfl, hb⟩
  have hb2 := ((by repeat (first | exact Below.refl _ _ | refine Below.alloc ?_ (by first | (simp; omega) | simp | omega) _ | refine drewN_below ?_ _ | refine Below.drew ?_)) : Below w.heap.size w (w.alloc (.cells #[.int .i64 kd, .string nm, .slice A l.length cap, .int .i64 at_] 48))).trans (hb.mono (by simp))
  clear hb
  go_wp2
  go_ret
  exact ⟨rfl, hb2⟩

theorem right_close (A : Option Addr) (cap : Nat) (l : List Ai) (at_ : Int) (nm : ByteArray) (w : World) (hs : nm.size ≤ 1000000000000) (hn : nameB nm = true) (hl : 0 < l.length) :
    Calls Tryz.prog 32 #[.agg #[.int .i64 2, .string nm, .slice A l.length cap, .int .i64 at_]] w fun e w' => e = .returned (.bool false) ∧ Below w.heap.size w w' := by
  have HN := hide hn
  clear hn
  go_enter Tryz.func32, Tryz.ntmps32
  go_wp2_with (fail)
  refine (named_is nm true HN.out hs _).mono ?_
  rintro e w1 ⟨rfl, hb⟩
  have hT := (Blk.new w 48 #[.int .i64 2, .string nm, .slice A l.length cap, .int .i64 at_]).below hb (by simp)
  have hb2 := ((by repeat (first | exact Below.refl _ _ | refine Below.alloc ?_ (by first | (simp; omega) | simp | omega) _ | refine drewN_below ?_ _ | refine Below.drew ?_)) : Below w.heap.size w (w.alloc (.cells #[.int .i64 2, .string nm, .slice A l.length cap, .int .i64 at_] 48))).trans (hb.mono (by simp))
  have c0 := hT.cell 0
  have c2 := hT.cell 2
  simp at c0 c2
  have t2 : decide ((0 : Int) < (l.length : Int)) = true := by simp; omega
  clear hb
  go_wp2
  go_ret
  exact ⟨rfl, hb2⟩

set_option maxRecDepth 100000 in
set_option maxHeartbeats 4000000 in
theorem right_two (A : Option Addr) (cap : Nat) (at_ : Int) (nm : ByteArray) (w : World) (hs : nm.size ≤ 1000000000000) (hn : nameB nm = true) :
    Calls Tryz.prog 32 #[.agg #[.int .i64 2, .string nm, .slice A 0 cap, .int .i64 at_]] w fun e w' => e = .returned (.bool true) ∧ Below w.heap.size w w' := by
  have HN := hide hn
  clear hn
  go_enter Tryz.func32, Tryz.ntmps32
  go_wp2_with (fail)
  refine (named_is nm true HN.out hs _).mono ?_
  rintro e w1 ⟨rfl, hb⟩
  have hT := (Blk.new w 48 #[.int .i64 2, .string nm, .slice A 0 cap, .int .i64 at_]).below hb (by simp)
  have hb2 := ((by repeat (first | exact Below.refl _ _ | refine Below.alloc ?_ (by first | (simp; omega) | simp | omega) _ | refine drewN_below ?_ _ | refine Below.drew ?_)) : Below w.heap.size w (w.alloc (.cells #[.int .i64 2, .string nm, .slice A 0 cap, .int .i64 at_] 48))).trans (hb.mono (by simp))
  have c0 := hT.cell 0
  have c2 := hT.cell 2
  simp at c0 c2
  clear hb
  go_wp2
  go_loopw [36] (fun i wr => i = .int .i64 0 ∧ wr = w1) (fun i _ => 0)
  case atStart => exact ⟨rfl, rfl⟩
  case round =>
    obtain ⟨rfl, rfl⟩ := hrel
    go_wp2
    go_ret
    exact ⟨rfl, hb2⟩

set_option maxRecDepth 100000 in
set_option maxHeartbeats 8000000 in
theorem right_loop (A : Option Addr) (cap : Nat) (l : List Ai) (B : Nat) (kd at_ : Int) (nm : ByteArray) (w : World) (hB : B ≤ w.heap.size) (h : Rd w B 3 aic A l) (hcap : l.length ≤ cap) (hl : l.length ≤ 1000000000000) (hla : ∀ a ∈ l, a.1.size ≤ 1000000000000 ∧ a.2.1.size ≤ 1000000000000)
    (h1 : 1 ≤ kd) (h3 : kd ≤ 3) (hs : nm.size ≤ 1000000000000) (hn : nameB nm = true) (hk : kd ≠ 2) :
    Calls Tryz.prog 32 #[.agg #[.int .i64 kd, .string nm, .slice A l.length cap, .int .i64 at_]] w fun e w' => e = .returned (.bool (rgtA [] l)) ∧ Below w.heap.size w w' := by
  have t0 : decide (kd < 1) = false := by simp; omega
  have t1 : decide (3 < kd) = false := by simp; omega
  have t2 : (kd == 2) = false := by simpa using hk
  have HN := hide hn
  clear hn
  go_enter Tryz.func32, Tryz.ntmps32
  go_wp2_with (fail)
  refine (named_is nm true HN.out hs _).mono ?_
  rintro e w1 ⟨rfl, hb⟩
  have hT := (Blk.new w 48 #[.int .i64 kd, .string nm, .slice A l.length cap, .int .i64 at_]).below hb (by simp)
  have hb2 := ((by repeat (first | exact Below.refl _ _ | refine Below.alloc ?_ (by first | (simp; omega) | simp | omega) _ | refine drewN_below ?_ _ | refine Below.drew ?_)) : Below w.heap.size w (w.alloc (.cells #[.int .i64 kd, .string nm, .slice A l.length cap, .int .i64 at_] 48))).trans (hb.mono (by simp))
  have hTl := hT.lt
  clear hb
  have c0 := hT.cell 0
  have c2 := hT.cell 2
  simp at c0 c2
  go_wp2_with (fail)
  clear t0 t1 t2 c0 c2
  go_loopw [36] (fun i wr => ∃ k : Nat, k ≤ l.length ∧ i = .int .i64 k ∧ Below w1.heap.size w1 wr ∧ rgtA [] l = rgtA (l.take k) (l.drop k)) (fun i _ => l.length - (intOf i).toNat)
  case atStart => exact ⟨0, Nat.zero_le _, rfl, Below.refl _ _, rfl⟩
  case round =>
    obtain ⟨k, hk, rfl, hb, hf⟩ := hrel
    have hbw := hb2.trans (hb.mono hb2.size)
    by_cases hlt : k < l.length
    · obtain ⟨x, hx⟩ := get_of_lt hlt
      have hr1 := (h.below (hb2.mono hB)).below (hb.mono (by have := hb2.size; omega))
      obtain ⟨b, off, rfl, hbB, e0, e1, e2⟩ := hr1.ai hx
      obtain ⟨hx1, hx2⟩ := hla x (List.mem_of_getElem? hx)
      have hf2 : rgtA [] l = (!hasB x.1 (l.take k) && nameB x.1 && allP plaB x.2.1 && rgtA (l.take (k + 1)) (l.drop (k + 1))) := by rw [hf, drop_step hx, take_step hx]; rfl
      have HF := hide hf2
      have i0 : (0 : Int) ≤ (k : Int) := by omega
      have i1 : (k : Int) < (l.length : Int) := by omega
      have i2 : (k : Int) ≤ (cap : Int) := by omega
      have htl : (l.take k).length = k := by simp; omega
      have HTL := hide htl
      have hT1 := hT.below hb hTl
      have c2 := hT1.cell 2
      simp at c2
      have hTl1 := hT1.lt
      have HR := hide hr1
      have hBr : B ≤ wr.heap.size := by have := hbw.size; omega
      clear hf hf2 hx htl hr1
      obtain ⟨v, hv⟩ : ∃ v, hasB x.1 (l.take k) = v := ⟨_, rfl⟩
      have HV := hide hv
      clear hv
      go_wp2_with (fail)
      have hA1 := Blk.new wr 86 #[.string x.1, .string x.2.1, .int .i64 x.2.2]
      have hb3 := ((by repeat (first | exact Below.refl _ _ | refine Below.alloc ?_ (by first | (simp; omega) | simp | omega) _ | refine drewN_below ?_ _ | refine Below.drew ?_)) : Below wr.heap.size wr (wr.alloc (.cells #[.string x.1, .string x.2.1, .int .i64 x.2.2] 86)))
      have hs3 : (wr.alloc (.cells #[.string x.1, .string x.2.1, .int .i64 x.2.2] 86)).heap.size = wr.heap.size + 1 := by simp
      have HR3 := hide (HR.out.below (hb3.mono hBr))
      refine (contains_at _ cap k (l.take k) HTL.out B wr.heap.size x v HV.out _ (by omega) (HR3.out.take k) (by omega) hA1).mono ?_
      rintro e w3 ⟨rfl, hb4⟩
      have hA3 := hA1.below hb4 (by omega)
      have hb5 := hb.trans ((hb3.trans (hb4.mono (by omega))).mono hb.size)
      have hw5 := hb2.trans (hb5.mono hb2.size)
      have hA3l := hA3.lt
      have a0 := hA3.cell 0
      have a1 := hA3.cell 1
      simp at a0 a1
      clear hA1 hb3 hb4 hs3 e0 e1 e2 c2 hT1
      cases v with
      | true =>
        go_wp2
        go_ret
        exact ⟨ret_bool (by rw [HF.out, HV.out]; rfl), hw5⟩
      | false =>
        obtain ⟨v2, hv2⟩ : ∃ v2, nameB x.1 = v2 := ⟨_, rfl⟩
        have HV2 := hide hv2
        clear hv2
        go_wp2_with (fail)
        refine (named_is x.1 v2 HV2.out hx1 _).mono ?_
        rintro e w4 ⟨rfl, hb6⟩
        have hA4 := hA3.below hb6 hA3l
        have hb7 := hb5.trans (hb6.mono hb5.size)
        have hw7 := hb2.trans (hb7.mono hb2.size)
        have a3 := hA4.cell 1
        simp at a3
        clear hb6 hA3 a0 a1 hb5 hw5
        cases v2 with
        | false =>
          go_wp2
          go_ret
          exact ⟨ret_bool (by rw [HF.out, HV.out, HV2.out]; rfl), hw7⟩
        | true =>
          obtain ⟨v3, hv3⟩ : ∃ v3, allP plaB x.2.1 = v3 := ⟨_, rfl⟩
          have HV3 := hide hv3
          clear hv3
          go_wp2_with (fail)
          refine (plained_is x.2.1 v3 HV3.out hx2 _).mono ?_
          rintro e w5 ⟨rfl, hb8⟩
          have hb9 := hb7.trans (hb8.mono hb7.size)
          have hw9 := hb2.trans (hb9.mono hb2.size)
          clear hb8 hA4 a3 hb7 hw7
          cases v3 with
          | false =>
            go_wp2
            go_ret
            exact ⟨ret_bool (by rw [HF.out, HV.out, HV2.out, HV3.out]; rfl), hw9⟩
          | true =>
            go_wp2
            go_roundw
            case rel => exact ⟨k + 1, by omega, by go_num, hb9, by rw [HF.out, HV.out, HV2.out, HV3.out]; rfl⟩
            case measure => simp [intOf]; omega
    · have HF : Hid (rgtA [] l = true) := by
        show rgtA [] l = _
        rw [hf, List.drop_eq_nil_of_le (by omega)]; simp [rgtA]
      clear hf
      go_wp2
      go_ret
      exact ⟨ret_bool (by rw [HF.out]), hbw⟩

theorem right_is (A : Option Addr) (cap : Nat) (t : Ti) (B : Nat) (v : Bool) (hv : rgtB t = v) (w : World) (hB : B ≤ w.heap.size) (h : Rd w B 3 aic A t.2.2.1) (hcap : t.2.2.1.length ≤ cap) (hl : t.2.2.1.length ≤ 1000000000000) (hla : ∀ a ∈ t.2.2.1, a.1.size ≤ 1000000000000 ∧ a.2.1.size ≤ 1000000000000) (hs : t.2.1.size ≤ 1000000000000) :
    Calls Tryz.prog 32 #[.agg #[.int .i64 t.1, .string t.2.1, .slice A t.2.2.1.length cap, .int .i64 t.2.2.2]] w fun e w' => e = .returned (.bool v) ∧ Below w.heap.size w w' := by
  rw [← hv]
  obtain ⟨kd, nm, l, at_⟩ := t
  dsimp only at h hcap hl hla hs ⊢
  by_cases h1 : kd < 1 ∨ 3 < kd
  · have e : rgtB (kd, nm, l, at_) = false := by
      simp only [rgtB]
      rcases h1 with h1 | h1
      · rw [show decide (1 ≤ kd) = false by simp; omega]; rfl
      · rw [show decide (kd ≤ 3) = false by simp; omega]; simp
    rw [e]
    exact right_early A cap l kd at_ nm w h1
  have g1 : 1 ≤ kd := by omega
  have g3 : kd ≤ 3 := by omega
  cases hn : nameB nm with
  | false =>
    have e : rgtB (kd, nm, l, at_) = false := by simp [rgtB, hn]
    rw [e]
    exact right_unnamed A cap l kd at_ nm w g1 g3 hs hn
  | true =>
    by_cases hk : kd = 2
    · subst hk
      by_cases hz : 0 < l.length
      · have e : rgtB (2, nm, l, at_) = false := by simp only [rgtB, hn, hz]; simp
        rw [e]
        exact right_close A cap l at_ nm w hs hn hz
      · have hz0 : l = [] := List.eq_nil_of_length_eq_zero (by omega)
        subst hz0
        have e : rgtB (2, nm, [], at_) = true := by simp [rgtB, hn, rgtA]
        rw [e]
        exact right_two A cap at_ nm w hs hn
    · have e : rgtB (kd, nm, l, at_) = rgtA [] l := by simp [rgtB, hn, hk, g1, g3]
      rw [e]
      exact right_loop A cap l B kd at_ nm w hB h hcap hl hla g1 g3 hs hn hk
end Go.Proofs.YtaglmkjkmhpifaaGreatDoor
