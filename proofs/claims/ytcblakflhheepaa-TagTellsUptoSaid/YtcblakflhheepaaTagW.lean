/- Chapter 41, the reference: named, valued, right. -/
import Derived.Test.YtcblakflhheepaaTagU
namespace Go.Proofs.Ytcblakflhheepaa
open Go.RowKit
set_option linter.unusedVariables false
set_option linter.unusedSimpArgs false

def restP (p : Int → Bool) (s : ByteArray) (k : Nat) : Bool := (s.data.toList.drop k).all fun b => p (b.toNat : Int)
theorem restP_zero (p : Int → Bool) (s : ByteArray) : restP p s 0 = allP p s := by simp [restP, allP]
theorem restP_step (p : Int → Bool) {s : ByteArray} {k : Nat} (h : k < s.size) : restP p s k = (p (byt s k) && restP p s (k + 1)) := by
  have h1 : k < s.data.toList.length := by simpa using h
  unfold restP byt
  rw [List.drop_eq_getElem_cons h1, List.getElem?_eq_getElem h1]
  simp
theorem restP_end (p : Int → Bool) {s : ByteArray} {k : Nat} (h : ¬ k < s.size) : restP p s k = true := by
  have h1 : s.data.toList.length ≤ k := by have : s.data.toList.length = s.size := by simp
                                           omega
  unfold restP
  rw [List.drop_eq_nil_of_le h1]; rfl
theorem rletter_is (c : Int) (v : Bool) (hv : letB c = v) (w : World) : Calls Try.prog 68 #[.int .u8 c] w fun e w' => e = .returned (.bool v) ∧ w' = w := by
  rw [← hv]; exact rletter_any c w
theorem rplain_is (c : Int) (v : Bool) (hv : plaB c = v) (w : World) : Calls Try.prog 99 #[.int .u8 c] w fun e w' => e = .returned (.bool v) ∧ w' = w := by
  rw [← hv]; exact rplain_any c w

set_option maxRecDepth 100000 in
set_option maxHeartbeats 2000000 in
theorem rvalued_is (s : ByteArray) (v : Bool) (hv : allP plaB s = v) (hs : s.size ≤ 1000000000000) (w : World) :
    Calls Try.prog 78 #[.string s] w fun e w' => e = .returned (.bool v) ∧ w' = w := by
  rw [← hv]
  clear hv
  go_enter Try.func78, Try.ntmps78
  go_wp2
  go_loop [3] (fun i => ∃ k : Nat, k ≤ s.size ∧ i = .int .i64 k ∧ allP plaB s = restP plaB s k) (fun i => s.size - (intOf i).toNat)
  case atStart => exact ⟨0, Nat.zero_le _, rfl, (restP_zero _ _).symm⟩
  case round =>
    obtain ⟨k, hk, rfl, he⟩ := hrel
    by_cases hlt : k < s.size
    · have i0 : (0 : Int) ≤ (k : Int) := by omega
      have i1 : (k : Int) < (s.size : Int) := by omega
      rw [restP_step plaB hlt] at he
      cases hq : plaB (byt s k)
      · rw [hq] at he
        have HE := hide he
        have HC := hide ((congrArg plaB (byt_eq hlt)).trans hq)
        clear he hq
        go_wp2_with (fail)
        refine (rplain_is _ false HC.out _).mono ?_
        rintro e w' ⟨rfl, rfl⟩
        go_wp2
        go_ret
        exact ⟨ret_bool (by rw [HE.out]; rfl), rfl⟩
      · rw [hq] at he
        have HE := hide he
        have HC := hide ((congrArg plaB (byt_eq hlt)).trans hq)
        clear he hq
        go_wp2_with (fail)
        refine (rplain_is _ true HC.out _).mono ?_
        rintro e w' ⟨rfl, rfl⟩
        go_wp2
        go_round
        case rel => exact ⟨k + 1, by omega, by go_num, by rw [HE.out]; rfl⟩
        case measure => simp [intOf]; omega
    · have HE := hide (he.trans (restP_end plaB hlt))
      clear he
      go_wp2
      go_ret
      exact ⟨ret_bool (by rw [HE.out]), rfl⟩

set_option maxRecDepth 100000 in
set_option maxHeartbeats 2000000 in
theorem rnamed_is (s : ByteArray) (v : Bool) (hv : nameB s = v) (hs : s.size ≤ 1000000000000) (w : World) :
    Calls Try.prog 77 #[.string s] w fun e w' => e = .returned (.bool v) ∧ w' = w := by
  rw [← hv]
  clear hv
  go_enter Try.func77, Try.ntmps77
  go_wp2
  go_loop [3] (fun i => ∃ k : Nat, k ≤ s.size ∧ i = .int .i64 k ∧ allP letB s = restP letB s k) (fun i => s.size - (intOf i).toNat)
  case atStart => exact ⟨0, Nat.zero_le _, rfl, (restP_zero _ _).symm⟩
  case round =>
    obtain ⟨k, hk, rfl, he⟩ := hrel
    by_cases hlt : k < s.size
    · have i0 : (0 : Int) ≤ (k : Int) := by omega
      have i1 : (k : Int) < (s.size : Int) := by omega
      rw [restP_step letB hlt] at he
      cases hq : letB (byt s k)
      · rw [hq] at he
        have HE := hide he
        have HC := hide ((congrArg letB (byt_eq hlt)).trans hq)
        clear he hq
        go_wp2_with (fail)
        refine (rletter_is _ false HC.out _).mono ?_
        rintro e w' ⟨rfl, rfl⟩
        go_wp2
        go_ret
        exact ⟨ret_bool (by simp [nameB, HE.out]), rfl⟩
      · rw [hq] at he
        have HE := hide he
        have HC := hide ((congrArg letB (byt_eq hlt)).trans hq)
        clear he hq
        go_wp2_with (fail)
        refine (rletter_is _ true HC.out _).mono ?_
        rintro e w' ⟨rfl, rfl⟩
        go_wp2
        go_round
        case rel => exact ⟨k + 1, by omega, by go_num, by rw [HE.out]; rfl⟩
        case measure => simp [intOf]; omega
    · have HE := hide (he.trans (restP_end letB hlt))
      clear he
      go_wp2
      go_ret
      exact ⟨ret_bool (by simp [nameB, HE.out]), rfl⟩

theorem rright_early (A : Option Addr) (cap : Nat) (l : List Ai) (kd at_ : Int) (nm : ByteArray) (w : World) (hk : kd < 1 ∨ 3 < kd) :
    Calls Try.prog 47 #[.agg #[.int .i64 kd, .string nm, .slice A l.length cap, .int .i64 at_]] w fun e w' => e = .returned (.bool false) ∧ Below w.heap.size w w' := by
  rcases hk with hk | hk
  · have t0 : decide (kd < 1) = true := by simpa using hk
    go_enter Try.func47, Try.ntmps47
    go_wp2
    go_ret
    exact ⟨rfl, (by repeat (first | exact Below.refl _ _ | refine Below.alloc ?_ (by first | (simp; omega) | simp | omega) _ | refine drewN_below ?_ _ | refine Below.drew ?_))⟩
  · have t0 : decide (kd < 1) = false := by simp; omega
    have t1 : decide (3 < kd) = true := by simpa using hk
    go_enter Try.func47, Try.ntmps47
    go_wp2
    go_ret
    exact ⟨rfl, (by repeat (first | exact Below.refl _ _ | refine Below.alloc ?_ (by first | (simp; omega) | simp | omega) _ | refine drewN_below ?_ _ | refine Below.drew ?_))⟩

theorem rright_unnamed (A : Option Addr) (cap : Nat) (l : List Ai) (kd at_ : Int) (nm : ByteArray) (w : World) (h1 : 1 ≤ kd) (h3 : kd ≤ 3) (hs : nm.size ≤ 1000000000000) (hn : nameB nm = false) :
    Calls Try.prog 47 #[.agg #[.int .i64 kd, .string nm, .slice A l.length cap, .int .i64 at_]] w fun e w' => e = .returned (.bool false) ∧ Below w.heap.size w w' := by
  have t0 : decide (kd < 1) = false := by simp; omega
  have t1 : decide (3 < kd) = false := by simp; omega
  have HN := hide hn
  clear hn
  go_enter Try.func47, Try.ntmps47
  go_wp2_with (fail)
  refine (rnamed_is nm false HN.out hs _).mono ?_
  rintro e w1 ⟨rfl, rfl⟩
  go_wp2
  go_ret
  exact ⟨rfl, (by repeat (first | exact Below.refl _ _ | refine Below.alloc ?_ (by first | (simp; omega) | simp | omega) _ | refine drewN_below ?_ _ | refine Below.drew ?_))⟩

theorem rright_close (A : Option Addr) (cap : Nat) (l : List Ai) (at_ : Int) (nm : ByteArray) (w : World) (hs : nm.size ≤ 1000000000000) (hn : nameB nm = true) (hl : 0 < l.length) :
    Calls Try.prog 47 #[.agg #[.int .i64 2, .string nm, .slice A l.length cap, .int .i64 at_]] w fun e w' => e = .returned (.bool false) ∧ Below w.heap.size w w' := by
  have HN := hide hn
  clear hn
  have t2 : decide ((0 : Int) < (l.length : Int)) = true := by simp; omega
  go_enter Try.func47, Try.ntmps47
  go_wp2_with (fail)
  refine (rnamed_is nm true HN.out hs _).mono ?_
  rintro e w1 ⟨rfl, rfl⟩
  go_wp2
  go_ret
  exact ⟨rfl, (by repeat (first | exact Below.refl _ _ | refine Below.alloc ?_ (by first | (simp; omega) | simp | omega) _ | refine drewN_below ?_ _ | refine Below.drew ?_))⟩

theorem hasB_step {n : ByteArray} {l : List Ai} {j : Nat} {y : Ai} (h : l[j]? = some y) : hasB n (l.take (j + 1)) = (hasB n (l.take j) || eqS y.1 n) := by
  rw [take_step h]; simp [hasB]
theorem hasB_in {n : ByteArray} {l : List Ai} {j k : Nat} {y : Ai} (h : l[j]? = some y) (hj : j < k) (he : eqS y.1 n = true) : hasB n (l.take k) = true := by
  unfold hasB
  rw [List.any_eq_true]
  refine ⟨y, ?_, he⟩
  have : (l.take k)[j]? = some y := by rw [List.getElem?_take, if_pos hj]; exact h
  exact List.mem_of_getElem? this

set_option maxRecDepth 100000 in
set_option maxHeartbeats 4000000 in
theorem rright_two (A : Option Addr) (cap : Nat) (at_ : Int) (nm : ByteArray) (w : World) (hs : nm.size ≤ 1000000000000) (hn : nameB nm = true) :
    Calls Try.prog 47 #[.agg #[.int .i64 2, .string nm, .slice A 0 cap, .int .i64 at_]] w fun e w' => e = .returned (.bool true) ∧ Below w.heap.size w w' := by
  have HN := hide hn
  clear hn
  go_enter Try.func47, Try.ntmps47
  go_wp2_with (fail)
  refine (rnamed_is nm true HN.out hs _).mono ?_
  rintro e w1 ⟨rfl, rfl⟩
  have hT := Blk.new w 91 #[.int .i64 2, .string nm, .slice A 0 cap, .int .i64 at_]
  have hb2 := ((by repeat (first | exact Below.refl _ _ | refine Below.alloc ?_ (by first | (simp; omega) | simp | omega) _ | refine drewN_below ?_ _ | refine Below.drew ?_)) : Below w.heap.size w (w.alloc (.cells #[.int .i64 2, .string nm, .slice A 0 cap, .int .i64 at_] 91)))
  go_wp2
  generalize w.alloc (.cells #[.int .i64 2, .string nm, .slice A 0 cap, .int .i64 at_] 91) = w1 at *
  have c2 := hT.cell 2
  simp at c2
  go_loopw [3] (fun i wr => i = .int .i64 0 ∧ wr = w1) (fun i _ => 0)
  case atStart => exact ⟨rfl, rfl⟩
  case round =>
    obtain ⟨rfl, rfl⟩ := hrel
    go_wp2
    go_ret
    exact ⟨rfl, hb2⟩

set_option maxRecDepth 100000 in
set_option maxHeartbeats 8000000 in
theorem rright_loop (A : Option Addr) (cap : Nat) (l : List Ai) (B : Nat) (kd at_ : Int) (nm : ByteArray) (w : World) (hB : B ≤ w.heap.size) (h : Rd w B 3 aic A l) (hl : l.length ≤ 1000000000000) (hla : ∀ a ∈ l, a.1.size ≤ 1000000000000 ∧ a.2.1.size ≤ 1000000000000)
    (h1 : 1 ≤ kd) (h3 : kd ≤ 3) (hs : nm.size ≤ 1000000000000) (hn : nameB nm = true) (hk : kd ≠ 2) :
    Calls Try.prog 47 #[.agg #[.int .i64 kd, .string nm, .slice A l.length cap, .int .i64 at_]] w fun e w' => e = .returned (.bool (rgtA [] l)) ∧ Below w.heap.size w w' := by
  have t0 : decide (kd < 1) = false := by simp; omega
  have t1 : decide (3 < kd) = false := by simp; omega
  have t2 : (kd == 2) = false := by simpa using hk
  have HN := hide hn
  clear hn
  go_enter Try.func47, Try.ntmps47
  go_wp2_with (fail)
  refine (rnamed_is nm true HN.out hs _).mono ?_
  rintro e w1 ⟨rfl, rfl⟩
  have hT := Blk.new w 91 #[.int .i64 kd, .string nm, .slice A l.length cap, .int .i64 at_]
  have hb2 := ((by repeat (first | exact Below.refl _ _ | refine Below.alloc ?_ (by first | (simp; omega) | simp | omega) _ | refine drewN_below ?_ _ | refine Below.drew ?_)) : Below w.heap.size w (w.alloc (.cells #[.int .i64 kd, .string nm, .slice A l.length cap, .int .i64 at_] 91)))
  go_wp2_with (fail)
  generalize w.alloc (.cells #[.int .i64 kd, .string nm, .slice A l.length cap, .int .i64 at_] 91) = w1 at *
  have hTl := hT.lt
  clear t0 t1 t2
  go_loopw [3] (fun i wr => ∃ k : Nat, k ≤ l.length ∧ i = .int .i64 k ∧ Below w1.heap.size w1 wr ∧ rgtA [] l = rgtA (l.take k) (l.drop k)) (fun i _ => l.length - (intOf i).toNat)
  case atStart => exact ⟨0, Nat.zero_le _, rfl, Below.refl _ _, rfl⟩
  case round =>
    obtain ⟨k, hk, rfl, hb, hf⟩ := hrel
    have hbw := hb2.trans (hb.mono hb2.size)
    have hTw := hT.below hb hTl
    have c2 := hTw.cell 2
    simp at c2
    by_cases hlt : k < l.length
    · obtain ⟨x, hx⟩ := get_of_lt hlt
      have hr1 := h.below (hbw.mono hB)
      obtain ⟨b, off, rfl, hbB, e0, e1, e2⟩ := hr1.ai hx
      obtain ⟨hx1, hx2⟩ := hla x (List.mem_of_getElem? hx)
      have hf2 : rgtA [] l = (!hasB x.1 (l.take k) && nameB x.1 && allP plaB x.2.1 && rgtA (l.take (k + 1)) (l.drop (k + 1))) := by rw [hf, drop_step hx, take_step hx]; rfl
      have HF := hide hf2
      have HX := hide hx
      have i0 : (0 : Int) ≤ (k : Int) := by omega
      have i1 : (k : Int) < (l.length : Int) := by omega
      clear hf hf2 hx
      obtain ⟨v2, hv2⟩ : ∃ v2, nameB x.1 = v2 := ⟨_, rfl⟩
      have HV2 := hide hv2
      clear hv2
      go_wp2_with (fail)
      refine (rnamed_is x.1 v2 HV2.out hx1 _).mono ?_
      rintro e w4 ⟨rfl, rfl⟩
      cases v2 with
      | false =>
        go_wp2
        go_ret
        exact ⟨ret_bool (by rw [HF.out, HV2.out]; simp), hbw⟩
      | true =>
        obtain ⟨v3, hv3⟩ : ∃ v3, allP plaB x.2.1 = v3 := ⟨_, rfl⟩
        have HV3 := hide hv3
        clear hv3
        go_wp2_with (fail)
        refine (rvalued_is x.2.1 v3 HV3.out hx2 _).mono ?_
        rintro e w5 ⟨rfl, rfl⟩
        cases v3 with
        | false =>
          go_wp2
          go_ret
          exact ⟨ret_bool (by rw [HF.out, HV2.out, HV3.out]; simp), hbw⟩
        | true =>
          go_wp2_with (fail)
          obtain ⟨wo, hwo⟩ : ∃ wo : World, wo = w5 := ⟨_, rfl⟩
          subst hwo
          clear c2 e0 e1 e2
          go_loopw [4] (fun i wx => ∃ j : Nat, j ≤ k ∧ i = .int .i64 j ∧ Below w1.heap.size w1 wx ∧ hasB x.1 (l.take j) = false) (fun i _ => k - (intOf i).toNat)
          case atStart => exact ⟨0, Nat.zero_le _, rfl, hb, by simp [hasB]⟩
          case round =>
            obtain ⟨j, hj, rfl, hbx, hno⟩ := hrel
            have hbxw := hb2.trans (hbx.mono hb2.size)
            have HNO := hide hno
            clear hno
            by_cases hjk : j < k
            · obtain ⟨y, hy⟩ := get_of_lt (show j < l.length by omega)
              have hTx := hT.below hbx hTl
              have c2 := hTx.cell 2
              simp at c2
              have hr2 := h.below (hbxw.mono hB)
              obtain ⟨b2, off2, hA2, hb22, e0, e1, e2⟩ := hr2.ai HX.out
              obtain ⟨b3, off3, hA3, hb33, d0, d1, d2⟩ := hr2.ai hy
              injection hA2 with hA2
              injection hA2 with hA21 hA22
              injection hA3 with hA3
              injection hA3 with hA31 hA32
              subst hA21; subst hA22; subst hA31; subst hA32
              have HY := hide hy
              have j0 : (0 : Int) ≤ (j : Int) := by omega
              have j1 : (j : Int) < (l.length : Int) := by omega
              have j2 : (j : Int) < (k : Int) := by omega
              clear hy hr2 hr1
              obtain ⟨v, hv⟩ : ∃ v, eqS y.1 x.1 = v := ⟨_, rfl⟩
              have hv' : (y.1.toList == x.1.toList) = v := hv
              have HV := hide hv
              clear hv
              go_wp2
              go_quiet (fail)
              cases v with
              | false =>
                go_wp2
                go_roundw
                case rel => exact ⟨j + 1, by omega, by go_num, (by have hsz := (hbx).size; repeat (first | with_reducible exact hbx | with_reducible refine Below.alloc ?_ (by first | (simp; omega) | simp | omega) _ | with_reducible refine drewN_below ?_ _ | with_reducible refine Below.drew ?_)), by rw [hasB_step HY.out, HNO.out, HV.out]; rfl⟩
                case measure => simp [intOf]; omega
              | true =>
                go_wp2
                go_ret
                exact ⟨ret_bool (by rw [HF.out, hasB_in HY.out hjk HV.out]; rfl), (by have hsz := (hbxw).size; repeat (first | with_reducible exact hbxw | with_reducible refine Below.alloc ?_ (by first | (simp; omega) | simp | omega) _ | with_reducible refine drewN_below ?_ _ | with_reducible refine Below.drew ?_))⟩
            · have hjk2 : j = k := by omega
              have hno2 : hasB x.1 (l.take k) = false := by rw [← hjk2]; exact HNO.out
              have HN2 := hide hno2
              clear hno2
              go_wp2
              go_roundw
              case rel => exact ⟨k + 1, by omega, by go_num, hbx, by rw [HF.out, HN2.out, HV2.out, HV3.out]; rfl⟩
              case measure => simp [intOf]; omega
    · have HF : Hid (rgtA [] l = true) := by
        show rgtA [] l = _
        rw [hf, List.drop_eq_nil_of_le (by omega)]; simp [rgtA]
      clear hf
      go_wp2
      go_ret
      exact ⟨ret_bool (by rw [HF.out]), hbw⟩

theorem rright_is (A : Option Addr) (cap : Nat) (t : Ti) (B : Nat) (v : Bool) (hv : rgtB t = v) (w : World) (hB : B ≤ w.heap.size) (h : Rd w B 3 aic A t.2.2.1) (hl : t.2.2.1.length ≤ 1000000000000) (hla : ∀ a ∈ t.2.2.1, a.1.size ≤ 1000000000000 ∧ a.2.1.size ≤ 1000000000000) (hs : t.2.1.size ≤ 1000000000000) :
    Calls Try.prog 47 #[.agg #[.int .i64 t.1, .string t.2.1, .slice A t.2.2.1.length cap, .int .i64 t.2.2.2]] w fun e w' => e = .returned (.bool v) ∧ Below w.heap.size w w' := by
  rw [← hv]
  obtain ⟨kd, nm, l, at_⟩ := t
  dsimp only at h hl hla hs ⊢
  by_cases h1 : kd < 1 ∨ 3 < kd
  · have e : rgtB (kd, nm, l, at_) = false := by
      simp only [rgtB]
      rcases h1 with h1 | h1
      · rw [show decide (1 ≤ kd) = false by simp; omega]; rfl
      · rw [show decide (kd ≤ 3) = false by simp; omega]; simp
    rw [e]
    exact rright_early A cap l kd at_ nm w h1
  have g1 : 1 ≤ kd := by omega
  have g3 : kd ≤ 3 := by omega
  cases hn : nameB nm with
  | false =>
    have e : rgtB (kd, nm, l, at_) = false := by simp [rgtB, hn]
    rw [e]
    exact rright_unnamed A cap l kd at_ nm w g1 g3 hs hn
  | true =>
    by_cases hk : kd = 2
    · subst hk
      by_cases hz : 0 < l.length
      · have e : rgtB (2, nm, l, at_) = false := by simp only [rgtB, hn, hz]; simp
        rw [e]
        exact rright_close A cap l at_ nm w hs hn hz
      · have hz0 : l = [] := List.eq_nil_of_length_eq_zero (by omega)
        subst hz0
        have e : rgtB (2, nm, [], at_) = true := by simp [rgtB, hn, rgtA]
        rw [e]
        exact rright_two A cap at_ nm w hs hn
    · have e : rgtB (kd, nm, l, at_) = rgtA [] l := by simp [rgtB, hn, hk, g1, g3]
      rw [e]
      exact rright_loop A cap l B kd at_ nm w hB h hl hla g1 g3 hs hn hk
end Go.Proofs.Ytcblakflhheepaa
