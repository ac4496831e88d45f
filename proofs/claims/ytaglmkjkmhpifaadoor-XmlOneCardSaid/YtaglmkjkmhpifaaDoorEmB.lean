/- Chapter 31: a line of words. -/
import Derived.Test.YtaglmkjkmhpifaaDoorEmA
namespace Go.Proofs.YtaglmkjkmhpifaaDoor
open Go.RowKit
set_option linter.unusedVariables false
set_option linter.unusedSimpArgs false

theorem Kept.of_below {b : Nat} {w w' : World} (hb : Below w.heap.size w w') : Kept b w w' := by
  intro k o hk _ _
  have hlt : k < w.heap.size := (Array.getElem?_eq_some_iff.1 hk).1
  exact (hb.block k hlt).trans hk
theorem Kept.trans {b : Nat} {w w1 w2 : World} (h : Kept b w w1) (h2 : Kept b w1 w2) : Kept b w w2 := Lib.OthersKept.trans h h2

/-- A word: a text, or a number. -/
abbrev Wd := ByteArray ⊕ Int
def wdv : Wd → Value
  | .inl s => .iface 9 (.string s)
  | .inr n => .iface 3 (.int .i64 n)
def wdc (x : Wd) : List Value := [wdv x]
theorem wdc_len (x : Wd) : (wdc x).length = 1 := rfl
def wtx : Wd → List UInt8
  | .inl s => s.data.toList
  | .inr n => Lib.itoa n
def sepL : List Wd → List UInt8
  | [] => []
  | x :: l => wtx x ++ l.flatMap fun y => 32 :: wtx y
def lineL (l : List Wd) : List UInt8 := sepL l ++ [10]
def okW : Wd → Prop
  | .inl _ => True
  | .inr n => I64 n
theorem sepL_step : ∀ {l : List Wd} {k : Nat} {x : Wd}, l[k]? = some x → sepL (l.take (k + 1)) = sepL (l.take k) ++ ((if 0 < k then [32] else []) ++ wtx x)
  | [], k, x, h => by simp at h
  | y :: l, 0, x, h => by
    simp at h
    subst h
    simp [sepL]
  | y :: l, k + 1, x, h => by
    have h1 : l[k]? = some x := by simpa using h
    simp only [List.take_succ_cons, sepL, Nat.succ_pos, if_true]
    rw [take_step h1]
    simp
theorem sepL_le : ∀ (l : List Wd) (k : Nat), (sepL (l.take k)).length ≤ (sepL l).length
  | [], k => by simp
  | y :: l, 0 => by simp [sepL]
  | y :: l, k + 1 => by
    have h : (y :: l).flatMap (fun z => 32 :: wtx z) = (y :: l.take k).flatMap (fun z => 32 :: wtx z) ++ (l.drop k).flatMap (fun z => 32 :: wtx z) := by
      rw [← List.flatMap_append, List.cons_append, List.take_append_drop]
    have h2 := congrArg List.length h
    simp only [List.flatMap_cons, List.length_append] at h2
    simp only [List.take_succ_cons, sepL, List.length_append]
    omega

theorem assS (s : ByteArray) (w : World) : (Instr.typeAssert (.iface 9 (.string s)) 20 9 true).run Tryd.prog w = .ok (.tuple #[.string s, .bool true]) w := by
  simp [Instr.typeAssert, run_underlying Tryd.underlying9, go_sem, Result.andThen]
theorem assI (n : Int) (w : World) : (Instr.typeAssert (.iface 3 (.int .i64 n)) 20 3 true).run Tryd.prog w = .ok (.tuple #[.int .i64 n, .bool true]) w := by
  simp [Instr.typeAssert, run_underlying Tryd.underlying3, go_sem, Result.andThen]
theorem assN (n : Int) (w : World) : (Instr.typeAssert (.iface 3 (.int .i64 n)) 20 9 true).run Tryd.prog w = .ok (.tuple #[.string ⟨#[]⟩, .bool false]) w := by
  simp [Instr.typeAssert, run_underlying Tryd.underlying9, go_sem, Result.andThen, Tryd.zeroValue9]

set_option maxRecDepth 100000 in
set_option maxHeartbeats 4000000 in
theorem line_any (B b g cap : Nat) (l : List Wd) (acc : List UInt8) (w : World) (ht : Tab w) (hpB : 1 < B) (hb0 : Bld B b acc w) (hBw : B ≤ w.heap.size) (hg : Blk w g 20 (l.flatMap wdc).toArray) (hgb : g ≠ b)
    (hok : ∀ x ∈ l, okW x) (hl : l.length ≤ 1000000) (hlen : acc.length + (lineL l).length ≤ 100000000000000) :
    Calls Tryd.prog 31 #[.pointer (some ⟨b, 0, none⟩), .slice (some ⟨g, 0, none⟩) l.length cap] w fun e w' => e = .returned (.tuple #[]) ∧ Bld B b (acc ++ lineL l) w' ∧ Below B w w' ∧ Kept b w w' := by
  have HOK := hide hok
  have HG := hide hg
  have HT := hide ht
  have hll : (lineL l).length = (sepL l).length + 1 := by simp [lineL]
  rw [hll] at hlen
  clear hok hg ht hll
  go_enter Tryd.func31, Tryd.ntmps31
  go_wp2
  go_loopw [10] (fun i wr => ∃ k : Nat, k ≤ l.length ∧ i = .int .i64 k ∧ Bld B b (acc ++ sepL (l.take k)) wr ∧ Below B w wr ∧ Kept b w wr) (fun i _ => l.length - (intOf i).toNat)
  case atStart => exact ⟨0, Nat.zero_le _, rfl, by simpa [sepL] using hb0, Below.refl _ _, Lib.OthersKept.refl _ _ _⟩
  case round =>
    obtain ⟨k, hk, rfl, hbd, hb, hkp⟩ := hrel
    have hsz : B ≤ wr.heap.size := by have := hb.size; omega
    by_cases hlt : k < l.length
    · obtain ⟨x, hx⟩ := get_of_lt hlt
      have hst := sepL_step hx
      have hle1 := sepL_le l (k + 1)
      rw [hst] at hle1
      obtain ⟨a1, ha1⟩ : ∃ a1, sepL (l.take k) = a1 := ⟨_, rfl⟩
      rw [ha1] at hst hle1 hbd
      have HST := hide hst
      have hokx := HOK.out x (List.mem_of_getElem? hx)
      have hgr : Blk wr g 20 (l.flatMap wdc).toArray := HG.out.kept hkp hgb (by decide)
      obtain ⟨v, hv⟩ : ∃ v, wdv x = v := ⟨_, rfl⟩
      have hc : wr.cell? ⟨g, k, none⟩ = some v := by
        rw [hgr.cell k, ← hv]
        have h1 := flat_get wdc_len l k x 0 _ hx rfl
        simpa using h1
      have HV := hide hv
      have htr := HT.out.below hb hpB
      clear hst hx ha1 hgr hv
      have i0 : (0 : Int) ≤ (k : Int) := by omega
      have i1 : (k : Int) < (l.length : Int) := by omega
      have hass := assS
      have hasi := assI
      have hasn := assN
      simp only [List.length_append] at hle1
      go_upto_if 16 with (fail)
      go_cut [] (fun wx => Bld B b (acc ++ (a1 ++ if 0 < k then [32] else [])) wx ∧ Below B w wx ∧ Kept b w wx)
      case first =>
        by_cases hk0 : 0 < k
        · have t0 : decide ((0 : Int) < (k : Int)) = true := by simp; omega
          simp only [hk0, if_true, List.length_cons, List.length_nil] at hle1
          go_wp2_with (fail)
          refine (writeb_any B b (acc ++ a1) 32 32 rfl _ hbd (by simp; omega) hsz).mono ?_
          rintro e w1 ⟨rfl, n1, n2, n3⟩
          go_wp2_with fail
          go_meet
          exact ⟨by rw [if_pos hk0]; simpa using n1, hb.trans n2, hkp.trans n3⟩
        · have t0 : decide ((0 : Int) < (k : Int)) = false := by simp; omega
          go_wp2_with fail
          go_meet
          exact ⟨by rw [if_neg hk0]; simpa using hbd, hb, hkp⟩
      case rest =>
        obtain ⟨hbd1, hb1, hkp1⟩ := hcut
        have hsz1 : B ≤ wc.heap.size := by have := hb1.size; omega
        have htr1 := HT.out.below hb1 hpB
        clear hbd hb hkp htr
        obtain ⟨sp, hsp⟩ : ∃ sp, (a1 ++ if 0 < k then [32] else []) = sp := ⟨_, rfl⟩
        have hspl : sp.length ≤ a1.length + 1 := by rw [← hsp]; split <;> simp
        rw [hsp] at hbd1
        have HSP := hide hsp
        clear hsp
        cases x with
        | inl s =>
          obtain rfl : v = .iface 9 (.string s) := HV.out.symm
          simp only [wtx] at hle1
          have hsl : s.data.toList.length = s.size := by simp
          rw [hsl] at hle1
          have HE := hide (show acc ++ sp ++ s.data.toList = acc ++ sepL (l.take (k + 1)) by rw [HST.out, ← HSP.out]; simp [wtx])
          clear hsl
          go_wp2_with (fail)
          refine (write_any B b (acc ++ sp) s _ hbd1 (by simp; omega) hsz1).mono ?_
          rintro e w2 ⟨rfl, n1, n2, n3⟩
          rw [HE.out] at n1
          have hb2 := hb1.trans n2
          have hk2 := hkp1.trans n3
          clear hbd1 hb1 hkp1 n2 n3 hc htr1
          go_wp2
          go_roundw
          case rel => exact ⟨k + 1, by omega, by go_num, n1, hb2, hk2⟩
          case measure => simp [intOf]; omega
        | inr n =>
          obtain rfl : v = .iface 3 (.int .i64 n) := HV.out.symm
          simp only [wtx] at hle1
          have HE := hide (show acc ++ sp ++ Lib.itoa n = acc ++ sepL (l.take (k + 1)) by rw [HST.out, ← HSP.out]; simp [wtx])
          have hdl : (Lib.itoa n).length = (dig n).size := by simp [dig, ByteArray.size]
          rw [hdl] at hle1
          clear hdl
          have HI := hide (show I64 n from hokx)
          clear hokx
          go_wp2_with (fail)
          refine (digits_any n HI.out _ htr1).mono ?_
          rintro e w2 ⟨rfl, hb2⟩
          have hbd2 := hbd1.below hb2
          have hs2 := hb2.size
          have hkp2 := hkp1.trans (Kept.of_below hb2)
          have hbb2 := hb1.trans (hb2.mono (by omega))
          clear hbd1 hb1 hkp1 hb2 hc htr1
          go_wp2_with (fail)
          refine (write_any B b (acc ++ sp) (dig n) _ hbd2 (by simp; omega) (by omega)).mono ?_
          rintro e w3 ⟨rfl, n1, n2, n3⟩
          rw [dig_list, HE.out] at n1
          have hb3 := hbb2.trans n2
          have hk3 := hkp2.trans n3
          clear hbd2 hbb2 hkp2 n2 n3
          go_wp2
          go_roundw
          case rel => exact ⟨k + 1, by omega, by go_num, n1, hb3, hk3⟩
          case measure => simp [intOf]; omega
    · have hkk : k = l.length := by omega
      rw [hkk, List.take_length] at hbd
      clear hkk
      go_wp2_with (fail)
      refine (writeb_any B b (acc ++ sepL l) 10 10 rfl _ hbd (by simp; omega) hsz).mono ?_
      rintro e w1 ⟨rfl, n1, n2, n3⟩
      go_wp2
      refine bodyPost_end (results_none rfl _ _ _) rfl ?_
      exact ⟨rfl, by simpa [lineL] using n1, hb.trans n2, hkp.trans n3⟩
end Go.Proofs.YtaglmkjkmhpifaaDoor
