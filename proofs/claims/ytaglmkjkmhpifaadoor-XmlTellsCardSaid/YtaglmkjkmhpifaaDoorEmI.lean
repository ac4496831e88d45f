/- Chapter 31: Lines, both. -/
import Derived.Test.YtaglmkjkmhpifaaDoorEmH
import Derived.Test.YtaglmkjkmhpifaaDoorTagA
namespace Go.Proofs.YtaglmkjkmhpifaaDoor
open Go.RowKit
set_option linter.unusedVariables false
set_option linter.unusedSimpArgs false

theorem dec10 (u : Nat) : (Lib.decDigits u).count 10 = 0 := by
  induction u using Nat.strongRecOn with
  | ind u ih =>
    have hd : ∀ v : Nat, v < 10 → [UInt8.ofNat (48 + v)].count 10 = 0 := by decide
    by_cases h : u < 10
    · rw [Lib.decDigits_one h]; exact hd u h
    · rw [dec_big h, List.count_append, ih (u / 10) (by omega), hd (u % 10) (by omega)]
theorem itoa10 (n : Int) : (Lib.itoa n).count 10 = 0 := by
  unfold Lib.itoa
  split
  · rw [List.count_cons, dec10]; decide
  · exact dec10 _
theorem count_head (d : Dv) : (lineL (headW d)).count 10 = 1 := by
  simp [lineL, headW, sepL, wtx, List.count_append, List.count_cons, itoa10]
theorem count_run (r : Rn) : (runL r).count 10 = 1 := by
  simp [runL, lineL, runW, sepL, wtx, List.count_append, List.count_cons, itoa10]
theorem count_runs (l : List Rn) : (l.flatMap runL).count 10 = l.length := by
  induction l with
  | nil => rfl
  | cons r l ih => rw [List.flatMap_cons, List.count_append, count_run, ih, List.length_cons]; omega
theorem count_dev (d : Dv) : (devL d).count 10 = 1 + (runsOf d.2.2.2.2).length := by
  rw [devL, List.count_append, count_head, count_runs]
def linL (L : List Dv) : Nat := (L.map fun d => 1 + (runsOf d.2.2.2.2).length).sum
theorem count_devs (L : List Dv) : (L.flatMap devL).count 10 = linL L := by
  induction L with
  | nil => rfl
  | cons d L ih => rw [List.flatMap_cons, List.count_append, count_dev, ih]; simp [linL]
theorem count_pool (p : Pl) : (poolL p).count 10 = 2 + linL p.2.2.2.2 := by
  have h1 : (lineL (poolW p)).count 10 = 1 := by simp [lineL, poolW, sepL, wtx, List.count_append, List.count_cons, itoa10]
  have h2 : (lineL endW).count 10 = 1 := by decide
  rw [poolL, List.count_append, List.count_append, h1, h2, count_devs]
  omega
def linesOf (p : Pl) : Int := if chkE p = 0 then (2 + linL p.2.2.2.2 : Nat) else 0
theorem linL_step {L : List Dv} {k : Nat} {d : Dv} (h : L[k]? = some d) : linL (L.take (k + 1)) = linL (L.take k) + (1 + (runsOf d.2.2.2.2).length) := by
  simp only [linL]; rw [take_step h]; simp
theorem linL_le (L : List Dv) : linL L ≤ L.length + cntL L := by
  induction L with
  | nil => simp [linL]
  | cons d L ih =>
    have := runsOf_len d.2.2.2.2
    simp only [linL, cntL, List.map_cons, List.sum_cons, List.length_cons] at *
    omega

set_option maxRecDepth 100000 in
set_option maxHeartbeats 8000000 in
theorem lines_any (A : Option Addr) (cap : Nat) (p : Pl) (w : World) (h : RdD w w.heap.size A p.2.2.2.2) (hc : cntL p.2.2.2.2 ≤ 1000000) (hl : p.2.2.2.2.length ≤ 1000000) :
    Calls Tryd.prog 14 #[.agg #[.int .i64 p.1, .int .i64 p.2.1, .int .i64 p.2.2.1, .int .i64 p.2.2.2.1, .slice A p.2.2.2.2.length cap]] w fun e w' => e = .returned (.int .i64 (linesOf p)) ∧ Below w.heap.size w w' := by
  obtain ⟨p1, p2, p3, p4, L⟩ := p
  dsimp only at h hc hl
  go_enter Tryd.func14, Tryd.ntmps14
  go_wp2_with (fail)
  have hP := Blk.new w 32 #[.int .i64 p1, .int .i64 p2, .int .i64 p3, .int .i64 p4, .slice A L.length cap]
  have hW : Below w.heap.size w (w.alloc (.cells #[.int .i64 p1, .int .i64 p2, .int .i64 p3, .int .i64 p4, .slice A L.length cap] 32)) := (by repeat (first | exact Below.refl _ _ | refine Below.alloc ?_ (by first | (simp; omega) | simp | omega) _ | refine drewN_below ?_ _ | refine Below.drew ?_))
  generalize w.alloc (.cells #[.int .i64 p1, .int .i64 p2, .int .i64 p3, .int .i64 p4, .slice A L.length cap] 32) = w1 at *
  have hsz1 := hW.size
  refine (check_any A cap (p1, p2, p3, p4, L) w.heap.size w1 hsz1 (h.below hW) hc hl).mono ?_
  rintro e w2 ⟨rfl, hb2⟩
  have hP2 := hP.below hb2 hP.lt
  have hW2 := hW.trans (hb2.mono hsz1)
  obtain ⟨ev, hev⟩ : ∃ ev, chkE (p1, p2, p3, p4, L) = ev := ⟨_, rfl⟩
  rw [hev]
  have HEV := hide hev
  have c4 := hP2.cell 4
  simp at c4
  clear hP hb2 hev hW
  have hsz2 := hW2.size
  by_cases hz : ev = 0
  · subst hz
    obtain ⟨-, -, -, -, k5, k6, -, k8⟩ := chk_ok HEV.out
    dsimp only at k5 k6
    have HD := hide k8
    have hR := hide (show linesOf (p1, p2, p3, p4, L) = ((2 + linL L : Nat) : Int) by simp [linesOf, HEV.out])
    clear k8
    go_wp2
    go_loopw [3, 12] (fun n i wr => ∃ k : Nat, k ≤ L.length ∧ i = .int .i64 k ∧ n = .int .i64 ((2 + linL (L.take k) : Nat) : Int) ∧ Below w2.heap.size w2 wr) (fun _ i _ => L.length - (intOf i).toNat)
    case atStart => exact ⟨0, Nat.zero_le _, rfl, rfl, Below.refl _ _⟩
    case round =>
      obtain ⟨k, hk, rfl, rfl, hb⟩ := hrel
      have hle := linL_le (L.take k)
      have hcl := cntL_le L k
      have htl : (L.take k).length ≤ 4096 := by simp; omega
      have hbw := hW2.trans (hb.mono hsz2)
      have hsr := hbw.size
      by_cases hlt : k < L.length
      · obtain ⟨d, hd⟩ := get_of_lt hlt
        obtain ⟨b, off, A', cap', rfl, hbB, e0, e1, e2, e3, e4, hr⟩ := (h.below hbw) k d hd
        have hst := linL_step hd
        have hokd := HD.out d (List.mem_of_getElem? hd)
        have hcm := len_cntL hd
        have hro := runsOf_len d.2.2.2.2
        obtain ⟨N, hN⟩ : ∃ N, linL (L.take k) = N := ⟨_, rfl⟩
        rw [hN] at hst hle ⊢
        have HST := hide hst
        have hmm : MildM d.2.2.2.2 := fun m hm => ⟨(hokd.2.2.2.2.1 m hm).1, (hokd.2.2.2.2.1 m hm).2.1, (hokd.2.2.2.2.1 m hm).2.2.1, (hokd.2.2.2.2.1 m hm).2.2.2.1⟩
        have HM := hide hmm
        have i0 : (0 : Int) ≤ (k : Int) := by omega
        have i1 : (k : Int) < (L.length : Int) := by omega
        clear hst hd hN hokd hmm
        obtain ⟨d1, d2, d3, d4, l⟩ := d
        dsimp only at e0 e1 e2 e3 e4 hr hcm hro
        have hWd : Below wr.heap.size wr (wr.alloc (.cells #[.int .i64 d1, .int .i64 d2, .int .i64 d3, .int .i64 d4, .slice A' l.length cap'] 24)) := (by repeat (first | exact Below.refl _ _ | refine Below.alloc ?_ (by first | (simp; omega) | simp | omega) _ | refine drewN_below ?_ _ | refine Below.drew ?_))
        go_wp2_with (fail)
        refine (of_any A' cap' l _ ((hr.below (hWd.mono hsr)).mono (by simp; omega)) HM.out (by omega)).mono ?_
        rintro e w5 ⟨v, rfl, hO5, hb5⟩
        obtain ⟨A2, n2, cap2, rfl, hn2, -⟩ := hO5.rd rc_len
        subst hn2
        have hb6 := hb.trans ((hWd.trans (hb5.mono (by simp))).mono hb.size)
        clear hO5 hb5 hWd e0 e1 e2 e3 e4
        go_wp2
        go_roundw
        case rel => exact ⟨k + 1, by omega, by go_num, by rw [HST.out]; (congr 1; push_cast; omega), hb6⟩
        case measure => simp [intOf]; omega
      · have hkk : k = L.length := by omega
        rw [hkk, List.take_length]
        clear hkk
        go_wp2
        go_ret
        exact ⟨ret_int (by rw [hR.out]), hbw⟩
  · have y0 : (ev != 0) = true := by simpa using hz
    have hR := hide (show linesOf (p1, p2, p3, p4, L) = 0 by simp [linesOf, HEV.out, hz])
    clear hz
    go_wp2
    go_ret
    exact ⟨ret_int (by rw [hR.out]), hW2⟩

theorem count_emit (p : Pl) : (((emitOf p).1.data.toList.count 10 : Nat) : Int) = linesOf p := by
  unfold emitOf linesOf
  split
  · rw [← count_pool]
  · rfl
theorem emit_size {p : Pl} (hc : cntL p.2.2.2.2 ≤ 1000000) (hl : p.2.2.2.2.length ≤ 1000000) : (emitOf p).1.size ≤ 1000000000 := by
  unfold emitOf
  split
  · rename_i hz
    obtain ⟨k1, k2, k3, k4, k5, k6, -, k8⟩ := chk_ok hz
    have h1 := poolW_len k1 k2 k3 k4 k5
    have h2 := devs_len k8
    have h3 : (lineL endW).length = 4 := rfl
    have e : (⟨(poolL p).toArray⟩ : ByteArray).size = (poolL p).length := by simp [ByteArray.size]
    show (⟨(poolL p).toArray⟩ : ByteArray).size ≤ _
    rw [e]
    simp only [poolL, List.length_append]
    omega
  · simp [ByteArray.size]

set_option maxRecDepth 100000 in
set_option maxHeartbeats 8000000 in
theorem rLines_any (A : Option Addr) (cap : Nat) (p : Pl) (w : World) (h : RdD w w.heap.size A p.2.2.2.2) (hc : cntL p.2.2.2.2 ≤ 1000000) (hl : p.2.2.2.2.length ≤ 1000000) :
    Calls Tryd.prog 15 #[.agg #[.int .i64 p.1, .int .i64 p.2.1, .int .i64 p.2.2.1, .int .i64 p.2.2.2.1, .slice A p.2.2.2.2.length cap]] w fun e w' => e = .returned (.int .i64 (linesOf p)) ∧ Below w.heap.size w w' := by
  obtain ⟨s, f, hsf⟩ : ∃ s f, emitOf p = (s, f) := ⟨_, _, rfl⟩
  have hcnt := count_emit p
  have hsz := emit_size hc hl
  have hW : Below w.heap.size w (w.alloc (.cells #[.int .i64 p.1, .int .i64 p.2.1, .int .i64 p.2.2.1, .int .i64 p.2.2.2.1, .slice A p.2.2.2.2.length cap] 32)) := (by repeat (first | exact Below.refl _ _ | refine Below.alloc ?_ (by first | (simp; omega) | simp | omega) _ | refine drewN_below ?_ _ | refine Below.drew ?_))
  have hem := rEmit_any A cap p (w.alloc (.cells #[.int .i64 p.1, .int .i64 p.2.1, .int .i64 p.2.2.1, .int .i64 p.2.2.2.1, .slice A p.2.2.2.2.length cap] 32)) ((h.below hW).mono hW.size) hc hl
  rw [hsf] at hcnt hsz hem
  dsimp only at hcnt hsz hem
  have HE := hide hem
  have HC := hide hcnt
  clear hem hcnt hsf h hc hl
  go_enter Tryd.func15, Tryd.ntmps15
  go_wp2_with (fail)
  refine HE.out.mono ?_
  rintro e w2 ⟨rfl, hb2⟩
  have hw2 := hW.trans (hb2.mono hW.size)
  clear hb2 hW HE
  go_wp2
  go_loop [5, 6] (fun n i => ∃ k : Nat, k ≤ s.size ∧ i = .int .i64 k ∧ n = .int .i64 (((s.data.toList.take k).count 10 : Nat) : Int)) (fun _ i => s.size - (intOf i).toNat)
  case atStart => exact ⟨0, Nat.zero_le _, rfl, rfl⟩
  case round =>
    obtain ⟨k, hk, rfl, rfl⟩ := hrel
    have hcl : (s.data.toList.take k).count 10 ≤ k := Nat.le_trans List.count_le_length (by simp; omega)
    by_cases hlt : k < s.size
    · have hlk : k < s.data.toList.length := by simpa using hlt
      have hst : (s.data.toList.take (k + 1)).count 10 = (s.data.toList.take k).count 10 + (if byt s k = 10 then 1 else 0) := by
        have h1 : s.data.toList[k]? = some s.data.toList[k] := List.getElem?_eq_getElem hlk
        rw [take_step h1, List.count_append]
        congr 1
        simp only [byt, h1, Option.getD_some]
        by_cases hq : s.data.toList[k] = 10
        · rw [hq]; decide
        · have : ¬ ((s.data.toList[k].toNat : Int) = 10) := by
            intro he
            exact hq (UInt8.toNat_inj.1 (by have : s.data.toList[k].toNat = 10 := by exact_mod_cast he
                                            exact this))
          rw [if_neg this]
          simpa [List.count_cons] using hq
      obtain ⟨N, hN⟩ : ∃ N, (s.data.toList.take k).count 10 = N := ⟨_, rfl⟩
      rw [hN] at hst hcl ⊢
      have i0 : (0 : Int) ≤ (k : Int) := by omega
      have i1 : (k : Int) < (s.size : Int) := by omega
      have HST := hide hst
      clear hst hN hlk
      by_cases hq : byt s k = 10
      · have hq2 : (((s[k]).toNat : Int) == 10) = true := by rw [byt_eq hlt]; simpa using hq
        have HN := hide (show (s.data.toList.take (k + 1)).count 10 = N + 1 by rw [HST.out, if_pos hq])
        clear hq
        go_wp2
        go_round
        case rel => exact ⟨k + 1, by omega, by go_num, by rw [HN.out]; go_num⟩
        case measure => simp [intOf]; omega
      · have hq2 : (((s[k]).toNat : Int) == 10) = false := by rw [byt_eq hlt]; simpa using hq
        have HN := hide (show (s.data.toList.take (k + 1)).count 10 = N by rw [HST.out, if_neg hq]; rfl)
        clear hq
        go_wp2
        go_round
        case rel => exact ⟨k + 1, by omega, by go_num, by rw [HN.out]⟩
        case measure => simp [intOf]; omega
    · have hkk : (s.data.toList.take k) = s.data.toList := List.take_of_length_le (by simp; omega)
      have HK := hide hkk
      clear hkk
      go_wp2
      go_ret
      exact ⟨ret_int (by rw [HK.out, HC.out]), hw2⟩
end Go.Proofs.YtaglmkjkmhpifaaDoor
