/- Chapter 31: Emit; lives. -/
import Derived.Test.YtaglmkjkmhpifaaDoorPoolB
namespace Go.Proofs.YtaglmkjkmhpifaaDoor
open Go.RowKit
set_option linter.unusedVariables false
set_option linter.unusedSimpArgs false

def poolW (p : Pl) : List Wd := [.inl ⟨#[112, 111, 111, 108]⟩, .inl ⟨#[116, 120]⟩, .inr p.1, .inl ⟨#[116, 105, 109, 101]⟩, .inr p.2.1, .inl ⟨#[117, 110, 105, 116]⟩, .inr p.2.2.1, .inl ⟨#[100, 97, 116, 97]⟩, .inr p.2.2.2.1, .inl ⟨#[100, 101, 118, 105, 99, 101, 115]⟩, .inr (p.2.2.2.2.length : Int)]
def endW : List Wd := [.inl ⟨#[101, 110, 100]⟩]
/-- The text of a pool. -/
def poolL (p : Pl) : List UInt8 := lineL (poolW p) ++ p.2.2.2.2.flatMap devL ++ lineL endW
/-- What Emit hands back. -/
def emitOf (p : Pl) : ByteArray × Int := if chkE p = 0 then (⟨(poolL p).toArray⟩, 0) else (⟨#[]⟩, chkE p)

theorem inB_true {n lo hi : Int} (h : inB n lo hi = true) : lo ≤ n ∧ n ≤ hi := by simpa [inB] using h
theorem mapE_zero {data : Int} : ∀ {l : List Mp} {last : Int}, mapE data last l = 0 → ∀ m ∈ l, mapB data m = true
  | [], _, _, m, hm => by cases hm
  | x :: l, last, h, m, hm => by
    unfold mapE at h
    split at h
    · rename_i hb
      split at h
      · cases h
      · rcases List.mem_cons.1 hm with rfl | hm
        · exact hb
        · exact mapE_zero h m hm
    · cases h
theorem devsE_zero {data : Int} : ∀ {L : List Dv} {last : Int}, devsE data last L = 0 → ∀ d ∈ L, (∃ la, devE d la = 0) ∧ mapE data (-1) d.2.2.2.2 = 0
  | [], _, _, d, hd => by cases hd
  | x :: L, last, h, d, hd => by
    unfold devsE at h
    split at h
    · rename_i h1
      split at h
      · rename_i h2
        rcases List.mem_cons.1 hd with rfl | hd
        · exact ⟨⟨_, h1⟩, h2⟩
        · exact devsE_zero h d hd
      · rename_i h2; exact absurd h h2
    · rename_i h1; exact absurd h h1
theorem chk_ok {p : Pl} (h : chkE p = 0) : I64 p.1 ∧ I64 p.2.1 ∧ I64 p.2.2.1 ∧ I64 p.2.2.2.1 ∧ p.2.2.2.2.length ≤ 4096 ∧ cntL p.2.2.2.2 ≤ 16384 ∧ (0 ≤ p.2.2.2.1 ∧ p.2.2.2.1 ≤ 65536) ∧ ∀ d ∈ p.2.2.2.2, okD d := by
  unfold chkE at h
  split at h
  · rename_i h1
    simp only [Bool.and_eq_true, timesB, allT, List.all_cons, List.all_nil, Bool.and_true] at h1
    obtain ⟨⟨⟨a1, a2⟩, a3⟩, a4⟩ := h1
    have b1 := inB_true a1
    have b2 := inB_true a2
    have b3 := inB_true a3
    have b4 := inB_true a4
    split at h
    · cases h
    · rename_i h2
      refine ⟨by unfold I64; omega, by unfold I64; omega, by unfold I64; omega, by unfold I64; omega, by omega, by omega, b4, fun d hd => ?_⟩
      obtain ⟨⟨la, h3⟩, h4⟩ := devsE_zero h d hd
      obtain ⟨k, hk⟩ := List.getElem?_of_mem hd
      have hlen := len_cntL hk
      unfold devE at h3
      split at h3
      · rename_i h5
        simp only [Bool.and_eq_true, timesB, allT, List.all_cons, List.all_nil, Bool.and_true] at h5
        obtain ⟨c1, c2, c3, c4⟩ := h5
        have e1 := inB_true c1
        have e2 := inB_true c2
        have e3 := inB_true c3
        have e4 := inB_true c4
        refine ⟨by unfold I64; omega, by unfold I64; omega, by unfold I64; omega, by unfold I64; omega, fun m hm => ?_, by omega⟩
        have h6 := mapE_zero h4 m hm
        simp only [mapB, Bool.and_eq_true] at h6
        obtain ⟨⟨f1, f2⟩, f3⟩ := h6
        have g1 := inB_true f1
        have g2 := inB_true f2
        have g3 := inB_true f3
        exact ⟨by omega, by omega, by omega, by omega, by unfold I64; omega⟩
      · cases h3
  · cases h

theorem poolW_ok {p : Pl} (h1 : I64 p.1) (h2 : I64 p.2.1) (h3 : I64 p.2.2.1) (h4 : I64 p.2.2.2.1) (hl : p.2.2.2.2.length ≤ 4096) : ∀ x ∈ poolW p, okW x := by
  have h5 : I64 (p.2.2.2.2.length : Int) := by unfold I64; omega
  intro x hx
  simp only [poolW, List.mem_cons, List.not_mem_nil, or_false] at hx
  rcases hx with rfl | rfl | rfl | rfl | rfl | rfl | rfl | rfl | rfl | rfl | rfl
  all_goals first | trivial | assumption
theorem poolW_len {p : Pl} (h1 : I64 p.1) (h2 : I64 p.2.1) (h3 : I64 p.2.2.1) (h4 : I64 p.2.2.2.1) (hl : p.2.2.2.2.length ≤ 4096) : (lineL (poolW p)).length ≤ 300 := by
  have q1 := itoa_le _ h1
  have q2 := itoa_le _ h2
  have q3 := itoa_le _ h3
  have q4 := itoa_le _ h4
  have q5 := itoa_le (p.2.2.2.2.length : Int) (by unfold I64; omega)
  simp [lineL, poolW, sepL, wtx]
  omega
theorem devL_len {d : Dv} (h : okD d) : (devL d).length ≤ 200 + 100 * d.2.2.2.2.length := by
  have h1 := head_len h
  have h2 := runs_len (l := runsOf d.2.2.2.2) (fun r hr => run_ok h.2.2.2.2.1 h.2.2.2.2.2 hr)
  have h3 := runsOf_len d.2.2.2.2
  simp only [devL, List.length_append]
  omega
theorem devs_len : ∀ {L : List Dv}, (∀ d ∈ L, okD d) → (L.flatMap devL).length ≤ 200 * L.length + 100 * cntL L
  | [], _ => by simp
  | d :: L, h => by
    have h1 := devL_len (h d (by simp))
    have h2 := devs_len (L := L) (fun x hx => h x (by simp [hx]))
    simp only [List.flatMap_cons, List.length_append, List.length_cons, cntL, List.map_cons, List.sum_cons] at *
    omega

set_option maxRecDepth 100000 in
set_option maxHeartbeats 8000000 in
theorem emit_any (A : Option Addr) (cap : Nat) (p : Pl) (w : World) (ht : Tab w) (h : RdD w w.heap.size A p.2.2.2.2) (hc : cntL p.2.2.2.2 ≤ 1000000) (hl : p.2.2.2.2.length ≤ 1000000) :
    Calls Tryd.prog 12 #[.agg #[.int .i64 p.1, .int .i64 p.2.1, .int .i64 p.2.2.1, .int .i64 p.2.2.2.1, .slice A p.2.2.2.2.length cap]] w fun e w' => e = .returned (.tuple #[.string (emitOf p).1, .int .i64 (emitOf p).2]) ∧ Below w.heap.size w w' := by
  obtain ⟨p1, p2, p3, p4, L⟩ := p
  dsimp only at h hc hl
  have hp := ht.pos
  have HT := hide ht
  clear ht
  go_enter Tryd.func12, Tryd.ntmps12
  go_wp2_with (fail)
  have hP := Blk.new w 32 #[.int .i64 p1, .int .i64 p2, .int .i64 p3, .int .i64 p4, .slice A L.length cap]
  have hW : Below w.heap.size w (w.alloc (.cells #[.int .i64 p1, .int .i64 p2, .int .i64 p3, .int .i64 p4, .slice A L.length cap] 32)) := (by repeat (first | exact Below.refl _ _ | refine Below.alloc ?_ (by first | (simp; omega) | simp | omega) _ | refine drewN_below ?_ _ | refine Below.drew ?_))
  generalize w.alloc (.cells #[.int .i64 p1, .int .i64 p2, .int .i64 p3, .int .i64 p4, .slice A L.length cap] 32) = w1 at *
  have hsz1 := hW.size
  refine (check_any A cap (p1, p2, p3, p4, L) w.heap.size w1 hsz1 (h.below hW) hc hl).mono ?_
  rintro e w2 ⟨rfl, hb2⟩
  have hP2 := hP.below hb2 hP.lt
  have hW2 := hW.trans (hb2.mono hsz1)
  obtain ⟨ev, hev⟩ : ∃ ev, chkE (p1, p2, p3, p4, L) = ev := ⟨_, rfl⟩
  rw [hev]
  have HEV := hide hev
  clear hP hb2 hev hW
  by_cases hz : ev = 0
  · subst hz
    obtain ⟨k1, k2, k3, k4, k5, k6, -, k8⟩ := chk_ok HEV.out
    have HK := hide (And.intro k1 (And.intro k2 (And.intro k3 k4)))
    have HD := hide k8
    dsimp only at k5 k6
    have hsz2 := hW2.size
    have hP2l := hP2.lt
    have hR := hide (show (emitOf (p1, p2, p3, p4, L)) = (⟨(poolL (p1, p2, p3, p4, L)).toArray⟩, 0) by simp [emitOf, HEV.out])
    clear k1 k2 k3 k4 k8
    have c0 := hP2.cell 0
    have c1 := hP2.cell 1
    have c2 := hP2.cell 2
    have c3 := hP2.cell 3
    have c4 := hP2.cell 4
    simp at c0 c1 c2 c3 c4
    go_wp2_with (fail)
    have hbd0 := Bld.new w2.heap.size w2 (Nat.le_refl _)
    have hW3 : Below w2.heap.size w2 ((w2.alloc (.cells #[.pointer none, .slice none 0 0] 57)).alloc (.cells ((poolW (p1, p2, p3, p4, L)).flatMap wdc).toArray 20)) := (by repeat (first | exact Below.refl _ _ | refine Below.alloc ?_ (by first | (simp; omega) | simp | omega) _ | refine drewN_below ?_ _ | refine Below.drew ?_))
    have hbd1 : Bld w2.heap.size w2.heap.size [] ((w2.alloc (.cells #[.pointer none, .slice none 0 0] 57)).alloc (.cells ((poolW (p1, p2, p3, p4, L)).flatMap wdc).toArray 20)) := hbd0.alloc _
    have hg : Blk ((w2.alloc (.cells #[.pointer none, .slice none 0 0] 57)).alloc (.cells ((poolW (p1, p2, p3, p4, L)).flatMap wdc).toArray 20)) (w2.heap.size + 1) 20 ((poolW (p1, p2, p3, p4, L)).flatMap wdc).toArray := heap_new_at (by simp)
    have hsz3 : ((w2.alloc (.cells #[.pointer none, .slice none 0 0] 57)).alloc (.cells ((poolW (p1, p2, p3, p4, L)).flatMap wdc).toArray 20)).heap.size = w2.heap.size + 2 := by simp
    have ht2 : Tab w2 := HT.out.below hW2 hp
    have hp2 : 1 < w2.heap.size := by omega
    have HL := hide (poolW_len (p := (p1, p2, p3, p4, L)) HK.out.1 HK.out.2.1 HK.out.2.2.1 HK.out.2.2.2 k5)
    have hline := line_any w2.heap.size w2.heap.size (w2.heap.size + 1) 11 (poolW (p1, p2, p3, p4, L)) [] _ (ht2.below hW3 hp2) hp2 hbd1 (by omega) hg (by omega) (poolW_ok HK.out.1 HK.out.2.1 HK.out.2.2.1 HK.out.2.2.2 k5) (by simp [poolW]) (by have := HL.out; simp; omega)
    refine hline.mono ?_
    clear hline
    rintro e w4 ⟨rfl, hbd4, hb4, -⟩
    have hb24 := hW3.trans hb4
    have hs4 := hb24.size
    have hP4 := hP2.below hb24 hP2l
    rw [List.nil_append] at hbd4
    have d4 := hP4.cell 4
    simp at d4
    clear hW3 hg hbd0 hbd1 hb4 c0 c1 c2 c3 c4 hsz3
    obtain ⟨acc, hacc⟩ : ∃ acc, lineL (poolW (p1, p2, p3, p4, L)) = acc := ⟨_, rfl⟩
    rw [hacc] at hbd4
    have hal : acc.length ≤ 300 := by rw [← hacc]; exact HL.out
    have HACC := hide hacc
    have HT2 := hide ht2
    clear hacc ht2
    go_wp2_with (fail)
    go_loopw [40] (fun i wr => ∃ k : Nat, k ≤ L.length ∧ i = .int .i64 k ∧ Bld w2.heap.size w2.heap.size (acc ++ (L.take k).flatMap devL) wr ∧ Below w2.heap.size w2 wr) (fun i _ => L.length - (intOf i).toNat)
    case atStart => exact ⟨0, Nat.zero_le _, rfl, by simpa using hbd4, hb24⟩
    case round =>
      obtain ⟨k, hk, rfl, hbd, hb⟩ := hrel
      have hsr := hb.size
      have hdl := devs_len (L := L.take k) (fun d hd => HD.out d (List.mem_of_mem_take hd))
      have hcl := cntL_le L k
      have htl : (L.take k).length ≤ 4096 := by simp; omega
      clear hbd4 hb24 hP4 d4
      by_cases hlt : k < L.length
      · obtain ⟨d, hd⟩ := get_of_lt hlt
        obtain ⟨b, off, A', cap', rfl, hbB, g0, g1, g2, g3, g4, hr⟩ := (h.below (hW2.trans (hb.mono hsz2))) k d hd
        have hst : (L.take (k + 1)).flatMap devL = (L.take k).flatMap devL ++ devL d := by rw [take_step hd]; simp
        have hokd := HD.out d (List.mem_of_getElem? hd)
        have HST := hide hst
        have HOK := hide hokd
        have i0 : (0 : Int) ≤ (k : Int) := by omega
        have i1 : (k : Int) < (L.length : Int) := by omega
        clear hst hd hokd
        obtain ⟨d1, d2, d3, d4, l⟩ := d
        dsimp only at g0 g1 g2 g3 g4 hr
        have hWd : Below wr.heap.size wr (wr.alloc (.cells #[.int .i64 d1, .int .i64 d2, .int .i64 d3, .int .i64 d4, .slice A' l.length cap'] 24)) := (by repeat (first | exact Below.refl _ _ | refine Below.alloc ?_ (by first | (simp; omega) | simp | omega) _ | refine drewN_below ?_ _ | refine Below.drew ?_))
        have hbd2 := hbd.below hWd
        have hbb2 := hb.trans (hWd.mono hsr)
        have hr2 := (hr.mono (show w.heap.size ≤ w2.heap.size by omega)).below (hWd.mono hsr)
        have hs2 := hbb2.size
        go_wp2_with (fail)
        refine (device_any w2.heap.size w2.heap.size A' cap' (d1, d2, d3, d4, l) (acc ++ (L.take k).flatMap devL) _ (HT2.out.below hbb2 hp2) hp2 hbd2 hs2 hr2 HOK.out (by rw [List.length_append]; omega)).mono ?_
        rintro e w5 ⟨rfl, hbd5, hb5, -⟩
        have hb6 := hbb2.trans hb5
        have he5 : acc ++ (L.take k).flatMap devL ++ devL (d1, d2, d3, d4, l) = acc ++ (L.take (k + 1)).flatMap devL := by rw [HST.out]; simp
        rw [he5] at hbd5
        clear hbd hb hbd2 hbb2 hr2 hb5 hWd g0 g1 g2 g3 g4 he5
        go_wp2
        go_roundw
        case rel => exact ⟨k + 1, by omega, by go_num, hbd5, hb6⟩
        case measure => simp [intOf]; omega
      · have hkk : k = L.length := by omega
        rw [hkk, List.take_length] at hbd hdl
        clear hkk
        go_wp2_with (fail)
        have hWe : Below wr.heap.size wr (wr.alloc (.cells (endW.flatMap wdc).toArray 20)) := (by repeat (first | exact Below.refl _ _ | refine Below.alloc ?_ (by first | (simp; omega) | simp | omega) _ | refine drewN_below ?_ _ | refine Below.drew ?_))
        have hge : Blk (wr.alloc (.cells (endW.flatMap wdc).toArray 20)) wr.heap.size 20 (endW.flatMap wdc).toArray := heap_new_at rfl
        have hbbe := hb.trans (hWe.mono hsr)
        have hbl := hbd.lt
        have hline := line_any w2.heap.size w2.heap.size wr.heap.size 1 endW (acc ++ L.flatMap devL) _ (HT2.out.below hbbe hp2) hp2 (hbd.below hWe) hbbe.size hge (by omega) (by intro x hx; simp [endW] at hx; subst hx; trivial) (by simp [endW])
          (by have e : (lineL endW).length = 4 := rfl
              rw [List.length_append, e]; omega)
        refine hline.mono ?_
        clear hline
        rintro e w5 ⟨rfl, hbd5, hb5, -⟩
        have hb6 := hbbe.trans hb5
        have hfin : acc ++ L.flatMap devL ++ lineL endW = poolL (p1, p2, p3, p4, L) := by rw [← HACC.out]; rfl
        rw [hfin] at hbd5
        clear hfin
        clear hbd hb hWe hge hbbe hb5
        go_wp2_with (fail)
        refine (bstring_any w2.heap.size w2.heap.size _ w5 hbd5 hb6.size).mono ?_
        rintro e w6 ⟨rfl, hb7⟩
        have hb8 := hW2.trans ((hb6.trans hb7).mono hsz2)
        go_wp2
        go_ret2
        rw [hR.out]
        exact ⟨rfl, hb8⟩
  · have y0 : (ev != 0) = true := by simpa using hz
    have hR := hide (show (emitOf (p1, p2, p3, p4, L)) = (⟨#[]⟩, ev) by simp [emitOf, HEV.out, hz])
    clear hz
    go_wp2
    go_ret2
    rw [hR.out]
    exact ⟨rfl, hW2⟩

def exPool : Pl := (0, 0, 1, 0, [])
theorem exPool_emit : emitOf exPool = (⟨#[112, 111, 111, 108, 32, 116, 120, 32, 48, 32, 116, 105, 109, 101, 32, 48, 32, 117, 110, 105, 116, 32, 49, 32, 100, 97, 116, 97, 32, 48, 32, 100, 101, 118, 105, 99, 101, 115, 32, 48, 10, 101, 110, 100, 10]⟩, 0) := by
  have h : chkE exPool = 0 := by decide
  have h2 : poolL exPool = [112, 111, 111, 108, 32, 116, 120, 32, 48, 32, 116, 105, 109, 101, 32, 48, 32, 117, 110, 105, 116, 32, 49, 32, 100, 97, 116, 97, 32, 48, 32, 100, 101, 118, 105, 99, 101, 115, 32, 48, 10, 101, 110, 100, 10] := by
    simp [poolL, exPool, lineL, poolW, endW, sepL, wtx, Lib.itoa, Lib.decDigits_one]
    try decide
  simp [emitOf, h, h2]
set_option maxRecDepth 100000 in
theorem lives31_any (w : World) (ht : Tab w) : Calls Tryd.prog 8 #[] w fun e w' => e = .returned (.bool true) ∧ Below w.heap.size w w' := by
  have hem := emit_any none 0 exPool w ht (RdD.nil _ _ _) (by decide) (by decide)
  rw [exPool_emit] at hem
  have HE := hide hem
  clear hem
  go_enter Tryd.func8, Tryd.ntmps8
  go_wp2_with (fail)
  refine HE.out.mono ?_
  rintro e w' ⟨rfl, hb⟩
  go_wp2
  go_ret
  exact ⟨rfl, hb⟩
end Go.Proofs.YtaglmkjkmhpifaaDoor
