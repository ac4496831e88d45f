/- Chapter 31: the lines of a device. -/
import Derived.Test.YtaglmkjkmhpifaaDoorEmB
import Derived.Test.YtaglmkjkmhpifaaDoorRunsD
namespace Go.Proofs.YtaglmkjkmhpifaaDoor
open Go.RowKit
set_option linter.unusedVariables false
set_option linter.unusedSimpArgs false

/-- A device: its numbers, its mappings. -/
abbrev Dv := Int × Int × Int × Int × List Mp
def headW (d : Dv) : List Wd := [.inl ⟨#[100, 101, 118, 105, 99, 101]⟩, .inr d.1, .inl ⟨#[116, 120]⟩, .inr d.2.1, .inl ⟨#[109, 97, 100, 101]⟩, .inr d.2.2.1, .inl ⟨#[115, 110, 97, 112, 112, 101, 100]⟩, .inr d.2.2.2.1, .inl ⟨#[109, 97, 112, 115]⟩, .inr (d.2.2.2.2.length : Int)]
def runW (r : Rn) : List Wd := [.inl ⟨#[109, 97, 112]⟩, .inr r.1, .inr r.2.1, .inr r.2.2.1, .inr r.2.2.2]
def runL (r : Rn) : List UInt8 := lineL (runW r)
/-- The lines of a device. -/
def devL (d : Dv) : List UInt8 := lineL (headW d) ++ (runsOf d.2.2.2.2).flatMap runL

def okM (m : Mp) : Prop := 0 ≤ m.1 ∧ m.1 ≤ 1000000000000000 ∧ 0 ≤ m.2.1 ∧ m.2.1 ≤ 1000000000000000 ∧ I64 m.2.2
def okD (d : Dv) : Prop := I64 d.1 ∧ I64 d.2.1 ∧ I64 d.2.2.1 ∧ I64 d.2.2.2.1 ∧ (∀ m ∈ d.2.2.2.2, okM m) ∧ d.2.2.2.2.length ≤ 100000

theorem runsOf_mem (l : List Mp) : ∀ r ∈ runsOf l, (∃ m ∈ l, r.1 = m.1 ∧ r.2.1 = m.2.1 ∧ r.2.2.2 = m.2.2) ∧ 0 ≤ r.2.2.1 ∧ r.2.2.1 ≤ l.length := by
  refine runsOf_rev (fun l => ∀ r ∈ runsOf l, (∃ m ∈ l, r.1 = m.1 ∧ r.2.1 = m.2.1 ∧ r.2.2.2 = m.2.2) ∧ 0 ≤ r.2.2.1 ∧ r.2.2.1 ≤ l.length) ?_ ?_ l
  · intro r hr; simp [runsOf] at hr
  · intro l m ih r hr
    rw [runsOf_snoc] at hr
    rcases List.eq_nil_or_concat (runsOf l) with h0 | ⟨l', a, h0⟩
    · rw [h0] at hr
      simp [addR] at hr
      subst hr
      exact ⟨⟨m, by simp, rfl, rfl, rfl⟩, by simp [oneR], by simp [oneR]; omega⟩
    · have hc : runsOf l = l' ++ [a] := by rw [h0]; simp
      rw [hc, addR_snoc] at hr
      rcases List.mem_append.1 hr with h1 | h1
      · obtain ⟨⟨m', h2, h3⟩, h4, h5⟩ := ih r (by rw [hc]; simp [h1])
        exact ⟨⟨m', by simp [h2], h3⟩, h4, by simp; omega⟩
      · obtain ⟨⟨m', h2, h3⟩, h4, h5⟩ := ih a (by rw [hc]; simp)
        split at h1
        · simp at h1
          subst h1
          exact ⟨⟨m', by simp [h2], h3⟩, by simp [oneR]; omega, by simp [oneR]; omega⟩
        · simp at h1
          rcases h1 with rfl | rfl
          · exact ⟨⟨m', by simp [h2], h3⟩, h4, by simp; omega⟩
          · exact ⟨⟨m, by simp, rfl, rfl, rfl⟩, by simp [oneR], by simp [oneR]; omega⟩

theorem itoa_le (n : Int) (h : I64 n) : (Lib.itoa n).length ≤ 21 := Lib.itoa_length_le n h.1 h.2
theorem head_ok {d : Dv} (h : okD d) : ∀ x ∈ headW d, okW x := by
  obtain ⟨h1, h2, h3, h4, _, h5⟩ := h
  intro x hx
  simp only [headW, List.mem_cons, List.not_mem_nil, or_false] at hx
  rcases hx with rfl | rfl | rfl | rfl | rfl | rfl | rfl | rfl | rfl | rfl
  all_goals first | trivial | assumption | (show I64 _; unfold I64; omega)
theorem head_len {d : Dv} (h : okD d) : (lineL (headW d)).length ≤ 200 := by
  obtain ⟨h1, h2, h3, h4, _, h5⟩ := h
  have q1 := itoa_le _ h1
  have q2 := itoa_le _ h2
  have q3 := itoa_le _ h3
  have q4 := itoa_le _ h4
  have q5 := itoa_le (d.2.2.2.2.length : Int) (by unfold I64; omega)
  simp [lineL, headW, sepL, wtx]
  omega
theorem run_ok {l : List Mp} (h : ∀ m ∈ l, okM m) (hl : l.length ≤ 100000) {r : Rn} (hr : r ∈ runsOf l) : I64 r.1 ∧ I64 r.2.1 ∧ I64 r.2.2.1 ∧ I64 r.2.2.2 := by
  obtain ⟨⟨m, hm, e1, e2, e3⟩, h1, h2⟩ := runsOf_mem l r hr
  obtain ⟨q1, q2, q3, q4, q5⟩ := h m hm
  rw [e1, e2, e3]
  exact ⟨by unfold I64; omega, by unfold I64; omega, by unfold I64; omega, q5⟩
theorem runW_ok {r : Rn} (h : I64 r.1 ∧ I64 r.2.1 ∧ I64 r.2.2.1 ∧ I64 r.2.2.2) : ∀ x ∈ runW r, okW x := by
  obtain ⟨h1, h2, h3, h4⟩ := h
  intro x hx
  simp only [runW, List.mem_cons, List.not_mem_nil, or_false] at hx
  rcases hx with rfl | rfl | rfl | rfl | rfl
  all_goals first | trivial | assumption
theorem runL_len {r : Rn} (h : I64 r.1 ∧ I64 r.2.1 ∧ I64 r.2.2.1 ∧ I64 r.2.2.2) : (runL r).length ≤ 100 := by
  obtain ⟨h1, h2, h3, h4⟩ := h
  have q1 := itoa_le _ h1
  have q2 := itoa_le _ h2
  have q3 := itoa_le _ h3
  have q4 := itoa_le _ h4
  simp [runL, lineL, runW, sepL, wtx]
  omega
theorem runs_len {l : List Rn} (h : ∀ r ∈ l, I64 r.1 ∧ I64 r.2.1 ∧ I64 r.2.2.1 ∧ I64 r.2.2.2) : (l.flatMap runL).length ≤ 100 * l.length := by
  induction l with
  | nil => simp
  | cons r l ih =>
    have h1 := runL_len (h r (by simp))
    have h2 := ih (fun x hx => h x (by simp [hx]))
    simp only [List.flatMap_cons, List.length_append, List.length_cons]
    omega

theorem Own.kept {α : Type} {w w' : World} {base size b : Nat} {e : TypeId} {c : α → List Value} {v : Value} {l : List α} (h : Own w base e size c v l) (hk : Kept b w w') (hb : b < base) (he : e ≠ 5) : Own w' base e size c v l := by
  refine ⟨h.1, ?_⟩
  rcases h.2 with h2 | ⟨g, cap, cur, hv, hg, hh, r⟩
  · exact Or.inl h2
  · exact Or.inr ⟨g, cap, cur, hv, hg, hk g _ hh (by simp; omega) (fun c fz e1 => by injection e1 with _ e1; exact he e1), r⟩

set_option maxRecDepth 100000 in
set_option maxHeartbeats 8000000 in
theorem device_any (B b : Nat) (A : Option Addr) (cap : Nat) (d : Dv) (acc : List UInt8) (w : World) (ht : Tab w) (hpB : 1 < B) (hb0 : Bld B b acc w) (hBw : B ≤ w.heap.size) (hr : Rd w B 3 mc A d.2.2.2.2)
    (hok : okD d) (hlen : acc.length ≤ 10000000000000) :
    Calls Tryd.prog 25 #[.pointer (some ⟨b, 0, none⟩), .agg #[.int .i64 d.1, .int .i64 d.2.1, .int .i64 d.2.2.1, .int .i64 d.2.2.2.1, .slice A d.2.2.2.2.length cap]] w fun e w' => e = .returned (.tuple #[]) ∧ Bld B b (acc ++ devL d) w' ∧ Below B w w' ∧ Kept b w w' := by
  obtain ⟨d1, d2, d3, d4, l⟩ := d
  have HOK := hide hok
  have HT := hide ht
  have HL := hide (head_len hok)
  have hll := hok.2.2.2.2.2
  dsimp only at hr hll
  have hbl := hb0.lt
  clear hok ht
  go_enter Tryd.func25, Tryd.ntmps25
  go_wp2_with (fail)
  have hW : Below w.heap.size w ((w.alloc (.cells #[.int .i64 d1, .int .i64 d2, .int .i64 d3, .int .i64 d4, .slice A l.length cap] 24)).alloc (.cells ((headW (d1, d2, d3, d4, l)).flatMap wdc).toArray 20)) := (by repeat (first | exact Below.refl _ _ | refine Below.alloc ?_ (by first | (simp; omega) | simp | omega) _ | refine drewN_below ?_ _ | refine Below.drew ?_))
  have hD := (Blk.new w 24 #[.int .i64 d1, .int .i64 d2, .int .i64 d3, .int .i64 d4, .slice A l.length cap]).alloc (.cells ((headW (d1, d2, d3, d4, l)).flatMap wdc).toArray 20)
  have hg : Blk ((w.alloc (.cells #[.int .i64 d1, .int .i64 d2, .int .i64 d3, .int .i64 d4, .slice A l.length cap] 24)).alloc (.cells ((headW (d1, d2, d3, d4, l)).flatMap wdc).toArray 20)) (w.heap.size + 1) 20 ((headW (d1, d2, d3, d4, l)).flatMap wdc).toArray := heap_new_at (by simp)
  have hsz : ((w.alloc (.cells #[.int .i64 d1, .int .i64 d2, .int .i64 d3, .int .i64 d4, .slice A l.length cap] 24)).alloc (.cells ((headW (d1, d2, d3, d4, l)).flatMap wdc).toArray 20)).heap.size = w.heap.size + 2 := by simp
  have hline := line_any B b (w.heap.size + 1) 10 (headW (d1, d2, d3, d4, l)) acc _ ((HT.out.below hW HT.out.pos)) hpB (hb0.below hW) (by omega) hg (by omega) (head_ok HOK.out) (by simp [headW]) (by have := HL.out; omega)
  refine hline.mono ?_
  clear hline
  rintro e w1 ⟨rfl, hbd1, hb1, hk1⟩
  have hb1' : Below B w w1 := (hW.mono hBw).trans hb1
  have hk1' : Kept b w w1 := (Kept.of_below hW).trans hk1
  have hD1 : Blk w1 w.heap.size 24 #[.int .i64 d1, .int .i64 d2, .int .i64 d3, .int .i64 d4, .slice A l.length cap] := hD.kept hk1 (by omega) (by decide)
  have hs1 : w.heap.size < w1.heap.size := hD1.lt
  have hbl1 := hbd1.lt
  have hB1 : B ≤ w1.heap.size := by omega
  have hr1 := (hr.below hb1').mono hB1
  have hmm : MildM l := fun m hm => ⟨(HOK.out.2.2.2.2.1 m hm).1, (HOK.out.2.2.2.2.1 m hm).2.1, (HOK.out.2.2.2.2.1 m hm).2.2.1, (HOK.out.2.2.2.2.1 m hm).2.2.2.1⟩
  have HM := hide hmm
  have c4 := hD1.cell 4
  simp at c4
  clear hW hD hg hb1 hk1 hb0 hmm hsz
  obtain ⟨acc1, ha1⟩ : ∃ acc1, acc ++ lineL (headW (d1, d2, d3, d4, l)) = acc1 := ⟨_, rfl⟩
  have hal : acc1.length ≤ 10000000000200 := by rw [← ha1, List.length_append]; have := HL.out; omega
  rw [ha1] at hbd1
  have HA1 := hide ha1
  clear ha1
  go_wp2_with (fail)
  refine (of_any A cap l w1 hr1 HM.out hll).mono ?_
  rintro e w2 ⟨v, rfl, hO2, hb2⟩
  obtain ⟨A2, n2, cap2, rfl, hn2, -⟩ := hO2.rd rc_len
  subst hn2
  have hbd2 := hbd1.below hb2
  have hbw2 := hb1'.trans (hb2.mono hB1)
  have hkw2 := hk1'.trans (Kept.of_below hb2)
  have hs2 := hb2.size
  have hrl := runsOf_len l
  have hro : ∀ r ∈ runsOf l, I64 r.1 ∧ I64 r.2.1 ∧ I64 r.2.2.1 ∧ I64 r.2.2.2 := fun r hr => run_ok HOK.out.2.2.2.2.1 hll hr
  obtain ⟨rs, hrs⟩ : ∃ rs, runsOf l = rs := ⟨_, rfl⟩
  have hdv : acc ++ devL (d1, d2, d3, d4, l) = acc1 ++ rs.flatMap runL := by rw [← HA1.out, ← hrs]; simp [devL]
  rw [hrs] at hO2 hrl hro
  rw [hrs]
  have HDV := hide hdv
  have HRO := hide hro
  have HO := hide hO2
  clear hO2 hdv hro hrs hbd1 hb1' hk1' hr1 hb2 c4 hD1
  go_wp2
  go_loopw [34] (fun i wr => ∃ k : Nat, k ≤ rs.length ∧ i = .int .i64 k ∧ Bld B b (acc1 ++ (rs.take k).flatMap runL) wr ∧ Below B w wr ∧ Kept b w2 wr) (fun i _ => rs.length - (intOf i).toNat)
  case atStart => exact ⟨0, Nat.zero_le _, rfl, by simpa using hbd2, hbw2, Lib.OthersKept.refl _ _ _⟩
  case round =>
    obtain ⟨k, hk, rfl, hbd, hb, hkp⟩ := hrel
    have hblr := hbd.lt
    have hBr : B ≤ wr.heap.size := by have := hb.size; omega
    by_cases hlt : k < rs.length
    · obtain ⟨r, hx⟩ := get_of_lt hlt
      have hOr := HO.out.kept hkp (by omega) (by decide)
      obtain ⟨A3, n3, cap3, he, hn3, hrd⟩ := hOr.rd rc_len
      injection he with e1 e2 e3
      subst e1
      obtain ⟨b3, off3, hA3, hb3, q0, q1, q2, q3⟩ := hrd.rn hx
      have hst : (rs.take (k + 1)).flatMap runL = (rs.take k).flatMap runL ++ runL r := by rw [take_step hx]; simp
      have hrk := HRO.out r (List.mem_of_getElem? hx)
      have hpre := runs_len (l := rs.take k) (fun x hx => HRO.out x (List.mem_of_mem_take hx))
      have htl : (rs.take k).length ≤ 100000 := by simp; omega
      have hrl2 := runL_len hrk
      have HRK := hide hrk
      have HST := hide hst
      subst hA3
      have i0 : (0 : Int) ≤ (k : Int) := by omega
      have i1 : (k : Int) < (rs.length : Int) := by omega
      clear hst hx hOr hrd hrk hn3 e2 e3
      obtain ⟨r1, r2, r3, r4⟩ := r
      dsimp only at q0 q1 q2 q3
      go_wp2_with (fail)
      have hW : Below wr.heap.size wr ((wr.alloc (.cells #[.int .i64 r1, .int .i64 r2, .int .i64 r3, .int .i64 r4] 65)).alloc (.cells ((runW (r1, r2, r3, r4)).flatMap wdc).toArray 20)) := (by repeat (first | exact Below.refl _ _ | refine Below.alloc ?_ (by first | (simp; omega) | simp | omega) _ | refine drewN_below ?_ _ | refine Below.drew ?_))
      have hg : Blk ((wr.alloc (.cells #[.int .i64 r1, .int .i64 r2, .int .i64 r3, .int .i64 r4] 65)).alloc (.cells ((runW (r1, r2, r3, r4)).flatMap wdc).toArray 20)) (wr.heap.size + 1) 20 ((runW (r1, r2, r3, r4)).flatMap wdc).toArray := heap_new_at (by simp)
      have hsz : ((wr.alloc (.cells #[.int .i64 r1, .int .i64 r2, .int .i64 r3, .int .i64 r4] 65)).alloc (.cells ((runW (r1, r2, r3, r4)).flatMap wdc).toArray 20)).heap.size = wr.heap.size + 2 := by simp
      have hbW := hb.trans (hW.mono hBr)
      have hline := line_any B b (wr.heap.size + 1) 5 (runW (r1, r2, r3, r4)) (acc1 ++ (rs.take k).flatMap runL) _ ((HT.out.below hb hpB).below (hW.mono hBr) hpB) hpB (hbd.below hW) (by omega) hg (by omega) (runW_ok HRK.out) (by simp [runW])
        (by have e : (lineL (runW (r1, r2, r3, r4))).length = (runL (r1, r2, r3, r4)).length := rfl
            rw [List.length_append]; omega)
      refine hline.mono ?_
      clear hline
      rintro e w4 ⟨rfl, hbd4, hb4, hk4⟩
      have hbw4 := hbW.trans hb4
      have hkw4 := (hkp.trans (Kept.of_below hW)).trans hk4
      have he4 : acc1 ++ (rs.take k).flatMap runL ++ lineL (runW (r1, r2, r3, r4)) = acc1 ++ (rs.take (k + 1)).flatMap runL := by rw [HST.out]; simp [runL]
      rw [he4] at hbd4
      clear hW hg hbW hb4 hk4 hbd hb hkp q0 q1 q2 q3 he4 hsz
      go_wp2
      go_roundw
      case rel => exact ⟨k + 1, by omega, by go_num, hbd4, hbw4, hkw4⟩
      case measure => simp [intOf]; omega
    · have hkk : k = rs.length := by omega
      rw [hkk, List.take_length] at hbd
      clear hkk
      go_wp2
      refine bodyPost_end (results_none rfl _ _ _) rfl ?_
      exact ⟨rfl, by rw [HDV.out]; exact hbd, hb, hkw2.trans hkp⟩

set_option maxRecDepth 100000 in
theorem Device_any (A : Option Addr) (cap : Nat) (d : Dv) (w : World) (ht : Tab w) (hr : Rd w w.heap.size 3 mc A d.2.2.2.2) (hok : okD d) :
    Calls Tryd.prog 9 #[.agg #[.int .i64 d.1, .int .i64 d.2.1, .int .i64 d.2.2.1, .int .i64 d.2.2.2.1, .slice A d.2.2.2.2.length cap]] w fun e w' => e = .returned (.string ⟨(devL d).toArray⟩) ∧ Below w.heap.size w w' := by
  have HOK := hide hok
  have hp := ht.pos
  have HT := hide ht
  clear hok ht
  go_enter Tryd.func9, Tryd.ntmps9
  go_wp2_with (fail)
  have hW : Below w.heap.size w ((w.alloc (.cells #[.int .i64 d.1, .int .i64 d.2.1, .int .i64 d.2.2.1, .int .i64 d.2.2.2.1, .slice A d.2.2.2.2.length cap] 24)).alloc (.cells #[.pointer none, .slice none 0 0] 57)) := (by repeat (first | exact Below.refl _ _ | refine Below.alloc ?_ (by first | (simp; omega) | simp | omega) _ | refine drewN_below ?_ _ | refine Below.drew ?_))
  have hbd := Bld.new w.heap.size (w.alloc (.cells #[.int .i64 d.1, .int .i64 d.2.1, .int .i64 d.2.2.1, .int .i64 d.2.2.2.1, .slice A d.2.2.2.2.length cap] 24)) (by simp)
  rw [World.size_alloc] at hbd
  have hsz : ((w.alloc (.cells #[.int .i64 d.1, .int .i64 d.2.1, .int .i64 d.2.2.1, .int .i64 d.2.2.2.1, .slice A d.2.2.2.2.length cap] 24)).alloc (.cells #[.pointer none, .slice none 0 0] 57)).heap.size = w.heap.size + 2 := by simp
  have ht2 := HT.out.below hW hp
  generalize ((w.alloc (.cells #[.int .i64 d.1, .int .i64 d.2.1, .int .i64 d.2.2.1, .int .i64 d.2.2.2.1, .slice A d.2.2.2.2.length cap] 24)).alloc (.cells #[.pointer none, .slice none 0 0] 57)) = w1 at *
  refine (device_any w.heap.size (w.heap.size + 1) A cap d [] w1 ht2 hp hbd (by omega) (hr.below hW) HOK.out (by simp)).mono ?_
  rintro e w2 ⟨rfl, hbd2, hb2, -⟩
  have hb := hW.trans hb2
  have hs2 := hb2.size
  clear hbd ht2 hW hb2
  go_wp2_with (fail)
  refine (bstring_any w.heap.size (w.heap.size + 1) _ w2 hbd2 (by omega)).mono ?_
  rintro e w3 ⟨rfl, hb3⟩
  have hb4 := hb.trans hb3
  go_wp2
  go_ret
  exact ⟨by simp, hb4⟩
end Go.Proofs.YtaglmkjkmhpifaaDoor
