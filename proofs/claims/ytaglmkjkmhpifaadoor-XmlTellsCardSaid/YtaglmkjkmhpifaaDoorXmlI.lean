/- Chapter 42: the law XmlTells. -/
import Derived.Test.YtaglmkjkmhpifaaDoorXmlG
import Derived.Test.YtaglmkjkmhpifaaDoorXmlH
import Derived.Test.YtaglmkjkmhpifaaDoorPoolC
namespace Go.Proofs.YtaglmkjkmhpifaaDoor
open Go.RowKit
set_option linter.unusedVariables false
set_option linter.unusedSimpArgs false

theorem xmlTs_at {p : Pl} {t : Ti} (h : t ∈ xmlTs p) : t.2.2.2 = 0 ∧ t.2.2.1.length ≤ 5 := by
  rcases xmlTs_mem h with rfl | ⟨d, hd, rfl | ⟨r, hr, rfl⟩ | rfl⟩ | rfl
  · exact ⟨rfl, by simp [headT, headN]⟩
  · exact ⟨rfl, by simp [devT, devN]⟩
  · unfold runT
    split
    · exact ⟨rfl, by simp [oneN]⟩
    · exact ⟨rfl, by simp [rngN]⟩
  · exact ⟨rfl, by simp [endT]⟩
  · exact ⟨rfl, by simp [endT]⟩
/-- What Tags hands back of any pool, beside its text. -/
theorem tags42_gen (A : Option Addr) (cap : Nat) (p : Pl) (w : World) (ht : Tab w) (h : RdD w w.heap.size A p.2.2.2.2) (hc : cntL p.2.2.2.2 ≤ 2000) (hl : p.2.2.2.2.length ≤ 200) :
    Calls Tryd.prog 20 #[.agg #[.int .i64 p.1, .int .i64 p.2.1, .int .i64 p.2.2.1, .int .i64 p.2.2.2.1, .slice A p.2.2.2.2.length cap]] w fun e w' =>
      ∃ A2 cap2 T, e = .returned (.tuple #[.slice A2 (List.length T) cap2, .int .i64 (xmlOf p).2]) ∧ RdI w' w'.heap.size A2 T ∧ Below w.heap.size w w' ∧ T.length ≤ 5000 ∧ (∀ t ∈ T, t.2.2.2 = 0 ∧ t.2.2.1.length ≤ 5) ∧
        ∃ L', tagsP (xmlOf p).1 = .ok L' ∧ (L'.map tOf).map eraT = T.map eraT := by
  refine (tags42_any A cap p w ht h (by omega) (by omega)).mono ?_
  intro e w2 hT
  unfold Tags42 at hT
  by_cases hz : chkE p = 0
  · rw [if_pos hz] at hT
    obtain ⟨v, rfl, rows, hO, hM, hb2⟩ := hT
    obtain ⟨A2, n2, cap2, rfl, -, -⟩ := hO.rd ric_len
    obtain ⟨hn2, hJ⟩ := rdJ_ofI hO hM
    subst hn2
    obtain ⟨k1, k2, k3, k4, k5, k6, -, k8⟩ := chk_ok hz
    have hlen := xmlTs_len k8
    have e1 : xmlOf p = (⟨(xmlL p).toArray⟩, 0) := if_pos hz
    rw [e1]
    exact ⟨A2, cap2, xmlTs p, rfl, hJ.i, hb2, by omega, fun t ht => xmlTs_at ht, xml_scan p⟩
  · rw [if_neg hz] at hT
    obtain ⟨rfl, hb2⟩ := hT
    have e1 : xmlOf p = (⟨#[]⟩, chkE p) := if_neg hz
    rw [e1]
    exact ⟨none, 0, [], rfl, RdI.nil _ _ _, hb2, by simp, by simp, [], by rfl, rfl⟩
theorem xmlOf_size {p : Pl} (hc : cntL p.2.2.2.2 ≤ 2000) (hl : p.2.2.2.2.length ≤ 200) : (xmlOf p).1.size ≤ 4000000 := by
  unfold xmlOf
  split
  · rename_i h
    have := xmlL_len h
    show (xmlL p).toArray.size ≤ _
    rw [List.size_toArray]
    omega
  · show (#[] : Array UInt8).size ≤ _
    simp

set_option maxRecDepth 100000 in
set_option maxHeartbeats 8000000 in
theorem xmlTells_any (A : Option Addr) (cap : Nat) (p : Pl) (w : World) (ht : Tab w) (h : RdD w w.heap.size A p.2.2.2.2) (hl : p.2.2.2.2.length ≤ 6000000000000) (hm : ∀ d ∈ p.2.2.2.2, d.2.2.2.2.length ≤ 6000000000000) :
    Calls Tryd.prog 6 #[.agg #[.int .i64 p.1, .int .i64 p.2.1, .int .i64 p.2.2.1, .int .i64 p.2.2.2.1, .slice A p.2.2.2.2.length cap]] w fun e w' => e = .returned (.bool true) ∧ Below w.heap.size w w' := by
  obtain ⟨p1, p2, p3, p4, L⟩ := p
  dsimp only at h hl hm
  have HM := hide hm
  have hp := ht.pos
  have HT := hide ht
  clear ht hm
  have hT := Blk.new w 32 #[.int .i64 p1, .int .i64 p2, .int .i64 p3, .int .i64 p4, .slice A L.length cap]
  have hW : Below w.heap.size w (w.alloc (.cells #[.int .i64 p1, .int .i64 p2, .int .i64 p3, .int .i64 p4, .slice A L.length cap] 32)) := (by repeat (first | exact Below.refl _ _ | refine Below.alloc ?_ (by first | (simp; omega) | simp | omega) _ | refine drewN_below ?_ _ | refine Below.drew ?_))
  go_enter Tryd.func6, Tryd.ntmps6
  go_wp2_with (fail)
  generalize w.alloc (.cells #[.int .i64 p1, .int .i64 p2, .int .i64 p3, .int .i64 p4, .slice A L.length cap] 32) = w1 at *
  have hTl := hT.lt
  have hs1 := hW.size
  refine (few18_any A cap (p1, p2, p3, p4, L) w.heap.size w1 hs1 (h.below hW) hl HM.out).mono ?_
  rintro e w2 ⟨rfl, hb2⟩
  have hT2 := hT.below hb2 hTl
  have hTl2 := hT2.lt
  have hW2 := hW.trans (hb2.mono hs1)
  have hs2 := hW2.size
  by_cases hf : fewP (p1, p2, p3, p4, L) = true
  · have hfv : fewV (p1, p2, p3, p4, L) = 1 := by simp [fewV, hf]
    obtain ⟨hf1, hf2⟩ := fewP_true hf
    dsimp only at hf1 hf2
    have hxs := xmlOf_size (p := (p1, p2, p3, p4, L)) hf2 hf1
    have htg : ∀ w' : World, Below w.heap.size w w' → Calls Tryd.prog 20 #[.agg #[.int .i64 p1, .int .i64 p2, .int .i64 p3, .int .i64 p4, .slice A L.length cap]] w' _ := fun w' hw' =>
      tags42_gen A cap (p1, p2, p3, p4, L) w' (HT.out.below hw' hp) ((h.below hw').mono hw'.size) hf2 hf1
    have hre : ∀ w' : World, Below w.heap.size w w' → Calls Tryd.prog 19 #[.agg #[.int .i64 p1, .int .i64 p2, .int .i64 p3, .int .i64 p4, .slice A L.length cap]] w' _ := fun w' hw' =>
      rxEmit_any A cap (p1, p2, p3, p4, L) w' ((h.below hw').mono hw'.size) (by dsimp only; omega) (by dsimp only; omega)
    have hem := xemit_any A cap (p1, p2, p3, p4, L) w2 (HT.out.below hW2 hp) ((h.below hW2).mono hs2) (by dsimp only; omega) (by dsimp only; omega)
    obtain ⟨s, f, hsf⟩ : ∃ s f, xmlOf (p1, p2, p3, p4, L) = (s, f) := ⟨_, _, rfl⟩
    rw [hsf] at hem hxs
    simp only [hsf] at htg hre
    dsimp only at hem hxs
    have HTG := hide htg
    have HRE := hide hre
    have HEM := hide hem
    clear hf htg hre hem hsf
    have c0 := hT2.cell 0
    have c1 := hT2.cell 1
    have c2 := hT2.cell 2
    have c3 := hT2.cell 3
    have c4 := hT2.cell 4
    simp at c0 c1 c2 c3 c4
    go_wp2_with (fail)
    clear c0 c1 c2 c3 c4
    refine HEM.out.mono ?_
    rintro e w3 ⟨rfl, hb3⟩
    have hT3 := hT2.below hb3 hTl2
    have hTl3 := hT3.lt
    have hW3 := hW2.trans (hb3.mono hs2)
    have hs3 := hW3.size
    clear hT2 hb3 HEM
    have c0 := hT3.cell 0
    have c1 := hT3.cell 1
    have c2 := hT3.cell 2
    have c3 := hT3.cell 3
    have c4 := hT3.cell 4
    simp at c0 c1 c2 c3 c4
    go_wp2_with (fail)
    clear c0 c1 c2 c3 c4
    refine (HRE.out w3 hW3).mono ?_
    rintro e w4 ⟨rfl, hb4⟩
    have hT4 := hT3.below hb4 hTl3
    have hTl4 := hT4.lt
    have hW4 := hW3.trans (hb4.mono hs3)
    have hs4 := hW4.size
    clear hT3 hb4 HRE hW3
    have c0 := hT4.cell 0
    have c1 := hT4.cell 1
    have c2 := hT4.cell 2
    have c3 := hT4.cell 3
    have c4 := hT4.cell 4
    simp at c0 c1 c2 c3 c4
    go_wp2_with (fail)
    clear c0 c1 c2 c3 c4
    refine (HTG.out w4 hW4).mono ?_
    rintro e w5 ⟨A2, cap2, T, rfl, hR5, hb5, hTn, hTa, L', hLp, hLe⟩
    have hW5 := hW4.trans (hb5.mono hs4)
    have hs5 := hW5.size
    have hrt := rTags_any s hxs w5
    rw [hLp] at hrt
    have HRT := hide hrt
    have HLE := hide hLe
    have HTA := hide hTa
    have HR5 := hide hR5
    clear hT4 hb5 HTG hW4 hrt hLe hTa hR5 hLp
    go_wp2_with (fail)
    refine HRT.out.mono ?_
    rintro e w6 ⟨v6, rows, rfl, hO6, hM6, hb6⟩
    obtain ⟨A6, n6, cap6, rfl, -, -⟩ := hO6.rd trc_len
    obtain ⟨hn6, hR6⟩ := rdI_of hO6 hM6
    have hW6 := hW5.trans (hb6.mono hs5)
    have hs6 := hW6.size
    have HR5' := hide (HR5.out.below hb6)
    have hs56 := hb6.size
    have HN6 := hide hn6
    have HR6 := hide hR6
    clear hO6 hM6 hb6 hn6 hR6 HRT HR5
    go_wp2_with (fail)
    go_loopw [12] (fun i wr => ∃ k : Nat, k ≤ T.length ∧ i = .int .i64 k ∧ wr = w6) (fun i _ => T.length - (intOf i).toNat)
    case atStart => exact ⟨0, Nat.zero_le _, rfl, rfl⟩
    case round =>
      obtain ⟨k, hk, rfl, rfl⟩ := hrel
      by_cases hlt : k < T.length
      · obtain ⟨t, ht⟩ := get_of_lt hlt
        obtain ⟨b, off, A', cap', rfl, hbB, c0, c1, c2, c3, hr⟩ := HR5'.out k t ht
        rw [(HTA.out t (List.mem_of_getElem? ht)).1] at c3
        have i0 : (0 : Int) ≤ (k : Int) := by omega
        have i1 : (k : Int) < (T.length : Int) := by omega
        clear ht hr c0 c1 c2
        go_wp2
        go_roundw
        case rel => exact ⟨k + 1, by omega, by go_num, by first | rfl | trivial⟩
        case measure => simp [intOf]; omega
      · have hkk : k = T.length := by omega
        subst hkk
        go_wp2_with (fail)
        refine (Own_any A2 cap2 T w5.heap.size wr hs56 HR5'.out (by omega) (fun t ht => by have := (HTA.out t ht).2; omega)).mono ?_
        rintro e w7 ⟨v7, rows7, rfl, hO7, hM7, hb7⟩
        obtain ⟨A7, n7, cap7, rfl, -, -⟩ := hO7.rd ric_len
        obtain ⟨hn7, hR7⟩ := rdI_ofI hO7 hM7
        subst hn7
        have hW7 := hW6.trans (hb7.mono hs6)
        have hs7 := hW7.size
        have HR7 := hide hR7
        have HR6' := hide ((HR6.out.below hb7).mono hb7.size)
        clear hO7 hM7 hb7 hR7 HR6
        go_wp2_with (fail)
        refine (same41f_any A7 A6 cap7 cap6 n6 T (L'.map tOf) w7.heap.size w7 (Nat.le_refl _) HR7.out HR6'.out (by omega) (fun t ht => by have := (HTA.out t ht).2; omega) HN6.out HLE.out.symm).mono ?_
        rintro e w8 ⟨rfl, hb8⟩
        have hW8 := hW7.trans (hb8.mono hs7)
        clear hb8 HR7 HR6'
        go_wp2_with (fail)
        refine (lives42_any w8 (HT.out.below hW8 hp)).mono ?_
        rintro e w9 ⟨rfl, hb9⟩
        have hW9 := hW8.trans (hb9.mono hW8.size)
        go_wp2
        go_ret
        exact ⟨rfl, hW9⟩
  · have hfv : fewV (p1, p2, p3, p4, L) = 0 := by simp [fewV, hf]
    clear hf
    go_wp2_with (fail)
    refine (lives42_any _ (HT.out.below hW2 hp)).mono ?_
    rintro e w3 ⟨rfl, hb3⟩
    have hw3 := hW2.trans (hb3.mono hs2)
    go_wp2
    go_ret
    exact ⟨rfl, hw3⟩
end Go.Proofs.YtaglmkjkmhpifaaDoor
