/- Chapter 31: the law EmitTells. -/
import Derived.Test.YtaglmkjkmhpifaaDoorEmG
import Derived.Test.YtaglmkjkmhpifaaDoorEmI
import Derived.Test.YtaglmkjkmhpifaaDoorPoolC
namespace Go.Proofs.YtaglmkjkmhpifaaDoor
open Go.RowKit
set_option linter.unusedVariables false
set_option linter.unusedSimpArgs false

theorem lines_in (N : Nat) (W : World) (A : Option Addr) (cap : Nat) (p : Pl) (hr : RdD W N A p.2.2.2.2) (hc : cntL p.2.2.2.2 ≤ 1000000) (hl : p.2.2.2.2.length ≤ 1000000) (hN : N ≤ W.heap.size) (wz : World) (hz : Below N W wz) :
    Calls Tryd.prog 14 #[.agg #[.int .i64 p.1, .int .i64 p.2.1, .int .i64 p.2.2.1, .int .i64 p.2.2.2.1, .slice A p.2.2.2.2.length cap]] wz fun e w' => e = .returned (.int .i64 (linesOf p)) ∧ Below N wz w' :=
  (lines_any A cap p wz ((hr.below hz).mono (by have := hz.size; omega)) hc hl).mono fun e w' ⟨h1, h2⟩ => ⟨h1, h2.mono (by have := hz.size; omega)⟩
theorem rLines_in (N : Nat) (W : World) (A : Option Addr) (cap : Nat) (p : Pl) (hr : RdD W N A p.2.2.2.2) (hc : cntL p.2.2.2.2 ≤ 1000000) (hl : p.2.2.2.2.length ≤ 1000000) (hN : N ≤ W.heap.size) (wz : World) (hz : Below N W wz) :
    Calls Tryd.prog 15 #[.agg #[.int .i64 p.1, .int .i64 p.2.1, .int .i64 p.2.2.1, .int .i64 p.2.2.2.1, .slice A p.2.2.2.2.length cap]] wz fun e w' => e = .returned (.int .i64 (linesOf p)) ∧ Below N wz w' :=
  (rLines_any A cap p wz ((hr.below hz).mono (by have := hz.size; omega)) hc hl).mono fun e w' ⟨h1, h2⟩ => ⟨h1, h2.mono (by have := hz.size; omega)⟩

set_option maxRecDepth 100000 in
set_option maxHeartbeats 8000000 in
theorem emitTells_any (A : Option Addr) (cap : Nat) (p : Pl) (w : World) (ht : Tab w) (h : RdD w w.heap.size A p.2.2.2.2) (hl : p.2.2.2.2.length ≤ 6000000000000) (hm : ∀ d ∈ p.2.2.2.2, d.2.2.2.2.length ≤ 6000000000000) :
    Calls Tryd.prog 4 #[.agg #[.int .i64 p.1, .int .i64 p.2.1, .int .i64 p.2.2.1, .int .i64 p.2.2.2.1, .slice A p.2.2.2.2.length cap]] w fun e w' => e = .returned (.bool true) ∧ Below w.heap.size w w' := by
  obtain ⟨p1, p2, p3, p4, L⟩ := p
  dsimp only at h hl hm
  have HM := hide hm
  have hp := ht.pos
  have HT := hide ht
  clear ht hm
  have hT := Blk.new w 32 #[.int .i64 p1, .int .i64 p2, .int .i64 p3, .int .i64 p4, .slice A L.length cap]
  have hW : Below w.heap.size w (w.alloc (.cells #[.int .i64 p1, .int .i64 p2, .int .i64 p3, .int .i64 p4, .slice A L.length cap] 32)) := (by repeat (first | exact Below.refl _ _ | refine Below.alloc ?_ (by first | (simp; omega) | simp | omega) _ | refine drewN_below ?_ _ | refine Below.drew ?_))
  go_enter Tryd.func4, Tryd.ntmps4
  go_wp2_with (fail)
  generalize w.alloc (.cells #[.int .i64 p1, .int .i64 p2, .int .i64 p3, .int .i64 p4, .slice A L.length cap] 32) = w1 at *
  have hTl := hT.lt
  have hs1 := hW.size
  refine (few18_any A cap (p1, p2, p3, p4, L) w.heap.size w1 hs1 (h.below hW) hl HM.out).mono ?_
  rintro e w2 ⟨rfl, hb2⟩
  have hT2 := hT.below hb2 hTl
  have hTl2 := hT2.lt
  have hW2 := hW.trans (hb2.mono hs1)
  have hs2 := hW2.size
  by_cases hf : fewP (p1, p2, p3, p4, L) = true
  · have hfv : fewV (p1, p2, p3, p4, L) = 1 := by simp [fewV, hf]
    obtain ⟨hf1, hf2⟩ := fewP_true hf
    dsimp only at hf1 hf2
    clear hf
    have c0 := hT2.cell 0
    have c1 := hT2.cell 1
    have c2 := hT2.cell 2
    have c3 := hT2.cell 3
    have c4 := hT2.cell 4
    simp at c0 c1 c2 c3 c4
    go_wp2_with (fail)
    clear c0 c1 c2 c3 c4
    refine (emit_any A cap (p1, p2, p3, p4, L) w2 (HT.out.below hW2 hp) ((h.below hW2).mono hs2) (by dsimp only; omega) (by dsimp only; omega)).mono ?_
    rintro e w3 ⟨rfl, hb3⟩
    obtain ⟨s, f, hsf⟩ : ∃ s f, emitOf (p1, p2, p3, p4, L) = (s, f) := ⟨_, _, rfl⟩
    have hT3 := hT2.below hb3 hTl2
    have hTl3 := hT3.lt
    have hW3 := hW2.trans (hb3.mono hs2)
    have hs3 := hW3.size
    have hrr := rEmit_any A cap (p1, p2, p3, p4, L) w3 ((h.below hW3).mono hs3) (by dsimp only; omega) (by dsimp only; omega)
    rw [hsf] at hrr ⊢
    dsimp only at hrr ⊢
    have HRR := hide hrr
    clear hrr hsf
    have c0 := hT3.cell 0
    have c1 := hT3.cell 1
    have c2 := hT3.cell 2
    have c3 := hT3.cell 3
    have c4 := hT3.cell 4
    simp at c0 c1 c2 c3 c4
    go_wp2_with (fail)
    clear c0 c1 c2 c3 c4
    refine HRR.out.mono ?_
    rintro e w4 ⟨rfl, hb4⟩
    have hT4 := hT3.below hb4 hTl3
    have hTl4 := hT4.lt
    have hW4 := hW3.trans (hb4.mono hs3)
    have hs4 := hW4.size
    have c0 := hT4.cell 0
    have c1 := hT4.cell 1
    have c2 := hT4.cell 2
    have c3 := hT4.cell 3
    have c4 := hT4.cell 4
    simp at c0 c1 c2 c3 c4
    have HR := hide ((h.below hW4).mono hs4)
    have HTR := hide (HT.out.below hW4 hp)
    have hpr : 1 < w4.heap.size := by omega
    clear HRR hb2 hb3 hb4 hT2 hT3 hTl2 hTl3 hfv
    go_wp2_with (fail)
    go_region_held3 (fun w' => Below (w4.heap.size) (w4) w' ∧ (∀ b o, b < w4.heap.size → w'.cell? ⟨b, o, none⟩ = (w4).cell? ⟨b, o, none⟩) ∧ (∀ b o, b < w4.heap.size → w'.frozen? ⟨b, o, none⟩ = (w4).frozen? ⟨b, o, none⟩))
      (first | exact held_refl _ _ | exact held_drew | exact held_trans (by assumption) hb3 (Nat.le_refl _))
      (first | (go_at_call 14; refine (lines_in w4.heap.size w4 A cap (p1, p2, p3, p4, L) HR.out (by dsimp only; omega) (by dsimp only; omega) (Nat.le_refl _) _ (by first | exact Below.refl _ _ | exact (Below.refl _ _).drew | exact And.left (by assumption))).mono ?_; rintro e w5 ⟨rfl, hb3⟩) | (go_at_call 15; refine (rLines_in w4.heap.size w4 A cap (p1, p2, p3, p4, L) HR.out (by dsimp only; omega) (by dsimp only; omega) (Nat.le_refl _) _ (by first | exact Below.refl _ _ | exact (Below.refl _ _).drew | exact And.left (by assumption))).mono ?_; rintro e w5 ⟨rfl, hb3⟩) | (go_at_call 8; refine (lives31_in w4.heap.size w4 HTR.out hpr (Nat.le_refl _) _ (by first | exact Below.refl _ _ | exact (Below.refl _ _).drew | exact And.left (by assumption))).mono ?_; rintro e w5 ⟨rfl, hb3⟩))
    obtain ⟨hW5, -, -⟩ : Below w4.heap.size w4 w5 ∧ _ ∧ _ := by assumption
    have hw5 := hW4.trans (hW5.mono hs4)
    go_wp2
    go_ret
    exact ⟨rfl, hw5⟩
  · have hfv : fewV (p1, p2, p3, p4, L) = 0 := by simp [fewV, hf]
    clear hf
    go_wp2_with (fail)
    refine (lives31_any _ (HT.out.below hW2 hp)).mono ?_
    rintro e w3 ⟨rfl, hb3⟩
    have hw3 := hW2.trans (hb3.mono hs2)
    go_wp2
    go_ret
    exact ⟨rfl, hw3⟩
end Go.Proofs.YtaglmkjkmhpifaaDoor
