/- Chapter 31: the law EmitDevice. -/
import Derived.Test.YtaglmkjkmhpifaaDoorEmE
import Derived.Test.YtaglmkjkmhpifaaDoorEmF
namespace Go.Proofs.YtaglmkjkmhpifaaDoor
open Go.RowKit
set_option linter.unusedVariables false
set_option linter.unusedSimpArgs false

theorem device_in (N : Nat) (W : World) (A : Option Addr) (cap : Nat) (d : Dv) (ht : Tab W) (hp : 1 < N) (hr : Rd W N 3 mc A d.2.2.2.2) (hok : okD d) (hN : N ≤ W.heap.size) (wz : World) (hz : Below N W wz) :
    Calls Tryd.prog 9 #[.agg #[.int .i64 d.1, .int .i64 d.2.1, .int .i64 d.2.2.1, .int .i64 d.2.2.2.1, .slice A d.2.2.2.2.length cap]] wz fun e w' => e = .returned (.string ⟨(devL d).toArray⟩) ∧ Below N wz w' :=
  (Device_any A cap d wz (ht.below hz hp) ((hr.below hz).mono (by have := hz.size; omega)) hok).mono fun e w' ⟨h1, h2⟩ => ⟨h1, h2.mono (by have := hz.size; omega)⟩
theorem rDevice_in (N : Nat) (W : World) (A : Option Addr) (cap : Nat) (d : Dv) (hr : Rd W N 3 mc A d.2.2.2.2) (hok : okD d) (hN : N ≤ W.heap.size) (wz : World) (hz : Below N W wz) :
    Calls Tryd.prog 10 #[.agg #[.int .i64 d.1, .int .i64 d.2.1, .int .i64 d.2.2.1, .int .i64 d.2.2.2.1, .slice A d.2.2.2.2.length cap]] wz fun e w' => e = .returned (.string ⟨(devL d).toArray⟩) ∧ Below N wz w' :=
  (rDevice_any A cap d wz ((hr.below hz).mono (by have := hz.size; omega)) hok).mono fun e w' ⟨h1, h2⟩ => ⟨h1, h2.mono (by have := hz.size; omega)⟩
theorem lives31_in (N : Nat) (W : World) (ht : Tab W) (hp : 1 < N) (hN : N ≤ W.heap.size) (wz : World) (hz : Below N W wz) :
    Calls Tryd.prog 8 #[] wz fun e w' => e = .returned (.bool true) ∧ Below N wz w' :=
  (lives31_any wz (ht.below hz hp)).mono fun e w' ⟨h1, h2⟩ => ⟨h1, h2.mono (by have := hz.size; omega)⟩

def okK (m : Mp) : Prop := 0 ≤ m.1 ∧ m.1 ≤ 281474976710655 ∧ 0 ≤ m.2.1 ∧ m.2.1 ≤ 281474976710655 ∧ 0 ≤ m.2.2 ∧ m.2.2 ≤ 281474976710655

set_option maxRecDepth 100000 in
set_option maxHeartbeats 8000000 in
theorem lawEmitDevice_any (A : Option Addr) (cap : Nat) (d : Dv) (w : World) (ht : Tab w) (hr : Rd w w.heap.size 3 mc A d.2.2.2.2) (h1 : I64 d.1) (h2 : I64 d.2.1) (h3 : I64 d.2.2.1) (h4 : I64 d.2.2.2.1) (hl : d.2.2.2.2.length ≤ maxLen) :
    Calls Tryd.prog 3 #[.agg #[.int .i64 d.1, .int .i64 d.2.1, .int .i64 d.2.2.1, .int .i64 d.2.2.2.1, .slice A d.2.2.2.2.length cap]] w fun e w' => e = .returned (.bool true) ∧ Below w.heap.size w w' := by
  obtain ⟨d1, d2, d3, d4, l⟩ := d
  dsimp only at hr hl h1 h2 h3 h4
  unfold maxLen at hl
  have hp := ht.pos
  have HT := hide ht
  have HI := hide (And.intro h1 (And.intro h2 (And.intro h3 h4)))
  clear ht h1 h2 h3 h4
  have hT := Blk.new w 24 #[.int .i64 d1, .int .i64 d2, .int .i64 d3, .int .i64 d4, .slice A l.length cap]
  have hW : Below w.heap.size w (w.alloc (.cells #[.int .i64 d1, .int .i64 d2, .int .i64 d3, .int .i64 d4, .slice A l.length cap] 24)) := (by repeat (first | exact Below.refl _ _ | refine Below.alloc ?_ (by first | (simp; omega) | simp | omega) _ | refine drewN_below ?_ _ | refine Below.drew ?_))
  by_cases hlen : 2000 < l.length
  · have t0 : decide ((2000 : Int) < (l.length : Int)) = true := by simp; omega
    go_enter Tryd.func3, Tryd.ntmps3
    go_wp2_with (fail)
    refine (lives31_any _ (HT.out.below hW hp)).mono ?_
    rintro e w2 ⟨rfl, hb2⟩
    have hw2 := hW.trans (hb2.mono (by simp))
    go_wp2
    go_ret
    exact ⟨rfl, hw2⟩
  · have t0 : decide ((2000 : Int) < (l.length : Int)) = false := by simp; omega
    go_enter Tryd.func3, Tryd.ntmps3
    go_wp2_with (fail)
    generalize w.alloc (.cells #[.int .i64 d1, .int .i64 d2, .int .i64 d3, .int .i64 d4, .slice A l.length cap] 24) = w1 at *
    have hTl := hT.lt
    have hs1 := hW.size
    clear t0
    go_loopw [3] (fun i wr => ∃ k : Nat, k ≤ l.length ∧ i = .int .i64 k ∧ (∀ m ∈ l.take k, okK m) ∧ Below w1.heap.size w1 wr) (fun i _ => l.length - (intOf i).toNat)
    case atStart => exact ⟨0, Nat.zero_le _, rfl, by simp, Below.refl _ _⟩
    case round =>
      obtain ⟨k, hk, rfl, hal, hb⟩ := hrel
      have HAL := hide hal
      have hTr := hT.below hb hTl
      have hwr := hW.trans (hb.mono hs1)
      have hsr := hwr.size
      have hTlr := hTr.lt
      have c4 := hTr.cell 4
      simp at c4
      clear hal
      by_cases hlt : k < l.length
      · obtain ⟨m, hm⟩ := get_of_lt hlt
        obtain ⟨b, off, rfl, hbB, g0, g1, g2⟩ := (hr.below hwr).mp hm
        have HM := hide hm
        have i0 : (0 : Int) ≤ (k : Int) := by omega
        have i1 : (k : Int) < (l.length : Int) := by omega
        clear hm
        obtain ⟨m1, m2, m3⟩ := m
        dsimp only at g0 g1 g2
        have hlv : ∀ o : Obj, Calls Tryd.prog 8 #[] (wr.alloc o) fun e w' => e = .returned (.bool true) ∧ Below wr.heap.size (wr.alloc o) w' := fun o =>
          (lives31_any _ (HT.out.below (hwr.alloc hsr o) hp)).mono fun e w' ⟨h1, h2⟩ => ⟨h1, h2.mono (by simp)⟩
        have HLV := hide hlv
        clear hlv
        by_cases hok : okK (m1, m2, m3)
        · obtain ⟨q1, q2, q3, q4, q5, q6⟩ := hok
          dsimp only at q1 q2 q3 q4 q5 q6
          go_wp2
          go_roundw
          case rel =>
            refine ⟨k + 1, by omega, by go_num, ?_, (by have hsz := (hb).size; repeat (first | with_reducible exact hb | with_reducible refine Below.alloc ?_ (by first | (simp; omega) | simp | omega) _ | with_reducible refine drewN_below ?_ _ | with_reducible refine Below.drew ?_))⟩
            intro x hx
            rw [take_step HM.out] at hx
            rcases List.mem_append.1 hx with hx | hx
            · exact HAL.out x hx
            · simp at hx; subst hx; exact ⟨q1, q2, q3, q4, q5, q6⟩
          case measure => simp [intOf]; omega
        · have hcases : m1 < 0 ∨ (0 ≤ m1 ∧ 281474976710655 < m1) ∨ (0 ≤ m1 ∧ m1 ≤ 281474976710655 ∧ m2 < 0) ∨ (0 ≤ m1 ∧ m1 ≤ 281474976710655 ∧ 0 ≤ m2 ∧ 281474976710655 < m2) ∨ (0 ≤ m1 ∧ m1 ≤ 281474976710655 ∧ 0 ≤ m2 ∧ m2 ≤ 281474976710655 ∧ m3 < 0) ∨ (0 ≤ m1 ∧ m1 ≤ 281474976710655 ∧ 0 ≤ m2 ∧ m2 ≤ 281474976710655 ∧ 0 ≤ m3 ∧ 281474976710655 < m3) := by
            unfold okK at hok; dsimp only at hok; omega
          clear hok
          rcases hcases with q1 | ⟨q1, q2⟩ | ⟨q1, q2, q3⟩ | ⟨q1, q2, q3, q4⟩ | ⟨q1, q2, q3, q4, q5⟩ | ⟨q1, q2, q3, q4, q5, q6⟩
          all_goals
            go_wp2_with (fail)
            refine (HLV.out _).mono ?_
            rintro e w2 ⟨rfl, hb2⟩
            have hw2 := (hwr.alloc hsr _).trans (hb2.mono hsr)
            go_wp2
            go_ret
            exact ⟨rfl, hw2⟩
      · have hkk : k = l.length := by omega
        have hall := HAL.out
        rw [hkk, List.take_length] at hall
        have hokd : okD (d1, d2, d3, d4, l) := ⟨HI.out.1, HI.out.2.1, HI.out.2.2.1, HI.out.2.2.2, fun m hm => by
          obtain ⟨q1, q2, q3, q4, q5, q6⟩ := hall m hm
          exact ⟨q1, by omega, q3, by omega, by unfold I64; omega⟩, by dsimp only; omega⟩
        have HOK := hide hokd
        have hrr := (hr.below hwr).mono hsr
        have HR := hide hrr
        have HTR := hide (HT.out.below hwr hp)
        have hpr : 1 < wr.heap.size := by omega
        have c0 := hTr.cell 0
        have c1 := hTr.cell 1
        have c2 := hTr.cell 2
        have c3 := hTr.cell 3
        simp at c0 c1 c2 c3
        clear hall hokd hrr hkk
        go_wp2_with (fail)
        go_region_held3 (fun w' => Below (wr.heap.size) (wr) w' ∧ (∀ b o, b < wr.heap.size → w'.cell? ⟨b, o, none⟩ = (wr).cell? ⟨b, o, none⟩) ∧ (∀ b o, b < wr.heap.size → w'.frozen? ⟨b, o, none⟩ = (wr).frozen? ⟨b, o, none⟩))
          (first | exact held_refl _ _ | exact held_drew | exact held_trans (by assumption) hb3 (Nat.le_refl _))
          (first | (go_at_call 9; refine (device_in wr.heap.size wr A cap (d1, d2, d3, d4, l) HTR.out hpr HR.out HOK.out (Nat.le_refl _) _ (by first | exact Below.refl _ _ | exact (Below.refl _ _).drew | exact And.left (by assumption))).mono ?_; rintro e w3 ⟨rfl, hb3⟩) | (go_at_call 10; refine (rDevice_in wr.heap.size wr A cap (d1, d2, d3, d4, l) HR.out HOK.out (Nat.le_refl _) _ (by first | exact Below.refl _ _ | exact (Below.refl _ _).drew | exact And.left (by assumption))).mono ?_; rintro e w3 ⟨rfl, hb3⟩) | (go_at_call 8; refine (lives31_in wr.heap.size wr HTR.out hpr (Nat.le_refl _) _ (by first | exact Below.refl _ _ | exact (Below.refl _ _).drew | exact And.left (by assumption))).mono ?_; rintro e w3 ⟨rfl, hb3⟩))
        obtain ⟨hW3, -, -⟩ : Below wr.heap.size wr w3 ∧ _ ∧ _ := by assumption
        have hw4 := hwr.trans (hW3.mono hsr)
        go_wp2
        go_ret
        exact ⟨rfl, hw4⟩
end Go.Proofs.YtaglmkjkmhpifaaDoor
