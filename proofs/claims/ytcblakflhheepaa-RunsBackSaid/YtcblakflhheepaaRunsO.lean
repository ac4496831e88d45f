/- Chapter 19: the walk of the law RunsBack. -/
import Derived.Test.YtcblakflhheepaaRunsN
import Derived.Test.YtcblakflhheepaaRunsG
namespace Go.Proofs.Ytcblakflhheepaa
open Go.RowKit

/-- May a mapping be behind the one ahead (its virtual block; -1: there is none)? -/
def okB (m : Mp) (prev : Int) : Bool := decide (m.2.1 < 65536) && decide (0 ≤ m.2.2) && decide (m.2.2 ≤ 16777215) && decide (prev < m.1)
def prevOf (l : List Mp) (k : Nat) : Int := match k with | 0 => -1 | k + 1 => (l.getD k (0, 0, 0)).1

theorem prevOf_succ {l : List Mp} {k : Nat} {y : Mp} (h : l[k]? = some y) : prevOf l (k + 1) = y.1 := by simp [prevOf, h]

theorem rise_of {l : List Mp} (hs : smallB l = true) (h : ∀ k m, l[k]? = some m → okB m (prevOf l k) = true) : Rise l := by
  simp only [smallB, Bool.and_eq_true, decide_eq_true_eq, List.all_eq_true] at hs
  refine ⟨fun m hm => ?_, fun i a b ha hb => ?_⟩
  · have h1 := hs.2 m hm
    obtain ⟨k, hk⟩ := List.getElem?_of_mem hm
    have h2 := h k m hk
    simp only [okM, okB, Bool.and_eq_true, decide_eq_true_eq] at h1 h2
    omega
  · have h2 := h (i + 1) b hb
    rw [prevOf_succ ha] at h2
    simp only [okB, Bool.and_eq_true, decide_eq_true_eq] at h2
    omega

set_option maxRecDepth 100000 in
set_option maxHeartbeats 4000000 in
theorem lawRunsBack_any (A : Option Addr) (cap : Nat) (l : List Mp) (w : World) (h : Rd w w.heap.size 3 mc A l) (hl : l.length ≤ maxLen) :
    Calls Try.prog 5 #[.slice A l.length cap] w fun e w' => e = .returned (.bool true) ∧ Below w.heap.size w w' := by
  cases hs : smallB l
  · have HS := hide hs
    clear hs
    go_enter Try.func5, Try.ntmps5
    go_wp2_with (first
      | (go_at_call 10; go_must (refine (small_any A cap l _ h hl).mono ?_; rintro e w1 ⟨he, hb1⟩; rw [HS.out] at he; subst he))
      | (go_at_call 11; go_must (refine (lives_any _).mono ?_; rintro e w2 ⟨rfl, hb2⟩)))
    go_ret
    exact ⟨rfl, hb1.trans (hb2.mono hb1.size)⟩
  · obtain ⟨hm, hlen⟩ := small_mild hs
    have hall : ∀ m ∈ l, 0 ≤ m.1 ∧ m.1 ≤ 281474976710655 := by
      simp only [smallB, Bool.and_eq_true, decide_eq_true_eq, List.all_eq_true] at hs
      intro m hm
      have := hs.2 m hm
      simp only [okM, Bool.and_eq_true, decide_eq_true_eq] at this
      omega
    have HS := hide hs
    clear hs
    go_enter Try.func5, Try.ntmps5
    go_wp2_with (first
      | (go_at_call 10; go_must (refine (small_any A cap l _ h hl).mono ?_; rintro e w1 ⟨he, hb1⟩; rw [HS.out] at he; subst he)))
    obtain ⟨w0, hw0⟩ : ∃ w0 : World, w0 = w1 := ⟨_, rfl⟩
    subst hw0
    go_loopw [3] (fun i wr => ∃ (k : Nat), k ≤ l.length ∧ i = .int .i64 k ∧ Below w.heap.size w wr ∧ (∀ j m, j < k → l[j]? = some m → okB m (prevOf l j) = true)) (fun i _ => l.length - (intOf i).toNat)
    case atStart => exact ⟨0, Nat.zero_le _, rfl, hb1, by intro j m hj; omega⟩
    case round =>
      obtain ⟨k, hk, rfl, hb, hok⟩ := hrel
      have HOK := hide hok
      clear hok
      by_cases hlt : k < l.length
      · obtain ⟨m, hx⟩ := get_of_lt hlt
        obtain ⟨hm1, hm2⟩ := hall m (List.mem_of_getElem? hx)
        obtain ⟨b, off, rfl, hbB, c0, c1, c2⟩ := (h.below hb).mp hx
        have HX := hide hx
        clear hx
        obtain ⟨m1, m2, m3⟩ := m
        dsimp only at c0 c1 c2 hm1 hm2
        go_upto_region 6 with (fail)
        go_cut [59] (fun c wx => c = .bool (!okB (m1, m2, m3) (prevOf l k)) ∧ Below w.heap.size w wx)
        case first =>
          have fin : ∀ c : Bool, (c = true ↔ ¬ (m2 < 65536 ∧ 0 ≤ m3 ∧ m3 ≤ 16777215 ∧ prevOf l k < m1)) → Value.bool c = Value.bool (!okB (m1, m2, m3) (prevOf l k)) := by
            intro c hc
            congr 1
            rw [Bool.eq_iff_iff, hc]
            simp only [okB, Bool.not_eq_true', Bool.and_eq_false_iff, decide_eq_false_iff_not]
            omega
          by_cases h1 : 65536 ≤ m2
          · go_quiet (fail)
            go_wp2_with fail
            go_meet
            exact ⟨fin _ (by simp; omega), drewN_below hb _⟩
          · by_cases h2 : m3 < 0
            · have t1 : decide (65536 ≤ m2) = false := by simp; omega
              go_quiet (fail)
              go_wp2_with fail
              go_meet
              exact ⟨fin _ (by simp; omega), drewN_below hb _⟩
            · by_cases h3 : 16777215 < m3
              · have t1 : decide (65536 ≤ m2) = false := by simp; omega
                have t2 : decide (m3 < 0) = false := by simp; omega
                go_quiet (fail)
                go_wp2_with fail
                go_meet
                exact ⟨fin _ (by simp; omega), drewN_below hb _⟩
              · have t1 : decide (65536 ≤ m2) = false := by simp; omega
                have t2 : decide (m3 < 0) = false := by simp; omega
                have t3 : decide (16777215 < m3) = false := by simp; omega
                cases k with
                | zero =>
                  have FIN := hide fin
                  clear fin
                  go_quiet (fail)
                  go_wp2_with fail
                  go_meet
                  exact ⟨FIN.out _ (by rw [show prevOf l 0 = -1 from rfl]; simp; omega), drewN_below hb _⟩
                | succ k' =>
                  obtain ⟨y, hy⟩ := get_of_lt (l := l) (k := k') (by omega)
                  obtain ⟨b', off', hA', hbB', d0, d1, d2⟩ := (h.below hb).mp hy
                  injection hA' with hA'
                  injection hA' with e1 e2
                  subst e1; subst e2
                  have FIN := hide fin
                  clear fin
                  have HY := hide hy
                  clear hy
                  obtain ⟨y1, y2, y3⟩ := y
                  dsimp only at d0 d1 d2
                  have t4 : decide ((0 : Int) < ((k' + 1 : Nat) : Int)) = true := by simp
                  go_quiet (fail)
                  go_wp2_with fail
                  go_meet
                  exact ⟨FIN.out _ (by rw [prevOf_succ HY.out]; simp; omega), drewN_below hb _⟩
        case rest =>
          obtain ⟨hc, hb2⟩ := hcut
          cases ho : okB (m1, m2, m3) (prevOf l k)
          · rw [ho] at hc
            subst hc
            clear ho
            go_wp2_with (go_at_call 11; go_must (refine (lives_any _).mono ?_; rintro e w2 ⟨rfl, hb3⟩))
            go_ret
            exact ⟨rfl, hb2.trans (hb3.mono hb2.size)⟩
          · rw [ho] at hc
            subst hc
            have HO := hide ho
            clear ho
            go_wp2
            go_roundw
            case rel =>
              refine ⟨k + 1, by omega, by go_num, hb2, fun j a hj ha => ?_⟩
              by_cases e : j = k
              · subst e
                have := HX.out
                rw [ha] at this
                obtain rfl := Option.some.inj this
                exact HO.out
              · exact HOK.out j a (by omega) ha
            case measure => simp [intOf]; omega
      · obtain rfl : k = l.length := by omega
        have hrise : Rise l := rise_of HS.out (fun j a ha => HOK.out j a (lt_of_get ha) ha)
        obtain ⟨hg, -⟩ := good_runsOf l hrise (by omega)
        have HG := hide hg
        have HRL := hide (mapsOf_runsOf l).1
        have hml := runsOf_mild l hm (by omega)
        have hln := runsOf_len l
        have HNF := hide (noFol_runsOf l)
        clear hg hrise
        go_wp2_with (fail)
        refine (of_any A cap l _ ((h.below hb).mono hb.size) hm (by omega)).mono ?_
        rintro e w2 ⟨v, rfl, hO, hb2⟩
        obtain ⟨A2, n2, cap2, rfl, hn2, hr2⟩ := hO.rd rc_len
        subst hn2
        have hB2 : Below w.heap.size w w2 := hb.trans (hb2.mono hb.size)
        clear hO hb2
        go_wp2_with (fail)
        refine (maps_x A2 cap2 (runsOf l) _ hr2 (by omega)).mono ?_
        rintro e w3 ⟨v, rfl, hO, hb3⟩
        rw [mapsX_yes HG.out, HRL.out] at hO
        rw [HG.out]
        obtain ⟨A3, n3, cap3, rfl, hn3, hr3⟩ := hO.rd mc_len
        subst hn3
        have hB3 : Below w.heap.size w w3 := hB2.trans (hb3.mono hB2.size)
        have hr2' := (hr2.below hb3).mono hb3.size
        clear hO hb3 hr2
        go_wp2_with fail
        obtain ⟨W3, hW3⟩ : ∃ W3 : World, W3 = w3 := ⟨_, rfl⟩
        subst hW3
        go_loopw [7] (fun i wr => ∃ (k : Nat), i = .int .i64 ((k : Int) + 1) ∧ Below W3.heap.size W3 wr) (fun i _ => (runsOf l).length - (intOf i).toNat)
        case atStart => exact ⟨0, by simp, Below.refl _ _⟩
        case round =>
          obtain ⟨k, rfl, hb4⟩ := hrel
          by_cases hlt : k + 1 < (runsOf l).length
          · obtain ⟨x, hx⟩ := get_of_lt (l := runsOf l) (k := k) (by omega)
            obtain ⟨y, hy⟩ := get_of_lt hlt
            obtain ⟨b, off, rfl, hbB, c0, c1, c2, c3⟩ := hr2'.rn hx
            obtain ⟨_, _, hA', hbB', d0, d1, d2, d3⟩ := hr2'.rn hy
            injection hA' with hA'
            injection hA' with e1 e2
            subst e1; subst e2
            obtain ⟨g1, g2, g3, g4, g5, g6⟩ := hml.mild (List.mem_of_getElem? hx)
            have hnf := HNF.out k x y hx hy
            obtain ⟨x1, x2, x3, x4⟩ := x
            obtain ⟨y1, y2, y3, y4⟩ := y
            dsimp only at c0 c1 c2 c3 d0 d1 d2 d3 g1 g2 g3 g4 g5 g6
            have HN1 := hide hnf
            have hsz4 := hb4.size
            clear hx hy hnf
            have i0 : (0 : Int) ≤ (k : Int) := by omega
            have i1 : (k : Int) < ((runsOf l).length : Int) := by omega
            have i2 : (0 : Int) ≤ (k : Int) + 1 := by omega
            have i3 : (k : Int) + 1 < ((runsOf l).length : Int) := by omega
            have s0 : IntKind.i64.wrap ((k : Int) + 1 - 1) = (k : Int) := by rw [IntWalk.i64_in _ (by omega)]; omega
            have s1 : IntKind.i64.wrap (k : Int) = (k : Int) := IntWalk.i64_in _ (by omega)
            go_upto_region 13 with (fail)
            go_cut [8, 9] (fun p q wx => ∃ g h, p = .pointer (some ⟨g, 0, none⟩) ∧ q = .pointer (some ⟨h, 0, none⟩) ∧ Below W3.heap.size W3 wx ∧
              wx.cell? ⟨g, 0, none⟩ = some (.int .i64 x1) ∧ wx.cell? ⟨g, 1, none⟩ = some (.int .i64 x2) ∧ wx.cell? ⟨g, 2, none⟩ = some (.int .i64 x3) ∧ wx.cell? ⟨g, 3, none⟩ = some (.int .i64 x4) ∧
              wx.cell? ⟨h, 0, none⟩ = some (.int .i64 y1) ∧ wx.cell? ⟨h, 1, none⟩ = some (.int .i64 y2) ∧ wx.cell? ⟨h, 3, none⟩ = some (.int .i64 y4))
            case first =>
              go_region_held3 (fun w' => Below (W3.heap.size) (W3) w' ∧ (∀ b o, b < W3.heap.size → w'.cell? ⟨b, o, none⟩ = (W3).cell? ⟨b, o, none⟩) ∧ (∀ b o, b < W3.heap.size → w'.frozen? ⟨b, o, none⟩ = (W3).frozen? ⟨b, o, none⟩)) (first | (refine held_of ?_; (repeat (first | exact hb4 | refine drewN_below ?_ _ | refine Below.drew ?_ | refine Below.alloc ?_ ?_ _ | refine Below.setCell ?_ ?_ _ | omega | (simp; omega) | (simp; done))); done)) (fail)
              all_goals
                go_wp2_with fail
                go_meet
                exact ⟨_, _, rfl, rfl, (by have hsz := (hb4).size; repeat (first | exact hb4 | refine Below.alloc ?_ (by first | (simp; omega) | simp | omega) _ | refine drewN_below ?_ _ | refine Below.drew ?_)), by simp [go_sem], by simp [go_sem], by simp [go_sem], by simp [go_sem], by simp [go_sem], by simp [go_sem], by simp [go_sem]⟩
            case rest =>
              obtain ⟨g, h, rfl, rfl, hb5, a0, a1, a2, a3, b0, b1, b3⟩ := hcut
              go_wp2
              · exfalso
                have h1 := HN1.out
                have e1 : x1 + x3 = y1 := by assumption
                have e2 : x2 + x3 = y2 := by assumption
                have e3 : (x4 == y4) = true := by assumption
                simp [fol, e1, e2] at h1
                simp at e3
                exact h1 e3
              all_goals
                go_roundw
                case rel => exact ⟨k + 1, by go_num, hb5⟩
                case measure => simp [intOf]; omega
          · have hge : ¬ ((k : Int) + 1 < ((runsOf l).length : Int)) := by omega
            go_wp2_with (fail)
            refine (samemaps_any A3 A cap3 cap l l _ W3.heap.size hb4.size (hr3.below hb4) (((h.below hB3).mono hB3.size).below hb4) (by omega) (by omega)).mono ?_
            rintro e w5 ⟨he, hb5⟩
            rw [decide_eq_true rfl] at he
            subst he
            have hB5 : Below W3.heap.size W3 w5 := hb4.trans (hb5.mono hb4.size)
            clear hb5
            go_wp2_with (fail)
            refine (merge_x A2 cap2 (runsOf l) _ ((hr2'.below hB5).mono hB5.size) (by omega)).mono ?_
            rintro e w6 ⟨v, rfl, hO, hb6⟩
            rw [mergeX_yes HG.out, foldR_self HNF.out] at hO
            obtain ⟨A6, n6, cap6, rfl, hn6, hr6⟩ := hO.rd rc_len
            subst hn6
            have hB6 : Below W3.heap.size W3 w6 := hB5.trans (hb6.mono hB5.size)
            clear hO hb6
            go_wp2_with (fail)
            refine (same_any A6 A2 cap6 cap2 _ _ _ _ (Nat.le_refl _) hr6 ((hr2'.below hB6).mono hB6.size) (by omega) (by omega)).mono ?_
            rintro e w7 ⟨he, hb7⟩
            rw [decide_eq_true rfl] at he
            subst he
            have hB7 : Below W3.heap.size W3 w7 := hB6.trans (hb7.mono hB6.size)
            clear hb7
            go_wp2_with (fail)
            refine (lives_any _).mono ?_
            rintro e w9 ⟨rfl, hb9⟩
            go_wp2
            go_ret
            exact ⟨rfl, hB3.trans ((hB7.trans (hb9.mono hB7.size)).mono hB3.size)⟩
end Go.Proofs.Ytcblakflhheepaa
