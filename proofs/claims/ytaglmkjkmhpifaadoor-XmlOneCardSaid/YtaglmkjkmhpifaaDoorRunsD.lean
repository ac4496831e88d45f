/- Chapter 19: the reference's Of returns the same runs; Same compares two lists of runs. -/
import Derived.Test.YtaglmkjkmhpifaaDoorRunsC
namespace Go.Proofs.YtaglmkjkmhpifaaDoor
open Go.RowKit

/-- Mapping number j of those that follow m. -/
def nextM (m : Mp) (j : Nat) : Mp := (m.1 + j, m.2.1 + j, m.2.2)
theorem runsOf_block (l : List Mp) (i : Nat) (m : Mp) (hno : ∀ a, (runsOf (l.take i)).getLast? = some a → fol a (oneR m) = false) :
    ∀ n : Nat, (∀ j, j ≤ n → l[i + j]? = some (nextM m j)) → runsOf (l.take (i + (n + 1))) = runsOf (l.take i) ++ [(m.1, m.2.1, ((n : Nat) : Int) + 1, m.2.2)]
  | 0, hj => by
    have h0 := hj 0 (Nat.le_refl _)
    simp only [Nat.add_zero] at h0
    rw [show i + (0 + 1) = i + 1 by omega, take_step h0, runsOf_snoc]
    rcases List.eq_nil_or_concat (runsOf (l.take i)) with h | ⟨l0, a, h⟩
    · rw [h]; simp [addR, oneR, nextM]
    · rw [List.concat_eq_append] at h
      have hf := hno a (by rw [h]; simp)
      have e : nextM m 0 = m := by simp [nextM]
      rw [h, addR_snoc, e, hf]
      simp [oneR]
  | n + 1, hj => by
    have ih := runsOf_block l i m hno n (fun j h => hj j (by omega))
    have h1 := hj (n + 1) (Nat.le_refl _)
    rw [show i + (n + 1 + 1) = (i + (n + 1)) + 1 by omega, take_step h1, runsOf_snoc, ih, addR_snoc]
    have : fol (m.1, m.2.1, (n : Int) + 1, m.2.2) (oneR (nextM m (n + 1))) = true := by
      simp [fol, oneR, nextM]
    rw [this]
    simp [oneR, nextM]

set_option maxRecDepth 100000 in
set_option maxHeartbeats 2000000 in
theorem refof_any (A : Option Addr) (cap : Nat) (l : List Mp) (w : World) (h : Rd w w.heap.size 3 mc A l) (hm : MildM l) (hl : l.length ≤ 100000) :
    Calls Tryd.prog 29 #[.slice A l.length cap] w fun e w' => ∃ v, e = .returned v ∧ Own w' w.heap.size 65 4 rc v (runsOf l) ∧ Below w.heap.size w w' := by
  go_enter Tryd.func29, Tryd.ntmps29
  go_wp2
  go_loopw [3, 4] (fun out i wr => ∃ (k : Nat), k ≤ l.length ∧ i = .int .i64 k ∧ Own wr w.heap.size 65 4 rc out (runsOf (l.take k)) ∧ Below w.heap.size w wr ∧ (∀ m a, l[k]? = some m → (runsOf (l.take k)).getLast? = some a → fol a (oneR m) = false)) (fun _ i _ => l.length - (intOf i).toNat)
  case atStart => exact ⟨0, Nat.zero_le _, rfl, by rw [List.take_zero]; exact (Own.nil _ _ _ _ _), (Below.refl _ _), fun m a _ ha => by simp [runsOf] at ha⟩
  case round =>
    obtain ⟨k, hk, rfl, hO, hb, hno⟩ := hrel
    have HO := hide hO
    have HN := hide hno
    clear hO hno
    by_cases hlt : k < l.length
    · obtain ⟨m, hx⟩ := get_of_lt hlt
      have HX := hide hx
      clear hx
      obtain ⟨hm1, hm2, hm3, hm4⟩ := hm m (List.mem_of_getElem? HX.out)
      go_wp2
      obtain ⟨wo, hwo⟩ : ∃ wo : World, wo = wr := ⟨_, rfl⟩
      subst hwo
      go_loopw [5] (fun n w2 => ∃ (j : Nat), k + (j + 1) ≤ l.length ∧ n = .int .i64 ((j : Int) + 1) ∧ Own w2 w.heap.size 65 4 rc u3 (runsOf (l.take k)) ∧ Below w.heap.size w w2 ∧ (∀ i, i ≤ j → l[k + i]? = some (nextM m i))) (fun n _ => l.length - (intOf n).toNat)
      case atStart => exact ⟨0, by omega, by simp, HO.out, hb, fun i hi => by
        obtain rfl : i = 0 := by omega
        simpa [nextM] using HX.out⟩
      case round =>
        obtain ⟨j, hj, rfl, hO2, hb2, hall⟩ := hrel
        have HO2 := hide hO2
        have HA := hide hall
        clear hO2 hall HO
        obtain ⟨b, off, rfl, hbB, c0, c1, c2⟩ := (h.below hb2).mp HX.out
        go_wp2_with fail
        go_upto_region 5 with (fail)
        go_cut [64] (fun c wx => c = .bool (decide (l[k + (j + 1)]? = some (nextM m (j + 1)))) ∧ Own wx w.heap.size 65 4 rc u3 (runsOf (l.take k)) ∧ Below w.heap.size w wx)
        case first =>
          by_cases hin : k + (j + 1) < l.length
          · obtain ⟨x, hx⟩ := get_of_lt hin
            obtain ⟨b', off', hA', hbB', d0, d1, d2⟩ := (h.below hb2).mp hx
            injection hA' with hA'
            injection hA' with e1 e2
            subst e1; subst e2
            have HXX := hide hx
            clear hx
            have t0 : decide ((k : Int) + ((j : Int) + 1) < (l.length : Int)) = true := by simp; omega
            have i0 : (0 : Int) ≤ (k : Int) + ((j : Int) + 1) := by omega
            have i1 : (k : Int) + ((j : Int) + 1) < (l.length : Int) := by omega
            have i2 : ((k : Int) + ((j : Int) + 1)).toNat = k + (j + 1) := by omega
            have s0 : IntKind.i64.wrap ((k : Int) + ((j : Int) + 1)) = (k : Int) + ((j : Int) + 1) := IntWalk.i64_in _ (by omega)
            have s1 : IntKind.i64.wrap (m.1 + ((j : Int) + 1)) = m.1 + ((j : Int) + 1) := IntWalk.i64_in _ (by omega)
            have s2 : IntKind.i64.wrap (m.2.1 + ((j : Int) + 1)) = m.2.1 + ((j : Int) + 1) := IntWalk.i64_in _ (by omega)
            by_cases h1 : x.1 = m.1 + ((j : Int) + 1)
            · have t1 : (x.1 == m.1 + ((j : Int) + 1)) = true := by simpa using h1
              have H1 := hide h1
              clear h1
              by_cases h2 : x.2.1 = m.2.1 + ((j : Int) + 1)
              · have t2 : (x.2.1 == m.2.1 + ((j : Int) + 1)) = true := by simpa using h2
                have H2 := hide h2
                clear h2
                by_cases h3 : x.2.2 = m.2.2
                · have t3 : (x.2.2 == m.2.2) = true := by simpa using h3
                  have H3 := hide h3
                  clear h3
                  go_quiet (fail)
                  go_wp2_with fail
                  go_meet
                  exact ⟨by rw [HXX.out, decide_eq_true]; exact congrArg some (by obtain ⟨y1, y2, y3⟩ := x; exact Prod.ext H1.out (Prod.ext H2.out H3.out)), (by repeat (first | exact HO2.out | refine Own.alloc ?_ _ | refine Own.drewN ?_ _ | refine Own.drew ?_)), (by have hsz := (hb2).size; repeat (first | exact hb2 | refine Below.alloc ?_ (by first | (simp; omega) | simp | omega) _ | refine drewN_below ?_ _ | refine Below.drew ?_))⟩
                · have t3 : (x.2.2 == m.2.2) = false := by simpa using h3
                  have H3 := hide h3
                  clear h3
                  go_quiet (fail)
                  go_wp2_with fail
                  go_meet
                  exact ⟨by rw [HXX.out, decide_eq_false]; intro e; have e2 := congrArg (fun q : Mp => q.2.2) (Option.some.inj e); exact H3.out e2, (by repeat (first | exact HO2.out | refine Own.alloc ?_ _ | refine Own.drewN ?_ _ | refine Own.drew ?_)), (by have hsz := (hb2).size; repeat (first | exact hb2 | refine Below.alloc ?_ (by first | (simp; omega) | simp | omega) _ | refine drewN_below ?_ _ | refine Below.drew ?_))⟩
              · have t2 : (x.2.1 == m.2.1 + ((j : Int) + 1)) = false := by simpa using h2
                have H2 := hide h2
                clear h2
                go_quiet (fail)
                go_wp2_with fail
                go_meet
                exact ⟨by rw [HXX.out, decide_eq_false]; intro e; exact H2.out (congrArg (fun q : Mp => q.2.1) (Option.some.inj e)), (by repeat (first | exact HO2.out | refine Own.alloc ?_ _ | refine Own.drewN ?_ _ | refine Own.drew ?_)), (by have hsz := (hb2).size; repeat (first | exact hb2 | refine Below.alloc ?_ (by first | (simp; omega) | simp | omega) _ | refine drewN_below ?_ _ | refine Below.drew ?_))⟩
            · have t1 : (x.1 == m.1 + ((j : Int) + 1)) = false := by simpa using h1
              have H1 := hide h1
              clear h1
              go_quiet (fail)
              go_wp2_with fail
              go_meet
              exact ⟨by rw [HXX.out, decide_eq_false]; intro e; exact H1.out (congrArg (fun q : Mp => q.1) (Option.some.inj e)), (by repeat (first | exact HO2.out | refine Own.alloc ?_ _ | refine Own.drewN ?_ _ | refine Own.drew ?_)), (by have hsz := (hb2).size; repeat (first | exact hb2 | refine Below.alloc ?_ (by first | (simp; omega) | simp | omega) _ | refine drewN_below ?_ _ | refine Below.drew ?_))⟩
          · have t0 : decide ((k : Int) + ((j : Int) + 1) < (l.length : Int)) = false := by simp; omega
            have s0 : IntKind.i64.wrap ((k : Int) + ((j : Int) + 1)) = (k : Int) + ((j : Int) + 1) := IntWalk.i64_in _ (by omega)
            have HN0 := hide hin
            clear hin
            go_quiet (fail)
            go_wp2_with fail
            go_meet
            exact ⟨by rw [decide_eq_false]; intro e; exact HN0.out (lt_of_get e), (by repeat (first | exact HO2.out | refine Own.alloc ?_ _ | refine Own.drewN ?_ _ | refine Own.drew ?_)), (by have hsz := (hb2).size; repeat (first | exact hb2 | refine Below.alloc ?_ (by first | (simp; omega) | simp | omega) _ | refine drewN_below ?_ _ | refine Below.drew ?_))⟩
        case rest =>
          obtain ⟨hc, hO3, hb3⟩ := hcut
          have HO3 := hide hO3
          clear hO3 HO2 c0 c1 c2 hb2
          by_cases hq : l[k + (j + 1)]? = some (nextM m (j + 1))
          · rw [decide_eq_true hq] at hc
            subst hc
            have HQ := hide hq
            clear hq
            go_wp2
            go_roundw
            case rel =>
              refine ⟨j + 1, ?_, by go_num, (by repeat (first | exact HO3.out | refine Own.alloc ?_ _ | refine Own.drewN ?_ _ | refine Own.drew ?_)), hb3, ?_⟩
              · have := lt_of_get HQ.out; omega
              · intro i hi
                by_cases e : i = j + 1
                · rw [e]; exact HQ.out
                · exact HA.out i (by omega)
            case measure => have := lt_of_get HQ.out; simp [intOf]; omega
          · rw [decide_eq_false hq] at hc
            subst hc
            have HQ := hide hq
            clear hq
            obtain ⟨b', off', hA', hbB', c0, c1, c2⟩ := h.mp HX.out
            injection hA' with hA'
            injection hA' with e1 e2
            subst e1; subst e2
            have hsz := hb3.size
            have hlk : (runsOf (l.take k)).length ≤ 100000 := by have := runsOf_len (l.take k); have := List.length_take_le k l; omega
            go_wp2
            go_region_held3 (fun w' => Below (w.heap.size) (w) w' ∧ (∀ b o, b < w.heap.size → w'.cell? ⟨b, o, none⟩ = (w).cell? ⟨b, o, none⟩) ∧ (∀ b o, b < w.heap.size → w'.frozen? ⟨b, o, none⟩ = (w).frozen? ⟨b, o, none⟩))
              (first | (refine held_grown ?_ hg1 ?_ (fun q hq => (HO3.out.lt q hq).1); (repeat (first | exact hb3 | refine drewN_below ?_ _ | refine Below.drew ?_ | refine Below.alloc ?_ ?_ _ | refine Below.setCell ?_ ?_ _ | omega | (simp; omega) | (simp; done))); done) | (refine held_of ?_; (repeat (first | exact hb3 | refine drewN_below ?_ _ | refine Below.drew ?_ | refine Below.alloc ?_ ?_ _ | refine Below.setCell ?_ ?_ _ | omega | (simp; omega) | (simp; done))); done))
              ((refine step_append1 _ (by rfl) (.tmp 67) (.tmp 85) 62 (by rfl) Tryd.underlying62 info41 (by rfl) (by decide) rc_len rc_one (base := w.heap.size) (v := u3) (l := runsOf (l.take k)) (by rfl) (by repeat (first | exact HO3.out | refine Own.alloc ?_ _ | refine Own.drewN ?_ _ | refine Own.drew ?_)) (m.1, m.2.1, (j : Int) + 1, m.2.2) wc.heap.size 1 (by rfl) ⟨_, _, heap_new_at (by simp)⟩ (by omega) (by omega) (by simp; omega) ?_; intro g capn w1 hO1 hg1 hat hlt1))
            go_wp2
            have HB1 := hide (Below.grown (B := w.heap.size) (a := w) (by have hsz := (hb3).size; repeat (first | exact hb3 | refine Below.alloc ?_ (by first | (simp; omega) | simp | omega) _ | refine drewN_below ?_ _ | refine Below.drew ?_)) hg1 (by simp; omega) (fun q hq => (HO3.out.lt q hq).1))
            have e : runsOf (l.take (k + (j + 1))) = runsOf (l.take k) ++ [(m.1, m.2.1, (j : Int) + 1, m.2.2)] := runsOf_block l k m (fun a ha => HN.out m a HX.out ha) j HA.out
            have HE := hide e
            clear e
            go_roundw
            case rel =>
              refine ⟨k + (j + 1), by omega, by go_num, ?_, HB1.out, ?_⟩
              · rw [HE.out]; simpa using hO1
              · intro x a hx ha
                rw [HE.out] at ha
                simp at ha
                subst ha
                cases hf : fol (m.1, m.2.1, (j : Int) + 1, m.2.2) (oneR x)
                · rfl
                · exfalso
                  apply HQ.out
                  rw [hx]
                  simp [fol, oneR] at hf
                  obtain ⟨⟨f1, f2⟩, f3⟩ := hf
                  obtain ⟨x1, x2, x3⟩ := x
                  simp [nextM] at f1 f2 f3 ⊢
                  exact ⟨f1.symm, f2.symm, f3.symm⟩
            case measure => simp [intOf]; omega
    · obtain rfl : k = l.length := by omega
      go_wp2
      go_ret
      refine ⟨_, rfl, ?_, hb⟩
      have := HO.out
      rwa [List.take_length] at this
end Go.Proofs.YtaglmkjkmhpifaaDoor
