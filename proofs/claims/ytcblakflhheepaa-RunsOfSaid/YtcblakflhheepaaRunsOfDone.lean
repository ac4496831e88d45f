/- RunsOf: for every slice of mappings the law's Go text returns true and leaves its argument as it read; no further condition. -/
import Derived.Test.YtcblakflhheepaaRows
import Derived.Test.YtcblakflhheepaaOpen
import Derived.Test.YtcblakflhheepaaRunsG
namespace Go.Proofs.Ytcblakflhheepaa.runsOfDone
open Go.ChangeShapes Go.WideShapes Go.ChangeAt Go.RowKit
open Go.ChangeMaps (open_string shut_string)
set_option linter.unusedVariables false

theorem own : ownKnob Try.prog.godebug = none := by kernel_rfl
theorem laidOut : laidOutB Try.prog = true := by kernel_rfl

/-- A slice of mappings that came in reads as a list. -/
theorem open_maps {H : Type} {enc : TypeId × Value → H} {w : World} {base fuel : Nat} {spare : Nat → Bool} {held : Bool} {a : Option Addr} {n cap : Nat} {x : DataW H × List MemPlace}
    (h : DataW.trod enc Try.prog w base spare held fuel 22 [.slice a n cap] = some x) : ∃ l : List Mp, n = l.length ∧ l.length ≤ maxLen ∧ Rd w w.heap.size 3 mc a l := by
  rcases open_slice_fields Try.underlying22 Try.underlying39 (by kernel_rfl) (by kernel_rfl) h with h0 | ⟨a', n', cap', h0, h1, h2, h3⟩
  · simp at h0
    obtain ⟨rfl, rfl, rfl⟩ := h0
    exact ⟨[], rfl, by simp, Rd.nil⟩
  · simp at h0
    obtain ⟨rfl, rfl, rfl⟩ := h0
    obtain ⟨l, hl, hr⟩ := rd_of_cells (α := Mp) (w := w) (a := a') (size := 3) (n := n) (c := mc) (by decide) mc_len (fun i hi => by
      obtain ⟨m, hm⟩ := h3 i hi
      obtain ⟨v0, y0, c0, t0⟩ := hm 0 _ rfl
      obtain ⟨v1, y1, c1, t1⟩ := hm 1 _ rfl
      obtain ⟨v2, y2, c2, t2⟩ := hm 2 _ rfl
      obtain ⟨i0, e0, _, _⟩ := DataW.trod_int (k := .i64) Try.underlying3 t0
      obtain ⟨i1, e1, _, _⟩ := DataW.trod_int (k := .i64) Try.underlying3 t1
      obtain ⟨i2, e2, _, _⟩ := DataW.trod_int (k := .i64) Try.underlying3 t2
      simp at e0 e1 e2
      subst e0; subst e1; subst e2
      refine ⟨(i0, i1, i2), fun j u hu => ?_⟩
      match j, hu with
      | 0, hu => simp [mc] at hu; subst hu; exact c0
      | 1, hu => simp [mc] at hu; subst hu; exact c1
      | 2, hu => simp [mc] at hu; subst hu; exact c2
      | j + 3, hu => simp [mc] at hu)
    exact ⟨l, hl.symm, by omega, hr⟩

set_option maxRecDepth 100000 in
theorem lifted (os : Os) (started : os.Started) (H : Type) (enc : TypeId × Value → H) :
    ReturnsInHanded {} Try.checked os 3 .any (Rows.runsOfSpec.pre6 enc Try.prog Try.f3 Rows.runsOfRow.domain false) (Rows.runsOfSpec.post enc Try.prog Try.f3 false true false false) := by
  refine returnsInHanded_of_change (C := Try.checked) own started (by kernel_rfl) Try.func3
    (ChangeSpec.witness6 (enc := enc) (C := Try.checked) false ⟨#[], #[.slice none 0 0], []⟩ 8 (by kernel_rfl) (by kernel_rfl) (by kernel_rfl) (by kernel_rfl)) ?_
  intro W base args ds gs before hval0 hW hcnd _
  have hval : ∀ (j : Nat) t v, Try.f3.params[j]? = some t → args[j]? = some v → Value.okWide Try.prog W .any base t v := hval0
  have hW' := hW
  obtain ⟨p, q, hA0, hV, rfl, hfz, hnd⟩ := hW
  have hA : DataW.TrodAll enc Try.prog W 0 (fun _ => true) true Try.f3.params.toList args.toList ds p := hA0
  rw [Try.params3] at hA hval
  obtain ⟨v0, vs0, d0, ds0, p0, q0, hargs, rfl, rfl, h0, r0⟩ := trodAll_cons hA
  obtain ⟨rfl, rfl, rfl⟩ := trodAll_nil r0
  obtain rfl : args = #[v0] := by cases args; simp_all
  obtain ⟨rfl, rfl⟩ := trodVars_none hV
  obtain ⟨a0, len0, cap0, rfl⟩ := okWide_slice Try.underlying22 (hval 0 22 v0 rfl rfl)
  have k0 := h0
  have lt0 : ∀ x ∈ p0, x.block < W.heap.size := by obtain ⟨m, hm⟩ := k0; exact DataW.trod_lt m _ _ _ hm
  obtain ⟨l, hn, hlen, hrd⟩ : ∃ l : List Mp, len0 = l.length ∧ l.length ≤ maxLen ∧ Rd W W.heap.size 3 mc a0 l := by
    obtain ⟨fuel, hf⟩ := h0
    exact open_maps (by simpa [Value.cells] using hf)
  subst hn
  clear hA0 hval0
  refine (lawRunsOf_any a0 cap0 l W hrd hlen).mono fun e W' ⟨he, bel⟩ => ?_
  subst he
  exact ⟨_, rfl, _, _, _, [], _, [], hW', trodAll_mk1 (shut_bool Try.underlying4 _), (trodAll_cons_mk (Below.trod laidOut (by kernel_rfl) (of_decide_eq_true (by kernel_rfl)) k0 bel lt0) trodAll_mk0), rfl, bel.frame _, fun h => by cases h⟩

theorem over : Rows.runsOfRow.holds Try.pinned (OpenSpec.ofChange Rows.runsOfSpec) :=
  OpenClaim.holds_of_wide 3 Try.f3 rfl rfl rfl rfl rfl rfl rfl ⟨rfl, rfl, rfl, rfl, rfl⟩ rfl rfl rfl rfl rfl (by kernel_rfl) Try.func3 (by kernel_rfl)
    (of_decide_eq_true (by kernel_rfl)) (by unfold Func.isWrapper; first | (rw [if_pos (by decide +kernel)]; kernel_rfl) | (rw [if_neg (by decide +kernel)]; exact ⟨rfl, rfl⟩))
    (fun os started H enc _ => lifted os started H enc)

/-- The statement. -/
theorem proved : Rows.RunsOfSaid := over
#print axioms proved
end Go.Proofs.Ytcblakflhheepaa.runsOfDone
