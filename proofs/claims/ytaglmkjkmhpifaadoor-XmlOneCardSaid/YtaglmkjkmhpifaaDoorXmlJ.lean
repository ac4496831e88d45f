/- Chapter 42, plain: a pool's tags tell the pool. -/
import Derived.Test.YtaglmkjkmhpifaaDoorXmlH
namespace Go.Proofs.YtaglmkjkmhpifaaDoor
open Go.RowKit
set_option linter.unusedVariables false
set_option linter.unusedSimpArgs false

theorem dig_inj {a b : Int} (h : dig a = dig b) : a = b := by
  have : (dig a).data.toList = (dig b).data.toList := by rw [h]
  rw [dig_list, dig_list] at this
  exact itoa_inj this
theorem runT_inj {r r' : Rn} (h : eraT (runT r) = eraT (runT r')) : r = r' := by
  unfold runT at h
  split at h <;> split at h
  · rename_i h1 h2
    simp only [eraT, oneN, List.map_cons, List.map_nil, attrN, eraA, Prod.mk.injEq, List.cons.injEq, and_true, true_and] at h
    obtain ⟨e1, e2, e3⟩ := h
    exact Prod.ext (dig_inj e1) (Prod.ext (dig_inj e2) (Prod.ext (h1.trans h2.symm) (dig_inj e3)))
  · simp only [eraT, Prod.mk.injEq] at h
    exact absurd h.2.1 (by decide)
  · simp only [eraT, Prod.mk.injEq] at h
    exact absurd h.2.1 (by decide)
  · simp only [eraT, rngN, List.map_cons, List.map_nil, attrN, eraA, Prod.mk.injEq, List.cons.injEq, and_true, true_and] at h
    obtain ⟨e1, e2, e3, e4⟩ := h
    exact Prod.ext (dig_inj e1) (Prod.ext (dig_inj e2) (Prod.ext (dig_inj e3) (dig_inj e4)))
theorem runT_kind (r : Rn) : (eraT (runT r)).1 = 3 := by unfold runT; split <;> rfl
theorem eruns : ∀ {R R' : List Rn} {X X' : List Ti}, (R.map runT ++ endT sDevice :: X).map eraT = (R'.map runT ++ endT sDevice :: X').map eraT → R = R' ∧ X.map eraT = X'.map eraT
  | [], [], X, X', h => ⟨rfl, by simpa using h⟩
  | [], r :: R', X, X', h => by
    simp only [List.map_nil, List.nil_append, List.map_cons, List.cons_append, List.cons.injEq] at h
    have := runT_kind r
    rw [← h.1] at this
    exact absurd this (by decide)
  | r :: R, [], X, X', h => by
    simp only [List.map_nil, List.nil_append, List.map_cons, List.cons_append, List.cons.injEq] at h
    have := runT_kind r
    rw [h.1] at this
    exact absurd this (by decide)
  | r :: R, r' :: R', X, X', h => by
    simp only [List.map_cons, List.cons_append, List.cons.injEq] at h
    obtain ⟨h1, h2⟩ := eruns h.2
    exact ⟨by rw [runT_inj h.1, h1], h2⟩
theorem edevs : ∀ {L L' : List Dv}, (L.flatMap devTs ++ [endT sSuper]).map eraT = (L'.flatMap devTs ++ [endT sSuper]).map eraT → L = L'
  | [], [], _ => rfl
  | [], d :: L', h => by
    simp only [List.flatMap_nil, List.nil_append, List.map_cons, List.flatMap_cons, devTs, List.cons_append, List.cons.injEq] at h
    have := congrArg (·.1) h.1
    exact absurd this (by simp [eraT, endT, devT])
  | d :: L, [], h => by
    simp only [List.flatMap_nil, List.nil_append, List.map_cons, List.flatMap_cons, devTs, List.cons_append, List.cons.injEq] at h
    have := congrArg (·.1) h.1
    exact absurd this (by simp [eraT, endT, devT])
  | d :: L, d' :: L', h => by
    simp only [List.flatMap_cons, devTs, List.cons_append, List.map_cons, List.cons.injEq] at h
    obtain ⟨h1, h2⟩ := h
    rw [List.append_assoc, List.append_assoc, List.append_assoc, List.append_assoc] at h2
    obtain ⟨h3, h4⟩ := eruns (X := L.flatMap devTs ++ [endT sSuper]) (X' := L'.flatMap devTs ++ [endT sSuper]) h2
    have h5 := edevs h4
    have h6 := runsOf_inj h3
    simp only [eraT, devT, devN, List.map_cons, List.map_nil, attrN, eraA, Prod.mk.injEq, List.cons.injEq, and_true, true_and] at h1
    obtain ⟨e1, e2, e3, e4, e5⟩ := h1
    have hd : d = d' := Prod.ext (dig_inj e1) (Prod.ext (dig_inj e3) (Prod.ext (dig_inj e4) (Prod.ext (dig_inj e5) h6)))
    rw [hd, h5]
theorem xmlTs_inj {p q : Pl} (h : (xmlTs p).map eraT = (xmlTs q).map eraT) : p = q := by
  simp only [xmlTs, List.map_cons, List.cons.injEq] at h
  obtain ⟨h1, h2⟩ := h
  have h3 := edevs h2
  simp only [eraT, headT, headN, List.map_cons, List.map_nil, attrN, eraA, Prod.mk.injEq, List.cons.injEq, and_true, true_and] at h1
  obtain ⟨e1, e2, e3, e4⟩ := h1
  exact Prod.ext (dig_inj e2) (Prod.ext (dig_inj e1) (Prod.ext (dig_inj e3) (Prod.ext (dig_inj e4) h3)))
/-- A pool's text tells the pool. -/
theorem xml_inj {p q : Pl} (h : xmlL p = xmlL q) : p = q := by
  obtain ⟨L1, h1, h2⟩ := xml_scan p
  obtain ⟨L2, h3, h4⟩ := xml_scan q
  rw [h, h3] at h1
  injection h1 with h1
  subst h1
  exact xmlTs_inj (h2.symm.trans h4)
end Go.Proofs.YtaglmkjkmhpifaaDoor
