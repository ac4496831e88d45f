/- Chapter 42: deep; the tags of a pool are right; their text. -/
import Derived.Test.YtaglmkjkmhpifaaGreatDoorXmlD
import Derived.Test.YtaglmkjkmhpifaaGreatDoorScanA
import Derived.Test.YtaglmkjkmhpifaaGreatDoorDigB
namespace Go.Proofs.YtaglmkjkmhpifaaGreatDoor
open Go.RowKit
set_option linter.unusedVariables false
set_option linter.unusedSimpArgs false

/-- How deep a tag stands. -/
def deepN (n : ByteArray) : Nat := if n.toList == [115, 117, 112, 101, 114, 98, 108, 111, 99, 107] then 0 else if n.toList == [100, 101, 118, 105, 99, 101] then 2 else 4
theorem deepN_le (n : ByteArray) : deepN n ≤ 4 := by unfold deepN; split <;> (try split) <;> omega
theorem deep_any (kd at_ : Int) (nm : ByteArray) (v : Value) (w : World) :
    Calls Tryz.prog 15 #[.agg #[.int .i64 kd, .string nm, v, .int .i64 at_]] w fun e w' => e = .returned (.int .i64 (deepN nm : Nat)) ∧ Below w.heap.size w w' := by
  cases h1 : nm.toList == [115, 117, 112, 101, 114, 98, 108, 111, 99, 107]
  · cases h2 : nm.toList == [100, 101, 118, 105, 99, 101]
    · have H := hide (show deepN nm = 4 by simp [deepN, h1, h2])
      go_enter Tryz.func15, Tryz.ntmps15
      go_wp2
      go_ret
      exact ⟨by rw [H.out]; rfl, (by repeat (first | exact Below.refl _ _ | refine Below.alloc ?_ (by first | (simp; omega) | simp | omega) _ | refine drewN_below ?_ _ | refine Below.drew ?_))⟩
    · have H := hide (show deepN nm = 2 by simp [deepN, h1, h2])
      go_enter Tryz.func15, Tryz.ntmps15
      go_wp2
      go_ret
      exact ⟨by rw [H.out]; rfl, (by repeat (first | exact Below.refl _ _ | refine Below.alloc ?_ (by first | (simp; omega) | simp | omega) _ | refine drewN_below ?_ _ | refine Below.drew ?_))⟩
  · have H := hide (show deepN nm = 0 by simp [deepN, h1])
    go_enter Tryz.func15, Tryz.ntmps15
    go_wp2
    go_ret
    exact ⟨by rw [H.out]; rfl, (by repeat (first | exact Below.refl _ _ | refine Below.alloc ?_ (by first | (simp; omega) | simp | omega) _ | refine drewN_below ?_ _ | refine Below.drew ?_))⟩

/-- The text of a tag of a pool. -/
def indT (t : Ti) : List UInt8 × Ti := (List.replicate (deepN t.2.1) 32, t)
def xmlL (p : Pl) : List UInt8 := ((xmlTs p).map indT).flatMap itxt
/-- What Emit hands back. -/
def xmlOf (p : Pl) : ByteArray × Int := if chkE p = 0 then (⟨(xmlL p).toArray⟩, 0) else (⟨#[]⟩, chkE p)

theorem plaB_dig (n : Int) : allP plaB (dig n) = true := by
  unfold allP
  rw [dig_list, List.all_eq_true]
  intro c hc
  have := itoa_mem n c hc
  simp [plaB]
  omega
theorem right_of {kd : Int} {nm : ByteArray} {l : List Nm} {at_ : Int} (h1 : 1 ≤ kd) (h3 : kd ≤ 3) (hn : nameB nm = true) (hk : kd = 2 → l = []) (hl : ∀ seen : List Ai, seen = [] → rgtA seen (l.map attrN) = true) : rgtB (kd, nm, l.map attrN, at_) = true := by
  have := hl [] rfl
  simp only [rgtB, hn, this, Bool.and_true, Bool.and_eq_true, decide_eq_true_eq, Bool.not_eq_true', h1, h3, true_and]
  by_cases hk2 : kd = 2
  · rw [hk hk2]; simp
  · simp [hk2]
theorem nameB_dec {n : ByteArray} (h : (!n.data.toList.isEmpty && n.data.toList.all fun b => letB (b.toNat : Int)) = true) : nameB n = true := by
  unfold nameB allP
  rw [Lib.toList_data]
  exact h
theorem rgtA_nil (seen : List Ai) : rgtA seen [] = true := rfl
theorem rgtA_cons {seen l : List Ai} {n v : ByteArray} {k : Int} (h1 : (seen.all fun x => !(x.1.data.toList == n.data.toList)) = true) (h2 : nameB n = true) (h3 : allP plaB v = true) (h4 : rgtA (seen ++ [(n, v, k)]) l = true) : rgtA seen ((n, v, k) :: l) = true := by
  have : hasB n seen = false := by
    rw [Bool.eq_false_iff]
    intro h
    obtain ⟨x, hx, he⟩ := List.any_eq_true.1 h
    have := List.all_eq_true.1 h1 x hx
    simp only [eqS, Lib.toList_data] at he
    rw [he] at this
    cases this
  simp [rgtA, this, h2, h3, h4]
theorem headT_right (p : Pl) : rgtB (headT p) = true := by
  have : rgtA [] ((sUuid, (⟨#[]⟩ : ByteArray), (0 : Int)) :: (headN p).map attrN) = true := by
    simp only [headN, List.map_cons, List.map_nil, attrN]
    refine rgtA_cons rfl (nameB_dec (by decide)) (by decide) ?_
    refine rgtA_cons rfl (nameB_dec (by decide)) (plaB_dig _) ?_
    refine rgtA_cons rfl (nameB_dec (by decide)) (plaB_dig _) ?_
    refine rgtA_cons rfl (nameB_dec (by decide)) (plaB_dig _) ?_
    refine rgtA_cons rfl (nameB_dec (by decide)) (plaB_dig _) ?_
    exact rgtA_nil _
  have hn : nameB sSuper = true := nameB_dec (by decide)
  simp [rgtB, headT, this, hn]
theorem devT_right (d : Dv) : rgtB (devT d) = true := by
  refine right_of (by decide) (by decide) (nameB_dec (by decide)) (fun h => by cases h) (fun seen hs => ?_)
  subst hs
  simp only [devN, List.map_cons, List.map_nil, attrN]
  refine rgtA_cons rfl (nameB_dec (by decide)) (plaB_dig _) ?_
  refine rgtA_cons rfl (nameB_dec (by decide)) (plaB_dig _) ?_
  refine rgtA_cons rfl (nameB_dec (by decide)) (plaB_dig _) ?_
  refine rgtA_cons rfl (nameB_dec (by decide)) (plaB_dig _) ?_
  refine rgtA_cons rfl (nameB_dec (by decide)) (plaB_dig _) ?_
  exact rgtA_nil _
theorem runT_right (r : Rn) : rgtB (runT r) = true := by
  unfold runT
  split
  · refine right_of (by decide) (by decide) (nameB_dec (by decide)) (fun h => by cases h) (fun seen hs => ?_)
    subst hs
    simp only [oneN, List.map_cons, List.map_nil, attrN]
    refine rgtA_cons rfl (nameB_dec (by decide)) (plaB_dig _) ?_
    refine rgtA_cons rfl (nameB_dec (by decide)) (plaB_dig _) ?_
    refine rgtA_cons rfl (nameB_dec (by decide)) (plaB_dig _) ?_
    exact rgtA_nil _
  · refine right_of (by decide) (by decide) (nameB_dec (by decide)) (fun h => by cases h) (fun seen hs => ?_)
    subst hs
    simp only [rngN, List.map_cons, List.map_nil, attrN]
    refine rgtA_cons rfl (nameB_dec (by decide)) (plaB_dig _) ?_
    refine rgtA_cons rfl (nameB_dec (by decide)) (plaB_dig _) ?_
    refine rgtA_cons rfl (nameB_dec (by decide)) (plaB_dig _) ?_
    refine rgtA_cons rfl (nameB_dec (by decide)) (plaB_dig _) ?_
    exact rgtA_nil _
theorem endT_right {n : ByteArray} (h : nameB n = true) : rgtB (endT n) = true := by
  simp [rgtB, endT, h, rgtA]
/-- All tags of a pool may be; none weighs much. -/
theorem xmlTs_mem {p : Pl} {t : Ti} (h : t ∈ xmlTs p) : t = headT p ∨ (∃ d ∈ p.2.2.2.2, t = devT d ∨ (∃ r ∈ runsOf d.2.2.2.2, t = runT r) ∨ t = endT sDevice) ∨ t = endT sSuper := by
  simp only [xmlTs, List.mem_cons, List.mem_append, List.mem_flatMap, List.not_mem_nil, or_false, devTs, List.mem_map] at h
  rcases h with h | ⟨d, hd, h⟩ | h
  · exact .inl h
  · refine .inr (.inl ⟨d, hd, ?_⟩)
    rcases h with h | ⟨r, hr, h⟩ | h
    · exact .inl h
    · exact .inr (.inl ⟨r, hr, h.symm⟩)
    · exact .inr (.inr h)
  · exact .inr (.inr h)
theorem xmlTs_right {p : Pl} {t : Ti} (h : t ∈ xmlTs p) : rgtB t = true := by
  rcases xmlTs_mem h with rfl | ⟨d, hd, rfl | ⟨r, hr, rfl⟩ | rfl⟩ | rfl
  · exact headT_right _
  · exact devT_right _
  · exact runT_right _
  · exact endT_right (nameB_dec (by decide))
  · exact endT_right (nameB_dec (by decide))
theorem wgt_le {kd at_ : Int} {nm : ByteArray} {l : List Nm} (hn : nm.size ≤ 20) (hl : ∀ x ∈ l, x.1.size ≤ 20 ∧ I64 x.2) (h5 : l.length ≤ 5) : wgt (kd, nm, l.map attrN, at_) ≤ 300 := by
  have : ∀ l : List Nm, (∀ x ∈ l, x.1.size ≤ 20 ∧ I64 x.2) → ((l.map attrN).map wgtA).sum ≤ 50 * l.length := by
    intro l
    induction l with
    | nil => simp
    | cons x l ih =>
      intro h
      have h1 := ih (fun y hy => h y (by simp [hy]))
      obtain ⟨h2, h3⟩ := h x (by simp)
      have h4 := dig_len x.2 h3
      simp only [List.map_cons, List.sum_cons, List.length_cons, wgtA, attrN] at *
      omega
  have h1 := this l hl
  simp only [wgt]
  omega
theorem xmlTs_wgt {p : Pl} (hp : I64 p.1 ∧ I64 p.2.1 ∧ I64 p.2.2.1 ∧ I64 p.2.2.2.1) (hd : ∀ d ∈ p.2.2.2.2, okD d) {t : Ti} (h : t ∈ xmlTs p) : wgt t ≤ 400 := by
  rcases xmlTs_mem h with rfl | ⟨d, hdm, rfl | ⟨r, hr, rfl⟩ | rfl⟩ | rfl
  · have : wgt (headT p) = wgt (1, sSuper, (headN p).map attrN, 0) + wgtA (sUuid, ⟨#[]⟩, 0) := by simp [wgt, headT]; omega
    have h2 := wgt_le (kd := 1) (at_ := 0) (nm := sSuper) (l := headN p) (by decide) (by
      intro x hx
      simp only [headN, List.mem_cons, List.not_mem_nil, or_false] at hx
      obtain ⟨q1, q2, q3, q4⟩ := hp
      rcases hx with rfl | rfl | rfl | rfl <;> exact ⟨by dsimp only; decide, by assumption⟩) (by simp [headN])
    have h3 : wgtA (sUuid, ⟨#[]⟩, 0) = 8 := rfl
    omega
  · have h2 := wgt_le (kd := 1) (at_ := 0) (nm := sDevice) (l := devN d) (by decide) (by
      intro x hx
      simp only [devN, List.mem_cons, List.not_mem_nil, or_false] at hx
      obtain ⟨q1, q2, q3, q4, -, q6⟩ := hd d hdm
      have q5 : I64 (d.2.2.2.2.length : Int) := by unfold I64; omega
      rcases hx with rfl | rfl | rfl | rfl | rfl <;> exact ⟨by dsimp only; decide, by assumption⟩) (by simp [devN])
    have : wgt (devT d) = wgt (1, sDevice, (devN d).map attrN, 0) := rfl
    omega
  · obtain ⟨q1, q2, q3, q4⟩ := run_ok (hd d hdm).2.2.2.2.1 (hd d hdm).2.2.2.2.2 hr
    unfold runT
    split
    · have := wgt_le (kd := 3) (at_ := 0) (nm := sSingle) (l := oneN r) (by decide) (by
        intro x hx
        simp only [oneN, List.mem_cons, List.not_mem_nil, or_false] at hx
        rcases hx with rfl | rfl | rfl <;> exact ⟨by dsimp only; decide, by assumption⟩) (by simp [oneN])
      omega
    · have := wgt_le (kd := 3) (at_ := 0) (nm := sRange) (l := rngN r) (by decide) (by
        intro x hx
        simp only [rngN, List.mem_cons, List.not_mem_nil, or_false] at hx
        rcases hx with rfl | rfl | rfl | rfl <;> exact ⟨by dsimp only; decide, by assumption⟩) (by simp [rngN])
      omega
  · decide
  · decide
theorem itxt_len (t : Ti) : (itxt (indT t)).length ≤ 4 + wgt t := by
  have h1 := ttxt_len t
  have h2 := deepN_le t.2.1
  simp only [itxt, indT, List.length_append, List.length_replicate]
  omega
theorem xmlTs_len {p : Pl} (hd : ∀ d ∈ p.2.2.2.2, okD d) : (xmlTs p).length ≤ 2 + 2 * p.2.2.2.2.length + cntL p.2.2.2.2 := by
  have := devTs_len hd
  simp only [xmlTs, List.length_cons, List.length_append, List.length_nil]
  omega
theorem itxts_len {L : List Ti} (h : ∀ t ∈ L, wgt t ≤ 400) : ((L.map indT).flatMap itxt).length ≤ 404 * L.length := by
  induction L with
  | nil => simp
  | cons t L ih =>
    have h1 := ih (fun x hx => h x (by simp [hx]))
    have h2 := itxt_len t
    have h3 := h t (by simp)
    simp only [List.map_cons, List.flatMap_cons, List.length_append, List.length_cons] at *
    omega
theorem xmlL_len {p : Pl} (h : chkE p = 0) : (xmlL p).length ≤ 404 * (2 + 2 * p.2.2.2.2.length + cntL p.2.2.2.2) := by
  obtain ⟨k1, k2, k3, k4, k5, k6, -, k8⟩ := chk_ok h
  have h1 := itxts_len (L := xmlTs p) (fun t ht => xmlTs_wgt ⟨k1, k2, k3, k4⟩ k8 ht)
  have h2 := xmlTs_len k8
  unfold xmlL
  omega
/-- The tags of a pool's text are the pool's. -/
theorem xml_scan (p : Pl) : ∃ L', tagsP ⟨(xmlL p).toArray⟩ = .ok L' ∧ (L'.map tOf).map eraT = (xmlTs p).map eraT := by
  obtain ⟨L', h1, h2⟩ := tagsP_at ((xmlTs p).map indT) (fun x hx => by
    obtain ⟨t, ht, rfl⟩ := List.mem_map.1 hx
    exact ⟨fun b hb => by rw [(List.mem_replicate.1 hb).2]; decide, xmlTs_right ht⟩)
  refine ⟨L', h1, ?_⟩
  rw [h2, List.map_map, List.map_map]
  congr 1
end Go.Proofs.YtaglmkjkmhpifaaGreatDoor
