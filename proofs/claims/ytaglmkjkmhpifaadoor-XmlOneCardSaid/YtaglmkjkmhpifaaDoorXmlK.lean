/- Chapter 42: what Tags hands back of any pool; the sizes. -/
import Derived.Test.YtaglmkjkmhpifaaDoorXmlH
namespace Go.Proofs.YtaglmkjkmhpifaaDoor
open Go.RowKit
set_option linter.unusedVariables false
set_option linter.unusedSimpArgs false

theorem xmlTs_at {p : Pl} {t : Ti} (h : t ∈ xmlTs p) : t.2.2.2 = 0 ∧ t.2.2.1.length ≤ 5 := by
  rcases xmlTs_mem h with rfl | ⟨d, hd, rfl | ⟨r, hr, rfl⟩ | rfl⟩ | rfl
  · exact ⟨rfl, by simp [headT, headN]⟩
  · exact ⟨rfl, by simp [devT, devN]⟩
  · unfold runT
    split
    · exact ⟨rfl, by simp [oneN]⟩
    · exact ⟨rfl, by simp [rngN]⟩
  · exact ⟨rfl, by simp [endT]⟩
  · exact ⟨rfl, by simp [endT]⟩
/-- What Tags hands back of any pool, beside its text. -/
theorem tags42_gen (A : Option Addr) (cap : Nat) (p : Pl) (w : World) (ht : Tab w) (h : RdD w w.heap.size A p.2.2.2.2) (hc : cntL p.2.2.2.2 ≤ 2000) (hl : p.2.2.2.2.length ≤ 200) :
    Calls Tryd.prog 20 #[.agg #[.int .i64 p.1, .int .i64 p.2.1, .int .i64 p.2.2.1, .int .i64 p.2.2.2.1, .slice A p.2.2.2.2.length cap]] w fun e w' =>
      ∃ A2 cap2 T, e = .returned (.tuple #[.slice A2 (List.length T) cap2, .int .i64 (xmlOf p).2]) ∧ RdI w' w'.heap.size A2 T ∧ Below w.heap.size w w' ∧ T.length ≤ 5000 ∧ (∀ t ∈ T, t.2.2.2 = 0 ∧ t.2.2.1.length ≤ 5) ∧
        ∃ L', tagsP (xmlOf p).1 = .ok L' ∧ (L'.map tOf).map eraT = T.map eraT := by
  refine (tags42_any A cap p w ht h (by omega) (by omega)).mono ?_
  intro e w2 hT
  unfold Tags42 at hT
  by_cases hz : chkE p = 0
  · rw [if_pos hz] at hT
    obtain ⟨v, rfl, rows, hO, hM, hb2⟩ := hT
    obtain ⟨A2, n2, cap2, rfl, -, -⟩ := hO.rd ric_len
    obtain ⟨hn2, hJ⟩ := rdJ_ofI hO hM
    subst hn2
    obtain ⟨k1, k2, k3, k4, k5, k6, -, k8⟩ := chk_ok hz
    have hlen := xmlTs_len k8
    have e1 : xmlOf p = (⟨(xmlL p).toArray⟩, 0) := if_pos hz
    rw [e1]
    exact ⟨A2, cap2, xmlTs p, rfl, hJ.i, hb2, by omega, fun t ht => xmlTs_at ht, xml_scan p⟩
  · rw [if_neg hz] at hT
    obtain ⟨rfl, hb2⟩ := hT
    have e1 : xmlOf p = (⟨#[]⟩, chkE p) := if_neg hz
    rw [e1]
    exact ⟨none, 0, [], rfl, RdI.nil _ _ _, hb2, by simp, by simp, [], by rfl, rfl⟩
theorem xmlOf_size {p : Pl} (hc : cntL p.2.2.2.2 ≤ 2000) (hl : p.2.2.2.2.length ≤ 200) : (xmlOf p).1.size ≤ 4000000 := by
  unfold xmlOf
  split
  · rename_i h
    have := xmlL_len h
    show (xmlL p).toArray.size ≤ _
    rw [List.size_toArray]
    omega
  · show (#[] : Array UInt8).size ≤ _
    simp

end Go.Proofs.YtaglmkjkmhpifaaDoor
