/- Chapter 41: lives; the law TagScans. -/
import Derived.Test.YtcblakflhheepaaTagP
namespace Go.Proofs.Ytcblakflhheepaa
open Go.RowKit
set_option linter.unusedVariables false
set_option linter.unusedSimpArgs false

theorem attrsL_len {cl : Bool} {s : ByteArray} : ∀ {n : Nat} {l l' : List Av} {k k' : Nat}, attrsL cl s n l k = .ok (l', k') → l'.length ≤ l.length + n
  | 0, l, l', k, k', h => by
    simp [attrsL] at h
    rw [h.1]; omega
  | n + 1, l, l', k, k', h => by
    unfold attrsL at h
    split at h
    · simp at h
      rw [h.1]; omega
    · cases ha : attrL l s (endB blaB s k) with
      | error e => rw [ha] at h; cases h
      | ok b =>
        obtain ⟨a, k1⟩ := b
        rw [ha] at h
        have := attrsL_len h
        simp at this
        omega
theorem tagL_len {s : ByteArray} {k k' at_ : Nat} {t : Tgv} (h : tagL s k at_ = .ok (t, k')) : t.2.2.1.length ≤ s.size + 1 := by
  unfold tagL at h
  cases hn : nameL s (oneIf (isB (isC 47) s k) k) with
  | error e => rw [hn] at h; cases h
  | ok b =>
    obtain ⟨nm, k2⟩ := b
    rw [hn] at h
    dsimp only at h
    cases ha : attrsL (isB (isC 47) s k) s (s.size + 1) [] k2 with
    | error e => rw [ha] at h; cases h
    | ok b =>
      obtain ⟨l, k3⟩ := b
      have h2 := attrsL_len ha
      rw [ha] at h
      dsimp only at h
      cases hm : mustL s (oneIf (aloB (isB (isC 47) s k) s k3) k3) [62] with
      | error e => rw [hm] at h; cases h
      | ok k5 =>
        rw [hm] at h
        injection h with h
        injection h with h _
        rw [← h]
        simpa using h2
theorem tagsL_len {s : ByteArray} : ∀ {n : Nat} {L L' : List Tgv} {k : Nat}, tagsL s n L k = .ok L' → (∀ t ∈ L, t.2.2.1.length ≤ s.size + 1) → L'.length ≤ L.length + n ∧ ∀ t ∈ L', t.2.2.1.length ≤ s.size + 1
  | 0, L, L', k, h, ha => by
    simp [tagsL] at h
    subst h
    exact ⟨by omega, ha⟩
  | n + 1, L, L', k, h, ha => by
    by_cases hlt : k < s.size
    · rw [tagsL_lt hlt] at h
      cases hm : mustL s k [60] with
      | error e => rw [hm] at h; cases h
      | ok k1 =>
        rw [hm] at h
        dsimp only at h
        split at h
        · cases hm2 : mustL s (k1 + 1) [45, 45] with
          | error e => rw [hm2] at h; cases h
          | ok k2 =>
            rw [hm2] at h
            dsimp only at h
            cases hr : remL s k2 with
            | error e => rw [hr] at h; cases h
            | ok k3 =>
              rw [hr] at h
              have := tagsL_len h ha
              exact ⟨by omega, this.2⟩
        · cases ht : tagL s k1 k with
          | error e => rw [ht] at h; cases h
          | ok b =>
            obtain ⟨t, k2⟩ := b
            rw [ht] at h
            have := tagsL_len h (fun y hy => by
              rcases List.mem_append.1 hy with hy | hy
              · exact ha y hy
              · obtain rfl : y = t := by simpa using hy
                exact tagL_len ht)
            simp at this
            exact ⟨by omega, fun y hy => this.2 _ _ _ _ hy⟩
    · rw [tagsL_ge hlt] at h
      injection h with h
      subst h
      exact ⟨by omega, ha⟩
theorem tagsP_len {s : ByteArray} {L : List Tgv} (h : tagsP s = .ok L) : L.length ≤ s.size + 1 ∧ ∀ t ∈ L, t.2.2.1.length ≤ s.size + 1 := by
  have := tagsL_len h (fun t ht => by cases ht)
  simpa using this

abbrev exText : ByteArray := ⟨#[60, 97, 32, 98, 61, 34, 49, 34, 47, 62]⟩
theorem ex41 : tagsP exText = .ok [(3, ⟨#[97]⟩, [(⟨#[98]⟩, ⟨#[49]⟩, 3)], 0)] := by
  rfl

theorem st62 : Try.prog.stoodInHeld 62 = false := by kernel_rfl
theorem eg62 : Try.prog.eqGuardType Try.prog.depth 62 = false := by kernel_rfl
theorem eql62 (w : World) : (binOp .eql 62 (.agg #[.string ⟨#[98]⟩, .string ⟨#[49]⟩, .int .i64 3]) (.agg #[.string ⟨#[98]⟩, .string ⟨#[49]⟩, .int .i64 3])).run Try.prog w = .ok (.bool true) w := by
  rw [run_eql_struct, run_equalIn_agg _ _ _ _ _ (by simp [go_sem, Try.underlying62]) st62]
  simp [go_sem, Try.underlying62, Op.eqFields]
attribute [local go_sem ↓] eql62
attribute [local go_sem] eg62

set_option maxRecDepth 100000 in
set_option maxHeartbeats 4000000 in
theorem lives41_any (w : World) (hm : MaxL w) : Calls Try.prog 26 #[] w fun e w' => e = .returned (.bool true) ∧ Below w.heap.size w w' := by
  go_enter Try.func26, Try.ntmps26
  go_wp2_with (fail)
  refine (Tags_any exText (by decide) w hm).mono ?_
  rw [ex41]
  rintro e w1 ⟨v, rows, rfl, hO, hM, hb⟩
  obtain ⟨A, n, cap, rfl, -, -⟩ := hO.rd trc_len
  obtain ⟨hn, hR⟩ := rdI_of hO hM
  simp at hn
  subst hn
  obtain ⟨b, off, A', cap', rfl, hbB, c0, c1, c2, c3, hr⟩ := hR 0 (3, ⟨#[97]⟩, [(⟨#[98]⟩, ⟨#[49]⟩, 3)], 0) rfl
  obtain ⟨b2, off2, rfl, hb2, e0, e1, e2⟩ := hr.ai (i := 0) (x := (⟨#[98]⟩, ⟨#[49]⟩, 3)) rfl
  simp at c0 c1 c2 c3 e0 e1 e2
  clear hO hM hR hr
  go_wp2
  go_ret
  exact ⟨rfl, hb⟩
end Go.Proofs.Ytcblakflhheepaa
