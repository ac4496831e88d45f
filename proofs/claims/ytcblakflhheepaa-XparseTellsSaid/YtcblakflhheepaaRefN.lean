/- Chapter 30, plain: the value of a text of digits. -/
import Derived.Test.YtcblakflhheepaaParA
import Derived.Test.YtcblakflhheepaaTagH
namespace Go.Proofs.Ytcblakflhheepaa
open Go.RowKit
set_option linter.unusedVariables false
set_option linter.unusedSimpArgs false

/-! a number's text -/
def valF : List UInt8 → Int → Int
  | [], n => n
  | c :: l, n => valF l (n * 10 + ((c.toNat : Int) - 48))
def DigL (l : List UInt8) : Prop := ∀ c ∈ l, 48 ≤ c.toNat ∧ c.toNat ≤ 57
theorem DigL.cons {c : UInt8} {l : List UInt8} (h : DigL (c :: l)) : (48 ≤ c.toNat ∧ c.toNat ≤ 57) ∧ DigL l := ⟨h c (by simp), fun x hx => h x (by simp [hx])⟩
theorem valF_ge : ∀ {l : List UInt8} {n : Int}, DigL l → 0 ≤ n → n ≤ valF l n
  | [], n, _, _ => Int.le_refl _
  | c :: l, n, h, hn => by
    obtain ⟨h1, h2⟩ := h.cons
    have := valF_ge (n := n * 10 + ((c.toNat : Int) - 48)) h2 (by omega)
    unfold valF
    omega
theorem numF_val : ∀ {l : List UInt8} {n : Int}, DigL l → 0 ≤ n → n ≤ 4611686018427387904 → numF l n = if valF l n ≤ 4611686018427387904 then some (valF l n) else none
  | [], n, _, _, hn => by unfold numF valF; rw [if_pos hn]
  | c :: l, n, h, h0, hn => by
    obtain ⟨h1, h2⟩ := h.cons
    unfold numF valF
    split
    · rename_i hb
      have := valF_ge (n := n * 10 + ((c.toNat : Int) - 48)) h2 (by omega)
      rw [if_neg (by omega)]
    · exact numF_val h2 (by omega) (by omega)
theorem valF_lin : ∀ {l : List UInt8} {n : Int}, valF l n = n * 10 ^ l.length + valF l 0
  | [], n => by simp [valF]
  | c :: l, n => by
    unfold valF
    rw [valF_lin (n := n * 10 + _), valF_lin (n := 0 * 10 + _)]
    simp only [List.length_cons, Int.pow_succ]
    generalize (10 : Int) ^ l.length = P
    generalize (c.toNat : Int) - 48 = d
    rw [Int.add_mul, Int.add_mul, Int.mul_assoc, Int.mul_comm 10 P]
    omega
theorem valF_lt : ∀ {l : List UInt8}, DigL l → 0 ≤ valF l 0 ∧ valF l 0 < 10 ^ l.length
  | [], _ => by simp [valF]
  | c :: l, h => by
    obtain ⟨h1, h2⟩ := h.cons
    obtain ⟨i1, i2⟩ := valF_lt h2
    unfold valF
    rw [valF_lin]
    simp only [List.length_cons, Int.pow_succ]
    have hP : (0 : Int) < 10 ^ l.length := Int.pow_pos (by decide)
    generalize (10 : Int) ^ l.length = P at *
    obtain ⟨d, hd⟩ : ∃ d : Int, (c.toNat : Int) - 48 = d := ⟨_, rfl⟩
    have hd0 : 0 ≤ d ∧ d ≤ 9 := by omega
    rw [hd]
    have e : (0 * 10 + d) * P = d * P := by simp
    rw [e]
    have m1 : 0 ≤ d * P := Int.mul_nonneg hd0.1 (by omega)
    have m2 : d * P ≤ 9 * P := Int.mul_le_mul_of_nonneg_right hd0.2 (by omega)
    omega
theorem bytesLess_val : ∀ {a b : List UInt8}, a.length = b.length → DigL a → DigL b → Op.bytesLess a b = decide (valF a 0 < valF b 0)
  | [], [], _, _, _ => by simp [Op.bytesLess, valF]
  | [], _ :: _, h, _, _ => by simp at h
  | _ :: _, [], h, _, _ => by simp at h
  | x :: a, y :: b, h, ha, hb => by
    obtain ⟨x1, x2⟩ := ha.cons
    obtain ⟨y1, y2⟩ := hb.cons
    have hl : a.length = b.length := by simpa using h
    have ih := bytesLess_val hl x2 y2
    obtain ⟨i1, i2⟩ := valF_lt x2
    obtain ⟨j1, j2⟩ := valF_lt y2
    unfold Op.bytesLess valF
    rw [valF_lin (l := a), valF_lin (l := b), ih, hl]
    rw [hl] at i2
    have hP : (0 : Int) < 10 ^ b.length := Int.pow_pos (by decide)
    generalize (10 : Int) ^ b.length = P at *
    generalize valF a 0 = va at *
    generalize valF b 0 = vb at *
    obtain ⟨dx, hdx⟩ : ∃ d : Int, (x.toNat : Int) - 48 = d := ⟨_, rfl⟩
    obtain ⟨dy, hdy⟩ : ∃ d : Int, (y.toNat : Int) - 48 = d := ⟨_, rfl⟩
    rw [hdx, hdy]
    have ex : (0 * 10 + dx) * P = dx * P := by simp
    have ey : (0 * 10 + dy) * P = dy * P := by simp
    rw [ex, ey]
    rcases Int.lt_trichotomy dx dy with hlt | heq | hgt
    · have h1 : decide (x < y) = true := by
        rw [decide_eq_true_eq, UInt8.lt_iff_toNat_lt]; omega
      have m : (dx + 1) * P ≤ dy * P := Int.mul_le_mul_of_nonneg_right (by omega) (by omega)
      rw [Int.add_mul] at m
      rw [h1]
      symm
      simp
      omega
    · have hxy : x = y := UInt8.toNat_inj.1 (by omega)
      subst hxy
      have : dx = dy := heq
      subst this
      have h1 : decide (x < x) = false := by simp
      rw [h1, show (x == x) = true by simp, Bool.false_or, Bool.true_and, Bool.eq_iff_iff]
      simp
    · have h1 : decide (x < y) = false := by
        rw [decide_eq_false_iff_not, UInt8.lt_iff_toNat_lt]; omega
      have h2 : (x == y) = false := by
        rw [beq_eq_false_iff_ne]; rintro rfl; omega
      have m : (dy + 1) * P ≤ dx * P := Int.mul_le_mul_of_nonneg_right (by omega) (by omega)
      rw [Int.add_mul] at m
      rw [h1, h2]
      symm
      simp
      omega
abbrev sMost : ByteArray := ⟨#[52, 54, 49, 49, 54, 56, 54, 48, 49, 56, 52, 50, 55, 51, 56, 55, 57, 48, 52]⟩
/-- Is a text of digits above the greatest number's? -/
def grtB (a b : ByteArray) : Bool := if a.size ≠ b.size then decide (b.size < a.size) else !(Op.bytesLess a.toList b.toList || a.toList == b.toList)
theorem grt_val {s : ByteArray} (hd : DigL s.data.toList) (h0 : ∃ c r, s.data.toList = c :: r ∧ (48 < c.toNat ∨ s.size ≤ 1)) : grtB s sMost = decide (4611686018427387904 < valF s.data.toList 0) := by
  have hlen : s.data.toList.length = s.size := by simp
  obtain ⟨c, r, hcr, hc⟩ := h0
  have hv := valF_lt hd
  rw [hlen] at hv
  have hm : sMost.size = 19 := rfl
  unfold grtB
  by_cases he : s.size = 19
  · rw [if_neg (by rw [he, hm]; simp), Lib.toList_data, Lib.toList_data]
    have hmv : valF sMost.data.toList 0 = 4611686018427387904 := by decide
    have hmd : DigL sMost.data.toList := by unfold DigL; decide
    have hll : s.data.toList.length = sMost.data.toList.length := by rw [hlen, he]; rfl
    rw [bytesLess_val hll hd hmd, hmv, Bool.eq_iff_iff]
    have heq : (s.data.toList == sMost.data.toList) = decide (valF s.data.toList 0 = 4611686018427387904) := by
      rw [Bool.eq_iff_iff, beq_iff_eq, decide_eq_true_eq]
      constructor
      · intro h; rw [h, hmv]
      · intro h
        have h1 : Op.bytesLess s.data.toList sMost.data.toList = false := by rw [bytesLess_val hll hd hmd, hmv, h]; simp
        have h2 : Op.bytesLess sMost.data.toList s.data.toList = false := by rw [bytesLess_val hll.symm hmd hd, hmv, h]; simp
        have : ∀ (a b : List UInt8), a.length = b.length → Op.bytesLess a b = false → Op.bytesLess b a = false → a = b := by
          intro a
          induction a with
          | nil => intro b hb _ _; cases b with
            | nil => rfl
            | cons y b => simp at hb
          | cons x a ih => intro b hb q1 q2; cases b with
            | nil => simp at hb
            | cons y b =>
              unfold Op.bytesLess at q1 q2
              simp only [Bool.or_eq_false_iff, decide_eq_false_iff_not, Bool.and_eq_false_iff] at q1 q2
              have hxy : x = y := by
                apply UInt8.toNat_inj.1
                have l1 := q1.1
                have l2 := q2.1
                rw [UInt8.lt_iff_toNat_lt] at l1 l2
                omega
              subst hxy
              have r1 : Op.bytesLess a b = false := by simpa using q1.2
              have r2 : Op.bytesLess b a = false := by simpa using q2.2
              rw [ih b (by simpa using hb) r1 r2]
        exact this _ _ hll h1 h2
    rw [heq]
    simp
    omega
  · rw [if_pos (by rw [hm]; exact he), hm]
    by_cases hbig : 19 < s.size
    · have hr : r.length + 1 = s.size := by rw [← hlen, hcr]; simp
      have hc48 : 48 < c.toNat := by rcases hc with h | h <;> omega
      have hge : (10 : Int) ^ 19 ≤ valF s.data.toList 0 := by
        rw [hcr] at hd ⊢
        obtain ⟨c1, c2⟩ := hd.cons
        have h3 := valF_lt c2
        unfold valF
        rw [valF_lin]
        have hp : (10 : Int) ^ 19 ≤ 10 ^ r.length := by
          have : ∃ k, r.length = 19 + k := ⟨r.length - 19, by omega⟩
          obtain ⟨k, hk⟩ := this
          rw [hk, Int.pow_add]
          have h1 : (1 : Int) ≤ 10 ^ k := by
            have : (0 : Int) < 10 ^ k := Int.pow_pos (by decide)
            omega
          omega
        have h4 : (1 : Int) ≤ (0 * 10 + ((c.toNat : Int) - 48)) := by omega
        have h5 : 1 * (10 : Int) ^ r.length ≤ (0 * 10 + ((c.toNat : Int) - 48)) * 10 ^ r.length := Int.mul_le_mul_of_nonneg_right h4 (by
          have : (0 : Int) < 10 ^ r.length := Int.pow_pos (by decide)
          omega)
        omega
      have : (4611686018427387904 : Int) < 10 ^ 19 := by decide
      rw [Bool.eq_iff_iff]
      simp
      omega
    · have hp : valF s.data.toList 0 < 10 ^ 18 := by
        have : ∃ k, 18 = s.size + k := ⟨18 - s.size, by omega⟩
        obtain ⟨k, hk⟩ := this
        have h1 : (1 : Int) ≤ 10 ^ k := by
          have : (0 : Int) < 10 ^ k := Int.pow_pos (by decide)
          omega
        rw [hk, Int.pow_add]
        have h2 : (10 : Int) ^ s.size * 1 ≤ 10 ^ s.size * 10 ^ k := Int.mul_le_mul_of_nonneg_left h1 (by
          have : (0 : Int) < 10 ^ s.size := Int.pow_pos (by decide)
          omega)
        omega
      have : (10 : Int) ^ 18 < 4611686018427387904 := by decide
      rw [Bool.eq_iff_iff]
      simp
      omega

end Go.Proofs.Ytcblakflhheepaa
