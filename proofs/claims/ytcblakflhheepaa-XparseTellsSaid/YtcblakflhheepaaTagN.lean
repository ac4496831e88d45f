/- Chapter 41: slices of tags that are read; Own; Same of equal tags. -/
import Derived.Test.YtcblakflhheepaaTagH
namespace Go.Proofs.Ytcblakflhheepaa
open Go.RowKit
set_option linter.unusedVariables false
set_option linter.unusedSimpArgs false

abbrev Ai := ByteArray × ByteArray × Int
abbrev aic (a : Ai) : List Value := [.string a.1, .string a.2.1, .int .i64 a.2.2]
theorem aic_len (a : Ai) : (aic a).length = 3 := rfl
theorem aic_one (x : Ai) : ∀ u ∈ aic x, u.oneCell' = true := by
  intro u hu
  simp at hu
  rcases hu with rfl | rfl | rfl <;> rfl
abbrev Ti := Int × ByteArray × List Ai × Int
abbrev Ri := Int × ByteArray × (Option Addr × Nat × Nat) × Int
abbrev ric (r : Ri) : List Value := [.int .i64 r.1, .string r.2.1, .slice r.2.2.1.1 r.2.2.1.2.1 r.2.2.1.2.2, .int .i64 r.2.2.2]
theorem ric_len (r : Ri) : (ric r).length = 4 := rfl
theorem ric_one (x : Ri) : ∀ u ∈ ric x, u.oneCell' = true := by
  intro u hu
  simp at hu
  rcases hu with rfl | rfl | rfl | rfl <;> rfl

/-- The slice at A holds the tags L, below B. -/
def RdI (w : World) (B : Nat) (A : Option Addr) (L : List Ti) : Prop :=
  ∀ i t, L[i]? = some t → ∃ b off A' cap, A = some ⟨b, off, none⟩ ∧ b < B ∧ w.cell? ⟨b, off + i * 4, none⟩ = some (.int .i64 t.1) ∧ w.cell? ⟨b, off + i * 4 + 1, none⟩ = some (.string t.2.1) ∧
    w.cell? ⟨b, off + i * 4 + 2, none⟩ = some (.slice A' t.2.2.1.length cap) ∧ w.cell? ⟨b, off + i * 4 + 3, none⟩ = some (.int .i64 t.2.2.2) ∧ Rd w B 3 aic A' t.2.2.1
theorem RdI.below {w w' : World} {B : Nat} {A : Option Addr} {L : List Ti} (h : RdI w B A L) (hb : Below B w w') : RdI w' B A L := by
  intro i t ht
  obtain ⟨b, off, A', cap, h1, h2, c0, c1, c2, c3, hr⟩ := h i t ht
  exact ⟨b, off, A', cap, h1, h2, (hb.cell (p := ⟨b, _, none⟩) h2).trans c0, (hb.cell (p := ⟨b, _, none⟩) h2).trans c1, (hb.cell (p := ⟨b, _, none⟩) h2).trans c2, (hb.cell (p := ⟨b, _, none⟩) h2).trans c3, hr.below hb⟩
theorem RdI.mono {w : World} {B B' : Nat} {A : Option Addr} {L : List Ti} (h : RdI w B A L) (hB : B ≤ B') : RdI w B' A L := by
  intro i t ht
  obtain ⟨b, off, A', cap, h1, h2, c0, c1, c2, c3, hr⟩ := h i t ht
  exact ⟨b, off, A', cap, h1, by omega, c0, c1, c2, c3, hr.mono hB⟩
theorem RdI.nil (w : World) (B : Nat) (A : Option Addr) : RdI w B A [] := by
  intro i t h
  simp at h
theorem Rd.ai {w : World} {B : Nat} {A : Option Addr} {l : List Ai} (h : Rd w B 3 aic A l) {i : Nat} {x : Ai} (hx : l[i]? = some x) :
    ∃ b off, A = some ⟨b, off, none⟩ ∧ b < B ∧ w.cell? ⟨b, off + i * 3, none⟩ = some (.string x.1) ∧ w.cell? ⟨b, off + i * 3 + 1, none⟩ = some (.string x.2.1) ∧ w.cell? ⟨b, off + i * 3 + 2, none⟩ = some (.int .i64 x.2.2) := by
  obtain ⟨b, off, hA, hb, h⟩ := h i x hx
  exact ⟨b, off, hA, hb, by simpa using h 0 _ rfl, h 1 _ rfl, h 2 _ rfl⟩

def aOf (a : Av) : Ai := (a.1, a.2.1, a.2.2)
def tOf (t : Tgv) : Ti := (t.1, t.2.1, t.2.2.1.map aOf, t.2.2.2)
theorem rd_aOf {w : World} {B : Nat} {A : Option Addr} {l : List Av} (h : Rd w B 3 avc A l) : Rd w B 3 aic A (l.map aOf) := by
  intro i x hx
  rw [List.getElem?_map] at hx
  obtain ⟨y, hy, rfl⟩ := Option.map_eq_some_iff.1 hx
  exact h i y hy
/-- What Tags hands back, as a slice that is read. -/
theorem rdI_of {e : TypeId} {w : World} {base n cap : Nat} {A : Option Addr} {rows : List Tr} {L : List Tgv} {eT : TypeId} (hO : Own w base eT 4 trc (.slice A n cap) rows) (hM : Mt e w base rows L) : n = (L.map tOf).length ∧ RdI w w.heap.size A (L.map tOf) := by
  refine ⟨by rw [hO.len, hM.len, List.length_map], fun i t ht => ?_⟩
  rw [List.getElem?_map] at ht
  obtain ⟨y, hy, rfl⟩ := Option.map_eq_some_iff.1 ht
  obtain ⟨r, hr, h1, h2, h3, h4⟩ := hM.get hy
  obtain ⟨A1, n1, cap1, he, hn, hrd⟩ := hO.rd trc_len
  injection he with e1 e2 e3
  subst e1
  obtain ⟨b, off, hA, hb, hc⟩ := hrd i r hr
  obtain ⟨A2, n2, cap2, he2, hn2, hrd2⟩ := h4.rd avc_len
  injection he2 with e4 e5 e6
  refine ⟨b, off, A2, cap2, hA, hb, ?_, ?_, ?_, ?_, ?_⟩
  · have := hc 0 _ rfl
    simpa [tOf, h1] using this
  · have := hc 1 _ rfl
    simpa [tOf, h2] using this
  · have := hc 2 _ rfl
    rw [this, e4, e5, e6, hn2]
    simp [tOf]
  · have := hc 3 _ rfl
    rw [this]
    simp [tOf, h3]
  · exact rd_aOf hrd2
end Go.Proofs.Ytcblakflhheepaa
