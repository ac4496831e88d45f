/- Pools and devices, plain: what may be; slices of devices that are read. -/
import Derived.Test.YtcblakflhheepaaRunsC
namespace Go.Proofs.Ytcblakflhheepaa
open Go.RowKit
set_option linter.unusedVariables false
set_option linter.unusedSimpArgs false

/-- A device: its numbers, its mappings. -/
abbrev Dv := Int × Int × Int × Int × List Mp
def inB (n lo hi : Int) : Bool := decide (lo ≤ n) && decide (n ≤ hi)
def allT (l : List Int) : Bool := l.all fun t => inB t 0 16777215
def timesB (tx : Int) (l : List Int) : Bool := inB tx 0 2147483647 && allT l
def devE (d : Dv) (last : Int) : Int := if inB d.1 0 16777215 && timesB d.2.1 [d.2.2.1, d.2.2.2.1] then (if d.1 ≤ last then 8 else 0) else 2
def mapB (data : Int) (m : Mp) : Bool := inB m.1 0 281474976710655 && inB m.2.1 0 (data - 1) && inB m.2.2 0 16777215
def mapE (data : Int) : Int → List Mp → Int
  | _, [] => 0
  | last, m :: l => if mapB data m then (if m.1 ≤ last then 8 else mapE data m.1 l) else 2
/-- A pool: its numbers, its devices. -/
abbrev Pl := Int × Int × Int × Int × List Dv
/-- The slice at A holds the devices L, below B. -/
def RdD (w : World) (B : Nat) (A : Option Addr) (L : List Dv) : Prop :=
  ∀ i d, L[i]? = some d → ∃ b off A' cap, A = some ⟨b, off, none⟩ ∧ b < B ∧ w.cell? ⟨b, off + i * 5, none⟩ = some (.int .i64 d.1) ∧ w.cell? ⟨b, off + i * 5 + 1, none⟩ = some (.int .i64 d.2.1) ∧
    w.cell? ⟨b, off + i * 5 + 2, none⟩ = some (.int .i64 d.2.2.1) ∧ w.cell? ⟨b, off + i * 5 + 3, none⟩ = some (.int .i64 d.2.2.2.1) ∧ w.cell? ⟨b, off + i * 5 + 4, none⟩ = some (.slice A' d.2.2.2.2.length cap) ∧ Rd w B 3 mc A' d.2.2.2.2
theorem RdD.below {w w' : World} {B : Nat} {A : Option Addr} {L : List Dv} (h : RdD w B A L) (hb : Below B w w') : RdD w' B A L := by
  intro i t ht
  obtain ⟨b, off, A', cap, h1, h2, c0, c1, c2, c3, c4, hr⟩ := h i t ht
  exact ⟨b, off, A', cap, h1, h2, (hb.cell (p := ⟨b, _, none⟩) h2).trans c0, (hb.cell (p := ⟨b, _, none⟩) h2).trans c1, (hb.cell (p := ⟨b, _, none⟩) h2).trans c2, (hb.cell (p := ⟨b, _, none⟩) h2).trans c3, (hb.cell (p := ⟨b, _, none⟩) h2).trans c4, hr.below hb⟩
theorem RdD.mono {w : World} {B B' : Nat} {A : Option Addr} {L : List Dv} (h : RdD w B A L) (hB : B ≤ B') : RdD w B' A L := by
  intro i t ht
  obtain ⟨b, off, A', cap, h1, h2, c0, c1, c2, c3, c4, hr⟩ := h i t ht
  exact ⟨b, off, A', cap, h1, by omega, c0, c1, c2, c3, c4, hr.mono hB⟩
theorem RdD.nil (w : World) (B : Nat) (A : Option Addr) : RdD w B A [] := by
  intro i t h
  simp at h
def cntL (L : List Dv) : Nat := (L.map fun d => d.2.2.2.2.length).sum
theorem cntL_step {L : List Dv} {k : Nat} {d : Dv} (h : L[k]? = some d) : cntL (L.take (k + 1)) = cntL (L.take k) + d.2.2.2.2.length := by
  simp only [cntL]; rw [take_step h]; simp
theorem cntL_le : ∀ (L : List Dv) (k : Nat), cntL (L.take k) ≤ cntL L
  | [], k => by simp
  | d :: L, 0 => by simp [cntL]
  | d :: L, k + 1 => by
    have := cntL_le L k
    simp only [cntL, List.take_succ_cons, List.map_cons, List.sum_cons] at *
    omega
def devsE (data : Int) : Int → List Dv → Int
  | _, [] => 0
  | last, d :: L => if devE d last = 0 then (if mapE data (-1) d.2.2.2.2 = 0 then devsE data d.1 L else mapE data (-1) d.2.2.2.2) else devE d last
/-- Why a pool may not be. -/
def chkE (p : Pl) : Int :=
  if timesB p.1 [p.2.1] && inB p.2.2.1 1 65536 && inB p.2.2.2.1 0 65536 then
    (if 4096 < p.2.2.2.2.length ∨ 16384 < cntL p.2.2.2.2 then 2 else devsE p.2.2.2.1 (-1) p.2.2.2.2)
  else 2
theorem len_cntL {L : List Dv} {k : Nat} {d : Dv} (h : L[k]? = some d) : d.2.2.2.2.length ≤ cntL L := by
  have h1 := cntL_step h
  have h2 := cntL_le L (k + 1)
  omega
theorem inB_true {n lo hi : Int} (h : inB n lo hi = true) : lo ≤ n ∧ n ≤ hi := by simpa [inB] using h
theorem mapE_zero {data : Int} : ∀ {l : List Mp} {last : Int}, mapE data last l = 0 → ∀ m ∈ l, mapB data m = true
  | [], _, _, m, hm => by cases hm
  | x :: l, last, h, m, hm => by
    unfold mapE at h
    split at h
    · rename_i hb
      split at h
      · cases h
      · rcases List.mem_cons.1 hm with rfl | hm
        · exact hb
        · exact mapE_zero h m hm
    · cases h
theorem devsE_zero {data : Int} : ∀ {L : List Dv} {last : Int}, devsE data last L = 0 → ∀ d ∈ L, (∃ la, devE d la = 0) ∧ mapE data (-1) d.2.2.2.2 = 0
  | [], _, _, d, hd => by cases hd
  | x :: L, last, h, d, hd => by
    unfold devsE at h
    split at h
    · rename_i h1
      split at h
      · rename_i h2
        rcases List.mem_cons.1 hd with rfl | hd
        · exact ⟨⟨_, h1⟩, h2⟩
        · exact devsE_zero h d hd
      · rename_i h2; exact absurd h h2
    · rename_i h1; exact absurd h h1
end Go.Proofs.Ytcblakflhheepaa
