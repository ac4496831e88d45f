/- Rows of tags whose places are any numbers. -/
import Derived.Test.YtaglmkjkmhpifaaGreatDoorTagN
namespace Go.Proofs.YtaglmkjkmhpifaaGreatDoor
open Go.RowKit
set_option linter.unusedVariables false
set_option linter.unusedSimpArgs false

def TrOkI (e : TypeId) (w : World) (base : Nat) (r : Ri) (t : Ti) : Prop :=
  r.1 = t.1 ∧ r.2.1 = t.2.1 ∧ r.2.2.2 = t.2.2.2 ∧ Own w base e 3 aic (.slice r.2.2.1.1 r.2.2.1.2.1 r.2.2.1.2.2) t.2.2.1
def MtI (e : TypeId) (w : World) (base : Nat) : List Ri → List Ti → Prop
  | [], [] => True
  | r :: rs, t :: ts => TrOkI e w base r t ∧ MtI e w base rs ts
  | _, _ => False
section
variable {e : TypeId} {w w' : World} {base : Nat}
theorem MtI.len : ∀ {rs : List Ri} {ts : List Ti}, MtI e w base rs ts → rs.length = ts.length
  | [], [], _ => rfl
  | [], _ :: _, h => h.elim
  | _ :: _, [], h => h.elim
  | _ :: _, _ :: _, h => by simp [MtI.len h.2]
theorem MtI.snoc {r : Ri} {t : Ti} (h : TrOkI e w base r t) : ∀ {rs : List Ri} {ts : List Ti}, MtI e w base rs ts → MtI e w base (rs ++ [r]) (ts ++ [t])
  | [], [], _ => ⟨h, trivial⟩
  | [], _ :: _, h' => h'.elim
  | _ :: _, [], h' => h'.elim
  | _ :: _, _ :: _, h' => ⟨h'.1, MtI.snoc h h'.2⟩
theorem MtI.keep (hk : ∀ (v : Value) (l : List Ai), Own w base e 3 aic v l → Own w' base e 3 aic v l) : ∀ {rs : List Ri} {ts : List Ti}, MtI e w base rs ts → MtI e w' base rs ts
  | [], [], _ => trivial
  | [], _ :: _, h => h.elim
  | _ :: _, [], h => h.elim
  | _ :: _, _ :: _, h => ⟨⟨h.1.1, h.1.2.1, h.1.2.2.1, hk _ _ h.1.2.2.2⟩, MtI.keep hk h.2⟩
theorem MtI.get : ∀ {rs : List Ri} {ts : List Ti}, MtI e w base rs ts → ∀ {i : Nat} {t : Ti}, ts[i]? = some t → ∃ r, rs[i]? = some r ∧ TrOkI e w base r t
  | [], [], _, i, t, ht => by simp at ht
  | [], _ :: _, h, _, _, _ => h.elim
  | _ :: _, [], h, _, _, _ => h.elim
  | r :: _, _ :: _, h, 0, t, ht => ⟨r, rfl, by simp at ht; exact ht ▸ h.1⟩
  | _ :: _, _ :: _, h, i + 1, t, ht => MtI.get h.2 (i := i) (by simpa using ht)
end
theorem rdI_ofI {e eT : TypeId} {w : World} {base n cap : Nat} {A : Option Addr} {rows : List Ri} {L : List Ti} (hO : Own w base eT 4 ric (.slice A n cap) rows) (hM : MtI e w base rows L) : n = L.length ∧ RdI w w.heap.size A L := by
  refine ⟨by rw [hO.len, hM.len], fun i y hy => ?_⟩
  obtain ⟨r, hr, h1, h2, h3, h4⟩ := hM.get hy
  obtain ⟨A1, n1, cap1, he, hn, hrd⟩ := hO.rd ric_len
  injection he with e1 e2 e3
  subst e1
  obtain ⟨b, off, hA, hb, hc⟩ := hrd i r hr
  obtain ⟨A2, n2, cap2, he2, hn2, hrd2⟩ := h4.rd aic_len
  injection he2 with e4 e5 e6
  refine ⟨b, off, A2, cap2, hA, hb, ?_, ?_, ?_, ?_, hrd2⟩
  · have := hc 0 _ rfl
    simpa [h1] using this
  · have := hc 1 _ rfl
    simpa [h2] using this
  · have := hc 2 _ rfl
    rw [this, e4, e5, e6, hn2]
  · have := hc 3 _ rfl
    rw [this, h3]

end Go.Proofs.YtaglmkjkmhpifaaGreatDoor
