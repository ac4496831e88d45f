/- Chapter 41: Find; attr; remark. -/
import Derived.Test.YtcblakflhheepaaTagC
namespace Go.Proofs.Ytcblakflhheepaa
open Go.RowKit
set_option linter.unusedVariables false
set_option linter.unusedSimpArgs false

/-- An attribute: its name, its value, its place. -/
abbrev Av := ByteArray × ByteArray × Nat
abbrev avc (a : Av) : List Value := [.string a.1, .string a.2.1, .int .i64 a.2.2]
theorem avc_len (a : Av) : (avc a).length = 3 := rfl
theorem Rd.av {w : World} {B : Nat} {A : Option Addr} {l : List Av} (h : Rd w B 3 avc A l) {i : Nat} {x : Av} (hx : l[i]? = some x) :
    ∃ b off, A = some ⟨b, off, none⟩ ∧ b < B ∧ w.cell? ⟨b, off + i * 3, none⟩ = some (.string x.1) ∧ w.cell? ⟨b, off + i * 3 + 1, none⟩ = some (.string x.2.1) ∧ w.cell? ⟨b, off + i * 3 + 2, none⟩ = some (.int .i64 x.2.2) := by
  obtain ⟨b, off, hA, hb, h⟩ := h i x hx
  exact ⟨b, off, hA, hb, by simpa using h 0 _ rfl, h 1 _ rfl, h 2 _ rfl⟩

def fndS : List Av → ByteArray → ByteArray × Bool
  | [], _ => (⟨#[]⟩, false)
  | a :: l, n => if a.1 = n then (a.2.1, true) else fndS l n

theorem bytes_eq {a b : ByteArray} : a.toList = b.toList ↔ a = b := by
  constructor
  · intro h
    rw [Lib.toList_data, Lib.toList_data] at h
    exact ByteArray.ext (Array.toList_inj.1 h)
  · intro h; rw [h]

set_option maxRecDepth 100000 in
set_option maxHeartbeats 2000000 in
theorem find_any (A : Option Addr) (cap : Nat) (l : List Av) (B : Nat) (kd at_ : Int) (nm n : ByteArray) (w : World) (hB : B ≤ w.heap.size) (h : Rd w B 3 avc A l) (hl : l.length ≤ 5000000) :
    Calls Try.prog 30 #[.agg #[.int .i64 kd, .string nm, .slice A l.length cap, .int .i64 at_], .string n] w
      fun e w' => e = .returned (.tuple #[.string (fndS l n).1, .bool (fndS l n).2]) ∧ Below w.heap.size w w' := by
  go_enter Try.func30, Try.ntmps30
  go_wp2
  go_loopw [11] (fun i wr => ∃ k : Nat, k ≤ l.length ∧ i = .int .i64 k ∧ Below w.heap.size w wr ∧ fndS l n = fndS (l.drop k) n) (fun i _ => l.length - (intOf i).toNat)
  case atStart => exact ⟨0, Nat.zero_le _, rfl, (by repeat (first | exact Below.refl _ _ | refine Below.alloc ?_ (by first | (simp; omega) | simp | omega) _ | refine drewN_below ?_ _ | refine Below.drew ?_)), rfl⟩
  case round =>
    obtain ⟨k, hk, rfl, hb, hf⟩ := hrel
    by_cases hlt : k < l.length
    · obtain ⟨x, hx⟩ := get_of_lt hlt
      obtain ⟨b, off, rfl, hbB, c0, c1, c2⟩ := (h.below (hb.mono hB)).av hx
      have hf2 : fndS l n = if x.1 = n then (x.2.1, true) else fndS (l.drop (k + 1)) n := by rw [hf, drop_step hx]; rfl
      have HF := hide hf2
      clear hf hf2 hx
      go_wp2
      · rename_i he
        go_ret2
        rw [HF.out, if_pos (bytes_eq.1 (by simpa using he))]
        exact ⟨rfl, (by have hsz := (hb).size; repeat (first | exact hb | refine Below.alloc ?_ (by first | (simp; omega) | simp | omega) _ | refine drewN_below ?_ _ | refine Below.drew ?_))⟩
      · rename_i he
        go_roundw
        case rel => exact ⟨k + 1, by omega, by go_num, (by have hsz := (hb).size; repeat (first | exact hb | refine Below.alloc ?_ (by first | (simp; omega) | simp | omega) _ | refine drewN_below ?_ _ | refine Below.drew ?_)), by rw [HF.out, if_neg (fun e => by rw [e] at he; simp at he)]⟩
        case measure => simp [intOf]; omega
    · have HF : Hid (fndS l n = (⟨#[]⟩, false)) := by
        show fndS l n = _
        rw [hf, List.drop_eq_nil_of_le (by omega)]; rfl
      clear hf
      go_wp2
      go_ret2
      rw [HF.out]
      exact ⟨rfl, hb⟩

theorem infoAttr : (Try.prog.info? 62).map (fun i => (i.zero, i.size, i.bytes)) = some (some (.agg #[.string ⟨#[]⟩, .string ⟨#[]⟩, .int .i64 0]), 3, 40) := by kernel_rfl
theorem avc_one (x : Av) : ∀ u ∈ avc x, u.oneCell' = true := by
  intro u hu
  simp at hu
  rcases hu with rfl | rfl | rfl <;> rfl

def attrL (l : List Av) (s : ByteArray) (k : Nat) : Except (Nat × Nat) (Av × Nat) :=
  match nameL s k with
  | .error e => .error e
  | .ok (n, k1) => if (fndS l n).2 then .error (k, 17) else
    match mustL s k1 [61, 34] with
    | .error e => .error e
    | .ok k2 =>
      match mustL s (endB plaB s k2) [34] with
      | .error e => .error e
      | .ok k4 => .ok ((n, s.extract k2 (endB plaB s k2), k), k4)

theorem mustL_le {s : ByteArray} : ∀ {l : List UInt8} {k k' : Nat}, mustL s k l = .ok k' → k ≤ s.size → k ≤ k' ∧ k' ≤ s.size
  | [], k, k', h, hk => by
    injection h with h
    omega
  | c :: cs, k, k', h, hk => by
    unfold mustL at h
    split at h
    · rename_i hc
      simp [isB] at hc
      have := mustL_le h (by omega)
      omega
    · cases h
theorem nameL_le {s : ByteArray} {k : Nat} {a : ByteArray × Nat} (h : nameL s k = .ok a) (hk : k ≤ s.size) : k < a.2 ∧ a.2 ≤ s.size := by
  unfold nameL at h
  split at h
  · rename_i hc
    injection h with h
    subst h
    have h1 := endB_step hc
    have h2 := endB_ge letB s (k + 1)
    exact ⟨by simp; omega, endB_le _ _ _ hk⟩
  · cases h

/-- How attr ends: the tag's row has grown by an attribute. -/
def AttrEnd (base X T : Nat) (s : ByteArray) (kd at_ : Int) (nm : ByteArray) (l : List Av) (w : World) (r : Except (Nat × Nat) (Av × Nat)) (e : Ending) (w' : World) : Prop :=
  match r with
  | .ok (a, k) => e = .returned (.tuple #[]) ∧ Blk w' X 82 (scn s k) ∧ (∃ v, Blk w' T 60 #[.int .i64 kd, .string nm, v, .int .i64 at_] ∧ Own w' base 62 3 avc v (l ++ [a])) ∧ But base X w w'
  | .error (p, c) => e = .panicked (wrongP p c) ∧ But base X w w'

set_option maxRecDepth 100000 in
set_option maxHeartbeats 4000000 in
theorem attr_any (base X T : Nat) (s : ByteArray) (k : Nat) (kd at_ : Int) (nm : ByteArray) (v : Value) (l : List Av) (hs : s.size ≤ 5000000) (hk : k ≤ s.size) (hl : l.length ≤ 5000000) (w : World) (hX : Blk w X 82 (scn s k))
    (hT : Blk w T 60 #[.int .i64 kd, .string nm, v, .int .i64 at_]) (hO : Own w base 62 3 avc v l) (hb : base ≤ T) (hXb : X < base) :
    Calls Try.prog 98 #[.pointer (some ⟨X, 0, none⟩), .pointer (some ⟨T, 0, none⟩)] w (AttrEnd base X T s kd at_ nm l w (attrL l s k)) := by
  have hXl := hX.lt
  have hTl := hT.lt
  have c1 := hX.cell 1
  simp at c1
  obtain ⟨A, n0, cap, rfl, hn0, hrd⟩ := hO.rd avc_len
  subst hn0
  have hne : X ≠ T := by omega
  have hvb : ∀ q, (Value.slice A l.length cap).ownBlock = some q → base ≤ q ∧ q < w.heap.size := hO.lt
  have hbs : base ≤ w.heap.size := by omega
  go_enter Try.func98, Try.ntmps98
  go_wp2_with (fail)
  refine (name_any X s k hs hk _ (hX.alloc _)).mono ?_
  cases hn : nameL s k with
  | error e =>
    obtain ⟨p, c⟩ := e
    rintro e w1 ⟨rfl, hb1⟩
    refine ⟨rfl, ?_⟩
    have hr : attrL l s k = .error (p, c) := by simp [attrL, hn]
    rw [hr]
    exact ⟨rfl, ((But.refl base X w).alloc hbs _).trans hb1 (by simp; omega)⟩
  | ok a =>
    obtain ⟨n, k1⟩ := a
    rintro e w1 ⟨rfl, hB1, hb1⟩
    dsimp only at hB1
    have hk1 := nameL_le hn hk
    dsimp only at hk1
    have hA1 := (Blk.new w 62 #[.string ⟨#[]⟩, .string ⟨#[]⟩, .int .i64 k]).but hb1 (by simp) (by omega)
    have hT1 := (hT.alloc _).but hb1 (by simp; omega) (Ne.symm hne)
    have hO1 := (hO.alloc _).but hb1 (fun q hq => ⟨by simp; have := hvb q hq; omega, by have := hvb q hq; omega⟩)
    have hw1 := ((But.refl base X w).alloc hbs _).trans hb1 (by simp; omega)
    have hs1 : w.heap.size < w1.heap.size := hA1.lt
    have c0 := hA1.cell 0
    have c2 := hA1.frozen 0
    have HN := hide hn
    clear hn hb1 c1
    simp at c0
    go_wp2
    have hA2 := hA1.set_ 0 (.string n)
    have hX2 := hB1.far (p := ⟨w.heap.size, 0, none⟩) (by dsimp only; omega) (.string n)
    have hT2 := hT1.far (p := ⟨w.heap.size, 0, none⟩) (by dsimp only; omega) (.string n)
    have hO2 := hO1.setCell (p := ⟨w.heap.size, 0, none⟩) (fun e => by have := hvb _ e; dsimp only at this; omega) (.string n)
    have hw2 := hw1.setCell (p := ⟨w.heap.size, 0, none⟩) hbs (.string n)
    have hs2 : (w1.setCell ⟨w.heap.size, 0, none⟩ (.string n)).heap.size = w1.heap.size := by simp
    generalize w1.setCell ⟨w.heap.size, 0, none⟩ (.string n) = w2 at *
    clear hA1 hB1 hT1 hO1 hw1 c0 c2
    simp at hA2
    obtain ⟨fv, fb, hfb⟩ : ∃ fv fb, fndS l n = (fv, fb) := ⟨_, _, rfl⟩
    obtain ⟨A', n', cap', hv', -, hrd2⟩ := hO2.rd avc_len
    injection hv' with e1 e2 e3
    subst e1; subst e2; subst e3
    have hfind : Hid (∀ wz : World, Below w2.heap.size w2 wz → Calls Try.prog 30 #[.agg #[.int .i64 kd, .string nm, .slice A l.length cap, .int .i64 at_], .string n] wz fun e w' => e = .returned (.tuple #[.string fv, .bool fb]) ∧ Below w2.heap.size wz w') := by
      intro wz hz
      refine (find_any A cap l w2.heap.size kd at_ nm n wz hz.size (hrd2.below hz) hl).mono ?_
      rintro e w' ⟨rfl, h⟩
      rw [hfb]
      exact ⟨rfl, h.mono hz.size⟩
    have HF := hide hfb
    clear hfb hrd hrd2
    have a0 := hA2.cell 0
    have t0 := hT2.cell 0
    have t1 := hT2.cell 1
    have t2 := hT2.cell 2
    have t3 := hT2.cell 3
    simp at a0 t0 t1 t2 t3
    have hs3 : T < w2.heap.size := hT2.lt
    have hs4 : w.heap.size < w2.heap.size := hA2.lt
    have hs3b : T < w1.heap.size := by omega
    go_region_held3 (fun w' => Below (w2.heap.size) (w2) w' ∧ (∀ b o, b < w2.heap.size → w'.cell? ⟨b, o, none⟩ = (w2).cell? ⟨b, o, none⟩) ∧ (∀ b o, b < w2.heap.size → w'.frozen? ⟨b, o, none⟩ = (w2).frozen? ⟨b, o, none⟩))
      (first | exact held_refl _ _ | exact held_drew | exact held_trans (by assumption) hb3 (Nat.le_refl _))
      (first | (go_at_call 30; refine (hfind.out _ (by first | exact Below.refl _ _ | exact (Below.refl _ _).drew | exact And.left (by assumption))).mono ?_; rintro e w3 ⟨rfl, hb3⟩))
    obtain ⟨hW, -, -⟩ : Below w2.heap.size w2 w3 ∧ _ ∧ _ := by assumption
    have hs5 := hW.size
    have hA3 := hA2.below hW hs4
    have hX3 := hX2.below hW hX2.lt
    have hT3 := hT2.below hW hs3
    have hO3 := hO2.below hW (fun q hq => (hO2.lt q hq).2)
    have hw3 := hw2.trans (But.of hW X) (by omega)
    have a2w := hA2.cell 2
    simp at a2w
    clear hA2 hX2 hT2 hO2 hw2 a0 t0 t1 t2 t3 hb3 hfind
    have a2 := hA3.cell 2
    simp at a2
    cases fb with
    | true =>
      have hr : attrL l s k = .error (k, 17) := by simp [attrL, HN.out, HF.out]
      have HR := hide hr
      clear hr
      go_wp2_with (fail)
      refine (fail_any _ _ _ _).mono ?_
      rintro e w4 ⟨rfl, rfl⟩
      refine ⟨rfl, ?_⟩
      rw [HR.out]
      exact ⟨rfl, hw3⟩
    | false =>
      go_wp2_with (fail)
      have hm : Calls Try.prog 61 #[.pointer (some ⟨X, 0, none⟩), .string ⟨#[61, 34]⟩] w3 (EndX w3.heap.size X s w3 (mustL s k1 [61, 34]) (fun _ => .tuple #[]) id) := must_any X s ⟨#[61, 34]⟩ k1 hs (by decide) hk1.2 w3 hX3
      refine hm.mono ?_
      clear hm
      cases hm1 : mustL s k1 [61, 34] with
      | error e =>
        obtain ⟨p, c⟩ := e
        rintro e w4 ⟨rfl, hb4⟩
        refine ⟨rfl, ?_⟩
        have hr : attrL l s k = .error (p, c) := by simp [attrL, HN.out, HF.out, hm1]
        rw [hr]
        exact ⟨rfl, hw3.trans hb4 (by omega)⟩
      | ok k2 =>
        rintro e w4 ⟨rfl, hX4, hb4⟩
        dsimp only [id] at hX4
        have hk2 := mustL_le hm1 hk1.2
        have hA4 := hA3.but hb4 hA3.lt (by omega)
        have hT4 := hT3.but hb4 hT3.lt (Ne.symm hne)
        have hO4 := hO3.but hb4 (fun q hq => ⟨(hO3.lt q hq).2, by have := hvb q hq; omega⟩)
        have hw4 := hw3.trans hb4 (by omega)
        have hs6 := hb4.size
        have HM1 := hide hm1
        clear hm1 a2w hA3 hT3 hO3 hw3 hb4 a2
        go_wp2_with (fail)
        refine (all_any X 75 plaB (.inr (.inr ⟨rfl, rfl⟩)) s k2 hs hk2.2 w4 hX4).mono ?_
        rintro e w5 ⟨rfl, hX5, hb5⟩
        have hA5 := hA4.but hb5 hA4.lt (by omega)
        have hT5 := hT4.but hb5 hT4.lt (Ne.symm hne)
        have hO5 := hO4.but hb5 (fun q hq => ⟨(hO4.lt q hq).2, by have := hvb q hq; omega⟩)
        have hw5 := hw4.trans hb5 (by omega)
        have hs7 := hb5.size
        have hke := endB_le plaB s k2 hk2.2
        clear hA4 hT4 hO4 hw4 hb5
        have c1 := hA5.cell 1
        have c2 := hA5.frozen 1
        simp at c1
        go_wp2_with (fail)
        have hA6 := hA5.set_ 1 (.string (s.extract k2 (endB plaB s k2)))
        have hX6 := hX5.far (p := ⟨w.heap.size, 1, none⟩) (by dsimp only; omega) (.string (s.extract k2 (endB plaB s k2)))
        have hT6 := hT5.far (p := ⟨w.heap.size, 1, none⟩) (by dsimp only; omega) (.string (s.extract k2 (endB plaB s k2)))
        have hO6 := hO5.setCell (p := ⟨w.heap.size, 1, none⟩) (fun e => by have := hvb _ e; dsimp only at this; omega) (.string (s.extract k2 (endB plaB s k2)))
        have hw6 := hw5.setCell (p := ⟨w.heap.size, 1, none⟩) hbs (.string (s.extract k2 (endB plaB s k2)))
        have hs8 : (w5.setCell ⟨w.heap.size, 1, none⟩ (.string (s.extract k2 (endB plaB s k2)))).heap.size = w5.heap.size := by simp
        generalize w5.setCell ⟨w.heap.size, 1, none⟩ (.string (s.extract k2 (endB plaB s k2))) = w6 at *
        clear hA5 hX5 hT5 hO5 hw5 c1 c2
        simp at hA6
        have hm : Calls Try.prog 61 #[.pointer (some ⟨X, 0, none⟩), .string ⟨#[34]⟩] w6 (EndX w6.heap.size X s w6 (mustL s (endB plaB s k2) [34]) (fun _ => .tuple #[]) id) := must_any X s ⟨#[34]⟩ _ hs (by decide) hke w6 hX6
        refine hm.mono ?_
        clear hm
        cases hm2 : mustL s (endB plaB s k2) [34] with
        | error e =>
          obtain ⟨p, c⟩ := e
          rintro e w7 ⟨rfl, hb7⟩
          refine ⟨rfl, ?_⟩
          have hr : attrL l s k = .error (p, c) := by simp [attrL, HN.out, HF.out, HM1.out, hm2]
          rw [hr]
          exact ⟨rfl, hw6.trans hb7 (by omega)⟩
        | ok k4 =>
          rintro e w7 ⟨rfl, hX7, hb7⟩
          dsimp only [id] at hX7
          have hA7 := hA6.but hb7 hA6.lt (by omega)
          have hT7 := hT6.but hb7 hT6.lt (Ne.symm hne)
          have hO7 := hO6.but hb7 (fun q hq => ⟨(hO6.lt q hq).2, by have := hvb q hq; omega⟩)
          have hw7 := hw6.trans hb7 (by omega)
          have hs9 := hb7.size
          have hr : attrL l s k = .ok ((n, s.extract k2 (endB plaB s k2), k), k4) := by simp [attrL, HN.out, HF.out, HM1.out, hm2]
          have HR := hide hr
          clear hr hm2 hA6 hT6 hO6 hw6 hb7
          have a0 := hA7.cell 0
          have a1 := hA7.cell 1
          have a2 := hA7.cell 2
          have t2 := hT7.cell 2
          have t3 := hT7.frozen 2
          have t4 : T < w7.heap.size := hT7.lt
          have t5 : w.heap.size < w7.heap.size := hA7.lt
          simp at a0 a1 a2 t2
          have HO := hide hO7
          have HT := hide hT7
          clear hO7 hT7
          go_wp2_with (fail)
          go_region_law ((refine step_append1 _ (by rfl) (.tmp 40) (.tmp 42) 58 (by rfl) Try.underlying58 infoAttr (by rfl) (by decide) avc_len avc_one (base := base) (v := .slice A l.length cap) (l := l) (by rfl) (by repeat (first | exact HO.out | refine Own.alloc ?_ _ | refine Own.drewN ?_ _ | refine Own.drew ?_)) (n, s.extract k2 (endB plaB s k2), k) w7.heap.size 1 (by rfl) ⟨_, _, heap_new_at (by simp)⟩ (by omega) (by omega) (by simp; omega) ?_; intro g capn w8 hO8 hg8 hat8 hlt8; obtain ⟨d1, d2, D3, D4, D5⟩ := own_store_back (k := 2) (w := w7) (B := base) (t := 60) (cs := #[.int .i64 kd, .string nm, .slice A l.length cap, .int .i64 at_]) (by repeat (first | exact Below.refl _ _ | refine Below.alloc ?_ (by first | (simp; omega) | simp | omega) _ | refine drewN_below ?_ _ | refine Below.drew ?_)) (by repeat (first | exact HT.out | refine Blk.alloc ?_ _ | refine Blk.drewN ?_ _ | refine Blk.drew ?_)) hO8 hg8 (own_blk_ne HO.out HT.out (by decide)) (fun q hq => (hvb q hq).1) (by decide) (by simp; omega) hb; clear hO8 hg8 hat8; simp at d1))
          all_goals
            refine bodyPost_end (results_none rfl _ _ _) rfl ?_
            rw [HR.out]
            exact ⟨rfl, hX7.below D5 hXb, ⟨_, by simpa using D3, D4⟩, hw7.trans (But.of D5 X) (Nat.le_refl _)⟩

end Go.Proofs.Ytcblakflhheepaa
