/- Chapter 43: the parser: fits, super, close. -/
import Derived.Test.YtcblakflhheepaaParD
namespace Go.Proofs.Ytcblakflhheepaa
open Go.RowKit
set_option linter.unusedVariables false
set_option linter.unusedSimpArgs false

/-- The parser's state. -/
structure Ps where
  tx : Int
  time : Int
  unit : Int
  data : Int
  devs : List Dv
  mapped : Int
  next : Int
  sum : Int
  inside : ByteArray
  ended : Bool
abbrev prs (s : Ps) (v : Value) (K : Nat) : Array Value := #[.int .i64 s.tx, .int .i64 s.time, .int .i64 s.unit, .int .i64 s.data, v, .map (some K), .int .i64 s.mapped, .int .i64 s.next, .int .i64 s.sum, .string s.inside, .bool s.ended]
def PS (base X K : Nat) (s : Ps) (w : World) : Prop := X < base ∧ base ≤ w.heap.size ∧ ∃ v, Blk w X 110 (prs s v K) ∧ DV w base v s.devs
/-- How a step of the parser ends. -/
def StOut (base X K : Nat) (w : World) (r : Except (Int × Int) Ps) (e : Ending) (w' : World) : Prop :=
  match r with
  | .ok s' => e = .returned (.agg #[.int .i64 0, .int .i64 0]) ∧ PS base X K s' w' ∧ Bt base X w w'
  | .error (p, c) => e = .returned (.agg #[.int .i64 p, .int .i64 c]) ∧ Bt base X w w'

def isDev (nm : ByteArray) : Bool := nm.toList == [100, 101, 118, 105, 99, 101]
def isSin (nm : ByteArray) : Bool := nm.toList == [115, 105, 110, 103, 108, 101, 95, 109, 97, 112, 112, 105, 110, 103]
def isRng (nm : ByteArray) : Bool := nm.toList == [114, 97, 110, 103, 101, 95, 109, 97, 112, 112, 105, 110, 103]
def fitsP (s : Ps) (kd : Int) (nm : ByteArray) : Bool :=
  if s.ended then false else if kd = 2 then nm.toList == s.inside.toList else if isSup nm then s.inside.toList.isEmpty else if isDev nm then isSup s.inside
  else if isSin nm || isRng nm then isDev s.inside && decide (kd = 3) else false
set_option maxRecDepth 100000 in
set_option maxHeartbeats 4000000 in
theorem fits_any (base X K : Nat) (s : Ps) (kd at_ : Int) (nm : ByteArray) (v : Value) (w : World) (h : PS base X K s w) (f : Bool) (hf : fitsP s kd nm = f) :
    Calls Try.prog 79 #[.pointer (some ⟨X, 0, none⟩), .agg #[.int .i64 kd, .string nm, v, .int .i64 at_]] w fun e w' => e = .returned (.bool f) ∧ Below w.heap.size w w' := by
  obtain ⟨hXb, hb, vv, hX, hD⟩ := h
  have hXl : X < w.heap.size := by omega
  obtain ⟨s1, s2, s3, s4, sd, s6, s7, s8, ins, en⟩ := s
  unfold fitsP at hf
  dsimp only at hX hf hD
  have x9 := hX.cell 9
  have x10 := hX.cell 10
  simp at x9 x10
  have hW : Below w.heap.size w (w.alloc (.cells #[.int .i64 kd, .string nm, v, .int .i64 at_] 60)) := (by repeat (first | exact Below.refl _ _ | refine Below.alloc ?_ (by first | (simp; omega) | simp | omega) _ | refine drewN_below ?_ _ | refine Below.drew ?_))
  have hWd := hW.drew
  clear hX hD
  cases en with
  | true =>
    have H := hide (show f = false by simpa using hf.symm)
    clear hf
    go_enter Try.func79, Try.ntmps79
    go_wp2
    go_ret
    exact ⟨by rw [H.out]; rfl, hW⟩
  | false =>
    simp only [Bool.false_eq_true, if_false] at hf
    by_cases hk : kd = 2
    · subst hk
      rw [if_pos rfl] at hf
      have H := hide hf
      clear hf
      go_enter Try.func79, Try.ntmps79
      go_wp2
      go_region
      go_wp2
      go_ret
      exact ⟨by rw [← H.out]; rfl, hWd⟩
    · rw [if_neg hk] at hf
      have k2 : (kd == 2) = false := by simpa using hk
      clear hk
      obtain ⟨b1, h1⟩ : ∃ b, isSup nm = b := ⟨_, rfl⟩
      obtain ⟨b2, h2⟩ : ∃ b, isDev nm = b := ⟨_, rfl⟩
      obtain ⟨b3, h3⟩ : ∃ b, isSin nm = b := ⟨_, rfl⟩
      obtain ⟨b4, h4⟩ : ∃ b, isRng nm = b := ⟨_, rfl⟩
      rw [h1, h2, h3, h4] at hf
      unfold isSup at h1
      unfold isDev at h2
      unfold isSin at h3
      unfold isRng at h4
      cases b1 with
      | true =>
        have H := hide (show ins.toList.isEmpty = f by simpa using hf)
        clear hf
        go_enter Try.func79, Try.ntmps79
        go_wp2
        go_ret
        exact ⟨by rw [← H.out]; rfl, hW⟩
      | false =>
        cases b2 with
        | true =>
          have H := hide (show isSup ins = f by simpa using hf)
          clear hf
          go_enter Try.func79, Try.ntmps79
          go_wp2
          go_ret
          exact ⟨by rw [← H.out]; rfl, hW⟩
        | false =>
          by_cases h34 : (b3 || b4) = true
          · have hf2 : (isDev ins && decide (kd = 3)) = f := by simpa [h34] using hf
            obtain ⟨d1, hd1⟩ : ∃ b, isDev ins = b := ⟨_, rfl⟩
            obtain ⟨d2, hd2⟩ : ∃ b, decide (kd = 3) = b := ⟨_, rfl⟩
            have hd2' : (kd == 3) = d2 := by rw [← hd2]; rfl
            rw [hd1, hd2] at hf2
            unfold isDev at hd1
            have H := hide hf2
            clear hf hf2 hd2
            have hc : b3 = true ∨ (b3 = false ∧ b4 = true) := by cases b3 <;> cases b4 <;> simp_all
            rcases hc with rfl | ⟨rfl, rfl⟩
            all_goals
              cases d1
              all_goals
                go_enter Try.func79, Try.ntmps79
                go_wp2
                go_ret
                exact ⟨by rw [← H.out]; rfl, hW⟩
          · have hb3 : b3 = false := by cases b3 <;> simp_all
            have hb4 : b4 = false := by cases b4 <;> simp_all
            subst hb3; subst hb4
            have H := hide (show f = false by simpa using hf.symm)
            clear hf h34
            go_enter Try.func79, Try.ntmps79
            go_wp2
            go_ret
            exact ⟨by rw [H.out]; rfl, hW⟩

theorem fin_ok {base X K F : Nat} {s : Ps} {v : Value} {w w5 : World} {x y : Value} (hX : Blk w5 X 110 (prs s v K)) (hD : DV w5 base v s.devs) (hb : Bt base X w w5) (hF : Blk w5 F 112 #[x, y]) (hXb : X < base) (hBF : base ≤ F ∧ w.heap.size ≤ F) (a b : Value) :
    ((w5.setCell ⟨F, 0, none⟩ a).setCell ⟨F, 1, none⟩ b).cell? ⟨F, 0, none⟩ = some a ∧ ((w5.setCell ⟨F, 0, none⟩ a).setCell ⟨F, 1, none⟩ b).cell? ⟨F, 1, none⟩ = some b ∧
      PS base X K s ((w5.setCell ⟨F, 0, none⟩ a).setCell ⟨F, 1, none⟩ b) ∧ Bt base X w ((w5.setCell ⟨F, 0, none⟩ a).setCell ⟨F, 1, none⟩ b) := by
  have h2 := (hF.set_ 0 a).set_ 1 b
  have hFl := hF.lt
  refine ⟨by simpa using h2.cell 0, by simpa using h2.cell 1, ⟨hXb, by simp; omega, v, ?_, ?_⟩, ?_⟩
  · exact (hX.far (p := ⟨F, 0, none⟩) (by dsimp only; omega) a).far (p := ⟨F, 1, none⟩) (by dsimp only; omega) b
  · exact (hD.set_ hF (by decide) (by decide) a).set_ (hF.set_ 0 a) (by decide) (by decide) b
  · exact (hb.setCell (p := ⟨F, 0, none⟩) hBF a).setCell (p := ⟨F, 1, none⟩) hBF b
theorem fin_err {base X F : Nat} {w w5 : World} {x y : Value} (hb : Bt base X w w5) (hF : Blk w5 F 112 #[x, y]) (hBF : base ≤ F ∧ w.heap.size ≤ F) (a b : Value) :
    ((w5.setCell ⟨F, 0, none⟩ a).setCell ⟨F, 1, none⟩ b).cell? ⟨F, 0, none⟩ = some a ∧ ((w5.setCell ⟨F, 0, none⟩ a).setCell ⟨F, 1, none⟩ b).cell? ⟨F, 1, none⟩ = some b ∧ Bt base X w ((w5.setCell ⟨F, 0, none⟩ a).setCell ⟨F, 1, none⟩ b) := by
  have h2 := (hF.set_ 0 a).set_ 1 b
  exact ⟨by simpa using h2.cell 0, by simpa using h2.cell 1, (hb.setCell (p := ⟨F, 0, none⟩) hBF a).setCell (p := ⟨F, 1, none⟩) hBF b⟩
theorem fin_errd {base X F : Nat} {w w5 : World} {x y : Value} (hb : Bt base X w w5) (hF : Blk w5 F 112 #[x, y]) (hBF : base ≤ F ∧ w.heap.size ≤ F) (a b : Value) :
    ((w5.setCell ⟨F, 0, none⟩ a).setCell ⟨F, 1, none⟩ b).drew.cell? ⟨F, 0, none⟩ = some a ∧ ((w5.setCell ⟨F, 0, none⟩ a).setCell ⟨F, 1, none⟩ b).drew.cell? ⟨F, 1, none⟩ = some b ∧ Bt base X w ((w5.setCell ⟨F, 0, none⟩ a).setCell ⟨F, 1, none⟩ b).drew := by
  obtain ⟨h1, h2, h3⟩ := fin_err hb hF hBF a b
  exact ⟨h1, h2, h3.drew⟩
/-- The number of a name. -/
def gv (out : List (ByteArray × Int)) (s : ByteArray) : Int := (assoc s out).getD 0
theorem look_gv {w : World} {b : Nat} {out : List (ByteArray × Int)} (h : MapAt w b (iv out)) (s : ByteArray) : (Instr.lookup 138 (.map (some b)) (.string s) false).run Try.prog w = .ok (.int .i64 (gv out s)) w := by
  have h1 := h.look (s := s) Try.underlying138 Try.underlying9 (zeroInt64 _) false
  have h2 : assoc s (iv out) = (assoc s out).map fun x => .int .i64 x := assoc_map (fun x : Int => Value.int .i64 x) s out
  rw [h2] at h1
  simp only [Bool.false_eq_true, if_false] at h1
  rw [h1]
  unfold gv
  cases assoc s out <;> rfl
def superP (s : Ps) (kd : Int) (out : List (ByteArray × Int)) : Ps :=
  { s with tx := gv out sTx, time := gv out sTime, unit := gv out sUnit, data := gv out sData, devs := [], inside := sSuper, ended := decide (kd = 3) }
set_option maxRecDepth 100000 in
set_option maxHeartbeats 4000000 in
theorem super_any (base X K b : Nat) (s : Ps) (kd at_ : Int) (nm : ByteArray) (v : Value) (out : List (ByteArray × Int)) (w : World) (h : PS base X K s w) (hm : MapAt w b (iv out)) (hbX : b ≠ X) :
    Calls Try.prog 83 #[.pointer (some ⟨X, 0, none⟩), .agg #[.int .i64 kd, .string nm, v, .int .i64 at_], .map (some b)] w (StOut base X K w (.ok (superP s kd out))) := by
  obtain ⟨hXb, hb, vv, hX, hD⟩ := h
  have hXl : X < w.heap.size := by omega
  have hml := hm.lt
  obtain ⟨s1, s2, s3, s4, sd, s6, s7, s8, ins, en⟩ := s
  dsimp only at hX hD
  have hX2 := (hX.alloc (.cells #[.int .i64 kd, .string nm, v, .int .i64 at_] 60)).alloc (.cells #[.int .i64 0, .int .i64 0] 112)
  have hm2 := (hm.alloc (.cells #[.int .i64 kd, .string nm, v, .int .i64 at_] 60)).alloc (.cells #[.int .i64 0, .int .i64 0] 112)
  have l1 := look_gv hm2 sTx
  have l2 := look_gv hm2 sTime
  have l3 := look_gv hm2 sUnit
  have l4 := look_gv hm2 sData
  have hF2 : Blk ((w.alloc (.cells #[.int .i64 kd, .string nm, v, .int .i64 at_] 60)).alloc (.cells #[.int .i64 0, .int .i64 0] 112)) (w.heap.size + 1) 112 #[.int .i64 0, .int .i64 0] := heap_new_at (by simp)
  have x0 := hX.cell 0
  have x1 := hX.cell 1
  have x2 := hX.cell 2
  have x3 := hX.cell 3
  have x4 := hX.cell 4
  have x9 := hX.cell 9
  have x10 := hX.cell 10
  have f0 := hX.frozen 0
  have f1 := hX.frozen 1
  have f2 := hX.frozen 2
  have f3 := hX.frozen 3
  have f4 := hX.frozen 4
  have f9 := hX.frozen 9
  have f10 := hX.frozen 10
  simp at x0 x1 x2 x3 x4 x9 x10
  go_enter Try.func83, Try.ntmps83
  go_wp2_with (fail)
  have hk3 : (kd == 3) = decide (kd = 3) := rfl
  have hX7 := ((((((hX.set_ 0 (.int .i64 (gv out sTx))).set_ 1 (.int .i64 (gv out sTime))).set_ 2 (.int .i64 (gv out sUnit))).set_ 3 (.int .i64 (gv out sData))).set_ 4 (.slice none 0 0)).set_ 9 (.string sSuper)).set_ 10 (.bool (kd == 3))
  have hB7 := ((((((((Bt.refl base X w).self 0 (.int .i64 (gv out sTx))).self 1 (.int .i64 (gv out sTime))).self 2 (.int .i64 (gv out sUnit))).self 3 (.int .i64 (gv out sData))).self 4 (.slice none 0 0)).self 9 (.string sSuper)).self 10 (.bool (kd == 3)))
  have hs7 : (((((((w.setCell ⟨X, 0, none⟩ (.int .i64 (gv out sTx))).setCell ⟨X, 1, none⟩ (.int .i64 (gv out sTime))).setCell ⟨X, 2, none⟩ (.int .i64 (gv out sUnit))).setCell ⟨X, 3, none⟩ (.int .i64 (gv out sData))).setCell ⟨X, 4, none⟩ (.slice none 0 0)).setCell ⟨X, 9, none⟩ (.string sSuper)).setCell ⟨X, 10, none⟩ (.bool (kd == 3))).heap.size = w.heap.size := by simp
  generalize ((((((w.setCell ⟨X, 0, none⟩ (.int .i64 (gv out sTx))).setCell ⟨X, 1, none⟩ (.int .i64 (gv out sTime))).setCell ⟨X, 2, none⟩ (.int .i64 (gv out sUnit))).setCell ⟨X, 3, none⟩ (.int .i64 (gv out sData))).setCell ⟨X, 4, none⟩ (.slice none 0 0)).setCell ⟨X, 9, none⟩ (.string sSuper)).setCell ⟨X, 10, none⟩ (.bool (kd == 3)) = w3 at *
  have hX8 : Blk w3 X 110 (prs (superP ⟨s1, s2, s3, s4, sd, s6, s7, s8, ins, en⟩ kd out) (.slice none 0 0) K) := by simpa [superP, hk3] using hX7
  have hX9 := (hX8.alloc (.cells #[.int .i64 kd, .string nm, v, .int .i64 at_] 60)).alloc (.cells #[.int .i64 0, .int .i64 0] 112)
  have hF9 : Blk ((w3.alloc (.cells #[.int .i64 kd, .string nm, v, .int .i64 at_] 60)).alloc (.cells #[.int .i64 0, .int .i64 0] 112)) (w.heap.size + 1) 112 #[.int .i64 0, .int .i64 0] := heap_new_at (by simp [hs7])
  have hB9 := (hB7.alloc (by omega) (.cells #[.int .i64 kd, .string nm, v, .int .i64 at_] 60)).alloc (by simp; omega) (.cells #[.int .i64 0, .int .i64 0] 112)
  clear hX hX2 hm2 hF2 hX7 hX8 hB7 x0 x1 x2 x3 x4 x9 x10 f0 f1 f2 f3 f4 f9 f10 l1 l2 l3 l4 hm hD
  generalize (w3.alloc (.cells #[.int .i64 kd, .string nm, v, .int .i64 at_] 60)).alloc (.cells #[.int .i64 0, .int .i64 0] 112) = w4 at *
  refine (fine_any w4).mono ?_
  rintro e w5 ⟨rfl, hb5⟩
  have hF5 := hF9.below hb5 hF9.lt
  have hX5 := hX9.below hb5 hX9.lt
  have hB5 := hB9.trans (Bt.of hb5 X) (by have := hF9.lt; omega)
  have g0 := hF5.cell 0
  have g1 := hF5.cell 1
  have g2 := hF5.frozen 0
  have g3 := hF5.frozen 1
  have hFl := hF5.lt
  simp at g0 g1
  have hfin := hide (fin_ok (s := superP ⟨s1, s2, s3, s4, sd, s6, s7, s8, ins, en⟩ kd out) hX5 (DV.nil _ _) hB5 hF5 hXb (by omega) (.int .i64 0) (.int .i64 0))
  clear hF9 hX9 hB9 hF5 hX5 hB5 hb5
  go_wp2
  obtain ⟨q0, q1, q2, q3⟩ := hfin.out
  refine bodyPost_ret (v := .agg #[.int .i64 0, .int .i64 0]) (by simp [results, Try.results83, go_sem, q0, q1]) rfl ?_
  exact ⟨rfl, q2, q3⟩

def lastMaps (L : List Dv) : List Mp := ((L.getLast?).map (·.2.2.2.2)).getD []
def closeP (s : Ps) (at_ : Int) : Except (Int × Int) Ps := if ((lastMaps s.devs).length : Int) ≠ s.mapped then .error (at_, 13) else .ok { s with inside := sSuper }
set_option maxRecDepth 100000 in
set_option maxHeartbeats 4000000 in
theorem close_any (base X K : Nat) (s : Ps) (kd at_ : Int) (nm : ByteArray) (v : Value) (w : World) (h : PS base X K s w) (hne : s.devs ≠ []) (hdl : s.devs.length ≤ 5000000) :
    Calls Try.prog 80 #[.pointer (some ⟨X, 0, none⟩), .agg #[.int .i64 kd, .string nm, v, .int .i64 at_]] w (StOut base X K w (closeP s at_)) := by
  obtain ⟨hXb, hb, vv, hX, hD⟩ := h
  have hXl : X < w.heap.size := by omega
  obtain ⟨s1, s2, s3, s4, sd, s6, s7, s8, ins, en⟩ := s
  dsimp only at hX hD hne hdl
  obtain ⟨li, ll, rfl⟩ : ∃ li ll, sd = li ++ [ll] := by
    rcases List.eq_nil_or_concat sd with rfl | ⟨li, ll, h⟩
    · exact absurd rfl hne
    · exact ⟨li, ll, by simpa using h⟩
  obtain ⟨g, cap, β, A, n, c, rfl, hgb, hgl, hβ, hβl, c0, c4, fz, hom, -⟩ := hD.last
  obtain rfl : n = ll.2.2.2.2.length := hom.len
  have hlm : lastMaps (li ++ [ll]) = ll.2.2.2.2 := by simp [lastMaps]
  simp at hdl
  have hX2 := (hX.alloc (.cells #[.int .i64 kd, .string nm, v, .int .i64 at_] 60)).alloc (.cells #[.int .i64 0, .int .i64 0] 112)
  have hD2 := (hD.alloc (.cells #[.int .i64 kd, .string nm, v, .int .i64 at_] 60)).alloc (.cells #[.int .i64 0, .int .i64 0] 112)
  have hT2 := (Blk.new w 60 #[.int .i64 kd, .string nm, v, .int .i64 at_]).alloc (.cells #[.int .i64 0, .int .i64 0] 112)
  have hF2 : Blk ((w.alloc (.cells #[.int .i64 kd, .string nm, v, .int .i64 at_] 60)).alloc (.cells #[.int .i64 0, .int .i64 0] 112)) (w.heap.size + 1) 112 #[.int .i64 0, .int .i64 0] := heap_new_at (by simp)
  have hB2 := ((Bt.refl base X w).alloc hb (.cells #[.int .i64 kd, .string nm, v, .int .i64 at_] 60)).alloc (by simp; omega) (.cells #[.int .i64 0, .int .i64 0] 112)
  have x4 := hX.cell 4
  have x6 := hX.cell 6
  have x9 := hX.cell 9
  have f9 := hX.frozen 9
  simp at x4 x6 x9
  have i0 : (0 : Int) ≤ (li.length : Int) := by omega
  have i1 : (li.length : Int) < (li.length : Int) + 1 := by omega
  go_enter Try.func80, Try.ntmps80
  go_wp2
  go_region
  generalize hW3 : ((w.alloc (.cells #[.int .i64 kd, .string nm, v, .int .i64 at_] 60)).alloc (.cells #[.int .i64 0, .int .i64 0] 112)) = w3 at *
  have y0 := hT2.cell 3
  have g0 := hF2.cell 0
  have g1 := hF2.cell 1
  have g2 := hF2.frozen 0
  have g3 := hF2.frozen 1
  have hFl := hF2.lt
  have hTl := hT2.lt
  have hXl3 := hX2.lt
  have x9' := hX2.cell 9
  have f9' := hX2.frozen 9
  simp at y0 g0 g1 x9'
  clear hW3 c0 c4 fz x4 x6 x9 f9
  by_cases hz : ((ll.2.2.2.2.length : Nat) : Int) = s6
  · have hr := hide (show closeP ⟨s1, s2, s3, s4, li ++ [ll], s6, s7, s8, ins, en⟩ at_ = .ok ⟨s1, s2, s3, s4, li ++ [ll], s6, s7, s8, sSuper, en⟩ by simp [closeP, hlm, hz])
    have t0 : ((ll.2.2.2.2.length : Int) != s6) = false := by simpa using hz
    have hX3 := (hX2.set_ 9 (.string sSuper)).drew
    have hD3 := (hD2.set_ (i := 9) hX2 (by decide) (by decide) (.string sSuper)).drew
    have hB3 := (hB2.self 9 (.string sSuper)).drew
    have hF3 := (hF2.far (p := ⟨X, 9, none⟩) (by dsimp only; omega) (.string sSuper)).drew
    clear hX2 hD2 hT2 hF2 hB2 hD hX hom hz hlm
    go_wp2_with (fail)
    generalize (w3.setCell ⟨X, 9, none⟩ (.string sSuper)).drew = w4 at *
    refine (fine_any w4).mono ?_
    rintro e w5 ⟨rfl, hb5⟩
    have hF5 := hF3.below hb5 hF3.lt
    have hX5 := hX3.below hb5 hX3.lt
    have hD5 := hD3.below hb5
    have hB5 := hB3.trans (Bt.of hb5 X) (by have := hF3.lt; omega)
    have k0 := hF5.cell 0
    have k1 := hF5.cell 1
    have k2 := hF5.frozen 0
    have k3 := hF5.frozen 1
    have hFl5 := hF5.lt
    simp at k0 k1
    have hfin := hide (fin_ok (s := ⟨s1, s2, s3, s4, li ++ [ll], s6, s7, s8, sSuper, en⟩) (by simpa using hX5) hD5 hB5 hF5 hXb (by omega) (.int .i64 0) (.int .i64 0))
    clear hF5 hX5 hD5 hB5 hb5 hF3 hX3 hD3 hB3
    go_wp2
    obtain ⟨q0, q1, q2, q3⟩ := hfin.out
    refine bodyPost_ret (v := .agg #[.int .i64 0, .int .i64 0]) (by simp [results, Try.results80, go_sem, q0, q1]) rfl ?_
    rw [hr.out]
    exact ⟨rfl, q2, q3⟩
  · have hr := hide (show closeP ⟨s1, s2, s3, s4, li ++ [ll], s6, s7, s8, ins, en⟩ at_ = .error (at_, 13) by simp [closeP, hlm, hz])
    have t0 : ((ll.2.2.2.2.length : Int) != s6) = true := by simpa using hz
    have hfin := hide (fin_errd hB2 hF2 (by omega) (.int .i64 at_) (.int .i64 13))
    clear hX2 hD2 hT2 hF2 hB2 hD hX hom hz hlm
    go_wp2
    obtain ⟨q0, q1, q2⟩ := hfin.out
    refine bodyPost_ret (v := .agg #[.int .i64 at_, .int .i64 13]) (by simp [results, Try.results80, go_sem, q0, q1]) rfl ?_
    rw [hr.out]
    exact ⟨rfl, q2⟩
end Go.Proofs.Ytcblakflhheepaa
