/- Chapter 43: the parser: take. -/
import Derived.Test.YtcblakflhheepaaParG
import Derived.Deep.RegionWith
namespace Go.Proofs.Ytcblakflhheepaa
open Go.RowKit
set_option linter.unusedVariables false
set_option linter.unusedSimpArgs false

set_option maxRecDepth 100000 in
set_option maxHeartbeats 4000000 in
theorem take2_any (base X K b Pb Tb Nb : Nat) (s : Ps) (kd at_ : Int) (nm : ByteArray) (v : Value) (out : List (ByteArray × Int)) (w : World) (h : PS base X K s w) (hm : MapAt w b (iv out)) (hbX : b ≠ X) (hB : Boxed Pb Tb Nb X b kd at_ nm v w) :
    Calls Try.prog 84 #[.pointer (some ⟨Pb, 0, none⟩), .pointer (some ⟨Tb, 0, none⟩), .pointer (some ⟨Nb, 0, none⟩)] w (StOut base X K w (deviceP s kd at_ out)) := by
  obtain ⟨hP, hT, hN⟩ := hB
  have hXb := h.1
  have hbs := h.2.1
  have h2 := hide (h.alloc (.cells #[.int .i64 0, .int .i64 0] 112))
  have hm2 := hide (hm.alloc (.cells #[.int .i64 0, .int .i64 0] 112))
  have hF2 := hide (show Blk (w.alloc (.cells #[.int .i64 0, .int .i64 0] 112)) w.heap.size 112 #[.int .i64 0, .int .i64 0] from heap_new_at (by simp))
  have hB2 := hide ((Bt.refl base X w).alloc hbs (.cells #[.int .i64 0, .int .i64 0] 112))
  have p0 := (hP.alloc (.cells #[.int .i64 0, .int .i64 0] 112)).cell 0
  have n0 := (hN.alloc (.cells #[.int .i64 0, .int .i64 0] 112)).cell 0
  have hT2 := hT.alloc (.cells #[.int .i64 0, .int .i64 0] 112)
  have t0 := hT2.cell 0
  have t1 := hT2.cell 1
  have t2 := hT2.cell 2
  have t3 := hT2.cell 3
  have hPl := hP.lt
  have hTl := hT.lt
  have hNl := hN.lt
  simp at p0 n0 t0 t1 t2 t3
  clear hP hT hN hT2
  go_enter Try.func84, Try.ntmps84
  go_wp2_with (fail)
  generalize (w.alloc (.cells #[.int .i64 0, .int .i64 0] 112)) = w1 at *
  refine (device_any base X K b s kd at_ nm v out w1 h2.out hm2.out hbX).mono ?_
  intro e w2 hS
  obtain ⟨a, c, rfl, k0, k1, k2, k3, hFl, q0, q1, q2⟩ := st_close hS hB2.out hF2.out (by omega) hXb
  have Q2 := hide q2
  clear hS q2
  go_wp2
  refine bodyPost_ret (v := .agg #[.int .i64 a, .int .i64 c]) (by simp [results, Try.results84, go_sem, q0, q1]) rfl Q2.out
theorem zeroFn (w : World) : (zeroValue 114).run Try.prog w = .ok (.nilFunc) w := by kernel_rfl
theorem assoc4 {α : Type} (v1 v2 v3 v4 : α) : assoc sSuper [(sSuper, v1), (sDevice, v2), (sSingle, v3), (sRange, v4)] = some v1 ∧ assoc sDevice [(sSuper, v1), (sDevice, v2), (sSingle, v3), (sRange, v4)] = some v2 ∧
    assoc sSingle [(sSuper, v1), (sDevice, v2), (sSingle, v3), (sRange, v4)] = some v3 ∧ assoc sRange [(sSuper, v1), (sDevice, v2), (sSingle, v3), (sRange, v4)] = some v4 := by
  have e1 : sDevice ≠ sSuper := by decide
  have e2 : sSingle ≠ sSuper := by decide
  have e3 : sRange ≠ sSuper := by decide
  have e4 : sSingle ≠ sDevice := by decide
  have e5 : sRange ≠ sDevice := by decide
  have e6 : sRange ≠ sSingle := by decide
  exact ⟨by simp [assoc], by simp [assoc, e1], by simp [assoc, e2, e4], by simp [assoc, e3, e5, e6]⟩
theorem map_ne {w : World} {b X : Nat} {es : List (ByteArray × Value)} {t : TypeId} {cs : Array Value} (h : MapAt w b es) (hX : Blk w X t cs) : b ≠ X := by
  rintro rfl
  obtain ⟨a, c, h1, -⟩ := h
  unfold Blk at hX
  rw [h1] at hX
  cases hX
theorem does1 (s : Ps) (kd at_ : Int) (ats : List Ai) (out : List (ByteArray × Int)) : doesP s (kd, sSuper, ats, at_) out = .ok (superP s kd out) := by simp only [doesP, isSup_s, if_true]
theorem does2 (s : Ps) (kd at_ : Int) (ats : List Ai) (out : List (ByteArray × Int)) : doesP s (kd, sDevice, ats, at_) out = deviceP s kd at_ out := by simp only [doesP, isSup_d, isDev_d, Bool.false_eq_true, if_false, if_true]
theorem does3 (s : Ps) (kd at_ : Int) (ats : List Ai) (out : List (ByteArray × Int)) : doesP s (kd, sSingle, ats, at_) out = runP s at_ (oneRn out) := by simp only [doesP, isSup_1, isDev_1, isSin_1, Bool.false_eq_true, if_false, if_true]
theorem does4 (s : Ps) (kd at_ : Int) (ats : List Ai) (out : List (ByteArray × Int)) : doesP s (kd, sRange, ats, at_) out = runP s at_ (rngRn out) := by simp only [doesP, isSup_r, isDev_r, isSin_r, Bool.false_eq_true, if_false, if_true]
/-- The parser's state and take's own boxes. -/
structure TK (base X K : Nat) (s : Ps) (w : World) (kd at_ : Int) (nm : ByteArray) (v : Value) (w' : World) : Prop where
  ps : PS base X K s w'
  P : Blk w' w.heap.size 106 #[.pointer (some ⟨X, 0, none⟩)]
  T : Blk w' (w.heap.size + 1) 60 #[.int .i64 kd, .string nm, v, .int .i64 at_]
  F : Blk w' (w.heap.size + 1 + 1) 112 #[.int .i64 0, .int .i64 0]
  bt : Bt base X w w'
  lo : base ≤ w.heap.size
section
variable {base X K : Nat} {s : Ps} {w w1 w2 : World} {kd at_ : Int} {nm : ByteArray} {v : Value}
theorem TK.below (h : TK base X K s w kd at_ nm v w1) (hb : Below w1.heap.size w1 w2) : TK base X K s w kd at_ nm v w2 :=
  ⟨h.ps.below hb, h.P.below hb h.P.lt, h.T.below hb h.T.lt, h.F.below hb h.F.lt, h.bt.trans (Bt.of hb X) h.ps.2.1, h.lo⟩
theorem TK.alloc (h : TK base X K s w kd at_ nm v w1) (o : Obj) : TK base X K s w kd at_ nm v (w1.alloc o) :=
  ⟨h.ps.alloc o, h.P.alloc o, h.T.alloc o, h.F.alloc o, h.bt.alloc h.ps.2.1 o, h.lo⟩
theorem TK.drew (h : TK base X K s w kd at_ nm v w1) : TK base X K s w kd at_ nm v w1.drew := ⟨h.ps.drew, h.P.drew, h.T.drew, h.F.drew, h.bt.drew, h.lo⟩
theorem TK.set_ (h : TK base X K s w kd at_ nm v w1) {g i : Nat} {t : TypeId} {cs : Array Value} (hg : Blk w1 g t cs) (hl : w.heap.size + 1 + 1 < g) (h1 : t ≠ 123) (h2 : t ≠ 39) (u : Value) : TK base X K s w kd at_ nm v (w1.setCell ⟨g, i, none⟩ u) := by
  have hX := h.ps.1
  have hF := h.F.lt
  have hsz := h.bt.size
  have hbs := h.ps.2.1
  have hP : w.heap.size ≠ g := by omega
  obtain ⟨hps, hPb, hTb, hFb, hbt, hlo⟩ := h
  obtain ⟨q1, q2, vv, q3, q4⟩ := hps
  exact ⟨PS.set_ ⟨q1, q2, vv, q3, q4⟩ hg (by rintro rfl; unfold Blk at hg q3; rw [hg] at q3; simp at q3; omega) h1 h2 u, hPb.far (p := ⟨g, i, none⟩) (by dsimp only; omega) u, hTb.far (p := ⟨g, i, none⟩) (by dsimp only; omega) u, hFb.far (p := ⟨g, i, none⟩) (by dsimp only; omega) u, hbt.setCell (p := ⟨g, i, none⟩) ⟨by dsimp only; omega, by dsimp only; omega⟩ u, hlo⟩
theorem TK.cells (h : TK base X K s w kd at_ nm v w1) : w1.cell? ⟨w.heap.size, 0, none⟩ = some (.pointer (some ⟨X, 0, none⟩)) ∧ w1.cell? ⟨w.heap.size + 1, 0, none⟩ = some (.int .i64 kd) ∧ w1.cell? ⟨w.heap.size + 1, 1, none⟩ = some (.string nm) ∧ w1.cell? ⟨w.heap.size + 1, 2, none⟩ = some v ∧ w1.cell? ⟨w.heap.size + 1, 3, none⟩ = some (.int .i64 at_) ∧
    w1.cell? ⟨w.heap.size + 1 + 1, 0, none⟩ = some (.int .i64 0) ∧ w1.cell? ⟨w.heap.size + 1 + 1, 1, none⟩ = some (.int .i64 0) ∧ w1.frozen? ⟨w.heap.size + 1 + 1, 0, none⟩ = false ∧ w1.frozen? ⟨w.heap.size + 1 + 1, 1, none⟩ = false ∧ w.heap.size + 1 + 1 < w1.heap.size := by
  have p0 := h.P.cell 0
  have t0 := h.T.cell 0
  have t1 := h.T.cell 1
  have t2 := h.T.cell 2
  have t3 := h.T.cell 3
  have f0 := h.F.cell 0
  have f1 := h.F.cell 1
  simp at p0 t0 t1 t2 t3 f0 f1
  exact ⟨p0, t0, t1, t2, t3, f0, f1, h.F.frozen 0, h.F.frozen 1, h.F.lt⟩
theorem TK.start (h : PS base X K s w) : TK base X K s w kd at_ nm v (((w.alloc (.cells #[.pointer (some ⟨X, 0, none⟩)] 106)).alloc (.cells #[.int .i64 kd, .string nm, v, .int .i64 at_] 60)).alloc (.cells #[.int .i64 0, .int .i64 0] 112)) :=
  ⟨((h.alloc _).alloc _).alloc _, ((Blk.new w _ _).alloc _).alloc _, (show Blk _ (w.heap.size + 1) _ _ from heap_new_at (by simp)).alloc _, heap_new_at (by simp), (((Bt.refl base X w).alloc h.2.1 _).alloc (by have := h.2.1; simp; omega) _).alloc (by have := h.2.1; simp; omega) _, h.2.1⟩
theorem TK.end_ (h : TK base X K s w kd at_ nm v w1) : w1.cell? ⟨X, 10, none⟩ = some (.bool s.ended) ∧ w1.frozen? ⟨X, 10, none⟩ = false ∧ X < w1.heap.size ∧ TK base X K { s with ended := true } w kd at_ nm v (w1.setCell ⟨X, 10, none⟩ (.bool true)) := by
  obtain ⟨⟨q1, q2, vv, q3, q4⟩, hP, hT, hF, hbt, hlo⟩ := h
  have c := q3.cell 10
  simp at c
  refine ⟨c, q3.frozen 10, q3.lt, ⟨q1, by simpa using q2, vv, by simpa using q3.set_ 10 (.bool true), q4.set_ q3 (by decide) (by decide) _⟩, hP.far (p := ⟨X, 10, none⟩) (by dsimp only; omega) _, hT.far (p := ⟨X, 10, none⟩) (by dsimp only; omega) _, hF.far (p := ⟨X, 10, none⟩) (by dsimp only; omega) _, hbt.self 10 _, hlo⟩
/-- No error, told. -/
theorem TK.ok (h : TK base X K s w kd at_ nm v w1) : ((w1.setCell ⟨w.heap.size + 1 + 1, 0, none⟩ (.int .i64 0)).setCell ⟨w.heap.size + 1 + 1, 1, none⟩ (.int .i64 0)).cell? ⟨w.heap.size + 1 + 1, 0, none⟩ = some (.int .i64 0) ∧
    ((w1.setCell ⟨w.heap.size + 1 + 1, 0, none⟩ (.int .i64 0)).setCell ⟨w.heap.size + 1 + 1, 1, none⟩ (.int .i64 0)).cell? ⟨w.heap.size + 1 + 1, 1, none⟩ = some (.int .i64 0) ∧
    StOut base X K w (.ok s) (.returned (.agg #[.int .i64 0, .int .i64 0])) ((w1.setCell ⟨w.heap.size + 1 + 1, 0, none⟩ (.int .i64 0)).setCell ⟨w.heap.size + 1 + 1, 1, none⟩ (.int .i64 0)) := by
  obtain ⟨⟨q1, q2, vv, q3, q4⟩, hP, hT, hF, hbt, hlo⟩ := h
  obtain ⟨q0, q1, q2, q3⟩ := fin_ok q3 q4 hbt hF q1 (by omega) (.int .i64 0) (.int .i64 0)
  exact ⟨q0, q1, rfl, q2, q3⟩
/-- An error, told. -/
theorem TK.err (h : TK base X K s w kd at_ nm v w1) (p c : Int) : ((w1.setCell ⟨w.heap.size + 1 + 1, 0, none⟩ (.int .i64 p)).setCell ⟨w.heap.size + 1 + 1, 1, none⟩ (.int .i64 c)).cell? ⟨w.heap.size + 1 + 1, 0, none⟩ = some (.int .i64 p) ∧
    ((w1.setCell ⟨w.heap.size + 1 + 1, 0, none⟩ (.int .i64 p)).setCell ⟨w.heap.size + 1 + 1, 1, none⟩ (.int .i64 c)).cell? ⟨w.heap.size + 1 + 1, 1, none⟩ = some (.int .i64 c) ∧
    StOut base X K w (.error (p, c)) (.returned (.agg #[.int .i64 p, .int .i64 c])) ((w1.setCell ⟨w.heap.size + 1 + 1, 0, none⟩ (.int .i64 p)).setCell ⟨w.heap.size + 1 + 1, 1, none⟩ (.int .i64 c)) := by
  obtain ⟨q0, q1, q2⟩ := fin_err h.bt h.F (by have := h.lo; omega) (.int .i64 p) (.int .i64 c)
  exact ⟨q0, q1, rfl, q2⟩
end
set_option maxRecDepth 100000 in
set_option maxHeartbeats 8000000 in
theorem take_any (base X K β : Nat) (A : Option Addr) (cap : Nat) (s : Ps) (t : Ti) (w : World) (h : PS base X K s w) (hg : Good s) (hK : Known w β K) (hβ : β ≤ w.heap.size)
    (hr : Rd w w.heap.size 3 aic A t.2.2.1) (hll : t.2.2.1.length ≤ 5000000) (hsz : ∀ a ∈ t.2.2.1, a.2.1.size ≤ 5000000) :
    Calls Try.prog 49 #[.pointer (some ⟨X, 0, none⟩), .agg #[.int .i64 t.1, .string t.2.1, .slice A t.2.2.1.length cap, .int .i64 t.2.2.2]] w (StOut base X K w (takeP s t)) := by
  obtain ⟨kd, nm, ats, at_⟩ := t
  dsimp only at hr hll hsz ⊢
  have hbs := h.2.1
  have hXb := h.1
  have HW := hide (show Below w.heap.size w (((w.alloc (.cells #[.pointer (some ⟨X, 0, none⟩)] 106)).alloc (.cells #[.int .i64 kd, .string nm, (.slice A ats.length cap), .int .i64 at_] 60)).alloc (.cells #[.int .i64 0, .int .i64 0] 112)) from (by repeat (first | exact Below.refl _ _ | refine Below.alloc ?_ (by first | (simp; omega) | simp | omega) _ | refine drewN_below ?_ _ | refine Below.drew ?_)))
  have HS := hide (TK.start (kd := kd) (at_ := at_) (nm := nm) (v := .slice A ats.length cap) h)
  obtain ⟨p0, t0, t1, t2, t3, f0, f1, z0, z1, zl⟩ := HS.out.cells
  obtain ⟨f, hf⟩ : ∃ f, fitsP s kd nm = f := ⟨_, rfl⟩
  have HK := hide hK
  have HR := hide hr
  have H := hide h
  clear hK hr h
  go_enter Try.func49, Try.ntmps49
  go_wp2_with (fail)
  generalize (((w.alloc (.cells #[.pointer (some ⟨X, 0, none⟩)] 106)).alloc (.cells #[.int .i64 kd, .string nm, (.slice A ats.length cap), .int .i64 at_] 60)).alloc (.cells #[.int .i64 0, .int .i64 0] 112)) = w3 at *
  clear p0 t0 t1 t2 t3 f0 f1 z0 z1 zl
  refine (fits_any base X K s kd at_ nm _ w3 HS.out.ps f hf).mono ?_
  rintro e w4 ⟨rfl, hb4⟩
  have HS4 := hide (HS.out.below hb4)
  have HW4 := hide (HW.out.trans (hb4.mono (by have := HS.out.bt.size; omega)))
  clear hb4 HS HW
  obtain ⟨p0, t0, t1, t2, t3, f0, f1, z0, z1, zl⟩ := HS4.out.cells
  cases f with
  | false =>
    have hr := hide (show takeP s (kd, nm, ats, at_) = .error (at_, 16) by unfold takeP; rw [if_pos hf])
    obtain ⟨q0, q1, q2⟩ := HS4.out.err at_ 16
    have Q2 := hide q2
    clear q2 hf
    go_wp2
    refine bodyPost_ret (v := .agg #[.int .i64 at_, .int .i64 16]) (by simp [results, Try.results49, go_sem, q0, q1]) rfl ?_
    rw [hr.out]
    exact Q2.out
  | true =>
    obtain ⟨hen, hfi⟩ := fits_inv hf
    have HFK := hide (fun hk => fits_known hf hk)
    have HFI := hide hfi
    have hr0 : takeP s (kd, nm, ats, at_) = if kd = 2 then (if isDev nm then closeP s at_ else .ok { s with ended := true })
        else match numsL (isSup nm) (kOf nm) at_ ats [] with
          | .error e => .error e
          | .ok out => doesP s (kd, nm, ats, at_) out := if_neg (by rw [hf]; simp)
    clear hf hfi
    by_cases hk : kd = 2
    · have hk2 : (kd == 2) = true := by simpa using hk
      rw [if_pos hk] at hr0
      obtain ⟨d, hd⟩ : ∃ d, isDev nm = d := ⟨_, rfl⟩
      rw [hd] at hr0
      have HD := hide hd
      unfold isDev at hd
      have HR0 := hide hr0
      clear hr0 hk
      cases d with
      | true =>
        have hnm : s.devs ≠ [] := by
          rcases HFI.out with ⟨-, h2⟩ | ⟨h2, -⟩
          · exact hg.inside (by rw [← h2]; exact HD.out)
          · exact absurd (by simpa using hk2) h2
        go_wp2_with (fail)
        refine (close_any base X K s kd at_ nm _ w4 HS4.out.ps hnm (by have := hg.len; omega)).mono ?_
        intro e w5 hS
        obtain ⟨a, c, rfl, k0, k1, k2, k3, hFl, q0, q1, q2⟩ := st_close hS HS4.out.bt HS4.out.F (by omega) hXb
        have Q2 := hide q2
        clear hS q2 p0 t0 t1 t2 t3 f0 f1 z0 z1 zl
        go_wp2
        refine bodyPost_ret (v := .agg #[.int .i64 a, .int .i64 c]) (by simp [results, Try.results49, go_sem, q0, q1]) rfl ?_
        rw [HR0.out]
        exact Q2.out
      | false =>
        obtain ⟨x10, xf10, xl10, hE⟩ := HS4.out.end_
        have HE := hide hE
        have hne1 : X ≠ w.heap.size := by omega
        clear hE
        go_wp2_with (fail)
        refine (fine_any _).mono ?_
        rintro e w5 ⟨rfl, hb5⟩
        have HE5 := hide (HE.out.below hb5)
        obtain ⟨p0, t0, t1, t2, t3, f0, f1, z0, z1, zl⟩ := HE5.out.cells
        obtain ⟨q0, q1, q2⟩ := HE5.out.ok
        have Q2 := hide q2
        clear hb5 q2
        go_wp2
        refine bodyPost_ret (v := .agg #[.int .i64 0, .int .i64 0]) (by simp [results, Try.results49, go_sem, q0, q1]) rfl ?_
        rw [HR0.out]
        exact Q2.out
    · have hk2 : (kd == 2) = false := by simpa using hk
      rw [if_neg hk] at hr0
      have HKN := hide (knOf_kOf (HFK.out hk))
      have HR1 := hide hr0
      clear hr0
      go_wp2_with (fail)
      refine (numbers_any X K β A cap (kd, nm, ats, at_) (kOf nm) w4 ?_ (by have := HS4.out.ps.2.1; omega) (HK.out.keep fun k hk => HW4.out.block k (by omega)) (by have := HW4.out.size; omega) ?_ HKN.out hll hsz).mono ?_
      · obtain ⟨_, _, vv, q3, _⟩ := HS4.out.ps
        have := q3.cell 5
        simpa using this
      · exact (HR.out.below HW4.out).mono HW4.out.size
      · intro e w5 hN
        dsimp only at hN
        obtain ⟨R, hR⟩ : ∃ R, numsL (isSup nm) (kOf nm) at_ ats [] = R := ⟨_, rfl⟩
        rw [hR] at hN
        have HRR := hide hR
        have hr0 := HR1.out
        rw [hR] at hr0
        have HR0 := hide hr0
        clear hR hr0 HR1
        cases R with
        | error pc =>
          obtain ⟨p, c⟩ := pc
          obtain ⟨rfl, hb5⟩ := hN
          have hc := (numsL_err HRR.out).1
          have HS5 := hide (HS4.out.below hb5)
          clear hb5 HS4 p0 t0 t1 t2 t3 f0 f1 z0 z1 zl
          obtain ⟨p0, t0, t1, t2, t3, f0, f1, z0, z1, zl⟩ := HS5.out.cells
          go_wp2_with (fail)
          have HS6 := hide ((HS5.out.alloc (.cells #[.map none] 138)).alloc (.cells #[.int .i64 p, .int .i64 c] 112))
          have hE6 : Blk ((w5.alloc (.cells #[.map none] 138)).alloc (.cells #[.int .i64 p, .int .i64 c] 112)) (w5.heap.size + 1) 112 #[.int .i64 p, .int .i64 c] := heap_new_at (by simp)
          generalize ((w5.alloc (.cells #[.map none] 138)).alloc (.cells #[.int .i64 p, .int .i64 c] 112)) = w6 at *
          have e0 := hE6.cell 0
          have e1 := hE6.cell 1
          have el := hE6.lt
          simp at e0 e1
          clear p0 t0 t1 t2 t3 f0 f1 z0 z1 zl
          have hc0 : (c == 0) = false := by simp; omega
          have HE6 := hide hE6
          obtain ⟨u, hu⟩ : ∃ u, (p == 0) = u := ⟨_, rfl⟩
          clear hE6 hc
          cases u
          all_goals
            go_region_with (go_at_call 50; refine (fine_any _).mono ?_; rintro e w7 ⟨rfl, hb7⟩; have e0' := (HE6.out.drew.below hb7 HE6.out.lt).cell 0; have e1' := (HE6.out.drew.below hb7 HE6.out.lt).cell 1; simp at e0' e1')
          all_goals
            have HS7 := hide (HS6.out.drew.below hb7)
            obtain ⟨p0, t0, t1, t2, t3, f0, f1, z0, z1, zl⟩ := HS7.out.cells
            obtain ⟨q0, q1, q2⟩ := HS7.out.err p c
            have Q2 := hide q2
            clear hb7 q2 e0 e1 HS5 HS6
            go_wp2
            refine bodyPost_ret (v := .agg #[.int .i64 p, .int .i64 c]) (by simp [results, Try.results49, go_sem, q0, q1]) rfl ?_
            rw [HR0.out]
            exact Q2.out
        | ok out =>
          obtain ⟨b, rfl, hm5, hb5⟩ := hN
          have HS5 := hide (HS4.out.below hb5)
          clear hb5 HS4 p0 t0 t1 t2 t3 f0 f1 z0 z1 zl
          obtain ⟨p0, t0, t1, t2, t3, f0, f1, z0, z1, zl⟩ := HS5.out.cells
          have HM5 := hide hm5
          clear hm5
          go_wp2_with (fail)
          have HS6 := hide ((HS5.out.alloc (.cells #[.map (some b)] 138)).alloc (.cells #[.int .i64 0, .int .i64 0] 112))
          have hE6 : Blk ((w5.alloc (.cells #[.map (some b)] 138)).alloc (.cells #[.int .i64 0, .int .i64 0] 112)) (w5.heap.size + 1) 112 #[.int .i64 0, .int .i64 0] := heap_new_at (by simp)
          have HN6 := hide ((show Blk (w5.alloc (.cells #[.map (some b)] 138)) w5.heap.size 138 #[.map (some b)] from heap_new_at rfl).alloc (.cells #[.int .i64 0, .int .i64 0] 112))
          have HM6 := hide ((HM5.out.alloc (.cells #[.map (some b)] 138)).alloc (.cells #[.int .i64 0, .int .i64 0] 112))
          generalize ((w5.alloc (.cells #[.map (some b)] 138)).alloc (.cells #[.int .i64 0, .int .i64 0] 112)) = w6 at *
          have e0 := hE6.cell 0
          have e1 := hE6.cell 1
          have el := hE6.lt
          simp at e0 e1
          clear p0 t0 t1 t2 t3 f0 f1 z0 z1 zl
          have HE6 := hide hE6
          clear hE6
          go_region_with (go_at_call 50; refine (fine_any _).mono ?_; rintro e w7 ⟨rfl, hb7⟩; have e0' := (HE6.out.drew.below hb7 HE6.out.lt).cell 0; have e1' := (HE6.out.drew.below hb7 HE6.out.lt).cell 1; simp at e0' e1')
          all_goals
            have HS7 := hide (HS6.out.drew.below hb7)
            have HN7 := hide (HN6.out.drew.below hb7 HN6.out.lt)
            have HM7 := hide (MapAt.below (show MapAt w6.drew b (iv out) from HM6.out) hb7 HM6.out.lt)
            have hmm := @run_makeMap Try.prog
            have hmf : ∀ (fn : Fn) (first cap : Array Value) (w : World), (Instr.makeFunc fn first cap).run Try.prog w = .ok (.func fn first cap) w := fun _ _ _ _ => rfl
            have M := MapAt.new (w := w7) rfl
            have hb8 : Below w7.heap.size w7 (w7.alloc (.map #[] 0)) := (by repeat (first | exact Below.refl _ _ | refine Below.alloc ?_ (by first | (simp; omega) | simp | omega) _ | refine drewN_below ?_ _ | refine Below.drew ?_))
            obtain ⟨p0, t0, t1, t2, t3, f0, f1, z0, z1, zl⟩ := HS7.out.cells
            clear hb7 e0 e1 HE6 HM6 HN6 HS6 HS5 HM5 p0 t0 t1 t2 t3 f0 f1 z0 z1 zl
            go_wp2_with (refine wpList_insert_mp _ rfl _ _ _ 143 rfl Try.underlying143 Try.underlying9 w7.heap.size _ ⟨#[115, 117, 112, 101, 114, 98, 108, 111, 99, 107]⟩ (.func (.func 82) #[] #[.pointer (some ⟨w.heap.size, 0, none⟩), .pointer (some ⟨w.heap.size + 1, 0, none⟩), .pointer (some ⟨w5.heap.size, 0, none⟩)]) rfl rfl rfl M ?_)
            intro wn1 Mn kb
            replace hb8 := below_kb hb8 kb (Nat.le_refl _)
            replace M := Mn
            clear kb Mn
            go_wp2_with (refine wpList_insert_mp _ rfl _ _ _ 143 rfl Try.underlying143 Try.underlying9 w7.heap.size _ ⟨#[100, 101, 118, 105, 99, 101]⟩ (.func (.func 84) #[] #[.pointer (some ⟨w.heap.size, 0, none⟩), .pointer (some ⟨w.heap.size + 1, 0, none⟩), .pointer (some ⟨w5.heap.size, 0, none⟩)]) rfl rfl rfl M ?_)
            intro wn2 Mn kb
            replace hb8 := below_kb hb8 kb (Nat.le_refl _)
            replace M := Mn
            clear kb Mn
            go_wp2_with (refine wpList_insert_mp _ rfl _ _ _ 143 rfl Try.underlying143 Try.underlying9 w7.heap.size _ ⟨#[115, 105, 110, 103, 108, 101, 95, 109, 97, 112, 112, 105, 110, 103]⟩ (.func (.func 86) #[] #[.pointer (some ⟨w.heap.size, 0, none⟩), .pointer (some ⟨w.heap.size + 1, 0, none⟩), .pointer (some ⟨w5.heap.size, 0, none⟩)]) rfl rfl rfl M ?_)
            intro wn3 Mn kb
            replace hb8 := below_kb hb8 kb (Nat.le_refl _)
            replace M := Mn
            clear kb Mn
            go_wp2_with (refine wpList_insert_mp _ rfl _ _ _ 143 rfl Try.underlying143 Try.underlying9 w7.heap.size _ ⟨#[114, 97, 110, 103, 101, 95, 109, 97, 112, 112, 105, 110, 103]⟩ (.func (.func 88) #[] #[.pointer (some ⟨w.heap.size, 0, none⟩), .pointer (some ⟨w.heap.size + 1, 0, none⟩), .pointer (some ⟨w5.heap.size, 0, none⟩)]) rfl rfl rfl M ?_)
            intro wn4 Mn kb
            replace hb8 := below_kb hb8 kb (Nat.le_refl _)
            replace M := Mn
            clear kb Mn
            simp [putA] at M
            have HS9 := hide (HS7.out.below hb8)
            have HN9 := hide (HN7.out.below hb8 HN7.out.lt)
            have HM9 := hide (HM7.out.below hb8 HM7.out.lt)
            obtain ⟨p0, t0, t1, t2, t3, f0, f1, z0, z1, zl⟩ := HS9.out.cells
            have hlk := M.look (s := nm) Try.underlying143 Try.underlying9 (zeroFn wn4) false
            clear M hb8 HS7 HN7 HM7 hmm hmf
            obtain ⟨_, _, vv9, q9, _⟩ := HS9.out.ps
            have hbX := map_ne HM9.out q9
            clear q9
            have hHL := hg.len
            have hHM := hg.maps
            have hHS := hg.sum
            have hHI := hg.inside
            have hc : (nm = sSuper ∧ s.inside = ⟨#[]⟩ ∧ True) ∨ (nm = sDevice ∧ s.inside = sSuper ∧ True) ∨ (nm = sSingle ∧ s.inside = sDevice ∧ kd = 3) ∨ (nm = sRange ∧ s.inside = sDevice ∧ kd = 3) := by
              rcases HFI.out with ⟨h2, -⟩ | ⟨-, ⟨h1, h2⟩ | ⟨h1, h2⟩ | ⟨h1 | h1, h2, h3⟩⟩
              · exact absurd h2 hk
              · exact .inl ⟨h1, h2, trivial⟩
              · exact .inr (.inl ⟨h1, h2, trivial⟩)
              · exact .inr (.inr (.inl ⟨h1, h2, h3⟩))
              · exact .inr (.inr (.inr ⟨h1, h2, h3⟩))
            rcases hc with hc | hc | hc | hc
            · obtain ⟨rfl, -, -⟩ := hc
              rw [(assoc4 _ _ _ _).1] at hlk
              simp only [Bool.false_eq_true, if_false, Option.getD_some] at hlk
              have HR2 := hide (HR0.out.trans (does1 _ _ _ _ _))
              clear HFI HR0 HKN
              go_wp2_with (fail)
              refine (take1_any base X K b w.heap.size (w.heap.size + 1) w5.heap.size s kd at_ sSuper _ out wn4 HS9.out.ps HM9.out hbX ⟨HS9.out.P, HS9.out.T, HN9.out⟩).mono ?_
              intro e w10 hS
              obtain ⟨x, y, rfl, k0, k1, k2, k3, hFl, q0, q1, q2⟩ := st_close hS HS9.out.bt HS9.out.F (by omega) hXb
              have Q2 := hide q2
              clear hS q2 p0 t0 t1 t2 t3 f0 f1 z0 z1 zl hlk
              go_wp2
              refine bodyPost_ret (v := .agg #[.int .i64 x, .int .i64 y]) (by simp [results, Try.results49, go_sem, q0, q1]) rfl ?_
              rw [HR2.out]
              exact Q2.out
            · obtain ⟨rfl, -, -⟩ := hc
              rw [(assoc4 _ _ _ _).2.1] at hlk
              simp only [Bool.false_eq_true, if_false, Option.getD_some] at hlk
              have HR2 := hide (HR0.out.trans (does2 _ _ _ _ _))
              clear HFI HR0 HKN
              go_wp2_with (fail)
              refine (take2_any base X K b w.heap.size (w.heap.size + 1) w5.heap.size s kd at_ sDevice _ out wn4 HS9.out.ps HM9.out hbX ⟨HS9.out.P, HS9.out.T, HN9.out⟩).mono ?_
              intro e w10 hS
              obtain ⟨x, y, rfl, k0, k1, k2, k3, hFl, q0, q1, q2⟩ := st_close hS HS9.out.bt HS9.out.F (by omega) hXb
              have Q2 := hide q2
              clear hS q2 p0 t0 t1 t2 t3 f0 f1 z0 z1 zl hlk
              go_wp2
              refine bodyPost_ret (v := .agg #[.int .i64 x, .int .i64 y]) (by simp [results, Try.results49, go_sem, q0, q1]) rfl ?_
              rw [HR2.out]
              exact Q2.out
            · obtain ⟨rfl, hi, -⟩ := hc
              rw [(assoc4 _ _ _ _).2.2.1] at hlk
              simp only [Bool.false_eq_true, if_false, Option.getD_some] at hlk
              have HR2 := hide (HR0.out.trans (does3 _ _ _ _ _))
              clear HFI HR0 HKN
              go_wp2_with (fail)
              refine (take3_any base X K b w.heap.size (w.heap.size + 1) w5.heap.size s kd at_ sSingle _ out wn4 HS9.out.ps HM9.out hbX ⟨HS9.out.P, HS9.out.T, HN9.out⟩ (hHI (by rw [hi]; exact isDev_d)) (by omega) (by omega) hHS (one_ok HRR.out).1).mono ?_
              intro e w10 hS
              obtain ⟨x, y, rfl, k0, k1, k2, k3, hFl, q0, q1, q2⟩ := st_close hS HS9.out.bt HS9.out.F (by omega) hXb
              have Q2 := hide q2
              clear hS q2 p0 t0 t1 t2 t3 f0 f1 z0 z1 zl hlk
              go_wp2
              refine bodyPost_ret (v := .agg #[.int .i64 x, .int .i64 y]) (by simp [results, Try.results49, go_sem, q0, q1]) rfl ?_
              rw [HR2.out]
              exact Q2.out
            · obtain ⟨rfl, hi, -⟩ := hc
              rw [(assoc4 _ _ _ _).2.2.2] at hlk
              simp only [Bool.false_eq_true, if_false, Option.getD_some] at hlk
              have HR2 := hide (HR0.out.trans (does4 _ _ _ _ _))
              clear HFI HR0 HKN
              go_wp2_with (fail)
              refine (take4_any base X K b w.heap.size (w.heap.size + 1) w5.heap.size s kd at_ sRange _ out wn4 HS9.out.ps HM9.out hbX ⟨HS9.out.P, HS9.out.T, HN9.out⟩ (hHI (by rw [hi]; exact isDev_d)) (by omega) (by omega) hHS (rng_ok HRR.out).1).mono ?_
              intro e w10 hS
              obtain ⟨x, y, rfl, k0, k1, k2, k3, hFl, q0, q1, q2⟩ := st_close hS HS9.out.bt HS9.out.F (by omega) hXb
              have Q2 := hide q2
              clear hS q2 p0 t0 t1 t2 t3 f0 f1 z0 z1 zl hlk
              go_wp2
              refine bodyPost_ret (v := .agg #[.int .i64 x, .int .i64 y]) (by simp [results, Try.results49, go_sem, q0, q1]) rfl ?_
              rw [HR2.out]
              exact Q2.out
end Go.Proofs.Ytcblakflhheepaa
