/- Chapter 43, plain: the reference's parser, and that it tells what the program's does. -/
import Derived.Test.YtcblakflhheepaaParJ
namespace Go.Proofs.Ytcblakflhheepaa
open Go.RowKit
set_option linter.unusedVariables false
set_option linter.unusedSimpArgs false

/-! the reference, going down -/
def rnOf (nm : ByteArray) (o : List (ByteArray × Int)) : Rn := if isSin nm then oneRn o else rngRn o
def isRunT (t : Ti) : Bool := decide (t.1 = 3) && (isSin t.2.1 || isRng t.2.1)
def isDevT (t : Ti) : Bool := (decide (t.1 = 1) || decide (t.1 = 3)) && isDev t.2.1
def isSupT (t : Ti) : Bool := (decide (t.1 = 1) || decide (t.1 = 3)) && isSup t.2.1
def runX (sum data nx at_ : Int) (r : Rn) : Option (Int × Int) :=
  if 281474976710655 < r.1 + r.2.2.1 - 1 ∨ data ≤ r.2.1 + r.2.2.1 - 1 ∨ 16384 < sum + r.2.2.1 then some (at_, 2) else if r.1 < nx then some (at_, 17) else none
def runsX (data : Int) : Int → List Mp → List Ti → Except (Int × Int) (Int × List Mp × List Ti)
  | sum, ms, [] => .ok (sum, ms, [])
  | sum, ms, t :: L => if isRunT t then
      match numsL false (kOf t.2.1) t.2.2.2 t.2.2.1 [] with
      | .error e => .error e
      | .ok o => match runX sum data (lastV (-1) ms + 1) t.2.2.2 (rnOf t.2.1 o) with
        | some e => .error e
        | none => runsX data (sum + (rnOf t.2.1 o).2.2.1) (ms ++ mapsR (rnOf t.2.1 o) (rnOf t.2.1 o).2.2.1.toNat) L
    else .ok (sum, ms, t :: L)
def devEndX (N m : Int) (d : Dv) (D : List Dv) : Except (Int × Int) (Int × List Mp × List Ti) → Except (Int × Int) (List Dv × Int × List Ti)
  | .error e => .error e
  | .ok (_, _, []) => .error (N, 16)
  | .ok (sum, ms, c :: L) => if c.1 = 2 ∧ isDev c.2.1 = true then (if (ms.length : Int) ≠ m then .error (c.2.2.2, 13) else .ok (D ++ [(d.1, d.2.1, d.2.2.1, d.2.2.2.1, ms)], sum, L)) else .error (c.2.2.2, 16)
def devX (N data : Int) (D : List Dv) (sum : Int) (t : Ti) (L : List Ti) : Except (Int × Int) (List Dv × Int × List Ti) :=
  match numsL false kDevice t.2.2.2 t.2.2.1 [] with
  | .error e => .error e
  | .ok o => if (4096 : Int) ≤ (D.length : Int) then .error (t.2.2.2, 2) else if lateP D (gv o sId) then .error (t.2.2.2, 8)
    else if t.1 = 1 then devEndX N (gv o sMapped) (newDev o) D (runsX data sum [] L)
    else if (0 : Int) ≠ gv o sMapped then .error (t.2.2.2, 13) else .ok (D ++ [newDev o], sum, L)
def devsX (N data : Int) : Nat → List Dv → Int → List Ti → Except (Int × Int) (List Dv × Int × List Ti)
  | 0, D, sum, L => .ok (D, sum, L)
  | n + 1, D, sum, [] => .ok (D, sum, [])
  | n + 1, D, sum, t :: L => if isDevT t then
      match devX N data D sum t L with
      | .error e => .error e
      | .ok (D', sum', L') => devsX N data n D' sum' L'
    else .ok (D, sum, t :: L)
def endX (p : Pl) : List Ti → Except (Int × Int) Pl
  | [] => .ok p
  | c :: _ => .error (c.2.2.2, 16)
def plOf (o : List (ByteArray × Int)) (D : List Dv) : Pl := (gv o sTx, gv o sTime, gv o sUnit, gv o sData, D)
def supEndX (N : Int) (o : List (ByteArray × Int)) : Except (Int × Int) (List Dv × Int × List Ti) → Except (Int × Int) Pl
  | .error e => .error e
  | .ok (_, _, []) => .error (N, 16)
  | .ok (D, _, c :: L) => if c.1 = 2 ∧ isSup c.2.1 = true then endX (plOf o D) L else .error (c.2.2.2, 16)
def parseX (N : Int) : List Ti → Except (Int × Int) Pl
  | [] => .error (N, 16)
  | t :: L => if isSupT t then
      match numsL true kSuper t.2.2.2 t.2.2.1 [] with
      | .error e => .error e
      | .ok o => if t.1 = 1 then supEndX N o (devsX N (gv o sData) L.length [] 0 L) else endX (plOf o []) L
    else .error (t.2.2.2, 16)

/-! it is the program's fold -/
def foldE (N : Int) (s : Ps) (T : List Ti) : Except (Int × Int) Pl :=
  match foldP s T with
  | .error e => .error e
  | .ok st => if st.ended then .ok (poolOf st) else .error (N, 16)
theorem foldE_cons {N : Int} {s : Ps} {t : Ti} {T : List Ti} : foldE N s (t :: T) = (match takeP s t with | .error e => .error e | .ok s' => foldE N s' T) := by
  unfold foldE
  rw [foldP_cons]
  cases takeP s t <;> rfl
theorem take_bad {s : Ps} {t : Ti} (h : fitsP s t.1 t.2.1 = false) : takeP s t = .error (t.2.2.2, 16) := if_pos h
theorem foldE_ended {N : Int} {s : Ps} (h : s.ended = true) : ∀ T : List Ti, foldE N s T = endX (poolOf s) T
  | [] => by
    show (if s.ended then (Except.ok (poolOf s) : Except (Int × Int) Pl) else .error (N, 16)) = .ok (poolOf s)
    rw [if_pos h]
  | t :: T => by
    rw [foldE_cons, take_bad (by unfold fitsP; rw [if_pos h])]
    rfl
/-- The parser in a device. -/
def SI (x1 x2 x3 data : Int) (D : List Dv) (d : Dv) (m sum : Int) (ms : List Mp) : Ps := ⟨x1, x2, x3, data, D ++ [(d.1, d.2.1, d.2.2.1, d.2.2.2.1, ms)], m, lastV (-1) ms + 1, sum, sDevice, false⟩
def SO (x1 x2 x3 data : Int) (D : List Dv) (m nx sum : Int) : Ps := ⟨x1, x2, x3, data, D, m, nx, sum, sSuper, false⟩
theorem lastV_run (ms : List Mp) (r : Rn) {n : Nat} (h : 0 < n) : lastV (-1) (ms ++ mapsR r n) + 1 = r.1 + (n : Int) := by
  obtain ⟨k, rfl⟩ : ∃ k, n = k + 1 := ⟨n - 1, by omega⟩
  rw [mapsR_succ, ← List.append_assoc]
  simp [lastV, nextM, mOf]
  omega
theorem rn_ok {nm : ByteArray} {at_ : Int} {ats : List Ai} {o : List (ByteArray × Int)} (h : isSin nm = true ∨ isRng nm = true) (ho : numsL false (kOf nm) at_ ats [] = .ok o) : 1 ≤ (rnOf nm o).2.2.1 := by
  rcases h with h | h
  · obtain rfl := isSin_eq h
    unfold rnOf; rw [if_pos h]
    exact (one_ok (by rw [isSup_1]; exact ho)).2.1
  · obtain rfl := isRng_eq h
    unfold rnOf; rw [if_neg (by rw [isSin_r]; simp)]
    exact (rng_ok (by rw [isSup_r]; exact ho)).2.1
theorem fold_runs {N x1 x2 x3 data : Int} {D : List Dv} {d : Dv} {m : Int} : ∀ (T : List Ti) (sum : Int) (ms : List Mp), (∀ t ∈ T, 1 ≤ t.1 ∧ t.1 ≤ 3) →
    (∀ e, devEndX N m d D (runsX data sum ms T) = .error e → foldE N (SI x1 x2 x3 data D d m sum ms) T = .error e) ∧
    (∀ D' sum' L, devEndX N m d D (runsX data sum ms T) = .ok (D', sum', L) → (∃ nx, foldE N (SI x1 x2 x3 data D d m sum ms) T = foldE N (SO x1 x2 x3 data D' m nx sum') L) ∧ (∀ t ∈ L, t ∈ T) ∧ L.length < T.length)
  | [], sum, ms, _ => by
    unfold runsX devEndX
    exact ⟨fun e h => (by injection h with h; subst h; rfl), fun D' sum' L h => (by cases h)⟩
  | t :: T, sum, ms, hk => by
    rw [foldE_cons]
    unfold runsX
    by_cases hr : isRunT t = true
    · rw [if_pos hr]
      simp only [isRunT, Bool.and_eq_true, decide_eq_true_eq, Bool.or_eq_true] at hr
      obtain ⟨hk3, hnm⟩ := hr
      have hf : fitsP (SI x1 x2 x3 data D d m sum ms) t.1 t.2.1 = true := by
        unfold fitsP
        rw [if_neg (by simp [SI]), if_neg (by omega)]
        have hs : isSup t.2.1 = false ∧ isDev t.2.1 = false := by
          rcases hnm with h | h
          · rw [isSin_eq h]; exact ⟨isSup_1, isDev_1⟩
          · rw [isRng_eq h]; exact ⟨isSup_r, isDev_r⟩
        rw [hs.1, hs.2, if_neg (by simp), if_neg (by simp), if_pos (by simpa using hnm)]
        show (isDev sDevice && decide (t.1 = 3)) = true
        rw [isDev_d, hk3]; rfl
      have hsup : isSup t.2.1 = false := by
        rcases hnm with h | h
        · rw [isSin_eq h]; exact isSup_1
        · rw [isRng_eq h]; exact isSup_r
      have hdev : isDev t.2.1 = false := by
        rcases hnm with h | h
        · rw [isSin_eq h]; exact isDev_1
        · rw [isRng_eq h]; exact isDev_r
      have htake : takeP (SI x1 x2 x3 data D d m sum ms) t = (match numsL false (kOf t.2.1) t.2.2.2 t.2.2.1 [] with
          | .error e => .error e
          | .ok o => runP (SI x1 x2 x3 data D d m sum ms) t.2.2.2 (rnOf t.2.1 o)) := by
        unfold takeP
        rw [if_neg (by rw [hf]; simp), if_neg (by omega), hsup]
        cases numsL false (kOf t.2.1) t.2.2.2 t.2.2.1 [] with
        | error e => rfl
        | ok o =>
          dsimp only
          unfold doesP rnOf
          rw [hsup, hdev, if_neg (by simp), if_neg (by simp)]
          split <;> rfl
      rw [htake]
      cases ho : numsL false (kOf t.2.1) t.2.2.2 t.2.2.1 [] with
      | error e => exact ⟨fun e' h => (by injection h with h; subst h; rfl), fun D' sum' L h => (by cases h)⟩
      | ok o =>
        dsimp only
        have hN := rn_ok hnm ho
        generalize rnOf t.2.1 o = r at *
        unfold runX
        by_cases h1 : 281474976710655 < r.1 + r.2.2.1 - 1 ∨ data ≤ r.2.1 + r.2.2.1 - 1 ∨ 16384 < sum + r.2.2.1
        · rw [if_pos h1]
          have : runP (SI x1 x2 x3 data D d m sum ms) t.2.2.2 r = .error (t.2.2.2, 2) := if_pos (by simp only [SI]; omega)
          rw [this]
          exact ⟨fun e' h => (by injection h with h; subst h; rfl), fun D' sum' L h => (by cases h)⟩
        · rw [if_neg h1]
          by_cases h2 : r.1 < lastV (-1) ms + 1
          · rw [if_pos h2]
            have : runP (SI x1 x2 x3 data D d m sum ms) t.2.2.2 r = .error (t.2.2.2, 17) := by
              unfold runP
              rw [if_neg (by simp only [SI]; omega), if_pos (by simp only [SI]; omega)]
            rw [this]
            exact ⟨fun e' h => (by injection h with h; subst h; rfl), fun D' sum' L h => (by cases h)⟩
          · rw [if_neg h2]
            have hrun : runP (SI x1 x2 x3 data D d m sum ms) t.2.2.2 r = .ok (SI x1 x2 x3 data D d m (sum + r.2.2.1) (ms ++ mapsR r r.2.2.1.toNat)) := by
              unfold runP
              rw [if_neg (by simp only [SI]; omega), if_neg (by simp only [SI]; omega)]
              have hl := lastV_run ms r (n := r.2.2.1.toNat) (by omega)
              unfold SI
              rw [hl]
              simp only [addMs_snoc]
              congr 2
              omega
            rw [hrun]
            dsimp only
            obtain ⟨i1, i2⟩ := fold_runs (N := N) (x1 := x1) (x2 := x2) (x3 := x3) (data := data) (D := D) (d := d) (m := m) T (sum + r.2.2.1) (ms ++ mapsR r r.2.2.1.toNat) (fun x hx => hk x (by simp [hx]))
            refine ⟨i1, fun D' sum' L h => ?_⟩
            obtain ⟨q1, q2, q3⟩ := i2 D' sum' L h
            exact ⟨q1, fun x hx => by simp [q2 x hx], by simp only [List.length_cons]; omega⟩
    · rw [if_neg hr]
      unfold devEndX
      dsimp only
      by_cases hc : t.1 = 2 ∧ isDev t.2.1 = true
      · rw [if_pos hc]
        obtain ⟨hk2, hd⟩ := hc
        have hnm := isDev_eq hd
        have htake : takeP (SI x1 x2 x3 data D d m sum ms) t = if (ms.length : Int) ≠ m then .error (t.2.2.2, 13) else .ok (SO x1 x2 x3 data (D ++ [(d.1, d.2.1, d.2.2.1, d.2.2.2.1, ms)]) m (lastV (-1) ms + 1) sum) := by
          unfold takeP
          rw [hk2, hnm, if_neg (by
            unfold fitsP
            rw [if_neg (by simp [SI]), if_pos rfl]
            show ¬ (sDevice.toList == sDevice.toList) = false
            simp), if_pos rfl, if_pos isDev_d]
          unfold closeP
          have hlm : lastMaps (SI x1 x2 x3 data D d m sum ms).devs = ms := by simp [SI, lastMaps]
          rw [hlm]
          rfl
        rw [htake]
        by_cases hm : (ms.length : Int) ≠ m
        · rw [if_pos hm, if_pos hm]
          exact ⟨fun e' h => (by injection h with h; subst h; rfl), fun D' sum' L h => (by cases h)⟩
        · rw [if_neg hm, if_neg hm]
          refine ⟨fun e' h => (by cases h), fun D' sum' L h => ?_⟩
          injection h with h
          injection h with h1 h2
          injection h2 with h2 h3
          subst h1; subst h2; subst h3
          exact ⟨⟨_, rfl⟩, fun x hx => by simp [hx], by simp⟩
      · rw [if_neg hc]
        have htake : takeP (SI x1 x2 x3 data D d m sum ms) t = .error (t.2.2.2, 16) := take_bad (by
          unfold fitsP
          rw [if_neg (by simp [SI])]
          split
          · rename_i hk2
            show (t.2.1.toList == sDevice.toList) = false
            rw [Bool.eq_false_iff]
            intro he
            have hb := bytes_list (a := t.2.1) (b := sDevice) (by simpa using he)
            exact hc ⟨hk2, by rw [hb]; exact isDev_d⟩
          · split
            · show sDevice.toList.isEmpty = false
              rw [Lib.toList_data]; rfl
            · split
              · show isSup sDevice = false
                exact isSup_d
              · split
                · rename_i hsr
                  show (isDev sDevice && decide (t.1 = 3)) = false
                  rw [isDev_d, Bool.true_and, decide_eq_false_iff_not]
                  intro hk3
                  apply hr
                  simp only [isRunT, hk3, hsr]
                  rfl
                · rfl)
        rw [htake]
        exact ⟨fun e' h => (by injection h with h; subst h; rfl), fun D' sum' L h => (by cases h)⟩
theorem fold_dev {N x1 x2 x3 data : Int} {D : List Dv} {m nx sum : Int} {t : Ti} {T : List Ti} (hk : ∀ x ∈ t :: T, 1 ≤ x.1 ∧ x.1 ≤ 3) (hd : isDevT t = true) :
    (∀ e, devX N data D sum t T = .error e → foldE N (SO x1 x2 x3 data D m nx sum) (t :: T) = .error e) ∧
    (∀ D' sum' L, devX N data D sum t T = .ok (D', sum', L) → (∃ m' nx', foldE N (SO x1 x2 x3 data D m nx sum) (t :: T) = foldE N (SO x1 x2 x3 data D' m' nx' sum') L) ∧ (∀ t ∈ L, t ∈ T) ∧ L.length ≤ T.length) := by
  simp only [isDevT, Bool.and_eq_true, Bool.or_eq_true, decide_eq_true_eq] at hd
  obtain ⟨hkd, hd⟩ := hd
  have hnm := isDev_eq hd
  obtain ⟨kd, nm, ats, at_⟩ := t
  dsimp only at hkd hnm
  subst hnm
  have hko : kOf sDevice = kDevice := by simp [kOf, isSup_d, isDev_d]
  have htake : takeP (SO x1 x2 x3 data D m nx sum) (kd, sDevice, ats, at_) = (match numsL false kDevice at_ ats [] with
      | .error e => .error e
      | .ok o => deviceP (SO x1 x2 x3 data D m nx sum) kd at_ o) := by
    unfold takeP
    dsimp only
    rw [if_neg (by
      unfold fitsP
      rw [if_neg (by simp [SO]), if_neg (by omega), isSup_d, if_neg (by simp), isDev_d, if_pos rfl]
      show ¬ isSup sSuper = false
      rw [isSup_s]; simp), if_neg (by omega), isSup_d, hko]
    cases numsL false kDevice at_ ats [] with
    | error e => rfl
    | ok o => dsimp only; exact does2 _ _ _ _ _
  rw [foldE_cons, htake]
  unfold devX
  dsimp only
  cases ho : numsL false kDevice at_ ats [] with
  | error e => exact ⟨fun e' h => (by injection h with h; subst h; rfl), fun D' sum' L h => (by cases h)⟩
  | ok o =>
    dsimp only
    unfold deviceP
    have hdv : (SO x1 x2 x3 data D m nx sum).devs = D := rfl
    rw [hdv]
    by_cases h1 : (4096 : Int) ≤ (D.length : Int)
    · rw [if_pos h1, if_pos h1]
      exact ⟨fun e' h => (by injection h with h; subst h; rfl), fun D' sum' L h => (by cases h)⟩
    · rw [if_neg h1, if_neg h1]
      by_cases h2 : lateP D (gv o sId) = true
      · rw [if_pos h2, if_pos h2]
        exact ⟨fun e' h => (by injection h with h; subst h; rfl), fun D' sum' L h => (by cases h)⟩
      · rw [if_neg h2, if_neg h2]
        have hop : openP (SO x1 x2 x3 data D m nx sum) o = SI x1 x2 x3 data D (newDev o) (gv o sMapped) sum [] := rfl
        rw [hop]
        rcases hkd with rfl | rfl
        · rw [if_pos rfl, if_neg (show ¬ (1 : Int) = 3 by decide)]
          dsimp only
          obtain ⟨i1, i2⟩ := fold_runs (N := N) (x1 := x1) (x2 := x2) (x3 := x3) (data := data) (D := D) (d := newDev o) (m := gv o sMapped) T sum [] (fun x hx => hk x (by simp [hx]))
          refine ⟨i1, fun D' sum' L h => ?_⟩
          obtain ⟨⟨nx', q1⟩, q2, q3⟩ := i2 D' sum' L h
          exact ⟨⟨_, nx', q1⟩, q2, by omega⟩
        · rw [if_neg (show ¬ (3 : Int) = 1 by decide), if_pos rfl]
          unfold closeP
          have hlm : lastMaps (SI x1 x2 x3 data D (newDev o) (gv o sMapped) sum []).devs = [] := by simp [SI, lastMaps]
          rw [hlm]
          by_cases h3 : (0 : Int) ≠ gv o sMapped
          · rw [if_pos h3, if_pos (by simpa [SI] using h3)]
            exact ⟨fun e' h => (by injection h with h; subst h; rfl), fun D' sum' L h => (by cases h)⟩
          · rw [if_neg h3, if_neg (by simpa [SI] using h3)]
            refine ⟨fun e' h => (by cases h), fun D' sum' L h => ?_⟩
            injection h with h
            injection h with h1 h2
            injection h2 with h2 h3
            subst h1; subst h2; subst h3
            exact ⟨⟨gv o sMapped, lastV (-1) [] + 1, rfl⟩, fun x hx => hx, Nat.le_refl _⟩
theorem take_supEnd {x1 x2 x3 data : Int} {D : List Dv} {m nx sum : Int} {t : Ti} (hk : t.1 = 2) (hn : isSup t.2.1 = true) : takeP (SO x1 x2 x3 data D m nx sum) t = .ok { SO x1 x2 x3 data D m nx sum with ended := true } := by
  have hnm := isSup_eq hn
  unfold takeP
  rw [hk, hnm, if_neg (by
    unfold fitsP
    rw [if_neg (by simp [SO]), if_pos rfl]
    show ¬ (sSuper.toList == sSuper.toList) = false
    simp), if_pos rfl, isDev_s, if_neg (by simp)]
theorem take_supBad {x1 x2 x3 data : Int} {D : List Dv} {m nx sum : Int} {t : Ti} (hk : 1 ≤ t.1 ∧ t.1 ≤ 3) (h1 : ¬ isDevT t = true) (h2 : ¬ (t.1 = 2 ∧ isSup t.2.1 = true)) : takeP (SO x1 x2 x3 data D m nx sum) t = .error (t.2.2.2, 16) := take_bad (by
  unfold fitsP
  rw [if_neg (by simp [SO])]
  split
  · rename_i hk2
    show (t.2.1.toList == sSuper.toList) = false
    rw [Bool.eq_false_iff]
    intro he
    have hb := bytes_list (a := t.2.1) (b := sSuper) (by simpa using he)
    exact h2 ⟨hk2, by rw [hb]; exact isSup_s⟩
  · rename_i hk2
    split
    · show sSuper.toList.isEmpty = false
      rw [Lib.toList_data]; rfl
    · split
      · rename_i hd
        exfalso
        apply h1
        simp only [isDevT, hd, Bool.and_true, Bool.or_eq_true, decide_eq_true_eq]
        omega
      · split
        · show (isDev sSuper && decide (t.1 = 3)) = false
          rw [isDev_s]; rfl
        · rfl)
theorem fold_devs {N x1 x2 x3 data : Int} {o : List (ByteArray × Int)} (hp : x1 = gv o sTx ∧ x2 = gv o sTime ∧ x3 = gv o sUnit ∧ data = gv o sData) : ∀ (n : Nat) (T : List Ti) (D : List Dv) (m nx sum : Int), T.length ≤ n → (∀ t ∈ T, 1 ≤ t.1 ∧ t.1 ≤ 3) →
    foldE N (SO x1 x2 x3 data D m nx sum) T = supEndX N o (devsX N data n D sum T)
  | n, [], D, m, nx, sum, _, _ => by
    have : devsX N data n D sum [] = .ok (D, sum, []) := by cases n <;> rfl
    rw [this]
    rfl
  | 0, t :: T, D, m, nx, sum, hl, _ => by simp at hl
  | n + 1, t :: T, D, m, nx, sum, hl, hk => by
    unfold devsX
    by_cases hd : isDevT t = true
    · rw [if_pos hd]
      obtain ⟨i1, i2⟩ := fold_dev (N := N) (x1 := x1) (x2 := x2) (x3 := x3) (data := data) (D := D) (m := m) (nx := nx) (sum := sum) hk hd
      cases hx : devX N data D sum t T with
      | error e => rw [i1 e hx]; rfl
      | ok y =>
        obtain ⟨D', sum', L⟩ := y
        obtain ⟨⟨m', nx', q1⟩, q2, q3⟩ := i2 D' sum' L hx
        rw [q1]
        simp only [List.length_cons] at hl
        exact fold_devs hp n L D' m' nx' sum' (by omega) (fun x hx => hk x (by simp [q2 x hx]))
    · rw [if_neg hd, foldE_cons]
      unfold supEndX
      dsimp only
      by_cases hc : t.1 = 2 ∧ isSup t.2.1 = true
      · rw [if_pos hc, take_supEnd hc.1 hc.2]
        dsimp only
        rw [foldE_ended rfl]
        obtain ⟨rfl, rfl, rfl, rfl⟩ := hp
        rfl
      · rw [if_neg hc, take_supBad (hk t (by simp)) hd hc]
theorem fold_parse {N : Int} {T : List Ti} (hk : ∀ t ∈ T, 1 ≤ t.1 ∧ t.1 ≤ 3) (hn : ∀ t ∈ T, t.2.1 ≠ ⟨#[]⟩) : foldE N initP T = parseX N T := by
  cases T with
  | nil => rfl
  | cons t L =>
    unfold parseX
    dsimp only
    rw [foldE_cons]
    by_cases hs : isSupT t = true
    · rw [if_pos hs]
      simp only [isSupT, Bool.and_eq_true, Bool.or_eq_true, decide_eq_true_eq] at hs
      obtain ⟨hkd, hs⟩ := hs
      have hnm := isSup_eq hs
      obtain ⟨kd, nm, ats, at_⟩ := t
      dsimp only at hkd hnm
      subst hnm
      have hko : kOf sSuper = kSuper := by simp [kOf, isSup_s]
      have htake : takeP initP (kd, sSuper, ats, at_) = (match numsL true kSuper at_ ats [] with
          | .error e => .error e
          | .ok o => .ok (superP initP kd o)) := by
        unfold takeP
        dsimp only
        rw [if_neg (by
          unfold fitsP
          rw [if_neg (by simp [initP]), if_neg (by omega), isSup_s, if_pos rfl]
          show ¬ (⟨#[]⟩ : ByteArray).toList.isEmpty = false
          rw [Lib.toList_data]; simp), if_neg (by omega), isSup_s, hko]
        cases numsL true kSuper at_ ats [] with
        | error e => rfl
        | ok o => dsimp only; exact does1 _ _ _ _ _
      rw [htake]
      dsimp only
      cases ho : numsL true kSuper at_ ats [] with
      | error e => rfl
      | ok o =>
        dsimp only
        rcases hkd with rfl | rfl
        · rw [if_pos rfl]
          have : superP initP 1 o = SO (gv o sTx) (gv o sTime) (gv o sUnit) (gv o sData) [] 0 0 0 := rfl
          rw [this]
          exact fold_devs ⟨rfl, rfl, rfl, rfl⟩ L.length L [] 0 0 0 (Nat.le_refl _) (fun x hx => hk x (by simp [hx]))
        · rw [if_neg (by decide), foldE_ended rfl]
          rfl
    · rw [if_neg hs]
      have : takeP initP t = .error (t.2.2.2, 16) := take_bad (by
        have hkt := hk t (by simp)
        have hnt := hn t (by simp)
        unfold fitsP
        rw [if_neg (by simp [initP])]
        split
        · show (t.2.1.toList == (⟨#[]⟩ : ByteArray).toList) = false
          rw [Bool.eq_false_iff]
          intro he
          exact hnt (bytes_list (by simpa using he))
        · rename_i hk2
          split
          · rename_i h1
            exfalso
            apply hs
            simp only [isSupT, h1, Bool.and_true, Bool.or_eq_true, decide_eq_true_eq]
            omega
          · split
            · show isSup (⟨#[]⟩ : ByteArray) = false
              exact isSup_e
            · split
              · show (isDev (⟨#[]⟩ : ByteArray) && decide (t.1 = 3)) = false
                rw [isDev_e]; rfl
              · rfl)
      rw [this]
/-- What the reference's Parse tells. -/
theorem parse_ref (s : ByteArray) : parseP s = (match tagsP s with | .error e => .error ((e.1 : Int), (e.2 : Int)) | .ok L => parseX (s.size : Int) (L.map tOf)) := by
  unfold parseP
  cases hL : tagsP s with
  | error e => rfl
  | ok L =>
    dsimp only
    have hf := (tagsP_fine hL).1
    rw [← fold_parse (N := (s.size : Int)) (T := L.map tOf) (fun t ht => by
      obtain ⟨y, hy, rfl⟩ := List.mem_map.1 ht
      exact (tOf_fine (hf y hy)).2.2.2.2) (fun t ht => by
      obtain ⟨y, hy, rfl⟩ := List.mem_map.1 ht
      exact (tOf_fine (hf y hy)).1)]
    rfl
end Go.Proofs.Ytcblakflhheepaa
