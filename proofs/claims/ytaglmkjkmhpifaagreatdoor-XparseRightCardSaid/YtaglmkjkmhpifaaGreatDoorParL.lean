/- Chapter 43: lives; the law XparseBack. -/
import Derived.Test.YtaglmkjkmhpifaaGreatDoorParJ
import Derived.Test.YtaglmkjkmhpifaaGreatDoorXmlE
import Derived.Test.YtaglmkjkmhpifaaGreatDoorXmlF
import Derived.Test.YtaglmkjkmhpifaaGreatDoorFewA
import Derived.Test.YtaglmkjkmhpifaaGreatDoorPoolE
namespace Go.Proofs.YtaglmkjkmhpifaaGreatDoor
open Go.RowKit
set_option linter.unusedVariables false
set_option linter.unusedSimpArgs false

/-! a number's text is read as the number -/
theorem dec_head (u : Nat) : 1 ≤ u → ∃ c r, Lib.decDigits u = c :: r ∧ 48 < c.toNat := by
  induction u using Nat.strongRecOn with
  | ind u ih =>
    intro h1
    by_cases h : u < 10
    · exact ⟨_, [], Lib.decDigits_one h, by rw [dig_byte u h]; omega⟩
    · obtain ⟨c, r, h2, h3⟩ := ih (u / 10) (by omega) (by omega)
      exact ⟨c, r ++ [UInt8.ofNat (48 + u % 10)], by rw [dec_big h, h2]; rfl, h3⟩
theorem numF_snoc {c : UInt8} : ∀ {l : List UInt8} {n m : Int}, numF l n = some m → ¬ (4611686018427387904 - ((c.toNat : Int) - 48)) / 10 < m → numF (l ++ [c]) n = some (m * 10 + ((c.toNat : Int) - 48))
  | [], n, m, h, hm => by
    injection h with h
    subst h
    simp only [List.nil_append, numF]
    rw [if_neg hm]
  | x :: l, n, m, h, hm => by
    simp only [List.cons_append]
    unfold numF at h ⊢
    split at h
    · cases h
    · rename_i hx
      rw [if_neg hx]
      exact numF_snoc h hm
theorem numF_dec (u : Nat) : (u : Int) ≤ 4611686018427387904 → numF (Lib.decDigits u) 0 = some (u : Int) := by
  induction u using Nat.strongRecOn with
  | ind u ih =>
    intro hu
    by_cases h : u < 10
    · rw [Lib.decDigits_one h]
      have := dig_byte u h
      unfold numF
      rw [if_neg (by omega), this]
      unfold numF
      congr 1
      omega
    · rw [dec_big h]
      have h2 := ih (u / 10) (by omega) (by omega)
      have h3 := dig_byte (u % 10) (by omega)
      rw [numF_snoc h2 (by rw [h3]; omega), h3]
      congr 1
      omega
theorem tw_all {α : Type} {p : α → Bool} : ∀ {l : List α}, (∀ x ∈ l, p x = true) → l.takeWhile p = l
  | [], _ => rfl
  | x :: l, h => by
    rw [List.takeWhile_cons, if_pos (h x (by simp)), tw_all (fun y hy => h y (by simp [hy]))]
theorem numP_dig {n : Int} (h0 : 0 ≤ n) (h1 : n ≤ 4611686018427387904) : numP (dig n) = (n, 0) := by
  have hd : (dig n).data.toList = Lib.decDigits n.toNat := by rw [dig_list]; unfold Lib.itoa; rw [if_neg (by omega)]
  have hlen : (dig n).data.toList.length = (dig n).size := by simp
  have hmem : ∀ c ∈ (dig n).data.toList, 48 ≤ c.toNat ∧ c.toNat ≤ 57 := by rw [hd]; exact dec_mem _
  have hl1 := dec_len n.toNat
  rw [← hd] at hl1
  have hne : (dig n).toList.isEmpty = false := by
    rw [Lib.toList_data]
    cases he : (dig n).data.toList with
    | nil => rw [he] at hl1; simp at hl1
    | cons c r => rfl
  have he : endB digB (dig n) 0 = (dig n).size := by
    unfold endB
    rw [List.drop_zero, tw_all (fun c hc => by have := hmem c hc; simp [digB]; omega)]
    omega
  have hz : (decide (1 < (dig n).size) && decide (byt (dig n) 0 = 48)) = false := by
    by_cases hs : 1 < (dig n).size
    · have hn : 1 ≤ n.toNat := by
        refine Classical.byContradiction fun hc => ?_
        have hn0 : n.toNat = 0 := by omega
        rw [hn0, Lib.decDigits_one (by omega)] at hd
        rw [hd] at hlen
        simp at hlen
        omega
      obtain ⟨c, r, hc, hc2⟩ := dec_head _ hn
      have hb : byt (dig n) 0 = (c.toNat : Int) := by
        unfold byt
        rw [hd, hc]
        rfl
      have : ¬ byt (dig n) 0 = 48 := by rw [hb]; omega
      simp [this]
    · simp [hs]
  have hf : formB (dig n) = true := by
    unfold formB
    rw [hne, hz, he]
    simp
  unfold numP
  rw [if_pos hf, hd, numF_dec _ (by omega)]
  simp
  omega

/-! the attributes of a tag -/
def putAll (L : List Nm) (out : List (ByteArray × Int)) : List (ByteArray × Int) := L.foldl (fun o x => putA x.1 x.2 o) out
def OkN (sup : Bool) (l : List (ByteArray × Int × Int)) (x : Nm) : Prop := (sup && isUuid x.1) = false ∧ ∃ lo hi, assoc x.1 l = some (lo, hi) ∧ lo ≤ x.2 ∧ x.2 ≤ hi ∧ 0 ≤ x.2 ∧ x.2 ≤ 4611686018427387904
theorem numsL_all {sup : Bool} {l : List (ByteArray × Int × Int)} {at_ : Int} : ∀ {L : List Nm} {out : List (ByteArray × Int)}, (∀ x ∈ L, OkN sup l x) → l.length ≤ (putAll L out).length → numsL sup l at_ (L.map attrN) out = .ok (putAll L out)
  | [], out, _, hl => by
    have hl' : l.length ≤ out.length := hl
    show (if out.length < l.length then (Except.error (at_, 18) : Except (Int × Int) (List (ByteArray × Int))) else .ok out) = .ok out
    rw [if_neg (by omega)]
  | x :: L, out, h, hl => by
    obtain ⟨h1, lo, hi, h2, h3, h4, h5, h6⟩ := h x (by simp)
    rw [List.map_cons, numsL_cons]
    have hn : numP (attrN x).2.1 = (x.2, 0) := numP_dig h5 h6
    have h1' : (sup && isUuid (attrN x).1) = false := h1
    have h2' : assoc (attrN x).1 l = some (lo, hi) := h2
    rw [h1', h2', hn]
    simp only [Bool.false_eq_true, if_false]
    rw [if_neg (by decide), if_neg (by omega)]
    exact numsL_all (fun y hy => h y (by simp [hy])) hl
/-! places don't matter where there is no error -/
theorem numsL_era {sup : Bool} {l : List (ByteArray × Int × Int)} {at_ at' : Int} : ∀ {ats ats' : List Ai} {out o : List (ByteArray × Int)}, ats.map eraA = ats'.map eraA → numsL sup l at_ ats out = .ok o → numsL sup l at' ats' out = .ok o
  | [], [], out, o, _, h => by
    unfold numsL at h ⊢
    split at h
    · cases h
    · rename_i h2; rw [if_neg h2]; exact h
  | [], _ :: _, out, o, he, h => by simp at he
  | _ :: _, [], out, o, he, h => by simp at he
  | a :: r, a' :: r', out, o, he, h => by
    simp only [List.map_cons, List.cons.injEq, eraA, Prod.mk.injEq] at he
    obtain ⟨⟨e1, e2⟩, e3⟩ := he
    rw [numsL_cons] at h ⊢
    rw [← e1, ← e2]
    split at h
    · rename_i h1; rw [if_pos h1]; exact numsL_era e3 h
    · rename_i h1
      rw [if_neg h1]
      split at h
      · cases h
      · rename_i lo hi hk
        split at h
        · cases h
        · rename_i h2
          rw [if_neg h2]
          split at h
          · cases h
          · rename_i h3
            rw [if_neg h3]
            exact numsL_era e3 h
theorem closeP_era {s s' : Ps} {a a' : Int} (h : closeP s a = .ok s') : closeP s a' = .ok s' := by
  unfold closeP at h ⊢
  split at h
  · cases h
  · rename_i h1; rw [if_neg h1]; exact h
theorem runP_era {s s' : Ps} {a a' : Int} {r : Rn} (h : runP s a r = .ok s') : runP s a' r = .ok s' := by
  unfold runP at h ⊢
  split at h
  · cases h
  · rename_i h1
    rw [if_neg h1]
    split at h
    · cases h
    · rename_i h2; rw [if_neg h2]; exact h
theorem deviceP_era {s s' : Ps} {kd a a' : Int} {out : List (ByteArray × Int)} (h : deviceP s kd a out = .ok s') : deviceP s kd a' out = .ok s' := by
  unfold deviceP at h ⊢
  split at h
  · cases h
  · rename_i h1
    rw [if_neg h1]
    split at h
    · cases h
    · rename_i h2
      rw [if_neg h2]
      split at h
      · rename_i h3; rw [if_pos h3]; exact closeP_era h
      · rename_i h3; rw [if_neg h3]; exact h
theorem takeP_era {s s' : Ps} {t t' : Ti} (he : eraT t = eraT t') (h : takeP s t = .ok s') : takeP s t' = .ok s' := by
  obtain ⟨kd, nm, ats, at_⟩ := t
  obtain ⟨kd', nm', ats', at'⟩ := t'
  simp only [eraT, Prod.mk.injEq] at he
  obtain ⟨rfl, rfl, e3⟩ := he
  unfold takeP at h ⊢
  dsimp only at h ⊢
  split at h
  · cases h
  · rename_i h1
    rw [if_neg h1]
    split at h
    · rename_i h2
      rw [if_pos h2]
      split at h
      · rename_i h3; rw [if_pos h3]; exact closeP_era h
      · rename_i h3; rw [if_neg h3]; exact h
    · rename_i h2
      rw [if_neg h2]
      split at h
      · cases h
      · rename_i out ho
        rw [numsL_era e3 ho]
        dsimp only
        unfold doesP at h ⊢
        dsimp only at h ⊢
        split at h
        · rename_i h3; rw [if_pos h3]; exact h
        · rename_i h3
          rw [if_neg h3]
          split at h
          · rename_i h4; rw [if_pos h4]; exact deviceP_era h
          · rename_i h4
            rw [if_neg h4]
            split at h
            · rename_i h5; rw [if_pos h5]; exact runP_era h
            · rename_i h5; rw [if_neg h5]; exact runP_era h
theorem foldP_era : ∀ {L L' : List Ti} {s s' : Ps}, L.map eraT = L'.map eraT → foldP s L = .ok s' → foldP s L' = .ok s'
  | [], [], s, s', _, h => h
  | [], _ :: _, s, s', he, h => by simp at he
  | _ :: _, [], s, s', he, h => by simp at he
  | t :: L, t' :: L', s, s', he, h => by
    simp only [List.map_cons, List.cons.injEq] at he
    rw [foldP_cons] at h ⊢
    cases ht : takeP s t with
    | error e => rw [ht] at h; cases h
    | ok s1 =>
      rw [ht] at h
      rw [takeP_era he.1 ht]
      exact foldP_era he.2 h
theorem foldP_app : ∀ {L L' : List Ti} {s s1 : Ps}, foldP s L = .ok s1 → foldP s (L ++ L') = foldP s1 L'
  | [], L', s, s1, h => by injection h with h; subst h; rfl
  | t :: L, L', s, s1, h => by
    rw [List.cons_append, foldP_cons]
    rw [foldP_cons] at h
    cases ht : takeP s t with
    | error e => rw [ht] at h; cases h
    | ok s2 => rw [ht] at h; exact foldP_app h
theorem foldP_one {t : Ti} {s s1 : Ps} (h : takeP s t = .ok s1) : foldP s [t] = .ok s1 := by rw [foldP_cons, h]; rfl

/-! a pool's tags, one by one -/
def SS (p : Pl) (L : List Dv) (m nx : Int) : Ps := ⟨p.1, p.2.1, p.2.2.1, p.2.2.2.1, L, m, nx, cntL L, sSuper, false⟩
theorem inB_le {n lo hi : Int} (h : inB n lo hi = true) : lo ≤ n ∧ n ≤ hi := inB_true h
theorem okN_of {sup : Bool} {l : List (ByteArray × Int × Int)} {k : ByteArray} {n lo hi : Int} (h1 : (sup && isUuid k) = false) (h2 : assoc k l = some (lo, hi)) (h3 : lo ≤ n ∧ n ≤ hi) (h4 : 0 ≤ lo) (h5 : hi ≤ 281474976710655) : OkN sup l (k, n) := ⟨h1, lo, hi, h2, by dsimp only; omega, by dsimp only; omega, by dsimp only; omega, by dsimp only; omega⟩
theorem uuid_no {k : ByteArray} (h : (k.data.toList == [117, 117, 105, 100]) = false) (sup : Bool) : (sup && isUuid k) = false := by
  unfold isUuid
  rw [Lib.toList_data, h]; simp
theorem head_ok {p : Pl} (h : chkE p = 0) : takeP initP (headT p) = .ok (SS p [] 0 0) := by
  have h' := h
  unfold chkE at h
  split at h
  · rename_i h1
    simp only [Bool.and_eq_true, timesB, allT, List.all_cons, List.all_nil, Bool.and_true] at h1
    obtain ⟨⟨⟨a1, a2⟩, a3⟩, a4⟩ := h1
    have hk : kOf sSuper = kSuper := by simp [kOf, isSup_s]
    have hn : numsL (isSup sSuper) (kOf sSuper) 0 ((sUuid, ⟨#[]⟩, 0) :: (headN p).map attrN) [] = .ok (headN p) := by
      rw [hk, isSup_s, numsL_cons, if_pos (by unfold isUuid; rw [Lib.toList_data]; decide)]
      have hall := numsL_all (sup := true) (l := kSuper) (at_ := 0) (L := headN p) (out := []) (fun x hx => by
        simp only [headN, List.mem_cons, List.not_mem_nil, or_false] at hx
        rcases hx with rfl | rfl | rfl | rfl
        · exact okN_of (uuid_no (by decide) _) rfl (inB_le a2) (by decide) (by decide)
        · exact okN_of (uuid_no (by decide) _) rfl (inB_le a1) (by decide) (by decide)
        · exact okN_of (uuid_no (by decide) _) rfl (inB_le a3) (by decide) (by decide)
        · exact okN_of (uuid_no (by decide) _) rfl (inB_le a4) (by decide) (by decide)) (Nat.le_refl 4)
      exact hall
    unfold takeP headT
    dsimp only
    rw [if_neg (by
      unfold fitsP
      rw [if_neg (by decide), if_neg (by decide), if_pos isSup_s]
      show ¬ ((⟨#[]⟩ : ByteArray).toList.isEmpty = false)
      rw [Lib.toList_data]; decide), if_neg (by decide), hn]
    dsimp only
    rw [does1]
    rfl
  · cases h
theorem fits_close {s : Ps} {nm : ByteArray} (he : s.ended = false) (hi : s.inside = nm) : ¬ fitsP s 2 nm = false := by
  unfold fitsP
  rw [he, hi, if_neg (by simp), if_pos rfl]
  simp
theorem end_ok {p : Pl} {L : List Dv} {m nx : Int} : takeP (SS p L m nx) (endT sSuper) = .ok { SS p L m nx with ended := true } := by
  unfold takeP endT
  dsimp only
  rw [if_neg (fits_close (s := SS p L m nx) (nm := sSuper) rfl rfl), if_pos rfl, if_neg (by rw [isDev_s]; simp)]
/-- Within a device. -/
def SD (p : Pl) (L : List Dv) (d : Dv) (ms : List Mp) (m nx : Int) : Ps := ⟨p.1, p.2.1, p.2.2.1, p.2.2.2.1, L ++ [(d.1, d.2.1, d.2.2.1, d.2.2.2.1, ms)], m, nx, (cntL L : Int) + ms.length, sDevice, false⟩
theorem dev_ok {p : Pl} {L : List Dv} {d : Dv} {m nx : Int} (hd : devE d (lastId (-1) L) = 0) (hl : L.length < 4096) (hml : d.2.2.2.2.length ≤ 16384) : takeP (SS p L m nx) (devT d) = .ok (SD p L d [] d.2.2.2.2.length 0) := by
  unfold devE at hd
  split at hd
  · rename_i h1
    split at hd
    · cases hd
    · rename_i h2
      simp only [Bool.and_eq_true, timesB, allT, List.all_cons, List.all_nil, Bool.and_true] at h1
      obtain ⟨a1, a2, a3, a4⟩ := h1
      have hk : kOf sDevice = kDevice := by simp [kOf, isSup_d, isDev_d]
      have hn : numsL (isSup sDevice) (kOf sDevice) 0 ((devN d).map attrN) [] = .ok (devN d) := by
        rw [hk, isSup_d]
        have hall := numsL_all (sup := false) (l := kDevice) (at_ := 0) (L := devN d) (out := []) (fun x hx => by
          simp only [devN, List.mem_cons, List.not_mem_nil, or_false] at hx
          rcases hx with rfl | rfl | rfl | rfl | rfl
          · exact okN_of rfl rfl (inB_le a1) (by decide) (by decide)
          · exact okN_of rfl rfl (show (0 : Int) ≤ (d.2.2.2.2.length : Int) ∧ (d.2.2.2.2.length : Int) ≤ 16384 by omega) (by decide) (by decide)
          · exact okN_of rfl rfl (inB_le a2) (by decide) (by decide)
          · exact okN_of rfl rfl (inB_le a3) (by decide) (by decide)
          · exact okN_of rfl rfl (inB_le a4) (by decide) (by decide)) (Nat.le_refl 5)
        exact hall
      unfold takeP devT
      dsimp only
      rw [if_neg (by
        unfold fitsP
        rw [if_neg (by simp [SS]), if_neg (by decide), if_neg (by rw [isSup_d]; simp), if_pos isDev_d]
        show ¬ isSup sSuper = false
        rw [isSup_s]; simp), if_neg (by decide), hn]
      dsimp only
      rw [does2]
      unfold deviceP
      have hlate : lateP (SS p L m nx).devs (gv (devN d) sId) = false := by
        have hg : gv (devN d) sId = d.1 := rfl
        rw [hg]
        show lateP L d.1 = false
        unfold lateP
        unfold lastId at h2
        cases hq : L.getLast? with
        | none => rfl
        | some x => rw [hq] at h2; simpa using h2
      rw [if_neg (by show ¬ (4096 : Int) ≤ (L.length : Int); omega), hlate, if_neg (by simp), if_neg (by decide)]
      have : openP (SS p L m nx) (devN d) = SD p L d [] d.2.2.2.2.length 0 := by
        unfold openP SD SS
        simp [cntL]
        exact ⟨rfl, rfl⟩
      rw [this]
  · cases hd
theorem devEnd_ok {p : Pl} {L : List Dv} {d : Dv} {m nx : Int} (hm : m = d.2.2.2.2.length) : takeP (SD p L d d.2.2.2.2 m nx) (endT sDevice) = .ok (SS p (L ++ [d]) m nx) := by
  subst hm
  unfold takeP endT
  dsimp only
  rw [if_neg (fits_close (s := SD p L d d.2.2.2.2 d.2.2.2.2.length nx) (nm := sDevice) rfl rfl), if_pos rfl, if_pos isDev_d]
  unfold closeP
  have hlm : lastMaps (SD p L d d.2.2.2.2 d.2.2.2.2.length nx).devs = d.2.2.2.2 := by simp [SD, lastMaps]
  rw [hlm, if_neg (by simp [SD])]
  simp [SD, SS, cntL_snoc]
theorem run1_ok {p : Pl} {L : List Dv} {d : Dv} {ms : List Mp} {m nx : Int} {r : Rn} {N : Nat} (hN : r.2.2.1 = (N : Int)) (h1 : 1 ≤ N) (h2 : nx ≤ r.1) (h0 : 0 ≤ r.1) (h3 : r.1 + (N : Int) - 1 ≤ 281474976710655) (h4 : 0 ≤ r.2.1) (h5 : r.2.1 + (N : Int) ≤ p.2.2.2.1) (h6 : 0 ≤ r.2.2.2 ∧ r.2.2.2 ≤ 16777215)
    (hd : p.2.2.2.1 ≤ 65536) (hs : cntL L + ms.length + N ≤ 16384) : takeP (SD p L d ms m nx) (runT r) = .ok (SD p L d (ms ++ mapsR r N) m (r.1 + (N : Int))) := by
  have hrun : ∀ at_, runP (SD p L d ms m nx) at_ r = .ok (SD p L d (ms ++ mapsR r N) m (r.1 + (N : Int))) := by
    intro at_
    unfold runP
    have hNt : r.2.2.1.toNat = N := by omega
    rw [if_neg (by simp only [SD]; omega), if_neg (by simp only [SD]; omega)]
    rw [hNt, hN]
    simp only [SD, addMs_snoc, List.length_append, mapsR_len]
    congr 2
    push_cast
    omega
  have hfits : ∀ nm, (isSin nm || isRng nm) = true → isSup nm = false → isDev nm = false → ¬ fitsP (SD p L d ms m nx) 3 nm = false := by
    intro nm q1 q2 q3
    unfold fitsP
    rw [if_neg (by simp [SD]), if_neg (by decide), if_neg (by rw [q2]; simp), if_neg (by rw [q3]; simp), if_pos q1]
    show ¬ (isDev sDevice && decide ((3 : Int) = 3)) = false
    rw [isDev_d]; simp
  unfold runT
  split
  · rename_i h7
    have hk : kOf sSingle = kSingle := by simp [kOf, isSup_1, isDev_1, isSin_1]
    have hn : numsL (isSup sSingle) (kOf sSingle) 0 ((oneN r).map attrN) [] = .ok (oneN r) := by
      rw [hk, isSup_1]
      have hall := numsL_all (sup := false) (l := kSingle) (at_ := 0) (L := oneN r) (out := []) (fun x hx => by
        simp only [oneN, List.mem_cons, List.not_mem_nil, or_false] at hx
        rcases hx with rfl | rfl | rfl
        · exact okN_of rfl rfl (show (0 : Int) ≤ r.1 ∧ r.1 ≤ 281474976710655 by omega) (by decide) (by decide)
        · exact okN_of rfl rfl (show (0 : Int) ≤ r.2.1 ∧ r.2.1 ≤ 65535 by omega) (by decide) (by decide)
        · exact okN_of rfl rfl h6 (by decide) (by decide)) (Nat.le_refl 3)
      exact hall
    unfold takeP
    dsimp only
    rw [if_neg (hfits _ (by rw [isSin_1]; rfl) isSup_1 isDev_1), if_neg (by decide), hn]
    dsimp only
    rw [does3]
    have : oneRn (oneN r) = r := by
      show (r.1, r.2.1, (1 : Int), r.2.2.2) = r
      rw [← h7]
    rw [this]
    exact hrun _
  · rename_i h7
    have hk : kOf sRange = kRange := by simp [kOf, isSup_r, isDev_r, isSin_r]
    have hn : numsL (isSup sRange) (kOf sRange) 0 ((rngN r).map attrN) [] = .ok (rngN r) := by
      rw [hk, isSup_r]
      have hall := numsL_all (sup := false) (l := kRange) (at_ := 0) (L := rngN r) (out := []) (fun x hx => by
        simp only [rngN, List.mem_cons, List.not_mem_nil, or_false] at hx
        rcases hx with rfl | rfl | rfl | rfl
        · exact okN_of rfl rfl (show (0 : Int) ≤ r.1 ∧ r.1 ≤ 281474976710655 by omega) (by decide) (by decide)
        · exact okN_of rfl rfl (show (0 : Int) ≤ r.2.1 ∧ r.2.1 ≤ 65535 by omega) (by decide) (by decide)
        · exact okN_of rfl rfl (show (1 : Int) ≤ r.2.2.1 ∧ r.2.2.1 ≤ 16384 by omega) (by decide) (by decide)
        · exact okN_of rfl rfl h6 (by decide) (by decide)) (Nat.le_refl 4)
      exact hall
    unfold takeP
    dsimp only
    rw [if_neg (hfits _ (by rw [isRng_r]; simp) isSup_r isDev_r), if_neg (by decide), hn]
    dsimp only
    rw [does4]
    have : rngRn (rngN r) = r := rfl
    rw [this]
    exact hrun _
theorem mapE_mem {data : Int} {l : List Mp} {last : Int} (h : mapE data last l = 0) {m : Mp} (hm : m ∈ l) : (0 ≤ m.1 ∧ m.1 ≤ 281474976710655) ∧ (0 ≤ m.2.1 ∧ m.2.1 ≤ data - 1) ∧ (0 ≤ m.2.2 ∧ m.2.2 ≤ 16777215) := by
  have h1 := mapE_zero h m hm
  simp only [mapB, Bool.and_eq_true] at h1
  exact ⟨inB_true h1.1.1, inB_true h1.1.2, inB_true h1.2⟩
theorem mapE_first {data : Int} {m : Mp} {l : List Mp} {last : Int} (h : mapE data last (m :: l) = 0) : last < m.1 := by
  unfold mapE at h
  split at h
  · split at h
    · cases h
    · omega
  · cases h
theorem runs_ok {p : Pl} {L : List Dv} {d : Dv} {m : Int} (hd : p.2.2.2.1 ≤ 65536) : ∀ (rs : List Rn) (ms : List Mp) (nx : Int), (∀ a ∈ rs, 1 ≤ a.2.2.1) → 0 ≤ nx → mapE p.2.2.2.1 (nx - 1) (mapsOf rs) = 0 → cntL L + ms.length + (mapsOf rs).length ≤ 16384 →
    ∃ nx', foldP (SD p L d ms m nx) (rs.map runT) = .ok (SD p L d (ms ++ mapsOf rs) m nx')
  | [], ms, nx, _, _, _, _ => ⟨nx, by simp [mapsOf, foldP]⟩
  | r :: rs, ms, nx, hp, hnx, hm, hs => by
    have h1 := hp r (by simp)
    obtain ⟨N, hN⟩ := Int.eq_ofNat_of_zero_le (show 0 ≤ r.2.2.1 by omega)
    obtain ⟨M, rfl⟩ : ∃ M, N = M + 1 := ⟨N - 1, by omega⟩
    have hNt : r.2.2.1.toNat = M + 1 := by omega
    have hmo : mapsOf (r :: rs) = mapsR r (M + 1) ++ mapsOf rs := by simp [mapsOf, hNt]
    rw [hmo] at hm hs ⊢
    rw [mapE_app] at hm
    obtain ⟨m1, m2⟩ := hm
    have hfirst : nx - 1 < r.1 := by
      have : mapsR r (M + 1) = nextM (mOf r) 0 :: ((List.range M).map fun j => nextM (mOf r) (j + 1)) := by
        simp [mapsR, List.range_succ_eq_map]
      rw [this] at m1
      have := mapE_first m1
      simpa [nextM, mOf] using this
    have hlast := mapE_mem m1 (m := nextM (mOf r) M) (by rw [mapsR_succ]; simp)
    have hzero := mapE_mem m1 (m := nextM (mOf r) 0) (by simp only [mapsR, List.mem_map, List.mem_range]; exact ⟨0, by omega, rfl⟩)
    simp only [nextM, mOf] at hlast hzero
    have hlv : lastV (nx - 1) (mapsR r (M + 1)) = r.1 + ((M + 1 : Nat) : Int) - 1 := by
      rw [mapsR_succ]
      simp [lastV, nextM, mOf]
      omega
    rw [hlv] at m2
    simp only [List.length_append, mapsR_len] at hs
    have hstep := run1_ok (p := p) (L := L) (d := d) (ms := ms) (m := m) (nx := nx) (r := r) (N := M + 1) hN (by omega) (by omega) (by omega) (by omega) (by omega) (by omega) (by omega) hd (by omega)
    obtain ⟨nx', hrest⟩ := runs_ok (p := p) (L := L) (d := d) (m := m) hd rs (ms ++ mapsR r (M + 1)) (r.1 + ((M + 1 : Nat) : Int)) (fun a ha => hp a (by simp [ha])) (by omega) m2 (by simp only [List.length_append, mapsR_len]; omega)
    refine ⟨nx', ?_⟩
    rw [List.map_cons, foldP_cons, hstep]
    dsimp only
    rw [hrest, List.append_assoc]
theorem addR_pos (l : List Rn) (x : Rn) (h : ∀ a ∈ l, 1 ≤ a.2.2.1) (hx : 1 ≤ x.2.2.1) : ∀ a ∈ addR l x, 1 ≤ a.2.2.1 := by
  rcases List.eq_nil_or_concat l with rfl | ⟨l0, a, rfl⟩
  · simpa [addR] using hx
  · rw [List.concat_eq_append] at *
    rw [addR_snoc]
    have ha := h a (by simp)
    intro b hb
    split at hb
    · simp at hb
      rcases hb with hb | rfl
      · exact h b (by simp [hb])
      · dsimp only; omega
    · simp at hb
      rcases hb with hb | rfl | rfl
      · exact h b (by simp [hb])
      · exact ha
      · exact hx
theorem runsOf_pos (l : List Mp) : ∀ a ∈ runsOf l, 1 ≤ a.2.2.1 := by
  refine snoc_ind (p := fun l => ∀ a ∈ runsOf l, 1 ≤ a.2.2.1) (by simp [runsOf]) (fun l m ih => ?_) l
  rw [runsOf_snoc]
  exact addR_pos _ _ ih (by simp [oneR])
theorem devTs_ok {p : Pl} {L : List Dv} {d : Dv} {m nx : Int} (hp : p.2.2.2.1 ≤ 65536) (hd : devE d (lastId (-1) L) = 0) (hm : mapE p.2.2.2.1 (-1) d.2.2.2.2 = 0) (hl : L.length < 4096) (hs : cntL L + d.2.2.2.2.length ≤ 16384) :
    ∃ m' nx', foldP (SS p L m nx) (devTs d) = .ok (SS p (L ++ [d]) m' nx') := by
  have h1 := dev_ok (p := p) (L := L) (d := d) (m := m) (nx := nx) hd hl (by omega)
  have hmr := (mapsOf_runsOf d.2.2.2.2).1
  obtain ⟨nx', h2⟩ := runs_ok (p := p) (L := L) (d := d) (m := (d.2.2.2.2.length : Int)) hp (runsOf d.2.2.2.2) [] 0 (runsOf_pos _) (by omega) (by rw [hmr]; exact hm) (by rw [hmr]; simp; omega)
  rw [hmr, List.nil_append] at h2
  refine ⟨(d.2.2.2.2.length : Int), nx', ?_⟩
  unfold devTs
  rw [foldP_cons, h1]
  dsimp only
  rw [foldP_app h2, foldP_cons, devEnd_ok rfl]
  rfl
theorem devs_ok {p : Pl} (hp : p.2.2.2.1 ≤ 65536) : ∀ (D L : List Dv) (m nx : Int), devsE p.2.2.2.1 (-1) (L ++ D) = 0 → (L ++ D).length ≤ 4096 → cntL (L ++ D) ≤ 16384 → ∃ m' nx', foldP (SS p L m nx) (D.flatMap devTs) = .ok (SS p (L ++ D) m' nx')
  | [], L, m, nx, _, _, _ => ⟨m, nx, by simp [foldP]⟩
  | d :: D, L, m, nx, h, hl, hc => by
    have e : L ++ d :: D = (L ++ [d]) ++ D := by simp
    rw [e] at h hl hc ⊢
    have hpre : ∀ (A B : List Dv) (last : Int), devsE p.2.2.2.1 last (A ++ B) = 0 → devsE p.2.2.2.1 last A = 0 := by
      intro A
      induction A with
      | nil => intro B last _; rfl
      | cons x A ih =>
        intro B last hh
        simp only [List.cons_append, devsE] at hh ⊢
        split at hh
        · rename_i q1
          rw [if_pos q1]
          split at hh
          · rename_i q2; rw [if_pos q2]; exact ih B _ hh
          · rename_i q2; exact absurd hh q2
        · rename_i q1; exact absurd hh q1
    have h1 := hpre _ _ _ h
    rw [devsE_snoc] at h1
    have hc' : cntL ((L ++ [d]) ++ D) = cntL L + d.2.2.2.2.length + cntL D := by simp [cntL]; omega
    simp only [List.length_append, List.length_singleton] at hl
    obtain ⟨m1, nx1, h2⟩ := devTs_ok (p := p) (L := L) (d := d) (m := m) (nx := nx) hp h1.2.1 h1.2.2 (by omega) (by omega)
    obtain ⟨m2, nx2, h3⟩ := devs_ok hp D (L ++ [d]) m1 nx1 h (by simp only [List.length_append, List.length_singleton]; omega) hc
    refine ⟨m2, nx2, ?_⟩
    rw [List.flatMap_cons, foldP_app h2, h3]
theorem xml_fold {p : Pl} (h : chkE p = 0) : ∃ st, foldP initP (xmlTs p) = .ok st ∧ st.ended = true ∧ poolOf st = p := by
  have hk := chk_ok h
  have hh := head_ok h
  have hd : devsE p.2.2.2.1 (-1) p.2.2.2.2 = 0 := by
    unfold chkE at h
    split at h
    · split at h
      · cases h
      · exact h
    · cases h
  obtain ⟨m', nx', h2⟩ := devs_ok (p := p) hk.2.2.2.2.2.2.1.2 p.2.2.2.2 [] 0 0 (by simpa using hd) (by simpa using hk.2.2.2.2.1) (by simpa using hk.2.2.2.2.2.1)
  rw [List.nil_append] at h2
  refine ⟨{ SS p p.2.2.2.2 m' nx' with ended := true }, ?_, rfl, rfl⟩
  unfold xmlTs
  rw [foldP_cons, hh]
  dsimp only
  rw [foldP_app h2, foldP_cons, end_ok]
  rfl
/-- The text of a pool that may be is parsed as the pool. -/
theorem parse_xml {p : Pl} (h : chkE p = 0) : parseP ⟨(xmlL p).toArray⟩ = .ok p := by
  obtain ⟨L', h1, h2⟩ := xml_scan p
  obtain ⟨st, h3, h4, h5⟩ := xml_fold h
  unfold parseP
  rw [h1]
  dsimp only
  rw [foldP_era h2.symm h3]
  dsimp only
  rw [if_pos h4, h5]


theorem xmlOf_size43 {p : Pl} (hc : cntL p.2.2.2.2 ≤ 2000) (hl : p.2.2.2.2.length ≤ 200) : (xmlOf p).1.size ≤ 4000000 := by
  unfold xmlOf
  split
  · rename_i h
    have := xmlL_len h
    show ((xmlL p).toArray).size ≤ 4000000
    simp only [List.size_toArray]
    omega
  · show (0 : Nat) ≤ _
    omega
set_option maxRecDepth 100000 in
set_option maxHeartbeats 8000000 in
theorem xparseBack_any (A : Option Addr) (cap : Nat) (p : Pl) (w : World) (ht : Tab w) (hmx : MaxL w) (h : RdD w w.heap.size A p.2.2.2.2) (hl : p.2.2.2.2.length ≤ 6000000000000) (hm : ∀ d ∈ p.2.2.2.2, d.2.2.2.2.length ≤ 6000000000000) :
    Calls Tryz.prog 3 #[.agg #[.int .i64 p.1, .int .i64 p.2.1, .int .i64 p.2.2.1, .int .i64 p.2.2.2.1, .slice A p.2.2.2.2.length cap]] w fun e w' => e = .returned (.bool true) ∧ Below w.heap.size w w' := by
  obtain ⟨p1, p2, p3, p4, L⟩ := p
  dsimp only at h hl hm
  have HM := hide hm
  have hp := ht.pos
  have hmp := hmx.pos
  have HT := hide ht
  have HX := hide hmx
  clear ht hm hmx
  have hT := Blk.new w 24 #[.int .i64 p1, .int .i64 p2, .int .i64 p3, .int .i64 p4, .slice A L.length cap]
  have hW : Below w.heap.size w (w.alloc (.cells #[.int .i64 p1, .int .i64 p2, .int .i64 p3, .int .i64 p4, .slice A L.length cap] 24)) := (by repeat (first | exact Below.refl _ _ | refine Below.alloc ?_ (by first | (simp; omega) | simp | omega) _ | refine drewN_below ?_ _ | refine Below.drew ?_))
  go_enter Tryz.func3, Tryz.ntmps3
  go_wp2_with (fail)
  generalize w.alloc (.cells #[.int .i64 p1, .int .i64 p2, .int .i64 p3, .int .i64 p4, .slice A L.length cap] 24) = w1 at *
  have hTl := hT.lt
  have hs1 := hW.size
  refine (few18_any A cap (p1, p2, p3, p4, L) w.heap.size w1 hs1 (h.below hW) hl HM.out).mono ?_
  rintro e w2 ⟨rfl, hb2⟩
  have hT2 := hT.below hb2 hTl
  have hTl2 := hT2.lt
  have hW2 := hW.trans (hb2.mono hs1)
  have hs2 := hW2.size
  by_cases hf : fewP (p1, p2, p3, p4, L) = true
  · have hfv : fewV (p1, p2, p3, p4, L) = 1 := by simp [fewV, hf]
    obtain ⟨hf1, hf2⟩ := fewP_true hf
    dsimp only at hf1 hf2
    have hxs := xmlOf_size43 (p := (p1, p2, p3, p4, L)) hf2 hf1
    have hem := xemit_any A cap (p1, p2, p3, p4, L) w2 (HT.out.below hW2 hp) ((h.below hW2).mono hs2) (by dsimp only; omega) (by dsimp only; omega)
    obtain ⟨s, f, hsf⟩ : ∃ s f, xmlOf (p1, p2, p3, p4, L) = (s, f) := ⟨_, _, rfl⟩
    rw [hsf] at hem hxs
    have HSF := hide hsf
    have HEM := hide hem
    have HH := hide h
    dsimp only at hxs
    clear hf hem hsf hb2 h
    have c0 := hT2.cell 0
    have c1 := hT2.cell 1
    have c2 := hT2.cell 2
    have c3 := hT2.cell 3
    have c4 := hT2.cell 4
    simp at c0 c1 c2 c3 c4
    go_wp2_with (fail)
    clear c0 c1 c2 c3 c4
    refine HEM.out.mono ?_
    rintro e w3 ⟨rfl, hb3⟩
    have hT3 := hT2.below hb3 hTl2
    have hTl3 := hT3.lt
    have hW3 := hW2.trans (hb3.mono hs2)
    have hs3 := hW3.size
    clear hT2 hb3 HEM
    by_cases hz : chkE (p1, p2, p3, p4, L) = 0
    · have hsf := HSF.out
      rw [show xmlOf (p1, p2, p3, p4, L) = (⟨(xmlL (p1, p2, p3, p4, L)).toArray⟩, 0) from if_pos hz] at hsf
      injection hsf with hs hf0
      subst hf0
      have hpar := Parse_any s hxs w3 (HX.out.below hW3 hmp)
      rw [← hs, parse_xml hz, hs] at hpar
      have HP := hide hpar
      clear hpar hs hz HSF
      go_wp2_with (fail)
      refine HP.out.mono ?_
      rintro e w4 ⟨A4, cap4, rfl, hR4, hb4⟩
      dsimp only at hR4
      have hT4 := hT3.below hb4 hTl3
      have hW4 := hW3.trans (hb4.mono hs3)
      have hs4 := hW4.size
      have HR4 := hide (hR4.below (show Below w4.heap.size w4 (w4.alloc (.cells #[.int .i64 p1, .int .i64 p2, .int .i64 p3, .int .i64 p4, .slice A4 L.length cap4] 24)) from (by repeat (first | exact Below.refl _ _ | refine Below.alloc ?_ (by first | (simp; omega) | simp | omega) _ | refine drewN_below ?_ _ | refine Below.drew ?_))))
      have hU5 : Blk (w4.alloc (.cells #[.int .i64 p1, .int .i64 p2, .int .i64 p3, .int .i64 p4, .slice A4 L.length cap4] 24)) w4.heap.size 24 #[.int .i64 p1, .int .i64 p2, .int .i64 p3, .int .i64 p4, .slice A4 L.length cap4] := heap_new_at rfl
      have hT5 := hT4.alloc (.cells #[.int .i64 p1, .int .i64 p2, .int .i64 p3, .int .i64 p4, .slice A4 L.length cap4] 24)
      have hW5 := hW4.alloc hs4 (.cells #[.int .i64 p1, .int .i64 p2, .int .i64 p3, .int .i64 p4, .slice A4 L.length cap4] 24)
      have hs5 := hW5.size
      have hz5 : w4.heap.size ≤ (w4.alloc (.cells #[.int .i64 p1, .int .i64 p2, .int .i64 p3, .int .i64 p4, .slice A4 L.length cap4] 24)).heap.size := by simp
      clear hb4 hR4 HP hT3 hT4
      have c0 := hT5.cell 0
      have c1 := hT5.cell 1
      have c2 := hT5.cell 2
      have c3 := hT5.cell 3
      have c4 := hT5.cell 4
      have d0 := hU5.cell 0
      have d1 := hU5.cell 1
      have d2 := hU5.cell 2
      have d3 := hU5.cell 3
      have d4 := hU5.cell 4
      have hTl5 := hT5.lt
      have hUl5 := hU5.lt
      simp at c0 c1 c2 c3 c4 d0 d1 d2 d3 d4
      go_wp2_with (fail)
      generalize (w4.alloc (.cells #[.int .i64 p1, .int .i64 p2, .int .i64 p3, .int .i64 p4, .slice A4 L.length cap4] 24)) = w5 at *
      refine (sameP_is A A4 cap cap4 (p1, p2, p3, p4, L) (p1, p2, p3, p4, L) w5.heap.size w5 (Nat.le_refl _) ((HH.out.below hW5).mono hs5) (HR4.out.mono hz5) (by dsimp only; omega) (fun x hx => by
        obtain ⟨k, hk⟩ := List.getElem?_of_mem hx
        have := len_cntL hk
        dsimp only at this
        omega) true (by simp)).mono ?_
      rintro e w6 ⟨rfl, hb6⟩
      have hW6 := hW5.trans (hb6.mono hs5)
      clear c0 c1 c2 c3 c4 d0 d1 d2 d3 d4 hb6 HR4
      go_wp2_with (fail)
      refine (lives43_any w6 (HX.out.below hW6 hmp)).mono ?_
      rintro e w7 ⟨rfl, hb7⟩
      have hW7 := hW6.trans (hb7.mono hW6.size)
      go_wp2
      go_ret
      exact ⟨rfl, hW7⟩
    · have hsf := HSF.out
      rw [show xmlOf (p1, p2, p3, p4, L) = (⟨#[]⟩, chkE (p1, p2, p3, p4, L)) from if_neg hz] at hsf
      injection hsf with hs hf0
      have hfz : (f != 0) = true := by rw [← hf0]; simpa using hz
      subst hs
      clear hz HSF hf0
      go_wp2_with (fail)
      refine (lives43_any w3 (HX.out.below hW3 hmp)).mono ?_
      rintro e w7 ⟨rfl, hb7⟩
      have hW7 := hW3.trans (hb7.mono hs3)
      go_wp2
      go_ret
      exact ⟨rfl, hW7⟩
  · have hfv : fewV (p1, p2, p3, p4, L) = 0 := by simp [fewV, hf]
    clear hf
    go_wp2_with (fail)
    refine (lives43_any _ (HX.out.below hW2 hmp)).mono ?_
    rintro e w3 ⟨rfl, hb3⟩
    have hw3 := hW2.trans (hb3.mono hs2)
    go_wp2
    go_ret
    exact ⟨rfl, hw3⟩
end Go.Proofs.YtaglmkjkmhpifaaGreatDoor
