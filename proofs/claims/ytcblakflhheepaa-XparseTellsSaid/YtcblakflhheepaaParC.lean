/- Chapter 43: numbers. -/
import Derived.Test.YtcblakflhheepaaParA
import Derived.Test.YtcblakflhheepaaParB
import Derived.Test.YtcblakflhheepaaTagN
namespace Go.Proofs.Ytcblakflhheepaa
open Go.RowKit
set_option linter.unusedVariables false
set_option linter.unusedSimpArgs false

def KnOf (nm : ByteArray) (l : List (ByteArray × Int × Int)) : Prop := (nm = sSuper ∧ l = kSuper) ∨ (nm = sDevice ∧ l = kDevice) ∨ (nm = sSingle ∧ l = kSingle) ∨ (nm = sRange ∧ l = kRange)
def iv (l : List (ByteArray × Int)) : List (ByteArray × Value) := l.map fun x => (x.1, .int .i64 x.2)
def isSup (nm : ByteArray) : Bool := nm.toList == [115, 117, 112, 101, 114, 98, 108, 111, 99, 107]
def isUuid (nm : ByteArray) : Bool := nm.toList == [117, 117, 105, 100]
/-- What numbers finds of a tag's attributes: the numbers by name, or an error at a place. -/
def numsL (sup : Bool) (l : List (ByteArray × Int × Int)) (at_ : Int) : List Ai → List (ByteArray × Int) → Except (Int × Int) (List (ByteArray × Int))
  | [], out => if out.length < l.length then .error (at_, 18) else .ok out
  | a :: r, out =>
    if sup && isUuid a.1 then numsL sup l at_ r out else
    match assoc a.1 l with
    | none => .error (a.2.2, 16)
    | some (lo, hi) =>
      if (numP a.2.1).2 = 7 then .error (a.2.2, 16)
      else if (numP a.2.1).2 ≠ 0 ∨ (numP a.2.1).1 < lo ∨ hi < (numP a.2.1).1 then .error (a.2.2, 2)
      else numsL sup l at_ r (putA a.1 (numP a.2.1).1 out)
theorem numsL_cons {sup : Bool} {l : List (ByteArray × Int × Int)} {at_ : Int} {a : Ai} {r : List Ai} {out : List (ByteArray × Int)} : numsL sup l at_ (a :: r) out =
    if sup && isUuid a.1 then numsL sup l at_ r out else
    match assoc a.1 l with
    | none => .error (a.2.2, 16)
    | some (lo, hi) =>
      if (numP a.2.1).2 = 7 then .error (a.2.2, 16)
      else if (numP a.2.1).2 ≠ 0 ∨ (numP a.2.1).1 < lo ∨ hi < (numP a.2.1).1 then .error (a.2.2, 2)
      else numsL sup l at_ r (putA a.1 (numP a.2.1).1 out) := rfl
theorem known_of {w : World} {β b : Nat} {nm : ByteArray} {l : List (ByteArray × Int × Int)} (h : Known w β b) (hk : KnOf nm l) :
    ∃ es b1, MapAt w b es ∧ assoc nm es = some (.map (some b1)) ∧ b1 < β ∧ MapAt w b1 (kv l) := by
  obtain ⟨h0, b1, b2, b3, b4, ⟨l1, l2, l3, l4⟩, m0, m1, m2, m3, m4⟩ := h
  have e1 : sDevice ≠ sSuper := by decide
  have e2 : sSingle ≠ sSuper := by decide
  have e3 : sRange ≠ sSuper := by decide
  have e4 : sSingle ≠ sDevice := by decide
  have e5 : sRange ≠ sDevice := by decide
  have e6 : sRange ≠ sSingle := by decide
  rcases hk with ⟨rfl, rfl⟩ | ⟨rfl, rfl⟩ | ⟨rfl, rfl⟩ | ⟨rfl, rfl⟩
  · exact ⟨_, b1, m0, by simp [assoc], l1, m1⟩
  · exact ⟨_, b2, m0, by simp [assoc, e1], l2, m2⟩
  · exact ⟨_, b3, m0, by simp [assoc, e2, e4], l3, m3⟩
  · exact ⟨_, b4, m0, by simp [assoc, e3, e5, e6], l4, m4⟩
theorem zeroMapB (w : World) : (zeroValue 137).run Try.prog w = .ok (.map none) w := by kernel_rfl
theorem zeroBound (w : World) : (zeroValue 136).run Try.prog w = .ok (.agg #[.int .i64 0, .int .i64 0]) w := by
  have h : (Try.prog.info? 136).map (·.zero) = some (some (.agg #[.int .i64 0, .int .i64 0])) := by kernel_rfl
  obtain ⟨j, hj, hz⟩ := Option.map_eq_some_iff.1 h
  simp [zeroValue, typeInfo, hj, hz]
theorem zeroInt64 (w : World) : (zeroValue 3).run Try.prog w = .ok (.int .i64 0) w := by kernel_rfl

/-- What numbers hands back. -/
def NumsOut (w : World) (r : Except (Int × Int) (List (ByteArray × Int))) (e : Ending) (w' : World) : Prop :=
  match r with
  | .ok out => ∃ b, e = .returned (.tuple #[.map (some b), .agg #[.int .i64 0, .int .i64 0]]) ∧ MapAt w' b (iv out) ∧ Below w.heap.size w w'
  | .error (p, c) => e = .returned (.tuple #[.map none, .agg #[.int .i64 p, .int .i64 c]]) ∧ Below w.heap.size w w'
theorem fine_any (w : World) : Calls Try.prog 50 #[] w fun e w' => e = .returned (.agg #[.int .i64 0, .int .i64 0]) ∧ Below w.heap.size w w' := by
  have hB := Blk.new w 112 #[.int .i64 0, .int .i64 0]
  have q0 := hB.cell 0
  have q1 := hB.cell 1
  have hb : Below w.heap.size w (w.alloc (.cells #[.int .i64 0, .int .i64 0] 112)) := (by repeat (first | exact Below.refl _ _ | refine Below.alloc ?_ (by first | (simp; omega) | simp | omega) _ | refine drewN_below ?_ _ | refine Below.drew ?_))
  simp at q0 q1
  go_enter Try.func50, Try.ntmps50
  go_wp2
  refine bodyPost_ret (v := .agg #[.int .i64 0, .int .i64 0]) (by simp [results, Try.results50, go_sem]) rfl ?_
  exact ⟨rfl, hb⟩

theorem fail2 {w W : World} {F B : Nat} {x y : Value} (hF : Blk w F 112 #[x, y]) (h : Below B W w) (hB : B ≤ F) (a b : Value) :
    ((w.setCell ⟨F, 0, none⟩ a).setCell ⟨F, 1, none⟩ b).cell? ⟨F, 0, none⟩ = some a ∧ ((w.setCell ⟨F, 0, none⟩ a).setCell ⟨F, 1, none⟩ b).cell? ⟨F, 1, none⟩ = some b ∧ Below B W ((w.setCell ⟨F, 0, none⟩ a).setCell ⟨F, 1, none⟩ b) := by
  have h2 := (hF.set_ 0 a).set_ 1 b
  exact ⟨by simpa using h2.cell 0, by simpa using h2.cell 1, (h.setCell (p := ⟨F, 0, none⟩) hB a).setCell (p := ⟨F, 1, none⟩) hB b⟩
theorem fail2d {w W : World} {F B : Nat} {x y : Value} (hF : Blk w F 112 #[x, y]) (h : Below B W w) (hB : B ≤ F) (a b : Value) :
    ((w.setCell ⟨F, 0, none⟩ a).setCell ⟨F, 1, none⟩ b).drew.cell? ⟨F, 0, none⟩ = some a ∧ ((w.setCell ⟨F, 0, none⟩ a).setCell ⟨F, 1, none⟩ b).drew.cell? ⟨F, 1, none⟩ = some b ∧ Below B W ((w.setCell ⟨F, 0, none⟩ a).setCell ⟨F, 1, none⟩ b).drew := by
  obtain ⟨h1, h2, h3⟩ := fail2 hF h hB a b
  exact ⟨h1, h2, h3.drew⟩
set_option maxRecDepth 100000 in
set_option maxHeartbeats 8000000 in
theorem numbers_any (X K β : Nat) (A : Option Addr) (cap : Nat) (t : Ti) (l : List (ByteArray × Int × Int)) (w : World) (hX : w.cell? ⟨X, 5, none⟩ = some (.map (some K))) (hXl : X < w.heap.size) (hK : Known w β K) (hβ : β ≤ w.heap.size)
    (hr : Rd w w.heap.size 3 aic A t.2.2.1) (hk : KnOf t.2.1 l) (hll : t.2.2.1.length ≤ 5000000) (hsz : ∀ a ∈ t.2.2.1, a.2.1.size ≤ 5000000) :
    Calls Try.prog 81 #[.pointer (some ⟨X, 0, none⟩), .agg #[.int .i64 t.1, .string t.2.1, .slice A t.2.2.1.length cap, .int .i64 t.2.2.2]] w (NumsOut w (numsL (isSup t.2.1) l t.2.2.2 t.2.2.1 [])) := by
  obtain ⟨t1, nm, ats, t4⟩ := t
  dsimp only at hr hk hll hsz ⊢
  obtain ⟨es, b1, mo, hao, hb1, mi⟩ := known_of hK hk
  have hmm := @run_makeMap Try.prog
  have hbo := hK.1
  have HSZ := hide hsz
  have hW : Below w.heap.size w ((w.alloc (.cells #[.int .i64 t1, .string nm, .slice A ats.length cap, .int .i64 t4] 60)).alloc (.cells #[.int .i64 0, .int .i64 0] 112)) := (by repeat (first | exact Below.refl _ _ | refine Below.alloc ?_ (by first | (simp; omega) | simp | omega) _ | refine drewN_below ?_ _ | refine Below.drew ?_))
  have hlk := ((mo.below (hW.drew) (by omega)).look (s := nm) Try.underlying107 Try.underlying9 (zeroMapB _) false)
  rw [hao] at hlk
  simp only [Bool.false_eq_true, if_false, Option.getD_some] at hlk
  clear hK hk hsz
  go_enter Try.func81, Try.ntmps81
  go_wp2
  go_region
  have hT := ((Blk.new w 60 #[.int .i64 t1, .string nm, .slice A ats.length cap, .int .i64 t4]).alloc (.cells #[.int .i64 0, .int .i64 0] 112)).drew
  have hF : Blk ((w.alloc (.cells #[.int .i64 t1, .string nm, .slice A ats.length cap, .int .i64 t4] 60)).alloc (.cells #[.int .i64 0, .int .i64 0] 112)).drew (w.heap.size + 1) 112 #[.int .i64 0, .int .i64 0] := (show Blk _ (w.heap.size + 1) _ _ from heap_new_at (by simp)).drew
  have hW' := hW.drew
  generalize ((w.alloc (.cells #[.int .i64 t1, .string nm, .slice A ats.length cap, .int .i64 t4] 60)).alloc (.cells #[.int .i64 0, .int .i64 0] 112)).drew = w1 at *
  clear hW hlk hX
  have hs1 := hF.lt
  have hs0 := hT.lt
  have c0 := hT.cell 0
  have c1 := hT.cell 1
  have c2 := hT.cell 2
  have c3 := hT.cell 3
  simp at c0 c1 c2 c3
  have hM1 : MapAt (w1.alloc (.map #[] 0)) w1.heap.size [] := MapAt.new rfl
  have hT1 := hT.alloc (.map #[] 0)
  have hF1 := hF.alloc (.map #[] 0)
  have hW1 := hW'.alloc (by omega) (.map #[] 0)
  go_wp2
  clear c0 c1 c2 c3
  go_loopw [25] (fun i wr => ∃ (k : Nat) (out : List (ByteArray × Int)), k ≤ ats.length ∧ i = .int .i64 k ∧ MapAt wr w1.heap.size (iv out) ∧ Blk wr w.heap.size 60 #[.int .i64 t1, .string nm, .slice A ats.length cap, .int .i64 t4] ∧ Blk wr (w.heap.size + 1) 112 #[.int .i64 0, .int .i64 0] ∧ Below w.heap.size w wr ∧ numsL (isSup nm) l t4 ats [] = numsL (isSup nm) l t4 (ats.drop k) out) (fun i _ => ats.length - (intOf i).toNat)
  case atStart => exact ⟨0, [], Nat.zero_le _, rfl, hM1, hT1, hF1, hW1, rfl⟩
  case round =>
    obtain ⟨k, out, hk, rfl, hM, hT2, hF2, hb, hN⟩ := hrel
    clear hT hF hM1 hT1 hF1 hW1 hW'
    have hsr := hF2.lt
    have hsr0 := hT2.lt
    have hMl := hM.lt
    have c0 := hT2.cell 0
    have c1 := hT2.cell 1
    have c2 := hT2.cell 2
    have c3 := hT2.cell 3
    simp at c0 c1 c2 c3
    by_cases hlt : k < ats.length
    · obtain ⟨a, ha⟩ := get_of_lt hlt
      obtain ⟨b, off, rfl, hbB, d0, d1, d2⟩ := (hr.below hb).ai ha
      have has := HSZ.out a (List.mem_of_getElem? ha)
      rw [drop_step ha] at hN
      obtain ⟨a1, a2, a3⟩ := a
      dsimp only at d0 d1 d2 has
      have i0 : (0 : Int) ≤ (k : Int) := by omega
      have i1 : (k : Int) < (ats.length : Int) := by omega
      obtain ⟨su, hsu⟩ : ∃ su, isSup nm = su := ⟨_, rfl⟩
      have hsu2 : (nm.toList == [115, 117, 112, 101, 114, 98, 108, 111, 99, 107]) = su := hsu
      obtain ⟨uu, huu⟩ : ∃ uu, isUuid a1 = uu := ⟨_, rfl⟩
      have huu2 : (a1.toList == [117, 117, 105, 100]) = uu := huu
      rw [hsu] at hN
      rw [numsL_cons] at hN
      dsimp only at hN
      rw [huu] at hN
      have HN := hide hN
      clear ha hN hr
      have hT3 := hT2.alloc (.cells #[.string a1, .string a2, .int .i64 a3] 62)
      have hF3 := hF2.alloc (.cells #[.string a1, .string a2, .int .i64 a3] 62)
      have hM3 := hM.alloc (.cells #[.string a1, .string a2, .int .i64 a3] 62)
      have hA3 := Blk.new wr 62 #[.string a1, .string a2, .int .i64 a3]
      have hb3 := hb.alloc (by omega) (.cells #[.string a1, .string a2, .int .i64 a3] 62)
      have hlk := (mi.below hb3 (by omega)).look (s := a1) Try.underlying137 Try.underlying9 (zeroBound _) true
      have hak : assoc a1 (kv l) = (assoc a1 l).map fun x => .agg #[.int .i64 x.1, .int .i64 x.2] := assoc_map (fun x : Int × Int => Value.agg #[.int .i64 x.1, .int .i64 x.2]) a1 l
      rw [hak] at hlk
      simp only [if_true] at hlk
      have hwp := fun w' => wparse_any a2 has w'
      obtain ⟨n, ec, hnp⟩ : ∃ n ec, numP a2 = (n, ec) := ⟨_, _, rfl⟩
      simp only [hnp] at hwp
      rw [hnp] at HN
      have HWP := hide hwp
      clear hwp hak
      by_cases hskip : su = true ∧ uu = true
      · obtain ⟨rfl, rfl⟩ := hskip
        have HN2 := hide (show numsL true l t4 ats [] = numsL true l t4 (ats.drop (k + 1)) out from HN.out)
        go_wp2
        go_roundw
        case rel => exact ⟨k + 1, out, by omega, by go_num, hM3, hT3, hF3, hb3, by rw [hsu]; exact HN2.out⟩
        case measure => simp [intOf]; omega
      · have hsk : (su && uu) = false := by cases su <;> cases uu <;> simp_all
        have HN2 := HN.out
        rw [hsk] at HN2
        simp only [Bool.false_eq_true, if_false] at HN2
        rw [hsu]
        have HSU := hide hsu
        have hcs : su = false ∨ (su = true ∧ uu = false) := by cases su <;> cases uu <;> simp_all
        cases hget : assoc a1 l with
        | none =>
          rw [hget] at hlk HN2
          simp only [Option.map_none, Option.getD_none, Option.isSome_none] at hlk
          have hfin := hide (show numsL su l t4 ats [] = .error (a3, 16) from HN2)
          clear HN HN2 hsk hskip hget
          rcases hcs with rfl | ⟨rfl, rfl⟩
          all_goals
            go_wp2_with (fail)
            refine (HWP.out _).mono ?_
            rintro e w2 ⟨rfl, hw2⟩
            have hF4 := hF3.alloc (.cells #[.int .i64 0, .int .i64 0] 136)
            have hA4 := hA3.alloc (.cells #[.int .i64 0, .int .i64 0] 136)
            have hb4 := hb3.alloc (by simp; omega) (.cells #[.int .i64 0, .int .i64 0] 136)
            rw [← hw2] at hF4 hA4 hb4
            have e0 := hA4.cell 0
            have e2 := hA4.cell 2
            have f0 := hF4.cell 0
            have f1 := hF4.cell 1
            have g0 := hF4.frozen 0
            have g1 := hF4.frozen 1
            have hFl := hF4.lt
            have hAl := hA4.lt
            simp at e0 e2 f0 f1
            have hst := hide (fail2d hF4 hb4 (Nat.le_succ _) (.int .i64 a3) (.int .i64 16))
            clear hw2 hA3 hT3 hF3 hM3 hb3 hA4 hF4 hb4 hlk c0 c1 c2 c3 d0 d1 d2 hT2 hF2 hM
            go_wp2
            go_region
            go_wp2
            obtain ⟨q0, q1, q2⟩ := hst.out
            refine bodyPost_ret (v := .tuple #[.map none, .agg #[.int .i64 a3, .int .i64 16]]) (by simp [results, Try.results81, go_sem, q0, q1]) rfl ?_
            rw [hfin.out]
            exact ⟨rfl, q2⟩
        | some lh =>
          obtain ⟨lo, hi⟩ := lh
          rw [hget] at hlk HN2
          simp only [Option.map_some, Option.getD_some, Option.isSome_some] at hlk HN2
          have HN3 := hide HN2
          have hF4 := hF3.alloc (.cells #[.int .i64 lo, .int .i64 hi] 136)
          have hT4 := hT3.alloc (.cells #[.int .i64 lo, .int .i64 hi] 136)
          have hM4 := hM3.alloc (.cells #[.int .i64 lo, .int .i64 hi] 136)
          have hA4 := hA3.alloc (.cells #[.int .i64 lo, .int .i64 hi] 136)
          have hB4 : Blk ((wr.alloc (.cells #[.string a1, .string a2, .int .i64 a3] 62)).alloc (.cells #[.int .i64 lo, .int .i64 hi] 136)) (wr.heap.size + 1) 136 #[.int .i64 lo, .int .i64 hi] := heap_new_at (by simp)
          have hb4 := hb3.alloc (by simp; omega) (.cells #[.int .i64 lo, .int .i64 hi] 136)
          clear HN HN2 hsk hskip hget hT2 hF2 hM hT3 hF3 hM3 hb3 hA3
          rcases hcs with rfl | ⟨rfl, rfl⟩
          all_goals
            go_wp2_with (fail)
            refine (HWP.out _).mono ?_
            rintro e w2 ⟨rfl, hw2⟩
            rw [← hw2] at hF4 hA4 hb4 hT4 hM4 hB4
            have e0 := hA4.cell 0
            have e2 := hA4.cell 2
            have f0 := hF4.cell 0
            have f1 := hF4.cell 1
            have g0 := hF4.frozen 0
            have g1 := hF4.frozen 1
            have k0 := hB4.cell 0
            have k1 := hB4.cell 1
            have hFl := hF4.lt
            have hAl := hA4.lt
            have hBl := hB4.lt
            simp at e0 e2 f0 f1 k0 k1
            clear hw2 hlk c0 c1 c2 c3 d0 d1 d2
            have hst := hide (fun v => fail2d hF4 hb4 (Nat.le_succ w.heap.size) (.int .i64 a3) v)
            have HT4 := hide hT4
            have HF4 := hide hF4
            have HM4 := hide hM4
            have HB4 := hide hb4
            clear hF4 hA4 hb4 hT4 hM4 hB4
            by_cases h7 : ec = 7
            · have hfin := hide (show numsL _ l t4 ats [] = .error (a3, 16) from HN3.out.trans (if_pos h7))
              have t7 : (ec == 7) = true := by simpa using h7
              clear h7
              go_wp2
              go_region
              go_wp2
              obtain ⟨q0, q1, q2⟩ := hst.out (.int .i64 16)
              refine bodyPost_ret (v := .tuple #[.map none, .agg #[.int .i64 a3, .int .i64 16]]) (by simp [results, Try.results81, go_sem, q0, q1]) rfl ?_
              rw [hfin.out]
              exact ⟨rfl, q2⟩
            · have t7 : (ec == 7) = false := by simpa using h7
              have hN4 := HN3.out.trans (if_neg h7)
              by_cases hbad : ec ≠ 0 ∨ n < lo ∨ hi < n
              · have hfin := hide (show numsL _ l t4 ats [] = .error (a3, 2) from hN4.trans (if_pos hbad))
                have hcb : ec ≠ 0 ∨ (ec = 0 ∧ n < lo) ∨ (ec = 0 ∧ lo ≤ n ∧ hi < n) := by omega
                clear h7 hN4 hbad
                rcases hcb with h0 | ⟨rfl, h1⟩ | ⟨rfl, h1, h2⟩
                · have t0 : (ec != 0) = true := by simpa using h0
                  clear h0
                  go_wp2
                  go_region
                  go_wp2
                  obtain ⟨q0, q1, q2⟩ := hst.out (.int .i64 2)
                  refine bodyPost_ret (v := .tuple #[.map none, .agg #[.int .i64 a3, .int .i64 2]]) (by simp [results, Try.results81, go_sem, q0, q1]) rfl ?_
                  rw [hfin.out]
                  exact ⟨rfl, q2⟩
                · go_wp2
                  go_region
                  go_wp2
                  obtain ⟨q0, q1, q2⟩ := hst.out (.int .i64 2)
                  refine bodyPost_ret (v := .tuple #[.map none, .agg #[.int .i64 a3, .int .i64 2]]) (by simp [results, Try.results81, go_sem, q0, q1]) rfl ?_
                  rw [hfin.out]
                  exact ⟨rfl, q2⟩
                · go_wp2
                  go_region
                  go_wp2
                  obtain ⟨q0, q1, q2⟩ := hst.out (.int .i64 2)
                  refine bodyPost_ret (v := .tuple #[.map none, .agg #[.int .i64 a3, .int .i64 2]]) (by simp [results, Try.results81, go_sem, q0, q1]) rfl ?_
                  rw [hfin.out]
                  exact ⟨rfl, q2⟩
              · have hok := hide (show numsL _ l t4 ats [] = _ from hN4.trans (if_neg hbad))
                have hgood : ec = 0 ∧ lo ≤ n ∧ n ≤ hi := by omega
                obtain ⟨rfl, h1, h2⟩ := hgood
                clear h7 hN4 hbad hst
                go_wp2_with (refine wpList_update_mp _ rfl _ _ _ 138 rfl Try.underlying138 Try.underlying9 w1.heap.size _ a1 (.int .i64 n) rfl rfl rfl HM4.out ?_)
                intro w5 hM5 kb
                have hT5 := HT4.out.kb kb (by omega)
                have hF5 := HF4.out.kb kb (by omega)
                have hb5 := below_kb HB4.out kb (by omega)
                have hM6 : MapAt w5 w1.heap.size (iv (putA a1 n out)) := by
                  have := putA_map (fun x : Int => Value.int .i64 x) a1 n out
                  unfold iv
                  rw [← this]
                  exact hM5
                clear hM5 kb e0 e2 f0 f1 g0 g1 k0 k1
                go_wp2
                go_roundw
                case rel => exact ⟨k + 1, putA a1 n out, by omega, by go_num, hM6, hT5, hF5, hb5, hok.out⟩
                case measure => simp [intOf]; omega
    · have hkk : k = ats.length := by omega
      rw [hkk, List.drop_length] at hN
      have hN2 : numsL (isSup nm) l t4 ats [] = if out.length < l.length then .error (t4, 18) else .ok out := hN
      have HN := hide hN2
      have il : (iv out).length = out.length := by simp [iv]
      have kl : (kv l).length = l.length := by simp [kv]
      have f0 := hF2.cell 0
      have f1 := hF2.cell 1
      have g0 := hF2.frozen 0
      have g1 := hF2.frozen 1
      simp at f0 f1
      have hmi := mi.below hb (by omega)
      have HM := hide hM
      have HF2 := hide hF2
      have HB2 := hide hb
      clear hN hN2 hkk hT2
      have hl1 := fun ty => hM.len Try.underlying138 ty
      have hl2 := fun ty => hmi.len Try.underlying137 ty
      rw [il] at hl1
      rw [kl] at hl2
      clear hM il kl
      by_cases hlt2 : out.length < l.length
      · have hfin := hide (HN.out.trans (if_pos hlt2))
        have hst := hide (fail2d HF2.out HB2.out (Nat.le_succ w.heap.size) (.int .i64 t4) (.int .i64 18))
        clear hb hF2
        go_wp2
        go_region
        go_wp2
        obtain ⟨q0, q1, q2⟩ := hst.out
        refine bodyPost_ret (v := .tuple #[.map none, .agg #[.int .i64 t4, .int .i64 18]]) (by simp [results, Try.results81, go_sem, q0, q1]) rfl ?_
        rw [hfin.out]
        exact ⟨rfl, q2⟩
      · have hfin := hide (HN.out.trans (if_neg hlt2))
        clear f0 f1 g0 g1 c0 c1 c2 c3 hF2 hb
        go_wp2_with (fail)
        refine (fine_any wr).mono ?_
        rintro e w5 ⟨rfl, hb5⟩
        have hF5 := HF2.out.below hb5 hsr
        have hM5 := HM.out.below hb5 hMl
        have hB5 := HB2.out.trans (hb5.mono (by omega))
        have f0 := hF5.cell 0
        have f1 := hF5.cell 1
        have g0 := hF5.frozen 0
        have g1 := hF5.frozen 1
        have hFl := hF5.lt
        simp at f0 f1
        have hst := hide (fail2 hF5 hB5 (Nat.le_succ w.heap.size) (.int .i64 0) (.int .i64 0))
        have hM6 := hide ((hM5.heap (w' := (w5.setCell ⟨w.heap.size + 1, 0, none⟩ (.int .i64 0)).setCell ⟨w.heap.size + 1, 1, none⟩ (.int .i64 0)) ((Below.heap_setCell _ _ _ _ (by dsimp only; omega)).trans (Below.heap_setCell _ _ _ _ (by dsimp only; omega)))))
        clear hF5 hM5 hB5 hmi hb5 hl1 hl2
        go_wp2
        obtain ⟨q0, q1, q2⟩ := hst.out
        refine bodyPost_ret (v := .tuple #[.map (some w1.heap.size), .agg #[.int .i64 0, .int .i64 0]]) (by simp [results, Try.results81, go_sem, q0, q1]) rfl ?_
        rw [hfin.out]
        exact ⟨_, rfl, hM6.out, q2⟩
end Go.Proofs.Ytcblakflhheepaa
