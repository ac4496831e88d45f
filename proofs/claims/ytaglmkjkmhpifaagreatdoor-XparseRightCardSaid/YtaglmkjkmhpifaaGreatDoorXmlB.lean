/- Chapter 42: the tags of a run and of a pool's head. -/
import Derived.Test.YtaglmkjkmhpifaaGreatDoorXmlA
import Derived.Test.YtaglmkjkmhpifaaGreatDoorNamA
import Derived.Test.YtaglmkjkmhpifaaGreatDoorChkA
namespace Go.Proofs.YtaglmkjkmhpifaaGreatDoor
open Go.RowKit
set_option linter.unusedVariables false
set_option linter.unusedSimpArgs false

def oneN (r : Rn) : List Nm := [(sOBlock, r.1), (sDBlock, r.2.1), (sTime, r.2.2.2)]
def rngN (r : Rn) : List Nm := [(sOBegin, r.1), (sDBegin, r.2.1), (sLength, r.2.2.1), (sTime, r.2.2.2)]
/-- The tag of a run. -/
def runT (r : Rn) : Ti := if r.2.2.1 = 1 then (3, sSingle, (oneN r).map attrN, 0) else (3, sRange, (rngN r).map attrN, 0)
def headN (p : Pl) : List Nm := [(sTime, p.2.1), (sTx, p.1), (sUnit, p.2.2.1), (sData, p.2.2.2.1)]
/-- The tag of a pool. -/
def headT (p : Pl) : Ti := (1, sSuper, (sUuid, ⟨#[]⟩, 0) :: (headN p).map attrN, 0)
def devN (d : Dv) : List Nm := [(sId, d.1), (sMapped, (d.2.2.2.2.length : Int)), (sTx, d.2.1), (sMade, d.2.2.1), (sSnap, d.2.2.2.1)]
def devT (d : Dv) : Ti := (1, sDevice, (devN d).map attrN, 0)
def endT (n : ByteArray) : Ti := (2, n, [], 0)
def devTs (d : Dv) : List Ti := devT d :: ((runsOf d.2.2.2.2).map runT ++ [endT sDevice])
/-- The tags of a pool. -/
def xmlTs (p : Pl) : List Ti := headT p :: (p.2.2.2.2.flatMap devTs ++ [endT sSuper])

set_option maxRecDepth 100000 in
set_option maxHeartbeats 4000000 in
theorem run42_any (r : Rn) (w : World) (ht : Tab w) (hok : I64 r.1 ∧ I64 r.2.1 ∧ I64 r.2.2.1 ∧ I64 r.2.2.2) :
    Calls Tryz.prog 31 #[.agg #[.int .i64 r.1, .int .i64 r.2.1, .int .i64 r.2.2.1, .int .i64 r.2.2.2]] w (TagOut w (runT r)) := by
  obtain ⟨r1, r2, r3, r4⟩ := r
  obtain ⟨h1, h2, h3, h4⟩ := hok
  dsimp only at h1 h2 h3 h4 ⊢
  have hp := ht.pos
  have HT := hide ht
  have HI := hide (And.intro h1 (And.intro h2 (And.intro h3 h4)))
  clear ht h1 h2 h3 h4
  by_cases hz : r3 = 1
  · subst hz
    have e1 : runT (r1, r2, 1, r4) = (3, sSingle, (oneN (r1, r2, 1, r4)).map attrN, 0) := rfl
    rw [e1]
    clear e1
    go_enter Tryz.func31, Tryz.ntmps31
    go_wp2_with (fail)
    have hR := ((Blk.new (w.alloc (.cells #[.int .i64 r1, .int .i64 r2, .int .i64 1, .int .i64 r4] 81)) 48 #[.int .i64 0, .string ⟨#[]⟩, .slice none 0 0, .int .i64 0]).alloc (.cells ((oneN (r1, r2, 1, r4)).flatMap nmc).toArray 77))
    have hN : Blk (((w.alloc (.cells #[.int .i64 r1, .int .i64 r2, .int .i64 1, .int .i64 r4] 81)).alloc (.cells #[.int .i64 0, .string ⟨#[]⟩, .slice none 0 0, .int .i64 0] 48)).alloc (.cells ((oneN (r1, r2, 1, r4)).flatMap nmc).toArray 77)) (w.heap.size + 2) 77 ((oneN (r1, r2, 1, r4)).flatMap nmc).toArray := heap_new_at (by simp)
    have hW : Below w.heap.size w (((w.alloc (.cells #[.int .i64 r1, .int .i64 r2, .int .i64 1, .int .i64 r4] 81)).alloc (.cells #[.int .i64 0, .string ⟨#[]⟩, .slice none 0 0, .int .i64 0] 48)).alloc (.cells ((oneN (r1, r2, 1, r4)).flatMap nmc).toArray 77)) := (by repeat (first | exact Below.refl _ _ | refine Below.alloc ?_ (by first | (simp; omega) | simp | omega) _ | refine drewN_below ?_ _ | refine Below.drew ?_))
    rw [World.size_alloc] at hR
    have hrd : Rd (((w.alloc (.cells #[.int .i64 r1, .int .i64 r2, .int .i64 1, .int .i64 r4] 81)).alloc (.cells #[.int .i64 0, .string ⟨#[]⟩, .slice none 0 0, .int .i64 0] 48)).alloc (.cells ((oneN (r1, r2, 1, r4)).flatMap nmc).toArray 77)) (w.heap.size + 3) 2 nmc (some ⟨w.heap.size + 2, 0, none⟩) (oneN (r1, r2, 1, r4)) :=
      Rd.of_block (t := 77) (fr := (0, 0)) hN (by omega) nmc_len (by simp [oneN, nmc])
    have hmd := made42_any (some ⟨w.heap.size + 2, 0, none⟩) 3 (oneN (r1, r2, 1, r4)) 3 sSingle (w.heap.size + 3) _ (HT.out.below hW hp) (by simp) hrd (by simp [oneN]) (by simp [oneN]; exact ⟨HI.out.1, HI.out.2.1, HI.out.2.2.2⟩)
    refine hmd.mono ?_
    clear hmd hrd
    rintro e w2 ⟨A, n, cap, rfl, hO, hb2⟩
    generalize (((w.alloc (.cells #[.int .i64 r1, .int .i64 r2, .int .i64 1, .int .i64 r4] 81)).alloc (.cells #[.int .i64 0, .string ⟨#[]⟩, .slice none 0 0, .int .i64 0] 48)).alloc (.cells ((oneN (r1, r2, 1, r4)).flatMap nmc).toArray 77)) = w1 at *
    have hR2 := hR.below hb2 hR.lt
    have hR2l := hR2.lt
    have r0 := hR2.frozen 0
    have r1' := hR2.frozen 1
    have r2' := hR2.frozen 2
    have r3' := hR2.frozen 3
    have c0 := hR2.cell 0
    have c1 := hR2.cell 1
    have c2 := hR2.cell 2
    have c3 := hR2.cell 3
    simp at c0 c1 c2 c3
    have hst := hide (store4 hR2 rfl hO (.int .i64 3) (.string sSingle) (.int .i64 0))
    have hw2 := hW.trans (hb2.mono hW.size)
    have hbo : w.heap.size ≤ w1.heap.size := hW.size
    clear hN hO hR hR2 hb2 hW
    go_wp2
    obtain ⟨q0, q1, q2, q3, qO, qB⟩ := hst.out
    refine bodyPost_ret (v := .agg #[.int .i64 3, .string sSingle, .slice A n cap, .int .i64 0]) (by simp [results, Tryz.results31, go_sem, q0, q1, q2, q3]) rfl ?_
    exact ⟨_, _, _, rfl, qO.mono hbo, qB _ _ (by omega) hw2⟩
  · have e1 : runT (r1, r2, r3, r4) = (3, sRange, (rngN (r1, r2, r3, r4)).map attrN, 0) := if_neg hz
    rw [e1]
    have t0 : (r3 == 1) = false := by simpa using hz
    clear e1 hz
    go_enter Tryz.func31, Tryz.ntmps31
    go_wp2_with (fail)
    have hR := ((Blk.new (w.alloc (.cells #[.int .i64 r1, .int .i64 r2, .int .i64 r3, .int .i64 r4] 81)) 48 #[.int .i64 0, .string ⟨#[]⟩, .slice none 0 0, .int .i64 0]).alloc (.cells ((rngN (r1, r2, r3, r4)).flatMap nmc).toArray 77))
    have hN : Blk (((w.alloc (.cells #[.int .i64 r1, .int .i64 r2, .int .i64 r3, .int .i64 r4] 81)).alloc (.cells #[.int .i64 0, .string ⟨#[]⟩, .slice none 0 0, .int .i64 0] 48)).alloc (.cells ((rngN (r1, r2, r3, r4)).flatMap nmc).toArray 77)) (w.heap.size + 2) 77 ((rngN (r1, r2, r3, r4)).flatMap nmc).toArray := heap_new_at (by simp)
    have hW : Below w.heap.size w (((w.alloc (.cells #[.int .i64 r1, .int .i64 r2, .int .i64 r3, .int .i64 r4] 81)).alloc (.cells #[.int .i64 0, .string ⟨#[]⟩, .slice none 0 0, .int .i64 0] 48)).alloc (.cells ((rngN (r1, r2, r3, r4)).flatMap nmc).toArray 77)) := (by repeat (first | exact Below.refl _ _ | refine Below.alloc ?_ (by first | (simp; omega) | simp | omega) _ | refine drewN_below ?_ _ | refine Below.drew ?_))
    rw [World.size_alloc] at hR
    have hrd : Rd (((w.alloc (.cells #[.int .i64 r1, .int .i64 r2, .int .i64 r3, .int .i64 r4] 81)).alloc (.cells #[.int .i64 0, .string ⟨#[]⟩, .slice none 0 0, .int .i64 0] 48)).alloc (.cells ((rngN (r1, r2, r3, r4)).flatMap nmc).toArray 77)) (w.heap.size + 3) 2 nmc (some ⟨w.heap.size + 2, 0, none⟩) (rngN (r1, r2, r3, r4)) :=
      Rd.of_block (t := 77) (fr := (0, 0)) hN (by omega) nmc_len (by simp [rngN, nmc])
    have hmd := made42_any (some ⟨w.heap.size + 2, 0, none⟩) 4 (rngN (r1, r2, r3, r4)) 3 sRange (w.heap.size + 3) _ (HT.out.below hW hp) (by simp) hrd (by simp [rngN]) (by simp [rngN]; exact ⟨HI.out.1, HI.out.2.1, HI.out.2.2.1, HI.out.2.2.2⟩)
    refine hmd.mono ?_
    clear hmd hrd
    rintro e w2 ⟨A, n, cap, rfl, hO, hb2⟩
    generalize (((w.alloc (.cells #[.int .i64 r1, .int .i64 r2, .int .i64 r3, .int .i64 r4] 81)).alloc (.cells #[.int .i64 0, .string ⟨#[]⟩, .slice none 0 0, .int .i64 0] 48)).alloc (.cells ((rngN (r1, r2, r3, r4)).flatMap nmc).toArray 77)) = w1 at *
    have hR2 := hR.below hb2 hR.lt
    have hR2l := hR2.lt
    have r0 := hR2.frozen 0
    have r1' := hR2.frozen 1
    have r2' := hR2.frozen 2
    have r3' := hR2.frozen 3
    have c0 := hR2.cell 0
    have c1 := hR2.cell 1
    have c2 := hR2.cell 2
    have c3 := hR2.cell 3
    simp at c0 c1 c2 c3
    have hst := hide (store4 hR2 rfl hO (.int .i64 3) (.string sRange) (.int .i64 0))
    have hw2 := hW.trans (hb2.mono hW.size)
    have hbo : w.heap.size ≤ w1.heap.size := hW.size
    clear hN hO hR hR2 hb2 hW
    go_wp2
    obtain ⟨q0, q1, q2, q3, qO, qB⟩ := hst.out
    refine bodyPost_ret (v := .agg #[.int .i64 3, .string sRange, .slice A n cap, .int .i64 0]) (by simp [results, Tryz.results31, go_sem, q0, q1, q2, q3]) rfl ?_
    exact ⟨_, _, _, rfl, qO.mono hbo, qB _ _ (by omega) hw2⟩
end Go.Proofs.YtaglmkjkmhpifaaGreatDoor
