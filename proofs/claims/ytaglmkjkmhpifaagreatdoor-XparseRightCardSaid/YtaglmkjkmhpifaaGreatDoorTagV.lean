/- Chapter 41: Text. -/
import Derived.Test.YtaglmkjkmhpifaaGreatDoorTagU
import Derived.Test.YtaglmkjkmhpifaaGreatDoorTagS
namespace Go.Proofs.YtaglmkjkmhpifaaGreatDoor
open Go.RowKit
set_option linter.unusedVariables false
set_option linter.unusedSimpArgs false

/-- The slice at A holds the tags L, below B; what a tag's slice holds is within its capacity. -/
def RdJ (w : World) (B : Nat) (A : Option Addr) (L : List Ti) : Prop :=
  ∀ i t, L[i]? = some t → ∃ b off A' cap, A = some ⟨b, off, none⟩ ∧ b < B ∧ w.cell? ⟨b, off + i * 4, none⟩ = some (.int .i64 t.1) ∧ w.cell? ⟨b, off + i * 4 + 1, none⟩ = some (.string t.2.1) ∧
    w.cell? ⟨b, off + i * 4 + 2, none⟩ = some (.slice A' t.2.2.1.length cap) ∧ w.cell? ⟨b, off + i * 4 + 3, none⟩ = some (.int .i64 t.2.2.2) ∧ Rd w B 3 aic A' t.2.2.1 ∧ t.2.2.1.length ≤ cap
theorem RdJ.i {w : World} {B : Nat} {A : Option Addr} {L : List Ti} (h : RdJ w B A L) : RdI w B A L := by
  intro i t ht
  obtain ⟨b, off, A', cap, h1, h2, c0, c1, c2, c3, hr, _⟩ := h i t ht
  exact ⟨b, off, A', cap, h1, h2, c0, c1, c2, c3, hr⟩
theorem RdJ.below {w w' : World} {B : Nat} {A : Option Addr} {L : List Ti} (h : RdJ w B A L) (hb : Below B w w') : RdJ w' B A L := by
  intro i t ht
  obtain ⟨b, off, A', cap, h1, h2, c0, c1, c2, c3, hr, hc⟩ := h i t ht
  exact ⟨b, off, A', cap, h1, h2, (hb.cell (p := ⟨b, _, none⟩) h2).trans c0, (hb.cell (p := ⟨b, _, none⟩) h2).trans c1, (hb.cell (p := ⟨b, _, none⟩) h2).trans c2, (hb.cell (p := ⟨b, _, none⟩) h2).trans c3, hr.below hb, hc⟩

def opn (k : Int) : List UInt8 := if k = 2 then [60, 47] else [60]
def cls (k : Int) : List UInt8 := if k = 3 then [47, 62, 10] else [62, 10]
def atxt (a : Ai) : List UInt8 := 32 :: (a.1.data.toList ++ [61, 34] ++ a.2.1.data.toList ++ [34])
/-- The text of a tag. -/
def ttxt (t : Ti) : List UInt8 := opn t.1 ++ t.2.1.data.toList ++ t.2.2.1.flatMap atxt ++ cls t.1
/-- What the strings of tags weigh. -/
def wgtA (a : Ai) : Nat := a.1.size + a.2.1.size + 4
def wgt (t : Ti) : Nat := t.2.1.size + (t.2.2.1.map wgtA).sum + 5
theorem atxt_len (a : Ai) : (atxt a).length = wgtA a := by simp [atxt, wgtA]; omega
theorem ttxt_len (t : Ti) : (ttxt t).length ≤ wgt t := by
  obtain ⟨t1, t2, t3, t4⟩ := t
  have h1 : (t3.flatMap atxt).length = (t3.map wgtA).sum := by
    rw [List.length_flatMap]; congr 1; exact List.map_congr_left fun a _ => atxt_len a
  have h2 : (opn t1).length + (cls t1).length ≤ 5 := by unfold opn cls; split <;> split <;> simp
  simp only [ttxt, wgt, List.length_append, h1, ByteArray.size, Array.length_toList] at *
  omega
/-- What Text hands back. -/
def textOf (L : List Ti) : ByteArray × Int := if L.all rgtB then (⟨(L.flatMap ttxt).toArray⟩, 0) else (⟨#[]⟩, 7)

theorem take_wgt : ∀ (L : List Ti) (k : Nat) (t : Ti), L[k]? = some t → ((L.take k).flatMap ttxt).length + wgt t ≤ (L.map wgt).sum
  | [], k, t, h => by simp at h
  | x :: L, 0, t, h => by
    simp at h
    subst h
    simp
  | x :: L, k + 1, t, h => by
    have h1 := take_wgt L k t (by simpa using h)
    have h2 := ttxt_len x
    simp at h1 ⊢
    omega
theorem flat_wgtA (l : List Ai) : (l.flatMap atxt).length = (l.map wgtA).sum := by
  rw [List.length_flatMap]; congr 1; exact List.map_congr_left fun a _ => atxt_len a
theorem take_wgtA : ∀ (l : List Ai) (k : Nat) (a : Ai), l[k]? = some a → ((l.take k).flatMap atxt).length + wgtA a ≤ (l.map wgtA).sum
  | [], k, a, h => by simp at h
  | x :: l, 0, a, h => by
    simp at h
    subst h
    simp
  | x :: l, k + 1, a, h => by
    have h1 := take_wgtA l k a (by simpa using h)
    have h2 := atxt_len x
    simp at h1 ⊢
    omega
theorem rgtB_kind {t : Ti} (h : rgtB t = true) : t.1 = 1 ∨ t.1 = 2 ∨ t.1 = 3 := by
  simp [rgtB] at h
  omega

set_option maxRecDepth 100000 in
set_option maxHeartbeats 8000000 in
theorem text_any (A : Option Addr) (cap : Nat) (L : List Ti) (B : Nat) (w : World) (hB : B ≤ w.heap.size) (h : RdJ w B A L) (hl : L.length ≤ 1000000000000)
    (hla : ∀ t ∈ L, t.2.2.1.length ≤ 1000000000000 ∧ t.2.1.size ≤ 1000000000000 ∧ ∀ a ∈ t.2.2.1, a.1.size ≤ 1000000000000 ∧ a.2.1.size ≤ 1000000000000) (hw : (L.map wgt).sum ≤ 1000000000000) :
    Calls Tryz.prog 12 #[.slice A L.length cap] w fun e w' => e = .returned (.tuple #[.string (textOf L).1, .int .i64 (textOf L).2]) ∧ Below w.heap.size w w' := by
  go_enter Tryz.func12, Tryz.ntmps12
  go_wp2
  have hBl := Bld.new w.heap.size w (Nat.le_refl _)
  have hb0 := ((by repeat (first | exact Below.refl _ _ | refine Below.alloc ?_ (by first | (simp; omega) | simp | omega) _ | refine drewN_below ?_ _ | refine Below.drew ?_)) : Below w.heap.size w (w.alloc (.cells #[.pointer none, .slice none 0 0] 45)))
  go_loopw [11] (fun i wr => ∃ k : Nat, k ≤ L.length ∧ i = .int .i64 k ∧ Bld w.heap.size w.heap.size ((L.take k).flatMap ttxt) wr ∧ Below w.heap.size w wr ∧ (L.take k).all rgtB = true) (fun i _ => L.length - (intOf i).toNat)
  case atStart => exact ⟨0, Nat.zero_le _, rfl, hBl, hb0, rfl⟩
  case round =>
    obtain ⟨k, hk, rfl, hBd, hb, hal⟩ := hrel
    have HAL := hide hal
    clear hal hBl hb0
    by_cases hlt : k < L.length
    · obtain ⟨t, ht⟩ := get_of_lt hlt
      obtain ⟨b, off, A', cap', rfl, hbB, c0, c1, c2, c3, hr0, hcap⟩ := h k t ht
      have hbw : b < w.heap.size := by omega
      have hbl : w.heap.size < wr.heap.size := hBd.lt
      replace c0 := (hb.cell (p := ⟨b, _, none⟩) hbw).trans c0
      replace c1 := (hb.cell (p := ⟨b, _, none⟩) hbw).trans c1
      replace c2 := (hb.cell (p := ⟨b, _, none⟩) hbw).trans c2
      replace c3 := (hb.cell (p := ⟨b, _, none⟩) hbw).trans c3
      have hr := hr0.below (hb.mono hB)
      obtain ⟨g1, g2, g3⟩ := hla t (List.mem_of_getElem? ht)
      have HT := hide ht
      have i0 : (0 : Int) ≤ (k : Int) := by omega
      have i1 : (k : Int) < (L.length : Int) := by omega
      obtain ⟨v, hv⟩ : ∃ v, rgtB t = v := ⟨_, rfl⟩
      have HV := hide hv
      have hwk := take_wgt L k t ht
      simp only [wgt] at hwk
      have htk : (L.take (k + 1)).flatMap ttxt = (L.take k).flatMap ttxt ++ ttxt t := by rw [take_step ht]; simp
      have hak : (L.take (k + 1)).all rgtB = rgtB t := by rw [take_step ht]; simp [HAL.out]
      have HAK := hide hak
      obtain ⟨acc, hacc⟩ : ∃ acc, (L.take k).flatMap ttxt = acc := ⟨_, rfl⟩
      rw [hacc] at hwk hBd htk
      have HTK := hide htk
      clear hacc htk hak
      have hBr : B ≤ wr.heap.size := by have := hb.size; omega
      clear ht hv
      obtain ⟨t1, t2, t3, t4⟩ := t
      dsimp only at c0 c1 c2 c3 hr hr0 hcap g1 g2 g3 hwk
      go_wp2_with (fail)
      have hT1 := Blk.new wr 48 #[.int .i64 t1, .string t2, .slice A' t3.length cap', .int .i64 t4]
      have hb1 := ((by repeat (first | exact Below.refl _ _ | refine Below.alloc ?_ (by first | (simp; omega) | simp | omega) _ | refine drewN_below ?_ _ | refine Below.drew ?_)) : Below wr.heap.size wr (wr.alloc (.cells #[.int .i64 t1, .string t2, .slice A' t3.length cap', .int .i64 t4] 48)))
      have hBd1 := hBd.below hb1
      have hr1 := hr.below (hb1.mono hBr)
      have hs1 : wr.heap.size < (wr.alloc (.cells #[.int .i64 t1, .string t2, .slice A' t3.length cap', .int .i64 t4] 48)).heap.size := by simp
      generalize wr.alloc (.cells #[.int .i64 t1, .string t2, .slice A' t3.length cap', .int .i64 t4] 48) = w1 at *
      refine (right_is A' cap' (t1, t2, t3, t4) B v HV.out w1 (by omega) hr1 hcap g1 g3 g2).mono ?_
      rintro e w2 ⟨rfl, hb2⟩
      have hT2 := hT1.below hb2 hs1
      have hBd2 := hBd1.below hb2
      have hb3 := hb1.trans (hb2.mono (by omega))
      have hw3 := hb.trans (hb3.mono hb.size)
      have hr2 := hr.below (hb3.mono hBr)
      have hs2 := hT2.lt
      clear hT1 hb1 hBd1 hr1 hb2 c0 c1 c2 c3 hBd
      cases v with
      | false =>
        have hr' : textOf L = (⟨#[]⟩, 7) := by
          have : L.all rgtB = false := by
            rw [Bool.eq_false_iff]
            intro hq
            have := List.all_eq_true.1 hq _ (List.mem_of_getElem? HT.out)
            rw [HV.out] at this
            cases this
          simp [textOf, this]
        have HR := hide hr'
        clear hr'
        go_wp2_with (fail)
        go_ret2
        rw [HR.out]
        exact ⟨rfl, hw3⟩
      | true =>
        have hkd := rgtB_kind HV.out
        have d0 := hT2.cell 0
        have d1 := hT2.cell 1
        simp at d0 d1
        go_wp2_with (fail)
        go_cut [] (fun wx => Bld w.heap.size w.heap.size (acc ++ (opn t1 ++ t2.data.toList)) wx ∧ Blk wx wr.heap.size 48 #[.int .i64 t1, .string t2, .slice A' t3.length cap', .int .i64 t4] ∧ Below w.heap.size w wx)
        case first =>
          have HB2 := hide hBd2
          have HT2 := hide hT2
          have HW3 := hide hw3
          have hws := hw3.size
          have z1 : (⟨#[60]⟩ : ByteArray).size = 1 := rfl
          have z2 : (⟨#[60, 47]⟩ : ByteArray).size = 2 := rfl
          have Z1 := hide z1
          have Z2 := hide z2
          clear hBd2 hT2 hw3 hb3 z1 z2
          rcases hkd with rfl | rfl | rfl
          all_goals
            go_region_with ((go_at_call 13; refine (write_any w.heap.size w.heap.size acc _ _ (by repeat (first | with_reducible exact HB2.out | with_reducible refine Bld.alloc ?_ _ | with_reducible refine Bld.drewN ?_ _ | with_reducible refine Bld.drew ?_)) (by have := Z1.out; have := Z2.out; rw [ByteArray.size_append]; omega) (by simp; omega)).mono ?_; rintro e w3 ⟨rfl, n1, n2, n3⟩))
          all_goals
            go_wp2_with fail
            go_meet
            refine ⟨by simpa [opn] using n1, ?_, ?_⟩
            · exact Blk.kept (by repeat (first | with_reducible exact HT2.out | with_reducible refine Blk.alloc ?_ _ | with_reducible refine Blk.drewN ?_ _ | with_reducible refine Blk.drew ?_)) n3 (by omega) (by decide)
            · exact Below.trans (by have hsz := (HW3.out).size; repeat (first | with_reducible exact HW3.out | with_reducible refine Below.alloc ?_ (by first | (simp; omega) | simp | omega) _ | with_reducible refine drewN_below ?_ _ | with_reducible refine Below.drew ?_)) n2
        case rest =>
          obtain ⟨hB3, hT3, hw4⟩ := hcut
          clear hBd2 hT2 hw3 hb3 hr hr2 hb
          have d2 := hT3.cell 2
          simp at d2
          go_wp2_with (fail)
          clear d0 d1 d2
          have hTl := hT3.lt
          obtain ⟨wo, hwo⟩ : ∃ wo : World, wo = wr := ⟨_, rfl⟩
          subst hwo
          go_loopw [30] (fun i wx => ∃ j : Nat, j ≤ t3.length ∧ i = .int .i64 j ∧ Bld w.heap.size w.heap.size (acc ++ (opn t1 ++ t2.data.toList ++ (t3.take j).flatMap atxt)) wx ∧ Blk wx wo.heap.size 48 #[.int .i64 t1, .string t2, .slice A' t3.length cap', .int .i64 t4] ∧ Below w.heap.size w wx) (fun i _ => t3.length - (intOf i).toNat)
          case atStart => exact ⟨0, Nat.zero_le _, rfl, by simpa using hB3, hT3, hw4⟩
          case round =>
            obtain ⟨j, hj, rfl, hB4, hT4, hw4'⟩ := hrel
            clear hB3 hT3 hw4
            have hs4 := hw4'.size
            have hTl4 := hT4.lt
            by_cases hlt2 : j < t3.length
            · obtain ⟨x, hx⟩ := get_of_lt hlt2
              obtain ⟨b2, off2, rfl, hb2, e0, e1, e2⟩ := (hr0.below (hw4'.mono hB)).ai hx
              have htk2 : (t3.take (j + 1)).flatMap atxt = (t3.take j).flatMap atxt ++ atxt x := by rw [take_step hx]; simp
              have hwk2 := take_wgtA t3 j x hx
              simp only [wgtA] at hwk2
              obtain ⟨acc2, hacc2⟩ : ∃ acc2, (t3.take j).flatMap atxt = acc2 := ⟨_, rfl⟩
              rw [hacc2] at htk2 hwk2 hB4
              have HTK2 := hide htk2
              have HX := hide hx
              have j0 : (0 : Int) ≤ (j : Int) := by omega
              have j1 : (j : Int) < (t3.length : Int) := by omega
              have hopn : (opn t1).length ≤ 2 := by unfold opn; split <;> simp
              obtain ⟨x1, x2, x3⟩ := x
              dsimp only at e0 e1 e2 hwk2
              have hbl2 : (acc ++ (opn t1 ++ t2.data.toList ++ acc2)).length ≤ acc.length + 2 + t2.size + acc2.length := by
                have : t2.data.toList.length = t2.size := by simp
                simp only [List.length_append]; omega
              obtain ⟨bs, hbs⟩ : ∃ bs, acc ++ (opn t1 ++ t2.data.toList ++ acc2) = bs := ⟨_, rfl⟩
              rw [hbs] at hB4 hbl2
              have HBS := hide hbs
              clear htk2 hx hacc2 hbs hopn
              go_wp2_with (fail)
              have z0 : (⟨#[32]⟩ : ByteArray).size = 1 := rfl
              have z1 : (⟨#[61, 34]⟩ : ByteArray).size = 2 := rfl
              have z2 : (⟨#[34]⟩ : ByteArray).size = 1 := rfl
              refine (write_any w.heap.size w.heap.size bs _ _ (by repeat (first | with_reducible exact hB4 | with_reducible refine Bld.alloc ?_ _ | with_reducible refine Bld.drewN ?_ _ | with_reducible refine Bld.drew ?_)) (by simp only [ByteArray.size_append, z0, z1, z2]; omega) (by simp; omega)).mono ?_
              rintro e w5 ⟨rfl, n1, n2, n3⟩
              have hT5 : Blk w5 wo.heap.size 48 #[.int .i64 t1, .string t2, .slice (some ⟨b2, off2, none⟩) t3.length cap', .int .i64 t4] := Blk.kept (by repeat (first | with_reducible exact hT4 | with_reducible refine Blk.alloc ?_ _ | with_reducible refine Blk.drewN ?_ _ | with_reducible refine Blk.drew ?_)) n3 (by omega) (by decide)
              have hw5 : Below w.heap.size w w5 := Below.trans (by have hsz := (hw4').size; repeat (first | with_reducible exact hw4' | with_reducible refine Below.alloc ?_ (by first | (simp; omega) | simp | omega) _ | with_reducible refine drewN_below ?_ _ | with_reducible refine Below.drew ?_)) n2
              have el : bs ++ ((⟨#[32]⟩ : ByteArray) ++ x1 ++ ⟨#[61, 34]⟩ ++ x2 ++ ⟨#[34]⟩).data.toList = acc ++ (opn t1 ++ t2.data.toList ++ (acc2 ++ atxt (x1, x2, x3))) := by rw [← HBS.out]; simp [atxt]
              rw [el] at n1
              clear hB4 hT4 n3 n2 e0 e1 e2 z0 z1 z2 el
              go_wp2
              go_roundw
              case rel => exact ⟨j + 1, by omega, by go_num, by rw [HTK2.out]; exact n1, hT5, hw5⟩
              case measure => simp [intOf]; omega
            · have hjj : j = t3.length := by omega
              rw [hjj, List.take_length] at hB4
              clear hjj
              have f0 := hT4.cell 0
              simp at f0
              have z1 : (⟨#[62]⟩ : ByteArray).size = 1 := rfl
              have z2 : (⟨#[47, 62]⟩ : ByteArray).size = 2 := rfl
              have z3 : (⟨#[10]⟩ : ByteArray).size = 1 := rfl
              have hfl : (t3.flatMap atxt).length = (t3.map wgtA).sum := flat_wgtA t3
              have hopn : (opn t1).length ≤ 2 := by unfold opn; split <;> simp
              obtain ⟨acc2, hacc2⟩ : ∃ acc2, t3.flatMap atxt = acc2 := ⟨_, rfl⟩
              rw [hacc2] at hfl hB4
              have hbl2 : (acc ++ (opn t1 ++ t2.data.toList ++ acc2)).length ≤ acc.length + 2 + t2.size + acc2.length := by
                have : t2.data.toList.length = t2.size := by simp
                simp only [List.length_append]; omega
              obtain ⟨bs, hbs⟩ : ∃ bs, acc ++ (opn t1 ++ t2.data.toList ++ acc2) = bs := ⟨_, rfl⟩
              rw [hbs] at hB4 hbl2
              have HBS := hide hbs
              have htk2 : acc ++ ttxt (t1, t2, t3, t4) = bs ++ cls t1 := by rw [← hbs, ← hacc2]; simp [ttxt]
              have HTK2 := hide (HTK.out.trans htk2)
              have Z1 := hide z1
              have Z2 := hide z2
              have Z3 := hide z3
              clear hacc2 hbs hopn htk2 z1 z2 z3
              rcases hkd with rfl | rfl | rfl
              all_goals
                go_wp2_with (fail)
                refine (write_any w.heap.size w.heap.size bs _ _ (by repeat (first | with_reducible exact hB4 | with_reducible refine Bld.alloc ?_ _ | with_reducible refine Bld.drewN ?_ _ | with_reducible refine Bld.drew ?_)) (by have := Z1.out; have := Z2.out; have := Z3.out; rw [ByteArray.size_append]; omega) (by simp; omega)).mono ?_
                rintro e w5 ⟨rfl, n1, n2, n3⟩
                have hw5 : Below w.heap.size w w5 := Below.trans (by have hsz := (hw4').size; repeat (first | with_reducible exact hw4' | with_reducible refine Below.alloc ?_ (by first | (simp; omega) | simp | omega) _ | with_reducible refine drewN_below ?_ _ | with_reducible refine Below.drew ?_)) n2
                clear n2 n3 hB4 hT4 f0
                go_wp2
                go_roundw
                case rel => exact ⟨k + 1, by omega, by go_num, by rw [HTK2.out]; simpa [cls] using n1, hw5, by rw [HAK.out, HV.out]⟩
                case measure => simp [intOf]; omega
    · have hkk : k = L.length := by omega
      have hr' : textOf L = (⟨(L.flatMap ttxt).toArray⟩, 0) := by
        have := HAL.out
        rw [hkk, List.take_length] at this
        simp [textOf, this]
      have HR := hide hr'
      rw [hkk, List.take_length] at hBd
      clear hr'
      subst hkk
      have hsz := hb.size
      go_wp2_with (fail)
      refine (bstring_any w.heap.size w.heap.size _ _ hBd hsz).mono ?_
      rintro e w2 ⟨rfl, hb2⟩
      have hw2 := hb.trans hb2
      go_wp2_with (fail)
      go_ret2
      rw [HR.out]
      exact ⟨rfl, hw2⟩
end Go.Proofs.YtaglmkjkmhpifaaGreatDoor
