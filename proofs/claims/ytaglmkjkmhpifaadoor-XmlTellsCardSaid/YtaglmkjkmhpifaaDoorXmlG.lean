/- Chapter 42, the reference: Emit. -/
import Derived.Test.YtaglmkjkmhpifaaDoorXmlE
import Derived.Test.YtaglmkjkmhpifaaDoorEmE
import Derived.Test.YtaglmkjkmhpifaaDoorPoolD
namespace Go.Proofs.YtaglmkjkmhpifaaDoor
open Go.RowKit
set_option linter.unusedVariables false
set_option linter.unusedSimpArgs false

/-- The reference's ' name="number"'. -/
def nam42 (s : ByteArray) (n : Int) : ByteArray := ⟨#[32]⟩ ++ s ++ ⟨#[61, 34]⟩ ++ dig n ++ ⟨#[34]⟩
theorem nam42_list (s : ByteArray) (n : Int) : (nam42 s n).data.toList = atxt (attrN (s, n)) := by simp [nam42, atxt, attrN, dig_list]
theorem nam42_size (s : ByteArray) (n : Int) (h : I64 n) : (nam42 s n).size ≤ s.size + 25 := by
  have := dig_len n h
  have z1 : (⟨#[32]⟩ : ByteArray).size = 1 := rfl
  have z2 : (⟨#[61, 34]⟩ : ByteArray).size = 2 := rfl
  have z3 : (⟨#[34]⟩ : ByteArray).size = 1 := rfl
  simp only [nam42, ByteArray.size_append, z1, z2, z3]
  omega
theorem rnamed42_any (s : ByteArray) (n : Int) (hs : s.size ≤ 1000) (h : I64 n) (w : World) :
    Calls Tryd.prog 40 #[.string s, .int .i64 n] w fun e w' => e = .returned (.string (nam42 s n)) ∧ Below w.heap.size w w' := by
  have hd := dig_len n h
  have z1 : (⟨#[32]⟩ : ByteArray).size = 1 := rfl
  have z2 : (⟨#[61, 34]⟩ : ByteArray).size = 2 := rfl
  have z3 : (⟨#[34]⟩ : ByteArray).size = 1 := rfl
  have HH := hide h
  clear h
  go_enter Tryd.func40, Tryd.ntmps40
  go_wp2_with (fail)
  refine (rdigits_any n HH.out w).mono ?_
  rintro e w' ⟨rfl, hb⟩
  go_wp2
  go_ret
  exact ⟨rfl, hb⟩
theorem rnamed42_in (N : Nat) (W : World) (t : ByteArray) (n : Int) (ht : t.size ≤ 1000) (h : I64 n) (s : ByteArray) (hs : nam42 t n = s) (wz : World) (hz : Below N W wz) (hN : N ≤ W.heap.size) : Calls Tryd.prog 40 #[.string t, .int .i64 n] wz fun e w' => e = .returned (.string s) ∧ Below N wz w' :=
  (rnamed42_any t n ht h wz).mono fun e w' ⟨h1, h2⟩ => ⟨hs ▸ h1, h2.mono (by have := hz.size; omega)⟩
/-- The text of tags. -/
def xt (L : List Ti) : List UInt8 := (L.map indT).flatMap itxt
theorem xt_app (L M : List Ti) : xt (L ++ M) = xt L ++ xt M := by simp [xt]
theorem xt_one (t : Ti) : xt [t] = List.replicate (deepN t.2.1) 32 ++ ttxt t := by simp [xt, itxt, indT]
theorem dp1 : deepN sSuper = 0 := by simp [deepN, Lib.toList_data]
theorem dp2 : deepN sDevice = 2 := by simp [deepN, Lib.toList_data]
theorem dp3 : deepN sSingle = 4 := by simp [deepN, Lib.toList_data]
theorem dp4 : deepN sRange = 4 := by simp [deepN, Lib.toList_data]
theorem xt_head (p : Pl) : xt [headT p] = ((⟨#[60, 115, 117, 112, 101, 114, 98, 108, 111, 99, 107, 32, 117, 117, 105, 100, 61, 34, 34]⟩ : ByteArray)).data.toList ++ (headN p).flatMap (fun x => atxt (attrN x)) ++ [62, 10] := by
  rw [xt_one]
  simp [headT, dp1, ttxt, opn, cls, atxt, List.flatMap_map]
theorem xt_dev (d : Dv) : xt [devT d] = ((⟨#[32, 32, 60, 100, 101, 118, 105, 99, 101]⟩ : ByteArray)).data.toList ++ (devN d).flatMap (fun x => atxt (attrN x)) ++ [62, 10] := by
  rw [xt_one]
  simp [devT, dp2, ttxt, opn, cls, List.flatMap_map, List.replicate]
theorem xt_run1 (r : Rn) (h : r.2.2.1 = 1) : xt [runT r] = ((⟨#[32, 32, 32, 32, 60, 115, 105, 110, 103, 108, 101, 95, 109, 97, 112, 112, 105, 110, 103]⟩ : ByteArray)).data.toList ++ (oneN r).flatMap (fun x => atxt (attrN x)) ++ [47, 62, 10] := by
  rw [xt_one]
  simp [runT, h, dp3, ttxt, opn, cls, List.flatMap_map, List.replicate]
theorem xt_runN (r : Rn) (h : r.2.2.1 ≠ 1) : xt [runT r] = ((⟨#[32, 32, 32, 32, 60, 114, 97, 110, 103, 101, 95, 109, 97, 112, 112, 105, 110, 103]⟩ : ByteArray)).data.toList ++ (rngN r).flatMap (fun x => atxt (attrN x)) ++ [47, 62, 10] := by
  rw [xt_one]
  simp [runT, h, dp4, ttxt, opn, cls, List.flatMap_map, List.replicate]
theorem xt_endD : xt [endT sDevice] = ((⟨#[32, 32, 60, 47, 100, 101, 118, 105, 99, 101, 62, 10]⟩ : ByteArray)).data.toList := by
  rw [xt_one]
  simp [endT, dp2, ttxt, opn, cls, List.replicate]
theorem xt_endS : xt [endT sSuper] = ((⟨#[60, 47, 115, 117, 112, 101, 114, 98, 108, 111, 99, 107, 62, 10]⟩ : ByteArray)).data.toList := by
  rw [xt_one]
  simp [endT, dp1, ttxt, opn, cls]
theorem xt_len {L : List Ti} (h : ∀ t ∈ L, wgt t ≤ 400) : (xt L).length ≤ 404 * L.length := itxts_len h

set_option maxRecDepth 100000 in
set_option maxHeartbeats 16000000 in
theorem rxEmit_any (A : Option Addr) (cap : Nat) (p : Pl) (w : World) (h : RdD w w.heap.size A p.2.2.2.2) (hc : cntL p.2.2.2.2 ≤ 1000000) (hl : p.2.2.2.2.length ≤ 1000000) :
    Calls Tryd.prog 19 #[.agg #[.int .i64 p.1, .int .i64 p.2.1, .int .i64 p.2.2.1, .int .i64 p.2.2.2.1, .slice A p.2.2.2.2.length cap]] w fun e w' => e = .returned (.tuple #[.string (xmlOf p).1, .int .i64 (xmlOf p).2]) ∧ Below w.heap.size w w' := by
  obtain ⟨p1, p2, p3, p4, L⟩ := p
  dsimp only at h hc hl
  go_enter Tryd.func19, Tryd.ntmps19
  go_wp2_with (fail)
  have hP := Blk.new w 32 #[.int .i64 p1, .int .i64 p2, .int .i64 p3, .int .i64 p4, .slice A L.length cap]
  have hW : Below w.heap.size w (w.alloc (.cells #[.int .i64 p1, .int .i64 p2, .int .i64 p3, .int .i64 p4, .slice A L.length cap] 32)) := (by repeat (first | exact Below.refl _ _ | refine Below.alloc ?_ (by first | (simp; omega) | simp | omega) _ | refine drewN_below ?_ _ | refine Below.drew ?_))
  generalize w.alloc (.cells #[.int .i64 p1, .int .i64 p2, .int .i64 p3, .int .i64 p4, .slice A L.length cap] 32) = w1 at *
  have hsz1 := hW.size
  refine (rcheck_any A cap (p1, p2, p3, p4, L) w.heap.size w1 hsz1 (h.below hW) hc hl).mono ?_
  rintro e w2 ⟨rfl, hb2⟩
  have hP2 := hP.below hb2 hP.lt
  have hW2 := hW.trans (hb2.mono hsz1)
  obtain ⟨ev, hev⟩ : ∃ ev, chkE (p1, p2, p3, p4, L) = ev := ⟨_, rfl⟩
  rw [hev]
  have HEV := hide hev
  have c0 := hP2.cell 0
  have c1 := hP2.cell 1
  have c2 := hP2.cell 2
  have c3 := hP2.cell 3
  have c4 := hP2.cell 4
  simp at c0 c1 c2 c3 c4
  clear hP hb2 hev hW
  have hsz2 := hW2.size
  have hP2l := hP2.lt
  by_cases hz : ev = 0
  · subst hz
    obtain ⟨k1, k2, k3, k4, k5, k6, -, k8⟩ := chk_ok HEV.out
    have hwg : ∀ t ∈ xmlTs (p1, p2, p3, p4, L), wgt t ≤ 400 := fun t ht => xmlTs_wgt ⟨k1, k2, k3, k4⟩ k8 ht
    dsimp only at k1 k2 k3 k4 k5 k6
    have HD := hide k8
    have HWG := hide hwg
    have hR := hide (show (xmlOf (p1, p2, p3, p4, L)) = (⟨(xmlL (p1, p2, p3, p4, L)).toArray⟩, 0) from if_pos HEV.out)
    have sh0 : (nam42 (⟨#[116, 105, 109, 101]⟩ : ByteArray) p2).size ≤ 100 := by have := nam42_size (⟨#[116, 105, 109, 101]⟩ : ByteArray) p2 k2; have z : (⟨#[116, 105, 109, 101]⟩ : ByteArray).size = 4 := rfl; omega
    have sh1 : (nam42 (⟨#[116, 114, 97, 110, 115, 97, 99, 116, 105, 111, 110]⟩ : ByteArray) p1).size ≤ 100 := by have := nam42_size (⟨#[116, 114, 97, 110, 115, 97, 99, 116, 105, 111, 110]⟩ : ByteArray) p1 k1; have z : (⟨#[116, 114, 97, 110, 115, 97, 99, 116, 105, 111, 110]⟩ : ByteArray).size = 11 := rfl; omega
    have sh2 : (nam42 (⟨#[100, 97, 116, 97, 95, 98, 108, 111, 99, 107, 95, 115, 105, 122, 101]⟩ : ByteArray) p3).size ≤ 100 := by have := nam42_size (⟨#[100, 97, 116, 97, 95, 98, 108, 111, 99, 107, 95, 115, 105, 122, 101]⟩ : ByteArray) p3 k3; have z : (⟨#[100, 97, 116, 97, 95, 98, 108, 111, 99, 107, 95, 115, 105, 122, 101]⟩ : ByteArray).size = 15 := rfl; omega
    have sh3 : (nam42 (⟨#[110, 114, 95, 100, 97, 116, 97, 95, 98, 108, 111, 99, 107, 115]⟩ : ByteArray) p4).size ≤ 100 := by have := nam42_size (⟨#[110, 114, 95, 100, 97, 116, 97, 95, 98, 108, 111, 99, 107, 115]⟩ : ByteArray) p4 k4; have z : (⟨#[110, 114, 95, 100, 97, 116, 97, 95, 98, 108, 111, 99, 107, 115]⟩ : ByteArray).size = 14 := rfl; omega
    have qh0 : ¬ 9223372036854775807 < 19 + (nam42 ⟨#[116, 105, 109, 101]⟩ p2).size := by omega
    have qh1 : ¬ 9223372036854775807 < 19 + (nam42 ⟨#[116, 105, 109, 101]⟩ p2).size + (nam42 ⟨#[116, 114, 97, 110, 115, 97, 99, 116, 105, 111, 110]⟩ p1).size := by omega
    have qh2 : ¬ 9223372036854775807 < 19 + (nam42 ⟨#[116, 105, 109, 101]⟩ p2).size + (nam42 ⟨#[116, 114, 97, 110, 115, 97, 99, 116, 105, 111, 110]⟩ p1).size + (nam42 ⟨#[100, 97, 116, 97, 95, 98, 108, 111, 99, 107, 95, 115, 105, 122, 101]⟩ p3).size := by omega
    have qh3 : ¬ 9223372036854775807 < 19 + (nam42 ⟨#[116, 105, 109, 101]⟩ p2).size + (nam42 ⟨#[116, 114, 97, 110, 115, 97, 99, 116, 105, 111, 110]⟩ p1).size + (nam42 ⟨#[100, 97, 116, 97, 95, 98, 108, 111, 99, 107, 95, 115, 105, 122, 101]⟩ p3).size + (nam42 ⟨#[110, 114, 95, 100, 97, 116, 97, 95, 98, 108, 111, 99, 107, 115]⟩ p4).size := by omega
    have qh4 : ¬ 9223372036854775807 < 19 + (nam42 ⟨#[116, 105, 109, 101]⟩ p2).size + (nam42 ⟨#[116, 114, 97, 110, 115, 97, 99, 116, 105, 111, 110]⟩ p1).size + (nam42 ⟨#[100, 97, 116, 97, 95, 98, 108, 111, 99, 107, 95, 115, 105, 122, 101]⟩ p3).size + (nam42 ⟨#[110, 114, 95, 100, 97, 116, 97, 95, 98, 108, 111, 99, 107, 115]⟩ p4).size + 2 := by omega
    have z1 : (⟨#[60, 115, 117, 112, 101, 114, 98, 108, 111, 99, 107, 32, 117, 117, 105, 100, 61, 34, 34]⟩ : ByteArray).size = 19 := rfl
    have z2 : (⟨#[62, 10]⟩ : ByteArray).size = 2 := rfl
    clear k8 hwg
    go_wp2_with (fail)
    go_region_held3 (fun w' => Below (w2.heap.size) (w2) w' ∧ (∀ b o, b < w2.heap.size → w'.cell? ⟨b, o, none⟩ = (w2).cell? ⟨b, o, none⟩) ∧ (∀ b o, b < w2.heap.size → w'.frozen? ⟨b, o, none⟩ = (w2).frozen? ⟨b, o, none⟩))
      (first | exact held_refl _ _ | exact held_drew | exact held_trans (by assumption) hb3 (Nat.le_refl _))
      (first | (go_at_call 40; refine (rnamed42_in w2.heap.size w2 _ _ (by decide) (by assumption) _ rfl _ (by first | exact Below.refl _ _ | exact (Below.refl _ _).drew | exact And.left (by assumption)) (Nat.le_refl _)).mono ?_; rintro e w3 ⟨rfl, hb3⟩))
    obtain ⟨hW3, -, -⟩ : Below w2.heap.size w2 w3 ∧ _ ∧ _ := by assumption
    have hP3 := hP2.below hW3 hP2l
    have hw3 : Below w.heap.size w w3 := hW2.trans (hW3.mono hsz2)
    obtain ⟨st, hst⟩ : ∃ st, (⟨#[60, 115, 117, 112, 101, 114, 98, 108, 111, 99, 107, 32, 117, 117, 105, 100, 61, 34, 34]⟩ ++ nam42 ⟨#[116, 105, 109, 101]⟩ p2 ++ nam42 ⟨#[116, 114, 97, 110, 115, 97, 99, 116, 105, 111, 110]⟩ p1 ++ nam42 ⟨#[100, 97, 116, 97, 95, 98, 108, 111, 99, 107, 95, 115, 105, 122, 101]⟩ p3 ++ nam42 ⟨#[110, 114, 95, 100, 97, 116, 97, 95, 98, 108, 111, 99, 107, 115]⟩ p4 ++ ⟨#[62, 10]⟩) = st := ⟨_, rfl⟩
    have hstl : st.data.toList = xt [headT (p1, p2, p3, p4, L)] := by
      rw [xt_head, ← hst]
      simp only [ByteArray.data_append, Array.toList_append, nam42_list, headN, List.flatMap_cons, List.flatMap_nil, List.append_assoc, List.append_nil]
    have hsts : st.size ≤ 1000 := by
      rw [← hst]; simp only [ByteArray.size_append, z1, z2]; omega
    have HSTL := hide hstl
    rw [hst]
    have hs3 := hw3.size
    have hP3l := hP3.lt
    clear sh0 sh1 sh2 sh3 qh0 qh1 qh2 qh3 qh4 hb3 hst hstl z1 z2 k1 k2 k3 k4 c0 c1 c2 c3 c4
    go_wp2
    go_loopw [4, 5] (fun s i wr => ∃ (k : Nat) (str : ByteArray), k ≤ L.length ∧ i = .int .i64 k ∧ s = .string str ∧ str.data.toList = xt (headT (p1, p2, p3, p4, L) :: (L.take k).flatMap devTs) ∧ Below w3.heap.size w3 wr) (fun _ i _ => L.length - (intOf i).toNat)
    case atStart => exact ⟨0, _, Nat.zero_le _, rfl, rfl, by simp [HSTL.out], Below.refl _ _⟩
    case round =>
      obtain ⟨k, str, hk, rfl, rfl, hstr, hb⟩ := hrel
      have hLl := devTs_len (L := L.take k) (fun d hd => HD.out d (List.mem_of_mem_take hd))
      have hcl := cntL_le L k
      have htl : (L.take k).length ≤ 4096 := by simp; omega
      have hxl := xt_len (L := headT (p1, p2, p3, p4, L) :: (L.take k).flatMap devTs) (fun t ht => HWG.out t (by
        simp only [List.mem_cons, List.mem_flatMap, xmlTs, List.mem_append] at ht ⊢
        rcases ht with ht | ⟨d, hd, ht⟩
        · exact .inl ht
        · exact .inr (.inl ⟨d, List.mem_of_mem_take hd, ht⟩)))
      rw [← hstr, List.length_cons] at hxl
      have hsz : str.data.toList.length = str.size := by simp
      have hssz : str.size ≤ 20000000 := by omega
      obtain ⟨acc, hacc⟩ : ∃ acc, headT (p1, p2, p3, p4, L) :: (L.take k).flatMap devTs = acc := ⟨_, rfl⟩
      rw [hacc] at hstr
      have HSTR := hide hstr
      have HACC := hide hacc
      have hPr := hP3.below hb hP3l
      have g4 := hPr.cell 4
      simp at g4
      have hbw := hw3.trans (hb.mono hs3)
      have hsr := hbw.size
      clear hstr hLl hcl htl hxl hsz hacc
      by_cases hlt : k < L.length
      · obtain ⟨d, hd⟩ := get_of_lt hlt
        obtain ⟨b, off, A', cap', rfl, hbB, e0, e1, e2, e3, e4, hr⟩ := (h.below hbw) k d hd
        have hst2 : headT (p1, p2, p3, p4, L) :: (L.take (k + 1)).flatMap devTs = acc ++ devTs d := by rw [take_step hd, ← HACC.out]; simp
        have hokd := HD.out d (List.mem_of_getElem? hd)
        have hwr : ∀ r ∈ runsOf d.2.2.2.2, wgt (runT r) ≤ 400 := fun r hr => HWG.out _ (by
          simp only [xmlTs, List.mem_cons, List.mem_append, List.mem_flatMap]
          exact .inr (.inl ⟨d, List.mem_of_getElem? hd, by simp only [devTs, List.mem_cons, List.mem_append, List.mem_map]; exact .inr (.inl ⟨r, hr, rfl⟩)⟩))
        have HWR := hide hwr
        have hcm := len_cntL hd
        have HST2 := hide hst2
        have HOK := hide hokd
        have i0 : (0 : Int) ≤ (k : Int) := by omega
        have i9 : (k : Int) < (L.length : Int) := by omega
        clear hst2 hd hokd hwr
        obtain ⟨d1, d2, d3, d4, l⟩ := d
        dsimp only at e0 e1 e2 e3 e4 hr hcm
        have i1 : I64 d1 := HOK.out.1
        have i2 : I64 d2 := HOK.out.2.1
        have i3 : I64 d3 := HOK.out.2.2.1
        have i4 : I64 d4 := HOK.out.2.2.2.1
        have i5 : I64 (l.length : Int) := by unfold I64; omega
        have sd0 : (nam42 (⟨#[100, 101, 118, 95, 105, 100]⟩ : ByteArray) d1).size ≤ 100 := by have := nam42_size (⟨#[100, 101, 118, 95, 105, 100]⟩ : ByteArray) d1 i1; have z : (⟨#[100, 101, 118, 95, 105, 100]⟩ : ByteArray).size = 6 := rfl; omega
        have sd1 : (nam42 (⟨#[109, 97, 112, 112, 101, 100, 95, 98, 108, 111, 99, 107, 115]⟩ : ByteArray) (l.length : Int)).size ≤ 100 := by have := nam42_size (⟨#[109, 97, 112, 112, 101, 100, 95, 98, 108, 111, 99, 107, 115]⟩ : ByteArray) (l.length : Int) i5; have z : (⟨#[109, 97, 112, 112, 101, 100, 95, 98, 108, 111, 99, 107, 115]⟩ : ByteArray).size = 13 := rfl; omega
        have sd2 : (nam42 (⟨#[116, 114, 97, 110, 115, 97, 99, 116, 105, 111, 110]⟩ : ByteArray) d2).size ≤ 100 := by have := nam42_size (⟨#[116, 114, 97, 110, 115, 97, 99, 116, 105, 111, 110]⟩ : ByteArray) d2 i2; have z : (⟨#[116, 114, 97, 110, 115, 97, 99, 116, 105, 111, 110]⟩ : ByteArray).size = 11 := rfl; omega
        have sd3 : (nam42 (⟨#[99, 114, 101, 97, 116, 105, 111, 110, 95, 116, 105, 109, 101]⟩ : ByteArray) d3).size ≤ 100 := by have := nam42_size (⟨#[99, 114, 101, 97, 116, 105, 111, 110, 95, 116, 105, 109, 101]⟩ : ByteArray) d3 i3; have z : (⟨#[99, 114, 101, 97, 116, 105, 111, 110, 95, 116, 105, 109, 101]⟩ : ByteArray).size = 13 := rfl; omega
        have sd4 : (nam42 (⟨#[115, 110, 97, 112, 95, 116, 105, 109, 101]⟩ : ByteArray) d4).size ≤ 100 := by have := nam42_size (⟨#[115, 110, 97, 112, 95, 116, 105, 109, 101]⟩ : ByteArray) d4 i4; have z : (⟨#[115, 110, 97, 112, 95, 116, 105, 109, 101]⟩ : ByteArray).size = 9 := rfl; omega
        have qd0 : ¬ 9223372036854775807 < str.size + 9 + (nam42 ⟨#[100, 101, 118, 95, 105, 100]⟩ d1).size := by omega
        have qd1 : ¬ 9223372036854775807 < str.size + 9 + (nam42 ⟨#[100, 101, 118, 95, 105, 100]⟩ d1).size + (nam42 ⟨#[109, 97, 112, 112, 101, 100, 95, 98, 108, 111, 99, 107, 115]⟩ (l.length : Int)).size := by omega
        have qd2 : ¬ 9223372036854775807 < str.size + 9 + (nam42 ⟨#[100, 101, 118, 95, 105, 100]⟩ d1).size + (nam42 ⟨#[109, 97, 112, 112, 101, 100, 95, 98, 108, 111, 99, 107, 115]⟩ (l.length : Int)).size + (nam42 ⟨#[116, 114, 97, 110, 115, 97, 99, 116, 105, 111, 110]⟩ d2).size := by omega
        have qd3 : ¬ 9223372036854775807 < str.size + 9 + (nam42 ⟨#[100, 101, 118, 95, 105, 100]⟩ d1).size + (nam42 ⟨#[109, 97, 112, 112, 101, 100, 95, 98, 108, 111, 99, 107, 115]⟩ (l.length : Int)).size + (nam42 ⟨#[116, 114, 97, 110, 115, 97, 99, 116, 105, 111, 110]⟩ d2).size + (nam42 ⟨#[99, 114, 101, 97, 116, 105, 111, 110, 95, 116, 105, 109, 101]⟩ d3).size := by omega
        have qd4 : ¬ 9223372036854775807 < str.size + 9 + (nam42 ⟨#[100, 101, 118, 95, 105, 100]⟩ d1).size + (nam42 ⟨#[109, 97, 112, 112, 101, 100, 95, 98, 108, 111, 99, 107, 115]⟩ (l.length : Int)).size + (nam42 ⟨#[116, 114, 97, 110, 115, 97, 99, 116, 105, 111, 110]⟩ d2).size + (nam42 ⟨#[99, 114, 101, 97, 116, 105, 111, 110, 95, 116, 105, 109, 101]⟩ d3).size + (nam42 ⟨#[115, 110, 97, 112, 95, 116, 105, 109, 101]⟩ d4).size := by omega
        have qd5 : ¬ 9223372036854775807 < str.size + 9 + (nam42 ⟨#[100, 101, 118, 95, 105, 100]⟩ d1).size + (nam42 ⟨#[109, 97, 112, 112, 101, 100, 95, 98, 108, 111, 99, 107, 115]⟩ (l.length : Int)).size + (nam42 ⟨#[116, 114, 97, 110, 115, 97, 99, 116, 105, 111, 110]⟩ d2).size + (nam42 ⟨#[99, 114, 101, 97, 116, 105, 111, 110, 95, 116, 105, 109, 101]⟩ d3).size + (nam42 ⟨#[115, 110, 97, 112, 95, 116, 105, 109, 101]⟩ d4).size + 2 := by omega
        have z1 : (⟨#[32, 32, 60, 100, 101, 118, 105, 99, 101]⟩ : ByteArray).size = 9 := rfl
        have z2 : (⟨#[62, 10]⟩ : ByteArray).size = 2 := rfl
        have q0 : ¬ 9223372036854775807 < str.size + 9 := by omega
        have hDb := Blk.new wr 24 #[.int .i64 d1, .int .i64 d2, .int .i64 d3, .int .i64 d4, .slice A' l.length cap']
        have hWd : Below wr.heap.size wr (wr.alloc (.cells #[.int .i64 d1, .int .i64 d2, .int .i64 d3, .int .i64 d4, .slice A' l.length cap'] 24)) := (by repeat (first | exact Below.refl _ _ | refine Below.alloc ?_ (by first | (simp; omega) | simp | omega) _ | refine drewN_below ?_ _ | refine Below.drew ?_))
        go_wp2_with (fail)
        clear e0 e1 e2 e3 e4 g4
        generalize wr.alloc (.cells #[.int .i64 d1, .int .i64 d2, .int .i64 d3, .int .i64 d4, .slice A' l.length cap'] 24) = w4 at *
        have hDl := hDb.lt
        have e0 := hDb.cell 0
        have e1 := hDb.cell 1
        have e2 := hDb.cell 2
        have e3 := hDb.cell 3
        have e4 := hDb.cell 4
        simp at e0 e1 e2 e3 e4
        go_region_held3 (fun w' => Below (w4.heap.size) (w4) w' ∧ (∀ b o, b < w4.heap.size → w'.cell? ⟨b, o, none⟩ = (w4).cell? ⟨b, o, none⟩) ∧ (∀ b o, b < w4.heap.size → w'.frozen? ⟨b, o, none⟩ = (w4).frozen? ⟨b, o, none⟩))
          (first | exact held_refl _ _ | exact held_drew | exact held_trans (by assumption) hb5 (Nat.le_refl _))
          (first | (go_at_call 40; refine (rnamed42_in w4.heap.size w4 _ _ (by decide) (by assumption) _ rfl _ (by first | exact Below.refl _ _ | exact (Below.refl _ _).drew | exact And.left (by assumption)) (Nat.le_refl _)).mono ?_; rintro e w5 ⟨rfl, hb5⟩))
        obtain ⟨hW5, -, -⟩ : Below w4.heap.size w4 w5 ∧ _ ∧ _ := by assumption
        have hD5 := hDb.below hW5 hDl
        have hs4 := hWd.size
        have hbr5 := hWd.trans (hW5.mono hs4)
        have hb5' := hb.trans (hbr5.mono hb.size)
        have hbw5 := hw3.trans (hb5'.mono hs3)
        have hs5 := hbw5.size
        have hr5 := (hr.below (hbr5.mono hsr)).mono hs5
        obtain ⟨s2, hs2⟩ : ∃ s2, (str ++ ⟨#[32, 32, 60, 100, 101, 118, 105, 99, 101]⟩ ++ nam42 ⟨#[100, 101, 118, 95, 105, 100]⟩ d1 ++ nam42 ⟨#[109, 97, 112, 112, 101, 100, 95, 98, 108, 111, 99, 107, 115]⟩ (l.length : Int) ++ nam42 ⟨#[116, 114, 97, 110, 115, 97, 99, 116, 105, 111, 110]⟩ d2 ++ nam42 ⟨#[99, 114, 101, 97, 116, 105, 111, 110, 95, 116, 105, 109, 101]⟩ d3 ++ nam42 ⟨#[115, 110, 97, 112, 95, 116, 105, 109, 101]⟩ d4 ++ ⟨#[62, 10]⟩) = s2 := ⟨_, rfl⟩
        have hs2l : s2.data.toList = xt (acc ++ [devT (d1, d2, d3, d4, l)]) := by
          rw [xt_app, xt_dev, ← hs2, ← HSTR.out]
          simp only [ByteArray.data_append, Array.toList_append, nam42_list, devN, List.flatMap_cons, List.flatMap_nil, List.append_assoc, List.append_nil]
        have hs2s : s2.size ≤ 20001000 := by
          rw [← hs2]; simp only [ByteArray.size_append, z1, z2]; omega
        have HS2 := hide hs2l
        rw [hs2]
        clear sd0 sd1 sd2 sd3 sd4 qd0 qd1 qd2 qd3 qd4 qd5 hb5 hs2 hs2l z1 z2 q0 i1 i2 i3 i4 i5 e0 e1 e2 e3 hW5 hDb hWd
        have f4 := hD5.cell 4
        have hDl5 := hD5.lt
        simp at f4
        have hmm : MildM l := fun m hm => ⟨(HOK.out.2.2.2.2.1 m hm).1, (HOK.out.2.2.2.2.1 m hm).2.1, (HOK.out.2.2.2.2.1 m hm).2.2.1, (HOK.out.2.2.2.2.1 m hm).2.2.2.1⟩
        have HM := hide hmm
        clear hmm
        go_wp2_with (fail)
        refine (refof_any A' cap' l w5 hr5 HM.out HOK.out.2.2.2.2.2).mono ?_
        rintro e w6 ⟨v6, rfl, hO6, hb6⟩
        obtain ⟨A6, n6, cap6, rfl, hn6, -⟩ := hO6.rd rc_len
        subst hn6
        have hbx6 := hb5'.trans (hb6.mono (by have := hb5'.size; omega))
        have hs6 := hb6.size
        have hrl := runsOf_len l
        have hro : ∀ r ∈ runsOf l, I64 r.1 ∧ I64 r.2.1 ∧ I64 r.2.2.1 ∧ I64 r.2.2.2 := fun r hr => run_ok HOK.out.2.2.2.2.1 HOK.out.2.2.2.2.2 hr
        have hwr : ∀ r ∈ runsOf l, wgt (runT r) ≤ 400 := HWR.out
        obtain ⟨rs, hrs⟩ : ∃ rs, runsOf l = rs := ⟨_, rfl⟩
        obtain ⟨ac2, hac2⟩ : ∃ ac2, acc ++ [devT (d1, d2, d3, d4, l)] = ac2 := ⟨_, rfl⟩
        have hdv : acc ++ devTs (d1, d2, d3, d4, l) = (ac2 ++ rs.map runT) ++ [endT sDevice] := by rw [← hrs, ← hac2]; simp [devTs]
        have hs2l := HS2.out
        rw [hac2] at hs2l
        rw [hrs] at hO6 hrl hro hwr
        rw [hrs]
        obtain ⟨A3, n3, cap3, he, hn3, hrd⟩ := hO6.rd rc_len
        injection he with e1 e2 e3
        subst e1
        have HDV := hide (HST2.out.trans hdv)
        have HRO := hide hro
        have HWR := hide hwr
        have HS2L := hide hs2l
        clear hO6 hdv hro hrs hr5 hb6 f4 e4 e2 e3 hn3 hac2 hs2l hwr HS2 hD5 hPr
        go_wp2
        go_loopw [4, 8] (fun s i wx => ∃ (j : Nat) (str2 : ByteArray), j ≤ rs.length ∧ i = .int .i64 j ∧ s = .string str2 ∧ str2.data.toList = s2.data.toList ++ xt ((rs.take j).map runT) ∧ Below w6.heap.size w6 wx) (fun _ i _ => rs.length - (intOf i).toNat)
        case atStart => exact ⟨0, _, Nat.zero_le _, rfl, rfl, by simp [xt], Below.refl _ _⟩
        case round =>
          obtain ⟨j, str2, hj, rfl, rfl, hstr2, hbx⟩ := hrel
          have hxl := xt_len (L := (rs.take j).map runT) (fun t ht => by
            obtain ⟨r, hr, rfl⟩ := List.mem_map.1 ht
            exact HWR.out r (List.mem_of_mem_take hr))
          have hsz1 := congrArg List.length hstr2
          have hsz2 : str2.data.toList.length = str2.size := by simp
          have hsz3 : s2.data.toList.length = s2.size := by simp
          have htl2 : (rs.take j).length ≤ rs.length := by simp; omega
          rw [List.length_append] at hsz1
          rw [List.length_map] at hxl
          have hssz2 : str2.size ≤ 100000000 := by omega
          have HSTR2 := hide hstr2
          have hsx := hbx.size
          clear hxl hsz1 hsz2 hsz3 htl2 hstr2
          by_cases hlt2 : j < rs.length
          · obtain ⟨r, hx⟩ := get_of_lt hlt2
            obtain ⟨b3, off3, hA3, hb3, g0, g1, g2, g3⟩ := (hrd.below hbx).rn hx
            have hst3 : xt ((rs.take (j + 1)).map runT) = xt ((rs.take j).map runT) ++ xt [runT r] := by rw [take_step hx, List.map_append, xt_app]; rfl
            obtain ⟨j1, j2, j3, j4⟩ := HRO.out r (List.mem_of_getElem? hx)
            have HST3 := hide hst3
            subst hA3
            have k0 : (0 : Int) ≤ (j : Int) := by omega
            have k9 : (j : Int) < (rs.length : Int) := by omega
            clear hst3 hx
            obtain ⟨r1, r2, r3, r4⟩ := r
            dsimp only at g0 g1 g2 g3 j1 j2 j3 j4
            have hbr : b3 < wr.heap.size := by omega
            by_cases hz : r3 = 1
            · subst hz
              have so0 : (nam42 (⟨#[111, 114, 105, 103, 105, 110, 95, 98, 108, 111, 99, 107]⟩ : ByteArray) r1).size ≤ 100 := by have := nam42_size (⟨#[111, 114, 105, 103, 105, 110, 95, 98, 108, 111, 99, 107]⟩ : ByteArray) r1 j1; have z : (⟨#[111, 114, 105, 103, 105, 110, 95, 98, 108, 111, 99, 107]⟩ : ByteArray).size = 12 := rfl; omega
              have so1 : (nam42 (⟨#[100, 97, 116, 97, 95, 98, 108, 111, 99, 107]⟩ : ByteArray) r2).size ≤ 100 := by have := nam42_size (⟨#[100, 97, 116, 97, 95, 98, 108, 111, 99, 107]⟩ : ByteArray) r2 j2; have z : (⟨#[100, 97, 116, 97, 95, 98, 108, 111, 99, 107]⟩ : ByteArray).size = 10 := rfl; omega
              have so2 : (nam42 (⟨#[116, 105, 109, 101]⟩ : ByteArray) r4).size ≤ 100 := by have := nam42_size (⟨#[116, 105, 109, 101]⟩ : ByteArray) r4 j4; have z : (⟨#[116, 105, 109, 101]⟩ : ByteArray).size = 4 := rfl; omega
              have qo0 : ¬ 9223372036854775807 < str2.size + 19 + (nam42 ⟨#[111, 114, 105, 103, 105, 110, 95, 98, 108, 111, 99, 107]⟩ r1).size := by omega
              have qo1 : ¬ 9223372036854775807 < str2.size + 19 + (nam42 ⟨#[111, 114, 105, 103, 105, 110, 95, 98, 108, 111, 99, 107]⟩ r1).size + (nam42 ⟨#[100, 97, 116, 97, 95, 98, 108, 111, 99, 107]⟩ r2).size := by omega
              have qo2 : ¬ 9223372036854775807 < str2.size + 19 + (nam42 ⟨#[111, 114, 105, 103, 105, 110, 95, 98, 108, 111, 99, 107]⟩ r1).size + (nam42 ⟨#[100, 97, 116, 97, 95, 98, 108, 111, 99, 107]⟩ r2).size + (nam42 ⟨#[116, 105, 109, 101]⟩ r4).size := by omega
              have qo3 : ¬ 9223372036854775807 < str2.size + 19 + (nam42 ⟨#[111, 114, 105, 103, 105, 110, 95, 98, 108, 111, 99, 107]⟩ r1).size + (nam42 ⟨#[100, 97, 116, 97, 95, 98, 108, 111, 99, 107]⟩ r2).size + (nam42 ⟨#[116, 105, 109, 101]⟩ r4).size + 3 := by omega
              have z1 : (⟨#[32, 32, 32, 32, 60, 115, 105, 110, 103, 108, 101, 95, 109, 97, 112, 112, 105, 110, 103]⟩ : ByteArray).size = 19 := rfl
              have z2 : (⟨#[47, 62, 10]⟩ : ByteArray).size = 3 := rfl
              have q0 : ¬ 9223372036854775807 < str2.size + 19 := by omega
              have hx1 := xt_run1 (r1, r2, 1, r4) rfl
              have HX1 := hide hx1
              clear hx1
              go_wp2_with (fail)
              go_region_held3 (fun w' => Below (wr.heap.size) (wr) w' ∧ (∀ b o, b < wr.heap.size → w'.cell? ⟨b, o, none⟩ = (wr).cell? ⟨b, o, none⟩) ∧ (∀ b o, b < wr.heap.size → w'.frozen? ⟨b, o, none⟩ = (wr).frozen? ⟨b, o, none⟩))
                (first | exact held_refl _ _ | exact held_drew | exact held_trans (by assumption) hb7 (Nat.le_refl _))
                (first | (go_at_call 40; refine (rnamed42_in wr.heap.size wr _ _ (by decide) (by assumption) _ rfl _ (by first | exact Below.refl _ _ | exact (Below.refl _ _).drew | exact And.left (by assumption)) (Nat.le_refl _)).mono ?_; rintro e w7 ⟨rfl, hb7⟩))
              obtain ⟨hW7, -, -⟩ : Below wr.heap.size wr w7 ∧ _ ∧ _ := by assumption
              have hb8 := hbx.trans (hW7.mono hsx)
              obtain ⟨s3, hs3'⟩ : ∃ s3, (str2 ++ ⟨#[32, 32, 32, 32, 60, 115, 105, 110, 103, 108, 101, 95, 109, 97, 112, 112, 105, 110, 103]⟩ ++ nam42 ⟨#[111, 114, 105, 103, 105, 110, 95, 98, 108, 111, 99, 107]⟩ r1 ++ nam42 ⟨#[100, 97, 116, 97, 95, 98, 108, 111, 99, 107]⟩ r2 ++ nam42 ⟨#[116, 105, 109, 101]⟩ r4 ++ ⟨#[47, 62, 10]⟩) = s3 := ⟨_, rfl⟩
              have hs3l : s3.data.toList = s2.data.toList ++ xt ((rs.take (j + 1)).map runT) := by
                rw [HST3.out, HX1.out, ← hs3', ← List.append_assoc, ← HSTR2.out]
                simp only [ByteArray.data_append, Array.toList_append, nam42_list, oneN, List.flatMap_cons, List.flatMap_nil, List.append_assoc, List.append_nil]
              have HS3 := hide hs3l
              rw [hs3']
              clear so0 so1 so2 qo0 qo1 qo2 qo3 q0 g0 g1 g2 g3 hb7 hW7 hs3' hs3l z1 z2
              go_wp2
              go_roundw
              case rel => exact ⟨j + 1, _, by omega, by go_num, rfl, HS3.out, hb8⟩
              case measure => simp [intOf]; omega
            · have t0 : (r3 == 1) = false := by simpa using hz
              have sr0 : (nam42 (⟨#[111, 114, 105, 103, 105, 110, 95, 98, 101, 103, 105, 110]⟩ : ByteArray) r1).size ≤ 100 := by have := nam42_size (⟨#[111, 114, 105, 103, 105, 110, 95, 98, 101, 103, 105, 110]⟩ : ByteArray) r1 j1; have z : (⟨#[111, 114, 105, 103, 105, 110, 95, 98, 101, 103, 105, 110]⟩ : ByteArray).size = 12 := rfl; omega
              have sr1 : (nam42 (⟨#[100, 97, 116, 97, 95, 98, 101, 103, 105, 110]⟩ : ByteArray) r2).size ≤ 100 := by have := nam42_size (⟨#[100, 97, 116, 97, 95, 98, 101, 103, 105, 110]⟩ : ByteArray) r2 j2; have z : (⟨#[100, 97, 116, 97, 95, 98, 101, 103, 105, 110]⟩ : ByteArray).size = 10 := rfl; omega
              have sr2 : (nam42 (⟨#[108, 101, 110, 103, 116, 104]⟩ : ByteArray) r3).size ≤ 100 := by have := nam42_size (⟨#[108, 101, 110, 103, 116, 104]⟩ : ByteArray) r3 j3; have z : (⟨#[108, 101, 110, 103, 116, 104]⟩ : ByteArray).size = 6 := rfl; omega
              have sr3 : (nam42 (⟨#[116, 105, 109, 101]⟩ : ByteArray) r4).size ≤ 100 := by have := nam42_size (⟨#[116, 105, 109, 101]⟩ : ByteArray) r4 j4; have z : (⟨#[116, 105, 109, 101]⟩ : ByteArray).size = 4 := rfl; omega
              have qr0 : ¬ 9223372036854775807 < str2.size + 18 + (nam42 ⟨#[111, 114, 105, 103, 105, 110, 95, 98, 101, 103, 105, 110]⟩ r1).size := by omega
              have qr1 : ¬ 9223372036854775807 < str2.size + 18 + (nam42 ⟨#[111, 114, 105, 103, 105, 110, 95, 98, 101, 103, 105, 110]⟩ r1).size + (nam42 ⟨#[100, 97, 116, 97, 95, 98, 101, 103, 105, 110]⟩ r2).size := by omega
              have qr2 : ¬ 9223372036854775807 < str2.size + 18 + (nam42 ⟨#[111, 114, 105, 103, 105, 110, 95, 98, 101, 103, 105, 110]⟩ r1).size + (nam42 ⟨#[100, 97, 116, 97, 95, 98, 101, 103, 105, 110]⟩ r2).size + (nam42 ⟨#[108, 101, 110, 103, 116, 104]⟩ r3).size := by omega
              have qr3 : ¬ 9223372036854775807 < str2.size + 18 + (nam42 ⟨#[111, 114, 105, 103, 105, 110, 95, 98, 101, 103, 105, 110]⟩ r1).size + (nam42 ⟨#[100, 97, 116, 97, 95, 98, 101, 103, 105, 110]⟩ r2).size + (nam42 ⟨#[108, 101, 110, 103, 116, 104]⟩ r3).size + (nam42 ⟨#[116, 105, 109, 101]⟩ r4).size := by omega
              have qr4 : ¬ 9223372036854775807 < str2.size + 18 + (nam42 ⟨#[111, 114, 105, 103, 105, 110, 95, 98, 101, 103, 105, 110]⟩ r1).size + (nam42 ⟨#[100, 97, 116, 97, 95, 98, 101, 103, 105, 110]⟩ r2).size + (nam42 ⟨#[108, 101, 110, 103, 116, 104]⟩ r3).size + (nam42 ⟨#[116, 105, 109, 101]⟩ r4).size + 3 := by omega
              have z1 : (⟨#[32, 32, 32, 32, 60, 114, 97, 110, 103, 101, 95, 109, 97, 112, 112, 105, 110, 103]⟩ : ByteArray).size = 18 := rfl
              have z2 : (⟨#[47, 62, 10]⟩ : ByteArray).size = 3 := rfl
              have q0 : ¬ 9223372036854775807 < str2.size + 18 := by omega
              have hx1 := xt_runN (r1, r2, r3, r4) hz
              have HX1 := hide hx1
              clear hx1 hz
              go_wp2_with (fail)
              go_region_held3 (fun w' => Below (wr.heap.size) (wr) w' ∧ (∀ b o, b < wr.heap.size → w'.cell? ⟨b, o, none⟩ = (wr).cell? ⟨b, o, none⟩) ∧ (∀ b o, b < wr.heap.size → w'.frozen? ⟨b, o, none⟩ = (wr).frozen? ⟨b, o, none⟩))
                (first | exact held_refl _ _ | exact held_drew | exact held_trans (by assumption) hb7 (Nat.le_refl _))
                (first | (go_at_call 40; refine (rnamed42_in wr.heap.size wr _ _ (by decide) (by assumption) _ rfl _ (by first | exact Below.refl _ _ | exact (Below.refl _ _).drew | exact And.left (by assumption)) (Nat.le_refl _)).mono ?_; rintro e w7 ⟨rfl, hb7⟩))
              obtain ⟨hW7, -, -⟩ : Below wr.heap.size wr w7 ∧ _ ∧ _ := by assumption
              have hb8 := hbx.trans (hW7.mono hsx)
              obtain ⟨s3, hs3'⟩ : ∃ s3, (str2 ++ ⟨#[32, 32, 32, 32, 60, 114, 97, 110, 103, 101, 95, 109, 97, 112, 112, 105, 110, 103]⟩ ++ nam42 ⟨#[111, 114, 105, 103, 105, 110, 95, 98, 101, 103, 105, 110]⟩ r1 ++ nam42 ⟨#[100, 97, 116, 97, 95, 98, 101, 103, 105, 110]⟩ r2 ++ nam42 ⟨#[108, 101, 110, 103, 116, 104]⟩ r3 ++ nam42 ⟨#[116, 105, 109, 101]⟩ r4 ++ ⟨#[47, 62, 10]⟩) = s3 := ⟨_, rfl⟩
              have hs3l : s3.data.toList = s2.data.toList ++ xt ((rs.take (j + 1)).map runT) := by
                rw [HST3.out, HX1.out, ← hs3', ← List.append_assoc, ← HSTR2.out]
                simp only [ByteArray.data_append, Array.toList_append, nam42_list, rngN, List.flatMap_cons, List.flatMap_nil, List.append_assoc, List.append_nil]
              have HS3 := hide hs3l
              rw [hs3']
              clear sr0 sr1 sr2 sr3 qr0 qr1 qr2 qr3 qr4 q0 g0 g1 g2 g3 hb7 hW7 hs3' hs3l z1 z2
              go_wp2
              go_roundw
              case rel => exact ⟨j + 1, _, by omega, by go_num, rfl, HS3.out, hb8⟩
              case measure => simp [intOf]; omega
          · have hjj : j = rs.length := by omega
            have hs9 := HSTR2.out
            rw [hjj, List.take_length, HS2L.out, ← xt_app] at hs9
            have z1 : (⟨#[32, 32, 60, 47, 100, 101, 118, 105, 99, 101, 62, 10]⟩ : ByteArray).size = 12 := rfl
            have HF := hide (show (str2 ++ ⟨#[32, 32, 60, 47, 100, 101, 118, 105, 99, 101, 62, 10]⟩).data.toList = xt (ac2 ++ rs.map runT ++ [endT sDevice]) by rw [xt_app, xt_endD, ← hs9]; simp only [ByteArray.data_append, Array.toList_append])
            have hb9 := hbx6.trans (hbx.mono (by have := hbx6.size; omega))
            clear hjj hs9
            go_wp2
            go_roundw
            case rel => exact ⟨k + 1, _, by omega, by go_num, rfl, by rw [HDV.out]; exact HF.out, hb9⟩
            case measure => simp [intOf]; omega
      · have hkk : k = L.length := by omega
        have hac := HACC.out
        rw [hkk, List.take_length] at hac
        have z3 : (⟨#[60, 47, 115, 117, 112, 101, 114, 98, 108, 111, 99, 107, 62, 10]⟩ : ByteArray).size = 14 := rfl
        have HF := hide (show str ++ ⟨#[60, 47, 115, 117, 112, 101, 114, 98, 108, 111, 99, 107, 62, 10]⟩ = ⟨(xmlL (p1, p2, p3, p4, L)).toArray⟩ from bytes_eq2 (by
          show (str ++ ⟨#[60, 47, 115, 117, 112, 101, 114, 98, 108, 111, 99, 107, 62, 10]⟩).data.toList = xt (xmlTs (p1, p2, p3, p4, L))
          rw [show xmlTs (p1, p2, p3, p4, L) = acc ++ [endT sSuper] by rw [← hac]; rfl, xt_app, xt_endS, ← HSTR.out]
          simp only [ByteArray.data_append, Array.toList_append]))
        clear hkk hac
        go_wp2
        go_ret2
        rw [hR.out, HF.out]
        exact ⟨rfl, hbw⟩
  · have y0 : (ev != 0) = true := by simpa using hz
    have hR := hide (show (xmlOf (p1, p2, p3, p4, L)) = (⟨#[]⟩, ev) by simp [xmlOf, HEV.out, hz])
    have hag := rcheck_any A cap (p1, p2, p3, p4, L) w.heap.size w2 hsz2 (h.below hW2) hc hl
    rw [HEV.out] at hag
    have HAG := hide hag
    clear hz hag
    go_wp2_with (fail)
    refine HAG.out.mono ?_
    rintro e w3 ⟨rfl, hb3⟩
    have hw3 := hW2.trans (hb3.mono hsz2)
    go_wp2
    go_ret2
    rw [hR.out]
    exact ⟨rfl, hw3⟩
end Go.Proofs.YtaglmkjkmhpifaaDoor
