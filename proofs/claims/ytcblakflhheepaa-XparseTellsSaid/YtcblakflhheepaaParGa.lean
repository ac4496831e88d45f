/- Chapter 43, plain: what the parser takes, tag by tag; what always holds of its state. -/
import Derived.Test.YtcblakflhheepaaParF
import Derived.Test.YtcblakflhheepaaPlnA
namespace Go.Proofs.Ytcblakflhheepaa
open Go.RowKit
set_option linter.unusedVariables false
set_option linter.unusedSimpArgs false

def newDev (out : List (ByteArray × Int)) : Dv := (gv out sId, gv out sTx, gv out sMade, gv out sSnap, [])
/-- The device's number is not behind the last one's. -/
def lateP (L : List Dv) (n : Int) : Bool := match L.getLast? with
  | none => false
  | some d => decide (n ≤ d.1)
def openP (s : Ps) (out : List (ByteArray × Int)) : Ps := { s with devs := s.devs ++ [newDev out], mapped := gv out sMapped, next := 0, inside := sDevice }
def deviceP (s : Ps) (kd at_ : Int) (out : List (ByteArray × Int)) : Except (Int × Int) Ps :=
  if (4096 : Int) ≤ (s.devs.length : Int) then .error (at_, 2)
  else if lateP s.devs (gv out sId) then .error (at_, 8)
  else if kd = 3 then closeP (openP s out) at_ else .ok (openP s out)

def kOf (nm : ByteArray) : List (ByteArray × Int × Int) := if isSup nm then kSuper else if isDev nm then kDevice else if isSin nm then kSingle else kRange
def oneRn (out : List (ByteArray × Int)) : Rn := (gv out sOBlock, gv out sDBlock, 1, gv out sTime)
def rngRn (out : List (ByteArray × Int)) : Rn := (gv out sOBegin, gv out sDBegin, gv out sLength, gv out sTime)
def doesP (s : Ps) (t : Ti) (out : List (ByteArray × Int)) : Except (Int × Int) Ps :=
  if isSup t.2.1 then .ok (superP s t.1 out) else if isDev t.2.1 then deviceP s t.1 t.2.2.2 out
  else if isSin t.2.1 then runP s t.2.2.2 (oneRn out) else runP s t.2.2.2 (rngRn out)
/-- The parser takes a tag. -/
def takeP (s : Ps) (t : Ti) : Except (Int × Int) Ps :=
  if fitsP s t.1 t.2.1 = false then .error (t.2.2.2, 16)
  else if t.1 = 2 then (if isDev t.2.1 then closeP s t.2.2.2 else .ok { s with ended := true })
  else match numsL (isSup t.2.1) (kOf t.2.1) t.2.2.2 t.2.2.1 [] with
    | .error e => .error e
    | .ok out => doesP s t out
def foldP (s : Ps) : List Ti → Except (Int × Int) Ps
  | [] => .ok s
  | t :: L => match takeP s t with
    | .error e => .error e
    | .ok s' => foldP s' L
def initP : Ps := ⟨0, 0, 0, 0, [], 0, 0, 0, ⟨#[]⟩, false⟩

theorem bytes_list {a b : ByteArray} (h : a.toList = b.toList) : a = b := by
  rw [Lib.toList_data, Lib.toList_data] at h
  exact ByteArray.ext (Array.toList_inj.1 h)
theorem isSup_eq {nm : ByteArray} (h : isSup nm = true) : nm = sSuper := bytes_list (by
  have : sSuper.toList = [115, 117, 112, 101, 114, 98, 108, 111, 99, 107] := by rw [Lib.toList_data]
  rw [this]; simpa [isSup] using h)
theorem isDev_eq {nm : ByteArray} (h : isDev nm = true) : nm = sDevice := bytes_list (by
  have : sDevice.toList = [100, 101, 118, 105, 99, 101] := by rw [Lib.toList_data]
  rw [this]; simpa [isDev] using h)
theorem isSin_eq {nm : ByteArray} (h : isSin nm = true) : nm = sSingle := bytes_list (by
  have : sSingle.toList = [115, 105, 110, 103, 108, 101, 95, 109, 97, 112, 112, 105, 110, 103] := by rw [Lib.toList_data]
  rw [this]; simpa [isSin] using h)
theorem isRng_eq {nm : ByteArray} (h : isRng nm = true) : nm = sRange := bytes_list (by
  have : sRange.toList = [114, 97, 110, 103, 101, 95, 109, 97, 112, 112, 105, 110, 103] := by rw [Lib.toList_data]
  rw [this]; simpa [isRng] using h)
theorem isSup_s : isSup sSuper = true := by unfold isSup; rw [Lib.toList_data]; decide
theorem isSup_d : isSup sDevice = false := by unfold isSup; rw [Lib.toList_data]; decide
theorem isSup_1 : isSup sSingle = false := by unfold isSup; rw [Lib.toList_data]; decide
theorem isSup_r : isSup sRange = false := by unfold isSup; rw [Lib.toList_data]; decide
theorem isSup_e : isSup ⟨#[]⟩ = false := by unfold isSup; rw [Lib.toList_data]; decide
theorem isDev_s : isDev sSuper = false := by unfold isDev; rw [Lib.toList_data]; decide
theorem isDev_d : isDev sDevice = true := by unfold isDev; rw [Lib.toList_data]; decide
theorem isDev_1 : isDev sSingle = false := by unfold isDev; rw [Lib.toList_data]; decide
theorem isDev_r : isDev sRange = false := by unfold isDev; rw [Lib.toList_data]; decide
theorem isDev_e : isDev ⟨#[]⟩ = false := by unfold isDev; rw [Lib.toList_data]; decide
theorem isSin_1 : isSin sSingle = true := by unfold isSin; rw [Lib.toList_data]; decide
theorem isSin_r : isSin sRange = false := by unfold isSin; rw [Lib.toList_data]; decide
theorem isRng_1 : isRng sSingle = false := by unfold isRng; rw [Lib.toList_data]; decide
theorem isRng_r : isRng sRange = true := by unfold isRng; rw [Lib.toList_data]; decide

/-! the numbers -/
theorem assoc_putA {α : Type} {k k' : ByteArray} {v : α} : ∀ {out : List (ByteArray × α)}, assoc k' (putA k v out) = if k' = k then some v else assoc k' out
  | [] => rfl
  | x :: out => by
    unfold putA
    by_cases h : k = x.1
    · rw [if_pos h]
      subst h
      unfold assoc
      by_cases h2 : k' = x.1
      · simp [h2]
      · simp [h2]
    · rw [if_neg h]
      unfold assoc
      by_cases h2 : k' = x.1
      · rw [if_pos h2, if_pos h2, if_neg (by rw [h2]; exact fun e => h e.symm)]
      · rw [if_neg h2, if_neg h2, assoc_putA]
theorem keys_putA {α : Type} {k : ByteArray} {v : α} : ∀ {out : List (ByteArray × α)}, (k ∈ out.map (·.1) ∧ (putA k v out).map (·.1) = out.map (·.1)) ∨ (k ∉ out.map (·.1) ∧ (putA k v out).map (·.1) = out.map (·.1) ++ [k])
  | [] => .inr ⟨by simp, rfl⟩
  | x :: out => by
    unfold putA
    by_cases h : k = x.1
    · rw [if_pos h]; exact .inl ⟨by simp [h], rfl⟩
    · rw [if_neg h]
      rcases keys_putA (k := k) (v := v) (out := out) with ⟨h1, h2⟩ | ⟨h1, h2⟩
      · exact .inl ⟨by simp only [List.map_cons, List.mem_cons]; exact .inr h1, by simp only [List.map_cons, h2]⟩
      · exact .inr ⟨by simp only [List.map_cons, List.mem_cons]; exact fun hh => hh.elim h h1, by simp only [List.map_cons, h2, List.cons_append]⟩
theorem assoc_mem {α : Type} {k : ByteArray} : ∀ {out : List (ByteArray × α)}, k ∈ out.map (·.1) → ∃ v, assoc k out = some v
  | [], h => by simp at h
  | x :: out, h => by
    unfold assoc
    split
    · exact ⟨_, rfl⟩
    · rename_i h2
      simp only [List.map_cons, List.mem_cons, h2, false_or] at h
      exact assoc_mem h
theorem mem_assoc {α : Type} {k : ByteArray} {v : α} : ∀ {out : List (ByteArray × α)}, assoc k out = some v → k ∈ out.map (·.1)
  | [], h => by simp [assoc] at h
  | x :: out, h => by
    unfold assoc at h
    split at h
    · rename_i h2; simp [h2]
    · simp [mem_assoc h]
/-- Numbers by name, each within its bounds. -/
def NI (l : List (ByteArray × Int × Int)) (out : List (ByteArray × Int)) : Prop :=
  (out.map (·.1)).Nodup ∧ ∀ k n, assoc k out = some n → ∃ lo hi, assoc k l = some (lo, hi) ∧ lo ≤ n ∧ n ≤ hi
theorem NI.nil (l : List (ByteArray × Int × Int)) : NI l [] := ⟨List.nodup_nil, fun k n h => by simp [assoc] at h⟩
theorem NI.put {l : List (ByteArray × Int × Int)} {out : List (ByteArray × Int)} (h : NI l out) {k : ByteArray} {n lo hi : Int} (hk : assoc k l = some (lo, hi)) (h1 : lo ≤ n) (h2 : n ≤ hi) : NI l (putA k n out) := by
  refine ⟨?_, fun k' n' h' => ?_⟩
  · rcases keys_putA (k := k) (v := n) (out := out) with ⟨h3, h4⟩ | ⟨h3, h4⟩
    · rw [h4]; exact h.1
    · rw [h4, List.nodup_append]
      refine ⟨h.1, by simp, fun a ha b hb => ?_⟩
      rw [List.mem_singleton] at hb
      subst hb
      rintro rfl
      exact h3 ha
  · rw [assoc_putA] at h'
    split at h'
    · rename_i he
      injection h' with h'
      subst h'
      subst he
      exact ⟨lo, hi, hk, h1, h2⟩
    · exact h.2 _ _ h'
theorem numsL_ok {sup : Bool} {l : List (ByteArray × Int × Int)} {at_ : Int} : ∀ {ats : List Ai} {out out' : List (ByteArray × Int)}, numsL sup l at_ ats out = .ok out' → NI l out → NI l out' ∧ l.length ≤ out'.length
  | [], out, out', h, hI => by
    unfold numsL at h
    split at h
    · cases h
    · injection h with h
      subst h
      exact ⟨hI, by omega⟩
  | a :: r, out, out', h, hI => by
    rw [numsL_cons] at h
    split at h
    · exact numsL_ok h hI
    · split at h
      · cases h
      · rename_i lo hi hk
        split at h
        · cases h
        · split at h
          · cases h
          · exact numsL_ok h (hI.put hk (by omega) (by omega))
theorem numsL_err {sup : Bool} {l : List (ByteArray × Int × Int)} {at_ p c : Int} : ∀ {ats : List Ai} {out : List (ByteArray × Int)}, numsL sup l at_ ats out = .error (p, c) → (c = 16 ∨ c = 2 ∨ c = 18) ∧ (p = at_ ∨ ∃ a ∈ ats, p = a.2.2)
  | [], out, h => by
    unfold numsL at h
    split at h
    · injection h with h; injection h with h1 h2; exact ⟨by omega, .inl h1.symm⟩
    · cases h
  | a :: r, out, h => by
    rw [numsL_cons] at h
    have hr : (c = 16 ∨ c = 2 ∨ c = 18) ∧ (p = at_ ∨ ∃ x ∈ r, p = x.2.2) → (c = 16 ∨ c = 2 ∨ c = 18) ∧ (p = at_ ∨ ∃ x ∈ a :: r, p = x.2.2) := fun ⟨q1, q2⟩ => ⟨q1, q2.imp id fun ⟨x, hx, e⟩ => ⟨x, by simp [hx], e⟩⟩
    split at h
    · exact hr (numsL_err h)
    · split at h
      · injection h with h; injection h with h1 h2; exact ⟨by omega, .inr ⟨a, by simp, h1.symm⟩⟩
      · split at h
        · injection h with h; injection h with h1 h2; exact ⟨by omega, .inr ⟨a, by simp, h1.symm⟩⟩
        · split at h
          · injection h with h; injection h with h1 h2; exact ⟨by omega, .inr ⟨a, by simp, h1.symm⟩⟩
          · exact hr (numsL_err h)
theorem drop_len {l : List ByteArray} {k : ByteArray} (h : k ∈ l) : (l.filter fun x => decide (x ≠ k)).length < l.length :=
  List.length_filter_lt_length_iff_exists.2 ⟨k, h, by simp⟩
theorem sub_len : ∀ {ks l : List ByteArray}, ks.Nodup → (∀ k ∈ ks, k ∈ l) → ks.length ≤ l.length
  | [], l, _, _ => by simp
  | k :: ks, l, hn, hs => by
    have hk := hs k (by simp)
    have hn' := List.nodup_cons.1 hn
    have h1 := sub_len (ks := ks) (l := l.filter fun x => decide (x ≠ k)) hn'.2 (fun x hx => by
      rw [List.mem_filter]
      refine ⟨hs x (by simp [hx]), decide_eq_true ?_⟩
      rintro rfl
      exact hn'.1 hx)
    have h2 := drop_len hk
    simp only [List.length_cons]
    omega
theorem NI.get {l : List (ByteArray × Int × Int)} {out : List (ByteArray × Int)} (h : NI l out) (hl : l.length ≤ out.length) {k : ByteArray} {lo hi : Int} (hk : assoc k l = some (lo, hi)) : lo ≤ gv out k ∧ gv out k ≤ hi := by
  have hkm : k ∈ l.map (·.1) := mem_assoc hk
  have hmem : k ∈ out.map (·.1) := by
    refine Classical.byContradiction fun hno => ?_
    have h1 := sub_len (ks := out.map (·.1)) (l := (l.map (·.1)).filter fun x => decide (x ≠ k)) h.1 (fun x hx => by
      obtain ⟨v, hv⟩ := assoc_mem hx
      obtain ⟨lo', hi', h2, _⟩ := h.2 _ _ hv
      rw [List.mem_filter]
      refine ⟨mem_assoc h2, decide_eq_true ?_⟩
      rintro rfl
      exact hno hx)
    have h2 := drop_len hkm
    rw [List.length_map] at h1 h2
    omega
  obtain ⟨v, hv⟩ := assoc_mem hmem
  obtain ⟨lo', hi', h2, h3, h4⟩ := h.2 _ _ hv
  rw [hk] at h2
  injection h2 with h2
  injection h2 with h2 h5
  subst h2; subst h5
  simp [gv, hv, h3, h4]

/-! what always holds -/
def lastId (last : Int) (L : List Dv) : Int := ((L.getLast?).map (·.1)).getD last
def lastV (last : Int) (l : List Mp) : Int := ((l.getLast?).map (·.1)).getD last
theorem devsE_snoc {data : Int} {d : Dv} : ∀ {L : List Dv} {last : Int}, devsE data last (L ++ [d]) = 0 ↔ devsE data last L = 0 ∧ devE d (lastId last L) = 0 ∧ mapE data (-1) d.2.2.2.2 = 0
  | [], last => by
    simp only [List.nil_append, devsE, lastId, List.getLast?_nil, Option.map_none, Option.getD_none, true_and]
    by_cases h1 : devE d last = 0 <;> by_cases h2 : mapE data (-1) d.2.2.2.2 = 0 <;> simp [h1, h2]
  | x :: L, last => by
    have hl : lastId last (x :: L) = lastId x.1 L := by
      unfold lastId
      cases L with
      | nil => rfl
      | cons y L => simp [List.getLast?_cons_cons]; rw [List.getLast?_eq_some_getLast (by simp)]; rfl
    simp only [List.cons_append, devsE, hl]
    by_cases h1 : devE x last = 0
    · by_cases h2 : mapE data (-1) x.2.2.2.2 = 0
      · simp only [h1, h2, if_true]; exact devsE_snoc
      · simp [h1, h2]
    · simp [h1]
theorem mapE_app {data : Int} {l' : List Mp} : ∀ {l : List Mp} {last : Int}, mapE data last (l ++ l') = 0 ↔ mapE data last l = 0 ∧ mapE data (lastV last l) l' = 0
  | [], last => by simp [mapE, lastV]
  | x :: l, last => by
    have hl : lastV last (x :: l) = lastV x.1 l := by
      unfold lastV
      cases l with
      | nil => rfl
      | cons y L => simp [List.getLast?_cons_cons]; rw [List.getLast?_eq_some_getLast (by simp)]; rfl
    simp only [List.cons_append, mapE, hl]
    by_cases h1 : mapB data x = true
    · by_cases h2 : x.1 ≤ last
      · simp [h1, h2]
      · simp only [h1, h2, if_true, if_false]; exact mapE_app
    · simp [h1]
theorem inB_of {n lo hi : Int} (h : lo ≤ n ∧ n ≤ hi) : inB n lo hi = true := by simp [inB, h.1, h.2]
theorem mapE_run {data : Int} (r : Rn) : ∀ (n : Nat) (last : Int), last < r.1 → 0 ≤ r.1 → r.1 + (n : Int) - 1 ≤ 281474976710655 → 0 ≤ r.2.1 → r.2.1 + (n : Int) ≤ data → 0 ≤ r.2.2.2 → r.2.2.2 ≤ 16777215 → mapE data last (mapsR r n) = 0 ∧ (0 < n → lastV last (mapsR r n) = r.1 + (n : Int) - 1)
  | 0, last, _, _, _, _, _, _, _ => ⟨rfl, fun h => by omega⟩
  | n + 1, last, h1, h2, h3, h4, h5, h6, h7 => by
    obtain ⟨i1, i2⟩ := mapE_run (data := data) r n last h1 h2 (by omega) h4 (by omega) h6 h7
    rw [mapsR_succ]
    constructor
    · rw [mapE_app]
      refine ⟨i1, ?_⟩
      have hb : mapB data (nextM (mOf r) n) = true := by
        have e1 : inB (r.1 + (n : Int)) 0 281474976710655 = true := inB_of (by omega)
        have e2 : inB (r.2.1 + (n : Int)) 0 (data - 1) = true := inB_of (by omega)
        have e3 : inB r.2.2.2 0 16777215 = true := inB_of (by omega)
        show (inB (r.1 + (n : Int)) 0 281474976710655 && inB (r.2.1 + (n : Int)) 0 (data - 1) && inB r.2.2.2 0 16777215) = true
        rw [e1, e2, e3]; rfl
      have hlt : ¬ (nextM (mOf r) n).1 ≤ lastV last (mapsR r n) := by
        show ¬ r.1 + (n : Int) ≤ lastV last (mapsR r n)
        rcases Nat.eq_zero_or_pos n with hn | hn
        · have : lastV last (mapsR r n) = last := by rw [hn]; rfl
          rw [this]; omega
        · rw [i2 hn]; omega
      simp [mapE, hb, hlt]
    · intro _
      simp [lastV, nextM, mOf]
      omega
theorem cntL_snoc (L : List Dv) (d : Dv) : cntL (L ++ [d]) = cntL L + d.2.2.2.2.length := by simp [cntL]

/-- What holds of the parser's state once the superblock is taken. -/
structure InB (s : Ps) : Prop where
  nums : timesB s.tx [s.time] = true
  unit : inB s.unit 1 65536 = true
  data : inB s.data 0 65536 = true
  len : s.devs.length ≤ 4096
  devs : devsE s.data (-1) s.devs = 0
  sum : (cntL s.devs : Int) = s.sum
  max : s.sum ≤ 16384
  inside : s.inside = sSuper ∨ (s.inside = sDevice ∧ s.devs ≠ [] ∧ lastV (-1) (lastMaps s.devs) < s.next)
def Good (s : Ps) : Prop := s = initP ∨ InB s
theorem InB.pool {s : Ps} (h : InB s) : chkE (s.tx, s.time, s.unit, s.data, s.devs) = 0 := by
  unfold chkE
  rw [if_pos (by simp only [h.nums, h.unit, h.data, Bool.and_self])]
  have h1 := h.sum
  have h2 := h.max
  have h3 := h.len
  rw [if_neg (by dsimp only; omega)]
  exact h.devs
theorem knOf_kOf {nm : ByteArray} (h : isSup nm = true ∨ isDev nm = true ∨ isSin nm = true ∨ isRng nm = true) : KnOf nm (kOf nm) := by
  unfold kOf
  rcases h with h | h | h | h
  · rw [if_pos h]; exact .inl ⟨isSup_eq h, rfl⟩
  · obtain rfl := isDev_eq h
    rw [if_neg (by rw [isSup_d]; simp), if_pos h]; exact .inr (.inl ⟨rfl, rfl⟩)
  · obtain rfl := isSin_eq h
    rw [if_neg (by rw [isSup_1]; simp), if_neg (by rw [isDev_1]; simp), if_pos h]; exact .inr (.inr (.inl ⟨rfl, rfl⟩))
  · obtain rfl := isRng_eq h
    rw [if_neg (by rw [isSup_r]; simp), if_neg (by rw [isDev_r]; simp), if_neg (by rw [isSin_r]; simp)]; exact .inr (.inr (.inr ⟨rfl, rfl⟩))
theorem Good.sum {s : Ps} (h : Good s) : (0 ≤ s.data ∧ s.data ≤ 65536) ∧ (0 ≤ s.sum ∧ s.sum ≤ 16384) := by
  rcases h with rfl | h
  · simp [initP]
  · have h1 := inB_true h.data
    have h2 := h.sum
    have h3 := h.max
    omega
theorem Good.len {s : Ps} (h : Good s) : s.devs.length ≤ 4096 := by
  rcases h with rfl | h
  · simp [initP]
  · exact h.len
theorem Good.maps {s : Ps} (h : Good s) : (lastMaps s.devs).length ≤ 16384 := by
  rcases h with rfl | h
  · simp [initP, lastMaps]
  · have h2 := h.sum
    have h3 := h.max
    rcases List.eq_nil_or_concat s.devs with h1 | ⟨li, ll, h1⟩
    · simp [h1, lastMaps]
    · rw [h1, List.concat_eq_append, cntL_snoc] at h2
      rw [h1, List.concat_eq_append]
      simp only [lastMaps, List.getLast?_concat, Option.map_some, Option.getD_some]
      omega
theorem Good.inside {s : Ps} (h : Good s) : isDev s.inside = true → s.devs ≠ [] := by
  intro hd
  rcases h with rfl | h
  · simp [initP, isDev_e] at hd
  · rcases h.inside with hi | ⟨_, hi, _⟩
    · rw [hi, isDev_s] at hd; cases hd
    · exact hi
theorem nums_ok {nm : ByteArray} {at_ : Int} {ats : List Ai} {out : List (ByteArray × Int)} (h : numsL (isSup nm) (kOf nm) at_ ats [] = .ok out) {k : ByteArray} {lo hi : Int} (hk : assoc k (kOf nm) = some (lo, hi)) : lo ≤ gv out k ∧ gv out k ≤ hi := by
  obtain ⟨h1, h2⟩ := numsL_ok h (NI.nil _)
  exact h1.get h2 hk
theorem one_ok {at_ : Int} {ats : List Ai} {out : List (ByteArray × Int)} (h : numsL (isSup sSingle) (kOf sSingle) at_ ats [] = .ok out) :
    ((0 ≤ (oneRn out).1 ∧ (oneRn out).1 ≤ 281474976710655) ∧ (0 ≤ (oneRn out).2.1 ∧ (oneRn out).2.1 ≤ 65535) ∧ (0 ≤ (oneRn out).2.2.1 ∧ (oneRn out).2.2.1 ≤ 16384)) ∧ (1 ≤ (oneRn out).2.2.1 ∧ 0 ≤ (oneRn out).2.2.2 ∧ (oneRn out).2.2.2 ≤ 16777215) := by
  have hk : kOf sSingle = kSingle := by simp [kOf, isSup_1, isDev_1, isSin_1]
  have h1 := nums_ok h (k := sOBlock) (by rw [hk]; rfl)
  have h2 := nums_ok h (k := sDBlock) (by rw [hk]; rfl)
  have h3 := nums_ok h (k := sTime) (by rw [hk]; rfl)
  simp only [oneRn]
  omega
theorem rng_ok {at_ : Int} {ats : List Ai} {out : List (ByteArray × Int)} (h : numsL (isSup sRange) (kOf sRange) at_ ats [] = .ok out) :
    ((0 ≤ (rngRn out).1 ∧ (rngRn out).1 ≤ 281474976710655) ∧ (0 ≤ (rngRn out).2.1 ∧ (rngRn out).2.1 ≤ 65535) ∧ (0 ≤ (rngRn out).2.2.1 ∧ (rngRn out).2.2.1 ≤ 16384)) ∧ (1 ≤ (rngRn out).2.2.1 ∧ 0 ≤ (rngRn out).2.2.2 ∧ (rngRn out).2.2.2 ≤ 16777215) := by
  have hk : kOf sRange = kRange := by simp [kOf, isSup_r, isDev_r, isSin_r]
  have h1 := nums_ok h (k := sOBegin) (by rw [hk]; rfl)
  have h2 := nums_ok h (k := sDBegin) (by rw [hk]; rfl)
  have h3 := nums_ok h (k := sTime) (by rw [hk]; rfl)
  have h4 := nums_ok h (k := sLength) (by rw [hk]; rfl)
  simp only [rngRn]
  omega
theorem fits_inv {s : Ps} {kd : Int} {nm : ByteArray} (h : fitsP s kd nm = true) : s.ended = false ∧ ((kd = 2 ∧ nm = s.inside) ∨ (kd ≠ 2 ∧ ((nm = sSuper ∧ s.inside = ⟨#[]⟩) ∨ (nm = sDevice ∧ s.inside = sSuper) ∨ ((nm = sSingle ∨ nm = sRange) ∧ s.inside = sDevice ∧ kd = 3)))) := by
  unfold fitsP at h
  split at h
  · cases h
  · rename_i he
    refine ⟨by simpa using he, ?_⟩
    split at h
    · rename_i hk
      exact .inl ⟨hk, bytes_list (by simpa using h)⟩
    · rename_i hk
      refine .inr ⟨hk, ?_⟩
      split at h
      · rename_i h1
        refine .inl ⟨isSup_eq h1, bytes_list ?_⟩
        rw [List.isEmpty_iff] at h
        rw [h, Lib.toList_data]
      · split at h
        · rename_i h1
          exact .inr (.inl ⟨isDev_eq h1, isSup_eq h⟩)
        · split at h
          · rename_i h1
            simp only [Bool.and_eq_true, decide_eq_true_eq] at h
            simp only [Bool.or_eq_true] at h1
            exact .inr (.inr ⟨h1.imp isSin_eq isRng_eq, isDev_eq h.1, h.2⟩)
          · cases h

theorem fits_known {s : Ps} {kd : Int} {nm : ByteArray} (h : fitsP s kd nm = true) (hk : kd ≠ 2) : isSup nm = true ∨ isDev nm = true ∨ isSin nm = true ∨ isRng nm = true := by
  obtain ⟨-, ⟨h1, -⟩ | ⟨-, ⟨rfl, -⟩ | ⟨rfl, -⟩ | ⟨rfl | rfl, -⟩⟩⟩ := fits_inv h
  · exact absurd h1 hk
  · exact .inl isSup_s
  · exact .inr (.inl isDev_d)
  · exact .inr (.inr (.inl isSin_1))
  · exact .inr (.inr (.inr isRng_r))
theorem closeP_ok {s s' : Ps} {at_ : Int} (h : closeP s at_ = .ok s') : s' = { s with inside := sSuper } := by
  unfold closeP at h
  split at h
  · cases h
  · injection h with h; exact h.symm
theorem InB.close {s s' : Ps} {at_ : Int} (hg : InB s) (h : closeP s at_ = .ok s') : InB s' := by
  rw [closeP_ok h]
  exact ⟨hg.nums, hg.unit, hg.data, hg.len, hg.devs, hg.sum, hg.max, .inl rfl⟩
theorem allT_cons {x : Int} {l : List Int} (h : 0 ≤ x ∧ x ≤ 16777215) (h2 : allT l = true) : allT (x :: l) = true := by
  unfold allT at *
  rw [List.all_cons, h2, inB_of h]; rfl
theorem timesB_of {x : Int} {l : List Int} (h : 0 ≤ x ∧ x ≤ 2147483647) (h2 : allT l = true) : timesB x l = true := by
  unfold timesB
  rw [inB_of h, h2]; rfl
theorem super_good {s : Ps} {kd at_ : Int} {ats : List Ai} {out : List (ByteArray × Int)} (hs : s = initP) (h : numsL (isSup sSuper) (kOf sSuper) at_ ats [] = .ok out) : InB (superP s kd out) := by
  have hk : kOf sSuper = kSuper := by simp [kOf, isSup_s]
  have h1 := nums_ok h (k := sTime) (by rw [hk]; rfl)
  have h2 := nums_ok h (k := sTx) (by rw [hk]; rfl)
  have h3 := nums_ok h (k := sUnit) (by rw [hk]; rfl)
  have h4 := nums_ok h (k := sData) (by rw [hk]; rfl)
  subst hs
  refine ⟨?_, ?_, ?_, by simp [superP], rfl, by simp [superP, initP, cntL], by simp [superP, initP], .inl rfl⟩
  · exact timesB_of h2 (allT_cons h1 rfl)
  · exact inB_of h3
  · exact inB_of h4
theorem lateP_last {L : List Dv} {n : Int} (h : lateP L n = false) (h0 : 0 ≤ n) : lastId (-1) L < n := by
  unfold lateP at h
  unfold lastId
  cases hl : L.getLast? with
  | none => simp; omega
  | some d => rw [hl] at h; simpa using h
theorem open_good {s : Ps} {at_ : Int} {ats : List Ai} {out : List (ByteArray × Int)} (hg : InB s) (h : numsL (isSup sDevice) (kOf sDevice) at_ ats [] = .ok out) (hlen : ¬ (4096 : Int) ≤ (s.devs.length : Int)) (hl : lateP s.devs (gv out sId) = false) : InB (openP s out) := by
  have hk : kOf sDevice = kDevice := by simp [kOf, isSup_d, isDev_d]
  have h1 := nums_ok h (k := sId) (by rw [hk]; rfl)
  have h2 := nums_ok h (k := sTx) (by rw [hk]; rfl)
  have h3 := nums_ok h (k := sMade) (by rw [hk]; rfl)
  have h4 := nums_ok h (k := sSnap) (by rw [hk]; rfl)
  have h5 := lateP_last hl h1.1
  refine ⟨hg.nums, hg.unit, hg.data, by simp only [openP, List.length_append, List.length_singleton]; omega, ?_, ?_, hg.max, .inr ⟨rfl, by simp [openP], by simp [openP, lastMaps, newDev, lastV]⟩⟩
  · simp only [openP]
    rw [devsE_snoc]
    refine ⟨hg.devs, ?_, rfl⟩
    unfold devE
    have e1 : inB (newDev out).1 0 16777215 = true := inB_of h1
    have e2 : timesB (newDev out).2.1 [(newDev out).2.2.1, (newDev out).2.2.2.1] = true := timesB_of h2 (allT_cons h3 (allT_cons h4 rfl))
    have e3 : ¬ (newDev out).1 ≤ lastId (-1) s.devs := by show ¬ gv out sId ≤ _; omega
    rw [if_pos (by rw [e1, e2]; rfl), if_neg e3]
  · have := hg.sum
    simp only [openP]
    rw [cntL_snoc]
    simpa [newDev] using this
theorem device_good {s s' : Ps} {kd at_ : Int} {ats : List Ai} {out : List (ByteArray × Int)} (hg : InB s) (h : numsL (isSup sDevice) (kOf sDevice) at_ ats [] = .ok out) (hd : deviceP s kd at_ out = .ok s') : InB s' := by
  unfold deviceP at hd
  split at hd
  · cases hd
  · rename_i h1
    split at hd
    · cases hd
    · rename_i h2
      have ho := open_good hg h h1 (by simpa using h2)
      split at hd
      · exact ho.close hd
      · injection hd with hd
        subst hd
        exact ho
theorem run_good {s s' : Ps} {at_ : Int} {r : Rn} (hg : InB s) (hi : s.inside = sDevice) (hr : ((0 ≤ r.1 ∧ r.1 ≤ 281474976710655) ∧ (0 ≤ r.2.1 ∧ r.2.1 ≤ 65535) ∧ (0 ≤ r.2.2.1 ∧ r.2.2.1 ≤ 16384)) ∧ (1 ≤ r.2.2.1 ∧ 0 ≤ r.2.2.2 ∧ r.2.2.2 ≤ 16777215)) (h : runP s at_ r = .ok s') : InB s' := by
  unfold runP at h
  split at h
  · cases h
  · rename_i h1
    split at h
    · cases h
    · rename_i h2
      injection h with h
      subst h
      obtain ⟨N, hN⟩ := Int.eq_ofNat_of_zero_le hr.1.2.2.1
      have hNt : r.2.2.1.toNat = N := by omega
      rcases hg.inside with h3 | ⟨-, hne, hnx⟩
      · rw [hi] at h3; exact absurd h3 (by decide)
      rcases List.eq_nil_or_concat s.devs with h4 | ⟨li, ll, h4⟩
      · exact absurd h4 hne
      · rw [List.concat_eq_append] at h4
        have hdv := hg.devs
        have hsum := hg.sum
        have hlen := hg.len
        have hmax := hg.max
        rw [h4, cntL_snoc] at hsum
        rw [h4] at hdv hlen
        rw [devsE_snoc] at hdv
        have hlm : lastMaps s.devs = ll.2.2.2.2 := by rw [h4]; simp [lastMaps]
        rw [hlm] at hnx
        obtain ⟨d1, d2, d3⟩ := hdv
        obtain ⟨m1, m2⟩ := mapE_run (data := s.data) r N (lastV (-1) ll.2.2.2.2) (by omega) (by omega) (by omega) (by omega) (by omega) (by omega) (by omega)
        have hadd : addMs s.devs (mapsR r r.2.2.1.toNat) = li ++ [(ll.1, ll.2.1, ll.2.2.1, ll.2.2.2.1, ll.2.2.2.2 ++ mapsR r N)] := by rw [h4, addMs_snoc, hNt]
        refine ⟨hg.nums, hg.unit, hg.data, ?_, ?_, ?_, by dsimp only; omega, .inr ⟨hi, ?_, ?_⟩⟩
        · dsimp only; rw [hadd]; simpa using hlen
        · dsimp only
          rw [hadd, devsE_snoc]
          refine ⟨d1, d2, ?_⟩
          dsimp only
          rw [mapE_app]
          exact ⟨d3, m1⟩
        · dsimp only
          rw [hadd, cntL_snoc]
          simp only [List.length_append, mapsR_len]
          omega
        · dsimp only; rw [hadd]; simp
        · dsimp only
          rw [hadd]
          have hl2 : lastMaps (li ++ [(ll.1, ll.2.1, ll.2.2.1, ll.2.2.2.1, ll.2.2.2.2 ++ mapsR r N)]) = ll.2.2.2.2 ++ mapsR r N := by simp [lastMaps]
          have hl3 : lastV (-1) (ll.2.2.2.2 ++ mapsR r N) = lastV (lastV (-1) ll.2.2.2.2) (mapsR r N) := by
            obtain ⟨M, hM⟩ : ∃ M, N = M + 1 := ⟨N - 1, by omega⟩
            rw [hM, mapsR_succ, ← List.append_assoc]
            simp [lastV]
          rw [hl2, hl3, m2 (by omega)]
          omega
/-- A step keeps what always holds, at a tag that has a name. -/
theorem take_good {s s' : Ps} {t : Ti} (hg : Good s) (hn : t.2.1 ≠ ⟨#[]⟩) (h : takeP s t = .ok s') : InB s' := by
  unfold takeP at h
  split at h
  · cases h
  · rename_i hf
    obtain ⟨he, hf⟩ := fits_inv (by simpa using hf)
    split at h
    · rename_i hk
      rcases hf with ⟨-, hf⟩ | ⟨h2, -⟩
      · have hb : InB s := by
          rcases hg with rfl | hg
          · exact absurd hf hn
          · exact hg
        split at h
        · exact hb.close h
        · injection h with h
          subst h
          exact ⟨hb.nums, hb.unit, hb.data, hb.len, hb.devs, hb.sum, hb.max, hb.inside⟩
      · exact absurd hk h2
    · rename_i hk
      rcases hf with ⟨h2, -⟩ | ⟨-, hf⟩
      · exact absurd h2 hk
      · split at h
        · cases h
        · rename_i out hout
          unfold doesP at h
          have hnb : s.inside ≠ ⟨#[]⟩ → InB s := fun hi => by
            rcases hg with rfl | hg
            · exact absurd rfl hi
            · exact hg
          rcases hf with ⟨h1, h2⟩ | ⟨h1, h2⟩ | ⟨h1 | h1, h2, h3⟩
          · rw [h1, isSup_s, if_pos rfl] at h
            rw [h1] at hout
            injection h with h
            subst h
            refine super_good ?_ hout
            rcases hg with hg | hg
            · exact hg
            · rcases hg.inside with h5 | ⟨h5, _⟩
              · rw [h2] at h5; exact absurd h5 (by decide)
              · rw [h2] at h5; exact absurd h5 (by decide)
          · rw [h1, isSup_d, if_neg (by simp), isDev_d, if_pos rfl] at h
            rw [h1] at hout
            exact device_good (hnb (by rw [h2]; decide)) hout h
          · rw [h1, isSup_1, if_neg (by simp), isDev_1, if_neg (by simp), isSin_1, if_pos rfl] at h
            rw [h1] at hout
            exact run_good (hnb (by rw [h2]; decide)) h2 (one_ok hout) h
          · rw [h1, isSup_r, if_neg (by simp), isDev_r, if_neg (by simp), isSin_r, if_neg (by simp)] at h
            rw [h1] at hout
            exact run_good (hnb (by rw [h2]; decide)) h2 (rng_ok hout) h
theorem closeP_err {s : Ps} {at_ p c : Int} (h : closeP s at_ = .error (p, c)) : c = 13 ∧ p = at_ := by
  unfold closeP at h
  split at h
  · injection h with h; injection h with h1 h2; exact ⟨h2.symm, h1.symm⟩
  · cases h
theorem runP_err {s : Ps} {at_ p c : Int} {r : Rn} (h : runP s at_ r = .error (p, c)) : (c = 2 ∨ c = 17) ∧ p = at_ := by
  unfold runP at h
  split at h
  · injection h with h; injection h with h1 h2; exact ⟨.inl h2.symm, h1.symm⟩
  · split at h
    · injection h with h; injection h with h1 h2; exact ⟨.inr h2.symm, h1.symm⟩
    · cases h
theorem deviceP_err {s : Ps} {kd at_ p c : Int} {out : List (ByteArray × Int)} (h : deviceP s kd at_ out = .error (p, c)) : (c = 2 ∨ c = 8 ∨ c = 13) ∧ p = at_ := by
  unfold deviceP at h
  split at h
  · injection h with h; injection h with h1 h2; exact ⟨.inl h2.symm, h1.symm⟩
  · split at h
    · injection h with h; injection h with h1 h2; exact ⟨.inr (.inl h2.symm), h1.symm⟩
    · split at h
      · have := closeP_err h; exact ⟨.inr (.inr this.1), this.2⟩
      · cases h
theorem take_err {s : Ps} {t : Ti} {p c : Int} (h : takeP s t = .error (p, c)) : 0 < c ∧ (p = t.2.2.2 ∨ ∃ a ∈ t.2.2.1, p = a.2.2) := by
  unfold takeP at h
  split at h
  · injection h with h; injection h with h1 h2; exact ⟨by omega, .inl h1.symm⟩
  · split at h
    · split at h
      · have := closeP_err h; exact ⟨by omega, .inl this.2⟩
      · cases h
    · split at h
      · rename_i e he
        injection h with h
        subst h
        obtain ⟨q1, q2⟩ := numsL_err he
        exact ⟨by omega, q2⟩
      · unfold doesP at h
        split at h
        · cases h
        · split at h
          · have := deviceP_err h; exact ⟨by omega, .inl this.2⟩
          · split at h
            · have := runP_err h; exact ⟨by omega, .inl this.2⟩
            · have := runP_err h; exact ⟨by omega, .inl this.2⟩

theorem Blk.bt {B X g : Nat} {t : TypeId} {cs : Array Value} {a b : World} (h : Blk a g t cs) (hb : Bt B X a b) (hne : g ≠ X) (ht : t ≠ 123 ∧ t ≠ 39) : Blk b g t cs := by
  refine (hb.calm g h.lt hne ?_).trans h
  rintro ⟨cs', t', fr, h1, h2⟩
  have h3 := h
  unfold Blk at h3
  rw [h3] at h1
  injection h1 with h1
  injection h1 with h4 h5 h6
  subst h5
  rcases h2 with h2 | h2
  · exact ht.1 h2
  · exact ht.2 h2
theorem MapAt.bt {B X g : Nat} {es : List (ByteArray × Value)} {a b : World} (h : MapAt a g es) (hb : Bt B X a b) (hne : g ≠ X) : MapAt b g es := by
  refine h.heap (hb.calm g h.lt hne ?_)
  rintro ⟨cs', t', fr, h1, h2⟩
  obtain ⟨x, c, h3, h4⟩ := h
  rw [h3] at h1
  cases h1
theorem own_map_ne {α : Type} {w : World} {base b size : Nat} {e : TypeId} {c : α → List Value} {v : Value} {l : List α} {es : List (ByteArray × Value)} (h : Own w base e size c v l) (hm : MapAt w b es) : v.ownBlock ≠ some b := by
  obtain ⟨a, k, hm, -⟩ := hm
  rcases h.2 with ⟨rfl, _⟩ | ⟨g, cap, cur, rfl, _, hh, _⟩
  · simp [Value.ownBlock]
  · intro he
    simp [Value.ownBlock] at he
    subst he
    rw [hh] at hm
    cases hm


section
variable {base X K : Nat} {s : Ps} {w w' : World}
theorem PS.below (h : PS base X K s w) (hb : Below w.heap.size w w') : PS base X K s w' := by
  obtain ⟨h1, h2, v, h3, h4⟩ := h
  exact ⟨h1, by have := hb.size; omega, v, h3.below hb (by omega), h4.below hb⟩
theorem PS.alloc (h : PS base X K s w) (o : Obj) : PS base X K s (w.alloc o) := by
  obtain ⟨h1, h2, v, h3, h4⟩ := h
  exact ⟨h1, by simp; omega, v, h3.alloc o, h4.alloc o⟩
theorem PS.set_ (h : PS base X K s w) {g i : Nat} {t : TypeId} {cs : Array Value} (hg : Blk w g t cs) (hne : g ≠ X) (h1 : t ≠ 123) (h2 : t ≠ 39) (u : Value) : PS base X K s (w.setCell ⟨g, i, none⟩ u) := by
  obtain ⟨q1, q2, v, q3, q4⟩ := h
  exact ⟨q1, by simpa using q2, v, q3.far (p := ⟨g, i, none⟩) (by dsimp only; omega) u, q4.set_ hg h1 h2 u⟩
theorem PS.drew (h : PS base X K s w) : PS base X K s w.drew := by
  obtain ⟨h1, h2, v, h3, h4⟩ := h
  exact ⟨h1, h2, v, h3.drew, h4.drew⟩
theorem PS.drewN (h : PS base X K s w) (n : Nat) : PS base X K s (w.drewN n) := by
  obtain ⟨h1, h2, v, h3, h4⟩ := h
  exact ⟨h1, h2, v, h3.drewN n, h4.drewN n⟩
end
/-- A step's end, handed on through the caller's result. -/
theorem st_close {base X K F : Nat} {r : Except (Int × Int) Ps} {e : Ending} {w w1 w2 : World} {x y : Value} (hs : StOut base X K w1 r e w2) (hb1 : Bt base X w w1) (hF : Blk w1 F 112 #[x, y]) (hBF : base ≤ F ∧ w.heap.size ≤ F) (hXb : X < base) :
    ∃ a b : Int, e = .returned (.agg #[.int .i64 a, .int .i64 b]) ∧ w2.cell? ⟨F, 0, none⟩ = some x ∧ w2.cell? ⟨F, 1, none⟩ = some y ∧ w2.frozen? ⟨F, 0, none⟩ = false ∧ w2.frozen? ⟨F, 1, none⟩ = false ∧ F < w2.heap.size ∧
      ((w2.setCell ⟨F, 0, none⟩ (.int .i64 a)).setCell ⟨F, 1, none⟩ (.int .i64 b)).cell? ⟨F, 0, none⟩ = some (.int .i64 a) ∧ ((w2.setCell ⟨F, 0, none⟩ (.int .i64 a)).setCell ⟨F, 1, none⟩ (.int .i64 b)).cell? ⟨F, 1, none⟩ = some (.int .i64 b) ∧
      StOut base X K w r (.returned (.agg #[.int .i64 a, .int .i64 b])) ((w2.setCell ⟨F, 0, none⟩ (.int .i64 a)).setCell ⟨F, 1, none⟩ (.int .i64 b)) := by
  cases r with
  | ok s' =>
    obtain ⟨rfl, ⟨-, hb2, v, hX, hD⟩, hbt⟩ := hs
    have hF2 := hF.bt hbt (by omega) (by decide)
    obtain ⟨q0, q1, q2, q3⟩ := fin_ok hX hD (hb1.trans hbt (Nat.le_refl _)) hF2 hXb hBF (.int .i64 0) (.int .i64 0)
    have c0 := hF2.cell 0
    have c1 := hF2.cell 1
    simp at c0 c1
    exact ⟨0, 0, rfl, c0, c1, hF2.frozen 0, hF2.frozen 1, hF2.lt, q0, q1, rfl, q2, q3⟩
  | error pc =>
    obtain ⟨p, c⟩ := pc
    obtain ⟨rfl, hbt⟩ := hs
    have hF2 := hF.bt hbt (by omega) (by decide)
    obtain ⟨q0, q1, q3⟩ := fin_err (hb1.trans hbt (Nat.le_refl _)) hF2 hBF (.int .i64 p) (.int .i64 c)
    have c0 := hF2.cell 0
    have c1 := hF2.cell 1
    simp at c0 c1
    exact ⟨p, c, rfl, c0, c1, hF2.frozen 0, hF2.frozen 1, hF2.lt, q0, q1, rfl, q3⟩
/-- What take's closures hold: the parser, the tag, the numbers. -/
def Boxed (Pb Tb Nb X b : Nat) (kd at_ : Int) (nm : ByteArray) (v : Value) (w : World) : Prop :=
  Blk w Pb 106 #[.pointer (some ⟨X, 0, none⟩)] ∧ Blk w Tb 60 #[.int .i64 kd, .string nm, v, .int .i64 at_] ∧ Blk w Nb 138 #[.map (some b)]
set_option maxRecDepth 100000 in
set_option maxHeartbeats 4000000 in
theorem take1_any (base X K b Pb Tb Nb : Nat) (s : Ps) (kd at_ : Int) (nm : ByteArray) (v : Value) (out : List (ByteArray × Int)) (w : World) (h : PS base X K s w) (hm : MapAt w b (iv out)) (hbX : b ≠ X) (hB : Boxed Pb Tb Nb X b kd at_ nm v w) :
    Calls Try.prog 82 #[.pointer (some ⟨Pb, 0, none⟩), .pointer (some ⟨Tb, 0, none⟩), .pointer (some ⟨Nb, 0, none⟩)] w (StOut base X K w (.ok (superP s kd out))) := by
  obtain ⟨hP, hT, hN⟩ := hB
  have hXb := h.1
  have hbs := h.2.1
  have h2 := hide (h.alloc (.cells #[.int .i64 0, .int .i64 0] 112))
  have hm2 := hide (hm.alloc (.cells #[.int .i64 0, .int .i64 0] 112))
  have hF2 := hide (show Blk (w.alloc (.cells #[.int .i64 0, .int .i64 0] 112)) w.heap.size 112 #[.int .i64 0, .int .i64 0] from heap_new_at (by simp))
  have hB2 := hide ((Bt.refl base X w).alloc hbs (.cells #[.int .i64 0, .int .i64 0] 112))
  have p0 := (hP.alloc (.cells #[.int .i64 0, .int .i64 0] 112)).cell 0
  have n0 := (hN.alloc (.cells #[.int .i64 0, .int .i64 0] 112)).cell 0
  have hT2 := hT.alloc (.cells #[.int .i64 0, .int .i64 0] 112)
  have t0 := hT2.cell 0
  have t1 := hT2.cell 1
  have t2 := hT2.cell 2
  have t3 := hT2.cell 3
  have hPl := hP.lt
  have hTl := hT.lt
  have hNl := hN.lt
  simp at p0 n0 t0 t1 t2 t3
  clear hP hT hN hT2
  go_enter Try.func82, Try.ntmps82
  go_wp2_with (fail)
  generalize (w.alloc (.cells #[.int .i64 0, .int .i64 0] 112)) = w1 at *
  refine (super_any base X K b s kd at_ nm v out w1 h2.out hm2.out hbX).mono ?_
  intro e w2 hS
  obtain ⟨a, c, rfl, k0, k1, k2, k3, hFl, q0, q1, q2⟩ := st_close hS hB2.out hF2.out (by omega) hXb
  have Q2 := hide q2
  clear hS q2
  go_wp2
  refine bodyPost_ret (v := .agg #[.int .i64 a, .int .i64 c]) (by simp [results, Try.results82, go_sem, q0, q1]) rfl Q2.out
set_option maxRecDepth 100000 in
set_option maxHeartbeats 4000000 in
theorem take3_any (base X K b Pb Tb Nb : Nat) (s : Ps) (kd at_ : Int) (nm : ByteArray) (v : Value) (out : List (ByteArray × Int)) (w : World) (h : PS base X K s w) (hm : MapAt w b (iv out)) (hbX : b ≠ X) (hB : Boxed Pb Tb Nb X b kd at_ nm v w) (hne : s.devs ≠ []) (hdl : s.devs.length ≤ 5000000) (hml : (lastMaps s.devs).length ≤ 5000000) (hs : (0 ≤ s.data ∧ s.data ≤ 65536) ∧ (0 ≤ s.sum ∧ s.sum ≤ 16384))
    (hr : (0 ≤ (oneRn out).1 ∧ (oneRn out).1 ≤ 281474976710655) ∧ (0 ≤ (oneRn out).2.1 ∧ (oneRn out).2.1 ≤ 65535) ∧ (0 ≤ (oneRn out).2.2.1 ∧ (oneRn out).2.2.1 ≤ 16384)) :
    Calls Try.prog 86 #[.pointer (some ⟨Pb, 0, none⟩), .pointer (some ⟨Tb, 0, none⟩), .pointer (some ⟨Nb, 0, none⟩)] w (StOut base X K w (runP s at_ (oneRn out))) := by
  obtain ⟨hP, hT, hN⟩ := hB
  have hXb := h.1
  have hbs := h.2.1
  have h2 := hide (h.alloc (.cells #[.int .i64 0, .int .i64 0] 112))
  have hm2 := hide (hm.alloc (.cells #[.int .i64 0, .int .i64 0] 112))
  have hF2 := hide (show Blk (w.alloc (.cells #[.int .i64 0, .int .i64 0] 112)) w.heap.size 112 #[.int .i64 0, .int .i64 0] from heap_new_at (by simp))
  have hB2 := hide ((Bt.refl base X w).alloc hbs (.cells #[.int .i64 0, .int .i64 0] 112))
  have p0 := (hP.alloc (.cells #[.int .i64 0, .int .i64 0] 112)).cell 0
  have n0 := (hN.alloc (.cells #[.int .i64 0, .int .i64 0] 112)).cell 0
  have hT2 := hT.alloc (.cells #[.int .i64 0, .int .i64 0] 112)
  have t0 := hT2.cell 0
  have t1 := hT2.cell 1
  have t2 := hT2.cell 2
  have t3 := hT2.cell 3
  have hPl := hP.lt
  have hTl := hT.lt
  have hNl := hN.lt
  have l0 := look_gv hm2.out sOBlock
  have l1 := look_gv hm2.out sDBlock
  have l2 := look_gv hm2.out sTime
  simp at p0 n0 t0 t1 t2 t3
  clear hP hT hN hT2
  go_enter Try.func86, Try.ntmps86
  go_wp2_with (fail)
  generalize (w.alloc (.cells #[.int .i64 0, .int .i64 0] 112)) = w1 at *
  refine (run_any base X K s kd at_ nm v (oneRn out) w1 h2.out hne hdl hml hr hs).mono ?_
  intro e w2 hS
  obtain ⟨a, c, rfl, k0, k1, k2, k3, hFl, q0, q1, q2⟩ := st_close hS hB2.out hF2.out (by omega) hXb
  have Q2 := hide q2
  clear hS q2
  go_wp2
  refine bodyPost_ret (v := .agg #[.int .i64 a, .int .i64 c]) (by simp [results, Try.results86, go_sem, q0, q1]) rfl Q2.out
set_option maxRecDepth 100000 in
set_option maxHeartbeats 4000000 in
theorem take4_any (base X K b Pb Tb Nb : Nat) (s : Ps) (kd at_ : Int) (nm : ByteArray) (v : Value) (out : List (ByteArray × Int)) (w : World) (h : PS base X K s w) (hm : MapAt w b (iv out)) (hbX : b ≠ X) (hB : Boxed Pb Tb Nb X b kd at_ nm v w) (hne : s.devs ≠ []) (hdl : s.devs.length ≤ 5000000) (hml : (lastMaps s.devs).length ≤ 5000000) (hs : (0 ≤ s.data ∧ s.data ≤ 65536) ∧ (0 ≤ s.sum ∧ s.sum ≤ 16384))
    (hr : (0 ≤ (rngRn out).1 ∧ (rngRn out).1 ≤ 281474976710655) ∧ (0 ≤ (rngRn out).2.1 ∧ (rngRn out).2.1 ≤ 65535) ∧ (0 ≤ (rngRn out).2.2.1 ∧ (rngRn out).2.2.1 ≤ 16384)) :
    Calls Try.prog 88 #[.pointer (some ⟨Pb, 0, none⟩), .pointer (some ⟨Tb, 0, none⟩), .pointer (some ⟨Nb, 0, none⟩)] w (StOut base X K w (runP s at_ (rngRn out))) := by
  obtain ⟨hP, hT, hN⟩ := hB
  have hXb := h.1
  have hbs := h.2.1
  have h2 := hide (h.alloc (.cells #[.int .i64 0, .int .i64 0] 112))
  have hm2 := hide (hm.alloc (.cells #[.int .i64 0, .int .i64 0] 112))
  have hF2 := hide (show Blk (w.alloc (.cells #[.int .i64 0, .int .i64 0] 112)) w.heap.size 112 #[.int .i64 0, .int .i64 0] from heap_new_at (by simp))
  have hB2 := hide ((Bt.refl base X w).alloc hbs (.cells #[.int .i64 0, .int .i64 0] 112))
  have p0 := (hP.alloc (.cells #[.int .i64 0, .int .i64 0] 112)).cell 0
  have n0 := (hN.alloc (.cells #[.int .i64 0, .int .i64 0] 112)).cell 0
  have hT2 := hT.alloc (.cells #[.int .i64 0, .int .i64 0] 112)
  have t0 := hT2.cell 0
  have t1 := hT2.cell 1
  have t2 := hT2.cell 2
  have t3 := hT2.cell 3
  have hPl := hP.lt
  have hTl := hT.lt
  have hNl := hN.lt
  have l0 := look_gv hm2.out sOBegin
  have l1 := look_gv hm2.out sDBegin
  have l2 := look_gv hm2.out sLength
  have l3 := look_gv hm2.out sTime
  simp at p0 n0 t0 t1 t2 t3
  clear hP hT hN hT2
  go_enter Try.func88, Try.ntmps88
  go_wp2_with (fail)
  generalize (w.alloc (.cells #[.int .i64 0, .int .i64 0] 112)) = w1 at *
  refine (run_any base X K s kd at_ nm v (rngRn out) w1 h2.out hne hdl hml hr hs).mono ?_
  intro e w2 hS
  obtain ⟨a, c, rfl, k0, k1, k2, k3, hFl, q0, q1, q2⟩ := st_close hS hB2.out hF2.out (by omega) hXb
  have Q2 := hide q2
  clear hS q2
  go_wp2
  refine bodyPost_ret (v := .agg #[.int .i64 a, .int .i64 c]) (by simp [results, Try.results88, go_sem, q0, q1]) rfl Q2.out
end Go.Proofs.Ytcblakflhheepaa
