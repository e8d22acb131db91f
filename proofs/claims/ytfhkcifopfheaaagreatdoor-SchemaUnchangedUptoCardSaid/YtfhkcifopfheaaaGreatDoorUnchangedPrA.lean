import Derived.Test.YtfhkcifopfheaaaGreatDoorTabA
import Derived.Test.YtfhkcifopfheaaaGreatDoorCtC
set_option linter.unusedVariables false
set_option linter.unusedSimpArgs false
namespace Go.CT.Sch
open Go.Proofs
theorem drop_get {s : ByteArray} {i : Nat} (h : i < s.size) : s.data.toList.drop i = s[i] :: s.data.toList.drop (i + 1) := by
 rw [List.drop_eq_getElem_cons (by simpa using h)]; rfl
end Go.CT.Sch
namespace Go.CT.Sch
open Go.Proofs
theorem emptyB_eq : (⟨#[]⟩ : ByteArray) = emptyB := rfl
theorem frOk_cons (d : Nat) (o : Option ByteArray) (p : ByteArray × Val) (r : List (ByteArray × Val)) : frOk d o (p :: r) = (okName p.1 && (match o with | none => true | some q => blt q p.1) && validD d p.2 && frOk d (some p.1) r) := by
 cases o <;> rfl
end Go.CT.Sch
namespace Go.CT
theorem get!_eq (s : ByteArray) (i : Nat) (h : i < s.size) : s.get! (i + 0) = s[i] := by
 obtain ⟨a⟩ := s
 have h' : i < a.size := h
 show a[i + 0]! = a[i]
 simp [h']
theorem decode_low {s : ByteArray} {i : Nat} (h : i < s.size) (hb : s[i].toNat < 128) : Utf8.decode s i = (s[i].toNat, 1) := by
 unfold Utf8.decode
 simp only [get!_eq s i h]
 rw [if_pos hb]
theorem decode_high {s : ByteArray} {i : Nat} (h : i < s.size) (hb : 128 ≤ s[i].toNat) : 128 ≤ (Utf8.decode s i).1 := by
 unfold Utf8.decode
 simp only [get!_eq s i h]
 rw [if_neg (by omega)]
 have e : Utf8.runeError = 65533 := rfl
 split
 ·split <;> simp only [e] <;> omega
 ·split
  ·split
   ·rename_i hc
    simp only [Bool.and_eq_true, decide_eq_true_eq, ge_iff_le] at hc
    show 128 ≤ _
    omega
   ·simp [e]
  ·split
   ·split
    ·rename_i hc
     simp only [Bool.and_eq_true, decide_eq_true_eq, ge_iff_le] at hc
     show 128 ≤ _
     omega
    ·simp [e]
   ·simp [e]
namespace O
variable {s : ByteArray} {i : Nat} {b : Bool} {xs ys : List IV}
theorem iterOk_in (h : i < s.size) : iterOk (.str s) (.int i) = some (.bool true) := by simp [iterOk, Prim.ev, h]
theorem iterOk_out (h : ¬ i < s.size) : iterOk (.str s) (.int i) = some (.bool false) := by simp [iterOk, Prim.ev, h]
theorem runeAt_in (h : i < s.size) : runeAt (.str s) (.int i) = some (.int (Utf8.decode s i).1) := by simp [runeAt, Prim.ev, h]
theorem runeAt_out (h : ¬ i < s.size) : runeAt (.str s) (.int i) = some (.int 0) := by simp [runeAt, Prim.ev, h]
theorem iterNext_in (h : i < s.size) : iterNext (.str s) (.int i) = some (.int ((i + (Utf8.decode s i).2 : Nat) : Int)) := by simp [iterNext, Prim.ev, h]
theorem iterNext_out (h : ¬ i < s.size) : iterNext (.str s) (.int i) = some (.int i) := by simp [iterNext, Prim.ev, h]
@[simp] theorem need_true : need (.bool true) = some (.bool true) := rfl
theorem appendN_list {n : Nat} (h : 0 < ys.length) (hb : (xs.length + ys.length) * n ≤ maxBytes) : appendN n (.list xs) (.list ys) = some (.list (xs ++ ys)) := if_pos ⟨h, hb⟩
theorem appendS_str (h : xs.length + s.size ≤ maxBytes) : appendS (.list xs) (.str s) = some (.list (xs ++ bytesIV s)) := if_pos h
@[simp] theorem clipF_list : clipF [.list xs] = some [.list xs] := rfl
@[simp] theorem copyCheckF_list : copyCheckF [.list xs] = some [.list xs] := rfl
theorem mapM_ivByte : ∀ l : List UInt8, (l.map fun b : UInt8 => IV.int b.toNat).mapM ivByte = some l
 | [] => rfl
 | b :: l => by
  have hb : ivByte (.int b.toNat) = some b := by
   have h : (b.toNat : Int) < 256 := by have := b.toNat_lt; omega
   simp only [ivByte, Int.natCast_nonneg, h, and_self, if_true, Int.toNat_natCast]
   simp [Nat.toUInt8]
  simp [List.map_cons, List.mapM_cons, hb, mapM_ivByte l]
theorem stringF_bytes (s : ByteArray) : stringF [.list (bytesIV s)] = some [.str s] := by
 simp only [stringF, bytesIV, mapM_ivByte, Option.map_some]
theorem bytesIV_append (s t : ByteArray) : bytesIV (s ++ t) = bytesIV s ++ bytesIV t := by
 simp [bytesIV, ByteArray.toList_data_append]
theorem bytesIV_length (s : ByteArray) : (bytesIV s).length = s.size := by simp [bytesIV]
theorem itoa_fun (n : Nat) (h : n < 100) : itoaF [.int n] = some [.str (itoaB n)] := by
 simp only [itoaF, Int.natCast_nonneg, true_and, Int.toNat_natCast]
 rw [if_pos (by omega)]
end O
end Go.CT
namespace Go.CT.Sch
open Go.Proofs
structure Stp where
 k : Int
 nm : ByteArray
 ix : Int
 vl : ByteArray
def Stp.enc (s : Stp) : IV := .agg [.int s.k, .str s.nm, .int s.ix, .str s.vl]
@[simp] theorem Stp.proj0 (s : Stp) : O.proj 0 s.enc = some (.int s.k) := rfl
@[simp] theorem Stp.proj1 (s : Stp) : O.proj 1 s.enc = some (.str s.nm) := rfl
@[simp] theorem Stp.proj2 (s : Stp) : O.proj 2 s.enc = some (.int s.ix) := rfl
@[simp] theorem Stp.proj3 (s : Stp) : O.proj 3 s.enc = some (.str s.vl) := rfl
def Stp.fits (s : Stp) : Prop := s.nm.size ≤ 1099511627000 ∧ s.vl.size ≤ 1099511627000
def bsL (l : List UInt8) : ByteArray := ⟨l.toArray⟩
theorem bsL_append (a b : List UInt8) : bsL (a ++ b) = bsL a ++ bsL b := by
 apply bytes_ext
 rw [ByteArray.toList_data_append]; simp [bsL]
theorem bsL_size (l : List UInt8) : (bsL l).size = l.length := by simp [bsL, ByteArray.size]
theorem bsL_data (s : ByteArray) : bsL s.data.toList = s := rfl
theorem emptyB_append (s : ByteArray) : emptyB ++ s = s := by
 apply bytes_ext
 rw [ByteArray.toList_data_append]; rfl
theorem append_emptyB (s : ByteArray) : s ++ emptyB = s := by
 apply bytes_ext
 rw [ByteArray.toList_data_append]; simp [emptyB]
def escB (c : UInt8) : List UInt8 := if c.toNat = 10 then [92, 110] else if c.toNat = 34 ∨ c.toNat = 92 then [92, c] else [c]
def quoteB (s : ByteArray) : ByteArray := bsL (34 :: s.data.toList.flatMap escB ++ [34])
theorem escB_len (c : UInt8) : (escB c).length ≤ 2 := by unfold escB; split <;> (try split) <;> simp
theorem esc_len : ∀ l : List UInt8, (l.flatMap escB).length ≤ 2 * l.length
 | [] => by simp
 | c :: l => by
  have := escB_len c
  have := esc_len l
  simp only [List.flatMap_cons, List.length_append, List.length_cons]; omega
theorem quoteB_size (s : ByteArray) : (quoteB s).size ≤ 2 + 2 * s.size := by
 have := esc_len s.data.toList
 have h : s.data.toList.length = s.size := by simp
 unfold quoteB
 rw [bsL_size]
 simp only [List.length_cons, List.length_append, List.length_nil]
 omega
def stepOk (x : Stp) : Bool :=
 if x.k = 1 then okName x.nm && decide (x.ix = 0) && decide (x.vl = emptyB)
 else if x.k = 2 then decide (0 ≤ x.ix) && decide (x.ix ≤ 64) && decide (x.nm = emptyB) && decide (x.vl = emptyB)
 else if x.k = 3 then okName x.nm && okStr x.vl && decide (x.ix = 0)
 else false
def pathOk (p : List Stp) : Bool := p.all stepOk && decide (p.length ≤ 16)
def stepB (first : Bool) (x : Stp) : ByteArray :=
 if x.k = 2 then bsL [91] ++ O.itoaB x.ix.toNat ++ bsL [93]
 else if x.k = 3 then bsL [91] ++ x.nm ++ bsL [61] ++ quoteB x.vl ++ bsL [93]
 else if first then x.nm else bsL [46] ++ x.nm
def stepsB : Bool → List Stp → ByteArray
 | _, [] => emptyB
 | b, x :: r => stepB b x ++ stepsB false r
def pathB (p : List Stp) : ByteArray := stepsB true p
def printB (p : List Stp) : ByteArray := if pathOk p then pathB p else emptyB
def printE (p : List Stp) : Int := if pathOk p then 0 else 1
theorem okName_size {s : ByteArray} (h : okName s = true) : s.size ≤ 40 := by
 unfold okName at h
 simp only [Bool.and_eq_true, decide_eq_true_eq] at h
 exact h.2.2
theorem okStr_size {s : ByteArray} (h : okStr s = true) : s.size ≤ 200 := by
 unfold okStr at h
 simp only [Bool.and_eq_true, decide_eq_true_eq] at h
 exact h.2
theorem itoaB_size (n : Nat) : (O.itoaB n).size ≤ 2 := by
 unfold O.itoaB
 split
 ·show 1 ≤ 2; omega
 ·show 2 ≤ 2; omega
theorem stepOk_sizes {x : Stp} (h : stepOk x = true) : x.nm.size ≤ 40 ∧ x.vl.size ≤ 200 ∧ (x.k = 2 → 0 ≤ x.ix ∧ x.ix ≤ 64) ∧ (x.k = 3 → okStr x.vl = true) ∧ (x.k = 1 ∨ x.k = 2 ∨ x.k = 3) := by
 have e0 : emptyB.size = 0 := rfl
 unfold stepOk at h
 split at h
 ·rename_i k1
  simp only [Bool.and_eq_true, decide_eq_true_eq] at h
  exact ⟨okName_size h.1.1, by rw [h.2, e0]; omega, fun h => by omega, fun h => by omega, .inl k1⟩
 ·split at h
  ·rename_i k2
   simp only [Bool.and_eq_true, decide_eq_true_eq] at h
   exact ⟨by rw [h.1.2, e0]; omega, by rw [h.2, e0]; omega, fun _ => ⟨h.1.1.1, h.1.1.2⟩, fun h => by omega, .inr (.inl k2)⟩
  ·split at h
   ·rename_i k3
    simp only [Bool.and_eq_true, decide_eq_true_eq] at h
    exact ⟨okName_size h.1.1, okStr_size h.1.2, fun h => by omega, fun _ => h.1.2, .inr (.inr k3)⟩
   ·cases h
theorem ref_pchar (c : UInt8) : W F108 0 [.int c.toNat] = some [.bool (okNameChar c)] := by
 rw [e_F108_0]
 simp only [O.ge_int, O.le_int, O.eq_int, Option.bind_some, O.cnd_bool, ite_some, ite_ivbool]
 congr 3
 unfold okNameChar
 rw [Bool.eq_iff_iff]
 simp
 omega
theorem ref_pname_1 (s : ByteArray) (hs : s.size ≤ 1099511627776) : ∀ (n i : Nat), i + n = s.size → W F107 1 [.str s, .int i] = some [.bool ((s.data.toList.drop i).all okNameChar && decide (1 ≤ s.size ∧ s.size ≤ 40))]
 | 0, i, h => by
  have h1 : ¬ i < s.size := by omega
  have h2 : s.data.toList.drop i = [] := List.drop_of_length_le (by simp; omega)
  rw [e_F107_1]
  simp only [O.slen_str, Option.bind_some, O.lt_int, lt_cast, h1, decide_false, O.cnd_bool, Bool.false_eq_true, if_false, O.gt_int, O.le_int, ite_some, ite_ivbool, h2, List.all_nil, Bool.true_and]
  congr 3
  rw [Bool.eq_iff_iff]
  simp
  omega
 | n + 1, i, h => by
  have hi : i < s.size := by omega
  have hw := next64 (i := i) (by omega)
  have ih := ref_pname_1 s hs n (i + 1) (by omega)
  rw [e_F107_1, drop_get hi]
  simp only [O.slen_str, Option.bind_some, O.lt_int, lt_cast, hi, decide_true, O.cnd_bool, if_true, O.sindex_str, Int.natCast_nonneg, Int.toNat_natCast, sget hi, Option.map_some, ref_pchar, O.calls_1, O.not_bool, O.add_int, hw, ih, List.all_cons]
  cases okNameChar s[i] <;> simp
theorem ref_pname (s : ByteArray) (hs : s.size ≤ 1099511627776) : W F107 0 [.str s] = some [.bool (okName s)] := by
 rw [e_F107_0]; exact ref_pname_1 s hs s.size 0 (by omega)
theorem ref_pstr_1 (s : ByteArray) (hs : s.size ≤ 1099511627776) : ∀ (n i : Nat), i + n = s.size → W F109 1 [.str s, .int i] = some [.bool ((s.data.toList.drop i).all okChar && decide (s.size ≤ 200))]
 | 0, i, h => by
  have h1 : ¬ i < s.size := by omega
  have h2 : s.data.toList.drop i = [] := List.drop_of_length_le (by simp; omega)
  rw [e_F109_1]
  simp only [O.slen_str, Option.bind_some, O.lt_int, lt_cast, h1, decide_false, O.cnd_bool, Bool.false_eq_true, if_false, O.le_int, h2, List.all_nil, Bool.true_and]
  congr 3
  rw [Bool.eq_iff_iff]
  simp
  omega
 | n + 1, i, h => by
  have hi : i < s.size := by omega
  have hw := next64 (i := i) (by omega)
  have ih := ref_pstr_1 s hs n (i + 1) (by omega)
  rw [e_F109_1, drop_get hi]
  have e1 : okChar s[i] = !(if (!decide ((s[i].toNat : Int) = 10)) = true then (if decide ((s[i].toNat : Int) < 32) = true then true else decide (126 < (s[i].toNat : Int))) else false) := by
   unfold okChar
   rw [Bool.eq_iff_iff]
   by_cases c1 : s[i].toNat = 10
   ·simp [c1]
   ·have c1' : ¬ (s[i].toNat : Int) = 10 := by omega
    by_cases c2 : s[i].toNat < 32
    ·have c2' : (s[i].toNat : Int) < 32 := by omega
     simp [c1, c1', c2, c2']; omega
    ·have c2' : ¬ (s[i].toNat : Int) < 32 := by omega
     simp [c1, c1', c2, c2']
     omega
  simp only [O.slen_str, Option.bind_some, O.lt_int, lt_cast, hi, decide_true, O.cnd_bool, if_true, O.sindex_str, Int.natCast_nonneg, Int.toNat_natCast, sget hi, Option.map_some, O.ne_int, O.gt_int, ite_some, ite_ivbool, O.add_int, hw, ih, List.all_cons, e1]
  generalize (if (!decide ((s[i].toNat : Int) = 10)) = true then (if decide ((s[i].toNat : Int) < 32) = true then true else decide (126 < (s[i].toNat : Int))) else false) = b
  cases b <;> simp
theorem ref_pstr (s : ByteArray) (hs : s.size ≤ 1099511627776) : W F109 0 [.str s] = some [.bool (okStr s)] := by
 rw [e_F109_0]; exact ref_pstr_1 s hs s.size 0 (by omega)
theorem ref_pstep (s : Stp) (hs : s.fits) : W F106 0 [s.enc] = some [.bool (stepOk s)] := by
 have h1 := ref_pname s.nm (Nat.le_trans hs.1 (by decide))
 have h2 := ref_pstr s.vl (Nat.le_trans hs.2 (by decide))
 rw [e_F106_0]
 simp only [Stp.proj0, Stp.proj1, Stp.proj2, Stp.proj3, Option.bind_some, O.eq_int, O.cnd_bool, h1, h2, O.calls_1, O.ge_int, O.le_int, O.sEq_str, ite_some, ite_ivbool, emptyB_eq]
 unfold stepOk
 by_cases k1 : s.k = 1
 ·simp only [k1, decide_true, if_true]
  cases okName s.nm <;> simp
 ·by_cases k2 : s.k = 2
  ·simp only [k1, k2, decide_true, decide_false, Bool.false_eq_true, if_true, if_false]
   by_cases e1 : 0 ≤ s.ix <;> by_cases e2 : s.ix ≤ 64 <;> by_cases e3 : s.nm = emptyB <;> simp [e1, e2, e3]
  ·simp only [k1, k2, decide_false, Bool.false_eq_true, if_false]
   by_cases k3 : s.k = 3
   ·simp only [k3, decide_true, if_true]
    cases okName s.nm <;> cases okStr s.vl <;> simp
   ·simp [k3]
theorem ref_pvalid_1 (p : List Stp) (hp : ∀ s ∈ p, s.fits) (hl : p.length ≤ 1099511627776) : ∀ (n i : Nat), i + n = p.length → W F105 1 [.list (p.map Stp.enc), .int i] = some [.bool ((p.drop i).all stepOk && decide (p.length ≤ 16))]
 | 0, i, h => by
  have h1 : ¬ i < p.length := by omega
  have h2 : p.drop i = [] := List.drop_of_length_le (by omega)
  rw [e_F105_1]
  simp only [O.len_list, List.length_map, Option.bind_some, O.lt_int, lt_cast, h1, decide_false, O.cnd_bool, Bool.false_eq_true, if_false, O.le_int, h2, List.all_nil, Bool.true_and]
  congr 3
  rw [Bool.eq_iff_iff]
  simp
  omega
 | n + 1, i, h => by
  have hi : i < p.length := by omega
  have hw := next64 (i := i) (by omega)
  have ih := ref_pvalid_1 p hp hl n (i + 1) (by omega)
  rw [e_F105_1, List.drop_eq_getElem_cons hi]
  simp only [O.len_list, List.length_map, Option.bind_some, O.lt_int, lt_cast, hi, decide_true, O.cnd_bool, if_true, O.index_list, Int.natCast_nonneg, Int.toNat_natCast, List.getElem?_map, List.getElem?_eq_getElem hi, Option.map_some, ref_pstep _ (hp _ (List.getElem_mem hi)), O.calls_1, O.not_bool, O.add_int, hw, ih, List.all_cons]
  cases stepOk p[i] <;> simp
theorem ref_pvalid (p : List Stp) (hp : ∀ s ∈ p, s.fits) (hl : p.length ≤ 1099511627776) : W F105 0 [.list (p.map Stp.enc)] = some [.bool (pathOk p)] := by
 rw [e_F105_0]; exact ref_pvalid_1 p hp hl p.length 0 (by omega)
theorem cat_ok {a b : ByteArray} (ha : a.size ≤ 100000) (hb : b.size ≤ 100000) : O.cat (.str a) (.str b) = some (.str (a ++ b)) := by
 rw [O.cat_str, if_pos (by unfold maxBytes; omega)]
theorem stepB_size {b : Bool} {x : Stp} (h : stepOk x = true) : (stepB b x).size ≤ 500 := by
 obtain ⟨h1, h2, _⟩ := stepOk_sizes h
 have hq := quoteB_size x.vl
 have hi := itoaB_size x.ix.toNat
 have e : ∀ c : UInt8, (bsL [c]).size = 1 := fun c => by rw [bsL_size]; rfl
 unfold stepB
 split
 ·simp only [ByteArray.size_append, e]; omega
 ·split
  ·simp only [ByteArray.size_append, e]; omega
  ·split
   ·omega
   ·simp only [ByteArray.size_append, e]; omega
end Go.CT.Sch
namespace Go.CT.Sch
open Go.Proofs
theorem pv_text_1 (s : ByteArray) (hs : s.size ≤ 1099511627776) : ∀ (n i : Nat), i + n = s.size → W F18 1 [.str s, .int s.size, .int i] = some [.bool ((s.data.toList.drop i).all okChar && decide (s.size ≤ 200))]
 | 0, i, h => by
  have h1 : ¬ i < s.size := by omega
  have h2 : s.data.toList.drop i = [] := List.drop_of_length_le (by simp; omega)
  rw [e_F18_1]
  simp only [O.slen_str, Option.bind_some, O.lt_int, lt_cast, h1, decide_false, O.cnd_bool, Bool.false_eq_true, if_false, O.le_int, h2, List.all_nil, Bool.true_and]
  congr 3
  rw [Bool.eq_iff_iff]
  simp
  omega
 | n + 1, i, h => by
  have hi : i < s.size := by omega
  have hw := next64 (i := i) (by omega)
  have ih := pv_text_1 s hs n (i + 1) (by omega)
  rw [e_F18_1, drop_get hi]
  have e1 : okChar s[i] = !(if (!decide ((s[i].toNat : Int) = 10)) = true then (if decide ((s[i].toNat : Int) < 32) = true then true else decide (126 < (s[i].toNat : Int))) else false) := by
   unfold okChar
   rw [Bool.eq_iff_iff]
   by_cases c1 : s[i].toNat = 10
   ·simp [c1]
   ·have c1' : ¬ (s[i].toNat : Int) = 10 := by omega
    by_cases c2 : s[i].toNat < 32
    ·have c2' : (s[i].toNat : Int) < 32 := by omega
     simp [c1, c1', c2, c2']; omega
    ·have c2' : ¬ (s[i].toNat : Int) < 32 := by omega
     simp [c1, c1', c2, c2']
     omega
  simp only [O.slen_str, Option.bind_some, O.lt_int, lt_cast, hi, decide_true, O.cnd_bool, if_true, O.sindex_str, Int.natCast_nonneg, Int.toNat_natCast, sget hi, Option.map_some, O.ne_int, O.gt_int, ite_some, ite_ivbool, O.add_int, hw, ih, List.all_cons, e1]
  generalize (if (!decide ((s[i].toNat : Int) = 10)) = true then (if decide ((s[i].toNat : Int) < 32) = true then true else decide (126 < (s[i].toNat : Int))) else false) = b
  cases b <;> simp
theorem pv_text (s : ByteArray) (hs : s.size ≤ 1099511627776) : W F18 0 [.str s] = some [.bool (okStr s)] := by
 rw [e_F18_0]
 simp only [O.slen_str, Option.bind_some]
 exact pv_text_1 s hs s.size 0 (by omega)
theorem pv_name_1 (s : ByteArray) (hs : s.size ≤ 1099511627776) : ∀ (n i : Nat), i + n = s.size → W F19 1 [.str s, .int s.size, .int i] = some [.bool ((s.data.toList.drop i).all okNameChar && decide (1 ≤ s.size ∧ s.size ≤ 40))]
 | 0, i, h => by
  have h1 : ¬ i < s.size := by omega
  have h2 : s.data.toList.drop i = [] := List.drop_of_length_le (by simp; omega)
  rw [e_F19_1]
  simp only [O.slen_str, Option.bind_some, O.lt_int, lt_cast, h1, decide_false, O.cnd_bool, Bool.false_eq_true, if_false, O.ge_int, O.le_int, ite_some, ite_ivbool, h2, List.all_nil, Bool.true_and]
  congr 3
  rw [Bool.eq_iff_iff]
  simp
  omega
 | n + 1, i, h => by
  have hi : i < s.size := by omega
  have hw := next64 (i := i) (by omega)
  have ih := pv_name_1 s hs n (i + 1) (by omega)
  rw [e_F19_1, drop_get hi]
  generalize hc : s[i] = c
  simp only [O.slen_str, Option.bind_some, O.lt_int, lt_cast, hi, decide_true, O.cnd_bool, if_true, O.sindex_str, Int.natCast_nonneg, Int.toNat_natCast, sget hi, hc, Option.map_some, O.ge_int, O.le_int, O.eq_int, ite_some, ite_ivbool, O.not_bool, O.add_int, hw, ih, List.all_cons]
  have e1 : okNameChar c = (if (if (if (if (if (if decide ((97 : Int) ≤ c.toNat) = true then decide ((c.toNat : Int) ≤ 122) else false) = true then true else if decide ((65 : Int) ≤ c.toNat) = true then decide ((c.toNat : Int) ≤ 90) else false) = true then true else if decide ((48 : Int) ≤ c.toNat) = true then decide ((c.toNat : Int) ≤ 57) else false) = true then true else decide ((c.toNat : Int) = 45)) = true then true else decide ((c.toNat : Int) = 95)) = true then true else decide ((c.toNat : Int) = 47)) := by
   unfold okNameChar
   rw [Bool.eq_iff_iff]
   simp
   omega
  rw [← e1]
  cases okNameChar c <;> simp
theorem pv_name (s : ByteArray) (hs : s.size ≤ 1099511627776) : W F19 0 [.str s] = some [.bool (okName s)] := by
 rw [e_F19_0]
 simp only [O.slen_str, Option.bind_some]
 exact pv_name_1 s hs s.size 0 (by omega)
theorem pv_scalar (v : Val) (hv : v.mass ≤ 1099511627776) : W F17 0 [v.enc] = some [.bool (okScalar v)] := by
 have hs := v.mass_s
 rw [e_F17_0]
 unfold okScalar
 simp only [Val.proj0, Option.bind_some, O.eq_int, O.cnd_bool]
 by_cases c1 : v.k = 1
 ·by_cases a1 : v.s = emptyB <;> by_cases a2 : v.n = 0 <;> simp [c1, a1, a2, emptyB_eq]
 by_cases c2 : v.k = 2
 ·by_cases a1 : -1000000000000000 ≤ v.n <;> by_cases a2 : v.n ≤ 1000000000000000 <;> by_cases a3 : v.s = emptyB <;> simp [c2, a1, a2, a3, emptyB_eq]
 by_cases c3 : v.k = 3
 ·by_cases a1 : v.n = 0 <;> simp [c3, a1, pv_text v.s (by omega)]
 by_cases c4 : v.k = 0
 ·by_cases a1 : v.n = 0 <;> simp [c4, e_F17_1, a1, emptyB_eq]
 by_cases c5 : v.k = 4
 ·by_cases a1 : v.n = 0 <;> simp [c5, e_F17_1, a1, emptyB_eq]
 by_cases c6 : v.k = 5
 ·by_cases a1 : v.n = 0 <;> simp [c6, e_F17_1, a1, emptyB_eq]
 simp [c1, c2, c3, c4, c5, c6, e_F17_1]
theorem pv_valid_2 (d : Nat) (v : Val) (hd : d ≤ 12) (hv : v.mass ≤ 1099511627776) (ih : ∀ p ∈ v.f, W F16 0 [p.2.enc, .int d] = some [.bool (validD d p.2)]) : ∀ (n i : Nat), i + n = v.f.length →
  W F16 2 [.int ((d + 1 : Nat) : Int), .list (v.f.map Fld.enc), .int v.f.length, .int i, v.enc] = some [.bool (frOk d (prevName v.f i) (v.f.drop i))]
 | 0, i, h => by
  rw [e_F16_2]
  have h1 : ¬ i < v.f.length := by omega
  simp [h1, List.drop_of_length_le (Nat.le_of_not_lt h1), frOk]
 | n + 1, i, h => by
  have hi : i < v.f.length := by omega
  have hm := v.mass_len_f
  have hw := next64 (i := i) (by omega)
  have hd1 : IntKind.i64.wrap (((d + 1 : Nat) : Int) - 1) = d := by rw [wrap64 (by omega) (by omega)]; omega
  have := pv_valid_2 d v hd hv ih n (i + 1) (by omega)
  have hmem := List.getElem_mem hi
  have hmass := Val.mass_f hmem
  have hpn : prevName v.f (i + 1) = some v.f[i].1 := by simp [prevName, hi]
  rw [hpn] at this
  rw [e_F16_2, List.drop_eq_getElem_cons hi, frOk_cons]
  simp only [Val.proj4, Option.bind_some, O.lt_int, lt_cast, hi, decide_true, O.cnd_bool, if_true, O.index_list, Int.natCast_nonneg, Int.toNat_natCast, List.getElem?_map, List.getElem?_eq_getElem hi, Option.map_some, Fld.proj0, Fld.projV, pv_name v.f[i].1 (by omega), O.sub_int, hd1, ih _ hmem, O.calls_1, O.not_bool, O.gt_int, O.add_int, hw, this]
  cases i with
  | zero =>
   simp only [prevName]
   cases okName v.f[0].1 <;> cases validD d v.f[0].2 <;> simp
  | succ i =>
   have hi' : i < v.f.length := by omega
   have hw2 : IntKind.i64.wrap (((i + 1 : Nat) : Int) - 1) = i := by rw [wrap64 (by omega) (by omega)]; omega
   have hp : (0 : Int) < ((i + 1 : Nat) : Int) := by omega
   simp only [prevName, List.getElem?_eq_getElem hi', Option.map_some, hw2, hp, decide_true, if_true, Int.natCast_nonneg, Int.toNat_natCast, Option.bind_some, Fld.proj0, sGe_blt]
   cases okName v.f[i + 1].1 <;> cases validD d v.f[i + 1].2 <;> cases blt v.f[i].1 v.f[i + 1].1 <;> simp
theorem pv_valid_1 (d : Nat) (v : Val) (hd : d ≤ 12) (hv : v.mass ≤ 1099511627776) (ih : ∀ x ∈ v.l, W F16 0 [x.enc, .int d] = some [.bool (validD d x)]) : ∀ (n i : Nat), i + n = v.l.length →
  W F16 1 [.int ((d + 1 : Nat) : Int), .list (v.l.map Val.enc), .int v.l.length, .int i, v.enc] = if (v.l.drop i).all (validD d) = true then W F16 2 [.int ((d + 1 : Nat) : Int), .list (v.f.map Fld.enc), .int v.f.length, .int 0, v.enc] else some [.bool false]
 | 0, i, h => by
  rw [e_F16_1]
  have h1 : ¬ i < v.l.length := by omega
  simp [h1, List.drop_of_length_le (Nat.le_of_not_lt h1)]
 | n + 1, i, h => by
  have hi : i < v.l.length := by omega
  have hm := v.mass_len_l
  have hw := next64 (i := i) (by omega)
  have hd1 : IntKind.i64.wrap (((d + 1 : Nat) : Int) - 1) = d := by rw [wrap64 (by omega) (by omega)]; omega
  have := pv_valid_1 d v hd hv ih n (i + 1) (by omega)
  rw [e_F16_1, List.drop_eq_getElem_cons hi]
  simp only [Option.bind_some, O.lt_int, lt_cast, hi, decide_true, O.cnd_bool, if_true, O.index_list, Int.natCast_nonneg, Int.toNat_natCast, List.getElem?_map, List.getElem?_eq_getElem hi, Option.map_some, O.sub_int, hd1, ih _ (List.getElem_mem hi), O.calls_1, O.not_bool, O.add_int, hw, this, List.all_cons]
  by_cases c : validD d v.l[i] = true <;> simp [c]
theorem pv_valid : ∀ (d : Nat) (v : Val), d ≤ 12 → v.mass ≤ 1099511627776 → W F16 0 [v.enc, .int d] = some [.bool (validD d v)]
 | 0, v, _, _ => by
  rw [e_F16_0]
  simp [validD]
 | d + 1, v, hd, hv => by
  have h1 := pv_valid_1 d v (by omega) hv (fun x hx => pv_valid d x (by omega) (by have := Val.mass_l hx; omega)) v.l.length 0 (by omega)
  have h2 := pv_valid_2 d v (by omega) hv (fun p hp => pv_valid d p.2 (by omega) (by have := Val.mass_f hp; omega)) v.f.length 0 (by omega)
  have hm1 := v.mass_len_l
  have hm2 := v.mass_len_f
  have hd0 : ¬ ((d + 1 : Nat) : Int) = 0 := by omega
  simp only [List.drop_zero, Int.cast_ofNat_Int] at h1 h2
  have e1 : decide ((0 : Int) < (v.l.length : Int)) = !decide (v.l = []) := by cases v.l <;> simp
  have e2 : decide ((0 : Int) < (v.f.length : Int)) = !decide (v.f = []) := by cases v.f <;> simp
  have e3 : decide ((64 : Int) < (v.l.length : Int)) = !decide (v.l.length ≤ 64) := by rw [Bool.eq_iff_iff]; simp; omega
  have e4 : decide ((64 : Int) < (v.f.length : Int)) = !decide (v.f.length ≤ 64) := by rw [Bool.eq_iff_iff]; simp; omega
  rw [e_F16_0]
  simp only [O.eq_int, hd0, decide_false, Option.bind_some, O.cnd_bool, Bool.false_eq_true, if_false, pv_scalar v hv, O.calls_1, O.not_bool, ite_some, ite_ivbool, Val.proj0, Val.proj3, Val.proj4, O.ne_int, O.len_list, List.length_map, O.gt_int, e1, e2, e3, e4, h1, h2]
  unfold validD
  have hpn : prevName v.f 0 = none := rfl
  rw [hpn, frOk_none]
  generalize v.l.all (validD d) = A at *
  generalize (v.f.all fun p => okName p.1 && validD d p.2) = B at *
  generalize rising v.f = C at *
  generalize okScalar v = D
  clear h1 h2
  have p4 : (if (!decide (v.k = 4)) = true then !decide (v.l = []) else false) = !decide (v.k ≠ 4 → v.l = []) := by by_cases c : v.k = 4 <;> simp [c]
  have p5 : (if (!decide (v.k = 5)) = true then !decide (v.f = []) else false) = !decide (v.k ≠ 5 → v.f = []) := by by_cases c : v.k = 5 <;> simp [c]
  rw [p4, p5, show decide (v.l.length ≤ 64 ∧ v.f.length ≤ 64 ∧ (v.k ≠ 4 → v.l = []) ∧ (v.k ≠ 5 → v.f = [])) = (decide (v.l.length ≤ 64) && (decide (v.f.length ≤ 64) && (decide (v.k ≠ 4 → v.l = []) && decide (v.k ≠ 5 → v.f = [])))) by simp only [Bool.decide_and]]
  generalize decide (v.l.length ≤ 64) = b1
  generalize decide (v.f.length ≤ 64) = b2
  generalize decide (v.k ≠ 4 → v.l = []) = b3
  generalize decide (v.k ≠ 5 → v.f = []) = b4
  cases D <;> cases b1 <;> cases b2 <;> cases b3 <;> cases b4 <;> cases A <;> cases B <;> cases C <;> rfl
theorem pv_size_2 (v : Val) (hv : v.mass ≤ 1099511627776) (ih : ∀ p ∈ v.f, W F20 0 [p.2.enc] = some [.int p.2.size]) : ∀ (n i c : Nat), i + n = v.f.length → c + sizeFs (v.f.drop i) ≤ 4611686018427387904 →
  W F20 2 [.int c, .list (v.f.map Fld.enc), .int v.f.length, .int i] = some [.int ((c + sizeFs (v.f.drop i) : Nat) : Int)]
 | 0, i, c, h, hc => by
  rw [e_F20_2]
  have h1 : ¬ i < v.f.length := by omega
  simp [h1, List.drop_of_length_le (Nat.le_of_not_lt h1), sizeFs]
 | n + 1, i, c, h, hc => by
  have hi : i < v.f.length := by omega
  have hm := v.mass_len_f
  have hw := next64 (i := i) (by omega)
  have hd : sizeFs (v.f.drop i) = v.f[i].2.size + sizeFs (v.f.drop (i + 1)) := by rw [List.drop_eq_getElem_cons hi]; rfl
  have hw2 : IntKind.i64.wrap ((c : Int) + (v.f[i].2.size : Int)) = ((c + v.f[i].2.size : Nat) : Int) := by rw [wrap64 (by omega) (by omega)]; rfl
  rw [e_F20_2]
  simp only [Option.bind_some, O.lt_int, lt_cast, hi, decide_true, O.cnd_bool, if_true, O.index_list, Int.natCast_nonneg, Int.toNat_natCast, List.getElem?_map, List.getElem?_eq_getElem hi, Option.map_some, Fld.projV, ih _ (List.getElem_mem hi), O.calls_1, O.add_int, hw, hw2]
  rw [pv_size_2 v hv ih n (i + 1) _ (by omega) (by omega), hd, Nat.add_assoc]
theorem pv_size_1 (v : Val) (hv : v.mass ≤ 1099511627776) (ih : ∀ x ∈ v.l, W F20 0 [x.enc] = some [.int x.size]) : ∀ (n i c : Nat), i + n = v.l.length → c + sizeVs (v.l.drop i) ≤ 4611686018427387904 →
  W F20 1 [.int c, .list (v.l.map Val.enc), .int v.l.length, .int i, v.enc] = W F20 2 [.int ((c + sizeVs (v.l.drop i) : Nat) : Int), .list (v.f.map Fld.enc), .int v.f.length, .int 0]
 | 0, i, c, h, hc => by
  rw [e_F20_1]
  have h1 : ¬ i < v.l.length := by omega
  simp [h1, List.drop_of_length_le (Nat.le_of_not_lt h1), sizeVs]
 | n + 1, i, c, h, hc => by
  have hi : i < v.l.length := by omega
  have hm := v.mass_len_l
  have hw := next64 (i := i) (by omega)
  have hd : sizeVs (v.l.drop i) = v.l[i].size + sizeVs (v.l.drop (i + 1)) := by rw [List.drop_eq_getElem_cons hi]; rfl
  have hw2 : IntKind.i64.wrap ((c : Int) + (v.l[i].size : Int)) = ((c + v.l[i].size : Nat) : Int) := by rw [wrap64 (by omega) (by omega)]; rfl
  rw [e_F20_1]
  simp only [Option.bind_some, O.lt_int, lt_cast, hi, decide_true, O.cnd_bool, if_true, O.index_list, Int.natCast_nonneg, Int.toNat_natCast, List.getElem?_map, List.getElem?_eq_getElem hi, Option.map_some, ih _ (List.getElem_mem hi), O.calls_1, O.add_int, hw, hw2]
  rw [pv_size_1 v hv ih n (i + 1) _ (by omega) (by omega), hd, Nat.add_assoc]
theorem pv_size : ∀ v : Val, v.mass ≤ 1099511627776 → W F20 0 [v.enc] = some [.int v.size] := by
 refine Val.ind fun v ih1 ih2 hv => ?_
 have hsz := v.size_mass
 have hs := v.size_eq
 have h1 := pv_size_1 v hv (fun x hx => ih1 x hx (by have := Val.mass_l hx; omega)) v.l.length 0 1 (by omega) (by simp only [List.drop_zero]; omega)
 have h2 := pv_size_2 v hv (fun p hp => ih2 p hp (by have := Val.mass_f hp; omega)) v.f.length 0 (1 + sizeVs v.l) (by omega) (by simp only [List.drop_zero]; omega)
 simp only [List.drop_zero, Int.cast_ofNat_Int] at h1 h2
 rw [e_F20_0]
 simp only [Val.proj3, Option.bind_some, O.len_list, List.length_map]
 have h1' : W F20 1 [.int 1, .list (v.l.map Val.enc), .int v.l.length, .int 0, v.enc] = W F20 2 [.int ((1 + sizeVs v.l : Nat) : Int), .list (v.f.map Fld.enc), .int v.f.length, .int 0] := h1
 rw [h1', h2, hs]
theorem pv_Valid (v : Val) (hv : v.mass ≤ 1099511627776) : W F15 0 [v.enc] = some [.bool v.valid] := by
 rw [e_F15_0]
 have h1 := pv_valid 12 v (by omega) hv
 have h2 := pv_size v hv
 simp only [Int.cast_ofNat_Int] at h1
 simp only [h1, h2, O.calls_1, O.cnd_bool, O.le_int, Option.bind_some, Val.valid]
 have : decide ((v.size : Int) ≤ 600) = decide (v.size ≤ 600) := by simp; omega
 cases validD 12 v <;> simp [this]
end Go.CT.Sch
namespace Go.CT.Sch
open Go.Proofs
def nmR (r : Int) : Bool := decide (97 ≤ r ∧ r ≤ 122) || decide (65 ≤ r ∧ r ≤ 90) || decide (48 ≤ r ∧ r ≤ 57) || decide (r = 45) || decide (r = 95) || decide (r = 47)
theorem pp_rune (r : Int) : W F54 0 [.int r] = some [.bool (nmR r)] := by
 rw [e_F54_0]
 simp only [O.ge_int, O.le_int, O.eq_int, Option.bind_some, O.cnd_bool, ite_some, ite_ivbool]
 congr 3
 unfold nmR
 rw [Bool.eq_iff_iff]
 simp
theorem nmR_char (c : UInt8) : nmR c.toNat = okNameChar c := by
 unfold nmR okNameChar
 rw [Bool.eq_iff_iff]
 simp
 omega
theorem nmR_high {r : Int} (h : 128 ≤ r) : nmR r = false := by
 unfold nmR
 simp
 omega
theorem char_high {c : UInt8} (h : 128 ≤ c.toNat) : okNameChar c = false := by
 rw [← nmR_char]; exact nmR_high (by omega)
theorem pp_name_1 (s : ByteArray) (hs : s.size ≤ 1099511627776) : ∀ (n i : Nat), i + n = s.size → W F53 1 [.str s, .str s, .int i] = some [.bool ((s.data.toList.drop i).all okNameChar && decide (1 ≤ s.size ∧ s.size ≤ 40))]
 | 0, i, h => by
  have h1 : ¬ i < s.size := by omega
  have h2 : s.data.toList.drop i = [] := List.drop_of_length_le (by simp; omega)
  rw [e_F53_1]
  simp only [O.iterOk_out h1, O.runeAt_out h1, O.iterNext_out h1, Option.bind_some, O.cnd_bool, Bool.false_eq_true, if_false, O.sNe_str, O.slen_str, O.le_int, ite_some, ite_ivbool, h2, List.all_nil, Bool.true_and]
  congr 3
  have e : s = (⟨#[]⟩ : ByteArray) ↔ s.size = 0 := by
   constructor
   ·rintro rfl; rfl
   ·intro h0
    apply bytes_ext
    have : s.data.toList.length = 0 := by simpa using h0
    rw [List.length_eq_zero_iff.1 this]
  by_cases c : s.size = 0
  ·simp [e, c]
  ·have c1 : 1 ≤ s.size := by omega
   rw [Bool.eq_iff_iff]
   simp [e, c, c1]
   omega
 | n + 1, i, h => by
  have hi : i < s.size := by omega
  rw [e_F53_1, drop_get hi]
  simp only [O.iterOk_in hi, O.runeAt_in hi, O.iterNext_in hi, Option.bind_some, O.cnd_bool, if_true, O.need_true, pp_rune, O.calls_1, O.not_bool, List.all_cons]
  by_cases hb : s[i].toNat < 128
  ·have ih := pp_name_1 s hs n (i + 1) (by omega)
   rw [decode_low hi hb]
   simp only [nmR_char]
   cases okNameChar s[i] with
   | true => simpa using ih
   | false => simp
  ·have hd := decode_high hi (by omega)
   rw [nmR_high (by omega), char_high (by omega)]
   simp
theorem pp_name (s : ByteArray) (hs : s.size ≤ 1099511627776) : W F53 0 [.str s] = some [.bool (okName s)] := by
 rw [e_F53_0]; exact pp_name_1 s hs s.size 0 (by omega)
theorem str_valid (s : ByteArray) : (Val.mk 3 0 s [] []).valid = okStr s := by
 unfold Val.valid validD
 simp [okScalar, rising, Val.size, sizeVs, sizeFs]
theorem pp_step (s : Stp) (hs : s.fits) : W F52 0 [s.enc] = some [.bool (stepOk s)] := by
 have h1 := pp_name s.nm (Nat.le_trans hs.1 (by decide))
 have h2 := pv_Valid ⟨3, 0, s.vl, [], []⟩ (by
  have := hs.2
  rw [Val.mass_eq]; simp [massVs_nil, massFs_nil]; omega)
 rw [str_valid] at h2
 have e : IV.agg [.int 3, .int 0, .str s.vl, .list [], .list []] = Val.enc ⟨3, 0, s.vl, [], []⟩ := rfl
 rw [e_F52_0]
 simp only [Stp.proj0, Stp.proj1, Stp.proj2, Stp.proj3, Option.bind_some, O.eq_int, O.cnd_bool, h1, O.calls_1, O.ge_int, O.le_int, O.sEq_str, ite_some, ite_ivbool, emptyB_eq, e_F14_0, O.calls_5, O.mkagg_eq, e, h2]
 unfold stepOk
 by_cases k1 : s.k = 1
 ·simp only [k1, decide_true, if_true]
  cases okName s.nm <;> simp
 ·by_cases k2 : s.k = 2
  ·simp only [k2, decide_true, decide_false, Bool.false_eq_true, if_true, if_false]
   by_cases e1 : 0 ≤ s.ix <;> by_cases e2 : s.ix ≤ 64 <;> by_cases e3 : s.nm = emptyB <;> simp [e1, e2, e3]
  ·simp only [k1, k2, decide_false, Bool.false_eq_true, if_false]
   by_cases k3 : s.k = 3
   ·simp only [k3, decide_true, if_true]
    cases okName s.nm <;> cases okStr s.vl <;> simp
   ·simp [k3]
theorem pp_index (p : List Stp) (hp : ∀ s ∈ p, s.fits) (hl : p.length ≤ 1099511627776) : ∀ (n i : Nat), i + n = p.length →
  ∃ r : Int, W F50 1 [.list (p.map Stp.enc), .int p.length, .int i] = some [.int r] ∧ decide (0 ≤ r) = !(p.drop i).all stepOk
 | 0, i, h => by
  have h1 : ¬ i < p.length := by omega
  have h2 : p.drop i = [] := List.drop_of_length_le (by omega)
  rw [e_F50_1]
  simp only [O.lt_int, lt_cast, h1, decide_false, Option.bind_some, O.cnd_bool, Bool.false_eq_true, if_false, h2]
  exact ⟨-1, rfl, rfl⟩
 | n + 1, i, h => by
  have hi : i < p.length := by omega
  have hw := next64 (i := i) (by omega)
  obtain ⟨r, hr, hr2⟩ := pp_index p hp hl n (i + 1) (by omega)
  rw [e_F50_1, List.drop_eq_getElem_cons hi]
  simp only [O.lt_int, lt_cast, hi, decide_true, Option.bind_some, O.cnd_bool, if_true, O.index_list, Int.natCast_nonneg, Int.toNat_natCast, List.getElem?_map, List.getElem?_eq_getElem hi, Option.map_some, e_F51_0, pp_step _ (hp _ (List.getElem_mem hi)), O.calls_1, O.not_bool, O.add_int, hw, hr, List.all_cons]
  cases stepOk p[i] with
  | true => exact ⟨r, by simp, by simpa using hr2⟩
  | false => exact ⟨i, by simp, by simp⟩
theorem pp_valid (p : List Stp) (hp : ∀ s ∈ p, s.fits) (hl : p.length ≤ 1099511627776) : W F48 0 [.list (p.map Stp.enc)] = some [.bool (pathOk p)] := by
 obtain ⟨r, hr, hr2⟩ := pp_index p hp hl p.length 0 (by omega)
 have hr' : W F50 0 [.list (p.map Stp.enc)] = some [.int r] := by
  rw [e_F50_0]
  simp only [O.len_list, List.length_map, Option.bind_some]
  exact hr
 rw [e_F48_0]
 simp only [O.len_list, List.length_map, Option.bind_some, O.le_int, O.cnd_bool, e_F49_0, hr', O.calls_1, O.ge_int, hr2, O.not_bool, List.drop_zero, Bool.not_not]
 unfold pathOk
 have : decide ((p.length : Int) ≤ 16) = decide (p.length ≤ 16) := by simp; omega
 rw [this]
 by_cases c : p.length ≤ 16 <;> simp [c]
theorem bld_byte (s : ByteArray) (c : UInt8) (hs : s.size ≤ 1000000) : W F55 0 [.list (bytesIV s), .int c.toNat] = some [.list (bytesIV (s ++ bsL [c]))] := by
 rw [e_F55_0]
 have h : ((bytesIV s).length + [IV.int (c.toNat : Int)].length) * 1 ≤ maxBytes := by rw [O.bytesIV_length]; simp; unfold maxBytes; omega
 simp only [e_F56, O.copyCheckF_list, O.calls_1, O.mklist_eq, Option.bind_some, O.append_list, h, if_true, O.bytesIV_append]
 rfl
theorem bld_str (s t : ByteArray) (hs : s.size ≤ 1000000) (ht : t.size ≤ 1000000) : ∃ n, W F58 0 [.list (bytesIV s), .str t] = some [n, .list (bytesIV (s ++ t))] := by
 rw [e_F58_0]
 have h : (bytesIV s).length + t.size ≤ maxBytes := by rw [O.bytesIV_length]; unfold maxBytes; omega
 simp only [e_F56, O.copyCheckF_list, O.calls_1, O.appendS_str h, Option.bind_some, O.slen_str, O.bytesIV_append]
 exact ⟨_, rfl⟩
theorem bld_rune (s : ByteArray) (c : UInt8) (hc : c.toNat < 128) (hs : s.size ≤ 1000000) : ∃ n, W F61 0 [.list (bytesIV s), .int c.toNat] = some [n, .list (bytesIV (s ++ bsL [c]))] := by
 rw [e_F61_0]
 have h : ((bytesIV s).length + [IV.int (c.toNat : Int)].length) * 1 ≤ maxBytes := by rw [O.bytesIV_length]; simp; unfold maxBytes; omega
 have w1 : IntKind.u32.wrap (c.toNat : Int) = c.toNat := by
  unfold IntKind.wrap
  simp [IntKind.signed, IntKind.bits]
  omega
 have w2 : IntKind.u8.wrap (c.toNat : Int) = c.toNat := by
  unfold IntKind.wrap
  simp [IntKind.signed, IntKind.bits]
  omega
 have w3 : decide ((c.toNat : Int) ≤ 127) = true := by simp; omega
 simp only [e_F56, O.copyCheckF_list, O.calls_1, O.len_list, Option.bind_some, e_F62_0, O.conv_int, w1, w2, O.le_int, w3, O.cnd_bool, if_true, O.mklist_eq, O.append_list, h, O.bytesIV_append, O.sub_int]
 exact ⟨_, rfl⟩
theorem okChar_low {c : UInt8} (h : okChar c = true) : c.toNat < 128 := by
 unfold okChar at h
 simp at h
 omega
theorem pp_quote_1 (s : ByteArray) (hs : s.size ≤ 200) (ho : ∀ c ∈ s.data.toList, okChar c = true) : ∀ (n i : Nat) (o : ByteArray), i + n = s.size → o.size ≤ 1 + 2 * i → W F59 1 [.str s, .int i, .list (bytesIV o)] = some [.str (o ++ bsL ((s.data.toList.drop i).flatMap escB ++ [34]))]
 | 0, i, o, h, ho' => by
  have h1 : ¬ i < s.size := by omega
  have h2 : s.data.toList.drop i = [] := List.drop_of_length_le (by simp; omega)
  have hb := bld_byte o 34 (by omega)
  rw [e_F59_1]
  simp only [O.iterOk_out h1, O.runeAt_out h1, O.iterNext_out h1, Option.bind_some, O.cnd_bool, Bool.false_eq_true, if_false]
  rw [show (IV.int 34) = IV.int ((34 : UInt8).toNat : Int) from rfl, hb]
  simp only [O.calls_1, e_F60, O.stringF_bytes, h2, List.flatMap_nil, List.nil_append]
 | n + 1, i, o, h, ho' => by
  have hi : i < s.size := by omega
  have hc := ho s[i] (by rw [show s[i] = s.data.toList[i]'(by simpa using hi) from rfl]; exact List.getElem_mem _)
  have hlow := okChar_low hc
  have next : ∀ a : List UInt8, a.length ≤ 2 → escB s[i] = a → W F59 3 [.str s, .int ((i + 1 : Nat) : Int), .list (bytesIV (o ++ bsL a))] = some [.str (o ++ bsL ((s.data.toList.drop i).flatMap escB ++ [34]))] := by
   intro a ha he
   rw [e_F59_3]
   rw [pp_quote_1 s hs ho n (i + 1) _ (by omega) (by rw [ByteArray.size_append, bsL_size]; omega), drop_get hi, List.flatMap_cons, he, List.append_assoc, bsL_append a, ByteArray.append_assoc]
  rw [e_F59_1]
  simp only [O.iterOk_in hi, O.runeAt_in hi, O.iterNext_in hi, decode_low hi hlow, Option.bind_some, O.cnd_bool, if_true, O.need_true, O.eq_int]
  have two : s[i].toNat = 34 ∨ s[i].toNat = 92 → W F59 2 [.int s[i].toNat, .int s[i].toNat, .bool true, .str s, .int ((i + 1 : Nat) : Int), .list (bytesIV o)] = some [.str (o ++ bsL ((s.data.toList.drop i).flatMap escB ++ [34]))] := by
   intro h2
   rw [e_F59_2]
   have hb := bld_byte o 92 (by omega)
   obtain ⟨m, hr⟩ := bld_rune (o ++ bsL [92]) s[i] hlow (by rw [ByteArray.size_append, bsL_size]; simp; omega)
   simp only [O.cnd_bool, if_true]
   rw [show (IV.int 92) = IV.int ((92 : UInt8).toNat : Int) from rfl, hb]
   simp only [O.calls_1, hr, O.calls_2]
   rw [ByteArray.append_assoc, ← bsL_append]
   exact next [92, s[i]] (by simp) (by unfold escB; rw [if_neg (by omega), if_pos h2])
  by_cases c1 : s[i].toNat = 34
  ·have c1' : decide ((s[i].toNat : Int) = 34) = true := by simp; omega
   simp only [c1', if_true]
   exact two (.inl c1)
  ·have c1' : decide ((s[i].toNat : Int) = 34) = false := by simp; omega
   simp only [c1', Bool.false_eq_true, if_false]
   by_cases c2 : s[i].toNat = 92
   ·have c2' : decide ((s[i].toNat : Int) = 92) = true := by simp; omega
    simp only [c2']
    exact two (.inr c2)
   ·have c2' : decide ((s[i].toNat : Int) = 92) = false := by simp; omega
    simp only [c2']
    rw [e_F59_2]
    simp only [O.cnd_bool, Bool.false_eq_true, if_false, O.eq_int, Option.bind_some]
    by_cases c3 : s[i].toNat = 10
    ·have c3' : decide ((s[i].toNat : Int) = 10) = true := by simp; omega
     simp only [c3', if_true]
     obtain ⟨m, hr⟩ := bld_str o (bsL [92, 110]) (by omega) (by rw [bsL_size]; simp)
     rw [show (ByteArray.mk #[92, 110]) = bsL [92, 110] from rfl]
     simp only [hr, O.calls_2]
     exact next [92, 110] (by simp) (by unfold escB; rw [if_pos c3])
    ·have c3' : decide ((s[i].toNat : Int) = 10) = false := by simp; omega
     simp only [c3', Bool.false_eq_true, if_false]
     obtain ⟨m, hr⟩ := bld_rune o s[i] hlow (by omega)
     simp only [hr, O.calls_2]
     exact next [s[i]] (by simp) (by unfold escB; rw [if_neg c3, if_neg (by omega)])
theorem pp_quote (s : ByteArray) (h : okStr s = true) : W F59 0 [.str s] = some [.str (quoteB s)] := by
 have hs := okStr_size h
 unfold okStr at h
 simp only [Bool.and_eq_true, List.all_eq_true] at h
 rw [e_F59_0]
 have hb := bld_byte emptyB 34 (by decide)
 rw [show (IV.list []) = IV.list (bytesIV emptyB) from rfl, show (IV.int 34) = IV.int ((34 : UInt8).toNat : Int) from rfl, hb]
 simp only [O.calls_1, emptyB_append]
 rw [show (IV.int 0) = IV.int ((0 : Nat) : Int) from rfl, pp_quote_1 s hs h.1 s.size 0 _ (by omega) (by rw [bsL_size]; simp), ← bsL_append]
 rfl
theorem pp_print_1 (p : List Stp) (hp : ∀ s ∈ p, stepOk s = true) (hl : p.length ≤ 16) : ∀ (n i : Nat) (o : ByteArray), i + n = p.length → o.size ≤ 500 * i → W F47 1 [.list (p.map Stp.enc), .int p.length, .int i, .list (bytesIV o)] = some [.str (o ++ stepsB (decide (i = 0)) (p.drop i)), .int 0]
 | 0, i, o, h, ho => by
  have h1 : ¬ i < p.length := by omega
  have h2 : p.drop i = [] := List.drop_of_length_le (by omega)
  rw [e_F47_1]
  simp only [Option.bind_some, O.lt_int, lt_cast, h1, decide_false, O.cnd_bool, Bool.false_eq_true, if_false, h2, stepsB, append_emptyB, e_F60, O.stringF_bytes, O.calls_1]
 | n + 1, i, o, h, ho => by
  have hi : i < p.length := by omega
  have hw := next64 (i := i) (by omega)
  have hok := hp _ (List.getElem_mem hi)
  obtain ⟨g1, g2, g3, g4, g5⟩ := stepOk_sizes hok
  have e : ∀ c : UInt8, (bsL [c]).size = 1 := fun c => by rw [bsL_size]; rfl
  have next : ∀ t : ByteArray, stepB (decide (i = 0)) p[i] = t → W F47 3 [.list (p.map Stp.enc), .int p.length, .int i, .list (bytesIV (o ++ t))] = some [.str (o ++ stepsB (decide (i = 0)) (p.drop i)), .int 0] := by
   intro t ht
   have hz : (stepB (decide (i = 0)) p[i]).size ≤ 500 := stepB_size hok
   rw [e_F47_3]
   simp only [O.add_int, hw, Option.bind_some]
   rw [pp_print_1 p hp hl n (i + 1) (o ++ t) (by omega) (by rw [ByteArray.size_append, ← ht]; omega), List.drop_eq_getElem_cons hi, stepsB, ht, ByteArray.append_assoc]
   rfl
  rw [e_F47_1]
  simp only [Option.bind_some, O.lt_int, lt_cast, hi, decide_true, O.cnd_bool, if_true, O.index_list, Int.natCast_nonneg, Int.toNat_natCast, List.getElem?_map, List.getElem?_eq_getElem hi, Option.map_some, Stp.proj0, Stp.proj1, Stp.proj2, Stp.proj3, O.eq_int, O.gt_int]
  rw [show (ByteArray.mk #[91]) = bsL [91] from rfl, show (ByteArray.mk #[93]) = bsL [93] from rfl, show (ByteArray.mk #[61]) = bsL [61] from rfl, show (IV.int 46) = IV.int ((46 : UInt8).toNat : Int) from rfl]
  rcases g5 with k1 | k2 | k3
  ·simp only [k1, decide_true, if_true]
   by_cases hz : i = 0
   ·have hz' : ¬ (0 : Int) < i := by omega
    obtain ⟨m, hr⟩ := bld_str o p[i].nm (by omega) (by omega)
    simp only [hz', decide_false, Bool.false_eq_true, if_false]
    rw [e_F47_2]
    simp only [Stp.proj1, Option.bind_some, hr, O.calls_2]
    exact next _ (by unfold stepB; rw [if_neg (by omega), if_neg (by omega), if_pos (by simpa using hz)])
   ·have hz' : (0 : Int) < i := by omega
    obtain ⟨m, hr⟩ := bld_str (o ++ bsL [46]) p[i].nm (by rw [ByteArray.size_append, e]; omega) (by omega)
    simp only [hz', decide_true, if_true, bld_byte o 46 (by omega), O.calls_1]
    rw [e_F47_2]
    simp only [Stp.proj1, Option.bind_some, hr, O.calls_2, ByteArray.append_assoc]
    exact next _ (by unfold stepB; rw [if_neg (by omega), if_neg (by omega), if_neg (by simpa using hz)])
  ·obtain ⟨x, hx⟩ := Int.eq_ofNat_of_zero_le (g3 k2).1
   have hx2 := (g3 k2).2
   rw [hx] at hx2
   have hd : W F57 0 [.int p[i].ix] = some [.str (O.itoaB p[i].ix.toNat)] := by
    rw [e_F57, hx, O.itoa_fun x (by omega)]; rfl
   have hd2 := itoaB_size p[i].ix.toNat
   have k1 : decide (p[i].k = 1) = false := by rw [k2]; rfl
   simp only [k1, k2, decide_true, Bool.false_eq_true, if_false, if_true, hd, O.calls_1]
   rw [cat_ok (by rw [e]; omega) (by omega)]
   simp only [Option.bind_some]
   rw [cat_ok (by rw [ByteArray.size_append, e]; omega) (by rw [e]; omega)]
   obtain ⟨m, hr⟩ := bld_str o (bsL [91] ++ O.itoaB p[i].ix.toNat ++ bsL [93]) (by omega) (by rw [ByteArray.size_append, ByteArray.size_append, e, e]; omega)
   simp only [Option.bind_some, hr, O.calls_2]
   exact next _ (by unfold stepB; rw [if_pos k2])
  ·have hd := pp_quote p[i].vl (g4 k3)
   have hd2 := quoteB_size p[i].vl
   have k1 : decide (p[i].k = 1) = false := by rw [k3]; rfl
   have k2 : decide (p[i].k = 2) = false := by rw [k3]; rfl
   simp only [k1, k2, k3, decide_true, Bool.false_eq_true, if_false, if_true]
   rw [cat_ok (by rw [e]; omega) (by omega)]
   simp only [Option.bind_some]
   rw [cat_ok (by rw [ByteArray.size_append, e]; omega) (by rw [e]; omega)]
   simp only [Option.bind_some, hd, O.calls_1]
   rw [cat_ok (by rw [ByteArray.size_append, ByteArray.size_append, e, e]; omega) (by omega)]
   simp only [Option.bind_some]
   rw [cat_ok (by rw [ByteArray.size_append, ByteArray.size_append, ByteArray.size_append, e, e]; omega) (by rw [e]; omega)]
   obtain ⟨m, hr⟩ := bld_str o (bsL [91] ++ p[i].nm ++ bsL [61] ++ quoteB p[i].vl ++ bsL [93]) (by omega) (by simp only [ByteArray.size_append, e]; omega)
   simp only [Option.bind_some, hr, O.calls_2]
   exact next _ (by unfold stepB; rw [if_neg (by omega), if_pos k3])
theorem pp_print (p : List Stp) (hp : ∀ s ∈ p, s.fits) (hl : p.length ≤ 1099511627776) : W F47 0 [.list (p.map Stp.enc)] = some [.str (printB p), .int (printE p)] := by
 rw [e_F47_0]
 unfold printB printE
 cases hb : pathOk p with
 | false => simp only [pp_valid p hp hl, hb, O.calls_1, O.not_bool, Option.bind_some, Bool.not_false, O.cnd_bool, if_true]; rfl
 | true =>
  simp only [pp_valid p hp hl, hb, O.calls_1, O.not_bool, Option.bind_some, Bool.not_true, O.cnd_bool, Bool.false_eq_true, if_false, if_true, O.len_list, List.length_map]
  unfold pathOk at hb
  simp only [Bool.and_eq_true, decide_eq_true_eq, List.all_eq_true] at hb
  have := pp_print_1 p hb.1 hb.2 p.length 0 emptyB (by omega) (Nat.le_refl _)
  rw [emptyB_append] at this
  exact this
end Go.CT.Sch
namespace Go.CT.Sch
open Go.Proofs
def zeroVal : Val := ⟨0, 0, emptyB, [], []⟩
def getIV (o : Option Val) : List IV := [.int (o.getD zeroVal).k, .int (o.getD zeroVal).n, .str (o.getD zeroVal).s, .list ((o.getD zeroVal).l.map Val.enc), .list ((o.getD zeroVal).f.map Fld.enc), .bool o.isSome]
theorem app_ok {n b : Nat} (hn : n ≤ 1099511627776) (hb : b ≤ 127) : n * b ≤ maxBytes := by
 have : n * b ≤ 1099511627776 * 127 := Nat.mul_le_mul hn hb
 unfold maxBytes; omega
def putL (p : ByteArray × Val) : Bool → List (ByteArray × Val) → List (ByteArray × Val)
 | done, [] => if done then [] else [p]
 | done, x :: xs => (if !done && !blt x.1 p.1 then [p] else []) ++ (if x.1 = p.1 then [] else [x]) ++ putL p (done || !blt x.1 p.1) xs
theorem putL_len (p : ByteArray × Val) : ∀ (l : List (ByteArray × Val)) (d : Bool), (putL p d l).length ≤ l.length + 1
 | [], d => by cases d <;> simp [putL]
 | x :: xs, true => by
  simp only [putL, Bool.not_true, Bool.false_and, Bool.false_eq_true, if_false, List.nil_append, Bool.true_or, List.length_append]
  have : (putL p true xs).length ≤ xs.length := by
   have key : ∀ l, (putL p true l).length ≤ l.length := by
    intro l
    induction l with
    | nil => simp [putL]
    | cons y ys ih =>
     simp only [putL, Bool.not_true, Bool.false_and, Bool.false_eq_true, if_false, List.nil_append, Bool.true_or, List.length_append, List.length_cons]
     split <;> simp <;> omega
   exact key xs
  split <;> simp <;> omega
 | x :: xs, false => by
  have h1 := putL_len p xs true
  have h2 := putL_len p xs false
  have key : ∀ l, (putL p true l).length ≤ l.length := by
   intro l
   induction l with
   | nil => simp [putL]
   | cons y ys ih =>
    simp only [putL, Bool.not_true, Bool.false_and, Bool.false_eq_true, if_false, List.nil_append, Bool.true_or, List.length_append, List.length_cons]
    split <;> simp <;> omega
  have h3 := key xs
  simp only [putL, Bool.not_false, Bool.true_and, Bool.false_or, List.length_append, List.length_cons]
  cases blt x.1 p.1 <;> simp <;> split <;> simp <;> omega
def mapL (l : List (ByteArray × Val)) : List (ByteArray × Val) := l.foldl (fun acc p => putL p false acc) []
theorem massFs_filter (q : ByteArray × Val → Bool) : ∀ l : List (ByteArray × Val), massFs (l.filter q) ≤ massFs l
 | [] => by simp
 | p :: l => by
  have := massFs_filter q l
  rw [List.filter_cons]
  split
  ·rw [massFs_cons, massFs_cons]; omega
  ·rw [massFs_cons]; omega
end Go.CT.Sch
namespace Go.CT.Sch
open Go.Proofs
theorem ref_count_2 (v : Val) (hv : v.mass ≤ 1099511627776) (ih : ∀ p ∈ v.f, ∀ c d : Int, c ≤ 100000 → -1099511627776 ≤ d → d ≤ 100000 → ∃ r : Int, W F3 0 [p.2.enc, .int c, .int d] = some [.int r] ∧ r ≤ 100000) (d : Int) (hd : -1000000000000 ≤ d ∧ d ≤ 100000) : ∀ (n i : Nat) (c : Int), i + n = v.f.length → c ≤ 100000 →
  ∃ r : Int, W F3 2 [.int c, .int d, .int i, v.enc] = some [.int r] ∧ r ≤ 100000
 | 0, i, c, h, hc => by
  rw [e_F3_2]
  have h1 : ¬ i < v.f.length := by omega
  exact ⟨c, by simp [h1], hc⟩
 | n + 1, i, c, h, hc => by
  have hi : i < v.f.length := by omega
  have hm := v.mass_len_f
  have hw := next64 (i := i) (by omega)
  have hw2 : IntKind.i64.wrap (d - 1) = d - 1 := wrap64 (by omega) (by omega)
  obtain ⟨r, hr, hr2⟩ := ih _ (List.getElem_mem hi) c (d - 1) hc (by omega) (by omega)
  obtain ⟨r', hr', hr2'⟩ := ref_count_2 v hv ih d hd n (i + 1) r (by omega) hr2
  rw [e_F3_2]
  by_cases c1 : 0 ≤ c
  ·by_cases c2 : (1000 : Int) < v.f[i].1.size
   ·exact ⟨-1, by simp [hi, c1, c2], by omega⟩
   ·exact ⟨r', by simp only [Val.proj4, Option.bind_some, O.len_list, List.length_map, O.lt_int, lt_cast, hi, decide_true, O.cnd_bool, if_true, O.ge_int, c1, O.index_list, Int.natCast_nonneg, Int.toNat_natCast, List.getElem?_map, List.getElem?_eq_getElem hi, Option.map_some, Fld.proj0, O.slen_str, O.gt_int, c2, decide_false, Bool.false_eq_true, if_false, Fld.projV, O.sub_int, hw2, hr, O.calls_1, O.add_int, hw, hr'], hr2'⟩
  ·exact ⟨c, by simp [hi, c1], hc⟩
theorem ref_count_1 (v : Val) (hv : v.mass ≤ 1099511627776) (ih : ∀ x ∈ v.l, ∀ c d : Int, c ≤ 100000 → -1099511627776 ≤ d → d ≤ 100000 → ∃ r : Int, W F3 0 [x.enc, .int c, .int d] = some [.int r] ∧ r ≤ 100000) (d : Int) (hd : -1000000000000 ≤ d ∧ d ≤ 100000) : ∀ (n i : Nat) (c : Int), i + n = v.l.length → c ≤ 100000 →
  ∃ r : Int, W F3 1 [.int c, .int d, .int i, v.enc] = W F3 2 [.int r, .int d, .int 0, v.enc] ∧ r ≤ 100000
 | 0, i, c, h, hc => by
  rw [e_F3_1]
  have h1 : ¬ i < v.l.length := by omega
  exact ⟨c, by simp [h1], hc⟩
 | n + 1, i, c, h, hc => by
  have hi : i < v.l.length := by omega
  have hm := v.mass_len_l
  have hw := next64 (i := i) (by omega)
  have hw2 : IntKind.i64.wrap (d - 1) = d - 1 := wrap64 (by omega) (by omega)
  obtain ⟨r, hr, hr2⟩ := ih _ (List.getElem_mem hi) c (d - 1) hc (by omega) (by omega)
  obtain ⟨r', hr', hr2'⟩ := ref_count_1 v hv ih d hd n (i + 1) r (by omega) hr2
  rw [e_F3_1]
  by_cases c1 : 0 ≤ c
  ·exact ⟨r', by simp only [Val.proj3, Option.bind_some, O.len_list, List.length_map, O.lt_int, lt_cast, hi, decide_true, O.cnd_bool, if_true, O.ge_int, c1, O.index_list, Int.natCast_nonneg, Int.toNat_natCast, List.getElem?_map, List.getElem?_eq_getElem hi, Option.map_some, O.sub_int, hw2, hr, O.calls_1, O.add_int, hw, hr'], hr2'⟩
  ·exact ⟨c, by simp [hi, c1], hc⟩
theorem ref_count : ∀ v : Val, v.mass ≤ 1099511627776 → ∀ c d : Int, c ≤ 100000 → -1099511627776 ≤ d → d ≤ 100000 → ∃ r : Int, W F3 0 [v.enc, .int c, .int d] = some [.int r] ∧ r ≤ 100000 := by
 refine Val.ind fun v ih1 ih2 hv c d hc hd hd2 => ?_
 rw [e_F3_0]
 by_cases c1 : c ≤ 0
 ·exact ⟨-1, by simp [c1], by omega⟩
 ·by_cases c2 : d ≤ 0
  ·exact ⟨-1, by simp [c1, c2], by omega⟩
  ·by_cases c3 : (1000 : Int) < v.s.size
   ·exact ⟨-1, by simp [c1, c2, c3], by omega⟩
   ·have hw : IntKind.i64.wrap (c - 1) = c - 1 := wrap64 (by omega) (by omega)
    obtain ⟨r, h1, h2⟩ := ref_count_1 v hv (fun x hx => ih1 x hx (by have := Val.mass_l hx; omega)) d (by omega) v.l.length 0 (c - 1) (by omega) (by omega)
    obtain ⟨r', h1', h2'⟩ := ref_count_2 v hv (fun p hp => ih2 p hp (by have := Val.mass_f hp; omega)) d (by omega) v.f.length 0 r (by omega) h2
    simp only [Int.cast_ofNat_Int] at h1 h1'
    exact ⟨r', by simp [c1, c2, c3, hw, h1, h1'], h2'⟩
theorem ref_order (a b : Bool) : W F127 0 [.bool a, .bool b] = some [.int (if a then -1 else if b then 1 else 0)] := by
 rw [e_F127_0]; cases a <;> cases b <;> rfl
theorem ord_int (a b : Int) : (if decide (a < b) = true then (-1 : Int) else if decide (b < a) = true then 1 else 0) = 0 ↔ a = b := by
 by_cases h1 : a < b
 ·simp [h1]; omega
 ·by_cases h2 : b < a
  ·simp [h1, h2]; omega
  ·simp [h1, h2]; omega
theorem ord_str (a b : ByteArray) : (if blt a b = true then (-1 : Int) else if blt b a = true then 1 else 0) = 0 ↔ a = b := by
 rcases blt_total a b with h | rfl | h
 ·simp [h]; exact blt_ne h
 ·simp [blt_irrefl]
 ·have := blt_asymm h
  simp [h, this]
  exact fun e => blt_ne h e.symm
theorem cmp_5 (a b : Val) (ha : Wide 1099511627776 a) (hb : Wide 1099511627776 b) (ih : ∀ p ∈ a.f, ∀ y : Val, Wide 1099511627776 y → ∃ c : Int, W F126 0 [p.2.enc, y.enc] = some [.int c] ∧ (c = 0 ↔ p.2 = y)) : ∀ (n i : Nat) (c : Int), i + n = a.f.length → i ≤ b.f.length →
  ∃ c' : Int, W F126 5 [.int c, .int i, a.enc, b.enc] = some [.int c'] ∧ (c' = 0 ↔ c = 0 ∧ a.f.drop i = b.f.drop i)
 | n, i, c, h, hib => by
  have hma := ha.len_f
  have hmb := hb.len_f
  rw [e_F126_5]
  by_cases hc : c = 0
  ·subst hc
   by_cases h1 : i < a.f.length
   ·by_cases h2 : i < b.f.length
    ·obtain ⟨m, rfl⟩ : ∃ m, n = m + 1 := ⟨n - 1, by omega⟩
     have hw := next64 (i := i) (by omega)
     have hmem := List.getElem_mem h2
     obtain ⟨c1, q1, q2⟩ := ih _ (List.getElem_mem h1) b.f[i].2 (hb.mem_f hmem)
     have hn := ord_str a.f[i].1 b.f[i].1
     have hd : (a.f.drop i = b.f.drop i) ↔ (a.f[i].1 = b.f[i].1 ∧ a.f[i].2 = b.f[i].2 ∧ a.f.drop (i + 1) = b.f.drop (i + 1)) := by
      rw [List.drop_eq_getElem_cons h1, List.drop_eq_getElem_cons h2]
      simp only [List.cons.injEq, Prod.ext_iff, and_assoc]
     simp only [Val.proj4, Option.bind_some, O.len_list, List.length_map, O.lt_int, lt_cast, h1, h2, decide_true, O.cnd_bool, if_true, O.eq_int, O.index_list, Int.natCast_nonneg, Int.toNat_natCast, List.getElem?_map, List.getElem?_eq_getElem h1, List.getElem?_eq_getElem h2, Option.map_some, Fld.proj0, Fld.projV, sLt_blt, sGt_blt, ref_order, O.calls_1, hd]
     generalize (if blt a.f[i].1 b.f[i].1 = true then (-1 : Int) else if blt b.f[i].1 a.f[i].1 = true then 1 else 0) = o at hn
     by_cases ho : o = 0
     ·obtain ⟨c', r1, r2⟩ := cmp_5 a b ha hb ih m (i + 1) c1 (by omega) (by omega)
      refine ⟨c', by simp only [ho, decide_true, if_true, q1, O.calls_1, e_F126_6, O.add_int, hw, Option.bind_some, r1], ?_⟩
      rw [r2, q2]
      have := hn.1 ho
      simp [this]
     ·obtain ⟨c', r1, r2⟩ := cmp_5 a b ha hb ih m (i + 1) o (by omega) (by omega)
      refine ⟨c', by simp only [ho, decide_false, Bool.false_eq_true, if_false, e_F126_6, O.add_int, hw, Option.bind_some, r1], ?_⟩
      rw [r2]
      have : ¬ a.f[i].1 = b.f[i].1 := fun e => ho (hn.2 e)
      simp [ho, this]
    ·have hi : i = b.f.length := by omega
     have hne : ¬ a.f.length = b.f.length := by omega
     refine ⟨1, ?_, by
      have : ¬ a.f.drop i = b.f.drop i := fun e => by
       have := congrArg List.length e
       simp at this; omega
      simp [this]⟩
     have g1 : ¬ (a.f.length : Int) < b.f.length := by omega
     have g2 : (b.f.length : Int) < a.f.length := by omega
     simp [h1, h2, g1, g2, ref_order]
   ·have hi : i = a.f.length := by omega
    refine ⟨_, by simp only [Val.proj4, Option.bind_some, O.len_list, List.length_map, O.lt_int, lt_cast, h1, decide_false, O.cnd_bool, Bool.false_eq_true, if_false, O.eq_int, decide_true, if_true, ref_order, O.calls_1, O.gt_int]; rfl, ?_⟩
    have e1 : a.f.drop i = [] := List.drop_of_length_le (by omega)
    rw [e1]
    by_cases g : a.f.length = b.f.length
    ·have : b.f.drop i = [] := List.drop_of_length_le (by omega)
     simp [g, this]
    ·have g2 : a.f.length < b.f.length := by omega
     have : ¬ [] = b.f.drop i := fun e => by
      have := congrArg List.length e
      simp at this; omega
     simp [g2, this]
  ·refine ⟨c, ?_, by simp [hc]⟩
   by_cases h1 : i < a.f.length <;> by_cases h2 : i < b.f.length <;> simp [h1, h2, hc]
theorem cmp_3 (a b : Val) (ha : Wide 1099511627776 a) (hb : Wide 1099511627776 b) (ih : ∀ x ∈ a.l, ∀ y : Val, Wide 1099511627776 y → ∃ c : Int, W F126 0 [x.enc, y.enc] = some [.int c] ∧ (c = 0 ↔ x = y)) : ∀ (n i : Nat) (c : Int), i + n = a.l.length → i ≤ b.l.length →
  ∃ c' : Int, W F126 3 [.int c, .int i, a.enc, b.enc] = W F126 4 [.int c', a.enc, b.enc] ∧ (c' = 0 ↔ c = 0 ∧ a.l.drop i = b.l.drop i)
 | n, i, c, h, hib => by
  have hma := ha.len_l
  have hmb := hb.len_l
  rw [e_F126_3]
  by_cases hc : c = 0
  ·subst hc
   by_cases h1 : i < a.l.length
   ·by_cases h2 : i < b.l.length
    ·obtain ⟨m, rfl⟩ : ∃ m, n = m + 1 := ⟨n - 1, by omega⟩
     have hw := next64 (i := i) (by omega)
     obtain ⟨c1, q1, q2⟩ := ih _ (List.getElem_mem h1) b.l[i] (hb.mem_l (List.getElem_mem h2))
     have hd : (a.l.drop i = b.l.drop i) ↔ (a.l[i] = b.l[i] ∧ a.l.drop (i + 1) = b.l.drop (i + 1)) := by
      rw [List.drop_eq_getElem_cons h1, List.drop_eq_getElem_cons h2]
      simp only [List.cons.injEq]
     obtain ⟨c', r1, r2⟩ := cmp_3 a b ha hb ih m (i + 1) c1 (by omega) (by omega)
     refine ⟨c', by simp only [Val.proj3, Option.bind_some, O.len_list, List.length_map, O.lt_int, lt_cast, h1, h2, decide_true, O.cnd_bool, if_true, O.eq_int, O.index_list, Int.natCast_nonneg, Int.toNat_natCast, List.getElem?_map, List.getElem?_eq_getElem h1, List.getElem?_eq_getElem h2, Option.map_some, q1, O.calls_1, O.add_int, hw, r1], ?_⟩
     rw [r2, q2, hd]; simp
    ·refine ⟨1, ?_, by
      have : ¬ a.l.drop i = b.l.drop i := fun e => by
       have := congrArg List.length e
       simp at this; omega
      simp [this]⟩
     have g1 : ¬ (a.l.length : Int) < b.l.length := by omega
     have g2 : (b.l.length : Int) < a.l.length := by omega
     simp [h1, h2, g1, g2, ref_order]
   ·have hi : i = a.l.length := by omega
    refine ⟨_, by simp only [Val.proj3, Option.bind_some, O.len_list, List.length_map, O.lt_int, lt_cast, h1, decide_false, O.cnd_bool, Bool.false_eq_true, if_false, O.eq_int, decide_true, if_true, ref_order, O.calls_1, O.gt_int]; rfl, ?_⟩
    have e1 : a.l.drop i = [] := List.drop_of_length_le (by omega)
    rw [e1]
    by_cases g : a.l.length = b.l.length
    ·have : b.l.drop i = [] := List.drop_of_length_le (by omega)
     simp [g, this]
    ·have g2 : a.l.length < b.l.length := by omega
     have : ¬ [] = b.l.drop i := fun e => by
      have := congrArg List.length e
      simp at this; omega
     simp [g2, this]
  ·refine ⟨c, ?_, by simp [hc]⟩
   by_cases h1 : i < a.l.length <;> by_cases h2 : i < b.l.length <;> simp [h1, h2, hc]
theorem ref_cmpW : ∀ a : Val, Wide 1099511627776 a → ∀ b : Val, Wide 1099511627776 b → ∃ c : Int, W F126 0 [a.enc, b.enc] = some [.int c] ∧ (c = 0 ↔ a = b) := by
 refine Val.ind fun a ih1 ih2 ha b hb => ?_
 have h3 := fun c => cmp_3 a b ha hb (fun x hx => ih1 x hx (ha.mem_l hx)) a.l.length 0 c (by omega) (Nat.zero_le _)
 have h5 := fun c => cmp_5 a b ha hb (fun p hp => ih2 p hp (ha.mem_f hp)) a.f.length 0 c (by omega) (Nat.zero_le _)
 simp only [List.drop_zero, Int.cast_ofNat_Int] at h3 h5
 have hab : a = b ↔ a.k = b.k ∧ a.n = b.n ∧ a.s = b.s ∧ a.l = b.l ∧ a.f = b.f := by
  cases a; cases b; simp
 -- from the lists on
 have rest : ∀ c : Int, ∃ c' : Int, W F126 2 [.int c, a.enc, b.enc] = some [.int c'] ∧ (c' = 0 ↔ c = 0 ∧ a.l = b.l ∧ a.f = b.f) := by
  intro c
  obtain ⟨c1, q1, q2⟩ := h3 c
  obtain ⟨c2, r1, r2⟩ := h5 c1
  refine ⟨c2, by rw [e_F126_2, q1, e_F126_4, r1], by rw [r2, q2, and_assoc]⟩
 have text : ∀ c : Int, ∃ c' : Int, W F126 1 [.int c, a.enc, b.enc] = some [.int c'] ∧ (c' = 0 ↔ c = 0 ∧ a.s = b.s ∧ a.l = b.l ∧ a.f = b.f) := by
  intro c
  rw [e_F126_1]
  by_cases hc : c = 0
  ·have hs := ord_str a.s b.s
   obtain ⟨c', q1, q2⟩ := rest (if blt a.s b.s = true then (-1 : Int) else if blt b.s a.s = true then 1 else 0)
   refine ⟨c', by simp only [O.eq_int, hc, decide_true, Option.bind_some, O.cnd_bool, if_true, Val.proj2, sLt_blt, sGt_blt, ref_order, O.calls_1, q1], ?_⟩
   rw [q2, hs]; simp [hc]
  ·obtain ⟨c', q1, q2⟩ := rest c
   refine ⟨c', by simp only [O.eq_int, hc, decide_false, Option.bind_some, O.cnd_bool, Bool.false_eq_true, if_false, q1], ?_⟩
   rw [q2]; simp [hc]
 rw [e_F126_0]
 have hk := ord_int a.k b.k
 have hn := ord_int a.n b.n
 simp only [Val.proj0, Val.proj1, Option.bind_some, O.lt_int, O.gt_int, ref_order, O.calls_1, O.eq_int, O.cnd_bool]
 generalize (if decide (a.k < b.k) = true then (-1 : Int) else if decide (b.k < a.k) = true then 1 else 0) = o at hk
 generalize (if decide (a.n < b.n) = true then (-1 : Int) else if decide (b.n < a.n) = true then 1 else 0) = o2 at hn
 by_cases ho : o = 0
 ·obtain ⟨c', q1, q2⟩ := text o2
  refine ⟨c', by simp only [ho, decide_true, if_true, q1], ?_⟩
  rw [q2, hn, hab]
  have := hk.1 ho
  simp [this]
 ·obtain ⟨c', q1, q2⟩ := text o
  refine ⟨c', by simp only [ho, decide_false, Bool.false_eq_true, if_false, q1], ?_⟩
  rw [q2, hab]
  have : ¬ a.k = b.k := fun e => ho (hk.2 e)
  simp [ho, this]
open Classical in
theorem ref_equalW (a b : Val) (ha : Wide 1099511627776 a) (hb : Wide 1099511627776 b) : W F125 0 [a.enc, b.enc] = some [.bool (decide (a = b))] := by
 obtain ⟨c, h1, h2⟩ := ref_cmpW a ha b hb
 rw [e_F125_0]
 simp only [h1, O.calls_1, O.eq_int, Option.bind_some]
 congr 3
 simp only [h2]
open Classical in
theorem ref_equal (a b : Val) (ha : a.mass ≤ 1099511627776) (hb : b.mass ≤ 1099511627776) : W F125 0 [a.enc, b.enc] = some [.bool (decide (a = b))] := ref_equalW a b (wide_mass a (by omega)) (wide_mass b (by omega))
end Go.CT.Sch
namespace Go.CT.Sch
open Go.Proofs
def fltB (x y : ByteArray × Val) : Bool := blt x.1 y.1
theorem cmpB : ∀ (a b : List UInt8), decide (Lib.compareBytes a b < 0) = Op.bytesLess a b
 | [], [] => rfl
 | [], _ :: _ => by simp [Lib.compareBytes, Op.bytesLess]
 | _ :: _, [] => by simp [Lib.compareBytes, Op.bytesLess]
 | a :: x, b :: y => by
  simp only [Lib.compareBytes, Op.bytesLess]
  by_cases h1 : a < b
  ·simp [h1]
  ·by_cases h2 : b < a
   ·have : ¬ a = b := fun e => by subst e; exact h1 h2
    simp [h1, h2, this]
   ·have : a = b := by
     have h1' : ¬ a.toNat < b.toNat := fun h => h1 (UInt8.lt_iff_toNat_lt.2 h)
     have h2' : ¬ b.toNat < a.toNat := fun h => h2 (UInt8.lt_iff_toNat_lt.2 h)
     exact UInt8.toNat_inj.1 (by omega)
    subst this
    simp [h1, cmpB x y]
theorem fcmp (x y : ByteArray × Val) : ∃ c : Int, W F35 0 [Fld.enc x, Fld.enc y] = some [.int c] ∧ (decide (c < 0) = fltB x y) := by
 refine ⟨Lib.compareBytes x.1.data.toList y.1.data.toList, ?_, cmpB _ _⟩
 rw [e_F35_0]
 simp [e_F36_0, e_F37_0, e_F38, O.compareF]
theorem ford : Srt.Ord fltB where
 irr x := blt_irrefl _
 tr x y z h k := blt_trans h k
 neg x y z h := by
  rcases blt_total x.1 y.1 with h1 | h1 | h1
  ·exact .inl h1
  ·right; unfold fltB at h ⊢; rw [← h1]; exact h
  ·right; exact blt_trans h1 h
noncomputable def feqs : Srt.Eqs Fld.enc fltB 6 true where
 S b xs := W F32 b xs
 B b xs := W F33 b xs
 I b xs := W F34 b xs
 M b xs := W F39 b xs
 R b xs := W F40 b xs
 X b xs := W F41 b xs
 C xs := W F35 0 xs
 cmp := fcmp
 s0 := by intros; exact V_is rfl (by kernel_rfl)
 b0 := by intros; exact V_is rfl (by kernel_rfl)
 b1 := by intros; exact V_is rfl (by kernel_rfl)
 b2 := by intros; exact V_is rfl (by kernel_rfl)
 b3 := by intros; exact V_is rfl (by kernel_rfl)
 b4 := by intros; exact V_is rfl (by kernel_rfl)
 i0 := by intros; exact V_is rfl (by kernel_rfl)
 i1 := by intros; exact V_is rfl (by kernel_rfl)
 i2 := by intros; exact V_is rfl (by kernel_rfl)
 x0 := by intros; exact V_is rfl (by kernel_rfl)
 x1 := by intros; exact V_is rfl (by kernel_rfl)
 r0 := by intros; exact V_is rfl (by kernel_rfl)
 r1 := by intros; exact V_is rfl (by kernel_rfl)
 r2 := by intros; exact V_is rfl (by kernel_rfl)
 m0 := by intros; exact V_is rfl (by kernel_rfl)
 m1 := by intros; exact V_is rfl (by kernel_rfl)
 m2 := by intros; exact V_is rfl (by kernel_rfl)
 m3 := by intros; exact V_is rfl (by kernel_rfl)
 m4 := by intros; exact V_is rfl (by kernel_rfl)
 m5 := by intros; exact V_is rfl (by kernel_rfl)
 m6 := by intros; exact V_is rfl (by kernel_rfl)
 m7 := by intros; exact V_is rfl (by kernel_rfl)
 m8 := by intros; exact V_is rfl (by kernel_rfl)
 m9 := by intros; exact V_is rfl (by kernel_rfl)
 m10 := by intros; exact V_is rfl (by kernel_rfl)
 m11 := by intros; exact V_is rfl (by kernel_rfl)
end Go.CT.Sch
namespace Go.CT.Sch
open Go.Proofs
theorem cloneF_list {l : List IV} (h : l.length ≤ 1073741824) : O.cloneF [.list l] = some [.list l] := if_pos h
theorem val_clone_2W (v : Val) (hv : Wide 1073741824 v) (y2 y3 y4 y5 y6 y7 y9 : IV) (ih : ∀ p ∈ v.f, W F42 0 [p.2.enc] = some p.2.comps) : ∀ (n i : Nat), i + n = v.f.length →
  W F42 2 [.int v.f.length, .int i, y2, y3, y4, y5, y6, y7, .list (v.f.map Fld.enc), y9] = some [y2, y3, y4, y9, .list (v.f.map Fld.enc)]
 | 0, i, h => by
  rw [e_F42_2]
  have h1 : ¬ i < v.f.length := by omega
  simp only [O.lt_int, lt_cast, h1, decide_false, Option.bind_some, O.cnd_bool, Bool.false_eq_true, if_false]
 | n + 1, i, h => by
  have hi : i < v.f.length := by omega
  have hm := hv.len_f
  have hw := next64 (i := i) (by omega)
  have := val_clone_2W v hv y2 y3 y4 y5 y6 y7 y9 ih n (i + 1) (by omega)
  have hset : O.setAt 1 5 true false (.list (v.f.map Fld.enc)) (.int i) v.f[i].2.enc = some (.list (v.f.map Fld.enc)) := by
   have hg : (v.f.map Fld.enc)[i]? = some (Fld.enc v.f[i]) := by rw [List.getElem?_map, List.getElem?_eq_getElem hi]; rfl
   have hs : (v.f.map Fld.enc).set i (Fld.enc v.f[i]) = v.f.map Fld.enc := by
    rw [← List.map_set, List.set_getElem_self]
   unfold O.setAt
   simp only [Prim.ev, Int.natCast_nonneg, if_true, Int.toNat_natCast, hg, Bool.false_eq_true, if_false]
   rw [v.f[i].2.enc_eq]
   simp only [Fld.enc]
   have hl : v.f[i].2.comps.length = 5 := rfl
   simp only [hl, if_true]
   congr 2
  rw [e_F42_2]
  simp only [O.lt_int, lt_cast, hi, decide_true, Option.bind_some, O.cnd_bool, if_true, O.index_list, Int.natCast_nonneg, Int.toNat_natCast, List.getElem?_map, List.getElem?_eq_getElem hi, Option.map_some, Fld.projV, ih _ (List.getElem_mem hi), Val.comps_eq, O.calls_5, O.mkagg_eq, Val.fold_eta, hset, O.add_int, hw, this]
theorem val_clone_1W (v : Val) (hv : Wide 1073741824 v) (y2 y3 y4 y6 y7 y8 : IV) (ih : ∀ x ∈ v.l, W F42 0 [x.enc] = some x.comps) : ∀ (n i : Nat), i + n = v.l.length →
  W F42 1 [.int v.l.length, .int i, y2, y3, y4, .list (v.f.map Fld.enc), y6, y7, y8, .list (v.l.map Val.enc)] = W F42 2 [.int v.f.length, .int (0 : Nat), y2, y3, y4, y6, y7, y8, .list (v.f.map Fld.enc), .list (v.l.map Val.enc)]
 | 0, i, h => by
  rw [e_F42_1]
  have h1 : ¬ i < v.l.length := by omega
  have h6 := hv.len_f
  have hc : (v.f.map Fld.enc).length ≤ 1073741824 := by rw [List.length_map]; omega
  simp only [O.lt_int, lt_cast, h1, decide_false, Option.bind_some, O.cnd_bool, Bool.false_eq_true, if_false, e_F31, cloneF_list hc, O.calls_1, O.len_list, List.length_map]
  rfl
 | n + 1, i, h => by
  have hi : i < v.l.length := by omega
  have hm := hv.len_l
  have hw := next64 (i := i) (by omega)
  have := val_clone_1W v hv y2 y3 y4 y6 y7 y8 ih n (i + 1) (by omega)
  have hset : O.setAt 0 5 true true (.list (v.l.map Val.enc)) (.int i) v.l[i].enc = some (.list (v.l.map Val.enc)) := by
   rw [show (IV.list (v.l.map Val.enc)) = Srt.LE Val.enc v.l from rfl, Srt.seti Val.enc hi, List.set_getElem_self]
  rw [e_F42_1]
  simp only [O.lt_int, lt_cast, hi, decide_true, Option.bind_some, O.cnd_bool, if_true, O.index_list, Int.natCast_nonneg, Int.toNat_natCast, List.getElem?_map, List.getElem?_eq_getElem hi, Option.map_some, ih _ (List.getElem_mem hi), Val.comps_eq, O.calls_5, O.mkagg_eq, Val.fold_eta, hset, O.add_int, hw, this]
theorem val_cloneW : ∀ v : Val, Wide 1073741824 v → W F42 0 [v.enc] = some v.comps := by
 refine Val.ind fun v ih1 ih2 hv => ?_
 have h1 := val_clone_1W v hv (.int v.k) (.int v.n) (.str v.s) (.int 0) (.int 0) (.str ⟨#[]⟩) (fun x hx => ih1 x hx (hv.mem_l hx)) v.l.length 0 (by omega)
 have h2 := val_clone_2W v hv (.int v.k) (.int v.n) (.str v.s) (.int 0) (.int 0) (.str ⟨#[]⟩) (.list (v.l.map Val.enc)) (fun p hp => ih2 p hp (hv.mem_f hp)) v.f.length 0 (by omega)
 rw [h2] at h1
 rw [e_F42_0]
 have h6 := hv.len_l
 have hc : (v.l.map Val.enc).length ≤ 1073741824 := by rw [List.length_map]; omega
 simp only [Val.proj0, Val.proj1, Val.proj2, Val.proj3, Val.proj4, Option.bind_some, e_F43, cloneF_list hc, O.calls_1, O.len_list, List.length_map]
 rw [Val.comps_eq]
 exact h1
theorem val_get_1W (v : Val) (nm : ByteArray) (hv : Wide 1073741824 v) (y4 y5 y6 : IV) : ∀ (n i : Nat), i + n = v.f.length →
  W F69 1 [.str nm, .list (v.f.map Fld.enc), .int v.f.length, .int i, y4, y5, y6] = some (getIV (((v.f.drop i).find? fun p => decide (p.1 = nm)).map (·.2)))
 | 0, i, h => by
  rw [e_F69_1]
  have h1 : ¬ i < v.f.length := by omega
  simp [h1, List.drop_of_length_le (Nat.le_of_not_lt h1), getIV, zeroVal, emptyB]
 | n + 1, i, h => by
  have hi : i < v.f.length := by omega
  have hm := hv.len_f
  have hw := next64 (i := i) (by omega)
  have := val_get_1W v nm hv y4 y5 y6 n (i + 1) (by omega)
  have hmem := List.getElem_mem hi
  rw [e_F69_1, List.drop_eq_getElem_cons hi]
  simp only [O.lt_int, lt_cast, hi, decide_true, Option.bind_some, O.cnd_bool, if_true, O.index_list, Int.natCast_nonneg, Int.toNat_natCast, List.getElem?_map, List.getElem?_eq_getElem hi, Option.map_some, Fld.proj0, Fld.projV, O.sEq_str, val_cloneW v.f[i].2 (hv.mem_f hmem), Val.comps_eq, O.calls_5, O.add_int, hw, this, List.find?_cons]
  by_cases c : v.f[i].1 = nm
  ·simp [c, getIV]
  ·have c' : decide (v.f[i].1 = nm) = false := by simpa using c
   simp only [c, c', decide_false, Bool.false_eq_true, if_false]
theorem val_getW (v : Val) (nm : ByteArray) (hv : Wide 1073741824 v) : W F69 0 [v.enc, .str nm] = some (getIV (v.get nm)) := by
 rw [e_F69_0]
 unfold Val.get
 have := val_get_1W v nm hv (.int 0) (.int 0) (.str ⟨#[]⟩) v.f.length 0 (by omega)
 simp only [List.drop_zero, Int.cast_ofNat_Int] at this
 simp only [Val.proj0, Val.proj4, Option.bind_some, O.eq_int, O.cnd_bool, O.len_list, List.length_map, this]
 by_cases c : v.k = 5 <;> simp [c, getIV, zeroVal, emptyB]
end Go.CT.Sch
namespace Go.CT.Sch
open Go.Proofs
def noName (nm : ByteArray) (p : ByteArray × Val) : Bool := !decide (p.1 = nm)
def dedup : List (ByteArray × Val) → List (ByteArray × Val)
 | [] => []
 | [p] => [p]
 | p :: q :: r => if q.1 = p.1 then dedup (q :: r) else p :: dedup (q :: r)
def Strict (l : List (ByteArray × Val)) : Prop := l.Pairwise fun a b => blt a.1 b.1 = true
def isName (nm : ByteArray) (p : ByteArray × Val) : Bool := decide (p.1 = nm)
def look (nm : ByteArray) (l : List (ByteArray × Val)) : Option (ByteArray × Val) := (l.filter (isName nm)).getLast?
theorem dedup_mem : ∀ (l : List (ByteArray × Val)) (p : ByteArray × Val), p ∈ dedup l → p ∈ l
 | [], p, h => h
 | [_], p, h => h
 | a :: b :: r, p, h => by
  simp only [dedup] at h
  split at h
  ·exact List.mem_cons_of_mem _ (dedup_mem (b :: r) p h)
  ·rcases List.mem_cons.1 h with rfl | h
   ·simp
   ·exact List.mem_cons_of_mem _ (dedup_mem (b :: r) p h)
theorem blt_of_le {x y : ByteArray} (h : blt y x = false) (hne : ¬ y = x) : blt x y = true := by
 rcases blt_total x y with h1 | h1 | h1
 ·exact h1
 ·exact absurd h1.symm hne
 ·rw [h] at h1; cases h1
theorem blt_le_trans {x y z : ByteArray} (h : blt x y = true) (h2 : blt z y = false) : blt x z = true := by
 rcases blt_total y z with h1 | h1 | h1
 ·exact blt_trans h h1
 ·rw [← h1]; exact h
 ·rw [h2] at h1; cases h1
theorem dedup_strict : ∀ l : List (ByteArray × Val), Srt.Sorted fltB l → Strict (dedup l)
 | [], _ => List.Pairwise.nil
 | [_], _ => List.pairwise_singleton _ _
 | a :: b :: r, h => by
  have h1 := List.pairwise_cons.1 h
  have ih := dedup_strict (b :: r) h1.2
  simp only [dedup]
  split
  ·exact ih
  ·next hne =>
   refine List.pairwise_cons.2 ⟨fun y hy => ?_, ih⟩
   have hab : blt a.1 b.1 = true := blt_of_le (h1.1 b (by simp)) hne
   rcases List.mem_cons.1 (dedup_mem _ _ hy) with rfl | hy
   ·exact hab
   ·exact blt_le_trans hab ((List.pairwise_cons.1 h1.2).1 y hy)
theorem look_cons (nm : ByteArray) (p : ByteArray × Val) (l : List (ByteArray × Val)) : look nm (p :: l) = (look nm l).or (if p.1 = nm then some p else none) := by
 unfold look
 rw [List.filter_cons]
 by_cases c : p.1 = nm
 ·rw [if_pos (by simp [isName, c]), if_pos c]
  generalize l.filter (isName nm) = m
  cases m with
  | nil => rfl
  | cons b r =>
   rw [List.getLast?_cons_cons]
   cases h : (b :: r).getLast? with
   | none => simp at h
   | some x => rfl
 ·rw [if_neg (by simp [isName, c]), if_neg c, Option.or_none]
theorem look_dedup (nm : ByteArray) : ∀ l : List (ByteArray × Val), look nm (dedup l) = look nm l
 | [] => rfl
 | [_] => rfl
 | a :: b :: r => by
  have ih := look_dedup nm (b :: r)
  simp only [dedup]
  split
  ·next e =>
   rw [ih, look_cons nm a (b :: r), look_cons nm b r]
   by_cases c : b.1 = nm
   ·have c2 : a.1 = nm := by rw [← e]; exact c
    simp only [c, c2, if_true]
    cases look nm r <;> rfl
   ·have c2 : ¬ a.1 = nm := by rw [← e]; exact c
    simp only [c2, if_false, Option.or_none]
  ·rw [look_cons nm a, ih, look_cons nm a]
theorem strict_mem {l : List (ByteArray × Val)} (h : Strict l) (p : ByteArray × Val) : p ∈ l ↔ look p.1 l = some p := by
 induction l with
 | nil => simp [look]
 | cons a l ih =>
  have h1 := List.pairwise_cons.1 h
  rw [look_cons, List.mem_cons, ih h1.2]
  by_cases c : a.1 = p.1
  ·have hn : look p.1 l = none := by
    unfold look
    rw [List.getLast?_eq_none_iff, List.filter_eq_nil_iff]
    intro y hy hy2
    simp only [isName, decide_eq_true_eq] at hy2
    have := h1.1 y hy
    rw [c, hy2, blt_irrefl] at this
    cases this
   simp [hn, c, eq_comm]
  ·have : ¬ p = a := fun e => c (by rw [e])
   simp [c, this]
theorem strict_ext {a b : List (ByteArray × Val)} (ha : Strict a) (hb : Strict b) (h : ∀ p, p ∈ a ↔ p ∈ b) : a = b := by
 induction a generalizing b with
 | nil =>
  cases b with
  | nil => rfl
  | cons y b => have := (h y).2 (by simp); simp at this
 | cons x a ih =>
  cases b with
  | nil => have := (h x).1 (by simp); simp at this
  | cons y b =>
   have ha' := List.pairwise_cons.1 ha
   have hb' := List.pairwise_cons.1 hb
   have hxy : x = y := by
    rcases List.mem_cons.1 ((h x).1 (by simp)) with e | hx
    ·exact e
    ·rcases List.mem_cons.1 ((h y).2 (by simp)) with e | hy
     ·exact e.symm
     ·have h1 := hb'.1 x hx
      have h2 := ha'.1 y hy
      rw [blt_asymm h1] at h2; cases h2
   subst hxy
   rw [ih ha'.2 hb'.2]
   intro p
   have := h p
   simp only [List.mem_cons] at this
   constructor
   ·intro hp
    rcases this.1 (.inr hp) with rfl | h
    ·have := ha'.1 p hp; rw [blt_irrefl] at this; cases this
    ·exact h
   ·intro hp
    rcases this.2 (.inr hp) with rfl | h
    ·have := hb'.1 p hp; rw [blt_irrefl] at this; cases this
    ·exact h
theorem strict_look_ext {a b : List (ByteArray × Val)} (ha : Strict a) (hb : Strict b) (h : ∀ nm, look nm a = look nm b) : a = b :=
 strict_ext ha hb fun p => by rw [strict_mem ha, strict_mem hb, h]
theorem putL_true (p : ByteArray × Val) : ∀ l, putL p true l = l.filter (noName p.1)
 | [] => rfl
 | x :: xs => by
  simp only [putL, Bool.not_true, Bool.false_and, Bool.false_eq_true, if_false, List.nil_append, Bool.true_or, putL_true p xs, List.filter_cons, noName]
  by_cases c : x.1 = p.1 <;> simp [c]
theorem putL_ge (p x : ByteArray × Val) (xs : List (ByteArray × Val)) (h : blt x.1 p.1 = false) : putL p false (x :: xs) = p :: (x :: xs).filter (noName p.1) := by
 simp only [putL, h, Bool.not_false, Bool.and_self, if_true, Bool.or_true, putL_true, List.filter_cons, noName]
 by_cases c : x.1 = p.1 <;> simp [c]
theorem putL_lt (p x : ByteArray × Val) (xs : List (ByteArray × Val)) (h : blt x.1 p.1 = true) : putL p false (x :: xs) = x :: putL p false xs := by
 have hne : ¬ x.1 = p.1 := blt_ne h
 simp [putL, h, hne]
theorem putL_mem (p : ByteArray × Val) : ∀ (l : List (ByteArray × Val)) (y : ByteArray × Val), y ∈ putL p false l → y = p ∨ y ∈ l
 | [], y, h => by simp [putL] at h; exact .inl h
 | x :: xs, y, h => by
  cases hb : blt x.1 p.1 with
  | true =>
   rw [putL_lt p x xs hb] at h
   rcases List.mem_cons.1 h with rfl | h
   ·simp
   ·rcases putL_mem p xs y h with h | h
    ·exact .inl h
    ·exact .inr (List.mem_cons_of_mem _ h)
  | false =>
   rw [putL_ge p x xs hb] at h
   rcases List.mem_cons.1 h with rfl | h
   ·simp
   ·exact .inr (List.mem_filter.1 h).1
theorem putL_strict (p : ByteArray × Val) : ∀ l : List (ByteArray × Val), Strict l → Strict (putL p false l)
 | [], _ => List.pairwise_singleton _ _
 | x :: xs, h => by
  have h1 := List.pairwise_cons.1 h
  cases hb : blt x.1 p.1 with
  | true =>
   rw [putL_lt p x xs hb]
   refine List.pairwise_cons.2 ⟨fun y hy => ?_, putL_strict p xs h1.2⟩
   rcases putL_mem p xs y hy with rfl | hy
   ·exact hb
   ·exact h1.1 y hy
  | false =>
   rw [putL_ge p x xs hb]
   refine List.pairwise_cons.2 ⟨fun y hy => ?_, h.sublist List.filter_sublist⟩
   obtain ⟨hy, hn⟩ := List.mem_filter.1 hy
   have hne : ¬ y.1 = p.1 := by simpa [noName] using hn
   refine blt_of_le ?_ hne
   rcases List.mem_cons.1 hy with rfl | hy
   ·exact hb
   ·cases hc : blt y.1 p.1 with
    | false => rfl
    | true => have := blt_trans (h1.1 y hy) hc; rw [hb] at this; cases this
theorem putL_filter (p : ByteArray × Val) (nm : ByteArray) : ∀ l : List (ByteArray × Val), (putL p false l).filter (isName nm) = if p.1 = nm then [p] else l.filter (isName nm)
 | [] => by by_cases c : p.1 = nm <;> simp [putL, isName, c]
 | x :: xs => by
  cases hb : blt x.1 p.1 with
  | true =>
   have hne := blt_ne hb
   rw [putL_lt p x xs hb, List.filter_cons, putL_filter p nm xs, List.filter_cons]
   by_cases c : p.1 = nm
   ·have : ¬ x.1 = nm := by rw [← c]; exact hne
    simp [c, isName, this]
   ·simp [c]
  | false =>
   rw [putL_ge p x xs hb, List.filter_cons, List.filter_filter]
   by_cases c : p.1 = nm
   ·rw [if_pos (by simp [isName, c]), if_pos c]
    congr 1
    rw [List.filter_eq_nil_iff]
    intro y _ hy
    simp [noName, isName, c] at hy
   ·rw [if_neg (by simp [isName, c]), if_neg c]
    refine List.filter_congr fun y _ => ?_
    by_cases d : y.1 = nm
    ·have : ¬ nm = p.1 := fun e => c e.symm
     simp [noName, isName, d, this]
    ·simp [isName, d]
theorem mapL_snoc (l : List (ByteArray × Val)) (p : ByteArray × Val) : mapL (l ++ [p]) = putL p false (mapL l) := by
 unfold mapL; rw [List.foldl_append]; rfl
theorem mapL_props (l : List (ByteArray × Val)) : ∀ n, l.length = n → Strict (mapL l) ∧ ∀ nm, look nm (mapL l) = look nm l := by
 intro n
 induction n generalizing l with
 | zero => intro h; have := List.length_eq_zero_iff.1 h; subst this; exact ⟨List.Pairwise.nil, fun _ => rfl⟩
 | succ n ih =>
  intro h
  rcases Srt.snoc_cases l with rfl | ⟨l0, p, rfl⟩
  ·simp at h
  ·obtain ⟨h1, h2⟩ := ih l0 (by simpa using h)
   rw [mapL_snoc]
   refine ⟨putL_strict p _ h1, fun nm => ?_⟩
   unfold look
   rw [putL_filter, List.filter_append]
   by_cases c : p.1 = nm
   ·simp [c, isName]
   ·have := h2 nm
    unfold look at this
    simp [c, isName] at this ⊢
    exact this
theorem mapL_strict (l : List (ByteArray × Val)) : Strict (mapL l) := (mapL_props l _ rfl).1
theorem look_mapL (nm : ByteArray) (l : List (ByteArray × Val)) : look nm (mapL l) = look nm l := (mapL_props l _ rfl).2 nm
theorem mapL_id {l : List (ByteArray × Val)} (h : Strict l) : mapL l = l := strict_look_ext (mapL_strict l) h fun nm => look_mapL nm l
theorem mapL_mem {l : List (ByteArray × Val)} {p : ByteArray × Val} (h : p ∈ mapL l) : p ∈ l := by
 rw [strict_mem (mapL_strict l), look_mapL] at h
 unfold look at h
 exact (List.mem_filter.1 (List.mem_of_getLast? h)).1
theorem eqv_name (k y : ByteArray × Val) : Srt.eqv fltB k y = isName k.1 y := by
 unfold Srt.eqv isName fltB
 rcases blt_total k.1 y.1 with h | h | h
 ·have := blt_ne h
  rw [h]
  simp only [Bool.not_true, Bool.false_and]
  symm; simpa using fun e => this e.symm
 ·rw [h, blt_irrefl]; simp
 ·have := blt_ne h
  rw [h]
  simp [this]
theorem dedup_sort {l r : List (ByteArray × Val)} (h1 : Srt.Sorted fltB r) (h2 : Srt.Stab fltB l r) : dedup r = mapL l := by
 refine strict_look_ext (dedup_strict r h1) (mapL_strict l) fun nm => ?_
 rw [look_dedup, look_mapL]
 have := h2.2 (nm, zeroVal)
 have e : Srt.eqv fltB (nm, zeroVal) = isName nm := funext fun y => eqv_name _ y
 rw [e] at this
 unfold look
 rw [this]
end Go.CT.Sch
namespace Go.CT.Sch
open Go.Proofs
theorem massFs_putL (p : ByteArray × Val) : ∀ l, massFs (putL p false l) ≤ massFs l + massFs [p]
 | [] => by simp [putL, massFs_nil]
 | x :: xs => by
  cases hb : blt x.1 p.1 with
  | true =>
   have := massFs_putL p xs
   rw [putL_lt p x xs hb, massFs_cons, massFs_cons x xs]; omega
  | false =>
   have := massFs_filter (noName p.1) (x :: xs)
   rw [putL_ge p x xs hb, massFs_cons, massFs_cons p [], massFs_nil]; omega
theorem massFs_mapL (l : List (ByteArray × Val)) : massFs (mapL l) ≤ massFs l := by
 have : ∀ n (l : List (ByteArray × Val)), l.length = n → massFs (mapL l) ≤ massFs l := by
  intro n
  induction n with
  | zero => intro l h; have := List.length_eq_zero_iff.1 h; subst this; exact Nat.le_refl _
  | succ n ih =>
   intro l h
   rcases Srt.snoc_cases l with rfl | ⟨l0, p, rfl⟩
   ·simp at h
   ·have h1 := ih l0 (by simpa using h)
    have h2 := massFs_putL p (mapL l0)
    rw [mapL_snoc, massFs_append]; omega
 exact this _ l rfl
def mapV (l : List (ByteArray × Val)) : Val := ⟨5, 0, emptyB, [], mapL l⟩
theorem mapV_mass (l : List (ByteArray × Val)) : (mapV l).mass ≤ 6 + massFs l := by
 have := massFs_mapL l
 rw [Val.mass_eq]
 simp only [mapV, Val.s_mk, Val.l_mk, Val.f_mk, massVs_nil, show emptyB.size = 0 from rfl]; omega
theorem val_map_1W (r : List (ByteArray × Val)) (hr : r.length ≤ 1099511627775) (y2 y3 y4 : IV) : ∀ (n i : Nat) (acc : List (ByteArray × Val)), i + n = r.length → acc.length ≤ i → WideF 1073741824 (acc ++ dedup (r.drop i)) →
  W F30 1 [.int r.length, .int i, y2, y3, y4, Srt.LE Fld.enc r, .int 5, .int 0, .str ⟨#[]⟩, .list (acc.map Fld.enc)] = some (Val.comps ⟨5, 0, emptyB, [], acc ++ dedup (r.drop i)⟩)
 | 0, i, acc, h, ha, hm => by
  rw [e_F35]
  have h1 : ¬ i < r.length := by omega
  have e0 : r.drop i = [] := List.drop_of_length_le (by omega)
  rw [e0] at hm ⊢
  rw [show dedup [] = [] from rfl, List.append_nil] at hm
  have hc := val_cloneW ⟨5, 0, emptyB, [], acc⟩ (.mk _ (Nat.zero_le _) hm.1 (by simp) hm.2)
  have e : IV.agg [.int 5, .int 0, .str ⟨#[]⟩, .list [], .list (acc.map Fld.enc)] = Val.enc ⟨5, 0, emptyB, [], acc⟩ := by
   rw [← Val.fold]; rfl
  simp only [O.lt_int, lt_cast, h1, decide_false, Option.bind_some, O.cnd_bool, Bool.false_eq_true, if_false, O.mkagg_eq, e, hc, Val.comps_eq, O.calls_5, dedup, List.append_nil]
 | n + 1, i, acc, h, ha, hm => by
  have hi : i < r.length := by omega
  have hw := next64 (i := i) (by omega)
  have hap : (acc.length + 1) * 96 ≤ maxBytes := app_ok (by omega) (by omega)
  have gi := Srt.idx Fld.enc (List.getElem?_eq_getElem hi)
  rw [e_F35]
  have hd := List.drop_eq_getElem_cons hi
  by_cases c : i + 1 = r.length
  ·have c' : ((i + 1 : Nat) : Int) = (r.length : Int) := by omega
   have e1 : r.drop (i + 1) = [] := List.drop_of_length_le (by omega)
   have ih := val_map_1W r hr y2 y3 y4 n (i + 1) (acc ++ [r[i]]) (by omega) (by simp; omega) (by
    rw [e1]; rw [hd, e1] at hm
    simpa [dedup] using hm)
   simp only [e1, List.map_append, List.map_cons, List.map_nil] at ih
   rw [hd, e1]
   simp only [O.lt_int, lt_cast, hi, decide_true, Option.bind_some, O.cnd_bool, if_true, gi, O.add_int, hw, Srt.len, O.eq_int, c', O.mklist_eq, O.append_list, List.length_map, List.length_singleton, hap, e_F30_2]
   rw [c'] at ih
   rw [ih]
   simp [dedup]
  ·have hi2 : i + 1 < r.length := by omega
   have c' : ¬ ((i + 1 : Nat) : Int) = (r.length : Int) := by omega
   have gi2 := Srt.idx Fld.enc (List.getElem?_eq_getElem hi2)
   have hd2 := List.drop_eq_getElem_cons hi2
   by_cases d : r[i + 1].1 = r[i].1
   ·have ih := val_map_1W r hr y2 y3 y4 n (i + 1) acc (by omega) (by omega) (by
     rw [hd, hd2] at hm; rw [hd2]
     simp only [dedup, d, if_true] at hm
     exact hm)
    rw [hd2] at ih
    rw [hd, hd2]
    simp only [O.lt_int, lt_cast, hi, decide_true, Option.bind_some, O.cnd_bool, if_true, gi, O.add_int, hw, Srt.len, O.eq_int, c', decide_false, Bool.false_eq_true, if_false, gi2, Fld.proj0, O.sNe_str, d, Bool.not_true, e_F30_2, dedup, ih]
   ·have ih := val_map_1W r hr y2 y3 y4 n (i + 1) (acc ++ [r[i]]) (by omega) (by simp; omega) (by
     rw [hd, hd2] at hm; rw [hd2]
     simp only [dedup, d, if_false] at hm
     simpa using hm)
    rw [hd2] at ih
    simp only [List.map_append, List.map_cons, List.map_nil, List.append_assoc, List.singleton_append] at ih
    rw [hd, hd2]
    simp only [O.lt_int, lt_cast, hi, decide_true, Option.bind_some, O.cnd_bool, if_true, gi, O.add_int, hw, Srt.len, O.eq_int, c', decide_false, Bool.false_eq_true, if_false, gi2, Fld.proj0, O.sNe_str, d, Bool.not_false, O.mklist_eq, O.append_list, List.length_map, List.length_singleton, hap, e_F30_2, dedup, ih]
theorem mapL_len (l : List (ByteArray × Val)) : (mapL l).length ≤ l.length := by
 have : ∀ n (l : List (ByteArray × Val)), l.length = n → (mapL l).length ≤ n := by
  intro n
  induction n with
  | zero => intro l h; have := List.length_eq_zero_iff.1 h; subst this; exact Nat.le_refl _
  | succ n ih =>
   intro l h
   rcases Srt.snoc_cases l with rfl | ⟨l0, p, rfl⟩
   ·simp at h
   ·have h1 := ih l0 (by simpa using h)
    have h2 := putL_len p (mapL l0) false
    rw [mapL_snoc]; omega
 exact this _ l rfl
theorem mapL_wide {N : Nat} {l : List (ByteArray × Val)} (h : WideF N l) : WideF N (mapL l) :=
 ⟨Nat.le_trans (mapL_len l) h.1, fun p hp => h.2 p (mapL_mem hp)⟩
theorem val_mapW (l : List (ByteArray × Val)) (hl : WideF 1073741824 l) : W F30 0 [.list (l.map Fld.enc)] = some (mapV l).comps := by
 have h6 := hl.1
 obtain ⟨r, h1, h2, h3⟩ := Srt.sort ford feqs l (by omega)
 have hc : (l.map Fld.enc).length ≤ 1073741824 := by rw [List.length_map]; omega
 rw [e_F30_0]
 have h3' : W F32 0 [.list (l.map Fld.enc)] = some [Srt.LE Fld.enc r] := h3
 have hlen : r.length = l.length := h2.1.symm
 have h4 := val_map_1W r (by omega) (.int 0) (.int 0) (.str ⟨#[]⟩) r.length 0 [] (by omega) (by simp) (by
  rw [List.drop_zero, List.nil_append, dedup_sort h1 h2]; exact mapL_wide hl)
 simp only [List.drop_zero, Int.cast_ofNat_Int, List.map_nil, List.nil_append, dedup_sort h1 h2] at h4
 simp only [e_F31, cloneF_list hc, O.calls_1, h3', Srt.len, Option.bind_some]
 exact h4
theorem val_map (l : List (ByteArray × Val)) (hl : massFs l ≤ 4294967200) : W F30 0 [.list (l.map Fld.enc)] = some (mapV l).comps := val_mapW l (wideF_mass (by omega))
end Go.CT.Sch
namespace Go.CT.Sch
open Go.Proofs
theorem calls_6 {β : Type} {a b c d e g : IV} {f : IV → IV → IV → IV → IV → IV → Option β} : calls (some [a, b, c, d, e, g]) 6 f = f a b c d e g := rfl
def zeroSch : Sch := ⟨0, 0, 0, [], emptyB, [], []⟩
def zeroSF : SFld := ⟨emptyB, false, false, [], zeroSch⟩
theorem zeroSF_enc : IV.agg [.str ⟨#[]⟩, .bool false, .bool false, .list [], .int 0, .int 0, .int 0, .list [], .str ⟨#[]⟩, .list [], .list []] = zeroSF.enc := rfl
inductive SB : Sch → Prop
 | mk (s : Sch) : s.it.length ≤ 1 → (s.it ≠ [] → s.f = []) → (s.k = 4 → s.it.length = 1) → (∀ x ∈ s.it, SB x) → (∀ p ∈ s.f, SB p.s) → SB s
theorem SB.one {s : Sch} (h : SB s) : s.it.length ≤ 1 := by cases h; assumption
theorem SB.nof {s : Sch} (h : SB s) (hi : s.it ≠ []) : s.f = [] := by cases h with | mk _ h1 h2 h3 h4 h5 => exact h2 hi
theorem SB.list {s : Sch} (h : SB s) (hi : s.k = 4) : s.it.length = 1 := by cases h with | mk _ h1 h2 h3 h4 h5 => exact h3 hi
theorem SB.mem_it {s x : Sch} (h : SB s) (hx : x ∈ s.it) : SB x := by cases h with | mk _ h1 h2 h3 h4 h5 => exact h4 x hx
theorem SB.mem_f {s : Sch} {p : SFld} (h : SB s) (hx : p ∈ s.f) : SB p.s := by cases h with | mk _ h1 h2 h3 h4 h5 => exact h5 p hx
def subS (s : Sch) (nm : ByteArray) : Option Sch := match s.it with | [] => (s.fld nm).map (·.s) | t :: _ => some t
theorem fld_mem {s : Sch} {nm : ByteArray} {p : SFld} (h : s.fld nm = some p) : p ∈ s.f ∧ p.nm = nm :=
 ⟨List.mem_of_find?_eq_some h, by simpa using List.find?_some h⟩
theorem subS_mem {s t : Sch} {nm : ByteArray} (h : subS s nm = some t) : t ∈ s.it ∨ ∃ p ∈ s.f, p.nm = nm ∧ p.s = t := by
 unfold subS at h
 split at h
 ·right
  rw [Option.map_eq_some_iff] at h
  obtain ⟨p, hp, rfl⟩ := h
  exact ⟨p, (fld_mem hp).1, (fld_mem hp).2, rfl⟩
 ·rename_i t' r e
  cases h
  left; rw [e]; simp
theorem SB.sub {s t : Sch} {nm : ByteArray} (hs : SB s) (h : subS s nm = some t) : SB t := by
 rcases subS_mem h with h | ⟨p, hp, _, rfl⟩
 ·exact hs.mem_it h
 ·exact hs.mem_f hp
theorem subS_mass {s t : Sch} {nm : ByteArray} (h : subS s nm = some t) : t.mass < s.mass := by
 rcases subS_mem h with h | ⟨p, hp, _, rfl⟩
 ·exact Sch.mass_it h
 ·have := Sch.mass_f hp; omega
def errAt (p : List Stp) (c : Int) : IV := .agg [.str (printB p), .int c]
def fldStp (nm : ByteArray) : Stp := ⟨1, nm, 0, emptyB⟩
def isKey (v : Val) (nm : ByteArray) : Bool := (v.get nm).isSome && decide (((v.get nm).getD zeroVal).k = 3)
def keyB (v : Val) (nm : ByteArray) : ByteArray := ((v.get nm).getD zeroVal).s
def hasKey (v : Val) (nm : ByteArray) : Bool := isKey v nm && !decide (nm = emptyB)
def elStp (key : ByteArray) (v : Val) (i : Nat) : Stp := if hasKey v key then ⟨3, key, 0, keyB v key⟩ else ⟨2, emptyB, i, emptyB⟩
def sameKey (nm : ByteArray) (k : ByteArray) (u : Val) : Bool := hasKey u nm && decide (keyB u nm = k)
def dupE (key : ByteArray) (prev : List Val) (v : Val) (q : List Stp) : List IV := if hasKey v key && prev.any (sameKey key (keyB v key)) then [errAt q 8] else []
def isHere (v : Val) (nm : ByteArray) : Bool := (v.get nm).isSome && !decide (((v.get nm).getD zeroVal).k = 0)
def miss1 (v : Val) (p : List Stp) (d : SFld) : List IV := if d.rq && !isHere v d.nm then [errAt (p ++ [fldStp d.nm]) 7] else []
def rngE (p : List Stp) (sc : Sch) (n : Int) : List IV := if decide (n < sc.mn) || decide (sc.mx < n) then [errAt p 5] else []
mutual
def errs : Val → Sch → List Stp → List IV
 | ⟨k, n, s, l, f⟩, sc, p =>
  if k = sc.k then
   if k = 2 then rngE p sc n
   else if k = 3 then (if decide ((s.size : Int) < sc.mn) || decide (sc.mx < (s.size : Int)) then [errAt p 5] else if decide (0 < sc.en.length) && !sc.en.any (fun e => decide (e = s)) then [errAt p 1] else [])
   else if k = 4 then rngE p sc l.length ++ errsL l sc.key (sc.it.headD zeroSch) p []
   else if k = 5 then errsF f sc p ++ sc.f.flatMap (miss1 ⟨k, n, s, l, f⟩ p)
   else []
  else [errAt p 6]
def errsL : List Val → ByteArray → Sch → List Stp → List Val → List IV
 | [], _, _, _, _ => []
 | v :: vs, key, t, p, prev => (errs v t (p ++ [elStp key v prev.length]) ++ dupE key prev v (p ++ [elStp key v prev.length])) ++ errsL vs key t p (prev ++ [v])
def errsF : List (ByteArray × Val) → Sch → List Stp → List IV
 | [], _, _ => []
 | (nm, v) :: fs, sc, p => (match subS sc nm with | none => [errAt (p ++ [fldStp nm]) 1] | some t => if v.k = 0 then [] else errs v t (p ++ [fldStp nm])) ++ errsF fs sc p
end
theorem errs_eq (v : Val) (sc : Sch) (p : List Stp) : errs v sc p =
  if v.k = sc.k then
   if v.k = 2 then rngE p sc v.n
   else if v.k = 3 then (if decide ((v.s.size : Int) < sc.mn) || decide (sc.mx < (v.s.size : Int)) then [errAt p 5] else if decide (0 < sc.en.length) && !sc.en.any (fun e => decide (e = v.s)) then [errAt p 1] else [])
   else if v.k = 4 then rngE p sc v.l.length ++ errsL v.l sc.key (sc.it.headD zeroSch) p []
   else if v.k = 5 then errsF v.f sc p ++ sc.f.flatMap (miss1 v p)
   else []
  else [errAt p 6] := by
 cases v; rw [errs]; rfl
def err1 (sc : Sch) (p : List Stp) (x : ByteArray × Val) : List IV := match subS sc x.1 with | none => [errAt (p ++ [fldStp x.1]) 1] | some t => if x.2.k = 0 then [] else errs x.2 t (p ++ [fldStp x.1])
theorem errsF_cons (x : ByteArray × Val) (fs : List (ByteArray × Val)) (sc : Sch) (p : List Stp) : errsF (x :: fs) sc p = err1 sc p x ++ errsF fs sc p := by
 obtain ⟨nm, v⟩ := x; rw [errsF]; rfl
theorem errsF_nil (sc : Sch) (p : List Stp) : errsF [] sc p = [] := by rw [errsF]
theorem errsL_cons (v : Val) (vs : List Val) (key : ByteArray) (t : Sch) (p : List Stp) (prev : List Val) : errsL (v :: vs) key t p prev = (errs v t (p ++ [elStp key v prev.length]) ++ dupE key prev v (p ++ [elStp key v prev.length])) ++ errsL vs key t p (prev ++ [v]) := by rw [errsL]
theorem errsL_nil (key : ByteArray) (t : Sch) (p : List Stp) (prev : List Val) : errsL [] key t p prev = [] := by rw [errsL]
theorem dupE_len (key : ByteArray) (prev : List Val) (v : Val) (q : List Stp) : (dupE key prev v q).length ≤ 1 := by unfold dupE; split <;> simp
theorem miss1_len (v : Val) (p : List Stp) (d : SFld) : (miss1 v p d).length ≤ 1 := by unfold miss1; split <;> simp
theorem rngE_len (p : List Stp) (sc : Sch) (n : Int) : (rngE p sc n).length ≤ 1 := by unfold rngE; split <;> simp
theorem miss_len (v : Val) (p : List Stp) : ∀ l : List SFld, (l.flatMap (miss1 v p)).length ≤ l.length
 | [] => by simp
 | d :: l => by
  have := miss1_len v p d
  have := miss_len v p l
  simp only [List.flatMap_cons, List.length_append, List.length_cons]; omega
theorem errs_len : ∀ (v : Val) (sc : Sch) (p : List Stp), SB sc → (errs v sc p).length ≤ (2 + sc.mass) * v.size := by
 refine Val.ind fun v ih1 ih2 sc p hs => ?_
 have hpos := v.size_pos
 have one : 1 ≤ (2 + sc.mass) * v.size := by
  have : 1 * 1 ≤ (2 + sc.mass) * v.size := Nat.mul_le_mul (by omega) hpos
  omega
 have hL : ∀ (t : Sch), SB t → t.mass < sc.mass → ∀ (l : List Val), (∀ x ∈ l, ∀ sc p, SB sc → (errs x sc p).length ≤ (2 + sc.mass) * x.size) → ∀ (prev : List Val) (key : ByteArray), (errsL l key t p prev).length ≤ (2 + sc.mass) * sizeVs l := by
  intro t ht htm l
  induction l with
  | nil => intro _ prev key; rw [errsL_nil]; simp
  | cons x l ih =>
   intro h prev key
   have h1 := h x (by simp) t (p ++ [elStp key x prev.length]) ht
   have h2 := ih (fun y hy => h y (by simp [hy])) (prev ++ [x]) key
   have h3 := dupE_len key prev x (p ++ [elStp key x prev.length])
   have h4 := x.size_pos
   have h5 : (3 + t.mass) * x.size ≤ (2 + sc.mass) * x.size := Nat.mul_le_mul (by omega) (Nat.le_refl _)
   have h6 : (3 + t.mass) * x.size = (2 + t.mass) * x.size + x.size := by rw [show 3 + t.mass = (2 + t.mass) + 1 by omega, Nat.add_mul, Nat.one_mul]
   rw [errsL_cons]
   simp only [List.length_append, sizeVs, Nat.mul_add]
   omega
 have hF : ∀ (l : List (ByteArray × Val)), (∀ x ∈ l, ∀ sc p, SB sc → (errs x.2 sc p).length ≤ (2 + sc.mass) * x.2.size) → (errsF l sc p).length ≤ (2 + sc.mass) * sizeFs l := by
  intro l
  induction l with
  | nil => intro _; rw [errsF_nil]; simp
  | cons x l ih =>
   intro h
   have h2 := ih (fun y hy => h y (by simp [hy]))
   have h4 := x.2.size_pos
   have h7 : (err1 sc p x).length ≤ (2 + sc.mass) * x.2.size := by
    have h8 : 1 * 1 ≤ (2 + sc.mass) * x.2.size := Nat.mul_le_mul (by omega) h4
    unfold err1
    split
    ·simp only [List.length_singleton]; omega
    ·rename_i t ht
     split
     ·simp
     ·have h1 := h x (by simp) t (p ++ [fldStp x.1]) (hs.sub ht)
      have := subS_mass ht
      have h5 : (2 + t.mass) * x.2.size ≤ (2 + sc.mass) * x.2.size := Nat.mul_le_mul (by omega) (Nat.le_refl _)
      omega
   rw [errsF_cons]
   simp only [List.length_append, sizeFs, Nat.mul_add]
   omega
 have hsz := v.size_eq
 rw [errs_eq]
 split
 ·split
  ·have := rngE_len p sc v.n; omega
  ·split
   ·split
    ·simpa using one
    ·split
     ·simpa using one
     ·simp
   ·split
    ·rename_i hk hk2 hk3 hk4
     obtain ⟨t, ht⟩ := List.length_eq_one_iff.1 (hs.list (by omega))
     have h1 := hL t (hs.mem_it (by rw [ht]; simp)) (Sch.mass_it (by rw [ht]; simp)) v.l ih1 [] sc.key
     have h2 := rngE_len p sc v.l.length
     have h3 : (2 + sc.mass) * (1 + sizeVs v.l) ≤ (2 + sc.mass) * v.size := Nat.mul_le_mul (Nat.le_refl _) (by omega)
     rw [Nat.mul_add] at h3
     rw [ht, List.headD_cons, List.length_append]
     omega
    ·split
     ·have h1 := hF v.f ih2
      have h2 := miss_len v p sc.f
      have h4 := sc.mass_len_f
      have h3 : (2 + sc.mass) * (1 + sizeFs v.f) ≤ (2 + sc.mass) * v.size := Nat.mul_le_mul (Nat.le_refl _) (by omega)
      rw [Nat.mul_add] at h3
      rw [List.length_append]
      omega
     ·simp
 ·simpa using one
theorem app24 {n : Nat} (h : n ≤ 4398046511104) : n * 24 ≤ maxBytes := by
 have : n * 24 ≤ 4398046511104 * 24 := Nat.mul_le_mul h (Nat.le_refl _)
 unfold maxBytes; omega
theorem get_size (v : Val) (nm : ByteArray) : ((v.get nm).getD zeroVal).s.size ≤ v.mass := by
 unfold Val.get
 split
 ·cases h : v.f.find? fun p => decide (p.1 = nm) with
  | none => exact Nat.zero_le _
  | some p =>
   have h1 := Val.mass_f (List.mem_of_find?_eq_some h)
   have h2 := p.2.mass_s
   simp only [Option.map_some, Option.getD_some]; omega
 ·exact Nat.zero_le _
theorem elStp_fits (key : ByteArray) (v : Val) (i : Nat) (h1 : key.size ≤ 1048576) (h2 : v.mass ≤ 1048576) : (elStp key v i).fits := by
 have := get_size v key
 unfold elStp
 split
 ·exact ⟨by show key.size ≤ _; omega, by show (keyB v key).size ≤ _; unfold keyB; omega⟩
 ·exact ⟨by show (0 : Nat) ≤ _; omega, by show (0 : Nat) ≤ _; omega⟩
theorem fldStp_fits (nm : ByteArray) (h : nm.size ≤ 1048576) : (fldStp nm).fits := ⟨by show nm.size ≤ _; omega, by show (0 : Nat) ≤ _; omega⟩
theorem fits_snoc {p : List Stp} {x : Stp} (hp : ∀ s ∈ p, s.fits) (hx : x.fits) : ∀ s ∈ p ++ [x], s.fits := by
 intro s hs
 rcases List.mem_append.1 hs with h | h
 ·exact hp s h
 ·simp at h; subst h; exact hx
end Go.CT.Sch
namespace Go.CT.Sch
open Go.Proofs
end Go.CT.Sch
namespace Go.CT.Sch
open Go.Proofs
def encM (m : List (ByteArray × Bool)) : List IV := m.map fun e => .agg [.str e.1, .bool e.2]
def mlook (m : List (ByteArray × Bool)) (k : ByteArray) : Option Bool := (m.find? fun e => decide (e.1 = k)).map (·.2)
def mputB (k : ByteArray) (b : Bool) : List (ByteArray × Bool) → List (ByteArray × Bool)
 | [] => [(k, b)]
 | e :: r => if e.1 = k then (k, b) :: r else e :: mputB k b r
theorem eqLeaf_str (a b : ByteArray) : IV.eqLeaf (.str a) (.str b) = some (decide (a = b)) := by
 have : (a.toList == b.toList) = decide (a = b) := by
  rw [Bool.eq_iff_iff, beq_iff_eq, decide_eq_true_iff]; exact O.str_ext
 simp only [IV.eqLeaf, this]
theorem mfind_enc (k : ByteArray) : ∀ m : List (ByteArray × Bool), mfind (.str k) (encM m) = some ((mlook m k).map .bool)
 | [] => rfl
 | e :: r => by
  have ih := mfind_enc k r
  simp only [encM, List.map_cons, mfind, eqLeaf_str, mlook, List.find?_cons]
  by_cases c : k = e.1
  ·simp [c]
  ·have c' : ¬ e.1 = k := fun h => c h.symm
   simp only [c, c', decide_false]
   exact ih
theorem mput_enc (k : ByteArray) (b : Bool) : ∀ m : List (ByteArray × Bool), mput (.str k) (.bool b) (encM m) = some (encM (mputB k b m))
 | [] => rfl
 | e :: r => by
  have ih := mput_enc k b r
  simp only [encM, List.map_cons, mput, eqLeaf_str, mputB]
  by_cases c : k = e.1
  ·simp [c]
  ·have c' : ¬ e.1 = k := fun h => c h.symm
   simp only [c, c', decide_false, if_false]
   unfold encM at ih
   rw [ih]; rfl
theorem mlook_put (k j : ByteArray) (b : Bool) : ∀ m : List (ByteArray × Bool), mlook (mputB k b m) j = if k = j then some b else mlook m j
 | [] => by simp only [mputB, mlook, List.find?_cons, List.find?_nil]; by_cases c : k = j <;> simp [c]
 | e :: r => by
  have ih := mlook_put k j b r
  unfold mlook at ih ⊢
  unfold mputB
  by_cases c : e.1 = k
  ·simp only [c, if_true, List.find?_cons]
   by_cases c2 : k = j <;> simp [c2]
  ·simp only [c, if_false, List.find?_cons]
   by_cases c2 : e.1 = j
   ·have : ¬ k = j := fun h => c (c2.trans h.symm)
    simp [c2, this]
   ·simp only [c2, decide_false, ih]
theorem mget_enc (m : List (ByteArray × Bool)) (k : ByteArray) : O.mget (.bool false) (.list (encM m)) (.str k) = some (.bool ((mlook m k).getD false)) := by
 unfold O.mget
 simp only [Prim.ev, mfind_enc, Option.map_some]
 cases mlook m k <;> rfl
theorem mhas_enc (m : List (ByteArray × Bool)) (k : ByteArray) : O.mhas (.list (encM m)) (.str k) = some (.bool (mlook m k).isSome) := by
 unfold O.mhas
 simp only [Prim.ev, mfind_enc, Option.map_some, Option.isSome_map]
theorem mset_enc (m : List (ByteArray × Bool)) (k : ByteArray) (b : Bool) : O.mset (.list (encM m)) (.str k) (.bool b) = some (.list (encM (mputB k b m))) := by
 unfold O.mset
 simp only [Prim.ev, mput_enc, Option.map_some]
theorem pg_get (v : Val) (nm : ByteArray) (hv : v.mass ≤ 4294967296) : W F69 0 [v.enc, .str nm] = some (getIV (v.get nm)) := val_getW v nm (wide_mass v (by omega))
theorem pg_key (v : Val) (nm : ByteArray) (hv : v.mass ≤ 1048576) : W F68 0 [v.enc, .str nm] = some [.str (keyB v nm), .bool (isKey v nm)] := by
 rw [e_F68_0]
 unfold keyB isKey
 simp only [pg_get v nm (by omega), getIV, calls_6, O.cnd_bool, O.eq_int, Option.bind_some, ite_some, ite_ivbool]
 cases (v.get nm).isSome <;> simp
theorem pg_element (s : Sch) (v : Val) (i : Int) (hv : v.mass ≤ 1048576) : W F67 0 [s.enc, .int i, v.enc] = some [.agg [.int (if hasKey v s.key then 3 else 2), .str (if hasKey v s.key then s.key else emptyB), .int (if hasKey v s.key then 0 else i), .str (if hasKey v s.key then keyB v s.key else emptyB)]] := by
 rw [e_F67_0]
 have e : (if isKey v s.key = true then !decide (s.key = (⟨#[]⟩ : ByteArray)) else false) = hasKey v s.key := by unfold hasKey emptyB; cases isKey v s.key <;> simp
 simp only [Sch.proj4, Option.bind_some, pg_key v s.key hv, O.calls_2, O.sNe_str, O.cnd_bool, ite_some, ite_ivbool, e, O.mkagg_eq]
 cases hasKey v s.key <;> rfl
theorem pg_element' (s : Sch) (v : Val) (i : Nat) (hv : v.mass ≤ 1048576) : W F67 0 [s.enc, .int i, v.enc] = some [(elStp s.key v i).enc] := by
 rw [pg_element s v i hv]
 unfold elStp
 cases hasKey v s.key <;> rfl
theorem pg_member (nm : ByteArray) : W F75 0 [.str nm] = some [(fldStp nm).enc] := by
 rw [e_F75_0]; rfl
theorem pg_then (p : List Stp) (s : Stp) (hl : p.length ≤ 1073741824) : W F70 0 [.list (p.map Stp.enc), s.enc] = some [.list ((p ++ [s]).map Stp.enc)] := by
 have h2 : ((p.map Stp.enc).length + [s.enc].length) * 48 ≤ maxBytes := by
  have : (p.length + 1) * 48 ≤ 1099511627777 * 48 := Nat.mul_le_mul (by omega) (Nat.le_refl _)
  simp only [List.length_map, List.length_singleton]
  unfold maxBytes; omega
 have h1 : O.cloneF [.list (p.map Stp.enc)] = some [.list (p.map Stp.enc)] := cloneF_list (by rw [List.length_map]; omega)
 rw [e_F70_0]
 simp only [e_F71, h1, O.calls_1, e_F72, O.clipF_list, O.mklist_eq, Option.bind_some, O.appendN_list (n := 48) (by simp) h2, List.map_append, List.map_cons, List.map_nil]
theorem pg_add (out : List IV) (p : List Stp) (c : Int) (hp : ∀ s ∈ p, s.fits) (hl : p.length ≤ 1099511627776) (ho : out.length ≤ 4398046511103) : W F46 0 [.list out, .list (p.map Stp.enc), .int c] = some [.list (out ++ [errAt p c])] := by
 have hap : (out.length + 1) * 24 ≤ maxBytes := app24 (by omega)
 rw [e_F46_0]
 simp only [pp_print p hp hl, O.calls_2, O.mkagg_eq, O.mklist_eq, Option.bind_some, O.append_list, List.length_singleton, hap, if_true, errAt]
theorem pg_dict (s : Sch) : W F73 0 [s.enc] = some [.bool (decide (s.k = 5) && decide (0 < s.it.length))] := by
 rw [e_F73_0]
 by_cases k5 : s.k = 5 <;> simp [k5]
theorem pg_struct (s : Sch) : W F25 0 [s.enc] = some [.bool (decide (s.k = 5) && decide (s.it.length = 0))] := by
 rw [e_F25_0]
 by_cases k5 : s.k = 5 <;> simp [k5]
theorem pg_index (s : Sch) (nm : ByteArray) (hs : s.mass ≤ 1099511627776) : ∀ (n i : Nat), i + n = s.f.length →
  ∃ r : Int, W F23 1 [.list (s.f.map SFld.enc), .str nm, .int s.f.length, .int i] = some [.int r] ∧
   ((((s.f.drop i).find? fun p => decide (p.nm = nm)) = none ∧ r < 0) ∨ (∃ j : Nat, r = j ∧ s.f[j]? = ((s.f.drop i).find? fun p => decide (p.nm = nm)) ∧ ((s.f.drop i).find? fun p => decide (p.nm = nm)).isSome = true))
 | 0, i, h => by
  rw [e_F23_1]
  have h1 : ¬ i < s.f.length := by omega
  refine ⟨-1, by simp [h1], .inl ⟨by simp [List.drop_of_length_le (Nat.le_of_not_lt h1)], by omega⟩⟩
 | n + 1, i, h => by
  have hi : i < s.f.length := by omega
  have hm := s.mass_len_f
  have hw := next64 (i := i) (by omega)
  obtain ⟨r, hr, h2⟩ := pg_index s nm hs n (i + 1) (by omega)
  rw [e_F23_1, List.drop_eq_getElem_cons hi, List.find?_cons]
  simp only [O.lt_int, lt_cast, hi, decide_true, Option.bind_some, O.cnd_bool, if_true, O.index_list, Int.natCast_nonneg, Int.toNat_natCast, List.getElem?_map, List.getElem?_eq_getElem hi, Option.map_some, e_F24_0, SFld.proj0, O.sEq_str, O.calls_1, O.add_int, hw, hr]
  by_cases c : s.f[i].nm = nm
  ·refine ⟨i, by simp [c], .inr ⟨i, rfl, by simp [c], by simp [c]⟩⟩
  ·have c' : decide (s.f[i].nm = nm) = false := by simpa using c
   simp only [c', Bool.false_eq_true, if_false]
   exact ⟨r, rfl, h2⟩
theorem pg_field (s : Sch) (nm : ByteArray) (hs : s.mass ≤ 1099511627776) : W F22 0 [s.enc, .str nm] =
  some [(if s.k = 5 ∧ s.it.length = 0 then (s.fld nm).getD zeroSF else zeroSF).enc, .bool (decide (s.k = 5 ∧ s.it.length = 0) && (s.fld nm).isSome)] := by
 obtain ⟨r, hr, h2⟩ := pg_index s nm hs s.f.length 0 (by omega)
 have hr' : W F23 0 [.list (s.f.map SFld.enc), .str nm] = some [.int r] := by
  rw [e_F23_0]
  simpa using hr
 simp only [List.drop_zero] at h2
 have hf : (s.f.find? fun p => decide (p.nm = nm)) = s.fld nm := rfl
 rw [hf] at h2
 have hst := pg_struct s
 rw [e_F22_0]
 simp only [Sch.proj6, Option.bind_some, hr', O.calls_1, O.lt_int, O.cnd_bool, hst, O.not_bool, O.mkagg_eq, ite_some, ite_ivbool]
 rcases h2 with ⟨h3, h4⟩ | ⟨j, rfl, h3, h4⟩
 ·rw [h3]
  simp only [h4, decide_true, if_true, Option.getD_none, ite_self, Option.isSome_none, Bool.and_false]
  rfl
 ·have hj : ¬ (j : Int) < 0 := by omega
  obtain ⟨d, hd⟩ := Option.isSome_iff_exists.1 h4
  rw [hd] at h3 ⊢
  simp only [hj, decide_false, Bool.false_eq_true, if_false, O.index_list, Int.natCast_nonneg, if_true, Int.toNat_natCast, List.getElem?_map, h3, Option.map_some, Option.getD_some, Option.isSome_some, Bool.and_true, Option.bind_some]
  by_cases c1 : s.k = 5 <;> by_cases c2 : s.it.length = 0 <;> simp [c1, c2, zeroSF_enc]
theorem pg_present (v : Val) (nm : ByteArray) (hv : v.mass ≤ 1048576) : ∃ w : Val, W F76 0 [v.enc, .str nm] = some [.int w.k, .int w.n, .str w.s, .list (w.l.map Val.enc), .list (w.f.map Fld.enc), .bool (isHere v nm)] ∧ w = (v.get nm).getD zeroVal := by
 rw [e_F76_0]
 unfold isHere
 refine ⟨_, ?_, rfl⟩
 simp only [pg_get v nm (by omega), getIV, calls_6, O.ne_int, O.cnd_bool, Option.bind_some, ite_some, ite_ivbool]
 cases (v.get nm).isSome <;> simp
theorem pg_contains_1 (l : List ByteArray) (x : ByteArray) (hl : l.length ≤ 1099511627776) : ∀ (n i : Nat), i + n = l.length →
  ∃ r : Int, W F65 1 [.list (l.map .str), .str x, .int l.length, .int i] = some [.int r] ∧ (decide (0 ≤ r) = (l.drop i).any fun e => decide (e = x))
 | 0, i, h => by
  rw [e_F65_1]
  have h1 : ¬ i < l.length := by omega
  refine ⟨-1, by simp [h1], by simp [List.drop_of_length_le (Nat.le_of_not_lt h1)]⟩
 | n + 1, i, h => by
  have hi : i < l.length := by omega
  have hw := next64 (i := i) (by omega)
  obtain ⟨r, hr, h2⟩ := pg_contains_1 l x hl n (i + 1) (by omega)
  rw [e_F65_1, List.drop_eq_getElem_cons hi, List.any_cons]
  simp only [O.lt_int, lt_cast, hi, decide_true, Option.bind_some, O.cnd_bool, if_true, O.index_list, Int.natCast_nonneg, Int.toNat_natCast, List.getElem?_map, List.getElem?_eq_getElem hi, Option.map_some, O.sEq_str, O.add_int, hw, hr]
  by_cases c : x = l[i]
  ·refine ⟨i, by simp [c], by simp [c]⟩
  ·have c' : ¬ l[i] = x := fun h => c h.symm
   simp only [c, decide_false, Bool.false_eq_true, if_false]
   exact ⟨r, rfl, by simp [c', h2]⟩
theorem pg_contains (l : List ByteArray) (x : ByteArray) (hl : l.length ≤ 1099511627776) : W F64 0 [.list (l.map .str), .str x] = some [.bool (l.any fun e => decide (e = x))] := by
 obtain ⟨r, hr, h2⟩ := pg_contains_1 l x hl l.length 0 (by omega)
 have hr' : W F65 0 [.list (l.map .str), .str x] = some [.int r] := by
  rw [e_F65_0]; simpa using hr
 rw [e_F64_0]
 simp only [hr', O.calls_1, O.ge_int, Option.bind_some, h2, List.drop_zero]
def PgE (v : Val) : Prop := v.mass ≤ 1048576 → ∀ (s : Sch), SB s → s.mass ≤ 1048576 → ∀ (p : List Stp) (out : List IV), (∀ x ∈ p, x.fits) → p.length + v.mass ≤ 1073741824 → out.length + (2 + s.mass) * v.size ≤ 4398046511103 →
 W F45 0 [.list out, s.enc, v.enc, .list (p.map Stp.enc)] = some [.list (out ++ errs v s p)]
theorem pg_list_2 (s t : Sch) (v : Val) (p : List Stp) (hv : v.mass ≤ 1048576) (hs : s.mass ≤ 1048576) (ht : s.it = [t]) (hsb : SB s) (hp : ∀ s ∈ p, s.fits) (hl : p.length + v.mass ≤ 1073741824)
  (ih : ∀ x ∈ v.l, PgE x) : ∀ (n i : Nat) (out : List IV) (m : List (ByteArray × Bool)), i + n = v.l.length → out.length + (2 + s.mass) * sizeVs (v.l.drop i) ≤ 4398046511103 →
  (∀ k, (mlook m k).getD false = (v.l.take i).any (sameKey s.key k)) →
  W F66 2 [.list (p.map Stp.enc), .list (v.l.map Val.enc), .int v.l.length, .int i, s.enc, .list (encM m), .list out] = some [.list (out ++ errsL (v.l.drop i) s.key t p (v.l.take i))]
 | 0, i, out, m, h, hb, hM => by
  have h1 : ¬ i < v.l.length := by omega
  rw [e_F66_2, List.drop_of_length_le (by omega), errsL_nil]
  simp only [O.lt_int, lt_cast, h1, decide_false, Option.bind_some, O.cnd_bool, Bool.false_eq_true, if_false, List.append_nil]
 | n + 1, i, out, m, h, hb, hM => by
  have hi : i < v.l.length := by omega
  have hm := v.mass_len_l
  have hw := next64 (i := i) (by omega)
  have hx := Val.mass_l (List.getElem_mem hi)
  have htm : t ∈ s.it := by rw [ht]; simp
  have htmass := Sch.mass_it htm
  have hd := List.drop_eq_getElem_cons hi
  have hkey := s.mass_key
  rw [hd] at hb ⊢
  rw [errsL_cons]
  have hti : (v.l.take i).length = i := by simp; omega
  have htk : v.l.take i ++ [v.l[i]] = v.l.take (i + 1) := by simp
  rw [hti, htk]
  have hq := fits_snoc hp (elStp_fits s.key v.l[i] i (by omega) (by omega))
  have hlen := errs_len v.l[i] t (p ++ [elStp s.key v.l[i] i]) (hsb.mem_it htm)
  have hdl := dupE_len s.key (v.l.take i) v.l[i] (p ++ [elStp s.key v.l[i] i])
  simp only [sizeVs, Nat.mul_add] at hb
  have hsz : (2 + t.mass) * v.l[i].size + 1 ≤ (2 + s.mass) * v.l[i].size := by
   have h1 := v.l[i].size_pos
   have h2 : (3 + t.mass) * v.l[i].size ≤ (2 + s.mass) * v.l[i].size := Nat.mul_le_mul (by omega) (Nat.le_refl _)
   have h3 : (3 + t.mass) * v.l[i].size = (2 + t.mass) * v.l[i].size + v.l[i].size := by rw [show 3 + t.mass = (2 + t.mass) + 1 by omega, Nat.add_mul, Nat.one_mul]
   omega
  have he1 := ih _ (List.getElem_mem hi) (by omega) t (hsb.mem_it htm) (by omega) (p ++ [elStp s.key v.l[i] i]) out hq (by simp; omega) (by omega)
  generalize hE : errs v.l[i] t (p ++ [elStp s.key v.l[i] i]) = es1 at *
  have hany : ∀ k, (v.l.take (i + 1)).any (sameKey s.key k) = ((v.l.take i).any (sameKey s.key k) || sameKey s.key k v.l[i]) := by
   intro k; rw [← htk, List.any_append]; simp
  have go : ∀ (es : List IV) (m' : List (ByteArray × Bool)), es.length ≤ (2 + s.mass) * v.l[i].size → (∀ k, (mlook m' k).getD false = (v.l.take (i + 1)).any (sameKey s.key k)) →
    W F66 4 [.list (p.map Stp.enc), .list (v.l.map Val.enc), .int v.l.length, .int i, s.enc, .list (encM m'), .list (out ++ es)] = some [.list (out ++ (es ++ errsL (v.l.drop (i + 1)) s.key t p (v.l.take (i + 1))))] := by
   intro es m' hes hM'
   have h4 := pg_list_2 s t v p hv hs ht hsb hp hl ih n (i + 1) (out ++ es) m' (by omega) (by rw [List.length_append]; omega) hM'
   rw [e_F66_4]
   simp only [O.add_int, hw, Option.bind_some]
   rw [h4, List.append_assoc]
  have ek : (if isKey v.l[i] s.key = true then !decide (s.key = (⟨#[]⟩ : ByteArray)) else false) = hasKey v.l[i] s.key := by unfold hasKey emptyB; cases isKey v.l[i] s.key <;> simp
  rw [e_F66_2]
  simp only [O.lt_int, lt_cast, hi, decide_true, Option.bind_some, O.cnd_bool, if_true, O.index_list, Int.natCast_nonneg, Int.toNat_natCast, List.getElem?_map, List.getElem?_eq_getElem hi, Option.map_some, pg_element' s v.l[i] i (by omega), O.calls_1, pg_then p (elStp s.key v.l[i] i) (by omega), Sch.proj5, ht, List.map_cons, List.map_nil, Int.le_refl, Int.toNat_zero, List.getElem?_cons_zero, he1, Sch.proj4, pg_key v.l[i] s.key (by omega), O.calls_2, O.sNe_str, ite_some, ite_ivbool, ek, mget_enc, mhas_enc, hM]
  unfold dupE
  cases hk : hasKey v.l[i] s.key with
  | false =>
   simp only [Bool.false_eq_true, if_false, Bool.false_and, List.append_nil]
   refine go es1 m (by omega) fun k => ?_
   rw [hM, hany]
   simp [sameKey, hk]
  | true =>
   have hM' : ∀ k, (mlook (mputB (keyB v.l[i] s.key) true m) k).getD false = (v.l.take (i + 1)).any (sameKey s.key k) := by
    intro k
    rw [mlook_put, hany]
    unfold sameKey at hM ⊢
    by_cases c : keyB v.l[i] s.key = k
    ·simp [c, hk]
    ·simp [c, hM]
   simp only [if_true, Bool.true_and]
   cases hdup : (v.l.take i).any (sameKey s.key (keyB v.l[i] s.key)) with
   | true =>
    simp only [if_true, pg_add _ _ 8 hq (show (p ++ [elStp s.key v.l[i] i]).length ≤ 1099511627776 by simp; omega) (show (out ++ es1).length ≤ 4398046511103 by rw [List.length_append]; omega), O.calls_1, e_F66_3, mset_enc, Option.bind_some]
    have h5 := go (es1 ++ [errAt (p ++ [elStp s.key v.l[i] i]) 8]) _ (by simp; omega) hM'
    simp only [← List.append_assoc] at h5 ⊢
    exact h5
   | false =>
    simp only [Bool.false_eq_true, if_false, e_F66_3, mset_enc, Option.bind_some, List.append_nil]
    exact go es1 _ (by omega) hM'
theorem pg_str_3 (s : Sch) (v : Val) (p : List Stp) (hv : v.mass ≤ 1048576) (hs : s.mass ≤ 1048576) (hp : ∀ s ∈ p, s.fits) (hl : p.length + v.mass ≤ 1073741824) : ∀ (n i : Nat) (out : List IV), i + n = s.f.length → out.length + n ≤ 4398046511103 →
  W F74 3 [.list (p.map Stp.enc), .list (s.f.map SFld.enc), .int s.f.length, .int i, v.enc, .list out] = some [.list (out ++ (s.f.drop i).flatMap (miss1 v p))]
 | 0, i, out, h, hb => by
  have h1 : ¬ i < s.f.length := by omega
  rw [e_F74_3, List.drop_of_length_le (by omega)]
  simp only [Option.bind_some, O.lt_int, lt_cast, h1, decide_false, O.cnd_bool, Bool.false_eq_true, if_false, List.flatMap_nil, List.append_nil]
 | n + 1, i, out, h, hb => by
  have hi : i < s.f.length := by omega
  have hm := s.mass_len_f
  have hw := next64 (i := i) (by omega)
  have hsf := Sch.mass_f (List.getElem_mem hi)
  have hq := fits_snoc hp (fldStp_fits s.f[i].nm (by omega))
  obtain ⟨w, hw1, _⟩ := pg_present v s.f[i].nm hv
  rw [e_F74_3, List.drop_eq_getElem_cons hi, List.flatMap_cons]
  unfold miss1
  have e : (if s.f[i].rq = true then !isHere v s.f[i].nm else false) = (s.f[i].rq && !isHere v s.f[i].nm) := by cases s.f[i].rq <;> simp
  simp only [Option.bind_some, O.lt_int, lt_cast, hi, decide_true, O.cnd_bool, if_true, O.index_list, Int.natCast_nonneg, Int.toNat_natCast, List.getElem?_map, List.getElem?_eq_getElem hi, Option.map_some, SFld.proj0, hw1, calls_6, SFld.proj1, O.not_bool, ite_some, ite_ivbool, pg_member, O.calls_1, pg_then p (fldStp s.f[i].nm) (by omega), pg_add out _ 7 hq (show (p ++ [fldStp s.f[i].nm]).length ≤ 1099511627776 by simp; omega) (by omega), e_F74_4, O.add_int, hw, e]
  cases (s.f[i].rq && !isHere v s.f[i].nm) with
  | true =>
   have h1 := pg_str_3 s v p hv hs hp hl n (i + 1) (out ++ [errAt (p ++ [fldStp s.f[i].nm]) 7]) (by omega) (by simp; omega)
   simp only [if_true, h1, List.append_assoc]
   rfl
  | false =>
   have h1 := pg_str_3 s v p hv hs hp hl n (i + 1) out (by omega) (by omega)
   simp only [Bool.false_eq_true, if_false, h1, List.nil_append]
   rfl
theorem pg_sub (s : Sch) (v : Val) (p : List Stp) (hv : v.mass ≤ 1048576) (hs : s.mass ≤ 1048576) (hsb : SB s) (hp : ∀ s ∈ p, s.fits) (hl : p.length + v.mass ≤ 1073741824) (ih : ∀ x ∈ v.f, PgE x.2) (i : Nat) (hi : i < v.f.length) (out : List IV) (hb : out.length + (2 + s.mass) * v.f[i].2.size ≤ 4398046511103) (t : Sch) (ht : subS s v.f[i].1 = some t) :
  W F45 0 [.list out, t.enc, v.f[i].2.enc, .list ((p ++ [fldStp v.f[i].1]).map Stp.enc)] = some [.list (out ++ errs v.f[i].2 t (p ++ [fldStp v.f[i].1]))] ∧ (errs v.f[i].2 t (p ++ [fldStp v.f[i].1])).length ≤ (2 + s.mass) * v.f[i].2.size := by
 have hm := v.mass_len_f
 have hx := Val.mass_f (List.getElem_mem hi)
 have hq := fits_snoc hp (fldStp_fits v.f[i].1 (by omega))
 have htm := subS_mass ht
 have h2 := errs_len v.f[i].2 t (p ++ [fldStp v.f[i].1]) (hsb.sub ht)
 have h5 : (2 + t.mass) * v.f[i].2.size ≤ (2 + s.mass) * v.f[i].2.size := Nat.mul_le_mul (by omega) (Nat.le_refl _)
 exact ⟨ih _ (List.getElem_mem hi) (by omega) t (hsb.sub ht) (by omega) _ out hq (by simp; omega) (by omega), by omega⟩
theorem pg_dict_1 (s t : Sch) (v : Val) (p : List Stp) (hv : v.mass ≤ 1048576) (hs : s.mass ≤ 1048576) (ht : s.it = [t]) (hsb : SB s) (hp : ∀ s ∈ p, s.fits) (hl : p.length + v.mass ≤ 1073741824)
  (ih : ∀ x ∈ v.f, PgE x.2) : ∀ (n i : Nat) (out : List IV), i + n = v.f.length → out.length + (2 + s.mass) * sizeFs (v.f.drop i) ≤ 4398046511103 →
  W F45 1 [.list (p.map Stp.enc), .list (v.f.map Fld.enc), .int v.f.length, .int i, s.enc, .list out] = some [.list (out ++ errsF (v.f.drop i) s p)]
 | 0, i, out, h, hb => by
  have h1 : ¬ i < v.f.length := by omega
  rw [e_F45_1, List.drop_of_length_le (by omega), errsF_nil]
  simp only [O.lt_int, lt_cast, h1, decide_false, Option.bind_some, O.cnd_bool, Bool.false_eq_true, if_false, List.append_nil]
 | n + 1, i, out, h, hb => by
  have hi : i < v.f.length := by omega
  have hm := v.mass_len_f
  have hw := next64 (i := i) (by omega)
  have hd := List.drop_eq_getElem_cons hi
  rw [hd] at hb ⊢
  rw [errsF_cons]
  simp only [sizeFs, Nat.mul_add] at hb
  have hsub : subS s v.f[i].1 = some t := by unfold subS; rw [ht]
  have key : ∀ es : List IV, es.length ≤ (2 + s.mass) * v.f[i].2.size → W F45 2 [.list (p.map Stp.enc), .list (v.f.map Fld.enc), .int v.f.length, .int i, s.enc, .list (out ++ es)] = some [.list (out ++ (es ++ errsF (v.f.drop (i + 1)) s p))] := by
   intro es hes
   have h4 := pg_dict_1 s t v p hv hs ht hsb hp hl ih n (i + 1) (out ++ es) (by omega) (by rw [List.length_append]; omega)
   rw [e_F45_2]
   simp only [O.add_int, hw, Option.bind_some, h4, List.append_assoc]
  obtain ⟨h1, h2⟩ := pg_sub s v p hv hs hsb hp hl ih i hi out (by omega) t hsub
  rw [e_F45_1]
  unfold err1
  rw [hsub]
  simp only [O.lt_int, lt_cast, hi, decide_true, Option.bind_some, O.cnd_bool, if_true, O.index_list, Int.natCast_nonneg, Int.toNat_natCast, List.getElem?_map, List.getElem?_eq_getElem hi, Option.map_some, Fld.proj1, O.ne_int, Sch.proj5, ht, List.map_cons, List.map_nil, Int.le_refl, Int.toNat_zero, List.getElem?_cons_zero, Fld.projV, Fld.proj0, pg_member, O.calls_1, pg_then p (fldStp v.f[i].1) (by omega), h1]
  by_cases hk : v.f[i].2.k = 0
  ·simp only [hk, decide_true, Bool.not_true, Bool.false_eq_true, if_false, if_true]
   have := key [] (by simp)
   simpa using this
  ·simp only [hk, decide_false, Bool.not_false, if_true, if_false]
   exact key _ h2
theorem pg_str_1 (s : Sch) (v : Val) (p : List Stp) (hv : v.mass ≤ 1048576) (hs : s.mass ≤ 1048576) (hk5 : s.k = 5) (hit : s.it = []) (hsb : SB s) (hp : ∀ s ∈ p, s.fits) (hl : p.length + v.mass ≤ 1073741824)
  (ih : ∀ x ∈ v.f, PgE x.2) : ∀ (n i : Nat) (out : List IV), i + n = v.f.length → out.length + s.f.length + (2 + s.mass) * sizeFs (v.f.drop i) ≤ 4398046511103 →
  W F74 1 [.list (p.map Stp.enc), .list (v.f.map Fld.enc), .int v.f.length, .int i, s.enc, v.enc, .list out] = some [.list (out ++ errsF (v.f.drop i) s p ++ s.f.flatMap (miss1 v p))]
 | 0, i, out, h, hb => by
  have h1 : ¬ i < v.f.length := by omega
  have h3 := pg_str_3 s v p hv hs hp hl s.f.length 0 out (by omega) (by omega)
  simp only [Int.cast_ofNat_Int, List.drop_zero] at h3
  rw [e_F74_1, List.drop_of_length_le (by omega), errsF_nil]
  simp only [O.lt_int, lt_cast, h1, decide_false, Option.bind_some, O.cnd_bool, Bool.false_eq_true, if_false, Sch.proj6, O.len_list, List.length_map, h3, List.append_nil]
 | n + 1, i, out, h, hb => by
  have hi : i < v.f.length := by omega
  have hm := v.mass_len_f
  have hw := next64 (i := i) (by omega)
  have hx := Val.mass_f (List.getElem_mem hi)
  have hd := List.drop_eq_getElem_cons hi
  rw [hd] at hb ⊢
  rw [errsF_cons]
  simp only [sizeFs, Nat.mul_add] at hb
  have hpos := v.f[i].2.size_pos
  have hone : 1 ≤ (2 + s.mass) * v.f[i].2.size := by
   have : 1 * 1 ≤ (2 + s.mass) * v.f[i].2.size := Nat.mul_le_mul (by omega) hpos
   omega
  have hq := fits_snoc hp (fldStp_fits v.f[i].1 (by omega))
  have hsub : subS s v.f[i].1 = (s.fld v.f[i].1).map (·.s) := by unfold subS; rw [hit]
  have key : ∀ es : List IV, es.length ≤ (2 + s.mass) * v.f[i].2.size → W F74 2 [.list (p.map Stp.enc), .list (v.f.map Fld.enc), .int v.f.length, .int i, s.enc, v.enc, .list (out ++ es)] = some [.list (out ++ (es ++ errsF (v.f.drop (i + 1)) s p) ++ s.f.flatMap (miss1 v p))] := by
   intro es hes
   have h4 := pg_str_1 s v p hv hs hk5 hit hsb hp hl ih n (i + 1) (out ++ es) (by omega) (by rw [List.length_append]; omega)
   rw [e_F74_2]
   simp only [O.add_int, hw, Option.bind_some, h4, List.append_assoc]
  rw [e_F74_1]
  unfold err1
  simp only [O.lt_int, lt_cast, hi, decide_true, Option.bind_some, O.cnd_bool, if_true, O.index_list, Int.natCast_nonneg, Int.toNat_natCast, List.getElem?_map, List.getElem?_eq_getElem hi, Option.map_some, Fld.proj0, pg_member, O.calls_1, pg_then p (fldStp v.f[i].1) (by omega), pg_field s v.f[i].1 (by omega), O.calls_2, hk5, hit, List.length_nil, and_self, decide_true, Bool.true_and, O.not_bool, Fld.proj1, O.ne_int, Fld.projV, SFld.projS]
  rw [hsub]
  cases hf : s.fld v.f[i].1 with
  | none =>
   simp only [Option.isSome_none, Bool.not_false, if_true, pg_add out _ 1 hq (show (p ++ [fldStp v.f[i].1]).length ≤ 1099511627776 by simp; omega) (by omega), O.calls_1, Option.map_none]
   exact key _ (by simpa using hone)
  | some d =>
   simp only [Option.isSome_some, Bool.not_true, Bool.false_eq_true, if_false, Option.map_some, Option.getD_some]
   by_cases hk : v.f[i].2.k = 0
   ·simp only [hk, decide_true, Bool.not_true, Bool.false_eq_true, if_false, if_true]
    have := key [] (by simp)
    simpa using this
   ·obtain ⟨h1, h2⟩ := pg_sub s v p hv hs hsb hp hl ih i hi out (by omega) d.s (by rw [hsub, hf]; rfl)
    simp only [hk, decide_false, Bool.not_false, if_true, if_false, h1, O.calls_1]
    exact key _ h2
theorem pg_check : ∀ v : Val, PgE v := by
 refine Val.ind fun v ih1 ih2 hv s hsb hs p out hp hl hb => ?_
 have hpos := v.size_pos
 have hone : 1 ≤ (2 + s.mass) * v.size := by
  have : 1 * 1 ≤ (2 + s.mass) * v.size := Nat.mul_le_mul (by omega) hpos
  omega
 have hat : ∀ c, W F46 0 [.list out, .list (p.map Stp.enc), .int c] = some [.list (out ++ [errAt p c])] := fun c => pg_add out p c hp (by omega) (by omega)
 have hsz := v.size_eq
 have hlf := s.mass_len_f
 have hle := s.mass_len_en
 rw [e_F45_0, errs_eq]
 simp only [Val.proj0, Sch.proj0, Option.bind_some, O.ne_int, O.cnd_bool, hat, O.calls_1]
 by_cases hk : v.k = s.k
 ·simp only [hk, decide_true, Bool.not_true, Bool.false_eq_true, if_false, if_true, O.eq_int, Option.bind_some, O.cnd_bool]
  by_cases k2 : s.k = 2
  ·simp only [k2, decide_true, if_true, Val.proj1, Sch.proj1, Sch.proj2, O.lt_int, O.gt_int, Option.bind_some, O.cnd_bool, ite_some, ite_ivbool, rngE]
   by_cases c1 : v.n < s.mn <;> by_cases c2 : s.mx < v.n <;> simp [c1, c2]
  ·by_cases k3 : s.k = 3
   ·simp only [k3, show ¬ (3 : Int) = 2 by omega, decide_false, Bool.false_eq_true, if_false, decide_true, if_true, Val.proj2, Sch.proj1, Sch.proj2, Sch.proj3, O.len_list, List.length_map, O.slen_str, O.lt_int, O.gt_int, Option.bind_some, O.cnd_bool, ite_some, ite_ivbool, pg_contains s.en v.s (by omega), O.calls_1, O.not_bool]
    have e : decide ((0 : Int) < (s.en.length : Int)) = decide (0 < s.en.length) := by simp
    rw [e]
    by_cases c1 : (v.s.size : Int) < s.mn <;> by_cases c2 : s.mx < (v.s.size : Int) <;> by_cases c3 : 0 < s.en.length <;> cases (s.en.any fun e => decide (e = v.s)) <;> simp [c1, c2, c3]
   ·by_cases k4 : s.k = 4
    ·obtain ⟨t, ht⟩ := List.length_eq_one_iff.1 (hsb.list k4)
     have hb2 : (2 + s.mass) * (1 + sizeVs v.l) ≤ (2 + s.mass) * v.size := Nat.mul_le_mul (Nat.le_refl _) (by omega)
     rw [Nat.mul_add] at hb2
     have hl1 := rngE_len p s v.l.length
     have h2 := pg_list_2 s t v p hv hs ht hsb hp hl ih1 v.l.length 0 (out ++ rngE p s v.l.length) [] (by omega) (by simp only [List.drop_zero, List.length_append]; omega) (fun k => rfl)
     simp only [Int.cast_ofNat_Int, List.drop_zero, List.take_zero] at h2
     have h0 : W F66 0 [.list out, s.enc, v.enc, .list (p.map Stp.enc)] = some [.list (out ++ (rngE p s v.l.length ++ errsL v.l s.key t p []))] := by
      have h3 : ∀ o : List IV, o = out ++ rngE p s v.l.length → W F66 1 [.list (p.map Stp.enc), s.enc, v.enc, .list o] = some [.list (out ++ (rngE p s v.l.length ++ errsL v.l s.key t p []))] := by
       intro o ho
       rw [e_F66_1, ho]
       simp only [Val.proj3, O.len_list, List.length_map, Option.bind_some]
       rw [← List.append_assoc]
       exact h2
      rw [e_F66_0]
      simp only [Val.proj3, Sch.proj1, Sch.proj2, O.len_list, List.length_map, O.lt_int, O.gt_int, Option.bind_some, O.cnd_bool, ite_some, ite_ivbool, hat, O.calls_1]
      by_cases c1 : (v.l.length : Int) < s.mn <;> by_cases c2 : s.mx < (v.l.length : Int) <;> simp only [c1, c2, decide_true, decide_false, if_true, if_false, Bool.false_eq_true] <;> exact h3 _ (by simp [rngE, c1, c2])
     simp only [k4, show ¬ (4 : Int) = 2 by omega, show ¬ (4 : Int) = 3 by omega, decide_false, Bool.false_eq_true, if_false, decide_true, if_true, h0, O.calls_1, ht, List.headD_cons]
    ·by_cases k5 : s.k = 5
     ·have hb2 : (2 + s.mass) * (1 + sizeFs v.f) ≤ (2 + s.mass) * v.size := Nat.mul_le_mul (Nat.le_refl _) (by omega)
      rw [Nat.mul_add] at hb2
      simp only [k5, show ¬ (5 : Int) = 2 by omega, show ¬ (5 : Int) = 3 by omega, show ¬ (5 : Int) = 4 by omega, decide_false, Bool.false_eq_true, if_false, decide_true, if_true, pg_dict, O.calls_1, Bool.true_and, O.cnd_bool]
      cases hit : s.it with
      | nil =>
       have h2 := pg_str_1 s v p hv hs k5 hit hsb hp hl ih2 v.f.length 0 out (by omega) (by simp only [List.drop_zero]; omega)
       simp only [Int.cast_ofNat_Int, List.drop_zero] at h2
       have h0 : W F74 0 [.list out, s.enc, v.enc, .list (p.map Stp.enc)] = some [.list (out ++ (errsF v.f s p ++ s.f.flatMap (miss1 v p)))] := by
        rw [e_F74_0, ← List.append_assoc]
        simp only [Val.proj4, O.len_list, List.length_map, Option.bind_some]
        exact h2
       simp only [List.length_nil, Nat.lt_irrefl, decide_false, Bool.false_eq_true, if_false, h0, O.calls_1]
      | cons t r =>
       have hr : r = [] := by have := hsb.one; rw [hit] at this; simpa using this
       subst hr
       have hnf := hsb.nof (by rw [hit]; simp)
       have h2 := pg_dict_1 s t v p hv hs hit hsb hp hl ih2 v.f.length 0 out (by omega) (by simp only [List.drop_zero]; omega)
       simp only [Int.cast_ofNat_Int, List.drop_zero] at h2
       simp only [List.length_cons, Nat.zero_lt_succ, decide_true, if_true, Val.proj4, O.len_list, List.length_map, Option.bind_some, hnf, List.flatMap_nil, List.append_nil]
       exact h2
     ·simp only [k2, k3, k4, k5, decide_false, Bool.false_eq_true, if_false, pg_dict, O.calls_1, Bool.false_and, O.cnd_bool, List.append_nil]
 ·simp only [hk, decide_false, Bool.not_false, if_true, if_false]
theorem pg_errors (v : Val) (hv : v.mass ≤ 1048576) (s : Sch) (hsb : SB s) (hs : s.mass ≤ 1048576) : W F44 0 [s.enc, v.enc] = some [.list (errs v s [])] := by
 have hsm := v.size_mass
 have hmul : (2 + s.mass) * v.size ≤ 1048578 * 1048576 := Nat.mul_le_mul (by omega) (by omega)
 have h := pg_check v hv s hsb hs [] [] (by simp) (by simp; omega) (by simp; omega)
 simp only [List.map_nil, List.nil_append] at h
 rw [e_F44_0]
 simp only [h, O.calls_1]
end Go.CT.Sch
namespace Go.CT.Sch
open Go.Proofs
def gtPrev (o : Option ByteArray) (x : ByteArray) : Bool := match o with | none => true | some q => blt q x
def enOk (mn mx : Int) : Option ByteArray → List ByteArray → Bool
 | _, [] => true
 | o, x :: r => okStr x && decide (mn ≤ x.size) && decide ((x.size : Int) ≤ mx) && gtPrev o x && enOk mn mx (some x) r
def okDf (x : SFld) : Bool := x.df.all fun v => !decide (v.k = 0) && v.valid && decide ((errs v x.s []).length = 0)
def fOk (g : Sch → Bool) : Option ByteArray → List SFld → Bool
 | _, [] => true
 | o, x :: r => okName x.nm && gtPrev o x.nm && g x.s && decide (x.df.length ≤ 1) && okDf x && fOk g (some x.nm) r
def plainB (s : Sch) : Bool := decide (s.key = emptyB) && decide (s.it.length = 0) && decide (s.f.length = 0)
def rngB (s : Sch) (m : Int) : Bool := decide (0 ≤ s.mn) && decide (s.mn ≤ s.mx) && decide (s.mx ≤ m)
def keyOkB (s : Sch) : Bool := decide (s.key = emptyB) || (match s.it with | t :: _ => decide (t.k = 5) && (t.fld s.key).isSome && ((t.fld s.key).getD zeroSF).rq && decide (((t.fld s.key).getD zeroSF).s.k = 3) | [] => false)
def svalid : Nat → Sch → Bool
 | 0, _ => false
 | d + 1, s =>
  if s.k = 1 then plainB s && decide (s.mn = 0) && decide (s.mx = 0) && decide (s.en.length = 0)
  else if s.k = 2 then plainB s && decide (-1000000000000000 ≤ s.mn) && decide (s.mn ≤ s.mx) && decide (s.mx ≤ 1000000000000000) && decide (s.en.length = 0)
  else if s.k = 3 then plainB s && rngB s 200 && enOk s.mn s.mx none s.en && decide (s.en.length ≤ 64)
  else if s.k = 4 then rngB s 64 && decide (s.en.length = 0) && decide (s.f.length = 0) && decide (s.it.length = 1) && keyOkB s && s.it.all (svalid d)
  else if s.k = 5 then decide (s.mn = 0) && decide (s.mx = 0) && decide (s.en.length = 0) && decide (s.key = emptyB) && decide (s.it.length ≤ 1) && (decide (s.it.length = 0) || decide (s.f.length = 0)) && decide (s.f.length ≤ 64) && s.it.all (svalid d) && fOk (svalid d) none s.f
  else false
def valid (s : Sch) : Bool := svalid 12 s
theorem fOk_mem {g : Sch → Bool} : ∀ {l : List SFld} {o : Option ByteArray}, fOk g o l = true → ∀ x ∈ l, okName x.nm = true ∧ g x.s = true ∧ x.df.length ≤ 1 ∧ okDf x = true
 | [], _, _, x, hx => by simp at hx
 | y :: r, o, h, x, hx => by
  simp only [fOk, Bool.and_eq_true, decide_eq_true_eq] at h
  rcases List.mem_cons.1 hx with rfl | hx
  ·exact ⟨h.1.1.1.1.1, h.1.1.1.2, h.1.1.2, h.1.2⟩
  ·exact fOk_mem h.2 x hx
theorem svalid_SB : ∀ (d : Nat) (s : Sch), svalid d s = true → SB s
 | 0, s, h => by simp [svalid] at h
 | d + 1, s, h => by
  have leaf : s.k ≠ 4 → plainB s = true → SB s := fun h4 h => by
   simp only [plainB, Bool.and_eq_true, decide_eq_true_eq] at h
   have h1 : s.it = [] := List.length_eq_zero_iff.1 h.1.2
   have h2 : s.f = [] := List.length_eq_zero_iff.1 h.2
   exact .mk s (by omega) (fun e => absurd h1 e) (fun e => absurd e h4) (by simp [h1]) (by simp [h2])
  unfold svalid at h
  split at h
  ·simp only [Bool.and_eq_true] at h; exact leaf (by omega) h.1.1.1
  ·split at h
   ·simp only [Bool.and_eq_true] at h; exact leaf (by omega) h.1.1.1.1
   ·split at h
    ·simp only [Bool.and_eq_true] at h; exact leaf (by omega) h.1.1.1
    ·split at h
     ·simp only [Bool.and_eq_true, decide_eq_true_eq, List.all_eq_true] at h
      have h2 : s.f = [] := List.length_eq_zero_iff.1 h.1.1.1.2
      exact .mk s (by omega) (fun _ => h2) (fun _ => h.1.1.2) (fun x hx => svalid_SB d x (h.2 x hx)) (by simp [h2])
     ·split at h
      ·simp only [Bool.and_eq_true, decide_eq_true_eq, List.all_eq_true, Bool.or_eq_true] at h
       refine .mk s h.1.1.1.1.2 (fun e => ?_) (fun e => by omega) (fun x hx => svalid_SB d x (h.1.2 x hx)) (fun p hp => svalid_SB d p.s (fOk_mem h.2 p hp).2.1)
       rcases h.1.1.1.2 with h1 | h1
       ·exact absurd (List.length_eq_zero_iff.1 h1) e
       ·exact List.length_eq_zero_iff.1 h1
      ·cases h
def prevS (l : List SFld) : Nat → Option ByteArray
 | 0 => none
 | i + 1 => (l[i]?).map (·.nm)
def prevE (l : List ByteArray) : Nat → Option ByteArray
 | 0 => none
 | i + 1 => l[i]?
end Go.CT.Sch
namespace Go.CT.Sch
open Go.Proofs
theorem named_valid (nm : ByteArray) : (mapV [(nm, zeroVal)]).valid = okName nm := by
 have h1 : mapL [(nm, zeroVal)] = [(nm, zeroVal)] := mapL_id (List.pairwise_singleton _ _)
 unfold mapV
 rw [h1]
 unfold Val.valid
 have h2 : validD 11 zeroVal = true := by decide
 simp only [validD, Val.k_mk, Val.n_mk, Val.s_mk, Val.l_mk, Val.f_mk, okScalar, List.all_cons, List.all_nil, h2, rising, Val.size, sizeVs, sizeFs, zeroVal]
 simp
theorem pg_named (nm : ByteArray) (hn : nm.size ≤ 1048576) (K : IV → Option (List IV)) : (O.mkagg [.str nm, (.int 0), (.int 0), (.str ⟨#[]⟩), (.list []), (.list [])]).bind (fun x8 =>
  (O.mklist [x8]).bind fun x9 =>
  calls (W F30 0 [x9]) 5 fun x10 x11 x12 x13 x14 =>
  (O.mkagg [x10, x11, x12, x13, x14]).bind fun x15 =>
  calls (W F15 0 [x15]) 1 K) = K (.bool (okName nm)) := by
 have e : IV.agg [.str nm, (.int 0), (.int 0), (.str ⟨#[]⟩), (.list []), (.list [])] = Fld.enc (nm, zeroVal) := rfl
 have hmass : massFs [(nm, zeroVal)] ≤ 4294967200 := by
  rw [massFs_cons, massFs_nil, Val.mass_eq]
  simp only [zeroVal, Val.s_mk, Val.l_mk, Val.f_mk, massVs_nil, massFs_nil, show emptyB.size = 0 from rfl]; omega
 have h1 := val_map [(nm, zeroVal)] hmass
 have h2 : (mapV [(nm, zeroVal)]).mass ≤ 1099511627776 := by have := mapV_mass [(nm, zeroVal)]; omega
 have h3 := pv_Valid _ h2
 rw [named_valid] at h3
 rw [Val.comps_eq] at h1
 simp only [List.map_cons, List.map_nil] at h1
 simp only [O.mkagg_eq, O.mklist_eq, Option.bind_some, e, h1, O.calls_5, Val.fold_eta, h3, O.calls_1]
theorem pg_bounded (s : Sch) (m : Int) : W F12 0 [s.enc, .int m] = some [.bool (rngB s m)] := by
 rw [e_F12_0]
 simp only [Sch.proj1, Sch.proj2, O.le_int, Option.bind_some, O.cnd_bool, ite_some, ite_ivbool]
 congr 3
 unfold rngB
 rw [Bool.eq_iff_iff]; simp [and_assoc]
theorem pg_enum_1 (s : Sch) (hs : s.mass ≤ 1048576) : ∀ (n i : Nat), i + n = s.en.length →
  W F13 1 [.list (s.en.map .str), .int s.en.length, .int i, s.enc] = some [.bool (enOk s.mn s.mx (prevE s.en i) (s.en.drop i) && decide (s.en.length ≤ 64))]
 | 0, i, h => by
  have h1 : ¬ i < s.en.length := by omega
  rw [e_F13_1, List.drop_of_length_le (by omega)]
  simp only [Sch.proj3, O.len_list, List.length_map, Option.bind_some, O.lt_int, lt_cast, h1, decide_false, O.cnd_bool, Bool.false_eq_true, if_false, O.le_int, enOk, Bool.true_and]
  congr 3
  rw [Bool.eq_iff_iff]; simp; omega
 | n + 1, i, h => by
  have hi : i < s.en.length := by omega
  have hm := s.mass_len_en
  have hw := next64 (i := i) (by omega)
  have ih := pg_enum_1 s hs n (i + 1) (by omega)
  have hx := Sch.mass_en (List.getElem_mem hi)
  have hpe : prevE s.en (i + 1) = some s.en[i] := by simp [prevE, hi]
  rw [hpe] at ih
  have e : IV.agg [.int 3, .int 0, .str s.en[i], .list [], .list []] = Val.enc ⟨3, 0, s.en[i], [], []⟩ := rfl
  have hv := pv_Valid ⟨3, 0, s.en[i], [], []⟩ (by rw [Val.mass_eq]; simp [massVs_nil, massFs_nil]; omega)
  rw [str_valid] at hv
  have hix : O.index (.list (s.en.map .str)) (.int i) = some (.str s.en[i]) := by
   simp only [O.index_list, Int.natCast_nonneg, if_true, Int.toNat_natCast, List.getElem?_map, List.getElem?_eq_getElem hi, Option.map_some]
  have hord : ∀ (K : IV → Option IV), ((O.gt (.int i) (.int 0)).bind fun x10 =>
    (cnd x10 (
      (O.proj 3 s.enc).bind fun x11 =>
      (O.sub .i64 (.int i) (.int 1)).bind fun x12 =>
      (O.index x11 x12).bind fun x13 =>
      (O.sGe x13 (.str s.en[i])).bind fun x14 =>
      some x14) (some (.bool false))).bind K) = K (.bool (!gtPrev (prevE s.en i) s.en[i])) := by
   intro K
   cases i with
   | zero => simp [prevE, gtPrev]
   | succ j =>
    have hj : j < s.en.length := by omega
    have hw2 : IntKind.i64.wrap (((j + 1 : Nat) : Int) - 1) = j := by rw [wrap64 (by omega) (by omega)]; omega
    have hp : (0 : Int) < ((j + 1 : Nat) : Int) := by omega
    simp only [Sch.proj3, prevE, List.getElem?_eq_getElem hj, Option.map_some, gtPrev, O.gt_int, hp, decide_true, Option.bind_some, O.cnd_bool, if_true, O.sub_int, hw2, O.index_list, Int.natCast_nonneg, Int.toNat_natCast, List.getElem?_map, sGe_blt]
  rw [e_F13_1, List.drop_eq_getElem_cons hi]
  simp only [enOk, Option.bind_some, O.lt_int, lt_cast, hi, decide_true, O.cnd_bool, if_true, hix]
  simp only [hord]
  simp only [O.slen_str, Sch.proj1, Sch.proj2, Option.bind_some, O.lt_int, O.gt_int, O.cnd_bool, e_F14_0, O.calls_5, O.mkagg_eq, e, hv, O.calls_1, O.not_bool, O.add_int, hw, ih]
  by_cases c1 : s.mn ≤ (s.en[i].size : Int) <;> by_cases c2 : (s.en[i].size : Int) ≤ s.mx <;> cases okStr s.en[i] <;> cases gtPrev (prevE s.en i) s.en[i] <;> simp [c1, c2, Int.not_lt.2, Int.not_le.1]
theorem pg_enum (s : Sch) (hs : s.mass ≤ 1048576) : W F13 0 [s.enc] = some [.bool (enOk s.mn s.mx none s.en && decide (s.en.length ≤ 64))] := by
 have h := pg_enum_1 s hs s.en.length 0 (by omega)
 simp only [Int.cast_ofNat_Int, List.drop_zero, prevE] at h
 rw [e_F13_0]
 simp only [Sch.proj3, O.len_list, List.length_map, Option.bind_some]
 exact h
theorem pg_keyed (s t : Sch) (hs : s.mass ≤ 1048576) (ht : s.it = [t]) (hsb : SB t) : W F21 0 [s.enc] = some [.bool (keyOkB s)] := by
 have hmt := Sch.mass_it (show t ∈ s.it by rw [ht]; simp)
 have hfd := pg_field t s.key (by omega)
 rw [e_F21_0]
 unfold keyOkB
 simp only [Sch.proj5, ht, List.map_cons, List.map_nil, O.index_list, Int.le_refl, if_true, Int.toNat_zero, List.getElem?_cons_zero, Option.bind_some, Sch.proj4, hfd, O.calls_2, O.sEq_str, O.cnd_bool, SFld.proj1, SFld.proj4, O.eq_int, ite_some, ite_ivbool, emptyB_eq]
 congr 3
 by_cases c : s.key = emptyB
 ·simp [c]
 ·by_cases c2 : t.k = 5
  ·by_cases c3 : t.it.length = 0
   ·cases (t.fld s.key).isSome <;> cases hrq : ((t.fld s.key).getD zeroSF).rq <;> simp [c, c2, c3, hrq]
   ·have hnf : t.f = [] := hsb.nof fun e => c3 (by rw [e]; rfl)
    have hfl : t.fld s.key = none := by unfold Sch.fld; rw [hnf]; rfl
    simp [c, c2, c3, hfl]
  ·simp [c, c2]
theorem pg_fields_2 (d : Nat) (s : Sch) (hd : d ≤ 12) (hs : s.mass ≤ 1048576) (i : Nat) (hi : i < s.f.length) (hsb : SB s.f[i].s) : ∀ (n j : Nat), j + n = s.f[i].df.length →
  W F29 2 [.int d, .list (s.f.map SFld.enc), .int s.f.length, .int i, .list (s.f[i].df.map Val.enc), .int s.f[i].df.length, .int j, s.enc, s.f[i].enc]
   = if ((s.f[i].df.drop j).all fun v => !decide (v.k = 0) && v.valid && decide ((errs v s.f[i].s []).length = 0)) = true then W F29 1 [.int d, .list (s.f.map SFld.enc), .int s.f.length, .int ((i + 1 : Nat) : Int), s.enc] else some [.bool false]
 | 0, j, h => by
  have h1 : ¬ j < s.f[i].df.length := by omega
  have hm := s.mass_len_f
  have hw := next64 (i := i) (by omega)
  rw [e_F29_2, List.drop_of_length_le (by omega)]
  simp only [O.lt_int, lt_cast, h1, decide_false, Option.bind_some, O.cnd_bool, Bool.false_eq_true, if_false, O.add_int, hw, List.all_nil, if_true]
 | n + 1, j, h => by
  have hj : j < s.f[i].df.length := by omega
  have hm := Sch.mass_f (List.getElem_mem hi)
  have hl := bulk_mem (List.mem_map_of_mem (f := Val.enc) (List.getElem_mem hj))
  have hvm := Sch.mass_d (List.getElem_mem hi) (List.getElem_mem hj)
  have hlen : s.f[i].df.length ≤ massVs s.f[i].df := by have := length_le_bulks (s.f[i].df.map Val.enc); rw [List.length_map] at this; exact this
  have hw := next64 (i := j) (by omega)
  have ih := pg_fields_2 d s hd hs i hi hsb n (j + 1) (by omega)
  have hV := pv_Valid s.f[i].df[j] (by omega)
  have he := pg_errors s.f[i].df[j] (by omega) s.f[i].s hsb (by omega)
  rw [e_F29_2, List.drop_eq_getElem_cons hj, List.all_cons]
  simp only [O.lt_int, lt_cast, hj, decide_true, Option.bind_some, O.cnd_bool, if_true, O.index_list, Int.natCast_nonneg, Int.toNat_natCast, List.getElem?_map, List.getElem?_eq_getElem hj, Option.map_some, Val.proj0, O.eq_int, hV, O.calls_1, O.not_bool, SFld.projS, he, O.len_list, O.gt_int, O.add_int, hw, ih]
  by_cases k0 : s.f[i].df[j].k = 0
  ·simp [k0]
  ·cases hval : s.f[i].df[j].valid with
   | false => simp [k0]
   | true =>
    by_cases hz : (errs s.f[i].df[j] s.f[i].s []).length = 0
    ·simp [k0, List.length_eq_zero_iff.1 hz]
    ·have hz' : 0 < (errs s.f[i].df[j] s.f[i].s []).length := Nat.pos_of_ne_zero hz
     have hz2 : ¬ errs s.f[i].df[j] s.f[i].s [] = [] := fun h => hz (by rw [h]; rfl)
     simp [k0, hz', hz2]
theorem pg_fields_1 (d : Nat) (s : Sch) (hd : d ≤ 12) (hs : s.mass ≤ 1048576) (ih : ∀ p ∈ s.f, W F11 0 [p.s.enc, .int d] = some [.bool (svalid d p.s)]) : ∀ (n i : Nat), i + n = s.f.length →
  W F29 1 [.int d, .list (s.f.map SFld.enc), .int s.f.length, .int i, s.enc] = some [.bool (fOk (svalid d) (prevS s.f i) (s.f.drop i))]
 | 0, i, h => by
  have h1 : ¬ i < s.f.length := by omega
  rw [e_F29_1, List.drop_of_length_le (by omega)]
  simp only [O.lt_int, lt_cast, h1, decide_false, Option.bind_some, O.cnd_bool, Bool.false_eq_true, if_false, fOk]
 | n + 1, i, h => by
  have hi : i < s.f.length := by omega
  have hm := s.mass_len_f
  have hx := Sch.mass_f (List.getElem_mem hi)
  have hrec := pg_fields_1 d s hd hs ih n (i + 1) (by omega)
  have hpe : prevS s.f (i + 1) = some s.f[i].nm := by simp [prevS, hi]
  rw [hpe] at hrec
  have hv := ih _ (List.getElem_mem hi)
  have hix : O.index (.list (s.f.map SFld.enc)) (.int i) = some s.f[i].enc := by
   simp only [O.index_list, Int.natCast_nonneg, if_true, Int.toNat_natCast, List.getElem?_map, List.getElem?_eq_getElem hi, Option.map_some]
  have hord : ∀ (K : IV → Option IV), ((O.gt (.int i) (.int 0)).bind fun x18 =>
    (cnd x18 (
      (O.proj 6 s.enc).bind fun x19 =>
      (O.sub .i64 (.int i) (.int 1)).bind fun x20 =>
      (O.index x19 x20).bind fun x21 =>
      (O.proj 0 x21).bind fun x22 =>
      (O.sGe x22 (.str s.f[i].nm)).bind fun x23 =>
      some x23) (some (.bool false))).bind K) = K (.bool (!gtPrev (prevS s.f i) s.f[i].nm)) := by
   intro K
   cases i with
   | zero => simp [prevS, gtPrev]
   | succ j =>
    have hj : j < s.f.length := by omega
    have hw2 : IntKind.i64.wrap (((j + 1 : Nat) : Int) - 1) = j := by rw [wrap64 (by omega) (by omega)]; omega
    have hp : (0 : Int) < ((j + 1 : Nat) : Int) := by omega
    simp only [Sch.proj6, prevS, List.getElem?_eq_getElem hj, Option.map_some, gtPrev, O.gt_int, hp, decide_true, Option.bind_some, O.cnd_bool, if_true, O.sub_int, hw2, O.index_list, Int.natCast_nonneg, Int.toNat_natCast, List.getElem?_map, SFld.proj0, sGe_blt]
  rw [e_F29_1, List.drop_eq_getElem_cons hi]
  simp only [O.lt_int, lt_cast, hi, decide_true, Option.bind_some, O.cnd_bool, if_true, hix, SFld.proj0, fOk]
  rw [pg_named s.f[i].nm (by omega)]
  simp only [O.not_bool, Option.bind_some]
  simp only [hord]
  simp only [SFld.proj3, SFld.projS, O.calls_1, O.not_bool, O.cnd_bool, hv, O.len_list, List.length_map, O.gt_int, Option.bind_some]
  cases okName s.f[i].nm with
  | false => simp
  | true =>
   cases gtPrev (prevS s.f i) s.f[i].nm with
   | false => simp
   | true =>
    cases hsv : svalid d s.f[i].s with
    | false => simp
    | true =>
     by_cases hlen : s.f[i].df.length ≤ 1
     ·have hlen' : ¬ (1 : Int) < s.f[i].df.length := by omega
      have h2 := pg_fields_2 d s hd hs i hi (svalid_SB d _ hsv) s.f[i].df.length 0 (by omega)
      simp only [Int.cast_ofNat_Int, List.drop_zero, hrec] at h2
      simp only [Bool.not_true, Bool.false_eq_true, if_false, hlen', decide_false, Option.bind_some, O.cnd_bool, h2, okDf, hlen, decide_true, Bool.true_and]
      cases (s.f[i].df.all fun v => !decide (v.k = 0) && v.valid && decide ((errs v s.f[i].s []).length = 0)) <;> simp
     ·have hlen' : (1 : Int) < s.f[i].df.length := by omega
      simp [hlen', hlen]
theorem pg_items (d : Nat) (s : Sch) (hd : d ≤ 12) (hs : s.mass ≤ 1048576) (hl : s.it.length ≤ 1) (ih : ∀ t ∈ s.it, W F11 0 [t.enc, .int d] = some [.bool (svalid d t)]) :
  W F26 0 [.list (s.it.map Sch.enc), .int ((d + 1 : Nat) : Int)] = some [.bool (!s.it.all (svalid d))] := by
 have hwd : IntKind.i64.wrap (((d + 1 : Nat) : Int) - 1) = (d : Int) := by rw [wrap64 (by omega) (by omega)]; omega
 rw [e_F26_0, e_F27_0]
 cases hit : s.it with
 | nil =>
  simp only [List.map_nil, O.len_list, List.length_nil, Option.bind_some, Int.cast_ofNat_Int]
  rw [e_F27_1]
  simp
 | cons t r =>
  have hr : r = [] := by rw [hit] at hl; simpa using hl
  subst hr
  have h1 := ih t (by rw [hit]; simp)
  have h2 : W F28 0 [t.enc, .int ((d + 1 : Nat) : Int)] = some [.bool (!svalid d t)] := by
   rw [e_F28_0]
   simp only [O.sub_int, hwd, Option.bind_some, h1, O.calls_1, O.not_bool]
  have h3 : IntKind.i64.wrap (0 + 1) = 1 := by decide
  simp only [List.map_cons, List.map_nil, O.len_list, List.length_cons, List.length_nil, Nat.zero_add, Int.cast_ofNat_Int, Option.bind_some]
  rw [e_F27_1]
  simp only [O.lt_int, show (0 : Int) < 1 by omega, decide_true, Option.bind_some, O.cnd_bool, if_true, O.index_list, Int.le_refl, Int.toNat_zero, List.getElem?_cons_zero, h2, O.calls_1, O.add_int, h3]
  cases hsv : svalid d t with
  | true =>
   simp only [Bool.not_true, Bool.false_eq_true, if_false]
   rw [e_F27_1]
   simp [hsv]
  | false => simp [hsv]
theorem egP (k : Int) (a b c : Nat) (e : Bool) : (if (if (if (if (!decide (k = 3)) = true then decide ((0 : Int) < (a : Int)) else false) = true then true else if (!decide (k = 4)) = true then !e else false) = true then true else if (!decide (k = 5)) = true then decide ((0 : Int) < (b : Int)) else false) = true then true else if (if (!decide (k = 5)) = true then !decide (k = 4) else false) = true then decide ((0 : Int) < (c : Int)) else false)
  = !(decide (k = 3 ∨ a = 0) && (decide (k = 4) || e) && decide (k = 5 ∨ b = 0) && decide (k = 5 ∨ k = 4 ∨ c = 0)) := by
 cases e
 ·by_cases k4 : k = 4
  ·rw [Bool.eq_iff_iff]; simp [k4]; omega
  ·simp [k4]
 ·rw [Bool.eq_iff_iff]; simp; omega
theorem egM (mn mx : Int) (b c : Nat) : (if (if (if (if (!decide (mn = 0)) = true then true else !decide (mx = 0)) = true then true else decide ((1 : Int) < (b : Int))) = true then true else if decide ((b : Int) = 1) = true then decide ((0 : Int) < (c : Int)) else false) = true then true else decide ((64 : Int) < (c : Int)))
  = !(decide (mn = 0) && decide (mx = 0) && decide (b ≤ 1) && (decide (b = 0) || decide (c = 0)) && decide (c ≤ 64)) := by
 rw [Bool.eq_iff_iff]; simp; omega
theorem pg_svalid : ∀ (d : Nat) (s : Sch), d ≤ 12 → s.mass ≤ 1048576 → W F11 0 [s.enc, .int d] = some [.bool (svalid d s)]
 | 0, s, hd, hs => by rw [e_F11_0]; simp [svalid]
 | d + 1, s, hd, hs => by
  have hd0 : ¬ ((d + 1 : Nat) : Int) = 0 := by omega
  have hwd : IntKind.i64.wrap (((d + 1 : Nat) : Int) - 1) = (d : Int) := by rw [wrap64 (by omega) (by omega)]; omega
  have hit : ∀ t ∈ s.it, W F11 0 [t.enc, .int d] = some [.bool (svalid d t)] := fun t ht => pg_svalid d t (by omega) (by have := Sch.mass_it ht; omega)
  have hif : ∀ p ∈ s.f, W F11 0 [p.s.enc, .int d] = some [.bool (svalid d p.s)] := fun p hp => pg_svalid d p.s (by omega) (by have := Sch.mass_f hp; omega)
  have hfs := pg_fields_1 d s (by omega) hs hif s.f.length 0 (by omega)
  simp only [Int.cast_ofNat_Int, List.drop_zero, prevS] at hfs
  have hfs' : W F29 0 [s.enc, .int d] = some [.bool (fOk (svalid d) none s.f)] := by
   rw [e_F29_0]
   simp only [Sch.proj6, O.len_list, List.length_map, Option.bind_some]
   exact hfs
  rw [e_F11_0]
  unfold svalid
  simp only [O.eq_int, O.ne_int, hd0, decide_false, Option.bind_some, O.cnd_bool, Bool.false_eq_true, if_false, Sch.proj0, Sch.proj3, Sch.proj4, Sch.proj5, Sch.proj6, O.len_list, List.length_map, O.gt_int, O.sNe_str, ite_some, ite_ivbool, emptyB_eq, egP]
  cases hg : (decide (s.k = 3 ∨ s.en.length = 0) && (decide (s.k = 4) || decide (s.key = emptyB)) && decide (s.k = 5 ∨ s.f.length = 0) && decide (s.k = 5 ∨ s.k = 4 ∨ s.it.length = 0)) with
  | false =>
   simp only [Bool.not_false, if_true]
   by_cases k1 : s.k = 1
   ·simp only [k1, if_true, plainB]
    simp [k1] at hg
    congr 3
    rw [eq_comm, Bool.eq_false_iff]
    intro h
    simp at h
    simp [h] at hg
   ·by_cases k2 : s.k = 2
    ·simp only [k2, show ¬ (2 : Int) = 1 by omega, if_false, if_true, plainB]
     simp [k2] at hg
     congr 3
     rw [eq_comm, Bool.eq_false_iff]
     intro h
     simp at h
     simp [h] at hg
    ·by_cases k3 : s.k = 3
     ·simp only [k3, show ¬ (3 : Int) = 1 by omega, show ¬ (3 : Int) = 2 by omega, if_false, if_true, plainB]
      simp [k3] at hg
      congr 3
      rw [eq_comm, Bool.eq_false_iff]
      intro h
      simp at h
      simp [h] at hg
     ·by_cases k4 : s.k = 4
      ·simp only [k4, show ¬ (4 : Int) = 1 by omega, show ¬ (4 : Int) = 2 by omega, show ¬ (4 : Int) = 3 by omega, if_false, if_true]
       simp [k4] at hg
       congr 3
       rw [eq_comm, Bool.eq_false_iff]
       intro h
       simp at h
       simp [h] at hg
      ·by_cases k5 : s.k = 5
       ·simp only [k5, show ¬ (5 : Int) = 1 by omega, show ¬ (5 : Int) = 2 by omega, show ¬ (5 : Int) = 3 by omega, show ¬ (5 : Int) = 4 by omega, if_false, if_true]
        simp [k5] at hg
        congr 3
        rw [eq_comm, Bool.eq_false_iff]
        intro h
        simp at h
        simp [h] at hg
       ·simp [k1, k2, k3, k4, k5]
  | true =>
   simp only [Bool.and_eq_true, Bool.or_eq_true, decide_eq_true_eq] at hg
   obtain ⟨⟨⟨g1, g2⟩, g3⟩, g4⟩ := hg
   simp only [Bool.not_true, Bool.false_eq_true, if_false, Sch.proj1, Sch.proj2, Option.bind_some, O.eq_int, O.le_int, O.ne_int, O.cnd_bool, pg_bounded, pg_enum s hs, O.calls_1, ite_some, ite_ivbool]
   by_cases k1 : s.k = 1
   ·simp only [k1, decide_true, if_true, plainB]
    rcases g1 with g1 | g1
    ·omega
    ·rcases g2 with g2 | g2
     ·omega
     ·rcases g3 with g3 | g3
      ·omega
      ·rcases g4 with g4 | g4 | g4
       ·omega
       ·omega
       ·simp only [g1, g2, g3, g4, decide_true, Bool.true_and, Bool.and_true]
        congr 3
        rw [Bool.eq_iff_iff]; simp
   ·by_cases k2 : s.k = 2
    ·simp only [k2, show ¬ (2 : Int) = 1 by omega, decide_false, Bool.false_eq_true, if_false, decide_true, if_true, plainB]
     rcases g1 with g1 | g1
     ·omega
     ·rcases g2 with g2 | g2
      ·omega
      ·rcases g3 with g3 | g3
       ·omega
       ·rcases g4 with g4 | g4 | g4
        ·omega
        ·omega
        ·simp only [g1, g2, g3, g4, decide_true, Bool.true_and, Bool.and_true]
         congr 3
         rw [Bool.eq_iff_iff]; simp [and_assoc]
    ·by_cases k3 : s.k = 3
     ·simp only [k3, show ¬ (3 : Int) = 1 by omega, show ¬ (3 : Int) = 2 by omega, decide_false, Bool.false_eq_true, if_false, decide_true, if_true, plainB]
      rcases g2 with g2 | g2
      ·omega
      ·rcases g3 with g3 | g3
       ·omega
       ·rcases g4 with g4 | g4 | g4
        ·omega
        ·omega
        ·simp only [g2, g3, g4, decide_true, Bool.true_and, Bool.and_true]
         cases rngB s 200 <;> simp
     ·by_cases k4 : s.k = 4
      ·have g1' : s.en.length = 0 := by rcases g1 with h | h; exact absurd h k3; exact h
       have g3' : s.f.length = 0 := by rcases g3 with h | h; exact absurd h (by omega); exact h
       simp only [k4, show ¬ (4 : Int) = 1 by omega, show ¬ (4 : Int) = 2 by omega, show ¬ (4 : Int) = 3 by omega, decide_false, Bool.false_eq_true, if_false, decide_true, if_true, g1', g3', Bool.and_true]
       cases rngB s 64 with
       | false => simp
       | true =>
        by_cases h1 : s.it.length = 1
        ·obtain ⟨t, ht⟩ := List.length_eq_one_iff.1 h1
         have h2 := hit t (by rw [ht]; simp)
         have h1' : (s.it.length : Int) = 1 := by omega
         simp only [if_true, h1', decide_true, ht, List.map_cons, List.map_nil, O.index_list, Int.le_refl, Int.toNat_zero, List.getElem?_cons_zero, Option.bind_some, O.sub_int, hwd, h2, O.calls_1, O.cnd_bool, List.all_cons, List.all_nil, Bool.and_true, Bool.true_and, List.length_cons, List.length_nil]
         cases hsv : svalid d t with
         | false => simp
         | true =>
          have hk := pg_keyed s t hs ht (svalid_SB d t hsv)
          simp [hk]
        ·have h1' : ¬ (s.it.length : Int) = 1 := by omega
         simp [h1, h1']
      ·by_cases k5 : s.k = 5
       ·have g1' : s.en.length = 0 := by rcases g1 with h | h; exact absurd h k3; exact h
        have g2' : s.key = emptyB := by rcases g2 with h | h; exact absurd h k4; exact h
        simp only [k5, show ¬ (5 : Int) = 1 by omega, show ¬ (5 : Int) = 2 by omega, show ¬ (5 : Int) = 3 by omega, show ¬ (5 : Int) = 4 by omega, decide_false, Bool.false_eq_true, if_false, decide_true, if_true, g1', g2', Bool.and_true]
        have eg := egM s.mn s.mx s.it.length s.f.length
        rw [eg]
        cases hg5 : (decide (s.mn = 0) && decide (s.mx = 0) && decide (s.it.length ≤ 1) && (decide (s.it.length = 0) || decide (s.f.length = 0)) && decide (s.f.length ≤ 64)) with
        | false => simp
        | true =>
         simp only [Bool.and_eq_true, Bool.or_eq_true, decide_eq_true_eq] at hg5
         have h2 := pg_items d s (by omega) hs hg5.1.1.2 hit
         simp only [Bool.not_true, Bool.false_eq_true, if_false, h2, O.calls_1, O.not_bool, Bool.not_not, Option.bind_some, O.cnd_bool, O.sub_int, hwd, hfs', ite_some, ite_ivbool, Bool.true_and]
         cases s.it.all (svalid d) <;> simp
       ·simp only [k1, k2, k3, k4, k5, decide_false, Bool.false_eq_true, if_false]
theorem pg_Svalid (s : Sch) (hs : s.mass ≤ 1048576) : W F10 0 [s.enc] = some [.bool s.valid] := by
 rw [e_F10_0]
 have : W F11 0 [s.enc, .int 12] = some [.bool s.valid] := pg_svalid 12 s (by omega) hs
 simp only [this, O.calls_1]
end Go.CT.Sch
namespace Go.CT.Sch
open Go.Proofs
theorem validD_succ (d : Nat) (v : Val) : validD (d + 1) v = true ↔ okScalar v = true ∧ (v.l.length ≤ 64 ∧ v.f.length ≤ 64 ∧ (v.k ≠ 4 → v.l = []) ∧ (v.k ≠ 5 → v.f = [])) ∧ (∀ x ∈ v.l, validD d x = true) ∧ (∀ p ∈ v.f, okName p.1 = true ∧ validD d p.2 = true) ∧ rising v.f = true := by
 rw [validD]
 simp only [Bool.and_eq_true, List.all_eq_true, decide_eq_true_eq]
 constructor
 ·rintro ⟨⟨⟨⟨a, b⟩, c⟩, d⟩, e⟩; exact ⟨a, b, c, d, e⟩
 ·rintro ⟨a, b, c, d, e⟩; exact ⟨⟨⟨⟨a, b⟩, c⟩, d⟩, e⟩
theorem validD_mono : ∀ (d : Nat) (v : Val), validD d v = true → validD (d + 1) v = true
 | 0, v, h => by simp [validD] at h
 | d + 1, v, h => by
  rw [validD_succ] at h ⊢
  exact ⟨h.1, h.2.1, fun x hx => validD_mono d x (h.2.2.1 x hx), fun p hp => ⟨(h.2.2.2.1 p hp).1, validD_mono d p.2 (h.2.2.2.1 p hp).2⟩, h.2.2.2.2⟩
theorem valid_iff (v : Val) : v.valid = true ↔ validD 12 v = true ∧ v.size ≤ 600 := by
 unfold Val.valid; simp only [Bool.and_eq_true, decide_eq_true_eq]
theorem valid_l {v x : Val} (h : v.valid = true) (hx : x ∈ v.l) : x.valid = true := by
 rw [valid_iff] at h ⊢
 have h1 := (validD_succ 11 v).1 h.1
 have := Val.size_l hx
 exact ⟨validD_mono 11 x (h1.2.2.1 x hx), by omega⟩
theorem valid_f {v : Val} {p : ByteArray × Val} (h : v.valid = true) (hp : p ∈ v.f) : p.2.valid = true ∧ okName p.1 = true := by
 rw [valid_iff] at h ⊢
 have h1 := (validD_succ 11 v).1 h.1
 have := Val.size_f hp
 exact ⟨⟨validD_mono 11 p.2 (h1.2.2.2.1 p hp).2, by omega⟩, (h1.2.2.2.1 p hp).1⟩
theorem rising_strict : ∀ l : List (ByteArray × Val), rising l = true → Strict l
 | [], _ => List.Pairwise.nil
 | [_], _ => List.pairwise_singleton _ _
 | p :: q :: r, h => by
  simp only [rising, Bool.and_eq_true] at h
  have ih := rising_strict (q :: r) h.2
  refine List.pairwise_cons.2 ⟨fun y hy => ?_, ih⟩
  rcases List.mem_cons.1 hy with rfl | hy
  ·exact h.1
  ·exact blt_trans h.1 ((List.pairwise_cons.1 ih).1 y hy)
theorem valid_strict {v : Val} (h : v.valid = true) : Strict v.f := by
 rw [valid_iff] at h
 exact rising_strict _ ((validD_succ 11 v).1 h.1).2.2.2.2
theorem valid_nof {v : Val} (h : v.valid = true) (hk : v.k ≠ 5) : v.f = [] := by
 rw [valid_iff] at h
 exact ((validD_succ 11 v).1 h.1).2.1.2.2.2 hk
theorem valid_str {v : Val} (h : v.valid = true) (hk : v.k = 3) : okStr v.s = true := by
 rw [valid_iff] at h
 have := ((validD_succ 11 v).1 h.1).1
 unfold okScalar at this
 rw [if_neg (by omega), if_neg (by omega), if_pos hk] at this
 simp only [Bool.and_eq_true] at this
 exact this.2
theorem strict_find {l : List (ByteArray × Val)} (h : Strict l) {p : ByteArray × Val} (hp : p ∈ l) : l.find? (fun q => decide (q.1 = p.1)) = some p := by
 induction l with
 | nil => simp at hp
 | cons a l ih =>
  have h1 := List.pairwise_cons.1 h
  rw [List.find?_cons]
  rcases List.mem_cons.1 hp with rfl | hp
  ·simp
  ·have : ¬ a.1 = p.1 := blt_ne (h1.1 p hp)
   simp only [this, decide_false]
   exact ih h1.2 hp
theorem get_of_mem {v : Val} (h : v.valid = true) {p : ByteArray × Val} (hp : p ∈ v.f) : v.get p.1 = some p.2 := by
 have hk : v.k = 5 := by
  rcases Decidable.em (v.k = 5) with h5 | h5
  ·exact h5
  ·rw [valid_nof h h5] at hp; simp at hp
 unfold Val.get
 rw [if_pos hk, strict_find (valid_strict h) hp]; rfl
theorem mem_of_get {v x : Val} {nm : ByteArray} (h : v.get nm = some x) : (nm, x) ∈ v.f ∧ v.k = 5 := by
 unfold Val.get at h
 split at h
 ·rename_i hk
  rw [Option.map_eq_some_iff] at h
  obtain ⟨p, hp, rfl⟩ := h
  have h1 := List.mem_of_find?_eq_some hp
  have h2 : p.1 = nm := by simpa using List.find?_some hp
  subst h2; exact ⟨h1, hk⟩
 ·cases h
theorem valid_get {v x : Val} {nm : ByteArray} (h : v.valid = true) (hx : v.get nm = some x) : x.valid = true := (valid_f h (mem_of_get hx).1).1
theorem fOk_mono {g g' : Sch → Bool} : ∀ {l : List SFld} {o : Option ByteArray}, (∀ x ∈ l, g x.s = true → g' x.s = true) → fOk g o l = true → fOk g' o l = true
 | [], _, _, _ => rfl
 | y :: r, o, hg, h => by
  simp only [fOk, Bool.and_eq_true] at h ⊢
  exact ⟨⟨⟨⟨h.1.1.1.1, hg y (by simp) h.1.1.1.2⟩, h.1.1.2⟩, h.1.2⟩, fOk_mono (fun x hx => hg x (by simp [hx])) h.2⟩
theorem svalid_mono : ∀ (d : Nat) (s : Sch), svalid d s = true → svalid (d + 1) s = true
 | 0, s, h => by simp [svalid] at h
 | d + 1, s, h => by
  rw [svalid] at h ⊢
  split
  ·rename_i k1; rw [if_pos k1] at h; exact h
  ·rename_i k1; rw [if_neg k1] at h
   split
   ·rename_i k2; rw [if_pos k2] at h; exact h
   ·rename_i k2; rw [if_neg k2] at h
    split
    ·rename_i k3; rw [if_pos k3] at h; exact h
    ·rename_i k3; rw [if_neg k3] at h
     split
     ·rename_i k4; rw [if_pos k4] at h
      simp only [Bool.and_eq_true, List.all_eq_true] at h ⊢
      exact ⟨h.1, fun x hx => svalid_mono d x (h.2 x hx)⟩
     ·rename_i k4; rw [if_neg k4] at h
      split
      ·rename_i k5; rw [if_pos k5] at h
       simp only [Bool.and_eq_true, List.all_eq_true] at h ⊢
       exact ⟨⟨h.1.1, fun x hx => svalid_mono d x (h.1.2 x hx)⟩, fOk_mono (fun x _ hx => svalid_mono d x.s hx) h.2⟩
      ·rename_i k5; rw [if_neg k5] at h; cases h
theorem svalid_it {d : Nat} {s t : Sch} (h : svalid (d + 1) s = true) (ht : t ∈ s.it) : svalid d t = true := by
 have noit : plainB s = true → False := fun hp => by
  simp only [plainB, Bool.and_eq_true, decide_eq_true_eq] at hp
  rw [List.length_eq_zero_iff.1 hp.1.2] at ht; simp at ht
 rw [svalid] at h
 split at h
 ·simp only [Bool.and_eq_true] at h; exact (noit h.1.1.1).elim
 ·split at h
  ·simp only [Bool.and_eq_true] at h; exact (noit h.1.1.1.1).elim
  ·split at h
   ·simp only [Bool.and_eq_true] at h; exact (noit h.1.1.1).elim
   ·split at h
    ·simp only [Bool.and_eq_true, List.all_eq_true] at h; exact h.2 t ht
    ·split at h
     ·simp only [Bool.and_eq_true, List.all_eq_true] at h; exact h.1.2 t ht
     ·cases h
theorem svalid_f {d : Nat} {s : Sch} {p : SFld} (h : svalid (d + 1) s = true) (hp : p ∈ s.f) : s.k = 5 ∧ okName p.nm = true ∧ svalid d p.s = true ∧ p.df.length ≤ 1 ∧ okDf p = true := by
 have nof : s.f.length = 0 → False := fun h0 => by
  rw [List.length_eq_zero_iff.1 h0] at hp; simp at hp
 have nop : plainB s = true → False := fun h0 => by
  simp only [plainB, Bool.and_eq_true, decide_eq_true_eq] at h0
  exact nof h0.2
 rw [svalid] at h
 split at h
 ·simp only [Bool.and_eq_true] at h; exact (nop h.1.1.1).elim
 ·split at h
  ·simp only [Bool.and_eq_true] at h; exact (nop h.1.1.1.1).elim
  ·split at h
   ·simp only [Bool.and_eq_true] at h; exact (nop h.1.1.1).elim
   ·split at h
    ·simp only [Bool.and_eq_true, decide_eq_true_eq] at h; exact (nof h.1.1.1.2).elim
    ·split at h
     ·rename_i k5
      simp only [Bool.and_eq_true] at h
      exact ⟨k5, fOk_mem h.2 p hp⟩
     ·cases h
theorem svalid_key {d : Nat} {s : Sch} (h : svalid d s = true) (hk : s.k = 4) : keyOkB s = true ∧ s.it.length = 1 := by
 cases d with
 | zero => simp [svalid] at h
 | succ d =>
  rw [svalid, if_neg (by omega), if_neg (by omega), if_neg (by omega), if_pos hk] at h
  simp only [Bool.and_eq_true, decide_eq_true_eq] at h
  exact ⟨h.1.2, h.1.1.2⟩
theorem Sch.valid_it {s t : Sch} (h : s.valid = true) (ht : t ∈ s.it) : t.valid = true := svalid_mono 11 t (svalid_it h ht)
theorem Sch.valid_f {s : Sch} {p : SFld} (h : s.valid = true) (hp : p ∈ s.f) : p.s.valid = true := svalid_mono 11 p.s (svalid_f h hp).2.2.1
theorem Sch.valid_SB {s : Sch} (h : s.valid = true) : SB s := svalid_SB 12 s h
theorem Sch.valid_sub {s t : Sch} {nm : ByteArray} (h : s.valid = true) (ht : subS s nm = some t) : t.valid = true := by
 rcases subS_mem ht with h1 | ⟨p, hp, _, rfl⟩
 ·exact Sch.valid_it h h1
 ·exact Sch.valid_f h hp
theorem svalid_keyName {d : Nat} {s : Sch} (h : svalid (d + 1) s = true) (hk : s.k = 4) (hne : s.key ≠ emptyB) : ∃ t, s.it = [t] ∧ t.k = 5 ∧ ∃ p, t.fld s.key = some p ∧ p.rq = true ∧ p.s.k = 3 ∧ okName s.key = true := by
 obtain ⟨h1, h2⟩ := svalid_key h hk
 obtain ⟨t, ht⟩ := List.length_eq_one_iff.1 h2
 unfold keyOkB at h1
 rw [ht] at h1
 have hne' : decide (s.key = emptyB) = false := by simpa using hne
 simp only [hne', Bool.false_or, Bool.and_eq_true, decide_eq_true_eq] at h1
 obtain ⟨⟨⟨k5, hs⟩, hr⟩, h3⟩ := h1
 obtain ⟨p, hp⟩ := Option.isSome_iff_exists.1 hs
 rw [hp, Option.getD_some] at hr h3
 have hv := svalid_it h (show t ∈ s.it by rw [ht]; simp)
 have hm := fld_mem hp
 refine ⟨t, ht, k5, p, hp, hr, h3, ?_⟩
 cases d with
 | zero => simp [svalid] at hv
 | succ d => have := (svalid_f hv hm.1).2.1; rw [hm.2] at this; exact this
end Go.CT.Sch
namespace Go.CT.Sch
open Go.Proofs
def hasB (nm vl : ByteArray) (u : Val) : Bool := decide (((u.get nm).getD zeroVal).k = 3) && decide (((u.get nm).getD zeroVal).s = vl)
def stepV (v : Val) (x : Stp) : Option Val :=
 if x.k = 1 then v.get x.nm
 else if v.k = 4 then (if x.k = 2 then v.l[x.ix.toNat]? else v.l.find? (hasB x.nm x.vl)) else none
def getP : Val → List Stp → Option Val
 | v, [] => some v
 | v, x :: r => (stepV v x).bind fun u => getP u r
theorem stepV_mass {v u : Val} {x : Stp} (hu : stepV v x = some u) : u.mass < v.mass := by
 unfold stepV at hu
 split at hu
 ·have := Val.mass_f (mem_of_get hu).1; simp only at this; omega
 ·split at hu
  ·split at hu
   ·exact Val.mass_l (List.mem_of_getElem? hu)
   ·exact Val.mass_l (List.mem_of_find?_eq_some hu)
  ·cases hu
theorem getP_mass : ∀ (q : List Stp) (v w : Val), getP v q = some w → w.mass ≤ v.mass
 | [], v, w, hw => by simp only [getP, Option.some.injEq] at hw; subst hw; omega
 | y :: r, v, w, hw => by
  simp only [getP] at hw
  cases hu : stepV v y with
  | none => rw [hu] at hw; cases hw
  | some u => rw [hu] at hw; have := stepV_mass hu; have := getP_mass r u w hw; omega
end Go.CT.Sch
namespace Go.CT.Sch
open Go.Proofs
def FE.enc (e : ByteArray × Int) : IV := .agg [.str e.1, .int e.2]
def immB (s : Sch) (nm : ByteArray) : Bool := decide (s.it.length = 0) && ((s.fld nm).getD zeroSF).im
open Classical in
noncomputable def oldE (b : Val) (nm : ByteArray) (v : Val) (q : List Stp) : List (ByteArray × Int) := if isHere b nm && decide ((b.get nm).getD zeroVal = v) then [] else [(printB q, 13)]
mutual
noncomputable def chgs : Val → Sch → Val → List Stp → List (ByteArray × Int)
 | ⟨k, _, _, l, f⟩, sc, b, p =>
  if k = sc.k ∧ b.k = sc.k then
   if k = 4 then (if sc.key = emptyB then [] else chgsL l sc.key (sc.it.headD zeroSch) b p [])
   else if k = 5 then chgsF f sc b p
   else []
  else []
noncomputable def chgsL : List Val → ByteArray → Sch → Val → List Stp → List Val → List (ByteArray × Int)
 | [], _, _, _, _, _ => []
 | v :: vs, key, t, b, p, prev => (match b.l.find? (sameKey key (keyB v key)) with | none => [] | some x => if hasKey v key && !prev.any (sameKey key (keyB v key)) then chgs v t x (p ++ [elStp key v prev.length]) else []) ++ chgsL vs key t b p (prev ++ [v])
noncomputable def chgsF : List (ByteArray × Val) → Sch → Val → List Stp → List (ByteArray × Int)
 | [], _, _, _ => []
 | (nm, v) :: fs, sc, b, p => (match subS sc nm with | none => [] | some t => if v.k = 0 then [] else if immB sc nm then oldE b nm v (p ++ [fldStp nm]) else if isHere b nm then chgs v t ((b.get nm).getD zeroVal) (p ++ [fldStp nm]) else []) ++ chgsF fs sc b p
end
theorem chgs_eq (v : Val) (sc : Sch) (b : Val) (p : List Stp) : chgs v sc b p =
  if v.k = sc.k ∧ b.k = sc.k then
   if v.k = 4 then (if sc.key = emptyB then [] else chgsL v.l sc.key (sc.it.headD zeroSch) b p [])
   else if v.k = 5 then chgsF v.f sc b p
   else []
  else [] := by
 cases v; rw [chgs]; rfl
noncomputable def chg1 (sc : Sch) (b : Val) (p : List Stp) (x : ByteArray × Val) : List (ByteArray × Int) := match subS sc x.1 with | none => [] | some t => if x.2.k = 0 then [] else if immB sc x.1 then oldE b x.1 x.2 (p ++ [fldStp x.1]) else if isHere b x.1 then chgs x.2 t ((b.get x.1).getD zeroVal) (p ++ [fldStp x.1]) else []
noncomputable def chgL1 (key : ByteArray) (t : Sch) (b : Val) (p : List Stp) (prev : List Val) (v : Val) : List (ByteArray × Int) := match b.l.find? (sameKey key (keyB v key)) with | none => [] | some x => if hasKey v key && !prev.any (sameKey key (keyB v key)) then chgs v t x (p ++ [elStp key v prev.length]) else []
theorem chgsF_cons (x : ByteArray × Val) (fs : List (ByteArray × Val)) (sc : Sch) (b : Val) (p : List Stp) : chgsF (x :: fs) sc b p = chg1 sc b p x ++ chgsF fs sc b p := by
 obtain ⟨nm, v⟩ := x; rw [chgsF]; rfl
theorem chgsF_nil (sc : Sch) (b : Val) (p : List Stp) : chgsF [] sc b p = [] := by rw [chgsF]
theorem chgsL_cons (v : Val) (vs : List Val) (key : ByteArray) (t : Sch) (b : Val) (p : List Stp) (prev : List Val) : chgsL (v :: vs) key t b p prev = chgL1 key t b p prev v ++ chgsL vs key t b p (prev ++ [v]) := by rw [chgsL]; rfl
theorem chgsL_nil (key : ByteArray) (t : Sch) (b : Val) (p : List Stp) (prev : List Val) : chgsL [] key t b p prev = [] := by rw [chgsL]
theorem oldE_len (b : Val) (nm : ByteArray) (v : Val) (q : List Stp) : (oldE b nm v q).length ≤ 1 := by unfold oldE; split <;> simp
theorem chgs_len : ∀ (v : Val) (sc : Sch) (b : Val) (p : List Stp), (chgs v sc b p).length ≤ v.size := by
 refine Val.ind fun v ih1 ih2 sc b p => ?_
 have hL : ∀ (l : List Val), (∀ x ∈ l, ∀ sc b p, (chgs x sc b p).length ≤ x.size) → ∀ key t prev, (chgsL l key t b p prev).length ≤ sizeVs l := by
  intro l
  induction l with
  | nil => intro _ key t prev; rw [chgsL_nil]; simp
  | cons x l ih =>
   intro h key t prev
   have h2 := ih (fun y hy => h y (by simp [hy])) key t (prev ++ [x])
   have h1 : (chgL1 key t b p prev x).length ≤ x.size := by
    unfold chgL1
    split
    ·simp
    ·split
     ·exact h x (by simp) _ _ _
     ·simp
   rw [chgsL_cons]
   simp only [List.length_append, sizeVs]; omega
 have hF : ∀ (l : List (ByteArray × Val)), (∀ x ∈ l, ∀ sc b p, (chgs x.2 sc b p).length ≤ x.2.size) → (chgsF l sc b p).length ≤ sizeFs l := by
  intro l
  induction l with
  | nil => intro _; rw [chgsF_nil]; simp
  | cons x l ih =>
   intro h
   have h2 := ih (fun y hy => h y (by simp [hy]))
   have h1 : (chg1 sc b p x).length ≤ x.2.size := by
    have hp := x.2.size_pos
    unfold chg1
    split
    ·simp
    ·split
     ·simp
     ·split
      ·exact Nat.le_trans (oldE_len _ _ _ _) hp
      ·split
       ·exact h x (by simp) _ _ _
       ·simp
   rw [chgsF_cons]
   simp only [List.length_append, sizeFs]; omega
 have hsz := v.size_eq
 rw [chgs_eq]
 split
 ·split
  ·split
   ·simp
   ·exact Nat.le_trans (hL v.l ih1 _ _ _) (by omega)
  ·split
   ·exact Nat.le_trans (hF v.f ih2) (by omega)
   ·simp
 ·simp
theorem isHere_get {v x : Val} {nm : ByteArray} (h : v.get nm = some x) : isHere v nm = !decide (x.k = 0) := by unfold isHere; rw [h]; simp
theorem here_get {v : Val} {nm : ByteArray} (h : isHere v nm = true) : ∃ x, v.get nm = some x ∧ x.k ≠ 0 := by
 unfold isHere at h
 simp only [Bool.and_eq_true, Bool.not_eq_true', decide_eq_false_iff_not] at h
 obtain ⟨x, hx⟩ := Option.isSome_iff_exists.1 h.1
 rw [hx] at h
 exact ⟨x, hx, h.2⟩
theorem chgs_same : ∀ (v : Val), v.valid = true → ∀ (sc : Sch) (p : List Stp), chgs v sc v p = [] := by
 refine Val.ind fun v ih1 ih2 hv sc p => ?_
 have hL : ∀ (key : ByteArray) (t : Sch) (rest prev : List Val), v.l = prev ++ rest → chgsL rest key t v p prev = [] := by
  intro key t rest
  induction rest with
  | nil => intro prev _; exact chgsL_nil _ _ _ _ _
  | cons u rest ih =>
   intro prev h
   have hm : u ∈ v.l := by rw [h]; simp
   rw [chgsL_cons, ih (prev ++ [u]) (by rw [h]; simp), List.append_nil]
   unfold chgL1
   split
   ·rfl
   ·rename_i x hx
    split
    ·rename_i hc
     simp only [Bool.and_eq_true, Bool.not_eq_true'] at hc
     have h1 : prev.find? (sameKey key (keyB u key)) = none := by
      rw [List.find?_eq_none]
      intro y hy
      have := (List.any_eq_false.1 hc.2) y hy
      exact this
     have h2 : sameKey key (keyB u key) u = true := by unfold sameKey; rw [hc.1]; simp
     rw [h, List.find?_append, h1, Option.none_or, List.find?_cons_of_pos h2] at hx
     cases hx
     exact ih1 u hm (valid_l hv hm) t _
    ·rfl
 have hF : ∀ (l : List (ByteArray × Val)), (∀ x ∈ l, x ∈ v.f) → chgsF l sc v p = [] := by
  intro l
  induction l with
  | nil => intro _; exact chgsF_nil _ _ _
  | cons x l ih =>
   intro h
   have hm := h x (by simp)
   have hg := get_of_mem hv hm
   have hx := ih2 x hm (valid_f hv hm).1
   rw [chgsF_cons, ih fun y hy => h y (by simp [hy]), List.append_nil]
   unfold chg1
   split
   ·rfl
   ·rename_i t _
    split
    ·rfl
    ·rename_i k0
     have hh : isHere v x.1 = true := by rw [isHere_get hg]; simp [k0]
     split
     ·unfold oldE; rw [hh, hg]; simp
     ·rw [hg]; exact hx t _
 rw [chgs_eq]
 split
 ·split
  ·split
   ·rfl
   ·exact hL _ _ v.l [] rfl
  ·split
   ·exact hF v.f fun x hx => hx
   ·rfl
 ·rfl
theorem hasB_same {nm vl : ByteArray} (hn : nm ≠ emptyB) (u : Val) : hasB nm vl u = sameKey nm vl u := by
 unfold hasB sameKey hasKey isKey keyB
 have hn' : decide (nm = emptyB) = false := by simpa using hn
 rw [hn']
 cases h : u.get nm with
 | none => rfl
 | some x => simp
theorem hasKey_ok {v : Val} {key : ByteArray} (hv : v.valid = true) (h : hasKey v key = true) : key ≠ emptyB ∧ okStr (keyB v key) = true := by
 unfold hasKey isKey at h
 simp only [Bool.and_eq_true, Bool.not_eq_true', decide_eq_true_eq, decide_eq_false_iff_not] at h
 obtain ⟨x, hx⟩ := Option.isSome_iff_exists.1 h.1.1
 rw [hx] at h
 refine ⟨h.2, ?_⟩
 unfold keyB
 rw [hx]
 exact valid_str (valid_get hv hx) h.1.2
theorem fldStp_ok {nm : ByteArray} (h : okName nm = true) : stepOk (fldStp nm) = true := by
 unfold stepOk fldStp; simp [h]
theorem stepV_fld (v : Val) (nm : ByteArray) : stepV v (fldStp nm) = v.get nm := if_pos rfl
theorem chgs_at : ∀ (d : Nat) (a : Val) (s : Sch) (b : Val) (p : List Stp), validD d a = true → a.valid = true → s.valid = true → ∀ e ∈ chgs a s b p,
  ∃ q x, e = (printB (p ++ q), 13) ∧ (∀ y ∈ q, stepOk y = true) ∧ q.length ≤ d ∧ getP a q = some x ∧ getP b q ≠ some x
 | 0, a, s, b, p, h, _, _, _, _ => by simp [validD] at h
 | d + 1, a, s, b, p, hd, ha, hs, e, he => by
  have hd' := (validD_succ d a).1 hd
  rw [chgs_eq] at he
  split at he
  ·rename_i hk
   split at he
   ·rename_i k4
    split at he
    ·simp at he
    ·rename_i hne
     obtain ⟨t, ht, t5, fp, hfp, _, _, hkn⟩ := svalid_keyName (d := 11) hs (by omega) hne
     rw [ht, List.headD_cons] at he
     have htv := Sch.valid_it hs (show t ∈ s.it by rw [ht]; simp)
     have hL : ∀ (rest prev : List Val), a.l = prev ++ rest → e ∈ chgsL rest s.key t b p prev → ∃ q x, e = (printB (p ++ q), 13) ∧ (∀ y ∈ q, stepOk y = true) ∧ q.length ≤ d + 1 ∧ getP a q = some x ∧ getP b q ≠ some x := by
      intro rest
      induction rest with
      | nil => intro prev _ h; rw [chgsL_nil] at h; simp at h
      | cons u rest ih =>
       intro prev h he
       have hm : u ∈ a.l := by rw [h]; simp
       rw [chgsL_cons, List.mem_append] at he
       rcases he with he | he
       ·unfold chgL1 at he
        split at he
        ·simp at he
        ·rename_i x hx
         split at he
         ·rename_i hc
          simp only [Bool.and_eq_true, Bool.not_eq_true'] at hc
          have h1 : prev.find? (sameKey s.key (keyB u s.key)) = none := by
           rw [List.find?_eq_none]
           intro y hy
           exact (List.any_eq_false.1 hc.2) y hy
          have h2 : sameKey s.key (keyB u s.key) u = true := by unfold sameKey; rw [hc.1]; simp
          have h3 : a.l.find? (sameKey s.key (keyB u s.key)) = some u := by rw [h, List.find?_append, h1, Option.none_or, List.find?_cons_of_pos h2]
          have hst : elStp s.key u prev.length = ⟨3, s.key, 0, keyB u s.key⟩ := by unfold elStp; rw [if_pos hc.1]
          have hB : hasB s.key (keyB u s.key) = sameKey s.key (keyB u s.key) := funext fun y => hasB_same hne y
          have sv : ∀ (v : Val), v.k = 4 → stepV v (elStp s.key u prev.length) = v.l.find? (sameKey s.key (keyB u s.key)) := by
           intro v hv
           rw [hst]; unfold stepV
           rw [if_neg (by show ¬ (3 : Int) = 1; omega), if_pos hv, if_neg (by show ¬ (3 : Int) = 2; omega)]
           show v.l.find? (hasB s.key (keyB u s.key)) = _
           rw [hB]
          obtain ⟨q, z, g1, g2, g3, g4, g5⟩ := chgs_at d u t x _ (hd'.2.2.1 u hm) (valid_l ha hm) htv e he
          refine ⟨elStp s.key u prev.length :: q, z, ?_, ?_, by simp only [List.length_cons]; omega, ?_, ?_⟩
          ·rw [g1, List.append_assoc]; rfl
          ·intro y hy
           rcases List.mem_cons.1 hy with rfl | hy
           ·rw [hst]; unfold stepOk
            have := hasKey_ok (valid_l ha hm) hc.1
            simp [hkn, this.2]
           ·exact g2 y hy
          ·simp only [getP]; rw [sv a k4, h3]; exact g4
          ·simp only [getP]; rw [sv b (by omega), hx]; exact g5
         ·simp at he
       ·exact ih (prev ++ [u]) (by rw [h]; simp) he
     exact hL a.l [] rfl he
   ·split at he
    ·rename_i k5
     have hF : ∀ (l : List (ByteArray × Val)), (∀ x ∈ l, x ∈ a.f) → e ∈ chgsF l s b p → ∃ q x, e = (printB (p ++ q), 13) ∧ (∀ y ∈ q, stepOk y = true) ∧ q.length ≤ d + 1 ∧ getP a q = some x ∧ getP b q ≠ some x := by
      intro l
      induction l with
      | nil => intro _ h; rw [chgsF_nil] at h; simp at h
      | cons x l ih =>
       intro h he
       have hm := h x (by simp)
       have hg := get_of_mem ha hm
       have hst : stepOk (fldStp x.1) = true := fldStp_ok (valid_f ha hm).2
       rw [chgsF_cons, List.mem_append] at he
       rcases he with he | he
       ·unfold chg1 at he
        split at he
        ·simp at he
        ·rename_i t ht
         split at he
         ·simp at he
         ·rename_i k0
          split at he
          ·unfold oldE at he
           split at he
           ·simp at he
           ·rename_i hn
            simp only [List.mem_singleton] at he
            refine ⟨[fldStp x.1], x.2, he, by simpa using hst, by simp, ?_, ?_⟩
            ·simp only [getP]; rw [stepV_fld, hg]; rfl
            ·simp only [getP]
             rw [stepV_fld]
             intro hc
             have hb : b.get x.1 = some x.2 := by
              cases hb : b.get x.1 with
              | none => rw [hb] at hc; cases hc
              | some y => rw [hb] at hc; exact hc
             apply hn
             rw [isHere_get hb, hb]; simp [k0]
          ·split at he
           ·rename_i hh
            obtain ⟨y, hy, _⟩ := here_get hh
            rw [hy, Option.getD_some] at he
            obtain ⟨q, z, g1, g2, g3, g4, g5⟩ := chgs_at d x.2 t y _ (hd'.2.2.2.1 x hm).2 (valid_f ha hm).1 (Sch.valid_sub hs ht) e he
            refine ⟨fldStp x.1 :: q, z, ?_, ?_, by simp only [List.length_cons]; omega, ?_, ?_⟩
            ·rw [g1, List.append_assoc]; rfl
            ·intro y hy
             rcases List.mem_cons.1 hy with rfl | hy
             ·exact hst
             ·exact g2 y hy
            ·simp only [getP]; rw [stepV_fld, hg]; exact g4
            ·simp only [getP]; rw [stepV_fld, hy]; exact g5
           ·simp at he
       ·exact ih (fun y hy => h y (by simp [hy])) he
     exact hF a.f (fun x hx => hx) he
    ·simp at he
  ·simp at he
end Go.CT.Sch
namespace Go.CT.Sch
open Go.Proofs
theorem awake : W F4 0 [] = some [.bool true] := V_run 400 (by kernel_rfl)
end Go.CT.Sch
namespace Go.CT.Sch
open Go.Proofs
theorem ref_smallN (v : Val) (n : Int) (hn : n ≤ 100000) (hn0 : 0 ≤ n) (hv : v.mass ≤ 1099511627776) : ∃ b, W F2 0 [v.enc, .int n] = some [.bool b] := by
 obtain ⟨r, h, _⟩ := ref_count v hv n n (by omega) (by omega) (by omega)
 exact ⟨decide (0 ≤ r), by rw [e_F2_0]; simp [h]⟩
theorem small_3 (s : Sch) (hs : s.mass ≤ 1048576) (i : Nat) (hi : i < s.f.length) (n : Int) (ih : ∃ r : Int, W F1 0 [s.f[i].s.enc, .int n] = some [.int r] ∧ r ≤ 60)
  (next : ∀ r : Int, r ≤ 60 → ∃ r' : Int, W F1 2 [.int r, .int ((i + 1 : Nat) : Int), s.enc] = some [.int r'] ∧ r' ≤ 60) : ∀ (m j : Nat), j + m = s.f[i].df.length →
  ∃ r : Int, W F1 3 [.int n, .int i, .int j, s.enc] = some [.int r] ∧ r ≤ 60
 | 0, j, h => by
  have h1 : ¬ j < s.f[i].df.length := by omega
  have hl := s.mass_len_f
  have hw := next64 (i := i) (by omega)
  obtain ⟨r, hr, hr2⟩ := ih
  obtain ⟨r', hr', hr2'⟩ := next r hr2
  refine ⟨r', ?_, hr2'⟩
  rw [e_F1_3]
  simp only [Sch.proj6, Option.bind_some, O.index_list, Int.natCast_nonneg, if_true, Int.toNat_natCast, List.getElem?_map, List.getElem?_eq_getElem hi, Option.map_some, SFld.proj3, O.len_list, List.length_map, O.lt_int, lt_cast, h1, decide_false, O.cnd_bool, Bool.false_eq_true, if_false, SFld.projS, hr, O.calls_1, O.add_int, hw, hr']
 | m + 1, j, h => by
  have hj : j < s.f[i].df.length := by omega
  have hvm := Sch.mass_d (List.getElem_mem hi) (List.getElem_mem hj)
  have hlen : s.f[i].df.length ≤ massVs s.f[i].df := by have := length_le_bulks (s.f[i].df.map Val.enc); rw [List.length_map] at this; exact this
  have hm := Sch.mass_f (List.getElem_mem hi)
  have hw := next64 (i := j) (by omega)
  obtain ⟨b, hb⟩ := ref_smallN s.f[i].df[j] 50 (by omega) (by omega) (by omega)
  have hrec := small_3 s hs i hi n ih next m (j + 1) (by omega)
  rw [e_F1_3]
  simp only [Sch.proj6, Option.bind_some, O.index_list, Int.natCast_nonneg, if_true, Int.toNat_natCast, List.getElem?_map, List.getElem?_eq_getElem hi, Option.map_some, SFld.proj3, O.len_list, List.length_map, O.lt_int, lt_cast, hj, decide_true, O.cnd_bool, List.getElem?_eq_getElem hj, hb, O.calls_1, O.not_bool, O.add_int, hw]
  cases b with
  | false => exact ⟨-1, by simp, by omega⟩
  | true =>
   obtain ⟨r, h1, h2⟩ := hrec
   exact ⟨r, by simpa using h1, h2⟩
theorem small_2 (s : Sch) (hs : s.mass ≤ 1048576) (ih : ∀ p ∈ s.f, ∀ n : Int, n ≤ 60 → ∃ r : Int, W F1 0 [p.s.enc, .int n] = some [.int r] ∧ r ≤ 60) : ∀ (m i : Nat) (n : Int), i + m = s.f.length → n ≤ 60 →
  ∃ r : Int, W F1 2 [.int n, .int i, s.enc] = some [.int r] ∧ r ≤ 60
 | 0, i, n, h, hn => by
  have h1 : ¬ i < s.f.length := by omega
  refine ⟨n, ?_, hn⟩
  rw [e_F1_2]
  simp [h1]
 | m + 1, i, n, h, hn => by
  have hi : i < s.f.length := by omega
  obtain ⟨r, hr, hr2⟩ := small_3 s hs i hi n (ih _ (List.getElem_mem hi) n hn) (fun r hr => small_2 s hs ih m (i + 1) r (by omega) hr) s.f[i].df.length 0 (by omega)
  simp only [Int.cast_ofNat_Int] at hr
  rw [e_F1_2]
  simp only [Sch.proj6, Option.bind_some, O.len_list, List.length_map, O.lt_int, lt_cast, hi, decide_true, O.cnd_bool, if_true, O.ge_int, O.index_list, Int.natCast_nonneg, Int.toNat_natCast, List.getElem?_map, List.getElem?_eq_getElem hi, Option.map_some, SFld.proj0, SFld.proj3, O.slen_str, O.gt_int, ite_some, ite_ivbool]
  by_cases c0 : 0 ≤ n
  ·by_cases c1 : (if decide ((200 : Int) < s.f[i].nm.size) = true then true else decide ((3 : Int) < s.f[i].df.length)) = true
   ·exact ⟨-1, by simp only [c0, decide_true, if_true, c1], by omega⟩
   ·exact ⟨r, by simp only [c0, decide_true, if_true, c1, if_false, hr]; rfl, hr2⟩
  ·exact ⟨n, by simp only [c0, decide_false, Bool.false_eq_true, if_false], hn⟩
theorem small_1 (s : Sch) (hs : s.mass ≤ 1048576) (ih : ∀ x ∈ s.it, ∀ n : Int, n ≤ 60 → ∃ r : Int, W F1 0 [x.enc, .int n] = some [.int r] ∧ r ≤ 60)
  (next : ∀ n : Int, n ≤ 60 → ∃ r : Int, W F1 2 [.int n, .int 0, s.enc] = some [.int r] ∧ r ≤ 60) : ∀ (m i : Nat) (n : Int), i + m = s.it.length → n ≤ 60 →
  ∃ r : Int, W F1 1 [.int n, .int i, s.enc] = some [.int r] ∧ r ≤ 60
 | 0, i, n, h, hn => by
  have h1 : ¬ i < s.it.length := by omega
  obtain ⟨r, hr, hr2⟩ := next n hn
  refine ⟨r, ?_, hr2⟩
  rw [e_F1_1]
  simp [h1, hr]
 | m + 1, i, n, h, hn => by
  have hi : i < s.it.length := by omega
  have hl := s.mass_len_it
  have hw := next64 (i := i) (by omega)
  rw [e_F1_1]
  by_cases c0 : 0 ≤ n
  ·obtain ⟨r, hr, hr2⟩ := ih _ (List.getElem_mem hi) n hn
   obtain ⟨r', hr', hr2'⟩ := small_1 s hs ih next m (i + 1) r (by omega) hr2
   refine ⟨r', ?_, hr2'⟩
   simp only [Sch.proj5, Option.bind_some, O.len_list, List.length_map, O.lt_int, lt_cast, hi, decide_true, O.cnd_bool, if_true, O.ge_int, c0, O.index_list, Int.natCast_nonneg, Int.toNat_natCast, List.getElem?_map, List.getElem?_eq_getElem hi, Option.map_some, hr, O.calls_1, O.add_int, hw, hr']
  ·obtain ⟨r, hr, hr2⟩ := next n hn
   refine ⟨r, ?_, hr2⟩
   simp [hi, c0, hr]
theorem ev_small : ∀ s : Sch, s.mass ≤ 1048576 → ∀ n : Int, n ≤ 60 → ∃ r : Int, W F1 0 [s.enc, .int n] = some [.int r] ∧ r ≤ 60 := by
 refine Sch.ind fun s ih1 ih2 hs n hn => ?_
 rw [e_F1_0]
 simp only [Sch.proj3, Sch.proj4, Option.bind_some, O.le_int, O.len_list, List.length_map, O.slen_str, O.gt_int, O.cnd_bool, ite_some, ite_ivbool]
 by_cases c0 : n ≤ 0
 ·exact ⟨-1, by simp [c0], by omega⟩
 ·have hw : IntKind.i64.wrap (n - 1) = n - 1 := wrap64 (by omega) (by omega)
  obtain ⟨r, hr, hr2⟩ := small_1 s hs (fun x hx => ih1 x hx (by have := Sch.mass_it hx; omega)) (fun k hk => by
   have := small_2 s hs (fun p hp => ih2 p hp (by have := Sch.mass_f hp; omega)) s.f.length 0 k (by omega) hk
   simpa using this) s.it.length 0 (n - 1) (by omega) (by omega)
  simp only [Int.cast_ofNat_Int] at hr
  by_cases c1 : (100 : Int) < s.en.length
  ·exact ⟨-1, by simp [c0, c1], by omega⟩
  ·by_cases c2 : (200 : Int) < s.key.size
   ·exact ⟨-1, by simp [c0, c1, c2], by omega⟩
   ·exact ⟨r, by simp [c0, c1, c2, hw, hr], hr2⟩
theorem ev_light (s : Sch) (v w : Val) (hs : s.mass ≤ 1048576) (hv : v.mass ≤ 1048576) (hw : w.mass ≤ 1048576) : ∃ b, W F120 0 [s.enc, v.enc, w.enc] = some [.bool b] := by
 obtain ⟨r, hr, _⟩ := ev_small s hs 60 (by omega)
 obtain ⟨b1, h1⟩ := ref_smallN v 150 (by omega) (by omega) (by omega)
 obtain ⟨b2, h2⟩ := ref_smallN w 150 (by omega) (by omega) (by omega)
 rw [e_F120_0]
 simp only [hr, O.calls_1, O.ge_int, Option.bind_some, O.cnd_bool, h1, h2, ite_some, ite_ivbool]
 exact ⟨_, rfl⟩
end Go.CT.Sch
namespace Go.CT.Sch
open Go.Proofs
theorem cmp0 : ∀ (a b : List UInt8), Lib.compareBytes a b = 0 ↔ a = b
 | [], [] => by simp [Lib.compareBytes]
 | [], _ :: _ => by simp [Lib.compareBytes]
 | _ :: _, [] => by simp [Lib.compareBytes]
 | a :: x, b :: y => by
  simp only [Lib.compareBytes]
  by_cases h1 : a < b
  ·have : ¬ a = b := fun e => by subst e; exact absurd h1 (UInt8.lt_irrefl _)
   simp [h1, this]
  ·by_cases h2 : b < a
   ·have : ¬ a = b := fun e => by subst e; exact h1 h2
    simp [h1, h2, this]
   ·have : a = b := by
     have h1' : ¬ a.toNat < b.toNat := fun h => h1 (UInt8.lt_iff_toNat_lt.2 h)
     have h2' : ¬ b.toNat < a.toNat := fun h => h2 (UInt8.lt_iff_toNat_lt.2 h)
     exact UInt8.toNat_inj.1 (by omega)
    subst this
    simp [h1, cmp0 x y]
theorem pv_scmp (a b : ByteArray) : ∃ c : Int, W F36 0 [.str a, .str b] = some [.int c] ∧ (c = 0 ↔ a = b) := by
 refine ⟨Lib.compareBytes a.data.toList b.data.toList, ?_, ?_⟩
 ·simp [e_F36_0, e_F37_0, e_F38, O.compareF]
 ·rw [cmp0]; exact ⟨bytes_ext, fun h => by rw [h]⟩
theorem pv_icmp (a b : Int) : ∃ c : Int, W F154 0 [.int a, .int b] = some [.int c] ∧ (c = 0 ↔ a = b) := by
 refine ⟨if decide (a < b) = true then -1 else if decide (b < a) = true then 1 else 0, ?_, ord_int a b⟩
 rw [e_F154_0]
 simp only [e_F155_0, O.ne_int, decide_true, Bool.not_true, Option.bind_some, O.calls_1, O.cnd_bool, Bool.false_eq_true, if_false, O.lt_int, O.gt_int]
 split
 ·rfl
 ·split <;> rfl
theorem pv_or_1 (cs : List Int) (hc : cs.length ≤ 100) : ∀ (n i : Nat), i + n = cs.length → ∃ r : Int, W F159 1 [.int 0, .list (cs.map .int), .int cs.length, .int i] = some [.int r] ∧ (r = 0 ↔ ∀ c ∈ cs.drop i, c = 0)
 | 0, i, h => by
  have h1 : ¬ i < cs.length := by omega
  rw [e_F159_1, List.drop_of_length_le (by omega)]
  exact ⟨0, by simp [h1], by simp⟩
 | n + 1, i, h => by
  have hi : i < cs.length := by omega
  have hw := next64 (i := i) (by omega)
  obtain ⟨r, hr, h2⟩ := pv_or_1 cs hc n (i + 1) (by omega)
  rw [e_F159_1, List.drop_eq_getElem_cons hi]
  simp only [O.lt_int, lt_cast, hi, decide_true, Option.bind_some, O.cnd_bool, if_true, O.index_list, Int.natCast_nonneg, Int.toNat_natCast, List.getElem?_map, List.getElem?_eq_getElem hi, Option.map_some, O.ne_int, O.add_int, hw, hr]
  by_cases c0 : cs[i] = 0
  ·exact ⟨r, by simp [c0], by simp only [List.mem_cons, forall_eq_or_imp, c0, true_and]; exact h2⟩
  ·exact ⟨cs[i], by simp [c0], by simp only [List.mem_cons, forall_eq_or_imp, c0, false_and]⟩
theorem pv_or (cs : List Int) (hc : cs.length ≤ 100) : ∃ r : Int, W F159 0 [.list (cs.map .int)] = some [.int r] ∧ (r = 0 ↔ ∀ c ∈ cs, c = 0) := by
 obtain ⟨r, hr, h2⟩ := pv_or_1 cs hc cs.length 0 (by omega)
 refine ⟨r, ?_, by simpa using h2⟩
 rw [e_F159_0]
 simp only [O.len_list, List.length_map, Option.bind_some]
 exact hr
theorem pv_cf_v (a b : List Val) (ha : a.length ≤ 1099511627776) (ih : ∀ x ∈ a, ∀ y ∈ b, ∃ c : Int, W F153 0 [x.enc, y.enc] = some [.int c] ∧ (c = 0 ↔ x = y)) : ∀ (n i : Nat), i + n = a.length → i ≤ b.length →
  ∃ c : Int, W F156 1 [.list (a.map Val.enc), .list (b.map Val.enc), .list (a.map Val.enc), .int a.length, .int i] = some [.int c] ∧ (c = 0 ↔ a.drop i = b.drop i)
 | 0, i, h, hb => by
  have h1 : ¬ i < a.length := by omega
  have e1 : a.drop i = [] := List.drop_of_length_le (by omega)
  rw [e_F156_1, e1]
  by_cases g : a.length < b.length
  ·have g' : (a.length : Int) < b.length := by omega
   have : ¬ [] = b.drop i := fun e => by
    have := congrArg List.length e
    simp at this; omega
   exact ⟨-1, by simp [h1, g], by simp [this]⟩
  ·have g' : ¬ (a.length : Int) < b.length := by omega
   have : b.drop i = [] := List.drop_of_length_le (by omega)
   exact ⟨0, by simp [h1, g], by simp [this]⟩
 | n + 1, i, h, hb => by
  have hi : i < a.length := by omega
  have hw := next64 (i := i) (by omega)
  rw [e_F156_1]
  by_cases h2 : i < b.length
  ·obtain ⟨c, q1, q2⟩ := ih _ (List.getElem_mem hi) _ (List.getElem_mem h2)
   obtain ⟨r, r1, r2⟩ := pv_cf_v a b ha ih n (i + 1) (by omega) (by omega)
   have g : ¬ (b.length : Int) ≤ i := by omega
   have hd : (a.drop i = b.drop i) ↔ (a[i] = b[i] ∧ a.drop (i + 1) = b.drop (i + 1)) := by
    rw [List.drop_eq_getElem_cons hi, List.drop_eq_getElem_cons h2]
    simp only [List.cons.injEq]
   simp only [O.lt_int, lt_cast, hi, decide_true, Option.bind_some, O.cnd_bool, if_true, O.index_list, Int.natCast_nonneg, Int.toNat_natCast, List.getElem?_map, List.getElem?_eq_getElem hi, List.getElem?_eq_getElem h2, Option.map_some, O.len_list, List.length_map, O.ge_int, g, decide_false, Bool.false_eq_true, if_false, q1, O.calls_1, O.ne_int, O.add_int, hw, r1, hd]
   by_cases c0 : c = 0
   ·exact ⟨r, by simp [c0], by rw [r2]; simp [q2.1 c0]⟩
   ·exact ⟨c, by simp [c0], by simp [c0]; exact fun e => absurd (q2.2 e) c0⟩
  ·have g : (b.length : Int) ≤ i := by omega
   have : ¬ a.drop i = b.drop i := fun e => by
    have := congrArg List.length e
    simp at this; omega
   exact ⟨1, by simp [hi, g], by simp [this]⟩
theorem pv_cf_f (a b : List (ByteArray × Val)) (ha : a.length ≤ 1099511627776) (ih : ∀ x ∈ a, ∀ y ∈ b, ∃ c : Int, W F158 0 [Fld.enc x, Fld.enc y] = some [.int c] ∧ (c = 0 ↔ x = y)) : ∀ (n i : Nat), i + n = a.length → i ≤ b.length →
  ∃ c : Int, W F157 1 [.list (a.map Fld.enc), .list (b.map Fld.enc), .list (a.map Fld.enc), .int a.length, .int i] = some [.int c] ∧ (c = 0 ↔ a.drop i = b.drop i)
 | 0, i, h, hb => by
  have h1 : ¬ i < a.length := by omega
  have e1 : a.drop i = [] := List.drop_of_length_le (by omega)
  rw [e_F157_1, e1]
  by_cases g : a.length < b.length
  ·have g' : (a.length : Int) < b.length := by omega
   have : ¬ [] = b.drop i := fun e => by
    have := congrArg List.length e
    simp at this; omega
   exact ⟨-1, by simp [h1, g], by simp [this]⟩
  ·have g' : ¬ (a.length : Int) < b.length := by omega
   have : b.drop i = [] := List.drop_of_length_le (by omega)
   exact ⟨0, by simp [h1, g], by simp [this]⟩
 | n + 1, i, h, hb => by
  have hi : i < a.length := by omega
  have hw := next64 (i := i) (by omega)
  rw [e_F157_1]
  by_cases h2 : i < b.length
  ·obtain ⟨c, q1, q2⟩ := ih _ (List.getElem_mem hi) _ (List.getElem_mem h2)
   obtain ⟨r, r1, r2⟩ := pv_cf_f a b ha ih n (i + 1) (by omega) (by omega)
   have g : ¬ (b.length : Int) ≤ i := by omega
   have hd : (a.drop i = b.drop i) ↔ (a[i] = b[i] ∧ a.drop (i + 1) = b.drop (i + 1)) := by
    rw [List.drop_eq_getElem_cons hi, List.drop_eq_getElem_cons h2]
    simp only [List.cons.injEq]
   simp only [O.lt_int, lt_cast, hi, decide_true, Option.bind_some, O.cnd_bool, if_true, O.index_list, Int.natCast_nonneg, Int.toNat_natCast, List.getElem?_map, List.getElem?_eq_getElem hi, List.getElem?_eq_getElem h2, Option.map_some, O.len_list, List.length_map, O.ge_int, g, decide_false, Bool.false_eq_true, if_false, q1, O.calls_1, O.ne_int, O.add_int, hw, r1, hd]
   by_cases c0 : c = 0
   ·exact ⟨r, by simp [c0], by rw [r2]; simp [q2.1 c0]⟩
   ·exact ⟨c, by simp [c0], by simp [c0]; exact fun e => absurd (q2.2 e) c0⟩
  ·have g : (b.length : Int) ≤ i := by omega
   have : ¬ a.drop i = b.drop i := fun e => by
    have := congrArg List.length e
    simp at this; omega
   exact ⟨1, by simp [hi, g], by simp [this]⟩
theorem pv_cmp : ∀ a : Val, a.mass ≤ 1099511627776 → ∀ b : Val, ∃ c : Int, W F153 0 [a.enc, b.enc] = some [.int c] ∧ (c = 0 ↔ a = b) := by
 refine Val.ind fun a ih1 ih2 ha b => ?_
 have m1 := a.mass_len_l
 have m2 := a.mass_len_f
 obtain ⟨c1, q1, r1⟩ := pv_icmp a.k b.k
 obtain ⟨c2, q2, r2⟩ := pv_icmp a.n b.n
 obtain ⟨c3, q3, r3⟩ := pv_scmp a.s b.s
 obtain ⟨c4, q4, r4⟩ := pv_cf_v a.l b.l (by omega) (fun x hx y _ => ih1 x hx (by have := Val.mass_l hx; omega) y) a.l.length 0 (by omega) (Nat.zero_le _)
 have hf : ∀ x ∈ a.f, ∀ y ∈ b.f, ∃ c : Int, W F158 0 [Fld.enc x, Fld.enc y] = some [.int c] ∧ (c = 0 ↔ x = y) := by
  intro x hx y _
  obtain ⟨d1, u1, v1⟩ := pv_scmp x.1 y.1
  obtain ⟨d2, u2, v2⟩ := ih2 x hx (by have := Val.mass_f hx; omega) y.2
  obtain ⟨r, hr, h2⟩ := pv_or [d1, d2] (by simp)
  refine ⟨r, ?_, ?_⟩
  ·rw [e_F158_0]
   simp only [List.map_cons, List.map_nil] at hr
   simp only [Fld.proj0, Fld.projV, Option.bind_some, u1, u2, O.calls_1, O.mklist_eq, hr]
  ·rw [h2]; simp [v1, v2, Prod.ext_iff]
 obtain ⟨c5, q5, r5⟩ := pv_cf_f a.f b.f (by omega) hf a.f.length 0 (by omega) (Nat.zero_le _)
 obtain ⟨r, hr, h2⟩ := pv_or [c1, c2, c3, c4, c5] (by simp)
 simp only [List.drop_zero, Int.cast_ofNat_Int] at q4 r4 q5 r5
 simp only [List.map_cons, List.map_nil] at hr
 refine ⟨r, ?_, ?_⟩
 ·rw [e_F153_0]
  simp only [Val.proj0, Val.proj1, Val.proj2, Val.proj3, Val.proj4, Option.bind_some, q1, q2, q3, O.calls_1, e_F156_0, e_F157_0, O.len_list, List.length_map, q4, q5, O.mklist_eq, hr]
 ·rw [h2]
  simp only [List.mem_cons, List.not_mem_nil, or_false, forall_eq_or_imp, forall_eq, r1, r2, r3, r4, r5]
  cases a; cases b; simp
open Classical in
theorem pv_equal (a b : Val) (ha : a.mass ≤ 1099511627776) : W F152 0 [a.enc, b.enc] = some [.bool (decide (a = b))] := by
 obtain ⟨c, h1, h2⟩ := pv_cmp a ha b
 rw [e_F152_0]
 simp only [h1, O.calls_1, O.eq_int, Option.bind_some]
 congr 3
 simp only [h2]
end Go.CT.Sch
namespace Go.CT.Sch
open Go.Proofs
def EL (l : List (ByteArray × Int)) : IV := .list (l.map FE.enc)
theorem chgs_len' {v : Val} {s : Sch} {b : Val} {p : List Stp} (hv : v.mass ≤ 1048576) : (chgs v s b p).length ≤ 1048576 := by
 have h1 := chgs_len v s b p
 have h2 : v.size ≤ v.mass := v.bulk_size
 omega
open Classical in
theorem oldE_here {b x y : Val} {nm : ByteArray} {q : List Stp} (hh : isHere b nm = true) (hy : b.get nm = some y) : oldE b nm x q = if x = y then [] else [(printB q, 13)] := by
 unfold oldE
 rw [hh, hy]
 by_cases c : x = y
 ·subst c; simp
 ·have c' : ¬ y = x := fun e => c e.symm
  simp [c, c']
end Go.CT.Sch
namespace Go.CT.Sch
open Go.Proofs
theorem pg_pres (v : Val) (nm : ByteArray) (hv : v.mass ≤ 1048576) : W F76 0 [v.enc, .str nm] = some [.int ((v.get nm).getD zeroVal).k, .int ((v.get nm).getD zeroVal).n, .str ((v.get nm).getD zeroVal).s, .list (((v.get nm).getD zeroVal).l.map Val.enc), .list (((v.get nm).getD zeroVal).f.map Fld.enc), .bool (isHere v nm)] := by
 obtain ⟨w, h1, rfl⟩ := pg_present v nm hv
 exact h1
theorem pg_kindex_1 (s : Sch) (l : List Val) (k : ByteArray) (hl : l.length ≤ 1099511627776) (hm : ∀ x ∈ l, x.mass ≤ 1048576) : ∀ (n i : Nat), i + n = l.length →
  ∃ r : Int, W F160 1 [.list (l.map Val.enc), s.enc, .str k, .int l.length, .int i] = some [.int r] ∧
   ((((l.drop i).find? fun y => isKey y s.key && decide (keyB y s.key = k)) = none ∧ r < 0) ∨ (∃ (j : Nat) (u : Val), r = j ∧ l[j]? = some u ∧ ((l.drop i).find? fun y => isKey y s.key && decide (keyB y s.key = k)) = some u))
 | 0, i, h => by
  rw [e_F160_1]
  have h1 : ¬ i < l.length := by omega
  refine ⟨-1, by simp [h1], .inl ⟨by simp [List.drop_of_length_le (Nat.le_of_not_lt h1)], by omega⟩⟩
 | n + 1, i, h => by
  have hi : i < l.length := by omega
  have hw := next64 (i := i) (by omega)
  obtain ⟨r, hr, h2⟩ := pg_kindex_1 s l k hl hm n (i + 1) (by omega)
  have hc : W F161 0 [l[i].enc, s.enc, .str k] = some [.bool (isKey l[i] s.key && decide (keyB l[i] s.key = k))] := by
   rw [e_F161_0]
   simp only [Sch.proj4, Option.bind_some, pg_key l[i] s.key (hm _ (List.getElem_mem hi)), O.calls_2, O.sEq_str, O.cnd_bool, ite_some, ite_ivbool]
   cases isKey l[i] s.key <;> simp
  rw [e_F160_1, List.drop_eq_getElem_cons hi, List.find?_cons]
  simp only [O.lt_int, lt_cast, hi, decide_true, Option.bind_some, O.cnd_bool, if_true, O.index_list, Int.natCast_nonneg, Int.toNat_natCast, List.getElem?_map, List.getElem?_eq_getElem hi, Option.map_some, hc, O.calls_1, O.add_int, hw, hr]
  cases c : (isKey l[i] s.key && decide (keyB l[i] s.key = k)) with
  | true => exact ⟨i, by simp, .inr ⟨i, l[i], rfl, by simp [hi], rfl⟩⟩
  | false => exact ⟨r, by simp, h2⟩
theorem pg_kindex (s : Sch) (l : List Val) (k : ByteArray) (hne : s.key ≠ emptyB) (hl : l.length ≤ 1099511627776) (hm : ∀ x ∈ l, x.mass ≤ 1048576) :
  ∃ r : Int, W F160 0 [.list (l.map Val.enc), s.enc, .str k] = some [.int r] ∧
   ((l.find? (sameKey s.key k) = none ∧ r < 0) ∨ (∃ (j : Nat) (u : Val), r = j ∧ l[j]? = some u ∧ l.find? (sameKey s.key k) = some u)) := by
 obtain ⟨r, hr, h2⟩ := pg_kindex_1 s l k hl hm l.length 0 (by omega)
 have e : (fun y => isKey y s.key && decide (keyB y s.key = k)) = sameKey s.key k := by
  funext y
  unfold sameKey hasKey
  have : decide (s.key = emptyB) = false := by simpa using hne
  rw [this]; simp
 simp only [List.drop_zero] at h2
 rw [e] at h2
 refine ⟨r, ?_, h2⟩
 rw [e_F160_0]
 simp only [O.len_list, List.length_map, Option.bind_some]
 exact hr
def PgC (v : Val) : Prop := v.valid = true → v.mass ≤ 1048576 → ∀ (s : Sch) (b : Val) (p : List Stp) (out : List IV), SB s → s.mass ≤ 1048576 → b.mass ≤ 1048576 → (∀ x ∈ p, x.fits) → p.length + v.mass ≤ 1073741824 → out.length + v.size ≤ 4398046511103 →
 W F151 0 [.list out, s.enc, v.enc, b.enc, .list (p.map Stp.enc)] = some [.list (out ++ (chgs v s b p).map FE.enc)]
theorem pg_cmp_4 (s t : Sch) (v b : Val) (p : List Stp) (hvv : v.valid = true) (hv : v.mass ≤ 1048576) (hs : s.mass ≤ 1048576) (hb : b.mass ≤ 1048576) (ht : s.it = [t]) (hne : s.key ≠ emptyB) (hsb : SB s) (hp : ∀ s ∈ p, s.fits) (hl : p.length + v.mass ≤ 1073741824)
  (ih : ∀ x ∈ v.l, PgC x) : ∀ (n i : Nat) (out : List IV) (m : List (ByteArray × Bool)), i + n = v.l.length → out.length + sizeVs (v.l.drop i) ≤ 4398046511103 →
  (∀ k, (mlook m k).getD false = (v.l.take i).any (sameKey s.key k)) →
  W F151 4 [.list (p.map Stp.enc), .list (v.l.map Val.enc), .int v.l.length, .int i, s.enc, b.enc, .list (encM m), .list out] = some [.list (out ++ (chgsL (v.l.drop i) s.key t b p (v.l.take i)).map FE.enc)]
 | 0, i, out, m, h, ho, hM => by
  have h1 : ¬ i < v.l.length := by omega
  rw [e_F151_4, List.drop_of_length_le (by omega), chgsL_nil]
  simp only [O.lt_int, lt_cast, h1, decide_false, Option.bind_some, O.cnd_bool, Bool.false_eq_true, if_false, List.map_nil, List.append_nil]
 | n + 1, i, out, m, h, ho, hM => by
  have hi : i < v.l.length := by omega
  have hm := v.mass_len_l
  have hmb := b.mass_len_l
  have hw := next64 (i := i) (by omega)
  have hmem := List.getElem_mem hi
  have hx := Val.mass_l hmem
  have htm : t ∈ s.it := by rw [ht]; simp
  have htmass := Sch.mass_it htm
  have hkey := s.mass_key
  have hd := List.drop_eq_getElem_cons hi
  rw [hd] at ho ⊢
  rw [chgsL_cons]
  have hti : (v.l.take i).length = i := by simp; omega
  have htk : v.l.take i ++ [v.l[i]] = v.l.take (i + 1) := by simp
  rw [htk]
  simp only [sizeVs] at ho
  have hq := fits_snoc hp (elStp_fits s.key v.l[i] i (by omega) (by omega))
  obtain ⟨r, hr, hr2⟩ := pg_kindex s b.l (keyB v.l[i] s.key) hne (by omega) (fun x hx => by have := Val.mass_l hx; omega)
  have hany : ∀ k, (v.l.take (i + 1)).any (sameKey s.key k) = ((v.l.take i).any (sameKey s.key k) || sameKey s.key k v.l[i]) := by
   intro k; rw [← htk, List.any_append]; simp
  have hkk : hasKey v.l[i] s.key = isKey v.l[i] s.key := by
   unfold hasKey
   have : decide (s.key = emptyB) = false := by simpa using hne
   rw [this]; simp
  have go : ∀ (e : List (ByteArray × Int)) (m' : List (ByteArray × Bool)), e.length ≤ v.l[i].size → (∀ k, (mlook m' k).getD false = (v.l.take (i + 1)).any (sameKey s.key k)) →
    W F151 5 [.list (p.map Stp.enc), .list (v.l.map Val.enc), .int v.l.length, .int i, s.enc, b.enc, .list (encM m'), .list (out ++ e.map FE.enc)] = some [.list (out ++ (e ++ chgsL (v.l.drop (i + 1)) s.key t b p (v.l.take (i + 1))).map FE.enc)] := by
   intro e m' he hM'
   rw [e_F151_5]
   simp only [O.add_int, hw, Option.bind_some]
   rw [pg_cmp_4 s t v b p hvv hv hs hb ht hne hsb hp hl ih n (i + 1) _ m' (by omega) (by rw [List.length_append, List.length_map]; omega) hM', List.map_append, List.append_assoc]
  rw [e_F151_4]
  simp only [O.lt_int, lt_cast, hi, decide_true, Option.bind_some, O.cnd_bool, if_true, O.index_list, Int.natCast_nonneg, Int.toNat_natCast, List.getElem?_map, List.getElem?_eq_getElem hi, Option.map_some, Sch.proj4, pg_key v.l[i] s.key (by omega), O.calls_2, mget_enc, mhas_enc, hM]
  unfold chgL1
  cases hdup : (v.l.take i).any (sameKey s.key (keyB v.l[i] s.key)) with
  | true =>
   have hM' : ∀ k, (mlook m k).getD false = (v.l.take (i + 1)).any (sameKey s.key k) := by
    intro k
    rw [hM, hany]
    cases hs : sameKey s.key k v.l[i] with
    | false => simp
    | true =>
     unfold sameKey at hs
     simp only [Bool.and_eq_true, decide_eq_true_eq] at hs
     rw [← hs.2, hdup]; rfl
   have := go [] m (by simp) hM'
   simp only [List.map_nil, List.append_nil, List.nil_append] at this
   simp only [Bool.not_true, Bool.and_false, Bool.false_eq_true, if_false, if_true]
   have zeroE : ∀ e : List (ByteArray × Int), e = [] → W F151 5 [.list (p.map Stp.enc), .list (v.l.map Val.enc), .int v.l.length, .int i, s.enc, b.enc, .list (encM m), .list out] = some [.list (out ++ (e ++ chgsL (v.l.drop (i + 1)) s.key t b p (v.l.take (i + 1))).map FE.enc)] := by
    intro e he
    rw [he, List.nil_append]; exact this
   exact zeroE _ (by split <;> rfl)
  | false =>
   have hM' : ∀ k, (mlook (mputB (keyB v.l[i] s.key) (isKey v.l[i] s.key) m) k).getD false = (v.l.take (i + 1)).any (sameKey s.key k) := by
    intro k
    rw [mlook_put, hany]
    by_cases c : keyB v.l[i] s.key = k
    ·subst c
     rw [if_pos rfl, hdup]
     unfold sameKey
     rw [hkk]; simp
    ·rw [if_neg c, hM]
     unfold sameKey
     simp [c]
   simp only [Bool.false_eq_true, if_false, O.pick_bool, Option.bind_some, mset_enc, Val.proj3, hr, O.calls_1, O.ge_int, ite_some, ite_ivbool]
   have zero : ∀ e : List (ByteArray × Int), e = [] → W F151 6 [.list (p.map Stp.enc), .list (v.l.map Val.enc), .int v.l.length, .int i, s.enc, b.enc, .list (encM (mputB (keyB v.l[i] s.key) (isKey v.l[i] s.key) m)), .list out] = some [.list (out ++ (e ++ chgsL (v.l.drop (i + 1)) s.key t b p (v.l.take (i + 1))).map FE.enc)] := by
    intro e he
    have := go [] _ (by simp) hM'
    rw [e_F151_6, he]
    simp only [List.map_nil, List.append_nil] at this
    exact this
   rcases hr2 with ⟨h3, h4⟩ | ⟨j, u, rfl, h4, h5⟩
   ·have h4' : ¬ (0 : Int) ≤ r := by omega
    rw [h3]
    simp only [h4', decide_false, ite_self, O.cnd_bool, Option.bind_some, Bool.false_eq_true, if_false]
    exact zero [] rfl
   ·rw [h5]
    simp only [Int.natCast_nonneg, decide_true]
    cases hik : isKey v.l[i] s.key with
    | false =>
     rw [hik] at zero
     simp only [Bool.false_eq_true, if_false, O.cnd_bool, Option.bind_some]
     exact zero _ (by rw [hkk, hik]; simp)
    | true =>
     rw [hik] at hM'
     have hum := Val.mass_l (List.mem_of_find?_eq_some h5)
     have he := ih _ hmem (valid_l hvv hmem) (by omega) t u (p ++ [elStp s.key v.l[i] i]) out (hsb.mem_it htm) (by omega) (by omega) hq (by simp; omega) (by omega)
     have hel := chgs_len v.l[i] t u (p ++ [elStp s.key v.l[i] i])
     have := go _ _ hel hM'
     simp only [if_true, O.cnd_bool, Option.bind_some, Sch.proj5, ht, List.map_cons, List.map_nil, O.index_list, Int.le_refl, Int.toNat_zero, List.getElem?_cons_zero, Int.natCast_nonneg, Int.toNat_natCast, List.getElem?_map, h4, Option.map_some, pg_element' s v.l[i] i (by omega), O.calls_1, pg_then p (elStp s.key v.l[i] i) (by omega), he, e_F151_6, hkk, hik, Bool.not_false, Bool.and_self, hti]
     exact this
theorem pg_cmp_1 (s : Sch) (v b : Val) (p : List Stp) (hvv : v.valid = true) (hk : v.k = s.k) (hv : v.mass ≤ 1048576) (hs : s.mass ≤ 1048576) (hb : b.mass ≤ 1048576) (hsb : SB s) (hp : ∀ s ∈ p, s.fits) (hl : p.length + v.mass ≤ 1073741824)
  (ih : ∀ x ∈ v.f, PgC x.2) : ∀ (n i : Nat) (out : List IV), i + n = v.f.length → out.length + sizeFs (v.f.drop i) ≤ 4398046511103 →
  W F151 1 [.list (p.map Stp.enc), .list (v.f.map Fld.enc), .int v.f.length, .int i, s.enc, v.enc, b.enc, .list out]
   = W F151 1 [.list (p.map Stp.enc), .list (v.f.map Fld.enc), .int v.f.length, .int v.f.length, s.enc, v.enc, b.enc, .list (out ++ (chgsF (v.f.drop i) s b p).map FE.enc)]
 | 0, i, out, h, ho => by
  have h1 : i = v.f.length := by omega
  subst h1
  rw [List.drop_of_length_le (Nat.le_refl _), chgsF_nil, List.map_nil, List.append_nil]
 | n + 1, i, out, h, ho => by
  have hi : i < v.f.length := by omega
  have hm := v.mass_len_f
  have hw := next64 (i := i) (by omega)
  have hmem := List.getElem_mem hi
  have hx := Val.mass_f hmem
  have hxp := v.f[i].2.size_pos
  have hg := get_of_mem hvv hmem
  have k5 : s.k = 5 := by
   have := (mem_of_get hg).2
   omega
  have hd := List.drop_eq_getElem_cons hi
  rw [hd] at ho ⊢
  rw [chgsF_cons]
  simp only [sizeFs] at ho
  have hq := fits_snoc hp (fldStp_fits v.f[i].1 (by omega))
  have hpr := pg_pres v v.f[i].1 (by omega)
  have hprb := pg_pres b v.f[i].1 (by omega)
  have hfd := pg_field s v.f[i].1 (by omega)
  have hth := pg_then p (fldStp v.f[i].1) (by omega)
  have hh : isHere v v.f[i].1 = !decide (v.f[i].2.k = 0) := isHere_get hg
  rw [hg, Option.getD_some] at hpr
  have go : ∀ e : List (ByteArray × Int), e.length ≤ v.f[i].2.size → W F151 2 [.list (p.map Stp.enc), .list (v.f.map Fld.enc), .int v.f.length, .int i, s.enc, v.enc, b.enc, .list (out ++ e.map FE.enc)]
    = W F151 1 [.list (p.map Stp.enc), .list (v.f.map Fld.enc), .int v.f.length, .int v.f.length, s.enc, v.enc, b.enc, .list (out ++ (e ++ chgsF (v.f.drop (i + 1)) s b p).map FE.enc)] := by
   intro e he
   rw [e_F151_2]
   simp only [O.add_int, hw, Option.bind_some]
   rw [pg_cmp_1 s v b p hvv hk hv hs hb hsb hp hl ih n (i + 1) _ (by omega) (by rw [List.length_append, List.length_map]; omega), List.map_append, List.append_assoc]
  have zero : W F151 2 [.list (p.map Stp.enc), .list (v.f.map Fld.enc), .int v.f.length, .int i, s.enc, v.enc, b.enc, .list out]
    = W F151 1 [.list (p.map Stp.enc), .list (v.f.map Fld.enc), .int v.f.length, .int v.f.length, s.enc, v.enc, b.enc, .list (out ++ ([] ++ chgsF (v.f.drop (i + 1)) s b p).map FE.enc)] := by
   have := go [] (by simp)
   simp only [List.map_nil, List.append_nil] at this
   exact this
  have rec' : ∀ (t : Sch) (y : Val), SB t → t.mass ≤ 1048576 → y.mass ≤ 1048576 → W F151 0 [.list out, t.enc, v.f[i].2.enc, y.enc, .list ((p ++ [fldStp v.f[i].1]).map Stp.enc)] = some [.list (out ++ (chgs v.f[i].2 t y (p ++ [fldStp v.f[i].1])).map FE.enc)] :=
   fun t y h1 h2 h3 => ih _ hmem (valid_f hvv hmem).1 (by omega) t y _ out h1 h2 h3 hq (by simp; omega) (by omega)
  conv => lhs; rw [e_F161]
  simp only [O.lt_int, lt_cast, hi, decide_true, Option.bind_some, O.cnd_bool, if_true, O.index_list, Int.natCast_nonneg, Int.toNat_natCast, List.getElem?_map, List.getElem?_eq_getElem hi, Option.map_some, Fld.proj0, hpr, calls_6, O.not_bool, hh, Bool.not_not]
  unfold chg1
  by_cases k0 : v.f[i].2.k = 0
  ·simp only [k0, decide_true, if_true]
   have zeroE : ∀ e : List (ByteArray × Int), e = [] → W F151 2 [.list (p.map Stp.enc), .list (v.f.map Fld.enc), .int v.f.length, .int i, s.enc, v.enc, b.enc, .list out]
     = W F151 1 [.list (p.map Stp.enc), .list (v.f.map Fld.enc), .int v.f.length, .int v.f.length, s.enc, v.enc, b.enc, .list (out ++ (e ++ chgsF (v.f.drop (i + 1)) s b p).map FE.enc)] := by
    intro e he
    rw [he]; exact zero
   exact zeroE _ (by split <;> rfl)
  ·simp only [k0, decide_false, Bool.false_eq_true, if_false, hprb, calls_6, pg_member, O.calls_1, hth, hfd, O.calls_2, SFld.proj2, O.cnd_bool, ite_some, ite_ivbool, Option.bind_some, O.mkagg_eq, Val.fold_eta, O.pick_bool, SFld.projS, Sch.proj5, pg_dict s, k5, true_and, decide_true, Bool.true_and]
   have yb : ∀ y, b.get v.f[i].1 = some y → y.mass ≤ 1048576 := fun y hy => by have := Val.mass_f (mem_of_get hy).1; simp only at this; omega
   cases hit : s.it with
   | cons t r =>
    have htm : t ∈ s.it := by rw [hit]; simp
    have htmass := Sch.mass_it htm
    have hsub : subS s v.f[i].1 = some t := by unfold subS; rw [hit]
    have him : immB s v.f[i].1 = false := by unfold immB; rw [hit]; simp
    simp only [hsub, him, List.length_cons, show ¬ (r.length + 1 = 0) by omega, decide_false, Bool.false_and, Bool.false_eq_true, if_false, show 0 < r.length + 1 by omega, decide_true, List.map_cons, O.index_list, Int.le_refl, if_true, Int.toNat_zero, List.getElem?_cons_zero, Option.bind_some, O.cnd_bool]
    cases hbh : isHere b v.f[i].1 with
    | false =>
     simp only [Bool.false_eq_true, if_false, O.cnd_bool, Option.bind_some, ite_self, e_F151_3]
     exact zero
    | true =>
     obtain ⟨y, hy, _⟩ := here_get hbh
     have hel := chgs_len v.f[i].2 t y (p ++ [fldStp v.f[i].1])
     simp only [hy, Option.getD_some, if_true, O.cnd_bool, Option.bind_some, Bool.false_eq_true, if_false, O.calls_1, rec' t y (hsb.mem_it htm) (by omega) (yb y hy), e_F151_3]
     exact go _ hel
   | nil =>
    simp only [List.length_nil, decide_true, Bool.true_and, if_true, Nat.lt_irrefl, decide_false]
    cases hfl : s.fld v.f[i].1 with
    | none =>
     have hsub : subS s v.f[i].1 = none := by unfold subS; rw [hit, hfl]; rfl
     simp only [hsub, Option.isSome_none, Bool.false_eq_true, if_false, O.cnd_bool, Option.bind_some, ite_self, O.calls_1, e_F151_3]
     exact zero
    | some d =>
     have hdm := (fld_mem hfl).1
     have hds := Sch.mass_f hdm
     have hsub : subS s v.f[i].1 = some d.s := by unfold subS; rw [hit, hfl]; rfl
     have him : immB s v.f[i].1 = d.im := by unfold immB; rw [hit, hfl]; simp
     simp only [hsub, him, Option.isSome_some, Option.getD_some, if_true, O.cnd_bool, Option.bind_some]
     cases hdi : d.im with
     | true =>
      have hap := pg_add out (p ++ [fldStp v.f[i].1]) 13 hq (by simp; omega) (by omega)
      have one : W F151 2 [.list (p.map Stp.enc), .list (v.f.map Fld.enc), .int v.f.length, .int i, s.enc, v.enc, b.enc, .list (out ++ [errAt (p ++ [fldStp v.f[i].1]) 13])]
        = W F151 1 [.list (p.map Stp.enc), .list (v.f.map Fld.enc), .int v.f.length, .int v.f.length, s.enc, v.enc, b.enc, .list (out ++ ([(printB (p ++ [fldStp v.f[i].1]), (13 : Int))] ++ chgsF (v.f.drop (i + 1)) s b p).map FE.enc)] :=
       go [(printB (p ++ [fldStp v.f[i].1]), 13)] (by simp; omega)
      simp only [if_true]
      cases hbh : isHere b v.f[i].1 with
      | false =>
       unfold oldE
       simp only [hbh, Bool.not_false, if_true, O.cnd_bool, Option.bind_some, hap, O.calls_1, e_F151_3, Bool.false_and, Bool.false_eq_true, if_false]
       exact one
      | true =>
       obtain ⟨y, hy, _⟩ := here_get hbh
       have heq := pv_equal v.f[i].2 y (by omega)
       rw [oldE_here hbh hy]
       simp only [hy, Option.getD_some, Bool.not_true, Bool.false_eq_true, if_false, heq, O.calls_1, O.not_bool, Option.bind_some, O.cnd_bool]
       by_cases c : v.f[i].2 = y
       ·simp only [c, decide_true, Bool.not_true, Bool.false_eq_true, if_false, if_true, e_F151_3]
        exact zero
       ·simp only [c, decide_false, Bool.not_false, if_true, if_false, hap, O.calls_1, e_F151_3]
        exact one
     | false =>
      simp only [Bool.false_eq_true, if_false]
      cases hbh : isHere b v.f[i].1 with
      | false =>
       simp only [Bool.false_eq_true, if_false, O.cnd_bool, Option.bind_some, ite_self, e_F151_3]
       exact zero
      | true =>
       obtain ⟨y, hy, _⟩ := here_get hbh
       have hel := chgs_len v.f[i].2 d.s y (p ++ [fldStp v.f[i].1])
       simp only [hy, Option.getD_some, if_true, O.cnd_bool, Option.bind_some, Bool.false_eq_true, if_false, O.calls_1, rec' d.s y (hsb.mem_f hdm) (by omega) (yb y hy), e_F151_3]
       exact go _ hel
theorem pg_chg : ∀ v : Val, PgC v := by
 refine Val.ind fun v ih1 ih2 hvv hv s b p out hsb hs hb hp hl ho => ?_
 have hsz := v.size_eq
 rw [e_F151_0, chgs_eq]
 simp only [Val.proj0, Sch.proj0, Option.bind_some, O.ne_int, O.cnd_bool, ite_some, ite_ivbool]
 by_cases k1 : v.k = s.k
 ·by_cases k2 : b.k = s.k
  ·have h1 := pg_cmp_1 s v b p hvv k1 hv hs hb hsb hp hl ih2 v.f.length 0 out (by omega) (by simp; omega)
   simp only [Int.cast_ofNat_Int, List.drop_zero] at h1
   have hlt : ¬ v.f.length < v.f.length := by omega
   simp only [k1, k2, decide_true, Bool.not_true, Bool.false_eq_true, if_false, and_self, if_true, Val.proj4, O.len_list, List.length_map, Option.bind_some, h1]
   rw [e_F161]
   simp only [O.lt_int, lt_cast, hlt, decide_false, Option.bind_some, O.cnd_bool, Bool.false_eq_true, if_false, Sch.proj0, O.ne_int, Sch.proj4, O.sEq_str, ite_some, ite_ivbool, Val.proj3, O.len_list, List.length_map, emptyB_eq]
   by_cases k4 : s.k = 4
   ·have hnf : v.f = [] := valid_nof hvv (by omega)
    simp only [hnf, chgsF_nil, List.map_nil, List.append_nil, k4, decide_true, Bool.not_true, Bool.false_eq_true, if_false, if_true]
    by_cases c : s.key = emptyB
    ·simp only [c, decide_true, if_true, List.map_nil, List.append_nil]
    ·obtain ⟨t, ht⟩ := List.length_eq_one_iff.1 (hsb.list k4)
     have := pg_cmp_4 s t v b p hvv hv hs hb ht c hsb hp hl ih1 v.l.length 0 out [] (by omega) (by simp; omega) (fun k => by simp [mlook])
     simp only [Int.cast_ofNat_Int, List.drop_zero, List.take_zero] at this
     simp only [c, decide_false, Bool.false_eq_true, if_false]
     rw [ht, List.headD_cons]
     exact this
   ·simp only [k4, decide_false, Bool.not_false, if_true, if_false]
    by_cases k5 : s.k = 5
    ·simp only [k5, if_true]
    ·have hnf : v.f = [] := valid_nof hvv (by omega)
     simp only [hnf, chgsF_nil, List.map_nil, List.append_nil, k5, if_false]
  ·have hc : ¬ (v.k = s.k ∧ b.k = s.k) := fun h => k2 h.2
   rw [if_neg hc]
   simp only [k1, k2, decide_true, decide_false, Bool.not_true, Bool.not_false, Bool.false_eq_true, if_false, if_true, List.map_nil, List.append_nil]
 ·have hc : ¬ (v.k = s.k ∧ b.k = s.k) := fun h => k1 h.1
  rw [if_neg hc]
  simp only [k1, decide_false, Bool.not_false, if_true, List.map_nil, List.append_nil]
end Go.CT.Sch
namespace Go.CT.Srt
variable {β : Type} {lt : β → β → Bool}
end Go.CT.Srt
namespace Go.CT.Sch
open Go.Proofs
def eltB (x y : ByteArray × Int) : Bool := blt x.1 y.1
theorem eord : Srt.Ord eltB where
 irr x := blt_irrefl _
 tr x y z h k := blt_trans h k
 neg x y z h := by
  rcases blt_total x.1 y.1 with h1 | h1 | h1
  ·exact .inl h1
  ·right; unfold eltB at h ⊢; rw [← h1]; exact h
  ·right; exact blt_trans h1 h
@[simp] theorem FE.proj0 (e : ByteArray × Int) : O.proj 0 (FE.enc e) = some (.str e.1) := rfl
@[simp] theorem FE.proj1 (e : ByteArray × Int) : O.proj 1 (FE.enc e) = some (.int e.2) := rfl
theorem ecmp (x y : ByteArray × Int) : ∃ c : Int, W F165 0 [FE.enc x, FE.enc y] = some [.int c] ∧ (decide (c < 0) = eltB x y) := by
 refine ⟨Lib.compareBytes x.1.data.toList y.1.data.toList, ?_, cmpB _ _⟩
 rw [e_F165_0]
 simp [e_F36_0, e_F37_0, e_F38, O.compareF]
noncomputable def eeqs : Srt.Eqs FE.enc eltB 2 true where
 S b xs := W F162 b xs
 B b xs := W F163 b xs
 I b xs := W F164 b xs
 M b xs := W F166 b xs
 R b xs := W F167 b xs
 X b xs := W F168 b xs
 C xs := W F165 0 xs
 cmp := ecmp
 s0 := by intros; exact V_is rfl (by kernel_rfl)
 b0 := by intros; exact V_is rfl (by kernel_rfl)
 b1 := by intros; exact V_is rfl (by kernel_rfl)
 b2 := by intros; exact V_is rfl (by kernel_rfl)
 b3 := by intros; exact V_is rfl (by kernel_rfl)
 b4 := by intros; exact V_is rfl (by kernel_rfl)
 i0 := by intros; exact V_is rfl (by kernel_rfl)
 i1 := by intros; exact V_is rfl (by kernel_rfl)
 i2 := by intros; exact V_is rfl (by kernel_rfl)
 x0 := by intros; exact V_is rfl (by kernel_rfl)
 x1 := by intros; exact V_is rfl (by kernel_rfl)
 r0 := by intros; exact V_is rfl (by kernel_rfl)
 r1 := by intros; exact V_is rfl (by kernel_rfl)
 r2 := by intros; exact V_is rfl (by kernel_rfl)
 m0 := by intros; exact V_is rfl (by kernel_rfl)
 m1 := by intros; exact V_is rfl (by kernel_rfl)
 m2 := by intros; exact V_is rfl (by kernel_rfl)
 m3 := by intros; exact V_is rfl (by kernel_rfl)
 m4 := by intros; exact V_is rfl (by kernel_rfl)
 m5 := by intros; exact V_is rfl (by kernel_rfl)
 m6 := by intros; exact V_is rfl (by kernel_rfl)
 m7 := by intros; exact V_is rfl (by kernel_rfl)
 m8 := by intros; exact V_is rfl (by kernel_rfl)
 m9 := by intros; exact V_is rfl (by kernel_rfl)
 m10 := by intros; exact V_is rfl (by kernel_rfl)
 m11 := by intros; exact V_is rfl (by kernel_rfl)
theorem pg_Changes (s : Sch) (v w : Val) (hs : s.mass ≤ 1048576) (hv : v.mass ≤ 1048576) (hw : w.mass ≤ 1048576) :
  ∃ l : List (ByteArray × Int), W F150 0 [s.enc, v.enc, w.enc] = some [EL l] ∧ l.length ≤ 1048576 ∧
   (∀ e ∈ l, s.valid = true ∧ v.valid = true ∧ w.valid = true ∧ e ∈ chgs v s w []) ∧ Srt.Sorted eltB l ∧ Srt.Stab eltB (if s.valid && v.valid && w.valid then chgs v s w [] else []) l := by
 rw [e_F150_0]
 simp only [pg_Svalid s hs, pv_Valid v (by omega), pv_Valid w (by omega), O.calls_1, O.not_bool, Option.bind_some, O.cnd_bool, ite_some, ite_ivbool]
 cases hsv : s.valid with
 | false => exact ⟨[], rfl, by simp, by simp, List.Pairwise.nil, .refl _⟩
 | true =>
  cases hvv : v.valid with
  | false => exact ⟨[], rfl, by simp, by simp, List.Pairwise.nil, .refl _⟩
  | true =>
   cases hwv : w.valid with
   | false => exact ⟨[], rfl, by simp, by simp, List.Pairwise.nil, .refl _⟩
   | true =>
    have hsb := Sch.valid_SB hsv
    have hlen := chgs_len' (s := s) (b := w) (p := []) hv
    have h1 := pg_chg v hvv hv s w [] [] hsb hs hw (by simp) (by simp; omega) (by
     have : v.size ≤ v.mass := v.bulk_size
     simp; omega)
    simp only [List.map_nil, List.nil_append] at h1
    obtain ⟨r1, a1, a2, a3⟩ := Srt.sort eord eeqs (chgs v s w []) (by omega)
    refine ⟨r1, ?_, by rw [← a2.1]; exact hlen, fun x hx => ⟨rfl, rfl, rfl, a2.symm.mem eord hx⟩, a1, a2⟩
    have a3' : W F162 0 [.list ((chgs v s w []).map FE.enc)] = some [EL r1] := a3
    simp only [Bool.not_true, Bool.false_eq_true, if_false, h1, O.calls_1, a3']
end Go.CT.Sch
namespace Go.CT.Sch
open Go.Proofs
theorem Sch.fold_eta (s : Sch) : IV.agg [.int s.k, .int s.mn, .int s.mx, .list (s.en.map .str), .str s.key, .list (s.it.map Sch.enc), .list (s.f.map SFld.enc)] = s.enc := by
 rw [s.enc_eq, s.comps_eq]
end Go.CT.Sch
namespace Go.CT.Sch
open Go.Proofs
theorem rg_field_1 (v : Val) (nm : ByteArray) (hv : v.mass ≤ 1048576) : ∀ (n i : Nat), i + n = v.f.length →
  ∃ r : Int, W F131 1 [.str nm, .int i, v.enc] = some [.int r] ∧
   (((v.k = 5 → ((v.f.drop i).find? fun p => decide (p.1 = nm)) = none) ∧ r < 0) ∨ (v.k = 5 ∧ ∃ (j : Nat) (x : Val), r = j ∧ v.f[j]? = some (nm, x) ∧ ((v.f.drop i).find? fun p => decide (p.1 = nm)) = some (nm, x)))
 | 0, i, h => by
  rw [e_F131_1]
  have h1 : ¬ i < v.f.length := by omega
  refine ⟨-1, by simp [h1], .inl ⟨fun _ => by simp [List.drop_of_length_le (Nat.le_of_not_lt h1)], by omega⟩⟩
 | n + 1, i, h => by
  have hi : i < v.f.length := by omega
  have hm := v.mass_len_f
  have hw := next64 (i := i) (by omega)
  obtain ⟨r, hr, h2⟩ := rg_field_1 v nm hv n (i + 1) (by omega)
  rw [e_F131_1, List.drop_eq_getElem_cons hi, List.find?_cons]
  simp only [Val.proj4, O.len_list, List.length_map, O.lt_int, lt_cast, hi, decide_true, Option.bind_some, O.cnd_bool, if_true, Val.proj0, O.eq_int, O.index_list, Int.natCast_nonneg, Int.toNat_natCast, List.getElem?_map, List.getElem?_eq_getElem hi, Option.map_some, Fld.proj0, O.sEq_str, ite_some, ite_ivbool, O.add_int, hw, hr]
  by_cases k5 : v.k = 5
  ·by_cases c : v.f[i].1 = nm
   ·refine ⟨i, by simp [k5, c], .inr ⟨k5, i, v.f[i].2, rfl, by simp [hi, ← c], by simp [← c]⟩⟩
   ·have c' : decide (v.f[i].1 = nm) = false := by simpa using c
    simp only [k5, decide_true, if_true, c', Bool.false_eq_true, if_false]
    refine ⟨r, rfl, ?_⟩
    rcases h2 with ⟨h3, h4⟩ | ⟨_, h3⟩
    ·exact .inl ⟨fun _ => h3 k5, h4⟩
    ·exact .inr ⟨trivial, h3⟩
  ·simp only [k5, decide_false, Bool.false_eq_true, if_false]
   rcases h2 with ⟨h3, h4⟩ | ⟨h3, _⟩
   ·exact ⟨r, rfl, .inl ⟨fun h => h.elim, h4⟩⟩
   ·exact (k5 h3).elim
theorem rg_field (v : Val) (nm : ByteArray) (hv : v.mass ≤ 1048576) : ∃ r : Int, W F131 0 [v.enc, .str nm] = some [.int r] ∧
  ((v.get nm = none ∧ r < 0) ∨ ∃ (j : Nat) (x : Val), r = j ∧ v.f[j]? = some (nm, x) ∧ v.get nm = some x) := by
 obtain ⟨r, hr, h2⟩ := rg_field_1 v nm hv v.f.length 0 (by omega)
 refine ⟨r, by rw [e_F131_0]; exact hr, ?_⟩
 simp only [List.drop_zero] at h2
 unfold Val.get
 rcases h2 with ⟨h3, h4⟩ | ⟨h3, j, x, h4, h5, h6⟩
 ·left
  refine ⟨?_, h4⟩
  split
  ·rename_i k5; rw [h3 k5]; rfl
  ·rfl
 ·right
  exact ⟨j, x, h4, h5, by rw [if_pos h3, h6]; rfl⟩
theorem rg_has (v : Val) (nm vl : ByteArray) (hv : v.mass ≤ 1048576) : W F132 0 [v.enc, .str nm, .str vl] = some [.bool (hasB nm vl v)] := by
 obtain ⟨r, hr, h2⟩ := rg_field v nm hv
 rw [e_F132_0]
 unfold hasB
 rcases h2 with ⟨h3, h4⟩ | ⟨j, x, rfl, h5, h6⟩
 ·have h4' : ¬ (0 : Int) ≤ r := by omega
  simp only [hr, O.calls_1, O.ge_int, h4', decide_false, Option.bind_some, O.cnd_bool, Bool.false_eq_true, if_false, h3, Option.getD_none]
  rfl
 ·simp only [hr, O.calls_1, O.ge_int, Int.natCast_nonneg, decide_true, Option.bind_some, O.cnd_bool, if_true, Val.proj4, O.index_list, Int.toNat_natCast, List.getElem?_map, h5, Option.map_some, Fld.proj1, Fld.proj3, O.eq_int, O.sEq_str, h6, Option.getD_some]
  by_cases c : x.k = 3 <;> simp [c]
theorem rg_find_1 (v : Val) (x : Stp) (hv : v.mass ≤ 1048576) : ∀ (n i : Nat), i + n = v.l.length →
  ∃ r : Int, W F130 1 [.int i, v.enc, x.enc] = some [.int r] ∧
   ((((v.l.drop i).find? (hasB x.nm x.vl)) = none ∧ r < 0) ∨ (∃ (j : Nat) (u : Val), r = j ∧ v.l[j]? = some u ∧ ((v.l.drop i).find? (hasB x.nm x.vl)) = some u))
 | 0, i, h => by
  rw [e_F130_1]
  have h1 : ¬ i < v.l.length := by omega
  refine ⟨-1, by simp [h1], .inl ⟨by simp [List.drop_of_length_le (Nat.le_of_not_lt h1)], by omega⟩⟩
 | n + 1, i, h => by
  have hi : i < v.l.length := by omega
  have hm := v.mass_len_l
  have hx := Val.mass_l (List.getElem_mem hi)
  have hw := next64 (i := i) (by omega)
  obtain ⟨r, hr, h2⟩ := rg_find_1 v x hv n (i + 1) (by omega)
  have hh := rg_has v.l[i] x.nm x.vl (by omega)
  rw [e_F130_1, List.drop_eq_getElem_cons hi, List.find?_cons]
  simp only [Val.proj3, O.len_list, List.length_map, O.lt_int, lt_cast, hi, decide_true, Option.bind_some, O.cnd_bool, if_true, O.index_list, Int.natCast_nonneg, Int.toNat_natCast, List.getElem?_map, List.getElem?_eq_getElem hi, Option.map_some, Stp.proj1, Stp.proj3, hh, O.calls_1, O.add_int, hw, hr]
  cases c : hasB x.nm x.vl v.l[i] with
  | true => exact ⟨i, by simp, .inr ⟨i, v.l[i], rfl, by simp [hi], rfl⟩⟩
  | false => exact ⟨r, by simp, h2⟩
theorem rg_find (v : Val) (x : Stp) (hv : v.mass ≤ 1048576) (hx : stepOk x = true) : ∃ r : Int, W F130 0 [v.enc, x.enc] = some [.int r] ∧
  ((stepV v x = none ∧ r < 0) ∨ ∃ (j : Nat) (u : Val), r = j ∧ stepV v x = some u ∧ (x.k = 1 → v.f[j]? = some (x.nm, u)) ∧ (x.k ≠ 1 → v.l[j]? = some u)) := by
 obtain ⟨g1, g2, g3, g4, g5⟩ := stepOk_sizes hx
 rw [e_F130_0]
 unfold stepV
 simp only [Stp.proj0, Stp.proj1, Option.bind_some, O.eq_int, O.cnd_bool]
 by_cases k1 : x.k = 1
 ·obtain ⟨r, hr, h2⟩ := rg_field v x.nm hv
  simp only [k1, decide_true, if_true, hr, O.calls_1]
  refine ⟨r, rfl, ?_⟩
  rcases h2 with h2 | ⟨j, u, h3, h4, h5⟩
  ·exact .inl h2
  ·exact .inr ⟨j, u, h3, h5, fun _ => h4, fun h => (h rfl).elim⟩
 ·simp only [k1, decide_false, Bool.false_eq_true, if_false, Val.proj0, Option.bind_some, O.ne_int, O.cnd_bool]
  by_cases k4 : v.k = 4
  ·simp only [k4, decide_true, Bool.not_true, Bool.false_eq_true, if_false, if_true]
   by_cases k2 : x.k = 2
   ·obtain ⟨j, hj⟩ := Int.eq_ofNat_of_zero_le (g3 k2).1
    simp only [k2, decide_true, if_true, Stp.proj2, Val.proj3, O.len_list, List.length_map, Option.bind_some, O.lt_int, O.cnd_bool, hj, Int.ofNat_eq_natCast, Int.toNat_natCast, lt_cast]
    by_cases c : j < v.l.length
    ·refine ⟨j, by simp [c], .inr ⟨j, v.l[j], rfl, by simp [c], fun h => by simp at h, fun _ => by simp [c]⟩⟩
    ·refine ⟨-1, by simp [c], .inl ⟨by simpa using c, by omega⟩⟩
   ·obtain ⟨r, hr, h2⟩ := rg_find_1 v x hv v.l.length 0 (by omega)
    simp only [Int.cast_ofNat_Int, List.drop_zero] at hr h2
    simp only [k2, decide_false, Bool.false_eq_true, if_false, hr]
    refine ⟨r, rfl, ?_⟩
    rcases h2 with h2 | ⟨j, u, h3, h4, h5⟩
    ·exact .inl h2
    ·exact .inr ⟨j, u, h3, h5, fun h => h.elim, fun _ => h4⟩
  ·exact ⟨-1, by simp [k4], .inl ⟨by simp [k4], by omega⟩⟩
theorem zeroVal_enc : IV.agg [.int 0, .int 0, .str ⟨#[]⟩, .list [], .list []] = zeroVal.enc := rfl
theorem rg_get_1 (p : List Stp) (hl : p.length ≤ 1099511627776) (hp : ∀ x ∈ p, stepOk x = true) (y3 y4 y5 : IV) : ∀ (n i : Nat) (v : Val), i + n = p.length → v.mass ≤ 1048576 →
  W F129 1 [.list (p.map Stp.enc), .int i, v.enc, y3, y4, y5] = some [((getP v (p.drop i)).getD zeroVal).enc, .bool (getP v (p.drop i)).isSome]
 | 0, i, v, h, hv => by
  have h1 : ¬ i < p.length := by omega
  rw [e_F129_1, List.drop_of_length_le (by omega)]
  simp only [O.len_list, List.length_map, O.lt_int, lt_cast, h1, decide_false, Option.bind_some, O.cnd_bool, Bool.false_eq_true, if_false, getP, Option.getD_some, Option.isSome_some]
 | n + 1, i, v, h, hv => by
  have hi : i < p.length := by omega
  have hw := next64 (i := i) (by omega)
  have hx := hp _ (List.getElem_mem hi)
  obtain ⟨r, hr, h2⟩ := rg_find v p[i] hv hx
  rw [e_F129_1, List.drop_eq_getElem_cons hi]
  simp only [O.len_list, List.length_map, O.lt_int, lt_cast, hi, decide_true, Option.bind_some, O.cnd_bool, if_true, O.index_list, Int.natCast_nonneg, Int.toNat_natCast, List.getElem?_map, List.getElem?_eq_getElem hi, Option.map_some, hr, O.calls_1, O.mkagg_eq, Stp.proj0, O.eq_int, Val.proj3, Val.proj4, getP, zeroVal_enc]
  rcases h2 with ⟨h3, h4⟩ | ⟨j, u, rfl, h3, h4, h5⟩
  ·simp only [h4, decide_true, if_true, h3]; rfl
  ·have hj : ¬ (j : Int) < 0 := by omega
   have hm := stepV_mass h3
   have ih := rg_get_1 p hl hp y3 y4 y5 n (i + 1) u (by omega) (by omega)
   have e2 : W F129 2 [.list (p.map Stp.enc), .int i, u.enc, y3, y4, y5] = some [((getP u (p.drop (i + 1))).getD zeroVal).enc, .bool (getP u (p.drop (i + 1))).isSome] := by
    rw [e_F129_2]
    simp only [O.add_int, hw, Option.bind_some, ih]
   simp only [hj, decide_false, Bool.false_eq_true, if_false, h3, Option.bind_some, Int.natCast_nonneg, if_true, Int.toNat_natCast]
   by_cases k1 : p[i].k = 1
   ·simp only [k1, decide_true, if_true, h4 k1, Option.map_some, Option.bind_some, Fld.projV, e2]
   ·simp only [k1, decide_false, Bool.false_eq_true, if_false, h5 k1, Option.map_some, Option.bind_some, e2]
def getV (v : Val) (p : List Stp) : Option Val := if pathOk p then getP v p else none
theorem rg_get (v : Val) (p : List Stp) (hv : v.mass ≤ 1048576) (hp : ∀ x ∈ p, x.fits) (hl : p.length ≤ 1099511627776) : W F129 0 [v.enc, .list (p.map Stp.enc)] = some [((getV v p).getD zeroVal).enc, .bool (getV v p).isSome] := by
 rw [e_F129_0]
 unfold getV
 simp only [ref_pvalid p hp hl, O.calls_1, O.not_bool, Option.bind_some, O.cnd_bool, O.mkagg_eq, zeroVal_enc]
 cases hb : pathOk p with
 | false => rfl
 | true =>
  have hb2 := hb
  unfold pathOk at hb2
  simp only [Bool.and_eq_true, List.all_eq_true] at hb2
  have := rg_get_1 p hl hb2.1 (.int 0) (.int 0) (.str ⟨#[]⟩) p.length 0 v (by omega) hv
  simp only [Int.cast_ofNat_Int, List.drop_zero] at this
  simp only [Bool.not_true, Bool.false_eq_true, if_false, this, if_true]
end Go.CT.Sch
namespace Go.CT.Sch
open Go.Proofs
theorem toList_len (s : ByteArray) : s.data.toList.length = s.size := by simp
theorem drop_size {s : ByteArray} {i : Nat} {l : List UInt8} (h : s.data.toList.drop i = l) (hl : l ≠ []) : i + l.length = s.size := by
 have := congrArg List.length h
 rw [List.length_drop, toList_len] at this
 have : 0 < l.length := List.length_pos_iff.2 hl
 omega
theorem drop_add {s : ByteArray} {i : Nat} {a r : List UInt8} (h : s.data.toList.drop i = a ++ r) : s.data.toList.drop (i + a.length) = r := by
 rw [← List.drop_drop, h, List.drop_left]
theorem sx {s : ByteArray} {i : Nat} {c : UInt8} {r : List UInt8} (h : s.data.toList.drop i = c :: r) : O.sindex (.str s) (.int i) = some (.int c.toNat) ∧ i < s.size ∧ s.data.toList.drop (i + 1) = r := by
 have h1 := drop_size h (by simp)
 simp only [List.length_cons] at h1
 have hi : i < s.size := by omega
 have h2 := drop_get hi
 rw [h] at h2
 obtain ⟨h3, h4⟩ := List.cons.inj h2
 refine ⟨?_, hi, h4.symm⟩
 simp only [O.sindex_str, Int.natCast_nonneg, if_true, Int.toNat_natCast, sget hi, Option.map_some, ← h3]
theorem ssl {s : ByteArray} {i : Nat} {a r : List UInt8} (h : s.data.toList.drop i = a ++ r) (ha : a ≠ []) : O.sslice (.str s) (.int i) (.int ((i + a.length : Nat) : Int)) = some (.str (bsL a)) := by
 have h1 := drop_size h (by simp [ha])
 rw [List.length_append] at h1
 rw [O.sslice_str, if_pos ⟨by omega, by omega, by omega⟩]
 simp only [Int.toNat_natCast]
 congr 2
 apply bytes_ext
 rw [ByteArray.data_extract, Array.toList_extract]
 simp only [List.extract_eq_take_drop, bsL, h]
 rw [show i + a.length - i = a.length by omega, List.take_left]
def stopN (r : List UInt8) : Prop := ∀ c t, r = c :: t → okNameChar c = false
theorem rp_name (s : ByteArray) (hs : s.size ≤ 100000) : ∀ (a : List UInt8) (i : Nat) (r : List UInt8), s.data.toList.drop i = a ++ r → i ≤ s.size → (∀ c ∈ a, okNameChar c = true) → stopN r → W F176 1 [.str s, .int i] = some [.int ((i + a.length : Nat) : Int)]
 | [], i, r, h, hi0, _, hr => by
  rw [e_F176_1]
  cases r with
  | nil =>
   have hi : s.size ≤ i := by
    have := congrArg List.length h
    rw [List.length_drop, toList_len] at this
    simp at this; omega
   have hlt : ¬ i < s.size := by omega
   simp only [O.slen_str, Option.bind_some, O.lt_int, lt_cast, hlt, decide_false, O.cnd_bool, Bool.false_eq_true, if_false, List.length_nil, Nat.add_zero]
  | cons c t =>
   obtain ⟨h1, h2, h3⟩ := sx h
   have hc := hr c t rfl
   simp only [O.slen_str, Option.bind_some, O.lt_int, lt_cast, h2, decide_true, O.cnd_bool, if_true, h1, ref_pchar, O.calls_1, hc, Bool.false_eq_true, if_false, List.length_nil, Nat.add_zero]
 | c :: a, i, r, h, hi0, ha, hr => by
  obtain ⟨h1, h2, h3⟩ := sx (show s.data.toList.drop i = c :: (a ++ r) from h)
  have hw := next64 (i := i) (by omega)
  have hc := ha c (by simp)
  have ih := rp_name s hs a (i + 1) r h3 (by omega) (fun x hx => ha x (by simp [hx])) hr
  rw [e_F176_1]
  simp only [O.slen_str, Option.bind_some, O.lt_int, lt_cast, h2, decide_true, O.cnd_bool, if_true, h1, ref_pchar, O.calls_1, hc, O.add_int, hw, ih, List.length_cons]
  congr 3; congr 1; omega
theorem okChar_range {c : UInt8} (h : okChar c = true) : c.toNat = 10 ∨ (32 ≤ c.toNat ∧ c.toNat ≤ 126) := by
 unfold okChar at h
 simp at h
 omega
theorem bsL_snoc (o : ByteArray) (c : UInt8) (v : List UInt8) : o ++ bsL [c] ++ bsL v = o ++ bsL (c :: v) := by
 rw [ByteArray.append_assoc, ← bsL_append]; rfl
theorem rp_quoted (s : ByteArray) (hs : s.size ≤ 100000) : ∀ (v : List UInt8) (i : Nat) (r : List UInt8) (o : ByteArray), s.data.toList.drop i = v.flatMap escB ++ 34 :: r → (∀ c ∈ v, okChar c = true) → o.size + v.length ≤ 1000 →
  W F179 1 [.str s, .int i, .str o] = some [.str (o ++ bsL v), .int ((i + (v.flatMap escB).length + 1 : Nat) : Int), .bool true]
 | [], i, r, o, h, _, _ => by
  obtain ⟨h1, h2, h3⟩ := sx (show s.data.toList.drop i = 34 :: r from h)
  have hw := next64 (i := i) (by omega)
  have e : o ++ bsL [] = o := by apply bytes_ext; rw [ByteArray.toList_data_append]; simp [bsL]
  rw [e_F179_1]
  simp only [O.slen_str, Option.bind_some, O.lt_int, lt_cast, h2, decide_true, O.cnd_bool, if_true, h1, O.ne_int]
  simp only [show ((34 : UInt8).toNat : Int) = 34 from rfl, decide_true, Bool.not_true, Bool.false_eq_true, if_false, O.add_int, hw, Option.bind_some, List.flatMap_nil, List.length_nil, Nat.add_zero, e]
 | c :: v, i, r, o, h, hv, ho => by
  have hc := hv c (by simp)
  have hv' : ∀ x ∈ v, okChar x = true := fun x hx => hv x (by simp [hx])
  simp only [List.length_cons] at ho
  have hrange := okChar_range hc
  simp only [List.flatMap_cons, List.append_assoc] at h ⊢
  have hlen := congrArg List.length h
  rw [List.length_drop, toList_len] at hlen
  have two : ∀ d : UInt8, escB c = [92, d] → (d.toNat = 34 ∨ d.toNat = 92 ∨ d.toNat = 110) → (d.toNat = 110 ↔ c.toNat = 10) → (d.toNat ≠ 110 → d = c) →
    W F179 1 [.str s, .int i, .str o] = some [.str (o ++ bsL (c :: v)), .int ((i + (escB c ++ v.flatMap escB).length + 1 : Nat) : Int), .bool true] := by
   intro d he hd hn hcd
   rw [he] at h ⊢
   obtain ⟨h1, h2, h3⟩ := sx (show s.data.toList.drop i = 92 :: (d :: (v.flatMap escB ++ 34 :: r)) from h)
   obtain ⟨g1, g2, g3⟩ := sx h3
   have hw := next64 (i := i) (by omega)
   have hw2 : IntKind.i64.wrap ((i : Int) + 2) = ((i + 1 + 1 : Nat) : Int) := by rw [wrap64 (by omega) (by omega)]; omega
   have hge : ¬ ((s.size : Nat) : Int) ≤ ((i + 1 : Nat) : Int) := by omega
   have ih := fun o' (ho' : o'.size + v.length ≤ 1000) => rp_quoted s hs v (i + 1 + 1) r o' g3 hv' ho'
   have hsl := ssl (i := i + 1) (a := [d]) (show s.data.toList.drop (i + 1) = [d] ++ (v.flatMap escB ++ 34 :: r) from h3) (by simp)
   simp only [List.length_singleton] at hsl
   have e92 : ((92 : UInt8).toNat : Int) = 92 := rfl
   rw [e_F179_1]
   simp only [O.slen_str, Option.bind_some, O.lt_int, lt_cast, h2, decide_true, O.cnd_bool, if_true, h1, O.ne_int, O.gt_int, e92, show ¬ (92 : Int) = 34 by omega, decide_false, Bool.not_false, show ¬ (92 : Int) < 32 by omega, Bool.false_eq_true, if_false, show ¬ (126 : Int) < 92 by omega, Bool.not_true, O.add_int, hw, O.ge_int, hge, g1, hw2]
   have hcond : (if (!decide ((d.toNat : Int) = 34)) = true then some (IV.bool (!decide ((d.toNat : Int) = 92))) else some (IV.bool false)) = some (.bool (!decide (d.toNat = 34) && !decide (d.toNat = 92))) := by
    by_cases c1 : d.toNat = 34
    ·simp [c1]
    ·have c1' : ¬ (d.toNat : Int) = 34 := by omega
     by_cases c2 : d.toNat = 92
     ·simp [c1, c1', c2]
     ·have c2' : ¬ (d.toNat : Int) = 92 := by omega
      simp [c1, c1', c2, c2']
   simp only [hcond, Option.bind_some, O.cnd_bool]
   have hfin : ∀ o', o' = o ++ bsL [c] → W F179 3 [.str s, .int i, .str o'] = some [.str (o ++ bsL (c :: v)), .int ((i + ([92, d] ++ v.flatMap escB).length + 1 : Nat) : Int), .bool true] := by
    intro o' ho'
    rw [e_F179_3]
    simp only [O.add_int, hw2, Option.bind_some]
    rw [e_F179_2, ih o' (by rw [ho', ByteArray.size_append, bsL_size, List.length_singleton]; omega), ho', bsL_snoc]
    congr 3; congr 1
    simp only [List.length_append, List.length_cons, List.length_nil]; congr 1; omega
   have hcond2 : (if (!decide (d.toNat = 34) && !decide (d.toNat = 92)) = true then some (IV.bool (!decide ((d.toNat : Int) = 110))) else some (IV.bool false)) = some (.bool false) := by
    rcases hd with hd | hd | hd
    ·simp [hd]
    ·simp [hd]
    ·have : (d.toNat : Int) = 110 := by omega
     simp [hd]
   simp only [hcond2, Option.bind_some, O.cnd_bool, Bool.false_eq_true, if_false, O.eq_int]
   by_cases cn : d.toNat = 110
   ·have cn' : (d.toNat : Int) = 110 := by omega
    have hc10 : c = 10 := UInt8.toNat_inj.1 (hn.1 cn)
    simp only [cn', decide_true, if_true]
    rw [show (ByteArray.mk #[10]) = bsL [10] from rfl, cat_ok (by omega) (by rw [bsL_size]; simp)]
    simp only [Option.bind_some]
    exact hfin _ (by rw [hc10])
   ·have cn' : ¬ (d.toNat : Int) = 110 := by omega
    simp only [cn', decide_false, Bool.false_eq_true, if_false, hsl, Option.bind_some]
    rw [cat_ok (by omega) (by rw [bsL_size]; simp)]
    simp only [Option.bind_some]
    exact hfin _ (by rw [hcd cn])
  by_cases c10 : c.toNat = 10
  ·exact two 110 (by unfold escB; rw [if_pos c10]) (.inr (.inr rfl)) ⟨fun _ => c10, fun _ => rfl⟩ (fun h => (h rfl).elim)
  ·by_cases cq : c.toNat = 34 ∨ c.toNat = 92
   ·exact two c (by unfold escB; rw [if_neg c10, if_pos cq]) (by omega) (by omega) (fun _ => rfl)
   ·have he : escB c = [c] := by unfold escB; rw [if_neg c10, if_neg cq]
    rw [he] at h ⊢
    obtain ⟨h1, h2, h3⟩ := sx (show s.data.toList.drop i = c :: (v.flatMap escB ++ 34 :: r) from h)
    have hw := next64 (i := i) (by omega)
    have ih := rp_quoted s hs v (i + 1) r (o ++ bsL [c]) h3 hv' (by rw [ByteArray.size_append, bsL_size, List.length_singleton]; omega)
    have hsl := ssl (i := i) (a := [c]) (show s.data.toList.drop i = [c] ++ (v.flatMap escB ++ 34 :: r) from h) (by simp)
    simp only [List.length_singleton] at hsl
    have n1 : ¬ (c.toNat : Int) = 34 := by omega
    have n2 : ¬ (c.toNat : Int) < 32 := by omega
    have n3 : ¬ (126 : Int) < c.toNat := by omega
    have n4 : ¬ (c.toNat : Int) = 92 := by omega
    rw [e_F179_1]
    simp only [O.slen_str, Option.bind_some, O.lt_int, lt_cast, h2, decide_true, O.cnd_bool, if_true, h1, O.ne_int, O.gt_int, n1, decide_false, Bool.not_false, n2, Bool.false_eq_true, if_false, n3, n4, O.add_int, hw, hsl]
    rw [cat_ok (by omega) (by rw [bsL_size]; simp)]
    simp only [Option.bind_some, e_F179_2, ih, bsL_snoc]
    congr 3; congr 1
    simp only [List.length_append, List.length_cons, List.length_nil]; congr 1; omega
end Go.CT.Sch
namespace Go.CT.Sch
open Go.Proofs
theorem w8 {x : Int} (h0 : 0 ≤ x) (h1 : x ≤ 255) : IntKind.u8.wrap x = x := by
 unfold IntKind.wrap
 simp [IntKind.signed, IntKind.bits]
 omega
theorem rp_dig1 (a : UInt8) (n : Nat) (hn : n ≤ 9) (ha : a.toNat = 48 + n) : W F178 0 [.str (bsL [a])] = some [.bool true] ∧ W F177 0 [.str (bsL [a])] = some [.int n] := by
 obtain ⟨h1, _, _⟩ := sx (s := bsL [a]) (i := 0) (show (bsL [a]).data.toList.drop 0 = a :: [] from rfl)
 simp only [Int.cast_ofNat_Int] at h1
 have hs : ((bsL [a]).size : Int) = 1 := by rw [bsL_size]; rfl
 have hw : IntKind.i64.wrap (0 + 1) = 1 := by decide
 have g1 : ¬ (a.toNat : Int) < 48 := by omega
 have g2 : ¬ (57 : Int) < a.toNat := by omega
 constructor
 ·rw [e_F178_0, e_F178_1]
  simp only [O.slen_str, hs, Option.bind_some, O.lt_int, show (0 : Int) < 1 by omega, decide_true, O.cnd_bool, if_true, h1, g1, O.gt_int, g2, decide_false, Bool.false_eq_true, if_false, O.add_int, hw]
  rw [e_F178_1]
  simp [hs]
 ·have m1 : IntKind.i64.wrap (10 * 0) = 0 := by decide
  have m2 : IntKind.u8.wrap ((a.toNat : Int) - 48) = n := by rw [w8 (by omega) (by omega)]; omega
  have m3 : IntKind.i64.wrap (n : Int) = n := wrap64 (by omega) (by omega)
  have m4 : IntKind.i64.wrap (0 + (n : Int)) = n := by rw [wrap64 (by omega) (by omega)]; omega
  have m5 : ¬ (65 : Int) < n := by omega
  rw [e_F177_0, e_F177_1]
  simp only [O.slen_str, hs, Option.bind_some, O.lt_int, show (0 : Int) < 1 by omega, show (0 : Int) < 65 by omega, decide_true, O.cnd_bool, if_true, O.mul_int, m1, h1, O.sub_int, m2, O.conv_int, m3, O.add_int, m4, hw]
  rw [e_F177_1]
  simp [hs, m5]
theorem rp_dig2 (a b : UInt8) (q m : Nat) (hq : 1 ≤ q ∧ q ≤ 6) (hm : m ≤ 9) (ha : a.toNat = 48 + q) (hb : b.toNat = 48 + m) : W F178 0 [.str (bsL [a, b])] = some [.bool true] ∧ W F177 0 [.str (bsL [a, b])] = some [.int (min (10 * q + m) 65 : Nat)] := by
 obtain ⟨h1, _, _⟩ := sx (s := bsL [a, b]) (i := 0) (show (bsL [a, b]).data.toList.drop 0 = a :: [b] from rfl)
 obtain ⟨h2, _, _⟩ := sx (s := bsL [a, b]) (i := 1) (show (bsL [a, b]).data.toList.drop 1 = b :: [] from rfl)
 simp only [Int.cast_ofNat_Int] at h1 h2
 have hs : ((bsL [a, b]).size : Int) = 2 := by rw [bsL_size]; rfl
 have hw : IntKind.i64.wrap (0 + 1) = 1 := by decide
 have hw1 : IntKind.i64.wrap (1 + 1) = 2 := by decide
 have g1 : ¬ (a.toNat : Int) < 48 := by omega
 have g2 : ¬ (57 : Int) < a.toNat := by omega
 have g3 : ¬ (b.toNat : Int) < 48 := by omega
 have g4 : ¬ (57 : Int) < b.toNat := by omega
 have g5 : ¬ (a.toNat : Int) = 48 := by omega
 constructor
 ·rw [e_F178_0, e_F178_1]
  simp only [O.slen_str, hs, Option.bind_some, O.lt_int, show (0 : Int) < 2 by omega, decide_true, O.cnd_bool, if_true, h1, g1, O.gt_int, g2, decide_false, Bool.false_eq_true, if_false, O.add_int, hw]
  rw [e_F178_1]
  simp only [O.slen_str, hs, Option.bind_some, O.lt_int, show (1 : Int) < 2 by omega, decide_true, O.cnd_bool, if_true, h2, g3, O.gt_int, g4, decide_false, Bool.false_eq_true, if_false, O.add_int, hw1]
  rw [e_F178_1]
  simp only [O.slen_str, hs, Option.bind_some, O.lt_int, show ¬ (2 : Int) < 2 by omega, decide_false, O.cnd_bool, Bool.false_eq_true, if_false, O.eq_int, show ¬ (2 : Int) = 1 by omega, O.gt_int, show (1 : Int) < 2 by omega, decide_true, if_true, h1, O.ne_int, g5, Bool.not_false]
 ·have m1 : IntKind.i64.wrap (10 * 0) = 0 := by decide
  have m2 : IntKind.u8.wrap ((a.toNat : Int) - 48) = q := by rw [w8 (by omega) (by omega)]; omega
  have m3 : IntKind.i64.wrap (q : Int) = q := wrap64 (by omega) (by omega)
  have m4 : IntKind.i64.wrap (0 + (q : Int)) = q := by rw [wrap64 (by omega) (by omega)]; omega
  have m5 : (q : Int) < 65 := by omega
  have k1 : IntKind.i64.wrap (10 * (q : Int)) = 10 * q := wrap64 (by omega) (by omega)
  have k2 : IntKind.u8.wrap ((b.toNat : Int) - 48) = m := by rw [w8 (by omega) (by omega)]; omega
  have k3 : IntKind.i64.wrap (m : Int) = m := wrap64 (by omega) (by omega)
  have k4 : IntKind.i64.wrap (10 * (q : Int) + (m : Int)) = 10 * q + m := wrap64 (by omega) (by omega)
  rw [e_F177_0, e_F177_1]
  simp only [O.slen_str, hs, Option.bind_some, O.lt_int, show (0 : Int) < 2 by omega, show (0 : Int) < 65 by omega, decide_true, O.cnd_bool, if_true, O.mul_int, m1, h1, O.sub_int, m2, O.conv_int, m3, O.add_int, m4, hw]
  rw [e_F177_1]
  simp only [O.slen_str, hs, Option.bind_some, O.lt_int, show (1 : Int) < 2 by omega, m5, decide_true, O.cnd_bool, if_true, O.mul_int, k1, h2, O.sub_int, k2, O.conv_int, k3, O.add_int, k4, hw1]
  rw [e_F177_1]
  simp only [O.slen_str, hs, Option.bind_some, O.lt_int, show ¬ (2 : Int) < 2 by omega, decide_false, O.cnd_bool, Bool.false_eq_true, if_false, O.gt_int]
  by_cases c : (65 : Int) < 10 * q + m
  ·have : min (10 * q + m) 65 = 65 := by omega
   simp only [c, decide_true, if_true, this]; rfl
  ·have : min (10 * q + m) 65 = 10 * q + m := by omega
   simp only [c, decide_false, Bool.false_eq_true, if_false, this]
   congr 3
theorem toU8 {n : Nat} (h : n ≤ 255) : n.toUInt8.toNat = n := by
 simp [Nat.toUInt8]; omega
theorem itoaB_bs (n : Nat) : ∃ a : List UInt8, O.itoaB n = bsL a ∧ a ≠ [] ∧ (n < 100 → ∀ c ∈ a, okNameChar c = true) := by
 have dig : ∀ k : Nat, k ≤ 9 → okNameChar (48 + k).toUInt8 = true := by
  intro k hk
  unfold okNameChar
  rw [toU8 (by omega)]
  simp; omega
 unfold O.itoaB
 split
 ·refine ⟨[(48 + n).toUInt8], rfl, by simp, fun _ c hc => ?_⟩
  rw [List.mem_singleton] at hc
  rw [hc]; exact dig n (by omega)
 ·refine ⟨[(48 + n / 10).toUInt8, (48 + n % 10).toUInt8], rfl, by simp, fun h c hc => ?_⟩
  rw [List.mem_cons, List.mem_singleton] at hc
  rcases hc with hc | hc
  ·rw [hc]; exact dig _ (by omega)
  ·rw [hc]; exact dig _ (by omega)
theorem rp_dig (n : Nat) (hn : n ≤ 64) : W F178 0 [.str (O.itoaB n)] = some [.bool true] ∧ W F177 0 [.str (O.itoaB n)] = some [.int n] := by
 unfold O.itoaB
 split
 ·exact rp_dig1 _ n (by omega) (toU8 (by omega))
 ·have := rp_dig2 (48 + n / 10).toUInt8 (48 + n % 10).toUInt8 (n / 10) (n % 10) (by omega) (by omega) (toU8 (by omega)) (toU8 (by omega))
  rw [show min (10 * (n / 10) + n % 10) 65 = n by omega] at this
  exact this
def gotIV (x : Stp) (i : Nat) : IV := .agg [.int x.k, .str x.nm, .int x.ix, .str x.vl, .int i, .bool false]
theorem okName_chars {s : ByteArray} (h : okName s = true) : (∀ c ∈ s.data.toList, okNameChar c = true) ∧ s.data.toList ≠ [] := by
 unfold okName at h
 simp only [Bool.and_eq_true, List.all_eq_true, decide_eq_true_eq] at h
 refine ⟨h.1, fun e => ?_⟩
 have : s.size = 0 := by rw [← toList_len, e]; rfl
 omega
theorem stopN_of {c : UInt8} {r : List UInt8} (h : okNameChar c = false) : stopN (c :: r) := by
 intro d t e
 obtain ⟨rfl, _⟩ := List.cons.inj e
 exact h
theorem bracket_idx (s : ByteArray) (hs : s.size ≤ 100000) (n i : Nat) (hn : n ≤ 64) (r : List UInt8) (h : s.data.toList.drop i = (bsL [91] ++ O.itoaB n ++ bsL [93]).data.toList ++ r) :
  W F175 0 [.str s, .int i] = some [gotIV ⟨2, emptyB, n, emptyB⟩ (i + (bsL [91] ++ O.itoaB n ++ bsL [93]).size)] := by
 obtain ⟨a, ha, hne, hok⟩ := itoaB_bs n
 obtain ⟨d1, d2⟩ := rp_dig n hn
 rw [ha] at h d1 d2 ⊢
 rw [← bsL_append, ← bsL_append] at h ⊢
 rw [bsL_size]
 have h' : s.data.toList.drop i = 91 :: (a ++ 93 :: r) := by rw [h]; simp [bsL]
 obtain ⟨g1, g2, g3⟩ := sx h'
 have hw := next64 (i := i) (by omega)
 have hnm := rp_name s hs a (i + 1) (93 :: r) g3 (by omega) (hok (by omega)) (stopN_of (by decide))
 have h2 := drop_add g3
 obtain ⟨f1, f2, f3⟩ := sx h2
 have hsl := ssl g3 hne
 have hal : 0 < a.length := List.length_pos_iff.2 hne
 have hw2 := next64 (i := i + 1 + a.length) (by omega)
 have c1 : ¬ ((s.size : Nat) : Int) ≤ ((i + 1 + a.length : Nat) : Int) := by omega
 have c2 : ¬ ((i + 1 + a.length : Nat) : Int) = ((i + 1 : Nat) : Int) := by omega
 have e93 : ((93 : UInt8).toNat : Int) = 93 := rfl
 rw [e_F175_0]
 simp only [O.add_int, hw, Option.bind_some, e_F176_0, hnm, O.calls_1, O.slen_str, O.ge_int, c1, decide_false, O.cnd_bool, Bool.false_eq_true, if_false, O.eq_int, c2, hsl, f1, e93, decide_true, if_true, d1, d2, hw2, O.not_bool, Bool.not_true, O.mkagg_eq]
 unfold gotIV
 simp only [List.length_append, List.length_cons, List.length_nil]
 congr 4
 rw [show i + 1 + a.length + 1 = i + (0 + 1 + a.length + (0 + 1)) by omega]
 rfl
theorem bracket_key (s : ByteArray) (hs : s.size ≤ 100000) (nm vl : ByteArray) (hnm' : okName nm = true) (hvl : okStr vl = true) (i : Nat) (r : List UInt8) (h : s.data.toList.drop i = (bsL [91] ++ nm ++ bsL [61] ++ quoteB vl ++ bsL [93]).data.toList ++ r) :
  W F175 0 [.str s, .int i] = some [gotIV ⟨3, nm, 0, vl⟩ (i + (bsL [91] ++ nm ++ bsL [61] ++ quoteB vl ++ bsL [93]).size)] := by
 obtain ⟨hok, hne⟩ := okName_chars hnm'
 have hvs := okStr_size hvl
 unfold okStr at hvl
 simp only [Bool.and_eq_true, List.all_eq_true] at hvl
 have hsz : (bsL [91] ++ nm ++ bsL [61] ++ quoteB vl ++ bsL [93]).size = nm.data.toList.length + (vl.data.toList.flatMap escB).length + 5 := by
  unfold quoteB
  simp only [ByteArray.size_append, bsL_size, List.length_cons, List.length_nil, List.length_append, toList_len]; omega
 rw [hsz]
 have h' : s.data.toList.drop i = 91 :: (nm.data.toList ++ 61 :: (34 :: (vl.data.toList.flatMap escB ++ 34 :: (93 :: r)))) := by
  rw [h]; unfold quoteB
  simp [ByteArray.toList_data_append, bsL]
 obtain ⟨g1, g2, g3⟩ := sx h'
 have hw := next64 (i := i) (by omega)
 have hnm := rp_name s hs nm.data.toList (i + 1) _ g3 (by omega) hok (stopN_of (by decide))
 have h2 := drop_add g3
 obtain ⟨f1, f2, f3⟩ := sx h2
 have hsl := ssl g3 hne
 have hal : 0 < nm.data.toList.length := List.length_pos_iff.2 hne
 obtain ⟨q1, q2, q3⟩ := sx f3
 have hw2 := next64 (i := i + 1 + nm.data.toList.length) (by omega)
 have hw3 := next64 (i := i + 1 + nm.data.toList.length + 1) (by omega)
 have hqd := rp_quoted s hs vl.data.toList (i + 1 + nm.data.toList.length + 1 + 1) (93 :: r) emptyB q3 hvl.1 (by rw [toList_len]; show 0 + vl.size ≤ 1000; omega)
 rw [emptyB_append, bsL_data] at hqd
 have h3 := drop_add q3
 obtain ⟨p1, p2, p3⟩ := sx h3
 obtain ⟨o1, o2, o3⟩ := sx p3
 have hq0 : W F179 0 [.str s, .int ((i + 1 + nm.data.toList.length + 1 : Nat) : Int)] = some [.str vl, .int ((i + 1 + nm.data.toList.length + 1 + 1 + (vl.data.toList.flatMap escB).length + 1 : Nat) : Int), .bool true] := by
  have c1 : ¬ ((s.size : Nat) : Int) ≤ ((i + 1 + nm.data.toList.length + 1 : Nat) : Int) := by omega
  rw [e_F179_0]
  simp only [O.slen_str, Option.bind_some, O.ge_int, c1, decide_false, O.cnd_bool, Bool.false_eq_true, if_false, q1, O.ne_int, show ((34 : UInt8).toNat : Int) = 34 from rfl, decide_true, Bool.not_true, O.add_int, hw3]
  exact hqd
 have hw4 := next64 (i := i + 1 + nm.data.toList.length + 1 + 1 + (vl.data.toList.flatMap escB).length + 1) (by omega)
 have c1 : ¬ ((s.size : Nat) : Int) ≤ ((i + 1 + nm.data.toList.length : Nat) : Int) := by omega
 have c2 : ¬ ((i + 1 + nm.data.toList.length : Nat) : Int) = ((i + 1 : Nat) : Int) := by omega
 have c3 : ¬ ((s.size : Nat) : Int) ≤ ((i + 1 + nm.data.toList.length + 1 + 1 + (vl.data.toList.flatMap escB).length + 1 : Nat) : Int) := by omega
 rw [e_F175_0]
 simp only [O.add_int, hw, Option.bind_some, e_F176_0, hnm, O.calls_1, O.slen_str, O.ge_int, c1, decide_false, O.cnd_bool, Bool.false_eq_true, if_false, O.eq_int, c2, hsl, f1, show ((61 : UInt8).toNat : Int) = 61 from rfl, show ¬ (61 : Int) = 93 by omega, O.ne_int, decide_true, Bool.not_true, hw2, hq0, O.calls_3, O.not_bool, c3, o1, show ((93 : UInt8).toNat : Int) = 93 from rfl, hw4, O.mkagg_eq, bsL_data]
 unfold gotIV
 congr 4
 rw [show i + 1 + nm.data.toList.length + 1 + 1 + (vl.data.toList.flatMap escB).length + 1 + 1 = i + (nm.data.toList.length + (vl.data.toList.flatMap escB).length + 5) by omega]
theorem rp_step1 (s : ByteArray) (hs : s.size ≤ 100000) (nm : ByteArray) (hnm' : okName nm = true) (i : Nat) (r : List UInt8) (h : s.data.toList.drop i = nm.data.toList ++ r) (hi : i ≤ s.size) (hr : stopN r) (y2 y3 y4 y5 y6 y7 : IV) :
  W F174 1 [.str s, .int i, y2, y3, y4, y5, y6, y7] = some [gotIV ⟨1, nm, 0, emptyB⟩ (i + nm.size)] := by
 obtain ⟨hok, hne⟩ := okName_chars hnm'
 have hnm := rp_name s hs nm.data.toList i r h hi hok hr
 have hsl := ssl h hne
 have hal : 0 < nm.data.toList.length := List.length_pos_iff.2 hne
 have c2 : ¬ ((i + nm.data.toList.length : Nat) : Int) = (i : Int) := by omega
 rw [e_F174_1]
 simp only [e_F176_0, hnm, O.calls_1, hsl, Option.bind_some, O.eq_int, c2, decide_false, O.mkagg_eq, bsL_data]
 unfold gotIV
 rw [toList_len]
 rfl
theorem rp_step (s : ByteArray) (hs : s.size ≤ 100000) (x : Stp) (hx : stepOk x = true) (i : Nat) (r : List UInt8) (h : s.data.toList.drop i = (stepB (decide (i = 0)) x).data.toList ++ r) (hr : stopN r) :
  W F174 0 [.str s, .int i] = some [gotIV x (i + (stepB (decide (i = 0)) x).size)] := by
 obtain ⟨g1, g2, g3, g4, g5⟩ := stepOk_sizes hx
 obtain ⟨xk, xn, xi, xv⟩ := x
 simp only at g1 g2 g3 g4 g5
 unfold stepOk at hx
 unfold stepB at h ⊢
 simp only at hx h ⊢
 rw [e_F174_0]
 rcases g5 with rfl | rfl | rfl
 ·simp only [if_true, Bool.and_eq_true, decide_eq_true_eq] at hx
  obtain ⟨⟨hn, rfl⟩, rfl⟩ := hx
  simp only [show ¬ (1 : Int) = 2 by omega, show ¬ (1 : Int) = 3 by omega, if_false] at h ⊢
  obtain ⟨hok, hne⟩ := okName_chars hn
  by_cases hi : i = 0
  ·subst hi
   simp only [decide_true, if_true] at h ⊢
   obtain ⟨c, a, hca⟩ := List.exists_cons_of_ne_nil hne
   have h' : s.data.toList.drop 0 = c :: (a ++ r) := by rw [h, hca]; rfl
   obtain ⟨f1, f2, f3⟩ := sx h'
   have hc := hok c (by rw [hca]; simp)
   have hc91 : ¬ (c.toNat : Int) = 91 := by
    intro e
    have : c.toNat = 91 := by omega
    unfold okNameChar at hc
    rw [this] at hc
    simp at hc
   simp only [f1, Option.bind_some, O.eq_int, hc91, decide_false, O.cnd_bool, Bool.false_eq_true, if_false, O.gt_int, show ¬ (0 : Int) < ((0 : Nat) : Int) by omega]
   exact rp_step1 s hs xn hn 0 r h (by omega) hr _ _ _ _ _ _
  ·have hi' : (0 : Int) < (i : Int) := by omega
   simp only [hi, decide_false, Bool.false_eq_true, if_false] at h ⊢
   have h' : s.data.toList.drop i = 46 :: (xn.data.toList ++ r) := by rw [h]; simp [ByteArray.toList_data_append, bsL]
   obtain ⟨f1, f2, f3⟩ := sx h'
   have hw := next64 (i := i) (by omega)
   have h5 := rp_step1 s hs xn hn (i + 1) r f3 (by omega) hr (.int 0) (.str ⟨#[]⟩) (.int 0) (.str ⟨#[]⟩) (.int 0) (.bool false)
   simp only [f1, Option.bind_some, O.eq_int, show ((46 : UInt8).toNat : Int) = 46 from rfl, show ¬ (46 : Int) = 91 by omega, decide_false, O.cnd_bool, Bool.false_eq_true, if_false, O.gt_int, hi', decide_true, if_true, O.ne_int, Bool.not_true, O.add_int, hw, h5]
   rw [ByteArray.size_append, bsL_size, List.length_singleton, show i + 1 + xn.size = i + (1 + xn.size) by omega]
 ·simp only [show ¬ (2 : Int) = 1 by omega, if_false, if_true, Bool.and_eq_true, decide_eq_true_eq] at hx
  obtain ⟨⟨⟨h0, h64⟩, rfl⟩, rfl⟩ := hx
  obtain ⟨n, rfl⟩ := Int.eq_ofNat_of_zero_le h0
  simp only [if_true, Int.ofNat_eq_natCast, Int.toNat_natCast] at h ⊢
  have hb := bracket_idx s hs n i (by omega) r h
  have h' : ∃ t, s.data.toList.drop i = 91 :: t := by rw [h]; simp [ByteArray.toList_data_append, bsL]
  obtain ⟨t, h'⟩ := h'
  obtain ⟨f1, f2, f3⟩ := sx h'
  simp only [f1, Option.bind_some, O.eq_int, show ((91 : UInt8).toNat : Int) = 91 from rfl, decide_true, O.cnd_bool, if_true, hb, O.calls_1]
 ·simp only [show ¬ (3 : Int) = 1 by omega, show ¬ (3 : Int) = 2 by omega, if_false, if_true, Bool.and_eq_true, decide_eq_true_eq] at hx
  obtain ⟨⟨hn, hv⟩, rfl⟩ := hx
  simp only [show ¬ (3 : Int) = 2 by omega, if_false, if_true] at h ⊢
  have hb := bracket_key s hs xn xv hn hv i r h
  have h' : ∃ t, s.data.toList.drop i = 91 :: t := by rw [h]; simp [ByteArray.toList_data_append, bsL]
  obtain ⟨t, h'⟩ := h'
  obtain ⟨f1, f2, f3⟩ := sx h'
  simp only [f1, Option.bind_some, O.eq_int, show ((91 : UInt8).toNat : Int) = 91 from rfl, decide_true, O.cnd_bool, if_true, hb, O.calls_1]
theorem stepB_head (b : Bool) (x : Stp) (hx : stepOk x = true) : (stepB b x).data.toList ≠ [] ∧ (b = false → stopN ((stepB b x).data.toList)) := by
 obtain ⟨g1, g2, g3, g4, g5⟩ := stepOk_sizes hx
 unfold stepOk at hx
 unfold stepB
 split
 ·refine ⟨by simp [ByteArray.toList_data_append, bsL], fun _ => ?_⟩
  have : ∃ t, (bsL [91] ++ O.itoaB x.ix.toNat ++ bsL [93]).data.toList = 91 :: t := by simp [ByteArray.toList_data_append, bsL]
  obtain ⟨t, ht⟩ := this
  rw [ht]; exact stopN_of (by decide)
 ·split
  ·refine ⟨by simp [ByteArray.toList_data_append, bsL], fun _ => ?_⟩
   have : ∃ t, (bsL [91] ++ x.nm ++ bsL [61] ++ quoteB x.vl ++ bsL [93]).data.toList = 91 :: t := by simp [ByteArray.toList_data_append, bsL]
   obtain ⟨t, ht⟩ := this
   rw [ht]; exact stopN_of (by decide)
  ·rename_i k2 k3
   have k1 : x.k = 1 := by omega
   rw [if_pos k1] at hx
   simp only [Bool.and_eq_true] at hx
   split
   ·rename_i hb
    exact ⟨(okName_chars hx.1.1).2, fun h => by rw [h] at hb; cases hb⟩
   ·refine ⟨by simp [ByteArray.toList_data_append, bsL], fun _ => ?_⟩
    have : ∃ t, (bsL [46] ++ x.nm).data.toList = 46 :: t := by simp [ByteArray.toList_data_append, bsL]
    obtain ⟨t, ht⟩ := this
    rw [ht]; exact stopN_of (by decide)
theorem stepsB_stop (p : List Stp) (hp : ∀ x ∈ p, stepOk x = true) : stopN ((stepsB false p).data.toList) := by
 cases p with
 | nil => intro c t h; cases h
 | cons x r =>
  have h1 := stepB_head false x (hp x (by simp))
  obtain ⟨c, a, hca⟩ := List.exists_cons_of_ne_nil h1.1
  have h2 := h1.2 rfl
  rw [hca] at h2
  have hc := h2 c a rfl
  simp only [stepsB, ByteArray.toList_data_append, hca]
  exact stopN_of hc
theorem rp_parse_1 (s : ByteArray) (hs : s.size ≤ 100000) (full : List Stp) (hfull : pathOk full = true) : ∀ (p done : List Stp) (i : Nat), done ++ p = full → s.data.toList.drop i = (stepsB (decide (i = 0)) p).data.toList → i ≤ s.size →
  W F173 1 [.str s, .int i, .list (done.map Stp.enc)] = some [.list (full.map Stp.enc), .int 0]
 | [], done, i, hd, h, hi => by
  rw [List.append_nil] at hd
  subst hd
  have hsz : s.size ≤ i := by
   have := congrArg List.length h
   rw [List.length_drop, toList_len] at this
   have e : (stepsB (decide (i = 0)) []).data.toList.length = 0 := rfl
   rw [e] at this; omega
  have hlt : ¬ i < s.size := by omega
  have hb2 := hfull
  unfold pathOk at hb2
  simp only [Bool.and_eq_true, List.all_eq_true, decide_eq_true_eq] at hb2
  have hv := ref_pvalid done (fun x hx => by
   have := stepOk_sizes (hb2.1 x hx)
   exact ⟨by omega, by omega⟩) (by omega)
  rw [e_F173_1]
  simp only [O.slen_str, Option.bind_some, O.lt_int, lt_cast, hlt, decide_false, O.cnd_bool, Bool.false_eq_true, if_false, hv, O.calls_1, hfull, O.not_bool, Bool.not_true]
 | x :: p, done, i, hd, h, hi => by
  have hb2 := hfull
  unfold pathOk at hb2
  simp only [Bool.and_eq_true, List.all_eq_true, decide_eq_true_eq] at hb2
  have hx : stepOk x = true := hb2.1 x (by rw [← hd]; simp)
  have hp : ∀ y ∈ p, stepOk y = true := fun y hy => hb2.1 y (by rw [← hd]; simp [hy])
  simp only [stepsB, ByteArray.toList_data_append] at h
  have hst := rp_step s hs x hx i _ h (stepsB_stop p hp)
  have hne := (stepB_head (decide (i = 0)) x hx).1
  have hpos : 0 < (stepB (decide (i = 0)) x).data.toList.length := List.length_pos_iff.2 hne
  have hsz := drop_size h (by simp [hne])
  have hnext := drop_add h
  rw [List.length_append] at hsz
  rw [toList_len] at hnext hpos hsz
  have hi0 : decide (i + (stepB (decide (i = 0)) x).size = 0) = false := decide_eq_false (by omega)
  have hlt : i < s.size := by omega
  have hlen : done.length + p.length + 1 = full.length := by rw [← hd]; simp; omega
  have hap : ((done.map Stp.enc).length + [x.enc].length) * 48 ≤ maxBytes := by
   simp only [List.length_map, List.length_singleton]
   have : (done.length + 1) * 48 ≤ 100 * 48 := Nat.mul_le_mul (by omega) (Nat.le_refl _)
   unfold maxBytes; omega
  have ih := rp_parse_1 s hs full hfull p (done ++ [x]) (i + (stepB (decide (i = 0)) x).size) (by rw [← hd]; simp) (by rw [hi0]; exact hnext) (by omega)
  have e1 : O.proj 5 (gotIV x (i + (stepB (decide (i = 0)) x).size)) = some (.bool false) := rfl
  have e2 : O.projs 0 4 (gotIV x (i + (stepB (decide (i = 0)) x).size)) = some x.enc := rfl
  have e3 : O.proj 4 (gotIV x (i + (stepB (decide (i = 0)) x).size)) = some (.int ((i + (stepB (decide (i = 0)) x).size : Nat) : Int)) := rfl
  rw [e_F173_1]
  simp only [O.slen_str, Option.bind_some, O.lt_int, lt_cast, hlt, decide_true, O.cnd_bool, if_true, hst, O.calls_1, e1, Bool.false_eq_true, if_false, e2, O.mklist_eq, O.append_list, hap, e3]
  rw [List.map_append] at ih
  exact ih
theorem pathB_size (p : List Stp) (hp : ∀ x ∈ p, stepOk x = true) : ∀ b, (stepsB b p).size ≤ 500 * p.length := by
 induction p with
 | nil => intro b; show 0 ≤ _; omega
 | cons x r ih =>
  intro b
  have h1 : (stepB b x).size ≤ 500 := stepB_size (hp x (by simp))
  have h2 := ih (fun y hy => hp y (by simp [hy])) false
  simp only [stepsB, ByteArray.size_append, List.length_cons]; omega
theorem rp_parse (p : List Stp) (hp : pathOk p = true) : W F173 0 [.str (printB p)] = some [.list (p.map Stp.enc), .int 0] := by
 have hb2 := hp
 unfold pathOk at hb2
 simp only [Bool.and_eq_true, List.all_eq_true, decide_eq_true_eq] at hb2
 have hsz := pathB_size p hb2.1 true
 have h16 : 500 * p.length ≤ 500 * 16 := Nat.mul_le_mul (Nat.le_refl _) hb2.2
 have e : printB p = stepsB true p := by unfold printB; rw [if_pos hp]; rfl
 rw [e_F173_0, e]
 have hgt : ¬ (20000 : Int) < ((stepsB true p).size : Int) := by omega
 have := rp_parse_1 (stepsB true p) (by omega) p hp p [] 0 rfl rfl (by omega)
 simp only [Int.cast_ofNat_Int, List.map_nil] at this
 simp only [O.slen_str, Option.bind_some, O.gt_int, hgt, decide_false, O.cnd_bool, Bool.false_eq_true, if_false, this]
theorem unch_1 (v w : Val) (hv : v.mass ≤ 1048576) (hw : w.mass ≤ 1048576) (l : List (ByteArray × Int)) (hl : l.length ≤ 1048576)
  (h : ∀ e ∈ l, ∃ (p : List Stp) (x : Val), e = (printB p, 13) ∧ pathOk p = true ∧ getP v p = some x ∧ getP w p ≠ some x) : ∀ (n i : Nat), i + n = l.length →
  W F172 1 [.int i, v.enc, w.enc, EL l] = some [.bool true]
 | 0, i, hi => by
  have h1 : ¬ i < l.length := by omega
  rw [e_F172_1]
  simp only [EL, O.len_list, List.length_map, Option.bind_some, O.lt_int, lt_cast, h1, decide_false, O.cnd_bool, Bool.false_eq_true, if_false, awake, O.calls_1]
 | n + 1, i, hi => by
  have h1 : i < l.length := by omega
  have hwr := next64 (i := i) (by omega)
  have ih := unch_1 v w hv hw l hl h n (i + 1) (by omega)
  obtain ⟨p, x, he, hp, hx, hy⟩ := h _ (List.getElem_mem h1)
  have hb2 := hp
  unfold pathOk at hb2
  simp only [Bool.and_eq_true, List.all_eq_true, decide_eq_true_eq] at hb2
  have hfit : ∀ y ∈ p, y.fits := fun y hy => by
   have := stepOk_sizes (hb2.1 y hy)
   exact ⟨by omega, by omega⟩
  have g1 := rg_get v p hv hfit (by omega)
  have g2 := rg_get w p hw hfit (by omega)
  unfold getV at g1 g2
  rw [hp] at g1 g2
  simp only [if_true] at g1 g2
  rw [hx] at g1
  have e1 : l[i].1 = printB p := by rw [he]
  have e2 : l[i].2 = 13 := by rw [he]
  have hxm := getP_mass p v x hx
  rw [e_F172_1]
  simp only [EL, O.len_list, List.length_map, Option.bind_some, O.lt_int, lt_cast, h1, decide_true, O.cnd_bool, if_true, O.index_list, Int.natCast_nonneg, Int.toNat_natCast, List.getElem?_map, List.getElem?_eq_getElem h1, Option.map_some, FE.proj0, FE.proj1, e1, e2, rp_parse p hp, O.calls_2, g1, g2, O.ne_int, Bool.not_true, Bool.false_eq_true, if_false, Option.getD_some, Option.isSome_some, O.not_bool]
  cases hgw : getP w p with
  | none =>
   simp only [Option.isSome_none, Bool.false_eq_true, if_false, Option.bind_some, O.cnd_bool, O.add_int, hwr]
   exact ih
  | some y =>
   have hym := getP_mass p w y hgw
   have hne : ¬ x = y := fun e => hy (by rw [hgw, e])
   have heq := ref_equal x y (by omega) (by omega)
   simp only [Option.isSome_some, if_true, Option.getD_some, heq, hne, decide_false, O.calls_1, Option.bind_some, O.cnd_bool, Bool.false_eq_true, if_false, O.add_int, hwr]
   exact ih
theorem law_unchanged (s : Sch) (v w : Val) (hs : s.mass ≤ 1048576) (hv : v.mass ≤ 1048576) (hw : w.mass ≤ 1048576) : W F172 0 [s.enc, v.enc, w.enc] = some [.bool true] := by
 obtain ⟨b, hb⟩ := ev_light s v w hs hv hw
 obtain ⟨l0, h1, _, h4, _⟩ := pg_Changes s v v hs hv hv
 have hnil : l0 = [] := by
  cases l0 with
  | nil => rfl
  | cons e r =>
   obtain ⟨_, hvv, _, he⟩ := h4 e (by simp)
   rw [chgs_same v hvv s []] at he
   simp at he
 subst hnil
 obtain ⟨l, g1, g3, g4, _⟩ := pg_Changes s v w hs hv hw
 have hun := unch_1 v w hv hw l g3 (fun e he => by
  obtain ⟨hsv, hvv, _, hc⟩ := g4 e he
  obtain ⟨q, x, q1, q2, q3, q4, q5⟩ := chgs_at 12 v s w [] ((valid_iff v).1 hvv).1 hvv hsv e hc
  rw [List.nil_append] at q1
  refine ⟨q, x, q1, ?_, q4, q5⟩
  unfold pathOk
  simp only [Bool.and_eq_true, List.all_eq_true, decide_eq_true_eq]
  exact ⟨q2, by omega⟩) l.length 0 (by omega)
 simp only [Int.cast_ofNat_Int] at hun
 rw [e_F172_0]
 simp only [hb, O.calls_1, O.not_bool, Option.bind_some, O.cnd_bool, awake, h1, EL, List.map_nil, O.len_list, List.length_nil, O.gt_int, g1]
 have : ¬ (0 : Int) < ((0 : Nat) : Int) := by omega
 unfold EL at hun
 cases b <;> simp [hun]
end Go.CT.Sch
namespace Go.CT.Sch
open Go.Proofs
theorem wt_int {x : IV} (h : WT Tryz.prog 3 x) : ∃ n, x = .int n := by
 obtain ⟨n, rfl, _⟩ := h.int_inv (k := .i64) (by kernel_rfl)
 exact ⟨n, rfl⟩
theorem wt_str {x : IV} (h : WT Tryz.prog 9 x) : ∃ s, x = .str s := by
 obtain ⟨s, rfl, _⟩ := h.str_inv (by kernel_rfl)
 exact ⟨s, rfl⟩
theorem wt_bool {x : IV} (h : WT Tryz.prog 4 x) : ∃ b, x = .bool b := h.bool_inv (by kernel_rfl)
theorem wt_strs {x : IV} (h : WT Tryz.prog 22 x) : ∃ l : List ByteArray, x = .list (l.map .str) := by
 obtain ⟨xs, rfl, _, h⟩ := h.list_inv (e := 9) (by kernel_rfl)
 obtain ⟨es, rfl, _⟩ := list_form (enc := IV.str) (ok := fun _ => True) (xs := xs) fun x hx => by
  obtain ⟨s, e⟩ := wt_str (h x hx)
  exact ⟨s, e, trivial⟩
 exact ⟨es, rfl⟩
theorem wt_vals {x : IV} (hx : WT Tryz.prog 30 x) (h : ∀ y, y.bulk < x.bulk → WT Tryz.prog 33 y → ∃ v : Val, y = v.enc) : ∃ l : List Val, x = .list (l.map Val.enc) := by
 obtain ⟨xs, rfl, _, hh⟩ := hx.list_inv (e := 33) (by kernel_rfl)
 obtain ⟨es, rfl, _⟩ := list_form (enc := Val.enc) (ok := fun _ => True) (xs := xs) fun y hy => by
  have hb : y.bulk < (IV.list xs).bulk := by have := bulk_mem hy; simp only [IV.bulk]; omega
  obtain ⟨s, e⟩ := h y hb (hh y hy)
  exact ⟨s, e, trivial⟩
 exact ⟨es, rfl⟩
theorem wt_fields {x : IV} (hx : WT Tryz.prog 31 x) (h : ∀ y, y.bulk < x.bulk → WT Tryz.prog 70 y → ∃ p, y = Fld.enc p) : ∃ l : List (ByteArray × Val), x = .list (l.map Fld.enc) := by
 obtain ⟨xs, rfl, _, hh⟩ := hx.list_inv (e := 70) (by kernel_rfl)
 obtain ⟨es, rfl, _⟩ := list_form (enc := Fld.enc) (ok := fun _ => True) (xs := xs) fun y hy => by
  have hb : y.bulk < (IV.list xs).bulk := by have := bulk_mem hy; simp only [IV.bulk]; omega
  obtain ⟨s, e⟩ := h y hb (hh y hy)
  exact ⟨s, e, trivial⟩
 exact ⟨es, rfl⟩
theorem wt_valn : ∀ (n : Nat) (x : IV), x.bulk ≤ n → (WT Tryz.prog 33 x → ∃ v : Val, x = v.enc) ∧ (WT Tryz.prog 70 x → ∃ p, x = Fld.enc p)
 | 0, x, hb => by have := bulk_pos x; omega
 | n + 1, x, hb => by
  have hV : ∀ y : IV, y.bulk ≤ n → WT Tryz.prog 30 y → ∃ l : List Val, y = .list (l.map Val.enc) := fun y hy h => wt_vals h fun z hz hw => (wt_valn n z (by omega)).1 hw
  have hF : ∀ y : IV, y.bulk ≤ n → WT Tryz.prog 31 y → ∃ l : List (ByteArray × Val), y = .list (l.map Fld.enc) := fun y hy h => wt_fields h fun z hz hw => (wt_valn n z (by omega)).2 hw
  constructor
  ·intro h
   obtain ⟨xs, rfl, h2⟩ := h.agg_inv (ts := [3, 3, 9, 30, 31]) (by kernel_rfl) (by kernel_rfl)
   obtain ⟨a, xs, rfl, ha, h⟩ := h2.cons_inv
   obtain ⟨b, xs, rfl, hb, h⟩ := h.cons_inv
   obtain ⟨c, xs, rfl, hc, h⟩ := h.cons_inv
   obtain ⟨d, xs, rfl, hd, h⟩ := h.cons_inv
   obtain ⟨e, xs, rfl, he, h⟩ := h.cons_inv
   obtain rfl := h.nil_inv
   simp only [IV.bulk, IV.bulks] at hb
   obtain ⟨k, rfl⟩ := wt_int ha
   obtain ⟨m, rfl⟩ := wt_int ‹WT Tryz.prog 3 b›
   obtain ⟨s, rfl⟩ := wt_str hc
   obtain ⟨l, rfl⟩ := hV d (by omega) hd
   obtain ⟨f, rfl⟩ := hF e (by omega) he
   exact ⟨⟨k, m, s, l, f⟩, Val.fold _ _ _ _ _⟩
  ·intro h
   obtain ⟨xs, rfl, h2⟩ := h.agg_inv (ts := [9, 3, 3, 9, 30, 31]) (by kernel_rfl) (by kernel_rfl)
   obtain ⟨z, xs, rfl, hz, h⟩ := h2.cons_inv
   obtain ⟨a, xs, rfl, ha, h⟩ := h.cons_inv
   obtain ⟨b, xs, rfl, hb, h⟩ := h.cons_inv
   obtain ⟨c, xs, rfl, hc, h⟩ := h.cons_inv
   obtain ⟨d, xs, rfl, hd, h⟩ := h.cons_inv
   obtain ⟨e, xs, rfl, he, h⟩ := h.cons_inv
   obtain rfl := h.nil_inv
   simp only [IV.bulk, IV.bulks] at hb
   obtain ⟨nm, rfl⟩ := wt_str hz
   obtain ⟨k, rfl⟩ := wt_int ha
   obtain ⟨m, rfl⟩ := wt_int ‹WT Tryz.prog 3 b›
   obtain ⟨s, rfl⟩ := wt_str hc
   obtain ⟨l, rfl⟩ := hV d (by omega) hd
   obtain ⟨f, rfl⟩ := hF e (by omega) he
   exact ⟨(nm, ⟨k, m, s, l, f⟩), Fld.fold _ _ _ _ _ _⟩
theorem wt_val {x : IV} (h : WT Tryz.prog 33 x) : ∃ v : Val, x = v.enc := (wt_valn _ x (Nat.le_refl _)).1 h
theorem wt_vallist {x : IV} (h : WT Tryz.prog 30 x) : ∃ l : List Val, x = .list (l.map Val.enc) := wt_vals h fun _ _ hw => wt_val hw
theorem wt_schs {x : IV} (hx : WT Tryz.prog 23 x) (h : ∀ y, y.bulk < x.bulk → WT Tryz.prog 26 y → ∃ v : Sch, y = v.enc) : ∃ l : List Sch, x = .list (l.map Sch.enc) := by
 obtain ⟨xs, rfl, _, hh⟩ := hx.list_inv (e := 26) (by kernel_rfl)
 obtain ⟨es, rfl, _⟩ := list_form (enc := Sch.enc) (ok := fun _ => True) (xs := xs) fun y hy => by
  have hb : y.bulk < (IV.list xs).bulk := by have := bulk_mem hy; simp only [IV.bulk]; omega
  obtain ⟨s, e⟩ := h y hb (hh y hy)
  exact ⟨s, e, trivial⟩
 exact ⟨es, rfl⟩
theorem wt_sfields {x : IV} (hx : WT Tryz.prog 24 x) (h : ∀ y, y.bulk < x.bulk → WT Tryz.prog 64 y → ∃ p : SFld, y = p.enc) : ∃ l : List SFld, x = .list (l.map SFld.enc) := by
 obtain ⟨xs, rfl, _, hh⟩ := hx.list_inv (e := 64) (by kernel_rfl)
 obtain ⟨es, rfl, _⟩ := list_form (enc := SFld.enc) (ok := fun _ => True) (xs := xs) fun y hy => by
  have hb : y.bulk < (IV.list xs).bulk := by have := bulk_mem hy; simp only [IV.bulk]; omega
  obtain ⟨s, e⟩ := h y hb (hh y hy)
  exact ⟨s, e, trivial⟩
 exact ⟨es, rfl⟩
theorem wt_schn : ∀ (n : Nat) (x : IV), x.bulk ≤ n → (WT Tryz.prog 26 x → ∃ v : Sch, x = v.enc) ∧ (WT Tryz.prog 64 x → ∃ p : SFld, x = p.enc)
 | 0, x, hb => by have := bulk_pos x; omega
 | n + 1, x, hbn => by
  have hV : ∀ y : IV, y.bulk ≤ n → WT Tryz.prog 23 y → ∃ l : List Sch, y = .list (l.map Sch.enc) := fun y hy h => wt_schs h fun z hz hw => (wt_schn n z (by omega)).1 hw
  have hF : ∀ y : IV, y.bulk ≤ n → WT Tryz.prog 24 y → ∃ l : List SFld, y = .list (l.map SFld.enc) := fun y hy h => wt_sfields h fun z hz hw => (wt_schn n z (by omega)).2 hw
  have hS : ∀ xs, WTs Tryz.prog [3, 3, 3, 22, 9, 23, 24] xs → IV.bulks xs ≤ n → ∃ s : Sch, xs = s.comps := by
   intro xs h hb
   obtain ⟨a, xs, rfl, ha, h⟩ := h.cons_inv
   obtain ⟨b, xs, rfl, hb', h⟩ := h.cons_inv
   obtain ⟨c, xs, rfl, hc, h⟩ := h.cons_inv
   obtain ⟨d, xs, rfl, hd, h⟩ := h.cons_inv
   obtain ⟨e, xs, rfl, he, h⟩ := h.cons_inv
   obtain ⟨g, xs, rfl, hg, h⟩ := h.cons_inv
   obtain ⟨i, xs, rfl, hi, h⟩ := h.cons_inv
   obtain rfl := h.nil_inv
   simp only [IV.bulks] at hb
   obtain ⟨k, rfl⟩ := wt_int ha
   obtain ⟨m, rfl⟩ := wt_int hb'
   obtain ⟨o, rfl⟩ := wt_int hc
   obtain ⟨en, rfl⟩ := wt_strs hd
   obtain ⟨key, rfl⟩ := wt_str he
   obtain ⟨it, rfl⟩ := hV g (by omega) hg
   obtain ⟨f, rfl⟩ := hF i (by omega) hi
   exact ⟨⟨k, m, o, en, key, it, f⟩, by rw [Sch.comps_eq]; rfl⟩
  constructor
  ·intro h
   obtain ⟨xs, rfl, h2⟩ := h.agg_inv (ts := [3, 3, 3, 22, 9, 23, 24]) (by kernel_rfl) (by kernel_rfl)
   simp only [IV.bulk] at hbn
   obtain ⟨s, rfl⟩ := hS xs h2 (by omega)
   exact ⟨s, s.enc_eq.symm⟩
  ·intro h
   obtain ⟨xs, rfl, h2⟩ := h.agg_inv (ts := [9, 4, 4, 30, 3, 3, 3, 22, 9, 23, 24]) (by kernel_rfl) (by kernel_rfl)
   obtain ⟨a, xs, rfl, ha, h⟩ := h2.cons_inv
   obtain ⟨b, xs, rfl, hb', h⟩ := h.cons_inv
   obtain ⟨c, xs, rfl, hc, h⟩ := h.cons_inv
   obtain ⟨d, xs, rfl, hd, h⟩ := h.cons_inv
   simp only [IV.bulk, IV.bulks] at hbn
   obtain ⟨s, rfl⟩ := hS xs h (by omega)
   obtain ⟨nm, rfl⟩ := wt_str ha
   obtain ⟨rq, rfl⟩ := wt_bool hb'
   obtain ⟨im, rfl⟩ := wt_bool hc
   obtain ⟨df, rfl⟩ := wt_vallist hd
   exact ⟨⟨nm, rq, im, df, s⟩, rfl⟩
theorem wt_sch {x : IV} (h : WT Tryz.prog 26 x) : ∃ s : Sch, x = s.enc := (wt_schn _ x (Nat.le_refl _)).1 h
end Go.CT.Sch
