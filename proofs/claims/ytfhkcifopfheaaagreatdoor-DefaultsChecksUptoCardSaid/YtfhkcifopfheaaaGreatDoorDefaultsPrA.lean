import Derived.Test.YtfhkcifopfheaaaGreatDoorTabA
import Derived.Test.YtfhkcifopfheaaaGreatDoorCtC
set_option linter.unusedVariables false
set_option linter.unusedSimpArgs false
namespace Go.CT.Sch
open Go.Proofs
theorem byte_int (c : UInt8) : (0 : Int) ≤ c.toNat ∧ (c.toNat : Int) ≤ 255 := by
 have := c.toNat_lt; omega
theorem drop_get {s : ByteArray} {i : Nat} (h : i < s.size) : s.data.toList.drop i = s[i] :: s.data.toList.drop (i + 1) := by
 rw [List.drop_eq_getElem_cons (by simpa using h)]; rfl
theorem ref_str_1 (s : ByteArray) (hs : s.size ≤ 4611686018427387904) : ∀ (n i : Nat), i + n = s.size → W F7 1 [.str s, .int i] = some [.bool ((s.data.toList.drop i).all okChar && decide (s.size ≤ 200))]
 | 0, i, h => by
  rw [e_F7_1]
  have h1 : ¬ i < s.size := by omega
  have h2 : s.data.toList.drop i = [] := List.drop_of_length_le (by simp; omega)
  have h3 : decide ((s.size : Int) ≤ 200) = decide (s.size ≤ 200) := by simp; omega
  simp [h1, h2]
  omega
 | n + 1, i, h => by
  have hi : i < s.size := by omega
  have ih := ref_str_1 s hs n (i + 1) (by omega)
  have hw := next64 (i := i) (by omega)
  rw [e_F7_1, drop_get hi]
  have hb := byte_int s[i]
  generalize hc : s[i] = c at hb
  have e1 : okChar c = !(decide (¬ (c.toNat : Int) = 10 ∧ ((c.toNat : Int) < 32 ∨ (126 : Int) < c.toNat))) := by
   unfold okChar
   rw [Bool.eq_iff_iff]
   simp
   omega
  simp only [O.slen_str, Option.bind_some, O.lt_int, lt_cast, hi, decide_true, O.cnd_bool, if_true, O.sindex_str, Int.natCast_nonneg, Int.toNat_natCast, sget hi, hc, Option.map_some, O.ne_int, List.all_cons, e1, O.add_int, hw, ih]
  by_cases c1 : (c.toNat : Int) = 10
  ·simp [c1]
  ·by_cases c2 : (c.toNat : Int) < 32
   ·simp [c1, c2]
   ·by_cases c3 : (126 : Int) < c.toNat
    ·simp [c1, c2, c3]
    ·simp [c1, c2, c3]
theorem ref_str (s : ByteArray) (hs : s.size ≤ 4611686018427387904) : W F7 0 [.str s] = some [.bool (okStr s)] := by
 rw [e_F7_0]
 exact ref_str_1 s hs s.size 0 (by omega)
theorem ref_name_1 (s : ByteArray) (hs : s.size ≤ 4611686018427387904) : ∀ (n i : Nat), i + n = s.size → W F11 1 [.str s, .int i] = some [.bool ((s.data.toList.drop i).all okNameChar && decide (1 ≤ s.size ∧ s.size ≤ 40))]
 | 0, i, h => by
  rw [e_F11_1]
  have h1 : ¬ i < s.size := by omega
  have h2 : s.data.toList.drop i = [] := List.drop_of_length_le (by simp; omega)
  have h3 : ((s.size : Int) ≤ 40) = (s.size ≤ 40) := by simp; omega
  simp [h1, h2, h3]
  have : ((1 : Int) ≤ s.size) = (1 ≤ s.size) := by simp; omega
  by_cases c : 1 ≤ s.size <;> simp [this, c]
 | n + 1, i, h => by
  have hi : i < s.size := by omega
  have ih := ref_name_1 s hs n (i + 1) (by omega)
  have hw := next64 (i := i) (by omega)
  rw [e_F11_1, drop_get hi]
  generalize hc : s[i] = c
  have e1 : okNameChar c = !(decide (¬ (((97 : Int) ≤ c.toNat ∧ (c.toNat : Int) ≤ 122) ∨ ((65 : Int) ≤ c.toNat ∧ (c.toNat : Int) ≤ 90)) ∧ ¬ ((48 : Int) ≤ c.toNat ∧ (c.toNat : Int) ≤ 57) ∧ ¬ (c.toNat : Int) = 45 ∧ ¬ (c.toNat : Int) = 95 ∧ ¬ (c.toNat : Int) = 47)) := by
   unfold okNameChar
   rw [Bool.eq_iff_iff]
   simp
   omega
  simp only [O.slen_str, Option.bind_some, O.lt_int, lt_cast, hi, decide_true, O.cnd_bool, if_true, O.sindex_str, Int.natCast_nonneg, Int.toNat_natCast, sget hi, hc, Option.map_some, O.ge_int, O.le_int, O.ne_int, List.all_cons, e1, O.add_int, hw, ih]
  by_cases p1 : (97 : Int) ≤ c.toNat <;> by_cases p2 : (c.toNat : Int) ≤ 122 <;> by_cases p3 : (65 : Int) ≤ c.toNat <;> by_cases p4 : (c.toNat : Int) ≤ 90 <;> by_cases p5 : (48 : Int) ≤ c.toNat <;> by_cases p6 : (c.toNat : Int) ≤ 57 <;> simp [p1, p2, p3, p4, p5, p6] <;>
   by_cases p7 : (c.toNat : Int) = 45 <;> by_cases p8 : (c.toNat : Int) = 95 <;> by_cases p9 : (c.toNat : Int) = 47 <;> simp [p7, p8, p9]
theorem ref_name (s : ByteArray) (hs : s.size ≤ 4611686018427387904) : W F11 0 [.str s] = some [.bool (okName s)] := by
 rw [e_F11_0]
 exact ref_name_1 s hs s.size 0 (by omega)
end Go.CT.Sch
namespace Go.CT.Sch
open Go.Proofs
theorem emptyB_eq : (⟨#[]⟩ : ByteArray) = emptyB := rfl
theorem frOk_cons (d : Nat) (o : Option ByteArray) (p : ByteArray × Val) (r : List (ByteArray × Val)) : frOk d o (p :: r) = (okName p.1 && (match o with | none => true | some q => blt q p.1) && validD d p.2 && frOk d (some p.1) r) := by
 cases o <;> rfl
theorem ref_scalar (v : Val) (hv : v.mass ≤ 1099511627776) : W F14 0 [v.enc] = some [.bool (okScalar v)] := by
 have hs := v.mass_s
 rw [e_F14_0]
 unfold okScalar
 simp only [Val.proj0, Option.bind_some, O.eq_int, O.cnd_bool]
 by_cases c1 : v.k = 1
 ·simp [c1, emptyB_eq]
 by_cases c2 : v.k = 2
 ·by_cases a1 : -1000000000000000 ≤ v.n <;> by_cases a2 : v.n ≤ 1000000000000000 <;> simp [c2, a1, a2, emptyB_eq]
 by_cases c3 : v.k = 3
 ·simp [c3, ref_str v.s (by omega)]
 by_cases c4 : v.k = 0
 ·by_cases a1 : v.n = 0 <;> simp [c4, e_F14_1, a1, emptyB_eq]
 by_cases c5 : v.k = 4
 ·by_cases a1 : v.n = 0 <;> simp [c5, e_F14_1, a1, emptyB_eq]
 by_cases c6 : v.k = 5
 ·by_cases a1 : v.n = 0 <;> simp [c6, e_F14_1, a1, emptyB_eq]
 simp [c1, c2, c3, c4, c5, c6, e_F14_1]
theorem ref_valid_1 (d : Nat) (v : Val) (hd : d ≤ 12) (hv : v.mass ≤ 1099511627776) (ih : ∀ x ∈ v.l, W F13 0 [x.enc, .int d] = some [.bool (validD d x)]) : ∀ (n i : Nat), i + n = v.l.length →
  W F13 1 [.int ((d + 1 : Nat) : Int), .int i, v.enc] = if (v.l.drop i).all (validD d) = true then W F13 2 [.int ((d + 1 : Nat) : Int), .int 0, v.enc] else some [.bool false]
 | 0, i, h => by
  rw [e_F13_1]
  have h1 : ¬ i < v.l.length := by omega
  simp [h1, List.drop_of_length_le (Nat.le_of_not_lt h1)]
 | n + 1, i, h => by
  have hi : i < v.l.length := by omega
  have hm := v.mass_len_l
  have hw := next64 (i := i) (by omega)
  have hd1 : IntKind.i64.wrap (((d + 1 : Nat) : Int) - 1) = d := by rw [wrap64 (by omega) (by omega)]; omega
  have := ref_valid_1 d v hd hv ih n (i + 1) (by omega)
  rw [e_F13_1, List.drop_eq_getElem_cons hi]
  simp only [Val.proj3, Option.bind_some, O.len_list, List.length_map, O.lt_int, lt_cast, hi, decide_true, O.cnd_bool, if_true, O.index_list, Int.natCast_nonneg, Int.toNat_natCast, List.getElem?_map, List.getElem?_eq_getElem hi, Option.map_some, O.sub_int, hd1, ih _ (List.getElem_mem hi), O.calls_1, O.not_bool, O.add_int, hw, this, List.all_cons, Bool.and_eq_true]
  by_cases c : validD d v.l[i] = true <;> simp [c]
theorem ref_valid_2 (d : Nat) (v : Val) (hd : d ≤ 12) (hv : v.mass ≤ 1099511627776) (ih : ∀ p ∈ v.f, W F13 0 [p.2.enc, .int d] = some [.bool (validD d p.2)]) : ∀ (n i : Nat), i + n = v.f.length →
  W F13 2 [.int ((d + 1 : Nat) : Int), .int i, v.enc] = some [.bool (frOk d (prevName v.f i) (v.f.drop i))]
 | 0, i, h => by
  rw [e_F13_2]
  have h1 : ¬ i < v.f.length := by omega
  simp [h1, List.drop_of_length_le (Nat.le_of_not_lt h1), frOk]
 | n + 1, i, h => by
  have hi : i < v.f.length := by omega
  have hm := v.mass_len_f
  have hw := next64 (i := i) (by omega)
  have hd1 : IntKind.i64.wrap (((d + 1 : Nat) : Int) - 1) = d := by rw [wrap64 (by omega) (by omega)]; omega
  have := ref_valid_2 d v hd hv ih n (i + 1) (by omega)
  have hmem := List.getElem_mem hi
  have hmass := Val.mass_f hmem
  have hpn : prevName v.f (i + 1) = some v.f[i].1 := by simp [prevName, hi]
  rw [hpn] at this
  rw [e_F13_2, List.drop_eq_getElem_cons hi, frOk_cons]
  simp only [Val.proj4, Option.bind_some, O.len_list, List.length_map, O.lt_int, lt_cast, hi, decide_true, O.cnd_bool, if_true, O.index_list, Int.natCast_nonneg, Int.toNat_natCast, List.getElem?_map, List.getElem?_eq_getElem hi, Option.map_some, Fld.proj0, Fld.projV, ref_name v.f[i].1 (by omega), O.sub_int, hd1, ih _ hmem, O.calls_1, O.not_bool, O.add_int, hw, this, O.gt_int]
  cases i with
  | zero =>
   simp only [prevName]
   cases okName v.f[0].1 <;> cases validD d v.f[0].2 <;> simp
  | succ i =>
   have hi' : i < v.f.length := by omega
   have hw2 : IntKind.i64.wrap (((i + 1 : Nat) : Int) - 1) = i := by rw [wrap64 (by omega) (by omega)]; omega
   have hp : (0 : Int) < ((i + 1 : Nat) : Int) := by omega
   simp only [prevName, List.getElem?_eq_getElem hi', Option.map_some, hw2, hp, decide_true, if_true, Int.natCast_nonneg, Int.toNat_natCast, Option.bind_some, Fld.proj0, sLe_blt]
   cases okName v.f[i + 1].1 <;> cases validD d v.f[i + 1].2 <;> cases blt v.f[i].1 v.f[i + 1].1 <;> simp
theorem ref_valid : ∀ (d : Nat) (v : Val), d ≤ 12 → v.mass ≤ 1099511627776 → W F13 0 [v.enc, .int d] = some [.bool (validD d v)]
 | 0, v, _, _ => by
  rw [e_F13_0]
  simp [validD]
 | d + 1, v, hd, hv => by
  have h1 := ref_valid_1 d v (by omega) hv (fun x hx => ref_valid d x (by omega) (by have := Val.mass_l hx; omega)) v.l.length 0 (by omega)
  have h2 := ref_valid_2 d v (by omega) hv (fun p hp => ref_valid d p.2 (by omega) (by have := Val.mass_f hp; omega)) v.f.length 0 (by omega)
  rw [e_F13_0]
  have hz : ¬ ((d + 1 : Nat) : Int) = 0 := by omega
  simp only [Int.cast_ofNat_Int, List.drop_zero, prevName, frOk_none] at h1 h2
  rw [h2] at h1
  simp only [O.eq_int, hz, decide_false, Option.bind_some, O.cnd_bool, Bool.false_eq_true, if_false, ref_scalar v hv, O.calls_1, O.not_bool, Val.proj3, Val.proj4, Val.proj0, O.len_list, List.length_map, O.gt_int, O.ne_int, h1, validD]
  have hnil : v.l = [] → v.l.all (validD d) = true := fun e => by rw [e]; rfl
  have hnil2 : v.f = [] → (v.f.all fun p => okName p.1 && validD d p.2) = true ∧ rising v.f = true := fun e => by rw [e]; exact ⟨rfl, rfl⟩
  generalize v.l.all (validD d) = A at *
  generalize (v.f.all fun p => okName p.1 && validD d p.2) = B at *
  generalize rising v.f = C at *
  cases hs : okScalar v with
  | false => simp
  | true =>
   by_cases c1 : (64 : Int) < v.l.length
   ·have : ¬ v.l.length ≤ 64 := by omega
    simp [c1, this]
   ·have d1 : v.l.length ≤ 64 := by omega
    by_cases c2 : (64 : Int) < v.f.length
    ·have : ¬ v.f.length ≤ 64 := by omega
     simp [c1, c2, this]
    ·have d2 : v.f.length ≤ 64 := by omega
     by_cases c3 : v.k = 4
     ·have c4 : ¬ v.k = 5 := by omega
      by_cases c5 : v.f = []
      ·simp [c3, c1, d1, c5]
       cases A <;> simp
      ·have c6 : (0 : Int) < v.f.length := by have := List.length_pos_iff.2 c5; omega
       simp [c3, c1, c2, d1, d2, c5, c6]
     ·by_cases c5 : v.l = []
      ·by_cases c4 : v.k = 5
       ·simp [c4, c2, d2, c5]
        cases A <;> simp
       ·by_cases c7 : v.f = []
        ·simp [c3, c4, c5, c7]
         cases A <;> simp
        ·have c6 : (0 : Int) < v.f.length := by have := List.length_pos_iff.2 c7; omega
         simp [c3, c4, c5, c7, c6, c2, d2]
      ·have c6 : (0 : Int) < v.l.length := by have := List.length_pos_iff.2 c5; omega
       simp [c3, c5, c6, c1, c2, d1, d2]
end Go.CT.Sch
namespace Go.CT
theorem get!_eq (s : ByteArray) (i : Nat) (h : i < s.size) : s.get! (i + 0) = s[i] := by
 obtain ⟨a⟩ := s
 have h' : i < a.size := h
 show a[i + 0]! = a[i]
 simp [h']
theorem decode_low {s : ByteArray} {i : Nat} (h : i < s.size) (hb : s[i].toNat < 128) : Utf8.decode s i = (s[i].toNat, 1) := by
 unfold Utf8.decode
 simp only [get!_eq s i h]
 rw [if_pos hb]
theorem decode_high {s : ByteArray} {i : Nat} (h : i < s.size) (hb : 128 ≤ s[i].toNat) : 128 ≤ (Utf8.decode s i).1 := by
 unfold Utf8.decode
 simp only [get!_eq s i h]
 rw [if_neg (by omega)]
 have e : Utf8.runeError = 65533 := rfl
 split
 ·split <;> simp only [e] <;> omega
 ·split
  ·split
   ·rename_i hc
    simp only [Bool.and_eq_true, decide_eq_true_eq, ge_iff_le] at hc
    show 128 ≤ _
    omega
   ·simp [e]
  ·split
   ·split
    ·rename_i hc
     simp only [Bool.and_eq_true, decide_eq_true_eq, ge_iff_le] at hc
     show 128 ≤ _
     omega
    ·simp [e]
   ·simp [e]
namespace O
variable {s : ByteArray} {i : Nat} {b : Bool} {xs ys : List IV}
theorem iterOk_in (h : i < s.size) : iterOk (.str s) (.int i) = some (.bool true) := by simp [iterOk, Prim.ev, h]
theorem iterOk_out (h : ¬ i < s.size) : iterOk (.str s) (.int i) = some (.bool false) := by simp [iterOk, Prim.ev, h]
theorem runeAt_in (h : i < s.size) : runeAt (.str s) (.int i) = some (.int (Utf8.decode s i).1) := by simp [runeAt, Prim.ev, h]
theorem runeAt_out (h : ¬ i < s.size) : runeAt (.str s) (.int i) = some (.int 0) := by simp [runeAt, Prim.ev, h]
theorem iterNext_in (h : i < s.size) : iterNext (.str s) (.int i) = some (.int ((i + (Utf8.decode s i).2 : Nat) : Int)) := by simp [iterNext, Prim.ev, h]
theorem iterNext_out (h : ¬ i < s.size) : iterNext (.str s) (.int i) = some (.int i) := by simp [iterNext, Prim.ev, h]
@[simp] theorem need_true : need (.bool true) = some (.bool true) := rfl
theorem appendN_list {n : Nat} (h : 0 < ys.length) (hb : (xs.length + ys.length) * n ≤ maxBytes) : appendN n (.list xs) (.list ys) = some (.list (xs ++ ys)) := if_pos ⟨h, hb⟩
theorem appendS_str (h : xs.length + s.size ≤ maxBytes) : appendS (.list xs) (.str s) = some (.list (xs ++ bytesIV s)) := if_pos h
@[simp] theorem clipF_list : clipF [.list xs] = some [.list xs] := rfl
@[simp] theorem copyCheckF_list : copyCheckF [.list xs] = some [.list xs] := rfl
theorem mapM_ivByte : ∀ l : List UInt8, (l.map fun b : UInt8 => IV.int b.toNat).mapM ivByte = some l
 | [] => rfl
 | b :: l => by
  have hb : ivByte (.int b.toNat) = some b := by
   have h : (b.toNat : Int) < 256 := by have := b.toNat_lt; omega
   simp only [ivByte, Int.natCast_nonneg, h, and_self, if_true, Int.toNat_natCast]
   simp [Nat.toUInt8]
  simp [List.map_cons, List.mapM_cons, hb, mapM_ivByte l]
theorem stringF_bytes (s : ByteArray) : stringF [.list (bytesIV s)] = some [.str s] := by
 simp only [stringF, bytesIV, mapM_ivByte, Option.map_some]
theorem bytesIV_append (s t : ByteArray) : bytesIV (s ++ t) = bytesIV s ++ bytesIV t := by
 simp [bytesIV, ByteArray.toList_data_append]
theorem bytesIV_length (s : ByteArray) : (bytesIV s).length = s.size := by simp [bytesIV]
theorem itoa_fun (n : Nat) (h : n < 100) : itoaF [.int n] = some [.str (itoaB n)] := by
 simp only [itoaF, Int.natCast_nonneg, true_and, Int.toNat_natCast]
 rw [if_pos (by omega)]
end O
end Go.CT
namespace Go.CT.Sch
open Go.Proofs
structure Stp where
 k : Int
 nm : ByteArray
 ix : Int
 vl : ByteArray
def Stp.enc (s : Stp) : IV := .agg [.int s.k, .str s.nm, .int s.ix, .str s.vl]
@[simp] theorem Stp.proj0 (s : Stp) : O.proj 0 s.enc = some (.int s.k) := rfl
@[simp] theorem Stp.proj1 (s : Stp) : O.proj 1 s.enc = some (.str s.nm) := rfl
@[simp] theorem Stp.proj2 (s : Stp) : O.proj 2 s.enc = some (.int s.ix) := rfl
@[simp] theorem Stp.proj3 (s : Stp) : O.proj 3 s.enc = some (.str s.vl) := rfl
def Stp.fits (s : Stp) : Prop := s.nm.size ≤ 1099511627000 ∧ s.vl.size ≤ 1099511627000
def bsL (l : List UInt8) : ByteArray := ⟨l.toArray⟩
theorem bsL_append (a b : List UInt8) : bsL (a ++ b) = bsL a ++ bsL b := by
 apply bytes_ext
 rw [ByteArray.toList_data_append]; simp [bsL]
theorem bsL_size (l : List UInt8) : (bsL l).size = l.length := by simp [bsL, ByteArray.size]
theorem emptyB_append (s : ByteArray) : emptyB ++ s = s := by
 apply bytes_ext
 rw [ByteArray.toList_data_append]; rfl
theorem append_emptyB (s : ByteArray) : s ++ emptyB = s := by
 apply bytes_ext
 rw [ByteArray.toList_data_append]; simp [emptyB]
theorem extract1 {s : ByteArray} {i : Nat} (h : i < s.size) : s.extract i (i + 1) = bsL [s[i]] := by
 apply bytes_ext
 rw [ByteArray.data_extract, Array.toList_extract]
 simp only [List.extract_eq_take_drop, bsL]
 have := drop_get h
 rw [show i + 1 - i = 1 by omega, this]
 rfl
def escB (c : UInt8) : List UInt8 := if c.toNat = 10 then [92, 110] else if c.toNat = 34 ∨ c.toNat = 92 then [92, c] else [c]
def quoteB (s : ByteArray) : ByteArray := bsL (34 :: s.data.toList.flatMap escB ++ [34])
theorem escB_len (c : UInt8) : (escB c).length ≤ 2 := by unfold escB; split <;> (try split) <;> simp
theorem esc_len : ∀ l : List UInt8, (l.flatMap escB).length ≤ 2 * l.length
 | [] => by simp
 | c :: l => by
  have := escB_len c
  have := esc_len l
  simp only [List.flatMap_cons, List.length_append, List.length_cons]; omega
theorem quoteB_size (s : ByteArray) : (quoteB s).size ≤ 2 + 2 * s.size := by
 have := esc_len s.data.toList
 have h : s.data.toList.length = s.size := by simp
 unfold quoteB
 rw [bsL_size]
 simp only [List.length_cons, List.length_append, List.length_nil]
 omega
def stepOk (x : Stp) : Bool :=
 if x.k = 1 then okName x.nm && decide (x.ix = 0) && decide (x.vl = emptyB)
 else if x.k = 2 then decide (0 ≤ x.ix) && decide (x.ix ≤ 64) && decide (x.nm = emptyB) && decide (x.vl = emptyB)
 else if x.k = 3 then okName x.nm && okStr x.vl && decide (x.ix = 0)
 else false
def pathOk (p : List Stp) : Bool := p.all stepOk && decide (p.length ≤ 16)
def stepB (first : Bool) (x : Stp) : ByteArray :=
 if x.k = 2 then bsL [91] ++ O.itoaB x.ix.toNat ++ bsL [93]
 else if x.k = 3 then bsL [91] ++ x.nm ++ bsL [61] ++ quoteB x.vl ++ bsL [93]
 else if first then x.nm else bsL [46] ++ x.nm
def stepsB : Bool → List Stp → ByteArray
 | _, [] => emptyB
 | b, x :: r => stepB b x ++ stepsB false r
def pathB (p : List Stp) : ByteArray := stepsB true p
def printB (p : List Stp) : ByteArray := if pathOk p then pathB p else emptyB
def printE (p : List Stp) : Int := if pathOk p then 0 else 1
theorem okName_size {s : ByteArray} (h : okName s = true) : s.size ≤ 40 := by
 unfold okName at h
 simp only [Bool.and_eq_true, decide_eq_true_eq] at h
 exact h.2.2
theorem okStr_size {s : ByteArray} (h : okStr s = true) : s.size ≤ 200 := by
 unfold okStr at h
 simp only [Bool.and_eq_true, decide_eq_true_eq] at h
 exact h.2
theorem itoaB_size (n : Nat) : (O.itoaB n).size ≤ 2 := by
 unfold O.itoaB
 split
 ·show 1 ≤ 2; omega
 ·show 2 ≤ 2; omega
theorem stepOk_sizes {x : Stp} (h : stepOk x = true) : x.nm.size ≤ 40 ∧ x.vl.size ≤ 200 ∧ (x.k = 2 → 0 ≤ x.ix ∧ x.ix ≤ 64) ∧ (x.k = 3 → okStr x.vl = true) ∧ (x.k = 1 ∨ x.k = 2 ∨ x.k = 3) := by
 have e0 : emptyB.size = 0 := rfl
 unfold stepOk at h
 split at h
 ·rename_i k1
  simp only [Bool.and_eq_true, decide_eq_true_eq] at h
  exact ⟨okName_size h.1.1, by rw [h.2, e0]; omega, fun h => by omega, fun h => by omega, .inl k1⟩
 ·split at h
  ·rename_i k2
   simp only [Bool.and_eq_true, decide_eq_true_eq] at h
   exact ⟨by rw [h.1.2, e0]; omega, by rw [h.2, e0]; omega, fun _ => ⟨h.1.1.1, h.1.1.2⟩, fun h => by omega, .inr (.inl k2)⟩
  ·split at h
   ·rename_i k3
    simp only [Bool.and_eq_true, decide_eq_true_eq] at h
    exact ⟨okName_size h.1.1, okStr_size h.1.2, fun h => by omega, fun _ => h.1.2, .inr (.inr k3)⟩
   ·cases h
theorem ref_pchar (c : UInt8) : W F22 0 [.int c.toNat] = some [.bool (okNameChar c)] := by
 rw [e_F22_0]
 simp only [O.ge_int, O.le_int, O.eq_int, Option.bind_some, O.cnd_bool, ite_some, ite_ivbool]
 congr 3
 unfold okNameChar
 rw [Bool.eq_iff_iff]
 simp
 omega
theorem ref_pname_1 (s : ByteArray) (hs : s.size ≤ 1099511627776) : ∀ (n i : Nat), i + n = s.size → W F21 1 [.str s, .int i] = some [.bool ((s.data.toList.drop i).all okNameChar && decide (1 ≤ s.size ∧ s.size ≤ 40))]
 | 0, i, h => by
  have h1 : ¬ i < s.size := by omega
  have h2 : s.data.toList.drop i = [] := List.drop_of_length_le (by simp; omega)
  rw [e_F21_1]
  simp only [O.slen_str, Option.bind_some, O.lt_int, lt_cast, h1, decide_false, O.cnd_bool, Bool.false_eq_true, if_false, O.gt_int, O.le_int, ite_some, ite_ivbool, h2, List.all_nil, Bool.true_and]
  congr 3
  rw [Bool.eq_iff_iff]
  simp
  omega
 | n + 1, i, h => by
  have hi : i < s.size := by omega
  have hw := next64 (i := i) (by omega)
  have ih := ref_pname_1 s hs n (i + 1) (by omega)
  rw [e_F21_1, drop_get hi]
  simp only [O.slen_str, Option.bind_some, O.lt_int, lt_cast, hi, decide_true, O.cnd_bool, if_true, O.sindex_str, Int.natCast_nonneg, Int.toNat_natCast, sget hi, Option.map_some, ref_pchar, O.calls_1, O.not_bool, O.add_int, hw, ih, List.all_cons]
  cases okNameChar s[i] <;> simp
theorem ref_pname (s : ByteArray) (hs : s.size ≤ 1099511627776) : W F21 0 [.str s] = some [.bool (okName s)] := by
 rw [e_F21_0]; exact ref_pname_1 s hs s.size 0 (by omega)
theorem ref_pstr_1 (s : ByteArray) (hs : s.size ≤ 1099511627776) : ∀ (n i : Nat), i + n = s.size → W F23 1 [.str s, .int i] = some [.bool ((s.data.toList.drop i).all okChar && decide (s.size ≤ 200))]
 | 0, i, h => by
  have h1 : ¬ i < s.size := by omega
  have h2 : s.data.toList.drop i = [] := List.drop_of_length_le (by simp; omega)
  rw [e_F23_1]
  simp only [O.slen_str, Option.bind_some, O.lt_int, lt_cast, h1, decide_false, O.cnd_bool, Bool.false_eq_true, if_false, O.le_int, h2, List.all_nil, Bool.true_and]
  congr 3
  rw [Bool.eq_iff_iff]
  simp
  omega
 | n + 1, i, h => by
  have hi : i < s.size := by omega
  have hw := next64 (i := i) (by omega)
  have ih := ref_pstr_1 s hs n (i + 1) (by omega)
  rw [e_F23_1, drop_get hi]
  have e1 : okChar s[i] = !(if (!decide ((s[i].toNat : Int) = 10)) = true then (if decide ((s[i].toNat : Int) < 32) = true then true else decide (126 < (s[i].toNat : Int))) else false) := by
   unfold okChar
   rw [Bool.eq_iff_iff]
   by_cases c1 : s[i].toNat = 10
   ·simp [c1]
   ·have c1' : ¬ (s[i].toNat : Int) = 10 := by omega
    by_cases c2 : s[i].toNat < 32
    ·have c2' : (s[i].toNat : Int) < 32 := by omega
     simp [c1, c1', c2, c2']; omega
    ·have c2' : ¬ (s[i].toNat : Int) < 32 := by omega
     simp [c1, c1', c2, c2']
     omega
  simp only [O.slen_str, Option.bind_some, O.lt_int, lt_cast, hi, decide_true, O.cnd_bool, if_true, O.sindex_str, Int.natCast_nonneg, Int.toNat_natCast, sget hi, Option.map_some, O.ne_int, O.gt_int, ite_some, ite_ivbool, O.add_int, hw, ih, List.all_cons, e1]
  generalize (if (!decide ((s[i].toNat : Int) = 10)) = true then (if decide ((s[i].toNat : Int) < 32) = true then true else decide (126 < (s[i].toNat : Int))) else false) = b
  cases b <;> simp
theorem ref_pstr (s : ByteArray) (hs : s.size ≤ 1099511627776) : W F23 0 [.str s] = some [.bool (okStr s)] := by
 rw [e_F23_0]; exact ref_pstr_1 s hs s.size 0 (by omega)
theorem ref_pstep (s : Stp) (hs : s.fits) : W F20 0 [s.enc] = some [.bool (stepOk s)] := by
 have h1 := ref_pname s.nm (Nat.le_trans hs.1 (by decide))
 have h2 := ref_pstr s.vl (Nat.le_trans hs.2 (by decide))
 rw [e_F20_0]
 simp only [Stp.proj0, Stp.proj1, Stp.proj2, Stp.proj3, Option.bind_some, O.eq_int, O.cnd_bool, h1, h2, O.calls_1, O.ge_int, O.le_int, O.sEq_str, ite_some, ite_ivbool, emptyB_eq]
 unfold stepOk
 by_cases k1 : s.k = 1
 ·simp only [k1, decide_true, if_true]
  cases okName s.nm <;> simp
 ·by_cases k2 : s.k = 2
  ·simp only [k1, k2, decide_true, decide_false, Bool.false_eq_true, if_true, if_false]
   by_cases e1 : 0 ≤ s.ix <;> by_cases e2 : s.ix ≤ 64 <;> by_cases e3 : s.nm = emptyB <;> simp [e1, e2, e3]
  ·simp only [k1, k2, decide_false, Bool.false_eq_true, if_false]
   by_cases k3 : s.k = 3
   ·simp only [k3, decide_true, if_true]
    cases okName s.nm <;> cases okStr s.vl <;> simp
   ·simp [k3]
theorem ref_pvalid_1 (p : List Stp) (hp : ∀ s ∈ p, s.fits) (hl : p.length ≤ 1099511627776) : ∀ (n i : Nat), i + n = p.length → W F19 1 [.list (p.map Stp.enc), .int i] = some [.bool ((p.drop i).all stepOk && decide (p.length ≤ 16))]
 | 0, i, h => by
  have h1 : ¬ i < p.length := by omega
  have h2 : p.drop i = [] := List.drop_of_length_le (by omega)
  rw [e_F19_1]
  simp only [O.len_list, List.length_map, Option.bind_some, O.lt_int, lt_cast, h1, decide_false, O.cnd_bool, Bool.false_eq_true, if_false, O.le_int, h2, List.all_nil, Bool.true_and]
  congr 3
  rw [Bool.eq_iff_iff]
  simp
  omega
 | n + 1, i, h => by
  have hi : i < p.length := by omega
  have hw := next64 (i := i) (by omega)
  have ih := ref_pvalid_1 p hp hl n (i + 1) (by omega)
  rw [e_F19_1, List.drop_eq_getElem_cons hi]
  simp only [O.len_list, List.length_map, Option.bind_some, O.lt_int, lt_cast, hi, decide_true, O.cnd_bool, if_true, O.index_list, Int.natCast_nonneg, Int.toNat_natCast, List.getElem?_map, List.getElem?_eq_getElem hi, Option.map_some, ref_pstep _ (hp _ (List.getElem_mem hi)), O.calls_1, O.not_bool, O.add_int, hw, ih, List.all_cons]
  cases stepOk p[i] <;> simp
theorem ref_pvalid (p : List Stp) (hp : ∀ s ∈ p, s.fits) (hl : p.length ≤ 1099511627776) : W F19 0 [.list (p.map Stp.enc)] = some [.bool (pathOk p)] := by
 rw [e_F19_0]; exact ref_pvalid_1 p hp hl p.length 0 (by omega)
theorem cat_ok {a b : ByteArray} (ha : a.size ≤ 100000) (hb : b.size ≤ 100000) : O.cat (.str a) (.str b) = some (.str (a ++ b)) := by
 rw [O.cat_str, if_pos (by unfold maxBytes; omega)]
theorem digit_1 : ∀ d : Fin 10, (⟨#[48, 49, 50, 51, 52, 53, 54, 55, 56, 57]⟩ : ByteArray).extract d (d + 1) = bsL [(48 + d.val).toUInt8] := by decide +kernel
theorem ref_dec (n : Int) (h0 : 0 ≤ n) (h1 : n ≤ 64) : W F24 0 [.int n] = some [.str (O.itoaB n.toNat)] := by
 have sl : ∀ d : Nat, d < 10 → O.sslice (.str ⟨#[48, 49, 50, 51, 52, 53, 54, 55, 56, 57]⟩) (.int d) (.int ((d : Int) + 1)) = some (.str (bsL [(48 + d).toUInt8])) := by
  intro d hd
  rw [O.sslice_str, if_pos ⟨by omega, by omega, by show (d : Int) + 1 ≤ 10; omega⟩]
  have := digit_1 ⟨d, hd⟩
  simp only [Int.toNat_natCast]
  rw [show ((d : Int) + 1).toNat = d + 1 by omega, this]
 obtain ⟨m, rfl⟩ := Int.eq_ofNat_of_zero_le h0
 rw [e_F24_0]
 unfold O.itoaB
 simp only [Int.ofNat_eq_natCast, Int.toNat_natCast]
 by_cases c : m < 10
 ·have hw : IntKind.i64.wrap ((m : Int) + 1) = (m : Int) + 1 := wrap64 (by omega) (by omega)
  have c' : (m : Int) < 10 := by omega
  simp only [O.lt_int, c', decide_true, Option.bind_some, O.cnd_bool, if_true, O.add_int, hw, sl m c, c]
  rfl
 ·have c' : ¬ (m : Int) < 10 := by omega
  have hq : (m : Int).tdiv 10 = ((m / 10 : Nat) : Int) := by rw [Int.tdiv_eq_ediv_of_nonneg (by omega)]; omega
  have hr : (m : Int).tmod 10 = ((m % 10 : Nat) : Int) := by rw [Int.tmod_eq_emod_of_nonneg (by omega)]; omega
  have hw1 : IntKind.i64.wrap ((m / 10 : Nat) : Int) = ((m / 10 : Nat) : Int) := wrap64 (by omega) (by omega)
  have hw2 : IntKind.i64.wrap (((m / 10 : Nat) : Int) + 1) = ((m / 10 : Nat) : Int) + 1 := wrap64 (by omega) (by omega)
  have hw3 : IntKind.i64.wrap (((m % 10 : Nat) : Int) + 1) = ((m % 10 : Nat) : Int) + 1 := wrap64 (by omega) (by omega)
  have hne : ¬ (10 : Int) = 0 := by omega
  simp only [O.lt_int, c', decide_false, Option.bind_some, O.cnd_bool, Bool.false_eq_true, if_false, O.quo_int, O.rem_int, hne, hq, hr, hw1, O.add_int, hw2, hw3, sl (m / 10) (by omega), sl (m % 10) (by omega), c]
  rw [cat_ok (by rw [bsL_size]; simp) (by rw [bsL_size]; simp), ← bsL_append]
  rfl
theorem ref_quote_1 (s : ByteArray) (hs : s.size ≤ 200) : ∀ (n i : Nat) (o : ByteArray), i + n = s.size → o.size ≤ 1 + 2 * i → W F25 1 [.str s, .str o, .int i] = some [.str (o ++ bsL ((s.data.toList.drop i).flatMap escB ++ [34]))]
 | 0, i, o, h, ho => by
  have h1 : ¬ i < s.size := by omega
  have h2 : s.data.toList.drop i = [] := List.drop_of_length_le (by simp; omega)
  rw [e_F25_1]
  simp only [O.slen_str, Option.bind_some, O.lt_int, lt_cast, h1, decide_false, O.cnd_bool, Bool.false_eq_true, if_false, h2, List.flatMap_nil, List.nil_append]
  rw [show (ByteArray.mk #[34]) = bsL [34] from rfl, cat_ok (by omega) (by rw [bsL_size]; simp)]
  rfl
 | n + 1, i, o, h, ho => by
  have hi : i < s.size := by omega
  have hw := next64 (i := i) (by omega)
  have hsl : O.sslice (.str s) (.int i) (.int ((i + 1 : Nat) : Int)) = some (.str (bsL [s[i]])) := by
   rw [O.sslice_str, if_pos ⟨by omega, by omega, by omega⟩]
   simp only [Int.toNat_natCast]
   rw [extract1 hi]
  have next : ∀ a : List UInt8, a.length ≤ 2 → escB s[i] = a → W F25 2 [.str s, .str (o ++ bsL a), .int i] = some [.str (o ++ bsL ((s.data.toList.drop i).flatMap escB ++ [34]))] := by
   intro a ha he
   rw [e_F25_2]
   simp only [O.add_int, hw, Option.bind_some]
   rw [ref_quote_1 s hs n (i + 1) _ (by omega) (by rw [ByteArray.size_append, bsL_size]; omega), drop_get hi, List.flatMap_cons, he, List.append_assoc, bsL_append a, ByteArray.append_assoc]
  rw [e_F25_1]
  simp only [O.slen_str, Option.bind_some, O.lt_int, lt_cast, hi, decide_true, O.cnd_bool, if_true, O.sindex_str, Int.natCast_nonneg, Int.toNat_natCast, sget hi, Option.map_some, O.eq_int, ite_some, ite_ivbool]
  rw [show (ByteArray.mk #[92, 110]) = bsL [92, 110] from rfl, show (ByteArray.mk #[92]) = bsL [92] from rfl]
  by_cases c1 : s[i].toNat = 10
  ·have c1' : (s[i].toNat : Int) = 10 := by omega
   simp only [c1', decide_true, if_true]
   rw [cat_ok (by omega) (by rw [bsL_size]; simp)]
   exact next [92, 110] (by simp) (by unfold escB; rw [if_pos c1])
  ·have c1' : ¬ (s[i].toNat : Int) = 10 := by omega
   simp only [c1', decide_false, Bool.false_eq_true, if_false]
   by_cases c2 : s[i].toNat = 34 ∨ s[i].toNat = 92
   ·have c2' : (if decide ((s[i].toNat : Int) = 34) = true then true else decide ((s[i].toNat : Int) = 92)) = true := by
     rcases c2 with h | h <;> simp [h]
    simp only [c2', if_true]
    rw [cat_ok (by omega) (by rw [bsL_size]; simp)]
    simp only [Option.bind_some, O.add_int, hw, hsl]
    rw [cat_ok (by rw [ByteArray.size_append, bsL_size]; simp; omega) (by rw [bsL_size]; simp), ByteArray.append_assoc, ← bsL_append]
    exact next [92, s[i]] (by simp) (by unfold escB; rw [if_neg c1, if_pos c2])
   ·have c2' : (if decide ((s[i].toNat : Int) = 34) = true then true else decide ((s[i].toNat : Int) = 92)) = false := by
     have h1 : ¬ (s[i].toNat : Int) = 34 := by omega
     have h2 : ¬ (s[i].toNat : Int) = 92 := by omega
     simp [h1, h2]
    simp only [c2', Bool.false_eq_true, if_false, O.add_int, hw, Option.bind_some, hsl]
    rw [cat_ok (by omega) (by rw [bsL_size]; simp)]
    exact next [s[i]] (by simp) (by unfold escB; rw [if_neg c1, if_neg c2])
theorem ref_quote (s : ByteArray) (hs : s.size ≤ 200) : W F25 0 [.str s] = some [.str (quoteB s)] := by
 rw [e_F25_0, show (ByteArray.mk #[34]) = bsL [34] from rfl]
 rw [show (IV.int 0) = IV.int ((0 : Nat) : Int) from rfl, ref_quote_1 s hs s.size 0 _ (by omega) (by rw [bsL_size]; simp), ← bsL_append]
 rfl
theorem stepB_size {b : Bool} {x : Stp} (h : stepOk x = true) : (stepB b x).size ≤ 500 := by
 obtain ⟨h1, h2, _⟩ := stepOk_sizes h
 have hq := quoteB_size x.vl
 have hi := itoaB_size x.ix.toNat
 have e : ∀ c : UInt8, (bsL [c]).size = 1 := fun c => by rw [bsL_size]; rfl
 unfold stepB
 split
 ·simp only [ByteArray.size_append, e]; omega
 ·split
  ·simp only [ByteArray.size_append, e]; omega
  ·split
   ·omega
   ·simp only [ByteArray.size_append, e]; omega
theorem ref_print_1 (p : List Stp) (hp : ∀ s ∈ p, stepOk s = true) (hl : p.length ≤ 16) : ∀ (n i : Nat) (o : ByteArray), i + n = p.length → o.size ≤ 500 * i → W F18 1 [.list (p.map Stp.enc), .str o, .int i] = some [.str (o ++ stepsB (decide (i = 0)) (p.drop i)), .int 0]
 | 0, i, o, h, ho => by
  have h1 : ¬ i < p.length := by omega
  have h2 : p.drop i = [] := List.drop_of_length_le (by omega)
  rw [e_F18_1]
  simp only [O.len_list, List.length_map, Option.bind_some, O.lt_int, lt_cast, h1, decide_false, O.cnd_bool, Bool.false_eq_true, if_false, h2, stepsB, append_emptyB]
 | n + 1, i, o, h, ho => by
  have hi : i < p.length := by omega
  have hw := next64 (i := i) (by omega)
  have hok := hp _ (List.getElem_mem hi)
  obtain ⟨g1, g2, g3, g4, g5⟩ := stepOk_sizes hok
  have e : ∀ c : UInt8, (bsL [c]).size = 1 := fun c => by rw [bsL_size]; rfl
  have next : ∀ t : ByteArray, stepB (decide (i = 0)) p[i] = t → W F18 2 [.list (p.map Stp.enc), .str (o ++ t), .int i] = some [.str (o ++ stepsB (decide (i = 0)) (p.drop i)), .int 0] := by
   intro t ht
   have hz : (stepB (decide (i = 0)) p[i]).size ≤ 500 := stepB_size hok
   rw [e_F18_2]
   simp only [O.add_int, hw, Option.bind_some]
   rw [ref_print_1 p hp hl n (i + 1) (o ++ t) (by omega) (by rw [ByteArray.size_append, ← ht]; omega), List.drop_eq_getElem_cons hi, stepsB, ht, ByteArray.append_assoc]
   rfl
  rw [e_F18_1]
  simp only [O.len_list, List.length_map, Option.bind_some, O.lt_int, lt_cast, hi, decide_true, O.cnd_bool, if_true, O.index_list, Int.natCast_nonneg, Int.toNat_natCast, List.getElem?_map, List.getElem?_eq_getElem hi, Option.map_some, Stp.proj0, Stp.proj1, Stp.proj2, Stp.proj3, O.eq_int, O.gt_int]
  rw [show (ByteArray.mk #[91]) = bsL [91] from rfl, show (ByteArray.mk #[93]) = bsL [93] from rfl, show (ByteArray.mk #[61]) = bsL [61] from rfl, show (ByteArray.mk #[46]) = bsL [46] from rfl]
  by_cases k2 : p[i].k = 2
  ·have hd := ref_dec p[i].ix (g3 k2).1 (g3 k2).2
   have hd2 := itoaB_size p[i].ix.toNat
   simp only [k2, decide_true, if_true]
   rw [cat_ok (by omega) (by rw [e]; omega)]
   simp only [Option.bind_some, hd, O.calls_1]
   rw [cat_ok (by rw [ByteArray.size_append, e]; omega) (by omega)]
   simp only [Option.bind_some]
   rw [cat_ok (by rw [ByteArray.size_append, ByteArray.size_append, e]; omega) (by rw [e]; omega)]
   simp only [Option.bind_some, ByteArray.append_assoc]
   exact next _ (by unfold stepB; rw [if_pos k2, ByteArray.append_assoc])
  ·simp only [k2, decide_false, Bool.false_eq_true, if_false]
   by_cases k3 : p[i].k = 3
   ·have hd := ref_quote p[i].vl g2
    have hd2 := quoteB_size p[i].vl
    simp only [k3, decide_true, if_true]
    rw [cat_ok (by omega) (by rw [e]; omega)]
    simp only [Option.bind_some]
    rw [cat_ok (by rw [ByteArray.size_append, e]; omega) (by omega)]
    simp only [Option.bind_some]
    rw [cat_ok (by rw [ByteArray.size_append, ByteArray.size_append, e]; omega) (by rw [e]; omega)]
    simp only [Option.bind_some, hd, O.calls_1]
    rw [cat_ok (by rw [ByteArray.size_append, ByteArray.size_append, ByteArray.size_append, e, e]; omega) (by omega)]
    simp only [Option.bind_some]
    rw [cat_ok (by rw [ByteArray.size_append, ByteArray.size_append, ByteArray.size_append, ByteArray.size_append, e, e]; omega) (by rw [e]; omega)]
    simp only [Option.bind_some, ByteArray.append_assoc]
    exact next _ (by unfold stepB; rw [if_neg k2, if_pos k3]; simp only [ByteArray.append_assoc])
   ·simp only [k3, decide_false, Bool.false_eq_true, if_false]
    by_cases hz : i = 0
    ·have hz' : ¬ (0 : Int) < i := by omega
     have ho' : o = emptyB := by
      apply bytes_ext
      have : o.size = 0 := by omega
      have : o.data.toList.length = 0 := by simpa using this
      rw [List.length_eq_zero_iff.1 this]; rfl
     simp only [hz', decide_false, Bool.false_eq_true, if_false]
     have := next p[i].nm (by unfold stepB; rw [if_neg k2, if_neg k3, if_pos (by simpa using hz)])
     rw [ho', emptyB_append] at this
     rw [ho']
     exact this
    ·have hz' : (0 : Int) < i := by omega
     simp only [hz', decide_true, if_true]
     rw [cat_ok (by omega) (by rw [e]; omega)]
     simp only [Option.bind_some]
     rw [cat_ok (by rw [ByteArray.size_append, e]; omega) (by omega)]
     simp only [Option.bind_some, ByteArray.append_assoc]
     exact next _ (by unfold stepB; rw [if_neg k2, if_neg k3, if_neg (by simpa using hz)])
theorem ref_print (p : List Stp) (hp : ∀ s ∈ p, s.fits) (hl : p.length ≤ 1099511627776) : W F18 0 [.list (p.map Stp.enc)] = some [.str (printB p), .int (printE p)] := by
 rw [e_F18_0]
 unfold printB printE
 cases hb : pathOk p with
 | false => simp only [ref_pvalid p hp hl, hb, O.calls_1, O.not_bool, Option.bind_some, Bool.not_false, O.cnd_bool, if_true]; rfl
 | true =>
  simp only [ref_pvalid p hp hl, hb, O.calls_1, O.not_bool, Option.bind_some, Bool.not_true, O.cnd_bool, Bool.false_eq_true, if_false, if_true]
  unfold pathOk at hb
  simp only [Bool.and_eq_true, decide_eq_true_eq, List.all_eq_true] at hb
  have := ref_print_1 p hb.1 hb.2 p.length 0 emptyB (by omega) (Nat.le_refl _)
  rw [emptyB_append] at this
  exact this
end Go.CT.Sch
namespace Go.CT.Sch
open Go.Proofs
theorem pv_text_1 (s : ByteArray) (hs : s.size ≤ 1099511627776) : ∀ (n i : Nat), i + n = s.size → W F45 1 [.str s, .int s.size, .int i] = some [.bool ((s.data.toList.drop i).all okChar && decide (s.size ≤ 200))]
 | 0, i, h => by
  have h1 : ¬ i < s.size := by omega
  have h2 : s.data.toList.drop i = [] := List.drop_of_length_le (by simp; omega)
  rw [e_F45_1]
  simp only [O.slen_str, Option.bind_some, O.lt_int, lt_cast, h1, decide_false, O.cnd_bool, Bool.false_eq_true, if_false, O.le_int, h2, List.all_nil, Bool.true_and]
  congr 3
  rw [Bool.eq_iff_iff]
  simp
  omega
 | n + 1, i, h => by
  have hi : i < s.size := by omega
  have hw := next64 (i := i) (by omega)
  have ih := pv_text_1 s hs n (i + 1) (by omega)
  rw [e_F45_1, drop_get hi]
  have e1 : okChar s[i] = !(if (!decide ((s[i].toNat : Int) = 10)) = true then (if decide ((s[i].toNat : Int) < 32) = true then true else decide (126 < (s[i].toNat : Int))) else false) := by
   unfold okChar
   rw [Bool.eq_iff_iff]
   by_cases c1 : s[i].toNat = 10
   ·simp [c1]
   ·have c1' : ¬ (s[i].toNat : Int) = 10 := by omega
    by_cases c2 : s[i].toNat < 32
    ·have c2' : (s[i].toNat : Int) < 32 := by omega
     simp [c1, c1', c2, c2']; omega
    ·have c2' : ¬ (s[i].toNat : Int) < 32 := by omega
     simp [c1, c1', c2, c2']
     omega
  simp only [O.slen_str, Option.bind_some, O.lt_int, lt_cast, hi, decide_true, O.cnd_bool, if_true, O.sindex_str, Int.natCast_nonneg, Int.toNat_natCast, sget hi, Option.map_some, O.ne_int, O.gt_int, ite_some, ite_ivbool, O.add_int, hw, ih, List.all_cons, e1]
  generalize (if (!decide ((s[i].toNat : Int) = 10)) = true then (if decide ((s[i].toNat : Int) < 32) = true then true else decide (126 < (s[i].toNat : Int))) else false) = b
  cases b <;> simp
theorem pv_text (s : ByteArray) (hs : s.size ≤ 1099511627776) : W F45 0 [.str s] = some [.bool (okStr s)] := by
 rw [e_F45_0]
 simp only [O.slen_str, Option.bind_some]
 exact pv_text_1 s hs s.size 0 (by omega)
theorem pv_name_1 (s : ByteArray) (hs : s.size ≤ 1099511627776) : ∀ (n i : Nat), i + n = s.size → W F46 1 [.str s, .int s.size, .int i] = some [.bool ((s.data.toList.drop i).all okNameChar && decide (1 ≤ s.size ∧ s.size ≤ 40))]
 | 0, i, h => by
  have h1 : ¬ i < s.size := by omega
  have h2 : s.data.toList.drop i = [] := List.drop_of_length_le (by simp; omega)
  rw [e_F46_1]
  simp only [O.slen_str, Option.bind_some, O.lt_int, lt_cast, h1, decide_false, O.cnd_bool, Bool.false_eq_true, if_false, O.ge_int, O.le_int, ite_some, ite_ivbool, h2, List.all_nil, Bool.true_and]
  congr 3
  rw [Bool.eq_iff_iff]
  simp
  omega
 | n + 1, i, h => by
  have hi : i < s.size := by omega
  have hw := next64 (i := i) (by omega)
  have ih := pv_name_1 s hs n (i + 1) (by omega)
  rw [e_F46_1, drop_get hi]
  generalize hc : s[i] = c
  simp only [O.slen_str, Option.bind_some, O.lt_int, lt_cast, hi, decide_true, O.cnd_bool, if_true, O.sindex_str, Int.natCast_nonneg, Int.toNat_natCast, sget hi, hc, Option.map_some, O.ge_int, O.le_int, O.eq_int, ite_some, ite_ivbool, O.not_bool, O.add_int, hw, ih, List.all_cons]
  have e1 : okNameChar c = (if (if (if (if (if (if decide ((97 : Int) ≤ c.toNat) = true then decide ((c.toNat : Int) ≤ 122) else false) = true then true else if decide ((65 : Int) ≤ c.toNat) = true then decide ((c.toNat : Int) ≤ 90) else false) = true then true else if decide ((48 : Int) ≤ c.toNat) = true then decide ((c.toNat : Int) ≤ 57) else false) = true then true else decide ((c.toNat : Int) = 45)) = true then true else decide ((c.toNat : Int) = 95)) = true then true else decide ((c.toNat : Int) = 47)) := by
   unfold okNameChar
   rw [Bool.eq_iff_iff]
   simp
   omega
  rw [← e1]
  cases okNameChar c <;> simp
theorem pv_name (s : ByteArray) (hs : s.size ≤ 1099511627776) : W F46 0 [.str s] = some [.bool (okName s)] := by
 rw [e_F46_0]
 simp only [O.slen_str, Option.bind_some]
 exact pv_name_1 s hs s.size 0 (by omega)
theorem pv_scalar (v : Val) (hv : v.mass ≤ 1099511627776) : W F44 0 [v.enc] = some [.bool (okScalar v)] := by
 have hs := v.mass_s
 rw [e_F44_0]
 unfold okScalar
 simp only [Val.proj0, Option.bind_some, O.eq_int, O.cnd_bool]
 by_cases c1 : v.k = 1
 ·by_cases a1 : v.s = emptyB <;> by_cases a2 : v.n = 0 <;> simp [c1, a1, a2, emptyB_eq]
 by_cases c2 : v.k = 2
 ·by_cases a1 : -1000000000000000 ≤ v.n <;> by_cases a2 : v.n ≤ 1000000000000000 <;> by_cases a3 : v.s = emptyB <;> simp [c2, a1, a2, a3, emptyB_eq]
 by_cases c3 : v.k = 3
 ·by_cases a1 : v.n = 0 <;> simp [c3, a1, pv_text v.s (by omega)]
 by_cases c4 : v.k = 0
 ·by_cases a1 : v.n = 0 <;> simp [c4, e_F44_1, a1, emptyB_eq]
 by_cases c5 : v.k = 4
 ·by_cases a1 : v.n = 0 <;> simp [c5, e_F44_1, a1, emptyB_eq]
 by_cases c6 : v.k = 5
 ·by_cases a1 : v.n = 0 <;> simp [c6, e_F44_1, a1, emptyB_eq]
 simp [c1, c2, c3, c4, c5, c6, e_F44_1]
theorem pv_valid_2 (d : Nat) (v : Val) (hd : d ≤ 12) (hv : v.mass ≤ 1099511627776) (ih : ∀ p ∈ v.f, W F43 0 [p.2.enc, .int d] = some [.bool (validD d p.2)]) : ∀ (n i : Nat), i + n = v.f.length →
  W F43 2 [.int ((d + 1 : Nat) : Int), .list (v.f.map Fld.enc), .int v.f.length, .int i, v.enc] = some [.bool (frOk d (prevName v.f i) (v.f.drop i))]
 | 0, i, h => by
  rw [e_F43_2]
  have h1 : ¬ i < v.f.length := by omega
  simp [h1, List.drop_of_length_le (Nat.le_of_not_lt h1), frOk]
 | n + 1, i, h => by
  have hi : i < v.f.length := by omega
  have hm := v.mass_len_f
  have hw := next64 (i := i) (by omega)
  have hd1 : IntKind.i64.wrap (((d + 1 : Nat) : Int) - 1) = d := by rw [wrap64 (by omega) (by omega)]; omega
  have := pv_valid_2 d v hd hv ih n (i + 1) (by omega)
  have hmem := List.getElem_mem hi
  have hmass := Val.mass_f hmem
  have hpn : prevName v.f (i + 1) = some v.f[i].1 := by simp [prevName, hi]
  rw [hpn] at this
  rw [e_F43_2, List.drop_eq_getElem_cons hi, frOk_cons]
  simp only [Val.proj4, Option.bind_some, O.lt_int, lt_cast, hi, decide_true, O.cnd_bool, if_true, O.index_list, Int.natCast_nonneg, Int.toNat_natCast, List.getElem?_map, List.getElem?_eq_getElem hi, Option.map_some, Fld.proj0, Fld.projV, pv_name v.f[i].1 (by omega), O.sub_int, hd1, ih _ hmem, O.calls_1, O.not_bool, O.gt_int, O.add_int, hw, this]
  cases i with
  | zero =>
   simp only [prevName]
   cases okName v.f[0].1 <;> cases validD d v.f[0].2 <;> simp
  | succ i =>
   have hi' : i < v.f.length := by omega
   have hw2 : IntKind.i64.wrap (((i + 1 : Nat) : Int) - 1) = i := by rw [wrap64 (by omega) (by omega)]; omega
   have hp : (0 : Int) < ((i + 1 : Nat) : Int) := by omega
   simp only [prevName, List.getElem?_eq_getElem hi', Option.map_some, hw2, hp, decide_true, if_true, Int.natCast_nonneg, Int.toNat_natCast, Option.bind_some, Fld.proj0, sGe_blt]
   cases okName v.f[i + 1].1 <;> cases validD d v.f[i + 1].2 <;> cases blt v.f[i].1 v.f[i + 1].1 <;> simp
theorem pv_valid_1 (d : Nat) (v : Val) (hd : d ≤ 12) (hv : v.mass ≤ 1099511627776) (ih : ∀ x ∈ v.l, W F43 0 [x.enc, .int d] = some [.bool (validD d x)]) : ∀ (n i : Nat), i + n = v.l.length →
  W F43 1 [.int ((d + 1 : Nat) : Int), .list (v.l.map Val.enc), .int v.l.length, .int i, v.enc] = if (v.l.drop i).all (validD d) = true then W F43 2 [.int ((d + 1 : Nat) : Int), .list (v.f.map Fld.enc), .int v.f.length, .int 0, v.enc] else some [.bool false]
 | 0, i, h => by
  rw [e_F43_1]
  have h1 : ¬ i < v.l.length := by omega
  simp [h1, List.drop_of_length_le (Nat.le_of_not_lt h1)]
 | n + 1, i, h => by
  have hi : i < v.l.length := by omega
  have hm := v.mass_len_l
  have hw := next64 (i := i) (by omega)
  have hd1 : IntKind.i64.wrap (((d + 1 : Nat) : Int) - 1) = d := by rw [wrap64 (by omega) (by omega)]; omega
  have := pv_valid_1 d v hd hv ih n (i + 1) (by omega)
  rw [e_F43_1, List.drop_eq_getElem_cons hi]
  simp only [Option.bind_some, O.lt_int, lt_cast, hi, decide_true, O.cnd_bool, if_true, O.index_list, Int.natCast_nonneg, Int.toNat_natCast, List.getElem?_map, List.getElem?_eq_getElem hi, Option.map_some, O.sub_int, hd1, ih _ (List.getElem_mem hi), O.calls_1, O.not_bool, O.add_int, hw, this, List.all_cons]
  by_cases c : validD d v.l[i] = true <;> simp [c]
theorem pv_valid : ∀ (d : Nat) (v : Val), d ≤ 12 → v.mass ≤ 1099511627776 → W F43 0 [v.enc, .int d] = some [.bool (validD d v)]
 | 0, v, _, _ => by
  rw [e_F43_0]
  simp [validD]
 | d + 1, v, hd, hv => by
  have h1 := pv_valid_1 d v (by omega) hv (fun x hx => pv_valid d x (by omega) (by have := Val.mass_l hx; omega)) v.l.length 0 (by omega)
  have h2 := pv_valid_2 d v (by omega) hv (fun p hp => pv_valid d p.2 (by omega) (by have := Val.mass_f hp; omega)) v.f.length 0 (by omega)
  have hm1 := v.mass_len_l
  have hm2 := v.mass_len_f
  have hd0 : ¬ ((d + 1 : Nat) : Int) = 0 := by omega
  simp only [List.drop_zero, Int.cast_ofNat_Int] at h1 h2
  have e1 : decide ((0 : Int) < (v.l.length : Int)) = !decide (v.l = []) := by cases v.l <;> simp
  have e2 : decide ((0 : Int) < (v.f.length : Int)) = !decide (v.f = []) := by cases v.f <;> simp
  have e3 : decide ((64 : Int) < (v.l.length : Int)) = !decide (v.l.length ≤ 64) := by rw [Bool.eq_iff_iff]; simp; omega
  have e4 : decide ((64 : Int) < (v.f.length : Int)) = !decide (v.f.length ≤ 64) := by rw [Bool.eq_iff_iff]; simp; omega
  rw [e_F43_0]
  simp only [O.eq_int, hd0, decide_false, Option.bind_some, O.cnd_bool, Bool.false_eq_true, if_false, pv_scalar v hv, O.calls_1, O.not_bool, ite_some, ite_ivbool, Val.proj0, Val.proj3, Val.proj4, O.ne_int, O.len_list, List.length_map, O.gt_int, e1, e2, e3, e4, h1, h2]
  unfold validD
  have hpn : prevName v.f 0 = none := rfl
  rw [hpn, frOk_none]
  generalize v.l.all (validD d) = A at *
  generalize (v.f.all fun p => okName p.1 && validD d p.2) = B at *
  generalize rising v.f = C at *
  generalize okScalar v = D
  clear h1 h2
  have p4 : (if (!decide (v.k = 4)) = true then !decide (v.l = []) else false) = !decide (v.k ≠ 4 → v.l = []) := by by_cases c : v.k = 4 <;> simp [c]
  have p5 : (if (!decide (v.k = 5)) = true then !decide (v.f = []) else false) = !decide (v.k ≠ 5 → v.f = []) := by by_cases c : v.k = 5 <;> simp [c]
  rw [p4, p5, show decide (v.l.length ≤ 64 ∧ v.f.length ≤ 64 ∧ (v.k ≠ 4 → v.l = []) ∧ (v.k ≠ 5 → v.f = [])) = (decide (v.l.length ≤ 64) && (decide (v.f.length ≤ 64) && (decide (v.k ≠ 4 → v.l = []) && decide (v.k ≠ 5 → v.f = [])))) by simp only [Bool.decide_and]]
  generalize decide (v.l.length ≤ 64) = b1
  generalize decide (v.f.length ≤ 64) = b2
  generalize decide (v.k ≠ 4 → v.l = []) = b3
  generalize decide (v.k ≠ 5 → v.f = []) = b4
  cases D <;> cases b1 <;> cases b2 <;> cases b3 <;> cases b4 <;> cases A <;> cases B <;> cases C <;> rfl
theorem pv_size_2 (v : Val) (hv : v.mass ≤ 1099511627776) (ih : ∀ p ∈ v.f, W F47 0 [p.2.enc] = some [.int p.2.size]) : ∀ (n i c : Nat), i + n = v.f.length → c + sizeFs (v.f.drop i) ≤ 4611686018427387904 →
  W F47 2 [.int c, .list (v.f.map Fld.enc), .int v.f.length, .int i] = some [.int ((c + sizeFs (v.f.drop i) : Nat) : Int)]
 | 0, i, c, h, hc => by
  rw [e_F47_2]
  have h1 : ¬ i < v.f.length := by omega
  simp [h1, List.drop_of_length_le (Nat.le_of_not_lt h1), sizeFs]
 | n + 1, i, c, h, hc => by
  have hi : i < v.f.length := by omega
  have hm := v.mass_len_f
  have hw := next64 (i := i) (by omega)
  have hd : sizeFs (v.f.drop i) = v.f[i].2.size + sizeFs (v.f.drop (i + 1)) := by rw [List.drop_eq_getElem_cons hi]; rfl
  have hw2 : IntKind.i64.wrap ((c : Int) + (v.f[i].2.size : Int)) = ((c + v.f[i].2.size : Nat) : Int) := by rw [wrap64 (by omega) (by omega)]; rfl
  rw [e_F47_2]
  simp only [Option.bind_some, O.lt_int, lt_cast, hi, decide_true, O.cnd_bool, if_true, O.index_list, Int.natCast_nonneg, Int.toNat_natCast, List.getElem?_map, List.getElem?_eq_getElem hi, Option.map_some, Fld.projV, ih _ (List.getElem_mem hi), O.calls_1, O.add_int, hw, hw2]
  rw [pv_size_2 v hv ih n (i + 1) _ (by omega) (by omega), hd, Nat.add_assoc]
theorem pv_size_1 (v : Val) (hv : v.mass ≤ 1099511627776) (ih : ∀ x ∈ v.l, W F47 0 [x.enc] = some [.int x.size]) : ∀ (n i c : Nat), i + n = v.l.length → c + sizeVs (v.l.drop i) ≤ 4611686018427387904 →
  W F47 1 [.int c, .list (v.l.map Val.enc), .int v.l.length, .int i, v.enc] = W F47 2 [.int ((c + sizeVs (v.l.drop i) : Nat) : Int), .list (v.f.map Fld.enc), .int v.f.length, .int 0]
 | 0, i, c, h, hc => by
  rw [e_F47_1]
  have h1 : ¬ i < v.l.length := by omega
  simp [h1, List.drop_of_length_le (Nat.le_of_not_lt h1), sizeVs]
 | n + 1, i, c, h, hc => by
  have hi : i < v.l.length := by omega
  have hm := v.mass_len_l
  have hw := next64 (i := i) (by omega)
  have hd : sizeVs (v.l.drop i) = v.l[i].size + sizeVs (v.l.drop (i + 1)) := by rw [List.drop_eq_getElem_cons hi]; rfl
  have hw2 : IntKind.i64.wrap ((c : Int) + (v.l[i].size : Int)) = ((c + v.l[i].size : Nat) : Int) := by rw [wrap64 (by omega) (by omega)]; rfl
  rw [e_F47_1]
  simp only [Option.bind_some, O.lt_int, lt_cast, hi, decide_true, O.cnd_bool, if_true, O.index_list, Int.natCast_nonneg, Int.toNat_natCast, List.getElem?_map, List.getElem?_eq_getElem hi, Option.map_some, ih _ (List.getElem_mem hi), O.calls_1, O.add_int, hw, hw2]
  rw [pv_size_1 v hv ih n (i + 1) _ (by omega) (by omega), hd, Nat.add_assoc]
theorem pv_size : ∀ v : Val, v.mass ≤ 1099511627776 → W F47 0 [v.enc] = some [.int v.size] := by
 refine Val.ind fun v ih1 ih2 hv => ?_
 have hsz := v.size_mass
 have hs := v.size_eq
 have h1 := pv_size_1 v hv (fun x hx => ih1 x hx (by have := Val.mass_l hx; omega)) v.l.length 0 1 (by omega) (by simp only [List.drop_zero]; omega)
 have h2 := pv_size_2 v hv (fun p hp => ih2 p hp (by have := Val.mass_f hp; omega)) v.f.length 0 (1 + sizeVs v.l) (by omega) (by simp only [List.drop_zero]; omega)
 simp only [List.drop_zero, Int.cast_ofNat_Int] at h1 h2
 rw [e_F47_0]
 simp only [Val.proj3, Option.bind_some, O.len_list, List.length_map]
 have h1' : W F47 1 [.int 1, .list (v.l.map Val.enc), .int v.l.length, .int 0, v.enc] = W F47 2 [.int ((1 + sizeVs v.l : Nat) : Int), .list (v.f.map Fld.enc), .int v.f.length, .int 0] := h1
 rw [h1', h2, hs]
theorem pv_Valid (v : Val) (hv : v.mass ≤ 1099511627776) : W F42 0 [v.enc] = some [.bool v.valid] := by
 rw [e_F42_0]
 have h1 := pv_valid 12 v (by omega) hv
 have h2 := pv_size v hv
 simp only [Int.cast_ofNat_Int] at h1
 simp only [h1, h2, O.calls_1, O.cnd_bool, O.le_int, Option.bind_some, Val.valid]
 have : decide ((v.size : Int) ≤ 600) = decide (v.size ≤ 600) := by simp; omega
 cases validD 12 v <;> simp [this]
end Go.CT.Sch
namespace Go.CT.Sch
open Go.Proofs
def nmR (r : Int) : Bool := decide (97 ≤ r ∧ r ≤ 122) || decide (65 ≤ r ∧ r ≤ 90) || decide (48 ≤ r ∧ r ≤ 57) || decide (r = 45) || decide (r = 95) || decide (r = 47)
theorem pp_rune (r : Int) : W F81 0 [.int r] = some [.bool (nmR r)] := by
 rw [e_F81_0]
 simp only [O.ge_int, O.le_int, O.eq_int, Option.bind_some, O.cnd_bool, ite_some, ite_ivbool]
 congr 3
 unfold nmR
 rw [Bool.eq_iff_iff]
 simp
theorem nmR_char (c : UInt8) : nmR c.toNat = okNameChar c := by
 unfold nmR okNameChar
 rw [Bool.eq_iff_iff]
 simp
 omega
theorem nmR_high {r : Int} (h : 128 ≤ r) : nmR r = false := by
 unfold nmR
 simp
 omega
theorem char_high {c : UInt8} (h : 128 ≤ c.toNat) : okNameChar c = false := by
 rw [← nmR_char]; exact nmR_high (by omega)
theorem pp_name_1 (s : ByteArray) (hs : s.size ≤ 1099511627776) : ∀ (n i : Nat), i + n = s.size → W F80 1 [.str s, .str s, .int i] = some [.bool ((s.data.toList.drop i).all okNameChar && decide (1 ≤ s.size ∧ s.size ≤ 40))]
 | 0, i, h => by
  have h1 : ¬ i < s.size := by omega
  have h2 : s.data.toList.drop i = [] := List.drop_of_length_le (by simp; omega)
  rw [e_F80_1]
  simp only [O.iterOk_out h1, O.runeAt_out h1, O.iterNext_out h1, Option.bind_some, O.cnd_bool, Bool.false_eq_true, if_false, O.sNe_str, O.slen_str, O.le_int, ite_some, ite_ivbool, h2, List.all_nil, Bool.true_and]
  congr 3
  have e : s = (⟨#[]⟩ : ByteArray) ↔ s.size = 0 := by
   constructor
   ·rintro rfl; rfl
   ·intro h0
    apply bytes_ext
    have : s.data.toList.length = 0 := by simpa using h0
    rw [List.length_eq_zero_iff.1 this]
  by_cases c : s.size = 0
  ·simp [e, c]
  ·have c1 : 1 ≤ s.size := by omega
   rw [Bool.eq_iff_iff]
   simp [e, c, c1]
   omega
 | n + 1, i, h => by
  have hi : i < s.size := by omega
  rw [e_F80_1, drop_get hi]
  simp only [O.iterOk_in hi, O.runeAt_in hi, O.iterNext_in hi, Option.bind_some, O.cnd_bool, if_true, O.need_true, pp_rune, O.calls_1, O.not_bool, List.all_cons]
  by_cases hb : s[i].toNat < 128
  ·have ih := pp_name_1 s hs n (i + 1) (by omega)
   rw [decode_low hi hb]
   simp only [nmR_char]
   cases okNameChar s[i] with
   | true => simpa using ih
   | false => simp
  ·have hd := decode_high hi (by omega)
   rw [nmR_high (by omega), char_high (by omega)]
   simp
theorem pp_name (s : ByteArray) (hs : s.size ≤ 1099511627776) : W F80 0 [.str s] = some [.bool (okName s)] := by
 rw [e_F80_0]; exact pp_name_1 s hs s.size 0 (by omega)
theorem str_valid (s : ByteArray) : (Val.mk 3 0 s [] []).valid = okStr s := by
 unfold Val.valid validD
 simp [okScalar, rising, Val.size, sizeVs, sizeFs]
theorem pp_step (s : Stp) (hs : s.fits) : W F79 0 [s.enc] = some [.bool (stepOk s)] := by
 have h1 := pp_name s.nm (Nat.le_trans hs.1 (by decide))
 have h2 := pv_Valid ⟨3, 0, s.vl, [], []⟩ (by
  have := hs.2
  rw [Val.mass_eq]; simp [massVs_nil, massFs_nil]; omega)
 rw [str_valid] at h2
 have e : IV.agg [.int 3, .int 0, .str s.vl, .list [], .list []] = Val.enc ⟨3, 0, s.vl, [], []⟩ := rfl
 rw [e_F79_0]
 simp only [Stp.proj0, Stp.proj1, Stp.proj2, Stp.proj3, Option.bind_some, O.eq_int, O.cnd_bool, h1, O.calls_1, O.ge_int, O.le_int, O.sEq_str, ite_some, ite_ivbool, emptyB_eq, e_F41_0, O.calls_5, O.mkagg_eq, e, h2]
 unfold stepOk
 by_cases k1 : s.k = 1
 ·simp only [k1, decide_true, if_true]
  cases okName s.nm <;> simp
 ·by_cases k2 : s.k = 2
  ·simp only [k2, decide_true, decide_false, Bool.false_eq_true, if_true, if_false]
   by_cases e1 : 0 ≤ s.ix <;> by_cases e2 : s.ix ≤ 64 <;> by_cases e3 : s.nm = emptyB <;> simp [e1, e2, e3]
  ·simp only [k1, k2, decide_false, Bool.false_eq_true, if_false]
   by_cases k3 : s.k = 3
   ·simp only [k3, decide_true, if_true]
    cases okName s.nm <;> cases okStr s.vl <;> simp
   ·simp [k3]
theorem pp_index (p : List Stp) (hp : ∀ s ∈ p, s.fits) (hl : p.length ≤ 1099511627776) : ∀ (n i : Nat), i + n = p.length →
  ∃ r : Int, W F77 1 [.list (p.map Stp.enc), .int p.length, .int i] = some [.int r] ∧ decide (0 ≤ r) = !(p.drop i).all stepOk
 | 0, i, h => by
  have h1 : ¬ i < p.length := by omega
  have h2 : p.drop i = [] := List.drop_of_length_le (by omega)
  rw [e_F77_1]
  simp only [O.lt_int, lt_cast, h1, decide_false, Option.bind_some, O.cnd_bool, Bool.false_eq_true, if_false, h2]
  exact ⟨-1, rfl, rfl⟩
 | n + 1, i, h => by
  have hi : i < p.length := by omega
  have hw := next64 (i := i) (by omega)
  obtain ⟨r, hr, hr2⟩ := pp_index p hp hl n (i + 1) (by omega)
  rw [e_F77_1, List.drop_eq_getElem_cons hi]
  simp only [O.lt_int, lt_cast, hi, decide_true, Option.bind_some, O.cnd_bool, if_true, O.index_list, Int.natCast_nonneg, Int.toNat_natCast, List.getElem?_map, List.getElem?_eq_getElem hi, Option.map_some, e_F78_0, pp_step _ (hp _ (List.getElem_mem hi)), O.calls_1, O.not_bool, O.add_int, hw, hr, List.all_cons]
  cases stepOk p[i] with
  | true => exact ⟨r, by simp, by simpa using hr2⟩
  | false => exact ⟨i, by simp, by simp⟩
theorem pp_valid (p : List Stp) (hp : ∀ s ∈ p, s.fits) (hl : p.length ≤ 1099511627776) : W F75 0 [.list (p.map Stp.enc)] = some [.bool (pathOk p)] := by
 obtain ⟨r, hr, hr2⟩ := pp_index p hp hl p.length 0 (by omega)
 have hr' : W F77 0 [.list (p.map Stp.enc)] = some [.int r] := by
  rw [e_F77_0]
  simp only [O.len_list, List.length_map, Option.bind_some]
  exact hr
 rw [e_F75_0]
 simp only [O.len_list, List.length_map, Option.bind_some, O.le_int, O.cnd_bool, e_F76_0, hr', O.calls_1, O.ge_int, hr2, O.not_bool, List.drop_zero, Bool.not_not]
 unfold pathOk
 have : decide ((p.length : Int) ≤ 16) = decide (p.length ≤ 16) := by simp; omega
 rw [this]
 by_cases c : p.length ≤ 16 <;> simp [c]
theorem bld_byte (s : ByteArray) (c : UInt8) (hs : s.size ≤ 1000000) : W F82 0 [.list (bytesIV s), .int c.toNat] = some [.list (bytesIV (s ++ bsL [c]))] := by
 rw [e_F82_0]
 have h : ((bytesIV s).length + [IV.int (c.toNat : Int)].length) * 1 ≤ maxBytes := by rw [O.bytesIV_length]; simp; unfold maxBytes; omega
 simp only [e_F83, O.copyCheckF_list, O.calls_1, O.mklist_eq, Option.bind_some, O.append_list, h, if_true, O.bytesIV_append]
 rfl
theorem bld_str (s t : ByteArray) (hs : s.size ≤ 1000000) (ht : t.size ≤ 1000000) : ∃ n, W F85 0 [.list (bytesIV s), .str t] = some [n, .list (bytesIV (s ++ t))] := by
 rw [e_F85_0]
 have h : (bytesIV s).length + t.size ≤ maxBytes := by rw [O.bytesIV_length]; unfold maxBytes; omega
 simp only [e_F83, O.copyCheckF_list, O.calls_1, O.appendS_str h, Option.bind_some, O.slen_str, O.bytesIV_append]
 exact ⟨_, rfl⟩
theorem bld_rune (s : ByteArray) (c : UInt8) (hc : c.toNat < 128) (hs : s.size ≤ 1000000) : ∃ n, W F88 0 [.list (bytesIV s), .int c.toNat] = some [n, .list (bytesIV (s ++ bsL [c]))] := by
 rw [e_F88_0]
 have h : ((bytesIV s).length + [IV.int (c.toNat : Int)].length) * 1 ≤ maxBytes := by rw [O.bytesIV_length]; simp; unfold maxBytes; omega
 have w1 : IntKind.u32.wrap (c.toNat : Int) = c.toNat := by
  unfold IntKind.wrap
  simp [IntKind.signed, IntKind.bits]
  omega
 have w2 : IntKind.u8.wrap (c.toNat : Int) = c.toNat := by
  unfold IntKind.wrap
  simp [IntKind.signed, IntKind.bits]
  omega
 have w3 : decide ((c.toNat : Int) ≤ 127) = true := by simp; omega
 simp only [e_F83, O.copyCheckF_list, O.calls_1, O.len_list, Option.bind_some, e_F89_0, O.conv_int, w1, w2, O.le_int, w3, O.cnd_bool, if_true, O.mklist_eq, O.append_list, h, O.bytesIV_append, O.sub_int]
 exact ⟨_, rfl⟩
theorem okChar_low {c : UInt8} (h : okChar c = true) : c.toNat < 128 := by
 unfold okChar at h
 simp at h
 omega
theorem pp_quote_1 (s : ByteArray) (hs : s.size ≤ 200) (ho : ∀ c ∈ s.data.toList, okChar c = true) : ∀ (n i : Nat) (o : ByteArray), i + n = s.size → o.size ≤ 1 + 2 * i → W F86 1 [.str s, .int i, .list (bytesIV o)] = some [.str (o ++ bsL ((s.data.toList.drop i).flatMap escB ++ [34]))]
 | 0, i, o, h, ho' => by
  have h1 : ¬ i < s.size := by omega
  have h2 : s.data.toList.drop i = [] := List.drop_of_length_le (by simp; omega)
  have hb := bld_byte o 34 (by omega)
  rw [e_F86_1]
  simp only [O.iterOk_out h1, O.runeAt_out h1, O.iterNext_out h1, Option.bind_some, O.cnd_bool, Bool.false_eq_true, if_false]
  rw [show (IV.int 34) = IV.int ((34 : UInt8).toNat : Int) from rfl, hb]
  simp only [O.calls_1, e_F87, O.stringF_bytes, h2, List.flatMap_nil, List.nil_append]
 | n + 1, i, o, h, ho' => by
  have hi : i < s.size := by omega
  have hc := ho s[i] (by rw [show s[i] = s.data.toList[i]'(by simpa using hi) from rfl]; exact List.getElem_mem _)
  have hlow := okChar_low hc
  have next : ∀ a : List UInt8, a.length ≤ 2 → escB s[i] = a → W F86 3 [.str s, .int ((i + 1 : Nat) : Int), .list (bytesIV (o ++ bsL a))] = some [.str (o ++ bsL ((s.data.toList.drop i).flatMap escB ++ [34]))] := by
   intro a ha he
   rw [e_F86_3]
   rw [pp_quote_1 s hs ho n (i + 1) _ (by omega) (by rw [ByteArray.size_append, bsL_size]; omega), drop_get hi, List.flatMap_cons, he, List.append_assoc, bsL_append a, ByteArray.append_assoc]
  rw [e_F86_1]
  simp only [O.iterOk_in hi, O.runeAt_in hi, O.iterNext_in hi, decode_low hi hlow, Option.bind_some, O.cnd_bool, if_true, O.need_true, O.eq_int]
  have two : s[i].toNat = 34 ∨ s[i].toNat = 92 → W F86 2 [.int s[i].toNat, .int s[i].toNat, .bool true, .str s, .int ((i + 1 : Nat) : Int), .list (bytesIV o)] = some [.str (o ++ bsL ((s.data.toList.drop i).flatMap escB ++ [34]))] := by
   intro h2
   rw [e_F86_2]
   have hb := bld_byte o 92 (by omega)
   obtain ⟨m, hr⟩ := bld_rune (o ++ bsL [92]) s[i] hlow (by rw [ByteArray.size_append, bsL_size]; simp; omega)
   simp only [O.cnd_bool, if_true]
   rw [show (IV.int 92) = IV.int ((92 : UInt8).toNat : Int) from rfl, hb]
   simp only [O.calls_1, hr, O.calls_2]
   rw [ByteArray.append_assoc, ← bsL_append]
   exact next [92, s[i]] (by simp) (by unfold escB; rw [if_neg (by omega), if_pos h2])
  by_cases c1 : s[i].toNat = 34
  ·have c1' : decide ((s[i].toNat : Int) = 34) = true := by simp; omega
   simp only [c1', if_true]
   exact two (.inl c1)
  ·have c1' : decide ((s[i].toNat : Int) = 34) = false := by simp; omega
   simp only [c1', Bool.false_eq_true, if_false]
   by_cases c2 : s[i].toNat = 92
   ·have c2' : decide ((s[i].toNat : Int) = 92) = true := by simp; omega
    simp only [c2']
    exact two (.inr c2)
   ·have c2' : decide ((s[i].toNat : Int) = 92) = false := by simp; omega
    simp only [c2']
    rw [e_F86_2]
    simp only [O.cnd_bool, Bool.false_eq_true, if_false, O.eq_int, Option.bind_some]
    by_cases c3 : s[i].toNat = 10
    ·have c3' : decide ((s[i].toNat : Int) = 10) = true := by simp; omega
     simp only [c3', if_true]
     obtain ⟨m, hr⟩ := bld_str o (bsL [92, 110]) (by omega) (by rw [bsL_size]; simp)
     rw [show (ByteArray.mk #[92, 110]) = bsL [92, 110] from rfl]
     simp only [hr, O.calls_2]
     exact next [92, 110] (by simp) (by unfold escB; rw [if_pos c3])
    ·have c3' : decide ((s[i].toNat : Int) = 10) = false := by simp; omega
     simp only [c3', Bool.false_eq_true, if_false]
     obtain ⟨m, hr⟩ := bld_rune o s[i] hlow (by omega)
     simp only [hr, O.calls_2]
     exact next [s[i]] (by simp) (by unfold escB; rw [if_neg c3, if_neg (by omega)])
theorem pp_quote (s : ByteArray) (h : okStr s = true) : W F86 0 [.str s] = some [.str (quoteB s)] := by
 have hs := okStr_size h
 unfold okStr at h
 simp only [Bool.and_eq_true, List.all_eq_true] at h
 rw [e_F86_0]
 have hb := bld_byte emptyB 34 (by decide)
 rw [show (IV.list []) = IV.list (bytesIV emptyB) from rfl, show (IV.int 34) = IV.int ((34 : UInt8).toNat : Int) from rfl, hb]
 simp only [O.calls_1, emptyB_append]
 rw [show (IV.int 0) = IV.int ((0 : Nat) : Int) from rfl, pp_quote_1 s hs h.1 s.size 0 _ (by omega) (by rw [bsL_size]; simp), ← bsL_append]
 rfl
theorem pp_print_1 (p : List Stp) (hp : ∀ s ∈ p, stepOk s = true) (hl : p.length ≤ 16) : ∀ (n i : Nat) (o : ByteArray), i + n = p.length → o.size ≤ 500 * i → W F74 1 [.list (p.map Stp.enc), .int p.length, .int i, .list (bytesIV o)] = some [.str (o ++ stepsB (decide (i = 0)) (p.drop i)), .int 0]
 | 0, i, o, h, ho => by
  have h1 : ¬ i < p.length := by omega
  have h2 : p.drop i = [] := List.drop_of_length_le (by omega)
  rw [e_F74_1]
  simp only [Option.bind_some, O.lt_int, lt_cast, h1, decide_false, O.cnd_bool, Bool.false_eq_true, if_false, h2, stepsB, append_emptyB, e_F87, O.stringF_bytes, O.calls_1]
 | n + 1, i, o, h, ho => by
  have hi : i < p.length := by omega
  have hw := next64 (i := i) (by omega)
  have hok := hp _ (List.getElem_mem hi)
  obtain ⟨g1, g2, g3, g4, g5⟩ := stepOk_sizes hok
  have e : ∀ c : UInt8, (bsL [c]).size = 1 := fun c => by rw [bsL_size]; rfl
  have next : ∀ t : ByteArray, stepB (decide (i = 0)) p[i] = t → W F74 3 [.list (p.map Stp.enc), .int p.length, .int i, .list (bytesIV (o ++ t))] = some [.str (o ++ stepsB (decide (i = 0)) (p.drop i)), .int 0] := by
   intro t ht
   have hz : (stepB (decide (i = 0)) p[i]).size ≤ 500 := stepB_size hok
   rw [e_F74_3]
   simp only [O.add_int, hw, Option.bind_some]
   rw [pp_print_1 p hp hl n (i + 1) (o ++ t) (by omega) (by rw [ByteArray.size_append, ← ht]; omega), List.drop_eq_getElem_cons hi, stepsB, ht, ByteArray.append_assoc]
   rfl
  rw [e_F74_1]
  simp only [Option.bind_some, O.lt_int, lt_cast, hi, decide_true, O.cnd_bool, if_true, O.index_list, Int.natCast_nonneg, Int.toNat_natCast, List.getElem?_map, List.getElem?_eq_getElem hi, Option.map_some, Stp.proj0, Stp.proj1, Stp.proj2, Stp.proj3, O.eq_int, O.gt_int]
  rw [show (ByteArray.mk #[91]) = bsL [91] from rfl, show (ByteArray.mk #[93]) = bsL [93] from rfl, show (ByteArray.mk #[61]) = bsL [61] from rfl, show (IV.int 46) = IV.int ((46 : UInt8).toNat : Int) from rfl]
  rcases g5 with k1 | k2 | k3
  ·simp only [k1, decide_true, if_true]
   by_cases hz : i = 0
   ·have hz' : ¬ (0 : Int) < i := by omega
    obtain ⟨m, hr⟩ := bld_str o p[i].nm (by omega) (by omega)
    simp only [hz', decide_false, Bool.false_eq_true, if_false]
    rw [e_F74_2]
    simp only [Stp.proj1, Option.bind_some, hr, O.calls_2]
    exact next _ (by unfold stepB; rw [if_neg (by omega), if_neg (by omega), if_pos (by simpa using hz)])
   ·have hz' : (0 : Int) < i := by omega
    obtain ⟨m, hr⟩ := bld_str (o ++ bsL [46]) p[i].nm (by rw [ByteArray.size_append, e]; omega) (by omega)
    simp only [hz', decide_true, if_true, bld_byte o 46 (by omega), O.calls_1]
    rw [e_F74_2]
    simp only [Stp.proj1, Option.bind_some, hr, O.calls_2, ByteArray.append_assoc]
    exact next _ (by unfold stepB; rw [if_neg (by omega), if_neg (by omega), if_neg (by simpa using hz)])
  ·obtain ⟨x, hx⟩ := Int.eq_ofNat_of_zero_le (g3 k2).1
   have hx2 := (g3 k2).2
   rw [hx] at hx2
   have hd : W F84 0 [.int p[i].ix] = some [.str (O.itoaB p[i].ix.toNat)] := by
    rw [e_F84, hx, O.itoa_fun x (by omega)]; rfl
   have hd2 := itoaB_size p[i].ix.toNat
   have k1 : decide (p[i].k = 1) = false := by rw [k2]; rfl
   simp only [k1, k2, decide_true, Bool.false_eq_true, if_false, if_true, hd, O.calls_1]
   rw [cat_ok (by rw [e]; omega) (by omega)]
   simp only [Option.bind_some]
   rw [cat_ok (by rw [ByteArray.size_append, e]; omega) (by rw [e]; omega)]
   obtain ⟨m, hr⟩ := bld_str o (bsL [91] ++ O.itoaB p[i].ix.toNat ++ bsL [93]) (by omega) (by rw [ByteArray.size_append, ByteArray.size_append, e, e]; omega)
   simp only [Option.bind_some, hr, O.calls_2]
   exact next _ (by unfold stepB; rw [if_pos k2])
  ·have hd := pp_quote p[i].vl (g4 k3)
   have hd2 := quoteB_size p[i].vl
   have k1 : decide (p[i].k = 1) = false := by rw [k3]; rfl
   have k2 : decide (p[i].k = 2) = false := by rw [k3]; rfl
   simp only [k1, k2, k3, decide_true, Bool.false_eq_true, if_false, if_true]
   rw [cat_ok (by rw [e]; omega) (by omega)]
   simp only [Option.bind_some]
   rw [cat_ok (by rw [ByteArray.size_append, e]; omega) (by rw [e]; omega)]
   simp only [Option.bind_some, hd, O.calls_1]
   rw [cat_ok (by rw [ByteArray.size_append, ByteArray.size_append, e, e]; omega) (by omega)]
   simp only [Option.bind_some]
   rw [cat_ok (by rw [ByteArray.size_append, ByteArray.size_append, ByteArray.size_append, e, e]; omega) (by rw [e]; omega)]
   obtain ⟨m, hr⟩ := bld_str o (bsL [91] ++ p[i].nm ++ bsL [61] ++ quoteB p[i].vl ++ bsL [93]) (by omega) (by simp only [ByteArray.size_append, e]; omega)
   simp only [Option.bind_some, hr, O.calls_2]
   exact next _ (by unfold stepB; rw [if_neg (by omega), if_pos k3])
theorem pp_print (p : List Stp) (hp : ∀ s ∈ p, s.fits) (hl : p.length ≤ 1099511627776) : W F74 0 [.list (p.map Stp.enc)] = some [.str (printB p), .int (printE p)] := by
 rw [e_F74_0]
 unfold printB printE
 cases hb : pathOk p with
 | false => simp only [pp_valid p hp hl, hb, O.calls_1, O.not_bool, Option.bind_some, Bool.not_false, O.cnd_bool, if_true]; rfl
 | true =>
  simp only [pp_valid p hp hl, hb, O.calls_1, O.not_bool, Option.bind_some, Bool.not_true, O.cnd_bool, Bool.false_eq_true, if_false, if_true, O.len_list, List.length_map]
  unfold pathOk at hb
  simp only [Bool.and_eq_true, decide_eq_true_eq, List.all_eq_true] at hb
  have := pp_print_1 p hb.1 hb.2 p.length 0 emptyB (by omega) (Nat.le_refl _)
  rw [emptyB_append] at this
  exact this
end Go.CT.Sch
namespace Go.CT.Sch
open Go.Proofs
def zeroVal : Val := ⟨0, 0, emptyB, [], []⟩
def getIV (o : Option Val) : List IV := [.int (o.getD zeroVal).k, .int (o.getD zeroVal).n, .str (o.getD zeroVal).s, .list ((o.getD zeroVal).l.map Val.enc), .list ((o.getD zeroVal).f.map Fld.enc), .bool o.isSome]
theorem app_ok {n b : Nat} (hn : n ≤ 1099511627776) (hb : b ≤ 127) : n * b ≤ maxBytes := by
 have : n * b ≤ 1099511627776 * 127 := Nat.mul_le_mul hn hb
 unfold maxBytes; omega
theorem take_get {α : Type} (l : List α) {i : Nat} (h : i < l.length) : l.take i ++ [l[i]] = l.take (i + 1) := by
 rw [List.take_add_one, List.getElem?_eq_getElem h]; rfl
theorem ref_copy_2W (v : Val) (hv : Wide 1099511627776 v) (y2 y3 y4 y5 y6 y7 y8 : IV) (ih : ∀ p ∈ v.f, W F30 0 [p.2.enc] = some p.2.comps) : ∀ (n i : Nat), i + n = v.f.length →
  W F30 2 [.int i, v.enc, y2, y3, y4, y5, y6, y7, y8, .list ((v.f.take i).map Fld.enc)] = some [y5, y6, y7, y8, .list (v.f.map Fld.enc)]
 | 0, i, h => by
  rw [e_F30_2]
  have h1 : ¬ i < v.f.length := by omega
  simp only [Val.proj4, Option.bind_some, O.len_list, List.length_map, O.lt_int, lt_cast, h1, decide_false, O.cnd_bool, Bool.false_eq_true, if_false, List.take_of_length_le (Nat.le_of_not_lt h1)]
 | n + 1, i, h => by
  have hi : i < v.f.length := by omega
  have hm := hv.len_f
  have hw := next64 (i := i) (by omega)
  have := ref_copy_2W v hv y2 y3 y4 y5 y6 y7 y8 ih n (i + 1) (by omega)
  have hap : ((v.f.take i).length + 1) * 96 ≤ maxBytes := app_ok (by rw [List.length_take]; omega) (by omega)
  rw [e_F30_2]
  simp only [Val.proj4, Option.bind_some, O.len_list, List.length_map, O.lt_int, lt_cast, hi, decide_true, O.cnd_bool, if_true, O.index_list, Int.natCast_nonneg, Int.toNat_natCast, List.getElem?_map, List.getElem?_eq_getElem hi, Option.map_some, Fld.proj0, Fld.projV, ih _ (List.getElem_mem hi), Val.comps_eq, O.calls_5, O.mkagg_eq, Fld.fold_eta, O.mklist_eq, O.append_list, List.length_singleton, hap, O.add_int, hw]
  rw [← take_get v.f hi, List.map_append] at this
  exact this
theorem ref_copy_1W (v : Val) (hv : Wide 1099511627776 v) (y2 y3 y4 y5 y6 y7 : IV) (ih : ∀ x ∈ v.l, W F30 0 [x.enc] = some x.comps) : ∀ (n i : Nat), i + n = v.l.length →
  W F30 1 [.int i, v.enc, y2, y3, y4, y5, y6, y7, .list ((v.l.take i).map Val.enc)] = W F30 2 [.int 0, v.enc, y2, y3, y4, y5, y6, y7, .list (v.l.map Val.enc), .list []]
 | 0, i, h => by
  rw [e_F30_1]
  have h1 : ¬ i < v.l.length := by omega
  simp only [Val.proj3, Option.bind_some, O.len_list, List.length_map, O.lt_int, lt_cast, h1, decide_false, O.cnd_bool, Bool.false_eq_true, if_false, List.take_of_length_le (Nat.le_of_not_lt h1)]
 | n + 1, i, h => by
  have hi : i < v.l.length := by omega
  have hm := hv.len_l
  have hw := next64 (i := i) (by omega)
  have := ref_copy_1W v hv y2 y3 y4 y5 y6 y7 ih n (i + 1) (by omega)
  have hap : ((v.l.take i).length + 1) * 80 ≤ maxBytes := app_ok (by rw [List.length_take]; omega) (by omega)
  rw [e_F30_1]
  simp only [Val.proj3, Option.bind_some, O.len_list, List.length_map, O.lt_int, lt_cast, hi, decide_true, O.cnd_bool, if_true, O.index_list, Int.natCast_nonneg, Int.toNat_natCast, List.getElem?_map, List.getElem?_eq_getElem hi, Option.map_some, ih _ (List.getElem_mem hi), Val.comps_eq, O.calls_5, O.mkagg_eq, Val.fold_eta, O.mklist_eq, O.append_list, List.length_singleton, hap, O.add_int, hw]
  rw [← take_get v.l hi, List.map_append] at this
  exact this
theorem ref_copyW : ∀ v : Val, Wide 1099511627776 v → W F30 0 [v.enc] = some v.comps := by
 refine Val.ind fun v ih1 ih2 hv => ?_
 have h1 := ref_copy_1W v hv (.int 0) (.int 0) (.str ⟨#[]⟩) (.int v.k) (.int v.n) (.str v.s) (fun x hx => ih1 x hx (hv.mem_l hx)) v.l.length 0 (by omega)
 have h2 := ref_copy_2W v hv (.int 0) (.int 0) (.str ⟨#[]⟩) (.int v.k) (.int v.n) (.str v.s) (.list (v.l.map Val.enc)) (fun p hp => ih2 p hp (hv.mem_f hp)) v.f.length 0 (by omega)
 simp only [List.take_zero, List.map_nil, Int.cast_ofNat_Int] at h1 h2
 rw [e_F30_0]
 simp only [Val.proj0, Val.proj1, Val.proj2, Option.bind_some]
 rw [h1, h2, Val.comps_eq]
theorem ref_get_1W (v : Val) (nm : ByteArray) (hv : Wide 1099511627776 v) (y3 y4 y5 : IV) : ∀ (n i : Nat), i + n = v.f.length →
  W F29 1 [.str nm, .int i, v.enc, y3, y4, y5] = some (getIV (((v.f.drop i).find? fun p => decide (p.1 = nm)).map (·.2)))
 | 0, i, h => by
  rw [e_F29_1]
  have h1 : ¬ i < v.f.length := by omega
  simp [h1, List.drop_of_length_le (Nat.le_of_not_lt h1), getIV, zeroVal, emptyB]
 | n + 1, i, h => by
  have hi : i < v.f.length := by omega
  have hm := hv.len_f
  have hw := next64 (i := i) (by omega)
  have := ref_get_1W v nm hv y3 y4 y5 n (i + 1) (by omega)
  have hmem := List.getElem_mem hi
  rw [e_F29_1, List.drop_eq_getElem_cons hi]
  simp only [Val.proj4, Option.bind_some, O.len_list, List.length_map, O.lt_int, lt_cast, hi, decide_true, O.cnd_bool, if_true, O.index_list, Int.natCast_nonneg, Int.toNat_natCast, List.getElem?_map, List.getElem?_eq_getElem hi, Option.map_some, Fld.proj0, Fld.projV, O.sEq_str, ref_copyW v.f[i].2 (hv.mem_f hmem), Val.comps_eq, O.calls_5, O.add_int, hw, this, List.find?_cons]
  by_cases c : v.f[i].1 = nm
  ·simp [c, getIV]
  ·have c' : decide (v.f[i].1 = nm) = false := by simpa using c
   simp only [c, c', decide_false, Bool.false_eq_true, if_false]
theorem ref_getW (v : Val) (nm : ByteArray) (hv : Wide 1099511627776 v) : W F29 0 [v.enc, .str nm] = some (getIV (v.get nm)) := by
 rw [e_F29_0]
 unfold Val.get
 have := ref_get_1W v nm hv (.int 0) (.int 0) (.str ⟨#[]⟩) v.f.length 0 (by omega)
 simp only [List.drop_zero, Int.cast_ofNat_Int] at this
 simp only [Val.proj0, Option.bind_some, O.eq_int, O.cnd_bool, this]
 by_cases c : v.k = 5 <;> simp [c, getIV, zeroVal, emptyB]
def othersF (v : Val) (nm : ByteArray) : List (ByteArray × Val) := if v.k = 5 then v.f.filter (fun p => !decide (p.1 = nm)) else []
def putL (p : ByteArray × Val) : Bool → List (ByteArray × Val) → List (ByteArray × Val)
 | done, [] => if done then [] else [p]
 | done, x :: xs => (if !done && !blt x.1 p.1 then [p] else []) ++ (if x.1 = p.1 then [] else [x]) ++ putL p (done || !blt x.1 p.1) xs
theorem putL_len (p : ByteArray × Val) : ∀ (l : List (ByteArray × Val)) (d : Bool), (putL p d l).length ≤ l.length + 1
 | [], d => by cases d <;> simp [putL]
 | x :: xs, true => by
  simp only [putL, Bool.not_true, Bool.false_and, Bool.false_eq_true, if_false, List.nil_append, Bool.true_or, List.length_append]
  have : (putL p true xs).length ≤ xs.length := by
   have key : ∀ l, (putL p true l).length ≤ l.length := by
    intro l
    induction l with
    | nil => simp [putL]
    | cons y ys ih =>
     simp only [putL, Bool.not_true, Bool.false_and, Bool.false_eq_true, if_false, List.nil_append, Bool.true_or, List.length_append, List.length_cons]
     split <;> simp <;> omega
   exact key xs
  split <;> simp <;> omega
 | x :: xs, false => by
  have h1 := putL_len p xs true
  have h2 := putL_len p xs false
  have key : ∀ l, (putL p true l).length ≤ l.length := by
   intro l
   induction l with
   | nil => simp [putL]
   | cons y ys ih =>
    simp only [putL, Bool.not_true, Bool.false_and, Bool.false_eq_true, if_false, List.nil_append, Bool.true_or, List.length_append, List.length_cons]
    split <;> simp <;> omega
  have h3 := key xs
  simp only [putL, Bool.not_false, Bool.true_and, Bool.false_or, List.length_append, List.length_cons]
  cases blt x.1 p.1 <;> simp <;> split <;> simp <;> omega
def mapL (l : List (ByteArray × Val)) : List (ByteArray × Val) := l.foldl (fun acc p => putL p false acc) []
theorem massFs_filter (q : ByteArray × Val → Bool) : ∀ l : List (ByteArray × Val), massFs (l.filter q) ≤ massFs l
 | [] => by simp
 | p :: l => by
  have := massFs_filter q l
  rw [List.filter_cons]
  split
  ·rw [massFs_cons, massFs_cons]; omega
  ·rw [massFs_cons]; omega
def withV (v : Val) (nm : ByteArray) (x : Val) : Val := ⟨5, 0, emptyB, [], mapL (othersF v nm ++ [(nm, x)])⟩
theorem others_wide {N : Nat} {v : Val} (h : Wide N v) (nm : ByteArray) : WideF N (othersF v nm) := by
 unfold othersF
 split
 ·exact ⟨Nat.le_trans (List.length_filter_le _ _) h.len_f, fun p hp => h.mem_f (List.mem_filter.1 hp).1⟩
 ·exact ⟨Nat.zero_le _, by simp⟩
theorem ref_get (v : Val) (nm : ByteArray) (hv : v.mass ≤ 1099511627776) : W F29 0 [v.enc, .str nm] = some (getIV (v.get nm)) := ref_getW v nm (wide_mass v (by omega))
end Go.CT.Sch
namespace Go.CT.Sch
open Go.Proofs
theorem ref_size_2 (v : Val) (hv : v.mass ≤ 1099511627776) (ih : ∀ p ∈ v.f, W F15 0 [p.2.enc] = some [.int p.2.size]) : ∀ (n i c : Nat), i + n = v.f.length → c ≤ 1099511627776 →
  W F15 2 [.int c, .int i, v.enc] = some [.int ((c + sizeFs (v.f.drop i) : Nat) : Int)]
 | 0, i, c, h, hc => by
  rw [e_F15_2]
  have h1 : ¬ i < v.f.length := by omega
  simp [h1, List.drop_of_length_le (Nat.le_of_not_lt h1), sizeFs]
 | n + 1, i, c, h, hc => by
  have hi : i < v.f.length := by omega
  have hm := v.mass_len_f
  have hw := next64 (i := i) (by omega)
  have hs := sizeFs_mem (List.getElem_mem hi)
  have hsz := v.size_mass
  rw [v.size_eq] at hsz
  have hd : sizeFs (v.f.drop i) = v.f[i].2.size + sizeFs (v.f.drop (i + 1)) := by rw [List.drop_eq_getElem_cons hi]; rfl
  have hw2 : IntKind.i64.wrap ((c : Int) + (v.f[i].2.size : Nat)) = ((c + v.f[i].2.size : Nat) : Int) := by rw [wrap64 (by omega) (by omega)]; rfl
  rw [e_F15_2]
  simp only [Val.proj4, Option.bind_some, O.len_list, List.length_map, O.lt_int, lt_cast, hi, decide_true, O.cnd_bool, if_true, O.index_list, Int.natCast_nonneg, Int.toNat_natCast, List.getElem?_map, List.getElem?_eq_getElem hi, Option.map_some, Fld.projV, ih _ (List.getElem_mem hi), O.calls_1, O.add_int, hw, hw2]
  by_cases hc2 : c + v.f[i].2.size ≤ 1099511627776
  ·rw [ref_size_2 v hv ih n (i + 1) _ (by omega) hc2, hd, Nat.add_assoc]
  ·-- larger sums: only the bound differs
   have key : ∀ (n i c : Nat), i + n = v.f.length → c + sizeFs (v.f.drop i) ≤ 4611686018427387904 → W F15 2 [.int c, .int i, v.enc] = some [.int ((c + sizeFs (v.f.drop i) : Nat) : Int)] := by
    intro n
    induction n with
    | zero =>
     intro i c h _
     rw [e_F15_2]
     have h1 : ¬ i < v.f.length := by omega
     simp [h1, List.drop_of_length_le (Nat.le_of_not_lt h1), sizeFs]
    | succ n ihn =>
     intro i c h hc
     have hi : i < v.f.length := by omega
     have hw := next64 (i := i) (by omega)
     have hd : sizeFs (v.f.drop i) = v.f[i].2.size + sizeFs (v.f.drop (i + 1)) := by rw [List.drop_eq_getElem_cons hi]; rfl
     have hw2 : IntKind.i64.wrap ((c : Int) + (v.f[i].2.size : Nat)) = ((c + v.f[i].2.size : Nat) : Int) := by rw [wrap64 (by omega) (by omega)]; rfl
     rw [e_F15_2]
     simp only [Val.proj4, Option.bind_some, O.len_list, List.length_map, O.lt_int, lt_cast, hi, decide_true, O.cnd_bool, if_true, O.index_list, Int.natCast_nonneg, Int.toNat_natCast, List.getElem?_map, List.getElem?_eq_getElem hi, Option.map_some, Fld.projV, ih _ (List.getElem_mem hi), O.calls_1, O.add_int, hw, hw2]
     rw [ihn (i + 1) _ (by omega) (by omega), hd, Nat.add_assoc]
   have hsub : sizeFs (v.f.drop (i + 1)) ≤ sizeFs v.f := by
    have := List.take_append_drop (i + 1) v.f
    have h2 := sizeFs_append (v.f.take (i + 1)) (v.f.drop (i + 1))
    rw [this] at h2; omega
   rw [key n (i + 1) _ (by omega) (by omega), hd, Nat.add_assoc]
theorem ref_size_1 (v : Val) (hv : v.mass ≤ 1099511627776) (ih : ∀ x ∈ v.l, W F15 0 [x.enc] = some [.int x.size]) : ∀ (n i c : Nat), i + n = v.l.length → c + sizeVs (v.l.drop i) ≤ 4611686018427387904 →
  W F15 1 [.int c, .int i, v.enc] = W F15 2 [.int ((c + sizeVs (v.l.drop i) : Nat) : Int), .int 0, v.enc]
 | 0, i, c, h, hc => by
  rw [e_F15_1]
  have h1 : ¬ i < v.l.length := by omega
  simp [h1, List.drop_of_length_le (Nat.le_of_not_lt h1), sizeVs]
 | n + 1, i, c, h, hc => by
  have hi : i < v.l.length := by omega
  have hm := v.mass_len_l
  have hw := next64 (i := i) (by omega)
  have hd : sizeVs (v.l.drop i) = v.l[i].size + sizeVs (v.l.drop (i + 1)) := by rw [List.drop_eq_getElem_cons hi]; rfl
  have hw2 : IntKind.i64.wrap ((c : Int) + (v.l[i].size : Nat)) = ((c + v.l[i].size : Nat) : Int) := by rw [wrap64 (by omega) (by omega)]; rfl
  rw [e_F15_1]
  simp only [Val.proj3, Option.bind_some, O.len_list, List.length_map, O.lt_int, lt_cast, hi, decide_true, O.cnd_bool, if_true, O.index_list, Int.natCast_nonneg, Int.toNat_natCast, List.getElem?_map, List.getElem?_eq_getElem hi, Option.map_some, ih _ (List.getElem_mem hi), O.calls_1, O.add_int, hw, hw2]
  rw [ref_size_1 v hv ih n (i + 1) _ (by omega) (by omega), hd, Nat.add_assoc]
theorem ref_size : ∀ v : Val, v.mass ≤ 1099511627776 → W F15 0 [v.enc] = some [.int v.size] := by
 refine Val.ind fun v ih1 ih2 hv => ?_
 have hsz := v.size_mass
 have hs := v.size_eq
 have h1 := ref_size_1 v hv (fun x hx => ih1 x hx (by have := Val.mass_l hx; omega)) v.l.length 0 1 (by omega) (by simp only [List.drop_zero]; omega)
 have h2 := ref_size_2 v hv (fun p hp => ih2 p hp (by have := Val.mass_f hp; omega)) v.f.length 0 (1 + sizeVs v.l) (by omega) (by omega)
 simp only [List.drop_zero, Int.cast_ofNat_Int] at h1 h2
 rw [e_F15_0]
 have h1' : W F15 1 [.int 1, .int 0, v.enc] = W F15 2 [.int ((1 + sizeVs v.l : Nat) : Int), .int 0, v.enc] := h1
 rw [h1', h2, hs]
theorem ref_Valid (v : Val) (hv : v.mass ≤ 1099511627776) : W F12 0 [v.enc] = some [.bool v.valid] := by
 rw [e_F12_0]
 have h1 := ref_valid 12 v (by omega) hv
 have h2 := ref_size v hv
 simp only [Int.cast_ofNat_Int] at h1
 simp only [h1, h2, O.calls_1, O.cnd_bool, O.le_int, Option.bind_some, Val.valid]
 have : decide ((v.size : Int) ≤ 600) = decide (v.size ≤ 600) := by simp; omega
 cases validD 12 v <;> simp [this]
theorem ref_count_2 (v : Val) (hv : v.mass ≤ 1099511627776) (ih : ∀ p ∈ v.f, ∀ c d : Int, c ≤ 100000 → -1099511627776 ≤ d → d ≤ 100000 → ∃ r : Int, W F35 0 [p.2.enc, .int c, .int d] = some [.int r] ∧ r ≤ 100000) (d : Int) (hd : -1000000000000 ≤ d ∧ d ≤ 100000) : ∀ (n i : Nat) (c : Int), i + n = v.f.length → c ≤ 100000 →
  ∃ r : Int, W F35 2 [.int c, .int d, .int i, v.enc] = some [.int r] ∧ r ≤ 100000
 | 0, i, c, h, hc => by
  rw [e_F35_2]
  have h1 : ¬ i < v.f.length := by omega
  exact ⟨c, by simp [h1], hc⟩
 | n + 1, i, c, h, hc => by
  have hi : i < v.f.length := by omega
  have hm := v.mass_len_f
  have hw := next64 (i := i) (by omega)
  have hw2 : IntKind.i64.wrap (d - 1) = d - 1 := wrap64 (by omega) (by omega)
  obtain ⟨r, hr, hr2⟩ := ih _ (List.getElem_mem hi) c (d - 1) hc (by omega) (by omega)
  obtain ⟨r', hr', hr2'⟩ := ref_count_2 v hv ih d hd n (i + 1) r (by omega) hr2
  rw [e_F35_2]
  by_cases c1 : 0 ≤ c
  ·by_cases c2 : (1000 : Int) < v.f[i].1.size
   ·exact ⟨-1, by simp [hi, c1, c2], by omega⟩
   ·exact ⟨r', by simp only [Val.proj4, Option.bind_some, O.len_list, List.length_map, O.lt_int, lt_cast, hi, decide_true, O.cnd_bool, if_true, O.ge_int, c1, O.index_list, Int.natCast_nonneg, Int.toNat_natCast, List.getElem?_map, List.getElem?_eq_getElem hi, Option.map_some, Fld.proj0, O.slen_str, O.gt_int, c2, decide_false, Bool.false_eq_true, if_false, Fld.projV, O.sub_int, hw2, hr, O.calls_1, O.add_int, hw, hr'], hr2'⟩
  ·exact ⟨c, by simp [hi, c1], hc⟩
theorem ref_count_1 (v : Val) (hv : v.mass ≤ 1099511627776) (ih : ∀ x ∈ v.l, ∀ c d : Int, c ≤ 100000 → -1099511627776 ≤ d → d ≤ 100000 → ∃ r : Int, W F35 0 [x.enc, .int c, .int d] = some [.int r] ∧ r ≤ 100000) (d : Int) (hd : -1000000000000 ≤ d ∧ d ≤ 100000) : ∀ (n i : Nat) (c : Int), i + n = v.l.length → c ≤ 100000 →
  ∃ r : Int, W F35 1 [.int c, .int d, .int i, v.enc] = W F35 2 [.int r, .int d, .int 0, v.enc] ∧ r ≤ 100000
 | 0, i, c, h, hc => by
  rw [e_F35_1]
  have h1 : ¬ i < v.l.length := by omega
  exact ⟨c, by simp [h1], hc⟩
 | n + 1, i, c, h, hc => by
  have hi : i < v.l.length := by omega
  have hm := v.mass_len_l
  have hw := next64 (i := i) (by omega)
  have hw2 : IntKind.i64.wrap (d - 1) = d - 1 := wrap64 (by omega) (by omega)
  obtain ⟨r, hr, hr2⟩ := ih _ (List.getElem_mem hi) c (d - 1) hc (by omega) (by omega)
  obtain ⟨r', hr', hr2'⟩ := ref_count_1 v hv ih d hd n (i + 1) r (by omega) hr2
  rw [e_F35_1]
  by_cases c1 : 0 ≤ c
  ·exact ⟨r', by simp only [Val.proj3, Option.bind_some, O.len_list, List.length_map, O.lt_int, lt_cast, hi, decide_true, O.cnd_bool, if_true, O.ge_int, c1, O.index_list, Int.natCast_nonneg, Int.toNat_natCast, List.getElem?_map, List.getElem?_eq_getElem hi, Option.map_some, O.sub_int, hw2, hr, O.calls_1, O.add_int, hw, hr'], hr2'⟩
  ·exact ⟨c, by simp [hi, c1], hc⟩
theorem ref_count : ∀ v : Val, v.mass ≤ 1099511627776 → ∀ c d : Int, c ≤ 100000 → -1099511627776 ≤ d → d ≤ 100000 → ∃ r : Int, W F35 0 [v.enc, .int c, .int d] = some [.int r] ∧ r ≤ 100000 := by
 refine Val.ind fun v ih1 ih2 hv c d hc hd hd2 => ?_
 rw [e_F35_0]
 by_cases c1 : c ≤ 0
 ·exact ⟨-1, by simp [c1], by omega⟩
 ·by_cases c2 : d ≤ 0
  ·exact ⟨-1, by simp [c1, c2], by omega⟩
  ·by_cases c3 : (1000 : Int) < v.s.size
   ·exact ⟨-1, by simp [c1, c2, c3], by omega⟩
   ·have hw : IntKind.i64.wrap (c - 1) = c - 1 := wrap64 (by omega) (by omega)
    obtain ⟨r, h1, h2⟩ := ref_count_1 v hv (fun x hx => ih1 x hx (by have := Val.mass_l hx; omega)) d (by omega) v.l.length 0 (c - 1) (by omega) (by omega)
    obtain ⟨r', h1', h2'⟩ := ref_count_2 v hv (fun p hp => ih2 p hp (by have := Val.mass_f hp; omega)) d (by omega) v.f.length 0 r (by omega) h2
    simp only [Int.cast_ofNat_Int] at h1 h1'
    exact ⟨r', by simp [c1, c2, c3, hw, h1, h1'], h2'⟩
end Go.CT.Sch
namespace Go.CT.Sch
open Go.Proofs
def fltB (x y : ByteArray × Val) : Bool := blt x.1 y.1
theorem cmpB : ∀ (a b : List UInt8), decide (Lib.compareBytes a b < 0) = Op.bytesLess a b
 | [], [] => rfl
 | [], _ :: _ => by simp [Lib.compareBytes, Op.bytesLess]
 | _ :: _, [] => by simp [Lib.compareBytes, Op.bytesLess]
 | a :: x, b :: y => by
  simp only [Lib.compareBytes, Op.bytesLess]
  by_cases h1 : a < b
  ·simp [h1]
  ·by_cases h2 : b < a
   ·have : ¬ a = b := fun e => by subst e; exact h1 h2
    simp [h1, h2, this]
   ·have : a = b := by
     have h1' : ¬ a.toNat < b.toNat := fun h => h1 (UInt8.lt_iff_toNat_lt.2 h)
     have h2' : ¬ b.toNat < a.toNat := fun h => h2 (UInt8.lt_iff_toNat_lt.2 h)
     exact UInt8.toNat_inj.1 (by omega)
    subst this
    simp [h1, cmpB x y]
theorem fcmp (x y : ByteArray × Val) : ∃ c : Int, W F62 0 [Fld.enc x, Fld.enc y] = some [.int c] ∧ (decide (c < 0) = fltB x y) := by
 refine ⟨Lib.compareBytes x.1.data.toList y.1.data.toList, ?_, cmpB _ _⟩
 rw [e_F62_0]
 simp [e_F63_0, e_F64_0, e_F65, O.compareF]
theorem ford : Srt.Ord fltB where
 irr x := blt_irrefl _
 tr x y z h k := blt_trans h k
 neg x y z h := by
  rcases blt_total x.1 y.1 with h1 | h1 | h1
  ·exact .inl h1
  ·right; unfold fltB at h ⊢; rw [← h1]; exact h
  ·right; exact blt_trans h1 h
noncomputable def feqs : Srt.Eqs Fld.enc fltB 6 true where
 S b xs := W F59 b xs
 B b xs := W F60 b xs
 I b xs := W F61 b xs
 M b xs := W F66 b xs
 R b xs := W F67 b xs
 X b xs := W F68 b xs
 C xs := W F62 0 xs
 cmp := fcmp
 s0 := by intros; exact V_is rfl (by kernel_rfl)
 b0 := by intros; exact V_is rfl (by kernel_rfl)
 b1 := by intros; exact V_is rfl (by kernel_rfl)
 b2 := by intros; exact V_is rfl (by kernel_rfl)
 b3 := by intros; exact V_is rfl (by kernel_rfl)
 b4 := by intros; exact V_is rfl (by kernel_rfl)
 i0 := by intros; exact V_is rfl (by kernel_rfl)
 i1 := by intros; exact V_is rfl (by kernel_rfl)
 i2 := by intros; exact V_is rfl (by kernel_rfl)
 x0 := by intros; exact V_is rfl (by kernel_rfl)
 x1 := by intros; exact V_is rfl (by kernel_rfl)
 r0 := by intros; exact V_is rfl (by kernel_rfl)
 r1 := by intros; exact V_is rfl (by kernel_rfl)
 r2 := by intros; exact V_is rfl (by kernel_rfl)
 m0 := by intros; exact V_is rfl (by kernel_rfl)
 m1 := by intros; exact V_is rfl (by kernel_rfl)
 m2 := by intros; exact V_is rfl (by kernel_rfl)
 m3 := by intros; exact V_is rfl (by kernel_rfl)
 m4 := by intros; exact V_is rfl (by kernel_rfl)
 m5 := by intros; exact V_is rfl (by kernel_rfl)
 m6 := by intros; exact V_is rfl (by kernel_rfl)
 m7 := by intros; exact V_is rfl (by kernel_rfl)
 m8 := by intros; exact V_is rfl (by kernel_rfl)
 m9 := by intros; exact V_is rfl (by kernel_rfl)
 m10 := by intros; exact V_is rfl (by kernel_rfl)
 m11 := by intros; exact V_is rfl (by kernel_rfl)
end Go.CT.Sch
namespace Go.CT.Sch
open Go.Proofs
theorem cloneF_list {l : List IV} (h : l.length ≤ 1073741824) : O.cloneF [.list l] = some [.list l] := if_pos h
theorem val_clone_2W (v : Val) (hv : Wide 1073741824 v) (y2 y3 y4 y5 y6 y7 y9 : IV) (ih : ∀ p ∈ v.f, W F69 0 [p.2.enc] = some p.2.comps) : ∀ (n i : Nat), i + n = v.f.length →
  W F69 2 [.int v.f.length, .int i, y2, y3, y4, y5, y6, y7, .list (v.f.map Fld.enc), y9] = some [y2, y3, y4, y9, .list (v.f.map Fld.enc)]
 | 0, i, h => by
  rw [e_F69_2]
  have h1 : ¬ i < v.f.length := by omega
  simp only [O.lt_int, lt_cast, h1, decide_false, Option.bind_some, O.cnd_bool, Bool.false_eq_true, if_false]
 | n + 1, i, h => by
  have hi : i < v.f.length := by omega
  have hm := hv.len_f
  have hw := next64 (i := i) (by omega)
  have := val_clone_2W v hv y2 y3 y4 y5 y6 y7 y9 ih n (i + 1) (by omega)
  have hset : O.setAt 1 5 true false (.list (v.f.map Fld.enc)) (.int i) v.f[i].2.enc = some (.list (v.f.map Fld.enc)) := by
   have hg : (v.f.map Fld.enc)[i]? = some (Fld.enc v.f[i]) := by rw [List.getElem?_map, List.getElem?_eq_getElem hi]; rfl
   have hs : (v.f.map Fld.enc).set i (Fld.enc v.f[i]) = v.f.map Fld.enc := by
    rw [← List.map_set, List.set_getElem_self]
   unfold O.setAt
   simp only [Prim.ev, Int.natCast_nonneg, if_true, Int.toNat_natCast, hg, Bool.false_eq_true, if_false]
   rw [v.f[i].2.enc_eq]
   simp only [Fld.enc]
   have hl : v.f[i].2.comps.length = 5 := rfl
   simp only [hl, if_true]
   congr 2
  rw [e_F69_2]
  simp only [O.lt_int, lt_cast, hi, decide_true, Option.bind_some, O.cnd_bool, if_true, O.index_list, Int.natCast_nonneg, Int.toNat_natCast, List.getElem?_map, List.getElem?_eq_getElem hi, Option.map_some, Fld.projV, ih _ (List.getElem_mem hi), Val.comps_eq, O.calls_5, O.mkagg_eq, Val.fold_eta, hset, O.add_int, hw, this]
theorem val_clone_1W (v : Val) (hv : Wide 1073741824 v) (y2 y3 y4 y6 y7 y8 : IV) (ih : ∀ x ∈ v.l, W F69 0 [x.enc] = some x.comps) : ∀ (n i : Nat), i + n = v.l.length →
  W F69 1 [.int v.l.length, .int i, y2, y3, y4, .list (v.f.map Fld.enc), y6, y7, y8, .list (v.l.map Val.enc)] = W F69 2 [.int v.f.length, .int (0 : Nat), y2, y3, y4, y6, y7, y8, .list (v.f.map Fld.enc), .list (v.l.map Val.enc)]
 | 0, i, h => by
  rw [e_F69_1]
  have h1 : ¬ i < v.l.length := by omega
  have h6 := hv.len_f
  have hc : (v.f.map Fld.enc).length ≤ 1073741824 := by rw [List.length_map]; omega
  simp only [O.lt_int, lt_cast, h1, decide_false, Option.bind_some, O.cnd_bool, Bool.false_eq_true, if_false, e_F58, cloneF_list hc, O.calls_1, O.len_list, List.length_map]
  rfl
 | n + 1, i, h => by
  have hi : i < v.l.length := by omega
  have hm := hv.len_l
  have hw := next64 (i := i) (by omega)
  have := val_clone_1W v hv y2 y3 y4 y6 y7 y8 ih n (i + 1) (by omega)
  have hset : O.setAt 0 5 true true (.list (v.l.map Val.enc)) (.int i) v.l[i].enc = some (.list (v.l.map Val.enc)) := by
   rw [show (IV.list (v.l.map Val.enc)) = Srt.LE Val.enc v.l from rfl, Srt.seti Val.enc hi, List.set_getElem_self]
  rw [e_F69_1]
  simp only [O.lt_int, lt_cast, hi, decide_true, Option.bind_some, O.cnd_bool, if_true, O.index_list, Int.natCast_nonneg, Int.toNat_natCast, List.getElem?_map, List.getElem?_eq_getElem hi, Option.map_some, ih _ (List.getElem_mem hi), Val.comps_eq, O.calls_5, O.mkagg_eq, Val.fold_eta, hset, O.add_int, hw, this]
theorem val_cloneW : ∀ v : Val, Wide 1073741824 v → W F69 0 [v.enc] = some v.comps := by
 refine Val.ind fun v ih1 ih2 hv => ?_
 have h1 := val_clone_1W v hv (.int v.k) (.int v.n) (.str v.s) (.int 0) (.int 0) (.str ⟨#[]⟩) (fun x hx => ih1 x hx (hv.mem_l hx)) v.l.length 0 (by omega)
 have h2 := val_clone_2W v hv (.int v.k) (.int v.n) (.str v.s) (.int 0) (.int 0) (.str ⟨#[]⟩) (.list (v.l.map Val.enc)) (fun p hp => ih2 p hp (hv.mem_f hp)) v.f.length 0 (by omega)
 rw [h2] at h1
 rw [e_F69_0]
 have h6 := hv.len_l
 have hc : (v.l.map Val.enc).length ≤ 1073741824 := by rw [List.length_map]; omega
 simp only [Val.proj0, Val.proj1, Val.proj2, Val.proj3, Val.proj4, Option.bind_some, e_F70, cloneF_list hc, O.calls_1, O.len_list, List.length_map]
 rw [Val.comps_eq]
 exact h1
theorem val_listW (l : List Val) (hl : l.length ≤ 1073741824) (hl2 : ∀ x ∈ l, Wide 1073741824 x) : W F112 0 [.list (l.map Val.enc)] = some (Val.comps ⟨4, 0, emptyB, l, []⟩) := by
 rw [e_F112_0]
 have h := val_cloneW ⟨4, 0, emptyB, l, []⟩ (.mk _ hl (Nat.zero_le _) hl2 (by simp))
 have e : IV.agg [.int 4, .int 0, .str ⟨#[]⟩, .list (l.map Val.enc), .list []] = Val.enc ⟨4, 0, emptyB, l, []⟩ := by
  rw [← Val.fold]; rfl
 simp only [O.mkagg_eq, Option.bind_some, e, h, Val.comps_eq, O.calls_5]
theorem val_list (l : List Val) (hl : massVs l ≤ 4294967200) : W F112 0 [.list (l.map Val.enc)] = some (Val.comps ⟨4, 0, emptyB, l, []⟩) :=
 val_listW l (by have := massVs_len6 l; omega) fun x hx => wide_mass x (by
  have : x.mass ≤ massVs l := bulk_mem (List.mem_map_of_mem hx)
  omega)
theorem val_get_1W (v : Val) (nm : ByteArray) (hv : Wide 1073741824 v) (y4 y5 y6 : IV) : ∀ (n i : Nat), i + n = v.f.length →
  W F96 1 [.str nm, .list (v.f.map Fld.enc), .int v.f.length, .int i, y4, y5, y6] = some (getIV (((v.f.drop i).find? fun p => decide (p.1 = nm)).map (·.2)))
 | 0, i, h => by
  rw [e_F96_1]
  have h1 : ¬ i < v.f.length := by omega
  simp [h1, List.drop_of_length_le (Nat.le_of_not_lt h1), getIV, zeroVal, emptyB]
 | n + 1, i, h => by
  have hi : i < v.f.length := by omega
  have hm := hv.len_f
  have hw := next64 (i := i) (by omega)
  have := val_get_1W v nm hv y4 y5 y6 n (i + 1) (by omega)
  have hmem := List.getElem_mem hi
  rw [e_F96_1, List.drop_eq_getElem_cons hi]
  simp only [O.lt_int, lt_cast, hi, decide_true, Option.bind_some, O.cnd_bool, if_true, O.index_list, Int.natCast_nonneg, Int.toNat_natCast, List.getElem?_map, List.getElem?_eq_getElem hi, Option.map_some, Fld.proj0, Fld.projV, O.sEq_str, val_cloneW v.f[i].2 (hv.mem_f hmem), Val.comps_eq, O.calls_5, O.add_int, hw, this, List.find?_cons]
  by_cases c : v.f[i].1 = nm
  ·simp [c, getIV]
  ·have c' : decide (v.f[i].1 = nm) = false := by simpa using c
   simp only [c, c', decide_false, Bool.false_eq_true, if_false]
theorem val_getW (v : Val) (nm : ByteArray) (hv : Wide 1073741824 v) : W F96 0 [v.enc, .str nm] = some (getIV (v.get nm)) := by
 rw [e_F96_0]
 unfold Val.get
 have := val_get_1W v nm hv (.int 0) (.int 0) (.str ⟨#[]⟩) v.f.length 0 (by omega)
 simp only [List.drop_zero, Int.cast_ofNat_Int] at this
 simp only [Val.proj0, Val.proj4, Option.bind_some, O.eq_int, O.cnd_bool, O.len_list, List.length_map, this]
 by_cases c : v.k = 5 <;> simp [c, getIV, zeroVal, emptyB]
end Go.CT.Sch
namespace Go.CT.Sch
open Go.Proofs
def noName (nm : ByteArray) (p : ByteArray × Val) : Bool := !decide (p.1 = nm)
def dedup : List (ByteArray × Val) → List (ByteArray × Val)
 | [] => []
 | [p] => [p]
 | p :: q :: r => if q.1 = p.1 then dedup (q :: r) else p :: dedup (q :: r)
def Strict (l : List (ByteArray × Val)) : Prop := l.Pairwise fun a b => blt a.1 b.1 = true
def isName (nm : ByteArray) (p : ByteArray × Val) : Bool := decide (p.1 = nm)
def look (nm : ByteArray) (l : List (ByteArray × Val)) : Option (ByteArray × Val) := (l.filter (isName nm)).getLast?
theorem dedup_mem : ∀ (l : List (ByteArray × Val)) (p : ByteArray × Val), p ∈ dedup l → p ∈ l
 | [], p, h => h
 | [_], p, h => h
 | a :: b :: r, p, h => by
  simp only [dedup] at h
  split at h
  ·exact List.mem_cons_of_mem _ (dedup_mem (b :: r) p h)
  ·rcases List.mem_cons.1 h with rfl | h
   ·simp
   ·exact List.mem_cons_of_mem _ (dedup_mem (b :: r) p h)
theorem blt_of_le {x y : ByteArray} (h : blt y x = false) (hne : ¬ y = x) : blt x y = true := by
 rcases blt_total x y with h1 | h1 | h1
 ·exact h1
 ·exact absurd h1.symm hne
 ·rw [h] at h1; cases h1
theorem blt_le_trans {x y z : ByteArray} (h : blt x y = true) (h2 : blt z y = false) : blt x z = true := by
 rcases blt_total y z with h1 | h1 | h1
 ·exact blt_trans h h1
 ·rw [← h1]; exact h
 ·rw [h2] at h1; cases h1
theorem dedup_strict : ∀ l : List (ByteArray × Val), Srt.Sorted fltB l → Strict (dedup l)
 | [], _ => List.Pairwise.nil
 | [_], _ => List.pairwise_singleton _ _
 | a :: b :: r, h => by
  have h1 := List.pairwise_cons.1 h
  have ih := dedup_strict (b :: r) h1.2
  simp only [dedup]
  split
  ·exact ih
  ·next hne =>
   refine List.pairwise_cons.2 ⟨fun y hy => ?_, ih⟩
   have hab : blt a.1 b.1 = true := blt_of_le (h1.1 b (by simp)) hne
   rcases List.mem_cons.1 (dedup_mem _ _ hy) with rfl | hy
   ·exact hab
   ·exact blt_le_trans hab ((List.pairwise_cons.1 h1.2).1 y hy)
theorem look_cons (nm : ByteArray) (p : ByteArray × Val) (l : List (ByteArray × Val)) : look nm (p :: l) = (look nm l).or (if p.1 = nm then some p else none) := by
 unfold look
 rw [List.filter_cons]
 by_cases c : p.1 = nm
 ·rw [if_pos (by simp [isName, c]), if_pos c]
  generalize l.filter (isName nm) = m
  cases m with
  | nil => rfl
  | cons b r =>
   rw [List.getLast?_cons_cons]
   cases h : (b :: r).getLast? with
   | none => simp at h
   | some x => rfl
 ·rw [if_neg (by simp [isName, c]), if_neg c, Option.or_none]
theorem look_dedup (nm : ByteArray) : ∀ l : List (ByteArray × Val), look nm (dedup l) = look nm l
 | [] => rfl
 | [_] => rfl
 | a :: b :: r => by
  have ih := look_dedup nm (b :: r)
  simp only [dedup]
  split
  ·next e =>
   rw [ih, look_cons nm a (b :: r), look_cons nm b r]
   by_cases c : b.1 = nm
   ·have c2 : a.1 = nm := by rw [← e]; exact c
    simp only [c, c2, if_true]
    cases look nm r <;> rfl
   ·have c2 : ¬ a.1 = nm := by rw [← e]; exact c
    simp only [c2, if_false, Option.or_none]
  ·rw [look_cons nm a, ih, look_cons nm a]
theorem strict_mem {l : List (ByteArray × Val)} (h : Strict l) (p : ByteArray × Val) : p ∈ l ↔ look p.1 l = some p := by
 induction l with
 | nil => simp [look]
 | cons a l ih =>
  have h1 := List.pairwise_cons.1 h
  rw [look_cons, List.mem_cons, ih h1.2]
  by_cases c : a.1 = p.1
  ·have hn : look p.1 l = none := by
    unfold look
    rw [List.getLast?_eq_none_iff, List.filter_eq_nil_iff]
    intro y hy hy2
    simp only [isName, decide_eq_true_eq] at hy2
    have := h1.1 y hy
    rw [c, hy2, blt_irrefl] at this
    cases this
   simp [hn, c, eq_comm]
  ·have : ¬ p = a := fun e => c (by rw [e])
   simp [c, this]
theorem strict_ext {a b : List (ByteArray × Val)} (ha : Strict a) (hb : Strict b) (h : ∀ p, p ∈ a ↔ p ∈ b) : a = b := by
 induction a generalizing b with
 | nil =>
  cases b with
  | nil => rfl
  | cons y b => have := (h y).2 (by simp); simp at this
 | cons x a ih =>
  cases b with
  | nil => have := (h x).1 (by simp); simp at this
  | cons y b =>
   have ha' := List.pairwise_cons.1 ha
   have hb' := List.pairwise_cons.1 hb
   have hxy : x = y := by
    rcases List.mem_cons.1 ((h x).1 (by simp)) with e | hx
    ·exact e
    ·rcases List.mem_cons.1 ((h y).2 (by simp)) with e | hy
     ·exact e.symm
     ·have h1 := hb'.1 x hx
      have h2 := ha'.1 y hy
      rw [blt_asymm h1] at h2; cases h2
   subst hxy
   rw [ih ha'.2 hb'.2]
   intro p
   have := h p
   simp only [List.mem_cons] at this
   constructor
   ·intro hp
    rcases this.1 (.inr hp) with rfl | h
    ·have := ha'.1 p hp; rw [blt_irrefl] at this; cases this
    ·exact h
   ·intro hp
    rcases this.2 (.inr hp) with rfl | h
    ·have := hb'.1 p hp; rw [blt_irrefl] at this; cases this
    ·exact h
theorem look_name {nm : ByteArray} {l : List (ByteArray × Val)} {p : ByteArray × Val} (h : look nm l = some p) : p.1 = nm := by
 unfold look at h
 have := List.mem_of_getLast? h
 have := (List.mem_filter.1 this).2
 simpa [isName] using this
theorem strict_look_ext {a b : List (ByteArray × Val)} (ha : Strict a) (hb : Strict b) (h : ∀ nm, look nm a = look nm b) : a = b :=
 strict_ext ha hb fun p => by rw [strict_mem ha, strict_mem hb, h]
theorem putL_true (p : ByteArray × Val) : ∀ l, putL p true l = l.filter (noName p.1)
 | [] => rfl
 | x :: xs => by
  simp only [putL, Bool.not_true, Bool.false_and, Bool.false_eq_true, if_false, List.nil_append, Bool.true_or, putL_true p xs, List.filter_cons, noName]
  by_cases c : x.1 = p.1 <;> simp [c]
theorem putL_ge (p x : ByteArray × Val) (xs : List (ByteArray × Val)) (h : blt x.1 p.1 = false) : putL p false (x :: xs) = p :: (x :: xs).filter (noName p.1) := by
 simp only [putL, h, Bool.not_false, Bool.and_self, if_true, Bool.or_true, putL_true, List.filter_cons, noName]
 by_cases c : x.1 = p.1 <;> simp [c]
theorem putL_lt (p x : ByteArray × Val) (xs : List (ByteArray × Val)) (h : blt x.1 p.1 = true) : putL p false (x :: xs) = x :: putL p false xs := by
 have hne : ¬ x.1 = p.1 := blt_ne h
 simp [putL, h, hne]
theorem putL_mem (p : ByteArray × Val) : ∀ (l : List (ByteArray × Val)) (y : ByteArray × Val), y ∈ putL p false l → y = p ∨ y ∈ l
 | [], y, h => by simp [putL] at h; exact .inl h
 | x :: xs, y, h => by
  cases hb : blt x.1 p.1 with
  | true =>
   rw [putL_lt p x xs hb] at h
   rcases List.mem_cons.1 h with rfl | h
   ·simp
   ·rcases putL_mem p xs y h with h | h
    ·exact .inl h
    ·exact .inr (List.mem_cons_of_mem _ h)
  | false =>
   rw [putL_ge p x xs hb] at h
   rcases List.mem_cons.1 h with rfl | h
   ·simp
   ·exact .inr (List.mem_filter.1 h).1
theorem putL_strict (p : ByteArray × Val) : ∀ l : List (ByteArray × Val), Strict l → Strict (putL p false l)
 | [], _ => List.pairwise_singleton _ _
 | x :: xs, h => by
  have h1 := List.pairwise_cons.1 h
  cases hb : blt x.1 p.1 with
  | true =>
   rw [putL_lt p x xs hb]
   refine List.pairwise_cons.2 ⟨fun y hy => ?_, putL_strict p xs h1.2⟩
   rcases putL_mem p xs y hy with rfl | hy
   ·exact hb
   ·exact h1.1 y hy
  | false =>
   rw [putL_ge p x xs hb]
   refine List.pairwise_cons.2 ⟨fun y hy => ?_, h.sublist List.filter_sublist⟩
   obtain ⟨hy, hn⟩ := List.mem_filter.1 hy
   have hne : ¬ y.1 = p.1 := by simpa [noName] using hn
   refine blt_of_le ?_ hne
   rcases List.mem_cons.1 hy with rfl | hy
   ·exact hb
   ·cases hc : blt y.1 p.1 with
    | false => rfl
    | true => have := blt_trans (h1.1 y hy) hc; rw [hb] at this; cases this
theorem putL_filter (p : ByteArray × Val) (nm : ByteArray) : ∀ l : List (ByteArray × Val), (putL p false l).filter (isName nm) = if p.1 = nm then [p] else l.filter (isName nm)
 | [] => by by_cases c : p.1 = nm <;> simp [putL, isName, c]
 | x :: xs => by
  cases hb : blt x.1 p.1 with
  | true =>
   have hne := blt_ne hb
   rw [putL_lt p x xs hb, List.filter_cons, putL_filter p nm xs, List.filter_cons]
   by_cases c : p.1 = nm
   ·have : ¬ x.1 = nm := by rw [← c]; exact hne
    simp [c, isName, this]
   ·simp [c]
  | false =>
   rw [putL_ge p x xs hb, List.filter_cons, List.filter_filter]
   by_cases c : p.1 = nm
   ·rw [if_pos (by simp [isName, c]), if_pos c]
    congr 1
    rw [List.filter_eq_nil_iff]
    intro y _ hy
    simp [noName, isName, c] at hy
   ·rw [if_neg (by simp [isName, c]), if_neg c]
    refine List.filter_congr fun y _ => ?_
    by_cases d : y.1 = nm
    ·have : ¬ nm = p.1 := fun e => c e.symm
     simp [noName, isName, d, this]
    ·simp [isName, d]
theorem mapL_snoc (l : List (ByteArray × Val)) (p : ByteArray × Val) : mapL (l ++ [p]) = putL p false (mapL l) := by
 unfold mapL; rw [List.foldl_append]; rfl
theorem mapL_props (l : List (ByteArray × Val)) : ∀ n, l.length = n → Strict (mapL l) ∧ ∀ nm, look nm (mapL l) = look nm l := by
 intro n
 induction n generalizing l with
 | zero => intro h; have := List.length_eq_zero_iff.1 h; subst this; exact ⟨List.Pairwise.nil, fun _ => rfl⟩
 | succ n ih =>
  intro h
  rcases Srt.snoc_cases l with rfl | ⟨l0, p, rfl⟩
  ·simp at h
  ·obtain ⟨h1, h2⟩ := ih l0 (by simpa using h)
   rw [mapL_snoc]
   refine ⟨putL_strict p _ h1, fun nm => ?_⟩
   unfold look
   rw [putL_filter, List.filter_append]
   by_cases c : p.1 = nm
   ·simp [c, isName]
   ·have := h2 nm
    unfold look at this
    simp [c, isName] at this ⊢
    exact this
theorem mapL_strict (l : List (ByteArray × Val)) : Strict (mapL l) := (mapL_props l _ rfl).1
theorem look_mapL (nm : ByteArray) (l : List (ByteArray × Val)) : look nm (mapL l) = look nm l := (mapL_props l _ rfl).2 nm
theorem mapL_id {l : List (ByteArray × Val)} (h : Strict l) : mapL l = l := strict_look_ext (mapL_strict l) h fun nm => look_mapL nm l
theorem mapL_mem {l : List (ByteArray × Val)} {p : ByteArray × Val} (h : p ∈ mapL l) : p ∈ l := by
 rw [strict_mem (mapL_strict l), look_mapL] at h
 unfold look at h
 exact (List.mem_filter.1 (List.mem_of_getLast? h)).1
theorem eqv_name (k y : ByteArray × Val) : Srt.eqv fltB k y = isName k.1 y := by
 unfold Srt.eqv isName fltB
 rcases blt_total k.1 y.1 with h | h | h
 ·have := blt_ne h
  rw [h]
  simp only [Bool.not_true, Bool.false_and]
  symm; simpa using fun e => this e.symm
 ·rw [h, blt_irrefl]; simp
 ·have := blt_ne h
  rw [h]
  simp [this]
theorem dedup_sort {l r : List (ByteArray × Val)} (h1 : Srt.Sorted fltB r) (h2 : Srt.Stab fltB l r) : dedup r = mapL l := by
 refine strict_look_ext (dedup_strict r h1) (mapL_strict l) fun nm => ?_
 rw [look_dedup, look_mapL]
 have := h2.2 (nm, zeroVal)
 have e : Srt.eqv fltB (nm, zeroVal) = isName nm := funext fun y => eqv_name _ y
 rw [e] at this
 unfold look
 rw [this]
end Go.CT.Sch
namespace Go.CT.Sch
open Go.Proofs
theorem massFs_putL (p : ByteArray × Val) : ∀ l, massFs (putL p false l) ≤ massFs l + massFs [p]
 | [] => by simp [putL, massFs_nil]
 | x :: xs => by
  cases hb : blt x.1 p.1 with
  | true =>
   have := massFs_putL p xs
   rw [putL_lt p x xs hb, massFs_cons, massFs_cons x xs]; omega
  | false =>
   have := massFs_filter (noName p.1) (x :: xs)
   rw [putL_ge p x xs hb, massFs_cons, massFs_cons p [], massFs_nil]; omega
theorem massFs_mapL (l : List (ByteArray × Val)) : massFs (mapL l) ≤ massFs l := by
 have : ∀ n (l : List (ByteArray × Val)), l.length = n → massFs (mapL l) ≤ massFs l := by
  intro n
  induction n with
  | zero => intro l h; have := List.length_eq_zero_iff.1 h; subst this; exact Nat.le_refl _
  | succ n ih =>
   intro l h
   rcases Srt.snoc_cases l with rfl | ⟨l0, p, rfl⟩
   ·simp at h
   ·have h1 := ih l0 (by simpa using h)
    have h2 := massFs_putL p (mapL l0)
    rw [mapL_snoc, massFs_append]; omega
 exact this _ l rfl
def mapV (l : List (ByteArray × Val)) : Val := ⟨5, 0, emptyB, [], mapL l⟩
theorem mapV_mass (l : List (ByteArray × Val)) : (mapV l).mass ≤ 6 + massFs l := by
 have := massFs_mapL l
 rw [Val.mass_eq]
 simp only [mapV, Val.s_mk, Val.l_mk, Val.f_mk, massVs_nil, show emptyB.size = 0 from rfl]; omega
theorem val_map_1W (r : List (ByteArray × Val)) (hr : r.length ≤ 1099511627775) (y2 y3 y4 : IV) : ∀ (n i : Nat) (acc : List (ByteArray × Val)), i + n = r.length → acc.length ≤ i → WideF 1073741824 (acc ++ dedup (r.drop i)) →
  W F57 1 [.int r.length, .int i, y2, y3, y4, Srt.LE Fld.enc r, .int 5, .int 0, .str ⟨#[]⟩, .list (acc.map Fld.enc)] = some (Val.comps ⟨5, 0, emptyB, [], acc ++ dedup (r.drop i)⟩)
 | 0, i, acc, h, ha, hm => by
  rw [e_F62]
  have h1 : ¬ i < r.length := by omega
  have e0 : r.drop i = [] := List.drop_of_length_le (by omega)
  rw [e0] at hm ⊢
  rw [show dedup [] = [] from rfl, List.append_nil] at hm
  have hc := val_cloneW ⟨5, 0, emptyB, [], acc⟩ (.mk _ (Nat.zero_le _) hm.1 (by simp) hm.2)
  have e : IV.agg [.int 5, .int 0, .str ⟨#[]⟩, .list [], .list (acc.map Fld.enc)] = Val.enc ⟨5, 0, emptyB, [], acc⟩ := by
   rw [← Val.fold]; rfl
  simp only [O.lt_int, lt_cast, h1, decide_false, Option.bind_some, O.cnd_bool, Bool.false_eq_true, if_false, O.mkagg_eq, e, hc, Val.comps_eq, O.calls_5, dedup, List.append_nil]
 | n + 1, i, acc, h, ha, hm => by
  have hi : i < r.length := by omega
  have hw := next64 (i := i) (by omega)
  have hap : (acc.length + 1) * 96 ≤ maxBytes := app_ok (by omega) (by omega)
  have gi := Srt.idx Fld.enc (List.getElem?_eq_getElem hi)
  rw [e_F62]
  have hd := List.drop_eq_getElem_cons hi
  by_cases c : i + 1 = r.length
  ·have c' : ((i + 1 : Nat) : Int) = (r.length : Int) := by omega
   have e1 : r.drop (i + 1) = [] := List.drop_of_length_le (by omega)
   have ih := val_map_1W r hr y2 y3 y4 n (i + 1) (acc ++ [r[i]]) (by omega) (by simp; omega) (by
    rw [e1]; rw [hd, e1] at hm
    simpa [dedup] using hm)
   simp only [e1, List.map_append, List.map_cons, List.map_nil] at ih
   rw [hd, e1]
   simp only [O.lt_int, lt_cast, hi, decide_true, Option.bind_some, O.cnd_bool, if_true, gi, O.add_int, hw, Srt.len, O.eq_int, c', O.mklist_eq, O.append_list, List.length_map, List.length_singleton, hap, e_F57_2]
   rw [c'] at ih
   rw [ih]
   simp [dedup]
  ·have hi2 : i + 1 < r.length := by omega
   have c' : ¬ ((i + 1 : Nat) : Int) = (r.length : Int) := by omega
   have gi2 := Srt.idx Fld.enc (List.getElem?_eq_getElem hi2)
   have hd2 := List.drop_eq_getElem_cons hi2
   by_cases d : r[i + 1].1 = r[i].1
   ·have ih := val_map_1W r hr y2 y3 y4 n (i + 1) acc (by omega) (by omega) (by
     rw [hd, hd2] at hm; rw [hd2]
     simp only [dedup, d, if_true] at hm
     exact hm)
    rw [hd2] at ih
    rw [hd, hd2]
    simp only [O.lt_int, lt_cast, hi, decide_true, Option.bind_some, O.cnd_bool, if_true, gi, O.add_int, hw, Srt.len, O.eq_int, c', decide_false, Bool.false_eq_true, if_false, gi2, Fld.proj0, O.sNe_str, d, Bool.not_true, e_F57_2, dedup, ih]
   ·have ih := val_map_1W r hr y2 y3 y4 n (i + 1) (acc ++ [r[i]]) (by omega) (by simp; omega) (by
     rw [hd, hd2] at hm; rw [hd2]
     simp only [dedup, d, if_false] at hm
     simpa using hm)
    rw [hd2] at ih
    simp only [List.map_append, List.map_cons, List.map_nil, List.append_assoc, List.singleton_append] at ih
    rw [hd, hd2]
    simp only [O.lt_int, lt_cast, hi, decide_true, Option.bind_some, O.cnd_bool, if_true, gi, O.add_int, hw, Srt.len, O.eq_int, c', decide_false, Bool.false_eq_true, if_false, gi2, Fld.proj0, O.sNe_str, d, Bool.not_false, O.mklist_eq, O.append_list, List.length_map, List.length_singleton, hap, e_F57_2, dedup, ih]
theorem mapL_len (l : List (ByteArray × Val)) : (mapL l).length ≤ l.length := by
 have : ∀ n (l : List (ByteArray × Val)), l.length = n → (mapL l).length ≤ n := by
  intro n
  induction n with
  | zero => intro l h; have := List.length_eq_zero_iff.1 h; subst this; exact Nat.le_refl _
  | succ n ih =>
   intro l h
   rcases Srt.snoc_cases l with rfl | ⟨l0, p, rfl⟩
   ·simp at h
   ·have h1 := ih l0 (by simpa using h)
    have h2 := putL_len p (mapL l0) false
    rw [mapL_snoc]; omega
 exact this _ l rfl
theorem mapL_wide {N : Nat} {l : List (ByteArray × Val)} (h : WideF N l) : WideF N (mapL l) :=
 ⟨Nat.le_trans (mapL_len l) h.1, fun p hp => h.2 p (mapL_mem hp)⟩
theorem val_mapW (l : List (ByteArray × Val)) (hl : WideF 1073741824 l) : W F57 0 [.list (l.map Fld.enc)] = some (mapV l).comps := by
 have h6 := hl.1
 obtain ⟨r, h1, h2, h3⟩ := Srt.sort ford feqs l (by omega)
 have hc : (l.map Fld.enc).length ≤ 1073741824 := by rw [List.length_map]; omega
 rw [e_F57_0]
 have h3' : W F59 0 [.list (l.map Fld.enc)] = some [Srt.LE Fld.enc r] := h3
 have hlen : r.length = l.length := h2.1.symm
 have h4 := val_map_1W r (by omega) (.int 0) (.int 0) (.str ⟨#[]⟩) r.length 0 [] (by omega) (by simp) (by
  rw [List.drop_zero, List.nil_append, dedup_sort h1 h2]; exact mapL_wide hl)
 simp only [List.drop_zero, Int.cast_ofNat_Int, List.map_nil, List.nil_append, dedup_sort h1 h2] at h4
 simp only [e_F58, cloneF_list hc, O.calls_1, h3', Srt.len, Option.bind_some]
 exact h4
theorem val_map (l : List (ByteArray × Val)) (hl : massFs l ≤ 4294967200) : W F57 0 [.list (l.map Fld.enc)] = some (mapV l).comps := val_mapW l (wideF_mass (by omega))
end Go.CT.Sch
namespace Go.CT.Sch
open Go.Proofs
theorem calls_6 {β : Type} {a b c d e g : IV} {f : IV → IV → IV → IV → IV → IV → Option β} : calls (some [a, b, c, d, e, g]) 6 f = f a b c d e g := rfl
def zeroSch : Sch := ⟨0, 0, 0, [], emptyB, [], []⟩
def zeroSF : SFld := ⟨emptyB, false, false, [], zeroSch⟩
theorem zeroSch_enc : IV.agg [.int 0, .int 0, .int 0, .list [], .str ⟨#[]⟩, .list [], .list []] = zeroSch.enc := rfl
theorem zeroSF_enc : IV.agg [.str ⟨#[]⟩, .bool false, .bool false, .list [], .int 0, .int 0, .int 0, .list [], .str ⟨#[]⟩, .list [], .list []] = zeroSF.enc := rfl
inductive SB : Sch → Prop
 | mk (s : Sch) : s.it.length ≤ 1 → (s.it ≠ [] → s.f = []) → (s.k = 4 → s.it.length = 1) → (∀ x ∈ s.it, SB x) → (∀ p ∈ s.f, SB p.s) → SB s
theorem SB.one {s : Sch} (h : SB s) : s.it.length ≤ 1 := by cases h; assumption
theorem SB.nof {s : Sch} (h : SB s) (hi : s.it ≠ []) : s.f = [] := by cases h with | mk _ h1 h2 h3 h4 h5 => exact h2 hi
theorem SB.list {s : Sch} (h : SB s) (hi : s.k = 4) : s.it.length = 1 := by cases h with | mk _ h1 h2 h3 h4 h5 => exact h3 hi
theorem SB.mem_it {s x : Sch} (h : SB s) (hx : x ∈ s.it) : SB x := by cases h with | mk _ h1 h2 h3 h4 h5 => exact h4 x hx
theorem SB.mem_f {s : Sch} {p : SFld} (h : SB s) (hx : p ∈ s.f) : SB p.s := by cases h with | mk _ h1 h2 h3 h4 h5 => exact h5 p hx
def subS (s : Sch) (nm : ByteArray) : Option Sch := match s.it with | [] => (s.fld nm).map (·.s) | t :: _ => some t
theorem fld_mem {s : Sch} {nm : ByteArray} {p : SFld} (h : s.fld nm = some p) : p ∈ s.f ∧ p.nm = nm :=
 ⟨List.mem_of_find?_eq_some h, by simpa using List.find?_some h⟩
theorem subS_mem {s t : Sch} {nm : ByteArray} (h : subS s nm = some t) : t ∈ s.it ∨ ∃ p ∈ s.f, p.nm = nm ∧ p.s = t := by
 unfold subS at h
 split at h
 ·right
  rw [Option.map_eq_some_iff] at h
  obtain ⟨p, hp, rfl⟩ := h
  exact ⟨p, (fld_mem hp).1, (fld_mem hp).2, rfl⟩
 ·rename_i t' r e
  cases h
  left; rw [e]; simp
theorem SB.sub {s t : Sch} {nm : ByteArray} (hs : SB s) (h : subS s nm = some t) : SB t := by
 rcases subS_mem h with h | ⟨p, hp, _, rfl⟩
 ·exact hs.mem_it h
 ·exact hs.mem_f hp
theorem subS_mass {s t : Sch} {nm : ByteArray} (h : subS s nm = some t) : t.mass < s.mass := by
 rcases subS_mem h with h | ⟨p, hp, _, rfl⟩
 ·exact Sch.mass_it h
 ·have := Sch.mass_f hp; omega
def errAt (p : List Stp) (c : Int) : IV := .agg [.str (printB p), .int c]
def fldStp (nm : ByteArray) : Stp := ⟨1, nm, 0, emptyB⟩
def isKey (v : Val) (nm : ByteArray) : Bool := (v.get nm).isSome && decide (((v.get nm).getD zeroVal).k = 3)
def keyB (v : Val) (nm : ByteArray) : ByteArray := ((v.get nm).getD zeroVal).s
def hasKey (v : Val) (nm : ByteArray) : Bool := isKey v nm && !decide (nm = emptyB)
def elStp (key : ByteArray) (v : Val) (i : Nat) : Stp := if hasKey v key then ⟨3, key, 0, keyB v key⟩ else ⟨2, emptyB, i, emptyB⟩
def sameKey (nm : ByteArray) (k : ByteArray) (u : Val) : Bool := hasKey u nm && decide (keyB u nm = k)
def dupE (key : ByteArray) (prev : List Val) (v : Val) (q : List Stp) : List IV := if hasKey v key && prev.any (sameKey key (keyB v key)) then [errAt q 8] else []
def isHere (v : Val) (nm : ByteArray) : Bool := (v.get nm).isSome && !decide (((v.get nm).getD zeroVal).k = 0)
def miss1 (v : Val) (p : List Stp) (d : SFld) : List IV := if d.rq && !isHere v d.nm then [errAt (p ++ [fldStp d.nm]) 7] else []
def rngE (p : List Stp) (sc : Sch) (n : Int) : List IV := if decide (n < sc.mn) || decide (sc.mx < n) then [errAt p 5] else []
mutual
def errs : Val → Sch → List Stp → List IV
 | ⟨k, n, s, l, f⟩, sc, p =>
  if k = sc.k then
   if k = 2 then rngE p sc n
   else if k = 3 then (if decide ((s.size : Int) < sc.mn) || decide (sc.mx < (s.size : Int)) then [errAt p 5] else if decide (0 < sc.en.length) && !sc.en.any (fun e => decide (e = s)) then [errAt p 1] else [])
   else if k = 4 then rngE p sc l.length ++ errsL l sc.key (sc.it.headD zeroSch) p []
   else if k = 5 then errsF f sc p ++ sc.f.flatMap (miss1 ⟨k, n, s, l, f⟩ p)
   else []
  else [errAt p 6]
def errsL : List Val → ByteArray → Sch → List Stp → List Val → List IV
 | [], _, _, _, _ => []
 | v :: vs, key, t, p, prev => (errs v t (p ++ [elStp key v prev.length]) ++ dupE key prev v (p ++ [elStp key v prev.length])) ++ errsL vs key t p (prev ++ [v])
def errsF : List (ByteArray × Val) → Sch → List Stp → List IV
 | [], _, _ => []
 | (nm, v) :: fs, sc, p => (match subS sc nm with | none => [errAt (p ++ [fldStp nm]) 1] | some t => if v.k = 0 then [] else errs v t (p ++ [fldStp nm])) ++ errsF fs sc p
end
theorem errs_eq (v : Val) (sc : Sch) (p : List Stp) : errs v sc p =
  if v.k = sc.k then
   if v.k = 2 then rngE p sc v.n
   else if v.k = 3 then (if decide ((v.s.size : Int) < sc.mn) || decide (sc.mx < (v.s.size : Int)) then [errAt p 5] else if decide (0 < sc.en.length) && !sc.en.any (fun e => decide (e = v.s)) then [errAt p 1] else [])
   else if v.k = 4 then rngE p sc v.l.length ++ errsL v.l sc.key (sc.it.headD zeroSch) p []
   else if v.k = 5 then errsF v.f sc p ++ sc.f.flatMap (miss1 v p)
   else []
  else [errAt p 6] := by
 cases v; rw [errs]; rfl
def err1 (sc : Sch) (p : List Stp) (x : ByteArray × Val) : List IV := match subS sc x.1 with | none => [errAt (p ++ [fldStp x.1]) 1] | some t => if x.2.k = 0 then [] else errs x.2 t (p ++ [fldStp x.1])
theorem errsF_cons (x : ByteArray × Val) (fs : List (ByteArray × Val)) (sc : Sch) (p : List Stp) : errsF (x :: fs) sc p = err1 sc p x ++ errsF fs sc p := by
 obtain ⟨nm, v⟩ := x; rw [errsF]; rfl
theorem errsF_nil (sc : Sch) (p : List Stp) : errsF [] sc p = [] := by rw [errsF]
theorem errsL_cons (v : Val) (vs : List Val) (key : ByteArray) (t : Sch) (p : List Stp) (prev : List Val) : errsL (v :: vs) key t p prev = (errs v t (p ++ [elStp key v prev.length]) ++ dupE key prev v (p ++ [elStp key v prev.length])) ++ errsL vs key t p (prev ++ [v]) := by rw [errsL]
theorem errsL_nil (key : ByteArray) (t : Sch) (p : List Stp) (prev : List Val) : errsL [] key t p prev = [] := by rw [errsL]
theorem errsF_flat (l : List (ByteArray × Val)) (sc : Sch) (p : List Stp) : errsF l sc p = l.flatMap (err1 sc p) := by
 induction l with
 | nil => simp [errsF_nil]
 | cons x l ih => rw [errsF_cons, ih]; rfl
theorem dupE_len (key : ByteArray) (prev : List Val) (v : Val) (q : List Stp) : (dupE key prev v q).length ≤ 1 := by unfold dupE; split <;> simp
theorem miss1_len (v : Val) (p : List Stp) (d : SFld) : (miss1 v p d).length ≤ 1 := by unfold miss1; split <;> simp
theorem rngE_len (p : List Stp) (sc : Sch) (n : Int) : (rngE p sc n).length ≤ 1 := by unfold rngE; split <;> simp
theorem miss_len (v : Val) (p : List Stp) : ∀ l : List SFld, (l.flatMap (miss1 v p)).length ≤ l.length
 | [] => by simp
 | d :: l => by
  have := miss1_len v p d
  have := miss_len v p l
  simp only [List.flatMap_cons, List.length_append, List.length_cons]; omega
theorem errs_len : ∀ (v : Val) (sc : Sch) (p : List Stp), SB sc → (errs v sc p).length ≤ (2 + sc.mass) * v.size := by
 refine Val.ind fun v ih1 ih2 sc p hs => ?_
 have hpos := v.size_pos
 have one : 1 ≤ (2 + sc.mass) * v.size := by
  have : 1 * 1 ≤ (2 + sc.mass) * v.size := Nat.mul_le_mul (by omega) hpos
  omega
 have hL : ∀ (t : Sch), SB t → t.mass < sc.mass → ∀ (l : List Val), (∀ x ∈ l, ∀ sc p, SB sc → (errs x sc p).length ≤ (2 + sc.mass) * x.size) → ∀ (prev : List Val) (key : ByteArray), (errsL l key t p prev).length ≤ (2 + sc.mass) * sizeVs l := by
  intro t ht htm l
  induction l with
  | nil => intro _ prev key; rw [errsL_nil]; simp
  | cons x l ih =>
   intro h prev key
   have h1 := h x (by simp) t (p ++ [elStp key x prev.length]) ht
   have h2 := ih (fun y hy => h y (by simp [hy])) (prev ++ [x]) key
   have h3 := dupE_len key prev x (p ++ [elStp key x prev.length])
   have h4 := x.size_pos
   have h5 : (3 + t.mass) * x.size ≤ (2 + sc.mass) * x.size := Nat.mul_le_mul (by omega) (Nat.le_refl _)
   have h6 : (3 + t.mass) * x.size = (2 + t.mass) * x.size + x.size := by rw [show 3 + t.mass = (2 + t.mass) + 1 by omega, Nat.add_mul, Nat.one_mul]
   rw [errsL_cons]
   simp only [List.length_append, sizeVs, Nat.mul_add]
   omega
 have hF : ∀ (l : List (ByteArray × Val)), (∀ x ∈ l, ∀ sc p, SB sc → (errs x.2 sc p).length ≤ (2 + sc.mass) * x.2.size) → (errsF l sc p).length ≤ (2 + sc.mass) * sizeFs l := by
  intro l
  induction l with
  | nil => intro _; rw [errsF_nil]; simp
  | cons x l ih =>
   intro h
   have h2 := ih (fun y hy => h y (by simp [hy]))
   have h4 := x.2.size_pos
   have h7 : (err1 sc p x).length ≤ (2 + sc.mass) * x.2.size := by
    have h8 : 1 * 1 ≤ (2 + sc.mass) * x.2.size := Nat.mul_le_mul (by omega) h4
    unfold err1
    split
    ·simp only [List.length_singleton]; omega
    ·rename_i t ht
     split
     ·simp
     ·have h1 := h x (by simp) t (p ++ [fldStp x.1]) (hs.sub ht)
      have := subS_mass ht
      have h5 : (2 + t.mass) * x.2.size ≤ (2 + sc.mass) * x.2.size := Nat.mul_le_mul (by omega) (Nat.le_refl _)
      omega
   rw [errsF_cons]
   simp only [List.length_append, sizeFs, Nat.mul_add]
   omega
 have hsz := v.size_eq
 rw [errs_eq]
 split
 ·split
  ·have := rngE_len p sc v.n; omega
  ·split
   ·split
    ·simpa using one
    ·split
     ·simpa using one
     ·simp
   ·split
    ·rename_i hk hk2 hk3 hk4
     obtain ⟨t, ht⟩ := List.length_eq_one_iff.1 (hs.list (by omega))
     have h1 := hL t (hs.mem_it (by rw [ht]; simp)) (Sch.mass_it (by rw [ht]; simp)) v.l ih1 [] sc.key
     have h2 := rngE_len p sc v.l.length
     have h3 : (2 + sc.mass) * (1 + sizeVs v.l) ≤ (2 + sc.mass) * v.size := Nat.mul_le_mul (Nat.le_refl _) (by omega)
     rw [Nat.mul_add] at h3
     rw [ht, List.headD_cons, List.length_append]
     omega
    ·split
     ·have h1 := hF v.f ih2
      have h2 := miss_len v p sc.f
      have h4 := sc.mass_len_f
      have h3 : (2 + sc.mass) * (1 + sizeFs v.f) ≤ (2 + sc.mass) * v.size := Nat.mul_le_mul (Nat.le_refl _) (by omega)
      rw [Nat.mul_add] at h3
      rw [List.length_append]
      omega
     ·simp
 ·simpa using one
theorem app24 {n : Nat} (h : n ≤ 4398046511104) : n * 24 ≤ maxBytes := by
 have : n * 24 ≤ 4398046511104 * 24 := Nat.mul_le_mul h (Nat.le_refl _)
 unfold maxBytes; omega
theorem get_size (v : Val) (nm : ByteArray) : ((v.get nm).getD zeroVal).s.size ≤ v.mass := by
 unfold Val.get
 split
 ·cases h : v.f.find? fun p => decide (p.1 = nm) with
  | none => exact Nat.zero_le _
  | some p =>
   have h1 := Val.mass_f (List.mem_of_find?_eq_some h)
   have h2 := p.2.mass_s
   simp only [Option.map_some, Option.getD_some]; omega
 ·exact Nat.zero_le _
theorem elStp_fits (key : ByteArray) (v : Val) (i : Nat) (h1 : key.size ≤ 1048576) (h2 : v.mass ≤ 1048576) : (elStp key v i).fits := by
 have := get_size v key
 unfold elStp
 split
 ·exact ⟨by show key.size ≤ _; omega, by show (keyB v key).size ≤ _; unfold keyB; omega⟩
 ·exact ⟨by show (0 : Nat) ≤ _; omega, by show (0 : Nat) ≤ _; omega⟩
theorem fldStp_fits (nm : ByteArray) (h : nm.size ≤ 1048576) : (fldStp nm).fits := ⟨by show nm.size ≤ _; omega, by show (0 : Nat) ≤ _; omega⟩
theorem fits_snoc {p : List Stp} {x : Stp} (hp : ∀ s ∈ p, s.fits) (hx : x.fits) : ∀ s ∈ p ++ [x], s.fits := by
 intro s hs
 rcases List.mem_append.1 hs with h | h
 ·exact hp s h
 ·simp at h; subst h; exact hx
end Go.CT.Sch
namespace Go.CT.Sch
open Go.Proofs
theorem ref_keyof (v : Val) (nm : ByteArray) (hv : v.mass ≤ 1048576) : W F28 0 [v.enc, .str nm] = some [.str (keyB v nm), .bool (hasKey v nm)] := by
 rw [e_F28_0]
 unfold keyB hasKey isKey
 simp only [ref_get v nm (by omega), getIV, calls_6, O.cnd_bool, O.sNe_str, O.eq_int, Option.bind_some, ite_some, ite_ivbool, emptyB]
 cases (v.get nm).isSome <;> by_cases h1 : nm = ⟨#[]⟩ <;> by_cases h2 : ((v.get nm).getD zeroVal).k = 3 <;> simp [h1, h2]
theorem ref_element (s : Sch) (l : List Val) (i : Nat) (hi : i < l.length) (hv : l[i].mass ≤ 1048576) : W F27 0 [s.enc, .list (l.map Val.enc), .int i] = some [(elStp s.key l[i] i).enc] := by
 rw [e_F27_0]
 unfold elStp
 simp only [O.index_list, Int.natCast_nonneg, if_true, Int.toNat_natCast, List.getElem?_map, List.getElem?_eq_getElem hi, Option.map_some, Option.bind_some, Sch.proj4, ref_keyof l[i] s.key hv, O.calls_2, O.mkagg_eq, O.cnd_bool]
 split <;> rfl
theorem ref_then (p : List Stp) (s : Stp) (hl : p.length ≤ 1099511627776) : W F31 0 [.list (p.map Stp.enc), s.enc] = some [.list ((p ++ [s]).map Stp.enc)] := by
 have h1 : (0 + p.length) * 48 ≤ maxBytes := app_ok (by omega) (by omega)
 have h2 : (p.length + 1) * 48 ≤ maxBytes := by
  have : (p.length + 1) * 48 ≤ 1099511627777 * 48 := Nat.mul_le_mul (by omega) (Nat.le_refl _)
  unfold maxBytes; omega
 rw [e_F31_0]
 simp only [O.mklist_eq, Option.bind_some, O.append_list, List.length_nil, List.length_map, h1, if_true, List.nil_append, List.length_singleton, h2, List.map_append, List.map_cons, List.map_nil]
theorem ref_at (p : List Stp) (hp : ∀ s ∈ p, s.fits) (hl : p.length ≤ 1099511627776) (c : Int) : W F17 0 [.list (p.map Stp.enc), .int c] = some [.list [errAt p c]] := by
 rw [e_F17_0]
 simp only [ref_print p hp hl, O.calls_2, O.mkagg_eq, O.mklist_eq, Option.bind_some, errAt]
theorem ref_field_1 (s : Sch) (nm : ByteArray) (hs : s.mass ≤ 1099511627776) (y3 y4 y5 y6 y7 y8 y9 : IV) : ∀ (n i : Nat), i + n = s.f.length →
  W F9 1 [.str nm, .int i, s.enc, y3, y4, y5, y6, y7, y8, y9] = some [(((s.f.drop i).find? fun p => decide (p.nm = nm)).getD zeroSF).enc, .bool ((s.f.drop i).find? fun p => decide (p.nm = nm)).isSome]
 | 0, i, h => by
  rw [e_F9_1]
  have h1 : ¬ i < s.f.length := by omega
  simp [h1, List.drop_of_length_le (Nat.le_of_not_lt h1), zeroSF_enc]
 | n + 1, i, h => by
  have hi : i < s.f.length := by omega
  have hm := s.mass_len_f
  have hw := next64 (i := i) (by omega)
  have := ref_field_1 s nm hs y3 y4 y5 y6 y7 y8 y9 n (i + 1) (by omega)
  rw [e_F9_1, List.drop_eq_getElem_cons hi]
  simp only [Sch.proj6, O.len_list, List.length_map, O.lt_int, lt_cast, hi, decide_true, Option.bind_some, O.cnd_bool, if_true, O.index_list, Int.natCast_nonneg, Int.toNat_natCast, List.getElem?_map, List.getElem?_eq_getElem hi, Option.map_some, SFld.proj0, O.sEq_str, O.add_int, hw, this, List.find?_cons]
  by_cases c : s.f[i].nm = nm
  ·simp [c]
  ·have c' : decide (s.f[i].nm = nm) = false := by simpa using c
   simp only [c, c', decide_false, Bool.false_eq_true, if_false]
theorem ref_field (s : Sch) (nm : ByteArray) (hs : s.mass ≤ 1099511627776) : W F9 0 [s.enc, .str nm] = some [((s.fld nm).getD zeroSF).enc, .bool (s.fld nm).isSome] := by
 rw [e_F9_0]
 have := ref_field_1 s nm hs (.str ⟨#[]⟩) (.bool false) (.bool false) (.int 0) (.int 0) (.int 0) (.str ⟨#[]⟩) s.f.length 0 (by omega)
 simp only [List.drop_zero, Int.cast_ofNat_Int] at this
 exact this
def hereV (v : Val) (nm : ByteArray) : Val := if isHere v nm then (v.get nm).getD zeroVal else zeroVal
theorem ref_present (v : Val) (nm : ByteArray) (hv : v.mass ≤ 1048576) : W F33 0 [v.enc, .str nm] = some [.int (hereV v nm).k, .int (hereV v nm).n, .str (hereV v nm).s, .list ((hereV v nm).l.map Val.enc), .list ((hereV v nm).f.map Fld.enc), .bool (isHere v nm)] := by
 rw [e_F33_0]
 unfold hereV isHere
 simp only [ref_get v nm (by omega), getIV, calls_6, O.not_bool, O.eq_int, O.cnd_bool, Option.bind_some]
 cases (v.get nm).isSome with
 | false => rfl
 | true =>
  by_cases h : ((v.get nm).getD zeroVal).k = 0
  ·simp only [h, decide_true]; rfl
  ·simp only [h, decide_false]; rfl
theorem ref_elems_3 (s : Sch) (v : Val) (p q : List Stp) (hv : v.mass ≤ 1048576) (hq : ∀ s ∈ q, s.fits) (hl : q.length ≤ 1099511627776) (i : Nat) (hiv : i ≤ v.l.length) (key : ByteArray) (ok : Bool) (out : List IV) (ho : out.length ≤ 4398046511103) : ∀ (n j : Nat) (ag : Bool), j + n = i →
  W F26 3 [.list (p.map Stp.enc), .int i, .str key, .bool ok, .bool ag, .int j, s.enc, v.enc, .list out, .list (q.map Stp.enc)]
   = W F26 4 [.list (p.map Stp.enc), .int i, s.enc, v.enc, .list (out ++ if ag || (ok && ((v.l.take i).drop j).any (sameKey s.key key)) then [errAt q 8] else [])]
 | n, j, ag, h => by
  have hm := v.mass_len_l
  have fin : (cnd (.bool ag) (
    calls (W F17 0 [.list (q.map Stp.enc), (.int 8)]) 1 fun x12 =>
    (O.append 24 (.list out) x12).bind fun x13 =>
    W F26 4 [.list (p.map Stp.enc), .int i, s.enc, v.enc, x13]) (
    W F26 4 [.list (p.map Stp.enc), .int i, s.enc, v.enc, .list out])) = W F26 4 [.list (p.map Stp.enc), .int i, s.enc, v.enc, .list (out ++ if ag then [errAt q 8] else [])] := by
   cases ag with
   | false => simp
   | true =>
    have hap : (out.length + 1) * 24 ≤ maxBytes := app24 (by omega)
    simp only [O.cnd_bool, if_true, ref_at q hq hl 8, O.calls_1, O.append_list, List.length_singleton, hap, Option.bind_some]
  rw [e_F26_3]
  by_cases c : j < i
  ·obtain ⟨m, rfl⟩ : ∃ m, n = m + 1 := ⟨n - 1, by omega⟩
   have hj : j < v.l.length := by omega
   have hw := next64 (i := j) (by omega)
   have hx := Val.mass_l (List.getElem_mem hj)
   have hc : (j : Int) < i := by omega
   cases ok with
   | false =>
    simp only [O.lt_int, hc, decide_true, Option.bind_some, O.pick_bool, if_true, O.cnd_bool, Bool.false_eq_true, if_false]
    simp only [O.cnd_bool] at fin
    rw [fin]; simp
   | true =>
    have hk := ref_keyof v.l[j] s.key (by omega)
    have hd : (v.l.take i).drop j = v.l[j] :: (v.l.take i).drop (j + 1) := by
     rw [List.drop_eq_getElem_cons (by simp; omega), List.getElem_take]
    simp only [O.lt_int, hc, decide_true, Option.bind_some, O.pick_bool, if_true, O.cnd_bool, Val.proj3, O.index_list, Int.natCast_nonneg, Int.toNat_natCast, List.getElem?_map, List.getElem?_eq_getElem hj, Option.map_some, Sch.proj4, hk, O.calls_2, O.sEq_str, ite_some, ite_ivbool, O.add_int, hw]
    rw [ref_elems_3 s v p q hv hq hl i hiv key true out ho m (j + 1) _ (by omega), hd, List.any_cons]
    congr 6
    unfold sameKey
    cases ag <;> cases hasKey v.l[j] s.key <;> simp
  ·have hc : ¬ (j : Int) < i := by omega
   simp only [O.lt_int, hc, decide_false, Option.bind_some, O.pick_bool, Bool.false_eq_true, if_false, O.cnd_bool]
   simp only [O.cnd_bool] at fin
   rw [fin, List.drop_of_length_le (by simp; omega)]
   simp
def RefE (v : Val) : Prop := v.mass ≤ 1048576 → ∀ (s : Sch), SB s → s.mass ≤ 1048576 → ∀ p : List Stp, (∀ x ∈ p, x.fits) → p.length + v.mass ≤ 549755813888 → W F16 0 [s.enc, v.enc, .list (p.map Stp.enc)] = some [.list (errs v s p)]
theorem ref_elems_2 (s t : Sch) (v : Val) (p : List Stp) (hv : v.mass ≤ 1048576) (hs : s.mass ≤ 1048576) (ht : s.it = [t]) (hsb : SB s) (hp : ∀ s ∈ p, s.fits) (hl : p.length + v.mass ≤ 549755813888)
  (ih : ∀ x ∈ v.l, RefE x) : ∀ (n i : Nat) (out : List IV), i + n = v.l.length → out.length + (2 + s.mass) * sizeVs (v.l.drop i) ≤ 4398046511103 →
  W F26 2 [.list (p.map Stp.enc), .int i, s.enc, v.enc, .list out] = some [.list (out ++ errsL (v.l.drop i) s.key t p (v.l.take i))]
 | 0, i, out, h, hb => by
  have h1 : ¬ i < v.l.length := by omega
  rw [e_F26_2, List.drop_of_length_le (by omega), errsL_nil]
  simp only [Val.proj3, O.len_list, List.length_map, Option.bind_some, O.lt_int, lt_cast, h1, decide_false, O.cnd_bool, Bool.false_eq_true, if_false, List.append_nil]
 | n + 1, i, out, h, hb => by
  have hi : i < v.l.length := by omega
  have hm := v.mass_len_l
  have hw := next64 (i := i) (by omega)
  have hx := Val.mass_l (List.getElem_mem hi)
  have htm : t ∈ s.it := by rw [ht]; simp
  have htmass := Sch.mass_it htm
  have hd := List.drop_eq_getElem_cons hi
  have hkey := s.mass_key
  rw [hd] at hb ⊢
  rw [errsL_cons]
  have hti : (v.l.take i).length = i := by simp; omega
  have htk : v.l.take i ++ [v.l[i]] = v.l.take (i + 1) := by simp
  rw [hti, htk]
  have hq := fits_snoc hp (elStp_fits s.key v.l[i] i (by omega) (by omega))
  have he1 := ih _ (List.getElem_mem hi) (by omega) t (hsb.mem_it htm) (by omega) _ hq (by simp; omega)
  have hlen := errs_len v.l[i] t (p ++ [elStp s.key v.l[i] i]) (hsb.mem_it htm)
  have hdl := dupE_len s.key (v.l.take i) v.l[i] (p ++ [elStp s.key v.l[i] i])
  simp only [sizeVs, Nat.mul_add] at hb
  have hsz : (2 + t.mass) * v.l[i].size + 1 ≤ (2 + s.mass) * v.l[i].size := by
   have h1 := v.l[i].size_pos
   have h2 : (3 + t.mass) * v.l[i].size ≤ (2 + s.mass) * v.l[i].size := Nat.mul_le_mul (by omega) (Nat.le_refl _)
   have h3 : (3 + t.mass) * v.l[i].size = (2 + t.mass) * v.l[i].size + v.l[i].size := by rw [show 3 + t.mass = (2 + t.mass) + 1 by omega, Nat.add_mul, Nat.one_mul]
   omega
  generalize hE : errs v.l[i] t (p ++ [elStp s.key v.l[i] i]) = es1 at *
  have hap : (out.length + es1.length) * 24 ≤ maxBytes := app24 (by omega)
  have h3 := ref_elems_3 s v p (p ++ [elStp s.key v.l[i] i]) hv hq (by simp; omega) i (by omega) (keyB v.l[i] s.key) (hasKey v.l[i] s.key) (out ++ es1) (by rw [List.length_append]; omega) i 0 false (by omega)
  simp only [Int.cast_ofNat_Int, List.drop_zero, Bool.false_or] at h3
  have hdup : (if (hasKey v.l[i] s.key && (v.l.take i).any (sameKey s.key (keyB v.l[i] s.key))) = true then [errAt (p ++ [elStp s.key v.l[i] i]) 8] else []) = dupE s.key (v.l.take i) v.l[i] (p ++ [elStp s.key v.l[i] i]) := rfl
  rw [hdup] at h3
  generalize hD : dupE s.key (v.l.take i) v.l[i] (p ++ [elStp s.key v.l[i] i]) = d at *
  have h4 := ref_elems_2 s t v p hv hs ht hsb hp hl ih n (i + 1) (out ++ es1 ++ d) (by omega) (by simp only [List.length_append]; omega)
  rw [e_F26_2]
  simp only [Val.proj3, O.len_list, List.length_map, Option.bind_some, O.lt_int, lt_cast, hi, decide_true, O.cnd_bool, if_true, ref_element s v.l i hi (by omega), O.calls_1, ref_then p (elStp s.key v.l[i] i) (by omega), Sch.proj5, ht, List.map_cons, List.map_nil, O.index_list, Int.le_refl, Int.toNat_zero, List.getElem?_cons_zero, Int.natCast_nonneg, Int.toNat_natCast, List.getElem?_map, List.getElem?_eq_getElem hi, Option.map_some, he1, O.append_list, hap, Sch.proj4, ref_keyof v.l[i] s.key (by omega), O.calls_2]
  rw [h3, e_F26_4]
  simp only [O.add_int, hw, Option.bind_some]
  rw [h4]
  simp only [List.append_assoc]
theorem ref_mem_3 (s : Sch) (v : Val) (p : List Stp) (hv : v.mass ≤ 1048576) (hs : s.mass ≤ 1048576) (hp : ∀ s ∈ p, s.fits) (hl : p.length + v.mass ≤ 549755813888) : ∀ (n i : Nat) (out : List IV), i + n = s.f.length → out.length + n ≤ 4398046511103 →
  W F32 3 [.list (p.map Stp.enc), .int i, s.enc, v.enc, .list out] = some [.list (out ++ (s.f.drop i).flatMap (miss1 v p))]
 | 0, i, out, h, hb => by
  have h1 : ¬ i < s.f.length := by omega
  rw [e_F32_3, List.drop_of_length_le (by omega)]
  simp only [Sch.proj6, O.len_list, List.length_map, Option.bind_some, O.lt_int, lt_cast, h1, decide_false, O.cnd_bool, Bool.false_eq_true, if_false, List.flatMap_nil, List.append_nil]
 | n + 1, i, out, h, hb => by
  have hi : i < s.f.length := by omega
  have hm := s.mass_len_f
  have hw := next64 (i := i) (by omega)
  have hsf := Sch.mass_f (List.getElem_mem hi)
  have hq := fits_snoc hp (fldStp_fits s.f[i].nm (by omega))
  have hap : (out.length + 1) * 24 ≤ maxBytes := app24 (by omega)
  have hmk : O.mkagg [(.int 1), .str s.f[i].nm, (.int 0), (.str ⟨#[]⟩)] = some (fldStp s.f[i].nm).enc := rfl
  rw [e_F32_3, List.drop_eq_getElem_cons hi, List.flatMap_cons]
  unfold miss1
  simp only [Sch.proj6, O.len_list, List.length_map, Option.bind_some, O.lt_int, lt_cast, hi, decide_true, O.cnd_bool, if_true, O.index_list, Int.natCast_nonneg, Int.toNat_natCast, List.getElem?_map, List.getElem?_eq_getElem hi, Option.map_some, SFld.proj0, ref_present v s.f[i].nm hv, calls_6, SFld.proj1, O.not_bool, ite_some, ite_ivbool, hmk, ref_then p (fldStp s.f[i].nm) (by omega), O.calls_1, ref_at _ hq (by simp; omega), O.append_list, List.length_singleton, hap, e_F32_4, O.add_int, hw]
  have e : (if s.f[i].rq = true then !isHere v s.f[i].nm else false) = (s.f[i].rq && !isHere v s.f[i].nm) := by cases s.f[i].rq <;> simp
  rw [e]
  cases (s.f[i].rq && !isHere v s.f[i].nm) with
  | true =>
   have h1 := ref_mem_3 s v p hv hs hp hl n (i + 1) (out ++ [errAt (p ++ [fldStp s.f[i].nm]) 7]) (by omega) (by simp; omega)
   simp only [if_true, h1, List.append_assoc]
   rfl
  | false =>
   have h1 := ref_mem_3 s v p hv hs hp hl n (i + 1) out (by omega) (by omega)
   simp only [Bool.false_eq_true, if_false, h1, List.nil_append]
   rfl
theorem ref_mem_1 (s : Sch) (v : Val) (p : List Stp) (hv : v.mass ≤ 1048576) (hs : s.mass ≤ 1048576) (hsb : SB s) (hp : ∀ s ∈ p, s.fits) (hl : p.length + v.mass ≤ 549755813888)
  (ih : ∀ x ∈ v.f, RefE x.2) : ∀ (n i : Nat) (out : List IV), i + n = v.f.length → out.length + s.f.length + (2 + s.mass) * sizeFs (v.f.drop i) ≤ 4398046511103 →
  W F32 1 [.list (p.map Stp.enc), .int i, s.enc, v.enc, .list out] = some [.list (out ++ errsF (v.f.drop i) s p ++ s.f.flatMap (miss1 v p))]
 | 0, i, out, h, hb => by
  have h1 : ¬ i < v.f.length := by omega
  have h3 := ref_mem_3 s v p hv hs hp hl s.f.length 0 out (by omega) (by omega)
  simp only [Int.cast_ofNat_Int, List.drop_zero] at h3
  rw [e_F32_1, List.drop_of_length_le (by omega), errsF_nil]
  simp only [Val.proj4, O.len_list, List.length_map, Option.bind_some, O.lt_int, lt_cast, h1, decide_false, O.cnd_bool, Bool.false_eq_true, if_false, List.append_nil, h3]
 | n + 1, i, out, h, hb => by
  have hi : i < v.f.length := by omega
  have hm := v.mass_len_f
  have hw := next64 (i := i) (by omega)
  have hx := Val.mass_f (List.getElem_mem hi)
  have hd := List.drop_eq_getElem_cons hi
  rw [hd] at hb ⊢
  rw [errsF_cons]
  simp only [sizeFs, Nat.mul_add] at hb
  have hq := fits_snoc hp (fldStp_fits v.f[i].1 (by omega))
  have hmk : O.mkagg [(.int 1), .str v.f[i].1, (.int 0), (.str ⟨#[]⟩)] = some (fldStp v.f[i].1).enc := rfl
  have hpos := v.f[i].2.size_pos
  have hone : 1 ≤ (2 + s.mass) * v.f[i].2.size := by
   have : 1 * 1 ≤ (2 + s.mass) * v.f[i].2.size := Nat.mul_le_mul (by omega) hpos
   omega
  -- what this field adds
  have key : ∀ es : List IV, es.length ≤ (2 + s.mass) * v.f[i].2.size → W F32 2 [.list (p.map Stp.enc), .int i, s.enc, v.enc, .list (out ++ es)] = some [.list (out ++ (es ++ errsF (v.f.drop (i + 1)) s p) ++ s.f.flatMap (miss1 v p))] := by
   intro es hes
   have h4 := ref_mem_1 s v p hv hs hsb hp hl ih n (i + 1) (out ++ es) (by omega) (by rw [List.length_append]; omega)
   rw [e_F32_2]
   simp only [O.add_int, hw, Option.bind_some, h4, List.append_assoc]
  have sub : ∀ t : Sch, subS s v.f[i].1 = some t → ((∃ es, errs v.f[i].2 t (p ++ [fldStp v.f[i].1]) = es ∧ W F16 0 [t.enc, v.f[i].2.enc, .list ((p ++ [fldStp v.f[i].1]).map Stp.enc)] = some [.list es] ∧ es.length ≤ (2 + s.mass) * v.f[i].2.size)) := by
   intro t ht
   have htm := subS_mass ht
   have h1 := ih _ (List.getElem_mem hi) (by omega) t (hsb.sub ht) (by omega) _ hq (by simp; omega)
   have h2 := errs_len v.f[i].2 t (p ++ [fldStp v.f[i].1]) (hsb.sub ht)
   have h5 : (2 + t.mass) * v.f[i].2.size ≤ (2 + s.mass) * v.f[i].2.size := Nat.mul_le_mul (by omega) (Nat.le_refl _)
   exact ⟨_, rfl, h1, by omega⟩
  have hap : ∀ es : List IV, es.length ≤ (2 + s.mass) * v.f[i].2.size → (out.length + es.length) * 24 ≤ maxBytes := fun es h => app24 (by omega)
  rw [e_F32_1]
  simp only [Val.proj4, O.len_list, List.length_map, Option.bind_some, O.lt_int, lt_cast, hi, decide_true, O.cnd_bool, if_true, O.index_list, Int.natCast_nonneg, Int.toNat_natCast, List.getElem?_map, List.getElem?_eq_getElem hi, Option.map_some, Fld.proj0, hmk, ref_then p _ (show p.length ≤ 1099511627776 by omega), O.calls_1, ref_field s v.f[i].1 (by omega), O.calls_2, Sch.proj5, O.eq_int, O.not_bool, ite_some, ite_ivbool, Fld.proj1, O.ne_int, Fld.projV, SFld.projS]
  unfold err1
  cases hit : s.it with
  | nil =>
   have hsub : subS s v.f[i].1 = (s.fld v.f[i].1).map (·.s) := by unfold subS; rw [hit]
   rw [hsub] at sub ⊢
   simp only [List.length_nil, Int.cast_ofNat_Int, decide_true, if_true]
   cases hf : s.fld v.f[i].1 with
   | none =>
    have hap1 := hap [errAt (p ++ [fldStp v.f[i].1]) 1] (by simpa using hone)
    simp only [Option.isSome_none, Bool.not_false, if_true, ref_at _ hq (show (p ++ [fldStp v.f[i].1]).length ≤ 1099511627776 by simp; omega), O.calls_1, O.append_list, hap1, Option.bind_some, Option.map_none]
    exact key _ (by simpa using hone)
   | some d =>
    simp only [Option.isSome_some, Bool.not_true, Bool.false_eq_true, if_false, Option.map_some, Option.getD_some, show ¬ (0 : Int) = 1 by omega, decide_false, ite_self]
    by_cases hk : v.f[i].2.k = 0
    ·simp only [hk, decide_true, Bool.not_true, Bool.false_eq_true, if_false, if_true]
     have := key [] (by simp)
     simpa using this
    ·obtain ⟨es, he, h1, h2⟩ := sub d.s (by rw [hf]; rfl)
     simp only [hk, decide_false, Bool.not_false, if_true, if_false, h1, O.calls_1, O.append_list, hap es h2, Option.bind_some, he]
     exact key es h2
  | cons t r =>
   have hr : r = [] := by have := hsb.one; rw [hit] at this; simpa using this
   subst hr
   have hsub : subS s v.f[i].1 = some t := by unfold subS; rw [hit]
   rw [hsub] at sub ⊢
   simp only [List.length_cons, List.length_nil, Nat.zero_add, Int.cast_ofNat_Int, show ¬ (1 : Int) = 0 by omega, decide_false, Bool.false_eq_true, if_false, decide_true, List.map_cons, List.map_nil, Int.le_refl, if_true, Int.toNat_zero, List.getElem?_cons_zero, Option.bind_some]
   by_cases hk : v.f[i].2.k = 0
   ·simp only [hk, decide_true, Bool.not_true, Bool.false_eq_true, if_false, if_true]
    have := key [] (by simp)
    simpa using this
   ·obtain ⟨es, he, h1, h2⟩ := sub t rfl
    simp only [Option.map_some, Option.bind_some, hk, decide_false, Bool.not_false, if_true, if_false, h1, O.calls_1, O.append_list, hap es h2, Option.bind_some, he]
    exact key es h2
theorem ref_err_1 (s : Sch) (v : Val) (p : List Stp) (hp : ∀ s ∈ p, s.fits) (hl : p.length ≤ 1099511627776) (hs : s.mass ≤ 1048576) : ∀ (n i : Nat), i + n = s.en.length →
  W F16 1 [.list (p.map Stp.enc), .int i, s.enc, v.enc] = some [.list (if decide (0 < s.en.length) && !(s.en.drop i).any (fun e => decide (e = v.s)) then [errAt p 1] else [])]
 | 0, i, h => by
  have h1 : ¬ i < s.en.length := by omega
  rw [e_F16_1, List.drop_of_length_le (by omega)]
  simp only [Sch.proj3, O.len_list, List.length_map, Option.bind_some, O.lt_int, lt_cast, h1, decide_false, O.cnd_bool, Bool.false_eq_true, if_false, O.gt_int, ref_at p hp hl, O.calls_1, List.any_nil, Bool.not_false, Bool.and_true]
  have e : decide ((0 : Int) < (s.en.length : Int)) = decide (0 < s.en.length) := by simp
  rw [e]
  split <;> simp
 | n + 1, i, h => by
  have hi : i < s.en.length := by omega
  have hm := s.mass_len_en
  have hw := next64 (i := i) (by omega)
  have he := ref_err_1 s v p hp hl hs n (i + 1) (by omega)
  rw [e_F16_1, List.drop_eq_getElem_cons hi, List.any_cons]
  simp only [Sch.proj3, O.len_list, List.length_map, Option.bind_some, O.lt_int, lt_cast, hi, decide_true, O.cnd_bool, if_true, O.index_list, Int.natCast_nonneg, Int.toNat_natCast, List.getElem?_map, List.getElem?_eq_getElem hi, Option.map_some, Val.proj2, O.sEq_str, O.add_int, hw, he]
  by_cases c : s.en[i] = v.s <;> simp [c]
theorem ref_errs : ∀ v : Val, RefE v := by
 refine Val.ind fun v ih1 ih2 hv s hsb hs p hp hl => ?_
 have hat : ∀ c, W F17 0 [.list (p.map Stp.enc), .int c] = some [.list [errAt p c]] := ref_at p hp (by omega)
 have hsz := v.size_eq
 have hsm := v.size_mass
 have hlf := s.mass_len_f
 have hmul : (2 + s.mass) * v.size ≤ 1048578 * 1048576 := Nat.mul_le_mul (by omega) (by omega)
 rw [e_F16_0, errs_eq]
 simp only [Val.proj0, Sch.proj0, Option.bind_some, O.ne_int, O.cnd_bool, hat, O.calls_1]
 by_cases hk : v.k = s.k
 ·simp only [hk, decide_true, Bool.not_true, Bool.false_eq_true, if_false, if_true, O.eq_int, Option.bind_some, O.cnd_bool]
  by_cases k2 : s.k = 2
  ·simp only [k2, decide_true, if_true, Val.proj1, Sch.proj1, Sch.proj2, O.lt_int, O.gt_int, Option.bind_some, O.cnd_bool, ite_some, ite_ivbool, rngE]
   by_cases c1 : v.n < s.mn <;> by_cases c2 : s.mx < v.n <;> simp [c1, c2]
  ·by_cases k3 : s.k = 3
   ·have h1 := ref_err_1 s v p hp (by omega) hs s.en.length 0 (by omega)
    simp only [Int.cast_ofNat_Int, List.drop_zero] at h1
    simp only [k3, show ¬ (3 : Int) = 2 by omega, decide_false, Bool.false_eq_true, if_false, decide_true, if_true, Val.proj2, Sch.proj1, Sch.proj2, O.slen_str, O.lt_int, O.gt_int, Option.bind_some, O.cnd_bool, ite_some, ite_ivbool, h1]
    by_cases c1 : (v.s.size : Int) < s.mn <;> by_cases c2 : s.mx < (v.s.size : Int) <;> simp [c1, c2]
   ·by_cases k4 : s.k = 4
    ·obtain ⟨t, ht⟩ := List.length_eq_one_iff.1 (hsb.list k4)
     have hb : (2 + s.mass) * sizeVs v.l ≤ (2 + s.mass) * v.size := Nat.mul_le_mul (Nat.le_refl _) (by omega)
     have hl1 := rngE_len p s v.l.length
     have h2 := ref_elems_2 s t v p hv hs ht hsb hp hl ih1 v.l.length 0 (rngE p s v.l.length) (by omega) (by simp only [List.drop_zero]; omega)
     simp only [Int.cast_ofNat_Int, List.drop_zero, List.take_zero] at h2
     have h0 : W F26 0 [s.enc, v.enc, .list (p.map Stp.enc)] = some [.list (rngE p s v.l.length ++ errsL v.l s.key t p [])] := by
      rw [e_F26_0]
      simp only [Val.proj3, Sch.proj1, Sch.proj2, O.len_list, List.length_map, O.lt_int, O.gt_int, Option.bind_some, O.cnd_bool, ite_some, ite_ivbool, hat, O.calls_1, O.append_list, List.length_nil, List.length_singleton, List.nil_append, e_F26_1]
      have hap : (0 + 1) * 24 ≤ maxBytes := app24 (by omega)
      simp only [hap, if_true, Option.bind_some]
      revert h2
      unfold rngE
      by_cases c1 : (v.l.length : Int) < s.mn <;> by_cases c2 : s.mx < (v.l.length : Int) <;> simp [c1, c2]
     simp only [k4, show ¬ (4 : Int) = 2 by omega, show ¬ (4 : Int) = 3 by omega, decide_false, Bool.false_eq_true, if_false, decide_true, if_true, h0, O.calls_1, ht, List.headD_cons]
    ·by_cases k5 : s.k = 5
     ·have hb : (2 + s.mass) * sizeFs v.f ≤ (2 + s.mass) * v.size := Nat.mul_le_mul (Nat.le_refl _) (by omega)
      have h2 := ref_mem_1 s v p hv hs hsb hp hl ih2 v.f.length 0 [] (by omega) (by simp only [List.drop_zero, List.length_nil]; omega)
      simp only [Int.cast_ofNat_Int, List.drop_zero, List.nil_append] at h2
      have h0 : W F32 0 [s.enc, v.enc, .list (p.map Stp.enc)] = some [.list (errsF v.f s p ++ s.f.flatMap (miss1 v p))] := by
       rw [e_F32_0, h2]
      simp only [k5, show ¬ (5 : Int) = 2 by omega, show ¬ (5 : Int) = 3 by omega, show ¬ (5 : Int) = 4 by omega, decide_false, Bool.false_eq_true, if_false, decide_true, if_true, h0, O.calls_1]
     ·simp only [k2, k3, k4, k5, decide_false, Bool.false_eq_true, if_false]
 ·simp only [hk, decide_false, Bool.not_false, if_true, if_false]
end Go.CT.Sch
namespace Go.CT.Sch
open Go.Proofs
def encM (m : List (ByteArray × Bool)) : List IV := m.map fun e => .agg [.str e.1, .bool e.2]
def mlook (m : List (ByteArray × Bool)) (k : ByteArray) : Option Bool := (m.find? fun e => decide (e.1 = k)).map (·.2)
def mputB (k : ByteArray) (b : Bool) : List (ByteArray × Bool) → List (ByteArray × Bool)
 | [] => [(k, b)]
 | e :: r => if e.1 = k then (k, b) :: r else e :: mputB k b r
theorem eqLeaf_str (a b : ByteArray) : IV.eqLeaf (.str a) (.str b) = some (decide (a = b)) := by
 have : (a.toList == b.toList) = decide (a = b) := by
  rw [Bool.eq_iff_iff, beq_iff_eq, decide_eq_true_iff]; exact O.str_ext
 simp only [IV.eqLeaf, this]
theorem mfind_enc (k : ByteArray) : ∀ m : List (ByteArray × Bool), mfind (.str k) (encM m) = some ((mlook m k).map .bool)
 | [] => rfl
 | e :: r => by
  have ih := mfind_enc k r
  simp only [encM, List.map_cons, mfind, eqLeaf_str, mlook, List.find?_cons]
  by_cases c : k = e.1
  ·simp [c]
  ·have c' : ¬ e.1 = k := fun h => c h.symm
   simp only [c, c', decide_false]
   exact ih
theorem mput_enc (k : ByteArray) (b : Bool) : ∀ m : List (ByteArray × Bool), mput (.str k) (.bool b) (encM m) = some (encM (mputB k b m))
 | [] => rfl
 | e :: r => by
  have ih := mput_enc k b r
  simp only [encM, List.map_cons, mput, eqLeaf_str, mputB]
  by_cases c : k = e.1
  ·simp [c]
  ·have c' : ¬ e.1 = k := fun h => c h.symm
   simp only [c, c', decide_false, if_false]
   unfold encM at ih
   rw [ih]; rfl
theorem mlook_put (k j : ByteArray) (b : Bool) : ∀ m : List (ByteArray × Bool), mlook (mputB k b m) j = if k = j then some b else mlook m j
 | [] => by simp only [mputB, mlook, List.find?_cons, List.find?_nil]; by_cases c : k = j <;> simp [c]
 | e :: r => by
  have ih := mlook_put k j b r
  unfold mlook at ih ⊢
  unfold mputB
  by_cases c : e.1 = k
  ·simp only [c, if_true, List.find?_cons]
   by_cases c2 : k = j <;> simp [c2]
  ·simp only [c, if_false, List.find?_cons]
   by_cases c2 : e.1 = j
   ·have : ¬ k = j := fun h => c (c2.trans h.symm)
    simp [c2, this]
   ·simp only [c2, decide_false, ih]
theorem mget_enc (m : List (ByteArray × Bool)) (k : ByteArray) : O.mget (.bool false) (.list (encM m)) (.str k) = some (.bool ((mlook m k).getD false)) := by
 unfold O.mget
 simp only [Prim.ev, mfind_enc, Option.map_some]
 cases mlook m k <;> rfl
theorem mhas_enc (m : List (ByteArray × Bool)) (k : ByteArray) : O.mhas (.list (encM m)) (.str k) = some (.bool (mlook m k).isSome) := by
 unfold O.mhas
 simp only [Prim.ev, mfind_enc, Option.map_some, Option.isSome_map]
theorem mset_enc (m : List (ByteArray × Bool)) (k : ByteArray) (b : Bool) : O.mset (.list (encM m)) (.str k) (.bool b) = some (.list (encM (mputB k b m))) := by
 unfold O.mset
 simp only [Prim.ev, mput_enc, Option.map_some]
theorem pg_get (v : Val) (nm : ByteArray) (hv : v.mass ≤ 4294967296) : W F96 0 [v.enc, .str nm] = some (getIV (v.get nm)) := val_getW v nm (wide_mass v (by omega))
theorem pg_key (v : Val) (nm : ByteArray) (hv : v.mass ≤ 1048576) : W F95 0 [v.enc, .str nm] = some [.str (keyB v nm), .bool (isKey v nm)] := by
 rw [e_F95_0]
 unfold keyB isKey
 simp only [pg_get v nm (by omega), getIV, calls_6, O.cnd_bool, O.eq_int, Option.bind_some, ite_some, ite_ivbool]
 cases (v.get nm).isSome <;> simp
theorem pg_element (s : Sch) (v : Val) (i : Int) (hv : v.mass ≤ 1048576) : W F94 0 [s.enc, .int i, v.enc] = some [.agg [.int (if hasKey v s.key then 3 else 2), .str (if hasKey v s.key then s.key else emptyB), .int (if hasKey v s.key then 0 else i), .str (if hasKey v s.key then keyB v s.key else emptyB)]] := by
 rw [e_F94_0]
 have e : (if isKey v s.key = true then !decide (s.key = (⟨#[]⟩ : ByteArray)) else false) = hasKey v s.key := by unfold hasKey emptyB; cases isKey v s.key <;> simp
 simp only [Sch.proj4, Option.bind_some, pg_key v s.key hv, O.calls_2, O.sNe_str, O.cnd_bool, ite_some, ite_ivbool, e, O.mkagg_eq]
 cases hasKey v s.key <;> rfl
theorem pg_element' (s : Sch) (v : Val) (i : Nat) (hv : v.mass ≤ 1048576) : W F94 0 [s.enc, .int i, v.enc] = some [(elStp s.key v i).enc] := by
 rw [pg_element s v i hv]
 unfold elStp
 cases hasKey v s.key <;> rfl
theorem pg_member (nm : ByteArray) : W F102 0 [.str nm] = some [(fldStp nm).enc] := by
 rw [e_F102_0]; rfl
theorem pg_then (p : List Stp) (s : Stp) (hl : p.length ≤ 1073741824) : W F97 0 [.list (p.map Stp.enc), s.enc] = some [.list ((p ++ [s]).map Stp.enc)] := by
 have h2 : ((p.map Stp.enc).length + [s.enc].length) * 48 ≤ maxBytes := by
  have : (p.length + 1) * 48 ≤ 1099511627777 * 48 := Nat.mul_le_mul (by omega) (Nat.le_refl _)
  simp only [List.length_map, List.length_singleton]
  unfold maxBytes; omega
 have h1 : O.cloneF [.list (p.map Stp.enc)] = some [.list (p.map Stp.enc)] := cloneF_list (by rw [List.length_map]; omega)
 rw [e_F97_0]
 simp only [e_F98, h1, O.calls_1, e_F99, O.clipF_list, O.mklist_eq, Option.bind_some, O.appendN_list (n := 48) (by simp) h2, List.map_append, List.map_cons, List.map_nil]
theorem pg_add (out : List IV) (p : List Stp) (c : Int) (hp : ∀ s ∈ p, s.fits) (hl : p.length ≤ 1099511627776) (ho : out.length ≤ 4398046511103) : W F73 0 [.list out, .list (p.map Stp.enc), .int c] = some [.list (out ++ [errAt p c])] := by
 have hap : (out.length + 1) * 24 ≤ maxBytes := app24 (by omega)
 rw [e_F73_0]
 simp only [pp_print p hp hl, O.calls_2, O.mkagg_eq, O.mklist_eq, Option.bind_some, O.append_list, List.length_singleton, hap, if_true, errAt]
theorem pg_dict (s : Sch) : W F100 0 [s.enc] = some [.bool (decide (s.k = 5) && decide (0 < s.it.length))] := by
 rw [e_F100_0]
 by_cases k5 : s.k = 5 <;> simp [k5]
theorem pg_struct (s : Sch) : W F52 0 [s.enc] = some [.bool (decide (s.k = 5) && decide (s.it.length = 0))] := by
 rw [e_F52_0]
 by_cases k5 : s.k = 5 <;> simp [k5]
theorem pg_index (s : Sch) (nm : ByteArray) (hs : s.mass ≤ 1099511627776) : ∀ (n i : Nat), i + n = s.f.length →
  ∃ r : Int, W F50 1 [.list (s.f.map SFld.enc), .str nm, .int s.f.length, .int i] = some [.int r] ∧
   ((((s.f.drop i).find? fun p => decide (p.nm = nm)) = none ∧ r < 0) ∨ (∃ j : Nat, r = j ∧ s.f[j]? = ((s.f.drop i).find? fun p => decide (p.nm = nm)) ∧ ((s.f.drop i).find? fun p => decide (p.nm = nm)).isSome = true))
 | 0, i, h => by
  rw [e_F50_1]
  have h1 : ¬ i < s.f.length := by omega
  refine ⟨-1, by simp [h1], .inl ⟨by simp [List.drop_of_length_le (Nat.le_of_not_lt h1)], by omega⟩⟩
 | n + 1, i, h => by
  have hi : i < s.f.length := by omega
  have hm := s.mass_len_f
  have hw := next64 (i := i) (by omega)
  obtain ⟨r, hr, h2⟩ := pg_index s nm hs n (i + 1) (by omega)
  rw [e_F50_1, List.drop_eq_getElem_cons hi, List.find?_cons]
  simp only [O.lt_int, lt_cast, hi, decide_true, Option.bind_some, O.cnd_bool, if_true, O.index_list, Int.natCast_nonneg, Int.toNat_natCast, List.getElem?_map, List.getElem?_eq_getElem hi, Option.map_some, e_F51_0, SFld.proj0, O.sEq_str, O.calls_1, O.add_int, hw, hr]
  by_cases c : s.f[i].nm = nm
  ·refine ⟨i, by simp [c], .inr ⟨i, rfl, by simp [c], by simp [c]⟩⟩
  ·have c' : decide (s.f[i].nm = nm) = false := by simpa using c
   simp only [c', Bool.false_eq_true, if_false]
   exact ⟨r, rfl, h2⟩
theorem pg_field (s : Sch) (nm : ByteArray) (hs : s.mass ≤ 1099511627776) : W F49 0 [s.enc, .str nm] =
  some [(if s.k = 5 ∧ s.it.length = 0 then (s.fld nm).getD zeroSF else zeroSF).enc, .bool (decide (s.k = 5 ∧ s.it.length = 0) && (s.fld nm).isSome)] := by
 obtain ⟨r, hr, h2⟩ := pg_index s nm hs s.f.length 0 (by omega)
 have hr' : W F50 0 [.list (s.f.map SFld.enc), .str nm] = some [.int r] := by
  rw [e_F50_0]
  simpa using hr
 simp only [List.drop_zero] at h2
 have hf : (s.f.find? fun p => decide (p.nm = nm)) = s.fld nm := rfl
 rw [hf] at h2
 have hst := pg_struct s
 rw [e_F49_0]
 simp only [Sch.proj6, Option.bind_some, hr', O.calls_1, O.lt_int, O.cnd_bool, hst, O.not_bool, O.mkagg_eq, ite_some, ite_ivbool]
 rcases h2 with ⟨h3, h4⟩ | ⟨j, rfl, h3, h4⟩
 ·rw [h3]
  simp only [h4, decide_true, if_true, Option.getD_none, ite_self, Option.isSome_none, Bool.and_false]
  rfl
 ·have hj : ¬ (j : Int) < 0 := by omega
  obtain ⟨d, hd⟩ := Option.isSome_iff_exists.1 h4
  rw [hd] at h3 ⊢
  simp only [hj, decide_false, Bool.false_eq_true, if_false, O.index_list, Int.natCast_nonneg, if_true, Int.toNat_natCast, List.getElem?_map, h3, Option.map_some, Option.getD_some, Option.isSome_some, Bool.and_true, Option.bind_some]
  by_cases c1 : s.k = 5 <;> by_cases c2 : s.it.length = 0 <;> simp [c1, c2, zeroSF_enc]
theorem pg_present (v : Val) (nm : ByteArray) (hv : v.mass ≤ 1048576) : ∃ w : Val, W F103 0 [v.enc, .str nm] = some [.int w.k, .int w.n, .str w.s, .list (w.l.map Val.enc), .list (w.f.map Fld.enc), .bool (isHere v nm)] ∧ w = (v.get nm).getD zeroVal := by
 rw [e_F103_0]
 unfold isHere
 refine ⟨_, ?_, rfl⟩
 simp only [pg_get v nm (by omega), getIV, calls_6, O.ne_int, O.cnd_bool, Option.bind_some, ite_some, ite_ivbool]
 cases (v.get nm).isSome <;> simp
theorem pg_contains_1 (l : List ByteArray) (x : ByteArray) (hl : l.length ≤ 1099511627776) : ∀ (n i : Nat), i + n = l.length →
  ∃ r : Int, W F92 1 [.list (l.map .str), .str x, .int l.length, .int i] = some [.int r] ∧ (decide (0 ≤ r) = (l.drop i).any fun e => decide (e = x))
 | 0, i, h => by
  rw [e_F92_1]
  have h1 : ¬ i < l.length := by omega
  refine ⟨-1, by simp [h1], by simp [List.drop_of_length_le (Nat.le_of_not_lt h1)]⟩
 | n + 1, i, h => by
  have hi : i < l.length := by omega
  have hw := next64 (i := i) (by omega)
  obtain ⟨r, hr, h2⟩ := pg_contains_1 l x hl n (i + 1) (by omega)
  rw [e_F92_1, List.drop_eq_getElem_cons hi, List.any_cons]
  simp only [O.lt_int, lt_cast, hi, decide_true, Option.bind_some, O.cnd_bool, if_true, O.index_list, Int.natCast_nonneg, Int.toNat_natCast, List.getElem?_map, List.getElem?_eq_getElem hi, Option.map_some, O.sEq_str, O.add_int, hw, hr]
  by_cases c : x = l[i]
  ·refine ⟨i, by simp [c], by simp [c]⟩
  ·have c' : ¬ l[i] = x := fun h => c h.symm
   simp only [c, decide_false, Bool.false_eq_true, if_false]
   exact ⟨r, rfl, by simp [c', h2]⟩
theorem pg_contains (l : List ByteArray) (x : ByteArray) (hl : l.length ≤ 1099511627776) : W F91 0 [.list (l.map .str), .str x] = some [.bool (l.any fun e => decide (e = x))] := by
 obtain ⟨r, hr, h2⟩ := pg_contains_1 l x hl l.length 0 (by omega)
 have hr' : W F92 0 [.list (l.map .str), .str x] = some [.int r] := by
  rw [e_F92_0]; simpa using hr
 rw [e_F91_0]
 simp only [hr', O.calls_1, O.ge_int, Option.bind_some, h2, List.drop_zero]
def PgE (v : Val) : Prop := v.mass ≤ 1048576 → ∀ (s : Sch), SB s → s.mass ≤ 1048576 → ∀ (p : List Stp) (out : List IV), (∀ x ∈ p, x.fits) → p.length + v.mass ≤ 1073741824 → out.length + (2 + s.mass) * v.size ≤ 4398046511103 →
 W F72 0 [.list out, s.enc, v.enc, .list (p.map Stp.enc)] = some [.list (out ++ errs v s p)]
theorem pg_list_2 (s t : Sch) (v : Val) (p : List Stp) (hv : v.mass ≤ 1048576) (hs : s.mass ≤ 1048576) (ht : s.it = [t]) (hsb : SB s) (hp : ∀ s ∈ p, s.fits) (hl : p.length + v.mass ≤ 1073741824)
  (ih : ∀ x ∈ v.l, PgE x) : ∀ (n i : Nat) (out : List IV) (m : List (ByteArray × Bool)), i + n = v.l.length → out.length + (2 + s.mass) * sizeVs (v.l.drop i) ≤ 4398046511103 →
  (∀ k, (mlook m k).getD false = (v.l.take i).any (sameKey s.key k)) →
  W F93 2 [.list (p.map Stp.enc), .list (v.l.map Val.enc), .int v.l.length, .int i, s.enc, .list (encM m), .list out] = some [.list (out ++ errsL (v.l.drop i) s.key t p (v.l.take i))]
 | 0, i, out, m, h, hb, hM => by
  have h1 : ¬ i < v.l.length := by omega
  rw [e_F93_2, List.drop_of_length_le (by omega), errsL_nil]
  simp only [O.lt_int, lt_cast, h1, decide_false, Option.bind_some, O.cnd_bool, Bool.false_eq_true, if_false, List.append_nil]
 | n + 1, i, out, m, h, hb, hM => by
  have hi : i < v.l.length := by omega
  have hm := v.mass_len_l
  have hw := next64 (i := i) (by omega)
  have hx := Val.mass_l (List.getElem_mem hi)
  have htm : t ∈ s.it := by rw [ht]; simp
  have htmass := Sch.mass_it htm
  have hd := List.drop_eq_getElem_cons hi
  have hkey := s.mass_key
  rw [hd] at hb ⊢
  rw [errsL_cons]
  have hti : (v.l.take i).length = i := by simp; omega
  have htk : v.l.take i ++ [v.l[i]] = v.l.take (i + 1) := by simp
  rw [hti, htk]
  have hq := fits_snoc hp (elStp_fits s.key v.l[i] i (by omega) (by omega))
  have hlen := errs_len v.l[i] t (p ++ [elStp s.key v.l[i] i]) (hsb.mem_it htm)
  have hdl := dupE_len s.key (v.l.take i) v.l[i] (p ++ [elStp s.key v.l[i] i])
  simp only [sizeVs, Nat.mul_add] at hb
  have hsz : (2 + t.mass) * v.l[i].size + 1 ≤ (2 + s.mass) * v.l[i].size := by
   have h1 := v.l[i].size_pos
   have h2 : (3 + t.mass) * v.l[i].size ≤ (2 + s.mass) * v.l[i].size := Nat.mul_le_mul (by omega) (Nat.le_refl _)
   have h3 : (3 + t.mass) * v.l[i].size = (2 + t.mass) * v.l[i].size + v.l[i].size := by rw [show 3 + t.mass = (2 + t.mass) + 1 by omega, Nat.add_mul, Nat.one_mul]
   omega
  have he1 := ih _ (List.getElem_mem hi) (by omega) t (hsb.mem_it htm) (by omega) (p ++ [elStp s.key v.l[i] i]) out hq (by simp; omega) (by omega)
  generalize hE : errs v.l[i] t (p ++ [elStp s.key v.l[i] i]) = es1 at *
  have hany : ∀ k, (v.l.take (i + 1)).any (sameKey s.key k) = ((v.l.take i).any (sameKey s.key k) || sameKey s.key k v.l[i]) := by
   intro k; rw [← htk, List.any_append]; simp
  have go : ∀ (es : List IV) (m' : List (ByteArray × Bool)), es.length ≤ (2 + s.mass) * v.l[i].size → (∀ k, (mlook m' k).getD false = (v.l.take (i + 1)).any (sameKey s.key k)) →
    W F93 4 [.list (p.map Stp.enc), .list (v.l.map Val.enc), .int v.l.length, .int i, s.enc, .list (encM m'), .list (out ++ es)] = some [.list (out ++ (es ++ errsL (v.l.drop (i + 1)) s.key t p (v.l.take (i + 1))))] := by
   intro es m' hes hM'
   have h4 := pg_list_2 s t v p hv hs ht hsb hp hl ih n (i + 1) (out ++ es) m' (by omega) (by rw [List.length_append]; omega) hM'
   rw [e_F93_4]
   simp only [O.add_int, hw, Option.bind_some]
   rw [h4, List.append_assoc]
  have ek : (if isKey v.l[i] s.key = true then !decide (s.key = (⟨#[]⟩ : ByteArray)) else false) = hasKey v.l[i] s.key := by unfold hasKey emptyB; cases isKey v.l[i] s.key <;> simp
  rw [e_F93_2]
  simp only [O.lt_int, lt_cast, hi, decide_true, Option.bind_some, O.cnd_bool, if_true, O.index_list, Int.natCast_nonneg, Int.toNat_natCast, List.getElem?_map, List.getElem?_eq_getElem hi, Option.map_some, pg_element' s v.l[i] i (by omega), O.calls_1, pg_then p (elStp s.key v.l[i] i) (by omega), Sch.proj5, ht, List.map_cons, List.map_nil, Int.le_refl, Int.toNat_zero, List.getElem?_cons_zero, he1, Sch.proj4, pg_key v.l[i] s.key (by omega), O.calls_2, O.sNe_str, ite_some, ite_ivbool, ek, mget_enc, mhas_enc, hM]
  unfold dupE
  cases hk : hasKey v.l[i] s.key with
  | false =>
   simp only [Bool.false_eq_true, if_false, Bool.false_and, List.append_nil]
   refine go es1 m (by omega) fun k => ?_
   rw [hM, hany]
   simp [sameKey, hk]
  | true =>
   have hM' : ∀ k, (mlook (mputB (keyB v.l[i] s.key) true m) k).getD false = (v.l.take (i + 1)).any (sameKey s.key k) := by
    intro k
    rw [mlook_put, hany]
    unfold sameKey at hM ⊢
    by_cases c : keyB v.l[i] s.key = k
    ·simp [c, hk]
    ·simp [c, hM]
   simp only [if_true, Bool.true_and]
   cases hdup : (v.l.take i).any (sameKey s.key (keyB v.l[i] s.key)) with
   | true =>
    simp only [if_true, pg_add _ _ 8 hq (show (p ++ [elStp s.key v.l[i] i]).length ≤ 1099511627776 by simp; omega) (show (out ++ es1).length ≤ 4398046511103 by rw [List.length_append]; omega), O.calls_1, e_F93_3, mset_enc, Option.bind_some]
    have h5 := go (es1 ++ [errAt (p ++ [elStp s.key v.l[i] i]) 8]) _ (by simp; omega) hM'
    simp only [← List.append_assoc] at h5 ⊢
    exact h5
   | false =>
    simp only [Bool.false_eq_true, if_false, e_F93_3, mset_enc, Option.bind_some, List.append_nil]
    exact go es1 _ (by omega) hM'
theorem pg_str_3 (s : Sch) (v : Val) (p : List Stp) (hv : v.mass ≤ 1048576) (hs : s.mass ≤ 1048576) (hp : ∀ s ∈ p, s.fits) (hl : p.length + v.mass ≤ 1073741824) : ∀ (n i : Nat) (out : List IV), i + n = s.f.length → out.length + n ≤ 4398046511103 →
  W F101 3 [.list (p.map Stp.enc), .list (s.f.map SFld.enc), .int s.f.length, .int i, v.enc, .list out] = some [.list (out ++ (s.f.drop i).flatMap (miss1 v p))]
 | 0, i, out, h, hb => by
  have h1 : ¬ i < s.f.length := by omega
  rw [e_F101_3, List.drop_of_length_le (by omega)]
  simp only [Option.bind_some, O.lt_int, lt_cast, h1, decide_false, O.cnd_bool, Bool.false_eq_true, if_false, List.flatMap_nil, List.append_nil]
 | n + 1, i, out, h, hb => by
  have hi : i < s.f.length := by omega
  have hm := s.mass_len_f
  have hw := next64 (i := i) (by omega)
  have hsf := Sch.mass_f (List.getElem_mem hi)
  have hq := fits_snoc hp (fldStp_fits s.f[i].nm (by omega))
  obtain ⟨w, hw1, _⟩ := pg_present v s.f[i].nm hv
  rw [e_F101_3, List.drop_eq_getElem_cons hi, List.flatMap_cons]
  unfold miss1
  have e : (if s.f[i].rq = true then !isHere v s.f[i].nm else false) = (s.f[i].rq && !isHere v s.f[i].nm) := by cases s.f[i].rq <;> simp
  simp only [Option.bind_some, O.lt_int, lt_cast, hi, decide_true, O.cnd_bool, if_true, O.index_list, Int.natCast_nonneg, Int.toNat_natCast, List.getElem?_map, List.getElem?_eq_getElem hi, Option.map_some, SFld.proj0, hw1, calls_6, SFld.proj1, O.not_bool, ite_some, ite_ivbool, pg_member, O.calls_1, pg_then p (fldStp s.f[i].nm) (by omega), pg_add out _ 7 hq (show (p ++ [fldStp s.f[i].nm]).length ≤ 1099511627776 by simp; omega) (by omega), e_F101_4, O.add_int, hw, e]
  cases (s.f[i].rq && !isHere v s.f[i].nm) with
  | true =>
   have h1 := pg_str_3 s v p hv hs hp hl n (i + 1) (out ++ [errAt (p ++ [fldStp s.f[i].nm]) 7]) (by omega) (by simp; omega)
   simp only [if_true, h1, List.append_assoc]
   rfl
  | false =>
   have h1 := pg_str_3 s v p hv hs hp hl n (i + 1) out (by omega) (by omega)
   simp only [Bool.false_eq_true, if_false, h1, List.nil_append]
   rfl
theorem pg_sub (s : Sch) (v : Val) (p : List Stp) (hv : v.mass ≤ 1048576) (hs : s.mass ≤ 1048576) (hsb : SB s) (hp : ∀ s ∈ p, s.fits) (hl : p.length + v.mass ≤ 1073741824) (ih : ∀ x ∈ v.f, PgE x.2) (i : Nat) (hi : i < v.f.length) (out : List IV) (hb : out.length + (2 + s.mass) * v.f[i].2.size ≤ 4398046511103) (t : Sch) (ht : subS s v.f[i].1 = some t) :
  W F72 0 [.list out, t.enc, v.f[i].2.enc, .list ((p ++ [fldStp v.f[i].1]).map Stp.enc)] = some [.list (out ++ errs v.f[i].2 t (p ++ [fldStp v.f[i].1]))] ∧ (errs v.f[i].2 t (p ++ [fldStp v.f[i].1])).length ≤ (2 + s.mass) * v.f[i].2.size := by
 have hm := v.mass_len_f
 have hx := Val.mass_f (List.getElem_mem hi)
 have hq := fits_snoc hp (fldStp_fits v.f[i].1 (by omega))
 have htm := subS_mass ht
 have h2 := errs_len v.f[i].2 t (p ++ [fldStp v.f[i].1]) (hsb.sub ht)
 have h5 : (2 + t.mass) * v.f[i].2.size ≤ (2 + s.mass) * v.f[i].2.size := Nat.mul_le_mul (by omega) (Nat.le_refl _)
 exact ⟨ih _ (List.getElem_mem hi) (by omega) t (hsb.sub ht) (by omega) _ out hq (by simp; omega) (by omega), by omega⟩
theorem pg_dict_1 (s t : Sch) (v : Val) (p : List Stp) (hv : v.mass ≤ 1048576) (hs : s.mass ≤ 1048576) (ht : s.it = [t]) (hsb : SB s) (hp : ∀ s ∈ p, s.fits) (hl : p.length + v.mass ≤ 1073741824)
  (ih : ∀ x ∈ v.f, PgE x.2) : ∀ (n i : Nat) (out : List IV), i + n = v.f.length → out.length + (2 + s.mass) * sizeFs (v.f.drop i) ≤ 4398046511103 →
  W F72 1 [.list (p.map Stp.enc), .list (v.f.map Fld.enc), .int v.f.length, .int i, s.enc, .list out] = some [.list (out ++ errsF (v.f.drop i) s p)]
 | 0, i, out, h, hb => by
  have h1 : ¬ i < v.f.length := by omega
  rw [e_F72_1, List.drop_of_length_le (by omega), errsF_nil]
  simp only [O.lt_int, lt_cast, h1, decide_false, Option.bind_some, O.cnd_bool, Bool.false_eq_true, if_false, List.append_nil]
 | n + 1, i, out, h, hb => by
  have hi : i < v.f.length := by omega
  have hm := v.mass_len_f
  have hw := next64 (i := i) (by omega)
  have hd := List.drop_eq_getElem_cons hi
  rw [hd] at hb ⊢
  rw [errsF_cons]
  simp only [sizeFs, Nat.mul_add] at hb
  have hsub : subS s v.f[i].1 = some t := by unfold subS; rw [ht]
  have key : ∀ es : List IV, es.length ≤ (2 + s.mass) * v.f[i].2.size → W F72 2 [.list (p.map Stp.enc), .list (v.f.map Fld.enc), .int v.f.length, .int i, s.enc, .list (out ++ es)] = some [.list (out ++ (es ++ errsF (v.f.drop (i + 1)) s p))] := by
   intro es hes
   have h4 := pg_dict_1 s t v p hv hs ht hsb hp hl ih n (i + 1) (out ++ es) (by omega) (by rw [List.length_append]; omega)
   rw [e_F72_2]
   simp only [O.add_int, hw, Option.bind_some, h4, List.append_assoc]
  obtain ⟨h1, h2⟩ := pg_sub s v p hv hs hsb hp hl ih i hi out (by omega) t hsub
  rw [e_F72_1]
  unfold err1
  rw [hsub]
  simp only [O.lt_int, lt_cast, hi, decide_true, Option.bind_some, O.cnd_bool, if_true, O.index_list, Int.natCast_nonneg, Int.toNat_natCast, List.getElem?_map, List.getElem?_eq_getElem hi, Option.map_some, Fld.proj1, O.ne_int, Sch.proj5, ht, List.map_cons, List.map_nil, Int.le_refl, Int.toNat_zero, List.getElem?_cons_zero, Fld.projV, Fld.proj0, pg_member, O.calls_1, pg_then p (fldStp v.f[i].1) (by omega), h1]
  by_cases hk : v.f[i].2.k = 0
  ·simp only [hk, decide_true, Bool.not_true, Bool.false_eq_true, if_false, if_true]
   have := key [] (by simp)
   simpa using this
  ·simp only [hk, decide_false, Bool.not_false, if_true, if_false]
   exact key _ h2
theorem pg_str_1 (s : Sch) (v : Val) (p : List Stp) (hv : v.mass ≤ 1048576) (hs : s.mass ≤ 1048576) (hk5 : s.k = 5) (hit : s.it = []) (hsb : SB s) (hp : ∀ s ∈ p, s.fits) (hl : p.length + v.mass ≤ 1073741824)
  (ih : ∀ x ∈ v.f, PgE x.2) : ∀ (n i : Nat) (out : List IV), i + n = v.f.length → out.length + s.f.length + (2 + s.mass) * sizeFs (v.f.drop i) ≤ 4398046511103 →
  W F101 1 [.list (p.map Stp.enc), .list (v.f.map Fld.enc), .int v.f.length, .int i, s.enc, v.enc, .list out] = some [.list (out ++ errsF (v.f.drop i) s p ++ s.f.flatMap (miss1 v p))]
 | 0, i, out, h, hb => by
  have h1 : ¬ i < v.f.length := by omega
  have h3 := pg_str_3 s v p hv hs hp hl s.f.length 0 out (by omega) (by omega)
  simp only [Int.cast_ofNat_Int, List.drop_zero] at h3
  rw [e_F101_1, List.drop_of_length_le (by omega), errsF_nil]
  simp only [O.lt_int, lt_cast, h1, decide_false, Option.bind_some, O.cnd_bool, Bool.false_eq_true, if_false, Sch.proj6, O.len_list, List.length_map, h3, List.append_nil]
 | n + 1, i, out, h, hb => by
  have hi : i < v.f.length := by omega
  have hm := v.mass_len_f
  have hw := next64 (i := i) (by omega)
  have hx := Val.mass_f (List.getElem_mem hi)
  have hd := List.drop_eq_getElem_cons hi
  rw [hd] at hb ⊢
  rw [errsF_cons]
  simp only [sizeFs, Nat.mul_add] at hb
  have hpos := v.f[i].2.size_pos
  have hone : 1 ≤ (2 + s.mass) * v.f[i].2.size := by
   have : 1 * 1 ≤ (2 + s.mass) * v.f[i].2.size := Nat.mul_le_mul (by omega) hpos
   omega
  have hq := fits_snoc hp (fldStp_fits v.f[i].1 (by omega))
  have hsub : subS s v.f[i].1 = (s.fld v.f[i].1).map (·.s) := by unfold subS; rw [hit]
  have key : ∀ es : List IV, es.length ≤ (2 + s.mass) * v.f[i].2.size → W F101 2 [.list (p.map Stp.enc), .list (v.f.map Fld.enc), .int v.f.length, .int i, s.enc, v.enc, .list (out ++ es)] = some [.list (out ++ (es ++ errsF (v.f.drop (i + 1)) s p) ++ s.f.flatMap (miss1 v p))] := by
   intro es hes
   have h4 := pg_str_1 s v p hv hs hk5 hit hsb hp hl ih n (i + 1) (out ++ es) (by omega) (by rw [List.length_append]; omega)
   rw [e_F101_2]
   simp only [O.add_int, hw, Option.bind_some, h4, List.append_assoc]
  rw [e_F101_1]
  unfold err1
  simp only [O.lt_int, lt_cast, hi, decide_true, Option.bind_some, O.cnd_bool, if_true, O.index_list, Int.natCast_nonneg, Int.toNat_natCast, List.getElem?_map, List.getElem?_eq_getElem hi, Option.map_some, Fld.proj0, pg_member, O.calls_1, pg_then p (fldStp v.f[i].1) (by omega), pg_field s v.f[i].1 (by omega), O.calls_2, hk5, hit, List.length_nil, and_self, decide_true, Bool.true_and, O.not_bool, Fld.proj1, O.ne_int, Fld.projV, SFld.projS]
  rw [hsub]
  cases hf : s.fld v.f[i].1 with
  | none =>
   simp only [Option.isSome_none, Bool.not_false, if_true, pg_add out _ 1 hq (show (p ++ [fldStp v.f[i].1]).length ≤ 1099511627776 by simp; omega) (by omega), O.calls_1, Option.map_none]
   exact key _ (by simpa using hone)
  | some d =>
   simp only [Option.isSome_some, Bool.not_true, Bool.false_eq_true, if_false, Option.map_some, Option.getD_some]
   by_cases hk : v.f[i].2.k = 0
   ·simp only [hk, decide_true, Bool.not_true, Bool.false_eq_true, if_false, if_true]
    have := key [] (by simp)
    simpa using this
   ·obtain ⟨h1, h2⟩ := pg_sub s v p hv hs hsb hp hl ih i hi out (by omega) d.s (by rw [hsub, hf]; rfl)
    simp only [hk, decide_false, Bool.not_false, if_true, if_false, h1, O.calls_1]
    exact key _ h2
theorem pg_check : ∀ v : Val, PgE v := by
 refine Val.ind fun v ih1 ih2 hv s hsb hs p out hp hl hb => ?_
 have hpos := v.size_pos
 have hone : 1 ≤ (2 + s.mass) * v.size := by
  have : 1 * 1 ≤ (2 + s.mass) * v.size := Nat.mul_le_mul (by omega) hpos
  omega
 have hat : ∀ c, W F73 0 [.list out, .list (p.map Stp.enc), .int c] = some [.list (out ++ [errAt p c])] := fun c => pg_add out p c hp (by omega) (by omega)
 have hsz := v.size_eq
 have hlf := s.mass_len_f
 have hle := s.mass_len_en
 rw [e_F72_0, errs_eq]
 simp only [Val.proj0, Sch.proj0, Option.bind_some, O.ne_int, O.cnd_bool, hat, O.calls_1]
 by_cases hk : v.k = s.k
 ·simp only [hk, decide_true, Bool.not_true, Bool.false_eq_true, if_false, if_true, O.eq_int, Option.bind_some, O.cnd_bool]
  by_cases k2 : s.k = 2
  ·simp only [k2, decide_true, if_true, Val.proj1, Sch.proj1, Sch.proj2, O.lt_int, O.gt_int, Option.bind_some, O.cnd_bool, ite_some, ite_ivbool, rngE]
   by_cases c1 : v.n < s.mn <;> by_cases c2 : s.mx < v.n <;> simp [c1, c2]
  ·by_cases k3 : s.k = 3
   ·simp only [k3, show ¬ (3 : Int) = 2 by omega, decide_false, Bool.false_eq_true, if_false, decide_true, if_true, Val.proj2, Sch.proj1, Sch.proj2, Sch.proj3, O.len_list, List.length_map, O.slen_str, O.lt_int, O.gt_int, Option.bind_some, O.cnd_bool, ite_some, ite_ivbool, pg_contains s.en v.s (by omega), O.calls_1, O.not_bool]
    have e : decide ((0 : Int) < (s.en.length : Int)) = decide (0 < s.en.length) := by simp
    rw [e]
    by_cases c1 : (v.s.size : Int) < s.mn <;> by_cases c2 : s.mx < (v.s.size : Int) <;> by_cases c3 : 0 < s.en.length <;> cases (s.en.any fun e => decide (e = v.s)) <;> simp [c1, c2, c3]
   ·by_cases k4 : s.k = 4
    ·obtain ⟨t, ht⟩ := List.length_eq_one_iff.1 (hsb.list k4)
     have hb2 : (2 + s.mass) * (1 + sizeVs v.l) ≤ (2 + s.mass) * v.size := Nat.mul_le_mul (Nat.le_refl _) (by omega)
     rw [Nat.mul_add] at hb2
     have hl1 := rngE_len p s v.l.length
     have h2 := pg_list_2 s t v p hv hs ht hsb hp hl ih1 v.l.length 0 (out ++ rngE p s v.l.length) [] (by omega) (by simp only [List.drop_zero, List.length_append]; omega) (fun k => rfl)
     simp only [Int.cast_ofNat_Int, List.drop_zero, List.take_zero] at h2
     have h0 : W F93 0 [.list out, s.enc, v.enc, .list (p.map Stp.enc)] = some [.list (out ++ (rngE p s v.l.length ++ errsL v.l s.key t p []))] := by
      have h3 : ∀ o : List IV, o = out ++ rngE p s v.l.length → W F93 1 [.list (p.map Stp.enc), s.enc, v.enc, .list o] = some [.list (out ++ (rngE p s v.l.length ++ errsL v.l s.key t p []))] := by
       intro o ho
       rw [e_F93_1, ho]
       simp only [Val.proj3, O.len_list, List.length_map, Option.bind_some]
       rw [← List.append_assoc]
       exact h2
      rw [e_F93_0]
      simp only [Val.proj3, Sch.proj1, Sch.proj2, O.len_list, List.length_map, O.lt_int, O.gt_int, Option.bind_some, O.cnd_bool, ite_some, ite_ivbool, hat, O.calls_1]
      by_cases c1 : (v.l.length : Int) < s.mn <;> by_cases c2 : s.mx < (v.l.length : Int) <;> simp only [c1, c2, decide_true, decide_false, if_true, if_false, Bool.false_eq_true] <;> exact h3 _ (by simp [rngE, c1, c2])
     simp only [k4, show ¬ (4 : Int) = 2 by omega, show ¬ (4 : Int) = 3 by omega, decide_false, Bool.false_eq_true, if_false, decide_true, if_true, h0, O.calls_1, ht, List.headD_cons]
    ·by_cases k5 : s.k = 5
     ·have hb2 : (2 + s.mass) * (1 + sizeFs v.f) ≤ (2 + s.mass) * v.size := Nat.mul_le_mul (Nat.le_refl _) (by omega)
      rw [Nat.mul_add] at hb2
      simp only [k5, show ¬ (5 : Int) = 2 by omega, show ¬ (5 : Int) = 3 by omega, show ¬ (5 : Int) = 4 by omega, decide_false, Bool.false_eq_true, if_false, decide_true, if_true, pg_dict, O.calls_1, Bool.true_and, O.cnd_bool]
      cases hit : s.it with
      | nil =>
       have h2 := pg_str_1 s v p hv hs k5 hit hsb hp hl ih2 v.f.length 0 out (by omega) (by simp only [List.drop_zero]; omega)
       simp only [Int.cast_ofNat_Int, List.drop_zero] at h2
       have h0 : W F101 0 [.list out, s.enc, v.enc, .list (p.map Stp.enc)] = some [.list (out ++ (errsF v.f s p ++ s.f.flatMap (miss1 v p)))] := by
        rw [e_F101_0, ← List.append_assoc]
        simp only [Val.proj4, O.len_list, List.length_map, Option.bind_some]
        exact h2
       simp only [List.length_nil, Nat.lt_irrefl, decide_false, Bool.false_eq_true, if_false, h0, O.calls_1]
      | cons t r =>
       have hr : r = [] := by have := hsb.one; rw [hit] at this; simpa using this
       subst hr
       have hnf := hsb.nof (by rw [hit]; simp)
       have h2 := pg_dict_1 s t v p hv hs hit hsb hp hl ih2 v.f.length 0 out (by omega) (by simp only [List.drop_zero]; omega)
       simp only [Int.cast_ofNat_Int, List.drop_zero] at h2
       simp only [List.length_cons, Nat.zero_lt_succ, decide_true, if_true, Val.proj4, O.len_list, List.length_map, Option.bind_some, hnf, List.flatMap_nil, List.append_nil]
       exact h2
     ·simp only [k2, k3, k4, k5, decide_false, Bool.false_eq_true, if_false, pg_dict, O.calls_1, Bool.false_and, O.cnd_bool, List.append_nil]
 ·simp only [hk, decide_false, Bool.not_false, if_true, if_false]
theorem pg_errors (v : Val) (hv : v.mass ≤ 1048576) (s : Sch) (hsb : SB s) (hs : s.mass ≤ 1048576) : W F71 0 [s.enc, v.enc] = some [.list (errs v s [])] := by
 have hsm := v.size_mass
 have hmul : (2 + s.mass) * v.size ≤ 1048578 * 1048576 := Nat.mul_le_mul (by omega) (by omega)
 have h := pg_check v hv s hsb hs [] [] (by simp) (by simp; omega) (by simp; omega)
 simp only [List.map_nil, List.nil_append] at h
 rw [e_F71_0]
 simp only [h, O.calls_1]
end Go.CT.Sch
namespace Go.CT.Sch
open Go.Proofs
def gtPrev (o : Option ByteArray) (x : ByteArray) : Bool := match o with | none => true | some q => blt q x
def enOk (mn mx : Int) : Option ByteArray → List ByteArray → Bool
 | _, [] => true
 | o, x :: r => okStr x && decide (mn ≤ x.size) && decide ((x.size : Int) ≤ mx) && gtPrev o x && enOk mn mx (some x) r
def okDf (x : SFld) : Bool := x.df.all fun v => !decide (v.k = 0) && v.valid && decide ((errs v x.s []).length = 0)
def fOk (g : Sch → Bool) : Option ByteArray → List SFld → Bool
 | _, [] => true
 | o, x :: r => okName x.nm && gtPrev o x.nm && g x.s && decide (x.df.length ≤ 1) && okDf x && fOk g (some x.nm) r
def plainB (s : Sch) : Bool := decide (s.key = emptyB) && decide (s.it.length = 0) && decide (s.f.length = 0)
def rngB (s : Sch) (m : Int) : Bool := decide (0 ≤ s.mn) && decide (s.mn ≤ s.mx) && decide (s.mx ≤ m)
def keyOkB (s : Sch) : Bool := decide (s.key = emptyB) || (match s.it with | t :: _ => decide (t.k = 5) && (t.fld s.key).isSome && ((t.fld s.key).getD zeroSF).rq && decide (((t.fld s.key).getD zeroSF).s.k = 3) | [] => false)
def svalid : Nat → Sch → Bool
 | 0, _ => false
 | d + 1, s =>
  if s.k = 1 then plainB s && decide (s.mn = 0) && decide (s.mx = 0) && decide (s.en.length = 0)
  else if s.k = 2 then plainB s && decide (-1000000000000000 ≤ s.mn) && decide (s.mn ≤ s.mx) && decide (s.mx ≤ 1000000000000000) && decide (s.en.length = 0)
  else if s.k = 3 then plainB s && rngB s 200 && enOk s.mn s.mx none s.en && decide (s.en.length ≤ 64)
  else if s.k = 4 then rngB s 64 && decide (s.en.length = 0) && decide (s.f.length = 0) && decide (s.it.length = 1) && keyOkB s && s.it.all (svalid d)
  else if s.k = 5 then decide (s.mn = 0) && decide (s.mx = 0) && decide (s.en.length = 0) && decide (s.key = emptyB) && decide (s.it.length ≤ 1) && (decide (s.it.length = 0) || decide (s.f.length = 0)) && decide (s.f.length ≤ 64) && s.it.all (svalid d) && fOk (svalid d) none s.f
  else false
def valid (s : Sch) : Bool := svalid 12 s
theorem fOk_mem {g : Sch → Bool} : ∀ {l : List SFld} {o : Option ByteArray}, fOk g o l = true → ∀ x ∈ l, okName x.nm = true ∧ g x.s = true ∧ x.df.length ≤ 1 ∧ okDf x = true
 | [], _, _, x, hx => by simp at hx
 | y :: r, o, h, x, hx => by
  simp only [fOk, Bool.and_eq_true, decide_eq_true_eq] at h
  rcases List.mem_cons.1 hx with rfl | hx
  ·exact ⟨h.1.1.1.1.1, h.1.1.1.2, h.1.1.2, h.1.2⟩
  ·exact fOk_mem h.2 x hx
theorem svalid_SB : ∀ (d : Nat) (s : Sch), svalid d s = true → SB s
 | 0, s, h => by simp [svalid] at h
 | d + 1, s, h => by
  have leaf : s.k ≠ 4 → plainB s = true → SB s := fun h4 h => by
   simp only [plainB, Bool.and_eq_true, decide_eq_true_eq] at h
   have h1 : s.it = [] := List.length_eq_zero_iff.1 h.1.2
   have h2 : s.f = [] := List.length_eq_zero_iff.1 h.2
   exact .mk s (by omega) (fun e => absurd h1 e) (fun e => absurd e h4) (by simp [h1]) (by simp [h2])
  unfold svalid at h
  split at h
  ·simp only [Bool.and_eq_true] at h; exact leaf (by omega) h.1.1.1
  ·split at h
   ·simp only [Bool.and_eq_true] at h; exact leaf (by omega) h.1.1.1.1
   ·split at h
    ·simp only [Bool.and_eq_true] at h; exact leaf (by omega) h.1.1.1
    ·split at h
     ·simp only [Bool.and_eq_true, decide_eq_true_eq, List.all_eq_true] at h
      have h2 : s.f = [] := List.length_eq_zero_iff.1 h.1.1.1.2
      exact .mk s (by omega) (fun _ => h2) (fun _ => h.1.1.2) (fun x hx => svalid_SB d x (h.2 x hx)) (by simp [h2])
     ·split at h
      ·simp only [Bool.and_eq_true, decide_eq_true_eq, List.all_eq_true, Bool.or_eq_true] at h
       refine .mk s h.1.1.1.1.2 (fun e => ?_) (fun e => by omega) (fun x hx => svalid_SB d x (h.1.2 x hx)) (fun p hp => svalid_SB d p.s (fOk_mem h.2 p hp).2.1)
       rcases h.1.1.1.2 with h1 | h1
       ·exact absurd (List.length_eq_zero_iff.1 h1) e
       ·exact List.length_eq_zero_iff.1 h1
      ·cases h
def prevS (l : List SFld) : Nat → Option ByteArray
 | 0 => none
 | i + 1 => (l[i]?).map (·.nm)
def prevE (l : List ByteArray) : Nat → Option ByteArray
 | 0 => none
 | i + 1 => l[i]?
theorem ref_plain (s : Sch) : W F5 0 [s.enc] = some [.bool (plainB s)] := by
 rw [e_F5_0]
 simp only [Sch.proj4, Sch.proj5, Sch.proj6, O.len_list, List.length_map, Option.bind_some, O.sEq_str, O.eq_int, O.cnd_bool, ite_some, ite_ivbool, emptyB_eq]
 congr 3
 unfold plainB
 rw [Bool.eq_iff_iff]
 simp [and_assoc]
theorem ref_text_1 (s : Sch) (hs : s.mass ≤ 1048576) : ∀ (n i : Nat), i + n = s.en.length →
  W F6 1 [.int i, s.enc] = some [.bool (enOk s.mn s.mx (prevE s.en i) (s.en.drop i) && (plainB s && rngB s 200 && decide (s.en.length ≤ 64)))]
 | 0, i, h => by
  have h1 : ¬ i < s.en.length := by omega
  rw [e_F6_1, List.drop_of_length_le (by omega)]
  simp only [Sch.proj3, O.len_list, List.length_map, Option.bind_some, O.lt_int, lt_cast, h1, decide_false, O.cnd_bool, Bool.false_eq_true, if_false, ref_plain, O.calls_1, Sch.proj1, Sch.proj2, O.ge_int, O.le_int, ite_some, ite_ivbool]
  congr 3
  unfold rngB enOk
  rw [Bool.eq_iff_iff]
  simp [and_assoc]
  omega
 | n + 1, i, h => by
  have hi : i < s.en.length := by omega
  have hm := s.mass_len_en
  have hw := next64 (i := i) (by omega)
  have ih := ref_text_1 s hs n (i + 1) (by omega)
  have hx := Sch.mass_en (List.getElem_mem hi)
  have hpe : prevE s.en (i + 1) = some s.en[i] := by simp [prevE, hi]
  rw [hpe] at ih
  rw [e_F6_1, List.drop_eq_getElem_cons hi]
  simp only [enOk, Sch.proj3, O.len_list, List.length_map, Option.bind_some, O.lt_int, lt_cast, hi, decide_true, O.cnd_bool, if_true, O.index_list, Int.natCast_nonneg, Int.toNat_natCast, List.getElem?_map, List.getElem?_eq_getElem hi, Option.map_some, O.slen_str, ref_str s.en[i] (by omega), O.calls_1, O.not_bool, Sch.proj1, Sch.proj2, O.gt_int, O.add_int, hw, ih]
  generalize (plainB s && rngB s 200 && decide (s.en.length ≤ 64)) = R
  cases i with
  | zero =>
   simp only [prevE, gtPrev]
   by_cases c1 : s.mn ≤ (s.en[0].size : Int) <;> by_cases c2 : (s.en[0].size : Int) ≤ s.mx <;> cases okStr s.en[0] <;> simp [c1, c2, Int.not_lt.2, Int.not_le.1]
  | succ i =>
   have hi' : i < s.en.length := by omega
   have hw2 : IntKind.i64.wrap (((i + 1 : Nat) : Int) - 1) = i := by rw [wrap64 (by omega) (by omega)]; omega
   have hp : (0 : Int) < ((i + 1 : Nat) : Int) := by omega
   simp only [prevE, List.getElem?_eq_getElem hi', gtPrev, O.sub_int, hw2, hp, decide_true, if_true, Int.natCast_nonneg, Int.toNat_natCast, Option.map_some, Option.bind_some, sLe_blt]
   by_cases c1 : s.mn ≤ (s.en[i + 1].size : Int) <;> by_cases c2 : (s.en[i + 1].size : Int) ≤ s.mx <;> cases okStr s.en[i + 1] <;> cases hb : blt s.en[i] s.en[i + 1] <;> simp [c1, c2, Int.not_lt.2, Int.not_le.1, List.getElem?_eq_getElem hi', sLe_blt, hb, -O.sLe_str]
theorem ref_struct_1 (d : Nat) (s : Sch) (hd : d ≤ 12) (hs : s.mass ≤ 1048576) (ih : ∀ p ∈ s.f, W F4 0 [p.s.enc, .int d] = some [.bool (svalid d p.s)]) : ∀ (n i : Nat), i + n = s.f.length →
  W F10 1 [.int ((d + 1 : Nat) : Int), .int i, s.enc] = some [.bool (fOk (svalid d) (prevS s.f i) (s.f.drop i))]
 | 0, i, h => by
  have h1 : ¬ i < s.f.length := by omega
  rw [e_F10_1, List.drop_of_length_le (by omega)]
  simp only [Sch.proj6, O.len_list, List.length_map, Option.bind_some, O.lt_int, lt_cast, h1, decide_false, O.cnd_bool, Bool.false_eq_true, if_false, fOk]
 | n + 1, i, h => by
  have hi : i < s.f.length := by omega
  have hm := s.mass_len_f
  have hw := next64 (i := i) (by omega)
  have hwd : IntKind.i64.wrap (((d + 1 : Nat) : Int) - 1) = (d : Int) := by rw [wrap64 (by omega) (by omega)]; omega
  have hx := Sch.mass_f (List.getElem_mem hi)
  have hrec := ref_struct_1 d s hd hs ih n (i + 1) (by omega)
  have hpe : prevS s.f (i + 1) = some s.f[i].nm := by simp [prevS, hi]
  rw [hpe] at hrec
  have hv := ih _ (List.getElem_mem hi)
  -- the order
  have hord : ∀ (K : IV → Option IV), ((O.gt (.int i) (.int 0)).bind fun x10 =>
    (cnd x10 (
      (O.sub .i64 (.int i) (.int 1)).bind fun x11 =>
      (O.index (.list (s.f.map SFld.enc)) x11).bind fun x12 =>
      (O.proj 0 x12).bind fun x13 =>
      (O.sLe (.str s.f[i].nm) x13).bind fun x14 =>
      some x14) (some (.bool false))).bind K) = K (.bool (!gtPrev (prevS s.f i) s.f[i].nm)) := by
   intro K
   cases i with
   | zero => simp [prevS, gtPrev]
   | succ j =>
    have hj : j < s.f.length := by omega
    have hw2 : IntKind.i64.wrap (((j + 1 : Nat) : Int) - 1) = j := by rw [wrap64 (by omega) (by omega)]; omega
    have hp : (0 : Int) < ((j + 1 : Nat) : Int) := by omega
    simp only [prevS, List.getElem?_eq_getElem hj, Option.map_some, gtPrev, O.gt_int, hp, decide_true, Option.bind_some, O.cnd_bool, if_true, O.sub_int, hw2, O.index_list, Int.natCast_nonneg, Int.toNat_natCast, List.getElem?_map, SFld.proj0, sLe_blt]
  have hix : O.index (.list (s.f.map SFld.enc)) (.int i) = some s.f[i].enc := by
   simp only [O.index_list, Int.natCast_nonneg, if_true, Int.toNat_natCast, List.getElem?_map, List.getElem?_eq_getElem hi, Option.map_some]
  rw [e_F10_1, List.drop_eq_getElem_cons hi]
  simp only [Sch.proj6, O.len_list, List.length_map, Option.bind_some, O.lt_int, lt_cast, hi, decide_true, O.cnd_bool, if_true, hix, SFld.proj0, fOk, ref_name s.f[i].nm (by omega), O.calls_1, O.not_bool]
  simp only [hord]
  simp only [SFld.proj0, SFld.proj3, SFld.projS, O.calls_1, O.not_bool, O.cnd_bool, O.sub_int, hwd, hv, O.add_int, hw, hrec, O.len_list, List.length_map, O.gt_int, O.eq_int, Option.bind_some]
  cases okName s.f[i].nm with
  | false => simp
  | true =>
   cases gtPrev (prevS s.f i) s.f[i].nm with
   | false => simp
   | true =>
    cases hsv : svalid d s.f[i].s with
    | false => simp
    | true =>
     by_cases hlen : s.f[i].df.length ≤ 1
     ·have hlen' : ¬ (1 : Int) < s.f[i].df.length := by omega
      have hsb := svalid_SB d _ hsv
      unfold okDf
      by_cases h1 : s.f[i].df.length = 1
      ·obtain ⟨v, hv1⟩ := List.length_eq_one_iff.1 h1
       have hvm := Sch.mass_d (List.getElem_mem hi) (show v ∈ s.f[i].df by rw [hv1]; simp)
       have he := ref_errs v (by omega) s.f[i].s hsb (by omega) [] (by simp) (by simp; omega)
       simp only [List.map_nil] at he
       have hV := ref_Valid v (by omega)
       rw [hv1]
       by_cases k0 : v.k = 0
       ·simp [k0]
       ·cases hval : v.valid with
        | false => simp [k0, hV, hval]
        | true =>
         by_cases hz : (errs v s.f[i].s []).length = 0
         ·simp [k0, hV, hval, he, List.length_eq_zero_iff.1 hz]
         ·have hz' : 0 < (errs v s.f[i].s []).length := Nat.pos_of_ne_zero hz
          have hz2 : ¬ errs v s.f[i].s [] = [] := fun h => hz (by rw [h]; rfl)
          simp [k0, hV, hval, he, hz', hz2]
      ·have h0 : s.f[i].df = [] := List.length_eq_zero_iff.1 (by omega)
       simp [h0]
     ·have hlen' : (1 : Int) < s.f[i].df.length := by omega
      simp [hlen', hlen]
theorem egL (mn mx : Int) (a b c : Nat) : (if (if (if (if (if decide (mn < 0) = true then true else decide (mx < mn)) = true then true else decide ((64 : Int) < mx)) = true then true else decide ((0 : Int) < (a : Int))) = true then true else decide ((0 : Int) < (b : Int))) = true then true else !decide ((c : Int) = 1)) = !(decide (0 ≤ mn) && decide (mn ≤ mx) && decide (mx ≤ 64) && decide (a = 0) && decide (b = 0) && decide (c = 1)) := by
 rw [Bool.eq_iff_iff]; simp; omega
theorem egS (mn mx : Int) (a b c : Nat) (k : Bool) : (if (if (if (if (if (if (!decide (mn = 0)) = true then true else !decide (mx = 0)) = true then true else decide ((0 : Int) < (a : Int))) = true then true else !k) = true then true else decide ((1 : Int) < (b : Int))) = true then true else if decide ((b : Int) = 1) = true then decide ((0 : Int) < (c : Int)) else false) = true then true else decide ((64 : Int) < (c : Int)))
  = !(decide (mn = 0) && decide (mx = 0) && decide (a = 0) && k && decide (b ≤ 1) && (decide (b = 0) || decide (c = 0)) && decide (c ≤ 64)) := by
 cases k
 ·simp
 ·rw [Bool.eq_iff_iff]; simp; omega
theorem ref_svalid : ∀ (d : Nat) (s : Sch), d ≤ 12 → s.mass ≤ 1048576 → W F4 0 [s.enc, .int d] = some [.bool (svalid d s)]
 | 0, s, hd, hs => by rw [e_F4_0]; simp [svalid]
 | d + 1, s, hd, hs => by
  have hd0 : ¬ ((d + 1 : Nat) : Int) = 0 := by omega
  have hwd : IntKind.i64.wrap (((d + 1 : Nat) : Int) - 1) = (d : Int) := by rw [wrap64 (by omega) (by omega)]; omega
  have hit : ∀ t ∈ s.it, W F4 0 [t.enc, .int d] = some [.bool (svalid d t)] := fun t ht => ref_svalid d t (by omega) (by have := Sch.mass_it ht; omega)
  have hif : ∀ p ∈ s.f, W F4 0 [p.s.enc, .int d] = some [.bool (svalid d p.s)] := fun p hp => ref_svalid d p.s (by omega) (by have := Sch.mass_f hp; omega)
  rw [e_F4_0]
  unfold svalid
  simp only [O.eq_int, hd0, decide_false, Option.bind_some, O.cnd_bool, Bool.false_eq_true, if_false, Sch.proj0, Sch.proj1, Sch.proj2, Sch.proj3, ref_plain, O.calls_1, O.le_int, O.len_list, List.length_map]
  by_cases k1 : s.k = 1
  ·simp only [k1, decide_true, if_true, Option.bind_some, O.cnd_bool, ite_some, ite_ivbool]
   congr 3
   rw [Bool.eq_iff_iff]; simp [and_assoc]
  ·by_cases k2 : s.k = 2
   ·simp only [k2, show ¬ (2 : Int) = 1 by omega, decide_true, decide_false, Bool.false_eq_true, if_false, if_true, Option.bind_some, O.cnd_bool, ite_some, ite_ivbool]
    congr 3
    rw [Bool.eq_iff_iff]; simp [and_assoc]
   ·by_cases k3 : s.k = 3
    ·have ht := ref_text_1 s hs s.en.length 0 (by omega)
     simp only [Int.cast_ofNat_Int, List.drop_zero, prevE] at ht
     simp only [k3, show ¬ (3 : Int) = 1 by omega, show ¬ (3 : Int) = 2 by omega, decide_true, decide_false, Bool.false_eq_true, if_false, if_true, e_F6_0, ht, O.calls_1]
     congr 3
     generalize enOk s.mn s.mx none s.en = a
     cases a <;> cases plainB s <;> cases rngB s 200 <;> simp
    ·by_cases k4 : s.k = 4
     ·have hl : W F8 0 [s.enc, .int ((d + 1 : Nat) : Int)] = some [.bool (rngB s 64 && decide (s.en.length = 0) && decide (s.f.length = 0) && decide (s.it.length = 1) && keyOkB s && s.it.all (svalid d))] := by
       rw [e_F8_0]
       simp only [Sch.proj1, Sch.proj2, Sch.proj3, Sch.proj5, Sch.proj6, O.len_list, List.length_map, Option.bind_some, O.lt_int, O.gt_int, O.ne_int, O.cnd_bool, ite_some, ite_ivbool]
       have eg : (if (if (if (if (if decide (s.mn < 0) = true then true else decide (s.mx < s.mn)) = true then true else decide ((64 : Int) < s.mx)) = true then true else decide ((0 : Int) < (s.en.length : Int))) = true then true else decide ((0 : Int) < (s.f.length : Int))) = true then true else !decide ((s.it.length : Int) = 1)) = !(rngB s 64 && decide (s.en.length = 0) && decide (s.f.length = 0) && decide (s.it.length = 1)) := by
        exact egL s.mn s.mx s.en.length s.f.length s.it.length
       rw [eg]
       cases hg : (rngB s 64 && decide (s.en.length = 0) && decide (s.f.length = 0) && decide (s.it.length = 1)) with
       | false => simp
       | true =>
        simp only [Bool.and_eq_true, decide_eq_true_eq] at hg
        obtain ⟨t, ht⟩ := List.length_eq_one_iff.1 hg.2
        have htm : t ∈ s.it := by rw [ht]; simp
        have hmt := Sch.mass_it htm
        have hl1 : W F8 1 [.int ((d + 1 : Nat) : Int), s.enc] = some [.bool (svalid d t)] := by
         rw [e_F8_1]
         simp only [Sch.proj5, ht, List.map_cons, List.map_nil, Option.bind_some, O.index_list, Int.le_refl, if_true, Int.toNat_zero, List.getElem?_cons_zero, O.sub_int, hwd, hit t htm, O.calls_1]
        have hfd := ref_field t s.key (by omega)
        simp only [Bool.not_true, Bool.false_eq_true, if_false, Sch.proj4, Option.bind_some, O.sNe_str, O.cnd_bool, hl1, ht, List.map_cons, List.map_nil, O.index_list, Int.le_refl, if_true, Int.toNat_zero, List.getElem?_cons_zero, hfd, O.calls_2, Sch.proj0, SFld.proj1, SFld.proj4, O.ne_int, O.not_bool, ite_some, ite_ivbool, List.all_cons, List.all_nil, Bool.and_true, Bool.true_and, keyOkB, emptyB_eq]
        by_cases c : s.key = emptyB
        ·simp [c]
        ·by_cases c2 : t.k = 5 <;> by_cases c3 : ((t.fld s.key).getD zeroSF).s.k = 3 <;> cases (t.fld s.key).isSome <;> cases ((t.fld s.key).getD zeroSF).rq <;> simp [c, c2, c3]
      simp only [k4, show ¬ (4 : Int) = 1 by omega, show ¬ (4 : Int) = 2 by omega, show ¬ (4 : Int) = 3 by omega, decide_true, decide_false, Bool.false_eq_true, if_false, if_true, hl, O.calls_1]
     ·by_cases k5 : s.k = 5
      ·have hst := ref_struct_1 d s (by omega) hs hif s.f.length 0 (by omega)
       simp only [Int.cast_ofNat_Int, List.drop_zero, prevS] at hst
       have hl : W F10 0 [s.enc, .int ((d + 1 : Nat) : Int)] = some [.bool (decide (s.mn = 0) && decide (s.mx = 0) && decide (s.en.length = 0) && decide (s.key = emptyB) && decide (s.it.length ≤ 1) && (decide (s.it.length = 0) || decide (s.f.length = 0)) && decide (s.f.length ≤ 64) && s.it.all (svalid d) && fOk (svalid d) none s.f)] := by
        rw [e_F10_0]
        simp only [Sch.proj1, Sch.proj2, Sch.proj3, Sch.proj4, Sch.proj5, Sch.proj6, O.len_list, List.length_map, Option.bind_some, O.sNe_str, O.gt_int, O.eq_int, O.ne_int, O.cnd_bool, ite_some, ite_ivbool, emptyB_eq]
        have eg : (if (if (if (if (if (if (!decide (s.mn = 0)) = true then true else !decide (s.mx = 0)) = true then true else decide ((0 : Int) < (s.en.length : Int))) = true then true else !decide (s.key = emptyB)) = true then true else decide ((1 : Int) < (s.it.length : Int))) = true then true else if decide ((s.it.length : Int) = 1) = true then decide ((0 : Int) < (s.f.length : Int)) else false) = true then true else decide ((64 : Int) < (s.f.length : Int)))
          = !(decide (s.mn = 0) && decide (s.mx = 0) && decide (s.en.length = 0) && decide (s.key = emptyB) && decide (s.it.length ≤ 1) && (decide (s.it.length = 0) || decide (s.f.length = 0)) && decide (s.f.length ≤ 64)) := by
         exact egS s.mn s.mx s.en.length s.it.length s.f.length _
        rw [eg]
        cases hg : (decide (s.mn = 0) && decide (s.mx = 0) && decide (s.en.length = 0) && decide (s.key = emptyB) && decide (s.it.length ≤ 1) && (decide (s.it.length = 0) || decide (s.f.length = 0)) && decide (s.f.length ≤ 64)) with
        | false => simp
        | true =>
         simp only [Bool.and_eq_true, Bool.or_eq_true, decide_eq_true_eq] at hg
         by_cases h1 : s.it.length = 1
         ·obtain ⟨t, ht⟩ := List.length_eq_one_iff.1 h1
          have hf : s.f = [] := by
           rcases hg.1.2 with h | h
           ·omega
           ·exact List.length_eq_zero_iff.1 h
          have hh := hit t (by rw [ht]; simp)
          have hwd2 : IntKind.i64.wrap (d : Int) = (d : Int) := wrap64 (by omega) (by omega)
          simp [ht, hf, hwd2, hh, fOk]
         ·have h0 : s.it = [] := List.length_eq_zero_iff.1 (by omega)
          push_cast at hst
          simp [h0, hst]
       simp only [k5, show ¬ (5 : Int) = 1 by omega, show ¬ (5 : Int) = 2 by omega, show ¬ (5 : Int) = 3 by omega, show ¬ (5 : Int) = 4 by omega, decide_true, decide_false, Bool.false_eq_true, if_false, if_true, hl, O.calls_1]
      ·simp only [k1, k2, k3, k4, k5, decide_false, Bool.false_eq_true, if_false]
theorem ref_Svalid (s : Sch) (hs : s.mass ≤ 1048576) : W F3 0 [s.enc] = some [.bool s.valid] := by
 rw [e_F3_0]
 have : W F4 0 [s.enc, .int 12] = some [.bool s.valid] := ref_svalid 12 s (by omega) hs
 simp only [this, O.calls_1]
end Go.CT.Sch
namespace Go.CT.Sch
open Go.Proofs
theorem named_valid (nm : ByteArray) : (mapV [(nm, zeroVal)]).valid = okName nm := by
 have h1 : mapL [(nm, zeroVal)] = [(nm, zeroVal)] := mapL_id (List.pairwise_singleton _ _)
 unfold mapV
 rw [h1]
 unfold Val.valid
 have h2 : validD 11 zeroVal = true := by decide
 simp only [validD, Val.k_mk, Val.n_mk, Val.s_mk, Val.l_mk, Val.f_mk, okScalar, List.all_cons, List.all_nil, h2, rising, Val.size, sizeVs, sizeFs, zeroVal]
 simp
theorem pg_named (nm : ByteArray) (hn : nm.size ≤ 1048576) (K : IV → Option (List IV)) : (O.mkagg [.str nm, (.int 0), (.int 0), (.str ⟨#[]⟩), (.list []), (.list [])]).bind (fun x8 =>
  (O.mklist [x8]).bind fun x9 =>
  calls (W F57 0 [x9]) 5 fun x10 x11 x12 x13 x14 =>
  (O.mkagg [x10, x11, x12, x13, x14]).bind fun x15 =>
  calls (W F42 0 [x15]) 1 K) = K (.bool (okName nm)) := by
 have e : IV.agg [.str nm, (.int 0), (.int 0), (.str ⟨#[]⟩), (.list []), (.list [])] = Fld.enc (nm, zeroVal) := rfl
 have hmass : massFs [(nm, zeroVal)] ≤ 4294967200 := by
  rw [massFs_cons, massFs_nil, Val.mass_eq]
  simp only [zeroVal, Val.s_mk, Val.l_mk, Val.f_mk, massVs_nil, massFs_nil, show emptyB.size = 0 from rfl]; omega
 have h1 := val_map [(nm, zeroVal)] hmass
 have h2 : (mapV [(nm, zeroVal)]).mass ≤ 1099511627776 := by have := mapV_mass [(nm, zeroVal)]; omega
 have h3 := pv_Valid _ h2
 rw [named_valid] at h3
 rw [Val.comps_eq] at h1
 simp only [List.map_cons, List.map_nil] at h1
 simp only [O.mkagg_eq, O.mklist_eq, Option.bind_some, e, h1, O.calls_5, Val.fold_eta, h3, O.calls_1]
theorem pg_bounded (s : Sch) (m : Int) : W F39 0 [s.enc, .int m] = some [.bool (rngB s m)] := by
 rw [e_F39_0]
 simp only [Sch.proj1, Sch.proj2, O.le_int, Option.bind_some, O.cnd_bool, ite_some, ite_ivbool]
 congr 3
 unfold rngB
 rw [Bool.eq_iff_iff]; simp [and_assoc]
theorem pg_enum_1 (s : Sch) (hs : s.mass ≤ 1048576) : ∀ (n i : Nat), i + n = s.en.length →
  W F40 1 [.list (s.en.map .str), .int s.en.length, .int i, s.enc] = some [.bool (enOk s.mn s.mx (prevE s.en i) (s.en.drop i) && decide (s.en.length ≤ 64))]
 | 0, i, h => by
  have h1 : ¬ i < s.en.length := by omega
  rw [e_F40_1, List.drop_of_length_le (by omega)]
  simp only [Sch.proj3, O.len_list, List.length_map, Option.bind_some, O.lt_int, lt_cast, h1, decide_false, O.cnd_bool, Bool.false_eq_true, if_false, O.le_int, enOk, Bool.true_and]
  congr 3
  rw [Bool.eq_iff_iff]; simp; omega
 | n + 1, i, h => by
  have hi : i < s.en.length := by omega
  have hm := s.mass_len_en
  have hw := next64 (i := i) (by omega)
  have ih := pg_enum_1 s hs n (i + 1) (by omega)
  have hx := Sch.mass_en (List.getElem_mem hi)
  have hpe : prevE s.en (i + 1) = some s.en[i] := by simp [prevE, hi]
  rw [hpe] at ih
  have e : IV.agg [.int 3, .int 0, .str s.en[i], .list [], .list []] = Val.enc ⟨3, 0, s.en[i], [], []⟩ := rfl
  have hv := pv_Valid ⟨3, 0, s.en[i], [], []⟩ (by rw [Val.mass_eq]; simp [massVs_nil, massFs_nil]; omega)
  rw [str_valid] at hv
  have hix : O.index (.list (s.en.map .str)) (.int i) = some (.str s.en[i]) := by
   simp only [O.index_list, Int.natCast_nonneg, if_true, Int.toNat_natCast, List.getElem?_map, List.getElem?_eq_getElem hi, Option.map_some]
  have hord : ∀ (K : IV → Option IV), ((O.gt (.int i) (.int 0)).bind fun x10 =>
    (cnd x10 (
      (O.proj 3 s.enc).bind fun x11 =>
      (O.sub .i64 (.int i) (.int 1)).bind fun x12 =>
      (O.index x11 x12).bind fun x13 =>
      (O.sGe x13 (.str s.en[i])).bind fun x14 =>
      some x14) (some (.bool false))).bind K) = K (.bool (!gtPrev (prevE s.en i) s.en[i])) := by
   intro K
   cases i with
   | zero => simp [prevE, gtPrev]
   | succ j =>
    have hj : j < s.en.length := by omega
    have hw2 : IntKind.i64.wrap (((j + 1 : Nat) : Int) - 1) = j := by rw [wrap64 (by omega) (by omega)]; omega
    have hp : (0 : Int) < ((j + 1 : Nat) : Int) := by omega
    simp only [Sch.proj3, prevE, List.getElem?_eq_getElem hj, Option.map_some, gtPrev, O.gt_int, hp, decide_true, Option.bind_some, O.cnd_bool, if_true, O.sub_int, hw2, O.index_list, Int.natCast_nonneg, Int.toNat_natCast, List.getElem?_map, sGe_blt]
  rw [e_F40_1, List.drop_eq_getElem_cons hi]
  simp only [enOk, Option.bind_some, O.lt_int, lt_cast, hi, decide_true, O.cnd_bool, if_true, hix]
  simp only [hord]
  simp only [O.slen_str, Sch.proj1, Sch.proj2, Option.bind_some, O.lt_int, O.gt_int, O.cnd_bool, e_F41_0, O.calls_5, O.mkagg_eq, e, hv, O.calls_1, O.not_bool, O.add_int, hw, ih]
  by_cases c1 : s.mn ≤ (s.en[i].size : Int) <;> by_cases c2 : (s.en[i].size : Int) ≤ s.mx <;> cases okStr s.en[i] <;> cases gtPrev (prevE s.en i) s.en[i] <;> simp [c1, c2, Int.not_lt.2, Int.not_le.1]
theorem pg_enum (s : Sch) (hs : s.mass ≤ 1048576) : W F40 0 [s.enc] = some [.bool (enOk s.mn s.mx none s.en && decide (s.en.length ≤ 64))] := by
 have h := pg_enum_1 s hs s.en.length 0 (by omega)
 simp only [Int.cast_ofNat_Int, List.drop_zero, prevE] at h
 rw [e_F40_0]
 simp only [Sch.proj3, O.len_list, List.length_map, Option.bind_some]
 exact h
theorem pg_keyed (s t : Sch) (hs : s.mass ≤ 1048576) (ht : s.it = [t]) (hsb : SB t) : W F48 0 [s.enc] = some [.bool (keyOkB s)] := by
 have hmt := Sch.mass_it (show t ∈ s.it by rw [ht]; simp)
 have hfd := pg_field t s.key (by omega)
 rw [e_F48_0]
 unfold keyOkB
 simp only [Sch.proj5, ht, List.map_cons, List.map_nil, O.index_list, Int.le_refl, if_true, Int.toNat_zero, List.getElem?_cons_zero, Option.bind_some, Sch.proj4, hfd, O.calls_2, O.sEq_str, O.cnd_bool, SFld.proj1, SFld.proj4, O.eq_int, ite_some, ite_ivbool, emptyB_eq]
 congr 3
 by_cases c : s.key = emptyB
 ·simp [c]
 ·by_cases c2 : t.k = 5
  ·by_cases c3 : t.it.length = 0
   ·cases (t.fld s.key).isSome <;> cases hrq : ((t.fld s.key).getD zeroSF).rq <;> simp [c, c2, c3, hrq]
   ·have hnf : t.f = [] := hsb.nof fun e => c3 (by rw [e]; rfl)
    have hfl : t.fld s.key = none := by unfold Sch.fld; rw [hnf]; rfl
    simp [c, c2, c3, hfl]
  ·simp [c, c2]
theorem pg_fields_2 (d : Nat) (s : Sch) (hd : d ≤ 12) (hs : s.mass ≤ 1048576) (i : Nat) (hi : i < s.f.length) (hsb : SB s.f[i].s) : ∀ (n j : Nat), j + n = s.f[i].df.length →
  W F56 2 [.int d, .list (s.f.map SFld.enc), .int s.f.length, .int i, .list (s.f[i].df.map Val.enc), .int s.f[i].df.length, .int j, s.enc, s.f[i].enc]
   = if ((s.f[i].df.drop j).all fun v => !decide (v.k = 0) && v.valid && decide ((errs v s.f[i].s []).length = 0)) = true then W F56 1 [.int d, .list (s.f.map SFld.enc), .int s.f.length, .int ((i + 1 : Nat) : Int), s.enc] else some [.bool false]
 | 0, j, h => by
  have h1 : ¬ j < s.f[i].df.length := by omega
  have hm := s.mass_len_f
  have hw := next64 (i := i) (by omega)
  rw [e_F56_2, List.drop_of_length_le (by omega)]
  simp only [O.lt_int, lt_cast, h1, decide_false, Option.bind_some, O.cnd_bool, Bool.false_eq_true, if_false, O.add_int, hw, List.all_nil, if_true]
 | n + 1, j, h => by
  have hj : j < s.f[i].df.length := by omega
  have hm := Sch.mass_f (List.getElem_mem hi)
  have hl := bulk_mem (List.mem_map_of_mem (f := Val.enc) (List.getElem_mem hj))
  have hvm := Sch.mass_d (List.getElem_mem hi) (List.getElem_mem hj)
  have hlen : s.f[i].df.length ≤ massVs s.f[i].df := by have := length_le_bulks (s.f[i].df.map Val.enc); rw [List.length_map] at this; exact this
  have hw := next64 (i := j) (by omega)
  have ih := pg_fields_2 d s hd hs i hi hsb n (j + 1) (by omega)
  have hV := pv_Valid s.f[i].df[j] (by omega)
  have he := pg_errors s.f[i].df[j] (by omega) s.f[i].s hsb (by omega)
  rw [e_F56_2, List.drop_eq_getElem_cons hj, List.all_cons]
  simp only [O.lt_int, lt_cast, hj, decide_true, Option.bind_some, O.cnd_bool, if_true, O.index_list, Int.natCast_nonneg, Int.toNat_natCast, List.getElem?_map, List.getElem?_eq_getElem hj, Option.map_some, Val.proj0, O.eq_int, hV, O.calls_1, O.not_bool, SFld.projS, he, O.len_list, O.gt_int, O.add_int, hw, ih]
  by_cases k0 : s.f[i].df[j].k = 0
  ·simp [k0]
  ·cases hval : s.f[i].df[j].valid with
   | false => simp [k0]
   | true =>
    by_cases hz : (errs s.f[i].df[j] s.f[i].s []).length = 0
    ·simp [k0, List.length_eq_zero_iff.1 hz]
    ·have hz' : 0 < (errs s.f[i].df[j] s.f[i].s []).length := Nat.pos_of_ne_zero hz
     have hz2 : ¬ errs s.f[i].df[j] s.f[i].s [] = [] := fun h => hz (by rw [h]; rfl)
     simp [k0, hz', hz2]
theorem pg_fields_1 (d : Nat) (s : Sch) (hd : d ≤ 12) (hs : s.mass ≤ 1048576) (ih : ∀ p ∈ s.f, W F38 0 [p.s.enc, .int d] = some [.bool (svalid d p.s)]) : ∀ (n i : Nat), i + n = s.f.length →
  W F56 1 [.int d, .list (s.f.map SFld.enc), .int s.f.length, .int i, s.enc] = some [.bool (fOk (svalid d) (prevS s.f i) (s.f.drop i))]
 | 0, i, h => by
  have h1 : ¬ i < s.f.length := by omega
  rw [e_F56_1, List.drop_of_length_le (by omega)]
  simp only [O.lt_int, lt_cast, h1, decide_false, Option.bind_some, O.cnd_bool, Bool.false_eq_true, if_false, fOk]
 | n + 1, i, h => by
  have hi : i < s.f.length := by omega
  have hm := s.mass_len_f
  have hx := Sch.mass_f (List.getElem_mem hi)
  have hrec := pg_fields_1 d s hd hs ih n (i + 1) (by omega)
  have hpe : prevS s.f (i + 1) = some s.f[i].nm := by simp [prevS, hi]
  rw [hpe] at hrec
  have hv := ih _ (List.getElem_mem hi)
  have hix : O.index (.list (s.f.map SFld.enc)) (.int i) = some s.f[i].enc := by
   simp only [O.index_list, Int.natCast_nonneg, if_true, Int.toNat_natCast, List.getElem?_map, List.getElem?_eq_getElem hi, Option.map_some]
  have hord : ∀ (K : IV → Option IV), ((O.gt (.int i) (.int 0)).bind fun x18 =>
    (cnd x18 (
      (O.proj 6 s.enc).bind fun x19 =>
      (O.sub .i64 (.int i) (.int 1)).bind fun x20 =>
      (O.index x19 x20).bind fun x21 =>
      (O.proj 0 x21).bind fun x22 =>
      (O.sGe x22 (.str s.f[i].nm)).bind fun x23 =>
      some x23) (some (.bool false))).bind K) = K (.bool (!gtPrev (prevS s.f i) s.f[i].nm)) := by
   intro K
   cases i with
   | zero => simp [prevS, gtPrev]
   | succ j =>
    have hj : j < s.f.length := by omega
    have hw2 : IntKind.i64.wrap (((j + 1 : Nat) : Int) - 1) = j := by rw [wrap64 (by omega) (by omega)]; omega
    have hp : (0 : Int) < ((j + 1 : Nat) : Int) := by omega
    simp only [Sch.proj6, prevS, List.getElem?_eq_getElem hj, Option.map_some, gtPrev, O.gt_int, hp, decide_true, Option.bind_some, O.cnd_bool, if_true, O.sub_int, hw2, O.index_list, Int.natCast_nonneg, Int.toNat_natCast, List.getElem?_map, SFld.proj0, sGe_blt]
  rw [e_F56_1, List.drop_eq_getElem_cons hi]
  simp only [O.lt_int, lt_cast, hi, decide_true, Option.bind_some, O.cnd_bool, if_true, hix, SFld.proj0, fOk]
  rw [pg_named s.f[i].nm (by omega)]
  simp only [O.not_bool, Option.bind_some]
  simp only [hord]
  simp only [SFld.proj3, SFld.projS, O.calls_1, O.not_bool, O.cnd_bool, hv, O.len_list, List.length_map, O.gt_int, Option.bind_some]
  cases okName s.f[i].nm with
  | false => simp
  | true =>
   cases gtPrev (prevS s.f i) s.f[i].nm with
   | false => simp
   | true =>
    cases hsv : svalid d s.f[i].s with
    | false => simp
    | true =>
     by_cases hlen : s.f[i].df.length ≤ 1
     ·have hlen' : ¬ (1 : Int) < s.f[i].df.length := by omega
      have h2 := pg_fields_2 d s hd hs i hi (svalid_SB d _ hsv) s.f[i].df.length 0 (by omega)
      simp only [Int.cast_ofNat_Int, List.drop_zero, hrec] at h2
      simp only [Bool.not_true, Bool.false_eq_true, if_false, hlen', decide_false, Option.bind_some, O.cnd_bool, h2, okDf, hlen, decide_true, Bool.true_and]
      cases (s.f[i].df.all fun v => !decide (v.k = 0) && v.valid && decide ((errs v s.f[i].s []).length = 0)) <;> simp
     ·have hlen' : (1 : Int) < s.f[i].df.length := by omega
      simp [hlen', hlen]
theorem pg_items (d : Nat) (s : Sch) (hd : d ≤ 12) (hs : s.mass ≤ 1048576) (hl : s.it.length ≤ 1) (ih : ∀ t ∈ s.it, W F38 0 [t.enc, .int d] = some [.bool (svalid d t)]) :
  W F53 0 [.list (s.it.map Sch.enc), .int ((d + 1 : Nat) : Int)] = some [.bool (!s.it.all (svalid d))] := by
 have hwd : IntKind.i64.wrap (((d + 1 : Nat) : Int) - 1) = (d : Int) := by rw [wrap64 (by omega) (by omega)]; omega
 rw [e_F53_0, e_F54_0]
 cases hit : s.it with
 | nil =>
  simp only [List.map_nil, O.len_list, List.length_nil, Option.bind_some, Int.cast_ofNat_Int]
  rw [e_F54_1]
  simp
 | cons t r =>
  have hr : r = [] := by rw [hit] at hl; simpa using hl
  subst hr
  have h1 := ih t (by rw [hit]; simp)
  have h2 : W F55 0 [t.enc, .int ((d + 1 : Nat) : Int)] = some [.bool (!svalid d t)] := by
   rw [e_F55_0]
   simp only [O.sub_int, hwd, Option.bind_some, h1, O.calls_1, O.not_bool]
  have h3 : IntKind.i64.wrap (0 + 1) = 1 := by decide
  simp only [List.map_cons, List.map_nil, O.len_list, List.length_cons, List.length_nil, Nat.zero_add, Int.cast_ofNat_Int, Option.bind_some]
  rw [e_F54_1]
  simp only [O.lt_int, show (0 : Int) < 1 by omega, decide_true, Option.bind_some, O.cnd_bool, if_true, O.index_list, Int.le_refl, Int.toNat_zero, List.getElem?_cons_zero, h2, O.calls_1, O.add_int, h3]
  cases hsv : svalid d t with
  | true =>
   simp only [Bool.not_true, Bool.false_eq_true, if_false]
   rw [e_F54_1]
   simp [hsv]
  | false => simp [hsv]
theorem egP (k : Int) (a b c : Nat) (e : Bool) : (if (if (if (if (!decide (k = 3)) = true then decide ((0 : Int) < (a : Int)) else false) = true then true else if (!decide (k = 4)) = true then !e else false) = true then true else if (!decide (k = 5)) = true then decide ((0 : Int) < (b : Int)) else false) = true then true else if (if (!decide (k = 5)) = true then !decide (k = 4) else false) = true then decide ((0 : Int) < (c : Int)) else false)
  = !(decide (k = 3 ∨ a = 0) && (decide (k = 4) || e) && decide (k = 5 ∨ b = 0) && decide (k = 5 ∨ k = 4 ∨ c = 0)) := by
 cases e
 ·by_cases k4 : k = 4
  ·rw [Bool.eq_iff_iff]; simp [k4]; omega
  ·simp [k4]
 ·rw [Bool.eq_iff_iff]; simp; omega
theorem egM (mn mx : Int) (b c : Nat) : (if (if (if (if (!decide (mn = 0)) = true then true else !decide (mx = 0)) = true then true else decide ((1 : Int) < (b : Int))) = true then true else if decide ((b : Int) = 1) = true then decide ((0 : Int) < (c : Int)) else false) = true then true else decide ((64 : Int) < (c : Int)))
  = !(decide (mn = 0) && decide (mx = 0) && decide (b ≤ 1) && (decide (b = 0) || decide (c = 0)) && decide (c ≤ 64)) := by
 rw [Bool.eq_iff_iff]; simp; omega
theorem pg_svalid : ∀ (d : Nat) (s : Sch), d ≤ 12 → s.mass ≤ 1048576 → W F38 0 [s.enc, .int d] = some [.bool (svalid d s)]
 | 0, s, hd, hs => by rw [e_F38_0]; simp [svalid]
 | d + 1, s, hd, hs => by
  have hd0 : ¬ ((d + 1 : Nat) : Int) = 0 := by omega
  have hwd : IntKind.i64.wrap (((d + 1 : Nat) : Int) - 1) = (d : Int) := by rw [wrap64 (by omega) (by omega)]; omega
  have hit : ∀ t ∈ s.it, W F38 0 [t.enc, .int d] = some [.bool (svalid d t)] := fun t ht => pg_svalid d t (by omega) (by have := Sch.mass_it ht; omega)
  have hif : ∀ p ∈ s.f, W F38 0 [p.s.enc, .int d] = some [.bool (svalid d p.s)] := fun p hp => pg_svalid d p.s (by omega) (by have := Sch.mass_f hp; omega)
  have hfs := pg_fields_1 d s (by omega) hs hif s.f.length 0 (by omega)
  simp only [Int.cast_ofNat_Int, List.drop_zero, prevS] at hfs
  have hfs' : W F56 0 [s.enc, .int d] = some [.bool (fOk (svalid d) none s.f)] := by
   rw [e_F56_0]
   simp only [Sch.proj6, O.len_list, List.length_map, Option.bind_some]
   exact hfs
  rw [e_F38_0]
  unfold svalid
  simp only [O.eq_int, O.ne_int, hd0, decide_false, Option.bind_some, O.cnd_bool, Bool.false_eq_true, if_false, Sch.proj0, Sch.proj3, Sch.proj4, Sch.proj5, Sch.proj6, O.len_list, List.length_map, O.gt_int, O.sNe_str, ite_some, ite_ivbool, emptyB_eq, egP]
  cases hg : (decide (s.k = 3 ∨ s.en.length = 0) && (decide (s.k = 4) || decide (s.key = emptyB)) && decide (s.k = 5 ∨ s.f.length = 0) && decide (s.k = 5 ∨ s.k = 4 ∨ s.it.length = 0)) with
  | false =>
   simp only [Bool.not_false, if_true]
   by_cases k1 : s.k = 1
   ·simp only [k1, if_true, plainB]
    simp [k1] at hg
    congr 3
    rw [eq_comm, Bool.eq_false_iff]
    intro h
    simp at h
    simp [h] at hg
   ·by_cases k2 : s.k = 2
    ·simp only [k2, show ¬ (2 : Int) = 1 by omega, if_false, if_true, plainB]
     simp [k2] at hg
     congr 3
     rw [eq_comm, Bool.eq_false_iff]
     intro h
     simp at h
     simp [h] at hg
    ·by_cases k3 : s.k = 3
     ·simp only [k3, show ¬ (3 : Int) = 1 by omega, show ¬ (3 : Int) = 2 by omega, if_false, if_true, plainB]
      simp [k3] at hg
      congr 3
      rw [eq_comm, Bool.eq_false_iff]
      intro h
      simp at h
      simp [h] at hg
     ·by_cases k4 : s.k = 4
      ·simp only [k4, show ¬ (4 : Int) = 1 by omega, show ¬ (4 : Int) = 2 by omega, show ¬ (4 : Int) = 3 by omega, if_false, if_true]
       simp [k4] at hg
       congr 3
       rw [eq_comm, Bool.eq_false_iff]
       intro h
       simp at h
       simp [h] at hg
      ·by_cases k5 : s.k = 5
       ·simp only [k5, show ¬ (5 : Int) = 1 by omega, show ¬ (5 : Int) = 2 by omega, show ¬ (5 : Int) = 3 by omega, show ¬ (5 : Int) = 4 by omega, if_false, if_true]
        simp [k5] at hg
        congr 3
        rw [eq_comm, Bool.eq_false_iff]
        intro h
        simp at h
        simp [h] at hg
       ·simp [k1, k2, k3, k4, k5]
  | true =>
   simp only [Bool.and_eq_true, Bool.or_eq_true, decide_eq_true_eq] at hg
   obtain ⟨⟨⟨g1, g2⟩, g3⟩, g4⟩ := hg
   simp only [Bool.not_true, Bool.false_eq_true, if_false, Sch.proj1, Sch.proj2, Option.bind_some, O.eq_int, O.le_int, O.ne_int, O.cnd_bool, pg_bounded, pg_enum s hs, O.calls_1, ite_some, ite_ivbool]
   by_cases k1 : s.k = 1
   ·simp only [k1, decide_true, if_true, plainB]
    rcases g1 with g1 | g1
    ·omega
    ·rcases g2 with g2 | g2
     ·omega
     ·rcases g3 with g3 | g3
      ·omega
      ·rcases g4 with g4 | g4 | g4
       ·omega
       ·omega
       ·simp only [g1, g2, g3, g4, decide_true, Bool.true_and, Bool.and_true]
        congr 3
        rw [Bool.eq_iff_iff]; simp
   ·by_cases k2 : s.k = 2
    ·simp only [k2, show ¬ (2 : Int) = 1 by omega, decide_false, Bool.false_eq_true, if_false, decide_true, if_true, plainB]
     rcases g1 with g1 | g1
     ·omega
     ·rcases g2 with g2 | g2
      ·omega
      ·rcases g3 with g3 | g3
       ·omega
       ·rcases g4 with g4 | g4 | g4
        ·omega
        ·omega
        ·simp only [g1, g2, g3, g4, decide_true, Bool.true_and, Bool.and_true]
         congr 3
         rw [Bool.eq_iff_iff]; simp [and_assoc]
    ·by_cases k3 : s.k = 3
     ·simp only [k3, show ¬ (3 : Int) = 1 by omega, show ¬ (3 : Int) = 2 by omega, decide_false, Bool.false_eq_true, if_false, decide_true, if_true, plainB]
      rcases g2 with g2 | g2
      ·omega
      ·rcases g3 with g3 | g3
       ·omega
       ·rcases g4 with g4 | g4 | g4
        ·omega
        ·omega
        ·simp only [g2, g3, g4, decide_true, Bool.true_and, Bool.and_true]
         cases rngB s 200 <;> simp
     ·by_cases k4 : s.k = 4
      ·have g1' : s.en.length = 0 := by rcases g1 with h | h; exact absurd h k3; exact h
       have g3' : s.f.length = 0 := by rcases g3 with h | h; exact absurd h (by omega); exact h
       simp only [k4, show ¬ (4 : Int) = 1 by omega, show ¬ (4 : Int) = 2 by omega, show ¬ (4 : Int) = 3 by omega, decide_false, Bool.false_eq_true, if_false, decide_true, if_true, g1', g3', Bool.and_true]
       cases rngB s 64 with
       | false => simp
       | true =>
        by_cases h1 : s.it.length = 1
        ·obtain ⟨t, ht⟩ := List.length_eq_one_iff.1 h1
         have h2 := hit t (by rw [ht]; simp)
         have h1' : (s.it.length : Int) = 1 := by omega
         simp only [if_true, h1', decide_true, ht, List.map_cons, List.map_nil, O.index_list, Int.le_refl, Int.toNat_zero, List.getElem?_cons_zero, Option.bind_some, O.sub_int, hwd, h2, O.calls_1, O.cnd_bool, List.all_cons, List.all_nil, Bool.and_true, Bool.true_and, List.length_cons, List.length_nil]
         cases hsv : svalid d t with
         | false => simp
         | true =>
          have hk := pg_keyed s t hs ht (svalid_SB d t hsv)
          simp [hk]
        ·have h1' : ¬ (s.it.length : Int) = 1 := by omega
         simp [h1, h1']
      ·by_cases k5 : s.k = 5
       ·have g1' : s.en.length = 0 := by rcases g1 with h | h; exact absurd h k3; exact h
        have g2' : s.key = emptyB := by rcases g2 with h | h; exact absurd h k4; exact h
        simp only [k5, show ¬ (5 : Int) = 1 by omega, show ¬ (5 : Int) = 2 by omega, show ¬ (5 : Int) = 3 by omega, show ¬ (5 : Int) = 4 by omega, decide_false, Bool.false_eq_true, if_false, decide_true, if_true, g1', g2', Bool.and_true]
        have eg := egM s.mn s.mx s.it.length s.f.length
        rw [eg]
        cases hg5 : (decide (s.mn = 0) && decide (s.mx = 0) && decide (s.it.length ≤ 1) && (decide (s.it.length = 0) || decide (s.f.length = 0)) && decide (s.f.length ≤ 64)) with
        | false => simp
        | true =>
         simp only [Bool.and_eq_true, Bool.or_eq_true, decide_eq_true_eq] at hg5
         have h2 := pg_items d s (by omega) hs hg5.1.1.2 hit
         simp only [Bool.not_true, Bool.false_eq_true, if_false, h2, O.calls_1, O.not_bool, Bool.not_not, Option.bind_some, O.cnd_bool, O.sub_int, hwd, hfs', ite_some, ite_ivbool, Bool.true_and]
         cases s.it.all (svalid d) <;> simp
       ·simp only [k1, k2, k3, k4, k5, decide_false, Bool.false_eq_true, if_false]
theorem pg_Svalid (s : Sch) (hs : s.mass ≤ 1048576) : W F37 0 [s.enc] = some [.bool s.valid] := by
 rw [e_F37_0]
 have : W F38 0 [s.enc, .int 12] = some [.bool s.valid] := pg_svalid 12 s (by omega) hs
 simp only [this, O.calls_1]
end Go.CT.Sch
namespace Go.CT.Sch
open Go.Proofs
theorem validD_succ (d : Nat) (v : Val) : validD (d + 1) v = true ↔ okScalar v = true ∧ (v.l.length ≤ 64 ∧ v.f.length ≤ 64 ∧ (v.k ≠ 4 → v.l = []) ∧ (v.k ≠ 5 → v.f = [])) ∧ (∀ x ∈ v.l, validD d x = true) ∧ (∀ p ∈ v.f, okName p.1 = true ∧ validD d p.2 = true) ∧ rising v.f = true := by
 rw [validD]
 simp only [Bool.and_eq_true, List.all_eq_true, decide_eq_true_eq]
 constructor
 ·rintro ⟨⟨⟨⟨a, b⟩, c⟩, d⟩, e⟩; exact ⟨a, b, c, d, e⟩
 ·rintro ⟨a, b, c, d, e⟩; exact ⟨⟨⟨⟨a, b⟩, c⟩, d⟩, e⟩
theorem validD_mono : ∀ (d : Nat) (v : Val), validD d v = true → validD (d + 1) v = true
 | 0, v, h => by simp [validD] at h
 | d + 1, v, h => by
  rw [validD_succ] at h ⊢
  exact ⟨h.1, h.2.1, fun x hx => validD_mono d x (h.2.2.1 x hx), fun p hp => ⟨(h.2.2.2.1 p hp).1, validD_mono d p.2 (h.2.2.2.1 p hp).2⟩, h.2.2.2.2⟩
theorem valid_iff (v : Val) : v.valid = true ↔ validD 12 v = true ∧ v.size ≤ 600 := by
 unfold Val.valid; simp only [Bool.and_eq_true, decide_eq_true_eq]
theorem valid_f {v : Val} {p : ByteArray × Val} (h : v.valid = true) (hp : p ∈ v.f) : p.2.valid = true ∧ okName p.1 = true := by
 rw [valid_iff] at h ⊢
 have h1 := (validD_succ 11 v).1 h.1
 have := Val.size_f hp
 exact ⟨⟨validD_mono 11 p.2 (h1.2.2.2.1 p hp).2, by omega⟩, (h1.2.2.2.1 p hp).1⟩
theorem rising_strict : ∀ l : List (ByteArray × Val), rising l = true → Strict l
 | [], _ => List.Pairwise.nil
 | [_], _ => List.pairwise_singleton _ _
 | p :: q :: r, h => by
  simp only [rising, Bool.and_eq_true] at h
  have ih := rising_strict (q :: r) h.2
  refine List.pairwise_cons.2 ⟨fun y hy => ?_, ih⟩
  rcases List.mem_cons.1 hy with rfl | hy
  ·exact h.1
  ·exact blt_trans h.1 ((List.pairwise_cons.1 ih).1 y hy)
theorem mem_of_get {v x : Val} {nm : ByteArray} (h : v.get nm = some x) : (nm, x) ∈ v.f ∧ v.k = 5 := by
 unfold Val.get at h
 split at h
 ·rename_i hk
  rw [Option.map_eq_some_iff] at h
  obtain ⟨p, hp, rfl⟩ := h
  have h1 := List.mem_of_find?_eq_some hp
  have h2 : p.1 = nm := by simpa using List.find?_some hp
  subst h2; exact ⟨h1, hk⟩
 ·cases h
theorem fOk_mono {g g' : Sch → Bool} : ∀ {l : List SFld} {o : Option ByteArray}, (∀ x ∈ l, g x.s = true → g' x.s = true) → fOk g o l = true → fOk g' o l = true
 | [], _, _, _ => rfl
 | y :: r, o, hg, h => by
  simp only [fOk, Bool.and_eq_true] at h ⊢
  exact ⟨⟨⟨⟨h.1.1.1.1, hg y (by simp) h.1.1.1.2⟩, h.1.1.2⟩, h.1.2⟩, fOk_mono (fun x hx => hg x (by simp [hx])) h.2⟩
theorem svalid_mono : ∀ (d : Nat) (s : Sch), svalid d s = true → svalid (d + 1) s = true
 | 0, s, h => by simp [svalid] at h
 | d + 1, s, h => by
  rw [svalid] at h ⊢
  split
  ·rename_i k1; rw [if_pos k1] at h; exact h
  ·rename_i k1; rw [if_neg k1] at h
   split
   ·rename_i k2; rw [if_pos k2] at h; exact h
   ·rename_i k2; rw [if_neg k2] at h
    split
    ·rename_i k3; rw [if_pos k3] at h; exact h
    ·rename_i k3; rw [if_neg k3] at h
     split
     ·rename_i k4; rw [if_pos k4] at h
      simp only [Bool.and_eq_true, List.all_eq_true] at h ⊢
      exact ⟨h.1, fun x hx => svalid_mono d x (h.2 x hx)⟩
     ·rename_i k4; rw [if_neg k4] at h
      split
      ·rename_i k5; rw [if_pos k5] at h
       simp only [Bool.and_eq_true, List.all_eq_true] at h ⊢
       exact ⟨⟨h.1.1, fun x hx => svalid_mono d x (h.1.2 x hx)⟩, fOk_mono (fun x _ hx => svalid_mono d x.s hx) h.2⟩
      ·rename_i k5; rw [if_neg k5] at h; cases h
theorem svalid_it {d : Nat} {s t : Sch} (h : svalid (d + 1) s = true) (ht : t ∈ s.it) : svalid d t = true := by
 have noit : plainB s = true → False := fun hp => by
  simp only [plainB, Bool.and_eq_true, decide_eq_true_eq] at hp
  rw [List.length_eq_zero_iff.1 hp.1.2] at ht; simp at ht
 rw [svalid] at h
 split at h
 ·simp only [Bool.and_eq_true] at h; exact (noit h.1.1.1).elim
 ·split at h
  ·simp only [Bool.and_eq_true] at h; exact (noit h.1.1.1.1).elim
  ·split at h
   ·simp only [Bool.and_eq_true] at h; exact (noit h.1.1.1).elim
   ·split at h
    ·simp only [Bool.and_eq_true, List.all_eq_true] at h; exact h.2 t ht
    ·split at h
     ·simp only [Bool.and_eq_true, List.all_eq_true] at h; exact h.1.2 t ht
     ·cases h
theorem svalid_f {d : Nat} {s : Sch} {p : SFld} (h : svalid (d + 1) s = true) (hp : p ∈ s.f) : s.k = 5 ∧ okName p.nm = true ∧ svalid d p.s = true ∧ p.df.length ≤ 1 ∧ okDf p = true := by
 have nof : s.f.length = 0 → False := fun h0 => by
  rw [List.length_eq_zero_iff.1 h0] at hp; simp at hp
 have nop : plainB s = true → False := fun h0 => by
  simp only [plainB, Bool.and_eq_true, decide_eq_true_eq] at h0
  exact nof h0.2
 rw [svalid] at h
 split at h
 ·simp only [Bool.and_eq_true] at h; exact (nop h.1.1.1).elim
 ·split at h
  ·simp only [Bool.and_eq_true] at h; exact (nop h.1.1.1.1).elim
  ·split at h
   ·simp only [Bool.and_eq_true] at h; exact (nop h.1.1.1).elim
   ·split at h
    ·simp only [Bool.and_eq_true, decide_eq_true_eq] at h; exact (nof h.1.1.1.2).elim
    ·split at h
     ·rename_i k5
      simp only [Bool.and_eq_true] at h
      exact ⟨k5, fOk_mem h.2 p hp⟩
     ·cases h
theorem svalid_key {d : Nat} {s : Sch} (h : svalid d s = true) (hk : s.k = 4) : keyOkB s = true ∧ s.it.length = 1 := by
 cases d with
 | zero => simp [svalid] at h
 | succ d =>
  rw [svalid, if_neg (by omega), if_neg (by omega), if_neg (by omega), if_pos hk] at h
  simp only [Bool.and_eq_true, decide_eq_true_eq] at h
  exact ⟨h.1.2, h.1.1.2⟩
theorem Sch.valid_it {s t : Sch} (h : s.valid = true) (ht : t ∈ s.it) : t.valid = true := svalid_mono 11 t (svalid_it h ht)
theorem Sch.valid_f {s : Sch} {p : SFld} (h : s.valid = true) (hp : p ∈ s.f) : p.s.valid = true := svalid_mono 11 p.s (svalid_f h hp).2.2.1
theorem Sch.valid_SB {s : Sch} (h : s.valid = true) : SB s := svalid_SB 12 s h
theorem svalid_keyName {d : Nat} {s : Sch} (h : svalid (d + 1) s = true) (hk : s.k = 4) (hne : s.key ≠ emptyB) : ∃ t, s.it = [t] ∧ t.k = 5 ∧ ∃ p, t.fld s.key = some p ∧ p.rq = true ∧ p.s.k = 3 ∧ okName s.key = true := by
 obtain ⟨h1, h2⟩ := svalid_key h hk
 obtain ⟨t, ht⟩ := List.length_eq_one_iff.1 h2
 unfold keyOkB at h1
 rw [ht] at h1
 have hne' : decide (s.key = emptyB) = false := by simpa using hne
 simp only [hne', Bool.false_or, Bool.and_eq_true, decide_eq_true_eq] at h1
 obtain ⟨⟨⟨k5, hs⟩, hr⟩, h3⟩ := h1
 obtain ⟨p, hp⟩ := Option.isSome_iff_exists.1 hs
 rw [hp, Option.getD_some] at hr h3
 have hv := svalid_it h (show t ∈ s.it by rw [ht]; simp)
 have hm := fld_mem hp
 refine ⟨t, ht, k5, p, hp, hr, h3, ?_⟩
 cases d with
 | zero => simp [svalid] at hv
 | succ d => have := (svalid_f hv hm.1).2.1; rw [hm.2] at this; exact this
end Go.CT.Sch
namespace Go.CT.Sch.D
open Go.Proofs
inductive VOk : Val → Prop
 | mk (v : Val) : Strict v.f → ((v.k = 5 → v.n = 0 ∧ v.s = emptyB ∧ v.l = []) ∧ (v.k = 4 → v.n = 0 ∧ v.s = emptyB) ∧ (v.k ≠ 5 → v.f = [])) → (∀ x ∈ v.l, VOk x) → (∀ p ∈ v.f, VOk p.2) → VOk v
def subS (s : Sch) (nm : ByteArray) : Option Sch := if s.it.length = 1 then s.it[0]? else (s.fld nm).map (·.s)
inductive Known : Sch → Val → Prop
 | leaf (s : Sch) (v : Val) : v.k = s.k → v.k ≠ 4 → v.k ≠ 5 → Known s v
 | list (s : Sch) (v : Val) (t : Sch) : v.k = s.k → v.k = 4 → s.it = [t] → (∀ x ∈ v.l, Known t x) → Known s v
 | map (s : Sch) (v : Val) : v.k = s.k → v.k = 5 → (∀ p ∈ v.f, (subS s p.1).isSome = true) → (∀ p ∈ v.f, p.2.k ≠ 0 → ∀ t, subS s p.1 = some t → Known t p.2) → Known s v
inductive SOk : Sch → Prop
 | mk (s : Sch) : s.it.length ≤ 1 → (s.it ≠ [] → s.f = []) → (s.k = 4 → s.it.length = 1) → s.f.Pairwise (fun a b => blt a.nm b.nm = true) →
   (∀ x ∈ s.it, SOk x) → (∀ p ∈ s.f, SOk p.s) → (∀ p ∈ s.f, p.df.length ≤ 1) → (∀ p ∈ s.f, ∀ d ∈ p.df, VOk d ∧ d.k ≠ 0 ∧ Known p.s d) → SOk s
theorem VOk.strict {v : Val} (h : VOk v) : Strict v.f := by cases h; assumption
theorem VOk.map {v : Val} (h : VOk v) (hk : v.k = 5) : v.n = 0 ∧ v.s = emptyB ∧ v.l = [] := by cases h with | mk _ h1 h2 h3 h4 => exact h2.1 hk
theorem VOk.list {v : Val} (h : VOk v) (hk : v.k = 4) : v.n = 0 ∧ v.s = emptyB ∧ v.f = [] := by cases h with | mk _ h1 h2 h3 h4 => exact ⟨(h2.2.1 hk).1, (h2.2.1 hk).2, h2.2.2 (by omega)⟩
theorem VOk.nof {v : Val} (h : VOk v) (hk : v.k ≠ 5) : v.f = [] := by cases h with | mk _ h1 h2 h3 h4 => exact h2.2.2 hk
theorem VOk.mem_l {v : Val} (h : VOk v) {x : Val} (hx : x ∈ v.l) : VOk x := by cases h with | mk _ h1 h2 h3 h4 => exact h3 x hx
theorem VOk.mem_f {v : Val} (h : VOk v) {p : ByteArray × Val} (hp : p ∈ v.f) : VOk p.2 := by cases h with | mk _ h1 h2 h3 h4 => exact h4 p hp
theorem SOk.one {s : Sch} (h : SOk s) : s.it.length ≤ 1 := by cases h; assumption
theorem SOk.nof {s : Sch} (h : SOk s) (hi : s.it ≠ []) : s.f = [] := by cases h with | mk _ h1 h2 h3 h4 h5 h6 h7 h8 => exact h2 hi
theorem SOk.list {s : Sch} (h : SOk s) (hi : s.k = 4) : s.it.length = 1 := by cases h with | mk _ h1 h2 h3 h4 h5 h6 h7 h8 => exact h3 hi
theorem SOk.names {s : Sch} (h : SOk s) : s.f.Pairwise (fun a b => blt a.nm b.nm = true) := by cases h; assumption
theorem SOk.mem_it {s x : Sch} (h : SOk s) (hx : x ∈ s.it) : SOk x := by cases h with | mk _ h1 h2 h3 h4 h5 h6 h7 h8 => exact h5 x hx
theorem SOk.mem_f {s : Sch} {p : SFld} (h : SOk s) (hx : p ∈ s.f) : SOk p.s := by cases h with | mk _ h1 h2 h3 h4 h5 h6 h7 h8 => exact h6 p hx
theorem SOk.dfOk {s : Sch} {p : SFld} {d : Val} (h : SOk s) (hx : p ∈ s.f) (hd : d ∈ p.df) : VOk d ∧ d.k ≠ 0 ∧ Known p.s d := by cases h with | mk _ h1 h2 h3 h4 h5 h6 h7 h8 => exact h8 p hx d hd
theorem subS_mem {s t : Sch} {nm : ByteArray} (h : subS s nm = some t) : t ∈ s.it ∨ ∃ p ∈ s.f, p.nm = nm ∧ p.s = t := by
 unfold subS at h
 split at h
 ·exact .inl (List.mem_of_getElem? h)
 ·right
  rw [Option.map_eq_some_iff] at h
  obtain ⟨p, hp, rfl⟩ := h
  exact ⟨p, List.mem_of_find?_eq_some hp, by simpa using List.find?_some hp, rfl⟩
theorem SOk.sub {s t : Sch} {nm : ByteArray} (hs : SOk s) (h : subS s nm = some t) : SOk t := by
 rcases subS_mem h with h | ⟨p, hp, _, rfl⟩
 ·exact hs.mem_it h
 ·exact hs.mem_f hp
theorem subS_mass {s t : Sch} {nm : ByteArray} (h : subS s nm = some t) : t.mass < s.mass := by
 rcases subS_mem h with h | ⟨p, hp, _, rfl⟩
 ·exact Sch.mass_it h
 ·have := Sch.mass_f hp; omega
theorem VOk_of : ∀ (d : Nat) (v : Val), validD d v = true → VOk v
 | 0, v, h => by simp [validD] at h
 | d + 1, v, h => by
  simp only [validD, Bool.and_eq_true, List.all_eq_true, decide_eq_true_eq] at h
  obtain ⟨⟨⟨⟨h1, h2⟩, h3⟩, h4⟩, h5⟩ := h
  unfold okScalar at h1
  refine .mk v (rising_strict _ h5) ⟨fun hk => ?_, fun hk => ?_, h2.2.2.2⟩ (fun x hx => VOk_of d x (h3 x hx)) (fun p hp => VOk_of d p.2 (h4 p hp).2)
  ·rw [if_neg (by omega), if_neg (by omega), if_neg (by omega)] at h1
   simp only [decide_eq_true_eq] at h1
   exact ⟨h1.2.1, h1.2.2, h2.2.2.1 (by omega)⟩
  ·rw [if_neg (by omega), if_neg (by omega), if_neg (by omega)] at h1
   simp only [decide_eq_true_eq] at h1
   exact ⟨h1.2.1, h1.2.2⟩
theorem VOk_valid {v : Val} (h : v.valid = true) : VOk v := by
 unfold Val.valid at h
 simp only [Bool.and_eq_true] at h
 exact VOk_of _ _ h.1
def zeroSch : Sch := ⟨0, 0, 0, [], emptyB, [], []⟩
def subIV (o : Option Sch) : List IV := [(o.getD zeroSch).enc, .bool o.isSome]
theorem zeroSch_enc : IV.agg [.int 0, .int 0, .int 0, .list [], .str ⟨#[]⟩, .list [], .list []] = zeroSch.enc := rfl
theorem ev_under_1 (s : Sch) (nm : ByteArray) (hs : s.mass ≤ 1099511627776) (y4 y5 y6 y7 : IV) : ∀ (n i : Nat), i + n = s.f.length →
  W F119 1 [.str nm, .list (s.f.map SFld.enc), .int s.f.length, .int i, y4, y5, y6, y7] = some (subIV (((s.f.drop i).find? fun p => decide (p.nm = nm)).map (·.s)))
 | 0, i, h => by
  rw [e_F119_1]
  have h1 : ¬ i < s.f.length := by omega
  simp [h1, List.drop_of_length_le (Nat.le_of_not_lt h1), subIV, zeroSch_enc]
 | n + 1, i, h => by
  have hi : i < s.f.length := by omega
  have hm := s.mass_len_f
  have hw := next64 (i := i) (by omega)
  have := ev_under_1 s nm hs y4 y5 y6 y7 n (i + 1) (by omega)
  rw [e_F119_1, List.drop_eq_getElem_cons hi]
  simp only [O.lt_int, lt_cast, hi, decide_true, Option.bind_some, O.cnd_bool, if_true, O.index_list, Int.natCast_nonneg, Int.toNat_natCast, List.getElem?_map, List.getElem?_eq_getElem hi, Option.map_some, SFld.proj0, SFld.projS, O.sEq_str, O.add_int, hw, this, List.find?_cons]
  by_cases c : s.f[i].nm = nm
  ·simp [c, subIV]
  ·have c' : decide (s.f[i].nm = nm) = false := by simpa using c
   simp only [c, c', decide_false, Bool.false_eq_true, if_false]
theorem ev_under (s : Sch) (nm : ByteArray) (hs : s.mass ≤ 1099511627776) : W F119 0 [s.enc, .str nm] = some (subIV (subS s nm)) := by
 rw [e_F119_0]
 unfold subS
 have := ev_under_1 s nm hs (.int 0) (.int 0) (.int 0) (.str ⟨#[]⟩) s.f.length 0 (by omega)
 simp only [List.drop_zero, Int.cast_ofNat_Int] at this
 simp only [Sch.proj5, Sch.proj6, Option.bind_some, O.eq_int, O.cnd_bool, O.len_list, List.length_map, this]
 by_cases c : s.it.length = 1
 ·have c' : (s.it.length : Int) = 1 := by omega
  obtain ⟨t, ht⟩ := List.length_eq_one_iff.1 c
  simp [c, ht, subIV]
 ·have c' : ¬ (s.it.length : Int) = 1 := by omega
  simp only [c, c', decide_false, Bool.false_eq_true, if_false]
  rfl
mutual
def pruneV : Val → Sch → Val
 | ⟨k, n, s, l, f⟩, sc =>
  if k = sc.k then
   if k = 4 then (if sc.it.length = 1 then ⟨4, 0, emptyB, pruneVs l (sc.it.headD zeroSch), []⟩ else ⟨k, n, s, l, f⟩)
   else if k = 5 then ⟨5, 0, emptyB, [], pruneFs f sc⟩
   else ⟨k, n, s, l, f⟩
  else ⟨k, n, s, l, f⟩
def pruneVs : List Val → Sch → List Val
 | [], _ => []
 | v :: vs, t => pruneV v t :: pruneVs vs t
def pruneFs : List (ByteArray × Val) → Sch → List (ByteArray × Val)
 | [], _ => []
 | (nm, v) :: fs, sc => (if v.k = 0 then [] else match subS sc nm with | some t => [(nm, pruneV v t)] | none => []) ++ pruneFs fs sc
end
theorem pruneVs_map (l : List Val) (t : Sch) : pruneVs l t = l.map fun v => pruneV v t := by
 induction l with
 | nil => rfl
 | cons v l ih => simp [pruneVs, ih]
def prune1 (sc : Sch) (p : ByteArray × Val) : List (ByteArray × Val) := if p.2.k = 0 then [] else match subS sc p.1 with | some t => [(p.1, pruneV p.2 t)] | none => []
theorem pruneFs_map (l : List (ByteArray × Val)) (sc : Sch) : pruneFs l sc = l.flatMap (prune1 sc) := by
 induction l with
 | nil => rfl
 | cons p l ih => obtain ⟨nm, v⟩ := p; simp only [pruneFs, ih, List.flatMap_cons]; rfl
theorem prune1_name {sc : Sch} {p q : ByteArray × Val} (h : q ∈ prune1 sc p) : q.1 = p.1 := by
 unfold prune1 at h
 split at h
 ·simp at h
 ·split at h <;> simp at h
  subst h; rfl
theorem pruneV_eq (v : Val) (sc : Sch) : pruneV v sc =
  if v.k = sc.k then
   if v.k = 4 then (if sc.it.length = 1 then ⟨4, 0, emptyB, v.l.map fun x => pruneV x (sc.it.headD zeroSch), []⟩ else v)
   else if v.k = 5 then ⟨5, 0, emptyB, [], v.f.flatMap (prune1 sc)⟩
   else v
  else v := by
 cases v with
 | mk k n s l f => rw [← pruneVs_map, ← pruneFs_map]; simp only [pruneV, Val.k_mk, Val.l_mk, Val.f_mk]; rfl
theorem flat_strict (g : ByteArray × Val → List (ByteArray × Val)) (hg : ∀ p q, q ∈ g p → q.1 = p.1) (hl : ∀ p, (g p).length ≤ 1) : ∀ l : List (ByteArray × Val), Strict l → Strict (l.flatMap g)
 | [], _ => List.Pairwise.nil
 | p :: l, h => by
  have h1 := List.pairwise_cons.1 h
  rw [List.flatMap_cons]
  refine List.pairwise_append.2 ⟨?_, flat_strict g hg hl l h1.2, ?_⟩
  ·have := hl p
   match h2 : g p, this with
   | [], _ => exact List.Pairwise.nil
   | [a], _ => exact List.pairwise_singleton _ _
   | _ :: _ :: _, h => simp at h
  ·intro a ha b hb
   obtain ⟨q, hq, hb⟩ := List.mem_flatMap.1 hb
   rw [hg _ _ ha, hg _ _ hb]
   exact h1.1 q hq
theorem prune1_len (sc : Sch) (p : ByteArray × Val) : (prune1 sc p).length ≤ 1 := by
 unfold prune1
 split
 ·simp
 ·split <;> simp
theorem pruneV_mass : ∀ (v : Val) (sc : Sch), (pruneV v sc).mass ≤ v.mass := by
 refine Val.ind fun v ih1 ih2 sc => ?_
 have hL : ∀ (t : Sch) (l : List Val), (∀ x ∈ l, ∀ sc, (pruneV x sc).mass ≤ x.mass) → massVs (l.map fun x => pruneV x t) ≤ massVs l := by
  intro t l
  induction l with
  | nil => intro _; simp [massVs_nil]
  | cons x l ih =>
   intro h
   have h1 := h x (by simp) t
   have h2 := ih fun y hy => h y (by simp [hy])
   rw [List.map_cons, massVs_cons, massVs_cons]; omega
 have hF : ∀ (l : List (ByteArray × Val)), (∀ p ∈ l, ∀ sc, (pruneV p.2 sc).mass ≤ p.2.mass) → massFs (l.flatMap (prune1 sc)) ≤ massFs l := by
  intro l
  induction l with
  | nil => intro _; simp [massFs_nil]
  | cons p l ih =>
   intro h
   have h2 := ih fun y hy => h y (by simp [hy])
   rw [List.flatMap_cons, massFs_append, massFs_cons]
   have : massFs (prune1 sc p) ≤ 1 + p.1.size + p.2.mass := by
    unfold prune1
    split
    ·rw [massFs_nil]; omega
    ·split
     ·next t _ => have h1 := h p (by simp) t; rw [massFs_cons, massFs_nil]; simp only; omega
     ·rw [massFs_nil]; omega
   omega
 rw [pruneV_eq]
 split
 ·split
  ·split
   ·have := hL (sc.it.headD zeroSch) v.l ih1
    rw [Val.mass_eq, v.mass_eq]
    simp only [Val.s_mk, Val.l_mk, Val.f_mk, massFs_nil, show emptyB.size = 0 from rfl]; omega
   ·exact Nat.le_refl _
  ·split
   ·have := hF v.f ih2
    rw [Val.mass_eq, v.mass_eq]
    simp only [Val.s_mk, Val.l_mk, Val.f_mk, massVs_nil, show emptyB.size = 0 from rfl]; omega
   ·exact Nat.le_refl _
 ·exact Nat.le_refl _
theorem defs_cloneW (v : Val) (hv : Wide 1073741824 v) : W F111 0 [v.enc] = some [v.enc] := by
 rw [e_F111_0]
 have h := val_listW [v] (by simp) (by simpa using hv)
 simp only [List.map_cons, List.map_nil] at h
 simp only [O.mklist_eq, Option.bind_some, h, Val.comps_eq, O.calls_5, Val.l_mk, List.map_cons, List.map_nil]
 rfl
theorem val_list (l : List Val) (hl : massVs l ≤ 4294967200) : W F112 0 [.list (l.map Val.enc)] = some (Val.comps ⟨4, 0, emptyB, l, []⟩) :=
 val_listW l (by have := massVs_len6 l; omega) fun x hx => wide_mass x (by
  have : x.mass ≤ massVs l := bulk_mem (List.mem_map_of_mem hx)
  omega)
theorem defs_clone (v : Val) (hv : v.mass ≤ 4294967100) : W F111 0 [v.enc] = some [v.enc] := defs_cloneW v (wide_mass v (by omega))
end Go.CT.Sch.D
namespace Go.CT.Sch.D
open Go.Proofs
theorem prune1_mass (sc : Sch) (p : ByteArray × Val) : massFs (prune1 sc p) ≤ 1 + p.1.size + p.2.mass := by
 unfold prune1
 split
 ·rw [massFs_nil]; omega
 ·split
  ·next t _ => have h1 := pruneV_mass p.2 t; rw [massFs_cons, massFs_nil]; simp only; omega
  ·rw [massFs_nil]; omega
theorem massFs_drop {l : List (ByteArray × Val)} {i : Nat} (h : i < l.length) : massFs (l.drop i) = (1 + l[i].1.size + l[i].2.mass) + massFs (l.drop (i + 1)) := by
 rw [List.drop_eq_getElem_cons h, massFs_cons]
theorem massVs_drop {l : List Val} {i : Nat} (h : i < l.length) : massVs (l.drop i) = l[i].mass + massVs (l.drop (i + 1)) := by
 rw [List.drop_eq_getElem_cons h, massVs_cons]
theorem prog_prune_1 (sc : Sch) (v : Val) (hs : sc.mass ≤ 1099511627776) (hv : v.mass ≤ 4294967000) (y4 y5 y6 : IV) (ih : ∀ p ∈ v.f, ∀ t, subS sc p.1 = some t → W F123 0 [t.enc, p.2.enc] = some [(pruneV p.2 t).enc]) :
  ∀ (n i : Nat) (acc : List (ByteArray × Val)), i + n = v.f.length → acc.length ≤ i → massFs acc + massFs (v.f.drop i) ≤ 4294967000 →
  W F123 1 [.list (v.f.map Fld.enc), .int v.f.length, .int i, sc.enc, y4, y5, y6, .list (acc.map Fld.enc)] = some [(mapV (acc ++ (v.f.drop i).flatMap (prune1 sc))).enc]
 | 0, i, acc, h, ha, hm => by
  rw [e_F123_1]
  have h1 : ¬ i < v.f.length := by omega
  have hmap := val_map acc (by omega)
  simp only [O.lt_int, lt_cast, h1, decide_false, Option.bind_some, O.cnd_bool, Bool.false_eq_true, if_false, hmap, Val.comps_eq, O.calls_5, O.mkagg_eq, Val.fold_eta, List.drop_of_length_le (Nat.le_of_not_lt h1), List.flatMap_nil, List.append_nil]
 | n + 1, i, acc, h, ha, hm => by
  have hi : i < v.f.length := by omega
  have hlen := v.mass_len_f
  have hw := next64 (i := i) (by omega)
  have hp := prune1_mass sc v.f[i]
  have hpl := prune1_len sc v.f[i]
  rw [massFs_drop hi] at hm
  have next := prog_prune_1 sc v hs hv y4 y5 y6 ih n (i + 1) (acc ++ prune1 sc v.f[i]) (by omega) (by rw [List.length_append]; omega) (by rw [massFs_append]; omega)
  have hap : (acc.length + 1) * 96 ≤ maxBytes := app_ok (by omega) (by omega)
  rw [List.append_assoc] at next
  rw [e_F123_1, List.drop_eq_getElem_cons hi, List.flatMap_cons, ← next]
  simp only [O.lt_int, lt_cast, hi, decide_true, Option.bind_some, O.cnd_bool, if_true, O.index_list, Int.natCast_nonneg, Int.toNat_natCast, List.getElem?_map, List.getElem?_eq_getElem hi, Option.map_some, Fld.proj0, Fld.proj1, Fld.projV, ev_under sc _ hs, subIV, O.calls_2, O.ne_int, e_F123_2, O.add_int, hw]
  unfold prune1
  cases hsub : subS sc v.f[i].1 with
  | none => simp only [Option.isSome_none, O.cnd_bool, Bool.false_eq_true, if_false, Option.bind_some, ite_self, List.append_nil]
  | some t =>
   have hcall := ih _ (List.getElem_mem hi) t hsub
   by_cases hk : v.f[i].2.k = 0
   ·simp only [Option.isSome_some, O.cnd_bool, if_true, Option.bind_some, hk, decide_true, Bool.not_true, Bool.false_eq_true, if_false, List.append_nil]
   ·simp only [Option.isSome_some, O.cnd_bool, if_true, Option.bind_some, hk, decide_false, Bool.not_false, if_false, Option.getD_some, hcall, O.calls_1, Val.proj0, Val.proj1, Val.proj2, Val.proj3, Val.proj4, O.mkagg_eq, Fld.fold_eta, O.mklist_eq, O.append_list, List.length_map, List.length_singleton, hap, List.map_append, List.map_cons, List.map_nil]
theorem prog_prune_l (sc t : Sch) (v : Val) (hv : v.mass ≤ 4294967000) (y4 y5 y6 : IV) (ht : sc.it = [t]) (ih : ∀ x ∈ v.l, W F123 0 [t.enc, x.enc] = some [(pruneV x t).enc]) :
  ∀ (n i : Nat) (acc : List Val), i + n = v.l.length → acc.length ≤ i → massVs acc + massVs (v.l.drop i) ≤ 4294967000 →
  W F124 1 [.list (v.l.map Val.enc), .int v.l.length, .int i, sc.enc, y4, y5, y6, .list (acc.map Val.enc)] = some [(Val.mk 4 0 emptyB (acc ++ (v.l.drop i).map fun x => pruneV x t) []).enc]
 | 0, i, acc, h, ha, hm => by
  rw [e_F124_1]
  have h1 : ¬ i < v.l.length := by omega
  have hmap := val_list acc (by omega)
  simp only [O.lt_int, lt_cast, h1, decide_false, Option.bind_some, O.cnd_bool, Bool.false_eq_true, if_false, hmap, Val.comps_eq, O.calls_5, O.mkagg_eq, Val.fold_eta, List.drop_of_length_le (Nat.le_of_not_lt h1), List.map_nil, List.append_nil]
 | n + 1, i, acc, h, ha, hm => by
  have hi : i < v.l.length := by omega
  have hlen := v.mass_len_l
  have hw := next64 (i := i) (by omega)
  have hp := pruneV_mass v.l[i] t
  rw [massVs_drop hi] at hm
  have next := prog_prune_l sc t v hv y4 y5 y6 ht ih n (i + 1) (acc ++ [pruneV v.l[i] t]) (by omega) (by rw [List.length_append]; simp; omega) (by rw [massVs_append, massVs_cons, massVs_nil]; omega)
  have hap : (acc.length + 1) * 80 ≤ maxBytes := app_ok (by omega) (by omega)
  have hcall := ih _ (List.getElem_mem hi)
  rw [List.append_assoc, List.singleton_append] at next
  rw [e_F124_1, List.drop_eq_getElem_cons hi, List.map_cons, ← next]
  simp only [O.lt_int, lt_cast, hi, decide_true, Option.bind_some, O.cnd_bool, if_true, O.index_list, Int.natCast_nonneg, Int.toNat_natCast, List.getElem?_map, List.getElem?_eq_getElem hi, Option.map_some, Sch.proj5, ht, List.map_cons, List.map_nil, Int.le_refl, Int.toNat_zero, List.getElem?_cons_zero, hcall, O.calls_1, O.mklist_eq, O.append_list, List.length_map, List.length_singleton, hap, List.map_append, O.add_int, hw]
theorem flat_id (sc : Sch) (l : List (ByteArray × Val)) (h : Strict l) : mapL (l.flatMap (prune1 sc)) = l.flatMap (prune1 sc) :=
 mapL_id (flat_strict _ (fun _ _ h => prune1_name h) (prune1_len sc) l h)
theorem prog_prune : ∀ v : Val, VOk v → v.mass ≤ 4294967000 → ∀ sc : Sch, SOk sc → sc.mass ≤ 1099511627776 → W F123 0 [sc.enc, v.enc] = some [(pruneV v sc).enc] := by
 refine Val.ind fun v ih1 ih2 hv hm sc hs hsm => ?_
 have hcl := defs_clone v (by omega)
 rw [e_F123_0, pruneV_eq]
 simp only [Val.proj0, Sch.proj0, Option.bind_some, O.ne_int, O.eq_int, O.cnd_bool]
 by_cases hk : v.k = sc.k
 ·simp only [hk, decide_true, Bool.not_true, Bool.false_eq_true, if_false, Option.bind_some, if_true]
  by_cases h5 : sc.k = 5
  ·have hk5 : v.k = 5 := by omega
   have hf := prog_prune_1 sc v hsm hm (.int 0) (.int 0) (.str ⟨#[]⟩) (fun p hp t ht => ih2 p hp (hv.mem_f hp) (by have := Val.mass_f hp; omega) t (hs.sub ht) (by have := subS_mass ht; omega)) v.f.length 0 [] (by omega) (by simp) (by rw [massFs_nil, List.drop_zero]; have := v.mass_eq; omega)
   simp only [List.drop_zero, Int.cast_ofNat_Int, List.map_nil, List.nil_append] at hf
   simp [h5, hf, mapV, flat_id sc _ hv.strict]
  ·by_cases h4 : sc.k = 4
   ·have hk4 : v.k = 4 := by omega
    obtain ⟨t, ht⟩ := List.length_eq_one_iff.1 (hs.list h4)
    have htm : t ∈ sc.it := by rw [ht]; simp
    have hl := prog_prune_l sc t v hm (.int 0) (.int 0) (.str ⟨#[]⟩) ht (fun x hx => ih1 x hx (hv.mem_l hx) (by have := Val.mass_l hx; omega) t (hs.mem_it htm) (by have := Sch.mass_it htm; omega)) v.l.length 0 [] (by omega) (by simp) (by rw [massVs_nil, List.drop_zero]; have := v.mass_eq; omega)
    simp only [List.drop_zero, Int.cast_ofNat_Int, List.map_nil, List.nil_append] at hl
    have he : W F124 0 [sc.enc, v.enc] = some [(Val.mk 4 0 emptyB (v.l.map fun x => pruneV x t) []).enc] := by
     rw [e_F124_0]
     simp [ht, hl]
    simp [h4, he, ht]
   ·simp [h4, h5, hcl]
 ·simp [hk, hcl]
end Go.CT.Sch.D
namespace Go.CT.Sch.D
open Go.Proofs
theorem lives : W F104 0 [] = some [.bool true] := V_run 1000 (by kernel_rfl)
theorem size_2 (s : Sch) (hs : s.mass ≤ 1099511627776) (ih : ∀ p ∈ s.f, ∀ m : Int, 0 ≤ m → m ≤ 300 → ∃ r : Int, W F2 0 [p.s.enc, .int m] = some [.int r] ∧ 1 ≤ r ∧ r ≤ max 1 m) : ∀ (n i : Nat) (m c : Int), i + n = s.f.length → 1 ≤ c → c ≤ max 1 m → 0 ≤ m → m ≤ 300 →
  ∃ r : Int, W F2 2 [.int m, .int c, .int i, s.enc] = some [.int r] ∧ 1 ≤ r ∧ r ≤ max 1 m
 | 0, i, m, c, h, hc, hc2, hm, hm2 => by
  have h1 : ¬ i < s.f.length := by omega
  refine ⟨c, ?_, hc, hc2⟩
  rw [e_F2_2]
  simp [h1]
 | n + 1, i, m, c, h, hc, hc2, hm, hm2 => by
  have hi : i < s.f.length := by omega
  have hl := s.mass_len_f
  have hw := next64 (i := i) (by omega)
  rw [e_F2_2]
  by_cases hcm : c < m
  ·have hw1 : IntKind.i64.wrap (m - c) = m - c := wrap64 (by omega) (by omega)
   obtain ⟨r, hr, hr1, hr2⟩ := ih _ (List.getElem_mem hi) (m - c) (by omega) (by omega)
   have hw2 : IntKind.i64.wrap (c + r) = c + r := wrap64 (by omega) (by omega)
   obtain ⟨r', hr', hr1', hr2'⟩ := size_2 s hs ih n (i + 1) m (c + r) (by omega) (by omega) (by omega) hm hm2
   refine ⟨r', ?_, hr1', hr2'⟩
   simp only [Sch.proj6, Option.bind_some, O.len_list, List.length_map, O.lt_int, lt_cast, hi, decide_true, O.cnd_bool, if_true, hcm, O.index_list, Int.natCast_nonneg, Int.toNat_natCast, List.getElem?_map, List.getElem?_eq_getElem hi, Option.map_some, SFld.projS, O.sub_int, hw1, hr, O.calls_1, O.add_int, hw2, hw, hr']
  ·refine ⟨c, ?_, hc, hc2⟩
   simp [hi, hcm]
theorem size_1 (s : Sch) (hs : s.mass ≤ 1099511627776) (ih : ∀ x ∈ s.it, ∀ m : Int, 0 ≤ m → m ≤ 300 → ∃ r : Int, W F2 0 [x.enc, .int m] = some [.int r] ∧ 1 ≤ r ∧ r ≤ max 1 m) : ∀ (n i : Nat) (m c : Int), i + n = s.it.length → 1 ≤ c → c ≤ max 1 m → 0 ≤ m → m ≤ 300 →
  ∃ r : Int, W F2 1 [.int m, .int c, .int i, s.enc] = W F2 2 [.int m, .int r, .int 0, s.enc] ∧ 1 ≤ r ∧ r ≤ max 1 m
 | 0, i, m, c, h, hc, hc2, hm, hm2 => by
  have h1 : ¬ i < s.it.length := by omega
  refine ⟨c, ?_, hc, hc2⟩
  rw [e_F2_1]
  simp [h1]
 | n + 1, i, m, c, h, hc, hc2, hm, hm2 => by
  have hi : i < s.it.length := by omega
  have hl := s.mass_len_it
  have hw := next64 (i := i) (by omega)
  rw [e_F2_1]
  by_cases hcm : c < m
  ·have hw1 : IntKind.i64.wrap (m - c) = m - c := wrap64 (by omega) (by omega)
   obtain ⟨r, hr, hr1, hr2⟩ := ih _ (List.getElem_mem hi) (m - c) (by omega) (by omega)
   have hw2 : IntKind.i64.wrap (c + r) = c + r := wrap64 (by omega) (by omega)
   obtain ⟨r', hr', hr1', hr2'⟩ := size_1 s hs ih n (i + 1) m (c + r) (by omega) (by omega) (by omega) hm hm2
   refine ⟨r', ?_, hr1', hr2'⟩
   simp only [Sch.proj5, Option.bind_some, O.len_list, List.length_map, O.lt_int, lt_cast, hi, decide_true, O.cnd_bool, if_true, hcm, O.index_list, Int.natCast_nonneg, Int.toNat_natCast, List.getElem?_map, List.getElem?_eq_getElem hi, Option.map_some, O.sub_int, hw1, hr, O.calls_1, O.add_int, hw2, hw, hr']
  ·refine ⟨c, ?_, hc, hc2⟩
   simp [hi, hcm]
theorem ev_size : ∀ s : Sch, s.mass ≤ 1099511627776 → ∀ m : Int, 0 ≤ m → m ≤ 300 → ∃ r : Int, W F2 0 [s.enc, .int m] = some [.int r] ∧ 1 ≤ r ∧ r ≤ max 1 m := by
 refine Sch.ind fun s ih1 ih2 hs m hm hm2 => ?_
 obtain ⟨c, h1, h2, h3⟩ := size_1 s hs (fun x hx => ih1 x hx (by have := Sch.mass_it hx; omega)) s.it.length 0 m 1 (by omega) (by omega) (by omega) hm hm2
 obtain ⟨r, h4, h5, h6⟩ := size_2 s hs (fun p hp => ih2 p hp (by have := Sch.mass_f hp; omega)) s.f.length 0 m c (by omega) h2 h3 hm hm2
 refine ⟨r, ?_, h5, h6⟩
 rw [e_F2_0]
 exact h1.trans h4
end Go.CT.Sch.D
namespace Go.CT.Sch.D
open Go.Proofs
def pick (o : Option Val) (df : List Val) : Option Val :=
 match df with
 | [] => o
 | d :: _ => match o with
  | none => some d
  | some x => if x.k = 0 then some d else some x
mutual
def fillS : Sch → Val → Val
 | ⟨k, _, _, _, _, it, f⟩, v =>
  if v.k = k then
   if k = 4 then (if it.length = 1 then ⟨4, 0, emptyB, v.l.map fun x => fillI it x, []⟩ else v)
   else if k = 5 then (if it.length = 0 then fillFs f v v else ⟨5, 0, emptyB, [], v.f.map fun p => (p.1, fillI it p.2)⟩)
   else v
  else v
def fillI : List Sch → Val → Val
 | [], v => v
 | s :: _, v => fillS s v
def fillFs : List SFld → Val → Val → Val
 | [], _, out => out
 | ⟨nm, _, _, df, s⟩ :: fs, v, out => fillFs fs v (match pick (v.get nm) df with | some x => withV out nm (fillS s x) | none => out)
end
def fill1 (v out : Val) (p : SFld) : Val := match pick (v.get p.nm) p.df with | some x => withV out p.nm (fillS p.s x) | none => out
theorem fillFs_cons (p : SFld) (fs : List SFld) (v out : Val) : fillFs (p :: fs) v out = fillFs fs v (fill1 v out p) := by
 obtain ⟨nm, rq, im, df, s⟩ := p
 simp only [fillFs]; rfl
theorem fillS_eq (s : Sch) (v : Val) : fillS s v =
  if v.k = s.k then
   if s.k = 4 then (if s.it.length = 1 then ⟨4, 0, emptyB, v.l.map fun x => fillI s.it x, []⟩ else v)
   else if s.k = 5 then (if s.it.length = 0 then fillFs s.f v v else ⟨5, 0, emptyB, [], v.f.map fun p => (p.1, fillI s.it p.2)⟩)
   else v
  else v := by
 cases s; simp only [fillS]; rfl
theorem fillI_one {s t : Sch} (h : s.it = [t]) (v : Val) : fillI s.it v = fillS t v := by rw [h]; simp only [fillI]
theorem find_look {l : List (ByteArray × Val)} (h : Strict l) (nm : ByteArray) : (l.find? fun p => decide (p.1 = nm)) = look nm l := by
 induction l with
 | nil => rfl
 | cons a l ih =>
  have h1 := List.pairwise_cons.1 h
  rw [look_cons, List.find?_cons, ih h1.2]
  by_cases c : a.1 = nm
  ·have hn : look nm l = none := by
    unfold look
    rw [List.getLast?_eq_none_iff, List.filter_eq_nil_iff]
    intro y hy hy2
    simp only [isName, decide_eq_true_eq] at hy2
    have := h1.1 y hy
    rw [c, hy2, blt_irrefl] at this
    cases this
   simp [hn, c]
  ·have c' : decide (a.1 = nm) = false := by simpa using c
   simp only [c', if_neg c, Option.or_none]
theorem get_look {v : Val} (hk : v.k = 5) (h : Strict v.f) (nm : ByteArray) : v.get nm = (look nm v.f).map (·.2) := by
 unfold Val.get
 rw [if_pos hk, find_look h]
theorem look_append (nm : ByteArray) (a b : List (ByteArray × Val)) : look nm (a ++ b) = (look nm b).or (look nm a) := by
 unfold look
 rw [List.filter_append, List.getLast?_append]
theorem look_filter (nm nm' : ByteArray) (l : List (ByteArray × Val)) : look nm' (l.filter (noName nm)) = if nm' = nm then none else look nm' l := by
 unfold look
 rw [List.filter_filter]
 by_cases c : nm' = nm
 ·rw [if_pos c]
  have : (l.filter fun a => isName nm' a && noName nm a) = [] := by
   rw [List.filter_eq_nil_iff]
   intro y _
   simp [isName, noName, c]
  rw [this]; rfl
 ·rw [if_neg c]
  congr 1
  refine List.filter_congr fun y _ => ?_
  by_cases d : y.1 = nm'
  ·have : ¬ nm' = nm := c
   simp [isName, noName, d, this]
  ·simp [isName, d]
theorem look_with (v : Val) (nm nm' : ByteArray) (x : Val) (hk : v.k = 5) : look nm' (withV v nm x).f = if nm' = nm then some (nm, x) else look nm' v.f := by
 show look nm' (mapL (othersF v nm ++ [(nm, x)])) = _
 rw [look_mapL, look_append]
 unfold othersF
 rw [if_pos hk]
 have h1 : look nm' [(nm, x)] = if nm = nm' then some (nm, x) else none := by rw [look_cons]; rfl
 have h2 := look_filter nm nm' v.f
 have h3 : (v.f.filter fun p => !decide (p.1 = nm)) = v.f.filter (noName nm) := rfl
 rw [h1, h3, h2]
 by_cases c : nm' = nm
 ·rw [if_pos c, if_pos c.symm, if_pos c]; rfl
 ·rw [if_neg c, if_neg (fun e => c e.symm), if_neg c]; rfl
def Plain (v : Val) : Prop := v.k = 5 ∧ v.n = 0 ∧ v.s = emptyB ∧ v.l = [] ∧ Strict v.f
theorem plain_with (v : Val) (nm : ByteArray) (x : Val) : Plain (withV v nm x) := ⟨rfl, rfl, rfl, rfl, mapL_strict _⟩
theorem plain_ext {a b : Val} (ha : Plain a) (hb : Plain b) (h : ∀ nm, look nm a.f = look nm b.f) : a = b := by
 obtain ⟨a1, a2, a3, a4, a5⟩ := ha
 obtain ⟨b1, b2, b3, b4, b5⟩ := hb
 rw [a.eta, b.eta, a1, a2, a3, a4, b1, b2, b3, b4, strict_look_ext a5 b5 h]
theorem plain_ok {v : Val} (h : VOk v) (hk : v.k = 5) : Plain v := ⟨hk, (h.map hk).1, (h.map hk).2.1, (h.map hk).2.2, h.strict⟩
def fillLook (fs : List SFld) (v : Val) (nm : ByteArray) : Option (ByteArray × Val) :=
 match fs.find? fun p => decide (p.nm = nm) with
 | none => none
 | some p => (pick (v.get p.nm) p.df).map fun x => (nm, fillS p.s x)
theorem fillFs_plain : ∀ (fs : List SFld) (v out : Val), Plain out → Plain (fillFs fs v out)
 | [], v, out, h => by simp only [fillFs]; exact h
 | p :: fs, v, out, h => by
  rw [fillFs_cons]
  refine fillFs_plain fs v _ ?_
  unfold fill1
  split
  ·exact plain_with _ _ _
  ·exact h
theorem fillFs_look : ∀ (fs : List SFld) (v out : Val), fs.Pairwise (fun a b => blt a.nm b.nm = true) → Plain out → ∀ nm, look nm (fillFs fs v out).f = (fillLook fs v nm).or (look nm out.f)
 | [], v, out, _, _, nm => by simp only [fillFs, fillLook, List.find?_nil, Option.none_or]
 | p :: fs, v, out, hfs, hp, nm => by
  have h1 := List.pairwise_cons.1 hfs
  have hp2 : Plain (fill1 v out p) := by
   unfold fill1
   split
   ·exact plain_with _ _ _
   ·exact hp
  rw [fillFs_cons, fillFs_look fs v _ h1.2 hp2 nm]
  have hl : look nm (fill1 v out p).f = (if p.nm = nm then (pick (v.get p.nm) p.df).map fun x => (nm, fillS p.s x) else none).or (look nm out.f) := by
   unfold fill1
   cases hx : pick (v.get p.nm) p.df with
   | none => simp
   | some x =>
    simp only
    rw [look_with _ _ _ _ hp.1]
    by_cases c : p.nm = nm
    ·rw [if_pos c.symm, if_pos c, c]; rfl
    ·rw [if_neg (fun e => c e.symm), if_neg c]; rfl
  rw [hl]
  unfold fillLook
  rw [List.find?_cons]
  by_cases c : p.nm = nm
  ·have hn : (fs.find? fun q => decide (q.nm = nm)) = none := by
    rw [List.find?_eq_none]
    intro q hq hq2
    have := h1.1 q hq
    rw [c, of_decide_eq_true hq2, blt_irrefl] at this
    cases this
   have c' : decide (p.nm = nm) = true := by simpa using c
   simp only [hn, c', if_pos c, Option.none_or]
  ·have c' : decide (p.nm = nm) = false := by simpa using c
   simp only [c', if_neg c, Option.none_or]
end Go.CT.Sch.D
namespace Go.CT.Sch.D
open Go.Proofs
theorem pick_from {o : Option Val} {df : List Val} {x : Val} (h : pick o df = some x) : o = some x ∨ x ∈ df := by
 unfold pick at h
 cases df with
 | nil => exact .inl h
 | cons d r =>
  cases o with
  | none => simp at h; subst h; exact .inr (by simp)
  | some y =>
   simp only at h
   split at h
   ·simp at h; subst h; exact .inr (by simp)
   ·exact .inl h
theorem get_wide {N : Nat} {v x : Val} {nm : ByteArray} (h : Wide N v) (hx : v.get nm = some x) : Wide N x := by
 unfold Val.get at hx
 split at hx
 ·rw [Option.map_eq_some_iff] at hx
  obtain ⟨p, hp, rfl⟩ := hx
  exact h.mem_f (List.mem_of_find?_eq_some hp)
 ·cases hx
theorem withV_len (v : Val) (nm : ByteArray) (x : Val) : (withV v nm x).f.length ≤ v.f.length + 1 := by
 have h1 := mapL_len (othersF v nm ++ [(nm, x)])
 have h2 : (othersF v nm).length ≤ v.f.length := by
  unfold othersF
  split
  ·exact List.length_filter_le _ _
  ·exact Nat.zero_le _
 show (mapL (othersF v nm ++ [(nm, x)])).length ≤ _
 simp at h1; omega
theorem withV_wide {K : Nat} {v x : Val} {nm : ByteArray} (hv : Wide K v) (hx : Wide K x) (hl : v.f.length + 1 ≤ K) : Wide K (withV v nm x) := by
 refine .mk _ (Nat.zero_le _) (Nat.le_trans (withV_len v nm x) hl) (fun y hy => ?_) (fun p hp => ?_)
 ·exact absurd hy (by show ¬ y ∈ ([] : List Val); simp)
 ·have hp2 : p ∈ mapL (othersF v nm ++ [(nm, x)]) := hp
  rcases List.mem_append.1 (mapL_mem hp2) with h | h
  ·exact (others_wide hv nm).2 p h
  ·simp at h; subst h; exact hx
theorem df_wide {s : Sch} {M : Nat} (hs : s.mass ≤ M) {p : SFld} (hp : p ∈ s.f) {d : Val} (hd : d ∈ p.df) : Wide M d := by
 have := Sch.mass_d hp hd
 exact wide_mass d (by omega)
theorem fillFs_wide (K : Nat) (v : Val) : ∀ (fs : List SFld) (out : Val), (∀ p ∈ fs, ∀ x, pick (v.get p.nm) p.df = some x → Wide K (fillS p.s x)) → Wide K out → out.f.length + fs.length ≤ K → Wide K (fillFs fs v out)
 | [], out, _, h, _ => by simp only [fillFs]; exact h
 | p :: fs, out, ih, h, hl => by
  simp only [List.length_cons] at hl
  rw [fillFs_cons]
  have h1 : Wide K (fill1 v out p) ∧ (fill1 v out p).f.length ≤ out.f.length + 1 := by
   unfold fill1
   cases hx : pick (v.get p.nm) p.df with
   | none => exact ⟨h, by simp⟩
   | some x => exact ⟨withV_wide h (ih p (by simp) x hx) (by omega), withV_len _ _ _⟩
  exact fillFs_wide K v fs _ (fun q hq => ih q (by simp [hq])) h1.1 (by omega)
theorem fill_wide (N M : Nat) (hMN : M ≤ N) : ∀ s : Sch, s.mass ≤ M → ∀ v : Val, Wide N v → Wide (N + M) (fillS s v) := by
 refine Sch.ind fun s ih1 ih2 hs v hv => ?_
 have hI : ∀ x : Val, Wide N x → Wide (N + M) (fillI s.it x) := by
  intro x hx
  cases hit : s.it with
  | nil => simp only [fillI]; exact hx.mono (by omega)
  | cons t r =>
   have htm : t ∈ s.it := by rw [hit]; simp
   simp only [fillI]
   exact ih1 t htm (by have := Sch.mass_it htm; omega) x hx
 rw [fillS_eq]
 split
 ·split
  ·split
   ·refine .mk _ (by simp; have := hv.len_l; omega) (Nat.zero_le _) (fun y hy => ?_) (by simp)
    simp only [Val.l_mk, List.mem_map] at hy
    obtain ⟨x, hx, rfl⟩ := hy
    exact hI x (hv.mem_l hx)
   ·exact hv.mono (by omega)
  ·split
   ·split
    ·have := s.mass_len_f
     have := hv.len_f
     refine fillFs_wide _ v s.f v (fun p hp x hx => ?_) (hv.mono (by omega)) (by omega)
     have hmf := Sch.mass_f hp
     refine ih2 p hp (by omega) x ?_
     rcases pick_from hx with h | h
     ·exact get_wide hv h
     ·exact (df_wide hs hp h).mono hMN
    ·refine .mk _ (Nat.zero_le _) (by simp; have := hv.len_f; omega) (by simp) (fun y hy => ?_)
     simp only [Val.f_mk, List.mem_map] at hy
     obtain ⟨x, hx, rfl⟩ := hy
     exact hI x.2 (hv.mem_f hx)
   ·exact hv.mono (by omega)
 ·exact hv.mono (by omega)
end Go.CT.Sch.D
namespace Go.CT.Sch.D
open Go.Proofs
def d1 (v : Val) (p : SFld) : Val := if ((v.get p.nm).getD zeroVal).k = 0 then (match p.df with | d :: _ => withV v p.nm d | [] => v) else v
def g1 (s : Sch) (p : ByteArray × Val) : ByteArray × Val := (p.1, match subS s p.1 with | some t => fillS t p.2 | none => p.2)
theorem d1_plain {v : Val} (h : Plain v) (p : SFld) : Plain (d1 v p) := by
 unfold d1
 split
 ·split
  ·exact plain_with _ _ _
  ·exact h
 ·exact h
theorem look_d1 {v : Val} (h : Plain v) (p : SFld) (nm : ByteArray) : look nm (d1 v p).f = (if p.nm = nm then (if ((v.get nm).getD zeroVal).k = 0 then p.df.head?.map fun d => (nm, d) else none) else none).or (look nm v.f) := by
 unfold d1
 by_cases c : p.nm = nm
 ·subst c
  rw [if_pos rfl]
  by_cases k : ((v.get p.nm).getD zeroVal).k = 0
  ·rw [if_pos k, if_pos k]
   cases p.df with
   | nil => rfl
   | cons d r => simp only [look_with _ _ _ _ h.1, if_true]; rfl
  ·rw [if_neg k, if_neg k]; rfl
 ·rw [if_neg c]
  by_cases k : ((v.get p.nm).getD zeroVal).k = 0
  ·rw [if_pos k]
   cases p.df with
   | nil => rfl
   | cons d r => simp only [look_with _ _ _ _ h.1, if_neg (fun e => c e.symm : ¬ nm = p.nm)]; rfl
  ·rw [if_neg k]; rfl
theorem look_folds : ∀ (fs : List SFld) (v : Val), fs.Pairwise (fun a b => blt a.nm b.nm = true) → Plain v → ∀ nm, look nm (fs.foldl d1 v).f =
  (match fs.find? (fun q : SFld => decide (q.nm = nm)) with
   | none => none
   | some p => if ((v.get nm).getD zeroVal).k = 0 then p.df.head?.map fun d => (nm, d) else none).or (look nm v.f)
 | [], v, _, _, nm => rfl
 | p :: fs, v, hfs, hp, nm => by
  have h1 := List.pairwise_cons.1 hfs
  have hp2 := d1_plain hp p
  rw [List.foldl_cons, look_folds fs _ h1.2 hp2 nm, List.find?_cons]
  by_cases c : p.nm = nm
  ·have hn : (fs.find? fun q => decide (q.nm = nm)) = none := by
    rw [List.find?_eq_none]
    intro q hq hq2
    have := h1.1 q hq
    rw [c, of_decide_eq_true hq2, blt_irrefl] at this
    cases this
   have c' : decide (p.nm = nm) = true := by simpa using c
   rw [hn, c', look_d1 hp p nm, if_pos c]; rfl
  ·have c' : decide (p.nm = nm) = false := by simpa using c
   have hl : look nm (d1 v p).f = look nm v.f := by rw [look_d1 hp p nm, if_neg c]; rfl
   have hg : (d1 v p).get nm = v.get nm := by rw [get_look hp2.1 hp2.2.2.2.2, get_look hp.1 hp.2.2.2.2, hl]
   rw [c', hl, hg]
theorem look_map (g : ByteArray × Val → ByteArray × Val) (hg : ∀ p, (g p).1 = p.1) (nm : ByteArray) : ∀ l : List (ByteArray × Val), look nm (l.map g) = (look nm l).map g
 | [] => rfl
 | p :: l => by
  rw [List.map_cons, look_cons, look_cons, look_map g hg nm l, hg]
  by_cases c : p.1 = nm
  ·simp only [if_pos c]
   cases look nm l <;> rfl
  ·simp only [if_neg c, Option.or_none]
theorem plain_mapV (l : List (ByteArray × Val)) : Plain (mapV l) := ⟨rfl, rfl, rfl, rfl, mapL_strict _⟩
theorem fill_struct (s : Sch) (v : Val) (hs : SOk s) (hv : Plain v) (hi : s.it.length = 0) : mapV ((s.f.foldl d1 v).f.map (g1 s)) = fillFs s.f v v := by
 refine plain_ext (plain_mapV _) (fillFs_plain s.f v v hv) fun nm => ?_
 have hsub : ∀ q : ByteArray × Val, subS s q.1 = (s.fld q.1).map (·.s) := fun q => by unfold subS; rw [if_neg (by omega)]
 show look nm (mapL _) = _
 rw [look_mapL, look_map (g1 s) (fun _ => rfl), look_folds s.f v hs.names hv nm, fillFs_look s.f v v hs.names hv nm]
 have hget := get_look hv.1 hv.2.2.2.2 nm
 have hname : look nm v.f = (v.get nm).map fun x => (nm, x) := by
  rw [hget]
  cases h : look nm v.f with
  | none => rfl
  | some q => simp only [Option.map_some]; rw [← look_name h]
 unfold fillLook
 rw [hname]
 cases hf : s.f.find? fun p => decide (p.nm = nm) with
 | none =>
  simp only [Option.none_or]
  cases v.get nm with
  | none => rfl
  | some x =>
   have : subS s nm = none := by rw [hsub (nm, x)]; unfold Sch.fld; rw [hf]; rfl
   simp only [Option.map_some, g1, this]
 | some p =>
  have hpn : p.nm = nm := by simpa using List.find?_some hf
  have hsn : subS s nm = some p.s := by rw [hsub (nm, zeroVal)]; unfold Sch.fld; rw [hf]; rfl
  simp only [hpn]
  cases hdf : p.df with
  | nil =>
   cases v.get nm with
   | none => simp [pick]
   | some x => by_cases hk : x.k = 0 <;> simp [pick, g1, hsn, hk]
  | cons d r =>
   cases v.get nm with
   | none => simp [pick, g1, hsn, zeroVal]
   | some x => by_cases hk : x.k = 0 <;> simp [pick, g1, hsn, hk]
end Go.CT.Sch.D
namespace Go.CT.Sch
open Go.Proofs
theorem val_others_1 (p : ByteArray × Val) (nm : ByteArray) : W F118 0 [Fld.enc p, .str nm] = some [.bool (decide (p.1 = nm))] := by
 rw [e_F118_0]; simp
theorem val_index (l : List (ByteArray × Val)) (nm : ByteArray) (hl : l.length ≤ 1099511627776) : ∀ (n i : Nat), i + n = l.length → (∀ p ∈ l.take i, ¬ p.1 = nm) →
  (W F117 1 [.list (l.map Fld.enc), .str nm, .int l.length, .int i] = some [.int (-1)] ∧ ∀ p ∈ l, ¬ p.1 = nm) ∨
  ∃ j, ∃ h : j < l.length, W F117 1 [.list (l.map Fld.enc), .str nm, .int l.length, .int i] = some [.int (j : Nat)] ∧ l[j].1 = nm ∧ ∀ p ∈ l.take j, ¬ p.1 = nm
 | 0, i, h, hp => by
  left
  rw [e_F117_1]
  have h1 : ¬ i < l.length := by omega
  rw [List.take_of_length_le (by omega)] at hp
  refine ⟨?_, hp⟩
  simp only [O.lt_int, lt_cast, h1, decide_false, Option.bind_some, O.cnd_bool, Bool.false_eq_true, if_false]
 | n + 1, i, h, hp => by
  have hi : i < l.length := by omega
  have hw := next64 (i := i) (by omega)
  rw [e_F117_1]
  by_cases c : l[i].1 = nm
  ·right
   refine ⟨i, hi, ?_, c, hp⟩
   simp only [O.lt_int, lt_cast, hi, decide_true, Option.bind_some, O.cnd_bool, if_true, O.index_list, Int.natCast_nonneg, Int.toNat_natCast, List.getElem?_map, List.getElem?_eq_getElem hi, Option.map_some, val_others_1, O.calls_1, c]
  ·have := val_index l nm hl n (i + 1) (by omega) (by
    intro p hp'
    rw [← take_get l hi] at hp'
    rcases List.mem_append.1 hp' with h | h
    ·exact hp p h
    ·simp at h; subst h; exact c)
   simp only [O.lt_int, lt_cast, hi, decide_true, Option.bind_some, O.cnd_bool, if_true, O.index_list, Int.natCast_nonneg, Int.toNat_natCast, List.getElem?_map, List.getElem?_eq_getElem hi, Option.map_some, val_others_1, O.calls_1, c, decide_false, Bool.false_eq_true, if_false, O.add_int, hw]
   exact this
theorem val_delete_1 (nm : ByteArray) : ∀ (rest kept junk : List (ByteArray × Val)), junk ≠ [] → kept.length + junk.length + rest.length ≤ 1099511627776 →
  W F116 1 [.str nm, .int kept.length, .int (kept.length + junk.length : Nat), Srt.LE Fld.enc (kept ++ (junk ++ rest))] = some [Srt.LE Fld.enc (kept ++ rest.filter (noName nm))]
 | [], kept, junk, hj, hb => by
  have hj' := List.length_pos_iff.2 hj
  rw [e_F116_1, Srt.len]
  have h1 : ¬ ((kept.length + junk.length : Nat) : Int) < (kept ++ (junk ++ [])).length := by simp
  have hc : ∀ z : IV, O.clear z (Srt.LE Fld.enc (kept ++ (junk ++ []))) (.int kept.length) (.int (kept ++ (junk ++ [])).length) = some (.list (kept.map Fld.enc ++ List.replicate junk.length z)) := by
   intro z
   unfold O.clear Srt.LE
   simp only [Prim.ev, List.append_nil, List.length_map, List.length_append, Int.natCast_nonneg, true_and, Int.toNat_natCast, Nat.le_refl, and_true]
   rw [if_pos (by omega)]
   simp
  have hs : ∀ ys : List IV, O.slice (.list (kept.map Fld.enc ++ ys)) (.int 0) (.int kept.length) = some (Srt.LE Fld.enc kept) := by
   intro ys
   rw [O.slice_list, if_pos (by simp only [List.length_append, List.length_map]; omega)]
   simp [Srt.LE]
  have hs2 : ∃ y, O.slice (Srt.LE Fld.enc (kept ++ (junk ++ []))) (.int kept.length) (.int (kept ++ (junk ++ [])).length) = some y := by
   unfold Srt.LE
   rw [O.slice_list, if_pos (by simp only [List.length_append, List.length_map]; omega)]
   exact ⟨_, rfl⟩
  obtain ⟨y, hs2⟩ := hs2
  simp only [List.append_nil] at h1 hc hs2
  simp only [List.append_nil, Option.bind_some, O.lt_int, h1, decide_false, O.cnd_bool, Bool.false_eq_true, if_false, hs2, hc, hs, List.filter_nil, List.append_nil]
 | v :: rest, kept, [], hj, hb => absurd rfl hj
 | v :: rest, kept, y :: js, hj, hb => by
  simp only [List.length_cons] at hb
  rw [e_F116_1, Srt.len]
  have h1 : ((kept.length + (y :: js).length : Nat) : Int) < (kept ++ (y :: js ++ v :: rest)).length := by simp; omega
  have hw : IntKind.i64.wrap (((kept.length + (y :: js).length : Nat) : Int) + 1) = ((kept.length + (y :: js).length + 1 : Nat) : Int) := by simp only [List.length_cons]; rw [wrap64 (by omega) (by omega)]; omega
  have hw2 : IntKind.i64.wrap ((kept.length : Int) + 1) = ((kept.length + 1 : Nat) : Int) := next64 (by omega)
  have gv := Srt.idx Fld.enc (Srt.get_mid' (l := kept ++ (y :: js ++ v :: rest)) (A := kept ++ y :: js) (x := v) (B := rest) (by simp) (i := kept.length + (y :: js).length) (by simp))
  have gi := Srt.idx Fld.enc (Srt.get_mid' (l := kept ++ (y :: js ++ v :: rest)) (A := kept) (x := y) (B := js ++ v :: rest) (by simp) (i := kept.length) rfl)
  have st := Srt.set_mid' (l := kept ++ (y :: js ++ v :: rest)) (A := kept) (x := y) (y := v) (B := js ++ v :: rest) (by simp) (i := kept.length) rfl
  have hi1 : kept.length < (kept ++ (y :: js ++ v :: rest)).length := by simp
  rw [List.filter_cons]
  by_cases c : v.1 = nm
  ·have ih := val_delete_1 nm rest kept (y :: js ++ [v]) (by simp) (by simp; omega)
   have hn : noName nm v = false := by simp [noName, c]
   simp only [Option.bind_some, O.lt_int, h1, decide_true, O.cnd_bool, if_true, gv, val_others_1, O.calls_1, c, O.not_bool, Bool.not_true, Bool.false_eq_true, if_false, e_F116_2, O.add_int, hw, hn]
   rw [show kept.length + (y :: js).length + 1 = kept.length + (y :: js ++ [v]).length by simp; omega]
   rw [← ih]; simp
  ·have ih := val_delete_1 nm rest (kept ++ [v]) (js ++ [v]) (by simp) (by simp; omega)
   have hn : noName nm v = true := by simp [noName, c]
   simp only [Option.bind_some, O.lt_int, h1, decide_true, O.cnd_bool, if_true, gv, val_others_1, O.calls_1, c, decide_false, O.not_bool, Bool.not_false, gi, Srt.seti Fld.enc hi1, st, O.add_int, hw2, e_F116_2, hw, hn]
   rw [show kept.length + (y :: js).length + 1 = (kept ++ [v]).length + (js ++ [v]).length by simp; omega, show kept.length + 1 = (kept ++ [v]).length by simp]
   rw [show kept ++ v :: (js ++ v :: rest) = kept ++ [v] ++ (js ++ [v] ++ rest) by simp, ih]
   simp
theorem val_delete (l : List (ByteArray × Val)) (nm : ByteArray) (hl : l.length ≤ 1099511627776) :
  W F116 0 [.list (l.map Fld.enc), .str nm] = some [.list ((l.filter (noName nm)).map Fld.enc)] := by
 rw [e_F116_0, e_F117_0]
 have key := val_index l nm hl l.length 0 (by omega) (by simp)
 simp only [Int.cast_ofNat_Int] at key
 rcases key with ⟨h1, h2⟩ | ⟨j, hj, h1, h2, h3⟩
 ·simp only [O.len_list, List.length_map, Option.bind_some, h1, O.calls_1, O.eq_int, decide_true, O.cnd_bool, if_true]
  congr 3
  rw [List.filter_eq_self.2 (fun p hp => by simp [noName, h2 p hp])]
 ·have hne : ¬ (j : Int) = -1 := by omega
  have hw2 : IntKind.i64.wrap ((j : Int) + 1) = ((j + 1 : Nat) : Int) := next64 (by omega)
  simp only [O.len_list, List.length_map, Option.bind_some, h1, O.calls_1, O.eq_int, hne, decide_false, O.cnd_bool, Bool.false_eq_true, if_false, O.add_int, hw2]
  have hs : l = l.take j ++ ([l[j]] ++ l.drop (j + 1)) := by
   rw [List.singleton_append, ← List.drop_eq_getElem_cons hj, List.take_append_drop]
  have hl1 : (l.take j).length = j := by rw [List.length_take]; omega
  have hl2 : (l.drop (j + 1)).length = l.length - (j + 1) := by rw [List.length_drop]
  have hd := val_delete_1 nm (l.drop (j + 1)) (l.take j) [l[j]] (by simp) (by simp only [List.length_singleton]; omega)
  rw [hl1, List.length_singleton, ← hs] at hd
  rw [show IV.list (l.map Fld.enc) = Srt.LE Fld.enc l from rfl, hd]
  have hf : l.filter (noName nm) = l.take j ++ (l.drop (j + 1)).filter (noName nm) := by
   conv => lhs; rw [hs]
   rw [List.filter_append, List.filter_append, List.filter_eq_self.2 (fun p hp => by simp [noName, h3 p hp])]
   congr 1
   simp [noName, h2]
  rw [hf]; rfl
theorem val_othersW (v : Val) (nm : ByteArray) (hv : Wide 1073741824 v) : W F115 0 [v.enc, .str nm] = some [.list ((othersF v nm).map Fld.enc)] := by
 rw [e_F115_0]
 unfold othersF
 have h6 := hv.len_f
 have hc : (v.f.map Fld.enc).length ≤ 1073741824 := by rw [List.length_map]; omega
 have hd := val_delete v.f nm (by omega)
 by_cases c : v.k = 5
 ·simp only [Val.proj0, Val.proj4, Option.bind_some, O.ne_int, c, decide_true, Bool.not_true, O.cnd_bool, Bool.false_eq_true, if_false, e_F58, cloneF_list hc, O.calls_1, hd, if_true]
  rfl
 ·simp [c]
theorem val_withW (v : Val) (nm : ByteArray) (x : Val) (hv : Wide 1073741823 v) (hx : Wide 1073741823 x) : W F114 0 [v.enc, .str nm, x.enc] = some (withV v nm x).comps := by
 have ho := others_wide hv nm
 have h6 := ho.1
 have hm := val_mapW (othersF v nm ++ [(nm, x)]) ⟨by simp; omega, fun p hp => by
  rcases List.mem_append.1 hp with h | h
  ·exact (ho.2 p h).mono (by omega)
  ·simp at h; subst h; exact hx.mono (by omega)⟩
 have hap : ((othersF v nm).length + 1) * 96 ≤ maxBytes := app_ok (by omega) (by omega)
 simp only [List.map_append, List.map_cons, List.map_nil] at hm
 rw [e_F114_0]
 simp only [val_othersW v nm (hv.mono (by omega)), O.calls_1, Val.proj0, Val.proj1, Val.proj2, Val.proj3, Val.proj4, Option.bind_some, O.mkagg_eq, Fld.fold_eta, O.mklist_eq, O.append_list, List.length_map, List.length_singleton, hap, if_true, hm, Val.comps_eq, O.calls_5]
 rfl
end Go.CT.Sch
namespace Go.CT.Sch.D
open Go.Proofs
theorem prog_fill_3 (s : Sch) (hs : s.mass ≤ 1048576) (y3 y5 y6 y7 : IV) : ∀ (n i : Nat) (v : Val), i + n = s.f.length → Wide 1010000000 v → v.f.length + n ≤ 1010000000 →
  W F110 1 [.list (s.f.map SFld.enc), .int s.f.length, .int i, y3, v.enc, y5, y6, y7] = W F110 2 [y3, ((s.f.drop i).foldl d1 v).enc, y5, y6, y7]
 | 0, i, v, h, hv, hl => by
  rw [e_F110_1]
  have h1 : ¬ i < s.f.length := by omega
  simp only [O.lt_int, lt_cast, h1, decide_false, Option.bind_some, O.cnd_bool, Bool.false_eq_true, if_false, List.drop_of_length_le (Nat.le_of_not_lt h1), List.foldl_nil]
 | n + 1, i, v, h, hv, hl => by
  have hi : i < s.f.length := by omega
  have hm := s.mass_len_f
  have hw := next64 (i := i) (by omega)
  have hget := val_getW v s.f[i].nm (hv.mono (by omega))
  have hdf : ∀ d ∈ s.f[i].df, Wide 1010000000 d := fun d hd => (df_wide hs (List.getElem_mem hi) hd).mono (by omega)
  have next : ∀ v', Wide 1010000000 v' → v'.f.length ≤ v.f.length + 1 → W F110 3 [.list (s.f.map SFld.enc), .int s.f.length, .int i, y3, v'.enc, y5, y6, y7] = W F110 2 [y3, ((s.f.drop (i + 1)).foldl d1 v').enc, y5, y6, y7] := by
   intro v' h1 h2
   rw [e_F110_3]
   simp only [O.add_int, hw, Option.bind_some]
   exact prog_fill_3 s hs y3 y5 y6 y7 n (i + 1) v' (by omega) h1 (by omega)
  rw [e_F110_1, List.drop_eq_getElem_cons hi, List.foldl_cons]
  simp only [O.lt_int, lt_cast, hi, decide_true, Option.bind_some, O.cnd_bool, if_true, O.index_list, Int.natCast_nonneg, Int.toNat_natCast, List.getElem?_map, List.getElem?_eq_getElem hi, Option.map_some, SFld.proj0, SFld.proj3, hget, getIV, calls_6, O.eq_int, O.gt_int]
  by_cases hk : ((v.get s.f[i].nm).getD zeroVal).k = 0
  ·cases hd : s.f[i].df with
   | nil =>
    have e : d1 v s.f[i] = v := by unfold d1; rw [if_pos hk, hd]
    have := next v hv (by omega)
    rw [e]
    simp [hk, this]
   | cons d r =>
    have e : d1 v s.f[i] = withV v s.f[i].nm d := by unfold d1; rw [if_pos hk, hd]
    have hdw := hdf d (by rw [hd]; simp)
    have hwith := val_withW v s.f[i].nm d (hv.mono (by omega)) (hdw.mono (by omega))
    have := next _ (withV_wide hv hdw (by omega)) (withV_len v s.f[i].nm d)
    have hlen : (0 : Int) < ((d.enc :: r.map Val.enc).length : Int) := by simp only [List.length_cons]; omega
    rw [e]
    simp only [hk, decide_true, if_true, Option.bind_some, O.len_list, List.map_cons, O.gt_int, hlen, Option.map_some, O.index_list, Int.le_refl, Int.toNat_zero, List.getElem?_cons_zero, O.cnd_bool, hwith, Val.comps_eq, O.calls_5, O.mkagg_eq, Val.fold_eta, this]
  ·have e : d1 v s.f[i] = v := by unfold d1; rw [if_neg hk]
   have := next v hv (by omega)
   rw [e]
   simp only [hk, decide_false, Bool.false_eq_true, if_false, Option.bind_some, O.cnd_bool, this]
theorem prog_fill_4 (s : Sch) (v : Val) (hs : s.mass ≤ 1048576) (hv : v.f.length ≤ 1010000000) (y4 y5 y6 : IV)
  (ih : ∀ p ∈ v.f, Wide 1010000000 p.2 ∧ ∀ t, subS s p.1 = some t → W F110 0 [t.enc, p.2.enc] = some [(fillS t p.2).enc] ∧ Wide 1010000000 (fillS t p.2)) :
  ∀ (n i : Nat) (acc : List (ByteArray × Val)), i + n = v.f.length → acc.length = i → WideF 1010000000 acc →
  W F110 4 [.list (v.f.map Fld.enc), .int v.f.length, .int i, s.enc, y4, y5, y6, .list (acc.map Fld.enc)] = some [(mapV (acc ++ (v.f.drop i).map (g1 s))).enc]
 | 0, i, acc, h, ha, hw => by
  rw [e_F110_4]
  have h1 : ¬ i < v.f.length := by omega
  have hmap := val_mapW acc ⟨by have := hw.1; omega, fun p hp => (hw.2 p hp).mono (by omega)⟩
  simp only [O.lt_int, lt_cast, h1, decide_false, Option.bind_some, O.cnd_bool, Bool.false_eq_true, if_false, hmap, Val.comps_eq, O.calls_5, O.mkagg_eq, Val.fold_eta, List.drop_of_length_le (Nat.le_of_not_lt h1), List.map_nil, List.append_nil]
 | n + 1, i, acc, h, ha, hw => by
  have hi : i < v.f.length := by omega
  have hwi := next64 (i := i) (by omega)
  obtain ⟨hx, hc⟩ := ih _ (List.getElem_mem hi)
  have hg : Wide 1010000000 (g1 s v.f[i]).2 := by
   unfold g1
   cases hsub : subS s v.f[i].1 with
   | none => exact hx
   | some t => exact (hc t hsub).2
  have hap : (acc.length + 1) * 96 ≤ maxBytes := app_ok (by omega) (by omega)
  have next := prog_fill_4 s v hs hv y4 y5 y6 ih n (i + 1) (acc ++ [g1 s v.f[i]]) (by omega) (by simp; omega) ⟨by simp; omega, fun p hp => by
   rcases List.mem_append.1 hp with h | h
   ·exact hw.2 p h
   ·simp at h; subst h; exact hg⟩
  rw [List.append_assoc, List.singleton_append] at next
  rw [e_F110_4, List.drop_eq_getElem_cons hi, List.map_cons, ← next]
  simp only [O.lt_int, lt_cast, hi, decide_true, Option.bind_some, O.cnd_bool, if_true, O.index_list, Int.natCast_nonneg, Int.toNat_natCast, List.getElem?_map, List.getElem?_eq_getElem hi, Option.map_some, Fld.proj0, Fld.projV, Fld.proj1, Fld.proj2, Fld.proj3, Fld.proj4, Fld.proj5, ev_under s _ (by omega : s.mass ≤ 1099511627776), subIV, O.calls_2]
  unfold g1
  cases hsub : subS s v.f[i].1 with
  | none =>
   simp only [Option.isSome_none, O.cnd_bool, Bool.false_eq_true, if_false, e_F110_5, O.mkagg_eq, Option.bind_some, Fld.fold_eta, O.mklist_eq, O.append_list, List.length_map, List.length_singleton, hap, if_true, O.add_int, hwi, List.map_append, List.map_cons, List.map_nil]
  | some t =>
   have hcall := (hc t hsub).1
   simp only [Option.isSome_some, O.cnd_bool, if_true, Option.getD_some, hcall, O.calls_1, Val.proj0, Val.proj1, Val.proj2, Val.proj3, Val.proj4, e_F110_5, O.mkagg_eq, Option.bind_some, Fld.fold_eta, O.mklist_eq, O.append_list, List.length_map, List.length_singleton, hap, O.add_int, hwi, List.map_append, List.map_cons, List.map_nil]
theorem prog_fill_l (s t : Sch) (v : Val) (hv : v.l.length ≤ 1010000000) (y4 y5 y6 : IV) (ht : s.it = [t]) (ih : ∀ x ∈ v.l, W F110 0 [t.enc, x.enc] = some [(fillS t x).enc] ∧ Wide 1010000000 (fillS t x)) :
  ∀ (n i : Nat) (acc : List Val), i + n = v.l.length → acc.length = i → (∀ x ∈ acc, Wide 1010000000 x) →
  W F113 1 [.list (v.l.map Val.enc), .int v.l.length, .int i, s.enc, y4, y5, y6, .list (acc.map Val.enc)] = some [(Val.mk 4 0 emptyB (acc ++ (v.l.drop i).map fun x => fillS t x) []).enc]
 | 0, i, acc, h, ha, hw => by
  rw [e_F113_1]
  have h1 : ¬ i < v.l.length := by omega
  have hmap := val_listW acc (by omega) (fun x hx => (hw x hx).mono (by omega))
  simp only [O.lt_int, lt_cast, h1, decide_false, Option.bind_some, O.cnd_bool, Bool.false_eq_true, if_false, hmap, Val.comps_eq, O.calls_5, O.mkagg_eq, Val.fold_eta, List.drop_of_length_le (Nat.le_of_not_lt h1), List.map_nil, List.append_nil]
 | n + 1, i, acc, h, ha, hw => by
  have hi : i < v.l.length := by omega
  have hwi := next64 (i := i) (by omega)
  obtain ⟨hcall, hx⟩ := ih _ (List.getElem_mem hi)
  have next := prog_fill_l s t v hv y4 y5 y6 ht ih n (i + 1) (acc ++ [fillS t v.l[i]]) (by omega) (by simp; omega) (fun p hp => by
   rcases List.mem_append.1 hp with h | h
   ·exact hw p h
   ·simp at h; subst h; exact hx)
  have hap : (acc.length + 1) * 80 ≤ maxBytes := app_ok (by omega) (by omega)
  rw [List.append_assoc, List.singleton_append] at next
  rw [e_F113_1, List.drop_eq_getElem_cons hi, List.map_cons, ← next]
  simp only [O.lt_int, lt_cast, hi, decide_true, Option.bind_some, O.cnd_bool, if_true, O.index_list, Int.natCast_nonneg, Int.toNat_natCast, List.getElem?_map, List.getElem?_eq_getElem hi, Option.map_some, Sch.proj5, ht, List.map_cons, List.map_nil, Int.le_refl, Int.toNat_zero, List.getElem?_cons_zero, hcall, O.calls_1, O.mklist_eq, O.append_list, List.length_map, List.length_singleton, hap, List.map_append, O.add_int, hwi]
theorem folds_ok (s : Sch) (hso : SOk s) (hs : s.mass ≤ 1048576) : ∀ (fs : List SFld) (v : Val), (∀ p ∈ fs, p ∈ s.f) → (∀ q ∈ v.f, VOk q.2 ∧ Wide 1000000000 q.2) → (∀ q ∈ (fs.foldl d1 v).f, VOk q.2 ∧ Wide 1000000000 q.2) ∧ (fs.foldl d1 v).f.length ≤ v.f.length + fs.length
 | [], v, _, h => ⟨h, by simp⟩
 | p :: fs, v, hfs, h => by
  have h1 : (∀ q ∈ (d1 v p).f, VOk q.2 ∧ Wide 1000000000 q.2) ∧ (d1 v p).f.length ≤ v.f.length + 1 := by
   unfold d1
   split
   ·cases hdf : p.df with
    | nil => exact ⟨h, by simp⟩
    | cons d r =>
     have hd : d ∈ p.df := by rw [hdf]; simp
     refine ⟨fun q hq => ?_, withV_len _ _ _⟩
     have hq2 : q ∈ mapL (othersF v p.nm ++ [(p.nm, d)]) := hq
     rcases List.mem_append.1 (mapL_mem hq2) with g | g
     ·unfold othersF at g
      split at g
      ·exact h q (List.mem_filter.1 g).1
      ·simp at g
     ·simp at g; subst g
      exact ⟨(hso.dfOk (hfs p (by simp)) hd).1, (df_wide hs (hfs p (by simp)) hd).mono (by omega)⟩
   ·exact ⟨h, by simp⟩
  obtain ⟨h2, h3⟩ := folds_ok s hso hs fs (d1 v p) (fun q hq => hfs q (by simp [hq])) h1.1
  exact ⟨h2, by rw [List.foldl_cons, List.length_cons]; omega⟩
theorem prog_fill : ∀ s : Sch, SOk s → s.mass ≤ 1048576 → ∀ v : Val, VOk v → Wide 1000000000 v → W F110 0 [s.enc, v.enc] = some [(fillS s v).enc] := by
 refine Sch.ind fun s ih1 ih2 hso hs v hv hvw => ?_
 have hcl := defs_cloneW v (hvw.mono (by omega))
 have IH : ∀ (nm : ByteArray) (t : Sch), subS s nm = some t → ∀ x, VOk x → Wide 1000000000 x → W F110 0 [t.enc, x.enc] = some [(fillS t x).enc] ∧ Wide 1010000000 (fillS t x) := by
  intro nm t ht x hx hxw
  have htm := subS_mass ht
  refine ⟨?_, (fill_wide 1000000000 1048576 (by omega) t (by omega) x hxw).mono (by omega)⟩
  rcases subS_mem ht with h | ⟨p, hp, _, rfl⟩
  ·exact ih1 t h (hso.mem_it h) (by omega) x hx hxw
  ·exact ih2 p hp (hso.mem_f hp) (by omega) x hx hxw
 have hmf := s.mass_len_f
 have hvl := hvw.len_f
 -- the second loop, from whatever the first leaves
 have second : ∀ v' : Val, (∀ q ∈ v'.f, VOk q.2 ∧ Wide 1000000000 q.2) → v'.f.length ≤ 1010000000 → W F110 2 [s.enc, v'.enc, .int 0, .int 0, .str ⟨#[]⟩] = some [(mapV (v'.f.map (g1 s))).enc] := by
  intro v' h1 h2
  have h4 := prog_fill_4 s v' hs h2 (.int 0) (.int 0) (.str ⟨#[]⟩) (fun p hp => ⟨(h1 p hp).2.mono (by omega), fun t ht => IH p.1 t ht p.2 (h1 p hp).1 (h1 p hp).2⟩) v'.f.length 0 [] (by omega) rfl ⟨Nat.zero_le _, by simp⟩
  simp only [List.drop_zero, Int.cast_ofNat_Int, List.map_nil, List.nil_append] at h4
  rw [e_F110_2]
  simp only [Val.proj4, Option.bind_some, O.len_list, List.length_map, h4]
 have hvf : ∀ q ∈ v.f, VOk q.2 ∧ Wide 1000000000 q.2 := fun q hq => ⟨hv.mem_f hq, hvw.mem_f hq⟩
 rw [e_F110_0, fillS_eq]
 simp only [Val.proj0, Sch.proj0, Option.bind_some, O.ne_int, O.eq_int, O.cnd_bool]
 by_cases hk : v.k = s.k
 ·simp only [hk, decide_true, Bool.not_true, Bool.false_eq_true, if_false, Option.bind_some, if_true]
  by_cases h5 : s.k = 5
  ·have hk5 : v.k = 5 := by omega
   by_cases hi : s.it.length = 0
   ·have h0 : s.it = [] := List.length_eq_zero_iff.1 hi
    obtain ⟨f1, f2⟩ := folds_ok s hso hs s.f v (fun _ h => h) hvf
    have h3 := prog_fill_3 s hs s.enc (.int 0) (.int 0) (.str ⟨#[]⟩) s.f.length 0 v (by omega) (hvw.mono (by omega)) (by omega)
    simp only [List.drop_zero, Int.cast_ofNat_Int] at h3
    rw [second _ f1 (by omega), fill_struct s v hso (plain_ok hv hk5) hi] at h3
    simp [h5, h0, h3]
   ·obtain ⟨t, ht⟩ := List.length_eq_one_iff.1 (show s.it.length = 1 by have := hso.one; omega)
    have h2 := second v hvf (by omega)
    have hg : ∀ p : ByteArray × Val, g1 s p = (p.1, fillS t p.2) := fun p => by
     unfold g1 subS; simp [ht]
    have hst : Strict (v.f.map (g1 s)) := by
     unfold Strict
     rw [List.pairwise_map]
     exact hv.strict
    have hm : mapV (v.f.map (g1 s)) = ⟨5, 0, emptyB, [], v.f.map fun p => (p.1, fillS t p.2)⟩ := by
     unfold mapV
     rw [mapL_id hst]
     congr 1
     exact List.map_congr_left fun p _ => hg p
    rw [hm] at h2
    simp [h5, ht, h2, fillI]
  ·by_cases h4 : s.k = 4
   ·obtain ⟨t, ht⟩ := List.length_eq_one_iff.1 (hso.list h4)
    have htm : t ∈ s.it := by rw [ht]; simp
    have hl := prog_fill_l s t v (by have := hvw.len_l; omega) (.int 0) (.int 0) (.str ⟨#[]⟩) ht (fun x hx => ⟨ih1 t htm (hso.mem_it htm) (by have := Sch.mass_it htm; omega) x (hv.mem_l hx) (hvw.mem_l hx), (fill_wide 1000000000 1048576 (by omega) t (by have := Sch.mass_it htm; omega) x (hvw.mem_l hx)).mono (by omega)⟩) v.l.length 0 [] (by omega) rfl (by simp)
    simp only [List.drop_zero, Int.cast_ofNat_Int, List.map_nil, List.nil_append] at hl
    have he : W F113 0 [s.enc, v.enc] = some [(Val.mk 4 0 emptyB (v.l.map fun x => fillS t x) []).enc] := by
     rw [e_F113_0]
     simp [ht, hl]
    simp [h4, he, ht, fillI]
   ·simp [h4, h5, hcl]
 ·simp [hk, hcl]
end Go.CT.Sch.D
namespace Go.CT.Sch
open Go.Proofs
theorem rngE_p (s : Sch) (n : Int) (p q : List Stp) : (rngE p s n).length = (rngE q s n).length := by unfold rngE; split <;> rfl
theorem dupE_p (key : ByteArray) (prev : List Val) (v : Val) (p q : List Stp) : (dupE key prev v p).length = (dupE key prev v q).length := by unfold dupE; split <;> rfl
theorem miss_p (v : Val) (p q : List Stp) : ∀ l : List SFld, (l.flatMap (miss1 v p)).length = (l.flatMap (miss1 v q)).length
 | [] => rfl
 | d :: l => by
  have h1 : (miss1 v p d).length = (miss1 v q d).length := by unfold miss1; split <;> rfl
  simp only [List.flatMap_cons, List.length_append, h1, miss_p v p q l]
theorem errs_p : ∀ (v : Val) (s : Sch) (p q : List Stp), (errs v s p).length = (errs v s q).length := by
 refine Val.ind fun v ih1 ih2 s p q => ?_
 have hL : ∀ (l : List Val), (∀ x ∈ l, ∀ s p q, (errs x s p).length = (errs x s q).length) → ∀ key t prev, (errsL l key t p prev).length = (errsL l key t q prev).length := by
  intro l
  induction l with
  | nil => intro _ key t prev; rw [errsL_nil, errsL_nil]
  | cons x l ih =>
   intro h key t prev
   rw [errsL_cons, errsL_cons]
   simp only [List.length_append]
   rw [h x (by simp) t (p ++ [elStp key x prev.length]) (q ++ [elStp key x prev.length]), dupE_p key prev x (p ++ [elStp key x prev.length]) (q ++ [elStp key x prev.length]), ih (fun y hy => h y (by simp [hy])) key t (prev ++ [x])]
 have hF : ∀ (l : List (ByteArray × Val)), (∀ x ∈ l, ∀ s p q, (errs x.2 s p).length = (errs x.2 s q).length) → (errsF l s p).length = (errsF l s q).length := by
  intro l
  induction l with
  | nil => intro _; rw [errsF_nil, errsF_nil]
  | cons x l ih =>
   intro h
   have h1 : (err1 s p x).length = (err1 s q x).length := by
    unfold err1
    split
    ·rfl
    ·split
     ·rfl
     ·exact h x (by simp) _ _ _
   rw [errsF_cons, errsF_cons, List.length_append, List.length_append, h1, ih fun y hy => h y (by simp [hy])]
 rw [errs_eq v s p, errs_eq v s q]
 split
 ·split
  ·exact rngE_p s _ p q
  ·split
   ·split
    ·rfl
    ·split <;> rfl
   ·split
    ·rw [List.length_append, List.length_append, rngE_p s _ p q, hL v.l ih1]
    ·split
     ·rw [List.length_append, List.length_append, hF v.f ih2, miss_p v p q]
     ·rfl
 ·rfl
theorem errs_nil_p {v : Val} {s : Sch} {p : List Stp} (h : errs v s p = []) (q : List Stp) : errs v s q = [] := by
 have := errs_p v s p q
 rw [h] at this
 exact List.length_eq_zero_iff.1 this.symm
theorem errs_kind {v : Val} {s : Sch} {p : List Stp} (h : errs v s p = []) : v.k = s.k := by
 rw [errs_eq] at h
 split at h
 ·assumption
 ·cases h
theorem errs_map {v : Val} {s : Sch} {p : List Stp} (h : errs v s p = []) (hk : v.k = 5) : (∀ x ∈ v.f, ∀ q, err1 s q x = []) ∧ ∀ d ∈ s.f, d.rq = true → isHere v d.nm = true := by
 have hk2 := errs_kind h
 have h' := fun q => errs_nil_p h q
 constructor
 ·intro x hx q
  have h := h' q
  rw [errs_eq, if_pos hk2, if_neg (by omega), if_neg (by omega), if_neg (by omega), if_pos hk, List.append_eq_nil_iff, errsF_flat, List.flatMap_eq_nil_iff] at h
  exact h.1 x hx
 ·intro d hd hr
  rw [errs_eq, if_pos hk2, if_neg (by omega), if_neg (by omega), if_neg (by omega), if_pos hk, List.append_eq_nil_iff, List.flatMap_eq_nil_iff] at h
  have := h.2 d hd
  unfold miss1 at this
  rw [hr] at this
  cases hh : isHere v d.nm with
  | true => rfl
  | false => rw [hh] at this; simp at this
theorem err1_sub {s t : Sch} {p : List Stp} {x : ByteArray × Val} (h : err1 s p x = []) (hk : x.2.k ≠ 0) (ht : subS s x.1 = some t) : errs x.2 t (p ++ [fldStp x.1]) = [] := by
 unfold err1 at h
 rw [ht] at h
 simp only [hk, if_false] at h
 exact h
theorem err1_known {s : Sch} {p : List Stp} {x : ByteArray × Val} (h : err1 s p x = []) : ∃ t, subS s x.1 = some t := by
 unfold err1 at h
 split at h
 ·cases h
 ·exact ⟨_, by assumption⟩
theorem errsL_mem : ∀ {l : List Val} {key : ByteArray} {t : Sch} {p : List Stp} {prev : List Val}, errsL l key t p prev = [] → ∀ x ∈ l, errs x t p = []
 | [], _, _, _, _, _, x, hx => by simp at hx
 | v :: l, key, t, p, prev, h, x, hx => by
  rw [errsL_cons, List.append_eq_nil_iff, List.append_eq_nil_iff] at h
  rcases List.mem_cons.1 hx with rfl | hx
  ·exact errs_nil_p h.1.1 p
  ·exact errsL_mem h.2 x hx
theorem errs_list {v : Val} {s : Sch} {p : List Stp} (h : errs v s p = []) (hk : v.k = 4) : rngE p s v.l.length = [] ∧ errsL v.l s.key (s.it.headD zeroSch) p [] = [] := by
 have hk2 := errs_kind h
 rw [errs_eq, if_pos hk2, if_neg (by omega), if_neg (by omega), if_pos hk, List.append_eq_nil_iff] at h
 exact h
end Go.CT.Sch
namespace Go.CT.Sch
open Go.Proofs
def FE.enc (e : ByteArray × Int) : IV := .agg [.str e.1, .int e.2]
theorem isHere_get {v x : Val} {nm : ByteArray} (h : v.get nm = some x) : isHere v nm = !decide (x.k = 0) := by unfold isHere; rw [h]; simp
theorem here_get {v : Val} {nm : ByteArray} (h : isHere v nm = true) : ∃ x, v.get nm = some x ∧ x.k ≠ 0 := by
 unfold isHere at h
 simp only [Bool.and_eq_true, Bool.not_eq_true', decide_eq_false_iff_not] at h
 obtain ⟨x, hx⟩ := Option.isSome_iff_exists.1 h.1
 rw [hx] at h
 exact ⟨x, hx, h.2⟩
end Go.CT.Sch
