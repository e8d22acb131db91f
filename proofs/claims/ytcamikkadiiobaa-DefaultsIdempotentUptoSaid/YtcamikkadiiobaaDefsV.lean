import Derived.Test.YtcamikkadiiobaaDefsT
import Derived.Test.YtcamikkadiiobaaCtC
namespace Go.CT.Defs
open Go.Proofs

theorem byte_int (c : UInt8) : (0 : Int) ≤ c.toNat ∧ (c.toNat : Int) ≤ 255 := by
  have := c.toNat_lt; omega
theorem drop_get {s : ByteArray} {i : Nat} (h : i < s.size) : s.data.toList.drop i = s[i] :: s.data.toList.drop (i + 1) := by
  rw [List.drop_eq_getElem_cons (by simpa using h)]; rfl

theorem ref_str_1 (s : ByteArray) (hs : s.size ≤ 4611686018427387904) : ∀ (n i : Nat), i + n = s.size → W f_ref04_ValidString 1 [.str s, .int i] = some [.bool ((s.data.toList.drop i).all okChar && decide (s.size ≤ 200))]
  | 0, i, h => by
    rw [e_f_ref04_ValidString_1]
    have h1 : ¬ i < s.size := by omega
    have h2 : s.data.toList.drop i = [] := List.drop_of_length_le (by simp; omega)
    have h3 : decide ((s.size : Int) ≤ 200) = decide (s.size ≤ 200) := by simp; omega
    simp [h1, h2]
    omega
  | n + 1, i, h => by
    have hi : i < s.size := by omega
    have ih := ref_str_1 s hs n (i + 1) (by omega)
    have hw := next64 (i := i) (by omega)
    rw [e_f_ref04_ValidString_1, drop_get hi]
    have hb := byte_int s[i]
    generalize hc : s[i] = c at hb
    have e1 : okChar c = !(decide (¬ (c.toNat : Int) = 10 ∧ ((c.toNat : Int) < 32 ∨ (126 : Int) < c.toNat))) := by
      unfold okChar
      rw [Bool.eq_iff_iff]
      simp
      omega
    simp only [O.slen_str, Option.bind_some, O.lt_int, lt_cast, hi, decide_true, O.cnd_bool, if_true, O.sindex_str, Int.natCast_nonneg, Int.toNat_natCast, sget hi, hc, Option.map_some, O.ne_int, List.all_cons, e1, O.add_int, hw, ih]
    by_cases c1 : (c.toNat : Int) = 10
    · simp [c1]
    · by_cases c2 : (c.toNat : Int) < 32
      · simp [c1, c2]
      · by_cases c3 : (126 : Int) < c.toNat
        · simp [c1, c2, c3]
        · simp [c1, c2, c3]
theorem ref_str (s : ByteArray) (hs : s.size ≤ 4611686018427387904) : W f_ref04_ValidString 0 [.str s] = some [.bool (okStr s)] := by
  rw [e_f_ref04_ValidString_0]
  exact ref_str_1 s hs s.size 0 (by omega)
theorem ref_name_1 (s : ByteArray) (hs : s.size ≤ 4611686018427387904) : ∀ (n i : Nat), i + n = s.size → W f_ref04_ValidField 1 [.str s, .int i] = some [.bool ((s.data.toList.drop i).all okNameChar && decide (1 ≤ s.size ∧ s.size ≤ 40))]
  | 0, i, h => by
    rw [e_f_ref04_ValidField_1]
    have h1 : ¬ i < s.size := by omega
    have h2 : s.data.toList.drop i = [] := List.drop_of_length_le (by simp; omega)
    have h3 : ((s.size : Int) ≤ 40) = (s.size ≤ 40) := by simp; omega
    simp [h1, h2, h3]
    have : ((1 : Int) ≤ s.size) = (1 ≤ s.size) := by simp; omega
    by_cases c : 1 ≤ s.size <;> simp [this, c]
  | n + 1, i, h => by
    have hi : i < s.size := by omega
    have ih := ref_name_1 s hs n (i + 1) (by omega)
    have hw := next64 (i := i) (by omega)
    rw [e_f_ref04_ValidField_1, drop_get hi]
    generalize hc : s[i] = c
    have e1 : okNameChar c = !(decide (¬ (((97 : Int) ≤ c.toNat ∧ (c.toNat : Int) ≤ 122) ∨ ((65 : Int) ≤ c.toNat ∧ (c.toNat : Int) ≤ 90)) ∧ ¬ ((48 : Int) ≤ c.toNat ∧ (c.toNat : Int) ≤ 57) ∧ ¬ (c.toNat : Int) = 45 ∧ ¬ (c.toNat : Int) = 95 ∧ ¬ (c.toNat : Int) = 47)) := by
      unfold okNameChar
      rw [Bool.eq_iff_iff]
      simp
      omega
    simp only [O.slen_str, Option.bind_some, O.lt_int, lt_cast, hi, decide_true, O.cnd_bool, if_true, O.sindex_str, Int.natCast_nonneg, Int.toNat_natCast, sget hi, hc, Option.map_some, O.ge_int, O.le_int, O.ne_int, List.all_cons, e1, O.add_int, hw, ih]
    by_cases p1 : (97 : Int) ≤ c.toNat <;> by_cases p2 : (c.toNat : Int) ≤ 122 <;> by_cases p3 : (65 : Int) ≤ c.toNat <;> by_cases p4 : (c.toNat : Int) ≤ 90 <;> by_cases p5 : (48 : Int) ≤ c.toNat <;> by_cases p6 : (c.toNat : Int) ≤ 57 <;> simp [p1, p2, p3, p4, p5, p6] <;>
      by_cases p7 : (c.toNat : Int) = 45 <;> by_cases p8 : (c.toNat : Int) = 95 <;> by_cases p9 : (c.toNat : Int) = 47 <;> simp [p7, p8, p9]
theorem ref_name (s : ByteArray) (hs : s.size ≤ 4611686018427387904) : W f_ref04_ValidField 0 [.str s] = some [.bool (okName s)] := by
  rw [e_f_ref04_ValidField_0]
  exact ref_name_1 s hs s.size 0 (by omega)
end Go.CT.Defs

namespace Go.CT.Defs
open Go.Proofs

theorem emptyB_eq : (⟨#[]⟩ : ByteArray) = emptyB := rfl

theorem frOk_cons (d : Nat) (o : Option ByteArray) (p : ByteArray × Val) (r : List (ByteArray × Val)) : frOk d o (p :: r) = (okName p.1 && (match o with | none => true | some q => blt q p.1) && validD d p.2 && frOk d (some p.1) r) := by
  cases o <;> rfl

theorem ref_scalar (v : Val) (hv : v.mass ≤ 1099511627776) : W f_ref04_scalar 0 [v.enc] = some [.bool (okScalar v)] := by
  have hs := v.mass_s
  rw [e_f_ref04_scalar_0]
  unfold okScalar
  simp only [Val.proj0, Option.bind_some, O.eq_int, O.cnd_bool]
  by_cases c1 : v.k = 1
  · simp [c1, emptyB_eq]
  by_cases c2 : v.k = 2
  · by_cases a1 : -1000000000000000 ≤ v.n <;> by_cases a2 : v.n ≤ 1000000000000000 <;> simp [c2, a1, a2, emptyB_eq]
  by_cases c3 : v.k = 3
  · simp [c3, ref_str v.s (by omega)]
  by_cases c4 : v.k = 0
  · by_cases a1 : v.n = 0 <;> simp [c4, e_f_ref04_scalar_1, a1, emptyB_eq]
  by_cases c5 : v.k = 4
  · by_cases a1 : v.n = 0 <;> simp [c5, e_f_ref04_scalar_1, a1, emptyB_eq]
  by_cases c6 : v.k = 5
  · by_cases a1 : v.n = 0 <;> simp [c6, e_f_ref04_scalar_1, a1, emptyB_eq]
  simp [c1, c2, c3, c4, c5, c6, e_f_ref04_scalar_1]

theorem ref_valid_1 (d : Nat) (v : Val) (hd : d ≤ 12) (hv : v.mass ≤ 1099511627776) (ih : ∀ x ∈ v.l, W f_ref04_valid 0 [x.enc, .int d] = some [.bool (validD d x)]) : ∀ (n i : Nat), i + n = v.l.length →
    W f_ref04_valid 1 [.int ((d + 1 : Nat) : Int), .int i, v.enc] = if (v.l.drop i).all (validD d) = true then W f_ref04_valid 2 [.int ((d + 1 : Nat) : Int), .int 0, v.enc] else some [.bool false]
  | 0, i, h => by
    rw [e_f_ref04_valid_1]
    have h1 : ¬ i < v.l.length := by omega
    simp [h1, List.drop_of_length_le (Nat.le_of_not_lt h1)]
  | n + 1, i, h => by
    have hi : i < v.l.length := by omega
    have hm := v.mass_len_l
    have hw := next64 (i := i) (by omega)
    have hd1 : IntKind.i64.wrap (((d + 1 : Nat) : Int) - 1) = d := by rw [wrap64 (by omega) (by omega)]; omega
    have := ref_valid_1 d v hd hv ih n (i + 1) (by omega)
    rw [e_f_ref04_valid_1, List.drop_eq_getElem_cons hi]
    simp only [Val.proj3, Option.bind_some, O.len_list, List.length_map, O.lt_int, lt_cast, hi, decide_true, O.cnd_bool, if_true, O.index_list, Int.natCast_nonneg, Int.toNat_natCast, List.getElem?_map, List.getElem?_eq_getElem hi, Option.map_some, O.sub_int, hd1, ih _ (List.getElem_mem hi), O.calls_1, O.not_bool, O.add_int, hw, this, List.all_cons, Bool.and_eq_true]
    by_cases c : validD d v.l[i] = true <;> simp [c]

theorem ref_valid_2 (d : Nat) (v : Val) (hd : d ≤ 12) (hv : v.mass ≤ 1099511627776) (ih : ∀ p ∈ v.f, W f_ref04_valid 0 [p.2.enc, .int d] = some [.bool (validD d p.2)]) : ∀ (n i : Nat), i + n = v.f.length →
    W f_ref04_valid 2 [.int ((d + 1 : Nat) : Int), .int i, v.enc] = some [.bool (frOk d (prevName v.f i) (v.f.drop i))]
  | 0, i, h => by
    rw [e_f_ref04_valid_2]
    have h1 : ¬ i < v.f.length := by omega
    simp [h1, List.drop_of_length_le (Nat.le_of_not_lt h1), frOk]
  | n + 1, i, h => by
    have hi : i < v.f.length := by omega
    have hm := v.mass_len_f
    have hw := next64 (i := i) (by omega)
    have hd1 : IntKind.i64.wrap (((d + 1 : Nat) : Int) - 1) = d := by rw [wrap64 (by omega) (by omega)]; omega
    have := ref_valid_2 d v hd hv ih n (i + 1) (by omega)
    have hmem := List.getElem_mem hi
    have hmass := Val.mass_f hmem
    have hpn : prevName v.f (i + 1) = some v.f[i].1 := by simp [prevName, hi]
    rw [hpn] at this
    rw [e_f_ref04_valid_2, List.drop_eq_getElem_cons hi, frOk_cons]
    simp only [Val.proj4, Option.bind_some, O.len_list, List.length_map, O.lt_int, lt_cast, hi, decide_true, O.cnd_bool, if_true, O.index_list, Int.natCast_nonneg, Int.toNat_natCast, List.getElem?_map, List.getElem?_eq_getElem hi, Option.map_some, Fld.proj0, Fld.projV, ref_name v.f[i].1 (by omega), O.sub_int, hd1, ih _ hmem, O.calls_1, O.not_bool, O.add_int, hw, this, O.gt_int]
    cases i with
    | zero =>
      simp only [prevName]
      cases okName v.f[0].1 <;> cases validD d v.f[0].2 <;> simp
    | succ i =>
      have hi' : i < v.f.length := by omega
      have hw2 : IntKind.i64.wrap (((i + 1 : Nat) : Int) - 1) = i := by rw [wrap64 (by omega) (by omega)]; omega
      have hp : (0 : Int) < ((i + 1 : Nat) : Int) := by omega
      simp only [prevName, List.getElem?_eq_getElem hi', Option.map_some, hw2, hp, decide_true, if_true, Int.natCast_nonneg, Int.toNat_natCast, Option.bind_some, Fld.proj0, sLe_blt]
      cases okName v.f[i + 1].1 <;> cases validD d v.f[i + 1].2 <;> cases blt v.f[i].1 v.f[i + 1].1 <;> simp

theorem ref_valid : ∀ (d : Nat) (v : Val), d ≤ 12 → v.mass ≤ 1099511627776 → W f_ref04_valid 0 [v.enc, .int d] = some [.bool (validD d v)]
  | 0, v, _, _ => by
    rw [e_f_ref04_valid_0]
    simp [validD]
  | d + 1, v, hd, hv => by
    have h1 := ref_valid_1 d v (by omega) hv (fun x hx => ref_valid d x (by omega) (by have := Val.mass_l hx; omega)) v.l.length 0 (by omega)
    have h2 := ref_valid_2 d v (by omega) hv (fun p hp => ref_valid d p.2 (by omega) (by have := Val.mass_f hp; omega)) v.f.length 0 (by omega)
    rw [e_f_ref04_valid_0]
    have hz : ¬ ((d + 1 : Nat) : Int) = 0 := by omega
    simp only [Int.cast_ofNat_Int, List.drop_zero, prevName, frOk_none] at h1 h2
    rw [h2] at h1
    simp only [O.eq_int, hz, decide_false, Option.bind_some, O.cnd_bool, Bool.false_eq_true, if_false, ref_scalar v hv, O.calls_1, O.not_bool, Val.proj3, Val.proj4, Val.proj0, O.len_list, List.length_map, O.gt_int, O.ne_int, h1, validD]
    have hnil : v.l = [] → v.l.all (validD d) = true := fun e => by rw [e]; rfl
    have hnil2 : v.f = [] → (v.f.all fun p => okName p.1 && validD d p.2) = true ∧ rising v.f = true := fun e => by rw [e]; exact ⟨rfl, rfl⟩
    generalize v.l.all (validD d) = A at *
    generalize (v.f.all fun p => okName p.1 && validD d p.2) = B at *
    generalize rising v.f = C at *
    cases hs : okScalar v with
    | false => simp
    | true =>
      by_cases c1 : (64 : Int) < v.l.length
      · have : ¬ v.l.length ≤ 64 := by omega
        simp [c1, this]
      · have d1 : v.l.length ≤ 64 := by omega
        by_cases c2 : (64 : Int) < v.f.length
        · have : ¬ v.f.length ≤ 64 := by omega
          simp [c1, c2, this]
        · have d2 : v.f.length ≤ 64 := by omega
          by_cases c3 : v.k = 4
          · have c4 : ¬ v.k = 5 := by omega
            by_cases c5 : v.f = []
            · simp [c3, c1, d1, c5]
              cases A <;> simp
            · have c6 : (0 : Int) < v.f.length := by have := List.length_pos_iff.2 c5; omega
              simp [c3, c1, c2, d1, d2, c5, c6]
          · by_cases c5 : v.l = []
            · by_cases c4 : v.k = 5
              · simp [c4, c2, d2, c5]
                cases A <;> simp
              · by_cases c7 : v.f = []
                · simp [c3, c4, c5, c7]
                  cases A <;> simp
                · have c6 : (0 : Int) < v.f.length := by have := List.length_pos_iff.2 c7; omega
                  simp [c3, c4, c5, c7, c6, c2, d2]
            · have c6 : (0 : Int) < v.l.length := by have := List.length_pos_iff.2 c5; omega
              simp [c3, c5, c6, c1, c2, d1, d2]
end Go.CT.Defs

namespace Go.CT.Defs
open Go.Proofs

def zeroVal : Val := ⟨0, 0, emptyB, [], []⟩
def getIV (o : Option Val) : List IV := [.int (o.getD zeroVal).k, .int (o.getD zeroVal).n, .str (o.getD zeroVal).s, .list ((o.getD zeroVal).l.map Val.enc), .list ((o.getD zeroVal).f.map Fld.enc), .bool o.isSome]

theorem app_ok {n b : Nat} (hn : n ≤ 1099511627776) (hb : b ≤ 127) : n * b ≤ maxBytes := by
  have : n * b ≤ 1099511627776 * 127 := Nat.mul_le_mul hn hb
  unfold maxBytes; omega

theorem take_get {α : Type} (l : List α) {i : Nat} (h : i < l.length) : l.take i ++ [l[i]] = l.take (i + 1) := by
  rw [List.take_add_one, List.getElem?_eq_getElem h]; rfl

theorem ref_copy_2W (v : Val) (hv : Wide 1099511627776 v) (y2 y3 y4 y5 y6 y7 y8 : IV) (ih : ∀ p ∈ v.f, W f_ref04_Copy 0 [p.2.enc] = some p.2.comps) : ∀ (n i : Nat), i + n = v.f.length →
    W f_ref04_Copy 2 [.int i, v.enc, y2, y3, y4, y5, y6, y7, y8, .list ((v.f.take i).map Fld.enc)] = some [y5, y6, y7, y8, .list (v.f.map Fld.enc)]
  | 0, i, h => by
    rw [e_f_ref04_Copy_2]
    have h1 : ¬ i < v.f.length := by omega
    simp only [Val.proj4, Option.bind_some, O.len_list, List.length_map, O.lt_int, lt_cast, h1, decide_false, O.cnd_bool, Bool.false_eq_true, if_false, List.take_of_length_le (Nat.le_of_not_lt h1)]
  | n + 1, i, h => by
    have hi : i < v.f.length := by omega
    have hm := hv.len_f
    have hw := next64 (i := i) (by omega)
    have := ref_copy_2W v hv y2 y3 y4 y5 y6 y7 y8 ih n (i + 1) (by omega)
    have hap : ((v.f.take i).length + 1) * 96 ≤ maxBytes := app_ok (by rw [List.length_take]; omega) (by omega)
    rw [e_f_ref04_Copy_2]
    simp only [Val.proj4, Option.bind_some, O.len_list, List.length_map, O.lt_int, lt_cast, hi, decide_true, O.cnd_bool, if_true, O.index_list, Int.natCast_nonneg, Int.toNat_natCast, List.getElem?_map, List.getElem?_eq_getElem hi, Option.map_some, Fld.proj0, Fld.projV, ih _ (List.getElem_mem hi), Val.comps_eq, O.calls_5, O.mkagg_eq, Fld.fold_eta, O.mklist_eq, O.append_list, List.length_singleton, hap, O.add_int, hw]
    rw [← take_get v.f hi, List.map_append] at this
    exact this
theorem ref_copy_1W (v : Val) (hv : Wide 1099511627776 v) (y2 y3 y4 y5 y6 y7 : IV) (ih : ∀ x ∈ v.l, W f_ref04_Copy 0 [x.enc] = some x.comps) : ∀ (n i : Nat), i + n = v.l.length →
    W f_ref04_Copy 1 [.int i, v.enc, y2, y3, y4, y5, y6, y7, .list ((v.l.take i).map Val.enc)] = W f_ref04_Copy 2 [.int 0, v.enc, y2, y3, y4, y5, y6, y7, .list (v.l.map Val.enc), .list []]
  | 0, i, h => by
    rw [e_f_ref04_Copy_1]
    have h1 : ¬ i < v.l.length := by omega
    simp only [Val.proj3, Option.bind_some, O.len_list, List.length_map, O.lt_int, lt_cast, h1, decide_false, O.cnd_bool, Bool.false_eq_true, if_false, List.take_of_length_le (Nat.le_of_not_lt h1)]
  | n + 1, i, h => by
    have hi : i < v.l.length := by omega
    have hm := hv.len_l
    have hw := next64 (i := i) (by omega)
    have := ref_copy_1W v hv y2 y3 y4 y5 y6 y7 ih n (i + 1) (by omega)
    have hap : ((v.l.take i).length + 1) * 80 ≤ maxBytes := app_ok (by rw [List.length_take]; omega) (by omega)
    rw [e_f_ref04_Copy_1]
    simp only [Val.proj3, Option.bind_some, O.len_list, List.length_map, O.lt_int, lt_cast, hi, decide_true, O.cnd_bool, if_true, O.index_list, Int.natCast_nonneg, Int.toNat_natCast, List.getElem?_map, List.getElem?_eq_getElem hi, Option.map_some, ih _ (List.getElem_mem hi), Val.comps_eq, O.calls_5, O.mkagg_eq, Val.fold_eta, O.mklist_eq, O.append_list, List.length_singleton, hap, O.add_int, hw]
    rw [← take_get v.l hi, List.map_append] at this
    exact this
theorem ref_copyW : ∀ v : Val, Wide 1099511627776 v → W f_ref04_Copy 0 [v.enc] = some v.comps := by
  refine Val.ind fun v ih1 ih2 hv => ?_
  have h1 := ref_copy_1W v hv (.int 0) (.int 0) (.str ⟨#[]⟩) (.int v.k) (.int v.n) (.str v.s) (fun x hx => ih1 x hx (hv.mem_l hx)) v.l.length 0 (by omega)
  have h2 := ref_copy_2W v hv (.int 0) (.int 0) (.str ⟨#[]⟩) (.int v.k) (.int v.n) (.str v.s) (.list (v.l.map Val.enc)) (fun p hp => ih2 p hp (hv.mem_f hp)) v.f.length 0 (by omega)
  simp only [List.take_zero, List.map_nil, Int.cast_ofNat_Int] at h1 h2
  rw [e_f_ref04_Copy_0]
  simp only [Val.proj0, Val.proj1, Val.proj2, Option.bind_some]
  rw [h1, h2, Val.comps_eq]

theorem ref_get_1W (v : Val) (nm : ByteArray) (hv : Wide 1099511627776 v) (y3 y4 y5 : IV) : ∀ (n i : Nat), i + n = v.f.length →
    W f_ref04_Get 1 [.str nm, .int i, v.enc, y3, y4, y5] = some (getIV (((v.f.drop i).find? fun p => decide (p.1 = nm)).map (·.2)))
  | 0, i, h => by
    rw [e_f_ref04_Get_1]
    have h1 : ¬ i < v.f.length := by omega
    simp [h1, List.drop_of_length_le (Nat.le_of_not_lt h1), getIV, zeroVal, emptyB]
  | n + 1, i, h => by
    have hi : i < v.f.length := by omega
    have hm := hv.len_f
    have hw := next64 (i := i) (by omega)
    have := ref_get_1W v nm hv y3 y4 y5 n (i + 1) (by omega)
    have hmem := List.getElem_mem hi
    rw [e_f_ref04_Get_1, List.drop_eq_getElem_cons hi]
    simp only [Val.proj4, Option.bind_some, O.len_list, List.length_map, O.lt_int, lt_cast, hi, decide_true, O.cnd_bool, if_true, O.index_list, Int.natCast_nonneg, Int.toNat_natCast, List.getElem?_map, List.getElem?_eq_getElem hi, Option.map_some, Fld.proj0, Fld.projV, O.sEq_str, ref_copyW v.f[i].2 (hv.mem_f hmem), Val.comps_eq, O.calls_5, O.add_int, hw, this, List.find?_cons]
    by_cases c : v.f[i].1 = nm
    · simp [c, getIV]
    · have c' : decide (v.f[i].1 = nm) = false := by simpa using c
      simp only [c, c', decide_false, Bool.false_eq_true, if_false]
theorem ref_getW (v : Val) (nm : ByteArray) (hv : Wide 1099511627776 v) : W f_ref04_Get 0 [v.enc, .str nm] = some (getIV (v.get nm)) := by
  rw [e_f_ref04_Get_0]
  unfold Val.get
  have := ref_get_1W v nm hv (.int 0) (.int 0) (.str ⟨#[]⟩) v.f.length 0 (by omega)
  simp only [List.drop_zero, Int.cast_ofNat_Int] at this
  simp only [Val.proj0, Option.bind_some, O.eq_int, O.cnd_bool, this]
  by_cases c : v.k = 5 <;> simp [c, getIV, zeroVal, emptyB]

/-- The fields of a map but those of a name. -/
def othersF (v : Val) (nm : ByteArray) : List (ByteArray × Val) := if v.k = 5 then v.f.filter (fun p => !decide (p.1 = nm)) else []
theorem ref_others_1W (v : Val) (nm : ByteArray) (hv : Wide 1099511627776 v) : ∀ (n i : Nat) (out : List (ByteArray × Val)), i + n = v.f.length → out.length ≤ i →
    W f_ref04_others 1 [.str nm, .int i, v.enc, .list (out.map Fld.enc)] = some [.list ((out ++ (if v.k = 5 then (v.f.drop i).filter (fun p => !decide (p.1 = nm)) else [])).map Fld.enc)]
  | 0, i, out, h, ho => by
    rw [e_f_ref04_others_1]
    have h1 : ¬ i < v.f.length := by omega
    simp only [Val.proj4, Option.bind_some, O.len_list, List.length_map, O.lt_int, lt_cast, h1, decide_false, O.cnd_bool, Bool.false_eq_true, if_false, List.drop_of_length_le (Nat.le_of_not_lt h1), List.filter_nil, ite_self, List.append_nil]
  | n + 1, i, out, h, ho => by
    have hi : i < v.f.length := by omega
    have hm := hv.len_f
    have hw := next64 (i := i) (by omega)
    rw [e_f_ref04_others_1, List.drop_eq_getElem_cons hi]
    have hap : (out.length + 1) * 96 ≤ maxBytes := app_ok (by omega) (by omega)
    simp only [Val.proj4, Option.bind_some, O.len_list, List.length_map, O.lt_int, lt_cast, hi, decide_true, O.cnd_bool, if_true, Val.proj0, O.eq_int, O.index_list, Int.natCast_nonneg, Int.toNat_natCast, List.getElem?_map, List.getElem?_eq_getElem hi, Option.map_some, Fld.proj0, O.sNe_str, List.filter_cons]
    by_cases c : v.k = 5
    · by_cases c2 : v.f[i].1 = nm
      · have := ref_others_1W v nm hv n (i + 1) out (by omega) (by omega)
        simp only [c, if_true] at this
        have c3 : decide (v.f[i].1 = nm) = true := by simpa using c2
        simp only [c, c2, c3, decide_true, if_true, Bool.not_true, Bool.false_eq_true, if_false, e_f_ref04_others_2, O.add_int, hw, Option.bind_some, this]
      · have := ref_others_1W v nm hv n (i + 1) (out ++ [v.f[i]]) (by omega) (by simp; omega)
        simp only [c, if_true, List.map_append, List.map_cons, List.map_nil, List.append_assoc, List.cons_append, List.nil_append] at this
        have c3 : decide (v.f[i].1 = nm) = false := by simpa using c2
        simp only [c, c2, c3, decide_true, decide_false, if_true, Bool.not_false, O.mklist_eq, Option.bind_some, O.append_list, List.length_map, List.length_singleton, hap, e_f_ref04_others_2, O.add_int, hw, this, List.map_append, List.map_cons]
    · simp [c]
theorem ref_othersW (v : Val) (nm : ByteArray) (hv : Wide 1099511627776 v) : W f_ref04_others 0 [v.enc, .str nm] = some [.list ((othersF v nm).map Fld.enc)] := by
  rw [e_f_ref04_others_0]
  have := ref_others_1W v nm hv v.f.length 0 [] (by omega) (by simp)
  simp only [List.drop_zero, Int.cast_ofNat_Int, List.map_nil, List.nil_append] at this
  exact this

/-- Putting a field among fields. -/
def putL (p : ByteArray × Val) : Bool → List (ByteArray × Val) → List (ByteArray × Val)
  | done, [] => if done then [] else [p]
  | done, x :: xs => (if !done && !blt x.1 p.1 then [p] else []) ++ (if x.1 = p.1 then [] else [x]) ++ putL p (done || !blt x.1 p.1) xs
theorem putL_len (p : ByteArray × Val) : ∀ (l : List (ByteArray × Val)) (d : Bool), (putL p d l).length ≤ l.length + 1
  | [], d => by cases d <;> simp [putL]
  | x :: xs, true => by
    simp only [putL, Bool.not_true, Bool.false_and, Bool.false_eq_true, if_false, List.nil_append, Bool.true_or, List.length_append]
    have : (putL p true xs).length ≤ xs.length := by
      have key : ∀ l, (putL p true l).length ≤ l.length := by
        intro l
        induction l with
        | nil => simp [putL]
        | cons y ys ih =>
          simp only [putL, Bool.not_true, Bool.false_and, Bool.false_eq_true, if_false, List.nil_append, Bool.true_or, List.length_append, List.length_cons]
          split <;> simp <;> omega
      exact key xs
    split <;> simp <;> omega
  | x :: xs, false => by
    have h1 := putL_len p xs true
    have h2 := putL_len p xs false
    have key : ∀ l, (putL p true l).length ≤ l.length := by
      intro l
      induction l with
      | nil => simp [putL]
      | cons y ys ih =>
        simp only [putL, Bool.not_true, Bool.false_and, Bool.false_eq_true, if_false, List.nil_append, Bool.true_or, List.length_append, List.length_cons]
        split <;> simp <;> omega
    have h3 := key xs
    simp only [putL, Bool.not_false, Bool.true_and, Bool.false_or, List.length_append, List.length_cons]
    cases blt x.1 p.1 <;> simp <;> split <;> simp <;> omega
theorem ref_put_1 (l : List (ByteArray × Val)) (p : ByteArray × Val) (hl : l.length ≤ 549755813888) : ∀ (n i : Nat) (d : Bool) (out : List (ByteArray × Val)), i + n = l.length → out.length ≤ i + d.toNat →
    W f_ref04_put 1 [.list (l.map Fld.enc), .bool d, .int i, Fld.enc p, .list (out.map Fld.enc)] = some [.list ((out ++ putL p d (l.drop i)).map Fld.enc)]
  | 0, i, d, out, h, ho => by
    rw [e_f_ref04_put_1]
    have h1 : ¬ i < l.length := by omega
    have hdn := Bool.toNat_le d
    have hap : (out.length + 1) * 96 ≤ maxBytes := app_ok (by omega) (by omega)
    simp only [Option.bind_some, O.len_list, List.length_map, O.lt_int, lt_cast, h1, decide_false, O.cnd_bool, Bool.false_eq_true, if_false, List.drop_of_length_le (Nat.le_of_not_lt h1), putL, O.not_bool, O.mklist_eq, O.append_list, List.length_singleton, hap, if_true]
    cases d <;> simp
  | n + 1, i, d, out, h, ho => by
    have hi : i < l.length := by omega
    have hw := next64 (i := i) (by omega)
    have hdn := Bool.toNat_le d
    have hap : (out.length + 1) * 96 ≤ maxBytes := app_ok (by omega) (by omega)
    rw [e_f_ref04_put_1, List.drop_eq_getElem_cons hi, putL]
    have half : ∀ (d' : Bool) (o : List (ByteArray × Val)), o.length ≤ i + 2 →
        W f_ref04_put 2 [.list (l.map Fld.enc), .bool d', .int i, Fld.enc p, .list (o.map Fld.enc)] = W f_ref04_put 1 [.list (l.map Fld.enc), .bool d', .int ((i + 1 : Nat) : Int), Fld.enc p, .list ((o ++ if l[i].1 = p.1 then [] else [l[i]]).map Fld.enc)] := by
      intro d' o h1
      have hap : (o.length + 1) * 96 ≤ maxBytes := app_ok (by omega) (by omega)
      rw [e_f_ref04_put_2]
      simp only [O.index_list, Int.natCast_nonneg, if_true, Int.toNat_natCast, List.getElem?_map, List.getElem?_eq_getElem hi, Option.map_some, Option.bind_some, Fld.proj0, O.sNe_str, O.cnd_bool, O.mklist_eq, O.append_list, List.length_map, List.length_singleton, hap, e_f_ref04_put_3, O.add_int, hw]
      by_cases c : l[i].1 = p.1 <;> simp [c]
    have fin : ∀ (d' : Bool) (o : List (ByteArray × Val)), o.length ≤ i + d'.toNat →
        W f_ref04_put 2 [.list (l.map Fld.enc), .bool d', .int i, Fld.enc p, .list (o.map Fld.enc)] = some [.list ((o ++ (if l[i].1 = p.1 then [] else [l[i]]) ++ putL p d' (l.drop (i + 1))).map Fld.enc)] := by
      intro d' o h1
      have hdn := Bool.toNat_le d'
      rw [half d' o (by omega), ref_put_1 l p hl n (i + 1) d' _ (by omega) (by split <;> simp <;> omega)]
    have hlt : (i : Int) < l.length := by omega
    simp only [Option.bind_some, O.len_list, List.length_map, O.lt_int, lt_cast, hi, decide_true, O.cnd_bool, if_true, O.not_bool, Fld.proj0, O.index_list, Int.natCast_nonneg, Int.toNat_natCast, List.getElem?_map, List.getElem?_eq_getElem hi, Option.map_some, sLe_blt]
    cases d with
    | true =>
      simp only [Bool.not_true, Bool.false_eq_true, if_false, Option.bind_some, Bool.false_and, List.nil_append, Bool.true_or]
      rw [fin true out ho, List.append_assoc]
      rfl
    | false =>
      simp only [Bool.not_false, if_true, Option.bind_some, Bool.true_and, Bool.false_or]
      cases hb : blt l[i].1 p.1 with
      | true =>
        simp only [Bool.not_true, Bool.false_eq_true, if_false, List.nil_append]
        rw [fin false out ho, List.append_assoc]
        rfl
      | false =>
        have := fin true (out ++ [p]) (by simp at ho ⊢; omega)
        simp only [List.map_append, List.map_cons, List.map_nil] at this
        simp only [Bool.not_false, if_true, O.mklist_eq, Option.bind_some, O.append_list, List.length_map, List.length_singleton, hap]
        rw [this]
        simp
theorem ref_put (l : List (ByteArray × Val)) (p : ByteArray × Val) (hl : l.length ≤ 549755813888) : W f_ref04_put 0 [.list (l.map Fld.enc), Fld.enc p] = some [.list ((putL p false l).map Fld.enc)] := by
  rw [e_f_ref04_put_0]
  have := ref_put_1 l p hl l.length 0 false [] (by omega) (by simp)
  simpa using this

/-- A map out of fields: of several of one name the last counts. -/
def mapL (l : List (ByteArray × Val)) : List (ByteArray × Val) := l.foldl (fun acc p => putL p false acc) []
theorem ref_map_1W (l : List (ByteArray × Val)) (hl : WideF 274877906944 l) (y2 y3 y4 y5 y6 y7 : IV) : ∀ (n i : Nat) (acc : List (ByteArray × Val)), i + n = l.length → acc.length ≤ i →
    W f_ref04_Map 1 [.list (l.map Fld.enc), .int i, y2, y3, y4, y5, y6, y7, .list (acc.map Fld.enc)] = some [y5, y6, y7, .list [], .list (((l.drop i).foldl (fun acc p => putL p false acc) acc).map Fld.enc)]
  | 0, i, acc, h, ha => by
    rw [e_f_ref04_Map_1]
    have h1 : ¬ i < l.length := by omega
    simp only [Option.bind_some, O.len_list, List.length_map, O.lt_int, lt_cast, h1, decide_false, O.cnd_bool, Bool.false_eq_true, if_false, List.drop_of_length_le (Nat.le_of_not_lt h1), List.foldl_nil]
  | n + 1, i, acc, h, ha => by
    have hi : i < l.length := by omega
    have hlen := hl.1
    have hw := next64 (i := i) (by omega)
    have := ref_map_1W l hl y2 y3 y4 y5 y6 y7 n (i + 1) (putL l[i] false acc) (by omega) (by have := putL_len l[i] acc false; omega)
    rw [e_f_ref04_Map_1, List.drop_eq_getElem_cons hi]
    simp only [Option.bind_some, O.len_list, List.length_map, O.lt_int, lt_cast, hi, decide_true, O.cnd_bool, if_true, O.index_list, Int.natCast_nonneg, Int.toNat_natCast, List.getElem?_map, List.getElem?_eq_getElem hi, Option.map_some, Fld.proj0, Fld.projV, ref_copyW l[i].2 ((hl.2 _ (List.getElem_mem hi)).mono (by omega)), Val.comps_eq, O.calls_5, O.mkagg_eq, Fld.fold_eta, ref_put acc l[i] (by omega), O.calls_1, O.add_int, hw, this, List.foldl_cons]
theorem ref_mapW (l : List (ByteArray × Val)) (hl : WideF 274877906944 l) : W f_ref04_Map 0 [.list (l.map Fld.enc)] = some [.int 5, .int 0, .str emptyB, .list [], .list ((mapL l).map Fld.enc)] := by
  rw [e_f_ref04_Map_0]
  have := ref_map_1W l hl (.int 0) (.int 0) (.str ⟨#[]⟩) (.int 5) (.int 0) (.str ⟨#[]⟩) l.length 0 [] (by omega) (by simp)
  simp only [List.drop_zero, Int.cast_ofNat_Int, List.map_nil] at this
  exact this
theorem massFs_filter (q : ByteArray × Val → Bool) : ∀ l : List (ByteArray × Val), massFs (l.filter q) ≤ massFs l
  | [] => by simp
  | p :: l => by
    have := massFs_filter q l
    rw [List.filter_cons]
    split
    · rw [massFs_cons, massFs_cons]; omega
    · rw [massFs_cons]; omega
theorem others_mass (v : Val) (nm : ByteArray) : massFs (othersF v nm) ≤ v.mass := by
  unfold othersF
  split
  · have := massFs_filter (fun p => !decide (p.1 = nm)) v.f
    rw [v.mass_eq]; omega
  · simp [massFs_nil]
def withV (v : Val) (nm : ByteArray) (x : Val) : Val := ⟨5, 0, emptyB, [], mapL (othersF v nm ++ [(nm, x)])⟩
theorem others_wide {N : Nat} {v : Val} (h : Wide N v) (nm : ByteArray) : WideF N (othersF v nm) := by
  unfold othersF
  split
  · exact ⟨Nat.le_trans (List.length_filter_le _ _) h.len_f, fun p hp => h.mem_f (List.mem_filter.1 hp).1⟩
  · exact ⟨Nat.zero_le _, by simp⟩
theorem ref_withW (v : Val) (nm : ByteArray) (x : Val) (hv : Wide 274877906943 v) (hx : Wide 274877906943 x) : W f_ref04_With 0 [v.enc, .str nm, x.enc] = some (withV v nm x).comps := by
  have hom := others_wide hv nm
  have hlen := hom.1
  have hap : ((othersF v nm).length + 1) * 96 ≤ maxBytes := app_ok (by omega) (by omega)
  have hm := ref_mapW (othersF v nm ++ [(nm, x)]) ⟨by simp; omega, fun p hp => by
    rcases List.mem_append.1 hp with h | h
    · exact (hom.2 p h).mono (by omega)
    · simp at h; subst h; exact hx.mono (by omega)⟩
  simp only [List.map_append, List.map_cons, List.map_nil] at hm
  rw [e_f_ref04_With_0]
  simp only [ref_othersW v nm (hv.mono (by omega)), O.calls_1, Val.proj0, Val.proj1, Val.proj2, Val.proj3, Val.proj4, Option.bind_some, O.mkagg_eq, Fld.fold_eta, O.mklist_eq, O.append_list, List.length_map, List.length_singleton, hap, if_true, hm, O.calls_5, Val.comps_eq, withV, Val.k_mk, Val.n_mk, Val.s_mk, Val.l_mk, Val.f_mk, List.map_nil]
theorem ref_copy (v : Val) (hv : v.mass ≤ 1099511627776) : W f_ref04_Copy 0 [v.enc] = some v.comps := ref_copyW v (wide_mass v (by omega))
theorem ref_get (v : Val) (nm : ByteArray) (hv : v.mass ≤ 1099511627776) : W f_ref04_Get 0 [v.enc, .str nm] = some (getIV (v.get nm)) := ref_getW v nm (wide_mass v (by omega))
end Go.CT.Defs

namespace Go.CT.Defs
open Go.Proofs

/-! ### the number of values; how many are left -/
theorem ref_size_2 (v : Val) (hv : v.mass ≤ 1099511627776) (ih : ∀ p ∈ v.f, W f_ref04_Size 0 [p.2.enc] = some [.int p.2.size]) : ∀ (n i c : Nat), i + n = v.f.length → c ≤ 1099511627776 →
    W f_ref04_Size 2 [.int c, .int i, v.enc] = some [.int ((c + sizeFs (v.f.drop i) : Nat) : Int)]
  | 0, i, c, h, hc => by
    rw [e_f_ref04_Size_2]
    have h1 : ¬ i < v.f.length := by omega
    simp [h1, List.drop_of_length_le (Nat.le_of_not_lt h1), sizeFs]
  | n + 1, i, c, h, hc => by
    have hi : i < v.f.length := by omega
    have hm := v.mass_len_f
    have hw := next64 (i := i) (by omega)
    have hs := sizeFs_mem (List.getElem_mem hi)
    have hsz := v.size_mass
    rw [v.size_eq] at hsz
    have hd : sizeFs (v.f.drop i) = v.f[i].2.size + sizeFs (v.f.drop (i + 1)) := by rw [List.drop_eq_getElem_cons hi]; rfl
    have hw2 : IntKind.i64.wrap ((c : Int) + (v.f[i].2.size : Nat)) = ((c + v.f[i].2.size : Nat) : Int) := by rw [wrap64 (by omega) (by omega)]; rfl
    rw [e_f_ref04_Size_2]
    simp only [Val.proj4, Option.bind_some, O.len_list, List.length_map, O.lt_int, lt_cast, hi, decide_true, O.cnd_bool, if_true, O.index_list, Int.natCast_nonneg, Int.toNat_natCast, List.getElem?_map, List.getElem?_eq_getElem hi, Option.map_some, Fld.projV, ih _ (List.getElem_mem hi), O.calls_1, O.add_int, hw, hw2]
    by_cases hc2 : c + v.f[i].2.size ≤ 1099511627776
    · rw [ref_size_2 v hv ih n (i + 1) _ (by omega) hc2, hd, Nat.add_assoc]
    · -- larger sums: only the bound differs
      have key : ∀ (n i c : Nat), i + n = v.f.length → c + sizeFs (v.f.drop i) ≤ 4611686018427387904 → W f_ref04_Size 2 [.int c, .int i, v.enc] = some [.int ((c + sizeFs (v.f.drop i) : Nat) : Int)] := by
        intro n
        induction n with
        | zero =>
          intro i c h _
          rw [e_f_ref04_Size_2]
          have h1 : ¬ i < v.f.length := by omega
          simp [h1, List.drop_of_length_le (Nat.le_of_not_lt h1), sizeFs]
        | succ n ihn =>
          intro i c h hc
          have hi : i < v.f.length := by omega
          have hw := next64 (i := i) (by omega)
          have hd : sizeFs (v.f.drop i) = v.f[i].2.size + sizeFs (v.f.drop (i + 1)) := by rw [List.drop_eq_getElem_cons hi]; rfl
          have hw2 : IntKind.i64.wrap ((c : Int) + (v.f[i].2.size : Nat)) = ((c + v.f[i].2.size : Nat) : Int) := by rw [wrap64 (by omega) (by omega)]; rfl
          rw [e_f_ref04_Size_2]
          simp only [Val.proj4, Option.bind_some, O.len_list, List.length_map, O.lt_int, lt_cast, hi, decide_true, O.cnd_bool, if_true, O.index_list, Int.natCast_nonneg, Int.toNat_natCast, List.getElem?_map, List.getElem?_eq_getElem hi, Option.map_some, Fld.projV, ih _ (List.getElem_mem hi), O.calls_1, O.add_int, hw, hw2]
          rw [ihn (i + 1) _ (by omega) (by omega), hd, Nat.add_assoc]
      have hsub : sizeFs (v.f.drop (i + 1)) ≤ sizeFs v.f := by
        have := List.take_append_drop (i + 1) v.f
        have h2 := sizeFs_append (v.f.take (i + 1)) (v.f.drop (i + 1))
        rw [this] at h2; omega
      rw [key n (i + 1) _ (by omega) (by omega), hd, Nat.add_assoc]
theorem ref_size_1 (v : Val) (hv : v.mass ≤ 1099511627776) (ih : ∀ x ∈ v.l, W f_ref04_Size 0 [x.enc] = some [.int x.size]) : ∀ (n i c : Nat), i + n = v.l.length → c + sizeVs (v.l.drop i) ≤ 4611686018427387904 →
    W f_ref04_Size 1 [.int c, .int i, v.enc] = W f_ref04_Size 2 [.int ((c + sizeVs (v.l.drop i) : Nat) : Int), .int 0, v.enc]
  | 0, i, c, h, hc => by
    rw [e_f_ref04_Size_1]
    have h1 : ¬ i < v.l.length := by omega
    simp [h1, List.drop_of_length_le (Nat.le_of_not_lt h1), sizeVs]
  | n + 1, i, c, h, hc => by
    have hi : i < v.l.length := by omega
    have hm := v.mass_len_l
    have hw := next64 (i := i) (by omega)
    have hd : sizeVs (v.l.drop i) = v.l[i].size + sizeVs (v.l.drop (i + 1)) := by rw [List.drop_eq_getElem_cons hi]; rfl
    have hw2 : IntKind.i64.wrap ((c : Int) + (v.l[i].size : Nat)) = ((c + v.l[i].size : Nat) : Int) := by rw [wrap64 (by omega) (by omega)]; rfl
    rw [e_f_ref04_Size_1]
    simp only [Val.proj3, Option.bind_some, O.len_list, List.length_map, O.lt_int, lt_cast, hi, decide_true, O.cnd_bool, if_true, O.index_list, Int.natCast_nonneg, Int.toNat_natCast, List.getElem?_map, List.getElem?_eq_getElem hi, Option.map_some, ih _ (List.getElem_mem hi), O.calls_1, O.add_int, hw, hw2]
    rw [ref_size_1 v hv ih n (i + 1) _ (by omega) (by omega), hd, Nat.add_assoc]
theorem ref_size : ∀ v : Val, v.mass ≤ 1099511627776 → W f_ref04_Size 0 [v.enc] = some [.int v.size] := by
  refine Val.ind fun v ih1 ih2 hv => ?_
  have hsz := v.size_mass
  have hs := v.size_eq
  have h1 := ref_size_1 v hv (fun x hx => ih1 x hx (by have := Val.mass_l hx; omega)) v.l.length 0 1 (by omega) (by simp only [List.drop_zero]; omega)
  have h2 := ref_size_2 v hv (fun p hp => ih2 p hp (by have := Val.mass_f hp; omega)) v.f.length 0 (1 + sizeVs v.l) (by omega) (by omega)
  simp only [List.drop_zero, Int.cast_ofNat_Int] at h1 h2
  rw [e_f_ref04_Size_0]
  have h1' : W f_ref04_Size 1 [.int 1, .int 0, v.enc] = W f_ref04_Size 2 [.int ((1 + sizeVs v.l : Nat) : Int), .int 0, v.enc] := h1
  rw [h1', h2, hs]
theorem ref_Valid (v : Val) (hv : v.mass ≤ 1099511627776) : W f_ref04_Valid 0 [v.enc] = some [.bool v.valid] := by
  rw [e_f_ref04_Valid_0]
  have h1 := ref_valid 12 v (by omega) hv
  have h2 := ref_size v hv
  simp only [Int.cast_ofNat_Int] at h1
  simp only [h1, h2, O.calls_1, O.cnd_bool, O.le_int, Option.bind_some, Val.valid]
  have : decide ((v.size : Int) ≤ 600) = decide (v.size ≤ 600) := by simp; omega
  cases validD 12 v <;> simp [this]

theorem ref_count_2 (v : Val) (hv : v.mass ≤ 1099511627776) (ih : ∀ p ∈ v.f, ∀ c d : Int, c ≤ 100000 → -1099511627776 ≤ d → d ≤ 100000 → ∃ r : Int, W f_ref04_count 0 [p.2.enc, .int c, .int d] = some [.int r] ∧ r ≤ 100000) (d : Int) (hd : -1000000000000 ≤ d ∧ d ≤ 100000) : ∀ (n i : Nat) (c : Int), i + n = v.f.length → c ≤ 100000 →
    ∃ r : Int, W f_ref04_count 2 [.int c, .int d, .int i, v.enc] = some [.int r] ∧ r ≤ 100000
  | 0, i, c, h, hc => by
    rw [e_f_ref04_count_2]
    have h1 : ¬ i < v.f.length := by omega
    exact ⟨c, by simp [h1], hc⟩
  | n + 1, i, c, h, hc => by
    have hi : i < v.f.length := by omega
    have hm := v.mass_len_f
    have hw := next64 (i := i) (by omega)
    have hw2 : IntKind.i64.wrap (d - 1) = d - 1 := wrap64 (by omega) (by omega)
    obtain ⟨r, hr, hr2⟩ := ih _ (List.getElem_mem hi) c (d - 1) hc (by omega) (by omega)
    obtain ⟨r', hr', hr2'⟩ := ref_count_2 v hv ih d hd n (i + 1) r (by omega) hr2
    rw [e_f_ref04_count_2]
    by_cases c1 : 0 ≤ c
    · by_cases c2 : (1000 : Int) < v.f[i].1.size
      · exact ⟨-1, by simp [hi, c1, c2], by omega⟩
      · exact ⟨r', by simp only [Val.proj4, Option.bind_some, O.len_list, List.length_map, O.lt_int, lt_cast, hi, decide_true, O.cnd_bool, if_true, O.ge_int, c1, O.index_list, Int.natCast_nonneg, Int.toNat_natCast, List.getElem?_map, List.getElem?_eq_getElem hi, Option.map_some, Fld.proj0, O.slen_str, O.gt_int, c2, decide_false, Bool.false_eq_true, if_false, Fld.projV, O.sub_int, hw2, hr, O.calls_1, O.add_int, hw, hr'], hr2'⟩
    · exact ⟨c, by simp [hi, c1], hc⟩
theorem ref_count_1 (v : Val) (hv : v.mass ≤ 1099511627776) (ih : ∀ x ∈ v.l, ∀ c d : Int, c ≤ 100000 → -1099511627776 ≤ d → d ≤ 100000 → ∃ r : Int, W f_ref04_count 0 [x.enc, .int c, .int d] = some [.int r] ∧ r ≤ 100000) (d : Int) (hd : -1000000000000 ≤ d ∧ d ≤ 100000) : ∀ (n i : Nat) (c : Int), i + n = v.l.length → c ≤ 100000 →
    ∃ r : Int, W f_ref04_count 1 [.int c, .int d, .int i, v.enc] = W f_ref04_count 2 [.int r, .int d, .int 0, v.enc] ∧ r ≤ 100000
  | 0, i, c, h, hc => by
    rw [e_f_ref04_count_1]
    have h1 : ¬ i < v.l.length := by omega
    exact ⟨c, by simp [h1], hc⟩
  | n + 1, i, c, h, hc => by
    have hi : i < v.l.length := by omega
    have hm := v.mass_len_l
    have hw := next64 (i := i) (by omega)
    have hw2 : IntKind.i64.wrap (d - 1) = d - 1 := wrap64 (by omega) (by omega)
    obtain ⟨r, hr, hr2⟩ := ih _ (List.getElem_mem hi) c (d - 1) hc (by omega) (by omega)
    obtain ⟨r', hr', hr2'⟩ := ref_count_1 v hv ih d hd n (i + 1) r (by omega) hr2
    rw [e_f_ref04_count_1]
    by_cases c1 : 0 ≤ c
    · exact ⟨r', by simp only [Val.proj3, Option.bind_some, O.len_list, List.length_map, O.lt_int, lt_cast, hi, decide_true, O.cnd_bool, if_true, O.ge_int, c1, O.index_list, Int.natCast_nonneg, Int.toNat_natCast, List.getElem?_map, List.getElem?_eq_getElem hi, Option.map_some, O.sub_int, hw2, hr, O.calls_1, O.add_int, hw, hr'], hr2'⟩
    · exact ⟨c, by simp [hi, c1], hc⟩
theorem ref_count : ∀ v : Val, v.mass ≤ 1099511627776 → ∀ c d : Int, c ≤ 100000 → -1099511627776 ≤ d → d ≤ 100000 → ∃ r : Int, W f_ref04_count 0 [v.enc, .int c, .int d] = some [.int r] ∧ r ≤ 100000 := by
  refine Val.ind fun v ih1 ih2 hv c d hc hd hd2 => ?_
  rw [e_f_ref04_count_0]
  by_cases c1 : c ≤ 0
  · exact ⟨-1, by simp [c1], by omega⟩
  · by_cases c2 : d ≤ 0
    · exact ⟨-1, by simp [c1, c2], by omega⟩
    · by_cases c3 : (1000 : Int) < v.s.size
      · exact ⟨-1, by simp [c1, c2, c3], by omega⟩
      · have hw : IntKind.i64.wrap (c - 1) = c - 1 := wrap64 (by omega) (by omega)
        obtain ⟨r, h1, h2⟩ := ref_count_1 v hv (fun x hx => ih1 x hx (by have := Val.mass_l hx; omega)) d (by omega) v.l.length 0 (c - 1) (by omega) (by omega)
        obtain ⟨r', h1', h2'⟩ := ref_count_2 v hv (fun p hp => ih2 p hp (by have := Val.mass_f hp; omega)) d (by omega) v.f.length 0 r (by omega) h2
        simp only [Int.cast_ofNat_Int] at h1 h1'
        exact ⟨r', by simp [c1, c2, c3, hw, h1, h1'], h2'⟩
theorem ref_small (v : Val) (hv : v.mass ≤ 1099511627776) : ∃ b, W f_ref04_Small 0 [v.enc, .int 700] = some [.bool b] := by
  obtain ⟨r, h, _⟩ := ref_count v hv 700 700 (by omega) (by omega) (by omega)
  exact ⟨decide (0 ≤ r), by rw [e_f_ref04_Small_0]; simp [h]⟩

/-! ### equality -/
theorem ref_order (a b : Bool) : W f_ref04_order 0 [.bool a, .bool b] = some [.int (if a then -1 else if b then 1 else 0)] := by
  rw [e_f_ref04_order_0]; cases a <;> cases b <;> rfl
theorem ord_int (a b : Int) : (if decide (a < b) = true then (-1 : Int) else if decide (b < a) = true then 1 else 0) = 0 ↔ a = b := by
  by_cases h1 : a < b
  · simp [h1]; omega
  · by_cases h2 : b < a
    · simp [h1, h2]; omega
    · simp [h1, h2]; omega
theorem ord_str (a b : ByteArray) : (if blt a b = true then (-1 : Int) else if blt b a = true then 1 else 0) = 0 ↔ a = b := by
  rcases blt_total a b with h | rfl | h
  · simp [h]; exact blt_ne h
  · simp [blt_irrefl]
  · have := blt_asymm h
    simp [h, this]
    exact fun e => blt_ne h e.symm

theorem cmp_5 (a b : Val) (ha : Wide 1099511627776 a) (hb : Wide 1099511627776 b) (ih : ∀ p ∈ a.f, ∀ y : Val, Wide 1099511627776 y → ∃ c : Int, W f_ref04_Compare 0 [p.2.enc, y.enc] = some [.int c] ∧ (c = 0 ↔ p.2 = y)) : ∀ (n i : Nat) (c : Int), i + n = a.f.length → i ≤ b.f.length →
    ∃ c' : Int, W f_ref04_Compare 5 [.int c, .int i, a.enc, b.enc] = some [.int c'] ∧ (c' = 0 ↔ c = 0 ∧ a.f.drop i = b.f.drop i)
  | n, i, c, h, hib => by
    have hma := ha.len_f
    have hmb := hb.len_f
    rw [e_f_ref04_Compare_5]
    by_cases hc : c = 0
    · subst hc
      by_cases h1 : i < a.f.length
      · by_cases h2 : i < b.f.length
        · obtain ⟨m, rfl⟩ : ∃ m, n = m + 1 := ⟨n - 1, by omega⟩
          have hw := next64 (i := i) (by omega)
          have hmem := List.getElem_mem h2
          obtain ⟨c1, q1, q2⟩ := ih _ (List.getElem_mem h1) b.f[i].2 (hb.mem_f hmem)
          have hn := ord_str a.f[i].1 b.f[i].1
          have hd : (a.f.drop i = b.f.drop i) ↔ (a.f[i].1 = b.f[i].1 ∧ a.f[i].2 = b.f[i].2 ∧ a.f.drop (i + 1) = b.f.drop (i + 1)) := by
            rw [List.drop_eq_getElem_cons h1, List.drop_eq_getElem_cons h2]
            simp only [List.cons.injEq, Prod.ext_iff, and_assoc]
          simp only [Val.proj4, Option.bind_some, O.len_list, List.length_map, O.lt_int, lt_cast, h1, h2, decide_true, O.cnd_bool, if_true, O.eq_int, O.index_list, Int.natCast_nonneg, Int.toNat_natCast, List.getElem?_map, List.getElem?_eq_getElem h1, List.getElem?_eq_getElem h2, Option.map_some, Fld.proj0, Fld.projV, sLt_blt, sGt_blt, ref_order, O.calls_1, hd]
          generalize (if blt a.f[i].1 b.f[i].1 = true then (-1 : Int) else if blt b.f[i].1 a.f[i].1 = true then 1 else 0) = o at hn
          by_cases ho : o = 0
          · obtain ⟨c', r1, r2⟩ := cmp_5 a b ha hb ih m (i + 1) c1 (by omega) (by omega)
            refine ⟨c', by simp only [ho, decide_true, if_true, q1, O.calls_1, e_f_ref04_Compare_6, O.add_int, hw, Option.bind_some, r1], ?_⟩
            rw [r2, q2]
            have := hn.1 ho
            simp [this]
          · obtain ⟨c', r1, r2⟩ := cmp_5 a b ha hb ih m (i + 1) o (by omega) (by omega)
            refine ⟨c', by simp only [ho, decide_false, Bool.false_eq_true, if_false, e_f_ref04_Compare_6, O.add_int, hw, Option.bind_some, r1], ?_⟩
            rw [r2]
            have : ¬ a.f[i].1 = b.f[i].1 := fun e => ho (hn.2 e)
            simp [ho, this]
        · have hi : i = b.f.length := by omega
          have hne : ¬ a.f.length = b.f.length := by omega
          refine ⟨1, ?_, by
            have : ¬ a.f.drop i = b.f.drop i := fun e => by
              have := congrArg List.length e
              simp at this; omega
            simp [this]⟩
          have g1 : ¬ (a.f.length : Int) < b.f.length := by omega
          have g2 : (b.f.length : Int) < a.f.length := by omega
          simp [h1, h2, g1, g2, ref_order]
      · have hi : i = a.f.length := by omega
        refine ⟨_, by simp only [Val.proj4, Option.bind_some, O.len_list, List.length_map, O.lt_int, lt_cast, h1, decide_false, O.cnd_bool, Bool.false_eq_true, if_false, O.eq_int, decide_true, if_true, ref_order, O.calls_1, O.gt_int]; rfl, ?_⟩
        have e1 : a.f.drop i = [] := List.drop_of_length_le (by omega)
        rw [e1]
        by_cases g : a.f.length = b.f.length
        · have : b.f.drop i = [] := List.drop_of_length_le (by omega)
          simp [g, this]
        · have g2 : a.f.length < b.f.length := by omega
          have : ¬ [] = b.f.drop i := fun e => by
            have := congrArg List.length e
            simp at this; omega
          simp [g2, this]
    · refine ⟨c, ?_, by simp [hc]⟩
      by_cases h1 : i < a.f.length <;> by_cases h2 : i < b.f.length <;> simp [h1, h2, hc]
theorem cmp_3 (a b : Val) (ha : Wide 1099511627776 a) (hb : Wide 1099511627776 b) (ih : ∀ x ∈ a.l, ∀ y : Val, Wide 1099511627776 y → ∃ c : Int, W f_ref04_Compare 0 [x.enc, y.enc] = some [.int c] ∧ (c = 0 ↔ x = y)) : ∀ (n i : Nat) (c : Int), i + n = a.l.length → i ≤ b.l.length →
    ∃ c' : Int, W f_ref04_Compare 3 [.int c, .int i, a.enc, b.enc] = W f_ref04_Compare 4 [.int c', a.enc, b.enc] ∧ (c' = 0 ↔ c = 0 ∧ a.l.drop i = b.l.drop i)
  | n, i, c, h, hib => by
    have hma := ha.len_l
    have hmb := hb.len_l
    rw [e_f_ref04_Compare_3]
    by_cases hc : c = 0
    · subst hc
      by_cases h1 : i < a.l.length
      · by_cases h2 : i < b.l.length
        · obtain ⟨m, rfl⟩ : ∃ m, n = m + 1 := ⟨n - 1, by omega⟩
          have hw := next64 (i := i) (by omega)
          obtain ⟨c1, q1, q2⟩ := ih _ (List.getElem_mem h1) b.l[i] (hb.mem_l (List.getElem_mem h2))
          have hd : (a.l.drop i = b.l.drop i) ↔ (a.l[i] = b.l[i] ∧ a.l.drop (i + 1) = b.l.drop (i + 1)) := by
            rw [List.drop_eq_getElem_cons h1, List.drop_eq_getElem_cons h2]
            simp only [List.cons.injEq]
          obtain ⟨c', r1, r2⟩ := cmp_3 a b ha hb ih m (i + 1) c1 (by omega) (by omega)
          refine ⟨c', by simp only [Val.proj3, Option.bind_some, O.len_list, List.length_map, O.lt_int, lt_cast, h1, h2, decide_true, O.cnd_bool, if_true, O.eq_int, O.index_list, Int.natCast_nonneg, Int.toNat_natCast, List.getElem?_map, List.getElem?_eq_getElem h1, List.getElem?_eq_getElem h2, Option.map_some, q1, O.calls_1, O.add_int, hw, r1], ?_⟩
          rw [r2, q2, hd]; simp
        · refine ⟨1, ?_, by
            have : ¬ a.l.drop i = b.l.drop i := fun e => by
              have := congrArg List.length e
              simp at this; omega
            simp [this]⟩
          have g1 : ¬ (a.l.length : Int) < b.l.length := by omega
          have g2 : (b.l.length : Int) < a.l.length := by omega
          simp [h1, h2, g1, g2, ref_order]
      · have hi : i = a.l.length := by omega
        refine ⟨_, by simp only [Val.proj3, Option.bind_some, O.len_list, List.length_map, O.lt_int, lt_cast, h1, decide_false, O.cnd_bool, Bool.false_eq_true, if_false, O.eq_int, decide_true, if_true, ref_order, O.calls_1, O.gt_int]; rfl, ?_⟩
        have e1 : a.l.drop i = [] := List.drop_of_length_le (by omega)
        rw [e1]
        by_cases g : a.l.length = b.l.length
        · have : b.l.drop i = [] := List.drop_of_length_le (by omega)
          simp [g, this]
        · have g2 : a.l.length < b.l.length := by omega
          have : ¬ [] = b.l.drop i := fun e => by
            have := congrArg List.length e
            simp at this; omega
          simp [g2, this]
    · refine ⟨c, ?_, by simp [hc]⟩
      by_cases h1 : i < a.l.length <;> by_cases h2 : i < b.l.length <;> simp [h1, h2, hc]
theorem ref_cmpW : ∀ a : Val, Wide 1099511627776 a → ∀ b : Val, Wide 1099511627776 b → ∃ c : Int, W f_ref04_Compare 0 [a.enc, b.enc] = some [.int c] ∧ (c = 0 ↔ a = b) := by
  refine Val.ind fun a ih1 ih2 ha b hb => ?_
  have h3 := fun c => cmp_3 a b ha hb (fun x hx => ih1 x hx (ha.mem_l hx)) a.l.length 0 c (by omega) (Nat.zero_le _)
  have h5 := fun c => cmp_5 a b ha hb (fun p hp => ih2 p hp (ha.mem_f hp)) a.f.length 0 c (by omega) (Nat.zero_le _)
  simp only [List.drop_zero, Int.cast_ofNat_Int] at h3 h5
  have hab : a = b ↔ a.k = b.k ∧ a.n = b.n ∧ a.s = b.s ∧ a.l = b.l ∧ a.f = b.f := by
    cases a; cases b; simp
  -- from the lists on
  have rest : ∀ c : Int, ∃ c' : Int, W f_ref04_Compare 2 [.int c, a.enc, b.enc] = some [.int c'] ∧ (c' = 0 ↔ c = 0 ∧ a.l = b.l ∧ a.f = b.f) := by
    intro c
    obtain ⟨c1, q1, q2⟩ := h3 c
    obtain ⟨c2, r1, r2⟩ := h5 c1
    refine ⟨c2, by rw [e_f_ref04_Compare_2, q1, e_f_ref04_Compare_4, r1], by rw [r2, q2, and_assoc]⟩
  have text : ∀ c : Int, ∃ c' : Int, W f_ref04_Compare 1 [.int c, a.enc, b.enc] = some [.int c'] ∧ (c' = 0 ↔ c = 0 ∧ a.s = b.s ∧ a.l = b.l ∧ a.f = b.f) := by
    intro c
    rw [e_f_ref04_Compare_1]
    by_cases hc : c = 0
    · have hs := ord_str a.s b.s
      obtain ⟨c', q1, q2⟩ := rest (if blt a.s b.s = true then (-1 : Int) else if blt b.s a.s = true then 1 else 0)
      refine ⟨c', by simp only [O.eq_int, hc, decide_true, Option.bind_some, O.cnd_bool, if_true, Val.proj2, sLt_blt, sGt_blt, ref_order, O.calls_1, q1], ?_⟩
      rw [q2, hs]; simp [hc]
    · obtain ⟨c', q1, q2⟩ := rest c
      refine ⟨c', by simp only [O.eq_int, hc, decide_false, Option.bind_some, O.cnd_bool, Bool.false_eq_true, if_false, q1], ?_⟩
      rw [q2]; simp [hc]
  rw [e_f_ref04_Compare_0]
  have hk := ord_int a.k b.k
  have hn := ord_int a.n b.n
  simp only [Val.proj0, Val.proj1, Option.bind_some, O.lt_int, O.gt_int, ref_order, O.calls_1, O.eq_int, O.cnd_bool]
  generalize (if decide (a.k < b.k) = true then (-1 : Int) else if decide (b.k < a.k) = true then 1 else 0) = o at hk
  generalize (if decide (a.n < b.n) = true then (-1 : Int) else if decide (b.n < a.n) = true then 1 else 0) = o2 at hn
  by_cases ho : o = 0
  · obtain ⟨c', q1, q2⟩ := text o2
    refine ⟨c', by simp only [ho, decide_true, if_true, q1], ?_⟩
    rw [q2, hn, hab]
    have := hk.1 ho
    simp [this]
  · obtain ⟨c', q1, q2⟩ := text o
    refine ⟨c', by simp only [ho, decide_false, Bool.false_eq_true, if_false, q1], ?_⟩
    rw [q2, hab]
    have : ¬ a.k = b.k := fun e => ho (hk.2 e)
    simp [ho, this]
open Classical in
theorem ref_equalW (a b : Val) (ha : Wide 1099511627776 a) (hb : Wide 1099511627776 b) : W f_ref04_Equal 0 [a.enc, b.enc] = some [.bool (decide (a = b))] := by
  obtain ⟨c, h1, h2⟩ := ref_cmpW a ha b hb
  rw [e_f_ref04_Equal_0]
  simp only [h1, O.calls_1, O.eq_int, Option.bind_some]
  congr 3
  simp only [h2]
open Classical in
theorem ref_equal (a b : Val) (ha : a.mass ≤ 1099511627776) (hb : b.mass ≤ 1099511627776) : W f_ref04_Equal 0 [a.enc, b.enc] = some [.bool (decide (a = b))] := ref_equalW a b (wide_mass a (by omega)) (wide_mass b (by omega))
end Go.CT.Defs

namespace Go.CT.Defs
open Go.Proofs
def fltB (x y : ByteArray × Val) : Bool := blt x.1 y.1
theorem cmpB : ∀ (a b : List UInt8), decide (Lib.compareBytes a b < 0) = Op.bytesLess a b
  | [], [] => rfl
  | [], _ :: _ => by simp [Lib.compareBytes, Op.bytesLess]
  | _ :: _, [] => by simp [Lib.compareBytes, Op.bytesLess]
  | a :: x, b :: y => by
    simp only [Lib.compareBytes, Op.bytesLess]
    by_cases h1 : a < b
    · simp [h1]
    · by_cases h2 : b < a
      · have : ¬ a = b := fun e => by subst e; exact h1 h2
        simp [h1, h2, this]
      · have : a = b := by
          have h1' : ¬ a.toNat < b.toNat := fun h => h1 (UInt8.lt_iff_toNat_lt.2 h)
          have h2' : ¬ b.toNat < a.toNat := fun h => h2 (UInt8.lt_iff_toNat_lt.2 h)
          exact UInt8.toNat_inj.1 (by omega)
        subst this
        simp [h1, cmpB x y]
theorem fcmp (x y : ByteArray × Val) : ∃ c : Int, W f_value_Map_1 0 [Fld.enc x, Fld.enc y] = some [.int c] ∧ (decide (c < 0) = fltB x y) := by
  refine ⟨Lib.compareBytes x.1.data.toList y.1.data.toList, ?_, cmpB _ _⟩
  rw [e_f_value_Map_1_0]
  simp [e_f_strings_Compare_0, e_f_internal_bytealg_CompareString_0, e_f_internal_bytealg_abigen_runtime_cmpstring, O.compareF]
theorem ford : Srt.Ord fltB where
  irr x := blt_irrefl _
  tr x y z h k := blt_trans h k
  neg x y z h := by
    rcases blt_total x.1 y.1 with h1 | h1 | h1
    · exact .inl h1
    · right; unfold fltB at h ⊢; rw [← h1]; exact h
    · right; exact blt_trans h1 h
noncomputable def feqs : Srt.Eqs Fld.enc fltB 6 true where
  S b xs := W f_slices_SortStableFunc b xs
  B b xs := W f_slices_stableCmpFunc b xs
  I b xs := W f_slices_insertionSortCmpFunc b xs
  M b xs := W f_slices_symMergeCmpFunc b xs
  R b xs := W f_slices_rotateCmpFunc b xs
  X b xs := W f_slices_swapRangeCmpFunc b xs
  C xs := W f_value_Map_1 0 xs
  cmp := fcmp
  s0 := e_f_slices_SortStableFunc_0
  b0 := e_f_slices_stableCmpFunc_0
  b1 := e_f_slices_stableCmpFunc_1
  b2 := e_f_slices_stableCmpFunc_2
  b3 := e_f_slices_stableCmpFunc_3
  b4 := e_f_slices_stableCmpFunc_4
  i0 := e_f_slices_insertionSortCmpFunc_0
  i1 := e_f_slices_insertionSortCmpFunc_1
  i2 := e_f_slices_insertionSortCmpFunc_2
  x0 := e_f_slices_swapRangeCmpFunc_0
  x1 := e_f_slices_swapRangeCmpFunc_1
  r0 := e_f_slices_rotateCmpFunc_0
  r1 := e_f_slices_rotateCmpFunc_1
  r2 := e_f_slices_rotateCmpFunc_2
  m0 := e_f_slices_symMergeCmpFunc_0
  m1 := e_f_slices_symMergeCmpFunc_1
  m2 := e_f_slices_symMergeCmpFunc_2
  m3 := e_f_slices_symMergeCmpFunc_3
  m4 := e_f_slices_symMergeCmpFunc_4
  m5 := e_f_slices_symMergeCmpFunc_5
  m6 := e_f_slices_symMergeCmpFunc_6
  m7 := e_f_slices_symMergeCmpFunc_7
  m8 := e_f_slices_symMergeCmpFunc_8
  m9 := e_f_slices_symMergeCmpFunc_9
  m10 := e_f_slices_symMergeCmpFunc_10
  m11 := e_f_slices_symMergeCmpFunc_11
end Go.CT.Defs

namespace Go.CT.Defs
open Go.Proofs

theorem cloneF_list {l : List IV} (h : l.length ≤ 1073741824) : O.cloneF [.list l] = some [.list l] := if_pos h

/-! ### the program's values -/
theorem val_clone_2W (v : Val) (hv : Wide 1073741824 v) (y2 y3 y4 y5 y6 y7 y9 : IV) (ih : ∀ p ∈ v.f, W f_value_clone 0 [p.2.enc] = some p.2.comps) : ∀ (n i : Nat), i + n = v.f.length →
    W f_value_clone 2 [.int v.f.length, .int i, y2, y3, y4, y5, y6, y7, .list (v.f.map Fld.enc), y9] = some [y2, y3, y4, y9, .list (v.f.map Fld.enc)]
  | 0, i, h => by
    rw [e_f_value_clone_2]
    have h1 : ¬ i < v.f.length := by omega
    simp only [O.lt_int, lt_cast, h1, decide_false, Option.bind_some, O.cnd_bool, Bool.false_eq_true, if_false]
  | n + 1, i, h => by
    have hi : i < v.f.length := by omega
    have hm := hv.len_f
    have hw := next64 (i := i) (by omega)
    have := val_clone_2W v hv y2 y3 y4 y5 y6 y7 y9 ih n (i + 1) (by omega)
    have hset : O.setAt 1 5 true false (.list (v.f.map Fld.enc)) (.int i) v.f[i].2.enc = some (.list (v.f.map Fld.enc)) := by
      have hg : (v.f.map Fld.enc)[i]? = some (Fld.enc v.f[i]) := by rw [List.getElem?_map, List.getElem?_eq_getElem hi]; rfl
      have hs : (v.f.map Fld.enc).set i (Fld.enc v.f[i]) = v.f.map Fld.enc := by
        rw [← List.map_set, List.set_getElem_self]
      unfold O.setAt
      simp only [Prim.ev, Int.natCast_nonneg, if_true, Int.toNat_natCast, hg, Bool.false_eq_true, if_false]
      rw [v.f[i].2.enc_eq]
      simp only [Fld.enc]
      have hl : v.f[i].2.comps.length = 5 := rfl
      simp only [hl, if_true]
      congr 2
    rw [e_f_value_clone_2]
    simp only [O.lt_int, lt_cast, hi, decide_true, Option.bind_some, O.cnd_bool, if_true, O.index_list, Int.natCast_nonneg, Int.toNat_natCast, List.getElem?_map, List.getElem?_eq_getElem hi, Option.map_some, Fld.projV, ih _ (List.getElem_mem hi), Val.comps_eq, O.calls_5, O.mkagg_eq, Val.fold_eta, hset, O.add_int, hw, this]
theorem val_clone_1W (v : Val) (hv : Wide 1073741824 v) (y2 y3 y4 y6 y7 y8 : IV) (ih : ∀ x ∈ v.l, W f_value_clone 0 [x.enc] = some x.comps) : ∀ (n i : Nat), i + n = v.l.length →
    W f_value_clone 1 [.int v.l.length, .int i, y2, y3, y4, .list (v.f.map Fld.enc), y6, y7, y8, .list (v.l.map Val.enc)] = W f_value_clone 2 [.int v.f.length, .int (0 : Nat), y2, y3, y4, y6, y7, y8, .list (v.f.map Fld.enc), .list (v.l.map Val.enc)]
  | 0, i, h => by
    rw [e_f_value_clone_1]
    have h1 : ¬ i < v.l.length := by omega
    have h6 := hv.len_f
    have hc : (v.f.map Fld.enc).length ≤ 1073741824 := by rw [List.length_map]; omega
    simp only [O.lt_int, lt_cast, h1, decide_false, Option.bind_some, O.cnd_bool, Bool.false_eq_true, if_false, e_f_slices_Clone_v2, cloneF_list hc, O.calls_1, O.len_list, List.length_map]
    rfl
  | n + 1, i, h => by
    have hi : i < v.l.length := by omega
    have hm := hv.len_l
    have hw := next64 (i := i) (by omega)
    have := val_clone_1W v hv y2 y3 y4 y6 y7 y8 ih n (i + 1) (by omega)
    have hset : O.setAt 0 5 true true (.list (v.l.map Val.enc)) (.int i) v.l[i].enc = some (.list (v.l.map Val.enc)) := by
      rw [show (IV.list (v.l.map Val.enc)) = Srt.LE Val.enc v.l from rfl, Srt.seti Val.enc hi, List.set_getElem_self]
    rw [e_f_value_clone_1]
    simp only [O.lt_int, lt_cast, hi, decide_true, Option.bind_some, O.cnd_bool, if_true, O.index_list, Int.natCast_nonneg, Int.toNat_natCast, List.getElem?_map, List.getElem?_eq_getElem hi, Option.map_some, ih _ (List.getElem_mem hi), Val.comps_eq, O.calls_5, O.mkagg_eq, Val.fold_eta, hset, O.add_int, hw, this]
theorem val_cloneW : ∀ v : Val, Wide 1073741824 v → W f_value_clone 0 [v.enc] = some v.comps := by
  refine Val.ind fun v ih1 ih2 hv => ?_
  have h1 := val_clone_1W v hv (.int v.k) (.int v.n) (.str v.s) (.int 0) (.int 0) (.str ⟨#[]⟩) (fun x hx => ih1 x hx (hv.mem_l hx)) v.l.length 0 (by omega)
  have h2 := val_clone_2W v hv (.int v.k) (.int v.n) (.str v.s) (.int 0) (.int 0) (.str ⟨#[]⟩) (.list (v.l.map Val.enc)) (fun p hp => ih2 p hp (hv.mem_f hp)) v.f.length 0 (by omega)
  rw [h2] at h1
  rw [e_f_value_clone_0]
  have h6 := hv.len_l
  have hc : (v.l.map Val.enc).length ≤ 1073741824 := by rw [List.length_map]; omega
  simp only [Val.proj0, Val.proj1, Val.proj2, Val.proj3, Val.proj4, Option.bind_some, e_f_slices_Clone, cloneF_list hc, O.calls_1, O.len_list, List.length_map]
  rw [Val.comps_eq]
  exact h1
theorem val_listW (l : List Val) (hl : l.length ≤ 1073741824) (hl2 : ∀ x ∈ l, Wide 1073741824 x) : W f_value_List 0 [.list (l.map Val.enc)] = some (Val.comps ⟨4, 0, emptyB, l, []⟩) := by
  rw [e_f_value_List_0]
  have h := val_cloneW ⟨4, 0, emptyB, l, []⟩ (.mk _ hl (Nat.zero_le _) hl2 (by simp))
  have e : IV.agg [.int 4, .int 0, .str ⟨#[]⟩, .list (l.map Val.enc), .list []] = Val.enc ⟨4, 0, emptyB, l, []⟩ := by
    rw [← Val.fold]; rfl
  simp only [O.mkagg_eq, Option.bind_some, e, h, Val.comps_eq, O.calls_5]
theorem defs_cloneW (v : Val) (hv : Wide 1073741824 v) : W f_defaults_clone 0 [v.enc] = some [v.enc] := by
  rw [e_f_defaults_clone_0]
  have h := val_listW [v] (by simp) (by simpa using hv)
  simp only [List.map_cons, List.map_nil] at h
  simp only [O.mklist_eq, Option.bind_some, h, Val.comps_eq, O.calls_5, Val.l_mk, List.map_cons, List.map_nil]
  rfl
theorem val_clone (v : Val) (hv : v.mass ≤ 4294967296) : W f_value_clone 0 [v.enc] = some v.comps := val_cloneW v (wide_mass v (by omega))
theorem val_list (l : List Val) (hl : massVs l ≤ 4294967200) : W f_value_List 0 [.list (l.map Val.enc)] = some (Val.comps ⟨4, 0, emptyB, l, []⟩) :=
  val_listW l (by have := massVs_len6 l; omega) fun x hx => wide_mass x (by
    have : x.mass ≤ massVs l := bulk_mem (List.mem_map_of_mem hx)
    omega)
theorem defs_clone (v : Val) (hv : v.mass ≤ 4294967100) : W f_defaults_clone 0 [v.enc] = some [v.enc] := defs_cloneW v (wide_mass v (by omega))
theorem val_get_1W (v : Val) (nm : ByteArray) (hv : Wide 1073741824 v) (y4 y5 y6 : IV) : ∀ (n i : Nat), i + n = v.f.length →
    W f_value_Get 1 [.str nm, .list (v.f.map Fld.enc), .int v.f.length, .int i, y4, y5, y6] = some (getIV (((v.f.drop i).find? fun p => decide (p.1 = nm)).map (·.2)))
  | 0, i, h => by
    rw [e_f_value_Get_1]
    have h1 : ¬ i < v.f.length := by omega
    simp [h1, List.drop_of_length_le (Nat.le_of_not_lt h1), getIV, zeroVal, emptyB]
  | n + 1, i, h => by
    have hi : i < v.f.length := by omega
    have hm := hv.len_f
    have hw := next64 (i := i) (by omega)
    have := val_get_1W v nm hv y4 y5 y6 n (i + 1) (by omega)
    have hmem := List.getElem_mem hi
    rw [e_f_value_Get_1, List.drop_eq_getElem_cons hi]
    simp only [O.lt_int, lt_cast, hi, decide_true, Option.bind_some, O.cnd_bool, if_true, O.index_list, Int.natCast_nonneg, Int.toNat_natCast, List.getElem?_map, List.getElem?_eq_getElem hi, Option.map_some, Fld.proj0, Fld.projV, O.sEq_str, val_cloneW v.f[i].2 (hv.mem_f hmem), Val.comps_eq, O.calls_5, O.add_int, hw, this, List.find?_cons]
    by_cases c : v.f[i].1 = nm
    · simp [c, getIV]
    · have c' : decide (v.f[i].1 = nm) = false := by simpa using c
      simp only [c, c', decide_false, Bool.false_eq_true, if_false]
theorem val_getW (v : Val) (nm : ByteArray) (hv : Wide 1073741824 v) : W f_value_Get 0 [v.enc, .str nm] = some (getIV (v.get nm)) := by
  rw [e_f_value_Get_0]
  unfold Val.get
  have := val_get_1W v nm hv (.int 0) (.int 0) (.str ⟨#[]⟩) v.f.length 0 (by omega)
  simp only [List.drop_zero, Int.cast_ofNat_Int] at this
  simp only [Val.proj0, Val.proj4, Option.bind_some, O.eq_int, O.cnd_bool, O.len_list, List.length_map, this]
  by_cases c : v.k = 5 <;> simp [c, getIV, zeroVal, emptyB]

/-! ### taking fields out -/
theorem val_others_1 (p : ByteArray × Val) (nm : ByteArray) : W f_value_others_1 0 [Fld.enc p, .str nm] = some [.bool (decide (p.1 = nm))] := by
  rw [e_f_value_others_1_0]; simp
theorem val_index (l : List (ByteArray × Val)) (nm : ByteArray) (hl : l.length ≤ 1099511627776) : ∀ (n i : Nat), i + n = l.length → (∀ p ∈ l.take i, ¬ p.1 = nm) →
    (W f_slices_IndexFunc 1 [.list (l.map Fld.enc), .str nm, .int l.length, .int i] = some [.int (-1)] ∧ ∀ p ∈ l, ¬ p.1 = nm) ∨
    ∃ j, ∃ h : j < l.length, W f_slices_IndexFunc 1 [.list (l.map Fld.enc), .str nm, .int l.length, .int i] = some [.int (j : Nat)] ∧ l[j].1 = nm ∧ ∀ p ∈ l.take j, ¬ p.1 = nm
  | 0, i, h, hp => by
    left
    rw [e_f_slices_IndexFunc_1]
    have h1 : ¬ i < l.length := by omega
    rw [List.take_of_length_le (by omega)] at hp
    refine ⟨?_, hp⟩
    simp only [O.lt_int, lt_cast, h1, decide_false, Option.bind_some, O.cnd_bool, Bool.false_eq_true, if_false]
  | n + 1, i, h, hp => by
    have hi : i < l.length := by omega
    have hw := next64 (i := i) (by omega)
    rw [e_f_slices_IndexFunc_1]
    by_cases c : l[i].1 = nm
    · right
      refine ⟨i, hi, ?_, c, hp⟩
      simp only [O.lt_int, lt_cast, hi, decide_true, Option.bind_some, O.cnd_bool, if_true, O.index_list, Int.natCast_nonneg, Int.toNat_natCast, List.getElem?_map, List.getElem?_eq_getElem hi, Option.map_some, val_others_1, O.calls_1, c]
    · have := val_index l nm hl n (i + 1) (by omega) (by
        intro p hp'
        rw [← take_get l hi] at hp'
        rcases List.mem_append.1 hp' with h | h
        · exact hp p h
        · simp at h; subst h; exact c)
      simp only [O.lt_int, lt_cast, hi, decide_true, Option.bind_some, O.cnd_bool, if_true, O.index_list, Int.natCast_nonneg, Int.toNat_natCast, List.getElem?_map, List.getElem?_eq_getElem hi, Option.map_some, val_others_1, O.calls_1, c, decide_false, Bool.false_eq_true, if_false, O.add_int, hw]
      exact this
end Go.CT.Defs

namespace Go.CT.Defs
open Go.Proofs

def noName (nm : ByteArray) (p : ByteArray × Val) : Bool := !decide (p.1 = nm)

theorem val_delete_1 (nm : ByteArray) : ∀ (rest kept junk : List (ByteArray × Val)), junk ≠ [] → kept.length + junk.length + rest.length ≤ 1099511627776 →
    W f_slices_DeleteFunc 1 [.str nm, .int kept.length, .int (kept.length + junk.length : Nat), Srt.LE Fld.enc (kept ++ (junk ++ rest))] = some [Srt.LE Fld.enc (kept ++ rest.filter (noName nm))]
  | [], kept, junk, hj, hb => by
    have hj' := List.length_pos_iff.2 hj
    rw [e_f_slices_DeleteFunc_1, Srt.len]
    have h1 : ¬ ((kept.length + junk.length : Nat) : Int) < (kept ++ (junk ++ [])).length := by simp
    have hc : ∀ z : IV, O.clear z (Srt.LE Fld.enc (kept ++ (junk ++ []))) (.int kept.length) (.int (kept ++ (junk ++ [])).length) = some (.list (kept.map Fld.enc ++ List.replicate junk.length z)) := by
      intro z
      unfold O.clear Srt.LE
      simp only [Prim.ev, List.append_nil, List.length_map, List.length_append, Int.natCast_nonneg, true_and, Int.toNat_natCast, Nat.le_refl, and_true]
      rw [if_pos (by omega)]
      simp
    have hs : ∀ ys : List IV, O.slice (.list (kept.map Fld.enc ++ ys)) (.int 0) (.int kept.length) = some (Srt.LE Fld.enc kept) := by
      intro ys
      rw [O.slice_list, if_pos (by simp only [List.length_append, List.length_map]; omega)]
      simp [Srt.LE]
    have hs2 : ∃ y, O.slice (Srt.LE Fld.enc (kept ++ (junk ++ []))) (.int kept.length) (.int (kept ++ (junk ++ [])).length) = some y := by
      unfold Srt.LE
      rw [O.slice_list, if_pos (by simp only [List.length_append, List.length_map]; omega)]
      exact ⟨_, rfl⟩
    obtain ⟨y, hs2⟩ := hs2
    simp only [List.append_nil] at h1 hc hs2
    simp only [List.append_nil, Option.bind_some, O.lt_int, h1, decide_false, O.cnd_bool, Bool.false_eq_true, if_false, hs2, hc, hs, List.filter_nil, List.append_nil]
  | v :: rest, kept, [], hj, hb => absurd rfl hj
  | v :: rest, kept, y :: js, hj, hb => by
    simp only [List.length_cons] at hb
    rw [e_f_slices_DeleteFunc_1, Srt.len]
    have h1 : ((kept.length + (y :: js).length : Nat) : Int) < (kept ++ (y :: js ++ v :: rest)).length := by simp; omega
    have hw : IntKind.i64.wrap (((kept.length + (y :: js).length : Nat) : Int) + 1) = ((kept.length + (y :: js).length + 1 : Nat) : Int) := by simp only [List.length_cons]; rw [wrap64 (by omega) (by omega)]; omega
    have hw2 : IntKind.i64.wrap ((kept.length : Int) + 1) = ((kept.length + 1 : Nat) : Int) := next64 (by omega)
    have gv := Srt.idx Fld.enc (Srt.get_mid' (l := kept ++ (y :: js ++ v :: rest)) (A := kept ++ y :: js) (x := v) (B := rest) (by simp) (i := kept.length + (y :: js).length) (by simp))
    have gi := Srt.idx Fld.enc (Srt.get_mid' (l := kept ++ (y :: js ++ v :: rest)) (A := kept) (x := y) (B := js ++ v :: rest) (by simp) (i := kept.length) rfl)
    have st := Srt.set_mid' (l := kept ++ (y :: js ++ v :: rest)) (A := kept) (x := y) (y := v) (B := js ++ v :: rest) (by simp) (i := kept.length) rfl
    have hi1 : kept.length < (kept ++ (y :: js ++ v :: rest)).length := by simp
    rw [List.filter_cons]
    by_cases c : v.1 = nm
    · have ih := val_delete_1 nm rest kept (y :: js ++ [v]) (by simp) (by simp; omega)
      have hn : noName nm v = false := by simp [noName, c]
      simp only [Option.bind_some, O.lt_int, h1, decide_true, O.cnd_bool, if_true, gv, val_others_1, O.calls_1, c, O.not_bool, Bool.not_true, Bool.false_eq_true, if_false, e_f_slices_DeleteFunc_2, O.add_int, hw, hn]
      rw [show kept.length + (y :: js).length + 1 = kept.length + (y :: js ++ [v]).length by simp; omega]
      rw [← ih]; simp
    · have ih := val_delete_1 nm rest (kept ++ [v]) (js ++ [v]) (by simp) (by simp; omega)
      have hn : noName nm v = true := by simp [noName, c]
      simp only [Option.bind_some, O.lt_int, h1, decide_true, O.cnd_bool, if_true, gv, val_others_1, O.calls_1, c, decide_false, O.not_bool, Bool.not_false, gi, Srt.seti Fld.enc hi1, st, O.add_int, hw2, e_f_slices_DeleteFunc_2, hw, hn]
      rw [show kept.length + (y :: js).length + 1 = (kept ++ [v]).length + (js ++ [v]).length by simp; omega, show kept.length + 1 = (kept ++ [v]).length by simp]
      rw [show kept ++ v :: (js ++ v :: rest) = kept ++ [v] ++ (js ++ [v] ++ rest) by simp, ih]
      simp
theorem val_delete (l : List (ByteArray × Val)) (nm : ByteArray) (hl : l.length ≤ 1099511627776) :
    W f_slices_DeleteFunc 0 [.list (l.map Fld.enc), .str nm] = some [.list ((l.filter (noName nm)).map Fld.enc)] := by
  rw [e_f_slices_DeleteFunc_0, e_f_slices_IndexFunc_0]
  have key := val_index l nm hl l.length 0 (by omega) (by simp)
  simp only [Int.cast_ofNat_Int] at key
  rcases key with ⟨h1, h2⟩ | ⟨j, hj, h1, h2, h3⟩
  · simp only [O.len_list, List.length_map, Option.bind_some, h1, O.calls_1, O.eq_int, decide_true, O.cnd_bool, if_true]
    congr 3
    rw [List.filter_eq_self.2 (fun p hp => by simp [noName, h2 p hp])]
  · have hne : ¬ (j : Int) = -1 := by omega
    have hw2 : IntKind.i64.wrap ((j : Int) + 1) = ((j + 1 : Nat) : Int) := next64 (by omega)
    simp only [O.len_list, List.length_map, Option.bind_some, h1, O.calls_1, O.eq_int, hne, decide_false, O.cnd_bool, Bool.false_eq_true, if_false, O.add_int, hw2]
    have hs : l = l.take j ++ ([l[j]] ++ l.drop (j + 1)) := by
      rw [List.singleton_append, ← List.drop_eq_getElem_cons hj, List.take_append_drop]
    have hl1 : (l.take j).length = j := by rw [List.length_take]; omega
    have hl2 : (l.drop (j + 1)).length = l.length - (j + 1) := by rw [List.length_drop]
    have hd := val_delete_1 nm (l.drop (j + 1)) (l.take j) [l[j]] (by simp) (by simp only [List.length_singleton]; omega)
    rw [hl1, List.length_singleton, ← hs] at hd
    rw [show IV.list (l.map Fld.enc) = Srt.LE Fld.enc l from rfl, hd]
    have hf : l.filter (noName nm) = l.take j ++ (l.drop (j + 1)).filter (noName nm) := by
      conv => lhs; rw [hs]
      rw [List.filter_append, List.filter_append, List.filter_eq_self.2 (fun p hp => by simp [noName, h3 p hp])]
      congr 1
      simp [noName, h2]
    rw [hf]; rfl
theorem val_othersW (v : Val) (nm : ByteArray) (hv : Wide 1073741824 v) : W f_value_others 0 [v.enc, .str nm] = some [.list ((othersF v nm).map Fld.enc)] := by
  rw [e_f_value_others_0]
  unfold othersF
  have h6 := hv.len_f
  have hc : (v.f.map Fld.enc).length ≤ 1073741824 := by rw [List.length_map]; omega
  have hd := val_delete v.f nm (by omega)
  by_cases c : v.k = 5
  · simp only [Val.proj0, Val.proj4, Option.bind_some, O.ne_int, c, decide_true, Bool.not_true, O.cnd_bool, Bool.false_eq_true, if_false, e_f_slices_Clone_v2, cloneF_list hc, O.calls_1, hd, if_true]
    rfl
  · simp [c]

/-! ### maps -/
def dedup : List (ByteArray × Val) → List (ByteArray × Val)
  | [] => []
  | [p] => [p]
  | p :: q :: r => if q.1 = p.1 then dedup (q :: r) else p :: dedup (q :: r)
def Strict (l : List (ByteArray × Val)) : Prop := l.Pairwise fun a b => blt a.1 b.1 = true
def isName (nm : ByteArray) (p : ByteArray × Val) : Bool := decide (p.1 = nm)
/-- The last field of a name. -/
def look (nm : ByteArray) (l : List (ByteArray × Val)) : Option (ByteArray × Val) := (l.filter (isName nm)).getLast?
theorem dedup_mem : ∀ (l : List (ByteArray × Val)) (p : ByteArray × Val), p ∈ dedup l → p ∈ l
  | [], p, h => h
  | [_], p, h => h
  | a :: b :: r, p, h => by
    simp only [dedup] at h
    split at h
    · exact List.mem_cons_of_mem _ (dedup_mem (b :: r) p h)
    · rcases List.mem_cons.1 h with rfl | h
      · simp
      · exact List.mem_cons_of_mem _ (dedup_mem (b :: r) p h)
theorem blt_of_le {x y : ByteArray} (h : blt y x = false) (hne : ¬ y = x) : blt x y = true := by
  rcases blt_total x y with h1 | h1 | h1
  · exact h1
  · exact absurd h1.symm hne
  · rw [h] at h1; cases h1
theorem blt_le_trans {x y z : ByteArray} (h : blt x y = true) (h2 : blt z y = false) : blt x z = true := by
  rcases blt_total y z with h1 | h1 | h1
  · exact blt_trans h h1
  · rw [← h1]; exact h
  · rw [h2] at h1; cases h1
theorem dedup_strict : ∀ l : List (ByteArray × Val), Srt.Sorted fltB l → Strict (dedup l)
  | [], _ => List.Pairwise.nil
  | [_], _ => List.pairwise_singleton _ _
  | a :: b :: r, h => by
    have h1 := List.pairwise_cons.1 h
    have ih := dedup_strict (b :: r) h1.2
    simp only [dedup]
    split
    · exact ih
    · next hne =>
      refine List.pairwise_cons.2 ⟨fun y hy => ?_, ih⟩
      have hab : blt a.1 b.1 = true := blt_of_le (h1.1 b (by simp)) hne
      rcases List.mem_cons.1 (dedup_mem _ _ hy) with rfl | hy
      · exact hab
      · exact blt_le_trans hab ((List.pairwise_cons.1 h1.2).1 y hy)
theorem getLast_cons_ne {α : Type} (a : α) {l : List α} (h : l ≠ []) : (a :: l).getLast? = l.getLast? := by
  cases l with
  | nil => exact absurd rfl h
  | cons b l => rw [List.getLast?_cons_cons]
theorem look_cons (nm : ByteArray) (p : ByteArray × Val) (l : List (ByteArray × Val)) : look nm (p :: l) = (look nm l).or (if p.1 = nm then some p else none) := by
  unfold look
  rw [List.filter_cons]
  by_cases c : p.1 = nm
  · rw [if_pos (by simp [isName, c]), if_pos c]
    generalize l.filter (isName nm) = m
    cases m with
    | nil => rfl
    | cons b r =>
      rw [List.getLast?_cons_cons]
      cases h : (b :: r).getLast? with
      | none => simp at h
      | some x => rfl
  · rw [if_neg (by simp [isName, c]), if_neg c, Option.or_none]
theorem look_dedup (nm : ByteArray) : ∀ l : List (ByteArray × Val), look nm (dedup l) = look nm l
  | [] => rfl
  | [_] => rfl
  | a :: b :: r => by
    have ih := look_dedup nm (b :: r)
    simp only [dedup]
    split
    · next e =>
      rw [ih, look_cons nm a (b :: r), look_cons nm b r]
      by_cases c : b.1 = nm
      · have c2 : a.1 = nm := by rw [← e]; exact c
        simp only [c, c2, if_true]
        cases look nm r <;> rfl
      · have c2 : ¬ a.1 = nm := by rw [← e]; exact c
        simp only [c2, if_false, Option.or_none]
    · rw [look_cons nm a, ih, look_cons nm a]
theorem strict_mem {l : List (ByteArray × Val)} (h : Strict l) (p : ByteArray × Val) : p ∈ l ↔ look p.1 l = some p := by
  induction l with
  | nil => simp [look]
  | cons a l ih =>
    have h1 := List.pairwise_cons.1 h
    rw [look_cons, List.mem_cons, ih h1.2]
    by_cases c : a.1 = p.1
    · have hn : look p.1 l = none := by
        unfold look
        rw [List.getLast?_eq_none_iff, List.filter_eq_nil_iff]
        intro y hy hy2
        simp only [isName, decide_eq_true_eq] at hy2
        have := h1.1 y hy
        rw [c, hy2, blt_irrefl] at this
        cases this
      simp [hn, c, eq_comm]
    · have : ¬ p = a := fun e => c (by rw [e])
      simp [c, this]
theorem strict_ext {a b : List (ByteArray × Val)} (ha : Strict a) (hb : Strict b) (h : ∀ p, p ∈ a ↔ p ∈ b) : a = b := by
  induction a generalizing b with
  | nil =>
    cases b with
    | nil => rfl
    | cons y b => have := (h y).2 (by simp); simp at this
  | cons x a ih =>
    cases b with
    | nil => have := (h x).1 (by simp); simp at this
    | cons y b =>
      have ha' := List.pairwise_cons.1 ha
      have hb' := List.pairwise_cons.1 hb
      have hxy : x = y := by
        rcases List.mem_cons.1 ((h x).1 (by simp)) with e | hx
        · exact e
        · rcases List.mem_cons.1 ((h y).2 (by simp)) with e | hy
          · exact e.symm
          · have h1 := hb'.1 x hx
            have h2 := ha'.1 y hy
            rw [blt_asymm h1] at h2; cases h2
      subst hxy
      rw [ih ha'.2 hb'.2]
      intro p
      have := h p
      simp only [List.mem_cons] at this
      constructor
      · intro hp
        rcases this.1 (.inr hp) with rfl | h
        · have := ha'.1 p hp; rw [blt_irrefl] at this; cases this
        · exact h
      · intro hp
        rcases this.2 (.inr hp) with rfl | h
        · have := hb'.1 p hp; rw [blt_irrefl] at this; cases this
        · exact h
theorem look_name {nm : ByteArray} {l : List (ByteArray × Val)} {p : ByteArray × Val} (h : look nm l = some p) : p.1 = nm := by
  unfold look at h
  have := List.mem_of_getLast? h
  have := (List.mem_filter.1 this).2
  simpa [isName] using this
theorem strict_look_ext {a b : List (ByteArray × Val)} (ha : Strict a) (hb : Strict b) (h : ∀ nm, look nm a = look nm b) : a = b :=
  strict_ext ha hb fun p => by rw [strict_mem ha, strict_mem hb, h]

theorem putL_true (p : ByteArray × Val) : ∀ l, putL p true l = l.filter (noName p.1)
  | [] => rfl
  | x :: xs => by
    simp only [putL, Bool.not_true, Bool.false_and, Bool.false_eq_true, if_false, List.nil_append, Bool.true_or, putL_true p xs, List.filter_cons, noName]
    by_cases c : x.1 = p.1 <;> simp [c]
theorem putL_ge (p x : ByteArray × Val) (xs : List (ByteArray × Val)) (h : blt x.1 p.1 = false) : putL p false (x :: xs) = p :: (x :: xs).filter (noName p.1) := by
  simp only [putL, h, Bool.not_false, Bool.and_self, if_true, Bool.or_true, putL_true, List.filter_cons, noName]
  by_cases c : x.1 = p.1 <;> simp [c]
theorem putL_lt (p x : ByteArray × Val) (xs : List (ByteArray × Val)) (h : blt x.1 p.1 = true) : putL p false (x :: xs) = x :: putL p false xs := by
  have hne : ¬ x.1 = p.1 := blt_ne h
  simp [putL, h, hne]
theorem putL_mem (p : ByteArray × Val) : ∀ (l : List (ByteArray × Val)) (y : ByteArray × Val), y ∈ putL p false l → y = p ∨ y ∈ l
  | [], y, h => by simp [putL] at h; exact .inl h
  | x :: xs, y, h => by
    cases hb : blt x.1 p.1 with
    | true =>
      rw [putL_lt p x xs hb] at h
      rcases List.mem_cons.1 h with rfl | h
      · simp
      · rcases putL_mem p xs y h with h | h
        · exact .inl h
        · exact .inr (List.mem_cons_of_mem _ h)
    | false =>
      rw [putL_ge p x xs hb] at h
      rcases List.mem_cons.1 h with rfl | h
      · simp
      · exact .inr (List.mem_filter.1 h).1
theorem putL_strict (p : ByteArray × Val) : ∀ l : List (ByteArray × Val), Strict l → Strict (putL p false l)
  | [], _ => List.pairwise_singleton _ _
  | x :: xs, h => by
    have h1 := List.pairwise_cons.1 h
    cases hb : blt x.1 p.1 with
    | true =>
      rw [putL_lt p x xs hb]
      refine List.pairwise_cons.2 ⟨fun y hy => ?_, putL_strict p xs h1.2⟩
      rcases putL_mem p xs y hy with rfl | hy
      · exact hb
      · exact h1.1 y hy
    | false =>
      rw [putL_ge p x xs hb]
      refine List.pairwise_cons.2 ⟨fun y hy => ?_, h.sublist List.filter_sublist⟩
      obtain ⟨hy, hn⟩ := List.mem_filter.1 hy
      have hne : ¬ y.1 = p.1 := by simpa [noName] using hn
      refine blt_of_le ?_ hne
      rcases List.mem_cons.1 hy with rfl | hy
      · exact hb
      · cases hc : blt y.1 p.1 with
        | false => rfl
        | true => have := blt_trans (h1.1 y hy) hc; rw [hb] at this; cases this
theorem putL_filter (p : ByteArray × Val) (nm : ByteArray) : ∀ l : List (ByteArray × Val), (putL p false l).filter (isName nm) = if p.1 = nm then [p] else l.filter (isName nm)
  | [] => by by_cases c : p.1 = nm <;> simp [putL, isName, c]
  | x :: xs => by
    cases hb : blt x.1 p.1 with
    | true =>
      have hne := blt_ne hb
      rw [putL_lt p x xs hb, List.filter_cons, putL_filter p nm xs, List.filter_cons]
      by_cases c : p.1 = nm
      · have : ¬ x.1 = nm := by rw [← c]; exact hne
        simp [c, isName, this]
      · simp [c]
    | false =>
      rw [putL_ge p x xs hb, List.filter_cons, List.filter_filter]
      by_cases c : p.1 = nm
      · rw [if_pos (by simp [isName, c]), if_pos c]
        congr 1
        rw [List.filter_eq_nil_iff]
        intro y _ hy
        simp [noName, isName, c] at hy
      · rw [if_neg (by simp [isName, c]), if_neg c]
        refine List.filter_congr fun y _ => ?_
        by_cases d : y.1 = nm
        · have : ¬ nm = p.1 := fun e => c e.symm
          simp [noName, isName, d, this]
        · simp [isName, d]
theorem mapL_snoc (l : List (ByteArray × Val)) (p : ByteArray × Val) : mapL (l ++ [p]) = putL p false (mapL l) := by
  unfold mapL; rw [List.foldl_append]; rfl
theorem mapL_props (l : List (ByteArray × Val)) : ∀ n, l.length = n → Strict (mapL l) ∧ ∀ nm, look nm (mapL l) = look nm l := by
  intro n
  induction n generalizing l with
  | zero => intro h; have := List.length_eq_zero_iff.1 h; subst this; exact ⟨List.Pairwise.nil, fun _ => rfl⟩
  | succ n ih =>
    intro h
    rcases Srt.snoc_cases l with rfl | ⟨l0, p, rfl⟩
    · simp at h
    · obtain ⟨h1, h2⟩ := ih l0 (by simpa using h)
      rw [mapL_snoc]
      refine ⟨putL_strict p _ h1, fun nm => ?_⟩
      unfold look
      rw [putL_filter, List.filter_append]
      by_cases c : p.1 = nm
      · simp [c, isName]
      · have := h2 nm
        unfold look at this
        simp [c, isName] at this ⊢
        exact this
theorem mapL_strict (l : List (ByteArray × Val)) : Strict (mapL l) := (mapL_props l _ rfl).1
theorem look_mapL (nm : ByteArray) (l : List (ByteArray × Val)) : look nm (mapL l) = look nm l := (mapL_props l _ rfl).2 nm
theorem mapL_id {l : List (ByteArray × Val)} (h : Strict l) : mapL l = l := strict_look_ext (mapL_strict l) h fun nm => look_mapL nm l
theorem mapL_mem {l : List (ByteArray × Val)} {p : ByteArray × Val} (h : p ∈ mapL l) : p ∈ l := by
  rw [strict_mem (mapL_strict l), look_mapL] at h
  unfold look at h
  exact (List.mem_filter.1 (List.mem_of_getLast? h)).1

theorem eqv_name (k y : ByteArray × Val) : Srt.eqv fltB k y = isName k.1 y := by
  unfold Srt.eqv isName fltB
  rcases blt_total k.1 y.1 with h | h | h
  · have := blt_ne h
    rw [h]
    simp only [Bool.not_true, Bool.false_and]
    symm; simpa using fun e => this e.symm
  · rw [h, blt_irrefl]; simp
  · have := blt_ne h
    rw [h]
    simp [this]
theorem dedup_sort {l r : List (ByteArray × Val)} (h1 : Srt.Sorted fltB r) (h2 : Srt.Stab fltB l r) : dedup r = mapL l := by
  refine strict_look_ext (dedup_strict r h1) (mapL_strict l) fun nm => ?_
  rw [look_dedup, look_mapL]
  have := h2.2 (nm, zeroVal)
  have e : Srt.eqv fltB (nm, zeroVal) = isName nm := funext fun y => eqv_name _ y
  rw [e] at this
  unfold look
  rw [this]
end Go.CT.Defs

namespace Go.CT.Defs
open Go.Proofs

theorem massFs_putL (p : ByteArray × Val) : ∀ l, massFs (putL p false l) ≤ massFs l + massFs [p]
  | [] => by simp [putL, massFs_nil]
  | x :: xs => by
    cases hb : blt x.1 p.1 with
    | true =>
      have := massFs_putL p xs
      rw [putL_lt p x xs hb, massFs_cons, massFs_cons x xs]; omega
    | false =>
      have := massFs_filter (noName p.1) (x :: xs)
      rw [putL_ge p x xs hb, massFs_cons, massFs_cons p [], massFs_nil]; omega
theorem massFs_mapL (l : List (ByteArray × Val)) : massFs (mapL l) ≤ massFs l := by
  have : ∀ n (l : List (ByteArray × Val)), l.length = n → massFs (mapL l) ≤ massFs l := by
    intro n
    induction n with
    | zero => intro l h; have := List.length_eq_zero_iff.1 h; subst this; exact Nat.le_refl _
    | succ n ih =>
      intro l h
      rcases Srt.snoc_cases l with rfl | ⟨l0, p, rfl⟩
      · simp at h
      · have h1 := ih l0 (by simpa using h)
        have h2 := massFs_putL p (mapL l0)
        rw [mapL_snoc, massFs_append]; omega
  exact this _ l rfl
/-- A map. -/
def mapV (l : List (ByteArray × Val)) : Val := ⟨5, 0, emptyB, [], mapL l⟩
theorem mapV_mass (l : List (ByteArray × Val)) : (mapV l).mass ≤ 6 + massFs l := by
  have := massFs_mapL l
  rw [Val.mass_eq]
  simp only [mapV, Val.s_mk, Val.l_mk, Val.f_mk, massVs_nil, show emptyB.size = 0 from rfl]; omega

theorem val_map_1W (r : List (ByteArray × Val)) (hr : r.length ≤ 1099511627775) (y2 y3 y4 : IV) : ∀ (n i : Nat) (acc : List (ByteArray × Val)), i + n = r.length → acc.length ≤ i → WideF 1073741824 (acc ++ dedup (r.drop i)) →
    W f_value_Map 1 [.int r.length, .int i, y2, y3, y4, Srt.LE Fld.enc r, .int 5, .int 0, .str ⟨#[]⟩, .list (acc.map Fld.enc)] = some (Val.comps ⟨5, 0, emptyB, [], acc ++ dedup (r.drop i)⟩)
  | 0, i, acc, h, ha, hm => by
    rw [e_f_value_Map_1]
    have h1 : ¬ i < r.length := by omega
    have e0 : r.drop i = [] := List.drop_of_length_le (by omega)
    rw [e0] at hm ⊢
    rw [show dedup [] = [] from rfl, List.append_nil] at hm
    have hc := val_cloneW ⟨5, 0, emptyB, [], acc⟩ (.mk _ (Nat.zero_le _) hm.1 (by simp) hm.2)
    have e : IV.agg [.int 5, .int 0, .str ⟨#[]⟩, .list [], .list (acc.map Fld.enc)] = Val.enc ⟨5, 0, emptyB, [], acc⟩ := by
      rw [← Val.fold]; rfl
    simp only [O.lt_int, lt_cast, h1, decide_false, Option.bind_some, O.cnd_bool, Bool.false_eq_true, if_false, O.mkagg_eq, e, hc, Val.comps_eq, O.calls_5, dedup, List.append_nil]
  | n + 1, i, acc, h, ha, hm => by
    have hi : i < r.length := by omega
    have hw := next64 (i := i) (by omega)
    have hap : (acc.length + 1) * 96 ≤ maxBytes := app_ok (by omega) (by omega)
    have gi := Srt.idx Fld.enc (List.getElem?_eq_getElem hi)
    rw [e_f_value_Map_1]
    have hd := List.drop_eq_getElem_cons hi
    by_cases c : i + 1 = r.length
    · have c' : ((i + 1 : Nat) : Int) = (r.length : Int) := by omega
      have e1 : r.drop (i + 1) = [] := List.drop_of_length_le (by omega)
      have ih := val_map_1W r hr y2 y3 y4 n (i + 1) (acc ++ [r[i]]) (by omega) (by simp; omega) (by
        rw [e1]; rw [hd, e1] at hm
        simpa [dedup] using hm)
      simp only [e1, List.map_append, List.map_cons, List.map_nil] at ih
      rw [hd, e1]
      simp only [O.lt_int, lt_cast, hi, decide_true, Option.bind_some, O.cnd_bool, if_true, gi, O.add_int, hw, Srt.len, O.eq_int, c', O.mklist_eq, O.append_list, List.length_map, List.length_singleton, hap, e_f_value_Map_2]
      rw [c'] at ih
      rw [ih]
      simp [dedup]
    · have hi2 : i + 1 < r.length := by omega
      have c' : ¬ ((i + 1 : Nat) : Int) = (r.length : Int) := by omega
      have gi2 := Srt.idx Fld.enc (List.getElem?_eq_getElem hi2)
      have hd2 := List.drop_eq_getElem_cons hi2
      by_cases d : r[i + 1].1 = r[i].1
      · have ih := val_map_1W r hr y2 y3 y4 n (i + 1) acc (by omega) (by omega) (by
          rw [hd, hd2] at hm; rw [hd2]
          simp only [dedup, d, if_true] at hm
          exact hm)
        rw [hd2] at ih
        rw [hd, hd2]
        simp only [O.lt_int, lt_cast, hi, decide_true, Option.bind_some, O.cnd_bool, if_true, gi, O.add_int, hw, Srt.len, O.eq_int, c', decide_false, Bool.false_eq_true, if_false, gi2, Fld.proj0, O.sNe_str, d, Bool.not_true, e_f_value_Map_2, dedup, ih]
      · have ih := val_map_1W r hr y2 y3 y4 n (i + 1) (acc ++ [r[i]]) (by omega) (by simp; omega) (by
          rw [hd, hd2] at hm; rw [hd2]
          simp only [dedup, d, if_false] at hm
          simpa using hm)
        rw [hd2] at ih
        simp only [List.map_append, List.map_cons, List.map_nil, List.append_assoc, List.singleton_append] at ih
        rw [hd, hd2]
        simp only [O.lt_int, lt_cast, hi, decide_true, Option.bind_some, O.cnd_bool, if_true, gi, O.add_int, hw, Srt.len, O.eq_int, c', decide_false, Bool.false_eq_true, if_false, gi2, Fld.proj0, O.sNe_str, d, Bool.not_false, O.mklist_eq, O.append_list, List.length_map, List.length_singleton, hap, e_f_value_Map_2, dedup, ih]
theorem putL_len1 (p : ByteArray × Val) (l : List (ByteArray × Val)) : (putL p false l).length ≤ l.length + 1 := putL_len p l false
theorem mapL_len (l : List (ByteArray × Val)) : (mapL l).length ≤ l.length := by
  have : ∀ n (l : List (ByteArray × Val)), l.length = n → (mapL l).length ≤ n := by
    intro n
    induction n with
    | zero => intro l h; have := List.length_eq_zero_iff.1 h; subst this; exact Nat.le_refl _
    | succ n ih =>
      intro l h
      rcases Srt.snoc_cases l with rfl | ⟨l0, p, rfl⟩
      · simp at h
      · have h1 := ih l0 (by simpa using h)
        have h2 := putL_len p (mapL l0) false
        rw [mapL_snoc]; omega
  exact this _ l rfl
theorem mapL_wide {N : Nat} {l : List (ByteArray × Val)} (h : WideF N l) : WideF N (mapL l) :=
  ⟨Nat.le_trans (mapL_len l) h.1, fun p hp => h.2 p (mapL_mem hp)⟩
theorem val_mapW (l : List (ByteArray × Val)) (hl : WideF 1073741824 l) : W f_value_Map 0 [.list (l.map Fld.enc)] = some (mapV l).comps := by
  have h6 := hl.1
  obtain ⟨r, h1, h2, h3⟩ := Srt.sort ford feqs l (by omega)
  have hc : (l.map Fld.enc).length ≤ 1073741824 := by rw [List.length_map]; omega
  rw [e_f_value_Map_0]
  have h3' : W f_slices_SortStableFunc 0 [.list (l.map Fld.enc)] = some [Srt.LE Fld.enc r] := h3
  have hlen : r.length = l.length := h2.1.symm
  have h4 := val_map_1W r (by omega) (.int 0) (.int 0) (.str ⟨#[]⟩) r.length 0 [] (by omega) (by simp) (by
    rw [List.drop_zero, List.nil_append, dedup_sort h1 h2]; exact mapL_wide hl)
  simp only [List.drop_zero, Int.cast_ofNat_Int, List.map_nil, List.nil_append, dedup_sort h1 h2] at h4
  simp only [e_f_slices_Clone_v2, cloneF_list hc, O.calls_1, h3', Srt.len, Option.bind_some]
  exact h4
theorem val_map (l : List (ByteArray × Val)) (hl : massFs l ≤ 4294967200) : W f_value_Map 0 [.list (l.map Fld.enc)] = some (mapV l).comps := val_mapW l (wideF_mass (by omega))
theorem val_withW (v : Val) (nm : ByteArray) (x : Val) (hv : Wide 1073741823 v) (hx : Wide 1073741823 x) : W f_value_With 0 [v.enc, .str nm, x.enc] = some (withV v nm x).comps := by
  have ho := others_wide hv nm
  have h6 := ho.1
  have hm := val_mapW (othersF v nm ++ [(nm, x)]) ⟨by simp; omega, fun p hp => by
    rcases List.mem_append.1 hp with h | h
    · exact (ho.2 p h).mono (by omega)
    · simp at h; subst h; exact hx.mono (by omega)⟩
  have hap : ((othersF v nm).length + 1) * 96 ≤ maxBytes := app_ok (by omega) (by omega)
  simp only [List.map_append, List.map_cons, List.map_nil] at hm
  rw [e_f_value_With_0]
  simp only [val_othersW v nm (hv.mono (by omega)), O.calls_1, Val.proj0, Val.proj1, Val.proj2, Val.proj3, Val.proj4, Option.bind_some, O.mkagg_eq, Fld.fold_eta, O.mklist_eq, O.append_list, List.length_map, List.length_singleton, hap, if_true, hm, Val.comps_eq, O.calls_5]
  rfl
end Go.CT.Defs
