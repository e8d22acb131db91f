import Derived.Test.YtfhkcifopfheaaaGreatDoorChangesPrA
import Derived.Test.YtfhkcifopfheaaaGreatDoorCtD
import Derived.Test.YtfhkcifopfheaaaGreatDoorCtC
set_option linter.unusedVariables false
set_option linter.unusedSimpArgs false
namespace Go.CT.Sch
open Go.Proofs
theorem pg_pres (v : Val) (nm : ByteArray) (hv : v.mass ≤ 1048576) : W F76 0 [v.enc, .str nm] = some [.int ((v.get nm).getD zeroVal).k, .int ((v.get nm).getD zeroVal).n, .str ((v.get nm).getD zeroVal).s, .list (((v.get nm).getD zeroVal).l.map Val.enc), .list (((v.get nm).getD zeroVal).f.map Fld.enc), .bool (isHere v nm)] := by
 obtain ⟨w, h1, rfl⟩ := pg_present v nm hv
 exact h1
theorem pg_kindex_1 (s : Sch) (l : List Val) (k : ByteArray) (hl : l.length ≤ 1099511627776) (hm : ∀ x ∈ l, x.mass ≤ 1048576) : ∀ (n i : Nat), i + n = l.length →
  ∃ r : Int, W F160 1 [.list (l.map Val.enc), s.enc, .str k, .int l.length, .int i] = some [.int r] ∧
   ((((l.drop i).find? fun y => isKey y s.key && decide (keyB y s.key = k)) = none ∧ r < 0) ∨ (∃ (j : Nat) (u : Val), r = j ∧ l[j]? = some u ∧ ((l.drop i).find? fun y => isKey y s.key && decide (keyB y s.key = k)) = some u))
 | 0, i, h => by
  rw [e_F160_1]
  have h1 : ¬ i < l.length := by omega
  refine ⟨-1, by simp [h1], .inl ⟨by simp [List.drop_of_length_le (Nat.le_of_not_lt h1)], by omega⟩⟩
 | n + 1, i, h => by
  have hi : i < l.length := by omega
  have hw := next64 (i := i) (by omega)
  obtain ⟨r, hr, h2⟩ := pg_kindex_1 s l k hl hm n (i + 1) (by omega)
  have hc : W F161 0 [l[i].enc, s.enc, .str k] = some [.bool (isKey l[i] s.key && decide (keyB l[i] s.key = k))] := by
   rw [e_F161_0]
   simp only [Sch.proj4, Option.bind_some, pg_key l[i] s.key (hm _ (List.getElem_mem hi)), O.calls_2, O.sEq_str, O.cnd_bool, ite_some, ite_ivbool]
   cases isKey l[i] s.key <;> simp
  rw [e_F160_1, List.drop_eq_getElem_cons hi, List.find?_cons]
  simp only [O.lt_int, lt_cast, hi, decide_true, Option.bind_some, O.cnd_bool, if_true, O.index_list, Int.natCast_nonneg, Int.toNat_natCast, List.getElem?_map, List.getElem?_eq_getElem hi, Option.map_some, hc, O.calls_1, O.add_int, hw, hr]
  cases c : (isKey l[i] s.key && decide (keyB l[i] s.key = k)) with
  | true => exact ⟨i, by simp, .inr ⟨i, l[i], rfl, by simp [hi], rfl⟩⟩
  | false => exact ⟨r, by simp, h2⟩
theorem pg_kindex (s : Sch) (l : List Val) (k : ByteArray) (hne : s.key ≠ emptyB) (hl : l.length ≤ 1099511627776) (hm : ∀ x ∈ l, x.mass ≤ 1048576) :
  ∃ r : Int, W F160 0 [.list (l.map Val.enc), s.enc, .str k] = some [.int r] ∧
   ((l.find? (sameKey s.key k) = none ∧ r < 0) ∨ (∃ (j : Nat) (u : Val), r = j ∧ l[j]? = some u ∧ l.find? (sameKey s.key k) = some u)) := by
 obtain ⟨r, hr, h2⟩ := pg_kindex_1 s l k hl hm l.length 0 (by omega)
 have e : (fun y => isKey y s.key && decide (keyB y s.key = k)) = sameKey s.key k := by
  funext y
  unfold sameKey hasKey
  have : decide (s.key = emptyB) = false := by simpa using hne
  rw [this]; simp
 simp only [List.drop_zero] at h2
 rw [e] at h2
 refine ⟨r, ?_, h2⟩
 rw [e_F160_0]
 simp only [O.len_list, List.length_map, Option.bind_some]
 exact hr
def PgC (v : Val) : Prop := v.valid = true → v.mass ≤ 1048576 → ∀ (s : Sch) (b : Val) (p : List Stp) (out : List IV), SB s → s.mass ≤ 1048576 → b.mass ≤ 1048576 → (∀ x ∈ p, x.fits) → p.length + v.mass ≤ 1073741824 → out.length + v.size ≤ 4398046511103 →
 W F151 0 [.list out, s.enc, v.enc, b.enc, .list (p.map Stp.enc)] = some [.list (out ++ (chgs v s b p).map FE.enc)]
theorem pg_cmp_4 (s t : Sch) (v b : Val) (p : List Stp) (hvv : v.valid = true) (hv : v.mass ≤ 1048576) (hs : s.mass ≤ 1048576) (hb : b.mass ≤ 1048576) (ht : s.it = [t]) (hne : s.key ≠ emptyB) (hsb : SB s) (hp : ∀ s ∈ p, s.fits) (hl : p.length + v.mass ≤ 1073741824)
  (ih : ∀ x ∈ v.l, PgC x) : ∀ (n i : Nat) (out : List IV) (m : List (ByteArray × Bool)), i + n = v.l.length → out.length + sizeVs (v.l.drop i) ≤ 4398046511103 →
  (∀ k, (mlook m k).getD false = (v.l.take i).any (sameKey s.key k)) →
  W F151 4 [.list (p.map Stp.enc), .list (v.l.map Val.enc), .int v.l.length, .int i, s.enc, b.enc, .list (encM m), .list out] = some [.list (out ++ (chgsL (v.l.drop i) s.key t b p (v.l.take i)).map FE.enc)]
 | 0, i, out, m, h, ho, hM => by
  have h1 : ¬ i < v.l.length := by omega
  rw [e_F151_4, List.drop_of_length_le (by omega), chgsL_nil]
  simp only [O.lt_int, lt_cast, h1, decide_false, Option.bind_some, O.cnd_bool, Bool.false_eq_true, if_false, List.map_nil, List.append_nil]
 | n + 1, i, out, m, h, ho, hM => by
  have hi : i < v.l.length := by omega
  have hm := v.mass_len_l
  have hmb := b.mass_len_l
  have hw := next64 (i := i) (by omega)
  have hmem := List.getElem_mem hi
  have hx := Val.mass_l hmem
  have htm : t ∈ s.it := by rw [ht]; simp
  have htmass := Sch.mass_it htm
  have hkey := s.mass_key
  have hd := List.drop_eq_getElem_cons hi
  rw [hd] at ho ⊢
  rw [chgsL_cons]
  have hti : (v.l.take i).length = i := by simp; omega
  have htk : v.l.take i ++ [v.l[i]] = v.l.take (i + 1) := by simp
  rw [htk]
  simp only [sizeVs] at ho
  have hq := fits_snoc hp (elStp_fits s.key v.l[i] i (by omega) (by omega))
  obtain ⟨r, hr, hr2⟩ := pg_kindex s b.l (keyB v.l[i] s.key) hne (by omega) (fun x hx => by have := Val.mass_l hx; omega)
  have hany : ∀ k, (v.l.take (i + 1)).any (sameKey s.key k) = ((v.l.take i).any (sameKey s.key k) || sameKey s.key k v.l[i]) := by
   intro k; rw [← htk, List.any_append]; simp
  have hkk : hasKey v.l[i] s.key = isKey v.l[i] s.key := by
   unfold hasKey
   have : decide (s.key = emptyB) = false := by simpa using hne
   rw [this]; simp
  have go : ∀ (e : List (ByteArray × Int)) (m' : List (ByteArray × Bool)), e.length ≤ v.l[i].size → (∀ k, (mlook m' k).getD false = (v.l.take (i + 1)).any (sameKey s.key k)) →
    W F151 5 [.list (p.map Stp.enc), .list (v.l.map Val.enc), .int v.l.length, .int i, s.enc, b.enc, .list (encM m'), .list (out ++ e.map FE.enc)] = some [.list (out ++ (e ++ chgsL (v.l.drop (i + 1)) s.key t b p (v.l.take (i + 1))).map FE.enc)] := by
   intro e m' he hM'
   rw [e_F151_5]
   simp only [O.add_int, hw, Option.bind_some]
   rw [pg_cmp_4 s t v b p hvv hv hs hb ht hne hsb hp hl ih n (i + 1) _ m' (by omega) (by rw [List.length_append, List.length_map]; omega) hM', List.map_append, List.append_assoc]
  rw [e_F151_4]
  simp only [O.lt_int, lt_cast, hi, decide_true, Option.bind_some, O.cnd_bool, if_true, O.index_list, Int.natCast_nonneg, Int.toNat_natCast, List.getElem?_map, List.getElem?_eq_getElem hi, Option.map_some, Sch.proj4, pg_key v.l[i] s.key (by omega), O.calls_2, mget_enc, mhas_enc, hM]
  unfold chgL1
  cases hdup : (v.l.take i).any (sameKey s.key (keyB v.l[i] s.key)) with
  | true =>
   have hM' : ∀ k, (mlook m k).getD false = (v.l.take (i + 1)).any (sameKey s.key k) := by
    intro k
    rw [hM, hany]
    cases hs : sameKey s.key k v.l[i] with
    | false => simp
    | true =>
     unfold sameKey at hs
     simp only [Bool.and_eq_true, decide_eq_true_eq] at hs
     rw [← hs.2, hdup]; rfl
   have := go [] m (by simp) hM'
   simp only [List.map_nil, List.append_nil, List.nil_append] at this
   simp only [Bool.not_true, Bool.and_false, Bool.false_eq_true, if_false, if_true]
   have zeroE : ∀ e : List (ByteArray × Int), e = [] → W F151 5 [.list (p.map Stp.enc), .list (v.l.map Val.enc), .int v.l.length, .int i, s.enc, b.enc, .list (encM m), .list out] = some [.list (out ++ (e ++ chgsL (v.l.drop (i + 1)) s.key t b p (v.l.take (i + 1))).map FE.enc)] := by
    intro e he
    rw [he, List.nil_append]; exact this
   exact zeroE _ (by split <;> rfl)
  | false =>
   have hM' : ∀ k, (mlook (mputB (keyB v.l[i] s.key) (isKey v.l[i] s.key) m) k).getD false = (v.l.take (i + 1)).any (sameKey s.key k) := by
    intro k
    rw [mlook_put, hany]
    by_cases c : keyB v.l[i] s.key = k
    ·subst c
     rw [if_pos rfl, hdup]
     unfold sameKey
     rw [hkk]; simp
    ·rw [if_neg c, hM]
     unfold sameKey
     simp [c]
   simp only [Bool.false_eq_true, if_false, O.pick_bool, Option.bind_some, mset_enc, Val.proj3, hr, O.calls_1, O.ge_int, ite_some, ite_ivbool]
   have zero : ∀ e : List (ByteArray × Int), e = [] → W F151 6 [.list (p.map Stp.enc), .list (v.l.map Val.enc), .int v.l.length, .int i, s.enc, b.enc, .list (encM (mputB (keyB v.l[i] s.key) (isKey v.l[i] s.key) m)), .list out] = some [.list (out ++ (e ++ chgsL (v.l.drop (i + 1)) s.key t b p (v.l.take (i + 1))).map FE.enc)] := by
    intro e he
    have := go [] _ (by simp) hM'
    rw [e_F151_6, he]
    simp only [List.map_nil, List.append_nil] at this
    exact this
   rcases hr2 with ⟨h3, h4⟩ | ⟨j, u, rfl, h4, h5⟩
   ·have h4' : ¬ (0 : Int) ≤ r := by omega
    rw [h3]
    simp only [h4', decide_false, ite_self, O.cnd_bool, Option.bind_some, Bool.false_eq_true, if_false]
    exact zero [] rfl
   ·rw [h5]
    simp only [Int.natCast_nonneg, decide_true]
    cases hik : isKey v.l[i] s.key with
    | false =>
     rw [hik] at zero
     simp only [Bool.false_eq_true, if_false, O.cnd_bool, Option.bind_some]
     exact zero _ (by rw [hkk, hik]; simp)
    | true =>
     rw [hik] at hM'
     have hum := Val.mass_l (List.mem_of_find?_eq_some h5)
     have he := ih _ hmem (valid_l hvv hmem) (by omega) t u (p ++ [elStp s.key v.l[i] i]) out (hsb.mem_it htm) (by omega) (by omega) hq (by simp; omega) (by omega)
     have hel := chgs_len v.l[i] t u (p ++ [elStp s.key v.l[i] i])
     have := go _ _ hel hM'
     simp only [if_true, O.cnd_bool, Option.bind_some, Sch.proj5, ht, List.map_cons, List.map_nil, O.index_list, Int.le_refl, Int.toNat_zero, List.getElem?_cons_zero, Int.natCast_nonneg, Int.toNat_natCast, List.getElem?_map, h4, Option.map_some, pg_element' s v.l[i] i (by omega), O.calls_1, pg_then p (elStp s.key v.l[i] i) (by omega), he, e_F151_6, hkk, hik, Bool.not_false, Bool.and_self, hti]
     exact this
theorem pg_cmp_1 (s : Sch) (v b : Val) (p : List Stp) (hvv : v.valid = true) (hk : v.k = s.k) (hv : v.mass ≤ 1048576) (hs : s.mass ≤ 1048576) (hb : b.mass ≤ 1048576) (hsb : SB s) (hp : ∀ s ∈ p, s.fits) (hl : p.length + v.mass ≤ 1073741824)
  (ih : ∀ x ∈ v.f, PgC x.2) : ∀ (n i : Nat) (out : List IV), i + n = v.f.length → out.length + sizeFs (v.f.drop i) ≤ 4398046511103 →
  W F151 1 [.list (p.map Stp.enc), .list (v.f.map Fld.enc), .int v.f.length, .int i, s.enc, v.enc, b.enc, .list out]
   = W F151 1 [.list (p.map Stp.enc), .list (v.f.map Fld.enc), .int v.f.length, .int v.f.length, s.enc, v.enc, b.enc, .list (out ++ (chgsF (v.f.drop i) s b p).map FE.enc)]
 | 0, i, out, h, ho => by
  have h1 : i = v.f.length := by omega
  subst h1
  rw [List.drop_of_length_le (Nat.le_refl _), chgsF_nil, List.map_nil, List.append_nil]
 | n + 1, i, out, h, ho => by
  have hi : i < v.f.length := by omega
  have hm := v.mass_len_f
  have hw := next64 (i := i) (by omega)
  have hmem := List.getElem_mem hi
  have hx := Val.mass_f hmem
  have hxp := v.f[i].2.size_pos
  have hg := get_of_mem hvv hmem
  have k5 : s.k = 5 := by
   have := (mem_of_get hg).2
   omega
  have hd := List.drop_eq_getElem_cons hi
  rw [hd] at ho ⊢
  rw [chgsF_cons]
  simp only [sizeFs] at ho
  have hq := fits_snoc hp (fldStp_fits v.f[i].1 (by omega))
  have hpr := pg_pres v v.f[i].1 (by omega)
  have hprb := pg_pres b v.f[i].1 (by omega)
  have hfd := pg_field s v.f[i].1 (by omega)
  have hth := pg_then p (fldStp v.f[i].1) (by omega)
  have hh : isHere v v.f[i].1 = !decide (v.f[i].2.k = 0) := isHere_get hg
  rw [hg, Option.getD_some] at hpr
  have go : ∀ e : List (ByteArray × Int), e.length ≤ v.f[i].2.size → W F151 2 [.list (p.map Stp.enc), .list (v.f.map Fld.enc), .int v.f.length, .int i, s.enc, v.enc, b.enc, .list (out ++ e.map FE.enc)]
    = W F151 1 [.list (p.map Stp.enc), .list (v.f.map Fld.enc), .int v.f.length, .int v.f.length, s.enc, v.enc, b.enc, .list (out ++ (e ++ chgsF (v.f.drop (i + 1)) s b p).map FE.enc)] := by
   intro e he
   rw [e_F151_2]
   simp only [O.add_int, hw, Option.bind_some]
   rw [pg_cmp_1 s v b p hvv hk hv hs hb hsb hp hl ih n (i + 1) _ (by omega) (by rw [List.length_append, List.length_map]; omega), List.map_append, List.append_assoc]
  have zero : W F151 2 [.list (p.map Stp.enc), .list (v.f.map Fld.enc), .int v.f.length, .int i, s.enc, v.enc, b.enc, .list out]
    = W F151 1 [.list (p.map Stp.enc), .list (v.f.map Fld.enc), .int v.f.length, .int v.f.length, s.enc, v.enc, b.enc, .list (out ++ ([] ++ chgsF (v.f.drop (i + 1)) s b p).map FE.enc)] := by
   have := go [] (by simp)
   simp only [List.map_nil, List.append_nil] at this
   exact this
  have rec' : ∀ (t : Sch) (y : Val), SB t → t.mass ≤ 1048576 → y.mass ≤ 1048576 → W F151 0 [.list out, t.enc, v.f[i].2.enc, y.enc, .list ((p ++ [fldStp v.f[i].1]).map Stp.enc)] = some [.list (out ++ (chgs v.f[i].2 t y (p ++ [fldStp v.f[i].1])).map FE.enc)] :=
   fun t y h1 h2 h3 => ih _ hmem (valid_f hvv hmem).1 (by omega) t y _ out h1 h2 h3 hq (by simp; omega) (by omega)
  conv => lhs; rw [e_F161]
  simp only [O.lt_int, lt_cast, hi, decide_true, Option.bind_some, O.cnd_bool, if_true, O.index_list, Int.natCast_nonneg, Int.toNat_natCast, List.getElem?_map, List.getElem?_eq_getElem hi, Option.map_some, Fld.proj0, hpr, calls_6, O.not_bool, hh, Bool.not_not]
  unfold chg1
  by_cases k0 : v.f[i].2.k = 0
  ·simp only [k0, decide_true, if_true]
   have zeroE : ∀ e : List (ByteArray × Int), e = [] → W F151 2 [.list (p.map Stp.enc), .list (v.f.map Fld.enc), .int v.f.length, .int i, s.enc, v.enc, b.enc, .list out]
     = W F151 1 [.list (p.map Stp.enc), .list (v.f.map Fld.enc), .int v.f.length, .int v.f.length, s.enc, v.enc, b.enc, .list (out ++ (e ++ chgsF (v.f.drop (i + 1)) s b p).map FE.enc)] := by
    intro e he
    rw [he]; exact zero
   exact zeroE _ (by split <;> rfl)
  ·simp only [k0, decide_false, Bool.false_eq_true, if_false, hprb, calls_6, pg_member, O.calls_1, hth, hfd, O.calls_2, SFld.proj2, O.cnd_bool, ite_some, ite_ivbool, Option.bind_some, O.mkagg_eq, Val.fold_eta, O.pick_bool, SFld.projS, Sch.proj5, pg_dict s, k5, true_and, decide_true, Bool.true_and]
   have yb : ∀ y, b.get v.f[i].1 = some y → y.mass ≤ 1048576 := fun y hy => by have := Val.mass_f (mem_of_get hy).1; simp only at this; omega
   cases hit : s.it with
   | cons t r =>
    have htm : t ∈ s.it := by rw [hit]; simp
    have htmass := Sch.mass_it htm
    have hsub : subS s v.f[i].1 = some t := by unfold subS; rw [hit]
    have him : immB s v.f[i].1 = false := by unfold immB; rw [hit]; simp
    simp only [hsub, him, List.length_cons, show ¬ (r.length + 1 = 0) by omega, decide_false, Bool.false_and, Bool.false_eq_true, if_false, show 0 < r.length + 1 by omega, decide_true, List.map_cons, O.index_list, Int.le_refl, if_true, Int.toNat_zero, List.getElem?_cons_zero, Option.bind_some, O.cnd_bool]
    cases hbh : isHere b v.f[i].1 with
    | false =>
     simp only [Bool.false_eq_true, if_false, O.cnd_bool, Option.bind_some, ite_self, e_F151_3]
     exact zero
    | true =>
     obtain ⟨y, hy, _⟩ := here_get hbh
     have hel := chgs_len v.f[i].2 t y (p ++ [fldStp v.f[i].1])
     simp only [hy, Option.getD_some, if_true, O.cnd_bool, Option.bind_some, Bool.false_eq_true, if_false, O.calls_1, rec' t y (hsb.mem_it htm) (by omega) (yb y hy), e_F151_3]
     exact go _ hel
   | nil =>
    simp only [List.length_nil, decide_true, Bool.true_and, if_true, Nat.lt_irrefl, decide_false]
    cases hfl : s.fld v.f[i].1 with
    | none =>
     have hsub : subS s v.f[i].1 = none := by unfold subS; rw [hit, hfl]; rfl
     simp only [hsub, Option.isSome_none, Bool.false_eq_true, if_false, O.cnd_bool, Option.bind_some, ite_self, O.calls_1, e_F151_3]
     exact zero
    | some d =>
     have hdm := (fld_mem hfl).1
     have hds := Sch.mass_f hdm
     have hsub : subS s v.f[i].1 = some d.s := by unfold subS; rw [hit, hfl]; rfl
     have him : immB s v.f[i].1 = d.im := by unfold immB; rw [hit, hfl]; simp
     simp only [hsub, him, Option.isSome_some, Option.getD_some, if_true, O.cnd_bool, Option.bind_some]
     cases hdi : d.im with
     | true =>
      have hap := pg_add out (p ++ [fldStp v.f[i].1]) 13 hq (by simp; omega) (by omega)
      have one : W F151 2 [.list (p.map Stp.enc), .list (v.f.map Fld.enc), .int v.f.length, .int i, s.enc, v.enc, b.enc, .list (out ++ [errAt (p ++ [fldStp v.f[i].1]) 13])]
        = W F151 1 [.list (p.map Stp.enc), .list (v.f.map Fld.enc), .int v.f.length, .int v.f.length, s.enc, v.enc, b.enc, .list (out ++ ([(printB (p ++ [fldStp v.f[i].1]), (13 : Int))] ++ chgsF (v.f.drop (i + 1)) s b p).map FE.enc)] :=
       go [(printB (p ++ [fldStp v.f[i].1]), 13)] (by simp; omega)
      simp only [if_true]
      cases hbh : isHere b v.f[i].1 with
      | false =>
       unfold oldE
       simp only [hbh, Bool.not_false, if_true, O.cnd_bool, Option.bind_some, hap, O.calls_1, e_F151_3, Bool.false_and, Bool.false_eq_true, if_false]
       exact one
      | true =>
       obtain ⟨y, hy, _⟩ := here_get hbh
       have heq := pv_equal v.f[i].2 y (by omega)
       rw [oldE_here hbh hy]
       simp only [hy, Option.getD_some, Bool.not_true, Bool.false_eq_true, if_false, heq, O.calls_1, O.not_bool, Option.bind_some, O.cnd_bool]
       by_cases c : v.f[i].2 = y
       ·simp only [c, decide_true, Bool.not_true, Bool.false_eq_true, if_false, if_true, e_F151_3]
        exact zero
       ·simp only [c, decide_false, Bool.not_false, if_true, if_false, hap, O.calls_1, e_F151_3]
        exact one
     | false =>
      simp only [Bool.false_eq_true, if_false]
      cases hbh : isHere b v.f[i].1 with
      | false =>
       simp only [Bool.false_eq_true, if_false, O.cnd_bool, Option.bind_some, ite_self, e_F151_3]
       exact zero
      | true =>
       obtain ⟨y, hy, _⟩ := here_get hbh
       have hel := chgs_len v.f[i].2 d.s y (p ++ [fldStp v.f[i].1])
       simp only [hy, Option.getD_some, if_true, O.cnd_bool, Option.bind_some, Bool.false_eq_true, if_false, O.calls_1, rec' d.s y (hsb.mem_f hdm) (by omega) (yb y hy), e_F151_3]
       exact go _ hel
theorem pg_chg : ∀ v : Val, PgC v := by
 refine Val.ind fun v ih1 ih2 hvv hv s b p out hsb hs hb hp hl ho => ?_
 have hsz := v.size_eq
 rw [e_F151_0, chgs_eq]
 simp only [Val.proj0, Sch.proj0, Option.bind_some, O.ne_int, O.cnd_bool, ite_some, ite_ivbool]
 by_cases k1 : v.k = s.k
 ·by_cases k2 : b.k = s.k
  ·have h1 := pg_cmp_1 s v b p hvv k1 hv hs hb hsb hp hl ih2 v.f.length 0 out (by omega) (by simp; omega)
   simp only [Int.cast_ofNat_Int, List.drop_zero] at h1
   have hlt : ¬ v.f.length < v.f.length := by omega
   simp only [k1, k2, decide_true, Bool.not_true, Bool.false_eq_true, if_false, and_self, if_true, Val.proj4, O.len_list, List.length_map, Option.bind_some, h1]
   rw [e_F161]
   simp only [O.lt_int, lt_cast, hlt, decide_false, Option.bind_some, O.cnd_bool, Bool.false_eq_true, if_false, Sch.proj0, O.ne_int, Sch.proj4, O.sEq_str, ite_some, ite_ivbool, Val.proj3, O.len_list, List.length_map, emptyB_eq]
   by_cases k4 : s.k = 4
   ·have hnf : v.f = [] := valid_nof hvv (by omega)
    simp only [hnf, chgsF_nil, List.map_nil, List.append_nil, k4, decide_true, Bool.not_true, Bool.false_eq_true, if_false, if_true]
    by_cases c : s.key = emptyB
    ·simp only [c, decide_true, if_true, List.map_nil, List.append_nil]
    ·obtain ⟨t, ht⟩ := List.length_eq_one_iff.1 (hsb.list k4)
     have := pg_cmp_4 s t v b p hvv hv hs hb ht c hsb hp hl ih1 v.l.length 0 out [] (by omega) (by simp; omega) (fun k => by simp [mlook])
     simp only [Int.cast_ofNat_Int, List.drop_zero, List.take_zero] at this
     simp only [c, decide_false, Bool.false_eq_true, if_false]
     rw [ht, List.headD_cons]
     exact this
   ·simp only [k4, decide_false, Bool.not_false, if_true, if_false]
    by_cases k5 : s.k = 5
    ·simp only [k5, if_true]
    ·have hnf : v.f = [] := valid_nof hvv (by omega)
     simp only [hnf, chgsF_nil, List.map_nil, List.append_nil, k5, if_false]
  ·have hc : ¬ (v.k = s.k ∧ b.k = s.k) := fun h => k2 h.2
   rw [if_neg hc]
   simp only [k1, k2, decide_true, decide_false, Bool.not_true, Bool.not_false, Bool.false_eq_true, if_false, if_true, List.map_nil, List.append_nil]
 ·have hc : ¬ (v.k = s.k ∧ b.k = s.k) := fun h => k1 h.1
  rw [if_neg hc]
  simp only [k1, decide_false, Bool.not_false, if_true, List.map_nil, List.append_nil]
end Go.CT.Sch
namespace Go.CT.Srt
variable {β : Type} {lt : β → β → Bool}
theorem stab_unique (o : Ord lt) : ∀ (a b : List β), Sorted lt a → Sorted lt b → Stab lt a b → a = b
 | [], b, _, _, h => by
  have := h.1
  simp at this
  exact (List.length_eq_zero_iff.1 this.symm).symm
 | x :: a, [], _, _, h => by have := h.1; simp at this
 | x :: a, y :: b, ha, hb, h => by
  have ha' := List.pairwise_cons.1 ha
  have hb' := List.pairwise_cons.1 hb
  have hxy : lt x y = false := by
   rcases List.mem_cons.1 (h.mem o (List.mem_cons_self)) with e | e
   ·rw [e]; exact o.irr _
   ·exact hb'.1 x e
  have hyx : lt y x = false := by
   rcases List.mem_cons.1 (h.symm.mem o (List.mem_cons_self)) with e | e
   ·rw [e]; exact o.irr _
   ·exact ha'.1 y e
  have e1 : eqv lt x x = true := by simp [eqv, o.irr]
  have e2 : eqv lt x y = true := by simp [eqv, hxy, hyx]
  have hh := h.2 x
  rw [List.filter_cons_of_pos e1, List.filter_cons_of_pos e2] at hh
  have hx : x = y := (List.cons.inj hh).1
  subst hx
  have hs : Stab lt a b := by
   refine ⟨by have := h.1; simpa using this, fun k => ?_⟩
   have hk := h.2 k
   by_cases c : eqv lt k x = true
   ·rw [List.filter_cons_of_pos c, List.filter_cons_of_pos c] at hk
    exact (List.cons.inj hk).2
   ·rw [List.filter_cons_of_neg c, List.filter_cons_of_neg c] at hk
    exact hk
  rw [stab_unique o a b ha'.2 hb'.2 hs]
end Go.CT.Srt
namespace Go.CT.Sch
open Go.Proofs
def eltB (x y : ByteArray × Int) : Bool := blt x.1 y.1
theorem eord : Srt.Ord eltB where
 irr x := blt_irrefl _
 tr x y z h k := blt_trans h k
 neg x y z h := by
  rcases blt_total x.1 y.1 with h1 | h1 | h1
  ·exact .inl h1
  ·right; unfold eltB at h ⊢; rw [← h1]; exact h
  ·right; exact blt_trans h1 h
@[simp] theorem FE.proj0 (e : ByteArray × Int) : O.proj 0 (FE.enc e) = some (.str e.1) := rfl
@[simp] theorem FE.proj1 (e : ByteArray × Int) : O.proj 1 (FE.enc e) = some (.int e.2) := rfl
theorem ecmp (x y : ByteArray × Int) : ∃ c : Int, W F165 0 [FE.enc x, FE.enc y] = some [.int c] ∧ (decide (c < 0) = eltB x y) := by
 refine ⟨Lib.compareBytes x.1.data.toList y.1.data.toList, ?_, cmpB _ _⟩
 rw [e_F165_0]
 simp [e_F36_0, e_F37_0, e_F38, O.compareF]
noncomputable def eeqs : Srt.Eqs FE.enc eltB 2 true where
 S b xs := W F162 b xs
 B b xs := W F163 b xs
 I b xs := W F164 b xs
 M b xs := W F166 b xs
 R b xs := W F167 b xs
 X b xs := W F168 b xs
 C xs := W F165 0 xs
 cmp := ecmp
 s0 := by intros; exact V_is rfl (by kernel_rfl)
 b0 := by intros; exact V_is rfl (by kernel_rfl)
 b1 := by intros; exact V_is rfl (by kernel_rfl)
 b2 := by intros; exact V_is rfl (by kernel_rfl)
 b3 := by intros; exact V_is rfl (by kernel_rfl)
 b4 := by intros; exact V_is rfl (by kernel_rfl)
 i0 := by intros; exact V_is rfl (by kernel_rfl)
 i1 := by intros; exact V_is rfl (by kernel_rfl)
 i2 := by intros; exact V_is rfl (by kernel_rfl)
 x0 := by intros; exact V_is rfl (by kernel_rfl)
 x1 := by intros; exact V_is rfl (by kernel_rfl)
 r0 := by intros; exact V_is rfl (by kernel_rfl)
 r1 := by intros; exact V_is rfl (by kernel_rfl)
 r2 := by intros; exact V_is rfl (by kernel_rfl)
 m0 := by intros; exact V_is rfl (by kernel_rfl)
 m1 := by intros; exact V_is rfl (by kernel_rfl)
 m2 := by intros; exact V_is rfl (by kernel_rfl)
 m3 := by intros; exact V_is rfl (by kernel_rfl)
 m4 := by intros; exact V_is rfl (by kernel_rfl)
 m5 := by intros; exact V_is rfl (by kernel_rfl)
 m6 := by intros; exact V_is rfl (by kernel_rfl)
 m7 := by intros; exact V_is rfl (by kernel_rfl)
 m8 := by intros; exact V_is rfl (by kernel_rfl)
 m9 := by intros; exact V_is rfl (by kernel_rfl)
 m10 := by intros; exact V_is rfl (by kernel_rfl)
 m11 := by intros; exact V_is rfl (by kernel_rfl)
open Srt in
theorem rins2 (x : ByteArray × Int) (i : Nat) (rest : List (ByteArray × Int)) (hlen : i ≤ 1099511627776) : ∀ (n : Nat) (s1 s2 : List (ByteArray × Int)), s1.length = n → n ≤ 1099511627776 →
  ∃ t1 t2, s1 = t1 ++ t2 ∧ (∀ y ∈ t2, eltB x y = true) ∧ (∀ t0 y, t1 = t0 ++ [y] → eltB x y = false) ∧
   W F169 2 [.int i, .int (s1.length : Nat), LE FE.enc (s1 ++ x :: (s2 ++ rest))] = W F169 1 [.int ((i + 1 : Nat) : Int), LE FE.enc (t1 ++ x :: (t2 ++ (s2 ++ rest)))]
 | 0, s1, s2, hn, hp => by
  have : s1 = [] := List.length_eq_zero_iff.1 hn
  subst this
  refine ⟨[], [], rfl, by simp, by simp, ?_⟩
  have hw : IntKind.i64.wrap ((i : Int) + 1) = ((i + 1 : Nat) : Int) := by rw [w1 (by omega) (by omega)]; rfl
  rw [e_F169_2]
  simp [hw]
 | n + 1, s1, s2, hn, hp => by
  have hne : s1 ≠ [] := fun e => by subst e; simp at hn
  obtain ⟨s0, y, rfl⟩ := (snoc_cases s1).resolve_left hne
  simp only [List.length_append, List.length_singleton] at hn
  have hw : IntKind.i64.wrap ((i : Int) + 1) = ((i + 1 : Nat) : Int) := by rw [w1 (by omega) (by omega)]; rfl
  have hw2 : IntKind.i64.wrap ((((s0 ++ [y]).length : Nat) : Int) - 1) = ((s0.length : Nat) : Int) := by
   rw [List.length_append, List.length_singleton, w1 (by omega) (by omega)]; omega
  have hgt : (0 : Int) < (((s0 ++ [y]).length : Nat) : Int) := by rw [List.length_append, List.length_singleton]; omega
  have d0 : (s0 ++ [y] ++ x :: (s2 ++ rest)) = s0 ++ y :: (x :: (s2 ++ rest)) := by simp
  have d1 : (s0 ++ [y] ++ x :: (s2 ++ rest)) = (s0 ++ [y]) ++ x :: (s2 ++ rest) := by simp
  have gx := idx FE.enc (get_mid' d1 (i := (s0 ++ [y]).length) rfl)
  have gy := idx FE.enc (get_mid' d0 (i := s0.length) rfl)
  have st1 := set_mid' (y := y) d1 (i := (s0 ++ [y]).length) rfl
  have d2 : (s0 ++ [y]) ++ y :: (s2 ++ rest) = s0 ++ y :: (y :: (s2 ++ rest)) := by simp
  have st2 := set_mid' (y := x) d2 (i := s0.length) rfl
  have gy2 := idx FE.enc (get_mid' d2 (i := s0.length) rfl)
  rw [e_F169_2]
  cases hl : eltB x y with
  | false =>
   refine ⟨s0 ++ [y], [], by simp, by simp, fun t0 z hz => by
    have := List.append_inj_right' hz rfl
    simp at this; subst this; exact hl, ?_⟩
   unfold eltB at hl
   simp only [O.gt_int, hgt, decide_true, Option.bind_some, O.cnd_bool, if_true, gx, FE.proj0, O.sub_int, hw2, gy, sLt_blt, hl, Bool.false_eq_true, if_false, O.add_int, hw, List.nil_append]
  | true =>
   obtain ⟨t1, t2, q1, q2, q3, q4⟩ := rins2 x i rest hlen n s0 (y :: s2) (by omega) (by omega)
   refine ⟨t1, t2 ++ [y], by rw [q1]; simp, fun z hz => by
    rcases List.mem_append.1 hz with h | h
    ·exact q2 z h
    ·simp at h; subst h; exact hl, q3, ?_⟩
   unfold eltB at hl
   have hi1 : (s0 ++ [y]).length < (s0 ++ [y] ++ x :: (s2 ++ rest)).length := by simp
   have hi2 : s0.length < ((s0 ++ [y]) ++ y :: (s2 ++ rest)).length := by simp
   simp only [O.gt_int, hgt, decide_true, Option.bind_some, O.cnd_bool, if_true, gx, FE.proj0, O.sub_int, hw2, gy, sLt_blt, hl, seti FE.enc hi1, st1, gy2, seti FE.enc hi2, st2]
   have e1 : s0 ++ x :: y :: (s2 ++ rest) = s0 ++ x :: (y :: s2 ++ rest) := by simp
   rw [e1, q4]
   simp
open Srt in
theorem rins1 : ∀ (n : Nat) (s rest : List (ByteArray × Int)), n = rest.length → Sorted eltB s → s ≠ [] → s.length + rest.length ≤ 1099511627776 →
  ∃ s', Sorted eltB s' ∧ Stab eltB (s ++ rest) s' ∧ W F169 1 [.int ((s.length : Nat) : Int), LE FE.enc (s ++ rest)] = some [LE FE.enc s']
 | 0, s, rest, hr, hs, hne, hb => by
  have : rest = [] := List.length_eq_zero_iff.1 hr.symm
  subst this
  refine ⟨s, hs, by rw [List.append_nil]; exact .refl _, ?_⟩
  rw [e_F169_1]
  have : ¬ ((s.length : Nat) : Int) < ((s ++ ([] : List (ByteArray × Int))).length : Nat) := by simp
  simp only [Srt.len, Option.bind_some, O.lt_int, List.append_nil] at this ⊢
  simp only [this, decide_false, O.cnd_bool, Bool.false_eq_true, if_false]
 | n + 1, s, [], h, _, _, _ => by simp at h
 | n + 1, s, x :: rest, h, hs, hne, hb => by
  simp only [List.length_cons] at h hb
  obtain ⟨t1, t2, q1, q2, q3, q4⟩ := rins2 x s.length rest (by omega) s.length s [] rfl (by omega)
  rw [List.nil_append] at q4
  have hst : Stab eltB (t1 ++ t2 ++ [x]) (t1 ++ x :: t2) := by
   rw [List.append_assoc]
   exact (Stab.refl t1).append (by
    have := Stab.swap (lt := eltB) eord (u := t2) (v := [x]) (fun z hz y hy => by simp at hy; subst hy; exact q2 z hz)
    simpa using this)
  have hso : Sorted eltB (t1 ++ x :: t2) := by
   subst q1
   refine hs.left.append ?_ ?_
   ·refine List.pairwise_cons.2 ⟨fun y hy => eord.asymm (q2 y hy), hs.right⟩
   ·have hle : ∀ z ∈ t1, eltB x z = false := by
     rcases snoc_cases t1 with rfl | ⟨t0, z0, rfl⟩
     ·simp
     ·have h0 := q3 t0 z0 rfl
      intro z hz
      rcases List.mem_append.1 hz with hz | hz
      ·have := (hs.left).cross z hz z0 (by simp)
       exact eord.le_trans this h0
      ·simp at hz; subst hz; exact h0
    intro z hz y hy
    rcases List.mem_cons.1 hy with rfl | hy
    ·exact hle z hz
    ·exact hs.cross z hz y hy
  have hlen : (t1 ++ x :: t2).length = s.length + 1 := by rw [q1]; simp; omega
  obtain ⟨s', r1, r2, r3⟩ := rins1 n (t1 ++ x :: t2) rest (by omega) hso (by simp) (by omega)
  refine ⟨s', r1, ?_, ?_⟩
  ·refine Stab.trans ?_ r2
   have : s ++ x :: rest = (t1 ++ t2 ++ [x]) ++ rest := by rw [q1]; simp
   rw [this]
   exact hst.append (.refl _)
  ·rw [e_F169_1]
   have hlt : ((s.length : Nat) : Int) < ((s ++ x :: rest).length : Nat) := by simp; omega
   simp only [Srt.len, Option.bind_some, O.lt_int, hlt, decide_true, O.cnd_bool, if_true]
   rw [q4]
   rw [hlen] at r3
   have e1 : t1 ++ x :: (t2 ++ rest) = t1 ++ x :: t2 ++ rest := by simp
   rw [e1]; exact r3
open Srt in
theorem rins (l : List (ByteArray × Int)) (hb : l.length ≤ 1099511627776) : ∃ s', Sorted eltB s' ∧ Stab eltB l s' ∧ W F169 1 [.int 1, LE FE.enc l] = some [LE FE.enc s'] := by
 cases l with
 | nil =>
  refine ⟨[], List.Pairwise.nil, .refl _, ?_⟩
  rw [e_F169_1]
  simp [Srt.len]
 | cons x l =>
  simp only [List.length_cons] at hb
  have := rins1 l.length [x] l rfl (List.pairwise_singleton _ _) (by simp) (by simp; omega)
  exact this
theorem pg_Changes (s : Sch) (v w : Val) (hs : s.mass ≤ 1048576) (hv : v.mass ≤ 1048576) (hw : w.mass ≤ 1048576) :
  ∃ l : List (ByteArray × Int), W F150 0 [s.enc, v.enc, w.enc] = some [EL l] ∧ l.length ≤ 1048576 ∧
   (∀ e ∈ l, s.valid = true ∧ v.valid = true ∧ w.valid = true ∧ e ∈ chgs v s w []) ∧ Srt.Sorted eltB l ∧ Srt.Stab eltB (if s.valid && v.valid && w.valid then chgs v s w [] else []) l := by
 rw [e_F150_0]
 simp only [pg_Svalid s hs, pv_Valid v (by omega), pv_Valid w (by omega), O.calls_1, O.not_bool, Option.bind_some, O.cnd_bool, ite_some, ite_ivbool]
 cases hsv : s.valid with
 | false => exact ⟨[], rfl, by simp, by simp, List.Pairwise.nil, .refl _⟩
 | true =>
  cases hvv : v.valid with
  | false => exact ⟨[], rfl, by simp, by simp, List.Pairwise.nil, .refl _⟩
  | true =>
   cases hwv : w.valid with
   | false => exact ⟨[], rfl, by simp, by simp, List.Pairwise.nil, .refl _⟩
   | true =>
    have hsb := Sch.valid_SB hsv
    have hlen := chgs_len' (s := s) (b := w) (p := []) hv
    have h1 := pg_chg v hvv hv s w [] [] hsb hs hw (by simp) (by simp; omega) (by
     have : v.size ≤ v.mass := v.bulk_size
     simp; omega)
    simp only [List.map_nil, List.nil_append] at h1
    obtain ⟨r1, a1, a2, a3⟩ := Srt.sort eord eeqs (chgs v s w []) (by omega)
    refine ⟨r1, ?_, by rw [← a2.1]; exact hlen, fun x hx => ⟨rfl, rfl, rfl, a2.symm.mem eord hx⟩, a1, a2⟩
    have a3' : W F162 0 [.list ((chgs v s w []).map FE.enc)] = some [EL r1] := a3
    simp only [Bool.not_true, Bool.false_eq_true, if_false, h1, O.calls_1, a3']
theorem rf_Changes (s : Sch) (v w : Val) (hs : s.mass ≤ 1048576) (hv : v.mass ≤ 1048576) (hw : w.mass ≤ 1048576) :
  ∃ l : List (ByteArray × Int), W F169 0 [s.enc, v.enc, w.enc] = some [EL l] ∧ Srt.Sorted eltB l ∧ Srt.Stab eltB (if s.valid && v.valid && w.valid then chgs v s w [] else []) l := by
 rw [e_F169_0]
 simp only [ref_Svalid s hs, ref_Valid v (by omega), ref_Valid w (by omega), O.calls_1, O.not_bool, Option.bind_some, O.cnd_bool, ite_some, ite_ivbool]
 cases hsv : s.valid with
 | false => exact ⟨[], rfl, List.Pairwise.nil, .refl _⟩
 | true =>
  cases hvv : v.valid with
  | false => exact ⟨[], rfl, List.Pairwise.nil, .refl _⟩
  | true =>
   cases hwv : w.valid with
   | false => exact ⟨[], rfl, List.Pairwise.nil, .refl _⟩
   | true =>
    have hsb := Sch.valid_SB hsv
    have hlen := chgs_len' (s := s) (b := w) (p := []) hv
    have h2 := ref_chg v hvv hv s w [] hsb hs hw (by simp) (by simp; omega)
    simp only [List.map_nil] at h2
    obtain ⟨r2, b1, b2, b3⟩ := rins (chgs v s w []) (by omega)
    refine ⟨r2, ?_, b1, b2⟩
    simp only [Bool.not_true, Bool.false_eq_true, if_false, h2, O.calls_1]
    exact b3
theorem both_Changes (s : Sch) (v w : Val) (hs : s.mass ≤ 1048576) (hv : v.mass ≤ 1048576) (hw : w.mass ≤ 1048576) :
  ∃ l : List (ByteArray × Int), W F150 0 [s.enc, v.enc, w.enc] = some [EL l] ∧ W F169 0 [s.enc, v.enc, w.enc] = some [EL l] ∧ l.length ≤ 1048576 := by
 obtain ⟨l, h1, h2, _, h3, h4⟩ := pg_Changes s v w hs hv hw
 obtain ⟨r, g1, g2, g3⟩ := rf_Changes s v w hs hv hw
 have e : l = r := Srt.stab_unique eord l r h3 g2 (h4.symm.trans g3)
 exact ⟨l, h1, by rw [e]; exact g1, h2⟩
theorem EL_fe (l : List (ByteArray × Int)) : ∀ x ∈ l.map FE.enc, IsFE x := by
 intro x hx
 obtain ⟨e, _, rfl⟩ := List.mem_map.1 hx
 exact ⟨_, _, rfl⟩
theorem law_changes (s : Sch) (v w : Val) (hs : s.mass ≤ 1048576) (hv : v.mass ≤ 1048576) (hw : w.mass ≤ 1048576) : W F149 0 [s.enc, v.enc, w.enc] = some [.bool true] := by
 obtain ⟨b, hb⟩ := ev_light s v w hs hv hw
 obtain ⟨l, h1, h2, h3⟩ := both_Changes s v w hs hv hw
 have h4 := ev_same (l.map FE.enc) (by rw [List.length_map]; omega) (EL_fe l)
 rw [e_F149_0]
 simp only [hb, O.calls_1, O.not_bool, Option.bind_some, O.cnd_bool, awake, h1, h2, EL, h4]
 cases b <;> simp
end Go.CT.Sch
namespace Go.CT.Sch
open Go.Proofs
theorem wt_int {x : IV} (h : WT Tryz.prog 3 x) : ∃ n, x = .int n := by
 obtain ⟨n, rfl, _⟩ := h.int_inv (k := .i64) (by kernel_rfl)
 exact ⟨n, rfl⟩
theorem wt_str {x : IV} (h : WT Tryz.prog 9 x) : ∃ s, x = .str s := by
 obtain ⟨s, rfl, _⟩ := h.str_inv (by kernel_rfl)
 exact ⟨s, rfl⟩
theorem wt_bool {x : IV} (h : WT Tryz.prog 4 x) : ∃ b, x = .bool b := h.bool_inv (by kernel_rfl)
theorem wt_strs {x : IV} (h : WT Tryz.prog 22 x) : ∃ l : List ByteArray, x = .list (l.map .str) := by
 obtain ⟨xs, rfl, _, h⟩ := h.list_inv (e := 9) (by kernel_rfl)
 obtain ⟨es, rfl, _⟩ := list_form (enc := IV.str) (ok := fun _ => True) (xs := xs) fun x hx => by
  obtain ⟨s, e⟩ := wt_str (h x hx)
  exact ⟨s, e, trivial⟩
 exact ⟨es, rfl⟩
theorem wt_vals {x : IV} (hx : WT Tryz.prog 30 x) (h : ∀ y, y.bulk < x.bulk → WT Tryz.prog 33 y → ∃ v : Val, y = v.enc) : ∃ l : List Val, x = .list (l.map Val.enc) := by
 obtain ⟨xs, rfl, _, hh⟩ := hx.list_inv (e := 33) (by kernel_rfl)
 obtain ⟨es, rfl, _⟩ := list_form (enc := Val.enc) (ok := fun _ => True) (xs := xs) fun y hy => by
  have hb : y.bulk < (IV.list xs).bulk := by have := bulk_mem hy; simp only [IV.bulk]; omega
  obtain ⟨s, e⟩ := h y hb (hh y hy)
  exact ⟨s, e, trivial⟩
 exact ⟨es, rfl⟩
theorem wt_fields {x : IV} (hx : WT Tryz.prog 31 x) (h : ∀ y, y.bulk < x.bulk → WT Tryz.prog 70 y → ∃ p, y = Fld.enc p) : ∃ l : List (ByteArray × Val), x = .list (l.map Fld.enc) := by
 obtain ⟨xs, rfl, _, hh⟩ := hx.list_inv (e := 70) (by kernel_rfl)
 obtain ⟨es, rfl, _⟩ := list_form (enc := Fld.enc) (ok := fun _ => True) (xs := xs) fun y hy => by
  have hb : y.bulk < (IV.list xs).bulk := by have := bulk_mem hy; simp only [IV.bulk]; omega
  obtain ⟨s, e⟩ := h y hb (hh y hy)
  exact ⟨s, e, trivial⟩
 exact ⟨es, rfl⟩
theorem wt_valn : ∀ (n : Nat) (x : IV), x.bulk ≤ n → (WT Tryz.prog 33 x → ∃ v : Val, x = v.enc) ∧ (WT Tryz.prog 70 x → ∃ p, x = Fld.enc p)
 | 0, x, hb => by have := bulk_pos x; omega
 | n + 1, x, hb => by
  have hV : ∀ y : IV, y.bulk ≤ n → WT Tryz.prog 30 y → ∃ l : List Val, y = .list (l.map Val.enc) := fun y hy h => wt_vals h fun z hz hw => (wt_valn n z (by omega)).1 hw
  have hF : ∀ y : IV, y.bulk ≤ n → WT Tryz.prog 31 y → ∃ l : List (ByteArray × Val), y = .list (l.map Fld.enc) := fun y hy h => wt_fields h fun z hz hw => (wt_valn n z (by omega)).2 hw
  constructor
  ·intro h
   obtain ⟨xs, rfl, h2⟩ := h.agg_inv (ts := [3, 3, 9, 30, 31]) (by kernel_rfl) (by kernel_rfl)
   obtain ⟨a, xs, rfl, ha, h⟩ := h2.cons_inv
   obtain ⟨b, xs, rfl, hb, h⟩ := h.cons_inv
   obtain ⟨c, xs, rfl, hc, h⟩ := h.cons_inv
   obtain ⟨d, xs, rfl, hd, h⟩ := h.cons_inv
   obtain ⟨e, xs, rfl, he, h⟩ := h.cons_inv
   obtain rfl := h.nil_inv
   simp only [IV.bulk, IV.bulks] at hb
   obtain ⟨k, rfl⟩ := wt_int ha
   obtain ⟨m, rfl⟩ := wt_int ‹WT Tryz.prog 3 b›
   obtain ⟨s, rfl⟩ := wt_str hc
   obtain ⟨l, rfl⟩ := hV d (by omega) hd
   obtain ⟨f, rfl⟩ := hF e (by omega) he
   exact ⟨⟨k, m, s, l, f⟩, Val.fold _ _ _ _ _⟩
  ·intro h
   obtain ⟨xs, rfl, h2⟩ := h.agg_inv (ts := [9, 3, 3, 9, 30, 31]) (by kernel_rfl) (by kernel_rfl)
   obtain ⟨z, xs, rfl, hz, h⟩ := h2.cons_inv
   obtain ⟨a, xs, rfl, ha, h⟩ := h.cons_inv
   obtain ⟨b, xs, rfl, hb, h⟩ := h.cons_inv
   obtain ⟨c, xs, rfl, hc, h⟩ := h.cons_inv
   obtain ⟨d, xs, rfl, hd, h⟩ := h.cons_inv
   obtain ⟨e, xs, rfl, he, h⟩ := h.cons_inv
   obtain rfl := h.nil_inv
   simp only [IV.bulk, IV.bulks] at hb
   obtain ⟨nm, rfl⟩ := wt_str hz
   obtain ⟨k, rfl⟩ := wt_int ha
   obtain ⟨m, rfl⟩ := wt_int ‹WT Tryz.prog 3 b›
   obtain ⟨s, rfl⟩ := wt_str hc
   obtain ⟨l, rfl⟩ := hV d (by omega) hd
   obtain ⟨f, rfl⟩ := hF e (by omega) he
   exact ⟨(nm, ⟨k, m, s, l, f⟩), Fld.fold _ _ _ _ _ _⟩
theorem wt_val {x : IV} (h : WT Tryz.prog 33 x) : ∃ v : Val, x = v.enc := (wt_valn _ x (Nat.le_refl _)).1 h
theorem wt_vallist {x : IV} (h : WT Tryz.prog 30 x) : ∃ l : List Val, x = .list (l.map Val.enc) := wt_vals h fun _ _ hw => wt_val hw
theorem wt_schs {x : IV} (hx : WT Tryz.prog 23 x) (h : ∀ y, y.bulk < x.bulk → WT Tryz.prog 26 y → ∃ v : Sch, y = v.enc) : ∃ l : List Sch, x = .list (l.map Sch.enc) := by
 obtain ⟨xs, rfl, _, hh⟩ := hx.list_inv (e := 26) (by kernel_rfl)
 obtain ⟨es, rfl, _⟩ := list_form (enc := Sch.enc) (ok := fun _ => True) (xs := xs) fun y hy => by
  have hb : y.bulk < (IV.list xs).bulk := by have := bulk_mem hy; simp only [IV.bulk]; omega
  obtain ⟨s, e⟩ := h y hb (hh y hy)
  exact ⟨s, e, trivial⟩
 exact ⟨es, rfl⟩
theorem wt_sfields {x : IV} (hx : WT Tryz.prog 24 x) (h : ∀ y, y.bulk < x.bulk → WT Tryz.prog 64 y → ∃ p : SFld, y = p.enc) : ∃ l : List SFld, x = .list (l.map SFld.enc) := by
 obtain ⟨xs, rfl, _, hh⟩ := hx.list_inv (e := 64) (by kernel_rfl)
 obtain ⟨es, rfl, _⟩ := list_form (enc := SFld.enc) (ok := fun _ => True) (xs := xs) fun y hy => by
  have hb : y.bulk < (IV.list xs).bulk := by have := bulk_mem hy; simp only [IV.bulk]; omega
  obtain ⟨s, e⟩ := h y hb (hh y hy)
  exact ⟨s, e, trivial⟩
 exact ⟨es, rfl⟩
theorem wt_schn : ∀ (n : Nat) (x : IV), x.bulk ≤ n → (WT Tryz.prog 26 x → ∃ v : Sch, x = v.enc) ∧ (WT Tryz.prog 64 x → ∃ p : SFld, x = p.enc)
 | 0, x, hb => by have := bulk_pos x; omega
 | n + 1, x, hbn => by
  have hV : ∀ y : IV, y.bulk ≤ n → WT Tryz.prog 23 y → ∃ l : List Sch, y = .list (l.map Sch.enc) := fun y hy h => wt_schs h fun z hz hw => (wt_schn n z (by omega)).1 hw
  have hF : ∀ y : IV, y.bulk ≤ n → WT Tryz.prog 24 y → ∃ l : List SFld, y = .list (l.map SFld.enc) := fun y hy h => wt_sfields h fun z hz hw => (wt_schn n z (by omega)).2 hw
  have hS : ∀ xs, WTs Tryz.prog [3, 3, 3, 22, 9, 23, 24] xs → IV.bulks xs ≤ n → ∃ s : Sch, xs = s.comps := by
   intro xs h hb
   obtain ⟨a, xs, rfl, ha, h⟩ := h.cons_inv
   obtain ⟨b, xs, rfl, hb', h⟩ := h.cons_inv
   obtain ⟨c, xs, rfl, hc, h⟩ := h.cons_inv
   obtain ⟨d, xs, rfl, hd, h⟩ := h.cons_inv
   obtain ⟨e, xs, rfl, he, h⟩ := h.cons_inv
   obtain ⟨g, xs, rfl, hg, h⟩ := h.cons_inv
   obtain ⟨i, xs, rfl, hi, h⟩ := h.cons_inv
   obtain rfl := h.nil_inv
   simp only [IV.bulks] at hb
   obtain ⟨k, rfl⟩ := wt_int ha
   obtain ⟨m, rfl⟩ := wt_int hb'
   obtain ⟨o, rfl⟩ := wt_int hc
   obtain ⟨en, rfl⟩ := wt_strs hd
   obtain ⟨key, rfl⟩ := wt_str he
   obtain ⟨it, rfl⟩ := hV g (by omega) hg
   obtain ⟨f, rfl⟩ := hF i (by omega) hi
   exact ⟨⟨k, m, o, en, key, it, f⟩, by rw [Sch.comps_eq]; rfl⟩
  constructor
  ·intro h
   obtain ⟨xs, rfl, h2⟩ := h.agg_inv (ts := [3, 3, 3, 22, 9, 23, 24]) (by kernel_rfl) (by kernel_rfl)
   simp only [IV.bulk] at hbn
   obtain ⟨s, rfl⟩ := hS xs h2 (by omega)
   exact ⟨s, s.enc_eq.symm⟩
  ·intro h
   obtain ⟨xs, rfl, h2⟩ := h.agg_inv (ts := [9, 4, 4, 30, 3, 3, 3, 22, 9, 23, 24]) (by kernel_rfl) (by kernel_rfl)
   obtain ⟨a, xs, rfl, ha, h⟩ := h2.cons_inv
   obtain ⟨b, xs, rfl, hb', h⟩ := h.cons_inv
   obtain ⟨c, xs, rfl, hc, h⟩ := h.cons_inv
   obtain ⟨d, xs, rfl, hd, h⟩ := h.cons_inv
   simp only [IV.bulk, IV.bulks] at hbn
   obtain ⟨s, rfl⟩ := hS xs h (by omega)
   obtain ⟨nm, rfl⟩ := wt_str ha
   obtain ⟨rq, rfl⟩ := wt_bool hb'
   obtain ⟨im, rfl⟩ := wt_bool hc
   obtain ⟨df, rfl⟩ := wt_vallist hd
   exact ⟨⟨nm, rq, im, df, s⟩, rfl⟩
theorem wt_sch {x : IV} (h : WT Tryz.prog 26 x) : ∃ s : Sch, x = s.enc := (wt_schn _ x (Nat.le_refl _)).1 h
end Go.CT.Sch
