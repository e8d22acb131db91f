import Derived.Test.YtcamikkadiiobaaDefsV
import Derived.Test.YtcamikkadiiobaaCtC
namespace Go.CT.Defs
open Go.Proofs

/-! ### good values, good schemas -/
inductive VOk : Val → Prop
  | mk (v : Val) : Strict v.f → ((v.k = 5 → v.n = 0 ∧ v.s = emptyB ∧ v.l = []) ∧ (v.k = 4 → v.n = 0 ∧ v.s = emptyB) ∧ (v.k ≠ 5 → v.f = [])) → (∀ x ∈ v.l, VOk x) → (∀ p ∈ v.f, VOk p.2) → VOk v
/-- The schema of a field of a map. -/
def subS (s : Sch) (nm : ByteArray) : Option Sch := if s.it.length = 1 then s.it[0]? else (s.fld nm).map (·.s)
/-- Nothing in the value that the schema does not know. -/
inductive Known : Sch → Val → Prop
  | leaf (s : Sch) (v : Val) : v.k = s.k → v.k ≠ 4 → v.k ≠ 5 → Known s v
  | list (s : Sch) (v : Val) (t : Sch) : v.k = s.k → v.k = 4 → s.it = [t] → (∀ x ∈ v.l, Known t x) → Known s v
  | map (s : Sch) (v : Val) : v.k = s.k → v.k = 5 → (∀ p ∈ v.f, (subS s p.1).isSome = true) → (∀ p ∈ v.f, p.2.k ≠ 0 → ∀ t, subS s p.1 = some t → Known t p.2) → Known s v
inductive SOk : Sch → Prop
  | mk (s : Sch) : s.it.length ≤ 1 → (s.it ≠ [] → s.f = []) → (s.k = 4 → s.it.length = 1) → s.f.Pairwise (fun a b => blt a.nm b.nm = true) →
      (∀ x ∈ s.it, SOk x) → (∀ p ∈ s.f, SOk p.s) → (∀ p ∈ s.f, p.df.length ≤ 1) → (∀ p ∈ s.f, ∀ d ∈ p.df, VOk d ∧ d.k ≠ 0 ∧ Known p.s d) → SOk s
theorem VOk.strict {v : Val} (h : VOk v) : Strict v.f := by cases h; assumption
theorem VOk.map {v : Val} (h : VOk v) (hk : v.k = 5) : v.n = 0 ∧ v.s = emptyB ∧ v.l = [] := by cases h with | mk _ h1 h2 h3 h4 => exact h2.1 hk
theorem VOk.list {v : Val} (h : VOk v) (hk : v.k = 4) : v.n = 0 ∧ v.s = emptyB ∧ v.f = [] := by cases h with | mk _ h1 h2 h3 h4 => exact ⟨(h2.2.1 hk).1, (h2.2.1 hk).2, h2.2.2 (by omega)⟩
theorem VOk.nof {v : Val} (h : VOk v) (hk : v.k ≠ 5) : v.f = [] := by cases h with | mk _ h1 h2 h3 h4 => exact h2.2.2 hk
theorem VOk.mem_l {v : Val} (h : VOk v) {x : Val} (hx : x ∈ v.l) : VOk x := by cases h with | mk _ h1 h2 h3 h4 => exact h3 x hx
theorem VOk.mem_f {v : Val} (h : VOk v) {p : ByteArray × Val} (hp : p ∈ v.f) : VOk p.2 := by cases h with | mk _ h1 h2 h3 h4 => exact h4 p hp
theorem SOk.one {s : Sch} (h : SOk s) : s.it.length ≤ 1 := by cases h; assumption
theorem SOk.nof {s : Sch} (h : SOk s) (hi : s.it ≠ []) : s.f = [] := by cases h with | mk _ h1 h2 h3 h4 h5 h6 h7 h8 => exact h2 hi
theorem SOk.list {s : Sch} (h : SOk s) (hi : s.k = 4) : s.it.length = 1 := by cases h with | mk _ h1 h2 h3 h4 h5 h6 h7 h8 => exact h3 hi
theorem SOk.names {s : Sch} (h : SOk s) : s.f.Pairwise (fun a b => blt a.nm b.nm = true) := by cases h; assumption
theorem SOk.mem_it {s x : Sch} (h : SOk s) (hx : x ∈ s.it) : SOk x := by cases h with | mk _ h1 h2 h3 h4 h5 h6 h7 h8 => exact h5 x hx
theorem SOk.mem_f {s : Sch} {p : SFld} (h : SOk s) (hx : p ∈ s.f) : SOk p.s := by cases h with | mk _ h1 h2 h3 h4 h5 h6 h7 h8 => exact h6 p hx
theorem SOk.df1 {s : Sch} {p : SFld} (h : SOk s) (hx : p ∈ s.f) : p.df.length ≤ 1 := by cases h with | mk _ h1 h2 h3 h4 h5 h6 h7 h8 => exact h7 p hx
theorem SOk.dfOk {s : Sch} {p : SFld} {d : Val} (h : SOk s) (hx : p ∈ s.f) (hd : d ∈ p.df) : VOk d ∧ d.k ≠ 0 ∧ Known p.s d := by cases h with | mk _ h1 h2 h3 h4 h5 h6 h7 h8 => exact h8 p hx d hd
theorem subS_mem {s t : Sch} {nm : ByteArray} (h : subS s nm = some t) : t ∈ s.it ∨ ∃ p ∈ s.f, p.nm = nm ∧ p.s = t := by
  unfold subS at h
  split at h
  · exact .inl (List.mem_of_getElem? h)
  · right
    rw [Option.map_eq_some_iff] at h
    obtain ⟨p, hp, rfl⟩ := h
    exact ⟨p, List.mem_of_find?_eq_some hp, by simpa using List.find?_some hp, rfl⟩
theorem SOk.sub {s t : Sch} {nm : ByteArray} (hs : SOk s) (h : subS s nm = some t) : SOk t := by
  rcases subS_mem h with h | ⟨p, hp, _, rfl⟩
  · exact hs.mem_it h
  · exact hs.mem_f hp
theorem subS_mass {s t : Sch} {nm : ByteArray} (h : subS s nm = some t) : t.mass < s.mass := by
  rcases subS_mem h with h | ⟨p, hp, _, rfl⟩
  · exact Sch.mass_it h
  · have := Sch.mass_f hp; omega
theorem rising_strict : ∀ l : List (ByteArray × Val), rising l = true → Strict l
  | [], _ => List.Pairwise.nil
  | [_], _ => List.pairwise_singleton _ _
  | p :: q :: r, h => by
    simp only [rising, Bool.and_eq_true] at h
    have ih := rising_strict (q :: r) h.2
    refine List.pairwise_cons.2 ⟨fun y hy => ?_, ih⟩
    rcases List.mem_cons.1 hy with rfl | hy
    · exact h.1
    · exact blt_trans h.1 ((List.pairwise_cons.1 ih).1 y hy)
theorem VOk_of : ∀ (d : Nat) (v : Val), validD d v = true → VOk v
  | 0, v, h => by simp [validD] at h
  | d + 1, v, h => by
    simp only [validD, Bool.and_eq_true, List.all_eq_true, decide_eq_true_eq] at h
    obtain ⟨⟨⟨⟨h1, h2⟩, h3⟩, h4⟩, h5⟩ := h
    unfold okScalar at h1
    refine .mk v (rising_strict _ h5) ⟨fun hk => ?_, fun hk => ?_, h2.2.2.2⟩ (fun x hx => VOk_of d x (h3 x hx)) (fun p hp => VOk_of d p.2 (h4 p hp).2)
    · rw [if_neg (by omega), if_neg (by omega), if_neg (by omega)] at h1
      simp only [decide_eq_true_eq] at h1
      exact ⟨h1.2.1, h1.2.2, h2.2.2.1 (by omega)⟩
    · rw [if_neg (by omega), if_neg (by omega), if_neg (by omega)] at h1
      simp only [decide_eq_true_eq] at h1
      exact ⟨h1.2.1, h1.2.2⟩
theorem VOk_valid {v : Val} (h : v.valid = true) : VOk v := by
  unfold Val.valid at h
  simp only [Bool.and_eq_true] at h
  exact VOk_of _ _ h.1

/-! ### the schema of a field -/
def zeroSch : Sch := ⟨0, 0, 0, [], emptyB, [], []⟩
def subIV (o : Option Sch) : List IV := [(o.getD zeroSch).enc, .bool o.isSome]
theorem zeroSch_enc : IV.agg [.int 0, .int 0, .int 0, .list [], .str ⟨#[]⟩, .list [], .list []] = zeroSch.enc := rfl
theorem ev_under_1 (s : Sch) (nm : ByteArray) (hs : s.mass ≤ 1099511627776) (y4 y5 y6 y7 : IV) : ∀ (n i : Nat), i + n = s.f.length →
    W f_defaults_under 1 [.str nm, .list (s.f.map SFld.enc), .int s.f.length, .int i, y4, y5, y6, y7] = some (subIV (((s.f.drop i).find? fun p => decide (p.nm = nm)).map (·.s)))
  | 0, i, h => by
    rw [e_f_defaults_under_1]
    have h1 : ¬ i < s.f.length := by omega
    simp [h1, List.drop_of_length_le (Nat.le_of_not_lt h1), subIV, zeroSch_enc]
  | n + 1, i, h => by
    have hi : i < s.f.length := by omega
    have hm := s.mass_len_f
    have hw := next64 (i := i) (by omega)
    have := ev_under_1 s nm hs y4 y5 y6 y7 n (i + 1) (by omega)
    rw [e_f_defaults_under_1, List.drop_eq_getElem_cons hi]
    simp only [O.lt_int, lt_cast, hi, decide_true, Option.bind_some, O.cnd_bool, if_true, O.index_list, Int.natCast_nonneg, Int.toNat_natCast, List.getElem?_map, List.getElem?_eq_getElem hi, Option.map_some, SFld.proj0, SFld.projS, O.sEq_str, O.add_int, hw, this, List.find?_cons]
    by_cases c : s.f[i].nm = nm
    · simp [c, subIV]
    · have c' : decide (s.f[i].nm = nm) = false := by simpa using c
      simp only [c, c', decide_false, Bool.false_eq_true, if_false]
theorem ev_under (s : Sch) (nm : ByteArray) (hs : s.mass ≤ 1099511627776) : W f_defaults_under 0 [s.enc, .str nm] = some (subIV (subS s nm)) := by
  rw [e_f_defaults_under_0]
  unfold subS
  have := ev_under_1 s nm hs (.int 0) (.int 0) (.int 0) (.str ⟨#[]⟩) s.f.length 0 (by omega)
  simp only [List.drop_zero, Int.cast_ofNat_Int] at this
  simp only [Sch.proj5, Sch.proj6, Option.bind_some, O.eq_int, O.cnd_bool, O.len_list, List.length_map, this]
  by_cases c : s.it.length = 1
  · have c' : (s.it.length : Int) = 1 := by omega
    obtain ⟨t, ht⟩ := List.length_eq_one_iff.1 c
    simp [c, ht, subIV]
  · have c' : ¬ (s.it.length : Int) = 1 := by omega
    simp only [c, c', decide_false, Bool.false_eq_true, if_false]
    rfl
theorem ev_find_1 (s : Sch) (nm : ByteArray) (hs : s.mass ≤ 1099511627776) (y4 y5 y6 y7 : IV) : ∀ (n i : Nat), i + n = s.f.length →
    W f_ref08_find 1 [.str nm, .int i, s.enc, y4, y5, y6, y7] = some (subIV (((s.f.drop i).find? fun p => decide (p.nm = nm)).map (·.s)))
  | 0, i, h => by
    rw [e_f_ref08_find_1]
    have h1 : ¬ i < s.f.length := by omega
    simp [h1, List.drop_of_length_le (Nat.le_of_not_lt h1), subIV, zeroSch_enc]
  | n + 1, i, h => by
    have hi : i < s.f.length := by omega
    have hm := s.mass_len_f
    have hw := next64 (i := i) (by omega)
    have := ev_find_1 s nm hs y4 y5 y6 y7 n (i + 1) (by omega)
    rw [e_f_ref08_find_1, List.drop_eq_getElem_cons hi]
    simp only [Sch.proj6, O.len_list, List.length_map, O.lt_int, lt_cast, hi, decide_true, Option.bind_some, O.cnd_bool, if_true, O.index_list, Int.natCast_nonneg, Int.toNat_natCast, List.getElem?_map, List.getElem?_eq_getElem hi, Option.map_some, SFld.proj0, SFld.projS, O.sEq_str, O.add_int, hw, this, List.find?_cons]
    by_cases c : s.f[i].nm = nm
    · simp [c, subIV]
    · have c' : decide (s.f[i].nm = nm) = false := by simpa using c
      simp only [c, c', decide_false, Bool.false_eq_true, if_false]
theorem ev_find (s : Sch) (nm : ByteArray) (hs : s.mass ≤ 1099511627776) : W f_ref08_find 0 [s.enc, .str nm] = some (subIV ((s.fld nm).map (·.s))) := by
  rw [e_f_ref08_find_0]
  have := ev_find_1 s nm hs (.int 0) (.int 0) (.int 0) (.str ⟨#[]⟩) s.f.length 0 (by omega)
  simp only [List.drop_zero, Int.cast_ofNat_Int] at this
  exact this
theorem ev_dict (s : Sch) : W f_ref08_dictionary 0 [s.enc] = some [.bool (decide (0 < s.it.length))] := by
  rw [e_f_ref08_dictionary_0]; simp

/-! ### pruning -/
mutual
def pruneV : Val → Sch → Val
  | ⟨k, n, s, l, f⟩, sc =>
    if k = sc.k then
      if k = 4 then (if sc.it.length = 1 then ⟨4, 0, emptyB, pruneVs l (sc.it.headD zeroSch), []⟩ else ⟨k, n, s, l, f⟩)
      else if k = 5 then ⟨5, 0, emptyB, [], pruneFs f sc⟩
      else ⟨k, n, s, l, f⟩
    else ⟨k, n, s, l, f⟩
def pruneVs : List Val → Sch → List Val
  | [], _ => []
  | v :: vs, t => pruneV v t :: pruneVs vs t
def pruneFs : List (ByteArray × Val) → Sch → List (ByteArray × Val)
  | [], _ => []
  | (nm, v) :: fs, sc => (if v.k = 0 then [] else match subS sc nm with | some t => [(nm, pruneV v t)] | none => []) ++ pruneFs fs sc
end
theorem pruneVs_map (l : List Val) (t : Sch) : pruneVs l t = l.map fun v => pruneV v t := by
  induction l with
  | nil => rfl
  | cons v l ih => simp [pruneVs, ih]
def prune1 (sc : Sch) (p : ByteArray × Val) : List (ByteArray × Val) := if p.2.k = 0 then [] else match subS sc p.1 with | some t => [(p.1, pruneV p.2 t)] | none => []
theorem pruneFs_map (l : List (ByteArray × Val)) (sc : Sch) : pruneFs l sc = l.flatMap (prune1 sc) := by
  induction l with
  | nil => rfl
  | cons p l ih => obtain ⟨nm, v⟩ := p; simp only [pruneFs, ih, List.flatMap_cons]; rfl
theorem prune1_name {sc : Sch} {p q : ByteArray × Val} (h : q ∈ prune1 sc p) : q.1 = p.1 := by
  unfold prune1 at h
  split at h
  · simp at h
  · split at h <;> simp at h
    subst h; rfl
theorem pruneV_eq (v : Val) (sc : Sch) : pruneV v sc =
    if v.k = sc.k then
      if v.k = 4 then (if sc.it.length = 1 then ⟨4, 0, emptyB, v.l.map fun x => pruneV x (sc.it.headD zeroSch), []⟩ else v)
      else if v.k = 5 then ⟨5, 0, emptyB, [], v.f.flatMap (prune1 sc)⟩
      else v
    else v := by
  cases v with
  | mk k n s l f => rw [← pruneVs_map, ← pruneFs_map]; simp only [pruneV, Val.k_mk, Val.l_mk, Val.f_mk]; rfl
theorem flat_strict (g : ByteArray × Val → List (ByteArray × Val)) (hg : ∀ p q, q ∈ g p → q.1 = p.1) (hl : ∀ p, (g p).length ≤ 1) : ∀ l : List (ByteArray × Val), Strict l → Strict (l.flatMap g)
  | [], _ => List.Pairwise.nil
  | p :: l, h => by
    have h1 := List.pairwise_cons.1 h
    rw [List.flatMap_cons]
    refine List.pairwise_append.2 ⟨?_, flat_strict g hg hl l h1.2, ?_⟩
    · have := hl p
      match h2 : g p, this with
      | [], _ => exact List.Pairwise.nil
      | [a], _ => exact List.pairwise_singleton _ _
      | _ :: _ :: _, h => simp at h
    · intro a ha b hb
      obtain ⟨q, hq, hb⟩ := List.mem_flatMap.1 hb
      rw [hg _ _ ha, hg _ _ hb]
      exact h1.1 q hq
theorem prune1_len (sc : Sch) (p : ByteArray × Val) : (prune1 sc p).length ≤ 1 := by
  unfold prune1
  split
  · simp
  · split <;> simp
theorem pruneV_mass : ∀ (v : Val) (sc : Sch), (pruneV v sc).mass ≤ v.mass := by
  refine Val.ind fun v ih1 ih2 sc => ?_
  have hL : ∀ (t : Sch) (l : List Val), (∀ x ∈ l, ∀ sc, (pruneV x sc).mass ≤ x.mass) → massVs (l.map fun x => pruneV x t) ≤ massVs l := by
    intro t l
    induction l with
    | nil => intro _; simp [massVs_nil]
    | cons x l ih =>
      intro h
      have h1 := h x (by simp) t
      have h2 := ih fun y hy => h y (by simp [hy])
      rw [List.map_cons, massVs_cons, massVs_cons]; omega
  have hF : ∀ (l : List (ByteArray × Val)), (∀ p ∈ l, ∀ sc, (pruneV p.2 sc).mass ≤ p.2.mass) → massFs (l.flatMap (prune1 sc)) ≤ massFs l := by
    intro l
    induction l with
    | nil => intro _; simp [massFs_nil]
    | cons p l ih =>
      intro h
      have h2 := ih fun y hy => h y (by simp [hy])
      rw [List.flatMap_cons, massFs_append, massFs_cons]
      have : massFs (prune1 sc p) ≤ 1 + p.1.size + p.2.mass := by
        unfold prune1
        split
        · rw [massFs_nil]; omega
        · split
          · next t _ => have h1 := h p (by simp) t; rw [massFs_cons, massFs_nil]; simp only; omega
          · rw [massFs_nil]; omega
      omega
  rw [pruneV_eq]
  split
  · split
    · split
      · have := hL (sc.it.headD zeroSch) v.l ih1
        rw [Val.mass_eq, v.mass_eq]
        simp only [Val.s_mk, Val.l_mk, Val.f_mk, massFs_nil, show emptyB.size = 0 from rfl]; omega
      · exact Nat.le_refl _
    · split
      · have := hF v.f ih2
        rw [Val.mass_eq, v.mass_eq]
        simp only [Val.s_mk, Val.l_mk, Val.f_mk, massVs_nil, show emptyB.size = 0 from rfl]; omega
      · exact Nat.le_refl _
  · exact Nat.le_refl _
end Go.CT.Defs

namespace Go.CT.Defs
open Go.Proofs

theorem prune1_mass (sc : Sch) (p : ByteArray × Val) : massFs (prune1 sc p) ≤ 1 + p.1.size + p.2.mass := by
  unfold prune1
  split
  · rw [massFs_nil]; omega
  · split
    · next t _ => have h1 := pruneV_mass p.2 t; rw [massFs_cons, massFs_nil]; simp only; omega
    · rw [massFs_nil]; omega
theorem massFs_drop {l : List (ByteArray × Val)} {i : Nat} (h : i < l.length) : massFs (l.drop i) = (1 + l[i].1.size + l[i].2.mass) + massFs (l.drop (i + 1)) := by
  rw [List.drop_eq_getElem_cons h, massFs_cons]
theorem massVs_drop {l : List Val} {i : Nat} (h : i < l.length) : massVs (l.drop i) = l[i].mass + massVs (l.drop (i + 1)) := by
  rw [List.drop_eq_getElem_cons h, massVs_cons]
/-- One more field at the end. -/
theorem Fld.fold_v (nm : ByteArray) (v : Val) : IV.agg [.str nm, .int v.k, .int v.n, .str v.s, .list (v.l.map Val.enc), .list (v.f.map Fld.enc)] = Fld.enc (nm, v) := Fld.fold_eta nm v

/-! ### the program prunes -/
theorem prog_prune_1 (sc : Sch) (v : Val) (hs : sc.mass ≤ 1099511627776) (hv : v.mass ≤ 4294967000) (y4 y5 y6 : IV) (ih : ∀ p ∈ v.f, ∀ t, subS sc p.1 = some t → W f_defaults_Prune 0 [t.enc, p.2.enc] = some [(pruneV p.2 t).enc]) :
    ∀ (n i : Nat) (acc : List (ByteArray × Val)), i + n = v.f.length → acc.length ≤ i → massFs acc + massFs (v.f.drop i) ≤ 4294967000 →
    W f_defaults_Prune 1 [.list (v.f.map Fld.enc), .int v.f.length, .int i, sc.enc, y4, y5, y6, .list (acc.map Fld.enc)] = some [(mapV (acc ++ (v.f.drop i).flatMap (prune1 sc))).enc]
  | 0, i, acc, h, ha, hm => by
    rw [e_f_defaults_Prune_1]
    have h1 : ¬ i < v.f.length := by omega
    have hmap := val_map acc (by omega)
    simp only [O.lt_int, lt_cast, h1, decide_false, Option.bind_some, O.cnd_bool, Bool.false_eq_true, if_false, hmap, Val.comps_eq, O.calls_5, O.mkagg_eq, Val.fold_eta, List.drop_of_length_le (Nat.le_of_not_lt h1), List.flatMap_nil, List.append_nil]
  | n + 1, i, acc, h, ha, hm => by
    have hi : i < v.f.length := by omega
    have hlen := v.mass_len_f
    have hw := next64 (i := i) (by omega)
    have hp := prune1_mass sc v.f[i]
    have hpl := prune1_len sc v.f[i]
    rw [massFs_drop hi] at hm
    have next := prog_prune_1 sc v hs hv y4 y5 y6 ih n (i + 1) (acc ++ prune1 sc v.f[i]) (by omega) (by rw [List.length_append]; omega) (by rw [massFs_append]; omega)
    have hap : (acc.length + 1) * 96 ≤ maxBytes := app_ok (by omega) (by omega)
    rw [List.append_assoc] at next
    rw [e_f_defaults_Prune_1, List.drop_eq_getElem_cons hi, List.flatMap_cons, ← next]
    simp only [O.lt_int, lt_cast, hi, decide_true, Option.bind_some, O.cnd_bool, if_true, O.index_list, Int.natCast_nonneg, Int.toNat_natCast, List.getElem?_map, List.getElem?_eq_getElem hi, Option.map_some, Fld.proj0, Fld.proj1, Fld.projV, ev_under sc _ hs, subIV, O.calls_2, O.ne_int, e_f_defaults_Prune_2, O.add_int, hw]
    unfold prune1
    cases hsub : subS sc v.f[i].1 with
    | none => simp only [Option.isSome_none, O.cnd_bool, Bool.false_eq_true, if_false, Option.bind_some, ite_self, List.append_nil]
    | some t =>
      have hcall := ih _ (List.getElem_mem hi) t hsub
      by_cases hk : v.f[i].2.k = 0
      · simp only [Option.isSome_some, O.cnd_bool, if_true, Option.bind_some, hk, decide_true, Bool.not_true, Bool.false_eq_true, if_false, List.append_nil]
      · simp only [Option.isSome_some, O.cnd_bool, if_true, Option.bind_some, hk, decide_false, Bool.not_false, if_false, Option.getD_some, hcall, O.calls_1, Val.proj0, Val.proj1, Val.proj2, Val.proj3, Val.proj4, O.mkagg_eq, Fld.fold_eta, O.mklist_eq, O.append_list, List.length_map, List.length_singleton, hap, List.map_append, List.map_cons, List.map_nil]
theorem prog_prune_l (sc t : Sch) (v : Val) (hv : v.mass ≤ 4294967000) (y4 y5 y6 : IV) (ht : sc.it = [t]) (ih : ∀ x ∈ v.l, W f_defaults_Prune 0 [t.enc, x.enc] = some [(pruneV x t).enc]) :
    ∀ (n i : Nat) (acc : List Val), i + n = v.l.length → acc.length ≤ i → massVs acc + massVs (v.l.drop i) ≤ 4294967000 →
    W f_defaults_elements_v2 1 [.list (v.l.map Val.enc), .int v.l.length, .int i, sc.enc, y4, y5, y6, .list (acc.map Val.enc)] = some [(Val.mk 4 0 emptyB (acc ++ (v.l.drop i).map fun x => pruneV x t) []).enc]
  | 0, i, acc, h, ha, hm => by
    rw [e_f_defaults_elements_v2_1]
    have h1 : ¬ i < v.l.length := by omega
    have hmap := val_list acc (by omega)
    simp only [O.lt_int, lt_cast, h1, decide_false, Option.bind_some, O.cnd_bool, Bool.false_eq_true, if_false, hmap, Val.comps_eq, O.calls_5, O.mkagg_eq, Val.fold_eta, List.drop_of_length_le (Nat.le_of_not_lt h1), List.map_nil, List.append_nil]
  | n + 1, i, acc, h, ha, hm => by
    have hi : i < v.l.length := by omega
    have hlen := v.mass_len_l
    have hw := next64 (i := i) (by omega)
    have hp := pruneV_mass v.l[i] t
    rw [massVs_drop hi] at hm
    have next := prog_prune_l sc t v hv y4 y5 y6 ht ih n (i + 1) (acc ++ [pruneV v.l[i] t]) (by omega) (by rw [List.length_append]; simp; omega) (by rw [massVs_append, massVs_cons, massVs_nil]; omega)
    have hap : (acc.length + 1) * 80 ≤ maxBytes := app_ok (by omega) (by omega)
    have hcall := ih _ (List.getElem_mem hi)
    rw [List.append_assoc, List.singleton_append] at next
    rw [e_f_defaults_elements_v2_1, List.drop_eq_getElem_cons hi, List.map_cons, ← next]
    simp only [O.lt_int, lt_cast, hi, decide_true, Option.bind_some, O.cnd_bool, if_true, O.index_list, Int.natCast_nonneg, Int.toNat_natCast, List.getElem?_map, List.getElem?_eq_getElem hi, Option.map_some, Sch.proj5, ht, List.map_cons, List.map_nil, Int.le_refl, Int.toNat_zero, List.getElem?_cons_zero, hcall, O.calls_1, O.mklist_eq, O.append_list, List.length_map, List.length_singleton, hap, List.map_append, O.add_int, hw]
theorem flat_id (sc : Sch) (l : List (ByteArray × Val)) (h : Strict l) : mapL (l.flatMap (prune1 sc)) = l.flatMap (prune1 sc) :=
  mapL_id (flat_strict _ (fun _ _ h => prune1_name h) (prune1_len sc) l h)
theorem prog_prune : ∀ v : Val, VOk v → v.mass ≤ 4294967000 → ∀ sc : Sch, SOk sc → sc.mass ≤ 1099511627776 → W f_defaults_Prune 0 [sc.enc, v.enc] = some [(pruneV v sc).enc] := by
  refine Val.ind fun v ih1 ih2 hv hm sc hs hsm => ?_
  have hcl := defs_clone v (by omega)
  rw [e_f_defaults_Prune_0, pruneV_eq]
  simp only [Val.proj0, Sch.proj0, Option.bind_some, O.ne_int, O.eq_int, O.cnd_bool]
  by_cases hk : v.k = sc.k
  · simp only [hk, decide_true, Bool.not_true, Bool.false_eq_true, if_false, Option.bind_some, if_true]
    by_cases h5 : sc.k = 5
    · have hk5 : v.k = 5 := by omega
      have hf := prog_prune_1 sc v hsm hm (.int 0) (.int 0) (.str ⟨#[]⟩) (fun p hp t ht => ih2 p hp (hv.mem_f hp) (by have := Val.mass_f hp; omega) t (hs.sub ht) (by have := subS_mass ht; omega)) v.f.length 0 [] (by omega) (by simp) (by rw [massFs_nil, List.drop_zero]; have := v.mass_eq; omega)
      simp only [List.drop_zero, Int.cast_ofNat_Int, List.map_nil, List.nil_append] at hf
      simp [h5, hf, mapV, flat_id sc _ hv.strict]
    · by_cases h4 : sc.k = 4
      · have hk4 : v.k = 4 := by omega
        obtain ⟨t, ht⟩ := List.length_eq_one_iff.1 (hs.list h4)
        have htm : t ∈ sc.it := by rw [ht]; simp
        have hl := prog_prune_l sc t v hm (.int 0) (.int 0) (.str ⟨#[]⟩) ht (fun x hx => ih1 x hx (hv.mem_l hx) (by have := Val.mass_l hx; omega) t (hs.mem_it htm) (by have := Sch.mass_it htm; omega)) v.l.length 0 [] (by omega) (by simp) (by rw [massVs_nil, List.drop_zero]; have := v.mass_eq; omega)
        simp only [List.drop_zero, Int.cast_ofNat_Int, List.map_nil, List.nil_append] at hl
        have he : W f_defaults_elements_v2 0 [sc.enc, v.enc] = some [(Val.mk 4 0 emptyB (v.l.map fun x => pruneV x t) []).enc] := by
          rw [e_f_defaults_elements_v2_0]
          simp [ht, hl]
        simp [h4, he, ht]
      · simp [h4, h5, hcl]
  · simp [hk, hcl]

/-! ### the reference prunes -/
theorem ref_prune_2 (sc : Sch) (v : Val) (hso : SOk sc) (hs : sc.mass ≤ 1099511627776) (hv : v.mass ≤ 4294967000) (y3 y4 y5 : IV) (ih : ∀ p ∈ v.f, ∀ t, subS sc p.1 = some t → W f_ref08_Prune 0 [t.enc, p.2.enc] = some [(pruneV p.2 t).enc]) :
    ∀ (n i : Nat) (acc : List (ByteArray × Val)), i + n = v.f.length → acc.length ≤ i →
    W f_ref08_Prune 2 [.int i, sc.enc, v.enc, y3, y4, y5, .list (acc.map Fld.enc)] = some [(Val.mk 5 0 emptyB [] (acc ++ (v.f.drop i).flatMap (prune1 sc))).enc]
  | 0, i, acc, h, ha => by
    rw [e_f_ref08_Prune_2]
    have h1 : ¬ i < v.f.length := by omega
    simp only [Val.proj4, O.len_list, List.length_map, O.lt_int, lt_cast, h1, decide_false, Option.bind_some, O.cnd_bool, Bool.false_eq_true, if_false, O.mkagg_eq, List.drop_of_length_le (Nat.le_of_not_lt h1), List.flatMap_nil, List.append_nil]
    rw [← Val.fold]; rfl
  | n + 1, i, acc, h, ha => by
    have hi : i < v.f.length := by omega
    have hlen := v.mass_len_f
    have hw := next64 (i := i) (by omega)
    have hpl := prune1_len sc v.f[i]
    have next := ref_prune_2 sc v hso hs hv y3 y4 y5 ih n (i + 1) (acc ++ prune1 sc v.f[i]) (by omega) (by rw [List.length_append]; omega)
    have hap : (acc.length + 1) * 96 ≤ maxBytes := app_ok (by omega) (by omega)
    rw [List.append_assoc] at next
    rw [e_f_ref08_Prune_2, List.drop_eq_getElem_cons hi, List.flatMap_cons, ← next]
    simp only [Val.proj4, O.len_list, List.length_map, O.lt_int, lt_cast, hi, decide_true, Option.bind_some, O.cnd_bool, if_true, O.index_list, Int.natCast_nonneg, Int.toNat_natCast, List.getElem?_map, List.getElem?_eq_getElem hi, Option.map_some, Fld.proj0, Fld.proj1, Fld.projV, O.eq_int, ev_dict, O.calls_1, ev_find sc _ hs, e_f_ref08_Prune_3, e_f_ref08_Prune_4, O.add_int, hw]
    have hcall := ih _ (List.getElem_mem hi)
    unfold prune1
    by_cases hk : v.f[i].2.k = 0
    · simp only [hk, decide_true, if_true, List.append_nil]
    · simp only [hk, decide_false, Bool.false_eq_true, if_false]
      have hone := hso.one
      unfold subS at hcall ⊢
      by_cases hd : sc.it.length = 1
      · obtain ⟨t, ht⟩ := List.length_eq_one_iff.1 hd
        simp only [ht, List.length_singleton, if_true, List.getElem?_cons_zero] at hcall
        have hc := hcall t rfl
        simp only [ht, List.length_singleton, Nat.lt_one_iff, decide_true, if_true, Sch.proj5, Option.bind_some, List.map_cons, List.map_nil, O.index_list, Int.le_refl, Int.toNat_zero, List.getElem?_cons_zero, hc, O.calls_1, Val.proj0, Val.proj1, Val.proj2, Val.proj3, Val.proj4, O.mkagg_eq, Fld.fold_eta, O.mklist_eq, O.append_list, List.length_map, List.length_singleton, hap, List.map_append]
      · have hd0 : ¬ 0 < sc.it.length := by omega
        simp only [hd, if_false] at hcall
        simp only [hd, hd0, decide_false, Bool.false_eq_true, if_false]
        cases hf : sc.fld v.f[i].1 with
        | none => simp only [subIV, Option.map_none, Option.isSome_none, O.calls_2, O.cnd_bool, Bool.false_eq_true, if_false, List.append_nil]
        | some q =>
          have hc := hcall q.s (by rw [hf]; rfl)
          simp only [subIV, Option.map_some, Option.isSome_some, O.calls_2, O.cnd_bool, if_true, Option.getD_some, hc, O.calls_1, Val.proj0, Val.proj1, Val.proj2, Val.proj3, Val.proj4, Option.bind_some, O.mkagg_eq, Fld.fold_eta, O.mklist_eq, O.append_list, List.length_map, List.length_singleton, hap, List.map_append, List.map_cons, List.map_nil]
theorem ref_prune_1 (sc t : Sch) (v : Val) (hv : v.mass ≤ 4294967000) (y4 y5 y6 : IV) (ht : sc.it = [t]) (ih : ∀ x ∈ v.l, W f_ref08_Prune 0 [t.enc, x.enc] = some [(pruneV x t).enc]) :
    ∀ (n i : Nat) (acc : List Val), i + n = v.l.length → acc.length ≤ i →
    W f_ref08_Prune 1 [.int i, sc.enc, v.enc, y4, y5, y6, .list (acc.map Val.enc)] = some [(Val.mk 4 0 emptyB (acc ++ (v.l.drop i).map fun x => pruneV x t) []).enc]
  | 0, i, acc, h, ha => by
    rw [e_f_ref08_Prune_1]
    have h1 : ¬ i < v.l.length := by omega
    simp only [Val.proj3, O.len_list, List.length_map, O.lt_int, lt_cast, h1, decide_false, Option.bind_some, O.cnd_bool, Bool.false_eq_true, if_false, O.mkagg_eq, List.drop_of_length_le (Nat.le_of_not_lt h1), List.map_nil, List.append_nil]
    rw [← Val.fold]; rfl
  | n + 1, i, acc, h, ha => by
    have hi : i < v.l.length := by omega
    have hlen := v.mass_len_l
    have hw := next64 (i := i) (by omega)
    have next := ref_prune_1 sc t v hv y4 y5 y6 ht ih n (i + 1) (acc ++ [pruneV v.l[i] t]) (by omega) (by rw [List.length_append]; simp; omega)
    have hap : (acc.length + 1) * 80 ≤ maxBytes := app_ok (by omega) (by omega)
    have hcall := ih _ (List.getElem_mem hi)
    rw [List.append_assoc, List.singleton_append] at next
    rw [e_f_ref08_Prune_1, List.drop_eq_getElem_cons hi, List.map_cons, ← next]
    simp only [Val.proj3, O.len_list, List.length_map, O.lt_int, lt_cast, hi, decide_true, Option.bind_some, O.cnd_bool, if_true, O.index_list, Int.natCast_nonneg, Int.toNat_natCast, List.getElem?_map, List.getElem?_eq_getElem hi, Option.map_some, Sch.proj5, ht, List.map_cons, List.map_nil, Int.le_refl, Int.toNat_zero, List.getElem?_cons_zero, hcall, O.calls_1, O.mklist_eq, O.append_list, List.length_map, List.length_singleton, hap, List.map_append, O.add_int, hw]
theorem ref_prune : ∀ v : Val, v.mass ≤ 4294967000 → ∀ sc : Sch, SOk sc → sc.mass ≤ 1099511627776 → W f_ref08_Prune 0 [sc.enc, v.enc] = some [(pruneV v sc).enc] := by
  refine Val.ind fun v ih1 ih2 hm sc hs hsm => ?_
  rw [e_f_ref08_Prune_0, pruneV_eq]
  simp only [Val.proj0, Sch.proj0, Option.bind_some, O.ne_int, O.eq_int, O.cnd_bool]
  by_cases hk : v.k = sc.k
  · simp only [hk, decide_true, Bool.not_true, Bool.false_eq_true, if_false, if_true]
    by_cases h5 : sc.k = 5
    · have hf := ref_prune_2 sc v hs hsm hm (.int 0) (.int 0) (.str ⟨#[]⟩) (fun p hp t ht => ih2 p hp (by have := Val.mass_f hp; omega) t (hs.sub ht) (by have := subS_mass ht; omega)) v.f.length 0 [] (by omega) (by simp)
      simp only [List.drop_zero, Int.cast_ofNat_Int, List.map_nil, List.nil_append] at hf
      simp [h5, hf]
    · by_cases h4 : sc.k = 4
      · obtain ⟨t, ht⟩ := List.length_eq_one_iff.1 (hs.list h4)
        have htm : t ∈ sc.it := by rw [ht]; simp
        have hl := ref_prune_1 sc t v hm (.int 0) (.int 0) (.str ⟨#[]⟩) ht (fun x hx => ih1 x hx (by have := Val.mass_l hx; omega) t (hs.mem_it htm) (by have := Sch.mass_it htm; omega)) v.l.length 0 [] (by omega) (by simp)
        simp only [List.drop_zero, Int.cast_ofNat_Int, List.map_nil, List.nil_append] at hl
        simp [h4, ht, hl]
      · simp [h4, h5]
  · simp [hk]
end Go.CT.Defs

namespace Go.CT.Defs
open Go.Proofs
theorem lives : W f_law08_lives 0 [] = some [.bool true] := V_run 1000 (by kernel_rfl)

/-! ### the size of a schema: only that it says a number -/
theorem size_2 (s : Sch) (hs : s.mass ≤ 1099511627776) (ih : ∀ p ∈ s.f, ∀ m : Int, 0 ≤ m → m ≤ 300 → ∃ r : Int, W f_ref08_Size 0 [p.s.enc, .int m] = some [.int r] ∧ 1 ≤ r ∧ r ≤ max 1 m) : ∀ (n i : Nat) (m c : Int), i + n = s.f.length → 1 ≤ c → c ≤ max 1 m → 0 ≤ m → m ≤ 300 →
    ∃ r : Int, W f_ref08_Size 2 [.int m, .int c, .int i, s.enc] = some [.int r] ∧ 1 ≤ r ∧ r ≤ max 1 m
  | 0, i, m, c, h, hc, hc2, hm, hm2 => by
    have h1 : ¬ i < s.f.length := by omega
    refine ⟨c, ?_, hc, hc2⟩
    rw [e_f_ref08_Size_2]
    simp [h1]
  | n + 1, i, m, c, h, hc, hc2, hm, hm2 => by
    have hi : i < s.f.length := by omega
    have hl := s.mass_len_f
    have hw := next64 (i := i) (by omega)
    rw [e_f_ref08_Size_2]
    by_cases hcm : c < m
    · have hw1 : IntKind.i64.wrap (m - c) = m - c := wrap64 (by omega) (by omega)
      obtain ⟨r, hr, hr1, hr2⟩ := ih _ (List.getElem_mem hi) (m - c) (by omega) (by omega)
      have hw2 : IntKind.i64.wrap (c + r) = c + r := wrap64 (by omega) (by omega)
      obtain ⟨r', hr', hr1', hr2'⟩ := size_2 s hs ih n (i + 1) m (c + r) (by omega) (by omega) (by omega) hm hm2
      refine ⟨r', ?_, hr1', hr2'⟩
      simp only [Sch.proj6, Option.bind_some, O.len_list, List.length_map, O.lt_int, lt_cast, hi, decide_true, O.cnd_bool, if_true, hcm, O.index_list, Int.natCast_nonneg, Int.toNat_natCast, List.getElem?_map, List.getElem?_eq_getElem hi, Option.map_some, SFld.projS, O.sub_int, hw1, hr, O.calls_1, O.add_int, hw2, hw, hr']
    · refine ⟨c, ?_, hc, hc2⟩
      simp [hi, hcm]
theorem size_1 (s : Sch) (hs : s.mass ≤ 1099511627776) (ih : ∀ x ∈ s.it, ∀ m : Int, 0 ≤ m → m ≤ 300 → ∃ r : Int, W f_ref08_Size 0 [x.enc, .int m] = some [.int r] ∧ 1 ≤ r ∧ r ≤ max 1 m) : ∀ (n i : Nat) (m c : Int), i + n = s.it.length → 1 ≤ c → c ≤ max 1 m → 0 ≤ m → m ≤ 300 →
    ∃ r : Int, W f_ref08_Size 1 [.int m, .int c, .int i, s.enc] = W f_ref08_Size 2 [.int m, .int r, .int 0, s.enc] ∧ 1 ≤ r ∧ r ≤ max 1 m
  | 0, i, m, c, h, hc, hc2, hm, hm2 => by
    have h1 : ¬ i < s.it.length := by omega
    refine ⟨c, ?_, hc, hc2⟩
    rw [e_f_ref08_Size_1]
    simp [h1]
  | n + 1, i, m, c, h, hc, hc2, hm, hm2 => by
    have hi : i < s.it.length := by omega
    have hl := s.mass_len_it
    have hw := next64 (i := i) (by omega)
    rw [e_f_ref08_Size_1]
    by_cases hcm : c < m
    · have hw1 : IntKind.i64.wrap (m - c) = m - c := wrap64 (by omega) (by omega)
      obtain ⟨r, hr, hr1, hr2⟩ := ih _ (List.getElem_mem hi) (m - c) (by omega) (by omega)
      have hw2 : IntKind.i64.wrap (c + r) = c + r := wrap64 (by omega) (by omega)
      obtain ⟨r', hr', hr1', hr2'⟩ := size_1 s hs ih n (i + 1) m (c + r) (by omega) (by omega) (by omega) hm hm2
      refine ⟨r', ?_, hr1', hr2'⟩
      simp only [Sch.proj5, Option.bind_some, O.len_list, List.length_map, O.lt_int, lt_cast, hi, decide_true, O.cnd_bool, if_true, hcm, O.index_list, Int.natCast_nonneg, Int.toNat_natCast, List.getElem?_map, List.getElem?_eq_getElem hi, Option.map_some, O.sub_int, hw1, hr, O.calls_1, O.add_int, hw2, hw, hr']
    · refine ⟨c, ?_, hc, hc2⟩
      simp [hi, hcm]
theorem ev_size : ∀ s : Sch, s.mass ≤ 1099511627776 → ∀ m : Int, 0 ≤ m → m ≤ 300 → ∃ r : Int, W f_ref08_Size 0 [s.enc, .int m] = some [.int r] ∧ 1 ≤ r ∧ r ≤ max 1 m := by
  refine Sch.ind fun s ih1 ih2 hs m hm hm2 => ?_
  obtain ⟨c, h1, h2, h3⟩ := size_1 s hs (fun x hx => ih1 x hx (by have := Sch.mass_it hx; omega)) s.it.length 0 m 1 (by omega) (by omega) (by omega) hm hm2
  obtain ⟨r, h4, h5, h6⟩ := size_2 s hs (fun p hp => ih2 p hp (by have := Sch.mass_f hp; omega)) s.f.length 0 m c (by omega) h2 h3 hm hm2
  refine ⟨r, ?_, h5, h6⟩
  rw [e_f_ref08_Size_0]
  exact h1.trans h4
end Go.CT.Defs

namespace Go.CT.Defs
open Go.Proofs

/-! ## Paths: only that printing says a text -/
structure Stp where
  k : Int
  nm : ByteArray
  ix : Int
  vl : ByteArray
def Stp.enc (s : Stp) : IV := .agg [.int s.k, .str s.nm, .int s.ix, .str s.vl]
@[simp] theorem Stp.proj0 (s : Stp) : O.proj 0 s.enc = some (.int s.k) := rfl
@[simp] theorem Stp.proj1 (s : Stp) : O.proj 1 s.enc = some (.str s.nm) := rfl
@[simp] theorem Stp.proj2 (s : Stp) : O.proj 2 s.enc = some (.int s.ix) := rfl
@[simp] theorem Stp.proj3 (s : Stp) : O.proj 3 s.enc = some (.str s.vl) := rfl
def Stp.fits (s : Stp) : Prop := s.nm.size ≤ 1099511627776 ∧ s.vl.size ≤ 1099511627776
def Stp.ok (s : Stp) : Prop := s.nm.size ≤ 40 ∧ s.vl.size ≤ 200 ∧ (s.k = 2 → 0 ≤ s.ix ∧ s.ix ≤ 64)

/-- A chain of and. -/
theorem ev_char (c : Int) : ∃ b, W f_ref06_NameChar 0 [.int c] = some [.bool b] := by
  rw [e_f_ref06_NameChar_0]
  simp only [O.ge_int, O.le_int, O.eq_int, Option.bind_some, O.cnd_bool, ite_some, ite_ivbool]
  exact ⟨_, rfl⟩
theorem ev_pname_1 (s : ByteArray) (hs : s.size ≤ 1099511627776) : ∀ (n i : Nat), i + n = s.size → ∃ b, W f_ref06_validName 1 [.str s, .int i] = some [.bool b] ∧ (b = true → s.size ≤ 40)
  | 0, i, h => by
    have h1 : ¬ i < s.size := by omega
    rw [e_f_ref06_validName_1]
    simp only [O.slen_str, Option.bind_some, O.lt_int, lt_cast, h1, decide_false, O.cnd_bool, Bool.false_eq_true, if_false, O.gt_int, O.le_int, ite_some, ite_ivbool]
    refine ⟨_, rfl, fun h => ?_⟩
    split at h
    · simp at h; omega
    · cases h
  | n + 1, i, h => by
    have hi : i < s.size := by omega
    have hw := next64 (i := i) (by omega)
    rw [e_f_ref06_validName_1]
    obtain ⟨b, hb⟩ := ev_char (s[i].toNat)
    obtain ⟨r, hr, hr2⟩ := ev_pname_1 s hs n (i + 1) (by omega)
    simp only [O.slen_str, Option.bind_some, O.lt_int, lt_cast, hi, decide_true, O.cnd_bool, if_true, O.sindex_str, Int.natCast_nonneg, Int.toNat_natCast, sget hi, Option.map_some, hb, O.calls_1, O.not_bool, O.add_int, hw, hr]
    cases b with
    | true => exact ⟨r, by simp, hr2⟩
    | false => exact ⟨false, by simp, by simp⟩
theorem ev_pname (s : ByteArray) (hs : s.size ≤ 1099511627776) : ∃ b, W f_ref06_validName 0 [.str s] = some [.bool b] ∧ (b = true → s.size ≤ 40) := by
  rw [e_f_ref06_validName_0]; exact ev_pname_1 s hs s.size 0 (by omega)
theorem ev_pstr_1 (s : ByteArray) (hs : s.size ≤ 1099511627776) : ∀ (n i : Nat), i + n = s.size → ∃ b, W f_ref06_validString 1 [.str s, .int i] = some [.bool b] ∧ (b = true → s.size ≤ 200)
  | 0, i, h => by
    have h1 : ¬ i < s.size := by omega
    rw [e_f_ref06_validString_1]
    simp only [O.slen_str, Option.bind_some, O.lt_int, lt_cast, h1, decide_false, O.cnd_bool, Bool.false_eq_true, if_false, O.le_int]
    refine ⟨_, rfl, fun h => ?_⟩
    simp at h; omega
  | n + 1, i, h => by
    have hi : i < s.size := by omega
    have hw := next64 (i := i) (by omega)
    rw [e_f_ref06_validString_1]
    obtain ⟨r, hr, hr2⟩ := ev_pstr_1 s hs n (i + 1) (by omega)
    simp only [O.slen_str, Option.bind_some, O.lt_int, lt_cast, hi, decide_true, O.cnd_bool, if_true, O.sindex_str, Int.natCast_nonneg, Int.toNat_natCast, sget hi, Option.map_some, O.ne_int, O.gt_int, ite_some, ite_ivbool, O.add_int, hw, hr]
    generalize (if (!decide ((s[i].toNat : Int) = 10)) = true then if decide ((s[i].toNat : Int) < 32) = true then true else decide (126 < (s[i].toNat : Int)) else false) = b
    cases b with
    | true => exact ⟨false, by simp, by simp⟩
    | false => exact ⟨r, by simp, hr2⟩
theorem ev_pstr (s : ByteArray) (hs : s.size ≤ 1099511627776) : ∃ b, W f_ref06_validString 0 [.str s] = some [.bool b] ∧ (b = true → s.size ≤ 200) := by
  rw [e_f_ref06_validString_0]; exact ev_pstr_1 s hs s.size 0 (by omega)
theorem ev_step (s : Stp) (hs : s.fits) : ∃ b, W f_ref06_validStep 0 [s.enc] = some [.bool b] ∧ (b = true → s.ok) := by
  obtain ⟨b1, h1, g1⟩ := ev_pname s.nm hs.1
  obtain ⟨b2, h2, g2⟩ := ev_pstr s.vl hs.2
  rw [e_f_ref06_validStep_0]
  simp only [Stp.proj0, Stp.proj1, Stp.proj2, Stp.proj3, Option.bind_some, O.eq_int, O.cnd_bool, h1, h2, O.calls_1, O.ge_int, O.le_int, O.sEq_str, ite_some, ite_ivbool]
  by_cases k1 : s.k = 1
  · simp only [k1, decide_true, if_true]
    refine ⟨_, rfl, fun h => ?_⟩
    cases b1 with
    | false => simp at h
    | true =>
      by_cases e : s.ix = 0
      · simp only [e, decide_true, if_true, decide_eq_true_eq] at h
        exact ⟨g1 rfl, by rw [h]; decide, fun h2 => by omega⟩
      · simp [e] at h
  · by_cases k2 : s.k = 2
    · simp only [k1, k2, decide_true, decide_false, Bool.false_eq_true, if_true, if_false]
      refine ⟨_, rfl, fun h => ?_⟩
      by_cases e1 : 0 ≤ s.ix
      · by_cases e2 : s.ix ≤ 64
        · by_cases e3 : s.nm = ⟨#[]⟩
          · simp [e1, e2, e3] at h
            exact ⟨by rw [e3]; decide, by rw [h]; decide, fun _ => ⟨e1, e2⟩⟩
          · simp [e1, e2, e3] at h
        · simp [e1, e2] at h
      · simp [e1] at h
    · simp only [k1, k2, decide_false, Bool.false_eq_true, if_false]
      by_cases k3 : s.k = 3
      · simp only [k3, decide_true, if_true]
        refine ⟨_, rfl, fun h => ?_⟩
        cases b1 with
        | false => simp at h
        | true =>
          cases b2 with
          | false => simp at h
          | true => exact ⟨g1 rfl, g2 rfl, fun h => absurd h k2⟩
      · simp only [k3, decide_false, Bool.false_eq_true, if_false]
        exact ⟨_, rfl, by simp⟩
theorem ev_pvalid_1 (p : List Stp) (hp : ∀ s ∈ p, s.fits) (hl : p.length ≤ 1099511627776) : ∀ (n i : Nat), i + n = p.length → ∃ b, W f_ref06_Valid 1 [.list (p.map Stp.enc), .int i] = some [.bool b] ∧ (b = true → p.length ≤ 16 ∧ ∀ s ∈ p.drop i, s.ok)
  | 0, i, h => by
    have h1 : ¬ i < p.length := by omega
    rw [e_f_ref06_Valid_1]
    simp only [O.len_list, List.length_map, Option.bind_some, O.lt_int, lt_cast, h1, decide_false, O.cnd_bool, Bool.false_eq_true, if_false, O.le_int]
    refine ⟨_, rfl, fun h => ⟨by simp at h; omega, by rw [List.drop_of_length_le (by omega)]; simp⟩⟩
  | n + 1, i, h => by
    have hi : i < p.length := by omega
    have hw := next64 (i := i) (by omega)
    rw [e_f_ref06_Valid_1]
    obtain ⟨b, hb, hb2⟩ := ev_step p[i] (hp _ (List.getElem_mem hi))
    obtain ⟨r, hr, hr2⟩ := ev_pvalid_1 p hp hl n (i + 1) (by omega)
    simp only [O.len_list, List.length_map, Option.bind_some, O.lt_int, lt_cast, hi, decide_true, O.cnd_bool, if_true, O.index_list, Int.natCast_nonneg, Int.toNat_natCast, List.getElem?_map, List.getElem?_eq_getElem hi, Option.map_some, hb, O.calls_1, O.not_bool, O.add_int, hw, hr]
    cases b with
    | true =>
      refine ⟨r, by simp, fun h => ⟨(hr2 h).1, fun s hs => ?_⟩⟩
      rw [List.drop_eq_getElem_cons hi] at hs
      rcases List.mem_cons.1 hs with rfl | hs
      · exact hb2 rfl
      · exact (hr2 h).2 s hs
    | false => exact ⟨false, by simp, by simp⟩
theorem ev_decimal (n : Int) (h0 : 0 ≤ n) (h1 : n ≤ 64) : ∃ s, W f_ref06_decimal 0 [.int n] = some [.str s] ∧ s.size ≤ 1000 := by
  have sl : ∀ d : Int, 0 ≤ d → d ≤ 9 → ∃ s, O.sslice (.str ⟨#[48, 49, 50, 51, 52, 53, 54, 55, 56, 57]⟩) (.int d) (.int (d + 1)) = some (.str s) ∧ s.size ≤ 10 := by
    intro d g0 g1
    rw [O.sslice_str, if_pos ⟨g0, by omega, by show d + 1 ≤ 10; omega⟩]
    refine ⟨_, rfl, ?_⟩
    rw [ByteArray.size_extract]
    have : (ByteArray.mk #[48, 49, 50, 51, 52, 53, 54, 55, 56, 57]).size = 10 := rfl
    omega
  rw [e_f_ref06_decimal_0]
  by_cases c : n < 10
  · obtain ⟨s, hs, hs2⟩ := sl n h0 (by omega)
    have hw : IntKind.i64.wrap (n + 1) = n + 1 := wrap64 (by omega) (by omega)
    exact ⟨s, by simp only [O.lt_int, c, decide_true, Option.bind_some, O.cnd_bool, if_true, O.add_int, hw, hs], by omega⟩
  · have hq : n.tdiv 10 = n / 10 := Int.tdiv_eq_ediv_of_nonneg h0
    have hr : n.tmod 10 = n % 10 := Int.tmod_eq_emod_of_nonneg h0
    have hw1 : IntKind.i64.wrap (n / 10) = n / 10 := wrap64 (by omega) (by omega)
    have hw2 : IntKind.i64.wrap (n / 10 + 1) = n / 10 + 1 := wrap64 (by omega) (by omega)
    have hw3 : IntKind.i64.wrap (n % 10 + 1) = n % 10 + 1 := wrap64 (by omega) (by omega)
    obtain ⟨s, hs, hs2⟩ := sl (n / 10) (by omega) (by omega)
    obtain ⟨t, ht, ht2⟩ := sl (n % 10) (by omega) (by omega)
    have hm : s.size + t.size ≤ maxBytes := by unfold maxBytes; omega
    refine ⟨s ++ t, ?_, by rw [ByteArray.size_append]; omega⟩
    simp [c, hq, hr, hw1, hw2, hw3, hs, ht, hm]
theorem ev_quote_1 (s : ByteArray) (hs : s.size ≤ 200) : ∀ (n i : Nat) (o : ByteArray), i + n = s.size → o.size ≤ 1 + 2 * i → ∃ r, W f_ref06_quote 1 [.str s, .str o, .int i] = some [.str r] ∧ r.size ≤ 1000
  | 0, i, o, h, ho => by
    have h1 : ¬ i < s.size := by omega
    have hm : o.size + (ByteArray.mk #[34]).size ≤ maxBytes := by have : (ByteArray.mk #[34]).size = 1 := rfl; unfold maxBytes; omega
    rw [e_f_ref06_quote_1]
    simp only [O.slen_str, Option.bind_some, O.lt_int, lt_cast, h1, decide_false, O.cnd_bool, Bool.false_eq_true, if_false, O.cat_str, hm, if_true]
    refine ⟨_, rfl, ?_⟩
    rw [ByteArray.size_append]
    have : (ByteArray.mk #[34]).size = 1 := rfl
    omega
  | n + 1, i, o, h, ho => by
    have hi : i < s.size := by omega
    have hw := next64 (i := i) (by omega)
    have s1 : (ByteArray.mk #[92]).size = 1 := rfl
    have s2 : (ByteArray.mk #[92, 110]).size = 2 := rfl
    have hm1 : o.size + (ByteArray.mk #[92, 110]).size ≤ maxBytes := by unfold maxBytes; omega
    have hm2 : o.size + (ByteArray.mk #[92]).size ≤ maxBytes := by unfold maxBytes; omega
    have hx : (s.extract i (i + 1)).size = 1 := by rw [ByteArray.size_extract]; omega
    have hm3 : (o ++ ByteArray.mk #[92]).size + (s.extract i (i + 1)).size ≤ maxBytes := by rw [ByteArray.size_append]; unfold maxBytes; omega
    have hm4 : o.size + (s.extract i (i + 1)).size ≤ maxBytes := by unfold maxBytes; omega
    have hsl : O.sslice (.str s) (.int i) (.int ((i + 1 : Nat) : Int)) = some (.str (s.extract i (i + 1))) := by
      rw [O.sslice_str, if_pos ⟨by omega, by omega, by omega⟩]; rfl
    rw [e_f_ref06_quote_1]
    simp only [O.slen_str, Option.bind_some, O.lt_int, lt_cast, hi, decide_true, O.cnd_bool, if_true, O.sindex_str, Int.natCast_nonneg, Int.toNat_natCast, sget hi, Option.map_some, O.eq_int, ite_some, ite_ivbool, O.cat_str, hm1, hm2, O.add_int, hw, hsl, hm3, hm4, e_f_ref06_quote_2]
    by_cases c1 : (s[i].toNat : Int) = 10
    · obtain ⟨r, hr, hr2⟩ := ev_quote_1 s hs n (i + 1) (o ++ ByteArray.mk #[92, 110]) (by omega) (by rw [ByteArray.size_append]; omega)
      exact ⟨r, by simp only [c1, decide_true, if_true, hr], hr2⟩
    · simp only [c1, decide_false, Bool.false_eq_true, if_false]
      generalize (if decide ((s[i].toNat : Int) = 34) = true then true else decide ((s[i].toNat : Int) = 92)) = b
      cases b with
      | true =>
        obtain ⟨r, hr, hr2⟩ := ev_quote_1 s hs n (i + 1) (o ++ ByteArray.mk #[92] ++ s.extract i (i + 1)) (by omega) (by rw [ByteArray.size_append, ByteArray.size_append]; omega)
        exact ⟨r, by simp only [if_true, hr], hr2⟩
      | false =>
        obtain ⟨r, hr, hr2⟩ := ev_quote_1 s hs n (i + 1) (o ++ s.extract i (i + 1)) (by omega) (by rw [ByteArray.size_append]; omega)
        exact ⟨r, by simp only [Bool.false_eq_true, if_false, hr], hr2⟩
theorem ev_quote (s : ByteArray) (hs : s.size ≤ 200) : ∃ r, W f_ref06_quote 0 [.str s] = some [.str r] ∧ r.size ≤ 1000 := by
  rw [e_f_ref06_quote_0]; exact ev_quote_1 s hs s.size 0 _ (by omega) (by decide)
theorem ev_print_1 (p : List Stp) (hp : ∀ s ∈ p, s.ok) (hl : p.length ≤ 16) : ∀ (n i : Nat) (o : ByteArray), i + n = p.length → o.size ≤ 2000 * i → ∃ r c, W f_ref06_Print 1 [.list (p.map Stp.enc), .str o, .int i] = some [.str r, .int c]
  | 0, i, o, h, ho => by
    have h1 : ¬ i < p.length := by omega
    rw [e_f_ref06_Print_1]
    simp only [O.len_list, List.length_map, Option.bind_some, O.lt_int, lt_cast, h1, decide_false, O.cnd_bool, Bool.false_eq_true, if_false]
    exact ⟨_, _, rfl⟩
  | n + 1, i, o, h, ho => by
    have hi : i < p.length := by omega
    have hw := next64 (i := i) (by omega)
    obtain ⟨g1, g2, g3⟩ := hp _ (List.getElem_mem hi)
    have cat : ∀ a b : ByteArray, a.size ≤ 100000 → b.size ≤ 100000 → O.cat (.str a) (.str b) = some (.str (a ++ b)) := by
      intro a b ha hb
      rw [O.cat_str, if_pos (by unfold maxBytes; omega)]
    have z1 : (ByteArray.mk #[91]).size = 1 := rfl
    have z2 : (ByteArray.mk #[93]).size = 1 := rfl
    have z3 : (ByteArray.mk #[61]).size = 1 := rfl
    have z4 : (ByteArray.mk #[46]).size = 1 := rfl
    have next : ∀ o' : ByteArray, o'.size ≤ 2000 * (i + 1) → ∃ r c, W f_ref06_Print 2 [.list (p.map Stp.enc), .str o', .int i] = some [.str r, .int c] := by
      intro o' ho'
      obtain ⟨r, c, hr⟩ := ev_print_1 p hp hl n (i + 1) o' (by omega) ho'
      refine ⟨r, c, ?_⟩
      rw [e_f_ref06_Print_2]
      simp only [O.add_int, hw, Option.bind_some, hr]
    rw [e_f_ref06_Print_1]
    simp only [O.len_list, List.length_map, Option.bind_some, O.lt_int, lt_cast, hi, decide_true, O.cnd_bool, if_true, O.index_list, Int.natCast_nonneg, Int.toNat_natCast, List.getElem?_map, List.getElem?_eq_getElem hi, Option.map_some, Stp.proj0, Stp.proj1, Stp.proj2, Stp.proj3, O.eq_int, O.gt_int]
    by_cases k2 : p[i].k = 2
    · obtain ⟨d, hd, hd2⟩ := ev_decimal p[i].ix (g3 k2).1 (g3 k2).2
      simp only [k2, decide_true, if_true]
      rw [cat _ _ (by omega) (by omega)]
      simp only [Option.bind_some, hd, O.calls_1]
      rw [cat _ _ (by rw [ByteArray.size_append]; omega) (by omega)]
      simp only [Option.bind_some]
      rw [cat _ _ (by rw [ByteArray.size_append, ByteArray.size_append]; omega) (by omega)]
      exact next _ (by rw [ByteArray.size_append, ByteArray.size_append, ByteArray.size_append]; omega)
    · simp only [k2, decide_false, Bool.false_eq_true, if_false]
      by_cases k3 : p[i].k = 3
      · obtain ⟨d, hd, hd2⟩ := ev_quote p[i].vl g2
        simp only [k3, decide_true, if_true]
        rw [cat _ _ (by omega) (by omega)]
        simp only [Option.bind_some]
        rw [cat _ _ (by rw [ByteArray.size_append]; omega) (by omega)]
        simp only [Option.bind_some]
        rw [cat _ _ (by rw [ByteArray.size_append, ByteArray.size_append]; omega) (by omega)]
        simp only [Option.bind_some, hd, O.calls_1]
        rw [cat _ _ (by rw [ByteArray.size_append, ByteArray.size_append, ByteArray.size_append]; omega) (by omega)]
        simp only [Option.bind_some]
        rw [cat _ _ (by rw [ByteArray.size_append, ByteArray.size_append, ByteArray.size_append, ByteArray.size_append]; omega) (by omega)]
        exact next _ (by rw [ByteArray.size_append, ByteArray.size_append, ByteArray.size_append, ByteArray.size_append, ByteArray.size_append]; omega)
      · simp only [k3, decide_false, Bool.false_eq_true, if_false]
        by_cases hz : (0 : Int) < i
        · simp only [hz, decide_true, if_true]
          rw [cat _ _ (by omega) (by omega)]
          simp only [Option.bind_some]
          rw [cat _ _ (by rw [ByteArray.size_append]; omega) (by omega)]
          exact next _ (by rw [ByteArray.size_append, ByteArray.size_append]; omega)
        · simp only [hz, decide_false, Bool.false_eq_true, if_false]
          exact next _ (by omega)
theorem ev_print (p : List Stp) (hp : ∀ s ∈ p, s.fits) (hl : p.length ≤ 1099511627776) : ∃ r c, W f_ref06_Print 0 [.list (p.map Stp.enc)] = some [.str r, .int c] := by
  obtain ⟨b, hb, hb2⟩ := ev_pvalid_1 p hp hl p.length 0 (by omega)
  have hb' : W f_ref06_Valid 0 [.list (p.map Stp.enc)] = some [.bool b] := by rw [e_f_ref06_Valid_0]; exact hb
  rw [e_f_ref06_Print_0]
  cases b with
  | false => exact ⟨_, _, by simp only [hb', O.calls_1, O.not_bool, Option.bind_some, Bool.not_false, O.cnd_bool, if_true]; rfl⟩
  | true =>
    obtain ⟨h1, h2⟩ := hb2 rfl
    obtain ⟨r, c, hr⟩ := ev_print_1 p (by simpa using h2) h1 p.length 0 ⟨#[]⟩ (by omega) (by decide)
    exact ⟨r, c, by simp only [hb', O.calls_1, O.not_bool, Option.bind_some, Bool.not_true, O.cnd_bool, Bool.false_eq_true, if_false]; exact hr⟩
theorem ev_at (p : List Stp) (hp : ∀ s ∈ p, s.fits) (hl : p.length ≤ 1099511627776) (c : IV) : ∃ e, W f_ref07_at 0 [.list (p.map Stp.enc), c] = some [.list [e]] := by
  obtain ⟨r, k, hr⟩ := ev_print p hp hl
  rw [e_f_ref07_at_0]
  exact ⟨.agg [.str r, c], by simp only [hr, O.calls_2, O.mkagg_eq, O.mklist_eq, Option.bind_some]⟩
theorem ev_then (p : List Stp) (s : Stp) (hl : p.length ≤ 1099511627776) : W f_ref07_Then 0 [.list (p.map Stp.enc), s.enc] = some [.list ((p ++ [s]).map Stp.enc)] := by
  have h1 : (0 + p.length) * 48 ≤ maxBytes := app_ok (by omega) (by omega)
  have h2 : (p.length + 1) * 48 ≤ maxBytes := by
    have : (p.length + 1) * 48 ≤ 1099511627777 * 48 := Nat.mul_le_mul (by omega) (Nat.le_refl _)
    unfold maxBytes; omega
  rw [e_f_ref07_Then_0]
  simp only [O.mklist_eq, Option.bind_some, O.append_list, List.length_nil, List.length_map, h1, if_true, List.nil_append, List.length_singleton, h2, List.map_append, List.map_cons, List.map_nil]
end Go.CT.Defs

namespace Go.CT.Defs
open Go.Proofs

theorem calls_6 {β : Type} {a b c d e g : IV} {f : IV → IV → IV → IV → IV → IV → Option β} : calls (some [a, b, c, d, e, g]) 6 f = f a b c d e g := rfl

/-! ## The errors of a value: that they are listed, and that none means nothing unknown -/
def keyIV (v : Val) (nm : ByteArray) : IV × IV := (.str ((v.get nm).getD zeroVal).s, .bool ((v.get nm).isSome && !decide (nm = emptyB) && decide (((v.get nm).getD zeroVal).k = 3)))
theorem ev_keyof (v : Val) (nm : ByteArray) (hv : v.mass ≤ 4294967000) : W f_ref07_KeyOf 0 [v.enc, .str nm] = some [.str ((v.get nm).getD zeroVal).s, .bool ((v.get nm).isSome && !decide (nm = emptyB) && decide (((v.get nm).getD zeroVal).k = 3))] := by
  rw [e_f_ref07_KeyOf_0]
  simp only [ref_get v nm (by omega), getIV, calls_6, O.cnd_bool, O.sNe_str, O.eq_int, Option.bind_some, ite_some, ite_ivbool, emptyB]
  cases (v.get nm).isSome <;> by_cases h1 : nm = ⟨#[]⟩ <;> by_cases h2 : ((v.get nm).getD zeroVal).k = 3 <;> simp [h1, h2]
theorem get_size (v : Val) (nm : ByteArray) : ((v.get nm).getD zeroVal).s.size ≤ v.mass := by
  unfold Val.get
  split
  · cases h : v.f.find? fun p => decide (p.1 = nm) with
    | none => exact Nat.zero_le _
    | some p =>
      have h1 := Val.mass_f (List.mem_of_find?_eq_some h)
      have h2 := p.2.mass_s
      simp only [Option.map_some, Option.getD_some]; omega
  · exact Nat.zero_le _
def zeroSF : SFld := ⟨emptyB, false, false, [], zeroSch⟩
theorem zeroSF_enc : IV.agg [.str ⟨#[]⟩, .bool false, .bool false, .list [], .int 0, .int 0, .int 0, .list [], .str ⟨#[]⟩, .list [], .list []] = zeroSF.enc := rfl
theorem ev_field_1 (s : Sch) (nm : ByteArray) (hs : s.mass ≤ 1099511627776) (y3 y4 y5 y6 y7 y8 y9 : IV) : ∀ (n i : Nat), i + n = s.f.length →
    W f_ref07_field 1 [.str nm, .int i, s.enc, y3, y4, y5, y6, y7, y8, y9] = some [(((s.f.drop i).find? fun p => decide (p.nm = nm)).getD zeroSF).enc, .bool ((s.f.drop i).find? fun p => decide (p.nm = nm)).isSome]
  | 0, i, h => by
    rw [e_f_ref07_field_1]
    have h1 : ¬ i < s.f.length := by omega
    simp [h1, List.drop_of_length_le (Nat.le_of_not_lt h1), zeroSF_enc]
  | n + 1, i, h => by
    have hi : i < s.f.length := by omega
    have hm := s.mass_len_f
    have hw := next64 (i := i) (by omega)
    have := ev_field_1 s nm hs y3 y4 y5 y6 y7 y8 y9 n (i + 1) (by omega)
    rw [e_f_ref07_field_1, List.drop_eq_getElem_cons hi]
    simp only [Sch.proj6, O.len_list, List.length_map, O.lt_int, lt_cast, hi, decide_true, Option.bind_some, O.cnd_bool, if_true, O.index_list, Int.natCast_nonneg, Int.toNat_natCast, List.getElem?_map, List.getElem?_eq_getElem hi, Option.map_some, SFld.proj0, O.sEq_str, O.add_int, hw, this, List.find?_cons]
    by_cases c : s.f[i].nm = nm
    · simp [c]
    · have c' : decide (s.f[i].nm = nm) = false := by simpa using c
      simp only [c, c', decide_false, Bool.false_eq_true, if_false]
theorem ev_field (s : Sch) (nm : ByteArray) (hs : s.mass ≤ 1099511627776) : W f_ref07_field 0 [s.enc, .str nm] = some [((s.fld nm).getD zeroSF).enc, .bool (s.fld nm).isSome] := by
  rw [e_f_ref07_field_0]
  have := ev_field_1 s nm hs (.str ⟨#[]⟩) (.bool false) (.bool false) (.int 0) (.int 0) (.int 0) (.str ⟨#[]⟩) s.f.length 0 (by omega)
  simp only [List.drop_zero, Int.cast_ofNat_Int] at this
  exact this
theorem ev_present (v : Val) (nm : ByteArray) (hv : v.mass ≤ 4294967000) : ∃ a b c d e o, W f_ref07_Present 0 [v.enc, .str nm] = some [a, b, c, d, e, .bool o] := by
  rw [e_f_ref07_Present_0]
  simp only [ref_get v nm (by omega), getIV, calls_6, O.not_bool, O.eq_int, O.cnd_bool, Option.bind_some]
  cases (v.get nm).isSome with
  | false => exact ⟨_, _, _, _, _, _, rfl⟩
  | true =>
    by_cases h : ((v.get nm).getD zeroVal).k = 0
    · simp only [h, decide_true]; exact ⟨_, _, _, _, _, _, rfl⟩
    · simp only [h, decide_false]; exact ⟨_, _, _, _, _, _, rfl⟩

/-- What is said of errors. -/
def Errs (s : Sch) (v : Val) (p : List Stp) : Prop := ∃ es : List IV, W f_ref07_errors 0 [s.enc, v.enc, .list (p.map Stp.enc)] = some [.list es] ∧ es.length ≤ (2 + s.mass) * v.size ∧ (es = [] → Known s v)

theorem app24 {n : Nat} (h : n ≤ 4398046511104) : n * 24 ≤ maxBytes := by
  have : n * 24 ≤ 4398046511104 * 24 := Nat.mul_le_mul h (Nat.le_refl _)
  unfold maxBytes; omega

theorem errors_1 (s : Sch) (v : Val) (p : List Stp) (hp : ∀ s ∈ p, s.fits) (hl : p.length ≤ 1099511627776) (hs : s.mass ≤ 1099511627776) : ∀ (n i : Nat), i + n = s.en.length → ∃ es : List IV, W f_ref07_errors 1 [.list (p.map Stp.enc), .int i, s.enc, v.enc] = some [.list es] ∧ es.length ≤ 1
  | 0, i, h => by
    have h1 : ¬ i < s.en.length := by omega
    obtain ⟨e, he⟩ := ev_at p hp hl (.int 1)
    rw [e_f_ref07_errors_1]
    simp only [Sch.proj3, O.len_list, List.length_map, Option.bind_some, O.lt_int, lt_cast, h1, decide_false, O.cnd_bool, Bool.false_eq_true, if_false, O.gt_int, he, O.calls_1]
    split
    · exact ⟨_, rfl, by simp⟩
    · exact ⟨_, rfl, by simp⟩
  | n + 1, i, h => by
    have hi : i < s.en.length := by omega
    have hm := s.mass_len_en
    have hw := next64 (i := i) (by omega)
    obtain ⟨es, he, hl'⟩ := errors_1 s v p hp hl hs n (i + 1) (by omega)
    rw [e_f_ref07_errors_1]
    simp only [Sch.proj3, O.len_list, List.length_map, Option.bind_some, O.lt_int, lt_cast, hi, decide_true, O.cnd_bool, if_true, O.index_list, Int.natCast_nonneg, Int.toNat_natCast, List.getElem?_map, List.getElem?_eq_getElem hi, Option.map_some, Val.proj2, O.sEq_str, O.add_int, hw, he]
    split
    · exact ⟨_, rfl, by simp⟩
    · exact ⟨_, rfl, hl'⟩

/-- Is there another element of the key. -/
theorem elements_3 (s : Sch) (v : Val) (p q : List Stp) (hv : v.mass ≤ 1048576) (hq : ∀ s ∈ q, s.fits) (hl : q.length ≤ 1099511627776) (i : Nat) (hiv : i ≤ v.l.length) (key : ByteArray) (ok : Bool) (out : List IV) (ho : out.length ≤ 2199023255552) : ∀ (n j : Nat) (ag : Bool), j + n = i →
    ∃ out' : List IV, W f_ref07_elements 3 [.list (p.map Stp.enc), .int i, .str key, .bool ok, .bool ag, .int j, s.enc, v.enc, .list out, .list (q.map Stp.enc)] = W f_ref07_elements 4 [.list (p.map Stp.enc), .int i, s.enc, v.enc, .list out'] ∧ out'.length ≤ out.length + 1 ∧ (out' = [] → out = [])
  | n, j, ag, h => by
    have hm := v.mass_len_l
    have fin : ∃ out' : List IV, (cnd (.bool ag) (
        calls (W f_ref07_at 0 [.list (q.map Stp.enc), (.int 8)]) 1 fun x12 =>
        (O.append 24 (.list out) x12).bind fun x13 =>
        W f_ref07_elements 4 [.list (p.map Stp.enc), .int i, s.enc, v.enc, x13]) (
        W f_ref07_elements 4 [.list (p.map Stp.enc), .int i, s.enc, v.enc, .list out])) = W f_ref07_elements 4 [.list (p.map Stp.enc), .int i, s.enc, v.enc, .list out'] ∧ out'.length ≤ out.length + 1 ∧ (out' = [] → out = []) := by
      cases ag with
      | false => exact ⟨out, by simp, by omega, id⟩
      | true =>
        obtain ⟨e, he⟩ := ev_at q hq hl (.int 8)
        have hap : (out.length + 1) * 24 ≤ maxBytes := app24 (by omega)
        exact ⟨out ++ [e], by simp only [O.cnd_bool, if_true, he, O.calls_1, O.append_list, List.length_singleton, hap, Option.bind_some], by simp, by simp⟩
    rw [e_f_ref07_elements_3]
    by_cases c : j < i
    · obtain ⟨m, rfl⟩ : ∃ m, n = m + 1 := ⟨n - 1, by omega⟩
      have hj : j < v.l.length := by omega
      have hw := next64 (i := j) (by omega)
      have hx := Val.mass_l (List.getElem_mem hj)
      have hc : (j : Int) < i := by omega
      cases ok with
      | false =>
        simp only [O.lt_int, hc, decide_true, Option.bind_some, O.pick_bool, if_true, O.cnd_bool, Bool.false_eq_true, if_false]
        simp only [O.cnd_bool] at fin
        exact fin
      | true =>
        have hk := ev_keyof v.l[j] s.key (by omega)
        simp only [O.lt_int, hc, decide_true, Option.bind_some, O.pick_bool, if_true, O.cnd_bool, Val.proj3, O.index_list, Int.natCast_nonneg, Int.toNat_natCast, List.getElem?_map, List.getElem?_eq_getElem hj, Option.map_some, Sch.proj4, hk, O.calls_2, O.sEq_str, ite_some, ite_ivbool, O.add_int, hw]
        exact elements_3 s v p q hv hq hl i hiv key true out ho m (j + 1) _ (by omega)
    · have hc : ¬ (j : Int) < i := by omega
      simp only [O.lt_int, hc, decide_false, Option.bind_some, O.pick_bool, Bool.false_eq_true, if_false, O.cnd_bool]
      simp only [O.cnd_bool] at fin
      exact fin
theorem elements_2 (s t : Sch) (v : Val) (p : List Stp) (hv : v.mass ≤ 1048576) (hs : s.mass ≤ 1048576) (ht : s.it = [t]) (hp : ∀ s ∈ p, s.fits) (hl : p.length + s.mass ≤ 549755813888)
    (ih : ∀ x ∈ v.l, ∀ q : List Stp, (∀ s ∈ q, s.fits) → q.length + t.mass ≤ 549755813888 → Errs t x q) : ∀ (n i : Nat) (out : List IV), i + n = v.l.length → out.length + (2 + s.mass) * sizeVs (v.l.drop i) ≤ 2199023255552 →
    ∃ es : List IV, W f_ref07_elements 2 [.list (p.map Stp.enc), .int i, s.enc, v.enc, .list out] = some [.list es] ∧ es.length ≤ out.length + (2 + s.mass) * sizeVs (v.l.drop i) ∧ (es = [] → out = [] ∧ ∀ x ∈ v.l.drop i, Known t x)
  | 0, i, out, h, hb => by
    have h1 : ¬ i < v.l.length := by omega
    rw [e_f_ref07_elements_2]
    refine ⟨out, ?_, by omega, fun e => ⟨e, by rw [List.drop_of_length_le (by omega)]; simp⟩⟩
    simp only [Val.proj3, O.len_list, List.length_map, Option.bind_some, O.lt_int, lt_cast, h1, decide_false, O.cnd_bool, Bool.false_eq_true, if_false]
  | n + 1, i, out, h, hb => by
    have hi : i < v.l.length := by omega
    have hm := v.mass_len_l
    have hw := next64 (i := i) (by omega)
    have hx := Val.mass_l (List.getElem_mem hi)
    have htm : t ∈ s.it := by rw [ht]; simp
    have htmass := Sch.mass_it htm
    have hd := List.drop_eq_getElem_cons hi
    rw [hd] at hb ⊢
    simp only [sizeVs, Nat.mul_add] at hb ⊢
    have hsz : (2 + t.mass) * v.l[i].size + 1 ≤ (2 + s.mass) * v.l[i].size := by
      have h1 := v.l[i].size_pos
      have h2 : (3 + t.mass) * v.l[i].size ≤ (2 + s.mass) * v.l[i].size := Nat.mul_le_mul (by omega) (Nat.le_refl _)
      have h3 : (3 + t.mass) * v.l[i].size = (2 + t.mass) * v.l[i].size + v.l[i].size := by rw [show 3 + t.mass = (2 + t.mass) + 1 by omega, Nat.add_mul, Nat.one_mul]
      omega
    -- the step to the element
    have hk := ev_keyof v.l[i] s.key (by omega)
    have hgs := get_size v.l[i] s.key
    have hkey := s.mass_key
    obtain ⟨st, hst, hfit⟩ : ∃ st : Stp, W f_ref07_Element 0 [s.enc, .list (v.l.map Val.enc), .int i] = some [st.enc] ∧ st.fits := by
      rw [e_f_ref07_Element_0]
      simp only [O.index_list, Int.natCast_nonneg, if_true, Int.toNat_natCast, List.getElem?_map, List.getElem?_eq_getElem hi, Option.map_some, Option.bind_some, Sch.proj4, hk, O.calls_2, O.mkagg_eq, O.cnd_bool]
      split
      · exact ⟨⟨3, s.key, 0, ((v.l[i].get s.key).getD zeroVal).s⟩, rfl, by show s.key.size ≤ _; omega, by show ((v.l[i].get s.key).getD zeroVal).s.size ≤ _; omega⟩
      · exact ⟨⟨2, ⟨#[]⟩, i, ⟨#[]⟩⟩, rfl, by show (0 : Nat) ≤ _; omega, by show (0 : Nat) ≤ _; omega⟩
    have hthen := ev_then p st (by omega)
    have hq : ∀ s ∈ p ++ [st], s.fits := by
      intro s hs
      rcases List.mem_append.1 hs with h | h
      · exact hp s h
      · simp at h; subst h; exact hfit
    obtain ⟨es1, he1, he2, he3⟩ := ih _ (List.getElem_mem hi) (p ++ [st]) hq (by simp; omega)
    have hap : (out.length + es1.length) * 24 ≤ maxBytes := app24 (by omega)
    obtain ⟨out', ho1, ho2, ho3⟩ := elements_3 s v p (p ++ [st]) hv hq (by simp; omega) i (by omega) ((v.l[i].get s.key).getD zeroVal).s ((v.l[i].get s.key).isSome && !decide (s.key = emptyB) && decide (((v.l[i].get s.key).getD zeroVal).k = 3)) (out ++ es1) (by rw [List.length_append]; omega) i 0 false (by omega)
    rw [List.length_append] at ho2
    obtain ⟨es, hf1, hf2, hf3⟩ := elements_2 s t v p hv hs ht hp hl ih n (i + 1) out' (by omega) (by omega)
    refine ⟨es, ?_, by omega, fun e => ?_⟩
    · rw [e_f_ref07_elements_2]
      simp only [Val.proj3, O.len_list, List.length_map, Option.bind_some, O.lt_int, lt_cast, hi, decide_true, O.cnd_bool, if_true, hst, O.calls_1, hthen, Sch.proj5, ht, List.map_cons, List.map_nil, O.index_list, Int.le_refl, Int.toNat_zero, List.getElem?_cons_zero, Int.natCast_nonneg, Int.toNat_natCast, List.getElem?_map, List.getElem?_eq_getElem hi, Option.map_some, he1, O.append_list, hap, Sch.proj4, hk, O.calls_2]
      simp only [Int.cast_ofNat_Int] at ho1
      rw [ho1, e_f_ref07_elements_4]
      simp only [O.add_int, hw, Option.bind_some, hf1]
    · obtain ⟨g1, g2⟩ := hf3 e
      have g3 := ho3 g1
      rw [List.append_eq_nil_iff] at g3
      refine ⟨g3.1, fun x hx => ?_⟩
      rcases List.mem_cons.1 hx with rfl | hx
      · exact he3 g3.2
      · exact g2 x hx
end Go.CT.Defs

namespace Go.CT.Defs
open Go.Proofs

theorem members_3 (s : Sch) (v : Val) (p : List Stp) (hv : v.mass ≤ 1048576) (hs : s.mass ≤ 1048576) (hp : ∀ s ∈ p, s.fits) (hl : p.length + s.mass ≤ 549755813888) : ∀ (n i : Nat) (out : List IV), i + n = s.f.length → out.length + n ≤ 4398046511103 →
    ∃ es : List IV, W f_ref07_members 3 [.list (p.map Stp.enc), .int i, s.enc, v.enc, .list out] = some [.list es] ∧ es.length ≤ out.length + n ∧ (es = [] → out = [])
  | 0, i, out, h, hb => by
    have h1 : ¬ i < s.f.length := by omega
    rw [e_f_ref07_members_3]
    refine ⟨out, ?_, by omega, id⟩
    simp only [Sch.proj6, O.len_list, List.length_map, Option.bind_some, O.lt_int, lt_cast, h1, decide_false, O.cnd_bool, Bool.false_eq_true, if_false]
  | n + 1, i, out, h, hb => by
    have hi : i < s.f.length := by omega
    have hm := s.mass_len_f
    have hw := next64 (i := i) (by omega)
    have hsf := Sch.mass_f (List.getElem_mem hi)
    obtain ⟨a, b, c, d, e, o, hpr⟩ := ev_present v s.f[i].nm (by omega)
    have hthen := ev_then p ⟨1, s.f[i].nm, 0, ⟨#[]⟩⟩ (by omega)
    have hq : ∀ t ∈ p ++ [⟨1, s.f[i].nm, 0, ⟨#[]⟩⟩], t.fits := by
      intro t ht
      rcases List.mem_append.1 ht with h | h
      · exact hp t h
      · simp at h; subst h; exact ⟨by show s.f[i].nm.size ≤ _; omega, by show (0 : Nat) ≤ _; omega⟩
    obtain ⟨er, her⟩ := ev_at (p ++ [⟨1, s.f[i].nm, 0, ⟨#[]⟩⟩]) hq (by simp; omega) (.int 7)
    have hap : (out.length + 1) * 24 ≤ maxBytes := app24 (by omega)
    have hmk : O.mkagg [(.int 1), .str s.f[i].nm, (.int 0), (.str ⟨#[]⟩)] = some (Stp.enc ⟨1, s.f[i].nm, 0, ⟨#[]⟩⟩) := rfl
    rw [e_f_ref07_members_3]
    simp only [Sch.proj6, O.len_list, List.length_map, Option.bind_some, O.lt_int, lt_cast, hi, decide_true, O.cnd_bool, if_true, O.index_list, Int.natCast_nonneg, Int.toNat_natCast, List.getElem?_map, List.getElem?_eq_getElem hi, Option.map_some, SFld.proj0, hpr, calls_6, SFld.proj1, O.not_bool, ite_some, ite_ivbool, hmk, hthen, O.calls_1, her, O.append_list, List.length_singleton, hap, e_f_ref07_members_4, O.add_int, hw]
    generalize (if s.f[i].rq = true then !o else false) = g
    cases g with
    | true =>
      obtain ⟨es, h1, h2, h3⟩ := members_3 s v p hv hs hp hl n (i + 1) (out ++ [er]) (by omega) (by simp; omega)
      exact ⟨es, by simp only [if_true, h1], by simp at h2; omega, fun e => by have := h3 e; simp at this⟩
    | false =>
      obtain ⟨es, h1, h2, h3⟩ := members_3 s v p hv hs hp hl n (i + 1) out (by omega) (by omega)
      exact ⟨es, by simp only [Bool.false_eq_true, if_false, h1], by omega, h3⟩

theorem members_1 (s : Sch) (v : Val) (p : List Stp) (hso : SOk s) (hv : v.mass ≤ 1048576) (hs : s.mass ≤ 1048576) (hp : ∀ s ∈ p, s.fits) (hl : p.length + s.mass ≤ 549755813888)
    (ih : ∀ x ∈ v.f, ∀ t, subS s x.1 = some t → ∀ q : List Stp, (∀ s ∈ q, s.fits) → q.length + t.mass ≤ 549755813888 → Errs t x.2 q) : ∀ (n i : Nat) (out : List IV), i + n = v.f.length → out.length + (2 + s.mass) * sizeFs (v.f.drop i) ≤ 2199023255552 →
    ∃ out' : List IV, W f_ref07_members 1 [.list (p.map Stp.enc), .int i, s.enc, v.enc, .list out] = W f_ref07_members 3 [.list (p.map Stp.enc), .int 0, s.enc, v.enc, .list out'] ∧ out'.length ≤ out.length + (2 + s.mass) * sizeFs (v.f.drop i) ∧
      (out' = [] → out = [] ∧ ∀ x ∈ v.f.drop i, (subS s x.1).isSome = true ∧ (x.2.k ≠ 0 → ∀ t, subS s x.1 = some t → Known t x.2))
  | 0, i, out, h, hb => by
    have h1 : ¬ i < v.f.length := by omega
    rw [e_f_ref07_members_1]
    refine ⟨out, ?_, by omega, fun e => ⟨e, by rw [List.drop_of_length_le (by omega)]; simp⟩⟩
    simp only [Val.proj4, O.len_list, List.length_map, Option.bind_some, O.lt_int, lt_cast, h1, decide_false, O.cnd_bool, Bool.false_eq_true, if_false]
  | n + 1, i, out, h, hb => by
    have hi : i < v.f.length := by omega
    have hm := v.mass_len_f
    have hw := next64 (i := i) (by omega)
    have hxm := Val.mass_f (List.getElem_mem hi)
    have hd := List.drop_eq_getElem_cons hi
    rw [hd] at hb ⊢
    have hcons : sizeFs (v.f[i] :: v.f.drop (i + 1)) = v.f[i].2.size + sizeFs (v.f.drop (i + 1)) := rfl
    rw [hcons, Nat.mul_add] at hb ⊢
    have hsz1 : 1 ≤ (2 + s.mass) * v.f[i].2.size := by
      have h1 := v.f[i].2.size_pos
      exact Nat.mul_pos (by omega) h1
    have hthen := ev_then p ⟨1, v.f[i].1, 0, ⟨#[]⟩⟩ (by omega)
    have hq : ∀ t ∈ p ++ [⟨1, v.f[i].1, 0, ⟨#[]⟩⟩], t.fits := by
      intro t ht
      rcases List.mem_append.1 ht with h | h
      · exact hp t h
      · simp at h; subst h; exact ⟨by show v.f[i].1.size ≤ _; omega, by show (0 : Nat) ≤ _; omega⟩
    obtain ⟨er, her⟩ := ev_at (p ++ [⟨1, v.f[i].1, 0, ⟨#[]⟩⟩]) hq (by simp; omega) (.int 1)
    have hap1 : (out.length + 1) * 24 ≤ maxBytes := app24 (by omega)
    have hmk : O.mkagg [(.int 1), .str v.f[i].1, (.int 0), (.str ⟨#[]⟩)] = some (Stp.enc ⟨1, v.f[i].1, 0, ⟨#[]⟩⟩) := rfl
    -- the next index, whatever the list is
    have next : ∀ out1 : List IV, out1.length ≤ out.length + (2 + s.mass) * v.f[i].2.size → (out1 = [] → out = [] ∧ (subS s v.f[i].1).isSome = true ∧ (v.f[i].2.k ≠ 0 → ∀ t, subS s v.f[i].1 = some t → Known t v.f[i].2)) →
        ∃ out' : List IV, W f_ref07_members 2 [.list (p.map Stp.enc), .int i, s.enc, v.enc, .list out1] = W f_ref07_members 3 [.list (p.map Stp.enc), .int 0, s.enc, v.enc, .list out'] ∧ out'.length ≤ out.length + ((2 + s.mass) * v.f[i].2.size + (2 + s.mass) * sizeFs (v.f.drop (i + 1))) ∧
        (out' = [] → out = [] ∧ ∀ x ∈ v.f[i] :: v.f.drop (i + 1), (subS s x.1).isSome = true ∧ (x.2.k ≠ 0 → ∀ t, subS s x.1 = some t → Known t x.2)) := by
      intro out1 ho1 ho2
      obtain ⟨out', g1, g2, g3⟩ := members_1 s v p hso hv hs hp hl ih n (i + 1) out1 (by omega) (by omega)
      refine ⟨out', ?_, by omega, fun e => ?_⟩
      · rw [e_f_ref07_members_2]
        simp only [O.add_int, hw, Option.bind_some, g1]
      · obtain ⟨k1, k2⟩ := g3 e
        obtain ⟨k3, k4⟩ := ho2 k1
        refine ⟨k3, fun x hx => ?_⟩
        rcases List.mem_cons.1 hx with rfl | hx
        · exact k4
        · exact k2 x hx
    -- the errors of the field's value
    have call : ∀ t, subS s v.f[i].1 = some t → ∃ es1 : List IV, W f_ref07_errors 0 [t.enc, v.f[i].2.enc, .list ((p ++ [(⟨1, v.f[i].1, 0, ⟨#[]⟩⟩ : Stp)]).map Stp.enc)] = some [.list es1] ∧ es1.length ≤ (2 + s.mass) * v.f[i].2.size ∧ (es1 = [] → Known t v.f[i].2) ∧ (out.length + es1.length) * 24 ≤ maxBytes := by
      intro t ht
      have htm := subS_mass ht
      obtain ⟨es1, e1, e2, e3⟩ := ih _ (List.getElem_mem hi) t ht (p ++ [⟨1, v.f[i].1, 0, ⟨#[]⟩⟩]) hq (by simp; omega)
      have : (2 + t.mass) * v.f[i].2.size ≤ (2 + s.mass) * v.f[i].2.size := Nat.mul_le_mul (by omega) (Nat.le_refl _)
      exact ⟨es1, e1, by omega, e3, app24 (by omega)⟩
    have hone := hso.one
    rw [e_f_ref07_members_1]
    simp only [Val.proj4, O.len_list, List.length_map, Option.bind_some, O.lt_int, lt_cast, hi, decide_true, O.cnd_bool, if_true, O.index_list, Int.natCast_nonneg, Int.toNat_natCast, List.getElem?_map, List.getElem?_eq_getElem hi, Option.map_some, Fld.proj0, hmk, hthen, O.calls_1, ev_field s _ (by omega), O.calls_2, Sch.proj5, O.eq_int, O.not_bool, Fld.proj1, O.ne_int]
    by_cases hit : s.it.length = 1
    · obtain ⟨t, ht⟩ := List.length_eq_one_iff.1 hit
      have hsub : subS s v.f[i].1 = some t := by unfold subS; rw [if_pos hit, ht]; rfl
      obtain ⟨es1, c1, c2, c3, c4⟩ := call t hsub
      by_cases hk : v.f[i].2.k = 0
      · have := next out (by omega) (fun e => ⟨e, by rw [hsub]; rfl, fun h => absurd hk h⟩)
        simpa [ht, hk] using this
      · have := next (out ++ es1) (by rw [List.length_append]; omega) (fun e => by
          rw [List.append_eq_nil_iff] at e
          exact ⟨e.1, by rw [hsub]; rfl, fun _ t' ht' => by rw [hsub] at ht'; injection ht' with ht'; subst ht'; exact c3 e.2⟩)
        simp only [ht, O.cnd_bool, List.length_singleton, Int.cast_ofNat_Int, Int.reduceEq, Option.map_some, decide_false, Bool.false_eq_true, if_false, Option.bind_some, hk, Bool.not_false, if_true, decide_true, List.map_cons, List.map_nil, O.index_list, Int.le_refl, Int.toNat_zero, List.getElem?_cons_zero, Fld.projV, c1, O.calls_1, O.append_list, c4]
        exact this
    · have hit0 : s.it.length = 0 := by omega
      have hit0' : (s.it.length : Int) = 0 := by omega
      have hsub : subS s v.f[i].1 = (s.fld v.f[i].1).map (·.s) := by unfold subS; rw [if_neg hit]
      cases hf : s.fld v.f[i].1 with
      | none =>
        have := next (out ++ [er]) (by simp; omega) (fun e => by simp at e)
        simp only [hit0', decide_true, if_true, Option.isSome_none, Bool.not_false, Option.bind_some, her, O.calls_1, O.append_list, List.length_singleton, hap1]
        exact this
      | some q =>
        have hsub' : subS s v.f[i].1 = some q.s := by rw [hsub, hf]; rfl
        obtain ⟨es1, c1, c2, c3, c4⟩ := call q.s hsub'
        by_cases hk : v.f[i].2.k = 0
        · have := next out (by omega) (fun e => ⟨e, by rw [hsub']; rfl, fun h => absurd hk h⟩)
          simpa [hit0', hk] using this
        · have := next (out ++ es1) (by rw [List.length_append]; omega) (fun e => by
            rw [List.append_eq_nil_iff] at e
            exact ⟨e.1, by rw [hsub']; rfl, fun _ t' ht' => by rw [hsub'] at ht'; injection ht' with ht'; subst ht'; exact c3 e.2⟩)
          simp only [hit0', O.cnd_bool, Int.reduceEq, decide_true, decide_false, if_true, Option.isSome_some, Bool.not_true, Bool.false_eq_true, if_false, Option.bind_some, hk, Bool.not_false, Option.getD_some, SFld.projS, Fld.projV, c1, O.calls_1, O.append_list, c4]
          exact this

theorem errors_all : ∀ s : Sch, SOk s → s.mass ≤ 1048576 → ∀ (v : Val) (p : List Stp), v.mass ≤ 1048576 → (∀ s ∈ p, s.fits) → p.length + s.mass ≤ 549755813888 → Errs s v p := by
  refine Sch.ind fun s ih1 ih2 hso hs v p hv hp hl => ?_
  have hat : ∀ c : IV, ∃ e, W f_ref07_at 0 [.list (p.map Stp.enc), c] = some [.list [e]] := ev_at p hp (by omega)
  have hsize : (2 + s.mass) * v.size = (2 + s.mass) * (1 + sizeVs v.l + sizeFs v.f) := by rw [v.size_eq]
  rw [Nat.mul_add, Nat.mul_add, Nat.mul_one] at hsize
  have hvs := v.size_mass
  have hbig : (2 + s.mass) * v.size ≤ 1048578 * 1048576 := Nat.mul_le_mul (by omega) (by omega)
  unfold Errs
  rw [e_f_ref07_errors_0]
  simp only [Val.proj0, Sch.proj0, Option.bind_some, O.ne_int, O.cnd_bool, O.eq_int]
  by_cases hk : v.k = s.k
  · simp only [hk, decide_true, Bool.not_true, Bool.false_eq_true, if_false]
    have leaf : s.k ≠ 4 → s.k ≠ 5 → Known s v := fun h4 h5 => .leaf s v hk (by omega) (by omega)
    by_cases k2 : s.k = 2
    · obtain ⟨e, he⟩ := hat (.int 5)
      by_cases a1 : v.n < s.mn
      · exact ⟨[e], by simp [k2, a1, he], by simp; omega, fun _ => leaf (by omega) (by omega)⟩
      · by_cases a2 : s.mx < v.n
        · exact ⟨[e], by simp [k2, a1, a2, he], by simp; omega, fun _ => leaf (by omega) (by omega)⟩
        · exact ⟨[], by simp [k2, a1, a2], by simp, fun _ => leaf (by omega) (by omega)⟩
    · simp only [k2, decide_false, Bool.false_eq_true, if_false]
      by_cases k3 : s.k = 3
      · obtain ⟨e, he⟩ := hat (.int 5)
        obtain ⟨es, h1, h2⟩ := errors_1 s v p hp (by omega) (by omega) s.en.length 0 (by omega)
        simp only [Int.cast_ofNat_Int] at h1
        by_cases a1 : (v.s.size : Int) < s.mn
        · exact ⟨[e], by simp [k3, a1, he], by simp; omega, fun _ => leaf (by omega) (by omega)⟩
        · by_cases a2 : s.mx < (v.s.size : Int)
          · exact ⟨[e], by simp [k3, a1, a2, he], by simp; omega, fun _ => leaf (by omega) (by omega)⟩
          · exact ⟨es, by simp [k3, a1, a2, h1], by omega, fun _ => leaf (by omega) (by omega)⟩
      · simp only [k3, decide_false, Bool.false_eq_true, if_false]
        by_cases k4 : s.k = 4
        · obtain ⟨t, ht⟩ := List.length_eq_one_iff.1 (hso.list k4)
          have htm : t ∈ s.it := by rw [ht]; simp
          have hmt := Sch.mass_it htm
          have hel : ∀ out : List IV, out.length ≤ 1 → ∃ es : List IV, W f_ref07_elements 1 [.list (p.map Stp.enc), s.enc, v.enc, .list out] = some [.list es] ∧ es.length ≤ (2 + s.mass) * v.size ∧ (es = [] → Known s v) := by
            intro out ho
            obtain ⟨es, h1, h2, h3⟩ := elements_2 s t v p hv hs ht hp hl (fun x hx q hq hql => ih1 t htm (hso.mem_it htm) (by omega) x q (by have := Val.mass_l hx; omega) hq hql) v.l.length 0 out (by omega) (by rw [List.drop_zero]; omega)
            rw [List.drop_zero] at h2 h3
            refine ⟨es, ?_, by omega, fun e => .list s v t hk (by omega) ht (h3 e).2⟩
            rw [e_f_ref07_elements_1]
            exact h1
          have : ∃ es : List IV, W f_ref07_elements 0 [s.enc, v.enc, .list (p.map Stp.enc)] = some [.list es] ∧ es.length ≤ (2 + s.mass) * v.size ∧ (es = [] → Known s v) := by
            rw [e_f_ref07_elements_0]
            obtain ⟨e, he⟩ := hat (.int 5)
            have hap : (0 + 1) * 24 ≤ maxBytes := app24 (by omega)
            by_cases a1 : (v.l.length : Int) < s.mn
            · obtain ⟨es, h1, h2, h3⟩ := hel [e] (by simp)
              exact ⟨es, by simp [a1, he, hap, h1], h2, h3⟩
            · by_cases a2 : s.mx < (v.l.length : Int)
              · obtain ⟨es, h1, h2, h3⟩ := hel [e] (by simp)
                exact ⟨es, by simp [a1, a2, he, hap, h1], h2, h3⟩
              · obtain ⟨es, h1, h2, h3⟩ := hel [] (by simp)
                exact ⟨es, by simp [a1, a2, h1], h2, h3⟩
          obtain ⟨es, h1, h2, h3⟩ := this
          exact ⟨es, by simp only [k4, decide_true, if_true, h1, O.calls_1], h2, h3⟩
        · simp only [k4, decide_false, Bool.false_eq_true, if_false]
          by_cases k5 : s.k = 5
          · obtain ⟨out', h1, h2, h3⟩ := members_1 s v p hso hv hs hp hl (fun x hx t ht q hq hql => by
              have htm := subS_mass ht
              rcases subS_mem ht with h | ⟨g, hg, _, rfl⟩
              · exact ih1 t h (hso.mem_it h) (by omega) x.2 q (by have := Val.mass_f hx; omega) hq hql
              · exact ih2 g hg (hso.mem_f hg) (by omega) x.2 q (by have := Val.mass_f hx; omega) hq hql) v.f.length 0 [] (by omega) (by rw [List.drop_zero]; simp only [List.length_nil]; omega)
            rw [List.drop_zero] at h2 h3
            simp only [List.length_nil] at h2
            have hlf := s.mass_len_f
            obtain ⟨es, g1, g2, g3⟩ := members_3 s v p hv hs hp hl s.f.length 0 out' (by omega) (by omega)
            refine ⟨es, ?_, by omega, fun e => ?_⟩
            · simp only [k5, decide_true, if_true, e_f_ref07_members_0]
              simp only [Int.cast_ofNat_Int] at h1 g1
              rw [h1, g1]; rfl
            · have := (h3 (g3 e)).2
              exact .map s v hk (by omega) (fun x hx => (this x hx).1) (fun x hx => (this x hx).2)
          · exact ⟨[], by simp only [k5, decide_false, Bool.false_eq_true, if_false], by simp, fun _ => leaf k4 k5⟩
  · obtain ⟨e, he⟩ := hat (.int 6)
    refine ⟨[e], by simp only [hk, decide_false, Bool.not_false, if_true, he, O.calls_1], by simp; omega, by simp⟩
end Go.CT.Defs

namespace Go.CT.Defs
open Go.Proofs

theorem ev_plain (s : Sch) : W f_ref07_plain 0 [s.enc] = some [.bool (decide (s.key = emptyB) && (decide (s.it.length = 0) && decide (s.f.length = 0)))] := by
  rw [e_f_ref07_plain_0]
  simp only [Sch.proj4, Sch.proj5, Sch.proj6, Option.bind_some, O.sEq_str, O.len_list, List.length_map, O.eq_int, O.cnd_bool, emptyB]
  by_cases h1 : s.key = ⟨#[]⟩ <;> by_cases h2 : s.it.length = 0 <;> by_cases h3 : s.f.length = 0 <;> simp [h1, h2, h3] <;> omega
theorem SOk_leaf {s : Sch} (h4 : s.k ≠ 4) (h1 : s.it.length = 0) (h2 : s.f.length = 0) : SOk s := by
  have e1 : s.it = [] := List.length_eq_zero_iff.1 h1
  have e2 : s.f = [] := List.length_eq_zero_iff.1 h2
  refine .mk s (by omega) (fun _ => e2) (fun h => absurd h h4) ?_ ?_ ?_ ?_ ?_ <;> simp [e1, e2]
theorem ev_text_1 (s : Sch) (hs : s.mass ≤ 1048576) : ∀ (n i : Nat), i + n = s.en.length → ∃ b, W f_ref07_text 1 [.int i, s.enc] = some [.bool b] ∧ (b = true → s.it.length = 0 ∧ s.f.length = 0)
  | 0, i, h => by
    have h1 : ¬ i < s.en.length := by omega
    rw [e_f_ref07_text_1]
    simp only [Sch.proj1, Sch.proj2, Sch.proj3, O.len_list, List.length_map, Option.bind_some, O.lt_int, lt_cast, h1, decide_false, O.cnd_bool, Bool.false_eq_true, if_false, ev_plain, O.calls_1, O.ge_int, O.le_int, ite_some, ite_ivbool]
    refine ⟨_, rfl, fun h => ?_⟩
    by_cases g : (decide (s.key = emptyB) && (decide (s.it.length = 0) && decide (s.f.length = 0))) = true
    · simp only [Bool.and_eq_true, decide_eq_true_eq] at g
      exact ⟨g.2.1, g.2.2⟩
    · have g' : (decide (s.key = emptyB) && (decide (s.it.length = 0) && decide (s.f.length = 0))) = false := by simpa using g
      rw [g'] at h
      simp at h
  | n + 1, i, h => by
    have hi : i < s.en.length := by omega
    have hm := s.mass_len_en
    have hw := next64 (i := i) (by omega)
    have hsz := Sch.mass_en (List.getElem_mem hi)
    obtain ⟨b, hb, hb2⟩ := ev_text_1 s hs n (i + 1) (by omega)
    rw [e_f_ref07_text_1]
    simp only [Sch.proj1, Sch.proj2, Sch.proj3, O.len_list, List.length_map, Option.bind_some, O.lt_int, lt_cast, hi, decide_true, O.cnd_bool, if_true, O.index_list, Int.natCast_nonneg, Int.toNat_natCast, List.getElem?_map, List.getElem?_eq_getElem hi, Option.map_some, O.slen_str, ref_str s.en[i] (by omega), O.calls_1, O.not_bool, O.gt_int, ite_some, ite_ivbool, O.add_int, hw, hb]
    generalize (if (!okStr s.en[i]) = true then true else decide ((s.en[i].size : Int) < s.mn)) = c1
    generalize (if c1 = true then true else decide (s.mx < (s.en[i].size : Int))) = c2
    by_cases hi0 : (0 : Int) < i
    · have hw2 : IntKind.i64.wrap ((i : Int) - 1) = ((i - 1 : Nat) : Int) := by rw [wrap64 (by omega) (by omega)]; omega
      have hi1 : i - 1 < s.en.length := by omega
      simp only [hi0, decide_true, if_true, O.sub_int, hw2, Option.bind_some, O.index_list, Int.natCast_nonneg, Int.toNat_natCast, List.getElem?_map, List.getElem?_eq_getElem hi1, Option.map_some, sLe_blt, ite_some, ite_ivbool]
      generalize (if c2 = true then true else !blt s.en[i - 1] s.en[i]) = c3
      cases c3 with
      | true => exact ⟨false, by simp, by simp⟩
      | false => exact ⟨b, by simp, hb2⟩
    · simp only [hi0, decide_false, Bool.false_eq_true, if_false, Option.bind_some, ite_some, ite_ivbool]
      cases c2 with
      | true => exact ⟨false, by simp, by simp⟩
      | false => exact ⟨b, by simp, hb2⟩

/-- Names rise, after a name. -/
def RisS : Option ByteArray → List SFld → Prop
  | _, [] => True
  | o, p :: r => (∀ q, o = some q → blt q p.nm = true) ∧ RisS (some p.nm) r
theorem RisS_pair : ∀ (l : List SFld) (o : Option ByteArray), RisS o l → l.Pairwise (fun a b => blt a.nm b.nm = true) ∧ ∀ q, o = some q → ∀ p ∈ l, blt q p.nm = true
  | [], _, _ => ⟨List.Pairwise.nil, by simp⟩
  | p :: r, o, h => by
    obtain ⟨h1, h2⟩ := RisS_pair r _ h.2
    refine ⟨List.pairwise_cons.2 ⟨h2 _ rfl, h1⟩, fun q hq x hx => ?_⟩
    rcases List.mem_cons.1 hx with rfl | hx
    · exact h.1 q hq
    · exact blt_trans (h.1 q hq) (h2 _ rfl x hx)
def prevS (l : List SFld) : Nat → Option ByteArray
  | 0 => none
  | i + 1 => (l[i]?).map (·.nm)
/-- A good field. -/
def FOk (p : SFld) : Prop := SOk p.s ∧ p.df.length ≤ 1 ∧ ∀ d ∈ p.df, VOk d ∧ d.k ≠ 0 ∧ Known p.s d
theorem ev_struct_1 (d : Nat) (s : Sch) (hd : d ≤ 12) (hs : s.mass ≤ 1048576) (ih : ∀ p ∈ s.f, ∃ b, W f_ref07_valid 0 [p.s.enc, .int d] = some [.bool b] ∧ (b = true → SOk p.s)) : ∀ (n i : Nat), i + n = s.f.length →
    ∃ b, W f_ref07_structure 1 [.int ((d + 1 : Nat) : Int), .int i, s.enc] = some [.bool b] ∧ (b = true → RisS (prevS s.f i) (s.f.drop i) ∧ ∀ p ∈ s.f.drop i, FOk p)
  | 0, i, h => by
    have h1 : ¬ i < s.f.length := by omega
    rw [e_f_ref07_structure_1]
    refine ⟨true, ?_, fun _ => ?_⟩
    · simp only [Sch.proj6, O.len_list, List.length_map, Option.bind_some, O.lt_int, lt_cast, h1, decide_false, O.cnd_bool, Bool.false_eq_true, if_false]
    · rw [List.drop_of_length_le (by omega)]; exact ⟨trivial, by simp⟩
  | n + 1, i, h => by
    have hi : i < s.f.length := by omega
    have hm := s.mass_len_f
    have hsm := Sch.mass_f (List.getElem_mem hi)
    have hw := next64 (i := i) (by omega)
    have hwd : IntKind.i64.wrap (((d + 1 : Nat) : Int) - 1) = (d : Int) := by rw [wrap64 (by omega) (by omega)]; omega
    obtain ⟨bv, hbv, hbv2⟩ := ih _ (List.getElem_mem hi)
    obtain ⟨b, hb, hb2⟩ := ev_struct_1 d s hd hs ih n (i + 1) (by omega)
    -- not less than the name before
    have hprev : ∃ c : Bool, ((O.gt (.int i) (.int 0)).bind fun x10 =>
        (cnd x10 (
            (O.sub .i64 (.int i) (.int 1)).bind fun x11 =>
            (O.index (.list (s.f.map SFld.enc)) x11).bind fun x12 =>
            (O.proj 0 x12).bind fun x13 =>
            (O.sLe (.str s.f[i].nm) x13).bind fun x14 =>
            some x14) (some (.bool false))).bind fun x11 =>
        some x11) = some (.bool c) ∧ (c = false → ∀ q, prevS s.f i = some q → blt q s.f[i].nm = true) := by
      cases i with
      | zero => exact ⟨false, rfl, fun _ q hq => by simp [prevS] at hq⟩
      | succ j =>
        have hi0 : (0 : Int) < ((j + 1 : Nat) : Int) := by omega
        have hw2 : IntKind.i64.wrap (((j + 1 : Nat) : Int) - 1) = ((j : Nat) : Int) := by rw [wrap64 (by omega) (by omega)]; omega
        have hi1 : j < s.f.length := by omega
        refine ⟨!blt s.f[j].nm s.f[j + 1].nm, ?_, fun h q hq => ?_⟩
        · simp only [O.gt_int, hi0, decide_true, Option.bind_some, O.cnd_bool, if_true, O.sub_int, hw2, O.index_list, Int.natCast_nonneg, Int.toNat_natCast, List.getElem?_map, List.getElem?_eq_getElem hi1, Option.map_some, SFld.proj0, sLe_blt]
        · simp only [prevS, List.getElem?_eq_getElem hi1, Option.map_some, Option.some.injEq] at hq
          subst hq
          simpa using h
    obtain ⟨c, hc, hc2⟩ := hprev
    -- the default
    have hdef : bv = true → s.f[i].df.length ≤ 1 → ∃ c : Bool, (∀ K : IV → Option (List IV), ((O.eq (.int s.f[i].df.length) (.int 1)).bind fun x15 =>
      ((cnd x15 (
          (O.index (.list (s.f[i].df.map Val.enc)) (.int 0)).bind fun x16 =>
          (O.proj 0 x16).bind fun x17 =>
          (O.eq x17 (.int 0)).bind fun x18 =>
          (cnd x18 (some (.bool true)) (
              calls (W f_ref04_Valid 0 [x16]) 1 fun x19 =>
              (O.not x19).bind fun x20 =>
              some x20)).bind fun x19 =>
          (cnd x19 (some (.bool true)) (
              calls (W f_ref07_errors 0 [s.f[i].s.enc, x16, (.list [])]) 1 fun x21 =>
              (O.len x21).bind fun x22 =>
              (O.gt x22 (.int 0)).bind fun x23 =>
              some x23)).bind fun x20 =>
          some x20) (some (.bool false))).bind K)) = K (.bool c)) ∧ (c = false → ∀ d ∈ s.f[i].df, VOk d ∧ d.k ≠ 0 ∧ Known s.f[i].s d) := by
      intro hb hlen
      by_cases h1 : s.f[i].df.length = 1
      · obtain ⟨v, hv⟩ := List.length_eq_one_iff.1 h1
        have hvm := Sch.mass_d (List.getElem_mem hi) (show v ∈ s.f[i].df by rw [hv]; simp)
        obtain ⟨es, e1, e2, e3⟩ := errors_all s.f[i].s (hbv2 hb) (by omega) v [] (by omega) (by simp) (by simp; omega)
        simp only [List.map_nil] at e1
        have hV := ref_Valid v (by omega)
        rw [hv]
        by_cases k0 : v.k = 0
        · exact ⟨true, fun K => by simp [k0], by simp⟩
        · cases hval : v.valid with
          | false => exact ⟨true, fun K => by simp [k0, hV, hval], by simp⟩
          | true =>
            by_cases he : es = []
            · refine ⟨false, fun K => by simp [k0, hV, hval, e1, he], fun _ d hd => ?_⟩
              simp at hd; subst hd
              exact ⟨VOk_valid hval, k0, e3 he⟩
            · have : 0 < es.length := List.length_pos_iff.2 he
              exact ⟨true, fun K => by simp [k0, hV, hval, e1, this], by simp⟩
      · have h0 : s.f[i].df = [] := List.length_eq_zero_iff.1 (by omega)
        exact ⟨false, fun K => by simp [h0], by simp [h0]⟩
    have hix : O.index (.list (s.f.map SFld.enc)) (.int i) = some s.f[i].enc := by
      simp only [O.index_list, Int.natCast_nonneg, if_true, Int.toNat_natCast, List.getElem?_map, List.getElem?_eq_getElem hi, Option.map_some]
    have hsub : O.sub .i64 (.int ((d + 1 : Nat) : Int)) (.int 1) = some (.int d) := by rw [O.sub_int, hwd]
    have hadd : O.add .i64 (.int i) (.int 1) = some (.int ((i + 1 : Nat) : Int)) := by rw [O.add_int, hw]
    rw [e_f_ref07_structure_1]
    simp only [Sch.proj6, O.len_list, List.length_map, Option.bind_some, O.lt_int, lt_cast, hi, decide_true, O.cnd_bool, if_true, hix, SFld.proj0, SFld.proj3, SFld.projS, ref_name s.f[i].nm (by omega), O.calls_1, O.not_bool, hsub, hbv, hadd, hb]
    by_cases hn : okName s.f[i].nm = true
    · simp only [hn, Bool.not_true, Bool.false_eq_true, if_false]
      rw [hc]
      cases c with
      | true => exact ⟨false, by simp, by simp⟩
      | false =>
        cases bv with
        | false => exact ⟨false, by simp, by simp⟩
        | true =>
          by_cases hlen : s.f[i].df.length ≤ 1
          · have hlen' : ¬ (1 : Int) < s.f[i].df.length := by omega
            obtain ⟨c', hc', hc2'⟩ := hdef rfl hlen
            simp only [Option.bind_some, Bool.false_eq_true, if_false, Bool.not_true, O.gt_int, hlen', decide_false, O.cnd_bool]
            rw [hc']
            cases c' with
            | true => exact ⟨false, by simp, by simp⟩
            | false =>
              refine ⟨b, by simp, fun hbt => ?_⟩
              obtain ⟨r1, r2⟩ := hb2 hbt
              rw [List.drop_eq_getElem_cons hi]
              refine ⟨⟨hc2 rfl, ?_⟩, fun p hp => ?_⟩
              · have : prevS s.f (i + 1) = some s.f[i].nm := by simp only [prevS, List.getElem?_eq_getElem hi, Option.map_some]
                rw [this] at r1; exact r1
              · rcases List.mem_cons.1 hp with rfl | hp
                · exact ⟨hbv2 rfl, hlen, hc2' rfl⟩
                · exact r2 p hp
          · have hlen' : (1 : Int) < s.f[i].df.length := by omega
            exact ⟨false, by simp [hlen'], by simp⟩
    · have hn' : okName s.f[i].nm = false := by simpa using hn
      exact ⟨false, by simp [hn'], by simp⟩
end Go.CT.Defs

namespace Go.CT.Defs
open Go.Proofs

theorem ev_list (d : Nat) (s : Sch) (hd : d ≤ 12) (hs : s.mass ≤ 1048576) (hk : s.k = 4) (ih : ∀ t ∈ s.it, ∃ b, W f_ref07_valid 0 [t.enc, .int d] = some [.bool b] ∧ (b = true → SOk t)) :
    ∃ b, W f_ref07_list 0 [s.enc, .int ((d + 1 : Nat) : Int)] = some [.bool b] ∧ (b = true → SOk s) := by
  have hwd : IntKind.i64.wrap (((d + 1 : Nat) : Int) - 1) = (d : Int) := by rw [wrap64 (by omega) (by omega)]; omega
  have hsub : O.sub .i64 (.int ((d + 1 : Nat) : Int)) (.int 1) = some (.int d) := by rw [O.sub_int, hwd]
  rw [e_f_ref07_list_0]
  simp only [Sch.proj1, Sch.proj2, Sch.proj3, Sch.proj5, Sch.proj6, O.len_list, List.length_map, Option.bind_some, O.lt_int, O.gt_int, O.ne_int, O.cnd_bool, ite_some, ite_ivbool]
  generalize (if decide (s.mn < 0) = true then true else decide (s.mx < s.mn)) = c1
  generalize (if c1 = true then true else decide ((64 : Int) < s.mx)) = c2
  generalize (if c2 = true then true else decide ((0 : Int) < (s.en.length : Int))) = c3
  cases c3 with
  | true => exact ⟨false, by simp, by simp⟩
  | false =>
    by_cases hf : s.f.length = 0
    · have hf0 : s.f = [] := List.length_eq_zero_iff.1 hf
      have hf' : ¬ (0 : Int) < (s.f.length : Int) := by omega
      by_cases hi : s.it.length = 1
      · obtain ⟨t, ht⟩ := List.length_eq_one_iff.1 hi
        have htm : t ∈ s.it := by rw [ht]; simp
        have hmt := Sch.mass_it htm
        obtain ⟨b, hb, hb2⟩ := ih t htm
        have hso : b = true → SOk s := fun h => by
          refine .mk s (by omega) (fun _ => hf0) (fun _ => hi) ?_ (fun x hx => ?_) ?_ ?_ ?_
          · rw [hf0]; exact List.Pairwise.nil
          · rw [ht] at hx; simp at hx; subst hx; exact hb2 h
          · simp [hf0]
          · simp [hf0]
          · simp [hf0]
        have hl1 : W f_ref07_list 1 [.int ((d + 1 : Nat) : Int), s.enc] = some [.bool b] := by
          rw [e_f_ref07_list_1]
          simp only [Sch.proj5, ht, List.map_cons, List.map_nil, Option.bind_some, O.index_list, Int.le_refl, if_true, Int.toNat_zero, List.getElem?_cons_zero, hsub, hb, O.calls_1]
        have hi' : (s.it.length : Int) = 1 := by omega
        simp only [Bool.false_eq_true, if_false, hf', decide_false, hi', decide_true, Bool.not_true, Sch.proj4, Option.bind_some, O.sNe_str, O.cnd_bool, hl1]
        by_cases hk : s.key = ⟨#[]⟩
        · exact ⟨b, by simp [hk], hso⟩
        · have hfd := ev_field t s.key (by omega)
          simp only [hk, decide_false, Bool.not_false, if_true, ht, List.map_cons, List.map_nil, O.index_list, Int.le_refl, Int.toNat_zero, List.getElem?_cons_zero, Option.bind_some, hfd, O.calls_2, Sch.proj0, SFld.proj1, SFld.proj4, O.ne_int, O.not_bool, O.cnd_bool, ite_some, ite_ivbool]
          generalize (if (!decide (t.k = 5)) = true then true else !(t.fld s.key).isSome) = e1
          generalize (if e1 = true then true else !((t.fld s.key).getD zeroSF).rq) = e2
          generalize (if e2 = true then true else !decide (((t.fld s.key).getD zeroSF).s.k = 3)) = e3
          cases e3 with
          | true => exact ⟨false, by simp, by simp⟩
          | false => exact ⟨b, by simp, hso⟩
      · have hi' : ¬ (s.it.length : Int) = 1 := by omega
        exact ⟨false, by simp only [Bool.false_eq_true, if_false, hi', hf', decide_false, Bool.not_false, if_true], by simp⟩
    · have hf' : (0 : Int) < (s.f.length : Int) := by omega
      exact ⟨false, by simp only [Bool.false_eq_true, if_false, hf', decide_true, if_true], by simp⟩

theorem ev_struct (d : Nat) (s : Sch) (hd : d ≤ 12) (hs : s.mass ≤ 1048576) (hk : s.k = 5) (ih1 : ∀ t ∈ s.it, ∃ b, W f_ref07_valid 0 [t.enc, .int d] = some [.bool b] ∧ (b = true → SOk t))
    (ih2 : ∀ p ∈ s.f, ∃ b, W f_ref07_valid 0 [p.s.enc, .int d] = some [.bool b] ∧ (b = true → SOk p.s)) :
    ∃ b, W f_ref07_structure 0 [s.enc, .int ((d + 1 : Nat) : Int)] = some [.bool b] ∧ (b = true → SOk s) := by
  have hwd : IntKind.i64.wrap (((d + 1 : Nat) : Int) - 1) = (d : Int) := by rw [wrap64 (by omega) (by omega)]; omega
  have hsub : O.sub .i64 (.int ((d + 1 : Nat) : Int)) (.int 1) = some (.int d) := by rw [O.sub_int, hwd]
  have hwd2 : IntKind.i64.wrap (d : Int) = (d : Int) := wrap64 (by omega) (by omega)
  rw [e_f_ref07_structure_0]
  simp only [Sch.proj1, Sch.proj2, Sch.proj3, Sch.proj4, Sch.proj5, Sch.proj6, O.len_list, List.length_map, Option.bind_some, O.sNe_str, O.gt_int, O.eq_int, O.ne_int, O.cnd_bool, ite_some, ite_ivbool]
  generalize (if (!decide (s.mn = 0)) = true then true else !decide (s.mx = 0)) = c1
  generalize (if c1 = true then true else decide ((0 : Int) < (s.en.length : Int))) = c2
  generalize (if c2 = true then true else !decide (s.key = ⟨#[]⟩)) = c3
  cases c3 with
  | true => exact ⟨false, by simp, by simp⟩
  | false =>
    by_cases h1 : s.it.length = 1
    · have h1' : (s.it.length : Int) = 1 := by omega
      by_cases hf : s.f.length = 0
      · have hf0 : s.f = [] := List.length_eq_zero_iff.1 hf
        have hf' : (s.f.length : Int) = 0 := by omega
        obtain ⟨t, ht⟩ := List.length_eq_one_iff.1 h1
        have htm : t ∈ s.it := by rw [ht]; simp
        obtain ⟨b, hb, hb2⟩ := ih1 t htm
        refine ⟨b, ?_, fun h => ?_⟩
        · simp [ht, hf', hwd2, hb]
        · refine .mk s (by omega) (fun _ => hf0) (fun _ => h1) ?_ (fun x hx => ?_) ?_ ?_ ?_
          · rw [hf0]; exact List.Pairwise.nil
          · rw [ht] at hx; simp at hx; subst hx; exact hb2 h
          · simp [hf0]
          · simp [hf0]
          · simp [hf0]
      · have hf' : (0 : Int) < (s.f.length : Int) := by omega
        exact ⟨false, by
          have h1'' : ¬ (1 : Int) < (s.it.length : Int) := by omega
          simp only [Bool.false_eq_true, if_false, h1', h1'', hf', decide_false, decide_true, if_true, ite_self], by simp⟩
    · have h1' : ¬ (s.it.length : Int) = 1 := by omega
      by_cases h2 : 1 < s.it.length
      · have h2' : (1 : Int) < (s.it.length : Int) := by omega
        exact ⟨false, by simp [h2'], by simp⟩
      · have h2' : ¬ (1 : Int) < (s.it.length : Int) := by omega
        have h0 : s.it = [] := List.length_eq_zero_iff.1 (by omega)
        obtain ⟨b, hb, hb2⟩ := ev_struct_1 d s hd hs ih2 s.f.length 0 (by omega)
        simp only [Int.cast_ofNat_Int, List.drop_zero] at hb hb2
        by_cases h3 : (64 : Int) < (s.f.length : Int)
        · exact ⟨false, by simp [h1', h2', h3], by simp⟩
        · refine ⟨b, ?_, fun h => ?_⟩
          · simp only [Bool.false_eq_true, if_false, h2', decide_false, h1', h3, hb]
          · obtain ⟨r1, r2⟩ := hb2 h
            exact .mk s (by omega) (fun hn => absurd h0 hn) (fun h4 => by omega) (RisS_pair _ _ r1).1 (by simp [h0]) (fun p hp => (r2 p hp).1) (fun p hp => (r2 p hp).2.1) (fun p hp => (r2 p hp).2.2)

theorem ev_svalid : ∀ (d : Nat) (s : Sch), d ≤ 12 → s.mass ≤ 1048576 → ∃ b, W f_ref07_valid 0 [s.enc, .int d] = some [.bool b] ∧ (b = true → SOk s)
  | 0, s, hd, hs => ⟨false, by rw [e_f_ref07_valid_0]; simp, by simp⟩
  | d + 1, s, hd, hs => by
    have hd0 : ¬ ((d + 1 : Nat) : Int) = 0 := by omega
    rw [e_f_ref07_valid_0]
    simp only [O.eq_int, hd0, decide_false, Option.bind_some, O.cnd_bool, Bool.false_eq_true, if_false, Sch.proj0, Sch.proj1, Sch.proj2, Sch.proj3, ev_plain, O.calls_1, O.le_int, O.len_list, List.length_map]
    have leaf : s.k ≠ 4 → (decide (s.key = emptyB) && (decide (s.it.length = 0) && decide (s.f.length = 0))) = true → SOk s := fun h4 h => by
      simp only [Bool.and_eq_true, decide_eq_true_eq] at h
      exact SOk_leaf h4 h.2.1 h.2.2
    generalize (decide (s.key = emptyB) && (decide (s.it.length = 0) && decide (s.f.length = 0))) = pl at leaf
    by_cases k1 : s.k = 1
    · simp only [k1, decide_true, if_true]
      cases pl with
      | false => exact ⟨false, by simp, by simp⟩
      | true =>
        have hB : SOk s := leaf (by omega) rfl
        simp only [if_true, Option.bind_some, O.cnd_bool, ite_some, ite_ivbool]
        exact ⟨_, rfl, fun _ => hB⟩
    · by_cases k2 : s.k = 2
      · simp only [k2, Int.reduceEq, decide_true, decide_false, Bool.false_eq_true, if_false, if_true]
        cases pl with
        | false => exact ⟨false, by simp, by simp⟩
        | true =>
          have hB : SOk s := leaf (by omega) rfl
          simp only [if_true, Option.bind_some, O.cnd_bool, ite_some, ite_ivbool]
          exact ⟨_, rfl, fun _ => hB⟩
      · by_cases k3 : s.k = 3
        · obtain ⟨b, hb, hb2⟩ := ev_text_1 s hs s.en.length 0 (by omega)
          have hb' : W f_ref07_text 0 [s.enc] = some [.bool b] := by rw [e_f_ref07_text_0]; exact hb
          refine ⟨b, by simp [k3, hb'], fun h => ?_⟩
          obtain ⟨g1, g2⟩ := hb2 h
          exact SOk_leaf (by omega) g1 g2
        · by_cases k4 : s.k = 4
          · obtain ⟨b, hb, hb2⟩ := ev_list d s (by omega) hs k4 (fun t ht => ev_svalid d t (by omega) (by have := Sch.mass_it ht; omega))
            exact ⟨b, by simp only [k4, Int.reduceEq, decide_true, decide_false, Bool.false_eq_true, if_false, if_true, hb, O.calls_1], hb2⟩
          · by_cases k5 : s.k = 5
            · obtain ⟨b, hb, hb2⟩ := ev_struct d s (by omega) hs k5 (fun t ht => ev_svalid d t (by omega) (by have := Sch.mass_it ht; omega)) (fun p hp => ev_svalid d p.s (by omega) (by have := Sch.mass_f hp; omega))
              exact ⟨b, by simp only [k5, Int.reduceEq, decide_true, decide_false, Bool.false_eq_true, if_false, if_true, hb, O.calls_1], hb2⟩
            · exact ⟨false, by simp [k1, k2, k3, k4, k5], by simp⟩

/-- What the laws ask of a schema and a value. -/
theorem ev_fits (s : Sch) (v : Val) (hm : s.mass + v.mass ≤ 1048576) : ∃ b, W f_law08_fits 0 [s.enc, v.enc] = some [.bool b] ∧ (b = true → SOk s ∧ VOk v ∧ v.size ≤ 600) := by
  obtain ⟨r, hr, _⟩ := ev_size s (by omega) 300 (by omega) (by omega)
  obtain ⟨b1, h1, g1⟩ := ev_svalid 12 s (by omega) (by omega)
  have h1' : W f_ref07_Valid 0 [s.enc] = some [.bool b1] := by
    rw [e_f_ref07_Valid_0]
    have : W f_ref07_valid 0 [s.enc, .int 12] = some [.bool b1] := h1
    simp only [this, O.calls_1]
  obtain ⟨b2, h2⟩ := ref_small v (by omega)
  have h3 := ref_Valid v (by omega)
  rw [e_f_law08_fits_0]
  simp only [hr, O.calls_1, O.lt_int, Option.bind_some, O.cnd_bool, h1', h2, h3, ite_some, ite_ivbool]
  refine ⟨_, rfl, fun h => ?_⟩
  by_cases c0 : r < 300
  · cases b1 with
    | false => simp [c0] at h
    | true =>
      cases b2 with
      | false => simp [c0] at h
      | true =>
        simp [c0] at h
        refine ⟨g1 rfl, VOk_valid h, ?_⟩
        unfold Val.valid at h
        simp only [Bool.and_eq_true, decide_eq_true_eq] at h
        exact h.2
  · simp [c0] at h

theorem law_prune (s : Sch) (v : Val) (hm : s.mass + v.mass ≤ 1048576) : W f_law08_DefaultsPrune 0 [s.enc, v.enc] = some [.bool true] := by
  obtain ⟨b, hb, hb2⟩ := ev_fits s v hm
  rw [e_f_law08_DefaultsPrune_0]
  cases b with
  | false => simp [hb, lives]
  | true =>
    obtain ⟨hs, hv, _⟩ := hb2 rfl
    have h1 := prog_prune v hv (by omega) s hs (by omega)
    have h2 := ref_prune v (by omega) s hs (by omega)
    have hpm := pruneV_mass v s
    have h3 := ref_equal (pruneV v s) (pruneV v s) (by omega) (by omega)
    simp [hb, lives, h1, h2, h3]
end Go.CT.Defs
