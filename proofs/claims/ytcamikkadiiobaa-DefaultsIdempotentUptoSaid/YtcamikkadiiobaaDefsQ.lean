import Derived.Test.YtcamikkadiiobaaDefsP
namespace Go.CT.Defs
open Go.Proofs

/-! ## Filling in defaults: the plain function -/
/-- The value that a field is filled from. -/
def pick (o : Option Val) (df : List Val) : Option Val :=
  match df with
  | [] => o
  | d :: _ => match o with
    | none => some d
    | some x => if x.k = 0 then some d else some x
mutual
def fillS : Sch → Val → Val
  | ⟨k, _, _, _, _, it, f⟩, v =>
    if v.k = k then
      if k = 4 then (if it.length = 1 then ⟨4, 0, emptyB, v.l.map fun x => fillI it x, []⟩ else v)
      else if k = 5 then (if it.length = 0 then fillFs f v v else ⟨5, 0, emptyB, [], v.f.map fun p => (p.1, fillI it p.2)⟩)
      else v
    else v
def fillI : List Sch → Val → Val
  | [], v => v
  | s :: _, v => fillS s v
def fillFs : List SFld → Val → Val → Val
  | [], _, out => out
  | ⟨nm, _, _, df, s⟩ :: fs, v, out => fillFs fs v (match pick (v.get nm) df with | some x => withV out nm (fillS s x) | none => out)
end
def fill1 (v out : Val) (p : SFld) : Val := match pick (v.get p.nm) p.df with | some x => withV out p.nm (fillS p.s x) | none => out
theorem fillFs_cons (p : SFld) (fs : List SFld) (v out : Val) : fillFs (p :: fs) v out = fillFs fs v (fill1 v out p) := by
  obtain ⟨nm, rq, im, df, s⟩ := p
  simp only [fillFs]; rfl
theorem fillS_eq (s : Sch) (v : Val) : fillS s v =
    if v.k = s.k then
      if s.k = 4 then (if s.it.length = 1 then ⟨4, 0, emptyB, v.l.map fun x => fillI s.it x, []⟩ else v)
      else if s.k = 5 then (if s.it.length = 0 then fillFs s.f v v else ⟨5, 0, emptyB, [], v.f.map fun p => (p.1, fillI s.it p.2)⟩)
      else v
    else v := by
  cases s; simp only [fillS]; rfl
theorem fillI_one {s t : Sch} (h : s.it = [t]) (v : Val) : fillI s.it v = fillS t v := by rw [h]; simp only [fillI]

/-! ### what lies under a name -/
theorem find_look {l : List (ByteArray × Val)} (h : Strict l) (nm : ByteArray) : (l.find? fun p => decide (p.1 = nm)) = look nm l := by
  induction l with
  | nil => rfl
  | cons a l ih =>
    have h1 := List.pairwise_cons.1 h
    rw [look_cons, List.find?_cons, ih h1.2]
    by_cases c : a.1 = nm
    · have hn : look nm l = none := by
        unfold look
        rw [List.getLast?_eq_none_iff, List.filter_eq_nil_iff]
        intro y hy hy2
        simp only [isName, decide_eq_true_eq] at hy2
        have := h1.1 y hy
        rw [c, hy2, blt_irrefl] at this
        cases this
      simp [hn, c]
    · have c' : decide (a.1 = nm) = false := by simpa using c
      simp only [c', if_neg c, Option.or_none]
theorem get_look {v : Val} (hk : v.k = 5) (h : Strict v.f) (nm : ByteArray) : v.get nm = (look nm v.f).map (·.2) := by
  unfold Val.get
  rw [if_pos hk, find_look h]
theorem look_append (nm : ByteArray) (a b : List (ByteArray × Val)) : look nm (a ++ b) = (look nm b).or (look nm a) := by
  unfold look
  rw [List.filter_append, List.getLast?_append]
theorem look_filter (nm nm' : ByteArray) (l : List (ByteArray × Val)) : look nm' (l.filter (noName nm)) = if nm' = nm then none else look nm' l := by
  unfold look
  rw [List.filter_filter]
  by_cases c : nm' = nm
  · rw [if_pos c]
    have : (l.filter fun a => isName nm' a && noName nm a) = [] := by
      rw [List.filter_eq_nil_iff]
      intro y _
      simp [isName, noName, c]
    rw [this]; rfl
  · rw [if_neg c]
    congr 1
    refine List.filter_congr fun y _ => ?_
    by_cases d : y.1 = nm'
    · have : ¬ nm' = nm := c
      simp [isName, noName, d, this]
    · simp [isName, d]
theorem look_with (v : Val) (nm nm' : ByteArray) (x : Val) (hk : v.k = 5) : look nm' (withV v nm x).f = if nm' = nm then some (nm, x) else look nm' v.f := by
  show look nm' (mapL (othersF v nm ++ [(nm, x)])) = _
  rw [look_mapL, look_append]
  unfold othersF
  rw [if_pos hk]
  have h1 : look nm' [(nm, x)] = if nm = nm' then some (nm, x) else none := by rw [look_cons]; rfl
  have h2 := look_filter nm nm' v.f
  have h3 : (v.f.filter fun p => !decide (p.1 = nm)) = v.f.filter (noName nm) := rfl
  rw [h1, h3, h2]
  by_cases c : nm' = nm
  · rw [if_pos c, if_pos c.symm, if_pos c]; rfl
  · rw [if_neg c, if_neg (fun e => c e.symm), if_neg c]; rfl
theorem with_strict (v : Val) (nm : ByteArray) (x : Val) : Strict (withV v nm x).f := mapL_strict _

/-- A plain map. -/
def Plain (v : Val) : Prop := v.k = 5 ∧ v.n = 0 ∧ v.s = emptyB ∧ v.l = [] ∧ Strict v.f
theorem plain_with (v : Val) (nm : ByteArray) (x : Val) : Plain (withV v nm x) := ⟨rfl, rfl, rfl, rfl, mapL_strict _⟩
theorem plain_ext {a b : Val} (ha : Plain a) (hb : Plain b) (h : ∀ nm, look nm a.f = look nm b.f) : a = b := by
  obtain ⟨a1, a2, a3, a4, a5⟩ := ha
  obtain ⟨b1, b2, b3, b4, b5⟩ := hb
  rw [a.eta, b.eta, a1, a2, a3, a4, b1, b2, b3, b4, strict_look_ext a5 b5 h]
theorem plain_ok {v : Val} (h : VOk v) (hk : v.k = 5) : Plain v := ⟨hk, (h.map hk).1, (h.map hk).2.1, (h.map hk).2.2, h.strict⟩
/-- What filling puts under a name. -/
def fillLook (fs : List SFld) (v : Val) (nm : ByteArray) : Option (ByteArray × Val) :=
  match fs.find? fun p => decide (p.nm = nm) with
  | none => none
  | some p => (pick (v.get p.nm) p.df).map fun x => (nm, fillS p.s x)
theorem fillFs_plain : ∀ (fs : List SFld) (v out : Val), Plain out → Plain (fillFs fs v out)
  | [], v, out, h => by simp only [fillFs]; exact h
  | p :: fs, v, out, h => by
    rw [fillFs_cons]
    refine fillFs_plain fs v _ ?_
    unfold fill1
    split
    · exact plain_with _ _ _
    · exact h
theorem fillFs_look : ∀ (fs : List SFld) (v out : Val), fs.Pairwise (fun a b => blt a.nm b.nm = true) → Plain out → ∀ nm, look nm (fillFs fs v out).f = (fillLook fs v nm).or (look nm out.f)
  | [], v, out, _, _, nm => by simp only [fillFs, fillLook, List.find?_nil, Option.none_or]
  | p :: fs, v, out, hfs, hp, nm => by
    have h1 := List.pairwise_cons.1 hfs
    have hp2 : Plain (fill1 v out p) := by
      unfold fill1
      split
      · exact plain_with _ _ _
      · exact hp
    rw [fillFs_cons, fillFs_look fs v _ h1.2 hp2 nm]
    have hl : look nm (fill1 v out p).f = (if p.nm = nm then (pick (v.get p.nm) p.df).map fun x => (nm, fillS p.s x) else none).or (look nm out.f) := by
      unfold fill1
      cases hx : pick (v.get p.nm) p.df with
      | none => simp
      | some x =>
        simp only
        rw [look_with _ _ _ _ hp.1]
        by_cases c : p.nm = nm
        · rw [if_pos c.symm, if_pos c, c]; rfl
        · rw [if_neg (fun e => c e.symm), if_neg c]; rfl
    rw [hl]
    unfold fillLook
    rw [List.find?_cons]
    by_cases c : p.nm = nm
    · have hn : (fs.find? fun q => decide (q.nm = nm)) = none := by
        rw [List.find?_eq_none]
        intro q hq hq2
        have := h1.1 q hq
        rw [c, of_decide_eq_true hq2, blt_irrefl] at this
        cases this
      have c' : decide (p.nm = nm) = true := by simpa using c
      simp only [hn, c', if_pos c, Option.none_or]
    · have c' : decide (p.nm = nm) = false := by simpa using c
      simp only [c', if_neg c, Option.none_or]
end Go.CT.Defs

namespace Go.CT.Defs
open Go.Proofs

theorem pick_from {o : Option Val} {df : List Val} {x : Val} (h : pick o df = some x) : o = some x ∨ x ∈ df := by
  unfold pick at h
  cases df with
  | nil => exact .inl h
  | cons d r =>
    cases o with
    | none => simp at h; subst h; exact .inr (by simp)
    | some y =>
      simp only at h
      split at h
      · simp at h; subst h; exact .inr (by simp)
      · exact .inl h
theorem get_wide {N : Nat} {v x : Val} {nm : ByteArray} (h : Wide N v) (hx : v.get nm = some x) : Wide N x := by
  unfold Val.get at hx
  split at hx
  · rw [Option.map_eq_some_iff] at hx
    obtain ⟨p, hp, rfl⟩ := hx
    exact h.mem_f (List.mem_of_find?_eq_some hp)
  · cases hx
theorem withV_len (v : Val) (nm : ByteArray) (x : Val) : (withV v nm x).f.length ≤ v.f.length + 1 := by
  have h1 := mapL_len (othersF v nm ++ [(nm, x)])
  have h2 : (othersF v nm).length ≤ v.f.length := by
    unfold othersF
    split
    · exact List.length_filter_le _ _
    · exact Nat.zero_le _
  show (mapL (othersF v nm ++ [(nm, x)])).length ≤ _
  simp at h1; omega
theorem withV_wide {K : Nat} {v x : Val} {nm : ByteArray} (hv : Wide K v) (hx : Wide K x) (hl : v.f.length + 1 ≤ K) : Wide K (withV v nm x) := by
  refine .mk _ (Nat.zero_le _) (Nat.le_trans (withV_len v nm x) hl) (fun y hy => ?_) (fun p hp => ?_)
  · exact absurd hy (by show ¬ y ∈ ([] : List Val); simp)
  · have hp2 : p ∈ mapL (othersF v nm ++ [(nm, x)]) := hp
    rcases List.mem_append.1 (mapL_mem hp2) with h | h
    · exact (others_wide hv nm).2 p h
    · simp at h; subst h; exact hx
/-- A schema's defaults are no wider than the schema is heavy. -/
theorem df_wide {s : Sch} {M : Nat} (hs : s.mass ≤ M) {p : SFld} (hp : p ∈ s.f) {d : Val} (hd : d ∈ p.df) : Wide M d := by
  have := Sch.mass_d hp hd
  exact wide_mass d (by omega)
theorem fillFs_wide (K : Nat) (v : Val) : ∀ (fs : List SFld) (out : Val), (∀ p ∈ fs, ∀ x, pick (v.get p.nm) p.df = some x → Wide K (fillS p.s x)) → Wide K out → out.f.length + fs.length ≤ K → Wide K (fillFs fs v out)
  | [], out, _, h, _ => by simp only [fillFs]; exact h
  | p :: fs, out, ih, h, hl => by
    simp only [List.length_cons] at hl
    rw [fillFs_cons]
    have h1 : Wide K (fill1 v out p) ∧ (fill1 v out p).f.length ≤ out.f.length + 1 := by
      unfold fill1
      cases hx : pick (v.get p.nm) p.df with
      | none => exact ⟨h, by simp⟩
      | some x => exact ⟨withV_wide h (ih p (by simp) x hx) (by omega), withV_len _ _ _⟩
    exact fillFs_wide K v fs _ (fun q hq => ih q (by simp [hq])) h1.1 (by omega)
theorem fill_wide (N M : Nat) (hMN : M ≤ N) : ∀ s : Sch, s.mass ≤ M → ∀ v : Val, Wide N v → Wide (N + M) (fillS s v) := by
  refine Sch.ind fun s ih1 ih2 hs v hv => ?_
  have hI : ∀ x : Val, Wide N x → Wide (N + M) (fillI s.it x) := by
    intro x hx
    cases hit : s.it with
    | nil => simp only [fillI]; exact hx.mono (by omega)
    | cons t r =>
      have htm : t ∈ s.it := by rw [hit]; simp
      simp only [fillI]
      exact ih1 t htm (by have := Sch.mass_it htm; omega) x hx
  rw [fillS_eq]
  split
  · split
    · split
      · refine .mk _ (by simp; have := hv.len_l; omega) (Nat.zero_le _) (fun y hy => ?_) (by simp)
        simp only [Val.l_mk, List.mem_map] at hy
        obtain ⟨x, hx, rfl⟩ := hy
        exact hI x (hv.mem_l hx)
      · exact hv.mono (by omega)
    · split
      · split
        · have := s.mass_len_f
          have := hv.len_f
          refine fillFs_wide _ v s.f v (fun p hp x hx => ?_) (hv.mono (by omega)) (by omega)
          have hmf := Sch.mass_f hp
          refine ih2 p hp (by omega) x ?_
          rcases pick_from hx with h | h
          · exact get_wide hv h
          · exact (df_wide hs hp h).mono hMN
        · refine .mk _ (Nat.zero_le _) (by simp; have := hv.len_f; omega) (by simp) (fun y hy => ?_)
          simp only [Val.f_mk, List.mem_map] at hy
          obtain ⟨x, hx, rfl⟩ := hy
          exact hI x.2 (hv.mem_f hx)
      · exact hv.mono (by omega)
  · exact hv.mono (by omega)

/-! ### the reference fills -/
theorem ref_fill_1 (s t : Sch) (v : Val) (hv : v.l.length ≤ 1073741824) (y3 y4 y5 : IV) (ht : s.it = [t]) (ih : ∀ x ∈ v.l, W f_ref08_Fill 0 [t.enc, x.enc] = some [(fillS t x).enc]) :
    ∀ (n i : Nat) (acc : List Val), i + n = v.l.length → acc.length ≤ i →
    W f_ref08_Fill 1 [.int i, s.enc, v.enc, y3, y4, y5, .list (acc.map Val.enc)] = some [(Val.mk 4 0 emptyB (acc ++ (v.l.drop i).map fun x => fillS t x) []).enc]
  | 0, i, acc, h, ha => by
    rw [e_f_ref08_Fill_1]
    have h1 : ¬ i < v.l.length := by omega
    simp only [Val.proj3, O.len_list, List.length_map, O.lt_int, lt_cast, h1, decide_false, Option.bind_some, O.cnd_bool, Bool.false_eq_true, if_false, O.mkagg_eq, List.drop_of_length_le (Nat.le_of_not_lt h1), List.map_nil, List.append_nil]
    rw [← Val.fold]; rfl
  | n + 1, i, acc, h, ha => by
    have hi : i < v.l.length := by omega
    have hw := next64 (i := i) (by omega)
    have next := ref_fill_1 s t v hv y3 y4 y5 ht ih n (i + 1) (acc ++ [fillS t v.l[i]]) (by omega) (by rw [List.length_append]; simp; omega)
    have hap : (acc.length + 1) * 80 ≤ maxBytes := app_ok (by omega) (by omega)
    have hcall := ih _ (List.getElem_mem hi)
    rw [List.append_assoc, List.singleton_append] at next
    rw [e_f_ref08_Fill_1, List.drop_eq_getElem_cons hi, List.map_cons, ← next]
    simp only [Val.proj3, O.len_list, List.length_map, O.lt_int, lt_cast, hi, decide_true, Option.bind_some, O.cnd_bool, if_true, O.index_list, Int.natCast_nonneg, Int.toNat_natCast, List.getElem?_map, List.getElem?_eq_getElem hi, Option.map_some, Sch.proj5, ht, List.map_cons, List.map_nil, Int.le_refl, Int.toNat_zero, List.getElem?_cons_zero, hcall, O.calls_1, O.mklist_eq, O.append_list, List.length_map, List.length_singleton, hap, List.map_append, O.add_int, hw]
theorem ref_fill_2 (s t : Sch) (v : Val) (hv : v.f.length ≤ 1073741824) (y3 y4 y5 : IV) (ht : s.it = [t]) (ih : ∀ p ∈ v.f, W f_ref08_Fill 0 [t.enc, p.2.enc] = some [(fillS t p.2).enc]) :
    ∀ (n i : Nat) (acc : List (ByteArray × Val)), i + n = v.f.length → acc.length ≤ i →
    W f_ref08_Fill 2 [.int i, s.enc, v.enc, y3, y4, y5, .list (acc.map Fld.enc)] = some [(Val.mk 5 0 emptyB [] (acc ++ (v.f.drop i).map fun p => (p.1, fillS t p.2))).enc]
  | 0, i, acc, h, ha => by
    rw [e_f_ref08_Fill_2]
    have h1 : ¬ i < v.f.length := by omega
    simp only [Val.proj4, O.len_list, List.length_map, O.lt_int, lt_cast, h1, decide_false, Option.bind_some, O.cnd_bool, Bool.false_eq_true, if_false, O.mkagg_eq, List.drop_of_length_le (Nat.le_of_not_lt h1), List.map_nil, List.append_nil]
    rw [← Val.fold]; rfl
  | n + 1, i, acc, h, ha => by
    have hi : i < v.f.length := by omega
    have hw := next64 (i := i) (by omega)
    have next := ref_fill_2 s t v hv y3 y4 y5 ht ih n (i + 1) (acc ++ [(v.f[i].1, fillS t v.f[i].2)]) (by omega) (by rw [List.length_append]; simp; omega)
    have hap : (acc.length + 1) * 96 ≤ maxBytes := app_ok (by omega) (by omega)
    have hcall := ih _ (List.getElem_mem hi)
    rw [List.append_assoc, List.singleton_append] at next
    rw [e_f_ref08_Fill_2, List.drop_eq_getElem_cons hi, List.map_cons, ← next]
    simp only [Val.proj4, O.len_list, List.length_map, O.lt_int, lt_cast, hi, decide_true, Option.bind_some, O.cnd_bool, if_true, O.index_list, Int.natCast_nonneg, Int.toNat_natCast, List.getElem?_map, List.getElem?_eq_getElem hi, Option.map_some, Fld.proj0, Fld.projV, Sch.proj5, ht, List.map_cons, List.map_nil, Int.le_refl, Int.toNat_zero, List.getElem?_cons_zero, hcall, O.calls_1, Val.proj0, Val.proj1, Val.proj2, Val.proj3, O.mkagg_eq, Fld.fold_eta, O.mklist_eq, O.append_list, List.length_map, List.length_singleton, hap, List.map_append, O.add_int, hw]
theorem ref_fill_3 (s : Sch) (v : Val) (hs : s.mass ≤ 1048576) (hv : Wide 1000000000 v) (y3 y4 y5 : IV)
    (ih : ∀ p ∈ s.f, ∀ x, pick (v.get p.nm) p.df = some x → W f_ref08_Fill 0 [p.s.enc, x.enc] = some [(fillS p.s x).enc] ∧ Wide 1010000000 (fillS p.s x)) :
    ∀ (n i : Nat) (out : Val), i + n = s.f.length → Wide 1010000000 out → out.f.length ≤ v.f.length + i →
    W f_ref08_Fill 3 [.int i, s.enc, v.enc, y3, y4, y5, out.enc] = some [(fillFs (s.f.drop i) v out).enc]
  | 0, i, out, h, ho, hl => by
    rw [e_f_ref08_Fill_3]
    have h1 : ¬ i < s.f.length := by omega
    simp only [Sch.proj6, O.len_list, List.length_map, O.lt_int, lt_cast, h1, decide_false, Option.bind_some, O.cnd_bool, Bool.false_eq_true, if_false, List.drop_of_length_le (Nat.le_of_not_lt h1), fillFs]
  | n + 1, i, out, h, ho, hl => by
    have hi : i < s.f.length := by omega
    have hm := s.mass_len_f
    have hvl := hv.len_f
    have hw := next64 (i := i) (by omega)
    have hget := ref_getW v s.f[i].nm (hv.mono (by omega))
    have next : ∀ out', Wide 1010000000 out' → out'.f.length ≤ out.f.length + 1 → W f_ref08_Fill 5 [.int i, s.enc, v.enc, y3, y4, y5, out'.enc] = some [(fillFs (s.f.drop (i + 1)) v out').enc] := by
      intro out' h1 h2
      rw [e_f_ref08_Fill_5]
      simp only [O.add_int, hw, Option.bind_some]
      exact ref_fill_3 s v hs hv y3 y4 y5 ih n (i + 1) out' (by omega) h1 (by omega)
    have four : ∀ x, pick (v.get s.f[i].nm) s.f[i].df = some x → W f_ref08_Fill 4 [.int i, .bool true, s.enc, v.enc, y3, y4, y5, out.enc, s.f[i].enc, x.enc] = some [(fillFs (s.f.drop (i + 1)) v (withV out s.f[i].nm (fillS s.f[i].s x))).enc] := by
      intro x hx
      obtain ⟨h1, h2⟩ := ih _ (List.getElem_mem hi) x hx
      have hwith := ref_withW out s.f[i].nm (fillS s.f[i].s x) (ho.mono (by omega)) (h2.mono (by omega))
      rw [e_f_ref08_Fill_4]
      simp only [O.cnd_bool, if_true, SFld.proj0, SFld.projS, Option.bind_some, h1, O.calls_1, hwith, Val.comps_eq, O.calls_5, O.mkagg_eq, Val.fold_eta]
      exact next _ (withV_wide ho h2 (by omega)) (withV_len _ _ _)
    have four0 : ∀ x : Val, W f_ref08_Fill 4 [.int i, .bool false, s.enc, v.enc, y3, y4, y5, out.enc, s.f[i].enc, x.enc] = some [(fillFs (s.f.drop (i + 1)) v out).enc] := by
      intro x
      rw [e_f_ref08_Fill_4]
      simp only [O.cnd_bool, Bool.false_eq_true, if_false]
      exact next _ ho (by omega)
    rw [e_f_ref08_Fill_3, List.drop_eq_getElem_cons hi, fillFs_cons]
    simp only [Sch.proj6, O.len_list, List.length_map, O.lt_int, lt_cast, hi, decide_true, Option.bind_some, O.cnd_bool, if_true, O.index_list, Int.natCast_nonneg, Int.toNat_natCast, List.getElem?_map, List.getElem?_eq_getElem hi, Option.map_some, SFld.proj0, SFld.proj3, hget, getIV, calls_6, O.not_bool, O.eq_int, O.gt_int, O.mkagg_eq, Val.fold_eta]
    unfold fill1
    cases hdf : s.f[i].df with
    | nil =>
      rw [hdf] at four
      cases hg : v.get s.f[i].nm with
      | none =>
        rw [hg] at four
        simp [four0, pick]
      | some x =>
        rw [hg] at four
        have := four x rfl
        simp [this, pick]
    | cons d r =>
      rw [hdf] at four
      cases hg : v.get s.f[i].nm with
      | none =>
        rw [hg] at four
        have := four d rfl
        simp [this, pick]
      | some x =>
        rw [hg] at four
        by_cases hk : x.k = 0
        · have := four d (by simp [pick, hk])
          simp [this, pick, hk]
        · have := four x (by simp [pick, hk])
          simp [this, pick, hk]

theorem ref_fill : ∀ s : Sch, SOk s → s.mass ≤ 1048576 → ∀ v : Val, Wide 1000000000 v → W f_ref08_Fill 0 [s.enc, v.enc] = some [(fillS s v).enc] := by
  refine Sch.ind fun s ih1 ih2 hso hs v hv => ?_
  rw [e_f_ref08_Fill_0, fillS_eq]
  simp only [Val.proj0, Sch.proj0, Option.bind_some, O.ne_int, O.eq_int, O.cnd_bool]
  by_cases hk : v.k = s.k
  · simp only [hk, decide_true, Bool.not_true, Bool.false_eq_true, if_false, if_true]
    by_cases h5 : s.k = 5
    · by_cases hi : s.it.length = 0
      · have h0 : s.it = [] := List.length_eq_zero_iff.1 hi
        have hf := ref_fill_3 s v hs hv (.int 0) (.int 0) (.str ⟨#[]⟩) (fun p hp x hx => by
          have hmf := Sch.mass_f hp
          have hw : Wide 1000000000 x := by
            rcases pick_from hx with h | h
            · exact get_wide hv h
            · exact (df_wide hs hp h).mono (by omega)
          exact ⟨ih2 p hp (hso.mem_f hp) (by omega) x hw, (fill_wide 1000000000 1048576 (by omega) p.s (by omega) x hw).mono (by omega)⟩) s.f.length 0 v (by omega) (hv.mono (by omega)) (by omega)
        simp only [List.drop_zero, Int.cast_ofNat_Int] at hf
        have hd := ev_dict s
        simp [h5, hd, h0, hf]
      · obtain ⟨t, ht⟩ := List.length_eq_one_iff.1 (show s.it.length = 1 by have := hso.one; omega)
        have htm : t ∈ s.it := by rw [ht]; simp
        have hf := ref_fill_2 s t v (by have := hv.len_f; omega) (.int 0) (.int 0) (.str ⟨#[]⟩) ht (fun p hp => ih1 t htm (hso.mem_it htm) (by have := Sch.mass_it htm; omega) p.2 (hv.mem_f hp)) v.f.length 0 [] (by omega) (by simp)
        simp only [List.drop_zero, Int.cast_ofNat_Int, List.map_nil, List.nil_append] at hf
        have hd := ev_dict s
        simp [h5, hd, ht, hf, fillI]
    · by_cases h4 : s.k = 4
      · obtain ⟨t, ht⟩ := List.length_eq_one_iff.1 (hso.list h4)
        have htm : t ∈ s.it := by rw [ht]; simp
        have hf := ref_fill_1 s t v (by have := hv.len_l; omega) (.int 0) (.int 0) (.str ⟨#[]⟩) ht (fun x hx => ih1 t htm (hso.mem_it htm) (by have := Sch.mass_it htm; omega) x (hv.mem_l hx)) v.l.length 0 [] (by omega) (by simp)
        simp only [List.drop_zero, Int.cast_ofNat_Int, List.map_nil, List.nil_append] at hf
        simp [h4, ht, hf, fillI]
      · simp [h4, h5]
  · simp [hk]
end Go.CT.Defs

namespace Go.CT.Defs
open Go.Proofs

/-! ## The program fills -/
def d1 (v : Val) (p : SFld) : Val := if ((v.get p.nm).getD zeroVal).k = 0 then (match p.df with | d :: _ => withV v p.nm d | [] => v) else v
def g1 (s : Sch) (p : ByteArray × Val) : ByteArray × Val := (p.1, match subS s p.1 with | some t => fillS t p.2 | none => p.2)

theorem d1_plain {v : Val} (h : Plain v) (p : SFld) : Plain (d1 v p) := by
  unfold d1
  split
  · split
    · exact plain_with _ _ _
    · exact h
  · exact h
theorem folds_plain : ∀ (fs : List SFld) (v : Val), Plain v → Plain (fs.foldl d1 v)
  | [], v, h => h
  | p :: fs, v, h => folds_plain fs _ (d1_plain h p)
theorem look_d1 {v : Val} (h : Plain v) (p : SFld) (nm : ByteArray) : look nm (d1 v p).f = (if p.nm = nm then (if ((v.get nm).getD zeroVal).k = 0 then p.df.head?.map fun d => (nm, d) else none) else none).or (look nm v.f) := by
  unfold d1
  by_cases c : p.nm = nm
  · subst c
    rw [if_pos rfl]
    by_cases k : ((v.get p.nm).getD zeroVal).k = 0
    · rw [if_pos k, if_pos k]
      cases p.df with
      | nil => rfl
      | cons d r => simp only [look_with _ _ _ _ h.1, if_true]; rfl
    · rw [if_neg k, if_neg k]; rfl
  · rw [if_neg c]
    by_cases k : ((v.get p.nm).getD zeroVal).k = 0
    · rw [if_pos k]
      cases p.df with
      | nil => rfl
      | cons d r => simp only [look_with _ _ _ _ h.1, if_neg (fun e => c e.symm : ¬ nm = p.nm)]; rfl
    · rw [if_neg k]; rfl
theorem look_folds : ∀ (fs : List SFld) (v : Val), fs.Pairwise (fun a b => blt a.nm b.nm = true) → Plain v → ∀ nm, look nm (fs.foldl d1 v).f =
    (match fs.find? (fun q : SFld => decide (q.nm = nm)) with
      | none => none
      | some p => if ((v.get nm).getD zeroVal).k = 0 then p.df.head?.map fun d => (nm, d) else none).or (look nm v.f)
  | [], v, _, _, nm => rfl
  | p :: fs, v, hfs, hp, nm => by
    have h1 := List.pairwise_cons.1 hfs
    have hp2 := d1_plain hp p
    rw [List.foldl_cons, look_folds fs _ h1.2 hp2 nm, List.find?_cons]
    by_cases c : p.nm = nm
    · have hn : (fs.find? fun q => decide (q.nm = nm)) = none := by
        rw [List.find?_eq_none]
        intro q hq hq2
        have := h1.1 q hq
        rw [c, of_decide_eq_true hq2, blt_irrefl] at this
        cases this
      have c' : decide (p.nm = nm) = true := by simpa using c
      rw [hn, c', look_d1 hp p nm, if_pos c]; rfl
    · have c' : decide (p.nm = nm) = false := by simpa using c
      have hl : look nm (d1 v p).f = look nm v.f := by rw [look_d1 hp p nm, if_neg c]; rfl
      have hg : (d1 v p).get nm = v.get nm := by rw [get_look hp2.1 hp2.2.2.2.2, get_look hp.1 hp.2.2.2.2, hl]
      rw [c', hl, hg]
theorem look_map (g : ByteArray × Val → ByteArray × Val) (hg : ∀ p, (g p).1 = p.1) (nm : ByteArray) : ∀ l : List (ByteArray × Val), look nm (l.map g) = (look nm l).map g
  | [] => rfl
  | p :: l => by
    rw [List.map_cons, look_cons, look_cons, look_map g hg nm l, hg]
    by_cases c : p.1 = nm
    · simp only [if_pos c]
      cases look nm l <;> rfl
    · simp only [if_neg c, Option.or_none]
theorem plain_mapV (l : List (ByteArray × Val)) : Plain (mapV l) := ⟨rfl, rfl, rfl, rfl, mapL_strict _⟩
/-- On a structure both are one. -/
theorem fill_struct (s : Sch) (v : Val) (hs : SOk s) (hv : Plain v) (hi : s.it.length = 0) : mapV ((s.f.foldl d1 v).f.map (g1 s)) = fillFs s.f v v := by
  refine plain_ext (plain_mapV _) (fillFs_plain s.f v v hv) fun nm => ?_
  have hsub : ∀ q : ByteArray × Val, subS s q.1 = (s.fld q.1).map (·.s) := fun q => by unfold subS; rw [if_neg (by omega)]
  show look nm (mapL _) = _
  rw [look_mapL, look_map (g1 s) (fun _ => rfl), look_folds s.f v hs.names hv nm, fillFs_look s.f v v hs.names hv nm]
  have hget := get_look hv.1 hv.2.2.2.2 nm
  have hname : look nm v.f = (v.get nm).map fun x => (nm, x) := by
    rw [hget]
    cases h : look nm v.f with
    | none => rfl
    | some q => simp only [Option.map_some]; rw [← look_name h]
  unfold fillLook
  rw [hname]
  cases hf : s.f.find? fun p => decide (p.nm = nm) with
  | none =>
    simp only [Option.none_or]
    cases v.get nm with
    | none => rfl
    | some x =>
      have : subS s nm = none := by rw [hsub (nm, x)]; unfold Sch.fld; rw [hf]; rfl
      simp only [Option.map_some, g1, this]
  | some p =>
    have hpn : p.nm = nm := by simpa using List.find?_some hf
    have hsn : subS s nm = some p.s := by rw [hsub (nm, zeroVal)]; unfold Sch.fld; rw [hf]; rfl
    simp only [hpn]
    cases hdf : p.df with
    | nil =>
      cases v.get nm with
      | none => simp [pick]
      | some x => by_cases hk : x.k = 0 <;> simp [pick, g1, hsn, hk]
    | cons d r =>
      cases v.get nm with
      | none => simp [pick, g1, hsn, zeroVal]
      | some x => by_cases hk : x.k = 0 <;> simp [pick, g1, hsn, hk]
end Go.CT.Defs

namespace Go.CT.Defs
open Go.Proofs

theorem prog_fill_3 (s : Sch) (hs : s.mass ≤ 1048576) (y3 y5 y6 y7 : IV) : ∀ (n i : Nat) (v : Val), i + n = s.f.length → Wide 1010000000 v → v.f.length + n ≤ 1010000000 →
    W f_defaults_Fill 1 [.list (s.f.map SFld.enc), .int s.f.length, .int i, y3, v.enc, y5, y6, y7] = W f_defaults_Fill 2 [y3, ((s.f.drop i).foldl d1 v).enc, y5, y6, y7]
  | 0, i, v, h, hv, hl => by
    rw [e_f_defaults_Fill_1]
    have h1 : ¬ i < s.f.length := by omega
    simp only [O.lt_int, lt_cast, h1, decide_false, Option.bind_some, O.cnd_bool, Bool.false_eq_true, if_false, List.drop_of_length_le (Nat.le_of_not_lt h1), List.foldl_nil]
  | n + 1, i, v, h, hv, hl => by
    have hi : i < s.f.length := by omega
    have hm := s.mass_len_f
    have hw := next64 (i := i) (by omega)
    have hget := val_getW v s.f[i].nm (hv.mono (by omega))
    have hdf : ∀ d ∈ s.f[i].df, Wide 1010000000 d := fun d hd => (df_wide hs (List.getElem_mem hi) hd).mono (by omega)
    have next : ∀ v', Wide 1010000000 v' → v'.f.length ≤ v.f.length + 1 → W f_defaults_Fill 3 [.list (s.f.map SFld.enc), .int s.f.length, .int i, y3, v'.enc, y5, y6, y7] = W f_defaults_Fill 2 [y3, ((s.f.drop (i + 1)).foldl d1 v').enc, y5, y6, y7] := by
      intro v' h1 h2
      rw [e_f_defaults_Fill_3]
      simp only [O.add_int, hw, Option.bind_some]
      exact prog_fill_3 s hs y3 y5 y6 y7 n (i + 1) v' (by omega) h1 (by omega)
    rw [e_f_defaults_Fill_1, List.drop_eq_getElem_cons hi, List.foldl_cons]
    simp only [O.lt_int, lt_cast, hi, decide_true, Option.bind_some, O.cnd_bool, if_true, O.index_list, Int.natCast_nonneg, Int.toNat_natCast, List.getElem?_map, List.getElem?_eq_getElem hi, Option.map_some, SFld.proj0, SFld.proj3, hget, getIV, calls_6, O.eq_int, O.gt_int]
    by_cases hk : ((v.get s.f[i].nm).getD zeroVal).k = 0
    · cases hd : s.f[i].df with
      | nil =>
        have e : d1 v s.f[i] = v := by unfold d1; rw [if_pos hk, hd]
        have := next v hv (by omega)
        rw [e]
        simp [hk, this]
      | cons d r =>
        have e : d1 v s.f[i] = withV v s.f[i].nm d := by unfold d1; rw [if_pos hk, hd]
        have hdw := hdf d (by rw [hd]; simp)
        have hwith := val_withW v s.f[i].nm d (hv.mono (by omega)) (hdw.mono (by omega))
        have := next _ (withV_wide hv hdw (by omega)) (withV_len v s.f[i].nm d)
        have hlen : (0 : Int) < ((d.enc :: r.map Val.enc).length : Int) := by simp only [List.length_cons]; omega
        rw [e]
        simp only [hk, decide_true, if_true, Option.bind_some, O.len_list, List.map_cons, O.gt_int, hlen, Option.map_some, O.index_list, Int.le_refl, Int.toNat_zero, List.getElem?_cons_zero, O.cnd_bool, hwith, Val.comps_eq, O.calls_5, O.mkagg_eq, Val.fold_eta, this]
    · have e : d1 v s.f[i] = v := by unfold d1; rw [if_neg hk]
      have := next v hv (by omega)
      rw [e]
      simp only [hk, decide_false, Bool.false_eq_true, if_false, Option.bind_some, O.cnd_bool, this]
theorem prog_fill_4 (s : Sch) (v : Val) (hs : s.mass ≤ 1048576) (hv : v.f.length ≤ 1010000000) (y4 y5 y6 : IV)
    (ih : ∀ p ∈ v.f, Wide 1010000000 p.2 ∧ ∀ t, subS s p.1 = some t → W f_defaults_Fill 0 [t.enc, p.2.enc] = some [(fillS t p.2).enc] ∧ Wide 1010000000 (fillS t p.2)) :
    ∀ (n i : Nat) (acc : List (ByteArray × Val)), i + n = v.f.length → acc.length = i → WideF 1010000000 acc →
    W f_defaults_Fill 4 [.list (v.f.map Fld.enc), .int v.f.length, .int i, s.enc, y4, y5, y6, .list (acc.map Fld.enc)] = some [(mapV (acc ++ (v.f.drop i).map (g1 s))).enc]
  | 0, i, acc, h, ha, hw => by
    rw [e_f_defaults_Fill_4]
    have h1 : ¬ i < v.f.length := by omega
    have hmap := val_mapW acc ⟨by have := hw.1; omega, fun p hp => (hw.2 p hp).mono (by omega)⟩
    simp only [O.lt_int, lt_cast, h1, decide_false, Option.bind_some, O.cnd_bool, Bool.false_eq_true, if_false, hmap, Val.comps_eq, O.calls_5, O.mkagg_eq, Val.fold_eta, List.drop_of_length_le (Nat.le_of_not_lt h1), List.map_nil, List.append_nil]
  | n + 1, i, acc, h, ha, hw => by
    have hi : i < v.f.length := by omega
    have hwi := next64 (i := i) (by omega)
    obtain ⟨hx, hc⟩ := ih _ (List.getElem_mem hi)
    have hg : Wide 1010000000 (g1 s v.f[i]).2 := by
      unfold g1
      cases hsub : subS s v.f[i].1 with
      | none => exact hx
      | some t => exact (hc t hsub).2
    have hap : (acc.length + 1) * 96 ≤ maxBytes := app_ok (by omega) (by omega)
    have next := prog_fill_4 s v hs hv y4 y5 y6 ih n (i + 1) (acc ++ [g1 s v.f[i]]) (by omega) (by simp; omega) ⟨by simp; omega, fun p hp => by
      rcases List.mem_append.1 hp with h | h
      · exact hw.2 p h
      · simp at h; subst h; exact hg⟩
    rw [List.append_assoc, List.singleton_append] at next
    rw [e_f_defaults_Fill_4, List.drop_eq_getElem_cons hi, List.map_cons, ← next]
    simp only [O.lt_int, lt_cast, hi, decide_true, Option.bind_some, O.cnd_bool, if_true, O.index_list, Int.natCast_nonneg, Int.toNat_natCast, List.getElem?_map, List.getElem?_eq_getElem hi, Option.map_some, Fld.proj0, Fld.projV, Fld.proj1, Fld.proj2, Fld.proj3, Fld.proj4, Fld.proj5, ev_under s _ (by omega : s.mass ≤ 1099511627776), subIV, O.calls_2]
    unfold g1
    cases hsub : subS s v.f[i].1 with
    | none =>
      simp only [Option.isSome_none, O.cnd_bool, Bool.false_eq_true, if_false, e_f_defaults_Fill_5, O.mkagg_eq, Option.bind_some, Fld.fold_eta, O.mklist_eq, O.append_list, List.length_map, List.length_singleton, hap, if_true, O.add_int, hwi, List.map_append, List.map_cons, List.map_nil]
    | some t =>
      have hcall := (hc t hsub).1
      simp only [Option.isSome_some, O.cnd_bool, if_true, Option.getD_some, hcall, O.calls_1, Val.proj0, Val.proj1, Val.proj2, Val.proj3, Val.proj4, e_f_defaults_Fill_5, O.mkagg_eq, Option.bind_some, Fld.fold_eta, O.mklist_eq, O.append_list, List.length_map, List.length_singleton, hap, O.add_int, hwi, List.map_append, List.map_cons, List.map_nil]
theorem prog_fill_l (s t : Sch) (v : Val) (hv : v.l.length ≤ 1010000000) (y4 y5 y6 : IV) (ht : s.it = [t]) (ih : ∀ x ∈ v.l, W f_defaults_Fill 0 [t.enc, x.enc] = some [(fillS t x).enc] ∧ Wide 1010000000 (fillS t x)) :
    ∀ (n i : Nat) (acc : List Val), i + n = v.l.length → acc.length = i → (∀ x ∈ acc, Wide 1010000000 x) →
    W f_defaults_elements 1 [.list (v.l.map Val.enc), .int v.l.length, .int i, s.enc, y4, y5, y6, .list (acc.map Val.enc)] = some [(Val.mk 4 0 emptyB (acc ++ (v.l.drop i).map fun x => fillS t x) []).enc]
  | 0, i, acc, h, ha, hw => by
    rw [e_f_defaults_elements_1]
    have h1 : ¬ i < v.l.length := by omega
    have hmap := val_listW acc (by omega) (fun x hx => (hw x hx).mono (by omega))
    simp only [O.lt_int, lt_cast, h1, decide_false, Option.bind_some, O.cnd_bool, Bool.false_eq_true, if_false, hmap, Val.comps_eq, O.calls_5, O.mkagg_eq, Val.fold_eta, List.drop_of_length_le (Nat.le_of_not_lt h1), List.map_nil, List.append_nil]
  | n + 1, i, acc, h, ha, hw => by
    have hi : i < v.l.length := by omega
    have hwi := next64 (i := i) (by omega)
    obtain ⟨hcall, hx⟩ := ih _ (List.getElem_mem hi)
    have next := prog_fill_l s t v hv y4 y5 y6 ht ih n (i + 1) (acc ++ [fillS t v.l[i]]) (by omega) (by simp; omega) (fun p hp => by
      rcases List.mem_append.1 hp with h | h
      · exact hw p h
      · simp at h; subst h; exact hx)
    have hap : (acc.length + 1) * 80 ≤ maxBytes := app_ok (by omega) (by omega)
    rw [List.append_assoc, List.singleton_append] at next
    rw [e_f_defaults_elements_1, List.drop_eq_getElem_cons hi, List.map_cons, ← next]
    simp only [O.lt_int, lt_cast, hi, decide_true, Option.bind_some, O.cnd_bool, if_true, O.index_list, Int.natCast_nonneg, Int.toNat_natCast, List.getElem?_map, List.getElem?_eq_getElem hi, Option.map_some, Sch.proj5, ht, List.map_cons, List.map_nil, Int.le_refl, Int.toNat_zero, List.getElem?_cons_zero, hcall, O.calls_1, O.mklist_eq, O.append_list, List.length_map, List.length_singleton, hap, List.map_append, O.add_int, hwi]
/-- What the first loop leaves. -/
theorem folds_ok (s : Sch) (hso : SOk s) (hs : s.mass ≤ 1048576) : ∀ (fs : List SFld) (v : Val), (∀ p ∈ fs, p ∈ s.f) → (∀ q ∈ v.f, VOk q.2 ∧ Wide 1000000000 q.2) → (∀ q ∈ (fs.foldl d1 v).f, VOk q.2 ∧ Wide 1000000000 q.2) ∧ (fs.foldl d1 v).f.length ≤ v.f.length + fs.length
  | [], v, _, h => ⟨h, by simp⟩
  | p :: fs, v, hfs, h => by
    have h1 : (∀ q ∈ (d1 v p).f, VOk q.2 ∧ Wide 1000000000 q.2) ∧ (d1 v p).f.length ≤ v.f.length + 1 := by
      unfold d1
      split
      · cases hdf : p.df with
        | nil => exact ⟨h, by simp⟩
        | cons d r =>
          have hd : d ∈ p.df := by rw [hdf]; simp
          refine ⟨fun q hq => ?_, withV_len _ _ _⟩
          have hq2 : q ∈ mapL (othersF v p.nm ++ [(p.nm, d)]) := hq
          rcases List.mem_append.1 (mapL_mem hq2) with g | g
          · unfold othersF at g
            split at g
            · exact h q (List.mem_filter.1 g).1
            · simp at g
          · simp at g; subst g
            exact ⟨(hso.dfOk (hfs p (by simp)) hd).1, (df_wide hs (hfs p (by simp)) hd).mono (by omega)⟩
      · exact ⟨h, by simp⟩
    obtain ⟨h2, h3⟩ := folds_ok s hso hs fs (d1 v p) (fun q hq => hfs q (by simp [hq])) h1.1
    exact ⟨h2, by rw [List.foldl_cons, List.length_cons]; omega⟩
theorem prog_fill : ∀ s : Sch, SOk s → s.mass ≤ 1048576 → ∀ v : Val, VOk v → Wide 1000000000 v → W f_defaults_Fill 0 [s.enc, v.enc] = some [(fillS s v).enc] := by
  refine Sch.ind fun s ih1 ih2 hso hs v hv hvw => ?_
  have hcl := defs_cloneW v (hvw.mono (by omega))
  have IH : ∀ (nm : ByteArray) (t : Sch), subS s nm = some t → ∀ x, VOk x → Wide 1000000000 x → W f_defaults_Fill 0 [t.enc, x.enc] = some [(fillS t x).enc] ∧ Wide 1010000000 (fillS t x) := by
    intro nm t ht x hx hxw
    have htm := subS_mass ht
    refine ⟨?_, (fill_wide 1000000000 1048576 (by omega) t (by omega) x hxw).mono (by omega)⟩
    rcases subS_mem ht with h | ⟨p, hp, _, rfl⟩
    · exact ih1 t h (hso.mem_it h) (by omega) x hx hxw
    · exact ih2 p hp (hso.mem_f hp) (by omega) x hx hxw
  have hmf := s.mass_len_f
  have hvl := hvw.len_f
  -- the second loop, from whatever the first leaves
  have second : ∀ v' : Val, (∀ q ∈ v'.f, VOk q.2 ∧ Wide 1000000000 q.2) → v'.f.length ≤ 1010000000 → W f_defaults_Fill 2 [s.enc, v'.enc, .int 0, .int 0, .str ⟨#[]⟩] = some [(mapV (v'.f.map (g1 s))).enc] := by
    intro v' h1 h2
    have h4 := prog_fill_4 s v' hs h2 (.int 0) (.int 0) (.str ⟨#[]⟩) (fun p hp => ⟨(h1 p hp).2.mono (by omega), fun t ht => IH p.1 t ht p.2 (h1 p hp).1 (h1 p hp).2⟩) v'.f.length 0 [] (by omega) rfl ⟨Nat.zero_le _, by simp⟩
    simp only [List.drop_zero, Int.cast_ofNat_Int, List.map_nil, List.nil_append] at h4
    rw [e_f_defaults_Fill_2]
    simp only [Val.proj4, Option.bind_some, O.len_list, List.length_map, h4]
  have hvf : ∀ q ∈ v.f, VOk q.2 ∧ Wide 1000000000 q.2 := fun q hq => ⟨hv.mem_f hq, hvw.mem_f hq⟩
  rw [e_f_defaults_Fill_0, fillS_eq]
  simp only [Val.proj0, Sch.proj0, Option.bind_some, O.ne_int, O.eq_int, O.cnd_bool]
  by_cases hk : v.k = s.k
  · simp only [hk, decide_true, Bool.not_true, Bool.false_eq_true, if_false, Option.bind_some, if_true]
    by_cases h5 : s.k = 5
    · have hk5 : v.k = 5 := by omega
      by_cases hi : s.it.length = 0
      · have h0 : s.it = [] := List.length_eq_zero_iff.1 hi
        obtain ⟨f1, f2⟩ := folds_ok s hso hs s.f v (fun _ h => h) hvf
        have h3 := prog_fill_3 s hs s.enc (.int 0) (.int 0) (.str ⟨#[]⟩) s.f.length 0 v (by omega) (hvw.mono (by omega)) (by omega)
        simp only [List.drop_zero, Int.cast_ofNat_Int] at h3
        rw [second _ f1 (by omega), fill_struct s v hso (plain_ok hv hk5) hi] at h3
        simp [h5, h0, h3]
      · obtain ⟨t, ht⟩ := List.length_eq_one_iff.1 (show s.it.length = 1 by have := hso.one; omega)
        have h2 := second v hvf (by omega)
        have hg : ∀ p : ByteArray × Val, g1 s p = (p.1, fillS t p.2) := fun p => by
          unfold g1 subS; simp [ht]
        have hst : Strict (v.f.map (g1 s)) := by
          unfold Strict
          rw [List.pairwise_map]
          exact hv.strict
        have hm : mapV (v.f.map (g1 s)) = ⟨5, 0, emptyB, [], v.f.map fun p => (p.1, fillS t p.2)⟩ := by
          unfold mapV
          rw [mapL_id hst]
          congr 1
          exact List.map_congr_left fun p _ => hg p
        rw [hm] at h2
        simp [h5, ht, h2, fillI]
    · by_cases h4 : s.k = 4
      · obtain ⟨t, ht⟩ := List.length_eq_one_iff.1 (hso.list h4)
        have htm : t ∈ s.it := by rw [ht]; simp
        have hl := prog_fill_l s t v (by have := hvw.len_l; omega) (.int 0) (.int 0) (.str ⟨#[]⟩) ht (fun x hx => ⟨ih1 t htm (hso.mem_it htm) (by have := Sch.mass_it htm; omega) x (hv.mem_l hx) (hvw.mem_l hx), (fill_wide 1000000000 1048576 (by omega) t (by have := Sch.mass_it htm; omega) x (hvw.mem_l hx)).mono (by omega)⟩) v.l.length 0 [] (by omega) rfl (by simp)
        simp only [List.drop_zero, Int.cast_ofNat_Int, List.map_nil, List.nil_append] at hl
        have he : W f_defaults_elements 0 [s.enc, v.enc] = some [(Val.mk 4 0 emptyB (v.l.map fun x => fillS t x) []).enc] := by
          rw [e_f_defaults_elements_0]
          simp [ht, hl]
        simp [h4, he, ht, fillI]
      · simp [h4, h5, hcl]
  · simp [hk, hcl]

theorem law_fill (s : Sch) (v : Val) (hm : s.mass + v.mass ≤ 1048576) : W f_law08_DefaultsFill 0 [s.enc, v.enc] = some [.bool true] := by
  obtain ⟨b, hb, hb2⟩ := ev_fits s v hm
  rw [e_f_law08_DefaultsFill_0]
  cases b with
  | false => simp [hb, lives]
  | true =>
    obtain ⟨hs, hv, _⟩ := hb2 rfl
    have hw : Wide 1048576 v := wide_mass v (by omega)
    have h1 := prog_fill s hs (by omega) v hv (hw.mono (by omega))
    have h2 := ref_fill s hs (by omega) v (hw.mono (by omega))
    have hfw := fill_wide 1048576 1048576 (by omega) s (by omega) v hw
    have h3 := ref_equalW (fillS s v) (fillS s v) (hfw.mono (by omega)) (hfw.mono (by omega))
    simp [hb, lives, h1, h2, h3]
end Go.CT.Defs
