import Derived.Test.YtcamikkadiiobaaDefsQ
namespace Go.CT.Defs
open Go.Proofs

/-! ## Filling twice is filling once -/
theorem fill_k (s : Sch) (v : Val) (hv : VOk v) : (fillS s v).k = v.k := by
  rw [fillS_eq]
  by_cases h : v.k = s.k
  · rw [if_pos h]
    by_cases h4 : s.k = 4
    · rw [if_pos h4]
      split
      · show (4 : Int) = _; omega
      · rfl
    · rw [if_neg h4]
      by_cases h5 : s.k = 5
      · rw [if_pos h5]
        split
        · have := (fillFs_plain s.f v v (plain_ok hv (by omega))).1; omega
        · show (5 : Int) = _; omega
      · rw [if_neg h5]
  · rw [if_neg h]
theorem get_ok {v x : Val} {nm : ByteArray} (h : VOk v) (hx : v.get nm = some x) : VOk x := by
  unfold Val.get at hx
  split at hx
  · rw [Option.map_eq_some_iff] at hx
    obtain ⟨p, hp, rfl⟩ := hx
    exact h.mem_f (List.mem_of_find?_eq_some hp)
  · cases hx
theorem pick_ok {s : Sch} {v x : Val} {p : SFld} (hs : SOk s) (hv : VOk v) (hp : p ∈ s.f) (hx : pick (v.get p.nm) p.df = some x) : VOk x := by
  rcases pick_from hx with h | h
  · exact get_ok hv h
  · exact (hs.dfOk hp h).1
theorem fillFs_mem : ∀ (fs : List SFld) (v out : Val) (q : ByteArray × Val), q ∈ (fillFs fs v out).f → q ∈ out.f ∨ ∃ p ∈ fs, ∃ x, pick (v.get p.nm) p.df = some x ∧ q = (p.nm, fillS p.s x)
  | [], v, out, q, h => by simp only [fillFs] at h; exact .inl h
  | p :: fs, v, out, q, h => by
    rw [fillFs_cons] at h
    rcases fillFs_mem fs v _ q h with h | ⟨p', hp', x, hx, rfl⟩
    · unfold fill1 at h
      cases hx : pick (v.get p.nm) p.df with
      | none => rw [hx] at h; exact .inl h
      | some x =>
        rw [hx] at h
        have h2 : q ∈ mapL (othersF out p.nm ++ [(p.nm, fillS p.s x)]) := h
        rcases List.mem_append.1 (mapL_mem h2) with g | g
        · unfold othersF at g
          split at g
          · exact .inl (List.mem_filter.1 g).1
          · simp at g
        · simp at g; subst g; exact .inr ⟨p, by simp, x, hx, rfl⟩
    · exact .inr ⟨p', by simp [hp'], x, hx, rfl⟩
theorem fill_ok : ∀ s : Sch, SOk s → ∀ v : Val, VOk v → VOk (fillS s v) := by
  refine Sch.ind fun s ih1 ih2 hs v hv => ?_
  have hI : ∀ x : Val, VOk x → VOk (fillI s.it x) := by
    intro x hx
    cases hit : s.it with
    | nil => simp only [fillI]; exact hx
    | cons t r =>
      have htm : t ∈ s.it := by rw [hit]; simp
      simp only [fillI]
      exact ih1 t htm (hs.mem_it htm) x hx
  rw [fillS_eq]
  split
  · next hk =>
    split
    · split
      · refine .mk _ List.Pairwise.nil ⟨fun h => by simp at h, fun _ => ⟨rfl, rfl⟩, fun _ => rfl⟩ (fun y hy => ?_) (by simp)
        simp only [Val.l_mk, List.mem_map] at hy
        obtain ⟨x, hx, rfl⟩ := hy
        exact hI x (hv.mem_l hx)
      · exact hv
    · split
      · next h5 =>
        split
        · obtain ⟨p1, p2, p3, p4, p5⟩ := fillFs_plain s.f v v (plain_ok hv (by omega))
          refine .mk _ p5 ⟨fun _ => ⟨p2, p3, p4⟩, fun h => by omega, fun h => absurd p1 h⟩ (by rw [p4]; simp) (fun q hq => ?_)
          rcases fillFs_mem s.f v v q hq with h | ⟨p, hp, x, hx, rfl⟩
          · exact hv.mem_f h
          · exact ih2 p hp (hs.mem_f hp) x (pick_ok hs hv hp hx)
        · refine .mk _ ?_ ⟨fun _ => ⟨rfl, rfl, rfl⟩, fun h => by simp at h, fun h => by simp at h⟩ (by simp) (fun y hy => ?_)
          · show Strict (v.f.map _)
            unfold Strict
            rw [List.pairwise_map]
            exact hv.strict
          · simp only [Val.f_mk, List.mem_map] at hy
            obtain ⟨x, hx, rfl⟩ := hy
            exact hI x.2 (hv.mem_f hx)
      · exact hv
  · exact hv
theorem pick_again {o : Option Val} {df : List Val} {x y : Val} (hd : ∀ d ∈ df, d.k ≠ 0) (h : pick o df = some x) (hy : y.k = x.k) : pick (some y) df = some y := by
  unfold pick at h ⊢
  cases df with
  | nil => rfl
  | cons d r =>
    have hd0 := hd d (by simp)
    have : x.k ≠ 0 := by
      cases o with
      | none => simp at h; subst h; exact hd0
      | some z =>
        simp only at h
        by_cases c : z.k = 0
        · rw [if_pos c] at h; simp at h; subst h; exact hd0
        · rw [if_neg c] at h; simp at h; subst h; exact c
    simp only
    rw [if_neg (by omega)]
theorem fill_idem : ∀ s : Sch, SOk s → ∀ v : Val, VOk v → fillS s (fillS s v) = fillS s v := by
  refine Sch.ind fun s ih1 ih2 hs v hv => ?_
  have hI : ∀ x : Val, VOk x → fillI s.it (fillI s.it x) = fillI s.it x := by
    intro x hx
    cases hit : s.it with
    | nil => simp only [fillI]
    | cons t r =>
      have htm : t ∈ s.it := by rw [hit]; simp
      simp only [fillI]
      exact ih1 t htm (hs.mem_it htm) x hx
  have hk2 := fill_k s v hv
  by_cases hk : v.k = s.k
  · by_cases h4 : s.k = 4
    · by_cases hl : s.it.length = 1
      · have e : ∀ w : Val, w.k = s.k → fillS s w = ⟨4, 0, emptyB, w.l.map fun x => fillI s.it x, []⟩ := fun w hw => by
          rw [fillS_eq, if_pos hw, if_pos h4, if_pos hl]
        rw [e _ (by omega), e v hk]
        simp only [Val.l_mk, List.map_map]
        congr 1
        exact List.map_congr_left fun x hx => hI x (hv.mem_l hx)
      · have e : ∀ w : Val, w.k = s.k → fillS s w = w := fun w hw => by
          rw [fillS_eq, if_pos hw, if_pos h4, if_neg hl]
        rw [e _ (by omega)]
    · by_cases h5 : s.k = 5
      · by_cases hl : s.it.length = 0
        · have e : ∀ w : Val, w.k = s.k → fillS s w = fillFs s.f w w := fun w hw => by
            rw [fillS_eq, if_pos hw, if_neg h4, if_pos h5, if_pos hl]
          have hp := plain_ok hv (by omega)
          have hw := fillFs_plain s.f v v hp
          rw [e _ (by omega), e v hk]
          refine plain_ext (fillFs_plain _ _ _ hw) hw fun nm => ?_
          have l1 := fillFs_look s.f v v hs.names hp nm
          have l2 := fillFs_look s.f (fillFs s.f v v) (fillFs s.f v v) hs.names hw nm
          rw [l2]
          have hget := get_look hw.1 hw.2.2.2.2 nm
          have hgv := get_look hp.1 hp.2.2.2.2 nm
          rw [l1] at hget
          rw [l1]
          unfold fillLook at hget ⊢
          cases hf : s.f.find? fun p => decide (p.nm = nm) with
          | none => simp only [Option.none_or]
          | some p =>
            have hpm := List.mem_of_find?_eq_some hf
            have hpn : p.nm = nm := by simpa using List.find?_some hf
            rw [hf] at hget
            simp only [hpn] at hget ⊢
            rw [hget]
            cases hx : pick (v.get nm) p.df with
            | none =>
              have hdf : p.df = [] := by
                unfold pick at hx
                cases hd : p.df with
                | nil => rfl
                | cons d r => rw [hd] at hx; cases hg : v.get nm <;> rw [hg] at hx <;> simp at hx
              rw [hdf] at hx ⊢
              have hx2 : v.get nm = none := hx
              rw [hx2] at hgv
              have : look nm v.f = none := by
                cases h : look nm v.f with
                | none => rfl
                | some q => rw [h] at hgv; simp at hgv
              rw [this]; simp [pick]
            | some x =>
              have hxok : VOk x := pick_ok hs hv hpm (by rw [hpn]; exact hx)
              have hyk : (fillS p.s x).k = x.k := fill_k p.s x hxok
              have := pick_again (fun d hd => (hs.dfOk hpm hd).2.1) hx hyk
              simp only [Option.map_some, Option.some_or, this]
              rw [ih2 p hpm (hs.mem_f hpm) x hxok]
        · have e : ∀ w : Val, w.k = s.k → fillS s w = ⟨5, 0, emptyB, [], w.f.map fun p => (p.1, fillI s.it p.2)⟩ := fun w hw => by
            rw [fillS_eq, if_pos hw, if_neg h4, if_pos h5, if_neg hl]
          rw [e _ (by omega), e v hk]
          simp only [Val.f_mk, List.map_map]
          congr 1
          exact List.map_congr_left fun p hp => by simp only [Function.comp]; rw [hI p.2 (hv.mem_f hp)]
      · have e : ∀ w : Val, w.k = s.k → fillS s w = w := fun w hw => by
          rw [fillS_eq, if_pos hw, if_neg h4, if_neg h5]
        rw [e _ (by omega)]
  · have e : ∀ w : Val, ¬ w.k = s.k → fillS s w = w := fun w hw => by
      rw [fillS_eq, if_neg hw]
    rw [e _ (by omega)]
end Go.CT.Defs

namespace Go.CT.Defs
open Go.Proofs

/-! ## Pruning twice is pruning once -/
theorem prune_k (v : Val) (s : Sch) : (pruneV v s).k = v.k := by
  rw [pruneV_eq]
  split
  · split
    · split
      · show (4 : Int) = _; omega
      · rfl
    · split
      · show (5 : Int) = _; omega
      · rfl
  · rfl
theorem flat_congr {α β : Type} {f g : α → List β} : ∀ {l : List α}, (∀ a ∈ l, f a = g a) → l.flatMap f = l.flatMap g
  | [], _ => rfl
  | a :: l, h => by rw [List.flatMap_cons, List.flatMap_cons, h a (by simp), flat_congr fun b hb => h b (by simp [hb])]
theorem prune_idem : ∀ (v : Val) (s : Sch), pruneV (pruneV v s) s = pruneV v s := by
  refine Val.ind fun v ih1 ih2 s => ?_
  have hk2 := prune_k v s
  by_cases hk : v.k = s.k
  · by_cases h4 : v.k = 4
    · by_cases hl : s.it.length = 1
      · have e : ∀ w : Val, w.k = v.k → pruneV w s = ⟨4, 0, emptyB, w.l.map fun x => pruneV x (s.it.headD zeroSch), []⟩ := fun w hw => by
          rw [pruneV_eq, if_pos (by omega), if_pos (by omega), if_pos hl]
        rw [e _ hk2, e v rfl]
        simp only [Val.l_mk, List.map_map]
        congr 1
        exact List.map_congr_left fun x hx => ih1 x hx _
      · have e : ∀ w : Val, w.k = v.k → pruneV w s = w := fun w hw => by
          rw [pruneV_eq, if_pos (by omega), if_pos (by omega), if_neg hl]
        rw [e _ hk2]
    · by_cases h5 : v.k = 5
      · have e : ∀ w : Val, w.k = v.k → pruneV w s = ⟨5, 0, emptyB, [], w.f.flatMap (prune1 s)⟩ := fun w hw => by
          rw [pruneV_eq, if_pos (by omega), if_neg (by omega), if_pos (by omega)]
        rw [e _ hk2, e v rfl]
        simp only [Val.f_mk, List.flatMap_assoc]
        congr 1
        refine flat_congr fun p hp => ?_
        unfold prune1
        by_cases k0 : p.2.k = 0
        · rw [if_pos k0]; rfl
        · rw [if_neg k0]
          cases hsub : subS s p.1 with
          | none => rfl
          | some t =>
            have hk0 : ¬ (pruneV p.2 t).k = 0 := by rw [prune_k]; exact k0
            simp only [List.flatMap_cons, List.flatMap_nil, List.append_nil, if_neg hk0, hsub, ih2 p hp t]
      · have e : ∀ w : Val, w.k = v.k → pruneV w s = w := fun w hw => by
          rw [pruneV_eq, if_pos (by omega), if_neg (by omega), if_neg (by omega)]
        rw [e _ hk2]
  · have e : ∀ w : Val, w.k = v.k → pruneV w s = w := fun w hw => by
      rw [pruneV_eq, if_neg (by omega)]
    rw [e _ hk2]
end Go.CT.Defs

namespace Go.CT.Defs
open Go.Proofs

/-! ## What lies within what -/
theorem look_mem {nm : ByteArray} {l : List (ByteArray × Val)} {p : ByteArray × Val} (h : look nm l = some p) : p ∈ l := (List.mem_filter.1 (List.mem_of_getLast? h)).1
theorem strict_look {l : List (ByteArray × Val)} (h : Strict l) {p : ByteArray × Val} (hp : p ∈ l) : look p.1 l = some p := by
  induction l with
  | nil => simp at hp
  | cons a l ih =>
    have h1 := List.pairwise_cons.1 h
    rw [look_cons]
    rcases List.mem_cons.1 hp with rfl | hp
    · have hn : look p.1 l = none := by
        cases hl : look p.1 l with
        | none => rfl
        | some q =>
          have := h1.1 q (look_mem hl)
          rw [look_name hl, blt_irrefl] at this
          cases this
      rw [hn, if_pos rfl]; rfl
    · rw [ih h1.2 hp]; rfl
theorem get_mem {v : Val} (hk : v.k = 5) (h : Strict v.f) {p : ByteArray × Val} (hp : p ∈ v.f) : v.get p.1 = some p.2 := by
  rw [get_look hk h, strict_look h hp]; rfl
inductive Within : Val → Val → Prop
  | mk (a b : Val) : a.k = b.k → a.n = b.n → a.s = b.s → a.l.length = b.l.length → (∀ (i : Nat) (h : i < a.l.length) (h' : i < b.l.length), Within a.l[i] b.l[i]) →
      (∀ p ∈ a.f, (b.get p.1).isSome = true) → (∀ p ∈ a.f, p.2.k ≠ 0 → ∀ x, b.get p.1 = some x → Within p.2 x) → Within a b
theorem Within.refl : ∀ v : Val, VOk v → Within v v := by
  refine Val.ind fun v ih1 ih2 hv => ?_
  by_cases h5 : v.k = 5
  · refine .mk v v rfl rfl rfl rfl (fun i h h' => ih1 _ (List.getElem_mem h) (hv.mem_l (List.getElem_mem h))) (fun p hp => ?_) (fun p hp _ x hx => ?_)
    · rw [get_mem h5 hv.strict hp]; rfl
    · rw [get_mem h5 hv.strict hp] at hx
      obtain rfl := Option.some.inj hx
      exact ih2 p hp (hv.mem_f hp)
  · have h0 := hv.nof h5
    exact .mk v v rfl rfl rfl rfl (fun i h h' => ih1 _ (List.getElem_mem h) (hv.mem_l (List.getElem_mem h))) (by simp [h0]) (by simp [h0])
theorem within_fill : ∀ s : Sch, SOk s → ∀ v : Val, VOk v → Within v (fillS s v) := by
  refine Sch.ind fun s ih1 ih2 hs v hv => ?_
  have hI : ∀ x : Val, VOk x → Within x (fillI s.it x) := by
    intro x hx
    cases hit : s.it with
    | nil => simp only [fillI]; exact Within.refl x hx
    | cons t r =>
      have htm : t ∈ s.it := by rw [hit]; simp
      simp only [fillI]
      exact ih1 t htm (hs.mem_it htm) x hx
  rw [fillS_eq]
  split
  · next hk =>
    split
    · split
      · obtain ⟨l1, l2, l3⟩ := hv.list (by omega)
        refine .mk _ _ (by simp only [Val.k_mk]; omega) l1 l2 (by simp) (fun i h h' => ?_) (by simp [l3]) (by simp [l3])
        simp only [Val.l_mk, List.getElem_map]
        exact hI _ (hv.mem_l (List.getElem_mem h))
      · exact Within.refl v hv
    · split
      · next h5 =>
        have hk5 : v.k = 5 := by omega
        obtain ⟨m1, m2, m3⟩ := hv.map hk5
        split
        · have hp := plain_ok hv hk5
          have hw := fillFs_plain s.f v v hp
          have hg : ∀ p ∈ v.f, (fillFs s.f v v).get p.1 = ((fillLook s.f v p.1).or (some p)).map (·.2) := fun p hpm => by
            rw [get_look hw.1 hw.2.2.2.2, fillFs_look s.f v v hs.names hp, strict_look hv.strict hpm]
          refine .mk _ _ (by rw [hw.1]; exact hk5) (by rw [hw.2.1]; exact m1) (by rw [hw.2.2.1]; exact m2) (by rw [hw.2.2.2.1, m3]) (fun i h h' => by rw [m3] at h; simp at h) (fun p hpm => ?_) (fun p hpm hk0 x hx => ?_)
          · rw [hg p hpm]
            cases fillLook s.f v p.1 <;> rfl
          · rw [hg p hpm] at hx
            unfold fillLook at hx
            cases hf : s.f.find? fun q => decide (q.nm = p.1) with
            | none =>
              rw [hf] at hx
              simp only [Option.none_or, Option.map_some] at hx
              obtain rfl := Option.some.inj hx
              exact Within.refl _ (hv.mem_f hpm)
            | some q =>
              rw [hf] at hx
              have hqm := List.mem_of_find?_eq_some hf
              have hqn : q.nm = p.1 := by simpa using List.find?_some hf
              have hpick : pick (v.get q.nm) q.df = some p.2 := by
                rw [hqn, get_mem hk5 hv.strict hpm]
                unfold pick
                cases q.df with
                | nil => rfl
                | cons d r => simp only; rw [if_neg hk0]
              simp only [hpick, Option.map_some, Option.some_or] at hx
              obtain rfl := Option.some.inj hx
              exact ih2 q hqm (hs.mem_f hqm) p.2 (hv.mem_f hpm)
        · have hst : Strict (v.f.map fun (p : ByteArray × Val) => (p.1, fillI s.it p.2)) := by
            unfold Strict
            rw [List.pairwise_map]
            exact hv.strict
          have hg : ∀ p ∈ v.f, (Val.mk 5 0 emptyB [] (v.f.map fun (p : ByteArray × Val) => (p.1, fillI s.it p.2))).get p.1 = some (fillI s.it p.2) := fun p hpm =>
            get_mem (v := Val.mk 5 0 emptyB [] (v.f.map fun (p : ByteArray × Val) => (p.1, fillI s.it p.2))) (p := (p.1, fillI s.it p.2)) rfl hst (List.mem_map.2 ⟨p, hpm, rfl⟩)
          refine .mk _ _ hk5 m1 m2 (by simp [m3]) (fun i h h' => by rw [m3] at h; simp at h) (fun p hpm => ?_) (fun p hpm hk0 x hx => ?_)
          · rw [hg p hpm]; rfl
          · rw [hg p hpm] at hx
            obtain rfl := Option.some.inj hx
            exact hI _ (hv.mem_f hpm)
      · exact Within.refl v hv
  · exact Within.refl v hv
theorem within_prune : ∀ (v : Val), VOk v → ∀ s : Sch, Within (pruneV v s) v := by
  refine Val.ind fun v ih1 ih2 hv s => ?_
  rw [pruneV_eq]
  split
  · next hk =>
    split
    · next h4 =>
      split
      · obtain ⟨l1, l2, l3⟩ := hv.list h4
        refine .mk _ _ h4.symm l1.symm l2.symm (by simp) (fun i h h' => ?_) (by simp) (by simp)
        simp only [Val.l_mk, List.getElem_map]
        exact ih1 _ (List.getElem_mem h') (hv.mem_l (List.getElem_mem h')) _
      · exact Within.refl v hv
    · split
      · next h5 =>
        obtain ⟨m1, m2, m3⟩ := hv.map h5
        have from' : ∀ p ∈ v.f.flatMap (prune1 s), ∃ q ∈ v.f, ∃ t, p = (q.1, pruneV q.2 t) := fun p hp => by
          obtain ⟨q, hq, hp⟩ := List.mem_flatMap.1 hp
          unfold prune1 at hp
          split at hp
          · simp at hp
          · split at hp
            · next t _ => exact ⟨q, hq, t, by simpa using hp⟩
            · simp at hp
        refine .mk _ _ h5.symm m1.symm m2.symm (by simp [m3]) (fun i h h' => by rw [m3] at h'; simp at h') (fun p hp => ?_) (fun p hp hk0 x hx => ?_)
        · obtain ⟨q, hq, t, rfl⟩ := from' p hp
          rw [get_mem h5 hv.strict hq]; rfl
        · obtain ⟨q, hq, t, rfl⟩ := from' p hp
          rw [get_mem h5 hv.strict hq] at hx
          obtain rfl := Option.some.inj hx
          exact ih2 q hq (hv.mem_f hq) t
      · exact Within.refl v hv
  · exact Within.refl v hv
theorem prune_ok : ∀ v : Val, VOk v → ∀ s : Sch, VOk (pruneV v s) := by
  refine Val.ind fun v ih1 ih2 hv s => ?_
  rw [pruneV_eq]
  split
  · split
    · split
      · refine .mk _ List.Pairwise.nil ⟨fun h => by simp at h, fun _ => ⟨rfl, rfl⟩, fun _ => rfl⟩ (fun y hy => ?_) (by simp)
        simp only [Val.l_mk, List.mem_map] at hy
        obtain ⟨x, hx, rfl⟩ := hy
        exact ih1 x hx (hv.mem_l hx) _
      · exact hv
    · split
      · refine .mk _ (flat_strict _ (fun _ _ h => prune1_name h) (prune1_len s) _ hv.strict) ⟨fun _ => ⟨rfl, rfl, rfl⟩, fun h => by simp at h, fun h => by simp at h⟩ (by simp) (fun p hp => ?_)
        obtain ⟨q, hq, hp⟩ := List.mem_flatMap.1 hp
        unfold prune1 at hp
        split at hp
        · simp at hp
        · split at hp
          · next t _ =>
            have e : p = (q.1, pruneV q.2 t) := by simpa using hp
            rw [e]
            exact ih2 q hq (hv.mem_f hq) t
          · simp at hp
      · exact hv
  · exact hv
end Go.CT.Defs

namespace Go.CT.Defs
open Go.Proofs

/-! ## Filling and pruning commute where no default has a null -/
inductive NoNull : Val → Prop
  | mk (v : Val) : v.k ≠ 0 → (∀ x ∈ v.l, NoNull x) → (∀ p ∈ v.f, NoNull p.2) → NoNull v
theorem NoNull.k0 {v : Val} (h : NoNull v) : v.k ≠ 0 := by cases h; assumption
theorem NoNull.mem_l {v : Val} (h : NoNull v) {x : Val} (hx : x ∈ v.l) : NoNull x := by cases h with | mk _ h1 h2 h3 => exact h2 x hx
theorem NoNull.mem_f {v : Val} (h : NoNull v) {p : ByteArray × Val} (hx : p ∈ v.f) : NoNull p.2 := by cases h with | mk _ h1 h2 h3 => exact h3 p hx
inductive CleanS : Sch → Prop
  | mk (s : Sch) : (∀ t ∈ s.it, CleanS t) → (∀ p ∈ s.f, CleanS p.s) → (∀ p ∈ s.f, ∀ d ∈ p.df, NoNull d) → CleanS s
theorem CleanS.mem_it {s t : Sch} (h : CleanS s) (ht : t ∈ s.it) : CleanS t := by cases h with | mk _ h1 h2 h3 => exact h1 t ht
theorem CleanS.mem_f {s : Sch} {p : SFld} (h : CleanS s) (hp : p ∈ s.f) : CleanS p.s := by cases h with | mk _ h1 h2 h3 => exact h2 p hp
theorem CleanS.df {s : Sch} {p : SFld} {d : Val} (h : CleanS s) (hp : p ∈ s.f) (hd : d ∈ p.df) : NoNull d := by cases h with | mk _ h1 h2 h3 => exact h3 p hp d hd
theorem flat_one {α : Type} {g : α → List α} : ∀ {l : List α}, (∀ a ∈ l, g a = [a]) → l.flatMap g = l
  | [], _ => rfl
  | a :: l, h => by rw [List.flatMap_cons, h a (by simp), flat_one fun b hb => h b (by simp [hb])]; rfl
theorem map_id_of {α : Type} {g : α → α} {l : List α} (h : ∀ a ∈ l, g a = a) : l.map g = l := by
  rw [List.map_congr_left h]; simp
theorem prune_known : ∀ v : Val, VOk v → NoNull v → ∀ s : Sch, Known s v → pruneV v s = v := by
  refine Val.ind fun v ih1 ih2 hv hn s hk => ?_
  rw [pruneV_eq]
  cases hk with
  | leaf _ _ h1 h2 h3 => rw [if_pos h1, if_neg h2, if_neg h3]
  | list _ _ t h1 h2 h3 h4 =>
    obtain ⟨l1, l2, l3⟩ := hv.list h2
    rw [if_pos h1, if_pos h2, if_pos (by simp [h3])]
    have : (v.l.map fun x => pruneV x (s.it.headD zeroSch)) = v.l := map_id_of fun x hx => by
      rw [h3]; exact ih1 x hx (hv.mem_l hx) (hn.mem_l hx) t (h4 x hx)
    rw [this]
    conv => rhs; rw [v.eta, h2, l1, l2, l3]
  | map _ _ h1 h2 h3 h4 =>
    obtain ⟨l1, l2, l3⟩ := hv.map h2
    rw [if_pos h1, if_neg (by omega), if_pos h2]
    have : v.f.flatMap (prune1 s) = v.f := flat_one fun p hp => by
      have hk0 := (hn.mem_f hp).k0
      unfold prune1
      rw [if_neg hk0]
      have hsome := h3 p hp
      cases hsub : subS s p.1 with
      | none => rw [hsub] at hsome; cases hsome
      | some t =>
        simp only
        rw [ih2 p hp (hv.mem_f hp) (hn.mem_f hp) t (h4 p hp hk0 t hsub)]
    rw [this]
    conv => rhs; rw [v.eta, h2, l1, l2, l3]
/-- What pruning leaves under a name. -/
def pruneLook (s : Sch) (nm : ByteArray) (o : Option (ByteArray × Val)) : Option (ByteArray × Val) :=
  match o with
  | none => none
  | some p => if p.2.k = 0 then none else (subS s nm).map fun t => (nm, pruneV p.2 t)
theorem look_none {nm : ByteArray} {l : List (ByteArray × Val)} (h : ∀ p ∈ l, p.1 ≠ nm) : look nm l = none := by
  cases hl : look nm l with
  | none => rfl
  | some q => exact absurd (look_name hl) (h q (look_mem hl))
theorem look_flat (s : Sch) (nm : ByteArray) : ∀ l : List (ByteArray × Val), Strict l → look nm (l.flatMap (prune1 s)) = pruneLook s nm (look nm l)
  | [], _ => rfl
  | p :: l, h => by
    have h1 := List.pairwise_cons.1 h
    rw [List.flatMap_cons, look_append, look_cons, look_flat s nm l h1.2]
    by_cases c : p.1 = nm
    · have hn : look nm l = none := look_none fun q hq e => by
        have := h1.1 q hq
        rw [c, e, blt_irrefl] at this
        cases this
      rw [hn, if_pos c]
      simp only [pruneLook, Option.none_or]
      unfold prune1
      by_cases k0 : p.2.k = 0
      · rw [if_pos k0, if_pos k0]; rfl
      · rw [if_neg k0, if_neg k0, c]
        cases subS s nm with
        | none => rfl
        | some t => simp only [Option.map_some]; rw [look_cons, if_pos rfl]; rfl
    · have hn : look nm (prune1 s p) = none := look_none fun q hq => by rw [prune1_name hq]; exact c
      rw [hn, if_neg c, Option.or_none, Option.or_none]
theorem subS_one {s t : Sch} {nm : ByteArray} (h : s.it = [t]) : subS s nm = some t := by unfold subS; simp [h]
theorem subS_nil {s : Sch} {nm : ByteArray} (h : s.it = []) : subS s nm = (s.f.find? fun p => decide (p.nm = nm)).map (·.s) := by unfold subS; rw [if_neg (by simp [h])]; rfl
theorem commute : ∀ s : Sch, SOk s → CleanS s → ∀ v : Val, VOk v → fillS s (pruneV v s) = pruneV (fillS s v) s := by
  refine Sch.ind fun s ih1 ih2 hs hc v hv => ?_
  have hfk := fill_k s v hv
  have hpk := prune_k v s
  by_cases hk : v.k = s.k
  · by_cases h4 : s.k = 4
    · obtain ⟨t, ht⟩ := List.length_eq_one_iff.1 (hs.list h4)
      have htm : t ∈ s.it := by rw [ht]; simp
      have e1 : ∀ w : Val, w.k = s.k → fillS s w = ⟨4, 0, emptyB, w.l.map (fillS t), []⟩ := fun w hw => by
        rw [fillS_eq, if_pos hw, if_pos h4, if_pos (by simp [ht]), ht]; simp only [fillI]
      have e2 : ∀ w : Val, w.k = s.k → pruneV w s = ⟨4, 0, emptyB, w.l.map fun x => pruneV x t, []⟩ := fun w hw => by
        rw [pruneV_eq, if_pos hw, if_pos (by omega), if_pos (by simp [ht]), ht]; rfl
      rw [e1 _ (by omega), e2 v hk, e2 _ (by omega), e1 v hk]
      simp only [Val.l_mk, List.map_map]
      congr 1
      exact List.map_congr_left fun x hx => ih1 t htm (hs.mem_it htm) (hc.mem_it htm) x (hv.mem_l hx)
    · by_cases h5 : s.k = 5
      · have hk5 : v.k = 5 := by omega
        have e2 : ∀ w : Val, w.k = s.k → pruneV w s = ⟨5, 0, emptyB, [], w.f.flatMap (prune1 s)⟩ := fun w hw => by
          rw [pruneV_eq, if_pos hw, if_neg (by omega), if_pos (by omega)]
        by_cases hl : s.it.length = 0
        · have h0 : s.it = [] := List.length_eq_zero_iff.1 hl
          have e1 : ∀ w : Val, w.k = s.k → fillS s w = fillFs s.f w w := fun w hw => by
            rw [fillS_eq, if_pos hw, if_neg h4, if_pos h5, if_pos hl]
          have hp := plain_ok hv hk5
          have hw := fillFs_plain s.f v v hp
          have hP : Plain (pruneV v s) := plain_ok (prune_ok v hv s) (by omega)
          have L : fillS s (pruneV v s) = fillFs s.f (pruneV v s) (pruneV v s) := e1 _ (by omega)
          have R : pruneV (fillS s v) s = ⟨5, 0, emptyB, [], (fillFs s.f v v).f.flatMap (prune1 s)⟩ := by rw [e2 _ (by omega), e1 v hk]
          rw [L, R]
          have hQ : Plain (Val.mk 5 0 emptyB [] ((fillFs s.f v v).f.flatMap (prune1 s))) := ⟨rfl, rfl, rfl, rfl, flat_strict _ (fun _ _ h => prune1_name h) (prune1_len s) _ hw.2.2.2.2⟩
          refine plain_ext (fillFs_plain _ _ _ hP) hQ fun nm => ?_
          have l1 := fillFs_look s.f (pruneV v s) (pruneV v s) hs.names hP nm
          have l2 := look_flat s nm _ hw.2.2.2.2
          have l3 := fillFs_look s.f v v hs.names hp nm
          have l4 : look nm (pruneV v s).f = pruneLook s nm (look nm v.f) := by rw [e2 v hk]; exact look_flat s nm _ hv.strict
          have g1 := get_look hP.1 hP.2.2.2.2 nm
          have g2 := get_look hk5 hv.strict nm
          rw [l4] at g1 l1
          rw [l3] at l2
          rw [l1]
          show _ = look nm ((fillFs s.f v v).f.flatMap (prune1 s))
          rw [l2]
          unfold fillLook
          have hsub := subS_nil (nm := nm) h0
          cases hf : s.f.find? fun p => decide (p.nm = nm) with
          | none =>
            rw [hf] at hsub
            simp only [Option.none_or]
          | some q =>
            have hqm := List.mem_of_find?_eq_some hf
            have hqn : q.nm = nm := by simpa using List.find?_some hf
            rw [hf] at hsub
            simp only [Option.map_some] at hsub
            simp only [hqn, g1, g2]
            have dflt : ∀ d ∈ q.df, d.k ≠ 0 ∧ (fillS q.s d).k ≠ 0 ∧ pruneV (fillS q.s d) q.s = fillS q.s d := fun d hd => by
              obtain ⟨d1, d2, d3⟩ := hs.dfOk hqm hd
              refine ⟨d2, by rw [fill_k _ _ d1]; exact d2, ?_⟩
              rw [← ih2 q hqm (hs.mem_f hqm) (hc.mem_f hqm) d d1, prune_known d d1 (hc.df hqm hd) q.s d3]
            cases ho : look nm v.f with
            | none =>
              simp only [pruneLook, Option.map_none, Option.or_none]
              cases hdf : q.df with
              | nil => simp only [pick, Option.map_none]
              | cons d r =>
                obtain ⟨_, d2, d3⟩ := dflt d (by rw [hdf]; simp)
                simp only [pick, Option.map_some]
                rw [if_neg d2, hsub, Option.map_some, d3]
            | some p =>
              have hpm := look_mem ho
              have hpok := hv.mem_f hpm
              by_cases k0 : p.2.k = 0
              · simp only [pruneLook, if_pos k0, Option.map_none, Option.or_none, Option.map_some]
                cases hdf : q.df with
                | nil =>
                  simp only [pick, Option.map_none, Option.map_some, Option.some_or]
                  rw [if_pos (by rw [fill_k _ _ hpok]; exact k0)]
                | cons d r =>
                  obtain ⟨_, d2, d3⟩ := dflt d (by rw [hdf]; simp)
                  simp only [pick, if_pos k0, Option.map_some, Option.some_or]
                  rw [if_neg d2, hsub, Option.map_some, d3]
              · have hk1 : (pruneV p.2 q.s).k ≠ 0 := by rw [prune_k]; exact k0
                have hk2 : (fillS q.s p.2).k ≠ 0 := by rw [fill_k _ _ hpok]; exact k0
                have pk : ∀ x : Val, x.k ≠ 0 → pick (some x) q.df = some x := fun x hx => by
                  unfold pick
                  cases q.df with
                  | nil => rfl
                  | cons d r => simp only; rw [if_neg hx]
                simp only [pruneLook, if_neg k0, hsub, Option.map_some, pk _ hk1, pk _ k0, Option.some_or, if_neg hk2]
                rw [ih2 q hqm (hs.mem_f hqm) (hc.mem_f hqm) p.2 hpok]
        · obtain ⟨t, ht⟩ := List.length_eq_one_iff.1 (show s.it.length = 1 by have := hs.one; omega)
          have htm : t ∈ s.it := by rw [ht]; simp
          have e1 : ∀ w : Val, w.k = s.k → fillS s w = ⟨5, 0, emptyB, [], w.f.map fun p => (p.1, fillS t p.2)⟩ := fun w hw => by
            rw [fillS_eq, if_pos hw, if_neg h4, if_pos h5, if_neg hl, ht]; simp only [fillI]
          rw [e1 _ (by omega), e2 v hk, e2 _ (by omega), e1 v hk]
          simp only [Val.f_mk]
          congr 1
          rw [List.map_flatMap, List.flatMap_map]
          refine flat_congr fun p hp => ?_
          have hpok := hv.mem_f hp
          unfold prune1
          simp only [fill_k t p.2 hpok, subS_one ht]
          by_cases k0 : p.2.k = 0
          · rw [if_pos k0, if_pos k0]; rfl
          · rw [if_neg k0, if_neg k0]
            simp only [List.map_cons, List.map_nil]
            rw [ih1 t htm (hs.mem_it htm) (hc.mem_it htm) p.2 hpok]
      · have e1 : ∀ w : Val, fillS s w = w := fun w => by rw [fillS_eq]; split <;> first | rw [if_neg h4, if_neg h5] | rfl
        have e2 : ∀ w : Val, pruneV w s = w := fun w => by
          rw [pruneV_eq]
          split
          · rw [if_neg (by omega), if_neg (by omega)]
          · rfl
        rw [e1, e2, e1, e2]
  · have e1 : ∀ w : Val, ¬ w.k = s.k → fillS s w = w := fun w hw => by rw [fillS_eq, if_neg hw]
    have e2 : ∀ w : Val, ¬ w.k = s.k → pruneV w s = w := fun w hw => by rw [pruneV_eq, if_neg hw]
    rw [e2 v hk, e1 v hk, e2 v hk]
end Go.CT.Defs

namespace Go.CT.Defs
open Go.Proofs

/-! ## What the law asks beside: within, nulls, clean -/
theorem Within.inv {a b : Val} (h : Within a b) : a.k = b.k ∧ a.n = b.n ∧ a.s = b.s ∧ a.l.length = b.l.length ∧ (∀ (i : Nat) (h : i < a.l.length) (h' : i < b.l.length), Within a.l[i] b.l[i]) ∧
      (∀ p ∈ a.f, (b.get p.1).isSome = true) ∧ (∀ p ∈ a.f, p.2.k ≠ 0 → ∀ x, b.get p.1 = some x → Within p.2 x) := by
  cases h with | mk _ _ h1 h2 h3 h4 h5 h6 h7 => exact ⟨h1, h2, h3, h4, h5, h6, h7⟩
theorem within_2 (a b : Val) (ha : Wide 1073741824 a) (hb : Wide 1073741824 b) (hw : Within a b) (ih : ∀ p ∈ a.f, ∀ x : Val, Wide 1073741824 x → Within p.2 x → W f_law08_within 0 [p.2.enc, x.enc] = some [.bool true]) :
    ∀ (n i : Nat), i + n = a.f.length → W f_law08_within 2 [.int i, a.enc, b.enc] = some [.bool true]
  | 0, i, h => by
    rw [e_f_law08_within_2]
    have h1 : ¬ i < a.f.length := by omega
    simp [h1]
  | n + 1, i, h => by
    have hi : i < a.f.length := by omega
    have hl := ha.len_f
    have hn := next64 (i := i) (by omega)
    have next := within_2 a b ha hb hw ih n (i + 1) (by omega)
    have hget := ref_getW b a.f[i].1 (hb.mono (by omega))
    obtain ⟨_, _, _, _, _, h6, h7⟩ := hw.inv
    have g1 := h6 _ (List.getElem_mem hi)
    have g2 := h7 _ (List.getElem_mem hi)
    cases hx : b.get a.f[i].1 with
    | none => rw [hx] at g1; cases g1
    | some x =>
      rw [hx] at hget
      have hxw : Wide 1073741824 x := get_wide hb hx
      rw [e_f_law08_within_2]
      simp only [Val.proj4, O.len_list, List.length_map, O.lt_int, lt_cast, hi, decide_true, Option.bind_some, O.cnd_bool, if_true, O.index_list, Int.natCast_nonneg, Int.toNat_natCast, List.getElem?_map, List.getElem?_eq_getElem hi, Option.map_some, Fld.proj0, Fld.proj1, Fld.projV, hget, getIV, calls_6, Option.isSome_some, Option.getD_some, O.not_bool, Bool.not_true, Bool.false_eq_true, if_false, O.ne_int, O.mkagg_eq, Val.fold_eta, O.add_int, hn]
      by_cases hk : a.f[i].2.k = 0
      · simp only [hk, decide_true, Bool.not_true, Bool.false_eq_true, if_false, Option.bind_some, O.cnd_bool, next]
      · have hc := ih _ (List.getElem_mem hi) x hxw (g2 hk x hx)
        simp only [hk, decide_false, Bool.not_false, if_true, hc, O.calls_1, O.not_bool, Bool.not_true, Option.bind_some, O.cnd_bool, Bool.false_eq_true, if_false, next]
theorem within_1 (a b : Val) (ha : Wide 1073741824 a) (hb : Wide 1073741824 b) (hw : Within a b) (ih : ∀ z ∈ a.l, ∀ x : Val, Wide 1073741824 x → Within z x → W f_law08_within 0 [z.enc, x.enc] = some [.bool true]) :
    ∀ (n i : Nat), i + n = a.l.length → W f_law08_within 1 [.int i, a.enc, b.enc] = W f_law08_within 2 [.int 0, a.enc, b.enc]
  | 0, i, h => by
    rw [e_f_law08_within_1]
    have h1 : ¬ i < a.l.length := by omega
    simp [h1]
  | n + 1, i, h => by
    have hi : i < a.l.length := by omega
    have hl := ha.len_l
    have hn := next64 (i := i) (by omega)
    have next := within_1 a b ha hb hw ih n (i + 1) (by omega)
    obtain ⟨_, _, _, h4, h5, _, _⟩ := hw.inv
    have hi' : i < b.l.length := by omega
    have hc := ih _ (List.getElem_mem hi) _ (hb.mem_l (List.getElem_mem hi')) (h5 i hi hi')
    rw [e_f_law08_within_1]
    simp only [Val.proj3, O.len_list, List.length_map, O.lt_int, lt_cast, hi, decide_true, Option.bind_some, O.cnd_bool, if_true, O.index_list, Int.natCast_nonneg, Int.toNat_natCast, List.getElem?_map, List.getElem?_eq_getElem hi, List.getElem?_eq_getElem hi', Option.map_some, hc, O.calls_1, O.not_bool, Bool.not_true, Bool.false_eq_true, if_false, O.add_int, hn, next]
theorem ev_within : ∀ a : Val, Wide 1073741824 a → ∀ b : Val, Wide 1073741824 b → Within a b → W f_law08_within 0 [a.enc, b.enc] = some [.bool true] := by
  refine Val.ind fun a ih1 ih2 ha b hb hw => ?_
  obtain ⟨h1, h2, h3, h4, _, _, _⟩ := hw.inv
  have k1 := within_1 a b ha hb hw (fun z hz x hx h => ih1 z hz (ha.mem_l hz) x hx h) a.l.length 0 (by omega)
  have k2 := within_2 a b ha hb hw (fun p hp x hx h => ih2 p hp (ha.mem_f hp) x hx h) a.f.length 0 (by omega)
  rw [e_f_law08_within_0]
  simp only [Val.proj0, Val.proj1, Val.proj2, Val.proj3, Option.bind_some, O.ne_int, h1, h2, h3, decide_true, Bool.not_true, O.cnd_bool, Bool.false_eq_true, if_false, O.sNe_str, O.len_list, List.length_map, h4]
  exact k1.trans k2

theorem nulls_2 (v : Val) (hv : v.mass ≤ 1099511627776) (ih : ∀ p ∈ v.f, ∃ b, W f_ref08_Nulls 0 [p.2.enc] = some [.bool b] ∧ (b = false → NoNull p.2)) : ∀ (n i : Nat), i + n = v.f.length →
    ∃ b, W f_ref08_Nulls 2 [.int i, v.enc] = some [.bool b] ∧ (b = false → ∀ p ∈ v.f.drop i, NoNull p.2)
  | 0, i, h => by
    rw [e_f_ref08_Nulls_2]
    have h1 : ¬ i < v.f.length := by omega
    exact ⟨false, by simp [h1], by simp [List.drop_of_length_le (Nat.le_of_not_lt h1)]⟩
  | n + 1, i, h => by
    have hi : i < v.f.length := by omega
    have hl := v.mass_len_f
    have hn := next64 (i := i) (by omega)
    obtain ⟨b, hb, hb2⟩ := nulls_2 v hv ih n (i + 1) (by omega)
    obtain ⟨c, hc, hc2⟩ := ih _ (List.getElem_mem hi)
    rw [e_f_ref08_Nulls_2, List.drop_eq_getElem_cons hi]
    simp only [Val.proj4, O.len_list, List.length_map, O.lt_int, lt_cast, hi, decide_true, Option.bind_some, O.cnd_bool, if_true, O.index_list, Int.natCast_nonneg, Int.toNat_natCast, List.getElem?_map, List.getElem?_eq_getElem hi, Option.map_some, Fld.projV, hc, O.calls_1, O.add_int, hn, hb]
    cases c with
    | true => exact ⟨true, by simp, by simp⟩
    | false => exact ⟨b, by simp, fun h p hp => by
        rcases List.mem_cons.1 hp with rfl | hp
        · exact hc2 rfl
        · exact hb2 h p hp⟩
theorem nulls_1 (v : Val) (hv : v.mass ≤ 1099511627776) (ih : ∀ x ∈ v.l, ∃ b, W f_ref08_Nulls 0 [x.enc] = some [.bool b] ∧ (b = false → NoNull x)) (b2 : Bool) (h2 : W f_ref08_Nulls 2 [.int 0, v.enc] = some [.bool b2]) : ∀ (n i : Nat), i + n = v.l.length →
    ∃ b, W f_ref08_Nulls 1 [.int i, v.enc] = some [.bool b] ∧ (b = false → (∀ x ∈ v.l.drop i, NoNull x) ∧ b2 = false)
  | 0, i, h => by
    rw [e_f_ref08_Nulls_1]
    have h1 : ¬ i < v.l.length := by omega
    exact ⟨b2, by simp [h1, h2], fun hb => by simp [List.drop_of_length_le (Nat.le_of_not_lt h1), hb]⟩
  | n + 1, i, h => by
    have hi : i < v.l.length := by omega
    have hl := v.mass_len_l
    have hn := next64 (i := i) (by omega)
    obtain ⟨b, hb, hb2⟩ := nulls_1 v hv ih b2 h2 n (i + 1) (by omega)
    obtain ⟨c, hc, hc2⟩ := ih _ (List.getElem_mem hi)
    rw [e_f_ref08_Nulls_1, List.drop_eq_getElem_cons hi]
    simp only [Val.proj3, O.len_list, List.length_map, O.lt_int, lt_cast, hi, decide_true, Option.bind_some, O.cnd_bool, if_true, O.index_list, Int.natCast_nonneg, Int.toNat_natCast, List.getElem?_map, List.getElem?_eq_getElem hi, Option.map_some, hc, O.calls_1, O.add_int, hn, hb]
    cases c with
    | true => exact ⟨true, by simp, by simp⟩
    | false => exact ⟨b, by simp, fun h => ⟨fun p hp => by
        rcases List.mem_cons.1 hp with rfl | hp
        · exact hc2 rfl
        · exact (hb2 h).1 p hp, (hb2 h).2⟩⟩
theorem ev_nulls : ∀ v : Val, v.mass ≤ 1099511627776 → ∃ b, W f_ref08_Nulls 0 [v.enc] = some [.bool b] ∧ (b = false → NoNull v) := by
  refine Val.ind fun v ih1 ih2 hv => ?_
  obtain ⟨b2, h2, g2⟩ := nulls_2 v hv (fun p hp => ih2 p hp (by have := Val.mass_f hp; omega)) v.f.length 0 (by omega)
  obtain ⟨b1, h1, g1⟩ := nulls_1 v hv (fun x hx => ih1 x hx (by have := Val.mass_l hx; omega)) b2 h2 v.l.length 0 (by omega)
  rw [e_f_ref08_Nulls_0]
  simp only [Val.proj0, Option.bind_some, O.eq_int, O.cnd_bool]
  by_cases hk : v.k = 0
  · exact ⟨true, by simp [hk], by simp⟩
  · refine ⟨b1, by simp only [hk, decide_false, Bool.false_eq_true, if_false]; exact h1, fun h => ?_⟩
    obtain ⟨a1, a2⟩ := g1 h
    exact .mk v hk a1 (g2 a2)
theorem clean_2 (s : Sch) (hs : s.mass ≤ 1048576) (hd : ∀ p ∈ s.f, p.df.length ≤ 1) (ih : ∀ p ∈ s.f, ∃ b, W f_ref08_Clean 0 [p.s.enc] = some [.bool b] ∧ (b = true → CleanS p.s)) : ∀ (n i : Nat), i + n = s.f.length →
    ∃ b, W f_ref08_Clean 2 [.int i, s.enc] = some [.bool b] ∧ (b = true → ∀ p ∈ s.f.drop i, CleanS p.s ∧ ∀ d ∈ p.df, NoNull d)
  | 0, i, h => by
    rw [e_f_ref08_Clean_2]
    have h1 : ¬ i < s.f.length := by omega
    exact ⟨true, by simp [h1], by simp [List.drop_of_length_le (Nat.le_of_not_lt h1)]⟩
  | n + 1, i, h => by
    have hi : i < s.f.length := by omega
    have hl := s.mass_len_f
    have hn := next64 (i := i) (by omega)
    obtain ⟨b, hb, hb2⟩ := clean_2 s hs hd ih n (i + 1) (by omega)
    obtain ⟨c, hc, hc2⟩ := ih _ (List.getElem_mem hi)
    have hd1 := hd _ (List.getElem_mem hi)
    rw [e_f_ref08_Clean_2, List.drop_eq_getElem_cons hi]
    simp only [Sch.proj6, O.len_list, List.length_map, O.lt_int, lt_cast, hi, decide_true, Option.bind_some, O.cnd_bool, if_true, O.index_list, Int.natCast_nonneg, Int.toNat_natCast, List.getElem?_map, List.getElem?_eq_getElem hi, Option.map_some, SFld.projS, SFld.proj3, hc, O.calls_1, O.not_bool, O.gt_int, O.add_int, hn, hb]
    cases c with
    | false => exact ⟨false, by simp, by simp⟩
    | true =>
      have step : (∀ d ∈ s.f[i].df, NoNull d) → b = true → ∀ p ∈ s.f[i] :: s.f.drop (i + 1), CleanS p.s ∧ ∀ d ∈ p.df, NoNull d := fun hx h p hp => by
        rcases List.mem_cons.1 hp with rfl | hp
        · exact ⟨hc2 rfl, hx⟩
        · exact hb2 h p hp
      cases hdf : s.f[i].df with
      | nil => exact ⟨b, by simp, step (by simp [hdf])⟩
      | cons d r =>
        have hr : r = [] := by rw [hdf] at hd1; simp at hd1; exact hd1
        subst hr
        have hdm : d.mass ≤ 1048576 := by
          have := Sch.mass_d (List.getElem_mem hi) (d := d) (by rw [hdf]; simp)
          omega
        obtain ⟨e, he, he2⟩ := ev_nulls d (by omega)
        have hlen : (0 : Int) < (([d] : List Val).length : Int) := by simp
        cases e with
        | true => exact ⟨false, by simp [he], by simp⟩
        | false => exact ⟨b, by simp [he], step (by rw [hdf]; intro x hx; simp at hx; subst hx; exact he2 rfl)⟩
theorem clean_1 (s : Sch) (hs : s.mass ≤ 1048576) (ih : ∀ x ∈ s.it, ∃ b, W f_ref08_Clean 0 [x.enc] = some [.bool b] ∧ (b = true → CleanS x)) (b2 : Bool) (h2 : W f_ref08_Clean 2 [.int 0, s.enc] = some [.bool b2]) : ∀ (n i : Nat), i + n = s.it.length →
    ∃ b, W f_ref08_Clean 1 [.int i, s.enc] = some [.bool b] ∧ (b = true → (∀ x ∈ s.it.drop i, CleanS x) ∧ b2 = true)
  | 0, i, h => by
    rw [e_f_ref08_Clean_1]
    have h1 : ¬ i < s.it.length := by omega
    exact ⟨b2, by simp [h1, h2], fun hb => by simp [List.drop_of_length_le (Nat.le_of_not_lt h1), hb]⟩
  | n + 1, i, h => by
    have hi : i < s.it.length := by omega
    have hl := s.mass_len_it
    have hn := next64 (i := i) (by omega)
    obtain ⟨b, hb, hb2⟩ := clean_1 s hs ih b2 h2 n (i + 1) (by omega)
    obtain ⟨c, hc, hc2⟩ := ih _ (List.getElem_mem hi)
    rw [e_f_ref08_Clean_1, List.drop_eq_getElem_cons hi]
    simp only [Sch.proj5, O.len_list, List.length_map, O.lt_int, lt_cast, hi, decide_true, Option.bind_some, O.cnd_bool, if_true, O.index_list, Int.natCast_nonneg, Int.toNat_natCast, List.getElem?_map, List.getElem?_eq_getElem hi, Option.map_some, hc, O.calls_1, O.not_bool, O.add_int, hn, hb]
    cases c with
    | false => exact ⟨false, by simp, by simp⟩
    | true => exact ⟨b, by simp, fun h => ⟨fun p hp => by
        rcases List.mem_cons.1 hp with rfl | hp
        · exact hc2 rfl
        · exact (hb2 h).1 p hp, (hb2 h).2⟩⟩
theorem ev_clean : ∀ s : Sch, SOk s → s.mass ≤ 1048576 → ∃ b, W f_ref08_Clean 0 [s.enc] = some [.bool b] ∧ (b = true → CleanS s) := by
  refine Sch.ind fun s ih1 ih2 hso hs => ?_
  obtain ⟨b2, h2, g2⟩ := clean_2 s hs (fun p hp => hso.df1 hp) (fun p hp => ih2 p hp (hso.mem_f hp) (by have := Sch.mass_f hp; omega)) s.f.length 0 (by omega)
  obtain ⟨b1, h1, g1⟩ := clean_1 s hs (fun x hx => ih1 x hx (hso.mem_it hx) (by have := Sch.mass_it hx; omega)) b2 h2 s.it.length 0 (by omega)
  rw [e_f_ref08_Clean_0]
  refine ⟨b1, h1, fun h => ?_⟩
  obtain ⟨a1, a2⟩ := g1 h
  exact .mk s a1 (fun p hp => (g2 a2 p hp).1) (fun p hp => (g2 a2 p hp).2)
end Go.CT.Defs

namespace Go.CT.Defs
open Go.Proofs

/-! ## Pruning, bounded by width -/
theorem flat_len (s : Sch) : ∀ l : List (ByteArray × Val), (l.flatMap (prune1 s)).length ≤ l.length
  | [] => Nat.le_refl _
  | p :: l => by
    have h1 := prune1_len s p
    have h2 := flat_len s l
    rw [List.flatMap_cons, List.length_append, List.length_cons]; omega
theorem prune1_from {s : Sch} {p q : ByteArray × Val} (h : p ∈ prune1 s q) : ∃ t, p = (q.1, pruneV q.2 t) := by
  unfold prune1 at h
  split at h
  · simp at h
  · split at h
    · next t _ => exact ⟨t, by simpa using h⟩
    · simp at h
theorem prune_wide {N : Nat} : ∀ v : Val, Wide N v → ∀ s : Sch, Wide N (pruneV v s) := by
  refine Val.ind fun v ih1 ih2 hv s => ?_
  rw [pruneV_eq]
  split
  · split
    · split
      · refine .mk _ (by simp only [Val.l_mk, List.length_map]; exact hv.len_l) (by simp) (fun y hy => ?_) (by simp)
        simp only [Val.l_mk, List.mem_map] at hy
        obtain ⟨x, hx, rfl⟩ := hy
        exact ih1 x hx (hv.mem_l hx) _
      · exact hv
    · split
      · refine .mk _ (by simp) (by simp only [Val.f_mk]; have := flat_len s v.f; have := hv.len_f; omega) (by simp) (fun p hp => ?_)
        obtain ⟨q, hq, hp⟩ := List.mem_flatMap.1 hp
        obtain ⟨t, rfl⟩ := prune1_from hp
        exact ih2 q hq (hv.mem_f hq) t
      · exact hv
  · exact hv
theorem prog_prune_1W (sc : Sch) (v : Val) (hs : sc.mass ≤ 1099511627776) (hv : Wide 1073741824 v) (y4 y5 y6 : IV) (ih : ∀ p ∈ v.f, ∀ t, subS sc p.1 = some t → W f_defaults_Prune 0 [t.enc, p.2.enc] = some [(pruneV p.2 t).enc]) :
    ∀ (n i : Nat) (acc : List (ByteArray × Val)), i + n = v.f.length → acc.length ≤ i → (∀ p ∈ acc, Wide 1073741824 p.2) →
    W f_defaults_Prune 1 [.list (v.f.map Fld.enc), .int v.f.length, .int i, sc.enc, y4, y5, y6, .list (acc.map Fld.enc)] = some [(mapV (acc ++ (v.f.drop i).flatMap (prune1 sc))).enc]
  | 0, i, acc, h, ha, hm => by
    rw [e_f_defaults_Prune_1]
    have h1 : ¬ i < v.f.length := by omega
    have hlen := hv.len_f
    have hmap := val_mapW acc ⟨by omega, hm⟩
    simp only [O.lt_int, lt_cast, h1, decide_false, Option.bind_some, O.cnd_bool, Bool.false_eq_true, if_false, hmap, Val.comps_eq, O.calls_5, O.mkagg_eq, Val.fold_eta, List.drop_of_length_le (Nat.le_of_not_lt h1), List.flatMap_nil, List.append_nil]
  | n + 1, i, acc, h, ha, hm => by
    have hi : i < v.f.length := by omega
    have hlen := hv.len_f
    have hw := next64 (i := i) (by omega)
    have hpl := prune1_len sc v.f[i]
    have next := prog_prune_1W sc v hs hv y4 y5 y6 ih n (i + 1) (acc ++ prune1 sc v.f[i]) (by omega) (by rw [List.length_append]; omega) (fun p hp => by
      rcases List.mem_append.1 hp with hp | hp
      · exact hm p hp
      · obtain ⟨t, rfl⟩ := prune1_from hp
        exact prune_wide _ (hv.mem_f (List.getElem_mem hi)) t)
    have hap : (acc.length + 1) * 96 ≤ maxBytes := app_ok (by omega) (by omega)
    rw [List.append_assoc] at next
    rw [e_f_defaults_Prune_1, List.drop_eq_getElem_cons hi, List.flatMap_cons, ← next]
    simp only [O.lt_int, lt_cast, hi, decide_true, Option.bind_some, O.cnd_bool, if_true, O.index_list, Int.natCast_nonneg, Int.toNat_natCast, List.getElem?_map, List.getElem?_eq_getElem hi, Option.map_some, Fld.proj0, Fld.proj1, Fld.projV, ev_under sc _ hs, subIV, O.calls_2, O.ne_int, e_f_defaults_Prune_2, O.add_int, hw]
    unfold prune1
    cases hsub : subS sc v.f[i].1 with
    | none => simp only [Option.isSome_none, O.cnd_bool, Bool.false_eq_true, if_false, Option.bind_some, ite_self, List.append_nil]
    | some t =>
      have hcall := ih _ (List.getElem_mem hi) t hsub
      by_cases hk : v.f[i].2.k = 0
      · simp only [Option.isSome_some, O.cnd_bool, if_true, Option.bind_some, hk, decide_true, Bool.not_true, Bool.false_eq_true, if_false, List.append_nil]
      · simp only [Option.isSome_some, O.cnd_bool, if_true, Option.bind_some, hk, decide_false, Bool.not_false, if_false, Option.getD_some, hcall, O.calls_1, Val.proj0, Val.proj1, Val.proj2, Val.proj3, Val.proj4, O.mkagg_eq, Fld.fold_eta, O.mklist_eq, O.append_list, List.length_map, List.length_singleton, hap, List.map_append, List.map_cons, List.map_nil]
theorem prog_prune_lW (sc t : Sch) (v : Val) (hv : Wide 1073741824 v) (y4 y5 y6 : IV) (ht : sc.it = [t]) (ih : ∀ x ∈ v.l, W f_defaults_Prune 0 [t.enc, x.enc] = some [(pruneV x t).enc]) :
    ∀ (n i : Nat) (acc : List Val), i + n = v.l.length → acc.length ≤ i → (∀ x ∈ acc, Wide 1073741824 x) →
    W f_defaults_elements_v2 1 [.list (v.l.map Val.enc), .int v.l.length, .int i, sc.enc, y4, y5, y6, .list (acc.map Val.enc)] = some [(Val.mk 4 0 emptyB (acc ++ (v.l.drop i).map fun x => pruneV x t) []).enc]
  | 0, i, acc, h, ha, hm => by
    rw [e_f_defaults_elements_v2_1]
    have h1 : ¬ i < v.l.length := by omega
    have hlen := hv.len_l
    have hmap := val_listW acc (by omega) hm
    simp only [O.lt_int, lt_cast, h1, decide_false, Option.bind_some, O.cnd_bool, Bool.false_eq_true, if_false, hmap, Val.comps_eq, O.calls_5, O.mkagg_eq, Val.fold_eta, List.drop_of_length_le (Nat.le_of_not_lt h1), List.map_nil, List.append_nil]
  | n + 1, i, acc, h, ha, hm => by
    have hi : i < v.l.length := by omega
    have hlen := hv.len_l
    have hw := next64 (i := i) (by omega)
    have next := prog_prune_lW sc t v hv y4 y5 y6 ht ih n (i + 1) (acc ++ [pruneV v.l[i] t]) (by omega) (by rw [List.length_append]; simp; omega) (fun x hx => by
      rcases List.mem_append.1 hx with hx | hx
      · exact hm x hx
      · simp at hx; subst hx
        exact prune_wide _ (hv.mem_l (List.getElem_mem hi)) t)
    have hap : (acc.length + 1) * 80 ≤ maxBytes := app_ok (by omega) (by omega)
    have hcall := ih _ (List.getElem_mem hi)
    rw [List.append_assoc, List.singleton_append] at next
    rw [e_f_defaults_elements_v2_1, List.drop_eq_getElem_cons hi, List.map_cons, ← next]
    simp only [O.lt_int, lt_cast, hi, decide_true, Option.bind_some, O.cnd_bool, if_true, O.index_list, Int.natCast_nonneg, Int.toNat_natCast, List.getElem?_map, List.getElem?_eq_getElem hi, Option.map_some, Sch.proj5, ht, List.map_cons, List.map_nil, Int.le_refl, Int.toNat_zero, List.getElem?_cons_zero, hcall, O.calls_1, O.mklist_eq, O.append_list, List.length_map, List.length_singleton, hap, List.map_append, O.add_int, hw]
theorem prog_pruneW : ∀ v : Val, VOk v → Wide 1073741824 v → ∀ sc : Sch, SOk sc → sc.mass ≤ 1099511627776 → W f_defaults_Prune 0 [sc.enc, v.enc] = some [(pruneV v sc).enc] := by
  refine Val.ind fun v ih1 ih2 hv hm sc hs hsm => ?_
  have hcl := defs_cloneW v hm
  rw [e_f_defaults_Prune_0, pruneV_eq]
  simp only [Val.proj0, Sch.proj0, Option.bind_some, O.ne_int, O.eq_int, O.cnd_bool]
  by_cases hk : v.k = sc.k
  · simp only [hk, decide_true, Bool.not_true, Bool.false_eq_true, if_false, Option.bind_some, if_true]
    by_cases h5 : sc.k = 5
    · have hk5 : v.k = 5 := by omega
      have hf := prog_prune_1W sc v hsm hm (.int 0) (.int 0) (.str ⟨#[]⟩) (fun p hp t ht => ih2 p hp (hv.mem_f hp) (hm.mem_f hp) t (hs.sub ht) (by have := subS_mass ht; omega)) v.f.length 0 [] (by omega) (by simp) (by simp)
      simp only [List.drop_zero, Int.cast_ofNat_Int, List.map_nil, List.nil_append] at hf
      simp [h5, hf, mapV, flat_id sc _ hv.strict]
    · by_cases h4 : sc.k = 4
      · have hk4 : v.k = 4 := by omega
        obtain ⟨t, ht⟩ := List.length_eq_one_iff.1 (hs.list h4)
        have htm : t ∈ sc.it := by rw [ht]; simp
        have hl := prog_prune_lW sc t v hm (.int 0) (.int 0) (.str ⟨#[]⟩) ht (fun x hx => ih1 x hx (hv.mem_l hx) (hm.mem_l hx) t (hs.mem_it htm) (by have := Sch.mass_it htm; omega)) v.l.length 0 [] (by omega) (by simp) (by simp)
        simp only [List.drop_zero, Int.cast_ofNat_Int, List.map_nil, List.nil_append] at hl
        have he : W f_defaults_elements_v2 0 [sc.enc, v.enc] = some [(Val.mk 4 0 emptyB (v.l.map fun x => pruneV x t) []).enc] := by
          rw [e_f_defaults_elements_v2_0]
          simp [ht, hl]
        simp [h4, he, ht]
      · simp [h4, h5, hcl]
  · simp [hk, hcl]

theorem law_idem (s : Sch) (v : Val) (hm : s.mass + v.mass ≤ 1048576) : W f_law08_DefaultsIdempotent 0 [s.enc, v.enc] = some [.bool true] := by
  obtain ⟨b, hb, hb2⟩ := ev_fits s v hm
  rw [e_f_law08_DefaultsIdempotent_0]
  cases b with
  | false => simp [hb, lives]
  | true =>
    obtain ⟨hs, hv, _⟩ := hb2 rfl
    have hw : Wide 1048576 v := wide_mass v (by omega)
    have hfw := fill_wide 1048576 1048576 (by omega) s (by omega) v hw
    have hfo := fill_ok s hs v hv
    have hpw := prune_wide v hw s
    have hpo := prune_ok v hv s
    have f1 := prog_fill s hs (by omega) v hv (hw.mono (by omega))
    have p1 := prog_pruneW v hv (hw.mono (by omega)) s hs (by omega)
    have f2 := prog_fill s hs (by omega) _ hfo (hfw.mono (by omega))
    have p2 := prog_pruneW _ hpo (hpw.mono (by omega)) s hs (by omega)
    rw [fill_idem s hs v hv] at f2
    rw [prune_idem v s] at p2
    have e1 := ref_equalW (fillS s v) (fillS s v) (hfw.mono (by omega)) (hfw.mono (by omega))
    have e2 := ref_equalW (pruneV v s) (pruneV v s) (hpw.mono (by omega)) (hpw.mono (by omega))
    have w1 := ev_within v (hw.mono (by omega)) (fillS s v) (hfw.mono (by omega)) (within_fill s hs v hv)
    have w2 := ev_within (pruneV v s) (hpw.mono (by omega)) v (hw.mono (by omega)) (within_prune v hv s)
    obtain ⟨c, hc, hc2⟩ := ev_clean s hs (by omega)
    simp only [decide_true] at e1 e2
    cases c with
    | false => simp [hb, lives, f1, p1, f2, p2, e1, e2, w1, w2, hc]
    | true =>
      have f3 := prog_fill s hs (by omega) _ hpo (hpw.mono (by omega))
      have p3 := prog_pruneW _ hfo (hfw.mono (by omega)) s hs (by omega)
      rw [commute s hs (hc2 rfl) v hv] at f3
      have hqw := prune_wide _ hfw s
      have e3 := ref_equalW (pruneV (fillS s v) s) (pruneV (fillS s v) s) (hqw.mono (by omega)) (hqw.mono (by omega))
      simp only [decide_true] at e3
      simp [hb, lives, f1, p1, f2, p2, e1, e2, w1, w2, hc, f3, p3, e3]
end Go.CT.Defs
