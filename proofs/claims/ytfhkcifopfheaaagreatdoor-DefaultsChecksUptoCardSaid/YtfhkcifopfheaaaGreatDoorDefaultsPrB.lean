import Derived.Test.YtfhkcifopfheaaaGreatDoorDefaultsPrA
import Derived.Test.YtfhkcifopfheaaaGreatDoorTabA
import Derived.Test.YtfhkcifopfheaaaGreatDoorCtC
set_option linter.unusedVariables false
set_option linter.unusedSimpArgs false
namespace Go.CT.Sch.D
open Go.Proofs
theorem subS_eq {s : Sch} (h : SB s) (nm : ByteArray) : subS s nm = Sch.subS s nm := by
 unfold subS Sch.subS
 have h1 := h.one
 match h2 : s.it, h1 with
 | [], _ => simp
 | [t], _ => simp
theorem known_of : ∀ (v : Val) (s : Sch), SB s → errs v s [] = [] → Known s v := by
 refine Val.ind fun v ih1 ih2 s hs h => ?_
 have hk := errs_kind h
 by_cases k4 : v.k = 4
 ·obtain ⟨t, ht⟩ := List.length_eq_one_iff.1 (hs.list (by omega))
  have h2 := (errs_list h k4).2
  rw [ht, List.headD_cons] at h2
  exact .list s v t hk k4 ht fun x hx => ih1 x hx t (hs.mem_it (by rw [ht]; simp)) (errsL_mem h2 x hx)
 ·by_cases k5 : v.k = 5
  ·have hm := (errs_map h k5).1
   refine .map s v hk k5 (fun p hp => ?_) (fun p hp hpk t ht => ?_)
   ·obtain ⟨t, ht⟩ := err1_known (hm p hp [])
    rw [subS_eq hs, ht]; rfl
   ·rw [subS_eq hs] at ht
    exact ih2 p hp t (hs.sub ht) (errs_nil_p (err1_sub (hm p hp []) hpk ht) [])
  ·exact .leaf s v hk k4 k5
theorem fOk_pair {g : Sch → Bool} : ∀ (l : List SFld) (o : Option ByteArray), fOk g o l = true → l.Pairwise (fun a b => blt a.nm b.nm = true) ∧ ∀ q, o = some q → ∀ p ∈ l, blt q p.nm = true
 | [], o, _ => ⟨List.Pairwise.nil, fun q _ p hp => by simp at hp⟩
 | x :: l, o, h => by
  simp only [fOk, Bool.and_eq_true] at h
  obtain ⟨h1, h2⟩ := fOk_pair l (some x.nm) h.2
  have hx := h2 x.nm rfl
  refine ⟨List.pairwise_cons.2 ⟨hx, h1⟩, fun q hq p hp => ?_⟩
  have hg := h.1.1.1.1.2
  subst hq
  simp only [gtPrev] at hg
  rcases List.mem_cons.1 hp with rfl | hp
  ·exact hg
  ·exact blt_trans hg (hx p hp)
theorem svalid_SOk : ∀ (d : Nat) (s : Sch), svalid d s = true → SOk s
 | 0, s, h => by simp [svalid] at h
 | d + 1, s, h => by
  have hsb := svalid_SB (d + 1) s h
  have hf : ∀ p ∈ s.f, SOk p.s ∧ p.df.length ≤ 1 ∧ ∀ x ∈ p.df, VOk x ∧ x.k ≠ 0 ∧ Known p.s x := by
   intro p hp
   obtain ⟨_, _, h3, h4, h5⟩ := svalid_f h hp
   refine ⟨svalid_SOk d p.s h3, h4, fun x hx => ?_⟩
   unfold okDf at h5
   simp only [List.all_eq_true, Bool.and_eq_true, Bool.not_eq_true', decide_eq_false_iff_not, decide_eq_true_eq] at h5
   obtain ⟨⟨g1, g2⟩, g3⟩ := h5 x hx
   exact ⟨VOk_valid g2, g1, known_of x p.s (svalid_SB d p.s h3) (List.length_eq_zero_iff.1 g3)⟩
  have hpw : s.f.Pairwise (fun a b => blt a.nm b.nm = true) := by
   by_cases hn : s.f = []
   ·rw [hn]; exact List.Pairwise.nil
   ·obtain ⟨p, hp⟩ := List.exists_mem_of_ne_nil _ hn
    have k5 := (svalid_f h hp).1
    rw [svalid, if_neg (by omega), if_neg (by omega), if_neg (by omega), if_neg (by omega), if_pos k5] at h
    simp only [Bool.and_eq_true] at h
    exact (fOk_pair s.f none h.2).1
  exact .mk s hsb.one hsb.nof hsb.list hpw (fun t ht => svalid_SOk d t (svalid_it h ht)) (fun p hp => (hf p hp).1) (fun p hp => (hf p hp).2.1) (fun p hp => (hf p hp).2.2)
theorem prune_k (v : Val) (s : Sch) : (pruneV v s).k = v.k := by
 rw [pruneV_eq]
 split
 ·split
  ·split
   ·show (4 : Int) = _; omega
   ·rfl
  ·split
   ·show (5 : Int) = _; omega
   ·rfl
 ·rfl
theorem prune_leaf {v : Val} (s : Sch) (h4 : v.k ≠ 4) (h5 : v.k ≠ 5) : pruneV v s = v := by
 rw [pruneV_eq]
 split
 ·rfl
 ·rfl
theorem find_flat (g : ByteArray × Val → List (ByteArray × Val)) (hg : ∀ p q, q ∈ g p → q.1 = p.1) (hl : ∀ p, (g p).length ≤ 1) (nm : ByteArray) : ∀ l : List (ByteArray × Val), Strict l →
  (l.flatMap g).find? (fun p => decide (p.1 = nm)) = (l.find? fun p => decide (p.1 = nm)).bind fun p => (g p).head?
 | [], _ => rfl
 | p :: l, h => by
  have h1 := List.pairwise_cons.1 h
  rw [List.flatMap_cons, List.find?_append, List.find?_cons, find_flat g hg hl nm l h1.2]
  have hgp := hg p
  have hlp := hl p
  by_cases c : p.1 = nm
  ·have hno : (l.find? fun q => decide (q.1 = nm)) = none := by
    rw [List.find?_eq_none]
    intro q hq
    have := blt_ne (h1.1 q hq)
    simp only [decide_eq_true_eq]
    intro e
    exact this (by rw [c, e])
   rw [hno]
   have c' : decide (p.1 = nm) = true := by simpa using c
   rw [c']
   match hgp' : g p, hlp with
   | [], _ => simp [hgp']
   | [a], _ =>
    have := hgp a (by rw [hgp']; simp)
    simp [hgp', this, c]
  ·have c' : decide (p.1 = nm) = false := by simpa using c
   rw [c']
   have : (g p).find? (fun q => decide (q.1 = nm)) = none := by
    rw [List.find?_eq_none]
    intro q hq
    rw [hgp q hq, c']; simp
   rw [this]; rfl
theorem get_prune {v : Val} {s : Sch} (hv : VOk v) (hk : v.k = s.k) (k5 : v.k = 5) (nm : ByteArray) : (pruneV v s).get nm = (v.get nm).bind fun x => if x.k = 0 then none else (subS s nm).map (pruneV x) := by
 rw [pruneV_eq, if_pos hk, if_neg (by omega), if_pos k5]
 unfold Val.get
 rw [if_pos (show (Val.mk 5 0 emptyB [] (v.f.flatMap (prune1 s))).k = 5 from rfl), if_pos k5]
 show ((v.f.flatMap (prune1 s)).find? fun p => decide (p.1 = nm)).map (·.2) = _
 rw [find_flat (prune1 s) (fun p q h => prune1_name h) (prune1_len s) nm v.f hv.strict]
 cases hf : v.f.find? (fun p => decide (p.1 = nm)) with
 | none => rfl
 | some p =>
  have hp : p.1 = nm := by simpa using List.find?_some hf
  simp only [Option.bind_some, Option.map_some]
  unfold prune1
  split
  ·rfl
  ·rw [hp]
   cases subS s nm <;> rfl
theorem prune_key {x : Val} {t : Sch} (hx : VOk x) (key : ByteArray) (h : hasKey (pruneV x t) key = true) : hasKey x key = true ∧ keyB (pruneV x t) key = keyB x key := by
 by_cases hc : x.k = t.k ∧ x.k = 5
 ·have hg := get_prune hx hc.1 hc.2 key
  unfold hasKey isKey at h
  simp only [Bool.and_eq_true, Bool.not_eq_true', decide_eq_true_eq, decide_eq_false_iff_not] at h
  obtain ⟨y, hy⟩ := Option.isSome_iff_exists.1 h.1.1
  rw [hy, Option.getD_some] at h
  rw [hy] at hg
  cases hxg : x.get key with
  | none => rw [hxg] at hg; cases hg
  | some y0 =>
   rw [hxg, Option.bind_some] at hg
   split at hg
   ·cases hg
   ·cases hs : subS t key with
    | none => rw [hs] at hg; cases hg
    | some u =>
     rw [hs, Option.map_some] at hg
     have e := Option.some.inj hg
     have k3 : y0.k = 3 := by rw [← prune_k y0 u, ← e]; exact h.1.2
     have e2 : y = y0 := by rw [e, prune_leaf u (by omega) (by omega)]
     unfold hasKey isKey keyB
     rw [hxg, hy, e2]
     have : decide (key = emptyB) = false := by simpa using h.2
     simp [k3, this]
 ·have e : pruneV x t = x ∨ (pruneV x t).k = 4 := by
   rw [pruneV_eq]
   split
   ·split
    ·split
     ·exact .inr rfl
     ·exact .inl rfl
    ·split
     ·exact absurd ⟨by assumption, by assumption⟩ hc
     ·exact .inl rfl
   ·exact .inl rfl
  rcases e with e | e
  ·rw [e] at h ⊢; exact ⟨h, rfl⟩
  ·unfold hasKey isKey Val.get at h
   rw [if_neg (by omega)] at h
   simp at h
theorem prune_same {key k : ByteArray} {t : Sch} {u : Val} (hu : VOk u) (h : sameKey key k (pruneV u t) = true) : sameKey key k u = true := by
 unfold sameKey at h ⊢
 simp only [Bool.and_eq_true, decide_eq_true_eq] at h ⊢
 obtain ⟨h1, h2⟩ := prune_key hu key h.1
 exact ⟨h1, by rw [← h2]; exact h.2⟩
theorem dupE_nil {key : ByteArray} {prev : List Val} {v : Val} {q : List Stp} : dupE key prev v q = [] ↔ (hasKey v key && prev.any (sameKey key (keyB v key))) = false := by
 unfold dupE
 cases hasKey v key && prev.any (sameKey key (keyB v key)) <;> simp
theorem errsL_map (key : ByteArray) (t : Sch) (g : Val → Val) (p : List Stp) : ∀ (l prev : List Val), (∀ x ∈ prev ++ l, ∀ k, sameKey key k (g x) = true → sameKey key k x = true) → (∀ x ∈ l, hasKey (g x) key = true → hasKey x key = true ∧ keyB (g x) key = keyB x key) →
  (∀ x ∈ l, errs x t p = [] → errs (g x) t p = []) → errsL l key t p prev = [] → errsL (l.map g) key t p (prev.map g) = []
 | [], prev, _, _, _, _ => by rw [List.map_nil, errsL_nil]
 | x :: l, prev, h1, h2, h3, h => by
  rw [errsL_cons, List.append_eq_nil_iff, List.append_eq_nil_iff] at h
  rw [List.map_cons, errsL_cons, List.append_eq_nil_iff, List.append_eq_nil_iff]
  refine ⟨⟨errs_nil_p (h3 x (by simp) (errs_nil_p h.1.1 p)) _, ?_⟩, ?_⟩
  ·have hd := dupE_nil.1 h.1.2
   rw [dupE_nil]
   cases hk : hasKey (g x) key with
   | false => rfl
   | true =>
    obtain ⟨a1, a2⟩ := h2 x (by simp) hk
    rw [a1, Bool.true_and] at hd
    rw [Bool.true_and, a2, List.any_eq_false]
    intro u hu hsu
    obtain ⟨w, hw, rfl⟩ := List.mem_map.1 hu
    exact (List.any_eq_false.1 hd) w hw (h1 w (by simp [hw]) _ hsu)
  ·have := errsL_map key t g p l (prev ++ [x]) (fun y hy => h1 y (by simpa using hy)) (fun y hy => h2 y (by simp [hy])) (fun y hy => h3 y (by simp [hy])) h.2
   rw [List.map_append] at this
   exact this
theorem prune_errs : ∀ (v : Val), VOk v → ∀ (s : Sch) (p : List Stp), SB s → errs v s p = [] → errs (pruneV v s) s p = [] := by
 refine Val.ind fun v ih1 ih2 hv s p hs h => ?_
 have hk := errs_kind h
 by_cases k4 : v.k = 4
 ·obtain ⟨t, ht⟩ := List.length_eq_one_iff.1 (hs.list (by omega))
  obtain ⟨h1, h2⟩ := errs_list h k4
  rw [ht, List.headD_cons] at h2
  have hst := hs.mem_it (show t ∈ s.it by rw [ht]; simp)
  have e : pruneV v s = ⟨4, 0, emptyB, v.l.map fun x => pruneV x t, []⟩ := by
   rw [pruneV_eq, if_pos hk, if_pos k4, if_pos (by rw [ht]; rfl), ht, List.headD_cons]
  have hL := errsL_map s.key t (fun x => pruneV x t) p v.l [] (fun x hx k hh => prune_same (hv.mem_l (by simpa using hx)) hh) (fun x hx hh => prune_key (hv.mem_l hx) _ hh) (fun x hx hh => ih1 x hx (hv.mem_l hx) t p hst hh) h2
  have hr : rngE p s (v.l.map fun x => pruneV x t).length = [] := by rw [List.length_map]; exact h1
  have e5 : (pruneV v s).l = v.l.map fun x => pruneV x t := by rw [e]; rfl
  rw [errs_eq, prune_k, e5]
  rw [if_pos hk, if_neg (by omega), if_neg (by omega), if_pos k4, ht, List.headD_cons, hr, List.nil_append]
  exact hL
 ·by_cases k5 : v.k = 5
  ·obtain ⟨h1, h2⟩ := errs_map h k5
   have hg := get_prune hv hk k5
   have e : pruneV v s = ⟨5, 0, emptyB, [], v.f.flatMap (prune1 s)⟩ := by
    rw [pruneV_eq, if_pos hk, if_neg k4, if_pos k5]
   have hF : errsF (pruneV v s).f s p = [] := by
    rw [e, errsF_flat, List.flatMap_eq_nil_iff]
    intro q hq
    obtain ⟨x, hx, hq⟩ := List.mem_flatMap.1 hq
    unfold prune1 at hq
    split at hq
    ·simp at hq
    ·rename_i k0
     split at hq
     ·rename_i t ht
      simp only [List.mem_singleton] at hq
      subst hq
      rw [subS_eq hs] at ht
      have := err1_sub (h1 x hx p) k0 ht
      unfold err1
      rw [ht]
      simp only
      split
      ·rfl
      ·exact ih2 x hx (hv.mem_f hx) t _ (hs.sub ht) this
     ·simp at hq
   have hM : s.f.flatMap (miss1 (pruneV v s) p) = [] := by
    rw [List.flatMap_eq_nil_iff]
    intro d hd
    unfold miss1
    cases hr : d.rq with
    | false => rfl
    | true =>
     have hh := h2 d hd hr
     obtain ⟨x, hx, k0⟩ := here_get hh
     obtain ⟨t, ht⟩ := err1_known (h1 _ (mem_of_get hx).1 p)
     have := hg d.nm
     rw [hx, Option.bind_some, if_neg k0, subS_eq hs, ht, Option.map_some] at this
     rw [isHere_get this, prune_k]
     simp [k0]
   rw [errs_eq, prune_k]
   rw [if_pos hk, if_neg (by omega), if_neg (by omega), if_neg k4, if_pos k5, hF, hM]; rfl
  ·rw [prune_leaf s k4 k5]; exact h
theorem strict_rising : ∀ l : List (ByteArray × Val), Strict l → rising l = true
 | [], _ => rfl
 | [_], _ => rfl
 | p :: q :: r, h => by
  have h1 := List.pairwise_cons.1 h
  simp only [rising, Bool.and_eq_true]
  exact ⟨h1.1 q (by simp), strict_rising (q :: r) h1.2⟩
theorem flat_len (g : ByteArray × Val → List (ByteArray × Val)) (hl : ∀ p, (g p).length ≤ 1) : ∀ l : List (ByteArray × Val), (l.flatMap g).length ≤ l.length
 | [] => by simp
 | p :: l => by
  have := hl p
  have := flat_len g hl l
  simp only [List.flatMap_cons, List.length_append, List.length_cons]; omega
theorem prune_validD : ∀ (d : Nat) (v : Val) (s : Sch), validD d v = true → validD d (pruneV v s) = true
 | 0, v, s, h => by simp [validD] at h
 | d + 1, v, s, h => by
  have h' := (validD_succ d v).1 h
  have hv := VOk_of _ _ h
  rw [pruneV_eq]
  split
  ·split
   ·split
    ·rename_i k4 _
     rw [validD_succ]
     refine ⟨rfl, ⟨by show (v.l.map _).length ≤ 64; rw [List.length_map]; exact h'.2.1.1, by show (0 : Nat) ≤ 64; omega, fun hh => absurd rfl hh, fun _ => rfl⟩, fun x hx => ?_, fun p hp => by simp at hp, rfl⟩
     simp only [Val.l_mk, List.mem_map] at hx
     obtain ⟨y, hy, rfl⟩ := hx
     exact prune_validD d y _ (h'.2.2.1 y hy)
    ·exact h
   ·split
    ·rw [validD_succ]
     refine ⟨rfl, ⟨by show (0 : Nat) ≤ 64; omega, ?_, fun _ => rfl, fun hh => absurd rfl hh⟩, fun x hx => by simp at hx, fun p hp => ?_, ?_⟩
     ·have := flat_len (prune1 s) (prune1_len s) v.f
      show (v.f.flatMap (prune1 s)).length ≤ 64
      have := h'.2.1.2.1
      omega
     ·simp only [Val.f_mk, List.mem_flatMap] at hp
      obtain ⟨q, hq, hp⟩ := hp
      have hn := prune1_name hp
      have hqv := h'.2.2.2.1 q hq
      rw [hn]
      refine ⟨hqv.1, ?_⟩
      unfold prune1 at hp
      split at hp
      ·simp at hp
      ·split at hp
       ·simp only [List.mem_singleton] at hp
        subst hp
        exact prune_validD d q.2 _ hqv.2
       ·simp at hp
     ·exact strict_rising _ (flat_strict (prune1 s) (fun p q h => prune1_name h) (prune1_len s) v.f hv.strict)
    ·exact h
  ·exact h
theorem prune_size : ∀ (v : Val) (s : Sch), (pruneV v s).size ≤ v.size := by
 refine Val.ind fun v ih1 ih2 s => ?_
 have hL : ∀ (t : Sch) (l : List Val), (∀ x ∈ l, ∀ s, (pruneV x s).size ≤ x.size) → sizeVs (l.map fun x => pruneV x t) ≤ sizeVs l := by
  intro t l
  induction l with
  | nil => intro _; simp [sizeVs]
  | cons x l ih =>
   intro h
   have h1 := h x (by simp) t
   have h2 := ih fun y hy => h y (by simp [hy])
   simp only [List.map_cons, sizeVs]; omega
 have hF : ∀ (l : List (ByteArray × Val)), (∀ p ∈ l, ∀ s, (pruneV p.2 s).size ≤ p.2.size) → sizeFs (l.flatMap (prune1 s)) ≤ sizeFs l := by
  intro l
  induction l with
  | nil => intro _; simp [sizeFs]
  | cons p l ih =>
   intro h
   have h2 := ih fun y hy => h y (by simp [hy])
   have h3 : sizeFs (prune1 s p) ≤ p.2.size := by
    unfold prune1
    split
    ·simp [sizeFs]
    ·split
     ·next t _ => have h1 := h p (by simp) t; simp only [sizeFs]; omega
     ·simp [sizeFs]
   rw [List.flatMap_cons, sizeFs_append]
   simp only [sizeFs]; omega
 rw [pruneV_eq]
 split
 ·split
  ·split
   ·have := hL (s.it.headD zeroSch) v.l ih1
    rw [Val.size_eq, v.size_eq]
    simp only [Val.l_mk, Val.f_mk, sizeFs]; omega
   ·exact Nat.le_refl _
  ·split
   ·have := hF v.f ih2
    rw [Val.size_eq, v.size_eq]
    simp only [Val.l_mk, Val.f_mk, sizeVs]; omega
   ·exact Nat.le_refl _
 ·exact Nat.le_refl _
theorem prune_valid {v : Val} (s : Sch) (h : v.valid = true) : (pruneV v s).valid = true := by
 rw [valid_iff] at h ⊢
 have := prune_size v s
 exact ⟨prune_validD 12 v s h.1, by omega⟩
end Go.CT.Sch.D
namespace Go.CT.Sch.D
open Go.Proofs
theorem fill_k (s : Sch) (v : Val) (hv : VOk v) : (fillS s v).k = v.k := by
 rw [fillS_eq]
 by_cases h : v.k = s.k
 ·rw [if_pos h]
  by_cases h4 : s.k = 4
  ·rw [if_pos h4]
   split
   ·show (4 : Int) = _; omega
   ·rfl
  ·rw [if_neg h4]
   by_cases h5 : s.k = 5
   ·rw [if_pos h5]
    split
    ·have := (fillFs_plain s.f v v (plain_ok hv (by omega))).1; omega
    ·show (5 : Int) = _; omega
   ·rw [if_neg h5]
 ·rw [if_neg h]
theorem get_ok {v x : Val} {nm : ByteArray} (h : VOk v) (hx : v.get nm = some x) : VOk x := by
 unfold Val.get at hx
 split at hx
 ·rw [Option.map_eq_some_iff] at hx
  obtain ⟨p, hp, rfl⟩ := hx
  exact h.mem_f (List.mem_of_find?_eq_some hp)
 ·cases hx
theorem pick_ok {s : Sch} {v x : Val} {p : SFld} (hs : SOk s) (hv : VOk v) (hp : p ∈ s.f) (hx : pick (v.get p.nm) p.df = some x) : VOk x := by
 rcases pick_from hx with h | h
 ·exact get_ok hv h
 ·exact (hs.dfOk hp h).1
theorem fillFs_mem : ∀ (fs : List SFld) (v out : Val) (q : ByteArray × Val), q ∈ (fillFs fs v out).f → q ∈ out.f ∨ ∃ p ∈ fs, ∃ x, pick (v.get p.nm) p.df = some x ∧ q = (p.nm, fillS p.s x)
 | [], v, out, q, h => by simp only [fillFs] at h; exact .inl h
 | p :: fs, v, out, q, h => by
  rw [fillFs_cons] at h
  rcases fillFs_mem fs v _ q h with h | ⟨p', hp', x, hx, rfl⟩
  ·unfold fill1 at h
   cases hx : pick (v.get p.nm) p.df with
   | none => rw [hx] at h; exact .inl h
   | some x =>
    rw [hx] at h
    have h2 : q ∈ mapL (othersF out p.nm ++ [(p.nm, fillS p.s x)]) := h
    rcases List.mem_append.1 (mapL_mem h2) with g | g
    ·unfold othersF at g
     split at g
     ·exact .inl (List.mem_filter.1 g).1
     ·simp at g
    ·simp at g; subst g; exact .inr ⟨p, by simp, x, hx, rfl⟩
  ·exact .inr ⟨p', by simp [hp'], x, hx, rfl⟩
theorem fill_leaf {v : Val} (s : Sch) (h4 : v.k ≠ 4) (h5 : v.k ≠ 5) : fillS s v = v := by
 rw [fillS_eq]
 by_cases h : v.k = s.k
 ·rw [if_pos h, if_neg (by omega), if_neg (by omega)]
 ·rw [if_neg h]
theorem pick_here {x : Val} (df : List Val) (k0 : x.k ≠ 0) : pick (some x) df = some x := by
 unfold pick
 cases df with
 | nil => rfl
 | cons d r => simp only; rw [if_neg k0]
theorem fld_self {s : Sch} (hs : SOk s) {p : SFld} (hp : p ∈ s.f) : s.fld p.nm = some p := by
 have h := hs.names
 unfold Sch.fld
 revert hp
 generalize s.f = l at h
 induction l with
 | nil => intro hp; simp at hp
 | cons a l ih =>
  intro hp
  have h1 := List.pairwise_cons.1 h
  rw [List.find?_cons]
  rcases List.mem_cons.1 hp with rfl | hp
  ·simp
  ·have : ¬ a.nm = p.nm := blt_ne (h1.1 p hp)
   simp only [this, decide_false]
   exact ih h1.2 hp
theorem fill_get {s : Sch} {v x : Val} (hs : SOk s) (hv : VOk v) (hk : v.k = s.k) (k5 : v.k = 5) (hi : s.it = []) {p : SFld} (hp : p ∈ s.f) (hx : v.get p.nm = some x) (k0 : x.k ≠ 0) : (fillS s v).get p.nm = some (fillS p.s x) := by
 have hpl := plain_ok hv k5
 have e : fillS s v = fillFs s.f v v := by rw [fillS_eq, if_pos hk, if_neg (by omega), if_pos (by omega), if_pos (by rw [hi]; rfl)]
 have hp2 := fillFs_plain s.f v v hpl
 have hf : (s.f.find? fun q => decide (q.nm = p.nm)) = some p := fld_self hs hp
 rw [e, get_look hp2.1 hp2.2.2.2.2, fillFs_look s.f v v hs.names hpl]
 unfold fillLook
 rw [hf]
 simp only [hx, pick_here p.df k0, Option.map_some, Option.some_or]
theorem fill_key {x : Val} {t : Sch} {key : ByteArray} {p : SFld} {q : List Stp} (ht : SOk t) (hsb : SB t) (hx : VOk x) (h5 : t.k = 5) (hf : t.fld key = some p) (hr : p.rq = true) (h3 : p.s.k = 3) (he : errs x t q = []) : (fillS t x).get key = x.get key := by
 obtain ⟨hm, hnm⟩ := fld_mem hf
 have hi : t.it = [] := by
  cases hit : t.it with
  | nil => rfl
  | cons a r =>
   have := hsb.nof (by rw [hit]; simp)
   rw [this] at hm; simp at hm
 have hk := errs_kind he
 obtain ⟨h1, h2⟩ := errs_map he (by omega)
 have hh := h2 p hm hr
 obtain ⟨y, hy, k0⟩ := here_get hh
 have hsub : Sch.subS t p.nm = some p.s := by
  unfold Sch.subS
  rw [hi]
  simp only [fld_self ht hm, Option.map_some]
 have hey : y.k = p.s.k := errs_kind (err1_sub (h1 _ (mem_of_get hy).1 q) k0 hsub)
 have := fill_get ht hx hk (by omega) hi hm hy k0
 rw [fill_leaf (v := y) p.s (by omega) (by omega)] at this
 rw [← hnm, this, hy]
theorem hasKey_get {x y : Val} {key : ByteArray} (h : x.get key = y.get key) : hasKey x key = hasKey y key ∧ keyB x key = keyB y key := by
 unfold hasKey isKey keyB
 rw [h]; exact ⟨rfl, rfl⟩
theorem fill_errs : ∀ (s : Sch), s.valid = true → SOk s → ∀ (v : Val), VOk v → ∀ p : List Stp, errs v s p = [] → errs (fillS s v) s p = [] := by
 refine Sch.ind fun s ih1 ih2 hsv hso v hv p h => ?_
 have hs := Sch.valid_SB hsv
 have hk := errs_kind h
 by_cases k4 : v.k = 4
 ·obtain ⟨t, ht⟩ := List.length_eq_one_iff.1 (hs.list (by omega))
  have htm : t ∈ s.it := by rw [ht]; simp
  obtain ⟨h1, h2⟩ := errs_list h k4
  rw [ht, List.headD_cons] at h2
  have hst := hs.mem_it htm
  have e : (fillS s v).l = v.l.map fun x => fillS t x := by
   rw [fillS_eq, if_pos hk, if_pos (by omega), if_pos (by rw [ht]; rfl)]
   simp only [Val.l_mk, fillI_one ht]
  have hget : s.key ≠ emptyB → ∀ x ∈ v.l, (fillS t x).get s.key = x.get s.key := by
   intro hne x hx
   obtain ⟨t', ht', t5, fp, hfp, hrq, h3, _⟩ := svalid_keyName (d := 11) hsv (by omega) hne
   have : t' = t := by rw [ht] at ht'; simpa using ht'.symm
   subst this
   exact fill_key (hso.mem_it htm) hst (hv.mem_l hx) t5 hfp hrq h3 (errsL_mem h2 x hx)
  have noKey : ∀ x : Val, s.key = emptyB → hasKey x s.key = false := fun x e => by unfold hasKey; rw [e]; simp
  have hL := errsL_map s.key t (fun x => fillS t x) p v.l [] (fun x hx k hh => by
    by_cases c : s.key = emptyB
    ·unfold sameKey at hh; rw [noKey _ c] at hh; simp at hh
    ·obtain ⟨a1, a2⟩ := hasKey_get (hget c x (by simpa using hx))
     unfold sameKey at hh ⊢
     rw [a1, a2] at hh; exact hh) (fun x hx hh => by
    by_cases c : s.key = emptyB
    ·rw [noKey _ c] at hh; cases hh
    ·obtain ⟨a1, a2⟩ := hasKey_get (hget c x hx)
     exact ⟨by rw [← a1]; exact hh, a2⟩) (fun x hx hh => ih1 t htm (Sch.valid_it hsv htm) (hso.mem_it htm) x (hv.mem_l hx) p hh) h2
  have hr : rngE p s (v.l.map fun x => fillS t x).length = [] := by rw [List.length_map]; exact h1
  rw [errs_eq, fill_k s v hv, e]
  rw [if_pos hk, if_neg (by omega), if_neg (by omega), if_pos k4, ht, List.headD_cons, hr, List.nil_append]
  exact hL
 ·by_cases k5 : v.k = 5
  ·obtain ⟨h1, h2⟩ := errs_map h k5
   have hpl := plain_ok hv k5
   have hF : errsF (fillS s v).f s p = [] := by
    rw [errsF_flat, List.flatMap_eq_nil_iff]
    intro q hq
    cases hit : s.it with
    | cons t r =>
     have hr : r = [] := by have := hs.one; rw [hit] at this; simpa using this
     subst hr
     have htm : t ∈ s.it := by rw [hit]; simp
     have e : (fillS s v).f = v.f.map fun y => (y.1, fillS t y.2) := by
      rw [fillS_eq, if_pos hk, if_neg (by omega), if_pos (by omega), if_neg (by rw [hit]; simp)]
      simp only [Val.f_mk, fillI_one hit]
     rw [e, List.mem_map] at hq
     obtain ⟨y, hy, rfl⟩ := hq
     have hsub : Sch.subS s y.1 = some t := by unfold Sch.subS; rw [hit]
     have hvy := hv.mem_f hy
     unfold err1
     simp only [hsub, fill_k t y.2 hvy]
     split
     ·rfl
     ·rename_i k0
      exact ih1 t htm (Sch.valid_it hsv htm) (hso.mem_it htm) y.2 hvy _ (err1_sub (h1 y hy p) k0 hsub)
    | nil =>
     have e : fillS s v = fillFs s.f v v := by rw [fillS_eq, if_pos hk, if_neg (by omega), if_pos (by omega), if_pos (by rw [hit]; rfl)]
     rw [e] at hq
     rcases fillFs_mem s.f v v q hq with hq | ⟨d, hd, x, hx, rfl⟩
     ·exact h1 q hq p
     ·have hsub : Sch.subS s d.nm = some d.s := by
       unfold Sch.subS
       rw [hit]
       simp only [fld_self hso hd, Option.map_some]
      have hvx := pick_ok hso hv hd hx
      unfold err1
      simp only [hsub, fill_k d.s x hvx]
      split
      ·rfl
      ·rename_i k0
       refine ih2 d hd (Sch.valid_f hsv hd) (hso.mem_f hd) x hvx _ ?_
       rcases pick_from hx with hx | hx
       ·exact err1_sub (h1 _ (mem_of_get hx).1 p) k0 hsub
       ·have := (svalid_f (d := 11) hsv hd).2.2.2.2
        unfold okDf at this
        have := (List.all_eq_true.1 this) x hx
        simp only [Bool.and_eq_true, decide_eq_true_eq] at this
        exact errs_nil_p (List.length_eq_zero_iff.1 this.2) _
   have hM : s.f.flatMap (miss1 (fillS s v) p) = [] := by
    rw [List.flatMap_eq_nil_iff]
    intro d hd
    unfold miss1
    cases hr : d.rq with
    | false => rfl
    | true =>
     have hh := h2 d hd hr
     obtain ⟨x, hx, k0⟩ := here_get hh
     have hi : s.it = [] := by
      cases hit : s.it with
      | nil => rfl
      | cons a r =>
       have := hs.nof (by rw [hit]; simp)
       rw [this] at hd; simp at hd
     have := fill_get hso hv hk k5 hi hd hx k0
     rw [isHere_get this, fill_k d.s x (get_ok hv hx)]
     simp [k0]
   rw [errs_eq, fill_k s v hv]
   rw [if_pos hk, if_neg (by omega), if_neg (by omega), if_neg k4, if_pos k5, hF, hM]; rfl
  ·rw [fill_leaf s k4 k5]; exact h
end Go.CT.Sch.D
namespace Go.CT.Sch.D
open Go.Proofs
inductive Fit (N : Nat) : Val → Prop
 | mk (v : Val) : v.s.size ≤ N → v.l.length ≤ N → v.f.length ≤ N → (∀ p ∈ v.f, p.1.size ≤ N) → (∀ x ∈ v.l, Fit N x) → (∀ p ∈ v.f, Fit N p.2) → Fit N v
theorem Fit.str {N : Nat} {v : Val} (h : Fit N v) : v.s.size ≤ N := by cases h; assumption
theorem Fit.len_l {N : Nat} {v : Val} (h : Fit N v) : v.l.length ≤ N := by cases h; assumption
theorem Fit.len_f {N : Nat} {v : Val} (h : Fit N v) : v.f.length ≤ N := by cases h; assumption
theorem Fit.nms {N : Nat} {v : Val} (h : Fit N v) {p : ByteArray × Val} (hp : p ∈ v.f) : p.1.size ≤ N := by cases h with | mk _ h1 h2 h3 h4 h5 h6 => exact h4 p hp
theorem Fit.mem_l {N : Nat} {v x : Val} (h : Fit N v) (hx : x ∈ v.l) : Fit N x := by cases h with | mk _ h1 h2 h3 h4 h5 h6 => exact h5 x hx
theorem Fit.mem_f {N : Nat} {v : Val} (h : Fit N v) {p : ByteArray × Val} (hp : p ∈ v.f) : Fit N p.2 := by cases h with | mk _ h1 h2 h3 h4 h5 h6 => exact h6 p hp
theorem Fit.mono {N M : Nat} (hNM : N ≤ M) : ∀ v : Val, Fit N v → Fit M v :=
 Val.ind fun v ih1 ih2 h => .mk v (Nat.le_trans h.str hNM) (Nat.le_trans h.len_l hNM) (Nat.le_trans h.len_f hNM) (fun p hp => Nat.le_trans (h.nms hp) hNM) (fun x hx => ih1 x hx (h.mem_l hx)) (fun p hp => ih2 p hp (h.mem_f hp))
theorem Fit.wide {N : Nat} : ∀ {v : Val}, Fit N v → Wide N v := fun {v} =>
 Val.ind (P := fun v => Fit N v → Wide N v) (fun v ih1 ih2 h => .mk v h.len_l h.len_f (fun x hx => ih1 x hx (h.mem_l hx)) (fun p hp => ih2 p hp (h.mem_f hp))) v
theorem fit_mass {N : Nat} : ∀ v : Val, v.mass ≤ N → Fit N v :=
 Val.ind fun v ih1 ih2 h => .mk v (by have := v.mass_s; omega) (by have := v.mass_len_l; omega) (by have := v.mass_len_f; omega) (fun p hp => by have := Val.mass_f hp; omega)
  (fun x hx => ih1 x hx (by have := Val.mass_l hx; omega)) (fun p hp => ih2 p hp (by have := Val.mass_f hp; omega))
theorem ref_scalarF (v : Val) (hv : Fit 1099511627776 v) : W F14 0 [v.enc] = some [.bool (okScalar v)] := by
 have hs := hv.str
 rw [e_F14_0]
 unfold okScalar
 simp only [Val.proj0, Option.bind_some, O.eq_int, O.cnd_bool]
 by_cases c1 : v.k = 1
 ·simp [c1, emptyB_eq]
 by_cases c2 : v.k = 2
 ·by_cases a1 : -1000000000000000 ≤ v.n <;> by_cases a2 : v.n ≤ 1000000000000000 <;> simp [c2, a1, a2, emptyB_eq]
 by_cases c3 : v.k = 3
 ·simp [c3, ref_str v.s (by omega)]
 by_cases c4 : v.k = 0
 ·by_cases a1 : v.n = 0 <;> simp [c4, e_F14_1, a1, emptyB_eq]
 by_cases c5 : v.k = 4
 ·by_cases a1 : v.n = 0 <;> simp [c5, e_F14_1, a1, emptyB_eq]
 by_cases c6 : v.k = 5
 ·by_cases a1 : v.n = 0 <;> simp [c6, e_F14_1, a1, emptyB_eq]
 simp [c1, c2, c3, c4, c5, c6, e_F14_1]
theorem ref_valid_1F (d : Nat) (v : Val) (hd : d ≤ 12) (hv : Fit 1099511627776 v) (ih : ∀ x ∈ v.l, W F13 0 [x.enc, .int d] = some [.bool (validD d x)]) : ∀ (n i : Nat), i + n = v.l.length →
  W F13 1 [.int ((d + 1 : Nat) : Int), .int i, v.enc] = if (v.l.drop i).all (validD d) = true then W F13 2 [.int ((d + 1 : Nat) : Int), .int 0, v.enc] else some [.bool false]
 | 0, i, h => by
  rw [e_F13_1]
  have h1 : ¬ i < v.l.length := by omega
  simp [h1, List.drop_of_length_le (Nat.le_of_not_lt h1)]
 | n + 1, i, h => by
  have hi : i < v.l.length := by omega
  have hm := hv.len_l
  have hw := next64 (i := i) (by omega)
  have hd1 : IntKind.i64.wrap (((d + 1 : Nat) : Int) - 1) = d := by rw [wrap64 (by omega) (by omega)]; omega
  have := ref_valid_1F d v hd hv ih n (i + 1) (by omega)
  rw [e_F13_1, List.drop_eq_getElem_cons hi]
  simp only [Val.proj3, Option.bind_some, O.len_list, List.length_map, O.lt_int, lt_cast, hi, decide_true, O.cnd_bool, if_true, O.index_list, Int.natCast_nonneg, Int.toNat_natCast, List.getElem?_map, List.getElem?_eq_getElem hi, Option.map_some, O.sub_int, hd1, ih _ (List.getElem_mem hi), O.calls_1, O.not_bool, O.add_int, hw, this, List.all_cons, Bool.and_eq_true]
  by_cases c : validD d v.l[i] = true <;> simp [c]
theorem ref_valid_2F (d : Nat) (v : Val) (hd : d ≤ 12) (hv : Fit 1099511627776 v) (ih : ∀ p ∈ v.f, W F13 0 [p.2.enc, .int d] = some [.bool (validD d p.2)]) : ∀ (n i : Nat), i + n = v.f.length →
  W F13 2 [.int ((d + 1 : Nat) : Int), .int i, v.enc] = some [.bool (frOk d (prevName v.f i) (v.f.drop i))]
 | 0, i, h => by
  rw [e_F13_2]
  have h1 : ¬ i < v.f.length := by omega
  simp [h1, List.drop_of_length_le (Nat.le_of_not_lt h1), frOk]
 | n + 1, i, h => by
  have hi : i < v.f.length := by omega
  have hm := hv.len_f
  have hw := next64 (i := i) (by omega)
  have hd1 : IntKind.i64.wrap (((d + 1 : Nat) : Int) - 1) = d := by rw [wrap64 (by omega) (by omega)]; omega
  have := ref_valid_2F d v hd hv ih n (i + 1) (by omega)
  have hmem := List.getElem_mem hi
  have hmass := hv.nms hmem
  have hpn : prevName v.f (i + 1) = some v.f[i].1 := by simp [prevName, hi]
  rw [hpn] at this
  rw [e_F13_2, List.drop_eq_getElem_cons hi, frOk_cons]
  simp only [Val.proj4, Option.bind_some, O.len_list, List.length_map, O.lt_int, lt_cast, hi, decide_true, O.cnd_bool, if_true, O.index_list, Int.natCast_nonneg, Int.toNat_natCast, List.getElem?_map, List.getElem?_eq_getElem hi, Option.map_some, Fld.proj0, Fld.projV, ref_name v.f[i].1 (by omega), O.sub_int, hd1, ih _ hmem, O.calls_1, O.not_bool, O.add_int, hw, this, O.gt_int]
  cases i with
  | zero =>
   simp only [prevName]
   cases okName v.f[0].1 <;> cases validD d v.f[0].2 <;> simp
  | succ i =>
   have hi' : i < v.f.length := by omega
   have hw2 : IntKind.i64.wrap (((i + 1 : Nat) : Int) - 1) = i := by rw [wrap64 (by omega) (by omega)]; omega
   have hp : (0 : Int) < ((i + 1 : Nat) : Int) := by omega
   simp only [prevName, List.getElem?_eq_getElem hi', Option.map_some, hw2, hp, decide_true, if_true, Int.natCast_nonneg, Int.toNat_natCast, Option.bind_some, Fld.proj0, sLe_blt]
   cases okName v.f[i + 1].1 <;> cases validD d v.f[i + 1].2 <;> cases blt v.f[i].1 v.f[i + 1].1 <;> simp
theorem ref_validF : ∀ (d : Nat) (v : Val), d ≤ 12 → Fit 1099511627776 v → W F13 0 [v.enc, .int d] = some [.bool (validD d v)]
 | 0, v, _, _ => by
  rw [e_F13_0]
  simp [validD]
 | d + 1, v, hd, hv => by
  have h1 := ref_valid_1F d v (by omega) hv (fun x hx => ref_validF d x (by omega) (hv.mem_l hx)) v.l.length 0 (by omega)
  have h2 := ref_valid_2F d v (by omega) hv (fun p hp => ref_validF d p.2 (by omega) (hv.mem_f hp)) v.f.length 0 (by omega)
  rw [e_F13_0]
  have hz : ¬ ((d + 1 : Nat) : Int) = 0 := by omega
  simp only [Int.cast_ofNat_Int, List.drop_zero, prevName, frOk_none] at h1 h2
  rw [h2] at h1
  simp only [O.eq_int, hz, decide_false, Option.bind_some, O.cnd_bool, Bool.false_eq_true, if_false, ref_scalarF v hv, O.calls_1, O.not_bool, Val.proj3, Val.proj4, Val.proj0, O.len_list, List.length_map, O.gt_int, O.ne_int, h1, validD]
  have hnil : v.l = [] → v.l.all (validD d) = true := fun e => by rw [e]; rfl
  have hnil2 : v.f = [] → (v.f.all fun p => okName p.1 && validD d p.2) = true ∧ rising v.f = true := fun e => by rw [e]; exact ⟨rfl, rfl⟩
  generalize v.l.all (validD d) = A at *
  generalize (v.f.all fun p => okName p.1 && validD d p.2) = B at *
  generalize rising v.f = C at *
  cases hs : okScalar v with
  | false => simp
  | true =>
   by_cases c1 : (64 : Int) < v.l.length
   ·have : ¬ v.l.length ≤ 64 := by omega
    simp [c1, this]
   ·have d1 : v.l.length ≤ 64 := by omega
    by_cases c2 : (64 : Int) < v.f.length
    ·have : ¬ v.f.length ≤ 64 := by omega
     simp [c1, c2, this]
    ·have d2 : v.f.length ≤ 64 := by omega
     by_cases c3 : v.k = 4
     ·have c4 : ¬ v.k = 5 := by omega
      by_cases c5 : v.f = []
      ·simp [c3, c1, d1, c5]
       cases A <;> simp
      ·have c6 : (0 : Int) < v.f.length := by have := List.length_pos_iff.2 c5; omega
       simp [c3, c1, c2, d1, d2, c5, c6]
     ·by_cases c5 : v.l = []
      ·by_cases c4 : v.k = 5
       ·simp [c4, c2, d2, c5]
        cases A <;> simp
       ·by_cases c7 : v.f = []
        ·simp [c3, c4, c5, c7]
         cases A <;> simp
        ·have c6 : (0 : Int) < v.f.length := by have := List.length_pos_iff.2 c7; omega
         simp [c3, c4, c5, c7, c6, c2, d2]
      ·have c6 : (0 : Int) < v.l.length := by have := List.length_pos_iff.2 c5; omega
       simp [c3, c5, c6, c1, c2, d1, d2]
theorem pv_scalarF (v : Val) (hv : Fit 1099511627776 v) : W F44 0 [v.enc] = some [.bool (okScalar v)] := by
 have hs := hv.str
 rw [e_F44_0]
 unfold okScalar
 simp only [Val.proj0, Option.bind_some, O.eq_int, O.cnd_bool]
 by_cases c1 : v.k = 1
 ·by_cases a1 : v.s = emptyB <;> by_cases a2 : v.n = 0 <;> simp [c1, a1, a2, emptyB_eq]
 by_cases c2 : v.k = 2
 ·by_cases a1 : -1000000000000000 ≤ v.n <;> by_cases a2 : v.n ≤ 1000000000000000 <;> by_cases a3 : v.s = emptyB <;> simp [c2, a1, a2, a3, emptyB_eq]
 by_cases c3 : v.k = 3
 ·by_cases a1 : v.n = 0 <;> simp [c3, a1, pv_text v.s (by omega)]
 by_cases c4 : v.k = 0
 ·by_cases a1 : v.n = 0 <;> simp [c4, e_F44_1, a1, emptyB_eq]
 by_cases c5 : v.k = 4
 ·by_cases a1 : v.n = 0 <;> simp [c5, e_F44_1, a1, emptyB_eq]
 by_cases c6 : v.k = 5
 ·by_cases a1 : v.n = 0 <;> simp [c6, e_F44_1, a1, emptyB_eq]
 simp [c1, c2, c3, c4, c5, c6, e_F44_1]
theorem pv_valid_2F (d : Nat) (v : Val) (hd : d ≤ 12) (hv : Fit 1099511627776 v) (ih : ∀ p ∈ v.f, W F43 0 [p.2.enc, .int d] = some [.bool (validD d p.2)]) : ∀ (n i : Nat), i + n = v.f.length →
  W F43 2 [.int ((d + 1 : Nat) : Int), .list (v.f.map Fld.enc), .int v.f.length, .int i, v.enc] = some [.bool (frOk d (prevName v.f i) (v.f.drop i))]
 | 0, i, h => by
  rw [e_F43_2]
  have h1 : ¬ i < v.f.length := by omega
  simp [h1, List.drop_of_length_le (Nat.le_of_not_lt h1), frOk]
 | n + 1, i, h => by
  have hi : i < v.f.length := by omega
  have hm := hv.len_f
  have hw := next64 (i := i) (by omega)
  have hd1 : IntKind.i64.wrap (((d + 1 : Nat) : Int) - 1) = d := by rw [wrap64 (by omega) (by omega)]; omega
  have := pv_valid_2F d v hd hv ih n (i + 1) (by omega)
  have hmem := List.getElem_mem hi
  have hmass := hv.nms hmem
  have hpn : prevName v.f (i + 1) = some v.f[i].1 := by simp [prevName, hi]
  rw [hpn] at this
  rw [e_F43_2, List.drop_eq_getElem_cons hi, frOk_cons]
  simp only [Val.proj4, Option.bind_some, O.lt_int, lt_cast, hi, decide_true, O.cnd_bool, if_true, O.index_list, Int.natCast_nonneg, Int.toNat_natCast, List.getElem?_map, List.getElem?_eq_getElem hi, Option.map_some, Fld.proj0, Fld.projV, pv_name v.f[i].1 (by omega), O.sub_int, hd1, ih _ hmem, O.calls_1, O.not_bool, O.gt_int, O.add_int, hw, this]
  cases i with
  | zero =>
   simp only [prevName]
   cases okName v.f[0].1 <;> cases validD d v.f[0].2 <;> simp
  | succ i =>
   have hi' : i < v.f.length := by omega
   have hw2 : IntKind.i64.wrap (((i + 1 : Nat) : Int) - 1) = i := by rw [wrap64 (by omega) (by omega)]; omega
   have hp : (0 : Int) < ((i + 1 : Nat) : Int) := by omega
   simp only [prevName, List.getElem?_eq_getElem hi', Option.map_some, hw2, hp, decide_true, if_true, Int.natCast_nonneg, Int.toNat_natCast, Option.bind_some, Fld.proj0, sGe_blt]
   cases okName v.f[i + 1].1 <;> cases validD d v.f[i + 1].2 <;> cases blt v.f[i].1 v.f[i + 1].1 <;> simp
theorem pv_valid_1F (d : Nat) (v : Val) (hd : d ≤ 12) (hv : Fit 1099511627776 v) (ih : ∀ x ∈ v.l, W F43 0 [x.enc, .int d] = some [.bool (validD d x)]) : ∀ (n i : Nat), i + n = v.l.length →
  W F43 1 [.int ((d + 1 : Nat) : Int), .list (v.l.map Val.enc), .int v.l.length, .int i, v.enc] = if (v.l.drop i).all (validD d) = true then W F43 2 [.int ((d + 1 : Nat) : Int), .list (v.f.map Fld.enc), .int v.f.length, .int 0, v.enc] else some [.bool false]
 | 0, i, h => by
  rw [e_F43_1]
  have h1 : ¬ i < v.l.length := by omega
  simp [h1, List.drop_of_length_le (Nat.le_of_not_lt h1)]
 | n + 1, i, h => by
  have hi : i < v.l.length := by omega
  have hm := hv.len_l
  have hw := next64 (i := i) (by omega)
  have hd1 : IntKind.i64.wrap (((d + 1 : Nat) : Int) - 1) = d := by rw [wrap64 (by omega) (by omega)]; omega
  have := pv_valid_1F d v hd hv ih n (i + 1) (by omega)
  rw [e_F43_1, List.drop_eq_getElem_cons hi]
  simp only [Option.bind_some, O.lt_int, lt_cast, hi, decide_true, O.cnd_bool, if_true, O.index_list, Int.natCast_nonneg, Int.toNat_natCast, List.getElem?_map, List.getElem?_eq_getElem hi, Option.map_some, O.sub_int, hd1, ih _ (List.getElem_mem hi), O.calls_1, O.not_bool, O.add_int, hw, this, List.all_cons]
  by_cases c : validD d v.l[i] = true <;> simp [c]
theorem pv_validF : ∀ (d : Nat) (v : Val), d ≤ 12 → Fit 1099511627776 v → W F43 0 [v.enc, .int d] = some [.bool (validD d v)]
 | 0, v, _, _ => by
  rw [e_F43_0]
  simp [validD]
 | d + 1, v, hd, hv => by
  have h1 := pv_valid_1F d v (by omega) hv (fun x hx => pv_validF d x (by omega) (hv.mem_l hx)) v.l.length 0 (by omega)
  have h2 := pv_valid_2F d v (by omega) hv (fun p hp => pv_validF d p.2 (by omega) (hv.mem_f hp)) v.f.length 0 (by omega)
  have hm1 := hv.len_l
  have hm2 := hv.len_f
  have hd0 : ¬ ((d + 1 : Nat) : Int) = 0 := by omega
  simp only [List.drop_zero, Int.cast_ofNat_Int] at h1 h2
  have e1 : decide ((0 : Int) < (v.l.length : Int)) = !decide (v.l = []) := by cases v.l <;> simp
  have e2 : decide ((0 : Int) < (v.f.length : Int)) = !decide (v.f = []) := by cases v.f <;> simp
  have e3 : decide ((64 : Int) < (v.l.length : Int)) = !decide (v.l.length ≤ 64) := by rw [Bool.eq_iff_iff]; simp; omega
  have e4 : decide ((64 : Int) < (v.f.length : Int)) = !decide (v.f.length ≤ 64) := by rw [Bool.eq_iff_iff]; simp; omega
  rw [e_F43_0]
  simp only [O.eq_int, hd0, decide_false, Option.bind_some, O.cnd_bool, Bool.false_eq_true, if_false, pv_scalarF v hv, O.calls_1, O.not_bool, ite_some, ite_ivbool, Val.proj0, Val.proj3, Val.proj4, O.ne_int, O.len_list, List.length_map, O.gt_int, e1, e2, e3, e4, h1, h2]
  unfold validD
  have hpn : prevName v.f 0 = none := rfl
  rw [hpn, frOk_none]
  generalize v.l.all (validD d) = A at *
  generalize (v.f.all fun p => okName p.1 && validD d p.2) = B at *
  generalize rising v.f = C at *
  generalize okScalar v = D
  clear h1 h2
  have p4 : (if (!decide (v.k = 4)) = true then !decide (v.l = []) else false) = !decide (v.k ≠ 4 → v.l = []) := by by_cases c : v.k = 4 <;> simp [c]
  have p5 : (if (!decide (v.k = 5)) = true then !decide (v.f = []) else false) = !decide (v.k ≠ 5 → v.f = []) := by by_cases c : v.k = 5 <;> simp [c]
  rw [p4, p5, show decide (v.l.length ≤ 64 ∧ v.f.length ≤ 64 ∧ (v.k ≠ 4 → v.l = []) ∧ (v.k ≠ 5 → v.f = [])) = (decide (v.l.length ≤ 64) && (decide (v.f.length ≤ 64) && (decide (v.k ≠ 4 → v.l = []) && decide (v.k ≠ 5 → v.f = [])))) by simp only [Bool.decide_and]]
  generalize decide (v.l.length ≤ 64) = b1
  generalize decide (v.f.length ≤ 64) = b2
  generalize decide (v.k ≠ 4 → v.l = []) = b3
  generalize decide (v.k ≠ 5 → v.f = []) = b4
  cases D <;> cases b1 <;> cases b2 <;> cases b3 <;> cases b4 <;> cases A <;> cases B <;> cases C <;> rfl
theorem wadd (a b : Int) : IntKind.i64.wrap (IntKind.i64.wrap a + IntKind.i64.wrap b) = IntKind.i64.wrap (a + b) := by
 unfold IntKind.wrap
 simp only [IntKind.signed, IntKind.bits]
 simp
 omega
def wsz (n : Nat) : Int := IntKind.i64.wrap (n : Int)
theorem wsz_add (c n : Nat) : IntKind.i64.wrap (wsz c + wsz n) = wsz (c + n) := by unfold wsz; rw [wadd]; rfl
theorem wsz_one : wsz 1 = 1 := wrap64 (by omega) (by omega)
theorem ref_size_2F (v : Val) (hv : Fit 1099511627776 v) (ih : ∀ p ∈ v.f, W F15 0 [p.2.enc] = some [.int (wsz p.2.size)]) : ∀ (n i c : Nat), i + n = v.f.length →
  W F15 2 [.int (wsz c), .int i, v.enc] = some [.int (wsz (c + sizeFs (v.f.drop i)))]
 | 0, i, c, h => by
  rw [e_F15_2]
  have h1 : ¬ i < v.f.length := by omega
  simp [h1, List.drop_of_length_le (Nat.le_of_not_lt h1), sizeFs]
 | n + 1, i, c, h => by
  have hi : i < v.f.length := by omega
  have hm := hv.len_f
  have hw := next64 (i := i) (by omega)
  have hd : sizeFs (v.f.drop i) = v.f[i].2.size + sizeFs (v.f.drop (i + 1)) := by rw [List.drop_eq_getElem_cons hi]; rfl
  rw [e_F15_2]
  simp only [Val.proj4, Option.bind_some, O.len_list, List.length_map, O.lt_int, lt_cast, hi, decide_true, O.cnd_bool, if_true, O.index_list, Int.natCast_nonneg, Int.toNat_natCast, List.getElem?_map, List.getElem?_eq_getElem hi, Option.map_some, Fld.projV, ih _ (List.getElem_mem hi), O.calls_1, O.add_int, hw, wsz_add]
  rw [ref_size_2F v hv ih n (i + 1) _ (by omega), hd, Nat.add_assoc]
theorem ref_size_1F (v : Val) (hv : Fit 1099511627776 v) (ih : ∀ x ∈ v.l, W F15 0 [x.enc] = some [.int (wsz x.size)]) : ∀ (n i c : Nat), i + n = v.l.length →
  W F15 1 [.int (wsz c), .int i, v.enc] = W F15 2 [.int (wsz (c + sizeVs (v.l.drop i))), .int 0, v.enc]
 | 0, i, c, h => by
  rw [e_F15_1]
  have h1 : ¬ i < v.l.length := by omega
  simp [h1, List.drop_of_length_le (Nat.le_of_not_lt h1), sizeVs]
 | n + 1, i, c, h => by
  have hi : i < v.l.length := by omega
  have hm := hv.len_l
  have hw := next64 (i := i) (by omega)
  have hd : sizeVs (v.l.drop i) = v.l[i].size + sizeVs (v.l.drop (i + 1)) := by rw [List.drop_eq_getElem_cons hi]; rfl
  rw [e_F15_1]
  simp only [Val.proj3, Option.bind_some, O.len_list, List.length_map, O.lt_int, lt_cast, hi, decide_true, O.cnd_bool, if_true, O.index_list, Int.natCast_nonneg, Int.toNat_natCast, List.getElem?_map, List.getElem?_eq_getElem hi, Option.map_some, ih _ (List.getElem_mem hi), O.calls_1, O.add_int, hw, wsz_add]
  rw [ref_size_1F v hv ih n (i + 1) _ (by omega), hd, Nat.add_assoc]
theorem ref_sizeF : ∀ v : Val, Fit 1099511627776 v → W F15 0 [v.enc] = some [.int (wsz v.size)] := by
 refine Val.ind fun v ih1 ih2 hv => ?_
 have h1 := ref_size_1F v hv (fun x hx => ih1 x hx (hv.mem_l hx)) v.l.length 0 1 (by omega)
 have h2 := ref_size_2F v hv (fun p hp => ih2 p hp (hv.mem_f hp)) v.f.length 0 (1 + sizeVs v.l) (by omega)
 simp only [List.drop_zero, Int.cast_ofNat_Int, wsz_one] at h1 h2
 rw [e_F15_0, h1, h2, v.size_eq]
theorem pv_size_2F (v : Val) (hv : Fit 1099511627776 v) (ih : ∀ p ∈ v.f, W F47 0 [p.2.enc] = some [.int (wsz p.2.size)]) : ∀ (n i c : Nat), i + n = v.f.length →
  W F47 2 [.int (wsz c), .list (v.f.map Fld.enc), .int v.f.length, .int i] = some [.int (wsz (c + sizeFs (v.f.drop i)))]
 | 0, i, c, h => by
  rw [e_F47_2]
  have h1 : ¬ i < v.f.length := by omega
  simp [h1, List.drop_of_length_le (Nat.le_of_not_lt h1), sizeFs]
 | n + 1, i, c, h => by
  have hi : i < v.f.length := by omega
  have hm := hv.len_f
  have hw := next64 (i := i) (by omega)
  have hd : sizeFs (v.f.drop i) = v.f[i].2.size + sizeFs (v.f.drop (i + 1)) := by rw [List.drop_eq_getElem_cons hi]; rfl
  rw [e_F47_2]
  simp only [Option.bind_some, O.lt_int, lt_cast, hi, decide_true, O.cnd_bool, if_true, O.index_list, Int.natCast_nonneg, Int.toNat_natCast, List.getElem?_map, List.getElem?_eq_getElem hi, Option.map_some, Fld.projV, ih _ (List.getElem_mem hi), O.calls_1, O.add_int, hw, wsz_add]
  rw [pv_size_2F v hv ih n (i + 1) _ (by omega), hd, Nat.add_assoc]
theorem pv_size_1F (v : Val) (hv : Fit 1099511627776 v) (ih : ∀ x ∈ v.l, W F47 0 [x.enc] = some [.int (wsz x.size)]) : ∀ (n i c : Nat), i + n = v.l.length →
  W F47 1 [.int (wsz c), .list (v.l.map Val.enc), .int v.l.length, .int i, v.enc] = W F47 2 [.int (wsz (c + sizeVs (v.l.drop i))), .list (v.f.map Fld.enc), .int v.f.length, .int 0]
 | 0, i, c, h => by
  rw [e_F47_1]
  have h1 : ¬ i < v.l.length := by omega
  simp [h1, List.drop_of_length_le (Nat.le_of_not_lt h1), sizeVs]
 | n + 1, i, c, h => by
  have hi : i < v.l.length := by omega
  have hm := hv.len_l
  have hw := next64 (i := i) (by omega)
  have hd : sizeVs (v.l.drop i) = v.l[i].size + sizeVs (v.l.drop (i + 1)) := by rw [List.drop_eq_getElem_cons hi]; rfl
  rw [e_F47_1]
  simp only [Option.bind_some, O.lt_int, lt_cast, hi, decide_true, O.cnd_bool, if_true, O.index_list, Int.natCast_nonneg, Int.toNat_natCast, List.getElem?_map, List.getElem?_eq_getElem hi, Option.map_some, ih _ (List.getElem_mem hi), O.calls_1, O.add_int, hw, wsz_add]
  rw [pv_size_1F v hv ih n (i + 1) _ (by omega), hd, Nat.add_assoc]
theorem pv_sizeF : ∀ v : Val, Fit 1099511627776 v → W F47 0 [v.enc] = some [.int (wsz v.size)] := by
 refine Val.ind fun v ih1 ih2 hv => ?_
 have h1 := pv_size_1F v hv (fun x hx => ih1 x hx (hv.mem_l hx)) v.l.length 0 1 (by omega)
 have h2 := pv_size_2F v hv (fun p hp => ih2 p hp (hv.mem_f hp)) v.f.length 0 (1 + sizeVs v.l) (by omega)
 simp only [List.drop_zero, Int.cast_ofNat_Int, wsz_one] at h1 h2
 rw [e_F47_0]
 simp only [Val.proj3, Option.bind_some, O.len_list, List.length_map]
 rw [h1, h2, v.size_eq]
def validF (v : Val) : Bool := validD 12 v && decide (wsz v.size ≤ 600)
theorem ref_ValidF (v : Val) (hv : Fit 1099511627776 v) : W F12 0 [v.enc] = some [.bool (validF v)] := by
 rw [e_F12_0]
 have h1 := ref_validF 12 v (by omega) hv
 have h2 := ref_sizeF v hv
 simp only [Int.cast_ofNat_Int] at h1
 simp only [h1, h2, O.calls_1, O.cnd_bool, O.le_int, Option.bind_some, validF]
 cases validD 12 v <;> simp
theorem pv_ValidF (v : Val) (hv : Fit 1099511627776 v) : W F42 0 [v.enc] = some [.bool (validF v)] := by
 rw [e_F42_0]
 have h1 := pv_validF 12 v (by omega) hv
 have h2 := pv_sizeF v hv
 simp only [Int.cast_ofNat_Int] at h1
 simp only [h1, h2, O.calls_1, O.cnd_bool, O.le_int, Option.bind_some, validF]
 cases validD 12 v <;> simp
end Go.CT.Sch.D
namespace Go.CT.Sch
open Go.Proofs
end Go.CT.Sch
namespace Go.CT.Sch
open Go.Proofs
theorem ref_smallN (v : Val) (n : Int) (hn : n ≤ 100000) (hn0 : 0 ≤ n) (hv : v.mass ≤ 1099511627776) : ∃ b, W F34 0 [v.enc, .int n] = some [.bool b] := by
 obtain ⟨r, h, _⟩ := ref_count v hv n n (by omega) (by omega) (by omega)
 exact ⟨decide (0 ≤ r), by rw [e_F34_0]; simp [h]⟩
def chk (s : Sch) (v : Val) : List IV := if s.valid && v.valid then errs v s [] else [.agg [.str emptyB, .int 1]]
theorem pg_Check (s : Sch) (v : Val) (hs : s.mass ≤ 1048576) (hv : v.mass ≤ 1048576) : W F36 0 [s.enc, v.enc] = some [.list (chk s v)] := by
 rw [e_F36_0]
 unfold chk
 simp only [pg_Svalid s hs, pv_Valid v (by omega), O.calls_1, O.not_bool, Option.bind_some, O.cnd_bool, ite_some, ite_ivbool, O.mkagg_eq, O.mklist_eq]
 cases hsv : s.valid with
 | false => rfl
 | true =>
  cases v.valid with
  | false => rfl
  | true => simp [pg_errors v hv s (Sch.valid_SB hsv) hs]
end Go.CT.Sch
namespace Go.CT.Sch.D
open Go.Proofs
theorem get_fit {N : Nat} {v x : Val} {nm : ByteArray} (h : Fit N v) (hx : v.get nm = some x) : Fit N x := h.mem_f (mem_of_get hx).1
theorem withV_fit {K : Nat} {v x : Val} {nm : ByteArray} (hv : Fit K v) (hx : Fit K x) (hn : nm.size ≤ K) (hl : v.f.length + 1 ≤ K) : Fit K (withV v nm x) := by
 have hm : ∀ p ∈ mapL (othersF v nm ++ [(nm, x)]), p ∈ v.f ∨ p = (nm, x) := by
  intro p hp
  rcases List.mem_append.1 (mapL_mem hp) with h | h
  ·left
   unfold othersF at h
   split at h
   ·exact (List.mem_filter.1 h).1
   ·simp at h
  ·right; simpa using h
 refine .mk _ (Nat.zero_le _) (Nat.zero_le _) (Nat.le_trans (withV_len v nm x) hl) (fun p hp => ?_) (fun y hy => ?_) (fun p hp => ?_)
 ·rcases hm p hp with h | h
  ·exact hv.nms h
  ·rw [h]; exact hn
 ·exact absurd hy (by show ¬ y ∈ ([] : List Val); simp)
 ·rcases hm p hp with h | h
  ·exact hv.mem_f h
  ·rw [h]; exact hx
theorem fillFs_fit (K : Nat) (v : Val) : ∀ (fs : List SFld) (out : Val), (∀ p ∈ fs, ∀ x, pick (v.get p.nm) p.df = some x → Fit K (fillS p.s x)) → (∀ p ∈ fs, p.nm.size ≤ K) → Fit K out → out.f.length + fs.length ≤ K → Fit K (fillFs fs v out)
 | [], out, _, _, h, _ => by simp only [fillFs]; exact h
 | p :: fs, out, ih, hn, h, hl => by
  simp only [List.length_cons] at hl
  rw [fillFs_cons]
  have h1 : Fit K (fill1 v out p) ∧ (fill1 v out p).f.length ≤ out.f.length + 1 := by
   unfold fill1
   cases hx : pick (v.get p.nm) p.df with
   | none => exact ⟨h, by simp⟩
   | some x => exact ⟨withV_fit h (ih p (by simp) x hx) (hn p (by simp)) (by omega), withV_len _ _ _⟩
  exact fillFs_fit K v fs _ (fun q hq => ih q (by simp [hq])) (fun q hq => hn q (by simp [hq])) h1.1 (by omega)
theorem fill_fit (N M : Nat) (hMN : M ≤ N) : ∀ s : Sch, s.mass ≤ M → ∀ v : Val, Fit N v → Fit (N + M) (fillS s v) := by
 refine Sch.ind fun s ih1 ih2 hs v hv => ?_
 have hmono := Fit.mono (show N ≤ N + M by omega) v hv
 have hI : ∀ x : Val, Fit N x → Fit (N + M) (fillI s.it x) := by
  intro x hx
  cases hit : s.it with
  | nil => simp only [fillI]; exact Fit.mono (by omega) x hx
  | cons t r =>
   have htm : t ∈ s.it := by rw [hit]; simp
   simp only [fillI]
   exact ih1 t htm (by have := Sch.mass_it htm; omega) x hx
 rw [fillS_eq]
 split
 ·split
  ·split
   ·refine .mk _ (Nat.zero_le _) (by simp; have := hv.len_l; omega) (Nat.zero_le _) (by simp) (fun y hy => ?_) (by simp)
    simp only [Val.l_mk, List.mem_map] at hy
    obtain ⟨x, hx, rfl⟩ := hy
    exact hI x (hv.mem_l hx)
   ·exact hmono
  ·split
   ·split
    ·have := s.mass_len_f
     have := hv.len_f
     refine fillFs_fit _ v s.f v (fun p hp x hx => ?_) (fun p hp => by have := Sch.mass_f hp; omega) hmono (by omega)
     have hmf := Sch.mass_f hp
     refine ih2 p hp (by omega) x ?_
     rcases pick_from hx with h | h
     ·exact get_fit hv h
     ·have := Sch.mass_d hp h
      exact fit_mass x (by omega)
    ·refine .mk _ (Nat.zero_le _) (Nat.zero_le _) (by simp; have := hv.len_f; omega) (fun p hp => ?_) (by simp) (fun y hy => ?_)
     ·simp only [Val.f_mk, List.mem_map] at hp
      obtain ⟨x, hx, rfl⟩ := hp
      have := hv.nms hx
      show x.1.size ≤ _; omega
     ·simp only [Val.f_mk, List.mem_map] at hy
      obtain ⟨x, hx, rfl⟩ := hy
      exact hI x.2 (hv.mem_f hx)
   ·exact hmono
 ·exact hmono
theorem pg_keyF (v : Val) (nm : ByteArray) (hv : Wide 1073741824 v) : W F95 0 [v.enc, .str nm] = some [.str (keyB v nm), .bool (isKey v nm)] := by
 rw [e_F95_0]
 unfold keyB isKey
 simp only [val_getW v nm hv, getIV, calls_6, O.cnd_bool, O.eq_int, Option.bind_some, ite_some, ite_ivbool]
 cases (v.get nm).isSome <;> simp
theorem pg_elementF (s : Sch) (v : Val) (i : Nat) (hv : Wide 1073741824 v) : W F94 0 [s.enc, .int i, v.enc] = some [(elStp s.key v i).enc] := by
 rw [e_F94_0]
 have e : (if isKey v s.key = true then !decide (s.key = (⟨#[]⟩ : ByteArray)) else false) = hasKey v s.key := by unfold hasKey emptyB; cases isKey v s.key <;> simp
 simp only [Sch.proj4, Option.bind_some, pg_keyF v s.key hv, O.calls_2, O.sNe_str, O.cnd_bool, ite_some, ite_ivbool, e, O.mkagg_eq]
 unfold elStp
 cases hasKey v s.key <;> rfl
theorem pg_presF (v : Val) (nm : ByteArray) (hv : Wide 1073741824 v) : W F103 0 [v.enc, .str nm] = some [.int ((v.get nm).getD zeroVal).k, .int ((v.get nm).getD zeroVal).n, .str ((v.get nm).getD zeroVal).s, .list (((v.get nm).getD zeroVal).l.map Val.enc), .list (((v.get nm).getD zeroVal).f.map Fld.enc), .bool (isHere v nm)] := by
 rw [e_F103_0]
 unfold isHere
 simp only [val_getW v nm hv, getIV, calls_6, O.ne_int, O.cnd_bool, Option.bind_some, ite_some, ite_ivbool]
 cases (v.get nm).isSome <;> simp
def Ck0 (v : Val) : Prop := Wide 1073741824 v → ∀ (s : Sch), SB s → s.mass ≤ 1048576 → ∀ p : List Stp, p.length + s.mass ≤ 1073741824 → errs v s [] = [] →
 W F72 0 [.list [], s.enc, v.enc, .list (p.map Stp.enc)] = some [.list []]
theorem ck_list (s t : Sch) (v : Val) (p : List Stp) (hv : Wide 1073741824 v) (hs : s.mass ≤ 1048576) (ht : s.it = [t]) (hsb : SB s) (hl : p.length + s.mass ≤ 1073741824)
  (ih : ∀ x ∈ v.l, Ck0 x) : ∀ (n i : Nat) (m : List (ByteArray × Bool)), i + n = v.l.length → errsL (v.l.drop i) s.key t [] (v.l.take i) = [] →
  (∀ k, (mlook m k).getD false = (v.l.take i).any (sameKey s.key k)) →
  W F93 2 [.list (p.map Stp.enc), .list (v.l.map Val.enc), .int v.l.length, .int i, s.enc, .list (encM m), .list []] = some [.list []]
 | 0, i, m, h, he, hM => by
  have h1 : ¬ i < v.l.length := by omega
  rw [e_F93_2]
  simp only [O.lt_int, lt_cast, h1, decide_false, Option.bind_some, O.cnd_bool, Bool.false_eq_true, if_false]
 | n + 1, i, m, h, he, hM => by
  have hi : i < v.l.length := by omega
  have hm := hv.len_l
  have hw := next64 (i := i) (by omega)
  have hmem := List.getElem_mem hi
  have hxw := hv.mem_l hmem
  have htm : t ∈ s.it := by rw [ht]; simp
  have htmass := Sch.mass_it htm
  rw [List.drop_eq_getElem_cons hi, errsL_cons, List.append_eq_nil_iff, List.append_eq_nil_iff] at he
  have htk : v.l.take i ++ [v.l[i]] = v.l.take (i + 1) := by simp
  rw [htk] at he
  have he1 := ih _ hmem hxw t (hsb.mem_it htm) (by omega) (p ++ [elStp s.key v.l[i] i]) (by simp; omega) (errs_nil_p he.1.1 [])
  have hdup := dupE_nil.1 he.1.2
  have hany : ∀ k, (v.l.take (i + 1)).any (sameKey s.key k) = ((v.l.take i).any (sameKey s.key k) || sameKey s.key k v.l[i]) := by
   intro k; rw [← htk, List.any_append]; simp
  have go : ∀ (m' : List (ByteArray × Bool)), (∀ k, (mlook m' k).getD false = (v.l.take (i + 1)).any (sameKey s.key k)) →
    W F93 4 [.list (p.map Stp.enc), .list (v.l.map Val.enc), .int v.l.length, .int i, s.enc, .list (encM m'), .list []] = some [.list []] := by
   intro m' hM'
   have h4 := ck_list s t v p hv hs ht hsb hl ih n (i + 1) m' (by omega) he.2 hM'
   rw [e_F93_4]
   simp only [O.add_int, hw, Option.bind_some]
   exact h4
  have ek : (if isKey v.l[i] s.key = true then !decide (s.key = (⟨#[]⟩ : ByteArray)) else false) = hasKey v.l[i] s.key := by unfold hasKey emptyB; cases isKey v.l[i] s.key <;> simp
  rw [e_F93_2]
  simp only [O.lt_int, lt_cast, hi, decide_true, Option.bind_some, O.cnd_bool, if_true, O.index_list, Int.natCast_nonneg, Int.toNat_natCast, List.getElem?_map, List.getElem?_eq_getElem hi, Option.map_some, pg_elementF s v.l[i] i hxw, O.calls_1, pg_then p (elStp s.key v.l[i] i) (by omega), Sch.proj5, ht, List.map_cons, List.map_nil, Int.le_refl, Int.toNat_zero, List.getElem?_cons_zero, he1, Sch.proj4, pg_keyF v.l[i] s.key hxw, O.calls_2, O.sNe_str, ite_some, ite_ivbool, ek, mget_enc, mhas_enc, hM]
  cases hk : hasKey v.l[i] s.key with
  | false =>
   simp only [Bool.false_eq_true, if_false]
   refine go m fun k => ?_
   rw [hM, hany]
   simp [sameKey, hk]
  | true =>
   rw [hk, Bool.true_and] at hdup
   have hM' : ∀ k, (mlook (mputB (keyB v.l[i] s.key) true m) k).getD false = (v.l.take (i + 1)).any (sameKey s.key k) := by
    intro k
    rw [mlook_put, hany]
    unfold sameKey at hM ⊢
    by_cases c : keyB v.l[i] s.key = k
    ·simp [c, hk]
    ·simp [c, hM]
   simp only [if_true, hdup, Bool.false_eq_true, if_false, e_F93_3, mset_enc, Option.bind_some]
   exact go _ hM'
theorem ck_str_3 (s : Sch) (v : Val) (p : List Stp) (hv : Wide 1073741824 v) (hs : s.mass ≤ 1048576) (hl : p.length + s.mass ≤ 1073741824) (hreq : ∀ d ∈ s.f, d.rq = true → isHere v d.nm = true) : ∀ (n i : Nat), i + n = s.f.length →
  W F101 3 [.list (p.map Stp.enc), .list (s.f.map SFld.enc), .int s.f.length, .int i, v.enc, .list []] = some [.list []]
 | 0, i, h => by
  have h1 : ¬ i < s.f.length := by omega
  rw [e_F101_3]
  simp only [Option.bind_some, O.lt_int, lt_cast, h1, decide_false, O.cnd_bool, Bool.false_eq_true, if_false]
 | n + 1, i, h => by
  have hi : i < s.f.length := by omega
  have hm := s.mass_len_f
  have hw := next64 (i := i) (by omega)
  have h1 := ck_str_3 s v p hv hs hl hreq n (i + 1) (by omega)
  have e : (if s.f[i].rq = true then !isHere v s.f[i].nm else false) = false := by
   cases hr : s.f[i].rq with
   | false => rfl
   | true => rw [hreq _ (List.getElem_mem hi) hr]; rfl
  rw [e_F101_3]
  simp only [Option.bind_some, O.lt_int, lt_cast, hi, decide_true, O.cnd_bool, if_true, O.index_list, Int.natCast_nonneg, Int.toNat_natCast, List.getElem?_map, List.getElem?_eq_getElem hi, Option.map_some, SFld.proj0, pg_presF v s.f[i].nm hv, calls_6, SFld.proj1, O.not_bool, ite_some, ite_ivbool, e, Bool.false_eq_true, if_false, e_F101_4, O.add_int, hw, h1]
theorem ck_dict_1 (s t : Sch) (v : Val) (p : List Stp) (hv : Wide 1073741824 v) (hs : s.mass ≤ 1048576) (ht : s.it = [t]) (hsb : SB s) (hl : p.length + s.mass ≤ 1073741824)
  (ih : ∀ x ∈ v.f, Ck0 x.2) (he : ∀ x ∈ v.f, ∀ q, err1 s q x = []) : ∀ (n i : Nat), i + n = v.f.length →
  W F72 1 [.list (p.map Stp.enc), .list (v.f.map Fld.enc), .int v.f.length, .int i, s.enc, .list []] = some [.list []]
 | 0, i, h => by
  have h1 : ¬ i < v.f.length := by omega
  rw [e_F72_1]
  simp only [O.lt_int, lt_cast, h1, decide_false, Option.bind_some, O.cnd_bool, Bool.false_eq_true, if_false]
 | n + 1, i, h => by
  have hi : i < v.f.length := by omega
  have hm := hv.len_f
  have hw := next64 (i := i) (by omega)
  have hmem := List.getElem_mem hi
  have htm : t ∈ s.it := by rw [ht]; simp
  have htmass := Sch.mass_it htm
  have hsub : Sch.subS s v.f[i].1 = some t := by unfold Sch.subS; rw [ht]
  have key : W F72 2 [.list (p.map Stp.enc), .list (v.f.map Fld.enc), .int v.f.length, .int i, s.enc, .list []] = some [.list []] := by
   have h4 := ck_dict_1 s t v p hv hs ht hsb hl ih he n (i + 1) (by omega)
   rw [e_F72_2]
   simp only [O.add_int, hw, Option.bind_some, h4]
  rw [e_F72_1]
  simp only [O.lt_int, lt_cast, hi, decide_true, Option.bind_some, O.cnd_bool, if_true, O.index_list, Int.natCast_nonneg, Int.toNat_natCast, List.getElem?_map, List.getElem?_eq_getElem hi, Option.map_some, Fld.proj1, O.ne_int, Sch.proj5, ht, List.map_cons, List.map_nil, Int.le_refl, Int.toNat_zero, List.getElem?_cons_zero, Fld.projV, Fld.proj0, pg_member, O.calls_1, pg_then p (fldStp v.f[i].1) (by omega)]
  by_cases hk : v.f[i].2.k = 0
  ·simp only [hk, decide_true, Bool.not_true, Bool.false_eq_true, if_false]
   exact key
  ·have h1 := ih _ hmem (hv.mem_f hmem) t (hsb.mem_it htm) (by omega) (p ++ [fldStp v.f[i].1]) (by simp; omega) (errs_nil_p (err1_sub (he _ hmem []) hk hsub) [])
   simp only [hk, decide_false, Bool.not_false, if_true, h1, O.calls_1]
   exact key
theorem ck_str_1 (s : Sch) (v : Val) (p : List Stp) (hv : Wide 1073741824 v) (hs : s.mass ≤ 1048576) (hk5 : s.k = 5) (hit : s.it = []) (hsb : SB s) (hl : p.length + s.mass ≤ 1073741824)
  (ih : ∀ x ∈ v.f, Ck0 x.2) (he : ∀ x ∈ v.f, ∀ q, err1 s q x = []) (hreq : ∀ d ∈ s.f, d.rq = true → isHere v d.nm = true) : ∀ (n i : Nat), i + n = v.f.length →
  W F101 1 [.list (p.map Stp.enc), .list (v.f.map Fld.enc), .int v.f.length, .int i, s.enc, v.enc, .list []] = some [.list []]
 | 0, i, h => by
  have h1 : ¬ i < v.f.length := by omega
  have h3 := ck_str_3 s v p hv hs hl hreq s.f.length 0 (by omega)
  simp only [Int.cast_ofNat_Int] at h3
  rw [e_F101_1]
  simp only [O.lt_int, lt_cast, h1, decide_false, Option.bind_some, O.cnd_bool, Bool.false_eq_true, if_false, Sch.proj6, O.len_list, List.length_map, h3]
 | n + 1, i, h => by
  have hi : i < v.f.length := by omega
  have hm := hv.len_f
  have hw := next64 (i := i) (by omega)
  have hmem := List.getElem_mem hi
  have key : W F101 2 [.list (p.map Stp.enc), .list (v.f.map Fld.enc), .int v.f.length, .int i, s.enc, v.enc, .list []] = some [.list []] := by
   have h4 := ck_str_1 s v p hv hs hk5 hit hsb hl ih he hreq n (i + 1) (by omega)
   rw [e_F101_2]
   simp only [O.add_int, hw, Option.bind_some, h4]
  obtain ⟨t, hsub⟩ := err1_known (he _ hmem [])
  have hsub' : Sch.subS s v.f[i].1 = (s.fld v.f[i].1).map (·.s) := by unfold Sch.subS; rw [hit]
  rw [e_F101_1]
  simp only [O.lt_int, lt_cast, hi, decide_true, Option.bind_some, O.cnd_bool, if_true, O.index_list, Int.natCast_nonneg, Int.toNat_natCast, List.getElem?_map, List.getElem?_eq_getElem hi, Option.map_some, Fld.proj0, pg_member, O.calls_1, pg_then p (fldStp v.f[i].1) (by omega), pg_field s v.f[i].1 (by omega), O.calls_2, hk5, hit, List.length_nil, and_self, decide_true, Bool.true_and, O.not_bool, Fld.proj1, O.ne_int, Fld.projV, SFld.projS]
  cases hf : s.fld v.f[i].1 with
  | none => rw [hsub', hf] at hsub; cases hsub
  | some d =>
   have hdm := (fld_mem hf).1
   have hds := Sch.mass_f hdm
   have e : t = d.s := by rw [hsub', hf] at hsub; exact (Option.some.inj hsub).symm
   subst e
   simp only [Option.isSome_some, Bool.not_true, Bool.false_eq_true, if_false, Option.getD_some]
   by_cases hk : v.f[i].2.k = 0
   ·simp only [hk, decide_true, Bool.not_true, Bool.false_eq_true, if_false]
    exact key
   ·have h1 := ih _ hmem (hv.mem_f hmem) d.s (hsb.mem_f hdm) (by omega) (p ++ [fldStp v.f[i].1]) (by simp; omega) (errs_nil_p (err1_sub (he _ hmem []) hk hsub) [])
    simp only [hk, decide_false, Bool.not_false, if_true, h1, O.calls_1]
    exact key
theorem ck_check : ∀ v : Val, Ck0 v := by
 refine Val.ind fun v ih1 ih2 hv s hsb hs p hl h => ?_
 have hk := errs_kind h
 have hlf := s.mass_len_f
 have hle := s.mass_len_en
 have h' := h
 rw [errs_eq, if_pos hk] at h'
 rw [e_F72_0]
 simp only [Val.proj0, Sch.proj0, Option.bind_some, O.ne_int, O.cnd_bool, hk, decide_true, Bool.not_true, Bool.false_eq_true, if_false, O.eq_int]
 rw [hk] at h'
 by_cases k2 : s.k = 2
 ·rw [if_pos k2] at h'
  unfold rngE at h'
  have hc : (decide (v.n < s.mn) || decide (s.mx < v.n)) = false := by
   cases hb : (decide (v.n < s.mn) || decide (s.mx < v.n)) with
   | false => rfl
   | true => rw [hb, if_pos rfl] at h'; cases h'
  simp only [Bool.or_eq_false_iff] at hc
  simp only [k2, decide_true, if_true, Val.proj1, Sch.proj1, Sch.proj2, O.lt_int, O.gt_int, Option.bind_some, O.cnd_bool, ite_some, ite_ivbool, hc.1, hc.2, Bool.false_eq_true, if_false]
 ·rw [if_neg k2] at h'
  by_cases k3 : s.k = 3
  ·rw [if_pos k3] at h'
   have hc : (decide ((v.s.size : Int) < s.mn) || decide (s.mx < (v.s.size : Int))) = false := by
    cases hb : (decide ((v.s.size : Int) < s.mn) || decide (s.mx < (v.s.size : Int))) with
    | false => rfl
    | true => rw [hb, if_pos rfl] at h'; cases h'
   rw [hc, if_neg (by simp)] at h'
   have hc2 : (decide (0 < s.en.length) && !s.en.any (fun e => decide (e = v.s))) = false := by
    cases hb : (decide (0 < s.en.length) && !s.en.any (fun e => decide (e = v.s))) with
    | false => rfl
    | true => rw [hb, if_pos rfl] at h'; cases h'
   simp only [Bool.or_eq_false_iff] at hc
   have e : decide ((0 : Int) < (s.en.length : Int)) = decide (0 < s.en.length) := by simp
   simp only [k3, show ¬ (3 : Int) = 2 by omega, decide_false, Bool.false_eq_true, if_false, decide_true, if_true, Val.proj2, Sch.proj1, Sch.proj2, Sch.proj3, O.len_list, List.length_map, O.slen_str, O.lt_int, O.gt_int, Option.bind_some, O.cnd_bool, ite_some, ite_ivbool, pg_contains s.en v.s (by omega), O.calls_1, O.not_bool, hc.1, hc.2, e]
   cases h1 : decide (0 < s.en.length) with
   | false => simp
   | true => rw [h1, Bool.true_and] at hc2; simp [hc2]
  ·rw [if_neg k3] at h'
   by_cases k4 : s.k = 4
   ·obtain ⟨t, ht⟩ := List.length_eq_one_iff.1 (hsb.list k4)
    obtain ⟨g1, g2⟩ := errs_list h (by omega)
    rw [ht, List.headD_cons] at g2
    unfold rngE at g1
    have hc : (decide ((v.l.length : Int) < s.mn) || decide (s.mx < (v.l.length : Int))) = false := by
     cases hb : (decide ((v.l.length : Int) < s.mn) || decide (s.mx < (v.l.length : Int))) with
     | false => rfl
     | true => rw [hb, if_pos rfl] at g1; cases g1
    simp only [Bool.or_eq_false_iff] at hc
    have h2 := ck_list s t v p hv hs ht hsb hl ih1 v.l.length 0 [] (by omega) (by simpa using g2) (fun k => rfl)
    simp only [Int.cast_ofNat_Int] at h2
    have h0 : W F93 0 [.list [], s.enc, v.enc, .list (p.map Stp.enc)] = some [.list []] := by
     rw [e_F93_0]
     simp only [Val.proj3, Sch.proj1, Sch.proj2, O.len_list, List.length_map, O.lt_int, O.gt_int, Option.bind_some, O.cnd_bool, ite_some, ite_ivbool, hc.1, hc.2, Bool.false_eq_true, if_false]
     rw [e_F93_1]
     simp only [Val.proj3, O.len_list, List.length_map, Option.bind_some]
     exact h2
    simp only [k4, show ¬ (4 : Int) = 2 by omega, show ¬ (4 : Int) = 3 by omega, decide_false, Bool.false_eq_true, if_false, decide_true, if_true, h0, O.calls_1]
   ·by_cases k5 : s.k = 5
    ·obtain ⟨g1, g2⟩ := errs_map h (by omega)
     simp only [k5, show ¬ (5 : Int) = 2 by omega, show ¬ (5 : Int) = 3 by omega, show ¬ (5 : Int) = 4 by omega, decide_false, Bool.false_eq_true, if_false, decide_true, if_true, pg_dict, O.calls_1, Bool.true_and, O.cnd_bool]
     cases hit : s.it with
     | nil =>
      have h2 := ck_str_1 s v p hv hs k5 hit hsb hl ih2 g1 g2 v.f.length 0 (by omega)
      simp only [Int.cast_ofNat_Int] at h2
      have h0 : W F101 0 [.list [], s.enc, v.enc, .list (p.map Stp.enc)] = some [.list []] := by
       rw [e_F101_0]
       simp only [Val.proj4, O.len_list, List.length_map, Option.bind_some]
       exact h2
      simp only [List.length_nil, Nat.lt_irrefl, decide_false, Bool.false_eq_true, if_false, h0, O.calls_1]
     | cons t r =>
      have hr : r = [] := by have := hsb.one; rw [hit] at this; simpa using this
      subst hr
      have h2 := ck_dict_1 s t v p hv hs hit hsb hl ih2 g1 v.f.length 0 (by omega)
      simp only [Int.cast_ofNat_Int] at h2
      simp only [List.length_cons, Nat.zero_lt_succ, decide_true, if_true, Val.proj4, O.len_list, List.length_map, Option.bind_some]
      exact h2
    ·simp only [k2, k3, k4, k5, decide_false, Bool.false_eq_true, if_false, pg_dict, O.calls_1, Bool.false_and, O.cnd_bool]
theorem ev_fits (s : Sch) (v : Val) (hm : s.mass + v.mass ≤ 1048576) : ∃ b, W F1 0 [s.enc, v.enc] = some [.bool b] ∧ (b = true → s.valid = true ∧ v.valid = true) := by
 obtain ⟨r, hr, _⟩ := ev_size s (by omega) 300 (by omega) (by omega)
 have h1 := ref_Svalid s (by omega)
 obtain ⟨b2, h2⟩ := ref_smallN v 700 (by omega) (by omega) (by omega)
 have h3 := ref_Valid v (by omega)
 rw [e_F1_0]
 simp only [hr, O.calls_1, O.lt_int, Option.bind_some, O.cnd_bool, h1, h2, h3, ite_some, ite_ivbool]
 refine ⟨_, rfl, fun h => ?_⟩
 by_cases c0 : r < 300
 ·cases hb1 : s.valid with
  | false => simp [c0, hb1] at h
  | true =>
   cases b2 with
   | false => simp [c0, hb1] at h
   | true => simp [c0, hb1] at h; exact ⟨rfl, h⟩
 ·simp [c0] at h
theorem law_dchecks (s : Sch) (v : Val) (hm : s.mass + v.mass ≤ 1048576) : W F0 0 [s.enc, v.enc] = some [.bool true] := by
 obtain ⟨b, hb, hb2⟩ := ev_fits s v hm
 have hck := pg_Check s v (by omega) (by omega)
 rw [e_F0_0]
 simp only [hb, O.calls_1, O.not_bool, Option.bind_some, O.cnd_bool, hck, O.len_list, O.gt_int, ite_some, ite_ivbool, lives]
 cases b with
 | false => simp
 | true =>
  obtain ⟨hsv, hvv⟩ := hb2 rfl
  by_cases c0 : (0 : Int) < (chk s v).length
  ·simp only [Bool.not_true, Bool.false_eq_true, if_false, c0, decide_true, if_true]
  ·have hnil : chk s v = [] := List.length_eq_zero_iff.1 (by omega)
   have he : errs v s [] = [] := by
    unfold chk at hnil
    rw [hsv, hvv] at hnil
    simpa using hnil
   have hso := svalid_SOk 12 s hsv
   have hvo := VOk_valid hvv
   have hsb := Sch.valid_SB hsv
   have h1 := prog_prune v hvo (by omega) s hso (by omega)
   have h2 := prog_fill s hso (by omega) v hvo (wide_mass v (by omega))
   have hpm := pruneV_mass v s
   have hcp := pg_Check s (pruneV v s) (by omega) (by omega)
   have hcp0 : chk s (pruneV v s) = [] := by
    unfold chk
    rw [hsv, prune_valid s hvv]
    exact prune_errs v hvo s [] hsb he
   have hfit := fill_fit 1048576 1048576 (by omega) s (by omega) v (fit_mass v (by omega))
   have hfit2 := Fit.mono (show 1048576 + 1048576 ≤ 1099511627776 by omega) _ hfit
   have hfw := Wide.mono (show 1048576 + 1048576 ≤ 1073741824 by omega) _ hfit.wide
   have hvf := ref_ValidF _ hfit2
   have hpf := pv_ValidF _ hfit2
   have hef := fill_errs s hsv hso v hvo [] he
   have hcf := ck_check (fillS s v) hfw s hsb (by omega) [] (by simp; omega) hef
   have hcF : validF (fillS s v) = true → W F36 0 [s.enc, (fillS s v).enc] = some [.list []] := by
    intro hv'
    rw [e_F36_0]
    simp only [pg_Svalid s (by omega), hpf, O.calls_1, O.not_bool, Option.bind_some, O.cnd_bool, ite_some, ite_ivbool, hsv, hv', Bool.not_true, Bool.false_eq_true, if_false]
    rw [e_F71_0]
    simp only [List.map_nil] at hcf
    simp only [hcf, O.calls_1]
   simp only [Bool.not_true, Bool.false_eq_true, if_false, c0, decide_false, h1, h2, O.calls_1, hcp, hcp0, O.len_list, List.length_nil, O.eq_int, hvf, O.not_bool, Option.bind_some, O.cnd_bool, ite_some, ite_ivbool, if_true]
   cases hvF : validF (fillS s v) with
   | false => simp
   | true => simp [hcF hvF]
end Go.CT.Sch.D
namespace Go.CT.Sch
open Go.Proofs
theorem wt_int {x : IV} (h : WT Tryz.prog 3 x) : ∃ n, x = .int n := by
 obtain ⟨n, rfl, _⟩ := h.int_inv (k := .i64) (by kernel_rfl)
 exact ⟨n, rfl⟩
theorem wt_str {x : IV} (h : WT Tryz.prog 9 x) : ∃ s, x = .str s := by
 obtain ⟨s, rfl, _⟩ := h.str_inv (by kernel_rfl)
 exact ⟨s, rfl⟩
theorem wt_bool {x : IV} (h : WT Tryz.prog 4 x) : ∃ b, x = .bool b := h.bool_inv (by kernel_rfl)
theorem wt_strs {x : IV} (h : WT Tryz.prog 22 x) : ∃ l : List ByteArray, x = .list (l.map .str) := by
 obtain ⟨xs, rfl, _, h⟩ := h.list_inv (e := 9) (by kernel_rfl)
 obtain ⟨es, rfl, _⟩ := list_form (enc := IV.str) (ok := fun _ => True) (xs := xs) fun x hx => by
  obtain ⟨s, e⟩ := wt_str (h x hx)
  exact ⟨s, e, trivial⟩
 exact ⟨es, rfl⟩
theorem wt_vals {x : IV} (hx : WT Tryz.prog 30 x) (h : ∀ y, y.bulk < x.bulk → WT Tryz.prog 33 y → ∃ v : Val, y = v.enc) : ∃ l : List Val, x = .list (l.map Val.enc) := by
 obtain ⟨xs, rfl, _, hh⟩ := hx.list_inv (e := 33) (by kernel_rfl)
 obtain ⟨es, rfl, _⟩ := list_form (enc := Val.enc) (ok := fun _ => True) (xs := xs) fun y hy => by
  have hb : y.bulk < (IV.list xs).bulk := by have := bulk_mem hy; simp only [IV.bulk]; omega
  obtain ⟨s, e⟩ := h y hb (hh y hy)
  exact ⟨s, e, trivial⟩
 exact ⟨es, rfl⟩
theorem wt_fields {x : IV} (hx : WT Tryz.prog 31 x) (h : ∀ y, y.bulk < x.bulk → WT Tryz.prog 70 y → ∃ p, y = Fld.enc p) : ∃ l : List (ByteArray × Val), x = .list (l.map Fld.enc) := by
 obtain ⟨xs, rfl, _, hh⟩ := hx.list_inv (e := 70) (by kernel_rfl)
 obtain ⟨es, rfl, _⟩ := list_form (enc := Fld.enc) (ok := fun _ => True) (xs := xs) fun y hy => by
  have hb : y.bulk < (IV.list xs).bulk := by have := bulk_mem hy; simp only [IV.bulk]; omega
  obtain ⟨s, e⟩ := h y hb (hh y hy)
  exact ⟨s, e, trivial⟩
 exact ⟨es, rfl⟩
theorem wt_valn : ∀ (n : Nat) (x : IV), x.bulk ≤ n → (WT Tryz.prog 33 x → ∃ v : Val, x = v.enc) ∧ (WT Tryz.prog 70 x → ∃ p, x = Fld.enc p)
 | 0, x, hb => by have := bulk_pos x; omega
 | n + 1, x, hb => by
  have hV : ∀ y : IV, y.bulk ≤ n → WT Tryz.prog 30 y → ∃ l : List Val, y = .list (l.map Val.enc) := fun y hy h => wt_vals h fun z hz hw => (wt_valn n z (by omega)).1 hw
  have hF : ∀ y : IV, y.bulk ≤ n → WT Tryz.prog 31 y → ∃ l : List (ByteArray × Val), y = .list (l.map Fld.enc) := fun y hy h => wt_fields h fun z hz hw => (wt_valn n z (by omega)).2 hw
  constructor
  ·intro h
   obtain ⟨xs, rfl, h2⟩ := h.agg_inv (ts := [3, 3, 9, 30, 31]) (by kernel_rfl) (by kernel_rfl)
   obtain ⟨a, xs, rfl, ha, h⟩ := h2.cons_inv
   obtain ⟨b, xs, rfl, hb, h⟩ := h.cons_inv
   obtain ⟨c, xs, rfl, hc, h⟩ := h.cons_inv
   obtain ⟨d, xs, rfl, hd, h⟩ := h.cons_inv
   obtain ⟨e, xs, rfl, he, h⟩ := h.cons_inv
   obtain rfl := h.nil_inv
   simp only [IV.bulk, IV.bulks] at hb
   obtain ⟨k, rfl⟩ := wt_int ha
   obtain ⟨m, rfl⟩ := wt_int ‹WT Tryz.prog 3 b›
   obtain ⟨s, rfl⟩ := wt_str hc
   obtain ⟨l, rfl⟩ := hV d (by omega) hd
   obtain ⟨f, rfl⟩ := hF e (by omega) he
   exact ⟨⟨k, m, s, l, f⟩, Val.fold _ _ _ _ _⟩
  ·intro h
   obtain ⟨xs, rfl, h2⟩ := h.agg_inv (ts := [9, 3, 3, 9, 30, 31]) (by kernel_rfl) (by kernel_rfl)
   obtain ⟨z, xs, rfl, hz, h⟩ := h2.cons_inv
   obtain ⟨a, xs, rfl, ha, h⟩ := h.cons_inv
   obtain ⟨b, xs, rfl, hb, h⟩ := h.cons_inv
   obtain ⟨c, xs, rfl, hc, h⟩ := h.cons_inv
   obtain ⟨d, xs, rfl, hd, h⟩ := h.cons_inv
   obtain ⟨e, xs, rfl, he, h⟩ := h.cons_inv
   obtain rfl := h.nil_inv
   simp only [IV.bulk, IV.bulks] at hb
   obtain ⟨nm, rfl⟩ := wt_str hz
   obtain ⟨k, rfl⟩ := wt_int ha
   obtain ⟨m, rfl⟩ := wt_int ‹WT Tryz.prog 3 b›
   obtain ⟨s, rfl⟩ := wt_str hc
   obtain ⟨l, rfl⟩ := hV d (by omega) hd
   obtain ⟨f, rfl⟩ := hF e (by omega) he
   exact ⟨(nm, ⟨k, m, s, l, f⟩), Fld.fold _ _ _ _ _ _⟩
theorem wt_val {x : IV} (h : WT Tryz.prog 33 x) : ∃ v : Val, x = v.enc := (wt_valn _ x (Nat.le_refl _)).1 h
theorem wt_vallist {x : IV} (h : WT Tryz.prog 30 x) : ∃ l : List Val, x = .list (l.map Val.enc) := wt_vals h fun _ _ hw => wt_val hw
theorem wt_schs {x : IV} (hx : WT Tryz.prog 23 x) (h : ∀ y, y.bulk < x.bulk → WT Tryz.prog 26 y → ∃ v : Sch, y = v.enc) : ∃ l : List Sch, x = .list (l.map Sch.enc) := by
 obtain ⟨xs, rfl, _, hh⟩ := hx.list_inv (e := 26) (by kernel_rfl)
 obtain ⟨es, rfl, _⟩ := list_form (enc := Sch.enc) (ok := fun _ => True) (xs := xs) fun y hy => by
  have hb : y.bulk < (IV.list xs).bulk := by have := bulk_mem hy; simp only [IV.bulk]; omega
  obtain ⟨s, e⟩ := h y hb (hh y hy)
  exact ⟨s, e, trivial⟩
 exact ⟨es, rfl⟩
theorem wt_sfields {x : IV} (hx : WT Tryz.prog 24 x) (h : ∀ y, y.bulk < x.bulk → WT Tryz.prog 64 y → ∃ p : SFld, y = p.enc) : ∃ l : List SFld, x = .list (l.map SFld.enc) := by
 obtain ⟨xs, rfl, _, hh⟩ := hx.list_inv (e := 64) (by kernel_rfl)
 obtain ⟨es, rfl, _⟩ := list_form (enc := SFld.enc) (ok := fun _ => True) (xs := xs) fun y hy => by
  have hb : y.bulk < (IV.list xs).bulk := by have := bulk_mem hy; simp only [IV.bulk]; omega
  obtain ⟨s, e⟩ := h y hb (hh y hy)
  exact ⟨s, e, trivial⟩
 exact ⟨es, rfl⟩
theorem wt_schn : ∀ (n : Nat) (x : IV), x.bulk ≤ n → (WT Tryz.prog 26 x → ∃ v : Sch, x = v.enc) ∧ (WT Tryz.prog 64 x → ∃ p : SFld, x = p.enc)
 | 0, x, hb => by have := bulk_pos x; omega
 | n + 1, x, hbn => by
  have hV : ∀ y : IV, y.bulk ≤ n → WT Tryz.prog 23 y → ∃ l : List Sch, y = .list (l.map Sch.enc) := fun y hy h => wt_schs h fun z hz hw => (wt_schn n z (by omega)).1 hw
  have hF : ∀ y : IV, y.bulk ≤ n → WT Tryz.prog 24 y → ∃ l : List SFld, y = .list (l.map SFld.enc) := fun y hy h => wt_sfields h fun z hz hw => (wt_schn n z (by omega)).2 hw
  have hS : ∀ xs, WTs Tryz.prog [3, 3, 3, 22, 9, 23, 24] xs → IV.bulks xs ≤ n → ∃ s : Sch, xs = s.comps := by
   intro xs h hb
   obtain ⟨a, xs, rfl, ha, h⟩ := h.cons_inv
   obtain ⟨b, xs, rfl, hb', h⟩ := h.cons_inv
   obtain ⟨c, xs, rfl, hc, h⟩ := h.cons_inv
   obtain ⟨d, xs, rfl, hd, h⟩ := h.cons_inv
   obtain ⟨e, xs, rfl, he, h⟩ := h.cons_inv
   obtain ⟨g, xs, rfl, hg, h⟩ := h.cons_inv
   obtain ⟨i, xs, rfl, hi, h⟩ := h.cons_inv
   obtain rfl := h.nil_inv
   simp only [IV.bulks] at hb
   obtain ⟨k, rfl⟩ := wt_int ha
   obtain ⟨m, rfl⟩ := wt_int hb'
   obtain ⟨o, rfl⟩ := wt_int hc
   obtain ⟨en, rfl⟩ := wt_strs hd
   obtain ⟨key, rfl⟩ := wt_str he
   obtain ⟨it, rfl⟩ := hV g (by omega) hg
   obtain ⟨f, rfl⟩ := hF i (by omega) hi
   exact ⟨⟨k, m, o, en, key, it, f⟩, by rw [Sch.comps_eq]; rfl⟩
  constructor
  ·intro h
   obtain ⟨xs, rfl, h2⟩ := h.agg_inv (ts := [3, 3, 3, 22, 9, 23, 24]) (by kernel_rfl) (by kernel_rfl)
   simp only [IV.bulk] at hbn
   obtain ⟨s, rfl⟩ := hS xs h2 (by omega)
   exact ⟨s, s.enc_eq.symm⟩
  ·intro h
   obtain ⟨xs, rfl, h2⟩ := h.agg_inv (ts := [9, 4, 4, 30, 3, 3, 3, 22, 9, 23, 24]) (by kernel_rfl) (by kernel_rfl)
   obtain ⟨a, xs, rfl, ha, h⟩ := h2.cons_inv
   obtain ⟨b, xs, rfl, hb', h⟩ := h.cons_inv
   obtain ⟨c, xs, rfl, hc, h⟩ := h.cons_inv
   obtain ⟨d, xs, rfl, hd, h⟩ := h.cons_inv
   simp only [IV.bulk, IV.bulks] at hbn
   obtain ⟨s, rfl⟩ := hS xs h (by omega)
   obtain ⟨nm, rfl⟩ := wt_str ha
   obtain ⟨rq, rfl⟩ := wt_bool hb'
   obtain ⟨im, rfl⟩ := wt_bool hc
   obtain ⟨df, rfl⟩ := wt_vallist hd
   exact ⟨⟨nm, rq, im, df, s⟩, rfl⟩
theorem wt_sch {x : IV} (h : WT Tryz.prog 26 x) : ∃ s : Sch, x = s.enc := (wt_schn _ x (Nat.le_refl _)).1 h
end Go.CT.Sch
