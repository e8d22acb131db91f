import Derived.Test.YtcamikkadiiobaaRlogPb
namespace Go.CT.Rlog
open Go.Proofs

/-- Every entry's term says all entries up to it. -/
def Known (P : Int → List E) (l : List E) : Prop := ∀ (k : Nat) (e : E), l[k]? = some e → l.take (k + 1) = P e.t
/-- Logs after some steps: no more entries than steps, and terms from 1 to the steps' number. -/
structure Inv (P : Int → List E) (i : Nat) (l : List E) : Prop where
  known : Known P l
  len : l.length ≤ i
  lo : ∀ e ∈ l, 1 ≤ e.t ∧ e.t ≤ i
  up : rises l 1 = true

theorem Inv.mono {P : Int → List E} {i : Nat} {l : List E} (h : Inv P i l) : Inv P (i + 1) l :=
  ⟨h.known, by have := h.len; omega, fun e he => by have := h.lo e he; omega, h.up⟩
theorem Inv.take {P : Int → List E} {i : Nat} {l : List E} (h : Inv P i l) (n : Nat) : Inv P i (l.take n) := by
  refine ⟨fun k e hk => ?_, by have := h.len; rw [List.length_take]; omega, fun e he => h.lo e (List.mem_of_mem_take he), rises_take _ _ _ h.up⟩
  rw [List.getElem?_take] at hk
  split at hk
  · rw [List.take_take, Nat.min_eq_left (by omega)]; exact h.known k e hk
  · cases hk

/-- A log grows by an entry of a new term. -/
theorem Inv.grow {P : Int → List E} {i : Nat} {l : List E} (h : Inv P i l) (hi : i ≤ 60) (d : ByteArray) : Inv (fun t => if t = ((i : Int) + 1) then l ++ [⟨i + 1, d⟩] else P t) (i + 1) (l ++ [⟨i + 1, d⟩]) := by
  refine ⟨fun k e hk => ?_, by have := h.len; simp; omega, fun e he => ?_, ?_⟩
  · by_cases c : k < l.length
    · rw [List.getElem?_append_left c] at hk
      have := h.lo e (List.mem_of_getElem? hk)
      rw [List.take_append_of_le_length (by omega)]
      show _ = if e.t = (i : Int) + 1 then _ else _
      rw [if_neg (by omega)]
      exact h.known k e hk
    · have hk2 : k = l.length := by
        have := (List.getElem?_eq_some_iff.1 hk).1
        simp at this; omega
      subst hk2
      simp at hk
      subst hk
      show _ = if ((i : Int) + 1) = (i : Int) + 1 then _ else _
      rw [if_pos rfl, List.take_of_length_le (by simp)]
  · rcases List.mem_append.1 he with he | he
    · have := h.lo e he; omega
    · simp at he; subst he; simp only; omega
  · rw [rises_append, h.up, Bool.true_and]
    have hend : endT l 1 ≤ i + 1 := by
      have : ∀ (ys : List E) (m : Int), m ≤ (i : Int) + 1 → (∀ e ∈ ys, e.t ≤ i) → endT ys m ≤ i + 1 := by
        intro ys
        induction ys with
        | nil => intro m h _; exact h
        | cons y ys ih => intro m h hy; exact ih y.t (by have := hy y (by simp); omega) (fun e he => hy e (by simp [he]))
      exact this l 1 (by omega) (fun e he => (h.lo e he).2)
    simp only [rises]
    rw [if_neg (by omega)]

theorem Inv.other {P : Int → List E} {i : Nat} {l m : List E} (h : Inv P i l) : Inv (fun t => if t = ((i : Int) + 1) then m else P t) (i + 1) l := by
  refine ⟨fun k e hk => ?_, by have := h.len; omega, fun e he => by have := h.lo e he; omega, h.up⟩
  have := h.lo e (List.mem_of_getElem? hk)
  show _ = if e.t = (i : Int) + 1 then _ else _
  rw [if_neg (by omega)]
  exact h.known k e hk

theorem Inv.valid {P : Int → List E} {i : Nat} {l : List E} (h : Inv P i l) (hi : i ≤ 100) : valid ⟨0, 0, l⟩ = true := by
  unfold Rlog.valid
  rw [Bool.and_eq_true, decide_eq_true_iff]
  have := h.len
  exact ⟨⟨by simp, by simp, by simp, by simp, by simp, by simp only; omega⟩, by simpa using h.up⟩

/-- Receiving a part of another log gives the old log or a beginning of the other. -/
theorem merge_known {P : Int → List E} : ∀ (n p : Nat) (f o : List E), Known P f → Known P o → p ≤ o.length → o.take p = f.take p →
    mergeF o p ((f.drop p).take n) = o ∨ ∃ q, mergeF o p ((f.drop p).take n) = f.take q
  | 0, p, f, o, _, _, _, _ => by simp [mergeF]
  | n + 1, p, f, o, hf, ho, hp, ht => by
    by_cases c : p < f.length
    · rw [List.drop_eq_getElem_cons c, List.take_succ_cons, mergeF]
      have tail : o.take p ++ f[p] :: (f.drop (p + 1)).take n = f.take (p + (n + 1)) := by
        rw [ht, List.take_add, List.drop_eq_getElem_cons c, List.take_succ_cons]
      cases hc : o[p]? with
      | none => exact .inr ⟨_, tail⟩
      | some x =>
        have hlt := (List.getElem?_eq_some_iff.1 hc).1
        by_cases c2 : x.t = f[p].t
        · simp only [c2, if_true]
          have h1 := ho p x hc
          have h2 := hf p f[p] (List.getElem?_eq_getElem c)
          exact merge_known n (p + 1) f o hf ho (by omega) (by rw [h1, h2, c2])
        · simp only [c2, if_false]
          exact .inr ⟨_, tail⟩
    · rw [List.drop_of_length_le (by omega)]
      simp [mergeF]

/-! the law -/
structure St where
  grow : Bool
  src : Int
  dst : Int
  prev : Int
  most : Int
@[simp] def St.enc (s : St) : IV := .agg [.bool s.grow, .int s.src, .int s.dst, .int s.prev, .int s.most]
@[simp] def lenc (es : List E) : IV := .agg [.int 0, .int 0, .list (es.map E.enc)]

theorem matches_1 {P : Int → List E} {i : Nat} {x y : List E} (hx : Inv P i x) (hy : Inv P i y) (hi : i ≤ 100) : ∀ (n : Nat), n ≤ x.length → n ≤ y.length →
    W f_law25_matches 1 [.int n, lenc x, lenc y] = some [.bool true]
  | 0, _, _ => by
    rw [e_f_law25_matches_1]
    have := entries [] [] (by simp)
    simp at this
    simp [this]
  | n + 1, h1, h2 => by
    rw [e_f_law25_matches_1]
    have l1 : n < x.length := by omega
    have l2 : n < y.length := by omega
    have ih := matches_1 hx hy hi n (by omega) (by omega)
    have hlx := hx.len
    have w1 : IntKind.i64.wrap (((n + 1 : Nat) : Int) - 1) = n := by rw [wrap64 (by omega) (by omega)]; omega
    have hp : (0 : Int) < ((n + 1 : Nat) : Int) := by omega
    simp only [lenc, O.gt_int, hp, decide_true, Option.bind_some, O.cnd_bool, if_true, O.proj_agg, List.getElem?_cons_zero, List.getElem?_cons_succ, O.sub_int, w1, O.index_list, Int.natCast_nonneg, Int.toNat_natCast, List.getElem?_map, List.getElem?_eq_getElem l1, List.getElem?_eq_getElem l2, Option.map_some, E.enc, O.ne_int]
    by_cases c : x[n].t = y[n].t
    · have e1 := hx.known n _ (List.getElem?_eq_getElem l1)
      have e2 := hy.known n _ (List.getElem?_eq_getElem l2)
      have he : x.take (n + 1) = y.take (n + 1) := by rw [e1, e2, c]
      have := entries (x.take (n + 1)) (y.take (n + 1)) (by rw [List.length_take]; omega)
      simp only [he, decide_true] at this
      have h5 : (0 : Int) ≤ ((n + 1 : Nat) : Int) ∧ ((n + 1 : Nat) : Int) ≤ x.length := by omega
      have h6 : (0 : Int) ≤ ((n + 1 : Nat) : Int) ∧ ((n + 1 : Nat) : Int) ≤ y.length := by omega
      simp only [c, decide_true, Bool.not_true, Bool.false_eq_true, if_false, O.slice_list, List.length_map, Int.le_refl, h5, h6, and_self, if_true, Option.bind_some, Int.toNat_natCast, Int.toNat_zero, List.drop_zero, ← List.map_take, he, this, O.calls_1]
    · simp only [lenc] at ih
      simp only [c, decide_false, Bool.not_false, if_true, ih]
theorem matches_ {P : Int → List E} {i : Nat} {x y : List E} (hx : Inv P i x) (hy : Inv P i y) (hi : i ≤ 100) : W f_law25_matches 0 [lenc x, lenc y] = some [.bool true] := by
  rw [e_f_law25_matches_0]
  have e1 : (if (y.length : Int) < x.length then (y.length : Int) else x.length) = ((min x.length y.length : Nat) : Int) := by split <;> omega
  have := matches_1 hx hy hi (min x.length y.length) (by omega) (by omega)
  simp only [lenc] at this
  simp only [lenc, O.proj_agg, List.getElem?_cons_zero, List.getElem?_cons_succ, Option.bind_some, O.ne_int, decide_true, Bool.not_true, O.cnd_bool, Bool.false_eq_true, if_false, O.len_list, List.length_map, O.min_int, e1, this]

theorem step_inv {P : Int → List E} {i : Nat} {ls : List (List E)} (h : ∀ l ∈ ls, Inv P i l) {l : List E} (k : Nat) (hl : Inv P (i + 1) l) : ∀ m ∈ ls.set k l, Inv P (i + 1) m := by
  intro m hm
  rcases List.mem_or_eq_of_mem_set hm with h1 | h1
  · exact (h m h1).mono
  · rw [h1]; exact hl

theorem matching_1 (ss : List St) (hs : ss.length ≤ 60) : ∀ (n i : Nat) (ls : List (List E)) (P : Int → List E), i + n = ss.length → ls.length = 3 → (∀ l ∈ ls, Inv P i l) →
    W f_law25_RlogMatching 1 [.list (ss.map St.enc), .int i, .list (ls.map lenc)] = some [.bool true]
  | 0, i, ls, P, hi, h3, hI => by
    rw [e_f_law25_RlogMatching_1]
    match ls, h3 with
    | [x, y, z], _ =>
      have hx := hI x (by simp)
      have hy := hI y (by simp)
      have hz := hI z (by simp)
      have m1 := matches_ hx hy (by omega)
      have m2 := matches_ hx hz (by omega)
      have m3 := matches_ hy hz (by omega)
      have hlt : ¬ (i : Int) < ss.length := by omega
      have z0 : (0 : Int).toNat = 0 := rfl
      have z1 : (1 : Int).toNat = 1 := rfl
      have z2 : (2 : Int).toNat = 2 := rfl
      simp only [O.len_list, List.length_map, Option.bind_some, O.lt_int, hlt, decide_false, O.cnd_bool, Bool.false_eq_true, if_false, lives, O.calls_1, if_true, O.index_list, List.map_cons, List.map_nil, List.getElem?_cons_zero, List.getElem?_cons_succ, z0, z1, z2, Int.le_refl, m1, m2, m3, show (0 : Int) ≤ 1 by omega, show (0 : Int) ≤ 2 by omega]
  | n + 1, i, ls, P, hi, h3, hI => by
    rw [e_f_law25_RlogMatching_1]
    have hlt : i < ss.length := by omega
    have hlt' : (i : Int) < ss.length := by omega
    generalize hsi : ss[i] = s
    simp only [O.len_list, List.length_map, Option.bind_some, O.lt_int, hlt', decide_true, O.cnd_bool, if_true, O.index_list, Int.natCast_nonneg, Int.toNat_natCast, List.getElem?_map, List.getElem?_eq_getElem hlt, Option.map_some, hsi, St.enc, O.proj_agg, List.getElem?_cons_zero, List.getElem?_cons_succ, O.gt_int, lives, O.calls_1]
    by_cases c1 : s.src < 0 ∨ s.dst < 0 ∨ s.prev < 0 ∨ 60 < s.prev
    · rcases c1 with c | c | c | c <;> simp [c]
    · have d1 : ¬ s.src < 0 := by omega
      have d2 : ¬ s.dst < 0 := by omega
      have d3 : ¬ s.prev < 0 := by omega
      have d4 : ¬ 60 < s.prev := by omega
      -- where it comes from, where it goes
      obtain ⟨f, hf, hf3⟩ : ∃ f : Nat, s.src.tmod 3 = f ∧ f < 3 := ⟨(s.src.tmod 3).toNat, by rw [Int.tmod_eq_emod_of_nonneg (by omega)]; omega, by rw [Int.tmod_eq_emod_of_nonneg (by omega)]; omega⟩
      obtain ⟨t, ht, ht3⟩ : ∃ t : Nat, s.dst.tmod 3 = t ∧ t < 3 := ⟨(s.dst.tmod 3).toNat, by rw [Int.tmod_eq_emod_of_nonneg (by omega)]; omega, by rw [Int.tmod_eq_emod_of_nonneg (by omega)]; omega⟩
      have hfl : f < ls.length := by omega
      have htl : t < ls.length := by omega
      have hIf := hI ls[f] (List.getElem_mem hfl)
      have hIt := hI ls[t] (List.getElem_mem htl)
      generalize hF : ls[f] = F at hIf
      generalize hT : ls[t] = T at hIt
      have hvF := hIf.valid (by omega)
      have hvT := hIt.valid (by omega)
      have lenT := hIt.len
      have lenF := hIf.len
      have tT : tame ⟨0, 0, T⟩ := ⟨by simp, by simp, by simp only; omega⟩
      have tF : tame ⟨0, 0, F⟩ := ⟨by simp, by simp, by simp only; omega⟩
      have w1 : IntKind.i64.wrap ((i : Int) + 1) = ((i + 1 : Nat) : Int) := by rw [wrap64 (by omega) (by omega)]; rfl
      have ih := fun (ls' : List (List E)) (P' : Int → List E) (a : ls'.length = 3) (b : ∀ l ∈ ls', Inv P' (i + 1) l) => matching_1 ss hs n (i + 1) ls' P' (by omega) a b
      have nx : ∀ ls' : List (List E), W f_law25_RlogMatching 2 [.list (ss.map St.enc), .int i, .list (ls'.map lenc)] = W f_law25_RlogMatching 1 [.list (ss.map St.enc), .int ((i + 1 : Nat) : Int), .list (ls'.map lenc)] := by
        intro ls'
        rw [e_f_law25_RlogMatching_2]
        simp only [O.add_int, w1, Option.bind_some]
      have lT : (ls.map lenc)[t]? = some (lenc T) := by rw [List.getElem?_map, List.getElem?_eq_getElem htl, hT]; rfl
      have lF : (ls.map lenc)[f]? = some (lenc F) := by rw [List.getElem?_map, List.getElem?_eq_getElem hfl, hF]; rfl
      have hset : ∀ l : List E, (ls.map lenc).set t (lenc l) = (ls.set t l).map lenc := fun l => by rw [List.map_set]
      have n3 : ¬ (3 : Int) = 0 := by omega
      simp only [d1, d2, d3, d4, decide_false, Bool.false_eq_true, if_false, Option.bind_some, O.cnd_bool, O.rem_int, n3, hf, ht, O.index_list, Int.natCast_nonneg, if_true, Int.toNat_natCast, lT, lenc, prg_last 0 0 T tT, O.calls_2]
      cases hg : s.grow with
      | true =>
        simp only [if_true]
        have hlast : lastI ⟨0, 0, T⟩ = T.length := by simp [lastI]
        have w2 : IntKind.i64.wrap ((T.length : Int) + 1) = T.length + 1 := wrap64 (by omega) (by omega)
        have w3 : IntKind.i64.wrap (33 + (i : Int)) = 33 + i := wrap64 (by omega) (by omega)
        have w4 : IntKind.u8.wrap (33 + (i : Int)) = 33 + i := IntWalk.u8_in _ (by omega)
        obtain ⟨d, hd⟩ : ∃ d : ByteArray, O.strOf (.list [.int (33 + (i : Int))]) = some (.str d) := by
          have : (0 : Int) ≤ 33 + i ∧ 33 + (i : Int) < 256 := by omega
          refine ⟨⟨#[(33 + (i : Int)).toNat.toUInt8]⟩, ?_⟩
          simp [O.strOf, Prim.ev, ivByte, this]
        have hap := prg_append 0 0 T T.length (lastT ⟨0, 0, T⟩) [⟨(i : Int) + 1, d⟩] (valid_inv hvT).1 ⟨by omega, by omega⟩ (by simp)
        have hlt0 : 0 ≤ lastT ⟨0, 0, T⟩ ∧ lastT ⟨0, 0, T⟩ ≤ i := by
          unfold lastT
          cases hgl : T.getLast? with
          | none => simp only; omega
          | some e =>
            have := hIt.lo e (List.mem_of_getLast? hgl)
            simp only; omega
        have hres : appendF ⟨0, 0, T⟩ T.length (lastT ⟨0, 0, T⟩) [⟨(i : Int) + 1, d⟩] = ⟨⟨0, 0, T ++ [⟨(i : Int) + 1, d⟩]⟩, T.length + 1, true⟩ := by
          unfold appendF
          have c0 : ¬ ((T.length : Int) < 0 ∨ lastT ⟨0, 0, T⟩ < 0 ∨ rises [⟨(i : Int) + 1, d⟩] (if 1 < lastT ⟨0, 0, T⟩ then lastT ⟨0, 0, T⟩ else 1) = false) := by
            have : rises [⟨(i : Int) + 1, d⟩] (if 1 < lastT ⟨0, 0, T⟩ then lastT ⟨0, 0, T⟩ else 1) = true := by
              simp only [rises]
              rw [if_neg (by split <;> omega)]
            rw [this]; simp; omega
          have e1 : ((0 : Int) - T.length).toNat = 0 := by omega
          have e2 : ((T.length : Int) - 0).toNat = T.length := by omega
          have c1 : ¬ okAll 0 ([⟨(i : Int) + 1, d⟩] : List E) = false := by
            simp [okAll]; omega
          have hfit : fits ⟨0, 0, T⟩ T.length (lastT ⟨0, 0, T⟩) := by
            intro hlt
            unfold termAt lastT
            simp only at hlt ⊢
            rw [if_neg (by omega), if_neg (by omega), e2, ← List.getLast?_eq_getElem?]
            cases hgl : T.getLast? with
            | none => rw [List.getLast?_eq_none_iff] at hgl; subst hgl; simp at hlt
            | some e => simp
          rw [if_neg c0]
          simp only [e1, e2, List.drop_zero]
          rw [if_neg c1, if_neg (by simpa using hfit)]
          have hm : mergeF T T.length [⟨(i : Int) + 1, d⟩] = T ++ [⟨(i : Int) + 1, d⟩] := by
            simp [mergeF]
          have e3 : min ((T.length : Int) + (([⟨(i : Int) + 1, d⟩] : List E).length : Nat)) ((0 : Int) + 400) = T.length + 1 := by
            rw [List.length_singleton]; omega
          rw [hm, List.take_of_length_le (by simp; omega), e3]
        rw [hres] at hap
        have hset' := hset (T ++ [⟨(i : Int) + 1, d⟩])
        simp only [lenc, List.map_append, List.map_cons, List.map_nil, E.enc] at hset' hap
        simp only [O.add_int, w1, w3, Option.bind_some, O.conv_int, w4, O.mklist_eq, hd, O.mkagg_eq, hlast]
        rw [show ((i + 1 : Nat) : Int) = (i : Int) + 1 from rfl]
        rw [hap]
        simp only [O.calls_5, O.not_bool, Bool.not_true, Option.bind_some, O.cnd_bool, Bool.false_eq_true, if_false, w2, O.ne_int, decide_true, O.setAt_whole, Int.natCast_nonneg, if_true, Int.toNat_natCast, lT, lenc, hset']
        have := ih (ls.set t (T ++ [⟨(i : Int) + 1, d⟩])) _ (by simpa using h3) (fun l hl => by
          rcases List.mem_or_eq_of_mem_set hl with h1 | h1
          · exact (hI l h1).other (m := T ++ [⟨(i : Int) + 1, d⟩])
          · rw [h1]; exact hIt.grow (by omega) d)
        have n2 := nx (ls.set t (T ++ [⟨(i : Int) + 1, d⟩]))
        rw [← n2] at this
        simpa only [lenc, E.enc] using this
      | false =>
        simp only [Bool.false_eq_true, if_false, lF, lenc, Option.bind_some, O.calls_2, prg_termAt 0 0 F s.prev tF, optI_getD]
        have w2 : IntKind.i64.wrap (s.prev + 1) = s.prev + 1 := wrap64 (by omega) (by omega)
        have hof : optE (fromI ⟨0, 0, F⟩ (s.prev + 1) s.most) = [.list (((fromI ⟨0, 0, F⟩ (s.prev + 1) s.most).getD []).map E.enc), .bool (fromI ⟨0, 0, F⟩ (s.prev + 1) s.most).isSome] := by
          cases fromI ⟨0, 0, F⟩ (s.prev + 1) s.most <;> rfl
        simp only [O.add_int, w2, Option.bind_some, prg_from 0 0 F _ _ tF, hof, O.calls_2, O.pick_bool]
        have stay := ih ls P h3 (fun l hl => (hI l hl).mono)
        have n3' : W f_law25_RlogMatching 3 [.list (ss.map St.enc), .int i, .list (ls.map lenc)] = some [.bool true] := by
          rw [e_f_law25_RlogMatching_3, nx]; exact stay
        by_cases c2 : (termAt ⟨0, 0, F⟩ s.prev).isSome = true
        · by_cases c3 : (fromI ⟨0, 0, F⟩ (s.prev + 1) s.most).isSome = true
          · simp only [c2, c3, if_true, O.cnd_bool]
            obtain ⟨u, hu⟩ := Option.isSome_iff_exists.1 c2
            obtain ⟨es, hes⟩ := Option.isSome_iff_exists.1 c3
            simp only [hu, hes, Option.getD_some]
            obtain ⟨p, hp⟩ : ∃ p : Nat, s.prev = p := ⟨s.prev.toNat, by omega⟩
            rw [hp] at hu hes ⊢
            have hple := termAt_le hu
            have hes' : es = (F.drop p).take s.most.toNat := by
              unfold fromI at hes
              split at hes
              · cases hes
              · injection hes with hes
                rw [← hes]
                have e1 : ((p : Int) + 1 - 0).toNat - 1 = p := by omega
                simp only [e1]
            have hel : es.length ≤ 1048576 := by rw [hes', List.length_take, List.length_drop]; omega
            have hap := prg_append 0 0 T p u es (valid_inv hvT).1 ⟨by omega, by omega⟩ hel
            -- the result is old, or a beginning of the other
            have hres : ∃ l, appendF ⟨0, 0, T⟩ p u es = ⟨⟨0, 0, l⟩, (appendF ⟨0, 0, T⟩ p u es).n, (appendF ⟨0, 0, T⟩ p u es).ok⟩ ∧ Inv P (i + 1) l := by
              unfold appendF
              by_cases c0 : (p : Int) < 0 ∨ u < 0 ∨ rises es (if 1 < u then u else 1) = false
              · rw [if_pos c0]; exact ⟨T, rfl, hIt.mono⟩
              rw [if_neg c0]
              by_cases c1 : okAll 0 (es.drop ((0 : Int) - p).toNat) = false
              · rw [if_pos c1]; exact ⟨T, rfl, hIt.mono⟩
              rw [if_neg c1]
              by_cases c2 : ¬ fits ⟨0, 0, T⟩ p u
              · rw [if_pos c2]; exact ⟨T, rfl, hIt.mono⟩
              rw [if_neg c2]
              have c2 : fits ⟨0, 0, T⟩ p u := by simpa using c2
              have e1 : ((0 : Int) - p).toNat = 0 := by omega
              have e2 : ((p : Int) - 0).toNat = p := by omega
              simp only [e1, e2, List.drop_zero]
              -- up to p both are the same
              have heq : p ≤ T.length ∧ T.take p = F.take p := by
                by_cases cp : p = 0
                · subst cp; simp
                · have h1 := c2 (by simp only; omega)
                  have h2 := termAt_le h1
                  refine ⟨by omega, ?_⟩
                  unfold termAt at h1 hu
                  simp only at h1 hu
                  rw [if_neg (by omega), if_neg (by omega), e2, Option.map_eq_some_iff] at h1 hu
                  obtain ⟨x, hx, hxu⟩ := h1
                  obtain ⟨y, hy, hyu⟩ := hu
                  have k1 := hIt.known _ _ hx
                  have k2 := hIf.known _ _ hy
                  rw [show p - 1 + 1 = p by omega] at k1 k2
                  rw [k1, k2, hxu, hyu]
              rw [hes']
              rcases merge_known s.most.toNat p F T hIf.known hIt.known heq.1 heq.2 with h | ⟨q, h⟩
              · refine ⟨_, rfl, ?_⟩
                rw [h]; exact (hIt.take 400).mono
              · refine ⟨_, rfl, ?_⟩
                rw [h]; exact ((hIf.take q).take 400).mono
            obtain ⟨l, hr1, hr2⟩ := hres
            rw [hr1] at hap
            rw [hap]
            have hset' := hset l
            simp only [lenc] at hset'
            simp only [O.calls_5, O.mkagg_eq, Option.bind_some, O.setAt_whole, Int.natCast_nonneg, if_true, Int.toNat_natCast, lT, lenc, hset']
            have := ih (ls.set t l) P (by simpa using h3) (step_inv hI t hr2)
            rw [← nx] at this
            rw [e_f_law25_RlogMatching_3]
            simpa only [lenc, E.enc] using this
          · have c3 : (fromI ⟨0, 0, F⟩ (s.prev + 1) s.most).isSome = false := by simpa using c3
            simp only [c2, c3, if_true, O.cnd_bool, Bool.false_eq_true, if_false]
            simpa only [lenc] using n3'
        · have c2 : (termAt ⟨0, 0, F⟩ s.prev).isSome = false := by simpa using c2
          simp only [c2, Bool.false_eq_true, if_false, O.cnd_bool]
          simpa only [lenc] using n3'

theorem matching (ss : List St) : W f_law25_RlogMatching 0 [.list (ss.map St.enc)] = some [.bool true] := by
  rw [e_f_law25_RlogMatching_0]
  by_cases c : ss.length ≤ 60
  · have c' : ¬ (60 : Int) < ss.length := by omega
    have h0 : Inv (fun _ => []) 0 [] := ⟨fun k e h => by simp at h, by simp, by simp, rfl⟩
    have := matching_1 ss c ss.length 0 [[], [], []] (fun _ => []) (by omega) rfl (by simp [h0])
    simp only [List.map_cons, List.map_nil, lenc] at this
    simp only [O.len_list, List.length_map, Option.bind_some, O.gt_int, c', decide_false, O.cnd_bool, Bool.false_eq_true, if_false, new, O.calls_3, O.mkagg_eq, O.mklist_eq]
    exact this
  · have c' : (60 : Int) < ss.length := by omega
    simp [c', lives]
end Go.CT.Rlog
