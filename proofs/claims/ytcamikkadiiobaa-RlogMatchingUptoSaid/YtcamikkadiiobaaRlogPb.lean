import Derived.Test.YtcamikkadiiobaaRlogPa
namespace Go.CT.Rlog
open Go.Proofs

theorem small_ (b bt : Int) (es : List E) (h : es.length ≤ 1048576) : W f_law25_small 0 [.agg [.int b, .int bt, .list (es.map E.enc)]] = some [.bool (decide (es.length ≤ 60) && valid ⟨b, bt, es⟩)] := by
  rw [e_f_law25_small_0]
  simp [ref_valid b bt es (by omega)]
  by_cases c : es.length ≤ 60
  · have : (es.length : Int) ≤ 60 := by omega
    simp [c, this]
  · have : ¬ (es.length : Int) ≤ 60 := by omega
    simp [c, this]

theorem hintF_bd (l : L) (t : Int) : ∀ k : Nat, l.b ≤ hintF l t k ∧ hintF l t k ≤ l.b + k
  | 0 => by simp [hintF]
  | k + 1 => by
    unfold hintF
    have := hintF_bd l t k
    split <;> omega

/-- The entries of the merged log. -/
theorem merge_get : ∀ (es out : List E) (a : Nat), a ≤ out.length → (∀ j, j < es.length → ∃ x e, (mergeF out a es)[a + j]? = some x ∧ es[j]? = some e ∧ x.t = e.t) ∧ (mergeF out a es).take a = out.take a
  | [], out, a, ha => ⟨fun j hj => by simp at hj, rfl⟩
  | e :: es, out, a, ha => by
    have app : (∀ j, j < (e :: es).length → ∃ x y, (out.take a ++ e :: es)[a + j]? = some x ∧ (e :: es)[j]? = some y ∧ x.t = y.t) ∧ (out.take a ++ e :: es).take a = out.take a := by
      have hl : (out.take a).length = a := by rw [List.length_take]; omega
      refine ⟨fun j hj => ⟨(e :: es)[j], (e :: es)[j], ?_, List.getElem?_eq_getElem hj, rfl⟩, ?_⟩
      · rw [List.getElem?_append_right (by omega), hl, Nat.add_sub_cancel_left]
        exact List.getElem?_eq_getElem hj
      · rw [List.take_append_of_le_length (by omega), List.take_of_length_le (by omega)]
    unfold mergeF
    cases hc : out[a]? with
    | none => exact app
    | some x =>
      have hlt := (List.getElem?_eq_some_iff.1 hc).1
      by_cases c : x.t = e.t
      · simp only [c, if_true]
        obtain ⟨i1, i2⟩ := merge_get es out (a + 1) (by omega)
        have h0 : (mergeF out (a + 1) es)[a]? = some x := by
          have : (mergeF out (a + 1) es)[a]? = ((mergeF out (a + 1) es).take (a + 1))[a]? := by rw [List.getElem?_take, if_pos (by omega)]
          rw [this, i2, List.getElem?_take, if_pos (by omega), hc]
        refine ⟨fun j hj => ?_, ?_⟩
        · cases j with
          | zero => exact ⟨x, e, h0, rfl, c⟩
          | succ j =>
            obtain ⟨y, z, h1, h2, h3⟩ := i1 j (by simpa using hj)
            exact ⟨y, z, by rw [← h1]; congr 1; omega, by simpa using h2, h3⟩
        · have := congrArg (List.take a) i2
          rwa [List.take_take, List.take_take, Nat.min_eq_left (by omega)] at this
      · simp only [c, if_false]
        exact app

theorem rep_2 (bs' bt' : IV) (us : List E) (a0 a1 : Int) (xs : List E) (n : Nat) (hn : n ≤ us.length) (hx : n ≤ xs.length) (hs : n ≤ 1048576) : ∀ (k i : Nat), i + k = n → (∀ j, i ≤ j → j < n → ∃ x e, xs[j]? = some x ∧ us[j]? = some e ∧ x.t = e.t) →
    W f_law25_RlogRepairs 2 [.int n, .int i, .agg [.int a0, .int a1, .list (us.map E.enc)], bs', bt', .list (xs.map E.enc)] = some [.bool true]
  | 0, i, h, hh => by
    rw [e_f_law25_RlogRepairs_2]
    have : ¬ (i : Int) < n := by omega
    simp [this, lives]
  | k + 1, i, h, hh => by
    rw [e_f_law25_RlogRepairs_2]
    obtain ⟨x, e, h1, h2, h3⟩ := hh i (Nat.le_refl _) (by omega)
    have ih := rep_2 bs' bt' us a0 a1 xs n hn hx hs k (i + 1) (by omega) (fun j a b => hh j (by omega) b)
    have hlt : (i : Int) < n := by omega
    have w : IntKind.i64.wrap ((i : Int) + 1) = ((i + 1 : Nat) : Int) := by rw [wrap64 (by omega) (by omega)]; rfl
    simp only [O.lt_int, hlt, decide_true, Option.bind_some, O.cnd_bool, if_true, O.index_list, Int.natCast_nonneg, Int.toNat_natCast, List.getElem?_map, h1, Option.map_some, E.enc, O.proj_agg, List.getElem?_cons_zero, List.getElem?_cons_succ, h2, O.ne_int, h3, Bool.not_true, Bool.false_eq_true, if_false, O.add_int, w, ih]

theorem rep_1 (us bs : List E) (ha : valid ⟨0, 0, us⟩ = true) (hb : valid ⟨0, 0, bs⟩ = true) (hal : us.length ≤ 60) (hbl : bs.length ≤ 60) : ∀ (n : Nat) (prev step : Nat), step + n = 61 → prev ≤ us.length → prev < n →
    W f_law25_RlogRepairs 1 [.int prev, .int step, .agg [.int 0, .int 0, .list (us.map E.enc)], .agg [.int 0, .int 0, .list (bs.map E.enc)]] = some [.bool true]
  | 0, _, _, _, _, h => by omega
  | n + 1, prev, step, h, hp, hlt => by
    rw [e_f_law25_RlogRepairs_1]
    have hta : tame ⟨0, 0, us⟩ := ⟨by simp, by simp, by simp only; omega⟩
    obtain ⟨hfa, hra⟩ := valid_inv ha
    obtain ⟨hfb, hrb⟩ := valid_inv hb
    have hs : (step : Int) ≤ 60 := by omega
    have w1 : IntKind.i64.wrap ((prev : Int) + 1) = prev + 1 := wrap64 (by omega) (by omega)
    have w2 : IntKind.i64.wrap ((step : Int) + 1) = ((step + 1 : Nat) : Int) := by rw [wrap64 (by omega) (by omega)]; rfl
    -- the term before, and the entries behind
    generalize ht : (termAt ⟨0, 0, us⟩ prev).getD 0 = t
    have htt : t = endT (us.take prev) 0 := by
      rw [← ht]
      unfold termAt
      by_cases c : prev = 0
      · subst c; simp [endT]
      · have hlt : prev - 1 < us.length := by omega
        have e1 : ((prev : Int) - 0).toNat - 1 = prev - 1 := by omega
        rw [if_neg (by simp; omega), if_neg (by simp), e1, List.getElem?_eq_getElem hlt]
        simp only [Option.map_some, Option.getD_some]
        refine (endT_get _ _ _ ?_).symm
        rw [List.length_take, Nat.min_eq_left (by omega), List.getElem?_take, if_pos (by omega)]
        exact List.getElem?_eq_getElem hlt
    have hfrom : fromI ⟨0, 0, us⟩ ((prev : Int) + 1) 100 = some (us.drop prev) := by
      unfold fromI
      simp only
      rw [if_neg (by omega)]
      have e1 : ((prev : Int) + 1 - 0).toNat - 1 = prev := by omega
      rw [e1, List.take_of_length_le (by rw [List.length_drop]; omega)]
    simp only [O.le_int, hs, decide_true, Option.bind_some, O.cnd_bool, if_true, prg_termAt 0 0 us prev hta, optI_getD, ht, O.calls_2, O.add_int, w1, prg_from 0 0 us _ 100 hta, hfrom, optE]
    rw [prg_append 0 0 bs prev t (us.drop prev) hfb ⟨by omega, by omega⟩ (by rw [List.length_drop]; omega)]
    simp only [O.calls_5, O.cnd_bool]
    -- what Append gives
    have hr1 : rises (us.take prev ++ us.drop prev) 1 = true := by rw [List.take_append_drop]; simpa using hra
    have hr2 : rises (us.drop prev) (endT (us.take prev) 1) = true := by
      rw [rises_append, Bool.and_eq_true] at hr1; exact hr1.2
    have hr3 : rises (us.drop prev) (if 1 < t then t else 1) = true := by
      refine rises_more hr2 ?_
      rw [htt]
      -- 0 or 1 at the beginning makes no difference but there
      have : ∀ xs : List E, rises xs 1 = true → (if 1 < endT xs 0 then endT xs 0 else 1) ≤ endT xs 1 := by
        intro xs
        cases xs with
        | nil => intro _; simp [endT]
        | cons x xs =>
          intro h
          show (if 1 < endT xs x.t then endT xs x.t else 1) ≤ endT xs x.t
          have h1 : 1 ≤ x.t := by
            unfold rises at h
            split at h
            · cases h
            · omega
          have : ∀ (ys : List E) (m : Int), rises ys m = true → m ≤ endT ys m := by
            intro ys
            induction ys with
            | nil => intro m _; simp [endT]
            | cons y ys ih =>
              intro m hm
              unfold rises at hm
              split at hm
              · cases hm
              · have := ih y.t hm; simp only [endT]; omega
          have h3 : rises xs x.t = true := by
            unfold rises at h
            split at h
            · cases h
            · exact h
          have h2 := this xs x.t h3
          by_cases c : 1 < endT xs x.t
          · rw [if_pos c]; exact Int.le_refl _
          · rw [if_neg c]; omega
      exact this _ (rises_take _ _ _ (by simpa using hra))
    have ht0 : 0 ≤ t := by
      rw [htt]
      have : ∀ (ys : List E) (m : Int), 0 ≤ m → rises ys m = true → 0 ≤ endT ys m := by
        intro ys
        induction ys with
        | nil => intro m h _; exact h
        | cons y ys ih =>
          intro m h hm
          unfold rises at hm
          split at hm
          · cases hm
          · exact ih y.t (by omega) hm
      exact this _ 0 (by omega) (rises_take _ _ _ (rises_more (by simpa using hra) (by omega)))
    have c0 : ¬ ((prev : Int) < 0 ∨ t < 0 ∨ rises (us.drop prev) (if 1 < t then t else 1) = false) := by
      rw [hr3]; simp; omega
    have c1 : ¬ okAll 0 ((us.drop prev).drop ((0 : Int) - prev).toNat) = false := by
      have e1 : ((0 : Int) - prev).toNat = 0 := by omega
      rw [e1, List.drop_zero]
      have := (rises_all _ _ 0 hr3).1 (rises_more hr3 (by split <;> omega))
      rw [this]; simp
    by_cases hf : fits ⟨0, 0, bs⟩ prev t
    · -- it fits
      have hap : appendF ⟨0, 0, bs⟩ prev t (us.drop prev) = ⟨⟨0, 0, (mergeF bs prev (us.drop prev)).take 400⟩, us.length, true⟩ := by
        unfold appendF
        rw [if_neg c0, if_neg c1, if_neg (by simpa using hf)]
        have e1 : ((0 : Int) - prev).toNat = 0 := by omega
        have e2 : ((prev : Int) - 0).toNat = prev := by omega
        have e3 : min ((prev : Int) + ((us.drop prev).length : Nat)) ((0 : Int) + 400) = us.length := by rw [List.length_drop]; omega
        simp only [e1, e2, e3, List.drop_zero]
      have hpb : prev ≤ bs.length := by
        by_cases c : prev = 0
        · omega
        · have := termAt_le (hf (by simp only; omega)); omega
      obtain ⟨g1, g2⟩ := merge_get (us.drop prev) bs prev hpb
      simp only [hap]
      have hget : ∀ j, j < us.length → prev ≤ j + 1 → ∃ x e, ((mergeF bs prev (us.drop prev)).take 400)[j]? = some x ∧ us[j]? = some e ∧ x.t = e.t := by
        intro j hj hpj
        by_cases c : prev ≤ j
        · obtain ⟨x, e, h1, h2, h3⟩ := g1 (j - prev) (by rw [List.length_drop]; omega)
          refine ⟨x, e, ?_, ?_, h3⟩
          · rw [List.getElem?_take, if_pos (by omega), ← h1]; congr 1; omega
          · rw [List.getElem?_drop] at h2; rw [← h2]; congr 1; omega
        · obtain rfl : prev = j + 1 := by omega
          have h1 := hf (by simp only; omega)
          unfold termAt at h1
          simp only at h1
          rw [if_neg (by omega), if_neg (by omega), Option.map_eq_some_iff] at h1
          obtain ⟨x, hx, hxt⟩ := h1
          have e1 : (((j + 1 : Nat) : Int) - 0).toNat - 1 = j := by omega
          rw [e1] at hx
          refine ⟨x, us[j], ?_, List.getElem?_eq_getElem hj, ?_⟩
          · rw [List.getElem?_take, if_pos (by omega)]
            have : (mergeF bs (j + 1) (us.drop (j + 1)))[j]? = ((mergeF bs (j + 1) (us.drop (j + 1))).take (j + 1))[j]? := by rw [List.getElem?_take, if_pos (by omega)]
            rw [this, g2, List.getElem?_take, if_pos (by omega), hx]
          · rw [hxt, htt]
            refine endT_get _ _ _ ?_
            rw [List.length_take, Nat.min_eq_left (by omega), List.getElem?_take, if_pos (by omega)]
            exact List.getElem?_eq_getElem hj
      have hlen : us.length ≤ ((mergeF bs prev (us.drop prev)).take 400).length := by
        by_cases c : us.length = 0
        · omega
        · obtain ⟨x, e, h1, _⟩ := hget (us.length - 1) (by omega) (by omega)
          have := (List.getElem?_eq_some_iff.1 h1).1
          omega
      have hl2 : ¬ (((mergeF bs prev (us.drop prev)).take 400).length : Int) < us.length := by omega
      have w3 : IntKind.i64.wrap ((prev : Int) - 1) = prev - 1 := wrap64 (by omega) (by omega)
      have e4 : (if (0 : Int) < (prev : Int) - 1 then (prev : Int) - 1 else 0) = ((prev - 1 : Nat) : Int) := by split <;> omega
      simp only [if_true, O.proj_agg, List.getElem?_cons_zero, List.getElem?_cons_succ, Option.bind_some, O.len_list, List.length_map, O.ne_int, decide_true, Bool.not_true, O.cnd_bool, Bool.false_eq_true, if_false, O.lt_int, hl2, decide_false, O.sub_int, w3, O.max_int, e4]
      exact rep_2 _ _ us 0 0 _ us.length (Nat.le_refl _) hlen (by omega) (us.length - (prev - 1)) (prev - 1) (by omega) (fun j h1 h2 => hget j h2 (by omega))
    · -- it does not fit
      have hp0 : 0 < prev := by
        by_cases c : prev = 0
        · exfalso; apply hf; intro hlt; simp only at hlt; omega
        · omega
      have hap : appendF ⟨0, 0, bs⟩ prev t (us.drop prev) = ⟨⟨0, 0, bs⟩, hint ⟨0, 0, bs⟩ prev t, false⟩ := by
        unfold appendF
        rw [if_neg c0, if_neg c1, if_pos hf]
      simp only [hap, Bool.false_eq_true, if_false]
      have hbd := hintF_bd ⟨0, 0, bs⟩ t (min ((prev : Int) - 1 - 0) bs.length).toNat
      have hh : hint ⟨0, 0, bs⟩ prev t = hintF ⟨0, 0, bs⟩ t (min ((prev : Int) - 1 - 0) bs.length).toNat := rfl
      rw [hh]
      generalize hintF ⟨0, 0, bs⟩ t (min ((prev : Int) - 1 - 0) bs.length).toNat = q at hbd
      simp only at hbd
      obtain ⟨m, rfl⟩ : ∃ m : Nat, q = m := ⟨q.toNat, by omega⟩
      have hm : m < prev := by omega
      have hsame := same 0 0 0 0 bs bs (by omega)
      have c3 : ¬ (m : Int) < 0 := by omega
      have c4 : ¬ (prev : Int) ≤ m := by omega
      have ih := rep_1 us bs ha hb hal hbl n m (step + 1) (by omega) (by omega) (by omega)
      simp only [O.lt_int, c3, decide_false, Option.bind_some, O.cnd_bool, Bool.false_eq_true, if_false, O.ge_int, c4, O.mkagg_eq, hsame, O.calls_1, decide_true, Bool.and_self, O.not_bool, Bool.not_true, w2, ih]

theorem repairs (b bt : Int) (us : List E) (b' bt' : Int) (bs : List E) (ha : us.length ≤ 1048576) (hb : bs.length ≤ 1048576) :
    W f_law25_RlogRepairs 0 [.agg [.int b, .int bt, .list (us.map E.enc)], .agg [.int b', .int bt', .list (bs.map E.enc)]] = some [.bool true] := by
  rw [e_f_law25_RlogRepairs_0]
  simp only [small_ b bt us ha, small_ b' bt' bs hb, O.calls_1, O.not_bool, Option.bind_some, O.cnd_bool, O.proj_agg, List.getElem?_cons_zero, O.ne_int, lives]
  by_cases c1 : (decide (us.length ≤ 60) && valid ⟨b, bt, us⟩) = true
  · by_cases c2 : (decide (bs.length ≤ 60) && valid ⟨b', bt', bs⟩) = true
    · by_cases c3 : b = 0
      · by_cases c4 : b' = 0
        · subst c3 c4
          rw [Bool.and_eq_true, decide_eq_true_iff] at c1 c2
          have h1 : bt = 0 := by have := (valid_inv c1.2).1.2.2.2.2.1; simpa using this
          have h2 : bt' = 0 := by have := (valid_inv c2.2).1.2.2.2.2.1; simpa using this
          subst h1 h2
          have hta : tame ⟨0, 0, us⟩ := ⟨by simp, by simp, by simp only; omega⟩
          have := rep_1 us bs c1.2 c2.2 c1.1 c2.1 61 us.length 0 (by omega) (by omega) (by omega)
          simp only [c1, c2, decide_true, Bool.and_self, Bool.not_true, Bool.false_eq_true, if_false, Option.bind_some, prg_last 0 0 us hta, O.calls_2, lastI, Int.zero_add]
          exact this
        · simp [c2, c3, c4]
      · simp [c1, c2, c3]
    · have : (decide (bs.length ≤ 60) && valid ⟨b', bt', bs⟩) = false := by simpa using c2
      simp [c1, this]
  · have : (decide (us.length ≤ 60) && valid ⟨b, bt, us⟩) = false := by simpa using c1
    simp [this]
end Go.CT.Rlog
