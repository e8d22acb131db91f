import Derived.Test.YtfhkcifopfheaaaGreatDoorCtC
import Derived.OpenShut
set_option linter.unusedVariables false
set_option linter.unusedSimpArgs false
namespace Go.CT.Srt
variable {β : Type} {enc : β → IV} {lt : β → β → Bool} {sz : Nat} {p : Bool}
theorem w1 {a : Int} (h : 0 ≤ a) (h2 : a ≤ 4611686018427387904) : IntKind.i64.wrap a = a := wrap64 (by omega) (by omega)
theorem calls1 {β : Type} {o : Option (List IV)} {x : IV} {f : IV → Option β} (h : o = some [x]) : calls o 1 f = f x := by rw [h]; rfl
theorem snoc_cases (l : List β) : l = [] ∨ ∃ a x, l = a ++ [x] := by
  rcases List.eq_nil_or_concat l with h | ⟨a, x, h⟩
  · exact .inl h
  · exact .inr ⟨a, x, by rw [h, List.concat_eq_append]⟩
theorem ins2 (E : Eqs enc lt sz p) (pre : List β) (x : β) (b i : Nat) (rest : List β) (hlen : i ≤ 1099511627776) : ∀ (n : Nat) (s1 s2 : List β), s1.length = n → pre.length + n ≤ 1099511627776 →
    ∃ t1 t2, s1 = t1 ++ t2 ∧ (∀ y ∈ t2, lt x y = true) ∧ (∀ t0 y, t1 = t0 ++ [y] → lt x y = false) ∧
      E.I 2 [.int pre.length, .int b, .int i, .int ((pre.length + s1.length : Nat) : Int), LE enc (pre ++ (s1 ++ x :: (s2 ++ rest)))] = E.I 1 [.int pre.length, .int b, .int ((i + 1 : Nat) : Int), LE enc (pre ++ (t1 ++ x :: (t2 ++ (s2 ++ rest))))]
  | 0, s1, s2, hn, hp => by
    have : s1 = [] := List.length_eq_zero_iff.1 hn
    subst this
    refine ⟨[], [], rfl, by simp, by simp, ?_⟩
    have hw : IntKind.i64.wrap ((i : Int) + 1) = ((i + 1 : Nat) : Int) := by rw [w1 (by omega) (by omega)]; rfl
    rw [E.i2]
    simp [hw]
  | n + 1, s1, s2, hn, hp => by
    have hne : s1 ≠ [] := fun e => by subst e; simp at hn
    obtain ⟨s0, y, rfl⟩ := (snoc_cases s1).resolve_left hne
    simp only [List.length_append, List.length_singleton] at hn
    have hw : IntKind.i64.wrap ((i : Int) + 1) = ((i + 1 : Nat) : Int) := by rw [w1 (by omega) (by omega)]; rfl
    have hw2 : IntKind.i64.wrap (((pre.length + (s0 ++ [y]).length : Nat) : Int) - 1) = ((pre.length + s0.length : Nat) : Int) := by
      rw [List.length_append, List.length_singleton, w1 (by omega) (by omega)]; omega
    have hgt : ((pre.length : Nat) : Int) < ((pre.length + (s0 ++ [y]).length : Nat) : Int) := by simp; omega
    obtain ⟨c, hc, hlt⟩ := E.cmp x y
    -- where they lie
    have d0 : pre ++ (s0 ++ [y] ++ x :: (s2 ++ rest)) = (pre ++ s0) ++ y :: (x :: (s2 ++ rest)) := by simp
    have d1 : pre ++ (s0 ++ [y] ++ x :: (s2 ++ rest)) = (pre ++ s0 ++ [y]) ++ x :: (s2 ++ rest) := by simp
    have gx := idx enc (get_mid' d1 (i := pre.length + (s0 ++ [y]).length) (by simp))
    have gy := idx enc (get_mid' d0 (i := pre.length + s0.length) (by simp))
    have st1 := set_mid' (y := y) d1 (i := pre.length + (s0 ++ [y]).length) (by simp)
    have d2 : (pre ++ s0 ++ [y]) ++ y :: (s2 ++ rest) = (pre ++ s0) ++ y :: (y :: (s2 ++ rest)) := by simp
    have st2 := set_mid' (y := x) d2 (i := pre.length + s0.length) (by simp)
    have gy2 := idx enc (get_mid' d2 (i := pre.length + s0.length) (by simp))
    rw [E.i2]
    cases hl : lt x y with
    | false =>
      refine ⟨s0 ++ [y], [], by simp, by simp, fun t0 z hz => by
        have := List.append_inj_right' hz rfl
        simp at this; subst this; exact hl, ?_⟩
      have hc0 : ¬ c < 0 := by rw [hl] at hlt; simpa using hlt
      simp only [O.gt_int, hgt, decide_true, Option.bind_some, O.cnd_bool, if_true, gx, O.sub_int, hw2, gy, calls1 hc, O.lt_int, hc0, decide_false, Bool.false_eq_true, if_false, O.add_int, hw, List.nil_append]
    | true =>
      obtain ⟨t1, t2, q1, q2, q3, q4⟩ := ins2 E pre x b i rest hlen n s0 (y :: s2) (by omega) (by omega)
      refine ⟨t1, t2 ++ [y], by rw [q1]; simp, fun z hz => by
        rcases List.mem_append.1 hz with h | h
        · exact q2 z h
        · simp at h; subst h; exact hl, q3, ?_⟩
      have hc0 : c < 0 := by rw [hl] at hlt; simpa using hlt
      have hi1 : pre.length + (s0 ++ [y]).length < (pre ++ (s0 ++ [y] ++ x :: (s2 ++ rest))).length := by simp
      have hi2 : pre.length + s0.length < ((pre ++ s0 ++ [y]) ++ y :: (s2 ++ rest)).length := by simp
      simp only [O.gt_int, hgt, decide_true, Option.bind_some, O.cnd_bool, if_true, gx, O.sub_int, hw2, gy, calls1 hc, O.lt_int, hc0, seti enc hi1, st1, gy2, seti enc hi2, st2]
      have e1 : pre ++ s0 ++ x :: y :: (s2 ++ rest) = pre ++ (s0 ++ x :: (y :: s2 ++ rest)) := by simp
      rw [e1, q4]
      simp
theorem ins1 (o : Ord lt) (E : Eqs enc lt sz p) (pre : List β) : ∀ (n : Nat) (s rest : List β), n ≤ rest.length → Sorted lt s → s ≠ [] → pre.length + s.length + rest.length ≤ 1099511627776 →
    ∃ s', Sorted lt s' ∧ Stab lt (s ++ rest.take n) s' ∧ E.I 1 [.int pre.length, .int ((pre.length + s.length + n : Nat) : Int), .int ((pre.length + s.length : Nat) : Int), LE enc (pre ++ (s ++ rest))] = some [LE enc (pre ++ (s' ++ rest.drop n))]
  | 0, s, rest, _, hs, hne, hb => by
    refine ⟨s, hs, by rw [List.take_zero, List.append_nil]; exact .refl _, ?_⟩
    rw [E.i1]
    simp
  | n + 1, s, [], h, _, _, _ => by simp at h
  | n + 1, s, x :: rest, h, hs, hne, hb => by
    simp only [List.length_cons] at h hb
    obtain ⟨t1, t2, q1, q2, q3, q4⟩ := ins2 E pre x (pre.length + s.length + (n + 1)) (pre.length + s.length) rest (by omega) s.length s [] rfl (by omega)
    rw [List.nil_append] at q4
    have hst : Stab lt (t1 ++ t2 ++ [x]) (t1 ++ x :: t2) := by
      rw [List.append_assoc]
      exact (Stab.refl t1).append (by
        have := Stab.swap (lt := lt) o (u := t2) (v := [x]) (fun z hz y hy => by simp at hy; subst hy; exact q2 z hz)
        simpa using this)
    have hso : Sorted lt (t1 ++ x :: t2) := by
      subst q1
      refine hs.left.append ?_ ?_
      · refine List.pairwise_cons.2 ⟨fun y hy => o.asymm (q2 y hy), hs.right⟩
      · have hle : ∀ z ∈ t1, lt x z = false := by
          rcases snoc_cases t1 with rfl | ⟨t0, z0, rfl⟩
          · simp
          · have h0 := q3 t0 z0 rfl
            intro z hz
            rcases List.mem_append.1 hz with hz | hz
            · have := (hs.left).cross z hz z0 (by simp)
              exact o.le_trans this h0
            · simp at hz; subst hz; exact h0
        intro z hz y hy
        rcases List.mem_cons.1 hy with rfl | hy
        · exact hle z hz
        · exact hs.cross z hz y hy
    have hlen' : pre.length + (t1 ++ x :: t2).length + rest.length ≤ 1099511627776 := by
      have : (t1 ++ x :: t2).length = s.length + 1 := by rw [q1]; simp; omega
      omega
    obtain ⟨s', r1, r2, r3⟩ := ins1 o E pre n (t1 ++ x :: t2) rest (by omega) hso (by simp) hlen'
    refine ⟨s', r1, ?_, ?_⟩
    · refine Stab.trans ?_ r2
      rw [List.take_succ_cons]
      have : s ++ x :: rest.take n = (t1 ++ t2 ++ [x]) ++ rest.take n := by rw [q1]; simp
      rw [this]
      exact hst.append (.refl _)
    · have hlen : (t1 ++ x :: t2).length = s.length + 1 := by rw [q1]; simp; omega
      rw [E.i1]
      have hlt : ((pre.length + s.length : Nat) : Int) < ((pre.length + s.length + (n + 1) : Nat) : Int) := by omega
      simp only [O.lt_int, hlt, decide_true, Option.bind_some, O.cnd_bool, if_true]
      rw [q4]
      rw [hlen] at r3
      have e1 : pre ++ (t1 ++ x :: (t2 ++ rest)) = pre ++ (t1 ++ x :: t2 ++ rest) := by simp
      have e2 : pre.length + (s.length + 1) + n = pre.length + s.length + (n + 1) := by omega
      have e3 : pre.length + (s.length + 1) = pre.length + s.length + 1 := by omega
      rw [e2, e3] at r3
      rw [e1, r3, List.drop_succ_cons]
theorem ins (o : Ord lt) (E : Eqs enc lt sz p) (pre s post : List β) (hb : pre.length + s.length + post.length ≤ 1099511627776) :
    ∃ s', Sorted lt s' ∧ Stab lt s s' ∧ E.I 0 [LE enc (pre ++ (s ++ post)), .int pre.length, .int ((pre.length + s.length : Nat) : Int)] = some [LE enc (pre ++ (s' ++ post))] := by
  have hw : IntKind.i64.wrap ((pre.length : Int) + 1) = ((pre.length + 1 : Nat) : Int) := by rw [w1 (by omega) (by omega)]; rfl
  cases s with
  | nil =>
    refine ⟨[], List.Pairwise.nil, .refl _, ?_⟩
    rw [E.i0]
    simp only [O.add_int, hw, Option.bind_some, List.length_nil, Nat.add_zero, E.i1, O.lt_int]
    have : ¬ ((pre.length + 1 : Nat) : Int) < pre.length := by omega
    simp [this]
    omega
  | cons x s =>
    simp only [List.length_cons] at hb
    obtain ⟨s', r1, r2, r3⟩ := ins1 o E pre s.length [x] (s ++ post) (by simp) (List.pairwise_singleton _ _) (by simp) (by simp; omega)
    rw [List.take_append_of_le_length (Nat.le_refl _), List.take_length] at r2
    rw [List.drop_append_of_le_length (Nat.le_refl _), List.drop_length, List.nil_append] at r3
    refine ⟨s', r1, r2, ?_⟩
    rw [E.i0]
    simp only [O.add_int, hw, Option.bind_some]
    simp only [List.length_singleton, List.cons_append, List.nil_append] at r3
    have e1 : pre.length + (x :: s).length = pre.length + 1 + s.length := by simp; omega
    rw [e1]
    exact r3
theorem swp1 (E : Eqs enc lt sz p) (P M Q : List β) : ∀ (k : Nat) (X1 X2 Y1 Y2 : List β), X1.length = Y1.length → X2.length = k → Y2.length = k → P.length + X1.length + X2.length + M.length + Y1.length + Y2.length + Q.length ≤ 1099511627776 →
    E.X 1 [.int P.length, .int ((P.length + X1.length + X2.length + M.length : Nat) : Int), .int ((X1.length + X2.length : Nat) : Int), .int X1.length, LE enc (P ++ (Y1 ++ (X2 ++ (M ++ (X1 ++ (Y2 ++ Q))))))] = some [LE enc (P ++ (Y1 ++ (Y2 ++ (M ++ (X1 ++ (X2 ++ Q))))))]
  | 0, X1, X2, Y1, Y2, h1, h2, h3, hb => by
    have e1 : X2 = [] := List.length_eq_zero_iff.1 h2
    have e2 : Y2 = [] := List.length_eq_zero_iff.1 h3
    subst e1 e2
    rw [E.x1]
    simp
  | k + 1, X1, [], Y1, Y2, h1, h2, h3, hb => by simp at h2
  | k + 1, X1, _ :: _, Y1, [], h1, h2, h3, hb => by simp at h3
  | k + 1, X1, x :: X2, Y1, y :: Y2, h1, h2, h3, hb => by
    simp only [List.length_cons] at h2 h3 hb
    have ih := swp1 E P M Q k (X1 ++ [x]) X2 (Y1 ++ [y]) Y2 (by simp [h1]) (by omega) (by omega) (by simp; omega)
    have hlt : (X1.length : Int) < ((X1.length + (x :: X2).length : Nat) : Int) := by simp; omega
    have hw1 : IntKind.i64.wrap ((P.length : Int) + X1.length) = ((P.length + X1.length : Nat) : Int) := by rw [w1 (by omega) (by omega)]; rfl
    have hw2 : IntKind.i64.wrap (((P.length + X1.length + (x :: X2).length + M.length : Nat) : Int) + X1.length) = ((P.length + X1.length + (x :: X2).length + M.length + X1.length : Nat) : Int) := by
      rw [w1 (by omega) (by simp only [List.length_cons]; omega)]; rfl
    have hw3 : IntKind.i64.wrap ((X1.length : Int) + 1) = (((X1 ++ [x]).length : Nat) : Int) := by rw [w1 (by omega) (by omega)]; simp
    have d1 : P ++ (Y1 ++ (x :: X2 ++ (M ++ (X1 ++ (y :: Y2 ++ Q))))) = (P ++ Y1) ++ x :: (X2 ++ (M ++ (X1 ++ (y :: Y2 ++ Q)))) := by simp
    have d2 : P ++ (Y1 ++ (x :: X2 ++ (M ++ (X1 ++ (y :: Y2 ++ Q))))) = (P ++ Y1 ++ x :: X2 ++ M ++ X1) ++ y :: (Y2 ++ Q) := by simp
    have gx := idx enc (get_mid' d1 (i := P.length + X1.length) (by simp [h1]))
    have gy := idx enc (get_mid' d2 (i := P.length + X1.length + (x :: X2).length + M.length + X1.length) (by simp [h1]; omega))
    have st1 := set_mid' (y := y) d1 (i := P.length + X1.length) (by simp [h1])
    have d3 : (P ++ Y1) ++ y :: (X2 ++ (M ++ (X1 ++ (y :: Y2 ++ Q)))) = (P ++ Y1 ++ y :: X2 ++ M ++ X1) ++ y :: (Y2 ++ Q) := by simp
    have gy3 := idx enc (get_mid' d3 (i := P.length + X1.length + (x :: X2).length + M.length + X1.length) (by simp [h1]; omega))
    have st2 := set_mid' (y := x) d3 (i := P.length + X1.length + (x :: X2).length + M.length + X1.length) (by simp [h1]; omega)
    have hi1 : P.length + X1.length < (P ++ (Y1 ++ (x :: X2 ++ (M ++ (X1 ++ (y :: Y2 ++ Q)))))).length := by simp; omega
    have hi2 : P.length + X1.length + (x :: X2).length + M.length + X1.length < ((P ++ Y1) ++ y :: (X2 ++ (M ++ (X1 ++ (y :: Y2 ++ Q))))).length := by simp; omega
    rw [E.x1]
    simp only [O.lt_int, hlt, decide_true, Option.bind_some, O.cnd_bool, if_true, O.add_int, hw1, hw2, hw3, gx, gy, seti enc hi1, st1, gy3, seti enc hi2, st2]
    have e1 : (P ++ Y1 ++ y :: X2 ++ M ++ X1) ++ x :: (Y2 ++ Q) = P ++ (Y1 ++ [y] ++ (X2 ++ (M ++ (X1 ++ [x] ++ (Y2 ++ Q))))) := by simp
    have e2 : P.length + X1.length + (x :: X2).length + M.length = P.length + (X1 ++ [x]).length + X2.length + M.length := by simp; omega
    have e3 : X1.length + (x :: X2).length = (X1 ++ [x]).length + X2.length := by simp; omega
    rw [e1, e2, e3, ih]
    simp
theorem swp (E : Eqs enc lt sz p) (P X M Y Q : List β) (h : X.length = Y.length) (hb : P.length + X.length + M.length + Y.length + Q.length ≤ 1099511627776) :
    E.X 0 [LE enc (P ++ (X ++ (M ++ (Y ++ Q)))), .int P.length, .int ((P.length + X.length + M.length : Nat) : Int), .int X.length] = some [LE enc (P ++ (Y ++ (M ++ (X ++ Q))))] := by
  rw [E.x0]
  have := swp1 E P M Q X.length [] X [] Y rfl rfl h.symm (by simp; omega)
  simpa using this
theorem rot1 (E : Eqs enc lt sz p) : ∀ (n : Nat) (P U V Q : List β), U.length + V.length ≤ n → U ≠ [] → V ≠ [] → P.length + U.length + V.length + Q.length ≤ 1099511627776 →
    E.R 1 [.int ((P.length + U.length : Nat) : Int), .int U.length, .int V.length, LE enc (P ++ (U ++ (V ++ Q)))] = some [LE enc (P ++ (V ++ (U ++ Q)))]
  | 0, P, U, V, Q, h, hu, _, _ => by
    have := List.length_pos_iff.2 hu; omega
  | n + 1, P, U, V, Q, h, hu, hv, hb => by
    have hu' := List.length_pos_iff.2 hu
    have hv' := List.length_pos_iff.2 hv
    have hw1 : IntKind.i64.wrap (((P.length + U.length : Nat) : Int) - U.length) = P.length := by rw [w1 (by omega) (by omega)]; omega
    rw [E.r1]
    by_cases c1 : U.length = V.length
    · have := swp E P U [] V Q c1 (by simp; omega)
      simp only [List.nil_append, List.length_nil, Nat.add_zero] at this
      have c1' : (U.length : Int) = V.length := by omega
      simp only [O.ne_int, c1', decide_true, Bool.not_true, Option.bind_some, O.cnd_bool, Bool.false_eq_true, if_false]
      rw [← c1']
      simp only [O.sub_int, hw1, Option.bind_some, calls1 this]
    · have c1' : ¬ (U.length : Int) = V.length := by omega
      by_cases c2 : V.length < U.length
      · have c2' : (V.length : Int) < U.length := by omega
        have hU : U = U.take V.length ++ U.drop V.length := (List.take_append_drop _ _).symm
        have hl1 : (U.take V.length).length = V.length := by rw [List.length_take]; omega
        have hl2 : (U.drop V.length).length = U.length - V.length := by rw [List.length_drop]
        generalize U.take V.length = U1 at *
        generalize U.drop V.length = U2 at *
        have s1 := swp E P U1 U2 V Q hl1 (by omega)
        have hw2 : IntKind.i64.wrap ((U.length : Int) - V.length) = U2.length := by rw [w1 (by omega) (by omega)]; omega
        have e0 : P ++ (U ++ (V ++ Q)) = P ++ (U1 ++ (U2 ++ (V ++ Q))) := by rw [hU]; simp
        have e1 : P.length + U.length = P.length + U1.length + U2.length := by omega
        have ih := rot1 E n (P ++ V) U2 U1 Q (by omega) (by intro e; subst e; simp at hl2; omega) (by intro e; subst e; simp at hl1; omega) (by simp; omega)
        have s1' : E.X 0 [LE enc (P ++ (U ++ (V ++ Q))), .int P.length, .int ((P.length + U.length : Nat) : Int), .int V.length] = some [LE enc (P ++ (V ++ (U2 ++ (U1 ++ Q))))] := by
          rw [e0, e1, ← hl1]; exact s1
        simp only [O.ne_int, c1', decide_false, Bool.not_false, Option.bind_some, O.cnd_bool, if_true, O.gt_int, c2', decide_true, O.sub_int, hw1, calls1 s1', hw2, E.r2]
        have e2 : ((P ++ V).length + U2.length) = P.length + U.length := by simp; omega
        have e3 : (P ++ V) ++ (U2 ++ (U1 ++ Q)) = P ++ (V ++ (U2 ++ (U1 ++ Q))) := by simp
        rw [e2, e3, hl1] at ih
        rw [ih, hU]; simp
      · have c2' : ¬ (V.length : Int) < U.length := by omega
        have hV : V = V.take (V.length - U.length) ++ V.drop (V.length - U.length) := (List.take_append_drop _ _).symm
        have hl1 : (V.take (V.length - U.length)).length = V.length - U.length := by rw [List.length_take]; omega
        have hl2 : (V.drop (V.length - U.length)).length = U.length := by rw [List.length_drop]; omega
        generalize V.take (V.length - U.length) = V1 at *
        generalize V.drop (V.length - U.length) = V2 at *
        have s1 := swp E P U V1 V2 Q hl2.symm (by omega)
        have hw2 : IntKind.i64.wrap (((P.length + U.length : Nat) : Int) + V.length) = ((P.length + U.length + V.length : Nat) : Int) := by rw [w1 (by omega) (by omega)]; rfl
        have hw3 : IntKind.i64.wrap (((P.length + U.length + V.length : Nat) : Int) - U.length) = ((P.length + U.length + V1.length : Nat) : Int) := by rw [w1 (by omega) (by omega)]; omega
        have hw4 : IntKind.i64.wrap ((V.length : Int) - U.length) = V1.length := by rw [w1 (by omega) (by omega)]; omega
        have ih := rot1 E n P V2 V1 (U ++ Q) (by omega) (by intro e; subst e; simp at hl2; omega) (by intro e; subst e; simp at hl1; omega) (by simp; omega)
        have s1' : E.X 0 [LE enc (P ++ (U ++ (V ++ Q))), .int P.length, .int ((P.length + U.length + V1.length : Nat) : Int), .int U.length] = some [LE enc (P ++ (V2 ++ (V1 ++ (U ++ Q))))] := by
          rw [show P ++ (U ++ (V ++ Q)) = P ++ (U ++ (V1 ++ (V2 ++ Q))) by rw [hV]; simp]; exact s1
        simp only [O.ne_int, c1', decide_false, Bool.not_false, Option.bind_some, O.cnd_bool, if_true, O.gt_int, c2', Bool.false_eq_true, if_false, O.sub_int, hw1, O.add_int, hw2, hw3, calls1 s1', hw4, E.r2]
        rw [hl2] at ih
        rw [ih, hV]; simp
theorem rot (E : Eqs enc lt sz p) (P U V Q : List β) (hu : U ≠ []) (hv : V ≠ []) (hb : P.length + U.length + V.length + Q.length ≤ 1099511627776) :
    E.R 0 [LE enc (P ++ (U ++ (V ++ Q))), .int P.length, .int ((P.length + U.length : Nat) : Int), .int ((P.length + U.length + V.length : Nat) : Int)] = some [LE enc (P ++ (V ++ (U ++ Q)))] := by
  have hw1 : IntKind.i64.wrap (((P.length + U.length : Nat) : Int) - P.length) = U.length := by rw [w1 (by omega) (by omega)]; omega
  have hw2 : IntKind.i64.wrap (((P.length + U.length + V.length : Nat) : Int) - ((P.length + U.length : Nat) : Int)) = V.length := by rw [w1 (by omega) (by omega)]; omega
  rw [E.r0]
  simp only [O.sub_int, hw1, hw2, Option.bind_some]
  exact rot1 E _ P U V Q (Nat.le_refl _) hu hv hb
end Go.CT.Srt
namespace Go.CT.Srt
variable {β : Type} {enc : β → IV} {lt : β → β → Bool} {sz : Nat} {p : Bool}
theorem mid {α : Type} (x y : Nat) (hx : x + y ≤ 4398046511104) (f : IV → Option α) :
    ((O.add .i64 (.int x) (.int y)).bind fun x5 => (O.conv .u64 x5).bind fun x6 => (Prim.ev (.shift .shr .u64) [x6, (.int 1)]).bind fun x7 => (O.conv .i64 x7).bind f) = f (.int (((x + y) / 2 : Nat) : Int)) := by
  have h1 : IntKind.i64.wrap ((x : Int) + y) = ((x + y : Nat) : Int) := by rw [w1 (by omega) (by omega)]; rfl
  have h2 : IntKind.u64.wrap ((x + y : Nat) : Int) = ((x + y : Nat) : Int) := by
    have : (((x + y : Nat) : Int)) % 18446744073709551616 = ((x + y : Nat) : Int) := Int.emod_eq_of_lt (by omega) (by omega)
    exact this
  have h3 : Prim.ev (.shift .shr .u64) [.int ((x + y : Nat) : Int), (.int 1)] = some (.int (((x + y) / 2 : Nat) : Int)) := by
    have : (((x + y : Nat) : Int)).fdiv 2 = (((x + y) / 2 : Nat) : Int) := by
      rw [Int.fdiv_eq_ediv_of_nonneg _ (by omega)]; omega
    show some (IV.int ((((x + y : Nat) : Int)).fdiv 2)) = _
    rw [this]
  have h4 : IntKind.i64.wrap (((x + y) / 2 : Nat) : Int) = (((x + y) / 2 : Nat) : Int) := w1 (by omega) (by omega)
  simp only [O.add_int, h1, Option.bind_some, O.conv_int, h2, h3, h4]
theorem bs {α : Type} (F : Nat → Nat → α) (Q : Nat → Bool) (lo hi : Nat) (hs : ∀ i j, lo ≤ i → i < j → j ≤ hi → F i j = if Q ((i + j) / 2) = true then F ((i + j) / 2 + 1) j else F i ((i + j) / 2)) :
    ∀ (n i j : Nat), j - i ≤ n → lo ≤ i → i ≤ j → j ≤ hi → (i = lo ∨ Q (i - 1) = true) → (j = hi ∨ Q j = false) → ∃ k, lo ≤ k ∧ k ≤ hi ∧ F i j = F k k ∧ (k = lo ∨ Q (k - 1) = true) ∧ (k = hi ∨ Q k = false)
  | 0, i, j, hn, h1, h2, h3, q1, q2 => by
    have : i = j := by omega
    subst this
    exact ⟨i, h1, h3, rfl, q1, q2⟩
  | n + 1, i, j, hn, h1, h2, h3, q1, q2 => by
    by_cases e : i = j
    · subst e; exact ⟨i, h1, h3, rfl, q1, q2⟩
    rw [hs i j h1 (by omega) h3]
    by_cases hq : Q ((i + j) / 2) = true
    · rw [if_pos hq]
      exact bs F Q lo hi hs n _ _ (by omega) (by omega) (by omega) h3 (.inr (by rw [Nat.add_sub_cancel]; exact hq)) q2
    · rw [if_neg hq]
      exact bs F Q lo hi hs n _ _ (by omega) h1 (by omega) (by omega) q1 (.inr (by simpa using hq))
theorem getd {l : List β} {i : Nat} (d : β) (h : i < l.length) : l[i]? = some (l.getD i d) := by
  simp [List.getD, h]
theorem sh5 (E : Eqs enc lt sz p) (x : β) (R : List β) (i : Nat) : ∀ (B1 pre : List β), i = pre.length + 1 + B1.length → i ≤ 1099511627776 →
    E.M 5 [.int i, .int pre.length, LE enc (pre ++ (x :: (B1 ++ R)))] = some [LE enc (pre ++ (B1 ++ (x :: R)))]
  | [], pre, hi, hb => by
    rw [E.m5]
    have hw : IntKind.i64.wrap ((i : Int) - 1) = ((pre.length : Nat) : Int) := by rw [w1 (by omega) (by omega)]; simp at hi; omega
    simp [hw]
  | y :: B1, pre, hi, hb => by
    simp only [List.length_cons] at hi
    have hw : IntKind.i64.wrap ((i : Int) - 1) = ((i - 1 : Nat) : Int) := by rw [w1 (by omega) (by omega)]; omega
    have hlt : ((pre.length : Nat) : Int) < ((i - 1 : Nat) : Int) := by omega
    have hw2 : IntKind.i64.wrap ((pre.length : Int) + 1) = ((pre.length + 1 : Nat) : Int) := by rw [w1 (by omega) (by omega)]; rfl
    have d1 : pre ++ (x :: (y :: B1 ++ R)) = (pre ++ [x]) ++ y :: (B1 ++ R) := by simp
    have gx := idx enc (get_mid' (l := pre ++ (x :: (y :: B1 ++ R))) rfl (i := pre.length) rfl)
    have gy := idx enc (get_mid' d1 (i := pre.length + 1) (by simp))
    have st1 := set_mid' (l := pre ++ (x :: (y :: B1 ++ R))) (y := y) rfl (i := pre.length) rfl
    have d2 : pre ++ (y :: (y :: B1 ++ R)) = (pre ++ [y]) ++ y :: (B1 ++ R) := by simp
    have gy2 := idx enc (get_mid' d2 (i := pre.length + 1) (by simp))
    have st2 := set_mid' (y := x) d2 (i := pre.length + 1) (by simp)
    have hi1 : pre.length < (pre ++ (x :: (y :: B1 ++ R))).length := by simp
    have hi2 : pre.length + 1 < (pre ++ (y :: (y :: B1 ++ R))).length := by simp
    have ih := sh5 E x R i B1 (pre ++ [y]) (by simp; omega) hb
    rw [E.m5]
    simp only [O.sub_int, hw, Option.bind_some, O.lt_int, hlt, decide_true, O.cnd_bool, if_true, O.add_int, hw2, gx, gy, seti enc hi1, st1, gy2, seti enc hi2, st2]
    rw [show (((pre.length + 1 : Nat)) : Int) = ((pre ++ [y]).length : Nat) by simp, show pre ++ [y] ++ x :: (B1 ++ R) = (pre ++ [y]) ++ (x :: (B1 ++ R)) from rfl, ih]
    simp
theorem sh7 (E : Eqs enc lt sz p) (pre : List β) (x : β) : ∀ (n : Nat) (A2 R : List β), A2.length = n → pre.length + n + 1 ≤ 1099511627776 →
    E.M 7 [.int pre.length, .int ((pre.length + A2.length : Nat) : Int), LE enc (pre ++ (A2 ++ (x :: R)))] = some [LE enc (pre ++ (x :: (A2 ++ R)))]
  | 0, A2, R, h, hb => by
    have : A2 = [] := List.length_eq_zero_iff.1 h
    subst this
    rw [E.m7]
    simp
  | n + 1, A2, R, h, hb => by
    rcases snoc_cases A2 with rfl | ⟨A0, y, rfl⟩
    · simp at h
    have hn : A0.length = n := by simpa using h
    have hgt : ((pre.length : Nat) : Int) < ((pre.length + (A0 ++ [y]).length : Nat) : Int) := by simp; omega
    have hw : IntKind.i64.wrap (((pre.length + (A0 ++ [y]).length : Nat) : Int) - 1) = ((pre.length + A0.length : Nat) : Int) := by
      rw [List.length_append, List.length_singleton, w1 (by omega) (by omega)]; omega
    have d0 : pre ++ (A0 ++ [y] ++ (x :: R)) = (pre ++ A0) ++ y :: (x :: R) := by simp
    have d1 : pre ++ (A0 ++ [y] ++ (x :: R)) = (pre ++ A0 ++ [y]) ++ x :: R := by simp
    have gx := idx enc (get_mid' d1 (i := pre.length + (A0 ++ [y]).length) (by simp))
    have gy := idx enc (get_mid' d0 (i := pre.length + A0.length) (by simp))
    have st1 := set_mid' (y := y) d1 (i := pre.length + (A0 ++ [y]).length) (by simp)
    have d2 : (pre ++ A0 ++ [y]) ++ y :: R = (pre ++ A0) ++ y :: (y :: R) := by simp
    have gy2 := idx enc (get_mid' d2 (i := pre.length + A0.length) (by simp))
    have st2 := set_mid' (y := x) d2 (i := pre.length + A0.length) (by simp)
    have hi1 : pre.length + (A0 ++ [y]).length < (pre ++ (A0 ++ [y] ++ (x :: R))).length := by simp
    have hi2 : pre.length + A0.length < ((pre ++ A0 ++ [y]) ++ y :: R).length := by simp
    have ih := sh7 E pre x n A0 (y :: R) hn (by omega)
    rw [E.m7]
    simp only [O.gt_int, hgt, decide_true, Option.bind_some, O.cnd_bool, if_true, O.sub_int, hw, gx, gy, seti enc hi1, st1, gy2, seti enc hi2, st2]
    rw [show pre ++ A0 ++ x :: y :: R = pre ++ (A0 ++ (x :: y :: R)) by simp, ih]
    simp
theorem cut {q : β → Bool} {B : List β} (hq : B.Pairwise fun y z => q z = true → q y = true) (d : β) {k : Nat} (hk : k ≤ B.length) (h1 : k = 0 ∨ q (B.getD (k - 1) d) = true) (h2 : k = B.length ∨ q (B.getD k d) = false) :
    (∀ y ∈ B.take k, q y = true) ∧ (∀ y ∈ B.drop k, q y = false) := by
  have hB := (List.take_append_drop k B).symm
  have hl1 : (B.take k).length = k := by rw [List.length_take]; omega
  have hl2 : (B.drop k).length = B.length - k := by rw [List.length_drop]
  generalize B.take k = B1 at *
  generalize B.drop k = B2 at *
  subst hB
  rw [List.pairwise_append] at hq
  constructor
  · rcases snoc_cases B1 with rfl | ⟨B0, z, rfl⟩
    · simp
    · have e : (B0 ++ [z] ++ B2).getD (k - 1) d = z := by
        have := get_mid' (l := B0 ++ [z] ++ B2) (A := B0) (x := z) (B := B2) (by simp) (i := k - 1) (by simp at hl1; omega)
        rw [List.getD, this]; rfl
      rw [e] at h1
      have hz : q z = true := by
        rcases h1 with h | h
        · simp at hl1; omega
        · exact h
      intro y hy
      rcases List.mem_append.1 hy with h | h
      · exact (List.pairwise_append.1 hq.1).2.2 y h z (by simp) hz
      · simp at h; subst h; exact hz
  · cases B2 with
    | nil => simp
    | cons z B3 =>
      have e : (B1 ++ z :: B3).getD k d = z := by
        have := get_mid' (l := B1 ++ z :: B3) rfl (i := k) (by omega)
        rw [List.getD, this]; rfl
      rw [e] at h2
      have hz : q z = false := by
        rcases h2 with h | h
        · simp at h hl1 hl2; omega
        · exact h
      intro y hy
      cases hc : q y with
      | false => rfl
      | true =>
        rcases List.mem_cons.1 hy with rfl | h
        · rw [hz] at hc; exact hc.symm
        · have := (List.pairwise_cons.1 hq.2.1).1 y h hc
          rw [hz] at this; exact this.symm
theorem gd_mid (pre B post : List β) (d : β) {i : Nat} (h : i < B.length) : (pre ++ (B ++ post)).getD (pre.length + i) d = B.getD i d := by
  have : ¬ pre.length + i < pre.length := by omega
  simp [List.getD, List.getElem?_append, h, this]
theorem cutLt (o : Ord lt) {B : List β} (h : Sorted lt B) (x : β) : B.Pairwise fun y z => lt z x = true → lt y x = true :=
  h.imp fun {y z} hyz hz => by
    rcases o.neg z y x hz with h | h
    · rw [hyz] at h; cases h
    · exact h
theorem cutGe (o : Ord lt) {B : List β} (h : Sorted lt B) (x : β) : B.Pairwise fun y z => (!lt x z) = true → (!lt x y) = true :=
  h.imp fun {y z} hyz hz => by
    simp only [Bool.not_eq_true'] at hz ⊢
    exact o.le_trans hyz hz
theorem mrg1 (o : Ord lt) (E : Eqs enc lt sz p) (pre : List β) (x : β) (B post : List β) (hB : Sorted lt B) (hb : pre.length + 1 + B.length + post.length ≤ 1099511627776) :
    ∃ C, Sorted lt C ∧ Stab lt (x :: B) C ∧ E.M 1 [.int pre.length, .int ((pre.length + 1 : Nat) : Int), .int ((pre.length + 1 + B.length : Nat) : Int), LE enc (pre ++ (x :: (B ++ post)))] = some [LE enc (pre ++ (C ++ post))] := by
  have hx := idx enc (get_mid' (l := pre ++ (x :: (B ++ post))) rfl (i := pre.length) rfl)
  have hdat : pre ++ (x :: (B ++ post)) = (pre ++ [x]) ++ (B ++ post) := by simp
  obtain ⟨k, k1, k2, k3, k4, k5⟩ := bs (F := fun i j => E.M 1 [.int pre.length, .int i, .int j, LE enc (pre ++ (x :: (B ++ post)))]) (Q := fun c => lt ((pre ++ (x :: (B ++ post))).getD c x) x) (pre.length + 1) (pre.length + 1 + B.length) (by
    intro i j h1 h2 h3
    obtain ⟨c, hc, hlt⟩ := E.cmp ((pre ++ (x :: (B ++ post))).getD ((i + j) / 2) x) x
    have gi := idx enc (getd (l := pre ++ (x :: (B ++ post))) x (i := (i + j) / 2) (by simp; omega))
    have h2' : (i : Int) < j := by omega
    have hw : IntKind.i64.wrap ((((i + j) / 2 : Nat) : Int) + 1) = (((i + j) / 2 + 1 : Nat) : Int) := by rw [w1 (by omega) (by omega)]; rfl
    rw [E.m1 (.int pre.length) (.int i) (.int j)]
    simp only [O.lt_int, h2', decide_true, Option.bind_some, O.cnd_bool, if_true]
    rw [mid i j (by omega)]
    simp only [gi, hx, Option.bind_some, calls1 hc, O.lt_int, O.cnd_bool, hlt, O.add_int, hw, E.m4]) B.length _ _ (by omega) (Nat.le_refl _) (by omega) (Nat.le_refl _) (.inl rfl) (.inl rfl)
  rw [k3, E.m1]
  simp only [O.lt_int, Int.lt_irrefl, decide_false, Option.bind_some, O.cnd_bool, Bool.false_eq_true, if_false]
  have key := cut (cutLt o hB x) x (k := k - (pre.length + 1)) (by omega) (by
    rcases k4 with h | h
    · left; omega
    · by_cases e : k = pre.length + 1
      · left; omega
      right
      rw [← gd_mid (pre ++ [x]) B post x (i := k - (pre.length + 1) - 1) (by omega), ← hdat, show (pre ++ [x]).length + (k - (pre.length + 1) - 1) = k - 1 by simp; omega]
      exact h) (by
    rcases k5 with h | h
    · left; omega
    · by_cases e : k = pre.length + 1 + B.length
      · left; omega
      right
      rw [← gd_mid (pre ++ [x]) B post x (i := k - (pre.length + 1)) (by omega), ← hdat, show (pre ++ [x]).length + (k - (pre.length + 1)) = k by simp; omega]
      exact h)
  have hBs := (List.take_append_drop (k - (pre.length + 1)) B).symm
  have hl1 : (B.take (k - (pre.length + 1))).length = k - (pre.length + 1) := by rw [List.length_take]; omega
  generalize B.take (k - (pre.length + 1)) = B1 at *
  generalize B.drop (k - (pre.length + 1)) = B2 at *
  subst hBs
  refine ⟨B1 ++ x :: B2, ?_, ?_, ?_⟩
  · refine hB.left.append (List.pairwise_cons.2 ⟨fun y hy => key.2 y hy, hB.right⟩) ?_
    intro y hy z hz
    rcases List.mem_cons.1 hz with rfl | hz
    · exact o.asymm (key.1 y hy)
    · exact hB.cross y hy z hz
  · have := (Stab.swap o (u := [x]) (v := B1) (fun a ha y hy => by simp at ha; subst ha; exact key.1 y hy)).append (Stab.refl (lt := lt) B2)
    simpa using this
  · have := sh5 E x (B2 ++ post) k B1 pre (by omega) (by omega)
    simpa using this
theorem mrg2 (o : Ord lt) (E : Eqs enc lt sz p) (pre : List β) (x : β) (A post : List β) (hA : Sorted lt A) (hb : pre.length + A.length + 1 + post.length ≤ 1099511627776) :
    ∃ C, Sorted lt C ∧ Stab lt (A ++ [x]) C ∧ E.M 2 [.int ((pre.length + A.length : Nat) : Int), .int pre.length, .int ((pre.length + A.length : Nat) : Int), LE enc (pre ++ (A ++ (x :: post)))] = some [LE enc (pre ++ (C ++ post))] := by
  have hx := idx enc (get_mid' (l := pre ++ (A ++ (x :: post))) (A := pre ++ A) (x := x) (B := post) (by simp) (i := pre.length + A.length) (by simp))
  obtain ⟨k, k1, k2, k3, k4, k5⟩ := bs (F := fun i j => E.M 2 [.int ((pre.length + A.length : Nat) : Int), .int i, .int j, LE enc (pre ++ (A ++ (x :: post)))]) (Q := fun c => !lt x ((pre ++ (A ++ (x :: post))).getD c x)) pre.length (pre.length + A.length) (by
    intro i j h1 h2 h3
    obtain ⟨c, hc, hlt⟩ := E.cmp x ((pre ++ (A ++ (x :: post))).getD ((i + j) / 2) x)
    have gi := idx enc (getd (l := pre ++ (A ++ (x :: post))) x (i := (i + j) / 2) (by simp; omega))
    have h2' : (i : Int) < j := by omega
    have hw : IntKind.i64.wrap ((((i + j) / 2 : Nat) : Int) + 1) = (((i + j) / 2 + 1 : Nat) : Int) := by rw [w1 (by omega) (by omega)]; rfl
    rw [E.m2 (.int ((pre.length + A.length : Nat) : Int)) (.int i) (.int j)]
    simp only [O.lt_int, h2', decide_true, Option.bind_some, O.cnd_bool, if_true]
    rw [mid i j (by omega)]
    simp only [gi, hx, Option.bind_some, calls1 hc, O.lt_int, O.cnd_bool, hlt, O.not_bool, O.add_int, hw, E.m6]) A.length _ _ (by omega) (Nat.le_refl _) (by omega) (Nat.le_refl _) (.inl rfl) (.inl rfl)
  rw [k3, E.m2]
  simp only [O.lt_int, Int.lt_irrefl, decide_false, Option.bind_some, O.cnd_bool, Bool.false_eq_true, if_false]
  have key := cut (cutGe o hA x) x (k := k - pre.length) (by omega) (by
    rcases k4 with h | h
    · left; omega
    · by_cases e : k = pre.length
      · left; omega
      right
      rw [← gd_mid pre A (x :: post) x (i := k - pre.length - 1) (by omega), show pre.length + (k - pre.length - 1) = k - 1 by omega]
      exact h) (by
    rcases k5 with h | h
    · left; omega
    · by_cases e : k = pre.length + A.length
      · left; omega
      right
      rw [← gd_mid pre A (x :: post) x (i := k - pre.length) (by omega), show pre.length + (k - pre.length) = k by omega]
      exact h)
  have hAs := (List.take_append_drop (k - pre.length) A).symm
  have hl1 : (A.take (k - pre.length)).length = k - pre.length := by rw [List.length_take]; omega
  have hl2 : (A.drop (k - pre.length)).length = A.length - (k - pre.length) := by rw [List.length_drop]
  generalize A.take (k - pre.length) = A1 at *
  generalize A.drop (k - pre.length) = A2 at *
  subst hAs
  simp only [Bool.not_eq_true', Bool.not_eq_false'] at key
  refine ⟨A1 ++ x :: A2, ?_, ?_, ?_⟩
  · refine hA.left.append (List.pairwise_cons.2 ⟨fun y hy => o.asymm (key.2 y hy), hA.right⟩) ?_
    intro y hy z hz
    rcases List.mem_cons.1 hz with rfl | hz
    · exact key.1 y hy
    · exact hA.cross y hy z hz
  · have := (Stab.refl (lt := lt) A1).append (Stab.swap o (u := A2) (v := [x]) (fun a ha y hy => by simp at hy; subst hy; exact key.2 a ha))
    simpa using this
  · have := sh7 E (pre ++ A1) x A2.length A2 post rfl (by simp; omega)
    have e1 : ((pre ++ A1).length + A2.length) = pre.length + (A1 ++ A2).length := by simp; omega
    have e2 : (pre ++ A1).length = k := by simp; omega
    rw [e1, e2] at this
    simpa using this
end Go.CT.Srt
namespace Go.CT.Srt
variable {β : Type} {enc : β → IV} {lt : β → β → Bool} {sz : Nat} {p : Bool}
theorem mrg3 (E : Eqs enc lt sz p) (pre A B post : List β) (hA : A ≠ []) (hB : B ≠ []) (hb : pre.length + A.length + B.length + post.length ≤ 1099511627776)
    (b m n s0 r0 : Nat) (em : m = pre.length + A.length) (eb : b = m + B.length) (en : n = (pre.length + b) / 2 + m)
    (hsr : (m > (pre.length + b) / 2 ∧ s0 = n - b ∧ r0 = (pre.length + b) / 2) ∨ (¬ m > (pre.length + b) / 2 ∧ s0 = pre.length ∧ r0 = m)) :
    ∃ A1 A2 B1 B2, A = A1 ++ A2 ∧ B = B1 ++ B2 ∧ A1.length + B1.length + pre.length = (pre.length + b) / 2 ∧
      (A1 = [] ∨ B2 = [] ∨ ∃ A0 z w B0, A1 = A0 ++ [z] ∧ B2 = w :: B0 ∧ lt w z = false) ∧
      (A2 = [] ∨ B1 = [] ∨ ∃ A0 z w B0, A2 = z :: A0 ∧ B1 = B0 ++ [w] ∧ lt w z = true) ∧
      E.M 8 [.int pre.length, .int m, .int b, .int ((pre.length + b) / 2 : Nat), .int n, .int s0, .int r0, .int (n - 1 : Nat), LE enc (pre ++ (A ++ (B ++ post)))] =
        E.M 10 [.int pre.length, .int b, .int ((pre.length + b) / 2 : Nat), .int (pre.length + A1.length : Nat), .int ((pre.length + b) / 2 + A2.length : Nat), LE enc (pre ++ (A1 ++ (B1 ++ (A2 ++ (B2 ++ post)))))] := by
  have hA' := List.length_pos_iff.2 hA
  have hB' := List.length_pos_iff.2 hB
  obtain ⟨d, -⟩ := List.exists_mem_of_ne_nil A hA
  have hlo : pre.length ≤ s0 := by omega
  have hhi : r0 ≤ m := by omega
  have hsr' : s0 ≤ r0 := by omega
  have hpc : ∀ c, s0 ≤ c → c < r0 → m ≤ n - 1 - c ∧ n - 1 - c < b ∧ c + 1 ≤ n := by intro c h1 h2; omega
  have hns : ∀ k, s0 ≤ k → k ≤ r0 → m ≤ n - k ∧ n - k ≤ b ∧ k ≤ n := by intro k h1 h2; omega
  have hs0 : s0 = pre.length ∨ n - s0 = b := by omega
  have hr0 : r0 = m ∨ n - r0 = m := by omega
  obtain ⟨k, k1, k2, k3, k4, k5⟩ := bs (F := fun i j => E.M 8 [.int pre.length, .int m, .int b, .int ((pre.length + b) / 2 : Nat), .int n, .int i, .int j, .int (n - 1 : Nat), LE enc (pre ++ (A ++ (B ++ post)))])
    (Q := fun c => !lt ((pre ++ (A ++ (B ++ post))).getD (n - 1 - c) d) ((pre ++ (A ++ (B ++ post))).getD c d)) s0 r0 (by
    intro i j h1 h2 h3
    have hp' := hpc ((i + j) / 2) (by omega) (by omega)
    obtain ⟨c, hc, hlt⟩ := E.cmp ((pre ++ (A ++ (B ++ post))).getD (n - 1 - (i + j) / 2) d) ((pre ++ (A ++ (B ++ post))).getD ((i + j) / 2) d)
    have gi := idx enc (getd (l := pre ++ (A ++ (B ++ post))) d (i := (i + j) / 2) (by simp; omega))
    have gp := idx enc (getd (l := pre ++ (A ++ (B ++ post))) d (i := n - 1 - (i + j) / 2) (by simp; omega))
    have h2' : (i : Int) < j := by omega
    have hw : IntKind.i64.wrap ((((i + j) / 2 : Nat) : Int) + 1) = (((i + j) / 2 + 1 : Nat) : Int) := by rw [w1 (by omega) (by omega)]; rfl
    have hw2 : IntKind.i64.wrap (((n - 1 : Nat) : Int) - (((i + j) / 2 : Nat) : Int)) = ((n - 1 - (i + j) / 2 : Nat) : Int) := by rw [w1 (by omega) (by omega)]; omega
    rw [E.m8 (.int pre.length) (.int m) (.int b) (.int ((pre.length + b) / 2 : Nat)) (.int n) (.int i) (.int j)]
    simp only [O.lt_int, h2', decide_true, Option.bind_some, O.cnd_bool, if_true]
    rw [mid i j (by omega)]
    simp only [O.sub_int, hw2, gi, gp, Option.bind_some, calls1 hc, O.lt_int, O.cnd_bool, hlt, O.not_bool, O.add_int, hw, E.m9]) (r0 - s0) s0 r0 (Nat.le_refl _) (Nat.le_refl _) hsr' (Nat.le_refl _) (.inl rfl) (.inl rfl)
  have hk := hns k k1 k2
  have hAs := (List.take_append_drop (k - pre.length) A).symm
  have hl1 : (A.take (k - pre.length)).length = k - pre.length := by rw [List.length_take]; omega
  have hl2 : (A.drop (k - pre.length)).length = m - k := by rw [List.length_drop]; omega
  have hBs := (List.take_append_drop (n - k - m) B).symm
  have hl3 : (B.take (n - k - m)).length = n - k - m := by rw [List.length_take]; omega
  have hl4 : (B.drop (n - k - m)).length = b - (n - k) := by rw [List.length_drop]; omega
  refine ⟨A.take (k - pre.length), A.drop (k - pre.length), B.take (n - k - m), B.drop (n - k - m), hAs, hBs, by omega, ?_⟩
  generalize A.take (k - pre.length) = A1 at *
  generalize A.drop (k - pre.length) = A2 at *
  generalize B.take (n - k - m) = B1 at *
  generalize B.drop (n - k - m) = B2 at *
  subst hAs hBs
  refine ⟨?_, ?_, ?_⟩
  · rcases snoc_cases A1 with rfl | ⟨A0, z, rfl⟩
    · exact .inl rfl
    cases B2 with
    | nil => exact .inr (.inl rfl)
    | cons w B0 =>
      refine .inr (.inr ⟨A0, z, w, B0, rfl, rfl, ?_⟩)
      simp only [List.length_append, List.length_cons, List.length_nil] at hl1 hl4
      rcases k4 with h | h
      · omega
      · have e1 := get_mid' (l := pre ++ (A0 ++ [z] ++ A2 ++ (B1 ++ w :: B0 ++ post))) (A := pre ++ A0) (x := z) (B := A2 ++ (B1 ++ w :: B0 ++ post)) (by simp) (i := k - 1) (by simp; omega)
        have e2 := get_mid' (l := pre ++ (A0 ++ [z] ++ A2 ++ (B1 ++ w :: B0 ++ post))) (A := pre ++ (A0 ++ [z] ++ A2 ++ B1)) (x := w) (B := B0 ++ post) (by simp) (i := n - 1 - (k - 1)) (by simp; omega)
        rw [List.getD, List.getD, e1, e2] at h
        simpa using h
  · cases A2 with
    | nil => exact .inl rfl
    | cons z A0 =>
      rcases snoc_cases B1 with rfl | ⟨B0, w, rfl⟩
      · exact .inr (.inl rfl)
      refine .inr (.inr ⟨A0, z, w, B0, rfl, rfl, ?_⟩)
      simp only [List.length_append, List.length_cons, List.length_nil] at hl2 hl3
      rcases k5 with h | h
      · omega
      · have e1 := get_mid' (l := pre ++ (A1 ++ z :: A0 ++ (B0 ++ [w] ++ B2 ++ post))) (A := pre ++ A1) (x := z) (B := A0 ++ (B0 ++ [w] ++ B2 ++ post)) (by simp) (i := k) (by simp; omega)
        have e2 := get_mid' (l := pre ++ (A1 ++ z :: A0 ++ (B0 ++ [w] ++ B2 ++ post))) (A := pre ++ (A1 ++ z :: A0 ++ B0)) (x := w) (B := B2 ++ post) (by simp) (i := n - 1 - k) (by simp; omega)
        rw [List.getD, List.getD, e1, e2] at h
        simpa using h
  · rw [k3, E.m8]
    have hw : IntKind.i64.wrap ((n : Int) - k) = ((n - k : Nat) : Int) := by rw [w1 (by omega) (by omega)]; omega
    simp only [O.lt_int, Int.lt_irrefl, decide_false, Option.bind_some, O.cnd_bool, Bool.false_eq_true, if_false, O.sub_int, hw]
    have e3 : pre.length + A1.length = k := by omega
    have e4 : (pre.length + b) / 2 + A2.length = n - k := by omega
    rw [e3, e4]
    simp only [List.length_append] at em eb hb
    by_cases c1 : k < m
    · by_cases c2 : m < n - k
      · have c1' : (k : Int) < m := by omega
        have c2' : (m : Int) < (n - k : Nat) := by omega
        have hr := rot E (pre ++ A1) A2 B1 (B2 ++ post) (by intro e; subst e; simp at hl2; omega) (by intro e; subst e; simp at hl3; omega) (by simp; omega)
        have e5 : (pre ++ A1).length = k := by simp; omega
        have e6 : k + A2.length = m := by omega
        have e7 : m + B1.length = n - k := by omega
        rw [e5, e6, e7] at hr
        have e8 : pre ++ (A1 ++ A2 ++ (B1 ++ B2 ++ post)) = pre ++ A1 ++ (A2 ++ (B1 ++ (B2 ++ post))) := by simp
        rw [e8]
        simp only [c1', c2', decide_true, if_true, Option.bind_some, O.cnd_bool, calls1 hr]
        simp
      · have hB1 : B1 = [] := List.length_eq_zero_iff.1 (by omega)
        subst hB1
        have c1' : (k : Int) < m := by omega
        have c2' : ¬ (m : Int) < (n - k : Nat) := by omega
        simp only [c1', c2', decide_true, decide_false, if_true, Bool.false_eq_true, if_false, Option.bind_some, O.cnd_bool]
        simp
    · have hA2 : A2 = [] := List.length_eq_zero_iff.1 (by omega)
      subst hA2
      have c1' : ¬ (k : Int) < m := by omega
      simp only [c1', decide_false, Bool.false_eq_true, if_false, Option.bind_some, O.cnd_bool]
      simp
theorem crossA (o : Ord lt) {A1 B2 : List β} (hA : Sorted lt A1) (hB : Sorted lt B2) (h : A1 = [] ∨ B2 = [] ∨ ∃ A0 z w B0, A1 = A0 ++ [z] ∧ B2 = w :: B0 ∧ lt w z = false) : ∀ x ∈ A1, ∀ y ∈ B2, lt y x = false := by
  rcases h with rfl | rfl | ⟨A0, z, w, B0, rfl, rfl, h⟩
  · simp
  · simp
  · intro x hx y hy
    have h1 : lt z x = false := by
      rcases List.mem_append.1 hx with hx | hx
      · exact hA.cross x hx z (by simp)
      · simp at hx; subst hx; exact o.irr x
    have h2 : lt y w = false := by
      rcases List.mem_cons.1 hy with rfl | hy
      · exact o.irr y
      · exact (List.pairwise_cons.1 hB).1 y hy
    exact o.le_trans (o.le_trans h1 h) h2
theorem crossB (o : Ord lt) {A2 B1 : List β} (hA : Sorted lt A2) (hB : Sorted lt B1) (h : A2 = [] ∨ B1 = [] ∨ ∃ A0 z w B0, A2 = z :: A0 ∧ B1 = B0 ++ [w] ∧ lt w z = true) : ∀ x ∈ A2, ∀ y ∈ B1, lt y x = true := by
  rcases h with rfl | rfl | ⟨A0, z, w, B0, rfl, rfl, h⟩
  · simp
  · simp
  · intro x hx y hy
    have h1 : lt x z = false := by
      rcases List.mem_cons.1 hx with rfl | hx
      · exact o.irr x
      · exact (List.pairwise_cons.1 hA).1 x hx
    have h2 : lt w y = false := by
      rcases List.mem_append.1 hy with hy | hy
      · exact hB.cross y hy w (by simp)
      · simp at hy; subst hy; exact o.irr y
    cases hc : lt y x with
    | true => rfl
    | false =>
      have := o.le_trans (o.le_trans h1 hc) h2
      rw [h] at this; cases this
theorem mrg (o : Ord lt) (E : Eqs enc lt sz p) : ∀ (N : Nat) (pre A B post : List β), A.length + B.length ≤ N → A ≠ [] → B ≠ [] → Sorted lt A → Sorted lt B → pre.length + A.length + B.length + post.length ≤ 1099511627776 →
    ∃ C, Sorted lt C ∧ Stab lt (A ++ B) C ∧ E.M 0 [LE enc (pre ++ (A ++ (B ++ post))), .int pre.length, .int ((pre.length + A.length : Nat) : Int), .int ((pre.length + A.length + B.length : Nat) : Int)] = some [LE enc (pre ++ (C ++ post))]
  | 0, pre, A, B, post, hN, hA, hB, _, _, _ => by
    have := List.length_pos_iff.2 hA
    omega
  | N + 1, pre, A, B, post, hN, hA, hB, sA, sB, hb => by
    have hA' := List.length_pos_iff.2 hA
    have hB' := List.length_pos_iff.2 hB
    have hw1 : IntKind.i64.wrap (((pre.length + A.length : Nat) : Int) - pre.length) = A.length := by rw [w1 (by omega) (by omega)]; omega
    have hw2 : IntKind.i64.wrap (((pre.length + A.length + B.length : Nat) : Int) - ((pre.length + A.length : Nat) : Int)) = B.length := by rw [w1 (by omega) (by omega)]; omega
    rw [E.m0]
    simp only [O.sub_int, hw1, hw2, Option.bind_some, O.eq_int]
    by_cases c1 : A.length = 1
    · obtain ⟨x, rfl⟩ := List.length_eq_one_iff.1 c1
      obtain ⟨C, h1, h2, h3⟩ := mrg1 o E pre x B post sB (by simpa using hb)
      refine ⟨C, h1, h2, ?_⟩
      have c1' : (([x] : List β).length : Int) = 1 := rfl
      simp only [c1', decide_true, Option.bind_some, O.cnd_bool, if_true]
      exact h3
    have c1' : ¬ (A.length : Int) = 1 := by omega
    simp only [c1', decide_false, Option.bind_some, O.cnd_bool, Bool.false_eq_true, if_false]
    by_cases c2 : B.length = 1
    · obtain ⟨x, rfl⟩ := List.length_eq_one_iff.1 c2
      obtain ⟨C, h1, h2, h3⟩ := mrg2 o E pre x A post sA (by simpa using hb)
      refine ⟨C, h1, h2, ?_⟩
      have c2' : (([x] : List β).length : Int) = 1 := rfl
      simp only [c2', decide_true, Option.bind_some, O.cnd_bool, if_true]
      exact h3
    have c2' : ¬ (B.length : Int) = 1 := by omega
    simp only [c2', decide_false, Option.bind_some, O.cnd_bool, Bool.false_eq_true, if_false]
    rw [mid pre.length (pre.length + A.length + B.length) (by omega)]
    generalize em : pre.length + A.length = m at *
    generalize eb : m + B.length = b at *
    have hw3 : IntKind.i64.wrap ((((pre.length + b) / 2 : Nat) : Int) + (m : Int)) = (((pre.length + b) / 2 + m : Nat) : Int) := by rw [w1 (by omega) (by omega)]; rfl
    have hw5 : IntKind.i64.wrap ((((pre.length + b) / 2 + m : Nat) : Int) - 1) = (((pre.length + b) / 2 + m - 1 : Nat) : Int) := by rw [w1 (by omega) (by omega)]; omega
    have main : ∃ A1 A2 B1 B2, A = A1 ++ A2 ∧ B = B1 ++ B2 ∧ A1.length + B1.length + pre.length = (pre.length + b) / 2 ∧
      (A1 = [] ∨ B2 = [] ∨ ∃ A0 z w B0, A1 = A0 ++ [z] ∧ B2 = w :: B0 ∧ lt w z = false) ∧
      (A2 = [] ∨ B1 = [] ∨ ∃ A0 z w B0, A2 = z :: A0 ∧ B1 = B0 ++ [w] ∧ lt w z = true) ∧
      ((O.add .i64 (.int ((pre.length + b) / 2 : Nat)) (.int m)).bind fun x12 =>
        (O.gt (.int m) (.int ((pre.length + b) / 2 : Nat))).bind fun x13 =>
        cnd x13 ((O.sub .i64 x12 (.int b)).bind fun x14 => E.M 3 [.int pre.length, .int m, .int b, .int ((pre.length + b) / 2 : Nat), x12, x14, .int ((pre.length + b) / 2 : Nat), LE enc (pre ++ (A ++ (B ++ post)))])
          (E.M 3 [.int pre.length, .int m, .int b, .int ((pre.length + b) / 2 : Nat), x12, .int pre.length, .int m, LE enc (pre ++ (A ++ (B ++ post)))])) =
        E.M 10 [.int pre.length, .int b, .int ((pre.length + b) / 2 : Nat), .int (pre.length + A1.length : Nat), .int ((pre.length + b) / 2 + A2.length : Nat), LE enc (pre ++ (A1 ++ (B1 ++ (A2 ++ (B2 ++ post)))))] := by
      simp only [O.add_int, hw3, Option.bind_some, O.gt_int]
      by_cases c3 : m > (pre.length + b) / 2
      · have c3' : (((pre.length + b) / 2 : Nat) : Int) < (m : Int) := by omega
        have hw4 : IntKind.i64.wrap ((((pre.length + b) / 2 + m : Nat) : Int) - (b : Int)) = (((pre.length + b) / 2 + m - b : Nat) : Int) := by rw [w1 (by omega) (by omega)]; omega
        obtain ⟨A1, A2, B1, B2, q1, q2, q3, q4, q5, q6⟩ := mrg3 E pre A B post hA hB (by omega) b m ((pre.length + b) / 2 + m) ((pre.length + b) / 2 + m - b) ((pre.length + b) / 2) (by omega) (by omega) rfl (.inl ⟨c3, rfl, rfl⟩)
        refine ⟨A1, A2, B1, B2, q1, q2, q3, q4, q5, ?_⟩
        simp only [c3', decide_true, O.cnd_bool, if_true, O.sub_int, hw4, Option.bind_some, E.m3, hw5]
        exact q6
      · have c3' : ¬ (((pre.length + b) / 2 : Nat) : Int) < (m : Int) := by omega
        obtain ⟨A1, A2, B1, B2, q1, q2, q3, q4, q5, q6⟩ := mrg3 E pre A B post hA hB (by omega) b m ((pre.length + b) / 2 + m) pre.length m (by omega) (by omega) rfl (.inr ⟨c3, rfl, rfl⟩)
        refine ⟨A1, A2, B1, B2, q1, q2, q3, q4, q5, ?_⟩
        simp only [c3', decide_false, Bool.false_eq_true, O.cnd_bool, if_false, O.sub_int, Option.bind_some, E.m3, hw5]
        exact q6
    obtain ⟨A1, A2, B1, B2, rfl, rfl, q3, q4, q5, q6⟩ := main
    rw [q6, E.m10]
    clear q6 hw1 hw2 hw3 hw5
    simp only [List.length_append] at *
    have hAB := crossA o sA.left sB.right q4
    have hBA := crossB o sA.right sB.left q5
    have finish : ∀ C1 C2, Sorted lt C1 → Stab lt (A1 ++ B1) C1 → Sorted lt C2 → Stab lt (A2 ++ B2) C2 → Sorted lt (C1 ++ C2) ∧ Stab lt (A1 ++ A2 ++ (B1 ++ B2)) (C1 ++ C2) := by
      intro C1 C2 s1 t1 s2 t2
      refine ⟨s1.append s2 ?_, ?_⟩
      · intro x hx y hy
        rcases List.mem_append.1 (t1.symm.mem o hx) with hx | hx
        · rcases List.mem_append.1 (t2.symm.mem o hy) with hy | hy
          · exact sA.cross x hx y hy
          · exact hAB x hx y hy
        · rcases List.mem_append.1 (t2.symm.mem o hy) with hy | hy
          · exact o.asymm (hBA y hy x hx)
          · exact sB.cross x hx y hy
      · have h1 : Stab lt (A1 ++ A2 ++ (B1 ++ B2)) (A1 ++ B1 ++ (A2 ++ B2)) := by
          have := (Stab.refl (lt := lt) A1).append ((Stab.swap o (u := A2) (v := B1) hBA).append (Stab.refl (lt := lt) B2))
          simpa using this
        exact h1.trans (t1.append t2)
    generalize emid : (pre.length + b) / 2 = mi at *
    -- the first half
    have first : ∃ C1, Sorted lt C1 ∧ Stab lt (A1 ++ B1) C1 ∧
        ((O.lt (.int pre.length) (.int (pre.length + A1.length : Nat))).bind fun x6 =>
          (cnd x6 ((O.lt (.int (pre.length + A1.length : Nat)) (.int mi)).bind fun x7 => some x7) (some (.bool false))).bind fun x7 =>
          cnd x7 (calls (E.M 0 [LE enc (pre ++ (A1 ++ (B1 ++ (A2 ++ (B2 ++ post))))), .int pre.length, .int (pre.length + A1.length : Nat), .int mi]) 1 fun x8 => E.M 11 [.int b, .int mi, .int (mi + A2.length : Nat), x8])
            (E.M 11 [.int b, .int mi, .int (mi + A2.length : Nat), LE enc (pre ++ (A1 ++ (B1 ++ (A2 ++ (B2 ++ post)))))])) =
        E.M 11 [.int b, .int mi, .int (mi + A2.length : Nat), LE enc (pre ++ (C1 ++ (A2 ++ (B2 ++ post))))] := by
      by_cases d1 : A1 = []
      · subst d1
        refine ⟨B1, sB.left, .refl _, ?_⟩
        simp
      by_cases d2 : B1 = []
      · subst d2
        refine ⟨A1, sA.left, by rw [List.append_nil]; exact .refl _, ?_⟩
        simp only [List.length_nil] at q3
        have d3 : ¬ ((pre.length + A1.length : Nat) : Int) < (mi : Int) := by omega
        simp only [O.lt_int, Option.bind_some, d3, decide_false]
        by_cases d4 : (pre.length : Int) < ((pre.length + A1.length : Nat) : Int) <;> simp [d4]
      · have d1' := List.length_pos_iff.2 d1
        have d2' := List.length_pos_iff.2 d2
        obtain ⟨C1, h1, h2, h3⟩ := mrg o E N pre A1 B1 (A2 ++ (B2 ++ post)) (by omega) d1 d2 sA.left sB.left (by simp; omega)
        refine ⟨C1, h1, h2, ?_⟩
        have d3 : ((pre.length + A1.length : Nat) : Int) < (mi : Int) := by omega
        have d4 : (pre.length : Int) < ((pre.length + A1.length : Nat) : Int) := by omega
        rw [show pre.length + A1.length + B1.length = mi by omega] at h3
        simp only [O.lt_int, Option.bind_some, d3, d4, decide_true, O.cnd_bool, if_true, calls1 h3]
    obtain ⟨C1, s1, t1, e1⟩ := first
    rw [e1, E.m11]
    have hC1 : C1.length = A1.length + B1.length := by have := t1.1; simp at this; omega
    have second : ∃ C2, Sorted lt C2 ∧ Stab lt (A2 ++ B2) C2 ∧
        ((O.lt (.int mi) (.int (mi + A2.length : Nat))).bind fun x4 =>
          (cnd x4 ((O.lt (.int (mi + A2.length : Nat)) (.int b)).bind fun x5 => some x5) (some (.bool false))).bind fun x5 =>
          cnd x5 (calls (E.M 0 [LE enc (pre ++ (C1 ++ (A2 ++ (B2 ++ post)))), .int mi, .int (mi + A2.length : Nat), .int b]) 1 fun x6 => some [x6]) (some [LE enc (pre ++ (C1 ++ (A2 ++ (B2 ++ post))))])) =
        some [LE enc (pre ++ (C1 ++ (C2 ++ post)))] := by
      by_cases d1 : A2 = []
      · subst d1
        refine ⟨B2, sB.right, .refl _, ?_⟩
        simp
      by_cases d2 : B2 = []
      · subst d2
        refine ⟨A2, sA.right, by rw [List.append_nil]; exact .refl _, ?_⟩
        simp only [List.length_nil] at *
        have d3 : ¬ ((mi + A2.length : Nat) : Int) < (b : Int) := by omega
        simp only [O.lt_int, Option.bind_some, d3, decide_false]
        by_cases d4 : (mi : Int) < ((mi + A2.length : Nat) : Int) <;> simp [d4]
      · have d1' := List.length_pos_iff.2 d1
        have d2' := List.length_pos_iff.2 d2
        obtain ⟨C2, h1, h2, h3⟩ := mrg o E N (pre ++ C1) A2 B2 post (by omega) d1 d2 sA.right sB.right (by simp; omega)
        refine ⟨C2, h1, h2, ?_⟩
        have d3 : ((mi + A2.length : Nat) : Int) < (b : Int) := by omega
        have d4 : (mi : Int) < ((mi + A2.length : Nat) : Int) := by omega
        have f1 : (pre ++ C1).length = mi := by simp; omega
        rw [f1, show mi + A2.length + B2.length = b by omega, List.append_assoc, List.append_assoc] at h3
        simp only [O.lt_int, Option.bind_some, d3, d4, decide_true, O.cnd_bool, if_true, calls1 h3]
    obtain ⟨C2, s2, t2, e2⟩ := second
    have fin := finish C1 C2 s1 t1 s2 t2
    refine ⟨C1 ++ C2, fin.1, fin.2, ?_⟩
    rw [e2, List.append_assoc]
end Go.CT.Srt
namespace Go.CT.Srt
variable {β : Type} {enc : β → IV} {lt : β → β → Bool} {sz : Nat} {p : Bool}
inductive Blk (lt : β → β → Bool) (k : Nat) : List β → Prop
  | last (l : List β) : l.length ≤ k → Sorted lt l → Blk lt k l
  | cons (a l : List β) : a.length = k → Sorted lt a → Blk lt k l → Blk lt k (a ++ l)
theorem Blk.sorted {k : Nat} {l : List β} (h : Blk lt k l) (hl : l.length ≤ k) : Sorted lt l := by
  cases h with
  | last _ _ h => exact h
  | cons a l h1 h2 h3 =>
    have : l = [] := List.length_eq_zero_iff.1 (by simp at hl; omega)
    subst this; rw [List.append_nil]; exact h2
theorem Blk.first {k : Nat} {l : List β} (h : Blk lt k l) (hl : k ≤ l.length) : ∃ a r, l = a ++ r ∧ a.length = k ∧ Sorted lt a ∧ Blk lt k r := by
  cases h with
  | last _ h1 h => exact ⟨l, [], by simp, by omega, h, .last _ (by simp) .nil⟩
  | cons a l h1 h2 h3 => exact ⟨a, l, rfl, h1, h2, h3⟩
theorem ph1 (o : Ord lt) (E : Eqs enc lt sz p) (N : Nat) : ∀ (n : Nat) (pre rest : List β), rest.length ≤ n → N = pre.length + rest.length → N ≤ 549755813888 →
    ∃ r, Blk lt 20 r ∧ Stab lt rest r ∧ E.B 1 [.int N, .int 20, .int pre.length, .int ((pre.length + 20 : Nat) : Int), LE enc (pre ++ rest)] = E.B 2 [.int N, .int 20, LE enc (pre ++ r)]
  | n, pre, rest, hn, hN, hb => by
    rw [E.b1]
    by_cases c : 20 ≤ rest.length
    · have c' : ((pre.length + 20 : Nat) : Int) ≤ (N : Int) := by omega
      have hw : IntKind.i64.wrap (((pre.length + 20 : Nat) : Int) + 20) = ((pre.length + 20 + 20 : Nat) : Int) := by rw [w1 (by omega) (by omega)]; rfl
      have hr := (List.take_append_drop 20 rest).symm
      have hl1 : (rest.take 20).length = 20 := by rw [List.length_take]; omega
      generalize rest.take 20 = r1 at *
      generalize rest.drop 20 = r2 at *
      subst hr
      simp only [List.length_append] at hn hN c
      obtain ⟨s1, h1, h2, h3⟩ := ins o E pre r1 r2 (by omega)
      have hs1 : s1.length = 20 := by rw [← h2.1]; exact hl1
      match n, hn with
      | 0, hn => omega
      | n + 1, hn =>
        obtain ⟨r, h4, h5, h6⟩ := ph1 o E N n (pre ++ s1) r2 (by omega) (by simp; omega) hb
        refine ⟨s1 ++ r, .cons _ _ hs1 h1 h4, h2.append h5, ?_⟩
        rw [hl1] at h3
        simp only [O.le_int, c', decide_true, Option.bind_some, O.cnd_bool, if_true, calls1 h3, O.add_int, hw]
        rw [show (pre ++ s1).length = pre.length + 20 by simp; omega, List.append_assoc, List.append_assoc] at h6
        exact h6
    · have c' : ¬ ((pre.length + 20 : Nat) : Int) ≤ (N : Int) := by omega
      obtain ⟨s1, h1, h2, h3⟩ := ins o E pre rest [] (by simp; omega)
      refine ⟨s1, .last _ (by rw [← h2.1]; omega) h1, h2, ?_⟩
      rw [List.append_nil, List.append_nil, ← hN] at h3
      simp only [O.le_int, c', decide_false, Bool.false_eq_true, Option.bind_some, O.cnd_bool, if_false, calls1 h3]
theorem ph3 (o : Ord lt) (E : Eqs enc lt sz p) (N k : Nat) (hk : 0 < k) (hkN : k < N) : ∀ (n : Nat) (pre rest : List β), rest.length ≤ n → N = pre.length + rest.length → N ≤ 549755813888 → Blk lt k rest →
    ∃ r, Blk lt (2 * k) r ∧ Stab lt rest r ∧ E.B 3 [.int N, .int k, .int pre.length, .int ((pre.length + 2 * k : Nat) : Int), LE enc (pre ++ rest)] = E.B 4 [.int N, .int k, LE enc (pre ++ r)]
  | n, pre, rest, hn, hN, hb, hB => by
    have hw1 : IntKind.i64.wrap ((pre.length : Int) + (k : Int)) = ((pre.length + k : Nat) : Int) := by rw [w1 (by omega) (by omega)]; rfl
    have hw2 : IntKind.i64.wrap (2 * (k : Int)) = ((2 * k : Nat) : Int) := by rw [w1 (by omega) (by omega)]; rfl
    rw [E.b3]
    by_cases c : 2 * k ≤ rest.length
    · have c' : ((pre.length + 2 * k : Nat) : Int) ≤ (N : Int) := by omega
      have hw3 : IntKind.i64.wrap (((pre.length + 2 * k : Nat) : Int) + ((2 * k : Nat) : Int)) = ((pre.length + 2 * k + 2 * k : Nat) : Int) := by rw [w1 (by omega) (by omega)]; rfl
      obtain ⟨a1, r1, rfl, l1, s1, hB⟩ := hB.first (by omega)
      simp only [List.length_append] at hn hN c
      obtain ⟨a2, r2, rfl, l2, s2, hB⟩ := hB.first (by omega)
      simp only [List.length_append] at hn hN c
      obtain ⟨C, h1, h2, h3⟩ := mrg o E _ pre a1 a2 r2 (Nat.le_refl _) (by intro e; subst e; simp at l1; omega) (by intro e; subst e; simp at l2; omega) s1 s2 (by omega)
      have hC : C.length = 2 * k := by have := h2.1; simp at this; omega
      match n, hn with
      | 0, hn => omega
      | n + 1, hn =>
        obtain ⟨r, h4, h5, h6⟩ := ph3 o E N k hk hkN n (pre ++ C) r2 (by omega) (by simp; omega) hb hB
        refine ⟨C ++ r, .cons _ _ hC h1 h4, by rw [← List.append_assoc]; exact h2.append h5, ?_⟩
        rw [l1, l2, show pre.length + k + k = pre.length + 2 * k by omega] at h3
        simp only [O.le_int, c', decide_true, Option.bind_some, O.cnd_bool, if_true, O.add_int, hw1, calls1 h3, O.mul_int, hw2, hw3]
        rw [show (pre ++ C).length = pre.length + 2 * k by simp; omega, List.append_assoc, List.append_assoc] at h6
        exact h6
    · have c' : ¬ ((pre.length + 2 * k : Nat) : Int) ≤ (N : Int) := by omega
      simp only [O.le_int, c', decide_false, Bool.false_eq_true, Option.bind_some, O.cnd_bool, if_false, O.add_int, hw1, O.lt_int]
      by_cases d : k < rest.length
      · have d' : ((pre.length + k : Nat) : Int) < (N : Int) := by omega
        obtain ⟨a1, r1, rfl, l1, s1, hB⟩ := hB.first (by omega)
        simp only [List.length_append] at hn hN c d
        obtain ⟨C, h1, h2, h3⟩ := mrg o E _ pre a1 r1 [] (Nat.le_refl _) (by intro e; subst e; simp at l1; omega) (by intro e; subst e; simp at d; omega) s1 (hB.sorted (by omega)) (by simp; omega)
        refine ⟨C, .last _ (by have := h2.1; simp at this; omega) h1, h2, ?_⟩
        rw [List.append_nil, List.append_nil, l1, show pre.length + k + r1.length = N by omega] at h3
        simp only [d', decide_true, if_true, calls1 h3]
      · have d' : ¬ ((pre.length + k : Nat) : Int) < (N : Int) := by omega
        refine ⟨rest, .last _ (by omega) (hB.sorted (by omega)), .refl _, ?_⟩
        simp only [d', decide_false, Bool.false_eq_true, if_false]
theorem ph2 (o : Ord lt) (E : Eqs enc lt sz p) (N : Nat) (hb : N ≤ 549755813888) : ∀ (n k : Nat) (l : List β), N - k ≤ n → 0 < k → k ≤ 1099511627776 → l.length = N → Blk lt k l →
    ∃ r, Sorted lt r ∧ Stab lt l r ∧ E.B 2 [.int N, .int k, LE enc l] = some [LE enc r]
  | n, k, l, hn, hk, hk2, hl, hB => by
    rw [E.b2]
    by_cases c : k < N
    · have c' : (k : Int) < (N : Int) := by omega
      have hw2 : IntKind.i64.wrap (2 * (k : Int)) = ((2 * k : Nat) : Int) := by rw [w1 (by omega) (by omega)]; rfl
      have hw3 : IntKind.i64.wrap ((k : Int) * 2) = ((2 * k : Nat) : Int) := by rw [w1 (by omega) (by omega)]; omega
      obtain ⟨r, h1, h2, h3⟩ := ph3 o E N k hk c l.length [] l (Nat.le_refl _) (by simp; omega) hb hB
      match n, hn with
      | 0, hn => omega
      | n + 1, hn =>
        obtain ⟨r', h4, h5, h6⟩ := ph2 o E N hb n (2 * k) r (by omega) (by omega) (by omega) (by rw [← h2.1, hl]) h1
        refine ⟨r', h4, h2.trans h5, ?_⟩
        simp only [List.length_nil, List.nil_append, Nat.zero_add, Int.ofNat_zero] at h3
        simp only [O.lt_int, c', decide_true, Option.bind_some, O.cnd_bool, if_true, O.mul_int, hw2]
        refine Eq.trans h3 ?_
        rw [E.b4]
        simp only [O.mul_int, hw3, Option.bind_some, h6]
    · have c' : ¬ (k : Int) < (N : Int) := by omega
      refine ⟨l, hB.sorted (by omega), .refl _, ?_⟩
      simp only [O.lt_int, c', decide_false, Bool.false_eq_true, Option.bind_some, O.cnd_bool, if_false]
theorem sort (o : Ord lt) (E : Eqs enc lt sz p) (l : List β) (hb : l.length ≤ 549755813888) : ∃ r, Sorted lt r ∧ Stab lt l r ∧ E.S 0 [LE enc l] = some [LE enc r] := by
  obtain ⟨r1, h1, h2, h3⟩ := ph1 o E l.length l.length [] l (Nat.le_refl _) (by simp) hb
  obtain ⟨r, h4, h5, h6⟩ := ph2 o E l.length hb _ 20 r1 (Nat.le_refl _) (by omega) (by omega) h2.1.symm h1
  refine ⟨r, h4, h2.trans h5, ?_⟩
  rw [E.s0, len]
  simp only [List.length_nil, List.nil_append, Nat.zero_add] at h3
  have : E.B 0 [LE enc l, .int l.length] = some [LE enc r] := by
    rw [E.b0]
    exact h3.trans h6
  simp only [Option.bind_some, calls1 this]
end Go.CT.Srt
namespace Go.CT
open Go.RowKit Go.ChangeShapes
section
variable {H : Type} {enc : TypeId × Value → H} {P : Program} {w : World} {TS : List TypeId} {bk : DataW H → Nat} {bks : List (DataW H) → Nat}
theorem okWide_mkV {t : TypeId} {v : Value} {base : Nat} (ht : dataT P TS t = true) (h : Value.okWide P w .any base t v) : mkV P t v.cells.toList = v := by
  unfold dataT at ht
  simp only [Bool.and_eq_true] at ht
  obtain ⟨_, hk⟩ := ht
  have aux : isAggT P t = false → (∀ cs, v ≠ .agg cs) → mkV P t v.cells.toList = v := by
    intro ha hv
    unfold mkV
    rw [ha]
    cases v <;> first | rfl | exact absurd rfl (hv _)
  cases hu : P.underlying t with
  | none => rw [hu] at hk; cases hk
  | some d =>
    rw [hu] at hk
    cases d with
    | struct fs =>
      simp only [Value.okWide, hu] at h
      obtain ⟨cs, rfl, _, _⟩ := h
      simp [mkV, isAggT, hu, Value.cells]
    | int k =>
      refine aux (by simp [isAggT, hu]) (fun cs e => ?_)
      subst e
      simp [Value.okWide, Cell.okWide, Cell.ok, hu] at h
    | bool =>
      refine aux (by simp [isAggT, hu]) (fun cs e => ?_)
      subst e
      simp [Value.okWide, Cell.okWide, Cell.ok, hu] at h
    | string =>
      refine aux (by simp [isAggT, hu]) (fun cs e => ?_)
      subst e
      simp [Value.okWide, Cell.okWide, Cell.ok, hu] at h
    | slice e =>
      refine aux (by simp [isAggT, hu]) (fun cs e => ?_)
      subst e
      simp [Value.okWide, Cell.okWide, Cell.ok, hu] at h
    | _ => simp at hk
theorem args_ok (hB : Bulky bk bks) (hTS : dataTs P TS = true) {spare : Nat → Bool} {base : Nat} : ∀ (ts : List TypeId) (vs : List Value) (ds : List (DataW H)) (ps : List MemPlace), (∀ t ∈ ts, t ∈ TS) →
    DataW.TrodAll enc P w 0 spare true ts vs ds ps → (∀ (j : Nat) (t : TypeId) (v : Value), ts[j]? = some t → vs[j]? = some v → Value.okWide P w .any base t v) →
    ∃ xs, WTs P ts xs ∧ IV.bulks xs ≤ bks ds ∧ ArgsRel P w (fun b => False ∨ b ∈ []) (· ∈ []) (ts.map PS.data) xs vs [] ∧ ds.length = ts.length
  | [], [], [], ps, _, _, _ => ⟨[], trivial, by simp [IV.bulks], ⟨rfl, rfl⟩, rfl⟩
  | t :: ts, v :: vs, d :: ds, ps, hT, h, hok => by
    obtain ⟨p, q, ⟨fuel, h1⟩, h2, rfl⟩ := h
    obtain ⟨xs, x1, x2, x3, x4⟩ := args_ok hB hTS ts vs ds q (fun t h => hT t (by simp [h])) h2 (fun j t v a b => hok (j + 1) t v (by simpa using a) (by simpa using b))
    have ht := hT t (by simp)
    have hd : dataT P TS t = true := List.all_eq_true.1 hTS t ht
    obtain ⟨ys, y1, y2⟩ := trod_ok hB hTS fuel t _ d p ht h1
    obtain ⟨r1, r2, r3, r4, r5⟩ := y1.mk_val hd
    have hv := okWide_mkV hd (hok 0 t v rfl rfl)
    rw [hv] at r1
    refine ⟨mkIV P t ys :: xs, ⟨r2, x1⟩, ?_, ?_, by simp [x4]⟩
    · rw [hB.cons]
      simp only [IV.bulks]
      by_cases ha : isAggT P t = true
      · have := y2 ha
        have e1 : (mkIV P t ys).bulk = IV.bulks ys + 1 := by simp [mkIV, ha, IV.bulk]
        omega
      · have := r4 (by simpa using ha)
        omega
    · refine ⟨[mkIV P t ys], xs, [], [], rfl, rfl, ⟨_, rfl, rfl, r1.weaken (fun b _ hb => ?_)⟩, x3⟩
      rcases hb with hb | hb
      · exact hb
      · cases hb
  | [], _ :: _, _, _, _, h, _ => by cases h
  | [], [], _ :: _, _, _, h, _ => by cases h
  | _ :: _, [], _, _, _, h, _ => by cases h
  | _ :: _, _ :: _, [], _, _, h, _ => by cases h
theorem trodAll_stays (hl : laidOutB P = true) {W W' : World} {sp : Nat → Bool} (hb : Below W.heap.size W W') : ∀ (ts : List TypeId) (vs : List Value) (ds : List (DataW H)) (ps : List MemPlace), (∀ t ∈ ts, P.readableRec t = true ∧ t < P.types.size) →
    DataW.TrodAll enc P W 0 (fun _ => true) true ts vs ds ps → (∀ p ∈ ps, p.block < W.heap.size) → (∀ p ∈ ps, sp p.block = true) → DataW.TrodAll enc P W' 0 sp true ts vs ds ps
  | [], [], [], _, _, h, _, _ => h
  | t :: ts, v :: vs, d :: ds, ps, hT, h, hlt, hsp => by
    obtain ⟨p, q, h1, h2, rfl⟩ := h
    have ht := hT t (by simp)
    exact ⟨p, q, WideElems.Trod_stays hl ht.1 ht.2 h1 (fun x hx => hb.same (hlt x (by simp [hx]))) (fun x hx => hsp x (by simp [hx])),
      trodAll_stays hl hb ts vs ds q (fun t h => hT t (by simp [h])) h2 (fun x hx => hlt x (by simp [hx])) (fun x hx => hsp x (by simp [hx])), rfl⟩
  | [], _ :: _, _, _, _, h, _, _ => by cases h
  | [], [], _ :: _, _, _, h, _, _ => by cases h
  | _ :: _, [], _, _, _, h, _, _ => by cases h
  | _ :: _, _ :: _, [], _, _, h, _, _ => by cases h
theorem Does.calls {f : FuncId} {args : Array Value} {R : Value → World → Prop} {fn : Func} (hfn : P.funcs[f]? = some fn) (hb : fn.body.isSome = true) (hn : (fn.name == "runtime.NumGoroutine") = false) (h : Does P f args w R) :
    Calls P f args w fun e w' => ∃ v, e = .returned v ∧ R v w' := by
  rcases h with ⟨_, _, _, _, h⟩ | ⟨v, w', h, _⟩
  · exact h
  · have hb' : ¬ fn.body = none := by cases hf : fn.body <;> simp_all
    have hn' : ¬ fn.name = "runtime.NumGoroutine" := by simpa using hn
    simp [callFunc, hfn, hn', hb'] at h
theorem contract_of {specs : List (Nat × Spec)} {T : Job → Option PT} {pr : Nat → Option (List IV → Option (List IV))} (hS : ∀ k, Sound P specs (run T pr k)) {i : Nat} {f : FuncId} {tb : TypeId} {fn : Func} {al : Bool} {ts : List TypeId}
    (hmem : (i, (⟨f, ts.map PS.data, [.whole tb], al⟩ : Spec)) ∈ specs) (htb : P.underlying tb = some .bool) (hfn : P.funcs[f]? = some fn) (hbody : fn.body.isSome = true) (hname : (fn.name == "runtime.NumGoroutine") = false)
    (hpar : fn.params.toList = ts) (hres : fn.resultTypes = #[tb]) (hl : laidOutB P = true) (hTS : dataTs P TS = true) (hin : ∀ t ∈ ts, t ∈ TS) (hB : Bulky bk bks) {s : ChangeSpec} (hvars : s.vars = [])
    (hspec : ∀ ds : List (DataW H), ds.length = ts.length → (s.fn H ds).results = [.lit (.bool true)] ∧ (s.fn H ds).args = ds ∧ (s.fn H ds).vars = []) {n : Nat}
    (hV : ∀ xs, WTs P ts xs → IV.bulks xs ≤ n → V T pr ⟨i, 0⟩ xs = some [.bool true])
    (W : World) (base : Nat) (args : Array Value) (ds gs : List (DataW H)) (before : List MemPlace)
    (hval : ∀ (j : Nat) t v, fn.params[j]? = some t → args[j]? = some v → Value.okWide P W .any base t v)
    (hW : DataW.Whole enc P fn.params.toList s.vars false W args.toList ds gs before) (hk : bks (ds ++ gs) ≤ n) :
    Calls P f args W fun e W' => ∃ v, e = .returned v ∧ s.post enc P fn false true false false W args v W' := by
  have hW0 := hW
  obtain ⟨p, q, hA, hv, rfl, hfz, hnd⟩ := hW
  rw [hvars] at hv
  have hgs : gs = [] ∧ q = [] := by cases gs <;> simp_all [DataW.TrodVars]
  obtain ⟨rfl, rfl⟩ := hgs
  rw [List.append_nil] at hk
  rw [hpar] at hA
  obtain ⟨xs, x1, x2, x3, x4⟩ := args_ok hB hTS (base := base) ts args.toList ds p hin hA (fun j t v a b => hval j t v (by rw [← Array.getElem?_toList, hpar]; exact a) (by rw [← Array.getElem?_toList]; exact b))
  obtain ⟨k, hrun⟩ := (V_some T pr).1 (hV xs x1 (by omega))
  have hd := hS k i _ hmem W (fun _ => False) xs args.toList [] [.bool true] x3 (by simp) (by simp) (by simp) hrun
  refine (Does.calls hfn hbody hname (by simpa using hd)).mono ?_
  rintro e W' ⟨v, rfl, hAf⟩
  refine ⟨v, rfl, ?_⟩
  obtain ⟨vs, ys, zs, L1, L2, e1, e2, _, _, e5, e6⟩ := hAf.out
  have hb : Below W.heap.size W W' := ⟨hAf.step.os, hAf.step.tape, hAf.step.output, hAf.step.size, fun k hk => hAf.step.stays k hk (by simp)⟩
  have hlt : ∀ x ∈ p, x.block < W.heap.size := fun x hx => by simpa using hW0.lt x (by simpa using hx)
  have hvv : v = .bool true := by
    cases vs with
    | nil => simp [RessRel] at e5
    | cons v0 vs =>
      cases vs with
      | cons _ _ => simp [RessRel] at e5
      | nil =>
        obtain ⟨as, bs, M1, M2, f1, f2, f3, f4⟩ := e5
        obtain ⟨x, g1, g2, g3⟩ := f3
        obtain ⟨b, h1, h2⟩ := g3.bool_inv htb
        obtain ⟨f5, _⟩ := f4
        subst g1 h1 h2 f5
        simp only [List.append_nil] at f1
        subst f1
        simp only [List.cons_append, List.nil_append, List.cons.injEq, IV.bool.injEq] at e2
        rw [e1]; simp [packed, ← e2.1]
  subst hvv
  obtain ⟨s1, s2, s3⟩ := hspec ds x4
  have hT : ∀ t ∈ ts, P.readableRec t = true ∧ t < P.types.size := fun t ht => by
    have hd : dataT P TS t = true := List.all_eq_true.1 hTS t (hin t ht)
    unfold dataT at hd
    simp only [Bool.and_eq_true, decide_eq_true_eq] at hd
    exact ⟨hd.1.2, hd.1.1.2⟩
  refine ⟨ds, [], p, [], p, [], by simpa using hW0, ?_, ?_, ?_, ?_, fun h => by cases h⟩
  · rw [List.append_nil, s1, hres]
    exact trodAll_mk1 (shut_bool htb _)
  · rw [List.append_nil, s2, hpar]
    exact trodAll_stays hl hb ts _ ds p hT hA hlt (fun x hx => by simpa using hlt x hx)
  · rw [List.append_nil, s3, hvars]
    rfl
  · exact hb.frame _
end
end Go.CT
