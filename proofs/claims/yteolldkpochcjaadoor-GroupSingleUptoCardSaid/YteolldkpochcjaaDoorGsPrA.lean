import Derived.Test.YteolldkpochcjaaDoorTab
import Derived.Test.YteolldkpochcjaaDoorCtD
set_option linter.unusedVariables false
set_option linter.unusedSimpArgs false
namespace Go.CT.Memb
open Go.Proofs
structure E where
 t : Int
 d : ByteArray
 deriving DecidableEq
@[simp] def E.enc (e : E) : IV := .agg [.int e.t, .str e.d]
structure L where
 b : Int
 bt : Int
 es : List E
@[simp] def L.enc (l : L) : IV := .agg [.int l.b, .int l.bt, .list (l.es.map E.enc)]
def L.small (l : L) : Prop := l.es.length ≤ 1048576
theorem new : W f_rlog_New 0 [] = some [.int 0, .int 0, .list []] := e_f_rlog_New_0
def rises : List E → Int → Bool
 | [], _ => true
 | e :: es, least => if e.t < least ∨ e.t > 1000000000000000 then false else rises es e.t
theorem next {n i : Nat} (h : i + n ≤ 4194304) : IntKind.i64.wrap ((i : Int) + 1) = ((i + 1 : Nat) : Int) := by rw [wrap64 (by omega) (by omega)]; rfl
theorem rises_1 (xs : List E) (hx : xs.length ≤ 4194304) : ∀ (n i : Nat) (least : Int), i + n = xs.length →
  W f_rlog_rises 1 [.int least, .list (xs.map E.enc), .int xs.length, .int i] = some [.bool (rises (xs.drop i) least)]
 | 0, i, least, h => by
  rw [e_f_rlog_rises_1]
  have : ¬ i < xs.length := by omega
  simp [this, List.drop_of_length_le (Nat.le_of_not_lt this), rises]
 | n + 1, i, least, h => by
  have hi : i < xs.length := by omega
  have ih := rises_1 xs hx n (i + 1) xs[i].t (by omega)
  have hw := next (n := n) (i := i) (by omega)
  rw [e_f_rlog_rises_1, List.drop_eq_getElem_cons hi]
  simp [rises, hw, hi]
  by_cases h1 : xs[i].t < least <;> by_cases h2 : 1000000000000000 < xs[i].t <;> simp [h1, h2]
  exact ih
theorem prg_rises (xs : List E) (hx : xs.length ≤ 4194304) (least : Int) : W f_rlog_rises 0 [.list (xs.map E.enc), .int least] = some [.bool (rises xs least)] := by
 rw [e_f_rlog_rises_0]
 have := rises_1 xs hx xs.length 0 least (by omega)
 simpa using this
def fine (l : L) : Prop := 0 ≤ l.b ∧ l.b ≤ 1000000000000000 ∧ 0 ≤ l.bt ∧ l.bt ≤ 1000000000000000 ∧ (l.b = 0 ↔ l.bt = 0) ∧ l.es.length ≤ 400
instance (l : L) : Decidable (fine l) := by unfold fine; infer_instance
def valid (l : L) : Bool := decide (fine l) && rises l.es (if 1 < l.bt then l.bt else 1)
def lastI (l : L) : Int := l.b + l.es.length
def lastT (l : L) : Int := match l.es.getLast? with | some e => e.t | none => l.bt
def tame (l : L) : Prop := 0 ≤ l.b ∧ l.b ≤ 1000000000000000 ∧ l.es.length ≤ 4194304
theorem prg_last (b bt : Int) (es : List E) (h : tame ⟨b, bt, es⟩) : W f_rlog_Last 0 [.agg [.int b, .int bt, .list (es.map E.enc)]] = some [.int (lastI ⟨b, bt, es⟩), .int (lastT ⟨b, bt, es⟩)] := by
 obtain ⟨h1, h2, h3⟩ := h
 simp only at h1 h2 h3
 rw [e_f_rlog_Last_0]
 rcases es.eq_nil_or_concat with rfl | ⟨es, e, rfl⟩
 ·simp [lastI, lastT]
 ·simp at h3
  have w1 : IntKind.i64.wrap (b + ((es.length : Int) + 1)) = b + (es.length + 1) := wrap64 (by omega) (by omega)
  have w2 : IntKind.i64.wrap (es.length : Int) = es.length := wrap64 (by omega) (by omega)
  have h4 : (0 : Int) < es.length + 1 := by omega
  simp [lastI, lastT, w1, w2, h4]
def termAt (l : L) (i : Int) : Option Int := if i = l.b then some l.bt else if i < l.b then none else (l.es[(i - l.b).toNat - 1]?).map E.t
def optI (o : Option Int) : List IV := match o with | some t => [.int t, .bool true] | none => [.int 0, .bool false]
theorem prg_termAt (b bt : Int) (es : List E) (i : Int) (h : tame ⟨b, bt, es⟩) : W f_rlog_TermAt 0 [.agg [.int b, .int bt, .list (es.map E.enc)], .int i] = some (optI (termAt ⟨b, bt, es⟩ i)) := by
 have h0 := prg_last b bt es h
 obtain ⟨h1, h2, h3⟩ := h
 simp only at h1 h2 h3
 rw [e_f_rlog_TermAt_0]
 simp [h0, lastI, termAt]
 by_cases c1 : i < b
 ·have : ¬ i = b := by omega
  simp [c1, this, optI]
 ·by_cases c2 : i = b
  ·subst c2
   have : i ≤ i + (es.length : Int) := by omega
   simp [optI, this]
  ·by_cases c3 : b + es.length < i
   ·have : es.length ≤ (i - b).toNat - 1 := by omega
    simp [c1, c2, c3, this, optI]
   ·have hlt : (i - b).toNat - 1 < es.length := by omega
    have w1 : IntKind.i64.wrap (i - b) = i - b := wrap64 (by omega) (by omega)
    have w2 : IntKind.i64.wrap (i - b - 1) = i - b - 1 := wrap64 (by omega) (by omega)
    have h4 : 1 ≤ i - b := by omega
    simp [c1, c2, c3, w1, w2, h4, hlt, optI]
@[simp] theorem eq_leaves (e f : E) : IV.eqLeaves [.int e.t, .str e.d] [.int f.t, .str f.d] = some (decide (e = f)) := by
 have : (e.d.toList == f.d.toList) = decide (e.d = f.d) := by
  rw [Bool.eq_iff_iff, beq_iff_eq, decide_eq_true_iff]; exact O.str_ext
 cases e; cases f
 simp [IV.eqLeaves, IV.eqLeaf, this]
 rw [Bool.eq_iff_iff]; simp
def fromI (l : L) (i most : Int) : Option (List E) := if i ≤ l.b ∨ l.b + l.es.length + 1 < i then none else some ((l.es.drop ((i - l.b).toNat - 1)).take most.toNat)
def optE (o : Option (List E)) : List IV := match o with | some l => [.list (l.map E.enc), .bool true] | none => [.list [], .bool false]
theorem clone_list (xs : List IV) (h : xs.length ≤ 4194304) : W f_slices_Clone_Entry 0 [.list xs] = some [.list xs] := by
 rw [e_f_slices_Clone_Entry, O.cloneF, if_pos (by omega)]
theorem prg_from (b bt : Int) (es : List E) (i most : Int) (h : tame ⟨b, bt, es⟩) : W f_rlog_From 0 [.agg [.int b, .int bt, .list (es.map E.enc)], .int i, .int most] = some (optE (fromI ⟨b, bt, es⟩ i most)) := by
 have h0 := prg_last b bt es h
 obtain ⟨h1, h2, h3⟩ := h
 simp only at h1 h2 h3
 rw [e_f_rlog_From_0]
 have w0 : IntKind.i64.wrap (b + es.length + 1) = b + es.length + 1 := wrap64 (by omega) (by omega)
 simp [h0, lastI, fromI, w0]
 by_cases c1 : i ≤ b
 ·simp [c1, optE]
 ·by_cases c3 : b + es.length + 1 < i
  ·simp [c1, c3, optE]
  ·have w1 : IntKind.i64.wrap (i - b) = i - b := wrap64 (by omega) (by omega)
   have w2 : IntKind.i64.wrap (i - b - 1) = i - b - 1 := wrap64 (by omega) (by omega)
   have h4 : 1 ≤ i - b := by omega
   obtain ⟨k, rfl⟩ : ∃ k : Nat, i = b + 1 + k := ⟨(i - b - 1).toNat, by omega⟩
   have h5 : k ≤ es.length := by omega
   have e1 : b + 1 + (k : Int) - b - 1 = k := by omega
   have e2 : (b + 1 + (k : Int) - b).toNat - 1 = k := by omega
   have wk : IntKind.i64.wrap (k : Int) = k := wrap64 (by omega) (by omega)
   simp only [w1, e1, e2, wk]
   simp [c1, c3, h5]
   generalize hm : (if (0 : Int) < most then most else 0) = m
   have hm0 : 0 ≤ m ∧ most.toNat = m.toNat := by rw [← hm]; split <;> omega
   obtain ⟨n, rfl⟩ : ∃ n : Nat, m = n := ⟨m.toNat, by omega⟩
   rw [hm0.2]
   have h6 : ((es.length : Int) - k) = ((es.length - k : Nat) : Int) := by omega
   obtain ⟨q, hq⟩ : ∃ q, q = min (es.length - k) n := ⟨_, rfl⟩
   have e7 : List.take n (List.drop k es) = List.take q (List.drop k es) := by
    rw [hq]
    by_cases c4 : es.length - k ≤ n
    ·rw [Nat.min_eq_left c4, List.take_of_length_le (by simp; omega), List.take_of_length_le (by simp)]
    ·rw [Nat.min_eq_right (by omega)]
   have e8 : (if ((es.length - k : Nat) : Int) < n then ((es.length - k : Nat) : Int) else n) = (q : Int) := by split <;> omega
   have e9 : q ≤ es.length - k := by omega
   rw [e8]
   have hc := clone_list (((es.drop k).take q).map E.enc) (by simp; omega)
   simp only [List.map_take, List.map_drop] at hc
   have e10 : (q : Int) ≤ ((es.length - k : Nat) : Int) := by omega
   simp [e9, e7, hc, optE]
theorem valid_inv {l : L} (h : valid l = true) : fine l ∧ rises l.es (if 1 < l.bt then l.bt else 1) = true := by
 unfold valid at h
 rw [Bool.and_eq_true, decide_eq_true_iff] at h
 exact h
def hintF (l : L) (t : Int) : Nat → Int
 | 0 => l.b
 | k + 1 => if (termAt l (l.b + (k + 1))).getD 0 ≤ t then l.b + (k + 1) else hintF l t k
def hint (l : L) (prev t : Int) : Int := hintF l t (min (prev - 1 - l.b) l.es.length).toNat
theorem optI_getD (o : Option Int) : optI o = [.int (o.getD 0), .bool o.isSome] := by cases o <;> rfl
theorem prg_hint_1 (b bt : Int) (es : List E) (t : Int) (h : tame ⟨b, bt, es⟩) : ∀ (k : Nat) (i : Int), i ≤ b + k → k ≤ 4194304 → b - 9223372036854775807 ≤ i → 
  W f_rlog_hint 1 [.int t, .int i, .agg [.int b, .int bt, .list (es.map E.enc)]] = some [.int (hintF ⟨b, bt, es⟩ t (i - b).toNat)]
 | 0, i, hi, _, _ => by
  rw [e_f_rlog_hint_1]
  have : ¬ b < i := by omega
  have h0 : (i - b).toNat = 0 := by omega
  simp [this, h0, hintF]
 | k + 1, i, hi, hk, hlo => by
  rw [e_f_rlog_hint_1]
  by_cases hb : b < i
  ·obtain ⟨m, rfl⟩ : ∃ m : Nat, i = b + (m + 1) := ⟨(i - b - 1).toNat, by omega⟩
   obtain ⟨h1, h2, h3⟩ := h
   simp only at h1 h2 h3
   have w1 : IntKind.i64.wrap (b + (↑m + 1) - 1) = b + m := by rw [wrap64 (by omega) (by omega)]; omega
   have ih := prg_hint_1 b bt es t ⟨h1, h2, h3⟩ k (b + m) (by omega) (by omega) (by omega)
   have e1 : (b + ((m : Int) + 1) - b).toNat = m + 1 := by omega
   have e2 : (b + (m : Int) - b).toNat = m := by omega
   rw [e2] at ih
   simp only [prg_termAt b bt es _ ⟨h1, h2, h3⟩, optI_getD, e1, hintF]
   have hb' : b < b + ((m : Int) + 1) := by omega
   simp only [O.proj_agg, List.getElem?_cons_zero, Option.bind_some, O.gt_int, O.cnd_bool, hb', decide_true, if_true, O.calls_2, O.le_int, O.sub_int, w1, ih]
   by_cases ht : (termAt ⟨b, bt, es⟩ (b + (↑m + 1))).getD 0 ≤ t
   ·simp [ht]
   ·simp [ht]
  ·have h0 : (i - b).toNat = 0 := by omega
   simp [hb, h0, hintF]
theorem prg_hint (b bt : Int) (es : List E) (p t : Int) (h : tame ⟨b, bt, es⟩) (hp : 0 ≤ p) (hp2 : I64 p) : W f_rlog_hint 0 [.agg [.int b, .int bt, .list (es.map E.enc)], .int p, .int t] = some [.int (hint ⟨b, bt, es⟩ p t)] := by
 have h0 := prg_last b bt es h
 have h' := h
 obtain ⟨h1, h2, h3⟩ := h
 simp only at h1 h2 h3
 obtain ⟨_, hp3⟩ := hp2
 rw [e_f_rlog_hint_0]
 have w1 : IntKind.i64.wrap (p - 1) = p - 1 := wrap64 (by omega) (by omega)
 simp [h0, lastI, w1]
 have e1 : (if b + (es.length : Int) < p - 1 then b + (es.length : Int) else p - 1) = min (p - 1) (b + es.length) := by split <;> omega
 rw [e1, prg_hint_1 b bt es t h' es.length _ (by omega) (by omega) (by omega)]
 have e2 : (min (p - 1) (b + (es.length : Int)) - b).toNat = (min (p - 1 - b) (es.length : Int)).toNat := by omega
 rw [e2]; rfl
theorem clone (b bt : Int) (es : List E) (h : es.length ≤ 4194304) : W f_rlog_clone 0 [.agg [.int b, .int bt, .list (es.map E.enc)]] = some [.int b, .int bt, .list (es.map E.enc)] := by
 rw [e_f_rlog_clone_0]
 simp [clone_list (es.map E.enc) (by simpa using h)]
def pcut (out : List E) (at' : Nat) (e : E) : List E :=
 match out[at']? with
 | some x => if x.t = e.t then out else out.take at'
 | none => out
def pstep (out : List E) (at' : Nat) (e : E) : List E :=
 if at' = (pcut out at' e).length ∧ at' < 400 then pcut out at' e ++ [e] else pcut out at' e
def ploop : List E → Nat → List E → List E
 | out, _, [] => out
 | out, at', e :: es => ploop (pstep out at' e) (at' + 1) es
theorem pcut_len (out : List E) (at' : Nat) (e : E) (h : out.length ≤ 400) : (pcut out at' e).length ≤ 400 := by
 unfold pcut
 split
 ·split
  ·exact h
  ·simp; omega
 ·exact h
theorem pstep_len (out : List E) (at' : Nat) (e : E) (h : out.length ≤ 400) : (pstep out at' e).length ≤ 400 := by
 have := pcut_len out at' e h
 unfold pstep
 split
 ·simp; omega
 ·exact this
theorem prg_app_2 (prev b bt : Int) (e rest : List E) (les : List E) (y7 y8 y9 y10 : IV) (hr : rest.length ≤ 1048576) (he : e.length ≤ 1048576) (hb : 0 ≤ b ∧ b ≤ 1000000000000000) (hp : 0 ≤ prev ∧ prev ≤ 2000000000000000) :
  ∀ (n i at' : Nat) (out : List E), i + n = rest.length → at' + n ≤ 4194304 → out.length ≤ 400 →
  W f_rlog_Append 2 [.int prev, .list (e.map E.enc), .int at', .list (rest.map E.enc), .int rest.length, .int i, .agg [.int b, .int bt, .list (les.map E.enc)], y7, y8, y9, y10, .list (out.map E.enc)] =
   some [y9, y10, .list ((ploop out at' (rest.drop i)).map E.enc), .int (min (prev + e.length) (b + 400)), .bool true]
 | 0, i, at', out, hi, ha, ho => by
  rw [e_f_rlog_Append_2]
  have hlt : ¬ i < rest.length := by omega
  have w1 : IntKind.i64.wrap (prev + e.length) = prev + e.length := wrap64 (by omega) (by omega)
  have w2 : IntKind.i64.wrap (b + 400) = b + 400 := wrap64 (by omega) (by omega)
  have e1 : (if b + 400 < prev + (e.length : Int) then b + 400 else prev + e.length) = min (prev + e.length) (b + 400) := by split <;> omega
  simp [hlt, w1, w2, e1, List.drop_of_length_le (Nat.le_of_not_lt hlt), ploop]
 | n + 1, i, at', out, hi, ha, ho => by
  have hlt : i < rest.length := by omega
  have ih := prg_app_2 prev b bt e rest les y7 y8 y9 y10 hr he hb hp n (i + 1) (at' + 1) (pstep out at' rest[i]) (by omega) (by omega) (pstep_len _ _ _ ho)
  have w1 : IntKind.i64.wrap ((i : Int) + 1) = ((i + 1 : Nat) : Int) := by rw [wrap64 (by omega) (by omega)]; rfl
  have w2 : IntKind.i64.wrap ((at' : Int) + 1) = ((at' + 1 : Nat) : Int) := by rw [wrap64 (by omega) (by omega)]; rfl
  rw [e_f_rlog_Append_2, List.drop_eq_getElem_cons hlt]
  -- the middle blocks
  have mid : ∀ o1 : List E, o1.length ≤ 400 → W f_rlog_Append 3 [.int prev, .list (e.map E.enc), .int at', .list (rest.map E.enc), .int rest.length, .int i, .agg [.int b, .int bt, .list (les.map E.enc)], y7, y8, y9, y10, E.enc rest[i], .list (o1.map E.enc)] =
    W f_rlog_Append 2 [.int prev, .list (e.map E.enc), .int ((at' + 1 : Nat) : Int), .list (rest.map E.enc), .int rest.length, .int ((i + 1 : Nat) : Int), .agg [.int b, .int bt, .list (les.map E.enc)], y7, y8, y9, y10, .list ((if at' = o1.length ∧ at' < 400 then o1 ++ [rest[i]] else o1).map E.enc)] := by
   intro o1 h1
   rw [e_f_rlog_Append_3]
   have hm : (o1.length + 1) * 24 ≤ maxBytes := by unfold maxBytes; omega
   by_cases c1 : at' = o1.length ∧ at' < 400
   ·obtain ⟨c1, c2⟩ := c1
    have c2' : (at' : Int) < 400 := by omega
    subst c1
    simp only [O.len_list, List.length_map, Option.bind_some, O.eq_int, decide_true, O.cnd_bool, if_true, O.lt_int, c2', O.mklist_eq, O.append_list, List.length_singleton, hm, e_f_rlog_Append_4, O.add_int, w1, w2, c2, and_self, List.map_append, List.map_cons, List.map_nil]
   ·have c3 : ¬ ((at' : Int) = o1.length ∧ (at' : Int) < 400) := by omega
    simp [c1, e_f_rlog_Append_4, w1, w2]
    by_cases c4 : (at' : Int) = o1.length <;> simp [c4] <;> omega
  have hi' : (i : Int) < rest.length := by omega
  cases hc : out[at']? with
  | none =>
   have h1 : out.length ≤ at' := by simpa using hc
   have h2 : ¬ (at' : Int) < out.length := by omega
   simp only [O.lt_int, hi', decide_true, Option.bind_some, O.cnd_bool, if_true, O.index_list, Int.natCast_nonneg, Int.toNat_natCast, List.getElem?_map, List.getElem?_eq_getElem hlt, Option.map_some, O.len_list, List.length_map, h2, decide_false, Bool.false_eq_true, if_false]
   rw [mid out ho]
   have : pcut out at' rest[i] = out := by simp [pcut, hc]
   rw [ploop, pstep, this]
   rw [pstep, this] at ih
   exact ih
  | some x =>
   have h1 : at' < out.length := (List.getElem?_eq_some_iff.1 hc).1
   have h2 : (at' : Int) < out.length := by omega
   have h3 : (0 : Int) ≤ at' ∧ (at' : Int) ≤ out.length := by omega
   simp only [O.lt_int, hi', decide_true, Option.bind_some, O.cnd_bool, if_true, O.index_list, Int.natCast_nonneg, Int.toNat_natCast, List.getElem?_map, List.getElem?_eq_getElem hlt, Option.map_some, O.len_list, List.length_map, h2, hc, E.enc, O.proj_agg, List.getElem?_cons_zero, O.ne_int]
   by_cases c : x.t = rest[i].t
   ·have : pcut out at' rest[i] = out := by simp [pcut, hc, c]
    simp only [c, decide_true, Bool.not_true, Bool.false_eq_true, if_false]
    have m := mid out ho
    simp only [E.enc] at m
    rw [m, ploop, pstep, this]
    rw [pstep, this] at ih
    exact ih
   ·have : pcut out at' rest[i] = out.take at' := by simp [pcut, hc, c]
    have m := mid (out.take at') (by simp; omega)
    simp only [E.enc, List.map_take] at m
    simp only [c, decide_false, Bool.not_false, if_true, O.slice_list, List.length_map, Int.le_refl, h3, and_self, Option.bind_some, Int.toNat_natCast, Int.toNat_zero, List.drop_zero]
    rw [m, ploop, pstep, this]
    rw [pstep, this] at ih
    exact ih
def mergeF : List E → Nat → List E → List E
 | out, _, [] => out
 | out, a, e :: es => match out[a]? with
  | some x => if x.t = e.t then mergeF out (a + 1) es else out.take a ++ e :: es
  | none => out.take a ++ e :: es
theorem ploop_end : ∀ (es out : List E) (a : Nat), out.length ≤ 400 → (a = out.length ∨ (out.length = 400 ∧ 400 ≤ a)) → ploop out a es = (out ++ es).take 400
 | [], out, a, h, _ => by simp [ploop, List.take_of_length_le h]
 | e :: es, out, a, h, ha => by
  have hc : pcut out a e = out := by
   have : out[a]? = none := by rw [List.getElem?_eq_none]; omega
   simp [pcut, this]
  rw [ploop, pstep, hc]
  by_cases c : a = out.length ∧ a < 400
  ·rw [if_pos c, ploop_end es (out ++ [e]) (a + 1) (by simp; omega) (by left; simp; omega)]
   simp
  ·have h4 : out.length = 400 := by omega
   rw [if_neg c, ploop_end es out (a + 1) h (by right; omega)]
   rw [List.take_append_of_le_length (by omega), List.take_append_of_le_length (by omega)]
theorem ploop_merge : ∀ (es out : List E) (a : Nat), out.length ≤ 400 → a ≤ out.length → ploop out a es = (mergeF out a es).take 400
 | [], out, a, h, _ => by simp [ploop, mergeF, List.take_of_length_le h]
 | e :: es, out, a, h, ha => by
  rw [ploop, mergeF]
  cases hc : out[a]? with
  | none =>
   have hl : a = out.length := by have := List.getElem?_eq_none_iff.1 hc; omega
   have h0 := ploop_end (e :: es) out a h (.inl hl)
   rw [ploop] at h0
   rw [h0, hl, List.take_length]
  | some x =>
   have hlt := (List.getElem?_eq_some_iff.1 hc).1
   by_cases c : x.t = e.t
   ·have : pcut out a e = out := by simp [pcut, hc, c]
    rw [pstep, this, if_neg (by omega)]
    simp only [c, if_true]
    exact ploop_merge es out (a + 1) h (by omega)
   ·have : pcut out a e = out.take a := by simp [pcut, hc, c]
    have hlen : (out.take a).length = a := by rw [List.length_take]; omega
    rw [pstep, this, hlen, if_pos ⟨rfl, by omega⟩, ploop_end es _ _ (by simp; omega) (by left; simp; omega)]
    simp [c]
def okAll (bt : Int) (es : List E) : Bool := es.all fun x => decide (bt ≤ x.t)
def fits (l : L) (prev pt : Int) : Prop := l.b < prev → termAt l prev = some pt
instance (l : L) (prev pt : Int) : Decidable (fits l prev pt) := by unfold fits; infer_instance
structure Res where
 l : L
 n : Int
 ok : Bool
def appendF (l : L) (prev pt : Int) (e : List E) : Res :=
 if prev < 0 ∨ pt < 0 ∨ rises e (if 1 < pt then pt else 1) = false then ⟨l, 0, false⟩
 else if okAll l.bt (e.drop (l.b - prev).toNat) = false then ⟨l, 0, false⟩
 else if ¬ fits l prev pt then ⟨l, hint l prev pt, false⟩
 else ⟨⟨l.b, l.bt, (mergeF l.es (prev - l.b).toNat (e.drop (l.b - prev).toNat)).take 400⟩, min (prev + e.length) (l.b + 400), true⟩
theorem rises_all : ∀ (es : List E) (m m' : Int), rises es m = true → (rises es m' = true ↔ okAll m' es = true)
 | [], m, m', _ => by simp [rises, okAll]
 | e :: es, m, m', h => by
  unfold rises at h
  split at h
  ·cases h
  ·rename_i hc
   simp only [rises, okAll, List.all_cons]
   by_cases hm : m' ≤ e.t
   ·rw [if_neg (by omega)]
    simp only [hm, decide_true, Bool.true_and, h, true_iff]
    -- all further terms are at least e's
    have mono : ∀ (es : List E) (k : Int), rises es k = true → ∀ x ∈ es, k ≤ x.t := by
     intro es
     induction es with
     | nil => intro k _ x hx; cases hx
     | cons a es ih =>
      intro k hk x hx
      unfold rises at hk
      split at hk
      ·cases hk
      ·rename_i hka
       rcases List.mem_cons.1 hx with rfl | hx
       ·omega
       ·have := ih a.t hk x hx; omega
    rw [List.all_eq_true]
    intro x hx
    have := mono es e.t h x hx
    simp; omega
   ·rw [if_pos (by omega)]
    simp [hm]
theorem rises_drop : ∀ (k : Nat) (es : List E) (m : Int), rises es m = true → ∃ m', rises (es.drop k) m' = true
 | 0, es, m, h => ⟨m, by simpa using h⟩
 | k + 1, [], m, h => ⟨m, by simpa using h⟩
 | k + 1, e :: es, m, h => by
  unfold rises at h
  split at h
  ·cases h
  ·simpa using rises_drop k es e.t h
theorem termAt_le {b bt : Int} {es : List E} {i t : Int} (h : termAt ⟨b, bt, es⟩ i = some t) : b ≤ i ∧ i ≤ b + es.length := by
 unfold termAt at h
 simp only at h
 split at h
 ·omega
 ·split at h
  ·cases h
  ·simp only [Option.map_eq_some_iff] at h
   obtain ⟨x, hx, _⟩ := h
   have := (List.getElem?_eq_some_iff.1 hx).1
   omega
theorem prg_append (b bt : Int) (les : List E) (prev pt : Int) (e : List E) (hv : fine ⟨b, bt, les⟩) (hp : I64 prev) (he : e.length ≤ 1048576) :
  W f_rlog_Append 0 [.agg [.int b, .int bt, .list (les.map E.enc)], .int prev, .int pt, .list (e.map E.enc)] =
   some [.int (appendF ⟨b, bt, les⟩ prev pt e).l.b, .int (appendF ⟨b, bt, les⟩ prev pt e).l.bt, .list ((appendF ⟨b, bt, les⟩ prev pt e).l.es.map E.enc), .int (appendF ⟨b, bt, les⟩ prev pt e).n, .bool (appendF ⟨b, bt, les⟩ prev pt e).ok] := by
 obtain ⟨h1, h2, h3, h4, h5, h6⟩ := hv
 simp only at h1 h2 h3 h4 h5 h6
 obtain ⟨hp1, hp2⟩ := hp
 have hcl := clone b bt les (by omega)
 rw [e_f_rlog_Append_0]
 simp [prg_rises e (by omega)]
 by_cases c0 : prev < 0 ∨ pt < 0 ∨ rises e (if 1 < pt then pt else 1) = false
 ·have : (prev < 0 ∨ pt < 0) ∨ rises e (if 1 < pt then pt else 1) = false := by rcases c0 with h | h | h <;> simp [h]
  simp [this, appendF, c0, hcl]
 ·have c0' : ¬ ((prev < 0 ∨ pt < 0) ∨ rises e (if 1 < pt then pt else 1) = false) := fun h => c0 (by rcases h with (h | h) | h <;> simp [h])
  have hr : rises e (if 1 < pt then pt else 1) = true := by
   cases hh : rises e (if 1 < pt then pt else 1) with
   | true => rfl
   | false => exact absurd (.inr (.inr hh)) c0
  have hp0 : 0 ≤ prev := by omega
  rw [if_neg c0', appendF, if_neg c0]
  have w1 : IntKind.i64.wrap (b - e.length) = b - e.length := wrap64 (by omega) (by omega)
  have w2 : IntKind.i64.wrap (b - prev) = b - prev := wrap64 (by omega) (by omega)
  have e1 : (if 0 < b - prev then b - prev else 0) = (((b - prev).toNat : Nat) : Int) := by split <;> omega
  -- both ways come to the second part
  have both : (if b - (e.length : Int) < prev then W f_rlog_Append 1 [.int prev, .int pt, .list (e.map E.enc), .int (((b - prev).toNat : Nat) : Int), .agg [.int b, .int bt, .list (les.map E.enc)], .int 0, .int 0]
    else W f_rlog_Append 1 [.int prev, .int pt, .list (e.map E.enc), .int e.length, .agg [.int b, .int bt, .list (les.map E.enc)], .int 0, .int 0]) =
    W f_rlog_Append 1 [.int prev, .int pt, .list (e.map E.enc), .int ((min (b - prev).toNat e.length : Nat) : Int), .agg [.int b, .int bt, .list (les.map E.enc)], .int 0, .int 0] := by
   split
   ·have : min (b - prev).toNat e.length = (b - prev).toNat := by omega
    rw [this]
   ·have : min (b - prev).toNat e.length = e.length := by omega
    rw [this]
  have hd : e.drop (min (b - prev).toNat e.length) = e.drop (b - prev).toNat := by
   by_cases c : (b - prev).toNat ≤ e.length
   ·rw [Nat.min_eq_left c]
   ·rw [Nat.min_eq_right (by omega), List.drop_of_length_le (Nat.le_refl _), List.drop_of_length_le (by omega)]
  simp only [w1, w2, e1]
  rw [both, e_f_rlog_Append_1]
  have h7 : (0 : Int) ≤ ((min (b - prev).toNat e.length : Nat) : Int) ∧ ((min (b - prev).toNat e.length : Nat) : Int) ≤ e.length := by omega
  have hmap : (e.map E.enc).drop (min (b - prev).toNat e.length) = (e.drop (b - prev).toNat).map E.enc := by rw [← List.map_drop, hd]
  have hri := prg_rises (e.drop (b - prev).toNat) (by rw [List.length_drop]; omega) bt
  obtain ⟨m', hm'⟩ := rises_drop (b - prev).toNat e _ hr
  have heq := rises_all (e.drop (b - prev).toNat) m' bt hm'
  simp only [O.sliceLo_list, List.length_map, h7, and_self, if_true, Option.bind_some, Int.toNat_natCast, hmap, O.proj_agg, List.getElem?_cons_zero, List.getElem?_cons_succ, hri, O.calls_1, O.not_bool, O.cnd_bool]
  by_cases c1 : okAll bt (e.drop (b - prev).toNat) = true
  ·have c1' := heq.2 c1
   simp only [c1, c1', Bool.not_true, Bool.false_eq_true, if_false, Bool.true_eq_false]
   have ht : tame ⟨b, bt, les⟩ := ⟨h1, h2, by simp only; omega⟩
   have hh := prg_hint b bt les prev pt ht hp0 ⟨hp1, hp2⟩
   -- the merge
   have fin : prev ≤ b + les.length → (calls (W f_rlog_clone 0 [.agg [.int b, .int bt, .list (les.map E.enc)]]) 3 fun x16 x17 x18 => (O.sub .i64 (.int prev) (.int b)).bind fun x19 => (O.max (.int 0) x19).bind fun x20 => (O.len (.list ((e.drop (b - prev).toNat).map E.enc))).bind fun x22 =>
     W f_rlog_Append 2 [.int prev, .list (e.map E.enc), x20, .list ((e.drop (b - prev).toNat).map E.enc), x22, .int 0, .agg [.int b, .int bt, .list (les.map E.enc)], .int 0, .int 0, x16, x17, x18]) =
     some [.int b, .int bt, .list (((mergeF les (prev - b).toNat (e.drop (b - prev).toNat)).take 400).map E.enc), .int (min (prev + e.length) (b + 400)), .bool true] := by
    intro hle
    have w3 : IntKind.i64.wrap (prev - b) = prev - b := wrap64 (by omega) (by omega)
    have e2 : (if 0 < prev - b then prev - b else 0) = (((prev - b).toNat : Nat) : Int) := by split <;> omega
    have := prg_app_2 prev b bt e (e.drop (b - prev).toNat) les (.int 0) (.int 0) (.int b) (.int bt) (by rw [List.length_drop]; omega) he ⟨h1, h2⟩ ⟨hp0, by omega⟩ (e.drop (b - prev).toNat).length 0 (prev - b).toNat les (by omega) (by rw [List.length_drop]; omega) h6
    rw [ploop_merge _ _ _ h6 (by omega)] at this
    simp only [hcl, O.calls_3, O.sub_int, w3, O.max_int, e2, Option.bind_some, O.len_list, List.length_map]
    exact this
   simp only [prg_termAt b bt les prev ht, O.gt_int]
   by_cases c2 : b < prev
   ·by_cases c3 : termAt ⟨b, bt, les⟩ prev = some pt
    ·have hf : fits ⟨b, bt, les⟩ prev pt := fun _ => c3
     have := termAt_le c3
     simp only [c3, optI, O.calls_2, Option.bind_some, c2, decide_true, O.cnd_bool, if_true, O.not_bool, Bool.not_true, Bool.false_eq_true, if_false, O.ne_int, hf, not_true]
     exact fin this.2
    ·have hf : ¬ fits ⟨b, bt, les⟩ prev pt := fun h => c3 (h c2)
     simp only [hf, not_false_iff, if_true]
     cases hq : termAt ⟨b, bt, les⟩ prev with
     | none => simp [optI, hh, c2, hcl]
     | some q =>
      have : ¬ q = pt := fun e => c3 (by rw [hq, e])
      simp [optI, this, hh, c2, hcl]
   ·have hf : fits ⟨b, bt, les⟩ prev pt := fun h => absurd h c2
    simp only [optI_getD, O.calls_2, Option.bind_some, c2, decide_false, O.cnd_bool, Bool.false_eq_true, if_false, hf, not_true]
    exact fin (by omega)
  ·have c1' : okAll bt (e.drop (b - prev).toNat) = false := by simpa using c1
   have c2 : rises (e.drop (b - prev).toNat) bt = false := by
    cases hh : rises (e.drop (b - prev).toNat) bt with
    | false => rfl
    | true => exact absurd (heq.1 hh) c1
   simp [c1', c2, hcl]
def endT : List E → Int → Int
 | [], m => m
 | e :: es, _ => endT es e.t
theorem rises_append : ∀ (xs ys : List E) (m : Int), rises (xs ++ ys) m = (rises xs m && rises ys (endT xs m))
 | [], ys, m => by simp [rises, endT]
 | x :: xs, ys, m => by
  simp only [List.cons_append, rises, endT]
  split
  ·rfl
  ·exact rises_append xs ys x.t
theorem endT_snoc : ∀ (xs : List E) (e : E) (m : Int), endT (xs ++ [e]) m = e.t
 | [], e, m => rfl
 | x :: xs, e, m => by simp only [List.cons_append, endT]; exact endT_snoc xs e x.t
theorem rises_take (k : Nat) (xs : List E) (m : Int) (h : rises xs m = true) : rises (xs.take k) m = true := by
 have := List.take_append_drop k xs
 rw [← this, rises_append, Bool.and_eq_true] at h
 exact h.1
theorem rises_more {m m' : Int} : ∀ {xs : List E}, rises xs m = true → m' ≤ m → rises xs m' = true
 | [], _, _ => rfl
 | e :: es, h, hm => by
  unfold rises at h ⊢
  split at h
  ·cases h
  ·rw [if_neg (by omega)]; exact h
theorem rises_merge (m : Int) : ∀ (es out : List E) (a : Nat), a ≤ out.length → rises out m = true → rises es (endT (out.take a) m) = true → rises (mergeF out a es) m = true
 | [], out, a, _, h, _ => h
 | e :: es, out, a, ha, h, he => by
  have ht := rises_take a out m h
  have hap : rises (out.take a ++ e :: es) m = true := by rw [rises_append, ht, he]; rfl
  unfold mergeF
  cases hc : out[a]? with
  | none => exact hap
  | some x =>
   have hlt := (List.getElem?_eq_some_iff.1 hc).1
   by_cases c : x.t = e.t
   ·simp only [c, if_true]
    refine rises_merge m es out (a + 1) (by omega) h ?_
    have : out.take (a + 1) = out.take a ++ [x] := by
     rw [List.take_add_one, hc]; rfl
    rw [this, endT_snoc, c]
    unfold rises at he
    split at he
    ·cases he
    ·exact he
   ·simp only [c, if_false]
    exact hap
theorem endT_get : ∀ (xs : List E) (m : Int) (x : E), xs[xs.length - 1]? = some x → endT xs m = x.t
 | [], m, x, h => by simp at h
 | [y], m, x, h => by simp at h; simp [endT, h]
 | y :: z :: xs, m, x, h => by
  simp only [endT]
  have := endT_get (z :: xs) y.t x (by simpa using h)
  simpa [endT] using this
theorem append_valid (l : L) (prev pt : Int) (e : List E) (hv : valid l = true) : valid (appendF l prev pt e).l = true := by
 unfold appendF
 by_cases c0 : prev < 0 ∨ pt < 0 ∨ rises e (if 1 < pt then pt else 1) = false
 ·rw [if_pos c0]; exact hv
 rw [if_neg c0]
 by_cases c1 : okAll l.bt (e.drop (l.b - prev).toNat) = false
 ·rw [if_pos c1]; exact hv
 rw [if_neg c1]
 by_cases c2 : ¬ fits l prev pt
 ·rw [if_pos c2]; exact hv
 rw [if_neg c2]
 obtain ⟨hf, hr⟩ := valid_inv hv
 obtain ⟨h1, h2, h3, h4, h5, h6⟩ := hf
 have c1 : okAll l.bt (e.drop (l.b - prev).toNat) = true := by simpa using c1
 have c2 : fits l prev pt := by simpa using c2
 have hre : rises e (if 1 < pt then pt else 1) = true := by
  cases hh : rises e (if 1 < pt then pt else 1) with
  | true => rfl
  | false => exact absurd (.inr (.inr hh)) c0
 have hp0 : 0 ≤ prev ∧ 0 ≤ pt := by omega
 unfold valid
 rw [Bool.and_eq_true, decide_eq_true_iff]
 refine ⟨⟨h1, h2, h3, h4, h5, by simp; omega⟩, rises_take _ _ _ ?_⟩
 by_cases c : l.b < prev
 ·have ht := c2 c
  have hle := termAt_le (b := l.b) (bt := l.bt) (es := l.es) ht
  have hz : (l.b - prev).toNat = 0 := by omega
  rw [hz, List.drop_zero]
  refine rises_merge _ _ _ _ (by omega) hr ?_
  -- the last one that stays has the term pt
  have : endT (l.es.take (prev - l.b).toNat) (if 1 < l.bt then l.bt else 1) = pt := by
   unfold termAt at ht
   rw [if_neg (by omega), if_neg (by omega), Option.map_eq_some_iff] at ht
   obtain ⟨x, hx, rfl⟩ := ht
   refine endT_get _ _ x ?_
   rw [List.length_take, Nat.min_eq_left (by omega), List.getElem?_take, if_pos (by omega)]
   exact hx
  rw [this]
  exact rises_more hre (by split <;> omega)
 ·have hz : (prev - l.b).toNat = 0 := by omega
  rw [hz]
  refine rises_merge _ _ _ _ (Nat.zero_le _) hr ?_
  rw [List.take_zero]
  simp only [endT]
  obtain ⟨m', hm'⟩ := rises_drop (l.b - prev).toNat e _ hre
  have hall : ∀ x ∈ e, 1 ≤ x.t := by
   have := (rises_all e _ 1 hre).1 (rises_more hre (by split <;> omega))
   intro x hx
   simpa using List.all_eq_true.1 this x hx
  refine (rises_all _ m' _ hm').2 ?_
  unfold okAll at c1 ⊢
  rw [List.all_eq_true] at c1 ⊢
  intro x hx
  have a1 := c1 x hx
  have a2 := hall x (List.mem_of_mem_drop hx)
  simp only [decide_eq_true_eq] at a1 ⊢
  split <;> omega
end Go.CT.Memb
namespace Go.CT.Memb
open Go.Proofs
structure G where
 kind : Int
 fr : Int
 to : Int
 term : Int
 ix : Int
 lt : Int
 com : Int
 ok : Bool
 es : List E
 sn : ByteArray
def G.enc (g : G) : IV := .agg [.int g.kind, .int g.fr, .int g.to, .int g.term, .int g.ix, .int g.lt, .int g.com, .bool g.ok, .list (g.es.map E.enc), .str g.sn]
theorem G.fold (k f t tm i l c : Int) (o : Bool) (es : List E) (sn : ByteArray) : IV.agg [.int k, .int f, .int t, .int tm, .int i, .int l, .int c, .bool o, .list (es.map E.enc), .str sn] = G.enc ⟨k, f, t, tm, i, l, c, o, es, sn⟩ := rfl
theorem G.fold0 (k f t tm i l c : Int) (o : Bool) (sn : ByteArray) : IV.agg [.int k, .int f, .int t, .int tm, .int i, .int l, .int c, .bool o, .list [], .str sn] = G.enc ⟨k, f, t, tm, i, l, c, o, [], sn⟩ := rfl
theorem E.fold (t : Int) (d : ByteArray) : IV.agg [.int t, .str d] = E.enc ⟨t, d⟩ := rfl
theorem G.p0 (g : G) : O.proj 0 g.enc = some (.int g.kind) := rfl
theorem G.p1 (g : G) : O.proj 1 g.enc = some (.int g.fr) := rfl
theorem G.p2 (g : G) : O.proj 2 g.enc = some (.int g.to) := rfl
theorem G.p3 (g : G) : O.proj 3 g.enc = some (.int g.term) := rfl
theorem G.p4 (g : G) : O.proj 4 g.enc = some (.int g.ix) := rfl
theorem G.p5 (g : G) : O.proj 5 g.enc = some (.int g.lt) := rfl
theorem G.p6 (g : G) : O.proj 6 g.enc = some (.int g.com) := rfl
theorem G.p7 (g : G) : O.proj 7 g.enc = some (.bool g.ok) := rfl
theorem G.p8 (g : G) : O.proj 8 g.enc = some (.list (g.es.map E.enc)) := rfl
theorem G.p9 (g : G) : O.proj 9 g.enc = some (.str g.sn) := rfl
structure N where
 id : Int
 size : Int
 role : Int
 term : Int
 vote : Int
 lead : Int
 el : Int
 to : Int
 vs : List Int
 nx : List Int
 mt : List Int
 com : Int
 app : Int
 b : Int
 bt : Int
 es : List E
 sn : ByteArray
 out : List G
def N.l (n : N) : L := ⟨n.b, n.bt, n.es⟩
def N.cells (n : N) : List IV := [.int n.id, .int n.size, .int n.role, .int n.term, .int n.vote, .int n.lead, .int n.el, .int n.to, .list (n.vs.map IV.int), .list (n.nx.map IV.int), .list (n.mt.map IV.int), .int n.com, .int n.app, .int n.b, .int n.bt, .list (n.es.map E.enc), .str n.sn]
def N.all (n : N) : List IV := [.int n.id, .int n.size, .int n.role, .int n.term, .int n.vote, .int n.lead, .int n.el, .int n.to, .list (n.vs.map IV.int), .list (n.nx.map IV.int), .list (n.mt.map IV.int), .int n.com, .int n.app, .int n.b, .int n.bt, .list (n.es.map E.enc), .str n.sn, .list (n.out.map G.enc)]
def N.allE (n : N) (e : Int) : List IV := [.int n.id, .int n.size, .int n.role, .int n.term, .int n.vote, .int n.lead, .int n.el, .int n.to, .list (n.vs.map IV.int), .list (n.nx.map IV.int), .list (n.mt.map IV.int), .int n.com, .int n.app, .int n.b, .int n.bt, .list (n.es.map E.enc), .str n.sn, .list (n.out.map G.enc), .int e]
def N.enc (n : N) : IV := .agg n.cells
theorem calls_cells {β : Type} (n : N) (f : IV → IV → IV → IV → IV → IV → IV → IV → IV → IV → IV → IV → IV → IV → IV → IV → IV → Option β) : calls (some n.cells) 17 f = f (.int n.id) (.int n.size) (.int n.role) (.int n.term) (.int n.vote) (.int n.lead) (.int n.el) (.int n.to) (.list (n.vs.map IV.int)) (.list (n.nx.map IV.int)) (.list (n.mt.map IV.int)) (.int n.com) (.int n.app) (.int n.b) (.int n.bt) (.list (n.es.map E.enc)) (.str n.sn) := rfl
theorem calls_all {β : Type} (n : N) (f : IV → IV → IV → IV → IV → IV → IV → IV → IV → IV → IV → IV → IV → IV → IV → IV → IV → IV → Option β) : calls (some n.all) 18 f = f (.int n.id) (.int n.size) (.int n.role) (.int n.term) (.int n.vote) (.int n.lead) (.int n.el) (.int n.to) (.list (n.vs.map IV.int)) (.list (n.nx.map IV.int)) (.list (n.mt.map IV.int)) (.int n.com) (.int n.app) (.int n.b) (.int n.bt) (.list (n.es.map E.enc)) (.str n.sn) (.list (n.out.map G.enc)) := rfl
theorem calls_allE {β : Type} (n : N) (e : Int) (f : IV → IV → IV → IV → IV → IV → IV → IV → IV → IV → IV → IV → IV → IV → IV → IV → IV → IV → IV → Option β) : calls (some (n.allE e)) 19 f = f (.int n.id) (.int n.size) (.int n.role) (.int n.term) (.int n.vote) (.int n.lead) (.int n.el) (.int n.to) (.list (n.vs.map IV.int)) (.list (n.nx.map IV.int)) (.list (n.mt.map IV.int)) (.int n.com) (.int n.app) (.int n.b) (.int n.bt) (.list (n.es.map E.enc)) (.str n.sn) (.list (n.out.map G.enc)) (.int e) := rfl
theorem N.eta (n : N) : N.mk n.id n.size n.role n.term n.vote n.lead n.el n.to n.vs n.nx n.mt n.com n.app n.b n.bt n.es n.sn n.out = n := rfl
theorem N.enc_def (n : N) : n.enc = .agg [.int n.id, .int n.size, .int n.role, .int n.term, .int n.vote, .int n.lead, .int n.el, .int n.to, .list (n.vs.map IV.int), .list (n.nx.map IV.int), .list (n.mt.map IV.int), .int n.com, .int n.app, .int n.b, .int n.bt, .list (n.es.map E.enc), .str n.sn] := rfl
theorem cap {n k : Nat} (h : n ≤ 1048576) (hk : k ≤ 1000) : (n + 1) * k ≤ maxBytes := by
 have : (n + 1) * k ≤ 1048577 * 1000 := Nat.mul_le_mul (by omega) hk
 unfold maxBytes; omega
section
variable (id size role term vote lead el to : Int) (vs nx mt : List Int) (com app b bt : Int) (es : List E) (sn : ByteArray) (out : List G)
theorem p_send (j : Int) (x : G) (ho : out.length ≤ 1048576) : W f_member_node_send 0 [.int id, .int size, .int role, .int term, .int vote, .int lead, .int el, .int to, .list (vs.map IV.int), .list (nx.map IV.int), .list (mt.map IV.int), .int com, .int app, .int b, .int bt, .list (es.map E.enc), .str sn, .list (out.map G.enc), .int j, x.enc] = some (N.all {(N.mk id size role term vote lead el to vs nx mt com app b bt es sn out) with out := out ++ [⟨x.kind, id, j, term, x.ix, x.lt, x.com, x.ok, x.es, x.sn⟩]}) := by
 rw [e_f_member_node_send_0]
 have hc : (out.length + 1) * 104 ≤ maxBytes := cap ho (by omega)
 simp only [G.p0, G.p1, G.p2, G.p3, G.p4, G.p5, G.p6, G.p7, G.p8, G.p9, Option.bind_some, O.mkagg_eq, O.mklist_eq, O.append_list, List.length_map, List.length_singleton, hc, if_true, G.fold, N.all, List.map_append, List.map_cons, List.map_nil]
theorem p_last (h : tame ⟨b, bt, es⟩) : W f_member_node_last 0 [.agg [.int id, .int size, .int role, .int term, .int vote, .int lead, .int el, .int to, .list (vs.map IV.int), .list (nx.map IV.int), .list (mt.map IV.int), .int com, .int app, .int b, .int bt, .list (es.map E.enc), .str sn, .list (out.map G.enc)]] = some [.int (lastI ⟨b, bt, es⟩)] := by
 rw [e_f_member_node_last_0]
 simp only [O.projs_agg, List.drop_succ_cons, List.drop_zero, List.take_succ_cons, List.take_zero, Option.bind_some, prg_last b bt es h, O.calls_2]
theorem p_majority (k : Int) (hs : 1 ≤ size ∧ size ≤ 7) : W f_member_node_majority 0 [.agg [.int id, .int size, .int role, .int term, .int vote, .int lead, .int el, .int to, .list (vs.map IV.int), .list (nx.map IV.int), .list (mt.map IV.int), .int com, .int app, .int b, .int bt, .list (es.map E.enc), .str sn, .list (out.map G.enc)], .int k] = some [.bool (decide (size < 2 * k))] := by
 rw [e_f_member_node_majority_0]
 have h2 : size.tdiv 2 = size / 2 := Int.tdiv_eq_ediv_of_nonneg (by omega)
 have hw : IntKind.i64.wrap (size / 2) = size / 2 := wrap64 (by omega) (by omega)
 simp only [O.proj_agg, List.getElem?_cons_succ, List.getElem?_cons_zero, Option.bind_some, O.quo_int, show ¬ (2 : Int) = 0 by omega, if_false, h2, hw, O.gt_int]
 congr 3
 rw [decide_eq_decide]; omega
theorem p_commitTo (i : Int) : W f_member_node_commitTo 0 [.int id, .int size, .int role, .int term, .int vote, .int lead, .int el, .int to, .list (vs.map IV.int), .list (nx.map IV.int), .list (mt.map IV.int), .int com, .int app, .int b, .int bt, .list (es.map E.enc), .str sn, .list (out.map G.enc), .int i] = some (N.all (if com < i then {(N.mk id size role term vote lead el to vs nx mt com app b bt es sn out) with com := i, app := i} else (N.mk id size role term vote lead el to vs nx mt com app b bt es sn out))) := by
 rw [e_f_member_node_commitTo_0]
 simp only [O.gt_int, Option.bind_some, O.cnd_bool, decide_eq_true_eq]
 split <;> rfl
theorem p_follow (i : Int) : W f_member_node_follow 0 [.int id, .int size, .int role, .int term, .int vote, .int lead, .int el, .int to, .list (vs.map IV.int), .list (nx.map IV.int), .list (mt.map IV.int), .int com, .int app, .int b, .int bt, .list (es.map E.enc), .str sn, .list (out.map G.enc), .int i] = some (N.all {(N.mk id size role term vote lead el to vs nx mt com app b bt es sn out) with role := 0, vs := [], lead := i, el := 0}) := by
 rw [e_f_member_node_follow_0]; rfl
theorem p_add (d : ByteArray) (he : es.length ≤ 1048576) : W f_member_node_add 0 [.int id, .int size, .int role, .int term, .int vote, .int lead, .int el, .int to, .list (vs.map IV.int), .list (nx.map IV.int), .list (mt.map IV.int), .int com, .int app, .int b, .int bt, .list (es.map E.enc), .str sn, .list (out.map G.enc), .str d] = some (N.all {(N.mk id size role term vote lead el to vs nx mt com app b bt es sn out) with es := es ++ [⟨term, d⟩]}) := by
 rw [e_f_member_node_add_0]
 have hc : (es.length + 1) * 24 ≤ maxBytes := cap he (by omega)
 simp only [Option.bind_some, O.mkagg_eq, O.mklist_eq, O.append_list, List.length_map, List.length_singleton, hc, if_true, E.fold, N.all, List.map_append, List.map_cons, List.map_nil]
end
def appMsg (n : N) (j i : Int) : G :=
 if i ≤ n.b then ⟨5, n.id, j, n.term, n.b, n.bt, 0, false, [], n.sn⟩
 else ⟨3, n.id, j, n.term, i - 1, (termAt n.l (i - 1)).getD 0, n.com, false, (fromI n.l i 8).getD [], ⟨#[]⟩⟩
theorem optE_getD (o : Option (List E)) : optE o = [.list ((o.getD []).map E.enc), .bool o.isSome] := by cases o <;> rfl
def Mid (i : Int) : Prop := -4000000000000000 ≤ i ∧ i ≤ 4000000000000000
theorem p_appendTo (id size role term vote lead el to : Int) (vs nx mt : List Int) (com app b bt : Int) (es : List E) (sn : ByteArray) (out : List G) (j : Nat) (i : Int) (ho : out.length ≤ 1048576) (h : tame ⟨b, bt, es⟩) (hi : nx[j]? = some i) (hm : Mid i) :
  W f_member_node_appendTo 0 [.int id, .int size, .int role, .int term, .int vote, .int lead, .int el, .int to, .list (vs.map IV.int), .list (nx.map IV.int), .list (mt.map IV.int), .int com, .int app, .int b, .int bt, .list (es.map E.enc), .str sn, .list (out.map G.enc), .int j] = some (N.all {(N.mk id size role term vote lead el to vs nx mt com app b bt es sn out) with out := out ++ [appMsg (N.mk id size role term vote lead el to vs nx mt com app b bt es sn out) j i]}) := by
 rw [e_f_member_node_appendTo_0]
 have hw : IntKind.i64.wrap (i - 1) = i - 1 := wrap64 (by have := hm.1; omega) (by have := hm.2; omega)
 have hs := fun x => p_send id size role term vote lead el to vs nx mt com app b bt es sn out j x ho
 simp only [O.index_list, Int.natCast_nonneg, if_true, Int.toNat_natCast, List.getElem?_map, hi, Option.map_some, Option.bind_some, O.le_int, O.cnd_bool, decide_eq_true_eq, O.mkagg_eq, G.fold0, hs, calls_all, O.sub_int, hw, prg_termAt b bt es _ h, prg_from b bt es _ _ h, optI_getD, optE_getD, O.calls_2, G.fold]
 unfold appMsg
 split <;> rfl
def msgs (n : N) : Nat → Nat → List G
 | 0, _ => []
 | k + 1, i => (if (i : Int) = n.id then [] else [appMsg n i (n.nx.getD i 0)]) ++ msgs n k (i + 1)
def bcast (n : N) : List G := msgs n n.size.toNat 0
theorem msgs_out (n : N) (o : List G) : ∀ k i : Nat, msgs {n with out := o} k i = msgs n k i
 | 0, _ => rfl
 | k + 1, i => by rw [msgs, msgs, msgs_out n o k (i + 1)]; rfl
end Go.CT.Memb
namespace Go.CT.Memb
open Go.Proofs
theorem lt_cast {i n : Nat} : decide ((i : Int) < (n : Int)) = decide (i < n) := by simp
def NX (size : Int) (nx : List Int) : Prop := ∀ j : Nat, (j : Int) < size → ∃ v, nx[j]? = some v ∧ Mid v
theorem p_broadcast_1 (id size role term vote lead el to : Int) (vs nx mt : List Int) (com app b bt : Int) (es : List E) (sn : ByteArray) (h : tame ⟨b, bt, es⟩) (hn : NX size nx) (hs : size ≤ 7) : ∀ (k i : Nat) (out : List G), ((i + k : Nat) : Int) = size → out.length + k ≤ 1048576 →
  W f_member_node_broadcast 1 [.int size, .int i, .int id, .int size, .int role, .int term, .int vote, .int lead, .int el, .int to, .int com, .int app, .int b, .int bt, .str sn, .list (vs.map IV.int), .list (nx.map IV.int), .list (mt.map IV.int), .list (es.map E.enc), .list (out.map G.enc)] = some (N.all {(N.mk id size role term vote lead el to vs nx mt com app b bt es sn out) with out := out ++ msgs (N.mk id size role term vote lead el to vs nx mt com app b bt es sn out) k i})
 | 0, i, out, hk, ho => by
  rw [e_f_member_node_broadcast_1]
  have h1 : ¬ (i : Int) < size := by omega
  simp only [O.lt_int, h1, decide_false, Option.bind_some, O.cnd_bool, Bool.false_eq_true, if_false, msgs, List.append_nil, N.all]
 | k + 1, i, out, hk, ho => by
  rw [e_f_member_node_broadcast_1]
  have h1 : (i : Int) < size := by omega
  have hw : IntKind.i64.wrap ((i : Int) + 1) = ((i + 1 : Nat) : Int) := by rw [wrap64 (by omega) (by omega)]; rfl
  obtain ⟨v, hv, hm⟩ := hn i h1
  have hg : nx.getD i 0 = v := by rw [List.getD_eq_getElem?_getD, hv]; rfl
  have hap := fun out (ho : out.length ≤ 1048576) => p_appendTo id size role term vote lead el to vs nx mt com app b bt es sn out i v ho h hv hm
  simp only [O.lt_int, h1, decide_true, Option.bind_some, O.cnd_bool, if_true, O.ne_int, msgs, hg]
  by_cases c : (i : Int) = id
  ·have ih := p_broadcast_1 id size role term vote lead el to vs nx mt com app b bt es sn h hn hs k (i + 1) out (by omega) (by omega)
   have hd : decide ((i : Int) = id) = true := by simp [c]
   rw [if_pos c]
   simp only [hd, Bool.not_true, Bool.false_eq_true, if_false, e_f_member_node_broadcast_2, O.add_int, Option.bind_some, hw, ih, List.nil_append]
  ·have ih := p_broadcast_1 id size role term vote lead el to vs nx mt com app b bt es sn h hn hs k (i + 1) (out ++ [appMsg (N.mk id size role term vote lead el to vs nx mt com app b bt es sn out) i v]) (by omega) (by simp; omega)
   have hmo : msgs (N.mk id size role term vote lead el to vs nx mt com app b bt es sn (out ++ [appMsg (N.mk id size role term vote lead el to vs nx mt com app b bt es sn out) i v])) k (i + 1) = msgs (N.mk id size role term vote lead el to vs nx mt com app b bt es sn out) k (i + 1) := msgs_out (N.mk id size role term vote lead el to vs nx mt com app b bt es sn out) _ k (i + 1)
   simp only [c, decide_false, Bool.not_false, if_true, if_false, hap out (by omega), calls_all, e_f_member_node_broadcast_2, O.add_int, Option.bind_some, hw, ih, hmo, List.append_assoc]
theorem p_broadcast (id size role term vote lead el to : Int) (vs nx mt : List Int) (com app b bt : Int) (es : List E) (sn : ByteArray) (out : List G) (h : tame ⟨b, bt, es⟩) (hn : NX size nx) (hs : 0 ≤ size ∧ size ≤ 7) (ho : out.length + 7 ≤ 1048576) :
  W f_member_node_broadcast 0 [.int id, .int size, .int role, .int term, .int vote, .int lead, .int el, .int to, .list (vs.map IV.int), .list (nx.map IV.int), .list (mt.map IV.int), .int com, .int app, .int b, .int bt, .list (es.map E.enc), .str sn, .list (out.map G.enc)] = some (N.all {(N.mk id size role term vote lead el to vs nx mt com app b bt es sn out) with out := out ++ bcast (N.mk id size role term vote lead el to vs nx mt com app b bt es sn out)}) := by
 rw [e_f_member_node_broadcast_0]
 exact p_broadcast_1 id size role term vote lead el to vs nx mt com app b bt es sn h hn hs.2 size.toNat 0 out (by omega) (by omega)
def cnt (l : List Int) (i : Int) : Nat := (l.filter fun k => decide (i ≤ k)).length
theorem cnt_cons (x : Int) (l : List Int) (i : Int) : cnt (x :: l) i = (if i ≤ x then 1 else 0) + cnt l i := by
 unfold cnt
 rw [List.filter_cons]
 by_cases c : i ≤ x
 ·simp [c]; omega
 ·simp [c]
theorem p_advance_2 (id size role term vote lead el to : Int) (vs nx mt : List Int) (com app b bt : Int) (es : List E) (sn : ByteArray) (out : List G) (i : Int) (hl : mt.length ≤ 1048576) : ∀ (n k c : Nat), k + n = mt.length → c + n ≤ 1048576 →
  W f_member_node_advance 2 [.int i, .int c, .int mt.length, .int k, .int id, .int size, .int role, .int term, .int vote, .int lead, .int el, .int to, .int com, .int app, .int b, .int bt, .str sn, .list (mt.map IV.int), .list (vs.map IV.int), .list (nx.map IV.int), .list (es.map E.enc), .list (out.map G.enc)] = W f_member_node_advance 2 [.int i, .int (c + cnt (mt.drop k) i : Nat), .int mt.length, .int mt.length, .int id, .int size, .int role, .int term, .int vote, .int lead, .int el, .int to, .int com, .int app, .int b, .int bt, .str sn, .list (mt.map IV.int), .list (vs.map IV.int), .list (nx.map IV.int), .list (es.map E.enc), .list (out.map G.enc)]
 | 0, k, c, hk, hc => by
  have h1 : k = mt.length := by omega
  subst h1
  rw [List.drop_length]; rfl
 | n + 1, k, c, hk, hc => by
  have hi : k < mt.length := by omega
  have hw : IntKind.i64.wrap ((k : Int) + 1) = ((k + 1 : Nat) : Int) := by rw [wrap64 (by omega) (by omega)]; rfl
  have hw2 : IntKind.i64.wrap ((c : Int) + 1) = ((c + 1 : Nat) : Int) := by rw [wrap64 (by omega) (by omega)]; rfl
  conv => lhs; rw [e_f_member_node_advance_2]
  simp only [O.lt_int, lt_cast, hi, decide_true, Option.bind_some, O.cnd_bool, if_true, O.index_list, Int.natCast_nonneg, Int.toNat_natCast, List.getElem?_map, List.getElem?_eq_getElem hi, Option.map_some, O.ge_int, decide_eq_true_eq, e_f_member_node_advance_3, O.add_int, hw, hw2]
  rw [List.drop_eq_getElem_cons hi, cnt_cons]
  by_cases d : i ≤ mt[k]
  ·rw [if_pos d, if_pos d, p_advance_2 id size role term vote lead el to vs nx mt com app b bt es sn out i hl n (k + 1) (c + 1) (by omega) (by omega)]
   rw [Nat.add_assoc]
  ·rw [if_neg d, if_neg d, p_advance_2 id size role term vote lead el to vs nx mt com app b bt es sn out i hl n (k + 1) c (by omega) (by omega), Nat.zero_add]
def advN (n : N) : Nat → N
 | 0 => n
 | k + 1 => if termAt n.l (n.com + (k + 1 : Nat)) = some n.term ∧ n.size < 2 * (cnt n.mt (n.com + (k + 1 : Nat)) : Nat) then {n with com := n.com + (k + 1 : Nat), app := n.com + (k + 1 : Nat)} else advN n k
def advF (n : N) : N := advN n (lastI n.l - n.com).toNat
theorem p_advance_1 (id size role term vote lead el to : Int) (vs nx mt : List Int) (com app b bt : Int) (es : List E) (sn : ByteArray) (out : List G) (h : tame ⟨b, bt, es⟩) (hs : 1 ≤ size ∧ size ≤ 7) (hm : Mid com) (hl : mt.length ≤ 1000000) : ∀ k : Nat, k ≤ 8000000000000000 →
  W f_member_node_advance 1 [.int (com + k), .int id, .int size, .int role, .int term, .int vote, .int lead, .int el, .int to, .int com, .int app, .int b, .int bt, .str sn, .list (vs.map IV.int), .list (nx.map IV.int), .list (mt.map IV.int), .list (es.map E.enc), .list (out.map G.enc)] = some (N.all (advN (N.mk id size role term vote lead el to vs nx mt com app b bt es sn out) k))
 | 0, _ => by
  rw [e_f_member_node_advance_1]
  have h1 : ¬ com < com + ((0 : Nat) : Int) := by omega
  simp only [O.gt_int, h1, decide_false, Option.bind_some, O.cnd_bool, Bool.false_eq_true, if_false, advN, N.all]
 | k + 1, hk => by
  rw [e_f_member_node_advance_1]
  have h1 : com < com + ((k + 1 : Nat) : Int) := by omega
  have hw : IntKind.i64.wrap (com + ((k + 1 : Nat) : Int) - 1) = com + k := by
   have := hm.1; have := hm.2
   rw [wrap64 (by omega) (by omega)]; omega
  have h2 := p_advance_2 id size role term vote lead el to vs nx mt com app b bt es sn out (com + (k + 1 : Nat)) (by omega) mt.length 0 0 (by omega) (by omega)
  simp only [Int.cast_ofNat_Int, List.drop_zero, Nat.zero_add] at h2
  simp only [O.gt_int, h1, decide_true, Option.bind_some, O.cnd_bool, if_true, O.len_list, List.length_map, h2]
  rw [e_f_member_node_advance_2]
  have h3 : ¬ (mt.length : Int) < mt.length := by omega
  have hmaj := p_majority id size role term vote lead el to vs nx mt com app b bt es sn out (cnt mt (com + (k + 1 : Nat)) : Nat) hs
  have hct := p_commitTo id size role term vote lead el to vs nx mt com app b bt es sn out (com + (k + 1 : Nat))
  rw [if_pos h1] at hct
  have ih := p_advance_1 id size role term vote lead el to vs nx mt com app b bt es sn out h hs hm hl k (by omega)
  simp only [O.lt_int, h3, decide_false, Option.bind_some, O.cnd_bool, Bool.false_eq_true, if_false, O.mkagg_eq, prg_termAt b bt es _ h, optI_getD, O.calls_2, O.eq_int, hmaj, O.calls_1, hct, calls_all, O.sub_int, hw, ih, advN, N.l]
  have hcase : termAt ⟨b, bt, es⟩ (com + (k + 1 : Nat)) = none ∨ ∃ t, termAt ⟨b, bt, es⟩ (com + (k + 1 : Nat)) = some t := by
   cases termAt ⟨b, bt, es⟩ (com + (k + 1 : Nat)) with
   | none => exact .inl rfl
   | some t => exact .inr ⟨t, rfl⟩
  generalize hX : com + ((k + 1 : Nat) : Int) = X at *
  rcases hcase with ht | ⟨t, ht⟩
  ·simp [ht]
  ·by_cases c1 : t = term
   ·by_cases c2 : size < 2 * (cnt mt X : Nat)
    ·simp [ht, c1, c2, N.all]
    ·simp [ht, c1, c2]
   ·simp [ht, c1]
theorem p_advance (id size role term vote lead el to : Int) (vs nx mt : List Int) (com app b bt : Int) (es : List E) (sn : ByteArray) (out : List G) (h : tame ⟨b, bt, es⟩) (hs : 1 ≤ size ∧ size ≤ 7) (hm : Mid com) (hl : mt.length ≤ 1000000) :
  W f_member_node_advance 0 [.int id, .int size, .int role, .int term, .int vote, .int lead, .int el, .int to, .list (vs.map IV.int), .list (nx.map IV.int), .list (mt.map IV.int), .int com, .int app, .int b, .int bt, .list (es.map E.enc), .str sn, .list (out.map G.enc)] = some (N.all (advF (N.mk id size role term vote lead el to vs nx mt com app b bt es sn out))) := by
 rw [e_f_member_node_advance_0]
 simp only [O.mkagg_eq, Option.bind_some, p_last id size role term vote lead el to vs nx mt com app b bt es sn out h, O.calls_1]
 unfold advF N.l
 have hla : lastI ⟨b, bt, es⟩ ≤ 1000000004194304 := by have := h.2.1; have := h.2.2; unfold lastI; simp only at *; omega
 by_cases c : com ≤ lastI ⟨b, bt, es⟩
 ·have e : lastI ⟨b, bt, es⟩ = com + ((lastI ⟨b, bt, es⟩ - com).toNat : Int) := by omega
  have := p_advance_1 id size role term vote lead el to vs nx mt com app b bt es sn out h hs hm hl (lastI ⟨b, bt, es⟩ - com).toNat (by have := hm.1; omega)
  rw [← e] at this
  exact this
 ·rw [e_f_member_node_advance_1]
  have h1 : ¬ com < lastI ⟨b, bt, es⟩ := by omega
  have h0 : (lastI ⟨b, bt, es⟩ - com).toNat = 0 := by omega
  simp only [O.gt_int, h1, decide_false, Option.bind_some, O.cnd_bool, Bool.false_eq_true, if_false, h0, advN, N.all]
def ownF (n : N) : N := {n with mt := n.mt.set n.id.toNat (lastI n.l), nx := n.nx.set n.id.toNat (lastI n.l + 1)}
theorem p_own (id size role term vote lead el to : Int) (vs nx mt : List Int) (com app b bt : Int) (es : List E) (sn : ByteArray) (out : List G) (h : tame ⟨b, bt, es⟩) (hi : 0 ≤ id) (h1 : id < mt.length) (h2 : id < nx.length) :
  W f_member_node_own 0 [.int id, .int size, .int role, .int term, .int vote, .int lead, .int el, .int to, .list (vs.map IV.int), .list (nx.map IV.int), .list (mt.map IV.int), .int com, .int app, .int b, .int bt, .list (es.map E.enc), .str sn, .list (out.map G.enc)] = some (N.all (ownF (N.mk id size role term vote lead el to vs nx mt com app b bt es sn out))) := by
 rw [e_f_member_node_own_0]
 have hla : 0 ≤ lastI ⟨b, bt, es⟩ ∧ lastI ⟨b, bt, es⟩ ≤ 1000000004194304 := by have := h.1; have := h.2.1; have := h.2.2; unfold lastI; simp only at *; omega
 have hw : IntKind.i64.wrap (lastI ⟨b, bt, es⟩ + 1) = lastI ⟨b, bt, es⟩ + 1 := wrap64 (by omega) (by omega)
 have hm1 : mt[id.toNat]? = some (mt[id.toNat]'(by omega)) := List.getElem?_eq_getElem _
 have hm2 : nx[id.toNat]? = some (nx[id.toNat]'(by omega)) := List.getElem?_eq_getElem _
 simp only [O.mkagg_eq, Option.bind_some, p_last id size role term vote lead el to vs nx mt com app b bt es sn out h, O.calls_1, O.add_int, hw, O.index_list, hi, if_true, List.getElem?_map, hm1, hm2, Option.map_some, O.setAt_whole, ownF, N.l, N.all, List.map_set]
end Go.CT.Memb
namespace Go.CT.Memb
open Go.Proofs
theorem tame_add {b bt : Int} {es : List E} {e : E} (h : tame ⟨b, bt, es⟩) (hl : es.length < 400) : tame ⟨b, bt, es ++ [e]⟩ := by
 refine ⟨h.1, h.2.1, ?_⟩
 simp only [List.length_append, List.length_singleton]
 omega
theorem p_lead_1 (id size role term vote lead el to : Int) (vs nx mt : List Int) (com app b bt : Int) (es : List E) (sn : ByteArray) (h : tame ⟨b, bt, es⟩) (hl : es.length ≤ 400) (out : List G) : ∀ (k i : Nat) (nx : List Int), i + k = nx.length → nx.length ≤ 1000 →
    W f_member_node_lead 1 [.int nx.length, .int i, .int id, .int size, .int role, .int term, .int vote, .int lead, .int el, .int to, .int com, .int app, .int b, .int bt, .str sn, .list (nx.map IV.int), .list (mt.map IV.int), .list (es.map E.enc), .list (out.map G.enc)] =
    W f_member_node_lead 2 ((fun (n : N) => [.int n.id, .int n.size, .int n.role, .int n.term, .int n.vote, .int n.lead, .int n.el, .int n.to, .list (n.vs.map IV.int), .list (n.nx.map IV.int), .list (n.mt.map IV.int), .int n.com, .int n.app, .int n.b, .int n.bt, .list (n.es.map E.enc), .str n.sn].take 8 ++ ([.int n.id, .int n.size, .int n.role, .int n.term, .int n.vote, .int n.lead, .int n.el, .int n.to, .list (n.vs.map IV.int), .list (n.nx.map IV.int), .list (n.mt.map IV.int), .int n.com, .int n.app, .int n.b, .int n.bt, .list (n.es.map E.enc), .str n.sn].drop 11).take 4 ++ [.str n.sn] ++ ([.int n.id, .int n.size, .int n.role, .int n.term, .int n.vote, .int n.lead, .int n.el, .int n.to, .list (n.vs.map IV.int), .list (n.nx.map IV.int), .list (n.mt.map IV.int), .int n.com, .int n.app, .int n.b, .int n.bt, .list (n.es.map E.enc), .str n.sn].drop 8).take 3 ++ [.list (n.es.map E.enc), .list (n.out.map G.enc)])
      (if es.length < 400 then N.mk id size role term vote lead el to [] (nx.take i ++ List.replicate k (lastI ⟨b, bt, es⟩ + 1)) mt com app b bt (es ++ [⟨term, ⟨#[]⟩⟩]) sn out
       else N.mk id size role term vote lead el to [] (nx.take i ++ List.replicate k (lastI ⟨b, bt, es⟩ + 1)) mt com app b bt es sn out))
  | 0, i, nx, hk, hb => by
    rw [e_f_member_node_lead_1]
    have h1 : ¬ i < nx.length := by omega
    have e : nx.take i ++ List.replicate 0 (lastI ⟨b, bt, es⟩ + 1) = nx := by rw [List.take_of_length_le (by omega)]; simp
    rw [e]
    have ha := p_add id size role term vote lead el to [] nx mt com app b bt es sn out ⟨#[]⟩ (by omega)
    simp only [O.lt_int, lt_cast, h1, decide_false, Option.bind_some, O.cnd_bool, Bool.false_eq_true, if_false, O.len_list, List.length_map]
    by_cases c : es.length < 400
    · have c' : (es.length : Int) < 400 := by omega
      simp only [List.map_nil] at ha
      simp only [c', decide_true, if_true, ha, calls_all, if_pos c]
      rfl
    · have c' : ¬ (es.length : Int) < 400 := by omega
      simp only [c', decide_false, Bool.false_eq_true, if_false, if_neg c]
      rfl
  | k + 1, i, nx, hk, hb => by
    rw [e_f_member_node_lead_1]
    have h1 : i < nx.length := by omega
    have hla : 0 ≤ lastI ⟨b, bt, es⟩ ∧ lastI ⟨b, bt, es⟩ ≤ 1000000004194304 := by have := h.1; have := h.2.1; have := h.2.2; unfold lastI; simp only at *; omega
    have hw : IntKind.i64.wrap (lastI ⟨b, bt, es⟩ + 1) = lastI ⟨b, bt, es⟩ + 1 := wrap64 (by omega) (by omega)
    have hw2 : IntKind.i64.wrap ((i : Int) + 1) = ((i + 1 : Nat) : Int) := by rw [wrap64 (by omega) (by omega)]; rfl
    have hla2 := p_last id size role term vote lead el to [] nx mt com app b bt es sn out h
    simp only [List.map_nil] at hla2
    have ih := p_lead_1 id size role term vote lead el to vs nx mt com app b bt es sn h hl out k (i + 1) (nx.set i (lastI ⟨b, bt, es⟩ + 1)) (by simp; omega) (by simp; omega)
    have e : (nx.set i (lastI ⟨b, bt, es⟩ + 1)).take (i + 1) ++ List.replicate k (lastI ⟨b, bt, es⟩ + 1) = nx.take i ++ List.replicate (k + 1) (lastI ⟨b, bt, es⟩ + 1) := by
      rw [List.take_set, List.take_succ_eq_append_getElem h1, List.set_append_right _ _ (by simp; omega), List.replicate_succ, List.append_assoc]
      congr 1
      simp [Nat.min_eq_left (Nat.le_of_lt h1)]
    rw [e, List.length_set, List.map_set] at ih
    simp only [O.lt_int, lt_cast, h1, decide_true, Option.bind_some, O.cnd_bool, if_true, O.mkagg_eq, hla2, O.calls_1, O.add_int, hw, hw2, O.index_list, Int.natCast_nonneg, Int.toNat_natCast, List.getElem?_map, List.getElem?_eq_getElem h1, Option.map_some, O.setAt_whole, ih]
def lead0 (n : N) : N := {n with role := 2, lead := n.id, el := 0, vs := [], nx := List.replicate n.size.toNat (lastI n.l + 1), mt := List.replicate n.size.toNat 0}
def lead1 (n : N) : N := if n.es.length < 400 then {lead0 n with es := n.es ++ [⟨n.term, ⟨#[]⟩⟩]} else lead0 n
def say (n : N) : N := {n with out := n.out ++ bcast n}
def sayAdv (n : N) : N := if n.size = 1 then advF (say n) else say n
def leadF (n : N) : N := sayAdv (ownF (lead1 n))
theorem mid_last {b bt : Int} {es : List E} (h : tame ⟨b, bt, es⟩) : 0 ≤ lastI ⟨b, bt, es⟩ ∧ lastI ⟨b, bt, es⟩ ≤ 1000000004194304 := by
 have := h.1; have := h.2.1; have := h.2.2; unfold lastI; simp only at *; omega
theorem p_lead_2 (id size role term vote lead el to : Int) (vs nx mt : List Int) (com app b bt : Int) (es : List E) (sn : ByteArray) (out : List G) (h : tame ⟨b, bt, es⟩) (hid : 0 ≤ id ∧ id < size) (hs : size ≤ 7) (hnx : (nx.length : Int) = size) (hmt : (mt.length : Int) = size) (hmid : ∀ v ∈ nx, Mid v) (hcom : Mid com) (ho : out.length + 7 ≤ 1048576) :
  W f_member_node_lead 2 [.int id, .int size, .int role, .int term, .int vote, .int lead, .int el, .int to, .int com, .int app, .int b, .int bt, .str sn, .list (vs.map IV.int), .list (nx.map IV.int), .list (mt.map IV.int), .list (es.map E.enc), .list (out.map G.enc)] = some (N.all (sayAdv (ownF (N.mk id size role term vote lead el to vs nx mt com app b bt es sn out)))) := by
 have hla := mid_last h
 have hNX : NX size (nx.set id.toNat (lastI ⟨b, bt, es⟩ + 1)) := fun j hj => by
  have hj2 : j < (nx.set id.toNat (lastI ⟨b, bt, es⟩ + 1)).length := by rw [List.length_set]; omega
  refine ⟨_, List.getElem?_eq_getElem hj2, ?_⟩
  rcases List.mem_or_eq_of_mem_set (List.getElem_mem hj2) with g | g
  ·exact hmid _ g
  ·rw [g]; unfold Mid; omega
 rw [e_f_member_node_lead_2]
 have h1 := p_own id size role term vote lead el to vs nx mt com app b bt es sn out h hid.1 (by omega) (by omega)
 have h2 := p_broadcast id size role term vote lead el to vs (nx.set id.toNat (lastI ⟨b, bt, es⟩ + 1)) (mt.set id.toNat (lastI ⟨b, bt, es⟩)) com app b bt es sn out h hNX (by omega) ho
 have h3 := fun o => p_advance id size role term vote lead el to vs (nx.set id.toNat (lastI ⟨b, bt, es⟩ + 1)) (mt.set id.toNat (lastI ⟨b, bt, es⟩)) com app b bt es sn o h (by omega) hcom (by simp; omega)
 simp only [h1, calls_all, ownF, N.l, h2, O.eq_int, Option.bind_some, O.cnd_bool, decide_eq_true_eq, h3]
 unfold sayAdv say
 split <;> simp only [N.all]
theorem p_lead (id size role term vote lead el to : Int) (vs nx mt : List Int) (com app b bt : Int) (es : List E) (sn : ByteArray) (out : List G) (h : tame ⟨b, bt, es⟩) (hl : es.length ≤ 400) (hid : 0 ≤ id ∧ id < size) (hs : size ≤ 7) (hcom : Mid com) (ho : out.length + 7 ≤ 1048576) :
  W f_member_node_lead 0 [.int id, .int size, .int role, .int term, .int vote, .int lead, .int el, .int to, .list (vs.map IV.int), .list (nx.map IV.int), .list (mt.map IV.int), .int com, .int app, .int b, .int bt, .list (es.map E.enc), .str sn, .list (out.map G.enc)] = some (N.all (leadF (N.mk id size role term vote lead el to vs nx mt com app b bt es sn out))) := by
 have hla := mid_last h
 rw [e_f_member_node_lead_0]
 have hz : 0 ≤ size ∧ size ≤ size ∧ size * ((8 : Nat) : Int) ≤ ((maxBytes : Nat) : Int) := ⟨by omega, by omega, by unfold maxBytes; omega⟩
 have hk := p_lead_1 id size 2 term vote id 0 to [] [] (List.replicate size.toNat 0) com app b bt es sn h hl out size.toNat 0 (List.replicate size.toNat 0) (by simp) (by simp; omega)
 simp only [List.length_replicate, List.map_replicate, Int.cast_ofNat_Int, List.take_zero, List.nil_append] at hk
 have hsz : ((size.toNat : Nat) : Int) = size := by omega
 simp only [O.zeros_int, if_pos hz, Option.bind_some, O.len_list, List.length_replicate, hsz] at hk ⊢
 rw [hk]
 unfold leadF lead1 lead0
 have hmid : ∀ v ∈ List.replicate size.toNat (lastI ⟨b, bt, es⟩ + 1), Mid v := fun v hv => by
  rw [(List.mem_replicate.1 hv).2]; unfold Mid; omega
 by_cases c : es.length < 400
 ·rw [if_pos c, if_pos c]
  exact p_lead_2 id size 2 term vote id 0 to [] (List.replicate size.toNat (lastI ⟨b, bt, es⟩ + 1)) (List.replicate size.toNat 0) com app b bt (es ++ [⟨term, ⟨#[]⟩⟩]) sn out (tame_add h c) hid hs (by simp; omega) (by simp; omega) hmid hcom ho
 ·rw [if_neg c, if_neg c]
  exact p_lead_2 id size 2 term vote id 0 to [] (List.replicate size.toNat (lastI ⟨b, bt, es⟩ + 1)) (List.replicate size.toNat 0) com app b bt es sn out h hid hs (by simp; omega) (by simp; omega) hmid hcom ho
def asks (n : N) (ix lt : Int) : Nat → Nat → List G
 | 0, _ => []
 | k + 1, i => (if (i : Int) = n.id then [] else [⟨1, n.id, i, n.term, ix, lt, 0, false, [], ⟨#[]⟩⟩]) ++ asks n ix lt k (i + 1)
theorem asks_out (n : N) (o : List G) (ix lt : Int) : ∀ k i : Nat, asks {n with out := o} ix lt k i = asks n ix lt k i
 | 0, _ => rfl
 | k + 1, i => by rw [asks, asks, asks_out n o ix lt k (i + 1)]
theorem p_elect_1 (id size role term vote lead el to : Int) (vs nx mt : List Int) (com app b bt : Int) (es : List E) (sn : ByteArray) (ix lt : Int) (hs : size ≤ 7) : ∀ (k i : Nat) (out : List G), ((i + k : Nat) : Int) = size → out.length + k ≤ 1048576 →
  W f_member_node_elect 1 [.int ix, .int lt, .int size, .int i, .int id, .int size, .int role, .int term, .int vote, .int lead, .int el, .int to, .int com, .int app, .int b, .int bt, .str sn, .list (vs.map IV.int), .list (nx.map IV.int), .list (mt.map IV.int), .list (es.map E.enc), .list (out.map G.enc)] = some (N.all {(N.mk id size role term vote lead el to vs nx mt com app b bt es sn out) with out := out ++ asks (N.mk id size role term vote lead el to vs nx mt com app b bt es sn out) ix lt k i})
 | 0, i, out, hk, ho => by
  rw [e_f_member_node_elect_1]
  have h1 : ¬ (i : Int) < size := by omega
  simp only [O.lt_int, h1, decide_false, Option.bind_some, O.cnd_bool, Bool.false_eq_true, if_false, asks, List.append_nil, N.all]
 | k + 1, i, out, hk, ho => by
  rw [e_f_member_node_elect_1]
  have h1 : (i : Int) < size := by omega
  have hw : IntKind.i64.wrap ((i : Int) + 1) = ((i + 1 : Nat) : Int) := by rw [wrap64 (by omega) (by omega)]; rfl
  have hap := fun out (ho : out.length ≤ 1048576) x => p_send id size role term vote lead el to vs nx mt com app b bt es sn out i x ho
  simp only [O.lt_int, h1, decide_true, Option.bind_some, O.cnd_bool, if_true, O.ne_int, asks]
  by_cases c : (i : Int) = id
  ·have ih := p_elect_1 id size role term vote lead el to vs nx mt com app b bt es sn ix lt hs k (i + 1) out (by omega) (by omega)
   have hd : decide ((i : Int) = id) = true := by simp [c]
   rw [if_pos c]
   simp only [hd, Bool.not_true, Bool.false_eq_true, if_false, e_f_member_node_elect_2, O.add_int, Option.bind_some, hw, ih, List.nil_append]
  ·have ih := p_elect_1 id size role term vote lead el to vs nx mt com app b bt es sn ix lt hs k (i + 1) (out ++ [⟨1, id, i, term, ix, lt, 0, false, [], ⟨#[]⟩⟩]) (by omega) (by simp; omega)
   have hmo : asks (N.mk id size role term vote lead el to vs nx mt com app b bt es sn (out ++ [⟨1, id, i, term, ix, lt, 0, false, [], ⟨#[]⟩⟩])) ix lt k (i + 1) = asks (N.mk id size role term vote lead el to vs nx mt com app b bt es sn out) ix lt k (i + 1) := asks_out (N.mk id size role term vote lead el to vs nx mt com app b bt es sn out) _ ix lt k (i + 1)
   simp only [c, decide_false, Bool.not_false, if_true, if_false, O.mkagg_eq, G.fold0, hap out (by omega), calls_all, e_f_member_node_elect_2, O.add_int, Option.bind_some, hw, ih, hmo, List.append_assoc]
def elect0 (n : N) : N := {n with role := 1, term := n.term + 1, vote := n.id, lead := -1, vs := [n.id], el := 0}
def electF (n : N) : N := if n.size = 1 then leadF (elect0 n) else {elect0 n with out := n.out ++ asks (elect0 n) (lastI n.l) (lastT n.l) n.size.toNat 0}
theorem p_elect (id size role term vote lead el to : Int) (vs nx mt : List Int) (com app b bt : Int) (es : List E) (sn : ByteArray) (out : List G) (h : tame ⟨b, bt, es⟩) (hl : es.length ≤ 400) (hid : 0 ≤ id ∧ id < size) (hs : size ≤ 7) (hcom : Mid com) (ht : 0 ≤ term ∧ term < 1000000000000000) (ho : out.length + 7 ≤ 1048576) :
  W f_member_node_elect 0 [.int id, .int size, .int role, .int term, .int vote, .int lead, .int el, .int to, .list (vs.map IV.int), .list (nx.map IV.int), .list (mt.map IV.int), .int com, .int app, .int b, .int bt, .list (es.map E.enc), .str sn, .list (out.map G.enc)] = some (N.all (electF (N.mk id size role term vote lead el to vs nx mt com app b bt es sn out))) := by
 rw [e_f_member_node_elect_0]
 have hw : IntKind.i64.wrap (term + 1) = term + 1 := wrap64 (by omega) (by omega)
 have hk := p_lead id size 1 (term + 1) id (-1) 0 to [id] nx mt com app b bt es sn out h hl hid hs hcom ho
 have he := p_elect_1 id size 1 (term + 1) id (-1) 0 to [id] nx mt com app b bt es sn (lastI ⟨b, bt, es⟩) (lastT ⟨b, bt, es⟩) hs size.toNat 0 out (by omega) (by omega)
 simp only [List.map_cons, List.map_nil, Int.cast_ofNat_Int] at hk he
 simp only [O.add_int, hw, O.mklist_eq, Option.bind_some, O.eq_int, O.cnd_bool, decide_eq_true_eq, hk, calls_all, O.mkagg_eq, prg_last b bt es h, O.calls_2, he]
 unfold electF elect0
 split <;> rfl
theorem clone_ints (xs : List Int) (h : xs.length ≤ 4194304) : W f_slices_Clone_int 0 [.list (xs.map IV.int)] = some [.list (xs.map IV.int)] := by
 rw [e_f_slices_Clone_int, O.cloneF, if_pos (by rw [List.length_map]; omega)]
theorem clone_es (xs : List E) (h : xs.length ≤ 4194304) : W f_slices_Clone_Entry 0 [.list (xs.map E.enc)] = some [.list (xs.map E.enc)] := by
 rw [e_f_slices_Clone_Entry, O.cloneF, if_pos (by rw [List.length_map]; omega)]
def Few (n : N) : Prop := n.vs.length ≤ 4194304 ∧ n.nx.length ≤ 4194304 ∧ n.mt.length ≤ 4194304 ∧ n.es.length ≤ 4194304
theorem p_copied (n : N) (h : Few n) : W f_member_copied 0 [n.enc] = some n.cells := by
 rw [e_f_member_copied_0, N.enc_def]
 obtain ⟨h1, h2, h3, h4⟩ := h
 simp only [O.proj_agg, List.getElem?_cons_succ, List.getElem?_cons_zero, Option.bind_some, clone_ints _ h1, clone_ints _ h2, clone_ints _ h3, clone_es _ h4, O.calls_1, N.cells]
end Go.CT.Memb
namespace Go.CT.Memb
open Go.Proofs
def Asc (l : List Int) : Prop := l.Pairwise (· < ·)
def pos : List Int → Int → Nat
 | [], _ => 0
 | y :: l, x => if y < x then pos l x + 1 else 0
theorem pos_le : ∀ (l : List Int) (x : Int), pos l x ≤ l.length
 | [], _ => Nat.le_refl _
 | y :: l, x => by
  have := pos_le l x
  unfold pos
  split <;> simp <;> omega
theorem pos_lt : ∀ (l : List Int) (x : Int) (j : Nat) (h : j < l.length), j < pos l x → l[j] < x
 | [], _, _, h, _ => by simp at h
 | y :: l, x, j, h, hj => by
  unfold pos at hj
  split at hj
  ·next c =>
   cases j with
   | zero => exact c
   | succ j => exact pos_lt l x j (by simpa using h) (by omega)
  ·omega
theorem pos_ge : ∀ (l : List Int) (x : Int), Asc l → ∀ (j : Nat) (h : j < l.length), pos l x ≤ j → x ≤ l[j]
 | [], _, _, _, h, _ => by simp at h
 | y :: l, x, ha, j, h, hj => by
  have h1 := List.pairwise_cons.1 ha
  unfold pos at hj
  split at hj
  ·cases j with
   | zero => omega
   | succ j => exact pos_ge l x h1.2 j (by simpa using h) (by omega)
  ·next c =>
   cases j with
   | zero => simpa using c
   | succ j =>
    have := h1.1 (l[j]'(by simpa using h)) (List.getElem_mem _)
    simp only [List.getElem_cons_succ]
    omega
def putF (l : List Int) (x : Int) : List Int := if l[pos l x]? = some x then l else l.take (pos l x) ++ x :: l.drop (pos l x)
theorem putF_len (l : List Int) (x : Int) : (putF l x).length ≤ l.length + 1 := by
 have := pos_le l x
 unfold putF
 split
 ·omega
 ·simp; omega
theorem putF_asc (l : List Int) (x : Int) (h : Asc l) : Asc (putF l x) := by
 unfold putF
 split
 ·exact h
 ·next c =>
  have hp := pos_le l x
  refine List.pairwise_append.2 ⟨h.sublist (List.take_sublist _ _), List.pairwise_cons.2 ⟨fun y hy => ?_, h.sublist (List.drop_sublist _ _)⟩, fun a ha b hb => ?_⟩
  ·obtain ⟨i, hi, rfl⟩ := List.getElem_of_mem hy
   rw [List.getElem_drop]
   have hi2 : pos l x + i < l.length := by simp at hi; omega
   have h1 := pos_ge l x h (pos l x + i) hi2 (by omega)
   rcases Int.lt_or_eq_of_le h1 with h2 | h2
   ·exact h2
   ·cases i with
    | zero => exact absurd (by rw [List.getElem?_eq_getElem (by omega)]; simp only [Nat.add_zero] at h2; rw [← h2]) c
    | succ i =>
     have h3 := pos_ge l x h (pos l x) (by omega) (Nat.le_refl _)
     have h4 := List.pairwise_iff_getElem.1 h (pos l x) (pos l x + (i + 1)) (by omega) hi2 (by omega)
     omega
  ·obtain ⟨i, hi, rfl⟩ := List.getElem_of_mem ha
   rw [List.getElem_take]
   have hi2 : i < pos l x := by simp at hi; omega
   have h1 := pos_lt l x i (by omega) hi2
   rcases List.mem_cons.1 hb with rfl | hb
   ·exact h1
   ·obtain ⟨k, hk, rfl⟩ := List.getElem_of_mem hb
    rw [List.getElem_drop]
    have h2 := pos_ge l x h (pos l x + k) (by simp at hk; omega) (by omega)
    omega
theorem p_less (a c : Int) : W f_cmp_Less 0 [.int a, .int c] = some [.bool (decide (a < c))] := by
 rw [e_f_cmp_Less_0, e_f_cmp_isNaN_0]
 simp only [O.ne_int, decide_true, Bool.not_true, Option.bind_some, O.calls_1, O.cnd_bool, Bool.false_eq_true, if_false, O.lt_int]
theorem p_isnan (a : Int) : W f_slices_isNaN_int 0 [.int a] = some [.bool false] := by
 rw [e_f_slices_isNaN_int_0]
 simp only [O.ne_int, decide_true, Bool.not_true, Option.bind_some]
theorem shr_one (a : Int) : Prim.ev (.shift .shr .u64) [.int a, .int 1] = some (.int (a / 2)) := by
 have : a.fdiv (2 ^ (Nat.min (1 : Int).toNat IntKind.u64.bits)) = a / 2 := Int.fdiv_eq_ediv_of_nonneg a (by decide)
 simp only [Prim.ev, this]
 rfl
theorem p_search_1 (l : List Int) (x : Int) (ha : Asc l) (hl : l.length ≤ 1048576) : ∀ (n lo hi : Nat), hi - lo ≤ n → lo ≤ pos l x → pos l x ≤ hi → hi ≤ l.length →
  W f_slices_BinarySearch_int 1 [.list (l.map IV.int), .int x, .int l.length, .int lo, .int hi] = some [.int (pos l x), .bool (decide (l[pos l x]? = some x))]
 | n, lo, hi, hn, h1, h2, h3 => by
  rw [e_f_slices_BinarySearch_int_1]
  by_cases c : lo < hi
  ·have hm : lo ≤ (lo + hi) / 2 ∧ (lo + hi) / 2 < hi := by omega
   have hw : IntKind.i64.wrap ((lo : Int) + hi) = ((lo + hi : Nat) : Int) := by rw [wrap64 (by omega) (by omega)]; omega
   have hu : IntKind.u64.wrap ((lo + hi : Nat) : Int) = ((lo + hi : Nat) : Int) := by rw [IntKind.wrap_u64]; omega
   have hd : ((lo + hi : Nat) : Int) / 2 = (((lo + hi) / 2 : Nat) : Int) := by omega
   have hw2 : IntKind.i64.wrap (((lo + hi) / 2 : Nat) : Int) = (((lo + hi) / 2 : Nat) : Int) := wrap64 (by omega) (by omega)
   have hw3 : IntKind.i64.wrap ((((lo + hi) / 2 : Nat) : Int) + 1) = (((lo + hi) / 2 + 1 : Nat) : Int) := by rw [wrap64 (by omega) (by omega)]; omega
   have hg : (lo + hi) / 2 < l.length := by omega
   simp only [O.lt_int, lt_cast, c, decide_true, Option.bind_some, O.cnd_bool, if_true, O.add_int, hw, O.conv_int, hu, shr_one, hd, hw2, O.index_list, Int.natCast_nonneg, Int.toNat_natCast, List.getElem?_map, List.getElem?_eq_getElem hg, Option.map_some, p_less, O.calls_1, e_f_slices_BinarySearch_int_2, hw3]
   by_cases d : l[(lo + hi) / 2] < x
   ·have hp : (lo + hi) / 2 < pos l x := by
     rcases Nat.lt_or_ge ((lo + hi) / 2) (pos l x) with h | h
     ·exact h
     ·have := pos_ge l x ha _ hg h; omega
    simp only [d, decide_true, if_true]
    exact p_search_1 l x ha hl (hi - ((lo + hi) / 2 + 1)) _ hi (Nat.le_refl _) (by omega) h2 h3
   ·have hp : pos l x ≤ (lo + hi) / 2 := by
     rcases Nat.lt_or_ge ((lo + hi) / 2) (pos l x) with h | h
     ·exact absurd (pos_lt l x _ hg h) d
     ·exact h
    simp only [d, decide_false, Bool.false_eq_true, if_false]
    exact p_search_1 l x ha hl ((lo + hi) / 2 - lo) lo _ (Nat.le_refl _) h1 hp (by omega)
  ·have e : lo = pos l x := by omega
   subst e
   simp only [O.lt_int, lt_cast, c, decide_false, Option.bind_some, O.cnd_bool, Bool.false_eq_true, if_false]
   by_cases d : pos l x < l.length
   ·simp only [d, decide_true, if_true, O.index_list, Int.natCast_nonneg, Int.toNat_natCast, List.getElem?_map, List.getElem?_eq_getElem d, Option.map_some, Option.bind_some, O.eq_int, p_isnan, O.calls_1, O.cnd_bool, Bool.false_eq_true, if_false, ite_some, ite_ivbool, Option.some.injEq]
    by_cases g : l[pos l x] = x <;> simp [g]
   ·have hnone : l[pos l x]? = none := List.getElem?_eq_none (by omega)
    simp only [d, decide_false, Bool.false_eq_true, if_false, Option.bind_some, hnone]
    simp
 termination_by n lo hi => hi - lo
theorem p_search (l : List Int) (x : Int) (ha : Asc l) (hl : l.length ≤ 1048576) : W f_slices_BinarySearch_int 0 [.list (l.map IV.int), .int x] = some [.int (pos l x), .bool (decide (l[pos l x]? = some x))] := by
 rw [e_f_slices_BinarySearch_int_0]
 simp only [O.len_list, List.length_map, Option.bind_some]
 exact p_search_1 l x ha hl l.length 0 l.length (by omega) (by omega) (pos_le l x) (by omega)
theorem p_insert (l : List Int) (x : Int) (hl : l.length ≤ 1048576) : W f_slices_Insert 0 [.list (l.map IV.int), .int (pos l x), .list [.int x]] = some [.list ((l.take (pos l x) ++ x :: l.drop (pos l x)).map IV.int)] := by
 have hp := pos_le l x
 rw [e_f_slices_Insert, O.insertF, if_pos ⟨by omega, by rw [List.length_map]; omega, by rw [List.length_map]; omega⟩]
 simp [List.map_take, List.map_drop]
def newer (a c d e : Int) : Bool := decide (d < a) || (decide (a = d) && decide (e ≤ c))
theorem p_newer (a c d e : Int) : W f_rlog_Newer 0 [.int a, .int c, .int d, .int e] = some [.bool (newer a c d e)] := by
 rw [e_f_rlog_Newer_0]; simp [newer]
def votes (n : N) (x : G) : Bool := (decide (n.vote = -1) || decide (n.vote = x.fr)) && newer x.lt x.ix (lastT n.l) (lastI n.l)
def sendF (n : N) (j : Int) (x : G) : N := {n with out := n.out ++ [⟨x.kind, n.id, j, n.term, x.ix, x.lt, x.com, x.ok, x.es, x.sn⟩]}
def voteF (n : N) (x : G) : N := sendF (if votes n x then {n with vote := x.fr, el := 0} else n) x.fr ⟨2, 0, 0, 0, 0, 0, 0, votes n x, [], ⟨#[]⟩⟩
section
variable (id size role term vote lead el to : Int) (vs nx mt : List Int) (com app b bt : Int) (es : List E) (sn : ByteArray) (out : List G)
theorem p_vote (x : G) (h : tame ⟨b, bt, es⟩) (ho : out.length ≤ 1000000) : W f_member_node_vote 0 [.int id, .int size, .int role, .int term, .int vote, .int lead, .int el, .int to, .list (vs.map IV.int), .list (nx.map IV.int), .list (mt.map IV.int), .int com, .int app, .int b, .int bt, .list (es.map E.enc), .str sn, .list (out.map G.enc), x.enc] = some (N.all (voteF (N.mk id size role term vote lead el to vs nx mt com app b bt es sn out) x)) := by
 rw [e_f_member_node_vote_0]
 have h1 := fun v e j y => p_send id size role term v lead e to vs nx mt com app b bt es sn out j y (by omega)
 have hv : votes (N.mk id size role term vote lead el to vs nx mt com app b bt es sn out) x = ((decide (vote = -1) || decide (vote = x.fr)) && newer x.lt x.ix (lastT ⟨b, bt, es⟩) (lastI ⟨b, bt, es⟩)) := rfl
 unfold voteF
 rw [hv]
 simp only [O.mkagg_eq, Option.bind_some, prg_last b bt es h, O.calls_2, O.eq_int, O.cnd_bool, G.p1, G.p4, G.p5, p_newer, O.calls_1, ite_some, ite_ivbool, G.fold0, h1, calls_all]
 by_cases c1 : vote = -1
 ·cases hw : newer x.lt x.ix (lastT ⟨b, bt, es⟩) (lastI ⟨b, bt, es⟩) <;> simp [c1, sendF, N.all]
 ·by_cases c2 : vote = x.fr
  ·cases hw : newer x.lt x.ix (lastT ⟨b, bt, es⟩) (lastI ⟨b, bt, es⟩) <;> simp [← c2, sendF, N.all]
  ·simp [c1, c2, sendF, N.all]
def staleF (n : N) (x : G) : N :=
 if x.kind = 1 then sendF n x.fr ⟨2, 0, 0, 0, 0, 0, 0, false, [], ⟨#[]⟩⟩
 else if x.kind = 3 ∨ x.kind = 5 then sendF n x.fr ⟨4, 0, 0, 0, 0, 0, 0, false, [], ⟨#[]⟩⟩
 else n
theorem p_stale (x : G) (ho : out.length ≤ 1000000) : W f_member_node_stale 0 [.int id, .int size, .int role, .int term, .int vote, .int lead, .int el, .int to, .list (vs.map IV.int), .list (nx.map IV.int), .list (mt.map IV.int), .int com, .int app, .int b, .int bt, .list (es.map E.enc), .str sn, .list (out.map G.enc), x.enc] = some (N.all (staleF (N.mk id size role term vote lead el to vs nx mt com app b bt es sn out) x)) := by
 rw [e_f_member_node_stale_0]
 have h1 := fun j y => p_send id size role term vote lead el to vs nx mt com app b bt es sn out j y (by omega)
 unfold staleF
 simp only [G.p0, G.p1, Option.bind_some, O.eq_int, O.cnd_bool, O.mkagg_eq, G.fold0, h1, calls_all, decide_eq_true_eq]
 by_cases c1 : x.kind = 1
 ·simp [c1, sendF, N.all]
 ·by_cases c3 : x.kind = 3
  ·simp [c3, sendF, N.all]
  ·by_cases c5 : x.kind = 5
   ·simp [c5, sendF, N.all]
   ·simp [c1, c3, c5, N.all]
def votedF (n : N) (x : G) : N :=
 if n.role ≠ 1 ∨ x.ok = false then n
 else if n.size < 2 * ((putF n.vs x.fr).length : Int) then leadF {n with vs := putF n.vs x.fr} else {n with vs := putF n.vs x.fr}
theorem p_voted_1 (h : tame ⟨b, bt, es⟩) (hl : es.length ≤ 400) (hid : 0 ≤ id ∧ id < size) (hs : size ≤ 7) (hcom : Mid com) (ho : out.length ≤ 1000000) :
  W f_member_node_voted 1 [.int id, .int size, .int role, .int term, .int vote, .int lead, .int el, .int to, .int com, .int app, .int b, .int bt, .str sn, .list (vs.map IV.int), .list (nx.map IV.int), .list (mt.map IV.int), .list (es.map E.enc), .list (out.map G.enc)] = some (N.all (if size < 2 * (vs.length : Int) then leadF (N.mk id size role term vote lead el to vs nx mt com app b bt es sn out) else (N.mk id size role term vote lead el to vs nx mt com app b bt es sn out))) := by
 rw [e_f_member_node_voted_1]
 have h1 := p_majority id size role term vote lead el to vs nx mt com app b bt es sn out vs.length (by omega)
 have h2 := p_lead id size role term vote lead el to vs nx mt com app b bt es sn out h hl hid hs hcom (by omega)
 simp only [O.len_list, List.length_map, Option.bind_some, O.mkagg_eq, h1, O.calls_1, O.cnd_bool, decide_eq_true_eq, h2, calls_all]
 split <;> rfl
theorem p_voted (x : G) (h : tame ⟨b, bt, es⟩) (hl : es.length ≤ 400) (hid : 0 ≤ id ∧ id < size) (hs : size ≤ 7) (hcom : Mid com) (ho : out.length ≤ 1000000) (hv : Asc vs) (hvl : vs.length ≤ 1000000) :
  W f_member_node_voted 0 [.int id, .int size, .int role, .int term, .int vote, .int lead, .int el, .int to, .list (vs.map IV.int), .list (nx.map IV.int), .list (mt.map IV.int), .int com, .int app, .int b, .int bt, .list (es.map E.enc), .str sn, .list (out.map G.enc), x.enc] = some (N.all (votedF (N.mk id size role term vote lead el to vs nx mt com app b bt es sn out) x)) := by
 rw [e_f_member_node_voted_0]
 have h1 := fun vs => p_voted_1 id size role term vote lead el to vs nx mt com app b bt es sn out h hl hid hs hcom ho
 have h2 := p_search vs x.fr hv (by omega)
 have h3 := p_insert vs x.fr (by omega)
 unfold votedF
 simp only [O.ne_int, Option.bind_some, G.p7, G.p1, O.not_bool, O.cnd_bool, ite_some, ite_ivbool, h2, O.calls_2, O.mklist_eq, h3, O.calls_1, h1]
 by_cases c1 : role = 1
 ·cases hok : x.ok with
  | false => simp [c1, N.all]
  | true =>
   unfold putF
   by_cases c2 : vs[pos vs x.fr]? = some x.fr
   ·simp [c1, c2]
   ·simp [c1, c2]
 ·simp [c1, N.all]
end
end Go.CT.Memb
namespace Go.CT.Memb
open Go.Proofs
def over (x : G) (e : E) : Bool := decide (x.term < e.t)
def ignF (n : N) (x : G) : Bool :=
 decide (x.to ≠ n.id) || decide (x.fr = n.id) || decide (x.fr < 0) || decide (n.size ≤ x.fr) || decide (x.term < 0) || decide (1000000000000000 < x.term) || decide (x.kind < 1) || decide (5 < x.kind) ||
 (if x.kind = 3 then x.es.any (over x) else if x.kind = 5 then decide (x.ix < 1) || decide (1000000000000000 < x.ix) || decide (x.lt < 1) || decide (x.term < x.lt) else false)
theorem p_index_1 (es : List E) (x : G) (hl : es.length ≤ 1048576) : ∀ (n i : Nat), i + n = es.length →
  ∃ r : Int, W f_slices_IndexFunc_Entry_member_node_ignored_1 1 [.list (es.map E.enc), x.enc, .int es.length, .int i] = some [.int r] ∧ (decide (0 ≤ r) = (es.drop i).any (over x))
 | 0, i, h => by
  have h1 : ¬ i < es.length := by omega
  refine ⟨-1, ?_, ?_⟩
  ·rw [e_f_slices_IndexFunc_Entry_member_node_ignored_1_1]
   simp only [O.lt_int, lt_cast, h1, decide_false, Option.bind_some, O.cnd_bool, Bool.false_eq_true, if_false]
  ·rw [List.drop_of_length_le (by omega)]; rfl
 | n + 1, i, h => by
  have hi : i < es.length := by omega
  have hw : IntKind.i64.wrap ((i : Int) + 1) = ((i + 1 : Nat) : Int) := by rw [wrap64 (by omega) (by omega)]; rfl
  have hg : W f_member_node_ignored_1 0 [es[i].enc, x.enc] = some [.bool (over x es[i])] := by
   rw [e_f_member_node_ignored_1_0]
   simp only [E.enc, O.proj_agg, List.getElem?_cons_zero, Option.bind_some, G.p3, O.gt_int]
   rfl
  obtain ⟨r, hr, hr2⟩ := p_index_1 es x hl n (i + 1) (by omega)
  rw [List.drop_eq_getElem_cons hi, List.any_cons, ← hr2]
  rw [e_f_slices_IndexFunc_Entry_member_node_ignored_1_1]
  simp only [O.lt_int, lt_cast, hi, decide_true, Option.bind_some, O.cnd_bool, if_true, O.index_list, Int.natCast_nonneg, Int.toNat_natCast, List.getElem?_map, List.getElem?_eq_getElem hi, Option.map_some, hg, O.calls_1, O.add_int, hw, hr]
  cases over x es[i] with
  | true => exact ⟨i, rfl, by simp⟩
  | false => exact ⟨r, rfl, by simp⟩
theorem p_contains (es : List E) (x : G) (hl : es.length ≤ 1048576) : W f_slices_ContainsFunc_Entry_member_node_ignored_1 0 [.list (es.map E.enc), x.enc] = some [.bool (es.any (over x))] := by
 obtain ⟨r, hr, hr2⟩ := p_index_1 es x hl es.length 0 (by omega)
 simp only [Int.cast_ofNat_Int, List.drop_zero] at hr hr2
 rw [e_f_slices_ContainsFunc_Entry_member_node_ignored_1_0, e_f_slices_IndexFunc_Entry_member_node_ignored_1_0]
 simp only [O.len_list, List.length_map, Option.bind_some, hr, O.calls_1, O.ge_int, hr2]
theorem p_ignored (id size role term vote lead el to : Int) (vs nx mt : List Int) (com app b bt : Int) (es : List E) (sn : ByteArray) (out : List G) (x : G) (hl : x.es.length ≤ 1048576) : W f_member_node_ignored 0 [.agg [.int id, .int size, .int role, .int term, .int vote, .int lead, .int el, .int to, .list (vs.map IV.int), .list (nx.map IV.int), .list (mt.map IV.int), .int com, .int app, .int b, .int bt, .list (es.map E.enc), .str sn, .list (out.map G.enc)], x.enc] = some [.bool (ignF (N.mk id size role term vote lead el to vs nx mt com app b bt es sn out) x)] := by
 rw [e_f_member_node_ignored_0]
 unfold ignF
 simp only [O.proj_agg, List.getElem?_cons_succ, List.getElem?_cons_zero, Option.bind_some, G.p0, G.p1, G.p2, G.p3, G.p4, G.p5, G.p8, O.ne_int, O.eq_int, O.lt_int, O.ge_int, O.gt_int, O.cnd_bool, ite_some, ite_ivbool, p_contains _ x hl, O.calls_1, Option.some.injEq]
 by_cases k3 : x.kind = 3
 ·simp only [k3, decide_true, if_true, ite_some]
  cases x.es.any (over x) <;> (by_cases a1 : x.to = id <;> by_cases a2 : x.fr = id <;> by_cases a3 : x.fr < 0 <;> by_cases a4 : size ≤ x.fr <;> by_cases a5 : x.term < 0 <;> by_cases a6 : 1000000000000000 < x.term <;> simp [a1, a2, a3, a4, a5, a6])
 ·by_cases k5 : x.kind = 5
  ·simp only [k5]
   by_cases a1 : x.to = id <;> by_cases a2 : x.fr = id <;> by_cases a3 : x.fr < 0 <;> by_cases a4 : size ≤ x.fr <;> by_cases a5 : x.term < 0 <;> by_cases a6 : 1000000000000000 < x.term <;> simp [a1, a2, a3, a4, a5, a6]
  ·by_cases a1 : x.to = id <;> by_cases a2 : x.fr = id <;> by_cases a3 : x.fr < 0 <;> by_cases a4 : size ≤ x.fr <;> by_cases a5 : x.term < 0 <;> by_cases a6 : 1000000000000000 < x.term <;> (by_cases a7 : x.kind < 1 <;> by_cases a8 : 5 < x.kind <;> simp [k3, k5, a1, a2, a3, a4, a5, a6, a7, a8])
def contra (n : N) : Int → List E → Bool
 | _, [] => false
 | i, e :: es => if n.com < i then false else if n.b < i ∧ (termAt n.l i).isSome ∧ (termAt n.l i).getD 0 ≠ e.t then true else contra n (i + 1) es
theorem p_contradicts_1 (id size role term vote lead el to : Int) (vs nx mt : List Int) (com app b bt : Int) (es : List E) (sn : ByteArray) (out : List G) (x : G) (h : tame ⟨b, bt, es⟩) (hl : x.es.length ≤ 1048576) (hc : Mid com) (hx : I64 x.ix) : ∀ (n k : Nat), k + n = x.es.length →
  W f_member_node_contradicts 1 [.agg [.int id, .int size, .int role, .int term, .int vote, .int lead, .int el, .int to, .list (vs.map IV.int), .list (nx.map IV.int), .list (mt.map IV.int), .int com, .int app, .int b, .int bt, .list (es.map E.enc), .str sn, .list (out.map G.enc)], .list (x.es.map E.enc), .int x.es.length, .int k, x.enc] = some [.bool (contra (N.mk id size role term vote lead el to vs nx mt com app b bt es sn out) (x.ix + 1 + k) (x.es.drop k))]
 | 0, k, hk => by
  have h1 : ¬ k < x.es.length := by omega
  rw [e_f_member_node_contradicts_1, List.drop_of_length_le (by omega)]
  simp only [O.lt_int, lt_cast, h1, decide_false, Option.bind_some, O.cnd_bool, Bool.false_eq_true, if_false, contra]
 | n + 1, k, hk => by
  have hi : k < x.es.length := by omega
  obtain ⟨x1, x2⟩ := hx
  obtain ⟨c1, c2⟩ := hc
  have hw : IntKind.i64.wrap ((k : Int) + 1) = ((k + 1 : Nat) : Int) := by rw [wrap64 (by omega) (by omega)]; rfl
  have hw1 : IntKind.i64.wrap (com - 1) = com - 1 := wrap64 (by omega) (by omega)
  have hw2 : IntKind.i64.wrap (com - 1 - (k : Int)) = com - 1 - k := wrap64 (by omega) (by omega)
  have ih := p_contradicts_1 id size role term vote lead el to vs nx mt com app b bt es sn out x h hl ⟨c1, c2⟩ ⟨x1, x2⟩ n (k + 1) (by omega)
  rw [e_f_member_node_contradicts_1, List.drop_eq_getElem_cons hi]
  simp only [O.lt_int, lt_cast, hi, decide_true, Option.bind_some, O.cnd_bool, if_true, O.index_list, Int.natCast_nonneg, Int.toNat_natCast, List.getElem?_map, List.getElem?_eq_getElem hi, Option.map_some, G.p4, O.proj_agg, List.getElem?_cons_succ, List.getElem?_cons_zero, O.sub_int, hw1, hw2, O.gt_int, decide_eq_true_eq, contra]
  by_cases c : com < x.ix + 1 + k
  ·rw [if_pos (by omega), if_pos c]
  ·rw [if_neg (by omega), if_neg c]
   have hw3 : IntKind.i64.wrap (x.ix + 1) = x.ix + 1 := wrap64 (by omega) (by omega)
   have hw4 : IntKind.i64.wrap (x.ix + 1 + (k : Int)) = x.ix + 1 + k := wrap64 (by omega) (by omega)
   have e2 : x.ix + 1 + ((k + 1 : Nat) : Int) = x.ix + 1 + k + 1 := by omega
   rw [e2] at ih
   simp only [O.add_int, hw, hw3, hw4, O.projs_agg, List.drop_succ_cons, List.drop_zero, List.take_succ_cons, List.take_zero, Option.bind_some, prg_termAt b bt es _ h, optI_getD, O.calls_2, O.pick_bool, E.enc, O.proj_agg, List.getElem?_cons_zero, O.ne_int, O.cnd_bool, ite_some, ite_ivbool, ih, N.l]
   by_cases d1 : b < x.ix + 1 + k
   ·rcases Bool.eq_false_or_eq_true (termAt ⟨b, bt, es⟩ (x.ix + 1 + k)).isSome with hs | hs
    ·by_cases d2 : (termAt ⟨b, bt, es⟩ (x.ix + 1 + k)).getD 0 = x.es[k].t
     ·simp only [O.gt_int, O.pick_bool, d1, hs, d2, decide_true, if_true, Option.bind_some, O.cnd_bool, Bool.not_true, Bool.false_eq_true, if_false, ne_eq, not_true_eq_false, and_false]
     ·simp only [O.gt_int, O.pick_bool, d1, hs, d2, decide_true, decide_false, if_true, Option.bind_some, O.cnd_bool, Bool.not_false, ne_eq, not_false_eq_true, and_self]
    ·simp only [O.gt_int, O.pick_bool, d1, hs, decide_true, if_true, Option.bind_some, O.cnd_bool, Bool.false_eq_true, if_false, false_and, and_false]
   ·simp [d1]
theorem p_contradicts (id size role term vote lead el to : Int) (vs nx mt : List Int) (com app b bt : Int) (es : List E) (sn : ByteArray) (out : List G) (x : G) (h : tame ⟨b, bt, es⟩) (hl : x.es.length ≤ 1048576) (hc : Mid com) (hx : I64 x.ix) :
  W f_member_node_contradicts 0 [.agg [.int id, .int size, .int role, .int term, .int vote, .int lead, .int el, .int to, .list (vs.map IV.int), .list (nx.map IV.int), .list (mt.map IV.int), .int com, .int app, .int b, .int bt, .list (es.map E.enc), .str sn, .list (out.map G.enc)], x.enc] = some [.bool (contra (N.mk id size role term vote lead el to vs nx mt com app b bt es sn out) (x.ix + 1) x.es)] := by
 have := p_contradicts_1 id size role term vote lead el to vs nx mt com app b bt es sn out x h hl hc hx x.es.length 0 (by omega)
 simp only [Int.cast_ofNat_Int, List.drop_zero, Int.add_zero] at this
 rw [e_f_member_node_contradicts_0]
 simp only [G.p8, O.len_list, List.length_map, Option.bind_some, this]
def followF (n : N) (j : Int) : N := {n with role := 0, vs := [], lead := j, el := 0}
def commitF (n : N) (i : Int) : N := if n.com < i then {n with com := i, app := i} else n
def logF (n : N) (l : L) : N := {n with b := l.b, bt := l.bt, es := l.es}
def minI (a c : Int) : Int := if c < a then c else a
def entriesF (n : N) (x : G) : N :=
 if n.role = 2 ∨ contra n (x.ix + 1) x.es = true then n
 else
  sendF (if (appendF n.l x.ix x.lt x.es).ok = true then commitF (logF (followF n x.fr) (appendF n.l x.ix x.lt x.es).l) (minI x.com (appendF n.l x.ix x.lt x.es).n) else followF n x.fr) x.fr
   ⟨4, 0, 0, 0, (appendF n.l x.ix x.lt x.es).n, 0, 0, (appendF n.l x.ix x.lt x.es).ok, [], ⟨#[]⟩⟩
theorem p_entries_1 (id size role term vote lead el to : Int) (vs nx mt : List Int) (com app b bt : Int) (es : List E) (sn : ByteArray) (out : List G) (i : Int) (o : Bool) (x : G) (ho : out.length ≤ 1000000) :
  W f_member_node_entries 1 [.int i, .bool o, .int id, .int size, .int role, .int term, .int vote, .int lead, .int el, .int to, .int com, .int app, .int b, .int bt, .str sn, x.enc, .list (vs.map IV.int), .list (nx.map IV.int), .list (mt.map IV.int), .list (es.map E.enc), .list (out.map G.enc)] = some (N.all (sendF (N.mk id size role term vote lead el to vs nx mt com app b bt es sn out) x.fr ⟨4, 0, 0, 0, i, 0, 0, o, [], ⟨#[]⟩⟩)) := by
 rw [e_f_member_node_entries_1]
 have h1 := fun j y => p_send id size role term vote lead el to vs nx mt com app b bt es sn out j y (by omega)
 simp only [G.p1, Option.bind_some, O.mkagg_eq, G.fold0, h1, calls_all]
 rfl
theorem p_entries (id size role term vote lead el to : Int) (vs nx mt : List Int) (com app b bt : Int) (es : List E) (sn : ByteArray) (out : List G) (x : G) (hf : fine ⟨b, bt, es⟩) (hl : x.es.length ≤ 1048576) (hc : Mid com) (hx : I64 x.ix) (ho : out.length ≤ 1000000) :
  W f_member_node_entries 0 [.int id, .int size, .int role, .int term, .int vote, .int lead, .int el, .int to, .list (vs.map IV.int), .list (nx.map IV.int), .list (mt.map IV.int), .int com, .int app, .int b, .int bt, .list (es.map E.enc), .str sn, .list (out.map G.enc), x.enc] = some (N.all (entriesF (N.mk id size role term vote lead el to vs nx mt com app b bt es sn out) x)) := by
 have h : tame ⟨b, bt, es⟩ := ⟨hf.1, hf.2.1, by have := hf.2.2.2.2.2; simp only at *; omega⟩
 rw [e_f_member_node_entries_0]
 unfold entriesF
 have h1 := p_contradicts id size role term vote lead el to vs nx mt com app b bt es sn out x h hl hc hx
 have h2 := p_follow id size role term vote lead el to vs nx mt com app b bt es sn out x.fr
 have h3 := prg_append b bt es x.ix x.lt x.es hf hx hl
 have h4 := fun com app b bt es i => p_commitTo id size 0 term vote x.fr 0 to [] nx mt com app b bt es sn out i
 have h5 := fun com app b bt es i o => p_entries_1 id size 0 term vote x.fr 0 to [] nx mt com app b bt es sn out i o x ho
 simp only [List.map_nil] at h4 h5
 simp only [O.eq_int, Option.bind_some, O.mkagg_eq, h1, O.calls_1, O.cnd_bool, ite_some, ite_ivbool, G.p1, G.p4, G.p5, G.p6, G.p8, h2, calls_all, h3, O.calls_5, O.min_int, List.map_nil, h4, h5, N.l]
 by_cases c1 : role = 2
 ·simp [c1, N.all]
 ·rcases Bool.eq_false_or_eq_true (contra (N.mk id size role term vote lead el to vs nx mt com app b bt es sn out) (x.ix + 1) x.es) with hk | hk
  ·simp [c1, hk, N.all]
  ·rcases Bool.eq_false_or_eq_true (appendF ⟨b, bt, es⟩ x.ix x.lt x.es).ok with hok | hok
   ·simp only [c1, hk, hok, decide_false, Bool.false_eq_true, if_false, or_false, if_true]
    unfold commitF logF followF minI
    by_cases c2 : com < (if (appendF ⟨b, bt, es⟩ x.ix x.lt x.es).n < x.com then (appendF ⟨b, bt, es⟩ x.ix x.lt x.es).n else x.com)
    ·simp only [c2, if_true, List.map_nil, h5]
    ·simp only [c2, if_false, List.map_nil, h5]
   ·simp only [c1, hk, hok, decide_false, Bool.false_eq_true, if_false, or_false, h5]
    unfold followF
    rfl
end Go.CT.Memb
namespace Go.CT.Memb
open Go.Proofs
theorem advN_form (n : N) : ∀ k : Nat, advN n k = n ∨ ∃ c : Int, n.com < c ∧ c ≤ n.com + k ∧ termAt n.l c = some n.term ∧ n.size < 2 * (cnt n.mt c : Int) ∧ advN n k = {n with com := c, app := c}
 | 0 => .inl rfl
 | k + 1 => by
  unfold advN
  split
  ·next h => exact .inr ⟨n.com + (k + 1 : Nat), by omega, by omega, h.1, h.2, rfl⟩
  ·rcases advN_form n k with h | ⟨c, h1, h2, h3⟩
   ·exact .inl h
   ·exact .inr ⟨c, h1, by omega, h3⟩
theorem advF_form (n : N) : advF n = n ∨ ∃ c : Int, n.com < c ∧ c ≤ lastI n.l ∧ termAt n.l c = some n.term ∧ n.size < 2 * (cnt n.mt c : Int) ∧ advF n = {n with com := c, app := c} := by
 unfold advF
 rcases advN_form n (lastI n.l - n.com).toNat with h | ⟨c, h1, h2, h3⟩
 ·exact .inl h
 ·exact .inr ⟨c, h1, by omega, h3⟩
theorem advF_upto (n : N) : ∃ c d : Int, advF n = {n with com := c, app := d} := by
 rcases advF_form n with h | ⟨c, _, _, _, _, h⟩
 ·exact ⟨n.com, n.app, h⟩
 ·exact ⟨c, c, h⟩
def maxI (a c : Int) : Int := if a < c then c else a
def tellF (n : N) (j i : Int) : N := {n with out := n.out ++ [appMsg n j i]}
def backI (n : N) (x : G) : Int := maxI (minI x.ix (n.nx.getD x.fr.toNat 0 - 2) + 1) (n.mt.getD x.fr.toNat 0 + 1)
def ackF (n : N) (x : G) : N :=
 if n.role ≠ 2 then n
 else if x.ok = false then
  if backI n x < n.nx.getD x.fr.toNat 0 then tellF {n with nx := n.nx.set x.fr.toNat (backI n x)} x.fr (backI n x) else n
 else if minI x.ix (lastI n.l) ≤ n.mt.getD x.fr.toNat 0 then n
 else if minI x.ix (lastI n.l) < lastI n.l then tellF (advF {n with mt := n.mt.set x.fr.toNat (minI x.ix (lastI n.l)), nx := n.nx.set x.fr.toNat (minI x.ix (lastI n.l) + 1)}) x.fr (minI x.ix (lastI n.l) + 1)
 else advF {n with mt := n.mt.set x.fr.toNat (minI x.ix (lastI n.l)), nx := n.nx.set x.fr.toNat (minI x.ix (lastI n.l) + 1)}
theorem p_appended (id size role term vote lead el to : Int) (vs nx mt : List Int) (com app b bt : Int) (es : List E) (sn : ByteArray) (out : List G) (x : G) (h : tame ⟨b, bt, es⟩) (hs : 1 ≤ size ∧ size ≤ 7) (hfr : 0 ≤ x.fr ∧ x.fr < size) (hx : I64 x.ix) (hc : Mid com) (ho : out.length ≤ 1000000)
  (hled : role = 2 → (nx.length : Int) = size ∧ (mt.length : Int) = size) (hnx : ∀ v ∈ nx, 1 ≤ v ∧ v ≤ 1000000000000401) (hmt : ∀ v ∈ mt, 0 ≤ v ∧ v ≤ 1000000000000401) :
  W f_member_node_appended 0 [.int id, .int size, .int role, .int term, .int vote, .int lead, .int el, .int to, .list (vs.map IV.int), .list (nx.map IV.int), .list (mt.map IV.int), .int com, .int app, .int b, .int bt, .list (es.map E.enc), .str sn, .list (out.map G.enc), x.enc] = some (N.all (ackF (N.mk id size role term vote lead el to vs nx mt com app b bt es sn out) x)) := by
 rw [e_f_member_node_appended_0]
 unfold ackF backI
 by_cases c0 : role = 2
 rotate_left
 ·simp only [O.ne_int, c0, decide_false, Bool.not_false, Option.bind_some, O.cnd_bool, if_true, ne_eq, not_false_eq_true, N.all]
 obtain ⟨l1, l2⟩ := hled c0
 obtain ⟨j, hj⟩ := Int.eq_ofNat_of_zero_le hfr.1
 have j1 : j < nx.length := by omega
 have j2 : j < mt.length := by omega
 have hla := mid_last h
 have b1 := hnx _ (List.getElem_mem j1)
 have b2 := hmt _ (List.getElem_mem j2)
 have g1 : nx.getD j 0 = nx[j] := by rw [List.getD_eq_getElem?_getD, List.getElem?_eq_getElem j1]; rfl
 have g2 : mt.getD j 0 = mt[j] := by rw [List.getD_eq_getElem?_getD, List.getElem?_eq_getElem j2]; rfl
 have w1 : IntKind.i64.wrap (nx[j] - 2) = nx[j] - 2 := wrap64 (by omega) (by omega)
 have w3 : IntKind.i64.wrap (mt[j] + 1) = mt[j] + 1 := wrap64 (by omega) (by omega)
 simp only [O.ne_int, c0, decide_true, Bool.not_true, Option.bind_some, O.cnd_bool, Bool.false_eq_true, if_false, ne_eq, not_true_eq_false, G.p1, G.p4, G.p7, O.not_bool, hj, Int.ofNat_eq_natCast, Int.toNat_natCast, g1, g2, N.l]
 obtain ⟨x1, x2⟩ := hx
 cases hok : x.ok with
 | false =>
  have w2 : IntKind.i64.wrap (minI x.ix (nx[j] - 2) + 1) = minI x.ix (nx[j] - 2) + 1 := by
   unfold minI; split <;> exact wrap64 (by omega) (by omega)
  have hmin : (if nx[j] - 2 < x.ix then nx[j] - 2 else x.ix) = minI x.ix (nx[j] - 2) := rfl
  have hmax : (if minI x.ix (nx[j] - 2) + 1 < mt[j] + 1 then mt[j] + 1 else minI x.ix (nx[j] - 2) + 1) = maxI (minI x.ix (nx[j] - 2) + 1) (mt[j] + 1) := rfl
  simp only [Bool.not_false, if_true, O.index_list, Int.natCast_nonneg, Int.toNat_natCast, List.getElem?_map, List.getElem?_eq_getElem j1, List.getElem?_eq_getElem j2, Option.map_some, Option.bind_some, O.sub_int, w1, O.min_int, hmin, O.add_int, w2, w3, O.max_int, hmax, O.lt_int, O.cnd_bool, decide_eq_true_eq, O.setAt_whole]
  have hk1 : mt[j] + 1 ≤ maxI (minI x.ix (nx[j] - 2) + 1) (mt[j] + 1) := by unfold maxI; split <;> omega
  generalize maxI (minI x.ix (nx[j] - 2) + 1) (mt[j] + 1) = k at hk1
  by_cases c : k < nx[j]
  ·have ht := p_appendTo id size 2 term vote lead el to vs (nx.set j k) mt com app b bt es sn out j k (by omega) h (by rw [List.getElem?_set_self j1]) ⟨by omega, by omega⟩
   simp only [List.map_set] at ht
   simp only [c, if_true, ht, calls_all]
   rfl
  ·simp only [c, if_false, N.all]
 | true =>
  have hmin : (if lastI ⟨b, bt, es⟩ < x.ix then lastI ⟨b, bt, es⟩ else x.ix) = minI x.ix (lastI ⟨b, bt, es⟩) := rfl
  have hm : minI x.ix (lastI ⟨b, bt, es⟩) ≤ lastI ⟨b, bt, es⟩ := by unfold minI; split <;> omega
  simp only [Bool.not_true, Bool.false_eq_true, if_false, O.mkagg_eq, p_last id size 2 term vote lead el to vs nx mt com app b bt es sn out h, O.calls_1, O.min_int, hmin, O.index_list, Int.natCast_nonneg, if_true, Int.toNat_natCast, List.getElem?_map, List.getElem?_eq_getElem j1, List.getElem?_eq_getElem j2, Option.map_some, Option.bind_some, O.le_int, O.cnd_bool, decide_eq_true_eq, O.setAt_whole, reduceCtorEq]
  generalize minI x.ix (lastI ⟨b, bt, es⟩) = i at hm
  by_cases c : i ≤ mt[j]
  ·simp only [c, if_true, N.all]
  ·have w4 : IntKind.i64.wrap (i + 1) = i + 1 := wrap64 (by omega) (by omega)
   have ha := p_advance id size 2 term vote lead el to vs (nx.set j (i + 1)) (mt.set j i) com app b bt es sn out h hs hc (by rw [List.length_set]; omega)
   obtain ⟨cm, ap, hadv⟩ := advF_upto (N.mk id size 2 term vote lead el to vs (nx.set j (i + 1)) (mt.set j i) com app b bt es sn out)
   simp only at hadv
   rw [hadv] at ha ⊢
   simp only [List.map_set] at ha
   have ht := p_appendTo id size 2 term vote lead el to vs (nx.set j (i + 1)) (mt.set j i) cm ap b bt es sn out j (i + 1) (by omega) h (by rw [List.getElem?_set_self j1]) ⟨by omega, by omega⟩
   have hl2 := p_last id size 2 term vote lead el to vs (nx.set j (i + 1)) (mt.set j i) cm ap b bt es sn out h
   simp only [c, if_false, O.add_int, w4, Option.bind_some, ha, calls_all, O.mkagg_eq, hl2, O.calls_1, O.lt_int, O.cnd_bool, decide_eq_true_eq, ht]
   split <;> rfl
def compactL (l : L) (i t : Int) : L := ⟨i, t, l.es.drop (i - l.b).toNat⟩
def compactIV (l : L) (i : Int) : List IV := match termAt l i with | some t => [.int i, .int t, .list ((l.es.drop (i - l.b).toNat).map E.enc), .int 0] | none => [.int l.b, .int l.bt, .list (l.es.map E.enc), .int 5]
theorem p_compactL (b bt : Int) (es : List E) (i : Int) (h : tame ⟨b, bt, es⟩) : W f_rlog_Compact 0 [.agg [.int b, .int bt, .list (es.map E.enc)], .int i] = some (compactIV ⟨b, bt, es⟩ i) := by
 have hb1 : 0 ≤ b := h.1
 have hb2 : b ≤ 1000000000000000 := h.2.1
 have hb3 : es.length ≤ 4194304 := h.2.2
 have hcase : termAt ⟨b, bt, es⟩ i = none ∨ ∃ t, termAt ⟨b, bt, es⟩ i = some t := by
  cases termAt ⟨b, bt, es⟩ i with
  | none => exact .inl rfl
  | some t => exact .inr ⟨t, rfl⟩
 rcases hcase with ht | ⟨t, ht⟩
 ·have e : compactIV ⟨b, bt, es⟩ i = [.int b, .int bt, .list (es.map E.enc), .int 5] := by unfold compactIV; rw [ht]
  rw [e, e_f_rlog_Compact_0, prg_termAt b bt es i h, ht]
  show calls (W f_rlog_clone 0 [.agg [.int b, .int bt, .list (es.map E.enc)]]) 3 (fun x5 x6 x7 => some [x5, x6, x7, .int 5]) = _
  rw [clone b bt es (by omega)]
  rfl
 ·have e : compactIV ⟨b, bt, es⟩ i = [.int i, .int t, .list ((es.drop (i - b).toNat).map E.enc), .int 0] := by unfold compactIV; rw [ht]
  obtain ⟨g1, g2⟩ := termAt_le ht
  have hw : IntKind.i64.wrap (i - b) = i - b := wrap64 (by omega) (by omega)
  have hs : O.sliceLo (.list (es.map E.enc)) (.int (i - b)) = some (.list ((es.drop (i - b).toNat).map E.enc)) := by
   rw [O.sliceLo_list, if_pos ⟨by omega, by rw [List.length_map]; omega⟩, List.map_drop]
  have hcl := clone_es (es.drop (i - b).toNat) (by rw [List.length_drop]; omega)
  rw [e, e_f_rlog_Compact_0, prg_termAt b bt es i h, ht]
  show (O.sliceLo (.list (es.map E.enc)) (.int (IntKind.i64.wrap (i - b)))).bind (fun x8 => calls (W f_slices_Clone_Entry 0 [x8]) 1 fun x9 => some [.int i, .int t, x9, .int 0]) = _
  rw [hw, hs]
  show calls (W f_slices_Clone_Entry 0 [_]) 1 (fun x9 => some [.int i, .int t, x9, .int 0]) = _
  rw [hcl]
  rfl
def snapL (n : N) (x : G) : L := if termAt n.l x.ix = some x.lt then compactL n.l x.ix x.lt else ⟨x.ix, x.lt, []⟩
def snapF (n : N) (x : G) : N :=
 if n.role = 2 then n
 else if x.ix ≤ n.com then sendF (followF n x.fr) x.fr ⟨4, 0, 0, 0, n.com, 0, 0, true, [], ⟨#[]⟩⟩
 else sendF (commitF {logF (followF n x.fr) (snapL n x) with sn := x.sn} x.ix) x.fr ⟨4, 0, 0, 0, x.ix, 0, 0, true, [], ⟨#[]⟩⟩
theorem p_snapshot_1 (id size role term vote lead el to : Int) (vs nx mt : List Int) (com app b bt : Int) (es : List E) (sn : ByteArray) (out : List G) (x : G) (lb lt : Int) (les : List E) (ho : out.length ≤ 1000000) :
  W f_member_node_snapshot 1 [.int id, .int size, .int role, .int term, .int vote, .int lead, .int el, .int to, .int com, .int app, .int b, .int bt, .str sn, x.enc, .int lb, .int lt, .list (vs.map IV.int), .list (nx.map IV.int), .list (mt.map IV.int), .list (es.map E.enc), .list (out.map G.enc), .list (les.map E.enc)] =
   some (N.all (sendF (commitF (N.mk id size role term vote lead el to vs nx mt com app lb lt les x.sn out) x.ix) x.fr ⟨4, 0, 0, 0, x.ix, 0, 0, true, [], ⟨#[]⟩⟩)) := by
 rw [e_f_member_node_snapshot_1]
 have h1 := p_commitTo id size role term vote lead el to vs nx mt com app lb lt les x.sn out x.ix
 have h2 := fun c a j y => p_send id size role term vote lead el to vs nx mt c a lb lt les x.sn out j y (by omega)
 simp only [G.p9, G.p4, G.p1, Option.bind_some, h1, calls_all, O.mkagg_eq, G.fold0]
 unfold commitF
 by_cases c : com < x.ix
 ·simp only [c, if_true, h2, calls_all]; rfl
 ·simp only [c, if_false, h2, calls_all]; rfl
theorem p_snapshot (id size role term vote lead el to : Int) (vs nx mt : List Int) (com app b bt : Int) (es : List E) (sn : ByteArray) (out : List G) (x : G) (h : tame ⟨b, bt, es⟩) (ho : out.length ≤ 1000000) : W f_member_node_snapshot 0 [.int id, .int size, .int role, .int term, .int vote, .int lead, .int el, .int to, .list (vs.map IV.int), .list (nx.map IV.int), .list (mt.map IV.int), .int com, .int app, .int b, .int bt, .list (es.map E.enc), .str sn, .list (out.map G.enc), x.enc] = some (N.all (snapF (N.mk id size role term vote lead el to vs nx mt com app b bt es sn out) x)) := by
 rw [e_f_member_node_snapshot_0]
 unfold snapF
 have h1 := p_follow id size role term vote lead el to vs nx mt com app b bt es sn out x.fr
 have h2 := fun j y => p_send id size 0 term vote x.fr 0 to [] nx mt com app b bt es sn out j y (by omega)
 have h3 := fun lb lt les => p_snapshot_1 id size 0 term vote x.fr 0 to [] nx mt com app b bt es sn out x lb lt les ho
 simp only [List.map_nil] at h2 h3
 have h30 := fun lb lt => h3 lb lt []
 simp only [List.map_nil] at h30
 simp only [O.eq_int, Option.bind_some, O.cnd_bool, decide_eq_true_eq, G.p1, G.p4, G.p5, h1, calls_all, List.map_nil, O.le_int, O.mkagg_eq, G.fold0, h2, prg_termAt b bt es _ h, optI_getD, O.calls_2, p_compactL b bt es _ h, O.not_bool, N.l]
 by_cases c0 : role = 2
 ·simp only [c0, if_true, N.all]
 ·by_cases c1 : x.ix ≤ com
  ·simp only [c0, c1, if_true, if_false]; rfl
  ·simp only [c0, c1, if_false]
   unfold snapL compactL compactIV N.l
   have hcase : termAt ⟨b, bt, es⟩ x.ix = none ∨ ∃ t, termAt ⟨b, bt, es⟩ x.ix = some t := by
    cases termAt ⟨b, bt, es⟩ x.ix with
    | none => exact .inl rfl
    | some t => exact .inr ⟨t, rfl⟩
   rcases hcase with ht | ⟨t, ht⟩
   ·simp only [ht, O.calls_4, Option.isSome_none, Bool.not_false, O.cnd_bool, if_true, Option.bind_some, h30, reduceCtorEq, if_false]
    rfl
   ·by_cases c2 : t = x.lt
    ·simp only [ht, O.calls_4, Option.isSome_some, Option.getD_some, Bool.not_true, O.cnd_bool, Bool.false_eq_true, if_false, Option.bind_some, O.ne_int, c2, decide_true, h3, if_true]
     rfl
    ·simp only [ht, O.calls_4, Option.isSome_some, Option.getD_some, Bool.not_true, O.cnd_bool, Bool.false_eq_true, if_false, Option.bind_some, O.ne_int, c2, decide_false, Bool.not_false, if_true, h30, Option.some.injEq]
     rfl
end Go.CT.Memb
namespace Go.CT.Memb
open Go.Proofs
structure Ok (k : Nat) (n : N) : Prop where
 id : 0 ≤ n.id ∧ n.id < n.size
 size : n.size ≤ 7
 to : 1 ≤ n.to ∧ n.to ≤ 1000000000000
 term : 0 ≤ n.term ∧ n.term ≤ 1000000000000000
 role : n.role = 0 ∨ n.role = 1 ∨ n.role = 2
 pos : n.role ≠ 0 → 1 ≤ n.term
 el : 0 ≤ n.el ∧ n.el ≤ k
 val : valid n.l = true
 bt : n.bt ≤ n.term
 ts : ∀ e ∈ n.es, e.t ≤ n.term
 com : n.b ≤ n.com ∧ n.com ≤ lastI n.l
 app : n.app = n.com
 asc : Asc n.vs
 vsl : n.vs.length ≤ k + 1
 led : n.role = 2 → (n.nx.length : Int) = n.size ∧ (n.mt.length : Int) = n.size
 nxl : n.nx.length ≤ 7 ∧ n.mt.length ≤ 7
 nx : ∀ v ∈ n.nx, 1 ≤ v ∧ v ≤ 1000000000000401
 mt : ∀ v ∈ n.mt, 0 ≤ v ∧ v ≤ 1000000000000401
theorem Ok.fine {k : Nat} {n : N} (h : Ok k n) : fine n.l := (valid_inv h.val).1
theorem Ok.tame {k : Nat} {n : N} (h : Ok k n) : tame n.l := by
 obtain ⟨f1, f2, f3, f4, f5, f6⟩ := h.fine
 exact ⟨f1, f2, by omega⟩
theorem Ok.mid {k : Nat} {n : N} (h : Ok k n) : Mid n.com := by
 have h1 := h.com
 have h2 := mid_last (b := n.b) (bt := n.bt) (es := n.es) h.tame
 have h3 : 0 ≤ n.b := h.tame.1
 have h4 : n.com ≤ lastI ⟨n.b, n.bt, n.es⟩ := h1.2
 unfold Mid; omega
theorem Ok.len {k : Nat} {n : N} (h : Ok k n) : n.es.length ≤ 400 := h.fine.2.2.2.2.2
theorem Ok.few {k : Nat} {n : N} (h : Ok k n) (hk : k ≤ 900000) : Few n := by
 have := h.vsl; have := h.nxl; have := h.len
 exact ⟨by omega, by omega, by omega, by omega⟩
theorem Ok.NX {k : Nat} {n : N} (h : Ok k n) (hr : n.role = 2) : NX n.size n.nx := fun j hj => by
 have hl := (h.led hr).1
 have hj2 : j < n.nx.length := by omega
 have := h.nx _ (List.getElem_mem hj2)
 exact ⟨_, List.getElem?_eq_getElem hj2, by unfold Mid; omega⟩
def bare (n : N) : N := {n with out := []}
def tickF (n : N) : N :=
 if n.role = 2 then say (bare n)
 else if n.to ≤ n.el + 1 ∧ n.term < 1000000000000000 then electF {bare n with el := n.el + 1} else {bare n with el := n.el + 1}
theorem p_tick {k : Nat} (n : N) (h : Ok k n) (hk : k ≤ 900000) : W f_member_Tick 0 [n.enc] = some (tickF n).all := by
 have hc := p_copied n (h.few hk)
 have hel := h.el
 have hw : IntKind.i64.wrap (n.el + 1) = n.el + 1 := wrap64 (by omega) (by omega)
 rw [e_f_member_Tick_0]
 unfold tickF
 by_cases c : n.role = 2
 ·have hb := p_broadcast n.id n.size n.role n.term n.vote n.lead n.el n.to n.vs n.nx n.mt n.com n.app n.b n.bt n.es n.sn [] h.tame (h.NX c) ⟨by have := h.id; omega, h.size⟩ (by simp)
  simp only [List.map_nil] at hb
  have hd : decide (n.role = 2) = true := by simp [c]
  rw [if_pos c]
  simp only [hc, calls_cells, O.eq_int, hd, Option.bind_some, O.cnd_bool, if_true, hb, calls_all]
  rfl
 ·simp only [hc, calls_cells, O.eq_int, c, decide_false, Option.bind_some, O.cnd_bool, Bool.false_eq_true, if_false, O.add_int, hw, O.ge_int, O.lt_int, ite_some, ite_ivbool]
  by_cases c1 : n.to ≤ n.el + 1
  ·by_cases c2 : n.term < 1000000000000000
   ·have he := p_elect n.id n.size n.role n.term n.vote n.lead (n.el + 1) n.to n.vs n.nx n.mt n.com n.app n.b n.bt n.es n.sn [] h.tame h.len h.id h.size h.mid ⟨h.term.1, c2⟩ (by simp)
    simp only [List.map_nil] at he
    simp only [c1, c2, decide_true, if_true, he, calls_all, e_f_member_Tick_1, and_self]
    rfl
   ·simp only [c1, c2, decide_true, decide_false, if_true, Bool.false_eq_true, if_false, e_f_member_Tick_1, and_false]
    rfl
  ·simp only [c1, decide_false, Bool.false_eq_true, if_false, e_f_member_Tick_1, false_and]
   rfl
def termF (n : N) (x : G) : N := if n.term < x.term then {n with role := 0, term := x.term, vote := -1, lead := -1, vs := [], nx := [], mt := []} else n
def kindF (n : N) (x : G) : N :=
 if x.kind = 1 then voteF n x else if x.kind = 2 then votedF n x else if x.kind = 3 then entriesF n x else if x.kind = 4 then ackF n x else if x.kind = 5 then snapF n x else n
def handleF (n : N) (x : G) : N :=
 if ignF (bare n) x = true then bare n
 else if x.term < n.term then staleF (bare n) x
 else kindF (termF (bare n) x) x
structure GOk (x : G) : Prop where
 ix : I64 x.ix
 es : x.es.length ≤ 1048576
theorem ign_inv {n : N} {x : G} (h : ¬ ignF n x = true) : x.to = n.id ∧ x.fr ≠ n.id ∧ 0 ≤ x.fr ∧ x.fr < n.size ∧ 0 ≤ x.term ∧ x.term ≤ 1000000000000000 ∧ 1 ≤ x.kind ∧ x.kind ≤ 5 ∧
  (x.kind = 3 → ∀ e ∈ x.es, e.t ≤ x.term) ∧ (x.kind = 5 → 1 ≤ x.ix ∧ x.ix ≤ 1000000000000000 ∧ 1 ≤ x.lt ∧ x.lt ≤ x.term) := by
 unfold ignF at h
 simp only [Bool.or_eq_true, decide_eq_true_eq, not_or, Bool.not_eq_true] at h
 obtain ⟨⟨⟨⟨⟨⟨⟨⟨h1, h2⟩, h3⟩, h4⟩, h5⟩, h6⟩, h7⟩, h8⟩, h9⟩ := h
 refine ⟨by omega, h2, by omega, by omega, by omega, by omega, by omega, by omega, fun k e he => ?_, fun k => ?_⟩
 ·rw [if_pos k] at h9
  have := List.any_eq_false.1 h9 e he
  simp only [over, decide_eq_true_eq] at this
  omega
 ·rw [if_neg (by omega), if_pos k] at h9
  simp only [Bool.or_eq_false_iff, decide_eq_false_iff_not] at h9
  omega
theorem p_kind {k : Nat} (n : N) (x : G) (h : Ok k n) (hk : k ≤ 900000) (hx : GOk x) (hfr : 0 ≤ x.fr ∧ x.fr < n.size) (ho : n.out = []) (y1 y2 y3 y4 y5 y6 y7 y8 y9 y10 y11 y12 y13 : IV) :
  W f_member_Handle 1 [x.enc, y1, y2, y3, y4, y5, y6, y7, y8, y9, y10, y11, y12, y13, .int n.id, .int n.size, .int n.role, .int n.term, .int n.vote, .int n.lead, .int n.el, .int n.to, .int n.com, .int n.app, .int n.b, .int n.bt, .str n.sn, .list (n.vs.map IV.int), .list (n.nx.map IV.int), .list (n.mt.map IV.int), .list (n.es.map E.enc)] = some (kindF n x).all := by
 obtain ⟨hx1, hx2⟩ := hx
 have hid := h.id
 have q1 := p_vote n.id n.size n.role n.term n.vote n.lead n.el n.to n.vs n.nx n.mt n.com n.app n.b n.bt n.es n.sn [] x h.tame (by simp)
 have q2 := p_voted n.id n.size n.role n.term n.vote n.lead n.el n.to n.vs n.nx n.mt n.com n.app n.b n.bt n.es n.sn [] x h.tame h.len h.id h.size h.mid (by simp) h.asc (by have := h.vsl; omega)
 have q3 := p_entries n.id n.size n.role n.term n.vote n.lead n.el n.to n.vs n.nx n.mt n.com n.app n.b n.bt n.es n.sn [] x h.fine hx2 h.mid hx1 (by simp)
 have q4 := p_appended n.id n.size n.role n.term n.vote n.lead n.el n.to n.vs n.nx n.mt n.com n.app n.b n.bt n.es n.sn [] x h.tame ⟨by omega, h.size⟩ hfr hx1 h.mid (by simp) h.led h.nx h.mt
 have q5 := p_snapshot n.id n.size n.role n.term n.vote n.lead n.el n.to n.vs n.nx n.mt n.com n.app n.b n.bt n.es n.sn [] x h.tame (by simp)
 have e : N.mk n.id n.size n.role n.term n.vote n.lead n.el n.to n.vs n.nx n.mt n.com n.app n.b n.bt n.es n.sn [] = n := by rw [← ho]
 rw [e] at q1 q2 q3 q4 q5
 simp only [List.map_nil] at q1 q2 q3 q4 q5
 rw [e_f_member_Handle_1]
 unfold kindF
 simp only [G.p0, Option.bind_some, O.eq_int, O.cnd_bool, decide_eq_true_eq, q1, q2, q3, q4, q5, calls_all, e_f_member_Handle_2]
 by_cases c1 : x.kind = 1
 ·simp only [c1, if_true]; rfl
 ·by_cases c2 : x.kind = 2
  ·simp only [c1, c2, if_true, if_false]; rfl
  ·by_cases c3 : x.kind = 3
   ·simp only [c1, c2, c3, if_true, if_false]; rfl
   ·by_cases c4 : x.kind = 4
    ·simp only [c1, c2, c3, c4, if_true, if_false]; rfl
    ·by_cases c5 : x.kind = 5
     ·simp only [c1, c2, c3, c4, c5, if_true, if_false]; rfl
     ·simp only [c1, c2, c3, c4, c5, if_false]
      unfold N.all
      rw [ho]; rfl
theorem ok_bare {k : Nat} {n : N} (h : Ok k n) : Ok k (bare n) := ⟨h.id, h.size, h.to, h.term, h.role, h.pos, h.el, h.val, h.bt, h.ts, h.com, h.app, h.asc, h.vsl, h.led, h.nxl, h.nx, h.mt⟩
theorem ok_out {k : Nat} {n : N} (h : Ok k n) (o : List G) : Ok k {n with out := o} := ⟨h.id, h.size, h.to, h.term, h.role, h.pos, h.el, h.val, h.bt, h.ts, h.com, h.app, h.asc, h.vsl, h.led, h.nxl, h.nx, h.mt⟩
theorem ok_term {k : Nat} {n : N} {x : G} (h : Ok k n) (hx : 0 ≤ x.term ∧ x.term ≤ 1000000000000000) : Ok k (termF n x) := by
 unfold termF
 split
 ·next c =>
  exact ⟨h.id, h.size, h.to, hx, .inl rfl, fun h => absurd rfl h, h.el, h.val, by have := h.bt; simp only; omega, fun e he => by have := h.ts e he; simp only; omega, h.com, h.app, List.Pairwise.nil, by simp, fun h => by simp at h, by simp, by simp, by simp⟩
 ·exact h
theorem p_handle {k : Nat} (n : N) (x : G) (h : Ok k n) (hk : k ≤ 900000) (hx : GOk x) : W f_member_Handle 0 [n.enc, x.enc] = some (handleF n x).all := by
 have hc := p_copied n (h.few (by omega))
 rw [e_f_member_Handle_0]
 unfold handleF
 have hi := p_ignored n.id n.size n.role n.term n.vote n.lead n.el n.to n.vs n.nx n.mt n.com n.app n.b n.bt n.es n.sn [] x hx.es
 have hs := p_stale n.id n.size n.role n.term n.vote n.lead n.el n.to n.vs n.nx n.mt n.com n.app n.b n.bt n.es n.sn [] x (by simp)
 have e : N.mk n.id n.size n.role n.term n.vote n.lead n.el n.to n.vs n.nx n.mt n.com n.app n.b n.bt n.es n.sn [] = bare n := rfl
 rw [e] at hi hs
 simp only [List.map_nil] at hi hs
 simp only [hc, calls_cells, O.mkagg_eq, Option.bind_some, hi, O.calls_1, O.cnd_bool, G.p3, O.lt_int, decide_eq_true_eq, hs, calls_all, O.gt_int]
 by_cases c0 : ignF (bare n) x = true
 ·simp only [c0, if_true]; rfl
 ·obtain ⟨i1, i2, i3, i4, i5, i6, i7, i8, i9, i10⟩ := ign_inv c0
  simp only [c0, Bool.false_eq_true, if_false]
  by_cases c1 : x.term < n.term
  ·simp only [c1, if_true]; rfl
  ·simp only [c1, if_false]
   have ht := ok_term (x := x) (ok_bare h) ⟨i5, i6⟩
   by_cases c2 : n.term < x.term
   ·have e2 : termF (bare n) x = {bare n with role := 0, term := x.term, vote := -1, lead := -1, vs := [], nx := [], mt := []} := if_pos c2
    have hq := p_kind (termF (bare n) x) x ht hk hx (by rw [e2]; exact ⟨i3, i4⟩) (by rw [e2]; rfl)
    rw [if_pos c2, ← hq (.int 0) (.int 0) (.int 0) (.int 0) (.int 0) (.int 0) (.int 0) (.int 0) (.int 0) (.int 0) (.int 0) (.int 0) (.str ⟨#[]⟩), e2]
    rfl
   ·have e2 : termF (bare n) x = bare n := if_neg c2
    have hq := p_kind (termF (bare n) x) x ht hk hx (by rw [e2]; exact ⟨i3, i4⟩) (by rw [e2]; rfl)
    rw [if_neg c2, ← hq (.int 0) (.int 0) (.int 0) (.int 0) (.int 0) (.int 0) (.int 0) (.int 0) (.int 0) (.int 0) (.int 0) (.int 0) (.str ⟨#[]⟩), e2]
    rfl
end Go.CT.Memb
namespace Go.CT.Memb
open Go.Proofs
def addF (n : N) (d : ByteArray) : N := {n with es := n.es ++ [⟨n.term, d⟩]}
def propF (n : N) (d : ByteArray) : N := if n.role ≠ 2 ∨ 20000 < d.size ∨ 400 ≤ n.es.length then bare n else sayAdv (ownF (addF (bare n) d))
def propE (n : N) (d : ByteArray) : Int := if n.role ≠ 2 then 17 else if 20000 < d.size then 4 else if 400 ≤ n.es.length then 15 else 0
theorem p_propose_2 (id size role term vote lead el to : Int) (vs nx mt : List Int) (com app b bt : Int) (es : List E) (sn : ByteArray) (out : List G) (y1 y2 y3 y4 y5 y6 y7 y8 y9 y10 y11 y12 y13 : IV) (h : tame ⟨b, bt, es⟩) (hid : 0 ≤ id ∧ id < size) (hs : size ≤ 7) (hnx : (nx.length : Int) = size) (hmt : (mt.length : Int) = size) (hmid : ∀ v ∈ nx, Mid v) (hcom : Mid com) (ho : out.length + 7 ≤ 1048576) :
  (calls (W f_member_node_own 0 [.int id, .int size, .int role, .int term, .int vote, .int lead, .int el, .int to, .list (vs.map IV.int), .list (nx.map IV.int), .list (mt.map IV.int), .int com, .int app, .int b, .int bt, .list (es.map E.enc), .str sn, .list (out.map G.enc)]) 18 fun x42 x43 x44 x45 x46 x47 x48 x49 x50 x51 x52 x53 x54 x55 x56 x57 x58 x59 =>
    calls (W f_member_node_broadcast 0 [x42, x43, x44, x45, x46, x47, x48, x49, x50, x51, x52, x53, x54, x55, x56, x57, x58, x59]) 18 fun x60 x61 x62 x63 x64 x65 x66 x67 x68 x69 x70 x71 x72 x73 x74 x75 x76 x77 =>
    (O.eq x61 (.int 1)).bind fun x78 =>
    cnd x78 (
     calls (W f_member_node_advance 0 [x60, x61, x62, x63, x64, x65, x66, x67, x68, x69, x70, x71, x72, x73, x74, x75, x76, x77]) 18 fun x79 x80 x81 x82 x83 x84 x85 x86 x87 x88 x89 x90 x91 x92 x93 x94 x95 x96 =>
     W f_member_Propose 1 [y1, y2, y3, y4, y5, y6, y7, y8, y9, y10, y11, y12, y13, x79, x80, x81, x82, x83, x84, x85, x86, x90, x91, x92, x93, x95, x87, x88, x89, x94, x96]) (
     W f_member_Propose 1 [y1, y2, y3, y4, y5, y6, y7, y8, y9, y10, y11, y12, y13, x60, x61, x62, x63, x64, x65, x66, x67, x71, x72, x73, x74, x76, x68, x69, x70, x75, x77])) = some (N.allE (sayAdv (ownF (N.mk id size role term vote lead el to vs nx mt com app b bt es sn out))) 0) := by
 have hla := mid_last h
 have hNX : NX size (nx.set id.toNat (lastI ⟨b, bt, es⟩ + 1)) := fun j hj => by
  have hj2 : j < (nx.set id.toNat (lastI ⟨b, bt, es⟩ + 1)).length := by rw [List.length_set]; omega
  refine ⟨_, List.getElem?_eq_getElem hj2, ?_⟩
  rcases List.mem_or_eq_of_mem_set (List.getElem_mem hj2) with g | g
  ·exact hmid _ g
  ·rw [g]; unfold Mid; omega
 have h1 := p_own id size role term vote lead el to vs nx mt com app b bt es sn out h hid.1 (by omega) (by omega)
 have h2 := p_broadcast id size role term vote lead el to vs (nx.set id.toNat (lastI ⟨b, bt, es⟩ + 1)) (mt.set id.toNat (lastI ⟨b, bt, es⟩)) com app b bt es sn out h hNX (by omega) ho
 have h3 := fun o => p_advance id size role term vote lead el to vs (nx.set id.toNat (lastI ⟨b, bt, es⟩ + 1)) (mt.set id.toNat (lastI ⟨b, bt, es⟩)) com app b bt es sn o h (by omega) hcom (by simp; omega)
 simp only [h1, calls_all, ownF, N.l, h2, O.eq_int, Option.bind_some, O.cnd_bool, decide_eq_true_eq, h3, e_f_member_Propose_1]
 unfold sayAdv say
 split <;> rfl
theorem p_propose {k : Nat} (n : N) (d : ByteArray) (h : Ok k n) (hk : k ≤ 900000) : W f_member_Propose 0 [n.enc, .str d] = some (N.allE (propF n d) (propE n d)) := by
 have hc := p_copied n (h.few (by omega))
 rw [e_f_member_Propose_0]
 unfold propF propE
 by_cases c0 : n.role = 2
 ·by_cases c1 : 20000 < d.size
  ·have c1' : (20000 : Int) < (d.size : Int) := by omega
   have hd : decide (n.role = 2) = true := by simp [c0]
   rw [if_pos (.inr (.inl c1)), if_neg (by simp [c0]), if_pos c1]
   simp only [hc, calls_cells, O.ne_int, hd, Bool.not_true, Option.bind_some, O.cnd_bool, Bool.false_eq_true, if_false, O.slen_str, O.gt_int, c1', decide_true, if_true]
   rfl
  ·have c1' : ¬ (20000 : Int) < (d.size : Int) := by omega
   have hd : decide (n.role = 2) = true := by simp [c0]
   by_cases c2 : 400 ≤ n.es.length
   ·have c2' : (400 : Int) ≤ (n.es.length : Int) := by omega
    rw [if_pos (.inr (.inr c2)), if_neg (by simp [c0]), if_neg c1, if_pos c2]
    simp only [hc, calls_cells, O.ne_int, hd, Bool.not_true, Option.bind_some, O.cnd_bool, Bool.false_eq_true, if_false, O.slen_str, O.gt_int, c1', decide_false, O.len_list, List.length_map, O.ge_int, c2', decide_true, if_true]
    rfl
   ·have c2' : ¬ (400 : Int) ≤ (n.es.length : Int) := by omega
    have hl := h.led c0
    have ha := p_add n.id n.size n.role n.term n.vote n.lead n.el n.to n.vs n.nx n.mt n.com n.app n.b n.bt n.es n.sn [] d (by have := h.len; omega)
    have hp := fun y1 y2 y3 y4 y5 y6 y7 y8 y9 y10 y11 y12 y13 => p_propose_2 n.id n.size n.role n.term n.vote n.lead n.el n.to n.vs n.nx n.mt n.com n.app n.b n.bt (n.es ++ [⟨n.term, d⟩]) n.sn [] y1 y2 y3 y4 y5 y6 y7 y8 y9 y10 y11 y12 y13 (tame_add h.tame (by show n.es.length < 400; omega)) h.id h.size hl.1 hl.2 (fun v hv => by have := h.nx v hv; unfold Mid; omega) h.mid (by simp)
    simp only [List.map_nil] at ha hp
    rw [if_neg (by omega), if_neg (by simp [c0]), if_neg c1, if_neg c2]
    simp only [hc, calls_cells, O.ne_int, hd, Bool.not_true, Option.bind_some, O.cnd_bool, Bool.false_eq_true, if_false, O.slen_str, O.gt_int, c1', decide_false, O.len_list, List.length_map, O.ge_int, c2', ha, calls_all, List.map_nil]
    rw [hp]
    rfl
 ·rw [if_pos (.inl c0), if_pos c0]
  simp only [hc, calls_cells, O.ne_int, c0, decide_false, Bool.not_false, Option.bind_some, O.cnd_bool, if_true]
  rfl
theorem termAt_some {l : L} {i : Int} (h1 : l.b ≤ i) (h2 : i ≤ lastI l) : ∃ t, termAt l i = some t := by
 unfold termAt
 by_cases c : i = l.b
 ·exact ⟨l.bt, if_pos c⟩
 ·rw [if_neg c, if_neg (by omega)]
  unfold lastI at h2
  have hlt : (i - l.b).toNat - 1 < l.es.length := by omega
  exact ⟨l.es[(i - l.b).toNat - 1].t, by rw [List.getElem?_eq_getElem hlt]; rfl⟩
def restF (n : N) : N := {bare n with role := 0, lead := -1, el := 0, vs := [], nx := [], mt := [], com := n.b, app := n.b}
theorem p_restart {k : Nat} (n : N) (h : Ok k n) (hk : k ≤ 900000) : W f_member_Restart 0 [n.enc] = some (restF n).cells := by
 have hc := p_copied n (h.few (by omega))
 rw [e_f_member_Restart_0]
 simp only [hc, calls_cells]
 rfl
def start (i s t : Int) : N := ⟨i, s, 0, 0, -1, -1, 0, t, [], [], [], 0, 0, 0, 0, [], ⟨#[]⟩, []⟩
def startOk (i s t : Int) : Bool := decide (1 ≤ s ∧ s ≤ 7 ∧ 0 ≤ i ∧ i < s ∧ 1 ≤ t ∧ t ≤ 1000000000000)
structure Act where
 kind : Int
 x : G
 d : ByteArray
 i : Int
def Act.enc (a : Act) : IV := .agg [.int a.kind, .int a.x.kind, .int a.x.fr, .int a.x.to, .int a.x.term, .int a.x.ix, .int a.x.lt, .int a.x.com, .bool a.x.ok, .list (a.x.es.map E.enc), .str a.x.sn, .str a.d, .int a.i]
end Go.CT.Memb
namespace Go.CT.Memb
open Go.Proofs
theorem merge_keep : ∀ (es out : List E) (a c : Nat), a ≤ out.length → c ≤ out.length → (∀ (j : Nat) (h : j < es.length) (h' : a + j < out.length), a + j < c → out[a + j].t = es[j].t) →
  (mergeF out a es).take c = out.take c ∧ c ≤ (mergeF out a es).length
 | [], out, a, c, _, hc, _ => ⟨rfl, hc⟩
 | e :: es, out, a, c, ha, hc, h => by
  have cut : c ≤ a → (out.take a ++ e :: es).take c = out.take c ∧ c ≤ (out.take a ++ e :: es).length := fun hca => by
   refine ⟨?_, by simp; omega⟩
   rw [List.take_append_of_le_length (by simp; omega), List.take_take, Nat.min_eq_left hca]
  unfold mergeF
  split
  ·next x hx =>
   obtain ⟨hlt, rfl⟩ := List.getElem?_eq_some_iff.1 hx
   split
   ·refine merge_keep es out (a + 1) c (by omega) hc fun j hj hj' hjc => ?_
    have := h (j + 1) (by simpa using hj) (by omega) (by omega)
    simp only [List.getElem_cons_succ] at this
    rw [← this]
    congr 2; omega
   ·next hne =>
    refine cut (Nat.le_of_not_lt fun hac => hne ?_)
    exact h 0 (by simp) (by simpa using hlt) (by simpa using hac)
  ·next hx =>
   rw [List.getElem?_eq_none_iff] at hx
   exact cut (by omega)
theorem merge_len : ∀ (es out : List E) (a : Nat), a ≤ out.length → a + es.length ≤ (mergeF out a es).length
 | [], out, a, h => by simpa [mergeF] using h
 | e :: es, out, a, h => by
  unfold mergeF
  split
  ·next x hx =>
   have hlt := (List.getElem?_eq_some_iff.1 hx).1
   split
   ·have := merge_len es out (a + 1) (by omega)
    simp only [List.length_cons]; omega
   ·simp; omega
  ·simp; omega
theorem merge_mem : ∀ (es out : List E) (a : Nat) (x : E), x ∈ mergeF out a es → x ∈ out ∨ x ∈ es
 | [], out, a, x, h => .inl h
 | e :: es, out, a, x, h => by
  have cut : x ∈ out.take a ++ e :: es → x ∈ out ∨ x ∈ e :: es := fun h => by
   rcases List.mem_append.1 h with h | h
   ·exact .inl (List.mem_of_mem_take h)
   ·exact .inr h
  unfold mergeF at h
  split at h
  ·split at h
   ·rcases merge_mem es out (a + 1) x h with h | h
    ·exact .inl h
    ·exact .inr (List.mem_cons_of_mem _ h)
   ·exact cut h
  ·exact cut h
theorem termAt_get {l : L} {i t : Int} (h : termAt l i = some t) (hb : l.b < i) : ∃ hlt : (i - l.b).toNat - 1 < l.es.length, l.es[(i - l.b).toNat - 1].t = t := by
 unfold termAt at h
 rw [if_neg (by omega), if_neg (by omega), Option.map_eq_some_iff] at h
 obtain ⟨e, he, rfl⟩ := h
 obtain ⟨hlt, rfl⟩ := List.getElem?_eq_some_iff.1 he
 exact ⟨hlt, rfl⟩
theorem contra_inv (n : N) : ∀ (es : List E) (i : Int), contra n i es = false → ∀ (j : Nat) (h : j < es.length), n.b < i + j → i + j ≤ n.com → (termAt n.l (i + j)).isSome = true → (termAt n.l (i + j)).getD 0 = es[j].t
 | [], _, _, j, h, _, _, _ => by simp at h
 | e :: es, i, hc, j, h, h1, h2, h3 => by
  unfold contra at hc
  split at hc
  ·next c => omega
  ·split at hc
   ·cases hc
   ·next c =>
    cases j with
    | zero =>
     simp only [Int.cast_ofNat_Int, Int.add_zero] at h1 h2 h3 ⊢
     simp only [List.getElem_cons_zero]
     rcases Decidable.em ((termAt n.l i).getD 0 = e.t) with d | d
     ·exact d
     ·exact absurd ⟨h1, h3, d⟩ c
    | succ j =>
     have e1 : i + ((j + 1 : Nat) : Int) = i + 1 + j := by omega
     rw [e1] at h1 h2 h3 ⊢
     exact contra_inv n es (i + 1) hc j (by simpa using h) h1 h2 h3
theorem append_facts (n : N) (prev pt : Int) (e : List E) (hv : valid n.l = true) (hc : n.b ≤ n.com ∧ n.com ≤ lastI n.l) (hok : (appendF n.l prev pt e).ok = true) (hcon : contra n (prev + 1) e = false) :
  (appendF n.l prev pt e).l.b = n.b ∧ (appendF n.l prev pt e).l.bt = n.bt ∧ (appendF n.l prev pt e).n ≤ lastI (appendF n.l prev pt e).l ∧ (appendF n.l prev pt e).l.es.take (n.com - n.b).toNat = n.es.take (n.com - n.b).toNat ∧
   n.com ≤ lastI (appendF n.l prev pt e).l ∧ ∀ x ∈ (appendF n.l prev pt e).l.es, x ∈ n.es ∨ x ∈ e := by
 have hf := (valid_inv hv).1
 have hl400 : n.es.length ≤ 400 := hf.2.2.2.2.2
 have hlast : lastI n.l = n.b + n.es.length := rfl
 have hA : (prev < 0 ∨ pt < 0 ∨ rises e (if 1 < pt then pt else 1) = false) ∨ ¬ (prev < 0 ∨ pt < 0 ∨ rises e (if 1 < pt then pt else 1) = false) := Decidable.em _
 rcases hA with c0 | c0
 ·unfold appendF at hok; rw [if_pos c0] at hok; cases hok
 have hB : okAll n.l.bt (e.drop (n.l.b - prev).toNat) = false ∨ ¬ okAll n.l.bt (e.drop (n.l.b - prev).toNat) = false := Decidable.em _
 rcases hB with c1 | c1
 ·unfold appendF at hok; rw [if_neg c0, if_pos c1] at hok; cases hok
 by_cases hfit : fits n.l prev pt
 rotate_left
 ·unfold appendF at hok; rw [if_neg c0, if_neg c1, if_pos hfit] at hok; cases hok
 have hE : appendF n.l prev pt e = ⟨⟨n.l.b, n.l.bt, (mergeF n.l.es (prev - n.l.b).toNat (e.drop (n.l.b - prev).toNat)).take 400⟩, min (prev + e.length) (n.l.b + 400), true⟩ := by
  unfold appendF; rw [if_neg c0, if_neg c1, if_neg (fun h => h hfit)]
 rw [hE]
 show n.b = n.b ∧ n.bt = n.bt ∧ min (prev + e.length) (n.b + 400) ≤ n.b + (((mergeF n.es (prev - n.b).toNat (e.drop (n.b - prev).toNat)).take 400).length : Nat) ∧ ((mergeF n.es (prev - n.b).toNat (e.drop (n.b - prev).toNat)).take 400).take (n.com - n.b).toNat = _ ∧ n.com ≤ n.b + (((mergeF n.es (prev - n.b).toNat (e.drop (n.b - prev).toNat)).take 400).length : Nat) ∧ _
 have ha : (prev - n.b).toNat ≤ n.es.length := by
  by_cases cb : n.b < prev
  ·have := termAt_le (b := n.b) (bt := n.bt) (es := n.es) (hfit cb)
   omega
  ·omega
 have hml := merge_len (e.drop (n.b - prev).toNat) n.es (prev - n.b).toNat ha
 rw [List.length_drop] at hml
 obtain ⟨hk1, hk2⟩ := merge_keep (e.drop (n.b - prev).toNat) n.es (prev - n.b).toNat (n.com - n.b).toNat ha (by omega) (fun j hj hj' hjc => by
  rw [List.getElem_drop]
  rw [List.length_drop] at hj
  have hj2 : (n.b - prev).toNat + j < e.length := by omega
  have hidx : prev + 1 + (((n.b - prev).toNat + j : Nat) : Int) = n.b + ((prev - n.b).toNat + j : Nat) + 1 := by omega
  obtain ⟨t, ht⟩ := termAt_some (l := n.l) (i := prev + 1 + (((n.b - prev).toNat + j : Nat) : Int)) (by show n.b ≤ _; omega) (by omega)
  have hin := contra_inv n e (prev + 1) hcon ((n.b - prev).toNat + j) hj2 (by omega) (by omega) (by rw [ht]; rfl)
  rw [ht] at hin
  simp only [Option.getD_some] at hin
  obtain ⟨hlt, hg⟩ := termAt_get ht (by show n.b < _; omega)
  have hlt' : (prev + 1 + (((n.b - prev).toNat + j : Nat) : Int) - n.b).toNat - 1 < n.es.length := hlt
  have hg' : n.es[(prev + 1 + (((n.b - prev).toNat + j : Nat) : Int) - n.b).toNat - 1].t = t := hg
  rw [← hin, ← hg']
  congr 2; omega)
 refine ⟨rfl, rfl, ?_, ?_, ?_, fun x hx => ?_⟩
 ·rw [List.length_take]; omega
 ·rw [List.take_take, Nat.min_eq_left (by omega)]; exact hk1
 ·rw [List.length_take]; omega
 ·rcases merge_mem _ _ _ _ (List.mem_of_mem_take hx) with h | h
  ·exact .inl h
  ·exact .inr (List.mem_of_mem_drop h)
theorem endT_le {t : Int} : ∀ (xs : List E) (m : Int), m ≤ t → (∀ e ∈ xs, e.t ≤ t) → endT xs m ≤ t
 | [], _, h, _ => h
 | e :: es, _, _, h => endT_le es e.t (h e (by simp)) fun x hx => h x (by simp [hx])
theorem valid_of {l : L} (h1 : fine l) (h2 : rises l.es (if 1 < l.bt then l.bt else 1) = true) : valid l = true := by
 unfold valid
 rw [h2, decide_eq_true h1]; rfl
theorem valid_add {l : L} {t : Int} {d : ByteArray} (h : valid l = true) (hb : l.bt ≤ t) (hts : ∀ e ∈ l.es, e.t ≤ t) (ht : 1 ≤ t ∧ t ≤ 1000000000000000) (hl : l.es.length < 400) : valid ⟨l.b, l.bt, l.es ++ [⟨t, d⟩]⟩ = true := by
 obtain ⟨⟨f1, f2, f3, f4, f5, f6⟩, hr⟩ := valid_inv h
 refine valid_of ⟨f1, f2, f3, f4, f5, by simp; omega⟩ ?_
 rw [rises_append, hr, Bool.true_and]
 have := endT_le (t := t) l.es (if 1 < l.bt then l.bt else 1) (by split <;> omega) hts
 simp only [rises]
 rw [if_neg (by omega)]
theorem lastI_add (b bt : Int) (es : List E) (e : E) : lastI ⟨b, bt, es ++ [e]⟩ = lastI ⟨b, bt, es⟩ + 1 := by simp [lastI]; omega
theorem rises_ge {m : Int} : ∀ (xs : List E), rises xs m = true → ∀ e ∈ xs, m ≤ e.t ∧ e.t ≤ 1000000000000000
 | [], _, e, he => by simp at he
 | x :: xs, h, e, he => by
  simp only [rises] at h
  split at h
  ·cases h
  ·next c =>
   rcases List.mem_cons.1 he with rfl | he
   ·omega
   ·have := rises_ge xs h e he; omega
theorem rises_from {m : Int} (k : Nat) (xs : List E) (h : rises xs m = true) (hk : 0 < k) (hk2 : k ≤ xs.length) (m' : Int) (hm : m' = (xs[k - 1]'(by omega)).t) : rises (xs.drop k) m' = true := by
 have e := List.take_append_drop k xs
 rw [← e, rises_append, Bool.and_eq_true] at h
 have : endT (xs.take k) m = m' := by
  rw [hm]
  refine endT_get _ _ _ ?_
  rw [List.length_take, Nat.min_eq_left hk2, List.getElem?_take, if_pos (by omega), List.getElem?_eq_getElem (by omega)]
 rw [this] at h
 exact h.2
theorem valid_compact {l : L} {i t : Int} (h : valid l = true) (hi : l.b ≤ i ∧ i ≤ lastI l) (hm : i ≤ 1000000000000000) (ht : termAt l i = some t) : valid (compactL l i t) = true := by
 obtain ⟨⟨f1, f2, f3, f4, f5, f6⟩, hr⟩ := valid_inv h
 by_cases c : i = l.b
 ·have : t = l.bt := by unfold termAt at ht; rw [if_pos c] at ht; injection ht with ht; exact ht.symm
  subst c this
  unfold compactL
  simp only [Int.sub_self, Int.toNat_zero, List.drop_zero]
  exact h
 ·obtain ⟨hlt, hg⟩ := termAt_get ht (by omega)
  have hrg := rises_ge l.es hr _ (List.getElem_mem hlt)
  rw [hg] at hrg
  have ht1 : 1 ≤ t := by have := hrg.1; split at this <;> omega
  refine valid_of ⟨by show 0 ≤ i; omega, hm, by show 0 ≤ t; omega, hrg.2, ?_, by show (l.es.drop _).length ≤ 400; rw [List.length_drop]; omega⟩ ?_
  ·show i = 0 ↔ t = 0
   omega
  ·show rises (l.es.drop (i - l.b).toNat) (if 1 < t then t else 1) = true
   have e : (if 1 < t then t else 1) = t := by split <;> omega
   rw [e]
   exact rises_from _ l.es hr (by omega) (by omega) t hg.symm
end Go.CT.Memb
namespace Go.CT.Memb
open Go.Proofs
def Keep (c : Int) (n x : N) : Prop := ∀ i : Int, n.b < i → x.b < i → i ≤ c → i ≤ lastI x.l ∧ n.es[(i - n.b).toNat - 1]? = x.es[(i - x.b).toNat - 1]?
structure Step (n x : N) : Prop where
 id : x.id = n.id
 size : x.size = n.size
 keep : Keep n.com n x
 up : n.com ≤ x.com
 term : n.term ≤ x.term
 leads : n.role = 2 → x.role = 2 → x.term = n.term ∧ lastI n.l ≤ lastI x.l ∧ Keep (lastI n.l) n x
 commits : x.role = 2 → n.com < x.com → termAt x.l x.com = some x.term ∧ x.size < 2 * (cnt x.mt x.com : Int)
 dur : x.term = n.term → n.vote = -1 ∨ x.vote = n.vote
 self : (x.role = 1 ∧ n.role ≠ 1) ∨ (x.role = 2 ∧ n.role = 0) ∨ (x.role = 1 ∧ n.term < x.term) → x.vote = x.id
 said : ∀ y ∈ x.out, y.kind = 2 → y.ok = true → y.term = x.term ∧ y.to = x.vote ∧ 0 ≤ y.to
theorem keep_app {n x : N} {ys : List E} (hb : x.b = n.b) (he : x.es = n.es ++ ys) : Keep (lastI n.l) n x := fun i h1 _ h3 => by
 have h4 : i ≤ n.b + n.es.length := h3
 have : lastI x.l = n.b + (n.es.length + ys.length : Nat) := by unfold lastI N.l; simp only [hb, he, List.length_append]
 refine ⟨by omega, ?_⟩
 rw [hb, he, List.getElem?_append_left (by omega)]
theorem keep_same {n x : N} (hb : x.b = n.b) (he : x.es = n.es) : Keep (lastI n.l) n x := keep_app (ys := []) hb (by simp [he])
theorem Keep.le {n x : N} {c d : Int} (h : Keep c n x) (hd : d ≤ c) : Keep d n x := fun i h1 h2 h3 => h i h1 h2 (by omega)
theorem kind_appMsg (n : N) (j i : Int) : (appMsg n j i).kind ≠ 2 := by
 unfold appMsg
 split <;> simp
theorem kind_msgs (n : N) : ∀ (k i : Nat), ∀ y ∈ msgs n k i, y.kind ≠ 2
 | 0, _, y, h => by simp [msgs] at h
 | k + 1, i, y, h => by
  rw [msgs] at h
  rcases List.mem_append.1 h with h | h
  ·split at h
   ·simp at h
   ·simp only [List.mem_singleton] at h
    rw [h]
    exact kind_appMsg _ _ _
  ·exact kind_msgs n k (i + 1) y h
theorem kind_asks (n : N) (ix lt : Int) : ∀ (k i : Nat), ∀ y ∈ asks n ix lt k i, y.kind ≠ 2
 | 0, _, y, h => by simp [asks] at h
 | k + 1, i, y, h => by
  rw [asks] at h
  rcases List.mem_append.1 h with h | h
  ·split at h
   ·simp at h
   ·simp only [List.mem_singleton] at h
    rw [h]
    simp
  ·exact kind_asks n ix lt k (i + 1) y h
theorem adv_shape (m : N) (ha : m.app = m.com) (hc : m.com ≤ lastI m.l) : ∃ c : Int, advF m = {m with com := c, app := c} ∧ m.com ≤ c ∧ c ≤ lastI m.l ∧ (m.com < c → termAt m.l c = some m.term ∧ m.size < 2 * (cnt m.mt c : Int)) := by
 rcases advF_form m with h | ⟨c, h1, h2, h3, h4, h5⟩
 ·refine ⟨m.com, ?_, by omega, hc, fun h => by omega⟩
  rw [h]
  conv => lhs; rw [← N.eta m, ha]
 ·exact ⟨c, h5, by omega, h2, fun _ => ⟨h3, h4⟩⟩
theorem sayAdv_shape (m : N) (ha : m.app = m.com) (hc : m.com ≤ lastI m.l) : ∃ (c : Int) (o : List G), sayAdv m = {m with com := c, app := c, out := o} ∧ m.com ≤ c ∧ c ≤ lastI m.l ∧ (m.com < c → termAt m.l c = some m.term ∧ m.size < 2 * (cnt m.mt c : Int)) ∧ ∀ y ∈ o, y ∈ m.out ∨ y.kind ≠ 2 := by
 have hout : ∀ y ∈ m.out ++ bcast m, y ∈ m.out ∨ y.kind ≠ 2 := fun y hy => by
  rcases List.mem_append.1 hy with h | h
  ·exact .inl h
  ·exact .inr (kind_msgs m _ _ y h)
 unfold sayAdv
 split
 ·obtain ⟨c, h1, h2, h3, h4⟩ := adv_shape (say m) ha hc
  exact ⟨c, m.out ++ bcast m, h1, h2, h3, h4, hout⟩
 ·refine ⟨m.com, m.out ++ bcast m, ?_, by omega, hc, fun h => by omega, hout⟩
  have key : ∀ a : Int, a = m.com → ({m with app := a, out := m.out ++ bcast m} : N) = {m with com := m.com, app := m.com, out := m.out ++ bcast m} := by
   rintro _ rfl; rfl
  exact key m.app ha
theorem ok_com {k : Nat} {n : N} (h : Ok k n) (c : Int) (o : List G) (h1 : n.com ≤ c) (h2 : c ≤ lastI n.l) : Ok k {n with com := c, app := c, out := o} :=
 ⟨h.id, h.size, h.to, h.term, h.role, h.pos, h.el, h.val, h.bt, h.ts, ⟨by have := h.com; show n.b ≤ c; omega, h2⟩, rfl, h.asc, h.vsl, h.led, h.nxl, h.nx, h.mt⟩
theorem ok_mono {k k' : Nat} {n : N} (h : Ok k n) (hk : k ≤ k') : Ok k' n :=
 ⟨h.id, h.size, h.to, h.term, h.role, h.pos, ⟨h.el.1, by have := h.el.2; omega⟩, h.val, h.bt, h.ts, h.com, h.app, h.asc, by have := h.vsl; omega, h.led, h.nxl, h.nx, h.mt⟩
theorem mem_set {l : List Int} {i : Nat} {v w : Int} (h : w ∈ l.set i v) : w ∈ l ∨ w = v := List.mem_or_eq_of_mem_set h
theorem last_bd {l : L} (h : fine l) : 0 ≤ lastI l ∧ lastI l ≤ 1000000000000400 := by
 obtain ⟨f1, f2, f3, f4, f5, f6⟩ := h
 unfold lastI; omega
theorem ok_own {k : Nat} {n : N} (h : Ok k n) : Ok k (ownF n) := by
 have hl := last_bd h.fine
 refine ⟨h.id, h.size, h.to, h.term, h.role, h.pos, h.el, h.val, h.bt, h.ts, h.com, h.app, h.asc, h.vsl, fun hr => ?_, ?_, fun v hv => ?_, fun v hv => ?_⟩
 ·unfold ownF; simp only [List.length_set]; exact h.led hr
 ·unfold ownF; simp only [List.length_set]; exact h.nxl
 ·rcases mem_set hv with g | g
  ·exact h.nx v g
  ·omega
 ·rcases mem_set hv with g | g
  ·exact h.mt v g
  ·omega
theorem ok_add {k : Nat} {n : N} (h : Ok k n) (ht : 1 ≤ n.term) (hl : n.es.length < 400) (d : ByteArray) : Ok k (addF n d) := by
 have hi := lastI_add n.b n.bt n.es ⟨n.term, d⟩
 refine ⟨h.id, h.size, h.to, h.term, h.role, h.pos, h.el, valid_add h.val h.bt h.ts ⟨ht, h.term.2⟩ hl, h.bt, fun e he => ?_, ⟨h.com.1, ?_⟩, h.app, h.asc, h.vsl, h.led, h.nxl, h.nx, h.mt⟩
 ·rcases List.mem_append.1 he with g | g
  ·exact h.ts e g
  ·simp at g; subst g; exact Int.le_refl _
 ·have h1 : n.com ≤ lastI ⟨n.b, n.bt, n.es⟩ := h.com.2
  show n.com ≤ lastI ⟨n.b, n.bt, n.es ++ [⟨n.term, d⟩]⟩
  omega
theorem ok_lead0 {k : Nat} {n : N} (h : Ok k n) (ht : 1 ≤ n.term) : Ok k (lead0 n) := by
 have hl := last_bd h.fine
 have hid := h.id
 have hs := h.size
 refine ⟨h.id, h.size, h.to, h.term, .inr (.inr rfl), fun _ => ht, ⟨Int.le_refl _, by show (0 : Int) ≤ k; omega⟩, h.val, h.bt, h.ts, h.com, h.app, List.Pairwise.nil, by simp [lead0], fun _ => ?_, ?_, fun v hv => ?_, fun v hv => ?_⟩
 ·unfold lead0; simp only [List.length_replicate]; omega
 ·unfold lead0; simp only [List.length_replicate]; omega
 ·have := (List.mem_replicate.1 hv).2; omega
 ·have := (List.mem_replicate.1 hv).2; omega
theorem ok_lead1 {k : Nat} {n : N} (h : Ok k n) (ht : 1 ≤ n.term) : Ok k (lead1 n) := by
 unfold lead1
 split
 ·next c => exact ok_add (ok_lead0 h ht) ht c ⟨#[]⟩
 ·exact ok_lead0 h ht
theorem lead1_es (n : N) : ∃ ys, (lead1 n).es = n.es ++ ys := by
 unfold lead1
 split
 ·exact ⟨_, rfl⟩
 ·exact ⟨[], by simp [lead0]⟩
theorem lead1_rest (n : N) : (lead1 n).id = n.id ∧ (lead1 n).size = n.size ∧ (lead1 n).role = 2 ∧ (lead1 n).term = n.term ∧ (lead1 n).vote = n.vote ∧ (lead1 n).com = n.com ∧ (lead1 n).app = n.app ∧ (lead1 n).b = n.b ∧ (lead1 n).bt = n.bt ∧ (lead1 n).out = n.out := by
 unfold lead1
 split <;> exact ⟨rfl, rfl, rfl, rfl, rfl, rfl, rfl, rfl, rfl, rfl⟩
structure Led (n x : N) : Prop where
 id : x.id = n.id
 size : x.size = n.size
 role : x.role = 2
 term : x.term = n.term
 vote : x.vote = n.vote
 b : x.b = n.b
 es : ∃ ys, x.es = n.es ++ ys
 up : n.com ≤ x.com
 commits : n.com < x.com → termAt x.l x.com = some x.term ∧ x.size < 2 * (cnt x.mt x.com : Int)
 out : ∀ y ∈ x.out, y ∈ n.out ∨ y.kind ≠ 2
theorem led_of {k : Nat} {n m : N} (h : Ok k m) (h1 : m.id = n.id ∧ m.size = n.size ∧ m.role = 2 ∧ m.term = n.term ∧ m.vote = n.vote ∧ m.com = n.com ∧ m.b = n.b ∧ m.out = n.out) (h2 : ∃ ys, m.es = n.es ++ ys) : Ok k (sayAdv (ownF m)) ∧ Led n (sayAdv (ownF m)) := by
 have ho := ok_own h
 obtain ⟨c, o, e, g1, g2, g3, g4⟩ := sayAdv_shape (ownF m) ho.app ho.com.2
 obtain ⟨a1, a2, a3, a4, a5, a6, a7, a8⟩ := h1
 refine ⟨by rw [e]; exact ok_com ho c o g1 g2, ?_⟩
 rw [e]
 refine ⟨a1, a2, a3, a4, a5, a7, h2, ?_, fun hc => ?_, fun y hy => ?_⟩
 ·show n.com ≤ c
  rw [← a6]; exact g1
 ·exact g3 (by show m.com < c; rw [a6]; exact hc)
 ·rcases g4 y hy with g | g
  ·exact .inl (a8 ▸ g)
  ·exact .inr g
theorem ok_lead {k : Nat} {n : N} (h : Ok k n) (ht : 1 ≤ n.term) : Ok k (leadF n) ∧ Led n (leadF n) := by
 obtain ⟨b1, b2, b3, b4, b5, b6, b7, b8, b9, b10⟩ := lead1_rest n
 exact led_of (ok_lead1 h ht) ⟨b1, b2, b3, b4, b5, b6, b8, b10⟩ (lead1_es n)
end Go.CT.Memb
namespace Go.CT.Memb
open Go.Proofs
theorem step_still {n x : N} (h1 : x.id = n.id ∧ x.size = n.size ∧ x.b = n.b ∧ x.es = n.es ∧ x.com = n.com ∧ x.term = n.term) (hr : x.role = n.role ∨ x.role = 0) (hv : n.vote = -1 ∨ x.vote = n.vote) (hc : n.com ≤ lastI n.l)
  (hs : ∀ y ∈ x.out, y.kind = 2 → y.ok = true → y.term = x.term ∧ y.to = x.vote ∧ 0 ≤ y.to) : Step n x := by
 obtain ⟨a1, a2, a3, a4, a5, a6⟩ := h1
 have hk := keep_same a3 a4
 have hl : lastI x.l = lastI n.l := by unfold lastI N.l; simp only [a3, a4]
 exact ⟨a1, a2, hk.le hc, by omega, by omega, fun _ _ => ⟨a6, by omega, hk⟩, fun _ h => by omega, fun _ => hv, fun h => by omega, hs⟩
theorem said_of {n x : N} (h : ∀ y ∈ x.out, y ∈ n.out ∨ y.kind ≠ 2) (hn : n.out = []) : ∀ y ∈ x.out, y.kind = 2 → y.ok = true → y.term = x.term ∧ y.to = x.vote ∧ 0 ≤ y.to := fun y hy hk => by
 rcases h y hy with g | g
 ·rw [hn] at g; simp at g
 ·exact absurd hk g
theorem step_bare {n x : N} (h : Step (bare n) x) : Step n x := ⟨h.id, h.size, h.keep, h.up, h.term, h.leads, h.commits, h.dur, h.self, h.said⟩
theorem ok_el {k : Nat} {n : N} (h : Ok k n) : Ok (k + 1) {n with el := n.el + 1} :=
 ⟨h.id, h.size, h.to, h.term, h.role, h.pos, by have := h.el; show (0 : Int) ≤ n.el + 1 ∧ n.el + 1 ≤ ((k + 1 : Nat) : Int); omega, h.val, h.bt, h.ts, h.com, h.app, h.asc, by have := h.vsl; show n.vs.length ≤ k + 1 + 1; omega, h.led, h.nxl, h.nx, h.mt⟩
theorem ok_elect0 {k : Nat} {n : N} (h : Ok k n) (ht : n.term < 1000000000000000) : Ok k (elect0 n) := by
 have h0 := h.term
 refine ⟨h.id, h.size, h.to, ⟨by show 0 ≤ n.term + 1; omega, by show n.term + 1 ≤ _; omega⟩, .inr (.inl rfl), fun _ => by show 1 ≤ n.term + 1; omega, ⟨Int.le_refl _, by show (0 : Int) ≤ k; omega⟩, h.val, by have := h.bt; show n.bt ≤ n.term + 1; omega, fun e he => by have := h.ts e he; show e.t ≤ n.term + 1; omega, h.com, h.app, List.pairwise_singleton _ _, by simp [elect0], fun hr => ?_, h.nxl, h.nx, h.mt⟩
 have : (1 : Int) = 2 := hr
 omega
theorem step_tick {k : Nat} {n : N} (h : Ok k n) : Ok (k + 1) (tickF n) ∧ Step n (tickF n) := by
 have hb := ok_bare h
 unfold tickF
 split
 ·next c =>
  refine ⟨ok_mono (ok_out hb _) (by omega), step_still ⟨rfl, rfl, rfl, rfl, rfl, rfl⟩ (.inl rfl) (.inr rfl) h.com.2 (said_of (n := bare n) (fun y hy => ?_) rfl)⟩
  rcases List.mem_append.1 hy with g | g
  ·exact .inl g
  ·exact .inr (kind_msgs _ _ _ y g)
 ·next c =>
  have h1 := ok_el hb
  split
  ·next c2 =>
   have h2 := ok_elect0 h1 c2.2
   have ht : 1 ≤ (elect0 {bare n with el := n.el + 1}).term := h2.pos (by show (1 : Int) ≠ 0; omega)
   have hself : ∀ x : N, x.id = n.id → x.vote = n.id → x.vote = x.id := fun x a b => by rw [a, b]
   unfold electF
   split
   ·obtain ⟨g1, g2⟩ := ok_lead h2 ht
    have hterm : (leadF (elect0 {bare n with el := n.el + 1})).term = n.term + 1 := g2.term
    refine ⟨g1, g2.id, g2.size, ?_, g2.up, by omega, fun hr => absurd hr c, fun _ => g2.commits, fun he => by omega, fun _ => hself _ g2.id g2.vote, said_of (n := elect0 {bare n with el := n.el + 1}) g2.out rfl⟩
    obtain ⟨ys, hes⟩ := g2.es
    exact (keep_app (n := n) g2.b hes).le h.com.2
   ·refine ⟨ok_out h2 _, rfl, rfl, (keep_same (n := n) rfl rfl).le h.com.2, Int.le_refl _, by show n.term ≤ n.term + 1; omega, fun hr => absurd hr c, fun hr => ?_, fun he => ?_, fun _ => rfl, said_of (n := elect0 {bare n with el := n.el + 1}) (fun y hy => ?_) rfl⟩
    ·have : (1 : Int) = 2 := hr
     omega
    ·have : n.term + 1 = n.term := he
     omega
    ·rcases List.mem_append.1 hy with g | g
     ·exact .inl g
     ·exact .inr (kind_asks _ _ _ _ _ y g)
  ·exact ⟨h1, step_still ⟨rfl, rfl, rfl, rfl, rfl, rfl⟩ (.inl rfl) (.inr rfl) h.com.2 (said_of (n := bare n) (fun y hy => .inl hy) rfl)⟩
theorem out_send (n : N) (j : Int) (x : G) (h : n.out = []) : (sendF n j x).out = [⟨x.kind, n.id, j, n.term, x.ix, x.lt, x.com, x.ok, x.es, x.sn⟩] := by unfold sendF; simp [h]
theorem said_send {n : N} {j : Int} {x : G} (h : n.out = []) (hk : x.kind = 2 → x.ok = true → j = n.vote ∧ 0 ≤ j) : ∀ y ∈ (sendF n j x).out, y.kind = 2 → y.ok = true → y.term = (sendF n j x).term ∧ y.to = (sendF n j x).vote ∧ 0 ≤ y.to := fun y hy h1 h2 => by
 rw [out_send n j x h] at hy
 simp only [List.mem_singleton] at hy
 subst hy
 obtain ⟨a, b⟩ := hk h1 h2
 exact ⟨rfl, a, b⟩
def Kind (k : Nat) (n x : N) : Prop := Ok (k + 1) x ∧ Step n x ∧ (n.role = 0 → x.role = 0)
theorem kind_vote {k : Nat} {n : N} {x : G} (h : Ok k n) (ho : n.out = []) (hf : 0 ≤ x.fr) : Kind k n (voteF n x) := by
 unfold voteF
 cases hv : votes n x with
 | false =>
  refine ⟨ok_mono (ok_out h _) (by omega), step_still ⟨rfl, rfl, rfl, rfl, rfl, rfl⟩ (.inl rfl) (.inr rfl) h.com.2 (said_send ho (fun _ h2 => by cases h2)), id⟩
 | true =>
  have hvote : n.vote = -1 ∨ n.vote = x.fr := by
   unfold votes at hv
   simp only [Bool.and_eq_true, Bool.or_eq_true, decide_eq_true_eq] at hv
   exact hv.1
  have h1 : Ok k {n with vote := x.fr, el := 0} := ⟨h.id, h.size, h.to, h.term, h.role, h.pos, ⟨Int.le_refl _, by show (0 : Int) ≤ k; omega⟩, h.val, h.bt, h.ts, h.com, h.app, h.asc, h.vsl, h.led, h.nxl, h.nx, h.mt⟩
  refine ⟨ok_mono (ok_out h1 _) (by omega), step_still ⟨rfl, rfl, rfl, rfl, rfl, rfl⟩ (.inl rfl) ?_ h.com.2 (said_send (n := {n with vote := x.fr, el := 0}) ho (fun _ _ => ⟨rfl, hf⟩)), id⟩
  rcases hvote with g | g
  ·exact .inl g
  ·exact .inr g.symm
theorem kind_same {k : Nat} {n : N} (h : Ok k n) (ho : n.out = []) : Kind k n n :=
 ⟨ok_mono h (by omega), step_still ⟨rfl, rfl, rfl, rfl, rfl, rfl⟩ (.inl rfl) (.inr rfl) h.com.2 (fun y hy => by rw [ho] at hy; simp at hy), id⟩
theorem kind_voted {k : Nat} {n : N} {x : G} (h : Ok k n) (ho : n.out = []) : Kind k n (votedF n x) := by
 unfold votedF
 split
 ·exact kind_same h ho
 ·next c =>
  have hr : n.role = 1 := by rcases Decidable.em (n.role = 1) with g | g; exact g; exact absurd (.inl g) c
  have h1 : Ok (k + 1) {n with vs := putF n.vs x.fr} := ⟨h.id, h.size, h.to, h.term, h.role, h.pos, by have := h.el; show (0 : Int) ≤ n.el ∧ n.el ≤ ((k + 1 : Nat) : Int); omega, h.val, h.bt, h.ts, h.com, h.app, putF_asc _ _ h.asc, by have := putF_len n.vs x.fr; have := h.vsl; show (putF n.vs x.fr).length ≤ k + 1 + 1; omega, h.led, h.nxl, h.nx, h.mt⟩
  split
  ·obtain ⟨g1, g2⟩ := ok_lead h1 (h.pos (by omega))
   have hterm : (leadF {n with vs := putF n.vs x.fr}).term = n.term := g2.term
   have hrole := g2.role
   refine ⟨g1, ⟨g2.id, g2.size, ?_, g2.up, by omega, fun hr2 => by omega, fun _ => g2.commits, fun _ => .inr g2.vote, fun hh => by omega, said_of (n := {n with vs := putF n.vs x.fr}) g2.out ho⟩, fun hr0 => by omega⟩
   obtain ⟨ys, hes⟩ := g2.es
   exact (keep_app (n := n) g2.b hes).le h.com.2
  ·exact ⟨h1, step_still ⟨rfl, rfl, rfl, rfl, rfl, rfl⟩ (.inl rfl) (.inr rfl) h.com.2 (fun y hy => by rw [show ({n with vs := putF n.vs x.fr} : N).out = n.out from rfl, ho] at hy; simp at hy), id⟩
theorem ok_follow {k : Nat} {n : N} (h : Ok k n) (j : Int) : Ok k (followF n j) :=
 ⟨h.id, h.size, h.to, h.term, .inl rfl, fun hr => absurd rfl hr, ⟨Int.le_refl _, by show (0 : Int) ≤ k; omega⟩, h.val, h.bt, h.ts, h.com, h.app, List.Pairwise.nil, by simp [followF], fun hr => by have : (0 : Int) = 2 := hr; omega, h.nxl, h.nx, h.mt⟩
theorem ok_log {k : Nat} {n : N} (h : Ok k n) (l : L) (c : Int) (hv : valid l = true) (hb : l.bt ≤ n.term) (ht : ∀ e ∈ l.es, e.t ≤ n.term) (hc : l.b ≤ c ∧ c ≤ lastI l) (s : ByteArray) : Ok k {logF n l with com := c, app := c, sn := s} :=
 ⟨h.id, h.size, h.to, h.term, h.role, h.pos, h.el, hv, hb, ht, hc, rfl, h.asc, h.vsl, h.led, h.nxl, h.nx, h.mt⟩
theorem commit_shape (n : N) (i : Int) (ha : n.app = n.com) : commitF n i = {n with com := maxI n.com i, app := maxI n.com i} := by
 unfold commitF maxI
 split
 ·rfl
 ·conv => lhs; rw [← N.eta n, ha]
theorem take_get? {xs ys : List E} {c j : Nat} (h : xs.take c = ys.take c) (hj : j < c) : xs[j]? = ys[j]? := by
 have := congrArg (fun l => l[j]?) h
 simpa [List.getElem?_take, hj] using this
theorem kind_entries {k : Nat} {n : N} {x : G} (h : Ok k n) (ho : n.out = []) (ht : ∀ e ∈ x.es, e.t ≤ n.term) : Kind k n (entriesF n x) := by
 unfold entriesF
 split
 ·exact kind_same h ho
 ·next c =>
  have hr : n.role ≠ 2 := fun g => c (.inl g)
  have hcon : contra n (x.ix + 1) x.es = false := by cases hx : contra n (x.ix + 1) x.es; rfl; exact absurd (.inr hx) c
  have hf := ok_follow h x.fr
  split
  ·next hok =>
   obtain ⟨f1, f2, f3, f4, f5, f6⟩ := append_facts n x.ix x.lt x.es h.val h.com hok hcon
   have hav := append_valid n.l x.ix x.lt x.es h.val
   generalize appendF n.l x.ix x.lt x.es = r at f1 f2 f3 f4 f5 f6 hav
   have hsh := commit_shape (logF (followF n x.fr) r.l) (minI x.com r.n) h.app
   rw [hsh]
   have hcm : (logF (followF n x.fr) r.l).com = n.com := rfl
   rw [hcm]
   have hmax : n.com ≤ maxI n.com (minI x.com r.n) ∧ maxI n.com (minI x.com r.n) ≤ lastI r.l := by
    unfold maxI minI
    constructor
    ·split <;> omega
    ·split
     ·split <;> omega
     ·omega
   generalize maxI n.com (minI x.com r.n) = c' at hmax
   have hk := ok_log hf r.l c' hav (by have := h.bt; rw [f2]; exact this) (fun e he => by
    rcases f6 e he with g | g
    ·exact h.ts e g
    ·exact ht e g) ⟨by have := h.com.1; omega, hmax.2⟩ n.sn
   refine ⟨ok_mono (ok_out hk _) (by omega), ⟨rfl, rfl, fun i i1 i2 i3 => ?_, hmax.1, Int.le_refl _, fun g => absurd g hr, fun g => ?_, fun _ => .inr rfl, fun g => ?_, said_send (n := {logF (followF n x.fr) r.l with com := c', app := c'}) ho (fun g => by simp at g)⟩, fun _ => rfl⟩
   ·have i2' : r.l.b < i := i2
    refine ⟨by show i ≤ lastI r.l; omega, ?_⟩
    show n.es[(i - n.b).toNat - 1]? = r.l.es[(i - r.l.b).toNat - 1]?
    rw [f1]
    exact (take_get? f4 (by omega)).symm
   ·have : (0 : Int) = 2 := g
    omega
   ·have g' : ((0 : Int) = 1 ∧ _) ∨ ((0 : Int) = 2 ∧ _) ∨ ((0 : Int) = 1 ∧ _) := g
    omega
  ·exact ⟨ok_mono (ok_out hf _) (by omega), step_still ⟨rfl, rfl, rfl, rfl, rfl, rfl⟩ (.inr rfl) (.inr rfl) h.com.2 (said_send (n := followF n x.fr) ho (fun g => by simp at g)), fun _ => rfl⟩
end Go.CT.Memb
namespace Go.CT.Memb
open Go.Proofs
theorem ok_sets {k : Nat} {n : N} (h : Ok k n) (j : Nat) (v w : Int) (hv : 0 ≤ v ∧ v ≤ 1000000000000401) (hw : 1 ≤ w ∧ w ≤ 1000000000000401) : Ok k {n with mt := n.mt.set j v, nx := n.nx.set j w} := by
 refine ⟨h.id, h.size, h.to, h.term, h.role, h.pos, h.el, h.val, h.bt, h.ts, h.com, h.app, h.asc, h.vsl, fun hr => ?_, ?_, fun u hu => ?_, fun u hu => ?_⟩
 ·simp only [List.length_set]; exact h.led hr
 ·simp only [List.length_set]; exact h.nxl
 ·rcases mem_set hu with g | g
  ·exact h.nx u g
  ·omega
 ·rcases mem_set hu with g | g
  ·exact h.mt u g
  ·omega
theorem getD_nx {k : Nat} {n : N} (h : Ok k n) (j : Nat) : 0 ≤ n.nx.getD j 0 ∧ n.nx.getD j 0 ≤ 1000000000000401 := by
 rw [List.getD_eq_getElem?_getD]
 by_cases hj : j < n.nx.length
 ·rw [List.getElem?_eq_getElem hj]
  have := h.nx _ (List.getElem_mem hj)
  simp only [Option.getD_some]; omega
 ·rw [List.getElem?_eq_none (by omega)]; simp
theorem getD_mt {k : Nat} {n : N} (h : Ok k n) (j : Nat) : 0 ≤ n.mt.getD j 0 ∧ n.mt.getD j 0 ≤ 1000000000000401 := by
 rw [List.getD_eq_getElem?_getD]
 by_cases hj : j < n.mt.length
 ·rw [List.getElem?_eq_getElem hj]
  have := h.mt _ (List.getElem_mem hj)
  simp only [Option.getD_some]; omega
 ·rw [List.getElem?_eq_none (by omega)]; simp
theorem said_tell {n : N} {j i : Int} (h : n.out = []) : ∀ y ∈ (tellF n j i).out, y.kind = 2 → y.ok = true → y.term = (tellF n j i).term ∧ y.to = (tellF n j i).vote ∧ 0 ≤ y.to := fun y hy hk => by
 unfold tellF at hy
 simp only [h, List.nil_append, List.mem_singleton] at hy
 subst hy
 exact absurd hk (kind_appMsg _ _ _)
theorem kind_ack {k : Nat} {n : N} {x : G} (h : Ok k n) (ho : n.out = []) : Kind k n (ackF n x) := by
 unfold ackF
 split
 ·exact kind_same h ho
 ·next c =>
  have hr : n.role = 2 := Decidable.not_not.1 c
  have hno : ∀ y : N, y.role = n.role → n.role = 0 → y.role = 0 := fun y h1 h2 => by omega
  have g1 := getD_nx h x.fr.toNat
  have g2 := getD_mt h x.fr.toNat
  have hl := last_bd h.fine
  split
  ·split
   ·next c2 =>
    have hb : n.mt.getD x.fr.toNat 0 + 1 ≤ backI n x := by unfold backI maxI; split <;> omega
    have hk := ok_sets h x.fr.toNat (n.mt.getD x.fr.toNat 0) (backI n x) g2 (by omega)
    have h1 : Ok k {n with nx := n.nx.set x.fr.toNat (backI n x)} := ⟨h.id, h.size, h.to, h.term, h.role, h.pos, h.el, h.val, h.bt, h.ts, h.com, h.app, h.asc, h.vsl, fun hr => by simp only [List.length_set]; exact h.led hr, by simp only [List.length_set]; exact h.nxl, hk.nx, h.mt⟩
    exact ⟨ok_mono (ok_out h1 _) (by omega), step_still ⟨rfl, rfl, rfl, rfl, rfl, rfl⟩ (.inl rfl) (.inr rfl) h.com.2 (said_tell (n := {n with nx := n.nx.set x.fr.toNat (backI n x)}) ho), hno _ rfl⟩
   ·exact kind_same h ho
  ·split
   ·exact kind_same h ho
   ·next c2 =>
    have hm : minI x.ix (lastI n.l) ≤ lastI n.l := by unfold minI; split <;> omega
    generalize minI x.ix (lastI n.l) = i at c2 hm
    have hk := ok_sets h x.fr.toNat i (i + 1) (by omega) (by omega)
    obtain ⟨cm, e, e1, e2, e3⟩ := adv_shape {n with mt := n.mt.set x.fr.toNat i, nx := n.nx.set x.fr.toNat (i + 1)} hk.app hk.com.2
    simp only at e1 e2 e3
    have hkeep : Keep (lastI n.l) n n := keep_same rfl rfl
    have hself : ∀ y : N, y.role = 2 → ¬ ((y.role = 1 ∧ n.role ≠ 1) ∨ (y.role = 2 ∧ n.role = 0) ∨ (y.role = 1 ∧ n.term < y.term)) := fun y hy => by omega
    rw [e]
    have hmid : ∀ o : List G, (∀ y ∈ o, y.kind ≠ 2) → Kind k n {n with mt := n.mt.set x.fr.toNat i, nx := n.nx.set x.fr.toNat (i + 1), com := cm, app := cm, out := o} := fun o hout =>
     ⟨ok_mono (ok_com hk cm o e1 e2) (by omega), ⟨rfl, rfl, hkeep.le h.com.2, e1, Int.le_refl _, fun _ _ => ⟨rfl, Int.le_refl _, hkeep⟩, fun _ => e3, fun _ => .inr rfl, fun g => absurd g (hself _ hr), fun y hy h1 => absurd h1 (hout y hy)⟩, hno _ rfl⟩
    split
    ·refine hmid _ fun y hy => ?_
     rcases List.mem_append.1 hy with g | g
     ·have : y ∈ n.out := g
      rw [ho] at this; simp at this
     ·simp only [List.mem_singleton] at g
      rw [g]; exact kind_appMsg _ _ _
    ·refine hmid n.out fun y hy => ?_
     rw [ho] at hy; simp at hy
theorem kind_snap {k : Nat} {n : N} {x : G} (h : Ok k n) (ho : n.out = []) (hx : 1 ≤ x.ix ∧ x.ix ≤ 1000000000000000 ∧ 1 ≤ x.lt ∧ x.lt ≤ n.term) : Kind k n (snapF n x) := by
 unfold snapF
 split
 ·exact kind_same h ho
 ·next hr =>
  have hf := ok_follow h x.fr
  split
  ·exact ⟨ok_mono (ok_out hf _) (by omega), step_still ⟨rfl, rfl, rfl, rfl, rfl, rfl⟩ (.inr rfl) (.inr rfl) h.com.2 (said_send (n := followF n x.fr) ho (fun g => by simp at g)), fun _ => rfl⟩
  ·next c =>
   have hterm := h.term
   have hcb := h.com.1
   have hv : valid (snapL n x) = true ∧ (snapL n x).b = x.ix ∧ (snapL n x).bt = x.lt ∧ ∀ e ∈ (snapL n x).es, e.t ≤ n.term := by
    unfold snapL
    split
    ·next c1 =>
     have hle := termAt_le (b := n.b) (bt := n.bt) (es := n.es) c1
     exact ⟨valid_compact h.val ⟨hle.1, hle.2⟩ hx.2.1 c1, rfl, rfl, fun e he => h.ts e (List.mem_of_mem_drop he)⟩
    ·refine ⟨valid_of ⟨by show 0 ≤ x.ix; omega, hx.2.1, by show 0 ≤ x.lt; omega, by show x.lt ≤ _; omega, by show x.ix = 0 ↔ x.lt = 0; omega, by simp⟩ rfl, rfl, rfl, fun e he => by simp at he⟩
   obtain ⟨v1, v2, v3, v4⟩ := hv
   generalize snapL n x = r at v1 v2 v3 v4
   have hlr : x.ix ≤ lastI r := by unfold lastI; omega
   have hk := ok_log hf r x.ix v1 (by show r.bt ≤ n.term; omega) v4 ⟨by omega, hlr⟩ x.sn
   have hsh : commitF {logF (followF n x.fr) r with sn := x.sn} x.ix = {logF (followF n x.fr) r with com := x.ix, app := x.ix, sn := x.sn} := if_pos (by show n.com < x.ix; omega)
   rw [hsh]
   refine ⟨ok_mono (ok_out hk _) (by omega), ⟨rfl, rfl, fun i i1 i2 i3 => ?_, by show n.com ≤ x.ix; omega, Int.le_refl _, fun g => absurd g hr, fun g => ?_, fun _ => .inr rfl, fun g => ?_, said_send (n := {logF (followF n x.fr) r with com := x.ix, app := x.ix, sn := x.sn}) ho (fun g => by simp at g)⟩, fun _ => rfl⟩
   ·have i2' : r.b < i := i2
    omega
   ·have : (0 : Int) = 2 := g
    omega
   ·have g' : ((0 : Int) = 1 ∧ _) ∨ ((0 : Int) = 2 ∧ _) ∨ ((0 : Int) = 1 ∧ _) := g
    omega
theorem step_kind {k : Nat} {n : N} {x : G} (h : Ok k n) (ho : n.out = []) (hf : 0 ≤ x.fr) (h3 : x.kind = 3 → ∀ e ∈ x.es, e.t ≤ n.term) (h5 : x.kind = 5 → 1 ≤ x.ix ∧ x.ix ≤ 1000000000000000 ∧ 1 ≤ x.lt ∧ x.lt ≤ n.term) : Kind k n (kindF n x) := by
 unfold kindF
 split
 ·exact kind_vote h ho hf
 ·split
  ·exact kind_voted h ho
  ·split
   ·next c => exact kind_entries h ho (h3 c)
   ·split
    ·exact kind_ack h ho
    ·split
     ·next c => exact kind_snap h ho (h5 c)
     ·exact kind_same h ho
theorem step_handle {k : Nat} {n : N} {x : G} (h : Ok k n) : Ok (k + 1) (handleF n x) ∧ Step n (handleF n x) := by
 have hb := ok_bare h
 unfold handleF
 split
 ·exact ⟨ok_mono hb (by omega), step_still ⟨rfl, rfl, rfl, rfl, rfl, rfl⟩ (.inl rfl) (.inr rfl) h.com.2 (fun y hy => by simp [bare] at hy)⟩
 ·next c0 =>
  obtain ⟨i1, i2, i3, i4, i5, i6, i7, i8, i9, i10⟩ := ign_inv c0
  split
  ·unfold staleF
   have q : ∀ y : G, y.ok = false → Ok (k + 1) (sendF (bare n) x.fr y) ∧ Step n (sendF (bare n) x.fr y) := fun y hy =>
    ⟨ok_mono (ok_out hb _) (by omega), step_still ⟨rfl, rfl, rfl, rfl, rfl, rfl⟩ (.inl rfl) (.inr rfl) h.com.2 (said_send (n := bare n) rfl (fun _ g => by rw [hy] at g; cases g))⟩
   split
   ·exact q _ rfl
   ·split
    ·exact q _ rfl
    ·exact ⟨ok_mono hb (by omega), step_still ⟨rfl, rfl, rfl, rfl, rfl, rfl⟩ (.inl rfl) (.inr rfl) h.com.2 (fun y hy => by simp [bare] at hy)⟩
  ·next c1 =>
   have ht := ok_term (x := x) hb ⟨i5, i6⟩
   by_cases c2 : n.term < x.term
   ·have e2 : termF (bare n) x = {bare n with role := 0, term := x.term, vote := -1, lead := -1, vs := [], nx := [], mt := []} := if_pos c2
    rw [e2] at ht ⊢
    obtain ⟨g1, g2, g3⟩ := step_kind (x := x) ht rfl i3 i9 i10
    have hr := g3 rfl
    have htm := g2.term
    have htm' : x.term ≤ (kindF {bare n with role := 0, term := x.term, vote := -1, lead := -1, vs := [], nx := [], mt := []} x).term := htm
    exact ⟨g1, g2.id, g2.size, g2.keep, g2.up, by omega, fun _ hr2 => by omega, fun hr2 => by omega, fun he => by omega, fun hh => by omega, g2.said⟩
   ·have e2 : termF (bare n) x = bare n := if_neg c2
    rw [e2] at ht ⊢
    obtain ⟨g1, g2, g3⟩ := step_kind (x := x) hb rfl i3 (fun hk e he => by have := i9 hk e he; show e.t ≤ n.term; omega) (fun hk => by have := i10 hk; show 1 ≤ x.ix ∧ x.ix ≤ _ ∧ 1 ≤ x.lt ∧ x.lt ≤ n.term; omega)
    exact ⟨g1, step_bare g2⟩
theorem step_prop {k : Nat} {n : N} {d : ByteArray} (h : Ok k n) : Ok (k + 1) (propF n d) ∧ Step n (propF n d) := by
 have hb := ok_bare h
 unfold propF
 split
 ·exact ⟨ok_mono hb (by omega), step_still ⟨rfl, rfl, rfl, rfl, rfl, rfl⟩ (.inl rfl) (.inr rfl) h.com.2 (fun y hy => by simp [bare] at hy)⟩
 ·next c =>
  have hr : n.role = 2 := by rcases Decidable.em (n.role = 2) with g | g; exact g; exact absurd (.inl g) c
  have h1 := ok_add hb (h.pos (by omega)) (by show n.es.length < 400; omega) d
  obtain ⟨g1, g2⟩ := led_of (n := bare n) h1 ⟨rfl, rfl, hr, rfl, rfl, rfl, rfl, rfl⟩ ⟨_, rfl⟩
  have hterm : (sayAdv (ownF (addF (bare n) d))).term = n.term := g2.term
  have hrole := g2.role
  obtain ⟨ys, hes⟩ := g2.es
  have hk := keep_app (n := n) g2.b hes
  refine ⟨ok_mono g1 (by omega), g2.id, g2.size, hk.le h.com.2, g2.up, by omega, fun _ _ => ⟨hterm, ?_, hk⟩, fun _ => g2.commits, fun _ => .inr g2.vote, fun hh => by omega, said_of (n := bare n) g2.out rfl⟩
  have hb2 : (sayAdv (ownF (addF (bare n) d))).b = n.b := g2.b
  have hes2 : (sayAdv (ownF (addF (bare n) d))).es = n.es ++ ys := hes
  unfold lastI N.l
  simp only [hb2, hes2, List.length_append]
  omega
theorem ok_rest {k : Nat} {n : N} (h : Ok k n) : Ok (k + 1) (restF n) := by
 have hl : n.b ≤ lastI n.l := by have := h.com; omega
 exact ⟨h.id, h.size, h.to, h.term, .inl rfl, fun hr => absurd rfl hr, ⟨Int.le_refl _, by show (0 : Int) ≤ ((k + 1 : Nat) : Int); omega⟩, h.val, h.bt, h.ts, ⟨Int.le_refl _, hl⟩, rfl, List.Pairwise.nil, by simp [restF], fun hr => by have : (0 : Int) = 2 := hr; omega, by simp [restF], by simp [restF], by simp [restF]⟩
theorem ok_start {i s t : Int} (h : startOk i s t = true) : Ok 0 (start i s t) := by
 unfold startOk at h
 simp only [decide_eq_true_eq] at h
 refine ⟨⟨h.2.2.1, h.2.2.2.1⟩, h.2.1, h.2.2.2.2, by simp [start], .inl rfl, fun hr => absurd rfl hr, by simp [start], (by show valid ⟨0, 0, []⟩ = true; decide), by simp [start], by simp [start], by simp [start, lastI, N.l], rfl, List.Pairwise.nil, by simp [start], fun hr => by have : (0 : Int) = 2 := hr; omega, by simp [start], by simp [start], by simp [start]⟩
end Go.CT.Memb
namespace Go.CT.Memb
open Go.Proofs
structure Gr where
 ms : List N
 dn : List Bool
 wr : List G
def Gr.cells (g : Gr) : List IV := [.list (g.ms.map N.enc), .list (g.dn.map IV.bool), .list (g.wr.map G.enc)]
def Gr.enc (g : Gr) : IV := .agg g.cells
def gokB (x : G) : Bool := decide (-9223372036854775808 ≤ x.ix ∧ x.ix ≤ 9223372036854775807 ∧ x.es.length ≤ 1048576)
theorem gok_of {x : G} (h : gokB x = true) : GOk x := ⟨⟨(of_decide_eq_true h).1, (of_decide_eq_true h).2.1⟩, (of_decide_eq_true h).2.2⟩
structure GrOk (k : Nat) (g : Gr) : Prop where
 ms : ∀ m ∈ g.ms, Ok k m
 len : g.ms.length ≤ 7
 dn : g.dn.length = g.ms.length
 wr : g.wr.length ≤ 400
 msg : ∀ x ∈ g.wr, gokB x = true
def sendW : List G → List G → List G
 | wr, [] => wr
 | wr, x :: l => sendW (if wr.length < 400 then wr ++ [x] else wr) l
def sendC (wr l : List G) : Option (List G) := if l.length ≤ 4194304 ∧ l.all gokB = true then some (sendW wr l) else none
theorem calls_msg {β : Type} {a b c d e f g h i j : IV} {k : IV → IV → IV → IV → IV → IV → IV → IV → IV → IV → Option β} : calls (some [a, b, c, d, e, f, g, h, i, j]) 10 k = k a b c d e f g h i j := rfl
theorem p_message (x : G) (h : x.es.length ≤ 1048576) : W f_group_message 0 [x.enc] = some [.int x.kind, .int x.fr, .int x.to, .int x.term, .int x.ix, .int x.lt, .int x.com, .bool x.ok, .list (x.es.map E.enc), .str x.sn] := by
 have hc := clone_es x.es (by omega)
 rw [e_f_group_message_0]
 simp only [G.p0, G.p1, G.p2, G.p3, G.p4, G.p5, G.p6, G.p7, G.p8, G.p9, Option.bind_some, hc, O.calls_1]
theorem sendW_spec : ∀ (l wr : List G), wr.length ≤ 400 → (∀ x ∈ wr, gokB x = true) → (∀ x ∈ l, gokB x = true) → (sendW wr l).length ≤ 400 ∧ ∀ x ∈ sendW wr l, gokB x = true
 | [], wr, h1, h2, _ => ⟨h1, h2⟩
 | x :: l, wr, h1, h2, h3 => by
  unfold sendW
  refine sendW_spec l _ ?_ ?_ fun y hy => h3 y (List.mem_cons_of_mem _ hy)
  ·split
   ·simp; omega
   ·exact h1
  ·intro y hy
   split at hy
   ·rcases List.mem_append.1 hy with h | h
    ·exact h2 y h
    ·rw [List.mem_singleton.1 h]; exact h3 x List.mem_cons_self
   ·exact h2 y hy
theorem nxt {n k m : Nat} (h : n + 1 + k = m) (hm : m ≤ 4194304) : O.add .i64 (.int k) (.int 1) = some (.int ((k + 1 : Nat) : Int)) := by
 rw [O.add_int, wrap64 (by omega) (by omega)]; rfl
theorem p_send_1 (l : List G) (hl : l.length ≤ 4194304) (hg : ∀ x ∈ l, gokB x = true) (ms dn : IV) : ∀ (n k : Nat) (wr : List G), n + k = l.length → wr.length ≤ 400 →
  W f_group_net_send 1 [.list (l.map G.enc), .int l.length, .int k, ms, dn, .list (wr.map G.enc)] = some [ms, dn, .list ((sendW wr (l.drop k)).map G.enc)]
 | 0, k, wr, h, hw => by
  rw [e_f_group_net_send_1]
  have : ¬ k < l.length := by omega
  simp [this, List.drop_of_length_le (Nat.le_of_not_lt this), sendW]
 | n + 1, k, wr, h, hw => by
  have hk : k < l.length := by omega
  have e1 : O.lt (.int k) (.int l.length) = some (.bool true) := by simp [hk]
  have e2 : O.index (.list (l.map G.enc)) (.int k) = some l[k].enc := by simp [hk]
  have e3 := p_message l[k] (gok_of (hg _ (List.getElem_mem hk))).es
  have e4 := nxt (k := k) h hl
  rw [e_f_group_net_send_1]
  rw [List.drop_eq_getElem_cons hk, sendW]
  simp only [e1, Option.bind_some, O.cnd_bool, if_true, e2, O.len_list, List.length_map]
  by_cases c : wr.length < 400
  ·have ih := p_send_1 l hl hg ms dn n (k + 1) (wr ++ [l[k]]) (by omega) (by simp; omega)
   have e5 : O.lt (.int wr.length) (.int 400) = some (.bool true) := by simp; omega
   have e6 : O.append 104 (.list (wr.map G.enc)) (.list [l[k].enc]) = some (.list ((wr ++ [l[k]]).map G.enc)) := by
    have : (wr.length + 1) * 104 ≤ maxBytes := by unfold maxBytes; omega
    simp [this]
   have e7 : O.mkagg [.int l[k].kind, .int l[k].fr, .int l[k].to, .int l[k].term, .int l[k].ix, .int l[k].lt, .int l[k].com, .bool l[k].ok, .list (l[k].es.map E.enc), .str l[k].sn] = some l[k].enc := rfl
   have e8 : O.mklist [l[k].enc] = some (.list [l[k].enc]) := rfl
   simp only [e5, Option.bind_some, O.cnd_bool, if_true, e3, calls_msg, e7, e8, e6, e_f_group_net_send_2, e4, ih, if_pos c]
  ·have ih := p_send_1 l hl hg ms dn n (k + 1) wr (by omega) hw
   have e5 : O.lt (.int wr.length) (.int 400) = some (.bool false) := by simp; omega
   simp only [e5, Option.bind_some, O.cnd_bool, Bool.false_eq_true, if_false, e_f_group_net_send_2, e4, ih, if_neg c]
theorem p_sendG {wr l wr' : List G} (ms dn : IV) (h : sendC wr l = some wr') (hw : wr.length ≤ 400) : W f_group_net_send 0 [ms, dn, .list (wr.map G.enc), .list (l.map G.enc)] = some [ms, dn, .list (wr'.map G.enc)] := by
 unfold sendC at h
 rw [Option.ite_none_right_eq_some] at h
 obtain ⟨⟨hl, h1⟩, h2⟩ := h
 injection h2 with h2
 subst h2
 have := p_send_1 l hl (fun x hx => List.all_eq_true.1 h1 x hx) ms dn l.length 0 wr (Nat.add_zero _) hw
 rw [e_f_group_net_send_0]
 simp only [O.len_list, List.length_map, Option.bind_some]
 simpa using this
end Go.CT.Memb
namespace Go.CT.Memb
open Go.Proofs
theorem idx {α : Type} (f : α → IV) (l : List α) (i : Nat) (a : α) (h : l[i]? = some a) : O.index (.list (l.map f)) (.int i) = some (f a) := by simp [h]
theorem setAll {α : Type} (f : α → IV) (l : List α) (i : Nat) (a b : α) (h : l[i]? = some a) (o n : Nat) (p : Bool) : O.setAt o n p true (.list (l.map f)) (.int i) (f b) = some (.list ((l.set i b).map f)) := by
 simp [h, List.map_set]
theorem enc_bare (n : N) : (bare n).enc = n.enc := rfl
theorem agg_enc (n : N) : O.mkagg [.int n.id, .int n.size, .int n.role, .int n.term, .int n.vote, .int n.lead, .int n.el, .int n.to, .list (n.vs.map IV.int), .list (n.nx.map IV.int), .list (n.mt.map IV.int), .int n.com, .int n.app, .int n.b, .int n.bt, .list (n.es.map E.enc), .str n.sn] = some n.enc := rfl
def getB (l : List Bool) (i : Nat) : Bool := l.getD i true
def tickC (g : Gr) (i : Nat) : Option Gr :=
 match g.ms[i]?, g.dn[i]? with
 | some m, some false => (sendC g.wr (tickF m).out).map fun wr => ⟨g.ms.set i (bare (tickF m)), g.dn, wr⟩
 | some _, some true => some g
 | _, _ => none
theorem set_ok {k : Nat} {ms : List N} {i : Nat} {m : N} (h : ∀ x ∈ ms, Ok k x) (hm : Ok (k + 1) m) : ∀ x ∈ ms.set i m, Ok (k + 1) x := fun x hx => by
 rcases List.mem_or_eq_of_mem_set hx with h1 | h1
 ·exact ok_mono (h x h1) (by omega)
 ·rw [h1]; exact hm
theorem send_ok {wr l wr' : List G} (h : sendC wr l = some wr') (hw : wr.length ≤ 400) (hg : ∀ x ∈ wr, gokB x = true) : wr'.length ≤ 400 ∧ ∀ x ∈ wr', gokB x = true := by
 unfold sendC at h
 rw [Option.ite_none_right_eq_some] at h
 obtain ⟨⟨_, h1⟩, h2⟩ := h
 injection h2 with h2
 subst h2
 exact sendW_spec l wr hw hg fun x hx => List.all_eq_true.1 h1 x hx
theorem gr_mono {k k' : Nat} {g : Gr} (h : GrOk k g) (hk : k ≤ k') : GrOk k' g := ⟨fun m hm => ok_mono (h.ms m hm) hk, h.len, h.dn, h.wr, h.msg⟩
theorem p_tickG {k : Nat} {g g' : Gr} {i : Nat} (h : GrOk k g) (hk : k ≤ 900000) (hc : tickC g i = some g') :
  W f_group_net_tick 0 [.list (g.ms.map N.enc), .list (g.dn.map IV.bool), .list (g.wr.map G.enc), .int i] = some g'.cells ∧ GrOk (k + 1) g' := by
 unfold tickC at hc
 rw [e_f_group_net_tick_0]
 split at hc
 ·rename_i m hm hd
  cases hs : sendC g.wr (tickF m).out with
  | none => simp [hs] at hc
  | some wr =>
   simp only [hs, Option.map_some, Option.some.injEq] at hc
   subst hc
   have hO := h.ms m (List.mem_of_getElem? hm)
   have e1 := idx IV.bool _ _ _ hd
   have e2 := idx N.enc _ _ _ hm
   have e3 := p_tick m hO hk
   have e4 := setAll N.enc _ _ _ (bare (tickF m)) hm 0 17 true
   rw [enc_bare] at e4
   have e5 := p_sendG (.list ((g.ms.set i (bare (tickF m))).map N.enc)) (.list (g.dn.map IV.bool)) hs h.wr
   refine ⟨?_, set_ok h.ms (ok_bare (step_tick hO).1), by simpa using h.len, by simpa using h.dn, (send_ok hs h.wr h.msg).1, (send_ok hs h.wr h.msg).2⟩
   have e6 : O.not (.bool false) = some (.bool true) := rfl
   simp only [e1, Option.bind_some, e6, O.cnd_bool, if_true, e2, e3, calls_all, agg_enc, e4, e5, O.calls_3]
   rfl
 ·rename_i m hm hd
  injection hc with hc
  subst hc
  have e1 := idx IV.bool _ _ _ hd
  have e6 : O.not (.bool true) = some (.bool false) := rfl
  refine ⟨?_, gr_mono h (by omega)⟩
  simp only [e1, Option.bind_some, e6, O.cnd_bool, Bool.false_eq_true, if_false]
  rfl
 ·cases hc
def restC (g : Gr) (i : Nat) : Option Gr :=
 match g.ms[i]?, g.dn[i]? with
 | some m, some true => some ⟨g.ms.set i (bare (restF m)), g.dn.set i false, g.wr⟩
 | some _, some false => some g
 | _, _ => none
theorem p_restG {k : Nat} {g g' : Gr} {i : Nat} (h : GrOk k g) (hk : k ≤ 900000) (hc : restC g i = some g') :
  W f_group_net_restart 0 [.list (g.ms.map N.enc), .list (g.dn.map IV.bool), .list (g.wr.map G.enc), .int i] = some g'.cells ∧ GrOk (k + 1) g' := by
 unfold restC at hc
 rw [e_f_group_net_restart_0]
 split at hc
 ·rename_i m hm hd
  injection hc with hc
  subst hc
  have hO := h.ms m (List.mem_of_getElem? hm)
  have e1 := idx IV.bool _ _ _ hd
  have e2 := idx N.enc _ _ _ hm
  have e3 := p_restart m hO hk
  have e4 := setAll N.enc _ _ _ (bare (restF m)) hm 0 17 true
  rw [enc_bare] at e4
  have e5 := setAll IV.bool _ _ _ false hd 0 1 false
  refine ⟨?_, set_ok h.ms (ok_bare (ok_rest hO)), by simpa using h.len, by simpa using h.dn, h.wr, h.msg⟩
  simp only [e1, Option.bind_some, O.cnd_bool, if_true, e2, e3, calls_cells, agg_enc, e4, e5]
  rfl
 ·rename_i m hm hd
  injection hc with hc
  subst hc
  have e1 := idx IV.bool _ _ _ hd
  refine ⟨?_, gr_mono h (by omega)⟩
  simp only [e1, Option.bind_some, O.cnd_bool, Bool.false_eq_true, if_false]
  rfl
 ·cases hc
theorem p_del (l : List IV) (i : Nat) (h : i < l.length) : W f_slices_Delete_Message 0 [.list l, .int i, .int ((i + 1 : Nat) : Int)] = some [.list (l.eraseIdx i)] := by
 obtain ⟨n, hn⟩ : ∃ n, n = l.length - 1 := ⟨_, rfl⟩
 obtain ⟨A, hA⟩ : ∃ A, A = l.take i ++ l.drop (i + 1) := ⟨_, rfl⟩
 have hAl : A.length = n := by rw [hA]; simp; omega
 have hB : (l.drop n).length = 1 := by simp; omega
 have e0 : O.eq (.int (i : Int)) (.int ((i + 1 : Nat) : Int)) = some (.bool false) := by
  have : ¬ ((i : Int) = ((i + 1 : Nat) : Int)) := by omega
  rw [O.eq_int, decide_eq_false this]
 have s1 : O.slice (.list l) (.int i) (.int ((i + 1 : Nat) : Int)) = some (.list ((l.take (i + 1)).drop i)) := by rw [O.slice_list, if_pos (by omega)]; rfl
 have s2 : O.slice (.list l) (.int ((i + 1 : Nat) : Int)) (.int l.length) = some (.list (l.drop (i + 1))) := by rw [O.slice_list, if_pos (by omega)]; simp
 have s3 : O.slice (.list l) (.int 0) (.int i) = some (.list (l.take i)) := by rw [O.slice_list, if_pos (by omega)]; rfl
 have s4 : O.index (.list l) (.int 0) = some (l[0]'(by omega)) := by rw [O.index_list, if_pos (Int.le_refl _)]; simp
 have s5 : O.append 0 (.list (l.take i)) (.list (l.drop (i + 1))) = some (.list A) := by rw [O.append_list, if_pos (by simp), hA]
 have s6 : O.len (.list A) = some (.int n) := by rw [O.len_list, hAl]
 have s7 : O.sliceLo (.list l) (.int n) = some (.list (l.drop n)) := by rw [O.sliceLo_list, if_pos (by omega)]; rfl
 have s8 : O.append 0 (.list A) (.list (l.drop n)) = some (.list (A ++ l.drop n)) := by rw [O.append_list, if_pos (by simp)]
 have s9 : ∀ B : List IV, O.slice (.list (A ++ B)) (.int 0) (.int n) = some (.list A) := fun B => by
  rw [O.slice_list, if_pos (by simp; omega)]
  simp [← hAl]
 have s10 : O.slice (.list (A ++ l.drop n)) (.int n) (.int l.length) = some (.list (((A ++ l.drop n).take l.length).drop n)) := by rw [O.slice_list, if_pos (by simp; omega)]; rfl
 have s11 : ∀ z, ∃ B, O.clear z (.list (A ++ l.drop n)) (.int n) (.int l.length) = some (.list (A ++ B)) := fun z => by
  refine ⟨List.replicate (l.length - n) z ++ (A ++ l.drop n).drop l.length, ?_⟩
  show (if 0 < (A ++ l.drop n).length ∧ (0 : Int) ≤ n ∧ (n : Int) ≤ l.length ∧ (l.length : Int) ≤ (A ++ l.drop n).length then _ else none) = _
  rw [if_pos (by simp only [List.length_append, hAl, hB]; omega)]
  simp [← hAl]
 rw [e_f_slices_Delete_Message_0, List.eraseIdx_eq_take_drop_succ, ← hA]
 simp only [O.len_list, Option.bind_some, s1, s2, e0, O.cnd_bool, Bool.false_eq_true, if_false, s3, s4, s5]
 rw [hAl]
 simp only [s7, Option.bind_some, s8, s9, O.len_list]
 rw [hAl]
 simp only [s10, Option.bind_some]
 obtain ⟨B, hB⟩ := s11 (IV.agg [IV.int 0, IV.int 0, IV.int 0, IV.int 0, IV.int 0, IV.int 0, IV.int 0, IV.bool false, IV.list [], IV.str { data := #[] }])
 simp only [hB, Option.bind_some, s9]
def delC (g : Gr) (i : Nat) : Option Gr :=
 match g.wr[i]? with
 | none => none
 | some x =>
  if x.to < 0 ∨ (g.ms.length : Int) ≤ x.to ∨ getB g.dn x.to.toNat = true then some ⟨g.ms, g.dn, g.wr.eraseIdx i⟩
  else match g.ms[x.to.toNat]? with
   | some m => (sendC (g.wr.eraseIdx i) (handleF m x).out).map fun wr => ⟨g.ms.set x.to.toNat (bare (handleF m x)), g.dn, wr⟩
   | none => none
theorem p_delG {k : Nat} {g g' : Gr} {i : Nat} (h : GrOk k g) (hk : k ≤ 900000) (hc : delC g i = some g') :
  W f_group_net_deliver 0 [.list (g.ms.map N.enc), .list (g.dn.map IV.bool), .list (g.wr.map G.enc), .int i] = some g'.cells ∧ GrOk (k + 1) g' := by
 unfold delC at hc
 split at hc
 ·cases hc
 rename_i x hx
 have hi : i < g.wr.length := (List.getElem?_eq_some_iff.1 hx).1
 have hwl := h.wr
 have e1 := idx G.enc _ _ _ hx
 have e2 : O.add .i64 (.int (i : Int)) (.int 1) = some (.int ((i + 1 : Nat) : Int)) := by rw [O.add_int, wrap64 (by omega) (by omega)]; rfl
 have e3 := p_del (g.wr.map G.enc) i (by simpa using hi)
 have e4 : (g.wr.map G.enc).eraseIdx i = (g.wr.eraseIdx i).map G.enc := by simp [List.eraseIdx_eq_take_drop_succ]
 rw [e4] at e3
 have hml : ∀ y ∈ g.wr.eraseIdx i, gokB y = true := fun y hy => h.msg y (List.mem_of_mem_eraseIdx hy)
 have hel : (g.wr.eraseIdx i).length ≤ 400 := Nat.le_trans (List.length_eraseIdx_le _ _) hwl
 rw [e_f_group_net_deliver_0]
 simp only [e1, Option.bind_some, e2, e3, O.calls_1, G.p2, O.lt_int, O.len_list, List.length_map, O.ge_int, O.cnd_bool]
 split at hc
 ·rename_i hcond
  injection hc with hc
  subst hc
  refine ⟨?_, fun m hm => ok_mono (h.ms m hm) (by omega), h.len, h.dn, hel, hml⟩
  rcases hcond with c | c | c
  ·simp [c]; rfl
  ·by_cases c0 : x.to < 0
   ·simp [c0]; rfl
   ·simp [c0, c]; rfl
  ·by_cases c0 : x.to < 0
   ·simp [c0]; rfl
   ·by_cases c1 : (g.ms.length : Int) ≤ x.to
    ·simp [c0, c1]; rfl
    ·obtain ⟨j, hj⟩ : ∃ j : Nat, x.to = j := ⟨x.to.toNat, by omega⟩
     have hdl := h.dn
     have hj2 : j < g.dn.length := by omega
     rw [hj, Int.toNat_natCast, getB, List.getD_eq_getElem?_getD, List.getElem?_eq_getElem hj2] at c
     have c : g.dn[j] = true := c
     simp [hj, hj2, c, show ¬ (j : Int) < 0 by omega]
     rfl
 ·rename_i hcond
  split at hc
  ·rename_i m hm
   cases hs : sendC (g.wr.eraseIdx i) (handleF m x).out with
   | none => simp [hs] at hc
   | some wr =>
    simp only [hs, Option.map_some, Option.some.injEq] at hc
    subst hc
    have hO := h.ms m (List.mem_of_getElem? hm)
    obtain ⟨j, hj⟩ : ∃ j : Nat, x.to = j := ⟨x.to.toNat, by omega⟩
    have hdl := h.dn
    rw [hj, Int.toNat_natCast] at hm hcond ⊢
    have hj2 : j < g.dn.length := by omega
    have hd : g.dn[j]? = some false := by
     rw [List.getElem?_eq_getElem hj2]
     have c : ¬ (getB g.dn j = true) := fun c => hcond (.inr (.inr c))
     rw [getB, List.getD_eq_getElem?_getD, List.getElem?_eq_getElem hj2] at c
     simp at c
     rw [c]
    have f1 := idx IV.bool _ _ _ hd
    have f2 := idx N.enc _ _ _ hm
    have f3 := p_handle m x hO hk (gok_of (h.msg x (List.mem_of_getElem? hx)))
    have f4 := setAll N.enc _ _ _ (bare (handleF m x)) hm 0 17 true
    rw [enc_bare] at f4
    have f5 := p_sendG (.list ((g.ms.set j (bare (handleF m x))).map N.enc)) (.list (g.dn.map IV.bool)) hs hel
    have c1 : ¬ (j : Int) < 0 := by omega
    have c2 : ¬ (g.ms.length : Int) ≤ j := by omega
    refine ⟨?_, set_ok h.ms (ok_bare (step_handle hO).1), by simpa using h.len, by simpa using h.dn, (send_ok hs hel hml).1, (send_ok hs hel hml).2⟩
    simp only [c1, c2, decide_false, Bool.false_eq_true, if_false, Option.bind_some, f1, f2, f3, calls_all, agg_enc, f4, f5, O.calls_3]
    rfl
  ·cases hc
end Go.CT.Memb
namespace Go.CT.Memb
open Go.Proofs
theorem enc_projs (n : N) : O.proj 0 n.enc = some (.int n.id) ∧ O.proj 1 n.enc = some (.int n.size) ∧ O.proj 2 n.enc = some (.int n.role) ∧ O.proj 3 n.enc = some (.int n.term) ∧ O.proj 4 n.enc = some (.int n.vote) ∧ O.proj 5 n.enc = some (.int n.lead) ∧ O.proj 6 n.enc = some (.int n.el) ∧ O.proj 7 n.enc = some (.int n.to) ∧ O.proj 8 n.enc = some (.list (n.vs.map IV.int)) ∧ O.proj 9 n.enc = some (.list (n.nx.map IV.int)) ∧ O.proj 10 n.enc = some (.list (n.mt.map IV.int)) ∧ O.proj 11 n.enc = some (.int n.com) ∧ O.proj 12 n.enc = some (.int n.app) ∧ O.proj 13 n.enc = some (.int n.b) ∧ O.proj 14 n.enc = some (.int n.bt) ∧ O.proj 15 n.enc = some (.list (n.es.map E.enc)) ∧ O.proj 16 n.enc = some (.str n.sn) :=
 ⟨rfl, rfl, rfl, rfl, rfl, rfl, rfl, rfl, rfl, rfl, rfl, rfl, rfl, rfl, rfl, rfl, rfl⟩
theorem setSame {α : Type} (f : α → IV) (l : List α) (i : Nat) (a : α) (h : l[i]? = some a) (o n : Nat) (p : Bool) : O.setAt o n p true (.list (l.map f)) (.int i) (f a) = some (.list (l.map f)) := by
 rw [setAll f l i a a h]
 have hi := (List.getElem?_eq_some_iff.1 h)
 rw [← hi.2, List.set_getElem_self]
theorem open_2 (wr : List G) (hw : wr.length ≤ 400) (hg : ∀ x ∈ wr, gokB x = true) (ms dn : IV) : ∀ n k : Nat, n + k = wr.length → W f_group_open 2 [.int wr.length, .int k, .list (wr.map G.enc), ms, dn] = some [ms, dn, .list (wr.map G.enc)]
 | 0, k, h => by
  rw [e_f_group_open_2]
  have : ¬ k < wr.length := by omega
  simp [this]
 | n + 1, k, h => by
  have hk : k < wr.length := by omega
  have ih := open_2 wr hw hg ms dn n (k + 1) (by omega)
  have e1 : O.lt (.int k) (.int wr.length) = some (.bool true) := by simp [hk]
  have e2 := idx G.enc wr k _ (List.getElem?_eq_getElem hk)
  have e3 := p_message wr[k] (gok_of (hg _ (List.getElem_mem hk))).es
  have e4 := nxt (k := k) h (by omega)
  have e5 := setSame G.enc wr k _ (List.getElem?_eq_getElem hk) 0 10 true
  have e7 : O.mkagg [.int wr[k].kind, .int wr[k].fr, .int wr[k].to, .int wr[k].term, .int wr[k].ix, .int wr[k].lt, .int wr[k].com, .bool wr[k].ok, .list (wr[k].es.map E.enc), .str wr[k].sn] = some wr[k].enc := rfl
  rw [e_f_group_open_2]
  simp only [e1, Option.bind_some, O.cnd_bool, if_true, e2, e3, calls_msg, e7, e5, e4, ih]
theorem open_1 {j : Nat} (hj : j ≤ 900000) (ms : List N) (hm : ∀ m ∈ ms, Ok j m) (hl : ms.length ≤ 7) (wr : List G) (hw : wr.length ≤ 400) (hg : ∀ x ∈ wr, gokB x = true) (dn : IV) : ∀ n k : Nat, n + k = ms.length →
  W f_group_open 1 [.int ms.length, .int k, .list (ms.map N.enc), dn, .list (wr.map G.enc)] = some [.list (ms.map N.enc), dn, .list (wr.map G.enc)]
 | 0, k, h => by
  have := open_2 wr hw hg (.list (ms.map N.enc)) dn wr.length 0 (Nat.add_zero _)
  rw [e_f_group_open_1]
  have hk : ¬ k < ms.length := by omega
  simp only [O.lt_int, Option.bind_some, O.cnd_bool, O.len_list, List.length_map]
  simpa [hk] using this
 | n + 1, k, h => by
  have hk : k < ms.length := by omega
  have ih := open_1 hj ms hm hl wr hw hg dn n (k + 1) (by omega)
  have e1 : O.lt (.int k) (.int ms.length) = some (.bool true) := by simp [hk]
  have e2 := idx N.enc ms k _ (List.getElem?_eq_getElem hk)
  have e4 := nxt (k := k) h (by omega)
  have e5 := setSame N.enc ms k _ (List.getElem?_eq_getElem hk) 0 17 true
  obtain ⟨f1, f2, f3, f4⟩ := (hm _ (List.getElem_mem hk)).few hj
  have g1 := clone_ints ms[k].vs f1
  have g2 := clone_ints ms[k].nx f2
  have g3 := clone_ints ms[k].mt f3
  have g4 := clone_es ms[k].es f4
  obtain ⟨q0, q1, q2, q3, q4, q5, q6, q7, q8, q9, q10, q11, q12, q13, q14, q15, q16⟩ := enc_projs ms[k]
  rw [e_f_group_open_1]
  simp only [e1, Option.bind_some, O.cnd_bool, if_true, e2, q0, q1, q2, q3, q4, q5, q6, q7, q8, q9, q10, q11, q12, q13, q14, q15, q16, g1, g2, g3, g4, O.calls_1, agg_enc, e5, e4, ih]
theorem p_open {k : Nat} {g : Gr} (h : GrOk k g) (hk : k ≤ 900000) : W f_group_open 0 [g.enc] = some g.cells := by
 have c1 : W f_slices_Clone_Member 0 [.list (g.ms.map N.enc)] = some [.list (g.ms.map N.enc)] := by
  rw [show W f_slices_Clone_Member 0 [.list (g.ms.map N.enc)] = O.cloneF _ from e_f_slices_Clone_Member _]
  have := h.len
  simp [O.cloneF]; omega
 have c2 : W f_slices_Clone_bool 0 [.list (g.dn.map IV.bool)] = some [.list (g.dn.map IV.bool)] := by
  rw [show W f_slices_Clone_bool 0 [.list (g.dn.map IV.bool)] = O.cloneF _ from e_f_slices_Clone_bool _]
  have := h.len; have := h.dn
  simp [O.cloneF]; omega
 have c3 : W f_slices_Clone_Message 0 [.list (g.wr.map G.enc)] = some [.list (g.wr.map G.enc)] := by
  rw [show W f_slices_Clone_Message 0 [.list (g.wr.map G.enc)] = O.cloneF _ from e_f_slices_Clone_Message _]
  have := h.wr
  simp [O.cloneF]; omega
 have p0 : O.proj 0 g.enc = some (.list (g.ms.map N.enc)) := rfl
 have p1 : O.proj 1 g.enc = some (.list (g.dn.map IV.bool)) := rfl
 have p2 : O.proj 2 g.enc = some (.list (g.wr.map G.enc)) := rfl
 have e := open_1 hk g.ms h.ms h.len g.wr h.wr h.msg (.list (g.dn.map IV.bool)) g.ms.length 0 (Nat.add_zero _)
 rw [e_f_group_open_0]
 simp only [p0, p1, p2, Option.bind_some, c1, c2, c3, O.calls_1, O.len_list, List.length_map]
 exact e
def propC (g : Gr) (i : Nat) (d : ByteArray) : Option (Gr × Int) :=
 match g.ms[i]?, g.dn[i]? with
 | some _, some true => some (g, 18)
 | some m, some false =>
  if 0 ≤ Lib.indexByte d.data.toList 10 then some (g, 1)
  else if propE m d = 0 then (sendC g.wr (propF m d).out).map fun wr => (⟨g.ms.set i (bare (propF m d)), g.dn, wr⟩, 0)
  else some (g, propE m d)
 | _, _ => none
theorem p_contains_nl (d : ByteArray) : W f_strings_Contains 0 [.str d, .str ⟨#[10]⟩] = some [.bool (decide (0 ≤ Lib.indexByte d.data.toList 10))] := by
 rw [show W f_strings_Contains 0 [.str d, .str ⟨#[10]⟩] = O.containsF _ from e_f_strings_Contains _]
 rfl
theorem p_propG {k : Nat} {g g' : Gr} {i : Nat} {d : ByteArray} {e : Int} (h : GrOk k g) (hk : k ≤ 900000) (hc : propC g i d = some (g', e)) :
  W f_group_net_propose 0 [.list (g.ms.map N.enc), .list (g.dn.map IV.bool), .list (g.wr.map G.enc), .int i, .str d] = some (.int e :: g'.cells) ∧ GrOk (k + 1) g' := by
 unfold propC at hc
 rw [e_f_group_net_propose_0]
 split at hc
 ·rename_i m hm hd
  simp only [Option.some.injEq, Prod.mk.injEq] at hc
  obtain ⟨rfl, rfl⟩ := hc
  have e1 := idx IV.bool _ _ _ hd
  refine ⟨?_, gr_mono h (by omega)⟩
  simp only [e1, Option.bind_some, O.cnd_bool, if_true]
  rfl
 ·rename_i m hm hd
  have e1 := idx IV.bool _ _ _ hd
  have e2 := idx N.enc _ _ _ hm
  have e3 := p_contains_nl d
  have hO := h.ms m (List.mem_of_getElem? hm)
  have e4 := p_propose m d hO hk
  split at hc
  ·rename_i hn
   simp only [Option.some.injEq, Prod.mk.injEq] at hc
   obtain ⟨rfl, rfl⟩ := hc
   refine ⟨?_, gr_mono h (by omega)⟩
   simp only [e1, Option.bind_some, O.cnd_bool, Bool.false_eq_true, if_false, e3, hn, decide_true, O.calls_1, if_true]
   rfl
  ·rename_i hn
   split at hc
   ·rename_i hz
    cases hs : sendC g.wr (propF m d).out with
    | none => simp [hs] at hc
    | some wr =>
     simp only [hs, Option.map_some, Option.some.injEq, Prod.mk.injEq] at hc
     obtain ⟨rfl, rfl⟩ := hc
     have f4 := setAll N.enc _ _ _ (bare (propF m d)) hm 0 17 true
     rw [enc_bare] at f4
     have f5 := p_sendG (.list ((g.ms.set i (bare (propF m d))).map N.enc)) (.list (g.dn.map IV.bool)) hs h.wr
     refine ⟨?_, set_ok h.ms (ok_bare (step_prop hO).1), by simpa using h.len, by simpa using h.dn, (send_ok hs h.wr h.msg).1, (send_ok hs h.wr h.msg).2⟩
     simp only [e1, Option.bind_some, O.cnd_bool, Bool.false_eq_true, if_false, e3, hn, decide_false, O.calls_1, e2, e4, calls_allE, hz, O.eq_int, decide_true, if_true, agg_enc, f4, f5, O.calls_3]
     rfl
   ·rename_i hz
    simp only [Option.some.injEq, Prod.mk.injEq] at hc
    obtain ⟨rfl, rfl⟩ := hc
    refine ⟨?_, gr_mono h (by omega)⟩
    simp only [e1, Option.bind_some, O.cnd_bool, Bool.false_eq_true, if_false, e3, hn, decide_false, O.calls_1, e2, e4, calls_allE, hz, O.eq_int]
    rfl
 ·cases hc
end Go.CT.Memb
namespace Go.CT.Memb
open Go.Proofs
def delAll : Nat → Gr → Option Gr
 | 0, g => some g
 | n + 1, g => if g.wr.length = 0 then some g else (delC g 0).bind (delAll n)
def tickAll : Nat → Nat → Gr → Option Gr
 | 0, _, g => some g
 | n + 1, i, g => (tickC g i).bind (tickAll n (i + 1))
def restAll : Nat → Nat → Gr → Option Gr
 | 0, _, g => some g
 | n + 1, i, g => (restC g i).bind (restAll n (i + 1))
def roundC (g : Gr) : Option Gr := (tickAll g.ms.length 0 g).bind (delAll 1000)
def rounds : Nat → Gr → Option Gr
 | 0, g => some g
 | n + 1, g => (roundC g).bind (rounds n)
def settleC (g : Gr) (r : Nat) : Option Gr := (restAll g.ms.length 0 g).bind (rounds r)
theorem up {k : Nat} (h : k ≤ 4194304) : O.add .i64 (.int (k : Int)) (.int 1) = some (.int ((k + 1 : Nat) : Int)) := by rw [O.add_int, wrap64 (by omega) (by omega)]; rfl
theorem settle_4 (R r : Nat) (hr : r ≤ 1000) : ∀ (n k j : Nat) (g g' : Gr), k + n = 1000 → GrOk j g → j + n ≤ 900000 → delAll n g = some g' →
  W f_group_Settle 4 [.int k, .int R, .int r, .list (g.ms.map N.enc), .list (g.dn.map IV.bool), .list (g.wr.map G.enc)] = W f_group_Settle 2 [.int R, .int ((r + 1 : Nat) : Int), .list (g'.ms.map N.enc), .list (g'.dn.map IV.bool), .list (g'.wr.map G.enc)] ∧ GrOk (j + n) g'
 | 0, k, j, g, g', hk, hg, hj, h => by
  unfold delAll at h
  injection h with h
  subst h
  have e1 : O.lt (.int (k : Int)) (.int 1000) = some (.bool false) := by rw [O.lt_int, decide_eq_false (by omega)]
  have e2 := up (k := r) (by omega)
  refine ⟨?_, hg⟩
  rw [e_f_group_Settle_4]
  simp only [e1, Option.bind_some, O.cnd_bool, Bool.false_eq_true, if_false, e2]
 | n + 1, k, j, g, g', hk, hg, hj, h => by
  unfold delAll at h
  have e1 : O.lt (.int (k : Int)) (.int 1000) = some (.bool true) := by rw [O.lt_int, decide_eq_true (by omega)]
  have e2 := up (k := r) (by omega)
  rw [e_f_group_Settle_4]
  split at h
  ·rename_i hz
   injection h with h
   subst h
   refine ⟨?_, gr_mono hg (by omega)⟩
   have e3 : O.gt (.int (g.wr.length : Int)) (.int 0) = some (.bool false) := by rw [O.gt_int, decide_eq_false (by omega)]
   simp only [e1, Option.bind_some, O.cnd_bool, if_true, O.len_list, List.length_map, e3, Bool.false_eq_true, if_false, e2]
  ·rename_i hz
   cases hd : delC g 0 with
   | none => simp [hd] at h
   | some g1 =>
    rw [hd, Option.bind_some] at h
    obtain ⟨d1, d2⟩ := p_delG hg (by omega) hd
    have e3 : O.gt (.int (g.wr.length : Int)) (.int 0) = some (.bool true) := by rw [O.gt_int, decide_eq_true (by omega)]
    have e4 := up (k := k) (by omega)
    obtain ⟨i1, i2⟩ := settle_4 R r hr n (k + 1) (j + 1) g1 g' (by omega) d2 (by omega) h
    refine ⟨?_, gr_mono i2 (by omega)⟩
    simp only [Int.natCast_zero] at d1
    simp only [e1, Option.bind_some, O.cnd_bool, if_true, O.len_list, List.length_map, e3, d1, Gr.cells, O.calls_3, e4, i1]
theorem settle_3 (R r len : Nat) (hl : len ≤ 7) : ∀ (n i j : Nat) (g g' : Gr), i + n = len → GrOk j g → j + n ≤ 900000 → tickAll n i g = some g' →
  W f_group_Settle 3 [.int R, .int r, .int len, .int i, .list (g.ms.map N.enc), .list (g.dn.map IV.bool), .list (g.wr.map G.enc)] = W f_group_Settle 4 [.int 0, .int R, .int r, .list (g'.ms.map N.enc), .list (g'.dn.map IV.bool), .list (g'.wr.map G.enc)] ∧ GrOk (j + n) g'
 | 0, i, j, g, g', hk, hg, hj, h => by
  unfold tickAll at h
  injection h with h
  subst h
  have e1 : O.lt (.int (i : Int)) (.int len) = some (.bool false) := by rw [O.lt_int, decide_eq_false (by omega)]
  refine ⟨?_, hg⟩
  rw [e_f_group_Settle_3]
  simp only [e1, Option.bind_some, O.cnd_bool, Bool.false_eq_true, if_false]
 | n + 1, i, j, g, g', hk, hg, hj, h => by
  unfold tickAll at h
  have e1 : O.lt (.int (i : Int)) (.int len) = some (.bool true) := by rw [O.lt_int, decide_eq_true (by omega)]
  rw [e_f_group_Settle_3]
  cases hd : tickC g i with
  | none => simp [hd] at h
  | some g1 =>
   rw [hd, Option.bind_some] at h
   obtain ⟨d1, d2⟩ := p_tickG hg (by omega) hd
   have e4 := up (k := i) (by omega)
   obtain ⟨i1, i2⟩ := settle_3 R r len hl n (i + 1) (j + 1) g1 g' (by omega) d2 (by omega) h
   refine ⟨?_, gr_mono i2 (by omega)⟩
   simp only [e1, Option.bind_some, O.cnd_bool, if_true, d1, Gr.cells, O.calls_3, e4, i1]
theorem settle_2 (R : Nat) (hR : R ≤ 200) : ∀ (n r j : Nat) (g g' : Gr), r + n = R → GrOk j g → j + n * 1007 ≤ 900000 → rounds n g = some g' →
  W f_group_Settle 2 [.int R, .int r, .list (g.ms.map N.enc), .list (g.dn.map IV.bool), .list (g.wr.map G.enc)] = some g'.cells ∧ GrOk (j + n * 1007) g'
 | 0, r, j, g, g', hk, hg, hj, h => by
  unfold rounds at h
  injection h with h
  subst h
  have e1 : O.lt (.int (r : Int)) (.int R) = some (.bool false) := by rw [O.lt_int, decide_eq_false (by omega)]
  refine ⟨?_, gr_mono hg (by omega)⟩
  rw [e_f_group_Settle_2]
  simp only [e1, Option.bind_some, O.cnd_bool, Bool.false_eq_true, if_false]
  rfl
 | n + 1, r, j, g, g', hk, hg, hj, h => by
  unfold rounds roundC at h
  have e1 : O.lt (.int (r : Int)) (.int R) = some (.bool true) := by rw [O.lt_int, decide_eq_true (by omega)]
  rw [e_f_group_Settle_2]
  cases ht : tickAll g.ms.length 0 g with
  | none => simp [ht] at h
  | some g1 =>
   rw [ht, Option.bind_some] at h
   cases hd : delAll 1000 g1 with
   | none => simp [hd] at h
   | some g2 =>
    rw [hd, Option.bind_some] at h
    have hgl := hg.len
    obtain ⟨a1, a2⟩ := settle_3 R r g.ms.length hg.len g.ms.length 0 j g g1 (by omega) hg (by omega) ht
    obtain ⟨b1, b2⟩ := settle_4 R r (by omega) 1000 0 (j + g.ms.length) g1 g2 (by omega) a2 (by omega) hd
    obtain ⟨c1, c2⟩ := settle_2 R hR n (r + 1) (j + 1007) g2 g' (by omega) (gr_mono b2 (by omega)) (by omega) h
    refine ⟨?_, gr_mono c2 (by omega)⟩
    simp only [Int.natCast_zero] at a1 b1
    simp only [e1, Option.bind_some, O.cnd_bool, if_true, O.len_list, List.length_map, a1, b1, c1]
theorem settle_1 (R : IV) (len : Nat) (hl : len ≤ 7) : ∀ (n i j : Nat) (g g' : Gr), i + n = len → GrOk j g → j + n ≤ 900000 → restAll n i g = some g' →
  W f_group_Settle 1 [R, .int len, .int i, .list (g.ms.map N.enc), .list (g.dn.map IV.bool), .list (g.wr.map G.enc)] = ((O.max R (.int 0)).bind fun x => (O.min x (.int 200)).bind fun x => W f_group_Settle 2 [x, .int 0, .list (g'.ms.map N.enc), .list (g'.dn.map IV.bool), .list (g'.wr.map G.enc)]) ∧ GrOk (j + n) g'
 | 0, i, j, g, g', hk, hg, hj, h => by
  unfold restAll at h
  injection h with h
  subst h
  have e1 : O.lt (.int (i : Int)) (.int len) = some (.bool false) := by rw [O.lt_int, decide_eq_false (by omega)]
  refine ⟨?_, hg⟩
  rw [e_f_group_Settle_1]
  simp only [e1, Option.bind_some, O.cnd_bool, Bool.false_eq_true, if_false]
 | n + 1, i, j, g, g', hk, hg, hj, h => by
  unfold restAll at h
  have e1 : O.lt (.int (i : Int)) (.int len) = some (.bool true) := by rw [O.lt_int, decide_eq_true (by omega)]
  rw [e_f_group_Settle_1]
  cases hd : restC g i with
  | none => simp [hd] at h
  | some g1 =>
   rw [hd, Option.bind_some] at h
   obtain ⟨d1, d2⟩ := p_restG hg (by omega) hd
   have e4 := up (k := i) (by omega)
   obtain ⟨i1, i2⟩ := settle_1 R len hl n (i + 1) (j + 1) g1 g' (by omega) d2 (by omega) h
   refine ⟨?_, gr_mono i2 (by omega)⟩
   simp only [e1, Option.bind_some, O.cnd_bool, if_true, d1, Gr.cells, O.calls_3, e4, i1]
theorem p_settle {j R : Nat} {g g' : Gr} (hR : R ≤ 200) (hg : GrOk j g) (hj : j ≤ 400000) (h : settleC g R = some g') : W f_group_Settle 0 [g.enc, .int R] = some g'.cells ∧ GrOk (j + 300000) g' := by
 unfold settleC at h
 cases hr : restAll g.ms.length 0 g with
 | none => simp [hr] at h
 | some g1 =>
  rw [hr, Option.bind_some] at h
  have hgl := hg.len
  obtain ⟨a1, a2⟩ := settle_1 (.int R) g.ms.length hg.len g.ms.length 0 j g g1 (by omega) hg (by omega) hr
  obtain ⟨b1, b2⟩ := settle_2 R hR R 0 (j + g.ms.length) g1 g' (by omega) a2 (by omega) h
  have e0 := p_open hg (by omega)
  have e1 : O.max (.int R) (.int 0) = some (.int R) := by show some _ = _; congr 2
  have e2 : O.min (.int R) (.int 200) = some (.int R) := by show some _ = _; congr 2; omega
  refine ⟨?_, gr_mono b2 (by omega)⟩
  simp only [Int.natCast_zero] at a1 b1
  rw [e_f_group_Settle_0]
  simp only [e0, Gr.cells, O.calls_3, O.len_list, List.length_map, Option.bind_some, a1, e1, e2, b1]
theorem p_step_prop {k i : Nat} {g g' : Gr} {d : ByteArray} {e : Int} (h : GrOk k g) (hk : k ≤ 900000) (hi : i < g.ms.length) (hc : propC g i d = some (g', e)) :
  W f_group_Step 0 [g.enc, .agg [.int 7, .int i, .str d]] = some (g'.cells ++ [.int e]) ∧ GrOk (k + 1) g' := by
 have e0 := p_open h hk
 obtain ⟨e1, e2⟩ := p_propG h hk hc
 refine ⟨?_, e2⟩
 have q0 : O.proj 0 (.agg [.int 7, .int i, .str d]) = some (.int 7) := rfl
 have q1 : O.proj 1 (.agg [.int 7, .int (i : Int), .str d]) = some (.int i) := rfl
 have q2 : O.proj 2 (.agg [.int 7, .int (i : Int), .str d]) = some (.str d) := rfl
 have p0 : O.proj 0 g.enc = some (.list (g.ms.map N.enc)) := rfl
 have c1 : ¬ ((i : Int) < 0) := by omega
 have c2 : ¬ ((g.ms.length : Int) ≤ i) := by omega
 rw [e_f_group_Step_0]
 simp only [q0, Option.bind_some, O.lt_int, O.gt_int, O.cnd_bool, show decide ((7 : Int) < 1) = false from rfl, show decide ((8 : Int) < 7) = false from rfl, Bool.false_eq_true, if_false, p0, O.len_list, List.length_map, O.eq_int, show decide ((7 : Int) = 2) = false from rfl, show decide ((7 : Int) = 3) = false from rfl, show decide ((7 : Int) = 4) = false from rfl]
 rw [e_f_group_Step_1]
 simp only [e0, Gr.cells, O.calls_3, q1, Option.bind_some, O.lt_int, c1, decide_false, O.cnd_bool, Bool.false_eq_true, if_false, O.ge_int, c2]
 rw [e_f_group_net_step_0]
 simp only [q0, q1, q2, Option.bind_some, O.eq_int, O.cnd_bool, show decide ((7 : Int) = 1) = false from rfl, show decide ((7 : Int) = 2) = false from rfl, show decide ((7 : Int) = 3) = false from rfl, show decide ((7 : Int) = 4) = false from rfl, show decide ((7 : Int) = 5) = false from rfl, show decide ((7 : Int) = 6) = false from rfl, show decide ((7 : Int) = 7) = true from rfl, Bool.false_eq_true, if_false, if_true, e1, Gr.cells, O.calls_4]
 rfl
end Go.CT.Memb
namespace Go.CT.Memb
open Go.Proofs
def g3 : Gr := ⟨[start 0 3 5, start 1 3 8, start 2 3 11], [false, false, false], []⟩
def x0 : E := ⟨1, ⟨#[]⟩⟩
def x1 : E := ⟨1, ⟨#[120]⟩⟩
def foll (i t c : Int) (es : List E) : N := ⟨i, 3, 0, 1, 0, 0, 0, t, [], [], [], c, c, 0, 0, es, ⟨#[]⟩, []⟩
def chief (a b c : Int) (es : List E) : N := ⟨0, 3, 2, 1, 0, 0, 0, 5, [], [a + 1, b + 1, b + 1], [a, b, b], c, c, 0, 0, es, ⟨#[]⟩, []⟩
def wait (i t e : Int) : N := ⟨i, 3, 0, 0, -1, -1, e, t, [], [], [], 0, 0, 0, 0, [], ⟨#[]⟩, []⟩
def fff : List Bool := [false, false, false]
def gw (e : Int) : Gr := ⟨[wait 0 5 e, wait 1 8 e, wait 2 11 e], fff, []⟩
def g5 : Gr := ⟨[chief 1 1 1 [x0], foll 1 8 0 [x0], foll 2 11 0 [x0]], fff, []⟩
def gA : Gr := ⟨[chief 1 1 1 [x0], foll 1 8 1 [x0], foll 2 11 1 [x0]], fff, []⟩
theorem run1 : roundC (gw 0) = some (gw 1) := by kernel_rfl
theorem run2 : roundC (gw 1) = some (gw 2) := by kernel_rfl
theorem run3 : roundC (gw 2) = some (gw 3) := by kernel_rfl
theorem run4 : roundC (gw 3) = some (gw 4) := by kernel_rfl
def h0 : Gr := ⟨[⟨0, 3, 1, 1, 0, -1, 0, 5, [0], [], [], 0, 0, 0, 0, [], ⟨#[]⟩, []⟩, ⟨1, 3, 0, 0, -1, -1, 5, 8, [], [], [], 0, 0, 0, 0, [], ⟨#[]⟩, []⟩, ⟨2, 3, 0, 0, -1, -1, 5, 11, [], [], [], 0, 0, 0, 0, [], ⟨#[]⟩, []⟩], fff, [⟨1, 0, 1, 1, 0, 0, 0, false, [], ⟨#[]⟩⟩, ⟨1, 0, 2, 1, 0, 0, 0, false, [], ⟨#[]⟩⟩]⟩
def h1 : Gr := ⟨[⟨0, 3, 1, 1, 0, -1, 0, 5, [0], [], [], 0, 0, 0, 0, [], ⟨#[]⟩, []⟩, ⟨1, 3, 0, 1, 0, -1, 0, 8, [], [], [], 0, 0, 0, 0, [], ⟨#[]⟩, []⟩, ⟨2, 3, 0, 0, -1, -1, 5, 11, [], [], [], 0, 0, 0, 0, [], ⟨#[]⟩, []⟩], fff, [⟨1, 0, 2, 1, 0, 0, 0, false, [], ⟨#[]⟩⟩, ⟨2, 1, 0, 1, 0, 0, 0, true, [], ⟨#[]⟩⟩]⟩
def h2 : Gr := ⟨[⟨0, 3, 1, 1, 0, -1, 0, 5, [0], [], [], 0, 0, 0, 0, [], ⟨#[]⟩, []⟩, ⟨1, 3, 0, 1, 0, -1, 0, 8, [], [], [], 0, 0, 0, 0, [], ⟨#[]⟩, []⟩, ⟨2, 3, 0, 1, 0, -1, 0, 11, [], [], [], 0, 0, 0, 0, [], ⟨#[]⟩, []⟩], fff, [⟨2, 1, 0, 1, 0, 0, 0, true, [], ⟨#[]⟩⟩, ⟨2, 2, 0, 1, 0, 0, 0, true, [], ⟨#[]⟩⟩]⟩
def h3 : Gr := ⟨[⟨0, 3, 2, 1, 0, 0, 0, 5, [], [2, 1, 1], [1, 0, 0], 0, 0, 0, 0, [x0], ⟨#[]⟩, []⟩, ⟨1, 3, 0, 1, 0, -1, 0, 8, [], [], [], 0, 0, 0, 0, [], ⟨#[]⟩, []⟩, ⟨2, 3, 0, 1, 0, -1, 0, 11, [], [], [], 0, 0, 0, 0, [], ⟨#[]⟩, []⟩], fff, [⟨2, 2, 0, 1, 0, 0, 0, true, [], ⟨#[]⟩⟩, ⟨3, 0, 1, 1, 0, 0, 0, false, [x0], ⟨#[]⟩⟩, ⟨3, 0, 2, 1, 0, 0, 0, false, [x0], ⟨#[]⟩⟩]⟩
def h4 : Gr := ⟨[⟨0, 3, 2, 1, 0, 0, 0, 5, [], [2, 1, 1], [1, 0, 0], 0, 0, 0, 0, [x0], ⟨#[]⟩, []⟩, ⟨1, 3, 0, 1, 0, -1, 0, 8, [], [], [], 0, 0, 0, 0, [], ⟨#[]⟩, []⟩, ⟨2, 3, 0, 1, 0, -1, 0, 11, [], [], [], 0, 0, 0, 0, [], ⟨#[]⟩, []⟩], fff, [⟨3, 0, 1, 1, 0, 0, 0, false, [x0], ⟨#[]⟩⟩, ⟨3, 0, 2, 1, 0, 0, 0, false, [x0], ⟨#[]⟩⟩]⟩
def h5 : Gr := ⟨[⟨0, 3, 2, 1, 0, 0, 0, 5, [], [2, 1, 1], [1, 0, 0], 0, 0, 0, 0, [x0], ⟨#[]⟩, []⟩, ⟨1, 3, 0, 1, 0, 0, 0, 8, [], [], [], 0, 0, 0, 0, [x0], ⟨#[]⟩, []⟩, ⟨2, 3, 0, 1, 0, -1, 0, 11, [], [], [], 0, 0, 0, 0, [], ⟨#[]⟩, []⟩], fff, [⟨3, 0, 2, 1, 0, 0, 0, false, [x0], ⟨#[]⟩⟩, ⟨4, 1, 0, 1, 1, 0, 0, true, [], ⟨#[]⟩⟩]⟩
def h6 : Gr := ⟨[⟨0, 3, 2, 1, 0, 0, 0, 5, [], [2, 1, 1], [1, 0, 0], 0, 0, 0, 0, [x0], ⟨#[]⟩, []⟩, ⟨1, 3, 0, 1, 0, 0, 0, 8, [], [], [], 0, 0, 0, 0, [x0], ⟨#[]⟩, []⟩, ⟨2, 3, 0, 1, 0, 0, 0, 11, [], [], [], 0, 0, 0, 0, [x0], ⟨#[]⟩, []⟩], fff, [⟨4, 1, 0, 1, 1, 0, 0, true, [], ⟨#[]⟩⟩, ⟨4, 2, 0, 1, 1, 0, 0, true, [], ⟨#[]⟩⟩]⟩
def h7 : Gr := ⟨[⟨0, 3, 2, 1, 0, 0, 0, 5, [], [2, 2, 1], [1, 1, 0], 1, 1, 0, 0, [x0], ⟨#[]⟩, []⟩, ⟨1, 3, 0, 1, 0, 0, 0, 8, [], [], [], 0, 0, 0, 0, [x0], ⟨#[]⟩, []⟩, ⟨2, 3, 0, 1, 0, 0, 0, 11, [], [], [], 0, 0, 0, 0, [x0], ⟨#[]⟩, []⟩], fff, [⟨4, 2, 0, 1, 1, 0, 0, true, [], ⟨#[]⟩⟩]⟩
theorem tk5 : tickAll 3 0 (gw 4) = some h0 := by kernel_rfl
theorem dl0 : delC h0 0 = some h1 := by kernel_rfl
theorem dl1 : delC h1 0 = some h2 := by kernel_rfl
theorem dl2 : delC h2 0 = some h3 := by kernel_rfl
theorem dl3 : delC h3 0 = some h4 := by kernel_rfl
theorem dl4 : delC h4 0 = some h5 := by kernel_rfl
theorem dl5 : delC h5 0 = some h6 := by kernel_rfl
theorem dl6 : delC h6 0 = some h7 := by kernel_rfl
theorem dl7 : delC h7 0 = some g5 := by kernel_rfl
theorem del_go {g g' : Gr} (h : g.wr.length ≠ 0) (hd : delC g 0 = some g') (n : Nat) : delAll (n + 1) g = delAll n g' := by
 unfold delAll
 rw [if_neg h, hd, Option.bind_some]
 cases n <;> rfl
theorem del_end {g : Gr} (h : g.wr.length = 0) (n : Nat) : delAll (n + 1) g = some g := by
 unfold delAll
 rw [if_pos h]
theorem run5 : roundC (gw 4) = some g5 := by
 have h : (gw 4).ms.length = 3 := rfl
 unfold roundC
 rw [h, tk5, Option.bind_some, del_go (n := 999) (by decide) dl0, del_go (n := 998) (by decide) dl1, del_go (n := 997) (by decide) dl2, del_go (n := 996) (by decide) dl3, del_go (n := 995) (by decide) dl4, del_go (n := 994) (by decide) dl5, del_go (n := 993) (by decide) dl6, del_go (n := 992) (by decide) dl7, del_end (n := 991) rfl]
theorem run6 : roundC g5 = some gA := by kernel_rfl
theorem run7 : roundC gA = some gA := by kernel_rfl
theorem rounds_go {g g' : Gr} (h : roundC g = some g') (n : Nat) : rounds (n + 1) g = rounds n g' := by
 show (roundC g).bind (rounds n) = _
 rw [h, Option.bind_some]
theorem still {g : Gr} (h : roundC g = some g) : ∀ n, rounds n g = some g
 | 0 => rfl
 | n + 1 => (rounds_go h n).trans (still h n)
theorem rest20 : restAll 3 0 g3 = some (gw 0) := by kernel_rfl
theorem rounds20 : rounds 20 (gw 0) = some gA :=
 (rounds_go run1 19).trans ((rounds_go run2 18).trans ((rounds_go run3 17).trans ((rounds_go run4 16).trans ((rounds_go run5 15).trans ((rounds_go run6 14).trans (still run7 14))))))
theorem settle_of {g g1 g2 : Gr} {n r : Nat} (hn : g.ms.length = n) (h1 : restAll n 0 g = some g1) (h2 : rounds r g1 = some g2) : settleC g r = some g2 := by
 unfold settleC
 rw [hn, h1, Option.bind_some, h2]
theorem settle20 : settleC g3 20 = some gA := settle_of (n := 3) rfl rest20 rounds20
def m1 : G := ⟨3, 0, 1, 1, 1, 1, 1, false, [x1], ⟨#[]⟩⟩
def m2 : G := ⟨3, 0, 2, 1, 1, 1, 1, false, [x1], ⟨#[]⟩⟩
def gP : Gr := ⟨[⟨0, 3, 2, 1, 0, 0, 0, 5, [], [3, 2, 2], [2, 1, 1], 1, 1, 0, 0, [x0, x1], ⟨#[]⟩, []⟩, foll 1 8 1 [x0], foll 2 11 1 [x0]], fff, [m1, m2]⟩
def gB1 : Gr := ⟨[chief 2 2 2 [x0, x1], foll 1 8 1 [x0, x1], foll 2 11 1 [x0, x1]], fff, []⟩
def gB : Gr := ⟨[chief 2 2 2 [x0, x1], foll 1 8 2 [x0, x1], foll 2 11 2 [x0, x1]], fff, []⟩
theorem prop3 : propC gA 0 ⟨#[120]⟩ = some (gP, 0) := by kernel_rfl
theorem rest3 : restAll 3 0 gP = some gP := by kernel_rfl
theorem runP1 : roundC gP = some gB1 := by kernel_rfl
theorem runP2 : roundC gB1 = some gB := by kernel_rfl
theorem runP3 : roundC gB = some gB := by kernel_rfl
theorem settle3 : settleC gP 3 = some gB := settle_of (n := 3) rfl rest3 ((rounds_go runP1 2).trans ((rounds_go runP2 1).trans (still runP3 1)))
theorem ok_g3 : GrOk 0 g3 where
 ms := by
  intro m hm
  simp only [g3, List.mem_cons, List.not_mem_nil, or_false] at hm
  rcases hm with rfl | rfl | rfl <;> exact ok_start (by decide)
 len := by decide
 dn := rfl
 wr := by decide
 msg := by intro x hx; simp [g3] at hx
theorem same_1 (l : List ByteArray) (hl : l.length ≤ 1048576) : ∀ n k : Nat, n + k = l.length → W f_ref13_SameStrings 1 [.list (l.map IV.str), .list (l.map IV.str), .int k] = some [.bool true]
 | 0, k, h => by
  rw [e_f_ref13_SameStrings_1]
  have : ¬ k < l.length := by omega
  simp [this]
 | n + 1, k, h => by
  have hk : k < l.length := by omega
  have ih := same_1 l hl n (k + 1) (by omega)
  have e1 : O.lt (.int k) (.int l.length) = some (.bool true) := by simp [hk]
  have e2 := idx IV.str l k _ (List.getElem?_eq_getElem hk)
  have e3 : O.sNe (.str l[k]) (.str l[k]) = some (.bool false) := by show some _ = _; simp
  have e4 := up (k := k) (by omega)
  rw [e_f_ref13_SameStrings_1]
  simp only [O.len_list, List.length_map, e1, Option.bind_some, O.cnd_bool, if_true, e2, e3, Bool.false_eq_true, if_false, e4, ih]
theorem same_all (l : List ByteArray) (hl : l.length ≤ 1048576) : W f_ref13_SameStrings 0 [.list (l.map IV.str), .list (l.map IV.str)] = some [.bool true] := by
 have := same_1 l hl l.length 0 (Nat.add_zero _)
 rw [e_f_ref13_SameStrings_0]
 simp only [O.len_list, List.length_map, Option.bind_some, O.ne_int, decide_true, Bool.not_true, O.cnd_bool, Bool.false_eq_true, if_false]
 exact this
theorem awake : W f_law27_awake 0 [] = some [.bool true] := by
 obtain ⟨a1, a2⟩ := p_settle (by decide) ok_g3 (by decide) settle20
 have a2' : GrOk 300000 gA := a2
 obtain ⟨b1, b2⟩ := p_step_prop a2' (by decide) (i := 0) (by decide) prop3
 obtain ⟨c1, c2⟩ := p_settle (by decide) b2 (by decide) settle3
 have t1 : W f_law27_timeouts 0 [.int 3] = some [.list [.int 5, .int 8, .int 11]] := V_run 100 (by kernel_rfl)
 have t2 : W f_group_New 0 [.int 3, .list [.int 5, .int 8, .int 11]] = some (g3.cells ++ [.int 0]) := V_run 100 (by kernel_rfl)
 have t3 : W f_group_New 0 [.int 0, .list []] = some [.list [], .list [], .list [], .int 1] := V_run 100 (by kernel_rfl)
 have t4 : W f_group_Leaders 0 [gA.enc] = some [.list [.int 0]] := V_run 100 (by kernel_rfl)
 have t5 : W f_group_Step 0 [gA.enc, .agg [.int 1, .int 3, .str ⟨#[]⟩]] = some (gA.cells ++ [.int 5]) := V_run 100 (by kernel_rfl)
 have t6 : W f_group_Committed 0 [gB.enc, .int 0] = some [.list [.str ⟨#[]⟩, .str ⟨#[120]⟩]] := V_run 10 (by kernel_rfl)
 have t7 : W f_group_Committed 0 [gB.enc, .int 2] = some [.list [.str ⟨#[]⟩, .str ⟨#[120]⟩]] := V_run 10 (by kernel_rfl)
 have t8 := same_all [⟨#[]⟩, ⟨#[120]⟩] (by decide)
 have a1 : W f_group_Settle 0 [g3.enc, .int 20] = some gA.cells := a1
 have b1 : W f_group_Step 0 [gA.enc, .agg [.int 7, .int 0, .str ⟨#[120]⟩]] = some (gP.cells ++ [.int 0]) := b1
 have c1 : W f_group_Settle 0 [gP.enc, .int 3] = some gB.cells := c1
 have k1 : ∀ g : Gr, O.mkagg [.list (g.ms.map N.enc), .list (g.dn.map IV.bool), .list (g.wr.map G.enc)] = some g.enc := fun _ => rfl
 have k2 : ∀ (a b : Int) (c : ByteArray), O.mkagg [.int a, .int b, .str c] = some (.agg [.int a, .int b, .str c]) := fun _ _ _ => rfl
 have k3 : ∀ a b : IV, O.mklist [a, b] = some (.list [a, b]) := fun _ _ => rfl
 have k4 : O.index (.list [.int 0]) (.int 0) = some (.int 0) := rfl
 have k5 : O.len (.list [.int 0]) = some (.int 1) := rfl
 simp only [List.map_cons, List.map_nil] at t8
 rw [e_f_law27_awake_0]
 simp only [t1, O.calls_1, t2, Gr.cells, List.cons_append, List.nil_append, O.calls_4, t3, O.ne_int, k1, a1, O.calls_3, t4, b1, t5, c1, t6, t7, t8, Option.bind_some, O.cnd_bool, decide_true, Bool.not_true, Bool.false_eq_true, if_false, if_true, k2, k3, k4, k5, O.eq_int]
end Go.CT.Memb
namespace Go.CT.Memb
open Go.Proofs
def single (ds : List ByteArray) : N := ⟨0, 1, 2, 1, 0, 0, 0, 5, [], [ds.length + 2], [ds.length + 1], ds.length + 1, ds.length + 1, 0, 0, ⟨1, ⟨#[]⟩⟩ :: ds.map (E.mk 1), ⟨#[]⟩, []⟩
def alone (ds : List ByteArray) : Gr := ⟨[single ds], [false], []⟩
theorem started : W f_law27_start 0 [.int 0] = some [.list [(start 0 1 5).enc], .list [.bool false], .list []] := V_run 400 (by kernel_rfl)
theorem settled : W f_group_Settle 0 [.agg [.list [(start 0 1 5).enc], .list [.bool false], .list []], .int 20] = some [.list [(single []).enc], .list [.bool false], .list []] := V_run 400 (by kernel_rfl)
theorem rises_one : ∀ ds : List ByteArray, rises (ds.map (E.mk 1)) 1 = true
 | [] => rfl
 | d :: ds => by simp [rises, rises_one ds]
theorem ok_single (ds : List ByteArray) (h : ds.length ≤ 60) : Ok 0 (single ds) where
 id := by simp [single]
 size := by simp [single]
 to := by simp [single]
 term := by simp [single]
 role := by simp [single]
 pos := by simp [single]
 el := by simp [single]
 val := by
  simp only [valid, single, N.l, Bool.and_eq_true]
  refine ⟨by simp [fine]; omega, ?_⟩
  have : rises (⟨1, ⟨#[]⟩⟩ :: ds.map (E.mk 1)) 1 = true := rises_one (⟨#[]⟩ :: ds)
  simpa using this
 bt := by simp [single]
 ts := by
  intro e he
  simp only [single, List.mem_cons, List.mem_map] at he ⊢
  rcases he with rfl | ⟨d, _, rfl⟩ <;> simp
 com := by simp [single, lastI, N.l]; omega
 app := by simp [single]
 asc := by simp [single, Asc]
 vsl := by simp [single]
 led := by simp [single]
 nxl := by simp [single]
 nx := by simp [single]; omega
 mt := by simp [single]; omega
theorem ok_alone (ds : List ByteArray) (h : ds.length ≤ 60) : GrOk 0 (alone ds) where
 ms := by intro m hm; rw [List.mem_singleton.1 hm]; exact ok_single ds h
 len := by show 1 ≤ 7; decide
 dn := rfl
 wr := by show 0 ≤ 400; decide
 msg := by intro x hx; simp [alone] at hx
theorem prop_single (ds : List ByteArray) (d : ByteArray) (h : ds.length ≤ 50) (hd : d.size ≤ 100) : propF (single ds) d = single (ds ++ [d]) ∧ propE (single ds) d = 0 := by
 have hl : ¬ (400 ≤ (single ds).es.length) := by simp [single]; omega
 have hd2 : ¬ (20000 < d.size) := by omega
 constructor
 ·unfold propF
  rw [if_neg (by simp [single]; omega)]
  have e1 : ownF (addF (bare (single ds)) d) = ⟨0, 1, 2, 1, 0, 0, 0, 5, [], [ds.length + 3], [ds.length + 2], ds.length + 1, ds.length + 1, 0, 0, ⟨1, ⟨#[]⟩⟩ :: (ds ++ [d]).map (E.mk 1), ⟨#[]⟩, []⟩ := by
   simp [ownF, addF, bare, single, lastI, N.l]; omega
  rw [e1]
  unfold sayAdv
  rw [if_pos rfl]
  have e2 : say ⟨0, 1, 2, 1, 0, 0, 0, 5, [], [(ds.length : Int) + 3], [(ds.length : Int) + 2], ds.length + 1, ds.length + 1, 0, 0, ⟨1, ⟨#[]⟩⟩ :: (ds ++ [d]).map (E.mk 1), ⟨#[]⟩, []⟩ = ⟨0, 1, 2, 1, 0, 0, 0, 5, [], [(ds.length : Int) + 3], [(ds.length : Int) + 2], ds.length + 1, ds.length + 1, 0, 0, ⟨1, ⟨#[]⟩⟩ :: (ds ++ [d]).map (E.mk 1), ⟨#[]⟩, []⟩ := by
   simp [say, bcast, msgs]
  rw [e2]
  unfold advF
  have e3 : (lastI (N.l ⟨0, 1, 2, 1, 0, 0, 0, 5, [], [(ds.length : Int) + 3], [(ds.length : Int) + 2], ds.length + 1, ds.length + 1, 0, 0, ⟨1, ⟨#[]⟩⟩ :: (ds ++ [d]).map (E.mk 1), ⟨#[]⟩, []⟩) - ((ds.length : Int) + 1)).toNat = 1 := by
   simp [lastI, N.l]; omega
  show advN _ (lastI (N.l ⟨0, 1, 2, 1, 0, 0, 0, 5, [], [(ds.length : Int) + 3], [(ds.length : Int) + 2], ds.length + 1, ds.length + 1, 0, 0, ⟨1, ⟨#[]⟩⟩ :: (ds ++ [d]).map (E.mk 1), ⟨#[]⟩, []⟩) - ((ds.length : Int) + 1)).toNat = _
  rw [e3]
  unfold advN
  have e4 : termAt ⟨0, 0, ⟨1, ⟨#[]⟩⟩ :: (ds ++ [d]).map (E.mk 1)⟩ ((ds.length : Int) + 1 + (0 + 1 : Nat)) = some 1 := by
   unfold termAt
   rw [if_neg (by simp only; omega), if_neg (by simp only; omega)]
   have : ((ds.length : Int) + 1 + (0 + 1 : Nat) - 0).toNat - 1 = ds.length + 1 := by omega
   simp only [this]
   simp
  have e5 : cnt [(ds.length : Int) + 2] ((ds.length : Int) + 1 + (0 + 1 : Nat)) = 1 := by
   have : (ds.length : Int) + 1 + 1 ≤ ds.length + 2 := by omega
   simp [cnt, this]
  rw [if_pos ⟨e4, by rw [e5]; show (1 : Int) < 2 * ((1 : Nat) : Int); decide⟩]
  simp [single]; omega
 ·unfold propE
  rw [if_neg (by simp [single]), if_neg hd2, if_neg hl]
theorem propC_alone (ds : List ByteArray) (d : ByteArray) (h : ds.length ≤ 50) (hd : d.size ≤ 100) : propC (alone ds) 0 d = some (if 0 ≤ Lib.indexByte d.data.toList 10 then (alone ds, 1) else (alone (ds ++ [d]), 0)) := by
 obtain ⟨h1, h2⟩ := prop_single ds d h hd
 unfold propC
 have e1 : (alone ds).ms[0]? = some (single ds) := rfl
 have e2 : (alone ds).dn[0]? = some false := rfl
 rw [e1, e2]
 by_cases c : 0 ≤ Lib.indexByte d.data.toList 10
 ·simp only [c, if_true]
 ·simp only [c, if_false, h1, h2]
  rfl
theorem settle_alone (ds : List ByteArray) : settleC (alone ds) 1 = some (alone ds) := by
 have h1 : restAll 1 0 (alone ds) = some (alone ds) := rfl
 have e1 : tickF (single ds) = single ds := by
  unfold tickF
  rw [if_pos (by rfl)]
  simp [say, bcast, msgs, bare, single]
 have h2 : roundC (alone ds) = some (alone ds) := by
  unfold roundC
  have : tickAll (alone ds).ms.length 0 (alone ds) = some (alone ds) := by
   show (tickC (alone ds) 0).bind _ = _
   have : tickC (alone ds) 0 = some (alone ds) := by
    unfold tickC
    have e2 : (alone ds).ms[0]? = some (single ds) := rfl
    have e3 : (alone ds).dn[0]? = some false := rfl
    rw [e2, e3]
    simp only [e1]
    rfl
   rw [this]
   rfl
  rw [this, Option.bind_some]
  exact del_end (n := 999) rfl
 exact settle_of (n := 1) rfl h1 ((rounds_go h2 0).trans rfl)
theorem ents_memb : ∀ es : List E, entsOf (es.map E.enc) = some (es.map fun e => MemD.E.mk e.t e.d)
 | [] => rfl
 | e :: es => by simp [entsOf, ents_memb es]
theorem comm_alone (ds : List ByteArray) (h : ds.length ≤ 60) : W f_group_Committed 0 [(alone ds).enc, .int 0] = some [.list ((⟨#[]⟩ :: ds).map IV.str)] := by
 rw [show W f_group_Committed 0 [(alone ds).enc, .int 0] = O.commF _ from e_f_group_Committed _]
 show O.commM (single ds).enc = _
 unfold single
 show O.commM (N.enc ⟨0, 1, 2, 1, 0, 0, 0, 5, [], [ds.length + 2], [ds.length + 1], ds.length + 1, ds.length + 1, 0, 0, ⟨1, ⟨#[]⟩⟩ :: ds.map (E.mk 1), ⟨#[]⟩, []⟩) = _
 rw [N.enc_def]
 show (entsOf ((⟨1, ⟨#[]⟩⟩ :: ds.map (E.mk 1)).map E.enc)).bind _ = _
 rw [ents_memb, Option.bind_some, if_pos ⟨rfl, by show (0 : Int) ≤ 0; decide, by show (0 : Int) ≤ 1000000000000000; decide, by show (0 : Int) < (ds.length : Int) + 1; omega, by show (ds.length : Int) + 1 ≤ 4000000000000000; omega, by simp, by simp; omega⟩]
 have e : MemD.dataF 0 ((⟨1, ⟨#[]⟩⟩ :: ds.map (E.mk 1)).map fun e => MemD.E.mk e.t e.d) ((ds.length : Int) + 1) = ⟨#[]⟩ :: ds := by
  have h1 : ((ds.length : Int) + 1 - 0).toNat = ds.length + 1 := by omega
  rw [MemD.dataF, h1, List.take_of_length_le (by simp)]
  simp [Function.comp_def]
 show some [IV.list ((MemD.dataF 0 _ ((ds.length : Int) + 1)).map IV.str)] = _
 rw [e]
theorem single_1 (l : List ByteArray) (hl : l.length ≤ 40) : ∀ (n k : Nat) (ds : List ByteArray), n + k = l.length → ds.length ≤ k →
  W f_law27_GroupSingle 1 [.list (l.map IV.str), .int k, .list ((⟨#[]⟩ :: ds).map IV.str), .list [(single ds).enc], .list [.bool false], .list []] = some [.bool true]
 | 0, k, ds, h, hd => by
  have e1 : O.lt (.int (k : Int)) (.int l.length) = some (.bool false) := by rw [O.lt_int, decide_eq_false (by omega)]
  have e2 := (p_settle (by decide) (ok_alone ds (by omega)) (by decide) (settle_alone ds)).1
  have e2 : W f_group_Settle 0 [.agg [.list [(single ds).enc], .list [.bool false], .list []], .int 1] = some [.list [(single ds).enc], .list [.bool false], .list []] := e2
  have e3 : W f_group_Committed 0 [.agg [.list [(single ds).enc], .list [.bool false], .list []], .int 0] = some [.list ((⟨#[]⟩ :: ds).map IV.str)] := comm_alone ds (by omega)
  have e4 := same_all (⟨#[]⟩ :: ds) (by simp; omega)
  have k1 : ∀ a : IV, O.mkagg [.list [a], .list [.bool false], .list []] = some (.agg [.list [a], .list [.bool false], .list []]) := fun _ => rfl
  rw [e_f_law27_GroupSingle_1]
  simp only [O.len_list, List.length_map, e1, Option.bind_some, O.cnd_bool, Bool.false_eq_true, if_false, k1, e2, O.calls_3, e3, O.calls_1, e4, if_true, awake]
 | n + 1, k, ds, h, hd => by
  have hk : k < l.length := by omega
  have e1 : O.lt (.int (k : Int)) (.int l.length) = some (.bool true) := by rw [O.lt_int, decide_eq_true (by omega)]
  have e2 := idx IV.str l k _ (List.getElem?_eq_getElem hk)
  have k1 : ∀ a : IV, O.mkagg [.list [a], .list [.bool false], .list []] = some (.agg [.list [a], .list [.bool false], .list []]) := fun _ => rfl
  have k2 : ∀ d : ByteArray, O.mkagg [.int 7, .int 0, .str d] = some (.agg [.int 7, .int 0, .str d]) := fun _ => rfl
  have k3 : ∀ a : IV, O.mklist [a] = some (.list [a]) := fun _ => rfl
  have e3 := up (k := k) (by omega)
  rw [e_f_law27_GroupSingle_1]
  simp only [O.len_list, List.length_map, e1, Option.bind_some, O.cnd_bool, if_true, e2, O.slen_str, O.gt_int]
  by_cases c : l[k].size ≤ 100
  ·have c1 : ¬ (100 : Int) < (l[k].size : Int) := by omega
   have hp := propC_alone ds l[k] (by omega) c
   by_cases c2 : 0 ≤ Lib.indexByte l[k].data.toList 10
   ·rw [if_pos c2] at hp
    have e4 := (p_step_prop (ok_alone ds (by omega)) (by decide) (i := 0) (by show 0 < 1; decide) hp).1
    have e4 : W f_group_Step 0 [.agg [.list [(single ds).enc], .list [.bool false], .list []], .agg [.int 7, .int 0, .str l[k]]] = some [.list [(single ds).enc], .list [.bool false], .list [], .int 1] := e4
    have ih := single_1 l hl n (k + 1) ds (by omega) (by omega)
    simp only [c1, decide_false, Bool.false_eq_true, if_false, k1, k2, Option.bind_some, e4, O.calls_4, O.eq_int, show decide ((1 : Int) = 0) = false from rfl, O.cnd_bool, e_f_law27_GroupSingle_2, e3, ih]
   ·rw [if_neg c2] at hp
    have e4 := (p_step_prop (ok_alone ds (by omega)) (by decide) (i := 0) (by show 0 < 1; decide) hp).1
    have e4 : W f_group_Step 0 [.agg [.list [(single ds).enc], .list [.bool false], .list []], .agg [.int 7, .int 0, .str l[k]]] = some [.list [(single (ds ++ [l[k]])).enc], .list [.bool false], .list [], .int 0] := e4
    have ih := single_1 l hl n (k + 1) (ds ++ [l[k]]) (by omega) (by simp; omega)
    have e5 : O.append 16 (.list ((⟨#[]⟩ :: ds).map IV.str)) (.list [.str l[k]]) = some (.list ((⟨#[]⟩ :: (ds ++ [l[k]])).map IV.str)) := by
     have : (ds.length + 1 + 1) * 16 ≤ maxBytes := by unfold maxBytes; omega
     simp [this]
    simp only [c1, decide_false, Bool.false_eq_true, if_false, k1, k2, Option.bind_some, e4, O.calls_4, O.eq_int, decide_true, O.cnd_bool, if_true, k3, e5, e_f_law27_GroupSingle_2, e3, ih]
  ·have c1 : (100 : Int) < (l[k].size : Int) := by omega
   simp only [c1, decide_true, if_true, awake, O.calls_1]
theorem law_single (l : List ByteArray) : W f_law27_GroupSingle 0 [.list (l.map IV.str)] = some [.bool true] := by
 have k1 : ∀ a b c : IV, O.mkagg [a, b, c] = some (.agg [a, b, c]) := fun _ _ _ => rfl
 have k3 : ∀ a : IV, O.mklist [a] = some (.list [a]) := fun _ => rfl
 rw [e_f_law27_GroupSingle_0]
 simp only [O.len_list, List.length_map, Option.bind_some, O.gt_int, O.cnd_bool]
 by_cases c : (40 : Int) < (l.length : Int)
 ·simp only [c, decide_true, if_true, awake, O.calls_1]
 ·have e := single_1 l (by omega) l.length 0 [] (by omega) (Nat.le_refl _)
  simp only [List.map_cons, List.map_nil, Int.natCast_zero] at e
  simp only [c, decide_false, Bool.false_eq_true, if_false, started, O.calls_3, k1, k3, Option.bind_some, settled, e]
theorem wt_strs {x : IV} (h : WT Tryd.prog 31 x) : ∃ l : List ByteArray, x = .list (l.map IV.str) := by
 obtain ⟨xs, rfl, _, h2⟩ := h.list_inv u31
 obtain ⟨zs, rfl, _⟩ := list_form (enc := IV.str) (ok := fun _ => True) (xs := xs) fun y hy => by
  obtain ⟨s, rfl, _⟩ := (h2 y hy).str_inv u9
  exact ⟨s, rfl, trivial⟩
 exact ⟨zs, rfl⟩
theorem law (xs : List IV) (h : WTs Tryd.prog [31] xs) : W f_law27_GroupSingle 0 xs = some [.bool true] := by
 obtain ⟨y, ys, rfl, h1, h2⟩ := h.cons_inv
 obtain rfl := h2.nil_inv
 obtain ⟨l, rfl⟩ := wt_strs h1
 exact law_single l
end Go.CT.Memb
