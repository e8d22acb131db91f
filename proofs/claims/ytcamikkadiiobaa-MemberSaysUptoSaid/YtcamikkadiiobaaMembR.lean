import Derived.Test.YtcamikkadiiobaaMembT
import Derived.Test.YtcamikkadiiobaaCtC
set_option linter.unusedVariables false
set_option linter.unusedSimpArgs false
namespace Go.CT.Memb
open Go.Proofs

structure E where
  t : Int
  d : ByteArray
  deriving DecidableEq
@[simp] def E.enc (e : E) : IV := .agg [.int e.t, .str e.d]
structure L where
  b : Int
  bt : Int
  es : List E
@[simp] def L.enc (l : L) : IV := .agg [.int l.b, .int l.bt, .list (l.es.map E.enc)]
def L.small (l : L) : Prop := l.es.length ≤ 1048576
theorem new : W f_rlog_New 0 [] = some [.int 0, .int 0, .list []] := e_f_rlog_New_0
def rises : List E → Int → Bool
  | [], _ => true
  | e :: es, least => if e.t < least ∨ e.t > 1000000000000000 then false else rises es e.t
theorem next {n i : Nat} (h : i + n ≤ 4194304) : IntKind.i64.wrap ((i : Int) + 1) = ((i + 1 : Nat) : Int) := by rw [wrap64 (by omega) (by omega)]; rfl
theorem ref_rises_1 (xs : List E) (hx : xs.length ≤ 4194304) : ∀ (n i : Nat) (least : Int), i + n = xs.length →
    W f_ref25_rises 1 [.list (xs.map E.enc), .int least, .int i] = some [.bool (rises (xs.drop i) least)]
  | 0, i, least, h => by
    rw [e_f_ref25_rises_1]
    have : ¬ i < xs.length := by omega
    simp [this, List.drop_of_length_le (Nat.le_of_not_lt this), rises]
  | n + 1, i, least, h => by
    have hi : i < xs.length := by omega
    have ih := ref_rises_1 xs hx n (i + 1) xs[i].t (by omega)
    have hw := next (n := n) (i := i) (by omega)
    rw [e_f_ref25_rises_1, List.drop_eq_getElem_cons hi]
    simp [rises, hw, hi]
    by_cases h1 : xs[i].t < least <;> by_cases h2 : 1000000000000000 < xs[i].t <;> simp [h1, h2]
    exact ih
theorem ref_rises (xs : List E) (hx : xs.length ≤ 4194304) (least : Int) : W f_ref25_rises 0 [.list (xs.map E.enc), .int least] = some [.bool (rises xs least)] := by
  rw [e_f_ref25_rises_0]
  exact ref_rises_1 xs hx xs.length 0 least (by omega)
theorem rises_1 (xs : List E) (hx : xs.length ≤ 4194304) : ∀ (n i : Nat) (least : Int), i + n = xs.length →
    W f_rlog_rises 1 [.int least, .list (xs.map E.enc), .int xs.length, .int i] = some [.bool (rises (xs.drop i) least)]
  | 0, i, least, h => by
    rw [e_f_rlog_rises_1]
    have : ¬ i < xs.length := by omega
    simp [this, List.drop_of_length_le (Nat.le_of_not_lt this), rises]
  | n + 1, i, least, h => by
    have hi : i < xs.length := by omega
    have ih := rises_1 xs hx n (i + 1) xs[i].t (by omega)
    have hw := next (n := n) (i := i) (by omega)
    rw [e_f_rlog_rises_1, List.drop_eq_getElem_cons hi]
    simp [rises, hw, hi]
    by_cases h1 : xs[i].t < least <;> by_cases h2 : 1000000000000000 < xs[i].t <;> simp [h1, h2]
    exact ih
theorem prg_rises (xs : List E) (hx : xs.length ≤ 4194304) (least : Int) : W f_rlog_rises 0 [.list (xs.map E.enc), .int least] = some [.bool (rises xs least)] := by
  rw [e_f_rlog_rises_0]
  have := rises_1 xs hx xs.length 0 least (by omega)
  simpa using this
def fine (l : L) : Prop := 0 ≤ l.b ∧ l.b ≤ 1000000000000000 ∧ 0 ≤ l.bt ∧ l.bt ≤ 1000000000000000 ∧ (l.b = 0 ↔ l.bt = 0) ∧ l.es.length ≤ 400
instance (l : L) : Decidable (fine l) := by unfold fine; infer_instance
def valid (l : L) : Bool := decide (fine l) && rises l.es (if 1 < l.bt then l.bt else 1)
theorem ref_valid (b bt : Int) (es : List E) (h : es.length ≤ 4194304) : W f_ref25_Valid 0 [.agg [.int b, .int bt, .list (es.map E.enc)]] = some [.bool (valid ⟨b, bt, es⟩)] := by
  rw [e_f_ref25_Valid_0]
  simp [ref_rises es h]
  split
  · have : ¬ fine ⟨b, bt, es⟩ := by unfold fine; simp only; omega
    simp [valid, this]
  · have : fine ⟨b, bt, es⟩ := by unfold fine; simp only; omega
    simp [valid, this]
def lastI (l : L) : Int := l.b + l.es.length
def lastT (l : L) : Int := match l.es.getLast? with | some e => e.t | none => l.bt
/-- A log whose numbers are small. -/
def tame (l : L) : Prop := 0 ≤ l.b ∧ l.b ≤ 1000000000000000 ∧ l.es.length ≤ 4194304
theorem prg_last (b bt : Int) (es : List E) (h : tame ⟨b, bt, es⟩) : W f_rlog_Last 0 [.agg [.int b, .int bt, .list (es.map E.enc)]] = some [.int (lastI ⟨b, bt, es⟩), .int (lastT ⟨b, bt, es⟩)] := by
  obtain ⟨h1, h2, h3⟩ := h
  simp only at h1 h2 h3
  rw [e_f_rlog_Last_0]
  rcases es.eq_nil_or_concat with rfl | ⟨es, e, rfl⟩
  · simp [lastI, lastT]
  · simp at h3
    have w1 : IntKind.i64.wrap (b + ((es.length : Int) + 1)) = b + (es.length + 1) := wrap64 (by omega) (by omega)
    have w2 : IntKind.i64.wrap (es.length : Int) = es.length := wrap64 (by omega) (by omega)
    have h4 : (0 : Int) < es.length + 1 := by omega
    simp [lastI, lastT, w1, w2, h4]
theorem ref_last (b bt : Int) (es : List E) (h : tame ⟨b, bt, es⟩) : W f_ref25_Last 0 [.agg [.int b, .int bt, .list (es.map E.enc)]] = some [.int (lastI ⟨b, bt, es⟩), .int (lastT ⟨b, bt, es⟩)] := by
  obtain ⟨h1, h2, h3⟩ := h
  simp only at h1 h2 h3
  rw [e_f_ref25_Last_0]
  rcases es.eq_nil_or_concat with rfl | ⟨es, e, rfl⟩
  · simp [lastI, lastT]
  · simp at h3
    have w1 : IntKind.i64.wrap (b + ((es.length : Int) + 1)) = b + (es.length + 1) := wrap64 (by omega) (by omega)
    have w2 : IntKind.i64.wrap (es.length : Int) = es.length := wrap64 (by omega) (by omega)
    have h4 : ¬ ((es.length : Int) + 1 = 0) := by omega
    simp [lastI, lastT, w1, w2, h4]
/-- The term at an index. -/
def termAt (l : L) (i : Int) : Option Int := if i = l.b then some l.bt else if i < l.b then none else (l.es[(i - l.b).toNat - 1]?).map E.t
def optI (o : Option Int) : List IV := match o with | some t => [.int t, .bool true] | none => [.int 0, .bool false]
theorem prg_termAt (b bt : Int) (es : List E) (i : Int) (h : tame ⟨b, bt, es⟩) : W f_rlog_TermAt 0 [.agg [.int b, .int bt, .list (es.map E.enc)], .int i] = some (optI (termAt ⟨b, bt, es⟩ i)) := by
  have h0 := prg_last b bt es h
  obtain ⟨h1, h2, h3⟩ := h
  simp only at h1 h2 h3
  rw [e_f_rlog_TermAt_0]
  simp [h0, lastI, termAt]
  by_cases c1 : i < b
  · have : ¬ i = b := by omega
    simp [c1, this, optI]
  · by_cases c2 : i = b
    · subst c2
      have : i ≤ i + (es.length : Int) := by omega
      simp [optI, this]
    · by_cases c3 : b + es.length < i
      · have : es.length ≤ (i - b).toNat - 1 := by omega
        simp [c1, c2, c3, this, optI]
      · have hlt : (i - b).toNat - 1 < es.length := by omega
        have w1 : IntKind.i64.wrap (i - b) = i - b := wrap64 (by omega) (by omega)
        have w2 : IntKind.i64.wrap (i - b - 1) = i - b - 1 := wrap64 (by omega) (by omega)
        have h4 : 1 ≤ i - b := by omega
        simp [c1, c2, c3, w1, w2, h4, hlt, optI]
theorem ref_termAt (b bt : Int) (es : List E) (i : Int) (h : tame ⟨b, bt, es⟩) : W f_ref25_TermAt 0 [.agg [.int b, .int bt, .list (es.map E.enc)], .int i] = some (optI (termAt ⟨b, bt, es⟩ i)) := by
  obtain ⟨h1, h2, h3⟩ := h
  simp only at h1 h2 h3
  rw [e_f_ref25_TermAt_0]
  have w0 : IntKind.i64.wrap (b + es.length) = b + es.length := wrap64 (by omega) (by omega)
  simp [termAt, w0]
  by_cases c2 : i = b
  · subst c2
    simp [optI]
  · by_cases c1 : i < b
    · simp [c1, c2, optI]
    · by_cases c3 : b + es.length < i
      · have : es.length ≤ (i - b).toNat - 1 := by omega
        simp [c1, c2, c3, this, optI]
      · have hlt : (i - b).toNat - 1 < es.length := by omega
        have w1 : IntKind.i64.wrap (i - b) = i - b := wrap64 (by omega) (by omega)
        have w2 : IntKind.i64.wrap (i - b - 1) = i - b - 1 := wrap64 (by omega) (by omega)
        have h4 : 1 ≤ i - b := by omega
        simp [c1, c2, c3, w1, w2, h4, hlt, optI]
theorem prg_newer (a b c d : Int) : W f_rlog_Newer 0 [.int a, .int b, .int c, .int d] = W f_ref25_Newer 0 [.int a, .int b, .int c, .int d] := by
  rw [e_f_rlog_Newer_0, e_f_ref25_Newer_0]
theorem ref_newer (a b c d : Int) : W f_ref25_Newer 0 [.int a, .int b, .int c, .int d] = some [.bool (decide (c < a) || (decide (a = c) && decide (d ≤ b)))] := by
  rw [e_f_ref25_Newer_0]; simp
@[simp] theorem eq_leaves (e f : E) : IV.eqLeaves [.int e.t, .str e.d] [.int f.t, .str f.d] = some (decide (e = f)) := by
  have : (e.d.toList == f.d.toList) = decide (e.d = f.d) := by
    rw [Bool.eq_iff_iff, beq_iff_eq, decide_eq_true_iff]; exact O.str_ext
  cases e; cases f
  simp [IV.eqLeaves, IV.eqLeaf, this]
  rw [Bool.eq_iff_iff]; simp
theorem entries_1 (xs ys : List E) (hl : xs.length = ys.length) (hx : xs.length ≤ 4194304) : ∀ (n i : Nat), i + n = xs.length →
    W f_ref25_Entries 1 [.list (xs.map E.enc), .list (ys.map E.enc), .int i] = some [.bool (decide (xs.drop i = ys.drop i))]
  | 0, i, h => by
    rw [e_f_ref25_Entries_1]
    have : ¬ i < xs.length := by omega
    have h2 : ys.length ≤ i := by omega
    simp [this, List.drop_of_length_le (Nat.le_of_not_lt this), h2]
  | n + 1, i, h => by
    have hi : i < xs.length := by omega
    have hj : i < ys.length := by omega
    have ih := entries_1 xs ys hl hx n (i + 1) (by omega)
    have hw := next (n := n) (i := i) (by omega)
    rw [e_f_ref25_Entries_1, List.drop_eq_getElem_cons hi, List.drop_eq_getElem_cons hj]
    simp [hw, hi, hj, -List.getElem_cons_drop]
    by_cases h1 : xs[i] = ys[i] <;> simp [h1, -List.getElem_cons_drop]
    exact ih
theorem entries (xs ys : List E) (hx : xs.length ≤ 4194304) : W f_ref25_Entries 0 [.list (xs.map E.enc), .list (ys.map E.enc)] = some [.bool (decide (xs = ys))] := by
  rw [e_f_ref25_Entries_0]
  by_cases hl : xs.length = ys.length
  · have := entries_1 xs ys hl hx xs.length 0 (by omega)
    simp [hl] at this ⊢
    exact this
  · have h2 : ¬ xs = ys := fun e => hl (by rw [e])
    have h3 : ¬ (xs.length : Int) = ys.length := by omega
    simp [h2, h3]
theorem same (b bt b' bt' : Int) (xs ys : List E) (hx : xs.length ≤ 4194304) : W f_ref25_Same 0 [.agg [.int b, .int bt, .list (xs.map E.enc)], .agg [.int b', .int bt', .list (ys.map E.enc)]] = some [.bool (decide (b = b') && (decide (bt = bt') && decide (xs = ys)))] := by
  rw [e_f_ref25_Same_0]
  simp [entries xs ys hx, Bool.and_assoc]
/-- The entries from an index on. -/
def fromI (l : L) (i most : Int) : Option (List E) := if i ≤ l.b ∨ l.b + l.es.length + 1 < i then none else some ((l.es.drop ((i - l.b).toNat - 1)).take most.toNat)
def optE (o : Option (List E)) : List IV := match o with | some l => [.list (l.map E.enc), .bool true] | none => [.list [], .bool false]
theorem clone_list (xs : List IV) (h : xs.length ≤ 4194304) : W f_slices_Clone_v2 0 [.list xs] = some [.list xs] := by
  rw [e_f_slices_Clone_v2, O.cloneF, if_pos (by omega)]
theorem prg_from (b bt : Int) (es : List E) (i most : Int) (h : tame ⟨b, bt, es⟩) : W f_rlog_From 0 [.agg [.int b, .int bt, .list (es.map E.enc)], .int i, .int most] = some (optE (fromI ⟨b, bt, es⟩ i most)) := by
  have h0 := prg_last b bt es h
  obtain ⟨h1, h2, h3⟩ := h
  simp only at h1 h2 h3
  rw [e_f_rlog_From_0]
  have w0 : IntKind.i64.wrap (b + es.length + 1) = b + es.length + 1 := wrap64 (by omega) (by omega)
  simp [h0, lastI, fromI, w0]
  by_cases c1 : i ≤ b
  · simp [c1, optE]
  · by_cases c3 : b + es.length + 1 < i
    · simp [c1, c3, optE]
    · have w1 : IntKind.i64.wrap (i - b) = i - b := wrap64 (by omega) (by omega)
      have w2 : IntKind.i64.wrap (i - b - 1) = i - b - 1 := wrap64 (by omega) (by omega)
      have h4 : 1 ≤ i - b := by omega
      obtain ⟨k, rfl⟩ : ∃ k : Nat, i = b + 1 + k := ⟨(i - b - 1).toNat, by omega⟩
      have h5 : k ≤ es.length := by omega
      have e1 : b + 1 + (k : Int) - b - 1 = k := by omega
      have e2 : (b + 1 + (k : Int) - b).toNat - 1 = k := by omega
      have wk : IntKind.i64.wrap (k : Int) = k := wrap64 (by omega) (by omega)
      simp only [w1, e1, e2, wk]
      simp [c1, c3, h5]
      generalize hm : (if (0 : Int) < most then most else 0) = m
      have hm0 : 0 ≤ m ∧ most.toNat = m.toNat := by rw [← hm]; split <;> omega
      obtain ⟨n, rfl⟩ : ∃ n : Nat, m = n := ⟨m.toNat, by omega⟩
      rw [hm0.2]
      have h6 : ((es.length : Int) - k) = ((es.length - k : Nat) : Int) := by omega
      obtain ⟨q, hq⟩ : ∃ q, q = min (es.length - k) n := ⟨_, rfl⟩
      have e7 : List.take n (List.drop k es) = List.take q (List.drop k es) := by
        rw [hq]
        by_cases c4 : es.length - k ≤ n
        · rw [Nat.min_eq_left c4, List.take_of_length_le (by simp; omega), List.take_of_length_le (by simp)]
        · rw [Nat.min_eq_right (by omega)]
      have e8 : (if ((es.length - k : Nat) : Int) < n then ((es.length - k : Nat) : Int) else n) = (q : Int) := by split <;> omega
      have e9 : q ≤ es.length - k := by omega
      rw [e8]
      have hc := clone_list (((es.drop k).take q).map E.enc) (by simp; omega)
      simp only [List.map_take, List.map_drop] at hc
      have e10 : (q : Int) ≤ ((es.length - k : Nat) : Int) := by omega
      simp [e9, e7, hc, optE]
theorem ref_from (b bt : Int) (es : List E) (i most : Int) (h : tame ⟨b, bt, es⟩) : W f_ref25_From 0 [.agg [.int b, .int bt, .list (es.map E.enc)], .int i, .int most] = some (optE (fromI ⟨b, bt, es⟩ i most)) := by
  obtain ⟨h1, h2, h3⟩ := h
  simp only at h1 h2 h3
  rw [e_f_ref25_From_0]
  have w0 : IntKind.i64.wrap (b + es.length) = b + es.length := wrap64 (by omega) (by omega)
  have w0' : IntKind.i64.wrap (b + es.length + 1) = b + es.length + 1 := wrap64 (by omega) (by omega)
  simp [fromI, w0, w0']
  by_cases c1 : i ≤ b
  · simp [c1, optE]
  · by_cases c3 : b + es.length + 1 < i
    · simp [c1, c3, optE]
    · have w1 : IntKind.i64.wrap (i - b) = i - b := wrap64 (by omega) (by omega)
      have w2 : IntKind.i64.wrap (i - b - 1) = i - b - 1 := wrap64 (by omega) (by omega)
      obtain ⟨k, rfl⟩ : ∃ k : Nat, i = b + 1 + k := ⟨(i - b - 1).toNat, by omega⟩
      have h5 : k ≤ es.length := by omega
      have e1 : b + 1 + (k : Int) - b - 1 = k := by omega
      have e2 : (b + 1 + (k : Int) - b).toNat - 1 = k := by omega
      have wk : IntKind.i64.wrap (k : Int) = k := wrap64 (by omega) (by omega)
      have h6 : ((es.length : Int) - k) = ((es.length - k : Nat) : Int) := by omega
      have wl : IntKind.i64.wrap ((es.length - k : Nat) : Int) = ((es.length - k : Nat) : Int) := wrap64 (by omega) (by omega)
      simp only [w1, e1, e2, wk]
      simp [c1, c3]
      generalize hm : (if (0 : Int) < most then most else 0) = m
      have hm0 : 0 ≤ m ∧ most.toNat = m.toNat := by rw [← hm]; split <;> omega
      obtain ⟨n, rfl⟩ : ∃ n : Nat, m = n := ⟨m.toNat, by omega⟩
      rw [hm0.2, h6, wl]
      obtain ⟨q, hq⟩ : ∃ q, q = min (es.length - k) n := ⟨_, rfl⟩
      have e7 : List.take n (List.drop k es) = List.take q (List.drop k es) := by
        rw [hq]
        by_cases c4 : es.length - k ≤ n
        · rw [Nat.min_eq_left c4, List.take_of_length_le (by simp; omega), List.take_of_length_le (by simp)]
        · rw [Nat.min_eq_right (by omega)]
      have e8 : (if ((es.length - k : Nat) : Int) < n then ((es.length - k : Nat) : Int) else n) = (q : Int) := by split <;> omega
      have e9 : q ≤ es.length - k := by omega
      rw [e8]
      have wq : IntKind.i64.wrap ((k : Int) + q) = ((k + q : Nat) : Int) := by rw [wrap64 (by omega) (by omega)]; rfl
      have e10 : (k : Int) + q ≤ es.length := by omega
      have e11 : (k : Int) ≤ k + q := by omega
      have e12 : ((k : Int) + q).toNat - k = q := by omega
      rw [wq]
      simp [e10, e11, e12, e7, optE, List.drop_take]
theorem valid_inv {l : L} (h : valid l = true) : fine l ∧ rises l.es (if 1 < l.bt then l.bt else 1) = true := by
  unfold valid at h
  rw [Bool.and_eq_true, decide_eq_true_iff] at h
  exact h
/-! ### the laws -/

/-- The greatest index from i down, above the base, whose term is at most t; else the base. -/
def hintF (l : L) (t : Int) : Nat → Int
  | 0 => l.b
  | k + 1 => if (termAt l (l.b + (k + 1))).getD 0 ≤ t then l.b + (k + 1) else hintF l t k
def hint (l : L) (prev t : Int) : Int := hintF l t (min (prev - 1 - l.b) l.es.length).toNat
theorem optI_getD (o : Option Int) : optI o = [.int (o.getD 0), .bool o.isSome] := by cases o <;> rfl
theorem prg_hint_1 (b bt : Int) (es : List E) (t : Int) (h : tame ⟨b, bt, es⟩) : ∀ (k : Nat) (i : Int), i ≤ b + k → k ≤ 4194304 → b - 9223372036854775807 ≤ i → 
    W f_rlog_hint 1 [.int t, .int i, .agg [.int b, .int bt, .list (es.map E.enc)]] = some [.int (hintF ⟨b, bt, es⟩ t (i - b).toNat)]
  | 0, i, hi, _, _ => by
    rw [e_f_rlog_hint_1]
    have : ¬ b < i := by omega
    have h0 : (i - b).toNat = 0 := by omega
    simp [this, h0, hintF]
  | k + 1, i, hi, hk, hlo => by
    rw [e_f_rlog_hint_1]
    by_cases hb : b < i
    · obtain ⟨m, rfl⟩ : ∃ m : Nat, i = b + (m + 1) := ⟨(i - b - 1).toNat, by omega⟩
      obtain ⟨h1, h2, h3⟩ := h
      simp only at h1 h2 h3
      have w1 : IntKind.i64.wrap (b + (↑m + 1) - 1) = b + m := by rw [wrap64 (by omega) (by omega)]; omega
      have ih := prg_hint_1 b bt es t ⟨h1, h2, h3⟩ k (b + m) (by omega) (by omega) (by omega)
      have e1 : (b + ((m : Int) + 1) - b).toNat = m + 1 := by omega
      have e2 : (b + (m : Int) - b).toNat = m := by omega
      rw [e2] at ih
      simp only [prg_termAt b bt es _ ⟨h1, h2, h3⟩, optI_getD, e1, hintF]
      have hb' : b < b + ((m : Int) + 1) := by omega
      simp only [O.proj_agg, List.getElem?_cons_zero, Option.bind_some, O.gt_int, O.cnd_bool, hb', decide_true, if_true, O.calls_2, O.le_int, O.sub_int, w1, ih]
      by_cases ht : (termAt ⟨b, bt, es⟩ (b + (↑m + 1))).getD 0 ≤ t
      · simp [ht]
      · simp [ht]
    · have h0 : (i - b).toNat = 0 := by omega
      simp [hb, h0, hintF]
theorem ref_hint_1 (b bt : Int) (es : List E) (t : Int) (h : tame ⟨b, bt, es⟩) : ∀ (k : Nat) (i : Int), i ≤ b + k → k ≤ 4194304 → b - 9223372036854775807 ≤ i → 
    W f_ref25_hint 1 [.int t, .int i, .agg [.int b, .int bt, .list (es.map E.enc)]] = some [.int (hintF ⟨b, bt, es⟩ t (i - b).toNat)]
  | 0, i, hi, _, _ => by
    rw [e_f_ref25_hint_1]
    have : ¬ b < i := by omega
    have h0 : (i - b).toNat = 0 := by omega
    simp [this, h0, hintF]
  | k + 1, i, hi, hk, hlo => by
    rw [e_f_ref25_hint_1]
    by_cases hb : b < i
    · obtain ⟨m, rfl⟩ : ∃ m : Nat, i = b + (m + 1) := ⟨(i - b - 1).toNat, by omega⟩
      obtain ⟨h1, h2, h3⟩ := h
      simp only at h1 h2 h3
      have w1 : IntKind.i64.wrap (b + (↑m + 1) - 1) = b + m := by rw [wrap64 (by omega) (by omega)]; omega
      have ih := ref_hint_1 b bt es t ⟨h1, h2, h3⟩ k (b + m) (by omega) (by omega) (by omega)
      have e1 : (b + ((m : Int) + 1) - b).toNat = m + 1 := by omega
      have e2 : (b + (m : Int) - b).toNat = m := by omega
      rw [e2] at ih
      simp only [ref_termAt b bt es _ ⟨h1, h2, h3⟩, optI_getD, e1, hintF]
      have hb' : b < b + ((m : Int) + 1) := by omega
      simp only [O.proj_agg, List.getElem?_cons_zero, Option.bind_some, O.gt_int, O.cnd_bool, hb', decide_true, if_true, O.calls_2, O.le_int, O.sub_int, w1, ih]
      by_cases ht : (termAt ⟨b, bt, es⟩ (b + (↑m + 1))).getD 0 ≤ t
      · simp [ht]
      · simp [ht]
    · have h0 : (i - b).toNat = 0 := by omega
      simp [hb, h0, hintF]
theorem prg_hint (b bt : Int) (es : List E) (p t : Int) (h : tame ⟨b, bt, es⟩) (hp : 0 ≤ p) (hp2 : I64 p) : W f_rlog_hint 0 [.agg [.int b, .int bt, .list (es.map E.enc)], .int p, .int t] = some [.int (hint ⟨b, bt, es⟩ p t)] := by
  have h0 := prg_last b bt es h
  have h' := h
  obtain ⟨h1, h2, h3⟩ := h
  simp only at h1 h2 h3
  obtain ⟨_, hp3⟩ := hp2
  rw [e_f_rlog_hint_0]
  have w1 : IntKind.i64.wrap (p - 1) = p - 1 := wrap64 (by omega) (by omega)
  simp [h0, lastI, w1]
  have e1 : (if b + (es.length : Int) < p - 1 then b + (es.length : Int) else p - 1) = min (p - 1) (b + es.length) := by split <;> omega
  rw [e1, prg_hint_1 b bt es t h' es.length _ (by omega) (by omega) (by omega)]
  have e2 : (min (p - 1) (b + (es.length : Int)) - b).toNat = (min (p - 1 - b) (es.length : Int)).toNat := by omega
  rw [e2]; rfl
theorem ref_hint (b bt : Int) (es : List E) (p t : Int) (h : tame ⟨b, bt, es⟩) (hp : 0 ≤ p) (hp2 : I64 p) : W f_ref25_hint 0 [.agg [.int b, .int bt, .list (es.map E.enc)], .int p, .int t] = some [.int (hint ⟨b, bt, es⟩ p t)] := by
  have h' := h
  obtain ⟨h1, h2, h3⟩ := h
  simp only at h1 h2 h3
  obtain ⟨_, hp3⟩ := hp2
  rw [e_f_ref25_hint_0]
  have w1 : IntKind.i64.wrap (p - 1) = p - 1 := wrap64 (by omega) (by omega)
  have w2 : IntKind.i64.wrap (b + es.length) = b + es.length := wrap64 (by omega) (by omega)
  simp [w1, w2]
  have e1 : (if b + (es.length : Int) < p - 1 then b + (es.length : Int) else p - 1) = min (p - 1) (b + es.length) := by split <;> omega
  rw [e1, ref_hint_1 b bt es t h' es.length _ (by omega) (by omega) (by omega)]
  have e2 : (min (p - 1) (b + (es.length : Int)) - b).toNat = (min (p - 1 - b) (es.length : Int)).toNat := by omega
  rw [e2]; rfl
theorem clone (b bt : Int) (es : List E) (h : es.length ≤ 4194304) : W f_rlog_clone 0 [.agg [.int b, .int bt, .list (es.map E.enc)]] = some [.int b, .int bt, .list (es.map E.enc)] := by
  rw [e_f_rlog_clone_0]
  simp [clone_list (es.map E.enc) (by simpa using h)]

def pcut (out : List E) (at' : Nat) (e : E) : List E :=
  match out[at']? with
  | some x => if x.t = e.t then out else out.take at'
  | none => out
def pstep (out : List E) (at' : Nat) (e : E) : List E :=
  if at' = (pcut out at' e).length ∧ at' < 400 then pcut out at' e ++ [e] else pcut out at' e
def ploop : List E → Nat → List E → List E
  | out, _, [] => out
  | out, at', e :: es => ploop (pstep out at' e) (at' + 1) es
theorem pcut_len (out : List E) (at' : Nat) (e : E) (h : out.length ≤ 400) : (pcut out at' e).length ≤ 400 := by
  unfold pcut
  split
  · split
    · exact h
    · simp; omega
  · exact h
theorem pstep_len (out : List E) (at' : Nat) (e : E) (h : out.length ≤ 400) : (pstep out at' e).length ≤ 400 := by
  have := pcut_len out at' e h
  unfold pstep
  split
  · simp; omega
  · exact this
theorem prg_app_2 (prev b bt : Int) (e rest : List E) (les : List E) (y7 y8 y9 y10 : IV) (hr : rest.length ≤ 1048576) (he : e.length ≤ 1048576) (hb : 0 ≤ b ∧ b ≤ 1000000000000000) (hp : 0 ≤ prev ∧ prev ≤ 2000000000000000) :
    ∀ (n i at' : Nat) (out : List E), i + n = rest.length → at' + n ≤ 4194304 → out.length ≤ 400 →
    W f_rlog_Append 2 [.int prev, .list (e.map E.enc), .int at', .list (rest.map E.enc), .int rest.length, .int i, .agg [.int b, .int bt, .list (les.map E.enc)], y7, y8, y9, y10, .list (out.map E.enc)] =
      some [y9, y10, .list ((ploop out at' (rest.drop i)).map E.enc), .int (min (prev + e.length) (b + 400)), .bool true]
  | 0, i, at', out, hi, ha, ho => by
    rw [e_f_rlog_Append_2]
    have hlt : ¬ i < rest.length := by omega
    have w1 : IntKind.i64.wrap (prev + e.length) = prev + e.length := wrap64 (by omega) (by omega)
    have w2 : IntKind.i64.wrap (b + 400) = b + 400 := wrap64 (by omega) (by omega)
    have e1 : (if b + 400 < prev + (e.length : Int) then b + 400 else prev + e.length) = min (prev + e.length) (b + 400) := by split <;> omega
    simp [hlt, w1, w2, e1, List.drop_of_length_le (Nat.le_of_not_lt hlt), ploop]
  | n + 1, i, at', out, hi, ha, ho => by
    have hlt : i < rest.length := by omega
    have ih := prg_app_2 prev b bt e rest les y7 y8 y9 y10 hr he hb hp n (i + 1) (at' + 1) (pstep out at' rest[i]) (by omega) (by omega) (pstep_len _ _ _ ho)
    have w1 : IntKind.i64.wrap ((i : Int) + 1) = ((i + 1 : Nat) : Int) := by rw [wrap64 (by omega) (by omega)]; rfl
    have w2 : IntKind.i64.wrap ((at' : Int) + 1) = ((at' + 1 : Nat) : Int) := by rw [wrap64 (by omega) (by omega)]; rfl
    rw [e_f_rlog_Append_2, List.drop_eq_getElem_cons hlt]
    -- the middle blocks
    have mid : ∀ o1 : List E, o1.length ≤ 400 → W f_rlog_Append 3 [.int prev, .list (e.map E.enc), .int at', .list (rest.map E.enc), .int rest.length, .int i, .agg [.int b, .int bt, .list (les.map E.enc)], y7, y8, y9, y10, E.enc rest[i], .list (o1.map E.enc)] =
        W f_rlog_Append 2 [.int prev, .list (e.map E.enc), .int ((at' + 1 : Nat) : Int), .list (rest.map E.enc), .int rest.length, .int ((i + 1 : Nat) : Int), .agg [.int b, .int bt, .list (les.map E.enc)], y7, y8, y9, y10, .list ((if at' = o1.length ∧ at' < 400 then o1 ++ [rest[i]] else o1).map E.enc)] := by
      intro o1 h1
      rw [e_f_rlog_Append_3]
      have hm : (o1.length + 1) * 24 ≤ maxBytes := by unfold maxBytes; omega
      by_cases c1 : at' = o1.length ∧ at' < 400
      · obtain ⟨c1, c2⟩ := c1
        have c2' : (at' : Int) < 400 := by omega
        subst c1
        simp only [O.len_list, List.length_map, Option.bind_some, O.eq_int, decide_true, O.cnd_bool, if_true, O.lt_int, c2', O.mklist_eq, O.append_list, List.length_singleton, hm, e_f_rlog_Append_4, O.add_int, w1, w2, c2, and_self, List.map_append, List.map_cons, List.map_nil]
      · have c3 : ¬ ((at' : Int) = o1.length ∧ (at' : Int) < 400) := by omega
        simp [c1, e_f_rlog_Append_4, w1, w2]
        by_cases c4 : (at' : Int) = o1.length <;> simp [c4] <;> omega
    have hi' : (i : Int) < rest.length := by omega
    cases hc : out[at']? with
    | none =>
      have h1 : out.length ≤ at' := by simpa using hc
      have h2 : ¬ (at' : Int) < out.length := by omega
      simp only [O.lt_int, hi', decide_true, Option.bind_some, O.cnd_bool, if_true, O.index_list, Int.natCast_nonneg, Int.toNat_natCast, List.getElem?_map, List.getElem?_eq_getElem hlt, Option.map_some, O.len_list, List.length_map, h2, decide_false, Bool.false_eq_true, if_false]
      rw [mid out ho]
      have : pcut out at' rest[i] = out := by simp [pcut, hc]
      rw [ploop, pstep, this]
      rw [pstep, this] at ih
      exact ih
    | some x =>
      have h1 : at' < out.length := (List.getElem?_eq_some_iff.1 hc).1
      have h2 : (at' : Int) < out.length := by omega
      have h3 : (0 : Int) ≤ at' ∧ (at' : Int) ≤ out.length := by omega
      simp only [O.lt_int, hi', decide_true, Option.bind_some, O.cnd_bool, if_true, O.index_list, Int.natCast_nonneg, Int.toNat_natCast, List.getElem?_map, List.getElem?_eq_getElem hlt, Option.map_some, O.len_list, List.length_map, h2, hc, E.enc, O.proj_agg, List.getElem?_cons_zero, O.ne_int]
      by_cases c : x.t = rest[i].t
      · have : pcut out at' rest[i] = out := by simp [pcut, hc, c]
        simp only [c, decide_true, Bool.not_true, Bool.false_eq_true, if_false]
        have m := mid out ho
        simp only [E.enc] at m
        rw [m, ploop, pstep, this]
        rw [pstep, this] at ih
        exact ih
      · have : pcut out at' rest[i] = out.take at' := by simp [pcut, hc, c]
        have m := mid (out.take at') (by simp; omega)
        simp only [E.enc, List.map_take] at m
        simp only [c, decide_false, Bool.not_false, if_true, O.slice_list, List.length_map, Int.le_refl, h3, and_self, Option.bind_some, Int.toNat_natCast, Int.toNat_zero, List.drop_zero]
        rw [m, ploop, pstep, this]
        rw [pstep, this] at ih
        exact ih

def mergeF : List E → Nat → List E → List E
  | out, _, [] => out
  | out, a, e :: es => match out[a]? with
    | some x => if x.t = e.t then mergeF out (a + 1) es else out.take a ++ e :: es
    | none => out.take a ++ e :: es
/-- Once the two part, what comes is appended while there is room. -/
theorem ploop_end : ∀ (es out : List E) (a : Nat), out.length ≤ 400 → (a = out.length ∨ (out.length = 400 ∧ 400 ≤ a)) → ploop out a es = (out ++ es).take 400
  | [], out, a, h, _ => by simp [ploop, List.take_of_length_le h]
  | e :: es, out, a, h, ha => by
    have hc : pcut out a e = out := by
      have : out[a]? = none := by rw [List.getElem?_eq_none]; omega
      simp [pcut, this]
    rw [ploop, pstep, hc]
    by_cases c : a = out.length ∧ a < 400
    · rw [if_pos c, ploop_end es (out ++ [e]) (a + 1) (by simp; omega) (by left; simp; omega)]
      simp
    · have h4 : out.length = 400 := by omega
      rw [if_neg c, ploop_end es out (a + 1) h (by right; omega)]
      rw [List.take_append_of_le_length (by omega), List.take_append_of_le_length (by omega)]
theorem ploop_merge : ∀ (es out : List E) (a : Nat), out.length ≤ 400 → a ≤ out.length → ploop out a es = (mergeF out a es).take 400
  | [], out, a, h, _ => by simp [ploop, mergeF, List.take_of_length_le h]
  | e :: es, out, a, h, ha => by
    rw [ploop, mergeF]
    cases hc : out[a]? with
    | none =>
      have hl : a = out.length := by have := List.getElem?_eq_none_iff.1 hc; omega
      have h0 := ploop_end (e :: es) out a h (.inl hl)
      rw [ploop] at h0
      rw [h0, hl, List.take_length]
    | some x =>
      have hlt := (List.getElem?_eq_some_iff.1 hc).1
      by_cases c : x.t = e.t
      · have : pcut out a e = out := by simp [pcut, hc, c]
        rw [pstep, this, if_neg (by omega)]
        simp only [c, if_true]
        exact ploop_merge es out (a + 1) h (by omega)
      · have : pcut out a e = out.take a := by simp [pcut, hc, c]
        have hlen : (out.take a).length = a := by rw [List.length_take]; omega
        rw [pstep, this, hlen, if_pos ⟨rfl, by omega⟩, ploop_end es _ _ (by simp; omega) (by left; simp; omega)]
        simp [c]
theorem ref_app_3 (prev b bt : Int) (e : List E) (skip at' : Nat) (out : List E) (y6 y7 L0 : IV) (he : e.length ≤ 1048576) (ho : out.length ≤ 400) (ha : at' ≤ out.length) :
    ∀ (n k : Nat), k + n = max e.length skip → skip ≤ k → at' + (k - skip) ≤ out.length → 
    W f_ref25_Append 3 [.int prev, .list (e.map E.enc), .int skip, .int at', .int k, L0, y6, y7, .list (out.map E.enc)] =
      W f_ref25_Append 4 [.int prev, .list (e.map E.enc), L0, y6, y7, .list ((mergeF out (at' + (k - skip)) (e.drop k)).map E.enc)]
  | n, k, hk, hs, hi => by
    rw [e_f_ref25_Append_3]
    by_cases hlt : k < e.length
    · have hlt' : (k : Int) < e.length := by omega
      have w1 : IntKind.i64.wrap ((at' : Int) + k) = at' + k := wrap64 (by omega) (by omega)
      have w2 : IntKind.i64.wrap ((at' : Int) + k - skip) = ((at' + (k - skip) : Nat) : Int) := by rw [wrap64 (by omega) (by omega)]; omega
      have w3 : IntKind.i64.wrap ((k : Int) + 1) = ((k + 1 : Nat) : Int) := by rw [wrap64 (by omega) (by omega)]; rfl
      simp only [O.len_list, List.length_map, Option.bind_some, O.lt_int, hlt', decide_true, O.cnd_bool, if_true, O.add_int, O.sub_int, w1, w2]
      have hm1 : mergeF out (at' + (k - skip)) (e.drop k) = mergeF out (at' + (k - skip)) (e[k] :: e.drop (k + 1)) := by rw [List.drop_eq_getElem_cons hlt]
      rw [hm1, mergeF]
      have hj' : at' + (k + 1 - skip) = at' + (k - skip) + 1 := by omega
      have h3 : (k : Int) ≤ e.length := by omega
      have hm : ((out.take (at' + (k - skip))).length + (e.length - k)) * 24 ≤ maxBytes := by unfold maxBytes; rw [List.length_take]; omega
      -- the two part here
      have part : ((O.slice (.list (out.map E.enc)) (.int 0) (.int ((at' + (k - skip) : Nat) : Int))).bind fun _ => (O.sliceLo (.list (e.map E.enc)) (.int k)).bind fun x17 => (O.slice (.list (out.map E.enc)) (.int 0) (.int ((at' + (k - skip) : Nat) : Int))).bind fun x18 => (O.append 24 x18 x17).bind fun x19 =>
          W f_ref25_Append 4 [.int prev, .list (e.map E.enc), L0, y6, y7, x19]) = W f_ref25_Append 4 [.int prev, .list (e.map E.enc), L0, y6, y7, .list ((out.take (at' + (k - skip)) ++ e[k] :: e.drop (k + 1)).map E.enc)] := by
        have h4 : (0 : Int) ≤ ((at' + (k - skip) : Nat) : Int) ∧ ((at' + (k - skip) : Nat) : Int) ≤ out.length := by omega
        have h5 : (0 : Int) ≤ k ∧ (k : Int) ≤ e.length := by omega
        rw [List.getElem_cons_drop]
        simp only [O.slice_list, O.sliceLo_list, List.length_map, Int.le_refl, h4, h5, and_self, if_true, Option.bind_some, Int.toNat_natCast, Int.toNat_zero, List.drop_zero, O.append_list, List.length_take, List.length_drop]
        simp only [List.length_take] at hm
        simp only [hm, if_true, Option.bind_some, List.map_append, List.map_take, List.map_drop]
      cases hc : out[at' + (k - skip)]? with
      | none =>
        have h2 : ¬ ((at' + (k - skip) : Nat) : Int) < out.length := by have := List.getElem?_eq_none_iff.1 hc; omega
        simp only [h2, decide_false, Bool.false_eq_true, if_false, Option.bind_some]
        exact part
      | some x =>
        have hlt2 := (List.getElem?_eq_some_iff.1 hc).1
        have h2 : ((at' + (k - skip) : Nat) : Int) < out.length := by omega
        simp only [h2, decide_true, if_true, O.index_list, Int.natCast_nonneg, Int.toNat_natCast, List.getElem?_map, hc, Option.map_some, Option.bind_some, E.enc, O.proj_agg, List.getElem?_cons_zero, List.getElem?_eq_getElem hlt, O.eq_int]
        by_cases c : x.t = e[k].t
        · simp only [c, decide_true, if_true, w3]
          have ih := ref_app_3 prev b bt e skip at' out y6 y7 L0 he ho ha (n - 1) (k + 1) (by omega) (by omega) (by omega)
          rw [hj'] at ih
          exact ih
        · simp only [c, decide_false, if_false]
          exact part
    · have hlt' : ¬ (k : Int) < e.length := by omega
      simp only [O.len_list, List.length_map, Option.bind_some, O.lt_int, hlt', decide_false, O.cnd_bool, Bool.false_eq_true, if_false, List.drop_of_length_le (Nat.le_of_not_lt hlt), mergeF]
  termination_by _n k => e.length - k

def okAll (bt : Int) (es : List E) : Bool := es.all fun x => decide (bt ≤ x.t)
def fits (l : L) (prev pt : Int) : Prop := l.b < prev → termAt l prev = some pt
instance (l : L) (prev pt : Int) : Decidable (fits l prev pt) := by unfold fits; infer_instance
/-- What Append gives. -/
structure Res where
  l : L
  n : Int
  ok : Bool
def appendF (l : L) (prev pt : Int) (e : List E) : Res :=
  if prev < 0 ∨ pt < 0 ∨ rises e (if 1 < pt then pt else 1) = false then ⟨l, 0, false⟩
  else if okAll l.bt (e.drop (l.b - prev).toNat) = false then ⟨l, 0, false⟩
  else if ¬ fits l prev pt then ⟨l, hint l prev pt, false⟩
  else ⟨⟨l.b, l.bt, (mergeF l.es (prev - l.b).toNat (e.drop (l.b - prev).toNat)).take 400⟩, min (prev + e.length) (l.b + 400), true⟩
theorem rises_all : ∀ (es : List E) (m m' : Int), rises es m = true → (rises es m' = true ↔ okAll m' es = true)
  | [], m, m', _ => by simp [rises, okAll]
  | e :: es, m, m', h => by
    unfold rises at h
    split at h
    · cases h
    · rename_i hc
      simp only [rises, okAll, List.all_cons]
      by_cases hm : m' ≤ e.t
      · rw [if_neg (by omega)]
        simp only [hm, decide_true, Bool.true_and, h, true_iff]
        -- all further terms are at least e's
        have mono : ∀ (es : List E) (k : Int), rises es k = true → ∀ x ∈ es, k ≤ x.t := by
          intro es
          induction es with
          | nil => intro k _ x hx; cases hx
          | cons a es ih =>
            intro k hk x hx
            unfold rises at hk
            split at hk
            · cases hk
            · rename_i hka
              rcases List.mem_cons.1 hx with rfl | hx
              · omega
              · have := ih a.t hk x hx; omega
        rw [List.all_eq_true]
        intro x hx
        have := mono es e.t h x hx
        simp; omega
      · rw [if_pos (by omega)]
        simp [hm]
theorem rises_drop : ∀ (k : Nat) (es : List E) (m : Int), rises es m = true → ∃ m', rises (es.drop k) m' = true
  | 0, es, m, h => ⟨m, by simpa using h⟩
  | k + 1, [], m, h => ⟨m, by simpa using h⟩
  | k + 1, e :: es, m, h => by
    unfold rises at h
    split at h
    · cases h
    · simpa using rises_drop k es e.t h
theorem ref_app_1 (prev pt b bt : Int) (e les : List E) (y5 y6 : IV) (he : e.length ≤ 1048576) (hb : 0 ≤ b ∧ b ≤ 1000000000000000) (hp : 0 ≤ prev ∧ prev ≤ 9223372036854775807) : ∀ (n k : Nat), k + n = e.length →
    W f_ref25_Append 1 [.int prev, .int pt, .list (e.map E.enc), .int k, .agg [.int b, .int bt, .list (les.map E.enc)], y5, y6] =
      if okAll bt (e.drop (max k (b - prev).toNat)) = true then W f_ref25_Append 1 [.int prev, .int pt, .list (e.map E.enc), .int e.length, .agg [.int b, .int bt, .list (les.map E.enc)], y5, y6]
      else some [.agg [.int b, .int bt, .list (les.map E.enc)], .int 0, .bool false]
  | 0, k, hk => by
    obtain rfl : k = e.length := by omega
    rw [List.drop_of_length_le (by omega)]
    simp [okAll]
  | n + 1, k, hk => by
    have hlt : k < e.length := by omega
    have hlt' : (k : Int) < e.length := by omega
    have ih := ref_app_1 prev pt b bt e les y5 y6 he hb hp n (k + 1) (by omega)
    have w1 : IntKind.i64.wrap (b - prev) = b - prev := wrap64 (by omega) (by omega)
    have w3 : IntKind.i64.wrap ((k : Int) + 1) = ((k + 1 : Nat) : Int) := by rw [wrap64 (by omega) (by omega)]; rfl
    conv => lhs; rw [e_f_ref25_Append_1]
    simp only [O.len_list, List.length_map, Option.bind_some, O.lt_int, hlt', decide_true, O.cnd_bool, if_true, O.proj_agg, List.getElem?_cons_zero, List.getElem?_cons_succ, O.sub_int, w1, O.ge_int, O.index_list, Int.natCast_nonneg, Int.toNat_natCast, List.getElem?_map, List.getElem?_eq_getElem hlt, Option.map_some, E.enc, O.add_int, w3]
    rw [ih]
    by_cases c : b - prev ≤ k
    · have hk1 : max k (b - prev).toNat = k := by omega
      have hk2 : max (k + 1) (b - prev).toNat = k + 1 := by omega
      rw [hk1, hk2, List.drop_eq_getElem_cons hlt]
      by_cases c2 : e[k].t < bt
      · have : ¬ bt ≤ e[k].t := by omega
        have h4 : okAll bt (e[k] :: e.drop (k + 1)) = false := by simp [okAll, this, -List.getElem_cons_drop]
        simp [c, c2, h4, -List.getElem_cons_drop]
      · have h3 : bt ≤ e[k].t := by omega
        have h4 : okAll bt (e[k] :: e.drop (k + 1)) = okAll bt (e.drop (k + 1)) := by simp [okAll, h3, -List.getElem_cons_drop]
        simp [c, c2, h4, -List.getElem_cons_drop]
    · have hk1 : max k (b - prev).toNat = (b - prev).toNat := by omega
      have hk2 : max (k + 1) (b - prev).toNat = (b - prev).toNat := by omega
      rw [hk1, hk2]
      simp [c]
theorem termAt_le {b bt : Int} {es : List E} {i t : Int} (h : termAt ⟨b, bt, es⟩ i = some t) : b ≤ i ∧ i ≤ b + es.length := by
  unfold termAt at h
  simp only at h
  split at h
  · omega
  · split at h
    · cases h
    · simp only [Option.map_eq_some_iff] at h
      obtain ⟨x, hx, _⟩ := h
      have := (List.getElem?_eq_some_iff.1 hx).1
      omega
theorem ref_app_2 (prev b bt : Int) (e les : List E) (y3 y4 : IV) (he : e.length ≤ 1048576) (hb : 0 ≤ b ∧ b ≤ 1000000000000000) (hp : 0 ≤ prev ∧ prev ≤ b + les.length) (hl : les.length ≤ 400) :
    W f_ref25_Append 2 [.int prev, .list (e.map E.enc), .agg [.int b, .int bt, .list (les.map E.enc)], y3, y4] =
      some [.agg [.int b, .int bt, .list (((mergeF les (prev - b).toNat (e.drop (b - prev).toNat)).take 400).map E.enc)], .int (min (prev + e.length) (b + 400)), .bool true] := by
  rw [e_f_ref25_Append_2]
  have w1 : IntKind.i64.wrap (b - prev) = b - prev := wrap64 (by omega) (by omega)
  have w2 : IntKind.i64.wrap (prev - b) = prev - b := wrap64 (by omega) (by omega)
  have e1 : (if 0 < b - prev then b - prev else 0) = (((b - prev).toNat : Nat) : Int) := by split <;> omega
  have e2 : (if 0 < prev - b then prev - b else 0) = (((prev - b).toNat : Nat) : Int) := by split <;> omega
  have hm : (0 + les.length) * 24 ≤ maxBytes := by unfold maxBytes; omega
  simp only [O.proj_agg, List.getElem?_cons_zero, List.getElem?_cons_succ, Option.bind_some, O.sub_int, w1, w2, O.max_int, e1, e2, O.append_list, List.length_map, List.length_nil, hm, if_true, List.nil_append]
  have ha : (prev - b).toNat ≤ les.length := by omega
  rw [ref_app_3 prev b bt e (b - prev).toNat (prev - b).toNat les y3 y4 _ he hl ha (max e.length (b - prev).toNat - (b - prev).toNat) (b - prev).toNat (by omega) (Nat.le_refl _) (by omega)]
  rw [Nat.sub_self, Nat.add_zero]
  generalize mergeF les (prev - b).toNat (e.drop (b - prev).toNat) = out
  have w3 : IntKind.i64.wrap (b + 400) = b + 400 := wrap64 (by omega) (by omega)
  have w4 : IntKind.i64.wrap (b + 400 - e.length) = b + 400 - e.length := wrap64 (by omega) (by omega)
  have w5 : IntKind.i64.wrap (prev + e.length) = prev + e.length := wrap64 (by omega) (by omega)
  -- the last part
  have fin : ∀ o : List E, W f_ref25_Append 5 [.int prev, .list (e.map E.enc), .agg [.int b, .int bt, .list (les.map E.enc)], y3, y4, .list (o.map E.enc)] = some [.agg [.int b, .int bt, .list (o.map E.enc)], .int (min (prev + e.length) (b + 400)), .bool true] := by
    intro o
    rw [e_f_ref25_Append_5]
    by_cases c : prev ≤ b + 400 - e.length
    · have : min (prev + (e.length : Int)) (b + 400) = prev + e.length := by omega
      simp [w3, w4, w5, c, e_f_ref25_Append_6, this]
    · have : min (prev + (e.length : Int)) (b + 400) = b + 400 := by omega
      simp [w3, w4, c, e_f_ref25_Append_6, this]
  rw [e_f_ref25_Append_4]
  by_cases c : 400 < out.length
  · have c' : (400 : Int) < out.length := by omega
    have c2 : (400 : Int) ≤ out.length := by omega
    have := fin (out.take 400)
    simp only [List.map_take] at this
    simp [c', c2, this]
  · have c' : ¬ (400 : Int) < out.length := by omega
    simp only [O.len_list, List.length_map, Option.bind_some, O.gt_int, c', decide_false, O.cnd_bool, Bool.false_eq_true, if_false]
    rw [fin, List.take_of_length_le (by omega)]
theorem ref_append (b bt : Int) (les : List E) (prev pt : Int) (e : List E) (hv : fine ⟨b, bt, les⟩) (hp : I64 prev) (he : e.length ≤ 1048576) :
    W f_ref25_Append 0 [.agg [.int b, .int bt, .list (les.map E.enc)], .int prev, .int pt, .list (e.map E.enc)] =
      some [L.enc (appendF ⟨b, bt, les⟩ prev pt e).l, .int (appendF ⟨b, bt, les⟩ prev pt e).n, .bool (appendF ⟨b, bt, les⟩ prev pt e).ok] := by
  obtain ⟨h1, h2, h3, h4, h5, h6⟩ := hv
  simp only at h1 h2 h3 h4 h5 h6
  obtain ⟨hp1, hp2⟩ := hp
  rw [e_f_ref25_Append_0]
  simp [ref_rises e (by omega)]
  by_cases c0 : prev < 0 ∨ pt < 0 ∨ rises e (if 1 < pt then pt else 1) = false
  · have : (prev < 0 ∨ pt < 0) ∨ rises e (if 1 < pt then pt else 1) = false := by rcases c0 with h | h | h <;> simp [h]
    simp [this, appendF, c0]
  · have c0' : ¬ ((prev < 0 ∨ pt < 0) ∨ rises e (if 1 < pt then pt else 1) = false) := fun h => c0 (by rcases h with (h | h) | h <;> simp [h])
    have hp0 : 0 ≤ prev := by omega
    rw [if_neg c0', appendF, if_neg c0]
    have l1 := ref_app_1 prev pt b bt e les (.int 0) (.int 0) he ⟨h1, h2⟩ ⟨hp0, hp2⟩ e.length 0 (by omega)
    rw [show max 0 (b - prev).toNat = (b - prev).toNat by omega] at l1
    simp only [Int.cast_ofNat_Int] at l1
    rw [l1]
    by_cases c1 : okAll bt (e.drop (b - prev).toNat) = true
    · simp only [c1, if_true, Bool.true_eq_false, if_false]
      rw [e_f_ref25_Append_1]
      have hnl : ¬ (e.length : Int) < e.length := by omega
      simp only [O.len_list, List.length_map, Option.bind_some, O.lt_int, hnl, decide_false, O.cnd_bool, Bool.false_eq_true, if_false, O.proj_agg, List.getElem?_cons_zero, O.gt_int]
      have ht : tame ⟨b, bt, les⟩ := ⟨h1, h2, by simp only; omega⟩
      by_cases c2 : b < prev
      · simp only [c2, decide_true, if_true, ref_termAt b bt les prev ht]
        by_cases c3 : termAt ⟨b, bt, les⟩ prev = some pt
        · have hf : fits ⟨b, bt, les⟩ prev pt := fun _ => c3
          have := termAt_le c3
          simp only [c3, optI, O.calls_2, O.not_bool, Option.bind_some, Bool.not_true, O.cnd_bool, Bool.false_eq_true, if_false, O.ne_int, decide_true, hf, not_true]
          exact ref_app_2 prev b bt e les _ _ he ⟨h1, h2⟩ ⟨hp0, this.2⟩ h6
        · have hf : ¬ fits ⟨b, bt, les⟩ prev pt := fun h => c3 (h c2)
          have hh := ref_hint b bt les prev pt ht hp0 ⟨hp1, hp2⟩
          simp only [hf, not_false_iff, if_true]
          cases hq : termAt ⟨b, bt, les⟩ prev with
          | none => simp [optI, hh]
          | some q =>
            have : ¬ q = pt := fun e => c3 (by rw [hq, e])
            simp [optI, this, hh]
      · have hf : fits ⟨b, bt, les⟩ prev pt := fun h => absurd h c2
        simp only [c2, decide_false, Bool.false_eq_true, if_false, hf, not_true]
        exact ref_app_2 prev b bt e les _ _ he ⟨h1, h2⟩ ⟨hp0, by omega⟩ h6
    · have c1' : okAll bt (e.drop (b - prev).toNat) = false := by simpa using c1
      simp [c1']
theorem prg_append (b bt : Int) (les : List E) (prev pt : Int) (e : List E) (hv : fine ⟨b, bt, les⟩) (hp : I64 prev) (he : e.length ≤ 1048576) :
    W f_rlog_Append 0 [.agg [.int b, .int bt, .list (les.map E.enc)], .int prev, .int pt, .list (e.map E.enc)] =
      some [.int (appendF ⟨b, bt, les⟩ prev pt e).l.b, .int (appendF ⟨b, bt, les⟩ prev pt e).l.bt, .list ((appendF ⟨b, bt, les⟩ prev pt e).l.es.map E.enc), .int (appendF ⟨b, bt, les⟩ prev pt e).n, .bool (appendF ⟨b, bt, les⟩ prev pt e).ok] := by
  obtain ⟨h1, h2, h3, h4, h5, h6⟩ := hv
  simp only at h1 h2 h3 h4 h5 h6
  obtain ⟨hp1, hp2⟩ := hp
  have hcl := clone b bt les (by omega)
  rw [e_f_rlog_Append_0]
  simp [prg_rises e (by omega)]
  by_cases c0 : prev < 0 ∨ pt < 0 ∨ rises e (if 1 < pt then pt else 1) = false
  · have : (prev < 0 ∨ pt < 0) ∨ rises e (if 1 < pt then pt else 1) = false := by rcases c0 with h | h | h <;> simp [h]
    simp [this, appendF, c0, hcl]
  · have c0' : ¬ ((prev < 0 ∨ pt < 0) ∨ rises e (if 1 < pt then pt else 1) = false) := fun h => c0 (by rcases h with (h | h) | h <;> simp [h])
    have hr : rises e (if 1 < pt then pt else 1) = true := by
      cases hh : rises e (if 1 < pt then pt else 1) with
      | true => rfl
      | false => exact absurd (.inr (.inr hh)) c0
    have hp0 : 0 ≤ prev := by omega
    rw [if_neg c0', appendF, if_neg c0]
    have w1 : IntKind.i64.wrap (b - e.length) = b - e.length := wrap64 (by omega) (by omega)
    have w2 : IntKind.i64.wrap (b - prev) = b - prev := wrap64 (by omega) (by omega)
    have e1 : (if 0 < b - prev then b - prev else 0) = (((b - prev).toNat : Nat) : Int) := by split <;> omega
    -- both ways come to the second part
    have both : (if b - (e.length : Int) < prev then W f_rlog_Append 1 [.int prev, .int pt, .list (e.map E.enc), .int (((b - prev).toNat : Nat) : Int), .agg [.int b, .int bt, .list (les.map E.enc)], .int 0, .int 0]
        else W f_rlog_Append 1 [.int prev, .int pt, .list (e.map E.enc), .int e.length, .agg [.int b, .int bt, .list (les.map E.enc)], .int 0, .int 0]) =
        W f_rlog_Append 1 [.int prev, .int pt, .list (e.map E.enc), .int ((min (b - prev).toNat e.length : Nat) : Int), .agg [.int b, .int bt, .list (les.map E.enc)], .int 0, .int 0] := by
      split
      · have : min (b - prev).toNat e.length = (b - prev).toNat := by omega
        rw [this]
      · have : min (b - prev).toNat e.length = e.length := by omega
        rw [this]
    have hd : e.drop (min (b - prev).toNat e.length) = e.drop (b - prev).toNat := by
      by_cases c : (b - prev).toNat ≤ e.length
      · rw [Nat.min_eq_left c]
      · rw [Nat.min_eq_right (by omega), List.drop_of_length_le (Nat.le_refl _), List.drop_of_length_le (by omega)]
    simp only [w1, w2, e1]
    rw [both, e_f_rlog_Append_1]
    have h7 : (0 : Int) ≤ ((min (b - prev).toNat e.length : Nat) : Int) ∧ ((min (b - prev).toNat e.length : Nat) : Int) ≤ e.length := by omega
    have hmap : (e.map E.enc).drop (min (b - prev).toNat e.length) = (e.drop (b - prev).toNat).map E.enc := by rw [← List.map_drop, hd]
    have hri := prg_rises (e.drop (b - prev).toNat) (by rw [List.length_drop]; omega) bt
    obtain ⟨m', hm'⟩ := rises_drop (b - prev).toNat e _ hr
    have heq := rises_all (e.drop (b - prev).toNat) m' bt hm'
    simp only [O.sliceLo_list, List.length_map, h7, and_self, if_true, Option.bind_some, Int.toNat_natCast, hmap, O.proj_agg, List.getElem?_cons_zero, List.getElem?_cons_succ, hri, O.calls_1, O.not_bool, O.cnd_bool]
    by_cases c1 : okAll bt (e.drop (b - prev).toNat) = true
    · have c1' := heq.2 c1
      simp only [c1, c1', Bool.not_true, Bool.false_eq_true, if_false, Bool.true_eq_false]
      have ht : tame ⟨b, bt, les⟩ := ⟨h1, h2, by simp only; omega⟩
      have hh := prg_hint b bt les prev pt ht hp0 ⟨hp1, hp2⟩
      -- the merge
      have fin : prev ≤ b + les.length → (calls (W f_rlog_clone 0 [.agg [.int b, .int bt, .list (les.map E.enc)]]) 3 fun x16 x17 x18 => (O.sub .i64 (.int prev) (.int b)).bind fun x19 => (O.max (.int 0) x19).bind fun x20 => (O.len (.list ((e.drop (b - prev).toNat).map E.enc))).bind fun x22 =>
          W f_rlog_Append 2 [.int prev, .list (e.map E.enc), x20, .list ((e.drop (b - prev).toNat).map E.enc), x22, .int 0, .agg [.int b, .int bt, .list (les.map E.enc)], .int 0, .int 0, x16, x17, x18]) =
          some [.int b, .int bt, .list (((mergeF les (prev - b).toNat (e.drop (b - prev).toNat)).take 400).map E.enc), .int (min (prev + e.length) (b + 400)), .bool true] := by
        intro hle
        have w3 : IntKind.i64.wrap (prev - b) = prev - b := wrap64 (by omega) (by omega)
        have e2 : (if 0 < prev - b then prev - b else 0) = (((prev - b).toNat : Nat) : Int) := by split <;> omega
        have := prg_app_2 prev b bt e (e.drop (b - prev).toNat) les (.int 0) (.int 0) (.int b) (.int bt) (by rw [List.length_drop]; omega) he ⟨h1, h2⟩ ⟨hp0, by omega⟩ (e.drop (b - prev).toNat).length 0 (prev - b).toNat les (by omega) (by rw [List.length_drop]; omega) h6
        rw [ploop_merge _ _ _ h6 (by omega)] at this
        simp only [hcl, O.calls_3, O.sub_int, w3, O.max_int, e2, Option.bind_some, O.len_list, List.length_map]
        exact this
      simp only [prg_termAt b bt les prev ht, O.gt_int]
      by_cases c2 : b < prev
      · by_cases c3 : termAt ⟨b, bt, les⟩ prev = some pt
        · have hf : fits ⟨b, bt, les⟩ prev pt := fun _ => c3
          have := termAt_le c3
          simp only [c3, optI, O.calls_2, Option.bind_some, c2, decide_true, O.cnd_bool, if_true, O.not_bool, Bool.not_true, Bool.false_eq_true, if_false, O.ne_int, hf, not_true]
          exact fin this.2
        · have hf : ¬ fits ⟨b, bt, les⟩ prev pt := fun h => c3 (h c2)
          simp only [hf, not_false_iff, if_true]
          cases hq : termAt ⟨b, bt, les⟩ prev with
          | none => simp [optI, hh, c2, hcl]
          | some q =>
            have : ¬ q = pt := fun e => c3 (by rw [hq, e])
            simp [optI, this, hh, c2, hcl]
      · have hf : fits ⟨b, bt, les⟩ prev pt := fun h => absurd h c2
        simp only [optI_getD, O.calls_2, Option.bind_some, c2, decide_false, O.cnd_bool, Bool.false_eq_true, if_false, hf, not_true]
        exact fin (by omega)
    · have c1' : okAll bt (e.drop (b - prev).toNat) = false := by simpa using c1
      have c2 : rises (e.drop (b - prev).toNat) bt = false := by
        cases hh : rises (e.drop (b - prev).toNat) bt with
        | false => rfl
        | true => exact absurd (heq.1 hh) c1
      simp [c1', c2, hcl]

/-! ### the result is valid -/
def endT : List E → Int → Int
  | [], m => m
  | e :: es, _ => endT es e.t
theorem rises_append : ∀ (xs ys : List E) (m : Int), rises (xs ++ ys) m = (rises xs m && rises ys (endT xs m))
  | [], ys, m => by simp [rises, endT]
  | x :: xs, ys, m => by
    simp only [List.cons_append, rises, endT]
    split
    · rfl
    · exact rises_append xs ys x.t
theorem endT_snoc : ∀ (xs : List E) (e : E) (m : Int), endT (xs ++ [e]) m = e.t
  | [], e, m => rfl
  | x :: xs, e, m => by simp only [List.cons_append, endT]; exact endT_snoc xs e x.t
theorem rises_take (k : Nat) (xs : List E) (m : Int) (h : rises xs m = true) : rises (xs.take k) m = true := by
  have := List.take_append_drop k xs
  rw [← this, rises_append, Bool.and_eq_true] at h
  exact h.1
theorem rises_more {m m' : Int} : ∀ {xs : List E}, rises xs m = true → m' ≤ m → rises xs m' = true
  | [], _, _ => rfl
  | e :: es, h, hm => by
    unfold rises at h ⊢
    split at h
    · cases h
    · rw [if_neg (by omega)]; exact h
theorem rises_merge (m : Int) : ∀ (es out : List E) (a : Nat), a ≤ out.length → rises out m = true → rises es (endT (out.take a) m) = true → rises (mergeF out a es) m = true
  | [], out, a, _, h, _ => h
  | e :: es, out, a, ha, h, he => by
    have ht := rises_take a out m h
    have hap : rises (out.take a ++ e :: es) m = true := by rw [rises_append, ht, he]; rfl
    unfold mergeF
    cases hc : out[a]? with
    | none => exact hap
    | some x =>
      have hlt := (List.getElem?_eq_some_iff.1 hc).1
      by_cases c : x.t = e.t
      · simp only [c, if_true]
        refine rises_merge m es out (a + 1) (by omega) h ?_
        have : out.take (a + 1) = out.take a ++ [x] := by
          rw [List.take_add_one, hc]; rfl
        rw [this, endT_snoc, c]
        unfold rises at he
        split at he
        · cases he
        · exact he
      · simp only [c, if_false]
        exact hap
theorem endT_get : ∀ (xs : List E) (m : Int) (x : E), xs[xs.length - 1]? = some x → endT xs m = x.t
  | [], m, x, h => by simp at h
  | [y], m, x, h => by simp at h; simp [endT, h]
  | y :: z :: xs, m, x, h => by
    simp only [endT]
    have := endT_get (z :: xs) y.t x (by simpa using h)
    simpa [endT] using this
theorem append_valid (l : L) (prev pt : Int) (e : List E) (hv : valid l = true) : valid (appendF l prev pt e).l = true := by
  unfold appendF
  by_cases c0 : prev < 0 ∨ pt < 0 ∨ rises e (if 1 < pt then pt else 1) = false
  · rw [if_pos c0]; exact hv
  rw [if_neg c0]
  by_cases c1 : okAll l.bt (e.drop (l.b - prev).toNat) = false
  · rw [if_pos c1]; exact hv
  rw [if_neg c1]
  by_cases c2 : ¬ fits l prev pt
  · rw [if_pos c2]; exact hv
  rw [if_neg c2]
  obtain ⟨hf, hr⟩ := valid_inv hv
  obtain ⟨h1, h2, h3, h4, h5, h6⟩ := hf
  have c1 : okAll l.bt (e.drop (l.b - prev).toNat) = true := by simpa using c1
  have c2 : fits l prev pt := by simpa using c2
  have hre : rises e (if 1 < pt then pt else 1) = true := by
    cases hh : rises e (if 1 < pt then pt else 1) with
    | true => rfl
    | false => exact absurd (.inr (.inr hh)) c0
  have hp0 : 0 ≤ prev ∧ 0 ≤ pt := by omega
  unfold valid
  rw [Bool.and_eq_true, decide_eq_true_iff]
  refine ⟨⟨h1, h2, h3, h4, h5, by simp; omega⟩, rises_take _ _ _ ?_⟩
  by_cases c : l.b < prev
  · have ht := c2 c
    have hle := termAt_le (b := l.b) (bt := l.bt) (es := l.es) ht
    have hz : (l.b - prev).toNat = 0 := by omega
    rw [hz, List.drop_zero]
    refine rises_merge _ _ _ _ (by omega) hr ?_
    -- the last one that stays has the term pt
    have : endT (l.es.take (prev - l.b).toNat) (if 1 < l.bt then l.bt else 1) = pt := by
      unfold termAt at ht
      rw [if_neg (by omega), if_neg (by omega), Option.map_eq_some_iff] at ht
      obtain ⟨x, hx, rfl⟩ := ht
      refine endT_get _ _ x ?_
      rw [List.length_take, Nat.min_eq_left (by omega), List.getElem?_take, if_pos (by omega)]
      exact hx
    rw [this]
    exact rises_more hre (by split <;> omega)
  · have hz : (prev - l.b).toNat = 0 := by omega
    rw [hz]
    refine rises_merge _ _ _ _ (Nat.zero_le _) hr ?_
    rw [List.take_zero]
    simp only [endT]
    obtain ⟨m', hm'⟩ := rises_drop (l.b - prev).toNat e _ hre
    have hall : ∀ x ∈ e, 1 ≤ x.t := by
      have := (rises_all e _ 1 hre).1 (rises_more hre (by split <;> omega))
      intro x hx
      simpa using List.all_eq_true.1 this x hx
    refine (rises_all _ m' _ hm').2 ?_
    unfold okAll at c1 ⊢
    rw [List.all_eq_true] at c1 ⊢
    intro x hx
    have a1 := c1 x hx
    have a2 := hall x (List.mem_of_mem_drop hx)
    simp only [decide_eq_true_eq] at a1 ⊢
    split <;> omega
theorem append_len (l : L) (prev pt : Int) (e : List E) (h : l.es.length ≤ 400) : (appendF l prev pt e).l.es.length ≤ 400 := by
  unfold appendF
  by_cases c0 : prev < 0 ∨ pt < 0 ∨ rises e (if 1 < pt then pt else 1) = false
  · rw [if_pos c0]; exact h
  rw [if_neg c0]
  by_cases c1 : okAll l.bt (e.drop (l.b - prev).toNat) = false
  · rw [if_pos c1]; exact h
  rw [if_neg c1]
  by_cases c2 : ¬ fits l prev pt
  · rw [if_pos c2]; exact h
  rw [if_neg c2]
  simp; omega

theorem hintF_bd (l : L) (t : Int) : ∀ k : Nat, l.b ≤ hintF l t k ∧ hintF l t k ≤ l.b + k
  | 0 => by simp [hintF]
  | k + 1 => by
    unfold hintF
    have := hintF_bd l t k
    split <;> omega
/-- The entries of the merged log. -/
theorem merge_get : ∀ (es out : List E) (a : Nat), a ≤ out.length → (∀ j, j < es.length → ∃ x e, (mergeF out a es)[a + j]? = some x ∧ es[j]? = some e ∧ x.t = e.t) ∧ (mergeF out a es).take a = out.take a
  | [], out, a, ha => ⟨fun j hj => by simp at hj, rfl⟩
  | e :: es, out, a, ha => by
    have app : (∀ j, j < (e :: es).length → ∃ x y, (out.take a ++ e :: es)[a + j]? = some x ∧ (e :: es)[j]? = some y ∧ x.t = y.t) ∧ (out.take a ++ e :: es).take a = out.take a := by
      have hl : (out.take a).length = a := by rw [List.length_take]; omega
      refine ⟨fun j hj => ⟨(e :: es)[j], (e :: es)[j], ?_, List.getElem?_eq_getElem hj, rfl⟩, ?_⟩
      · rw [List.getElem?_append_right (by omega), hl, Nat.add_sub_cancel_left]
        exact List.getElem?_eq_getElem hj
      · rw [List.take_append_of_le_length (by omega), List.take_of_length_le (by omega)]
    unfold mergeF
    cases hc : out[a]? with
    | none => exact app
    | some x =>
      have hlt := (List.getElem?_eq_some_iff.1 hc).1
      by_cases c : x.t = e.t
      · simp only [c, if_true]
        obtain ⟨i1, i2⟩ := merge_get es out (a + 1) (by omega)
        have h0 : (mergeF out (a + 1) es)[a]? = some x := by
          have : (mergeF out (a + 1) es)[a]? = ((mergeF out (a + 1) es).take (a + 1))[a]? := by rw [List.getElem?_take, if_pos (by omega)]
          rw [this, i2, List.getElem?_take, if_pos (by omega), hc]
        refine ⟨fun j hj => ?_, ?_⟩
        · cases j with
          | zero => exact ⟨x, e, h0, rfl, c⟩
          | succ j =>
            obtain ⟨y, z, h1, h2, h3⟩ := i1 j (by simpa using hj)
            exact ⟨y, z, by rw [← h1]; congr 1; omega, by simpa using h2, h3⟩
        · have := congrArg (List.take a) i2
          rwa [List.take_take, List.take_take, Nat.min_eq_left (by omega)] at this
      · simp only [c, if_false]
        exact app
end Go.CT.Memb
