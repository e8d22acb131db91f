import Derived.Test.YtcamikkadiiobaaRlogT
import Derived.Test.YtcamikkadiiobaaCtC
namespace Go.CT.Rlog
open Go.Proofs

structure E where
  t : Int
  d : ByteArray
  deriving DecidableEq
@[simp] def E.enc (e : E) : IV := .agg [.int e.t, .str e.d]
structure L where
  b : Int
  bt : Int
  es : List E
@[simp] def L.enc (l : L) : IV := .agg [.int l.b, .int l.bt, .list (l.es.map E.enc)]
def L.small (l : L) : Prop := l.es.length ≤ 1048576

theorem lives : W f_law25_lives 0 [] = some [.bool true] := V_run 100 (by kernel_rfl)

theorem new : W f_rlog_New 0 [] = some [.int 0, .int 0, .list []] := e_f_rlog_New_0

def rises : List E → Int → Bool
  | [], _ => true
  | e :: es, least => if e.t < least ∨ e.t > 1000000000000000 then false else rises es e.t

theorem next {n i : Nat} (h : i + n ≤ 4194304) : IntKind.i64.wrap ((i : Int) + 1) = ((i + 1 : Nat) : Int) := by rw [wrap64 (by omega) (by omega)]; rfl

theorem ref_rises_1 (xs : List E) (hx : xs.length ≤ 4194304) : ∀ (n i : Nat) (least : Int), i + n = xs.length →
    W f_ref25_rises 1 [.list (xs.map E.enc), .int least, .int i] = some [.bool (rises (xs.drop i) least)]
  | 0, i, least, h => by
    rw [e_f_ref25_rises_1]
    have : ¬ i < xs.length := by omega
    simp [this, List.drop_of_length_le (Nat.le_of_not_lt this), rises]
  | n + 1, i, least, h => by
    have hi : i < xs.length := by omega
    have ih := ref_rises_1 xs hx n (i + 1) xs[i].t (by omega)
    have hw := next (n := n) (i := i) (by omega)
    rw [e_f_ref25_rises_1, List.drop_eq_getElem_cons hi]
    simp [rises, hw, hi]
    by_cases h1 : xs[i].t < least <;> by_cases h2 : 1000000000000000 < xs[i].t <;> simp [h1, h2]
    exact ih
theorem ref_rises (xs : List E) (hx : xs.length ≤ 4194304) (least : Int) : W f_ref25_rises 0 [.list (xs.map E.enc), .int least] = some [.bool (rises xs least)] := by
  rw [e_f_ref25_rises_0]
  exact ref_rises_1 xs hx xs.length 0 least (by omega)
theorem rises_1 (xs : List E) (hx : xs.length ≤ 4194304) : ∀ (n i : Nat) (least : Int), i + n = xs.length →
    W f_rlog_rises 1 [.int least, .list (xs.map E.enc), .int xs.length, .int i] = some [.bool (rises (xs.drop i) least)]
  | 0, i, least, h => by
    rw [e_f_rlog_rises_1]
    have : ¬ i < xs.length := by omega
    simp [this, List.drop_of_length_le (Nat.le_of_not_lt this), rises]
  | n + 1, i, least, h => by
    have hi : i < xs.length := by omega
    have ih := rises_1 xs hx n (i + 1) xs[i].t (by omega)
    have hw := next (n := n) (i := i) (by omega)
    rw [e_f_rlog_rises_1, List.drop_eq_getElem_cons hi]
    simp [rises, hw, hi]
    by_cases h1 : xs[i].t < least <;> by_cases h2 : 1000000000000000 < xs[i].t <;> simp [h1, h2]
    exact ih
theorem prg_rises (xs : List E) (hx : xs.length ≤ 4194304) (least : Int) : W f_rlog_rises 0 [.list (xs.map E.enc), .int least] = some [.bool (rises xs least)] := by
  rw [e_f_rlog_rises_0]
  have := rises_1 xs hx xs.length 0 least (by omega)
  simpa using this

def fine (l : L) : Prop := 0 ≤ l.b ∧ l.b ≤ 1000000000000000 ∧ 0 ≤ l.bt ∧ l.bt ≤ 1000000000000000 ∧ (l.b = 0 ↔ l.bt = 0) ∧ l.es.length ≤ 400
instance (l : L) : Decidable (fine l) := by unfold fine; infer_instance
def valid (l : L) : Bool := decide (fine l) && rises l.es (if 1 < l.bt then l.bt else 1)

theorem ref_valid (b bt : Int) (es : List E) (h : es.length ≤ 4194304) : W f_ref25_Valid 0 [.agg [.int b, .int bt, .list (es.map E.enc)]] = some [.bool (valid ⟨b, bt, es⟩)] := by
  rw [e_f_ref25_Valid_0]
  simp [ref_rises es h]
  split
  · have : ¬ fine ⟨b, bt, es⟩ := by unfold fine; simp only; omega
    simp [valid, this]
  · have : fine ⟨b, bt, es⟩ := by unfold fine; simp only; omega
    simp [valid, this]
theorem prg_valid (b bt : Int) (es : List E) (h : es.length ≤ 4194304) : W f_rlog_Valid 0 [.agg [.int b, .int bt, .list (es.map E.enc)]] = some [.bool (valid ⟨b, bt, es⟩)] := by
  rw [e_f_rlog_Valid_0]
  simp [prg_rises es h]
  split
  · have : ¬ fine ⟨b, bt, es⟩ := by unfold fine; simp only; omega
    simp [valid, this]
  · by_cases hl : es.length ≤ 400
    · have : fine ⟨b, bt, es⟩ := by unfold fine; simp only; omega
      have hl' : (es.length : Int) ≤ 400 := by omega
      simp [valid, this, hl']
    · have : ¬ fine ⟨b, bt, es⟩ := by unfold fine; simp only; omega
      have hl' : ¬ (es.length : Int) ≤ 400 := by omega
      simp [valid, this, hl']

def lastI (l : L) : Int := l.b + l.es.length
def lastT (l : L) : Int := match l.es.getLast? with | some e => e.t | none => l.bt
/-- A log whose numbers are small. -/
def tame (l : L) : Prop := 0 ≤ l.b ∧ l.b ≤ 1000000000000000 ∧ l.es.length ≤ 4194304

theorem prg_last (b bt : Int) (es : List E) (h : tame ⟨b, bt, es⟩) : W f_rlog_Last 0 [.agg [.int b, .int bt, .list (es.map E.enc)]] = some [.int (lastI ⟨b, bt, es⟩), .int (lastT ⟨b, bt, es⟩)] := by
  obtain ⟨h1, h2, h3⟩ := h
  simp only at h1 h2 h3
  rw [e_f_rlog_Last_0]
  rcases es.eq_nil_or_concat with rfl | ⟨es, e, rfl⟩
  · simp [lastI, lastT]
  · simp at h3
    have w1 : IntKind.i64.wrap (b + ((es.length : Int) + 1)) = b + (es.length + 1) := wrap64 (by omega) (by omega)
    have w2 : IntKind.i64.wrap (es.length : Int) = es.length := wrap64 (by omega) (by omega)
    have h4 : (0 : Int) < es.length + 1 := by omega
    simp [lastI, lastT, w1, w2, h4]
theorem ref_last (b bt : Int) (es : List E) (h : tame ⟨b, bt, es⟩) : W f_ref25_Last 0 [.agg [.int b, .int bt, .list (es.map E.enc)]] = some [.int (lastI ⟨b, bt, es⟩), .int (lastT ⟨b, bt, es⟩)] := by
  obtain ⟨h1, h2, h3⟩ := h
  simp only at h1 h2 h3
  rw [e_f_ref25_Last_0]
  rcases es.eq_nil_or_concat with rfl | ⟨es, e, rfl⟩
  · simp [lastI, lastT]
  · simp at h3
    have w1 : IntKind.i64.wrap (b + ((es.length : Int) + 1)) = b + (es.length + 1) := wrap64 (by omega) (by omega)
    have w2 : IntKind.i64.wrap (es.length : Int) = es.length := wrap64 (by omega) (by omega)
    have h4 : ¬ ((es.length : Int) + 1 = 0) := by omega
    simp [lastI, lastT, w1, w2, h4]

/-- The term at an index. -/
def termAt (l : L) (i : Int) : Option Int := if i = l.b then some l.bt else if i < l.b then none else (l.es[(i - l.b).toNat - 1]?).map E.t
def optI (o : Option Int) : List IV := match o with | some t => [.int t, .bool true] | none => [.int 0, .bool false]

theorem prg_termAt (b bt : Int) (es : List E) (i : Int) (h : tame ⟨b, bt, es⟩) : W f_rlog_TermAt 0 [.agg [.int b, .int bt, .list (es.map E.enc)], .int i] = some (optI (termAt ⟨b, bt, es⟩ i)) := by
  have h0 := prg_last b bt es h
  obtain ⟨h1, h2, h3⟩ := h
  simp only at h1 h2 h3
  rw [e_f_rlog_TermAt_0]
  simp [h0, lastI, termAt]
  by_cases c1 : i < b
  · have : ¬ i = b := by omega
    simp [c1, this, optI]
  · by_cases c2 : i = b
    · subst c2
      have : i ≤ i + (es.length : Int) := by omega
      simp [optI, this]
    · by_cases c3 : b + es.length < i
      · have : es.length ≤ (i - b).toNat - 1 := by omega
        simp [c1, c2, c3, this, optI]
      · have hlt : (i - b).toNat - 1 < es.length := by omega
        have w1 : IntKind.i64.wrap (i - b) = i - b := wrap64 (by omega) (by omega)
        have w2 : IntKind.i64.wrap (i - b - 1) = i - b - 1 := wrap64 (by omega) (by omega)
        have h4 : 1 ≤ i - b := by omega
        simp [c1, c2, c3, w1, w2, h4, hlt, optI]
theorem ref_termAt (b bt : Int) (es : List E) (i : Int) (h : tame ⟨b, bt, es⟩) : W f_ref25_TermAt 0 [.agg [.int b, .int bt, .list (es.map E.enc)], .int i] = some (optI (termAt ⟨b, bt, es⟩ i)) := by
  obtain ⟨h1, h2, h3⟩ := h
  simp only at h1 h2 h3
  rw [e_f_ref25_TermAt_0]
  have w0 : IntKind.i64.wrap (b + es.length) = b + es.length := wrap64 (by omega) (by omega)
  simp [termAt, w0]
  by_cases c2 : i = b
  · subst c2
    simp [optI]
  · by_cases c1 : i < b
    · simp [c1, c2, optI]
    · by_cases c3 : b + es.length < i
      · have : es.length ≤ (i - b).toNat - 1 := by omega
        simp [c1, c2, c3, this, optI]
      · have hlt : (i - b).toNat - 1 < es.length := by omega
        have w1 : IntKind.i64.wrap (i - b) = i - b := wrap64 (by omega) (by omega)
        have w2 : IntKind.i64.wrap (i - b - 1) = i - b - 1 := wrap64 (by omega) (by omega)
        have h4 : 1 ≤ i - b := by omega
        simp [c1, c2, c3, w1, w2, h4, hlt, optI]

theorem prg_newer (a b c d : Int) : W f_rlog_Newer 0 [.int a, .int b, .int c, .int d] = W f_ref25_Newer 0 [.int a, .int b, .int c, .int d] := by
  rw [e_f_rlog_Newer_0, e_f_ref25_Newer_0]
theorem ref_newer (a b c d : Int) : W f_ref25_Newer 0 [.int a, .int b, .int c, .int d] = some [.bool (decide (c < a) || (decide (a = c) && decide (d ≤ b)))] := by
  rw [e_f_ref25_Newer_0]; simp

@[simp] theorem eq_leaves (e f : E) : IV.eqLeaves [.int e.t, .str e.d] [.int f.t, .str f.d] = some (decide (e = f)) := by
  have : (e.d.toList == f.d.toList) = decide (e.d = f.d) := by
    rw [Bool.eq_iff_iff, beq_iff_eq, decide_eq_true_iff]; exact O.str_ext
  cases e; cases f
  simp [IV.eqLeaves, IV.eqLeaf, this]
  rw [Bool.eq_iff_iff]; simp

theorem entries_1 (xs ys : List E) (hl : xs.length = ys.length) (hx : xs.length ≤ 4194304) : ∀ (n i : Nat), i + n = xs.length →
    W f_ref25_Entries 1 [.list (xs.map E.enc), .list (ys.map E.enc), .int i] = some [.bool (decide (xs.drop i = ys.drop i))]
  | 0, i, h => by
    rw [e_f_ref25_Entries_1]
    have : ¬ i < xs.length := by omega
    have h2 : ys.length ≤ i := by omega
    simp [this, List.drop_of_length_le (Nat.le_of_not_lt this), h2]
  | n + 1, i, h => by
    have hi : i < xs.length := by omega
    have hj : i < ys.length := by omega
    have ih := entries_1 xs ys hl hx n (i + 1) (by omega)
    have hw := next (n := n) (i := i) (by omega)
    rw [e_f_ref25_Entries_1, List.drop_eq_getElem_cons hi, List.drop_eq_getElem_cons hj]
    simp [hw, hi, hj, -List.getElem_cons_drop]
    by_cases h1 : xs[i] = ys[i] <;> simp [h1, -List.getElem_cons_drop]
    exact ih
theorem entries (xs ys : List E) (hx : xs.length ≤ 4194304) : W f_ref25_Entries 0 [.list (xs.map E.enc), .list (ys.map E.enc)] = some [.bool (decide (xs = ys))] := by
  rw [e_f_ref25_Entries_0]
  by_cases hl : xs.length = ys.length
  · have := entries_1 xs ys hl hx xs.length 0 (by omega)
    simp [hl] at this ⊢
    exact this
  · have h2 : ¬ xs = ys := fun e => hl (by rw [e])
    have h3 : ¬ (xs.length : Int) = ys.length := by omega
    simp [h2, h3]

theorem same (b bt b' bt' : Int) (xs ys : List E) (hx : xs.length ≤ 4194304) : W f_ref25_Same 0 [.agg [.int b, .int bt, .list (xs.map E.enc)], .agg [.int b', .int bt', .list (ys.map E.enc)]] = some [.bool (decide (b = b') && (decide (bt = bt') && decide (xs = ys)))] := by
  rw [e_f_ref25_Same_0]
  simp [entries xs ys hx, Bool.and_assoc]

/-- The entries from an index on. -/
def fromI (l : L) (i most : Int) : Option (List E) := if i ≤ l.b ∨ l.b + l.es.length + 1 < i then none else some ((l.es.drop ((i - l.b).toNat - 1)).take most.toNat)
def optE (o : Option (List E)) : List IV := match o with | some l => [.list (l.map E.enc), .bool true] | none => [.list [], .bool false]

theorem clone_list (xs : List IV) (h : xs.length ≤ 4194304) : W f_slices_Clone 0 [.list xs] = some [.list xs] := by
  rw [e_f_slices_Clone, O.cloneF, if_pos (by omega)]

theorem prg_from (b bt : Int) (es : List E) (i most : Int) (h : tame ⟨b, bt, es⟩) : W f_rlog_From 0 [.agg [.int b, .int bt, .list (es.map E.enc)], .int i, .int most] = some (optE (fromI ⟨b, bt, es⟩ i most)) := by
  have h0 := prg_last b bt es h
  obtain ⟨h1, h2, h3⟩ := h
  simp only at h1 h2 h3
  rw [e_f_rlog_From_0]
  have w0 : IntKind.i64.wrap (b + es.length + 1) = b + es.length + 1 := wrap64 (by omega) (by omega)
  simp [h0, lastI, fromI, w0]
  by_cases c1 : i ≤ b
  · simp [c1, optE]
  · by_cases c3 : b + es.length + 1 < i
    · simp [c1, c3, optE]
    · have w1 : IntKind.i64.wrap (i - b) = i - b := wrap64 (by omega) (by omega)
      have w2 : IntKind.i64.wrap (i - b - 1) = i - b - 1 := wrap64 (by omega) (by omega)
      have h4 : 1 ≤ i - b := by omega
      obtain ⟨k, rfl⟩ : ∃ k : Nat, i = b + 1 + k := ⟨(i - b - 1).toNat, by omega⟩
      have h5 : k ≤ es.length := by omega
      have e1 : b + 1 + (k : Int) - b - 1 = k := by omega
      have e2 : (b + 1 + (k : Int) - b).toNat - 1 = k := by omega
      have wk : IntKind.i64.wrap (k : Int) = k := wrap64 (by omega) (by omega)
      simp only [w1, e1, e2, wk]
      simp [c1, c3, h5]
      generalize hm : (if (0 : Int) < most then most else 0) = m
      have hm0 : 0 ≤ m ∧ most.toNat = m.toNat := by rw [← hm]; split <;> omega
      obtain ⟨n, rfl⟩ : ∃ n : Nat, m = n := ⟨m.toNat, by omega⟩
      rw [hm0.2]
      have h6 : ((es.length : Int) - k) = ((es.length - k : Nat) : Int) := by omega
      obtain ⟨q, hq⟩ : ∃ q, q = min (es.length - k) n := ⟨_, rfl⟩
      have e7 : List.take n (List.drop k es) = List.take q (List.drop k es) := by
        rw [hq]
        by_cases c4 : es.length - k ≤ n
        · rw [Nat.min_eq_left c4, List.take_of_length_le (by simp; omega), List.take_of_length_le (by simp)]
        · rw [Nat.min_eq_right (by omega)]
      have e8 : (if ((es.length - k : Nat) : Int) < n then ((es.length - k : Nat) : Int) else n) = (q : Int) := by split <;> omega
      have e9 : q ≤ es.length - k := by omega
      rw [e8]
      have hc := clone_list (((es.drop k).take q).map E.enc) (by simp; omega)
      simp only [List.map_take, List.map_drop] at hc
      have e10 : (q : Int) ≤ ((es.length - k : Nat) : Int) := by omega
      simp [e9, e7, hc, optE]
theorem ref_from (b bt : Int) (es : List E) (i most : Int) (h : tame ⟨b, bt, es⟩) : W f_ref25_From 0 [.agg [.int b, .int bt, .list (es.map E.enc)], .int i, .int most] = some (optE (fromI ⟨b, bt, es⟩ i most)) := by
  obtain ⟨h1, h2, h3⟩ := h
  simp only at h1 h2 h3
  rw [e_f_ref25_From_0]
  have w0 : IntKind.i64.wrap (b + es.length) = b + es.length := wrap64 (by omega) (by omega)
  have w0' : IntKind.i64.wrap (b + es.length + 1) = b + es.length + 1 := wrap64 (by omega) (by omega)
  simp [fromI, w0, w0']
  by_cases c1 : i ≤ b
  · simp [c1, optE]
  · by_cases c3 : b + es.length + 1 < i
    · simp [c1, c3, optE]
    · have w1 : IntKind.i64.wrap (i - b) = i - b := wrap64 (by omega) (by omega)
      have w2 : IntKind.i64.wrap (i - b - 1) = i - b - 1 := wrap64 (by omega) (by omega)
      obtain ⟨k, rfl⟩ : ∃ k : Nat, i = b + 1 + k := ⟨(i - b - 1).toNat, by omega⟩
      have h5 : k ≤ es.length := by omega
      have e1 : b + 1 + (k : Int) - b - 1 = k := by omega
      have e2 : (b + 1 + (k : Int) - b).toNat - 1 = k := by omega
      have wk : IntKind.i64.wrap (k : Int) = k := wrap64 (by omega) (by omega)
      have h6 : ((es.length : Int) - k) = ((es.length - k : Nat) : Int) := by omega
      have wl : IntKind.i64.wrap ((es.length - k : Nat) : Int) = ((es.length - k : Nat) : Int) := wrap64 (by omega) (by omega)
      simp only [w1, e1, e2, wk]
      simp [c1, c3]
      generalize hm : (if (0 : Int) < most then most else 0) = m
      have hm0 : 0 ≤ m ∧ most.toNat = m.toNat := by rw [← hm]; split <;> omega
      obtain ⟨n, rfl⟩ : ∃ n : Nat, m = n := ⟨m.toNat, by omega⟩
      rw [hm0.2, h6, wl]
      obtain ⟨q, hq⟩ : ∃ q, q = min (es.length - k) n := ⟨_, rfl⟩
      have e7 : List.take n (List.drop k es) = List.take q (List.drop k es) := by
        rw [hq]
        by_cases c4 : es.length - k ≤ n
        · rw [Nat.min_eq_left c4, List.take_of_length_le (by simp; omega), List.take_of_length_le (by simp)]
        · rw [Nat.min_eq_right (by omega)]
      have e8 : (if ((es.length - k : Nat) : Int) < n then ((es.length - k : Nat) : Int) else n) = (q : Int) := by split <;> omega
      have e9 : q ≤ es.length - k := by omega
      rw [e8]
      have wq : IntKind.i64.wrap ((k : Int) + q) = ((k + q : Nat) : Int) := by rw [wrap64 (by omega) (by omega)]; rfl
      have e10 : (k : Int) + q ≤ es.length := by omega
      have e11 : (k : Int) ≤ k + q := by omega
      have e12 : ((k : Int) + q).toNat - k = q := by omega
      rw [wq]
      simp [e10, e11, e12, e7, optE, List.drop_take]

theorem valid_inv {l : L} (h : valid l = true) : fine l ∧ rises l.es (if 1 < l.bt then l.bt else 1) = true := by
  unfold valid at h
  rw [Bool.and_eq_true, decide_eq_true_iff] at h
  exact h
/-! ### the laws -/
theorem reads (b bt : Int) (es : List E) (i most term : Int) (hl : es.length ≤ 1048576) (_hi : I64 i) : W f_law25_RlogReads 0 [.agg [.int b, .int bt, .list (es.map E.enc)], .int i, .int most, .int term] = some [.bool true] := by
  rw [e_f_law25_RlogReads_0]
  have hs := same 0 0 0 0 [] [] (by simp)
  simp at hs
  simp [ref_valid b bt es (by omega), prg_valid b bt es (by omega), new, hs, prg_newer, ref_newer, lives]
  by_cases hv : valid ⟨b, bt, es⟩ = true
  · have ht : tame ⟨b, bt, es⟩ := by
      obtain ⟨⟨f1, f2, _⟩, _⟩ := valid_inv hv
      exact ⟨f1, f2, by simp only; omega⟩
    simp [hv, prg_last b bt es ht, ref_last b bt es ht, prg_termAt b bt es i ht, ref_termAt b bt es i ht, prg_from b bt es i most ht, ref_from b bt es i most ht]
    have ho : optI (termAt ⟨b, bt, es⟩ i) = [.int ((termAt ⟨b, bt, es⟩ i).getD 0), .bool (termAt ⟨b, bt, es⟩ i).isSome] := by
      cases termAt ⟨b, bt, es⟩ i <;> rfl
    have hf : optE (fromI ⟨b, bt, es⟩ i most) = [.list (((fromI ⟨b, bt, es⟩ i most).getD []).map E.enc), .bool (fromI ⟨b, bt, es⟩ i most).isSome] := by
      cases fromI ⟨b, bt, es⟩ i most <;> rfl
    have hle : ((fromI ⟨b, bt, es⟩ i most).getD []).length ≤ 4194304 := by
      unfold fromI
      split
      · simp
      · simp; omega
    simp [ho, hf, entries _ _ hle]
  · simp [hv]
end Go.CT.Rlog

namespace Go.CT.Rlog
open Go.Proofs
theorem wt_int {x : IV} (h : WT Try.prog 3 x) : ∃ n, x = .int n ∧ I64 n := by
  obtain ⟨n, rfl, h1, h2⟩ := h.int_inv (k := .i64) (by kernel_rfl)
  rw [i64_min] at h1; rw [i64_max] at h2
  exact ⟨n, rfl, h1, h2⟩
theorem wt_e {x : IV} (h : WT Try.prog 40 x) : ∃ e : E, x = e.enc ∧ I64 e.t := by
  obtain ⟨xs, rfl, h2⟩ := h.agg_inv (ts := [3, 9]) (by kernel_rfl) (by kernel_rfl)
  obtain ⟨a, xs, rfl, ha, h⟩ := h2.cons_inv
  obtain ⟨b, xs, rfl, hb, h⟩ := h.cons_inv
  obtain rfl := h.nil_inv
  obtain ⟨n, rfl, hn⟩ := wt_int ha
  obtain ⟨s, rfl, _⟩ := hb.str_inv (by kernel_rfl)
  exact ⟨⟨n, s⟩, rfl, hn⟩
theorem wt_es {x : IV} (h : WT Try.prog 22 x) : ∃ es : List E, x = .list (es.map E.enc) ∧ (∀ e ∈ es, I64 e.t) ∧ es.length + 1 ≤ x.bulk := by
  obtain ⟨xs, rfl, _, h⟩ := h.list_inv (e := 40) (by kernel_rfl)
  obtain ⟨es, rfl, he⟩ := list_form fun x hx => wt_e (h x hx)
  refine ⟨es, rfl, he, ?_⟩
  have := length_le_bulks (es.map E.enc)
  simp only [IV.bulk, List.length_map] at this ⊢
  omega
theorem wt_l {x : IV} (h : WT Try.prog 24 x) : ∃ b bt, ∃ es : List E, x = .agg [.int b, .int bt, .list (es.map E.enc)] ∧ I64 b ∧ I64 bt ∧ (∀ e ∈ es, I64 e.t) ∧ es.length + 1 ≤ x.bulk := by
  obtain ⟨xs, rfl, h2⟩ := h.agg_inv (ts := [3, 3, 22]) (by kernel_rfl) (by kernel_rfl)
  obtain ⟨a, xs, rfl, ha, h⟩ := h2.cons_inv
  obtain ⟨b, xs, rfl, hb, h⟩ := h.cons_inv
  obtain ⟨c, xs, rfl, hc, h⟩ := h.cons_inv
  obtain rfl := h.nil_inv
  obtain ⟨n, rfl, hn⟩ := wt_int ha
  obtain ⟨m, rfl, hm⟩ := wt_int hb
  obtain ⟨es, rfl, he, hl⟩ := wt_es hc
  refine ⟨n, m, es, rfl, hn, hm, he, ?_⟩
  simp only [IV.bulk, IV.bulks] at hl ⊢
  omega
end Go.CT.Rlog
