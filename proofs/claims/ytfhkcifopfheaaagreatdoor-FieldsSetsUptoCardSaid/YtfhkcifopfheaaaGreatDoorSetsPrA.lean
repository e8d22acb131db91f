import Derived.Test.YtfhkcifopfheaaaGreatDoorCtC
import Derived.Test.YtfhkcifopfheaaaGreatDoorLib
import Derived.Test.YtfhkcifopfheaaaGreatDoorTabA
set_option linter.unusedVariables false
set_option linter.unusedSimpArgs false
namespace Go.CT
def SS (l : List ByteArray) : Prop := l.Pairwise fun a b => blt a b = true
theorem SS.ext : ∀ {a b : List ByteArray}, SS a → SS b → (∀ x, x ∈ a ↔ x ∈ b) → a = b
 | [], [], _, _, _ => rfl
 | [], y :: b, _, _, h => by have := (h y).2 List.mem_cons_self; cases this
 | x :: a, [], _, _, h => by have := (h x).1 List.mem_cons_self; cases this
 | x :: a, y :: b, ha, hb, h => by
  obtain ⟨a1, a2⟩ := List.pairwise_cons.1 ha
  obtain ⟨b1, b2⟩ := List.pairwise_cons.1 hb
  have hxy : x = y := by
   rcases List.mem_cons.1 ((h x).1 List.mem_cons_self) with e | e
   ·exact e
   ·rcases List.mem_cons.1 ((h y).2 List.mem_cons_self) with e' | e'
    ·exact e'.symm
    ·have := blt_trans (b1 x e) (a1 y e')
     rw [blt_irrefl] at this; cases this
  subst hxy
  rw [SS.ext a2 b2 fun z => ⟨fun hz => ?_, fun hz => ?_⟩]
  ·rcases List.mem_cons.1 ((h z).1 (List.mem_cons_of_mem _ hz)) with rfl | e
   ·have := a1 z hz; rw [blt_irrefl] at this; cases this
   ·exact e
  ·rcases List.mem_cons.1 ((h z).2 (List.mem_cons_of_mem _ hz)) with rfl | e
   ·have := b1 z hz; rw [blt_irrefl] at this; cases this
   ·exact e
theorem compact_mem {l : List (List UInt8)} {x : List UInt8} : x ∈ Lib.compact l ↔ x ∈ l := by
 unfold Lib.compact Lib.compactUpTo
 simp only [List.mem_map, List.mem_filter, List.mem_range]
 constructor
 ·rintro ⟨j, ⟨hj, _⟩, rfl⟩
  have : l.toArray[j]! = l[j] := by simp [hj]
  rw [this]; exact List.getElem_mem hj
 ·intro hx
  obtain ⟨i, hi, rfl⟩ := List.mem_iff_getElem.1 hx
  -- the first place
  have : ∀ i, ∀ hi : i < l.length, ∃ j, j < l.length ∧ Lib.keeps l.toArray j = true ∧ l.toArray[j]! = l[i] := by
   intro i
   induction i with
   | zero => intro hi; exact ⟨0, hi, by simp [Lib.keeps], by simp [hi]⟩
   | succ i ih =>
    intro hi
    by_cases he : l[i] = l[i + 1]
    ·obtain ⟨j, h1, h2, h3⟩ := ih (by omega)
     exact ⟨j, h1, h2, h3.trans he⟩
    ·refine ⟨i + 1, hi, Lib.keeps_pos ?_, by simp [hi]⟩
     have h1 : i < l.length := by omega
     simp [hi, h1]
     exact fun e => he e.symm
  obtain ⟨j, h1, h2, h3⟩ := this i hi
  exact ⟨j, ⟨h1, h2⟩, h3⟩
theorem compact_pair {l : List (List UInt8)} (h : l.Pairwise fun a b => Op.bytesLess b a = false) : (Lib.compact l).Pairwise fun a b => Op.bytesLess a b = true := by
 unfold Lib.compact Lib.compactUpTo
 rw [List.pairwise_map]
 have hr : ((List.range l.length).filter (Lib.keeps l.toArray)).Pairwise (· < ·) := List.Pairwise.filter _ List.pairwise_lt_range
 refine hr.imp_of_mem fun {i j} hi hj hij => ?_
 simp only [List.mem_filter, List.mem_range] at hi hj
 obtain ⟨hj1, hj2⟩ := hj
 have hi1 : i < l.length := by omega
 have hp : j - 1 < l.length := by omega
 have ei : l.toArray[i]! = l[i] := by simp [hi1]
 have ej : l.toArray[j]! = l[j] := by simp [hj1]
 have ep : l.toArray[j - 1]! = l[j - 1] := by simp [hp]
 rw [ei, ej]
 have hne : l[j] ≠ l[j - 1] := by
  intro e
  have : Lib.keeps l.toArray j = false := Lib.keeps_neg (by omega) (by rw [ej, ep]; exact e)
  rw [this] at hj2; cases hj2
 have h1 : Op.bytesLess l[j] l[j - 1] = false := List.pairwise_iff_getElem.1 h (j - 1) j hp hj1 (by omega)
 have h2 : Op.bytesLess l[j - 1] l[j] = true := by
  rcases bl_total l[j - 1] l[j] with h | h | h
  ·exact h
  ·exact absurd h.symm hne
  ·rw [h] at h1; cases h1
 by_cases he : i = j - 1
 ·subst he; exact h2
 ·have h3 : Op.bytesLess l[j - 1] l[i] = false := List.pairwise_iff_getElem.1 h i (j - 1) hi1 hp (by omega)
  rcases bl_total l[i] l[j - 1] with h | h | h
  ·exact bl_trans h h2
  ·rw [h]; exact h2
  ·rw [h] at h3; cases h3
def setB (l : List ByteArray) : List ByteArray := compactB (sortB l)
theorem mem_setB {l : List ByteArray} {x : ByteArray} : x ∈ setB l ↔ x ∈ l := by
 unfold setB compactB
 rw [sortB_eq]; unfold sortM
 rw [map_back, List.mem_map]
 constructor
 ·rintro ⟨y, hy, rfl⟩
  rw [compact_mem, List.mem_mergeSort, List.mem_map] at hy
  obtain ⟨z, hz, rfl⟩ := hy
  rw [back_ofL]; exact hz
 ·intro hx
  refine ⟨x.data.toList, ?_, back_ofL x⟩
  rw [compact_mem, List.mem_mergeSort, List.mem_map]
  exact ⟨x, hx, rfl⟩
theorem setB_SS (l : List ByteArray) : SS (setB l) := by
 unfold setB compactB SS
 rw [sortB_eq]; unfold sortM
 rw [map_back, List.pairwise_map]
 refine (compact_pair (sort_pair _)).imp fun h => ?_
 unfold blt
 rw [ofL_back, ofL_back]; exact h
theorem setB_len (l : List ByteArray) : (setB l).length ≤ l.length := by
 unfold setB compactB
 rw [sortB_eq]; unfold sortM
 rw [map_back, List.length_map]
 have h1 : ∀ l : List (List UInt8), (Lib.compact l).length ≤ l.length := fun l => by
  have h1 : (Lib.compact l).length ≤ (List.range l.length).length := by
   unfold Lib.compact Lib.compactUpTo
   rw [List.length_map]
   exact List.length_filter_le _ _
  simpa using h1
 refine Nat.le_trans (h1 _) ?_
 rw [List.length_mergeSort, List.length_map]; exact Nat.le_refl _
end Go.CT
namespace Go.CT.Sch
open Go.Proofs
abbrev SL (l : List ByteArray) : IV := Srt.LE IV.str l
theorem fsame_1 (a : List ByteArray) (hl : a.length ≤ 1099511627776) : ∀ (n i : Nat), i + n = a.length → W F95 1 [SL a, SL a, .int (i : Nat)] = some [.bool true]
 | 0, i, h => by
  rw [e_F95_1, Srt.len]
  have h1 : ¬ i < a.length := by omega
  simp only [Option.bind_some, O.lt_int, lt_cast, h1, decide_false, O.cnd_bool, Bool.false_eq_true, if_false]
 | n + 1, i, h => by
  have hi : i < a.length := by omega
  have hw := next64 (i := i) (by omega)
  have hx := Srt.idx IV.str (List.getElem?_eq_getElem hi)
  rw [e_F95_1, Srt.len]
  simp only [Option.bind_some, O.lt_int, lt_cast, hi, decide_true, O.cnd_bool, if_true, hx, O.sNe_str, Bool.not_true, Bool.false_eq_true, if_false, O.add_int, hw]
  exact fsame_1 a hl n (i + 1) (by omega)
theorem fsame (a : List ByteArray) (hl : a.length ≤ 1099511627776) : W F95 0 [SL a, SL a] = some [.bool true] := by
 rw [e_F95_0, Srt.len]
 have := fsame_1 a hl a.length 0 (by omega)
 simp only [Int.cast_ofNat_Int] at this
 simp only [Option.bind_some, O.ne_int, decide_true, Bool.not_true, O.cnd_bool, Bool.false_eq_true, if_false]
 exact this
theorem collectF_SL {l : List ByteArray} (h : l.length ≤ 1099511627776) : O.collectF [SL l] = some [SL l] := by
 unfold O.collectF SL Srt.LE
 simp only [List.length_map]
 rw [if_pos (by unfold maxBytes; omega)]
theorem sortF_SL {l : List ByteArray} (h : l.length ≤ 1099511627776) : O.sortF [SL l] = some [SL (sortB l)] := by
 unfold O.sortF SL Srt.LE
 simp only [strsOf_map, Option.bind_some]
 rw [if_pos (by omega)]
theorem compactF_SL {l : List ByteArray} (h : l.length ≤ 1099511627776) : O.compactF [SL l] = some [SL (compactB l)] := by
 unfold O.compactF SL Srt.LE
 simp only [strsOf_map, Option.bind_some]
 rw [if_pos (by omega)]
theorem fset {l : List ByteArray} (h : l.length ≤ 1099511627776) : W F89 0 [SL l] = some [SL (setB l)] := by
 have hs : (sortB l).length = l.length := (sortB_perm l).length_eq
 rw [e_F89_0, e_F90_0]
 simp only [O.calls_1, e_F91_0, e_F92, e_F93, e_F94, collectF_SL h, sortF_SL h, compactF_SL (l := sortB l) (by omega)]
 rfl
theorem fconcat (a b : List ByteArray) (ha : a.length ≤ 1048576) (hb : b.length ≤ 1048576) : W F112 0 [.list [SL a, SL b]] = some [SL (a ++ b)] := by
 have hg : O.growF 16 [.list [], .int ((a.length : Int) + (b.length : Int))] = some [.list []] := by
  simp only [O.growF]
  rw [if_pos]
  unfold maxBytes
  refine ⟨by omega, ?_, ?_⟩ <;> simp only [List.length_nil] <;> omega
 have w1 : IntKind.i64.wrap (0 + (a.length : Int)) = (a.length : Int) := by rw [wrap64 (by omega) (by omega)]; omega
 have w2 : IntKind.i64.wrap ((a.length : Int) + (b.length : Int)) = (a.length : Int) + (b.length : Int) := wrap64 (by omega) (by omega)
 have w3 : IntKind.i64.wrap (0 + 1) = 1 := by decide
 have w4 : IntKind.i64.wrap (1 + 1) = 2 := by decide
 have n1 : ¬ (a.length : Int) < 0 := by omega
 have n2 : ¬ (a.length : Int) + (b.length : Int) < 0 := by omega
 have ap1 : O.append 16 (.list []) (SL a) = some (SL a) := by
  unfold SL Srt.LE
  rw [O.append_list, if_pos (by simp only [List.length_nil, List.length_map, maxBytes]; omega)]
  rfl
 have ap2 : O.append 16 (SL a) (SL b) = some (SL (a ++ b)) := by
  unfold SL Srt.LE
  rw [O.append_list, if_pos (by simp only [List.length_map, maxBytes]; omega), List.map_append]
 have i0 : O.index (.list [SL a, SL b]) (.int 0) = some (SL a) := rfl
 have i1 : O.index (.list [SL a, SL b]) (.int 1) = some (SL b) := rfl
 have l2 : O.len (.list [SL a, SL b]) = some (.int 2) := rfl
 have lt0 : decide ((0 : Int) < 2) = true := by decide
 have lt1 : decide ((1 : Int) < 2) = true := by decide
 have lt2 : decide ((2 : Int) < 2) = false := by decide
 rw [e_F112_0]
 simp only [l2, Option.bind_some]
 rw [e_F112_1]
 simp only [O.lt_int, lt0, Option.bind_some, O.cnd_bool, if_true, i0, Srt.len, O.add_int, w1, n1, decide_false, Bool.false_eq_true, if_false]
 rw [e_F112_2]
 simp only [O.add_int, w3, Option.bind_some]
 rw [e_F112_1]
 simp only [O.lt_int, lt1, Option.bind_some, O.cnd_bool, if_true, i1, Srt.len, O.add_int, w2, n2, decide_false, Bool.false_eq_true, if_false]
 rw [e_F112_2]
 simp only [O.add_int, w4, Option.bind_some]
 rw [e_F112_1]
 simp only [O.lt_int, lt2, Option.bind_some, O.cnd_bool, Bool.false_eq_true, if_false, e_F113, hg, O.calls_1, l2]
 rw [e_F112_3]
 simp only [O.lt_int, lt0, Option.bind_some, O.cnd_bool, if_true, i0, ap1, O.add_int, w3]
 rw [e_F112_3]
 simp only [O.lt_int, lt1, Option.bind_some, O.cnd_bool, if_true, i1, ap2, O.add_int, w4]
 rw [e_F112_3]
 simp only [O.lt_int, lt2, Option.bind_some, O.cnd_bool, Bool.false_eq_true, if_false]
theorem funion (a b : List ByteArray) (ha : a.length ≤ 1048576) (hb : b.length ≤ 1048576) : W F111 0 [SL a, SL b] = some [SL (setB (a ++ b))] := by
 rw [e_F111_0]
 simp only [O.mklist_eq, Option.bind_some, fconcat a b ha hb, O.calls_1, fset (l := a ++ b) (by simp only [List.length_append]; omega)]
def inB (l : List ByteArray) (s : ByteArray) : Bool := l.any fun t => decide (s = t)
theorem inB_iff {l : List ByteArray} {s : ByteArray} : inB l s = true ↔ s ∈ l := by
 unfold inB; rw [List.any_eq_true]
 constructor
 ·rintro ⟨t, h1, h2⟩; rw [of_decide_eq_true h2]; exact h1
 ·intro h; exact ⟨s, h, by simp⟩
theorem inB_cons (k : ByteArray) (ks : List ByteArray) (s : ByteArray) : inB (k :: ks) s = (decide (s = k) || inB ks s) := rfl
def mapS (ks : List ByteArray) : List IV := ks.map fun k => .agg [.str k, .bool true]
theorem eqLeafS (s t : ByteArray) : (IV.str s).eqLeaf (.str t) = some (decide (s = t)) := by
 have : (s.toList == t.toList) = decide (s = t) := by
  rw [Bool.eq_iff_iff, beq_iff_eq, decide_eq_true_iff]; exact O.str_ext
 simp only [IV.eqLeaf, this]
theorem mfind_S (s : ByteArray) : ∀ ks : List ByteArray, mfind (.str s) (mapS ks) = some (if inB ks s then some (.bool true) else none)
 | [] => rfl
 | k :: ks => by
  have ih := mfind_S s ks
  unfold mapS at ih ⊢
  simp only [List.map_cons, mfind, eqLeafS]
  by_cases h : s = k
  ·subst h; simp [inB_cons]
  ·simp only [h, decide_false, ih, inB_cons, Bool.false_or]
theorem mput_S (s : ByteArray) : ∀ ks : List ByteArray, mput (.str s) (.bool true) (mapS ks) = some (mapS (if inB ks s then ks else ks ++ [s]))
 | [] => rfl
 | k :: ks => by
  have ih := mput_S s ks
  unfold mapS at ih ⊢
  simp only [List.map_cons, mput, eqLeafS]
  by_cases h : s = k
  ·subst h; simp [inB_cons]
  ·simp only [h, decide_false, ih, inB_cons, Bool.false_or, Option.map_some]
   cases inB ks s <;> simp
def onceS : List ByteArray → List ByteArray → List ByteArray
 | acc, [] => acc
 | acc, s :: l => onceS (if inB acc s then acc else acc ++ [s]) l
theorem mem_onceS : ∀ (l acc : List ByteArray) (x : ByteArray), x ∈ onceS acc l ↔ x ∈ acc ∨ x ∈ l
 | [], acc, x => by simp [onceS]
 | s :: l, acc, x => by
  rw [onceS, mem_onceS l]
  by_cases h' : inB acc s = true
  ·have h := inB_iff.1 h'
   simp only [h', if_true, List.mem_cons]
   constructor
   ·rintro (h1 | h1)
    ·exact .inl h1
    ·exact .inr (.inr h1)
   ·rintro (h1 | rfl | h1)
    ·exact .inl h1
    ·exact .inl h
    ·exact .inr h1
  ·simp [h', or_assoc]
theorem fclo (s : ByteArray) (ks : List ByteArray) (is : Bool) : W F118 0 [.str s, .list (mapS ks), .bool is] = some [.bool (inB ks s != is), .list (mapS ks), .bool is] := by
 have h1 : O.mget (.bool false) (.list (mapS ks)) (.str s) = some (.bool (inB ks s)) := by
  unfold O.mget
  simp only [Prim.ev, mfind_S, Option.map_some]
  cases inB ks s <;> simp
 have h2 : ∃ b, O.mhas (.list (mapS ks)) (.str s) = some (.bool b) := by
  unfold O.mhas
  simp only [Prim.ev, mfind_S, Option.map_some]
  exact ⟨_, rfl⟩
 obtain ⟨b, h2⟩ := h2
 rw [e_F118_0]
 simp only [h1, h2, Option.bind_some, O.bNe_bool]
end Go.CT.Sch
namespace Go.CT.Sch
open Go.Proofs
def delP (ks : List ByteArray) (is : Bool) (s : ByteArray) : Bool := !(inB ks s != is)
theorem findex (l ks : List ByteArray) (is : Bool) (hl : l.length ≤ 1099511627776) : ∀ (n i : Nat), i + n = l.length → (∀ p ∈ l.take i, delP ks is p = true) →
  (W F117 1 [SL l, .int l.length, .int i, .bool is, .list (mapS ks)] = some [.int (-1), .list (mapS ks), .bool is] ∧ ∀ p ∈ l, delP ks is p = true) ∨
  ∃ j, ∃ h : j < l.length, W F117 1 [SL l, .int l.length, .int i, .bool is, .list (mapS ks)] = some [.int (j : Nat), .list (mapS ks), .bool is] ∧ delP ks is l[j] = false ∧ ∀ p ∈ l.take j, delP ks is p = true
 | 0, i, h, hp => by
  left
  rw [e_F117_1]
  have h1 : ¬ i < l.length := by omega
  rw [List.take_of_length_le (by omega)] at hp
  refine ⟨?_, hp⟩
  simp only [O.lt_int, lt_cast, h1, decide_false, Option.bind_some, O.cnd_bool, Bool.false_eq_true, if_false]
 | n + 1, i, h, hp => by
  have hi : i < l.length := by omega
  have hw := next64 (i := i) (by omega)
  have hx := Srt.idx IV.str (List.getElem?_eq_getElem hi)
  rw [e_F117_1]
  cases c : (inB ks l[i] != is) with
  | true =>
   right
   refine ⟨i, hi, ?_, by simp [delP, c], hp⟩
   simp only [O.lt_int, lt_cast, hi, decide_true, Option.bind_some, O.cnd_bool, if_true, hx, fclo, O.calls_3, c]
  | false =>
   have := findex l ks is hl n (i + 1) (by omega) (by
    intro p hp'
    rw [← List.take_append_getElem hi] at hp'
    rcases List.mem_append.1 hp' with h | h
    ·exact hp p h
    ·simp at h; subst h; simp [delP, c])
   simp only [O.lt_int, lt_cast, hi, decide_true, Option.bind_some, O.cnd_bool, if_true, hx, fclo, O.calls_3, c, Bool.false_eq_true, if_false, O.add_int, hw]
   exact this
theorem fdelete_1 (ks : List ByteArray) (is : Bool) : ∀ (rest kept junk : List ByteArray), junk ≠ [] → kept.length + junk.length + rest.length ≤ 1099511627776 →
  W F116 1 [.int kept.length, .int (kept.length + junk.length : Nat), .bool is, SL (kept ++ (junk ++ rest)), .list (mapS ks)] = some [SL (kept ++ rest.filter (delP ks is)), .list (mapS ks), .bool is]
 | [], kept, junk, hj, hb => by
  have hj' := List.length_pos_iff.2 hj
  rw [e_F116_1, Srt.len]
  have h1 : ¬ ((kept.length + junk.length : Nat) : Int) < (kept ++ (junk ++ [])).length := by simp
  have hc : ∀ z : IV, O.clear z (SL (kept ++ (junk ++ []))) (.int kept.length) (.int (kept ++ (junk ++ [])).length) = some (.list (kept.map IV.str ++ List.replicate junk.length z)) := by
   intro z
   unfold O.clear SL Srt.LE
   simp only [Prim.ev, List.append_nil, List.length_map, List.length_append, Int.natCast_nonneg, true_and, Int.toNat_natCast, Nat.le_refl, and_true]
   rw [if_pos (by omega)]
   simp
  have hs : ∀ ys : List IV, O.slice (.list (kept.map IV.str ++ ys)) (.int 0) (.int kept.length) = some (SL kept) := by
   intro ys
   rw [O.slice_list, if_pos (by simp only [List.length_append, List.length_map]; omega)]
   simp [SL, Srt.LE]
  have hs2 : ∃ y, O.slice (SL (kept ++ (junk ++ []))) (.int kept.length) (.int (kept ++ (junk ++ [])).length) = some y := by
   unfold SL Srt.LE
   rw [O.slice_list, if_pos (by simp only [List.length_append, List.length_map]; omega)]
   exact ⟨_, rfl⟩
  obtain ⟨y, hs2⟩ := hs2
  simp only [List.append_nil] at h1 hc hs2
  simp only [List.append_nil, Option.bind_some, O.lt_int, h1, decide_false, O.cnd_bool, Bool.false_eq_true, if_false, hs2, hc, hs, List.filter_nil, List.append_nil]
 | v :: rest, kept, [], hj, hb => absurd rfl hj
 | v :: rest, kept, y :: js, hj, hb => by
  simp only [List.length_cons] at hb
  rw [e_F116_1, Srt.len]
  have h1 : ((kept.length + (y :: js).length : Nat) : Int) < (kept ++ (y :: js ++ v :: rest)).length := by simp; omega
  have hw : IntKind.i64.wrap (((kept.length + (y :: js).length : Nat) : Int) + 1) = ((kept.length + (y :: js).length + 1 : Nat) : Int) := by simp only [List.length_cons]; rw [wrap64 (by omega) (by omega)]; omega
  have hw2 : IntKind.i64.wrap ((kept.length : Int) + 1) = ((kept.length + 1 : Nat) : Int) := next64 (by omega)
  have gv := Srt.idx IV.str (Srt.get_mid' (l := kept ++ (y :: js ++ v :: rest)) (A := kept ++ y :: js) (x := v) (B := rest) (by simp) (i := kept.length + (y :: js).length) (by simp))
  have gi := Srt.idx IV.str (Srt.get_mid' (l := kept ++ (y :: js ++ v :: rest)) (A := kept) (x := y) (B := js ++ v :: rest) (by simp) (i := kept.length) rfl)
  have st := Srt.set_mid' (l := kept ++ (y :: js ++ v :: rest)) (A := kept) (x := y) (y := v) (B := js ++ v :: rest) (by simp) (i := kept.length) rfl
  have hi1 : kept.length < (kept ++ (y :: js ++ v :: rest)).length := by simp
  rw [List.filter_cons]
  cases c : (inB ks v != is) with
  | true =>
   have ih := fdelete_1 ks is rest kept (y :: js ++ [v]) (by simp) (by simp; omega)
   have hn : delP ks is v = false := by simp [delP, c]
   simp only [Option.bind_some, O.lt_int, h1, decide_true, O.cnd_bool, if_true, gv, fclo, O.calls_3, c, O.not_bool, Bool.not_true, Bool.false_eq_true, if_false, e_F116_2, O.add_int, hw, hn]
   rw [show kept.length + (y :: js).length + 1 = kept.length + (y :: js ++ [v]).length by simp; omega]
   rw [← ih]; simp
  | false =>
   have ih := fdelete_1 ks is rest (kept ++ [v]) (js ++ [v]) (by simp) (by simp; omega)
   have hn : delP ks is v = true := by simp [delP, c]
   simp only [Option.bind_some, O.lt_int, h1, decide_true, O.cnd_bool, if_true, gv, fclo, O.calls_3, c, O.not_bool, Bool.not_false, gi, Srt.seti IV.str hi1, st, O.add_int, hw2, e_F116_2, hw, hn]
   rw [show kept.length + (y :: js).length + 1 = (kept ++ [v]).length + (js ++ [v]).length by simp; omega, show kept.length + 1 = (kept ++ [v]).length by simp]
   rw [show kept ++ v :: (js ++ v :: rest) = kept ++ [v] ++ (js ++ [v] ++ rest) by simp, ih]
   simp
theorem fdelete (l ks : List ByteArray) (is : Bool) (hl : l.length ≤ 1099511627776) :
  W F116 0 [SL l, .list (mapS ks), .bool is] = some [SL (l.filter (delP ks is)), .list (mapS ks), .bool is] := by
 rw [e_F116_0, e_F117_0]
 have key := findex l ks is hl l.length 0 (by omega) (by simp)
 simp only [Int.cast_ofNat_Int] at key
 rcases key with ⟨h1, h2⟩ | ⟨j, hj, h1, h2, h3⟩
 ·simp only [Srt.len, Option.bind_some, h1, O.calls_3, O.eq_int, decide_true, O.cnd_bool, if_true]
  rw [List.filter_eq_self.2 h2]
 ·have hne : ¬ (j : Int) = -1 := by omega
  have hw2 : IntKind.i64.wrap ((j : Int) + 1) = ((j + 1 : Nat) : Int) := next64 (by omega)
  simp only [Srt.len, Option.bind_some, h1, O.calls_3, O.eq_int, hne, decide_false, O.cnd_bool, Bool.false_eq_true, if_false, O.add_int, hw2]
  have hs : l = l.take j ++ ([l[j]] ++ l.drop (j + 1)) := by
   rw [List.singleton_append, ← List.drop_eq_getElem_cons hj, List.take_append_drop]
  have hl1 : (l.take j).length = j := by rw [List.length_take]; omega
  have hl2 : (l.drop (j + 1)).length = l.length - (j + 1) := by rw [List.length_drop]
  have hd := fdelete_1 ks is (l.drop (j + 1)) (l.take j) [l[j]] (by simp) (by simp only [List.length_singleton]; omega)
  rw [hl1, List.length_singleton, ← hs] at hd
  rw [hd]
  have hf : l.filter (delP ks is) = l.take j ++ (l.drop (j + 1)).filter (delP ks is) := by
   conv => lhs; rw [hs]
   rw [List.filter_append, List.filter_append, List.filter_eq_self.2 h3]
   congr 1
   simp [h2]
  rw [hf]
theorem fpick_1 (a b : List ByteArray) (is : Bool) (ha : a.length ≤ 1048576) (hb : b.length ≤ 1048576) : ∀ (n i : Nat) (acc : List ByteArray), i + n = b.length →
  W F115 1 [SL a, SL b, .int b.length, .int i, .bool is, .list (mapS acc)] = some [SL ((setB a).filter (delP (onceS acc (b.drop i)) is))]
 | 0, i, acc, h => by
  have h1 : ¬ i < b.length := by omega
  have hd := fdelete (setB a) acc is (by have := setB_len a; omega)
  rw [e_F118]
  simp only [O.lt_int, lt_cast, h1, decide_false, Option.bind_some, O.cnd_bool, Bool.false_eq_true, if_false, fset (l := a) (by omega), O.calls_1, hd, O.calls_3]
  rw [List.drop_of_length_le (by omega)]; rfl
 | n + 1, i, acc, h => by
  have hi : i < b.length := by omega
  have hw := next64 (i := i) (by omega)
  have hx := Srt.idx IV.str (List.getElem?_eq_getElem hi)
  have hm : O.mset (.list (mapS acc)) (.str b[i]) (.bool true) = some (.list (mapS (if inB acc b[i] then acc else acc ++ [b[i]]))) := by
   unfold O.mset
   simp only [Prim.ev, mput_S, Option.map_some]
  rw [e_F118]
  simp only [O.lt_int, lt_cast, hi, decide_true, Option.bind_some, O.cnd_bool, if_true, hx, hm, O.add_int, hw]
  rw [fpick_1 a b is ha hb n (i + 1) _ (by omega), List.drop_eq_getElem_cons hi, onceS]
theorem fpick (a b : List ByteArray) (is : Bool) (ha : a.length ≤ 1048576) (hb : b.length ≤ 1048576) :
  W F115 0 [SL a, SL b, .bool is] = some [SL ((setB a).filter (fun s => inB b s == is))] := by
 have h := fpick_1 a b is ha hb b.length 0 [] (by omega)
 simp only [Int.cast_ofNat_Int, List.drop_zero] at h
 rw [e_F115_0, Srt.len]
 simp only [Option.bind_some]
 refine h.trans ?_
 have e : delP (onceS [] b) is = fun s => inB b s == is := by
  funext s
  have : inB (onceS [] b) s = inB b s := by
   rw [Bool.eq_iff_iff, inB_iff, inB_iff, mem_onceS]; simp
  unfold delP
  rw [this]
  cases inB b s <;> cases is <;> rfl
 rw [e]
end Go.CT.Sch
namespace Go.CT.Sch
open Go.Proofs
def leB (s x : ByteArray) : Bool := blt s x || decide (s = x)
def putR (s : ByteArray) : Bool → List ByteArray → List ByteArray
 | d, [] => if d then [] else [s]
 | d, x :: r => (if !d && leB s x then [s] else []) ++ (if x = s then [] else [x]) ++ putR s (d || leB s x) r
theorem putR_true (s : ByteArray) : ∀ l, putR s true l = l.filter fun x => !decide (x = s)
 | [] => rfl
 | x :: r => by
  rw [putR, Bool.true_or, putR_true s r, List.filter_cons]
  by_cases h : x = s <;> simp [h]
theorem putR_mem (s x : ByteArray) : ∀ l, x ∈ putR s false l ↔ x = s ∨ x ∈ l
 | [] => by simp [putR]
 | y :: r => by
  rw [putR]
  cases h : leB s y with
  | true =>
   rw [Bool.or_true, putR_true]
   by_cases h2 : y = s
   ·subst h2
    by_cases hx : x = y <;> simp [hx]
   ·simp only [Bool.not_false, Bool.true_and, if_true, h2, if_false, List.mem_append, List.mem_singleton, List.mem_filter, Bool.not_eq_true', decide_eq_false_iff_not, List.mem_cons, List.not_mem_nil, or_false]
    constructor
    ·rintro ((h | h) | h)
     ·exact .inl h
     ·exact .inr (.inl h)
     ·exact .inr (.inr h.1)
    ·rintro (h | h | h)
     ·exact .inl (.inl h)
     ·exact .inl (.inr h)
     ·by_cases hs : x = s
      ·exact .inl (.inl hs)
      ·exact .inr ⟨h, hs⟩
  | false =>
   have h2 : ¬ y = s := by rintro rfl; simp [leB] at h
   simp only [Bool.not_false, Bool.true_and, Bool.false_eq_true, if_false, h2, List.nil_append, List.mem_append, List.mem_singleton, Bool.or_self, putR_mem s x r, List.mem_cons, List.not_mem_nil, or_false]
   constructor
   ·rintro (h | h | h)
    ·exact .inr (.inl h)
    ·exact .inl h
    ·exact .inr (.inr h)
   ·rintro (h | h | h)
    ·exact .inr (.inl h)
    ·exact .inl h
    ·exact .inr (.inr h)
theorem putR_SS (s : ByteArray) : ∀ l, SS l → SS (putR s false l)
 | [], _ => List.pairwise_singleton _ _
 | y :: r, hs => by
  obtain ⟨h1, h2⟩ := List.pairwise_cons.1 hs
  rw [putR]
  cases h : leB s y with
  | true =>
   rw [Bool.or_true, putR_true]
   have e : (if !false && true then [s] else []) ++ (if y = s then [] else [y]) ++ r.filter (fun x => !decide (x = s)) = s :: (y :: r).filter (fun x => !decide (x = s)) := by
    rw [List.filter_cons]
    by_cases h2 : y = s <;> simp [h2]
   rw [e]
   refine List.pairwise_cons.2 ⟨fun x hx => ?_, List.Pairwise.filter _ hs⟩
   simp only [List.mem_filter, Bool.not_eq_true', decide_eq_false_iff_not] at hx
   have hsy : blt s y = true ∨ s = y := by simpa [leB] using h
   rcases List.mem_cons.1 hx.1 with rfl | hr
   ·exact hsy.resolve_right fun e => hx.2 e.symm
   ·rcases hsy with h | rfl
    ·exact blt_trans h (h1 x hr)
    ·exact h1 x hr
  | false =>
   have h3 : ¬ y = s := by rintro rfl; simp [leB] at h
   have hys : blt y s = true := by
    rcases blt_total s y with h4 | h4 | h4
    ·simp [leB, h4] at h
    ·exact absurd h4.symm h3
    ·exact h4
   simp only [Bool.not_false, Bool.true_and, Bool.false_eq_true, if_false, h3, List.nil_append, List.singleton_append, Bool.or_self]
   refine List.pairwise_cons.2 ⟨fun x hx => ?_, putR_SS s r h2⟩
   rcases (putR_mem s x r).1 hx with rfl | hx
   ·exact hys
   ·exact h1 x hx
theorem putR_len (s : ByteArray) : ∀ l, (putR s false l).length ≤ l.length + 1
 | [] => by simp [putR]
 | x :: r => by
  have ih := putR_len s r
  have h1 : (if x = s then ([] : List ByteArray) else [x]).length ≤ 1 := by split <;> simp
  rw [putR, List.length_append, List.length_append, List.length_cons]
  cases h : leB s x with
  | true =>
   rw [Bool.or_true, putR_true]
   have := List.length_filter_le (fun x => !decide (x = s)) r
   have h2 : (if (!false && true) = true then [s] else []).length = 1 := rfl
   rw [h2]; omega
  | false =>
   have h2 : (if (!false && false) = true then [s] else []).length = 0 := rfl
   rw [h2, Bool.or_self]; omega
theorem rput_1 (l : List ByteArray) (s : ByteArray) (hl : l.length ≤ 1048576) : ∀ (n i : Nat) (d : Bool) (out : List ByteArray), i + n = l.length → out.length ≤ i + (if d then 1 else 0) →
  W F157 1 [SL l, .str s, .bool d, .int i, SL out] = some [SL (out ++ putR s d (l.drop i))]
 | 0, i, d, out, h, ho => by
  have h1 : ¬ i < l.length := by omega
  have ap : O.append 16 (SL out) (.list [.str s]) = some (SL (out ++ [s])) := by
   have ho : out.length ≤ i + 1 := by cases d <;> simp at ho <;> omega
   unfold SL Srt.LE
   rw [O.append_list, if_pos (by simp only [List.length_map, List.length_singleton, maxBytes]; omega)]
   simp
  rw [e_F157_1, Srt.len, List.drop_of_length_le (by omega)]
  cases d <;> simp [lt_cast, h1, putR, ap]
 | n + 1, i, d, out, h, ho => by
  have hi : i < l.length := by omega
  have hw := next64 (i := i) (by omega)
  have hx := Srt.idx IV.str (List.getElem?_eq_getElem hi)
  have ap : ∀ (o : List ByteArray) (t : ByteArray), o.length ≤ i + 3 → O.append 16 (SL o) (.list [.str t]) = some (SL (o ++ [t])) := by
   intro o t ho
   unfold SL Srt.LE
   rw [O.append_list, if_pos (by simp only [List.length_map, List.length_singleton, maxBytes]; omega)]
   simp
  -- the second half
  have half : ∀ (d' : Bool) (o : List ByteArray), o.length ≤ i + (if d' then 1 else 0) → W F157 2 [SL l, .str s, .bool d', .int i, SL o] = some [SL (o ++ ((if l[i] = s then [] else [l[i]]) ++ putR s d' (l.drop (i + 1))))] := by
   intro d' o ho
   rw [e_F157_2]
   by_cases he : l[i] = s
   ·have := rput_1 l s hl n (i + 1) d' o (by omega) (by omega)
    simp only [hx, Option.bind_some, O.sNe_str, he, decide_true, Bool.not_true, O.cnd_bool, Bool.false_eq_true, if_false, e_F157_3, O.add_int, hw, this, if_true, List.nil_append]
   ·have := rput_1 l s hl n (i + 1) d' (o ++ [l[i]]) (by omega) (by rw [List.length_append, List.length_singleton]; omega)
    simp only [hx, Option.bind_some, O.sNe_str, he, decide_false, Bool.not_false, O.cnd_bool, if_true, O.mklist_eq, ap o l[i] (by cases d' <;> simp at ho <;> omega), e_F157_3, O.add_int, hw, this, if_false, List.append_assoc]
  rw [e_F157_1, Srt.len, List.drop_eq_getElem_cons hi, putR]
  have hle : O.sLe (.str s) (.str l[i]) = some (.bool (leB s l[i])) := by rw [O.sLe_str, blt_eq]; rfl
  cases d with
  | true =>
   simp only [Option.bind_some, O.lt_int, lt_cast, hi, decide_true, O.cnd_bool, if_true, O.not_bool, Bool.not_true, Bool.false_eq_true, if_false, Bool.true_or, Bool.false_and, List.nil_append]
   exact half true out ho
  | false =>
   cases hc : leB s l[i] with
   | true =>
    simp only [Option.bind_some, O.lt_int, lt_cast, hi, decide_true, O.cnd_bool, if_true, O.not_bool, Bool.not_false, hx, hle, hc, O.mklist_eq, ap out s (by simp at ho; omega), Bool.or_true, Bool.true_and]
    have ho' : out.length ≤ i := by simpa using ho
    rw [half true (out ++ [s]) (by rw [List.length_append, List.length_singleton, if_pos rfl]; omega)]
    simp
   | false =>
    simp only [Option.bind_some, O.lt_int, lt_cast, hi, decide_true, O.cnd_bool, if_true, O.not_bool, Bool.not_false, hx, hle, hc, Bool.false_eq_true, if_false, Bool.or_self, Bool.and_false, List.nil_append]
    exact half false out ho
end Go.CT.Sch
namespace Go.CT.Sch
open Go.Proofs
theorem rput (l : List ByteArray) (s : ByteArray) (hl : l.length ≤ 1048576) : W F157 0 [SL l, .str s] = some [SL (putR s false l)] := by
 have := rput_1 l s hl l.length 0 false [] (by omega) (by simp)
 simp only [Int.cast_ofNat_Int, List.drop_zero, List.nil_append] at this
 rw [e_F157_0]
 exact this
def putsR : List ByteArray → List ByteArray → List ByteArray
 | acc, [] => acc
 | acc, s :: l => putsR (putR s false acc) l
theorem putsR_SS : ∀ (l acc : List ByteArray), SS acc → SS (putsR acc l)
 | [], _, h => h
 | s :: l, acc, h => putsR_SS l _ (putR_SS s acc h)
theorem putsR_mem (x : ByteArray) : ∀ (l acc : List ByteArray), x ∈ putsR acc l ↔ x ∈ acc ∨ x ∈ l
 | [], acc => by simp [putsR]
 | s :: l, acc => by
  rw [putsR, putsR_mem x l, putR_mem, List.mem_cons]
  constructor
  ·rintro ((h | h) | h)
   ·exact .inr (.inl h)
   ·exact .inl h
   ·exact .inr (.inr h)
  ·rintro (h | h | h)
   ·exact .inl (.inr h)
   ·exact .inl (.inl h)
   ·exact .inr h
theorem runion_2 (l : List ByteArray) : ∀ (n i : Nat) (acc : List ByteArray), i + n = l.length → acc.length + n ≤ 1048576 → l.length ≤ 1048576 →
  W F156 2 [SL l, .int i, SL acc] = some [SL (putsR acc (l.drop i))]
 | 0, i, acc, h, hb, hl => by
  have h1 : ¬ i < l.length := by omega
  rw [e_F156_2, Srt.len, List.drop_of_length_le (by omega)]
  simp only [Option.bind_some, O.lt_int, lt_cast, h1, decide_false, O.cnd_bool, Bool.false_eq_true, if_false, putsR]
 | n + 1, i, acc, h, hb, hl => by
  have hi : i < l.length := by omega
  have hw := next64 (i := i) (by omega)
  have hx := Srt.idx IV.str (List.getElem?_eq_getElem hi)
  have hp := putR_len l[i] acc
  have ih := runion_2 l n (i + 1) (putR l[i] false acc) (by omega) (by omega) hl
  rw [e_F156_2, Srt.len, List.drop_eq_getElem_cons hi, putsR]
  simp only [Option.bind_some, O.lt_int, lt_cast, hi, decide_true, O.cnd_bool, if_true, hx, rput acc l[i] (by omega), O.calls_1, O.add_int, hw, ih]
theorem runion_1 (a b : List ByteArray) : ∀ (n i : Nat) (acc : List ByteArray), i + n = a.length → acc.length + n + b.length ≤ 1048576 → a.length ≤ 1048576 →
  W F156 1 [SL a, SL b, .int i, SL acc] = some [SL (putsR (putsR acc (a.drop i)) b)]
 | 0, i, acc, h, hb, hl => by
  have h1 : ¬ i < a.length := by omega
  have h2 := runion_2 b b.length 0 acc (by omega) (by omega) (by omega)
  simp only [Int.cast_ofNat_Int, List.drop_zero] at h2
  rw [e_F156_1, Srt.len, List.drop_of_length_le (by omega)]
  simp only [Option.bind_some, O.lt_int, lt_cast, h1, decide_false, O.cnd_bool, Bool.false_eq_true, if_false, putsR]
  exact h2
 | n + 1, i, acc, h, hb, hl => by
  have hi : i < a.length := by omega
  have hw := next64 (i := i) (by omega)
  have hx := Srt.idx IV.str (List.getElem?_eq_getElem hi)
  have hp := putR_len a[i] acc
  have ih := runion_1 a b n (i + 1) (putR a[i] false acc) (by omega) (by omega) hl
  rw [e_F156_1, Srt.len, List.drop_eq_getElem_cons hi, putsR]
  simp only [Option.bind_some, O.lt_int, lt_cast, hi, decide_true, O.cnd_bool, if_true, hx, rput acc a[i] (by omega), O.calls_1, O.add_int, hw, ih]
theorem union_eq (a b : List ByteArray) : putsR (putsR [] a) b = setB (a ++ b) :=
 SS.ext (putsR_SS b _ (putsR_SS a _ List.Pairwise.nil)) (setB_SS _) fun x => by rw [putsR_mem, putsR_mem, mem_setB, List.mem_append]; simp
theorem runion (a b : List ByteArray) (hb : a.length + b.length ≤ 1048576) : W F156 0 [SL a, SL b] = some [SL (setB (a ++ b))] := by
 have := runion_1 a b a.length 0 [] (by omega) (by simp only [List.length_nil]; omega) (by omega)
 simp only [Int.cast_ofNat_Int, List.drop_zero, union_eq] at this
 rw [e_F156_0]
 exact this
theorem rhas_1 (l : List ByteArray) (s : ByteArray) (hl : l.length ≤ 1048576) : ∀ (n i : Nat), i + n = l.length → W F160 1 [SL l, .str s, .int i] = some [.bool (inB (l.drop i) s)]
 | 0, i, h => by
  have h1 : ¬ i < l.length := by omega
  rw [e_F160_1, Srt.len, List.drop_of_length_le (by omega)]
  simp only [Option.bind_some, O.lt_int, lt_cast, h1, decide_false, O.cnd_bool, Bool.false_eq_true, if_false]; rfl
 | n + 1, i, h => by
  have hi : i < l.length := by omega
  have hw := next64 (i := i) (by omega)
  have hx := Srt.idx IV.str (List.getElem?_eq_getElem hi)
  have ih := rhas_1 l s hl n (i + 1) (by omega)
  rw [e_F160_1, Srt.len, List.drop_eq_getElem_cons hi, inB_cons]
  by_cases he : l[i] = s
  ·simp only [Option.bind_some, O.lt_int, lt_cast, hi, decide_true, O.cnd_bool, if_true, hx, O.sEq_str, he, Bool.true_or]
  ·have he' : ¬ s = l[i] := fun e => he e.symm
   simp only [Option.bind_some, O.lt_int, lt_cast, hi, decide_true, O.cnd_bool, if_true, hx, O.sEq_str, he, he', decide_false, Bool.false_eq_true, if_false, Bool.false_or, O.add_int, hw, ih]
theorem rhas (l : List ByteArray) (s : ByteArray) (hl : l.length ≤ 1048576) : W F160 0 [SL l, .str s] = some [.bool (inB l s)] := by
 have := rhas_1 l s hl l.length 0 (by omega)
 simp only [Int.cast_ofNat_Int, List.drop_zero] at this
 rw [e_F160_0]; exact this
theorem rinter_1 (a b : List ByteArray) (hb : b.length ≤ 1048576) : ∀ (n i : Nat) (acc : List ByteArray), i + n = a.length → acc.length + n ≤ 1048576 → a.length ≤ 1048576 →
  W F159 1 [SL a, SL b, .int i, SL acc] = some [SL (putsR acc ((a.drop i).filter (inB b)))]
 | 0, i, acc, h, hb', hl => by
  have h1 : ¬ i < a.length := by omega
  rw [e_F159_1, Srt.len, List.drop_of_length_le (by omega)]
  simp only [Option.bind_some, O.lt_int, lt_cast, h1, decide_false, O.cnd_bool, Bool.false_eq_true, if_false, List.filter_nil, putsR]
 | n + 1, i, acc, h, hb', hl => by
  have hi : i < a.length := by omega
  have hw := next64 (i := i) (by omega)
  have hx := Srt.idx IV.str (List.getElem?_eq_getElem hi)
  have hp := putR_len a[i] acc
  rw [e_F159_1, Srt.len, List.drop_eq_getElem_cons hi, List.filter_cons]
  cases he : inB b a[i] with
  | true =>
   have ih := rinter_1 a b hb n (i + 1) (putR a[i] false acc) (by omega) (by omega) hl
   simp only [Option.bind_some, O.lt_int, lt_cast, hi, decide_true, O.cnd_bool, if_true, hx, rhas b a[i] hb, he, O.calls_1, rput acc a[i] (by omega), e_F159_2, O.add_int, hw, ih, putsR]
  | false =>
   have ih := rinter_1 a b hb n (i + 1) acc (by omega) (by omega) hl
   simp only [Option.bind_some, O.lt_int, lt_cast, hi, decide_true, O.cnd_bool, if_true, hx, rhas b a[i] hb, he, O.calls_1, Bool.false_eq_true, if_false, e_F159_2, O.add_int, hw, ih]
theorem rminus_1 (a b : List ByteArray) (hb : b.length ≤ 1048576) : ∀ (n i : Nat) (acc : List ByteArray), i + n = a.length → acc.length + n ≤ 1048576 → a.length ≤ 1048576 →
  W F161 1 [SL a, SL b, .int i, SL acc] = some [SL (putsR acc ((a.drop i).filter fun s => !inB b s))]
 | 0, i, acc, h, hb', hl => by
  have h1 : ¬ i < a.length := by omega
  rw [e_F161_1, Srt.len, List.drop_of_length_le (by omega)]
  simp only [Option.bind_some, O.lt_int, lt_cast, h1, decide_false, O.cnd_bool, Bool.false_eq_true, if_false, List.filter_nil, putsR]
 | n + 1, i, acc, h, hb', hl => by
  have hi : i < a.length := by omega
  have hw := next64 (i := i) (by omega)
  have hx := Srt.idx IV.str (List.getElem?_eq_getElem hi)
  have hp := putR_len a[i] acc
  rw [e_F161_1, Srt.len, List.drop_eq_getElem_cons hi, List.filter_cons]
  cases he : inB b a[i] with
  | false =>
   have ih := rminus_1 a b hb n (i + 1) (putR a[i] false acc) (by omega) (by omega) hl
   simp only [Option.bind_some, O.lt_int, lt_cast, hi, decide_true, O.cnd_bool, if_true, hx, rhas b a[i] hb, he, O.calls_1, O.not_bool, Bool.not_false, rput acc a[i] (by omega), e_F161_2, O.add_int, hw, ih, putsR]
  | true =>
   have ih := rminus_1 a b hb n (i + 1) acc (by omega) (by omega) hl
   simp only [Option.bind_some, O.lt_int, lt_cast, hi, decide_true, O.cnd_bool, if_true, hx, rhas b a[i] hb, he, O.calls_1, O.not_bool, Bool.not_true, Bool.false_eq_true, if_false, e_F161_2, O.add_int, hw, ih]
def minusB (a b : List ByteArray) : List ByteArray := (setB a).filter fun s => !inB b s
def interB (a b : List ByteArray) : List ByteArray := (setB a).filter fun s => inB b s
theorem filter_SS {l : List ByteArray} (h : SS l) (p : ByteArray → Bool) : SS (l.filter p) := List.Pairwise.filter p h
theorem rinter (a b : List ByteArray) (ha : a.length ≤ 1048576) (hb : b.length ≤ 1048576) : W F159 0 [SL a, SL b] = some [SL (interB a b)] := by
 have := rinter_1 a b hb a.length 0 [] (by omega) (by simp only [List.length_nil]; omega) ha
 simp only [Int.cast_ofNat_Int, List.drop_zero] at this
 rw [e_F159_0]
 refine this.trans ?_
 rw [SS.ext (putsR_SS _ _ List.Pairwise.nil) (filter_SS (setB_SS a) (inB b)) fun x => by rw [putsR_mem, List.mem_filter, List.mem_filter, mem_setB]; simp]
 rfl
theorem rminus (a b : List ByteArray) (ha : a.length ≤ 1048576) (hb : b.length ≤ 1048576) : W F161 0 [SL a, SL b] = some [SL (minusB a b)] := by
 have := rminus_1 a b hb a.length 0 [] (by omega) (by simp only [List.length_nil]; omega) ha
 simp only [Int.cast_ofNat_Int, List.drop_zero] at this
 rw [e_F161_0]
 refine this.trans ?_
 rw [SS.ext (putsR_SS _ _ List.Pairwise.nil) (filter_SS (setB_SS a) fun s => !inB b s) fun x => by rw [putsR_mem, List.mem_filter, List.mem_filter, mem_setB]; simp]
 rfl
theorem fminus (a b : List ByteArray) (ha : a.length ≤ 1048576) (hb : b.length ≤ 1048576) : W F114 0 [SL a, SL b] = some [SL (minusB a b)] := by
 rw [e_F114_0, fpick a b false ha hb]
 simp only [O.calls_1]
 congr 3
 unfold minusB; congr 1; funext s; cases inB b s <;> rfl
theorem finter (a b : List ByteArray) (ha : a.length ≤ 1048576) (hb : b.length ≤ 1048576) : W F119 0 [SL a, SL b] = some [SL (interB a b)] := by
 rw [e_F119_0, fpick a b true ha hb]
 simp only [O.calls_1]
 congr 3
 unfold interB; congr 1; funext s; cases inB b s <;> rfl
theorem minus_len (a b : List ByteArray) : (minusB a b).length ≤ a.length := Nat.le_trans (List.length_filter_le _ _) (setB_len a)
theorem minus_union (a b : List ByteArray) : setB (minusB a b ++ b) = setB (a ++ b) :=
 SS.ext (setB_SS _) (setB_SS _) fun x => by
  rw [mem_setB, mem_setB, List.mem_append, List.mem_append, minusB, List.mem_filter, mem_setB, Bool.not_eq_true', ← Bool.not_eq_true, inB_iff]
  constructor
  ·rintro (⟨h, _⟩ | h)
   ·exact .inl h
   ·exact .inr h
  ·rintro (h | h)
   ·by_cases hb : x ∈ b
    ·exact .inr hb
    ·exact .inl ⟨h, hb⟩
   ·exact .inr h
theorem law_sets (hA : W F5 0 [] = some [.bool true]) (a b : List ByteArray) : W F158 0 [SL a, SL b] = some [.bool true] := by
 rw [e_F158_0, Srt.len, Srt.len]
 by_cases ha : (60 : Int) < a.length
 ·simp only [Option.bind_some, O.gt_int, ha, decide_true, O.cnd_bool, if_true, hA, O.calls_1]
 by_cases hb : (60 : Int) < b.length
 ·simp only [Option.bind_some, O.gt_int, ha, hb, decide_true, decide_false, Bool.false_eq_true, if_false, O.cnd_bool, if_true, hA, O.calls_1]
 have ha' : a.length ≤ 60 := by omega
 have hb' : b.length ≤ 60 := by omega
 have hu := setB_len (a ++ b)
 have hm := minus_len a b
 have hi : (interB a b).length ≤ a.length := Nat.le_trans (List.length_filter_le _ _) (setB_len a)
 rw [List.length_append] at hu
 simp only [Option.bind_some, O.gt_int, ha, hb, decide_false, Bool.false_eq_true, if_false, O.cnd_bool, if_true, funion a b (by omega) (by omega), runion a b (by omega), O.calls_1, fsame (setB (a ++ b)) (by omega),
  finter a b (by omega) (by omega), rinter a b (by omega) (by omega), fsame (interB a b) (by omega), fminus a b (by omega) (by omega), rminus a b (by omega) (by omega), fsame (minusB a b) (by omega), funion (minusB a b) b (by omega) (by omega), minus_union, hA]
end Go.CT.Sch
namespace Go.CT.Sch
open Go.Proofs
theorem awake10 : W F5 0 [] = some [.bool true] := V_run 600 (by kernel_rfl)
end Go.CT.Sch
namespace Go.CT.Sch
open Go.Proofs
theorem fwt_str {x : IV} (h : WT Tryz.prog 9 x) : ∃ s, x = .str s := by
 obtain ⟨s, rfl, _⟩ := h.str_inv (by kernel_rfl)
 exact ⟨s, rfl⟩
theorem fwt_strs {x : IV} (h : WT Tryz.prog 22 x) : ∃ l : List ByteArray, x = .list (l.map .str) := by
 obtain ⟨xs, rfl, _, h⟩ := h.list_inv (e := 9) (by kernel_rfl)
 obtain ⟨es, rfl, _⟩ := list_form (enc := IV.str) (ok := fun _ => True) (xs := xs) fun x hx => by
  obtain ⟨s, e⟩ := fwt_str (h x hx)
  exact ⟨s, e, trivial⟩
 exact ⟨es, rfl⟩
end Go.CT.Sch
