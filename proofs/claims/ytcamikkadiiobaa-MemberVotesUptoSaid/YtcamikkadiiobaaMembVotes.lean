import Derived.Test.YtcamikkadiiobaaMembQ
import Derived.Test.YtcamikkadiiobaaMembGVotes
set_option linter.unusedVariables false
set_option linter.unusedSimpArgs false
namespace Go.CT.Memb
open Go.Proofs

/-! ## The law MemberKeeps -/
set_option maxRecDepth 100000 in
theorem lives : W f_law26_lives 0 [] = some [.bool true] := V_run 1000 (by kernel_rfl)
theorem fold_enc (n : N) : IV.agg [.int n.id, .int n.size, .int n.role, .int n.term, .int n.vote, .int n.lead, .int n.el, .int n.to, .list (n.vs.map IV.int), .list (n.nx.map IV.int), .list (n.mt.map IV.int), .int n.com, .int n.app, .int n.b, .int n.bt, .list (n.es.map E.enc), .str n.sn] = n.enc := rfl
/-- What's asked of an operation. -/
def AOk (a : Act) : Prop := GOk a.x ∧ 0 ≤ a.kind
theorem few_2 (l : List Act) (i : Nat) (es : List E) (hl : l.length ≤ 1048576) (hi : i < l.length) (he : es.length ≤ 1048576) (next : ∃ b, W f_law26_few 1 [.list (l.map Act.enc), .int l.length, .int (i + 1 : Nat)] = some [.bool b]) : ∀ (n k : Nat), k + n = es.length →
    ∃ b, W f_law26_few 2 [.list (l.map Act.enc), .int l.length, .int i, .list (es.map E.enc), .int es.length, .int k] = some [.bool b]
  | 0, k, h => by
    obtain ⟨b, hb⟩ := next
    have h1 : ¬ k < es.length := by omega
    have hw : IntKind.i64.wrap ((i : Int) + 1) = ((i + 1 : Nat) : Int) := by rw [wrap64 (by omega) (by omega)]; rfl
    refine ⟨b, ?_⟩
    rw [e_f_law26_few_2]
    simp only [O.lt_int, lt_cast, h1, decide_false, Option.bind_some, O.cnd_bool, Bool.false_eq_true, if_false, O.add_int, hw, hb]
  | n + 1, k, h => by
    have h1 : k < es.length := by omega
    have hw : IntKind.i64.wrap ((k : Int) + 1) = ((k + 1 : Nat) : Int) := by rw [wrap64 (by omega) (by omega)]; rfl
    obtain ⟨b, hb⟩ := few_2 l i es hl hi he next n (k + 1) (by omega)
    rw [e_f_law26_few_2]
    simp only [O.lt_int, lt_cast, h1, decide_true, Option.bind_some, O.cnd_bool, if_true, O.index_list, Int.natCast_nonneg, Int.toNat_natCast, List.getElem?_map, List.getElem?_eq_getElem h1, Option.map_some, E.enc, O.proj_agg, List.getElem?_cons_succ, List.getElem?_cons_zero, O.slen_str, O.gt_int, O.add_int, hw, hb]
    by_cases c : (300 : Int) < (es[k].d.size : Int)
    · exact ⟨false, by simp only [c, decide_true, if_true]⟩
    · exact ⟨b, by simp only [c, decide_false, Bool.false_eq_true, if_false]⟩
theorem Act.pre (a : Act) : O.proj 9 a.enc = some (.list (a.x.es.map E.enc)) := rfl
theorem Act.prs (a : Act) : O.proj 10 a.enc = some (.str a.x.sn) := rfl
theorem ite_any (c : Bool) (p q : Bool) : ∃ b, some (if c = true then [IV.bool p] else [IV.bool q]) = some [IV.bool b] := by
  cases c
  · exact ⟨q, rfl⟩
  · exact ⟨p, rfl⟩
theorem few_1 (l : List Act) (hl : l.length ≤ 1048576) (ha : ∀ a ∈ l, AOk a) : ∀ (n i : Nat), i + n = l.length → ∃ b, W f_law26_few 1 [.list (l.map Act.enc), .int l.length, .int i] = some [.bool b]
  | 0, i, h => by
    have h1 : ¬ i < l.length := by omega
    refine ⟨true, ?_⟩
    rw [e_f_law26_few_1]
    simp only [O.lt_int, lt_cast, h1, decide_false, Option.bind_some, O.cnd_bool, Bool.false_eq_true, if_false]
  | n + 1, i, h => by
    have h1 : i < l.length := by omega
    have he := (ha _ (List.getElem_mem h1)).1.es
    obtain ⟨b, hb⟩ := few_2 l i l[i].x.es hl h1 he (few_1 l hl ha n (i + 1) (by omega)) l[i].x.es.length 0 (by omega)
    simp only [Int.cast_ofNat_Int] at hb
    rw [e_f_law26_few_1]
    simp only [O.lt_int, lt_cast, h1, decide_true, Option.bind_some, O.cnd_bool, if_true, O.index_list, Int.natCast_nonneg, Int.toNat_natCast, List.getElem?_map, List.getElem?_eq_getElem h1, Option.map_some, Act.prd, Act.pre, Act.prs, O.slen_str, O.gt_int, O.le_int, O.len_list, List.length_map, ite_some, ite_ivbool, hb]
    exact ite_any _ _ _
theorem p_few (l : List Act) (hl : l.length ≤ 1048576) (ha : ∀ a ∈ l, AOk a) : ∃ b, W f_law26_few 0 [.list (l.map Act.enc)] = some [.bool b] ∧ (b = true → l.length ≤ 40) := by
  obtain ⟨b, hb⟩ := few_1 l hl ha l.length 0 (by omega)
  simp only [Int.cast_ofNat_Int] at hb
  rw [e_f_law26_few_0]
  simp only [O.len_list, List.length_map, Option.bind_some, O.gt_int, O.cnd_bool, decide_eq_true_eq, hb]
  by_cases c : (40 : Int) < (l.length : Int)
  · exact ⟨false, by simp only [c, if_true], by simp⟩
  · exact ⟨b, by simp only [c, if_false], fun _ => by omega⟩
theorem ane_e (e f : E) : O.aNe e.enc f.enc = some (.bool (!decide (e = f))) := by
  simp only [E.enc, O.aNe_agg, eq_leaves, Option.map_some]
theorem keep_get {n x : N} {i : Int} (h1 : n.b < i) (h2 : x.b < i) (h3 : i ≤ lastI n.l) (hk : n.es[(i - n.b).toNat - 1]? = x.es[(i - x.b).toNat - 1]?) :
    ∃ e : E, O.index (.list (n.es.map E.enc)) (.int (i - n.b - 1)) = some e.enc ∧ O.index (.list (x.es.map E.enc)) (.int (i - x.b - 1)) = some e.enc := by
  have h4 : i ≤ n.b + n.es.length := h3
  have hlt : (i - n.b).toNat - 1 < n.es.length := by omega
  rw [List.getElem?_eq_getElem hlt] at hk
  have e1 : (i - n.b - 1).toNat = (i - n.b).toNat - 1 := by omega
  have e2 : (i - x.b - 1).toNat = (i - x.b).toNat - 1 := by omega
  refine ⟨n.es[(i - n.b).toNat - 1], ?_, ?_⟩
  · rw [O.index_list, if_pos (by omega), e1, List.getElem?_map, List.getElem?_eq_getElem hlt]; rfl
  · rw [O.index_list, if_pos (by omega), e2, List.getElem?_map, ← hk]; rfl
theorem keeps_2 (n x : N) (hn : fine n.l) (hx : fine x.l) (hc : n.com ≤ lastI n.l) (hk : Keep n.com n x) (A B C : IV) : ∀ (k : Nat) (i : Int), i + k ≤ n.com + 1 ∧ (n.com + 1 ≤ i + k) ∨ (k = 0 ∧ n.com < i) → n.b < i → x.b < i → i ≤ 4000000000000000 →
    W f_law26_MemberKeeps 2 [.int (lastI x.l), .int i, A, B, C, .int n.id, .int n.size, .int n.role, .int n.term, .int n.vote, .int n.lead, .int n.el, .int n.to, .list (n.vs.map IV.int), .list (n.nx.map IV.int), .list (n.mt.map IV.int), .int n.com, .int n.app, .int n.b, .int n.bt, .list (n.es.map E.enc), .str n.sn, .int x.id, .int x.size, .int x.role, .int x.term, .int x.vote, .int x.lead, .int x.el, .int x.to, .int x.com, .int x.app, .int x.b, .int x.bt, .str x.sn, .list (x.vs.map IV.int), .list (x.nx.map IV.int), .list (x.mt.map IV.int), .list (x.es.map E.enc)] = (O.add .i64 C (.int 1)).bind fun z => W f_law26_MemberKeeps 1 [A, B, z, .int x.id, .int x.size, .int x.role, .int x.term, .int x.vote, .int x.lead, .int x.el, .int x.to, .int x.com, .int x.app, .int x.b, .int x.bt, .str x.sn, .list (x.vs.map IV.int), .list (x.nx.map IV.int), .list (x.mt.map IV.int), .list (x.es.map E.enc)]
  | 0, i, h, h1, h2, h3 => by
    rw [e_f_law26_MemberKeeps_2]
    have c : ¬ i ≤ n.com := by omega
    simp only [O.le_int, c, decide_false, Option.bind_some, O.cnd_bool, Bool.false_eq_true, if_false]
  | k + 1, i, h, h1, h2, h3 => by
    rw [e_f_law26_MemberKeeps_2]
    have c : i ≤ n.com := by omega
    obtain ⟨k1, k2⟩ := hk i h1 h2 c
    obtain ⟨e, g1, g2⟩ := keep_get h1 h2 (by omega) k2
    have f1 : 0 ≤ n.b := hn.1
    have f2 : 0 ≤ x.b := hx.1
    have c2 : ¬ lastI x.l < i := by omega
    have w1 : IntKind.i64.wrap (i - n.b) = i - n.b := wrap64 (by omega) (by omega)
    have w2 : IntKind.i64.wrap (i - n.b - 1) = i - n.b - 1 := wrap64 (by omega) (by omega)
    have w3 : IntKind.i64.wrap (i - x.b) = i - x.b := wrap64 (by omega) (by omega)
    have w4 : IntKind.i64.wrap (i - x.b - 1) = i - x.b - 1 := wrap64 (by omega) (by omega)
    have w5 : IntKind.i64.wrap (i + 1) = i + 1 := wrap64 (by omega) (by omega)
    have hl := last_bd hn
    have ih := keeps_2 n x hn hx hc hk A B C k (i + 1) (by omega) (by omega) (by omega) (by omega)
    simp only [O.le_int, c, decide_true, Option.bind_some, O.cnd_bool, if_true, O.gt_int, c2, decide_false, Bool.false_eq_true, if_false, O.sub_int, w1, w2, w3, w4, g1, g2, ane_e, Bool.not_true, O.add_int, w5, ih]
theorem p_valid {n : N} (h : valid n.l = true) : W f_ref25_Valid 0 [.agg [.int n.b, .int n.bt, .list (n.es.map E.enc)]] = some [.bool true] := by
  have hf := (valid_inv h).1
  rw [ref_valid n.b n.bt n.es (by have := hf.2.2.2.2.2; have h2 : n.es.length ≤ 400 := this; omega)]
  have : valid ⟨n.b, n.bt, n.es⟩ = true := h
  rw [this]
theorem keep_rest (n : N) (c : Int) (hc : c ≤ lastI n.l) : Keep c n (restF n) := (keep_same (n := n) (x := restF n) rfl rfl).le hc
theorem keeps_1 (l : List Act) (hl : l.length ≤ 40) (ha : ∀ a ∈ l, AOk a) : ∀ (k i : Nat) (n : N), i + k = l.length → Ok i n →
    W f_law26_MemberKeeps 1 [.list (l.map Act.enc), .int l.length, .int i, .int n.id, .int n.size, .int n.role, .int n.term, .int n.vote, .int n.lead, .int n.el, .int n.to, .int n.com, .int n.app, .int n.b, .int n.bt, .str n.sn, .list (n.vs.map IV.int), .list (n.nx.map IV.int), .list (n.mt.map IV.int), .list (n.es.map E.enc)] = some [.bool true]
  | 0, i, n, h, hn => by
    have h1 : ¬ i < l.length := by omega
    rw [e_f_law26_MemberKeeps_1]
    simp only [O.lt_int, lt_cast, h1, decide_false, Option.bind_some, O.cnd_bool, Bool.false_eq_true, if_false, lives, O.calls_1]
  | k + 1, i, n, h, hn => by
    have h1 : i < l.length := by omega
    have hao := ha _ (List.getElem_mem h1)
    have hd := p_do n l[i] hn (by omega) hao.1
    have hx := ok_do (a := l[i]) hn
    have hst := step_do (a := l[i]) hn
    generalize doF n l[i] = x at hd hx hst
    have hlast := ref_last x.b x.bt x.es hx.tame
    have hv := p_valid hx.val
    have hw : IntKind.i64.wrap ((i : Int) + 1) = ((i + 1 : Nat) : Int) := by rw [wrap64 (by omega) (by omega)]; rfl
    have ih := keeps_1 l hl ha k (i + 1) x (by omega) hx
    have hcx := hx.com
    have hcn := hn.com
    have hax := hx.app
    have hkeep : Keep n.com n x := by
      rcases hst with h | ⟨_, rfl⟩
      · exact h.keep
      · exact keep_rest n _ hcn.2
    have hup : x.com < n.com → ¬ l[i].kind < 4 := fun hlt => by
      rcases hst with h | ⟨h, _⟩
      · have := h.up; omega
      · have := hao.2; omega
    have c1 : ¬ x.com < x.b := by omega
    have c2 : ¬ lastI ⟨x.b, x.bt, x.es⟩ < x.com := by have : x.com ≤ lastI ⟨x.b, x.bt, x.es⟩ := hcx.2; omega
    have hbn := hn.fine
    have hbx := hx.fine
    have b1 : 0 ≤ n.b := hbn.1
    have b2 : n.b ≤ 1000000000000000 := hbn.2.1
    have b3 : 0 ≤ x.b := hbx.1
    have b4 : x.b ≤ 1000000000000000 := hbx.2.1
    rw [e_f_law26_MemberKeeps_1]
    have hcond : (if decide (x.com < n.com) = true then some (IV.bool (decide (l[i].kind < 4))) else some (IV.bool false)) = some (IV.bool false) := by
      by_cases c : x.com < n.com
      · simp [c, hup c]
      · simp [c]
    have hmax : IntKind.i64.wrap ((if n.b < x.b then x.b else n.b) + 1) = (if n.b < x.b then x.b else n.b) + 1 := by
      split <;> exact wrap64 (by omega) (by omega)
    have hlb := last_bd hbn
    have h2 := keeps_2 n x hbn hbx hcn.2 hkeep (.list (l.map Act.enc)) (.int l.length) (.int i) (n.com + 1 - ((if n.b < x.b then x.b else n.b) + 1)).toNat ((if n.b < x.b then x.b else n.b) + 1) (by split <;> omega) (by split <;> omega) (by split <;> omega) (by split <;> omega)
    simp only [O.lt_int, lt_cast, h1, decide_true, Option.bind_some, O.cnd_bool, if_true, O.index_list, Int.natCast_nonneg, Int.toNat_natCast, List.getElem?_map, List.getElem?_eq_getElem h1, Option.map_some, O.mkagg_eq, fold_enc, hd, calls_allE, hlast, O.calls_2, O.gt_int, hax, O.ne_int, c1, c2, decide_false, Bool.not_true, Bool.false_eq_true, if_false, Act.pr0, hcond, hv, O.calls_1, O.not_bool, O.max_int, O.add_int, hmax]
    rw [hax] at h2
    show W f_law26_MemberKeeps 2 [.int (lastI x.l), _, _, _, _, .int n.id, .int n.size, .int n.role, .int n.term, .int n.vote, .int n.lead, .int n.el, .int n.to, .list (n.vs.map IV.int), .list (n.nx.map IV.int), .list (n.mt.map IV.int), .int n.com, .int n.app, .int n.b, .int n.bt, .list (n.es.map E.enc), .str n.sn, .int x.id, .int x.size, .int x.role, .int x.term, .int x.vote, .int x.lead, .int x.el, .int x.to, .int x.com, .int x.com, .int x.b, .int x.bt, .str x.sn, .list (x.vs.map IV.int), .list (x.nx.map IV.int), .list (x.mt.map IV.int), .list (x.es.map E.enc)] = _
    rw [h2]
    simp only [O.add_int, Option.bind_some, hw]
    rw [hax] at ih
    exact ih
theorem law_keeps (i s t : Int) (l : List Act) (hl : l.length ≤ 1048576) (ha : ∀ a ∈ l, AOk a) : W f_law26_MemberKeeps 0 [.agg [.int i, .int s, .int t], .list (l.map Act.enc)] = some [.bool true] := by
  obtain ⟨b, hb, hb2⟩ := p_few l hl ha
  rw [e_f_law26_MemberKeeps_0]
  simp only [O.proj_agg, List.getElem?_cons_succ, List.getElem?_cons_zero, Option.bind_some, p_new, hb, O.calls_1]
  by_cases c : startOk i s t = true
  · rw [if_pos c]
    cases b with
    | false => simp only [calls_cellsE, O.not_bool, Bool.not_false, Option.bind_some, O.cnd_bool, if_true, lives, O.calls_1]
    | true =>
      have := keeps_1 l (hb2 rfl) ha l.length 0 (start i s t) (by omega) (ok_start c)
      simp only [Int.cast_ofNat_Int] at this
      simp only [calls_cellsE, O.not_bool, Bool.not_true, Option.bind_some, O.cnd_bool, Bool.false_eq_true, if_false, O.ne_int, decide_true, O.len_list, List.length_map, this]
  · rw [if_neg c]
    cases b <;> simp [calls_cellsE, lives]
end Go.CT.Memb

namespace Go.CT.Memb
open Go.Proofs
/-! ## From the types to the data -/
theorem wt_int {x : IV} (h : WT Try.prog 3 x) : ∃ n, x = .int n ∧ I64 n := by
  obtain ⟨n, rfl, h1, h2⟩ := h.int_inv (k := .i64) (by kernel_rfl)
  rw [i64_min] at h1; rw [i64_max] at h2
  exact ⟨n, rfl, h1, h2⟩
theorem wt_byte {x : IV} (h : WT Try.prog 5 x) : ∃ n, x = .int n ∧ 0 ≤ n := by
  obtain ⟨n, rfl, h1, h2⟩ := h.int_inv (k := .u8) (by kernel_rfl)
  exact ⟨n, rfl, by have : IntKind.u8.min = 0 := by decide
                    omega⟩
theorem wt_bool {x : IV} (h : WT Try.prog 4 x) : ∃ b, x = .bool b := h.bool_inv (by kernel_rfl)
theorem wt_e {x : IV} (h : WT Try.prog 40 x) : ∃ e : E, x = e.enc ∧ True := by
  obtain ⟨xs, rfl, h2⟩ := h.agg_inv (ts := [3, 9]) (by kernel_rfl) (by kernel_rfl)
  obtain ⟨a, xs, rfl, ha, h⟩ := h2.cons_inv
  obtain ⟨b, xs, rfl, hb, h⟩ := h.cons_inv
  obtain rfl := h.nil_inv
  obtain ⟨n, rfl, hn⟩ := wt_int ha
  obtain ⟨s, rfl, _⟩ := hb.str_inv (by kernel_rfl)
  exact ⟨⟨n, s⟩, rfl, trivial⟩
theorem wt_es {x : IV} (h : WT Try.prog 22 x) : ∃ es : List E, x = .list (es.map E.enc) ∧ es.length + 1 ≤ x.bulk := by
  obtain ⟨xs, rfl, _, h⟩ := h.list_inv (e := 40) (by kernel_rfl)
  obtain ⟨es, rfl, he⟩ := list_form fun x hx => wt_e (h x hx)
  refine ⟨es, rfl, ?_⟩
  have := length_le_bulks (es.map E.enc)
  simp only [IV.bulk, List.length_map] at this ⊢
  omega
theorem wt_msgs {xs : List IV} (h : WTs Try.prog [3, 3, 3, 3, 3, 3, 3, 4, 22, 9] xs) (hb : IV.bulks xs ≤ 1048576) : ∃ g : G, xs = [.int g.kind, .int g.fr, .int g.to, .int g.term, .int g.ix, .int g.lt, .int g.com, .bool g.ok, .list (g.es.map E.enc), .str g.sn] ∧ GOk g := by
  obtain ⟨x1, xs, rfl, a1, h⟩ := h.cons_inv
  obtain ⟨x2, xs, rfl, a2, h⟩ := h.cons_inv
  obtain ⟨x3, xs, rfl, a3, h⟩ := h.cons_inv
  obtain ⟨x4, xs, rfl, a4, h⟩ := h.cons_inv
  obtain ⟨x5, xs, rfl, a5, h⟩ := h.cons_inv
  obtain ⟨x6, xs, rfl, a6, h⟩ := h.cons_inv
  obtain ⟨x7, xs, rfl, a7, h⟩ := h.cons_inv
  obtain ⟨x8, xs, rfl, a8, h⟩ := h.cons_inv
  obtain ⟨x9, xs, rfl, a9, h⟩ := h.cons_inv
  obtain ⟨x10, xs, rfl, a10, h⟩ := h.cons_inv
  obtain rfl := h.nil_inv
  obtain ⟨n1, rfl, _⟩ := wt_int a1
  obtain ⟨n2, rfl, _⟩ := wt_int a2
  obtain ⟨n3, rfl, _⟩ := wt_int a3
  obtain ⟨n4, rfl, _⟩ := wt_int a4
  obtain ⟨n5, rfl, i5⟩ := wt_int a5
  obtain ⟨n6, rfl, _⟩ := wt_int a6
  obtain ⟨n7, rfl, _⟩ := wt_int a7
  obtain ⟨n8, rfl⟩ := wt_bool a8
  obtain ⟨es, rfl, hl⟩ := wt_es a9
  obtain ⟨s, rfl, _⟩ := a10.str_inv (by kernel_rfl)
  simp only [IV.bulks] at hb
  exact ⟨⟨n1, n2, n3, n4, n5, n6, n7, n8, es, s⟩, rfl, i5, by show es.length ≤ 1048576; omega⟩
theorem wt_msg {x : IV} (h : WT Try.prog 74 x) (hb : x.bulk ≤ 1048576) : ∃ g : G, x = g.enc ∧ GOk g := by
  obtain ⟨xs, rfl, h2⟩ := h.agg_inv (ts := [3, 3, 3, 3, 3, 3, 3, 4, 22, 9]) (by kernel_rfl) (by kernel_rfl)
  simp only [IV.bulk] at hb
  obtain ⟨g, rfl, hg⟩ := wt_msgs h2 (by omega)
  exact ⟨g, rfl, hg⟩
theorem wts_split : ∀ {ts us : List TypeId} {xs : List IV}, WTs Try.prog (ts ++ us) xs → ∃ ys zs, xs = ys ++ zs ∧ WTs Try.prog ts ys ∧ WTs Try.prog us zs
  | [], us, xs, h => ⟨[], xs, rfl, trivial, h⟩
  | t :: ts, us, xs, h => by
    obtain ⟨a, xs, rfl, ha, h⟩ := WTs.cons_inv (t := t) (ts := ts ++ us) h
    obtain ⟨ys, zs, rfl, h1, h2⟩ := wts_split h
    exact ⟨a :: ys, zs, rfl, ⟨ha, h1⟩, h2⟩
theorem bulks_append (xs ys : List IV) : IV.bulks (xs ++ ys) = IV.bulks xs + IV.bulks ys := by
  induction xs with
  | nil => simp [IV.bulks]
  | cons x xs ih => simp [IV.bulks, ih]; omega
theorem wt_act {x : IV} (h : WT Try.prog 76 x) (hb : x.bulk ≤ 1048576) : ∃ a : Act, x = a.enc ∧ AOk a := by
  obtain ⟨xs, rfl, h2⟩ := h.agg_inv (ts := [5, 3, 3, 3, 3, 3, 3, 3, 4, 22, 9, 9, 3]) (by kernel_rfl) (by kernel_rfl)
  obtain ⟨x1, xs, rfl, a1, h⟩ := h2.cons_inv
  obtain ⟨ys, zs, rfl, h1, h3⟩ := wts_split (ts := [3, 3, 3, 3, 3, 3, 3, 4, 22, 9]) (us := [9, 3]) h
  simp only [IV.bulk, IV.bulks, bulks_append] at hb
  obtain ⟨g, rfl, hg⟩ := wt_msgs h1 (by omega)
  obtain ⟨x2, xs, rfl, a2, h⟩ := h3.cons_inv
  obtain ⟨x3, xs, rfl, a3, h⟩ := h.cons_inv
  obtain rfl := h.nil_inv
  obtain ⟨k, rfl, hk⟩ := wt_byte a1
  obtain ⟨d, rfl, _⟩ := a2.str_inv (by kernel_rfl)
  obtain ⟨i, rfl, _⟩ := wt_int a3
  exact ⟨⟨k, g, d, i⟩, rfl, hg, hk⟩
theorem wt_acts {x : IV} (h : WT Try.prog 64 x) (hb : x.bulk ≤ 1048576) : ∃ l : List Act, x = .list (l.map Act.enc) ∧ l.length ≤ 1048576 ∧ ∀ a ∈ l, AOk a := by
  obtain ⟨xs, rfl, _, h⟩ := h.list_inv (e := 76) (by kernel_rfl)
  simp only [IV.bulk] at hb
  obtain ⟨l, rfl, hl⟩ := list_form fun y hy => wt_act (h y hy) (by have := bulk_mem hy; omega)
  refine ⟨l, rfl, ?_, hl⟩
  have := length_le_bulks (l.map Act.enc)
  simp only [List.length_map] at this
  omega
theorem wt_start {x : IV} (h : WT Try.prog 63 x) : ∃ i s t : Int, x = .agg [.int i, .int s, .int t] := by
  obtain ⟨xs, rfl, h2⟩ := h.agg_inv (ts := [3, 3, 3]) (by kernel_rfl) (by kernel_rfl)
  obtain ⟨a, xs, rfl, ha, h⟩ := h2.cons_inv
  obtain ⟨b, xs, rfl, hb, h⟩ := h.cons_inv
  obtain ⟨c, xs, rfl, hc, h⟩ := h.cons_inv
  obtain rfl := h.nil_inv
  obtain ⟨i, rfl, _⟩ := wt_int ha
  obtain ⟨s, rfl, _⟩ := wt_int hb
  obtain ⟨t, rfl, _⟩ := wt_int hc
  exact ⟨i, s, t, rfl⟩
end Go.CT.Memb

namespace Go.CT.Memb
open Go.Proofs

/-! ## The law MemberVotes -/
theorem bcast_len {n : N} (h : n.size ≤ 7) : (bcast n).length ≤ 7 := by
  have := msgs_len n n.size.toNat 0
  unfold bcast; omega
theorem sayAdv_out (m : N) : (sayAdv m).out = m.out ++ bcast m := by
  unfold sayAdv
  split
  · obtain ⟨c, d, h⟩ := advF_upto (say m)
    rw [h]; rfl
  · rfl
theorem out_led {n m : N} (hs : m.size ≤ 7) (ho : m.out = []) : (sayAdv (ownF m)).out.length ≤ 7 := by
  rw [sayAdv_out]
  have h1 : (ownF m).out = [] := ho
  have h2 := bcast_len (n := ownF m) hs
  rw [h1]; simpa using h2
theorem out_lead {n : N} (hs : n.size ≤ 7) (ho : n.out = []) : (leadF n).out.length ≤ 7 := by
  obtain ⟨b1, b2, b3, b4, b5, b6, b7, b8, b9, b10⟩ := lead1_rest n
  exact out_led (n := n) (by omega) (by rw [b10, ho])
theorem out_tick {n : N} (hs : n.size ≤ 7) : (tickF n).out.length ≤ 7 := by
  unfold tickF
  split
  · show ([] ++ bcast (bare n)).length ≤ 7
    simpa using bcast_len (n := bare n) hs
  · split
    · unfold electF
      split
      · exact out_lead (n := elect0 {bare n with el := n.el + 1}) hs rfl
      · show ([] ++ asks _ _ _ _ _).length ≤ 7
        have := asks_len (elect0 {bare n with el := n.el + 1}) (lastI n.l) (lastT n.l) n.size.toNat 0
        simp only [List.nil_append]
        exact Nat.le_trans this (by omega)
    · exact Nat.zero_le _
theorem out_sendF {n : N} {j : Int} {x : G} (h : n.out = []) : (sendF n j x).out.length ≤ 7 := by rw [out_send n j x h]; simp
theorem out_kind {n : N} {x : G} (hs : n.size ≤ 7) (ho : n.out = []) : (kindF n x).out.length ≤ 7 := by
  unfold kindF
  split
  · unfold voteF
    exact out_sendF (by split <;> exact ho)
  · split
    · unfold votedF
      split
      · rw [ho]; simp
      · split
        · exact out_lead (n := {n with vs := putF n.vs x.fr}) hs ho
        · show n.out.length ≤ 7
          rw [ho]; simp
    · split
      · unfold entriesF
        split
        · rw [ho]; simp
        · refine out_sendF ?_
          split
          · unfold commitF
            split <;> exact ho
          · exact ho
      · split
        · unfold ackF
          split
          · rw [ho]; simp
          · split
            · split
              · show (n.out ++ [_]).length ≤ 7
                rw [ho]; simp
              · rw [ho]; simp
            · split
              · rw [ho]; simp
              · obtain ⟨c, d, h⟩ := advF_upto {n with mt := n.mt.set x.fr.toNat (minI x.ix (lastI n.l)), nx := n.nx.set x.fr.toNat (minI x.ix (lastI n.l) + 1)}
                rw [h]
                split
                · show (n.out ++ [_]).length ≤ 7
                  rw [ho]; simp
                · show n.out.length ≤ 7
                  rw [ho]; simp
        · split
          · unfold snapF
            split
            · rw [ho]; simp
            · split
              · exact out_sendF ho
              · refine out_sendF ?_
                unfold commitF
                split <;> exact ho
          · rw [ho]; simp
theorem out_handle {n : N} {x : G} (hs : n.size ≤ 7) : (handleF n x).out.length ≤ 7 := by
  unfold handleF
  split
  · exact Nat.zero_le _
  · split
    · unfold staleF
      split
      · exact out_sendF rfl
      · split
        · exact out_sendF rfl
        · exact Nat.zero_le _
    · refine out_kind ?_ ?_
      · unfold termF; split <;> exact hs
      · unfold termF; split <;> rfl
theorem out_do {n : N} {a : Act} (hs : n.size ≤ 7) : (doF n a).out.length ≤ 7 := by
  unfold doF
  split
  · exact out_tick hs
  · split
    · exact out_handle hs
    · split
      · unfold propF
        split
        · exact Nat.zero_le _
        · exact out_led (n := n) (m := addF (bare n) a.d) hs rfl
      · split
        · rw [comp_out]; simp
        · exact Nat.zero_le _

/-- A vote: the term, and for whom. -/
def VT (p : Int × Int) : IV := .agg [.int p.1, .int p.2]
def isYes (y : G) : Bool := decide (y.kind = 2) && y.ok
def yes (l : List G) : List (Int × Int) := (l.filter isYes).map fun y => (y.term, y.to)
theorem yes_cons (y : G) (l : List G) : yes (y :: l) = (if isYes y = true then [(y.term, y.to)] else []) ++ yes l := by
  unfold yes
  rw [List.filter_cons]
  cases isYes y <;> rfl
theorem votes_4 (n x : N) (A B C S : IV) (ho : x.out.length ≤ 7) : ∀ (k j : Nat) (V : List (Int × Int)), j + k = x.out.length → V.length + k ≤ 1000 →
    W f_law26_MemberVotes 4 [A, B, C, .int x.out.length, .int j, S, .int n.id, .int n.size, .int n.role, .int n.term, .int n.vote, .int n.lead, .int n.el, .int n.to, .list (n.vs.map IV.int), .list (n.nx.map IV.int), .list (n.mt.map IV.int), .int n.com, .int n.app, .int n.b, .int n.bt, .list (n.es.map E.enc), .str n.sn, .list (V.map VT), .int x.id, .int x.size, .int x.role, .int x.term, .int x.vote, .int x.lead, .int x.el, .int x.to, .int x.com, .int x.app, .int x.b, .int x.bt, .str x.sn, .list (x.out.map G.enc), .list (x.vs.map IV.int), .list (x.nx.map IV.int), .list (x.mt.map IV.int), .list (x.es.map E.enc)] =
      (O.add .i64 C (.int 1)).bind fun z => W f_law26_MemberVotes 1 [A, B, z, S, .int x.id, .int x.size, .int x.role, .int x.term, .int x.vote, .int x.lead, .int x.el, .int x.to, .int x.com, .int x.app, .int x.b, .int x.bt, .str x.sn, .list ((V ++ yes (x.out.drop j)).map VT), .list (x.vs.map IV.int), .list (x.nx.map IV.int), .list (x.mt.map IV.int), .list (x.es.map E.enc)]
  | 0, j, V, hk, hv => by
    have h1 : ¬ j < x.out.length := by omega
    rw [e_f_law26_MemberVotes_4, List.drop_of_length_le (by omega)]
    simp only [O.lt_int, lt_cast, h1, decide_false, Option.bind_some, O.cnd_bool, Bool.false_eq_true, if_false, yes, List.filter_nil, List.map_nil, List.append_nil]
  | k + 1, j, V, hk, hv => by
    have h1 : j < x.out.length := by omega
    have hw : IntKind.i64.wrap ((j : Int) + 1) = ((j + 1 : Nat) : Int) := by rw [wrap64 (by omega) (by omega)]; rfl
    have hc : (V.length + 1) * 16 ≤ maxBytes := cap (by omega) (by omega)
    rw [List.drop_eq_getElem_cons h1, yes_cons]
    conv => lhs; rw [e_f_law26_MemberVotes_4]
    simp only [O.lt_int, lt_cast, h1, decide_true, Option.bind_some, O.cnd_bool, if_true, O.index_list, Int.natCast_nonneg, Int.toNat_natCast, List.getElem?_map, List.getElem?_eq_getElem h1, Option.map_some, G.p0, G.p2, G.p3, G.p7, O.eq_int, O.mkagg_eq, O.mklist_eq, O.append_list, List.length_map, List.length_singleton, hc, e_f_law26_MemberVotes_6, O.add_int, hw]
    have hy : (if decide (x.out[j].kind = 2) = true then some (IV.bool x.out[j].ok) else some (IV.bool false)) = some (.bool (isYes x.out[j])) := by
      unfold isYes
      by_cases c : x.out[j].kind = 2 <;> simp [c]
    rw [hy]
    cases hyy : isYes x.out[j] with
    | true =>
      have ih := votes_4 n x A B C S ho k (j + 1) (V ++ [(x.out[j].term, x.out[j].to)]) (by omega) (by simp; omega)
      simp only [Option.bind_some, O.cnd_bool, if_true]
      rw [List.append_assoc] at ih
      rw [← ih]
      simp only [List.map_append, List.map_cons, List.map_nil, VT]
    | false =>
      have ih := votes_4 n x A B C S ho k (j + 1) V (by omega) (by omega)
      simp only [Option.bind_some, O.cnd_bool, Bool.false_eq_true, if_false, List.nil_append]
      exact ih
/-- In a term there is one vote. -/
def One (V : List (Int × Int)) : Prop := ∀ p ∈ V, ∀ q ∈ V, p.1 = q.1 → p.2 = q.2
theorem votes_5 (V : List (Int × Int)) (i : Nat) (p : Int × Int) (hV : One V) (hp : p ∈ V) (hi : i ≤ V.length) (hl : V.length ≤ 1000) : ∀ (k j : Nat), j + k = i →
    W f_law26_MemberVotes 5 [.list (V.map VT), .list (V.map VT), .int V.length, .int i, .list ((V.take i).map VT), .int i, .int j, VT p] = W f_law26_MemberVotes 3 [.list (V.map VT), .list (V.map VT), .int V.length, .int (i + 1 : Nat)]
  | 0, j, hk => by
    have h1 : ¬ j < i := by omega
    have hw : IntKind.i64.wrap ((i : Int) + 1) = ((i + 1 : Nat) : Int) := by rw [wrap64 (by omega) (by omega)]; rfl
    rw [e_f_law26_MemberVotes_5]
    simp only [O.lt_int, lt_cast, h1, decide_false, Option.bind_some, O.cnd_bool, Bool.false_eq_true, if_false, O.add_int, hw]
  | k + 1, j, hk => by
    have h1 : j < i := by omega
    have hw : IntKind.i64.wrap ((j : Int) + 1) = ((j + 1 : Nat) : Int) := by rw [wrap64 (by omega) (by omega)]; rfl
    have hj : (V.take i)[j]? = some (V[j]'(by omega)) := by rw [List.getElem?_take, if_pos h1, List.getElem?_eq_getElem (by omega)]
    have ih := votes_5 V i p hV hp hi hl k (j + 1) (by omega)
    have hone := hV p hp (V[j]'(by omega)) (List.getElem_mem _)
    rw [e_f_law26_MemberVotes_5]
    simp only [O.lt_int, lt_cast, h1, decide_true, Option.bind_some, O.cnd_bool, if_true, O.index_list, Int.natCast_nonneg, Int.toNat_natCast, List.getElem?_map, hj, Option.map_some]
    unfold VT at *
    simp only [O.proj_agg, List.getElem?_cons_succ, List.getElem?_cons_zero, Option.bind_some, O.eq_int, O.ne_int, O.cnd_bool, O.add_int, hw, ite_some, ite_ivbool]
    by_cases c : p.1 = (V[j]'(by omega)).1
    · have := hone c
      simp only [c, this, decide_true, if_true, Bool.not_true, Bool.false_eq_true, if_false]
      rw [c, this] at ih
      exact ih
    · simp only [c, decide_false, Bool.false_eq_true, if_false]
      exact ih
theorem votes_3 (V : List (Int × Int)) (hV : One V) (hl : V.length ≤ 1000) : ∀ (k i : Nat), i + k = V.length → W f_law26_MemberVotes 3 [.list (V.map VT), .list (V.map VT), .int V.length, .int i] = some [.bool true]
  | 0, i, h => by
    have h1 : ¬ i < V.length := by omega
    rw [e_f_law26_MemberVotes_3]
    simp only [O.lt_int, lt_cast, h1, decide_false, Option.bind_some, O.cnd_bool, Bool.false_eq_true, if_false, lives, O.calls_1]
  | k + 1, i, h => by
    have h1 : i < V.length := by omega
    have h5 := votes_5 V i V[i] hV (List.getElem_mem h1) (by omega) hl i 0 (by omega)
    have hs : O.slice (.list (V.map VT)) (.int 0) (.int i) = some (.list ((V.take i).map VT)) := by
      rw [O.slice_list, if_pos ⟨by omega, by omega, by rw [List.length_map]; omega⟩]
      simp [List.map_take]
    have hlen : ((V.take i).map VT).length = i := by rw [List.length_map, List.length_take]; omega
    rw [e_f_law26_MemberVotes_3]
    simp only [Int.cast_ofNat_Int] at h5
    simp only [O.lt_int, lt_cast, h1, decide_true, Option.bind_some, O.cnd_bool, if_true, O.index_list, Int.natCast_nonneg, Int.toNat_natCast, List.getElem?_map, List.getElem?_eq_getElem h1, Option.map_some, hs, O.len_list, hlen, h5]
    exact votes_3 V hV hl k (i + 1) (by omega)
/-- What holds of the votes given so far. -/
structure VOk (V : List (Int × Int)) (n : N) : Prop where
  one : One V
  le : ∀ p ∈ V, p.1 ≤ n.term
  now : ∀ p ∈ V, p.1 = n.term → n.vote = p.2
  pos : ∀ p ∈ V, 0 ≤ p.2
theorem vok_step {V : List (Int × Int)} {n x : N} (h : VOk V n) (ht : n.term ≤ x.term) (hd : x.term = n.term → n.vote = -1 ∨ x.vote = n.vote) : VOk V x := by
  refine ⟨h.one, fun p hp => Int.le_trans (h.le p hp) ht, fun p hp he => ?_, h.pos⟩
  have h1 := h.le p hp
  have h2 : x.term = n.term := by omega
  have h3 := h.now p hp (by omega)
  rcases hd h2 with g | g
  · have := h.pos p hp; omega
  · rw [g]; exact h3
theorem vok_add {V : List (Int × Int)} {x : N} (h : VOk V x) (ps : List (Int × Int)) (hp : ∀ p ∈ ps, p.1 = x.term ∧ p.2 = x.vote ∧ 0 ≤ p.2) : VOk (V ++ ps) x := by
  refine ⟨fun p hpm q hqm he => ?_, fun p hpm => ?_, fun p hpm he => ?_, fun p hpm => ?_⟩
  · rcases List.mem_append.1 hpm with g | g
    · rcases List.mem_append.1 hqm with g2 | g2
      · exact h.one p g q g2 he
      · have := hp q g2
        have := h.now p g (by omega)
        omega
    · have := hp p g
      rcases List.mem_append.1 hqm with g2 | g2
      · have := h.now q g2 (by omega)
        omega
      · have := hp q g2
        omega
  · rcases List.mem_append.1 hpm with g | g
    · exact h.le p g
    · have := hp p g; omega
  · rcases List.mem_append.1 hpm with g | g
    · exact h.now p g he
    · have := hp p g; omega
  · rcases List.mem_append.1 hpm with g | g
    · exact h.pos p g
    · exact (hp p g).2.2
theorem mem_yes {l : List G} {p : Int × Int} (h : p ∈ yes l) : ∃ y ∈ l, y.kind = 2 ∧ y.ok = true ∧ p = (y.term, y.to) := by
  unfold yes at h
  obtain ⟨y, hy, rfl⟩ := List.mem_map.1 h
  obtain ⟨h1, h2⟩ := List.mem_filter.1 hy
  unfold isYes at h2
  simp only [Bool.and_eq_true, decide_eq_true_eq] at h2
  exact ⟨y, h1, h2.1, h2.2, rfl⟩
theorem yes_len (l : List G) : (yes l).length ≤ l.length := by
  unfold yes
  rw [List.length_map]
  exact List.length_filter_le _ _
/-- Whether the member stands for election. -/
def stands (n x : N) : Bool := (decide (x.role = 1) && !decide (n.role = 1)) || (decide (x.role = 2) && decide (n.role = 0)) || (decide (x.role = 1) && decide (n.term < x.term))
theorem votes_1 (l : List Act) (hl : l.length ≤ 40) (ha : ∀ a ∈ l, AOk a) (d s t : Int) : ∀ (k i : Nat) (n : N) (V : List (Int × Int)), i + k = l.length → Ok i n → n.id = d → VOk V n → V.length ≤ 8 * i →
    W f_law26_MemberVotes 1 [.list (l.map Act.enc), .int l.length, .int i, .agg [.int d, .int s, .int t], .int n.id, .int n.size, .int n.role, .int n.term, .int n.vote, .int n.lead, .int n.el, .int n.to, .int n.com, .int n.app, .int n.b, .int n.bt, .str n.sn, .list (V.map VT), .list (n.vs.map IV.int), .list (n.nx.map IV.int), .list (n.mt.map IV.int), .list (n.es.map E.enc)] = some [.bool true]
  | 0, i, n, V, h, hn, hd, hV, hVl => by
    have h1 : ¬ i < l.length := by omega
    have h3 := votes_3 V hV.one (by omega) V.length 0 (by omega)
    simp only [Int.cast_ofNat_Int] at h3
    rw [e_f_law26_MemberVotes_1]
    simp only [O.lt_int, lt_cast, h1, decide_false, Option.bind_some, O.cnd_bool, Bool.false_eq_true, if_false, O.len_list, List.length_map, h3]
  | k + 1, i, n, V, h, hn, hd, hV, hVl => by
    have h1 : i < l.length := by omega
    have hao := ha _ (List.getElem_mem h1)
    have hdo := p_do n l[i] hn (by omega) hao.1
    have hx := ok_do (a := l[i]) hn
    have hst := step_do (a := l[i]) hn
    have hol := out_do (a := l[i]) hn.size
    generalize doF n l[i] = x at hdo hx hst hol
    have hw : IntKind.i64.wrap ((i : Int) + 1) = ((i + 1 : Nat) : Int) := by rw [wrap64 (by omega) (by omega)]; rfl
    have facts : n.term ≤ x.term ∧ (x.term = n.term → n.vote = -1 ∨ x.vote = n.vote) ∧ x.id = n.id ∧ (stands n x = true → x.vote = x.id) ∧ ∀ y ∈ x.out, y.kind = 2 → y.ok = true → y.term = x.term ∧ y.to = x.vote ∧ 0 ≤ y.to := by
      rcases hst with h | ⟨_, rfl⟩
      · refine ⟨h.term, h.dur, h.id, fun hs => h.self ?_, h.said⟩
        unfold stands at hs
        simp only [Bool.or_eq_true, Bool.and_eq_true, Bool.not_eq_true', decide_eq_true_eq, decide_eq_false_iff_not] at hs
        omega
      · refine ⟨Int.le_refl _, fun _ => .inr rfl, rfl, fun hs => ?_, fun y hy => by simp [restF, bare] at hy⟩
        unfold stands at hs
        simp [restF, bare] at hs
    obtain ⟨f1, f2, f3, f4, f5⟩ := facts
    have hV1 := vok_step hV f1 f2
    have hyes : ∀ p ∈ yes x.out, p.1 = x.term ∧ p.2 = x.vote ∧ 0 ≤ p.2 := fun p hp => by
      obtain ⟨y, hy, y1, y2, rfl⟩ := mem_yes hp
      exact f5 y hy y1 y2
    have hyl := yes_len x.out
    have rest : ∀ V' : List (Int × Int), VOk V' x → V'.length ≤ V.length + 1 →
        W f_law26_MemberVotes 2 [.list (l.map Act.enc), .int l.length, .int i, .agg [.int d, .int s, .int t], .int n.id, .int n.size, .int n.role, .int n.term, .int n.vote, .int n.lead, .int n.el, .int n.to, .list (n.vs.map IV.int), .list (n.nx.map IV.int), .list (n.mt.map IV.int), .int n.com, .int n.app, .int n.b, .int n.bt, .list (n.es.map E.enc), .str n.sn, .list (V'.map VT), .int x.id, .int x.size, .int x.role, .int x.term, .int x.vote, .int x.lead, .int x.el, .int x.to, .int x.com, .int x.app, .int x.b, .int x.bt, .str x.sn, .list (x.out.map G.enc), .list (x.vs.map IV.int), .list (x.nx.map IV.int), .list (x.mt.map IV.int), .list (x.es.map E.enc)] = some [.bool true] := fun V' hV' hl' => by
      have h4 := votes_4 n x (.list (l.map Act.enc)) (.int l.length) (.int i) (.agg [.int d, .int s, .int t]) hol x.out.length 0 V' (by omega) (by omega)
      simp only [Int.cast_ofNat_Int, List.drop_zero] at h4
      rw [e_f_law26_MemberVotes_2]
      simp only [O.len_list, List.length_map, Option.bind_some, h4, O.add_int, hw]
      exact votes_1 l hl ha d s t k (i + 1) x (V' ++ yes x.out) (by omega) hx (by omega) (vok_add hV' _ hyes) (by rw [List.length_append]; omega)
    have c1 : ¬ x.term < n.term := by omega
    have hc : (V.length + 1) * 16 ≤ maxBytes := cap (by omega) (by omega)
    rw [e_f_law26_MemberVotes_1]
    have hstand : ((if (if decide (x.role = 1) = true then !decide (n.role = 1) else false) = true then true else if decide (x.role = 2) = true then decide (n.role = 0) else false) = true → True) := fun _ => trivial
    simp only [O.lt_int, lt_cast, h1, decide_true, Option.bind_some, O.cnd_bool, if_true, O.index_list, Int.natCast_nonneg, Int.toNat_natCast, List.getElem?_map, List.getElem?_eq_getElem h1, Option.map_some, O.mkagg_eq, fold_enc, hdo, calls_allE, c1, decide_false, Bool.false_eq_true, if_false, O.eq_int, O.ne_int, O.gt_int, ite_some, ite_ivbool, O.proj_agg, List.getElem?_cons_zero, O.mklist_eq, O.append_list, List.length_map, List.length_singleton, hc]
    have hsv : (if (if (if decide (x.role = 1) = true then !decide (n.role = 1) else false) = true then true else if decide (x.role = 2) = true then decide (n.role = 0) else false) = true then true else if decide (x.role = 1) = true then decide (n.term < x.term) else false) = stands n x := by
      unfold stands
      by_cases r1 : x.role = 1
      · by_cases r2 : n.role = 1 <;> by_cases r3 : n.term < x.term <;> simp [r1, r2, r3]
      · by_cases r2 : x.role = 2 <;> by_cases r3 : n.role = 0 <;> simp [r1, r2, r3]
    rw [hsv]
    cases hs : stands n x with
    | true =>
      have hself := f4 hs
      have hid := hx.id.1
      have hr := rest (V ++ [(x.term, d)]) (vok_add hV1 [(x.term, d)] (fun p hp => by
        simp only [List.mem_singleton] at hp
        subst hp
        exact ⟨rfl, by show d = x.vote; omega, by show 0 ≤ d; omega⟩)) (by simp)
      simp only [List.map_append, List.map_cons, List.map_nil, VT] at hr
      simp only [if_true]
      exact hr
    | false =>
      simp only [Bool.false_eq_true, if_false]
      exact rest V hV1 (by omega)
theorem law_votes (i s t : Int) (l : List Act) (hl : l.length ≤ 1048576) (ha : ∀ a ∈ l, AOk a) : W f_law26_MemberVotes 0 [.agg [.int i, .int s, .int t], .list (l.map Act.enc)] = some [.bool true] := by
  obtain ⟨b, hb, hb2⟩ := p_few l hl ha
  rw [e_f_law26_MemberVotes_0]
  simp only [O.proj_agg, List.getElem?_cons_succ, List.getElem?_cons_zero, Option.bind_some, p_new, hb, O.calls_1]
  by_cases c : startOk i s t = true
  · rw [if_pos c]
    cases b with
    | false => simp only [calls_cellsE, O.not_bool, Bool.not_false, Option.bind_some, O.cnd_bool, if_true, lives, O.calls_1]
    | true =>
      have := votes_1 l (hb2 rfl) ha i s t l.length 0 (start i s t) [] (by omega) (ok_start c) rfl ⟨fun p hp => by simp at hp, by simp, by simp, by simp⟩ (by simp)
      simp only [Int.cast_ofNat_Int, List.map_nil] at this
      simp only [calls_cellsE, O.not_bool, Bool.not_true, Option.bind_some, O.cnd_bool, Bool.false_eq_true, if_false, O.ne_int, decide_true, O.len_list, List.length_map, this]
  · rw [if_neg c]
    cases b <;> simp [calls_cellsE, lives]
end Go.CT.Memb

/- For every start and list of operations of bulk at most 1048576 together the law MemberVotes returns true, and its arguments read as before. -/
namespace Go.Proofs.Ytcamikkadiiobaa
open Go.CT Go.CT.Memb
theorem MemberVotes_upto : Rows.MemberVotesUptoSaid := memberVotes.holds_of fun xs h hb => by
  obtain ⟨a, xs, rfl, ha, h⟩ := h.cons_inv
  obtain ⟨b, xs, rfl, hb', h⟩ := h.cons_inv
  obtain rfl := h.nil_inv
  simp only [IV.bulks] at hb
  obtain ⟨i, s, t, rfl⟩ := wt_start ha
  obtain ⟨l, rfl, hl, hao⟩ := wt_acts hb' (by omega)
  exact law_votes i s t l hl hao
end Go.Proofs.Ytcamikkadiiobaa
