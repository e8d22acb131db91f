import Derived.Test.YtcamikkadiiobaaMembQ
import Derived.Test.YtcamikkadiiobaaMembGLeads
set_option linter.unusedVariables false
set_option linter.unusedSimpArgs false
namespace Go.CT.Memb
open Go.Proofs

/-! ## The law MemberKeeps -/
set_option maxRecDepth 100000 in
theorem lives : W f_law26_lives 0 [] = some [.bool true] := V_run 1000 (by kernel_rfl)
theorem fold_enc (n : N) : IV.agg [.int n.id, .int n.size, .int n.role, .int n.term, .int n.vote, .int n.lead, .int n.el, .int n.to, .list (n.vs.map IV.int), .list (n.nx.map IV.int), .list (n.mt.map IV.int), .int n.com, .int n.app, .int n.b, .int n.bt, .list (n.es.map E.enc), .str n.sn] = n.enc := rfl
/-- What's asked of an operation. -/
def AOk (a : Act) : Prop := GOk a.x ∧ 0 ≤ a.kind
theorem few_2 (l : List Act) (i : Nat) (es : List E) (hl : l.length ≤ 1048576) (hi : i < l.length) (he : es.length ≤ 1048576) (next : ∃ b, W f_law26_few 1 [.list (l.map Act.enc), .int l.length, .int (i + 1 : Nat)] = some [.bool b]) : ∀ (n k : Nat), k + n = es.length →
    ∃ b, W f_law26_few 2 [.list (l.map Act.enc), .int l.length, .int i, .list (es.map E.enc), .int es.length, .int k] = some [.bool b]
  | 0, k, h => by
    obtain ⟨b, hb⟩ := next
    have h1 : ¬ k < es.length := by omega
    have hw : IntKind.i64.wrap ((i : Int) + 1) = ((i + 1 : Nat) : Int) := by rw [wrap64 (by omega) (by omega)]; rfl
    refine ⟨b, ?_⟩
    rw [e_f_law26_few_2]
    simp only [O.lt_int, lt_cast, h1, decide_false, Option.bind_some, O.cnd_bool, Bool.false_eq_true, if_false, O.add_int, hw, hb]
  | n + 1, k, h => by
    have h1 : k < es.length := by omega
    have hw : IntKind.i64.wrap ((k : Int) + 1) = ((k + 1 : Nat) : Int) := by rw [wrap64 (by omega) (by omega)]; rfl
    obtain ⟨b, hb⟩ := few_2 l i es hl hi he next n (k + 1) (by omega)
    rw [e_f_law26_few_2]
    simp only [O.lt_int, lt_cast, h1, decide_true, Option.bind_some, O.cnd_bool, if_true, O.index_list, Int.natCast_nonneg, Int.toNat_natCast, List.getElem?_map, List.getElem?_eq_getElem h1, Option.map_some, E.enc, O.proj_agg, List.getElem?_cons_succ, List.getElem?_cons_zero, O.slen_str, O.gt_int, O.add_int, hw, hb]
    by_cases c : (300 : Int) < (es[k].d.size : Int)
    · exact ⟨false, by simp only [c, decide_true, if_true]⟩
    · exact ⟨b, by simp only [c, decide_false, Bool.false_eq_true, if_false]⟩
theorem Act.pre (a : Act) : O.proj 9 a.enc = some (.list (a.x.es.map E.enc)) := rfl
theorem Act.prs (a : Act) : O.proj 10 a.enc = some (.str a.x.sn) := rfl
theorem ite_any (c : Bool) (p q : Bool) : ∃ b, some (if c = true then [IV.bool p] else [IV.bool q]) = some [IV.bool b] := by
  cases c
  · exact ⟨q, rfl⟩
  · exact ⟨p, rfl⟩
theorem few_1 (l : List Act) (hl : l.length ≤ 1048576) (ha : ∀ a ∈ l, AOk a) : ∀ (n i : Nat), i + n = l.length → ∃ b, W f_law26_few 1 [.list (l.map Act.enc), .int l.length, .int i] = some [.bool b]
  | 0, i, h => by
    have h1 : ¬ i < l.length := by omega
    refine ⟨true, ?_⟩
    rw [e_f_law26_few_1]
    simp only [O.lt_int, lt_cast, h1, decide_false, Option.bind_some, O.cnd_bool, Bool.false_eq_true, if_false]
  | n + 1, i, h => by
    have h1 : i < l.length := by omega
    have he := (ha _ (List.getElem_mem h1)).1.es
    obtain ⟨b, hb⟩ := few_2 l i l[i].x.es hl h1 he (few_1 l hl ha n (i + 1) (by omega)) l[i].x.es.length 0 (by omega)
    simp only [Int.cast_ofNat_Int] at hb
    rw [e_f_law26_few_1]
    simp only [O.lt_int, lt_cast, h1, decide_true, Option.bind_some, O.cnd_bool, if_true, O.index_list, Int.natCast_nonneg, Int.toNat_natCast, List.getElem?_map, List.getElem?_eq_getElem h1, Option.map_some, Act.prd, Act.pre, Act.prs, O.slen_str, O.gt_int, O.le_int, O.len_list, List.length_map, ite_some, ite_ivbool, hb]
    exact ite_any _ _ _
theorem p_few (l : List Act) (hl : l.length ≤ 1048576) (ha : ∀ a ∈ l, AOk a) : ∃ b, W f_law26_few 0 [.list (l.map Act.enc)] = some [.bool b] ∧ (b = true → l.length ≤ 40) := by
  obtain ⟨b, hb⟩ := few_1 l hl ha l.length 0 (by omega)
  simp only [Int.cast_ofNat_Int] at hb
  rw [e_f_law26_few_0]
  simp only [O.len_list, List.length_map, Option.bind_some, O.gt_int, O.cnd_bool, decide_eq_true_eq, hb]
  by_cases c : (40 : Int) < (l.length : Int)
  · exact ⟨false, by simp only [c, if_true], by simp⟩
  · exact ⟨b, by simp only [c, if_false], fun _ => by omega⟩
theorem ane_e (e f : E) : O.aNe e.enc f.enc = some (.bool (!decide (e = f))) := by
  simp only [E.enc, O.aNe_agg, eq_leaves, Option.map_some]
theorem keep_get {n x : N} {i : Int} (h1 : n.b < i) (h2 : x.b < i) (h3 : i ≤ lastI n.l) (hk : n.es[(i - n.b).toNat - 1]? = x.es[(i - x.b).toNat - 1]?) :
    ∃ e : E, O.index (.list (n.es.map E.enc)) (.int (i - n.b - 1)) = some e.enc ∧ O.index (.list (x.es.map E.enc)) (.int (i - x.b - 1)) = some e.enc := by
  have h4 : i ≤ n.b + n.es.length := h3
  have hlt : (i - n.b).toNat - 1 < n.es.length := by omega
  rw [List.getElem?_eq_getElem hlt] at hk
  have e1 : (i - n.b - 1).toNat = (i - n.b).toNat - 1 := by omega
  have e2 : (i - x.b - 1).toNat = (i - x.b).toNat - 1 := by omega
  refine ⟨n.es[(i - n.b).toNat - 1], ?_, ?_⟩
  · rw [O.index_list, if_pos (by omega), e1, List.getElem?_map, List.getElem?_eq_getElem hlt]; rfl
  · rw [O.index_list, if_pos (by omega), e2, List.getElem?_map, ← hk]; rfl
theorem keeps_2 (n x : N) (hn : fine n.l) (hx : fine x.l) (hc : n.com ≤ lastI n.l) (hk : Keep n.com n x) (A B C : IV) : ∀ (k : Nat) (i : Int), i + k ≤ n.com + 1 ∧ (n.com + 1 ≤ i + k) ∨ (k = 0 ∧ n.com < i) → n.b < i → x.b < i → i ≤ 4000000000000000 →
    W f_law26_MemberKeeps 2 [.int (lastI x.l), .int i, A, B, C, .int n.id, .int n.size, .int n.role, .int n.term, .int n.vote, .int n.lead, .int n.el, .int n.to, .list (n.vs.map IV.int), .list (n.nx.map IV.int), .list (n.mt.map IV.int), .int n.com, .int n.app, .int n.b, .int n.bt, .list (n.es.map E.enc), .str n.sn, .int x.id, .int x.size, .int x.role, .int x.term, .int x.vote, .int x.lead, .int x.el, .int x.to, .int x.com, .int x.app, .int x.b, .int x.bt, .str x.sn, .list (x.vs.map IV.int), .list (x.nx.map IV.int), .list (x.mt.map IV.int), .list (x.es.map E.enc)] = (O.add .i64 C (.int 1)).bind fun z => W f_law26_MemberKeeps 1 [A, B, z, .int x.id, .int x.size, .int x.role, .int x.term, .int x.vote, .int x.lead, .int x.el, .int x.to, .int x.com, .int x.app, .int x.b, .int x.bt, .str x.sn, .list (x.vs.map IV.int), .list (x.nx.map IV.int), .list (x.mt.map IV.int), .list (x.es.map E.enc)]
  | 0, i, h, h1, h2, h3 => by
    rw [e_f_law26_MemberKeeps_2]
    have c : ¬ i ≤ n.com := by omega
    simp only [O.le_int, c, decide_false, Option.bind_some, O.cnd_bool, Bool.false_eq_true, if_false]
  | k + 1, i, h, h1, h2, h3 => by
    rw [e_f_law26_MemberKeeps_2]
    have c : i ≤ n.com := by omega
    obtain ⟨k1, k2⟩ := hk i h1 h2 c
    obtain ⟨e, g1, g2⟩ := keep_get h1 h2 (by omega) k2
    have f1 : 0 ≤ n.b := hn.1
    have f2 : 0 ≤ x.b := hx.1
    have c2 : ¬ lastI x.l < i := by omega
    have w1 : IntKind.i64.wrap (i - n.b) = i - n.b := wrap64 (by omega) (by omega)
    have w2 : IntKind.i64.wrap (i - n.b - 1) = i - n.b - 1 := wrap64 (by omega) (by omega)
    have w3 : IntKind.i64.wrap (i - x.b) = i - x.b := wrap64 (by omega) (by omega)
    have w4 : IntKind.i64.wrap (i - x.b - 1) = i - x.b - 1 := wrap64 (by omega) (by omega)
    have w5 : IntKind.i64.wrap (i + 1) = i + 1 := wrap64 (by omega) (by omega)
    have hl := last_bd hn
    have ih := keeps_2 n x hn hx hc hk A B C k (i + 1) (by omega) (by omega) (by omega) (by omega)
    simp only [O.le_int, c, decide_true, Option.bind_some, O.cnd_bool, if_true, O.gt_int, c2, decide_false, Bool.false_eq_true, if_false, O.sub_int, w1, w2, w3, w4, g1, g2, ane_e, Bool.not_true, O.add_int, w5, ih]
theorem p_valid {n : N} (h : valid n.l = true) : W f_ref25_Valid 0 [.agg [.int n.b, .int n.bt, .list (n.es.map E.enc)]] = some [.bool true] := by
  have hf := (valid_inv h).1
  rw [ref_valid n.b n.bt n.es (by have := hf.2.2.2.2.2; have h2 : n.es.length ≤ 400 := this; omega)]
  have : valid ⟨n.b, n.bt, n.es⟩ = true := h
  rw [this]
theorem keep_rest (n : N) (c : Int) (hc : c ≤ lastI n.l) : Keep c n (restF n) := (keep_same (n := n) (x := restF n) rfl rfl).le hc
theorem keeps_1 (l : List Act) (hl : l.length ≤ 40) (ha : ∀ a ∈ l, AOk a) : ∀ (k i : Nat) (n : N), i + k = l.length → Ok i n →
    W f_law26_MemberKeeps 1 [.list (l.map Act.enc), .int l.length, .int i, .int n.id, .int n.size, .int n.role, .int n.term, .int n.vote, .int n.lead, .int n.el, .int n.to, .int n.com, .int n.app, .int n.b, .int n.bt, .str n.sn, .list (n.vs.map IV.int), .list (n.nx.map IV.int), .list (n.mt.map IV.int), .list (n.es.map E.enc)] = some [.bool true]
  | 0, i, n, h, hn => by
    have h1 : ¬ i < l.length := by omega
    rw [e_f_law26_MemberKeeps_1]
    simp only [O.lt_int, lt_cast, h1, decide_false, Option.bind_some, O.cnd_bool, Bool.false_eq_true, if_false, lives, O.calls_1]
  | k + 1, i, n, h, hn => by
    have h1 : i < l.length := by omega
    have hao := ha _ (List.getElem_mem h1)
    have hd := p_do n l[i] hn (by omega) hao.1
    have hx := ok_do (a := l[i]) hn
    have hst := step_do (a := l[i]) hn
    generalize doF n l[i] = x at hd hx hst
    have hlast := ref_last x.b x.bt x.es hx.tame
    have hv := p_valid hx.val
    have hw : IntKind.i64.wrap ((i : Int) + 1) = ((i + 1 : Nat) : Int) := by rw [wrap64 (by omega) (by omega)]; rfl
    have ih := keeps_1 l hl ha k (i + 1) x (by omega) hx
    have hcx := hx.com
    have hcn := hn.com
    have hax := hx.app
    have hkeep : Keep n.com n x := by
      rcases hst with h | ⟨_, rfl⟩
      · exact h.keep
      · exact keep_rest n _ hcn.2
    have hup : x.com < n.com → ¬ l[i].kind < 4 := fun hlt => by
      rcases hst with h | ⟨h, _⟩
      · have := h.up; omega
      · have := hao.2; omega
    have c1 : ¬ x.com < x.b := by omega
    have c2 : ¬ lastI ⟨x.b, x.bt, x.es⟩ < x.com := by have : x.com ≤ lastI ⟨x.b, x.bt, x.es⟩ := hcx.2; omega
    have hbn := hn.fine
    have hbx := hx.fine
    have b1 : 0 ≤ n.b := hbn.1
    have b2 : n.b ≤ 1000000000000000 := hbn.2.1
    have b3 : 0 ≤ x.b := hbx.1
    have b4 : x.b ≤ 1000000000000000 := hbx.2.1
    rw [e_f_law26_MemberKeeps_1]
    have hcond : (if decide (x.com < n.com) = true then some (IV.bool (decide (l[i].kind < 4))) else some (IV.bool false)) = some (IV.bool false) := by
      by_cases c : x.com < n.com
      · simp [c, hup c]
      · simp [c]
    have hmax : IntKind.i64.wrap ((if n.b < x.b then x.b else n.b) + 1) = (if n.b < x.b then x.b else n.b) + 1 := by
      split <;> exact wrap64 (by omega) (by omega)
    have hlb := last_bd hbn
    have h2 := keeps_2 n x hbn hbx hcn.2 hkeep (.list (l.map Act.enc)) (.int l.length) (.int i) (n.com + 1 - ((if n.b < x.b then x.b else n.b) + 1)).toNat ((if n.b < x.b then x.b else n.b) + 1) (by split <;> omega) (by split <;> omega) (by split <;> omega) (by split <;> omega)
    simp only [O.lt_int, lt_cast, h1, decide_true, Option.bind_some, O.cnd_bool, if_true, O.index_list, Int.natCast_nonneg, Int.toNat_natCast, List.getElem?_map, List.getElem?_eq_getElem h1, Option.map_some, O.mkagg_eq, fold_enc, hd, calls_allE, hlast, O.calls_2, O.gt_int, hax, O.ne_int, c1, c2, decide_false, Bool.not_true, Bool.false_eq_true, if_false, Act.pr0, hcond, hv, O.calls_1, O.not_bool, O.max_int, O.add_int, hmax]
    rw [hax] at h2
    show W f_law26_MemberKeeps 2 [.int (lastI x.l), _, _, _, _, .int n.id, .int n.size, .int n.role, .int n.term, .int n.vote, .int n.lead, .int n.el, .int n.to, .list (n.vs.map IV.int), .list (n.nx.map IV.int), .list (n.mt.map IV.int), .int n.com, .int n.app, .int n.b, .int n.bt, .list (n.es.map E.enc), .str n.sn, .int x.id, .int x.size, .int x.role, .int x.term, .int x.vote, .int x.lead, .int x.el, .int x.to, .int x.com, .int x.com, .int x.b, .int x.bt, .str x.sn, .list (x.vs.map IV.int), .list (x.nx.map IV.int), .list (x.mt.map IV.int), .list (x.es.map E.enc)] = _
    rw [h2]
    simp only [O.add_int, Option.bind_some, hw]
    rw [hax] at ih
    exact ih
theorem law_keeps (i s t : Int) (l : List Act) (hl : l.length ≤ 1048576) (ha : ∀ a ∈ l, AOk a) : W f_law26_MemberKeeps 0 [.agg [.int i, .int s, .int t], .list (l.map Act.enc)] = some [.bool true] := by
  obtain ⟨b, hb, hb2⟩ := p_few l hl ha
  rw [e_f_law26_MemberKeeps_0]
  simp only [O.proj_agg, List.getElem?_cons_succ, List.getElem?_cons_zero, Option.bind_some, p_new, hb, O.calls_1]
  by_cases c : startOk i s t = true
  · rw [if_pos c]
    cases b with
    | false => simp only [calls_cellsE, O.not_bool, Bool.not_false, Option.bind_some, O.cnd_bool, if_true, lives, O.calls_1]
    | true =>
      have := keeps_1 l (hb2 rfl) ha l.length 0 (start i s t) (by omega) (ok_start c)
      simp only [Int.cast_ofNat_Int] at this
      simp only [calls_cellsE, O.not_bool, Bool.not_true, Option.bind_some, O.cnd_bool, Bool.false_eq_true, if_false, O.ne_int, decide_true, O.len_list, List.length_map, this]
  · rw [if_neg c]
    cases b <;> simp [calls_cellsE, lives]
end Go.CT.Memb

namespace Go.CT.Memb
open Go.Proofs
/-! ## From the types to the data -/
theorem wt_int {x : IV} (h : WT Try.prog 3 x) : ∃ n, x = .int n ∧ I64 n := by
  obtain ⟨n, rfl, h1, h2⟩ := h.int_inv (k := .i64) (by kernel_rfl)
  rw [i64_min] at h1; rw [i64_max] at h2
  exact ⟨n, rfl, h1, h2⟩
theorem wt_byte {x : IV} (h : WT Try.prog 5 x) : ∃ n, x = .int n ∧ 0 ≤ n := by
  obtain ⟨n, rfl, h1, h2⟩ := h.int_inv (k := .u8) (by kernel_rfl)
  exact ⟨n, rfl, by have : IntKind.u8.min = 0 := by decide
                    omega⟩
theorem wt_bool {x : IV} (h : WT Try.prog 4 x) : ∃ b, x = .bool b := h.bool_inv (by kernel_rfl)
theorem wt_e {x : IV} (h : WT Try.prog 40 x) : ∃ e : E, x = e.enc ∧ True := by
  obtain ⟨xs, rfl, h2⟩ := h.agg_inv (ts := [3, 9]) (by kernel_rfl) (by kernel_rfl)
  obtain ⟨a, xs, rfl, ha, h⟩ := h2.cons_inv
  obtain ⟨b, xs, rfl, hb, h⟩ := h.cons_inv
  obtain rfl := h.nil_inv
  obtain ⟨n, rfl, hn⟩ := wt_int ha
  obtain ⟨s, rfl, _⟩ := hb.str_inv (by kernel_rfl)
  exact ⟨⟨n, s⟩, rfl, trivial⟩
theorem wt_es {x : IV} (h : WT Try.prog 22 x) : ∃ es : List E, x = .list (es.map E.enc) ∧ es.length + 1 ≤ x.bulk := by
  obtain ⟨xs, rfl, _, h⟩ := h.list_inv (e := 40) (by kernel_rfl)
  obtain ⟨es, rfl, he⟩ := list_form fun x hx => wt_e (h x hx)
  refine ⟨es, rfl, ?_⟩
  have := length_le_bulks (es.map E.enc)
  simp only [IV.bulk, List.length_map] at this ⊢
  omega
theorem wt_msgs {xs : List IV} (h : WTs Try.prog [3, 3, 3, 3, 3, 3, 3, 4, 22, 9] xs) (hb : IV.bulks xs ≤ 1048576) : ∃ g : G, xs = [.int g.kind, .int g.fr, .int g.to, .int g.term, .int g.ix, .int g.lt, .int g.com, .bool g.ok, .list (g.es.map E.enc), .str g.sn] ∧ GOk g := by
  obtain ⟨x1, xs, rfl, a1, h⟩ := h.cons_inv
  obtain ⟨x2, xs, rfl, a2, h⟩ := h.cons_inv
  obtain ⟨x3, xs, rfl, a3, h⟩ := h.cons_inv
  obtain ⟨x4, xs, rfl, a4, h⟩ := h.cons_inv
  obtain ⟨x5, xs, rfl, a5, h⟩ := h.cons_inv
  obtain ⟨x6, xs, rfl, a6, h⟩ := h.cons_inv
  obtain ⟨x7, xs, rfl, a7, h⟩ := h.cons_inv
  obtain ⟨x8, xs, rfl, a8, h⟩ := h.cons_inv
  obtain ⟨x9, xs, rfl, a9, h⟩ := h.cons_inv
  obtain ⟨x10, xs, rfl, a10, h⟩ := h.cons_inv
  obtain rfl := h.nil_inv
  obtain ⟨n1, rfl, _⟩ := wt_int a1
  obtain ⟨n2, rfl, _⟩ := wt_int a2
  obtain ⟨n3, rfl, _⟩ := wt_int a3
  obtain ⟨n4, rfl, _⟩ := wt_int a4
  obtain ⟨n5, rfl, i5⟩ := wt_int a5
  obtain ⟨n6, rfl, _⟩ := wt_int a6
  obtain ⟨n7, rfl, _⟩ := wt_int a7
  obtain ⟨n8, rfl⟩ := wt_bool a8
  obtain ⟨es, rfl, hl⟩ := wt_es a9
  obtain ⟨s, rfl, _⟩ := a10.str_inv (by kernel_rfl)
  simp only [IV.bulks] at hb
  exact ⟨⟨n1, n2, n3, n4, n5, n6, n7, n8, es, s⟩, rfl, i5, by show es.length ≤ 1048576; omega⟩
theorem wt_msg {x : IV} (h : WT Try.prog 74 x) (hb : x.bulk ≤ 1048576) : ∃ g : G, x = g.enc ∧ GOk g := by
  obtain ⟨xs, rfl, h2⟩ := h.agg_inv (ts := [3, 3, 3, 3, 3, 3, 3, 4, 22, 9]) (by kernel_rfl) (by kernel_rfl)
  simp only [IV.bulk] at hb
  obtain ⟨g, rfl, hg⟩ := wt_msgs h2 (by omega)
  exact ⟨g, rfl, hg⟩
theorem wts_split : ∀ {ts us : List TypeId} {xs : List IV}, WTs Try.prog (ts ++ us) xs → ∃ ys zs, xs = ys ++ zs ∧ WTs Try.prog ts ys ∧ WTs Try.prog us zs
  | [], us, xs, h => ⟨[], xs, rfl, trivial, h⟩
  | t :: ts, us, xs, h => by
    obtain ⟨a, xs, rfl, ha, h⟩ := WTs.cons_inv (t := t) (ts := ts ++ us) h
    obtain ⟨ys, zs, rfl, h1, h2⟩ := wts_split h
    exact ⟨a :: ys, zs, rfl, ⟨ha, h1⟩, h2⟩
theorem bulks_append (xs ys : List IV) : IV.bulks (xs ++ ys) = IV.bulks xs + IV.bulks ys := by
  induction xs with
  | nil => simp [IV.bulks]
  | cons x xs ih => simp [IV.bulks, ih]; omega
theorem wt_act {x : IV} (h : WT Try.prog 76 x) (hb : x.bulk ≤ 1048576) : ∃ a : Act, x = a.enc ∧ AOk a := by
  obtain ⟨xs, rfl, h2⟩ := h.agg_inv (ts := [5, 3, 3, 3, 3, 3, 3, 3, 4, 22, 9, 9, 3]) (by kernel_rfl) (by kernel_rfl)
  obtain ⟨x1, xs, rfl, a1, h⟩ := h2.cons_inv
  obtain ⟨ys, zs, rfl, h1, h3⟩ := wts_split (ts := [3, 3, 3, 3, 3, 3, 3, 4, 22, 9]) (us := [9, 3]) h
  simp only [IV.bulk, IV.bulks, bulks_append] at hb
  obtain ⟨g, rfl, hg⟩ := wt_msgs h1 (by omega)
  obtain ⟨x2, xs, rfl, a2, h⟩ := h3.cons_inv
  obtain ⟨x3, xs, rfl, a3, h⟩ := h.cons_inv
  obtain rfl := h.nil_inv
  obtain ⟨k, rfl, hk⟩ := wt_byte a1
  obtain ⟨d, rfl, _⟩ := a2.str_inv (by kernel_rfl)
  obtain ⟨i, rfl, _⟩ := wt_int a3
  exact ⟨⟨k, g, d, i⟩, rfl, hg, hk⟩
theorem wt_acts {x : IV} (h : WT Try.prog 64 x) (hb : x.bulk ≤ 1048576) : ∃ l : List Act, x = .list (l.map Act.enc) ∧ l.length ≤ 1048576 ∧ ∀ a ∈ l, AOk a := by
  obtain ⟨xs, rfl, _, h⟩ := h.list_inv (e := 76) (by kernel_rfl)
  simp only [IV.bulk] at hb
  obtain ⟨l, rfl, hl⟩ := list_form fun y hy => wt_act (h y hy) (by have := bulk_mem hy; omega)
  refine ⟨l, rfl, ?_, hl⟩
  have := length_le_bulks (l.map Act.enc)
  simp only [List.length_map] at this
  omega
theorem wt_start {x : IV} (h : WT Try.prog 63 x) : ∃ i s t : Int, x = .agg [.int i, .int s, .int t] := by
  obtain ⟨xs, rfl, h2⟩ := h.agg_inv (ts := [3, 3, 3]) (by kernel_rfl) (by kernel_rfl)
  obtain ⟨a, xs, rfl, ha, h⟩ := h2.cons_inv
  obtain ⟨b, xs, rfl, hb, h⟩ := h.cons_inv
  obtain ⟨c, xs, rfl, hc, h⟩ := h.cons_inv
  obtain rfl := h.nil_inv
  obtain ⟨i, rfl, _⟩ := wt_int ha
  obtain ⟨s, rfl, _⟩ := wt_int hb
  obtain ⟨t, rfl, _⟩ := wt_int hc
  exact ⟨i, s, t, rfl⟩
end Go.CT.Memb

namespace Go.CT.Memb
open Go.Proofs

/-! ## The law MemberLeads -/
theorem leads_2 (n x : N) (hn : fine n.l) (hx : fine x.l) (hk : Keep (lastI n.l) n x) (A B C : IV) : ∀ (k : Nat) (i : Int), i + k ≤ lastI n.l + 1 ∧ (lastI n.l + 1 ≤ i + k) ∨ (k = 0 ∧ lastI n.l < i) → n.b < i → x.b < i → i ≤ 4000000000000000 →
    W f_law26_MemberLeads 2 [.int (lastI n.l), .int i, A, B, C, .int n.id, .int n.size, .int n.role, .int n.term, .int n.vote, .int n.lead, .int n.el, .int n.to, .list (n.vs.map IV.int), .list (n.nx.map IV.int), .list (n.mt.map IV.int), .int n.com, .int n.app, .int n.b, .int n.bt, .list (n.es.map E.enc), .str n.sn, .int x.id, .int x.size, .int x.role, .int x.term, .int x.vote, .int x.lead, .int x.el, .int x.to, .int x.com, .int x.app, .int x.b, .int x.bt, .str x.sn, .list (x.vs.map IV.int), .list (x.nx.map IV.int), .list (x.mt.map IV.int), .list (x.es.map E.enc)] = W f_law26_MemberLeads 3 [A, B, C, .int n.id, .int n.size, .int n.role, .int n.term, .int n.vote, .int n.lead, .int n.el, .int n.to, .list (n.vs.map IV.int), .list (n.nx.map IV.int), .list (n.mt.map IV.int), .int n.com, .int n.app, .int n.b, .int n.bt, .list (n.es.map E.enc), .str n.sn, .int x.id, .int x.size, .int x.role, .int x.term, .int x.vote, .int x.lead, .int x.el, .int x.to, .int x.com, .int x.app, .int x.b, .int x.bt, .str x.sn, .list (x.vs.map IV.int), .list (x.nx.map IV.int), .list (x.mt.map IV.int), .list (x.es.map E.enc)]
  | 0, i, h, h1, h2, h3 => by
    rw [e_f_law26_MemberLeads_2]
    have c : ¬ i ≤ lastI n.l := by omega
    simp only [O.le_int, c, decide_false, Option.bind_some, O.cnd_bool, Bool.false_eq_true, if_false]
  | k + 1, i, h, h1, h2, h3 => by
    rw [e_f_law26_MemberLeads_2]
    have c : i ≤ lastI n.l := by omega
    obtain ⟨k1, k2⟩ := hk i h1 h2 c
    obtain ⟨e, g1, g2⟩ := keep_get h1 h2 (by omega) k2
    have f1 : 0 ≤ n.b := hn.1
    have f2 : 0 ≤ x.b := hx.1
    have w1 : IntKind.i64.wrap (i - n.b) = i - n.b := wrap64 (by omega) (by omega)
    have w2 : IntKind.i64.wrap (i - n.b - 1) = i - n.b - 1 := wrap64 (by omega) (by omega)
    have w3 : IntKind.i64.wrap (i - x.b) = i - x.b := wrap64 (by omega) (by omega)
    have w4 : IntKind.i64.wrap (i - x.b - 1) = i - x.b - 1 := wrap64 (by omega) (by omega)
    have w5 : IntKind.i64.wrap (i + 1) = i + 1 := wrap64 (by omega) (by omega)
    have hl := last_bd hn
    have ih := leads_2 n x hn hx hk A B C k (i + 1) (by omega) (by omega) (by omega) (by omega)
    simp only [O.le_int, c, decide_true, Option.bind_some, O.cnd_bool, if_true, O.sub_int, w1, w2, w3, w4, g1, g2, ane_e, Bool.not_true, Bool.false_eq_true, if_false, O.add_int, w5, ih]
theorem leads_4 (n x : N) (A B C : IV) (hl : x.mt.length ≤ 1000) : ∀ (m k c : Nat), k + m = x.mt.length → c + m ≤ 2000 →
    W f_law26_MemberLeads 4 [.int c, A, B, C, .int x.mt.length, .int k, .int n.id, .int n.size, .int n.role, .int n.term, .int n.vote, .int n.lead, .int n.el, .int n.to, .list (n.vs.map IV.int), .list (n.nx.map IV.int), .list (n.mt.map IV.int), .int n.com, .int n.app, .int n.b, .int n.bt, .list (n.es.map E.enc), .str n.sn, .int x.id, .int x.size, .int x.role, .int x.term, .int x.vote, .int x.lead, .int x.el, .int x.to, .int x.com, .int x.app, .int x.b, .int x.bt, .str x.sn, .list (x.mt.map IV.int), .list (x.vs.map IV.int), .list (x.nx.map IV.int), .list (x.es.map E.enc)] = W f_law26_MemberLeads 4 [.int (c + cnt (x.mt.drop k) x.com : Nat), A, B, C, .int x.mt.length, .int x.mt.length, .int n.id, .int n.size, .int n.role, .int n.term, .int n.vote, .int n.lead, .int n.el, .int n.to, .list (n.vs.map IV.int), .list (n.nx.map IV.int), .list (n.mt.map IV.int), .int n.com, .int n.app, .int n.b, .int n.bt, .list (n.es.map E.enc), .str n.sn, .int x.id, .int x.size, .int x.role, .int x.term, .int x.vote, .int x.lead, .int x.el, .int x.to, .int x.com, .int x.app, .int x.b, .int x.bt, .str x.sn, .list (x.mt.map IV.int), .list (x.vs.map IV.int), .list (x.nx.map IV.int), .list (x.es.map E.enc)]
  | 0, k, c, hk, hc => by
    have h1 : k = x.mt.length := by omega
    rw [h1, List.drop_length]; rfl
  | m + 1, k, c, hk, hc => by
    have hi : k < x.mt.length := by omega
    have hw : IntKind.i64.wrap ((k : Int) + 1) = ((k + 1 : Nat) : Int) := by rw [wrap64 (by omega) (by omega)]; rfl
    have hw2 : IntKind.i64.wrap ((c : Int) + 1) = ((c + 1 : Nat) : Int) := by rw [wrap64 (by omega) (by omega)]; rfl
    conv => lhs; rw [e_f_law26_MemberLeads_4]
    simp only [O.lt_int, lt_cast, hi, decide_true, Option.bind_some, O.cnd_bool, if_true, O.index_list, Int.natCast_nonneg, Int.toNat_natCast, List.getElem?_map, List.getElem?_eq_getElem hi, Option.map_some, O.ge_int, decide_eq_true_eq, e_f_law26_MemberLeads_6, O.add_int, hw, hw2]
    rw [List.drop_eq_getElem_cons hi, cnt_cons]
    by_cases d : x.com ≤ x.mt[k]
    · rw [if_pos d, if_pos d, leads_4 n x A B C hl m (k + 1) (c + 1) (by omega) (by omega)]
      rw [Nat.add_assoc]
    · rw [if_neg d, if_neg d, leads_4 n x A B C hl m (k + 1) c (by omega) (by omega), Nat.zero_add]
theorem leads_3 (n x : N) (A B C : IV) (hx : tame x.l) (hl : x.mt.length ≤ 7) (hs : x.size ≤ 7) (hc : x.role = 2 → n.com < x.com → termAt x.l x.com = some x.term ∧ x.size < 2 * (cnt x.mt x.com : Int)) :
    W f_law26_MemberLeads 3 [A, B, C, .int n.id, .int n.size, .int n.role, .int n.term, .int n.vote, .int n.lead, .int n.el, .int n.to, .list (n.vs.map IV.int), .list (n.nx.map IV.int), .list (n.mt.map IV.int), .int n.com, .int n.app, .int n.b, .int n.bt, .list (n.es.map E.enc), .str n.sn, .int x.id, .int x.size, .int x.role, .int x.term, .int x.vote, .int x.lead, .int x.el, .int x.to, .int x.com, .int x.app, .int x.b, .int x.bt, .str x.sn, .list (x.vs.map IV.int), .list (x.nx.map IV.int), .list (x.mt.map IV.int), .list (x.es.map E.enc)] = W f_law26_MemberLeads 5 [A, B, C, .int n.id, .int n.size, .int n.role, .int n.term, .int n.vote, .int n.lead, .int n.el, .int n.to, .list (n.vs.map IV.int), .list (n.nx.map IV.int), .list (n.mt.map IV.int), .int n.com, .int n.app, .int n.b, .int n.bt, .list (n.es.map E.enc), .str n.sn, .int x.id, .int x.size, .int x.role, .int x.term, .int x.vote, .int x.lead, .int x.el, .int x.to, .int x.com, .int x.app, .int x.b, .int x.bt, .str x.sn, .list (x.vs.map IV.int), .list (x.nx.map IV.int), .list (x.mt.map IV.int), .list (x.es.map E.enc)] := by
  rw [e_f_law26_MemberLeads_3]
  simp only [O.eq_int, O.gt_int, Option.bind_some, O.cnd_bool, ite_some, ite_ivbool]
  by_cases c1 : x.role = 2
  · by_cases c2 : n.com < x.com
    · obtain ⟨h1, h2⟩ := hc c1 c2
      have h4 := leads_4 n x A B C (by omega) x.mt.length 0 0 (by omega) (by omega)
      simp only [Int.cast_ofNat_Int, List.drop_zero, Nat.zero_add] at h4
      have hd : decide (x.role = 2) = true := by simp [c1]
      simp only [hd, c2, decide_true, if_true, O.len_list, List.length_map, Option.bind_some, h4]
      rw [e_f_law26_MemberLeads_4]
      have h3 : ¬ (x.mt.length : Int) < x.mt.length := by omega
      have ht := ref_termAt x.b x.bt x.es x.com hx
      have h1' : termAt ⟨x.b, x.bt, x.es⟩ x.com = some x.term := h1
      have hcl := cnt_le x.mt x.com
      have hw : IntKind.i64.wrap (2 * ((cnt x.mt x.com : Nat) : Int)) = 2 * (cnt x.mt x.com : Nat) := wrap64 (by omega) (by omega)
      have h5 : ¬ 2 * ((cnt x.mt x.com : Nat) : Int) ≤ x.size := by omega
      simp only [O.lt_int, h3, decide_false, Option.bind_some, O.cnd_bool, Bool.false_eq_true, if_false, O.mkagg_eq, ht, optI_getD, h1', O.calls_2, Option.isSome_some, Option.getD_some, O.not_bool, Bool.not_true, O.ne_int, decide_true, O.mul_int, hw, O.le_int, h5]
    · simp only [c2, decide_false, Bool.false_eq_true, if_false, ite_self]
  · simp only [c1, decide_false, Bool.false_eq_true, if_false]
theorem leads_1 (l : List Act) (hl : l.length ≤ 40) (ha : ∀ a ∈ l, AOk a) : ∀ (k i : Nat) (n : N), i + k = l.length → Ok i n →
    W f_law26_MemberLeads 1 [.list (l.map Act.enc), .int l.length, .int i, .int n.id, .int n.size, .int n.role, .int n.term, .int n.vote, .int n.lead, .int n.el, .int n.to, .int n.com, .int n.app, .int n.b, .int n.bt, .str n.sn, .list (n.vs.map IV.int), .list (n.nx.map IV.int), .list (n.mt.map IV.int), .list (n.es.map E.enc)] = some [.bool true]
  | 0, i, n, h, hn => by
    have h1 : ¬ i < l.length := by omega
    rw [e_f_law26_MemberLeads_1]
    simp only [O.lt_int, lt_cast, h1, decide_false, Option.bind_some, O.cnd_bool, Bool.false_eq_true, if_false, lives, O.calls_1]
  | k + 1, i, n, h, hn => by
    have h1 : i < l.length := by omega
    have hao := ha _ (List.getElem_mem h1)
    have hd := p_do n l[i] hn (by omega) hao.1
    have hx := ok_do (a := l[i]) hn
    have hst := step_do (a := l[i]) hn
    generalize doF n l[i] = x at hd hx hst
    have hlast := ref_last x.b x.bt x.es hx.tame
    have hlast2 := ref_last n.b n.bt n.es hn.tame
    have hw : IntKind.i64.wrap ((i : Int) + 1) = ((i + 1 : Nat) : Int) := by rw [wrap64 (by omega) (by omega)]; rfl
    have ih := leads_1 l hl ha k (i + 1) x (by omega) hx
    have hlead : n.role = 2 → x.role = 2 → x.term = n.term ∧ lastI n.l ≤ lastI x.l ∧ Keep (lastI n.l) n x := fun r1 r2 => by
      rcases hst with h | ⟨_, rfl⟩
      · exact h.leads r1 r2
      · have : (0 : Int) = 2 := r2
        omega
    have hcomm : x.role = 2 → n.com < x.com → termAt x.l x.com = some x.term ∧ x.size < 2 * (cnt x.mt x.com : Int) := fun r1 r2 => by
      rcases hst with h | ⟨_, rfl⟩
      · exact h.commits r1 r2
      · have : (0 : Int) = 2 := r1
        omega
    have hbn := hn.fine
    have hbx := hx.fine
    have b1 : 0 ≤ n.b := hbn.1
    have b2 : n.b ≤ 1000000000000000 := hbn.2.1
    have b3 : 0 ≤ x.b := hbx.1
    have b4 : x.b ≤ 1000000000000000 := hbx.2.1
    have h3 := leads_3 n x (.list (l.map Act.enc)) (.int l.length) (.int i) hx.tame hx.nxl.2 hx.size hcomm
    rw [e_f_law26_MemberLeads_5] at h3
    simp only [O.add_int, Option.bind_some, hw, ih] at h3
    rw [e_f_law26_MemberLeads_1]
    simp only [O.lt_int, lt_cast, h1, decide_true, Option.bind_some, O.cnd_bool, if_true, O.index_list, Int.natCast_nonneg, Int.toNat_natCast, List.getElem?_map, List.getElem?_eq_getElem h1, Option.map_some, O.mkagg_eq, fold_enc, hd, calls_allE, O.eq_int, ite_some, ite_ivbool]
    by_cases r1 : n.role = 2
    · by_cases r2 : x.role = 2
      · obtain ⟨q1, q2, q3⟩ := hlead r1 r2
        have hmax : IntKind.i64.wrap ((if n.b < x.b then x.b else n.b) + 1) = (if n.b < x.b then x.b else n.b) + 1 := by
          split <;> exact wrap64 (by omega) (by omega)
        have hlb := last_bd hbn
        have h2 := leads_2 n x hbn hbx q3 (.list (l.map Act.enc)) (.int l.length) (.int i) (lastI n.l + 1 - ((if n.b < x.b then x.b else n.b) + 1)).toNat ((if n.b < x.b then x.b else n.b) + 1) (by split <;> omega) (by split <;> omega) (by split <;> omega) (by split <;> omega)
        rw [h3] at h2
        have d1 : decide (n.role = 2) = true := by simp [r1]
        have d2 : decide (x.role = 2) = true := by simp [r2]
        have d3 : decide (x.term = n.term) = true := by simp [q1]
        have d4 : ¬ lastI ⟨x.b, x.bt, x.es⟩ < lastI ⟨n.b, n.bt, n.es⟩ := by
          have : lastI ⟨n.b, n.bt, n.es⟩ ≤ lastI ⟨x.b, x.bt, x.es⟩ := q2
          omega
        simp only [d1, d2, if_true, hlast, hlast2, O.calls_2, O.ne_int, d3, Bool.not_true, Option.bind_some, O.cnd_bool, Bool.false_eq_true, if_false, O.lt_int, d4, decide_false, O.max_int, O.add_int, hmax]
        exact h2
      · simp only [r2, decide_false, ite_self, Bool.false_eq_true, if_false, h3]
    · simp only [r1, decide_false, Bool.false_eq_true, if_false, h3]
theorem law_leads (i s t : Int) (l : List Act) (hl : l.length ≤ 1048576) (ha : ∀ a ∈ l, AOk a) : W f_law26_MemberLeads 0 [.agg [.int i, .int s, .int t], .list (l.map Act.enc)] = some [.bool true] := by
  obtain ⟨b, hb, hb2⟩ := p_few l hl ha
  rw [e_f_law26_MemberLeads_0]
  simp only [O.proj_agg, List.getElem?_cons_succ, List.getElem?_cons_zero, Option.bind_some, p_new, hb, O.calls_1]
  by_cases c : startOk i s t = true
  · rw [if_pos c]
    cases b with
    | false => simp only [calls_cellsE, O.not_bool, Bool.not_false, Option.bind_some, O.cnd_bool, if_true, lives, O.calls_1]
    | true =>
      have := leads_1 l (hb2 rfl) ha l.length 0 (start i s t) (by omega) (ok_start c)
      simp only [Int.cast_ofNat_Int] at this
      simp only [calls_cellsE, O.not_bool, Bool.not_true, Option.bind_some, O.cnd_bool, Bool.false_eq_true, if_false, O.ne_int, decide_true, O.len_list, List.length_map, this]
  · rw [if_neg c]
    cases b <;> simp [calls_cellsE, lives]
end Go.CT.Memb

/- For every start and list of operations of bulk at most 1048576 together the law MemberLeads returns true, and its arguments read as before. -/
namespace Go.Proofs.Ytcamikkadiiobaa
open Go.CT Go.CT.Memb
theorem MemberLeads_upto : Rows.MemberLeadsUptoSaid := memberLeads.holds_of fun xs h hb => by
  obtain ⟨a, xs, rfl, ha, h⟩ := h.cons_inv
  obtain ⟨b, xs, rfl, hb', h⟩ := h.cons_inv
  obtain rfl := h.nil_inv
  simp only [IV.bulks] at hb
  obtain ⟨i, s, t, rfl⟩ := wt_start ha
  obtain ⟨l, rfl, hl, hao⟩ := wt_acts hb' (by omega)
  exact law_leads i s t l hl hao
end Go.Proofs.Ytcamikkadiiobaa
