import Derived.Test.YtcamikkadiiobaaMembQ
set_option linter.unusedVariables false
set_option linter.unusedSimpArgs false
namespace Go.CT.Memb
open Go.Proofs

/-! ## The law MemberKeeps -/
set_option maxRecDepth 100000 in
theorem lives : W f_law26_lives 0 [] = some [.bool true] := V_run 1000 (by kernel_rfl)
theorem fold_enc (n : N) : IV.agg [.int n.id, .int n.size, .int n.role, .int n.term, .int n.vote, .int n.lead, .int n.el, .int n.to, .list (n.vs.map IV.int), .list (n.nx.map IV.int), .list (n.mt.map IV.int), .int n.com, .int n.app, .int n.b, .int n.bt, .list (n.es.map E.enc), .str n.sn] = n.enc := rfl
/-- What's asked of an operation. -/
def AOk (a : Act) : Prop := GOk a.x ∧ 0 ≤ a.kind
theorem few_2 (l : List Act) (i : Nat) (es : List E) (hl : l.length ≤ 1048576) (hi : i < l.length) (he : es.length ≤ 1048576) (next : ∃ b, W f_law26_few 1 [.list (l.map Act.enc), .int l.length, .int (i + 1 : Nat)] = some [.bool b]) : ∀ (n k : Nat), k + n = es.length →
    ∃ b, W f_law26_few 2 [.list (l.map Act.enc), .int l.length, .int i, .list (es.map E.enc), .int es.length, .int k] = some [.bool b]
  | 0, k, h => by
    obtain ⟨b, hb⟩ := next
    have h1 : ¬ k < es.length := by omega
    have hw : IntKind.i64.wrap ((i : Int) + 1) = ((i + 1 : Nat) : Int) := by rw [wrap64 (by omega) (by omega)]; rfl
    refine ⟨b, ?_⟩
    rw [e_f_law26_few_2]
    simp only [O.lt_int, lt_cast, h1, decide_false, Option.bind_some, O.cnd_bool, Bool.false_eq_true, if_false, O.add_int, hw, hb]
  | n + 1, k, h => by
    have h1 : k < es.length := by omega
    have hw : IntKind.i64.wrap ((k : Int) + 1) = ((k + 1 : Nat) : Int) := by rw [wrap64 (by omega) (by omega)]; rfl
    obtain ⟨b, hb⟩ := few_2 l i es hl hi he next n (k + 1) (by omega)
    rw [e_f_law26_few_2]
    simp only [O.lt_int, lt_cast, h1, decide_true, Option.bind_some, O.cnd_bool, if_true, O.index_list, Int.natCast_nonneg, Int.toNat_natCast, List.getElem?_map, List.getElem?_eq_getElem h1, Option.map_some, E.enc, O.proj_agg, List.getElem?_cons_succ, List.getElem?_cons_zero, O.slen_str, O.gt_int, O.add_int, hw, hb]
    by_cases c : (300 : Int) < (es[k].d.size : Int)
    · exact ⟨false, by simp only [c, decide_true, if_true]⟩
    · exact ⟨b, by simp only [c, decide_false, Bool.false_eq_true, if_false]⟩
theorem Act.pre (a : Act) : O.proj 9 a.enc = some (.list (a.x.es.map E.enc)) := rfl
theorem Act.prs (a : Act) : O.proj 10 a.enc = some (.str a.x.sn) := rfl
theorem ite_any (c : Bool) (p q : Bool) : ∃ b, some (if c = true then [IV.bool p] else [IV.bool q]) = some [IV.bool b] := by
  cases c
  · exact ⟨q, rfl⟩
  · exact ⟨p, rfl⟩
theorem few_1 (l : List Act) (hl : l.length ≤ 1048576) (ha : ∀ a ∈ l, AOk a) : ∀ (n i : Nat), i + n = l.length → ∃ b, W f_law26_few 1 [.list (l.map Act.enc), .int l.length, .int i] = some [.bool b]
  | 0, i, h => by
    have h1 : ¬ i < l.length := by omega
    refine ⟨true, ?_⟩
    rw [e_f_law26_few_1]
    simp only [O.lt_int, lt_cast, h1, decide_false, Option.bind_some, O.cnd_bool, Bool.false_eq_true, if_false]
  | n + 1, i, h => by
    have h1 : i < l.length := by omega
    have he := (ha _ (List.getElem_mem h1)).1.es
    obtain ⟨b, hb⟩ := few_2 l i l[i].x.es hl h1 he (few_1 l hl ha n (i + 1) (by omega)) l[i].x.es.length 0 (by omega)
    simp only [Int.cast_ofNat_Int] at hb
    rw [e_f_law26_few_1]
    simp only [O.lt_int, lt_cast, h1, decide_true, Option.bind_some, O.cnd_bool, if_true, O.index_list, Int.natCast_nonneg, Int.toNat_natCast, List.getElem?_map, List.getElem?_eq_getElem h1, Option.map_some, Act.prd, Act.pre, Act.prs, O.slen_str, O.gt_int, O.le_int, O.len_list, List.length_map, ite_some, ite_ivbool, hb]
    exact ite_any _ _ _
theorem p_few (l : List Act) (hl : l.length ≤ 1048576) (ha : ∀ a ∈ l, AOk a) : ∃ b, W f_law26_few 0 [.list (l.map Act.enc)] = some [.bool b] ∧ (b = true → l.length ≤ 40) := by
  obtain ⟨b, hb⟩ := few_1 l hl ha l.length 0 (by omega)
  simp only [Int.cast_ofNat_Int] at hb
  rw [e_f_law26_few_0]
  simp only [O.len_list, List.length_map, Option.bind_some, O.gt_int, O.cnd_bool, decide_eq_true_eq, hb]
  by_cases c : (40 : Int) < (l.length : Int)
  · exact ⟨false, by simp only [c, if_true], by simp⟩
  · exact ⟨b, by simp only [c, if_false], fun _ => by omega⟩
theorem ane_e (e f : E) : O.aNe e.enc f.enc = some (.bool (!decide (e = f))) := by
  simp only [E.enc, O.aNe_agg, eq_leaves, Option.map_some]
theorem keep_get {n x : N} {i : Int} (h1 : n.b < i) (h2 : x.b < i) (h3 : i ≤ lastI n.l) (hk : n.es[(i - n.b).toNat - 1]? = x.es[(i - x.b).toNat - 1]?) :
    ∃ e : E, O.index (.list (n.es.map E.enc)) (.int (i - n.b - 1)) = some e.enc ∧ O.index (.list (x.es.map E.enc)) (.int (i - x.b - 1)) = some e.enc := by
  have h4 : i ≤ n.b + n.es.length := h3
  have hlt : (i - n.b).toNat - 1 < n.es.length := by omega
  rw [List.getElem?_eq_getElem hlt] at hk
  have e1 : (i - n.b - 1).toNat = (i - n.b).toNat - 1 := by omega
  have e2 : (i - x.b - 1).toNat = (i - x.b).toNat - 1 := by omega
  refine ⟨n.es[(i - n.b).toNat - 1], ?_, ?_⟩
  · rw [O.index_list, if_pos (by omega), e1, List.getElem?_map, List.getElem?_eq_getElem hlt]; rfl
  · rw [O.index_list, if_pos (by omega), e2, List.getElem?_map, ← hk]; rfl
theorem keeps_2 (n x : N) (hn : fine n.l) (hx : fine x.l) (hc : n.com ≤ lastI n.l) (hk : Keep n.com n x) (A B C : IV) : ∀ (k : Nat) (i : Int), i + k ≤ n.com + 1 ∧ (n.com + 1 ≤ i + k) ∨ (k = 0 ∧ n.com < i) → n.b < i → x.b < i → i ≤ 4000000000000000 →
    W f_law26_MemberKeeps 2 [.int (lastI x.l), .int i, A, B, C, .int n.id, .int n.size, .int n.role, .int n.term, .int n.vote, .int n.lead, .int n.el, .int n.to, .list (n.vs.map IV.int), .list (n.nx.map IV.int), .list (n.mt.map IV.int), .int n.com, .int n.app, .int n.b, .int n.bt, .list (n.es.map E.enc), .str n.sn, .int x.id, .int x.size, .int x.role, .int x.term, .int x.vote, .int x.lead, .int x.el, .int x.to, .int x.com, .int x.app, .int x.b, .int x.bt, .str x.sn, .list (x.vs.map IV.int), .list (x.nx.map IV.int), .list (x.mt.map IV.int), .list (x.es.map E.enc)] = (O.add .i64 C (.int 1)).bind fun z => W f_law26_MemberKeeps 1 [A, B, z, .int x.id, .int x.size, .int x.role, .int x.term, .int x.vote, .int x.lead, .int x.el, .int x.to, .int x.com, .int x.app, .int x.b, .int x.bt, .str x.sn, .list (x.vs.map IV.int), .list (x.nx.map IV.int), .list (x.mt.map IV.int), .list (x.es.map E.enc)]
  | 0, i, h, h1, h2, h3 => by
    rw [e_f_law26_MemberKeeps_2]
    have c : ¬ i ≤ n.com := by omega
    simp only [O.le_int, c, decide_false, Option.bind_some, O.cnd_bool, Bool.false_eq_true, if_false]
  | k + 1, i, h, h1, h2, h3 => by
    rw [e_f_law26_MemberKeeps_2]
    have c : i ≤ n.com := by omega
    obtain ⟨k1, k2⟩ := hk i h1 h2 c
    obtain ⟨e, g1, g2⟩ := keep_get h1 h2 (by omega) k2
    have f1 : 0 ≤ n.b := hn.1
    have f2 : 0 ≤ x.b := hx.1
    have c2 : ¬ lastI x.l < i := by omega
    have w1 : IntKind.i64.wrap (i - n.b) = i - n.b := wrap64 (by omega) (by omega)
    have w2 : IntKind.i64.wrap (i - n.b - 1) = i - n.b - 1 := wrap64 (by omega) (by omega)
    have w3 : IntKind.i64.wrap (i - x.b) = i - x.b := wrap64 (by omega) (by omega)
    have w4 : IntKind.i64.wrap (i - x.b - 1) = i - x.b - 1 := wrap64 (by omega) (by omega)
    have w5 : IntKind.i64.wrap (i + 1) = i + 1 := wrap64 (by omega) (by omega)
    have hl := last_bd hn
    have ih := keeps_2 n x hn hx hc hk A B C k (i + 1) (by omega) (by omega) (by omega) (by omega)
    simp only [O.le_int, c, decide_true, Option.bind_some, O.cnd_bool, if_true, O.gt_int, c2, decide_false, Bool.false_eq_true, if_false, O.sub_int, w1, w2, w3, w4, g1, g2, ane_e, Bool.not_true, O.add_int, w5, ih]
theorem p_valid {n : N} (h : valid n.l = true) : W f_ref25_Valid 0 [.agg [.int n.b, .int n.bt, .list (n.es.map E.enc)]] = some [.bool true] := by
  have hf := (valid_inv h).1
  rw [ref_valid n.b n.bt n.es (by have := hf.2.2.2.2.2; have h2 : n.es.length ≤ 400 := this; omega)]
  have : valid ⟨n.b, n.bt, n.es⟩ = true := h
  rw [this]
theorem keep_rest (n : N) (c : Int) (hc : c ≤ lastI n.l) : Keep c n (restF n) := (keep_same (n := n) (x := restF n) rfl rfl).le hc
theorem keeps_1 (l : List Act) (hl : l.length ≤ 40) (ha : ∀ a ∈ l, AOk a) : ∀ (k i : Nat) (n : N), i + k = l.length → Ok i n →
    W f_law26_MemberKeeps 1 [.list (l.map Act.enc), .int l.length, .int i, .int n.id, .int n.size, .int n.role, .int n.term, .int n.vote, .int n.lead, .int n.el, .int n.to, .int n.com, .int n.app, .int n.b, .int n.bt, .str n.sn, .list (n.vs.map IV.int), .list (n.nx.map IV.int), .list (n.mt.map IV.int), .list (n.es.map E.enc)] = some [.bool true]
  | 0, i, n, h, hn => by
    have h1 : ¬ i < l.length := by omega
    rw [e_f_law26_MemberKeeps_1]
    simp only [O.lt_int, lt_cast, h1, decide_false, Option.bind_some, O.cnd_bool, Bool.false_eq_true, if_false, lives, O.calls_1]
  | k + 1, i, n, h, hn => by
    have h1 : i < l.length := by omega
    have hao := ha _ (List.getElem_mem h1)
    have hd := p_do n l[i] hn (by omega) hao.1
    have hx := ok_do (a := l[i]) hn
    have hst := step_do (a := l[i]) hn
    generalize doF n l[i] = x at hd hx hst
    have hlast := ref_last x.b x.bt x.es hx.tame
    have hv := p_valid hx.val
    have hw : IntKind.i64.wrap ((i : Int) + 1) = ((i + 1 : Nat) : Int) := by rw [wrap64 (by omega) (by omega)]; rfl
    have ih := keeps_1 l hl ha k (i + 1) x (by omega) hx
    have hcx := hx.com
    have hcn := hn.com
    have hax := hx.app
    have hkeep : Keep n.com n x := by
      rcases hst with h | ⟨_, rfl⟩
      · exact h.keep
      · exact keep_rest n _ hcn.2
    have hup : x.com < n.com → ¬ l[i].kind < 4 := fun hlt => by
      rcases hst with h | ⟨h, _⟩
      · have := h.up; omega
      · have := hao.2; omega
    have c1 : ¬ x.com < x.b := by omega
    have c2 : ¬ lastI ⟨x.b, x.bt, x.es⟩ < x.com := by have : x.com ≤ lastI ⟨x.b, x.bt, x.es⟩ := hcx.2; omega
    have hbn := hn.fine
    have hbx := hx.fine
    have b1 : 0 ≤ n.b := hbn.1
    have b2 : n.b ≤ 1000000000000000 := hbn.2.1
    have b3 : 0 ≤ x.b := hbx.1
    have b4 : x.b ≤ 1000000000000000 := hbx.2.1
    rw [e_f_law26_MemberKeeps_1]
    have hcond : (if decide (x.com < n.com) = true then some (IV.bool (decide (l[i].kind < 4))) else some (IV.bool false)) = some (IV.bool false) := by
      by_cases c : x.com < n.com
      · simp [c, hup c]
      · simp [c]
    have hmax : IntKind.i64.wrap ((if n.b < x.b then x.b else n.b) + 1) = (if n.b < x.b then x.b else n.b) + 1 := by
      split <;> exact wrap64 (by omega) (by omega)
    have hlb := last_bd hbn
    have h2 := keeps_2 n x hbn hbx hcn.2 hkeep (.list (l.map Act.enc)) (.int l.length) (.int i) (n.com + 1 - ((if n.b < x.b then x.b else n.b) + 1)).toNat ((if n.b < x.b then x.b else n.b) + 1) (by split <;> omega) (by split <;> omega) (by split <;> omega) (by split <;> omega)
    simp only [O.lt_int, lt_cast, h1, decide_true, Option.bind_some, O.cnd_bool, if_true, O.index_list, Int.natCast_nonneg, Int.toNat_natCast, List.getElem?_map, List.getElem?_eq_getElem h1, Option.map_some, O.mkagg_eq, fold_enc, hd, calls_allE, hlast, O.calls_2, O.gt_int, hax, O.ne_int, c1, c2, decide_false, Bool.not_true, Bool.false_eq_true, if_false, Act.pr0, hcond, hv, O.calls_1, O.not_bool, O.max_int, O.add_int, hmax]
    rw [hax] at h2
    show W f_law26_MemberKeeps 2 [.int (lastI x.l), _, _, _, _, .int n.id, .int n.size, .int n.role, .int n.term, .int n.vote, .int n.lead, .int n.el, .int n.to, .list (n.vs.map IV.int), .list (n.nx.map IV.int), .list (n.mt.map IV.int), .int n.com, .int n.app, .int n.b, .int n.bt, .list (n.es.map E.enc), .str n.sn, .int x.id, .int x.size, .int x.role, .int x.term, .int x.vote, .int x.lead, .int x.el, .int x.to, .int x.com, .int x.com, .int x.b, .int x.bt, .str x.sn, .list (x.vs.map IV.int), .list (x.nx.map IV.int), .list (x.mt.map IV.int), .list (x.es.map E.enc)] = _
    rw [h2]
    simp only [O.add_int, Option.bind_some, hw]
    rw [hax] at ih
    exact ih
theorem law_keeps (i s t : Int) (l : List Act) (hl : l.length ≤ 1048576) (ha : ∀ a ∈ l, AOk a) : W f_law26_MemberKeeps 0 [.agg [.int i, .int s, .int t], .list (l.map Act.enc)] = some [.bool true] := by
  obtain ⟨b, hb, hb2⟩ := p_few l hl ha
  rw [e_f_law26_MemberKeeps_0]
  simp only [O.proj_agg, List.getElem?_cons_succ, List.getElem?_cons_zero, Option.bind_some, p_new, hb, O.calls_1]
  by_cases c : startOk i s t = true
  · rw [if_pos c]
    cases b with
    | false => simp only [calls_cellsE, O.not_bool, Bool.not_false, Option.bind_some, O.cnd_bool, if_true, lives, O.calls_1]
    | true =>
      have := keeps_1 l (hb2 rfl) ha l.length 0 (start i s t) (by omega) (ok_start c)
      simp only [Int.cast_ofNat_Int] at this
      simp only [calls_cellsE, O.not_bool, Bool.not_true, Option.bind_some, O.cnd_bool, Bool.false_eq_true, if_false, O.ne_int, decide_true, O.len_list, List.length_map, this]
  · rw [if_neg c]
    cases b <;> simp [calls_cellsE, lives]
end Go.CT.Memb

namespace Go.CT.Memb
open Go.Proofs

/-! ## The law MemberVotes -/
theorem bcast_len {n : N} (h : n.size ≤ 7) : (bcast n).length ≤ 7 := by
  have := msgs_len n n.size.toNat 0
  unfold bcast; omega
theorem sayAdv_out (m : N) : (sayAdv m).out = m.out ++ bcast m := by
  unfold sayAdv
  split
  · obtain ⟨c, d, h⟩ := advF_upto (say m)
    rw [h]; rfl
  · rfl
theorem out_led {n m : N} (hs : m.size ≤ 7) (ho : m.out = []) : (sayAdv (ownF m)).out.length ≤ 7 := by
  rw [sayAdv_out]
  have h1 : (ownF m).out = [] := ho
  have h2 := bcast_len (n := ownF m) hs
  rw [h1]; simpa using h2
theorem out_lead {n : N} (hs : n.size ≤ 7) (ho : n.out = []) : (leadF n).out.length ≤ 7 := by
  obtain ⟨b1, b2, b3, b4, b5, b6, b7, b8, b9, b10⟩ := lead1_rest n
  exact out_led (n := n) (by omega) (by rw [b10, ho])
theorem out_tick {n : N} (hs : n.size ≤ 7) : (tickF n).out.length ≤ 7 := by
  unfold tickF
  split
  · show ([] ++ bcast (bare n)).length ≤ 7
    simpa using bcast_len (n := bare n) hs
  · split
    · unfold electF
      split
      · exact out_lead (n := elect0 {bare n with el := n.el + 1}) hs rfl
      · show ([] ++ asks _ _ _ _ _).length ≤ 7
        have := asks_len (elect0 {bare n with el := n.el + 1}) (lastI n.l) (lastT n.l) n.size.toNat 0
        simp only [List.nil_append]
        exact Nat.le_trans this (by omega)
    · exact Nat.zero_le _
theorem out_sendF {n : N} {j : Int} {x : G} (h : n.out = []) : (sendF n j x).out.length ≤ 7 := by rw [out_send n j x h]; simp
theorem out_kind {n : N} {x : G} (hs : n.size ≤ 7) (ho : n.out = []) : (kindF n x).out.length ≤ 7 := by
  unfold kindF
  split
  · unfold voteF
    exact out_sendF (by split <;> exact ho)
  · split
    · unfold votedF
      split
      · rw [ho]; simp
      · split
        · exact out_lead (n := {n with vs := putF n.vs x.fr}) hs ho
        · show n.out.length ≤ 7
          rw [ho]; simp
    · split
      · unfold entriesF
        split
        · rw [ho]; simp
        · refine out_sendF ?_
          split
          · unfold commitF
            split <;> exact ho
          · exact ho
      · split
        · unfold ackF
          split
          · rw [ho]; simp
          · split
            · split
              · show (n.out ++ [_]).length ≤ 7
                rw [ho]; simp
              · rw [ho]; simp
            · split
              · rw [ho]; simp
              · obtain ⟨c, d, h⟩ := advF_upto {n with mt := n.mt.set x.fr.toNat (minI x.ix (lastI n.l)), nx := n.nx.set x.fr.toNat (minI x.ix (lastI n.l) + 1)}
                rw [h]
                split
                · show (n.out ++ [_]).length ≤ 7
                  rw [ho]; simp
                · show n.out.length ≤ 7
                  rw [ho]; simp
        · split
          · unfold snapF
            split
            · rw [ho]; simp
            · split
              · exact out_sendF ho
              · refine out_sendF ?_
                unfold commitF
                split <;> exact ho
          · rw [ho]; simp
theorem out_handle {n : N} {x : G} (hs : n.size ≤ 7) : (handleF n x).out.length ≤ 7 := by
  unfold handleF
  split
  · exact Nat.zero_le _
  · split
    · unfold staleF
      split
      · exact out_sendF rfl
      · split
        · exact out_sendF rfl
        · exact Nat.zero_le _
    · refine out_kind ?_ ?_
      · unfold termF; split <;> exact hs
      · unfold termF; split <;> rfl
theorem out_do {n : N} {a : Act} (hs : n.size ≤ 7) : (doF n a).out.length ≤ 7 := by
  unfold doF
  split
  · exact out_tick hs
  · split
    · exact out_handle hs
    · split
      · unfold propF
        split
        · exact Nat.zero_le _
        · exact out_led (n := n) (m := addF (bare n) a.d) hs rfl
      · split
        · rw [comp_out]; simp
        · exact Nat.zero_le _

/-- A vote: the term, and for whom. -/
def VT (p : Int × Int) : IV := .agg [.int p.1, .int p.2]
def isYes (y : G) : Bool := decide (y.kind = 2) && y.ok
def yes (l : List G) : List (Int × Int) := (l.filter isYes).map fun y => (y.term, y.to)
theorem yes_cons (y : G) (l : List G) : yes (y :: l) = (if isYes y = true then [(y.term, y.to)] else []) ++ yes l := by
  unfold yes
  rw [List.filter_cons]
  cases isYes y <;> rfl
theorem votes_4 (n x : N) (A B C S : IV) (ho : x.out.length ≤ 7) : ∀ (k j : Nat) (V : List (Int × Int)), j + k = x.out.length → V.length + k ≤ 1000 →
    W f_law26_MemberVotes 4 [A, B, C, .int x.out.length, .int j, S, .int n.id, .int n.size, .int n.role, .int n.term, .int n.vote, .int n.lead, .int n.el, .int n.to, .list (n.vs.map IV.int), .list (n.nx.map IV.int), .list (n.mt.map IV.int), .int n.com, .int n.app, .int n.b, .int n.bt, .list (n.es.map E.enc), .str n.sn, .list (V.map VT), .int x.id, .int x.size, .int x.role, .int x.term, .int x.vote, .int x.lead, .int x.el, .int x.to, .int x.com, .int x.app, .int x.b, .int x.bt, .str x.sn, .list (x.out.map G.enc), .list (x.vs.map IV.int), .list (x.nx.map IV.int), .list (x.mt.map IV.int), .list (x.es.map E.enc)] =
      (O.add .i64 C (.int 1)).bind fun z => W f_law26_MemberVotes 1 [A, B, z, S, .int x.id, .int x.size, .int x.role, .int x.term, .int x.vote, .int x.lead, .int x.el, .int x.to, .int x.com, .int x.app, .int x.b, .int x.bt, .str x.sn, .list ((V ++ yes (x.out.drop j)).map VT), .list (x.vs.map IV.int), .list (x.nx.map IV.int), .list (x.mt.map IV.int), .list (x.es.map E.enc)]
  | 0, j, V, hk, hv => by
    have h1 : ¬ j < x.out.length := by omega
    rw [e_f_law26_MemberVotes_4, List.drop_of_length_le (by omega)]
    simp only [O.lt_int, lt_cast, h1, decide_false, Option.bind_some, O.cnd_bool, Bool.false_eq_true, if_false, yes, List.filter_nil, List.map_nil, List.append_nil]
  | k + 1, j, V, hk, hv => by
    have h1 : j < x.out.length := by omega
    have hw : IntKind.i64.wrap ((j : Int) + 1) = ((j + 1 : Nat) : Int) := by rw [wrap64 (by omega) (by omega)]; rfl
    have hc : (V.length + 1) * 16 ≤ maxBytes := cap (by omega) (by omega)
    rw [List.drop_eq_getElem_cons h1, yes_cons]
    conv => lhs; rw [e_f_law26_MemberVotes_4]
    simp only [O.lt_int, lt_cast, h1, decide_true, Option.bind_some, O.cnd_bool, if_true, O.index_list, Int.natCast_nonneg, Int.toNat_natCast, List.getElem?_map, List.getElem?_eq_getElem h1, Option.map_some, G.p0, G.p2, G.p3, G.p7, O.eq_int, O.mkagg_eq, O.mklist_eq, O.append_list, List.length_map, List.length_singleton, hc, e_f_law26_MemberVotes_6, O.add_int, hw]
    have hy : (if decide (x.out[j].kind = 2) = true then some (IV.bool x.out[j].ok) else some (IV.bool false)) = some (.bool (isYes x.out[j])) := by
      unfold isYes
      by_cases c : x.out[j].kind = 2 <;> simp [c]
    rw [hy]
    cases hyy : isYes x.out[j] with
    | true =>
      have ih := votes_4 n x A B C S ho k (j + 1) (V ++ [(x.out[j].term, x.out[j].to)]) (by omega) (by simp; omega)
      simp only [Option.bind_some, O.cnd_bool, if_true]
      rw [List.append_assoc] at ih
      rw [← ih]
      simp only [List.map_append, List.map_cons, List.map_nil, VT]
    | false =>
      have ih := votes_4 n x A B C S ho k (j + 1) V (by omega) (by omega)
      simp only [Option.bind_some, O.cnd_bool, Bool.false_eq_true, if_false, List.nil_append]
      exact ih
/-- In a term there is one vote. -/
def One (V : List (Int × Int)) : Prop := ∀ p ∈ V, ∀ q ∈ V, p.1 = q.1 → p.2 = q.2
theorem votes_5 (V : List (Int × Int)) (i : Nat) (p : Int × Int) (hV : One V) (hp : p ∈ V) (hi : i ≤ V.length) (hl : V.length ≤ 1000) : ∀ (k j : Nat), j + k = i →
    W f_law26_MemberVotes 5 [.list (V.map VT), .list (V.map VT), .int V.length, .int i, .list ((V.take i).map VT), .int i, .int j, VT p] = W f_law26_MemberVotes 3 [.list (V.map VT), .list (V.map VT), .int V.length, .int (i + 1 : Nat)]
  | 0, j, hk => by
    have h1 : ¬ j < i := by omega
    have hw : IntKind.i64.wrap ((i : Int) + 1) = ((i + 1 : Nat) : Int) := by rw [wrap64 (by omega) (by omega)]; rfl
    rw [e_f_law26_MemberVotes_5]
    simp only [O.lt_int, lt_cast, h1, decide_false, Option.bind_some, O.cnd_bool, Bool.false_eq_true, if_false, O.add_int, hw]
  | k + 1, j, hk => by
    have h1 : j < i := by omega
    have hw : IntKind.i64.wrap ((j : Int) + 1) = ((j + 1 : Nat) : Int) := by rw [wrap64 (by omega) (by omega)]; rfl
    have hj : (V.take i)[j]? = some (V[j]'(by omega)) := by rw [List.getElem?_take, if_pos h1, List.getElem?_eq_getElem (by omega)]
    have ih := votes_5 V i p hV hp hi hl k (j + 1) (by omega)
    have hone := hV p hp (V[j]'(by omega)) (List.getElem_mem _)
    rw [e_f_law26_MemberVotes_5]
    simp only [O.lt_int, lt_cast, h1, decide_true, Option.bind_some, O.cnd_bool, if_true, O.index_list, Int.natCast_nonneg, Int.toNat_natCast, List.getElem?_map, hj, Option.map_some]
    unfold VT at *
    simp only [O.proj_agg, List.getElem?_cons_succ, List.getElem?_cons_zero, Option.bind_some, O.eq_int, O.ne_int, O.cnd_bool, O.add_int, hw, ite_some, ite_ivbool]
    by_cases c : p.1 = (V[j]'(by omega)).1
    · have := hone c
      simp only [c, this, decide_true, if_true, Bool.not_true, Bool.false_eq_true, if_false]
      rw [c, this] at ih
      exact ih
    · simp only [c, decide_false, Bool.false_eq_true, if_false]
      exact ih
theorem votes_3 (V : List (Int × Int)) (hV : One V) (hl : V.length ≤ 1000) : ∀ (k i : Nat), i + k = V.length → W f_law26_MemberVotes 3 [.list (V.map VT), .list (V.map VT), .int V.length, .int i] = some [.bool true]
  | 0, i, h => by
    have h1 : ¬ i < V.length := by omega
    rw [e_f_law26_MemberVotes_3]
    simp only [O.lt_int, lt_cast, h1, decide_false, Option.bind_some, O.cnd_bool, Bool.false_eq_true, if_false, lives, O.calls_1]
  | k + 1, i, h => by
    have h1 : i < V.length := by omega
    have h5 := votes_5 V i V[i] hV (List.getElem_mem h1) (by omega) hl i 0 (by omega)
    have hs : O.slice (.list (V.map VT)) (.int 0) (.int i) = some (.list ((V.take i).map VT)) := by
      rw [O.slice_list, if_pos ⟨by omega, by omega, by rw [List.length_map]; omega⟩]
      simp [List.map_take]
    have hlen : ((V.take i).map VT).length = i := by rw [List.length_map, List.length_take]; omega
    rw [e_f_law26_MemberVotes_3]
    simp only [Int.cast_ofNat_Int] at h5
    simp only [O.lt_int, lt_cast, h1, decide_true, Option.bind_some, O.cnd_bool, if_true, O.index_list, Int.natCast_nonneg, Int.toNat_natCast, List.getElem?_map, List.getElem?_eq_getElem h1, Option.map_some, hs, O.len_list, hlen, h5]
    exact votes_3 V hV hl k (i + 1) (by omega)
/-- What holds of the votes given so far. -/
structure VOk (V : List (Int × Int)) (n : N) : Prop where
  one : One V
  le : ∀ p ∈ V, p.1 ≤ n.term
  now : ∀ p ∈ V, p.1 = n.term → n.vote = p.2
  pos : ∀ p ∈ V, 0 ≤ p.2
theorem vok_step {V : List (Int × Int)} {n x : N} (h : VOk V n) (ht : n.term ≤ x.term) (hd : x.term = n.term → n.vote = -1 ∨ x.vote = n.vote) : VOk V x := by
  refine ⟨h.one, fun p hp => Int.le_trans (h.le p hp) ht, fun p hp he => ?_, h.pos⟩
  have h1 := h.le p hp
  have h2 : x.term = n.term := by omega
  have h3 := h.now p hp (by omega)
  rcases hd h2 with g | g
  · have := h.pos p hp; omega
  · rw [g]; exact h3
theorem vok_add {V : List (Int × Int)} {x : N} (h : VOk V x) (ps : List (Int × Int)) (hp : ∀ p ∈ ps, p.1 = x.term ∧ p.2 = x.vote ∧ 0 ≤ p.2) : VOk (V ++ ps) x := by
  refine ⟨fun p hpm q hqm he => ?_, fun p hpm => ?_, fun p hpm he => ?_, fun p hpm => ?_⟩
  · rcases List.mem_append.1 hpm with g | g
    · rcases List.mem_append.1 hqm with g2 | g2
      · exact h.one p g q g2 he
      · have := hp q g2
        have := h.now p g (by omega)
        omega
    · have := hp p g
      rcases List.mem_append.1 hqm with g2 | g2
      · have := h.now q g2 (by omega)
        omega
      · have := hp q g2
        omega
  · rcases List.mem_append.1 hpm with g | g
    · exact h.le p g
    · have := hp p g; omega
  · rcases List.mem_append.1 hpm with g | g
    · exact h.now p g he
    · have := hp p g; omega
  · rcases List.mem_append.1 hpm with g | g
    · exact h.pos p g
    · exact (hp p g).2.2
theorem mem_yes {l : List G} {p : Int × Int} (h : p ∈ yes l) : ∃ y ∈ l, y.kind = 2 ∧ y.ok = true ∧ p = (y.term, y.to) := by
  unfold yes at h
  obtain ⟨y, hy, rfl⟩ := List.mem_map.1 h
  obtain ⟨h1, h2⟩ := List.mem_filter.1 hy
  unfold isYes at h2
  simp only [Bool.and_eq_true, decide_eq_true_eq] at h2
  exact ⟨y, h1, h2.1, h2.2, rfl⟩
theorem yes_len (l : List G) : (yes l).length ≤ l.length := by
  unfold yes
  rw [List.length_map]
  exact List.length_filter_le _ _
/-- Whether the member stands for election. -/
def stands (n x : N) : Bool := (decide (x.role = 1) && !decide (n.role = 1)) || (decide (x.role = 2) && decide (n.role = 0)) || (decide (x.role = 1) && decide (n.term < x.term))
theorem votes_1 (l : List Act) (hl : l.length ≤ 40) (ha : ∀ a ∈ l, AOk a) (d s t : Int) : ∀ (k i : Nat) (n : N) (V : List (Int × Int)), i + k = l.length → Ok i n → n.id = d → VOk V n → V.length ≤ 8 * i →
    W f_law26_MemberVotes 1 [.list (l.map Act.enc), .int l.length, .int i, .agg [.int d, .int s, .int t], .int n.id, .int n.size, .int n.role, .int n.term, .int n.vote, .int n.lead, .int n.el, .int n.to, .int n.com, .int n.app, .int n.b, .int n.bt, .str n.sn, .list (V.map VT), .list (n.vs.map IV.int), .list (n.nx.map IV.int), .list (n.mt.map IV.int), .list (n.es.map E.enc)] = some [.bool true]
  | 0, i, n, V, h, hn, hd, hV, hVl => by
    have h1 : ¬ i < l.length := by omega
    have h3 := votes_3 V hV.one (by omega) V.length 0 (by omega)
    simp only [Int.cast_ofNat_Int] at h3
    rw [e_f_law26_MemberVotes_1]
    simp only [O.lt_int, lt_cast, h1, decide_false, Option.bind_some, O.cnd_bool, Bool.false_eq_true, if_false, O.len_list, List.length_map, h3]
  | k + 1, i, n, V, h, hn, hd, hV, hVl => by
    have h1 : i < l.length := by omega
    have hao := ha _ (List.getElem_mem h1)
    have hdo := p_do n l[i] hn (by omega) hao.1
    have hx := ok_do (a := l[i]) hn
    have hst := step_do (a := l[i]) hn
    have hol := out_do (a := l[i]) hn.size
    generalize doF n l[i] = x at hdo hx hst hol
    have hw : IntKind.i64.wrap ((i : Int) + 1) = ((i + 1 : Nat) : Int) := by rw [wrap64 (by omega) (by omega)]; rfl
    have facts : n.term ≤ x.term ∧ (x.term = n.term → n.vote = -1 ∨ x.vote = n.vote) ∧ x.id = n.id ∧ (stands n x = true → x.vote = x.id) ∧ ∀ y ∈ x.out, y.kind = 2 → y.ok = true → y.term = x.term ∧ y.to = x.vote ∧ 0 ≤ y.to := by
      rcases hst with h | ⟨_, rfl⟩
      · refine ⟨h.term, h.dur, h.id, fun hs => h.self ?_, h.said⟩
        unfold stands at hs
        simp only [Bool.or_eq_true, Bool.and_eq_true, Bool.not_eq_true', decide_eq_true_eq, decide_eq_false_iff_not] at hs
        omega
      · refine ⟨Int.le_refl _, fun _ => .inr rfl, rfl, fun hs => ?_, fun y hy => by simp [restF, bare] at hy⟩
        unfold stands at hs
        simp [restF, bare] at hs
    obtain ⟨f1, f2, f3, f4, f5⟩ := facts
    have hV1 := vok_step hV f1 f2
    have hyes : ∀ p ∈ yes x.out, p.1 = x.term ∧ p.2 = x.vote ∧ 0 ≤ p.2 := fun p hp => by
      obtain ⟨y, hy, y1, y2, rfl⟩ := mem_yes hp
      exact f5 y hy y1 y2
    have hyl := yes_len x.out
    have rest : ∀ V' : List (Int × Int), VOk V' x → V'.length ≤ V.length + 1 →
        W f_law26_MemberVotes 2 [.list (l.map Act.enc), .int l.length, .int i, .agg [.int d, .int s, .int t], .int n.id, .int n.size, .int n.role, .int n.term, .int n.vote, .int n.lead, .int n.el, .int n.to, .list (n.vs.map IV.int), .list (n.nx.map IV.int), .list (n.mt.map IV.int), .int n.com, .int n.app, .int n.b, .int n.bt, .list (n.es.map E.enc), .str n.sn, .list (V'.map VT), .int x.id, .int x.size, .int x.role, .int x.term, .int x.vote, .int x.lead, .int x.el, .int x.to, .int x.com, .int x.app, .int x.b, .int x.bt, .str x.sn, .list (x.out.map G.enc), .list (x.vs.map IV.int), .list (x.nx.map IV.int), .list (x.mt.map IV.int), .list (x.es.map E.enc)] = some [.bool true] := fun V' hV' hl' => by
      have h4 := votes_4 n x (.list (l.map Act.enc)) (.int l.length) (.int i) (.agg [.int d, .int s, .int t]) hol x.out.length 0 V' (by omega) (by omega)
      simp only [Int.cast_ofNat_Int, List.drop_zero] at h4
      rw [e_f_law26_MemberVotes_2]
      simp only [O.len_list, List.length_map, Option.bind_some, h4, O.add_int, hw]
      exact votes_1 l hl ha d s t k (i + 1) x (V' ++ yes x.out) (by omega) hx (by omega) (vok_add hV' _ hyes) (by rw [List.length_append]; omega)
    have c1 : ¬ x.term < n.term := by omega
    have hc : (V.length + 1) * 16 ≤ maxBytes := cap (by omega) (by omega)
    rw [e_f_law26_MemberVotes_1]
    have hstand : ((if (if decide (x.role = 1) = true then !decide (n.role = 1) else false) = true then true else if decide (x.role = 2) = true then decide (n.role = 0) else false) = true → True) := fun _ => trivial
    simp only [O.lt_int, lt_cast, h1, decide_true, Option.bind_some, O.cnd_bool, if_true, O.index_list, Int.natCast_nonneg, Int.toNat_natCast, List.getElem?_map, List.getElem?_eq_getElem h1, Option.map_some, O.mkagg_eq, fold_enc, hdo, calls_allE, c1, decide_false, Bool.false_eq_true, if_false, O.eq_int, O.ne_int, O.gt_int, ite_some, ite_ivbool, O.proj_agg, List.getElem?_cons_zero, O.mklist_eq, O.append_list, List.length_map, List.length_singleton, hc]
    have hsv : (if (if (if decide (x.role = 1) = true then !decide (n.role = 1) else false) = true then true else if decide (x.role = 2) = true then decide (n.role = 0) else false) = true then true else if decide (x.role = 1) = true then decide (n.term < x.term) else false) = stands n x := by
      unfold stands
      by_cases r1 : x.role = 1
      · by_cases r2 : n.role = 1 <;> by_cases r3 : n.term < x.term <;> simp [r1, r2, r3]
      · by_cases r2 : x.role = 2 <;> by_cases r3 : n.role = 0 <;> simp [r1, r2, r3]
    rw [hsv]
    cases hs : stands n x with
    | true =>
      have hself := f4 hs
      have hid := hx.id.1
      have hr := rest (V ++ [(x.term, d)]) (vok_add hV1 [(x.term, d)] (fun p hp => by
        simp only [List.mem_singleton] at hp
        subst hp
        exact ⟨rfl, by show d = x.vote; omega, by show 0 ≤ d; omega⟩)) (by simp)
      simp only [List.map_append, List.map_cons, List.map_nil, VT] at hr
      simp only [if_true]
      exact hr
    | false =>
      simp only [Bool.false_eq_true, if_false]
      exact rest V hV1 (by omega)
theorem law_votes (i s t : Int) (l : List Act) (hl : l.length ≤ 1048576) (ha : ∀ a ∈ l, AOk a) : W f_law26_MemberVotes 0 [.agg [.int i, .int s, .int t], .list (l.map Act.enc)] = some [.bool true] := by
  obtain ⟨b, hb, hb2⟩ := p_few l hl ha
  rw [e_f_law26_MemberVotes_0]
  simp only [O.proj_agg, List.getElem?_cons_succ, List.getElem?_cons_zero, Option.bind_some, p_new, hb, O.calls_1]
  by_cases c : startOk i s t = true
  · rw [if_pos c]
    cases b with
    | false => simp only [calls_cellsE, O.not_bool, Bool.not_false, Option.bind_some, O.cnd_bool, if_true, lives, O.calls_1]
    | true =>
      have := votes_1 l (hb2 rfl) ha i s t l.length 0 (start i s t) [] (by omega) (ok_start c) rfl ⟨fun p hp => by simp at hp, by simp, by simp, by simp⟩ (by simp)
      simp only [Int.cast_ofNat_Int, List.map_nil] at this
      simp only [calls_cellsE, O.not_bool, Bool.not_true, Option.bind_some, O.cnd_bool, Bool.false_eq_true, if_false, O.ne_int, decide_true, O.len_list, List.length_map, this]
  · rw [if_neg c]
    cases b <;> simp [calls_cellsE, lives]
end Go.CT.Memb

namespace Go.CT.Memb
open Go.Proofs

/-! ## The same, and the law MemberElects -/
theorem ints_1 (l : List Int) (hl : l.length ≤ 4194304) : ∀ (k i : Nat), i + k = l.length → W f_ref26_ints 1 [.list (l.map IV.int), .list (l.map IV.int), .int i] = some [.bool true]
  | 0, i, h => by
    have h1 : ¬ i < l.length := by omega
    rw [e_f_ref26_ints_1]
    simp only [O.len_list, List.length_map, O.lt_int, lt_cast, h1, decide_false, Option.bind_some, O.cnd_bool, Bool.false_eq_true, if_false]
  | k + 1, i, h => by
    have h1 : i < l.length := by omega
    have hw : IntKind.i64.wrap ((i : Int) + 1) = ((i + 1 : Nat) : Int) := by rw [wrap64 (by omega) (by omega)]; rfl
    rw [e_f_ref26_ints_1]
    simp only [O.len_list, List.length_map, O.lt_int, lt_cast, h1, decide_true, Option.bind_some, O.cnd_bool, if_true, O.index_list, Int.natCast_nonneg, Int.toNat_natCast, List.getElem?_map, List.getElem?_eq_getElem h1, Option.map_some, O.ne_int, Bool.not_true, Bool.false_eq_true, if_false, O.add_int, hw]
    exact ints_1 l hl k (i + 1) (by omega)
theorem r_ints (l : List Int) (hl : l.length ≤ 4194304) : W f_ref26_ints 0 [.list (l.map IV.int), .list (l.map IV.int)] = some [.bool true] := by
  have := ints_1 l hl l.length 0 (by omega)
  simp only [Int.cast_ofNat_Int] at this
  rw [e_f_ref26_ints_0]
  simp only [O.len_list, Option.bind_some, O.ne_int, decide_true, Bool.not_true, O.cnd_bool, Bool.false_eq_true, if_false, this]
theorem r_log (b bt : Int) (es : List E) (hl : es.length ≤ 4194304) : W f_ref25_Same 0 [.agg [.int b, .int bt, .list (es.map E.enc)], .agg [.int b, .int bt, .list (es.map E.enc)]] = some [.bool true] := by
  rw [same b bt b bt es es hl]
  simp
theorem r_same (n : N) (h : Few n) : W f_ref26_Same 0 [n.enc, n.enc] = some [.bool true] := by
  obtain ⟨h1, h2, h3, h4⟩ := h
  rw [e_f_ref26_Same_0, N.enc_def]
  simp only [O.proj_agg, List.getElem?_cons_succ, List.getElem?_cons_zero, Option.bind_some, O.eq_int, decide_true, O.cnd_bool, if_true, r_ints _ h1, r_ints _ h2, r_ints _ h3, O.calls_1, O.projs_agg, List.drop_succ_cons, List.drop_zero, List.take_succ_cons, List.take_zero, r_log _ _ _ h4, O.sEq_str]
theorem p_same_log (n : N) (h : n.es.length ≤ 400) : W f_ref25_Same 0 [.agg [.int n.b, .int n.bt, .list (n.es.map E.enc)], .agg [.int n.b, .int n.bt, .list (n.es.map E.enc)]] = some [.bool true] := r_log _ _ _ (by omega)

theorem ign_bare (n : N) (x : G) (h : x.to ≠ n.id ∨ x.fr = n.id ∨ 5 < x.kind) : ignF (bare n) x = true := by
  unfold ignF
  simp only [Bool.or_eq_true, decide_eq_true_eq, ne_eq]
  rcases h with h | h | h
  · exact .inl (.inl (.inl (.inl (.inl (.inl (.inl (.inl h)))))))
  · exact .inl (.inl (.inl (.inl (.inl (.inl (.inl (.inr h)))))))
  · exact .inl (.inr h)
theorem elects_5 {k : Nat} (n : N) (x : G) (hn : Ok k n) (hk : k ≤ 1000) (hx : GOk x) (hi : x.to ≠ n.id ∨ x.fr = n.id ∨ 5 < x.kind) (A B C D L : IV) :
    W f_law26_MemberElects 5 [A, B, C, D, .int n.id, .int n.size, .int n.role, .int n.term, .int n.vote, .int n.lead, .int n.el, .int n.to, .list (n.vs.map IV.int), .list (n.nx.map IV.int), .list (n.mt.map IV.int), .int n.com, .int n.app, .int n.b, .int n.bt, .list (n.es.map E.enc), .str n.sn, .int x.kind, .int x.fr, .int x.to, .int x.term, .int x.ix, .int x.lt, .int x.com, .bool x.ok, .list (x.es.map E.enc), .str x.sn, L] =
      (O.add .i64 B (.int 1)).bind fun z => W f_law26_MemberElects 4 [A, z, C, D, .int n.id, .int n.size, .int n.role, .int n.term, .int n.vote, .int n.lead, .int n.el, .int n.to, .list (n.vs.map IV.int), .list (n.nx.map IV.int), .list (n.mt.map IV.int), .int n.com, .int n.app, .int n.b, .int n.bt, .list (n.es.map E.enc), .str n.sn, L] := by
  have hh := p_handle n x hn hk hx
  have e : handleF n x = bare n := by unfold handleF; rw [if_pos (ign_bare n x hi)]
  rw [e] at hh
  have hs := r_same n (hn.few hk)
  have e2 : (bare n).enc = n.enc := rfl
  rw [e_f_law26_MemberElects_5]
  simp only [O.mkagg_eq, Option.bind_some, fold_enc, G.fold, hh, calls_all]
  rw [e2, hs]
  simp only [O.calls_1, O.not_bool, Bool.not_true, Option.bind_some, O.cnd_bool, Bool.false_eq_true, if_false, bare, List.map_nil, O.len_list, List.length_nil, O.ne_int, Int.cast_ofNat_Int, decide_true]
theorem elects_4 {k : Nat} (n : N) (x : G) (hn : Ok k n) (hk : k ≤ 1000) (hx : GOk x) (s t : Int) : W f_law26_MemberElects 4 [.int 3, .int 0, .agg [.int n.id, .int s, .int t], x.enc, .int n.id, .int n.size, .int n.role, .int n.term, .int n.vote, .int n.lead, .int n.el, .int n.to, .list (n.vs.map IV.int), .list (n.nx.map IV.int), .list (n.mt.map IV.int), .int n.com, .int n.app, .int n.b, .int n.bt, .list (n.es.map E.enc), .str n.sn, .list [.int 0, .int 1, .int 2]] = some [.bool true] := by
  have hid := hn.id
  have hsz := hn.size
  have w1 : IntKind.i64.wrap (n.id + 1) = n.id + 1 := wrap64 (by omega) (by omega)
  have g0 := elects_5 n ⟨x.kind, x.fr, n.id + 1, x.term, x.ix, x.lt, x.com, x.ok, x.es, x.sn⟩ hn hk ⟨hx.ix, hx.es⟩ (.inl (by show n.id + 1 ≠ n.id; omega)) (.int 3) (.int 0) (.agg [.int n.id, .int s, .int t]) x.enc (.list [.int 0, .int 1, .int 2])
  have g1 := elects_5 n ⟨x.kind, n.id, n.id, x.term, x.ix, x.lt, x.com, x.ok, x.es, x.sn⟩ hn hk ⟨hx.ix, hx.es⟩ (.inr (.inl rfl)) (.int 3) (.int 1) (.agg [.int n.id, .int s, .int t]) x.enc (.list [.int 0, .int 1, .int 2])
  have g2 := elects_5 n ⟨6, x.fr, x.to, x.term, x.ix, x.lt, x.com, x.ok, x.es, x.sn⟩ hn hk ⟨hx.ix, hx.es⟩ (.inr (.inr (by show (5 : Int) < 6; omega))) (.int 3) (.int 2) (.agg [.int n.id, .int s, .int t]) x.enc (.list [.int 0, .int 1, .int 2])
  have a0 : IntKind.i64.wrap (0 + 1) = 1 := by decide
  have a1 : IntKind.i64.wrap (1 + 1) = 2 := by decide
  have a2 : IntKind.i64.wrap (2 + 1) = 3 := by decide
  simp only [O.add_int, a0, a1, a2, Option.bind_some] at g0 g1 g2
  have z0 : (0 : Int).toNat = 0 := rfl
  have z1 : (1 : Int).toNat = 1 := rfl
  have z2 : (2 : Int).toNat = 2 := rfl
  have s0 : W f_law26_MemberElects 4 [.int 3, .int 3, .agg [.int n.id, .int s, .int t], x.enc, .int n.id, .int n.size, .int n.role, .int n.term, .int n.vote, .int n.lead, .int n.el, .int n.to, .list (n.vs.map IV.int), .list (n.nx.map IV.int), .list (n.mt.map IV.int), .int n.com, .int n.app, .int n.b, .int n.bt, .list (n.es.map E.enc), .str n.sn, .list [.int 0, .int 1, .int 2]] = some [.bool true] := by
    rw [e_f_law26_MemberElects_4]
    simp only [O.lt_int, show ¬ (3 : Int) < 3 by omega, decide_false, Option.bind_some, O.cnd_bool, Bool.false_eq_true, if_false, lives, O.calls_1]
  have s1 : W f_law26_MemberElects 4 [.int 3, .int 2, .agg [.int n.id, .int s, .int t], x.enc, .int n.id, .int n.size, .int n.role, .int n.term, .int n.vote, .int n.lead, .int n.el, .int n.to, .list (n.vs.map IV.int), .list (n.nx.map IV.int), .list (n.mt.map IV.int), .int n.com, .int n.app, .int n.b, .int n.bt, .list (n.es.map E.enc), .str n.sn, .list [.int 0, .int 1, .int 2]] = some [.bool true] := by
    rw [e_f_law26_MemberElects_4]
    simp only [O.lt_int, show (2 : Int) < 3 by omega, decide_true, Option.bind_some, O.cnd_bool, if_true, O.index_list, show (0 : Int) ≤ 2 by omega, z2, List.getElem?_cons_succ, List.getElem?_cons_zero, O.eq_int, show ¬ (2 : Int) = 0 by omega, show ¬ (2 : Int) = 1 by omega, decide_false, Bool.false_eq_true, if_false, G.p0, G.p1, G.p2, G.p3, G.p4, G.p5, G.p6, G.p7, G.p8, G.p9, g2, s0]
  have s2 : W f_law26_MemberElects 4 [.int 3, .int 1, .agg [.int n.id, .int s, .int t], x.enc, .int n.id, .int n.size, .int n.role, .int n.term, .int n.vote, .int n.lead, .int n.el, .int n.to, .list (n.vs.map IV.int), .list (n.nx.map IV.int), .list (n.mt.map IV.int), .int n.com, .int n.app, .int n.b, .int n.bt, .list (n.es.map E.enc), .str n.sn, .list [.int 0, .int 1, .int 2]] = some [.bool true] := by
    rw [e_f_law26_MemberElects_4]
    simp only [O.lt_int, show (1 : Int) < 3 by omega, decide_true, Option.bind_some, O.cnd_bool, if_true, O.index_list, show (0 : Int) ≤ 1 by omega, z1, List.getElem?_cons_succ, List.getElem?_cons_zero, O.eq_int, show ¬ (1 : Int) = 0 by omega, decide_false, Bool.false_eq_true, if_false, O.proj_agg, G.p0, G.p1, G.p2, G.p3, G.p4, G.p5, G.p6, G.p7, G.p8, G.p9, g1, s1]
  rw [e_f_law26_MemberElects_4]
  simp only [O.lt_int, show (0 : Int) < 3 by omega, decide_true, Option.bind_some, O.cnd_bool, if_true, O.index_list, Int.le_refl, z0, List.getElem?_cons_zero, O.eq_int, O.proj_agg, O.add_int, w1, G.p0, G.p1, G.p2, G.p3, G.p4, G.p5, G.p6, G.p7, G.p8, G.p9, g0, s2]
/-- Where the votes have been counted. -/
theorem elects_end {k : Nat} (n : N) (x : G) (hn : Ok k n) (hk : k + 2 ≤ 1000) (hx : GOk x) (t : Int) (votes : List Bool) (c i : Nat) (hone : n.size = 1 → n.role = 2) (hend : ¬ ((i : Int) < n.size ∧ i < votes.length ∧ n.role = 1)) :
    W f_law26_MemberElects 1 [.list (votes.map IV.bool), .int c, .int i, .agg [.int n.id, .int n.size, .int t], x.enc, .int n.id, .int n.size, .int n.role, .int n.term, .int n.vote, .int n.lead, .int n.el, .int n.to, .int n.com, .int n.app, .int n.b, .int n.bt, .str n.sn, .list (n.vs.map IV.int), .list (n.nx.map IV.int), .list (n.mt.map IV.int), .list (n.es.map E.enc)] = some [.bool true] := by
  have hr := p_restart n hn (by omega)
  have hor := ok_rest hn
  have hr2 := p_restart (restF n) hor (by omega)
  have e2 : restF (restF n) = restF n := rfl
  rw [e2] at hr2
  have hs := r_same (restF n) (hor.few (by omega))
  have h4 := elects_4 n x hn (by omega) hx n.size t
  have hl := p_same_log n hn.len
  rw [e_f_law26_MemberElects_1]
  have hb : ((if decide ((i : Int) < n.size) = true then some (IV.bool (decide (i < votes.length))) else some (IV.bool false)).bind fun z => (cnd z (some (IV.bool (decide (n.role = 1)))) (some (.bool false)))) = some (.bool false) := by
    by_cases c1 : (i : Int) < n.size
    · by_cases c2 : i < votes.length
      · have c3 : ¬ n.role = 1 := fun c3 => hend ⟨c1, c2, c3⟩
        simp [c1, c2, c3]
      · simp [c1, c2]
    · simp [c1]
  simp only [O.proj_agg, List.getElem?_cons_succ, List.getElem?_cons_zero, Option.bind_some, O.lt_int, O.cnd_bool, O.len_list, List.length_map, lt_cast, O.eq_int]
  have hb2 : ∀ (F : IV → Option (List IV)), ((if decide ((i : Int) < n.size) = true then some (IV.bool (decide (i < votes.length))) else some (IV.bool false)).bind fun z => (cnd z (some (IV.bool (decide (n.role = 1)))) (some (.bool false))).bind F) = F (.bool false) := fun F => by
    rw [← Option.bind_assoc, hb]; rfl
  rw [hb2]
  simp only [O.cnd_bool, Bool.false_eq_true, if_false, O.ne_int, Option.bind_some]
  have hsz : (if decide (n.size = 1) = true then some (IV.bool (!decide (n.role = 2))) else some (IV.bool false)) = some (.bool false) := by
    by_cases c1 : n.size = 1
    · simp [c1, hone c1]
    · simp [c1]
  rw [hsz]
  simp only [Option.bind_some, O.cnd_bool, Bool.false_eq_true, if_false, O.mkagg_eq, fold_enc, hr, calls_cells]
  have hlen3 : (([IV.int 0, IV.int 1, IV.int 2] : List IV).length : Int) = 3 := rfl
  have r1 : (restF n).term = n.term := rfl
  have r2 : (restF n).vote = n.vote := rfl
  have r3 : (restF n).b = n.b := rfl
  have r4 : (restF n).bt = n.bt := rfl
  have r5 : (restF n).es = n.es := rfl
  have r6 : (restF n).sn = n.sn := rfl
  have r7 : (restF n).role = 0 := rfl
  simp only [r1, r2, r3, r4, r5, r6, r7, decide_true, Bool.not_true, Option.bind_some, O.cnd_bool, Bool.false_eq_true, if_false, hl, O.calls_1, O.not_bool, O.sNe_str, O.ne_int]
  simp only [hr2, calls_cells, fold_enc, hs, O.calls_1, O.not_bool, Bool.not_true, Option.bind_some, O.cnd_bool, Bool.false_eq_true, if_false, O.mklist_eq, O.len_list, hlen3]
  exact h4
theorem pos_new {l : List Int} {x : Int} (h : x ∉ l) : (putF l x).length = l.length + 1 := by
  have hp := pos_le l x
  unfold putF
  rw [if_neg (fun c => h (List.mem_of_getElem? c))]
  simp; omega
theorem mem_put {l : List Int} {x y : Int} (h : y ∈ putF l x) : y ∈ l ∨ y = x := by
  unfold putF at h
  split at h
  · exact .inl h
  · rcases List.mem_append.1 h with g | g
    · exact .inl (List.mem_of_mem_take g)
    · rcases List.mem_cons.1 g with g | g
      · exact .inr g
      · exact .inl (List.mem_of_mem_drop g)
/-- While the votes are counted. -/
structure Count (c i : Nat) (n : N) : Prop where
  term : n.term = 1
  one : n.size = 1 → n.role = 2
  cand : n.role = 1 → n.vs.length = c ∧ 2 * (c : Int) ≤ n.size ∧ ∀ y ∈ n.vs, y = n.id ∨ y < i
theorem elects_1 (votes : List Bool) (hv : votes.length ≤ 20) (x : G) (hx : GOk x) (t : Int) : ∀ (k i c : Nat) (n : N), i + k = votes.length → Ok (i + 1) n → Count c i n → c ≤ i + 1 →
    W f_law26_MemberElects 1 [.list (votes.map IV.bool), .int c, .int i, .agg [.int n.id, .int n.size, .int t], x.enc, .int n.id, .int n.size, .int n.role, .int n.term, .int n.vote, .int n.lead, .int n.el, .int n.to, .int n.com, .int n.app, .int n.b, .int n.bt, .str n.sn, .list (n.vs.map IV.int), .list (n.nx.map IV.int), .list (n.mt.map IV.int), .list (n.es.map E.enc)] = some [.bool true]
  | 0, i, c, n, hk, hn, hC, hc => elects_end n x hn (by omega) hx t votes c i hC.one (fun h => by omega)
  | k + 1, i, c, n, hk, hn, hC, hc => by
    by_cases hgo : ((i : Int) < n.size ∧ i < votes.length ∧ n.role = 1)
    · obtain ⟨h1, h2, h3⟩ := hgo
      obtain ⟨k1, k2, k3⟩ := hC.cand h3
      have hid := hn.id
      have hw : IntKind.i64.wrap ((i : Int) + 1) = ((i + 1 : Nat) : Int) := by rw [wrap64 (by omega) (by omega)]; rfl
      have hw2 : IntKind.i64.wrap ((c : Int) + 1) = ((c + 1 : Nat) : Int) := by rw [wrap64 (by omega) (by omega)]; rfl
      have d1 : decide (n.role = 1) = true := by simp [h3]
      by_cases hi : (i : Int) = n.id
      · have ih := elects_1 votes hv x hx t k (i + 1) c n (by omega) (ok_mono hn (by omega)) ⟨hC.term, hC.one, fun hr => ⟨k1, k2, fun y hy => by have := k3 y hy; omega⟩⟩ (by omega)
        have d2 : decide ((i : Int) = n.id) = true := by simp [hi]
        rw [e_f_law26_MemberElects_1]
        simp only [O.proj_agg, List.getElem?_cons_succ, List.getElem?_cons_zero, Option.bind_some, O.lt_int, h1, decide_true, O.cnd_bool, if_true, O.len_list, List.length_map, lt_cast, h2, O.eq_int, d1, d2, e_f_law26_MemberElects_2, O.add_int, hw]
        exact ih
      · have d2 : decide ((i : Int) = n.id) = false := by simp [hi]
        have hgt : votes[i]? = some votes[i] := List.getElem?_eq_getElem h2
        generalize hve : votes[i] = v at hgt
        have hh := p_handle n ⟨2, i, n.id, 1, 0, 0, 0, v, [], ⟨#[]⟩⟩ hn (by omega) ⟨by unfold I64; simp, by simp⟩
        have hsp := step_handle (x := ⟨2, i, n.id, 1, 0, 0, 0, v, [], ⟨#[]⟩⟩) hn
        have hterm := hC.term
        have he : handleF n ⟨2, i, n.id, 1, 0, 0, 0, v, [], ⟨#[]⟩⟩ = votedF (bare n) ⟨2, i, n.id, 1, 0, 0, 0, v, [], ⟨#[]⟩⟩ := by
          have hig : ¬ ignF (bare n) ⟨2, i, n.id, 1, 0, 0, 0, v, [], ⟨#[]⟩⟩ = true := by
            have a1 : (bare n).id = n.id := rfl
            have a2 : (bare n).size = n.size := rfl
            unfold ignF
            simp only [a1, a2, Bool.or_eq_true, decide_eq_true_eq, not_or, ne_eq, not_true_eq_false, not_false_eq_true, true_and]
            refine ⟨⟨⟨⟨⟨⟨⟨hi, ?_⟩, ?_⟩, ?_⟩, ?_⟩, ?_⟩, ?_⟩, ?_⟩ <;> first | omega | simp
          unfold handleF
          rw [if_neg hig, if_neg (by show ¬ (1 : Int) < n.term; omega)]
          have ht : termF (bare n) ⟨2, i, n.id, 1, 0, 0, 0, v, [], ⟨#[]⟩⟩ = bare n := if_neg (by show ¬ n.term < 1; omega)
          rw [ht]
          unfold kindF
          rw [if_neg (by show ¬ (2 : Int) = 1; decide), if_pos (by show (2 : Int) = 2; rfl)]
        rw [he] at hh hsp
        have hnot : (i : Int) ∉ n.vs := fun hm => by have := k3 _ hm; omega
        -- after the message
        have after : ∃ c' : Nat, c' = (if v = true then c + 1 else c) ∧ Count c' (i + 1) (votedF (bare n) ⟨2, i, n.id, 1, 0, 0, 0, v, [], ⟨#[]⟩⟩) ∧ (decide ((votedF (bare n) ⟨2, i, n.id, 1, 0, 0, 0, v, [], ⟨#[]⟩⟩).role = 2) = decide (n.size < 2 * (c' : Int))) ∧ (votedF (bare n) ⟨2, i, n.id, 1, 0, 0, 0, v, [], ⟨#[]⟩⟩).id = n.id ∧ (votedF (bare n) ⟨2, i, n.id, 1, 0, 0, 0, v, [], ⟨#[]⟩⟩).size = n.size := by
          cases v with
          | false =>
            refine ⟨c, by simp, ?_⟩
            have e : votedF (bare n) ⟨2, i, n.id, 1, 0, 0, 0, false, [], ⟨#[]⟩⟩ = bare n := if_pos (.inr rfl)
            rw [e]
            refine ⟨⟨hterm, hC.one, fun hr => ⟨k1, k2, fun y hy => by have := k3 y hy; show y = n.id ∨ _; omega⟩⟩, ?_, rfl, rfl⟩
            show decide (n.role = 2) = _
            rw [decide_eq_decide]
            omega
          | true =>
            refine ⟨c + 1, by simp, ?_⟩
            have hlen := pos_new hnot
            have e : votedF (bare n) ⟨2, i, n.id, 1, 0, 0, 0, true, [], ⟨#[]⟩⟩ = if n.size < 2 * ((putF n.vs i).length : Int) then leadF {bare n with vs := putF n.vs i} else {bare n with vs := putF n.vs i} := if_neg (fun h => by
              rcases h with h | h
              · exact h h3
              · cases h)
            rw [e]
            by_cases hm : n.size < 2 * ((putF n.vs i).length : Int)
            · rw [if_pos hm]
              have h1 : Ok (i + 2) {bare n with vs := putF n.vs i} := ⟨hn.id, hn.size, hn.to, hn.term, hn.role, hn.pos, by have := hn.el; show (0 : Int) ≤ n.el ∧ n.el ≤ ((i + 2 : Nat) : Int); omega, hn.val, hn.bt, hn.ts, hn.com, hn.app, putF_asc _ _ hn.asc, by have := hn.vsl; show (putF n.vs i).length ≤ i + 2 + 1; omega, hn.led, hn.nxl, hn.nx, hn.mt⟩
              obtain ⟨_, g2⟩ := ok_lead h1 (by show 1 ≤ n.term; omega)
              have gr := g2.role
              have gt : (leadF {bare n with vs := putF n.vs i}).term = n.term := g2.term
              refine ⟨⟨by omega, fun _ => gr, fun hr => by omega⟩, ?_, g2.id, g2.size⟩
              rw [decide_eq_decide]
              omega
            · rw [if_neg hm]
              refine ⟨⟨hterm, fun hs => by have := hC.one hs; omega, fun _ => ⟨by show (putF n.vs i).length = _; omega, by show _ ≤ n.size; omega, fun y hy => ?_⟩⟩, ?_, rfl, rfl⟩
              · rcases mem_put hy with g | g
                · have := k3 y g; show y = n.id ∨ _; omega
                · right; omega
              · show decide (n.role = 2) = _
                rw [decide_eq_decide]
                omega
        obtain ⟨c', hc', hC', hdec, q1, q2⟩ := after
        have hok := hsp.1
        generalize votedF (bare n) ⟨2, i, n.id, 1, 0, 0, 0, v, [], ⟨#[]⟩⟩ = m at hh hC' hdec q1 q2 hok
        have ih := elects_1 votes hv x hx t k (i + 1) c' m (by omega) hok hC' (by split at hc' <;> omega)
        rw [q1, q2] at ih
        have hmul : IntKind.i64.wrap (2 * ((c' : Nat) : Int)) = 2 * (c' : Int) := wrap64 (by omega) (by split at hc' <;> omega)
        have h3' : W f_law26_MemberElects 3 [.list (votes.map IV.bool), .int c', .int i, .agg [.int n.id, .int n.size, .int t], x.enc, .int m.id, .int m.size, .int m.role, .int m.term, .int m.vote, .int m.lead, .int m.el, .int m.to, .int m.com, .int m.app, .int m.b, .int m.bt, .str m.sn, .list (m.vs.map IV.int), .list (m.nx.map IV.int), .list (m.mt.map IV.int), .list (m.es.map E.enc)] = some [.bool true] := by
          rw [e_f_law26_MemberElects_3]
          simp only [O.eq_int, O.mul_int, hmul, O.proj_agg, List.getElem?_cons_succ, List.getElem?_cons_zero, Option.bind_some, O.gt_int, hdec, O.bNe_bool, bne_self_eq_false, O.cnd_bool, Bool.false_eq_true, if_false, e_f_law26_MemberElects_2, O.add_int, hw]
          rw [← q1, ← q2] at ih ⊢
          exact ih
        rw [e_f_law26_MemberElects_1]
        simp only [O.proj_agg, List.getElem?_cons_succ, List.getElem?_cons_zero, Option.bind_some, O.lt_int, h1, decide_true, O.cnd_bool, if_true, O.len_list, List.length_map, lt_cast, h2, O.eq_int, d1, d2, Bool.false_eq_true, if_false, O.index_list, Int.natCast_nonneg, Int.toNat_natCast, List.getElem?_map, hgt, Option.map_some, O.mkagg_eq, fold_enc, G.fold0, hh, calls_all, O.add_int, hw2]
        cases v with
        | true =>
          simp only [if_true] at hc' ⊢
          rw [← hc']
          exact h3'
        | false =>
          simp only [Bool.false_eq_true, if_false] at hc' ⊢
          rw [← hc']
          exact h3'
    · exact elects_end n x hn (by omega) hx t votes c i hC.one hgo
theorem law_elects (i s t : Int) (votes : List Bool) (x : G) (hx : GOk x) : W f_law26_MemberElects 0 [.agg [.int i, .int s, .int t], .list (votes.map IV.bool), x.enc] = some [.bool true] := by
  rw [e_f_law26_MemberElects_0]
  simp only [O.proj_agg, List.getElem?_cons_succ, List.getElem?_cons_zero, Option.bind_some, p_new]
  by_cases c : startOk i s 1 = true
  · rw [if_pos c]
    have hok := ok_start c
    have ht := p_tick (start i s 1) hok (by omega)
    obtain ⟨h1, h2⟩ := step_tick hok
    have hs : 1 ≤ s ∧ s ≤ 7 ∧ 0 ≤ i ∧ i < s := by
      unfold startOk at c
      simp only [decide_eq_true_eq] at c
      omega
    have he : tickF (start i s 1) = electF {start i s 1 with el := 1} := by
      unfold tickF
      rw [if_neg (by show ¬ (0 : Int) = 2; omega), if_pos ⟨by show (1 : Int) ≤ 0 + 1; omega, by show (0 : Int) < 1000000000000000; omega⟩]
      rfl
    have hid := h2.id
    have hsz := h2.size
    have hC : Count 1 0 (tickF (start i s 1)) := by
      rw [he]
      unfold electF
      by_cases c1 : s = 1
      · rw [if_pos (show ({start i s 1 with el := 1} : N).size = 1 from c1)]
        have hk := ok_elect0 (ok_el hok) (by show (0 : Int) < 1000000000000000; omega)
        obtain ⟨_, g⟩ := ok_lead (n := elect0 {start i s 1 with el := 1}) hk (by show (1 : Int) ≤ 0 + 1; omega)
        have gt := g.term
        have gr := g.role
        exact ⟨gt, fun _ => gr, fun hr => by omega⟩
      · rw [if_neg (show ¬ ({start i s 1 with el := 1} : N).size = 1 from c1)]
        exact ⟨rfl, fun h => absurd h c1, fun _ => ⟨rfl, by show (2 : Int) * 1 ≤ s; omega, fun y hy => .inl (by have : y ∈ [i] := hy; show y = i; simpa using this)⟩⟩
    generalize tickF (start i s 1) = m at ht h1 hid hsz hC
    have hid' : m.id = i := hid
    have hsz' : m.size = s := hsz
    simp only [calls_cellsE, O.ne_int, decide_true, Bool.not_true, Option.bind_some, O.cnd_bool, Bool.false_eq_true, if_false, O.len_list, List.length_map, O.gt_int, ite_some, ite_ivbool, G.p8, G.p9, O.slen_str, O.mkagg_eq, fold_enc, ht, calls_all]
    generalize hq : (if (if decide ((20 : Int) < (votes.length : Int)) = true then true else decide ((40 : Int) < (x.es.length : Int))) = true then true else decide ((300 : Int) < (x.sn.size : Int))) = q
    cases q with
    | true => simp only [if_true, lives, O.calls_1]
    | false =>
      have hv : votes.length ≤ 20 := by
        by_cases c2 : (20 : Int) < (votes.length : Int)
        · simp [c2] at hq
        · omega
      have h := elects_1 votes hv x hx t votes.length 0 1 m (by omega) h1 hC (by omega)
      simp only [Int.cast_ofNat_Int, hid', hsz'] at h
      simp only [Bool.false_eq_true, if_false, hid', hsz']
      exact h
  · rw [if_neg c]
    simp only [calls_cellsE, O.ne_int, show ¬ (1 : Int) = 0 by omega, decide_false, Bool.not_false, Option.bind_some, O.cnd_bool, if_true, lives, O.calls_1]
end Go.CT.Memb
