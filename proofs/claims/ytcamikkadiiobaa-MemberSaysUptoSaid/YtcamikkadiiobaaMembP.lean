import Derived.Test.YtcamikkadiiobaaMembR
set_option linter.unusedVariables false
set_option linter.unusedSimpArgs false
namespace Go.CT.Memb
open Go.Proofs

/-! ## Members and messages -/
structure G where
  kind : Int
  fr : Int
  to : Int
  term : Int
  ix : Int
  lt : Int
  com : Int
  ok : Bool
  es : List E
  sn : ByteArray
def G.enc (g : G) : IV := .agg [.int g.kind, .int g.fr, .int g.to, .int g.term, .int g.ix, .int g.lt, .int g.com, .bool g.ok, .list (g.es.map E.enc), .str g.sn]
theorem G.fold (k f t tm i l c : Int) (o : Bool) (es : List E) (sn : ByteArray) : IV.agg [.int k, .int f, .int t, .int tm, .int i, .int l, .int c, .bool o, .list (es.map E.enc), .str sn] = G.enc ⟨k, f, t, tm, i, l, c, o, es, sn⟩ := rfl
theorem G.fold0 (k f t tm i l c : Int) (o : Bool) (sn : ByteArray) : IV.agg [.int k, .int f, .int t, .int tm, .int i, .int l, .int c, .bool o, .list [], .str sn] = G.enc ⟨k, f, t, tm, i, l, c, o, [], sn⟩ := rfl
theorem E.fold (t : Int) (d : ByteArray) : IV.agg [.int t, .str d] = E.enc ⟨t, d⟩ := rfl
theorem G.p0 (g : G) : O.proj 0 g.enc = some (.int g.kind) := rfl
theorem G.p1 (g : G) : O.proj 1 g.enc = some (.int g.fr) := rfl
theorem G.p2 (g : G) : O.proj 2 g.enc = some (.int g.to) := rfl
theorem G.p3 (g : G) : O.proj 3 g.enc = some (.int g.term) := rfl
theorem G.p4 (g : G) : O.proj 4 g.enc = some (.int g.ix) := rfl
theorem G.p5 (g : G) : O.proj 5 g.enc = some (.int g.lt) := rfl
theorem G.p6 (g : G) : O.proj 6 g.enc = some (.int g.com) := rfl
theorem G.p7 (g : G) : O.proj 7 g.enc = some (.bool g.ok) := rfl
theorem G.p8 (g : G) : O.proj 8 g.enc = some (.list (g.es.map E.enc)) := rfl
theorem G.p9 (g : G) : O.proj 9 g.enc = some (.str g.sn) := rfl
/-- A member, and what it sends. -/
structure N where
  id : Int
  size : Int
  role : Int
  term : Int
  vote : Int
  lead : Int
  el : Int
  to : Int
  vs : List Int
  nx : List Int
  mt : List Int
  com : Int
  app : Int
  b : Int
  bt : Int
  es : List E
  sn : ByteArray
  out : List G
def N.l (n : N) : L := ⟨n.b, n.bt, n.es⟩
def N.cells (n : N) : List IV := [.int n.id, .int n.size, .int n.role, .int n.term, .int n.vote, .int n.lead, .int n.el, .int n.to, .list (n.vs.map IV.int), .list (n.nx.map IV.int), .list (n.mt.map IV.int), .int n.com, .int n.app, .int n.b, .int n.bt, .list (n.es.map E.enc), .str n.sn]
def N.all (n : N) : List IV := [.int n.id, .int n.size, .int n.role, .int n.term, .int n.vote, .int n.lead, .int n.el, .int n.to, .list (n.vs.map IV.int), .list (n.nx.map IV.int), .list (n.mt.map IV.int), .int n.com, .int n.app, .int n.b, .int n.bt, .list (n.es.map E.enc), .str n.sn, .list (n.out.map G.enc)]
def N.allE (n : N) (e : Int) : List IV := [.int n.id, .int n.size, .int n.role, .int n.term, .int n.vote, .int n.lead, .int n.el, .int n.to, .list (n.vs.map IV.int), .list (n.nx.map IV.int), .list (n.mt.map IV.int), .int n.com, .int n.app, .int n.b, .int n.bt, .list (n.es.map E.enc), .str n.sn, .list (n.out.map G.enc), .int e]
def N.cellsE (n : N) (e : Int) : List IV := [.int n.id, .int n.size, .int n.role, .int n.term, .int n.vote, .int n.lead, .int n.el, .int n.to, .list (n.vs.map IV.int), .list (n.nx.map IV.int), .list (n.mt.map IV.int), .int n.com, .int n.app, .int n.b, .int n.bt, .list (n.es.map E.enc), .str n.sn, .int e]
def N.enc (n : N) : IV := .agg n.cells
theorem calls_cells {β : Type} (n : N) (f : IV → IV → IV → IV → IV → IV → IV → IV → IV → IV → IV → IV → IV → IV → IV → IV → IV → Option β) : calls (some n.cells) 17 f = f (.int n.id) (.int n.size) (.int n.role) (.int n.term) (.int n.vote) (.int n.lead) (.int n.el) (.int n.to) (.list (n.vs.map IV.int)) (.list (n.nx.map IV.int)) (.list (n.mt.map IV.int)) (.int n.com) (.int n.app) (.int n.b) (.int n.bt) (.list (n.es.map E.enc)) (.str n.sn) := rfl
theorem calls_all {β : Type} (n : N) (f : IV → IV → IV → IV → IV → IV → IV → IV → IV → IV → IV → IV → IV → IV → IV → IV → IV → IV → Option β) : calls (some n.all) 18 f = f (.int n.id) (.int n.size) (.int n.role) (.int n.term) (.int n.vote) (.int n.lead) (.int n.el) (.int n.to) (.list (n.vs.map IV.int)) (.list (n.nx.map IV.int)) (.list (n.mt.map IV.int)) (.int n.com) (.int n.app) (.int n.b) (.int n.bt) (.list (n.es.map E.enc)) (.str n.sn) (.list (n.out.map G.enc)) := rfl
theorem calls_cellsE {β : Type} (n : N) (e : Int) (f : IV → IV → IV → IV → IV → IV → IV → IV → IV → IV → IV → IV → IV → IV → IV → IV → IV → IV → Option β) : calls (some (n.cellsE e)) 18 f = f (.int n.id) (.int n.size) (.int n.role) (.int n.term) (.int n.vote) (.int n.lead) (.int n.el) (.int n.to) (.list (n.vs.map IV.int)) (.list (n.nx.map IV.int)) (.list (n.mt.map IV.int)) (.int n.com) (.int n.app) (.int n.b) (.int n.bt) (.list (n.es.map E.enc)) (.str n.sn) (.int e) := rfl
theorem calls_allE {β : Type} (n : N) (e : Int) (f : IV → IV → IV → IV → IV → IV → IV → IV → IV → IV → IV → IV → IV → IV → IV → IV → IV → IV → IV → Option β) : calls (some (n.allE e)) 19 f = f (.int n.id) (.int n.size) (.int n.role) (.int n.term) (.int n.vote) (.int n.lead) (.int n.el) (.int n.to) (.list (n.vs.map IV.int)) (.list (n.nx.map IV.int)) (.list (n.mt.map IV.int)) (.int n.com) (.int n.app) (.int n.b) (.int n.bt) (.list (n.es.map E.enc)) (.str n.sn) (.list (n.out.map G.enc)) (.int e) := rfl
theorem N.eta (n : N) : N.mk n.id n.size n.role n.term n.vote n.lead n.el n.to n.vs n.nx n.mt n.com n.app n.b n.bt n.es n.sn n.out = n := rfl
theorem N.enc_def (n : N) : n.enc = .agg [.int n.id, .int n.size, .int n.role, .int n.term, .int n.vote, .int n.lead, .int n.el, .int n.to, .list (n.vs.map IV.int), .list (n.nx.map IV.int), .list (n.mt.map IV.int), .int n.com, .int n.app, .int n.b, .int n.bt, .list (n.es.map E.enc), .str n.sn] := rfl
theorem all_eq (id size role term vote lead el to : Int) (vs nx mt : List Int) (com app b bt : Int) (es : List E) (sn : ByteArray) (out : List G) : [.int id, .int size, .int role, .int term, .int vote, .int lead, .int el, .int to, .list (vs.map IV.int), .list (nx.map IV.int), .list (mt.map IV.int), .int com, .int app, .int b, .int bt, .list (es.map E.enc), .str sn, .list (out.map G.enc)] = N.all (N.mk id size role term vote lead el to vs nx mt com app b bt es sn out) := rfl
theorem enc_eq (id size role term vote lead el to : Int) (vs nx mt : List Int) (com app b bt : Int) (es : List E) (sn : ByteArray) : IV.agg [.int id, .int size, .int role, .int term, .int vote, .int lead, .int el, .int to, .list (vs.map IV.int), .list (nx.map IV.int), .list (mt.map IV.int), .int com, .int app, .int b, .int bt, .list (es.map E.enc), .str sn] = N.enc (N.mk id size role term vote lead el to vs nx mt com app b bt es sn []) := rfl

theorem cap {n k : Nat} (h : n ≤ 1048576) (hk : k ≤ 1000) : (n + 1) * k ≤ maxBytes := by
  have : (n + 1) * k ≤ 1048577 * 1000 := Nat.mul_le_mul (by omega) hk
  unfold maxBytes; omega
section
variable (id size role term vote lead el to : Int) (vs nx mt : List Int) (com app b bt : Int) (es : List E) (sn : ByteArray) (out : List G)
theorem p_send (j : Int) (x : G) (ho : out.length ≤ 1048576) : W f_member_node_send 0 [.int id, .int size, .int role, .int term, .int vote, .int lead, .int el, .int to, .list (vs.map IV.int), .list (nx.map IV.int), .list (mt.map IV.int), .int com, .int app, .int b, .int bt, .list (es.map E.enc), .str sn, .list (out.map G.enc), .int j, x.enc] = some (N.all {(N.mk id size role term vote lead el to vs nx mt com app b bt es sn out) with out := out ++ [⟨x.kind, id, j, term, x.ix, x.lt, x.com, x.ok, x.es, x.sn⟩]}) := by
  rw [e_f_member_node_send_0]
  have hc : (out.length + 1) * 104 ≤ maxBytes := cap ho (by omega)
  simp only [G.p0, G.p1, G.p2, G.p3, G.p4, G.p5, G.p6, G.p7, G.p8, G.p9, Option.bind_some, O.mkagg_eq, O.mklist_eq, O.append_list, List.length_map, List.length_singleton, hc, if_true, G.fold, N.all, List.map_append, List.map_cons, List.map_nil]
theorem p_last (h : tame ⟨b, bt, es⟩) : W f_member_node_last 0 [.agg [.int id, .int size, .int role, .int term, .int vote, .int lead, .int el, .int to, .list (vs.map IV.int), .list (nx.map IV.int), .list (mt.map IV.int), .int com, .int app, .int b, .int bt, .list (es.map E.enc), .str sn, .list (out.map G.enc)]] = some [.int (lastI ⟨b, bt, es⟩)] := by
  rw [e_f_member_node_last_0]
  simp only [O.projs_agg, List.drop_succ_cons, List.drop_zero, List.take_succ_cons, List.take_zero, Option.bind_some, prg_last b bt es h, O.calls_2]
theorem p_majority (k : Int) (hs : 1 ≤ size ∧ size ≤ 7) : W f_member_node_majority 0 [.agg [.int id, .int size, .int role, .int term, .int vote, .int lead, .int el, .int to, .list (vs.map IV.int), .list (nx.map IV.int), .list (mt.map IV.int), .int com, .int app, .int b, .int bt, .list (es.map E.enc), .str sn, .list (out.map G.enc)], .int k] = some [.bool (decide (size < 2 * k))] := by
  rw [e_f_member_node_majority_0]
  have h2 : size.tdiv 2 = size / 2 := Int.tdiv_eq_ediv_of_nonneg (by omega)
  have hw : IntKind.i64.wrap (size / 2) = size / 2 := wrap64 (by omega) (by omega)
  simp only [O.proj_agg, List.getElem?_cons_succ, List.getElem?_cons_zero, Option.bind_some, O.quo_int, show ¬ (2 : Int) = 0 by omega, if_false, h2, hw, O.gt_int]
  congr 3
  rw [decide_eq_decide]; omega
theorem p_commitTo (i : Int) : W f_member_node_commitTo 0 [.int id, .int size, .int role, .int term, .int vote, .int lead, .int el, .int to, .list (vs.map IV.int), .list (nx.map IV.int), .list (mt.map IV.int), .int com, .int app, .int b, .int bt, .list (es.map E.enc), .str sn, .list (out.map G.enc), .int i] = some (N.all (if com < i then {(N.mk id size role term vote lead el to vs nx mt com app b bt es sn out) with com := i, app := i} else (N.mk id size role term vote lead el to vs nx mt com app b bt es sn out))) := by
  rw [e_f_member_node_commitTo_0]
  simp only [O.gt_int, Option.bind_some, O.cnd_bool, decide_eq_true_eq]
  split <;> rfl
theorem p_follow (i : Int) : W f_member_node_follow 0 [.int id, .int size, .int role, .int term, .int vote, .int lead, .int el, .int to, .list (vs.map IV.int), .list (nx.map IV.int), .list (mt.map IV.int), .int com, .int app, .int b, .int bt, .list (es.map E.enc), .str sn, .list (out.map G.enc), .int i] = some (N.all {(N.mk id size role term vote lead el to vs nx mt com app b bt es sn out) with role := 0, vs := [], lead := i, el := 0}) := by
  rw [e_f_member_node_follow_0]; rfl
theorem p_add (d : ByteArray) (he : es.length ≤ 1048576) : W f_member_node_add 0 [.int id, .int size, .int role, .int term, .int vote, .int lead, .int el, .int to, .list (vs.map IV.int), .list (nx.map IV.int), .list (mt.map IV.int), .int com, .int app, .int b, .int bt, .list (es.map E.enc), .str sn, .list (out.map G.enc), .str d] = some (N.all {(N.mk id size role term vote lead el to vs nx mt com app b bt es sn out) with es := es ++ [⟨term, d⟩]}) := by
  rw [e_f_member_node_add_0]
  have hc : (es.length + 1) * 24 ≤ maxBytes := cap he (by omega)
  simp only [Option.bind_some, O.mkagg_eq, O.mklist_eq, O.append_list, List.length_map, List.length_singleton, hc, if_true, E.fold, N.all, List.map_append, List.map_cons, List.map_nil]
end
/-- The append message for another member whose next index is i. -/
def appMsg (n : N) (j i : Int) : G :=
  if i ≤ n.b then ⟨5, n.id, j, n.term, n.b, n.bt, 0, false, [], n.sn⟩
  else ⟨3, n.id, j, n.term, i - 1, (termAt n.l (i - 1)).getD 0, n.com, false, (fromI n.l i 8).getD [], ⟨#[]⟩⟩
theorem optE_getD (o : Option (List E)) : optE o = [.list ((o.getD []).map E.enc), .bool o.isSome] := by cases o <;> rfl
/-- A number of moderate size. -/
def Mid (i : Int) : Prop := -4000000000000000 ≤ i ∧ i ≤ 4000000000000000
theorem p_appendTo (id size role term vote lead el to : Int) (vs nx mt : List Int) (com app b bt : Int) (es : List E) (sn : ByteArray) (out : List G) (j : Nat) (i : Int) (ho : out.length ≤ 1048576) (h : tame ⟨b, bt, es⟩) (hi : nx[j]? = some i) (hm : Mid i) :
    W f_member_node_appendTo 0 [.int id, .int size, .int role, .int term, .int vote, .int lead, .int el, .int to, .list (vs.map IV.int), .list (nx.map IV.int), .list (mt.map IV.int), .int com, .int app, .int b, .int bt, .list (es.map E.enc), .str sn, .list (out.map G.enc), .int j] = some (N.all {(N.mk id size role term vote lead el to vs nx mt com app b bt es sn out) with out := out ++ [appMsg (N.mk id size role term vote lead el to vs nx mt com app b bt es sn out) j i]}) := by
  rw [e_f_member_node_appendTo_0]
  have hw : IntKind.i64.wrap (i - 1) = i - 1 := wrap64 (by have := hm.1; omega) (by have := hm.2; omega)
  have hs := fun x => p_send id size role term vote lead el to vs nx mt com app b bt es sn out j x ho
  simp only [O.index_list, Int.natCast_nonneg, if_true, Int.toNat_natCast, List.getElem?_map, hi, Option.map_some, Option.bind_some, O.le_int, O.cnd_bool, decide_eq_true_eq, O.mkagg_eq, G.fold0, hs, calls_all, O.sub_int, hw, prg_termAt b bt es _ h, prg_from b bt es _ _ h, optI_getD, optE_getD, O.calls_2, G.fold]
  unfold appMsg
  split <;> rfl
/-- The append messages for the members i, i + 1, .., i + k - 1. -/
def msgs (n : N) : Nat → Nat → List G
  | 0, _ => []
  | k + 1, i => (if (i : Int) = n.id then [] else [appMsg n i (n.nx.getD i 0)]) ++ msgs n k (i + 1)
theorem msgs_len (n : N) : ∀ k i : Nat, (msgs n k i).length ≤ k
  | 0, _ => Nat.le_refl _
  | k + 1, i => by
    have := msgs_len n k (i + 1)
    rw [msgs, List.length_append]
    split <;> simp <;> omega
def bcast (n : N) : List G := msgs n n.size.toNat 0
theorem appMsg_out (n : N) (o : List G) (j i : Int) : appMsg {n with out := o} j i = appMsg n j i := rfl
theorem msgs_out (n : N) (o : List G) : ∀ k i : Nat, msgs {n with out := o} k i = msgs n k i
  | 0, _ => rfl
  | k + 1, i => by rw [msgs, msgs, msgs_out n o k (i + 1)]; rfl
end Go.CT.Memb

namespace Go.CT.Memb
open Go.Proofs

/-! ## Sending to all, committing, leading, electing -/
theorem lt_cast {i n : Nat} : decide ((i : Int) < (n : Int)) = decide (i < n) := by simp
/-- Whom the leader knows the next index of. -/
def NX (size : Int) (nx : List Int) : Prop := ∀ j : Nat, (j : Int) < size → ∃ v, nx[j]? = some v ∧ Mid v
theorem p_broadcast_1 (id size role term vote lead el to : Int) (vs nx mt : List Int) (com app b bt : Int) (es : List E) (sn : ByteArray) (h : tame ⟨b, bt, es⟩) (hn : NX size nx) (hs : size ≤ 7) : ∀ (k i : Nat) (out : List G), ((i + k : Nat) : Int) = size → out.length + k ≤ 1048576 →
    W f_member_node_broadcast 1 [.int size, .int i, .int id, .int size, .int role, .int term, .int vote, .int lead, .int el, .int to, .int com, .int app, .int b, .int bt, .str sn, .list (vs.map IV.int), .list (nx.map IV.int), .list (mt.map IV.int), .list (es.map E.enc), .list (out.map G.enc)] = some (N.all {(N.mk id size role term vote lead el to vs nx mt com app b bt es sn out) with out := out ++ msgs (N.mk id size role term vote lead el to vs nx mt com app b bt es sn out) k i})
  | 0, i, out, hk, ho => by
    rw [e_f_member_node_broadcast_1]
    have h1 : ¬ (i : Int) < size := by omega
    simp only [O.lt_int, h1, decide_false, Option.bind_some, O.cnd_bool, Bool.false_eq_true, if_false, msgs, List.append_nil, N.all]
  | k + 1, i, out, hk, ho => by
    rw [e_f_member_node_broadcast_1]
    have h1 : (i : Int) < size := by omega
    have hw : IntKind.i64.wrap ((i : Int) + 1) = ((i + 1 : Nat) : Int) := by rw [wrap64 (by omega) (by omega)]; rfl
    obtain ⟨v, hv, hm⟩ := hn i h1
    have hg : nx.getD i 0 = v := by rw [List.getD_eq_getElem?_getD, hv]; rfl
    have hap := fun out (ho : out.length ≤ 1048576) => p_appendTo id size role term vote lead el to vs nx mt com app b bt es sn out i v ho h hv hm
    simp only [O.lt_int, h1, decide_true, Option.bind_some, O.cnd_bool, if_true, O.ne_int, msgs, hg]
    by_cases c : (i : Int) = id
    · have ih := p_broadcast_1 id size role term vote lead el to vs nx mt com app b bt es sn h hn hs k (i + 1) out (by omega) (by omega)
      have hd : decide ((i : Int) = id) = true := by simp [c]
      rw [if_pos c]
      simp only [hd, Bool.not_true, Bool.false_eq_true, if_false, e_f_member_node_broadcast_2, O.add_int, Option.bind_some, hw, ih, List.nil_append]
    · have ih := p_broadcast_1 id size role term vote lead el to vs nx mt com app b bt es sn h hn hs k (i + 1) (out ++ [appMsg (N.mk id size role term vote lead el to vs nx mt com app b bt es sn out) i v]) (by omega) (by simp; omega)
      have hmo : msgs (N.mk id size role term vote lead el to vs nx mt com app b bt es sn (out ++ [appMsg (N.mk id size role term vote lead el to vs nx mt com app b bt es sn out) i v])) k (i + 1) = msgs (N.mk id size role term vote lead el to vs nx mt com app b bt es sn out) k (i + 1) := msgs_out (N.mk id size role term vote lead el to vs nx mt com app b bt es sn out) _ k (i + 1)
      simp only [c, decide_false, Bool.not_false, if_true, if_false, hap out (by omega), calls_all, e_f_member_node_broadcast_2, O.add_int, Option.bind_some, hw, ih, hmo, List.append_assoc]
theorem p_broadcast (id size role term vote lead el to : Int) (vs nx mt : List Int) (com app b bt : Int) (es : List E) (sn : ByteArray) (out : List G) (h : tame ⟨b, bt, es⟩) (hn : NX size nx) (hs : 0 ≤ size ∧ size ≤ 7) (ho : out.length + 7 ≤ 1048576) :
    W f_member_node_broadcast 0 [.int id, .int size, .int role, .int term, .int vote, .int lead, .int el, .int to, .list (vs.map IV.int), .list (nx.map IV.int), .list (mt.map IV.int), .int com, .int app, .int b, .int bt, .list (es.map E.enc), .str sn, .list (out.map G.enc)] = some (N.all {(N.mk id size role term vote lead el to vs nx mt com app b bt es sn out) with out := out ++ bcast (N.mk id size role term vote lead el to vs nx mt com app b bt es sn out)}) := by
  rw [e_f_member_node_broadcast_0]
  exact p_broadcast_1 id size role term vote lead el to vs nx mt com app b bt es sn h hn hs.2 size.toNat 0 out (by omega) (by omega)

/-- How many have an index. -/
def cnt (l : List Int) (i : Int) : Nat := (l.filter fun k => decide (i ≤ k)).length
theorem cnt_le (l : List Int) (i : Int) : cnt l i ≤ l.length := List.length_filter_le _ _
theorem cnt_cons (x : Int) (l : List Int) (i : Int) : cnt (x :: l) i = (if i ≤ x then 1 else 0) + cnt l i := by
  unfold cnt
  rw [List.filter_cons]
  by_cases c : i ≤ x
  · simp [c]; omega
  · simp [c]
theorem p_advance_2 (id size role term vote lead el to : Int) (vs nx mt : List Int) (com app b bt : Int) (es : List E) (sn : ByteArray) (out : List G) (i : Int) (hl : mt.length ≤ 1048576) : ∀ (n k c : Nat), k + n = mt.length → c + n ≤ 1048576 →
    W f_member_node_advance 2 [.int i, .int c, .int mt.length, .int k, .int id, .int size, .int role, .int term, .int vote, .int lead, .int el, .int to, .int com, .int app, .int b, .int bt, .str sn, .list (mt.map IV.int), .list (vs.map IV.int), .list (nx.map IV.int), .list (es.map E.enc), .list (out.map G.enc)] = W f_member_node_advance 2 [.int i, .int (c + cnt (mt.drop k) i : Nat), .int mt.length, .int mt.length, .int id, .int size, .int role, .int term, .int vote, .int lead, .int el, .int to, .int com, .int app, .int b, .int bt, .str sn, .list (mt.map IV.int), .list (vs.map IV.int), .list (nx.map IV.int), .list (es.map E.enc), .list (out.map G.enc)]
  | 0, k, c, hk, hc => by
    have h1 : k = mt.length := by omega
    subst h1
    rw [List.drop_length]; rfl
  | n + 1, k, c, hk, hc => by
    have hi : k < mt.length := by omega
    have hw : IntKind.i64.wrap ((k : Int) + 1) = ((k + 1 : Nat) : Int) := by rw [wrap64 (by omega) (by omega)]; rfl
    have hw2 : IntKind.i64.wrap ((c : Int) + 1) = ((c + 1 : Nat) : Int) := by rw [wrap64 (by omega) (by omega)]; rfl
    conv => lhs; rw [e_f_member_node_advance_2]
    simp only [O.lt_int, lt_cast, hi, decide_true, Option.bind_some, O.cnd_bool, if_true, O.index_list, Int.natCast_nonneg, Int.toNat_natCast, List.getElem?_map, List.getElem?_eq_getElem hi, Option.map_some, O.ge_int, decide_eq_true_eq, e_f_member_node_advance_3, O.add_int, hw, hw2]
    rw [List.drop_eq_getElem_cons hi, cnt_cons]
    by_cases d : i ≤ mt[k]
    · rw [if_pos d, if_pos d, p_advance_2 id size role term vote lead el to vs nx mt com app b bt es sn out i hl n (k + 1) (c + 1) (by omega) (by omega)]
      rw [Nat.add_assoc]
    · rw [if_neg d, if_neg d, p_advance_2 id size role term vote lead el to vs nx mt com app b bt es sn out i hl n (k + 1) c (by omega) (by omega), Nat.zero_add]
/-- What is committed of the k entries behind the commit index. -/
def advN (n : N) : Nat → N
  | 0 => n
  | k + 1 => if termAt n.l (n.com + (k + 1 : Nat)) = some n.term ∧ n.size < 2 * (cnt n.mt (n.com + (k + 1 : Nat)) : Nat) then {n with com := n.com + (k + 1 : Nat), app := n.com + (k + 1 : Nat)} else advN n k
def advF (n : N) : N := advN n (lastI n.l - n.com).toNat
theorem p_advance_1 (id size role term vote lead el to : Int) (vs nx mt : List Int) (com app b bt : Int) (es : List E) (sn : ByteArray) (out : List G) (h : tame ⟨b, bt, es⟩) (hs : 1 ≤ size ∧ size ≤ 7) (hm : Mid com) (hl : mt.length ≤ 1000000) : ∀ k : Nat, k ≤ 8000000000000000 →
    W f_member_node_advance 1 [.int (com + k), .int id, .int size, .int role, .int term, .int vote, .int lead, .int el, .int to, .int com, .int app, .int b, .int bt, .str sn, .list (vs.map IV.int), .list (nx.map IV.int), .list (mt.map IV.int), .list (es.map E.enc), .list (out.map G.enc)] = some (N.all (advN (N.mk id size role term vote lead el to vs nx mt com app b bt es sn out) k))
  | 0, _ => by
    rw [e_f_member_node_advance_1]
    have h1 : ¬ com < com + ((0 : Nat) : Int) := by omega
    simp only [O.gt_int, h1, decide_false, Option.bind_some, O.cnd_bool, Bool.false_eq_true, if_false, advN, N.all]
  | k + 1, hk => by
    rw [e_f_member_node_advance_1]
    have h1 : com < com + ((k + 1 : Nat) : Int) := by omega
    have hw : IntKind.i64.wrap (com + ((k + 1 : Nat) : Int) - 1) = com + k := by
      have := hm.1; have := hm.2
      rw [wrap64 (by omega) (by omega)]; omega
    have h2 := p_advance_2 id size role term vote lead el to vs nx mt com app b bt es sn out (com + (k + 1 : Nat)) (by omega) mt.length 0 0 (by omega) (by omega)
    simp only [Int.cast_ofNat_Int, List.drop_zero, Nat.zero_add] at h2
    simp only [O.gt_int, h1, decide_true, Option.bind_some, O.cnd_bool, if_true, O.len_list, List.length_map, h2]
    rw [e_f_member_node_advance_2]
    have h3 : ¬ (mt.length : Int) < mt.length := by omega
    have hmaj := p_majority id size role term vote lead el to vs nx mt com app b bt es sn out (cnt mt (com + (k + 1 : Nat)) : Nat) hs
    have hct := p_commitTo id size role term vote lead el to vs nx mt com app b bt es sn out (com + (k + 1 : Nat))
    rw [if_pos h1] at hct
    have ih := p_advance_1 id size role term vote lead el to vs nx mt com app b bt es sn out h hs hm hl k (by omega)
    simp only [O.lt_int, h3, decide_false, Option.bind_some, O.cnd_bool, Bool.false_eq_true, if_false, O.mkagg_eq, prg_termAt b bt es _ h, optI_getD, O.calls_2, O.eq_int, hmaj, O.calls_1, hct, calls_all, O.sub_int, hw, ih, advN, N.l]
    have hcase : termAt ⟨b, bt, es⟩ (com + (k + 1 : Nat)) = none ∨ ∃ t, termAt ⟨b, bt, es⟩ (com + (k + 1 : Nat)) = some t := by
      cases termAt ⟨b, bt, es⟩ (com + (k + 1 : Nat)) with
      | none => exact .inl rfl
      | some t => exact .inr ⟨t, rfl⟩
    generalize hX : com + ((k + 1 : Nat) : Int) = X at *
    rcases hcase with ht | ⟨t, ht⟩
    · simp [ht]
    · by_cases c1 : t = term
      · by_cases c2 : size < 2 * (cnt mt X : Nat)
        · simp [ht, c1, c2, N.all]
        · simp [ht, c1, c2]
      · simp [ht, c1]
theorem p_advance (id size role term vote lead el to : Int) (vs nx mt : List Int) (com app b bt : Int) (es : List E) (sn : ByteArray) (out : List G) (h : tame ⟨b, bt, es⟩) (hs : 1 ≤ size ∧ size ≤ 7) (hm : Mid com) (hl : mt.length ≤ 1000000) :
    W f_member_node_advance 0 [.int id, .int size, .int role, .int term, .int vote, .int lead, .int el, .int to, .list (vs.map IV.int), .list (nx.map IV.int), .list (mt.map IV.int), .int com, .int app, .int b, .int bt, .list (es.map E.enc), .str sn, .list (out.map G.enc)] = some (N.all (advF (N.mk id size role term vote lead el to vs nx mt com app b bt es sn out))) := by
  rw [e_f_member_node_advance_0]
  simp only [O.mkagg_eq, Option.bind_some, p_last id size role term vote lead el to vs nx mt com app b bt es sn out h, O.calls_1]
  unfold advF N.l
  have hla : lastI ⟨b, bt, es⟩ ≤ 1000000004194304 := by have := h.2.1; have := h.2.2; unfold lastI; simp only at *; omega
  by_cases c : com ≤ lastI ⟨b, bt, es⟩
  · have e : lastI ⟨b, bt, es⟩ = com + ((lastI ⟨b, bt, es⟩ - com).toNat : Int) := by omega
    have := p_advance_1 id size role term vote lead el to vs nx mt com app b bt es sn out h hs hm hl (lastI ⟨b, bt, es⟩ - com).toNat (by have := hm.1; omega)
    rw [← e] at this
    exact this
  · rw [e_f_member_node_advance_1]
    have h1 : ¬ com < lastI ⟨b, bt, es⟩ := by omega
    have h0 : (lastI ⟨b, bt, es⟩ - com).toNat = 0 := by omega
    simp only [O.gt_int, h1, decide_false, Option.bind_some, O.cnd_bool, Bool.false_eq_true, if_false, h0, advN, N.all]

def ownF (n : N) : N := {n with mt := n.mt.set n.id.toNat (lastI n.l), nx := n.nx.set n.id.toNat (lastI n.l + 1)}
theorem p_own (id size role term vote lead el to : Int) (vs nx mt : List Int) (com app b bt : Int) (es : List E) (sn : ByteArray) (out : List G) (h : tame ⟨b, bt, es⟩) (hi : 0 ≤ id) (h1 : id < mt.length) (h2 : id < nx.length) :
    W f_member_node_own 0 [.int id, .int size, .int role, .int term, .int vote, .int lead, .int el, .int to, .list (vs.map IV.int), .list (nx.map IV.int), .list (mt.map IV.int), .int com, .int app, .int b, .int bt, .list (es.map E.enc), .str sn, .list (out.map G.enc)] = some (N.all (ownF (N.mk id size role term vote lead el to vs nx mt com app b bt es sn out))) := by
  rw [e_f_member_node_own_0]
  have hla : 0 ≤ lastI ⟨b, bt, es⟩ ∧ lastI ⟨b, bt, es⟩ ≤ 1000000004194304 := by have := h.1; have := h.2.1; have := h.2.2; unfold lastI; simp only at *; omega
  have hw : IntKind.i64.wrap (lastI ⟨b, bt, es⟩ + 1) = lastI ⟨b, bt, es⟩ + 1 := wrap64 (by omega) (by omega)
  have hm1 : mt[id.toNat]? = some (mt[id.toNat]'(by omega)) := List.getElem?_eq_getElem _
  have hm2 : nx[id.toNat]? = some (nx[id.toNat]'(by omega)) := List.getElem?_eq_getElem _
  simp only [O.mkagg_eq, Option.bind_some, p_last id size role term vote lead el to vs nx mt com app b bt es sn out h, O.calls_1, O.add_int, hw, O.index_list, hi, if_true, List.getElem?_map, hm1, hm2, Option.map_some, O.setAt_whole, ownF, N.l, N.all, List.map_set]
end Go.CT.Memb

namespace Go.CT.Memb
open Go.Proofs

/-! ## Leading, electing, ticking -/
theorem tame_add {b bt : Int} {es : List E} {e : E} (h : tame ⟨b, bt, es⟩) (hl : es.length < 400) : tame ⟨b, bt, es ++ [e]⟩ := by
  refine ⟨h.1, h.2.1, ?_⟩
  simp only [List.length_append, List.length_singleton]
  omega
theorem p_lead_1 (id size role term vote lead el to : Int) (vs nx mt : List Int) (com app b bt : Int) (es : List E) (sn : ByteArray) (h : tame ⟨b, bt, es⟩) (hl : es.length ≤ 400) (out : List G) : ∀ (k i : Nat) (nx : List Int), i + k = nx.length → nx.length ≤ 1000 →
    W f_member_node_lead 1 [.int nx.length, .int i, .int id, .int size, .int role, .int term, .int vote, .int lead, .int el, .int to, .int com, .int app, .int b, .int bt, .str sn, .list (nx.map IV.int), .list (mt.map IV.int), .list (es.map E.enc), .list (out.map G.enc)] =
    W f_member_node_lead 2 ((fun (n : N) => [.int n.id, .int n.size, .int n.role, .int n.term, .int n.vote, .int n.lead, .int n.el, .int n.to, .list (n.vs.map IV.int), .list (n.nx.map IV.int), .list (n.mt.map IV.int), .int n.com, .int n.app, .int n.b, .int n.bt, .list (n.es.map E.enc), .str n.sn].take 8 ++ ([.int n.id, .int n.size, .int n.role, .int n.term, .int n.vote, .int n.lead, .int n.el, .int n.to, .list (n.vs.map IV.int), .list (n.nx.map IV.int), .list (n.mt.map IV.int), .int n.com, .int n.app, .int n.b, .int n.bt, .list (n.es.map E.enc), .str n.sn].drop 11).take 4 ++ [.str n.sn] ++ ([.int n.id, .int n.size, .int n.role, .int n.term, .int n.vote, .int n.lead, .int n.el, .int n.to, .list (n.vs.map IV.int), .list (n.nx.map IV.int), .list (n.mt.map IV.int), .int n.com, .int n.app, .int n.b, .int n.bt, .list (n.es.map E.enc), .str n.sn].drop 8).take 3 ++ [.list (n.es.map E.enc), .list (n.out.map G.enc)])
      (if es.length < 400 then N.mk id size role term vote lead el to [] (nx.take i ++ List.replicate k (lastI ⟨b, bt, es⟩ + 1)) mt com app b bt (es ++ [⟨term, ⟨#[]⟩⟩]) sn out
       else N.mk id size role term vote lead el to [] (nx.take i ++ List.replicate k (lastI ⟨b, bt, es⟩ + 1)) mt com app b bt es sn out))
  | 0, i, nx, hk, hb => by
    rw [e_f_member_node_lead_1]
    have h1 : ¬ i < nx.length := by omega
    have e : nx.take i ++ List.replicate 0 (lastI ⟨b, bt, es⟩ + 1) = nx := by rw [List.take_of_length_le (by omega)]; simp
    rw [e]
    have ha := p_add id size role term vote lead el to [] nx mt com app b bt es sn out ⟨#[]⟩ (by omega)
    simp only [O.lt_int, lt_cast, h1, decide_false, Option.bind_some, O.cnd_bool, Bool.false_eq_true, if_false, O.len_list, List.length_map]
    by_cases c : es.length < 400
    · have c' : (es.length : Int) < 400 := by omega
      simp only [List.map_nil] at ha
      simp only [c', decide_true, if_true, ha, calls_all, if_pos c]
      rfl
    · have c' : ¬ (es.length : Int) < 400 := by omega
      simp only [c', decide_false, Bool.false_eq_true, if_false, if_neg c]
      rfl
  | k + 1, i, nx, hk, hb => by
    rw [e_f_member_node_lead_1]
    have h1 : i < nx.length := by omega
    have hla : 0 ≤ lastI ⟨b, bt, es⟩ ∧ lastI ⟨b, bt, es⟩ ≤ 1000000004194304 := by have := h.1; have := h.2.1; have := h.2.2; unfold lastI; simp only at *; omega
    have hw : IntKind.i64.wrap (lastI ⟨b, bt, es⟩ + 1) = lastI ⟨b, bt, es⟩ + 1 := wrap64 (by omega) (by omega)
    have hw2 : IntKind.i64.wrap ((i : Int) + 1) = ((i + 1 : Nat) : Int) := by rw [wrap64 (by omega) (by omega)]; rfl
    have hla2 := p_last id size role term vote lead el to [] nx mt com app b bt es sn out h
    simp only [List.map_nil] at hla2
    have ih := p_lead_1 id size role term vote lead el to vs nx mt com app b bt es sn h hl out k (i + 1) (nx.set i (lastI ⟨b, bt, es⟩ + 1)) (by simp; omega) (by simp; omega)
    have e : (nx.set i (lastI ⟨b, bt, es⟩ + 1)).take (i + 1) ++ List.replicate k (lastI ⟨b, bt, es⟩ + 1) = nx.take i ++ List.replicate (k + 1) (lastI ⟨b, bt, es⟩ + 1) := by
      rw [List.take_set, List.take_succ_eq_append_getElem h1, List.set_append_right _ _ (by simp; omega), List.replicate_succ, List.append_assoc]
      congr 1
      simp [Nat.min_eq_left (Nat.le_of_lt h1)]
    rw [e, List.length_set, List.map_set] at ih
    simp only [O.lt_int, lt_cast, h1, decide_true, Option.bind_some, O.cnd_bool, if_true, O.mkagg_eq, hla2, O.calls_1, O.add_int, hw, hw2, O.index_list, Int.natCast_nonneg, Int.toNat_natCast, List.getElem?_map, List.getElem?_eq_getElem h1, Option.map_some, O.setAt_whole, ih]
/-- A member that becomes the leader. -/
def lead0 (n : N) : N := {n with role := 2, lead := n.id, el := 0, vs := [], nx := List.replicate n.size.toNat (lastI n.l + 1), mt := List.replicate n.size.toNat 0}
def lead1 (n : N) : N := if n.es.length < 400 then {lead0 n with es := n.es ++ [⟨n.term, ⟨#[]⟩⟩]} else lead0 n
def say (n : N) : N := {n with out := n.out ++ bcast n}
def sayAdv (n : N) : N := if n.size = 1 then advF (say n) else say n
def leadF (n : N) : N := sayAdv (ownF (lead1 n))
theorem mid_last {b bt : Int} {es : List E} (h : tame ⟨b, bt, es⟩) : 0 ≤ lastI ⟨b, bt, es⟩ ∧ lastI ⟨b, bt, es⟩ ≤ 1000000004194304 := by
  have := h.1; have := h.2.1; have := h.2.2; unfold lastI; simp only at *; omega
/-- own, broadcast, and advance where there's one member. -/
theorem p_lead_2 (id size role term vote lead el to : Int) (vs nx mt : List Int) (com app b bt : Int) (es : List E) (sn : ByteArray) (out : List G) (h : tame ⟨b, bt, es⟩) (hid : 0 ≤ id ∧ id < size) (hs : size ≤ 7) (hnx : (nx.length : Int) = size) (hmt : (mt.length : Int) = size) (hmid : ∀ v ∈ nx, Mid v) (hcom : Mid com) (ho : out.length + 7 ≤ 1048576) :
    W f_member_node_lead 2 [.int id, .int size, .int role, .int term, .int vote, .int lead, .int el, .int to, .int com, .int app, .int b, .int bt, .str sn, .list (vs.map IV.int), .list (nx.map IV.int), .list (mt.map IV.int), .list (es.map E.enc), .list (out.map G.enc)] = some (N.all (sayAdv (ownF (N.mk id size role term vote lead el to vs nx mt com app b bt es sn out)))) := by
  have hla := mid_last h
  have hNX : NX size (nx.set id.toNat (lastI ⟨b, bt, es⟩ + 1)) := fun j hj => by
    have hj2 : j < (nx.set id.toNat (lastI ⟨b, bt, es⟩ + 1)).length := by rw [List.length_set]; omega
    refine ⟨_, List.getElem?_eq_getElem hj2, ?_⟩
    rcases List.mem_or_eq_of_mem_set (List.getElem_mem hj2) with g | g
    · exact hmid _ g
    · rw [g]; unfold Mid; omega
  rw [e_f_member_node_lead_2]
  have h1 := p_own id size role term vote lead el to vs nx mt com app b bt es sn out h hid.1 (by omega) (by omega)
  have h2 := p_broadcast id size role term vote lead el to vs (nx.set id.toNat (lastI ⟨b, bt, es⟩ + 1)) (mt.set id.toNat (lastI ⟨b, bt, es⟩)) com app b bt es sn out h hNX (by omega) ho
  have h3 := fun o => p_advance id size role term vote lead el to vs (nx.set id.toNat (lastI ⟨b, bt, es⟩ + 1)) (mt.set id.toNat (lastI ⟨b, bt, es⟩)) com app b bt es sn o h (by omega) hcom (by simp; omega)
  simp only [h1, calls_all, ownF, N.l, h2, O.eq_int, Option.bind_some, O.cnd_bool, decide_eq_true_eq, h3]
  unfold sayAdv say
  split <;> simp only [N.all]
theorem p_lead (id size role term vote lead el to : Int) (vs nx mt : List Int) (com app b bt : Int) (es : List E) (sn : ByteArray) (out : List G) (h : tame ⟨b, bt, es⟩) (hl : es.length ≤ 400) (hid : 0 ≤ id ∧ id < size) (hs : size ≤ 7) (hcom : Mid com) (ho : out.length + 7 ≤ 1048576) :
    W f_member_node_lead 0 [.int id, .int size, .int role, .int term, .int vote, .int lead, .int el, .int to, .list (vs.map IV.int), .list (nx.map IV.int), .list (mt.map IV.int), .int com, .int app, .int b, .int bt, .list (es.map E.enc), .str sn, .list (out.map G.enc)] = some (N.all (leadF (N.mk id size role term vote lead el to vs nx mt com app b bt es sn out))) := by
  have hla := mid_last h
  rw [e_f_member_node_lead_0]
  have hz : 0 ≤ size ∧ size ≤ size ∧ size * ((8 : Nat) : Int) ≤ ((maxBytes : Nat) : Int) := ⟨by omega, by omega, by unfold maxBytes; omega⟩
  have hk := p_lead_1 id size 2 term vote id 0 to [] [] (List.replicate size.toNat 0) com app b bt es sn h hl out size.toNat 0 (List.replicate size.toNat 0) (by simp) (by simp; omega)
  simp only [List.length_replicate, List.map_replicate, Int.cast_ofNat_Int, List.take_zero, List.nil_append] at hk
  have hsz : ((size.toNat : Nat) : Int) = size := by omega
  simp only [O.zeros_int, if_pos hz, Option.bind_some, O.len_list, List.length_replicate, hsz] at hk ⊢
  rw [hk]
  unfold leadF lead1 lead0
  have hmid : ∀ v ∈ List.replicate size.toNat (lastI ⟨b, bt, es⟩ + 1), Mid v := fun v hv => by
    rw [(List.mem_replicate.1 hv).2]; unfold Mid; omega
  by_cases c : es.length < 400
  · rw [if_pos c, if_pos c]
    exact p_lead_2 id size 2 term vote id 0 to [] (List.replicate size.toNat (lastI ⟨b, bt, es⟩ + 1)) (List.replicate size.toNat 0) com app b bt (es ++ [⟨term, ⟨#[]⟩⟩]) sn out (tame_add h c) hid hs (by simp; omega) (by simp; omega) hmid hcom ho
  · rw [if_neg c, if_neg c]
    exact p_lead_2 id size 2 term vote id 0 to [] (List.replicate size.toNat (lastI ⟨b, bt, es⟩ + 1)) (List.replicate size.toNat 0) com app b bt es sn out h hid hs (by simp; omega) (by simp; omega) hmid hcom ho

/-- The requests for votes to the members i, .., i + k - 1. -/
def asks (n : N) (ix lt : Int) : Nat → Nat → List G
  | 0, _ => []
  | k + 1, i => (if (i : Int) = n.id then [] else [⟨1, n.id, i, n.term, ix, lt, 0, false, [], ⟨#[]⟩⟩]) ++ asks n ix lt k (i + 1)
theorem asks_len (n : N) (ix lt : Int) : ∀ k i : Nat, (asks n ix lt k i).length ≤ k
  | 0, _ => Nat.le_refl _
  | k + 1, i => by
    have := asks_len n ix lt k (i + 1)
    rw [asks, List.length_append]
    split <;> simp <;> omega
theorem asks_out (n : N) (o : List G) (ix lt : Int) : ∀ k i : Nat, asks {n with out := o} ix lt k i = asks n ix lt k i
  | 0, _ => rfl
  | k + 1, i => by rw [asks, asks, asks_out n o ix lt k (i + 1)]
theorem p_elect_1 (id size role term vote lead el to : Int) (vs nx mt : List Int) (com app b bt : Int) (es : List E) (sn : ByteArray) (ix lt : Int) (hs : size ≤ 7) : ∀ (k i : Nat) (out : List G), ((i + k : Nat) : Int) = size → out.length + k ≤ 1048576 →
    W f_member_node_elect 1 [.int ix, .int lt, .int size, .int i, .int id, .int size, .int role, .int term, .int vote, .int lead, .int el, .int to, .int com, .int app, .int b, .int bt, .str sn, .list (vs.map IV.int), .list (nx.map IV.int), .list (mt.map IV.int), .list (es.map E.enc), .list (out.map G.enc)] = some (N.all {(N.mk id size role term vote lead el to vs nx mt com app b bt es sn out) with out := out ++ asks (N.mk id size role term vote lead el to vs nx mt com app b bt es sn out) ix lt k i})
  | 0, i, out, hk, ho => by
    rw [e_f_member_node_elect_1]
    have h1 : ¬ (i : Int) < size := by omega
    simp only [O.lt_int, h1, decide_false, Option.bind_some, O.cnd_bool, Bool.false_eq_true, if_false, asks, List.append_nil, N.all]
  | k + 1, i, out, hk, ho => by
    rw [e_f_member_node_elect_1]
    have h1 : (i : Int) < size := by omega
    have hw : IntKind.i64.wrap ((i : Int) + 1) = ((i + 1 : Nat) : Int) := by rw [wrap64 (by omega) (by omega)]; rfl
    have hap := fun out (ho : out.length ≤ 1048576) x => p_send id size role term vote lead el to vs nx mt com app b bt es sn out i x ho
    simp only [O.lt_int, h1, decide_true, Option.bind_some, O.cnd_bool, if_true, O.ne_int, asks]
    by_cases c : (i : Int) = id
    · have ih := p_elect_1 id size role term vote lead el to vs nx mt com app b bt es sn ix lt hs k (i + 1) out (by omega) (by omega)
      have hd : decide ((i : Int) = id) = true := by simp [c]
      rw [if_pos c]
      simp only [hd, Bool.not_true, Bool.false_eq_true, if_false, e_f_member_node_elect_2, O.add_int, Option.bind_some, hw, ih, List.nil_append]
    · have ih := p_elect_1 id size role term vote lead el to vs nx mt com app b bt es sn ix lt hs k (i + 1) (out ++ [⟨1, id, i, term, ix, lt, 0, false, [], ⟨#[]⟩⟩]) (by omega) (by simp; omega)
      have hmo : asks (N.mk id size role term vote lead el to vs nx mt com app b bt es sn (out ++ [⟨1, id, i, term, ix, lt, 0, false, [], ⟨#[]⟩⟩])) ix lt k (i + 1) = asks (N.mk id size role term vote lead el to vs nx mt com app b bt es sn out) ix lt k (i + 1) := asks_out (N.mk id size role term vote lead el to vs nx mt com app b bt es sn out) _ ix lt k (i + 1)
      simp only [c, decide_false, Bool.not_false, if_true, if_false, O.mkagg_eq, G.fold0, hap out (by omega), calls_all, e_f_member_node_elect_2, O.add_int, Option.bind_some, hw, ih, hmo, List.append_assoc]
def elect0 (n : N) : N := {n with role := 1, term := n.term + 1, vote := n.id, lead := -1, vs := [n.id], el := 0}
def electF (n : N) : N := if n.size = 1 then leadF (elect0 n) else {elect0 n with out := n.out ++ asks (elect0 n) (lastI n.l) (lastT n.l) n.size.toNat 0}
theorem p_elect (id size role term vote lead el to : Int) (vs nx mt : List Int) (com app b bt : Int) (es : List E) (sn : ByteArray) (out : List G) (h : tame ⟨b, bt, es⟩) (hl : es.length ≤ 400) (hid : 0 ≤ id ∧ id < size) (hs : size ≤ 7) (hcom : Mid com) (ht : 0 ≤ term ∧ term < 1000000000000000) (ho : out.length + 7 ≤ 1048576) :
    W f_member_node_elect 0 [.int id, .int size, .int role, .int term, .int vote, .int lead, .int el, .int to, .list (vs.map IV.int), .list (nx.map IV.int), .list (mt.map IV.int), .int com, .int app, .int b, .int bt, .list (es.map E.enc), .str sn, .list (out.map G.enc)] = some (N.all (electF (N.mk id size role term vote lead el to vs nx mt com app b bt es sn out))) := by
  rw [e_f_member_node_elect_0]
  have hw : IntKind.i64.wrap (term + 1) = term + 1 := wrap64 (by omega) (by omega)
  have hk := p_lead id size 1 (term + 1) id (-1) 0 to [id] nx mt com app b bt es sn out h hl hid hs hcom ho
  have he := p_elect_1 id size 1 (term + 1) id (-1) 0 to [id] nx mt com app b bt es sn (lastI ⟨b, bt, es⟩) (lastT ⟨b, bt, es⟩) hs size.toNat 0 out (by omega) (by omega)
  simp only [List.map_cons, List.map_nil, Int.cast_ofNat_Int] at hk he
  simp only [O.add_int, hw, O.mklist_eq, Option.bind_some, O.eq_int, O.cnd_bool, decide_eq_true_eq, hk, calls_all, O.mkagg_eq, prg_last b bt es h, O.calls_2, he]
  unfold electF elect0
  split <;> rfl
theorem clone_ints (xs : List Int) (h : xs.length ≤ 4194304) : W f_slices_Clone 0 [.list (xs.map IV.int)] = some [.list (xs.map IV.int)] := by
  rw [e_f_slices_Clone, O.cloneF, if_pos (by rw [List.length_map]; omega)]
theorem clone_es (xs : List E) (h : xs.length ≤ 4194304) : W f_slices_Clone_v2 0 [.list (xs.map E.enc)] = some [.list (xs.map E.enc)] := by
  rw [e_f_slices_Clone_v2, O.cloneF, if_pos (by rw [List.length_map]; omega)]
/-- Lists of moderate length. -/
def Few (n : N) : Prop := n.vs.length ≤ 4194304 ∧ n.nx.length ≤ 4194304 ∧ n.mt.length ≤ 4194304 ∧ n.es.length ≤ 4194304
theorem p_copied (n : N) (h : Few n) : W f_member_copied 0 [n.enc] = some n.cells := by
  rw [e_f_member_copied_0, N.enc_def]
  obtain ⟨h1, h2, h3, h4⟩ := h
  simp only [O.proj_agg, List.getElem?_cons_succ, List.getElem?_cons_zero, Option.bind_some, clone_ints _ h1, clone_ints _ h2, clone_ints _ h3, clone_es _ h4, O.calls_1, N.cells]
end Go.CT.Memb

namespace Go.CT.Memb
open Go.Proofs

/-! ## A sorted list of numbers -/
def Asc (l : List Int) : Prop := l.Pairwise (· < ·)
def pos : List Int → Int → Nat
  | [], _ => 0
  | y :: l, x => if y < x then pos l x + 1 else 0
theorem pos_le : ∀ (l : List Int) (x : Int), pos l x ≤ l.length
  | [], _ => Nat.le_refl _
  | y :: l, x => by
    have := pos_le l x
    unfold pos
    split <;> simp <;> omega
theorem pos_lt : ∀ (l : List Int) (x : Int) (j : Nat) (h : j < l.length), j < pos l x → l[j] < x
  | [], _, _, h, _ => by simp at h
  | y :: l, x, j, h, hj => by
    unfold pos at hj
    split at hj
    · next c =>
      cases j with
      | zero => exact c
      | succ j => exact pos_lt l x j (by simpa using h) (by omega)
    · omega
theorem pos_ge : ∀ (l : List Int) (x : Int), Asc l → ∀ (j : Nat) (h : j < l.length), pos l x ≤ j → x ≤ l[j]
  | [], _, _, _, h, _ => by simp at h
  | y :: l, x, ha, j, h, hj => by
    have h1 := List.pairwise_cons.1 ha
    unfold pos at hj
    split at hj
    · cases j with
      | zero => omega
      | succ j => exact pos_ge l x h1.2 j (by simpa using h) (by omega)
    · next c =>
      cases j with
      | zero => simpa using c
      | succ j =>
        have := h1.1 (l[j]'(by simpa using h)) (List.getElem_mem _)
        simp only [List.getElem_cons_succ]
        omega
def putF (l : List Int) (x : Int) : List Int := if l[pos l x]? = some x then l else l.take (pos l x) ++ x :: l.drop (pos l x)
theorem putF_len (l : List Int) (x : Int) : (putF l x).length ≤ l.length + 1 := by
  have := pos_le l x
  unfold putF
  split
  · omega
  · simp; omega
theorem putF_asc (l : List Int) (x : Int) (h : Asc l) : Asc (putF l x) := by
  unfold putF
  split
  · exact h
  · next c =>
    have hp := pos_le l x
    refine List.pairwise_append.2 ⟨h.sublist (List.take_sublist _ _), List.pairwise_cons.2 ⟨fun y hy => ?_, h.sublist (List.drop_sublist _ _)⟩, fun a ha b hb => ?_⟩
    · obtain ⟨i, hi, rfl⟩ := List.getElem_of_mem hy
      rw [List.getElem_drop]
      have hi2 : pos l x + i < l.length := by simp at hi; omega
      have h1 := pos_ge l x h (pos l x + i) hi2 (by omega)
      rcases Int.lt_or_eq_of_le h1 with h2 | h2
      · exact h2
      · cases i with
        | zero => exact absurd (by rw [List.getElem?_eq_getElem (by omega)]; simp only [Nat.add_zero] at h2; rw [← h2]) c
        | succ i =>
          have h3 := pos_ge l x h (pos l x) (by omega) (Nat.le_refl _)
          have h4 := List.pairwise_iff_getElem.1 h (pos l x) (pos l x + (i + 1)) (by omega) hi2 (by omega)
          omega
    · obtain ⟨i, hi, rfl⟩ := List.getElem_of_mem ha
      rw [List.getElem_take]
      have hi2 : i < pos l x := by simp at hi; omega
      have h1 := pos_lt l x i (by omega) hi2
      rcases List.mem_cons.1 hb with rfl | hb
      · exact h1
      · obtain ⟨k, hk, rfl⟩ := List.getElem_of_mem hb
        rw [List.getElem_drop]
        have h2 := pos_ge l x h (pos l x + k) (by simp at hk; omega) (by omega)
        omega
theorem p_less (a c : Int) : W f_cmp_Less 0 [.int a, .int c] = some [.bool (decide (a < c))] := by
  rw [e_f_cmp_Less_0, e_f_cmp_isNaN_0]
  simp only [O.ne_int, decide_true, Bool.not_true, Option.bind_some, O.calls_1, O.cnd_bool, Bool.false_eq_true, if_false, O.lt_int]
theorem p_isnan (a : Int) : W f_slices_isNaN 0 [.int a] = some [.bool false] := by
  rw [e_f_slices_isNaN_0]
  simp only [O.ne_int, decide_true, Bool.not_true, Option.bind_some]
theorem shr_one (a : Int) : Prim.ev (.shift .shr .u64) [.int a, .int 1] = some (.int (a / 2)) := by
  have : a.fdiv (2 ^ (Nat.min (1 : Int).toNat IntKind.u64.bits)) = a / 2 := Int.fdiv_eq_ediv_of_nonneg a (by decide)
  simp only [Prim.ev, this]
  rfl
theorem p_search_1 (l : List Int) (x : Int) (ha : Asc l) (hl : l.length ≤ 1048576) : ∀ (n lo hi : Nat), hi - lo ≤ n → lo ≤ pos l x → pos l x ≤ hi → hi ≤ l.length →
    W f_slices_BinarySearch 1 [.list (l.map IV.int), .int x, .int l.length, .int lo, .int hi] = some [.int (pos l x), .bool (decide (l[pos l x]? = some x))]
  | n, lo, hi, hn, h1, h2, h3 => by
    rw [e_f_slices_BinarySearch_1]
    by_cases c : lo < hi
    · have hm : lo ≤ (lo + hi) / 2 ∧ (lo + hi) / 2 < hi := by omega
      have hw : IntKind.i64.wrap ((lo : Int) + hi) = ((lo + hi : Nat) : Int) := by rw [wrap64 (by omega) (by omega)]; omega
      have hu : IntKind.u64.wrap ((lo + hi : Nat) : Int) = ((lo + hi : Nat) : Int) := by rw [IntKind.wrap_u64]; omega
      have hd : ((lo + hi : Nat) : Int) / 2 = (((lo + hi) / 2 : Nat) : Int) := by omega
      have hw2 : IntKind.i64.wrap (((lo + hi) / 2 : Nat) : Int) = (((lo + hi) / 2 : Nat) : Int) := wrap64 (by omega) (by omega)
      have hw3 : IntKind.i64.wrap ((((lo + hi) / 2 : Nat) : Int) + 1) = (((lo + hi) / 2 + 1 : Nat) : Int) := by rw [wrap64 (by omega) (by omega)]; omega
      have hg : (lo + hi) / 2 < l.length := by omega
      simp only [O.lt_int, lt_cast, c, decide_true, Option.bind_some, O.cnd_bool, if_true, O.add_int, hw, O.conv_int, hu, shr_one, hd, hw2, O.index_list, Int.natCast_nonneg, Int.toNat_natCast, List.getElem?_map, List.getElem?_eq_getElem hg, Option.map_some, p_less, O.calls_1, e_f_slices_BinarySearch_2, hw3]
      by_cases d : l[(lo + hi) / 2] < x
      · have hp : (lo + hi) / 2 < pos l x := by
          rcases Nat.lt_or_ge ((lo + hi) / 2) (pos l x) with h | h
          · exact h
          · have := pos_ge l x ha _ hg h; omega
        simp only [d, decide_true, if_true]
        exact p_search_1 l x ha hl (hi - ((lo + hi) / 2 + 1)) _ hi (Nat.le_refl _) (by omega) h2 h3
      · have hp : pos l x ≤ (lo + hi) / 2 := by
          rcases Nat.lt_or_ge ((lo + hi) / 2) (pos l x) with h | h
          · exact absurd (pos_lt l x _ hg h) d
          · exact h
        simp only [d, decide_false, Bool.false_eq_true, if_false]
        exact p_search_1 l x ha hl ((lo + hi) / 2 - lo) lo _ (Nat.le_refl _) h1 hp (by omega)
    · have e : lo = pos l x := by omega
      subst e
      simp only [O.lt_int, lt_cast, c, decide_false, Option.bind_some, O.cnd_bool, Bool.false_eq_true, if_false]
      by_cases d : pos l x < l.length
      · simp only [d, decide_true, if_true, O.index_list, Int.natCast_nonneg, Int.toNat_natCast, List.getElem?_map, List.getElem?_eq_getElem d, Option.map_some, Option.bind_some, O.eq_int, p_isnan, O.calls_1, O.cnd_bool, Bool.false_eq_true, if_false, ite_some, ite_ivbool, Option.some.injEq]
        by_cases g : l[pos l x] = x <;> simp [g]
      · have hnone : l[pos l x]? = none := List.getElem?_eq_none (by omega)
        simp only [d, decide_false, Bool.false_eq_true, if_false, Option.bind_some, hnone]
        simp
  termination_by n lo hi => hi - lo
theorem p_search (l : List Int) (x : Int) (ha : Asc l) (hl : l.length ≤ 1048576) : W f_slices_BinarySearch 0 [.list (l.map IV.int), .int x] = some [.int (pos l x), .bool (decide (l[pos l x]? = some x))] := by
  rw [e_f_slices_BinarySearch_0]
  simp only [O.len_list, List.length_map, Option.bind_some]
  exact p_search_1 l x ha hl l.length 0 l.length (by omega) (by omega) (pos_le l x) (by omega)
theorem p_insert (l : List Int) (x : Int) (hl : l.length ≤ 1048576) : W f_slices_Insert 0 [.list (l.map IV.int), .int (pos l x), .list [.int x]] = some [.list ((l.take (pos l x) ++ x :: l.drop (pos l x)).map IV.int)] := by
  have hp := pos_le l x
  rw [e_f_slices_Insert, O.insertF, if_pos ⟨by omega, by rw [List.length_map]; omega, by rw [List.length_map]; omega⟩]
  simp [List.map_take, List.map_drop]

/-! ## Votes -/
def newer (a c d e : Int) : Bool := decide (d < a) || (decide (a = d) && decide (e ≤ c))
theorem p_newer (a c d e : Int) : W f_rlog_Newer 0 [.int a, .int c, .int d, .int e] = some [.bool (newer a c d e)] := by
  rw [prg_newer, ref_newer]; rfl
def votes (n : N) (x : G) : Bool := (decide (n.vote = -1) || decide (n.vote = x.fr)) && newer x.lt x.ix (lastT n.l) (lastI n.l)
def sendF (n : N) (j : Int) (x : G) : N := {n with out := n.out ++ [⟨x.kind, n.id, j, n.term, x.ix, x.lt, x.com, x.ok, x.es, x.sn⟩]}
def voteF (n : N) (x : G) : N := sendF (if votes n x then {n with vote := x.fr, el := 0} else n) x.fr ⟨2, 0, 0, 0, 0, 0, 0, votes n x, [], ⟨#[]⟩⟩
section
variable (id size role term vote lead el to : Int) (vs nx mt : List Int) (com app b bt : Int) (es : List E) (sn : ByteArray) (out : List G)
theorem p_vote (x : G) (h : tame ⟨b, bt, es⟩) (ho : out.length ≤ 1000000) : W f_member_node_vote 0 [.int id, .int size, .int role, .int term, .int vote, .int lead, .int el, .int to, .list (vs.map IV.int), .list (nx.map IV.int), .list (mt.map IV.int), .int com, .int app, .int b, .int bt, .list (es.map E.enc), .str sn, .list (out.map G.enc), x.enc] = some (N.all (voteF (N.mk id size role term vote lead el to vs nx mt com app b bt es sn out) x)) := by
  rw [e_f_member_node_vote_0]
  have h1 := fun v e j y => p_send id size role term v lead e to vs nx mt com app b bt es sn out j y (by omega)
  have hv : votes (N.mk id size role term vote lead el to vs nx mt com app b bt es sn out) x = ((decide (vote = -1) || decide (vote = x.fr)) && newer x.lt x.ix (lastT ⟨b, bt, es⟩) (lastI ⟨b, bt, es⟩)) := rfl
  unfold voteF
  rw [hv]
  simp only [O.mkagg_eq, Option.bind_some, prg_last b bt es h, O.calls_2, O.eq_int, O.cnd_bool, G.p1, G.p4, G.p5, p_newer, O.calls_1, ite_some, ite_ivbool, G.fold0, h1, calls_all]
  by_cases c1 : vote = -1
  · cases hw : newer x.lt x.ix (lastT ⟨b, bt, es⟩) (lastI ⟨b, bt, es⟩) <;> simp [c1, sendF, N.all]
  · by_cases c2 : vote = x.fr
    · cases hw : newer x.lt x.ix (lastT ⟨b, bt, es⟩) (lastI ⟨b, bt, es⟩) <;> simp [← c2, sendF, N.all]
    · simp [c1, c2, sendF, N.all]
def staleF (n : N) (x : G) : N :=
  if x.kind = 1 then sendF n x.fr ⟨2, 0, 0, 0, 0, 0, 0, false, [], ⟨#[]⟩⟩
  else if x.kind = 3 ∨ x.kind = 5 then sendF n x.fr ⟨4, 0, 0, 0, 0, 0, 0, false, [], ⟨#[]⟩⟩
  else n
theorem p_stale (x : G) (ho : out.length ≤ 1000000) : W f_member_node_stale 0 [.int id, .int size, .int role, .int term, .int vote, .int lead, .int el, .int to, .list (vs.map IV.int), .list (nx.map IV.int), .list (mt.map IV.int), .int com, .int app, .int b, .int bt, .list (es.map E.enc), .str sn, .list (out.map G.enc), x.enc] = some (N.all (staleF (N.mk id size role term vote lead el to vs nx mt com app b bt es sn out) x)) := by
  rw [e_f_member_node_stale_0]
  have h1 := fun j y => p_send id size role term vote lead el to vs nx mt com app b bt es sn out j y (by omega)
  unfold staleF
  simp only [G.p0, G.p1, Option.bind_some, O.eq_int, O.cnd_bool, O.mkagg_eq, G.fold0, h1, calls_all, decide_eq_true_eq]
  by_cases c1 : x.kind = 1
  · simp [c1, sendF, N.all]
  · by_cases c3 : x.kind = 3
    · simp [c3, sendF, N.all]
    · by_cases c5 : x.kind = 5
      · simp [c5, sendF, N.all]
      · simp [c1, c3, c5, N.all]
def votedF (n : N) (x : G) : N :=
  if n.role ≠ 1 ∨ x.ok = false then n
  else if n.size < 2 * ((putF n.vs x.fr).length : Int) then leadF {n with vs := putF n.vs x.fr} else {n with vs := putF n.vs x.fr}
theorem p_voted_1 (h : tame ⟨b, bt, es⟩) (hl : es.length ≤ 400) (hid : 0 ≤ id ∧ id < size) (hs : size ≤ 7) (hcom : Mid com) (ho : out.length ≤ 1000000) :
    W f_member_node_voted 1 [.int id, .int size, .int role, .int term, .int vote, .int lead, .int el, .int to, .int com, .int app, .int b, .int bt, .str sn, .list (vs.map IV.int), .list (nx.map IV.int), .list (mt.map IV.int), .list (es.map E.enc), .list (out.map G.enc)] = some (N.all (if size < 2 * (vs.length : Int) then leadF (N.mk id size role term vote lead el to vs nx mt com app b bt es sn out) else (N.mk id size role term vote lead el to vs nx mt com app b bt es sn out))) := by
  rw [e_f_member_node_voted_1]
  have h1 := p_majority id size role term vote lead el to vs nx mt com app b bt es sn out vs.length (by omega)
  have h2 := p_lead id size role term vote lead el to vs nx mt com app b bt es sn out h hl hid hs hcom (by omega)
  simp only [O.len_list, List.length_map, Option.bind_some, O.mkagg_eq, h1, O.calls_1, O.cnd_bool, decide_eq_true_eq, h2, calls_all]
  split <;> rfl
theorem p_voted (x : G) (h : tame ⟨b, bt, es⟩) (hl : es.length ≤ 400) (hid : 0 ≤ id ∧ id < size) (hs : size ≤ 7) (hcom : Mid com) (ho : out.length ≤ 1000000) (hv : Asc vs) (hvl : vs.length ≤ 1000000) :
    W f_member_node_voted 0 [.int id, .int size, .int role, .int term, .int vote, .int lead, .int el, .int to, .list (vs.map IV.int), .list (nx.map IV.int), .list (mt.map IV.int), .int com, .int app, .int b, .int bt, .list (es.map E.enc), .str sn, .list (out.map G.enc), x.enc] = some (N.all (votedF (N.mk id size role term vote lead el to vs nx mt com app b bt es sn out) x)) := by
  rw [e_f_member_node_voted_0]
  have h1 := fun vs => p_voted_1 id size role term vote lead el to vs nx mt com app b bt es sn out h hl hid hs hcom ho
  have h2 := p_search vs x.fr hv (by omega)
  have h3 := p_insert vs x.fr (by omega)
  unfold votedF
  simp only [O.ne_int, Option.bind_some, G.p7, G.p1, O.not_bool, O.cnd_bool, ite_some, ite_ivbool, h2, O.calls_2, O.mklist_eq, h3, O.calls_1, h1]
  by_cases c1 : role = 1
  · cases hok : x.ok with
    | false => simp [c1, N.all]
    | true =>
      unfold putF
      by_cases c2 : vs[pos vs x.fr]? = some x.fr
      · simp [c1, c2]
      · simp [c1, c2]
  · simp [c1, N.all]
end
end Go.CT.Memb

namespace Go.CT.Memb
open Go.Proofs

/-! ## What is ignored, what contradicts -/
def over (x : G) (e : E) : Bool := decide (x.term < e.t)
def ignF (n : N) (x : G) : Bool :=
  decide (x.to ≠ n.id) || decide (x.fr = n.id) || decide (x.fr < 0) || decide (n.size ≤ x.fr) || decide (x.term < 0) || decide (1000000000000000 < x.term) || decide (x.kind < 1) || decide (5 < x.kind) ||
  (if x.kind = 3 then x.es.any (over x) else if x.kind = 5 then decide (x.ix < 1) || decide (1000000000000000 < x.ix) || decide (x.lt < 1) || decide (x.term < x.lt) else false)
theorem p_index_1 (es : List E) (x : G) (hl : es.length ≤ 1048576) : ∀ (n i : Nat), i + n = es.length →
    ∃ r : Int, W f_slices_IndexFunc 1 [.list (es.map E.enc), x.enc, .int es.length, .int i] = some [.int r] ∧ (decide (0 ≤ r) = (es.drop i).any (over x))
  | 0, i, h => by
    have h1 : ¬ i < es.length := by omega
    refine ⟨-1, ?_, ?_⟩
    · rw [e_f_slices_IndexFunc_1]
      simp only [O.lt_int, lt_cast, h1, decide_false, Option.bind_some, O.cnd_bool, Bool.false_eq_true, if_false]
    · rw [List.drop_of_length_le (by omega)]; rfl
  | n + 1, i, h => by
    have hi : i < es.length := by omega
    have hw : IntKind.i64.wrap ((i : Int) + 1) = ((i + 1 : Nat) : Int) := by rw [wrap64 (by omega) (by omega)]; rfl
    have hg : W f_member_node_ignored_1 0 [es[i].enc, x.enc] = some [.bool (over x es[i])] := by
      rw [e_f_member_node_ignored_1_0]
      simp only [E.enc, O.proj_agg, List.getElem?_cons_zero, Option.bind_some, G.p3, O.gt_int]
      rfl
    obtain ⟨r, hr, hr2⟩ := p_index_1 es x hl n (i + 1) (by omega)
    rw [List.drop_eq_getElem_cons hi, List.any_cons, ← hr2]
    rw [e_f_slices_IndexFunc_1]
    simp only [O.lt_int, lt_cast, hi, decide_true, Option.bind_some, O.cnd_bool, if_true, O.index_list, Int.natCast_nonneg, Int.toNat_natCast, List.getElem?_map, List.getElem?_eq_getElem hi, Option.map_some, hg, O.calls_1, O.add_int, hw, hr]
    cases over x es[i] with
    | true => exact ⟨i, rfl, by simp⟩
    | false => exact ⟨r, rfl, by simp⟩
theorem p_contains (es : List E) (x : G) (hl : es.length ≤ 1048576) : W f_slices_ContainsFunc 0 [.list (es.map E.enc), x.enc] = some [.bool (es.any (over x))] := by
  obtain ⟨r, hr, hr2⟩ := p_index_1 es x hl es.length 0 (by omega)
  simp only [Int.cast_ofNat_Int, List.drop_zero] at hr hr2
  rw [e_f_slices_ContainsFunc_0, e_f_slices_IndexFunc_0]
  simp only [O.len_list, List.length_map, Option.bind_some, hr, O.calls_1, O.ge_int, hr2]
theorem p_ignored (id size role term vote lead el to : Int) (vs nx mt : List Int) (com app b bt : Int) (es : List E) (sn : ByteArray) (out : List G) (x : G) (hl : x.es.length ≤ 1048576) : W f_member_node_ignored 0 [.agg [.int id, .int size, .int role, .int term, .int vote, .int lead, .int el, .int to, .list (vs.map IV.int), .list (nx.map IV.int), .list (mt.map IV.int), .int com, .int app, .int b, .int bt, .list (es.map E.enc), .str sn, .list (out.map G.enc)], x.enc] = some [.bool (ignF (N.mk id size role term vote lead el to vs nx mt com app b bt es sn out) x)] := by
  rw [e_f_member_node_ignored_0]
  unfold ignF
  simp only [O.proj_agg, List.getElem?_cons_succ, List.getElem?_cons_zero, Option.bind_some, G.p0, G.p1, G.p2, G.p3, G.p4, G.p5, G.p8, O.ne_int, O.eq_int, O.lt_int, O.ge_int, O.gt_int, O.cnd_bool, ite_some, ite_ivbool, p_contains _ x hl, O.calls_1, Option.some.injEq]
  by_cases k3 : x.kind = 3
  · simp only [k3, decide_true, if_true, ite_some]
    cases x.es.any (over x) <;> (by_cases a1 : x.to = id <;> by_cases a2 : x.fr = id <;> by_cases a3 : x.fr < 0 <;> by_cases a4 : size ≤ x.fr <;> by_cases a5 : x.term < 0 <;> by_cases a6 : 1000000000000000 < x.term <;> simp [a1, a2, a3, a4, a5, a6])
  · by_cases k5 : x.kind = 5
    · simp only [k5]
      by_cases a1 : x.to = id <;> by_cases a2 : x.fr = id <;> by_cases a3 : x.fr < 0 <;> by_cases a4 : size ≤ x.fr <;> by_cases a5 : x.term < 0 <;> by_cases a6 : 1000000000000000 < x.term <;> simp [a1, a2, a3, a4, a5, a6]
    · by_cases a1 : x.to = id <;> by_cases a2 : x.fr = id <;> by_cases a3 : x.fr < 0 <;> by_cases a4 : size ≤ x.fr <;> by_cases a5 : x.term < 0 <;> by_cases a6 : 1000000000000000 < x.term <;> (by_cases a7 : x.kind < 1 <;> by_cases a8 : 5 < x.kind <;> simp [k3, k5, a1, a2, a3, a4, a5, a6, a7, a8])

/-- Whether entries from the index i on contradict what is committed. -/
def contra (n : N) : Int → List E → Bool
  | _, [] => false
  | i, e :: es => if n.com < i then false else if n.b < i ∧ (termAt n.l i).isSome ∧ (termAt n.l i).getD 0 ≠ e.t then true else contra n (i + 1) es
theorem p_contradicts_1 (id size role term vote lead el to : Int) (vs nx mt : List Int) (com app b bt : Int) (es : List E) (sn : ByteArray) (out : List G) (x : G) (h : tame ⟨b, bt, es⟩) (hl : x.es.length ≤ 1048576) (hc : Mid com) (hx : I64 x.ix) : ∀ (n k : Nat), k + n = x.es.length →
    W f_member_node_contradicts 1 [.agg [.int id, .int size, .int role, .int term, .int vote, .int lead, .int el, .int to, .list (vs.map IV.int), .list (nx.map IV.int), .list (mt.map IV.int), .int com, .int app, .int b, .int bt, .list (es.map E.enc), .str sn, .list (out.map G.enc)], .list (x.es.map E.enc), .int x.es.length, .int k, x.enc] = some [.bool (contra (N.mk id size role term vote lead el to vs nx mt com app b bt es sn out) (x.ix + 1 + k) (x.es.drop k))]
  | 0, k, hk => by
    have h1 : ¬ k < x.es.length := by omega
    rw [e_f_member_node_contradicts_1, List.drop_of_length_le (by omega)]
    simp only [O.lt_int, lt_cast, h1, decide_false, Option.bind_some, O.cnd_bool, Bool.false_eq_true, if_false, contra]
  | n + 1, k, hk => by
    have hi : k < x.es.length := by omega
    obtain ⟨x1, x2⟩ := hx
    obtain ⟨c1, c2⟩ := hc
    have hw : IntKind.i64.wrap ((k : Int) + 1) = ((k + 1 : Nat) : Int) := by rw [wrap64 (by omega) (by omega)]; rfl
    have hw1 : IntKind.i64.wrap (com - 1) = com - 1 := wrap64 (by omega) (by omega)
    have hw2 : IntKind.i64.wrap (com - 1 - (k : Int)) = com - 1 - k := wrap64 (by omega) (by omega)
    have ih := p_contradicts_1 id size role term vote lead el to vs nx mt com app b bt es sn out x h hl ⟨c1, c2⟩ ⟨x1, x2⟩ n (k + 1) (by omega)
    rw [e_f_member_node_contradicts_1, List.drop_eq_getElem_cons hi]
    simp only [O.lt_int, lt_cast, hi, decide_true, Option.bind_some, O.cnd_bool, if_true, O.index_list, Int.natCast_nonneg, Int.toNat_natCast, List.getElem?_map, List.getElem?_eq_getElem hi, Option.map_some, G.p4, O.proj_agg, List.getElem?_cons_succ, List.getElem?_cons_zero, O.sub_int, hw1, hw2, O.gt_int, decide_eq_true_eq, contra]
    by_cases c : com < x.ix + 1 + k
    · rw [if_pos (by omega), if_pos c]
    · rw [if_neg (by omega), if_neg c]
      have hw3 : IntKind.i64.wrap (x.ix + 1) = x.ix + 1 := wrap64 (by omega) (by omega)
      have hw4 : IntKind.i64.wrap (x.ix + 1 + (k : Int)) = x.ix + 1 + k := wrap64 (by omega) (by omega)
      have e2 : x.ix + 1 + ((k + 1 : Nat) : Int) = x.ix + 1 + k + 1 := by omega
      rw [e2] at ih
      simp only [O.add_int, hw, hw3, hw4, O.projs_agg, List.drop_succ_cons, List.drop_zero, List.take_succ_cons, List.take_zero, Option.bind_some, prg_termAt b bt es _ h, optI_getD, O.calls_2, O.pick_bool, E.enc, O.proj_agg, List.getElem?_cons_zero, O.ne_int, O.cnd_bool, ite_some, ite_ivbool, ih, N.l]
      by_cases d1 : b < x.ix + 1 + k
      · rcases Bool.eq_false_or_eq_true (termAt ⟨b, bt, es⟩ (x.ix + 1 + k)).isSome with hs | hs
        · by_cases d2 : (termAt ⟨b, bt, es⟩ (x.ix + 1 + k)).getD 0 = x.es[k].t
          · simp only [O.gt_int, O.pick_bool, d1, hs, d2, decide_true, if_true, Option.bind_some, O.cnd_bool, Bool.not_true, Bool.false_eq_true, if_false, ne_eq, not_true_eq_false, and_false]
          · simp only [O.gt_int, O.pick_bool, d1, hs, d2, decide_true, decide_false, if_true, Option.bind_some, O.cnd_bool, Bool.not_false, ne_eq, not_false_eq_true, and_self]
        · simp only [O.gt_int, O.pick_bool, d1, hs, decide_true, if_true, Option.bind_some, O.cnd_bool, Bool.false_eq_true, if_false, false_and, and_false]
      · simp [d1]
theorem p_contradicts (id size role term vote lead el to : Int) (vs nx mt : List Int) (com app b bt : Int) (es : List E) (sn : ByteArray) (out : List G) (x : G) (h : tame ⟨b, bt, es⟩) (hl : x.es.length ≤ 1048576) (hc : Mid com) (hx : I64 x.ix) :
    W f_member_node_contradicts 0 [.agg [.int id, .int size, .int role, .int term, .int vote, .int lead, .int el, .int to, .list (vs.map IV.int), .list (nx.map IV.int), .list (mt.map IV.int), .int com, .int app, .int b, .int bt, .list (es.map E.enc), .str sn, .list (out.map G.enc)], x.enc] = some [.bool (contra (N.mk id size role term vote lead el to vs nx mt com app b bt es sn out) (x.ix + 1) x.es)] := by
  have := p_contradicts_1 id size role term vote lead el to vs nx mt com app b bt es sn out x h hl hc hx x.es.length 0 (by omega)
  simp only [Int.cast_ofNat_Int, List.drop_zero, Int.add_zero] at this
  rw [e_f_member_node_contradicts_0]
  simp only [G.p8, O.len_list, List.length_map, Option.bind_some, this]

/-! ## Entries, answers, snapshots -/
def followF (n : N) (j : Int) : N := {n with role := 0, vs := [], lead := j, el := 0}
def commitF (n : N) (i : Int) : N := if n.com < i then {n with com := i, app := i} else n
def logF (n : N) (l : L) : N := {n with b := l.b, bt := l.bt, es := l.es}
def minI (a c : Int) : Int := if c < a then c else a
def entriesF (n : N) (x : G) : N :=
  if n.role = 2 ∨ contra n (x.ix + 1) x.es = true then n
  else
    sendF (if (appendF n.l x.ix x.lt x.es).ok = true then commitF (logF (followF n x.fr) (appendF n.l x.ix x.lt x.es).l) (minI x.com (appendF n.l x.ix x.lt x.es).n) else followF n x.fr) x.fr
      ⟨4, 0, 0, 0, (appendF n.l x.ix x.lt x.es).n, 0, 0, (appendF n.l x.ix x.lt x.es).ok, [], ⟨#[]⟩⟩
theorem p_entries_1 (id size role term vote lead el to : Int) (vs nx mt : List Int) (com app b bt : Int) (es : List E) (sn : ByteArray) (out : List G) (i : Int) (o : Bool) (x : G) (ho : out.length ≤ 1000000) :
    W f_member_node_entries 1 [.int i, .bool o, .int id, .int size, .int role, .int term, .int vote, .int lead, .int el, .int to, .int com, .int app, .int b, .int bt, .str sn, x.enc, .list (vs.map IV.int), .list (nx.map IV.int), .list (mt.map IV.int), .list (es.map E.enc), .list (out.map G.enc)] = some (N.all (sendF (N.mk id size role term vote lead el to vs nx mt com app b bt es sn out) x.fr ⟨4, 0, 0, 0, i, 0, 0, o, [], ⟨#[]⟩⟩)) := by
  rw [e_f_member_node_entries_1]
  have h1 := fun j y => p_send id size role term vote lead el to vs nx mt com app b bt es sn out j y (by omega)
  simp only [G.p1, Option.bind_some, O.mkagg_eq, G.fold0, h1, calls_all]
  rfl
theorem p_entries (id size role term vote lead el to : Int) (vs nx mt : List Int) (com app b bt : Int) (es : List E) (sn : ByteArray) (out : List G) (x : G) (hf : fine ⟨b, bt, es⟩) (hl : x.es.length ≤ 1048576) (hc : Mid com) (hx : I64 x.ix) (ho : out.length ≤ 1000000) :
    W f_member_node_entries 0 [.int id, .int size, .int role, .int term, .int vote, .int lead, .int el, .int to, .list (vs.map IV.int), .list (nx.map IV.int), .list (mt.map IV.int), .int com, .int app, .int b, .int bt, .list (es.map E.enc), .str sn, .list (out.map G.enc), x.enc] = some (N.all (entriesF (N.mk id size role term vote lead el to vs nx mt com app b bt es sn out) x)) := by
  have h : tame ⟨b, bt, es⟩ := ⟨hf.1, hf.2.1, by have := hf.2.2.2.2.2; simp only at *; omega⟩
  rw [e_f_member_node_entries_0]
  unfold entriesF
  have h1 := p_contradicts id size role term vote lead el to vs nx mt com app b bt es sn out x h hl hc hx
  have h2 := p_follow id size role term vote lead el to vs nx mt com app b bt es sn out x.fr
  have h3 := prg_append b bt es x.ix x.lt x.es hf hx hl
  have h4 := fun com app b bt es i => p_commitTo id size 0 term vote x.fr 0 to [] nx mt com app b bt es sn out i
  have h5 := fun com app b bt es i o => p_entries_1 id size 0 term vote x.fr 0 to [] nx mt com app b bt es sn out i o x ho
  simp only [List.map_nil] at h4 h5
  simp only [O.eq_int, Option.bind_some, O.mkagg_eq, h1, O.calls_1, O.cnd_bool, ite_some, ite_ivbool, G.p1, G.p4, G.p5, G.p6, G.p8, h2, calls_all, h3, O.calls_5, O.min_int, List.map_nil, h4, h5, N.l]
  by_cases c1 : role = 2
  · simp [c1, N.all]
  · rcases Bool.eq_false_or_eq_true (contra (N.mk id size role term vote lead el to vs nx mt com app b bt es sn out) (x.ix + 1) x.es) with hk | hk
    · simp [c1, hk, N.all]
    · rcases Bool.eq_false_or_eq_true (appendF ⟨b, bt, es⟩ x.ix x.lt x.es).ok with hok | hok
      · simp only [c1, hk, hok, decide_false, Bool.false_eq_true, if_false, or_false, if_true]
        unfold commitF logF followF minI
        by_cases c2 : com < (if (appendF ⟨b, bt, es⟩ x.ix x.lt x.es).n < x.com then (appendF ⟨b, bt, es⟩ x.ix x.lt x.es).n else x.com)
        · simp only [c2, if_true, List.map_nil, h5]
        · simp only [c2, if_false, List.map_nil, h5]
      · simp only [c1, hk, hok, decide_false, Bool.false_eq_true, if_false, or_false, h5]
        unfold followF
        rfl
end Go.CT.Memb

namespace Go.CT.Memb
open Go.Proofs

/-! ## Answers, snapshots -/
theorem advN_form (n : N) : ∀ k : Nat, advN n k = n ∨ ∃ c : Int, n.com < c ∧ c ≤ n.com + k ∧ termAt n.l c = some n.term ∧ n.size < 2 * (cnt n.mt c : Int) ∧ advN n k = {n with com := c, app := c}
  | 0 => .inl rfl
  | k + 1 => by
    unfold advN
    split
    · next h => exact .inr ⟨n.com + (k + 1 : Nat), by omega, by omega, h.1, h.2, rfl⟩
    · rcases advN_form n k with h | ⟨c, h1, h2, h3⟩
      · exact .inl h
      · exact .inr ⟨c, h1, by omega, h3⟩
theorem advF_form (n : N) : advF n = n ∨ ∃ c : Int, n.com < c ∧ c ≤ lastI n.l ∧ termAt n.l c = some n.term ∧ n.size < 2 * (cnt n.mt c : Int) ∧ advF n = {n with com := c, app := c} := by
  unfold advF
  rcases advN_form n (lastI n.l - n.com).toNat with h | ⟨c, h1, h2, h3⟩
  · exact .inl h
  · exact .inr ⟨c, h1, by omega, h3⟩
theorem advF_upto (n : N) : ∃ c d : Int, advF n = {n with com := c, app := d} := by
  rcases advF_form n with h | ⟨c, _, _, _, _, h⟩
  · exact ⟨n.com, n.app, h⟩
  · exact ⟨c, c, h⟩
def maxI (a c : Int) : Int := if a < c then c else a
def tellF (n : N) (j i : Int) : N := {n with out := n.out ++ [appMsg n j i]}
def backI (n : N) (x : G) : Int := maxI (minI x.ix (n.nx.getD x.fr.toNat 0 - 2) + 1) (n.mt.getD x.fr.toNat 0 + 1)
def ackF (n : N) (x : G) : N :=
  if n.role ≠ 2 then n
  else if x.ok = false then
    if backI n x < n.nx.getD x.fr.toNat 0 then tellF {n with nx := n.nx.set x.fr.toNat (backI n x)} x.fr (backI n x) else n
  else if minI x.ix (lastI n.l) ≤ n.mt.getD x.fr.toNat 0 then n
  else if minI x.ix (lastI n.l) < lastI n.l then tellF (advF {n with mt := n.mt.set x.fr.toNat (minI x.ix (lastI n.l)), nx := n.nx.set x.fr.toNat (minI x.ix (lastI n.l) + 1)}) x.fr (minI x.ix (lastI n.l) + 1)
  else advF {n with mt := n.mt.set x.fr.toNat (minI x.ix (lastI n.l)), nx := n.nx.set x.fr.toNat (minI x.ix (lastI n.l) + 1)}
theorem p_appended (id size role term vote lead el to : Int) (vs nx mt : List Int) (com app b bt : Int) (es : List E) (sn : ByteArray) (out : List G) (x : G) (h : tame ⟨b, bt, es⟩) (hs : 1 ≤ size ∧ size ≤ 7) (hfr : 0 ≤ x.fr ∧ x.fr < size) (hx : I64 x.ix) (hc : Mid com) (ho : out.length ≤ 1000000)
    (hled : role = 2 → (nx.length : Int) = size ∧ (mt.length : Int) = size) (hnx : ∀ v ∈ nx, 1 ≤ v ∧ v ≤ 1000000000000401) (hmt : ∀ v ∈ mt, 0 ≤ v ∧ v ≤ 1000000000000401) :
    W f_member_node_appended 0 [.int id, .int size, .int role, .int term, .int vote, .int lead, .int el, .int to, .list (vs.map IV.int), .list (nx.map IV.int), .list (mt.map IV.int), .int com, .int app, .int b, .int bt, .list (es.map E.enc), .str sn, .list (out.map G.enc), x.enc] = some (N.all (ackF (N.mk id size role term vote lead el to vs nx mt com app b bt es sn out) x)) := by
  rw [e_f_member_node_appended_0]
  unfold ackF backI
  by_cases c0 : role = 2
  rotate_left
  · simp only [O.ne_int, c0, decide_false, Bool.not_false, Option.bind_some, O.cnd_bool, if_true, ne_eq, not_false_eq_true, N.all]
  obtain ⟨l1, l2⟩ := hled c0
  obtain ⟨j, hj⟩ := Int.eq_ofNat_of_zero_le hfr.1
  have j1 : j < nx.length := by omega
  have j2 : j < mt.length := by omega
  have hla := mid_last h
  have b1 := hnx _ (List.getElem_mem j1)
  have b2 := hmt _ (List.getElem_mem j2)
  have g1 : nx.getD j 0 = nx[j] := by rw [List.getD_eq_getElem?_getD, List.getElem?_eq_getElem j1]; rfl
  have g2 : mt.getD j 0 = mt[j] := by rw [List.getD_eq_getElem?_getD, List.getElem?_eq_getElem j2]; rfl
  have w1 : IntKind.i64.wrap (nx[j] - 2) = nx[j] - 2 := wrap64 (by omega) (by omega)
  have w3 : IntKind.i64.wrap (mt[j] + 1) = mt[j] + 1 := wrap64 (by omega) (by omega)
  simp only [O.ne_int, c0, decide_true, Bool.not_true, Option.bind_some, O.cnd_bool, Bool.false_eq_true, if_false, ne_eq, not_true_eq_false, G.p1, G.p4, G.p7, O.not_bool, hj, Int.ofNat_eq_natCast, Int.toNat_natCast, g1, g2, N.l]
  obtain ⟨x1, x2⟩ := hx
  cases hok : x.ok with
  | false =>
    have w2 : IntKind.i64.wrap (minI x.ix (nx[j] - 2) + 1) = minI x.ix (nx[j] - 2) + 1 := by
      unfold minI; split <;> exact wrap64 (by omega) (by omega)
    have hmin : (if nx[j] - 2 < x.ix then nx[j] - 2 else x.ix) = minI x.ix (nx[j] - 2) := rfl
    have hmax : (if minI x.ix (nx[j] - 2) + 1 < mt[j] + 1 then mt[j] + 1 else minI x.ix (nx[j] - 2) + 1) = maxI (minI x.ix (nx[j] - 2) + 1) (mt[j] + 1) := rfl
    simp only [Bool.not_false, if_true, O.index_list, Int.natCast_nonneg, Int.toNat_natCast, List.getElem?_map, List.getElem?_eq_getElem j1, List.getElem?_eq_getElem j2, Option.map_some, Option.bind_some, O.sub_int, w1, O.min_int, hmin, O.add_int, w2, w3, O.max_int, hmax, O.lt_int, O.cnd_bool, decide_eq_true_eq, O.setAt_whole]
    have hk1 : mt[j] + 1 ≤ maxI (minI x.ix (nx[j] - 2) + 1) (mt[j] + 1) := by unfold maxI; split <;> omega
    generalize maxI (minI x.ix (nx[j] - 2) + 1) (mt[j] + 1) = k at hk1
    by_cases c : k < nx[j]
    · have ht := p_appendTo id size 2 term vote lead el to vs (nx.set j k) mt com app b bt es sn out j k (by omega) h (by rw [List.getElem?_set_self j1]) ⟨by omega, by omega⟩
      simp only [List.map_set] at ht
      simp only [c, if_true, ht, calls_all]
      rfl
    · simp only [c, if_false, N.all]
  | true =>
    have hmin : (if lastI ⟨b, bt, es⟩ < x.ix then lastI ⟨b, bt, es⟩ else x.ix) = minI x.ix (lastI ⟨b, bt, es⟩) := rfl
    have hm : minI x.ix (lastI ⟨b, bt, es⟩) ≤ lastI ⟨b, bt, es⟩ := by unfold minI; split <;> omega
    simp only [Bool.not_true, Bool.false_eq_true, if_false, O.mkagg_eq, p_last id size 2 term vote lead el to vs nx mt com app b bt es sn out h, O.calls_1, O.min_int, hmin, O.index_list, Int.natCast_nonneg, if_true, Int.toNat_natCast, List.getElem?_map, List.getElem?_eq_getElem j1, List.getElem?_eq_getElem j2, Option.map_some, Option.bind_some, O.le_int, O.cnd_bool, decide_eq_true_eq, O.setAt_whole, reduceCtorEq]
    generalize minI x.ix (lastI ⟨b, bt, es⟩) = i at hm
    by_cases c : i ≤ mt[j]
    · simp only [c, if_true, N.all]
    · have w4 : IntKind.i64.wrap (i + 1) = i + 1 := wrap64 (by omega) (by omega)
      have ha := p_advance id size 2 term vote lead el to vs (nx.set j (i + 1)) (mt.set j i) com app b bt es sn out h hs hc (by rw [List.length_set]; omega)
      obtain ⟨cm, ap, hadv⟩ := advF_upto (N.mk id size 2 term vote lead el to vs (nx.set j (i + 1)) (mt.set j i) com app b bt es sn out)
      simp only at hadv
      rw [hadv] at ha ⊢
      simp only [List.map_set] at ha
      have ht := p_appendTo id size 2 term vote lead el to vs (nx.set j (i + 1)) (mt.set j i) cm ap b bt es sn out j (i + 1) (by omega) h (by rw [List.getElem?_set_self j1]) ⟨by omega, by omega⟩
      have hl2 := p_last id size 2 term vote lead el to vs (nx.set j (i + 1)) (mt.set j i) cm ap b bt es sn out h
      simp only [c, if_false, O.add_int, w4, Option.bind_some, ha, calls_all, O.mkagg_eq, hl2, O.calls_1, O.lt_int, O.cnd_bool, decide_eq_true_eq, ht]
      split <;> rfl

def compactL (l : L) (i t : Int) : L := ⟨i, t, l.es.drop (i - l.b).toNat⟩
def compactIV (l : L) (i : Int) : List IV := match termAt l i with | some t => [.int i, .int t, .list ((l.es.drop (i - l.b).toNat).map E.enc), .int 0] | none => [.int l.b, .int l.bt, .list (l.es.map E.enc), .int 5]
theorem p_compactL (b bt : Int) (es : List E) (i : Int) (h : tame ⟨b, bt, es⟩) : W f_rlog_Compact 0 [.agg [.int b, .int bt, .list (es.map E.enc)], .int i] = some (compactIV ⟨b, bt, es⟩ i) := by
  have hb1 : 0 ≤ b := h.1
  have hb2 : b ≤ 1000000000000000 := h.2.1
  have hb3 : es.length ≤ 4194304 := h.2.2
  have hcase : termAt ⟨b, bt, es⟩ i = none ∨ ∃ t, termAt ⟨b, bt, es⟩ i = some t := by
    cases termAt ⟨b, bt, es⟩ i with
    | none => exact .inl rfl
    | some t => exact .inr ⟨t, rfl⟩
  rcases hcase with ht | ⟨t, ht⟩
  · have e : compactIV ⟨b, bt, es⟩ i = [.int b, .int bt, .list (es.map E.enc), .int 5] := by unfold compactIV; rw [ht]
    rw [e, e_f_rlog_Compact_0, prg_termAt b bt es i h, ht]
    show calls (W f_rlog_clone 0 [.agg [.int b, .int bt, .list (es.map E.enc)]]) 3 (fun x5 x6 x7 => some [x5, x6, x7, .int 5]) = _
    rw [clone b bt es (by omega)]
    rfl
  · have e : compactIV ⟨b, bt, es⟩ i = [.int i, .int t, .list ((es.drop (i - b).toNat).map E.enc), .int 0] := by unfold compactIV; rw [ht]
    obtain ⟨g1, g2⟩ := termAt_le ht
    have hw : IntKind.i64.wrap (i - b) = i - b := wrap64 (by omega) (by omega)
    have hs : O.sliceLo (.list (es.map E.enc)) (.int (i - b)) = some (.list ((es.drop (i - b).toNat).map E.enc)) := by
      rw [O.sliceLo_list, if_pos ⟨by omega, by rw [List.length_map]; omega⟩, List.map_drop]
    have hcl := clone_es (es.drop (i - b).toNat) (by rw [List.length_drop]; omega)
    rw [e, e_f_rlog_Compact_0, prg_termAt b bt es i h, ht]
    show (O.sliceLo (.list (es.map E.enc)) (.int (IntKind.i64.wrap (i - b)))).bind (fun x8 => calls (W f_slices_Clone_v2 0 [x8]) 1 fun x9 => some [.int i, .int t, x9, .int 0]) = _
    rw [hw, hs]
    show calls (W f_slices_Clone_v2 0 [_]) 1 (fun x9 => some [.int i, .int t, x9, .int 0]) = _
    rw [hcl]
    rfl
def snapL (n : N) (x : G) : L := if termAt n.l x.ix = some x.lt then compactL n.l x.ix x.lt else ⟨x.ix, x.lt, []⟩
def snapF (n : N) (x : G) : N :=
  if n.role = 2 then n
  else if x.ix ≤ n.com then sendF (followF n x.fr) x.fr ⟨4, 0, 0, 0, n.com, 0, 0, true, [], ⟨#[]⟩⟩
  else sendF (commitF {logF (followF n x.fr) (snapL n x) with sn := x.sn} x.ix) x.fr ⟨4, 0, 0, 0, x.ix, 0, 0, true, [], ⟨#[]⟩⟩
theorem p_snapshot_1 (id size role term vote lead el to : Int) (vs nx mt : List Int) (com app b bt : Int) (es : List E) (sn : ByteArray) (out : List G) (x : G) (lb lt : Int) (les : List E) (ho : out.length ≤ 1000000) :
    W f_member_node_snapshot 1 [.int id, .int size, .int role, .int term, .int vote, .int lead, .int el, .int to, .int com, .int app, .int b, .int bt, .str sn, x.enc, .int lb, .int lt, .list (vs.map IV.int), .list (nx.map IV.int), .list (mt.map IV.int), .list (es.map E.enc), .list (out.map G.enc), .list (les.map E.enc)] =
      some (N.all (sendF (commitF (N.mk id size role term vote lead el to vs nx mt com app lb lt les x.sn out) x.ix) x.fr ⟨4, 0, 0, 0, x.ix, 0, 0, true, [], ⟨#[]⟩⟩)) := by
  rw [e_f_member_node_snapshot_1]
  have h1 := p_commitTo id size role term vote lead el to vs nx mt com app lb lt les x.sn out x.ix
  have h2 := fun c a j y => p_send id size role term vote lead el to vs nx mt c a lb lt les x.sn out j y (by omega)
  simp only [G.p9, G.p4, G.p1, Option.bind_some, h1, calls_all, O.mkagg_eq, G.fold0]
  unfold commitF
  by_cases c : com < x.ix
  · simp only [c, if_true, h2, calls_all]; rfl
  · simp only [c, if_false, h2, calls_all]; rfl
theorem p_snapshot (id size role term vote lead el to : Int) (vs nx mt : List Int) (com app b bt : Int) (es : List E) (sn : ByteArray) (out : List G) (x : G) (h : tame ⟨b, bt, es⟩) (ho : out.length ≤ 1000000) : W f_member_node_snapshot 0 [.int id, .int size, .int role, .int term, .int vote, .int lead, .int el, .int to, .list (vs.map IV.int), .list (nx.map IV.int), .list (mt.map IV.int), .int com, .int app, .int b, .int bt, .list (es.map E.enc), .str sn, .list (out.map G.enc), x.enc] = some (N.all (snapF (N.mk id size role term vote lead el to vs nx mt com app b bt es sn out) x)) := by
  rw [e_f_member_node_snapshot_0]
  unfold snapF
  have h1 := p_follow id size role term vote lead el to vs nx mt com app b bt es sn out x.fr
  have h2 := fun j y => p_send id size 0 term vote x.fr 0 to [] nx mt com app b bt es sn out j y (by omega)
  have h3 := fun lb lt les => p_snapshot_1 id size 0 term vote x.fr 0 to [] nx mt com app b bt es sn out x lb lt les ho
  simp only [List.map_nil] at h2 h3
  have h30 := fun lb lt => h3 lb lt []
  simp only [List.map_nil] at h30
  simp only [O.eq_int, Option.bind_some, O.cnd_bool, decide_eq_true_eq, G.p1, G.p4, G.p5, h1, calls_all, List.map_nil, O.le_int, O.mkagg_eq, G.fold0, h2, prg_termAt b bt es _ h, optI_getD, O.calls_2, p_compactL b bt es _ h, O.not_bool, N.l]
  by_cases c0 : role = 2
  · simp only [c0, if_true, N.all]
  · by_cases c1 : x.ix ≤ com
    · simp only [c0, c1, if_true, if_false]; rfl
    · simp only [c0, c1, if_false]
      unfold snapL compactL compactIV N.l
      have hcase : termAt ⟨b, bt, es⟩ x.ix = none ∨ ∃ t, termAt ⟨b, bt, es⟩ x.ix = some t := by
        cases termAt ⟨b, bt, es⟩ x.ix with
        | none => exact .inl rfl
        | some t => exact .inr ⟨t, rfl⟩
      rcases hcase with ht | ⟨t, ht⟩
      · simp only [ht, O.calls_4, Option.isSome_none, Bool.not_false, O.cnd_bool, if_true, Option.bind_some, h30, reduceCtorEq, if_false]
        rfl
      · by_cases c2 : t = x.lt
        · simp only [ht, O.calls_4, Option.isSome_some, Option.getD_some, Bool.not_true, O.cnd_bool, Bool.false_eq_true, if_false, Option.bind_some, O.ne_int, c2, decide_true, h3, if_true]
          rfl
        · simp only [ht, O.calls_4, Option.isSome_some, Option.getD_some, Bool.not_true, O.cnd_bool, Bool.false_eq_true, if_false, Option.bind_some, O.ne_int, c2, decide_false, Bool.not_false, if_true, h30, Option.some.injEq]
          rfl
end Go.CT.Memb
