import Derived.Test.YtcamikkadiiobaaMembP
set_option linter.unusedVariables false
set_option linter.unusedSimpArgs false
namespace Go.CT.Memb
open Go.Proofs

/-! ## The operations -/
/-- What holds of a member at any time; k: how many operations there were. -/
structure Ok (k : Nat) (n : N) : Prop where
  id : 0 ≤ n.id ∧ n.id < n.size
  size : n.size ≤ 7
  to : 1 ≤ n.to ∧ n.to ≤ 1000000000000
  term : 0 ≤ n.term ∧ n.term ≤ 1000000000000000
  role : n.role = 0 ∨ n.role = 1 ∨ n.role = 2
  pos : n.role ≠ 0 → 1 ≤ n.term
  el : 0 ≤ n.el ∧ n.el ≤ k
  val : valid n.l = true
  bt : n.bt ≤ n.term
  ts : ∀ e ∈ n.es, e.t ≤ n.term
  com : n.b ≤ n.com ∧ n.com ≤ lastI n.l
  app : n.app = n.com
  asc : Asc n.vs
  vsl : n.vs.length ≤ k + 1
  led : n.role = 2 → (n.nx.length : Int) = n.size ∧ (n.mt.length : Int) = n.size
  nxl : n.nx.length ≤ 7 ∧ n.mt.length ≤ 7
  nx : ∀ v ∈ n.nx, 1 ≤ v ∧ v ≤ 1000000000000401
  mt : ∀ v ∈ n.mt, 0 ≤ v ∧ v ≤ 1000000000000401
theorem Ok.fine {k : Nat} {n : N} (h : Ok k n) : fine n.l := (valid_inv h.val).1
theorem Ok.tame {k : Nat} {n : N} (h : Ok k n) : tame n.l := by
  obtain ⟨f1, f2, f3, f4, f5, f6⟩ := h.fine
  exact ⟨f1, f2, by omega⟩
theorem Ok.mid {k : Nat} {n : N} (h : Ok k n) : Mid n.com := by
  have h1 := h.com
  have h2 := mid_last (b := n.b) (bt := n.bt) (es := n.es) h.tame
  have h3 : 0 ≤ n.b := h.tame.1
  have h4 : n.com ≤ lastI ⟨n.b, n.bt, n.es⟩ := h1.2
  unfold Mid; omega
theorem Ok.len {k : Nat} {n : N} (h : Ok k n) : n.es.length ≤ 400 := h.fine.2.2.2.2.2
theorem Ok.few {k : Nat} {n : N} (h : Ok k n) (hk : k ≤ 1000) : Few n := by
  have := h.vsl; have := h.nxl; have := h.len
  exact ⟨by omega, by omega, by omega, by omega⟩
theorem Ok.NX {k : Nat} {n : N} (h : Ok k n) (hr : n.role = 2) : NX n.size n.nx := fun j hj => by
  have hl := (h.led hr).1
  have hj2 : j < n.nx.length := by omega
  have := h.nx _ (List.getElem_mem hj2)
  exact ⟨_, List.getElem?_eq_getElem hj2, by unfold Mid; omega⟩
def bare (n : N) : N := {n with out := []}
def tickF (n : N) : N :=
  if n.role = 2 then say (bare n)
  else if n.to ≤ n.el + 1 ∧ n.term < 1000000000000000 then electF {bare n with el := n.el + 1} else {bare n with el := n.el + 1}
theorem p_tick {k : Nat} (n : N) (h : Ok k n) (hk : k ≤ 1000) : W f_member_Tick 0 [n.enc] = some (tickF n).all := by
  have hc := p_copied n (h.few hk)
  have hel := h.el
  have hw : IntKind.i64.wrap (n.el + 1) = n.el + 1 := wrap64 (by omega) (by omega)
  rw [e_f_member_Tick_0]
  unfold tickF
  by_cases c : n.role = 2
  · have hb := p_broadcast n.id n.size n.role n.term n.vote n.lead n.el n.to n.vs n.nx n.mt n.com n.app n.b n.bt n.es n.sn [] h.tame (h.NX c) ⟨by have := h.id; omega, h.size⟩ (by simp)
    simp only [List.map_nil] at hb
    have hd : decide (n.role = 2) = true := by simp [c]
    rw [if_pos c]
    simp only [hc, calls_cells, O.eq_int, hd, Option.bind_some, O.cnd_bool, if_true, hb, calls_all]
    rfl
  · simp only [hc, calls_cells, O.eq_int, c, decide_false, Option.bind_some, O.cnd_bool, Bool.false_eq_true, if_false, O.add_int, hw, O.ge_int, O.lt_int, ite_some, ite_ivbool]
    by_cases c1 : n.to ≤ n.el + 1
    · by_cases c2 : n.term < 1000000000000000
      · have he := p_elect n.id n.size n.role n.term n.vote n.lead (n.el + 1) n.to n.vs n.nx n.mt n.com n.app n.b n.bt n.es n.sn [] h.tame h.len h.id h.size h.mid ⟨h.term.1, c2⟩ (by simp)
        simp only [List.map_nil] at he
        simp only [c1, c2, decide_true, if_true, he, calls_all, e_f_member_Tick_1, and_self]
        rfl
      · simp only [c1, c2, decide_true, decide_false, if_true, Bool.false_eq_true, if_false, e_f_member_Tick_1, and_false]
        rfl
    · simp only [c1, decide_false, Bool.false_eq_true, if_false, e_f_member_Tick_1, false_and]
      rfl
/-- A member that hears of a new term. -/
def termF (n : N) (x : G) : N := if n.term < x.term then {n with role := 0, term := x.term, vote := -1, lead := -1, vs := [], nx := [], mt := []} else n
def kindF (n : N) (x : G) : N :=
  if x.kind = 1 then voteF n x else if x.kind = 2 then votedF n x else if x.kind = 3 then entriesF n x else if x.kind = 4 then ackF n x else if x.kind = 5 then snapF n x else n
def handleF (n : N) (x : G) : N :=
  if ignF (bare n) x = true then bare n
  else if x.term < n.term then staleF (bare n) x
  else kindF (termF (bare n) x) x
/-- What's asked of a message. -/
structure GOk (x : G) : Prop where
  ix : I64 x.ix
  es : x.es.length ≤ 1048576
theorem ign_inv {n : N} {x : G} (h : ¬ ignF n x = true) : x.to = n.id ∧ x.fr ≠ n.id ∧ 0 ≤ x.fr ∧ x.fr < n.size ∧ 0 ≤ x.term ∧ x.term ≤ 1000000000000000 ∧ 1 ≤ x.kind ∧ x.kind ≤ 5 ∧
    (x.kind = 3 → ∀ e ∈ x.es, e.t ≤ x.term) ∧ (x.kind = 5 → 1 ≤ x.ix ∧ x.ix ≤ 1000000000000000 ∧ 1 ≤ x.lt ∧ x.lt ≤ x.term) := by
  unfold ignF at h
  simp only [Bool.or_eq_true, decide_eq_true_eq, not_or, Bool.not_eq_true] at h
  obtain ⟨⟨⟨⟨⟨⟨⟨⟨h1, h2⟩, h3⟩, h4⟩, h5⟩, h6⟩, h7⟩, h8⟩, h9⟩ := h
  refine ⟨by omega, h2, by omega, by omega, by omega, by omega, by omega, by omega, fun k e he => ?_, fun k => ?_⟩
  · rw [if_pos k] at h9
    have := List.any_eq_false.1 h9 e he
    simp only [over, decide_eq_true_eq] at this
    omega
  · rw [if_neg (by omega), if_pos k] at h9
    simp only [Bool.or_eq_false_iff, decide_eq_false_iff_not] at h9
    omega
theorem p_kind {k : Nat} (n : N) (x : G) (h : Ok k n) (hk : k ≤ 1000) (hx : GOk x) (hfr : 0 ≤ x.fr ∧ x.fr < n.size) (ho : n.out = []) (y1 y2 y3 y4 y5 y6 y7 y8 y9 y10 y11 y12 y13 : IV) :
    W f_member_Handle 1 [x.enc, y1, y2, y3, y4, y5, y6, y7, y8, y9, y10, y11, y12, y13, .int n.id, .int n.size, .int n.role, .int n.term, .int n.vote, .int n.lead, .int n.el, .int n.to, .int n.com, .int n.app, .int n.b, .int n.bt, .str n.sn, .list (n.vs.map IV.int), .list (n.nx.map IV.int), .list (n.mt.map IV.int), .list (n.es.map E.enc)] = some (kindF n x).all := by
  obtain ⟨hx1, hx2⟩ := hx
  have hid := h.id
  have q1 := p_vote n.id n.size n.role n.term n.vote n.lead n.el n.to n.vs n.nx n.mt n.com n.app n.b n.bt n.es n.sn [] x h.tame (by simp)
  have q2 := p_voted n.id n.size n.role n.term n.vote n.lead n.el n.to n.vs n.nx n.mt n.com n.app n.b n.bt n.es n.sn [] x h.tame h.len h.id h.size h.mid (by simp) h.asc (by have := h.vsl; omega)
  have q3 := p_entries n.id n.size n.role n.term n.vote n.lead n.el n.to n.vs n.nx n.mt n.com n.app n.b n.bt n.es n.sn [] x h.fine hx2 h.mid hx1 (by simp)
  have q4 := p_appended n.id n.size n.role n.term n.vote n.lead n.el n.to n.vs n.nx n.mt n.com n.app n.b n.bt n.es n.sn [] x h.tame ⟨by omega, h.size⟩ hfr hx1 h.mid (by simp) h.led h.nx h.mt
  have q5 := p_snapshot n.id n.size n.role n.term n.vote n.lead n.el n.to n.vs n.nx n.mt n.com n.app n.b n.bt n.es n.sn [] x h.tame (by simp)
  have e : N.mk n.id n.size n.role n.term n.vote n.lead n.el n.to n.vs n.nx n.mt n.com n.app n.b n.bt n.es n.sn [] = n := by rw [← ho]
  rw [e] at q1 q2 q3 q4 q5
  simp only [List.map_nil] at q1 q2 q3 q4 q5
  rw [e_f_member_Handle_1]
  unfold kindF
  simp only [G.p0, Option.bind_some, O.eq_int, O.cnd_bool, decide_eq_true_eq, q1, q2, q3, q4, q5, calls_all, e_f_member_Handle_2]
  by_cases c1 : x.kind = 1
  · simp only [c1, if_true]; rfl
  · by_cases c2 : x.kind = 2
    · simp only [c1, c2, if_true, if_false]; rfl
    · by_cases c3 : x.kind = 3
      · simp only [c1, c2, c3, if_true, if_false]; rfl
      · by_cases c4 : x.kind = 4
        · simp only [c1, c2, c3, c4, if_true, if_false]; rfl
        · by_cases c5 : x.kind = 5
          · simp only [c1, c2, c3, c4, c5, if_true, if_false]; rfl
          · simp only [c1, c2, c3, c4, c5, if_false]
            unfold N.all
            rw [ho]; rfl
theorem ok_bare {k : Nat} {n : N} (h : Ok k n) : Ok k (bare n) := ⟨h.id, h.size, h.to, h.term, h.role, h.pos, h.el, h.val, h.bt, h.ts, h.com, h.app, h.asc, h.vsl, h.led, h.nxl, h.nx, h.mt⟩
theorem ok_out {k : Nat} {n : N} (h : Ok k n) (o : List G) : Ok k {n with out := o} := ⟨h.id, h.size, h.to, h.term, h.role, h.pos, h.el, h.val, h.bt, h.ts, h.com, h.app, h.asc, h.vsl, h.led, h.nxl, h.nx, h.mt⟩
theorem ok_term {k : Nat} {n : N} {x : G} (h : Ok k n) (hx : 0 ≤ x.term ∧ x.term ≤ 1000000000000000) : Ok k (termF n x) := by
  unfold termF
  split
  · next c =>
    exact ⟨h.id, h.size, h.to, hx, .inl rfl, fun h => absurd rfl h, h.el, h.val, by have := h.bt; simp only; omega, fun e he => by have := h.ts e he; simp only; omega, h.com, h.app, List.Pairwise.nil, by simp, fun h => by simp at h, by simp, by simp, by simp⟩
  · exact h
theorem p_handle {k : Nat} (n : N) (x : G) (h : Ok k n) (hk : k ≤ 1000) (hx : GOk x) : W f_member_Handle 0 [n.enc, x.enc] = some (handleF n x).all := by
  have hc := p_copied n (h.few (by omega))
  rw [e_f_member_Handle_0]
  unfold handleF
  have hi := p_ignored n.id n.size n.role n.term n.vote n.lead n.el n.to n.vs n.nx n.mt n.com n.app n.b n.bt n.es n.sn [] x hx.es
  have hs := p_stale n.id n.size n.role n.term n.vote n.lead n.el n.to n.vs n.nx n.mt n.com n.app n.b n.bt n.es n.sn [] x (by simp)
  have e : N.mk n.id n.size n.role n.term n.vote n.lead n.el n.to n.vs n.nx n.mt n.com n.app n.b n.bt n.es n.sn [] = bare n := rfl
  rw [e] at hi hs
  simp only [List.map_nil] at hi hs
  simp only [hc, calls_cells, O.mkagg_eq, Option.bind_some, hi, O.calls_1, O.cnd_bool, G.p3, O.lt_int, decide_eq_true_eq, hs, calls_all, O.gt_int]
  by_cases c0 : ignF (bare n) x = true
  · simp only [c0, if_true]; rfl
  · obtain ⟨i1, i2, i3, i4, i5, i6, i7, i8, i9, i10⟩ := ign_inv c0
    simp only [c0, Bool.false_eq_true, if_false]
    by_cases c1 : x.term < n.term
    · simp only [c1, if_true]; rfl
    · simp only [c1, if_false]
      have ht := ok_term (x := x) (ok_bare h) ⟨i5, i6⟩
      by_cases c2 : n.term < x.term
      · have e2 : termF (bare n) x = {bare n with role := 0, term := x.term, vote := -1, lead := -1, vs := [], nx := [], mt := []} := if_pos c2
        have hq := p_kind (termF (bare n) x) x ht hk hx (by rw [e2]; exact ⟨i3, i4⟩) (by rw [e2]; rfl)
        rw [if_pos c2, ← hq (.int 0) (.int 0) (.int 0) (.int 0) (.int 0) (.int 0) (.int 0) (.int 0) (.int 0) (.int 0) (.int 0) (.int 0) (.str ⟨#[]⟩), e2]
        rfl
      · have e2 : termF (bare n) x = bare n := if_neg c2
        have hq := p_kind (termF (bare n) x) x ht hk hx (by rw [e2]; exact ⟨i3, i4⟩) (by rw [e2]; rfl)
        rw [if_neg c2, ← hq (.int 0) (.int 0) (.int 0) (.int 0) (.int 0) (.int 0) (.int 0) (.int 0) (.int 0) (.int 0) (.int 0) (.int 0) (.str ⟨#[]⟩), e2]
        rfl
end Go.CT.Memb

namespace Go.CT.Memb
open Go.Proofs

/-! ## Proposals, compaction, restarts; one operation -/
def addF (n : N) (d : ByteArray) : N := {n with es := n.es ++ [⟨n.term, d⟩]}
def propF (n : N) (d : ByteArray) : N := if n.role ≠ 2 ∨ 20000 < d.size ∨ 400 ≤ n.es.length then bare n else sayAdv (ownF (addF (bare n) d))
def propE (n : N) (d : ByteArray) : Int := if n.role ≠ 2 then 17 else if 20000 < d.size then 4 else if 400 ≤ n.es.length then 15 else 0
theorem p_propose_2 (id size role term vote lead el to : Int) (vs nx mt : List Int) (com app b bt : Int) (es : List E) (sn : ByteArray) (out : List G) (y1 y2 y3 y4 y5 y6 y7 y8 y9 y10 y11 y12 y13 : IV) (h : tame ⟨b, bt, es⟩) (hid : 0 ≤ id ∧ id < size) (hs : size ≤ 7) (hnx : (nx.length : Int) = size) (hmt : (mt.length : Int) = size) (hmid : ∀ v ∈ nx, Mid v) (hcom : Mid com) (ho : out.length + 7 ≤ 1048576) :
    (calls (W f_member_node_own 0 [.int id, .int size, .int role, .int term, .int vote, .int lead, .int el, .int to, .list (vs.map IV.int), .list (nx.map IV.int), .list (mt.map IV.int), .int com, .int app, .int b, .int bt, .list (es.map E.enc), .str sn, .list (out.map G.enc)]) 18 fun x42 x43 x44 x45 x46 x47 x48 x49 x50 x51 x52 x53 x54 x55 x56 x57 x58 x59 =>
        calls (W f_member_node_broadcast 0 [x42, x43, x44, x45, x46, x47, x48, x49, x50, x51, x52, x53, x54, x55, x56, x57, x58, x59]) 18 fun x60 x61 x62 x63 x64 x65 x66 x67 x68 x69 x70 x71 x72 x73 x74 x75 x76 x77 =>
        (O.eq x61 (.int 1)).bind fun x78 =>
        cnd x78 (
          calls (W f_member_node_advance 0 [x60, x61, x62, x63, x64, x65, x66, x67, x68, x69, x70, x71, x72, x73, x74, x75, x76, x77]) 18 fun x79 x80 x81 x82 x83 x84 x85 x86 x87 x88 x89 x90 x91 x92 x93 x94 x95 x96 =>
          W f_member_Propose 1 [y1, y2, y3, y4, y5, y6, y7, y8, y9, y10, y11, y12, y13, x79, x80, x81, x82, x83, x84, x85, x86, x90, x91, x92, x93, x95, x87, x88, x89, x94, x96]) (
          W f_member_Propose 1 [y1, y2, y3, y4, y5, y6, y7, y8, y9, y10, y11, y12, y13, x60, x61, x62, x63, x64, x65, x66, x67, x71, x72, x73, x74, x76, x68, x69, x70, x75, x77])) = some (N.allE (sayAdv (ownF (N.mk id size role term vote lead el to vs nx mt com app b bt es sn out))) 0) := by
  have hla := mid_last h
  have hNX : NX size (nx.set id.toNat (lastI ⟨b, bt, es⟩ + 1)) := fun j hj => by
    have hj2 : j < (nx.set id.toNat (lastI ⟨b, bt, es⟩ + 1)).length := by rw [List.length_set]; omega
    refine ⟨_, List.getElem?_eq_getElem hj2, ?_⟩
    rcases List.mem_or_eq_of_mem_set (List.getElem_mem hj2) with g | g
    · exact hmid _ g
    · rw [g]; unfold Mid; omega
  have h1 := p_own id size role term vote lead el to vs nx mt com app b bt es sn out h hid.1 (by omega) (by omega)
  have h2 := p_broadcast id size role term vote lead el to vs (nx.set id.toNat (lastI ⟨b, bt, es⟩ + 1)) (mt.set id.toNat (lastI ⟨b, bt, es⟩)) com app b bt es sn out h hNX (by omega) ho
  have h3 := fun o => p_advance id size role term vote lead el to vs (nx.set id.toNat (lastI ⟨b, bt, es⟩ + 1)) (mt.set id.toNat (lastI ⟨b, bt, es⟩)) com app b bt es sn o h (by omega) hcom (by simp; omega)
  simp only [h1, calls_all, ownF, N.l, h2, O.eq_int, Option.bind_some, O.cnd_bool, decide_eq_true_eq, h3, e_f_member_Propose_1]
  unfold sayAdv say
  split <;> rfl
theorem p_propose {k : Nat} (n : N) (d : ByteArray) (h : Ok k n) (hk : k ≤ 1000) : W f_member_Propose 0 [n.enc, .str d] = some (N.allE (propF n d) (propE n d)) := by
  have hc := p_copied n (h.few (by omega))
  rw [e_f_member_Propose_0]
  unfold propF propE
  by_cases c0 : n.role = 2
  · by_cases c1 : 20000 < d.size
    · have c1' : (20000 : Int) < (d.size : Int) := by omega
      have hd : decide (n.role = 2) = true := by simp [c0]
      rw [if_pos (.inr (.inl c1)), if_neg (by simp [c0]), if_pos c1]
      simp only [hc, calls_cells, O.ne_int, hd, Bool.not_true, Option.bind_some, O.cnd_bool, Bool.false_eq_true, if_false, O.slen_str, O.gt_int, c1', decide_true, if_true]
      rfl
    · have c1' : ¬ (20000 : Int) < (d.size : Int) := by omega
      have hd : decide (n.role = 2) = true := by simp [c0]
      by_cases c2 : 400 ≤ n.es.length
      · have c2' : (400 : Int) ≤ (n.es.length : Int) := by omega
        rw [if_pos (.inr (.inr c2)), if_neg (by simp [c0]), if_neg c1, if_pos c2]
        simp only [hc, calls_cells, O.ne_int, hd, Bool.not_true, Option.bind_some, O.cnd_bool, Bool.false_eq_true, if_false, O.slen_str, O.gt_int, c1', decide_false, O.len_list, List.length_map, O.ge_int, c2', decide_true, if_true]
        rfl
      · have c2' : ¬ (400 : Int) ≤ (n.es.length : Int) := by omega
        have hl := h.led c0
        have ha := p_add n.id n.size n.role n.term n.vote n.lead n.el n.to n.vs n.nx n.mt n.com n.app n.b n.bt n.es n.sn [] d (by have := h.len; omega)
        have hp := fun y1 y2 y3 y4 y5 y6 y7 y8 y9 y10 y11 y12 y13 => p_propose_2 n.id n.size n.role n.term n.vote n.lead n.el n.to n.vs n.nx n.mt n.com n.app n.b n.bt (n.es ++ [⟨n.term, d⟩]) n.sn [] y1 y2 y3 y4 y5 y6 y7 y8 y9 y10 y11 y12 y13 (tame_add h.tame (by show n.es.length < 400; omega)) h.id h.size hl.1 hl.2 (fun v hv => by have := h.nx v hv; unfold Mid; omega) h.mid (by simp)
        simp only [List.map_nil] at ha hp
        rw [if_neg (by omega), if_neg (by simp [c0]), if_neg c1, if_neg c2]
        simp only [hc, calls_cells, O.ne_int, hd, Bool.not_true, Option.bind_some, O.cnd_bool, Bool.false_eq_true, if_false, O.slen_str, O.gt_int, c1', decide_false, O.len_list, List.length_map, O.ge_int, c2', ha, calls_all, List.map_nil]
        rw [hp]
        rfl
  · rw [if_pos (.inl c0), if_pos c0]
    simp only [hc, calls_cells, O.ne_int, c0, decide_false, Bool.not_false, Option.bind_some, O.cnd_bool, if_true]
    rfl
def compF (n : N) (i : Int) (s : ByteArray) : N := if i < n.b ∨ n.app < i ∨ 1000000000000000 < i then bare n else {logF (bare n) (compactL n.l i ((termAt n.l i).getD 0)) with sn := s}
def compE (n : N) (i : Int) : Int := if i < n.b ∨ n.app < i ∨ 1000000000000000 < i then 5 else 0
theorem termAt_some {l : L} {i : Int} (h1 : l.b ≤ i) (h2 : i ≤ lastI l) : ∃ t, termAt l i = some t := by
  unfold termAt
  by_cases c : i = l.b
  · exact ⟨l.bt, if_pos c⟩
  · rw [if_neg c, if_neg (by omega)]
    unfold lastI at h2
    have hlt : (i - l.b).toNat - 1 < l.es.length := by omega
    exact ⟨l.es[(i - l.b).toNat - 1].t, by rw [List.getElem?_eq_getElem hlt]; rfl⟩
theorem p_compact {k : Nat} (n : N) (i : Int) (s : ByteArray) (h : Ok k n) (hk : k ≤ 1000) : W f_member_Compact 0 [n.enc, .int i, .str s] = some (N.cellsE (compF n i s) (compE n i)) := by
  have hc := p_copied n (h.few (by omega))
  have hl := p_compactL n.b n.bt n.es i h.tame
  rw [N.enc_def] at hc
  rw [e_f_member_Compact_0]
  unfold compF compE
  simp only [hc, calls_cells, N.enc_def, O.proj_agg, List.getElem?_cons_succ, List.getElem?_cons_zero, Option.bind_some, O.lt_int, O.gt_int, O.cnd_bool, ite_some, ite_ivbool, O.projs_agg, List.drop_succ_cons, List.drop_zero, List.take_succ_cons, List.take_zero, hl]
  by_cases c1 : i < n.b
  · simp only [c1, decide_true, if_true, true_or]; rfl
  · by_cases c2 : n.app < i
    · simp only [c1, c2, decide_true, decide_false, if_true, Bool.false_eq_true, if_false, true_or, or_true]; rfl
    · by_cases c3 : 1000000000000000 < i
      · simp only [c1, c2, c3, decide_true, decide_false, if_true, Bool.false_eq_true, if_false, or_true]; rfl
      · have ha := h.app
        have hcm := h.com
        obtain ⟨t, ht⟩ := termAt_some (l := n.l) (i := i) (by show n.b ≤ i; omega) (by omega)
        have ht2 : termAt ⟨n.b, n.bt, n.es⟩ i = some t := ht
        simp only [c1, c2, c3, decide_false, Bool.false_eq_true, if_false, or_self, compactIV, ht2, O.calls_4, O.ne_int, decide_true, Bool.not_true, Option.bind_some, O.cnd_bool, ht, Option.getD_some]
        rfl
def restF (n : N) : N := {bare n with role := 0, lead := -1, el := 0, vs := [], nx := [], mt := [], com := n.b, app := n.b}
theorem p_restart {k : Nat} (n : N) (h : Ok k n) (hk : k ≤ 1000) : W f_member_Restart 0 [n.enc] = some (restF n).cells := by
  have hc := p_copied n (h.few (by omega))
  rw [e_f_member_Restart_0]
  simp only [hc, calls_cells]
  rfl
def start (i s t : Int) : N := ⟨i, s, 0, 0, -1, -1, 0, t, [], [], [], 0, 0, 0, 0, [], ⟨#[]⟩, []⟩
def startOk (i s t : Int) : Bool := decide (1 ≤ s ∧ s ≤ 7 ∧ 0 ≤ i ∧ i < s ∧ 1 ≤ t ∧ t ≤ 1000000000000)
theorem p_new (i s t : Int) : W f_member_New 0 [.int i, .int s, .int t] = some (if startOk i s t = true then N.cellsE (start i s t) 0 else N.cellsE ⟨0, 0, 0, 0, 0, 0, 0, 0, [], [], [], 0, 0, 0, 0, [], ⟨#[]⟩, []⟩ 1) := by
  rw [e_f_member_New_0]
  unfold startOk
  simp only [O.lt_int, O.gt_int, O.ge_int, Option.bind_some, O.cnd_bool, ite_some, ite_ivbool, e_f_rlog_New_0, O.calls_3, decide_eq_true_eq]
  by_cases c1 : s < 1
  · rw [if_neg (c := _ ∧ _) (by omega)]; simp only [c1, decide_true, if_true]; rfl
  · by_cases c2 : 7 < s
    · rw [if_neg (c := _ ∧ _) (by omega)]; simp only [c1, c2, decide_true, decide_false, Bool.false_eq_true, if_true, if_false]; rfl
    · by_cases c3 : i < 0
      · rw [if_neg (c := _ ∧ _) (by omega)]; simp only [c1, c2, c3, decide_true, decide_false, Bool.false_eq_true, if_true, if_false]; rfl
      · by_cases c4 : s ≤ i
        · rw [if_neg (c := _ ∧ _) (by omega)]; simp only [c1, c2, c3, c4, decide_true, decide_false, Bool.false_eq_true, if_true, if_false]; rfl
        · by_cases c5 : t < 1
          · rw [if_neg (c := _ ∧ _) (by omega)]; simp only [c1, c2, c3, c4, c5, decide_true, decide_false, Bool.false_eq_true, if_true, if_false]; rfl
          · by_cases c6 : 1000000000000 < t
            · rw [if_neg (c := _ ∧ _) (by omega)]; simp only [c1, c2, c3, c4, c5, c6, decide_true, decide_false, Bool.false_eq_true, if_true, if_false]; rfl
            · rw [if_pos (c := _ ∧ _) (by omega)]; simp only [c1, c2, c3, c4, c5, c6, decide_false, Bool.false_eq_true, if_false]; rfl
/-- An operation. -/
structure Act where
  kind : Int
  x : G
  d : ByteArray
  i : Int
def Act.enc (a : Act) : IV := .agg [.int a.kind, .int a.x.kind, .int a.x.fr, .int a.x.to, .int a.x.term, .int a.x.ix, .int a.x.lt, .int a.x.com, .bool a.x.ok, .list (a.x.es.map E.enc), .str a.x.sn, .str a.d, .int a.i]
def doF (n : N) (a : Act) : N :=
  if a.kind = 0 then tickF n else if a.kind = 1 then handleF n a.x else if a.kind = 2 then propF n a.d else if a.kind = 3 then compF n a.i a.d else restF n
def doE (n : N) (a : Act) : Int :=
  if a.kind = 0 then 0 else if a.kind = 1 then 0 else if a.kind = 2 then propE n a.d else if a.kind = 3 then compE n a.i else 0
theorem comp_out (n : N) (i : Int) (s : ByteArray) : (compF n i s).out = [] := by unfold compF; split <;> rfl
theorem Act.pr0 (a : Act) : O.proj 0 a.enc = some (.int a.kind) := rfl
theorem Act.prx (a : Act) : O.projs 1 10 a.enc = some a.x.enc := rfl
theorem Act.prd (a : Act) : O.proj 11 a.enc = some (.str a.d) := rfl
theorem Act.pri (a : Act) : O.proj 12 a.enc = some (.int a.i) := rfl
theorem p_do {k : Nat} (n : N) (a : Act) (h : Ok k n) (hk : k ≤ 1000) (hx : GOk a.x) : W f_law26_do 0 [n.enc, a.enc] = some (N.allE (doF n a) (doE n a)) := by
  rw [e_f_law26_do_0]
  unfold doF doE
  have q0 := p_tick n h hk
  have q1 := p_handle n a.x h hk hx
  have q2 := p_propose n a.d h hk
  have q3 := p_compact n a.i a.d h hk
  have q4 := p_restart n h hk
  simp only [Act.pr0, Act.prx, Act.prd, Act.pri, Option.bind_some, O.eq_int, O.cnd_bool, decide_eq_true_eq, q0, q1, q2, q3, q4, calls_all, calls_allE, calls_cellsE, calls_cells]
  by_cases c0 : a.kind = 0
  · simp only [c0, if_true]; rfl
  · by_cases c1 : a.kind = 1
    · simp only [c0, c1, if_true, if_false]; rfl
    · by_cases c2 : a.kind = 2
      · simp only [c0, c1, c2, if_true, if_false]; rfl
      · by_cases c3 : a.kind = 3
        · simp only [if_neg c0, if_neg c1, if_neg c2, if_pos c3]
          unfold N.allE
          rw [comp_out]; rfl
        · simp only [c0, c1, c2, c3, if_false]
          rfl
end Go.CT.Memb

namespace Go.CT.Memb
open Go.Proofs

/-! ## What is merged -/
theorem merge_keep : ∀ (es out : List E) (a c : Nat), a ≤ out.length → c ≤ out.length → (∀ (j : Nat) (h : j < es.length) (h' : a + j < out.length), a + j < c → out[a + j].t = es[j].t) →
    (mergeF out a es).take c = out.take c ∧ c ≤ (mergeF out a es).length
  | [], out, a, c, _, hc, _ => ⟨rfl, hc⟩
  | e :: es, out, a, c, ha, hc, h => by
    have cut : c ≤ a → (out.take a ++ e :: es).take c = out.take c ∧ c ≤ (out.take a ++ e :: es).length := fun hca => by
      refine ⟨?_, by simp; omega⟩
      rw [List.take_append_of_le_length (by simp; omega), List.take_take, Nat.min_eq_left hca]
    unfold mergeF
    split
    · next x hx =>
      obtain ⟨hlt, rfl⟩ := List.getElem?_eq_some_iff.1 hx
      split
      · refine merge_keep es out (a + 1) c (by omega) hc fun j hj hj' hjc => ?_
        have := h (j + 1) (by simpa using hj) (by omega) (by omega)
        simp only [List.getElem_cons_succ] at this
        rw [← this]
        congr 2; omega
      · next hne =>
        refine cut (Nat.le_of_not_lt fun hac => hne ?_)
        exact h 0 (by simp) (by simpa using hlt) (by simpa using hac)
    · next hx =>
      rw [List.getElem?_eq_none_iff] at hx
      exact cut (by omega)
theorem merge_len : ∀ (es out : List E) (a : Nat), a ≤ out.length → a + es.length ≤ (mergeF out a es).length
  | [], out, a, h => by simpa [mergeF] using h
  | e :: es, out, a, h => by
    unfold mergeF
    split
    · next x hx =>
      have hlt := (List.getElem?_eq_some_iff.1 hx).1
      split
      · have := merge_len es out (a + 1) (by omega)
        simp only [List.length_cons]; omega
      · simp; omega
    · simp; omega
theorem merge_mem : ∀ (es out : List E) (a : Nat) (x : E), x ∈ mergeF out a es → x ∈ out ∨ x ∈ es
  | [], out, a, x, h => .inl h
  | e :: es, out, a, x, h => by
    have cut : x ∈ out.take a ++ e :: es → x ∈ out ∨ x ∈ e :: es := fun h => by
      rcases List.mem_append.1 h with h | h
      · exact .inl (List.mem_of_mem_take h)
      · exact .inr h
    unfold mergeF at h
    split at h
    · split at h
      · rcases merge_mem es out (a + 1) x h with h | h
        · exact .inl h
        · exact .inr (List.mem_cons_of_mem _ h)
      · exact cut h
    · exact cut h
/-- The index i of a log holds an entry. -/
theorem termAt_get {l : L} {i t : Int} (h : termAt l i = some t) (hb : l.b < i) : ∃ hlt : (i - l.b).toNat - 1 < l.es.length, l.es[(i - l.b).toNat - 1].t = t := by
  unfold termAt at h
  rw [if_neg (by omega), if_neg (by omega), Option.map_eq_some_iff] at h
  obtain ⟨e, he, rfl⟩ := h
  obtain ⟨hlt, rfl⟩ := List.getElem?_eq_some_iff.1 he
  exact ⟨hlt, rfl⟩
theorem contra_inv (n : N) : ∀ (es : List E) (i : Int), contra n i es = false → ∀ (j : Nat) (h : j < es.length), n.b < i + j → i + j ≤ n.com → (termAt n.l (i + j)).isSome = true → (termAt n.l (i + j)).getD 0 = es[j].t
  | [], _, _, j, h, _, _, _ => by simp at h
  | e :: es, i, hc, j, h, h1, h2, h3 => by
    unfold contra at hc
    split at hc
    · next c => omega
    · split at hc
      · cases hc
      · next c =>
        cases j with
        | zero =>
          simp only [Int.cast_ofNat_Int, Int.add_zero] at h1 h2 h3 ⊢
          simp only [List.getElem_cons_zero]
          rcases Decidable.em ((termAt n.l i).getD 0 = e.t) with d | d
          · exact d
          · exact absurd ⟨h1, h3, d⟩ c
        | succ j =>
          have e1 : i + ((j + 1 : Nat) : Int) = i + 1 + j := by omega
          rw [e1] at h1 h2 h3 ⊢
          exact contra_inv n es (i + 1) hc j (by simpa using h) h1 h2 h3
/-- What Append leaves of what is committed. -/
theorem append_facts (n : N) (prev pt : Int) (e : List E) (hv : valid n.l = true) (hc : n.b ≤ n.com ∧ n.com ≤ lastI n.l) (hok : (appendF n.l prev pt e).ok = true) (hcon : contra n (prev + 1) e = false) :
    (appendF n.l prev pt e).l.b = n.b ∧ (appendF n.l prev pt e).l.bt = n.bt ∧ (appendF n.l prev pt e).n ≤ lastI (appendF n.l prev pt e).l ∧ (appendF n.l prev pt e).l.es.take (n.com - n.b).toNat = n.es.take (n.com - n.b).toNat ∧
      n.com ≤ lastI (appendF n.l prev pt e).l ∧ ∀ x ∈ (appendF n.l prev pt e).l.es, x ∈ n.es ∨ x ∈ e := by
  have hf := (valid_inv hv).1
  have hl400 : n.es.length ≤ 400 := hf.2.2.2.2.2
  have hlast : lastI n.l = n.b + n.es.length := rfl
  have hA : (prev < 0 ∨ pt < 0 ∨ rises e (if 1 < pt then pt else 1) = false) ∨ ¬ (prev < 0 ∨ pt < 0 ∨ rises e (if 1 < pt then pt else 1) = false) := Decidable.em _
  rcases hA with c0 | c0
  · unfold appendF at hok; rw [if_pos c0] at hok; cases hok
  have hB : okAll n.l.bt (e.drop (n.l.b - prev).toNat) = false ∨ ¬ okAll n.l.bt (e.drop (n.l.b - prev).toNat) = false := Decidable.em _
  rcases hB with c1 | c1
  · unfold appendF at hok; rw [if_neg c0, if_pos c1] at hok; cases hok
  by_cases hfit : fits n.l prev pt
  rotate_left
  · unfold appendF at hok; rw [if_neg c0, if_neg c1, if_pos hfit] at hok; cases hok
  have hE : appendF n.l prev pt e = ⟨⟨n.l.b, n.l.bt, (mergeF n.l.es (prev - n.l.b).toNat (e.drop (n.l.b - prev).toNat)).take 400⟩, min (prev + e.length) (n.l.b + 400), true⟩ := by
    unfold appendF; rw [if_neg c0, if_neg c1, if_neg (fun h => h hfit)]
  rw [hE]
  show n.b = n.b ∧ n.bt = n.bt ∧ min (prev + e.length) (n.b + 400) ≤ n.b + (((mergeF n.es (prev - n.b).toNat (e.drop (n.b - prev).toNat)).take 400).length : Nat) ∧ ((mergeF n.es (prev - n.b).toNat (e.drop (n.b - prev).toNat)).take 400).take (n.com - n.b).toNat = _ ∧ n.com ≤ n.b + (((mergeF n.es (prev - n.b).toNat (e.drop (n.b - prev).toNat)).take 400).length : Nat) ∧ _
  have ha : (prev - n.b).toNat ≤ n.es.length := by
    by_cases cb : n.b < prev
    · have := termAt_le (b := n.b) (bt := n.bt) (es := n.es) (hfit cb)
      omega
    · omega
  have hml := merge_len (e.drop (n.b - prev).toNat) n.es (prev - n.b).toNat ha
  rw [List.length_drop] at hml
  obtain ⟨hk1, hk2⟩ := merge_keep (e.drop (n.b - prev).toNat) n.es (prev - n.b).toNat (n.com - n.b).toNat ha (by omega) (fun j hj hj' hjc => by
    rw [List.getElem_drop]
    rw [List.length_drop] at hj
    have hj2 : (n.b - prev).toNat + j < e.length := by omega
    have hidx : prev + 1 + (((n.b - prev).toNat + j : Nat) : Int) = n.b + ((prev - n.b).toNat + j : Nat) + 1 := by omega
    obtain ⟨t, ht⟩ := termAt_some (l := n.l) (i := prev + 1 + (((n.b - prev).toNat + j : Nat) : Int)) (by show n.b ≤ _; omega) (by omega)
    have hin := contra_inv n e (prev + 1) hcon ((n.b - prev).toNat + j) hj2 (by omega) (by omega) (by rw [ht]; rfl)
    rw [ht] at hin
    simp only [Option.getD_some] at hin
    obtain ⟨hlt, hg⟩ := termAt_get ht (by show n.b < _; omega)
    have hlt' : (prev + 1 + (((n.b - prev).toNat + j : Nat) : Int) - n.b).toNat - 1 < n.es.length := hlt
    have hg' : n.es[(prev + 1 + (((n.b - prev).toNat + j : Nat) : Int) - n.b).toNat - 1].t = t := hg
    rw [← hin, ← hg']
    congr 2; omega)
  refine ⟨rfl, rfl, ?_, ?_, ?_, fun x hx => ?_⟩
  · rw [List.length_take]; omega
  · rw [List.take_take, Nat.min_eq_left (by omega)]; exact hk1
  · rw [List.length_take]; omega
  · rcases merge_mem _ _ _ _ (List.mem_of_mem_take hx) with h | h
    · exact .inl h
    · exact .inr (List.mem_of_mem_drop h)
theorem endT_le {t : Int} : ∀ (xs : List E) (m : Int), m ≤ t → (∀ e ∈ xs, e.t ≤ t) → endT xs m ≤ t
  | [], _, h, _ => h
  | e :: es, _, _, h => endT_le es e.t (h e (by simp)) fun x hx => h x (by simp [hx])
theorem valid_of {l : L} (h1 : fine l) (h2 : rises l.es (if 1 < l.bt then l.bt else 1) = true) : valid l = true := by
  unfold valid
  rw [h2, decide_eq_true h1]; rfl
theorem valid_add {l : L} {t : Int} {d : ByteArray} (h : valid l = true) (hb : l.bt ≤ t) (hts : ∀ e ∈ l.es, e.t ≤ t) (ht : 1 ≤ t ∧ t ≤ 1000000000000000) (hl : l.es.length < 400) : valid ⟨l.b, l.bt, l.es ++ [⟨t, d⟩]⟩ = true := by
  obtain ⟨⟨f1, f2, f3, f4, f5, f6⟩, hr⟩ := valid_inv h
  refine valid_of ⟨f1, f2, f3, f4, f5, by simp; omega⟩ ?_
  rw [rises_append, hr, Bool.true_and]
  have := endT_le (t := t) l.es (if 1 < l.bt then l.bt else 1) (by split <;> omega) hts
  simp only [rises]
  rw [if_neg (by omega)]
theorem lastI_add (b bt : Int) (es : List E) (e : E) : lastI ⟨b, bt, es ++ [e]⟩ = lastI ⟨b, bt, es⟩ + 1 := by simp [lastI]; omega
theorem rises_ge {m : Int} : ∀ (xs : List E), rises xs m = true → ∀ e ∈ xs, m ≤ e.t ∧ e.t ≤ 1000000000000000
  | [], _, e, he => by simp at he
  | x :: xs, h, e, he => by
    simp only [rises] at h
    split at h
    · cases h
    · next c =>
      rcases List.mem_cons.1 he with rfl | he
      · omega
      · have := rises_ge xs h e he; omega
theorem rises_from {m : Int} (k : Nat) (xs : List E) (h : rises xs m = true) (hk : 0 < k) (hk2 : k ≤ xs.length) (m' : Int) (hm : m' = (xs[k - 1]'(by omega)).t) : rises (xs.drop k) m' = true := by
  have e := List.take_append_drop k xs
  rw [← e, rises_append, Bool.and_eq_true] at h
  have : endT (xs.take k) m = m' := by
    rw [hm]
    refine endT_get _ _ _ ?_
    rw [List.length_take, Nat.min_eq_left hk2, List.getElem?_take, if_pos (by omega), List.getElem?_eq_getElem (by omega)]
  rw [this] at h
  exact h.2
/-- A log without the entries up to an index. -/
theorem valid_compact {l : L} {i t : Int} (h : valid l = true) (hi : l.b ≤ i ∧ i ≤ lastI l) (hm : i ≤ 1000000000000000) (ht : termAt l i = some t) : valid (compactL l i t) = true := by
  obtain ⟨⟨f1, f2, f3, f4, f5, f6⟩, hr⟩ := valid_inv h
  by_cases c : i = l.b
  · have : t = l.bt := by unfold termAt at ht; rw [if_pos c] at ht; injection ht with ht; exact ht.symm
    subst c this
    unfold compactL
    simp only [Int.sub_self, Int.toNat_zero, List.drop_zero]
    exact h
  · obtain ⟨hlt, hg⟩ := termAt_get ht (by omega)
    have hrg := rises_ge l.es hr _ (List.getElem_mem hlt)
    rw [hg] at hrg
    have ht1 : 1 ≤ t := by have := hrg.1; split at this <;> omega
    refine valid_of ⟨by show 0 ≤ i; omega, hm, by show 0 ≤ t; omega, hrg.2, ?_, by show (l.es.drop _).length ≤ 400; rw [List.length_drop]; omega⟩ ?_
    · show i = 0 ↔ t = 0
      omega
    · show rises (l.es.drop (i - l.b).toNat) (if 1 < t then t else 1) = true
      have e : (if 1 < t then t else 1) = t := by split <;> omega
      rw [e]
      exact rises_from _ l.es hr (by omega) (by omega) t hg.symm
theorem lastI_compact {l : L} {i t : Int} (h : l.b ≤ i ∧ i ≤ lastI l) : lastI (compactL l i t) = lastI l := by
  unfold lastI compactL at *
  simp only [List.length_drop]
  omega
end Go.CT.Memb

namespace Go.CT.Memb
open Go.Proofs

/-! ## What holds after each operation -/
/-- The entries up to c that both logs hold are the same. -/
def Keep (c : Int) (n x : N) : Prop := ∀ i : Int, n.b < i → x.b < i → i ≤ c → i ≤ lastI x.l ∧ n.es[(i - n.b).toNat - 1]? = x.es[(i - x.b).toNat - 1]?
structure Step (n x : N) : Prop where
  id : x.id = n.id
  size : x.size = n.size
  keep : Keep n.com n x
  up : n.com ≤ x.com
  term : n.term ≤ x.term
  leads : n.role = 2 → x.role = 2 → x.term = n.term ∧ lastI n.l ≤ lastI x.l ∧ Keep (lastI n.l) n x
  commits : x.role = 2 → n.com < x.com → termAt x.l x.com = some x.term ∧ x.size < 2 * (cnt x.mt x.com : Int)
  dur : x.term = n.term → n.vote = -1 ∨ x.vote = n.vote
  self : (x.role = 1 ∧ n.role ≠ 1) ∨ (x.role = 2 ∧ n.role = 0) ∨ (x.role = 1 ∧ n.term < x.term) → x.vote = x.id
  said : ∀ y ∈ x.out, y.kind = 2 → y.ok = true → y.term = x.term ∧ y.to = x.vote ∧ 0 ≤ y.to
theorem keep_app {n x : N} {ys : List E} (hb : x.b = n.b) (he : x.es = n.es ++ ys) : Keep (lastI n.l) n x := fun i h1 _ h3 => by
  have h4 : i ≤ n.b + n.es.length := h3
  have : lastI x.l = n.b + (n.es.length + ys.length : Nat) := by unfold lastI N.l; simp only [hb, he, List.length_append]
  refine ⟨by omega, ?_⟩
  rw [hb, he, List.getElem?_append_left (by omega)]
theorem keep_same {n x : N} (hb : x.b = n.b) (he : x.es = n.es) : Keep (lastI n.l) n x := keep_app (ys := []) hb (by simp [he])
theorem Keep.le {n x : N} {c d : Int} (h : Keep c n x) (hd : d ≤ c) : Keep d n x := fun i h1 h2 h3 => h i h1 h2 (by omega)
theorem kind_appMsg (n : N) (j i : Int) : (appMsg n j i).kind ≠ 2 := by
  unfold appMsg
  split <;> simp
theorem kind_msgs (n : N) : ∀ (k i : Nat), ∀ y ∈ msgs n k i, y.kind ≠ 2
  | 0, _, y, h => by simp [msgs] at h
  | k + 1, i, y, h => by
    rw [msgs] at h
    rcases List.mem_append.1 h with h | h
    · split at h
      · simp at h
      · simp only [List.mem_singleton] at h
        rw [h]
        exact kind_appMsg _ _ _
    · exact kind_msgs n k (i + 1) y h
theorem kind_asks (n : N) (ix lt : Int) : ∀ (k i : Nat), ∀ y ∈ asks n ix lt k i, y.kind ≠ 2
  | 0, _, y, h => by simp [asks] at h
  | k + 1, i, y, h => by
    rw [asks] at h
    rcases List.mem_append.1 h with h | h
    · split at h
      · simp at h
      · simp only [List.mem_singleton] at h
        rw [h]
        simp
    · exact kind_asks n ix lt k (i + 1) y h
theorem adv_shape (m : N) (ha : m.app = m.com) (hc : m.com ≤ lastI m.l) : ∃ c : Int, advF m = {m with com := c, app := c} ∧ m.com ≤ c ∧ c ≤ lastI m.l ∧ (m.com < c → termAt m.l c = some m.term ∧ m.size < 2 * (cnt m.mt c : Int)) := by
  rcases advF_form m with h | ⟨c, h1, h2, h3, h4, h5⟩
  · refine ⟨m.com, ?_, by omega, hc, fun h => by omega⟩
    rw [h]
    conv => lhs; rw [← N.eta m, ha]
  · exact ⟨c, h5, by omega, h2, fun _ => ⟨h3, h4⟩⟩
theorem sayAdv_shape (m : N) (ha : m.app = m.com) (hc : m.com ≤ lastI m.l) : ∃ (c : Int) (o : List G), sayAdv m = {m with com := c, app := c, out := o} ∧ m.com ≤ c ∧ c ≤ lastI m.l ∧ (m.com < c → termAt m.l c = some m.term ∧ m.size < 2 * (cnt m.mt c : Int)) ∧ ∀ y ∈ o, y ∈ m.out ∨ y.kind ≠ 2 := by
  have hout : ∀ y ∈ m.out ++ bcast m, y ∈ m.out ∨ y.kind ≠ 2 := fun y hy => by
    rcases List.mem_append.1 hy with h | h
    · exact .inl h
    · exact .inr (kind_msgs m _ _ y h)
  unfold sayAdv
  split
  · obtain ⟨c, h1, h2, h3, h4⟩ := adv_shape (say m) ha hc
    exact ⟨c, m.out ++ bcast m, h1, h2, h3, h4, hout⟩
  · refine ⟨m.com, m.out ++ bcast m, ?_, by omega, hc, fun h => by omega, hout⟩
    have key : ∀ a : Int, a = m.com → ({m with app := a, out := m.out ++ bcast m} : N) = {m with com := m.com, app := m.com, out := m.out ++ bcast m} := by
      rintro _ rfl; rfl
    exact key m.app ha
theorem ok_com {k : Nat} {n : N} (h : Ok k n) (c : Int) (o : List G) (h1 : n.com ≤ c) (h2 : c ≤ lastI n.l) : Ok k {n with com := c, app := c, out := o} :=
  ⟨h.id, h.size, h.to, h.term, h.role, h.pos, h.el, h.val, h.bt, h.ts, ⟨by have := h.com; show n.b ≤ c; omega, h2⟩, rfl, h.asc, h.vsl, h.led, h.nxl, h.nx, h.mt⟩
theorem ok_mono {k k' : Nat} {n : N} (h : Ok k n) (hk : k ≤ k') : Ok k' n :=
  ⟨h.id, h.size, h.to, h.term, h.role, h.pos, ⟨h.el.1, by have := h.el.2; omega⟩, h.val, h.bt, h.ts, h.com, h.app, h.asc, by have := h.vsl; omega, h.led, h.nxl, h.nx, h.mt⟩
theorem mem_set {l : List Int} {i : Nat} {v w : Int} (h : w ∈ l.set i v) : w ∈ l ∨ w = v := List.mem_or_eq_of_mem_set h
theorem last_bd {l : L} (h : fine l) : 0 ≤ lastI l ∧ lastI l ≤ 1000000000000400 := by
  obtain ⟨f1, f2, f3, f4, f5, f6⟩ := h
  unfold lastI; omega
theorem ok_own {k : Nat} {n : N} (h : Ok k n) : Ok k (ownF n) := by
  have hl := last_bd h.fine
  refine ⟨h.id, h.size, h.to, h.term, h.role, h.pos, h.el, h.val, h.bt, h.ts, h.com, h.app, h.asc, h.vsl, fun hr => ?_, ?_, fun v hv => ?_, fun v hv => ?_⟩
  · unfold ownF; simp only [List.length_set]; exact h.led hr
  · unfold ownF; simp only [List.length_set]; exact h.nxl
  · rcases mem_set hv with g | g
    · exact h.nx v g
    · omega
  · rcases mem_set hv with g | g
    · exact h.mt v g
    · omega
/-- One more entry. -/
theorem ok_add {k : Nat} {n : N} (h : Ok k n) (ht : 1 ≤ n.term) (hl : n.es.length < 400) (d : ByteArray) : Ok k (addF n d) := by
  have hi := lastI_add n.b n.bt n.es ⟨n.term, d⟩
  refine ⟨h.id, h.size, h.to, h.term, h.role, h.pos, h.el, valid_add h.val h.bt h.ts ⟨ht, h.term.2⟩ hl, h.bt, fun e he => ?_, ⟨h.com.1, ?_⟩, h.app, h.asc, h.vsl, h.led, h.nxl, h.nx, h.mt⟩
  · rcases List.mem_append.1 he with g | g
    · exact h.ts e g
    · simp at g; subst g; exact Int.le_refl _
  · have h1 : n.com ≤ lastI ⟨n.b, n.bt, n.es⟩ := h.com.2
    show n.com ≤ lastI ⟨n.b, n.bt, n.es ++ [⟨n.term, d⟩]⟩
    omega
theorem ok_lead0 {k : Nat} {n : N} (h : Ok k n) (ht : 1 ≤ n.term) : Ok k (lead0 n) := by
  have hl := last_bd h.fine
  have hid := h.id
  have hs := h.size
  refine ⟨h.id, h.size, h.to, h.term, .inr (.inr rfl), fun _ => ht, ⟨Int.le_refl _, by show (0 : Int) ≤ k; omega⟩, h.val, h.bt, h.ts, h.com, h.app, List.Pairwise.nil, by simp [lead0], fun _ => ?_, ?_, fun v hv => ?_, fun v hv => ?_⟩
  · unfold lead0; simp only [List.length_replicate]; omega
  · unfold lead0; simp only [List.length_replicate]; omega
  · have := (List.mem_replicate.1 hv).2; omega
  · have := (List.mem_replicate.1 hv).2; omega
theorem ok_lead1 {k : Nat} {n : N} (h : Ok k n) (ht : 1 ≤ n.term) : Ok k (lead1 n) := by
  unfold lead1
  split
  · next c => exact ok_add (ok_lead0 h ht) ht c ⟨#[]⟩
  · exact ok_lead0 h ht
theorem lead1_es (n : N) : ∃ ys, (lead1 n).es = n.es ++ ys := by
  unfold lead1
  split
  · exact ⟨_, rfl⟩
  · exact ⟨[], by simp [lead0]⟩
theorem lead1_rest (n : N) : (lead1 n).id = n.id ∧ (lead1 n).size = n.size ∧ (lead1 n).role = 2 ∧ (lead1 n).term = n.term ∧ (lead1 n).vote = n.vote ∧ (lead1 n).com = n.com ∧ (lead1 n).app = n.app ∧ (lead1 n).b = n.b ∧ (lead1 n).bt = n.bt ∧ (lead1 n).out = n.out := by
  unfold lead1
  split <;> exact ⟨rfl, rfl, rfl, rfl, rfl, rfl, rfl, rfl, rfl, rfl⟩
/-- What leading makes of a member: own, tell all, advance. -/
structure Led (n x : N) : Prop where
  id : x.id = n.id
  size : x.size = n.size
  role : x.role = 2
  term : x.term = n.term
  vote : x.vote = n.vote
  b : x.b = n.b
  es : ∃ ys, x.es = n.es ++ ys
  up : n.com ≤ x.com
  commits : n.com < x.com → termAt x.l x.com = some x.term ∧ x.size < 2 * (cnt x.mt x.com : Int)
  out : ∀ y ∈ x.out, y ∈ n.out ∨ y.kind ≠ 2
theorem led_of {k : Nat} {n m : N} (h : Ok k m) (h1 : m.id = n.id ∧ m.size = n.size ∧ m.role = 2 ∧ m.term = n.term ∧ m.vote = n.vote ∧ m.com = n.com ∧ m.b = n.b ∧ m.out = n.out) (h2 : ∃ ys, m.es = n.es ++ ys) : Ok k (sayAdv (ownF m)) ∧ Led n (sayAdv (ownF m)) := by
  have ho := ok_own h
  obtain ⟨c, o, e, g1, g2, g3, g4⟩ := sayAdv_shape (ownF m) ho.app ho.com.2
  obtain ⟨a1, a2, a3, a4, a5, a6, a7, a8⟩ := h1
  refine ⟨by rw [e]; exact ok_com ho c o g1 g2, ?_⟩
  rw [e]
  refine ⟨a1, a2, a3, a4, a5, a7, h2, ?_, fun hc => ?_, fun y hy => ?_⟩
  · show n.com ≤ c
    rw [← a6]; exact g1
  · exact g3 (by show m.com < c; rw [a6]; exact hc)
  · rcases g4 y hy with g | g
    · exact .inl (a8 ▸ g)
    · exact .inr g
theorem ok_lead {k : Nat} {n : N} (h : Ok k n) (ht : 1 ≤ n.term) : Ok k (leadF n) ∧ Led n (leadF n) := by
  obtain ⟨b1, b2, b3, b4, b5, b6, b7, b8, b9, b10⟩ := lead1_rest n
  exact led_of (ok_lead1 h ht) ⟨b1, b2, b3, b4, b5, b6, b8, b10⟩ (lead1_es n)
end Go.CT.Memb

namespace Go.CT.Memb
open Go.Proofs

/-! ## Each operation, step by step -/
theorem step_still {n x : N} (h1 : x.id = n.id ∧ x.size = n.size ∧ x.b = n.b ∧ x.es = n.es ∧ x.com = n.com ∧ x.term = n.term) (hr : x.role = n.role ∨ x.role = 0) (hv : n.vote = -1 ∨ x.vote = n.vote) (hc : n.com ≤ lastI n.l)
    (hs : ∀ y ∈ x.out, y.kind = 2 → y.ok = true → y.term = x.term ∧ y.to = x.vote ∧ 0 ≤ y.to) : Step n x := by
  obtain ⟨a1, a2, a3, a4, a5, a6⟩ := h1
  have hk := keep_same a3 a4
  have hl : lastI x.l = lastI n.l := by unfold lastI N.l; simp only [a3, a4]
  exact ⟨a1, a2, hk.le hc, by omega, by omega, fun _ _ => ⟨a6, by omega, hk⟩, fun _ h => by omega, fun _ => hv, fun h => by omega, hs⟩
theorem said_of {n x : N} (h : ∀ y ∈ x.out, y ∈ n.out ∨ y.kind ≠ 2) (hn : n.out = []) : ∀ y ∈ x.out, y.kind = 2 → y.ok = true → y.term = x.term ∧ y.to = x.vote ∧ 0 ≤ y.to := fun y hy hk => by
  rcases h y hy with g | g
  · rw [hn] at g; simp at g
  · exact absurd hk g
theorem step_bare {n x : N} (h : Step (bare n) x) : Step n x := ⟨h.id, h.size, h.keep, h.up, h.term, h.leads, h.commits, h.dur, h.self, h.said⟩
theorem ok_el {k : Nat} {n : N} (h : Ok k n) : Ok (k + 1) {n with el := n.el + 1} :=
  ⟨h.id, h.size, h.to, h.term, h.role, h.pos, by have := h.el; show (0 : Int) ≤ n.el + 1 ∧ n.el + 1 ≤ ((k + 1 : Nat) : Int); omega, h.val, h.bt, h.ts, h.com, h.app, h.asc, by have := h.vsl; show n.vs.length ≤ k + 1 + 1; omega, h.led, h.nxl, h.nx, h.mt⟩
theorem ok_elect0 {k : Nat} {n : N} (h : Ok k n) (ht : n.term < 1000000000000000) : Ok k (elect0 n) := by
  have h0 := h.term
  refine ⟨h.id, h.size, h.to, ⟨by show 0 ≤ n.term + 1; omega, by show n.term + 1 ≤ _; omega⟩, .inr (.inl rfl), fun _ => by show 1 ≤ n.term + 1; omega, ⟨Int.le_refl _, by show (0 : Int) ≤ k; omega⟩, h.val, by have := h.bt; show n.bt ≤ n.term + 1; omega, fun e he => by have := h.ts e he; show e.t ≤ n.term + 1; omega, h.com, h.app, List.pairwise_singleton _ _, by simp [elect0], fun hr => ?_, h.nxl, h.nx, h.mt⟩
  have : (1 : Int) = 2 := hr
  omega
theorem step_tick {k : Nat} {n : N} (h : Ok k n) : Ok (k + 1) (tickF n) ∧ Step n (tickF n) := by
  have hb := ok_bare h
  unfold tickF
  split
  · next c =>
    refine ⟨ok_mono (ok_out hb _) (by omega), step_still ⟨rfl, rfl, rfl, rfl, rfl, rfl⟩ (.inl rfl) (.inr rfl) h.com.2 (said_of (n := bare n) (fun y hy => ?_) rfl)⟩
    rcases List.mem_append.1 hy with g | g
    · exact .inl g
    · exact .inr (kind_msgs _ _ _ y g)
  · next c =>
    have h1 := ok_el hb
    split
    · next c2 =>
      have h2 := ok_elect0 h1 c2.2
      have ht : 1 ≤ (elect0 {bare n with el := n.el + 1}).term := h2.pos (by show (1 : Int) ≠ 0; omega)
      have hself : ∀ x : N, x.id = n.id → x.vote = n.id → x.vote = x.id := fun x a b => by rw [a, b]
      unfold electF
      split
      · obtain ⟨g1, g2⟩ := ok_lead h2 ht
        have hterm : (leadF (elect0 {bare n with el := n.el + 1})).term = n.term + 1 := g2.term
        refine ⟨g1, g2.id, g2.size, ?_, g2.up, by omega, fun hr => absurd hr c, fun _ => g2.commits, fun he => by omega, fun _ => hself _ g2.id g2.vote, said_of (n := elect0 {bare n with el := n.el + 1}) g2.out rfl⟩
        obtain ⟨ys, hes⟩ := g2.es
        exact (keep_app (n := n) g2.b hes).le h.com.2
      · refine ⟨ok_out h2 _, rfl, rfl, (keep_same (n := n) rfl rfl).le h.com.2, Int.le_refl _, by show n.term ≤ n.term + 1; omega, fun hr => absurd hr c, fun hr => ?_, fun he => ?_, fun _ => rfl, said_of (n := elect0 {bare n with el := n.el + 1}) (fun y hy => ?_) rfl⟩
        · have : (1 : Int) = 2 := hr
          omega
        · have : n.term + 1 = n.term := he
          omega
        · rcases List.mem_append.1 hy with g | g
          · exact .inl g
          · exact .inr (kind_asks _ _ _ _ _ y g)
    · exact ⟨h1, step_still ⟨rfl, rfl, rfl, rfl, rfl, rfl⟩ (.inl rfl) (.inr rfl) h.com.2 (said_of (n := bare n) (fun y hy => .inl hy) rfl)⟩
theorem out_send (n : N) (j : Int) (x : G) (h : n.out = []) : (sendF n j x).out = [⟨x.kind, n.id, j, n.term, x.ix, x.lt, x.com, x.ok, x.es, x.sn⟩] := by unfold sendF; simp [h]
theorem said_send {n : N} {j : Int} {x : G} (h : n.out = []) (hk : x.kind = 2 → x.ok = true → j = n.vote ∧ 0 ≤ j) : ∀ y ∈ (sendF n j x).out, y.kind = 2 → y.ok = true → y.term = (sendF n j x).term ∧ y.to = (sendF n j x).vote ∧ 0 ≤ y.to := fun y hy h1 h2 => by
  rw [out_send n j x h] at hy
  simp only [List.mem_singleton] at hy
  subst hy
  obtain ⟨a, b⟩ := hk h1 h2
  exact ⟨rfl, a, b⟩
/-- Where a message of the term is handled: what's kept, and that followers stay followers. -/
def Kind (k : Nat) (n x : N) : Prop := Ok (k + 1) x ∧ Step n x ∧ (n.role = 0 → x.role = 0)
theorem kind_vote {k : Nat} {n : N} {x : G} (h : Ok k n) (ho : n.out = []) (hf : 0 ≤ x.fr) : Kind k n (voteF n x) := by
  unfold voteF
  cases hv : votes n x with
  | false =>
    refine ⟨ok_mono (ok_out h _) (by omega), step_still ⟨rfl, rfl, rfl, rfl, rfl, rfl⟩ (.inl rfl) (.inr rfl) h.com.2 (said_send ho (fun _ h2 => by cases h2)), id⟩
  | true =>
    have hvote : n.vote = -1 ∨ n.vote = x.fr := by
      unfold votes at hv
      simp only [Bool.and_eq_true, Bool.or_eq_true, decide_eq_true_eq] at hv
      exact hv.1
    have h1 : Ok k {n with vote := x.fr, el := 0} := ⟨h.id, h.size, h.to, h.term, h.role, h.pos, ⟨Int.le_refl _, by show (0 : Int) ≤ k; omega⟩, h.val, h.bt, h.ts, h.com, h.app, h.asc, h.vsl, h.led, h.nxl, h.nx, h.mt⟩
    refine ⟨ok_mono (ok_out h1 _) (by omega), step_still ⟨rfl, rfl, rfl, rfl, rfl, rfl⟩ (.inl rfl) ?_ h.com.2 (said_send (n := {n with vote := x.fr, el := 0}) ho (fun _ _ => ⟨rfl, hf⟩)), id⟩
    rcases hvote with g | g
    · exact .inl g
    · exact .inr g.symm
theorem kind_same {k : Nat} {n : N} (h : Ok k n) (ho : n.out = []) : Kind k n n :=
  ⟨ok_mono h (by omega), step_still ⟨rfl, rfl, rfl, rfl, rfl, rfl⟩ (.inl rfl) (.inr rfl) h.com.2 (fun y hy => by rw [ho] at hy; simp at hy), id⟩
theorem kind_voted {k : Nat} {n : N} {x : G} (h : Ok k n) (ho : n.out = []) : Kind k n (votedF n x) := by
  unfold votedF
  split
  · exact kind_same h ho
  · next c =>
    have hr : n.role = 1 := by rcases Decidable.em (n.role = 1) with g | g; exact g; exact absurd (.inl g) c
    have h1 : Ok (k + 1) {n with vs := putF n.vs x.fr} := ⟨h.id, h.size, h.to, h.term, h.role, h.pos, by have := h.el; show (0 : Int) ≤ n.el ∧ n.el ≤ ((k + 1 : Nat) : Int); omega, h.val, h.bt, h.ts, h.com, h.app, putF_asc _ _ h.asc, by have := putF_len n.vs x.fr; have := h.vsl; show (putF n.vs x.fr).length ≤ k + 1 + 1; omega, h.led, h.nxl, h.nx, h.mt⟩
    split
    · obtain ⟨g1, g2⟩ := ok_lead h1 (h.pos (by omega))
      have hterm : (leadF {n with vs := putF n.vs x.fr}).term = n.term := g2.term
      have hrole := g2.role
      refine ⟨g1, ⟨g2.id, g2.size, ?_, g2.up, by omega, fun hr2 => by omega, fun _ => g2.commits, fun _ => .inr g2.vote, fun hh => by omega, said_of (n := {n with vs := putF n.vs x.fr}) g2.out ho⟩, fun hr0 => by omega⟩
      obtain ⟨ys, hes⟩ := g2.es
      exact (keep_app (n := n) g2.b hes).le h.com.2
    · exact ⟨h1, step_still ⟨rfl, rfl, rfl, rfl, rfl, rfl⟩ (.inl rfl) (.inr rfl) h.com.2 (fun y hy => by rw [show ({n with vs := putF n.vs x.fr} : N).out = n.out from rfl, ho] at hy; simp at hy), id⟩
theorem ok_follow {k : Nat} {n : N} (h : Ok k n) (j : Int) : Ok k (followF n j) :=
  ⟨h.id, h.size, h.to, h.term, .inl rfl, fun hr => absurd rfl hr, ⟨Int.le_refl _, by show (0 : Int) ≤ k; omega⟩, h.val, h.bt, h.ts, h.com, h.app, List.Pairwise.nil, by simp [followF], fun hr => by have : (0 : Int) = 2 := hr; omega, h.nxl, h.nx, h.mt⟩
theorem ok_log {k : Nat} {n : N} (h : Ok k n) (l : L) (c : Int) (hv : valid l = true) (hb : l.bt ≤ n.term) (ht : ∀ e ∈ l.es, e.t ≤ n.term) (hc : l.b ≤ c ∧ c ≤ lastI l) (s : ByteArray) : Ok k {logF n l with com := c, app := c, sn := s} :=
  ⟨h.id, h.size, h.to, h.term, h.role, h.pos, h.el, hv, hb, ht, hc, rfl, h.asc, h.vsl, h.led, h.nxl, h.nx, h.mt⟩
theorem commit_shape (n : N) (i : Int) (ha : n.app = n.com) : commitF n i = {n with com := maxI n.com i, app := maxI n.com i} := by
  unfold commitF maxI
  split
  · rfl
  · conv => lhs; rw [← N.eta n, ha]
theorem take_get? {xs ys : List E} {c j : Nat} (h : xs.take c = ys.take c) (hj : j < c) : xs[j]? = ys[j]? := by
  have := congrArg (fun l => l[j]?) h
  simpa [List.getElem?_take, hj] using this
theorem kind_entries {k : Nat} {n : N} {x : G} (h : Ok k n) (ho : n.out = []) (ht : ∀ e ∈ x.es, e.t ≤ n.term) : Kind k n (entriesF n x) := by
  unfold entriesF
  split
  · exact kind_same h ho
  · next c =>
    have hr : n.role ≠ 2 := fun g => c (.inl g)
    have hcon : contra n (x.ix + 1) x.es = false := by cases hx : contra n (x.ix + 1) x.es; rfl; exact absurd (.inr hx) c
    have hf := ok_follow h x.fr
    split
    · next hok =>
      obtain ⟨f1, f2, f3, f4, f5, f6⟩ := append_facts n x.ix x.lt x.es h.val h.com hok hcon
      have hav := append_valid n.l x.ix x.lt x.es h.val
      generalize appendF n.l x.ix x.lt x.es = r at f1 f2 f3 f4 f5 f6 hav
      have hsh := commit_shape (logF (followF n x.fr) r.l) (minI x.com r.n) h.app
      rw [hsh]
      have hcm : (logF (followF n x.fr) r.l).com = n.com := rfl
      rw [hcm]
      have hmax : n.com ≤ maxI n.com (minI x.com r.n) ∧ maxI n.com (minI x.com r.n) ≤ lastI r.l := by
        unfold maxI minI
        constructor
        · split <;> omega
        · split
          · split <;> omega
          · omega
      generalize maxI n.com (minI x.com r.n) = c' at hmax
      have hk := ok_log hf r.l c' hav (by have := h.bt; rw [f2]; exact this) (fun e he => by
        rcases f6 e he with g | g
        · exact h.ts e g
        · exact ht e g) ⟨by have := h.com.1; omega, hmax.2⟩ n.sn
      refine ⟨ok_mono (ok_out hk _) (by omega), ⟨rfl, rfl, fun i i1 i2 i3 => ?_, hmax.1, Int.le_refl _, fun g => absurd g hr, fun g => ?_, fun _ => .inr rfl, fun g => ?_, said_send (n := {logF (followF n x.fr) r.l with com := c', app := c'}) ho (fun g => by simp at g)⟩, fun _ => rfl⟩
      · have i2' : r.l.b < i := i2
        refine ⟨by show i ≤ lastI r.l; omega, ?_⟩
        show n.es[(i - n.b).toNat - 1]? = r.l.es[(i - r.l.b).toNat - 1]?
        rw [f1]
        exact (take_get? f4 (by omega)).symm
      · have : (0 : Int) = 2 := g
        omega
      · have g' : ((0 : Int) = 1 ∧ _) ∨ ((0 : Int) = 2 ∧ _) ∨ ((0 : Int) = 1 ∧ _) := g
        omega
    · exact ⟨ok_mono (ok_out hf _) (by omega), step_still ⟨rfl, rfl, rfl, rfl, rfl, rfl⟩ (.inr rfl) (.inr rfl) h.com.2 (said_send (n := followF n x.fr) ho (fun g => by simp at g)), fun _ => rfl⟩
end Go.CT.Memb

namespace Go.CT.Memb
open Go.Proofs

theorem ok_sets {k : Nat} {n : N} (h : Ok k n) (j : Nat) (v w : Int) (hv : 0 ≤ v ∧ v ≤ 1000000000000401) (hw : 1 ≤ w ∧ w ≤ 1000000000000401) : Ok k {n with mt := n.mt.set j v, nx := n.nx.set j w} := by
  refine ⟨h.id, h.size, h.to, h.term, h.role, h.pos, h.el, h.val, h.bt, h.ts, h.com, h.app, h.asc, h.vsl, fun hr => ?_, ?_, fun u hu => ?_, fun u hu => ?_⟩
  · simp only [List.length_set]; exact h.led hr
  · simp only [List.length_set]; exact h.nxl
  · rcases mem_set hu with g | g
    · exact h.nx u g
    · omega
  · rcases mem_set hu with g | g
    · exact h.mt u g
    · omega
theorem getD_nx {k : Nat} {n : N} (h : Ok k n) (j : Nat) : 0 ≤ n.nx.getD j 0 ∧ n.nx.getD j 0 ≤ 1000000000000401 := by
  rw [List.getD_eq_getElem?_getD]
  by_cases hj : j < n.nx.length
  · rw [List.getElem?_eq_getElem hj]
    have := h.nx _ (List.getElem_mem hj)
    simp only [Option.getD_some]; omega
  · rw [List.getElem?_eq_none (by omega)]; simp
theorem getD_mt {k : Nat} {n : N} (h : Ok k n) (j : Nat) : 0 ≤ n.mt.getD j 0 ∧ n.mt.getD j 0 ≤ 1000000000000401 := by
  rw [List.getD_eq_getElem?_getD]
  by_cases hj : j < n.mt.length
  · rw [List.getElem?_eq_getElem hj]
    have := h.mt _ (List.getElem_mem hj)
    simp only [Option.getD_some]; omega
  · rw [List.getElem?_eq_none (by omega)]; simp
theorem said_tell {n : N} {j i : Int} (h : n.out = []) : ∀ y ∈ (tellF n j i).out, y.kind = 2 → y.ok = true → y.term = (tellF n j i).term ∧ y.to = (tellF n j i).vote ∧ 0 ≤ y.to := fun y hy hk => by
  unfold tellF at hy
  simp only [h, List.nil_append, List.mem_singleton] at hy
  subst hy
  exact absurd hk (kind_appMsg _ _ _)
theorem kind_ack {k : Nat} {n : N} {x : G} (h : Ok k n) (ho : n.out = []) : Kind k n (ackF n x) := by
  unfold ackF
  split
  · exact kind_same h ho
  · next c =>
    have hr : n.role = 2 := Decidable.not_not.1 c
    have hno : ∀ y : N, y.role = n.role → n.role = 0 → y.role = 0 := fun y h1 h2 => by omega
    have g1 := getD_nx h x.fr.toNat
    have g2 := getD_mt h x.fr.toNat
    have hl := last_bd h.fine
    split
    · split
      · next c2 =>
        have hb : n.mt.getD x.fr.toNat 0 + 1 ≤ backI n x := by unfold backI maxI; split <;> omega
        have hk := ok_sets h x.fr.toNat (n.mt.getD x.fr.toNat 0) (backI n x) g2 (by omega)
        have h1 : Ok k {n with nx := n.nx.set x.fr.toNat (backI n x)} := ⟨h.id, h.size, h.to, h.term, h.role, h.pos, h.el, h.val, h.bt, h.ts, h.com, h.app, h.asc, h.vsl, fun hr => by simp only [List.length_set]; exact h.led hr, by simp only [List.length_set]; exact h.nxl, hk.nx, h.mt⟩
        exact ⟨ok_mono (ok_out h1 _) (by omega), step_still ⟨rfl, rfl, rfl, rfl, rfl, rfl⟩ (.inl rfl) (.inr rfl) h.com.2 (said_tell (n := {n with nx := n.nx.set x.fr.toNat (backI n x)}) ho), hno _ rfl⟩
      · exact kind_same h ho
    · split
      · exact kind_same h ho
      · next c2 =>
        have hm : minI x.ix (lastI n.l) ≤ lastI n.l := by unfold minI; split <;> omega
        generalize minI x.ix (lastI n.l) = i at c2 hm
        have hk := ok_sets h x.fr.toNat i (i + 1) (by omega) (by omega)
        obtain ⟨cm, e, e1, e2, e3⟩ := adv_shape {n with mt := n.mt.set x.fr.toNat i, nx := n.nx.set x.fr.toNat (i + 1)} hk.app hk.com.2
        simp only at e1 e2 e3
        have hkeep : Keep (lastI n.l) n n := keep_same rfl rfl
        have hself : ∀ y : N, y.role = 2 → ¬ ((y.role = 1 ∧ n.role ≠ 1) ∨ (y.role = 2 ∧ n.role = 0) ∨ (y.role = 1 ∧ n.term < y.term)) := fun y hy => by omega
        rw [e]
        have hmid : ∀ o : List G, (∀ y ∈ o, y.kind ≠ 2) → Kind k n {n with mt := n.mt.set x.fr.toNat i, nx := n.nx.set x.fr.toNat (i + 1), com := cm, app := cm, out := o} := fun o hout =>
          ⟨ok_mono (ok_com hk cm o e1 e2) (by omega), ⟨rfl, rfl, hkeep.le h.com.2, e1, Int.le_refl _, fun _ _ => ⟨rfl, Int.le_refl _, hkeep⟩, fun _ => e3, fun _ => .inr rfl, fun g => absurd g (hself _ hr), fun y hy h1 => absurd h1 (hout y hy)⟩, hno _ rfl⟩
        split
        · refine hmid _ fun y hy => ?_
          rcases List.mem_append.1 hy with g | g
          · have : y ∈ n.out := g
            rw [ho] at this; simp at this
          · simp only [List.mem_singleton] at g
            rw [g]; exact kind_appMsg _ _ _
        · refine hmid n.out fun y hy => ?_
          rw [ho] at hy; simp at hy
theorem kind_snap {k : Nat} {n : N} {x : G} (h : Ok k n) (ho : n.out = []) (hx : 1 ≤ x.ix ∧ x.ix ≤ 1000000000000000 ∧ 1 ≤ x.lt ∧ x.lt ≤ n.term) : Kind k n (snapF n x) := by
  unfold snapF
  split
  · exact kind_same h ho
  · next hr =>
    have hf := ok_follow h x.fr
    split
    · exact ⟨ok_mono (ok_out hf _) (by omega), step_still ⟨rfl, rfl, rfl, rfl, rfl, rfl⟩ (.inr rfl) (.inr rfl) h.com.2 (said_send (n := followF n x.fr) ho (fun g => by simp at g)), fun _ => rfl⟩
    · next c =>
      have hterm := h.term
      have hcb := h.com.1
      have hv : valid (snapL n x) = true ∧ (snapL n x).b = x.ix ∧ (snapL n x).bt = x.lt ∧ ∀ e ∈ (snapL n x).es, e.t ≤ n.term := by
        unfold snapL
        split
        · next c1 =>
          have hle := termAt_le (b := n.b) (bt := n.bt) (es := n.es) c1
          exact ⟨valid_compact h.val ⟨hle.1, hle.2⟩ hx.2.1 c1, rfl, rfl, fun e he => h.ts e (List.mem_of_mem_drop he)⟩
        · refine ⟨valid_of ⟨by show 0 ≤ x.ix; omega, hx.2.1, by show 0 ≤ x.lt; omega, by show x.lt ≤ _; omega, by show x.ix = 0 ↔ x.lt = 0; omega, by simp⟩ rfl, rfl, rfl, fun e he => by simp at he⟩
      obtain ⟨v1, v2, v3, v4⟩ := hv
      generalize snapL n x = r at v1 v2 v3 v4
      have hlr : x.ix ≤ lastI r := by unfold lastI; omega
      have hk := ok_log hf r x.ix v1 (by show r.bt ≤ n.term; omega) v4 ⟨by omega, hlr⟩ x.sn
      have hsh : commitF {logF (followF n x.fr) r with sn := x.sn} x.ix = {logF (followF n x.fr) r with com := x.ix, app := x.ix, sn := x.sn} := if_pos (by show n.com < x.ix; omega)
      rw [hsh]
      refine ⟨ok_mono (ok_out hk _) (by omega), ⟨rfl, rfl, fun i i1 i2 i3 => ?_, by show n.com ≤ x.ix; omega, Int.le_refl _, fun g => absurd g hr, fun g => ?_, fun _ => .inr rfl, fun g => ?_, said_send (n := {logF (followF n x.fr) r with com := x.ix, app := x.ix, sn := x.sn}) ho (fun g => by simp at g)⟩, fun _ => rfl⟩
      · have i2' : r.b < i := i2
        omega
      · have : (0 : Int) = 2 := g
        omega
      · have g' : ((0 : Int) = 1 ∧ _) ∨ ((0 : Int) = 2 ∧ _) ∨ ((0 : Int) = 1 ∧ _) := g
        omega
theorem step_kind {k : Nat} {n : N} {x : G} (h : Ok k n) (ho : n.out = []) (hf : 0 ≤ x.fr) (h3 : x.kind = 3 → ∀ e ∈ x.es, e.t ≤ n.term) (h5 : x.kind = 5 → 1 ≤ x.ix ∧ x.ix ≤ 1000000000000000 ∧ 1 ≤ x.lt ∧ x.lt ≤ n.term) : Kind k n (kindF n x) := by
  unfold kindF
  split
  · exact kind_vote h ho hf
  · split
    · exact kind_voted h ho
    · split
      · next c => exact kind_entries h ho (h3 c)
      · split
        · exact kind_ack h ho
        · split
          · next c => exact kind_snap h ho (h5 c)
          · exact kind_same h ho
theorem step_handle {k : Nat} {n : N} {x : G} (h : Ok k n) : Ok (k + 1) (handleF n x) ∧ Step n (handleF n x) := by
  have hb := ok_bare h
  unfold handleF
  split
  · exact ⟨ok_mono hb (by omega), step_still ⟨rfl, rfl, rfl, rfl, rfl, rfl⟩ (.inl rfl) (.inr rfl) h.com.2 (fun y hy => by simp [bare] at hy)⟩
  · next c0 =>
    obtain ⟨i1, i2, i3, i4, i5, i6, i7, i8, i9, i10⟩ := ign_inv c0
    split
    · unfold staleF
      have q : ∀ y : G, y.ok = false → Ok (k + 1) (sendF (bare n) x.fr y) ∧ Step n (sendF (bare n) x.fr y) := fun y hy =>
        ⟨ok_mono (ok_out hb _) (by omega), step_still ⟨rfl, rfl, rfl, rfl, rfl, rfl⟩ (.inl rfl) (.inr rfl) h.com.2 (said_send (n := bare n) rfl (fun _ g => by rw [hy] at g; cases g))⟩
      split
      · exact q _ rfl
      · split
        · exact q _ rfl
        · exact ⟨ok_mono hb (by omega), step_still ⟨rfl, rfl, rfl, rfl, rfl, rfl⟩ (.inl rfl) (.inr rfl) h.com.2 (fun y hy => by simp [bare] at hy)⟩
    · next c1 =>
      have ht := ok_term (x := x) hb ⟨i5, i6⟩
      by_cases c2 : n.term < x.term
      · have e2 : termF (bare n) x = {bare n with role := 0, term := x.term, vote := -1, lead := -1, vs := [], nx := [], mt := []} := if_pos c2
        rw [e2] at ht ⊢
        obtain ⟨g1, g2, g3⟩ := step_kind (x := x) ht rfl i3 i9 i10
        have hr := g3 rfl
        have htm := g2.term
        have htm' : x.term ≤ (kindF {bare n with role := 0, term := x.term, vote := -1, lead := -1, vs := [], nx := [], mt := []} x).term := htm
        exact ⟨g1, g2.id, g2.size, g2.keep, g2.up, by omega, fun _ hr2 => by omega, fun hr2 => by omega, fun he => by omega, fun hh => by omega, g2.said⟩
      · have e2 : termF (bare n) x = bare n := if_neg c2
        rw [e2] at ht ⊢
        obtain ⟨g1, g2, g3⟩ := step_kind (x := x) hb rfl i3 (fun hk e he => by have := i9 hk e he; show e.t ≤ n.term; omega) (fun hk => by have := i10 hk; show 1 ≤ x.ix ∧ x.ix ≤ _ ∧ 1 ≤ x.lt ∧ x.lt ≤ n.term; omega)
        exact ⟨g1, step_bare g2⟩
theorem step_prop {k : Nat} {n : N} {d : ByteArray} (h : Ok k n) : Ok (k + 1) (propF n d) ∧ Step n (propF n d) := by
  have hb := ok_bare h
  unfold propF
  split
  · exact ⟨ok_mono hb (by omega), step_still ⟨rfl, rfl, rfl, rfl, rfl, rfl⟩ (.inl rfl) (.inr rfl) h.com.2 (fun y hy => by simp [bare] at hy)⟩
  · next c =>
    have hr : n.role = 2 := by rcases Decidable.em (n.role = 2) with g | g; exact g; exact absurd (.inl g) c
    have h1 := ok_add hb (h.pos (by omega)) (by show n.es.length < 400; omega) d
    obtain ⟨g1, g2⟩ := led_of (n := bare n) h1 ⟨rfl, rfl, hr, rfl, rfl, rfl, rfl, rfl⟩ ⟨_, rfl⟩
    have hterm : (sayAdv (ownF (addF (bare n) d))).term = n.term := g2.term
    have hrole := g2.role
    obtain ⟨ys, hes⟩ := g2.es
    have hk := keep_app (n := n) g2.b hes
    refine ⟨ok_mono g1 (by omega), g2.id, g2.size, hk.le h.com.2, g2.up, by omega, fun _ _ => ⟨hterm, ?_, hk⟩, fun _ => g2.commits, fun _ => .inr g2.vote, fun hh => by omega, said_of (n := bare n) g2.out rfl⟩
    have hb2 : (sayAdv (ownF (addF (bare n) d))).b = n.b := g2.b
    have hes2 : (sayAdv (ownF (addF (bare n) d))).es = n.es ++ ys := hes
    unfold lastI N.l
    simp only [hb2, hes2, List.length_append]
    omega
theorem step_comp {k : Nat} {n : N} {i : Int} {s : ByteArray} (h : Ok k n) : Ok (k + 1) (compF n i s) ∧ Step n (compF n i s) := by
  have hb := ok_bare h
  unfold compF
  split
  · exact ⟨ok_mono hb (by omega), step_still ⟨rfl, rfl, rfl, rfl, rfl, rfl⟩ (.inl rfl) (.inr rfl) h.com.2 (fun y hy => by simp [bare] at hy)⟩
  · next c =>
    have ha := h.app
    have hc := h.com
    have hib : n.l.b ≤ i ∧ i ≤ lastI n.l := ⟨by show n.b ≤ i; omega, by omega⟩
    obtain ⟨t, ht⟩ := termAt_some hib.1 hib.2
    have hv := valid_compact h.val hib (by omega) ht
    have hl := lastI_compact (t := t) hib
    have htle : t ≤ n.term := by
      by_cases e : i = n.b
      · have : t = n.bt := by unfold termAt at ht; rw [if_pos (show i = n.l.b from e)] at ht; injection ht with ht; exact ht.symm
        have := h.bt; omega
      · obtain ⟨hlt, hg⟩ := termAt_get ht (by show n.b < i; omega)
        rw [← hg]
        exact h.ts _ (List.getElem_mem _)
    rw [ht]
    simp only [Option.getD_some]
    have hk := ok_log hb (compactL n.l i t) n.com hv htle (fun e he => h.ts e (List.mem_of_mem_drop he)) ⟨by show i ≤ n.com; omega, by rw [hl]; exact hc.2⟩ s
    have e2 : ({logF (bare n) (compactL n.l i t) with sn := s} : N) = {logF (bare n) (compactL n.l i t) with com := n.com, app := n.com, sn := s} := by
      have key : ∀ a : Int, a = n.com → ({logF (bare n) (compactL n.l i t) with app := a, sn := s} : N) = {logF (bare n) (compactL n.l i t) with com := n.com, app := n.com, sn := s} := by
        rintro _ rfl; rfl
      exact key n.app ha
    rw [e2]
    have hkeep : Keep (lastI n.l) n {logF (bare n) (compactL n.l i t) with com := n.com, app := n.com, sn := s} := fun j j1 j2 j3 => by
      have j2' : i < j := j2
      refine ⟨by show j ≤ lastI (compactL n.l i t); omega, ?_⟩
      show n.es[(j - n.b).toNat - 1]? = (n.es.drop (i - n.b).toNat)[(j - i).toNat - 1]?
      rw [List.getElem?_drop]
      congr 1
      have := hib.1
      have : n.b ≤ i := this
      omega
    exact ⟨ok_mono hk (by omega), rfl, rfl, hkeep.le hc.2, Int.le_refl _, Int.le_refl _, fun _ _ => ⟨rfl, by show lastI n.l ≤ lastI (compactL n.l i t); omega, hkeep⟩, fun _ g => by have g' : n.com < n.com := g; omega, fun _ => .inr rfl, fun g => by have g' : (n.role = 1 ∧ n.role ≠ 1) ∨ (n.role = 2 ∧ n.role = 0) ∨ (n.role = 1 ∧ n.term < n.term) := g; omega, fun y hy => by simp [logF, bare] at hy⟩
theorem ok_rest {k : Nat} {n : N} (h : Ok k n) : Ok (k + 1) (restF n) := by
  have hl : n.b ≤ lastI n.l := by have := h.com; omega
  exact ⟨h.id, h.size, h.to, h.term, .inl rfl, fun hr => absurd rfl hr, ⟨Int.le_refl _, by show (0 : Int) ≤ ((k + 1 : Nat) : Int); omega⟩, h.val, h.bt, h.ts, ⟨Int.le_refl _, hl⟩, rfl, List.Pairwise.nil, by simp [restF], fun hr => by have : (0 : Int) = 2 := hr; omega, by simp [restF], by simp [restF], by simp [restF]⟩
theorem ok_start {i s t : Int} (h : startOk i s t = true) : Ok 0 (start i s t) := by
  unfold startOk at h
  simp only [decide_eq_true_eq] at h
  refine ⟨⟨h.2.2.1, h.2.2.2.1⟩, h.2.1, h.2.2.2.2, by simp [start], .inl rfl, fun hr => absurd rfl hr, by simp [start], (by show valid ⟨0, 0, []⟩ = true; decide), by simp [start], by simp [start], by simp [start, lastI, N.l], rfl, List.Pairwise.nil, by simp [start], fun hr => by have : (0 : Int) = 2 := hr; omega, by simp [start], by simp [start], by simp [start]⟩
theorem ok_do {k : Nat} {n : N} {a : Act} (h : Ok k n) : Ok (k + 1) (doF n a) := by
  unfold doF
  split
  · exact (step_tick h).1
  · split
    · exact (step_handle h).1
    · split
      · exact (step_prop h).1
      · split
        · exact (step_comp h).1
        · exact ok_rest h
/-- An operation is a step, or a restart. -/
theorem step_do {k : Nat} {n : N} {a : Act} (h : Ok k n) : Step n (doF n a) ∨ (¬ (0 ≤ a.kind ∧ a.kind < 4) ∧ doF n a = restF n) := by
  unfold doF
  split
  · exact .inl (step_tick h).2
  · split
    · exact .inl (step_handle h).2
    · split
      · exact .inl (step_prop h).2
      · split
        · exact .inl (step_comp h).2
        · exact .inr ⟨by omega, rfl⟩
end Go.CT.Memb
