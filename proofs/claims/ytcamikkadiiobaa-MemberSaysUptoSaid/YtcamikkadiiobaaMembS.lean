import Derived.Test.YtcamikkadiiobaaMembL
set_option linter.unusedVariables false
set_option linter.unusedSimpArgs false
namespace Go.CT.Memb
open Go.Proofs

/-! ## The reference: telling all, committing, leading -/
theorem N.q0 (n : N) : O.proj 0 n.enc = some (.int n.id) := rfl
theorem N.q1 (n : N) : O.proj 1 n.enc = some (.int n.size) := rfl
theorem N.q2 (n : N) : O.proj 2 n.enc = some (.int n.role) := rfl
theorem N.q3 (n : N) : O.proj 3 n.enc = some (.int n.term) := rfl
theorem N.q4 (n : N) : O.proj 4 n.enc = some (.int n.vote) := rfl
theorem N.q5 (n : N) : O.proj 5 n.enc = some (.int n.lead) := rfl
theorem N.q6 (n : N) : O.proj 6 n.enc = some (.int n.el) := rfl
theorem N.q7 (n : N) : O.proj 7 n.enc = some (.int n.to) := rfl
theorem N.q8 (n : N) : O.proj 8 n.enc = some (.list (n.vs.map IV.int)) := rfl
theorem N.q9 (n : N) : O.proj 9 n.enc = some (.list (n.nx.map IV.int)) := rfl
theorem N.q10 (n : N) : O.proj 10 n.enc = some (.list (n.mt.map IV.int)) := rfl
theorem N.q11 (n : N) : O.proj 11 n.enc = some (.int n.com) := rfl
theorem N.q12 (n : N) : O.proj 12 n.enc = some (.int n.app) := rfl
theorem N.q13 (n : N) : O.proj 13 n.enc = some (.int n.b) := rfl
theorem N.q14 (n : N) : O.proj 14 n.enc = some (.int n.bt) := rfl
theorem N.q15 (n : N) : O.proj 15 n.enc = some (.list (n.es.map E.enc)) := rfl
theorem N.q16 (n : N) : O.proj 16 n.enc = some (.str n.sn) := rfl
theorem N.ql (n : N) : O.projs 13 3 n.enc = some (.agg [.int n.b, .int n.bt, .list (n.es.map E.enc)]) := rfl
theorem calls_10 {β : Type} {a0 a1 a2 a3 a4 a5 a6 a7 a8 a9 : IV} {f : IV → IV → IV → IV → IV → IV → IV → IV → IV → IV → Option β} : calls (some [a0, a1, a2, a3, a4, a5, a6, a7, a8, a9]) 10 f = f a0 a1 a2 a3 a4 a5 a6 a7 a8 a9 := rfl
theorem r_message (n : N) (k j : Int) : W f_ref26_message 0 [n.enc, .int k, .int j] = some [.int k, .int n.id, .int j, .int n.term, .int 0, .int 0, .int 0, .bool false, .list [], .str ⟨#[]⟩] := by
  rw [e_f_ref26_message_0]
  simp only [N.q0, N.q3, Option.bind_some]
theorem r_last (n : N) (h : tame n.l) : W f_ref25_Last 0 [.agg [.int n.b, .int n.bt, .list (n.es.map E.enc)]] = some [.int (lastI n.l), .int (lastT n.l)] := ref_last n.b n.bt n.es h
theorem r_appendTo (n : N) (j : Nat) (i : Int) (h : tame n.l) (hi : n.nx[j]? = some i) (hm : Mid i) : W f_ref26_appendTo 0 [n.enc, .int j] = some [(appMsg n j i).enc] := by
  have hw : IntKind.i64.wrap (i - 1) = i - 1 := wrap64 (by have := hm.1; omega) (by have := hm.2; omega)
  have ht := ref_termAt n.b n.bt n.es (i - 1) h
  have hf := ref_from n.b n.bt n.es i 8 h
  rw [e_f_ref26_appendTo_0]
  unfold appMsg
  simp only [N.q9, N.q13, N.q14, N.q16, N.q11, N.ql, Option.bind_some, O.index_list, Int.natCast_nonneg, if_true, Int.toNat_natCast, List.getElem?_map, hi, Option.map_some, O.le_int, O.cnd_bool, decide_eq_true_eq, r_message, calls_10, O.mkagg_eq, O.sub_int, hw, ht, hf, optI_getD, optE_getD, O.calls_2]
  split <;> rfl
theorem r_all_1 (n : N) (h : tame n.l) (hn : NX n.size n.nx) (hs : n.size ≤ 7) : ∀ (k i : Nat) (out : List G), ((i + k : Nat) : Int) = n.size → out.length + k ≤ 1048576 →
    W f_ref26_all 1 [.int i, n.enc, .list (out.map G.enc)] = some [.list ((out ++ msgs n k i).map G.enc)]
  | 0, i, out, hk, ho => by
    rw [e_f_ref26_all_1]
    have h1 : ¬ (i : Int) < n.size := by omega
    simp only [N.q1, O.lt_int, h1, decide_false, Option.bind_some, O.cnd_bool, Bool.false_eq_true, if_false, msgs, List.append_nil]
  | k + 1, i, out, hk, ho => by
    rw [e_f_ref26_all_1]
    have h1 : (i : Int) < n.size := by omega
    have hw : IntKind.i64.wrap ((i : Int) + 1) = ((i + 1 : Nat) : Int) := by rw [wrap64 (by omega) (by omega)]; rfl
    obtain ⟨v, hv, hm⟩ := hn i h1
    have hg : n.nx.getD i 0 = v := by rw [List.getD_eq_getElem?_getD, hv]; rfl
    have hap := r_appendTo n i v h hv hm
    have hc : (out.length + 1) * 104 ≤ maxBytes := cap (by omega) (by omega)
    simp only [N.q0, N.q1, O.lt_int, h1, decide_true, Option.bind_some, O.cnd_bool, if_true, O.ne_int, msgs, hg]
    by_cases c : (i : Int) = n.id
    · have ih := r_all_1 n h hn hs k (i + 1) out (by omega) (by omega)
      have hd : decide ((i : Int) = n.id) = true := by simp [c]
      rw [if_pos c]
      simp only [hd, Bool.not_true, Bool.false_eq_true, if_false, e_f_ref26_all_2, O.add_int, Option.bind_some, hw, ih, List.nil_append]
    · have ih := r_all_1 n h hn hs k (i + 1) (out ++ [appMsg n i v]) (by omega) (by simp; omega)
      simp only [List.map_append, List.map_cons, List.map_nil] at ih
      rw [if_neg c]
      simp only [c, decide_false, Bool.not_false, if_true, hap, O.calls_1, O.mklist_eq, O.append_list, List.length_map, List.length_singleton, hc, e_f_ref26_all_2, O.add_int, Option.bind_some, hw, ih, List.append_assoc, List.map_append, List.map_cons, List.map_nil]
theorem r_all (n : N) (h : tame n.l) (hn : NX n.size n.nx) (hs : 0 ≤ n.size ∧ n.size ≤ 7) : W f_ref26_all 0 [n.enc] = some [.list ((bcast n).map G.enc)] := by
  have := r_all_1 n h hn hs.2 n.size.toNat 0 [] (by omega) (by simp; omega)
  simp only [Int.cast_ofNat_Int, List.map_nil, List.nil_append] at this
  rw [e_f_ref26_all_0]
  exact this
theorem r_set (l : List Int) (j : Nat) (v : Int) (hj : j < l.length) (hl : l.length ≤ 1000000) : W f_ref26_set 0 [.list (l.map IV.int), .int j, .int v] = some [.list ((l.set j v).map IV.int)] := by
  rw [e_f_ref26_set_0]
  have hc : (0 + l.length) * 8 ≤ maxBytes := by unfold maxBytes; omega
  simp only [O.mklist_eq, Option.bind_some, O.append_list, List.length_nil, List.length_map, hc, if_true, List.nil_append, O.index_list, Int.natCast_nonneg, Int.toNat_natCast, List.getElem?_map, List.getElem?_eq_getElem hj, Option.map_some, O.setAt_whole, List.map_set]
theorem r_agree_1 (n : N) (i : Int) (hl : n.mt.length ≤ 1000000) : ∀ (m k c : Nat), k + m = n.mt.length → c + m ≤ 1048576 → W f_ref26_agree 1 [.int i, .int c, .int k, n.enc] = some [.int (c + cnt (n.mt.drop k) i : Nat)]
  | 0, k, c, hk, hc => by
    have h1 : ¬ k < n.mt.length := by omega
    rw [e_f_ref26_agree_1, List.drop_of_length_le (by omega)]
    simp only [N.q10, O.len_list, List.length_map, O.lt_int, lt_cast, h1, decide_false, Option.bind_some, O.cnd_bool, Bool.false_eq_true, if_false]
    rfl
  | m + 1, k, c, hk, hc => by
    have hi : k < n.mt.length := by omega
    have hw : IntKind.i64.wrap ((k : Int) + 1) = ((k + 1 : Nat) : Int) := by rw [wrap64 (by omega) (by omega)]; rfl
    have hw2 : IntKind.i64.wrap ((c : Int) + 1) = ((c + 1 : Nat) : Int) := by rw [wrap64 (by omega) (by omega)]; rfl
    rw [e_f_ref26_agree_1]
    simp only [N.q10, O.len_list, List.length_map, O.lt_int, lt_cast, hi, decide_true, Option.bind_some, O.cnd_bool, if_true, O.index_list, Int.natCast_nonneg, Int.toNat_natCast, List.getElem?_map, List.getElem?_eq_getElem hi, Option.map_some, O.ge_int, decide_eq_true_eq, e_f_ref26_agree_2, O.add_int, hw, hw2]
    rw [List.drop_eq_getElem_cons hi, cnt_cons]
    by_cases d : i ≤ n.mt[k]
    · rw [if_pos d, if_pos d, r_agree_1 n i hl m (k + 1) (c + 1) (by omega) (by omega), Nat.add_assoc]
    · rw [if_neg d, if_neg d, r_agree_1 n i hl m (k + 1) c (by omega) (by omega), Nat.zero_add]
theorem r_agree (n : N) (i : Int) (hl : n.mt.length ≤ 1000000) : W f_ref26_agree 0 [n.enc, .int i] = some [.int (cnt n.mt i : Nat)] := by
  have := r_agree_1 n i hl n.mt.length 0 0 (by omega) (by omega)
  simp only [Int.cast_ofNat_Int, List.drop_zero, Nat.zero_add] at this
  rw [e_f_ref26_agree_0]
  exact this
theorem r_advance_1 (n : N) (h : tame n.l) (hm : Mid n.com) (hl : n.mt.length ≤ 1000) (hb : n.b ≤ n.com) (y1 y2 y3 y4 y5 y6 y7 y8 y9 y10 y11 y12 y13 : IV) : ∀ k : Nat, n.com + k ≤ lastI n.l ∨ k = 0 → k ≤ 8000000000000000 →
    W f_ref26_advance 1 [.int (n.com + k), n.enc, y1, y2, y3, y4, y5, y6, y7, y8, y9, y10, y11, y12, y13] = some [(advN n k).enc]
  | 0, _, _ => by
    rw [e_f_ref26_advance_1]
    have h1 : ¬ n.com < n.com + ((0 : Nat) : Int) := by omega
    simp only [N.q11, O.gt_int, h1, decide_false, Option.bind_some, O.cnd_bool, Bool.false_eq_true, if_false, advN]
  | k + 1, hk, hkb => by
    rw [e_f_ref26_advance_1]
    have h1 : n.com < n.com + ((k + 1 : Nat) : Int) := by omega
    have hw : IntKind.i64.wrap (n.com + ((k + 1 : Nat) : Int) - 1) = n.com + k := by
      have := hm.1; have := hm.2
      rw [wrap64 (by omega) (by omega)]; omega
    have ih := r_advance_1 n h hm hl hb y1 y2 y3 y4 y5 y6 y7 y8 y9 y10 y11 y12 y13 k (by omega) (by omega)
    have ht := ref_termAt n.b n.bt n.es (n.com + (k + 1 : Nat)) h
    have hag := r_agree n (n.com + (k + 1 : Nat)) (by omega)
    have hcl := cnt_le n.mt (n.com + (k + 1 : Nat))
    obtain ⟨t, hts⟩ := termAt_some (l := n.l) (i := n.com + (k + 1 : Nat)) (by show n.b ≤ _; omega) (by omega)
    have hts2 : termAt ⟨n.b, n.bt, n.es⟩ (n.com + (k + 1 : Nat)) = some t := hts
    unfold advN
    rw [hts2] at ht
    rw [hts]
    generalize hX : n.com + ((k + 1 : Nat) : Int) = X at *
    have hw2 : IntKind.i64.wrap (2 * ((cnt n.mt X : Nat) : Int)) = 2 * (cnt n.mt X : Nat) := wrap64 (by omega) (by omega)
    simp only [N.q0, N.q1, N.q2, N.q3, N.q4, N.q5, N.q6, N.q7, N.q8, N.q9, N.q10, N.q11, N.q12, N.q13, N.q14, N.q15, N.q16, N.ql, O.gt_int, h1, decide_true, Option.bind_some, O.cnd_bool, if_true, ht, optI, O.calls_2, O.eq_int, hag, O.calls_1, O.mul_int, hw2, O.sub_int, hw, ih, O.mkagg_eq]
    by_cases c1 : t = n.term
    · by_cases c2 : n.size < 2 * (cnt n.mt X : Nat)
      · simp only [c1, c2, decide_true, if_true, Option.bind_some, O.cnd_bool, and_self]
        rfl
      · simp only [c1, c2, decide_true, decide_false, if_true, Option.bind_some, O.cnd_bool, Bool.false_eq_true, if_false, and_false]
    · have c1' : ¬ some t = some n.term := fun h => c1 (Option.some.inj h)
      simp only [c1, c1', decide_false, Option.bind_some, O.cnd_bool, Bool.false_eq_true, if_false, false_and]
theorem r_advance (n : N) (h : tame n.l) (hm : Mid n.com) (hl : n.mt.length ≤ 1000) (hb : n.b ≤ n.com) : W f_ref26_advance 0 [n.enc] = some [(advF n).enc] := by
  have hla := mid_last (b := n.b) (bt := n.bt) (es := n.es) h
  have hla2 : lastI n.l ≤ 1000000004194304 := hla.2
  rw [e_f_ref26_advance_0]
  simp only [N.ql, Option.bind_some, r_last n h, O.calls_2]
  unfold advF
  by_cases c : n.com ≤ lastI n.l
  · have e : lastI n.l = n.com + ((lastI n.l - n.com).toNat : Int) := by omega
    have := r_advance_1 n h hm hl hb (.int 0) (.int 0) (.int 0) (.int 0) (.int 0) (.int 0) (.int 0) (.int 0) (.int 0) (.int 0) (.int 0) (.int 0) (.str ⟨#[]⟩) (lastI n.l - n.com).toNat (by omega) (by have := hm.1; omega)
    rw [← e] at this
    exact this
  · rw [e_f_ref26_advance_1]
    have h1 : ¬ n.com < lastI n.l := by omega
    have h0 : (lastI n.l - n.com).toNat = 0 := by omega
    simp only [N.q11, O.gt_int, h1, decide_false, Option.bind_some, O.cnd_bool, Bool.false_eq_true, if_false, h0, advN]
def ownR (n : N) : N := if n.size = 1 then advF (ownF n) else ownF n
theorem r_own (n : N) (h : tame n.l) (hm : Mid n.com) (hb : n.b ≤ n.com) (hi : 0 ≤ n.id ∧ n.id < n.mt.length ∧ n.id < n.nx.length) (hl : n.mt.length ≤ 1000 ∧ n.nx.length ≤ 1000) : W f_ref26_own 0 [n.enc] = some [(ownR n).enc] := by
  obtain ⟨i0, i1, i2⟩ := hi
  obtain ⟨j, hj⟩ := Int.eq_ofNat_of_zero_le i0
  have hla := mid_last (b := n.b) (bt := n.bt) (es := n.es) h
  have hla2 : 0 ≤ lastI n.l ∧ lastI n.l ≤ 1000000004194304 := hla
  have hw : IntKind.i64.wrap (lastI n.l + 1) = lastI n.l + 1 := wrap64 (by omega) (by omega)
  have s1 := r_set n.mt j (lastI n.l) (by omega) (by omega)
  have s2 := r_set n.nx j (lastI n.l + 1) (by omega) (by omega)
  have ho : ownF n = {n with mt := n.mt.set j (lastI n.l), nx := n.nx.set j (lastI n.l + 1)} := by
    unfold ownF; rw [hj]; rfl
  have ha := r_advance (ownF n) h hm (by rw [ho]; simp only [List.length_set]; omega) hb
  rw [← hj] at s1 s2
  rw [e_f_ref26_own_0]
  unfold ownR
  simp only [N.q0, N.q1, N.q2, N.q3, N.q4, N.q5, N.q6, N.q7, N.q8, N.q9, N.q10, N.q11, N.q12, N.q13, N.q14, N.q15, N.q16, N.ql, Option.bind_some, r_last n h, O.calls_2, s1, s2, O.calls_1, O.add_int, hw, O.eq_int, O.cnd_bool, decide_eq_true_eq, O.mkagg_eq]
  have e : IV.agg [.int n.id, .int n.size, .int n.role, .int n.term, .int n.vote, .int n.lead, .int n.el, .int n.to, .list (n.vs.map IV.int), .list ((n.nx.set j (lastI n.l + 1)).map IV.int), .list ((n.mt.set j (lastI n.l)).map IV.int), .int n.com, .int n.app, .int n.b, .int n.bt, .list (n.es.map E.enc), .str n.sn] = (ownF n).enc := by rw [ho]; rfl
  rw [e, ha]
  simp only [O.calls_1]
  split <;> rfl
/-- What's said is the same, before or after committing. -/
theorem ownR_say (m : N) (hid : 0 ≤ m.id ∧ m.id < m.size) : (sayAdv (ownF m)).enc = (ownR m).enc ∧ (sayAdv (ownF m)).out = m.out ++ bcast (ownR m) := by
  have hb : ∀ c d : Int, m.size = 1 → bcast {ownF m with com := c, app := d} = [] := fun c d h1 => by
    have h2 : ({ownF m with com := c, app := d} : N).size.toNat = 1 := by show m.size.toNat = 1; omega
    have h0 : ((0 : Nat) : Int) = ({ownF m with com := c, app := d} : N).id := by show ((0 : Nat) : Int) = m.id; omega
    unfold bcast
    rw [h2, msgs, if_pos h0]; rfl
  unfold sayAdv ownR
  have hs : (ownF m).size = m.size := rfl
  rw [hs]
  by_cases c : m.size = 1
  · rw [if_pos c, if_pos c]
    have hb0 : bcast (ownF m) = [] := hb m.com m.app c
    have hsay : say (ownF m) = ownF m := by
      unfold say
      rw [hb0, List.append_nil]
    rw [hsay]
    obtain ⟨x, y, e⟩ := advF_upto (ownF m)
    rw [e]
    exact ⟨rfl, by rw [hb x y c, List.append_nil]; rfl⟩
  · rw [if_neg c, if_neg c]
    exact ⟨rfl, rfl⟩
end Go.CT.Memb

namespace Go.CT.Memb
open Go.Proofs

/-! ## The reference: leading, ticking, voting -/
theorem ok_ownR {k : Nat} {m : N} (h : Ok k m) : Ok k (ownR m) := by
  unfold ownR
  have ho := ok_own h
  split
  · obtain ⟨c, e, h1, h2, _⟩ := adv_shape (ownF m) ho.app ho.com.2
    rw [e]
    exact ok_com ho c (ownF m).out h1 h2
  · exact ho
theorem ownR_role (m : N) : (ownR m).role = m.role ∧ (ownR m).size = m.size ∧ (ownR m).id = m.id := by
  unfold ownR
  split
  · obtain ⟨c, d, e⟩ := advF_upto (ownF m)
    rw [e]; exact ⟨rfl, rfl, rfl⟩
  · exact ⟨rfl, rfl, rfl⟩
theorem r_finish {k : Nat} (m : N) (h : Ok k m) (hr : m.role = 2) : W f_ref26_own 0 [m.enc] = some [(ownR m).enc] ∧ W f_ref26_all 0 [(ownR m).enc] = some [.list ((bcast (ownR m)).map G.enc)] := by
  have hl := h.led hr
  have hid := h.id
  have hsz := h.size
  have hR := ok_ownR h
  obtain ⟨r1, r2, r3⟩ := ownR_role m
  refine ⟨r_own m h.tame h.mid h.com.1 ⟨hid.1, by omega, by omega⟩ ⟨by have := h.nxl; omega, by have := h.nxl; omega⟩, r_all (ownR m) hR.tame (hR.NX (by omega)) ⟨by omega, by omega⟩⟩
theorem r_write {k : Nat} (n : N) (d : ByteArray) (h : Ok k (addF n d)) (hr : n.role = 2) : W f_ref26_write 0 [n.enc, .str d] = some [(ownR (addF n d)).enc] := by
  obtain ⟨h1, _⟩ := r_finish (addF n d) h hr
  have hlen : (n.es ++ [(⟨n.term, d⟩ : E)]).length ≤ 400 := h.len
  simp only [List.length_append, List.length_singleton] at hlen
  have hc0 : (0 + n.es.length) * 24 ≤ maxBytes := by unfold maxBytes; omega
  have hc : (n.es.length + 1) * 24 ≤ maxBytes := by unfold maxBytes; omega
  rw [e_f_ref26_write_0]
  simp only [O.mklist_eq, Option.bind_some, N.q0, N.q1, N.q2, N.q3, N.q4, N.q5, N.q6, N.q7, N.q8, N.q9, N.q10, N.q11, N.q12, N.q13, N.q14, N.q15, N.q16, O.append_list, List.length_nil, List.length_map, hc0, if_true, List.nil_append, O.mkagg_eq, List.length_singleton, hc]
  have e : IV.agg [.int n.id, .int n.size, .int n.role, .int n.term, .int n.vote, .int n.lead, .int n.el, .int n.to, .list (n.vs.map IV.int), .list (n.nx.map IV.int), .list (n.mt.map IV.int), .int n.com, .int n.app, .int n.b, .int n.bt, .list (n.es.map E.enc ++ [.agg [.int n.term, .str d]]), .str n.sn] = (addF n d).enc := by
    unfold addF
    rw [N.enc_def]
    simp only [List.map_append, List.map_cons, List.map_nil, E.enc]
  rw [e, h1]
  rfl
/-- The lists of a new leader. -/
theorem r_lead_1 (n : N) (hs : n.size ≤ 7) (i0 : Int) (hi0 : 0 ≤ i0 ∧ i0 ≤ 1000000004194304) (y1 y2 y3 y4 y5 y6 y7 y8 y9 y10 y11 y12 y13 : IV) : ∀ (k i : Nat), ((i + k : Nat) : Int) = n.size →
    W f_ref26_lead 1 [.int i0, .int i, .int n.id, .int n.size, .int n.role, .int n.term, .int n.vote, .int n.lead, .int n.el, .int n.to, .int n.com, .int n.app, .int n.b, .int n.bt, .list (n.es.map E.enc), .str n.sn, y1, y2, y3, y4, y5, y6, y7, y8, y9, y10, y11, y12, y13, .list ((List.replicate i (i0 + 1)).map IV.int), .list ((List.replicate i 0).map IV.int)] =
      (if n.es.length < 400 then
        calls (W f_ref26_write 0 [N.enc {n with vs := [], nx := List.replicate n.size.toNat (i0 + 1), mt := List.replicate n.size.toNat 0}, .str ⟨#[]⟩]) 1 fun x35 => calls (W f_ref26_all 0 [x35]) 1 fun x36 => some [x35, x36]
       else calls (W f_ref26_own 0 [N.enc {n with vs := [], nx := List.replicate n.size.toNat (i0 + 1), mt := List.replicate n.size.toNat 0}]) 1 fun x35 => calls (W f_ref26_all 0 [x35]) 1 fun x36 => some [x35, x36])
  | 0, i, hk => by
    have h1 : ¬ (i : Int) < n.size := by omega
    have hi : i = n.size.toNat := by omega
    rw [e_f_ref26_lead_1]
    simp only [O.lt_int, h1, decide_false, Option.bind_some, O.cnd_bool, Bool.false_eq_true, if_false, O.len_list, List.length_map, O.mkagg_eq, decide_eq_true_eq]
    rw [hi]
    by_cases c : n.es.length < 400
    · have c' : (n.es.length : Int) < 400 := by omega
      rw [if_pos c, if_pos c']; rfl
    · have c' : ¬ (n.es.length : Int) < 400 := by omega
      rw [if_neg c, if_neg c']; rfl
  | k + 1, i, hk => by
    have h1 : (i : Int) < n.size := by omega
    have hw : IntKind.i64.wrap ((i : Int) + 1) = ((i + 1 : Nat) : Int) := by rw [wrap64 (by omega) (by omega)]; rfl
    have hw2 : IntKind.i64.wrap (i0 + 1) = i0 + 1 := wrap64 (by omega) (by omega)
    have hc : (i + 1) * 8 ≤ maxBytes := by unfold maxBytes; omega
    have ih := r_lead_1 n hs i0 hi0 y1 y2 y3 y4 y5 y6 y7 y8 y9 y10 y11 y12 y13 k (i + 1) (by omega)
    have e1 : ∀ v : Int, (List.replicate i v).map IV.int ++ [IV.int v] = (List.replicate (i + 1) v).map IV.int := fun v => by
      rw [List.replicate_succ']; simp
    rw [e_f_ref26_lead_1]
    simp only [O.lt_int, h1, decide_true, Option.bind_some, O.cnd_bool, if_true, O.add_int, hw, hw2, O.mklist_eq, O.append_list, List.length_map, List.length_replicate, List.length_singleton, hc, e1, ih]
theorem lead1_nx (n : N) : lead1 n = if n.es.length < 400 then addF (lead0 n) ⟨#[]⟩ else lead0 n := rfl
theorem r_lead {k : Nat} (n : N) (h : Ok k n) (ht : 1 ≤ n.term) (ho : n.out = []) : W f_ref26_lead 0 [n.enc] = some [(leadF n).enc, .list ((leadF n).out.map G.enc)] := by
  have hla := mid_last (b := n.b) (bt := n.bt) (es := n.es) h.tame
  have hid := h.id
  have h0 := ok_lead0 h ht
  have h1 := ok_lead1 h ht
  obtain ⟨b1, b2, b3, b4, b5, b6, b7, b8, b9, b10⟩ := lead1_rest n
  obtain ⟨f1, f2⟩ := r_finish (lead1 n) h1 b3
  obtain ⟨s1, s2⟩ := ownR_say (lead1 n) (by omega)
  have hk := r_lead_1 {n with role := 2, lead := n.id, el := 0} h.size (lastI n.l) hla (.int 0) (.int 0) (.int 0) (.int 0) (.int 0) (.int 0) (.int 0) (.int 0) (.int 0) (.int 0) (.int 0) (.int 0) (.str ⟨#[]⟩) n.size.toNat 0 (by show ((0 + n.size.toNat : Nat) : Int) = n.size; omega)
  simp only [List.replicate_zero, List.map_nil, Int.cast_ofNat_Int] at hk
  rw [e_f_ref26_lead_0]
  simp only [N.q0, N.q1, N.q2, N.q3, N.q4, N.q5, N.q6, N.q7, N.q8, N.q9, N.q10, N.q11, N.q12, N.q13, N.q14, N.q15, N.q16, N.ql, Option.bind_some, r_last n h.tame, O.calls_2, hk]
  have hl : leadF n = sayAdv (ownF (lead1 n)) := rfl
  rw [hl, s1, s2, b10, ho, List.nil_append]
  by_cases c : n.es.length < 400
  · have e1 : lead1 n = addF (lead0 n) ⟨#[]⟩ := by rw [lead1_nx, if_pos c]
    rw [e1] at h1 f1 f2 ⊢
    have hw := r_write (lead0 n) ⟨#[]⟩ h1 rfl
    rw [if_pos c]
    show calls (W f_ref26_write 0 [(lead0 n).enc, .str ⟨#[]⟩]) 1 _ = _
    rw [hw]
    simp only [O.calls_1, f2]
  · have e1 : lead1 n = lead0 n := by rw [lead1_nx, if_neg c]
    rw [e1] at h1 f1 f2 ⊢
    rw [if_neg c]
    show calls (W f_ref26_own 0 [(lead0 n).enc]) 1 _ = _
    rw [f1]
    simp only [O.calls_1, f2]
theorem r_tick_1 (m : N) (h : tame m.l) (hs : m.size ≤ 7) (y1 y2 y3 y4 y5 y6 y7 y8 y9 y10 y11 y12 y13 : IV) : ∀ (k i : Nat) (out : List G), ((i + k : Nat) : Int) = m.size → out.length + k ≤ 1048576 →
    W f_ref26_Tick 1 [.int i, .int m.id, .int m.size, .int m.role, .int m.term, .int m.vote, .int m.lead, .int m.el, .int m.to, .list (m.nx.map IV.int), .list (m.mt.map IV.int), .int m.com, .int m.app, .int m.b, .int m.bt, .list (m.es.map E.enc), .str m.sn, y1, y2, y3, y4, y5, y6, y7, y8, y9, y10, y11, y12, y13, .list (out.map G.enc), .list (m.vs.map IV.int)] =
      some [m.enc, .list ((out ++ asks m (lastI m.l) (lastT m.l) k i).map G.enc)]
  | 0, i, out, hk, ho => by
    rw [e_f_ref26_Tick_1]
    have h1 : ¬ (i : Int) < m.size := by omega
    simp only [O.lt_int, h1, decide_false, Option.bind_some, O.cnd_bool, Bool.false_eq_true, if_false, asks, List.append_nil, O.mkagg_eq, fold_enc]
  | k + 1, i, out, hk, ho => by
    rw [e_f_ref26_Tick_1]
    have h1 : (i : Int) < m.size := by omega
    have hw : IntKind.i64.wrap ((i : Int) + 1) = ((i + 1 : Nat) : Int) := by rw [wrap64 (by omega) (by omega)]; rfl
    have hc : (out.length + 1) * 104 ≤ maxBytes := cap (by omega) (by omega)
    simp only [O.lt_int, h1, decide_true, Option.bind_some, O.cnd_bool, if_true, O.ne_int, asks]
    by_cases c : (i : Int) = m.id
    · have ih := r_tick_1 m h hs y1 y2 y3 y4 y5 y6 y7 y8 y9 y10 y11 y12 y13 k (i + 1) out (by omega) (by omega)
      have hd : decide ((i : Int) = m.id) = true := by simp [c]
      rw [if_pos c]
      simp only [hd, Bool.not_true, Bool.false_eq_true, if_false, e_f_ref26_Tick_2, O.add_int, Option.bind_some, hw, ih, List.nil_append]
    · have ih := r_tick_1 m h hs y1 y2 y3 y4 y5 y6 y7 y8 y9 y10 y11 y12 y13 k (i + 1) (out ++ [⟨1, m.id, i, m.term, lastI m.l, lastT m.l, 0, false, [], ⟨#[]⟩⟩]) (by omega) (by simp; omega)
      simp only [List.map_append, List.map_cons, List.map_nil] at ih
      rw [if_neg c]
      simp only [c, decide_false, Bool.not_false, if_true, O.mkagg_eq, fold_enc, r_message, calls_10, Option.bind_some, r_last m h, O.calls_2, O.mklist_eq, G.fold0, O.append_list, List.length_map, List.length_singleton, hc, e_f_ref26_Tick_2, O.add_int, hw, ih, List.append_assoc, List.map_append, List.map_cons, List.map_nil]
theorem bcast_bare (n : N) : bcast (bare n) = bcast n := msgs_out n [] n.size.toNat 0
theorem r_tick {k : Nat} (n : N) (h : Ok k n) (hk : k ≤ 1000) : W f_ref26_Tick 0 [n.enc] = some [(tickF n).enc, .list ((tickF n).out.map G.enc)] := by
  have hel := h.el
  have hto := h.to
  have hid := h.id
  have hsz := h.size
  have hterm := h.term
  have hb := ok_bare h
  rw [e_f_ref26_Tick_0]
  unfold tickF
  by_cases c : n.role = 2
  · have ha := r_all n h.tame (h.NX c) ⟨by omega, hsz⟩
    have hd : decide (n.role = 2) = true := by simp [c]
    rw [if_pos c]
    simp only [N.q2, O.eq_int, hd, Option.bind_some, O.cnd_bool, if_true, ha, O.calls_1]
    have e : (say (bare n)).out = bcast n := by unfold say; rw [bcast_bare]; rfl
    rw [e]; rfl
  · · have hw : IntKind.i64.wrap (n.el + 1) = n.el + 1 := wrap64 (by omega) (by omega)
      rw [if_neg c]
      simp only [N.q0, N.q1, N.q2, N.q3, N.q4, N.q5, N.q6, N.q7, N.q8, N.q9, N.q10, N.q11, N.q12, N.q13, N.q14, N.q15, N.q16, O.eq_int, c, decide_false, Option.bind_some, O.cnd_bool, Bool.false_eq_true, if_false, O.add_int, hw, O.lt_int, O.ge_int, ite_some, ite_ivbool, O.mkagg_eq, O.mklist_eq]
      by_cases c1 : n.to ≤ n.el + 1 ∧ n.term < 1000000000000000
      · have hw2 : IntKind.i64.wrap (n.term + 1) = n.term + 1 := wrap64 (by omega) (by omega)
        have d1 : decide (n.el + 1 < n.to) = false := by simp; omega
        have d2 : decide (1000000000000000 ≤ n.term) = false := by simp; omega
        have h1 := ok_el hb
        have h2 := ok_elect0 h1 c1.2
        rw [if_pos c1]
        simp only [d1, d2, Bool.false_eq_true, if_false, hw2]
        unfold electF
        by_cases c2 : n.size = 1
        · have hl := r_lead (elect0 {bare n with el := n.el + 1}) h2 (by show 1 ≤ n.term + 1; omega) rfl
          have d3 : decide (n.size = 1) = true := by simp [c2]
          rw [if_pos (show ({bare n with el := n.el + 1} : N).size = 1 from c2)]
          simp only [d3, if_true]
          show calls (W f_ref26_lead 0 [(elect0 {bare n with el := n.el + 1}).enc]) 2 _ = _
          rw [hl]
          rfl
        · have d3 : decide (n.size = 1) = false := by simp [c2]
          rw [if_neg (show ¬ ({bare n with el := n.el + 1} : N).size = 1 from c2)]
          simp only [d3, Bool.false_eq_true, if_false]
          have ht := r_tick_1 (elect0 {bare n with el := n.el + 1}) h.tame hsz (.int 0) (.int 0) (.int 0) (.int 0) (.int 0) (.int 0) (.int 0) (.int 0) (.int 0) (.int 0) (.int 0) (.int 0) (.str ⟨#[]⟩) n.size.toNat 0 [] (by show ((0 + n.size.toNat : Nat) : Int) = n.size; omega) (by simp; omega)
          exact ht
      · rw [if_neg c1]
        have d : (if decide (n.el + 1 < n.to) = true then true else decide (1000000000000000 ≤ n.term)) = true := by
          by_cases c2 : n.el + 1 < n.to
          · simp [c2]
          · simp [c2]; omega
        simp only [d, if_true]
        rfl
end Go.CT.Memb

namespace Go.CT.Memb
open Go.Proofs

/-! ## The reference: votes, entries -/
theorem r_reply (n : N) (k j ix : Int) (o : Bool) : W f_ref26_reply 0 [n.enc, .int k, .int j, .bool o, .int ix] = some [.list [G.enc ⟨k, n.id, j, n.term, ix, 0, 0, o, [], ⟨#[]⟩⟩]] := by
  rw [e_f_ref26_reply_0]
  simp only [r_message, calls_10, O.mkagg_eq, G.fold0, O.mklist_eq, Option.bind_some]
theorem r_stale (n : N) (x : G) (ho : n.out = []) : W f_ref26_stale 0 [n.enc, x.enc] = some [.list ((staleF n x).out.map G.enc)] := by
  rw [e_f_ref26_stale_0]
  unfold staleF
  simp only [G.p0, G.p1, O.eq_int, Option.bind_some, O.cnd_bool, decide_eq_true_eq, r_reply, O.calls_1, ite_some, ite_ivbool]
  by_cases c1 : x.kind = 1
  · rw [if_pos c1, if_pos c1, out_send n _ _ ho]; rfl
  · by_cases c3 : x.kind = 3
    · have d : (if x.kind = 3 then true else decide (x.kind = 5)) = true := by simp [c3]
      rw [if_neg c1, if_neg c1, if_pos d, if_pos (.inl c3), out_send n _ _ ho]; rfl
    · by_cases c5 : x.kind = 5
      · have d : (if x.kind = 3 then true else decide (x.kind = 5)) = true := by simp [c5]
        rw [if_neg c1, if_neg c1, if_pos d, if_pos (.inr c5), out_send n _ _ ho]; rfl
      · have d : ¬ (if x.kind = 3 then true else decide (x.kind = 5)) = true := by simp [c3, c5]
        have d2 : ¬ (x.kind = 3 ∨ x.kind = 5) := by omega
        rw [if_neg c1, if_neg c1, if_neg d, if_neg d2, ho]; rfl
theorem r_newer (a c d e : Int) : W f_ref25_Newer 0 [.int a, .int c, .int d, .int e] = some [.bool (newer a c d e)] := ref_newer a c d e
theorem r_vote_1 (m : N) (x : G) (o : Bool) (y1 y2 y3 y4 y5 y6 y7 y8 y9 y10 y11 y12 y13 : IV) : W f_ref26_vote 1 [.bool o, .int m.id, .int m.size, .int m.role, .int m.term, .int m.vote, .int m.lead, .int m.el, .int m.to, .list (m.vs.map IV.int), .list (m.nx.map IV.int), .list (m.mt.map IV.int), .int m.com, .int m.app, .int m.b, .int m.bt, .list (m.es.map E.enc), .str m.sn, x.enc, y1, y2, y3, y4, y5, y6, y7, y8, y9, y10, y11, y12, y13] = some [m.enc, .list [G.enc ⟨2, m.id, x.fr, m.term, 0, 0, 0, o, [], ⟨#[]⟩⟩]] := by
  rw [e_f_ref26_vote_1]
  simp only [G.p1, Option.bind_some, O.mkagg_eq, fold_enc, r_reply, O.calls_1]
theorem r_vote (n : N) (x : G) (h : tame n.l) (ho : n.out = []) : W f_ref26_vote 0 [n.enc, x.enc] = some [(voteF n x).enc, .list ((voteF n x).out.map G.enc)] := by
  rw [e_f_ref26_vote_0]
  have hv : votes n x = ((decide (n.vote = -1) || decide (n.vote = x.fr)) && newer x.lt x.ix (lastT n.l) (lastI n.l)) := rfl
  have hcond : (if (if decide (n.vote = -1) = true then true else decide (n.vote = x.fr)) = true then newer x.lt x.ix (lastT n.l) (lastI n.l) else false) = votes n x := by
    rw [hv]
    by_cases c1 : n.vote = -1
    · simp [c1]
    · by_cases c2 : n.vote = x.fr <;> simp [c1, c2]
  simp only [N.q0, N.q1, N.q2, N.q3, N.q4, N.q5, N.q6, N.q7, N.q8, N.q9, N.q10, N.q11, N.q12, N.q13, N.q14, N.q15, N.q16, N.ql, Option.bind_some, r_last n h, O.calls_2, O.eq_int, O.cnd_bool, G.p1, G.p4, G.p5, r_newer, O.calls_1, ite_some, ite_ivbool, hcond]
  unfold voteF
  cases hvv : votes n x with
  | true =>
    simp only [if_true]
    rw [out_send _ _ _ (show ({n with vote := x.fr, el := 0} : N).out = [] from ho)]
    have := r_vote_1 {n with vote := x.fr, el := 0} x true (.int 0) (.int 0) (.int 0) (.int 0) (.int 0) (.int 0) (.int 0) (.int 0) (.int 0) (.int 0) (.int 0) (.int 0) (.str ⟨#[]⟩)
    exact this
  | false =>
    simp only [Bool.false_eq_true, if_false]
    rw [out_send _ _ _ ho]
    exact r_vote_1 n x false (.int 0) (.int 0) (.int 0) (.int 0) (.int 0) (.int 0) (.int 0) (.int 0) (.int 0) (.int 0) (.int 0) (.int 0) (.str ⟨#[]⟩)
theorem pos_stop : ∀ (l : List Int) (x : Int) (h : pos l x < l.length), ¬ l[pos l x] < x
  | [], _, h => by simp [pos] at h
  | y :: l, x, h => by
    by_cases c : y < x
    · have e : pos (y :: l) x = pos l x + 1 := by show (if y < x then pos l x + 1 else 0) = _; rw [if_pos c]
      have h2 : pos l x < l.length := by rw [e] at h; simpa using h
      have := pos_stop l x h2
      simp only [e, List.getElem_cons_succ]
      exact this
    · have e : pos (y :: l) x = 0 := by show (if y < x then pos l x + 1 else 0) = _; rw [if_neg c]
      simp only [e, List.getElem_cons_zero]
      exact c
theorem r_put_1 (l : List Int) (x : Int) (hl : l.length ≤ 1000000) : ∀ (k i : Nat), i + k = pos l x → W f_ref26_put 1 [.list (l.map IV.int), .int x, .int i] = some [.list ((putF l x).map IV.int)]
  | k + 1, i, h => by
    have hp := pos_le l x
    have hi : i < l.length := by omega
    have hlt := pos_lt l x i hi (by omega)
    have hw : IntKind.i64.wrap ((i : Int) + 1) = ((i + 1 : Nat) : Int) := by rw [wrap64 (by omega) (by omega)]; rfl
    rw [e_f_ref26_put_1]
    simp only [O.len_list, List.length_map, O.lt_int, lt_cast, hi, decide_true, Option.bind_some, O.cnd_bool, if_true, O.index_list, Int.natCast_nonneg, Int.toNat_natCast, List.getElem?_map, List.getElem?_eq_getElem hi, Option.map_some, hlt, O.add_int, hw]
    exact r_put_1 l x hl k (i + 1) (by omega)
  | 0, i, h => by
    have hp := pos_le l x
    have e : i = pos l x := by omega
    subst e
    unfold putF
    have hc1 : (0 + (pos l x)) * 8 ≤ maxBytes := by unfold maxBytes; omega
    have hc2 : (pos l x + 1) * 8 ≤ maxBytes := by unfold maxBytes; omega
    have hc3 : (pos l x + 1 + (l.length - pos l x)) * 8 ≤ maxBytes := by unfold maxBytes; omega
    have hs : O.slice (.list (l.map IV.int)) (.int 0) (.int (pos l x)) = some (.list ((l.take (pos l x)).map IV.int)) := by
      rw [O.slice_list, if_pos ⟨by omega, by omega, by rw [List.length_map]; omega⟩]
      simp [List.map_take]
    have hs2 : O.sliceLo (.list (l.map IV.int)) (.int (pos l x)) = some (.list ((l.drop (pos l x)).map IV.int)) := by
      rw [O.sliceLo_list, if_pos ⟨by omega, by rw [List.length_map]; omega⟩]
      simp [List.map_drop]
    have hlen1 : ((l.take (pos l x)).map IV.int).length = pos l x := by rw [List.length_map, List.length_take]; omega
    have hlen2 : ((l.drop (pos l x)).map IV.int).length = l.length - pos l x := by rw [List.length_map, List.length_drop]
    have fin : ∀ F : Option (List IV), F = ((O.mklist []).bind fun x8 => (O.slice (.list (l.map IV.int)) (.int 0) (.int (pos l x))).bind fun x9 => (O.append 8 x8 x9).bind fun x10 => (O.mklist [.int x]).bind fun x11 => (O.append 8 x10 x11).bind fun x12 => (O.sliceLo (.list (l.map IV.int)) (.int (pos l x))).bind fun x13 => (O.append 8 x12 x13).bind fun x14 => some [x14]) → F = some [.list ((l.take (pos l x) ++ x :: l.drop (pos l x)).map IV.int)] := fun F hF => by
      rw [hF]
      simp only [O.mklist_eq, Option.bind_some, hs, O.append_list, List.length_nil, hlen1, hc1, if_true, List.nil_append, List.length_singleton, hc2, hs2, List.length_append, hlen2, hc3]
      simp
    rw [e_f_ref26_put_1]
    by_cases hi : pos l x < l.length
    · have hst := pos_stop l x hi
      simp only [O.len_list, List.length_map, O.lt_int, lt_cast, hi, decide_true, Option.bind_some, O.cnd_bool, if_true, O.index_list, Int.natCast_nonneg, Int.toNat_natCast, List.getElem?_map, List.getElem?_eq_getElem hi, Option.map_some, hst, decide_false, Bool.false_eq_true, if_false, O.eq_int, decide_eq_true_eq, Option.some.injEq]
      by_cases c : l[pos l x] = x
      · rw [if_pos c, if_pos c]
      · rw [if_neg c, if_neg c]
        exact fin _ rfl
    · have hnone : l[pos l x]? = none := List.getElem?_eq_none (by omega)
      simp only [O.len_list, List.length_map, O.lt_int, lt_cast, hi, decide_false, Option.bind_some, O.cnd_bool, Bool.false_eq_true, if_false, hnone, reduceCtorEq]
      exact fin _ rfl
theorem r_put (l : List Int) (x : Int) (hl : l.length ≤ 1000000) : W f_ref26_put 0 [.list (l.map IV.int), .int x] = some [.list ((putF l x).map IV.int)] := by
  have := r_put_1 l x hl (pos l x) 0 (by omega)
  simp only [Int.cast_ofNat_Int] at this
  rw [e_f_ref26_put_0]
  exact this
theorem r_voted {k : Nat} (n : N) (x : G) (h : Ok k n) (hk : k ≤ 1000) (ho : n.out = []) : W f_ref26_voted 0 [n.enc, x.enc] = some [(votedF n x).enc, .list ((votedF n x).out.map G.enc)] := by
  have hvl := h.vsl
  have hp := r_put n.vs x.fr (by omega)
  have hpl := putF_len n.vs x.fr
  have hw : IntKind.i64.wrap (2 * ((putF n.vs x.fr).length : Int)) = 2 * ((putF n.vs x.fr).length : Int) := wrap64 (by omega) (by omega)
  rw [e_f_ref26_voted_0]
  unfold votedF
  simp only [N.q2, O.ne_int, Option.bind_some, G.p7, O.not_bool, O.cnd_bool, ite_some, ite_ivbool]
  by_cases c1 : n.role = 1
  · cases hok : x.ok with
    | false =>
      have d1 : (if (!decide (n.role = 1)) = true then true else !false) = true := by simp
      rw [if_pos d1, if_pos (.inr rfl), ho]
      rfl
    | true =>
      have d1 : ¬ (if (!decide (n.role = 1)) = true then true else !true) = true := by simp [c1]
      have d2 : ¬ (n.role ≠ 1 ∨ true = false) := by simp [c1]
      rw [if_neg d1, if_neg d2]
      simp only [N.q0, N.q1, N.q3, N.q4, N.q5, N.q6, N.q7, N.q8, N.q9, N.q10, N.q11, N.q12, N.q13, N.q14, N.q15, N.q16, G.p1, Option.bind_some, hp, O.calls_1, O.len_list, List.length_map, O.mul_int, hw, O.gt_int, O.cnd_bool, decide_eq_true_eq, O.mkagg_eq]
      have h1 : Ok (k + 1) {n with vs := putF n.vs x.fr} := ⟨h.id, h.size, h.to, h.term, h.role, h.pos, by have := h.el; show (0 : Int) ≤ n.el ∧ n.el ≤ ((k + 1 : Nat) : Int); omega, h.val, h.bt, h.ts, h.com, h.app, putF_asc _ _ h.asc, by show (putF n.vs x.fr).length ≤ k + 1 + 1; omega, h.led, h.nxl, h.nx, h.mt⟩
      have hl := r_lead {n with vs := putF n.vs x.fr} h1 (h.pos (by omega)) ho
      by_cases c2 : n.size < 2 * ((putF n.vs x.fr).length : Int)
      · rw [if_pos c2, if_pos c2]
        show calls (W f_ref26_lead 0 [N.enc {n with vs := putF n.vs x.fr}]) 2 _ = _
        rw [hl]; rfl
      · rw [if_neg c2, if_neg c2]
        show some [N.enc {n with vs := putF n.vs x.fr}, .list []] = some [N.enc {n with vs := putF n.vs x.fr}, .list (n.out.map G.enc)]
        rw [ho]; rfl
  · have d1 : (if (!decide (n.role = 1)) = true then true else !x.ok) = true := by simp [c1]
    rw [if_pos d1, if_pos (.inl c1), ho]
    rfl

/-- Whether an entry at an index contradicts what is committed. -/
def bad (n : N) (i : Int) (e : E) : Bool := decide (n.b < i) && (decide (i ≤ n.com) && !decide ((termAt n.l i).getD 0 = e.t))
def anyBad (n : N) : Int → List E → Bool
  | _, [] => false
  | i, e :: es => bad n i e || anyBad n (i + 1) es
theorem anyBad_far (n : N) : ∀ (es : List E) (i : Int), n.com < i → anyBad n i es = false
  | [], _, _ => rfl
  | e :: es, i, h => by
    have h1 : ¬ i ≤ n.com := by omega
    unfold anyBad bad
    rw [anyBad_far n es (i + 1) (by omega)]
    simp [h1]
theorem contra_any (n : N) (hc : n.com ≤ lastI n.l) : ∀ (es : List E) (i : Int), contra n i es = anyBad n i es
  | [], _ => rfl
  | e :: es, i => by
    unfold contra
    by_cases c : n.com < i
    · rw [if_pos c, anyBad_far n _ _ c]
    · rw [if_neg c]
      unfold anyBad
      rw [contra_any n hc es (i + 1)]
      by_cases c1 : n.b < i
      · obtain ⟨t, ht⟩ := termAt_some (l := n.l) (i := i) (by show n.b ≤ i; omega) (by omega)
        have c2 : i ≤ n.com := by omega
        unfold bad
        rw [ht]
        by_cases c3 : t = e.t
        · simp [c3]
        · simp [c1, c2, c3]
      · unfold bad
        simp [c1]
theorem r_conf_2 (n : N) (x : G) (k : Nat) (hk : k < x.es.length) (hl : x.es.length ≤ 1048576) (h : tame n.l) (hm : Mid n.com) : ∀ (m : Nat) (i : Int), (i + m = n.com + 1 ∨ (m = 0 ∧ n.com < i)) → n.b < i → i ≤ 4000000000000001 →
    W f_ref26_conflicts 2 [.int k, .int i, n.enc, x.enc] = if (decide (i ≤ x.ix + 1 + k) && bad n (x.ix + 1 + k) (x.es[k]'hk)) = true then some [.bool true] else W f_ref26_conflicts 1 [.int (k + 1 : Nat), n.enc, x.enc]
  | 0, i, hi, hb, hbd => by
    have h1 : ¬ i ≤ n.com := by omega
    have hw : IntKind.i64.wrap ((k : Int) + 1) = ((k + 1 : Nat) : Int) := by rw [wrap64 (by omega) (by omega)]; rfl
    rw [e_f_ref26_conflicts_2]
    simp only [N.q11, O.le_int, h1, decide_false, Option.bind_some, O.cnd_bool, Bool.false_eq_true, if_false, O.add_int, hw]
    rw [if_neg]
    unfold bad
    simp only [Bool.and_eq_true, decide_eq_true_eq, not_and]
    intro a b c
    omega
  | m + 1, i, hi, hb, hbd => by
    have h1 : i ≤ n.com := by omega
    have hb0 : 0 ≤ n.b := h.1
    have w1 : IntKind.i64.wrap (i - 1) = i - 1 := wrap64 (by omega) (by omega)
    have w2 : IntKind.i64.wrap (i - 1 - (k : Int)) = i - 1 - k := wrap64 (by omega) (by omega)
    have w3 : IntKind.i64.wrap (i + 1) = i + 1 := wrap64 (by omega) (by omega)
    have ih := r_conf_2 n x k hk hl h hm m (i + 1) (by omega) (by omega) (by have := hm.2; omega)
    have ht := ref_termAt n.b n.bt n.es i h
    have ht2 : W f_ref25_TermAt 0 [.agg [.int n.b, .int n.bt, .list (n.es.map E.enc)], .int i] = some (optI (termAt n.l i)) := ht
    rw [e_f_ref26_conflicts_2]
    simp only [N.q11, N.ql, O.le_int, h1, decide_true, Option.bind_some, O.cnd_bool, if_true, ht2, optI_getD, O.calls_2, O.sub_int, w1, w2, G.p4, G.p8, O.eq_int, O.index_list, Int.natCast_nonneg, Int.toNat_natCast, List.getElem?_map, List.getElem?_eq_getElem hk, Option.map_some, E.enc, O.proj_agg, List.getElem?_cons_zero, O.ne_int, O.add_int, w3, ih, ite_some, ite_ivbool]
    by_cases c : i - 1 - (k : Int) = x.ix
    · have e : x.ix + 1 + (k : Int) = i := by omega
      rw [e]
      have d1 : decide (i - 1 - (k : Int) = x.ix) = true := by simp [c]
      have d2 : decide (i + 1 ≤ i) = false := by simp; omega
      have d3 : decide (i ≤ i) = true := by simp
      rw [d1, d2, d3]
      unfold bad
      by_cases c2 : (termAt n.l i).getD 0 = x.es[k].t
      · simp [c2]
      · simp [c2, hb, h1]
    · have d1 : decide (i - 1 - (k : Int) = x.ix) = false := by simp [c]
      have d2 : decide (i + 1 ≤ x.ix + 1 + (k : Int)) = decide (i ≤ x.ix + 1 + (k : Int)) := by rw [decide_eq_decide]; omega
      rw [d1, d2]
      simp only [Bool.false_eq_true, if_false]
theorem r_conf_1 (n : N) (x : G) (hl : x.es.length ≤ 1048576) (h : tame n.l) (hm : Mid n.com) (hb : n.b ≤ n.com) : ∀ (m k : Nat), k + m = x.es.length → W f_ref26_conflicts 1 [.int k, n.enc, x.enc] = some [.bool (anyBad n (x.ix + 1 + k) (x.es.drop k))]
  | 0, k, hk => by
    have h1 : ¬ k < x.es.length := by omega
    rw [e_f_ref26_conflicts_1, List.drop_of_length_le (by omega)]
    simp only [G.p8, O.len_list, List.length_map, O.lt_int, lt_cast, h1, decide_false, Option.bind_some, O.cnd_bool, Bool.false_eq_true, if_false, anyBad]
  | m + 1, k, hk => by
    have h1 : k < x.es.length := by omega
    have hb0 : 0 ≤ n.b := h.1
    have hb1 : n.b ≤ 1000000000000000 := h.2.1
    have w1 : IntKind.i64.wrap (n.b + 1) = n.b + 1 := wrap64 (by omega) (by omega)
    have h2 := r_conf_2 n x k h1 hl h hm (n.com - n.b).toNat (n.b + 1) (by omega) (by omega) (by omega)
    have ih := r_conf_1 n x hl h hm hb m (k + 1) (by omega)
    have e2 : x.ix + 1 + ((k + 1 : Nat) : Int) = x.ix + 1 + k + 1 := by omega
    rw [e2] at ih
    rw [e_f_ref26_conflicts_1, List.drop_eq_getElem_cons h1]
    simp only [G.p8, N.q13, O.len_list, List.length_map, O.lt_int, lt_cast, h1, decide_true, Option.bind_some, O.cnd_bool, if_true, O.add_int, w1, h2, ih, anyBad]
    have e : (decide (n.b + 1 ≤ x.ix + 1 + (k : Int)) && bad n (x.ix + 1 + k) (x.es[k]'h1)) = bad n (x.ix + 1 + k) (x.es[k]'h1) := by
      unfold bad
      by_cases c : n.b < x.ix + 1 + (k : Int)
      · have : n.b + 1 ≤ x.ix + 1 + (k : Int) := by omega
        simp [this]
      · simp [c]
    rw [e]
    cases bad n (x.ix + 1 + k) (x.es[k]'h1) <;> rfl
theorem r_conflicts {k : Nat} (n : N) (x : G) (h : Ok k n) (hl : x.es.length ≤ 1048576) : W f_ref26_conflicts 0 [n.enc, x.enc] = some [.bool (contra n (x.ix + 1) x.es)] := by
  have := r_conf_1 n x hl h.tame h.mid h.com.1 x.es.length 0 (by omega)
  simp only [Int.cast_ofNat_Int, List.drop_zero, Int.add_zero] at this
  rw [contra_any n h.com.2, e_f_ref26_conflicts_0]
  exact this
theorem r_follow (n : N) (j : Int) : W f_ref26_follow 0 [n.enc, .int j] = some (followF n j).cells := by
  rw [e_f_ref26_follow_0]
  simp only [N.q0, N.q1, N.q2, N.q3, N.q4, N.q5, N.q6, N.q7, N.q8, N.q9, N.q10, N.q11, N.q12, N.q13, N.q14, N.q15, N.q16, Option.bind_some]
  rfl
theorem r_app_2 (m : N) (x : G) (ix : Int) (y1 y2 y3 y4 y5 y6 y7 y8 y9 y10 y11 y12 y13 : IV) :
    W f_ref26_appended 2 [.int ix, .int m.id, .int m.size, .int m.role, .int m.term, .int m.vote, .int m.lead, .int m.el, .int m.to, .list (m.nx.map IV.int), .list (m.mt.map IV.int), .int m.com, .int m.app, .int m.b, .int m.bt, .list (m.es.map E.enc), .str m.sn, x.enc, y1, y2, y3, y4, y5, y6, y7, y8, y9, y10, y11, y12, y13, .list (m.vs.map IV.int)] =
      some [m.enc, .list [G.enc ⟨4, m.id, x.fr, m.term, ix, 0, 0, true, [], ⟨#[]⟩⟩]] := by
  rw [e_f_ref26_appended_2]
  simp only [G.p1, Option.bind_some, O.mkagg_eq, fold_enc, r_reply, O.calls_1]
theorem minI_swap (a c : Int) : minI a c = if a < c then a else c := by unfold minI; split <;> split <;> omega
theorem r_appended {k : Nat} (n : N) (x : G) (h : Ok k n) (hx : GOk x) (ho : n.out = []) : W f_ref26_appended 0 [n.enc, x.enc] = some [(entriesF n x).enc, .list ((entriesF n x).out.map G.enc)] := by
  have hcon := r_conflicts n x h hx.es
  have hf := r_follow n x.fr
  have hap := ref_append n.b n.bt n.es x.ix x.lt x.es h.fine hx.ix hx.es
  rw [e_f_ref26_appended_0]
  unfold entriesF
  simp only [N.q2, O.eq_int, Option.bind_some, O.cnd_bool, hcon, O.calls_1, ite_some, ite_ivbool]
  by_cases c1 : n.role = 2
  · have d1 : (if decide (n.role = 2) = true then true else contra n (x.ix + 1) x.es) = true := by simp [c1]
    rw [if_pos d1, if_pos (.inl c1), ho]
    rfl
  · rcases Bool.eq_false_or_eq_true (contra n (x.ix + 1) x.es) with c2 | c2
    · have d1 : (if decide (n.role = 2) = true then true else contra n (x.ix + 1) x.es) = true := by simp [c2]
      rw [if_pos d1, if_pos (.inr c2), ho]
      rfl
    · have d1 : ¬ (if decide (n.role = 2) = true then true else contra n (x.ix + 1) x.es) = true := by simp [c1, c2]
      have d2 : ¬ (n.role = 2 ∨ contra n (x.ix + 1) x.es = true) := by simp [c1, c2]
      rw [if_neg d1, if_neg d2]
      simp only [G.p1, G.p4, G.p5, G.p6, G.p8, Option.bind_some, hf, calls_cells, O.mkagg_eq]
      have e0 : IV.agg [.int (followF n x.fr).b, .int (followF n x.fr).bt, .list ((followF n x.fr).es.map E.enc)] = .agg [.int n.b, .int n.bt, .list (n.es.map E.enc)] := rfl
      rw [e0, hap]
      have eL : (⟨n.b, n.bt, n.es⟩ : L) = n.l := rfl
      rw [eL]
      generalize appendF n.l x.ix x.lt x.es = r
      rcases Bool.eq_false_or_eq_true r.ok with c3 | c3
      · rw [if_pos c3]
        simp only [O.calls_3, c3, O.not_bool, Bool.not_true, Option.bind_some, O.cnd_bool, Bool.false_eq_true, if_false, L.enc, O.proj_agg, List.getElem?_cons_succ, List.getElem?_cons_zero, O.lt_int, decide_eq_true_eq]
        have key : ∀ v : Int, W f_ref26_appended 1 [.int r.n, .int v, .int (followF n x.fr).id, .int (followF n x.fr).size, .int (followF n x.fr).role, .int (followF n x.fr).term, .int (followF n x.fr).vote, .int (followF n x.fr).lead, .int (followF n x.fr).el, .int (followF n x.fr).to, .list ((followF n x.fr).nx.map IV.int), .list ((followF n x.fr).mt.map IV.int), .int (followF n x.fr).com, .int (followF n x.fr).app, .int r.l.b, .int r.l.bt, .list (r.l.es.map E.enc), .str (followF n x.fr).sn, x.enc, .int 0, .int 0, .int 0, .int 0, .int 0, .int 0, .int 0, .int 0, .int 0, .int 0, .int 0, .int 0, .str ⟨#[]⟩, .list ((followF n x.fr).vs.map IV.int)] =
            some [(commitF (logF (followF n x.fr) r.l) v).enc, .list [G.enc ⟨4, n.id, x.fr, n.term, r.n, 0, 0, true, [], ⟨#[]⟩⟩]] := fun v => by
          have ha := r_app_2 (commitF (logF (followF n x.fr) r.l) v) x r.n (.int 0) (.int 0) (.int 0) (.int 0) (.int 0) (.int 0) (.int 0) (.int 0) (.int 0) (.int 0) (.int 0) (.int 0) (.str ⟨#[]⟩)
          rw [e_f_ref26_appended_1]
          simp only [O.gt_int, Option.bind_some, O.cnd_bool, decide_eq_true_eq]
          unfold commitF at ha ⊢
          by_cases c : (followF n x.fr).com < v
          · have c' : (logF (followF n x.fr) r.l).com < v := c
            rw [if_pos c, if_pos c']
            rw [if_pos c'] at ha
            exact ha
          · have c' : ¬ (logF (followF n x.fr) r.l).com < v := c
            rw [if_neg c, if_neg c']
            rw [if_neg c'] at ha
            exact ha
        have hout : (commitF (logF (followF n x.fr) r.l) (minI x.com r.n)).out = [] := by unfold commitF; split <;> exact ho
        rw [out_send _ _ _ hout]
        have hi1 : (commitF (logF (followF n x.fr) r.l) (minI x.com r.n)).id = n.id := by unfold commitF; split <;> rfl
        have hi2 : (commitF (logF (followF n x.fr) r.l) (minI x.com r.n)).term = n.term := by unfold commitF; split <;> rfl
        rw [hi1, hi2]
        have henc : ∀ (m : N) (j : Int) (y : G), (sendF m j y).enc = m.enc := fun _ _ _ => rfl
        rw [henc, minI_swap]
        by_cases c4 : x.com < r.n
        · rw [if_pos c4, if_pos c4, key]; rfl
        · rw [if_neg c4, if_neg c4, key]; rfl
      · rw [if_neg (by rw [c3]; simp)]
        simp only [O.calls_3, c3, O.not_bool, Bool.not_false, Option.bind_some, O.cnd_bool, if_true, fold_enc, r_reply, O.calls_1]
        rw [out_send _ _ _ (show (followF n x.fr).out = [] from ho)]
        rfl
end Go.CT.Memb

namespace Go.CT.Memb
open Go.Proofs

/-! ## The reference: answers, snapshots, operations -/
theorem r_ack_3 {k : Nat} (n : N) (x : G) (j : Nat) (v : Int) (h : Ok k n) (hj : x.fr = j) (j1 : j < n.nx.length) (hv : 1 ≤ v ∧ v ≤ 2000000000000000) (y1 y2 y3 y4 y5 y6 y7 y8 y9 y10 y11 y12 y13 : IV) :
    W f_ref26_acknowledged 3 [.int v, n.enc, x.enc, y1, y2, y3, y4, y5, y6, y7, y8, y9, y10, y11, y12, y13] = some (if v < n.nx[j] then [N.enc {n with nx := n.nx.set j v}, .list [(appMsg {n with nx := n.nx.set j v} x.fr v).enc]] else [n.enc, .list []]) := by
  have hs := r_set n.nx j v j1 (by have := h.nxl; omega)
  have ha := r_appendTo {n with nx := n.nx.set j v} j v h.tame (by simp only [List.getElem?_set_self j1]) ⟨by omega, by omega⟩
  rw [← hj] at hs ha
  rw [e_f_ref26_acknowledged_3]
  have hi : O.index (.list (n.nx.map IV.int)) (.int x.fr) = some (.int n.nx[j]) := by
    rw [hj, O.index_list, if_pos (by omega), Int.toNat_natCast, List.getElem?_map, List.getElem?_eq_getElem j1]; rfl
  simp only [N.q9, G.p1, Option.bind_some, hi, O.ge_int, O.cnd_bool, decide_eq_true_eq]
  by_cases c : v < n.nx[j]
  · rw [if_neg (by omega), if_pos c]
    simp only [hs, O.calls_1, N.q0, N.q1, N.q2, N.q3, N.q4, N.q5, N.q6, N.q7, N.q8, N.q10, N.q11, N.q12, N.q13, N.q14, N.q15, N.q16, Option.bind_some, O.mkagg_eq]
    show calls (W f_ref26_appendTo 0 [N.enc {n with nx := n.nx.set j v}, .int x.fr]) 1 _ = _
    rw [ha]
    simp only [O.calls_1, O.mklist_eq, Option.bind_some]
    rfl
  · rw [if_pos (by omega), if_neg c]
theorem r_ack {k : Nat} (n : N) (x : G) (h : Ok k n) (hx : GOk x) (hfr : 0 ≤ x.fr ∧ x.fr < n.size) (ho : n.out = []) : W f_ref26_acknowledged 0 [n.enc, x.enc] = some [(ackF n x).enc, .list ((ackF n x).out.map G.enc)] := by
  rw [e_f_ref26_acknowledged_0]
  unfold ackF
  by_cases c0 : n.role = 2
  rotate_left
  · have d : ¬ decide (n.role = 2) = true := by simp [c0]
    rw [if_pos c0]
    simp only [N.q2, O.ne_int, Option.bind_some, O.cnd_bool, c0, decide_false, Bool.not_false, if_true, ho, List.map_nil]
  obtain ⟨l1, l2⟩ := h.led c0
  obtain ⟨j, hj⟩ := Int.eq_ofNat_of_zero_le hfr.1
  have hj' : x.fr = ((j : Nat) : Int) := hj
  have j1 : j < n.nx.length := by omega
  have j2 : j < n.mt.length := by omega
  have hla := last_bd h.fine
  have b1 := h.nx _ (List.getElem_mem j1)
  have b2 := h.mt _ (List.getElem_mem j2)
  have ht : x.fr.toNat = j := by omega
  have g1 : n.nx.getD j 0 = n.nx[j] := by rw [List.getD_eq_getElem?_getD, List.getElem?_eq_getElem j1]; rfl
  have g2 : n.mt.getD j 0 = n.mt[j] := by rw [List.getD_eq_getElem?_getD, List.getElem?_eq_getElem j2]; rfl
  obtain ⟨x1, x2⟩ := hx.ix
  have hi1 : O.index (.list (n.nx.map IV.int)) (.int x.fr) = some (.int n.nx[j]) := by
    rw [hj', O.index_list, if_pos (by omega), Int.toNat_natCast, List.getElem?_map, List.getElem?_eq_getElem j1]; rfl
  have hi2 : O.index (.list (n.mt.map IV.int)) (.int x.fr) = some (.int n.mt[j]) := by
    rw [hj', O.index_list, if_pos (by omega), Int.toNat_natCast, List.getElem?_map, List.getElem?_eq_getElem j2]; rfl
  have d0 : decide (n.role = 2) = true := by simp [c0]
  rw [if_neg (by simp [c0])]
  simp only [N.q2, O.ne_int, Option.bind_some, O.cnd_bool, d0, Bool.not_true, Bool.false_eq_true, if_false, N.ql, r_last n h.tame, O.calls_2, G.p7, O.not_bool, ht, g1, g2]
  cases hok : x.ok with
  | false =>
    have w1 : IntKind.i64.wrap (n.nx[j] - 1) = n.nx[j] - 1 := wrap64 (by omega) (by omega)
    have w3 : IntKind.i64.wrap (n.mt[j] + 1) = n.mt[j] + 1 := wrap64 (by omega) (by omega)
    have hback : backI n x = maxI (minI x.ix (n.nx[j] - 2) + 1) (n.mt[j] + 1) := by unfold backI; rw [ht, g1, g2]
    have hb1 : n.mt[j] + 1 ≤ backI n x := by rw [hback]; unfold maxI; split <;> omega
    have hb2 : backI n x ≤ 2000000000000000 := by rw [hback]; unfold maxI minI; split <;> (try split) <;> omega
    have h3 := r_ack_3 n x j (backI n x) h hj' j1 (by omega)
    have h1 : ∀ (a : Int) (y1 y2 y3 y4 y5 y6 y7 y8 y9 y10 y11 y12 y13 : IV), maxI a (n.mt[j] + 1) = backI n x → W f_ref26_acknowledged 1 [.int a, n.enc, x.enc, y1, y2, y3, y4, y5, y6, y7, y8, y9, y10, y11, y12, y13] = some (if backI n x < n.nx[j] then [N.enc {n with nx := n.nx.set j (backI n x)}, .list [(appMsg {n with nx := n.nx.set j (backI n x)} x.fr (backI n x)).enc]] else [n.enc, .list []]) := fun a y1 y2 y3 y4 y5 y6 y7 y8 y9 y10 y11 y12 y13 ha => by
      rw [e_f_ref26_acknowledged_1]
      simp only [N.q10, G.p1, Option.bind_some, hi2, O.add_int, w3, O.lt_int, O.cnd_bool, decide_eq_true_eq]
      unfold maxI at ha
      by_cases c : a < n.mt[j] + 1
      · rw [if_pos c]
        rw [if_pos c] at ha
        rw [ha, h3]
      · rw [if_neg c]
        rw [if_neg c] at ha
        rw [ha, h3]
    simp only [Bool.not_false, if_true, N.q9, G.p1, G.p4, Option.bind_some, hi1, O.sub_int, w1, O.lt_int, O.cnd_bool, decide_eq_true_eq]
    have fin : some (if backI n x < n.nx[j] then [N.enc {n with nx := n.nx.set j (backI n x)}, .list [(appMsg {n with nx := n.nx.set j (backI n x)} x.fr (backI n x)).enc]] else [n.enc, .list []]) = some [(if backI n x < n.nx[j] then tellF {n with nx := n.nx.set j (backI n x)} x.fr (backI n x) else n).enc, .list ((if backI n x < n.nx[j] then tellF {n with nx := n.nx.set j (backI n x)} x.fr (backI n x) else n).out.map G.enc)] := by
      by_cases c : backI n x < n.nx[j]
      · simp only [if_pos c]
        unfold tellF
        simp only [ho, List.nil_append, List.map_cons, List.map_nil]
        rfl
      · simp only [if_neg c, ho, List.map_nil]
    by_cases c : x.ix < n.nx[j] - 1
    · have w2 : IntKind.i64.wrap (x.ix + 1) = x.ix + 1 := wrap64 (by omega) (by omega)
      rw [if_pos c]
      simp only [O.add_int, w2, Option.bind_some]
      rw [h1 _ _ _ _ _ _ _ _ _ _ _ _ _ _ (by rw [hback]; congr 1; unfold minI; rw [if_neg (by omega)])]
      exact fin
    · rw [if_neg c]
      rw [h1 _ _ _ _ _ _ _ _ _ _ _ _ _ _ (by rw [hback]; congr 1; unfold minI; rw [if_pos (by omega)]; omega)]
      exact fin
  | true =>
    have hm : minI x.ix (lastI n.l) ≤ lastI n.l := by unfold minI; split <;> omega
    have h2 : ∀ (y1 y2 y3 y4 y5 y6 y7 y8 y9 y10 y11 y12 y13 : IV), W f_ref26_acknowledged 2 [.int (lastI n.l), .int (minI x.ix (lastI n.l)), n.enc, x.enc, y1, y2, y3, y4, y5, y6, y7, y8, y9, y10, y11, y12, y13] = some [(if minI x.ix (lastI n.l) ≤ n.mt[j] then n else if minI x.ix (lastI n.l) < lastI n.l then tellF (advF {n with mt := n.mt.set j (minI x.ix (lastI n.l)), nx := n.nx.set j (minI x.ix (lastI n.l) + 1)}) x.fr (minI x.ix (lastI n.l) + 1) else advF {n with mt := n.mt.set j (minI x.ix (lastI n.l)), nx := n.nx.set j (minI x.ix (lastI n.l) + 1)}).enc,
        .list ((if minI x.ix (lastI n.l) ≤ n.mt[j] then n else if minI x.ix (lastI n.l) < lastI n.l then tellF (advF {n with mt := n.mt.set j (minI x.ix (lastI n.l)), nx := n.nx.set j (minI x.ix (lastI n.l) + 1)}) x.fr (minI x.ix (lastI n.l) + 1) else advF {n with mt := n.mt.set j (minI x.ix (lastI n.l)), nx := n.nx.set j (minI x.ix (lastI n.l) + 1)}).out.map G.enc)] := fun y1 y2 y3 y4 y5 y6 y7 y8 y9 y10 y11 y12 y13 => by
      generalize minI x.ix (lastI n.l) = i at hm
      rw [e_f_ref26_acknowledged_2]
      simp only [N.q10, G.p1, Option.bind_some, hi2, O.le_int, O.cnd_bool, decide_eq_true_eq]
      by_cases c : i ≤ n.mt[j]
      · simp only [if_pos c, ho, List.map_nil]
      · have w4 : IntKind.i64.wrap (i + 1) = i + 1 := wrap64 (by omega) (by omega)
        have s1 := r_set n.mt j i j2 (by have := h.nxl; omega)
        have s2 := r_set n.nx j (i + 1) j1 (by have := h.nxl; omega)
        have hk := ok_sets h j i (i + 1) (by omega) (by omega)
        have ha := r_advance {n with mt := n.mt.set j i, nx := n.nx.set j (i + 1)} hk.tame hk.mid (by have := hk.nxl; omega) hk.com.1
        obtain ⟨cm, ap, hadv⟩ := advF_upto {n with mt := n.mt.set j i, nx := n.nx.set j (i + 1)}
        rw [hadv] at ha ⊢
        have hat := r_appendTo {n with mt := n.mt.set j i, nx := n.nx.set j (i + 1), com := cm, app := ap} j (i + 1) h.tame (by simp only [List.getElem?_set_self j1]) ⟨by omega, by omega⟩
        rw [← hj'] at s1 s2 hat
        rw [if_neg c, if_neg c]
        simp only [s1, O.calls_1, N.q0, N.q1, N.q2, N.q3, N.q4, N.q5, N.q6, N.q7, N.q8, N.q9, N.q11, N.q12, N.q13, N.q14, N.q15, N.q16, Option.bind_some, O.add_int, w4, s2, O.mkagg_eq]
        show calls (W f_ref26_advance 0 [N.enc {n with mt := n.mt.set j i, nx := n.nx.set j (i + 1)}]) 1 _ = _
        rw [ha]
        simp only [O.calls_1, O.lt_int, Option.bind_some, O.cnd_bool, decide_eq_true_eq, hat, O.mklist_eq]
        by_cases c2 : i < lastI n.l
        · simp only [if_pos c2]
          unfold tellF
          simp only [ho, List.nil_append, List.map_cons, List.map_nil]
          rfl
        · simp only [if_neg c2, ho, List.map_nil]
    simp only [Bool.not_true, Bool.false_eq_true, if_false, G.p4, Option.bind_some, O.gt_int, O.cnd_bool, decide_eq_true_eq, reduceCtorEq]
    unfold minI at h2 ⊢
    by_cases c : lastI n.l < x.ix
    · simp only [if_pos c] at h2 ⊢
      exact h2 _ _ _ _ _ _ _ _ _ _ _ _ _
    · simp only [if_neg c] at h2 ⊢
      exact h2 _ _ _ _ _ _ _ _ _ _ _ _ _
theorem r_compactL (l : L) (i t : Int) (h : tame l) (ht : termAt l i = some t) : W f_ref25_Compact 0 [.agg [.int l.b, .int l.bt, .list (l.es.map E.enc)], .int i] = some [.agg [.int i, .int t, .list ((compactL l i t).es.map E.enc)], .int 0] := by
  have hr := ref_termAt l.b l.bt l.es i h
  have ht2 : termAt ⟨l.b, l.bt, l.es⟩ i = some t := ht
  obtain ⟨g1, g2⟩ := termAt_le ht2
  have hb1 : 0 ≤ l.b := h.1
  have hb2 : l.b ≤ 1000000000000000 := h.2.1
  have hb3 : l.es.length ≤ 4194304 := h.2.2
  have hw : IntKind.i64.wrap (i - l.b) = i - l.b := wrap64 (by omega) (by omega)
  have hs : O.sliceLo (.list (l.es.map E.enc)) (.int (i - l.b)) = some (.list ((l.es.drop (i - l.b).toNat).map E.enc)) := by
    rw [O.sliceLo_list, if_pos ⟨by omega, by rw [List.length_map]; omega⟩, List.map_drop]
  rw [e_f_ref25_Compact_0]
  simp only [hr, ht2, optI, O.calls_2, O.not_bool, Bool.not_true, Option.bind_some, O.cnd_bool, Bool.false_eq_true, if_false, O.proj_agg, List.getElem?_cons_succ, List.getElem?_cons_zero, O.sub_int, hw, hs, O.mkagg_eq]
  rfl
theorem r_inst_1 (m : N) (x : G) (y1 y2 y3 y4 y5 y6 y7 y8 y9 y10 y11 y12 y13 : IV) (a c s : IV) :
    W f_ref26_installed 1 [.int m.id, .int m.size, .int m.role, .int m.term, .int m.vote, .int m.lead, .int m.el, .int m.to, .list (m.nx.map IV.int), .list (m.mt.map IV.int), a, c, .int m.b, .int m.bt, .list (m.es.map E.enc), s, x.enc, y1, y2, y3, y4, y5, y6, y7, y8, y9, y10, y11, y12, y13, .list (m.vs.map IV.int)] =
      some [N.enc {m with com := x.ix, app := x.ix, sn := x.sn}, .list [G.enc ⟨4, m.id, x.fr, m.term, x.ix, 0, 0, true, [], ⟨#[]⟩⟩]] := by
  have hr := r_reply {m with com := x.ix, app := x.ix, sn := x.sn} 4 x.fr x.ix true
  rw [e_f_ref26_installed_1]
  simp only [G.p9, G.p4, G.p1, Option.bind_some, O.mkagg_eq]
  show calls (W f_ref26_reply 0 [N.enc {m with com := x.ix, app := x.ix, sn := x.sn}, .int 4, .int x.fr, .bool true, .int x.ix]) 1 _ = _
  rw [hr]
  rfl
theorem r_installed {k : Nat} (n : N) (x : G) (h : Ok k n) (ho : n.out = []) : W f_ref26_installed 0 [n.enc, x.enc] = some [(snapF n x).enc, .list ((snapF n x).out.map G.enc)] := by
  have hf := r_follow n x.fr
  rw [e_f_ref26_installed_0]
  unfold snapF
  simp only [N.q2, O.eq_int, Option.bind_some, O.cnd_bool, decide_eq_true_eq]
  by_cases c0 : n.role = 2
  · rw [if_pos c0, if_pos c0, ho]; rfl
  · rw [if_neg c0, if_neg c0]
    have hfo : (followF n x.fr).out = [] := ho
    have hcom : (followF n x.fr).com = n.com := rfl
    have ht := ref_termAt n.b n.bt n.es x.ix h.tame
    have ht2 : W f_ref25_TermAt 0 [.agg [.int (followF n x.fr).b, .int (followF n x.fr).bt, .list ((followF n x.fr).es.map E.enc)], .int x.ix] = some (optI (termAt n.l x.ix)) := ht
    simp only [G.p1, G.p4, Option.bind_some, hf, calls_cells, O.le_int, O.cnd_bool, decide_eq_true_eq, O.mkagg_eq, fold_enc, r_reply, O.calls_1, ht2, optI_getD, O.calls_2]
    by_cases c1 : x.ix ≤ n.com
    · have c1' : x.ix ≤ (followF n x.fr).com := c1
      rw [if_pos c1, if_pos c1', out_send _ _ _ hfo]; rfl
    · have c1' : ¬ x.ix ≤ (followF n x.fr).com := c1
      rw [if_neg c1, if_neg c1']
      have hsh : commitF {logF (followF n x.fr) (snapL n x) with sn := x.sn} x.ix = {logF (followF n x.fr) (snapL n x) with com := x.ix, app := x.ix, sn := x.sn} := if_pos (by show n.com < x.ix; omega)
      rw [hsh, out_send _ _ _ (show ({logF (followF n x.fr) (snapL n x) with com := x.ix, app := x.ix, sn := x.sn} : N).out = [] from ho)]
      have key := r_inst_1 (logF (followF n x.fr) (snapL n x)) x (.int 0) (.int 0) (.int 0) (.int 0) (.int 0) (.int 0) (.int 0) (.int 0) (.int 0) (.int 0) (.int 0) (.int 0) (.str ⟨#[]⟩) (.int n.com) (.int (followF n x.fr).app) (.str (followF n x.fr).sn)
      by_cases c2 : termAt n.l x.ix = some x.lt
      · have hL : snapL n x = compactL n.l x.ix x.lt := if_pos c2
        rw [hL] at key ⊢
        have hcp := r_compactL n.l x.ix x.lt h.tame c2
        have hcp2 : W f_ref25_Compact 0 [.agg [.int (followF n x.fr).b, .int (followF n x.fr).bt, .list ((followF n x.fr).es.map E.enc)], .int x.ix] = some [.agg [.int x.ix, .int x.lt, .list ((compactL n.l x.ix x.lt).es.map E.enc)], .int 0] := hcp
        simp only [c2, Option.isSome_some, Option.getD_some, O.cnd_bool, if_true, G.p5, Option.bind_some, O.eq_int, decide_true, hcp2, O.calls_2, O.proj_agg, List.getElem?_cons_succ, List.getElem?_cons_zero]
        exact key
      · have hL : snapL n x = ⟨x.ix, x.lt, []⟩ := if_neg c2
        rw [hL] at key ⊢
        have hcond : (if (termAt n.l x.ix).isSome = true then some (IV.bool (decide ((termAt n.l x.ix).getD 0 = x.lt))) else some (IV.bool false)) = some (.bool false) := by
          cases hh : termAt n.l x.ix with
          | none => rfl
          | some t =>
            have : ¬ t = x.lt := fun e => c2 (by rw [hh, e])
            simp [this]
        simp only [O.cnd_bool, G.p5, Option.bind_some, O.eq_int, hcond, Bool.false_eq_true, if_false]
        exact key
theorem r_ign_1 (x : G) (hl : x.es.length ≤ 1048576) : ∀ (m i : Nat), i + m = x.es.length →
    W f_ref26_ignored 1 [.int i, x.enc] = some [.bool (if x.kind = 3 then (x.es.drop i).any (over x) else if x.kind = 5 then decide (x.ix < 1) || decide (1000000000000000 < x.ix) || decide (x.lt < 1) || decide (x.term < x.lt) else false)]
  | 0, i, h => by
    have h1 : ¬ i < x.es.length := by omega
    rw [e_f_ref26_ignored_1, List.drop_of_length_le (by omega)]
    simp only [G.p8, G.p0, G.p3, G.p4, G.p5, O.len_list, List.length_map, O.lt_int, lt_cast, h1, decide_false, Option.bind_some, O.cnd_bool, Bool.false_eq_true, if_false, O.eq_int, O.gt_int, ite_some, ite_ivbool, List.any_nil]
    by_cases c3 : x.kind = 3
    · have c5 : ¬ x.kind = 5 := by omega
      simp [c3]
    · by_cases c5 : x.kind = 5
      · by_cases a1 : x.ix < 1 <;> by_cases a2 : 1000000000000000 < x.ix <;> by_cases a3 : x.lt < 1 <;> simp [c5, a1, a2, a3]
      · simp [c3, c5]
  | m + 1, i, h => by
    have h1 : i < x.es.length := by omega
    have hw : IntKind.i64.wrap ((i : Int) + 1) = ((i + 1 : Nat) : Int) := by rw [wrap64 (by omega) (by omega)]; rfl
    have ih := r_ign_1 x hl m (i + 1) (by omega)
    rw [e_f_ref26_ignored_1, List.drop_eq_getElem_cons h1, List.any_cons]
    simp only [G.p8, G.p0, G.p3, O.len_list, List.length_map, O.lt_int, lt_cast, h1, decide_true, Option.bind_some, O.cnd_bool, if_true, O.eq_int, O.index_list, Int.natCast_nonneg, Int.toNat_natCast, List.getElem?_map, List.getElem?_eq_getElem h1, Option.map_some, E.enc, O.proj_agg, List.getElem?_cons_zero, O.gt_int, ite_some, ite_ivbool, O.add_int, hw, ih]
    by_cases c3 : x.kind = 3
    · have e : decide (x.term < x.es[i].t) = over x x.es[i] := rfl
      rw [e]
      cases over x x.es[i] <;> simp [c3]
    · simp [c3]
theorem r_ignored (n : N) (x : G) (hl : x.es.length ≤ 1048576) : W f_ref26_ignored 0 [n.enc, x.enc] = some [.bool (ignF n x)] := by
  have h1 := r_ign_1 x hl x.es.length 0 (by omega)
  simp only [Int.cast_ofNat_Int, List.drop_zero] at h1
  rw [e_f_ref26_ignored_0]
  unfold ignF
  simp only [N.q0, N.q1, Option.bind_some, G.p0, G.p1, G.p2, G.p3, O.ne_int, O.eq_int, O.lt_int, O.ge_int, O.gt_int, O.cnd_bool, ite_some, ite_ivbool, h1, Option.some.injEq]
  generalize (if x.kind = 3 then x.es.any (over x) else if x.kind = 5 then decide (x.ix < 1) || decide (1000000000000000 < x.ix) || decide (x.lt < 1) || decide (x.term < x.lt) else false) = q
  by_cases a1 : x.to = n.id <;> by_cases a2 : x.fr = n.id <;> by_cases a3 : x.fr < 0 <;> by_cases a4 : n.size ≤ x.fr <;> by_cases a5 : x.term < 0 <;> by_cases a6 : 1000000000000000 < x.term <;> (by_cases a7 : x.kind < 1 <;> by_cases a8 : 5 < x.kind <;> simp [a1, a2, a3, a4, a5, a6, a7, a8])
end Go.CT.Memb

namespace Go.CT.Memb
open Go.Proofs

/-! ## The reference's operations; the law MemberSays -/
theorem r_kind {k : Nat} (n : N) (x : G) (h : Ok k n) (hk : k ≤ 1000) (hx : GOk x) (hfr : 0 ≤ x.fr ∧ x.fr < n.size) (hkd : x.kind ≤ 5 ∧ 1 ≤ x.kind) (ho : n.out = []) (y1 y2 y3 y4 y5 y6 y7 y8 y9 y10 y11 y12 y13 : IV) :
    W f_ref26_Handle 1 [n.enc, x.enc, y1, y2, y3, y4, y5, y6, y7, y8, y9, y10, y11, y12, y13] = some [(kindF n x).enc, .list ((kindF n x).out.map G.enc)] := by
  have q1 := r_vote n x h.tame ho
  have q2 := r_voted n x h hk ho
  have q3 := r_appended n x h hx ho
  have q4 := r_ack n x h hx hfr ho
  have q5 := r_installed n x h ho
  rw [e_f_ref26_Handle_1]
  unfold kindF
  simp only [G.p0, Option.bind_some, O.eq_int, O.cnd_bool, decide_eq_true_eq, q1, q2, q3, q4, q5, O.calls_2]
  by_cases c1 : x.kind = 1
  · simp only [if_pos c1]
  · by_cases c2 : x.kind = 2
    · simp only [if_neg c1, if_pos c2]
    · by_cases c3 : x.kind = 3
      · simp only [if_neg c1, if_neg c2, if_pos c3]
      · by_cases c4 : x.kind = 4
        · simp only [if_neg c1, if_neg c2, if_neg c3, if_pos c4]
        · have c5 : x.kind = 5 := by omega
          simp only [if_neg c1, if_neg c2, if_neg c3, if_neg c4, if_pos c5]
theorem r_handle {k : Nat} (n : N) (x : G) (h : Ok k n) (hk : k ≤ 1000) (hx : GOk x) : W f_ref26_Handle 0 [n.enc, x.enc] = some [(handleF n x).enc, .list ((handleF n x).out.map G.enc)] := by
  have hi := r_ignored (bare n) x hx.es
  have e0 : (bare n).enc = n.enc := rfl
  rw [e0] at hi
  have hs := r_stale (bare n) x rfl
  rw [e0] at hs
  rw [e_f_ref26_Handle_0]
  unfold handleF
  simp only [hi, O.calls_1, O.cnd_bool, G.p3, N.q3, Option.bind_some, O.lt_int, O.gt_int, decide_eq_true_eq, hs]
  by_cases c0 : ignF (bare n) x = true
  · rw [if_pos c0, if_pos c0]; rfl
  · obtain ⟨i1, i2, i3, i4, i5, i6, i7, i8, i9, i10⟩ := ign_inv c0
    rw [if_neg c0, if_neg c0]
    by_cases c1 : x.term < n.term
    · rw [if_pos c1, if_pos c1]
      have : (staleF (bare n) x).enc = n.enc := by
        unfold staleF
        split
        · rfl
        · split <;> rfl
      rw [this]
    · rw [if_neg c1, if_neg c1]
      have ht := ok_term (x := x) (ok_bare h) ⟨i5, i6⟩
      by_cases c2 : n.term < x.term
      · have e2 : termF (bare n) x = {bare n with role := 0, term := x.term, vote := -1, lead := -1, vs := [], nx := [], mt := []} := if_pos c2
        have hq := r_kind (termF (bare n) x) x ht hk hx (by rw [e2]; exact ⟨i3, i4⟩) ⟨i8, i7⟩ (by rw [e2]; rfl) (.int 0) (.int 0) (.int 0) (.int 0) (.int 0) (.int 0) (.int 0) (.int 0) (.int 0) (.int 0) (.int 0) (.int 0) (.str ⟨#[]⟩)
        rw [if_pos c2, ← hq, e2]
        simp only [N.q0, N.q1, N.q2, N.q4, N.q5, N.q6, N.q7, N.q8, N.q9, N.q10, N.q11, N.q12, N.q13, N.q14, N.q15, N.q16, Option.bind_some, O.mkagg_eq]
        rfl
      · have e2 : termF (bare n) x = bare n := if_neg c2
        have hq := r_kind (termF (bare n) x) x ht hk hx (by rw [e2]; exact ⟨i3, i4⟩) ⟨i8, i7⟩ (by rw [e2]; rfl) (.int 0) (.int 0) (.int 0) (.int 0) (.int 0) (.int 0) (.int 0) (.int 0) (.int 0) (.int 0) (.int 0) (.int 0) (.str ⟨#[]⟩)
        rw [if_neg c2, ← hq, e2]
        rfl
theorem r_propose {k : Nat} (n : N) (d : ByteArray) (h : Ok k n) : W f_ref26_Propose 0 [n.enc, .str d] = some [(propF n d).enc, .list ((propF n d).out.map G.enc), .int (propE n d)] := by
  rw [e_f_ref26_Propose_0]
  unfold propF propE
  simp only [N.q2, N.q15, O.ne_int, Option.bind_some, O.cnd_bool, O.slen_str, O.gt_int, O.len_list, List.length_map, O.ge_int, decide_eq_true_eq, Bool.not_eq_true', decide_eq_false_iff_not]
  by_cases c0 : n.role = 2
  · have c0' : ¬ ¬ n.role = 2 := fun g => g c0
    by_cases c1 : 20000 < d.size
    · have c1' : (20000 : Int) < (d.size : Int) := by omega
      rw [if_neg c0', if_pos c1', if_pos (.inr (.inl c1)), if_neg (by simp [c0]), if_pos c1]; rfl
    · have c1' : ¬ (20000 : Int) < (d.size : Int) := by omega
      by_cases c2 : 400 ≤ n.es.length
      · have c2' : (400 : Int) ≤ (n.es.length : Int) := by omega
        rw [if_neg c0', if_neg c1', if_pos c2', if_pos (.inr (.inr c2)), if_neg (by simp [c0]), if_neg c1, if_pos c2]; rfl
      · have c2' : ¬ (400 : Int) ≤ (n.es.length : Int) := by omega
        have hb := ok_bare h
        have h1 := ok_add hb (h.pos (by omega)) (by show n.es.length < 400; omega) d
        have hw := r_write (bare n) d h1 c0
        have e0 : (bare n).enc = n.enc := rfl
        rw [e0] at hw
        obtain ⟨_, f2⟩ := r_finish (addF (bare n) d) h1 c0
        obtain ⟨s1, s2⟩ := ownR_say (addF (bare n) d) h.id
        rw [if_neg c0', if_neg c1', if_neg c2', if_neg (by omega), if_neg (by simp [c0]), if_neg c1, if_neg c2]
        simp only [hw, O.calls_1, f2]
        rw [s1, s2]
        rfl
  · rw [if_pos c0, if_pos (.inl c0), if_pos c0]; rfl
theorem r_compact {k : Nat} (n : N) (i : Int) (s : ByteArray) (h : Ok k n) : W f_ref26_Compact 0 [n.enc, .int i, .str s] = some [(compF n i s).enc, .int (compE n i)] := by
  rw [e_f_ref26_Compact_0]
  unfold compF compE
  have hcond : (if (if i < n.b then true else decide (n.app < i)) = true then true else decide (1000000000000000 < i)) = decide (i < n.b ∨ n.app < i ∨ 1000000000000000 < i) := by
    by_cases c1 : i < n.b
    · simp [c1]
    · by_cases c2 : n.app < i
      · simp [c2]
      · simp [c1, c2]
  simp only [N.q13, N.q12, O.lt_int, Option.bind_some, O.cnd_bool, O.gt_int, ite_some, ite_ivbool, hcond, decide_eq_true_eq]
  by_cases c : i < n.b ∨ n.app < i ∨ 1000000000000000 < i
  · rw [if_pos c, if_pos c, if_pos c]; rfl
  · rw [if_neg c, if_neg c, if_neg c]
    have ha := h.app
    have hcm := h.com
    obtain ⟨t, ht⟩ := termAt_some (l := n.l) (i := i) (by show n.b ≤ i; omega) (by omega)
    have hcp := r_compactL n.l i t h.tame ht
    have hcp2 : W f_ref25_Compact 0 [.agg [.int n.b, .int n.bt, .list (n.es.map E.enc)], .int i] = some [.agg [.int i, .int t, .list ((compactL n.l i t).es.map E.enc)], .int 0] := hcp
    rw [ht]
    simp only [N.ql, hcp2, O.calls_2, N.q0, N.q1, N.q2, N.q3, N.q4, N.q5, N.q6, N.q7, N.q8, N.q9, N.q10, N.q11, N.q12, N.q14, N.q15, N.q16, Option.bind_some, O.proj_agg, List.getElem?_cons_succ, List.getElem?_cons_zero, O.mkagg_eq, Option.getD_some]
    rfl
theorem r_restart (n : N) : W f_ref26_Restart 0 [n.enc] = some (restF n).cells := by
  rw [e_f_ref26_Restart_0]
  simp only [N.q0, N.q1, N.q3, N.q4, N.q7, N.q13, N.q16, N.ql, Option.bind_some, O.proj_agg, List.getElem?_cons_succ, List.getElem?_cons_zero]
  rfl
theorem r_do {k : Nat} (n : N) (a : Act) (h : Ok k n) (hk : k ≤ 1000) (hx : GOk a.x) : W f_ref26_Do 0 [n.enc, a.enc] = some [(doF n a).enc, .list ((doF n a).out.map G.enc), .int (doE n a)] := by
  rw [e_f_ref26_Do_0]
  unfold doF doE
  have q0 := r_tick n h hk
  have q1 := r_handle n a.x h hk hx
  have q2 := r_propose n a.d h
  have q3 := r_compact n a.i a.d h
  have q4 := r_restart n
  simp only [Act.pr0, Act.prx, Act.prd, Act.pri, Option.bind_some, O.eq_int, O.cnd_bool, decide_eq_true_eq, q0, q1, q2, q3, q4, O.calls_2, O.calls_3, calls_cells, O.mkagg_eq, fold_enc]
  by_cases c0 : a.kind = 0
  · simp only [if_pos c0]
  · by_cases c1 : a.kind = 1
    · simp only [if_neg c0, if_pos c1]
    · by_cases c2 : a.kind = 2
      · simp only [if_neg c0, if_neg c1, if_pos c2]
      · by_cases c3 : a.kind = 3
        · simp only [if_neg c0, if_neg c1, if_neg c2, if_pos c3, comp_out, List.map_nil]
        · simp only [if_neg c0, if_neg c1, if_neg c2, if_neg c3]
          rfl

/-! ### what is said is short -/
def Short (l : List G) : Prop := ∀ y ∈ l, y.es.length ≤ 8
theorem short_nil : Short [] := fun y hy => by simp at hy
theorem short_app {a b : List G} (ha : Short a) (hb : Short b) : Short (a ++ b) := fun y hy => by
  rcases List.mem_append.1 hy with h | h
  · exact ha y h
  · exact hb y h
theorem short_appMsg (n : N) (j i : Int) : (appMsg n j i).es.length ≤ 8 := by
  unfold appMsg
  split
  · simp
  · show ((fromI n.l i 8).getD []).length ≤ 8
    unfold fromI
    split
    · simp
    · simp only [Option.getD_some, List.length_take]
      have : (8 : Int).toNat = 8 := rfl
      omega
theorem short_msgs (n : N) : ∀ (k i : Nat), Short (msgs n k i)
  | 0, _ => short_nil
  | k + 1, i => by
    rw [msgs]
    refine short_app ?_ (short_msgs n k (i + 1))
    split
    · exact short_nil
    · intro y hy
      simp only [List.mem_singleton] at hy
      rw [hy]; exact short_appMsg _ _ _
theorem short_asks (n : N) (ix lt : Int) : ∀ (k i : Nat), Short (asks n ix lt k i)
  | 0, _ => short_nil
  | k + 1, i => by
    rw [asks]
    refine short_app ?_ (short_asks n ix lt k (i + 1))
    split
    · exact short_nil
    · intro y hy
      simp only [List.mem_singleton] at hy
      rw [hy]; simp
theorem short_led {m : N} (ho : m.out = []) : Short (sayAdv (ownF m)).out := by
  rw [sayAdv_out]
  have h1 : (ownF m).out = [] := ho
  rw [h1]
  exact short_app short_nil (short_msgs _ _ _)
theorem short_lead {n : N} (ho : n.out = []) : Short (leadF n).out := by
  obtain ⟨b1, b2, b3, b4, b5, b6, b7, b8, b9, b10⟩ := lead1_rest n
  exact short_led (by rw [b10, ho])
theorem short_send {n : N} {j : Int} {x : G} (h : n.out = []) (hx : x.es.length ≤ 8) : Short (sendF n j x).out := by
  rw [out_send n j x h]
  intro y hy
  simp only [List.mem_singleton] at hy
  rw [hy]; exact hx
theorem short_of {n : N} (ho : n.out = []) : Short n.out := by rw [ho]; exact short_nil
theorem short_tell {n : N} {j i : Int} (ho : n.out = []) : Short (tellF n j i).out := by
  show Short (n.out ++ [appMsg n j i])
  rw [ho]
  intro y hy
  simp only [List.nil_append, List.mem_singleton] at hy
  rw [hy]; exact short_appMsg _ _ _
theorem short_kind {n : N} {x : G} (ho : n.out = []) : Short (kindF n x).out := by
  unfold kindF
  split
  · unfold voteF
    exact short_send (by split <;> exact ho) (by simp)
  · split
    · unfold votedF
      split
      · exact short_of ho
      · split
        · exact short_lead (n := {n with vs := putF n.vs x.fr}) ho
        · exact short_of (n := {n with vs := putF n.vs x.fr}) ho
    · split
      · unfold entriesF
        split
        · exact short_of ho
        · refine short_send ?_ (by simp)
          split
          · unfold commitF
            split <;> exact ho
          · exact ho
      · split
        · unfold ackF
          split
          · exact short_of ho
          · split
            · split
              · exact short_tell (n := {n with nx := n.nx.set x.fr.toNat (backI n x)}) ho
              · exact short_of ho
            · split
              · exact short_of ho
              · obtain ⟨c, d, h⟩ := advF_upto {n with mt := n.mt.set x.fr.toNat (minI x.ix (lastI n.l)), nx := n.nx.set x.fr.toNat (minI x.ix (lastI n.l) + 1)}
                rw [h]
                split
                · exact short_tell (n := {n with mt := n.mt.set x.fr.toNat (minI x.ix (lastI n.l)), nx := n.nx.set x.fr.toNat (minI x.ix (lastI n.l) + 1), com := c, app := d}) ho
                · exact short_of (n := {n with mt := n.mt.set x.fr.toNat (minI x.ix (lastI n.l)), nx := n.nx.set x.fr.toNat (minI x.ix (lastI n.l) + 1), com := c, app := d}) ho
        · split
          · unfold snapF
            split
            · exact short_of ho
            · split
              · exact short_send ho (by simp)
              · refine short_send ?_ (by simp)
                unfold commitF
                split <;> exact ho
          · exact short_of ho
theorem short_do (n : N) (a : Act) : Short (doF n a).out := by
  unfold doF
  split
  · unfold tickF
    split
    · exact short_app short_nil (short_msgs _ _ _)
    · split
      · unfold electF
        split
        · exact short_lead (n := elect0 {bare n with el := n.el + 1}) rfl
        · exact short_app short_nil (short_asks _ _ _ _ _)
      · exact short_nil
  · split
    · unfold handleF
      split
      · exact short_nil
      · split
        · unfold staleF
          split
          · exact short_send rfl (by simp)
          · split
            · exact short_send rfl (by simp)
            · exact short_nil
        · refine short_kind ?_
          unfold termF; split <;> rfl
    · split
      · unfold propF
        split
        · exact short_nil
        · exact short_led (m := addF (bare n) a.d) rfl
      · split
        · rw [comp_out]; exact short_nil
        · exact short_nil
theorem r_entries (es : List E) (h : es.length ≤ 4194304) : W f_ref25_Entries 0 [.list (es.map E.enc), .list (es.map E.enc)] = some [.bool true] := by
  rw [entries es es h]; simp
theorem r_msgs_1 (l : List G) (hs : Short l) (hl : l.length ≤ 1048576) : ∀ (k i : Nat), i + k = l.length → W f_ref26_SameMessages 1 [.list (l.map G.enc), .list (l.map G.enc), .int i] = some [.bool true]
  | 0, i, h => by
    have h1 : ¬ i < l.length := by omega
    rw [e_f_ref26_SameMessages_1]
    simp only [O.len_list, List.length_map, O.lt_int, lt_cast, h1, decide_false, Option.bind_some, O.cnd_bool, Bool.false_eq_true, if_false]
  | k + 1, i, h => by
    have h1 : i < l.length := by omega
    have hw : IntKind.i64.wrap ((i : Int) + 1) = ((i + 1 : Nat) : Int) := by rw [wrap64 (by omega) (by omega)]; rfl
    have he := r_entries l[i].es (by have := hs _ (List.getElem_mem h1); omega)
    rw [e_f_ref26_SameMessages_1]
    simp only [O.len_list, List.length_map, O.lt_int, lt_cast, h1, decide_true, Option.bind_some, O.cnd_bool, if_true, O.index_list, Int.natCast_nonneg, Int.toNat_natCast, List.getElem?_map, List.getElem?_eq_getElem h1, Option.map_some, G.p0, G.p1, G.p2, G.p3, G.p4, G.p5, G.p6, G.p7, G.p8, G.p9, O.ne_int, Bool.not_true, Bool.false_eq_true, if_false, O.bNe_bool, bne_self_eq_false, he, O.calls_1, O.not_bool, O.sNe_str, O.add_int, hw]
    exact r_msgs_1 l hs hl k (i + 1) (by omega)
theorem r_msgs (l : List G) (hs : Short l) (hl : l.length ≤ 1048576) : W f_ref26_SameMessages 0 [.list (l.map G.enc), .list (l.map G.enc)] = some [.bool true] := by
  have := r_msgs_1 l hs hl l.length 0 (by omega)
  simp only [Int.cast_ofNat_Int] at this
  rw [e_f_ref26_SameMessages_0]
  simp only [O.len_list, Option.bind_some, O.ne_int, decide_true, Bool.not_true, O.cnd_bool, Bool.false_eq_true, if_false, this]
theorem says_1 (l : List Act) (hl : l.length ≤ 40) (ha : ∀ a ∈ l, AOk a) : ∀ (k i : Nat) (n : N), i + k = l.length → Ok i n →
    W f_law26_MemberSays 1 [.list (l.map Act.enc), .int l.length, .int i, .int n.id, .int n.size, .int n.role, .int n.term, .int n.vote, .int n.lead, .int n.el, .int n.to, .int n.com, .int n.app, .int n.b, .int n.bt, .str n.sn, n.enc, .list (n.vs.map IV.int), .list (n.nx.map IV.int), .list (n.mt.map IV.int), .list (n.es.map E.enc)] = some [.bool true]
  | 0, i, n, h, hn => by
    have h1 : ¬ i < l.length := by omega
    rw [e_f_law26_MemberSays_1]
    simp only [O.lt_int, lt_cast, h1, decide_false, Option.bind_some, O.cnd_bool, Bool.false_eq_true, if_false, lives, O.calls_1]
  | k + 1, i, n, h, hn => by
    have h1 : i < l.length := by omega
    have hao := ha _ (List.getElem_mem h1)
    have hd := p_do n l[i] hn (by omega) hao.1
    have hr := r_do n l[i] hn (by omega) hao.1
    have hx := ok_do (a := l[i]) hn
    have hol := out_do (a := l[i]) hn.size
    have hsh := short_do n l[i]
    generalize doF n l[i] = x at hd hr hx hol hsh
    generalize doE n l[i] = e at hd hr
    have hw : IntKind.i64.wrap ((i : Int) + 1) = ((i + 1 : Nat) : Int) := by rw [wrap64 (by omega) (by omega)]; rfl
    have hs := r_same x (hx.few (by omega))
    have hm := r_msgs x.out hsh (by omega)
    have ih := says_1 l hl ha k (i + 1) x (by omega) hx
    rw [e_f_law26_MemberSays_1]
    simp only [O.lt_int, lt_cast, h1, decide_true, Option.bind_some, O.cnd_bool, if_true, O.index_list, Int.natCast_nonneg, Int.toNat_natCast, List.getElem?_map, List.getElem?_eq_getElem h1, Option.map_some, O.mkagg_eq, fold_enc, hd, calls_allE, hr, O.calls_3, O.ne_int, Bool.not_true, Bool.false_eq_true, if_false, hs, O.calls_1, O.not_bool, hm, O.add_int, hw, ih]
theorem r_new (i s t : Int) : W f_ref26_New 0 [.int i, .int s, .int t] = W f_member_New 0 [.int i, .int s, .int t] := by
  rw [e_f_ref26_New_0, e_f_member_New_0, e_f_rlog_New_0]
  simp only [O.calls_3]
theorem law_says (i s t : Int) (l : List Act) (hl : l.length ≤ 1048576) (ha : ∀ a ∈ l, AOk a) : W f_law26_MemberSays 0 [.agg [.int i, .int s, .int t], .list (l.map Act.enc)] = some [.bool true] := by
  obtain ⟨b, hb, hb2⟩ := p_few l hl ha
  rw [e_f_law26_MemberSays_0]
  simp only [O.proj_agg, List.getElem?_cons_succ, List.getElem?_cons_zero, Option.bind_some, r_new, p_new, hb, O.calls_1, O.not_bool, O.cnd_bool]
  cases b with
  | false => simp only [Bool.not_false, if_true, lives, O.calls_1]
  | true =>
    simp only [Bool.not_true, Bool.false_eq_true, if_false]
    by_cases c : startOk i s t = true
    · rw [if_pos c]
      have hs := r_same (start i s t) ((ok_start c).few (by omega))
      have := says_1 l (hb2 rfl) ha l.length 0 (start i s t) (by omega) (ok_start c)
      simp only [Int.cast_ofNat_Int] at this
      simp only [calls_cellsE, O.ne_int, decide_true, Bool.not_true, Option.bind_some, O.cnd_bool, Bool.false_eq_true, if_false, O.mkagg_eq, fold_enc, hs, O.calls_1, O.not_bool, O.len_list, List.length_map, this]
    · rw [if_neg c]
      have hs := r_same ⟨0, 0, 0, 0, 0, 0, 0, 0, [], [], [], 0, 0, 0, 0, [], ⟨#[]⟩, []⟩ ⟨by simp, by simp, by simp, by simp⟩
      simp only [calls_cellsE, O.ne_int, decide_true, Bool.not_true, Option.bind_some, O.cnd_bool, Bool.false_eq_true, if_false, O.mkagg_eq, fold_enc, O.calls_1, O.not_bool, show ¬ (1 : Int) = 0 by omega, decide_false, Bool.not_false, if_true, lives]
      rw [enc_eq 0 0 0 0 0 0 0 0 [] [] [] 0 0 0 0 [] ⟨#[]⟩, hs]
      rfl
end Go.CT.Memb
