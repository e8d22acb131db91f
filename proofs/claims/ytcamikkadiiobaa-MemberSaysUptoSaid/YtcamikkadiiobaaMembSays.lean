import Derived.Test.YtcamikkadiiobaaMembL
import Derived.Test.YtcamikkadiiobaaMembS
import Derived.Test.YtcamikkadiiobaaMembGSays
set_option linter.unusedVariables false
set_option linter.unusedSimpArgs false
namespace Go.CT.Memb
open Go.Proofs
/-! ## From the types to the data -/
theorem wt_int {x : IV} (h : WT Try.prog 3 x) : ∃ n, x = .int n ∧ I64 n := by
  obtain ⟨n, rfl, h1, h2⟩ := h.int_inv (k := .i64) (by kernel_rfl)
  rw [i64_min] at h1; rw [i64_max] at h2
  exact ⟨n, rfl, h1, h2⟩
theorem wt_byte {x : IV} (h : WT Try.prog 5 x) : ∃ n, x = .int n ∧ 0 ≤ n := by
  obtain ⟨n, rfl, h1, h2⟩ := h.int_inv (k := .u8) (by kernel_rfl)
  exact ⟨n, rfl, by have : IntKind.u8.min = 0 := by decide
                    omega⟩
theorem wt_bool {x : IV} (h : WT Try.prog 4 x) : ∃ b, x = .bool b := h.bool_inv (by kernel_rfl)
theorem wt_e {x : IV} (h : WT Try.prog 40 x) : ∃ e : E, x = e.enc ∧ True := by
  obtain ⟨xs, rfl, h2⟩ := h.agg_inv (ts := [3, 9]) (by kernel_rfl) (by kernel_rfl)
  obtain ⟨a, xs, rfl, ha, h⟩ := h2.cons_inv
  obtain ⟨b, xs, rfl, hb, h⟩ := h.cons_inv
  obtain rfl := h.nil_inv
  obtain ⟨n, rfl, hn⟩ := wt_int ha
  obtain ⟨s, rfl, _⟩ := hb.str_inv (by kernel_rfl)
  exact ⟨⟨n, s⟩, rfl, trivial⟩
theorem wt_es {x : IV} (h : WT Try.prog 22 x) : ∃ es : List E, x = .list (es.map E.enc) ∧ es.length + 1 ≤ x.bulk := by
  obtain ⟨xs, rfl, _, h⟩ := h.list_inv (e := 40) (by kernel_rfl)
  obtain ⟨es, rfl, he⟩ := list_form fun x hx => wt_e (h x hx)
  refine ⟨es, rfl, ?_⟩
  have := length_le_bulks (es.map E.enc)
  simp only [IV.bulk, List.length_map] at this ⊢
  omega
theorem wt_msgs {xs : List IV} (h : WTs Try.prog [3, 3, 3, 3, 3, 3, 3, 4, 22, 9] xs) (hb : IV.bulks xs ≤ 1048576) : ∃ g : G, xs = [.int g.kind, .int g.fr, .int g.to, .int g.term, .int g.ix, .int g.lt, .int g.com, .bool g.ok, .list (g.es.map E.enc), .str g.sn] ∧ GOk g := by
  obtain ⟨x1, xs, rfl, a1, h⟩ := h.cons_inv
  obtain ⟨x2, xs, rfl, a2, h⟩ := h.cons_inv
  obtain ⟨x3, xs, rfl, a3, h⟩ := h.cons_inv
  obtain ⟨x4, xs, rfl, a4, h⟩ := h.cons_inv
  obtain ⟨x5, xs, rfl, a5, h⟩ := h.cons_inv
  obtain ⟨x6, xs, rfl, a6, h⟩ := h.cons_inv
  obtain ⟨x7, xs, rfl, a7, h⟩ := h.cons_inv
  obtain ⟨x8, xs, rfl, a8, h⟩ := h.cons_inv
  obtain ⟨x9, xs, rfl, a9, h⟩ := h.cons_inv
  obtain ⟨x10, xs, rfl, a10, h⟩ := h.cons_inv
  obtain rfl := h.nil_inv
  obtain ⟨n1, rfl, _⟩ := wt_int a1
  obtain ⟨n2, rfl, _⟩ := wt_int a2
  obtain ⟨n3, rfl, _⟩ := wt_int a3
  obtain ⟨n4, rfl, _⟩ := wt_int a4
  obtain ⟨n5, rfl, i5⟩ := wt_int a5
  obtain ⟨n6, rfl, _⟩ := wt_int a6
  obtain ⟨n7, rfl, _⟩ := wt_int a7
  obtain ⟨n8, rfl⟩ := wt_bool a8
  obtain ⟨es, rfl, hl⟩ := wt_es a9
  obtain ⟨s, rfl, _⟩ := a10.str_inv (by kernel_rfl)
  simp only [IV.bulks] at hb
  exact ⟨⟨n1, n2, n3, n4, n5, n6, n7, n8, es, s⟩, rfl, i5, by show es.length ≤ 1048576; omega⟩
theorem wt_msg {x : IV} (h : WT Try.prog 74 x) (hb : x.bulk ≤ 1048576) : ∃ g : G, x = g.enc ∧ GOk g := by
  obtain ⟨xs, rfl, h2⟩ := h.agg_inv (ts := [3, 3, 3, 3, 3, 3, 3, 4, 22, 9]) (by kernel_rfl) (by kernel_rfl)
  simp only [IV.bulk] at hb
  obtain ⟨g, rfl, hg⟩ := wt_msgs h2 (by omega)
  exact ⟨g, rfl, hg⟩
theorem wts_split : ∀ {ts us : List TypeId} {xs : List IV}, WTs Try.prog (ts ++ us) xs → ∃ ys zs, xs = ys ++ zs ∧ WTs Try.prog ts ys ∧ WTs Try.prog us zs
  | [], us, xs, h => ⟨[], xs, rfl, trivial, h⟩
  | t :: ts, us, xs, h => by
    obtain ⟨a, xs, rfl, ha, h⟩ := WTs.cons_inv (t := t) (ts := ts ++ us) h
    obtain ⟨ys, zs, rfl, h1, h2⟩ := wts_split h
    exact ⟨a :: ys, zs, rfl, ⟨ha, h1⟩, h2⟩
theorem bulks_append (xs ys : List IV) : IV.bulks (xs ++ ys) = IV.bulks xs + IV.bulks ys := by
  induction xs with
  | nil => simp [IV.bulks]
  | cons x xs ih => simp [IV.bulks, ih]; omega
theorem wt_act {x : IV} (h : WT Try.prog 76 x) (hb : x.bulk ≤ 1048576) : ∃ a : Act, x = a.enc ∧ AOk a := by
  obtain ⟨xs, rfl, h2⟩ := h.agg_inv (ts := [5, 3, 3, 3, 3, 3, 3, 3, 4, 22, 9, 9, 3]) (by kernel_rfl) (by kernel_rfl)
  obtain ⟨x1, xs, rfl, a1, h⟩ := h2.cons_inv
  obtain ⟨ys, zs, rfl, h1, h3⟩ := wts_split (ts := [3, 3, 3, 3, 3, 3, 3, 4, 22, 9]) (us := [9, 3]) h
  simp only [IV.bulk, IV.bulks, bulks_append] at hb
  obtain ⟨g, rfl, hg⟩ := wt_msgs h1 (by omega)
  obtain ⟨x2, xs, rfl, a2, h⟩ := h3.cons_inv
  obtain ⟨x3, xs, rfl, a3, h⟩ := h.cons_inv
  obtain rfl := h.nil_inv
  obtain ⟨k, rfl, hk⟩ := wt_byte a1
  obtain ⟨d, rfl, _⟩ := a2.str_inv (by kernel_rfl)
  obtain ⟨i, rfl, _⟩ := wt_int a3
  exact ⟨⟨k, g, d, i⟩, rfl, hg, hk⟩
theorem wt_acts {x : IV} (h : WT Try.prog 64 x) (hb : x.bulk ≤ 1048576) : ∃ l : List Act, x = .list (l.map Act.enc) ∧ l.length ≤ 1048576 ∧ ∀ a ∈ l, AOk a := by
  obtain ⟨xs, rfl, _, h⟩ := h.list_inv (e := 76) (by kernel_rfl)
  simp only [IV.bulk] at hb
  obtain ⟨l, rfl, hl⟩ := list_form fun y hy => wt_act (h y hy) (by have := bulk_mem hy; omega)
  refine ⟨l, rfl, ?_, hl⟩
  have := length_le_bulks (l.map Act.enc)
  simp only [List.length_map] at this
  omega
theorem wt_start {x : IV} (h : WT Try.prog 63 x) : ∃ i s t : Int, x = .agg [.int i, .int s, .int t] := by
  obtain ⟨xs, rfl, h2⟩ := h.agg_inv (ts := [3, 3, 3]) (by kernel_rfl) (by kernel_rfl)
  obtain ⟨a, xs, rfl, ha, h⟩ := h2.cons_inv
  obtain ⟨b, xs, rfl, hb, h⟩ := h.cons_inv
  obtain ⟨c, xs, rfl, hc, h⟩ := h.cons_inv
  obtain rfl := h.nil_inv
  obtain ⟨i, rfl, _⟩ := wt_int ha
  obtain ⟨s, rfl, _⟩ := wt_int hb
  obtain ⟨t, rfl, _⟩ := wt_int hc
  exact ⟨i, s, t, rfl⟩
end Go.CT.Memb

/- For every start and list of operations of bulk at most 1048576 together the law MemberSays returns true, and its arguments read as before. -/
namespace Go.Proofs.Ytcamikkadiiobaa
open Go.CT Go.CT.Memb
theorem MemberSays_upto : Rows.MemberSaysUptoSaid := memberSays.holds_of fun xs h hb => by
  obtain ⟨a, xs, rfl, ha, h⟩ := h.cons_inv
  obtain ⟨b, xs, rfl, hb', h⟩ := h.cons_inv
  obtain rfl := h.nil_inv
  simp only [IV.bulks] at hb
  obtain ⟨i, s, t, rfl⟩ := wt_start ha
  obtain ⟨l, rfl, hl, hao⟩ := wt_acts hb' (by omega)
  exact law_says i s t l hl hao
end Go.Proofs.Ytcamikkadiiobaa
