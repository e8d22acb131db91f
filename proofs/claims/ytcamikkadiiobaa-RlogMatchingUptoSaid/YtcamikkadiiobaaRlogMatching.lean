import Derived.Test.YtcamikkadiiobaaRlogPc
import Derived.Test.YtcamikkadiiobaaRlogP
import Derived.Test.YtcamikkadiiobaaRlogGMatching
/- For every list of steps of bulk at most 1048576 the law RlogMatching returns true, and its argument reads as before. -/
namespace Go.Proofs.Ytcamikkadiiobaa
open Go.CT Go.CT.Rlog
theorem wt_st {x : IV} (h : WT Try.prog 35 x) : ∃ s : Rlog.St, x = s.enc ∧ True := by
  obtain ⟨xs, rfl, h2⟩ := h.agg_inv (ts := [4, 3, 3, 3, 3]) (by kernel_rfl) (by kernel_rfl)
  obtain ⟨a, xs, rfl, ha, h⟩ := h2.cons_inv
  obtain ⟨b, xs, rfl, hb, h⟩ := h.cons_inv
  obtain ⟨c, xs, rfl, hc, h⟩ := h.cons_inv
  obtain ⟨d, xs, rfl, hd, h⟩ := h.cons_inv
  obtain ⟨e, xs, rfl, he, h⟩ := h.cons_inv
  obtain rfl := h.nil_inv
  obtain ⟨a, rfl⟩ := ha.bool_inv (by kernel_rfl)
  obtain ⟨b, rfl, _⟩ := wt_int hb
  obtain ⟨c, rfl, _⟩ := wt_int hc
  obtain ⟨d, rfl, _⟩ := wt_int hd
  obtain ⟨e, rfl, _⟩ := wt_int he
  exact ⟨⟨a, b, c, d, e⟩, rfl, trivial⟩
theorem RlogMatching_upto : Rows.RlogMatchingUptoSaid := by
  refine rlogMatching.holds_of fun xs h hb => ?_
  obtain ⟨a, xs, rfl, ha, h⟩ := h.cons_inv
  obtain rfl := h.nil_inv
  obtain ⟨ys, rfl, _, hy⟩ := ha.list_inv (e := 35) (by kernel_rfl)
  obtain ⟨ss, rfl, _⟩ := list_form fun x hx => wt_st (hy x hx)
  exact matching ss
end Go.Proofs.Ytcamikkadiiobaa
