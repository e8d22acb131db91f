import Derived.Test.YtcamikkadiiobaaRlogP
import Derived.Test.YtcamikkadiiobaaRlogGReads
/- For every log, index, most and term of bulk at most 1048576 together the law RlogReads returns true, and its arguments read as before. -/
namespace Go.Proofs.Ytcamikkadiiobaa
open Go.CT Go.CT.Rlog
theorem RlogReads_upto : Rows.RlogReadsUptoSaid := by
  refine rlogReads.holds_of fun xs h hb => ?_
  obtain ⟨a, xs, rfl, ha, h⟩ := h.cons_inv
  obtain ⟨b, xs, rfl, hb2, h⟩ := h.cons_inv
  obtain ⟨c, xs, rfl, hc, h⟩ := h.cons_inv
  obtain ⟨d, xs, rfl, hd, h⟩ := h.cons_inv
  obtain rfl := h.nil_inv
  obtain ⟨l1, l2, es, rfl, _, _, _, hl⟩ := wt_l ha
  obtain ⟨i, rfl, hi⟩ := wt_int hb2
  obtain ⟨m, rfl, _⟩ := wt_int hc
  obtain ⟨t, rfl, _⟩ := wt_int hd
  simp only [IV.bulks] at hb
  exact reads l1 l2 es i m t (by omega) hi
end Go.Proofs.Ytcamikkadiiobaa
