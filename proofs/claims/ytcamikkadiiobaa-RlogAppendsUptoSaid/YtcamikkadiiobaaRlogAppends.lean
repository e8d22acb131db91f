import Derived.Test.YtcamikkadiiobaaRlogPa
import Derived.Test.YtcamikkadiiobaaRlogP
import Derived.Test.YtcamikkadiiobaaRlogGAppends
/- For every log, index, term and entries of bulk at most 1048576 together the law RlogAppends returns true, and its arguments read as before. -/
namespace Go.Proofs.Ytcamikkadiiobaa
open Go.CT Go.CT.Rlog
theorem RlogAppends_upto : Rows.RlogAppendsUptoSaid := by
  refine rlogAppends.holds_of fun xs h hb => ?_
  obtain ⟨a, xs, rfl, ha, h⟩ := h.cons_inv
  obtain ⟨b, xs, rfl, hb2, h⟩ := h.cons_inv
  obtain ⟨c, xs, rfl, hc, h⟩ := h.cons_inv
  obtain ⟨d, xs, rfl, hd, h⟩ := h.cons_inv
  obtain rfl := h.nil_inv
  obtain ⟨l1, l2, es, rfl, _, _, _, hl⟩ := wt_l ha
  obtain ⟨i, rfl, hi⟩ := wt_int hb2
  obtain ⟨m, rfl, _⟩ := wt_int hc
  obtain ⟨e, rfl, _, he⟩ := wt_es hd
  simp only [IV.bulks] at hb
  exact appends l1 l2 es i m e (by omega) hi (by omega)
end Go.Proofs.Ytcamikkadiiobaa
