import Derived.Test.YtcamikkadiiobaaRlogPb
import Derived.Test.YtcamikkadiiobaaRlogP
import Derived.Test.YtcamikkadiiobaaRlogGRepairs
/- For every two logs of bulk at most 1048576 together the law RlogRepairs returns true, and its arguments read as before. -/
namespace Go.Proofs.Ytcamikkadiiobaa
open Go.CT Go.CT.Rlog
theorem RlogRepairs_upto : Rows.RlogRepairsUptoSaid := by
  refine rlogRepairs.holds_of fun xs h hb => ?_
  obtain ⟨a, xs, rfl, ha, h⟩ := h.cons_inv
  obtain ⟨b, xs, rfl, hb2, h⟩ := h.cons_inv
  obtain rfl := h.nil_inv
  obtain ⟨l1, l2, es, rfl, _, _, _, hl⟩ := wt_l ha
  obtain ⟨m1, m2, fs, rfl, _, _, _, hm⟩ := wt_l hb2
  simp only [IV.bulks] at hb
  exact repairs l1 l2 es m1 m2 fs (by omega) (by omega)
end Go.Proofs.Ytcamikkadiiobaa
