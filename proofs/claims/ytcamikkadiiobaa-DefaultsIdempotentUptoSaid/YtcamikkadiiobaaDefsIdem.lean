import Derived.Test.YtcamikkadiiobaaDefsT
import Derived.Test.YtcamikkadiiobaaCtC
import Derived.Test.YtcamikkadiiobaaDefsR
import Derived.Test.YtcamikkadiiobaaDefsGIdem
namespace Go.CT.Defs
open Go.Proofs
/-! ## From the types to the data -/
theorem wt_int {x : IV} (h : WT Try.prog 3 x) : ∃ n, x = .int n := by
  obtain ⟨n, rfl, _⟩ := h.int_inv (k := .i64) (by kernel_rfl)
  exact ⟨n, rfl⟩
theorem wt_str {x : IV} (h : WT Try.prog 9 x) : ∃ s, x = .str s := by
  obtain ⟨s, rfl, _⟩ := h.str_inv (by kernel_rfl)
  exact ⟨s, rfl⟩
theorem wt_bool {x : IV} (h : WT Try.prog 4 x) : ∃ b, x = .bool b := h.bool_inv (by kernel_rfl)
theorem wt_strs {x : IV} (h : WT Try.prog 49 x) : ∃ l : List ByteArray, x = .list (l.map .str) := by
  obtain ⟨xs, rfl, _, h⟩ := h.list_inv (e := 9) (by kernel_rfl)
  obtain ⟨es, rfl, _⟩ := list_form (enc := IV.str) (ok := fun _ => True) (xs := xs) fun x hx => by
    obtain ⟨s, e⟩ := wt_str (h x hx)
    exact ⟨s, e, trivial⟩
  exact ⟨es, rfl⟩
theorem wt_vals {x : IV} (hx : WT Try.prog 54 x) (h : ∀ y, y.bulk < x.bulk → WT Try.prog 57 y → ∃ v : Val, y = v.enc) : ∃ l : List Val, x = .list (l.map Val.enc) := by
  obtain ⟨xs, rfl, _, hh⟩ := hx.list_inv (e := 57) (by kernel_rfl)
  obtain ⟨es, rfl, _⟩ := list_form (enc := Val.enc) (ok := fun _ => True) (xs := xs) fun y hy => by
    have hb : y.bulk < (IV.list xs).bulk := by have := bulk_mem hy; simp only [IV.bulk]; omega
    obtain ⟨s, e⟩ := h y hb (hh y hy)
    exact ⟨s, e, trivial⟩
  exact ⟨es, rfl⟩
theorem wt_fields {x : IV} (hx : WT Try.prog 55 x) (h : ∀ y, y.bulk < x.bulk → WT Try.prog 101 y → ∃ p, y = Fld.enc p) : ∃ l : List (ByteArray × Val), x = .list (l.map Fld.enc) := by
  obtain ⟨xs, rfl, _, hh⟩ := hx.list_inv (e := 101) (by kernel_rfl)
  obtain ⟨es, rfl, _⟩ := list_form (enc := Fld.enc) (ok := fun _ => True) (xs := xs) fun y hy => by
    have hb : y.bulk < (IV.list xs).bulk := by have := bulk_mem hy; simp only [IV.bulk]; omega
    obtain ⟨s, e⟩ := h y hb (hh y hy)
    exact ⟨s, e, trivial⟩
  exact ⟨es, rfl⟩
theorem wt_valn : ∀ (n : Nat) (x : IV), x.bulk ≤ n → (WT Try.prog 57 x → ∃ v : Val, x = v.enc) ∧ (WT Try.prog 101 x → ∃ p, x = Fld.enc p)
  | 0, x, hb => by have := bulk_pos x; omega
  | n + 1, x, hb => by
    have hV : ∀ y : IV, y.bulk ≤ n → WT Try.prog 54 y → ∃ l : List Val, y = .list (l.map Val.enc) := fun y hy h => wt_vals h fun z hz hw => (wt_valn n z (by omega)).1 hw
    have hF : ∀ y : IV, y.bulk ≤ n → WT Try.prog 55 y → ∃ l : List (ByteArray × Val), y = .list (l.map Fld.enc) := fun y hy h => wt_fields h fun z hz hw => (wt_valn n z (by omega)).2 hw
    constructor
    · intro h
      obtain ⟨xs, rfl, h2⟩ := h.agg_inv (ts := [3, 3, 9, 54, 55]) (by kernel_rfl) (by kernel_rfl)
      obtain ⟨a, xs, rfl, ha, h⟩ := h2.cons_inv
      obtain ⟨b, xs, rfl, hb, h⟩ := h.cons_inv
      obtain ⟨c, xs, rfl, hc, h⟩ := h.cons_inv
      obtain ⟨d, xs, rfl, hd, h⟩ := h.cons_inv
      obtain ⟨e, xs, rfl, he, h⟩ := h.cons_inv
      obtain rfl := h.nil_inv
      simp only [IV.bulk, IV.bulks] at hb
      obtain ⟨k, rfl⟩ := wt_int ha
      obtain ⟨m, rfl⟩ := wt_int ‹WT Try.prog 3 b›
      obtain ⟨s, rfl⟩ := wt_str hc
      obtain ⟨l, rfl⟩ := hV d (by omega) hd
      obtain ⟨f, rfl⟩ := hF e (by omega) he
      exact ⟨⟨k, m, s, l, f⟩, Val.fold _ _ _ _ _⟩
    · intro h
      obtain ⟨xs, rfl, h2⟩ := h.agg_inv (ts := [9, 3, 3, 9, 54, 55]) (by kernel_rfl) (by kernel_rfl)
      obtain ⟨z, xs, rfl, hz, h⟩ := h2.cons_inv
      obtain ⟨a, xs, rfl, ha, h⟩ := h.cons_inv
      obtain ⟨b, xs, rfl, hb, h⟩ := h.cons_inv
      obtain ⟨c, xs, rfl, hc, h⟩ := h.cons_inv
      obtain ⟨d, xs, rfl, hd, h⟩ := h.cons_inv
      obtain ⟨e, xs, rfl, he, h⟩ := h.cons_inv
      obtain rfl := h.nil_inv
      simp only [IV.bulk, IV.bulks] at hb
      obtain ⟨nm, rfl⟩ := wt_str hz
      obtain ⟨k, rfl⟩ := wt_int ha
      obtain ⟨m, rfl⟩ := wt_int ‹WT Try.prog 3 b›
      obtain ⟨s, rfl⟩ := wt_str hc
      obtain ⟨l, rfl⟩ := hV d (by omega) hd
      obtain ⟨f, rfl⟩ := hF e (by omega) he
      exact ⟨(nm, ⟨k, m, s, l, f⟩), Fld.fold _ _ _ _ _ _⟩
theorem wt_val {x : IV} (h : WT Try.prog 57 x) : ∃ v : Val, x = v.enc := (wt_valn _ x (Nat.le_refl _)).1 h
theorem wt_vallist {x : IV} (h : WT Try.prog 54 x) : ∃ l : List Val, x = .list (l.map Val.enc) := wt_vals h fun _ _ hw => wt_val hw

theorem wt_schs {x : IV} (hx : WT Try.prog 50 x) (h : ∀ y, y.bulk < x.bulk → WT Try.prog 53 y → ∃ v : Sch, y = v.enc) : ∃ l : List Sch, x = .list (l.map Sch.enc) := by
  obtain ⟨xs, rfl, _, hh⟩ := hx.list_inv (e := 53) (by kernel_rfl)
  obtain ⟨es, rfl, _⟩ := list_form (enc := Sch.enc) (ok := fun _ => True) (xs := xs) fun y hy => by
    have hb : y.bulk < (IV.list xs).bulk := by have := bulk_mem hy; simp only [IV.bulk]; omega
    obtain ⟨s, e⟩ := h y hb (hh y hy)
    exact ⟨s, e, trivial⟩
  exact ⟨es, rfl⟩
theorem wt_sfields {x : IV} (hx : WT Try.prog 51 x) (h : ∀ y, y.bulk < x.bulk → WT Try.prog 109 y → ∃ p : SFld, y = p.enc) : ∃ l : List SFld, x = .list (l.map SFld.enc) := by
  obtain ⟨xs, rfl, _, hh⟩ := hx.list_inv (e := 109) (by kernel_rfl)
  obtain ⟨es, rfl, _⟩ := list_form (enc := SFld.enc) (ok := fun _ => True) (xs := xs) fun y hy => by
    have hb : y.bulk < (IV.list xs).bulk := by have := bulk_mem hy; simp only [IV.bulk]; omega
    obtain ⟨s, e⟩ := h y hb (hh y hy)
    exact ⟨s, e, trivial⟩
  exact ⟨es, rfl⟩
theorem wt_schn : ∀ (n : Nat) (x : IV), x.bulk ≤ n → (WT Try.prog 53 x → ∃ v : Sch, x = v.enc) ∧ (WT Try.prog 109 x → ∃ p : SFld, x = p.enc)
  | 0, x, hb => by have := bulk_pos x; omega
  | n + 1, x, hbn => by
    have hV : ∀ y : IV, y.bulk ≤ n → WT Try.prog 50 y → ∃ l : List Sch, y = .list (l.map Sch.enc) := fun y hy h => wt_schs h fun z hz hw => (wt_schn n z (by omega)).1 hw
    have hF : ∀ y : IV, y.bulk ≤ n → WT Try.prog 51 y → ∃ l : List SFld, y = .list (l.map SFld.enc) := fun y hy h => wt_sfields h fun z hz hw => (wt_schn n z (by omega)).2 hw
    have hS : ∀ xs, WTs Try.prog [3, 3, 3, 49, 9, 50, 51] xs → IV.bulks xs ≤ n → ∃ s : Sch, xs = s.comps := by
      intro xs h hb
      obtain ⟨a, xs, rfl, ha, h⟩ := h.cons_inv
      obtain ⟨b, xs, rfl, hb', h⟩ := h.cons_inv
      obtain ⟨c, xs, rfl, hc, h⟩ := h.cons_inv
      obtain ⟨d, xs, rfl, hd, h⟩ := h.cons_inv
      obtain ⟨e, xs, rfl, he, h⟩ := h.cons_inv
      obtain ⟨g, xs, rfl, hg, h⟩ := h.cons_inv
      obtain ⟨i, xs, rfl, hi, h⟩ := h.cons_inv
      obtain rfl := h.nil_inv
      simp only [IV.bulks] at hb
      obtain ⟨k, rfl⟩ := wt_int ha
      obtain ⟨m, rfl⟩ := wt_int hb'
      obtain ⟨o, rfl⟩ := wt_int hc
      obtain ⟨en, rfl⟩ := wt_strs hd
      obtain ⟨key, rfl⟩ := wt_str he
      obtain ⟨it, rfl⟩ := hV g (by omega) hg
      obtain ⟨f, rfl⟩ := hF i (by omega) hi
      exact ⟨⟨k, m, o, en, key, it, f⟩, by rw [Sch.comps_eq]; rfl⟩
    constructor
    · intro h
      obtain ⟨xs, rfl, h2⟩ := h.agg_inv (ts := [3, 3, 3, 49, 9, 50, 51]) (by kernel_rfl) (by kernel_rfl)
      simp only [IV.bulk] at hbn
      obtain ⟨s, rfl⟩ := hS xs h2 (by omega)
      exact ⟨s, s.enc_eq.symm⟩
    · intro h
      obtain ⟨xs, rfl, h2⟩ := h.agg_inv (ts := [9, 4, 4, 54, 3, 3, 3, 49, 9, 50, 51]) (by kernel_rfl) (by kernel_rfl)
      obtain ⟨a, xs, rfl, ha, h⟩ := h2.cons_inv
      obtain ⟨b, xs, rfl, hb', h⟩ := h.cons_inv
      obtain ⟨c, xs, rfl, hc, h⟩ := h.cons_inv
      obtain ⟨d, xs, rfl, hd, h⟩ := h.cons_inv
      simp only [IV.bulk, IV.bulks] at hbn
      obtain ⟨s, rfl⟩ := hS xs h (by omega)
      obtain ⟨nm, rfl⟩ := wt_str ha
      obtain ⟨rq, rfl⟩ := wt_bool hb'
      obtain ⟨im, rfl⟩ := wt_bool hc
      obtain ⟨df, rfl⟩ := wt_vallist hd
      exact ⟨⟨nm, rq, im, df, s⟩, rfl⟩
theorem wt_sch {x : IV} (h : WT Try.prog 53 x) : ∃ s : Sch, x = s.enc := (wt_schn _ x (Nat.le_refl _)).1 h
end Go.CT.Defs

/- For every schema and value of bulk at most 1048576 together the law DefaultsIdempotent returns true, and its arguments read as before. -/
namespace Go.Proofs.Ytcamikkadiiobaa
open Go.CT Go.CT.Defs
theorem DefaultsIdempotent_upto : Rows.DefaultsIdempotentUptoSaid := defaultsIdempotent.holds_of fun xs h hb => by
  obtain ⟨a, xs, rfl, ha, h⟩ := h.cons_inv
  obtain ⟨b, xs, rfl, hb', h⟩ := h.cons_inv
  obtain rfl := h.nil_inv
  obtain ⟨s, rfl⟩ := wt_sch ha
  obtain ⟨v, rfl⟩ := wt_val hb'
  simp only [IV.bulks] at hb
  exact law_idem s v (by unfold Sch.mass Val.mass; omega)
end Go.Proofs.Ytcamikkadiiobaa
