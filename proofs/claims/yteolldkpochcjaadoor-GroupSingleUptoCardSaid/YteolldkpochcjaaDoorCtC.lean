import Derived.Test.YteolldkpochcjaaDoorCtB
import Derived.Scope
set_option linter.unusedVariables false
set_option linter.unusedSimpArgs false
namespace Go.CT
open EM
section
variable {P : Program} {N : Nat} {X : Nat → Prop} {R : Job → List IV → Option (List IV)} {ρ : List IV} {K : Nat → Prop} {S : View} {μ : Nat → Value} {a : Act} {w w' : World} {es es' e1 : ES} {ls : List PLt} {sx : SX}
 {O O' : Nat → Prop}
theorem relLeafFlat {u : TypeId} {x : IV} {v : Value} (h : Rel P w O u x v) (ha : isAggT P u = false) (he : elemT P u = none) : Rel P w O' u x v := by
 cases h with
 | int h => exact .int h
 | bool h => exact .bool h
 | str h => exact .str h
 | agg h => rw [ha] at h; cases h
 | list _ h => simp [elemT, h] at he
theorem leaves_self {t : TypeId} {ts : List TypeId} (h : leaves P t = some ts) (ha : isAggT P t = false) : ts = [t] := by
 have hl : ∀ (d : Nat), leafTs P (d + 1) t = some ts → ts = [t] := by
  intro d hd
  unfold leafTs at hd
  cases hun : P.underlying t with
  | none => simp [hun] at hd
  | some de => cases de <;> simp_all [isAggT]
 exact hl 11 h
theorem Rel.flat {t : TypeId} {x : IV} {v : Value} (h : Rel P w O t x v) (hf : flatT P t = true) : Rel P w O' t x v := by
 unfold flatT at hf
 cases hl : leaves P t with
 | none => simp [hl] at hf
 | some ts =>
  simp only [hl, List.all_eq_true, Option.isNone_iff_eq_none] at hf
  by_cases ha : isAggT P t = true
  ·obtain ⟨ts', xs, cs, h1, rfl, rfl, h2⟩ := h.leafs ha
   rw [hl] at h1; injection h1 with h1; subst h1
   refine RelsL.agg (RelsL.of_get h2.len.1 h2.len.2 fun i u x c h3 h4 h5 => ?_) ha hl
   exact relLeafFlat (h2.get i u x c h3 h4 h5) (leaves_flat hl i u h3) (hf u (List.mem_of_getElem? h3))
  ·have ha' : isAggT P t = false := by simpa using ha
   have := leaves_self hl ha'
   subst this
   exact relLeafFlat h ha' (hf t (by simp))
theorem RowOwn.flat {e : TypeId} {xs : List IV} {v : Value} (h : RowOwn P w O e xs v) (hf : flatT P e = true) : RowOwn P w O' e xs v :=
 ⟨h.1, let ⟨cs, h1, h2, h3⟩ := h.2; ⟨cs, h1, fun j x hx => let ⟨v, q1, q2⟩ := h2 j x hx; ⟨v, q1.flat hf, q2⟩, h3⟩⟩
theorem CellOwn.flat {t : TypeId} {x : IV} {v : Value} (h : CellOwn P w O t x v) (hf : (match elemT P t with | some e => flatT P e | none => match mapT P t with | some kv => flatT P kv.1 && flatT P kv.2 | none => false) = true) : CellOwn P w O' t x v := by
 obtain ⟨ys, h1, ⟨e, h2, h3⟩ | ⟨kt, vt, h2, r, cl, es, h3, h4, h5, h6⟩⟩ := h
 ·simp only [elemT, h2] at hf
  exact ⟨ys, h1, .inl ⟨e, h2, h3.flat hf⟩⟩
 ·simp only [elemT, mapT, h2, Bool.and_eq_true] at hf
  refine ⟨ys, h1, .inr ⟨kt, vt, h2, r, cl, es, h3, h4, h5, ?_⟩⟩
  have : ∀ {xs : List IV} {es : List MapEntry}, MapsTo P w O kt vt xs es → MapsTo P w O' kt vt xs es := by
   intro xs
   induction xs with
   | nil => intro es h; cases es <;> exact h
   | cons x xs ih =>
    intro es h
    cases es with
    | nil => exact h
    | cons e es =>
     obtain ⟨⟨a, b, e1, e2, e3⟩, h⟩ := h
     exact ⟨⟨a, b, e1, e2.flat hf.1, e3.flat hf.2⟩, ih h⟩
  exact this h6
theorem CellsOwn.flat : ∀ {bs : List Bool} {ts : List TypeId} {xs : List IV} {vs : List Value} {L : List Nat}, CellsOwn P w O bs ts xs vs L → flatCells P bs ts = true → (∀ t ∈ ts, isAggT P t = false) → CellsOwn P w O' bs ts xs vs L
 | [], [], [], [], _, h, _, _ => h
 | true :: bs, t :: ts, x :: xs, v :: vs, L, h, hf, ha => by
  obtain ⟨L', h3, h4, h5⟩ := h
  simp only [flatCells, Bool.and_eq_true] at hf
  exact ⟨L', h3.flat hf.1, h4.flat hf.2 (fun t h => ha t (List.mem_cons_of_mem _ h)), h5⟩
 | false :: bs, t :: ts, x :: xs, v :: vs, L, h, hf, ha => by
  simp only [flatCells, Bool.and_eq_true, Option.isNone_iff_eq_none] at hf
  exact ⟨relLeafFlat h.1 (ha t List.mem_cons_self) hf.1, h.2.flat hf.2 (fun t h => ha t (List.mem_cons_of_mem _ h))⟩
 | [], [], [], _ :: _, _, h, _, _ => h.elim
 | [], [], _ :: _, _, _, h, _, _ => h.elim
 | [], _ :: _, _, _, _, h, _, _ => h.elim
 | _ :: _, [], _, _, _, h, _, _ => by simp [CellsOwn] at h
 | _ :: _, _ :: _, [], _, _, h, _, _ => by simp [CellsOwn] at h
 | _ :: _, _ :: _, _ :: _, [], _, h, _, _ => by simp [CellsOwn] at h
theorem BoxAt.flat {t : TypeId} {bs : List Bool} {xs : List IV} {v : Value} {L : List Nat} (h : BoxAt P w O t bs xs v L) (hf : (match leaves P t with | some ts => flatCells P bs ts | none => false) = true) : BoxAt P w O' t bs xs v L := by
 obtain ⟨b, u, L', h1, h2, ⟨ts, q1, q2, q3, q4⟩, h4⟩ := h
 simp only [q1] at hf
 exact ⟨b, u, L', h1, h2, ⟨ts, q1, q2, q3, q4.flat hf fun u hu => by
  obtain ⟨i, hi⟩ := List.mem_iff_getElem?.1 hu
  exact leaves_flat q1 i u hi⟩, h4⟩
theorem BoxesAt.flat : ∀ {bs : List (TypeId × List Bool)} {xs : List IV} {vs : List Value} {L : List Nat}, BoxesAt P w O bs xs vs L → bs.all (fun b => match leaves P b.1 with | some ts => flatCells P b.2 ts | none => false) = true → BoxesAt P w O' bs xs vs L
 | [], _, [], _, h, _ => h
 | b :: bs, _, _ :: _, _, h, hf => by
  obtain ⟨ys, zs, L1, L2, h1, h2, h3, h4⟩ := h
  simp only [List.all_cons, Bool.and_eq_true] at hf
  exact ⟨ys, zs, L1, L2, h1, h2, h3.flat hf.1, h4.flat hf.2⟩
 | [], _, _ :: _, _, h, _ => h.elim
 | _ :: _, _, [], _, h, _ => h.elim
theorem RessRel.flat : ∀ {rs : List RS} {xs : List IV} {vs : List Value} {L : List Nat}, RessRel P w O rs xs vs L → rs.all (RS.flat P) = true → RessRel P w O' rs xs vs L
 | [], _, [], _, h, _ => h
 | r :: rs, _, v :: vs, _, h, hf => by
  obtain ⟨ys, zs, L1, L2, h1, h2, h3, h4⟩ := h
  simp only [List.all_cons, Bool.and_eq_true] at hf
  refine ⟨ys, zs, L1, L2, h1, h2, ?_, h4.flat hf.2⟩
  cases r with
  | whole t => obtain ⟨x, q1, q2, q3⟩ := h3; exact ⟨x, q1, q2, q3.flat hf.1⟩
  | clip t => obtain ⟨x, q1, q2, q3, q4⟩ := h3; exact ⟨x, q1, q2, q3.flat hf.1, q4⟩
  | strict t => obtain ⟨x, q1, q2, q3, q4⟩ := h3; exact ⟨x, q1, q2, q3.flat hf.1, q4⟩
  | skip => exact h3
  | nbox t bs => exact BoxesAt.flat h3 (by simp only [List.all_cons, List.all_nil, Bool.and_true]; exact hf.1)
  | clo f bs => obtain ⟨c, q1, q2⟩ := h3; exact ⟨c, q1, q2.flat hf.1⟩
  | cells t bs =>
   obtain ⟨ts, q1, q2, q3, q4⟩ := h3
   have hf1 := hf.1
   simp only [RS.flat, q1] at hf1
   exact ⟨ts, q1, q2, q3, q4.flat hf1 fun u hu => by
    obtain ⟨i, hi⟩ := List.mem_iff_getElem?.1 hu
    exact leaves_flat q1 i u hi⟩
 | [], _, _ :: _, _, h, _ => h.elim
 | _ :: _, _, [], _, h, _ => h.elim
theorem RessRel.weaken (hO : ∀ b, b < w.heap.size → O' b → O b) : ∀ {rs : List RS} {xs : List IV} {vs : List Value} {L : List Nat}, RessRel P w O rs xs vs L → RessRel P w O' rs xs vs L
 | [], _, [], _, h => h
 | r :: rs, _, v :: vs, _, h => by
  obtain ⟨ys, zs, L1, L2, h1, h2, h3, h4⟩ := h
  exact ⟨ys, zs, L1, L2, h1, h2, ResRel.weaken h3 hO, h4.weaken hO⟩
 | [], _, _ :: _, _, h => h.elim
 | _ :: _, _, [], _, h => h.elim
theorem BackRel.weaken (hO : ∀ b, b < w.heap.size → O' b → O b) : ∀ {rs : List PS} {xs : List IV} {vs : List Value} {L : List Nat}, BackRel P w O rs xs vs L → BackRel P w O' rs xs vs L
 | [], _, [], _, h => h
 | r :: rs, xs, v :: vs, L, h => by
  unfold BackRel at h ⊢
  by_cases hb : r.isBack = true
  ·simp only [hb, if_true] at h ⊢
   obtain ⟨ys, zs, L1, L2, h1, h2, h3, h4⟩ := h
   exact ⟨ys, zs, L1, L2, h1, h2, h3.weaken hO, h4.weaken hO⟩
  ·simp only [hb] at h ⊢
   exact BackRel.weaken hO h
 | [], _, _ :: _, _, h => h.elim
 | _ :: _, _, [], _, h => h.elim
theorem ArgsRel.pure {Lt : Nat → Prop} : ∀ {ps : List PS} {xs : List IV} {vs : List Value} {L : List Nat}, ArgsRel P w O Lt ps xs vs L → ps.all PS.isPure = true → L = []
 | [], _, [], _, h, _ => h.2
 | p :: ps, _, v :: vs, _, h, hp => by
  obtain ⟨ys, zs, L1, L2, h1, rfl, h3, h4⟩ := h
  simp only [List.all_cons, Bool.and_eq_true] at hp
  rw [h4.pure hp.2, List.append_nil]
  cases p with
  | data t => obtain ⟨x, _, q, _⟩ := h3; exact q
  | fn f ts => obtain ⟨x, _, q, _⟩ := h3; exact q
  | fnb f n => exact h3.2
  | rd t => obtain ⟨x, _, q, _⟩ := h3; exact q
  | arr t => simp [PS.isPure] at hp
  | own t => simp [PS.isPure] at hp
  | box t bs => simp [PS.isPure] at hp
  | bld t bk => simp [PS.isPure] at hp
 | [], _, _ :: _, _, h, _ => h.elim
 | _ :: _, _, [], _, h, _ => h.elim
theorem BksRel.pure : ∀ {ps : List PS} {us : List Value} {l : List Bk}, BksRel P K μ ps us l → ps.all PS.isPure = true → l = []
 | [], [], _, h, _ => h
 | p :: ps, _ :: _, _, h, hp => by
  obtain ⟨l1, l2, rfl, h2, h3⟩ := h
  simp only [List.all_cons, Bool.and_eq_true] at hp
  rw [h3.pure hp.2, List.append_nil]
  cases p with
  | data t => exact h2
  | fn f ts => exact h2
  | fnb f n => exact h2
  | rd t => exact h2
  | arr t => simp [PS.isPure] at hp
  | own t => simp [PS.isPure] at hp
  | box t bs => simp [PS.isPure] at hp
  | bld t bk => simp [PS.isPure] at hp
 | [], _ :: _, _, h, _ => h.elim
 | _ :: _, [], _, h, _ => h.elim
theorem BackRel.pure : ∀ {ps : List PS} {xs : List IV} {us : List Value} {L : List Nat}, BackRel P w O ps xs us L → ps.all PS.isPure = true → xs = [] ∧ L = []
 | [], _, [], _, h, _ => h
 | p :: ps, xs, v :: us, L, h, hp => by
  simp only [List.all_cons, Bool.and_eq_true] at hp
  have : p.isBack = false := by cases p <;> simp_all [PS.isPure, PS.isBack]
  simp only [BackRel, this, Bool.false_eq_true, if_false] at h
  exact h.pure hp.2
 | [], _, _ :: _, _, h, _ => h.elim
 | _ :: _, _, [], _, h, _ => h.elim
theorem BackRel.free : ∀ {ps : List PS} {xs : List IV} {us : List Value} {L : List Nat}, BackRel P w O ps xs us L → ps.all PS.isPure = true → BackRel P w O' ps xs us L
 | [], _, [], _, h, _ => h
 | p :: ps, xs, v :: us, L, h, hp => by
  simp only [List.all_cons, Bool.and_eq_true] at hp
  have : p.isBack = false := by cases p <;> simp_all [PS.isPure, PS.isBack]
  simp only [BackRel, this, Bool.false_eq_true, if_false] at h ⊢
  exact h.free hp.2
 | [], _, _ :: _, _, h, _ => h.elim
 | _ :: _, _, [], _, h, _ => h.elim
theorem flatT_int {e : TypeId} {k : IntKind} (h : intK P e = some k) : flatT P e = true := by
 have hu := intK_eq h
 have hl : leaves P e = some [e] := by unfold leaves leafTs; simp [hu]
 simp [flatT, hl, elemT, hu]
theorem ArgRel.flat {Lt : Nat → Prop} {p : PS} {xs : List IV} {v : Value} {L : List Nat} (h : ArgRel P w O Lt p xs v L) (hb : p.isBack = true) (hs : p.safe P = true) : ArgRel P w O' Lt p xs v L := by
 cases p with
 | arr t =>
  obtain ⟨e, ys, h1, h2, h3, h4⟩ := h
  simp only [PS.safe, elemT, h3] at hs
  exact ⟨e, ys, h1, h2, h3, h4.flat hs⟩
 | box t bs => exact BoxAt.flat h hs
 | bld t bk =>
  obtain ⟨b, c0, c1, ys, st, e, h1, h2, h3, h4, h5, h6, h7⟩ := h
  exact ⟨b, c0, c1, ys, st, e, h1, h2, h3, h4, h5, h6.flat (flatT_int (bldT_ok h4).1), h7⟩
 | _ => cases hb
theorem BackRel.flat : ∀ {ps : List PS} {xs : List IV} {us : List Value} {L : List Nat}, BackRel P w O ps xs us L → ps.all (PS.safe P) = true → BackRel P w O' ps xs us L
 | [], _, [], _, h, _ => h
 | p :: ps, xs, v :: us, L, h, hp => by
  simp only [List.all_cons, Bool.and_eq_true] at hp
  unfold BackRel at h ⊢
  by_cases hb : p.isBack = true
  ·simp only [hb, if_true] at h ⊢
   obtain ⟨ys, zs, L1, L2, h1, h2, h3, h4⟩ := h
   exact ⟨ys, zs, L1, L2, h1, h2, h3.flat hb hp.1, h4.flat hp.2⟩
  ·simp only [hb] at h ⊢
   exact BackRel.flat h hp.2
 | [], _, _ :: _, _, h, _ => h.elim
 | _ :: _, _, [], _, h, _ => h.elim
theorem packRes_ok {c : Cx} {vvs : List VV} {vs : List Value} (h : VRels c vvs vs) : XRel c (packRes vvs) (packed vs) := by
 cases vvs with
 | nil => cases vs with
  | nil => exact ⟨#[], rfl, trivial⟩
  | cons => exact h.elim
 | cons v vvs =>
  cases vs with
  | nil => exact h.elim
  | cons u us =>
   cases vvs with
   | nil => cases us with
    | nil => exact h.1
    | cons => exact h.2.elim
   | cons v2 vvs =>
    cases us with
    | nil => exact h.2.elim
    | cons u2 us => exact ⟨_, rfl, by simpa using h⟩
theorem packRes_keys (vvs : List VV) : ∀ k ∈ keysSX (packRes vvs), k ∈ vvs.flatMap keysVV := by
 intro k hk
 unfold packRes at hk
 split at hk
 ·simpa [keysSX] using hk
 ·simpa [keysSX] using hk
theorem LH.call {n i m : Nat} {gs : List (Arg × Bool)} {as : List Arg} (h : LH R ρ [⟨n, ⟨gs, .call i as m⟩⟩]) (hg : holds ρ gs = some true) :
  ∃ xs rs, Arg.evs ρ as = some xs ∧ R ⟨i, 0⟩ xs = some rs ∧ rs.length = m ∧ ∀ j, j < rs.length → ρ[n + j]? = rs[j]? := by
 obtain ⟨xs, h1, h2⟩ := h _ (List.mem_singleton.2 rfl)
 simp only [GLet.ev, hg, Option.bind_some, if_true, PLet.ev] at h1
 cases hv : Arg.evs ρ as with
 | none => simp [hv] at h1
 | some vs =>
  simp only [hv, Option.bind_some] at h1
  cases hy : R ⟨i, 0⟩ vs with
  | none => simp [hy] at h1
  | some y =>
   simp only [hy, Option.bind_some] at h1
   split at h1
   ·rename_i hlen
    injection h1 with h1
    subst h1
    exact ⟨vs, y, rfl, hy, hlen, fun j hj => h2 j (by simpa [PLet.arity, ← hlen] using hj)⟩
   ·cases h1
theorem xCallSpec_ok {specs : List (Nat × Spec)} {i : Nat} {s : Spec} {vvs : List VV} {args0 args : List Value} (hfl : flatV 0 s.params args0 = some args) (hS : Sound P specs R) (hmem : (i, s) ∈ specs) (G : Good P N X ρ K S.tm (cur S es.obs) μ a w) (h : Ev S (xCallSpec P i s vvs) es sx es' ls) (hl : LH R ρ ls)
  (hg : holds ρ es.gs = some true) (hk : ∀ k ∈ vvs.flatMap keysVV, K k) (hv : VRels (cxOf P X ρ (cur S es.obs) μ w) vvs args) (hfr : ∀ k, es.m ≤ k → k < es'.m → ¬ K k) :
  Does P s.fn args0.toArray w fun v w' => ∃ μ', Out P N X ρ K S μ a w es es' sx μ' w' v := by
 unfold xCallSpec at h
 rw [Ev_bind] at h
 obtain ⟨_, _, _, _, h0, h, rfl⟩ := h
 rw [Ev_guard] at h0
 obtain ⟨g0, rfl, rfl⟩ := h0
 rw [Ev_bind] at h
 obtain ⟨_, e0, _, _, h0, h, rfl⟩ := h
 have hbare : es = e0 ∧ (s.params.all PS.isPure = true ∨ es.gs = []) := by
  unfold bareFor at h0
  rw [Ev_ite] at h0
  rcases h0 with ⟨hp, h0⟩ | ⟨_, h0⟩
  ·rw [Ev_pure] at h0; exact ⟨h0.2.1, .inl hp⟩
  ·rw [Ev_bare] at h0; exact ⟨h0.2.1, .inr h0.1⟩
 obtain ⟨rfl, hbare⟩ := hbare
 simp only [Ev_bind, Ev_emit, Ev_pure] at h
 obtain ⟨ks, _, _, _, h00, ⟨ab, e1, l1, _, h1, ⟨_, e1', l1', _, hst, ⟨_, e2, l2, _, h2, ⟨n, _, _, _, ⟨rfl, rfl, rfl⟩, ⟨rm, e3, l3, _, h3, ⟨_, e4, l4, _, h4, ⟨rfl, rfl, rfl⟩, rfl⟩, rfl⟩, rfl⟩, rfl⟩, rfl⟩, rfl⟩, rfl⟩ := h
 obtain ⟨rfl, rfl, hks⟩ := ownKeys_ok h00
 have hl := hl.right.right.right
 obtain ⟨al, xs, L, p1, d, p4, p3, hfl0⟩ : ∃ (al : Bool) (xs : List IV) (L : List Nat), Arg.evs ρ ab.1 = some xs ∧ Lend P N X ρ K S μ a w L es e1 ∧ BksRel P K μ s.params args ab.2 ∧
   ArgsRel P w (fun b => (al = true ∧ (X b ∨ Wr (cur S e1.obs) μ b)) ∨ b ∈ L) (fun _ => False) s.params xs args L ∧
   (al = false → s.results.all (RS.flat P) = true ∧ (s.params.all PS.isPure = true ∨ s.params.all (PS.safe P) = true)) := by
  generalize hlent : (!s.alias_ && !s.params.all PS.isPure && s.params.all (PS.safe P) && dataOk s.params vvs) = lent at h00 hks h1
  cases lent with
  | true =>
   simp only [Bool.and_eq_true, Bool.not_eq_true'] at hlent
   obtain ⟨⟨⟨a1, a2⟩, a3⟩, a4⟩ := hlent
   simp only [Bool.not_true, Bool.false_and] at h1
   simp only [if_true] at hks
   obtain ⟨xs, L, p1, d, p3, p4⟩ := xArgsL_ok (KS := ks) G h1 hl.left hg hk hv a3 a4 hks
   obtain ⟨_, _, hst'⟩ := stillKeys_ok d hst
   refine ⟨false, xs, L, p1, d, p4, p3.weaken fun b hb ho => ?_, fun _ => ⟨by simpa [a1] using g0, .inr a3⟩⟩
   have ho : b ∈ L := ho.resolve_left (by simp)
   exact ⟨.inr ho, fun k hk hb => hst' k hk b hb ho⟩
  | false =>
   simp only [Bool.not_false, Bool.true_and] at h1
   generalize hal : (s.alias_ || !s.params.all PS.isPure) = al at h1
   have hal' : s.params.all PS.isPure = true ∨ al = true := by
    by_cases hp : s.params.all PS.isPure = true
    ·exact .inl hp
    ·right; rw [← hal]; simp [hp]
   obtain ⟨xs, L, p1, d, p3, p4⟩ := xArgs_ok G h1 hl.left hg hk hv hal'
   refine ⟨al, xs, L, p1, d, p4, p3.weaken fun b hb ho => ?_, fun ha => ?_⟩
   ·rcases ho with ⟨ha, ho⟩ | ho
    ·exact ⟨ha, ho.imp .inl id⟩
    ·refine ⟨?_, .inl (.inr ho)⟩
     rcases hal' with hp | hp
     ·rw [p3.pure hp] at ho; cases ho
     ·exact hp
   ·subst ha
    simp only [Bool.or_eq_false_iff, Bool.not_eq_false'] at hal
    exact ⟨by simpa [hal.1] using g0, .inl hal.2⟩
 have hl := hl.right
 obtain ⟨rfl, rfl, _⟩ := stillKeys_ok d hst
 have hl := hl.right
 obtain ⟨rfl, rfl, p3'⟩ := still_ok d h2 hv p3
 have hl := hl.right
 obtain ⟨xs', rs, q1, q2, q3, q4⟩ := LH.call hl.left (by rw [d.gs]; exact hg)
 rw [p1] at q1; injection q1 with q1; subst q1
 -- what the callee must not touch
 have hargs : ArgsRel P w (fun b => (al = true ∧ (X b ∨ Wr (cur S e1.obs) μ b)) ∨ b ∈ L) (· ∈ L) s.params xs args L := p3'
 have hdo := hS i s hmem w (fun b => al = true ∧ (X b ∨ Wr (cur S e1.obs) μ b)) xs args0 args L rs hfl hargs d.nodup
  (fun b hb hx => by
   rcases hx.2 with hx | ⟨k, o, r1, r2, r3⟩
   ·obtain ⟨k, o, r1, r2, r3⟩ := d.own b hb
    exact G.xsep k o b r1 r2 r3 hx
   ·exact d.good.xsep k o b r1 r2 r3 (.inr hb))
  (fun b hx => by
   rcases hx.2 with hx | ⟨k, o, r1, r2, r3⟩
   ·exact G.xlt b hx
   ·exact d.good.blk_lt r1 r2 r3) q2
 refine hdo.mono fun v w' A => ?_
 obtain ⟨vs, ivs, bvs, L1, L2, rfl, rfl, hnd, hLn, hres, hback⟩ := A.out
 have hOA : ∀ (WA : Nat → Prop), (∀ b, WA b → Wr (cur S e1.obs) μ b ∨ b ∈ L1 ++ L2) → ∃ O : Nat → Prop, RessRel P w' O s.results ivs vs L1 ∧ BackRel P w' O s.params bvs args L2 ∧ ∀ b, (X b ∨ WA b) → O b := by
  intro WA hWA
  cases ha : al with
  | true =>
   refine ⟨_, hres, hback, fun b hb => ?_⟩
   subst ha
   rcases hb with hb | hb
   ·exact .inl ⟨rfl, .inl hb⟩
   ·exact (hWA b hb).imp (fun h => ⟨rfl, .inr h⟩) id
  | false =>
   obtain ⟨hflat, hps⟩ := hfl0 ha
   exact ⟨fun _ => True, hres.flat hflat, hps.elim (fun hp => hback.free hp) (fun hp => hback.flat hp), fun _ _ => trivial⟩
 obtain ⟨t1, t2⟩ := packs q4
 by_cases hgs : es.gs = []
 ·obtain ⟨O, o1, o2, o3⟩ := hOA (fun b => Wr (cur S e1.obs) μ b ∨ b ∈ L1 ++ L2) fun _ h => h
  have r0 := reg_base G d A.step hLn
  have hgs1 : e1.gs = [] := d.gs.trans hgs
  rw [List.nodup_append] at hnd
  obtain ⟨hn1, hn2, hn3⟩ := hnd
  have hm34 : e3.m ≤ e4.m := backBoxes_m h4
  obtain ⟨rfl, u1, u2, u3, μ1, u4, u5, u6, u7, u8⟩ := mkRes_ok (c := cxW P X ρ (fun b => Wr (cur S e1.obs) μ b ∨ b ∈ L1 ++ L2) μ w') (es := { e1 with n := e1.n + (PLet.call i ab.1 s.arity).arity }) hgs1 h3
   (o1.weaken fun b _ hb => o3 b hb) hn1 (fun b hb => ⟨List.mem_append_left _ hb, .inr (List.mem_append_left _ hb)⟩) r0 t1 (fun k k1 k2 => hfr k (by have := d.m; have k1 : e1.m ≤ k := k1; omega) (by omega))
  have u3 : e1.m ≤ e3.m := u3
  have hm1 := d.m
  rw [u8] at h4
  obtain ⟨rfl, v1, v2, v3, μ', v4, v5, _⟩ := backBoxes_ok (c := (cxW P X ρ (fun b => Wr (cur S e1.obs) μ b ∨ b ∈ L1 ++ L2) μ w').at μ1) (u2.trans hgs1) h4
   (o2.weaken fun b _ hb => o3 b hb) (p4.mono (fun _ h => .inl h) u4) hn2 (fun b hb => ⟨⟨List.mem_append_right _ hb, fun h => hn3 b h b hb rfl⟩, .inr (List.mem_append_right _ hb)⟩) u5 t2 (fun k k1 k2 hk => by
    rcases hk with hk | hk
    ·exact hfr k (by omega) k2 hk
    ·have hk2 : k < e3.m := hk.2
     omega)
  have hw : ∀ k, withKeys (withKeys K e1.m e3.m) e3.m e4.m k → withKeys K es.m e4.m k := by
   intro k hk
   have := withKeys_trans u3 v3 k hk
   rwa [hm1] at this
  have Lt := Cx.later (c := (cxW P X ρ (fun b => Wr (cur S e1.obs) μ b ∨ b ∈ L1 ++ L2) μ w').at μ1) (μ := μ') u5.wo v4
  refine ⟨μ', reg_out G d A.step hLn (v5.keys hw fun b h => h) (packRes_ok (Lt.vrels u7 u6)) (fun k hk => hw k (.inl (u7 k (packRes_keys _ k hk)))) fun k hk => (v4 k (.inl hk)).trans (u4 k hk)⟩
 ·have hp : s.params.all PS.isPure = true := hbare.resolve_right hgs
  have hL := p3.pure hp
  subst hL
  have hgs1 : e1.gs.isEmpty = false := by rw [d.gs]; cases hh : es.gs <;> simp_all
  obtain ⟨O, o1, o2, o3⟩ := hOA (fun b => Wr (cur S e1.obs) μ b ∨ b ∈ ([] : List Nat)) fun b h => h.imp id fun h => by cases h
  have r0 := reg_base (Ln := []) G d A.step (by simp)
  obtain ⟨rfl, rfl, u1, u2⟩ := mkResG_ok (c := cxW P X ρ (fun b => Wr (cur S e1.obs) μ b ∨ b ∈ ([] : List Nat)) μ w') (es := { e1 with n := e1.n + (PLet.call i ab.1 s.arity).arity }) hgs1 h3 o1 (fun b _ hb => o3 b hb)
   (fun b hb hO => by
    have hf : w.heap.size ≤ b := (hLn b (List.mem_append_left _ hb)).resolve_left (by simp)
    rcases hO with hO | ⟨k, o, y1, y2, y3⟩ | hO
    ·have := G.xlt b hO; omega
    ·have := d.good.blk_lt y1 y2 y3; omega
    ·cases hO) t1
  have hbk := p4.pure hp
  rw [hbk] at h4
  unfold backBoxes at h4
  rw [Ev_pure] at h4
  obtain ⟨_, rfl, rfl⟩ := h4
  refine ⟨μ, reg_out (Ln := []) G d A.step (by simp) (r0.keys (fun _ h => .inl h) fun b h => h) (packRes_ok u1) (fun k hk => ?_) fun _ _ => rfl⟩
  have := packRes_keys _ k hk
  rw [u2] at this
  cases this
end
end Go.CT
namespace Go.CT
open EM
section
variable {P : Program} {N : Nat} {X : Nat → Prop} {R : Job → List IV → Option (List IV)} {ρ : List IV} {K : Nat → Prop} {S : View} {μ : Nat → Value} {a : Act} {w w' : World} {es es' : ES} {ls : List PLt} {sx : SX}
 {tm : Nat → SV} {ob : Nat → Option Ob}
theorem later_alloc (obj : Obj) : Later K (cxOf P X ρ ob μ w) (cxOf P X ρ ob μ (w.alloc obj)) :=
 { P := rfl, ρ := fun _ _ h => h, μ := fun _ _ => rfl, stays := (wstep_alloc _ w obj).stays, O := fun _ _ h => h, W := fun _ _ h => h, WO := fun _ h => .inr h }
theorem Good.alloc (G : Good P N X ρ K tm ob μ a w) (obj : Obj) : Good P N X ρ K tm ob μ a (w.alloc obj) :=
 ⟨G.size, G.defers, fun s => (later_alloc obj).srel (G.kt s) (G.slot s), fun k o ho => (later_alloc obj).obOk (G.ko k o ho).1 (G.ko k o ho).2 (fun _ b _ hlt => Go.RowKit.Below.heap_alloc _ _ _ hlt) (G.obj k o ho), G.sep, G.xsep,
  fun b hb => Nat.lt_of_lt_of_le (G.xlt b hb) (wstep_alloc (fun _ => False) w obj).size, G.kt, G.ko⟩
theorem xBuildSliceG_ok {t : TypeId} {len : Nat} {parts : Array (Nat × Operand)} (G : Good P N X ρ K S.tm (cur S es.obs) μ a w) (h : Ev S (xBuildSliceG P t len parts) es sx es' ls) (hl : LH R ρ ls) (hg : holds ρ es.gs = some true) :
  ∃ v w' μ', (Instr.buildSlice t len (parts.map fun (i, x) => (i, a.eval x))).run P w = .ok v w' ∧ Out P N X ρ K S μ a w es es' sx μ' w' v := by
 unfold xBuildSliceG at h
 rw [Ev_bind] at h
 obtain ⟨e, _, _, _, h0, h, rfl⟩ := h
 rw [Ev_ofOption] at h0
 obtain ⟨he, rfl, rfl⟩ := h0
 rw [Ev_bind] at h
 obtain ⟨_, _, _, _, h0, h, rfl⟩ := h
 rw [Ev_guard] at h0
 obtain ⟨g1, rfl, rfl⟩ := h0
 simp only [Bool.and_eq_true, decide_eq_true_eq, beq_iff_eq] at g1
 obtain ⟨⟨⟨⟨g1, g2⟩, g3⟩, g4⟩, g5⟩ := g1
 rw [Ev_bind] at h
 obtain ⟨as, e1, l1, _, h1, h, rfl⟩ := h
 have hl := hl.right.right
 obtain ⟨p, xs, q1, q2, q3⟩ := partsData_ok g5 G h1 hl.left hg
 simp only [Ev_bind, Ev_prim, Ev_pure] at h
 obtain ⟨_, _, _, _, ⟨rfl, rfl, rfl⟩, ⟨rfl, rfl, rfl⟩, rfl⟩ := h
 obtain ⟨vs, iv, r1, r2, r3⟩ := LH.prim hl.right.left (by rw [p.gs]; exact hg)
 rw [q1] at r1; injection r1 with r1; subst r1
 simp only [Prim.ev, Option.some.injEq] at r2; subst r2
 obtain ⟨i, z, z1, z2, z3, z4, z5⟩ := zero_of g4
 have ht := elemT_eq he
 have hlen : (parts.toList.map fun p => a.eval p.2).length = len := by simp [g3]
 have hxs := q2.len
 rw [hlen] at hxs
 let vs0 := parts.toList.map fun p => a.eval p.2
 let cells0 : Array Value := (Array.range (len * sizeT P e)).map ((if len * sizeT P e = 0 then (#[] : Array Value) else z.cells)[· % (if len * sizeT P e = 0 then (#[] : Array Value) else z.cells).size]!)
 have hc0 : cells0.size = len * sizeT P e := by simp [cells0]
 obtain ⟨cells', f1, f2⟩ := fill_rows (sz := sizeT P e) vs0 0 cells0 (fun v hv => (q2.size v hv).1) (by rw [hc0, Nat.zero_add]; exact Nat.mul_le_mul_right _ (by simp [vs0, g3]))
 have hvl : vs0.length = len := hlen
 have f2' : cells'.toList = flatC vs0 := by
  rw [f2, Nat.zero_mul, List.take_zero, List.nil_append, Nat.zero_add, hvl, List.drop_of_length_le (by rw [Array.length_toList, hc0]; exact Nat.le_refl _), List.append_nil]
 have hcs : cells'.size = len * sizeT P e := by
  rw [← Array.length_toList, f2', flatC_len (sz := sizeT P e) (fun v hv => (q2.size v hv).1), hvl]
 have L : Later K (cxOf P X ρ (cur S e1.obs) μ w) (cxOf P X ρ (cur S e1.obs) μ (w.alloc (.cells cells' e))) := later_alloc _
 refine ⟨.slice (some ⟨w.heap.size, 0, none⟩) len len, w.alloc (.cells cells' e), μ, ?_, ?_⟩
 ·have hparts : (parts.map fun (x : Nat × Operand) => match x with | (i, x) => (i, a.eval x)).toList = pairs 0 vs0 := by
   rw [Array.toList_map]
   have : (fun (x : Nat × Operand) => match x with | (i, x) => (i, a.eval x)) = fun p => (p.1, a.eval p.2) := by funext ⟨i, x⟩; rfl
   rw [this]; exact q3
  unfold Instr.buildSlice
  have hn : ¬ (len * sizeT P e > 2 ^ 24) := by omega
  by_cases hzz : len * sizeT P e = 0
  ·simp only [underlying, Sem.run_bind, run_program, Result.andThen_ok, ht, Sem.run_pure, run_sizeOf z1, if_neg hn, if_pos hzz, hparts]
   have f1' := f1
   simp only [cells0, if_pos hzz] at f1'
   rw [f1']
   simp [newRow]
  ·simp only [underlying, Sem.run_bind, run_program, Result.andThen_ok, ht, Sem.run_pure, run_sizeOf z1, if_neg hn, if_neg hzz, hparts, zeroValue, typeInfo, z1, z2]
   have f1' := f1
   simp only [cells0, if_neg hzz] at f1'
   rw [f1']
   simp [newRow]
 ·have hone : ∀ u ∈ flatC vs0, u.oneCell' = true := fun u hu => flatC_one (fun v hv => (q2.size v hv).2) u hu
  have hrow : RowOwn P (w.alloc (.cells cells' e)) (cxOf P X ρ (cur S e1.obs) μ w).O e xs (.slice (some ⟨w.heap.size, 0, none⟩) len len) := by
   refine ⟨g2, flatC vs0, ?_, L.elems q2.elems, hone⟩
   rw [hxs]
   refine ⟨by rw [flatC_len (sz := sizeT P e) (fun v hv => (q2.size v hv).1), hvl], .inr ⟨w.heap.size, len, cells', rfl, Nat.zero_le _, heap_alloc_new w _, Nat.le_refl _, ?_, hcs, ?_⟩⟩
   ·have : maxLen = 9223372036854775807 := by decide
    have := Nat.le_mul_of_pos_right len g2
    omega
   ·rw [List.take_of_length_le (by rw [Array.length_toList, hcs]; exact Nat.le_refl _), f2']
  have hrel := hrow.rel (O' := (cxOf P X ρ (cur S e1.obs) μ w).O) ht (fun _ _ h => h) (fun b hb hO => by
   simp [blk] at hb
   subst hb
   rcases hO with hO | ⟨k, o, k1, k2, k3⟩
   ·exact Nat.lt_irrefl _ (G.xlt _ hO)
   ·exact Nat.lt_irrefl _ (p.good.blk_lt k1 k2 k3))
  refine ⟨(p.good.alloc _).mk_keys fun _ h => .inl h, ⟨.list xs, r3, hrel⟩, keys_dat _ _, ?_, fun b hb => .inl (p.fewer.wr hb), fun _ _ => rfl⟩
  exact wstep_alloc _ _ _
end
end Go.CT
namespace Go.CT
open EM
section
variable {P : Program} {N : Nat} {X : Nat → Prop} {R : Job → List IV → Option (List IV)} {ρ : List IV} {K : Nat → Prop} {S : View} {μ : Nat → Value} {a : Act} {w w' : World} {es es' e1 : ES} {ls : List PLt} {sx : SX}
theorem fitsPS_es {p : PS} {v : VV} {b : Bool} (h : Ev S (fitsPS p v) es b es' ls) : es = es' ∧ ls = [] := by
  unfold fitsPS at h
  split at h <;> first
    | (rw [Ev_pure] at h; exact ⟨h.2.1, h.2.2⟩)
    | (rw [Ev_bind] at h
       obtain ⟨o, _, _, l2, h0, h, rfl⟩ := h
       rw [Ev_getOb] at h0
       obtain ⟨ho, rfl, rfl⟩ := h0
       split at h <;> (rw [Ev_pure] at h; exact ⟨h.2.1, by simpa using h.2.2⟩))
theorem fitsAll_es : ∀ {ps : List PS} {vs : List VV} {b : Bool} {es es' : ES} {ls : List PLt}, Ev S (fitsAll ps vs) es b es' ls → es = es' ∧ ls = []
 | [], [], b, es, es', ls, h => by
  unfold fitsAll at h
  rw [Ev_pure] at h; exact ⟨h.2.1, h.2.2⟩
 | p :: ps, v :: vs, b, es, es', ls, h => by
  unfold fitsAll at h
  rw [Ev_bind] at h
  obtain ⟨c, e1, l1, l2, h1, h2, rfl⟩ := h
  obtain ⟨rfl, rfl⟩ := fitsPS_es h1
  rw [Ev_ite] at h2
  rcases h2 with ⟨_, h2⟩ | ⟨_, h2⟩
  ·obtain ⟨rfl, rfl⟩ := fitsAll_es h2
   exact ⟨rfl, rfl⟩
  ·rw [Ev_pure] at h2; exact ⟨h2.2.1, by simpa using h2.2.2⟩
 | [], _ :: _, b, es, es', ls, h => by unfold fitsAll at h; rw [Ev_pure] at h; exact ⟨h.2.1, h.2.2⟩
 | _ :: _, [], b, es, es', ls, h => by unfold fitsAll at h; rw [Ev_pure] at h; exact ⟨h.2.1, h.2.2⟩
theorem pickSpec_ok {f : FuncId} {vs : List VV} : ∀ {ss : List (Nat × Spec)} {q : Nat × Spec} {es es' : ES} {ls : List PLt}, Ev S (pickSpec f vs ss) es q es' ls → es = es' ∧ ls = [] ∧ q ∈ ss ∧ q.2.fn = f
 | [], q, es, es', ls, h => by simp [pickSpec, Ev_fail] at h
 | (i, s) :: ss, q, es, es', ls, h => by
  unfold pickSpec at h
  rw [Ev_ite] at h
  rcases h with ⟨h0, h⟩ | ⟨_, h⟩
  ·split at h
   ·rw [Ev_bind] at h
    obtain ⟨c, e1, l1, l2, h1, h2, rfl⟩ := h
    obtain ⟨rfl, rfl⟩ := fitsAll_es h1
    rw [Ev_ite] at h2
    rcases h2 with ⟨_, h2⟩ | ⟨_, h2⟩
    ·rw [Ev_pure] at h2
     obtain ⟨rfl, rfl, rfl⟩ := h2
     exact ⟨rfl, rfl, List.mem_cons_self, by simpa using h0⟩
    ·obtain ⟨rfl, rfl, q1, q2⟩ := pickSpec_ok h2
     exact ⟨rfl, rfl, List.mem_cons_of_mem _ q1, q2⟩
   ·obtain ⟨rfl, rfl, q1, q2⟩ := pickSpec_ok h
    exact ⟨rfl, rfl, List.mem_cons_of_mem _ q1, q2⟩
  ·obtain ⟨rfl, rfl, q1, q2⟩ := pickSpec_ok h
   exact ⟨rfl, rfl, List.mem_cons_of_mem _ q1, q2⟩
theorem rdAll_ok : ∀ {xs : List Operand} {ts : List TypeId} {es es' : ES} {vs : List VV} {ls : List PLt}, Good P N X ρ K S.tm (cur S es.obs) μ a w → Ev S (rdAll P xs ts) es vs es' ls → holds ρ es.gs = some true →
  es = es' ∧ ls = [] ∧ VRels (cxOf P X ρ (cur S es.obs) μ w) vs (xs.map a.eval) ∧ ∀ k ∈ vs.flatMap keysVV, K k
 | [], ts, es, es', vs, ls, G, h, hg => by
  unfold rdAll at h
  rw [Ev_pure] at h
  obtain ⟨rfl, rfl, rfl⟩ := h
  exact ⟨rfl, rfl, trivial, by simp⟩
 | x :: xs, t :: ts, es, es', vs, ls, G, h, hg => by
  unfold rdAll at h
  simp only [Ev_bind, Ev_pure] at h
  obtain ⟨v, e1, l1, _, h1, ⟨vs, e2, l2, _, h2, ⟨rfl, rfl, rfl⟩, rfl⟩, rfl⟩ := h
  obtain ⟨rfl, rfl, p1, p2⟩ := rd1_ok G h1 hg
  obtain ⟨rfl, rfl, q1, q2⟩ := rdAll_ok G h2 hg
  refine ⟨rfl, rfl, ⟨p1, q1⟩, fun k hk => ?_⟩
  rw [List.flatMap_cons] at hk
  rcases List.mem_append.1 hk with hk | hk
  ·exact p2 k hk
  ·exact q2 k hk
 | _ :: _, [], es, es', vs, ls, G, h, hg => by simp [rdAll, Ev_fail] at h
theorem PRels.len {c : Cx} : ∀ {ps : List PV} {vs : List Value}, PRels c ps vs → ps.length = vs.length
 | [], [], _ => rfl
 | _ :: _, _ :: _, h => by simp [PRels.len h.2]
 | [], _ :: _, h => h.elim
 | _ :: _, [], h => h.elim
theorem flat_ok {c : Cx} : ∀ {k : Nat} {ps : List PS} {vvs fl : List VV} {vs : List Value}, flatVV k ps vvs = some fl → VRels c vvs vs → ∃ fs, flatV k ps vs = some fs ∧ VRels c fl fs ∧ ∀ q ∈ fl.flatMap keysVV, q ∈ vvs.flatMap keysVV
 | k + 1, _ :: ps, vvs, fl, vs, h, hv => by
  unfold flatVV at h
  unfold flatV
  exact flat_ok h hv
 | k + 1, [], vvs, fl, vs, h, hv => by simp [flatVV] at h
 | 0, [], [], fl, vs, h, hv => by
  cases vs with
  | cons => exact hv.elim
  | nil =>
   simp only [flatVV, Option.some.injEq] at h
   subst h
   exact ⟨[], rfl, trivial, by simp⟩
 | 0, [], _ :: _, fl, vs, h, hv => by simp [flatVV] at h
 | 0, p :: ps, [], fl, vs, h, hv => by simp [flatVV] at h
 | 0, p :: ps, x :: vvs, fl, vs, h, hv => by
  cases vs with
  | nil => exact hv.elim
  | cons v vs =>
   unfold flatVV at h
   unfold flatV
   cases hp : fnbOf p with
   | none =>
    simp only [hp] at h ⊢
    cases hr : flatVV 0 ps vvs with
    | none => simp [hr] at h
    | some r =>
     simp only [hr, Option.map_some, Option.some.injEq] at h
     subst h
     obtain ⟨fs, q1, q2, q3⟩ := flat_ok hr hv.2
     refine ⟨v :: fs, by simp [q1], ⟨hv.1, q2⟩, fun q hq => ?_⟩
     rw [List.flatMap_cons] at hq ⊢
     exact (List.mem_append.1 hq).elim (fun h => List.mem_append_left _ h) fun h => List.mem_append_right _ (q3 q h)
   | some fn =>
    simp only [hp] at h ⊢
    cases hx : cloVV x with
    | none => simp [hx] at h
    | some gc =>
     simp only [hx] at h
     split at h
     ·rename_i hc
      simp only [Bool.and_eq_true, beq_iff_eq] at hc
      obtain ⟨g, caps, rfl⟩ : ∃ g caps, x = .leaf (.fn g caps) := by
       unfold cloVV at hx
       split at hx
       ·exact ⟨_, _, rfl⟩
       ·cases hx
      simp only [cloVV, Option.some.injEq] at hx
      subst hx
      cases hr : flatVV fn.2 ps vvs with
      | none => simp [hr] at h
      | some r =>
       simp only [hr, Option.map_some, Option.some.injEq] at h
       subst h
       obtain ⟨cs, rfl, hcs⟩ := hv.1
       obtain ⟨fs, q1, q2, q3⟩ := flat_ok hr hv.2
       refine ⟨.func (.func g) #[] cs :: (cs.toList ++ fs), ?_, ⟨trivial, hcs.vrels.append q2⟩, fun q hq => ?_⟩
       ·have hl := hcs.len
        simp only [cloV, Array.isEmpty_empty, if_true, q1, Option.map_some]
        rw [if_pos]
        simp only [Bool.and_eq_true, beq_iff_eq]
        exact ⟨hc.1, hl ▸ hc.2⟩
       ·rw [List.flatMap_cons, List.flatMap_append, keys_caps] at hq
        rw [List.flatMap_cons]
        rcases List.mem_append.1 hq with hq | hq
        ·simp [keysVV, keysLV] at hq
        ·exact (List.mem_append.1 hq).elim (fun h => List.mem_append_left _ h) fun h => List.mem_append_right _ (q3 q h)
     ·cases h
theorem wp_of_does {o : Oper} {f : FuncId} {args : Array Value} {R : Value → World → Prop} {next : Act → World → Prop} {Q : Exit → Act → World → Prop} (h : Does P f args w R) (he : (execOp a.eval o).run P w = (callFunc f args).run P w)
  (hn : ∀ v w', R v w' → next (a.put o.dst v) w') : o.wp P a w next Q := by
 unfold Oper.wp
 rw [he]
 rcases h with ⟨fn, h1, h2, h3, h4⟩ | ⟨v, w', h1, h2⟩
 ·have : (callFunc f args).run P w = .ok (.enter f args) w := by
   have h2' : ¬ fn.name = "runtime.NumGoroutine" := by simpa using h2
   have h3' : ¬ fn.body = none := fun e => by simp [e] at h3
   simp [callFunc, h1, h2', h3']
  rw [this, Oper.upon_enter]
  refine h4.mono fun e w' ⟨v, hv, hR⟩ => ?_
  subst hv
  exact hn v w' hR
 ·rw [h1]; exact hn v w' h2
theorem xOp_ok {specs : List (Nat × Spec)} {o : Oper} {next : Act → World → Prop} {Q : Exit → Act → World → Prop} (hS : Sound P specs R) (G : Good P N X ρ K S.tm (cur S es.obs) μ a w) (h : Ev S (xOp P specs o) es sx es' ls) (hl : LH R ρ ls)
  (hg : holds ρ es.gs = some true) (hfr : ∀ k, es.m ≤ k → k < es'.m → ¬ K k) (hn : ∀ v w' μ', Out P N X ρ K S μ a w es es' sx μ' w' v → next (a.put o.dst v) w') : o.wp P a w next Q := by
 have val : ∀ {s : Sem Value}, (execOp a.eval o = do pure (.value (← s))) → (∃ v w' μ', s.run P w = .ok v w' ∧ Out P N X ρ K S μ a w es es' sx μ' w' v) → o.wp P a w next Q := by
  intro s he ⟨v, w', μ', h1, h2⟩
  refine wp_of_value (w' := w') (v := v) ?_ (hn v w' μ' h2)
  rw [he, Sem.run_bind, h1]; rfl
 have val0 : ∀ {s : Sem Value}, (execOp a.eval o = do pure (.value (← s))) → (∃ v, s.run P w = .ok v w ∧ Out P N X ρ K S μ a w es es' sx μ w v) → o.wp P a w next Q := by
  intro s he ⟨v, h1, h2⟩
  exact val he ⟨v, w, μ, h1, h2⟩
 unfold xOp at h
 split at h
 ·rename_i x ho
  obtain ⟨rfl, rfl, q1, q2⟩ := rd_ok G h hg
  exact wp_of_value (w' := w) (v := a.eval x) (by simp [execOp, ho]) (hn _ _ μ (Ph.out (.refl G) q1 q2))
 ·rename_i x ho
  obtain ⟨rfl, rfl, q1, q2⟩ := rd_ok G h hg
  exact wp_of_value (w' := w) (v := a.eval x) (by simp [execOp, ho]) (hn _ _ μ (Ph.out (.refl G) q1 q2))
 ·rename_i c x y ho
  obtain ⟨v, h1, h2⟩ := xPick_ok G h hl hg
  refine wp_of_value (w' := w) (v := v) ?_ (hn _ _ μ h2)
  simp only [execOp, ho]
  simp only [Sem.run_bind, Sem.run_pure] at h1 ⊢
  cases hc : (asBool (a.eval c)).run P w with
  | halt => simp [hc] at h1
  | ok b w2 => simp [hc] at h1 ⊢; exact h1
 ·rename_i t x ho
  exact val (by simp [execOp, ho]) (xBox_ok G h hg hfr)
 ·rename_i t ho
  split at h
  ·exact val (by simp [execOp, ho]) (xAllocB_ok G h hfr)
  ·exact val (by simp [execOp, ho]) (xAlloc_ok G h hfr)
 ·rename_i t x ho
  exact val0 (by simp [execOp, ho]) (xLoad_ok G h hl hg)
 ·rename_i t x y ho
  rw [Ev_bind] at h
  obtain ⟨vv, e1, l1, _, h1, h, rfl⟩ := h
  rw [Ev_bind] at h
  obtain ⟨p, e2, l2, _, h2, h, rfl⟩ := h
  obtain ⟨rfl, rfl, rfl, hp, hpk⟩ := rdPtr_ok G h1 h2 hg
  rw [Ev_bind] at h
  obtain ⟨v, e3, l3, _, h3, h, rfl⟩ := h
  obtain ⟨rfl, rfl, hv, hvk⟩ := rd1_ok G h3 hg
  rw [Ev_bind] at h
  obtain ⟨_, e4, l4, _, h4, h, rfl⟩ := h
  rw [Ev_pure] at h
  obtain ⟨rfl, rfl, rfl⟩ := h
  obtain ⟨w', μ', r1, r2⟩ := storeP_ok G h4 (by simpa using hl) hg hp hpk hv hvk
  unfold Oper.wp
  have : (execOp a.eval o).run P w = .ok .skip w' := by simp [execOp, ho, r1]
  rw [this, Oper.upon_skip]
  exact hn undef w' μ' r2
 ·rename_i s x f ho
  exact val0 (by simp [execOp, ho]) (xFieldAddr_ok G h hg)
 ·rename_i s x f ho
  exact val0 (by simp [execOp, ho]) (xField_ok G h hl hg)
 ·rename_i t x i ho
  exact val0 (by simp [execOp, ho]) (xIndexAddr_ok G h hl hg)
 ·rename_i t x i ho
  exact val0 (by simp [execOp, ho]) (xIndexS_ok G h hl hg)
 ·rename_i t x lo hi mx ho
  exact val0 (by simp [execOp, ho]) (xSliceAny_ok G h hl hg)
 ·rename_i op xt x y yt ho
  exact val0 (by simp [execOp, ho]) (xBinAny_ok G h hl hg)
 ·rename_i op xt x ho
  exact val0 (by simp [execOp, ho]) (xUn_ok G h hl hg)
 ·rename_i src dst x ho
  exact val0 (by simp [execOp, ho]) (xConv_ok G h hl hg)
 ·rename_i x ho
  obtain ⟨v, h1, h2⟩ := xNilCheck_ok ho G h hg
  exact wp_of_value h1 (hn _ _ μ h2)
 ·rename_i x i ho
  exact val0 (by simp [execOp, ho]) (xExtract2_ok G h hl hg)
 ·rename_i t x ho
  exact val (by simp [execOp, ho]) (xRange_ok G h hl hg hfr)
 ·rename_i it isS ho
  exact val (by simp [execOp, ho]) (xNext_ok (ty := o.type) G h hl hg)
 ·rename_i t r ho
  obtain ⟨rfl, h1⟩ := xMakeMap_ok G h hfr
  exact val (by simp [execOp, ho]) h1
 ·rename_i t x i ok ho
  exact val0 (by simp [execOp, ho]) (xLookup_ok G h hl hg)
 ·rename_i t m i x ho
  obtain ⟨w', μ', r1, r2⟩ := xMapUpdate_ok G h hl hg
  unfold Oper.wp
  have : (execOp a.eval o).run P w = .ok .skip w' := by simp [execOp, ho, r1]
  rw [this, Oper.upon_skip]
  exact hn undef w' μ' r2
 ·rename_i t parts ho
  exact val0 (by simp [execOp, ho]) (xBuild_ok G h hl hg)
 ·rename_i t len parts ho
  simp only [Ev_bind, Ev_guards] at h
  obtain ⟨gs, _, _, _, ⟨rfl, rfl, rfl⟩, h, rfl⟩ := h
  rw [Ev_ite] at h
  rcases h with ⟨_, h⟩ | ⟨_, h⟩
  ·exact val (by simp [execOp, ho]) (xBuildSlice_ok G h (by simpa using hl) hg hfr)
  ·exact val (by simp [execOp, ho]) (xBuildSliceG_ok G h (by simpa using hl) hg)
 ·rename_i t x y ho
  exact val (by simp [execOp, ho]) (xMakeSlice_ok G h hl hg hfr)
 ·rename_i f first caps ho
  exact val0 (by simp [execOp, ho]) (xMakeFunc_ok G h hg)
 ·rename_i c ho
  unfold xCall at h
  split at h
  ·rename_i b hb
   split at h
   ·rename_i x t ha ht
    have e1 : c.args = #[x] := by rw [← Array.toArray_toList (xs := c.args), ha]
    have e2 : c.argTypes = #[t] := by rw [← Array.toArray_toList (xs := c.argTypes), ht]
    obtain ⟨v, h1, h2⟩ := xLen_ok e2 G h hl hg
    refine wp_of_value (w' := w) (v := v) ?_ (hn _ _ μ h2)
    simp [execOp, ho, resolve, hb, e1, invoke, builtin, h1]
   ·rename_i s x st xt ha ht
    have e1 : c.args = #[s, x] := by rw [← Array.toArray_toList (xs := c.args), ha]
    have e2 : c.argTypes = #[st, xt] := by rw [← Array.toArray_toList (xs := c.argTypes), ht]
    rw [Ev_ite] at h
    rcases h with ⟨_, h⟩ | ⟨_, h⟩
    ·obtain ⟨v, w', μ', h1, h2⟩ := xAppendS_ok G h hl hg hfr
     refine wp_of_value (w' := w') (v := v) ?_ (hn _ _ μ' h2)
     simp [execOp, ho, resolve, hb, e1, e2, invoke, builtin, h1]
    ·obtain ⟨v, w', μ', h1, h2⟩ := xAppendAny_ok G h hl hg hfr
     refine wp_of_value (w' := w') (v := v) ?_ (hn _ _ μ' h2)
     simp [execOp, ho, resolve, hb, e1, e2, invoke, builtin, h1]
   ·rename_i x t ha ht
    have e1 : c.args = #[x] := by rw [← Array.toArray_toList (xs := c.args), ha]
    have e2 : c.argTypes = #[t] := by rw [← Array.toArray_toList (xs := c.argTypes), ht]
    obtain ⟨v, w', μ', h1, h2⟩ := xClear_ok (rt := o.type) G h hl hg
    refine wp_of_value (w' := w') (v := v) ?_ (hn _ _ μ' h2)
    simp [execOp, ho, resolve, hb, e1, e2, invoke, builtin, h1]
   ·rename_i x y t u ha ht
    have e1 : c.args = #[x, y] := by rw [← Array.toArray_toList (xs := c.args), ha]
    rw [Ev_bind] at h
    obtain ⟨_, _, _, _, h0, h, rfl⟩ := h
    rw [Ev_guard] at h0
    obtain ⟨g0, rfl, rfl⟩ := h0
    obtain ⟨v, h1, h2⟩ := xMinMax_ok (ats := c.argTypes) G h (by simpa using hl) hg
    refine wp_of_value (w' := w) (v := v) ?_ (hn _ _ μ h2)
    simp only [if_true] at h1
    simp [execOp, ho, resolve, hb, e1, invoke, builtin, h1]
   ·rename_i x y t u ha ht
    have e1 : c.args = #[x, y] := by rw [← Array.toArray_toList (xs := c.args), ha]
    rw [Ev_bind] at h
    obtain ⟨_, _, _, _, h0, h, rfl⟩ := h
    rw [Ev_guard] at h0
    obtain ⟨g0, rfl, rfl⟩ := h0
    obtain ⟨v, h1, h2⟩ := xMinMax_ok (ats := c.argTypes) G h (by simpa using hl) hg
    refine wp_of_value (w' := w) (v := v) ?_ (hn _ _ μ h2)
    simp only [Bool.false_eq_true, if_false] at h1
    simp [execOp, ho, resolve, hb, e1, invoke, builtin, h1]
   ·simp [Ev_fail] at h
  ·rename_i fo hb
   rw [Ev_bind] at h
   obtain ⟨fv, e1, l1, _, h1, h, rfl⟩ := h
   obtain ⟨rfl, rfl, p1, p2⟩ := rd1_ok G h1 hg
   split at h
   ·rename_i f caps
    obtain ⟨vs, p1, p3⟩ := p1
    rw [Ev_bind] at h
    obtain ⟨vvs, e2, l2, _, h2, h, rfl⟩ := h
    obtain ⟨rfl, rfl, q1, q2⟩ := rdAll_ok G h2 hg
    simp only [Ev_bind] at h
    obtain ⟨q, e3, l3, _, h3, ⟨fl, _, _, _, h0, h, rfl⟩, rfl⟩ := h
    obtain ⟨rfl, rfl, r1, r2⟩ := pickSpec_ok h3
    rw [Ev_ofOption] at h0
    obtain ⟨hfl, rfl, rfl⟩ := h0
    obtain ⟨fs, f1, f2, f3⟩ := flat_ok hfl (q1.append p3.vrels)
    have hdo := xCallSpec_ok f1 hS r1 G h (by simpa using hl) hg (fun k hk => by
     have hk := f3 k hk
     rw [List.flatMap_append, keys_caps] at hk
     rcases List.mem_append.1 hk with hk | hk
     ·exact q2 k hk
     ·exact p2 k hk) f2 hfr
    rw [r2] at hdo
    refine wp_of_does hdo ?_ fun v w' ⟨μ', hO⟩ => hn v w' μ' hO
    have e : (c.args.toList.map a.eval ++ vs.toList).toArray = c.args.map a.eval ++ vs := by
     apply Array.toList_inj.1; simp
    rw [e]
    simp [execOp, ho, resolve, hb, p1, Deferred.ofValue, invoke]
   ·simp [Ev_fail] at h
  ·simp [Ev_fail] at h
 ·simp [Ev_fail] at h
end
end Go.CT
namespace Go.CT
open EM
theorem RM.run_congr {α : Type} {S S' : View} : ∀ {f : RM α} {x : α} {ls : List PLt} {sl ks : List Nat}, f.run S = some (x, ls, sl, ks) → (∀ t ∈ sl, S'.tm t = S.tm t) → (∀ k ∈ ks, S'.ob k = S.ob k) → f.run S' = some (x, ls, sl, ks)
 | .pure a, x, ls, sl, ks, h, _, _ => h
 | .tm s k, x, ls, sl, ks, h, h1, h2 => by
  simp only [RM.run, Option.map_eq_some_iff, Prod.exists] at h
  obtain ⟨a, e, l, r, h, h'⟩ := h
  simp only [Prod.mk.injEq] at h'
  obtain ⟨rfl, rfl, rfl, rfl⟩ := h'
  have := RM.run_congr h (fun t ht => h1 t (List.mem_cons_of_mem _ ht)) h2
  simp only [RM.run, h1 s List.mem_cons_self, this, Option.map_some]
 | .ob s k, x, ls, sl, ks, h, h1, h2 => by
  simp only [RM.run, Option.map_eq_some_iff, Prod.exists] at h
  obtain ⟨a, e, l, r, h, h'⟩ := h
  simp only [Prod.mk.injEq] at h'
  obtain ⟨rfl, rfl, rfl, rfl⟩ := h'
  have := RM.run_congr h h1 (fun t ht => h2 t (List.mem_cons_of_mem _ ht))
  simp only [RM.run, h2 s List.mem_cons_self, this, Option.map_some]
 | .emit l k, x, ls, sl, ks, h, h1, h2 => by
  simp only [RM.run, Option.map_eq_some_iff, Prod.exists] at h
  obtain ⟨a, e, l, r, h, h'⟩ := h
  simp only [Prod.mk.injEq] at h'
  obtain ⟨rfl, rfl, rfl, rfl⟩ := h'
  have := RM.run_congr h h1 h2
  simp only [RM.run, this, Option.map_some]
section
variable {P : Program} {N : Nat} {X : Nat → Prop} {R : Job → List IV → Option (List IV)} {ρ : List IV} {K : Nat → Prop} {S : View} {μ : Nat → Value} {a : Act} {w w' : World} {es es' e1 : ES} {ls : List PLt} {sx : SX}
 {tm : Nat → SV} {ob : Nat → Option Ob} {specs : List (Nat × Spec)} {ops : Array Oper}
structure FS (P : Program) (N : Nat) (X : Nat → Prop) (ρ : List IV) (K : Nat → Prop) (tm : Nat → SV) (ob : Nat → Option Ob) (μ : Nat → Value) (a : Act) (w : World) (W0 : Nat → Prop) (w0 : World) (H : Nat → Prop) (hd : Nat → Value) : Prop where
 good : Good P N X ρ K tm ob μ a w
 step : WStep W0 w0 w
 own : ∀ b, Wr ob μ b → W0 b ∨ w0.heap.size ≤ b
 hdr : ∀ k, H k → K k ∧ μ k = hd k
theorem FS.out {W0 : Nat → Prop} {w0 : World} {H : Nat → Prop} {hd : Nat → Value} {μ' : Nat → Value} {v : Value} (F : FS P N X ρ K S.tm (cur S es.obs) μ a w W0 w0 H hd) (o : Out P N X ρ K S μ a w es es' sx μ' w' v) :
  WStep W0 w0 w' ∧ ∀ b, Wr (cur S es'.obs) μ' b → W0 b ∨ w0.heap.size ≤ b := by
 refine ⟨⟨o.step.os.trans F.step.os, o.step.tape.trans F.step.tape, o.step.output.trans F.step.output, Nat.le_trans F.step.size o.step.size, fun b hb hw => ?_⟩, fun b hb => ?_⟩
 ·rw [o.step.stays b (Nat.lt_of_lt_of_le hb F.step.size) fun h => ?_, F.step.stays b hb hw]
  rcases F.own b h with h | h
  ·exact hw h
  ·omega
 ·rcases o.own b hb with h | h
  ·exact F.own b h
  ·exact .inr (Nat.le_trans F.step.size h)
theorem Good.putSlot (G : Good P N X ρ K tm ob μ a w) {d : Option Nat} {sv : SV} {v : Value} (hd : ∀ t, d = some t → t < N) (hv : SRel (cxOf P X ρ ob μ w) sv v) (hk : ∀ k ∈ keysSX sv.x, K k) :
  Good P N X ρ K (fun t => if d = some t then sv else tm t) ob μ (a.put d v) w := by
 cases d with
 | none => simpa [Act.put] using G
 | some t =>
  have ht := hd t rfl
  refine ⟨by simpa [Act.put] using G.size, G.defers, fun s => ?_, G.obj, G.sep, G.xsep, G.xlt, fun s k hk' => ?_, G.ko⟩
  ·by_cases hs : t = s
   ·subst hs
    have : (a.put (some t) v).tmps.getD t undef = v := by
     have hlt : t < a.tmps.size := by rw [G.size]; exact ht
     simp [Act.put, hlt]
    rw [this]; simpa using hv
   ·have : (a.put (some t) v).tmps.getD s undef = a.tmps.getD s undef := by
     simp [Act.put, Array.getElem?_setIfInBounds_ne hs]
    rw [this]; simpa [hs] using G.slot s
  ·by_cases hs : t = s
   ·subst hs; simp at hk'; exact hk k hk'
   ·simp [hs] at hk'; exact G.kt s k hk'
theorem holds_append : ∀ {gs hs : List (Arg × Bool)}, holds ρ (gs ++ hs) = match holds ρ gs with | some true => holds ρ hs | r => r
 | [], hs => rfl
 | (x, want) :: gs, hs => by
  simp only [List.cons_append, holds]
  cases hx : x.ev ρ with
  | none => rfl
  | some y =>
   cases y <;> try rfl
   rename_i b
   by_cases hb : b = want
   ·simp only [hb, if_true]; exact holds_append
   ·simp [hb]
theorem opGuard_ok {o : Oper} {gs : List (Arg × Bool)} {gk : List Nat} (h : opGuard P S ops o = some (gs, gk)) (hs : ∀ t ∈ gk, tm t = S.tm t) (G : Good P N X ρ K tm ob μ a w) :
  holds ρ gs = some (Region.wanted o (yielded ops a.tmps)) := by
 unfold opGuard at h
 cases hg : o.guard with
 | none =>
  simp only [hg, Option.some.injEq, Prod.mk.injEq] at h
  obtain ⟨rfl, rfl⟩ := h
  simp [holds, Region.wanted, hg]
 | some jw =>
  obtain ⟨j, want⟩ := jw
  simp only [hg] at h
  cases hd : (ops[j]?).bind (·.dst) with
  | none => simp [hd] at h
  | some d =>
   simp only [hd] at h
   split at h
   ·rename_i x t hx
    split at h
    ·rename_i hb
     simp only [Option.some.injEq, Prod.mk.injEq] at h
     obtain ⟨rfl, rfl⟩ := h
     have hsd := hs d (by simp)
     obtain ⟨b, h1, h2, h3⟩ := G.slot d
     rw [hsd] at h1 h2
     have h1 : holds ρ (S.tm d).gs = some b := h1
     rw [holds_append, h1]
     have hw : Region.wanted o (yielded ops a.tmps) = (yielded ops a.tmps j == some want) := by simp [Region.wanted, hg]
     rw [hw]
     have hy : yielded ops a.tmps j = match a.tmps[d]? with | some (.bool b) => some b | _ => none := by
      unfold yielded; rw [hd]; rfl
     cases b with
     | true =>
      have hx' := h2 rfl
      rw [hx] at hx'
      obtain ⟨iv, q1, q2⟩ := hx'
      obtain ⟨c, rfl, q3⟩ := q2.bool_inv (isBool_eq hb)
      have q1 : x.ev ρ = some (.bool c) := q1
      have : a.tmps[d]? = some (.bool c) := by
       have q3' : (a.tmps[d]?).getD undef = .bool c := by simpa using q3
       cases hq : a.tmps[d]? with
       | none => rw [hq] at q3'; simp [undef] at q3'
       | some z => rw [hq] at q3'; simp at q3'; rw [q3']
      rw [hy, this]
      simp only [holds, q1]
      by_cases hcw : c = want
      ·simp [hcw]
      ·simp only [hcw, if_false]; cases c <;> cases want <;> simp_all
     | false =>
      have h3 := h3 rfl
      have hne : yielded ops a.tmps j = none := by
       rw [hy]
       have q3' : (a.tmps[d]?).getD undef = undef := by simpa using h3
       cases hq : a.tmps[d]? with
       | none => rfl
       | some z => rw [hq] at q3'; simp at q3'; rw [q3']; rfl
      rw [hne]; rfl
    ·cases h
   ·cases h
theorem keysBelow_ok {m0 : Nat} {x : SX} (h : keysBelow m0 x = true) : ∀ k ∈ keysSX x, k < m0 := by
 have hp : ∀ p : PV, keysBelowPV m0 p = true → ∀ k ∈ keysPV p, k < m0 := by
  intro p h k hk
  cases p <;> simp_all [keysBelowPV, keysPV]
 have hl : ∀ l : LV, keysBelowLV m0 l = true → ∀ k ∈ keysLV l, k < m0 := by
  intro l h k hk
  cases l <;> simp_all [keysBelowLV, keysLV]
  ·exact hp _ h k hk
  ·obtain ⟨p, h1, h2⟩ := hk
   exact hp p (h p h1) k h2
 have hv : ∀ v : VV, keysBelowVV m0 v = true → ∀ k ∈ keysVV v, k < m0 := by
  intro v h k hk
  cases v with
  | leaf l => exact hl l h k hk
  | agg t ls =>
   simp only [keysBelowVV, List.all_eq_true] at h
   simp only [keysVV, List.mem_flatMap] at hk
   obtain ⟨l, h1, h2⟩ := hk
   exact hl l (h l h1) k h2
 intro k hk
 cases x with
 | one v => exact hv v h k hk
 | nx => cases hk
 | tup vs =>
  simp only [keysBelow, List.all_eq_true] at h
  simp only [keysSX, List.mem_flatMap] at hk
  obtain ⟨v, h1, h2⟩ := hk
  exact hv v (h v h1) k h2
theorem onlyFrozen_ok : ∀ {obs : List (Nat × Option Ob)} {S' : View}, onlyFrozen S obs = true → (∀ k ∈ obs.map (·.1), S'.ob k = S.ob k) → Good P N X ρ K tm S'.ob μ a w → Good P N X ρ K tm (cur S' obs) μ a w ∧ Fewer S'.ob (cur S' obs)
 | [], S', _, _, G => ⟨by rw [cur_nil]; exact G, by rw [cur_nil]; exact Fewer.refl _⟩
 | (k, none) :: r, S', h, _, _ => by simp [onlyFrozen] at h
 | (k, some (.box _ _)) :: r, S', h, _, _ => by simp [onlyFrozen] at h
 | (k, some (.arr _ _ _)) :: r, S', h, _, _ => by simp [onlyFrozen] at h
 | (k, some (.iter _ _)) :: r, S', h, _, _ => by simp [onlyFrozen] at h
 | (k, some (.mp _ _ _ _)) :: r, S', h, _, _ => by simp [onlyFrozen] at h
 | (k, some (.frz e t c)) :: r, S', h, hk, G => by
  simp only [onlyFrozen, Bool.and_eq_true] at h
  obtain ⟨h1, h2⟩ := h
  obtain ⟨G1, F1⟩ := onlyFrozen_ok h2 (fun k hk' => hk k (by simp at hk' ⊢; exact .inr hk')) G
  rw [cur_cons]
  have hSk := hk k (by simp)
  -- in the older obs k is frozen already, or still as it was
  have hcur : ∃ c', (cur S' r k = some (.arr e t c') ∨ cur S' r k = some (.frz e t c')) ∧ c.ev ρ = c'.ev ρ := by
   have hbase : ∃ c', (S.ob k = some (.arr e t c') ∨ S.ob k = some (.frz e t c')) ∧ c.ev ρ = c'.ev ρ := by
    split at h1
    ·rename_i e' t' c' hob
     simp only [Bool.and_eq_true, beq_iff_eq] at h1
     obtain ⟨⟨rfl, rfl⟩, h1⟩ := h1
     exact ⟨c', .inl hob, Arg.same_ev h1⟩
    ·rename_i e' t' c' hob
     simp only [Bool.and_eq_true, beq_iff_eq] at h1
     obtain ⟨⟨rfl, rfl⟩, h1⟩ := h1
     exact ⟨c', .inr hob, Arg.same_ev h1⟩
    ·cases h1
   obtain ⟨c', hb, hev⟩ := hbase
   unfold cur
   cases hlk : lookOb k r with
   | none => simp only; rw [hSk]; exact ⟨c', hb, hev⟩
   | some o =>
    simp only
    -- what stands in r for k is frozen too, of the same row
    have : ∀ {r : List (Nat × Option Ob)} {o : Option Ob}, onlyFrozen S r = true → lookOb k r = some o → ∃ c2, o = some (.frz e t c2) ∧ c.ev ρ = c2.ev ρ := by
     intro r o hr hl
     induction r with
     | nil => simp [lookOb] at hl
     | cons q r ih =>
      obtain ⟨k2, o2⟩ := q
      unfold lookOb at hl
      by_cases hkk : k2 = k
      ·simp only [hkk, beq_self_eq_true, if_true, Option.some.injEq] at hl
       subst hl
       cases o2 with
       | none => simp [onlyFrozen] at hr
       | some ob2 =>
        cases ob2 with
        | box => simp [onlyFrozen] at hr
        | arr => simp [onlyFrozen] at hr
        | iter => simp [onlyFrozen] at hr
        | mp => simp [onlyFrozen] at hr
        | frz e2 t2 c2 =>
         simp only [onlyFrozen, Bool.and_eq_true, hkk] at hr
         obtain ⟨hr, _⟩ := hr
         rcases hb with hb | hb <;> simp only [hb, Bool.and_eq_true, beq_iff_eq] at hr <;> obtain ⟨⟨rfl, rfl⟩, hr⟩ := hr <;> exact ⟨c2, rfl, hev.trans (Arg.same_ev hr).symm⟩
      ·have : (k2 == k) = false := by simpa using hkk
       simp only [this, Bool.false_eq_true, if_false] at hl
       refine ih ?_ hl
       cases o2 with
       | none => simp [onlyFrozen] at hr
       | some ob2 => cases ob2 <;> simp [onlyFrozen] at hr ⊢ <;> exact hr.2
    obtain ⟨c2, rfl, hev2⟩ := this h2 hlk
    exact ⟨c2, .inr rfl, hev2⟩
  obtain ⟨c', hc, hev⟩ := hcur
  have swap : ∀ {ob : Nat → Option Ob}, Good P N X ρ K tm ob μ a w → ob k = some (.frz e t c') → Good P N X ρ K tm (updOb ob k (some (.frz e t c))) μ a w ∧ Fewer ob (updOb ob k (some (.frz e t c))) := by
   intro ob G ho
   have F : Fewer ob (updOb ob k (some (.frz e t c))) := by
    intro k' o ho' hi
    unfold updOb at ho'
    split at ho'
    ·injection ho' with ho'; subst ho'; simp [Ob.isOwn] at hi
    ·exact ho'
   refine ⟨G.fewer F (fun k' o ho' hi => ?_), F⟩
   by_cases hk : k' = k
   ·subst hk
    simp only [updOb, if_true, Option.some.injEq] at ho'
    subst ho'
    have hL := F.later (K := K) (P := P) (X := X) (ρ := ρ) (μ := μ) (w := w)
    obtain ⟨q1, iv, q2, q3⟩ := G.obj k' _ ho
    refine ⟨⟨q1, iv, hev.trans q2, hL.rel q3⟩, (G.ko k' _ ho).1, fun _ h => by simp [keysOb] at h⟩
   ·have ho2 : ob k' = some o := by simpa [updOb, hk] using ho'
    exact ⟨F.later.obOk (K := K) (G.ko k' o ho2).1 (G.ko k' o ho2).2 (fun _ _ _ _ => rfl) (G.obj k' o ho2), G.ko k' o ho2⟩
  rcases hc with hc | hc
  ·obtain ⟨G2, F2⟩ := G1.freeze hc
   have : updOb (updOb (cur S' r) k (some (.frz e t c'))) k (some (.frz e t c)) = updOb (cur S' r) k (some (.frz e t c)) := by
    funext k'; unfold updOb; split <;> rfl
   obtain ⟨G3, F3⟩ := swap G2 (by simp [updOb])
   rw [this] at G3 F3
   exact ⟨G3, F1.trans (F2.trans F3)⟩
  ·obtain ⟨G3, F3⟩ := swap G1 hc
   exact ⟨G3, F1.trans F3⟩
end
end Go.CT
namespace Go.CT
open EM
def Done.slot (d : Done) (tm : Nat → SV) (t : Nat) : SV := if d.dst = some t then d.v else tm t
section
variable {P : Program} {N : Nat} {X : Nat → Prop} {R : Job → List IV → Option (List IV)} {ρ : List IV} {K : Nat → Prop} {S : View} {μ : Nat → Value} {a : Act} {w w' : World} {es es' e1 : ES} {ls : List PLt} {sx : SX}
 {tm : Nat → SV} {ob : Nat → Option Ob} {specs : List (Nat × Spec)} {ops : Array Oper} {Q : Exit → Act → World → Prop}
theorem doOp_ok {S' : View} {n m m0 i : Nat} {o : Oper} {d : Done} {W0 : Nat → Prop} {w0 : World} {H : Nat → Prop} {hd : Nat → Value} {next : Act → World → Prop} (hS : Sound P specs R) (hdo : doOp P specs N ops m0 S n m o = some d) (F : FS P N X ρ K S'.tm S'.ob μ a w W0 w0 H hd)
  (hsl : ∀ t ∈ d.slots, S'.tm t = S.tm t) (hky : ∀ k ∈ d.keys, S'.ob k = S.ob k) (hwk : ∀ k ∈ d.obs.map (·.1), S'.ob k = S.ob k) (hfr : ∀ k, m ≤ k → k < d.m → ¬ K k) (hm0 : ∀ k, k < m0 → K k) (hl : LH R ρ d.lets)
  (hi : ops[i]? = some o) (hn : ∀ a' w' μ', FS P N X ρ (withKeys K m d.m) (d.slot S'.tm) (cur S' d.obs) μ' a' w' W0 w0 H hd → next a' w') : wpOp P ops Q i next a w := by
 unfold doOp at hdo
 cases hg : opGuard P S ops o with
 | none => simp [hg] at hdo
 | some gg =>
  obtain ⟨gs, gk⟩ := gg
  simp only [hg] at hdo
  cases hr : (xOp P specs o { n, m, gs, obs := [] }).run S with
  | none => simp [hr] at hdo
  | some q =>
   obtain ⟨⟨x, es⟩, lets, slots, keys⟩ := q
   simp only [hr] at hdo
   ·rw [Option.ite_none_right_eq_some] at hdo
    obtain ⟨hc, hdo⟩ := hdo
    injection hdo with hdo
    subst hdo
    rw [Bool.and_eq_true, Bool.and_eq_true, Bool.or_eq_true, Bool.and_eq_true] at hc
    obtain ⟨⟨hc1, hc2⟩, hc3⟩ := hc
    have hdst : ∀ t, o.dst = some t → t < N := by
     intro t ht; rw [ht] at hc2; simpa using hc2
    have hh := opGuard_ok hg (fun t ht => hsl t (List.mem_append_left _ ht)) F.good
    have hr' := RM.run_congr hr (fun t ht => hsl t (List.mem_append_right _ ht)) hky
    have hEv : Ev S' (xOp P specs o) { n, m, gs, obs := [] } x es lets := ⟨slots, keys, hr'⟩
    have G0 : Good P N X ρ K S'.tm (cur S' ([] : List (Nat × Option Ob))) μ a w := by rw [cur_nil]; exact F.good
    unfold wpOp
    rw [hi]
    simp only
    by_cases hw : Region.wanted o (yielded ops a.tmps) = true
    ·rw [if_pos hw]
     rw [hw] at hh
     refine .inl (xOp_ok hS G0 hEv hl hh hfr fun v w' μ' O => ?_)
     have F0 : FS P N X ρ K S'.tm (cur S' ({ n, m, gs, obs := [] } : ES).obs) μ a w W0 w0 H hd := by
      show FS P N X ρ K S'.tm (cur S' []) μ a w W0 w0 H hd
      rw [cur_nil]; exact F
     obtain ⟨f1, f2⟩ := F0.out O
     exact hn _ _ μ' ⟨O.good.putSlot hdst ⟨true, hh, fun _ => O.rel, fun h => by cases h⟩ O.keys, f1, f2, fun k hk => ⟨.inl (F.hdr k hk).1, (O.keep k (F.hdr k hk).1).trans (F.hdr k hk).2⟩⟩
    ·rw [if_neg hw]
     have hw' : Region.wanted o (yielded ops a.tmps) = false := by simpa using hw
     rw [hw'] at hh
     have hgs : gs.isEmpty = false := by
      cases gs with
      | nil => simp [holds] at hh
      | cons => rfl
     rw [hgs] at hc1
     have hc1 := hc1.resolve_left (by simp)
     obtain ⟨G1, F1⟩ := onlyFrozen_ok hc1.1 hwk F.good
     refine hn _ _ μ ⟨(G1.putSlot (sv := ⟨gs, x⟩) hdst ⟨false, hh, (fun h => by cases h), fun _ => rfl⟩ fun k hk => hm0 k (keysBelow_ok hc1.2 k hk)).mk_keys fun _ h => .inl h, F.step, fun b hb => F.own b (F1.wr hb), fun k hk => ⟨.inl (F.hdr k hk).1, (F.hdr k hk).2⟩⟩
theorem doOp_m {n m m0 : Nat} {o : Oper} {d : Done} (hd : doOp P specs N ops m0 S n m o = some d) : m ≤ d.m := by
 unfold doOp at hd
 split at hd
 ·cases hd
 ·split at hd
  ·cases hd
  ·rw [Option.ite_none_right_eq_some] at hd
   obtain ⟨hc, hd⟩ := hd
   injection hd with hd
   subst hd
   rw [Bool.and_eq_true] at hc
   simpa using hc.2
end
section
variable {β : Type}
def over (D : Nat → Bool) : List (Nat → Option β) → Nat → (Nat → β) → Nat → β
 | [], _, f => f
 | g :: gs, j, f => over D gs (j + 1) (if D j then fun t => (g t).getD (f t) else f)
theorem over_congr {D D' : Nat → Bool} {t : Nat} : ∀ {gs : List (Nat → Option β)} {j : Nat} {f f' : Nat → β}, (∀ i g, gs[i]? = some g → (g t).isSome → D (j + i) = D' (j + i)) → f t = f' t → over D gs j f t = over D' gs j f' t
 | [], _, _, _, _, h => h
 | g :: gs, j, f, f', h, hf => by
  unfold over
  refine over_congr (fun i g' hg hs => ?_) ?_
  ·have := h (i + 1) g' (by simpa using hg) hs
   rwa [← Nat.add_assoc, Nat.add_right_comm] at this
  ·have h0 := h 0 g (by simp)
   rw [Nat.add_zero] at h0
   cases hg : g t with
   | none => cases D j <;> cases D' j <;> simp [hg, hf]
   | some y =>
    have h0 := h0 (by simp [hg])
    rw [h0]
    cases D' j <;> simp [hg, hf]
theorem over_ne {D : Nat → Bool} {t : Nat} : ∀ {gs : List (Nat → Option β)} {j : Nat} {f : Nat → β}, (∀ i g, gs[i]? = some g → D (j + i) = true → g t = none) → over D gs j f t = f t
 | [], _, _, _ => rfl
 | g :: gs, j, f, h => by
  unfold over
  rw [over_ne fun i g' hg hs => h (i + 1) g' (by simpa using hg) (by rwa [← Nat.add_assoc, Nat.add_right_comm])]
  cases hD : D j with
  | false => rfl
  | true =>
   have := h 0 g (by simp) (by simpa using hD)
   simp [this]
theorem over_add {D : Nat → Bool} {t : Nat} : ∀ {gs : List (Nat → Option β)} {i j : Nat} {f : Nat → β} {g : Nat → Option β}, gs[i]? = some g → D (j + i) = false → (∀ i' g', i < i' → gs[i']? = some g' → D (j + i') = true → (g t).isSome → g' t = none) →
    over (fun n => n == j + i || D n) gs j f t = (g t).getD (over D gs j f t)
  | [], i, _, _, _, h, _, _ => by simp at h
  | g0 :: gs, 0, j, f, g, h, hD, hx => by
    simp at h; subst h
    unfold over
    simp only [Nat.add_zero, beq_self_eq_true, Bool.true_or, if_true] at hD ⊢
    rw [hD]
    simp only [Bool.false_eq_true, if_false]
    have e1 : over (fun n => n == j || D n) gs (j + 1) (fun t => (g0 t).getD (f t)) t = over D gs (j + 1) (fun t => (g0 t).getD (f t)) t :=
      over_congr (fun i' g' hg hs => by have : (j + 1 + i' == j) = false := by simp; omega
                                        simp [this]) rfl
    rw [e1]
    cases hg : g0 t with
    | none => 
      simp only [Option.getD_none]
      exact over_congr (fun _ _ _ _ => rfl) (by simp [hg])
    | some y =>
      rw [over_ne fun i' g' hg' hD' => hx (i' + 1) g' (by omega) (by simpa using hg') (by rwa [← Nat.add_assoc, Nat.add_right_comm]) (by simp [hg])]
      simp [hg]
  | g0 :: gs, i + 1, j, f, g, h, hD, hx => by
    unfold over
    have hj : (j == j + (i + 1)) = false := by simp
    simp only [hj, Bool.false_or]
    have ih := over_add (D := D) (t := t) (gs := gs) (i := i) (j := j + 1) (f := if D j then fun t => (g0 t).getD (f t) else f) (by simpa using h) (by rwa [Nat.add_right_comm, Nat.add_assoc])
      (fun i' g' hlt hg hD' hs => hx (i' + 1) g' (by omega) (by simpa using hg) (by rwa [← Nat.add_assoc, Nat.add_right_comm]) hs)
    rw [show j + 1 + i = j + (i + 1) by omega] at ih
    exact ih
end
end Go.CT
namespace Go.CT
open EM
theorem lookTm_putTm (t t' : Nat) (v : SV) (l : List (Nat × SV)) : lookTm t (putTm t' v l) = if t' = t then v else lookTm t l := by
 induction l with
 | nil => simp [putTm, lookTm]
 | cons p l ih =>
  obtain ⟨t2, v2⟩ := p
  unfold putTm
  by_cases h : t2 = t'
  ·subst h
   simp only [beq_self_eq_true, if_true, lookTm]
   by_cases h2 : t2 = t <;> simp [h2]
  ·have : (t2 == t') = false := by simpa using h
   simp only [this, Bool.false_eq_true, if_false, lookTm, ih]
   by_cases h2 : t2 = t
   ·subst h2
    have h3 : ¬ t' = t2 := fun e => h e.symm
    simp [h3]
   ·simp [h2]
theorem lookO_dropO (k k' : Nat) (l : List (Nat × Ob)) : lookO k (dropO k' l) = if k' = k then none else lookO k l := by
 induction l with
 | nil => simp [dropO, lookO]
 | cons p l ih =>
  obtain ⟨k2, v2⟩ := p
  unfold dropO
  by_cases h : k2 = k'
  ·subst h
   simp only [beq_self_eq_true, if_true, ih, lookO]
   by_cases h2 : k2 = k <;> simp [h2]
  ·have : (k2 == k') = false := by simpa using h
   simp only [this, Bool.false_eq_true, if_false, lookO, ih]
   by_cases h2 : k2 = k
   ·subst h2
    have h3 : ¬ k' = k2 := fun e => h e.symm
    simp [h3]
   ·simp [h2]
theorem lookO_putOb (k k' : Nat) (o : Option Ob) (l : List (Nat × Ob)) : lookO k (putOb k' o l) = if k' = k then o else lookO k l := by
 cases o with
 | none => simp [putOb, lookO_dropO]
 | some o =>
  simp only [putOb, lookO, lookO_dropO]
  by_cases h : k' = k <;> simp [h]
theorem lookO_putObs (k : Nat) : ∀ (r : List (Nat × Option Ob)) (l : List (Nat × Ob)), lookO k (putObs r l) = (lookOb k r).getD (lookO k l)
 | [], l => rfl
 | (k', o) :: r, l => by
  simp only [putObs, lookO_putOb, lookOb, lookO_putObs k r l]
  by_cases h : k' = k <;> simp [h]
def Done.wrTm (d : Done) (t : Nat) : Option SV := if d.dst = some t then some d.v else none
def Done.wrOb (d : Done) (k : Nat) : Option (Option Ob) := lookOb k d.obs
theorem after_tm (s : St) (d : Done) (t : Nat) : (s.after d).view.tm t = (d.wrTm t).getD (s.view.tm t) := by
 simp only [St.view, St.after, Done.wrTm]
 cases h : d.dst with
 | none => simp
 | some t' =>
  simp only [lookTm_putTm, Option.some.injEq]
  by_cases h : t' = t <;> simp [h]
theorem after_ob (s : St) (d : Done) (k : Nat) : (s.after d).view.ob k = (d.wrOb k).getD (s.view.ob k) := by
 simp only [St.view, St.after, Done.wrOb, lookO_putObs]
def stAt (s : St) (ds : List Done) (i : Nat) : St := (ds.take i).foldl St.after s
theorem stAt_succ {s : St} {ds : List Done} {i : Nat} {d : Done} (h : ds[i]? = some d) : stAt s ds (i + 1) = (stAt s ds i).after d := by
 unfold stAt
 rw [List.take_add_one, h]
 simp [List.foldl_append]
section
variable {P : Program} {N m0 : Nat} {specs : List (Nat × Spec)} {ops : Array Oper}
theorem doOps_get : ∀ {os : List Oper} {s s' : St} {ds : List Done}, doOps P specs N ops m0 os s = some (ds, s') →
  ds.length = os.length ∧ s' = stAt s ds os.length ∧ ∀ (i : Nat) (o : Oper), os[i]? = some o → ∃ d, ds[i]? = some d ∧ doOp P specs N ops m0 (stAt s ds i).view (stAt s ds i).n (stAt s ds i).m o = some d
 | [], s, s', ds, h => by
  simp only [doOps, Option.some.injEq, Prod.mk.injEq] at h
  obtain ⟨rfl, rfl⟩ := h
  exact ⟨rfl, rfl, by simp⟩
 | o :: os, s, s', ds, h => by
  unfold doOps at h
  cases hd : doOp P specs N ops m0 s.view s.n s.m o with
  | none => simp [hd] at h
  | some d =>
   simp only [hd] at h
   cases hr : doOps P specs N ops m0 os (s.after d) with
   | none => simp [hr] at h
   | some q =>
    obtain ⟨ds2, s2⟩ := q
    simp only [hr, Option.some.injEq, Prod.mk.injEq] at h
    obtain ⟨rfl, rfl⟩ := h
    obtain ⟨h1, h2, h3⟩ := doOps_get hr
    refine ⟨by simp [h1], ?_, fun i o' ho => ?_⟩
    ·rw [h2]; rfl
    ·cases i with
     | zero => simp at ho; subst ho; exact ⟨d, rfl, hd⟩
     | succ i => exact h3 i o' (by simpa using ho)
theorem seq_over {β : Type} (pr : St → Nat → β) (wr : Done → Nat → Option β) (hp : ∀ s d t, pr (s.after d) t = (wr d t).getD (pr s t)) (t : Nat) : ∀ (ds : List Done) (i j : Nat) (s : St) (f : Nat → β), (f t = pr s t) →
  over (fun n => decide (n < j + i)) (ds.map wr) j f t = pr (stAt s ds i) t
 | [], i, j, s, f, h => by simp [over, stAt, h]
 | d :: ds, 0, j, s, f, h => by
  have hne : over (fun n => decide (n < j + 0)) ((d :: ds).map wr) j f t = f t := over_ne fun i g hg hD => by
   have := of_decide_eq_true hD
   omega
  rw [hne, h]; rfl
 | d :: ds, i + 1, j, s, f, h => by
  simp only [List.map_cons, over]
  have e : decide (j < j + (i + 1)) = true := by simp
  rw [e]
  have := seq_over pr wr hp t ds i (j + 1) (s.after d) (fun t => (wr d t).getD (f t)) (by rw [hp]; simp [h])
  rw [show j + 1 + i = j + (i + 1) by omega] at this
  simpa [stAt] using this
theorem seq_tm (s : St) (ds : List Done) (i t : Nat) : over (fun n => decide (n < i)) (ds.map Done.wrTm) 0 s.view.tm t = (stAt s ds i).view.tm t := by
 have := seq_over (fun s t => s.view.tm t) Done.wrTm after_tm t ds i 0 s s.view.tm rfl
 simpa using this
theorem seq_ob (s : St) (ds : List Done) (i k : Nat) : over (fun n => decide (n < i)) (ds.map Done.wrOb) 0 s.view.ob k = (stAt s ds i).view.ob k := by
 have := seq_over (fun s t => s.view.ob t) Done.wrOb after_ob k ds i 0 s s.view.ob rfl
 simpa using this
end
section
variable {P : Program} {N : Nat} {X : Nat → Prop} {R : Job → List IV → Option (List IV)} {ρ : List IV} {K : Nat → Prop} {S : View} {μ : Nat → Value} {a : Act} {w w' : World}
 {specs : List (Nat × Spec)} {ops : Array Oper} {Q : Exit → Act → World → Prop} {W0 : Nat → Prop} {w0 : World} {H : Nat → Prop} {hd : Nat → Value}
def KD (s : St) (ds : List Done) (D : Nat → Bool) (k : Nat) : Prop := k < s.m ∨ ∃ i d, D i = true ∧ ds[i]? = some d ∧ (stAt s ds i).m ≤ k ∧ k < d.m
def FSD (P : Program) (N : Nat) (X : Nat → Prop) (ρ : List IV) (s : St) (ds : List Done) (D : Nat → Bool) (μ : Nat → Value) (a : Act) (w : World) (W0 : Nat → Prop) (w0 : World) (H : Nat → Prop) (hd : Nat → Value) : Prop :=
 FS P N X ρ (KD s ds D) (over D (ds.map Done.wrTm) 0 s.view.tm) (over D (ds.map Done.wrOb) 0 s.view.ob) μ a w W0 w0 H hd
structure Paper (P : Program) (specs : List (Nat × Spec)) (N : Nat) (ops : Array Oper) (s s' : St) (ds : List Done) : Prop where
 len : ds.length = ops.size
 last : s' = stAt s ds ops.size
 get : ∀ (i : Nat) (o : Oper), ops[i]? = some o → ∃ d, ds[i]? = some d ∧ doOp P specs N ops s.m (stAt s ds i).view (stAt s ds i).n (stAt s ds i).m o = some d
theorem Paper.of {s s' : St} {ds : List Done} (h : doOps P specs N ops s.m ops.toList s = some (ds, s')) : Paper P specs N ops s s' ds := by
 obtain ⟨h1, h2, h3⟩ := doOps_get h
 exact ⟨by simpa using h1, by simpa using h2, fun i o ho => h3 i o (by simpa using ho)⟩
theorem Paper.mono {s s' : St} {ds : List Done} (p : Paper P specs N ops s s' ds) : ∀ {i j : Nat}, i ≤ j → (stAt s ds i).m ≤ (stAt s ds j).m := by
 intro i j hij
 induction hij with
 | refl => exact Nat.le_refl _
 | step hij ih =>
  rename_i j
  refine Nat.le_trans ih ?_
  cases hd : ds[j]? with
  | none =>
   have : stAt s ds (j + 1) = stAt s ds j := by
    unfold stAt; rw [List.take_add_one, hd]; simp
   rw [this]; exact Nat.le_refl _
  | some d =>
   rw [stAt_succ hd]
   have hlt := (List.getElem?_eq_some_iff.1 hd).1
   rw [p.len] at hlt
   obtain ⟨d', h1, h2⟩ := p.get j ops[j] (Array.getElem?_eq_getElem hlt)
   rw [hd] at h1; injection h1 with h1; subst h1
   exact doOp_m h2
theorem hits_tm {x y : Done} {t : Nat} (h1 : (y.wrTm t).isSome = true) (h2 : t ∈ x.slots ∨ x.dst = some t) : x.hits y = true := by
 unfold Done.wrTm at h1
 split at h1
 ·rename_i h
  simp only [Done.hits, h, Bool.or_eq_true]
  left
  rcases h2 with h2 | h2
  ·left; simpa using h2
  ·right; simpa using h2
 ·cases h1
theorem lookOb_mem {k : Nat} : ∀ {r : List (Nat × Option Ob)}, (lookOb k r).isSome = true ↔ k ∈ r.map (·.1)
 | [] => by simp [lookOb]
 | (k', o) :: r => by
  unfold lookOb
  by_cases h : k' = k
  ·subst h; simp
  ·have : (k' == k) = false := by simpa using h
   simp only [this, Bool.false_eq_true, if_false, List.map_cons, List.mem_cons]
   rw [lookOb_mem]
   constructor
   ·exact .inr
   ·rintro (h' | h')
    ·exact absurd h'.symm h
    ·exact h'
theorem hits_ob {x y : Done} {k : Nat} (h1 : (y.wrOb k).isSome = true) (h2 : k ∈ x.keys ∨ k ∈ x.obs.map (·.1)) : x.hits y = true := by
 unfold Done.wrOb at h1
 rw [lookOb_mem, List.mem_map] at h1
 obtain ⟨p, hp, rfl⟩ := h1
 simp only [Done.hits, Bool.or_eq_true, List.any_eq_true]
 right
 refine ⟨p, hp, ?_⟩
 rcases h2 with h2 | h2
 ·left; simpa using h2
 ·right
  rw [List.mem_map] at h2
  obtain ⟨q, hq, hqk⟩ := h2
  exact ⟨q, hq, beq_iff_eq.2 hqk⟩
theorem stepD_ok {s s' : St} {ds : List Done} {D : Nat → Bool} {i : Nat} {o : Oper} {d : Done} {next : Act → World → Prop} (hS : Sound P specs R) (p : Paper P specs N ops s s' ds) (F : FSD P N X ρ s ds D μ a w W0 w0 H hd) (ho : ops[i]? = some o) (hdd : ds[i]? = some d)
  (hDi : D i = false) (hA : ∀ j e, ds[j]? = some e → j ≠ i → d.hits e = true → D j = decide (j < i)) (hl : LH R ρ d.lets)
  (hn : ∀ a' w' μ', FSD P N X ρ s ds (fun n => n == i || D n) μ' a' w' W0 w0 H hd → next a' w') : wpOp P ops Q i next a w := by
 obtain ⟨d', h1, h2⟩ := p.get i o ho
 rw [hdd] at h1; injection h1 with h1; subst h1
 have hsame : ∀ j e, ds[j]? = some e → d.hits e = true → D j = decide (j < i) := by
  intro j e hj hh
  by_cases hji : j = i
  ·subst hji; simp [hDi]
  ·exact hA j e hj hji hh
 have hob : ∀ k, (k ∈ d.keys ∨ k ∈ d.obs.map (·.1)) → over D (ds.map Done.wrOb) 0 s.view.ob k = (stAt s ds i).view.ob k := by
  intro k hk
  rw [← seq_ob s ds i k]
  refine over_congr (fun j g hg hs => ?_) rfl
  rw [List.getElem?_map, Option.map_eq_some_iff] at hg
  obtain ⟨e, he, rfl⟩ := hg
  simp only [Nat.zero_add]
  exact hsame j e he (hits_ob hs hk)
 refine doOp_ok (S' := ⟨over D (ds.map Done.wrTm) 0 s.view.tm, over D (ds.map Done.wrOb) 0 s.view.ob⟩) hS h2 F (fun t ht => ?_) (fun k hk => hob k (.inl hk)) (fun k hk => hob k (.inr hk)) (fun k hk1 hk2 hK => ?_) (fun k hk => .inl hk) hl ho (fun a' w' μ' F' => hn a' w' μ' ?_)
 ·show over D (ds.map Done.wrTm) 0 s.view.tm t = _
  rw [← seq_tm s ds i t]
  refine over_congr (fun j g hg hs => ?_) rfl
  rw [List.getElem?_map, Option.map_eq_some_iff] at hg
  obtain ⟨e, he, rfl⟩ := hg
  simp only [Nat.zero_add]
  exact hsame j e he (hits_tm hs (.inl ht))
 ·rcases hK with hK | ⟨j, e, q1, q2, q3, q4⟩
  ·have : s.m ≤ (stAt s ds i).m := p.mono (i := 0) (Nat.zero_le i)
   omega
  ·have hji : j ≠ i := fun e => by rw [e, hDi] at q1; cases q1
   rcases Nat.lt_or_ge j i with hlt | hge
   ·have a1 := p.mono (i := j + 1) (j := i) hlt
    rw [stAt_succ q2] at a1
    have : e.m ≤ (stAt s ds i).m := a1
    omega
   ·have a1 := p.mono (i := i + 1) (j := j) (by omega)
    rw [stAt_succ hdd] at a1
    have : d.m ≤ (stAt s ds j).m := a1
    omega
 ·have e1 : d.slot (over D (ds.map Done.wrTm) 0 s.view.tm) = over (fun n => n == i || D n) (ds.map Done.wrTm) 0 s.view.tm := by
   funext t
   have := over_add (D := D) (t := t) (gs := ds.map Done.wrTm) (i := i) (j := 0) (f := s.view.tm) (g := d.wrTm) (by rw [List.getElem?_map, hdd]; rfl) (by simpa using hDi) (fun i' g' hlt hg hD hs => by
    rw [List.getElem?_map, Option.map_eq_some_iff] at hg
    obtain ⟨e, he, rfl⟩ := hg
    rw [Nat.zero_add] at hD
    cases hw : e.wrTm t with
    | none => rfl
    | some y =>
     have hdt : d.dst = some t := by
      unfold Done.wrTm at hs; split at hs
      ·assumption
      ·cases hs
     have := hsame i' e he (hits_tm (t := t) (by simp [hw]) (.inr hdt))
     rw [hD] at this
     simp at this; omega)
   simp only [Nat.zero_add] at this
   rw [this]
   unfold Done.slot Done.wrTm
   split <;> rfl
  have e2 : cur ⟨over D (ds.map Done.wrTm) 0 s.view.tm, over D (ds.map Done.wrOb) 0 s.view.ob⟩ d.obs = over (fun n => n == i || D n) (ds.map Done.wrOb) 0 s.view.ob := by
   funext k
   have := over_add (D := D) (t := k) (gs := ds.map Done.wrOb) (i := i) (j := 0) (f := s.view.ob) (g := d.wrOb) (by rw [List.getElem?_map, hdd]; rfl) (by simpa using hDi) (fun i' g' hlt hg hD hs => by
    rw [List.getElem?_map, Option.map_eq_some_iff] at hg
    obtain ⟨e, he, rfl⟩ := hg
    rw [Nat.zero_add] at hD
    cases hw : e.wrOb k with
    | none => rfl
    | some y =>
     have := hsame i' e he (hits_ob (k := k) (by simp [hw]) (.inr (lookOb_mem.1 hs)))
     rw [hD] at this
     simp at this; omega)
   simp only [Nat.zero_add] at this
   rw [this]
   unfold cur Done.wrOb
   cases lookOb k d.obs <;> rfl
  rw [e2] at F'
  simp only [] at F'
  rw [e1] at F'
  have hKK : ∀ k, withKeys (KD s ds D) (stAt s ds i).m d.m k → KD s ds (fun n => n == i || D n) k := ?_
  ·exact ⟨F'.good.mk_keys hKK, F'.step, F'.own, fun k hk => ⟨hKK k (F'.hdr k hk).1, (F'.hdr k hk).2⟩⟩
  intro k hk
  rcases hk with (hk | ⟨j, e, q1, q2, q3⟩) | hk
  ·exact .inl hk
  ·exact .inr ⟨j, e, by simp [q1], q2, q3⟩
  ·exact .inr ⟨i, d, by simp, hdd, hk⟩
end
end Go.CT
namespace Go.CT
open EM
def Closed (ops : Array Oper) (D : Nat → Bool) : Prop := ∀ (i : Nat) (o : Oper), ops[i]? = some o → D i = true → ∀ e ∈ o.after, Region.binds .any e = true → D e.on = true
theorem ancOf_ok {acc : List Nat} {D : Nat → Bool} (hacc : ∀ (i m : Nat), acc[i]? = some m → D i = true → ∀ j, m.testBit j = true → D j = true) : ∀ {es : List Edge}, (∀ e ∈ es, Region.binds .any e = true → D e.on = true) → ∀ j, (ancOf acc es).testBit j = true → D j = true
 | [], _, j, h => by simp [ancOf] at h
 | e :: es, he, j, h => by
  unfold ancOf at h
  rw [Nat.testBit_or, Bool.or_eq_true] at h
  rcases h with h | h
  ·by_cases hb : Region.binds .any e = true
   ·rw [if_pos hb, Nat.testBit_or, Bool.or_eq_true] at h
    have hon := he e List.mem_cons_self hb
    rcases h with h | h
    ·rw [Nat.one_shiftLeft, Nat.testBit_two_pow] at h
     have : e.on = j := by simpa using h
     rw [← this]; exact hon
    ·cases hm : acc[e.on]? with
     | none => rw [List.getD_eq_getElem?_getD, hm] at h; simp at h
     | some m =>
      rw [List.getD_eq_getElem?_getD, hm] at h
      exact hacc e.on m hm hon j h
   ·rw [if_neg hb] at h; simp at h
  ·exact ancOf_ok hacc (fun e' h' => he e' (List.mem_cons_of_mem _ h')) j h
theorem ancs_ok {ops : Array Oper} : ∀ {os : List Oper} {acc : List Nat}, (∀ i o, os[i]? = some o → ops[acc.length + i]? = some o) →
  (∀ D, Closed ops D → ∀ (i m : Nat), acc[i]? = some m → ∀ o, ops[i]? = some o → (∀ e ∈ o.after, Region.binds .any e = true → D e.on = true) → ∀ j, m.testBit j = true → D j = true) → acc.length + os.length = ops.size →
  (ancs os acc).length = ops.size ∧ ∀ D, Closed ops D → ∀ (i m : Nat), (ancs os acc)[i]? = some m → ∀ o, ops[i]? = some o → (∀ e ∈ o.after, Region.binds .any e = true → D e.on = true) → ∀ j, m.testBit j = true → D j = true
 | [], acc, _, h, hl => by
  unfold ancs
  exact ⟨by simpa using hl, h⟩
 | o :: os, acc, hos, h, hl => by
  unfold ancs
  refine ancs_ok (fun i o' ho' => ?_) (fun D hD i m hm o' ho' he j hj => ?_) (by simp at hl ⊢; omega)
  ·have := hos (i + 1) o' (by simpa using ho')
   rw [List.length_append, List.length_singleton, Nat.add_assoc, Nat.add_comm 1 i]
   exact this
  ·by_cases hi : i < acc.length
   ·rw [List.getElem?_append_left hi] at hm
    exact h D hD i m hm o' ho' he j hj
   ·rw [List.getElem?_append_right (by omega)] at hm
    have hi2 : i = acc.length := by
     have := (List.getElem?_eq_some_iff.1 hm).1
     simp at this; omega
    subst hi2
    simp at hm
    subst hm
    have : o' = o := by
     have := hos 0 o rfl
     rw [Nat.add_zero, ho'] at this
     injection this
    subst this
    refine ancOf_ok (D := D) (fun i m hm hDi j hj => ?_) (fun e hmem hb => he e (by simpa using hmem) hb) j hj
    have hlt := (List.getElem?_eq_some_iff.1 hm).1
    have hlt2 : i < ops.size := by simp at hl; omega
    exact h D hD i m hm ops[i] (Array.getElem?_eq_getElem hlt2) (fun e he hb => hD i ops[i] (Array.getElem?_eq_getElem hlt2) hDi e he hb) j hj
theorem apartAll_ok {anc : Nat} {x : Done} : ∀ {ys : List Done} {j : Nat}, apartAll anc x ys j = true → ∀ i y, ys[i]? = some y → anc.testBit (j + i) = true ∨ (x.hits y = false ∧ y.hits x = false)
 | [], _, _, i, y, h => by simp at h
 | y :: ys, j, h, i, y', hy => by
  unfold apartAll at h
  rw [Bool.and_eq_true] at h
  cases i with
  | zero =>
   simp at hy; subst hy
   have := h.1
   simp only [Bool.or_eq_true, Bool.not_eq_true', Bool.or_eq_false_iff] at this
   exact this
  | succ i =>
   have := apartAll_ok h.2 i y' (by simpa using hy)
   rwa [Nat.add_assoc, Nat.add_comm 1 i] at this
theorem drawOkGo_ok : ∀ {as : List Nat} {ds before : List Done}, drawOkGo before as ds = true → ∀ i d a, ds[i]? = some d → as[i]? = some a → ∀ j y, (before ++ ds)[j]? = some y → j < before.length + i → a.testBit j = true ∨ (d.hits y = false ∧ y.hits d = false)
 | a :: as, d :: ds, before, h, i, d', a', hd, ha, j, y, hy, hj => by
  unfold drawOkGo at h
  rw [Bool.and_eq_true] at h
  cases i with
  | zero =>
   simp at hd ha; subst hd; subst ha
   rw [List.getElem?_append_left (by omega)] at hy
   have := apartAll_ok h.1 j y hy
   rwa [Nat.zero_add] at this
  | succ i =>
   refine drawOkGo_ok h.2 i d' a' (by simpa using hd) (by simpa using ha) j y (by simpa using hy) (by simp; omega)
 | [], [], _, _, i, d, a, hd, _, _, _, _, _ => by simp at hd
 | [], _ :: _, _, h, _, _, _, _, _, _, _, _, _ => by simp [drawOkGo] at h
 | _ :: _, [], _, h, _, _, _, _, _, _, _, _, _ => by simp [drawOkGo] at h
theorem backOk_ok : ∀ {os : List Oper} {i : Nat}, backOk os i = true → ∀ j o, os[j]? = some o → ∀ e ∈ o.after, Region.binds .any e = true → e.on < i + j
 | o :: os, i, h, j, o', ho, e, he, hb => by
  unfold backOk at h
  rw [Bool.and_eq_true] at h
  cases j with
  | zero =>
   simp at ho; subst ho
   have := h.1
   rw [List.all_eq_true] at this
   have := this e (by simpa using he)
   simpa [hb] using this
  | succ j =>
   have := backOk_ok h.2 j o' (by simpa using ho) e he hb
   omega
 | [], _, _, j, o, ho, _, _, _ => by simp at ho
section
variable {P : Program} {N : Nat} {X : Nat → Prop} {R : Job → List IV → Option (List IV)} {ρ : List IV} {K : Nat → Prop} {S : View} {μ : Nat → Value} {a : Act} {w w' : World}
 {specs : List (Nat × Spec)} {ops : Array Oper} {Q : Exit → Act → World → Prop} {W0 : Nat → Prop} {w0 : World} {H : Nat → Prop} {hd : Nat → Value} {s s' : St} {ds : List Done}
theorem KD_last (p : Paper P specs N ops s s' ds) {D : Nat → Bool} {k : Nat} (h : KD s ds D k) : k < s'.m := by
 rw [p.last]
 rcases h with h | ⟨i, d, _, h2, _, h4⟩
 ·exact Nat.lt_of_lt_of_le h (p.mono (i := 0) (Nat.zero_le _))
 ·have hi := (List.getElem?_eq_some_iff.1 h2).1
  rw [p.len] at hi
  have := p.mono (i := i + 1) (j := ops.size) hi
  rw [stAt_succ h2] at this
  exact Nat.lt_of_lt_of_le h4 this
theorem FSD.last (p : Paper P specs N ops s s' ds) {D : Nat → Bool} (hD : ∀ i, i < ops.size → D i = true) (F : FSD P N X ρ s ds D μ a w W0 w0 H hd) : FS P N X ρ (· < s'.m) s'.view.tm s'.view.ob μ a w W0 w0 H hd := by
 have e1 : over D (ds.map Done.wrTm) 0 s.view.tm = s'.view.tm := by
  funext t
  rw [p.last, ← seq_tm s ds ops.size t]
  refine over_congr (fun j g hg hs => ?_) rfl
  have hj := (List.getElem?_eq_some_iff.1 hg).1
  rw [List.length_map, p.len] at hj
  simp [hD j hj, hj]
 have e2 : over D (ds.map Done.wrOb) 0 s.view.ob = s'.view.ob := by
  funext t
  rw [p.last, ← seq_ob s ds ops.size t]
  refine over_congr (fun j g hg hs => ?_) rfl
  have hj := (List.getElem?_eq_some_iff.1 hg).1
  rw [List.length_map, p.len] at hj
  simp [hD j hj, hj]
 unfold FSD at F
 rw [e1, e2] at F
 exact ⟨F.good.mk_keys fun k hk => KD_last p hk, F.step, F.own, fun k hk => ⟨KD_last p (F.hdr k hk).1, (F.hdr k hk).2⟩⟩
theorem FSD.first (F : FS P N X ρ (· < s.m) s.view.tm s.view.ob μ a w W0 w0 H hd) {D : Nat → Bool} (hD : ∀ i, D i = false) : FSD P N X ρ s ds D μ a w W0 w0 H hd := by
 have e1 : over D (ds.map Done.wrTm) 0 s.view.tm = s.view.tm := by
  funext t; exact over_ne fun i g _ h => by rw [hD] at h; cases h
 have e2 : over D (ds.map Done.wrOb) 0 s.view.ob = s.view.ob := by
  funext t; exact over_ne fun i g _ h => by rw [hD] at h; cases h
 unfold FSD
 rw [e1, e2]
 exact ⟨F.good.mk_keys fun k hk => .inl hk, F.step, F.own, fun k hk => ⟨.inl (F.hdr k hk).1, (F.hdr k hk).2⟩⟩
theorem Paper.done (p : Paper P specs N ops s s' ds) {i : Nat} {o : Oper} (ho : ops[i]? = some o) : ∃ d, ds[i]? = some d := by
 obtain ⟨d, h, _⟩ := p.get i o ho
 exact ⟨d, h⟩
theorem seq_ok (hS : Sound P specs R) (p : Paper P specs N ops s s' ds) (hl : LH R ρ (ds.flatMap (·.lets))) (hn : ∀ a' w' μ', FS P N X ρ (· < s'.m) s'.view.tm s'.view.ob μ' a' w' W0 w0 H hd → Q .normal a' w') :
  ∀ (k i : Nat) (a : Act) (w : World) (μ : Nat → Value), i + k = ops.size → FSD P N X ρ s ds (fun n => decide (n < i)) μ a w W0 w0 H hd → wpOps P ops Q (List.range' i k) a w
 | 0, i, a, w, μ, hk, F => by
  simp only [List.range'_zero, wpOps]
  exact hn a w μ (F.last p fun j hj => by simp; omega)
 | k + 1, i, a, w, μ, hk, F => by
  rw [List.range'_succ, wpOps_cons]
  have hi : i < ops.size := by omega
  have ho := Array.getElem?_eq_getElem hi
  obtain ⟨d, hdd⟩ := p.done ho
  refine stepD_ok hS p F ho hdd (by simp) (fun j e _ _ _ => rfl) (fun l hl' => hl l (List.mem_flatMap.2 ⟨d, List.mem_of_getElem? hdd, hl'⟩)) fun a' w' μ' F' => ?_
  refine seq_ok hS p hl hn k (i + 1) a' w' μ' (by omega) ?_
  have : (fun n => decide (n < i + 1)) = fun n => n == i || decide (n < i) := by
   funext n
   by_cases h : n = i
   ·subst h; simp
   ·by_cases h2 : n < i
    ·simp [h2]; omega
    ·have : (n == i) = false := by simpa using h
     simp [this, h2]; omega
  rw [this]; exact F'
def un (listed : Array Bool) : Nat := listed.toList.countP (fun b => !b)
theorem any_ok (hS : Sound P specs R) (p : Paper P specs N ops s s' ds) (hok : drawOk ops.toList ds = true) (hl : LH R ρ (ds.flatMap (·.lets))) (hn : ∀ a' w' μ', FS P N X ρ (· < s'.m) s'.view.tm s'.view.ob μ' a' w' W0 w0 H hd → Q .normal a' w') :
  ∀ (fuel : Nat) (listed : Array Bool) (a : Act) (w : World) (μ : Nat → Value), listed.size = ops.size → un listed = fuel → Closed ops (fun n => listed.getD n false) → FSD P N X ρ s ds (fun n => listed.getD n false) μ a w W0 w0 H hd → wpAny P .any ops Q fuel listed a w := by
 simp only [drawOk, Bool.and_eq_true] at hok
 obtain ⟨hb, hg⟩ := hok
 have hback : ∀ (i : Nat) (o : Oper), ops[i]? = some o → ∀ e ∈ o.after, Region.binds .any e = true → e.on < i := by
  intro i o ho e he hbd
  have := backOk_ok hb i o (by simpa using ho) e he hbd
  omega
 obtain ⟨hanl, han⟩ := ancs_ok (ops := ops) (os := ops.toList) (acc := []) (fun i o h => by simpa using h) (fun D hD i m hm => by simp at hm) (by simp)
 -- a touch tells the order
 have pair : ∀ (i j : Nat) (d e : Done), ds[i]? = some d → ds[j]? = some e → j < i → (d.hits e = true ∨ e.hits d = true) → ∀ D, Closed ops D → (∀ o, ops[i]? = some o → ∀ e ∈ o.after, Region.binds .any e = true → D e.on = true) → D j = true := by
  intro i j d e hd he hji hh D hD hi
  have hi1 := (List.getElem?_eq_some_iff.1 hd).1
  rw [p.len] at hi1
  have hm : (ancs ops.toList [])[i]? = some (ancs ops.toList [])[i] := List.getElem?_eq_getElem (by rw [hanl]; exact hi1)
  have := drawOkGo_ok hg i d _ hd hm j e (by simpa using he) (by simpa using hji)
  rcases this with h | h
  ·exact han D hD i _ hm ops[i] (Array.getElem?_eq_getElem hi1) (hi _ (Array.getElem?_eq_getElem hi1)) j h
  ·rw [h.1, h.2] at hh; simp at hh
 have hall : ∀ (listed : Array Bool), Region.ready .any ops listed = [] → listed.size = ops.size → ∀ i, i < ops.size → listed.getD i false = true := by
  intro listed hr hsz i
  induction i using Nat.strongRecOn with
  | _ i ih =>
   intro hi
   cases hv : listed.getD i false with
   | true => rfl
   | false =>
    have : i ∈ Region.ready .any ops listed := by
     rw [mem_ready]
     refine ⟨?_, ops[i], Array.getElem?_eq_getElem hi, fun e he hbd => ?_⟩
     ·have hlt : i < listed.size := by omega
      simp [hlt] at hv ⊢; exact hv
     ·have := hback i ops[i] (Array.getElem?_eq_getElem hi) e he hbd
      exact ih e.on this (by omega)
    rw [hr] at this; cases this
 intro fuel
 induction fuel with
 | zero =>
  intro listed a w μ hsz hun hcl F
  have hD : ∀ i, i < ops.size → listed.getD i false = true := by
   intro i hi
   unfold un at hun
   rw [List.countP_eq_zero] at hun
   have hlt : i < listed.size := by omega
   have := hun listed[i] (by simp)
   simp [hlt]; simpa using this
  refine ⟨?_, hn a w μ (F.last p hD)⟩
  rw [List.eq_nil_iff_forall_not_mem]
  intro i hi
  rw [mem_ready] at hi
  obtain ⟨h1, o, ho, _⟩ := hi
  have hi2 := (Array.getElem?_eq_some_iff.1 ho).1
  have := hD i hi2
  have hlt : i < listed.size := by omega
  simp [hlt] at h1 this
  rw [h1] at this; cases this
 | succ fuel ih =>
  intro listed a w μ hsz hun hcl F
  refine ⟨fun hr => hn a w μ (F.last p (hall listed hr hsz)), fun i hi => ?_⟩
  rw [mem_ready] at hi
  obtain ⟨h1, o, ho, h2⟩ := hi
  have hi2 := (Array.getElem?_eq_some_iff.1 ho).1
  have hlt : i < listed.size := by omega
  have hDi : listed.getD i false = false := by simp [hlt] at h1 ⊢; exact h1
  obtain ⟨d, hdd⟩ := p.done ho
  have hset : (fun n => (listed.setIfInBounds i true).getD n false) = fun n => n == i || listed.getD n false := by
   funext n
   by_cases hni : i = n
   ·subst hni; simp [hlt]
   ·have : (n == i) = false := by simp; exact fun e => hni e.symm
    rw [getD_set_ne false hni, this, Bool.false_or]
  refine stepD_ok hS p F ho hdd hDi (fun j e hj hji hh => ?_) (fun l hl' => hl l (List.mem_flatMap.2 ⟨d, List.mem_of_getElem? hdd, hl'⟩)) fun a' w' μ' F' => ?_
  ·rcases Nat.lt_or_ge j i with hlt' | hge
   ·have := pair i j d e hdd hj hlt' (.inl hh) _ hcl (fun o' ho' e he hbd => by rw [ho] at ho'; injection ho' with ho'; subst ho'; exact h2 e he hbd)
    simp [hlt'] at this ⊢; exact this
   ·have hij : i < j := by omega
    have hnj : listed.getD j false = false := by
     cases hv : listed.getD j false with
     | false => rfl
     | true =>
      have := pair j i e d hj hdd hij (.inr hh) _ hcl (fun o' ho' e he hbd => hcl j o' ho' hv e he hbd)
      simp only [hDi] at this
      cases this
    rw [hnj]; simp; omega
  ·refine ih (listed.setIfInBounds i true) a' w' μ' (by simpa using hsz) ?_ ?_ (by rw [hset]; exact F')
   ·unfold un at hun ⊢
    rw [Array.toList_setIfInBounds, List.countP_set (by simpa using hlt), hun]
    have : listed.toList[i]'(by simpa using hlt) = false := by simp [hlt] at hDi; simpa using hDi
    simp [this]
   ·rw [hset]
    intro j o' ho' hj e he hbd
    simp only [Bool.or_eq_true, beq_iff_eq] at hj ⊢
    right
    rcases hj with rfl | hj
    ·rw [ho] at ho'; injection ho' with ho'; subst ho'
     exact h2 e he hbd
    ·exact hcl j o' ho' hj e he hbd
theorem Good.drawn {tm : Nat → SV} {ob : Nat → Option Ob} (G : Good P N X ρ K tm ob μ a w) (hh : w'.heap = w.heap) : Good P N X ρ K tm ob μ a w' := by
 have L : Later K (cxOf P X ρ ob μ w) (cxOf P X ρ ob μ w') :=
  { P := rfl, ρ := fun _ _ h => h, μ := fun _ _ => rfl, stays := fun b _ _ => by show w'.heap[b]? = w.heap[b]?; rw [hh], O := fun _ _ h => h, W := fun _ _ h => h, WO := fun b hb => .inr hb }
 exact ⟨G.size, G.defers, fun s => L.srel (G.kt s) (G.slot s), fun k o ho => L.obOk (G.ko k o ho).1 (G.ko k o ho).2 (fun _ b _ _ => by show w'.heap[b]? = w.heap[b]?; rw [hh]) (G.obj k o ho), G.sep, G.xsep, fun b hb => by rw [hh]; exact G.xlt b hb, G.kt, G.ko⟩
theorem region_ok {draw : Bool} {ls : List PLt} {id : Nat} (hm : P.follows .mixedOrders = true) (hS : Sound P specs R) (hdo : doRegion P specs N ops draw s = some (ls, s')) (hl : LH R ρ ls) (F : FS P N X ρ (· < s.m) s.view.tm s.view.ob μ a w W0 w0 H hd)
  (hn : ∀ a' w' μ', FS P N X ρ (· < s'.m) s'.view.tm s'.view.ob μ' a' w' W0 w0 H hd → Q .normal a' w') : (Code.region id ops draw).wp P Q a w := by
 unfold doRegion at hdo
 cases ho : doOps P specs N ops s.m ops.toList s with
 | none => simp [ho] at hdo
 | some q =>
  obtain ⟨ds, s2⟩ := q
  simp only [ho] at hdo
  rw [Option.ite_none_right_eq_some] at hdo
  obtain ⟨hc, hdo⟩ := hdo
  injection hdo with hdo
  simp only [Prod.mk.injEq] at hdo
  obtain ⟨rfl, rfl⟩ := hdo
  have p := Paper.of ho
  cases draw with
  | false =>
   refine wp_region ?_
   rw [List.range_eq_range']
   exact seq_ok hS p hl hn ops.size 0 a w μ (by omega) (FSD.first F fun i => by simp)
  | true =>
   have hok : drawOk ops.toList ds = true := by simpa using hc
   refine wp_region_any hm ?_
   have hrep : ∀ i, (Array.replicate ops.size false).getD i false = false := fun i => by
    by_cases h : i < ops.size
    ·simp [h]
    ·simp [h]
   have F1 : FS P N X ρ (· < s.m) s.view.tm s.view.ob μ a { w with drawn := w.drawn + 1 } W0 w0 H hd := ⟨F.good.drawn rfl, ⟨F.step.os, F.step.tape, F.step.output, F.step.size, F.step.stays⟩, F.own, F.hdr⟩
   exact any_ok hS p hok hl hn ops.size _ a _ μ (by simp) (by unfold un; rw [Array.toList_replicate, List.countP_replicate]; simp) (fun i o _ h => by have h : (Array.replicate ops.size false).getD i false = true := h; rw [hrep] at h; cases h) (FSD.first F1 hrep)
end
end Go.CT
namespace Go.CT
open EM
structure Bind where
 args : List (Nat × Arg)
 keys : List (Nat × Nat)      -- the block's key, ours
def findKey (k' : Nat) : List (Nat × Nat) → Option Nat
 | [] => none
 | (j, k) :: r => if j == k' then some k else findKey k' r
def findArg (i : Nat) : List (Nat × Arg) → Option Arg
 | [] => none
 | (j, y) :: r => if j == i then some y else findArg i r
def bindArg (b : Bind) (x y : Arg) : EM Bind :=
 match x with
 | .v i => do
  EM.guard (findArg i b.args).isNone
  pure { b with args := (i, y) :: b.args }
 | .k c => do
  EM.guard ((Arg.k c).same y)
  pure b
def bindKey (b : Bind) (k' k : Nat) : EM Bind :=
 match findKey k' b.keys with
 | some k0 => do
  EM.guard (k0 == k)
  pure b
 | none => do
  EM.guard (b.keys.all fun p => p.2 != k)
  pure { b with keys := (k', k) :: b.keys }
def uPV (b : Bind) (p' p : PV) : EM Bind :=
 match p' with
 | .p k' o' =>
  match p with
  | .p k o => do
   EM.guard (o' == o)
   bindKey b k' k
  | _ => fail
 | .el k' e' i' o' =>
  match p with
  | .el k e i o => do
   EM.guard (o' == o && e' == e)
   let b1 ← bindKey b k' k
   bindArg b1 i' i
  | _ => fail
 | .im x' t' o' =>
  match p with
  | .im x t o => do
   EM.guard (o' == o && t' == t)
   bindArg b x' x
  | _ => fail
def uPVs (b : Bind) : List PV → List PV → EM Bind
 | [], [] => pure b
 | p' :: ps', p :: ps => do
  let b1 ← uPV b p' p
  uPVs b1 ps' ps
 | _, _ => fail
section
variable (P : Program)
def reown (t : TypeId) (l : LV) : EM Nat := do
 let e ← ofOption (elemT P t)
 let c ← takeRow P e l
 let k ← newKey
 setOb k (some (.arr e t c))
 pure k
def uLV (b : Bind) (l' l : LV) : EM Bind :=
 match l' with
 | .junk => pure b
 | .at x' t' => do
  let y ← leafData P true t' l
  bindArg b x' y
 | .nil _ =>
  match l with
  | .nil _ => pure b
  | _ => fail
 | .ref k' t' =>
  match l with
  | .ref k _ => bindKey b k' k
  | .at .. => fail
  | l => do
   let k ← reown P t' l
   bindKey b k' k
 | .sub k' lo' hi' t' =>
  match l with
  | .sub k lo hi t => do
   EM.guard (t == t')
   let b1 ← bindKey b k' k
   let b2 ← bindArg b1 lo' lo
   bindArg b2 hi' hi
  | _ => fail
 | .ptr p' =>
  match l with
  | .ptr p => uPV b p' p
  | _ => fail
 | .fn f' ps' =>
  match l with
  | .fn f ps => do
   EM.guard (f' == f)
   uPVs b ps' ps
  | _ => fail
 | .mref k' _ =>
  match l with
  | .mref k _ => bindKey b k' k
  | _ => fail
 | .st x' t' =>
  match l with
  | .st x t => do
   EM.guard (t == t')
   bindArg b x' x
  | _ => fail
 | .cl x' t' =>
  match l with
  | .cl x t => do
   EM.guard (t == t')
   bindArg b x' x
  | _ => fail
 | .hid k' =>
  match l with
  | .hid k => bindKey b k' k
  | _ => fail
def uLVs (b : Bind) : List LV → List LV → EM Bind
 | [], [] => pure b
 | l' :: ls', l :: ls => do
  let b1 ← uLV P b l' l
  uLVs b1 ls' ls
 | _, _ => fail
def aggOfT (t' : TypeId) : VV → Bool
 | .agg t _ => t == t'
 | .leaf (.at _ t) => t == t'
 | _ => false
def uVV (b : Bind) (v' v : VV) : EM Bind :=
 match v' with
 | .agg t' cs' => do
  EM.guard (isAggT P t' && aggOfT t' v)
  let cs ← explode P v
  uLVs P b cs' cs
 | .leaf l' =>
  match l' with
  | .junk => pure b
  | .at x' t' => do
   let y ← toData P true t' v
   bindArg b x' y
  | l' =>
   match v with
   | .leaf l => uLV P b l' l
   | _ => fail
def uVVs (b : Bind) : List VV → List VV → EM Bind
 | [], [] => pure b
 | l' :: ls', l :: ls => do
  let b1 ← uVV P b l' l
  uVVs b1 ls' ls
 | _, _ => fail
def isJunk : SX → Bool
 | .one (.leaf .junk) => true
 | _ => false
def uSX (b : Bind) (x' x : SX) : EM Bind :=
 match x' with
 | .one v' =>
  match x with
  | .one v => uVV P b v' v
  | _ => fail
 | .tup vs' =>
  match x with
  | .tup vs => uVVs P b vs' vs
  | _ => fail
 | .nx ok' p' r' =>
  match x with
  | .nx ok p r => do
   let b1 ← bindArg b ok' ok
   let b2 ← bindArg b1 p' p
   bindArg b2 r' r
  | _ => fail
def uSV (b : Bind) (s' : SV) (t : Nat) : EM Bind :=
 if s'.gs.isEmpty && isJunk s'.x then pure b
 else do
  let s ← getTm t
  EM.guard (s.gs.isEmpty && s'.gs.isEmpty)
  uSX P b s'.x s.x
def uSlots (b : Bind) : List (Nat × SV) → EM Bind
 | [] => pure b
 | (t, v') :: r => do
  let b1 ← uSV P b v' t
  uSlots b1 r
def boxPass1 (b : Bind) (o' : Ob) (k : Nat) : EM Bind :=
 match o' with
 | .box t' v' => do
  match ← getOb k with
  | .box t v => do
   EM.guard (t' == t)
   uVV P b v' v
  | _ => fail
 | .frz e' t' c' => do
  EM.guard (elemT P t' == some e')
  let y ← leafData P true t' (.ref k t')
  bindArg b c' y
 | .arr .. => pure b
 | .iter .. => pure b
 | .mp .. => pure b
def boxPass (b : Bind) : List (Nat × Ob) → EM Bind
 | [] => pure b
 | (k', o') :: r => do
  let k ← ofOption (findKey k' b.keys)
  let b1 ← boxPass1 P b o' k
  boxPass b1 r
def ownPass1 (b : Bind) (o' : Ob) (k : Nat) : EM Bind :=
 match o' with
 | .box _ _ => do
  match ← getOb k with
  | .box .. => pure b
  | _ => fail
 | .arr e' t' c' => do
  match ← getOb k with
  | .arr e _ c => do
   EM.guard (e' == e && elemT P t' == some e)
   bindArg b c' c
  | _ => fail
 | .frz .. => pure b
 | .iter s' p' => do
  match ← getOb k with
  | .iter s p => do
   let b1 ← bindArg b s' s
   bindArg b1 p' p
  | _ => fail
 | .mp t' kt' vt' c' => do
  match ← getOb k with
  | .mp t kt vt c => do
   EM.guard (t' == t && kt' == kt && vt' == vt)
   bindArg b c' c
  | _ => fail
def ownPass (b : Bind) : List (Nat × Ob) → EM Bind
 | [] => pure b
 | (k', o') :: r => do
  let k ← ofOption (findKey k' b.keys)
  let b1 ← ownPass1 P b o' k
  ownPass b1 r
def obBelow (m : Nat) : Ob → Bool
 | .box _ v => keysBelowVV m v
 | _ => true
def stOk (t : St) : Bool :=
 (t.tm.all fun p => keysBelow t.m p.2.x && p.2.gs.isEmpty) && (t.ob.all fun p => decide (p.1 < t.m) && obBelow t.m p.2)
def argsOf (b : Bind) : Nat → Option (List Arg)
 | 0 => some []
 | n + 1 =>
  match argsOf b n with
  | none => none
  | some as =>
   match findArg n b.args with
   | none => none
   | some y => some (as ++ [y])
def uSt (backs : List Nat) (t : St) : EM (List Arg) := do
 EM.guard (stOk t)
 let b1 ← uSlots P ⟨[], []⟩ t.tm
 let b2 ← boxPass P b1 t.ob
 let b3 ← ownPass P b2 t.ob
 EM.guard (b3.args.all fun p => decide (p.1 < t.n))
 EM.guard (backs.all fun k => findKey k b3.keys == some k && decide (k < t.m))
 ofOption (argsOf b3 t.n)
end
end Go.CT
namespace Go.CT
open EM
structure Compat (B : Bind) (c cb : Cx) : Prop where
 P : cb.P = c.P
 w : cb.w = c.w
 args : ∀ (i : Nat) (y : Arg) (iv : IV), findArg i B.args = some y → y.ev c.ρ = some iv → cb.ρ[i]? = some iv
 keys : ∀ k' k, findKey k' B.keys = some k → cb.μ k' = c.μ k
 O : ∀ b, b < c.w.heap.size → cb.O b → c.O b
 W : ∀ b, b < c.w.heap.size → cb.W b → c.W b
structure BOk (B : Bind) (K : Nat → Prop) : Prop where
 keys : ∀ k' k, findKey k' B.keys = some k → K k
 inj : ∀ k1 k2 k, findKey k1 B.keys = some k → findKey k2 B.keys = some k → k1 = k2
structure Ext (B B' : Bind) : Prop where
 args : ∀ i y, findArg i B.args = some y → findArg i B'.args = some y
 keys : ∀ k' k, findKey k' B.keys = some k → findKey k' B'.keys = some k
theorem Ext.refl (B : Bind) : Ext B B := ⟨fun _ _ h => h, fun _ _ h => h⟩
theorem Ext.trans {A B C : Bind} (h : Ext A B) (h' : Ext B C) : Ext A C := ⟨fun i y q => h'.args i y (h.args i y q), fun i y q => h'.keys i y (h.keys i y q)⟩
theorem BOk.mono {B : Bind} {K K' : Nat → Prop} (h : BOk B K) (hK : ∀ k, K k → K' k) : BOk B K' := ⟨fun k' k q => hK k (h.keys k' k q), h.inj⟩
theorem Compat.prev {B B' : Bind} {K : Nat → Prop} {c c' cb : Cx} (h : Compat B' c' cb) (e : Ext B B') (L : Later K c c') (hw : c'.w = c.w) (hB : BOk B K) : Compat B c cb :=
 ⟨h.P.trans L.P, h.w.trans hw, fun i y iv h1 h2 => h.args i y iv (e.args i y h1) (Arg.ev_later L.ρ h2), fun k' k h1 => (h.keys k' k (e.keys k' k h1)).trans (L.μ k (hB.keys k' k h1)),
  fun b hb ho => L.O b hb (h.O b (by rw [hw]; exact hb) ho), fun b hb ho => L.W b hb (h.W b (by rw [hw]; exact hb) ho)⟩
section
variable {P : Program} {N : Nat} {X : Nat → Prop} {R : Job → List IV → Option (List IV)} {ρ : List IV} {K : Nat → Prop} {S : View} {μ : Nat → Value} {a : Act} {w w' : World} {es es' e1 : ES} {ls : List PLt} {sx : SX}
 {B B' : Bind} {c cb : Cx}
theorem bindArg_ok {x y : Arg} (h : Ev S (bindArg B x y) es B' es' ls) : es = es' ∧ ls = [] ∧ Ext B B' ∧ B'.keys = B.keys ∧ ∀ {c cb : Cx} {iv : IV}, Compat B' c cb → y.ev c.ρ = some iv → x.ev cb.ρ = some iv := by
 unfold bindArg at h
 cases x with
 | v i =>
  simp only [Ev_bind, Ev_guard, Ev_pure] at h
  obtain ⟨_, _, _, _, ⟨g0, rfl, rfl⟩, ⟨rfl, rfl, rfl⟩, rfl⟩ := h
  have g0 : findArg i B.args = none := by simpa using g0
  refine ⟨rfl, rfl, ⟨fun j z hz => ?_, fun _ _ h => h⟩, rfl, fun hc hy => hc.args i y _ (by simp [findArg]) hy⟩
  simp only [findArg]
  by_cases hij : i = j
  ·subst hij; rw [g0] at hz; cases hz
  ·have : (i == j) = false := by simpa using hij
   simp [this, hz]
 | k q =>
  simp only [Ev_bind, Ev_guard, Ev_pure] at h
  obtain ⟨_, _, _, _, ⟨g0, rfl, rfl⟩, ⟨rfl, rfl, rfl⟩, rfl⟩ := h
  refine ⟨rfl, rfl, .refl _, rfl, fun {c cb iv} hc hy => ?_⟩
  have := Arg.same_ev (ρ := c.ρ) g0
  rw [← this] at hy
  exact hy
theorem bindKey_ok {k' k : Nat} (h : Ev S (bindKey B k' k) es B' es' ls) : es = es' ∧ ls = [] ∧ Ext B B' ∧ findKey k' B'.keys = some k ∧ ∀ {K : Nat → Prop}, BOk B K → K k → BOk B' K := by
 unfold bindKey at h
 split at h
 ·rename_i k0 hk0
  simp only [Ev_bind, Ev_guard, Ev_pure] at h
  obtain ⟨_, _, _, _, ⟨g0, rfl, rfl⟩, ⟨rfl, rfl, rfl⟩, rfl⟩ := h
  have : k0 = k := by simpa using g0
  subst this
  exact ⟨rfl, rfl, .refl _, hk0, fun h _ => h⟩
 ·rename_i hk0
  simp only [Ev_bind, Ev_guard, Ev_pure] at h
  obtain ⟨_, _, _, _, ⟨g0, rfl, rfl⟩, ⟨rfl, rfl, rfl⟩, rfl⟩ := h
  have hnew : ∀ j, findKey j B.keys ≠ some k := by
   intro j hj
   have : ∀ {l : List (Nat × Nat)}, (l.all fun p => p.2 != k) = true → findKey j l ≠ some k := by
    intro l hl
    induction l with
    | nil => simp [findKey]
    | cons p l ih =>
     obtain ⟨q, r⟩ := p
     simp only [List.all_cons, Bool.and_eq_true] at hl
     unfold findKey
     split
     ·intro e; injection e with e; subst e; simp at hl
     ·exact ih hl.2
   exact this g0 hj
  have hf : ∀ j, findKey j ((k', k) :: B.keys) = if k' = j then some k else findKey j B.keys := by
   intro j; simp [findKey]
  refine ⟨rfl, rfl, ⟨fun _ _ h => h, fun j q hq => ?_⟩, by simp [findKey], fun {K} hB hK => ⟨fun j q hq => ?_, fun j1 j2 q h1 h2 => ?_⟩⟩
  ·rw [hf]
   by_cases hj : k' = j
   ·subst hj; rw [hk0] at hq; cases hq
   ·simp [hj, hq]
  ·simp only [hf] at hq
   by_cases hj : k' = j
   ·simp [hj] at hq; subst hq; exact hK
   ·simp [hj] at hq; exact hB.keys j q hq
  ·simp only [hf] at h1 h2
   by_cases hj1 : k' = j1
   ·by_cases hj2 : k' = j2
    ·exact hj1.symm.trans hj2
    ·simp [hj1] at h1; simp [hj2] at h2
     subst h1; exact absurd h2 (hnew j2)
   ·by_cases hj2 : k' = j2
    ·simp [hj1] at h1; simp [hj2] at h2
     subst h2; exact absurd h1 (hnew j1)
    ·simp [hj1] at h1; simp [hj2] at h2
     exact hB.inj j1 j2 q h1 h2
theorem Compat.rel (h : Compat B c cb) {t : TypeId} {x : IV} {v : Value} (hr : Rel c.P c.w c.O t x v) : Rel cb.P cb.w cb.O t x v := by
 rw [h.P, h.w]
 exact hr.weaken h.O
theorem uPV_ok {p' p : PV} {v : Value} (h : Ev S (uPV B p' p) es B' es' ls) (hB : BOk B K) (hk : ∀ k ∈ keysPV p, K k) (hv : PRel c p v) : es = es' ∧ ls = [] ∧ Ext B B' ∧ BOk B' K ∧ ∀ cb, Compat B' c cb → PRel cb p' v := by
 unfold uPV at h
 cases p' with
 | p k' o' =>
  cases p with
  | p k o =>
   simp only [Ev_bind, Ev_guard] at h
   obtain ⟨_, _, _, _, ⟨g0, rfl, rfl⟩, h, rfl⟩ := h
   have : o' = o := by simpa using g0
   subst this
   obtain ⟨rfl, rfl, q1, q2, q3⟩ := bindKey_ok h
   obtain ⟨b, r1, r2⟩ := hv
   exact ⟨rfl, rfl, q1, q3 hB (hk k (by simp [keysPV])), fun cb hc => ⟨b, (hc.keys k' k q2).trans r1, r2⟩⟩
  | el => simp [Ev_fail] at h
  | im => simp [Ev_fail] at h
 | el k' e' i' o' =>
  cases p with
  | p => simp [Ev_fail] at h
  | im => simp [Ev_fail] at h
  | el k e i o =>
   simp only [Ev_bind, Ev_guard] at h
   obtain ⟨_, _, _, _, ⟨g0, rfl, rfl⟩, ⟨B1, e1, l1, l2, h1, h2, rfl⟩, rfl⟩ := h
   simp only [Bool.and_eq_true, beq_iff_eq] at g0
   obtain ⟨rfl, rfl⟩ := g0
   obtain ⟨rfl, rfl, q1, q2, q3⟩ := bindKey_ok h1
   obtain ⟨rfl, rfl, r1, r2, r3⟩ := bindArg_ok h2
   have hB1 := q3 hB (hk k (by simp [keysPV]))
   obtain ⟨g, n, cap, j, s1, s2, s3, s4⟩ := hv
   refine ⟨rfl, rfl, q1.trans r1, ⟨fun k1 k2 h => hB1.keys k1 k2 (by rw [← r2]; exact h), fun k1 k2 k h1 h2 => hB1.inj k1 k2 k (by rw [← r2]; exact h1) (by rw [← r2]; exact h2)⟩,
    fun cb hc => ⟨g, n, cap, j, (hc.keys k' k (by rw [r2]; exact q2)).trans s1, r3 hc s2, s3, by rw [hc.P]; exact s4⟩⟩
 | im x' t' o' =>
  cases p with
  | p => simp [Ev_fail] at h
  | el => simp [Ev_fail] at h
  | im x t o =>
   simp only [Ev_bind, Ev_guard] at h
   obtain ⟨_, _, _, _, ⟨g0, rfl, rfl⟩, h, rfl⟩ := h
   simp only [Bool.and_eq_true, beq_iff_eq] at g0
   obtain ⟨rfl, rfl⟩ := g0
   obtain ⟨rfl, rfl, r1, r2, r3⟩ := bindArg_ok h
   obtain ⟨ad, u, ⟨iv, s1, s2⟩, s3, s4, s5, s6⟩ := hv
   have hlt := s3.lt s4
   exact ⟨rfl, rfl, r1, ⟨fun k1 k2 h => hB.keys k1 k2 (by rw [← r2]; exact h), fun k1 k2 k h1 h2 => hB.inj k1 k2 k (by rw [← r2]; exact h1) (by rw [← r2]; exact h2)⟩,
    fun cb hc => ⟨ad, u, ⟨iv, r3 hc s1, hc.rel s2⟩, by rw [hc.P, hc.w]; exact s3, by rw [hc.P]; exact s4, fun hw => s5 (hc.W _ hlt hw), s6⟩⟩
theorem Compat.ext (h : Compat B' c cb) (e : Ext B B') : Compat B c cb :=
 ⟨h.P, h.w, fun i y iv h1 h2 => h.args i y iv (e.args i y h1) h2, fun k' k h1 => h.keys k' k (e.keys k' k h1), h.O, h.W⟩
theorem uPVs_ok : ∀ {ps' ps : List PV} {vs : List Value} {B B' : Bind} {es es' : ES} {ls : List PLt}, Ev S (uPVs B ps' ps) es B' es' ls → BOk B K → (∀ k ∈ ps.flatMap keysPV, K k) → PRels c ps vs → es = es' ∧ ls = [] ∧ Ext B B' ∧ BOk B' K ∧ ∀ cb, Compat B' c cb → PRels cb ps' vs
 | [], [], vs, B, B', es, es', ls, h, hB, hk, hv => by
  unfold uPVs at h
  rw [Ev_pure] at h
  obtain ⟨rfl, rfl, rfl⟩ := h
  exact ⟨rfl, rfl, .refl _, hB, fun cb hc => by cases vs with | nil => trivial | cons => exact hv.elim⟩
 | p' :: ps', p :: ps, vs, B, B', es, es', ls, h, hB, hk, hv => by
  cases vs with
  | nil => exact hv.elim
  | cons v vs =>
   unfold uPVs at h
   rw [Ev_bind] at h
   obtain ⟨B1, e1, l1, l2, h1, h2, rfl⟩ := h
   obtain ⟨rfl, rfl, q1, q2, q3⟩ := uPV_ok h1 hB (fun k hm => hk k (by rw [List.flatMap_cons]; exact List.mem_append_left _ hm)) hv.1
   obtain ⟨rfl, rfl, r1, r2, r3⟩ := uPVs_ok h2 q2 (fun k hm => hk k (by rw [List.flatMap_cons]; exact List.mem_append_right _ hm)) hv.2
   exact ⟨rfl, rfl, q1.trans r1, r2, fun cb hc => ⟨q3 cb (hc.ext r1), r3 cb hc⟩⟩
 | [], _ :: _, vs, B, B', es, es', ls, h, hB, hk, hv => by simp [uPVs, Ev_fail] at h
 | _ :: _, [], vs, B, B', es, es', ls, h, hB, hk, hv => by simp [uPVs, Ev_fail] at h
structure Jp (P : Program) (N : Nat) (X : Nat → Prop) (ρ : List IV) (K : Nat → Prop) (S : View) (μ : Nat → Value) (a : Act) (w : World) (es es' : ES) (μ' : Nat → Value) : Prop where
 good : Good P N X ρ (withKeys K es.m es'.m) S.tm (cur S es'.obs) μ' a w
 keep : ∀ k, K k → μ' k = μ k
 wr : ∀ b, Wr (cur S es'.obs) μ' b → Wr (cur S es.obs) μ b
 m : es.m ≤ es'.m
 gs : es'.gs = es.gs
theorem Jp.later {μ' : Nat → Value} (j : Jp P N X ρ K S μ a w es es' μ') : Later K (cxOf P X ρ (cur S es.obs) μ w) (cxOf P X ρ (cur S es'.obs) μ' w) :=
 { P := rfl, ρ := fun _ _ h => h, μ := j.keep, stays := Stays.refl _ _, O := fun b _ hb => hb.imp id (j.wr b), W := fun b _ hb => j.wr b hb, WO := fun _b hb => .inr hb }
theorem Ph.jp (p : Ph P N X ρ K S μ a w es es') : Jp P N X ρ K S μ a w es es' μ :=
 ⟨p.good.mk_keys fun _ h => .inl h, fun _ _ => rfl, fun _ hb => p.fewer.wr hb, by rw [p.m]; exact Nat.le_refl _, p.gs⟩
theorem Jp.trans {μ1 μ2 : Nat → Value} (j : Jp P N X ρ K S μ a w es e1 μ1) (j' : Jp P N X ρ (withKeys K es.m e1.m) S μ1 a w e1 es' μ2) : Jp P N X ρ K S μ a w es es' μ2 :=
 ⟨j'.good.mk_keys (withKeys_trans j.m j'.m), fun k hk => (j'.keep k (.inl hk)).trans (j.keep k hk), fun b hb => j.wr b (j'.wr b hb), Nat.le_trans j.m j'.m, j'.gs.trans j.gs⟩
theorem reown_ok {t : TypeId} {l : LV} {k : Nat} {v : Value} (G : Good P N X ρ K S.tm (cur S es.obs) μ a w) (h : Ev S (reown P t l) es k es' ls) (hl : LH R ρ ls) (hg : holds ρ es.gs = some true)
    (hv : LRel (cxOf P X ρ (cur S es.obs) μ w) l v) (hfr : ∀ k, es.m ≤ k → k < es'.m → ¬ K k) :
    ∃ μ', Jp P N X ρ K S μ a w es es' μ' ∧ μ' k = v ∧ withKeys K es.m es'.m k ∧ ∃ A n cap, v = .slice A n cap := by
  unfold reown at h
  simp only [Ev_bind, Ev_ofOption, Ev_newKey, Ev_setOb, Ev_pure] at h
  obtain ⟨e, _, _, _, ⟨h1, rfl, rfl⟩, ⟨x, e1, l1, _, h2, ⟨_, _, _, _, ⟨rfl, rfl, rfl⟩, ⟨_, _, _, _, ⟨rfl, rfl⟩, ⟨rfl, rfl, rfl⟩, rfl⟩, rfl⟩, rfl⟩, rfl⟩ := h
  obtain ⟨ys, q1, d, q2, cs, q3, q4, q5⟩ := takeRow_ok G h2 (by simpa using hl) hg hv
  have hmk : es.m = e1.m := d.m.symm
  have hK : ¬ K e1.m := hfr e1.m (by omega) (Nat.lt_succ_self _)
  obtain ⟨_, _, A, n, cap, hvs⟩ := own_blk q3
  have hμ : ∀ k', K k' → updM μ e1.m v k' = μ k' := fun k' hk' => updM_ne fun e => hK (e ▸ hk')
  have old : ∀ k' o', updOb (cur S e1.obs) e1.m (some (.arr e t x)) k' = some o' → (k' = e1.m ∧ o' = .arr e t x) ∨ (k' ≠ e1.m ∧ cur S e1.obs k' = some o') := by
    intro k' o' h
    unfold updOb at h
    split at h
    · rename_i e; injection h with h; exact .inl ⟨e, h.symm⟩
    · rename_i e; exact .inr ⟨e, h⟩
  -- the new object's block is the one that was lent
  have hWr : ∀ b, Wr (updOb (cur S e1.obs) e1.m (some (.arr e t x))) (updM μ e1.m v) b → Wr (cur S e1.obs) μ b ∨ b ∈ (blk v).toList := by
    rintro b ⟨k', o', h1, h2, h3⟩
    rcases old k' o' h1 with ⟨rfl, rfl⟩ | ⟨r1, r2⟩
    · rw [updM_eq] at h3; exact .inr (by simp [h3])
    · rw [updM_ne r1] at h3; exact .inl ⟨k', o', r2, h2, h3⟩
  have L : Later K (cxOf P (fun b => X b ∨ b ∈ (blk v).toList) ρ (cur S e1.obs) μ w) { cxOf P X ρ (updOb (cur S e1.obs) e1.m (some (.arr e t x))) (updM μ e1.m v) w with W := Wr (cur S e1.obs) μ } :=
    { P := rfl, ρ := fun _ _ h => h, μ := hμ, stays := Stays.refl _ _, O := fun b _ hb => hb.elim (fun h => .inl (.inl h)) fun h => (hWr b h).elim .inr fun h => .inl (.inr h), W := fun b _ hb => hb, WO := fun b hb => .inr hb }
  have L0 : Later K (cxOf P X ρ (cur S es.obs) μ w) (cxOf P X ρ (updOb (cur S e1.obs) e1.m (some (.arr e t x))) (updM μ e1.m v) w) :=
    { P := rfl, ρ := fun _ _ h => h, μ := hμ, stays := Stays.refl _ _,
      O := fun b _ hb => hb.imp id fun h => (hWr b h).elim d.fewer.wr (d.own b), W := fun b _ hb => (hWr b hb).elim d.fewer.wr (d.own b), WO := fun b hb => .inr hb }
  have hnew : ObOk (cxOf P X ρ (updOb (cur S e1.obs) e1.m (some (.arr e t x))) (updM μ e1.m v) w) e1.m (.arr e t x) := by
    refine ⟨ys, cs, q1, elemT_eq h1, q2, ?_, q4.weaken fun b hb ho => ?_, q5⟩
    · show w.ownsRow 0 e (sizeT P e) (updM μ e1.m v e1.m) ys.length cs
      rw [updM_eq]; exact q3
    · rcases ho with ho | ho
      · exact .inl (.inl ho)
      · exact (hWr b ho).elim .inr fun h => .inl (.inr h)
  refine ⟨updM μ e1.m v, ⟨?_, hμ, fun b hb => ?_, ?_, ?_⟩, updM_eq, .inr ⟨by omega, Nat.lt_succ_self _⟩, A, n, cap, hvs⟩
  · show Good P N X ρ _ S.tm (cur S ((e1.m, some (.arr e t x)) :: e1.obs)) _ a w
    rw [cur_cons]
    refine ⟨G.size, G.defers, fun s => L0.srel (G.kt s) (G.slot s), fun k' o' h => ?_, fun k1 k2 o1 o2 b h1 h2 h3 h4 h5 h6 => ?_, fun k' o' b h1 h2 h3 => ?_, G.xlt, fun s k' h => .inl (G.kt s k' h), fun k' o' h => ?_⟩
    · rcases old k' o' h with ⟨rfl, rfl⟩ | ⟨r1, r2⟩
      · exact hnew
      · cases hi : o'.isOwn with
        | true =>
          have h0 := d.fewer k' o' r2 hi
          exact L0.obOk (G.ko k' o' h0).1 (G.ko k' o' h0).2 (fun _ _ _ _ => rfl) (G.obj k' o' h0)
        | false =>
          cases o' with
          | box => simp [Ob.isOwn] at hi
          | arr => simp [Ob.isOwn] at hi
          | iter => simp [Ob.isOwn] at hi
          | mp => simp [Ob.isOwn] at hi
          | frz e' t' x' => exact L.obOk (d.good.ko k' _ r2).1 (d.good.ko k' _ r2).2 (fun _ _ _ _ => rfl) (d.good.obj k' _ r2)
    · rcases old k1 o1 h1 with ⟨rfl, rfl⟩ | ⟨r1, r2⟩
      · rcases old k2 o2 h2 with ⟨rfl, rfl⟩ | ⟨s1, s2⟩
        · rfl
        · rw [updM_eq] at h5; rw [updM_ne s1] at h6
          exact absurd (.inr (by simp [h5])) (d.good.xsep k2 o2 b s2 h4 h6)
      · rcases old k2 o2 h2 with ⟨rfl, rfl⟩ | ⟨s1, s2⟩
        · rw [updM_eq] at h6; rw [updM_ne r1] at h5
          exact absurd (.inr (by simp [h6])) (d.good.xsep k1 o1 b r2 h3 h5)
        · rw [updM_ne r1] at h5; rw [updM_ne s1] at h6
          exact d.good.sep k1 k2 o1 o2 b r2 s2 h3 h4 h5 h6
    · intro hX
      rcases old k' o' h1 with ⟨rfl, rfl⟩ | ⟨r1, r2⟩
      · rw [updM_eq] at h3
        obtain ⟨k2, o2, z1, z2, z3⟩ := d.own b (by simp [h3])
        exact G.xsep k2 o2 b z1 z2 z3 hX
      · rw [updM_ne r1] at h3
        exact d.good.xsep k' o' b r2 h2 h3 (.inl hX)
    · rcases old k' o' h with ⟨rfl, rfl⟩ | ⟨r1, r2⟩
      · exact ⟨.inr ⟨by omega, Nat.lt_succ_self _⟩, fun k2 hk2 => by simp [keysOb] at hk2⟩
      · exact ⟨.inl (d.good.ko k' o' r2).1, fun k2 hk2 => .inl ((d.good.ko k' o' r2).2 k2 hk2)⟩
  · have hb : Wr (cur S ((e1.m, some (.arr e t x)) :: e1.obs)) (updM μ e1.m v) b := hb
    rw [cur_cons] at hb
    exact (hWr b hb).elim d.fewer.wr (d.own b)
  · show es.m ≤ e1.m + 1
    omega
  · exact d.gs
end
end Go.CT
namespace Go.CT
open EM
section
variable {P : Program} {N : Nat} {X : Nat → Prop} {R : Job → List IV → Option (List IV)} {ρ : List IV} {K : Nat → Prop} {S : View} {μ : Nat → Value} {a : Act} {w w' : World} {es es' e1 : ES} {ls : List PLt} {sx : SX}
 {B B' B1 : Bind} {c cb : Cx}
def UOk (P : Program) (N : Nat) (X : Nat → Prop) (ρ : List IV) (K : Nat → Prop) (S : View) (μ : Nat → Value) (a : Act) (w : World) (es es' : ES) (B B' : Bind) (claim : Cx → Prop) : Prop :=
 ∃ μ', Jp P N X ρ K S μ a w es es' μ' ∧ Ext B B' ∧ BOk B' (withKeys K es.m es'.m) ∧ ∀ cb, Compat B' (cxOf P X ρ (cur S es'.obs) μ' w) cb → claim cb
theorem UOk.mono {f g : Cx → Prop} (h : UOk P N X ρ K S μ a w es es' B B' f) (hf : ∀ cb, f cb → g cb) : UOk P N X ρ K S μ a w es es' B B' g :=
 let ⟨μ', h1, h2, h3, h4⟩ := h; ⟨μ', h1, h2, h3, fun cb hc => hf cb (h4 cb hc)⟩
theorem fresh_next {m m' : Nat} (h : ∀ k, m ≤ k → ¬ K k) (hm : m ≤ m') : ∀ k, m' ≤ k → ¬ withKeys K m m' k := by
 rintro k hk (h' | h')
 ·exact h k (by omega) h'
 ·omega
theorem UOk.then {f g : Cx → Prop} (h : UOk P N X ρ K S μ a w es e1 B B1 f)
  (h' : ∀ μ1, Jp P N X ρ K S μ a w es e1 μ1 → BOk B1 (withKeys K es.m e1.m) → UOk P N X ρ (withKeys K es.m e1.m) S μ1 a w e1 es' B1 B' g) : UOk P N X ρ K S μ a w es es' B B' fun cb => f cb ∧ g cb := by
 obtain ⟨μ1, j1, x1, b1, c1⟩ := h
 obtain ⟨μ2, j2, x2, b2, c2⟩ := h' μ1 j1 b1
 exact ⟨μ2, j1.trans j2, x1.trans x2, b2.mono (withKeys_trans j1.m j2.m), fun cb hc => ⟨c1 cb (hc.prev x2 j2.later rfl b1), c2 cb hc⟩⟩
theorem UOk.of_ph {f : Cx → Prop} (p : Ph P N X ρ K S μ a w es es') (x : Ext B B') (hB : BOk B' K) (hf : ∀ cb, Compat B' (cxOf P X ρ (cur S es'.obs) μ w) cb → f cb) : UOk P N X ρ K S μ a w es es' B B' f :=
 ⟨μ, p.jp, x, hB.mono fun _ h => .inl h, hf⟩
theorem BOk.keysEq {B B' : Bind} (h : BOk B K) (e : B'.keys = B.keys) : BOk B' K :=
 ⟨fun k1 k2 q => h.keys k1 k2 (by rw [← e]; exact q), fun k1 k2 k q1 q2 => h.inj k1 k2 k (by rw [← e]; exact q1) (by rw [← e]; exact q2)⟩
theorem bindData_ok {x' y : Arg} {t : TypeId} {v : Value} {l2 : List PLt} (p : Ph P N X ρ K S μ a w es e1) (hD : DRel (cxOf P X ρ (cur S e1.obs) μ w) y t v) (h : Ev S (bindArg B x' y) e1 B' es' l2) (hB : BOk B K) :
  UOk P N X ρ K S μ a w es es' B B' fun cb => DRel cb x' t v := by
 obtain ⟨rfl, rfl, r1, r2, r3⟩ := bindArg_ok h
 obtain ⟨iv, q1, q2⟩ := hD
 exact .of_ph p r1 (hB.keysEq r2) fun cb hc => ⟨iv, r3 hc q1, hc.rel q2⟩
theorem uLV_ok {l' l : LV} {v : Value} (G : Good P N X ρ K S.tm (cur S es.obs) μ a w) (h : Ev S (uLV P B l' l) es B' es' ls) (hl : LH R ρ ls) (hg : holds ρ es.gs = some true) (hB : BOk B K) (hfr : ∀ k, es.m ≤ k → ¬ K k)
  (hk : ∀ k ∈ keysLV l, K k) (hv : LRel (cxOf P X ρ (cur S es.obs) μ w) l v) : UOk P N X ρ K S μ a w es es' B B' fun cb => LRel cb l' v := by
 unfold uLV at h
 cases l' with
 | junk =>
  simp only [Ev_pure] at h
  obtain ⟨rfl, rfl, rfl⟩ := h
  exact .of_ph (.refl G) (.refl _) hB fun cb _ => trivial
 | «at» x' t' =>
  simp only [Ev_bind] at h
  obtain ⟨y, e1, l1, l2, h1, h2, rfl⟩ := h
  obtain ⟨p, _, q⟩ := leafData_ok G h1 hl.left hg hv
  exact bindData_ok p (q rfl) h2 hB
 | nil t' =>
  cases l with
  | nil t =>
   simp only [Ev_pure] at h
   obtain ⟨rfl, rfl, rfl⟩ := h
   exact .of_ph (.refl G) (.refl _) hB fun cb _ => hv
  | _ => simp [Ev_fail] at h
 | ref k' t' =>
  have byown : ∀ {l : LV}, Ev S (do
     let k ← reown P t' l
     bindKey B k' k) es B' es' ls → LRel (cxOf P X ρ (cur S es.obs) μ w) l v → UOk P N X ρ K S μ a w es es' B B' fun cb => LRel cb (.ref k' t') v := by
   intro l h hv
   rw [Ev_bind] at h
   obtain ⟨k, e1, l1, l2, h1, h2, rfl⟩ := h
   obtain ⟨μ', j, q1, q2, q3⟩ := reown_ok G h1 hl.left hg hv fun k h1 _ => hfr k h1
   obtain ⟨rfl, rfl, r1, r2, r3⟩ := bindKey_ok h2
   exact ⟨μ', j, r1, r3 (hB.mono fun _ h => .inl h) q2, fun cb hc => ⟨((hc.keys k' k r2).trans q1).symm, q3⟩⟩
  cases l with
  | ref k t =>
   obtain ⟨rfl, rfl, r1, r2, r3⟩ := bindKey_ok h
   exact .of_ph (.refl G) r1 (r3 hB (hk k (by simp [keysLV]))) fun cb hc => ⟨hv.1.trans (hc.keys k' k r2).symm, hv.2⟩
  | «at» => simp [Ev_fail] at h
  | nil t => exact byown h hv
  | sub k lo hi t => exact byown h hv
  | ptr p => exact byown h hv
  | fn f ps => exact byown h hv
  | mref k t => exact byown h hv
  | hid k => exact byown h hv
  | cl x t => exact byown h hv
  | st x t => exact byown h hv
  | junk => exact byown h hv
 | sub k' lo' hi' t' =>
  cases l with
  | sub k lo hi t =>
   simp only [Ev_bind, Ev_guard] at h
   obtain ⟨_, _, _, _, ⟨g0, rfl, rfl⟩, ⟨B1, e1, l1, _, h1, ⟨B2, e2, l2, _, h2, h3, rfl⟩, rfl⟩, rfl⟩ := h
   have : t = t' := by simpa using g0
   subst this
   obtain ⟨rfl, rfl, q1, q2, q3⟩ := bindKey_ok h1
   obtain ⟨rfl, rfl, r1, r2, r3⟩ := bindArg_ok h2
   obtain ⟨rfl, rfl, s1, s2, s3⟩ := bindArg_ok h3
   obtain ⟨A, n, cap, lo0, r, e, p0, p1, p2, p3, p4, p5, p6⟩ := hv
   refine .of_ph (.refl G) (q1.trans (r1.trans s1)) (((q3 hB (hk k (by simp [keysLV]))).keysEq r2).keysEq s2) fun cb hc => ?_
   exact ⟨A, n, cap, lo0, r, e, by rw [hc.P]; exact p0, (hc.keys k' k (by rw [s2, r2]; exact q2)).trans p1, r3 (hc.ext s1) p2, s3 hc p3, p4, p5, by rw [hc.P]; exact p6⟩
  | _ => simp [Ev_fail] at h
 | ptr p' =>
  cases l with
  | ptr p =>
   obtain ⟨rfl, rfl, q1, q2, q3⟩ := uPV_ok h hB hk hv
   exact .of_ph (.refl G) q1 q2 q3
  | _ => simp [Ev_fail] at h
 | fn f' ps' =>
  cases l with
  | fn f ps =>
   simp only [Ev_bind, Ev_guard] at h
   obtain ⟨_, _, _, _, ⟨g0, rfl, rfl⟩, h, rfl⟩ := h
   have : f' = f := by simpa using g0
   subst this
   obtain ⟨vs, rfl, hp⟩ := hv
   obtain ⟨rfl, rfl, q1, q2, q3⟩ := uPVs_ok h hB hk hp
   exact .of_ph (.refl G) q1 q2 fun cb hc => ⟨vs, rfl, q3 cb hc⟩
  | _ => simp [Ev_fail] at h
 | mref k' t' =>
  cases l with
  | mref k t =>
   obtain ⟨rfl, rfl, r1, r2, r3⟩ := bindKey_ok h
   exact .of_ph (.refl G) r1 (r3 hB (hk k (by simp [keysLV]))) fun cb hc => ⟨hv.1.trans (hc.keys k' k r2).symm, hv.2⟩
  | _ => simp [Ev_fail] at h
 | st x' t' =>
  cases l with
  | st x t =>
   simp only [Ev_bind, Ev_guard] at h
   obtain ⟨_, _, _, _, ⟨g0, rfl, rfl⟩, h, rfl⟩ := h
   have : t = t' := by simpa using g0
   subst this
   obtain ⟨rfl, rfl, r1, r2, r3⟩ := bindArg_ok h
   obtain ⟨⟨iv, q1, q2⟩, ys, A, cap, h2, h3, h4⟩ := hv
   exact .of_ph (.refl G) r1 (hB.keysEq r2) fun cb hc => ⟨⟨iv, r3 hc q1, hc.rel q2⟩, ys, A, cap, r3 hc h2, h3, h4⟩
  | _ => simp [Ev_fail] at h
 | cl x' t' =>
  cases l with
  | cl x t =>
   simp only [Ev_bind, Ev_guard] at h
   obtain ⟨_, _, _, _, ⟨g0, rfl, rfl⟩, h, rfl⟩ := h
   have : t = t' := by simpa using g0
   subst this
   exact (bindData_ok (.refl G) hv.1 h hB).mono fun cb hc => ⟨hc, hv.2⟩
  | _ => simp [Ev_fail] at h
 | hid k' =>
  cases l with
  | hid k =>
   obtain ⟨rfl, rfl, r1, r2, r3⟩ := bindKey_ok h
   exact .of_ph (.refl G) r1 (r3 hB (hk k (by simp [keysLV]))) fun cb hc => hv.imp id fun hv => ⟨hv.1.trans (hc.keys k' k r2).symm, hv.2⟩
  | _ => simp [Ev_fail] at h
theorem UOk.nil {f : Cx → Prop} (G : Good P N X ρ K S.tm (cur S es.obs) μ a w) (hB : BOk B K) (hf : ∀ cb, f cb) : UOk P N X ρ K S μ a w es es B B f := .of_ph (.refl G) (.refl _) hB fun cb _ => hf cb
theorem uLVs_ok : ∀ {ls' lvs : List LV} {vs : List Value} {B B' : Bind} {es es' : ES} {ls : List PLt} {K : Nat → Prop} {μ : Nat → Value}, Good P N X ρ K S.tm (cur S es.obs) μ a w → Ev S (uLVs P B ls' lvs) es B' es' ls → LH R ρ ls → holds ρ es.gs = some true → BOk B K → (∀ k, es.m ≤ k → ¬ K k) →
  (∀ k ∈ lvs.flatMap keysLV, K k) → CRels (cxOf P X ρ (cur S es.obs) μ w) lvs vs → UOk P N X ρ K S μ a w es es' B B' fun cb => CRels cb ls' vs
 | [], [], vs, B, B', es, es', ls, K, μ, G, h, hl, hg, hB, hfr, hk, hv => by
  unfold uLVs at h
  rw [Ev_pure] at h
  obtain ⟨rfl, rfl, rfl⟩ := h
  cases vs with
  | nil => exact .nil G hB fun _ => trivial
  | cons => exact hv.elim
 | l' :: ls', l :: lvs, vs, B, B', es, es', ls, K, μ, G, h, hl, hg, hB, hfr, hk, hv => by
  cases vs with
  | nil => exact hv.elim
  | cons v vs =>
   unfold uLVs at h
   rw [Ev_bind] at h
   obtain ⟨B1, e1, l1, l2, h1, h2, rfl⟩ := h
   have hk1 : ∀ k ∈ lvs.flatMap keysLV, K k := fun k hm => hk k (by rw [List.flatMap_cons]; exact List.mem_append_right _ hm)
   refine ((uLV_ok G h1 hl.left hg hB hfr (fun k hm => hk k (by rw [List.flatMap_cons]; exact List.mem_append_left _ hm)) hv.1.2).then fun μ1 j b1 => uLVs_ok j.good h2 hl.right (by rw [j.gs]; exact hg) b1 (fresh_next hfr j.m) (fun k hm => .inl (hk1 k hm)) (j.later.crels hk1 hv.2)).mono fun cb hc => ⟨⟨hv.1.1, hc.1⟩, hc.2⟩
 | [], _ :: _, vs, B, B', es, es', ls, K, μ, G, h, hl, hg, hB, hfr, hk, hv => by simp [uLVs, Ev_fail] at h
 | _ :: _, [], vs, B, B', es, es', ls, K, μ, G, h, hl, hg, hB, hfr, hk, hv => by simp [uLVs, Ev_fail] at h
theorem UOk.after {f : Cx → Prop} (p : Ph P N X ρ K S μ a w es e1) (h : UOk P N X ρ K S μ a w e1 es' B B' f) : UOk P N X ρ K S μ a w es es' B B' f := by
 obtain ⟨μ', j, x, b, c⟩ := h
 rw [p.m] at b
 refine ⟨μ', ⟨?_, j.keep, fun b hb => p.fewer.wr (j.wr b hb), by have := j.m; rw [p.m] at this; exact this, j.gs.trans p.gs⟩, x, b, c⟩
 have := j.good
 rwa [p.m] at this
theorem uVV_ok {v' vv : VV} {v : Value} (G : Good P N X ρ K S.tm (cur S es.obs) μ a w) (h : Ev S (uVV P B v' vv) es B' es' ls) (hl : LH R ρ ls) (hg : holds ρ es.gs = some true) (hB : BOk B K) (hfr : ∀ k, es.m ≤ k → ¬ K k)
  (hk : ∀ k ∈ keysVV vv, K k) (hv : VRel (cxOf P X ρ (cur S es.obs) μ w) vv v) : UOk P N X ρ K S μ a w es es' B B' fun cb => VRel cb v' v := by
 unfold uVV at h
 cases v' with
 | agg t' cs' =>
  simp only [Ev_bind, Ev_guard] at h
  obtain ⟨_, _, _, _, ⟨g0, rfl, rfl⟩, ⟨cs, e1, l1, _, h1, h2, rfl⟩, rfl⟩ := h
  simp only [Bool.and_eq_true] at g0
  have hl := hl.right
  obtain ⟨⟨n1, rfl⟩, q1, q2⟩ := explode_ok h1 hl.left hg hk hv
  have hagg : ∃ us : Array Value, v = .agg us := by
   cases vv with
   | agg t ls => obtain ⟨us, rfl, _⟩ := hv; exact ⟨us, rfl⟩
   | leaf l =>
    cases l with
    | «at» x t =>
     have : t = t' := by simpa [aggOfT] using g0.2
     subst this
     obtain ⟨iv, _, hr⟩ := hv
     obtain ⟨_, _, us, _, _, h, _⟩ := hr.leafs g0.1
     exact ⟨us, h⟩
    | _ => simp [aggOfT] at g0
  obtain ⟨us, rfl⟩ := hagg
  exact (UOk.after (e1 := { es with n := n1 }) (.same G rfl rfl rfl) (uLVs_ok (es := { es with n := n1 }) G h2 hl.right hg hB hfr q2 q1)).mono fun cb hc => ⟨us, rfl, hc⟩
 | leaf l' =>
  simp only at h
  split at h
  ·rw [Ev_pure] at h
   obtain ⟨rfl, rfl, rfl⟩ := h
   exact .nil G hB fun _ => trivial
  ·simp only [Ev_bind] at h
   obtain ⟨y, e1, l1, l2, h1, h2, rfl⟩ := h
   obtain ⟨p, _, q⟩ := toData_ok G h1 hl.left hg hk hv
   exact bindData_ok p (q rfl) h2 hB
  ·split at h
   ·exact uLV_ok G h hl hg hB hfr hk hv
   ·simp [Ev_fail] at h
theorem uVVs_ok : ∀ {ls' lvs : List VV} {vs : List Value} {B B' : Bind} {es es' : ES} {ls : List PLt} {K : Nat → Prop} {μ : Nat → Value}, Good P N X ρ K S.tm (cur S es.obs) μ a w → Ev S (uVVs P B ls' lvs) es B' es' ls → LH R ρ ls → holds ρ es.gs = some true → BOk B K → (∀ k, es.m ≤ k → ¬ K k) →
  (∀ k ∈ lvs.flatMap keysVV, K k) → VRels (cxOf P X ρ (cur S es.obs) μ w) lvs vs → UOk P N X ρ K S μ a w es es' B B' fun cb => VRels cb ls' vs
 | [], [], vs, B, B', es, es', ls, K, μ, G, h, hl, hg, hB, hfr, hk, hv => by
  unfold uVVs at h
  rw [Ev_pure] at h
  obtain ⟨rfl, rfl, rfl⟩ := h
  cases vs with
  | nil => exact .nil G hB fun _ => trivial
  | cons => exact hv.elim
 | l' :: ls', l :: lvs, vs, B, B', es, es', ls, K, μ, G, h, hl, hg, hB, hfr, hk, hv => by
  cases vs with
  | nil => exact hv.elim
  | cons v vs =>
   unfold uVVs at h
   rw [Ev_bind] at h
   obtain ⟨B1, e1, l1, l2, h1, h2, rfl⟩ := h
   have hk1 : ∀ k ∈ lvs.flatMap keysVV, K k := fun k hm => hk k (by rw [List.flatMap_cons]; exact List.mem_append_right _ hm)
   exact (uVV_ok G h1 hl.left hg hB hfr (fun k hm => hk k (by rw [List.flatMap_cons]; exact List.mem_append_left _ hm)) hv.1).then fun μ1 j b1 => uVVs_ok j.good h2 hl.right (by rw [j.gs]; exact hg) b1 (fresh_next hfr j.m) (fun k hm => .inl (hk1 k hm)) (j.later.vrels hk1 hv.2)
 | [], _ :: _, vs, B, B', es, es', ls, K, μ, G, h, hl, hg, hB, hfr, hk, hv => by simp [uVVs, Ev_fail] at h
 | _ :: _, [], vs, B, B', es, es', ls, K, μ, G, h, hl, hg, hB, hfr, hk, hv => by simp [uVVs, Ev_fail] at h
theorem uSX_ok {x' x : SX} {v : Value} (G : Good P N X ρ K S.tm (cur S es.obs) μ a w) (h : Ev S (uSX P B x' x) es B' es' ls) (hl : LH R ρ ls) (hg : holds ρ es.gs = some true) (hB : BOk B K) (hfr : ∀ k, es.m ≤ k → ¬ K k)
  (hk : ∀ k ∈ keysSX x, K k) (hv : XRel (cxOf P X ρ (cur S es.obs) μ w) x v) : UOk P N X ρ K S μ a w es es' B B' fun cb => XRel cb x' v := by
 unfold uSX at h
 cases x' with
 | one v' =>
  cases x with
  | one vv => exact uVV_ok G h hl hg hB hfr hk hv
  | tup => simp [Ev_fail] at h
  | nx => simp [Ev_fail] at h
 | nx ok' p' r' =>
  cases x with
  | one => simp [Ev_fail] at h
  | tup => simp [Ev_fail] at h
  | nx ok p r =>
   simp only [Ev_bind] at h
   obtain ⟨B1, e1, l1, _, h1, ⟨B2, e2, l2, _, h2, h3, rfl⟩, rfl⟩ := h
   obtain ⟨rfl, rfl, q1, q2, q3⟩ := bindArg_ok h1
   obtain ⟨rfl, rfl, r1, r2, r3⟩ := bindArg_ok h2
   obtain ⟨rfl, rfl, s1, s2, s3⟩ := bindArg_ok h3
   obtain ⟨b, n, m, d1, d2, d3, d4⟩ := hv
   refine .of_ph (.refl G) (q1.trans (r1.trans s1)) (((hB.keysEq q2).keysEq r2).keysEq s2) fun cb hc => ?_
   exact ⟨b, n, m, q3 (hc.ext (r1.trans s1)) d1, r3 (hc.ext s1) d2, s3 hc d3, d4⟩
 | tup vs' =>
  cases x with
  | nx => simp [Ev_fail] at h
  | one => simp [Ev_fail] at h
  | tup vs =>
   obtain ⟨us, rfl, hv⟩ := hv
   exact (uVVs_ok G h hl hg hB hfr hk hv).mono fun cb hc => ⟨us, rfl, hc⟩
theorem uSV_ok {s' : SV} {t : Nat} (G : Good P N X ρ K S.tm (cur S es.obs) μ a w) (h : Ev S (uSV P B s' t) es B' es' ls) (hl : LH R ρ ls) (hg : holds ρ es.gs = some true) (hB : BOk B K) (hfr : ∀ k, es.m ≤ k → ¬ K k) :
  UOk P N X ρ K S μ a w es es' B B' fun cb => SRel cb s' (a.tmps.getD t undef) := by
 unfold uSV at h
 rw [Ev_ite] at h
 rcases h with ⟨hj, h⟩ | ⟨_, h⟩
 ·rw [Ev_pure] at h
  obtain ⟨rfl, rfl, rfl⟩ := h
  simp only [Bool.and_eq_true, List.isEmpty_iff] at hj
  refine .nil G hB fun cb => ⟨true, by rw [hj.1]; rfl, fun _ => ?_, fun h => by cases h⟩
  have hx := hj.2
  unfold isJunk at hx
  split at hx
  ·rename_i hx'; rw [hx']; trivial
  ·cases hx
 ·simp only [Ev_bind, Ev_getTm, Ev_guard] at h
  obtain ⟨s, _, _, _, ⟨rfl, rfl, rfl⟩, ⟨_, _, _, _, ⟨g0, rfl, rfl⟩, h, rfl⟩, rfl⟩ := h
  simp only [Bool.and_eq_true, List.isEmpty_iff] at g0
  have hs := (G.slot t).use (by rw [g0.1]; rfl)
  exact (uSX_ok G h (by simpa using hl) hg hB hfr (G.kt t) hs).mono fun cb hc => ⟨true, by rw [g0.2]; rfl, fun _ => hc, fun h => by cases h⟩
theorem uSlots_ok : ∀ {tm : List (Nat × SV)} {B B' : Bind} {es es' : ES} {ls : List PLt} {K : Nat → Prop} {μ : Nat → Value}, Good P N X ρ K S.tm (cur S es.obs) μ a w → Ev S (uSlots P B tm) es B' es' ls → LH R ρ ls → holds ρ es.gs = some true → BOk B K → (∀ k, es.m ≤ k → ¬ K k) →
  UOk P N X ρ K S μ a w es es' B B' fun cb => ∀ p ∈ tm, SRel cb p.2 (a.tmps.getD p.1 undef)
 | [], B, B', es, es', ls, K, μ, G, h, hl, hg, hB, hfr => by
  unfold uSlots at h
  rw [Ev_pure] at h
  obtain ⟨rfl, rfl, rfl⟩ := h
  exact .nil G hB fun cb p hp => by cases hp
 | (t, v') :: r, B, B', es, es', ls, K, μ, G, h, hl, hg, hB, hfr => by
  unfold uSlots at h
  rw [Ev_bind] at h
  obtain ⟨B1, e1, l1, l2, h1, h2, rfl⟩ := h
  refine ((uSV_ok G h1 hl.left hg hB hfr).then fun μ1 j b1 => uSlots_ok j.good h2 hl.right (by rw [j.gs]; exact hg) b1 (fresh_next hfr j.m)).mono fun cb hc p hp => ?_
  rcases List.mem_cons.1 hp with rfl | hp
  ·exact hc.1
  ·exact hc.2 p hp
end
end Go.CT
namespace Go.CT
open EM
section
variable {P : Program} {N : Nat} {X : Nat → Prop} {R : Job → List IV → Option (List IV)} {ρ : List IV} {K : Nat → Prop} {S : View} {μ : Nat → Value} {a : Act} {w w' : World} {es es' e1 : ES} {ls : List PLt} {sx : SX}
 {B B' B1 : Bind} {c cb : Cx}
def BoxC (cb : Cx) (w : World) (k' : Nat) : Ob → Prop
 | .box t vv => ∃ b v, cb.μ k' = .pointer (some ⟨b, 0, none⟩) ∧ w.heap[b]? = some (.cells v.cells t (0, 0)) ∧ v.cells.size = sizeT cb.P t ∧
   (if isAggT cb.P t then ∃ cs, v = .agg cs else v.oneCell' = true) ∧ (∀ u ∈ v.cells, u.oneCell' = true) ∧ VRel cb vv v
 | .arr _ _ _ => True
 | .frz e t a => cb.P.underlying t = some (.slice e) ∧ DRel cb a t (cb.μ k')
 | .iter .. => True
 | .mp .. => True
theorem boxPass1_ok {o' : Ob} {k' k : Nat} (G : Good P N X ρ K S.tm (cur S es.obs) μ a w) (h : Ev S (boxPass1 P B o' k) es B' es' ls) (hl : LH R ρ ls) (hg : holds ρ es.gs = some true) (hB : BOk B K) (hfr : ∀ k, es.m ≤ k → ¬ K k)
    (hkk : findKey k' B.keys = some k) : UOk P N X ρ K S μ a w es es' B B' fun cb => BoxC cb w k' o' := by
  unfold boxPass1 at h
  cases o' with
  | arr e t x =>
    simp only [Ev_pure] at h
    obtain ⟨rfl, rfl, rfl⟩ := h
    exact .nil G hB fun _ => trivial
  | iter s p =>
    simp only [Ev_pure] at h
    obtain ⟨rfl, rfl, rfl⟩ := h
    exact .nil G hB fun _ => trivial
  | mp t kt vt c =>
    simp only [Ev_pure] at h
    obtain ⟨rfl, rfl, rfl⟩ := h
    exact .nil G hB fun _ => trivial
  | box t' v' =>
    simp only at h
    rw [Ev_bind] at h
    obtain ⟨o, _, _, l2, h0, h, rfl⟩ := h
    rw [Ev_getOb] at h0
    obtain ⟨ho, rfl, rfl⟩ := h0
    cases o with
    | arr => simp [Ev_fail] at h
    | frz => simp [Ev_fail] at h
    | iter => simp [Ev_fail] at h
    | mp => simp [Ev_fail] at h
    | box t vv =>
      simp only [Ev_bind, Ev_guard] at h
      obtain ⟨_, _, _, _, ⟨g0, rfl, rfl⟩, h, rfl⟩ := h
      have : t' = t := by simpa using g0
      subst this
      obtain ⟨b, v, o1, o2, o3, o4, o5, o6⟩ := G.obj k _ ho
      obtain ⟨μ', j, x, b', hc⟩ := uVV_ok G h (by simpa using hl) hg hB hfr (G.ko k _ ho).2 o6
      refine ⟨μ', j, x, b', fun cb hcb => ?_⟩
      have hP : cb.P = P := hcb.P
      refine ⟨b, v, ?_, o2, by rw [hP]; exact o3, by rw [hP]; exact o4, o5, hc cb hcb⟩
      have := hcb.keys k' k (x.keys k' k hkk)
      rw [this]
      exact (j.keep k (G.ko k _ ho).1).trans o1
  | frz e' t' c' =>
    simp only [Ev_bind, Ev_guard] at h
    obtain ⟨_, _, _, _, ⟨g0, rfl, rfl⟩, ⟨y, e1, l1, l2, h1, h2, rfl⟩, rfl⟩ := h
    have g0 : elemT P t' = some e' := by simpa using g0
    have hl := hl.right
    have hsl : LRel (cxOf P X ρ (cur S es.obs) μ w) (.ref k t') (μ k) := by
      refine ⟨rfl, ?_⟩
      have hh := h1
      unfold leafData at hh
      rw [Ev_bind] at hh
      obtain ⟨o, _, _, _, h0, hh, _⟩ := hh
      rw [Ev_getOb] at h0
      obtain ⟨ho, rfl, rfl⟩ := h0
      cases o with
      | box => simp [Ev_fail] at hh
      | iter => simp [Ev_fail] at hh
      | mp => simp [Ev_fail] at hh
      | arr e t x =>
        obtain ⟨ivs, A, cap, _, hμ, _⟩ := G.rowB ho
        exact ⟨A, _, cap, hμ⟩
      | frz e t x =>
        obtain ⟨q1, iv, q2, q3⟩ := G.obj k _ ho
        obtain ⟨xs, A, cap, rfl, hμ, _⟩ := q3.list_inv q1
        exact ⟨A, _, cap, hμ⟩
    obtain ⟨p, _, q⟩ := leafData_ok G h1 hl.left hg hsl
    obtain ⟨iv, q1, q2⟩ := q rfl
    obtain ⟨rfl, rfl, r1, r2, r3⟩ := bindArg_ok h2
    refine .of_ph p r1 (hB.keysEq r2) fun cb hc => ⟨by have hP : cb.P = P := hc.P
                                                       rw [hP]; exact elemT_eq g0, iv, r3 hc q1, ?_⟩
    have := hc.keys k' k (r1.keys k' k hkk)
    rw [this]
    exact hc.rel q2
theorem boxPass_ok : ∀ {obl : List (Nat × Ob)} {B B' : Bind} {es es' : ES} {ls : List PLt} {K : Nat → Prop} {μ : Nat → Value}, Good P N X ρ K S.tm (cur S es.obs) μ a w → Ev S (boxPass P B obl) es B' es' ls → LH R ρ ls → holds ρ es.gs = some true → BOk B K → (∀ k, es.m ≤ k → ¬ K k) →
  UOk P N X ρ K S μ a w es es' B B' fun cb => ∀ p ∈ obl, BoxC cb w p.1 p.2
 | [], B, B', es, es', ls, K, μ, G, h, hl, hg, hB, hfr => by
  unfold boxPass at h
  rw [Ev_pure] at h
  obtain ⟨rfl, rfl, rfl⟩ := h
  exact .nil G hB fun cb p hp => by cases hp
 | (k', o') :: r, B, B', es, es', ls, K, μ, G, h, hl, hg, hB, hfr => by
  unfold boxPass at h
  simp only [Ev_bind, Ev_ofOption] at h
  obtain ⟨k, _, _, _, ⟨h0, rfl, rfl⟩, ⟨B1, e1, l1, l2, h1, h2, rfl⟩, rfl⟩ := h
  have hl := hl.right
  refine ((boxPass1_ok G h1 hl.left hg hB hfr h0).then fun μ1 j b1 => boxPass_ok j.good h2 hl.right (by rw [j.gs]; exact hg) b1 (fresh_next hfr j.m)).mono fun cb hc p hp => ?_
  rcases List.mem_cons.1 hp with rfl | hp
  ·exact hc.1
  ·exact hc.2 p hp
def OwnC (cb : Cx) (G : Nat → Option Ob) (B : Bind) (k' : Nat) (o' : Ob) : Prop :=
 o'.isOwn = true → ∃ k o, findKey k' B.keys = some k ∧ G k = some o ∧ o.isOwn = true ∧ ((∀ t v, o' ≠ .box t v) → ObOk cb k' o')
theorem ownPass1_ok {o' : Ob} {k' k : Nat} (G : Good P N X ρ K S.tm (cur S es.obs) μ a w) (h : Ev S (ownPass1 P B o' k) es B' es' ls) (hkk : findKey k' B.keys = some k) :
  es = es' ∧ ls = [] ∧ Ext B B' ∧ B'.keys = B.keys ∧ ∀ cb, Compat B' (cxOf P X ρ (cur S es.obs) μ w) cb → OwnC cb (cur S es.obs) B' k' o' := by
 unfold ownPass1 at h
 cases o' with
 | box t v =>
  simp only at h
  rw [Ev_bind] at h
  obtain ⟨o, _, _, l2, h0, h, rfl⟩ := h
  rw [Ev_getOb] at h0
  obtain ⟨ho, rfl, rfl⟩ := h0
  cases o with
  | arr => simp [Ev_fail] at h
  | frz => simp [Ev_fail] at h
  | iter => simp [Ev_fail] at h
  | mp => simp [Ev_fail] at h
  | box t2 v2 =>
   rw [Ev_pure] at h
   obtain ⟨rfl, rfl, rfl⟩ := h
   exact ⟨rfl, rfl, .refl _, rfl, fun cb hc _ => ⟨k, _, hkk, ho, rfl, fun h => absurd rfl (h _ _)⟩⟩
 | frz e t x =>
  simp only [Ev_pure] at h
  obtain ⟨rfl, rfl, rfl⟩ := h
  exact ⟨rfl, rfl, .refl _, rfl, fun cb hc h => by simp [Ob.isOwn] at h⟩
 | arr e' t' c' =>
  simp only at h
  rw [Ev_bind] at h
  obtain ⟨o, _, _, l2, h0, h, rfl⟩ := h
  rw [Ev_getOb] at h0
  obtain ⟨ho, rfl, rfl⟩ := h0
  cases o with
  | box => simp [Ev_fail] at h
  | frz => simp [Ev_fail] at h
  | iter => simp [Ev_fail] at h
  | mp => simp [Ev_fail] at h
  | arr e t x =>
   simp only [Ev_bind, Ev_guard] at h
   obtain ⟨_, _, _, _, ⟨g0, rfl, rfl⟩, h, rfl⟩ := h
   simp only [Bool.and_eq_true, beq_iff_eq] at g0
   obtain ⟨rfl, g1⟩ := g0
   obtain ⟨rfl, rfl, r1, r2, r3⟩ := bindArg_ok h
   refine ⟨rfl, rfl, r1, r2, fun cb hc _ => ⟨k, _, r1.keys k' k hkk, ho, rfl, fun _ => ?_⟩⟩
   obtain ⟨ivs, cs, q1, q2, q3, q4, q5, q6⟩ := G.obj k _ ho
   have hP : cb.P = P := hc.P
   have hw : cb.w = w := hc.w
   refine ⟨ivs, cs, r3 hc q1, by rw [hP]; exact elemT_eq g1, by rw [hP]; exact q3, ?_, ?_, q6⟩
   ·rw [hP, hw, hc.keys k' k (r1.keys k' k hkk)]; exact q4
   ·rw [hP, hw]
    exact Elems.weaken (O := (cxOf P X ρ (cur S es.obs) μ w).O) q5 hc.O
 | iter s' p' =>
  simp only at h
  rw [Ev_bind] at h
  obtain ⟨o, _, _, l2, h0, h, rfl⟩ := h
  rw [Ev_getOb] at h0
  obtain ⟨ho, rfl, rfl⟩ := h0
  cases o with
  | iter s p =>
   simp only [Ev_bind] at h
   obtain ⟨B1, e1, l1, _, h1, h2, rfl⟩ := h
   obtain ⟨rfl, rfl, r1, r2, r3⟩ := bindArg_ok h1
   obtain ⟨rfl, rfl, s1, s2, s3⟩ := bindArg_ok h2
   refine ⟨rfl, rfl, r1.trans s1, s2.trans r2, fun cb hc _ => ⟨k, _, (r1.trans s1).keys k' k hkk, ho, rfl, fun _ => ?_⟩⟩
   obtain ⟨b, n, bs, q1, q2, q3, q4⟩ := G.obj k _ ho
   have hw : cb.w = w := hc.w
   refine ⟨b, n, bs, ?_, by rw [hw]; exact q2, r3 (hc.ext s1) q3, s3 hc q4⟩
   rw [hc.keys k' k ((r1.trans s1).keys k' k hkk)]; exact q1
  | _ => simp [Ev_fail] at h
 | mp t' kt' vt' c' =>
  simp only at h
  rw [Ev_bind] at h
  obtain ⟨o, _, _, l2, h0, h, rfl⟩ := h
  rw [Ev_getOb] at h0
  obtain ⟨ho, rfl, rfl⟩ := h0
  cases o with
  | mp t kt vt c =>
   simp only [Ev_bind, Ev_guard] at h
   obtain ⟨_, _, _, _, ⟨g0, rfl, rfl⟩, h, rfl⟩ := h
   simp only [Bool.and_eq_true, beq_iff_eq] at g0
   obtain ⟨⟨rfl, rfl⟩, rfl⟩ := g0
   obtain ⟨rfl, rfl, r1, r2, r3⟩ := bindArg_ok h
   refine ⟨rfl, rfl, r1, r2, fun cb hc _ => ⟨k, _, r1.keys k' k hkk, ho, rfl, fun _ => ?_⟩⟩
   obtain ⟨r, cl, ents, ivs, q1, q2, q3, q4, q5, q6⟩ := G.obj k _ ho
   have hP : cb.P = P := hc.P
   have hw : cb.w = w := hc.w
   refine ⟨r, cl, ents, ivs, ?_, by rw [hw]; exact q2, by rw [hP]; exact q3, by rw [hP]; exact q4, r3 hc q5, q6.imp fun _ _ _ h' => ?_⟩
   ·rw [hc.keys k' k (r1.keys k' k hkk)]; exact q1
   ·have h' := hc.rel h'
    exact h'
  | _ => simp [Ev_fail] at h
theorem OwnC.ext {o' : Ob} {k' : Nat} {ob : Nat → Option Ob} (h : OwnC cb ob B k' o') (x : Ext B B') : OwnC cb ob B' k' o' := fun hi =>
 let ⟨k, o, h1, h2, h3, h4⟩ := h hi; ⟨k, o, x.keys k' k h1, h2, h3, h4⟩
theorem ownPass_ok (G : Good P N X ρ K S.tm (cur S es.obs) μ a w) : ∀ {obl : List (Nat × Ob)} {B B' : Bind} {es' : ES} {ls : List PLt}, Ev S (ownPass P B obl) es B' es' ls →
  es = es' ∧ ls = [] ∧ Ext B B' ∧ B'.keys = B.keys ∧ ∀ cb, Compat B' (cxOf P X ρ (cur S es.obs) μ w) cb → ∀ p ∈ obl, OwnC cb (cur S es.obs) B' p.1 p.2
 | [], B, B', es', ls, h => by
  unfold ownPass at h
  rw [Ev_pure] at h
  obtain ⟨rfl, rfl, rfl⟩ := h
  exact ⟨rfl, rfl, .refl _, rfl, fun cb _ p hp => by cases hp⟩
 | (k', o') :: r, B, B', es', ls, h => by
  unfold ownPass at h
  simp only [Ev_bind, Ev_ofOption] at h
  obtain ⟨k, _, _, _, ⟨h0, rfl, rfl⟩, ⟨B1, e1, l1, l2, h1, h2, rfl⟩, rfl⟩ := h
  obtain ⟨rfl, rfl, x1, y1, c1⟩ := ownPass1_ok G h1 h0
  obtain ⟨rfl, rfl, x2, y2, c2⟩ := ownPass_ok G h2
  refine ⟨rfl, rfl, x1.trans x2, y2.trans y1, fun cb hc p hp => ?_⟩
  rcases List.mem_cons.1 hp with rfl | hp
  ·exact (c1 cb (hc.ext x2)).ext x2
  ·exact c2 cb hc p hp
theorem argsOf_ok {b : Bind} : ∀ {n : Nat} {as : List Arg}, argsOf b n = some as → as.length = n ∧ ∀ i y, i < n → findArg i b.args = some y → as[i]? = some y
 | 0, as, h => by
  simp only [argsOf, Option.some.injEq] at h
  subst h; exact ⟨rfl, fun i y hi => by omega⟩
 | n + 1, as, h => by
  unfold argsOf at h
  cases h1 : argsOf b n with
  | none => simp [h1] at h
  | some as1 =>
   cases h2 : findArg n b.args with
   | none => simp [h1, h2] at h
   | some y1 =>
    simp only [h1, h2, Option.some.injEq] at h
    subst h
    obtain ⟨q1, q2⟩ := argsOf_ok h1
    refine ⟨by simp [q1], fun i y hi hf => ?_⟩
    by_cases hn : i < n
    ·rw [List.getElem?_append_left (by omega)]; exact q2 i y hn hf
    ·have : i = n := by omega
     subst this
     rw [h2] at hf; injection hf with hf; subst hf
     rw [List.getElem?_append_right (by omega), q1]; simp
theorem evs_get : ∀ {as : List Arg} {vs : List IV}, Arg.evs ρ as = some vs → vs.length = as.length ∧ ∀ (i : Nat) (y : Arg), as[i]? = some y → ∃ v, vs[i]? = some v ∧ y.ev ρ = some v
 | [], vs, h => by
  simp only [Arg.evs, Option.some.injEq] at h
  subst h; exact ⟨rfl, by simp⟩
 | a :: as, vs, h => by
  unfold Arg.evs at h
  cases ha : a.ev ρ with
  | none => simp [ha] at h
  | some v =>
   cases hr : Arg.evs ρ as with
   | none => simp [ha, hr] at h
   | some r =>
    simp [ha, hr] at h
    subst h
    obtain ⟨q1, q2⟩ := evs_get hr
    refine ⟨by simp [q1], fun i y hi => ?_⟩
    cases i with
    | zero => simp at hi; subst hi; exact ⟨v, rfl, ha⟩
    | succ i => exact q2 i y (by simpa using hi)
theorem lookTm_mem {t : Nat} : ∀ {l : List (Nat × SV)}, (lookTm t l = nothing ∧ ∀ p ∈ l, p.1 ≠ t) ∨ (t, lookTm t l) ∈ l
 | [] => .inl ⟨rfl, by simp⟩
 | (t', v) :: r => by
  unfold lookTm
  by_cases h : t' = t
  ·subst h; right; simp
  ·have : (t' == t) = false := by simpa using h
   simp only [this, Bool.false_eq_true, if_false]
   rcases lookTm_mem (t := t) (l := r) with ⟨h1, h2⟩ | h1
   ·left
    refine ⟨h1, fun p hp => ?_⟩
    rcases List.mem_cons.1 hp with rfl | hp
    ·exact h
    ·exact h2 p hp
   ·right; exact List.mem_cons_of_mem _ h1
theorem lookO_mem {k : Nat} {o : Ob} : ∀ {l : List (Nat × Ob)}, lookO k l = some o → (k, o) ∈ l
 | [], h => by simp [lookO] at h
 | (k', o') :: r, h => by
  unfold lookO at h
  by_cases hk : k' = k
  ·subst hk; simp at h; subst h; simp
  ·have : (k' == k) = false := by simpa using hk
   simp only [this, Bool.false_eq_true, if_false] at h
   exact List.mem_cons_of_mem _ (lookO_mem h)
theorem uSt_ok {t : St} {as : List Arg} {vs : List IV} (G : Good P N X ρ K S.tm (cur S es.obs) μ a w) {backs : List Nat} (h : Ev S (uSt P backs t) es as es' ls) (hl : LH R ρ ls) (hg : holds ρ es.gs = some true) (hfr : ∀ k, es.m ≤ k → ¬ K k) (hvs : Arg.evs ρ as = some vs) :
  ∃ μ', Good P N X vs (· < t.m) t.view.tm t.view.ob μ' a w ∧ (∀ b, Wr t.view.ob μ' b → Wr (cur S es.obs) μ b) ∧ ∀ k ∈ backs, k < t.m ∧ (K k → μ' k = μ k) := by
 unfold uSt at h
 simp only [Ev_bind, Ev_guard, Ev_ofOption] at h
 obtain ⟨_, _, _, _, ⟨g0, rfl, rfl⟩, ⟨B1, e1, l1, _, h1, ⟨B2, e2, l2, _, h2, ⟨B3, e3, l3, _, h3, ⟨_, _, _, _, ⟨g1, rfl, rfl⟩, ⟨_, _, _, _, ⟨g2, rfl, rfl⟩, ⟨h4, rfl, rfl⟩, rfl⟩, rfl⟩, rfl⟩, rfl⟩, rfl⟩, rfl⟩ := h
 have hl := hl.right
 have hU := (uSlots_ok G h1 hl.left hg ⟨fun k' k h => by simp [findKey] at h, fun k1 k2 k h => by simp [findKey] at h⟩ hfr).then fun μ1 j b1 => boxPass_ok j.good h2 hl.right.left (by rw [j.gs]; exact hg) b1 (fresh_next hfr j.m)
 obtain ⟨μ2, j, x, b2, hc⟩ := hU
 obtain ⟨rfl, rfl, x3, y3, c3⟩ := ownPass_ok j.good h3
 have b3 : BOk B3 (withKeys K es.m e2.m) := b2.keysEq y3
 obtain ⟨z1, z2⟩ := argsOf_ok h4
 obtain ⟨z3, z4⟩ := evs_get hvs
 -- the block's keys
 let μb : Nat → Value := fun k' => match findKey k' B3.keys with | some k => μ2 k | none => undef
 have hμb : ∀ k' k, findKey k' B3.keys = some k → μb k' = μ2 k := fun k' k h => by simp only [μb, h]
 refine ⟨μb, ?_⟩
 have hargs : ∀ (i : Nat) (y : Arg) (iv : IV), findArg i B3.args = some y → y.ev ρ = some iv → vs[i]? = some iv := by
  intro i y iv hf hy
  have hi : i < t.n := by
   have : ∀ {l : List (Nat × Arg)}, (l.all fun p => decide (p.1 < t.n)) = true → findArg i l = some y → i < t.n := by
    intro l hl
    induction l with
    | nil => simp [findArg]
    | cons p l ih =>
     obtain ⟨q, r⟩ := p
     simp only [List.all_cons, Bool.and_eq_true, decide_eq_true_eq] at hl
     unfold findArg
     by_cases hq : q = i
     ·intro _; rw [← hq]; exact hl.1
     ·have : (q == i) = false := by simpa using hq
      simp only [this, Bool.false_eq_true, if_false]
      exact ih hl.2
   exact this g1 hf
  obtain ⟨v, q1, q2⟩ := z4 i y (z2 i y hi hf)
  rw [hy] at q2; injection q2 with q2; subst q2; exact q1
 have comp : ∀ (O W : Nat → Prop), (∀ b, O b → X b ∨ Wr (cur S e2.obs) μ2 b) → (∀ b, W b → Wr (cur S e2.obs) μ2 b) → Compat B3 (cxOf P X ρ (cur S e2.obs) μ2 w) { P, ρ := vs, μ := μb, w, O, W } := fun O W hO hW =>
  ⟨rfl, rfl, hargs, hμb, fun b _ h => hO b h, fun b _ h => hW b h⟩
 have own0 := c3 _ (comp (fun _ => False) (fun _ => False) (fun _ h => h.elim) (fun _ h => h.elim))
 have hown : ∀ k' o', t.view.ob k' = some o' → o'.isOwn = true → ∃ k o, findKey k' B3.keys = some k ∧ cur S e2.obs k = some o ∧ o.isOwn = true := by
  intro k' o' h1 h2
  obtain ⟨k, o, q1, q2, q3, _⟩ := own0 (k', o') (lookO_mem h1) h2
  exact ⟨k, o, q1, q2, q3⟩
 have hwr : ∀ b, Wr t.view.ob μb b → Wr (cur S e2.obs) μ2 b := by
  rintro b ⟨k', o', h1, h2, h3⟩
  obtain ⟨k, o, q1, q2, q3⟩ := hown k' o' h1 h2
  rw [hμb k' k q1] at h3
  exact ⟨k, o, q2, q3, h3⟩
 have C : Compat B3 (cxOf P X ρ (cur S e2.obs) μ2 w) (cxOf P X vs t.view.ob μb w) := comp _ _ (fun b h => h.imp id (hwr b)) hwr
 obtain ⟨s1, s2⟩ := hc _ (C.ext x3)
 have own1 := c3 _ C
 simp only [stOk, Bool.and_eq_true, List.all_eq_true] at g0
 obtain ⟨gt, go⟩ := g0
 refine ⟨⟨G.size, G.defers, fun s => ?_, fun k' o' h => ?_, fun k1 k2 o1 o2 b h1 h2 h3 h4 h5 h6 => ?_, fun k' o' b h1 h2 h3 => ?_, G.xlt, fun s k hk => ?_, fun k' o' h => ?_⟩, fun b hb => j.wr b (hwr b hb), fun k hk => ?_⟩
 ·rcases lookTm_mem (t := s) (l := t.tm) with ⟨h1, _⟩ | h1
  ·show SRel _ (lookTm s t.tm) _
   rw [h1]
   exact ⟨true, rfl, fun _ => trivial, fun h => by cases h⟩
  ·exact s1 _ h1
 ·have hm := lookO_mem h
  cases o' with
  | box ty vv => exact s2 _ hm
  | frz e ty x => exact s2 _ hm
  | arr e ty x =>
   obtain ⟨k, o, _, _, _, q⟩ := own1 _ hm rfl
   exact q (fun _ _ h => by cases h)
  | iter s p =>
   obtain ⟨k, o, _, _, _, q⟩ := own1 _ hm rfl
   exact q (fun _ _ h => by cases h)
  | mp t kt vt c =>
   obtain ⟨k, o, _, _, _, q⟩ := own1 _ hm rfl
   exact q (fun _ _ h => by cases h)
 ·obtain ⟨q1, p1, r1, r2, r3⟩ := hown k1 o1 h1 h3
  obtain ⟨q2, p2, t1, t2, t3⟩ := hown k2 o2 h2 h4
  rw [hμb k1 q1 r1] at h5
  rw [hμb k2 q2 t1] at h6
  have := j.good.sep q1 q2 p1 p2 b r2 t2 r3 t3 h5 h6
  subst this
  exact b3.inj k1 k2 q1 r1 t1
 ·obtain ⟨k, o, q1, q2, q3⟩ := hown k' o' h1 h2
  rw [hμb k' k q1] at h3
  exact j.good.xsep k o b q2 q3 h3
 ·rcases lookTm_mem (t := s) (l := t.tm) with ⟨h1, _⟩ | h1
  ·have hk : k ∈ keysSX (lookTm s t.tm).x := hk
   rw [h1] at hk; simp [nothing, keysSX, keysVV, keysLV] at hk
  ·exact keysBelow_ok (gt _ h1).1 k hk
 ·have hm := lookO_mem h
  have := go _ hm
  simp only [decide_eq_true_eq] at this
  refine ⟨this.1, fun k2 hk2 => ?_⟩
  cases o' with
  | box ty vv =>
   have h2 := this.2
   exact keysBelow_ok (x := .one vv) h2 k2 hk2
  | arr => cases hk2
  | iter => cases hk2
  | mp => cases hk2
  | frz => cases hk2
 ·rw [List.all_eq_true] at g2
  have := g2 k hk
  simp only [Bool.and_eq_true, beq_iff_eq, decide_eq_true_eq] at this
  exact ⟨this.2, fun hK => (hμb k k this.1).trans (j.keep k hK)⟩
end
end Go.CT
namespace Go.CT
open EM
section
variable (P : Program)
def resVar (v : ResultVar) : EM VV := do
 match v with
 | .tmp t => do
  let s ← getTm t
  EM.guard s.gs.isEmpty
  match s.x with
  | .one v => pure v
  | _ => fail
 | .cell a t => do
  let s ← getTm a
  EM.guard s.gs.isEmpty
  match s.x with
  | .one (.leaf (.ptr p)) => loadP P p t
  | _ => fail
def resVars : List ResultVar → EM (List VV)
 | [] => pure []
 | v :: vs => do
  let x ← resVar P v
  let xs ← resVars vs
  pure (x :: xs)
def resOne (r : RS) (v : VV) : EM (List Arg) :=
 match r with
 | .whole t => do
  let x ← toData P true t v
  pure [x]
 | .cells t own => do
  EM.guard (fitsBox P t v)
  let ts ← ofOption (leaves P t)
  let cs ← explode P v
  getCells P true own ts cs
 | .skip => pure []
 | .clip _ => fail
 | .strict t =>
  match v with
  | .leaf (.nil _) => do
   EM.guard (elemT P t).isSome
   pure [.k (.list [])]
  | v => do
   EM.guard (elemT P t).isSome
   let x ← toData P true t v
   let _ ← prim .index [x, .k (.int 0)]
   pure [x]
 | .nbox t own => do
  let r ← xArgs P true [.box t own] [v]
  pure r.1
 | .clo f bxs =>
  match cloVV v with
  | some gc => do
   EM.guard (f == gc.1)
   let r ← xArgs P true (bxs.map fun b => .box b.1 b.2) (gc.2.map capVV)
   pure r.1
  | none => fail
def resAll : List RS → List VV → EM (List Arg)
 | [], [] => pure []
 | r :: rs, v :: vs => do
  let a ← resOne P r v
  let as ← resAll rs vs
  pure (a ++ as)
 | _, _ => fail
structure FnC where
 rs : List RS
 vars : List ResultVar
 bps : List PS
 bks : List Nat
def backVV (p : PS) (k : Nat) : VV :=
 match p with
 | .arr t => .leaf (.ref k t)
 | _ => .leaf (.ptr (.p k 0))
def backVVs : List PS → List Nat → List VV
 | p :: ps, k :: ks => backVV p k :: backVVs ps ks
 | _, _ => []
def xRet (F : FnC) : EM (List Arg) := do
 bare
 let vs ← resVars P F.vars
 let a ← resAll P F.rs vs
 let b ← xArgs P true F.bps (backVVs F.bps F.bks)
 pure (a ++ b.1)
end
section
variable {P : Program} {N : Nat} {X : Nat → Prop} {R : Job → List IV → Option (List IV)} {ρ : List IV} {K : Nat → Prop} {S : View} {μ : Nat → Value} {a : Act} {w w' : World} {es es' e1 : ES} {ls : List PLt} {sx : SX}
def resVal (tmps : Array Value) : ResultVar → Sem Value
 | .tmp t => pure (tmps.getD t undef)
 | .cell a t => do loadVar t (← asAddr (tmps.getD a undef))
theorem resVar_ok {v : ResultVar} {vv : VV} (G : Good P N X ρ K S.tm (cur S es.obs) μ a w) (h : Ev S (resVar P v) es vv es' ls) (hl : LH R ρ ls) (hg : holds ρ es.gs = some true) :
  ∃ u, (resVal a.tmps v).run P w = .ok u w ∧ (∃ n, es' = { es with n }) ∧ VRel (cxOf P X ρ (cur S es.obs) μ w) vv u ∧ ∀ k ∈ keysVV vv, K k := by
 unfold resVar at h
 cases v with
 | tmp t =>
  simp only [Ev_bind, Ev_getTm, Ev_guard] at h
  obtain ⟨s, _, _, _, ⟨rfl, rfl, rfl⟩, ⟨_, _, _, _, ⟨g0, rfl, rfl⟩, h, rfl⟩, rfl⟩ := h
  have hs := (G.slot t).use (by rw [List.isEmpty_iff.1 g0]; rfl)
  have hk := G.kt t
  split at h
  ·rename_i v hx
   rw [Ev_pure] at h
   obtain ⟨rfl, rfl, rfl⟩ := h
   rw [hx] at hs hk
   exact ⟨_, rfl, ⟨es.n, rfl⟩, hs, hk⟩
  ·simp [Ev_fail] at h
 | cell b t =>
  simp only [Ev_bind, Ev_getTm, Ev_guard] at h
  obtain ⟨s, _, _, _, ⟨rfl, rfl, rfl⟩, ⟨_, _, _, _, ⟨g0, rfl, rfl⟩, h, rfl⟩, rfl⟩ := h
  have hs := (G.slot b).use (by rw [List.isEmpty_iff.1 g0]; rfl)
  split at h
  ·rename_i p hx
   rw [hx] at hs
   have hs : PRel (cxOf P X ρ (cur S es.obs) μ w) p (a.tmps.getD b undef) := hs
   obtain ⟨u, q1, q2, q3, q4⟩ := loadP_ok G h (by simpa using hl) hg hs
   refine ⟨u, ?_, q2, q3, q4⟩
   have hptr : ∃ ad, a.tmps.getD b undef = .pointer (some ad) := by
    cases p with
    | p k off => obtain ⟨b, _, r⟩ := hs; exact ⟨_, r⟩
    | el k e i off => obtain ⟨_, _, _, _, _, _, _, r⟩ := hs; exact ⟨_, r⟩
    | im x t off => obtain ⟨_, _, _, _, _, _, r⟩ := hs; exact ⟨_, r⟩
   obtain ⟨ad, hptr⟩ := hptr
   rw [hptr] at q1
   simp only [resVal, hptr]
   simpa [Instr.loadAt, Instr.sureAddr, asAddr] using q1
  ·simp [Ev_fail] at h
theorem resVars_ok : ∀ {vars : List ResultVar} {vvs : List VV} {es es' : ES} {ls : List PLt}, Good P N X ρ K S.tm (cur S es.obs) μ a w → Ev S (resVars P vars) es vvs es' ls → LH R ρ ls → holds ρ es.gs = some true →
  ∃ us, (vars.mapM (resVal a.tmps)).run P w = .ok us w ∧ (∃ n, es' = { es with n }) ∧ VRels (cxOf P X ρ (cur S es.obs) μ w) vvs us ∧ ∀ k ∈ vvs.flatMap keysVV, K k
 | [], vvs, es, es', ls, G, h, hl, hg => by
  unfold resVars at h
  rw [Ev_pure] at h
  obtain ⟨rfl, rfl, rfl⟩ := h
  exact ⟨[], by simp, ⟨es.n, rfl⟩, trivial, by simp⟩
 | v :: vars, vvs, es, es', ls, G, h, hl, hg => by
  unfold resVars at h
  simp only [Ev_bind] at h
  obtain ⟨x, e1, l1, _, h1, ⟨xs, e2, l2, _, h2, h3, rfl⟩, rfl⟩ := h
  rw [Ev_pure] at h3
  obtain ⟨rfl, rfl, rfl⟩ := h3
  obtain ⟨u, q1, ⟨n1, rfl⟩, q3, q4⟩ := resVar_ok G h1 hl.left hg
  obtain ⟨us, r1, ⟨n2, rfl⟩, r3, r4⟩ := resVars_ok (es := { es with n := n1 }) G h2 hl.right.left hg
  refine ⟨u :: us, ?_, ⟨n2, rfl⟩, ⟨q3, r3⟩, fun k hk => ?_⟩
  ·rw [List.mapM_cons, Sem.run_bind, q1]
   simp only [Result.andThen_ok, Sem.run_bind, r1, Sem.run_pure]
  ·rw [List.flatMap_cons] at hk
   rcases List.mem_append.1 hk with hk | hk
   ·exact q4 k hk
   ·exact r4 k hk
theorem boxes_args {O Lt : Nat → Prop} : ∀ {bs : List (TypeId × List Bool)} {xs : List IV} {vs : List Value} {L : List Nat}, ArgsRel P w O Lt (bs.map fun b => .box b.1 b.2) xs vs L → BoxesAt P w O bs xs vs L
 | [], _, [], _, h => h
 | b :: bs, _, _ :: _, _, h => by
  obtain ⟨ys, zs, L1, L2, h1, h2, h3, h4⟩ := h
  exact ⟨ys, zs, L1, L2, h1, h2, h3, boxes_args h4⟩
 | [], _, _ :: _, _, h => h.elim
 | _ :: _, _, [], _, h => h.elim
theorem resOne_ok {r : RS} {vv : VV} {v : Value} {as : List Arg} (G : Good P N X ρ K S.tm (cur S es.obs) μ a w) (h : Ev S (resOne P r vv) es as es' ls) (hl : LH R ρ ls) (hg : holds ρ es.gs = some true)
  (hk : ∀ k ∈ keysVV vv, K k) (hv : VRel (cxOf P X ρ (cur S es.obs) μ w) vv v) :
  ∃ xs L, Arg.evs ρ as = some xs ∧ Lend P N X ρ K S μ a w L es es' ∧ ResRel P w (OutO true X L (cur S es'.obs) μ) r xs v L := by
 unfold resOne at h
 cases r with
 | whole t =>
  simp only [Ev_bind, Ev_pure] at h
  obtain ⟨x, e1, l1, _, h1, ⟨rfl, rfl, rfl⟩, rfl⟩ := h
  obtain ⟨p1, p2, p3⟩ := toData_ok G h1 (by simpa using hl) hg hk hv
  obtain ⟨iv, q1, q2⟩ := p3 rfl
  exact ⟨[iv], [], evs_cons q1 rfl, p1.lend, iv, rfl, rfl, q2.weaken fun b _ hb => by simpa [cxOf] using hb.2⟩
 | clip t => simp [Ev_fail] at h
 | strict t =>
  simp only at h
  split at h
  ·simp only [Ev_bind, Ev_guard, Ev_pure] at h
   obtain ⟨_, _, _, _, ⟨g0, rfl, rfl⟩, ⟨rfl, rfl, rfl⟩, rfl⟩ := h
   obtain ⟨e, he⟩ := Option.isSome_iff_exists.1 g0
   have hv' : v = .slice none 0 0 := hv
   subst hv'
   exact ⟨[.list []], [], rfl, (Ph.refl G).lend, _, rfl, rfl, (Row.nil e none 0).rel (elemT_eq he), [], none, 0, rfl, rfl, fun _ => rfl⟩
  ·simp only [Ev_bind, Ev_guard, Ev_prim, Ev_pure] at h
   obtain ⟨_, _, _, _, ⟨g0, rfl, rfl⟩, ⟨x, e1, l1, _, h1, ⟨_, _, _, _, ⟨rfl, rfl, rfl⟩, ⟨rfl, rfl, rfl⟩, rfl⟩, rfl⟩, rfl⟩ := h
   obtain ⟨e, he⟩ := Option.isSome_iff_exists.1 g0
   have hl := hl.right
   obtain ⟨p1, p2, p3⟩ := toData_ok G h1 hl.left hg hk hv
   obtain ⟨iv, q1, q2⟩ := p3 rfl
   have q1' : x.ev ρ = some iv := q1
   obtain ⟨ys, A, cap, rfl, rfl, hrow⟩ := q2.list_inv (elemT_eq he)
   have hg2 : holds ρ e1.gs = some true := by rw [p1.gs]; exact hg
   obtain ⟨vs0, y0, r01, r02, _⟩ := LH.prim hl.right.left hg2
   obtain ⟨s1, s2⟩ := index_ev (j := 0) q1 rfl r01 r02
   have hpos := toNat_lt s1 s2
   refine ⟨[.list ys], [], evs_cons q1 rfl, ?_, _, rfl, rfl, q2.weaken fun b _ hb => by simpa [cxOf] using hb.2, ys, A, cap, rfl, rfl, fun h => ?_⟩
   ·exact (Ph.mk (es' := { e1 with n := e1.n + 1 }) p1.good p1.fewer p1.m p1.gs).lend
   ·subst h; simp at hpos
 | nbox t bs =>
  simp only [Ev_bind, Ev_pure] at h
  obtain ⟨r, e1, l1, _, h1, ⟨rfl, rfl, rfl⟩, rfl⟩ := h
  obtain ⟨xs, L, q1, q2, q3, _⟩ := xArgs_ok (us := [v]) G h1 hl.left hg (by simpa using hk) ⟨hv, trivial⟩ (.inr rfl)
  exact ⟨xs, L, q1, q2, boxes_args (bs := [(t, bs)]) q3⟩
 | clo f bs =>
  simp only at h
  split at h
  ·rename_i gc hx
   obtain ⟨g, caps, rfl⟩ : ∃ g caps, vv = .leaf (.fn g caps) := by
    unfold cloVV at hx
    split at hx
    ·exact ⟨_, _, rfl⟩
    ·cases hx
   simp only [cloVV, Option.some.injEq] at hx
   subst hx
   simp only [Ev_bind, Ev_guard, Ev_pure] at h
   obtain ⟨_, _, _, _, ⟨g0, rfl, rfl⟩, ⟨r, e1, l1, _, h1, ⟨rfl, rfl, rfl⟩, rfl⟩, rfl⟩ := h
   have g0 : f = g := by simpa using g0
   subst g0
   obtain ⟨cs, rfl, hcs⟩ := hv
   obtain ⟨xs, L, q1, q2, q3, _⟩ := xArgs_ok G h1 hl.right.left hg (by rw [keys_caps]; exact hk) hcs.vrels (.inr rfl)
   exact ⟨xs, L, q1, q2, cs, rfl, boxes_args q3⟩
  ·simp [Ev_fail] at h
 | skip =>
  simp only [Ev_pure] at h
  obtain ⟨rfl, rfl, rfl⟩ := h
  exact ⟨[], [], rfl, (Ph.refl G).lend, rfl, rfl⟩
 | cells t bs =>
  simp only [Ev_bind, Ev_guard, Ev_ofOption] at h
  obtain ⟨_, _, _, _, ⟨g0, rfl, rfl⟩, ⟨ts, _, _, _, ⟨h2, rfl, rfl⟩, ⟨cs, e1, l1, _, h1, h3, rfl⟩, rfl⟩, rfl⟩ := h
  have hl := hl.right.right
  obtain ⟨f1, f2, f3⟩ := fits_ok (c := cxOf P X ρ (cur S es.obs) μ w) g0 hv
  obtain ⟨⟨n1, rfl⟩, q1, q2⟩ := explode_ok h1 hl.left hg hk hv
  have p : Ph P N X ρ K S μ a w es { es with n := n1 } := .same G rfl rfl rfl
  obtain ⟨xs, L, s1, s2, s3⟩ := getCells_ok (es := { es with n := n1 }) G h3 hl.right hg q2 q1
  have := p.lend.trans (s2.congr fun b => by simp)
  exact ⟨xs, L, s1, by simpa using this, ts, h2, f1, f2, s3⟩
theorem resAll_ok : ∀ {rs : List RS} {vvs : List VV} {X : Nat → Prop} {es es' : ES} {as : List Arg} {ls : List PLt} {us : List Value}, Good P N X ρ K S.tm (cur S es.obs) μ a w → Ev S (resAll P rs vvs) es as es' ls → LH R ρ ls →
  holds ρ es.gs = some true → (∀ k ∈ vvs.flatMap keysVV, K k) → VRels (cxOf P X ρ (cur S es.obs) μ w) vvs us →
  ∃ xs L, Arg.evs ρ as = some xs ∧ Lend P N X ρ K S μ a w L es es' ∧ RessRel P w (OutO true X L (cur S es'.obs) μ) rs xs us L
 | [], [], X, es, es', as, ls, us, G, h, hl, hg, hk, hv => by
  unfold resAll at h
  rw [Ev_pure] at h
  obtain ⟨rfl, rfl, rfl⟩ := h
  cases us with
  | cons => exact hv.elim
  | nil => exact ⟨[], [], rfl, (Ph.refl G).lend, rfl, rfl⟩
 | r :: rs, vv :: vvs, X, es, es', as, ls, us, G, h, hl, hg, hk, hv => by
  cases us with
  | nil => exact hv.elim
  | cons u us =>
   unfold resAll at h
   simp only [Ev_bind] at h
   obtain ⟨r1, e1, l1, _, h1, ⟨r2, e2, l2, _, h2, h3, rfl⟩, rfl⟩ := h
   rw [Ev_pure] at h3
   obtain ⟨rfl, rfl, rfl⟩ := h3
   have hk1 : ∀ k ∈ vvs.flatMap keysVV, K k := fun k hm => hk k (by rw [List.flatMap_cons]; exact List.mem_append_right _ hm)
   obtain ⟨xs, L1, p1, p2, p3⟩ := resOne_ok G h1 hl.left hg (fun k hm => hk k (by rw [List.flatMap_cons]; exact List.mem_append_left _ hm)) hv.1
   obtain ⟨ys, L2, q1, q2, q3⟩ := resAll_ok p2.good h2 hl.right.left (by rw [p2.gs]; exact hg) hk1 (p2.later.vrels hk1 hv.2)
   refine ⟨xs ++ ys, L1 ++ L2, evs_append p1 q1, p2.trans q2, xs, ys, L1, L2, rfl, rfl, ?_, q3.weaken fun b hb ho => ⟨ho.1, by simpa [or_assoc] using ho.2⟩⟩
   have hO : ∀ b, b < w.heap.size → OutO true X (L1 ++ L2) (cur S e2.obs) μ b → OutO true X L1 (cur S e1.obs) μ b := fun b hb ho => ⟨ho.1, q2.later.O b hb (by simpa [cxOf, or_assoc] using ho.2)⟩
   exact ResRel.weaken p3 hO
 | [], _ :: _, X, es, es', as, ls, us, G, h, hl, hg, hk, hv => by simp [resAll, Ev_fail] at h
 | _ :: _, [], X, es, es', as, ls, us, G, h, hl, hg, hk, hv => by simp [resAll, Ev_fail] at h
def BackShape (p : PS) (v : Value) : Prop :=
 match p with
 | .arr _ => ∃ A n cap, v = .slice A n cap
 | _ => ∃ b, v = .pointer (some ⟨b, 0, none⟩)
structure Backs (F : FnC) (ps : List PS) (args bvs : List Value) (μ : Nat → Value) : Prop where
 bps : F.bps = ps.filter PS.isBack
 sel : ∀ {P : Program} {w : World} {O : Nat → Prop} {xs : List IV} {L : List Nat}, ArgsRel P w O (fun _ => False) F.bps xs bvs L → BackRel P w O ps xs args L
 len : F.bks.length = bvs.length ∧ F.bps.length = bvs.length
 hdr : ∀ (i k : Nat) (v : Value), F.bks[i]? = some k → bvs[i]? = some v → μ k = v
 shape : ∀ (i : Nat) (p : PS) (v : Value), F.bps[i]? = some p → bvs[i]? = some v → BackShape p v
theorem backVVs_rel {c : Cx} : ∀ {ps : List PS} {ks : List Nat} {vs : List Value}, ks.length = vs.length → ps.length = vs.length → (∀ (i k : Nat) (v : Value), ks[i]? = some k → vs[i]? = some v → c.μ k = v) →
  (∀ (i : Nat) (p : PS) (v : Value), ps[i]? = some p → vs[i]? = some v → BackShape p v) → VRels c (backVVs ps ks) vs
 | [], [], [], _, _, _, _ => trivial
 | p :: ps, k :: ks, v :: vs, h1, h2, h3, h4 => by
  refine ⟨?_, backVVs_rel (by simpa using h1) (by simpa using h2) (fun i k v a b => h3 (i + 1) k v (by simpa using a) (by simpa using b)) (fun i k v a b => h4 (i + 1) k v (by simpa using a) (by simpa using b))⟩
  have e1 := h3 0 k v rfl rfl
  have e2 := h4 0 p v rfl rfl
  cases p with
  | arr t => exact ⟨e1.symm, e2⟩
  | data t => obtain ⟨b, rfl⟩ := e2; exact ⟨b, e1, by rw [addr_add_zero]⟩
  | own t => obtain ⟨b, rfl⟩ := e2; exact ⟨b, e1, by rw [addr_add_zero]⟩
  | box t bs => obtain ⟨b, rfl⟩ := e2; exact ⟨b, e1, by rw [addr_add_zero]⟩
  | fn f ts => obtain ⟨b, rfl⟩ := e2; exact ⟨b, e1, by rw [addr_add_zero]⟩
  | fnb f n => obtain ⟨b, rfl⟩ := e2; exact ⟨b, e1, by rw [addr_add_zero]⟩
  | rd t => obtain ⟨b, rfl⟩ := e2; exact ⟨b, e1, by rw [addr_add_zero]⟩
  | bld t bk => obtain ⟨b, rfl⟩ := e2; exact ⟨b, e1, by rw [addr_add_zero]⟩
 | [], _ :: _, [], h, _, _, _ => by simp at h
 | [], _, _ :: _, _, h, _, _ => by simp at h
 | _ :: _, [], _ :: _, h, _, _, _ => by simp at h
 | _ :: _, _, [], _, h, _, _ => by simp at h
theorem backVVs_keys : ∀ {ps : List PS} {ks : List Nat}, (∀ k ∈ ks, K k) → ∀ k ∈ (backVVs ps ks).flatMap keysVV, K k
 | [], _, _, k, hk => by simp [backVVs] at hk
 | _ :: _, [], _, k, hk => by simp [backVVs] at hk
 | p :: ps, q :: ks, h, k, hk => by
  simp only [backVVs, List.flatMap_cons, List.mem_append] at hk
  rcases hk with hk | hk
  ·have : k = q := by cases p <;> simpa [backVV, keysVV, keysLV, keysPV] using hk
   rw [this]; exact h q List.mem_cons_self
  ·exact backVVs_keys (fun k h' => h k (List.mem_cons_of_mem _ h')) k hk
theorem xRet_ok {F : FnC} {s : Spec} {args bvs : List Value} {as : List Arg} {rs : List IV} {L0 : List Nat} {w0 : World} {H : Nat → Prop} {hd : Nat → Value} (hF : F.rs = s.results) (hB : Backs F s.params args bvs μ) (hK : ∀ k ∈ F.bks, K k) (FS0 : FS P N X ρ K S.tm (cur S es.obs) μ a w (· ∈ L0) w0 H hd)
  (h : Ev S (xRet P F) es as es' ls) (hl : LH R ρ ls) (hrs : Arg.evs ρ as = some rs) :
  ∃ v, (F.vars.mapM (resVal a.tmps)).run P w = .ok v w ∧ After P X s args L0 rs w0 (packed v) w := by
 unfold xRet at h
 rw [Ev_bind] at h
 obtain ⟨_, _, _, _, h0, h, rfl⟩ := h
 rw [Ev_bare] at h0
 obtain ⟨g0, rfl, rfl⟩ := h0
 have hg : holds ρ es.gs = some true := by rw [g0]; rfl
 simp only [Ev_bind] at h
 obtain ⟨vvs, e1, l1, _, h1, ⟨a1, e2, l2, _, h2, ⟨b1, e3, l3, _, h3, h4, rfl⟩, rfl⟩, rfl⟩ := h
 rw [Ev_pure] at h4
 obtain ⟨rfl, rfl, rfl⟩ := h4
 have hl := hl.right
 have G := FS0.good
 obtain ⟨us, q1, ⟨n1, rfl⟩, q3, q4⟩ := resVars_ok G h1 hl.left hg
 obtain ⟨xs, L1, r1, r2, r3⟩ := resAll_ok (es := { es with n := n1 }) G h2 hl.right.left hg q4 q3
 have hbv := backVVs_rel (c := cxOf P (fun b => X b ∨ b ∈ L1) ρ (cur S e2.obs) μ w) hB.len.1 hB.len.2 hB.hdr hB.shape
 obtain ⟨ys, L2, s1, s2, s3, _⟩ := xArgs_ok r2.good h3 hl.right.right.left (by rw [r2.gs]; exact hg) (backVVs_keys hK) hbv (.inr rfl)
 rw [evs_append r1 s1] at hrs
 injection hrs with hrs
 subst hrs
 have d := r2.trans s2
 refine ⟨us, q1, FS0.step, us, xs, ys, L1, L2, rfl, rfl, d.nodup, fun b hb => FS0.own b (d.own b hb), ?_, hB.sel ?_⟩
 ·rw [← hF]
  refine r3.weaken fun b hb ho => ⟨rfl, ?_⟩
  rcases ho with ho | ho
  ·exact .inl (.inl ho)
  ·rcases List.mem_append.1 ho with ho | ho
   ·exact .inl (.inr ho)
   ·exact .inr (s2.own b ho)
 ·refine s3.weaken fun b hb ho => ⟨rfl, ?_⟩
  rcases ho with ho | ho
  ·exact .inl (.inl (.inl ho))
  ·rcases List.mem_append.1 ho with ho | ho
   ·exact .inl (.inl (.inr ho))
   ·exact .inl (.inr ho)
end
end Go.CT
namespace Go.CT
open EM
def child (b : Bool) : Code → Option Code
 | .seq x y => some (if b then y else x)
 | .cond _ x y => some (if b then y else x)
 | .block _ c => some c
 | .loop c => some c
 | .scope c => some c
 | _ => none
def codeAt (root : Code) : List Bool → Option Code
 | [] => some root
 | b :: p => (codeAt root p).bind (child b)
inductive PI where
 | code (p : List Bool) (c : Code)
 | inBlock (id : Nat)
 | inLoop (p : List Bool) (body : Code)
 | inScope (p : List Bool) (body : Code)
 deriving Inhabited
def PI.item : PI → Item
 | .code _ c => .code c
 | .inBlock id => .inBlock id
 | .inLoop _ c => .inLoop c
 | .inScope _ c => .inScope c
abbrev Key := Nat × Nat × List Bool
def PI.key : PI → Key
 | .code p _ => (0, 0, p)
 | .inBlock id => (1, id, [])
 | .inLoop p _ => (2, 0, p)
 | .inScope p _ => (3, 0, p)
def PI.ok (root : Code) : PI → Prop
 | .code p c => codeAt root p = some c
 | .inBlock _ => True
 | .inLoop p c => codeAt root p = some c
 | .inScope p c => codeAt root p = some c
def itemOf (root : Code) : Key → Option PI
 | (0, _, p) => (codeAt root p).map (.code p)
 | (1, id, _) => some (.inBlock id)
 | (2, _, p) => (codeAt root p).map (.inLoop p)
 | (3, _, p) => (codeAt root p).map (.inScope p)
 | _ => none
def todoOf (root : Code) : List Key → Option (List PI)
 | [] => some []
 | k :: ks =>
  match itemOf root k with
  | none => none
  | some i =>
   match todoOf root ks with
   | none => none
   | some is => some (i :: is)
def exitPI (id : Nat) : List PI → Option (List PI)
 | .inBlock id' :: k => if id' == id then some k else exitPI id k
 | _ :: k => exitPI id k
 | [] => none
structure Blk where
 key : List Key
 st : St
 deriving Inhabited
def findBlk (key : List Key) : List Blk → Nat → Option (Nat × Blk)
 | [], _ => none
 | b :: bs, i => if key == b.key then some (i, b) else findBlk key bs (i + 1)
def letsPT : List PLt → PT → PT
 | [], p => p
 | l :: ls, p => .lets l.l (letsPT ls p)
def chain : Nat → List PLt → Option Nat
 | n, [] => some n
 | n, l :: ls => if l.n == n then chain (n + l.l.l.arity) ls else none
def runEM {α : Type} (st : St) (m : EM α) : Option (α × List PLt) :=
 match (m { n := st.n, m := st.m, gs := [], obs := [] }).run st.view with
 | some ((x, _), lets, _, _) => if (chain st.n lets).isSome then some (x, lets) else none
 | none => none
section
variable (P : Program) (specs : List (Nat × Spec)) (N : Nat) (F : FnC) (bs : List Blk)
def rdCond (c : Operand) : EM Arg := do
 match ← rd1 P c (boolT P) with
 | .leaf (.at x t) => do
  EM.guard (isBool P t)
  pure x
 | _ => fail
def compRet (st : St) : Option PT :=
 match runEM st (xRet P F) with
 | some (as, ls) => some (letsPT ls (.ret as))
 | none => none
def isPanic (o : Oper) : Bool := match o.op with | .panic _ => true | _ => false
def stuck : PT := .lets ⟨[], .prim .need [.k (.bool false)]⟩ (.ret [])
theorem stuck_den {R : Job → List IV → Option (List IV)} {i : Nat} {ρ : List IV} : stuck.den R i ρ = none := by
 simp [stuck, PT.den, GLet.ev, holds, PLet.ev, Arg.evs, Arg.ev, Prim.ev]
def comp : Nat → Bool → List PI → St → Option PT
 | 0, _, _, _ => none
 | k + 1, first, todo, st =>
  match (if first then none else findBlk (todo.map PI.key) bs 1) with
  | some (i, b) =>
   match runEM st (uSt P F.bks b.st) with
   | some (as, ls) => some (letsPT ls (.jump i as))
   | none => none
  | none =>
   match todo with
   | [] => compRet P F st
   | .inBlock _ :: r => comp k false r st
   | .inScope _ _ :: r => comp k false r st
   | .inLoop p c :: r => comp k false (.code p c :: .inLoop p c :: r) st
   | .code p c :: r =>
    match c with
    | .ret => compRet P F st
    | .skip => comp k false r st
    | .label _ => comp k false r st
    | .seq a b => comp k false (.code (false :: p) a :: .code (true :: p) b :: r) st
    | .cond c a b =>
     match runEM st (rdCond P c) with
     | some (x, ls) =>
      match comp k false (.code (false :: p) a :: r) st with
      | none => none
      | some pa =>
       match comp k false (.code (true :: p) b :: r) st with
       | none => none
       | some pb => if ls.isEmpty then some (.ite x pa pb) else none
     | none => none
    | .block id c => comp k false (.code (false :: p) c :: .inBlock id :: r) st
    | .loop c => comp k false (.code (false :: p) c :: .inLoop (false :: p) c :: r) st
    | .scope c => comp k false (.code (false :: p) c :: .inScope (false :: p) c :: r) st
    | .exit id =>
     match exitPI id r with
     | some r' => comp k false r' st
     | none => none
    | .region _ ops draw =>
     match doRegion P specs N ops draw st with
     | none => if ops.any isPanic then some stuck else none
     | some (ls, st') =>
      if chain st.n ls == some st'.n then
       match comp k false r st' with
       | some q => some (letsPT ls q)
       | none => none
      else none
    | _ => none
end
theorem keys_items {root : Code} : ∀ {xs ys : List PI}, (∀ x ∈ xs, x.ok root) → (∀ y ∈ ys, y.ok root) → xs.map PI.key = ys.map PI.key → xs.map PI.item = ys.map PI.item
 | [], [], _, _, _ => rfl
 | [], _ :: _, _, _, h => by simp at h
 | _ :: _, [], _, _, h => by simp at h
 | x :: xs, y :: ys, hx, hy, h => by
  simp only [List.map_cons, List.cons.injEq] at h ⊢
  refine ⟨?_, keys_items (fun z hz => hx z (List.mem_cons_of_mem _ hz)) (fun z hz => hy z (List.mem_cons_of_mem _ hz)) h.2⟩
  have h1 := hx x List.mem_cons_self
  have h2 := hy y List.mem_cons_self
  have h3 := h.1
  cases x <;> cases y <;> simp_all [PI.key, PI.ok, PI.item]
theorem todoOf_ok {root : Code} : ∀ {ks : List Key} {todo : List PI}, todoOf root ks = some todo → (∀ x ∈ todo, x.ok root) ∧ todo.map PI.key = ks.map fun k => if k.1 = 1 then (1, k.2.1, []) else (k.1, 0, k.2.2)
 | [], todo, h => by simp [todoOf] at h; subst h; simp
 | k :: ks, todo, h => by
  unfold todoOf at h
  cases hi : itemOf root k with
  | none => simp [hi] at h
  | some i =>
   cases hr : todoOf root ks with
   | none => simp [hi, hr] at h
   | some is =>
    simp only [hi, hr, Option.some.injEq] at h
    subst h
    obtain ⟨q1, q2⟩ := todoOf_ok hr
    have : i.ok root ∧ i.key = if k.1 = 1 then (1, k.2.1, []) else (k.1, 0, k.2.2) := by
     obtain ⟨kind, id, p⟩ := k
     unfold itemOf at hi
     split at hi <;> simp_all
     ·rename_i heq
      obtain ⟨c, h1, rfl⟩ := hi
      obtain ⟨rfl, rfl, rfl⟩ := heq
      exact ⟨h1, rfl⟩
     ·rename_i heq
      obtain ⟨rfl, rfl, rfl⟩ := heq
      subst hi
      exact ⟨trivial, rfl⟩
     ·rename_i heq
      obtain ⟨c, h1, rfl⟩ := hi
      obtain ⟨rfl, rfl, rfl⟩ := heq
      exact ⟨h1, rfl⟩
     ·rename_i heq
      obtain ⟨c, h1, rfl⟩ := hi
      obtain ⟨rfl, rfl, rfl⟩ := heq
      exact ⟨h1, rfl⟩
    refine ⟨fun x hx => ?_, by simp only [List.map_cons, q2, this.2]⟩
    rcases List.mem_cons.1 hx with rfl | hx
    ·exact this.1
    ·exact q1 x hx
theorem findBlk_ok {key : List Key} : ∀ {bs : List Blk} {j i : Nat} {b : Blk}, findBlk key bs j = some (i, b) → ∃ n, i = j + n ∧ bs[n]? = some b ∧ key = b.key
 | [], _, _, _, h => by simp [findBlk] at h
 | b0 :: bs, j, i, b, h => by
  unfold findBlk at h
  split at h
  ·rename_i hk
   simp only [Option.some.injEq, Prod.mk.injEq] at h
   obtain ⟨rfl, rfl⟩ := h
   exact ⟨0, rfl, rfl, by simpa using hk⟩
  ·obtain ⟨n, q1, q2, q3⟩ := findBlk_ok h
   exact ⟨n + 1, by omega, by simpa using q2, q3⟩
section
variable {R : Job → List IV → Option (List IV)} {ρ : List IV}
def ExtL (ρ ρ' : List IV) : Prop := ∀ (n : Nat) (y : IV), ρ[n]? = some y → ρ'[n]? = some y
theorem evs_later {ρ ρ' : List IV} (h : ExtL ρ ρ') : ∀ {as : List Arg} {vs : List IV}, Arg.evs ρ as = some vs → Arg.evs ρ' as = some vs
 | [], vs, he => he
 | x :: as, vs, he => by
  unfold Arg.evs at he
  cases hx : x.ev ρ with
  | none => simp [hx] at he
  | some v =>
   cases hr : Arg.evs ρ as with
   | none => simp [hx, hr] at he
   | some r =>
    simp [hx, hr] at he
    subst he
    exact evs_cons (Arg.ev_later h hx) (evs_later h hr)
theorem glet_later {ρ ρ' : List IV} (h : ExtL ρ ρ') {g : GLet} {xs : List IV} (he : g.ev R ρ = some xs) : g.ev R ρ' = some xs := by
 unfold GLet.ev at he ⊢
 cases hh : holds ρ g.gs with
 | none => simp [hh] at he
 | some b =>
  rw [holds_later h hh]
  simp only [hh, Option.bind_some] at he ⊢
  cases b with
  | false => simpa using he
  | true =>
   simp only [if_true] at he ⊢
   unfold PLet.ev at he ⊢
   cases hl : g.l with
   | prim p as =>
    simp only [hl] at he ⊢
    cases hv : Arg.evs ρ as with
    | none => simp [hv] at he
    | some vs => rw [evs_later h hv]; simpa [hv] using he
   | call s as n =>
    simp only [hl] at he ⊢
    cases hv : Arg.evs ρ as with
    | none => simp [hv] at he
    | some vs => rw [evs_later h hv]; simpa [hv] using he
theorem glet_len {g : GLet} {xs : List IV} (he : g.ev R ρ = some xs) : xs.length = g.l.arity := by
 unfold GLet.ev at he
 cases hh : holds ρ g.gs with
 | none => simp [hh] at he
 | some b =>
  simp only [hh, Option.bind_some] at he
  cases b with
  | false => simp at he; subst he; simp
  | true =>
   simp only [if_true] at he
   unfold PLet.ev at he
   cases hl : g.l with
   | prim p as =>
    simp only [hl] at he
    rw [Option.map_eq_some_iff] at he
    obtain ⟨y, _, rfl⟩ := he
    rfl
   | call s as n =>
    simp only [hl] at he
    rw [Option.bind_eq_some_iff] at he
    obtain ⟨rs, _, h2⟩ := he
    split at h2
    ·rename_i hlen; injection h2 with h2; subst h2; exact hlen
    ·cases h2
theorem lets_den {s : Nat} {p : PT} {r : List IV} : ∀ {ls : List PLt} {ρ : List IV} {n : Nat}, (letsPT ls p).den R s ρ = some r → chain ρ.length ls = some n → ∃ ρ', p.den R s ρ' = some r ∧ ExtL ρ ρ' ∧ LH R ρ' ls ∧ ρ'.length = n
 | [], ρ, n, h, hc => by
  simp only [chain, Option.some.injEq] at hc
  exact ⟨ρ, h, fun _ _ h => h, (fun l hl => by cases hl), hc⟩
 | l :: ls, ρ, n, h, hc => by
  unfold letsPT at h
  unfold PT.den at h
  rw [Option.bind_eq_some_iff] at h
  obtain ⟨xs, h1, h2⟩ := h
  have hlen := glet_len h1
  unfold chain at hc
  rw [Option.ite_none_right_eq_some] at hc
  obtain ⟨hn, hc⟩ := hc
  have hn : l.n = ρ.length := by simpa using hn
  obtain ⟨ρ', q1, q2, q3, q4⟩ := lets_den (ρ := ρ ++ xs) h2 (by rw [List.length_append, hlen]; exact hc)
  have e0 : ExtL ρ (ρ ++ xs) := fun i y hi => by rw [List.getElem?_append_left (List.getElem?_eq_some_iff.1 hi).1]; exact hi
  have e1 : ExtL ρ ρ' := fun i y hi => q2 i y (e0 i y hi)
  refine ⟨ρ', q1, e1, fun l' hl' => ?_, q4⟩
  rcases List.mem_cons.1 hl' with rfl | hl'
  ·refine ⟨xs, glet_later e1 h1, fun i hi => ?_⟩
   have hi' : i < xs.length := by rw [hlen]; exact hi
   have : (ρ ++ xs)[l'.n + i]? = some xs[i] := by
    rw [hn, List.getElem?_append_right (by omega), Nat.add_sub_cancel_left]
    exact List.getElem?_eq_getElem hi'
   rw [q2 _ _ this, List.getElem?_eq_getElem hi']
  ·exact q3 l' hl'
end
end Go.CT
namespace Go.CT
open EM
section
variable {P : Program} {N : Nat} {X : Nat → Prop} {R : Job → List IV → Option (List IV)} {ρ : List IV} {μ : Nat → Value} {a : Act} {w : World} {specs : List (Nat × Spec)} {F : FnC} {bs : List Blk} {root : Code} {sidx : Nat} {s : Spec}
 {args bvs : List Value} {L0 : List Nat} {w0 : World} {hdv : Nat → Value}
theorem runEM_ok {α : Type} {st : St} {m : EM α} {x : α} {ls : List PLt} (h : runEM st m = some (x, ls)) : (∃ es', Ev st.view m { n := st.n, m := st.m, gs := [], obs := [] } x es' ls) ∧ ∃ n, chain st.n ls = some n := by
 unfold runEM at h
 cases hr : (m { n := st.n, m := st.m, gs := [], obs := [] }).run st.view with
 | none => simp [hr] at h
 | some q =>
  obtain ⟨⟨y, es⟩, lets, sl, ks⟩ := q
  simp only [hr] at h
  rw [Option.ite_none_right_eq_some] at h
  obtain ⟨hc, h⟩ := h
  injection h with h
  simp only [Prod.mk.injEq] at h
  obtain ⟨rfl, rfl⟩ := h
  exact ⟨⟨es, sl, ks, hr⟩, Option.isSome_iff_exists.1 hc⟩
theorem Rel.boolVal {O : Nat → Prop} {t : TypeId} {b : Bool} {v : Value} (h : Rel P w O t (.bool b) v) : v = .bool b := by
 cases h; rfl
theorem rdCond_ok {K : Nat → Prop} {S : View} {es es' : ES} {c : Operand} {x : Arg} {ls : List PLt} (G : Good P N X ρ K S.tm (cur S es.obs) μ a w) (h : Ev S (rdCond P c) es x es' ls) (hg : holds ρ es.gs = some true) :
  ∃ t iv, x.ev ρ = some iv ∧ Rel P w (cxOf P X ρ (cur S es.obs) μ w).O t iv (a.eval c) := by
 unfold rdCond at h
 rw [Ev_bind] at h
 obtain ⟨vv, e1, l1, _, h1, h, rfl⟩ := h
 obtain ⟨rfl, rfl, q1, q2⟩ := rd1_ok G h1 hg
 split at h
 ·simp only [Ev_bind, Ev_guard, Ev_pure] at h
  obtain ⟨_, _, _, _, ⟨g0, rfl, rfl⟩, ⟨rfl, rfl, rfl⟩, rfl⟩ := h
  obtain ⟨iv, r1, r2⟩ := q1
  exact ⟨_, iv, r1, r2⟩
 ·simp [Ev_fail] at h
def Ends (P : Program) (F : FnC) (X : Nat → Prop) (s : Spec) (args : List Value) (L0 : List Nat) (w0 : World) (todo : List PI) (a : Act) (w : World) (rs : List IV) : Prop :=
 ∀ (b : Frame) (cs : List Frame), ∃ a' w' todo' v, Steps P (lone (b.at a (todo.map PI.item)) cs w) (lone { b.at a' todo' with mode := .returning } cs w') ∧ a'.defers = [] ∧
  (F.vars.mapM (resVal a'.tmps)).run P w' = .ok v w' ∧ After P X s args L0 rs w0 (packed v) w'
theorem Ends.step {todo todo' : List PI} {rs : List IV} (h : ∀ (b : Frame) (cs : List Frame), step P (lone (b.at a (todo.map PI.item)) cs w) = .next (lone (b.at a (todo'.map PI.item)) cs w)) (he : Ends P F X s args L0 w0 todo' a w rs) : Ends P F X s args L0 w0 todo a w rs := by
 intro b cs
 obtain ⟨a', w', t', v, h1, h2⟩ := he b cs
 exact ⟨a', w', t', v, .head (h b cs) h1, h2⟩
abbrev CS (P : Program) (N : Nat) (X : Nat → Prop) (ρ : List IV) (F : FnC) (L0 : List Nat) (w0 : World) (hdv : Nat → Value) (st : St) (μ : Nat → Value) (a : Act) (w : World) : Prop :=
 FS P N X ρ (· < st.m) st.view.tm st.view.ob μ a w (· ∈ L0) w0 (· ∈ F.bks) hdv
theorem FS.later {K : Nat → Prop} {tm : Nat → SV} {ob : Nat → Option Ob} {W0 H : Nat → Prop} {hd : Nat → Value} {ρ' : List IV} (h : FS P N X ρ K tm ob μ a w W0 w0 H hd) (e : ExtL ρ ρ') : FS P N X ρ' K tm ob μ a w W0 w0 H hd := by
 have L : Later K (cxOf P X ρ ob μ w) (cxOf P X ρ' ob μ w) :=
  { P := rfl, ρ := e, μ := fun _ _ => rfl, stays := Stays.refl _ _, O := fun _ _ h => h, W := fun _ _ h => h, WO := fun b hb => .inr hb }
 have G := h.good
 exact ⟨⟨G.size, G.defers, fun s => L.srel (G.kt s) (G.slot s), fun k o ho => L.obOk (G.ko k o ho).1 (G.ko k o ho).2 (fun _ _ _ _ => rfl) (G.obj k o ho), G.sep, G.xsep, G.xlt, G.kt, G.ko⟩, h.step, h.own, h.hdr⟩
theorem exitPI_ok {id : Nat} : ∀ {r r' : List PI}, exitPI id r = some r' → exitTo id (r.map PI.item) = some (r'.map PI.item) ∧ ∀ x ∈ r', x ∈ r
 | [], r', h => by simp [exitPI] at h
 | x :: k, r', h => by
  have skip : exitPI id k = some r' → (∀ id', x ≠ .inBlock id') → exitTo id ((x :: k).map PI.item) = some (r'.map PI.item) ∧ ∀ y ∈ r', y ∈ x :: k := by
   intro h hx
   obtain ⟨q1, q2⟩ := exitPI_ok h
   refine ⟨?_, fun y hy => List.mem_cons_of_mem _ (q2 y hy)⟩
   cases x with
   | inBlock id' => exact absurd rfl (hx id')
   | _ => simpa [PI.item, exitTo] using q1
  cases x with
  | inBlock id' =>
   unfold exitPI at h
   by_cases he : (id' == id) = true
   ·rw [if_pos he] at h
    injection h with h; subst h
    exact ⟨by simp only [List.map_cons, PI.item, exitTo, he, if_true], fun y hy => List.mem_cons_of_mem _ hy⟩
   ·rw [if_neg he] at h
    obtain ⟨q1, q2⟩ := exitPI_ok h
    exact ⟨by simp only [List.map_cons, PI.item, exitTo, he]; exact q1, fun y hy => List.mem_cons_of_mem _ (q2 y hy)⟩
  | code p c => exact skip h (fun _ h => by cases h)
  | inLoop p c => exact skip h (fun _ h => by cases h)
  | inScope p c => exact skip h (fun _ h => by cases h)
def BlksOk (P : Program) (N : Nat) (X : Nat → Prop) (R : Job → List IV → Option (List IV)) (F : FnC) (bs : List Blk) (root : Code) (sidx : Nat) (s : Spec) (args : List Value) (L0 : List Nat) (w0 : World) (hdv : Nat → Value) : Prop :=
 ∀ (i : Nat) (blk : Blk), bs[i]? = some blk → ∀ (todo : List PI), (∀ x ∈ todo, x.ok root) → todo.map PI.key = blk.key → ∀ (vs rs : List IV) (a : Act) (w : World) (μ : Nat → Value), R ⟨sidx, i + 1⟩ vs = some rs → vs.length = blk.st.n →
  CS P N X vs F L0 w0 hdv blk.st μ a w → Ends P F X s args L0 w0 todo a w rs
theorem compRet_ok {st : St} {pt : PT} {rs : List IV} {todo : List PI} (hF : F.rs = s.results) (hB : Backs F s.params args bvs hdv) (h : compRet P F st = some pt) (hρ : ρ.length = st.n) (C : CS P N X ρ F L0 w0 hdv st μ a w) (hd : pt.den R sidx ρ = some rs)
  (hend : ∀ (b : Frame) (cs : List Frame), step P (lone (b.at a (todo.map PI.item)) cs w) = .next (lone { b.at a (todo.map PI.item) with mode := .returning } cs w)) : Ends P F X s args L0 w0 todo a w rs := by
 unfold compRet at h
 cases hr : runEM st (xRet P F) with
 | none => simp [hr] at h
 | some q =>
  obtain ⟨as, ls⟩ := q
  simp only [hr, Option.some.injEq] at h
  subst h
  obtain ⟨⟨es', hE⟩, n, hc⟩ := runEM_ok hr
  obtain ⟨ρ', q1, q2, q3, q4⟩ := lets_den hd (by rw [hρ]; exact hc)
  have C' := C.later q2
  have hB' : Backs F s.params args bvs μ := ⟨hB.bps, hB.sel, hB.len, fun i k v h1 h2 => (C'.hdr k (List.mem_of_getElem? h1)).2.trans (hB.hdr i k v h1 h2), hB.shape⟩
  obtain ⟨v, r1, r2⟩ := xRet_ok (S := st.view) (es := { n := st.n, m := st.m, gs := [], obs := [] }) hF hB' (fun k hk => (C'.hdr k hk).1) (by show FS P N X ρ' _ st.view.tm (cur st.view []) μ a w _ w0 _ _; rw [cur_nil]; exact C') hE q3 q1
  intro b cs
  exact ⟨a, w, _, v, .one (hend b cs), C.good.defers, r1, r2⟩
theorem comp_ok (hm : P.follows .mixedOrders = true) (hS : Sound P specs R) (hF : F.rs = s.results) (hB : Backs F s.params args bvs hdv) (hblk : BlksOk P N X R F bs root sidx s args L0 w0 hdv) :
  ∀ (k : Nat) (first : Bool) (todo : List PI) (st : St) (pt : PT) (ρ : List IV) (rs : List IV) (a : Act) (w : World) (μ : Nat → Value), comp P specs N F bs k first todo st = some pt → (∀ x ∈ todo, x.ok root) → ρ.length = st.n → CS P N X ρ F L0 w0 hdv st μ a w → pt.den R sidx ρ = some rs →
   Ends P F X s args L0 w0 todo a w rs := by
 intro k
 induction k with
 | zero => intro first todo st pt ρ rs a w μ h; simp [comp] at h
 | succ k ih =>
  intro first todo st pt ρ rs a w μ h hok hρ C hd
  unfold comp at h
  split at h
  ·-- a jump
   rename_i i b hfb
   have hfb : findBlk (todo.map PI.key) bs 1 = some (i, b) := by
    by_cases hf : first = true
    ·simp [hf] at hfb
    ·simpa [hf] using hfb
   obtain ⟨n, rfl, hb, hkey⟩ := findBlk_ok hfb
   cases hr : runEM st (uSt P F.bks b.st) with
   | none => simp [hr] at h
   | some q =>
    obtain ⟨as, ls⟩ := q
    simp only [hr, Option.some.injEq] at h
    subst h
    obtain ⟨⟨es', hE⟩, n', hc⟩ := runEM_ok hr
    obtain ⟨ρ', q1, q2, q3, q4⟩ := lets_den hd (by rw [hρ]; exact hc)
    have C' := C.later q2
    unfold PT.den at q1
    rw [Option.bind_eq_some_iff] at q1
    obtain ⟨vs, q5, q6⟩ := q1
    obtain ⟨μ', r1, r2, r3⟩ := uSt_ok (S := st.view) (es := { n := st.n, m := st.m, gs := [], obs := [] }) (by show Good P N X ρ' _ st.view.tm (cur st.view []) μ a w; rw [cur_nil]; exact C'.good) hE q3 rfl (fun k hk hk' => Nat.not_lt.2 hk hk') q5
    have hlen : vs.length = b.st.n := by
     have := (evs_get q5).1
     rw [this]
     unfold uSt at hE
     simp only [Ev_bind, Ev_guard, Ev_ofOption] at hE
     obtain ⟨_, _, _, _, _, ⟨_, _, _, _, _, ⟨_, _, _, _, _, ⟨_, _, _, _, _, ⟨_, _, _, _, _, ⟨_, _, _, _, _, ⟨h4, _⟩, _⟩, _⟩, _⟩, _⟩, _⟩, _⟩ := hE
     exact (argsOf_ok h4).1
    refine hblk n b hb todo hok hkey vs rs a w μ' (by rw [Nat.add_comm]; exact q6) hlen ⟨r1, C'.step, fun b hb => C'.own b (by have := r2 b hb; rwa [show cur st.view ([] : List (Nat × Option Ob)) = st.view.ob from cur_nil _] at this), fun k hk => ⟨(r3 k hk).1, ((r3 k hk).2 (C'.hdr k hk).1).trans (C'.hdr k hk).2⟩⟩
  ·-- a step
   have hr : ∀ {x : PI} {r : List PI}, todo = x :: r → x.ok root ∧ ∀ y ∈ r, y.ok root := fun e => by subst e; exact ⟨hok _ List.mem_cons_self, fun y hy => hok y (List.mem_cons_of_mem _ hy)⟩
   have cons : ∀ {x : PI} {r : List PI}, x.ok root → (∀ y ∈ r, y.ok root) → ∀ y ∈ x :: r, y.ok root := fun hx hr y hy => by
    rcases List.mem_cons.1 hy with rfl | hy
    ·exact hx
    ·exact hr y hy
   split at h
   ·exact compRet_ok hF hB h hρ C hd fun b cs => step_end
   ·rename_i id r
    exact .step (fun b cs => step_inBlock) (ih _ _ _ _ _ _ _ _ _ h (hr rfl).2 hρ C hd)
   ·rename_i p c r
    exact .step (fun b cs => step_inScope) (ih _ _ _ _ _ _ _ _ _ h (hr rfl).2 hρ C hd)
   ·rename_i p c r
    exact .step (fun b cs => step_inLoop) (ih _ _ _ _ _ _ _ _ _ h (cons (hr rfl).1 (cons (hr rfl).1 (hr rfl).2)) hρ C hd)
   ·rename_i p c r _
    obtain ⟨hc, hrr⟩ := hr rfl
    have hc : codeAt root p = some c := hc
    have ch : ∀ (b : Bool) (c' : Code), child b c = some c' → codeAt root (b :: p) = some c' := fun b c' h => by simp [codeAt, hc, h]
    split at h
    ·exact compRet_ok hF hB h hρ C hd fun b cs => step_ret
    ·exact .step (fun b cs => step_skip) (ih _ _ _ _ _ _ _ _ _ h hrr hρ C hd)
    ·exact .step (fun b cs => step_label) (ih _ _ _ _ _ _ _ _ _ h hrr hρ C hd)
    ·exact .step (fun b cs => step_seq) (ih _ _ _ _ _ _ _ _ _ h (cons (ch _ _ rfl) (cons (ch _ _ rfl) hrr)) hρ C hd)
    ·rename_i c0 x y _ _
     cases hre : runEM st (rdCond P c0) with
     | none => simp [hre] at h
     | some q =>
      obtain ⟨z, ls⟩ := q
      simp only [hre] at h
      cases ha : comp P specs N F bs k false (.code (false :: p) x :: r) st with
      | none => simp [ha] at h
      | some pa =>
       cases hb : comp P specs N F bs k false (.code (true :: p) y :: r) st with
       | none => simp [ha, hb] at h
       | some pb =>
        simp only [ha, hb] at h
        rw [Option.ite_none_right_eq_some] at h
        obtain ⟨hle, h⟩ := h
        injection h with h
        subst h
        have hle : ls = [] := by simpa using hle
        subst hle
        obtain ⟨⟨es', hE⟩, _⟩ := runEM_ok hre
        obtain ⟨t0, iv, z1, z2⟩ := rdCond_ok (S := st.view) (es := { n := st.n, m := st.m, gs := [], obs := [] }) (by show Good P N X ρ _ st.view.tm (cur st.view []) μ a w; rw [cur_nil]; exact C.good) hE rfl
        unfold PT.den at hd
        rw [z1] at hd
        split at hd
        ·rename_i heq
         injection heq with heq; subst heq
         have hv : a.eval c0 = .bool true := z2.boolVal
         exact .step (fun b cs => step_cond (t := true) hv) (ih _ _ _ _ _ _ _ _ _ ha (cons (ch _ _ rfl) hrr) hρ C hd)
        ·rename_i heq
         injection heq with heq; subst heq
         have hv : a.eval c0 = .bool false := z2.boolVal
         exact .step (fun b cs => step_cond (t := false) hv) (ih _ _ _ _ _ _ _ _ _ hb (cons (ch _ _ rfl) hrr) hρ C hd)
        ·cases hd
    ·exact .step (fun b cs => step_block) (ih _ _ _ _ _ _ _ _ _ h (cons (ch _ _ rfl) (cons (x := .inBlock _) trivial hrr)) hρ C hd)
    ·exact .step (fun b cs => step_loop) (ih _ _ _ _ _ _ _ _ _ h (cons (ch _ _ rfl) (cons (x := .inLoop _ _) (ch _ _ rfl) hrr)) hρ C hd)
    ·exact .step (fun b cs => step_scope) (ih _ _ _ _ _ _ _ _ _ h (cons (ch _ _ rfl) (cons (x := .inScope _ _) (ch _ _ rfl) hrr)) hρ C hd)
    ·rename_i id _ _
     cases hx : exitPI id r with
     | none => simp [hx] at h
     | some r' =>
      simp only [hx] at h
      obtain ⟨e1, e2⟩ := exitPI_ok hx
      exact .step (fun b cs => step_exit e1) (ih _ _ _ _ _ _ _ _ _ h (fun x hx => hrr x (e2 x hx)) hρ C hd)
    ·rename_i id ops draw _ _
     cases hre : doRegion P specs N ops draw st with
     | none =>
      simp only [hre] at h
      split at h
      ·injection h with h
       subst h
       rw [stuck_den] at hd
       cases hd
      ·cases h
     | some q =>
      obtain ⟨ls, st'⟩ := q
      simp only [hre] at h
      rw [Option.ite_none_right_eq_some] at h
      obtain ⟨hch, h⟩ := h
      cases hq : comp P specs N F bs k false r st' with
      | none => simp [hq] at h
      | some pt' =>
       simp only [hq, Option.some.injEq] at h
       subst h
       obtain ⟨ρ', q1, q2, q3, q4⟩ := lets_den hd (by rw [hρ]; exact eq_of_beq hch)
       have C' := C.later q2
       have hreg := region_ok (id := id) (Q := fun e a' w' => e = .normal ∧ ∃ μ', CS P N X ρ' F L0 w0 hdv st' μ' a' w') hm hS hre q3 C' fun a' w' μ' F' => ⟨rfl, μ', F'⟩
       intro b cs
       obtain ⟨e, a', w', ⟨he, μ', F'⟩, harr⟩ := hreg b (r.map PI.item) cs
       subst he
       obtain ⟨a2, w2, t2, v, s1, s2⟩ := ih _ _ _ _ _ _ _ _ _ hq hrr q4 F' q1 b cs
       exact ⟨a2, w2, t2, v, Steps.trans harr s1, s2⟩
    ·cases h
end
end Go.CT
namespace Go.CT
open EM
def capPVs : Nat → List TypeId → List PV
 | _, [] => []
 | n, t :: ts => .im (.v n) t 0 :: capPVs (n + 1) ts
def PS.arity : PS → Nat
 | .data _ => 1
 | .arr _ => 1
 | .own _ => 1
 | .box _ o => o.length
 | .fn _ ts => ts.length
 | .rd _ => 1
 | .bld _ _ => 1
 | .fnb _ _ => 0
section
variable (P : Program)
def entryRow (t : TypeId) (n : Nat) : EM Nat := do
 let e ← ofOption (elemT P t)
 let k ← newKey
 setOb k (some (.arr e t (.v n)))
 pure k
def entryArg (p : PS) (n : Nat) : EM (VV × List Nat) :=
 match p with
 | .data t => pure (.leaf (.at (.v n) t), [])
 | .arr t => do
  let k ← entryRow P t n
  pure (.leaf (.ref k t), [k])
 | .own t => do
  let k ← entryRow P t n
  pure (.leaf (.ref k t), [])
 | .box t bs => do
  let ts ← ofOption (leaves P t)
  let cs ← mkCells P bs ts n
  let v ← mkVV P t cs
  let k ← newKey
  setOb k (some (.box t v))
  pure (.leaf (.ptr (.p k 0)), [k])
 | .fn f ts => pure (.leaf (.fn f (capPVs n ts)), [])
 | .rd t => pure (.leaf (.ptr (.im (.v n) t 0)), [])
 | .fnb _ _ => pure (.leaf .junk, [])
 | .bld t back => do
  let se ← ofOption (bldT P t)
  let k' ← newKey
  setOb k' (some (.arr se.2 se.1 (.v n)))
  let k ← newKey
  setOb k (some (.box t (.agg t [.hid k, .ref k' se.1])))
  pure (.leaf (.ptr (.p k 0)), if back then [k] else [])
def entryArgs : List PS → Nat → EM (List VV × List Nat)
 | [], _ => pure ([], [])
 | p :: ps, n => do
  let a ← entryArg P p n
  let r ← entryArgs ps (n + p.arity)
  pure (a.1 :: r.1, a.2 ++ r.2)
def slotsOf : List VV → Nat → List (Nat × SV)
 | [], _ => []
 | v :: vs, i => (i, ⟨[], .one v⟩) :: slotsOf vs (i + 1)
def emptyView : View := ⟨fun _ => nothing, fun _ => none⟩
def ptrVV : VV → Option PV
 | .leaf (.ptr p) => some p
 | _ => none
def ptrsOf : List VV → Option (List PV)
 | [] => some []
 | v :: vs =>
  match ptrVV v with
  | some p => (ptrsOf vs).map (p :: ·)
  | none => none
def unflat : Nat → List PS → List VV → Option (List VV)
 | n + 1, _ :: ps, _ :: vs => unflat n ps vs
 | _ + 1, [], _ => none
 | _ + 1, _ :: _, [] => none
 | 0, [], [] => some []
 | 0, [], _ :: _ => none
 | 0, _ :: _, [] => none
 | 0, p :: ps, v :: vs =>
  match fnbOf p with
  | none => (unflat 0 ps vs).map (v :: ·)
  | some fn =>
   match ptrsOf (vs.take fn.2) with
   | some caps => (unflat fn.2 ps vs).map (.leaf (.fn fn.1 caps) :: ·)
   | none => none
def entrySt (ps : List PS) : Option (St × List Nat) :=
 match (entryArgs P ps 0 { n := sumL (ps.map PS.arity), m := 0, gs := [], obs := [] }).run emptyView with
 | some ((r, es), _, _, _) =>
  match unflat 0 ps r.1 with
  | some vvs => some ({ n := sumL (ps.map PS.arity), m := es.m, tm := slotsOf vvs 0, ob := putObs es.obs [] }, r.2)
  | none => none
 | none => none
end
section
variable {P : Program} {w : World} {a : Act} {S : View} {es es' : ES} {ls : List PLt} {c : Cx} {K Rm : Nat → Prop}
theorem CapsRel.prels {Lt : Nat → Prop} (hW : ∀ b, c.W b → Lt b) : ∀ {ts : List TypeId} {xs : List IV} {vs : List Value} {n : Nat}, CapsRel c.P c.w c.O Lt ts xs vs → (∀ i, i < xs.length → c.ρ[n + i]? = xs[i]?) → PRels c (capPVs n ts) vs ∧ xs.length = ts.length
 | [], [], [], n, _, _ => ⟨trivial, rfl⟩
 | t :: ts, x :: xs, v :: vs, n, h, hρ => by
  obtain ⟨⟨ad, u, rfl, h2, h3, h4, h5⟩, h6⟩ := h
  have hx : c.ρ[n]? = some x := by simpa using hρ 0 (by simp)
  obtain ⟨q1, q2⟩ := CapsRel.prels hW (n := n + 1) h6 (fun i hi => by
   have := hρ (i + 1) (by simpa using hi)
   simpa [Nat.add_assoc, Nat.add_comm 1 i] using this)
  exact ⟨⟨⟨ad, u, ⟨x, hx, h5⟩, h2, h3, fun hw => h4 (hW _ hw), by rw [addr_add_zero]⟩, q1⟩, by simp [q2]⟩
 | [], [], _ :: _, _, h, _ => h.elim
 | [], _ :: _, _, _, h, _ => h.elim
 | _ :: _, [], _, _, h, _ => h.elim
 | _ :: _, _ :: _, [], _, h, _ => h.elim
theorem capPVs_keys : ∀ (ts : List TypeId) (n : Nat), (capPVs n ts).flatMap keysPV = []
 | [], _ => rfl
 | _ :: ts, n => by simp [capPVs, keysPV, capPVs_keys ts (n + 1)]
def Ent (c : Cx) (K : Nat → Prop) (S : View) (a : Act) (Rm : Nat → Prop) (L : List Nat) (es es' : ES) (f : (Nat → Value) → Prop) : Prop :=
 es'.gs = es.gs ∧ es.m ≤ es'.m ∧ ∃ μ', (∀ k, K k → μ' k = c.μ k) ∧ Reg (c.at μ') (withKeys K es.m es'.m) S.tm (cur S es'.obs) a (fun b => Rm b ∧ b ∉ L) ∧ f μ'
theorem entryRow_ok {e t : TypeId} {ys : List IV} {v : Value} {n k : Nat} (h : Ev S (entryRow c.P t n) es k es' ls) (ht : c.P.underlying t = some (.slice e)) (hr : RowOwn c.P c.w c.O e ys v) (hL : ∀ b ∈ (blk v).toList, Rm b ∧ c.W b) (G : Reg c K S.tm (cur S es.obs) a Rm)
  (hx : c.ρ[n]? = some (.list ys)) (hfr : ∀ k, es.m ≤ k → ¬ K k) : Ent c K S a Rm (blk v).toList es es' fun μ' => μ' k = v ∧ withKeys K es.m es'.m k ∧ ∃ A n cap, v = .slice A n cap := by
 simp only [entryRow, Ev_bind, Ev_ofOption, Ev_newKey, Ev_setOb, Ev_pure] at h
 obtain ⟨e', _, _, _, ⟨h1, rfl, rfl⟩, ⟨_, _, _, _, ⟨rfl, rfl, rfl⟩, ⟨_, _, _, _, ⟨rfl, rfl⟩, ⟨rfl, rfl, rfl⟩, rfl⟩, rfl⟩, rfl⟩ := h
 have : e' = e := by
  have := elemT_eq h1
  rw [ht] at this; injection this with this; injection this with this; exact this.symm
 subst this
 obtain ⟨hs, cs, r3, r4, r5⟩ := hr
 have hK : ¬ K es.m := hfr es.m (Nat.le_refl _)
 refine ⟨rfl, Nat.le_succ _, updM c.μ es.m v, fun k hk => updM_ne fun e => hK (e ▸ hk), ?_, updM_eq, .inr ⟨Nat.le_refl _, Nat.lt_succ_self _⟩, (own_blk r3).2.2⟩
 show Reg _ _ S.tm (cur S ((es.m, some (.arr e' t (.v n))) :: es.obs)) a _
 rw [cur_cons]
 refine G.put (fun h => absurd h hK) (fun b hb => ?_) (fun b h => h.1) (fun k' h => h.elim .inl fun h => .inr (by subst h; exact ⟨Nat.le_refl _, Nat.lt_succ_self _⟩)) ⟨ys, cs, hx, ht, hs, ?_, r4, r5⟩ (fun k' h => by simp [keysOb] at h)
 ·have hbL : b ∈ (blk v).toList := by simp [hb]
  have := hL b hbL
  exact ⟨this.1, this.2, fun h => h.2 hbL⟩
 ·show c.w.ownsRow 0 e' (sizeT c.P e') (updM c.μ es.m v es.m) ys.length cs
  rw [updM_eq]; exact r3
theorem entryArg_ok {Lt : Nat → Prop} (hW : ∀ b, c.W b → Lt b) {p : PS} {n : Nat} {r : VV × List Nat} {xs : List IV} {v : Value} {L : List Nat} (hg : es.gs = []) (h : Ev S (entryArg c.P p n) es r es' ls) (hr : ArgRel c.P c.w c.O Lt p xs v L) (hn : L.Nodup) (hL : ∀ b ∈ L, Rm b ∧ c.W b)
  (G : Reg c K S.tm (cur S es.obs) a Rm) (hρ : ∀ i, i < xs.length → c.ρ[n + i]? = xs[i]?) (hfr : ∀ k, es.m ≤ k → ¬ K k) :
  xs.length = p.arity ∧ Ent c K S a Rm L es es' fun μ' => VRel (c.at μ') r.1 v ∧ (∀ k ∈ keysVV r.1, withKeys K es.m es'.m k) ∧ (p.isBack = false → r.2 = []) ∧ (p.isBack = true → ∃ k, r.2 = [k] ∧ μ' k = v ∧ withKeys K es.m es'.m k ∧ BackShape p v) := by
 have same : ∀ {vv : VV}, es' = es → L = [] → VRel c vv v → keysVV vv = [] → (p.isBack = false) → r = (vv, []) → Ent c K S a Rm L es es' fun μ' => VRel (c.at μ') r.1 v ∧ (∀ k ∈ keysVV r.1, withKeys K es.m es'.m k) ∧ (p.isBack = false → r.2 = []) ∧ (p.isBack = true → ∃ k, r.2 = [k] ∧ μ' k = v ∧ withKeys K es.m es'.m k ∧ BackShape p v) := by
  rintro vv rfl rfl h1 h2 h3 rfl
  exact ⟨rfl, Nat.le_refl _, c.μ, fun _ _ => rfl, G.keys (fun k h => .inl h) (fun b h => h.1), h1, (fun k hk => by rw [h2] at hk; cases hk), fun _ => rfl, fun h => by rw [h3] at h; cases h⟩
 unfold entryArg at h
 cases p with
 | data t =>
  obtain ⟨x, rfl, rfl, hx⟩ := hr
  rw [Ev_pure] at h
  obtain ⟨rfl, rfl, rfl⟩ := h
  have hx0 : c.ρ[n]? = some x := by simpa using hρ 0 (by simp)
  exact ⟨rfl, same (vv := .leaf (.at (.v n) t)) rfl rfl ⟨x, hx0, hx⟩ rfl rfl rfl⟩
 | fnb f m =>
  obtain ⟨rfl, rfl⟩ := hr
  rw [Ev_pure] at h
  obtain ⟨rfl, rfl, rfl⟩ := h
  exact ⟨rfl, same (vv := .leaf .junk) rfl rfl trivial rfl rfl rfl⟩
 | fn f ts =>
  obtain ⟨vs, rfl, rfl, hc⟩ := hr
  rw [Ev_pure] at h
  obtain ⟨rfl, rfl, rfl⟩ := h
  obtain ⟨q1, q2⟩ := CapsRel.prels hW hc hρ
  exact ⟨q2, same (vv := .leaf (.fn f (capPVs n ts))) rfl rfl ⟨vs, rfl, q1⟩ (capPVs_keys ts n) rfl rfl⟩
 | rd t =>
  obtain ⟨x, rfl, rfl, ad, u, rfl, h2, h3, h4, h5⟩ := hr
  rw [Ev_pure] at h
  obtain ⟨rfl, rfl, rfl⟩ := h
  have hx0 : c.ρ[n]? = some x := by simpa using hρ 0 (by simp)
  exact ⟨rfl, same (vv := .leaf (.ptr (.im (.v n) t 0))) rfl rfl ⟨ad, u, ⟨x, hx0, h5⟩, h2, h3, fun hw => h4 (hW _ hw), by rw [addr_add_zero]⟩ rfl rfl rfl⟩
 | bld t bk =>
  obtain ⟨b, c0, c1, ys', st, e, rfl, r1, r2, r3, rfl, ⟨r4, cs, r5, r6, r7⟩, rfl⟩ := hr
  simp only [Ev_bind, Ev_ofOption, Ev_newKey, Ev_setOb, Ev_pure] at h
  obtain ⟨se, _, _, _, ⟨hse, rfl, rfl⟩, ⟨_, _, _, _, ⟨rfl, rfl, rfl⟩, ⟨_, _, _, _, ⟨rfl, rfl⟩, ⟨_, _, _, _, ⟨rfl, rfl, rfl⟩, ⟨_, _, _, _, ⟨rfl, rfl⟩, ⟨rfl, rfl, rfl⟩, rfl⟩, rfl⟩, rfl⟩, rfl⟩, rfl⟩ := h
  rw [r3] at hse; injection hse with hse; subst hse
  rw [List.nodup_cons] at hn
  have hx : c.ρ[n]? = some (.list ys') := by simpa using hρ 0 (by simp)
  obtain ⟨f1, f2, f3, f4, f5⟩ := bldT_ok r3
  have hK0 : ¬ K es.m := hfr es.m (Nat.le_refl _)
  have hK1 : ¬ K (es.m + 1) := hfr (es.m + 1) (Nat.le_succ _)
  have hKn : ∀ k', K k' → k' ≠ es.m := fun k' h e => hK0 (by rw [← e]; exact h)
  have hKn1 : ∀ k', K k' → k' ≠ es.m + 1 := fun k' h e => hK1 (by rw [← e]; exact h)
  obtain ⟨_, h1c, A, nn, cap, rfl⟩ := own_blk r5
  have G1 : Reg (c.at (updM c.μ es.m (.slice A nn cap))) (withKeys K es.m (es.m + 1)) S.tm (cur S ((es.m, some (.arr e st (.v n))) :: es.obs)) a (fun b' => Rm b' ∧ b' ∉ (blk (.slice A nn cap)).toList) := by
   rw [cur_cons]
   refine G.put (fun h => absurd h hK0) (fun b' hb => ?_) (fun b h => h.1) (fun k' h => h.elim .inl fun h => .inr (by omega)) ?_ (fun k' h => by simp [keysOb] at h)
   ·have hbL : b' ∈ (blk (.slice A nn cap)).toList := by simp [hb]
    have := hL b' (List.mem_cons_of_mem _ hbL)
    exact ⟨this.1, this.2, fun h => h.2 hbL⟩
   ·refine ⟨ys', cs, hx, f2, r4, ?_, r6, r7⟩
    show c.w.ownsRow 0 e (sizeT c.P e) (updM c.μ es.m (.slice A nn cap) es.m) ys'.length cs
    rw [updM_eq]; exact r5
  generalize hμ1 : updM c.μ es.m (.slice A nn cap) = μ1 at G1
  have hμm : μ1 es.m = .slice A nn cap := by rw [← hμ1, updM_eq]
  have hne : es.m ≠ es.m + 1 := by omega
  have G2 : Reg ((c.at μ1).at (updM μ1 (es.m + 1) (.pointer (some ⟨b, 0, none⟩)))) (withKeys K es.m (es.m + 1 + 1)) S.tm (cur S ((es.m + 1, some (.box t (.agg t [.hid (es.m + 1), .ref es.m st]))) :: (es.m, some (.arr e st (.v n))) :: es.obs)) a (fun b' => (Rm b' ∧ b' ∉ (blk (.slice A nn cap)).toList) ∧ b' ≠ b) := by
   rw [cur_cons]
   refine G1.put (fun h => absurd h fun h => h.elim hK1 fun h => by omega) (fun b' hb => ?_) (fun b h => h.1) (fun k' h => ?_) ?_ (fun k' h => ?_)
   ·simp [blk] at hb
    subst hb
    have := hL b (by simp)
    exact ⟨⟨this.1, hn.1⟩, this.2, fun h => h.2 rfl⟩
   ·rcases h with (h | h) | rfl
    ·exact .inl h
    ·exact .inr (by omega)
    ·exact .inr (by omega)
   ·refine ⟨b, .agg #[c0, .slice A nn cap], by show updM _ _ _ _ = _; rw [updM_eq], r1, f4.symm, ?_, ?_, ?_⟩
    ·show if isAggT c.P t = true then _ else _
     rw [if_pos f3]; exact ⟨_, rfl⟩
    ·intro u hu
     simp [Value.cells] at hu
     rcases hu with rfl | rfl
     ·rcases r2 with h | h <;> rw [h] <;> rfl
     ·rfl
    ·refine ⟨_, rfl, ⟨?_, r2.imp id fun h => ⟨?_, _, h⟩⟩, ⟨rfl, ?_, _, _, _, rfl⟩, trivial⟩
     ·rcases r2 with h | h <;> rw [h] <;> rfl
     ·show c0 = updM μ1 (es.m + 1) _ (es.m + 1)
      rw [updM_eq]; exact h
     ·show _ = updM μ1 (es.m + 1) _ es.m
      rw [updM_ne hne]; exact hμm.symm
   ·simp only [keysOb, keysVV, List.flatMap_cons, keysLV, List.flatMap_nil, List.append_nil, List.mem_append, List.mem_singleton] at h
    rcases h with rfl | rfl
    ·exact .inr (by omega)
    ·exact .inr (by omega)
  refine ⟨rfl, rfl, Nat.le_succ_of_le (Nat.le_succ _), updM μ1 (es.m + 1) (.pointer (some ⟨b, 0, none⟩)), fun k hk => ?_, G2.keys (fun _ h => h) (fun b' h => ⟨⟨h.1, fun h' => h.2 (List.mem_cons_of_mem _ h')⟩, fun h' => h.2 (h' ▸ List.mem_cons_self)⟩), ⟨b, updM_eq, by rw [addr_add_zero]⟩, fun k hk => ?_, fun h => ?_, fun h => ⟨es.m + 1, ?_, updM_eq, .inr ⟨Nat.le_succ _, Nat.lt_succ_self _⟩, b, rfl⟩⟩
  ·rw [updM_ne (hKn1 k hk), ← hμ1, updM_ne (hKn k hk)]
  ·simp only [keysVV, keysLV, keysPV, List.mem_singleton] at hk
   subst hk
   exact .inr ⟨Nat.le_succ _, Nat.lt_succ_self _⟩
  ·have h : bk = false := h
   subst h; rfl
  ·have h : bk = true := h
   subst h; rfl
 | arr t =>
  obtain ⟨e, ys, rfl, rfl, ht, hrow⟩ := hr
  simp only [Ev_bind] at h
  obtain ⟨k, e1, l1, l2, h1, h2, rfl⟩ := h
  rw [Ev_pure] at h2
  obtain ⟨rfl, rfl, rfl⟩ := h2
  have hx0 : c.ρ[n]? = some (.list ys) := by simpa using hρ 0 (by simp)
  obtain ⟨q1, q2, μ', q3, q4, q5, q6, q7⟩ := entryRow_ok h1 ht hrow hL G hx0 hfr
  refine ⟨rfl, q1, q2, μ', q3, q4, ⟨q5.symm, q7⟩, fun k' hk' => ?_, (fun h => by cases h), fun _ => ⟨k, rfl, q5, q6, q7⟩⟩
  simp only [keysVV, keysLV, List.mem_singleton] at hk'
  subst hk'; exact q6
 | own t =>
  obtain ⟨e, ys, rfl, rfl, ht, hrow⟩ := hr
  simp only [Ev_bind] at h
  obtain ⟨k, e1, l1, l2, h1, h2, rfl⟩ := h
  rw [Ev_pure] at h2
  obtain ⟨rfl, rfl, rfl⟩ := h2
  have hx0 : c.ρ[n]? = some (.list ys) := by simpa using hρ 0 (by simp)
  obtain ⟨q1, q2, μ', q3, q4, q5, q6, q7⟩ := entryRow_ok h1 ht hrow hL G hx0 hfr
  refine ⟨rfl, q1, q2, μ', q3, q4, ⟨q5.symm, q7⟩, fun k' hk' => ?_, (fun _ => rfl), fun h => by cases h⟩
  simp only [keysVV, keysLV, List.mem_singleton] at hk'
  subst hk'; exact q6
 | box t bs =>
  obtain ⟨b, u, L', rfl, h2, hbox, rfl⟩ := hr
  simp only [Ev_bind, Ev_ofOption, Ev_newKey, Ev_setOb, Ev_pure] at h
  obtain ⟨ts, _, _, _, ⟨h3, rfl, rfl⟩, ⟨cs, e3, _, _, h4, ⟨vv, e4, _, _, h5, ⟨_, _, _, _, ⟨rfl, rfl, rfl⟩, ⟨_, _, _, _, ⟨rfl, rfl⟩, ⟨rfl, rfl, rfl⟩, rfl⟩, rfl⟩, rfl⟩, rfl⟩, rfl⟩ := h
  rw [List.nodup_cons] at hn
  obtain ⟨rfl, rfl, rfl, a1, a2, a3, μ1, a4, a5, a6, a7⟩ := hbox.take hg h3 h4 h5 hn.2 (fun b' hb => hL b' (by simp [hb])) G hρ (fun k' k1 _ => hfr k' k1)
  have hlen : xs.length = bs.length := by
   obtain ⟨_, _, _, _, hcc⟩ := hbox
   exact hcc.len
  obtain ⟨ts', c1, c2, c3, c4⟩ := hbox
  have hone : ∀ z ∈ u.cells, z.oneCell' = true := by
   have := c4.one (fun u hu => by
    obtain ⟨i, hi⟩ := List.mem_iff_getElem?.1 hu
    exact leaves_flat c1 i u hi)
   exact fun z hz => this z (by simpa using hz)
  have hK3 : ¬ withKeys K es.m e3.m e3.m := fresh_next hfr a3 e3.m (Nat.le_refl _)
  have hμ : ∀ k, withKeys K es.m e3.m k → updM μ1 e3.m (.pointer (some ⟨b, 0, none⟩)) k = μ1 k := fun k hk => updM_ne fun e => hK3 (e ▸ hk)
  have hkk : ∀ k', withKeys K es.m e3.m k' ∨ k' = e3.m → withKeys K es.m (e3.m + 1) k' := by
   rintro k' ((h | h) | rfl)
   ·exact .inl h
   ·exact .inr (by omega)
   ·exact .inr (by omega)
  refine ⟨hlen, a2, Nat.le_succ_of_le a3, updM μ1 e3.m (.pointer (some ⟨b, 0, none⟩)), fun k hk => (hμ k (.inl hk)).trans (a4 k hk), ?_, ⟨b, updM_eq, by rw [addr_add_zero]⟩, fun k' hk' => ?_, (fun h => by cases h), fun _ => ⟨e3.m, rfl, updM_eq, .inr ⟨a3, Nat.lt_succ_self _⟩, b, rfl⟩⟩
  ·show Reg ((c.at μ1).at _) _ S.tm (cur S ((e3.m, some (.box t vv)) :: e3.obs)) a _
   rw [cur_cons]
   refine a5.put (fun h => absurd h hK3) (fun b' hb => ?_) (fun b' h => ?_) hkk ?_ (fun k' h => .inl (a7 k' h) |> hkk k')
   ·simp [blk] at hb
    subst hb
    have := hL b (by simp)
    exact ⟨⟨this.1, hn.1⟩, this.2, fun h => h.2 (by simp)⟩
   ·exact ⟨h.1, fun h' => h.2 (List.mem_cons_of_mem _ h')⟩
   ·have Lt2 := Cx.later (c := c.at μ1) (μ := updM μ1 e3.m (.pointer (some ⟨b, 0, none⟩))) a5.wo hμ
    exact ⟨b, u, updM_eq, h2, c2, c3, hone, Lt2.vrel a7 a6⟩
  ·simp only [keysVV, keysLV, keysPV, List.mem_singleton] at hk'
   subst hk'; exact .inr ⟨a3, Nat.lt_succ_self _⟩
end
end Go.CT
namespace Go.CT
open EM
def backArgs : List PS → List Value → List Value
 | p :: ps, v :: vs => if p.isBack then v :: backArgs ps vs else backArgs ps vs
 | _, _ => []
def BkI (μ : Nat → Value) (K : Nat → Prop) : List PS → List Nat → List Value → Prop
 | [], [], [] => True
 | p :: ps, k :: ks, v :: vs => (μ k = v ∧ K k ∧ BackShape p v) ∧ BkI μ K ps ks vs
 | _, _, _ => False
theorem BkI.mono {μ μ' : Nat → Value} {K K' : Nat → Prop} : ∀ {ps : List PS} {ks : List Nat} {vs : List Value}, BkI μ K ps ks vs → (∀ k, K k → K' k ∧ μ' k = μ k) → BkI μ' K' ps ks vs
 | [], [], [], _, _ => trivial
 | _ :: _, _ :: _, _ :: _, h, hm => ⟨⟨(hm _ h.1.2.1).2.trans h.1.1, (hm _ h.1.2.1).1, h.1.2.2⟩, h.2.mono hm⟩
 | [], [], _ :: _, h, _ => h.elim
 | [], _ :: _, _, h, _ => h.elim
 | _ :: _, [], _, h, _ => h.elim
 | _ :: _, _ :: _, [], h, _ => h.elim
theorem BkI.facts {μ : Nat → Value} {K : Nat → Prop} : ∀ {ps : List PS} {ks : List Nat} {vs : List Value}, BkI μ K ps ks vs → (ks.length = vs.length ∧ ps.length = vs.length) ∧ (∀ k ∈ ks, K k) ∧
  (∀ (i k : Nat) (v : Value), ks[i]? = some k → vs[i]? = some v → μ k = v) ∧ (∀ (i : Nat) (p : PS) (v : Value), ps[i]? = some p → vs[i]? = some v → BackShape p v)
 | [], [], [], _ => ⟨⟨rfl, rfl⟩, by simp, by simp, by simp⟩
 | p :: ps, k :: ks, v :: vs, h => by
  obtain ⟨⟨a, b⟩, c, d, e⟩ := h.2.facts
  refine ⟨⟨by simp [a], by simp [b]⟩, fun k' hk => ?_, fun i k' v' h1 h2 => ?_, fun i p' v' h1 h2 => ?_⟩
  ·rcases List.mem_cons.1 hk with rfl | hk
   ·exact h.1.2.1
   ·exact c k' hk
  ·cases i with
   | zero => simp at h1 h2; subst h1; subst h2; exact h.1.1
   | succ i => exact d i k' v' (by simpa using h1) (by simpa using h2)
  ·cases i with
   | zero => simp at h1 h2; subst h1; subst h2; exact h.1.2.2
   | succ i => exact e i p' v' (by simpa using h1) (by simpa using h2)
 | [], [], _ :: _, h => h.elim
 | [], _ :: _, _, h => h.elim
 | _ :: _, [], _, h => h.elim
 | _ :: _, _ :: _, [], h => h.elim
theorem back_sel {P : Program} {w : World} {O : Nat → Prop} : ∀ {ps : List PS} {args : List Value} {xs : List IV} {L : List Nat}, ps.length = args.length → ArgsRel P w O (fun _ => False) (ps.filter PS.isBack) xs (backArgs ps args) L → BackRel P w O ps xs args L
 | [], [], xs, L, _, h => h
 | p :: ps, v :: args, xs, L, hl, h => by
  unfold BackRel
  unfold backArgs at h
  by_cases hb : p.isBack = true
  ·rw [if_pos hb] at h ⊢
   rw [List.filter_cons_of_pos hb] at h
   obtain ⟨ys, zs, L1, L2, h1, h2, h3, h4⟩ := h
   exact ⟨ys, zs, L1, L2, h1, h2, h3, back_sel (by simpa using hl) h4⟩
  ·rw [if_neg hb] at h ⊢
   rw [List.filter_cons_of_neg hb] at h
   exact back_sel (by simpa using hl) h
 | [], _ :: _, _, _, hl, _ => by simp at hl
 | _ :: _, [], _, _, hl, _ => by simp at hl
section
variable {P : Program} {w : World} {a : Act} {S : View} {es es' : ES} {ls : List PLt} {c : Cx} {K Rm : Nat → Prop}
theorem entryArgs_ok {Lt : Nat → Prop} : ∀ {ps : List PS} {n : Nat} {r : List VV × List Nat} {xs : List IV} {vs : List Value} {L : List Nat} {es es' : ES} {ls : List PLt} {c : Cx} {K Rm : Nat → Prop}, (∀ b, c.W b → Lt b) → es.gs = [] → Ev S (entryArgs c.P ps n) es r es' ls → ArgsRel c.P c.w c.O Lt ps xs vs L → L.Nodup →
  (∀ b ∈ L, Rm b ∧ c.W b) → Reg c K S.tm (cur S es.obs) a Rm → (∀ i, i < xs.length → c.ρ[n + i]? = xs[i]?) → (∀ k, es.m ≤ k → ¬ K k) →
  (xs.length = sumL (ps.map PS.arity) ∧ ps.length = vs.length) ∧ Ent c K S a Rm L es es' fun μ' => VRels (c.at μ') r.1 vs ∧ (∀ k ∈ r.1.flatMap keysVV, withKeys K es.m es'.m k) ∧ BkI μ' (withKeys K es.m es'.m) (ps.filter PS.isBack) r.2 (backArgs ps vs)
 | [], n, r, xs, vs, L, es, es', ls, c, K, Rm, hW, hg, h, hr, hn, hL, G, hρ, hfr => by
  unfold entryArgs at h
  rw [Ev_pure] at h
  obtain ⟨rfl, rfl, rfl⟩ := h
  cases vs with
  | cons => exact hr.elim
  | nil =>
   obtain ⟨rfl, rfl⟩ := hr
   exact ⟨⟨rfl, rfl⟩, rfl, Nat.le_refl _, c.μ, fun _ _ => rfl, G.keys (fun k h => .inl h) (fun b h => h.1), trivial, by simp, trivial⟩
 | p :: ps, n, r, xs, vs, L, es, es', ls, c, K, Rm, hW, hg, h, hr, hn, hL, G, hρ, hfr => by
  cases vs with
  | nil => exact hr.elim
  | cons v vs =>
   obtain ⟨ys, zs, L1, L2, rfl, rfl, r1, r2⟩ := hr
   unfold entryArgs at h
   simp only [Ev_bind] at h
   obtain ⟨a1, e1, l1, _, h1, ⟨q, e2, l2, _, h2, h3, rfl⟩, rfl⟩ := h
   rw [Ev_pure] at h3
   obtain ⟨rfl, rfl, rfl⟩ := h3
   obtain ⟨p1, p2⟩ := packs hρ
   rw [List.nodup_append] at hn
   obtain ⟨hn1, hn2, hn3⟩ := hn
   obtain ⟨len1, b1, b2, μ1, b3, b4, b5, b6, b7, b8⟩ := entryArg_ok hW hg h1 r1 hn1 (fun b hb => hL b (List.mem_append_left _ hb)) G p1 hfr
   obtain ⟨⟨len2, len3⟩, d1, d2, μ', d3, d4, d5, d6, d7⟩ := entryArgs_ok (c := c.at μ1) hW (b1.trans hg) h2 r2 hn2 (fun b hb => ⟨⟨(hL b (List.mem_append_right _ hb)).1, fun h => hn3 b h b hb rfl⟩, (hL b (List.mem_append_right _ hb)).2⟩) b4
    (by rw [← len1]; exact p2) (fresh_next hfr b2)
   have hw := withKeys_trans (K := K) b2 d2
   have Lt2 := Cx.later (c := c.at μ1) (μ := μ') b4.wo d3
   refine ⟨⟨by simp [len1, len2, sumL], by simp [len3]⟩, d1.trans b1, Nat.le_trans b2 d2, μ', fun k hk => (d3 k (.inl hk)).trans (b3 k hk), d4.keys hw (fun b h => ⟨⟨h.1, fun h' => h.2 (List.mem_append_left _ h')⟩, fun h' => h.2 (List.mem_append_right _ h')⟩),
    ⟨Lt2.vrel b6 b5, d5⟩, fun k hk => ?_, ?_⟩
   ·rw [List.flatMap_cons] at hk
    rcases List.mem_append.1 hk with hk | hk
    ·exact hw k (.inl (b6 k hk))
    ·exact hw k (d6 k hk)
   ·have d7' := d7.mono (K' := withKeys K es.m e2.m) (μ' := μ') fun k hk => ⟨hw k hk, rfl⟩
    cases hb : p.isBack with
    | true =>
     obtain ⟨k, k1, k2, k3, k4⟩ := b8 hb
     simp only [backArgs, hb, if_true, List.filter_cons_of_pos, k1, List.singleton_append]
     exact ⟨⟨(d3 k k3).trans k2, hw k (.inl k3), k4⟩, d7'⟩
    | false =>
     have k1 := b7 hb
     simp only [backArgs, hb, Bool.false_eq_true, if_false, k1, List.nil_append]
     rw [List.filter_cons_of_neg (by simp [hb])]
     exact d7'
theorem lookTm_slots {t : Nat} : ∀ {vs : List VV} {i : Nat}, lookTm t (slotsOf vs i) = if i ≤ t then (match vs[t - i]? with | some v => ⟨[], .one v⟩ | none => nothing) else nothing
 | [], i => by simp [slotsOf, lookTm]
 | v :: vs, i => by
  unfold slotsOf lookTm
  by_cases h : i = t
  ·subst h; simp
  ·have : (i == t) = false := by simpa using h
   simp only [this, Bool.false_eq_true, if_false]
   rw [lookTm_slots]
   by_cases h2 : i + 1 ≤ t
   ·have e : t - i = (t - (i + 1)) + 1 := by omega
    rw [if_pos h2, if_pos (by omega), e]; simp
   ·rw [if_neg h2, if_neg (by omega)]
theorem slots_len : ∀ {vs : List VV} {i : Nat}, (slotsOf vs i).length = vs.length
 | [], _ => rfl
 | _ :: vs, i => by simp [slotsOf, slots_len (vs := vs)]
theorem VRels.get2 {c : Cx} : ∀ {vvs : List VV} {vs : List Value}, VRels c vvs vs → vvs.length = vs.length ∧ ∀ (i : Nat) (x : VV), vvs[i]? = some x → ∃ v, vs[i]? = some v ∧ VRel c x v
 | [], [], _ => ⟨rfl, by simp⟩
 | x :: vvs, v :: vs, h => by
  obtain ⟨h1, h2⟩ := VRels.get2 h.2
  refine ⟨by simp [h1], fun i y hy => ?_⟩
  cases i with
  | zero => simp at hy; subst hy; exact ⟨v, rfl, h.1⟩
  | succ i => exact h2 i y (by simpa using hy)
 | [], _ :: _, h => h.elim
 | _ :: _, [], h => h.elim
theorem VRels.cut {c : Cx} : ∀ {vvs : List VV} {xs ys : List Value}, VRels c vvs (xs ++ ys) → VRels c (vvs.take xs.length) xs
 | vvs, [], ys, _ => by simp; trivial
 | [], _ :: _, _, h => h.elim
 | _ :: _, _ :: _, _, h => ⟨h.1, VRels.cut h.2⟩
theorem ptrsOf_ok {c : Cx} : ∀ {vvs : List VV} {ps : List PV} {vs : List Value}, ptrsOf vvs = some ps → VRels c vvs vs → PRels c ps vs ∧ ∀ k ∈ ps.flatMap keysPV, k ∈ vvs.flatMap keysVV
 | [], ps, vs, h, hv => by
  simp only [ptrsOf, Option.some.injEq] at h
  subst h
  cases vs with
  | nil => exact ⟨trivial, by simp⟩
  | cons => exact hv.elim
 | x :: vvs, ps, vs, h, hv => by
  cases vs with
  | nil => exact hv.elim
  | cons v vs =>
   unfold ptrsOf at h
   cases hx : ptrVV x with
   | none => simp [hx] at h
   | some p =>
    obtain rfl : x = .leaf (.ptr p) := by
     unfold ptrVV at hx
     split at hx
     ·injection hx with hx; rw [hx]
     ·cases hx
    cases hr : ptrsOf vvs with
    | none => simp [hx, hr] at h
    | some r =>
     simp only [hx, hr, Option.map_some, Option.some.injEq] at h
     subst h
     obtain ⟨q1, q2⟩ := ptrsOf_ok hr hv.2
     refine ⟨⟨hv.1, q1⟩, fun k hk => ?_⟩
     rw [List.flatMap_cons] at hk ⊢
     exact (List.mem_append.1 hk).elim (fun h => List.mem_append_left _ h) fun h => List.mem_append_right _ (q2 k h)
theorem unflat_ok {c : Cx} : ∀ {k : Nat} {ps : List PS} {vvs out : List VV} {pend fr vs : List Value}, unflat k ps vvs = some out → flatV k ps vs = some fr → pend.length = k → VRels c vvs (pend ++ fr) →
  VRels c out vs ∧ ∀ q ∈ out.flatMap keysVV, q ∈ vvs.flatMap keysVV
 | k + 1, [], vvs, out, pend, fr, vs, h, hf, hp, hv => by simp [unflat] at h
 | k + 1, _ :: _, [], out, pend, fr, vs, h, hf, hp, hv => by simp [unflat] at h
 | k + 1, p :: ps, x :: vvs, out, pend, fr, vs, h, hf, hp, hv => by
  unfold unflat at h
  unfold flatV at hf
  cases pend with
  | nil => cases hp
  | cons q pend =>
   obtain ⟨q1, q2⟩ := unflat_ok h hf (by simpa using hp) hv.2
   exact ⟨q1, fun k hk => by rw [List.flatMap_cons]; exact List.mem_append_right _ (q2 k hk)⟩
 | 0, [], [], out, pend, fr, vs, h, hf, hp, hv => by
  simp only [unflat, Option.some.injEq] at h
  subst h
  cases vs with
  | nil => exact ⟨trivial, by simp⟩
  | cons => simp [flatV] at hf
 | 0, [], _ :: _, out, pend, fr, vs, h, hf, hp, hv => by simp [unflat] at h
 | 0, _ :: _, [], out, pend, fr, vs, h, hf, hp, hv => by simp [unflat] at h
 | 0, p :: ps, x :: vvs, out, pend, fr, vs, h, hf, hp, hv => by
  have : pend = [] := List.length_eq_zero_iff.1 hp
  subst this
  cases vs with
  | nil => simp [flatV] at hf
  | cons v vs =>
   unfold unflat at h
   unfold flatV at hf
   cases hn : fnbOf p with
   | none =>
    simp only [hn] at h hf
    cases hr : unflat 0 ps vvs with
    | none => simp [hr] at h
    | some r =>
     cases hs : flatV 0 ps vs with
     | none => simp [hs] at hf
     | some s =>
      simp only [hr, hs, Option.map_some, Option.some.injEq] at h hf
      subst h; subst hf
      obtain ⟨q1, q2⟩ := unflat_ok (pend := []) hr hs rfl hv.2
      refine ⟨⟨hv.1, q1⟩, fun k hk => ?_⟩
      rw [List.flatMap_cons] at hk ⊢
      exact (List.mem_append.1 hk).elim (fun h => List.mem_append_left _ h) fun h => List.mem_append_right _ (q2 k h)
   | some fn =>
    simp only [hn] at h hf
    cases hv0 : cloV v with
    | none => simp [hv0] at hf
    | some gc =>
     simp only [hv0] at hf
     split at hf
     ·rename_i hc
      simp only [Bool.and_eq_true, beq_iff_eq] at hc
      cases hs : flatV fn.2 ps vs with
      | none => simp [hs] at hf
      | some s =>
       cases hcp : ptrsOf (vvs.take fn.2) with
       | none => simp [hcp] at h
       | some caps =>
        cases hr : unflat fn.2 ps vvs with
        | none => simp [hcp, hr] at h
        | some r =>
         simp only [hcp, hr, hs, Option.map_some, Option.some.injEq] at h hf
         subst h; subst hf
         obtain ⟨cs, rfl, hcs⟩ : ∃ cs : Array Value, v = .func (.func gc.1) #[] cs ∧ cs.toList = gc.2 := by
          unfold cloV at hv0
          split at hv0
          ·split at hv0
           ·rename_i he
            injection hv0 with hv0
            subst hv0
            rw [Array.isEmpty_iff] at he
            exact ⟨_, by rw [he], rfl⟩
           ·cases hv0
          ·cases hv0
         have hv2 : VRels c vvs (gc.2 ++ s) := hv.2
         have hcut := hv2.cut
         rw [hc.2] at hcut
         obtain ⟨q1, q2⟩ := unflat_ok hr hs hc.2 hv2
         obtain ⟨r1, r2⟩ := ptrsOf_ok hcp hcut
         refine ⟨⟨⟨cs, by rw [hc.1], by rw [hcs]; exact r1⟩, q1⟩, fun k hk => ?_⟩
         rw [List.flatMap_cons] at hk ⊢
         refine List.mem_append_right _ ?_
         rcases List.mem_append.1 hk with hk | hk
         ·have := r2 k hk
          obtain ⟨y, hy, hy2⟩ := List.mem_flatMap.1 this
          exact List.mem_flatMap.2 ⟨y, List.mem_of_mem_take hy, hy2⟩
         ·exact q2 k hk
     ·cases hf
theorem entry_ok {N : Nat} {X : Nat → Prop} {F : FnC} {s : Spec} {st : St} {bks : List Nat} {xs : List IV} {args fargs : List Value} {L : List Nat} (hfl : flatV 0 s.params args = some fargs) (he : entrySt P s.params = some (st, bks)) (hF : F.bps = s.params.filter PS.isBack) (hFk : F.bks = bks)
  (hr : ArgsRel P w (fun b => X b ∨ b ∈ L) (· ∈ L) s.params xs fargs L) (hn : L.Nodup) (hX : ∀ b ∈ L, ¬ X b) (hlt : ∀ b, X b → b < w.heap.size) (ha : a.tmps = args.toArray ++ Array.replicate (N - args.length) undef) (hN : st.tm.length ≤ N) (hd : a.defers = []) :
  ∃ μ bvs, xs.length = st.n ∧ Backs F s.params fargs bvs μ ∧ CS P N X xs F L w μ st μ a w := by
 unfold entrySt at he
 cases hrun : (entryArgs P s.params 0 { n := sumL (s.params.map PS.arity), m := 0, gs := [], obs := [] }).run emptyView with
 | none => simp [hrun] at he
 | some q =>
  obtain ⟨⟨r, es⟩, lets, sl, ks⟩ := q
  simp only [hrun] at he
  cases hun : unflat 0 s.params r.1 with
  | none => simp [hun] at he
  | some vvs =>
  simp only [hun, Option.some.injEq, Prod.mk.injEq] at he
  obtain ⟨rfl, rfl⟩ := he
  let c : Cx := { P, ρ := xs, μ := fun _ => undef, w, O := fun b => X b ∨ b ∈ L, W := (· ∈ L) }
  have G0 : Reg c (fun _ => False) emptyView.tm (cur emptyView ([] : List (Nat × Option Ob))) a (· ∈ L) := by
   rw [cur_nil]
   exact ⟨fun b hb => .inr hb, (fun s => ⟨true, rfl, (fun _ => trivial), (fun h => by cases h)⟩), (fun k o h => by cases h), (fun k k' o o' b h => by cases h), (fun k o b h => by cases h), (fun s k h => by simp [emptyView, nothing, keysSX, keysVV, keysLV] at h), (fun k o h => by cases h)⟩
  have hE : Ev emptyView (entryArgs c.P s.params 0) { n := sumL (s.params.map PS.arity), m := 0, gs := [], obs := [] } r es lets := ⟨sl, ks, hrun⟩
  obtain ⟨⟨len1, len2⟩, q1, q2, μ', q3, q4, q5, q6, q7⟩ := entryArgs_ok (Lt := (· ∈ L)) (fun b h => h) rfl hE hr hn (fun b hb => ⟨hb, hb⟩) G0 (fun i hi => by simp [c]) (fun k _ h => h)
  have hK : ∀ k, withKeys (fun _ => False) 0 es.m k → k < es.m := fun k h => h.elim (fun h => h.elim) fun h => h.2
  obtain ⟨q5, q6'⟩ := unflat_ok (pend := []) hun hfl rfl q5
  have q6 : ∀ k ∈ vvs.flatMap keysVV, withKeys (fun _ => False) 0 es.m k := fun k hk => q6 k (q6' k hk)
  have hob : (({ n := sumL (s.params.map PS.arity), m := es.m, tm := slotsOf vvs 0, ob := putObs es.obs [] } : St).view.ob) = cur emptyView es.obs := by
   funext k
   show lookO k (putObs es.obs []) = _
   rw [lookO_putObs]
   unfold cur
   cases lookOb k es.obs <;> rfl
  obtain ⟨⟨f1, f2⟩, f3, f4, f5⟩ := q7.facts
  have Lat : Later (· < es.m) (c.at μ') (cxOf P X xs (cur emptyView es.obs) μ' w) :=
   { P := rfl, ρ := fun _ _ h => h, μ := fun _ _ => rfl, stays := Stays.refl _ _, O := fun b _ hb => hb.imp id fun ⟨k, o, h1, h2, h3⟩ => (q4.rest k o b h1 h2 h3).2, W := fun b _ ⟨k, o, h1, h2, h3⟩ => (q4.rest k o b h1 h2 h3).2, WO := fun b hb => .inr hb }
  obtain ⟨g1, g2⟩ := q5.get2
  have hN : args.length ≤ N := by
   rw [← g1, ← slots_len (vs := vvs) (i := 0)]; exact hN
  refine ⟨μ', backArgs s.params fargs, len1, ⟨hF, fun h => back_sel len2 (by rw [← hF]; exact h), by rw [hFk, hF]; exact ⟨f1, f2⟩, by rw [hFk]; exact f4, by rw [hF]; exact f5⟩, ?_⟩
  refine ⟨⟨?_, hd, fun t => ?_, fun k o h => ?_, fun k1 k2 o1 o2 b h1 h2 h3 h4 h5 h6 => ?_, fun k o b h1 h2 h3 => ?_, hlt, fun t k hk => ?_, fun k o h => ?_⟩, .refl _ _, fun b hb => ?_, fun k hk => ⟨hK k (f3 k (by rw [← hFk]; exact hk)), rfl⟩⟩
  ·rw [ha]; simp; omega
  ·rw [hob]
   show SRel _ (lookTm t (slotsOf vvs 0)) _
   rw [lookTm_slots]
   simp only [Nat.zero_le, if_true, Nat.sub_zero]
   cases hv : vvs[t]? with
   | none => exact ⟨true, rfl, fun _ => trivial, fun h => by cases h⟩
   | some x =>
    obtain ⟨v, h1, h2⟩ := g2 t x hv
    have hlt2 := (List.getElem?_eq_some_iff.1 h1).1
    have : a.tmps.getD t undef = v := by
     rw [ha]
     have : (args.toArray ++ Array.replicate (N - args.length) undef)[t]? = some v := by
      rw [Array.getElem?_append_left (by simpa using hlt2)]
      simpa using h1
     simp [this]
    rw [this]
    exact ⟨true, rfl, fun _ => Lat.vrel (fun k hk => hK k (q6 k (List.mem_flatMap.2 ⟨x, List.mem_of_getElem? hv, hk⟩))) h2, fun h => by cases h⟩
  ·rw [hob] at h ⊢
   exact Lat.obOk (hK k (q4.ko k o h).1) (fun k' hk' => hK k' ((q4.ko k o h).2 k' hk')) (fun _ _ _ _ => rfl) (q4.obj k o h)
  ·rw [hob] at h1 h2
   exact q4.sep k1 k2 o1 o2 b h1 h2 h3 h4 h5 h6
  ·rw [hob] at h1
   exact hX b (q4.rest k o b h1 h2 h3).2
  ·have hk : k ∈ keysSX (lookTm t (slotsOf vvs 0)).x := hk
   rw [lookTm_slots] at hk
   simp only [Nat.zero_le, if_true, Nat.sub_zero] at hk
   cases hv : vvs[t]? with
   | none => rw [hv] at hk; simp [nothing, keysSX, keysVV, keysLV] at hk
   | some x =>
    rw [hv] at hk
    exact hK k (q6 k (List.mem_flatMap.2 ⟨x, List.mem_of_getElem? hv, hk⟩))
  ·rw [hob] at h
   exact ⟨hK k (q4.ko k o h).1, fun k' hk' => hK k' ((q4.ko k o h).2 k' hk')⟩
  ·rw [hob] at hb
   obtain ⟨k, o, h1, h2, h3⟩ := hb
   exact .inl (q4.rest k o b h1 h2 h3).2
end
end Go.CT
namespace Go.CT
open EM
def run (T : Job → Option PT) (pr : Nat → Option (List IV → Option (List IV))) : Nat → Job → List IV → Option (List IV)
 | 0, _, _ => none
 | k + 1, j, vs =>
  match pr j.spec with
  | some f => f vs
  | none =>
   match T j with
   | some pt => pt.den (run T pr k) j.spec vs
   | none => none
def PrimOk (P : Program) (f : List IV → Option (List IV)) (s : Spec) : Prop :=
 ∀ (w : World) (X : Nat → Prop) (xs : List IV) (args : List Value) (L : List Nat) (rs : List IV),
  ArgsRel P w (fun b => X b ∨ b ∈ L) (· ∈ L) s.params xs args L → L.Nodup → (∀ b ∈ L, ¬ X b) → (∀ b, X b → b < w.heap.size) →
  f xs = some rs → Does P s.fn args.toArray w (After P X s args L rs w)
def FlatOk (P : Program) (f : List IV → Option (List IV)) (s : Spec) : Prop :=
 ∀ (w : World) (X : Nat → Prop) (xs : List IV) (args fargs : List Value) (L : List Nat) (rs : List IV), flatV 0 s.params args = some fargs →
  ArgsRel P w (fun b => X b ∨ b ∈ L) (· ∈ L) s.params xs fargs L → L.Nodup → (∀ b ∈ L, ¬ X b) → (∀ b, X b → b < w.heap.size) →
  f xs = some rs → Does P s.fn args.toArray w (After P X s fargs L rs w)
theorem flatV_plain : ∀ {ps : List PS} {vs fs : List Value}, ps.all (fun p => (fnbOf p).isNone) = true → flatV 0 ps vs = some fs → fs = vs
 | [], [], fs, _, h => by simp only [flatV, Option.some.injEq] at h; exact h.symm
 | [], _ :: _, fs, _, h => by simp [flatV] at h
 | _ :: _, [], fs, _, h => by simp [flatV] at h
 | p :: ps, v :: vs, fs, hp, h => by
  simp only [List.all_cons, Bool.and_eq_true, Option.isNone_iff_eq_none] at hp
  unfold flatV at h
  simp only [hp.1] at h
  cases hr : flatV 0 ps vs with
  | none => simp [hr] at h
  | some r =>
   simp only [hr, Option.map_some, Option.some.injEq] at h
   subst h
   rw [flatV_plain hp.2 hr]
theorem PrimOk.flat {P : Program} {f : List IV → Option (List IV)} {s : Spec} (h : PrimOk P f s) (hp : s.params.all (fun p => (fnbOf p).isNone) = true) : FlatOk P f s := by
 intro w X xs args fargs L rs hf
 rw [flatV_plain hp hf]
 exact h w X xs args L rs
structure FnOk (P : Program) (specs : List (Nat × Spec)) (T : Job → Option PT) (i : Nat) (s : Spec) (fn : Func) (root : Code) (F : FnC) (bs : List Blk) (st : St) (fuel : Nat) : Prop where
 hf : P.funcs[s.fn]? = some fn
 hname : (fn.name == "runtime.NumGoroutine") = false
 hbody : fn.body = some root
 hvars : F.vars = fn.results.toList
 hrs : F.rs = s.results
 hbps : F.bps = s.params.filter PS.isBack
 hlen : st.tm.length ≤ fn.ntmps
 hst : entrySt P s.params = some (st, F.bks)
 entry : T ⟨i, 0⟩ = comp P specs fn.ntmps F bs fuel true [.code [] root] st
 blks : ∀ (n : Nat) (b : Blk), bs[n]? = some b → T ⟨i, n + 1⟩ = (todoOf root b.key).bind fun todo => comp P specs fn.ntmps F bs fuel true todo b.st
section
variable {P : Program} {specs : List (Nat × Spec)} {T : Job → Option PT} {pr : Nat → Option (List IV → Option (List IV))}
theorem key_norm (x : PI) : (if x.key.1 = 1 then (1, x.key.2.1, []) else (x.key.1, 0, x.key.2.2)) = x.key := by
 cases x <;> rfl
theorem blks_ok (hm : P.follows .mixedOrders = true) {i : Nat} {s : Spec} {fn : Func} {root : Code} {F : FnC} {bs : List Blk} {st : St} {fuel : Nat} (h : FnOk P specs T i s fn root F bs st fuel) (hp : pr i = none) {X : Nat → Prop} {args bvs : List Value} {L0 : List Nat} {w0 : World} {hdv : Nat → Value}
  (hB : Backs F s.params args bvs hdv) : ∀ k, (∀ j, j ≤ k → Sound P specs (run T pr j)) → BlksOk P fn.ntmps X (run T pr k) F bs root i s args L0 w0 hdv
 | 0, _ => fun n b _ todo _ _ vs rs a w μ hr => by simp [run] at hr
 | k + 1, hS => fun n b hb todo hok hkey vs rs a w μ hr hlen C => by
  have hT := h.blks n b hb
  have hr' := hr
  simp only [run, hp] at hr'
  obtain ⟨todo0, pt, h1, h2, h3⟩ : ∃ todo pt, todoOf root b.key = some todo ∧ comp P specs fn.ntmps F bs fuel true todo b.st = some pt ∧ T ⟨i, n + 1⟩ = some pt := by
   cases h1 : todoOf root b.key with
   | none => rw [hT, h1] at hr'; simp at hr'
   | some todo0 =>
    rw [h1] at hT
    cases h2 : comp P specs fn.ntmps F bs fuel true todo0 b.st with
    | none => simp only [hT, Option.bind_some, h2] at hr'; cases hr'
    | some pt => exact ⟨todo0, pt, rfl, h2, by rw [hT]; exact h2⟩
  obtain ⟨q1, q2⟩ := todoOf_ok h1
  have hkeys : todo0.map PI.key = todo.map PI.key := by
   rw [q2, ← hkey, List.map_map]
   apply List.map_congr_left
   intro x _
   exact key_norm x
  have hitems := keys_items q1 hok hkeys
  have hd : pt.den (run T pr k) i vs = some rs := by
   simp only [run, hp, h3] at hr; exact hr
  have := comp_ok hm (hS k (Nat.le_succ k)) h.hrs hB (blks_ok hm h hp hB k fun j hj => hS j (Nat.le_succ_of_le hj)) fuel true todo0 b.st pt vs rs a w μ h2 q1 hlen C hd
  intro fb cs
  obtain ⟨a', w', t', v, r1, r2⟩ := this fb cs
  rw [hitems] at r1
  exact ⟨a', w', t', v, r1, r2⟩
theorem args_len {w : World} {O Lt : Nat → Prop} : ∀ {ps : List PS} {xs : List IV} {vs : List Value} {L : List Nat}, ArgsRel P w O Lt ps xs vs L → ps.length = vs.length
 | [], _, [], _, _ => rfl
 | _ :: _, _, _ :: _, _, h => by
  obtain ⟨_, _, _, _, _, _, _, h⟩ := h
  simp [args_len h]
 | [], _, _ :: _, _, h => h.elim
 | _ :: _, _, [], _, h => h.elim
theorem results_run {fn : Func} {tmps : Array Value} {w : World} {v : List Value} (h : (fn.results.toList.mapM (resVal tmps)).run P w = .ok v w) : (results fn tmps).run P w = .ok (packed v) w := by
 have e0 : results fn tmps = (do let vs ← fn.results.mapM (resVal tmps); pure (if h : vs.size = 1 then vs[0] else .tuple vs)) := by
  unfold results
  congr 2
 have hm : fn.results.mapM (resVal tmps) = List.toArray <$> fn.results.toList.mapM (resVal tmps) := by
  rw [← List.mapM_toArray]
 rw [e0, Sem.run_bind, hm, Sem.run_map, h]
 simp only [Result.andThen_ok, Sem.run_pure]
 congr 1
 unfold packed
 cases v with
 | nil => simp
 | cons x v =>
  cases v with
  | nil => simp
  | cons y v => simp
theorem fn_ok (hm : P.follows .mixedOrders = true) {i : Nat} {s : Spec} {fn : Func} {root : Code} {F : FnC} {bs : List Blk} {st : St} {fuel k : Nat} (h : FnOk P specs T i s fn root F bs st fuel) (hp : pr i = none) (hS : ∀ j, j ≤ k → Sound P specs (run T pr j)) :
  FlatOk P (run T pr (k + 1) ⟨i, 0⟩) s := by
 intro w X xs args fargs L rs hfl hr hn hX hlt hrun
 have hrun' := hrun
 simp only [run, hp] at hrun'
 obtain ⟨pt, e1, e2⟩ : ∃ pt, comp P specs fn.ntmps F bs fuel true [.code [] root] st = some pt ∧ T ⟨i, 0⟩ = some pt := by
  cases h1 : comp P specs fn.ntmps F bs fuel true [.code [] root] st with
  | none => rw [h.entry, h1] at hrun'; cases hrun'
  | some pt => exact ⟨pt, rfl, by rw [h.entry, h1]⟩
 obtain ⟨μ, bvs, q1, q2, q3⟩ := entry_ok (N := fn.ntmps) (a := { tmps := args.toArray ++ Array.replicate (fn.ntmps - args.length) undef, defers := [] }) hfl h.hst h.hbps rfl hr hn hX hlt rfl h.hlen rfl
 have hd : pt.den (run T pr k) i xs = some rs := by
  simp only [run, hp, e2] at hrun; exact hrun
 have hE := comp_ok hm (hS k (Nat.le_refl k)) h.hrs q2 (blks_ok hm h hp q2 k hS) fuel true [.code [] root] st pt xs rs _ w μ e1 (by simp [PI.ok, codeAt]) q1 q3 hd
 refine .inl ⟨fn, h.hf, h.hname, by rw [h.hbody]; rfl, fun cs => ?_⟩
 let b : Frame := { (default : Frame) with fn := s.fn, kind := .normal }
 obtain ⟨a', w', t', v, r1, r2, r3, r4⟩ := hE b cs
 have henter : Frame.enter P s.fn args.toArray .normal = b.at { tmps := args.toArray ++ Array.replicate (fn.ntmps - args.length) undef, defers := [] } [.code root] := by
  simp [Frame.enter, Frame.at, h.hf, h.hbody, b]
 rw [h.hvars] at r3
 refine ⟨.returned (packed v), w', { b.at a' t' with mode := .returning }, ⟨packed v, rfl, r4⟩, ?_, rfl, rfl, r2, rfl, fn, h.hf, results_run r3⟩
 rw [henter]
 exact r1
theorem sound (hm : P.follows .mixedOrders = true) (h : ∀ i s, (i, s) ∈ specs → (∃ f, pr i = some f ∧ FlatOk P f s) ∨ (pr i = none ∧ ((∀ b, T ⟨i, b⟩ = none) ∨ ∃ fn root F bs st fuel, FnOk P specs T i s fn root F bs st fuel))) : ∀ k, Sound P specs (run T pr k) := by
 intro k
 induction k using Nat.strongRecOn with
 | _ k ih =>
  intro i s hmem w X xs args fargs L rs hfl hr hn hX hlt hrun
  cases k with
  | zero => simp [run] at hrun
  | succ k =>
   rcases h i s hmem with ⟨f, hf, hprim⟩ | ⟨hp, hno | ⟨fn, root, F, bs, st, fuel, hfn⟩⟩
   ·exact hprim w X xs args fargs L rs hfl hr hn hX hlt (by simpa only [run, hf] using hrun)
   ·simp only [run, hp, hno] at hrun
    cases hrun
   ·exact fn_ok hm hfn hp (fun j hj => ih j (by omega)) w X xs args fargs L rs hfl hr hn hX hlt hrun
end
end Go.CT
namespace Go.CT
section
variable {R R' : Job → List IV → Option (List IV)}
theorem PLet.ev_mono (h : ∀ j xs rs, R j xs = some rs → R' j xs = some rs) (ρ : List IV) : ∀ (l : PLet) (rs : List IV), l.ev R ρ = some rs → l.ev R' ρ = some rs
 | .prim _ _, _, e => e
 | .call s as n, rs, e => by
  simp only [PLet.ev, Option.bind_eq_some_iff] at e ⊢
  obtain ⟨ys, ⟨xs, h1, h2⟩, h3⟩ := e
  exact ⟨ys, ⟨xs, h1, h _ _ _ h2⟩, h3⟩
theorem GLet.ev_mono (h : ∀ j xs rs, R j xs = some rs → R' j xs = some rs) (ρ : List IV) (g : GLet) (rs : List IV) (e : g.ev R ρ = some rs) : g.ev R' ρ = some rs := by
 simp only [GLet.ev, Option.bind_eq_some_iff] at e ⊢
 obtain ⟨b, h1, h2⟩ := e
 refine ⟨b, h1, ?_⟩
 cases b with
 | false => exact h2
 | true => exact PLet.ev_mono h ρ _ _ h2
theorem PT.den_mono (h : ∀ j xs rs, R j xs = some rs → R' j xs = some rs) (s : Nat) : ∀ (pt : PT) (ρ rs : List IV), pt.den R s ρ = some rs → pt.den R' s ρ = some rs
 | .lets l k, ρ, rs, e => by
  simp only [PT.den, Option.bind_eq_some_iff] at e ⊢
  obtain ⟨xs, h1, h2⟩ := e
  exact ⟨xs, GLet.ev_mono h ρ l xs h1, den_mono h s k _ _ h2⟩
 | .ite c p q, ρ, rs, e => by
  simp only [PT.den] at e ⊢
  split
  ·rename_i hc; rw [hc] at e; exact den_mono h s p _ _ e
  ·rename_i hc; rw [hc] at e; exact den_mono h s q _ _ e
  ·rename_i h1 h2
   split at e
   ·exact absurd ‹_› h1
   ·exact absurd ‹_› h2
   ·exact e
 | .jump b as, ρ, rs, e => by
  simp only [PT.den, Option.bind_eq_some_iff] at e ⊢
  obtain ⟨xs, h1, h2⟩ := e
  exact ⟨xs, h1, h _ _ _ h2⟩
 | .ret as, ρ, rs, e => e
end
section
variable (T : Job → Option PT) (pr : Nat → Option (List IV → Option (List IV)))
theorem run_succ : ∀ (k : Nat) (j : Job) (xs rs : List IV), run T pr k j xs = some rs → run T pr (k + 1) j xs = some rs
 | 0, _, _, _, e => by simp [run] at e
 | k + 1, j, xs, rs, e => by
  rw [run] at e ⊢
  cases hp : pr j.spec with
  | some f => rw [hp] at e; exact e
  | none =>
   rw [hp] at e
   cases ht : T j with
   | none => rw [ht] at e; exact e
   | some pt => rw [ht] at e; exact PT.den_mono (run_succ k) _ pt _ _ e
theorem run_le {k k' : Nat} (hk : k ≤ k') (j : Job) (xs rs : List IV) (e : run T pr k j xs = some rs) : run T pr k' j xs = some rs := by
 induction hk with
 | refl => exact e
 | step _ ih => exact run_succ T pr _ j xs rs ih
open Classical in
noncomputable def V (j : Job) (xs : List IV) : Option (List IV) :=
 if h : ∃ rs, ∃ k, run T pr k j xs = some rs then some (Classical.choose h) else none
theorem V_some {j : Job} {xs rs : List IV} : V T pr j xs = some rs ↔ ∃ k, run T pr k j xs = some rs := by
 unfold V
 constructor
 ·intro h
  split at h
  ·rename_i hh
   have := Classical.choose_spec hh
   injection h with h
   rw [h] at this
   exact this
  ·cases h
 ·rintro ⟨k, hk⟩
  have hh : ∃ rs, ∃ k, run T pr k j xs = some rs := ⟨rs, k, hk⟩
  rw [dif_pos hh]
  obtain ⟨k', hk'⟩ := Classical.choose_spec hh
  have h1 := run_le T pr (Nat.le_max_left k k') j xs _ hk
  have h2 := run_le T pr (Nat.le_max_right k k') j xs _ hk'
  rw [h1] at h2
  exact h2.symm
theorem V_of_run (k : Nat) (j : Job) (xs rs : List IV) (h : run T pr k j xs = some rs) : V T pr j xs = some rs := (V_some T pr).2 ⟨k, h⟩
theorem PLet.ev_cont (ρ : List IV) : ∀ (l : PLet) (rs : List IV), l.ev (V T pr) ρ = some rs → ∃ k, l.ev (run T pr k) ρ = some rs
 | .prim _ _, _, e => ⟨0, e⟩
 | .call s as n, rs, e => by
  simp only [PLet.ev, Option.bind_eq_some_iff] at e ⊢
  obtain ⟨ys, ⟨xs, h1, h2⟩, h3⟩ := e
  obtain ⟨k, hk⟩ := (V_some T pr).1 h2
  exact ⟨k, ys, ⟨xs, h1, hk⟩, h3⟩
theorem GLet.ev_cont (ρ : List IV) (g : GLet) (rs : List IV) (e : g.ev (V T pr) ρ = some rs) : ∃ k, g.ev (run T pr k) ρ = some rs := by
 simp only [GLet.ev, Option.bind_eq_some_iff] at e ⊢
 obtain ⟨b, h1, h2⟩ := e
 cases b with
 | false => exact ⟨0, false, h1, h2⟩
 | true =>
  obtain ⟨k, hk⟩ := PLet.ev_cont T pr ρ _ _ h2
  exact ⟨k, true, h1, hk⟩
theorem PT.den_cont (s : Nat) : ∀ (pt : PT) (ρ rs : List IV), pt.den (V T pr) s ρ = some rs → ∃ k, pt.den (run T pr k) s ρ = some rs
 | .lets l k, ρ, rs, e => by
  simp only [PT.den, Option.bind_eq_some_iff] at e ⊢
  obtain ⟨xs, h1, h2⟩ := e
  obtain ⟨a, ha⟩ := GLet.ev_cont T pr ρ l xs h1
  obtain ⟨b, hb⟩ := den_cont s k _ _ h2
  exact ⟨max a b, xs, GLet.ev_mono (fun j xs rs => run_le T pr (Nat.le_max_left a b) j xs rs) ρ l xs ha, PT.den_mono (fun j xs rs => run_le T pr (Nat.le_max_right a b) j xs rs) s k _ _ hb⟩
 | .ite c p q, ρ, rs, e => by
  simp only [PT.den] at e ⊢
  split at e
  ·exact den_cont s p _ _ e
  ·exact den_cont s q _ _ e
  ·cases e
 | .jump b as, ρ, rs, e => by
  simp only [PT.den, Option.bind_eq_some_iff] at e ⊢
  obtain ⟨xs, h1, h2⟩ := e
  obtain ⟨k, hk⟩ := (V_some T pr).1 h2
  exact ⟨k, xs, h1, hk⟩
 | .ret as, ρ, rs, e => ⟨0, e⟩
theorem V_eq (j : Job) (xs : List IV) : V T pr j xs = match pr j.spec with | some f => f xs | none => match T j with | some pt => pt.den (V T pr) j.spec xs | none => none := by
 have key : ∀ rs, V T pr j xs = some rs ↔ (match pr j.spec with | some f => f xs | none => match T j with | some pt => pt.den (V T pr) j.spec xs | none => none) = some rs := by
  intro rs
  constructor
  ·intro h
   obtain ⟨k, hk⟩ := (V_some T pr).1 h
   cases k with
   | zero => simp [run] at hk
   | succ k =>
    rw [run] at hk
    cases hp : pr j.spec with
    | some f => simp only [hp] at hk ⊢; exact hk
    | none =>
     simp only [hp] at hk ⊢
     cases ht : T j with
     | none => rw [ht] at hk; exact hk
     | some pt => simp only [ht] at hk ⊢; exact PT.den_mono (fun j xs rs h => V_of_run T pr k j xs rs h) _ pt _ _ hk
  ·intro h
   refine (V_some T pr).2 ?_
   cases hp : pr j.spec with
   | some f =>
    simp only [hp] at h
    exact ⟨1, by rw [run, hp]; exact h⟩
   | none =>
    simp only [hp] at h
    cases ht : T j with
    | none => simp only [ht] at h; cases h
    | some pt =>
     simp only [ht] at h
     obtain ⟨k, hk⟩ := PT.den_cont T pr _ pt _ _ h
     exact ⟨k + 1, by rw [run, hp]; simp only [ht]; exact hk⟩
 generalize he : (match pr j.spec with | some f => f xs | none => match T j with | some pt => pt.den (V T pr) j.spec xs | none => none) = o at key
 cases o with
 | some rs => exact (key rs).2 rfl
 | none =>
  cases hv : V T pr j xs with
  | none => rfl
  | some rs => exact absurd ((key rs).1 hv) (by simp)
end
end Go.CT
namespace Go.CT
inductive SB where
 | done
 | prim (p : Prim) (args : List Arg) (k : SB)
 | call (s : Nat) (args : List Arg) (n : Nat) (k : SB)
 | sel (c : Arg) (w : Bool) (B : SB) (y x : Arg) (k : SB)
 deriving Inhabited
inductive ST where
 | ite (b : SB) (c : Arg) (p q : ST)
 | jump (b : SB) (j : Nat) (args : List Arg)
 | ret (b : SB) (args : List Arg)
 deriving Inhabited
def cnd {α : Type} (c : IV) (p q : Option α) : Option α :=
 match c with
 | .bool b => if b = true then p else q
 | _ => none
def Cur (β : Type) : Nat → Type
 | 0 => β
 | n + 1 => IV → Cur β n
def curry {β : Type} : (n : Nat) → (List IV → β) → Cur β n
 | 0, f => f []
 | n + 1, f => fun x => curry n fun xs => f (x :: xs)
def uncurry {β : Type} : (n : Nat) → Cur (Option β) n → List IV → Option β
 | 0 => fun f xs => match xs with | [] => f | _ :: _ => none
 | n + 1 => fun f xs => match xs with | [] => none | x :: xs => uncurry n (f x) xs
theorem uncurry_curry {β : Type} : ∀ (n : Nat) (f : List IV → Option β) (xs : List IV), uncurry n (curry n f) xs = if xs.length = n then f xs else none
 | 0, f, [] => rfl
 | 0, f, _ :: _ => by simp [uncurry]
 | n + 1, f, [] => by simp [uncurry]
 | n + 1, f, x :: xs => by
  simp only [List.length_cons, Nat.add_right_cancel_iff]
  exact uncurry_curry n (fun xs => f (x :: xs)) xs
def calls {β : Type} (o : Option (List IV)) (n : Nat) (f : Cur (Option β) n) : Option β := o.bind (uncurry n f)
def SB.runK (R : Job → List IV → Option (List IV)) : SB → {α : Type} → List IV → (List IV → Option α) → Option α
 | .done, _, σ, K => K σ
 | .prim p as k, _, σ, K => ((Arg.evs σ as).bind p.ev).bind fun x => k.runK R (σ ++ [x]) K
 | .call s as n k, _, σ, K => calls ((Arg.evs σ as).bind (R ⟨s, 0⟩)) n (curry n fun ys => k.runK R (σ ++ ys) K)
 | .sel c true B y x k, _, σ, K => ((c.ev σ).bind fun c => cnd c (B.runK R σ fun τ => y.ev τ) (x.ev σ)).bind fun v => k.runK R (σ ++ [v]) K
 | .sel c false B y x k, _, σ, K => ((c.ev σ).bind fun c => cnd c (x.ev σ) (B.runK R σ fun τ => y.ev τ)).bind fun v => k.runK R (σ ++ [v]) K
def ST.den (R : Job → List IV → Option (List IV)) (s : Nat) : ST → List IV → Option (List IV)
 | .ite b c p q, σ => b.runK R σ fun τ => (c.ev τ).bind fun c => cnd c (p.den R s τ) (q.den R s τ)
 | .jump b j as, σ => b.runK R σ fun τ => (Arg.evs τ as).bind (R ⟨s, j⟩)
 | .ret b as, σ => b.runK R σ fun τ => Arg.evs τ as
def mapArg (m : List (Option Arg)) : Arg → Option Arg
 | .v i => (m[i]?).join
 | .k c => some (.k c)
def mapArgs (m : List (Option Arg)) : List Arg → Option (List Arg)
 | [] => some []
 | a :: as => do
  let x ← mapArg m a
  let xs ← mapArgs m as
  pure (x :: xs)
def Prim.same : Prim → Prim → Bool
 | .proj a b c, .proj a' b' c' => a == a' && b == b' && c == c'
 | .index, .index | .len, .len | .slen, .slen | .sindex, .sindex | .mkagg, .mkagg => true
 | _, _ => false
def Arg.sames : List Arg → List Arg → Bool
 | [], [] => true
 | a :: as, b :: bs => a.same b && Arg.sames as bs
 | _, _ => false
structure Av where
 p : Prim
 as : List Arg
 a : Arg
def lookAv (p : Prim) (as : List Arg) : List Av → Option Arg
 | [] => none
 | e :: r => if e.p.same p && Arg.sames e.as as then some e.a else lookAv p as r
def lookMk (x : Arg) (i : Nat) : List Av → Option Arg
 | [] => none
 | e :: r => if Prim.mkagg.same e.p && e.a.same x then e.as[i]? else lookMk x i r
def look (p : Prim) (as : List Arg) (av : List Av) : Option Arg :=
 match lookAv p as av with
 | some a => some a
 | none =>
  match p, as with
  | .proj i 1 false, [x] => lookMk x i av
  | _, _ => none
def spanG (c : Arg) (w : Bool) : List GLet → List GLet × List GLet
 | [] => ([], [])
 | ⟨[], l⟩ :: ls => ([], ⟨[], l⟩ :: ls)
 | ⟨(c', w') :: gs, l⟩ :: ls =>
  if c.same c' && w == w' then
   let r := spanG c w ls
   (⟨gs, l⟩ :: r.1, r.2)
  else ([], ⟨(c', w') :: gs, l⟩ :: ls)
def arities : List GLet → Nat
 | [] => 0
 | g :: ls => g.l.arity + arities ls
def newArgs (n : Nat) : Nat → List (Option Arg)
 | 0 => []
 | k + 1 => some (.v n) :: newArgs (n + 1) k
structure TS where
 m : List (Option Arg)
 av : List Av
 n : Nat
def trL : Nat → List GLet → TS → Option (SB × TS)
 | 0, _, _ => none
 | _ + 1, [], s => some (.done, s)
 | f + 1, ⟨[], .prim p as⟩ :: ls, s =>
  match mapArgs s.m as with
  | none => none
  | some as' =>
   match look p as' s.av with
   | some a => trL f ls { s with m := s.m ++ [some a] }
   | none => (trL f ls ⟨s.m ++ [some (.v s.n)], ⟨p, as', .v s.n⟩ :: s.av, s.n + 1⟩).map fun r => (.prim p as' r.1, r.2)
 | f + 1, ⟨[], .call t as k⟩ :: ls, s =>
  match mapArgs s.m as with
  | none => none
  | some as' => (trL f ls ⟨s.m ++ newArgs s.n k, s.av, s.n + k⟩).map fun r => (.call t as' k r.1, r.2)
 | f + 1, ⟨(c, w) :: gs, l⟩ :: ls, s =>
  match (spanG c w (⟨(c, w) :: gs, l⟩ :: ls)).2 with
  | ⟨[], .prim .pick [c', x, y]⟩ :: rest =>
   if c.same c' then
    match mapArg s.m c, trL f (spanG c w (⟨(c, w) :: gs, l⟩ :: ls)).1 s, mapArg s.m (if w then y else x) with
    | some c1, some (B, sB), some xv =>
     match mapArg sB.m (if w then x else y) with
     | some yv => (trL f rest ⟨s.m ++ List.replicate (arities (spanG c w (⟨(c, w) :: gs, l⟩ :: ls)).1) none ++ [some (.v s.n)], s.av, s.n + 1⟩).map fun r => (.sel c1 w B yv xv r.1, r.2)
     | none => none
    | _, _, _ => none
   else none
  | _ => none
def trT (f : Nat) : PT → List GLet → TS → Option ST
 | .lets l k, acc, s => trT f k (acc ++ [l]) s
 | .ite c p q, acc, s =>
  match trL f acc s with
  | none => none
  | some (B, s') =>
   match mapArg s'.m c, trT f p [] s', trT f q [] s' with
   | some c', some p', some q' => some (.ite B c' p' q')
   | _, _, _ => none
 | .jump j as, acc, s =>
  match trL f acc s with
  | none => none
  | some (B, s') => (mapArgs s'.m as).map (.jump B j)
 | .ret as, acc, s =>
  match trL f acc s with
  | none => none
  | some (B, s') => (mapArgs s'.m as).map (.ret B)
def tr (n : Nat) (pt : PT) : Option ST := trT 5000 pt [] ⟨newArgs 0 n, [], n⟩
def runLets (R : Job → List IV → Option (List IV)) : List GLet → List IV → Option (List IV)
 | [], ρ => some ρ
 | g :: ls, ρ => (g.ev R ρ).bind fun xs => runLets R ls (ρ ++ xs)
theorem runLets_append (R : Job → List IV → Option (List IV)) : ∀ (as bs : List GLet) (ρ : List IV), runLets R (as ++ bs) ρ = (runLets R as ρ).bind (runLets R bs)
 | [], bs, ρ => rfl
 | a :: as, bs, ρ => by
  simp only [List.cons_append, runLets, Option.bind_assoc]
  congr 1
  funext xs
  exact runLets_append R as bs (ρ ++ xs)
theorem Arg.ev_append {a : Arg} {σ : List IV} {v : IV} (h : a.ev σ = some v) (ys : List IV) : a.ev (σ ++ ys) = some v := by
 cases a with
 | k c => exact h
 | v i =>
  simp only [Arg.ev] at h ⊢
  rw [List.getElem?_append_left (List.getElem?_eq_some_iff.1 h).1]
  exact h
theorem Arg.evs_append : ∀ {as : List Arg} {σ : List IV} {vs : List IV}, Arg.evs σ as = some vs → ∀ (ys : List IV), Arg.evs (σ ++ ys) as = some vs
 | [], σ, vs, h, ys => h
 | a :: as, σ, vs, h, ys => by
  simp only [Arg.evs, Option.bind_eq_bind, Option.bind_eq_some_iff, Option.pure_def, Option.some.injEq] at h ⊢
  obtain ⟨x, h1, xs, h2, h3⟩ := h
  exact ⟨x, Arg.ev_append h1 ys, xs, Arg.evs_append h2 ys, h3⟩
structure MapOk (m : List (Option Arg)) (ρ σ : List IV) : Prop where
 len : m.length = ρ.length
 val : ∀ (i : Nat) (a : Arg), m[i]? = some (some a) → ∃ v, ρ[i]? = some v ∧ a.ev σ = some v
def AvOk (av : List Av) (σ : List IV) : Prop := ∀ e ∈ av, ∃ v, (Arg.evs σ e.as).bind e.p.ev = some v ∧ e.a.ev σ = some v
structure TSOk (s : TS) (ρ σ : List IV) : Prop where
 mp : MapOk s.m ρ σ
 av : AvOk s.av σ
 n : σ.length = s.n
theorem MapOk.arg {m : List (Option Arg)} {ρ σ : List IV} (h : MapOk m ρ σ) {a a' : Arg} (e : mapArg m a = some a') : a'.ev σ = a.ev ρ := by
 cases a with
 | k c => simp [mapArg] at e; subst e; rfl
 | v i =>
  simp only [mapArg, Option.join_eq_some_iff] at e
  obtain ⟨v, h1, h2⟩ := h.val i a' e
  rw [h2]; exact h1.symm
theorem MapOk.args {m : List (Option Arg)} {ρ σ : List IV} (h : MapOk m ρ σ) : ∀ {as as' : List Arg}, mapArgs m as = some as' → Arg.evs σ as' = Arg.evs ρ as
 | [], as', e => by simp [mapArgs] at e; subst e; rfl
 | a :: as, as', e => by
  simp only [mapArgs, Option.bind_eq_bind, Option.bind_eq_some_iff, Option.pure_def, Option.some.injEq] at e
  obtain ⟨x, h1, xs, h2, rfl⟩ := e
  simp only [Arg.evs]
  rw [h.arg h1, h.args h2]
theorem MapOk.ext {m : List (Option Arg)} {ρ σ : List IV} (h : MapOk m ρ σ) (ms : List (Option Arg)) (xs ys : List IV) (hl : ms.length = xs.length) (hv : ∀ (i : Nat) (a : Arg), ms[i]? = some (some a) → ∃ v, xs[i]? = some v ∧ a.ev (σ ++ ys) = some v) : MapOk (m ++ ms) (ρ ++ xs) (σ ++ ys) := by
 refine ⟨by simp [h.len, hl], fun i a e => ?_⟩
 by_cases hi : i < m.length
 ·rw [List.getElem?_append_left hi] at e
  obtain ⟨v, h1, h2⟩ := h.val i a e
  exact ⟨v, by rw [List.getElem?_append_left (by rw [← h.len]; exact hi)]; exact h1, Arg.ev_append h2 ys⟩
 ·rw [List.getElem?_append_right (by omega)] at e
  obtain ⟨v, h1, h2⟩ := hv _ _ e
  refine ⟨v, ?_, h2⟩
  rw [List.getElem?_append_right (by rw [← h.len]; omega), ← h.len]; exact h1
theorem AvOk.ext {av : List Av} {σ : List IV} (h : AvOk av σ) (ys : List IV) : AvOk av (σ ++ ys) := fun e he => by
 obtain ⟨v, h1, h2⟩ := h e he
 refine ⟨v, ?_, Arg.ev_append h2 ys⟩
 rw [Option.bind_eq_some_iff] at h1 ⊢
 obtain ⟨xs, h3, h4⟩ := h1
 exact ⟨xs, Arg.evs_append h3 ys, h4⟩
theorem newArgs_get : ∀ (k n i : Nat), (newArgs n k)[i]? = if i < k then some (some (.v (n + i))) else none
 | 0, n, i => by simp [newArgs]
 | k + 1, n, 0 => by simp [newArgs]
 | k + 1, n, i + 1 => by
  simp only [newArgs, List.getElem?_cons_succ]
  rw [newArgs_get k (n + 1) i]
  simp only [Nat.add_lt_add_iff_right, Nat.add_assoc, Nat.add_comm 1 i]
theorem newArgs_len : ∀ (k n : Nat), (newArgs n k).length = k
 | 0, _ => rfl
 | k + 1, n => by simp [newArgs, newArgs_len k]
theorem TSOk.grow {s : TS} {ρ σ : List IV} (h : TSOk s ρ σ) (xs : List IV) : TSOk ⟨s.m ++ newArgs s.n xs.length, s.av, s.n + xs.length⟩ (ρ ++ xs) (σ ++ xs) := by
 refine ⟨h.mp.ext _ _ _ (by simp [newArgs_len]) (fun i a e => ?_), h.av.ext _, by simp [h.n]⟩
 rw [newArgs_get] at e
 split at e
 ·rename_i hi
  simp only [Option.some.injEq] at e
  subst e
  refine ⟨xs[i], by simp [hi], ?_⟩
  simp only [Arg.ev]
  rw [List.getElem?_append_right (by rw [h.n]; omega), h.n]
  simp [hi]
 ·cases e
theorem Arg.same_eq {a b : Arg} (h : a.same b = true) : a = b := by
 unfold Arg.same at h
 split at h <;> simp_all
theorem Arg.sames_eq : ∀ {as bs : List Arg}, Arg.sames as bs = true → as = bs
 | [], [], _ => rfl
 | a :: as, b :: bs, h => by
  simp only [Arg.sames, Bool.and_eq_true] at h
  rw [Arg.same_eq h.1, Arg.sames_eq h.2]
 | [], _ :: _, h => by simp [Arg.sames] at h
 | _ :: _, [], h => by simp [Arg.sames] at h
theorem Prim.same_eq {p q : Prim} (h : p.same q = true) : p = q := by
 unfold Prim.same at h
 split at h <;> simp_all
theorem evs_at : ∀ {as : List Arg} {σ : List IV} {xs : List IV}, Arg.evs σ as = some xs → ∀ (i : Nat) (a : Arg), as[i]? = some a → ∃ v, xs[i]? = some v ∧ a.ev σ = some v
 | [], σ, xs, h, i, a, e => by simp at e
 | b :: as, σ, xs, h, i, a, e => by
  simp only [Arg.evs, Option.bind_eq_bind, Option.bind_eq_some_iff, Option.pure_def, Option.some.injEq] at h
  obtain ⟨x, h1, ys, h2, rfl⟩ := h
  cases i with
  | zero => simp at e; subst e; exact ⟨x, by simp, h1⟩
  | succ i =>
   simp only [List.getElem?_cons_succ] at e ⊢
   exact evs_at h2 i a e
theorem lookAv_ok {p : Prim} {as : List Arg} {a : Arg} {σ : List IV} : ∀ {av : List Av}, AvOk av σ → lookAv p as av = some a → ∃ v, (Arg.evs σ as).bind p.ev = some v ∧ a.ev σ = some v
 | [], _, h => by simp [lookAv] at h
 | e :: r, hav, h => by
  simp only [lookAv] at h
  split at h
  ·rename_i hs
   rw [Bool.and_eq_true] at hs
   injection h with h
   subst h
   rw [← Prim.same_eq hs.1, ← Arg.sames_eq hs.2]
   exact hav e (by simp)
  ·exact lookAv_ok (fun e he => hav e (by simp [he])) h
theorem lookMk_ok {x : Arg} {i : Nat} {a : Arg} {σ : List IV} : ∀ {av : List Av}, AvOk av σ → lookMk x i av = some a → ∃ v, (Arg.evs σ [x]).bind (Prim.proj i 1 false).ev = some v ∧ a.ev σ = some v
 | [], _, h => by simp [lookMk] at h
 | e :: r, hav, h => by
  simp only [lookMk] at h
  split at h
  ·rename_i hs
   rw [Bool.and_eq_true] at hs
   obtain ⟨v, h1, h2⟩ := hav e (by simp)
   rw [← Prim.same_eq hs.1, Option.bind_eq_some_iff] at h1
   obtain ⟨xs, h3, h4⟩ := h1
   simp only [Prim.ev, Option.some.injEq] at h4
   obtain ⟨u, h5, h6⟩ := evs_at h3 i a h
   refine ⟨u, ?_, h6⟩
   rw [← Arg.same_eq hs.2]
   simp [Arg.evs, h2, ← h4, Prim.ev, h5]
  ·exact lookMk_ok (fun e he => hav e (by simp [he])) h
theorem look_ok {p : Prim} {as : List Arg} {a : Arg} {σ : List IV} {av : List Av} (hav : AvOk av σ) (h : look p as av = some a) : ∃ v, (Arg.evs σ as).bind p.ev = some v ∧ a.ev σ = some v := by
 unfold look at h
 split at h
 ·rename_i h1
  injection h with h
  subst h
  exact lookAv_ok hav h1
 ·split at h
  ·exact lookMk_ok hav h
  ·cases h
theorem spanG_ok (R : Job → List IV → Option (List IV)) (c : Arg) (w : Bool) : ∀ (ls : List GLet) (ρ : List IV), (∀ b, c.ev ρ = some (.bool b) →
  runLets R ls ρ = (runLets R (if b = w then (spanG c w ls).1 else []) ρ).bind fun ρ' => runLets R (spanG c w ls).2 (if b = w then ρ' else ρ ++ List.replicate (arities (spanG c w ls).1) .junk))
 | [], ρ, b, hc => by
  by_cases hb : b = w <;> simp [spanG, runLets, arities, hb]
 | ⟨[], l⟩ :: ls, ρ, b, hc => by
  by_cases hb : b = w <;> simp [spanG, runLets, arities, hb]
 | ⟨(c', w') :: gs, l⟩ :: ls, ρ, b, hc => by
  by_cases hs : (c.same c' && w == w') = true
  ·have hs' := hs
   rw [Bool.and_eq_true, beq_iff_eq] at hs'
   have e1 := Arg.same_eq hs'.1
   obtain ⟨_, e2⟩ := hs'
   subst e1 e2
   simp only [spanG, hs, if_true]
   by_cases hb : b = w
   ·have ih := fun xs => spanG_ok R c w ls (ρ ++ xs) b (Arg.ev_append hc xs)
    simp only [hb, if_true] at ih ⊢
    simp only [runLets, GLet.ev, CT.holds, hc, hb, if_true, Option.bind_assoc]
    congr 1
    funext g
    congr 1
    funext xs
    exact ih xs
   ·have ih := spanG_ok R c w ls (ρ ++ List.replicate l.arity .junk) b (Arg.ev_append hc _)
    simp only [hb, if_false, runLets, Option.bind_some] at ih ⊢
    simp only [GLet.ev, CT.holds, hc, hb, if_false, Option.bind_some, Bool.false_eq_true, arities]
    rw [ih, List.append_assoc, List.replicate_append_replicate]
  ·simp only [spanG, hs, if_false, Bool.false_eq_true]
   by_cases hb : b = w <;> simp [arities, runLets, hb]
theorem spanG_none (R : Job → List IV → Option (List IV)) {c : Arg} {w : Bool} {gs : List (Arg × Bool)} {l : PLet} {ls : List GLet} {ρ : List IV} (hc : ∀ b, c.ev ρ ≠ some (.bool b)) : runLets R (⟨(c, w) :: gs, l⟩ :: ls) ρ = none := by
 have : CT.holds ρ ((c, w) :: gs) = none := by
  simp only [CT.holds]
 simp [runLets, GLet.ev, this]
theorem runK_none_cnd {α : Type} (R : Job → List IV → Option (List IV)) {c : Arg} {w : Bool} {B k : SB} {y x : Arg} {σ : List IV} {K : List IV → Option α} (hc : ∀ b, c.ev σ ≠ some (.bool b)) : (SB.sel c w B y x k).runK R σ K = none := by
 have : ∀ (p q : Option IV), ((c.ev σ).bind fun c => cnd c p q) = none := by
  intro p q
  cases h : c.ev σ with
  | none => rfl
  | some v =>
   cases v with
   | bool b => exact absurd h (hc b)
   | _ => rfl
 cases w <;> simp only [SB.runK, this, Option.bind_none]
theorem SB.runK_sel {α : Type} (R : Job → List IV → Option (List IV)) {c : Arg} {w b : Bool} {B k : SB} {y x : Arg} {σ : List IV} {K : List IV → Option α} (hc : c.ev σ = some (.bool b)) :
  (SB.sel c w B y x k).runK R σ K = (if b = w then B.runK R σ fun τ => y.ev τ else x.ev σ).bind fun v => k.runK R (σ ++ [v]) K := by
 cases w <;> cases b <;> simp [SB.runK, hc, cnd]
theorem SB.runK_bind (R : Job → List IV → Option (List IV)) : ∀ (B : SB) {α β : Type} (σ : List IV) (K : List IV → Option α) (f : α → Option β), (B.runK R σ K).bind f = B.runK R σ fun τ => (K τ).bind f
 | .done, _, _, σ, K, f => rfl
 | .prim p as k, _, _, σ, K, f => by
  simp only [SB.runK, Option.bind_assoc]
  congr 1; funext v; congr 1; funext x
  exact runK_bind R k _ K f
 | .call s as n k, _, _, σ, K, f => by
  simp only [SB.runK, calls, Option.bind_assoc]
  congr 1; funext v; congr 1; funext xs
  rw [uncurry_curry, uncurry_curry]
  split
  ·exact runK_bind R k _ K f
  ·rfl
 | .sel c true B y x k, _, _, σ, K, f => by
  simp only [SB.runK, Option.bind_assoc]
  congr 1; funext v; congr 1; funext u
  exact runK_bind R k _ K f
 | .sel c false B y x k, _, _, σ, K, f => by
  simp only [SB.runK, Option.bind_assoc]
  congr 1; funext v; congr 1; funext u
  exact runK_bind R k _ K f
theorem MapOk.arg_some {m : List (Option Arg)} {ρ σ : List IV} (h : MapOk m ρ σ) {a a' : Arg} (e : mapArg m a = some a') : ∃ v, a.ev ρ = some v ∧ a'.ev σ = some v := by
 cases a with
 | k c => simp [mapArg] at e; subst e; exact ⟨c, rfl, rfl⟩
 | v i =>
  simp only [mapArg, Option.join_eq_some_iff] at e
  exact h.val i a' e
theorem spanG_ar (c : Arg) (w : Bool) : ∀ (ls : List GLet), arities ls = arities (spanG c w ls).1 + arities (spanG c w ls).2
 | [] => rfl
 | ⟨[], l⟩ :: ls => by simp [spanG, arities]
 | ⟨(c', w') :: gs, l⟩ :: ls => by
  simp only [spanG]
  split
  ·simp only [arities]
   rw [spanG_ar c w ls]
   omega
  ·simp [arities]
theorem trL_len : ∀ (f : Nat) (ls : List GLet) (s : TS) (B : SB) (s' : TS), trL f ls s = some (B, s') → s'.m.length = s.m.length + arities ls
 | 0, _, _, _, _, e => by simp [trL] at e
 | f + 1, [], s, B, s', e => by
  simp only [trL, Option.some.injEq, Prod.mk.injEq] at e
  rw [← e.2]; rfl
 | f + 1, ⟨[], .prim p as⟩ :: ls, s, B, s', e => by
  simp only [trL] at e
  split at e
  ·cases e
  split at e
  ·have := trL_len f _ _ _ _ e
   simp [arities, PLet.arity] at this ⊢; omega
  ·simp only [Option.map_eq_some_iff] at e
   obtain ⟨⟨B1, s1⟩, e1, e2⟩ := e
   simp only [Prod.mk.injEq] at e2
   obtain ⟨rfl, rfl⟩ := e2
   have := trL_len f _ _ _ _ e1
   simp [arities, PLet.arity] at this ⊢; omega
 | f + 1, ⟨[], .call t as k⟩ :: ls, s, B, s', e => by
  simp only [trL] at e
  split at e
  ·cases e
  simp only [Option.map_eq_some_iff] at e
  obtain ⟨⟨B1, s1⟩, e1, e2⟩ := e
  simp only [Prod.mk.injEq] at e2
  obtain ⟨rfl, rfl⟩ := e2
  have := trL_len f _ _ _ _ e1
  simp [arities, PLet.arity, newArgs_len] at this ⊢; omega
 | f + 1, ⟨(c, w) :: gs, l⟩ :: ls, s, B, s', e => by
  simp only [trL] at e
  split at e
  rotate_left
  ·cases e
  rename_i c' x y rest hrest
  split at e
  rotate_left
  ·cases e
  split at e
  rotate_left
  ·cases e
  split at e
  rotate_left
  ·cases e
  simp only [Option.map_eq_some_iff] at e
  obtain ⟨⟨B2, s2⟩, e1, e2⟩ := e
  simp only [Prod.mk.injEq] at e2
  obtain ⟨rfl, rfl⟩ := e2
  have := trL_len f _ _ _ _ e1
  rw [spanG_ar c w, hrest]
  simp [arities, PLet.arity] at this ⊢; omega
theorem trL_ok (R : Job → List IV → Option (List IV)) : ∀ (f : Nat) (ls : List GLet) (s : TS) (B : SB) (s' : TS), trL f ls s = some (B, s') → ∀ (ρ σ : List IV), TSOk s ρ σ →
  ∀ {α : Type} (K K' : List IV → Option α), (∀ xs ys, xs.length = arities ls → TSOk s' (ρ ++ xs) (σ ++ ys) → K (ρ ++ xs) = K' (σ ++ ys)) → (runLets R ls ρ).bind K = B.runK R σ K'
 | 0, _, _, _, _, e, _, _, _, _, _, _, _ => by simp [trL] at e
 | f + 1, [], s, B, s', e, ρ, σ, h, α, K, K', hK => by
  simp only [trL, Option.some.injEq, Prod.mk.injEq] at e
  obtain ⟨rfl, rfl⟩ := e
  have := hK [] [] rfl (by simpa using h)
  simpa [runLets, SB.runK] using this
 | f + 1, ⟨[], .prim p as⟩ :: ls, s, B, s', e, ρ, σ, h, α, K, K', hK => by
  simp only [trL] at e
  split at e
  ·cases e
  rename_i as' has
  have hev := h.mp.args has
  have hrun : runLets R (⟨[], .prim p as⟩ :: ls) ρ = ((Arg.evs σ as').bind p.ev).bind fun x => runLets R ls (ρ ++ [x]) := by
   simp only [runLets, GLet.ev, CT.holds, Option.bind_some, if_true, PLet.ev, hev]
   cases (Arg.evs ρ as).bind p.ev <;> rfl
  rw [hrun, Option.bind_assoc]
  split at e
  ·rename_i a ha
   obtain ⟨v, h1, h2⟩ := look_ok h.av ha
   rw [h1, Option.bind_some]
   refine trL_ok R f ls _ B s' e (ρ ++ [v]) σ ⟨?_, h.av, h.n⟩ K K' (fun xs ys hl hh => ?_)
   ·have := h.mp.ext [some a] [v] [] rfl (fun i a' hi => by
     cases i with
     | zero => simp at hi; subst hi; exact ⟨v, by simp, by simpa using h2⟩
     | succ i => simp at hi)
    simpa using this
   ·have := hK ([v] ++ xs) ys (by simp [arities, PLet.arity, hl]; omega) (by rw [← List.append_assoc]; exact hh)
    rwa [← List.append_assoc] at this
  ·simp only [Option.map_eq_some_iff] at e
   obtain ⟨⟨B1, s1⟩, e1, e2⟩ := e
   simp only [Prod.mk.injEq] at e2
   obtain ⟨rfl, rfl⟩ := e2
   simp only [SB.runK]
   cases hv : (Arg.evs σ as').bind p.ev with
   | none => rfl
   | some v =>
    simp only [Option.bind_some]
    refine trL_ok R f ls _ B1 s1 e1 (ρ ++ [v]) (σ ++ [v]) ⟨(h.grow [v]).mp, ?_, (h.grow [v]).n⟩ K K' (fun xs ys hl hh => ?_)
    ·intro e he
     rcases List.mem_cons.1 he with rfl | he
     ·refine ⟨v, ?_, by simp [Arg.ev, ← h.n]⟩
      rw [Option.bind_eq_some_iff] at hv ⊢
      obtain ⟨xs, h3, h4⟩ := hv
      exact ⟨xs, Arg.evs_append h3 _, h4⟩
     ·exact h.av.ext [v] e he
    ·have := hK ([v] ++ xs) ([v] ++ ys) (by simp [arities, PLet.arity, hl]; omega) (by rw [← List.append_assoc, ← List.append_assoc]; exact hh)
     rwa [← List.append_assoc, ← List.append_assoc] at this
 | f + 1, ⟨[], .call t as k⟩ :: ls, s, B, s', e, ρ, σ, h, α, K, K', hK => by
  simp only [trL] at e
  split at e
  ·cases e
  rename_i as' has
  have hev := h.mp.args has
  simp only [Option.map_eq_some_iff] at e
  obtain ⟨⟨B1, s1⟩, e1, e2⟩ := e
  simp only [Prod.mk.injEq] at e2
  obtain ⟨rfl, rfl⟩ := e2
  simp only [SB.runK, calls, runLets, GLet.ev, CT.holds, Option.bind_some, if_true, PLet.ev, hev, Option.bind_assoc]
  congr 1; funext vs; congr 1; funext ys
  rw [uncurry_curry]
  by_cases hl : ys.length = k
  ·subst hl
   simp only [if_true, Option.bind_some]
   refine trL_ok R f ls _ B1 s1 e1 (ρ ++ ys) (σ ++ ys) (h.grow ys) K K' (fun xs zs hl hh => ?_)
   have := hK (ys ++ xs) (ys ++ zs) (by simp [arities, PLet.arity, hl]) (by rw [← List.append_assoc, ← List.append_assoc]; exact hh)
   rwa [← List.append_assoc, ← List.append_assoc] at this
  ·simp [hl]
 | f + 1, ⟨(c, w) :: gs, l⟩ :: ls, s, B, s', e, ρ, σ, h, α, K, K', hK => by
  simp only [trL] at e
  split at e
  rotate_left
  ·cases e
  rename_i c' x y rest hrest
  split at e
  rotate_left
  ·cases e
  rename_i hcc
  have hcc := Arg.same_eq hcc
  subst hcc
  split at e
  rotate_left
  ·cases e
  rename_i c1 B1 sB xv hc1 hB hxv
  split at e
  rotate_left
  ·cases e
  rename_i yv hyv
  simp only [Option.map_eq_some_iff] at e
  obtain ⟨⟨B2, s2⟩, e1, e2⟩ := e
  simp only [Prod.mk.injEq] at e2
  obtain ⟨rfl, rfl⟩ := e2
  have hce := h.mp.arg hc1
  have hxe := h.mp.arg hxv
  by_cases hb : ∃ b, c.ev ρ = some (.bool b)
  rotate_left
  ·rw [spanG_none R (fun b hc => hb ⟨b, hc⟩), runK_none_cnd R (fun b hc => hb ⟨b, by rw [← hce]; exact hc⟩)]
   rfl
  obtain ⟨b, hb⟩ := hb
  rw [spanG_ok R c w _ ρ b hb, SB.runK_sel R (hce.trans hb), hrest]
  -- what follows the choice
  have next : ∀ (js : List IV) (v : IV), js.length = arities (spanG c w (⟨(c, w) :: gs, l⟩ :: ls)).1 → (runLets R rest (ρ ++ js ++ [v])).bind K = B2.runK R (σ ++ [v]) K' := by
   intro js v hjs
   refine trL_ok R f rest _ B2 s2 e1 (ρ ++ js ++ [v]) (σ ++ [v]) ⟨?_, h.av.ext _, by simp [h.n]⟩ K K' (fun xs ys hl hh => ?_)
   ·have := h.mp.ext (List.replicate (arities (spanG c w (⟨(c, w) :: gs, l⟩ :: ls)).1) none ++ [some (.v s.n)]) (js ++ [v]) [v] (by simp [hjs]) (fun i a hi => by
     by_cases hi' : i < js.length
     ·rw [List.getElem?_append_left (by simp [← hjs, hi']), List.getElem?_replicate] at hi
      split at hi <;> simp at hi
     ·rw [List.getElem?_append_right (by simp [← hjs]; omega)] at hi
      simp only [List.length_replicate, ← hjs] at hi
      cases hq : i - js.length with
      | zero =>
       rw [hq] at hi
       simp at hi
       subst hi
       refine ⟨v, ?_, by simp [Arg.ev, ← h.n]⟩
       rw [List.getElem?_append_right (by omega), hq]; rfl
      | succ q => rw [hq] at hi; simp at hi)
    rw [List.append_assoc, List.append_assoc]; exact this
   ·have := hK (js ++ [v] ++ xs) ([v] ++ ys) (by rw [spanG_ar c w, hrest]; simp [arities, PLet.arity, hl, hjs]; omega) (by simpa using hh)
    simpa using this
  have pickE : ∀ (ρ' : List IV), c.ev ρ' = some (.bool b) → ∀ K2 : List IV → Option α, (runLets R (⟨[], .prim .pick [c, x, y]⟩ :: rest) ρ').bind K2 = ((x.ev ρ').bind fun xv => (y.ev ρ').bind fun yv => some (if b then xv else yv)).bind fun v => (runLets R rest (ρ' ++ [v])).bind K2 := by
   intro ρ' hc K2
   simp only [runLets, GLet.ev, CT.holds, Option.bind_some, if_true, PLet.ev, Arg.evs, hc, Option.bind_eq_bind, Option.pure_def]
   cases x.ev ρ' with
   | none => rfl
   | some xv =>
    cases y.ev ρ' with
    | none => rfl
    | some yv => rfl
  by_cases hw : b = w
  ·subst hw
   simp only [if_true]
   rw [Option.bind_assoc, SB.runK_bind]
   refine trL_ok R f _ s B1 sB hB ρ σ h _ _ (fun xs ys hl hh => ?_)
   obtain ⟨v, h1, h2⟩ := hh.mp.arg_some hyv
   obtain ⟨u, h3, _⟩ := h.mp.arg_some hxv
   have h3 := Arg.ev_append h3 xs
   rw [pickE _ (Arg.ev_append hb xs), h2, Option.bind_some, ← next xs v hl]
   cases b <;> simp_all
  ·simp only [hw, if_false]
   rw [runLets, Option.bind_some]
   rw [pickE _ (Arg.ev_append hb _)]
   obtain ⟨u, h3, h4⟩ := h.mp.arg_some hxv
   have h3 := Arg.ev_append h3 (List.replicate (arities (spanG c w (⟨(c, w) :: gs, l⟩ :: ls)).1) IV.junk)
   have hlen := trL_len f _ _ _ _ hB
   have : ∃ v, (if w then x else y).ev (ρ ++ List.replicate (arities (spanG c w (⟨(c, w) :: gs, l⟩ :: ls)).1) IV.junk) = some v := by
    generalize (if w then x else y) = a at hyv
    cases a with
    | k c => exact ⟨c, rfl⟩
    | v i =>
     simp only [mapArg, Option.join_eq_some_iff] at hyv
     have := (List.getElem?_eq_some_iff.1 hyv).1
     simp only [Arg.ev]
     rw [hlen, h.mp.len] at this
     exact ⟨_, List.getElem?_eq_getElem (by simpa using this)⟩
   obtain ⟨v, h5⟩ := this
   rw [h4, Option.bind_some, ← next (List.replicate _ IV.junk) u List.length_replicate]
   cases b <;> cases w <;> first
    | exact absurd rfl hw
    | (simp only [if_true, if_false, Bool.false_eq_true] at h3 h5 ⊢; simp only [h3, h5, Option.bind_some])
theorem trT_ok (R : Job → List IV → Option (List IV)) (s : Nat) (f : Nat) : ∀ (pt : PT) (acc : List GLet) (t : TS) (st : ST), trT f pt acc t = some st → ∀ (ρ σ : List IV), TSOk t ρ σ →
  ((runLets R acc ρ).bind fun ρ' => pt.den R s ρ') = st.den R s σ
 | .lets l k, acc, t, st, e, ρ, σ, h => by
  have ih := trT_ok R s f k (acc ++ [l]) t st e ρ σ h
  rw [← ih, runLets_append, Option.bind_assoc]
  congr 1; funext ρ'
  simp only [PT.den, runLets, Option.bind_assoc]
  rfl
 | .ite c p q, acc, t, st, e, ρ, σ, h => by
  simp only [trT] at e
  split at e
  ·cases e
  rename_i B s' hB
  split at e
  rotate_left
  ·cases e
  rename_i c' p' q' hc hp hq
  injection e with e
  subst e
  simp only [ST.den]
  refine trL_ok R f acc t B s' hB ρ σ h _ _ (fun xs ys _ hh => ?_)
  have ihp := trT_ok R s f p [] s' p' hp _ _ hh
  have ihq := trT_ok R s f q [] s' q' hq _ _ hh
  simp only [runLets, Option.bind_some] at ihp ihq
  rw [← ihp, ← ihq, hh.mp.arg hc]
  simp only [PT.den]
  cases hv : c.ev (ρ ++ xs) with
  | none => rfl
  | some v =>
   cases v with
   | bool b => cases b <;> rfl
   | _ => rfl
 | .jump j as, acc, t, st, e, ρ, σ, h => by
  simp only [trT] at e
  split at e
  ·cases e
  rename_i B s' hB
  simp only [Option.map_eq_some_iff] at e
  obtain ⟨as', ha, rfl⟩ := e
  simp only [ST.den]
  refine trL_ok R f acc t B s' hB ρ σ h _ _ (fun xs ys _ hh => ?_)
  rw [hh.mp.args ha]; rfl
 | .ret as, acc, t, st, e, ρ, σ, h => by
  simp only [trT] at e
  split at e
  ·cases e
  rename_i B s' hB
  simp only [Option.map_eq_some_iff] at e
  obtain ⟨as', ha, rfl⟩ := e
  simp only [ST.den]
  refine trL_ok R f acc t B s' hB ρ σ h _ _ (fun xs ys _ hh => ?_)
  rw [hh.mp.args ha]; rfl
theorem tr_ok {R : Job → List IV → Option (List IV)} {s : Nat} {pt : PT} {st : ST} {xs : List IV} (h : tr xs.length pt = some st) : pt.den R s xs = st.den R s xs := by
 have := trT_ok R s 5000 pt [] _ st h xs xs ⟨⟨by simp [newArgs_len], fun i a e => by
  rw [newArgs_get] at e
  split at e
  ·simp only [Option.some.injEq] at e
   subst e
   rename_i hi
   exact ⟨xs[i], by simp [hi], by simp [Arg.ev, hi]⟩
  ·cases e⟩, fun e he => by simp at he, rfl⟩
 simpa [runLets] using this
end Go.CT
namespace Go.CT
def lookS (i : Nat) : List (Nat × Spec) → Option Spec
 | [] => none
 | (k, s) :: r => if k == i then some s else lookS i r
section
variable (P : Program)
structure EntD where
 fn : Func
 root : Code
 st : St
 bks : List Nat
def entOf (s : Spec) : Option EntD :=
 match P.funcs[s.fn]? with
 | none => none
 | some fn =>
  match fn.body with
  | none => none
  | some root =>
   match entrySt P s.params with
   | some r => if r.1.tm.length ≤ fn.ntmps then some ⟨fn, root, r.1, r.2⟩ else none
   | none => none
def tab (specs : List (Nat × Spec)) (blks : Nat → List Blk) (fuel : Nat) (j : Job) : Option PT :=
 match lookS j.spec specs with
 | none => none
 | some s =>
  match entOf P s with
  | none => none
  | some e =>
   match j.blk with
   | 0 => comp P specs e.fn.ntmps ⟨s.results, e.fn.results.toList, s.params.filter PS.isBack, e.bks⟩ (blks j.spec) fuel true [.code [] e.root] e.st
   | n + 1 =>
    match (blks j.spec)[n]? with
    | none => none
    | some b => (todoOf e.root b.key).bind fun todo => comp P specs e.fn.ntmps ⟨s.results, e.fn.results.toList, s.params.filter PS.isBack, e.bks⟩ (blks j.spec) fuel true todo b.st
def numbersOk : List (Nat × Spec) → Bool
 | [] => true
 | (k, _) :: r => r.all (fun q => q.1 != k) && numbersOk r
def namesOk (specs : List (Nat × Spec)) : Bool := specs.all fun q => match P.funcs[q.2.fn]? with | some fn => !(fn.name == "runtime.NumGoroutine") | none => true
end
theorem lookS_mem {i : Nat} {s : Spec} : ∀ {specs : List (Nat × Spec)}, numbersOk specs = true → (i, s) ∈ specs → lookS i specs = some s
 | [], _, h => by cases h
 | (k, s') :: r, hn, h => by
  simp only [numbersOk, Bool.and_eq_true, List.all_eq_true, bne_iff_ne] at hn
  simp only [lookS]
  rcases List.mem_cons.1 h with e | h
  ·injection e with e1 e2
   subst e1 e2
   simp
  ·have : ¬ k = i := fun e => hn.1 _ h e.symm
   simp [this, lookS_mem hn.2 h]
theorem mem_of_lookS {i : Nat} {s : Spec} : ∀ {specs : List (Nat × Spec)}, lookS i specs = some s → (i, s) ∈ specs
 | [], h => by cases h
 | (k, s') :: r, h => by
  simp only [lookS] at h
  split at h
  ·rename_i e
   simp only [beq_iff_eq] at e
   injection h with h
   subst e h
   simp
  ·exact List.mem_cons_of_mem _ (mem_of_lookS h)
theorem sound_tab {P : Program} {specs : List (Nat × Spec)} {blks : Nat → List Blk} {fuel : Nat} {pr : Nat → Option (List IV → Option (List IV))} (hm : P.follows .mixedOrders = true) (hn : numbersOk specs = true) (hnm : namesOk P specs = true)
  (hpr : ∀ i s f, (i, s) ∈ specs → pr i = some f → FlatOk P f s) : ∀ k, Sound P specs (run (tab P specs blks fuel) pr k) := by
 refine sound hm fun i s hmem => ?_
 cases hp : pr i with
 | some f => exact .inl ⟨f, rfl, hpr i s f hmem hp⟩
 | none =>
  refine .inr ⟨rfl, ?_⟩
  have hl := lookS_mem hn hmem
  cases he : entOf P s with
  | none => exact .inl fun b => by simp only [tab, hl, he]
  | some e =>
   have he' := he
   unfold entOf at he
   split at he
   ·cases he
   rename_i fn hfn
   split at he
   ·cases he
   rename_i root hroot
   split at he
   rotate_left
   ·cases he
   rename_i r hr
   split at he
   rotate_left
   ·cases he
   rename_i hlen
   injection he with he
   subst he
   refine .inr ⟨fn, root, ⟨s.results, fn.results.toList, s.params.filter PS.isBack, r.2⟩, blks i, r.1, fuel, ⟨hfn, ?_, hroot, rfl, rfl, rfl, hlen, hr, ?_, ?_⟩⟩
   ·have := List.all_eq_true.1 hnm _ hmem
    simp only [hfn] at this
    simpa using this
   ·simp only [tab, hl, he']
   ·intro n b hb
    simp only [tab, hl, he', hb]
theorem V_is {P : Program} {specs : List (Nat × Spec)} {blks : Nat → List Blk} {fuel : Nat} {pr : Nat → Option (List IV → Option (List IV))} {i b : Nat} {xs : List IV} {e : Option (List IV)} (hp : pr i = none)
  (h : ((tab P specs blks fuel ⟨i, b⟩).bind (tr xs.length)).map (fun st => st.den (V (tab P specs blks fuel) pr) i xs) = some e) : V (tab P specs blks fuel) pr ⟨i, b⟩ xs = e := by
 rw [V_eq]
 simp only [hp]
 cases ht : tab P specs blks fuel ⟨i, b⟩ with
 | none => rw [ht] at h; simp at h
 | some pt =>
  rw [ht] at h
  simp only [Option.bind_some, Option.map_eq_some_iff] at h
  obtain ⟨st, h1, h2⟩ := h
  simp only
  rw [tr_ok h1, h2]
end Go.CT
