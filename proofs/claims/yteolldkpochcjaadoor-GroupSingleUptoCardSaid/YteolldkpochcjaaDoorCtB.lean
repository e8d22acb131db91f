import Derived.Test.YteolldkpochcjaaDoorCtA
import Derived.MapKept
import Derived.Lib.AppendStr
set_option linter.unusedVariables false
set_option linter.unusedSimpArgs false
namespace Go.CT
open EM
def pairs : Nat → List Value → List (Nat × Value)
 | _, [] => []
 | j, v :: vs => (j, v) :: pairs (j + 1) vs
theorem fill_rows {sz : Nat} : ∀ (vs : List Value) (j : Nat) (cells : Array Value), (∀ v ∈ vs, v.cells.size = sz) → (j + vs.length) * sz ≤ cells.size →
  ∃ cells', Instr.fill (fun i => some (i * sz, sz)) cells (pairs j vs) = some cells' ∧ cells'.toList = cells.toList.take (j * sz) ++ flatC vs ++ cells.toList.drop ((j + vs.length) * sz)
 | [], j, cells, _, _ => ⟨cells, rfl, by simp [flatC]⟩
 | v :: vs, j, cells, hs, hl => by
  have h0 := hs v List.mem_cons_self
  have hj : j * sz + sz ≤ cells.size := by
   have : (j + 1) * sz ≤ (j + (vs.length + 1)) * sz := Nat.mul_le_mul_right _ (by omega)
   simp only [List.length_cons] at hl
   rw [Nat.add_mul, Nat.one_mul] at this
   omega
  have hfs := fold_set (j * sz) v.cells.toList 0 cells (by simp [h0]; omega)
  let cells1 := (v.cells.toList.zipIdx 0).foldl (fun (cs : Array Value) (p : Value × Nat) => cs.setIfInBounds (j * sz + p.2) p.1) cells
  have hc1 : cells1.toList = cells.toList.take (j * sz) ++ v.cells.toList ++ cells.toList.drop (j * sz + sz) := by
   have := hfs
   simp only [Nat.add_zero, Array.length_toList, h0] at this
   exact this
  have hsz1 : cells1.size = cells.size := by
   have := congrArg List.length hc1
   simp only [Array.length_toList, List.length_append, List.length_take, List.length_drop, h0] at this
   omega
  obtain ⟨cells', q1, q2⟩ := fill_rows vs (j + 1) cells1 (fun u hu => hs u (List.mem_cons_of_mem _ hu)) (by rw [hsz1]; simp only [List.length_cons] at hl; rw [Nat.add_assoc, Nat.add_comm 1]; exact hl)
  refine ⟨cells', ?_, ?_⟩
  ·simp only [pairs, Instr.fill]
   have hcond : (decide (v.cells.size ≠ sz) || decide (j * sz + v.cells.size > cells.size)) = false := by simp [h0]; omega
   rw [hcond]
   simp only [Bool.false_eq_true, if_false]
   have : v.cells.zipIdx.foldl (fun cs x => match x with | (c, j_1) => cs.setIfInBounds (j * sz + j_1) c) cells = cells1 := by
    show _ = (v.cells.toList.zipIdx 0).foldl _ cells
    rw [← Array.foldl_toList]
    simp
   rw [this]
   exact q1
  ·rw [q2, hc1]
   have e1 : (j + 1) * sz = j * sz + sz := by rw [Nat.add_mul, Nat.one_mul]
   have e2 : (j + 1 + vs.length) * sz = j * sz + sz + vs.length * sz := by rw [Nat.add_mul, e1]
   have e3 : (j + (v :: vs).length) * sz = j * sz + sz + vs.length * sz := by rw [List.length_cons, ← e2]; congr 1; omega
   have l1 : (cells.toList.take (j * sz)).length = j * sz := by rw [List.length_take, Array.length_toList]; omega
   have l2 : v.cells.toList.length = sz := by rw [Array.length_toList, h0]
   rw [e1, e2, e3]
   have t1 : (cells.toList.take (j * sz) ++ v.cells.toList ++ cells.toList.drop (j * sz + sz)).take (j * sz + sz) = cells.toList.take (j * sz) ++ v.cells.toList := by
    rw [List.take_append_of_le_length (by rw [List.length_append]; omega), List.take_of_length_le (by rw [List.length_append]; omega)]
   have t2 : (cells.toList.take (j * sz) ++ v.cells.toList ++ cells.toList.drop (j * sz + sz)).drop (j * sz + sz + vs.length * sz) = cells.toList.drop (j * sz + sz + vs.length * sz) := by
    have hll : (cells.toList.take (j * sz) ++ v.cells.toList).length = j * sz + sz := by rw [List.length_append]; omega
    rw [← List.drop_drop, List.drop_left' hll, List.drop_drop]
   rw [t1, t2]
   simp [flatC]
section
variable {P : Program} {N : Nat} {X : Nat → Prop} {R : Job → List IV → Option (List IV)} {ρ : List IV} {K : Nat → Prop} {S : View} {μ : Nat → Value} {a : Act} {w : World} {es es' : ES} {ls : List PLt} {sx : SX}
theorem RelE.later {c c' : Cx} (L : Later K c c') {e : TypeId} : ∀ {xs : List IV} {vs : List Value}, RelE c.P c.w c.O e xs vs → RelE c'.P c'.w c'.O e xs vs
 | [], [], _ => trivial
 | _ :: _, _ :: _, h => ⟨⟨L.rel h.1.1, by rw [L.P]; exact h.1.2⟩, RelE.later L h.2⟩
 | [], _ :: _, h => h.elim
 | _ :: _, [], h => h.elim
theorem partsData_ok {e : TypeId} (hse : sizeOk P e = true) : ∀ {parts : List (Nat × Operand)} {j : Nat} {es es' : ES} {as : List Arg} {ls : List PLt}, Good P N X ρ K S.tm (cur S es.obs) μ a w → Ev S (partsData P e parts j) es as es' ls → LH R ρ ls → holds ρ es.gs = some true →
  Ph P N X ρ K S μ a w es es' ∧ ∃ xs, Arg.evs ρ as = some xs ∧ RelE P w (cxOf P X ρ (cur S es'.obs) μ w).O e xs (parts.map fun p => a.eval p.2) ∧ parts.map (fun p => (p.1, a.eval p.2)) = pairs j (parts.map fun p => a.eval p.2)
 | [], j, es, es', as, ls, G, h, hl, hg => by
  unfold partsData at h
  rw [Ev_pure] at h
  obtain ⟨rfl, rfl, rfl⟩ := h
  exact ⟨.refl G, [], rfl, trivial, rfl⟩
 | (i, x) :: ps, j, es, es', as, ls, G, h, hl, hg => by
  unfold partsData at h
  rw [Ev_bind] at h
  obtain ⟨_, _, _, _, h0, h, rfl⟩ := h
  rw [Ev_guard] at h0
  obtain ⟨g0, rfl, rfl⟩ := h0
  have : i = j := by simpa using g0
  subst this
  rw [Ev_bind] at h
  obtain ⟨vv, e1, l1, _, h1, h, rfl⟩ := h
  obtain ⟨rfl, rfl, h3, h4⟩ := rd1_ok G h1 hg
  rw [Ev_bind] at h
  obtain ⟨y, e2, l2, _, h2, h, rfl⟩ := h
  have hl := hl.right.right
  obtain ⟨p, _, hD⟩ := toData_ok G h2 hl.left hg h4 h3
  simp only [Ev_bind, Ev_pure] at h
  obtain ⟨r, e3, l3, _, h5, ⟨rfl, rfl, rfl⟩, rfl⟩ := h
  obtain ⟨q, xs, q1, q2, q3⟩ := partsData_ok hse p.good h5 hl.right.left (by rw [p.gs]; exact hg)
  obtain ⟨z, d1, d2⟩ := q.later.drel (hD rfl)
  exact ⟨p.trans q, z :: xs, evs_cons d1 q1, ⟨⟨d2, d2.sized hse⟩, q2⟩, by simp only [List.map_cons, pairs, q3]⟩
theorem xBuildSlice_ok {t : TypeId} {len : Nat} {parts : Array (Nat × Operand)} (G : Good P N X ρ K S.tm (cur S es.obs) μ a w) (h : Ev S (xBuildSlice P t len parts) es sx es' ls) (hl : LH R ρ ls) (hg : holds ρ es.gs = some true) (hfresh : ∀ k, es.m ≤ k → k < es'.m → ¬ K k) :
  ∃ v w' μ', (Instr.buildSlice t len (parts.map fun (i, x) => (i, a.eval x))).run P w = .ok v w' ∧ Out P N X ρ K S μ a w es es' sx μ' w' v := by
 unfold xBuildSlice at h
 rw [Ev_bind] at h
 obtain ⟨_, _, _, _, h0, h, rfl⟩ := h
 rw [Ev_bare] at h0
 obtain ⟨_, rfl, rfl⟩ := h0
 rw [Ev_bind] at h
 obtain ⟨e, _, _, _, h0, h, rfl⟩ := h
 rw [Ev_ofOption] at h0
 obtain ⟨he, rfl, rfl⟩ := h0
 rw [Ev_bind] at h
 obtain ⟨_, _, _, _, h0, h, rfl⟩ := h
 rw [Ev_guard] at h0
 obtain ⟨g1, rfl, rfl⟩ := h0
 simp only [Bool.and_eq_true, decide_eq_true_eq, beq_iff_eq] at g1
 obtain ⟨⟨⟨⟨g1, g2⟩, g3⟩, g4⟩, g5⟩ := g1
 rw [Ev_bind] at h
 obtain ⟨as, e1, l1, _, h1, h, rfl⟩ := h
 have hl := hl.right.right.right
 obtain ⟨p, xs, q1, q2, q3⟩ := partsData_ok g5 G h1 hl.left hg
 simp only [Ev_bind, Ev_prim, Ev_newKey, Ev_setOb, Ev_pure] at h
 obtain ⟨_, _, _, _, ⟨rfl, rfl, rfl⟩, ⟨_, _, _, _, ⟨rfl, rfl, rfl⟩, ⟨_, _, _, _, ⟨rfl, rfl⟩, ⟨rfl, rfl, rfl⟩, rfl⟩, rfl⟩, rfl⟩ := h
 obtain ⟨vs, iv, r1, r2, r3⟩ := LH.prim hl.right.left (by rw [p.gs]; exact hg)
 rw [q1] at r1; injection r1 with r1; subst r1
 simp only [Prim.ev, Option.some.injEq] at r2; subst r2
 obtain ⟨i, z, z1, z2, z3, z4, z5⟩ := zero_of g4
 have ht := elemT_eq he
 have hlen : (parts.toList.map fun p => a.eval p.2).length = len := by simp [g3]
 have hxs := q2.len
 rw [hlen] at hxs
 let vs0 := parts.toList.map fun p => a.eval p.2
 have hz0 : (if len * sizeT P e = 0 then (#[] : Array Value) else z.cells) = if len * sizeT P e = 0 then #[] else z.cells := rfl
 let cells0 : Array Value := (Array.range (len * sizeT P e)).map ((if len * sizeT P e = 0 then (#[] : Array Value) else z.cells)[· % (if len * sizeT P e = 0 then (#[] : Array Value) else z.cells).size]!)
 have hc0 : cells0.size = len * sizeT P e := by simp [cells0]
 obtain ⟨cells', f1, f2⟩ := fill_rows (sz := sizeT P e) vs0 0 cells0 (fun v hv => (q2.size v hv).1) (by rw [hc0, Nat.zero_add]; exact Nat.mul_le_mul_right _ (by simp [vs0, g3]))
 have hvl : vs0.length = len := hlen
 have f2' : cells'.toList = flatC vs0 := by
  rw [f2, Nat.zero_mul, List.take_zero, List.nil_append, Nat.zero_add, hvl, List.drop_of_length_le (by rw [Array.length_toList, hc0]; exact Nat.le_refl _), List.append_nil]
 have hcs : cells'.size = len * sizeT P e := by
  rw [← Array.length_toList, f2', flatC_len (sz := sizeT P e) (fun v hv => (q2.size v hv).1), hvl]
 refine ⟨.slice (some ⟨w.heap.size, 0, none⟩) len len, w.alloc (.cells cells' e), updM μ e1.m (.slice (some ⟨w.heap.size, 0, none⟩) len len), ?_, ?_⟩
 ·have hparts : (parts.map fun (x : Nat × Operand) => match x with | (i, x) => (i, a.eval x)).toList = pairs 0 vs0 := by
   rw [Array.toList_map]
   have : (fun (x : Nat × Operand) => match x with | (i, x) => (i, a.eval x)) = fun p => (p.1, a.eval p.2) := by funext ⟨i, x⟩; rfl
   rw [this]; exact q3
  unfold Instr.buildSlice
  have hn : ¬ (len * sizeT P e > 2 ^ 24) := by omega
  by_cases hzz : len * sizeT P e = 0
  ·simp only [underlying, Sem.run_bind, run_program, Result.andThen_ok, ht, Sem.run_pure, run_sizeOf z1, if_neg hn, if_pos hzz, hparts]
   have f1' := f1
   simp only [cells0, if_pos hzz] at f1'
   rw [f1']
   simp [newRow]
  ·simp only [underlying, Sem.run_bind, run_program, Result.andThen_ok, ht, Sem.run_pure, run_sizeOf z1, if_neg hn, if_neg hzz, hparts, zeroValue, typeInfo, z1, z2]
   have f1' := f1
   simp only [cells0, if_neg hzz] at f1'
   rw [f1']
   simp [newRow]
 ·refine newArr_ok (es := es) (e1 := { e1 with n := e1.n + 1 }) (ivs := xs) (n := len) (cap := len) (cs := cells') ⟨p.good, p.fewer, p.m, p.gs⟩ hfresh r3 ht g2 hxs (Nat.le_refl _) ?_ hcs ?_ ?_
  ·have : maxLen = 9223372036854775807 := by decide
   have := Nat.le_mul_of_pos_right len g2
   omega
  ·rw [List.take_of_length_le (by rw [Array.length_toList, hcs]; exact Nat.le_refl _), f2']
   exact q2.elems
  ·intro u hu
   have : u ∈ cells'.toList := by simpa using hu
   rw [f2'] at this
   exact flatC_one (fun v hv => (q2.size v hv).2) u this
theorem blk_slice (A : Option Addr) (n c : Nat) : blk (.slice A n c) = (Value.slice A n c).ownBlock := by cases A <;> rfl
theorem appendTo_ok {e : TypeId} {sv : VV} {old : Option Nat} {c : Arg} {v : Value} (G : Good P N X ρ K S.tm (cur S es.obs) μ a w) (h : Ev S (appendTo P e sv) es (old, c) es' ls) (hl : LH R ρ ls) (hg : holds ρ es.gs = some true)
  (hv : VRel (cxOf P X ρ (cur S es.obs) μ w) sv v) (hs : 0 < sizeT P e) :
  (∃ n, es' = { es with n }) ∧ ∃ ivs cs, c.ev ρ = some (.list ivs) ∧ w.ownsRow 0 e (sizeT P e) v ivs.length cs ∧ Elems P w (cxOf P X ρ (cur S es.obs) μ w).O e ivs cs ∧
   (old = none → v = .slice none 0 0) ∧ ∀ k, old = some k → (∃ t c0, cur S es.obs k = some (.arr e t c0)) ∧ v.ownBlock = blk (μ k) := by
 unfold appendTo at h
 split at h
 ·rw [Ev_pure] at h
  obtain ⟨h1, rfl, rfl⟩ := h
  injection h1 with h1 h2; subst h1; subst h2
  have hv : v = .slice none 0 0 := hv
  subst hv
  exact ⟨⟨es.n, rfl⟩, [], [], rfl, World.ownsRow_nil _ _ _ _, fun j x hx => by simp at hx, fun _ => rfl, fun k hk => by cases hk⟩
 ·rename_i k t
  obtain ⟨hv, _⟩ := hv
  have hv : v = μ k := hv
  subst hv
  rw [Ev_bind] at h
  obtain ⟨o, _, _, l2, h0, h, rfl⟩ := h
  rw [Ev_getOb] at h0
  obtain ⟨ho, rfl, rfl⟩ := h0
  cases o with
  | box => simp [Ev_fail] at h
  | frz => simp [Ev_fail] at h
  | iter => simp [Ev_fail] at h
  | mp => simp [Ev_fail] at h
  | arr e' tt c0 =>
   simp only [Ev_bind, Ev_guard, Ev_pure] at h
   obtain ⟨_, _, _, _, ⟨g1, rfl, rfl⟩, ⟨h1, rfl, rfl⟩, rfl⟩ := h
   have : e = e' := by simpa using g1
   subst this
   injection h1 with h1 h2; subst h1; subst h2
   obtain ⟨ivs, cs, q1, q2, q3, q4, q5, q6⟩ := G.obj k _ ho
   refine ⟨⟨es.n, rfl⟩, ivs, cs, q1, q4, q5, (fun h => by cases h), fun k' hk => ?_⟩
   injection hk with hk; subst hk
   refine ⟨⟨_, _, ho⟩, ?_⟩
   obtain ⟨_, _, _, _, q2', _⟩ := G.rowB ho
   rw [q2', blk_slice]
 ·rename_i k hi t
  obtain ⟨A, n, cap, l, r, e0, p0, p1, p2, p3, p4, p5, p6⟩ := hv
  have p2' : (Arg.k (.int 0)).ev ρ = some (.int l) := p2
  simp only [Arg.ev, Option.some.injEq, IV.int.injEq] at p2'
  have hl0 : l = 0 := by omega
  subst hl0
  rw [Ev_bind] at h
  obtain ⟨o, _, _, l2, h0, h, rfl⟩ := h
  rw [Ev_getOb] at h0
  obtain ⟨ho, rfl, rfl⟩ := h0
  cases o with
  | box => simp [Ev_fail] at h
  | frz => simp [Ev_fail] at h
  | iter => simp [Ev_fail] at h
  | mp => simp [Ev_fail] at h
  | arr e' tt c0 =>
   simp only [Ev_bind, Ev_guard, Ev_prim, Ev_pure] at h
   obtain ⟨_, _, _, _, ⟨g1, rfl, rfl⟩, ⟨_, _, _, _, ⟨rfl, rfl, rfl⟩, ⟨h1, rfl, rfl⟩, rfl⟩, rfl⟩ := h
   simp only [Bool.and_eq_true, beq_iff_eq] at g1
   obtain ⟨rfl, g2⟩ := g1
   have hee : e0 = e := by
    have := elemT_eq g2
    have p0' : P.underlying t = some (.slice e0) := p0
    rw [this] at p0'; injection p0' with p0'; injection p0' with p0'; exact p0'.symm
   subst hee
   injection h1 with h1 h2; subst h1; subst h2
   obtain ⟨ivs, cs, q1, q2, q3, q4, q5, q6⟩ := G.obj k _ ho
   obtain ⟨_, A', cap', q1'', q2'', _⟩ := G.rowB ho
   have q1s : c0.ev ρ = some (.list ivs) := q1
   rw [q1s] at q1''; injection q1'' with q1''; injection q1'' with q1''; subst q1''
   have p1' : μ k = .slice A n cap := p1
   rw [q2''] at p1'; injection p1' with i1 i2 i3
   subst i1; subst i2; subst i3
   obtain ⟨vs, y, r1, r2, r3⟩ := LH.prim hl.right.right.left hg
   obtain ⟨rfl, _, p5'⟩ := slice_ev (l := 0) (_n := 0) q1 (by rfl) p3 r1 r2
   have hv : v = .slice A' r cap' := by
    rw [p6]
    simp only [Nat.zero_mul, Nat.sub_zero]
    split
    ·rfl
    ·congr 1
     cases A' with
     | none => rfl
     | some ad => simp [addr_add_zero]
   subst hv
   rw [List.drop_zero] at r3
   have q4' : w.ownsRow 0 e0 (sizeT P e0) (.slice A' ivs.length cap') ivs.length cs := by
    have : w.ownsRow 0 e0 (sizeT P e0) (μ k) ivs.length cs := q4
    rwa [q2''] at this
   have hr : (ivs.take r).length = r := by rw [List.length_take]; omega
   refine ⟨⟨es.n + 1, rfl⟩, ivs.take r, cs.take (r * sizeT P e0), r3, by rw [hr]; exact own_prefix q4' p5', ?_, (fun h => by cases h), fun k' hk => ?_⟩
   ·intro j x hx
    have hj := (List.getElem?_eq_some_iff.1 hx).1
    rw [hr] at hj
    rw [List.getElem?_take, if_pos hj] at hx
    obtain ⟨u, t1, t2, t3⟩ := q5 j x hx
    refine ⟨u, t1, ?_, t3⟩
    rw [t2, List.drop_take, List.take_take]
    congr 1
    have : j * sizeT P e0 + sizeT P e0 ≤ r * sizeT P e0 := by rw [← Nat.succ_mul]; exact Nat.mul_le_mul_right _ hj
    show sizeT P e0 = min (sizeT P e0) _
    omega
   ·injection hk with hk; subst hk
    exact ⟨⟨_, _, ho⟩, by rw [q2'', blk_slice]; cases A' <;> rfl⟩
 ·simp [Ev_fail] at h
end
end Go.CT
namespace Go.CT
open EM
section
variable {P : Program} {N : Nat} {X : Nat → Prop} {R : Job → List IV → Option (List IV)} {ρ : List IV} {K : Nat → Prop} {S : View} {μ : Nat → Value} {a : Act} {w : World} {es es' : ES} {ls : List PLt} {sx : SX}
theorem xAppend_ok {st xt rt : TypeId} {s x : Operand} (G : Good P N X ρ K S.tm (cur S es.obs) μ a w) (h : Ev S (xAppend P st xt s x rt) es sx es' ls) (hl : LH R ρ ls) (hg : holds ρ es.gs = some true) (hfresh : ∀ k, es.m ≤ k → k < es'.m → ¬ K k) :
    ∃ v w' μ', (Builtin.append_ #[st, xt] rt #[a.eval s, a.eval x]).run P w = .ok v w' ∧ Out P N X ρ K S μ a w es es' sx μ' w' v := by
  unfold xAppend at h
  rw [Ev_bind] at h
  obtain ⟨_, _, _, _, h0, h, rfl⟩ := h
  rw [Ev_bare] at h0
  obtain ⟨_, rfl, rfl⟩ := h0
  rw [Ev_bind] at h
  obtain ⟨e, _, _, _, h0, h, rfl⟩ := h
  rw [Ev_ofOption] at h0
  obtain ⟨he, rfl, rfl⟩ := h0
  rw [Ev_bind] at h
  obtain ⟨_, _, _, _, h0, h, rfl⟩ := h
  rw [Ev_guard] at h0
  obtain ⟨g1, rfl, rfl⟩ := h0
  simp only [Bool.and_eq_true, decide_eq_true_eq, beq_iff_eq] at g1
  obtain ⟨⟨⟨g1, g2⟩, rfl⟩, g4⟩ := g1
  rw [Ev_bind] at h
  obtain ⟨sv, e1, l1, _, h1, h, rfl⟩ := h
  obtain ⟨rfl, rfl, sv3, sv4⟩ := rd1_ok G h1 hg
  rw [Ev_bind] at h
  obtain ⟨xv, e1, l1, _, h1, h, rfl⟩ := h
  obtain ⟨rfl, rfl, xv3, xv4⟩ := rd1_ok G h1 hg
  have hl := hl.right.right.right.right.right
  rw [Ev_bind] at h
  obtain ⟨y, e2, l2, _, h2, h, rfl⟩ := h
  obtain ⟨p, hB, _⟩ := toData_ok G h2 hl.left hg xv4 xv3
  have hg2 : holds ρ e2.gs = some true := by rw [p.gs]; exact hg
  rw [Ev_bind] at h
  obtain ⟨⟨old, c⟩, e3, l3, _, h3, h, rfl⟩ := h
  obtain ⟨⟨n3, rfl⟩, ivs, cs, q1, q2, q3, q4, q5⟩ := appendTo_ok p.good h3 hl.right.left hg2 (p.later.vrel sv4 sv3) g1
  simp only [Ev_bind, Ev_prim, Ev_newKey, Ev_setOb, Ev_pure] at h
  obtain ⟨_, _, _, _, ⟨rfl, rfl, rfl⟩, ⟨_, e4, l4, _, h4, ⟨_, _, _, _, ⟨rfl, rfl, rfl⟩, ⟨_, _, _, _, ⟨rfl, rfl⟩, ⟨rfl, rfl, rfl⟩, rfl⟩, rfl⟩, rfl⟩, rfl⟩ := h
  obtain ⟨vs, iv, r1, r2, r3⟩ := LH.prim hl.right.right.left hg2
  obtain ⟨u, v, s1, s2, rfl⟩ := evs2 r1
  rw [q1] at s1; injection s1 with s1; subst s1
  have ht := elemT_eq he
  obtain ⟨yiv, b1, b2, b3⟩ := hB
  obtain ⟨ys, A, cap, rfl, hx, hrow⟩ := b3 e ht
  have b1' : y.ev ρ = some (.list ys) := b1
  rw [b1'] at s2; injection s2 with s2; subst s2
  simp only [Prim.ev] at r2
  split at r2
  · rename_i hbytes
    injection r2 with r2; subst r2
    obtain ⟨i, z, z1, z2, z3, z4, z5⟩ := zero_of g4
    have hmb : maxBytes = 140737488355328 := rfl
    have hmax : maxLen = 9223372036854775807 := by decide
    have hsum : ivs.length + ys.length ≤ maxLen := by
      have := Nat.le_mul_of_pos_right (ivs.length + ys.length) g2
      omega
    obtain ⟨us, e1', hcells⟩ := hrow.relE
    have hul := e1'.len
    -- what the machine does
    have run : ∃ v' w', (Builtin.append_ #[st, st] rt #[a.eval s, a.eval x]).run P w = .ok v' w' ∧ w'.ownsRow 0 e (sizeT P e) v' (ivs.length + ys.length) (cs ++ flatC us) ∧ w.grownBy w' (a.eval s).ownBlock ∧
        (v'.ownBlock = (a.eval s).ownBlock ∨ v'.ownBlock = some w.heap.size) := by
      rw [hx]
      by_cases h0 : 0 < ys.length
      · obtain ⟨ad, rfl, hat⟩ := hcells h0
        obtain ⟨v', w', t1, t2, t3, _, t4⟩ := run_append_own_at (P := P) w 0 st rt e i z (sizeT P e) (bytesT P e) ht z1 z2 z4 z5 z3 g1 (a.eval s) ivs.length cs q2 ad ys.length cap (flatC us)
          (by have := flatC_len (sz := sizeT P e) (vs := us) (fun v hv => (e1'.size v hv).1); rw [this, ← hul]) hat (flatC_one fun v hv => (e1'.size v hv).2) hsum (by omega) (Nat.zero_le _)
        exact ⟨v', w', t1, t2, t3, t4⟩
      · have hy : ys = [] := List.length_eq_zero_iff.1 (by omega)
        subst hy
        have hu : us = [] := List.length_eq_zero_iff.1 (by rw [← hul]; rfl)
        subst hu
        cases A with
        | none =>
          refine ⟨a.eval s, w, run_append_none 0 ht z1 _ _ cap _ q2, ?_, ⟨rfl, rfl, rfl, Nat.le_refl _, fun _ _ _ => rfl⟩, .inl rfl⟩
          simpa [flatC] using q2
        | some ad =>
          obtain ⟨v', w', t1, t2, t3, _, t4⟩ := run_append_own_at (P := P) w 0 st rt e i z (sizeT P e) (bytesT P e) ht z1 z2 z4 z5 z3 g1 (a.eval s) ivs.length cs q2 ad 0 cap []
            (by simp) (fun j u h => by simp at h) (fun u h => by simp at h) hsum (by rw [← hmb]; exact hbytes) (Nat.zero_le _)
          exact ⟨v', w', t1, by simpa [flatC] using t2, t3, t4⟩
    obtain ⟨v', w', t1, t2, t3, t4⟩ := run
    -- what has become of the state
    obtain ⟨A', n', cap', hv'⟩ : ∃ A n c, v' = .slice A n c := by
      rcases t2.2 with ⟨h, _⟩ | ⟨g, cap, cu, h, _⟩
      · exact ⟨_, _, _, h⟩
      · exact ⟨_, _, _, h⟩
    have hblk' : blk v' = v'.ownBlock := by rw [hv', blk_slice]
    -- the old row's block is ours
    have hold : ∀ b, (a.eval s).ownBlock = some b → ∃ k t c0, old = some k ∧ cur S e2.obs k = some (.arr e t c0) ∧ blk (μ k) = some b := by
      intro b hb
      cases old with
      | none => rw [q4 rfl] at hb; simp [Value.ownBlock] at hb
      | some k =>
        obtain ⟨⟨t, c0, h1⟩, h2⟩ := q5 k rfl
        exact ⟨k, t, c0, rfl, h1, by rw [← h2]; exact hb⟩
    obtain ⟨hobs, hm4, hgs4⟩ : cur S e4.obs = (match old with | some k => updOb (cur S e2.obs) k none | none => cur S e2.obs) ∧ e4.m = e2.m ∧ e4.gs = e2.gs := by
      unfold dropOld at h4
      cases old with
      | none => rw [Ev_pure] at h4; obtain ⟨_, rfl, _⟩ := h4; exact ⟨rfl, rfl, rfl⟩
      | some k =>
        rw [Ev_setOb] at h4
        obtain ⟨rfl, _⟩ := h4
        exact ⟨by rw [show ({ n := e2.n, m := e2.m, gs := e2.gs, obs := (k, none) :: e2.obs } : ES).obs = (k, none) :: e2.obs from rfl] <;> exact cur_cons .., rfl, rfl⟩
    have hm : ¬ K e4.m := hfresh e4.m (by rw [hm4, p.m]; exact Nat.le_refl _) (Nat.lt_succ_self _)
    have hsub : ∀ k o, cur S e4.obs k = some o → cur S e2.obs k = some o ∧ old ≠ some k := by
      intro k o ho
      rw [hobs] at ho
      cases old with
      | none => exact ⟨ho, by simp⟩
      | some k0 =>
        simp only [updOb] at ho
        split at ho
        · cases ho
        · rename_i hne
          exact ⟨ho, by simpa using fun h => hne h.symm⟩
    have hP : Put P X ρ K (cur S e2.obs) (updOb (cur S e4.obs) e4.m (some (.arr e st (.v n3)))) μ w w' e4.m (.arr e st (.v n3)) v' :=
      { other := fun k' o' h ho => (hsub k' o' (by simpa [updOb, h] using ho)).1
        here := by simp [updOb]
        same := fun k' h => updM_ne (fun e => hm (e ▸ h))
        step := ⟨t3.os, t3.tape, t3.output, t3.size, fun b hb hW => t3.block b hb (fun h => by
          obtain ⟨k, t, c0, _, h2, h3⟩ := hold b h.symm
          exact hW ⟨k, _, h2, rfl, h3⟩)⟩
        rest := fun k' o' b h ho hi hb => by
          obtain ⟨h1, h2⟩ := hsub k' o' (by simpa [updOb, h] using ho)
          refine t3.block b (p.good.blk_lt h1 hi hb) (fun hbo => ?_)
          obtain ⟨k, t, c0, h3, h4, h5⟩ := hold b hbo.symm
          have := p.good.sep k' k _ _ b h1 h4 hi rfl hb h5
          subst this
          exact h2 h3
        new := fun b hb => by
          rw [hblk'] at hb
          rcases t4 with h | h
          · rw [h] at hb
            obtain ⟨k, t, c0, h3, h4, h5⟩ := hold b hb
            refine .inl ⟨⟨k, _, h4, rfl, h5⟩, fun k' o' hne ho hi hb' => ?_⟩
            obtain ⟨h1, h2⟩ := hsub k' o' (by simpa [updOb, hne] using ho)
            have := p.good.sep k' k _ _ b h1 h4 hi rfl hb' h5
            subst this
            exact h2 h3
          · rw [h] at hb; injection hb with hb; exact .inr (by omega)
        keys := fun k' h => by simp [keysOb] at h }
    obtain ⟨vs0, w1, w2⟩ := q3.relE (by
      have := q2.1
      omega)
    have hE : RelE P w (cxOf P X ρ (cur S e2.obs) μ w).O e (ivs ++ ys) (vs0 ++ us) := w1.append e1'
    have hok : ObOk (cxOf P X ρ (updOb (cur S e4.obs) e4.m (some (.arr e st (.v n3)))) (updM μ e4.m v') w') e4.m (.arr e st (.v n3)) := by
      refine ⟨ivs ++ ys, cs ++ flatC us, r3, ht, g1, ?_, hP.later.elems ?_, ?_⟩
      · show World.ownsRow _ 0 e (sizeT P e) (updM μ e4.m v' e4.m) _ _
        rw [updM_eq, List.length_append]
        exact t2
      · rw [w2, ← flatC_append]
        exact hE.elems
      · rw [w2, ← flatC_append]
        exact flatC_one fun v hv => (hE.size v hv).2
    have hK : ∀ k', K k' ∨ k' = e4.m → withKeys K es.m (e4.m + 1) k' := by
      rintro k' (h | rfl)
      · exact .inl h
      · exact .inr ⟨by rw [hm4, p.m]; exact Nat.le_refl _, Nat.lt_succ_self _⟩
    refine ⟨v', w', updM μ e4.m v', t1, ?_, ?_, ?_, ?_, ?_, hP.same⟩
    · show Good P N X ρ (withKeys K es.m (e4.m + 1)) S.tm (cur S ((e4.m, some (.arr e st (.v n3))) :: e4.obs)) _ a _
      rw [cur_cons]
      exact hP.good p.good hok hK
    · exact ⟨updM_eq.symm, _, _, _, hv'⟩
    · intro k h
      simp [keysSX, keysVV, keysLV, one] at h
      subst h
      exact hK _ (.inr rfl)
    · have := hP.step
      exact ⟨this.os, this.tape, this.output, this.size, fun b hb hW => this.stays b hb fun h => hW (p.fewer.wr h)⟩
    · intro b hb
      have hb : Wr (cur S ((e4.m, some (.arr e st (.v n3))) :: e4.obs)) _ b := hb
      rw [cur_cons] at hb
      exact (hP.own p.good b hb).imp p.fewer.wr id
  · cases r2
theorem CRels.splice {c : Cx} {cs new : List LV} {vs us : List Value} (h : CRels c cs vs) (h' : CRels c new us) (off : Nat) :
  CRels c (cs.take off ++ new ++ cs.drop (off + new.length)) (vs.take off ++ us ++ vs.drop (off + us.length)) := by
 rw [h'.len]
 exact ((h.take off).append h').append (h.drop _)
theorem fillParts_ok {place : Nat → Option (Nat × TypeId)} {place' : Nat → Option (Nat × Nat)} (hp : ∀ i off t, place i = some (off, t) → place' i = some (off, sizeT P t)) :
  ∀ {parts : List (Nat × Operand)} {cs r : List LV} {cells : Array Value} {es es' : ES} {ls : List PLt}, Good P N X ρ K S.tm (cur S es.obs) μ a w → Ev S (fillParts P place parts cs) es r es' ls → LH R ρ ls → holds ρ es.gs = some true →
  CRels (cxOf P X ρ (cur S es.obs) μ w) cs cells.toList → (∀ k ∈ cs.flatMap keysLV, K k) →
  (∃ n, es' = { es with n }) ∧ ∃ cells', Instr.fill place' cells (parts.map fun p => (p.1, a.eval p.2)) = some cells' ∧ CRels (cxOf P X ρ (cur S es.obs) μ w) r cells'.toList ∧ ∀ k ∈ r.flatMap keysLV, K k
 | [], cs, r, cells, es, es', ls, G, h, hl, hg, hc, hk => by
  unfold fillParts at h
  rw [Ev_pure] at h
  obtain ⟨rfl, rfl, rfl⟩ := h
  exact ⟨⟨es.n, rfl⟩, cells, rfl, hc, hk⟩
 | (i, x) :: ps, cs, r, cells, es, es', ls, G, h, hl, hg, hc, hk => by
  unfold fillParts at h
  rw [Ev_bind] at h
  obtain ⟨⟨off, t⟩, _, _, _, h0, h, rfl⟩ := h
  rw [Ev_ofOption] at h0
  obtain ⟨g0, rfl, rfl⟩ := h0
  rw [Ev_bind] at h
  obtain ⟨vv, e1, l1, _, h1, h, rfl⟩ := h
  obtain ⟨rfl, rfl, h3, h4⟩ := rd1_ok G h1 hg
  have hl := hl.right.right
  rw [Ev_bind] at h
  obtain ⟨new, e2, l2, _, h2, h, rfl⟩ := h
  obtain ⟨⟨n2, rfl⟩, q1, q2⟩ := explode_ok h2 hl.left hg h4 h3
  rw [Ev_bind] at h
  obtain ⟨_, _, _, _, h0, h, rfl⟩ := h
  rw [Ev_guard] at h0
  obtain ⟨g1, rfl, rfl⟩ := h0
  simp only [Bool.and_eq_true, beq_iff_eq, decide_eq_true_eq] at g1
  obtain ⟨g1, g2⟩ := g1
  have hn : (a.eval x).cells.size = sizeT P t := by rw [← g1, q1.len, Array.length_toList]
  have hcl : cs.length = cells.size := by rw [hc.len, Array.length_toList]
  let cells1 := ((a.eval x).cells.toList.zipIdx 0).foldl (fun (cs : Array Value) (p : Value × Nat) => cs.setIfInBounds (off + p.2) p.1) cells
  have hfs := fold_set off (a.eval x).cells.toList 0 cells (by simp only [Array.length_toList]; omega)
  simp only [Nat.add_zero] at hfs
  have hc1 : CRels (cxOf P X ρ (cur S es.obs) μ w) (cs.take off ++ new ++ cs.drop (off + new.length)) cells1.toList := by
   have : cells1.toList = _ := hfs
   rw [this]
   exact hc.splice q1 off
  have hk1 : ∀ k ∈ (cs.take off ++ new ++ cs.drop (off + new.length)).flatMap keysLV, K k := by
   intro k hm
   simp only [List.flatMap_append, List.mem_append] at hm
   rcases hm with (hm | hm) | hm
   ·simp only [List.mem_flatMap] at hm ⊢
    obtain ⟨l, hm, hk'⟩ := hm
    exact hk k (List.mem_flatMap.2 ⟨l, List.mem_of_mem_take hm, hk'⟩)
   ·exact q2 k hm
   ·simp only [List.mem_flatMap] at hm ⊢
    obtain ⟨l, hm, hk'⟩ := hm
    exact hk k (List.mem_flatMap.2 ⟨l, List.mem_of_mem_drop hm, hk'⟩)
  obtain ⟨⟨n3, hn3⟩, cells', r1, r2, r3⟩ := fillParts_ok hp (es := { es with n := n2 }) G h hl.right.right hg hc1 hk1
  refine ⟨⟨n3, hn3⟩, cells', ?_, r2, r3⟩
  rw [List.map_cons]
  unfold Instr.fill
  rw [hp i off t g0]
  have hcond : (decide ((a.eval x).cells.size ≠ sizeT P t) || decide (off + (a.eval x).cells.size > cells.size)) = false := by simp [hn]; omega
  simp only [hcond, Bool.false_eq_true, if_false]
  have : (a.eval x).cells.zipIdx.foldl (fun cs x => match x with | (c, j_1) => cs.setIfInBounds (off + j_1) c) cells = cells1 := by
   show _ = ((a.eval x).cells.toList.zipIdx 0).foldl _ cells
   rw [← Array.foldl_toList]
   simp
  rw [this]
  exact r1
theorem places_ok : ∀ (fs : List Field), (∀ f ∈ fs, (P.info? f.type).isSome = true) → fs.mapM (fun f => (P.info? f.type).map fun i => (f.offset, i.size)) = some (fs.map fun f => (f.offset, sizeT P f.type))
 | [], _ => rfl
 | f :: fs, h => by
  obtain ⟨i, hi⟩ := Option.isSome_iff_exists.1 (h f List.mem_cons_self)
  rw [List.mapM_cons, places_ok fs fun g hg => h g (List.mem_cons_of_mem _ hg), hi]
  simp [sizeT, hi]
theorem xBuild_ok {t : TypeId} {parts : Array (Nat × Operand)} (G : Good P N X ρ K S.tm (cur S es.obs) μ a w) (h : Ev S (xBuild P t parts) es sx es' ls) (hl : LH R ρ ls) (hg : holds ρ es.gs = some true) :
  ∃ v, (Instr.build t (parts.map fun (i, x) => (i, a.eval x))).run P w = .ok v w ∧ Out P N X ρ K S μ a w es es' sx μ w v := by
 unfold xBuild at h
 rw [Ev_bind] at h
 obtain ⟨zv, _, _, _, h0, h, rfl⟩ := h
 rw [Ev_ofOption] at h0
 obtain ⟨g0, rfl, rfl⟩ := h0
 have hl := hl.right
 unfold zeroVV at g0
 simp only [Option.bind_eq_bind] at g0
 cases hi : P.info? t with
 | none => simp [hi] at g0
 | some i =>
 cases hz : i.zero with
 | none => simp [hi, hz] at g0
 | some z =>
 simp only [hi, hz, Option.bind_some] at g0
 obtain ⟨c1, c2, _⟩ := constVV_ok (c := cxOf P X ρ (cur S es.obs) μ w) g0
 have hparts : (parts.map fun (x : Nat × Operand) => match x with | (i, x) => (i, a.eval x)).toList = parts.toList.map fun p => (p.1, a.eval p.2) := by
  rw [Array.toList_map]
 cases zv with
 | leaf l => simp [Ev_fail] at h
 | agg t' cs =>
  obtain ⟨us, hzz, hcr⟩ := c1
  have hzc : z.cells = us := by rw [hzz]; rfl
  have hk0 : ∀ k ∈ cs.flatMap keysLV, K k := fun k hm => by
   have c2' : cs.flatMap keysLV = [] := c2
   rw [c2'] at hm; simp at hm
  cases hu : P.underlying t with
  | none => simp [hu, Ev_fail] at h
  | some d =>
  simp only [hu] at h
  cases d with
  | struct fs =>
   simp only [Ev_bind, Ev_guard, Ev_pure] at h
   obtain ⟨_, _, _, _, ⟨g1, rfl, rfl⟩, ⟨r, e2, l2, _, h2, ⟨rfl, rfl, rfl⟩, rfl⟩, rfl⟩ := h
   obtain ⟨⟨n, rfl⟩, cells', f1, f2, f3⟩ := fillParts_ok (place' := ((fs.toList.map fun f => (f.offset, sizeT P f.type)).toArray[·]?)) (fun i off t h => by
    simp only [Option.map_eq_some_iff] at h
    obtain ⟨f, hf, h⟩ := h
    injection h with h1 h2; subst h1; subst h2
    simp [hf]) (cells := us) G h2 hl.right.left hg hcr hk0
   refine ⟨.agg cells', run_build w t _ cells' ?_, Ph.out (es' := { es with n }) (.same G rfl rfl rfl) ⟨cells', rfl, f2⟩ f3⟩
   unfold Program.built
   rw [hi, hu]
   simp only [hz, places_ok fs.toList (fun f hf => List.all_eq_true.1 g1 f hf), hparts, hzc]
   exact f1
  | array n0 e =>
   simp only [Ev_bind, Ev_guard, Ev_pure] at h
   obtain ⟨_, _, _, _, ⟨g1, rfl, rfl⟩, ⟨r, e2, l2, _, h2, ⟨rfl, rfl, rfl⟩, rfl⟩, rfl⟩ := h
   obtain ⟨ie, hie⟩ := Option.isSome_iff_exists.1 g1
   obtain ⟨⟨n, rfl⟩, cells', f1, f2, f3⟩ := fillParts_ok (place' := fun i => some (i * ie.size, ie.size)) (fun i off t h => by
    injection h with h; injection h with h1 h2; subst h1; subst h2
    simp [sizeT, hie]) (cells := us) G h2 hl.right.left hg hcr hk0
   refine ⟨.agg cells', run_build w t _ cells' ?_, Ph.out (es' := { es with n }) (.same G rfl rfl rfl) ⟨cells', rfl, f2⟩ f3⟩
   unfold Program.built
   rw [hi, hu]
   simp only [hz, hie, hparts, hzc]
   exact f1
  | _ => simp [Ev_fail] at h
end
end Go.CT
namespace Go.CT
open EM
theorem addr_of (b off : Nat) : (⟨b, 0, none⟩ : Addr).add off = ⟨b, off, none⟩ := by unfold Addr.add; split <;> simp_all
section
variable {P : Program} {w : World}
theorem run_store_part {t T : TypeId} {b off : Nat} {cur : Array Value} {v : Value} {i : TypeInfo} (hi : P.info? t = some i) (hb : w.heap[b]? = some (.cells cur T (0, 0))) (hs : v.cells.size = sizeT P t) (ho : off + v.cells.size ≤ cur.size)
  (h1 : ∀ u ∈ v.cells, u.oneCell' = true) :
  (Instr.storeAt t (.pointer (some ((⟨b, 0, none⟩ : Addr).add off))) v).run P w = .ok () (w.setRow b (cur.toList.take off ++ v.cells.toList ++ cur.toList.drop (off + v.cells.size)).toArray) := by
 rw [addr_of]
 have := run_storeCells_at (P := P) b off T v.cells.toList 0 cur w hb (by simpa using ho) (fun u hu => h1 u (by simpa using hu))
 simp only [Nat.add_zero, Array.length_toList] at this
 simp [Instr.storeAt, Instr.sureAddr, storeVar, run_sizeOf hi, hs]
 rw [← hs]
 simpa using this
theorem wstep_setRow {W : Nat → Prop} {b : Nat} (hW : W b) (cs : Array Value) : WStep W w (w.setRow b cs) :=
 ⟨rfl, rfl, rfl, by simp, fun k _ hk => setRow_other w b k cs (fun e => hk (e ▸ hW))⟩
theorem splice_len {α : Type} {cs new : List α} {off : Nat} (h : off + new.length ≤ cs.length) : (cs.take off ++ new ++ cs.drop (off + new.length)).length = cs.length := by
 simp only [List.length_append, List.length_take, List.length_drop]; omega
theorem splice_get {α : Type} {cs new : List α} {off : Nat} (h : off + new.length ≤ cs.length) (i : Nat) :
  (cs.take off ++ new ++ cs.drop (off + new.length))[i]? = if i < off then cs[i]? else if i < off + new.length then new[i - off]? else cs[i]? := by
 simp only [List.getElem?_append, List.length_append, List.length_take, List.getElem?_take, List.getElem?_drop]
 have e1 : min off cs.length = off := by omega
 rw [e1]
 by_cases h1 : i < off
 ·simp [h1, show i < off + new.length by omega]
 ·by_cases h2 : i < off + new.length
  ·simp [h1, h2]
  ·simp only [h1, h2, if_false]
   congr 1; omega
theorem flatC_set {sz : Nat} : ∀ {vs : List Value} {j off : Nat} {u u' : Value} {new : List Value}, (∀ v ∈ vs, v.cells.size = sz) → vs[j]? = some u → off + new.length ≤ sz → u'.cells.toList = u.cells.toList.take off ++ new ++ u.cells.toList.drop (off + new.length) →
  flatC (vs.set j u') = (flatC vs).take (j * sz + off) ++ new ++ (flatC vs).drop (j * sz + off + new.length)
 | [], j, off, u, u', new, _, hj, _, _ => by simp at hj
 | v :: vs, 0, off, u, u', new, h, hj, ho, hu => by
  simp at hj; subst hj
  have hl : v.cells.toList.length = sz := by rw [Array.length_toList]; exact h v List.mem_cons_self
  simp only [List.set_cons_zero, flatC, List.flatMap_cons, Nat.zero_mul, Nat.zero_add]
  rw [hu, List.take_append_of_le_length (by omega), List.drop_append_of_le_length (by omega)]
  simp
 | v :: vs, j + 1, off, u, u', new, h, hj, ho, hu => by
  have hl : v.cells.toList.length = sz := by rw [Array.length_toList]; exact h v List.mem_cons_self
  have ih := flatC_set (vs := vs) (j := j) (fun v hv => h v (List.mem_cons_of_mem _ hv)) (by simpa using hj) ho hu
  simp only [List.set_cons_succ]
  have e0 : ∀ ws : List Value, flatC (v :: ws) = v.cells.toList ++ flatC ws := fun ws => by simp [flatC]
  rw [e0, e0, ih]
  have e1 : (j + 1) * sz + off = sz + (j * sz + off) := by rw [Nat.add_mul, Nat.one_mul]; omega
  have e2 : (j + 1) * sz + off + new.length = sz + (j * sz + off + new.length) := by rw [e1]; omega
  rw [e2, e1, List.take_append, List.drop_append, hl]
  have a1 : sz + (j * sz + off) - sz = j * sz + off := by omega
  have a2 : sz + (j * sz + off + new.length) - sz = j * sz + off + new.length := by omega
  rw [a1, a2, List.take_of_length_le (l := v.cells.toList) (by omega), List.drop_of_length_le (l := v.cells.toList) (by omega)]
  simp
theorem RelE.set {O : Nat → Prop} {e : TypeId} : ∀ {xs : List IV} {vs : List Value} {j : Nat} {y : IV} {u : Value}, RelE P w O e xs vs → Rel P w O e y u → u.cells.size = sizeT P e → RelE P w O e (xs.set j y) (vs.set j u)
 | [], [], j, _, _, _, _, _ => by simp [RelE]
 | _ :: _, _ :: _, 0, _, _, h, h1, h2 => ⟨⟨h1, h2⟩, h.2⟩
 | _ :: _, _ :: _, j + 1, _, _, h, h1, h2 => ⟨h.1, RelE.set h.2 h1 h2⟩
 | [], _ :: _, _, _, _, h, _, _ => h.elim
 | _ :: _, [], _, _, _, h, _, _ => h.elim
theorem Rel.splice {O : Nat → Prop} {t0 t : TypeId} {off : Nat} {x y : IV} {u v : Value} (hx : Rel P w O t0 x u) (ha : isAggT P t0 = true) (hp : partOk P t0 off t = true) (hy : Rel P w O t y v) :
    off + v.cells.size ≤ u.cells.size ∧ v.cells.size = sizeT P t ∧ ∃ cs, x = .agg cs ∧
      ((isAggT P t = true → ∃ new, y = .agg new ∧ new.length = sizeT P t ∧ Rel P w O t0 (.agg (setCells cs new off)) (.agg (u.cells.toList.take off ++ v.cells.toList ++ u.cells.toList.drop (off + v.cells.size)).toArray)) ∧
       (isAggT P t = false → Rel P w O t0 (.agg (cs.set off y)) (.agg (u.cells.toList.take off ++ v.cells.toList ++ u.cells.toList.drop (off + v.cells.size)).toArray))) := by
  obtain ⟨ts, xs, us, h1, rfl, rfl, hr⟩ := hx.leafs ha
  unfold partOk at hp
  rw [h1] at hp
  cases hus : leaves P t with
  | none => simp [hus] at hp
  | some tt =>
    simp only [hus, Bool.and_eq_true, beq_iff_eq, decide_eq_true_eq] at hp
    obtain ⟨⟨hp1, hp2⟩, hp3⟩ := hp
    have hl1 := hr.len
    have hget : ∀ (i : Nat) (q : TypeId), tt[i]? = some q → ts[off + i]? = some q := by
      intro i q hq
      rw [← hp1, List.getElem?_take] at hq
      split at hq
      · rwa [List.getElem?_drop] at hq
      · simp at hq
    have hle : off + tt.length ≤ ts.length := by
      have := congrArg List.length hp1
      rw [List.length_take, List.length_drop] at this
      omega
    -- the new part, leaf by leaf
    have hpart : ∃ new : List IV, RelsL P w O tt new v.cells.toList ∧ (isAggT P t = true → y = .agg new) ∧ (isAggT P t = false → new = [y]) := by
      by_cases hag : isAggT P t = true
      · obtain ⟨ts', ys, vs', q1, rfl, rfl, q2⟩ := hy.leafs hag
        rw [hus] at q1; injection q1 with q1; subst q1
        exact ⟨ys, q2, fun _ => rfl, fun h => by simp [hag] at h⟩
      · have hag' : isAggT P t = false := by simpa using hag
        have ht1 : tt = [t] := by
          have hl : ∀ (d : Nat), leafTs P (d + 1) t = some tt → tt = [t] := by
            intro d hd
            unfold leafTs at hd
            cases hun : P.underlying t with
            | none => simp [hun] at hd
            | some de => cases de <;> simp_all [isAggT]
          exact hl 11 hus
        subst ht1
        refine ⟨[y], ?_, fun h => by simp [hag'] at h, fun _ => rfl⟩
        rw [(hy.one hag').2]
        exact ⟨hy, trivial⟩
    obtain ⟨new, hn, hna, hnb⟩ := hpart
    have hl2 := hn.len
    have hvs : v.cells.size = tt.length := by rw [← Array.length_toList]; exact hl2.2
    have husz : us.size = ts.length := by rw [← Array.length_toList]; exact hl1.2
    have hsz : off + v.cells.size ≤ us.size := by omega
    have hnl : new.length = v.cells.toList.length := by rw [hl2.1, hl2.2]
    have hrel : Rel P w O t0 (.agg (setCells xs new off)) (.agg (us.toList.take off ++ v.cells.toList ++ us.toList.drop (off + v.cells.size)).toArray) := by
      refine RelsL.agg (ts := ts) (RelsL.of_get ?_ ?_ ?_) ha h1
      · unfold setCells
        rw [splice_len (by omega)]; exact hl1.1
      · have := splice_len (cs := us.toList) (new := v.cells.toList) (off := off) (by simpa using hsz)
        simp only [Array.length_toList] at this ⊢
        rw [List.toList_toArray, this]
        omega
      · intro i q x' c' hq hx' hc'
        unfold setCells at hx'
        rw [splice_get (by omega)] at hx'
        rw [List.toList_toArray] at hc'
        have hcc := splice_get (cs := us.toList) (new := v.cells.toList) (off := off) (by simpa using hsz) i
        simp only [Array.length_toList] at hcc
        rw [hcc] at hc'
        by_cases c1 : i < off
        · simp only [c1, if_true] at hx' hc'
          exact hr.get i q x' c' hq hx' hc'
        · simp only [c1, if_false] at hx' hc'
          by_cases c2 : i < off + v.cells.size
          · rw [if_pos c2] at hc'
            rw [if_pos (by rw [hnl, Array.length_toList]; exact c2)] at hx'
            refine hn.get (i - off) q x' c' ?_ hx' hc'
            have hit : i - off < tt.length := by omega
            have := hget (i - off) _ (List.getElem?_eq_getElem hit)
            rw [show off + (i - off) = i by omega, hq] at this
            rw [List.getElem?_eq_getElem hit]; exact this.symm
          · rw [if_neg c2] at hc'
            rw [if_neg (by rw [hnl, Array.length_toList]; exact c2)] at hx'
            exact hr.get i q x' c' hq hx' hc'
    refine ⟨hsz, by omega, xs, rfl, fun hag => ⟨new, hna hag, by omega, hrel⟩, fun hag => ?_⟩
    have hnw := hnb hag
    subst hnw
    have : setCells xs [y] off = xs.set off y := by
      unfold setCells
      have ho : off < xs.length := by simp at hl2; omega
      simp only [List.length_singleton]
      rw [List.set_eq_take_append_cons_drop, if_pos ho]
      simp
    rw [← this]; exact hrel
end
theorem take_splice {α : Type} {cs new : List α} {p m : Nat} (h : p + new.length ≤ m) (hm : m ≤ cs.length) :
  (cs.take p ++ new ++ cs.drop (p + new.length)).take m = (cs.take m).take p ++ new ++ (cs.take m).drop (p + new.length) := by
 apply List.ext_getElem?
 intro i
 rw [splice_get (by rw [List.length_take]; omega), List.getElem?_take, splice_get (by omega), List.getElem?_take]
 by_cases h1 : i < p
 ·simp [h1, show i < m by omega]
 ·by_cases h2 : i < p + new.length
  ·simp [h1, h2, show i < m by omega]
  ·simp only [h1, h2, if_false]
section
variable {P : Program} {w : World} {O : Nat → Prop}
theorem setAt_row {e t : TypeId} {off : Nat} {xs : List IV} {vs : List Value} {j : Nat} {y r : IV} {v : Value} (hE : RelE P w O e xs vs) (hy : Rel P w O t y v)
  (hg : ((off == 0 && t == e && sizeOk P e) || (isAggT P e && partOk P e off t && sizeOk P e)) = true)
  (hr : Prim.ev (.setAt off (sizeT P t) (isAggT P t) (off == 0 && t == e)) [.list xs, .int (j : Nat), y] = some r) :
  ∃ xs' vs', r = .list xs' ∧ xs'.length = xs.length ∧ RelE P w O e xs' vs' ∧ j * sizeT P e + off + v.cells.size ≤ (flatC vs).length ∧ v.cells.size = sizeT P t ∧
   flatC vs' = (flatC vs).take (j * sizeT P e + off) ++ v.cells.toList ++ (flatC vs).drop (j * sizeT P e + off + v.cells.size) := by
 simp only [Prim.ev, Int.natCast_nonneg, if_true, Int.toNat_natCast] at hr
 cases hx : xs[j]? with
 | none => simp [hx] at hr
 | some old =>
  obtain ⟨u, hu, hou⟩ := hE.get j old hx
  have hsz := fun a b => (hE.size a b).1
  have hus := hsz u (List.mem_of_getElem? hu)
  have hj := (List.getElem?_eq_some_iff.1 hu).1
  have hlen := flatC_len hsz
  have hjn : j * sizeT P e + sizeT P e ≤ vs.length * sizeT P e := by rw [← Nat.succ_mul]; exact Nat.mul_le_mul_right _ hj
  simp only [hx] at hr
  by_cases hw : (off == 0 && t == e) = true
  ·simp only [hw, if_true, Option.some.injEq] at hr
   subst hr
   simp only [Bool.and_eq_true, beq_iff_eq] at hw
   obtain ⟨rfl, rfl⟩ := hw
   have hso : sizeOk P t = true := by
    simp only [Bool.or_eq_true, Bool.and_eq_true] at hg
    rcases hg with hg | hg
    ·exact hg.2
    ·exact hg.2
   have hvs := hy.sized hso
   have hsp := flatC_set (vs := vs) (j := j) (off := 0) (u := u) (u' := v) (new := v.cells.toList) hsz hu (by rw [Array.length_toList, hvs]; omega)
    (by rw [List.take_zero, List.nil_append, Nat.zero_add, List.drop_of_length_le (by rw [Array.length_toList, Array.length_toList]; omega), List.append_nil])
   rw [Array.length_toList] at hsp
   exact ⟨_, _, rfl, by simp, RelE.set hE hy hvs, by omega, hvs, hsp⟩
  ·have hw' : (off == 0 && t == e) = false := by simpa using hw
   simp only [hw', Bool.false_and, Bool.false_or, Bool.and_eq_true] at hg
   obtain ⟨⟨ha, hp⟩, hso⟩ := hg
   obtain ⟨b1, b2, cs, rfl, hA, hB⟩ := hou.splice ha hp hy
   simp only [hw'] at hr
   have fin : ∀ {y' : IV}, Rel P w O e y' (.agg (u.cells.toList.take off ++ v.cells.toList ++ u.cells.toList.drop (off + v.cells.size)).toArray) → r = .list (xs.set j y') →
     ∃ xs' vs', r = .list xs' ∧ xs'.length = xs.length ∧ RelE P w O e xs' vs' ∧ j * sizeT P e + off + v.cells.size ≤ (flatC vs).length ∧ v.cells.size = sizeT P t ∧
      flatC vs' = (flatC vs).take (j * sizeT P e + off) ++ v.cells.toList ++ (flatC vs).drop (j * sizeT P e + off + v.cells.size) := by
    intro y' h1 h2
    have hsp := flatC_set (vs := vs) (j := j) (off := off) (u := u) (new := v.cells.toList) (u' := .agg (u.cells.toList.take off ++ v.cells.toList ++ u.cells.toList.drop (off + v.cells.size)).toArray) hsz hu
     (by rw [Array.length_toList]; omega) (by rw [Array.length_toList]; simp [Value.cells])
    rw [Array.length_toList] at hsp
    exact ⟨_, _, h2, by simp, RelE.set hE h1 (h1.sized hso), by omega, b2, hsp⟩
   cases hag : isAggT P t with
   | true =>
    obtain ⟨new, rfl, hn, hR⟩ := hA hag
    simp only [hag, hn, if_true, Bool.false_eq_true, if_false, Option.some.injEq] at hr
    exact fin hR hr.symm
   | false =>
    have hR := hB hag
    simp only [hag, Bool.false_eq_true, if_false, Option.some.injEq] at hr
    exact fin hR hr.symm
end
section
variable {P : Program} {N : Nat} {X : Nat → Prop} {R : Job → List IV → Option (List IV)} {ρ : List IV} {K : Nat → Prop} {S : View} {μ : Nat → Value} {a : Act} {w : World} {es es' : ES} {ls : List PLt} {sx : SX}
theorem relay_ok {k b : Nat} {o o' : Ob} {cs : Array Value} {e1 : ES} {nn : Nat} {val : Value} (p : Ph P N X ρ K S μ a w es e1) (ho : cur S e1.obs k = some o) (hown : o.isOwn = true) (hb : blk (μ k) = some b) (hkeys : ∀ k' ∈ keysOb o', K k')
    (hok : Later K (cxOf P X ρ (cur S e1.obs) μ w) (cxOf P X ρ (updOb (cur S e1.obs) k (some o')) (updM μ k (μ k)) (w.setRow b cs)) → ObOk (cxOf P X ρ (updOb (cur S e1.obs) k (some o')) (updM μ k (μ k)) (w.setRow b cs)) k o') :
    Out P N X ρ K S μ a w es { e1 with n := nn, obs := (k, some o') :: e1.obs } (one (.leaf .junk)) (updM μ k (μ k)) (w.setRow b cs) val := by
  have hKk := (p.good.ko k o ho).1
  have hP : Put P X ρ K (cur S e1.obs) (updOb (cur S e1.obs) k (some o')) μ w (w.setRow b cs) k o' (μ k) :=
    { other := fun k' o2 h h2 => by simpa [updOb, h] using h2
      here := by simp [updOb]
      same := fun k' _ => by unfold updM; split <;> simp_all
      step := wstep_setRow ⟨k, o, ho, hown, hb⟩ _
      rest := fun k' o2 b' h h2 hi hb' => by
        have h2' : cur S e1.obs k' = some o2 := by simpa [updOb, h] using h2
        refine setRow_other w b b' cs (fun e => ?_)
        subst e
        exact h (p.good.sep k' k o2 o b' h2' ho hi hown hb' hb)
      new := fun b' hb' => .inl ⟨⟨k, o, ho, hown, hb'⟩, fun k' o2 h h2 hi hb2 => h (p.good.sep k' k o2 o b' (by simpa [updOb, h] using h2) ho hi hown hb2 hb')⟩
      keys := fun k2 h2 => .inl (hkeys k2 h2) }
  have hK : ∀ k', K k' ∨ k' = k → withKeys K es.m e1.m k' := by
    rintro k' (h | rfl)
    · exact .inl h
    · exact .inl hKk
  refine ⟨?_, trivial, fun k h => by simp [keysSX, keysVV, keysLV, one] at h, ?_, ?_, hP.same⟩
  · show Good P N X ρ (withKeys K es.m e1.m) S.tm (cur S ((k, some o') :: e1.obs)) _ a _
    rw [cur_cons]
    exact hP.good p.good (hok hP.later) hK
  · have := hP.step
    exact ⟨this.os, this.tape, this.output, this.size, fun b hb hW => this.stays b hb fun h => hW (p.fewer.wr h)⟩
  · intro b' hb'
    have hb' : Wr (cur S ((k, some o') :: e1.obs)) _ b' := hb'
    rw [cur_cons] at hb'
    exact (hP.own p.good b' hb').imp p.fewer.wr id
theorem storeP_ok {p : PV} {t : TypeId} {vv : VV} {va v : Value} {u : Unit} (G : Good P N X ρ K S.tm (cur S es.obs) μ a w) (h : Ev S (storeP P p t vv) es u es' ls) (hl : LH R ρ ls) (hg : holds ρ es.gs = some true)
  (hp : PRel (cxOf P X ρ (cur S es.obs) μ w) p va) (hpk : ∀ k ∈ keysPV p, K k) (hv : VRel (cxOf P X ρ (cur S es.obs) μ w) vv v) (hvk : ∀ k ∈ keysVV vv, K k) :
  ∃ w' μ', (Instr.storeAt t va v).run P w = .ok () w' ∧ Out P N X ρ K S μ a w es es' (one (.leaf .junk)) μ' w' undef := by
 unfold storeP at h
 rw [Ev_bind] at h
 obtain ⟨_, _, _, _, h0, h, rfl⟩ := h
 rw [Ev_bare] at h0
 obtain ⟨_, rfl, rfl⟩ := h0
 have hl := hl.right
 cases p with
 | p k off =>
  rw [Ev_bind] at h
  obtain ⟨o, _, _, l2, h0, h, rfl⟩ := h
  rw [Ev_getOb] at h0
  obtain ⟨ho, rfl, rfl⟩ := h0
  have hl := hl.right
  cases o with
  | arr => simp [Ev_fail] at h
  | frz => simp [Ev_fail] at h
  | iter => simp [Ev_fail] at h
  | mp => simp [Ev_fail] at h
  | box t0 old =>
   obtain ⟨b, uu, o1, o2, o3, o4, o5, o6⟩ := G.obj k _ ho
   obtain ⟨b', p1, p2⟩ := hp
   have hbb : b' = b := by
    have h1' : μ k = .pointer (some ⟨b, 0, none⟩) := o1
    have p1' : μ k = .pointer (some ⟨b', 0, none⟩) := p1
    rw [h1'] at p1'; injection p1' with p1'; injection p1' with p1'; injection p1' with p1'; exact p1'.symm
   subst hbb
   have hblk : blk (μ k) = some b' := by
    have o1' : μ k = .pointer (some ⟨b', 0, none⟩) := o1
    rw [o1']; rfl
   subst p2
   have o2' : w.heap[b']? = some (.cells uu.cells t0 (0, 0)) := o2
   have o3' : uu.cells.size = sizeT P t0 := o3
   simp only [Ev_ite] at h
   rcases h with ⟨hc, h⟩ | ⟨hc, h⟩
   ·simp only [Bool.and_eq_true, beq_iff_eq] at hc
    obtain ⟨rfl, rfl⟩ := hc
    simp only [Ev_bind, Ev_guard, Ev_setOb] at h
    obtain ⟨_, _, _, _, ⟨g1, rfl, rfl⟩, ⟨rfl, rfl⟩, rfl⟩ := h
    obtain ⟨f1, f2, f3⟩ := fits_ok (c := cxOf P X ρ (cur S es.obs) μ w) g1 hv
    have f1 : v.cells.size = sizeT P t := f1
    obtain ⟨i, hi⟩ : ∃ i, P.info? t = some i := by
     by_cases ha : isAggT P t = true
     ·obtain ⟨d, hd⟩ := underlying_of_isAggT ha
      exact info_of_underlying' hd
     ·have ha' : isAggT P t = false := by simpa using ha
      have f2' : v.oneCell' = true := by
       have : (if isAggT P t then ∃ cs, v = .agg cs else v.oneCell' = true) := f2
       simpa [ha'] using this
      rw [one_cells f2'] at f1
      exact info_of_sizeT (by simp at f1; omega)
    have hrun := run_store_part (off := 0) hi o2' f1 (by omega) f3
    have hcells : (uu.cells.toList.take 0 ++ v.cells.toList ++ uu.cells.toList.drop (0 + v.cells.size)).toArray = v.cells := by
     rw [List.take_zero, List.nil_append, Nat.zero_add, List.drop_of_length_le (by rw [Array.length_toList]; omega), List.append_nil]
    rw [hcells] at hrun
    refine ⟨_, _, hrun, relay_ok (e1 := es) (.refl G) ho rfl hblk hvk (fun L => ?_)⟩
    exact ⟨b', v, by rw [show (cxOf P X ρ (updOb (cur S es.obs) k (some (.box t vv))) (updM μ k (μ k)) (w.setRow b' v.cells)).μ = updM μ k (μ k) from rfl, updM_eq]; exact o1,
     setRow_heap w b' uu.cells v.cells t (0, 0) o2', f1, f2, f3, L.vrel hvk hv⟩
   ·rw [Ev_bind] at h
    obtain ⟨_, _, _, _, h0, h, rfl⟩ := h
    rw [Ev_guard] at h0
    obtain ⟨g1, rfl, rfl⟩ := h0
    simp only [Bool.and_eq_true, decide_eq_true_eq] at g1
    obtain ⟨ga, gs⟩ := g1
    have hl := hl.right
    rw [Ev_bind] at h
    obtain ⟨cs, e1, l1, _, h1, h, rfl⟩ := h
    obtain ⟨⟨n1, rfl⟩, q1, q2⟩ := explode_ok h1 hl.left hg (G.ko k _ ho).2 o6
    rw [Ev_bind] at h
    obtain ⟨new, e2, l2, _, h2, h, rfl⟩ := h
    obtain ⟨⟨n2, rfl⟩, q3, q4⟩ := explode_ok (es := { es with n := n1 }) h2 hl.right.left hg hvk hv
    simp only [Ev_bind, Ev_guard, Ev_setOb] at h
    obtain ⟨_, _, _, _, ⟨g2, rfl, rfl⟩, ⟨rfl, rfl⟩, rfl⟩ := h
    simp only [Bool.and_eq_true, decide_eq_true_eq, beq_iff_eq] at g2
    obtain ⟨g2, g3⟩ := g2
    have hvl : v.cells.size = new.length := by rw [q3.len, Array.length_toList]
    have hcl : uu.cells.size = cs.length := by rw [q1.len, Array.length_toList]
    have f1 : v.cells.size = sizeT P t := by omega
    have f3 : ∀ u ∈ v.cells, u.oneCell' = true := fun u hu => q3.one u (by simpa using hu)
    obtain ⟨i, hi⟩ := info_of_sizeT gs
    have hrun := run_store_part (off := off) hi o2' f1 (by omega) f3
    refine ⟨_, updM μ k (μ k), hrun, ?_⟩
    have hkeys : ∀ k' ∈ keysVV (.agg t0 (cs.take off ++ new ++ cs.drop (off + new.length))), K k' := by
     intro k' hm
     simp only [keysVV, List.flatMap_append, List.mem_append] at hm
     rcases hm with (hm | hm) | hm
     ·simp only [List.mem_flatMap] at hm
      obtain ⟨l, hm, hk'⟩ := hm
      exact q2 k' (List.mem_flatMap.2 ⟨l, List.mem_of_mem_take hm, hk'⟩)
     ·exact q4 k' hm
     ·simp only [List.mem_flatMap] at hm
      obtain ⟨l, hm, hk'⟩ := hm
      exact q2 k' (List.mem_flatMap.2 ⟨l, List.mem_of_mem_drop hm, hk'⟩)
    refine relay_ok (e1 := es) (nn := n2) (.refl G) ho rfl hblk hkeys (fun L => ?_)
    have hspl := q1.splice q3 off
    have hcells : (uu.cells.toList.take off ++ v.cells.toList ++ uu.cells.toList.drop (off + v.cells.size)) = (uu.cells.toList.take off ++ v.cells.toList ++ uu.cells.toList.drop (off + v.cells.toList.length)) := by rw [Array.length_toList]
    rw [← hcells] at hspl
    refine ⟨b', .agg (uu.cells.toList.take off ++ v.cells.toList ++ uu.cells.toList.drop (off + v.cells.size)).toArray, ?_, setRow_heap w b' uu.cells _ t0 (0, 0) o2', ?_, ?_, ?_, ?_⟩
    ·show updM μ k (μ k) k = _
     rw [updM_eq]; exact o1
    ·have := splice_len (cs := uu.cells.toList) (new := v.cells.toList) (off := off) (by rw [Array.length_toList, Array.length_toList]; omega)
     rw [Array.length_toList, Array.length_toList] at this
     exact this.trans o3'
    ·show if isAggT P t0 then _ else _
     rw [if_pos ga]; exact ⟨_, rfl⟩
    ·intro u hu
     have hu' : u ∈ (uu.cells.toList.take off ++ v.cells.toList ++ uu.cells.toList.drop (off + v.cells.size)) := by simpa [Value.cells] using hu
     exact hspl.one u hu'
    ·exact ⟨_, rfl, by rw [List.toList_toArray]; exact L.crels hkeys hspl⟩
 | el k e iA off =>
  rw [Ev_bind] at h
  obtain ⟨x, e1, l1, _, h1, h, rfl⟩ := h
  obtain ⟨p, _, hD⟩ := toData_ok G h1 hl.left hg hvk hv
  obtain ⟨y, d1, d2⟩ := hD rfl
  have d1 : x.ev ρ = some y := d1
  have hl := hl.right
  rw [Ev_bind] at h
  obtain ⟨o, _, _, l2, h0, h, rfl⟩ := h
  rw [Ev_getOb] at h0
  obtain ⟨ho, rfl, rfl⟩ := h0
  have hl := hl.right
  cases o with
  | box => simp [Ev_fail] at h
  | frz => simp [Ev_fail] at h
  | iter => simp [Ev_fail] at h
  | mp => simp [Ev_fail] at h
  | arr e' tt c =>
   simp only [Ev_bind, Ev_guard, Ev_prim, Ev_setOb] at h
   obtain ⟨_, _, _, _, ⟨g1, rfl, rfl⟩, ⟨_, _, _, _, ⟨g2, rfl, rfl⟩, ⟨_, _, _, _, ⟨rfl, rfl, rfl⟩, ⟨rfl, rfl⟩, rfl⟩, rfl⟩, rfl⟩ := h
   have : e' = e := by simpa using g1
   subst this
   obtain ⟨ivs, cs, q1, q2, q3, q4, q5, q6⟩ := p.good.obj k _ ho
   have q1 : c.ev ρ = some (.list ivs) := q1
   obtain ⟨vs', r, r1, r2, r3⟩ := LH.prim hl.right.right.left (by rw [p.gs]; exact hg)
   obtain ⟨a1, a2, a3, s1, s2, s3, rfl⟩ := evs3 r1
   obtain ⟨g, n, cap, j, m1, m2, m3, rfl⟩ := hp
   have m2 : iA.ev ρ = some (.int (j : Nat)) := m2
   have m1 : μ k = .slice (some ⟨g, 0, none⟩) n cap := m1
   rw [q1] at s1; injection s1 with s1; subst s1
   rw [m2] at s2; injection s2 with s2; subst s2
   rw [d1] at s3; injection s3 with s3; subst s3
   obtain ⟨w1, q4⟩ := q4
   rcases q4 with ⟨q4, _⟩ | ⟨g', cap', cu, f1, f2, f3, f4, f5, f6, f7⟩
   ·have q4 : μ k = .slice none 0 0 := q4
    rw [m1] at q4; injection q4 with q4; cases q4
   ·have f1' : μ k = .slice (some ⟨g', 0, none⟩) ivs.length cap' := f1
    rw [m1] at f1'; injection f1' with i1 i2 i3
    injection i1 with i1; injection i1 with i1; subst i1; subst i2; subst i3
    have f3 : w.heap[g]? = some (.cells cu e' (0, 0)) := f3
    have w1 : cs.length = ivs.length * sizeT P e' := w1
    have q5 : Elems P w (cxOf P X ρ (cur S e1.obs) μ w).O e' ivs cs := q5
    obtain ⟨us, hE, rfl⟩ := q5.relE w1
    obtain ⟨xs', us', rfl, t1, t2, t3, t4, t5⟩ := setAt_row hE d2 g2 r2
    have f6 : cu.size = cap * sizeT P e' := f6
    have f7 : cu.toList.take (ivs.length * sizeT P e') = flatC us := f7
    have hcap : ivs.length * sizeT P e' ≤ cu.size := by rw [f6]; exact Nat.mul_le_mul_right _ f4
    obtain ⟨i, hi⟩ : ∃ i, P.info? t = some i := by
     simp only [Bool.or_eq_true, Bool.and_eq_true, beq_iff_eq] at g2
     by_cases ha : isAggT P t = true
     ·obtain ⟨d, hd⟩ := underlying_of_isAggT ha
      exact info_of_underlying' hd
     ·have ha' : isAggT P t = false := by simpa using ha
      have := (d2.one ha').1
      rw [one_cells this] at t4
      exact info_of_sizeT (by simp at t4; omega)
    have hrun := run_store_part (off := j * sizeT P e' + off) hi f3 t4 (by omega) d2.cells_one
    refine ⟨_, updM μ k (μ k), hrun, relay_ok (e1 := e1) p ho rfl (by rw [m1]; rfl) (fun k' hk => by cases hk) (fun L => ?_)⟩
    refine ⟨xs', flatC us', r3, q2, q3, ⟨?_, .inr ⟨g, cap, _, ?_, Nat.zero_le _, setRow_heap w g cu _ e' (0, 0) f3, by omega, f5, ?_, ?_⟩⟩, (RelE.later L t2).elems, flatC_one fun v hv => (t2.size v hv).2⟩
    ·rw [flatC_len fun v hv => (t2.size v hv).1, t2.len]; rfl
    ·show updM μ k (μ k) k = _
     rw [updM_eq, m1, t1]
    ·have := splice_len (cs := cu.toList) (new := v.cells.toList) (off := j * sizeT P e' + off) (by rw [Array.length_toList, Array.length_toList]; omega)
     rw [Array.length_toList, Array.length_toList] at this
     exact this.trans f6
    ·rw [List.toList_toArray, t1]
     have := take_splice (cs := cu.toList) (new := v.cells.toList) (p := j * sizeT P e' + off) (m := ivs.length * sizeT P e') (by rw [Array.length_toList]; omega) (by rw [Array.length_toList]; omega)
     rw [Array.length_toList] at this
     rw [t5, ← f7]; exact this
 | im x t0 off => simp [Ev_fail] at h
end
end Go.CT
namespace Go.CT
open EM
section
variable {P : Program} {N : Nat} {X : Nat → Prop} {R : Job → List IV → Option (List IV)} {ρ : List IV} {K : Nat → Prop} {S : View} {μ : Nat → Value} {a : Act} {w : World} {es es' : ES} {ls : List PLt} {sx : SX}
theorem zeroCells_flat (z : Value) (sz n : Nat) (hz : z.cells.size = sz) (hs : 0 < sz) : (Builtin.zeroCells z.cells n).toList = flatC (List.replicate n z) := by
 have h1 : Builtin.zeroCells z.cells n = madeCells z.cells (n * sz) := by simp [Builtin.zeroCells, madeCells, hz]
 have h2 := made_take z.cells sz n n hz hs (Nat.le_refl _)
 have h3 : (madeCells z.cells (n * sz)).toList.take (n * sz) = (madeCells z.cells (n * sz)).toList := by
  rw [List.take_of_length_le]
  rw [Array.length_toList, size_madeCells]; exact Nat.le_refl _
 rw [h1, ← h3, h2]
 simp only [flatC, List.flatMap_replicate]
 rfl
theorem flatC_cut {sz : Nat} : ∀ {us : List Value}, (∀ u ∈ us, u.cells.size = sz) → ∀ l, flatC (us.take l) = (flatC us).take (l * sz) ∧ flatC (us.drop l) = (flatC us).drop (l * sz)
 | [], _, l => by simp [flatC]
 | u :: us, h, 0 => by simp [flatC]
 | u :: us, h, l + 1 => by
  have ih := flatC_cut (us := us) (fun v hv => h v (List.mem_cons_of_mem _ hv)) l
  have hu : u.cells.toList.length = sz := by rw [Array.length_toList]; exact h u List.mem_cons_self
  have e0 : ∀ vs : List Value, flatC (u :: vs) = u.cells.toList ++ flatC vs := fun vs => by simp [flatC]
  have e1 : (l + 1) * sz = sz + l * sz := by rw [Nat.add_mul, Nat.one_mul]; omega
  rw [List.take_succ_cons, List.drop_succ_cons, e0, e0, ih.1, ih.2, e1]
  constructor
  ·rw [List.take_append, hu, List.take_of_length_le (l := u.cells.toList) (by omega)]
   congr 2; omega
  ·rw [List.drop_append, hu, List.drop_of_length_le (l := u.cells.toList) (by omega), List.nil_append]
   congr 1; omega
theorem RelE.cut {O : Nat → Prop} {e : TypeId} {xs : List IV} {us : List Value} (h : RelE P w O e xs us) (l : Nat) : RelE P w O e (xs.take l) (us.take l) ∧ RelE P w O e (xs.drop l) (us.drop l) := by
 have hlen := h.len
 refine ⟨RelE.of_get (by rw [List.length_take, List.length_take, hlen]) fun j x v hx hv => ?_, RelE.of_get (by rw [List.length_drop, List.length_drop, hlen]) fun j x v hx hv => ?_⟩
 ·rw [List.getElem?_take] at hx hv
  split at hx
  ·rename_i hj
   rw [if_pos hj] at hv
   obtain ⟨u, h1, h2⟩ := h.get j x hx
   rw [hv] at h1; injection h1 with h1; subst h1
   exact ⟨h2, (h.size v (List.mem_of_getElem? hv)).1⟩
  ·cases hx
 ·rw [List.getElem?_drop] at hx hv
  obtain ⟨u, h1, h2⟩ := h.get _ x hx
  rw [hv] at h1; injection h1 with h1; subst h1
  exact ⟨h2, (h.size v (List.mem_of_getElem? hv)).1⟩
theorem RelE.app {O : Nat → Prop} {e : TypeId} {xs ys : List IV} {us vs : List Value} (h : RelE P w O e xs us) (k : RelE P w O e ys vs) : RelE P w O e (xs ++ ys) (us ++ vs) := by
 have h1 := h.len
 have h2 := k.len
 refine RelE.of_get (by rw [List.length_append, List.length_append, h1, h2]) fun j x v hx hv => ?_
 by_cases hj : j < us.length
 ·rw [List.getElem?_append_left (by omega)] at hx
  rw [List.getElem?_append_left hj] at hv
  obtain ⟨u, q1, q2⟩ := h.get j x hx
  rw [hv] at q1; injection q1 with q1; subst q1
  exact ⟨q2, (h.size v (List.mem_of_getElem? hv)).1⟩
 ·rw [List.getElem?_append_right (by omega)] at hx hv
  rw [h1] at hx
  obtain ⟨u, q1, q2⟩ := k.get _ x hx
  rw [hv] at q1; injection q1 with q1; subst q1
  exact ⟨q2, (k.size v (List.mem_of_getElem? hv)).1⟩
theorem xClear_ok {t rt : TypeId} {x : Operand} (G : Good P N X ρ K S.tm (cur S es.obs) μ a w) (h : Ev S (xClear P t x) es sx es' ls) (hl : LH R ρ ls) (hg : holds ρ es.gs = some true) :
  ∃ v w' μ', (Builtin.clear_ #[t] rt #[a.eval x]).run P w = .ok v w' ∧ Out P N X ρ K S μ a w es es' sx μ' w' v := by
 unfold xClear at h
 rw [Ev_bind] at h
 obtain ⟨_, _, _, _, h0, h, rfl⟩ := h
 rw [Ev_bare] at h0
 obtain ⟨_, rfl, rfl⟩ := h0
 rw [Ev_bind] at h
 obtain ⟨e, _, _, _, h0, h, rfl⟩ := h
 rw [Ev_ofOption] at h0
 obtain ⟨he, rfl, rfl⟩ := h0
 rw [Ev_bind] at h
 obtain ⟨_, _, _, _, h0, h, rfl⟩ := h
 rw [Ev_guard] at h0
 obtain ⟨g1, rfl, rfl⟩ := h0
 simp only [Bool.and_eq_true, decide_eq_true_eq] at g1
 obtain ⟨g1, g3⟩ := g1
 rw [Ev_bind] at h
 obtain ⟨zi, _, _, _, h0, h, rfl⟩ := h
 rw [Ev_ofOption] at h0
 obtain ⟨hz, rfl, rfl⟩ := h0
 rw [Ev_bind] at h
 obtain ⟨xv, e1, l1, _, h1, h, rfl⟩ := h
 obtain ⟨rfl, rfl, p1, p2⟩ := rd1_ok G h1 hg
 split at h
 rotate_left
 ·simp [Ev_fail] at h
 rename_i k lo hi t'
 rw [Ev_bind] at h
 obtain ⟨o, _, _, l2, h0, h, rfl⟩ := h
 rw [Ev_getOb] at h0
 obtain ⟨ho, rfl, rfl⟩ := h0
 cases o with
 | box => simp [Ev_fail] at h
 | frz => simp [Ev_fail] at h
 | iter => simp [Ev_fail] at h
 | mp => simp [Ev_fail] at h
 | arr e' tt c =>
  simp only [Ev_bind, Ev_guard, Ev_prim, Ev_setOb, Ev_pure] at h
  obtain ⟨_, _, _, _, ⟨g4, rfl, rfl⟩, ⟨_, _, _, _, ⟨rfl, rfl, rfl⟩, ⟨_, _, _, _, ⟨rfl, rfl⟩, ⟨rfl, rfl, rfl⟩, rfl⟩, rfl⟩, rfl⟩ := h
  simp only [Bool.and_eq_true, beq_iff_eq] at g4
  obtain ⟨rfl, g4⟩ := g4
  obtain ⟨ivs, cs, q1, q2, q3, q4, q5, q6⟩ := G.obj k _ ho
  have q1 : c.ev ρ = some (.list ivs) := q1
  have hl' := hl.right.right.right.right.right.right.right
  obtain ⟨vs', r, r1, r2, r3⟩ := LH.prim (by simpa using hl') hg
  obtain ⟨a1, a2, a3, s1, s2, s3, rfl⟩ := evs3 r1
  obtain ⟨A, n, cap, l, h, e0, m0, m1, m2, m3, m4, m5, hv⟩ := p1
  have m2 : lo.ev ρ = some (.int (l : Nat)) := m2
  have m3 : hi.ev ρ = some (.int (h : Nat)) := m3
  have m1 : μ k = .slice A n cap := m1
  have m0 : P.underlying t' = some (.slice e0) := m0
  rw [elemT_eq g4] at m0; injection m0 with m0; injection m0 with m0; subst m0
  rw [q1] at s1; injection s1 with s1; subst s1
  rw [m2] at s2; injection s2 with s2; subst s2
  rw [m3] at s3; injection s3 with s3; subst s3
  simp only [Prim.ev] at r2
  rw [Option.ite_none_right_eq_some] at r2
  obtain ⟨⟨hpos, _, _, hle⟩, r2⟩ := r2
  injection r2 with r2
  subst r2
  have hle : h ≤ ivs.length := by omega
  simp only [Int.toNat_natCast] at r3
  obtain ⟨w1, q4⟩ := q4
  rcases q4 with ⟨_, q4⟩ | ⟨g, cap', cu, f1, f2, f3, f4, f5, f6, f7⟩
  ·omega
  have f1' : μ k = .slice (some ⟨g, 0, none⟩) ivs.length cap' := f1
  rw [m1] at f1'; injection f1' with i1 i2 i3
  subst i1; subst i2; subst i3
  have f3 : w.heap[g]? = some (.cells cu e (0, 0)) := f3
  have w1 : cs.length = ivs.length * sizeT P e := w1
  have q5 : Elems P w (cxOf P X ρ (cur S es.obs) μ w).O e ivs cs := q5
  obtain ⟨us, hE, rfl⟩ := q5.relE w1
  have f6 : cu.size = cap * sizeT P e := f6
  have f7 : cu.toList.take (ivs.length * sizeT P e) = flatC us := f7
  have hcap : ivs.length * sizeT P e ≤ cu.size := by rw [f6]; exact Nat.mul_le_mul_right _ f4
  obtain ⟨i, z, z1, z2, z3, z4, z5⟩ := zero_of g3
  obtain ⟨i', z', z1', z2', hrel⟩ := zeroIV_rel (w := w) (O := (cxOf P X ρ (cur S es.obs) μ w).O) hz
  rw [z1] at z1'; injection z1' with z1'; subst z1'
  rw [z2] at z2'; injection z2' with z2'; subst z2'
  have hrep : RelE P w (cxOf P X ρ (cur S es.obs) μ w).O e (List.replicate (h - l) zi) (List.replicate (h - l) z) :=
   RelE.of_get (by simp) fun j x v hx hv => by
    simp [List.getElem?_replicate] at hx hv
    obtain ⟨_, rfl⟩ := hx
    obtain ⟨_, rfl⟩ := hv
    exact ⟨hrel, z3⟩
  have t2 : RelE P w (cxOf P X ρ (cur S es.obs) μ w).O e (ivs.take l ++ List.replicate (h - l) zi ++ ivs.drop h) (us.take l ++ List.replicate (h - l) z ++ us.drop h) :=
   ((hE.cut l).1.app hrep).app (hE.cut h).2
  have hsz := fun a b => (hE.size a b).1
  have hul : us.length = ivs.length := hE.len.symm
  have hfl : (flatC us).length = ivs.length * sizeT P e := by rw [flatC_len hsz, hul]
  have hzl : (Builtin.zeroCells z.cells (h - l)).toList = flatC (List.replicate (h - l) z) := zeroCells_flat z (sizeT P e) (h - l) z3 g1
  have hzn : (flatC (List.replicate (h - l) z)).length = (h - l) * sizeT P e := by
   rw [flatC_len (sz := sizeT P e) (fun v hv => by rw [(List.mem_replicate.1 hv).2]; exact z3), List.length_replicate]
  have e3 : l * sizeT P e + (h - l) * sizeT P e = h * sizeT P e := by rw [← Nat.add_mul]; congr 1; omega
  have hh : h * sizeT P e ≤ ivs.length * sizeT P e := Nat.mul_le_mul_right _ hle
  have hflat : flatC (us.take l ++ List.replicate (h - l) z ++ us.drop h) = (flatC us).take (l * sizeT P e) ++ flatC (List.replicate (h - l) z) ++ (flatC us).drop (l * sizeT P e + (flatC (List.replicate (h - l) z)).length) := by
   rw [flatC_append, flatC_append, (flatC_cut hsz l).1, (flatC_cut hsz h).2, hzn, e3]
  have hn3 : (ivs.take l ++ List.replicate (h - l) zi ++ ivs.drop h).length = ivs.length := by
   simp only [List.length_append, List.length_take, List.length_replicate, List.length_drop]; omega
  -- what is laid
  have hrun : (Builtin.clear_ #[t] rt #[a.eval x]).run P w = .ok (.tuple #[]) (w.setRow g (cu.toList.take (l * sizeT P e) ++ flatC (List.replicate (h - l) z) ++ cu.toList.drop (l * sizeT P e + (flatC (List.replicate (h - l) z)).length)).toArray) := by
   have hund : (underlying t).run P w = .ok (.slice e) w := by simp [underlying, elemT_eq he]
   have hv' : a.eval x = .slice (if cap = l then some (⟨g, 0, none⟩ : Addr) else (some (⟨g, 0, none⟩ : Addr)).map (·.add (l * sizeT P e))) (h - l) (cap - l) := hv
   rw [hv']
   by_cases hlh : h - l = 0
   ·have hself : (cu.toList.take (l * sizeT P e) ++ flatC (List.replicate (h - l) z) ++ cu.toList.drop (l * sizeT P e + (flatC (List.replicate (h - l) z)).length)).toArray = cu := by
     rw [hlh]; simp [flatC]
    rw [hself, setRow_self w g cu e (0, 0) f3, hlh]
    generalize (if cap = l then some (⟨g, 0, none⟩ : Addr) else (some (⟨g, 0, none⟩ : Addr)).map (·.add (l * sizeT P e))) = Y
    unfold Builtin.clear_
    simp only [List.getElem?_toArray, List.getElem?_cons_zero, Sem.run_bind, hund, Result.andThen_ok]
    cases Y <;> simp
   ·have hcl : ¬ cap = l := by omega
    obtain ⟨nn, hnn⟩ : ∃ nn, h - l = nn + 1 := ⟨h - l - 1, by omega⟩
    have hst := run_storeCells_at (P := P) g (l * sizeT P e) e (flatC (List.replicate (h - l) z)) 0 cu w f3 (by rw [hzn]; omega) (fun v hv => by
     exact flatC_one (fun u hu => by rw [(List.mem_replicate.1 hu).2]; exact (hrep.size z (by rw [hnn]; simp)).2) v hv)
    simp only [Nat.add_zero] at hst
    rw [if_neg hcl]
    simp only [Option.map_some, addr_of]
    unfold Builtin.clear_
    simp only [List.getElem?_toArray, List.getElem?_cons_zero, Sem.run_bind, hund, Result.andThen_ok]
    rw [hnn]
    simp only [Sem.run_bind, zeroValue, typeInfo]
    rw [← hnn]
    simp [z1, z2, hzl, hst]
  refine ⟨_, _, updM μ k (μ k), hrun, relay_ok (e1 := es) (.refl G) ho rfl (by rw [m1]; rfl) (fun k' hk => by cases hk) (fun L => ?_)⟩
  refine ⟨_, flatC (us.take l ++ List.replicate (h - l) z ++ us.drop h), r3, q2, q3, ⟨?_, .inr ⟨g, cap, _, ?_, Nat.zero_le _, setRow_heap w g cu _ e (0, 0) f3, by omega, f5, ?_, ?_⟩⟩, (RelE.later L t2).elems, flatC_one fun v hv => (t2.size v hv).2⟩
  ·rw [flatC_len fun v hv => (t2.size v hv).1, ← t2.len]; rfl
  ·show updM μ k (μ k) k = _
   rw [updM_eq, m1, hn3]
  ·have := splice_len (cs := cu.toList) (new := flatC (List.replicate (h - l) z)) (off := l * sizeT P e) (by rw [hzn, Array.length_toList]; omega)
   rw [Array.length_toList] at this
   exact this.trans f6
  ·rw [List.toList_toArray, hn3]
   have := take_splice (cs := cu.toList) (new := flatC (List.replicate (h - l) z)) (p := l * sizeT P e) (m := ivs.length * sizeT P e) (by rw [hzn]; omega) (by rw [Array.length_toList]; omega)
   rw [hflat, ← f7]; exact this
end
end Go.CT
namespace Go.CT
open EM
def setHeap (w : World) (r : Nat) (o : Obj) : World := { w with heap := w.heap.setIfInBounds r o }
theorem setHeap_at {w : World} {r : Nat} {o o' : Obj} (h : w.heap[r]? = some o') : (setHeap w r o).heap[r]? = some o := by
 have hlt : r < w.heap.size := (Array.getElem?_eq_some_iff.1 h).1
 simp [setHeap, hlt]
theorem setHeap_step (w : World) (r : Nat) (o : Obj) : WStep (· = r) w (setHeap w r o) :=
 ⟨rfl, rfl, rfl, by simp [setHeap], fun b _ h => by
  have h : ¬ b = r := h
  simp [setHeap, Ne.symm h]⟩
section
variable {P : Program} {N : Nat} {X : Nat → Prop} {R : Job → List IV → Option (List IV)} {ρ : List IV} {K : Nat → Prop} {S : View} {μ : Nat → Value} {a : Act} {w w' : World} {es es' : ES} {ls : List PLt} {sx : SX}
theorem relay2_ok {k b : Nat} {o o' : Ob} {e1 : ES} {nn : Nat} {val : Value} (p : Ph P N X ρ K S μ a w es e1) (ho : cur S e1.obs k = some o) (hown : o.isOwn = true) (hb : blk (μ k) = some b) (hkeys : ∀ k' ∈ keysOb o', K k')
    (hstep : WStep (· = b) w w')
    (hok : Later K (cxOf P X ρ (cur S e1.obs) μ w) (cxOf P X ρ (updOb (cur S e1.obs) k (some o')) (updM μ k (μ k)) w') → ObOk (cxOf P X ρ (updOb (cur S e1.obs) k (some o')) (updM μ k (μ k)) w') k o')
    (hx : XRel (cxOf P X ρ (updOb (cur S e1.obs) k (some o')) (updM μ k (μ k)) w') sx val) (hs : ∀ k ∈ keysSX sx, K k) :
    Out P N X ρ K S μ a w es { e1 with n := nn, obs := (k, some o') :: e1.obs } sx (updM μ k (μ k)) w' val := by
  have hKk := (p.good.ko k o ho).1
  have hW : WStep (Wr (cur S e1.obs) μ) w w' := ⟨hstep.os, hstep.tape, hstep.output, hstep.size, fun b' hb' hw => hstep.stays b' hb' fun e => hw (by have e : b' = b := e; subst e; exact ⟨k, o, ho, hown, hb⟩)⟩
  have hP : Put P X ρ K (cur S e1.obs) (updOb (cur S e1.obs) k (some o')) μ w w' k o' (μ k) :=
    { other := fun k' o2 h h2 => by simpa [updOb, h] using h2
      here := by simp [updOb]
      same := fun k' _ => by unfold updM; split <;> simp_all
      step := hW
      rest := fun k' o2 b' h h2 hi hb' => by
        have h2' : cur S e1.obs k' = some o2 := by simpa [updOb, h] using h2
        have hlt := p.good.blk_lt h2' hi hb'
        refine hstep.stays b' hlt fun e => ?_
        have e : b' = b := e
        subst e
        exact h (p.good.sep k' k o2 o b' h2' ho hi hown hb' hb)
      new := fun b' hb' => .inl ⟨⟨k, o, ho, hown, hb'⟩, fun k' o2 h h2 hi hb2 => h (p.good.sep k' k o2 o b' (by simpa [updOb, h] using h2) ho hi hown hb2 hb')⟩
      keys := fun k2 h2 => .inl (hkeys k2 h2) }
  have hK : ∀ k', K k' ∨ k' = k → withKeys K es.m e1.m k' := by
    rintro k' (h | rfl)
    · exact .inl h
    · exact .inl hKk
  refine ⟨?_, ?_, fun k h => .inl (hs k h), ?_, ?_, hP.same⟩
  · show Good P N X ρ (withKeys K es.m e1.m) S.tm (cur S ((k, some o') :: e1.obs)) _ a _
    rw [cur_cons]
    exact hP.good p.good (hok hP.later) hK
  · show XRel (cxOf P X ρ (cur S ((k, some o') :: e1.obs)) _ _) _ _
    rw [cur_cons]; exact hx
  · exact ⟨hW.os, hW.tape, hW.output, hW.size, fun b hb hW' => hW.stays b hb fun h => hW' (p.fewer.wr h)⟩
  · intro b' hb'
    have hb' : Wr (cur S ((k, some o') :: e1.obs)) _ b' := hb'
    rw [cur_cons] at hb'
    exact (hP.own p.good b' hb').imp p.fewer.wr id
theorem BRel.text {c : Cx} {x : Arg} {t : TypeId} {v : Value} (h : BRel c x t v) (ht : c.P.underlying t = some .string) : ∃ s, x.ev c.ρ = some (.str s) ∧ v = .string s := by
 obtain ⟨iv, h1, h2, _⟩ := h
 obtain ⟨s, rfl, rfl⟩ := h2.str_inv ht
 exact ⟨s, h1, rfl⟩
theorem xRange_ok {t : TypeId} {x : Operand} (G : Good P N X ρ K S.tm (cur S es.obs) μ a w) (h : Ev S (xRange P t x) es sx es' ls) (hl : LH R ρ ls) (hg : holds ρ es.gs = some true) (hfresh : ∀ k, es.m ≤ k → k < es'.m → ¬ K k) :
  ∃ v w' μ', (Instr.range t (a.eval x)).run P w = .ok v w' ∧ Out P N X ρ K S μ a w es es' sx μ' w' v := by
 unfold xRange at h
 rw [Ev_bind] at h
 obtain ⟨_, _, _, _, h0, h, rfl⟩ := h
 rw [Ev_bare] at h0
 obtain ⟨_, rfl, rfl⟩ := h0
 rw [Ev_bind] at h
 obtain ⟨_, _, _, _, h0, h, rfl⟩ := h
 rw [Ev_guard] at h0
 obtain ⟨g0, rfl, rfl⟩ := h0
 have ht := isStr_eq g0
 rw [Ev_bind] at h
 obtain ⟨y, e1, l1, _, h1, h, rfl⟩ := h
 have hl := hl.right.right
 obtain ⟨p, q⟩ := rdData_ok G h1 hl.left hg
 obtain ⟨s, q1, q2⟩ := q.text ht
 simp only [Ev_bind, Ev_newKey, Ev_setOb, Ev_pure] at h
 obtain ⟨_, _, _, _, ⟨rfl, rfl, rfl⟩, ⟨_, _, _, _, ⟨rfl, rfl⟩, ⟨rfl, rfl, rfl⟩, rfl⟩, rfl⟩ := h
 rw [q2]
 refine ⟨.pointer (some ⟨w.heap.size, 0, none⟩), w.alloc (.stringIter s 0), _, ?_, newOb_ok (nn := e1.n) (hdr := .pointer (some ⟨w.heap.size, 0, none⟩)) p hfresh rfl (fun k hk => by cases hk) (fun L => ?_) ?_ (fun k hk => ?_)⟩
 ·simp [Instr.range, underlying, ht]
 ·refine ⟨w.heap.size, 0, s, updM_eq, ?_, q1, rfl⟩
  exact heap_alloc_new w _
 ·exact ⟨w.heap.size, updM_eq, by rw [addr_add_zero]⟩
 ·simpa [keysSX, keysVV, keysLV, keysPV, one] using hk
theorem xNext_ok {it : Operand} {isS : Bool} {ty : TypeId} (G : Good P N X ρ K S.tm (cur S es.obs) μ a w) (h : Ev S (xNext P it isS) es sx es' ls) (hl : LH R ρ ls) (hg : holds ρ es.gs = some true) :
  ∃ v w' μ', (Instr.next (a.eval it) isS ty).run P w = .ok v w' ∧ Out P N X ρ K S μ a w es es' sx μ' w' v := by
 unfold xNext at h
 rw [Ev_bind] at h
 obtain ⟨_, _, _, _, h0, h, rfl⟩ := h
 rw [Ev_bare] at h0
 obtain ⟨_, rfl, rfl⟩ := h0
 rw [Ev_bind] at h
 obtain ⟨_, _, _, _, h0, h, rfl⟩ := h
 rw [Ev_guard] at h0
 obtain ⟨g0, rfl, rfl⟩ := h0
 subst g0
 rw [Ev_bind] at h
 obtain ⟨vv, e1, l1, _, h1, h, rfl⟩ := h
 rw [Ev_bind] at h
 obtain ⟨p, e2, l2, _, h2, h, rfl⟩ := h
 obtain ⟨rfl, rfl, rfl, hp, hpk⟩ := rdPtr_ok G h1 h2 hg
 have hl : LH R ρ _ := hl.right.right.right.right
 unfold xNextAt at h
 split at h
 ·rename_i k
  rw [Ev_bind] at h
  obtain ⟨o, _, _, l3, h0, h, rfl⟩ := h
  rw [Ev_getOb] at h0
  obtain ⟨ho, rfl, rfl⟩ := h0
  have hl := hl.right
  split at h
  ·rename_i s q
   simp only [Ev_bind, Ev_prim, Ev_setOb, Ev_pure] at h
   obtain ⟨_, _, _, _, ⟨rfl, rfl, rfl⟩, ⟨_, _, _, _, ⟨rfl, rfl, rfl⟩, ⟨_, _, _, _, ⟨rfl, rfl, rfl⟩, ⟨_, _, _, _, ⟨rfl, rfl⟩, ⟨rfl, rfl, rfl⟩, rfl⟩, rfl⟩, rfl⟩, rfl⟩ := h
   obtain ⟨b, n, bs, o1, o2, o3, o4⟩ := G.obj k _ ho
   have o1 : μ k = .pointer (some ⟨b, 0, none⟩) := o1
   have o2 : w.heap[b]? = some (.stringIter bs n) := o2
   have o3 : s.ev ρ = some (.str bs) := o3
   have o4 : q.ev ρ = some (.int n) := o4
   have two : ∀ {pr : Prim} {m : Nat}, LH R ρ [⟨m, ⟨es.gs, .prim pr [s, q]⟩⟩] → ∃ y, pr.ev [.str bs, .int n] = some y ∧ Arg.ev ρ (.v m) = some y := by
    intro pr m hh
    obtain ⟨vs, y, r1, r2, r3⟩ := LH.prim hh hg
    obtain ⟨u, v, s1, s2, rfl⟩ := evs2 r1
    rw [o3] at s1; rw [o4] at s2
    injection s1 with s1; injection s2 with s2; subst s1; subst s2
    exact ⟨y, r2, r3⟩
   obtain ⟨y1, r1, t1⟩ := two hl.left
   obtain ⟨y2, r2, t2⟩ := two hl.right.left
   obtain ⟨y3, r3, t3⟩ := two hl.right.right.left
   simp only [Prim.ev, Int.natCast_nonneg, if_true, Int.toNat_natCast, Option.some.injEq] at r1 r2 r3
   subst r1; subst r2; subst r3
   have hv : a.eval it = .pointer (some ⟨b, 0, none⟩) := by
    obtain ⟨b', r1, r2⟩ := hp
    have r1' : μ k = .pointer (some ⟨b', 0, none⟩) := r1
    rw [o1] at r1'; injection r1' with r1'; injection r1' with r1'; injection r1' with r1'
    subst r1'
    rw [r2, addr_add_zero]
   rw [hv]
   by_cases hlt : n < bs.size
   ·simp only [hlt, if_true, decide_true] at t1 t2 t3
    refine ⟨.tuple #[.bool true, .int .i64 n, .int .i32 (Utf8.decode bs n).1], setHeap w b (.stringIter bs (n + (Utf8.decode bs n).2)), updM μ k (μ k), ?_, relay2_ok (e1 := es) (.refl G) ho rfl (by rw [o1]; rfl) (fun k hk => by cases hk) (setHeap_step w b _) (fun L => ?_) ?_ (fun k hk => by cases hk)⟩
    ·simp [Instr.next, getObj, setObj, Sem.run, o2, hlt, setHeap, Result.andThen, goInt]
    ·refine ⟨b, n + (Utf8.decode bs n).2, bs, updM_eq.trans o1, setHeap_at o2, o3, ?_⟩
     show Arg.ev ρ _ = _
     rw [t3]; simp
    ·exact ⟨true, n, (Utf8.decode bs n).1, t1, o4, t2, rfl⟩
   ·simp only [hlt, if_false, decide_false] at t1 t2 t3
    refine ⟨.tuple #[.bool false], w, updM μ k (μ k), ?_, relay2_ok (e1 := es) (.refl G) ho rfl (by rw [o1]; rfl) (fun k hk => by cases hk) (.refl _ _) (fun L => ?_) ?_ (fun k hk => by cases hk)⟩
    ·simp [Instr.next, getObj, Sem.run, o2, hlt, Result.andThen]
    ·refine ⟨b, n, bs, updM_eq.trans o1, o2, o3, ?_⟩
     show Arg.ev ρ _ = _
     rw [t3]
    ·exact ⟨false, n, 0, t1, o4, t2, rfl⟩
  ·simp [Ev_fail] at h
 ·simp [Ev_fail] at h
theorem xExtract2_ok {x : Operand} {i : Nat} {rt : TypeId} (G : Good P N X ρ K S.tm (cur S es.obs) μ a w) (h : Ev S (do
   match ← rd P x 0 with
   | .tup vs => do pure (.one (← ofOption vs[i]?))
   | .nx ok p r => xNx P ok p r i rt
   | _ => fail : EM SX) es sx es' ls) (hl : LH R ρ ls) (hg : holds ρ es.gs = some true) :
  ∃ v, (Instr.extract (a.eval x) i).run P w = .ok v w ∧ Out P N X ρ K S μ a w es es' sx μ w v := by
 rw [Ev_bind] at h
 obtain ⟨s, e1, l1, _, h1, h, rfl⟩ := h
 obtain ⟨rfl, rfl, h3, h4⟩ := rd_ok G h1 hg
 split at h
 ·rename_i vs
  simp only [Ev_bind, Ev_ofOption, Ev_pure] at h
  obtain ⟨vv, _, _, _, ⟨g1, rfl, rfl⟩, ⟨rfl, rfl, rfl⟩, rfl⟩ := h
  obtain ⟨us, hu, hr⟩ := h3
  obtain ⟨u, q1, q2⟩ := hr.get i vv g1
  refine ⟨u, ?_, Ph.out (.refl G) q2 (fun k hm => h4 k ?_)⟩
  ·rw [hu]
   have : us[i]? = some u := by simpa using q1
   simp [Instr.extract, this]
  ·simp only [keysSX, List.mem_flatMap] at hm ⊢
   exact ⟨vv, List.mem_of_getElem? g1, hm⟩
 ·rename_i ok p r
  obtain ⟨b, n, m, d1, d2, d3, hu⟩ := h3
  have d1 : ok.ev ρ = some (.bool b) := d1
  have d2 : p.ev ρ = some (.int n) := d2
  have d3 : r.ev ρ = some (.int m) := d3
  have hl := hl.right
  have need : ∀ {es e2 : ES} {l2 : List PLt} {z : Arg}, Ev S (prim .need [ok]) es z e2 l2 → LH R ρ l2 → holds ρ es.gs = some true → b = true ∧ e2 = { es with n := es.n + 1 } := by
   intro es e2 l2 z hh hl hg
   rw [Ev_prim] at hh
   obtain ⟨rfl, rfl, rfl⟩ := hh
   obtain ⟨vs, y, r1, r2, r3⟩ := LH.prim hl hg
   obtain ⟨u, s1, rfl⟩ := evs1 r1
   rw [d1] at s1; injection s1 with s1; subst s1
   simp only [Prim.ev] at r2
   split at r2
   ·exact ⟨by assumption, rfl⟩
   ·cases r2
  unfold xNx at h
  split at h
  ·simp only [Ev_bind, Ev_guard, Ev_pure] at h
   obtain ⟨_, _, _, _, ⟨g1, rfl, rfl⟩, ⟨rfl, rfl, rfl⟩, rfl⟩ := h
   refine ⟨.bool b, ?_, Ph.out (.refl G) ⟨.bool b, d1, .bool (isBool_eq g1)⟩ (keys_dat _ _)⟩
   rw [hu]; cases b <;> simp [Instr.extract]
  ·simp only [Ev_bind, Ev_guard, Ev_pure] at h
   obtain ⟨_, _, _, _, ⟨g1, rfl, rfl⟩, ⟨z, e2, l2, _, h2, ⟨rfl, rfl, rfl⟩, rfl⟩, rfl⟩ := h
   obtain ⟨rfl, rfl⟩ := need h2 hl.right.left hg
   have g1 : intK P rt = some .i64 := by simpa using g1
   refine ⟨.int .i64 n, ?_, Ph.out (.same G rfl rfl rfl) ⟨.int n, d2, .int (intK_eq g1)⟩ (keys_dat _ _)⟩
   rw [hu]; simp [Instr.extract]
  ·simp only [Ev_bind, Ev_guard, Ev_pure] at h
   obtain ⟨_, _, _, _, ⟨g1, rfl, rfl⟩, ⟨z, e2, l2, _, h2, ⟨rfl, rfl, rfl⟩, rfl⟩, rfl⟩ := h
   obtain ⟨rfl, rfl⟩ := need h2 hl.right.left hg
   have g1 : intK P rt = some .i32 := by simpa using g1
   refine ⟨.int .i32 m, ?_, Ph.out (.same G rfl rfl rfl) ⟨.int m, d3, .int (intK_eq g1)⟩ (keys_dat _ _)⟩
   rw [hu]; simp [Instr.extract]
  ·simp [Ev_fail] at h
 ·simp [Ev_fail] at h
end
end Go.CT
namespace Go.CT
open EM
section
variable {P : Program} {w : World} {O O' : Nat → Prop} {kt vt : TypeId}
theorem same_ev (hk : keyT P kt = true) {a b : IV} {u v : Value} (h1 : Rel P w O kt a u) (h2 : Rel P w O' kt b v) :
  ∃ d r, P.underlying kt = some d ∧ MapKept.IsKey d u ∧ a.eqLeaf b = some r ∧ Instr.sameNow d u v = some r ∧ (r = true → v = u) := by
 unfold keyT at hk
 rw [Bool.or_eq_true] at hk
 rcases hk with hk | hk
 ·obtain ⟨k, hk⟩ := Option.isSome_iff_exists.1 hk
  have ht := intK_eq hk
  obtain ⟨n, rfl, rfl⟩ := h1.int_inv ht
  obtain ⟨m, rfl, rfl⟩ := h2.int_inv ht
  refine ⟨_, n == m, ht, rfl, rfl, by simp [Instr.sameNow], fun h => ?_⟩
  rw [beq_iff_eq] at h; rw [h]
 ·have ht := isStr_eq hk
  obtain ⟨n, rfl, rfl⟩ := h1.str_inv ht
  obtain ⟨m, rfl, rfl⟩ := h2.str_inv ht
  have e : (n.toList == m.toList) = (n == m) := by
   rw [Bool.eq_iff_iff, beq_iff_eq, MapKept.bytes_beq, ByteArray.toList_eq, ByteArray.toList_eq]
   constructor
   ·intro h; cases n; cases m; simpa using h
   ·rintro rfl; rfl
  refine ⟨_, n == m, ht, trivial, by simp only [IV.eqLeaf, e], by simp [Instr.sameNow], fun h => ?_⟩
  rw [MapKept.bytes_beq] at h; rw [h]
theorem mfind_ok {d : TypeDesc} {key : IV} {kv : Value} (hk : keyT P kt = true) (hd : P.underlying kt = some d) (h1 : Rel P w O' kt key kv) (h1' : Rel P w O kt key kv) : ∀ (xs : List IV) (es : List MapEntry) (i : Nat), MapsTo P w O kt vt xs es →
  (mfind key xs = some none ∧ Instr.findNow d kv es i = some none ∧ ∀ val, mput key val xs = some (xs ++ [.agg [key, val]])) ∨
  (∃ j e b, mfind key xs = some (some b) ∧ Instr.findNow d kv es i = some (some (i + j, e.val)) ∧ es[j]? = some e ∧ e.key = kv ∧ Rel P w O vt b e.val ∧
   ∀ val valv, Rel P w O vt val valv → ∃ ys, mput key val xs = some ys ∧ MapsTo P w O kt vt ys (es.modify j fun e => { e with key := kv, val := valv }))
 | [], [], i, _ => .inl ⟨rfl, rfl, fun _ => rfl⟩
 | x :: xs, e :: es, i, h => by
  obtain ⟨⟨a, b, rfl, h2, h3⟩, h4⟩ := h
  obtain ⟨d', r, g1, g2, g3, g4, g5⟩ := same_ev hk h1 h2
  rw [hd] at g1; injection g1 with g1; subst g1
  cases r with
  | true =>
   refine .inr ⟨0, e, b, by simp [mfind, g3], by simp [Instr.findNow, g4], rfl, g5 rfl, h3, fun val valv hv => ⟨.agg [key, val] :: xs, by simp [mput, g3], ?_⟩⟩
   exact ⟨⟨key, val, rfl, h1', hv⟩, h4⟩
  | false =>
   rcases mfind_ok hk hd h1 h1' xs es (i + 1) h4 with ⟨q1, q2, q3⟩ | ⟨j, e', b', q1, q2, q3, q4, q5, q6⟩
   ·exact .inl ⟨by simp [mfind, g3, q1], by simp [Instr.findNow, g4, q2], fun val => by simp [mput, g3, q3]⟩
   ·refine .inr ⟨j + 1, e', b', by simp [mfind, g3, q1], by simp [Instr.findNow, g4, q2]; omega, by simpa using q3, q4, q5, fun val valv hv => ?_⟩
    obtain ⟨ys, r1, r2⟩ := q6 val valv hv
    exact ⟨.agg [a, b] :: ys, by simp [mput, g3, r1], ⟨a, b, rfl, h2, h3⟩, r2⟩
 | [], _ :: _, _, h => h.elim
 | _ :: _, [], _, h => h.elim
theorem MapsTo.app {x : IV} {e : MapEntry} (hx : ∃ a b, x = .agg [a, b] ∧ Rel P w O kt a e.key ∧ Rel P w O vt b e.val) : ∀ {xs : List IV} {es : List MapEntry}, MapsTo P w O kt vt xs es → MapsTo P w O kt vt (xs ++ [x]) (es ++ [e])
 | [], [], _ => ⟨hx, trivial⟩
 | _ :: _, _ :: _, h => ⟨h.1, h.2.app hx⟩
 | [], _ :: _, h => h.elim
 | _ :: _, [], h => h.elim
theorem Rel.key (hk : keyT P kt = true) {a : IV} {u : Value} (h : Rel P w O kt a u) : Rel P w O' kt a u := by
 unfold keyT at hk
 rw [Bool.or_eq_true] at hk
 rcases hk with hk | hk
 ·obtain ⟨k, hk⟩ := Option.isSome_iff_exists.1 hk
  obtain ⟨n, rfl, rfl⟩ := h.int_inv (intK_eq hk)
  exact .int (intK_eq hk)
 ·obtain ⟨n, rfl, rfl⟩ := h.str_inv (isStr_eq hk)
  exact .str (isStr_eq hk)
end
theorem mapT_eq {P : Program} {t : TypeId} {kv : TypeId × TypeId} (h : mapT P t = some kv) : P.underlying t = some (.map kv.1 kv.2) := by
 unfold mapT at h
 split at h
 ·rename_i k v hu; injection h with h; subst h; exact hu
 ·cases h
section
variable {P : Program} {N : Nat} {X : Nat → Prop} {R : Job → List IV → Option (List IV)} {ρ : List IV} {K : Nat → Prop} {S : View} {μ : Nat → Value} {a : Act} {w w' : World} {es es' : ES} {ls : List PLt} {sx : SX}
theorem xMakeMap_ok {t : TypeId} {r : Option Operand} (G : Good P N X ρ K S.tm (cur S es.obs) μ a w) (h : Ev S (xMakeMap P t r) es sx es' ls) (hfresh : ∀ k, es.m ≤ k → k < es'.m → ¬ K k) :
  r = none ∧ ∃ v w' μ', (Instr.makeMap t none).run P w = .ok v w' ∧ Out P N X ρ K S μ a w es es' sx μ' w' v := by
 unfold xMakeMap at h
 simp only [Ev_bind, Ev_bare, Ev_guard, Ev_ofOption, Ev_newKey, Ev_setOb, Ev_pure] at h
 obtain ⟨_, _, _, _, ⟨_, rfl, rfl⟩, ⟨_, _, _, _, ⟨g0, rfl, rfl⟩, ⟨kv, _, _, _, ⟨g1, rfl, rfl⟩, ⟨_, _, _, _, ⟨g2, rfl, rfl⟩, ⟨_, _, _, _, ⟨rfl, rfl, rfl⟩, ⟨_, _, _, _, ⟨rfl, rfl⟩, ⟨rfl, rfl, rfl⟩, rfl⟩, rfl⟩, rfl⟩, rfl⟩, rfl⟩, rfl⟩ := h
 refine ⟨by simpa using g0, .map (some w.heap.size), w.alloc (.map #[] 0), _, ?_, newOb_ok (nn := es.n) (hdr := .map (some w.heap.size)) (.refl G) hfresh rfl (fun k hk => by cases hk) (fun L => ?_) ?_ (fun k hk => ?_)⟩
 ·simp [Instr.makeMap]
 ·exact ⟨w.heap.size, 0, #[], [], updM_eq, heap_alloc_new w _, mapT_eq g1, g2, rfl, trivial⟩
 ·exact ⟨updM_eq.symm, w.heap.size, rfl⟩
 ·simpa [keysSX, keysVV, keysLV, one] using hk
theorem rdMap_ok {t : TypeId} {x : Operand} {es2 : ES} {vv : VV} {k : Nat} {l1 l2 : List PLt} (G : Good P N X ρ K S.tm (cur S es.obs) μ a w) (h1 : Ev S (rd1 P x t) es vv es2 l1) (h2 : Ev S (asMap vv) es2 k es' l2) (hg : holds ρ es.gs = some true) :
  es = es2 ∧ es = es' ∧ l1 = [] ∧ l2 = [] ∧ a.eval x = μ k ∧ K k := by
 obtain ⟨rfl, rfl, h3, h4⟩ := rd1_ok G h1 hg
 unfold asMap at h2
 split at h2
 ·rename_i k' t'
  rw [Ev_pure] at h2
  obtain ⟨rfl, rfl, rfl⟩ := h2
  exact ⟨rfl, rfl, rfl, rfl, h3.1, h4 k (by simp [keysVV, keysLV])⟩
 ·simp [Ev_fail] at h2
theorem BRel.key {c : Cx} {x : Arg} {t : TypeId} {v : Value} (h : BRel c x t v) (hk : keyT c.P t = true) (O : Nat → Prop) : ∃ iv, x.ev c.ρ = some iv ∧ Rel c.P c.w O t iv v := by
 obtain ⟨iv, h1, h2, _⟩ := h
 exact ⟨iv, h1, h2.key hk⟩
theorem xLookup_ok {t : TypeId} {x i : Operand} {ok : Bool} (G : Good P N X ρ K S.tm (cur S es.obs) μ a w) (h : Ev S (xLookup P t x i ok) es sx es' ls) (hl : LH R ρ ls) (hg : holds ρ es.gs = some true) :
  ∃ v, (Instr.lookup t (a.eval x) (a.eval i) ok).run P w = .ok v w ∧ Out P N X ρ K S μ a w es es' sx μ w v := by
 unfold xLookup at h
 rw [Ev_bind] at h
 obtain ⟨kv, _, _, _, h0, h, rfl⟩ := h
 rw [Ev_ofOption] at h0
 obtain ⟨g0, rfl, rfl⟩ := h0
 rw [Ev_bind] at h
 obtain ⟨_, _, _, _, h0, h, rfl⟩ := h
 rw [Ev_guard] at h0
 obtain ⟨g1, rfl, rfl⟩ := h0
 rw [Ev_bind] at h
 obtain ⟨z, _, _, _, h0, h, rfl⟩ := h
 rw [Ev_ofOption] at h0
 obtain ⟨g2, rfl, rfl⟩ := h0
 rw [Ev_bind] at h
 obtain ⟨vv, e1, l1, _, h1, h, rfl⟩ := h
 rw [Ev_bind] at h
 obtain ⟨k, e2, l2, _, h2, h, rfl⟩ := h
 obtain ⟨rfl, rfl, rfl, rfl, hv, hK⟩ := rdMap_ok G h1 h2 hg
 rw [Ev_bind] at h
 obtain ⟨iv, e3, l3, _, h3, h, rfl⟩ := h
 have hl := hl.right.right.right.right.right
 obtain ⟨p, q⟩ := rdData_ok G h3 hl.left hg
 simp only [Bool.and_eq_true] at g1
 obtain ⟨key, q1, q2⟩ := q.key g1.1 (cxOf P X ρ (cur S e3.obs) μ w).O
 rw [Ev_bind] at h
 obtain ⟨o, _, _, l4, h0, h, rfl⟩ := h
 rw [Ev_getOb] at h0
 obtain ⟨ho, rfl, rfl⟩ := h0
 have hl := hl.right.right
 split at h
 ·rename_i t' kt vt c
  rw [Ev_bind] at h
  obtain ⟨_, _, _, _, h0, h, rfl⟩ := h
  rw [Ev_guard] at h0
  obtain ⟨g3, rfl, rfl⟩ := h0
  simp only [Bool.and_eq_true, beq_iff_eq] at g3
  obtain ⟨⟨e1, e2⟩, g3⟩ := g3
  subst e1; subst e2
  have hl := hl.right
  rw [Ev_bind] at h
  obtain ⟨y, _, _, _, h0, h, rfl⟩ := h
  rw [Ev_prim] at h0
  obtain ⟨rfl, rfl, rfl⟩ := h0
  rw [Ev_bind] at h
  obtain ⟨y, _, _, _, h0, h, rfl⟩ := h
  rw [Ev_prim] at h0
  obtain ⟨rfl, rfl, rfl⟩ := h0
  obtain ⟨r, cl, ents, ivs, o1, o2, o3, o4, o5, o6⟩ := p.good.obj k _ ho
  have o1 : μ k = .map (some r) := o1
  have o2 : w.heap[r]? = some (.map ents cl) := o2
  have o5 : c.ev ρ = some (.list ivs) := o5
  have q1 : iv.ev ρ = some key := q1
  have hg' : holds ρ e3.gs = some true := by rw [p.gs]; exact hg
  have two : ∀ {pr : Prim} {m : Nat}, LH R ρ [⟨m, ⟨e3.gs, .prim pr [c, iv]⟩⟩] → ∃ y, pr.ev [.list ivs, key] = some y ∧ Arg.ev ρ (.v m) = some y := by
   intro pr m hh
   obtain ⟨vs, y, r1, r2, r3⟩ := LH.prim hh hg'
   obtain ⟨u, v, s1, s2, rfl⟩ := evs2 r1
   rw [o5] at s1; rw [q1] at s2
   injection s1 with s1; injection s2 with s2; subst s1; subst s2
   exact ⟨y, r2, r3⟩
  obtain ⟨y1, r1, t1⟩ := two hl.left
  obtain ⟨y2, r2, t2⟩ := two hl.right.left
  simp only [Prim.ev] at r1 r2
  obtain ⟨zi, zv, z1, z2, z3⟩ := zeroIV_rel (w := w) (O := (cxOf P X ρ (cur S e3.obs) μ w).O) g2
  obtain ⟨dd, _, hd, hkey, _⟩ := same_ev g1.1 q2 q2
  have hd : P.underlying kv.1 = some dd := hd
  have fin : ∀ {v0 : Value} {okb : Bool}, (Instr.lookup t (a.eval x) (a.eval i) ok).run P w = .ok (if ok then .tuple #[v0, .bool okb] else v0) w → Rel P w (cxOf P X ρ (cur S e3.obs) μ w).O kv.2 y1 v0 → y2 = .bool okb →
    ∃ v, (Instr.lookup t (a.eval x) (a.eval i) ok).run P w = .ok v w ∧ Out P N X ρ K S μ a w es es' sx μ w v := by
   intro v0 okb hrun hr hy
   subst hy
   refine ⟨_, hrun, ?_⟩
   rw [Ev_ite] at h
   rcases h with ⟨hok, h⟩ | ⟨hok, h⟩
   ·rw [Ev_pure] at h
    obtain ⟨rfl, rfl, rfl⟩ := h
    rw [if_pos hok]
    refine Ph.out (es' := { e3 with n := e3.n + 1 + 1 }) ⟨p.good, p.fewer, p.m, p.gs⟩ ⟨_, rfl, ⟨y1, t1, hr⟩, ⟨.bool okb, t2, .bool (isBool_eq g3)⟩, trivial⟩ (fun k hk => by simp [keysSX, keysVV, keysLV] at hk)
   ·rw [Ev_pure] at h
    obtain ⟨rfl, rfl, rfl⟩ := h
    rw [if_neg hok]
    exact Ph.out (es' := { e3 with n := e3.n + 1 + 1 }) ⟨p.good, p.fewer, p.m, p.gs⟩ ⟨y1, t1, hr⟩ (keys_dat _ _)
  rcases mfind_ok (O := (cxOf P X ρ (cur S e3.obs) μ w).O) g1.1 hd q2 q2 ivs ents.toList 0 o6 with ⟨m1, m2, m3⟩ | ⟨j, e, b, m1, m2, m3, m4, m5, m6⟩
  ·rw [m1] at r1 r2
   simp only [Option.map_some, Option.some.injEq, Option.getD_none, Option.isSome_none] at r1 r2
   subst r1; subst r2
   refine fin (v0 := zv) (okb := false) ?_ z3 rfl
   rw [hv, o1]
   simp [Instr.lookup, MapKept.run_getObj_map o2, underlying, mapT_eq g0, MapKept.run_checkKey hd hkey, MapKept.run_findKey hd m2, Result.andThen, zeroValue, typeInfo, z1, z2]
  ·rw [m1] at r1 r2
   simp only [Option.map_some, Option.some.injEq, Option.getD_some, Option.isSome_some] at r1 r2
   subst r1; subst r2
   refine fin (v0 := e.val) (okb := true) ?_ m5 rfl
   rw [hv, o1]
   simp [Instr.lookup, MapKept.run_getObj_map o2, underlying, mapT_eq g0, MapKept.run_checkKey hd hkey, MapKept.run_findKey hd m2, Result.andThen]
 ·simp [Ev_fail] at h
theorem xMapUpdate_ok {t : TypeId} {m i x : Operand} (G : Good P N X ρ K S.tm (cur S es.obs) μ a w) (h : Ev S (xMapUpdate P t m i x) es sx es' ls) (hl : LH R ρ ls) (hg : holds ρ es.gs = some true) :
  ∃ w' μ', (Instr.mapUpdate t (a.eval m) (a.eval i) (a.eval x)).run P w = .ok () w' ∧ Out P N X ρ K S μ a w es es' sx μ' w' undef := by
 unfold xMapUpdate at h
 rw [Ev_bind] at h
 obtain ⟨_, _, _, _, h0, h, rfl⟩ := h
 rw [Ev_bare] at h0
 obtain ⟨_, rfl, rfl⟩ := h0
 rw [Ev_bind] at h
 obtain ⟨kv, _, _, _, h0, h, rfl⟩ := h
 rw [Ev_ofOption] at h0
 obtain ⟨g0, rfl, rfl⟩ := h0
 rw [Ev_bind] at h
 obtain ⟨_, _, _, _, h0, h, rfl⟩ := h
 rw [Ev_guard] at h0
 obtain ⟨g1, rfl, rfl⟩ := h0
 rw [Ev_bind] at h
 obtain ⟨vv, e1, l1, _, h1, h, rfl⟩ := h
 rw [Ev_bind] at h
 obtain ⟨k, e2, l2, _, h2, h, rfl⟩ := h
 obtain ⟨rfl, rfl, rfl, rfl, hv, hK⟩ := rdMap_ok G h1 h2 hg
 rw [Ev_bind] at h
 obtain ⟨iv, e3, l3, _, h3, h, rfl⟩ := h
 have hl := hl.right.right.right.right.right
 obtain ⟨p, q⟩ := rdData_ok G h3 hl.left hg
 obtain ⟨key, q1, q2⟩ := q.key g1 (fun _ => False)
 have q1 : iv.ev ρ = some key := q1
 have hl := hl.right
 have hg' : holds ρ e3.gs = some true := by rw [p.gs]; exact hg
 rw [Ev_bind] at h
 obtain ⟨xv, e4, l4, _, h4, h, rfl⟩ := h
 obtain ⟨rfl, rfl, h5, h6⟩ := rd1_ok p.good h4 hg'
 have hl := hl.right
 rw [Ev_bind] at h
 obtain ⟨y, e5, l5, _, h7, h, rfl⟩ := h
 obtain ⟨p2, _, d⟩ := toData_ok p.good h7 hl.left hg' h6 h5
 obtain ⟨vx, d1, d2⟩ := d rfl
 have d1 : y.ev ρ = some vx := d1
 have hl := hl.right
 have pp := p.trans p2
 have hg'' : holds ρ e5.gs = some true := by rw [p2.gs]; exact hg'
 rw [Ev_bind] at h
 obtain ⟨o, _, _, l6, h0, h, rfl⟩ := h
 rw [Ev_getOb] at h0
 obtain ⟨ho, rfl, rfl⟩ := h0
 split at h
 ·rename_i t' kt vt c
  simp only [Ev_bind, Ev_guard, Ev_prim, Ev_setOb, Ev_pure] at h
  obtain ⟨_, _, _, _, ⟨g3, rfl, rfl⟩, ⟨_, _, _, _, ⟨rfl, rfl, rfl⟩, ⟨_, _, _, _, ⟨rfl, rfl⟩, ⟨rfl, rfl, rfl⟩, rfl⟩, rfl⟩, rfl⟩ := h
  simp only [Bool.and_eq_true, beq_iff_eq] at g3
  obtain ⟨e1, e2⟩ := g3
  subst e1; subst e2
  obtain ⟨r, cl, ents, ivs, o1, o2, o3, o4, o5, o6⟩ := pp.good.obj k _ ho
  have o1 : μ k = .map (some r) := o1
  have o2 : w.heap[r]? = some (.map ents cl) := o2
  have o5 : c.ev ρ = some (.list ivs) := o5
  obtain ⟨vs, z, r1, r2, r3⟩ := LH.prim hl.right.right.left hg''
  obtain ⟨u, v, s, s1, s2, s3, rfl⟩ := evs3 r1
  rw [o5] at s1; rw [q1] at s2; rw [d1] at s3
  injection s1 with s1; injection s2 with s2; injection s3 with s3; subst s1; subst s2; subst s3
  simp only [Prim.ev] at r2
  obtain ⟨dd, _, hd, hkey, _⟩ := same_ev g1 q2 q2
  have hd : P.underlying kv.1 = some dd := hd
  have q3 := q2.key (O' := (cxOf P X ρ (cur S e5.obs) μ w).O) g1
  have fin : ∀ {ys : List IV} {es2 : Array MapEntry} {cl2 : Nat}, (Instr.mapUpdate t (a.eval m) (a.eval i) (a.eval x)).run P w = .ok () (setHeap w r (.map es2 cl2)) → MapsTo P w (cxOf P X ρ (cur S e5.obs) μ w).O kv.1 kv.2 ys es2.toList → z = .list ys →
    ∃ w' μ', (Instr.mapUpdate t (a.eval m) (a.eval i) (a.eval x)).run P w = .ok () w' ∧ Out P N X ρ K S μ a w es { e5 with n := e5.n + 1, obs := (k, some (.mp t' kv.1 kv.2 (.v e5.n))) :: e5.obs } (one (.leaf .junk)) μ' w' undef := by
   intro ys es2 cl2 hrun hM hz
   subst hz
   refine ⟨_, _, hrun, relay2_ok (e1 := e5) pp ho rfl (by rw [o1]; rfl) (fun k hk => by cases hk) (setHeap_step w r _) (fun L => ?_) trivial (fun k hk => by simp [keysSX, keysVV, keysLV, one] at hk)⟩
   exact ⟨r, cl2, es2, ys, updM_eq.trans o1, setHeap_at o2, o3, o4, r3, hM.imp fun _ _ _ h' => L.rel h'⟩
  rcases mfind_ok (O := (cxOf P X ρ (cur S e5.obs) μ w).O) (kt := kv.1) g1 hd q2 q3 ivs ents.toList 0 o6 with ⟨m1, m2, m3⟩ | ⟨j, e, b, m1, m2, m3, m4, m5, m6⟩
  ·rw [m3] at r2
   simp only [Option.map_some, Option.some.injEq] at r2
   refine fin (es2 := ents.push { key := a.eval i, val := a.eval x, born := cl }) (cl2 := cl + 1) ?_ ?_ r2.symm
   ·rw [hv, o1]
    simp [Instr.mapUpdate, MapKept.run_getObj_map o2, underlying, mapT_eq g0, MapKept.run_checkKey hd hkey, MapKept.run_findKey hd m2, Result.andThen, MapKept.run_setObj_map _ o2, setHeap]
   ·rw [Array.toList_push]
    exact MapsTo.app ⟨key, vx, rfl, q3, d2⟩ o6
  ·obtain ⟨ys, y1, y2⟩ := m6 vx (a.eval x) d2
   rw [y1] at r2
   simp only [Option.map_some, Option.some.injEq] at r2
   refine fin (es2 := ents.modify j fun e => { e with key := a.eval i, val := a.eval x }) (cl2 := cl) ?_ ?_ r2.symm
   ·have hj : ents[j]? = some e := by simpa using m3
    rw [hv, o1]
    simp [Instr.mapUpdate, MapKept.run_getObj_map o2, underlying, mapT_eq g0, MapKept.run_checkKey hd hkey, MapKept.run_findKey hd m2, Result.andThen, MapKept.run_setObj_map _ o2, setHeap, hj, m4, MapKept.run_keyThatStays hkey]
   ·rw [Array.toList_modify]; exact y2
 ·simp [Ev_fail] at h
theorem xAllocB_ok {t st : TypeId} (G : Good P N X ρ K S.tm (cur S es.obs) μ a w) (h : Ev S (xAllocB P t st) es sx es' ls) (hfresh : ∀ k, es.m ≤ k → k < es'.m → ¬ K k) :
  ∃ v w' μ', (Instr.alloc t true (.tuple #[])).run P w = .ok v w' ∧ Out P N X ρ K S μ a w es es' sx μ' w' v := by
 unfold xAllocB at h
 simp only [Ev_bind, Ev_bare, Ev_guard, Ev_newKey, Ev_setOb, Ev_pure] at h
 obtain ⟨_, _, _, _, ⟨_, rfl, rfl⟩, ⟨_, _, _, _, ⟨g0, rfl, rfl⟩, ⟨_, _, _, _, ⟨rfl, rfl, rfl⟩, ⟨_, _, _, _, ⟨rfl, rfl⟩, ⟨rfl, rfl, rfl⟩, rfl⟩, rfl⟩, rfl⟩, rfl⟩ := h
 simp only [Bool.and_eq_true, beq_iff_eq] at g0
 obtain ⟨⟨g0, g1⟩, g2⟩ := g0
 have hz : ∃ i, P.info? t = some i ∧ i.zero = some (.agg #[.pointer none, .slice none 0 0]) := by
  unfold zeroPtr at g0
  split at g0
  ·rename_i i hi
   split at g0
   ·rename_i cs hcs
    split at g0
    ·rename_i hl
     refine ⟨i, hi, ?_⟩
     rw [hcs]
     have : cs = #[.pointer none, .slice none 0 0] := by
      apply Array.toList_inj.1; rw [hl]
     rw [this]
    ·cases g0
   ·cases g0
  ·cases g0
 obtain ⟨i, hi, hz⟩ := hz
 refine ⟨.pointer (some ⟨w.heap.size, 0, none⟩), w.alloc (.cells #[.pointer none, .slice none 0 0] t), _, ?_, newOb_ok (nn := es.n) (hdr := .pointer (some ⟨w.heap.size, 0, none⟩)) (.refl G) hfresh rfl (fun k hk => ?_) (fun L => ?_) ?_ (fun k hk => ?_)⟩
 ·simp [Instr.alloc, zeroValue, typeInfo, hi, hz, newVar, newRow, Value.cells]
 ·simp only [keysOb, keysVV, List.flatMap_cons, keysLV, List.flatMap_nil, List.append_nil, List.mem_singleton] at hk
  exact .inr hk
 ·refine ⟨w.heap.size, .agg #[.pointer none, .slice none 0 0], updM_eq, heap_alloc_new w _, ?_, ?_, ?_, ?_⟩
  ·show 2 = sizeT P t
   exact g2.symm
  ·show if isAggT P t = true then _ else _
   rw [if_pos g1]; exact ⟨_, rfl⟩
  ·intro u hu
   simp [Value.cells] at hu
   rcases hu with rfl | rfl <;> rfl
  ·exact ⟨_, rfl, ⟨rfl, .inl rfl⟩, ⟨rfl, rfl⟩, trivial⟩
 ·exact ⟨w.heap.size, updM_eq, by rw [addr_add_zero]⟩
 ·simpa [keysSX, keysVV, keysLV, keysPV, one] using hk
end
end Go.CT
namespace Go.CT
open EM
section
variable {P : Program} {N : Nat} {X : Nat → Prop} {R : Job → List IV → Option (List IV)} {ρ : List IV} {K : Nat → Prop} {S : View} {μ : Nat → Value} {a : Act} {w : World} {es es' : ES} {ls : List PLt} {sx : SX}
theorem bytesIV_len (s : ByteArray) : (bytesIV s).length = s.size := by simp [bytesIV]
theorem bytes_rel {O : Nat → Prop} {e : TypeId} (he : P.underlying e = some (.int .u8)) (hs : sizeT P e = 1) (s : ByteArray) : RelE P w O e (bytesIV s) (Lib.strCells s) := by
 unfold bytesIV Lib.strCells
 refine RelE.of_get (by simp) fun j x v hx hv => ?_
 rw [List.getElem?_map, Option.map_eq_some_iff] at hx hv
 obtain ⟨b, h1, rfl⟩ := hx
 obtain ⟨b', h2, rfl⟩ := hv
 rw [h1] at h2; injection h2 with h2; subst h2
 exact ⟨.int he, by rw [hs]; rfl⟩
theorem strCells_flat (s : ByteArray) : flatC (Lib.strCells s) = Lib.strCells s := by
 unfold Lib.strCells flatC
 induction s.data.toList with
 | nil => rfl
 | cons b l ih => simp only [List.map_cons, List.flatMap_cons, ih]; rfl
theorem run_appendS (t u ty e : TypeId) (i : TypeInfo) (ht : P.underlying t = some (.slice e)) (hu : P.underlying u = some .string) (hi : P.info? e = some i) (hz : i.zero = some (.int .u8 0)) (hsize : i.size = 1) (hby : i.bytes = 1)
  (v : Value) (n : Nat) (xs : List Value) (hown : w.ownsRow 0 e 1 v n xs) (s : ByteArray) (hb : n + s.size ≤ 140737488355328) :
  ∃ v' w', (Builtin.append_ #[t, u] ty #[v, .string s]).run P w = .ok v' w' ∧ w'.ownsRow 0 e 1 v' (n + s.size) (xs ++ Lib.strCells s) ∧ w.grownBy w' v.ownBlock ∧ (v'.ownBlock = v.ownBlock ∨ ∀ b, v'.ownBlock = some b → w.heap.size ≤ b) := by
 have hm : n + s.size ≤ maxLen := by
  have : maxLen = 9223372036854775807 := by decide
  omega
 obtain ⟨hl, hown2⟩ := hown
 rcases hown2 with ⟨rfl, hn⟩ | ⟨g, cap, cur, rfl, hbg, hg, hnc, hcm, hcs, htake⟩
 ·obtain ⟨v', w', h1, h2, h3, h4⟩ := Lib.run_append_own_string (P := P) w w.heap.size t u ty e i ht hu hi hz hsize hby _ n xs ⟨hl, .inl ⟨rfl, hn⟩⟩ s hm hb (Nat.le_refl _)
  refine ⟨v', w', h1, ⟨h2.1, h2.2.imp id fun ⟨g, cap, cur, a1, a2, a3⟩ => ⟨g, cap, cur, a1, Nat.zero_le _, a3⟩⟩, h3, .inr fun b hb => ?_⟩
  rcases h2.2 with ⟨rfl, _⟩ | ⟨g, cap, cur, rfl, a2, _⟩
  ·cases hb
  ·simp only [Value.ownBlock, Option.some.injEq] at hb
   omega
 ·obtain ⟨v', w', h1, h2, h3, h4⟩ := Lib.run_append_own_string (P := P) w 0 t u ty e i ht hu hi hz hsize hby _ n xs ⟨hl, .inr ⟨g, cap, cur, rfl, hbg, hg, hnc, hcm, hcs, htake⟩⟩ s hm hb (Nat.zero_le _)
  refine ⟨v', w', h1, h2, h3, ?_⟩
  by_cases hroom : n + s.size ≤ cap
  ·have hr := Lib.run_append_room_string (P := P) w t u ty e i ht hu hi hsize g n cap cur hg s hroom (by omega)
   rw [h1] at hr
   injection hr with hr
   rw [hr]; exact .inl rfl
  ·have holds : ∀ j u, xs[j]? = some u → w.cell? ((⟨g, 0, none⟩ : Addr).add j) = some u := World.ownsRow.cells (w := w) (base := 0) (e := e) (size := 1) (n := n) (v := .slice (some ⟨g, 0, none⟩) n cap) ⟨hl, .inr ⟨g, cap, cur, rfl, hbg, hg, hnc, hcm, hcs, htake⟩⟩ (g := g) rfl
   have hmx : maxLen = 9223372036854775807 := by decide
   have hr := Lib.run_append_grow_string (P := P) w t u ty e i (.int .u8 0) ht hu hi hz ⟨g, 0, none⟩ n cap xs (by rw [hsize]; exact hl) holds s (by omega) (by omega) (by rw [hby]; exact growslice_fits (by omega) (by omega))
   rw [h1] at hr
   injection hr with hr
   rw [hr]
   right
   intro b hb
   simp only [Value.ownBlock, Option.some.injEq] at hb
   omega
theorem xAppendS_ok {st xt rt : TypeId} {s x : Operand} (G : Good P N X ρ K S.tm (cur S es.obs) μ a w) (h : Ev S (xAppendS P st xt s x rt) es sx es' ls) (hl : LH R ρ ls) (hg : holds ρ es.gs = some true) (hfresh : ∀ k, es.m ≤ k → k < es'.m → ¬ K k) :
    ∃ v w' μ', (Builtin.append_ #[st, xt] rt #[a.eval s, a.eval x]).run P w = .ok v w' ∧ Out P N X ρ K S μ a w es es' sx μ' w' v := by
  unfold xAppendS at h
  rw [Ev_bind] at h
  obtain ⟨_, _, _, _, h0, h, rfl⟩ := h
  rw [Ev_bare] at h0
  obtain ⟨_, rfl, rfl⟩ := h0
  rw [Ev_bind] at h
  obtain ⟨e, _, _, _, h0, h, rfl⟩ := h
  rw [Ev_ofOption] at h0
  obtain ⟨he, rfl, rfl⟩ := h0
  rw [Ev_bind] at h
  obtain ⟨_, _, _, _, h0, h, rfl⟩ := h
  rw [Ev_guard] at h0
  obtain ⟨g0, rfl, rfl⟩ := h0
  simp only [Bool.and_eq_true, beq_iff_eq] at g0
  obtain ⟨⟨⟨⟨gx, gk⟩, gs1⟩, gb1⟩, gz, gy⟩ := g0
  have g1 : 0 < sizeT P e := by omega
  rw [Ev_bind] at h
  obtain ⟨sv, e1, l1, _, h1, h, rfl⟩ := h
  obtain ⟨rfl, rfl, sv3, sv4⟩ := rd1_ok G h1 hg
  have hl := hl.right.right.right.right
  rw [Ev_bind] at h
  obtain ⟨y, e2, l2, _, h2, h, rfl⟩ := h
  obtain ⟨p, hB⟩ := rdData_ok G h2 hl.left hg
  have hg2 : holds ρ e2.gs = some true := by rw [p.gs]; exact hg
  rw [Ev_bind] at h
  obtain ⟨⟨old, c⟩, e3, l3, _, h3, h, rfl⟩ := h
  obtain ⟨⟨n3, rfl⟩, ivs, cs, q1, q2, q3, q4, q5⟩ := appendTo_ok p.good h3 hl.right.left hg2 (p.later.vrel sv4 sv3) g1
  simp only [Ev_bind, Ev_prim, Ev_newKey, Ev_setOb, Ev_pure] at h
  obtain ⟨_, _, _, _, ⟨rfl, rfl, rfl⟩, ⟨_, e4, l4, _, h4, ⟨_, _, _, _, ⟨rfl, rfl, rfl⟩, ⟨_, _, _, _, ⟨rfl, rfl⟩, ⟨rfl, rfl, rfl⟩, rfl⟩, rfl⟩, rfl⟩, rfl⟩ := h
  obtain ⟨vs, iv, r1, r2, r3⟩ := LH.prim hl.right.right.left hg2
  obtain ⟨u, v, s1, s2, rfl⟩ := evs2 r1
  rw [q1] at s1; injection s1 with s1; subst s1
  have ht := elemT_eq he
  have hku := intK_eq gk
  obtain ⟨str, b1, hx⟩ := hB.text (isStr_eq gx)
  have b1' : y.ev ρ = some (.str str) := b1
  rw [b1'] at s2; injection s2 with s2; subst s2
  simp only [Prim.ev] at r2
  split at r2
  · rename_i hbytes
    injection r2 with r2; subst r2
    have hmb : maxBytes = 140737488355328 := rfl
    obtain ⟨i, z, z1, z2, z3, z4, z5⟩ := zero_of gz
    have hz0 : z = .int .u8 0 := by
      unfold zeroByte at gy
      rw [z1] at gy
      simp only [z2] at gy
      split at gy
      · rename_i h'; injection h' with h'
      · cases gy
    generalize hys : bytesIV str = ys at *
    generalize hus : Lib.strCells str = us at *
    have e1' : RelE P w (cxOf P X ρ (cur S e2.obs) μ w).O e ys us := by rw [← hys, ← hus]; exact bytes_rel hku gs1 str
    have hfl : flatC us = us := by rw [← hus]; exact strCells_flat str
    have hul := e1'.len
    have hyl : ys.length = str.size := by rw [← hys]; exact bytesIV_len str
    have run : ∃ v' w', (Builtin.append_ #[st, xt] rt #[a.eval s, a.eval x]).run P w = .ok v' w' ∧ w'.ownsRow 0 e (sizeT P e) v' (ivs.length + ys.length) (cs ++ flatC us) ∧ w.grownBy w' (a.eval s).ownBlock ∧
        (v'.ownBlock = (a.eval s).ownBlock ∨ ∀ b, v'.ownBlock = some b → w.heap.size ≤ b) := by
      rw [hx, hfl, ← hus, hyl, gs1]
      have q2' : w.ownsRow 0 e 1 (a.eval s) ivs.length cs := by rw [← gs1]; exact q2
      exact run_appendS st xt rt e i ht (isStr_eq gx) z1 (by rw [z2, hz0]) (by omega) (by omega) _ _ _ q2' str (by omega)
    obtain ⟨v', w', t1, t2, t3, t4⟩ := run
    -- what has become of the state
    obtain ⟨A', n', cap', hv'⟩ : ∃ A n c, v' = .slice A n c := by
      rcases t2.2 with ⟨h, _⟩ | ⟨g, cap, cu, h, _⟩
      · exact ⟨_, _, _, h⟩
      · exact ⟨_, _, _, h⟩
    have hblk' : blk v' = v'.ownBlock := by rw [hv', blk_slice]
    -- the old row's block is ours
    have hold : ∀ b, (a.eval s).ownBlock = some b → ∃ k t c0, old = some k ∧ cur S e2.obs k = some (.arr e t c0) ∧ blk (μ k) = some b := by
      intro b hb
      cases old with
      | none => rw [q4 rfl] at hb; simp [Value.ownBlock] at hb
      | some k =>
        obtain ⟨⟨t, c0, h1⟩, h2⟩ := q5 k rfl
        exact ⟨k, t, c0, rfl, h1, by rw [← h2]; exact hb⟩
    obtain ⟨hobs, hm4, hgs4⟩ : cur S e4.obs = (match old with | some k => updOb (cur S e2.obs) k none | none => cur S e2.obs) ∧ e4.m = e2.m ∧ e4.gs = e2.gs := by
      unfold dropOld at h4
      cases old with
      | none => rw [Ev_pure] at h4; obtain ⟨_, rfl, _⟩ := h4; exact ⟨rfl, rfl, rfl⟩
      | some k =>
        rw [Ev_setOb] at h4
        obtain ⟨rfl, _⟩ := h4
        exact ⟨by rw [show ({ n := e2.n, m := e2.m, gs := e2.gs, obs := (k, none) :: e2.obs } : ES).obs = (k, none) :: e2.obs from rfl] <;> exact cur_cons .., rfl, rfl⟩
    have hm : ¬ K e4.m := hfresh e4.m (by rw [hm4, p.m]; exact Nat.le_refl _) (Nat.lt_succ_self _)
    have hsub : ∀ k o, cur S e4.obs k = some o → cur S e2.obs k = some o ∧ old ≠ some k := by
      intro k o ho
      rw [hobs] at ho
      cases old with
      | none => exact ⟨ho, by simp⟩
      | some k0 =>
        simp only [updOb] at ho
        split at ho
        · cases ho
        · rename_i hne
          exact ⟨ho, by simpa using fun h => hne h.symm⟩
    have hP : Put P X ρ K (cur S e2.obs) (updOb (cur S e4.obs) e4.m (some (.arr e st (.v n3)))) μ w w' e4.m (.arr e st (.v n3)) v' :=
      { other := fun k' o' h ho => (hsub k' o' (by simpa [updOb, h] using ho)).1
        here := by simp [updOb]
        same := fun k' h => updM_ne (fun e => hm (e ▸ h))
        step := ⟨t3.os, t3.tape, t3.output, t3.size, fun b hb hW => t3.block b hb (fun h => by
          obtain ⟨k, t, c0, _, h2, h3⟩ := hold b h.symm
          exact hW ⟨k, _, h2, rfl, h3⟩)⟩
        rest := fun k' o' b h ho hi hb => by
          obtain ⟨h1, h2⟩ := hsub k' o' (by simpa [updOb, h] using ho)
          refine t3.block b (p.good.blk_lt h1 hi hb) (fun hbo => ?_)
          obtain ⟨k, t, c0, h3, h4, h5⟩ := hold b hbo.symm
          have := p.good.sep k' k _ _ b h1 h4 hi rfl hb h5
          subst this
          exact h2 h3
        new := fun b hb => by
          rw [hblk'] at hb
          rcases t4 with h | h
          · rw [h] at hb
            obtain ⟨k, t, c0, h3, h4, h5⟩ := hold b hb
            refine .inl ⟨⟨k, _, h4, rfl, h5⟩, fun k' o' hne ho hi hb' => ?_⟩
            obtain ⟨h1, h2⟩ := hsub k' o' (by simpa [updOb, hne] using ho)
            have := p.good.sep k' k _ _ b h1 h4 hi rfl hb' h5
            subst this
            exact h2 h3
          · exact .inr (h b hb)
        keys := fun k' h => by simp [keysOb] at h }
    obtain ⟨vs0, w1, w2⟩ := q3.relE (by
      have := q2.1
      omega)
    have hE : RelE P w (cxOf P X ρ (cur S e2.obs) μ w).O e (ivs ++ ys) (vs0 ++ us) := w1.append e1'
    have hok : ObOk (cxOf P X ρ (updOb (cur S e4.obs) e4.m (some (.arr e st (.v n3)))) (updM μ e4.m v') w') e4.m (.arr e st (.v n3)) := by
      refine ⟨ivs ++ ys, cs ++ flatC us, r3, ht, g1, ?_, hP.later.elems ?_, ?_⟩
      · show World.ownsRow _ 0 e (sizeT P e) (updM μ e4.m v' e4.m) _ _
        rw [updM_eq, List.length_append]
        exact t2
      · rw [w2, ← flatC_append]
        exact hE.elems
      · rw [w2, ← flatC_append]
        exact flatC_one fun v hv => (hE.size v hv).2
    have hK : ∀ k', K k' ∨ k' = e4.m → withKeys K es.m (e4.m + 1) k' := by
      rintro k' (h | rfl)
      · exact .inl h
      · exact .inr ⟨by rw [hm4, p.m]; exact Nat.le_refl _, Nat.lt_succ_self _⟩
    refine ⟨v', w', updM μ e4.m v', t1, ?_, ?_, ?_, ?_, ?_, hP.same⟩
    · show Good P N X ρ (withKeys K es.m (e4.m + 1)) S.tm (cur S ((e4.m, some (.arr e st (.v n3))) :: e4.obs)) _ a _
      rw [cur_cons]
      exact hP.good p.good hok hK
    · exact ⟨updM_eq.symm, _, _, _, hv'⟩
    · intro k h
      simp [keysSX, keysVV, keysLV, one] at h
      subst h
      exact hK _ (.inr rfl)
    · have := hP.step
      exact ⟨this.os, this.tape, this.output, this.size, fun b hb hW => this.stays b hb fun h => hW (p.fewer.wr h)⟩
    · intro b hb
      have hb : Wr (cur S ((e4.m, some (.arr e st (.v n3))) :: e4.obs)) _ b := hb
      rw [cur_cons] at hb
      exact (hP.own p.good b hb).imp p.fewer.wr id
  · cases r2
end
end Go.CT
namespace Go.CT
open EM
section
variable {P : Program} {N : Nat} {X : Nat → Prop} {R : Job → List IV → Option (List IV)} {ρ : List IV} {K : Nat → Prop} {S : View} {μ : Nat → Value} {a : Act} {w : World} {es es' : ES} {ls : List PLt} {sx : SX}
theorem append_ev {b : Nat} {c d : Arg} {xs ys : List IV} {vs : List IV} {y : IV} (hc : c.ev ρ = some (.list xs)) (hd : d.ev ρ = some (.list ys)) (hv : Arg.evs ρ [c, d] = some vs) (hy : Prim.ev (.append b) vs = some y) : y = .list (xs ++ ys) := by
 obtain ⟨u, v, h1, h2, rfl⟩ := evs2 hv
 rw [hc] at h1; rw [hd] at h2
 injection h1 with h1; injection h2 with h2
 subst h1; subst h2
 simp only [Prim.ev] at hy
 split at hy
 ·injection hy with hy; exact hy.symm
 ·cases hy
theorem len_ev {c : Arg} {xs : List IV} {vs : List IV} {y : IV} (hc : c.ev ρ = some (.list xs)) (hv : Arg.evs ρ [c] = some vs) (hy : Prim.ev .len vs = some y) : y = .int xs.length := by
 obtain ⟨u, h1, rfl⟩ := evs1 hv
 rw [hc] at h1
 injection h1 with h1
 subst h1
 simp only [Prim.ev, Option.some.injEq] at hy
 exact hy.symm
set_option maxHeartbeats 4000000 in
theorem xAppendSelf_ok {st xt rt : TypeId} {s x : Operand} {k : Nat} {hi lo hi2 : Arg} {t1 t2 : TypeId} (G : Good P N X ρ K S.tm (cur S es.obs) μ a w) (h : Ev S (xAppendSelf P st xt k hi t1 lo hi2 t2 rt) es sx es' ls) (hl : LH R ρ ls) (hg : holds ρ es.gs = some true)
  (hs : VRel (cxOf P X ρ (cur S es.obs) μ w) (.leaf (.sub k (.k (.int 0)) hi t1)) (a.eval s)) (hx : VRel (cxOf P X ρ (cur S es.obs) μ w) (.leaf (.sub k lo hi2 t2)) (a.eval x)) :
  ∃ v w' μ', (Builtin.append_ #[st, xt] rt #[a.eval s, a.eval x]).run P w = .ok v w' ∧ Out P N X ρ K S μ a w es es' sx μ' w' v := by
 unfold xAppendSelf at h
 rw [Ev_bind] at h
 obtain ⟨_, _, _, _, h0, h, rfl⟩ := h
 rw [Ev_bare] at h0
 obtain ⟨_, rfl, rfl⟩ := h0
 rw [Ev_bind] at h
 obtain ⟨e, _, _, _, h0, h, rfl⟩ := h
 rw [Ev_ofOption] at h0
 obtain ⟨he, rfl, rfl⟩ := h0
 rw [Ev_bind] at h
 obtain ⟨_, _, _, _, h0, h, rfl⟩ := h
 rw [Ev_guard] at h0
 obtain ⟨g1, rfl, rfl⟩ := h0
 simp only [Bool.and_eq_true, decide_eq_true_eq, beq_iff_eq] at g1
 obtain ⟨⟨⟨⟨⟨⟨g1, g2⟩, rfl⟩, g4⟩, gt1⟩, gt2⟩, gt3⟩ := g1
 rw [Ev_bind] at h
 obtain ⟨o, _, _, l2, h0, h, rfl⟩ := h
 rw [Ev_getOb] at h0
 obtain ⟨ho, rfl, rfl⟩ := h0
 cases o with
 | box => simp [Ev_fail] at h
 | frz => simp [Ev_fail] at h
 | iter => simp [Ev_fail] at h
 | mp => simp [Ev_fail] at h
 | arr e' tt c =>
  simp only [Ev_bind, Ev_guard, Ev_prim, Ev_setOb, Ev_pure] at h
  obtain ⟨_, _, _, _, ⟨g5, rfl, rfl⟩, ⟨_, _, _, _, ⟨rfl, rfl, rfl⟩, ⟨_, _, _, _, ⟨rfl, rfl, rfl⟩, ⟨_, _, _, _, ⟨rfl, rfl, rfl⟩, ⟨_, _, _, _, ⟨rfl, rfl, rfl⟩, ⟨_, _, _, _, ⟨rfl, rfl, rfl⟩, ⟨_, _, _, _, ⟨rfl, rfl, rfl⟩, ⟨_, _, _, _, ⟨rfl, rfl, rfl⟩, ⟨_, _, _, _, ⟨rfl, rfl, rfl⟩,
   ⟨_, _, _, _, ⟨rfl, rfl⟩, ⟨rfl, rfl, rfl⟩, rfl⟩, rfl⟩, rfl⟩, rfl⟩, rfl⟩, rfl⟩, rfl⟩, rfl⟩, rfl⟩, rfl⟩ := h
  have : e = e' := by simpa using g5
  subst this
  obtain ⟨ivs, cs, q1, q2, q3, q4, q5, q6⟩ := G.obj k _ ho
  have q1 : c.ev ρ = some (.list ivs) := q1
  have L0 := hl.right.right.right.right.right
  have L1 := L0.right
  have L2 := L1.right
  have L3 := L2.right
  have L4 := L3.right
  have L5 := L4.right
  have L6 := L5.right
  have L7 := L6.right
  -- the parts
  obtain ⟨A, n, cap, l0, r, e0, m0, m1, m2, m3, m4, m5, hv⟩ := hs
  have m1 : μ k = .slice A n cap := m1
  have m2 : (Arg.k (.int 0)).ev ρ = some (.int (l0 : Nat)) := m2
  simp only [Arg.ev, Option.some.injEq, IV.int.injEq] at m2
  have hl0 : l0 = 0 := by omega
  subst hl0
  have m3 : hi.ev ρ = some (.int (r : Nat)) := m3
  obtain ⟨A', n', cap', l, h, e1, b0, b1, b2, b3, b4, b5, hv2⟩ := hx
  have b1 : μ k = .slice A' n' cap' := b1
  rw [m1] at b1; injection b1 with i1 i2 i3
  subst i1; subst i2; subst i3
  have b2 : lo.ev ρ = some (.int (l : Nat)) := b2
  have b3 : hi2.ev ρ = some (.int (h : Nat)) := b3
  have m0 : P.underlying t1 = some (.slice e0) := m0
  rw [elemT_eq gt1] at m0; injection m0 with m0; injection m0 with m0; subst m0
  have b0 : P.underlying t2 = some (.slice e1) := b0
  rw [elemT_eq gt2] at b0; injection b0 with b0; injection b0 with b0; subst b0
  -- the lets
  obtain ⟨vs0, y0, r01, r02, _⟩ := LH.prim L0.left hg
  obtain ⟨s1, s2⟩ := index_ev (j := 0) q1 rfl r01 r02
  have hpos := toNat_lt s1 s2
  obtain ⟨vs1, y1, r11, r12, _⟩ := LH.prim L1.left hg
  obtain ⟨_, c1, c2, c3⟩ := slice_ev' q1 m3 b2 r11 r12
  obtain ⟨vs2, y2, r21, r22, r23⟩ := LH.prim L2.left hg
  obtain ⟨rfl, _, c4, c5⟩ := slice_ev' (l := 0) q1 rfl m3 r21 r22
  obtain ⟨vs3, y3, r31, r32, r33⟩ := LH.prim L3.left hg
  obtain ⟨rfl, _, c6, c7⟩ := slice_ev' q1 b2 b3 r31 r32
  simp only [Int.toNat_natCast, Int.toNat_zero, List.drop_zero] at r23 r33
  obtain ⟨vs4, y4, r41, r42, r43⟩ := LH.prim L4.left hg
  obtain rfl := append_ev r23 r33 r41 r42
  obtain ⟨vs5, y5, r51, r52, r53⟩ := LH.prim L5.left hg
  obtain rfl := len_ev r43 r51 r52
  obtain ⟨vs6, y6, r61, r62, r63⟩ := LH.prim L6.left hg
  obtain ⟨rfl, _, c8⟩ := sliceLo_ev q1 r53 r61 r62
  obtain ⟨vs7, y7, r71, r72, r73⟩ := LH.prim L7.left hg
  obtain rfl := append_ev r43 r63 r71 r72
  have hrn : r ≤ ivs.length := by omega
  have hln : l ≤ ivs.length := by omega
  have hhn : h ≤ ivs.length := by omega
  have hrl : r ≤ l := by omega
  have hlen : (ivs.take r ++ (ivs.take h).drop l).length = r + (h - l) := by
   rw [List.length_append, List.length_take, List.length_drop, List.length_take]; omega
  rw [hlen] at r53 r73
  simp only [Int.toNat_natCast, List.take_length] at r73
  obtain ⟨w1, q4⟩ := q4
  rcases q4 with ⟨_, q4⟩ | ⟨g, cap', cu, f1, f2, f3, f4, f5, f6, f7⟩
  ·omega
  have f1' : μ k = .slice (some ⟨g, 0, none⟩) ivs.length cap' := f1
  rw [m1] at f1'; injection f1' with i1 i2 i3
  subst i1; subst i2; subst i3
  have f3 : w.heap[g]? = some (.cells cu e (0, 0)) := f3
  have w1 : cs.length = ivs.length * sizeT P e := w1
  have q5 : Elems P w (cxOf P X ρ (cur S es.obs) μ w).O e ivs cs := q5
  obtain ⟨us, hE, rfl⟩ := q5.relE w1
  have f6 : cu.size = cap * sizeT P e := f6
  have f7 : cu.toList.take (ivs.length * sizeT P e) = flatC us := f7
  have hcap : ivs.length * sizeT P e ≤ cu.size := by rw [f6]; exact Nat.mul_le_mul_right _ f4
  obtain ⟨i, z, z1, z2, z3, z4, z5⟩ := zero_of g4
  have hsz := fun a b => (hE.size a b).1
  have hul : us.length = ivs.length := hE.len.symm
  have hy : RelE P w (cxOf P X ρ (cur S es.obs) μ w).O e ((ivs.take h).drop l) ((us.take h).drop l) := ((hE.cut h).1.cut l).2
  have hyl : ((us.take h).drop l).length = h - l := by rw [List.length_drop, List.length_take]; omega
  have hysz : ∀ v ∈ (us.take h).drop l, v.cells.size = sizeT P e := fun v hv => (hy.size v hv).1
  have hyn : (flatC ((us.take h).drop l)).length = (h - l) * sizeT P e := by rw [flatC_len hysz, hyl]
  have hyf : flatC ((us.take h).drop l) = ((flatC us).take (h * sizeT P e)).drop (l * sizeT P e) := by
   rw [(flatC_cut (us := us.take h) (fun v hv => hsz v (List.mem_of_mem_take hv)) l).2, (flatC_cut hsz h).1]
  have t2 : RelE P w (cxOf P X ρ (cur S es.obs) μ w).O e (ivs.take r ++ (ivs.take h).drop l ++ ivs.drop (r + (h - l))) (us.take r ++ (us.take h).drop l ++ us.drop (r + (h - l))) :=
   ((hE.cut r).1.app hy).app (hE.cut _).2
  have hfl : (flatC us).length = ivs.length * sizeT P e := by rw [flatC_len hsz, hul]
  have e3 : r * sizeT P e + (h - l) * sizeT P e = (r + (h - l)) * sizeT P e := by rw [Nat.add_mul]
  have hh : (r + (h - l)) * sizeT P e ≤ ivs.length * sizeT P e := Nat.mul_le_mul_right _ (by omega)
  have hflat : flatC (us.take r ++ (us.take h).drop l ++ us.drop (r + (h - l))) = (flatC us).take (r * sizeT P e) ++ flatC ((us.take h).drop l) ++ (flatC us).drop (r * sizeT P e + (flatC ((us.take h).drop l)).length) := by
   rw [flatC_append, flatC_append, (flatC_cut hsz r).1, (flatC_cut hsz _).2, hyn, e3]
  have hn3 : (ivs.take r ++ (ivs.take h).drop l ++ ivs.drop (r + (h - l))).length = ivs.length := by
   rw [List.length_append, hlen, List.length_drop]; omega
  have hone : ∀ v ∈ flatC ((us.take h).drop l), v.oneCell' = true := flatC_one fun v hv => (hy.size v hv).2
  have hst := run_storeCells_at (P := P) g (r * sizeT P e) e (flatC ((us.take h).drop l)) 0 cu w f3 (by rw [hyn]; omega) hone
  simp only [Nat.add_zero] at hst
  have hcap0 : ¬ cap = 0 := by omega
  have hv' : a.eval s = .slice (some ⟨g, 0, none⟩) r cap := by
   rw [hv, if_neg hcap0]
   simp [addr_of]
  have hrun : (Builtin.append_ #[st, st] rt #[a.eval s, a.eval x]).run P w = .ok (.slice (some ⟨g, 0, none⟩) (r + (h - l)) cap) (w.setRow g (cu.toList.take (r * sizeT P e) ++ flatC ((us.take h).drop l) ++ cu.toList.drop (r * sizeT P e + (flatC ((us.take h).drop l)).length)).toArray) := by
   obtain ⟨ad, hxv, hcells⟩ : ∃ ad : Addr, a.eval x = .slice (some ad) (h - l) (cap - l) ∧ ∀ j u, (flatC ((us.take h).drop l))[j]? = some u → w.cell? (ad.add j) = some u := by
    by_cases hcl : cap = l
    ·refine ⟨⟨g, 0, none⟩, by rw [hv2, if_pos hcl], fun j u hj => ?_⟩
     have : h - l = 0 := by omega
     rw [this, Nat.zero_mul] at hyn
     have := List.length_eq_zero_iff.1 hyn
     rw [this] at hj; simp at hj
    ·refine ⟨⟨g, l * sizeT P e, none⟩, by rw [hv2, if_neg hcl]; simp only [Option.map_some, addr_of]; rfl, fun j u hj => ?_⟩
     have hj' := (List.getElem?_eq_some_iff.1 hj).1
     rw [hyn] at hj'
     have e4 : l * sizeT P e + (h - l) * sizeT P e = h * sizeT P e := by rw [← Nat.add_mul]; congr 1; omega
     have hhs : h * sizeT P e ≤ ivs.length * sizeT P e := Nat.mul_le_mul_right _ hhn
     rw [hyf, List.getElem?_drop, List.getElem?_take, if_pos (by omega), ← f7, List.getElem?_take, if_pos (by omega), Array.getElem?_toList] at hj
     rw [Addr.add_lit]
     simp [World.cell?, f3, hj]
   have hfc := run_firstCells_some (P := P) w (sizeT P e) (h - l) ad (h - l) (cap - l) (flatC ((us.take h).drop l)) hyn hcells
   have hroom : r + (h - l) ≤ cap := by omega
   have hu : (underlying st).run P w = .ok (.slice e) w := by simp [underlying, elemT_eq he]
   rw [hv', hxv]
   simp [Builtin.append_, hu, sizeOf, typeInfo, z1, z4, Builtin.lenOf, hroom, hfc, Addr.add_lit, hst]
  refine ⟨_, _, updM μ k (μ k), hrun, ?_⟩
  have O1 := relay_ok (nn := es.n + 8) (val := undef) (e1 := es) (.refl G) ho rfl (show blk (μ k) = some g by rw [m1]; rfl) (o' := .arr e tt (.v (es.n + 1 + 1 + 1 + 1 + 1 + 1 + 1))) (cs := (cu.toList.take (r * sizeT P e) ++ flatC ((us.take h).drop l) ++ cu.toList.drop (r * sizeT P e + (flatC ((us.take h).drop l)).length)).toArray) (fun k' hk => by cases hk) (fun L => by
   refine ⟨_, flatC (us.take r ++ (us.take h).drop l ++ us.drop (r + (h - l))), r73, q2, q3, ⟨?_, .inr ⟨g, cap, _, ?_, Nat.zero_le _, setRow_heap w g cu _ e (0, 0) f3, by omega, f5, ?_, ?_⟩⟩, (RelE.later L t2).elems, flatC_one fun v hv => (t2.size v hv).2⟩
   ·rw [flatC_len fun v hv => (t2.size v hv).1, ← t2.len]; rfl
   ·show updM μ k (μ k) k = _
    rw [updM_eq, m1, hn3]
   ·have := splice_len (cs := cu.toList) (new := flatC ((us.take h).drop l)) (off := r * sizeT P e) (by rw [hyn, Array.length_toList]; omega)
    rw [Array.length_toList] at this
    exact this.trans f6
   ·rw [List.toList_toArray, hn3]
    have := take_splice (cs := cu.toList) (new := flatC ((us.take h).drop l)) (p := r * sizeT P e) (m := ivs.length * sizeT P e) (by rw [hyn]; omega) (by rw [Array.length_toList]; omega)
    rw [hflat, ← f7]; exact this)
  refine ⟨O1.good, ?_, fun k' hk' => ?_, O1.step, O1.own, O1.keep⟩
  ·refine ⟨some ⟨g, 0, none⟩, ivs.length, cap, 0, r + (h - l), e, elemT_eq gt3, ?_, rfl, r53, by omega, by omega, ?_⟩
   ·show updM μ k (μ k) k = _
    rw [updM_eq, m1]
   ·rw [if_neg hcap0]; simp [addr_of]
  ·simp [keysSX, keysVV, keysLV, one] at hk'
   subst hk'
   exact .inl (G.ko k' _ ho).1
end
end Go.CT
namespace Go.CT
open EM
section
variable {P : Program} {N : Nat} {X : Nat → Prop} {R : Job → List IV → Option (List IV)} {ρ : List IV} {K : Nat → Prop} {S : View} {μ : Nat → Value} {a : Act} {w : World} {es es' : ES} {ls : List PLt} {sx : SX}
theorem run_slice3 {t e : TypeId} {A : Option Addr} {n cap l h m : Nat} {lo : Option Value} {k1 k2 : IntKind} (ht : P.underlying t = some (.slice e)) (hs : 0 < sizeT P e) (hlo : BoundIs lo 0 l) (hlh : l ≤ h) (hm : h ≤ m) (hc : m ≤ cap) :
  ∃ v, (Instr.sliceAt t (.slice A n cap) lo (some (.int k1 h)) (some (.int k2 m))).run P w = .ok v w := by
 obtain ⟨i, hi'⟩ := info_of_sizeT hs
 unfold Instr.sliceAt Instr.slice
 simp only [underlying, Sem.run_bind, run_program, Result.andThen_ok, ht, Sem.run_pure]
 have hb : (Instr.sliceBounds true n cap lo (some (.int k1 h)) (some (.int k2 m))).run P w = .ok (l, h, m) w := by
  unfold Instr.sliceBounds
  rcases hlo with ⟨rfl, rfl⟩ | ⟨k', rfl⟩
  ·simp [run_sliceBound (P := P) (w := w) (k := k2) (n := (m : Int)) (y := cap) (Int.natCast_nonneg _) (by omega), run_sliceBound (P := P) (w := w) (k := k1) (n := (h : Int)) (y := m) (Int.natCast_nonneg _) (by omega)]
  ·simp [run_sliceBound (P := P) (w := w) (k := k2) (n := (m : Int)) (y := cap) (Int.natCast_nonneg _) (by omega), run_sliceBound (P := P) (w := w) (k := k1) (n := (h : Int)) (y := m) (Int.natCast_nonneg _) (by omega),
    run_sliceBound (P := P) (w := w) (k := k') (n := (l : Int)) (y := h) (Int.natCast_nonneg _) (by omega)]
 rw [hb]
 simp [run_sizeOf hi']
theorem xSlice3_ok {t : TypeId} {x : Operand} {lo hi mx : Option Operand} (G : Good P N X ρ K S.tm (cur S es.obs) μ a w) (h : Ev S (xSlice3 P t x lo hi mx) es sx es' ls) (hl : LH R ρ ls) (hg : holds ρ es.gs = some true) :
  ∃ v, (Instr.sliceAt t (a.eval x) (lo.map a.eval) (hi.map a.eval) (mx.map a.eval)).run P w = .ok v w ∧ Out P N X ρ K S μ a w es es' sx μ w v := by
 unfold xSlice3 at h
 rw [Ev_bind] at h
 obtain ⟨xv, e1, l1, _, h1, h, rfl⟩ := h
 obtain ⟨rfl, rfl, h3, h4⟩ := rd1_ok G h1 hg
 rw [Ev_bind] at h
 obtain ⟨l, e2, l2, _, h2, h, rfl⟩ := h
 obtain ⟨rfl, rfl, o1⟩ := optInt_ok G h2 hg
 rw [Ev_bind] at h
 obtain ⟨hh, e3, l3, _, h5, h, rfl⟩ := h
 obtain ⟨rfl, rfl, o2⟩ := optInt_ok G h5 hg
 rw [Ev_bind] at h
 obtain ⟨mm, e3, l3, _, h6, h, rfl⟩ := h
 obtain ⟨rfl, rfl, o3⟩ := optInt_ok G h6 hg
 have hl := hl.right.right.right.right
 obtain ⟨ln, hln, blo⟩ := optLo o1
 cases ht : P.underlying t with
 | none => simp [ht, Ev_fail] at h
 | some d =>
 simp only [ht] at h
 cases d with
 | slice e =>
  rw [Ev_bind] at h
  obtain ⟨_, _, _, _, h0, h, rfl⟩ := h
  rw [Ev_guard] at h0
  obtain ⟨g1, rfl, rfl⟩ := h0
  simp only [decide_eq_true_eq] at g1
  have hl := hl.right
  split at h
  ·rename_i k0 t0 hA mA
   rcases o2 with ⟨_, hc⟩ | ⟨hx, hy, hn, hk, rfl, hc, hhn, hhx⟩
   ·cases hc
   injection hc with hc; subst hc
   rcases o3 with ⟨_, hc⟩ | ⟨mx', my, mn, mk, rfl, hc, hmn, hmx⟩
   ·cases hc
   injection hc with hc; subst hc
   obtain ⟨hv, _⟩ := h3
   have hv : a.eval x = μ k0 := hv
   rw [Ev_bind] at h
   obtain ⟨o, _, _, l3, ho, h, rfl⟩ := h
   rw [Ev_getOb] at ho
   obtain ⟨ho, rfl, rfl⟩ := ho
   have hl := hl.right
   cases o with
   | box => simp [Ev_fail] at h
   | iter => simp [Ev_fail] at h
   | mp => simp [Ev_fail] at h
   | frz => simp [Ev_fail] at h
   | arr e' tt c =>
    simp only [Ev_bind, Ev_guard, Ev_prim, Ev_pure] at h
    obtain ⟨_, _, _, _, ⟨g2, rfl, rfl⟩, ⟨_, _, _, _, ⟨rfl, rfl, rfl⟩, ⟨_, _, _, _, ⟨rfl, rfl, rfl⟩, ⟨rfl, rfl, rfl⟩, rfl⟩, rfl⟩, rfl⟩ := h
    have : e = e' := by simpa using g2
    subst this
    obtain ⟨ivs, A, cap, q1, q2, q3, q4, q5⟩ := G.rowB ho
    obtain ⟨vs, y, r1, r2, _⟩ := LH.prim hl.right.left hg
    obtain ⟨_, p1, p2, p3⟩ := slice_ev' q1 hln hhn r1 r2
    obtain ⟨vs, y, r1, r2, _⟩ := LH.prim hl.right.right.left hg
    obtain ⟨_, p4, p5, p6⟩ := slice_ev' q1 hhn hmn r1 r2
    have hcap := q3.1
    obtain ⟨v, hr⟩ := run_slice3 (P := P) (w := w) (A := A) (n := ivs.length) (cap := cap) (l := ln.toNat) (h := hn.toNat) (m := mn.toNat) (k1 := hk) (k2 := mk) ht g1 (blo p1) (by omega) (by omega) (by omega)
    have e1 : ((hn.toNat : Nat) : Int) = hn := by omega
    have e2 : ((mn.toNat : Nat) : Int) = mn := by omega
    rw [e1, e2] at hr
    rw [hv, q2, Option.map_some, Option.map_some, hhx, hmx]
    exact ⟨v, hr, Ph.out (es' := { es with n := es.n + 1 + 1 }) (.same G rfl rfl rfl) trivial (fun k hm => by simp [keysSX, keysVV, keysLV, one] at hm)⟩
  ·simp [Ev_fail] at h
 | _ => simp [Ev_fail] at h
theorem xSliceSub_ok {t t' : TypeId} {x : Operand} {k0 : Nat} {hi0 : Arg} {lo hi : Option Operand} (G : Good P N X ρ K S.tm (cur S es.obs) μ a w) (h : Ev S (xSliceSub P t k0 t' lo hi) es sx es' ls) (hl : LH R ρ ls) (hg : holds ρ es.gs = some true)
  (h3 : VRel (cxOf P X ρ (cur S es.obs) μ w) (.leaf (.sub k0 (.k (.int 0)) hi0 t')) (a.eval x)) (h4 : K k0) :
  ∃ v, (Instr.sliceAt t (a.eval x) (lo.map a.eval) (hi.map a.eval) none).run P w = .ok v w ∧ Out P N X ρ K S μ a w es es' sx μ w v := by
 unfold xSliceSub at h
 rw [Ev_bind] at h
 obtain ⟨l, e2, l2, _, h2, h, rfl⟩ := h
 obtain ⟨rfl, rfl, o1⟩ := optInt_ok G h2 hg
 rw [Ev_bind] at h
 obtain ⟨hh, e3, l3, _, h5, h, rfl⟩ := h
 obtain ⟨rfl, rfl, o2⟩ := optInt_ok G h5 hg
 have hl := hl.right.right
 obtain ⟨ln, hln, blo⟩ := optLo o1
 cases ht : P.underlying t with
 | none => simp [ht, Ev_fail] at h
 | some d =>
 simp only [ht] at h
 cases d with
 | slice e =>
  rw [Ev_bind] at h
  obtain ⟨_, _, _, _, h0, h, rfl⟩ := h
  rw [Ev_guard] at h0
  obtain ⟨g1, rfl, rfl⟩ := h0
  simp only [Bool.and_eq_true, decide_eq_true_eq, beq_iff_eq] at g1
  obtain ⟨g1, gt⟩ := g1
  have hl := hl.right
  split at h
  ·rename_i hA
   rcases o2 with ⟨_, hc⟩ | ⟨hx, hy, hn, hk, rfl, hc, hhn, hhx⟩
   ·cases hc
   injection hc with hc; subst hc
   rw [Ev_bind] at h
   obtain ⟨o, _, _, l3, ho, h, rfl⟩ := h
   rw [Ev_getOb] at ho
   obtain ⟨ho, rfl, rfl⟩ := ho
   have hl := hl.right
   cases o with
   | box => simp [Ev_fail] at h
   | iter => simp [Ev_fail] at h
   | mp => simp [Ev_fail] at h
   | frz => simp [Ev_fail] at h
   | arr e' tt c =>
    simp only [Ev_bind, Ev_guard, Ev_prim, Ev_pure] at h
    obtain ⟨_, _, _, _, ⟨g2, rfl, rfl⟩, ⟨_, _, _, _, ⟨rfl, rfl, rfl⟩, ⟨rfl, rfl, rfl⟩, rfl⟩, rfl⟩ := h
    have : e = e' := by simpa using g2
    subst this
    obtain ⟨ivs, A, cap, q1, q2, q3, q4, q5⟩ := G.rowB ho
    obtain ⟨vs, y, r1, r2, _⟩ := LH.prim hl.right.left hg
    obtain ⟨_, p1, p2, p3⟩ := slice_ev' q1 hln hhn r1 r2
    have hcap := q3.1
    obtain ⟨A', n', cap', l0, r, e0, m0, m1, m2, m3, m4, m5, hv⟩ := h3
    have m1 : μ k0 = .slice A' n' cap' := m1
    rw [q2] at m1; injection m1 with i1 i2 i3
    subst i1; subst i2; subst i3
    have m2 : (Arg.k (.int 0)).ev ρ = some (.int (l0 : Nat)) := m2
    simp only [Arg.ev, Option.some.injEq, IV.int.injEq] at m2
    have hl0 : l0 = 0 := by omega
    subst hl0
    have hv' : a.eval x = .slice A r cap := by
     rw [hv]
     simp only [Nat.zero_mul, Nat.sub_zero]
     split
     ·rfl
     ·congr 1
      cases A with
      | none => rfl
      | some ad => simp [addr_add_zero]
    have hb : BoundIs (Option.map a.eval (some hx)) r hn.toNat := .inr ⟨hk, by rw [Option.map_some, hhx]; congr 2; omega⟩
    rw [hv']
    refine ⟨_, run_slice_slice ht g1 (blo p1) hb (by omega) (by omega), Ph.out (es' := { es with n := es.n + 1 }) (.same G rfl rfl rfl) ?_ (fun k hm => ?_)⟩
    ·refine ⟨A, ivs.length, cap, ln.toNat, hn.toNat, e, ht, q2, ?_, ?_, by omega, by omega, rfl⟩
     ·rw [show ((ln.toNat : Nat) : Int) = ln by omega]; exact hln
     ·rw [show ((hn.toNat : Nat) : Int) = hn by omega]; exact hhn
    ·simp [keysSX, keysVV, keysLV, one] at hm
     subst hm
     exact h4
  ·simp [Ev_fail] at h
 | _ => simp [Ev_fail] at h
theorem xSliceAny_ok {t : TypeId} {x : Operand} {lo hi mx : Option Operand} (G : Good P N X ρ K S.tm (cur S es.obs) μ a w) (h : Ev S (xSliceAny P t x lo hi mx) es sx es' ls) (hl : LH R ρ ls) (hg : holds ρ es.gs = some true) :
  ∃ v, (Instr.sliceAt t (a.eval x) (lo.map a.eval) (hi.map a.eval) (mx.map a.eval)).run P w = .ok v w ∧ Out P N X ρ K S μ a w es es' sx μ w v := by
 unfold xSliceAny at h
 split at h
 ·exact xSlice3_ok G h hl hg
 ·rw [Ev_bind] at h
  obtain ⟨xv, e1, l1, _, h1, h, rfl⟩ := h
  obtain ⟨rfl, rfl, h3, h4⟩ := rd1_ok G h1 hg
  split at h
  ·rename_i k hi0 t'
   exact xSliceSub_ok G h hl.right hg h3 (h4 k (by simp [keysVV, keysLV]))
  ·exact xSlice_ok G h hl.right hg
theorem run_is_nil {ne : Bool} {t e : TypeId} {x y : Operand} {A : Option Addr} {n c : Nat} (ht : P.underlying t = some (.slice e)) :
  (do eqGuard (if ne then .neq else .eql) t x y (.slice A n c) (.slice none 0 0); binOp (if ne then .neq else .eql) t (.slice A n c) (.slice none 0 0) : Sem Value).run P w = .ok (.bool (if ne then !A.isNone else A.isNone)) w := by
 have key : ∀ d, (Op.equalIn (d + 1) t (.slice A n c) (.slice none 0 0)).run P w = .ok A.isNone w := by
  intro d
  have hu : (underlying t).run P w = .ok (.slice e) w := by simp [underlying, ht]
  unfold Op.equalIn
  rw [Sem.run_bind, hu]
  cases A <;> rfl
 have e : Op.equal t (.slice A n c) (.slice none 0 0) = Op.equalIn (9999 + 1) t (.slice A n c) (.slice none 0 0) := rfl
 have k3 : (Op.equalIn 10000 t (.slice A n c) (.slice none 0 0)).run P w = .ok A.isNone w := key 9999
 cases ne
 ·simp [eqGuard, binOp, e, k3]
 ·simp [eqGuard, binOp, e, k3]
theorem xNil_ok {ne : Bool} {xt rt : TypeId} {x : Operand} (G : Good P N X ρ K S.tm (cur S es.obs) μ a w) (h : Ev S (xNil P ne xt x rt) es sx es' ls) (hl : LH R ρ ls) (hg : holds ρ es.gs = some true) :
  ∃ v, (do eqGuard (if ne then .neq else .eql) xt x (.const (.slice none 0 0)) (a.eval x) (.slice none 0 0); binOp (if ne then .neq else .eql) xt (a.eval x) (.slice none 0 0) : Sem Value).run P w = .ok v w ∧ Out P N X ρ K S μ a w es es' sx μ w v := by
 unfold xNil at h
 rw [Ev_bind] at h
 obtain ⟨xv, e1, l1, _, h1, h, rfl⟩ := h
 obtain ⟨rfl, rfl, h3, h4⟩ := rd1_ok G h1 hg
 split at h
 ·rename_i c t
  simp only [Ev_bind, Ev_guard, Ev_prim, Ev_pure] at h
  obtain ⟨_, _, _, _, ⟨g0, rfl, rfl⟩, ⟨_, _, _, _, ⟨rfl, rfl, rfl⟩, ⟨_, _, _, _, ⟨rfl, rfl, rfl⟩, ⟨rfl, rfl, rfl⟩, rfl⟩, rfl⟩, rfl⟩ := h
  simp only [Bool.and_eq_true] at g0
  obtain ⟨⟨g0, g1⟩, g2⟩ := g0
  obtain ⟨e, he⟩ := Option.isSome_iff_exists.1 g0
  obtain ⟨e9, he9⟩ := Option.isSome_iff_exists.1 g2
  obtain ⟨⟨iv, d1, d2⟩, ys, A, cap, q1, q2, q3⟩ := h3
  have q1 : c.ev ρ = some (.list ys) := q1
  have d1 : c.ev ρ = some iv := d1
  rw [q1] at d1; injection d1 with d1; subst d1
  obtain ⟨vs1, y1, r11, r12, r13⟩ := LH.prim hl.right.right.left hg
  obtain rfl := len_ev q1 r11 r12
  obtain ⟨vs2, y2, r21, r22, r23⟩ := LH.prim hl.right.right.right.left hg
  obtain ⟨u, v, s1, s2, rfl⟩ := evs2 r21
  rw [r13] at s1; injection s1 with s1; subst s1
  have s2' : some (IV.int 0) = some v := s2
  injection s2' with s2'; subst s2'
  obtain ⟨ys', A', cap', e1, e2, hrow⟩ := d2.list_inv (elemT_eq he)
  injection e1 with e1; subst e1
  rw [q2] at e2; injection e2 with i1 i2 i3
  subst i1
  have hA : A.isNone = decide ((ys.length : Int) = 0) := by
   by_cases hy : ys = []
   ·have := q3 hy
    rw [q2] at this; injection this with j1
    subst j1; subst hy; rfl
   ·have hpos : 0 < ys.length := List.length_pos_iff.2 hy
    obtain ⟨ad, u, k1, _⟩ := hrow.at_ (List.getElem?_eq_getElem hpos)
    subst k1
    have : ¬ (ys.length : Int) = 0 := by omega
    rw [decide_eq_false this]; rfl
  have hb : ((ys.length : Int) == 0) = decide ((ys.length : Int) = 0) := rfl
  rw [q2]
  refine ⟨_, run_is_nil (elemT_eq he9), ?_⟩
  rw [hA]
  cases ne with
  | false =>
   simp only [Prim.ev, scalarCmp, Option.map_some, Option.some.injEq, Bool.false_eq_true, if_false] at r22
   subst r22
   exact dat_out (Ph.same (es' := { es with n := es.n + 1 }) G rfl rfl rfl) r23 (by rw [← hb]; exact .bool (isBool_eq g1))
  | true =>
   simp only [Prim.ev, scalarCmp, Option.map_some, Option.some.injEq, if_true] at r22
   subst r22
   exact dat_out (Ph.same (es' := { es with n := es.n + 1 }) G rfl rfl rfl) r23 (by rw [← hb]; exact .bool (isBool_eq g1))
 ·simp [Ev_fail] at h
theorem xBinAny_ok {op : BinOp} {xt yt rt : TypeId} {x y : Operand} (G : Good P N X ρ K S.tm (cur S es.obs) μ a w) (h : Ev S (xBinAny P op xt x y yt rt) es sx es' ls) (hl : LH R ρ ls) (hg : holds ρ es.gs = some true) :
  ∃ v, (do eqGuard op xt x y (a.eval x) (a.eval y); binOp op xt (a.eval x) (a.eval y) : Sem Value).run P w = .ok v w ∧ Out P N X ρ K S μ a w es es' sx μ w v := by
 unfold xBinAny at h
 split at h
 ·exact xNil_ok (ne := false) G h hl hg
 ·exact xNil_ok (ne := true) G h hl hg
 ·exact xBin_ok G h hl hg
end
end Go.CT
namespace Go.CT
open EM
section
variable {P : Program} {N : Nat} {X : Nat → Prop} {R : Job → List IV → Option (List IV)} {ρ : List IV} {K : Nat → Prop} {S : View} {μ : Nat → Value} {a : Act} {w : World} {es es' : ES} {ls : List PLt} {sx : SX}
theorem Rel.drew {O : Nat → Prop} {t : TypeId} {x : IV} {v : Value} (h : Rel P w O t x v) : Rel P w.drew O t x v := h.mono (fun _ _ h => h) (fun _ _ _ => rfl)
theorem Good.drew {tm : Nat → SV} {ob : Nat → Option Ob} (G : Good P N X ρ K tm ob μ a w) : Good P N X ρ K tm ob μ a w.drew := by
 have L : Later K (cxOf P X ρ ob μ w) (cxOf P X ρ ob μ w.drew) := { P := rfl, ρ := fun _ _ h => h, μ := fun _ _ => rfl, stays := fun _ _ _ => rfl, O := fun _ _ h => h, W := fun _ _ h => h, WO := fun _ h => .inr h }
 exact ⟨G.size, G.defers, fun s => L.srel (G.kt s) (G.slot s), fun k o ho => L.obOk (G.ko k o ho).1 (G.ko k o ho).2 (fun _ _ _ _ => rfl) (G.obj k o ho), G.sep, G.xsep, G.xlt, G.kt, G.ko⟩
theorem Ph.drew (p : Ph P N X ρ K S μ a w es es') : Ph P N X ρ K S μ a w.drew es es' := ⟨p.good.drew, p.fewer, p.m, p.gs⟩
theorem Out.undrew {μ' : Nat → Value} {w' : World} {v : Value} (o : Out P N X ρ K S μ a w.drew es es' sx μ' w' v) : Out P N X ρ K S μ a w es es' sx μ' w' v :=
 ⟨o.good, o.rel, o.keys, ⟨o.step.os, o.step.tape, o.step.output, o.step.size, o.step.stays⟩, o.own, o.keep⟩
theorem xAppendC_ok {st xt ct rt : TypeId} {s x : Operand} {c : Arg} (G : Good P N X ρ K S.tm (cur S es.obs) μ a w) (h : Ev S (xAppendC P st xt c ct x rt) es sx es' ls) (hl : LH R ρ ls) (hg : holds ρ es.gs = some true) (hfresh : ∀ k, es.m ≤ k → k < es'.m → ¬ K k)
  (hs : LRel (cxOf P X ρ (cur S es.obs) μ w) (.cl c ct) (a.eval s)) :
  ∃ v w' μ', (Builtin.append_ #[st, xt] rt #[a.eval s, a.eval x]).run P w = .ok v w' ∧ Out P N X ρ K S μ a w es es' sx μ' w' v := by
 unfold xAppendC at h
 rw [Ev_bind] at h
 obtain ⟨_, _, _, _, h0, h, rfl⟩ := h
 rw [Ev_bare] at h0
 obtain ⟨_, rfl, rfl⟩ := h0
 rw [Ev_bind] at h
 obtain ⟨e, _, _, _, h0, h, rfl⟩ := h
 rw [Ev_ofOption] at h0
 obtain ⟨he, rfl, rfl⟩ := h0
 rw [Ev_bind] at h
 obtain ⟨_, _, _, _, h0, h, rfl⟩ := h
 rw [Ev_guard] at h0
 obtain ⟨g1, rfl, rfl⟩ := h0
 simp only [Bool.and_eq_true, decide_eq_true_eq, beq_iff_eq] at g1
 obtain ⟨⟨⟨⟨g1, g2⟩, rfl⟩, rfl⟩, g4⟩ := g1
 rw [Ev_bind] at h
 obtain ⟨xv, e1, l1, _, h1, h, rfl⟩ := h
 obtain ⟨rfl, rfl, xv3, xv4⟩ := rd1_ok G h1 hg
 have hl := hl.right.right.right.right
 rw [Ev_bind] at h
 obtain ⟨y, e2, l2, _, h2, h, rfl⟩ := h
 obtain ⟨p, hB, _⟩ := toData_ok G h2 hl.left hg xv4 xv3
 have hg2 : holds ρ e2.gs = some true := by rw [p.gs]; exact hg
 simp only [Ev_bind, Ev_prim, Ev_newKey, Ev_setOb, Ev_pure] at h
 obtain ⟨_, _, _, _, ⟨rfl, rfl, rfl⟩, ⟨_, _, _, _, ⟨rfl, rfl, rfl⟩, ⟨_, _, _, _, ⟨rfl, rfl⟩, ⟨rfl, rfl, rfl⟩, rfl⟩, rfl⟩, rfl⟩ := h
 obtain ⟨vs, iv, r1, r2, r3⟩ := LH.prim hl.right.left hg2
 obtain ⟨u, v, s1, s2, rfl⟩ := evs2 r1
 have ht := elemT_eq he
 -- the row without room
 obtain ⟨⟨civ, c1, c2⟩, A0, n0, hv0⟩ := hs
 have c1 : c.ev ρ = some civ := c1
 obtain ⟨xs, A, cap, rfl, hx0, hrow0⟩ := (p.later.rel c2).list_inv ht
 rw [c1] at s1; injection s1 with s1; subst s1
 rw [hv0] at hx0
 injection hx0 with i1 i2 i3
 subst i1; subst i2; subst i3
 -- what comes behind
 obtain ⟨yiv, b1, b2, b3⟩ := hB
 obtain ⟨ys, A1, cap1, rfl, hx, hrow⟩ := b3 e ht
 have b1' : y.ev ρ = some (.list ys) := b1
 rw [b1'] at s2; injection s2 with s2; subst s2
 simp only [Prim.ev] at r2
 split at r2
 ·rename_i hc
  obtain ⟨hpos, hbytes⟩ := hc
  injection r2 with r2; subst r2
  obtain ⟨i, z, z1, z2, z3, z4, z5⟩ := zero_of g4
  have hmb : maxBytes = 140737488355328 := rfl
  have hmax : maxLen = 9223372036854775807 := by decide
  have hsum : xs.length + ys.length ≤ maxLen := by
   have := Nat.le_mul_of_pos_right (xs.length + ys.length) g2
   omega
  obtain ⟨us0, e0', hcells0⟩ := hrow0.lent.relE
  obtain ⟨us, e1', hcells⟩ := hrow.relE
  have hul0 := e0'.len
  have hul := e1'.len
  obtain ⟨ad, rfl, hat⟩ := hcells hpos
  have hl0 := flatC_len (sz := sizeT P e) (vs := us0) (fun v hv => (e0'.size v hv).1)
  have hl1 := flatC_len (sz := sizeT P e) (vs := us) (fun v hv => (e1'.size v hv).1)
  have hE : RelE P w (cxOf P X ρ (cur S e2.obs) μ w).O e (xs ++ ys) (us0 ++ us) := e0'.append e1'
  have hge := grownCap_ge w (xs.length + ys.length) xs.length e
  have hfits : Builtin.nextslicecap (xs.length + ys.length) xs.length * i.bytes ≤ 281474976710656 := growslice_fits (by omega) (by rw [z5]; omega)
  let cs : Array Value := (flatC us0).toArray ++ (flatC us).toArray ++ Builtin.zeroCells z.cells (grownCap w (xs.length + ys.length) xs.length e - (xs.length + ys.length))
  have hrun : (Builtin.append_ #[ct, ct] rt #[a.eval s, a.eval x]).run P w = .ok (.slice (some ⟨w.heap.size, 0, none⟩) (xs.length + ys.length) (grownCap w (xs.length + ys.length) xs.length e)) (w.drew.alloc (.cells cs e)) := by
   rw [hx, hv0]
   cases A0 with
   | some b =>
    exact run_append_grow (P := P) w ct rt e i z ht z1 z2 b xs.length xs.length (flatC us0) (by rw [hl0, z4, hul0]) (fun j u hj => by
     have h0 : 0 < xs.length := by
      have := (List.getElem?_eq_some_iff.1 hj).1
      rw [hl0, ← hul0] at this
      exact Nat.pos_of_mul_pos_right (by omega : 0 < xs.length * sizeT P e) |> fun h => by
       rcases Nat.eq_zero_or_pos xs.length with h | h
       ·rw [h] at this; simp at this
       ·exact h
     obtain ⟨ad', hh, hat0⟩ := hcells0 h0
     injection hh with hh; subst hh
     exact hat0 j u hj) ad ys.length cap1 (flatC us) (by rw [hl1, z4, hul]) hat (by omega) (by omega) hfits
   | none =>
    have hz : xs = [] := by
     rcases Nat.eq_zero_or_pos xs.length with h | h
     ·exact List.length_eq_zero_iff.1 h
     ·obtain ⟨_, hh, _⟩ := hcells0 h
      cases hh
    subst hz
    have hu0 : us0 = [] := List.length_eq_zero_iff.1 (by rw [← hul0]; rfl)
    have hr := run_append_nil (P := P) w ct rt e i z ht z1 z2 ad ys.length cap1 (flatC us) (by rw [hl1, z4, hul]) hat hpos (by simp at hsum; omega) (by rw [z5]; simp at hbytes; omega)
    simp only [List.length_nil, Nat.zero_add] at *
    rw [hr]
    simp [cs, hu0, flatC]
  have hzs : (Builtin.zeroCells z.cells (grownCap w (xs.length + ys.length) xs.length e - (xs.length + ys.length))).size = (grownCap w (xs.length + ys.length) xs.length e - (xs.length + ys.length)) * sizeT P e := by
   rw [size_zeroCells, z3]
  have hcsz : cs.size = grownCap w (xs.length + ys.length) xs.length e * sizeT P e := by
   simp only [cs, Array.size_append, List.size_toArray, hl0, hl1, hzs, ← hul0, ← hul]
   rw [← Nat.add_mul, ← Nat.add_mul]
   congr 1; omega
  have htake : cs.toList.take ((xs.length + ys.length) * sizeT P e) = flatC (us0 ++ us) := by
   simp only [cs, Array.toList_append, flatC_append]
   rw [List.take_left' (by rw [List.length_append, hl0, hl1, Nat.add_mul, hul0, hul])]
  have ho := newArr2_ok (N := N) (K := K) (S := S) (a := a) (rt := rt) (nn := e2.n + 1) (w := w.drew) (es := es) (e1 := { e2 with n := e2.n + 1 }) (ivs := xs ++ ys) (n := xs.length + ys.length) (cap := grownCap w (xs.length + ys.length) xs.length e) (cs := cs) (x := .v e2.n) (t := ct) ⟨p.good.drew, p.fewer, p.m, p.gs⟩ hfresh r3 ht g1 (by simp) hge
   (grownCap_le_maxLen w _ _ _ hsum) hcsz (by rw [htake]; exact fun j x hx => let ⟨v, q1, q2⟩ := hE.elems j x hx; ⟨v, q1.drew, q2⟩) (by rw [htake]; exact flatC_one fun v hv => (hE.size v hv).2)
  exact ⟨_, _, _, hrun, ho.undrew⟩
 ·cases r2
theorem xAppendAny_ok {st xt rt : TypeId} {s x : Operand} (G : Good P N X ρ K S.tm (cur S es.obs) μ a w) (h : Ev S (xAppendAny P st xt s x rt) es sx es' ls) (hl : LH R ρ ls) (hg : holds ρ es.gs = some true) (hfresh : ∀ k, es.m ≤ k → k < es'.m → ¬ K k) :
  ∃ v w' μ', (Builtin.append_ #[st, xt] rt #[a.eval s, a.eval x]).run P w = .ok v w' ∧ Out P N X ρ K S μ a w es es' sx μ' w' v := by
 unfold xAppendAny at h
 rw [Ev_bind] at h
 obtain ⟨sv, e1, l1, _, h1, h, rfl⟩ := h
 obtain ⟨rfl, rfl, sv3, sv4⟩ := rd1_ok G h1 hg
 split at h
 ·exact xAppendC_ok G h (by simpa using hl) hg hfresh sv3
 ·rw [Ev_bind] at h
  obtain ⟨xv, e1, l1, _, h2, h, rfl⟩ := h
  obtain ⟨rfl, rfl, xv3, xv4⟩ := rd1_ok G h2 hg
  have hl := hl.right.right
  split at h
  ·rename_i k hi t1 lo hi2 t2 hss
   unfold selfSubs at hss
   split at hss
   ·split at hss
    ·rename_i hk
     have hk := eq_of_beq hk
     subst hk
     simp only [Option.some.injEq, Prod.mk.injEq] at hss
     obtain ⟨rfl, rfl, rfl, rfl, rfl, rfl⟩ := hss
     exact xAppendSelf_ok G h hl hg sv3 xv3
    ·cases hss
   ·cases hss
  ·exact xAppend_ok G h hl hg hfresh
end
end Go.CT
namespace Go.CT
open EM
section
variable (P : Program) (w : World) (O Lt : Nat → Prop)
def RowOwn (e : TypeId) (xs : List IV) (v : Value) : Prop :=
 0 < sizeT P e ∧ ∃ cs, w.ownsRow 0 e (sizeT P e) v xs.length cs ∧ Elems P w O e xs cs ∧ ∀ u ∈ cs, u.oneCell' = true
def MapOwn (kt vt : TypeId) (xs : List IV) (v : Value) : Prop :=
 ∃ (r cl : Nat) (es : Array MapEntry), v = .map (some r) ∧ w.heap[r]? = some (.map es cl) ∧ keyT P kt = true ∧ MapsTo P w O kt vt xs es.toList
def CellOwn (t : TypeId) (x : IV) (v : Value) : Prop :=
 ∃ ys, x = .list ys ∧ ((∃ e, P.underlying t = some (.slice e) ∧ RowOwn P w O e ys v) ∨ ∃ kt vt, P.underlying t = some (.map kt vt) ∧ MapOwn P w O kt vt ys v)
def CellsOwn : List Bool → List TypeId → List IV → List Value → List Nat → Prop
 | [], [], [], [], L => L = []
 | true :: bs, t :: ts, x :: xs, v :: vs, L => ∃ L', CellOwn P w O t x v ∧ CellsOwn bs ts xs vs L' ∧ L = (blk v).toList ++ L'
 | false :: bs, t :: ts, x :: xs, v :: vs, L => Rel P w O t x v ∧ CellsOwn bs ts xs vs L
 | _, _, _, _, _ => False
def BoxOwn (t : TypeId) (bs : List Bool) (xs : List IV) (v : Value) (L : List Nat) : Prop :=
 ∃ ts, leaves P t = some ts ∧ v.cells.size = sizeT P t ∧ (if isAggT P t then ∃ cs, v = .agg cs else v.oneCell' = true) ∧ CellsOwn P w O bs ts xs v.cells.toList L
def BoxAt (t : TypeId) (bs : List Bool) (xs : List IV) (v : Value) (L : List Nat) : Prop :=
 ∃ b u L', v = .pointer (some ⟨b, 0, none⟩) ∧ w.heap[b]? = some (.cells u.cells t (0, 0)) ∧ BoxOwn P w O t bs xs u L' ∧ L = b :: L'
def BoxesAt : List (TypeId × List Bool) → List IV → List Value → List Nat → Prop
 | [], xs, [], L => xs = [] ∧ L = []
 | b :: bs, xs, v :: vs, L => ∃ ys zs L1 L2, xs = ys ++ zs ∧ L = L1 ++ L2 ∧ BoxAt P w O b.1 b.2 ys v L1 ∧ BoxesAt bs zs vs L2
 | _, _, _, _ => False
def CapRel (t : TypeId) (x : IV) (v : Value) : Prop :=
 ∃ ad u, v = .pointer (some ad) ∧ CellsAt w ad u (sizeT P t) ∧ 0 < sizeT P t ∧ ¬ Lt ad.block ∧ Rel P w O t x u
def CapsRel : List TypeId → List IV → List Value → Prop
 | [], [], [] => True
 | t :: ts, x :: xs, v :: vs => CapRel P w O Lt t x v ∧ CapsRel ts xs vs
 | _, _, _ => False
def ArgRel : PS → List IV → Value → List Nat → Prop
 | .data t, xs, v, L => ∃ x, xs = [x] ∧ L = [] ∧ Rel P w O t x v
 | .arr t, xs, v, L => ∃ e ys, xs = [.list ys] ∧ L = (blk v).toList ∧ P.underlying t = some (.slice e) ∧ RowOwn P w O e ys v
 | .own t, xs, v, L => ∃ e ys, xs = [.list ys] ∧ L = (blk v).toList ∧ P.underlying t = some (.slice e) ∧ RowOwn P w O e ys v
 | .box t bs, xs, v, L => BoxAt P w O t bs xs v L
 | .fnb _ _, xs, _, L => xs = [] ∧ L = []
 | .fn f ts, xs, v, L => ∃ vs : Array Value, v = .func (.func f) #[] vs ∧ L = [] ∧ CapsRel P w O Lt ts xs vs.toList
 | .rd t, xs, v, L => ∃ x, xs = [x] ∧ L = [] ∧ CapRel P w O Lt t x v
 | .bld t _, xs, v, L => ∃ b c0 c1 ys st e, v = .pointer (some ⟨b, 0, none⟩) ∧ w.heap[b]? = some (.cells #[c0, c1] t (0, 0)) ∧ (c0 = .pointer none ∨ c0 = v) ∧ bldT P t = some (st, e) ∧ xs = [.list ys] ∧ RowOwn P w O e ys c1 ∧ L = b :: (blk c1).toList
def ArgsRel : List PS → List IV → List Value → List Nat → Prop
 | [], xs, [], L => xs = [] ∧ L = []
 | p :: ps, xs, v :: vs, L => ∃ ys zs L1 L2, xs = ys ++ zs ∧ L = L1 ++ L2 ∧ ArgRel P w O Lt p ys v L1 ∧ ArgsRel ps zs vs L2
 | _, _, _, _ => False
def ResRel : RS → List IV → Value → List Nat → Prop
 | .whole t, xs, v, L => ∃ x, xs = [x] ∧ L = [] ∧ Rel P w O t x v
 | .cells t bs, xs, v, L => BoxOwn P w O t bs xs v L
 | .skip, xs, _, L => xs = [] ∧ L = []
 | .nbox t bs, xs, v, L => BoxesAt P w O [(t, bs)] xs [v] L
 | .clo f bxs, xs, v, L => ∃ caps : Array Value, v = .func (.func f) #[] caps ∧ BoxesAt P w O bxs xs caps.toList L
 | .clip t, xs, v, L => ∃ x, xs = [x] ∧ L = [] ∧ Rel P w O t x v ∧ ∃ A n, v = .slice A n n
 | .strict t, xs, v, L => ∃ x, xs = [x] ∧ L = [] ∧ Rel P w O t x v ∧ ∃ ys A cap, x = .list ys ∧ v = .slice A ys.length cap ∧ (ys = [] → v = .slice none 0 0)
def RessRel : List RS → List IV → List Value → List Nat → Prop
 | [], xs, [], L => xs = [] ∧ L = []
 | p :: ps, xs, v :: vs, L => ∃ ys zs L1 L2, xs = ys ++ zs ∧ L = L1 ++ L2 ∧ ResRel P w O p ys v L1 ∧ RessRel ps zs vs L2
 | _, _, _, _ => False
def PS.isBack : PS → Bool
 | .box _ _ => true
 | .arr _ => true
 | .bld _ b => b
 | _ => false
def BackRel : List PS → List IV → List Value → List Nat → Prop
 | [], xs, [], L => xs = [] ∧ L = []
 | p :: ps, xs, v :: vs, L =>
  if p.isBack then ∃ ys zs L1 L2, xs = ys ++ zs ∧ L = L1 ++ L2 ∧ ArgRel P w O (fun _ => False) p ys v L1 ∧ BackRel ps zs vs L2
  else BackRel ps xs vs L
 | _, _, _, _ => False
end
def packed : List Value → Value
 | [v] => v
 | vs => .tuple vs.toArray
structure After (P : Program) (X : Nat → Prop) (s : Spec) (args : List Value) (L : List Nat) (rs : List IV) (w : World) (v : Value) (w' : World) : Prop where
 step : WStep (· ∈ L) w w'
 out : ∃ vs xs ys L1 L2, v = packed vs ∧ rs = xs ++ ys ∧ (L1 ++ L2).Nodup ∧ (∀ b ∈ L1 ++ L2, b ∈ L ∨ w.heap.size ≤ b) ∧
  RessRel P w' (fun b => X b ∨ b ∈ L1 ++ L2) s.results xs vs L1 ∧ BackRel P w' (fun b => X b ∨ b ∈ L1 ++ L2) s.params ys args L2
def Does (P : Program) (f : FuncId) (args : Array Value) (w : World) (R : Value → World → Prop) : Prop :=
 (∃ fn, P.funcs[f]? = some fn ∧ (fn.name == "runtime.NumGoroutine") = false ∧ fn.body.isNone = false ∧ Calls P f args w fun e w' => ∃ v, e = .returned v ∧ R v w') ∨
 (∃ v w', (callFunc f args).run P w = .ok (.value v) w' ∧ R v w')
theorem Does.mono {P : Program} {f : FuncId} {args : Array Value} {w : World} {R R' : Value → World → Prop} (h : Does P f args w R) (hr : ∀ v w', R v w' → R' v w') : Does P f args w R' := by
 rcases h with ⟨fn, h1, h2, h3, h4⟩ | ⟨v, w', h1, h2⟩
 ·exact .inl ⟨fn, h1, h2, h3, h4.mono fun e w' ⟨v, hv, hR⟩ => ⟨v, hv, hr _ _ hR⟩⟩
 ·exact .inr ⟨v, w', h1, hr _ _ h2⟩
def Sound (P : Program) (specs : List (Nat × Spec)) (R : Job → List IV → Option (List IV)) : Prop :=
 ∀ i s, (i, s) ∈ specs → ∀ (w : World) (X : Nat → Prop) (xs : List IV) (args fargs : List Value) (L : List Nat) (rs : List IV), flatV 0 s.params args = some fargs →
  ArgsRel P w (fun b => X b ∨ b ∈ L) (· ∈ L) s.params xs fargs L → L.Nodup → (∀ b ∈ L, ¬ X b) → (∀ b, X b → b < w.heap.size) →
  R ⟨i, 0⟩ xs = some rs → Does P s.fn args.toArray w (After P X s fargs L rs w)
section
variable {P : Program} {w : World} {O O' Lt : Nat → Prop}
theorem Elems.weaken {e : TypeId} {xs : List IV} {cs : List Value} (h : Elems P w O e xs cs) (hO : ∀ b, b < w.heap.size → O' b → O b) : Elems P w O' e xs cs := fun j x hx =>
 let ⟨v, h1, h2⟩ := h j x hx
 ⟨v, h1.weaken hO, h2⟩
theorem RowOwn.weaken {e : TypeId} {xs : List IV} {v : Value} (h : RowOwn P w O e xs v) (hO : ∀ b, b < w.heap.size → O' b → O b) : RowOwn P w O' e xs v :=
 ⟨h.1, let ⟨cs, h1, h2, h3⟩ := h.2; ⟨cs, h1, h2.weaken hO, h3⟩⟩
theorem MapOwn.weaken {kt vt : TypeId} {xs : List IV} {v : Value} (h : MapOwn P w O kt vt xs v) (hO : ∀ b, b < w.heap.size → O' b → O b) : MapOwn P w O' kt vt xs v :=
 let ⟨r, cl, es, h1, h2, h3, h4⟩ := h; ⟨r, cl, es, h1, h2, h3, h4.imp fun _ _ _ h => h.weaken hO⟩
theorem CellOwn.weaken {t : TypeId} {x : IV} {v : Value} (h : CellOwn P w O t x v) (hO : ∀ b, b < w.heap.size → O' b → O b) : CellOwn P w O' t x v :=
 let ⟨ys, h1, h2⟩ := h; ⟨ys, h1, h2.imp (fun ⟨e, h3, h4⟩ => ⟨e, h3, h4.weaken hO⟩) fun ⟨kt, vt, h3, h4⟩ => ⟨kt, vt, h3, h4.weaken hO⟩⟩
theorem CellsOwn.weaken (hO : ∀ b, b < w.heap.size → O' b → O b) : ∀ {bs : List Bool} {ts : List TypeId} {xs : List IV} {vs : List Value} {L : List Nat}, CellsOwn P w O bs ts xs vs L → CellsOwn P w O' bs ts xs vs L
 | [], [], [], [], _, h => h
 | true :: bs, t :: ts, x :: xs, v :: vs, L, h => by
  obtain ⟨L', h3, h4, h5⟩ := h
  exact ⟨L', h3.weaken hO, CellsOwn.weaken hO h4, h5⟩
 | false :: bs, t :: ts, x :: xs, v :: vs, L, h => ⟨h.1.weaken hO, CellsOwn.weaken hO h.2⟩
 | [], [], [], _ :: _, _, h => h.elim
 | [], [], _ :: _, _, _, h => h.elim
 | [], _ :: _, _, _, _, h => h.elim
 | _ :: _, [], _, _, _, h => by simp [CellsOwn] at h
 | _ :: _, _ :: _, [], _, _, h => by simp [CellsOwn] at h
 | _ :: _, _ :: _, _ :: _, [], _, h => by simp [CellsOwn] at h
theorem BoxOwn.weaken {t : TypeId} {bs : List Bool} {xs : List IV} {v : Value} {L : List Nat} (h : BoxOwn P w O t bs xs v L) (hO : ∀ b, b < w.heap.size → O' b → O b) : BoxOwn P w O' t bs xs v L :=
 let ⟨ts, h1, h2, h3, h4⟩ := h; ⟨ts, h1, h2, h3, h4.weaken hO⟩
theorem BoxAt.weaken {t : TypeId} {bs : List Bool} {xs : List IV} {v : Value} {L : List Nat} (h : BoxAt P w O t bs xs v L) (hO : ∀ b, b < w.heap.size → O' b → O b) : BoxAt P w O' t bs xs v L :=
 let ⟨b, u, L', h1, h2, h3, h4⟩ := h; ⟨b, u, L', h1, h2, h3.weaken hO, h4⟩
theorem BoxesAt.weaken (hO : ∀ b, b < w.heap.size → O' b → O b) : ∀ {bs : List (TypeId × List Bool)} {xs : List IV} {vs : List Value} {L : List Nat}, BoxesAt P w O bs xs vs L → BoxesAt P w O' bs xs vs L
 | [], _, [], _, h => h
 | _ :: _, _, _ :: _, _, h => by
  obtain ⟨ys, zs, L1, L2, h1, h2, h3, h4⟩ := h
  exact ⟨ys, zs, L1, L2, h1, h2, h3.weaken hO, h4.weaken hO⟩
 | [], _, _ :: _, _, h => h.elim
 | _ :: _, _, [], _, h => h.elim
theorem ResRel.weaken {r : RS} {xs : List IV} {v : Value} {L : List Nat} (h : ResRel P w O r xs v L) (hO : ∀ b, b < w.heap.size → O' b → O b) : ResRel P w O' r xs v L := by
 cases r with
 | whole t => obtain ⟨x, q1, q2, q3⟩ := h; exact ⟨x, q1, q2, q3.weaken hO⟩
 | clip t => obtain ⟨x, q1, q2, q3, q4⟩ := h; exact ⟨x, q1, q2, q3.weaken hO, q4⟩
 | strict t => obtain ⟨x, q1, q2, q3, q4⟩ := h; exact ⟨x, q1, q2, q3.weaken hO, q4⟩
 | skip => exact h
 | cells t bs => exact BoxOwn.weaken h hO
 | nbox t bs => exact BoxesAt.weaken hO h
 | clo f bxs => obtain ⟨c, q1, q2⟩ := h; exact ⟨c, q1, q2.weaken hO⟩
theorem CapRel.weaken {t : TypeId} {x : IV} {v : Value} (h : CapRel P w O Lt t x v) (hO : ∀ b, b < w.heap.size → O' b → O b) : CapRel P w O' Lt t x v :=
 let ⟨ad, u, h1, h2, h3, h4, h5⟩ := h; ⟨ad, u, h1, h2, h3, h4, h5.weaken hO⟩
theorem CapsRel.weaken (hO : ∀ b, b < w.heap.size → O' b → O b) : ∀ {ts : List TypeId} {xs : List IV} {vs : List Value}, CapsRel P w O Lt ts xs vs → CapsRel P w O' Lt ts xs vs
 | [], [], [], _ => trivial
 | _ :: _, _ :: _, _ :: _, h => ⟨h.1.weaken hO, CapsRel.weaken hO h.2⟩
 | [], [], _ :: _, h => h.elim
 | [], _ :: _, _, h => h.elim
 | _ :: _, [], _, h => h.elim
 | _ :: _, _ :: _, [], h => h.elim
theorem ArgRel.weaken {p : PS} {xs : List IV} {v : Value} {L : List Nat} (h : ArgRel P w O Lt p xs v L) (hO : ∀ b, b < w.heap.size → O' b → O b) : ArgRel P w O' Lt p xs v L := by
 cases p with
 | data t => obtain ⟨x, h1, h2, h3⟩ := h; exact ⟨x, h1, h2, h3.weaken hO⟩
 | arr t => obtain ⟨e, ys, h1, h2, h3, h4⟩ := h; exact ⟨e, ys, h1, h2, h3, h4.weaken hO⟩
 | own t => obtain ⟨e, ys, h1, h2, h3, h4⟩ := h; exact ⟨e, ys, h1, h2, h3, h4.weaken hO⟩
 | box t bs => exact BoxAt.weaken h hO
 | fnb f n => exact h
 | fn f ts => obtain ⟨vs, h1, h2, h3⟩ := h; exact ⟨vs, h1, h2, h3.weaken hO⟩
 | rd t => obtain ⟨x, h1, h2, h3⟩ := h; exact ⟨x, h1, h2, h3.weaken hO⟩
 | bld t bk => obtain ⟨b, c0, c1, ys, st, e, h1, h2, h3, h4, h5, h6, h7⟩ := h; exact ⟨b, c0, c1, ys, st, e, h1, h2, h3, h4, h5, h6.weaken hO, h7⟩
theorem ArgsRel.weaken (hO : ∀ b, b < w.heap.size → O' b → O b) : ∀ {ps : List PS} {xs : List IV} {vs : List Value} {L : List Nat}, ArgsRel P w O Lt ps xs vs L → ArgsRel P w O' Lt ps xs vs L
 | [], _, [], _, h => h
 | _ :: _, _, _ :: _, _, h => by
  obtain ⟨ys, zs, L1, L2, h1, h2, h3, h4⟩ := h
  exact ⟨ys, zs, L1, L2, h1, h2, h3.weaken hO, h4.weaken hO⟩
 | [], _, _ :: _, _, h => h.elim
 | _ :: _, _, [], _, h => h.elim
end
section
variable {P : Program} {N : Nat} {X X' : Nat → Prop} {R : Job → List IV → Option (List IV)} {ρ : List IV} {K : Nat → Prop} {S : View} {μ : Nat → Value} {a : Act} {w : World} {es es' : ES} {ls : List PLt} {sx : SX}
 {tm : Nat → SV} {ob ob' : Nat → Option Ob}
theorem Good.move (G : Good P N X ρ K tm ob μ a w) (h : ∀ k o, ob' k = some o → ob k = some o) (hX : ∀ b, X' b → X b ∨ Wr ob μ b) (hsep : ∀ k o b, ob' k = some o → o.isOwn = true → blk (μ k) = some b → ¬ X' b) :
  Good P N X' ρ K tm ob' μ a w := by
 have hW : ∀ b, Wr ob' μ b → Wr ob μ b := fun b ⟨k, o, h1, h2, h3⟩ => ⟨k, o, h k o h1, h2, h3⟩
 have L : Later K (cxOf P X ρ ob μ w) (cxOf P X' ρ ob' μ w) :=
  { P := rfl, ρ := fun _ _ h => h, μ := fun _ _ => rfl, stays := Stays.refl _ _, O := fun b _ hb => hb.elim (fun hb => hX b hb) fun hb => .inr (hW b hb), W := fun b _ hb => hW b hb, WO := fun b hb => .inr hb }
 refine ⟨G.size, G.defers, fun s => L.srel (G.kt s) (G.slot s), fun k o ho => L.obOk (G.ko k o (h k o ho)).1 (G.ko k o (h k o ho)).2 (fun _ b _ _ => rfl) (G.obj k o (h k o ho)),
  fun k k' o o' b h1 h2 h3 h4 h5 h6 => G.sep k k' o o' b (h k o h1) (h k' o' h2) h3 h4 h5 h6, hsep, fun b hb => ?_, G.kt, fun k o ho => G.ko k o (h k o ho)⟩
 rcases hX b hb with hb | ⟨k, o, h1, h2, h3⟩
 ·exact G.xlt b hb
 ·exact G.blk_lt h1 h2 h3
theorem Good.congrX (G : Good P N X ρ K tm ob μ a w) (h : ∀ b, X b ↔ X' b) : Good P N X' ρ K tm ob μ a w := by
 have : X = X' := funext fun b => propext (h b)
 subst this; exact G
theorem Good.lend (G : Good P N X ρ K tm ob μ a w) {k : Nat} {o : Ob} (h : ob k = some o) (ho : o.isOwn = true) :
  Good P N (fun b => X b ∨ b ∈ (blk (μ k)).toList) ρ K tm (updOb ob k none) μ a w := by
 have hk : ∀ k' o', updOb ob k none k' = some o' → k' ≠ k ∧ ob k' = some o' := by
  intro k' o' h'
  unfold updOb at h'
  split at h'
  ·cases h'
  ·rename_i hne; exact ⟨hne, h'⟩
 refine G.move (fun k' o' h' => (hk k' o' h').2) (fun b hb => hb.imp id fun hb => ⟨k, o, h, ho, by simpa using hb⟩) (fun k' o' b h1 h2 h3 h4 => ?_)
 rcases h4 with h4 | h4
 ·exact G.xsep k' o' b (hk k' o' h1).2 h2 h3 h4
 ·exact (hk k' o' h1).1 (G.sep k' k o' o b (hk k' o' h1).2 h h2 ho h3 (by simpa using h4))
variable (P N X ρ K S μ a w) in
structure Lend (L : List Nat) (es es' : ES) : Prop where
 good : Good P N (fun b => X b ∨ b ∈ L) ρ K S.tm (cur S es'.obs) μ a w
 fewer : Fewer (cur S es.obs) (cur S es'.obs)
 m : es'.m = es.m
 gs : es'.gs = es.gs
 own : ∀ b ∈ L, Wr (cur S es.obs) μ b
 nodup : L.Nodup
theorem Ph.lend (p : Ph P N X ρ K S μ a w es es') : Lend P N X ρ K S μ a w [] es es' :=
 ⟨p.good.congrX fun b => by simp, p.fewer, p.m, p.gs, by simp, List.nodup_nil⟩
theorem Lend.congr {L : List Nat} (h : Lend P N X ρ K S μ a w L es es') (hX : ∀ b, X b ↔ X' b) : Lend P N X' ρ K S μ a w L es es' := by
 have : X = X' := funext fun b => propext (hX b)
 subst this; exact h
theorem Lend.trans {L1 L2 : List Nat} {e1 e2 e3 : ES} (h : Lend P N X ρ K S μ a w L1 e1 e2) (h' : Lend P N (fun b => X b ∨ b ∈ L1) ρ K S μ a w L2 e2 e3) : Lend P N X ρ K S μ a w (L1 ++ L2) e1 e3 := by
 refine ⟨h'.good.congrX fun b => by simp [or_assoc], h.fewer.trans h'.fewer, h'.m.trans h.m, h'.gs.trans h.gs, fun b hb => ?_, ?_⟩
 ·rcases List.mem_append.1 hb with hb | hb
  ·exact h.own b hb
  ·exact h.fewer.wr (h'.own b hb)
 ·rw [List.nodup_append]
  refine ⟨h.nodup, h'.nodup, fun b h1 c h2 e => ?_⟩
  subst e
  obtain ⟨k, o, q1, q2, q3⟩ := h'.own b h2
  exact h.good.xsep k o b q1 q2 q3 (.inr h1)
theorem Lend.later {L : List Nat} (h : Lend P N X ρ K S μ a w L es es') : Later K (cxOf P X ρ (cur S es.obs) μ w) (cxOf P (fun b => X b ∨ b ∈ L) ρ (cur S es'.obs) μ w) :=
 { P := rfl, ρ := fun _ _ h => h, μ := fun _ _ => rfl, stays := Stays.refl _ _, O := fun b _ hb => hb.elim (fun hb => hb.imp id (h.own b)) fun hb => .inr (h.fewer.wr hb), W := fun _b _ hb => h.fewer.wr hb, WO := fun _b hb => .inr hb }
theorem Lend.drop (G : Good P N X ρ K S.tm (cur S es.obs) μ a w) {k : Nat} {o : Ob} {n : Nat} (h : cur S es.obs k = some o) (ho : o.isOwn = true) :
  Lend P N X ρ K S μ a w (blk (μ k)).toList es { es with n, obs := (k, none) :: es.obs } := by
 refine ⟨?_, ?_, rfl, rfl, fun b hb => ⟨k, o, h, ho, by simpa using hb⟩, by cases blk (μ k) <;> simp⟩
 ·show Good P N _ ρ K S.tm (cur S ((k, none) :: es.obs)) μ a w
  rw [cur_cons]; exact G.lend h ho
 ·show Fewer (cur S es.obs) (cur S ((k, none) :: es.obs))
  rw [cur_cons]; exact (G.drop k).2
end
end Go.CT
namespace Go.CT
open EM
section
variable {P : Program} {N : Nat} {X : Nat → Prop} {R : Job → List IV → Option (List IV)} {ρ : List IV} {K : Nat → Prop} {S : View} {μ : Nat → Value} {a : Act} {w : World} {es es' : ES} {ls : List PLt} {sx : SX}
theorem own_blk {base e sz n : Nat} {v : Value} {cs : List Value} (h : w.ownsRow base e sz v n cs) : v.ownBlock = blk v ∧ v.oneCell' = true ∧ ∃ A n cap, v = .slice A n cap := by
 obtain ⟨_, h⟩ := h
 rcases h with ⟨rfl, _⟩ | ⟨g, cap, cu, rfl, _⟩
 ·exact ⟨rfl, rfl, _, _, _, rfl⟩
 ·exact ⟨rfl, rfl, _, _, _, rfl⟩
theorem takeRow_ok {e : TypeId} {l : LV} {x : Arg} {v : Value} (G : Good P N X ρ K S.tm (cur S es.obs) μ a w) (h : Ev S (takeRow P e l) es x es' ls) (hl : LH R ρ ls) (hg : holds ρ es.gs = some true)
  (hv : LRel (cxOf P X ρ (cur S es.obs) μ w) l v) :
  ∃ ys, x.ev ρ = some (.list ys) ∧ Lend P N X ρ K S μ a w (blk v).toList es es' ∧ RowOwn P w (fun b => (X b ∨ b ∈ (blk v).toList) ∨ Wr (cur S es'.obs) μ b) e ys v := by
 unfold takeRow at h
 rw [Ev_bind] at h
 obtain ⟨_, _, _, _, h0, h, rfl⟩ := h
 rw [Ev_guard] at h0
 obtain ⟨g0, rfl, rfl⟩ := h0
 simp only [decide_eq_true_eq] at g0
 have hl := hl.right
 rw [Ev_bind] at h
 obtain ⟨⟨old, c⟩, e1, l1, _, h1, h, rfl⟩ := h
 obtain ⟨⟨n1, rfl⟩, ivs, cs, q1, q2, q3, q4, q5⟩ := appendTo_ok (sv := .leaf l) G h1 hl.left hg hv g0
 have hone : ∀ u ∈ cs, u.oneCell' = true := by
  have hE : Elems P w (cxOf P X ρ (cur S es.obs) μ w).O e ivs cs := q3
  obtain ⟨us, r1, rfl⟩ := hE.relE q2.1
  exact flatC_one fun v hv => (r1.size v hv).2
 obtain ⟨b1, _, A, n, cap, rfl⟩ := own_blk q2
 cases old with
 | none =>
  have := q4 rfl
  injection this with i1 i2 i3; subst i1; subst i2; subst i3
  simp only [dropOld, Ev_bind, Ev_pure] at h
  obtain ⟨_, _, _, _, ⟨_, rfl, rfl⟩, ⟨rfl, rfl, rfl⟩, rfl⟩ := h
  have p : Ph P N X ρ K S μ a w es { es with n := n1 } := .same G rfl rfl rfl
  refine ⟨ivs, q1, p.lend, g0, cs, q2, q3.weaken fun b _ hb => ?_, hone⟩
  rcases hb with (hb | hb) | hb
  ·exact .inl hb
  ·simp [blk] at hb
  ·exact .inr hb
 | some k =>
  obtain ⟨⟨t, c0, q6⟩, q7⟩ := q5 k rfl
  rw [b1] at q7
  simp only [dropOld, Ev_bind, Ev_setOb, Ev_pure] at h
  obtain ⟨_, _, _, _, ⟨rfl, rfl⟩, ⟨rfl, rfl, rfl⟩, rfl⟩ := h
  have d := Lend.drop (n := n1) G q6 rfl
  rw [← q7] at d
  exact ⟨ivs, q1, d, g0, cs, q2, q3.weaken fun b hb ho => d.later.O b hb ho, hone⟩
theorem Rel.as {O : Nat → Prop} {al : Bool} {t : TypeId} {x : Arg} {v : Value} {c : Cx} (hb : BRel c x t v) (hd : al = true → DRel c x t v) (hO : ∀ b, O b → al = true ∧ c.O b) : ∃ iv, x.ev c.ρ = some iv ∧ Rel c.P c.w O t iv v := by
 cases al with
 | true =>
  obtain ⟨iv, h1, h2⟩ := hd rfl
  exact ⟨iv, h1, h2.weaken fun b _ hb => (hO b hb).2⟩
 | false =>
  obtain ⟨iv, h1, h2, _⟩ := hb
  exact ⟨iv, h1, h2.weaken fun b _ hb => by have := (hO b hb).1; simp at this⟩
theorem takeMap_ok {t : TypeId} {l : LV} {x : Arg} {v : Value} (G : Good P N X ρ K S.tm (cur S es.obs) μ a w) (h : Ev S (takeMap P t l) es x es' ls)
  (hv : LRel (cxOf P X ρ (cur S es.obs) μ w) l v) :
  ∃ ys kt vt, x.ev ρ = some (.list ys) ∧ Lend P N X ρ K S μ a w (blk v).toList es es' ∧ P.underlying t = some (.map kt vt) ∧ MapOwn P w (fun b => (X b ∨ b ∈ (blk v).toList) ∨ Wr (cur S es'.obs) μ b) kt vt ys v := by
 unfold takeMap at h
 split at h
 ·rename_i k t1
  rw [Ev_bind] at h
  obtain ⟨o, _, _, l2, h0, h, rfl⟩ := h
  rw [Ev_getOb] at h0
  obtain ⟨ho, rfl, rfl⟩ := h0
  cases o with
  | box => simp [Ev_fail] at h
  | frz => simp [Ev_fail] at h
  | iter => simp [Ev_fail] at h
  | arr => simp [Ev_fail] at h
  | mp t' kt vt c =>
   simp only [Ev_bind, Ev_guard, Ev_setOb, Ev_pure] at h
   obtain ⟨_, _, _, _, ⟨g0, rfl, rfl⟩, ⟨_, _, _, _, ⟨rfl, rfl⟩, ⟨rfl, rfl, rfl⟩, rfl⟩, rfl⟩ := h
   have g0 : mapT P t = some (kt, vt) := by simpa using g0
   obtain ⟨r, cl, ents, ivs, q1, q2, q3, q4, q5, q6⟩ := G.obj k _ ho
   have hu : v = μ k := hv.1
   subst hu
   have d := Lend.drop (n := es.n) G ho rfl
   exact ⟨ivs, kt, vt, q5, d, mapT_eq g0, r, cl, ents, q1, q2, q4, q6.imp fun _ _ _ h => h.weaken fun b hb ho => d.later.O b hb ho⟩
 ·simp [Ev_fail] at h
theorem takeOwn_ok {t : TypeId} {l : LV} {x : Arg} {v : Value} (G : Good P N X ρ K S.tm (cur S es.obs) μ a w) (h : Ev S (takeOwn P t l) es x es' ls) (hl : LH R ρ ls) (hg : holds ρ es.gs = some true)
  (hv : LRel (cxOf P X ρ (cur S es.obs) μ w) l v) :
  ∃ y, x.ev ρ = some y ∧ Lend P N X ρ K S μ a w (blk v).toList es es' ∧ CellOwn P w (fun b => (X b ∨ b ∈ (blk v).toList) ∨ Wr (cur S es'.obs) μ b) t y v := by
 unfold takeOwn at h
 split at h
 ·rename_i e he
  obtain ⟨ys, r1, r2, r3⟩ := takeRow_ok G h hl hg hv
  exact ⟨_, r1, r2, ys, rfl, .inl ⟨e, elemT_eq he, r3⟩⟩
 ·obtain ⟨ys, kt, vt, r1, r2, r3, r4⟩ := takeMap_ok G h hv
  exact ⟨_, r1, r2, ys, rfl, .inr ⟨kt, vt, r3, r4⟩⟩
theorem leafData_flat {t : TypeId} {l : LV} {x : Arg} (h : Ev S (leafData P false t l) es x es' ls) (he : elemT P t = none) : Ev S (leafData P true t l) es x es' ls := by
 cases l with
 | ref k u =>
  exfalso
  unfold leafData at h
  simp only [Ev_bind, Ev_getOb] at h
  obtain ⟨o, _, _, ls2, ⟨ho, rfl, rfl⟩, h, rfl⟩ := h
  cases o <;> simp [Ev_fail, Ev_bind, Ev_guard, he] at h
 | sub k lo hi u =>
  exfalso
  unfold leafData at h
  simp only [Ev_bind, Ev_getOb] at h
  obtain ⟨o, _, _, ls2, ⟨ho, rfl, rfl⟩, h, rfl⟩ := h
  cases o <;> simp [Ev_fail, Ev_bind, Ev_guard, he] at h
 | _ => exact h
theorem getCells_flat : ∀ {bs : List Bool} {ts : List TypeId} {lvs : List LV} {es es' : ES} {as : List Arg} {ls : List PLt}, Ev S (getCells P false bs ts lvs) es as es' ls → flatCells P bs ts = true → Ev S (getCells P true bs ts lvs) es as es' ls
 | [], [], [], es, es', as, ls, h, hf => h
 | o :: bs, t :: ts, l :: lvs, es, es', as, ls, h, hf => by
  unfold getCells at h ⊢
  rw [Ev_bind] at h ⊢
  obtain ⟨x, e1, l1, l2, h1, h2, rfl⟩ := h
  rw [Ev_bind] at h2
  obtain ⟨y, e2, l3, l4, h3, h4, rfl⟩ := h2
  cases o with
  | true =>
   simp only [flatCells, Bool.and_eq_true] at hf
   exact ⟨x, e1, l1, _, h1, Ev_bind.2 ⟨y, e2, l3, l4, getCells_flat h3 hf.2, h4, rfl⟩, rfl⟩
  | false =>
   simp only [flatCells, Bool.and_eq_true, Option.isNone_iff_eq_none] at hf
   exact ⟨x, e1, l1, _, leafData_flat h1 hf.1, Ev_bind.2 ⟨y, e2, l3, l4, getCells_flat h3 hf.2, h4, rfl⟩, rfl⟩
 | [], [], _ :: _, _, _, _, _, h, _ => by simp [getCells, Ev_fail] at h
 | [], _ :: _, _, _, _, _, _, h, _ => by simp [getCells, Ev_fail] at h
 | _ :: _, [], _, _, _, _, _, h, _ => by simp [getCells, Ev_fail] at h
 | _ :: _, _ :: _, [], _, _, _, _, h, _ => by simp [getCells, Ev_fail] at h
def OutO (al : Bool) (X : Nat → Prop) (L : List Nat) (ob : Nat → Option Ob) (μ : Nat → Value) (b : Nat) : Prop := al = true ∧ ((X b ∨ b ∈ L) ∨ Wr ob μ b)
theorem getCells_ok : ∀ {bs : List Bool} {ts : List TypeId} {lvs : List LV} {X : Nat → Prop} {es es' : ES} {as : List Arg} {ls : List PLt} {vs : List Value}, Good P N X ρ K S.tm (cur S es.obs) μ a w → Ev S (getCells P true bs ts lvs) es as es' ls → LH R ρ ls → holds ρ es.gs = some true →
  (∀ k ∈ lvs.flatMap keysLV, K k) → CRels (cxOf P X ρ (cur S es.obs) μ w) lvs vs →
  ∃ xs L, Arg.evs ρ as = some xs ∧ Lend P N X ρ K S μ a w L es es' ∧ CellsOwn P w (OutO true X L (cur S es'.obs) μ) bs ts xs vs L
 | [], [], [], X, es, es', as, ls, vs, G, h, hl, hg, hk, hv => by
  unfold getCells at h
  rw [Ev_pure] at h
  obtain ⟨rfl, rfl, rfl⟩ := h
  cases vs with
  | cons => exact hv.elim
  | nil => exact ⟨[], [], rfl, (Ph.refl G).lend, rfl⟩
 | o :: bs, t :: ts, l :: lvs, X, es, es', as, ls, vs, G, h, hl, hg, hk, hv => by
  cases vs with
  | nil => exact hv.elim
  | cons v vs =>
   unfold getCells at h
   simp only [Ev_bind] at h
   obtain ⟨x, e1, l1, _, h1, ⟨as, e2, l2, _, h2, h3, rfl⟩, rfl⟩ := h
   rw [Ev_pure] at h3
   obtain ⟨rfl, rfl, rfl⟩ := h3
   have hk1 : ∀ k ∈ lvs.flatMap keysLV, K k := fun k hm => hk k (by rw [List.flatMap_cons]; exact List.mem_append_right _ hm)
   cases o with
   | true =>
    simp only [getCell, if_true] at h1
    obtain ⟨y, r1, r2, r3⟩ := takeOwn_ok G h1 hl.left hg hv.1.2
    obtain ⟨xs, L2, s1, s2, s3⟩ := getCells_ok r2.good h2 hl.right.left (by rw [r2.gs]; exact hg) hk1 (r2.later.crels hk1 hv.2)
    refine ⟨y :: xs, _, evs_cons r1 s1, r2.trans s2, L2, r3.weaken fun b hb ho => ?_, s3.weaken (fun b hb ho => ?_), rfl⟩
    ·obtain ⟨_, ho⟩ := ho
     have := s2.later.O b hb (by simpa [cxOf, or_assoc] using ho)
     exact this
    ·exact ⟨rfl, by simpa [or_assoc] using ho.2⟩
   | false =>
    simp only [getCell, Bool.false_eq_true, if_false] at h1
    obtain ⟨p, q2, q3⟩ := leafData_ok G h1 hl.left hg hv.1.2
    obtain ⟨iv, q4, q5⟩ := q3 rfl
    obtain ⟨xs, L2, s1, s2, s3⟩ := getCells_ok p.good h2 hl.right.left (by rw [p.gs]; exact hg) hk1 (p.later.crels hk1 hv.2)
    have s2' := p.lend.trans (s2.congr fun b => by simp)
    refine ⟨iv :: xs, L2, evs_cons q4 s1, by simpa using s2', q5.weaken fun b hb ho => s2.later.O b hb ho.2, s3⟩
 | [], [], _ :: _, X, es, es', as, ls, vs, G, h, hl, hg, hk, hv => by simp [getCells, Ev_fail] at h
 | [], _ :: _, _, X, es, es', as, ls, vs, G, h, hl, hg, hk, hv => by simp [getCells, Ev_fail] at h
 | _ :: _, [], _, X, es, es', as, ls, vs, G, h, hl, hg, hk, hv => by simp [getCells, Ev_fail] at h
 | _ :: _, _ :: _, [], X, es, es', as, ls, vs, G, h, hl, hg, hk, hv => by simp [getCells, Ev_fail] at h
end
end Go.CT
namespace Go.CT
open EM
def BkRel (P : Program) (K : Nat → Prop) (μ : Nat → Value) : PS → Value → List Bk → Prop
 | .box t bs, u, l => ∃ k, l = [.box k t bs] ∧ K k ∧ μ k = u
 | .arr t, u, l => ∃ k e t', l = [.arr k e t'] ∧ K k ∧ μ k = u ∧ P.underlying t = some (.slice e) ∧ P.underlying t' = some (.slice e)
 | .bld t bk, u, l => ∃ k st e, bldT P t = some (st, e) ∧ l = (if bk then [.bld k t e st] else []) ∧ K k ∧ μ k = u
 | _, _, l => l = []
def BksRel (P : Program) (K : Nat → Prop) (μ : Nat → Value) : List PS → List Value → List Bk → Prop
 | [], [], l => l = []
 | p :: ps, u :: us, l => ∃ l1 l2, l = l1 ++ l2 ∧ BkRel P K μ p u l1 ∧ BksRel P K μ ps us l2
 | _, _, _ => False
section
variable {P : Program} {N : Nat} {X : Nat → Prop} {R : Job → List IV → Option (List IV)} {ρ : List IV} {K : Nat → Prop} {S : View} {μ : Nat → Value} {a : Act} {w : World} {es es' : ES} {ls : List PLt} {sx : SX}
theorem capData_ok {al : Bool} {t : TypeId} {p : PV} {x : Arg} {v : Value} (G : Good P N X ρ K S.tm (cur S es.obs) μ a w) (h : Ev S (capData P al t p) es x es' ls) (hl : LH R ρ ls) (hg : holds ρ es.gs = some true)
  (hv : PRel (cxOf P X ρ (cur S es.obs) μ w) p v) :
  Ph P N X ρ K S μ a w es es' ∧ ∃ iv, x.ev ρ = some iv ∧ CapRel P w (OutO al X [] (cur S es'.obs) μ) (fun _ => False) t iv v := by
 unfold capData at h
 split at h
 ·rename_i k
  rw [Ev_bind] at h
  obtain ⟨o, _, _, l2, h0, h, rfl⟩ := h
  rw [Ev_getOb] at h0
  obtain ⟨ho, rfl, rfl⟩ := h0
  cases o with
  | arr => simp [Ev_fail] at h
  | frz => simp [Ev_fail] at h
  | iter => simp [Ev_fail] at h
  | mp => simp [Ev_fail] at h
  | box t0 vv =>
   rw [Ev_bind] at h
   obtain ⟨_, _, _, _, h0, h, rfl⟩ := h
   rw [Ev_guard] at h0
   obtain ⟨g0, rfl, rfl⟩ := h0
   simp only [Bool.and_eq_true, beq_iff_eq, decide_eq_true_eq] at g0
   obtain ⟨rfl, g0⟩ := g0
   obtain ⟨b, u, o1, o2, o3, o4, o5, o6⟩ := G.obj k _ ho
   obtain ⟨p1, p2, p3⟩ := toData_ok G h (by simpa using hl) hg (G.ko k _ ho).2 o6
   obtain ⟨iv, q1, q2⟩ := Rel.as (O := OutO al X [] (cur S es'.obs) μ) p2 p3 fun b hb => ⟨hb.1, by simpa [cxOf] using hb.2⟩
   refine ⟨p1, iv, q1, ⟨b, 0, none⟩, u, ?_, ⟨o3, fun i c hc => ?_⟩, g0, id, q2⟩
   ·obtain ⟨b', r1, r2⟩ := hv
    have r1' : μ k = .pointer (some ⟨b', 0, none⟩) := r1
    have o1' : μ k = .pointer (some ⟨b, 0, none⟩) := o1
    rw [o1'] at r1'; injection r1' with r1'; injection r1' with r1'; injection r1' with r1'
    subst r1'
    rw [r2, addr_add_zero]
   ·rw [addr_of]
    have o2' : w.heap[b]? = some (.cells u.cells t (0, 0)) := o2
    simp only [World.cell?, o2']
    exact hc
 ·rename_i x' t0
  simp only [Ev_bind, Ev_guard, Ev_pure] at h
  obtain ⟨_, _, _, _, ⟨g0, rfl, rfl⟩, ⟨rfl, rfl, rfl⟩, rfl⟩ := h
  have : t = t0 := by simpa using g0
  subst this
  obtain ⟨ad, u, ⟨iv, r1, r2⟩, r3, r4, r5, r6⟩ := hv
  refine ⟨.refl G, iv, r1, ad, u, by rw [r6, addr_add_zero], r3, r4, id, r2.weaken fun b _ hb => by simpa [cxOf] using hb.2⟩
 ·simp [Ev_fail] at h
theorem capsData_ok {al : Bool} : ∀ {ts : List TypeId} {ps : List PV} {es es' : ES} {as : List Arg} {ls : List PLt} {vs : List Value}, Good P N X ρ K S.tm (cur S es.obs) μ a w → Ev S (capsData P al ts ps) es as es' ls → LH R ρ ls → holds ρ es.gs = some true →
  (∀ k ∈ ps.flatMap keysPV, K k) → PRels (cxOf P X ρ (cur S es.obs) μ w) ps vs →
  Ph P N X ρ K S μ a w es es' ∧ ∃ xs, Arg.evs ρ as = some xs ∧ CapsRel P w (OutO al X [] (cur S es'.obs) μ) (fun _ => False) ts xs vs
 | [], [], es, es', as, ls, vs, G, h, hl, hg, hk, hv => by
  unfold capsData at h
  rw [Ev_pure] at h
  obtain ⟨rfl, rfl, rfl⟩ := h
  cases vs with
  | cons => exact hv.elim
  | nil => exact ⟨.refl G, [], rfl, trivial⟩
 | t :: ts, p :: ps, es, es', as, ls, vs, G, h, hl, hg, hk, hv => by
  cases vs with
  | nil => exact hv.elim
  | cons v vs =>
   unfold capsData at h
   simp only [Ev_bind] at h
   obtain ⟨x, e1, l1, _, h1, ⟨as, e2, l2, _, h2, h3, rfl⟩, rfl⟩ := h
   rw [Ev_pure] at h3
   obtain ⟨rfl, rfl, rfl⟩ := h3
   have hk1 : ∀ k ∈ ps.flatMap keysPV, K k := fun k hm => hk k (by rw [List.flatMap_cons]; exact List.mem_append_right _ hm)
   obtain ⟨p1, iv, p2, p3⟩ := capData_ok G h1 hl.left hg hv.1
   obtain ⟨q1, xs, q2, q3⟩ := capsData_ok p1.good h2 hl.right.left (by rw [p1.gs]; exact hg) hk1 (p1.later.prels hk1 hv.2)
   refine ⟨p1.trans q1, iv :: xs, evs_cons p2 q2, p3.weaken fun b hb ho => ⟨ho.1, ?_⟩, q3⟩
   have := q1.later.O b hb (by simpa [cxOf] using ho.2)
   simpa [cxOf] using this
 | [], _ :: _, es, es', as, ls, vs, G, h, hl, hg, hk, hv => by simp [capsData, Ev_fail] at h
 | _ :: _, [], es, es', as, ls, vs, G, h, hl, hg, hk, hv => by simp [capsData, Ev_fail] at h
theorem xArg_ok {al : Bool} {p : PS} {vv : VV} {r : List Arg × List Bk} {u : Value} (G : Good P N X ρ K S.tm (cur S es.obs) μ a w) (h : Ev S (xArg P al p vv) es r es' ls) (hl : LH R ρ ls) (hg : holds ρ es.gs = some true)
  (hk : ∀ k ∈ keysVV vv, K k) (hv : VRel (cxOf P X ρ (cur S es.obs) μ w) vv u) (hal : p.isPure = true ∨ al = true) :
  ∃ xs L, Arg.evs ρ r.1 = some xs ∧ Lend P N X ρ K S μ a w L es es' ∧ ArgRel P w (OutO al X L (cur S es'.obs) μ) (fun _ => False) p xs u L ∧ BkRel P K μ p u r.2 := by
 unfold xArg at h
 cases p with
 | data t =>
  simp only [Ev_bind, Ev_pure] at h
  obtain ⟨x, e1, l1, _, h1, ⟨rfl, rfl, rfl⟩, rfl⟩ := h
  obtain ⟨p1, p2, p3⟩ := toData_ok G h1 (by simpa using hl) hg hk hv
  obtain ⟨iv, q1, q2⟩ := Rel.as (O := OutO al X [] (cur S e1.obs) μ) p2 p3 fun b hb => ⟨hb.1, by simpa [cxOf] using hb.2⟩
  exact ⟨[iv], [], evs_cons q1 rfl, p1.lend, ⟨iv, rfl, rfl, q2⟩, rfl⟩
 | arr t =>
  have hal : al = true := by simpa [PS.isPure] using hal
  subst hal
  simp only at h
  split at h
  ·rename_i k t1
   rw [Ev_bind] at h
   obtain ⟨o, _, _, l2, h0, h, rfl⟩ := h
   rw [Ev_getOb] at h0
   obtain ⟨ho, rfl, rfl⟩ := h0
   cases o with
   | box => simp [Ev_fail] at h
   | frz => simp [Ev_fail] at h
   | iter => simp [Ev_fail] at h
   | mp => simp [Ev_fail] at h
   | arr e t' c =>
    simp only [Ev_bind, Ev_guard, Ev_setOb, Ev_pure] at h
    obtain ⟨_, _, _, _, ⟨g0, rfl, rfl⟩, ⟨_, _, _, _, ⟨rfl, rfl⟩, ⟨rfl, rfl, rfl⟩, rfl⟩, rfl⟩ := h
    have g0 : elemT P t = some e := by simpa using g0
    obtain ⟨ivs, cs, q1, q2, q3, q4, q5, q6⟩ := G.obj k _ ho
    have q2 : P.underlying t' = some (.slice e) := q2
    have hu : u = μ k := hv.1
    subst hu
    have d := Lend.drop (n := es.n) G ho rfl
    refine ⟨[.list ivs], _, evs_cons q1 rfl, d, ⟨e, ivs, rfl, rfl, elemT_eq g0, q3, cs, q4, ?_, q6⟩, k, e, t', rfl, (G.ko k _ ho).1, rfl, elemT_eq g0, q2⟩
    exact Elems.weaken (O := (cxOf P X ρ (cur S es.obs) μ w).O) q5 fun b hb ho => d.later.O b hb ho.2
  ·simp [Ev_fail] at h
 | own t =>
  have hal : al = true := by simpa [PS.isPure] using hal
  subst hal
  simp only at h
  split at h
  ·rename_i l
   simp only [Ev_bind, Ev_ofOption, Ev_pure] at h
   obtain ⟨e, _, _, _, ⟨h1, rfl, rfl⟩, ⟨x, e1, l1, _, h2, ⟨rfl, rfl, rfl⟩, rfl⟩, rfl⟩ := h
   obtain ⟨ys, r1, r2, r3⟩ := takeRow_ok G h2 (by simpa using hl) hg hv
   exact ⟨_, _, evs_cons r1 rfl, r2, ⟨e, ys, rfl, rfl, elemT_eq h1, r3.weaken fun b _ hb => hb.2⟩, rfl⟩
  ·simp [Ev_fail] at h
 | box t bs =>
  have hal : al = true := by simpa [PS.isPure] using hal
  subst hal
  simp only at h
  split at h
  ·rename_i k
   rw [Ev_bind] at h
   obtain ⟨o, _, _, l2, h0, h, rfl⟩ := h
   rw [Ev_getOb] at h0
   obtain ⟨ho, rfl, rfl⟩ := h0
   cases o with
   | arr => simp [Ev_fail] at h
   | frz => simp [Ev_fail] at h
   | iter => simp [Ev_fail] at h
   | mp => simp [Ev_fail] at h
   | box t0 v0 =>
    simp only [Ev_bind, Ev_guard, Ev_setOb, Ev_ofOption, Ev_pure] at h
    obtain ⟨_, _, _, _, ⟨g0, rfl, rfl⟩, ⟨cs, e1, l1, _, h1, ⟨_, _, _, _, ⟨rfl, rfl⟩, ⟨ts, _, _, _, ⟨h2, rfl, rfl⟩, ⟨as, e2, l3, _, h3, ⟨rfl, rfl, rfl⟩, rfl⟩, rfl⟩, rfl⟩, rfl⟩, rfl⟩ := h
    have : t = t0 := by simpa using g0
    subst this
    obtain ⟨b, v, o1, o2, o3, o4, o5, o6⟩ := G.obj k _ ho
    have o1 : μ k = .pointer (some ⟨b, 0, none⟩) := o1
    have o2 : w.heap[b]? = some (.cells v.cells t (0, 0)) := o2
    obtain ⟨⟨n1, rfl⟩, q1, q2⟩ := explode_ok h1 (by simpa using LH.left (by simpa using hl)) hg (G.ko k _ ho).2 o6
    have d := Lend.drop (n := n1) G ho rfl
    obtain ⟨xs, L, s1, s2, s3⟩ := getCells_ok d.good h3 (by simpa using LH.right (by simpa using hl)) (by rw [d.gs]; exact hg) q2 (d.later.crels q2 q1)
    have hu : u = μ k := by
     obtain ⟨b', r1, r2⟩ := hv
     have r1' : μ k = .pointer (some ⟨b', 0, none⟩) := r1
     rw [r2, addr_add_zero, r1']
    subst hu
    have hb : (blk (μ k)).toList = [b] := by rw [o1]; rfl
    refine ⟨xs, _, s1, d.trans s2, ⟨b, v, L, o1, o2, ⟨ts, h2, o3, o4, s3.weaken fun c hc hO => ⟨rfl, ?_⟩⟩, by rw [hb]; rfl⟩, k, rfl, (G.ko k _ ho).1, rfl⟩
    simpa [or_assoc] using hO.2
  ·simp [Ev_fail] at h
 | fnb f n =>
  simp only [Ev_pure] at h
  obtain ⟨rfl, rfl, rfl⟩ := h
  exact ⟨[], [], rfl, (Ph.refl G).lend, ⟨rfl, rfl⟩, rfl⟩
 | fn f ts =>
  simp only at h
  split at h
  ·rename_i g caps
   simp only [Ev_bind, Ev_guard, Ev_pure] at h
   obtain ⟨_, _, _, _, ⟨g0, rfl, rfl⟩, ⟨as, e1, l1, _, h1, ⟨rfl, rfl, rfl⟩, rfl⟩, rfl⟩ := h
   have : f = g := by simpa using g0
   subst this
   obtain ⟨vs, rfl, hp⟩ := hv
   obtain ⟨p1, xs, p2, p3⟩ := capsData_ok G h1 (by simpa using hl) hg hk hp
   exact ⟨xs, [], p2, p1.lend, ⟨vs, rfl, rfl, p3⟩, rfl⟩
  ·simp [Ev_fail] at h
 | rd t =>
  simp only at h
  split at h
  ·rename_i p
   simp only [Ev_bind, Ev_pure] at h
   obtain ⟨x, e1, l1, _, h1, ⟨rfl, rfl, rfl⟩, rfl⟩ := h
   obtain ⟨p1, iv, p2, p3⟩ := capData_ok G h1 (by simpa using hl) hg hv
   exact ⟨[iv], [], evs_cons p2 rfl, p1.lend, ⟨iv, rfl, rfl, p3⟩, rfl⟩
  ·simp [Ev_fail] at h
 | bld t bk =>
  have hal : al = true := by simpa [PS.isPure] using hal
  subst hal
  simp only at h
  split at h
  ·rename_i k
   rw [Ev_bind] at h
   obtain ⟨o, _, _, l2, h0, h, rfl⟩ := h
   rw [Ev_getOb] at h0
   obtain ⟨ho, rfl, rfl⟩ := h0
   split at h
   ·rename_i t0 t1 k1 lv
    simp only [Ev_bind, Ev_guard, Ev_setOb, Ev_ofOption, Ev_pure] at h
    obtain ⟨se, _, _, _, ⟨hse, rfl, rfl⟩, ⟨_, _, _, _, ⟨g0, rfl, rfl⟩, ⟨_, _, _, _, ⟨rfl, rfl⟩, ⟨x, e2, l3, _, h3, ⟨rfl, rfl, rfl⟩, rfl⟩, rfl⟩, rfl⟩, rfl⟩ := h
    simp only [Bool.and_eq_true, beq_iff_eq] at g0
    obtain ⟨e0, e1⟩ := g0
    subst e0; subst e1
    obtain ⟨b, v, o1, o2, o3, o4, o5, o6⟩ := G.obj k1 _ ho
    have o1 : μ k1 = .pointer (some ⟨b, 0, none⟩) := o1
    have o2 : w.heap[b]? = some (.cells v.cells t (0, 0)) := o2
    have hu : u = μ k1 := by
     obtain ⟨b', r1, r2⟩ := hv
     have r1' : μ k1 = .pointer (some ⟨b', 0, none⟩) := r1
     rw [r2, addr_add_zero, r1']
    subst hu
    obtain ⟨cs, rfl, hc⟩ := o6
    obtain ⟨c0, c1, hcs⟩ : ∃ c0 c1, cs.toList = [c0, c1] := by
     match hcs : cs.toList, hc with
     | [c0, c1], _ => exact ⟨c0, c1, rfl⟩
     | [], h => exact h.elim
     | [_], h => exact h.2.elim
     | _ :: _ :: _ :: _, h => exact h.2.2.elim
    rw [hcs] at hc
    have hcs' : cs = #[c0, c1] := by rw [← Array.toArray_toList (xs := cs), hcs]
    subst hcs'
    have d := Lend.drop (n := es.n) G ho rfl
    have hkl : ∀ k ∈ keysLV lv, K k := fun k' hk' => (G.ko k1 _ ho).2 k' (by simp [keysOb, keysVV, hk'])
    obtain ⟨ys, r1, r2, r3⟩ := takeRow_ok d.good h3 (by simpa using hl) (by rw [d.gs]; exact hg) (d.later.lrel hkl hc.2.1.2)
    have hb : (blk (μ k1)).toList = [b] := by rw [o1]; rfl
    refine ⟨[.list ys], _, evs_cons r1 rfl, d.trans r2, ⟨b, c0, c1, ys, se.1, se.2, o1, o2, ?_, hse, rfl, r3.weaken fun b' hb' hO => ?_, by rw [hb]; rfl⟩, k1, se.1, se.2, hse, rfl, (G.ko k1 _ ho).1, rfl⟩
    ·exact hc.1.2.imp id fun h => h.1
    ·simpa [or_assoc] using hO.2
   ·simp [Ev_fail] at h
  ·simp [Ev_fail] at h
theorem evs_append : ∀ {xs ys : List Arg} {us vs : List IV}, Arg.evs ρ xs = some us → Arg.evs ρ ys = some vs → Arg.evs ρ (xs ++ ys) = some (us ++ vs)
 | [], ys, us, vs, h1, h2 => by
  simp only [Arg.evs, Option.some.injEq] at h1
  subst h1; exact h2
 | x :: xs, ys, us, vs, h1, h2 => by
  unfold Arg.evs at h1
  cases hx : x.ev ρ with
  | none => simp [hx] at h1
  | some u =>
   cases hr : Arg.evs ρ xs with
   | none => simp [hx, hr] at h1
   | some r =>
    simp [hx, hr] at h1
    subst h1
    exact evs_cons hx (evs_append hr h2)
theorem xArgs_ok {al : Bool} : ∀ {ps : List PS} {vvs : List VV} {X : Nat → Prop} {es es' : ES} {r : List Arg × List Bk} {ls : List PLt} {us : List Value}, Good P N X ρ K S.tm (cur S es.obs) μ a w → Ev S (xArgs P al ps vvs) es r es' ls → LH R ρ ls →
  holds ρ es.gs = some true → (∀ k ∈ vvs.flatMap keysVV, K k) → VRels (cxOf P X ρ (cur S es.obs) μ w) vvs us → (ps.all PS.isPure = true ∨ al = true) →
  ∃ xs L, Arg.evs ρ r.1 = some xs ∧ Lend P N X ρ K S μ a w L es es' ∧ ArgsRel P w (OutO al X L (cur S es'.obs) μ) (fun _ => False) ps xs us L ∧ BksRel P K μ ps us r.2
 | [], [], X, es, es', r, ls, us, G, h, hl, hg, hk, hv, hal => by
  unfold xArgs at h
  rw [Ev_pure] at h
  obtain ⟨rfl, rfl, rfl⟩ := h
  cases us with
  | cons => exact hv.elim
  | nil => exact ⟨[], [], rfl, (Ph.refl G).lend, ⟨rfl, rfl⟩, rfl⟩
 | p :: ps, vv :: vvs, X, es, es', r, ls, us, G, h, hl, hg, hk, hv, hal => by
  cases us with
  | nil => exact hv.elim
  | cons u us =>
   unfold xArgs at h
   simp only [Ev_bind] at h
   obtain ⟨r1, e1, l1, _, h1, ⟨r2, e2, l2, _, h2, h3, rfl⟩, rfl⟩ := h
   rw [Ev_pure] at h3
   obtain ⟨rfl, rfl, rfl⟩ := h3
   have hk1 : ∀ k ∈ vvs.flatMap keysVV, K k := fun k hm => hk k (by rw [List.flatMap_cons]; exact List.mem_append_right _ hm)
   simp only [List.all_cons, Bool.and_eq_true] at hal
   obtain ⟨xs, L1, p1, p2, p3, p4⟩ := xArg_ok G h1 hl.left hg (fun k hm => hk k (by rw [List.flatMap_cons]; exact List.mem_append_left _ hm)) hv.1 (hal.imp (·.1) id)
   obtain ⟨ys, L2, q1, q2, q3, q4⟩ := xArgs_ok p2.good h2 hl.right.left (by rw [p2.gs]; exact hg) hk1 (p2.later.vrels hk1 hv.2) (hal.imp (·.2) id)
   refine ⟨xs ++ ys, L1 ++ L2, evs_append p1 q1, p2.trans q2, ⟨xs, ys, L1, L2, rfl, rfl, p3.weaken fun b hb ho => ⟨ho.1, ?_⟩, q3.weaken fun b hb ho => ⟨ho.1, by simpa [or_assoc] using ho.2⟩⟩, _, _, rfl, p4, q4⟩
   have := q2.later.O b hb (by simpa [cxOf, or_assoc] using ho.2)
   exact this
 | [], _ :: _, X, es, es', r, ls, us, G, h, hl, hg, hk, hv, hal => by simp [xArgs, Ev_fail] at h
 | _ :: _, [], X, es, es', r, ls, us, G, h, hl, hg, hk, hv, hal => by simp [xArgs, Ev_fail] at h
def PS.isData : PS → Bool
 | .data _ => true
 | _ => false
theorem xArg_flat {p : PS} {vv : VV} {r : List Arg × List Bk} (h : Ev S (xArg P false p vv) es r es' ls) (hs : p.safe P = true) (hd : p.isData = false) : Ev S (xArg P true p vv) es r es' ls := by
 cases p with
 | data t => cases hd
 | arr t => exact h
 | own t => exact h
 | bld t b => exact h
 | fnb f n => exact h
 | rd t => cases hs
 | fn f ts =>
  have : ts = [] := by simpa [PS.safe] using hs
  subst this
  unfold xArg at h ⊢
  simp only at h ⊢
  split at h
  ·rename_i g caps
   have e : capsData P true [] caps = capsData P false [] caps := by cases caps <;> rfl
   simp only [e]
   exact h
  ·simp [Ev_fail] at h
 | box t bs =>
  unfold xArg at h ⊢
  simp only at h ⊢
  split at h
  ·rename_i k
   rw [Ev_bind] at h ⊢
   obtain ⟨o, e1, l1, l2, h0, h, rfl⟩ := h
   refine ⟨o, e1, l1, l2, h0, ?_, rfl⟩
   cases o with
   | box t0 v0 =>
    simp only at h ⊢
    rw [Ev_bind] at h ⊢
    obtain ⟨x1, e2, l3, l4, h1, h, rfl⟩ := h
    refine ⟨x1, e2, l3, l4, h1, ?_, rfl⟩
    rw [Ev_bind] at h ⊢
    obtain ⟨x2, e3, l5, l6, h2, h, rfl⟩ := h
    refine ⟨x2, e3, l5, l6, h2, ?_, rfl⟩
    rw [Ev_bind] at h ⊢
    obtain ⟨x3, e4, l7, l8, h3, h, rfl⟩ := h
    refine ⟨x3, e4, l7, l8, h3, ?_, rfl⟩
    rw [Ev_bind] at h ⊢
    obtain ⟨ts, e5, l9, l10, h4, h, rfl⟩ := h
    refine ⟨ts, e5, l9, l10, h4, ?_, rfl⟩
    rw [Ev_bind] at h ⊢
    obtain ⟨as, e6, l11, l12, h5, h, rfl⟩ := h
    refine ⟨as, e6, l11, l12, getCells_flat h5 ?_, h, rfl⟩
    obtain ⟨hts, _, _⟩ := Ev_ofOption.1 h4
    simpa [PS.safe, hts] using hs
   | _ => simp [Ev_fail] at h
  ·simp [Ev_fail] at h
theorem keysD_skip {p : PS} {ps : List PS} {v : VV} {vs : List VV} (hd : p.isData = false) : keysD (p :: ps) (v :: vs) = keysD ps vs := by cases p <;> first | rfl | cases hd
theorem dataOk_skip {p : PS} {ps : List PS} {v : VV} {vs : List VV} (hd : p.isData = false) : dataOk (p :: ps) (v :: vs) = dataOk ps vs := by cases p <;> first | (cases v <;> rfl) | cases hd
theorem xArgsL_ok {KS : List Nat} : ∀ {ps : List PS} {vvs : List VV} {X : Nat → Prop} {es es' : ES} {r : List Arg × List Bk} {ls : List PLt} {us : List Value}, Good P N X ρ K S.tm (cur S es.obs) μ a w → Ev S (xArgs P false ps vvs) es r es' ls → LH R ρ ls →
  holds ρ es.gs = some true → (∀ k ∈ vvs.flatMap keysVV, K k) → VRels (cxOf P X ρ (cur S es.obs) μ w) vvs us → ps.all (PS.safe P) = true → dataOk ps vvs = true → (∀ k ∈ keysD ps vvs, ∀ e t c, cur S es.obs k = some (.arr e t c) → k ∈ KS) →
  ∃ xs L, Arg.evs ρ r.1 = some xs ∧ Lend P N X ρ K S μ a w L es es' ∧ ArgsRel P w (fun b => (X b ∨ b ∈ L) ∧ ∀ k ∈ KS, blk (μ k) ≠ some b) (fun _ => False) ps xs us L ∧ BksRel P K μ ps us r.2
 | [], [], X, es, es', r, ls, us, G, h, hl, hg, hk, hv, hs, hd, hKS => by
  unfold xArgs at h
  rw [Ev_pure] at h
  obtain ⟨rfl, rfl, rfl⟩ := h
  cases us with
  | cons => exact hv.elim
  | nil => exact ⟨[], [], rfl, (Ph.refl G).lend, ⟨rfl, rfl⟩, rfl⟩
 | p :: ps, vv :: vvs, X, es, es', r, ls, us, G, h, hl, hg, hk, hv, hs, hd, hKS => by
  cases us with
  | nil => exact hv.elim
  | cons u us =>
   unfold xArgs at h
   simp only [Ev_bind] at h
   obtain ⟨r1, e1, l1, _, h1, ⟨r2, e2, l2, _, h2, h3, rfl⟩, rfl⟩ := h
   rw [Ev_pure] at h3
   obtain ⟨rfl, rfl, rfl⟩ := h3
   have hk0 : ∀ k ∈ keysVV vv, K k := fun k hm => hk k (by rw [List.flatMap_cons]; exact List.mem_append_left _ hm)
   have hk1 : ∀ k ∈ vvs.flatMap keysVV, K k := fun k hm => hk k (by rw [List.flatMap_cons]; exact List.mem_append_right _ hm)
   simp only [List.all_cons, Bool.and_eq_true] at hs
   cases hp : p.isData with
   | false =>
    rw [dataOk_skip hp] at hd
    rw [keysD_skip hp] at hKS
    obtain ⟨xs, L1, p1, p2, p3, p4⟩ := xArg_ok G (xArg_flat h1 hs.1 hp) hl.left hg hk0 hv.1 (.inr rfl)
    obtain ⟨ys, L2, q1, q2, q3, q4⟩ := xArgsL_ok p2.good h2 hl.right.left (by rw [p2.gs]; exact hg) hk1 (p2.later.vrels hk1 hv.2) hs.2 hd (fun k hk e t c ho => hKS k hk e t c (p2.fewer k _ ho rfl))
    refine ⟨xs ++ ys, L1 ++ L2, evs_append p1 q1, p2.trans q2, ⟨xs, ys, L1, L2, rfl, rfl, p3.weaken fun b hb ho => ⟨rfl, ?_⟩, q3.weaken fun b hb ho => ?_⟩, _, _, rfl, p4, q4⟩
    ·rcases ho.1 with ho | ho
     ·exact .inl (.inl ho)
     ·rcases List.mem_append.1 ho with ho | ho
      ·exact .inl (.inr ho)
      ·exact .inr (q2.own b ho)
    ·exact ⟨by simpa [or_assoc] using ho.1, ho.2⟩
   | true =>
    cases p with
    | data t =>
     unfold xArg at h1
     simp only [Ev_bind, Ev_pure] at h1
     obtain ⟨x, e1', l1', _, h1, ⟨rfl, rfl, rfl⟩, rfl⟩ := h1
     obtain ⟨p1, p2, p3⟩ := toData_ok G h1 (by simpa using hl.left) hg hk0 hv.1
     have hd0 : (∃ l, vv = .leaf l) ∨ keysVV vv = [] := by
      cases vv with
      | leaf l => exact .inl ⟨l, rfl⟩
      | agg t' cs => right; simp only [dataOk, Bool.and_eq_true, List.isEmpty_iff] at hd; exact hd.1
     have hd1 : dataOk ps vvs = true := by
      cases vv with
      | leaf l => exact hd
      | agg t' cs => simp only [dataOk, Bool.and_eq_true] at hd; exact hd.2
     obtain ⟨iv, d1, d2⟩ := toDataA_ok (KS := KS) G h1 (by simpa using hl.left) hg hk0 hv.1 (fun k hk e t c ho => hKS k (by simp only [keysD]; exact List.mem_append_left _ hk) e t c ho) hd0
     obtain ⟨ys, L2, q1, q2, q3, q4⟩ := xArgsL_ok p1.good h2 hl.right.left (by rw [p1.gs]; exact hg) hk1 (p1.later.vrels hk1 hv.2) hs.2 hd1 (fun k hk e t c ho => hKS k (by simp only [keysD]; exact List.mem_append_right _ hk) e t c (p1.fewer k _ ho rfl))
     have q2' := p1.lend.trans (q2.congr fun b => by simp)
     refine ⟨[iv] ++ ys, [] ++ L2, evs_append (evs_cons d1 rfl) q1, q2', ⟨[iv], ys, [], L2, rfl, rfl, ⟨iv, rfl, rfl, d2.weaken fun b hb ho => ⟨ho.1.imp id fun h => p1.fewer.wr (q2.own b (by simpa using h)), ho.2⟩⟩, by simpa using q3⟩, _, _, rfl, rfl, q4⟩
    | _ => cases hp
 | [], _ :: _, X, es, es', r, ls, us, G, h, hl, hg, hk, hv, hs, hd, hKS => by simp [xArgs, Ev_fail] at h
 | _ :: _, [], X, es, es', r, ls, us, G, h, hl, hg, hk, hv, hs, hd, hKS => by simp [xArgs, Ev_fail] at h
theorem ownKeys_ok : ∀ {ks r : List Nat} {es es' : ES} {ls : List PLt}, Ev S (ownKeys ks) es r es' ls → es = es' ∧ ls = [] ∧ ∀ k ∈ ks, ∀ e t c, cur S es.obs k = some (.arr e t c) → k ∈ r
 | [], r, es, es', ls, h => by
  unfold ownKeys at h
  rw [Ev_pure] at h
  exact ⟨h.2.1, h.2.2, by simp⟩
 | k :: ks, r, es, es', ls, h => by
  unfold ownKeys at h
  rw [Ev_bind] at h
  obtain ⟨o, e1, l1, l2, h0, h, rfl⟩ := h
  obtain ⟨ho, rfl, rfl⟩ := Ev_getOb.1 h0
  have other : Ev S (ownKeys ks) es r es' l2 → (∀ e t c, o ≠ .arr e t c) → es = es' ∧ [] ++ l2 = [] ∧ ∀ k' ∈ k :: ks, ∀ e t c, cur S es.obs k' = some (.arr e t c) → k' ∈ r := by
   intro h hne
   obtain ⟨q1, q2, q3⟩ := ownKeys_ok h
   refine ⟨q1, by simp [q2], fun k' hk' e t c hc => ?_⟩
   rcases List.mem_cons.1 hk' with rfl | hk'
   ·rw [ho] at hc; injection hc with hc; exact absurd hc (hne _ _ _)
   ·exact q3 k' hk' e t c hc
  cases o with
  | arr e t c =>
   simp only at h
   rw [Ev_bind] at h
   obtain ⟨r', e2, l3, l4, h1, h2, rfl⟩ := h
   obtain ⟨rfl, e21, h2⟩ := Ev_pure.1 h2
   obtain ⟨e12, hl3, q3⟩ := ownKeys_ok h1
   refine ⟨e12.trans e21, by simp [h2, hl3], fun k' hk' e t c hc => ?_⟩
   rcases List.mem_cons.1 hk' with rfl | hk'
   ·exact List.mem_cons_self
   ·exact List.mem_cons_of_mem _ (q3 k' hk' e t c hc)
  | box => exact other h (by intros; simp)
  | frz => exact other h (by intros; simp)
  | iter => exact other h (by intros; simp)
  | mp => exact other h (by intros; simp)
theorem stillKeys_ok {X0 : Nat → Prop} {es0 : ES} {L : List Nat} (d : Lend P N X0 ρ K S μ a w L es0 es) : ∀ {ks : List Nat} {es' : ES} {ls : List PLt} {u : Unit}, Ev S (stillKeys ks) es u es' ls → es = es' ∧ ls = [] ∧ ∀ k ∈ ks, ∀ b, blk (μ k) = some b → b ∉ L
 | [], es', ls, u, h => by
  unfold stillKeys at h
  rw [Ev_pure] at h
  exact ⟨h.2.1, h.2.2, by simp⟩
 | k :: ks, es', ls, u, h => by
  unfold stillKeys at h
  rw [Ev_bind] at h
  obtain ⟨o, e1, l1, l2, h0, h, rfl⟩ := h
  obtain ⟨ho, rfl, rfl⟩ := Ev_getOb.1 h0
  cases o with
  | arr e t c =>
   obtain ⟨q1, q2, q3⟩ := stillKeys_ok d h
   refine ⟨q1, by simp [q2], fun k' hk' b hb => ?_⟩
   rcases List.mem_cons.1 hk' with rfl | hk'
   ·exact fun hL => d.good.xsep _ _ b ho rfl hb (.inr hL)
   ·exact q3 k' hk' b hb
  | box => simp [Ev_fail] at h
  | frz => simp [Ev_fail] at h
  | iter => simp [Ev_fail] at h
  | mp => simp [Ev_fail] at h
theorem stillP_ok {X0 : Nat → Prop} {es0 : ES} {L : List Nat} {p : PV} {v : Value} {u : Unit} (d : Lend P N X0 ρ K S μ a w L es0 es) (h : Ev S (stillP p) es u es' ls) (hv : PRel (cxOf P X0 ρ (cur S es0.obs) μ w) p v) :
  es = es' ∧ ls = [] ∧ ∀ ad, v = .pointer (some ad) → ad.block ∉ L := by
 unfold stillP at h
 cases p with
 | p k off =>
  simp only at h
  rw [Ev_bind] at h
  obtain ⟨o, _, _, l2, h0, h, rfl⟩ := h
  rw [Ev_getOb] at h0
  obtain ⟨ho, rfl, rfl⟩ := h0
  cases o with
  | arr => simp [Ev_fail] at h
  | frz => simp [Ev_fail] at h
  | iter => simp [Ev_fail] at h
  | mp => simp [Ev_fail] at h
  | box t0 vv =>
   rw [Ev_pure] at h
   obtain ⟨_, rfl, rfl⟩ := h
   refine ⟨rfl, rfl, fun ad hv' hL => ?_⟩
   obtain ⟨b, r1, r2⟩ := hv
   have r1' : μ k = .pointer (some ⟨b, 0, none⟩) := r1
   rw [hv'] at r2; injection r2 with r2; injection r2 with r2
   subst r2
   rw [addr_block] at hL
   exact d.good.xsep k _ b ho rfl (by rw [r1']; rfl) (.inr hL)
 | im x t off =>
  simp only at h
  rw [Ev_pure] at h
  obtain ⟨_, rfl, rfl⟩ := h
  refine ⟨rfl, rfl, fun ad hv' hL => ?_⟩
  obtain ⟨ad', u, r3, r4, r5, r6, r7⟩ := hv
  rw [hv'] at r7; injection r7 with r7; injection r7 with r7
  subst r7
  rw [addr_block] at hL
  exact r6 (d.own _ hL)
 | el k e i off => simp [Ev_fail] at h
theorem CapRel.apart {O Lt : Nat → Prop} {t : TypeId} {x : IV} {v : Value} (h : CapRel P w O (fun _ => False) t x v) (hL : ∀ ad, v = .pointer (some ad) → ¬ Lt ad.block) : CapRel P w O Lt t x v :=
 let ⟨ad, u, h1, h2, h3, _, h5⟩ := h; ⟨ad, u, h1, h2, h3, hL ad h1, h5⟩
theorem stillPs_ok {X0 : Nat → Prop} {es0 : ES} {L : List Nat} {O : Nat → Prop} (d : Lend P N X0 ρ K S μ a w L es0 es) : ∀ {ps : List PV} {ts : List TypeId} {xs : List IV} {vs : List Value} {es' : ES} {ls : List PLt} {u : Unit}, Ev S (stillPs ps) es u es' ls → PRels (cxOf P X0 ρ (cur S es0.obs) μ w) ps vs →
  CapsRel P w O (fun _ => False) ts xs vs → es = es' ∧ ls = [] ∧ CapsRel P w O (· ∈ L) ts xs vs
 | [], ts, xs, vs, es', ls, u, h, hv, hc => by
  unfold stillPs at h
  rw [Ev_pure] at h
  obtain ⟨_, rfl, rfl⟩ := h
  cases vs with
  | cons => exact hv.elim
  | nil => exact ⟨rfl, rfl, by cases ts <;> cases xs <;> simp_all [CapsRel]⟩
 | p :: ps, ts, xs, vs, es', ls, u, h, hv, hc => by
  cases vs with
  | nil => exact hv.elim
  | cons v vs =>
   unfold stillPs at h
   rw [Ev_bind] at h
   obtain ⟨_, e1, l1, l2, h1, h2, rfl⟩ := h
   obtain ⟨rfl, rfl, q⟩ := stillP_ok d h1 hv.1
   cases ts with
   | nil => cases xs <;> exact hc.elim
   | cons t ts =>
    cases xs with
    | nil => exact hc.elim
    | cons x xs =>
     obtain ⟨rfl, rfl, r⟩ := stillPs_ok d h2 hv.2 hc.2
     exact ⟨rfl, rfl, hc.1.apart q, r⟩
theorem stillV_ok {X0 : Nat → Prop} {es0 : ES} {L L1 : List Nat} {O : Nat → Prop} {p : PS} {vv : VV} {v : Value} {xs : List IV} {u : Unit} (d : Lend P N X0 ρ K S μ a w L es0 es) (h : Ev S (stillV p vv) es u es' ls) (hv : VRel (cxOf P X0 ρ (cur S es0.obs) μ w) vv v)
  (hc : ArgRel P w O (fun _ => False) p xs v L1) : es = es' ∧ ls = [] ∧ ArgRel P w O (· ∈ L) p xs v L1 := by
 unfold stillV at h
 cases p with
 | rd t =>
  simp only at h
  split at h
  ·obtain ⟨rfl, rfl, q⟩ := stillP_ok d h hv
   obtain ⟨x, h1, h2, h3⟩ := hc
   exact ⟨rfl, rfl, x, h1, h2, h3.apart q⟩
  ·simp [Ev_fail] at h
 | fn f ts =>
  simp only at h
  split at h
  ·obtain ⟨vs, rfl, hps⟩ := hv
   obtain ⟨vs', h1, h2, h3⟩ := hc
   injection h1 with i1 _ h1
   injection i1 with i1
   subst h1; subst i1
   obtain ⟨rfl, rfl, q⟩ := stillPs_ok d h hps h3
   exact ⟨rfl, rfl, vs, rfl, h2, q⟩
  ·simp [Ev_fail] at h
 | data t => rw [Ev_pure] at h; obtain ⟨_, rfl, rfl⟩ := h; exact ⟨rfl, rfl, hc⟩
 | fnb f n => rw [Ev_pure] at h; obtain ⟨_, rfl, rfl⟩ := h; exact ⟨rfl, rfl, hc⟩
 | arr t => rw [Ev_pure] at h; obtain ⟨_, rfl, rfl⟩ := h; exact ⟨rfl, rfl, hc⟩
 | own t => rw [Ev_pure] at h; obtain ⟨_, rfl, rfl⟩ := h; exact ⟨rfl, rfl, hc⟩
 | box t bs => rw [Ev_pure] at h; obtain ⟨_, rfl, rfl⟩ := h; exact ⟨rfl, rfl, hc⟩
 | bld t bk => rw [Ev_pure] at h; obtain ⟨_, rfl, rfl⟩ := h; exact ⟨rfl, rfl, hc⟩
theorem still_ok {X0 : Nat → Prop} {es0 : ES} {L : List Nat} {O : Nat → Prop} (d : Lend P N X0 ρ K S μ a w L es0 es) : ∀ {ps : List PS} {vvs : List VV} {xs : List IV} {vs : List Value} {L1 : List Nat} {es' : ES} {ls : List PLt} {u : Unit}, Ev S (still ps vvs) es u es' ls →
  VRels (cxOf P X0 ρ (cur S es0.obs) μ w) vvs vs → ArgsRel P w O (fun _ => False) ps xs vs L1 → es = es' ∧ ls = [] ∧ ArgsRel P w O (· ∈ L) ps xs vs L1
 | [], [], xs, vs, L1, es', ls, u, h, hv, hc => by
  unfold still at h
  rw [Ev_pure] at h
  obtain ⟨_, rfl, rfl⟩ := h
  cases vs with
  | cons => exact hv.elim
  | nil => exact ⟨rfl, rfl, hc⟩
 | p :: ps, vv :: vvs, xs, vs, L1, es', ls, u, h, hv, hc => by
  cases vs with
  | nil => exact hv.elim
  | cons v vs =>
   unfold still at h
   rw [Ev_bind] at h
   obtain ⟨_, e1, l1, l2, h1, h2, rfl⟩ := h
   obtain ⟨ys, zs, La, Lb, rfl, rfl, c1, c2⟩ := hc
   obtain ⟨rfl, rfl, q⟩ := stillV_ok d h1 hv.1 c1
   obtain ⟨rfl, rfl, r⟩ := still_ok d h2 hv.2 c2
   exact ⟨rfl, rfl, ys, zs, La, Lb, rfl, rfl, q, r⟩
 | [], _ :: _, xs, vs, L1, es', ls, u, h, hv, hc => by simp [still, Ev_fail] at h
 | _ :: _, [], xs, vs, L1, es', ls, u, h, hv, hc => by simp [still, Ev_fail] at h
end
end Go.CT
namespace Go.CT
open EM
structure Reg (c : Cx) (K : Nat → Prop) (tm : Nat → SV) (ob : Nat → Option Ob) (a : Act) (Rm : Nat → Prop) : Prop where
 wo : ∀ b, c.W b → c.O b
 slot : ∀ s, SRel c (tm s) (a.tmps.getD s undef)
 obj : ∀ k o, ob k = some o → ObOk c k o
 sep : ∀ k k' o o' b, ob k = some o → ob k' = some o' → o.isOwn = true → o'.isOwn = true → blk (c.μ k) = some b → blk (c.μ k') = some b → k = k'
 rest : ∀ k o b, ob k = some o → o.isOwn = true → blk (c.μ k) = some b → ¬ Rm b ∧ c.W b
 kt : ∀ s k, k ∈ keysSX (tm s).x → K k
 ko : ∀ k o, ob k = some o → K k ∧ ∀ k' ∈ keysOb o, K k'
def Cx.at (c : Cx) (μ : Nat → Value) : Cx := { c with μ }
theorem Cx.later {c : Cx} {K : Nat → Prop} {μ : Nat → Value} (wo : ∀ b, c.W b → c.O b) (h : ∀ k, K k → μ k = c.μ k) : Later K c (c.at μ) :=
 { P := rfl, ρ := fun _ _ h => h, μ := h, stays := Stays.refl _ _, O := fun _ _ h => h, W := fun _ _ h => h, WO := wo }
section
variable {P : Program} {N : Nat} {X : Nat → Prop} {R : Job → List IV → Option (List IV)} {ρ : List IV} {K : Nat → Prop} {S : View} {μ : Nat → Value} {a : Act} {w : World} {es es' : ES} {ls : List PLt} {sx : SX}
 {tm : Nat → SV} {ob : Nat → Option Ob} {c : Cx} {Rm : Nat → Prop}
theorem Reg.put (G : Reg c K tm ob a Rm) {k : Nat} {o : Ob} {hdr : Value} {K' Rm' : Nat → Prop} (hk : K k → c.μ k = hdr) (hb : ∀ b, blk hdr = some b → Rm b ∧ c.W b ∧ ¬ Rm' b) (hRm : ∀ b, Rm' b → Rm b)
  (hK : ∀ k', K k' ∨ k' = k → K' k') (hok : ObOk (c.at (updM c.μ k hdr)) k o) (hkeys : ∀ k' ∈ keysOb o, K' k') :
  Reg (c.at (updM c.μ k hdr)) K' tm (updOb ob k (some o)) a Rm' := by
 have hμ : ∀ k', K k' → updM c.μ k hdr k' = c.μ k' := by
  intro k' hk'
  unfold updM
  split
  ·rename_i e; subst e; exact (hk hk').symm
  ·rfl
 have L : Later K c (c.at (updM c.μ k hdr)) := Cx.later G.wo hμ
 have old : ∀ k' o', updOb ob k (some o) k' = some o' → (k' = k ∧ o' = o) ∨ (k' ≠ k ∧ ob k' = some o') := by
  intro k' o' h
  unfold updOb at h
  split at h
  ·rename_i e; injection h with h; exact .inl ⟨e, h.symm⟩
  ·rename_i e; exact .inr ⟨e, h⟩
 have hne : ∀ k' o' b, k' ≠ k → ob k' = some o' → o'.isOwn = true → blk (updM c.μ k hdr k') = some b → ¬ Rm b ∧ c.W b := by
  intro k' o' b h1 h2 h3 h4
  rw [updM_ne h1] at h4
  exact G.rest k' o' b h2 h3 h4
 refine ⟨G.wo, fun s => L.srel (G.kt s) (G.slot s), fun k' o' h => ?_, fun k1 k2 o1 o2 b h1 h2 h3 h4 h5 h6 => ?_, fun k' o' b h1 h2 h3 => ?_, fun s k' h => hK k' (.inl (G.kt s k' h)), fun k' o' h => ?_⟩
 ·rcases old k' o' h with ⟨rfl, rfl⟩ | ⟨h1, h2⟩
  ·exact hok
  ·exact L.obOk (G.ko k' o' h2).1 (G.ko k' o' h2).2 (fun _ _ _ _ => rfl) (G.obj k' o' h2)
 ·have h5 : blk (updM c.μ k hdr k1) = some b := h5
  have h6 : blk (updM c.μ k hdr k2) = some b := h6
  rcases old k1 o1 h1 with ⟨rfl, rfl⟩ | ⟨q1, q2⟩
  ·rcases old k2 o2 h2 with ⟨rfl, rfl⟩ | ⟨r1, r2⟩
   ·rfl
   ·rw [updM_eq] at h5
    exact absurd (hb b h5).1 (hne k2 o2 b r1 r2 h4 h6).1
  ·rcases old k2 o2 h2 with ⟨rfl, rfl⟩ | ⟨r1, r2⟩
   ·rw [updM_eq] at h6
    exact absurd (hb b h6).1 (hne k1 o1 b q1 q2 h3 h5).1
   ·rw [updM_ne q1] at h5; rw [updM_ne r1] at h6
    exact G.sep k1 k2 o1 o2 b q2 r2 h3 h4 h5 h6
 ·have h3 : blk (updM c.μ k hdr k') = some b := h3
  rcases old k' o' h1 with ⟨rfl, rfl⟩ | ⟨q1, q2⟩
  ·rw [updM_eq] at h3
   exact ⟨(hb b h3).2.2, (hb b h3).2.1⟩
  ·have := hne k' o' b q1 q2 h2 h3
   exact ⟨fun h => this.1 (hRm b h), this.2⟩
 ·rcases old k' o' h with ⟨rfl, rfl⟩ | ⟨h1, h2⟩
  ·exact ⟨hK _ (.inr rfl), hkeys⟩
  ·exact ⟨hK _ (.inl (G.ko k' o' h2).1), fun k2 hk2 => hK _ (.inl ((G.ko k' o' h2).2 k2 hk2))⟩
theorem Reg.keys (G : Reg c K tm ob a Rm) {K' Rm' : Nat → Prop} (hK : ∀ k, K k → K' k) (hR : ∀ b, Rm' b → Rm b) : Reg c K' tm ob a Rm' :=
 ⟨G.wo, G.slot, G.obj, G.sep, fun k o b h1 h2 h3 => ⟨fun h => (G.rest k o b h1 h2 h3).1 (hR b h), (G.rest k o b h1 h2 h3).2⟩, fun s k h => hK k (G.kt s k h), fun k o h => ⟨hK k (G.ko k o h).1, fun k' h' => hK k' ((G.ko k o h).2 k' h')⟩⟩
theorem mkCells_m {P : Program} : ∀ {bs : List Bool} {ts : List TypeId} {n : Nat} {es es' : ES} {lvs : List LV} {ls : List PLt}, Ev S (mkCells P bs ts n) es lvs es' ls → es.m ≤ es'.m
 | [], [], n, es, es', lvs, ls, h => by
  unfold mkCells at h
  rw [Ev_pure] at h
  obtain ⟨_, rfl, _⟩ := h
  exact Nat.le_refl _
 | o :: bs, t :: ts, n, es, es', lvs, ls, h => by
  cases o with
  | false =>
   unfold mkCells at h
   rw [Ev_bind] at h
   obtain ⟨r, e1, l1, _, h1, h2, rfl⟩ := h
   rw [Ev_pure] at h2
   obtain ⟨_, rfl, _⟩ := h2
   exact mkCells_m h1
  | true =>
   unfold mkCells at h
   split at h
   ·simp only [Ev_bind, Ev_guards] at h
    obtain ⟨gs, _, _, _, ⟨rfl, rfl, rfl⟩, h, rfl⟩ := h
    rw [Ev_ite] at h
    rcases h with ⟨_, h⟩ | ⟨_, h⟩
    ·simp only [Ev_bind, Ev_newKey, Ev_setOb] at h
     obtain ⟨_, _, _, _, ⟨rfl, rfl, rfl⟩, ⟨_, _, _, _, ⟨rfl, rfl⟩, ⟨r, e1, l1, _, h2, h3, rfl⟩, rfl⟩, rfl⟩ := h
     rw [Ev_pure] at h3
     obtain ⟨_, rfl, _⟩ := h3
     have := mkCells_m h2
     exact Nat.le_of_succ_le this
    ·rw [Ev_bind] at h
     obtain ⟨r, e1, l1, _, h1, h2, rfl⟩ := h
     rw [Ev_pure] at h2
     obtain ⟨_, rfl, _⟩ := h2
     exact mkCells_m h1
   ·simp only [Ev_bind, Ev_bare, Ev_ofOption, Ev_newKey, Ev_setOb] at h
    obtain ⟨_, _, _, _, ⟨_, rfl, rfl⟩, ⟨kv, _, _, _, ⟨_, rfl, rfl⟩, ⟨_, _, _, _, ⟨rfl, rfl, rfl⟩, ⟨_, _, _, _, ⟨rfl, rfl⟩, ⟨r, e1, l1, _, h2, h3, rfl⟩, rfl⟩, rfl⟩, rfl⟩, rfl⟩ := h
    rw [Ev_pure] at h3
    obtain ⟨_, rfl, _⟩ := h3
    have := mkCells_m h2
    exact Nat.le_of_succ_le this
 | [], _ :: _, n, es, es', lvs, ls, h => by simp [mkCells, Ev_fail] at h
 | _ :: _, [], n, es, es', lvs, ls, h => by simp [mkCells, Ev_fail] at h
theorem mkCells_ok : ∀ {bs : List Bool} {ts : List TypeId} {xs : List IV} {vs : List Value} {L : List Nat} {n : Nat} {es es' : ES} {lvs : List LV} {ls : List PLt} {c : Cx} {K Rm : Nat → Prop}, es.gs = [] → Ev S (mkCells c.P bs ts n) es lvs es' ls →
  CellsOwn c.P c.w c.O bs ts xs vs L → (∀ t ∈ ts, isAggT c.P t = false) → L.Nodup → (∀ b ∈ L, Rm b ∧ c.W b) → Reg c K S.tm (cur S es.obs) a Rm → (∀ i, i < xs.length → c.ρ[n + i]? = xs[i]?) → (∀ k, es.m ≤ k → k < es'.m → ¬ K k) →
  ls = [] ∧ es'.n = es.n ∧ es'.gs = es.gs ∧ es.m ≤ es'.m ∧ ∃ μ', (∀ k, K k → μ' k = c.μ k) ∧ Reg (c.at μ') (withKeys K es.m es'.m) S.tm (cur S es'.obs) a (fun b => Rm b ∧ b ∉ L) ∧ CRels (c.at μ') lvs vs ∧ ∀ k ∈ lvs.flatMap keysLV, withKeys K es.m es'.m k
 | [], [], xs, vs, L, n, es, es', lvs, ls, c, K, Rm, hg, h, hc, hf, hn, hL, G, hρ, hfr => by
  unfold mkCells at h
  rw [Ev_pure] at h
  obtain ⟨rfl, rfl, rfl⟩ := h
  cases xs with
  | cons => cases vs <;> exact hc.elim
  | nil =>
   cases vs with
   | cons => exact hc.elim
   | nil => exact ⟨rfl, rfl, rfl, Nat.le_refl _, c.μ, fun _ _ => rfl, G.keys (fun k h => .inl h) (fun b h => h.1), trivial, by simp⟩
 | o :: bs, t :: ts, xs, vs, L, n, es, es', lvs, ls, c, K, Rm, hg, h, hc, hf, hn, hL, G, hρ, hfr => by
  cases xs with
  | nil => cases o <;> exact hc.elim
  | cons x xs =>
  cases vs with
  | nil => cases o <;> exact hc.elim
  | cons v vs =>
  have hf' : ∀ t ∈ ts, isAggT c.P t = false := fun t h => hf t (List.mem_cons_of_mem _ h)
  have hρ0 : c.ρ[n]? = some x := by simpa using hρ 0 (by simp)
  have hρ1 : ∀ i, i < xs.length → c.ρ[n + 1 + i]? = xs[i]? := fun i hi => by
   have := hρ (i + 1) (by simpa using hi)
   simpa [Nat.add_assoc, Nat.add_comm 1 i] using this
  cases o with
  | false =>
   obtain ⟨c1, c2⟩ := hc
   unfold mkCells at h
   rw [Ev_bind] at h
   obtain ⟨r, e1, l1, _, h1, h2, rfl⟩ := h
   rw [Ev_pure] at h2
   obtain ⟨rfl, rfl, rfl⟩ := h2
   obtain ⟨rfl, q1, q2, q3, μ', q4, q5, q6, q7⟩ := mkCells_ok hg h1 c2 hf' hn hL G hρ1 hfr
   refine ⟨rfl, q1, q2, q3, μ', q4, q5, ⟨⟨(c1.one (hf t List.mem_cons_self)).1, ⟨x, hρ0, c1⟩⟩, q6⟩, fun k hk => ?_⟩
   rw [List.flatMap_cons] at hk
   rcases List.mem_append.1 hk with hk | hk
   ·simp [keysLV] at hk
   ·exact q7 k hk
  | true =>
   obtain ⟨L', ⟨ys, rfl, hcase⟩, c2, rfl⟩ := hc
   -- what the object is, and how it is told
   obtain ⟨o, lv, e1, r, l1, rfl, hb, hok, hlr, hkl, h2, h3⟩ : ∃ (o : Ob) (lv : LV) (e1 : ES) (r : List LV) (l1 : List PLt), ls = l1 ∧ (∀ b, blk v = some b → True) ∧
     (∀ μ, μ es.m = v → ObOk (c.at μ) es.m o ∧ keysOb o = []) ∧ (∀ c' : Cx, c'.μ es.m = v → CRel c' lv v) ∧ keysLV lv = [es.m] ∧
     Ev S (mkCells c.P bs ts (n + 1)) { es with m := es.m + 1, obs := (es.m, some o) :: es.obs } r e1 l1 ∧ lvs = lv :: r ∧ e1 = es' := by
    unfold mkCells at h
    rcases hcase with ⟨e, ht, ⟨hs, cs, hrow, hel, hone⟩⟩ | ⟨kt, vt, ht, rr, cl, ents, rfl, m2, m3, m4⟩
    ·have he : elemT c.P t = some e := by simp [elemT, ht]
     simp only [he, Ev_bind, Ev_guards] at h
     obtain ⟨gs, _, _, _, ⟨rfl, rfl, rfl⟩, h, rfl⟩ := h
     rw [hg] at h
     simp only [List.isEmpty_nil, if_true, Ev_bind, Ev_newKey, Ev_setOb] at h
     obtain ⟨_, _, _, _, ⟨rfl, rfl, rfl⟩, ⟨_, _, _, _, ⟨rfl, rfl⟩, ⟨r, e1, l1, _, h2, h3, rfl⟩, rfl⟩, rfl⟩ := h
     rw [Ev_pure] at h3
     obtain ⟨rfl, rfl, rfl⟩ := h3
     obtain ⟨_, _, A, nn, cap, rfl⟩ := own_blk hrow
     refine ⟨.arr e t (.v n), .ref es.m t, e1, r, l1, by simp, fun _ _ => trivial, fun μ hμ => ⟨⟨ys, cs, hρ0, ht, hs, ?_, hel, hone⟩, rfl⟩, fun c' hc' => ⟨rfl, hc'.symm, A, nn, cap, rfl⟩, rfl, h2, rfl, rfl⟩
     show c.w.ownsRow 0 e (sizeT c.P e) (μ es.m) ys.length cs
     rw [hμ]; exact hrow
    ·have he : elemT c.P t = none := by simp [elemT, ht]
     simp only [he, Ev_bind, Ev_bare, Ev_ofOption, Ev_newKey, Ev_setOb] at h
     obtain ⟨_, _, _, _, ⟨_, rfl, rfl⟩, ⟨kv, _, _, _, ⟨hkv, rfl, rfl⟩, ⟨_, _, _, _, ⟨rfl, rfl, rfl⟩, ⟨_, _, _, _, ⟨rfl, rfl⟩, ⟨r, e1, l1, _, h2, h3, rfl⟩, rfl⟩, rfl⟩, rfl⟩, rfl⟩ := h
     rw [Ev_pure] at h3
     obtain ⟨rfl, rfl, rfl⟩ := h3
     have hkv' := mapT_eq hkv
     rw [ht] at hkv'; injection hkv' with hkv'; injection hkv' with i1 i2
     subst i1; subst i2
     exact ⟨.mp t kv.1 kv.2 (.v n), .mref es.m t, e1, r, l1, by simp, fun _ _ => trivial, fun μ hμ => ⟨⟨rr, cl, ents, ys, hμ, m2, ht, m3, hρ0, m4⟩, rfl⟩, fun c' hc' => ⟨rfl, hc'.symm, rr, rfl⟩, rfl, h2, rfl, rfl⟩
   obtain ⟨rfl, rfl⟩ := h3
   have hm1 : es.m + 1 ≤ e1.m := mkCells_m h2
   have hKk : ¬ K es.m := hfr es.m (Nat.le_refl _) (by omega)
   rw [List.nodup_append] at hn
   obtain ⟨hn1, hn2, hn3⟩ := hn
   have G1 : Reg (c.at (updM c.μ es.m v)) (withKeys K es.m (es.m + 1)) S.tm (cur S ((es.m, some o) :: es.obs)) a (fun b => Rm b ∧ b ∉ (blk v).toList) := by
    rw [cur_cons]
    refine G.put (fun h => absurd h hKk) (fun b hb => ?_) (fun b h => h.1) (fun k' h => h.elim .inl fun h => .inr (by omega)) (hok _ updM_eq).1 (fun k' h => by rw [(hok (updM c.μ es.m v) updM_eq).2] at h; cases h)
    have hbL : b ∈ (blk v).toList := by simp [hb]
    have := hL b (List.mem_append_left _ hbL)
    exact ⟨this.1, this.2, fun h => h.2 hbL⟩
   obtain ⟨rfl, q1, q2, q3, μ', q4, q5, q6, q7⟩ := mkCells_ok (c := c.at (updM c.μ es.m v)) (es := { es with m := es.m + 1, obs := (es.m, some o) :: es.obs }) hg h2 c2 hf' hn2
    (fun b hb => ⟨⟨(hL b (List.mem_append_right _ hb)).1, fun h => hn3 b h b hb rfl⟩, (hL b (List.mem_append_right _ hb)).2⟩) G1 hρ1 (fun k h1 h2 hk => by
     have h1 : es.m + 1 ≤ k := h1
     rcases hk with hk | hk
     ·exact hfr k (by omega) h2 hk
     ·omega)
   have hμk : μ' es.m = v := by
    have := q4 es.m (.inr ⟨Nat.le_refl _, Nat.lt_succ_self _⟩)
    rw [this]; show updM c.μ es.m _ es.m = _; rw [updM_eq]
   have hw : ∀ k, withKeys (withKeys K es.m (es.m + 1)) (es.m + 1) e1.m k → withKeys K es.m e1.m k := by
    rintro k ((h | h) | h)
    ·exact .inl h
    ·exact .inr (by omega)
    ·exact .inr (by omega)
   refine ⟨rfl, q1, q2, Nat.le_of_succ_le hm1, μ', fun k hk => ?_, q5.keys hw (fun b h => ⟨⟨h.1, fun h' => h.2 (List.mem_append_left _ h')⟩, fun h' => h.2 (List.mem_append_right _ h')⟩), ⟨hlr (c.at μ') hμk, q6⟩, fun k hk => ?_⟩
   ·have := q4 k (.inl hk)
    rw [this]
    show updM c.μ es.m _ k = _
    exact updM_ne fun e => hKk (e ▸ hk)
   ·rw [List.flatMap_cons] at hk
    rcases List.mem_append.1 hk with hk | hk
    ·rw [hkl, List.mem_singleton] at hk
     subst hk; exact .inr ⟨Nat.le_refl _, by omega⟩
    ·exact hw k (q7 k hk)
 | [], _ :: _, xs, vs, L, n, es, es', lvs, ls, c, K, Rm, hg, h, hc, hf, hn, hL, G, hρ, hfr => by simp [mkCells, Ev_fail] at h
 | _ :: _, [], xs, vs, L, n, es, es', lvs, ls, c, K, Rm, hg, h, hc, hf, hn, hL, G, hρ, hfr => by simp [mkCells, Ev_fail] at h
end
end Go.CT
namespace Go.CT
open EM
section
variable {P : Program} {N : Nat} {X : Nat → Prop} {R : Job → List IV → Option (List IV)} {ρ : List IV} {K : Nat → Prop} {S : View} {μ : Nat → Value} {a : Act} {w : World} {es es' : ES} {ls : List PLt} {sx : SX}
 {tm : Nat → SV} {ob : Nat → Option Ob} {c : Cx} {Rm : Nat → Prop}
theorem mkVV_ok {t : TypeId} {lvs : List LV} {vv : VV} {v : Value} (h : Ev S (mkVV c.P t lvs) es vv es' ls) (hv : if isAggT c.P t then ∃ cs, v = .agg cs else v.oneCell' = true) (hc : CRels c lvs v.cells.toList) :
  es = es' ∧ ls = [] ∧ VRel c vv v ∧ (∀ k ∈ keysVV vv, k ∈ lvs.flatMap keysLV) := by
 unfold mkVV at h
 by_cases ha : isAggT c.P t = true
 ·simp only [ha, if_true, Ev_pure] at h hv
  obtain ⟨rfl, rfl, rfl⟩ := h
  obtain ⟨cs, rfl⟩ := hv
  exact ⟨rfl, rfl, ⟨cs, rfl, hc⟩, fun k hk => hk⟩
 ·have ha' : isAggT c.P t = false := by simpa using ha
  simp only [ha', Bool.false_eq_true, if_false] at h hv
  rw [one_cells hv] at hc
  split at h
  ·rw [Ev_pure] at h
   obtain ⟨rfl, rfl, rfl⟩ := h
   exact ⟨rfl, rfl, hc.1.2, fun k hk => by simpa [keysVV] using hk⟩
  ·simp [Ev_fail] at h
theorem CellsOwn.len {O : Nat → Prop} : ∀ {bs : List Bool} {ts : List TypeId} {xs : List IV} {vs : List Value} {L : List Nat}, CellsOwn P w O bs ts xs vs L → xs.length = bs.length
 | [], [], [], [], _, _ => rfl
 | true :: bs, t :: ts, x :: xs, v :: vs, L, h => by
  obtain ⟨_, _, h, _⟩ := h
  simp [CellsOwn.len h]
 | false :: bs, t :: ts, x :: xs, v :: vs, L, h => by simp [CellsOwn.len h.2]
 | [], [], [], _ :: _, _, h => h.elim
 | [], [], _ :: _, _, _, h => h.elim
 | [], _ :: _, _, _, _, h => h.elim
 | _ :: _, [], _, _, _, h => by simp [CellsOwn] at h
 | _ :: _, _ :: _, [], _, _, h => by simp [CellsOwn] at h
 | _ :: _, _ :: _, _ :: _, [], _, h => by simp [CellsOwn] at h
theorem CellsOwn.one {O : Nat → Prop} : ∀ {bs : List Bool} {ts : List TypeId} {xs : List IV} {vs : List Value} {L : List Nat}, CellsOwn P w O bs ts xs vs L → (∀ t ∈ ts, isAggT P t = false) → ∀ v ∈ vs, v.oneCell' = true
 | [], [], [], [], _, _, _ => by simp
 | true :: bs, t :: ts, x :: xs, v :: vs, L, h, hf => by
  obtain ⟨L', ⟨ys, h1, hcase⟩, h4, h5⟩ := h
  intro u hu
  rcases List.mem_cons.1 hu with rfl | hu
  ·rcases hcase with ⟨e, h2, _, cs, h3, _⟩ | ⟨kt, vt, _, r, cl, ents, rfl, _⟩
   ·exact (own_blk h3).2.1
   ·rfl
  ·exact CellsOwn.one h4 (fun t h => hf t (List.mem_cons_of_mem _ h)) u hu
 | false :: bs, t :: ts, x :: xs, v :: vs, L, h, hf => by
  intro u hu
  rcases List.mem_cons.1 hu with rfl | hu
  ·exact (h.1.one (hf t List.mem_cons_self)).1
  ·exact CellsOwn.one h.2 (fun t h => hf t (List.mem_cons_of_mem _ h)) u hu
 | [], [], [], _ :: _, _, h, _ => h.elim
 | [], [], _ :: _, _, _, h, _ => h.elim
 | [], _ :: _, _, _, _, h, _ => h.elim
 | _ :: _, [], _, _, _, h, _ => by simp [CellsOwn] at h
 | _ :: _, _ :: _, [], _, _, h, _ => by simp [CellsOwn] at h
 | _ :: _, _ :: _, _ :: _, [], _, h, _ => by simp [CellsOwn] at h
theorem BkRel.mono {K K' : Nat → Prop} {μ μ' : Nat → Value} (hK : ∀ k, K k → K' k) (hμ : ∀ k, K k → μ' k = μ k) {p : PS} {u : Value} {l : List Bk} (h : BkRel P K μ p u l) : BkRel P K' μ' p u l := by
 cases p with
 | box t bs => obtain ⟨k, h1, h2, h3⟩ := h; exact ⟨k, h1, hK k h2, (hμ k h2).trans h3⟩
 | arr t => obtain ⟨k, e, t', h1, h2, h3, h4⟩ := h; exact ⟨k, e, t', h1, hK k h2, (hμ k h2).trans h3, h4⟩
 | data t => exact h
 | own t => exact h
 | fn f ts => exact h
 | fnb f n => exact h
 | rd t => exact h
 | bld t bk => obtain ⟨k, st, e, h1, h2, h3, h4⟩ := h; exact ⟨k, st, e, h1, h2, hK k h3, (hμ k h3).trans h4⟩
theorem BksRel.mono {K K' : Nat → Prop} {μ μ' : Nat → Value} : ∀ {ps : List PS} {us : List Value} {l : List Bk}, BksRel P K μ ps us l → (∀ k, K k → K' k) → (∀ k, K k → μ' k = μ k) → BksRel P K' μ' ps us l
 | [], [], _, h, _, _ => h
 | _ :: _, _ :: _, _, h, hK, hμ => by
  obtain ⟨l1, l2, h1, h2, h3⟩ := h
  exact ⟨l1, l2, h1, h2.mono hK hμ, h3.mono hK hμ⟩
 | [], _ :: _, _, h, _, _ => h.elim
 | _ :: _, [], _, h, _, _ => h.elim
def Took (c : Cx) (K : Nat → Prop) (S : View) (a : Act) (Rm : Nat → Prop) (L : List Nat) (es es' : ES) (ls : List PLt) (Good' : (Nat → Value) → Prop) : Prop :=
 ls = [] ∧ es'.n = es.n ∧ es'.gs = es.gs ∧ es.m ≤ es'.m ∧ ∃ μ', (∀ k, K k → μ' k = c.μ k) ∧ Reg (c.at μ') (withKeys K es.m es'.m) S.tm (cur S es'.obs) a (fun b => Rm b ∧ b ∉ L) ∧ Good' μ'
theorem withKeys_trans {K : Nat → Prop} {m1 m2 m3 : Nat} (h1 : m1 ≤ m2) (h2 : m2 ≤ m3) : ∀ k, withKeys (withKeys K m1 m2) m2 m3 k → withKeys K m1 m3 k := by
 rintro k ((h | h) | h)
 ·exact .inl h
 ·exact .inr (by omega)
 ·exact .inr (by omega)
theorem packs {xs ys : List IV} {n : Nat} (h : ∀ i, i < (xs ++ ys).length → ρ[n + i]? = (xs ++ ys)[i]?) : (∀ i, i < xs.length → ρ[n + i]? = xs[i]?) ∧ (∀ i, i < ys.length → ρ[n + xs.length + i]? = ys[i]?) := by
 refine ⟨fun i hi => ?_, fun i hi => ?_⟩
 ·have := h i (by simp; omega)
  rwa [List.getElem?_append_left hi] at this
 ·have := h (xs.length + i) (by simp; omega)
  rw [List.getElem?_append_right (by omega), Nat.add_sub_cancel_left] at this
  rwa [Nat.add_assoc]
theorem BoxOwn.take {t : TypeId} {bs : List Bool} {xs : List IV} {v : Value} {L : List Nat} {n : Nat} {ts : List TypeId} {lvs : List LV} {vv : VV} {e1 : ES} {l1 l2 : List PLt} (hg : es.gs = []) (hts : leaves c.P t = some ts) (h1 : Ev S (mkCells c.P bs ts n) es lvs e1 l1) (h2 : Ev S (mkVV c.P t lvs) e1 vv es' l2)
  (hb : BoxOwn c.P c.w c.O t bs xs v L) (hn : L.Nodup) (hL : ∀ b ∈ L, Rm b ∧ c.W b) (G : Reg c K S.tm (cur S es.obs) a Rm) (hρ : ∀ i, i < xs.length → c.ρ[n + i]? = xs[i]?) (hfr : ∀ k, es.m ≤ k → k < e1.m → ¬ K k) :
  e1 = es' ∧ l2 = [] ∧ Took c K S a Rm L es es' l1 fun μ' => VRel (c.at μ') vv v ∧ ∀ k ∈ keysVV vv, withKeys K es.m es'.m k := by
 obtain ⟨ts', b1, b2, b3, b4⟩ := hb
 rw [hts] at b1; injection b1 with b1; subst b1
 obtain ⟨rfl, q1, q2, q3, μ', q4, q5, q6, q7⟩ := mkCells_ok hg h1 b4 (fun u hu => by
  obtain ⟨i, hi⟩ := List.mem_iff_getElem?.1 hu
  exact leaves_flat hts i u hi) hn hL G hρ hfr
 obtain ⟨rfl, rfl, r1, r2⟩ := mkVV_ok (c := c.at μ') h2 b3 q6
 exact ⟨rfl, rfl, rfl, q1, q2, q3, μ', q4, q5, r1, fun k hk => q7 k (r2 k hk)⟩
theorem mkVV_es {t : TypeId} {lvs : List LV} {vv : VV} (h : Ev S (mkVV P t lvs) es vv es' ls) : es = es' := by
 unfold mkVV at h
 rw [Ev_ite] at h
 rcases h with ⟨_, h⟩ | ⟨_, h⟩
 ·rw [Ev_pure] at h; exact h.2.1
 ·split at h
  ·rw [Ev_pure] at h; exact h.2.1
  ·simp [Ev_fail] at h
theorem mkBoxes_m : ∀ {bs : List (TypeId × List Bool)} {n : Nat} {es es' : ES} {r : List PV × Nat} {ls : List PLt}, Ev S (mkBoxes P bs n) es r es' ls → es.m ≤ es'.m
 | [], n, es, es', r, ls, h => by
  unfold mkBoxes at h
  rw [Ev_pure] at h
  obtain ⟨_, rfl, _⟩ := h
  exact Nat.le_refl _
 | b :: bs, n, es, es', r, ls, h => by
  unfold mkBoxes at h
  simp only [Ev_bind, Ev_ofOption, Ev_newKey, Ev_setOb] at h
  obtain ⟨ts, _, _, _, ⟨h1, rfl, rfl⟩, ⟨lvs, e1, l1, _, h2, ⟨vv, e2, l2, _, h3, ⟨_, _, _, _, ⟨rfl, rfl, rfl⟩, ⟨_, _, _, _, ⟨rfl, rfl⟩, ⟨q, e4, l4, _, h4, h5, rfl⟩, rfl⟩, rfl⟩, rfl⟩, rfl⟩, rfl⟩ := h
  rw [Ev_pure] at h5
  obtain ⟨_, rfl, _⟩ := h5
  have a1 := mkCells_m h2
  have a2 := mkVV_es h3
  subst a2
  have a3 := mkBoxes_m h4
  exact Nat.le_trans a1 (Nat.le_of_succ_le a3)
theorem mkRes_m : ∀ {rs : List RS} {n : Nat} {es es' : ES} {r : List VV × Nat} {ls : List PLt}, Ev S (mkRes P rs n) es r es' ls → es.m ≤ es'.m
 | [], n, es, es', r, ls, h => by
  unfold mkRes at h
  rw [Ev_pure] at h
  obtain ⟨_, rfl, _⟩ := h
  exact Nat.le_refl _
 | .whole t :: rs, n, es, es', r, ls, h => by
  unfold mkRes at h
  rw [Ev_bind] at h
  obtain ⟨r, e1, l1, _, h1, h2, rfl⟩ := h
  rw [Ev_pure] at h2
  obtain ⟨_, rfl, _⟩ := h2
  exact mkRes_m h1
 | .clip t :: rs, n, es, es', r, ls, h => by
  unfold mkRes at h
  rw [Ev_bind] at h
  obtain ⟨r, e1, l1, _, h1, h2, rfl⟩ := h
  rw [Ev_pure] at h2
  obtain ⟨_, rfl, _⟩ := h2
  exact mkRes_m h1
 | .strict t :: rs, n, es, es', r, ls, h => by
  unfold mkRes at h
  rw [Ev_bind] at h
  obtain ⟨r, e1, l1, _, h1, h2, rfl⟩ := h
  rw [Ev_pure] at h2
  obtain ⟨_, rfl, _⟩ := h2
  exact mkRes_m h1
 | .skip :: rs, n, es, es', r, ls, h => by
  unfold mkRes at h
  rw [Ev_bind] at h
  obtain ⟨r, e1, l1, _, h1, h2, rfl⟩ := h
  rw [Ev_pure] at h2
  obtain ⟨_, rfl, _⟩ := h2
  exact mkRes_m h1
 | .nbox t bs :: rs, n, es, es', r, ls, h => by
  unfold mkRes at h
  simp only [Ev_bind, Ev_bare] at h
  obtain ⟨_, _, _, _, ⟨_, rfl, rfl⟩, ⟨b, e1, l1, _, h1, ⟨q, e2, l2, _, h2, h3, rfl⟩, rfl⟩, rfl⟩ := h
  rw [Ev_pure] at h3
  obtain ⟨_, rfl, _⟩ := h3
  exact Nat.le_trans (mkBoxes_m h1) (mkRes_m h2)
 | .clo f bs :: rs, n, es, es', r, ls, h => by
  unfold mkRes at h
  simp only [Ev_bind, Ev_bare] at h
  obtain ⟨_, _, _, _, ⟨_, rfl, rfl⟩, ⟨b, e1, l1, _, h1, ⟨q, e2, l2, _, h2, h3, rfl⟩, rfl⟩, rfl⟩ := h
  rw [Ev_pure] at h3
  obtain ⟨_, rfl, _⟩ := h3
  exact Nat.le_trans (mkBoxes_m h1) (mkRes_m h2)
 | .cells t bs :: rs, n, es, es', r, ls, h => by
  unfold mkRes at h
  simp only [Ev_bind, Ev_ofOption] at h
  obtain ⟨ts, _, _, _, ⟨h1, rfl, rfl⟩, ⟨lvs, e1, l1, _, h2, ⟨vv, e2, l2, _, h3, ⟨q, e3, l3, _, h4, h5, rfl⟩, rfl⟩, rfl⟩, rfl⟩ := h
  rw [Ev_pure] at h5
  obtain ⟨_, rfl, _⟩ := h5
  have a1 := mkCells_m h2
  have a2 := mkRes_m h4
  have a3 : e1.m = e2.m := by
   unfold mkVV at h3
   rw [Ev_ite] at h3
   rcases h3 with ⟨_, h3⟩ | ⟨_, h3⟩
   ·rw [Ev_pure] at h3; obtain ⟨_, rfl, _⟩ := h3; rfl
   ·split at h3
    ·rw [Ev_pure] at h3; obtain ⟨_, rfl, _⟩ := h3; rfl
    ·simp [Ev_fail] at h3
  omega
theorem VRels.append {c : Cx} : ∀ {xs ys : List VV} {us vs : List Value}, VRels c xs us → VRels c ys vs → VRels c (xs ++ ys) (us ++ vs)
 | [], _, [], _, _, h => h
 | _ :: _, _, _ :: _, _, h, h' => ⟨h.1, VRels.append h.2 h'⟩
 | [], _, _ :: _, _, h, _ => h.elim
 | _ :: _, _, [], _, h, _ => h.elim
theorem PRels.vrels {c : Cx} : ∀ {ps : List PV} {vs : List Value}, PRels c ps vs → VRels c (ps.map capVV) vs
 | [], [], _ => trivial
 | _ :: _, _ :: _, h => ⟨h.1, PRels.vrels h.2⟩
 | [], _ :: _, h => h.elim
 | _ :: _, [], h => h.elim
theorem keys_caps (ps : List PV) : (ps.map capVV).flatMap keysVV = ps.flatMap keysPV := by
 induction ps with
 | nil => rfl
 | cons p ps ih => simp [capVV, keysVV, keysLV] at ih ⊢; exact ih
theorem BoxOwn.ones {O : Nat → Prop} {t : TypeId} {bs : List Bool} {xs : List IV} {v : Value} {L : List Nat} (h : BoxOwn P w O t bs xs v L) : ∀ u ∈ v.cells, u.oneCell' = true := by
 obtain ⟨ts', c1, c2, c3, c4⟩ := h
 have := c4.one (fun u hu => by
  obtain ⟨i, hi⟩ := List.mem_iff_getElem?.1 hu
  exact leaves_flat c1 i u hi)
 exact fun z hz => this z (by simpa using hz)
theorem mkBoxes_ok : ∀ {bs : List (TypeId × List Bool)} {xs : List IV} {vs : List Value} {L : List Nat} {n : Nat} {es es' : ES} {r : List PV × Nat} {ls : List PLt} {c : Cx} {K Rm : Nat → Prop}, es.gs = [] → Ev S (mkBoxes c.P bs n) es r es' ls →
  BoxesAt c.P c.w c.O bs xs vs L → L.Nodup → (∀ b ∈ L, Rm b ∧ c.W b) → Reg c K S.tm (cur S es.obs) a Rm → (∀ i, i < xs.length → c.ρ[n + i]? = xs[i]?) → (∀ k, es.m ≤ k → k < es'.m → ¬ K k) →
  Took c K S a Rm L es es' ls fun μ' => PRels (c.at μ') r.1 vs ∧ (∀ k ∈ r.1.flatMap keysPV, withKeys K es.m es'.m k) ∧ r.2 = n + xs.length
 | [], xs, vs, L, n, es, es', r, ls, c, K, Rm, hg, h, hr, hn, hL, G, hρ, hfr => by
  unfold mkBoxes at h
  rw [Ev_pure] at h
  obtain ⟨rfl, rfl, rfl⟩ := h
  cases vs with
  | cons => exact hr.elim
  | nil =>
   obtain ⟨rfl, rfl⟩ := hr
   exact ⟨rfl, rfl, rfl, Nat.le_refl _, c.μ, fun _ _ => rfl, G.keys (fun k h => .inl h) (fun b h => h.1), trivial, by simp, rfl⟩
 | tb :: bs, xs, vs, L, n, es, es', r, ls, c, K, Rm, hg, h, hr, hn, hL, G, hρ, hfr => by
  cases vs with
  | nil => exact hr.elim
  | cons v vs =>
   obtain ⟨ys, zs, L1, L2, rfl, rfl, ⟨b, uv, L', rfl, r1, r2, rfl⟩, r6⟩ := hr
   unfold mkBoxes at h
   simp only [Ev_bind, Ev_ofOption, Ev_newKey, Ev_setOb] at h
   obtain ⟨ts, _, _, _, ⟨h1, rfl, rfl⟩, ⟨lvs, e1, l1, _, h2, ⟨vv, e2, l2, _, h3, ⟨_, _, _, _, ⟨rfl, rfl, rfl⟩, ⟨_, _, _, _, ⟨rfl, rfl⟩, ⟨q, e4, l4, _, h4, h5, rfl⟩, rfl⟩, rfl⟩, rfl⟩, rfl⟩, rfl⟩ := h
   rw [Ev_pure] at h5
   obtain ⟨rfl, rfl, rfl⟩ := h5
   obtain ⟨p1, p2⟩ := packs hρ
   rw [List.nodup_append] at hn
   obtain ⟨hn1, hn2, hn3⟩ := hn
   rw [List.nodup_cons] at hn1
   have hm4 : e2.m + 1 ≤ e4.m := mkBoxes_m h4
   have e12 := mkVV_es h3
   subst e12
   obtain ⟨_, rfl, rfl, a1, a2, a3, μ1, a4, a5, a6, a7⟩ := r2.take hg h1 h2 h3 hn1.2 (fun b' hb => hL b' (by simp [hb])) G p1 (fun k' k1 k2 => hfr k' k1 (by omega))
   have hlen : ys.length = tb.2.length := by
    obtain ⟨_, _, _, _, hcc⟩ := r2
    exact hcc.len
   have hone := r2.ones
   have hK3 : ¬ withKeys K es.m e1.m e1.m := fun h => h.elim (hfr e1.m a3 (by omega)) fun h => by omega
   have hμ : ∀ k, withKeys K es.m e1.m k → updM μ1 e1.m (.pointer (some ⟨b, 0, none⟩)) k = μ1 k := fun k hk => updM_ne fun e => hK3 (e ▸ hk)
   have hkk : ∀ k', withKeys K es.m e1.m k' ∨ k' = e1.m → withKeys K es.m (e1.m + 1) k' := by
    rintro k' ((h | h) | rfl)
    ·exact .inl h
    ·exact .inr (by omega)
    ·exact .inr (by omega)
   have G1 : Reg ((c.at μ1).at (updM μ1 e1.m (.pointer (some ⟨b, 0, none⟩)))) (withKeys K es.m (e1.m + 1)) S.tm (cur S ((e1.m, some (.box tb.1 vv)) :: e1.obs)) a (fun b' => (Rm b' ∧ b' ∉ L') ∧ b' ≠ b) := by
    rw [cur_cons]
    refine a5.put (fun h => absurd h hK3) (fun b' hb => ?_) (fun b' h => h.1) hkk ?_ (fun k' h => .inl (a7 k' h) |> hkk k')
    ·simp [blk] at hb
     subst hb
     have := hL b (by simp)
     exact ⟨⟨this.1, hn1.1⟩, this.2, fun h => h.2 rfl⟩
    ·obtain ⟨ts', c1, c2, c3, c4⟩ := r2
     have Lt2 := Cx.later (c := c.at μ1) (μ := updM μ1 e1.m (.pointer (some ⟨b, 0, none⟩))) a5.wo hμ
     exact ⟨b, uv, updM_eq, r1, c2, c3, hone, Lt2.vrel a7 a6⟩
   obtain ⟨rfl, q1, q2, q3, μ', q4, q5, q6, q7, q8⟩ := mkBoxes_ok (c := (c.at μ1).at (updM μ1 e1.m (.pointer (some ⟨b, 0, none⟩)))) (es := { e1 with m := e1.m + 1, obs := (e1.m, some (.box tb.1 vv)) :: e1.obs }) (a2.trans hg) h4 r6 hn2
    (fun b' hb => ⟨⟨⟨(hL b' (List.mem_append_right _ hb)).1, fun h => hn3 b' (List.mem_cons_of_mem _ h) b' hb rfl⟩, fun h => hn3 b (List.mem_cons_self) b' hb h.symm⟩, (hL b' (List.mem_append_right _ hb)).2⟩) G1 (by rw [← hlen]; exact p2) (fun k' k1 k2 hk => by
     have k1 : e1.m + 1 ≤ k' := k1
     rcases hk with hk | hk
     ·exact hfr k' (by omega) k2 hk
     ·omega)
   have hw : ∀ k, withKeys (withKeys K es.m (e1.m + 1)) (e1.m + 1) e4.m k → withKeys K es.m e4.m k := withKeys_trans (Nat.le_succ_of_le a3) hm4
   have hμk : μ' e1.m = .pointer (some ⟨b, 0, none⟩) := (q4 e1.m (.inr ⟨a3, Nat.lt_succ_self _⟩)).trans updM_eq
   refine ⟨rfl, q1.trans a1, q2.trans a2, by omega, μ', fun k hk => ?_, q5.keys hw (fun b' h => ?_), ⟨⟨b, hμk, by rw [addr_add_zero]⟩, q6⟩, fun k hk => ?_, by rw [q8, ← hlen]; simp; omega⟩
   ·exact (q4 k (.inl hk)).trans ((hμ k (.inl hk)).trans (a4 k hk))
   ·have h2 := h.2
    simp only [List.cons_append, List.mem_cons, List.mem_append, not_or] at h2
    exact ⟨⟨⟨h.1, h2.2.1⟩, h2.1⟩, h2.2.2⟩
   ·rw [List.flatMap_cons] at hk
    rcases List.mem_append.1 hk with hk | hk
    ·simp only [keysPV, List.mem_singleton] at hk
     subst hk
     exact .inr ⟨a3, by omega⟩
    ·exact hw k (q7 k hk)
theorem mkRes_ok : ∀ {rs : List RS} {xs : List IV} {vs : List Value} {L : List Nat} {n : Nat} {es es' : ES} {r : List VV × Nat} {ls : List PLt} {c : Cx} {K Rm : Nat → Prop}, es.gs = [] → Ev S (mkRes c.P rs n) es r es' ls →
  RessRel c.P c.w c.O rs xs vs L → L.Nodup → (∀ b ∈ L, Rm b ∧ c.W b) → Reg c K S.tm (cur S es.obs) a Rm → (∀ i, i < xs.length → c.ρ[n + i]? = xs[i]?) → (∀ k, es.m ≤ k → k < es'.m → ¬ K k) →
  Took c K S a Rm L es es' ls fun μ' => VRels (c.at μ') r.1 vs ∧ (∀ k ∈ r.1.flatMap keysVV, withKeys K es.m es'.m k) ∧ r.2 = n + xs.length
 | [], xs, vs, L, n, es, es', r, ls, c, K, Rm, hg, h, hr, hn, hL, G, hρ, hfr => by
  unfold mkRes at h
  rw [Ev_pure] at h
  obtain ⟨rfl, rfl, rfl⟩ := h
  cases vs with
  | cons => exact hr.elim
  | nil =>
   obtain ⟨rfl, rfl⟩ := hr
   exact ⟨rfl, rfl, rfl, Nat.le_refl _, c.μ, fun _ _ => rfl, G.keys (fun k h => .inl h) (fun b h => h.1), trivial, by simp, rfl⟩
 | .whole t :: rs, xs, vs, L, n, es, es', r, ls, c, K, Rm, hg, h, hr, hn, hL, G, hρ, hfr => by
  cases vs with
  | nil => exact hr.elim
  | cons v vs =>
   obtain ⟨ys, zs, L1, L2, rfl, rfl, ⟨x, rfl, rfl, r1⟩, r2⟩ := hr
   unfold mkRes at h
   rw [Ev_bind] at h
   obtain ⟨q, e1, l1, _, h1, h2, rfl⟩ := h
   rw [Ev_pure] at h2
   obtain ⟨rfl, rfl, rfl⟩ := h2
   obtain ⟨p1, p2⟩ := packs hρ
   obtain ⟨rfl, q1, q2, q3, μ', q4, q5, q6, q7, q8⟩ := mkRes_ok hg h1 r2 hn hL G (by simpa using p2) hfr
   have hx : c.ρ[n]? = some x := by simpa using p1 0 (by simp)
   refine ⟨rfl, q1, q2, q3, μ', q4, q5, ⟨⟨x, hx, r1⟩, q6⟩, fun k hk => ?_, by rw [q8]; simp; omega⟩
   rw [List.flatMap_cons] at hk
   rcases List.mem_append.1 hk with hk | hk
   ·simp [keysVV, keysLV] at hk
   ·exact q7 k hk
 | .clip t :: rs, xs, vs, L, n, es, es', r, ls, c, K, Rm, hg, h, hr, hn, hL, G, hρ, hfr => by
  cases vs with
  | nil => exact hr.elim
  | cons v vs =>
   obtain ⟨ys, zs, L1, L2, rfl, rfl, ⟨x, rfl, rfl, r1, r3⟩, r2⟩ := hr
   unfold mkRes at h
   rw [Ev_bind] at h
   obtain ⟨q, e1, l1, _, h1, h2, rfl⟩ := h
   rw [Ev_pure] at h2
   obtain ⟨rfl, rfl, rfl⟩ := h2
   obtain ⟨p1, p2⟩ := packs hρ
   obtain ⟨rfl, q1, q2, q3, μ', q4, q5, q6, q7, q8⟩ := mkRes_ok hg h1 r2 hn hL G (by simpa using p2) hfr
   have hx : c.ρ[n]? = some x := by simpa using p1 0 (by simp)
   refine ⟨rfl, q1, q2, q3, μ', q4, q5, ⟨⟨⟨x, hx, r1⟩, r3⟩, q6⟩, fun k hk => ?_, by rw [q8]; simp; omega⟩
   rw [List.flatMap_cons] at hk
   rcases List.mem_append.1 hk with hk | hk
   ·simp [keysVV, keysLV] at hk
   ·exact q7 k hk
 | .strict t :: rs, xs, vs, L, n, es, es', r, ls, c, K, Rm, hg, h, hr, hn, hL, G, hρ, hfr => by
  cases vs with
  | nil => exact hr.elim
  | cons v vs =>
   obtain ⟨ys, zs, L1, L2, rfl, rfl, ⟨x, rfl, rfl, r1, ys3, A3, cap3, rfl, r3⟩, r2⟩ := hr
   unfold mkRes at h
   rw [Ev_bind] at h
   obtain ⟨q, e1, l1, _, h1, h2, rfl⟩ := h
   rw [Ev_pure] at h2
   obtain ⟨rfl, rfl, rfl⟩ := h2
   obtain ⟨p1, p2⟩ := packs hρ
   obtain ⟨rfl, q1, q2, q3, μ', q4, q5, q6, q7, q8⟩ := mkRes_ok hg h1 r2 hn hL G (by simpa using p2) hfr
   have hx : c.ρ[n]? = some (.list ys3) := by simpa using p1 0 (by simp)
   refine ⟨rfl, q1, q2, q3, μ', q4, q5, ⟨⟨⟨_, hx, r1⟩, ys3, A3, cap3, hx, r3⟩, q6⟩, fun k hk => ?_, by rw [q8]; simp; omega⟩
   rw [List.flatMap_cons] at hk
   rcases List.mem_append.1 hk with hk | hk
   ·simp [keysVV, keysLV] at hk
   ·exact q7 k hk
 | .skip :: rs, xs, vs, L, n, es, es', r, ls, c, K, Rm, hg, h, hr, hn, hL, G, hρ, hfr => by
  cases vs with
  | nil => exact hr.elim
  | cons v vs =>
   obtain ⟨ys, zs, L1, L2, rfl, rfl, ⟨rfl, rfl⟩, r2⟩ := hr
   unfold mkRes at h
   rw [Ev_bind] at h
   obtain ⟨q, e1, l1, _, h1, h2, rfl⟩ := h
   rw [Ev_pure] at h2
   obtain ⟨rfl, rfl, rfl⟩ := h2
   obtain ⟨rfl, q1, q2, q3, μ', q4, q5, q6, q7, q8⟩ := mkRes_ok hg h1 r2 hn hL G (by simpa using hρ) hfr
   refine ⟨rfl, q1, q2, q3, μ', q4, q5, ⟨trivial, q6⟩, fun k hk => ?_, by rw [q8]; simp⟩
   rw [List.flatMap_cons] at hk
   rcases List.mem_append.1 hk with hk | hk
   ·simp [keysVV, keysLV] at hk
   ·exact q7 k hk
 | .nbox t bs :: rs, xs, vs, L, n, es, es', r, ls, c, K, Rm, hg, h, hr, hn, hL, G, hρ, hfr => by
  cases vs with
  | nil => exact hr.elim
  | cons v vs =>
   obtain ⟨ys, zs, L1, L2, rfl, rfl, r1, r2⟩ := hr
   unfold mkRes at h
   simp only [Ev_bind, Ev_bare] at h
   obtain ⟨_, _, _, _, ⟨_, rfl, rfl⟩, ⟨b, e1, l1, _, h1, ⟨q, e2, l2, _, h2, h3, rfl⟩, rfl⟩, rfl⟩ := h
   rw [Ev_pure] at h3
   obtain ⟨rfl, rfl, rfl⟩ := h3
   obtain ⟨p1, p2⟩ := packs hρ
   rw [List.nodup_append] at hn
   obtain ⟨hn1, hn2, hn3⟩ := hn
   have hm := mkRes_m h2
   obtain ⟨rfl, a1, a2, a3, μ1, a4, a5, a6, a7, a8⟩ := mkBoxes_ok hg h1 r1 hn1 (fun b hb => hL b (List.mem_append_left _ hb)) G p1 (fun k k1 k2 => hfr k k1 (by omega))
   rw [a8] at h2
   obtain ⟨rfl, q1, q2, q3, μ', q4, q5, q6, q7, q8⟩ := mkRes_ok (c := c.at μ1) (a2.trans hg) h2 r2 hn2 (fun b hb => ⟨⟨(hL b (List.mem_append_right _ hb)).1, fun h => hn3 b h b hb rfl⟩, (hL b (List.mem_append_right _ hb)).2⟩) a5
    p2 (fun k k1 k2 hk => by
     rcases hk with hk | hk
     ·exact hfr k (by omega) k2 hk
     ·omega)
   have hw := withKeys_trans (K := K) a3 q3
   have Lt := Cx.later (c := c.at μ1) (μ := μ') a5.wo q4
   refine ⟨rfl, q1.trans a1, q2.trans a2, Nat.le_trans a3 q3, μ', fun k hk => (q4 k (.inl hk)).trans (a4 k hk), q5.keys hw (fun b h => ⟨⟨h.1, fun h' => h.2 (List.mem_append_left _ h')⟩, fun h' => h.2 (List.mem_append_right _ h')⟩), VRels.append (us := [v]) (Lt.prels a7 a6).vrels q6, fun k hk => ?_, by rw [q8]; simp; omega⟩
   rw [List.flatMap_append] at hk
   rcases List.mem_append.1 hk with hk | hk
   ·exact hw k (.inl (a7 k (by rw [← keys_caps]; exact hk)))
   ·exact hw k (q7 k hk)
 | .clo f bs :: rs, xs, vs, L, n, es, es', r, ls, c, K, Rm, hg, h, hr, hn, hL, G, hρ, hfr => by
  cases vs with
  | nil => exact hr.elim
  | cons v vs =>
   obtain ⟨ys, zs, L1, L2, rfl, rfl, ⟨caps, rfl, r1⟩, r2⟩ := hr
   unfold mkRes at h
   simp only [Ev_bind, Ev_bare] at h
   obtain ⟨_, _, _, _, ⟨_, rfl, rfl⟩, ⟨b, e1, l1, _, h1, ⟨q, e2, l2, _, h2, h3, rfl⟩, rfl⟩, rfl⟩ := h
   rw [Ev_pure] at h3
   obtain ⟨rfl, rfl, rfl⟩ := h3
   obtain ⟨p1, p2⟩ := packs hρ
   rw [List.nodup_append] at hn
   obtain ⟨hn1, hn2, hn3⟩ := hn
   have hm := mkRes_m h2
   obtain ⟨rfl, a1, a2, a3, μ1, a4, a5, a6, a7, a8⟩ := mkBoxes_ok hg h1 r1 hn1 (fun b hb => hL b (List.mem_append_left _ hb)) G p1 (fun k k1 k2 => hfr k k1 (by omega))
   rw [a8] at h2
   obtain ⟨rfl, q1, q2, q3, μ', q4, q5, q6, q7, q8⟩ := mkRes_ok (c := c.at μ1) (a2.trans hg) h2 r2 hn2 (fun b hb => ⟨⟨(hL b (List.mem_append_right _ hb)).1, fun h => hn3 b h b hb rfl⟩, (hL b (List.mem_append_right _ hb)).2⟩) a5
    p2 (fun k k1 k2 hk => by
     rcases hk with hk | hk
     ·exact hfr k (by omega) k2 hk
     ·omega)
   have hw := withKeys_trans (K := K) a3 q3
   have Lt := Cx.later (c := c.at μ1) (μ := μ') a5.wo q4
   refine ⟨rfl, q1.trans a1, q2.trans a2, Nat.le_trans a3 q3, μ', fun k hk => (q4 k (.inl hk)).trans (a4 k hk), q5.keys hw (fun b h => ⟨⟨h.1, fun h' => h.2 (List.mem_append_left _ h')⟩, fun h' => h.2 (List.mem_append_right _ h')⟩), ⟨⟨caps, rfl, Lt.prels a7 a6⟩, q6⟩, fun k hk => ?_, by rw [q8]; simp; omega⟩
   rw [List.flatMap_cons] at hk
   rcases List.mem_append.1 hk with hk | hk
   ·exact hw k (.inl (a7 k hk))
   ·exact hw k (q7 k hk)
 | .cells t bs :: rs, xs, vs, L, n, es, es', r, ls, c, K, Rm, hg, h, hr, hn, hL, G, hρ, hfr => by
  cases vs with
  | nil => exact hr.elim
  | cons v vs =>
   obtain ⟨ys, zs, L1, L2, rfl, rfl, r1, r2⟩ := hr
   unfold mkRes at h
   simp only [Ev_bind, Ev_ofOption] at h
   obtain ⟨ts, _, _, _, ⟨h1, rfl, rfl⟩, ⟨lvs, e1, l1, _, h2, ⟨vv, e2, l2, _, h3, ⟨q, e3, l3, _, h4, h5, rfl⟩, rfl⟩, rfl⟩, rfl⟩ := h
   rw [Ev_pure] at h5
   obtain ⟨rfl, rfl, rfl⟩ := h5
   obtain ⟨p1, p2⟩ := packs hρ
   rw [List.nodup_append] at hn
   obtain ⟨hn1, hn2, hn3⟩ := hn
   have hm : e1.m ≤ e3.m := by
    have e12 := mkVV_es h3
    rw [e12]; exact mkRes_m h4
   obtain ⟨rfl, rfl, rfl, a1, a2, a3, μ1, a4, a5, a6, a7⟩ := r1.take hg h1 h2 h3 hn1 (fun b hb => hL b (List.mem_append_left _ hb)) G p1 (fun k k1 k2 => hfr k k1 (by omega))
   have hlen : ys.length = bs.length := by
    obtain ⟨_, _, _, _, hcc⟩ := r1
    exact hcc.len
   obtain ⟨rfl, q1, q2, q3, μ', q4, q5, q6, q7, q8⟩ := mkRes_ok (c := c.at μ1) (a2.trans hg) h4 r2 hn2 (fun b hb => ⟨⟨(hL b (List.mem_append_right _ hb)).1, fun h => hn3 b h b hb rfl⟩, (hL b (List.mem_append_right _ hb)).2⟩) a5
    (by rw [← hlen]; exact p2) (fun k k1 k2 hk => by
     rcases hk with hk | hk
     ·exact hfr k (by omega) k2 hk
     ·omega)
   have hw := withKeys_trans (K := K) a3 q3
   have Lt := Cx.later (c := c.at μ1) (μ := μ') a5.wo q4
   refine ⟨rfl, q1.trans a1, q2.trans a2, Nat.le_trans a3 q3, μ', fun k hk => (q4 k (.inl hk)).trans (a4 k hk), q5.keys hw (fun b h => ⟨⟨h.1, fun h' => h.2 (List.mem_append_left _ h')⟩, fun h' => h.2 (List.mem_append_right _ h')⟩), ⟨Lt.vrel a7 a6, q6⟩, fun k hk => ?_, by rw [q8, ← hlen]; simp; omega⟩
   rw [List.flatMap_cons] at hk
   rcases List.mem_append.1 hk with hk | hk
   ·exact hw k (.inl (a7 k hk))
   ·exact hw k (q7 k hk)
theorem bldT_ok {t st e : TypeId} (h : bldT P t = some (st, e)) : intK P e = some .u8 ∧ P.underlying st = some (.slice e) ∧ isAggT P t = true ∧ sizeT P t = 2 ∧ sizeT P e = 1 := by
 unfold bldT at h
 split at h
 ·rename_i pt st' hl
  split at h
  ·rename_i t' e' h1 h2
   rw [Option.ite_none_right_eq_some] at h
   obtain ⟨hc, h⟩ := h
   injection h with h; injection h with i1 i2; subst i1; subst i2
   simp only [Bool.and_eq_true, beq_iff_eq] at hc
   exact ⟨hc.1.1.1.2, elemT_eq h2, hc.1.2, hc.2, hc.1.1.2⟩
  ·cases h
 ·cases h
theorem backBoxes_m : ∀ {bks : List Bk} {n : Nat} {es es' : ES} {u : Unit} {ls : List PLt}, Ev S (backBoxes P bks n) es u es' ls → es.m ≤ es'.m
 | [], n, es, es', u, ls, h => by
  unfold backBoxes at h
  rw [Ev_pure] at h
  obtain ⟨_, rfl, _⟩ := h
  exact Nat.le_refl _
 | .box k t bs :: bks, n, es, es', u, ls, h => by
  unfold backBoxes at h
  simp only [Ev_bind, Ev_ofOption, Ev_setOb] at h
  obtain ⟨ts, _, _, _, ⟨h1, rfl, rfl⟩, ⟨lvs, e1, l1, _, h2, ⟨vv, e2, l2, _, h3, ⟨_, e3, l3, _, ⟨rfl, rfl⟩, h4, rfl⟩, rfl⟩, rfl⟩, rfl⟩ := h
  have a1 := mkCells_m h2
  have a2 := backBoxes_m h4
  have a3 := mkVV_es h3
  subst a3
  exact Nat.le_trans a1 a2
 | .arr k e t :: bks, n, es, es', u, ls, h => by
  unfold backBoxes at h
  simp only [Ev_bind, Ev_setOb] at h
  obtain ⟨_, _, _, _, ⟨rfl, rfl⟩, h2, rfl⟩ := h
  have a2 := backBoxes_m h2
  exact a2
 | .bld k t e st :: bks, n, es, es', u, ls, h => by
  unfold backBoxes at h
  simp only [Ev_bind, Ev_setOb, Ev_newKey] at h
  obtain ⟨_, _, _, _, ⟨rfl, rfl, rfl⟩, ⟨_, _, _, _, ⟨rfl, rfl⟩, ⟨_, _, _, _, ⟨rfl, rfl⟩, h2, rfl⟩, rfl⟩, rfl⟩ := h
  have a2 := backBoxes_m h2
  exact Nat.le_trans (Nat.le_succ _) a2
theorem backBoxes_ok : ∀ {ps : List PS} {bks : List Bk} {xs : List IV} {vs : List Value} {L : List Nat} {n : Nat} {es es' : ES} {u : Unit} {ls : List PLt} {c : Cx} {K Rm : Nat → Prop}, es.gs = [] → Ev S (backBoxes c.P bks n) es u es' ls →
  BackRel c.P c.w c.O ps xs vs L → BksRel c.P K c.μ ps vs bks → L.Nodup → (∀ b ∈ L, Rm b ∧ c.W b) → Reg c K S.tm (cur S es.obs) a Rm → (∀ i, i < xs.length → c.ρ[n + i]? = xs[i]?) → (∀ k, es.m ≤ k → k < es'.m → ¬ K k) →
  Took c K S a Rm L es es' ls fun _ => True
 | [], bks, xs, vs, L, n, es, es', u, ls, c, K, Rm, hg, h, hr, hk, hn, hL, G, hρ, hfr => by
  cases vs with
  | cons => exact hr.elim
  | nil =>
   obtain ⟨rfl, rfl⟩ := hr
   have hk : bks = [] := hk
   subst hk
   unfold backBoxes at h
   rw [Ev_pure] at h
   obtain ⟨rfl, rfl, rfl⟩ := h
   exact ⟨rfl, rfl, rfl, Nat.le_refl _, c.μ, fun _ _ => rfl, G.keys (fun k h => .inl h) (fun b h => h.1), trivial⟩
 | p :: ps, bks, xs, vs, L, n, es, es', u, ls, c, K, Rm, hg, h, hr, hk, hn, hL, G, hρ, hfr => by
  cases vs with
  | nil => exact hr.elim
  | cons v vs =>
   obtain ⟨k1, k2, rfl, hk1, hk2⟩ := hk
   unfold BackRel at hr
   have skip : p.isBack = false → k1 = [] → Took c K S a Rm L es es' ls fun _ => True := by
    intro hp hk0
    subst hk0
    simp only [hp, Bool.false_eq_true, if_false] at hr
    exact backBoxes_ok hg h hr hk2 hn hL G hρ hfr
   cases p with
   | data t => exact skip rfl hk1
   | own t => exact skip rfl hk1
   | fn f ts => exact skip rfl hk1
   | fnb f n => exact skip rfl hk1
   | rd t => exact skip rfl hk1
   | bld t bk =>
    cases bk with
    | false =>
     obtain ⟨_, _, _, _, hk0, _⟩ := hk1
     exact skip rfl hk0
    | true =>
    simp only [PS.isBack, if_true] at hr
    obtain ⟨ys, zs, L1, L2, rfl, rfl, ⟨b, c0, c1, ys', st, e, rfl, r1, r2, r3, rfl, ⟨r4, cs, r5, r6, r7⟩, rfl⟩, r8⟩ := hr
    obtain ⟨k, st', e', hse, hk1, b1, b2⟩ := hk1
    rw [r3] at hse; injection hse with hse; injection hse with i1 i2; subst i1; subst i2
    simp only [if_true] at hk1
    subst hk1
    simp only [List.singleton_append] at h
    unfold backBoxes at h
    simp only [Ev_bind, Ev_setOb, Ev_newKey] at h
    obtain ⟨_, _, _, _, ⟨rfl, rfl, rfl⟩, ⟨_, _, _, _, ⟨rfl, rfl⟩, ⟨_, _, _, _, ⟨rfl, rfl⟩, h2, rfl⟩, rfl⟩, rfl⟩ := h
    have hm := backBoxes_m h2
    have hm : es.m + 1 ≤ es'.m := hm
    obtain ⟨p1, p2⟩ := packs hρ
    rw [List.nodup_append] at hn
    obtain ⟨hn1, hn2, hn3⟩ := hn
    rw [List.nodup_cons] at hn1
    have hx : c.ρ[n]? = some (.list ys') := by simpa using p1 0 (by simp)
    obtain ⟨f1, f2, f3, f4, f5⟩ := bldT_ok r3
    have hKk : ¬ K es.m := hfr es.m (Nat.le_refl _) (by omega)
    obtain ⟨_, h1c, A, nn, cap, rfl⟩ := own_blk r5
    -- the row
    have G1 : Reg (c.at (updM c.μ es.m (.slice A nn cap))) (withKeys K es.m (es.m + 1)) S.tm (cur S ((es.m, some (.arr e st (.v n))) :: es.obs)) a (fun b' => Rm b' ∧ b' ∉ (blk (.slice A nn cap)).toList) := by
     rw [cur_cons]
     refine G.put (fun h => absurd h hKk) (fun b' hb => ?_) (fun b h => h.1) (fun k' h => h.elim .inl fun h => .inr (by omega)) ?_ (fun k' h => by simp [keysOb] at h)
     ·have hbL : b' ∈ (blk (.slice A nn cap)).toList := by simp [hb]
      have := hL b' (List.mem_append_left _ (List.mem_cons_of_mem _ hbL))
      exact ⟨this.1, this.2, fun h => h.2 hbL⟩
     ·refine ⟨ys', cs, hx, f2, r4, ?_, r6, r7⟩
      show c.w.ownsRow 0 e (sizeT c.P e) (updM c.μ es.m (.slice A nn cap) es.m) ys'.length cs
      rw [updM_eq]; exact r5
    -- the variable
    generalize hμ1 : updM c.μ es.m (.slice A nn cap) = μ1 at G1
    have hKn : ∀ k', K k' → k' ≠ es.m := fun k' h e => hKk (by rw [← e]; exact h)
    have hne : k ≠ es.m := hKn k b1
    have hμk : μ1 k = .pointer (some ⟨b, 0, none⟩) := by rw [← hμ1, updM_ne hne]; exact b2
    have hμm : μ1 es.m = .slice A nn cap := by rw [← hμ1, updM_eq]
    have hμ2 : updM μ1 k (.pointer (some ⟨b, 0, none⟩)) = μ1 := by funext k'; unfold updM; split <;> simp_all
    have G2 : Reg ((c.at μ1).at (updM μ1 k (.pointer (some ⟨b, 0, none⟩)))) (withKeys K es.m (es.m + 1)) S.tm (cur S ((k, some (.box t (.agg t [.hid k, .ref es.m st]))) :: (es.m, some (.arr e st (.v n))) :: es.obs)) a (fun b' => (Rm b' ∧ b' ∉ (blk (.slice A nn cap)).toList) ∧ b' ≠ b) := by
     rw [cur_cons]
     refine G1.put (fun _ => hμk) (fun b' hb => ?_) (fun b h => h.1) (fun k' h => h.elim id fun h => .inl (h ▸ b1)) ?_ (fun k' h => ?_)
     ·simp [blk] at hb
      subst hb
      have := hL b (by simp)
      exact ⟨⟨this.1, hn1.1⟩, this.2, fun h => h.2 rfl⟩
     ·refine ⟨b, .agg #[c0, .slice A nn cap], by show updM _ _ _ k = _; rw [updM_eq], r1, f4.symm, ?_, ?_, ?_⟩
      ·show if isAggT c.P t = true then _ else _
       rw [if_pos f3]; exact ⟨_, rfl⟩
      ·intro u hu
       simp [Value.cells] at hu
       rcases hu with rfl | rfl
       ·rcases r2 with h | h <;> rw [h] <;> rfl
       ·rfl
      ·show VRel ((c.at μ1).at (updM μ1 k _)) _ _
       rw [hμ2]
       refine ⟨_, rfl, ⟨?_, r2.imp id fun h => ⟨h.trans hμk.symm, _, h⟩⟩, ⟨rfl, hμm.symm, _, _, _, rfl⟩, trivial⟩
       rcases r2 with h | h <;> rw [h] <;> rfl
     ·simp only [keysOb, keysVV, List.flatMap_cons, keysLV, List.flatMap_nil, List.append_nil, List.mem_append, List.mem_singleton] at h
      rcases h with rfl | rfl
      ·exact .inl b1
      ·exact .inr ⟨Nat.le_refl _, Nat.lt_succ_self _⟩
    rw [hμ2] at G2
    obtain ⟨rfl, q1, q2, q3, μ', q4, q5, _⟩ := backBoxes_ok (c := c.at μ1) (es := { es with m := es.m + 1, obs := (k, some (.box t (.agg t [.hid k, .ref es.m st]))) :: (es.m, some (.arr e st (.v n))) :: es.obs }) hg h2 r8
     (hk2.mono (fun _ h => .inl h) (fun k' hk' => by show μ1 k' = _; rw [← hμ1, updM_ne (hKn k' hk')])) hn2
     (fun b' hb => ⟨⟨⟨(hL b' (List.mem_append_right _ hb)).1, fun h => hn3 b' (List.mem_cons_of_mem _ h) b' hb rfl⟩, fun h => hn3 b (List.mem_cons_self) b' hb h.symm⟩, (hL b' (List.mem_append_right _ hb)).2⟩) G2
     (show ∀ i, i < zs.length → c.ρ[n + 1 + i]? = zs[i]? by simpa using p2) (fun k' k1 k2 hk => by
      have k1 : es.m + 1 ≤ k' := k1
      rcases hk with hk | hk
      ·exact hfr k' (by omega) k2 hk
      ·omega)
    have hw := withKeys_trans (K := K) (Nat.le_succ es.m) q3
    refine ⟨rfl, q1, q2, Nat.le_trans (Nat.le_succ _) q3, μ', fun k' hk' => (q4 k' (.inl hk')).trans (by show μ1 k' = _; rw [← hμ1, updM_ne (hKn k' hk')]), q5.keys hw (fun b' h => ⟨⟨⟨h.1, fun h' => h.2 (List.mem_append_left _ (List.mem_cons_of_mem _ h'))⟩, fun h' => h.2 (List.mem_append_left _ (h' ▸ List.mem_cons_self))⟩, fun h' => h.2 (List.mem_append_right _ h')⟩), trivial⟩
   | arr t =>
    simp only [PS.isBack, if_true] at hr
    obtain ⟨ys, zs, L1, L2, rfl, rfl, ⟨e, ys', rfl, rfl, r1, r2, cs, r3, r4, r5⟩, r6⟩ := hr
    obtain ⟨k, e', t', rfl, b1, b2, b3, b4⟩ := hk1
    have : e' = e := by rw [r1] at b3; injection b3 with b3; injection b3 with b3; exact b3.symm
    subst this
    simp only [List.singleton_append] at h
    unfold backBoxes at h
    simp only [Ev_bind, Ev_setOb] at h
    obtain ⟨_, _, _, _, ⟨rfl, rfl⟩, h2, rfl⟩ := h
    obtain ⟨p1, p2⟩ := packs hρ
    rw [List.nodup_append] at hn
    obtain ⟨hn1, hn2, hn3⟩ := hn
    have hx : c.ρ[n]? = some (.list ys') := by simpa using p1 0 (by simp)
    have G1 : Reg (c.at (updM c.μ k v)) K S.tm (cur S ((k, some (.arr e' t' (.v n))) :: es.obs)) a (fun b => Rm b ∧ b ∉ (blk v).toList) := by
     rw [cur_cons]
     refine G.put (fun _ => b2) (fun b hb => ?_) (fun b h => h.1) (fun k' h => h.elim id fun h => h ▸ b1) ⟨ys', cs, hx, b4, r2, ?_, r4, r5⟩ (fun k' h => by simp [keysOb] at h)
     ·have hbL : b ∈ (blk v).toList := by simp [hb]
      have := hL b (List.mem_append_left _ hbL)
      exact ⟨this.1, this.2, fun h => h.2 hbL⟩
     ·show c.w.ownsRow 0 e' (sizeT c.P e') (updM c.μ k v k) ys'.length cs
      rw [updM_eq]; exact r3
    have hμ : updM c.μ k v = c.μ := by funext k'; unfold updM; split <;> simp_all
    rw [hμ] at G1
    obtain ⟨rfl, q1, q2, q3, μ', q4, q5, _⟩ := backBoxes_ok (c := c.at c.μ) (es := { es with obs := (k, some (.arr e' t' (.v n))) :: es.obs }) hg h2 r6 hk2 hn2
     (fun b hb => ⟨⟨(hL b (List.mem_append_right _ hb)).1, fun h => hn3 b h b hb rfl⟩, (hL b (List.mem_append_right _ hb)).2⟩) G1 (show ∀ i, i < zs.length → c.ρ[n + 1 + i]? = zs[i]? by simpa using p2) hfr
    exact ⟨rfl, q1, q2, q3, μ', q4, q5.keys (fun _ h => h) (fun b h => ⟨⟨h.1, fun h' => h.2 (List.mem_append_left _ h')⟩, fun h' => h.2 (List.mem_append_right _ h')⟩), trivial⟩
   | box t bs =>
    simp only [PS.isBack, if_true] at hr
    obtain ⟨ys, zs, L1, L2, rfl, rfl, ⟨b, uv, L', rfl, r1, r2, rfl⟩, r6⟩ := hr
    obtain ⟨k, rfl, b1, b2⟩ := hk1
    simp only [List.singleton_append] at h
    unfold backBoxes at h
    simp only [Ev_bind, Ev_ofOption, Ev_setOb] at h
    obtain ⟨ts, _, _, _, ⟨h1, rfl, rfl⟩, ⟨lvs, e1, l1, _, h2, ⟨vv, e2, l2, _, h3, ⟨_, e3, l3, _, ⟨rfl, rfl⟩, h4, rfl⟩, rfl⟩, rfl⟩, rfl⟩ := h
    obtain ⟨p1, p2⟩ := packs hρ
    rw [List.nodup_append] at hn
    obtain ⟨hn1, hn2, hn3⟩ := hn
    rw [List.nodup_cons] at hn1
    have hm : e1.m ≤ es'.m := by
     have e12 := mkVV_es h3
     rw [e12]; exact backBoxes_m (es := { e2 with obs := (k, some (.box t vv)) :: e2.obs }) h4
    obtain ⟨rfl, rfl, rfl, a1, a2, a3, μ1, a4, a5, a6, a7⟩ := r2.take hg h1 h2 h3 hn1.2 (fun b' hb => hL b' (by simp [hb])) G p1 (fun k' k1 k2 => hfr k' k1 (by omega))
    have hlen : ys.length = bs.length := by
     obtain ⟨_, _, _, _, hcc⟩ := r2
     exact hcc.len
    have hμk : μ1 k = .pointer (some ⟨b, 0, none⟩) := (a4 k b1).trans b2
    have hμ : updM μ1 k (.pointer (some ⟨b, 0, none⟩)) = μ1 := by funext k'; unfold updM; split <;> simp_all
    have hone : ∀ u ∈ uv.cells, u.oneCell' = true := by
     obtain ⟨ts', c1, c2, c3, c4⟩ := r2
     have := c4.one (fun u hu => by
      obtain ⟨i, hi⟩ := List.mem_iff_getElem?.1 hu
      exact leaves_flat c1 i u hi)
     exact fun u hu => this u (by simpa using hu)
    have G1 : Reg ((c.at μ1).at (updM μ1 k (.pointer (some ⟨b, 0, none⟩)))) (withKeys K es.m e1.m) S.tm (cur S ((k, some (.box t vv)) :: e1.obs)) a (fun b' => (Rm b' ∧ b' ∉ L') ∧ b' ≠ b) := by
     rw [cur_cons]
     refine a5.put (fun _ => hμk) (fun b' hb => ?_) (fun b h => h.1) (fun k' h => h.elim id fun h => .inl (h ▸ b1)) ?_ (fun k' h => a7 k' h)
     ·simp [blk] at hb
      subst hb
      have := hL b (by simp)
      exact ⟨⟨this.1, hn1.1⟩, this.2, fun h => h.2 rfl⟩
     ·obtain ⟨ts', c1, c2, c3, c4⟩ := r2
      refine ⟨b, uv, by show updM _ _ _ k = _; rw [updM_eq], r1, c2, c3, hone, ?_⟩
      show VRel ((c.at μ1).at (updM μ1 k _)) vv uv
      rw [hμ]; exact a6
    rw [hμ] at G1
    obtain ⟨rfl, q1, q2, q3, μ', q4, q5, _⟩ := backBoxes_ok (c := c.at μ1) (es := { e1 with obs := (k, some (.box t vv)) :: e1.obs }) (a2.trans hg) h4 r6
     (hk2.mono (fun _ h => .inl h) a4) hn2
     (fun b' hb => ⟨⟨⟨(hL b' (List.mem_append_right _ hb)).1, fun h => hn3 b' (List.mem_cons_of_mem _ h) b' hb rfl⟩, fun h => hn3 b (List.mem_cons_self) b' hb h.symm⟩, (hL b' (List.mem_append_right _ hb)).2⟩) G1 (by rw [← hlen]; exact p2) (fun k' k1 k2 hk => by
      have k1 : e1.m ≤ k' := k1
      rcases hk with hk | hk
      ·exact hfr k' (by omega) k2 hk
      ·omega)
    have q3 : e1.m ≤ es'.m := q3
    refine ⟨rfl, q1.trans a1, q2.trans a2, Nat.le_trans a3 q3, μ', fun k hk => (q4 k (.inl hk)).trans (a4 k hk), q5.keys (withKeys_trans (K := K) a3 q3) (fun b' h => ?_), trivial⟩
    have h2 := h.2
    simp only [List.cons_append, List.mem_cons, List.mem_append, not_or] at h2
    exact ⟨⟨⟨h.1, h2.2.1⟩, h2.1⟩, h2.2.2⟩
end
end Go.CT
namespace Go.CT
open EM
section
variable {P : Program} {N : Nat} {X : Nat → Prop} {R : Job → List IV → Option (List IV)} {ρ : List IV} {K : Nat → Prop} {S : View} {μ : Nat → Value} {a : Act} {w w' : World} {es es' e1 : ES} {ls : List PLt} {sx : SX}
 {tm : Nat → SV} {ob : Nat → Option Ob} {c : Cx} {Rm : Nat → Prop}
def cxW (P : Program) (X : Nat → Prop) (ρ : List IV) (WA : Nat → Prop) (μ : Nat → Value) (w : World) : Cx := { P, ρ, μ, w, O := fun b => X b ∨ WA b, W := WA }
theorem reg_base {L Ln : List Nat} (G : Good P N X ρ K S.tm (cur S es.obs) μ a w) (d : Lend P N X ρ K S μ a w L es e1) (A : WStep (· ∈ L) w w') (hLn : ∀ b ∈ Ln, b ∈ L ∨ w.heap.size ≤ b) :
    Reg (cxW P X ρ (fun b => Wr (cur S e1.obs) μ b ∨ b ∈ Ln) μ w') K S.tm (cur S e1.obs) a (· ∈ Ln) := by
  have hWL : ∀ b, b < w.heap.size → (Wr (cur S e1.obs) μ b ∨ b ∈ Ln) → Wr (cur S es.obs) μ b := by
    intro b hb h
    rcases h with h | h
    · exact d.fewer.wr h
    · rcases hLn b h with h | h
      · exact d.own b h
      · omega
  have Lat : Later K (cxOf P X ρ (cur S es.obs) μ w) (cxW P X ρ (fun b => Wr (cur S e1.obs) μ b ∨ b ∈ Ln) μ w') :=
    { P := rfl, ρ := fun _ _ h => h, μ := fun _ _ => rfl, stays := fun b hb hw => A.stays b hb fun h => hw (d.own b h),
      O := fun b hb ho => ho.imp id (hWL b hb), W := hWL, WO := fun b hb => .inr hb }
  have hoff : ∀ k o b, cur S e1.obs k = some o → o.isOwn = true → blk (μ k) = some b → b < w.heap.size ∧ b ∉ L ∧ ¬ X b := by
    intro k o b h1 h2 h3
    have := d.good.xsep k o b h1 h2 h3
    exact ⟨d.good.blk_lt h1 h2 h3, fun h => this (.inr h), fun h => this (.inl h)⟩
  refine ⟨fun b hb => .inr hb, fun s => Lat.srel (G.kt s) (G.slot s), fun k o ho => ?_, fun k k' o o' b h1 h2 h3 h4 h5 h6 => d.good.sep k k' o o' b h1 h2 h3 h4 h5 h6,
    fun k o b h1 h2 h3 => ⟨fun h => ?_, .inl ⟨k, o, h1, h2, h3⟩⟩, G.kt, d.good.ko⟩
  · cases hi : o.isOwn with
    | true =>
      have h := d.fewer k o ho hi
      exact Lat.obOk (G.ko k o h).1 (G.ko k o h).2 (fun _ b hb _ => A.stays b (hoff k o b ho hi hb).1 (hoff k o b ho hi hb).2.1) (G.obj k o h)
    | false =>
      cases o with
      | box => simp [Ob.isOwn] at hi
      | iter => simp [Ob.isOwn] at hi
      | mp => simp [Ob.isOwn] at hi
      | arr => simp [Ob.isOwn] at hi
      | frz e t x =>
        obtain ⟨h1, iv, h2, h3⟩ := d.good.obj k _ ho
        refine ⟨h1, iv, h2, ?_⟩
        refine Rel.mono h3 (fun b hb ho => ?_) (fun b hb ho => A.stays b hb fun h => ho (.inl (.inr h)))
        rcases ho with ho | ho | ho
        · exact .inl (.inl ho)
        · exact .inr ho
        · rcases hLn b ho with h | h
          · exact .inl (.inr h)
          · have hb : b < w.heap.size := hb
            omega
  · obtain ⟨q1, q2, q3⟩ := hoff k o b h1 h2 h3
    rcases hLn b h with h | h
    · exact q2 h
    · omega
theorem reg_out {L Ln : List Nat} {μ' : Nat → Value} {v : Value} (G : Good P N X ρ K S.tm (cur S es.obs) μ a w) (d : Lend P N X ρ K S μ a w L es e1) (A : WStep (· ∈ L) w w') (hLn : ∀ b ∈ Ln, b ∈ L ∨ w.heap.size ≤ b)
    (r : Reg ((cxW P X ρ (fun b => Wr (cur S e1.obs) μ b ∨ b ∈ Ln) μ w').at μ') (withKeys K es.m es'.m) S.tm (cur S es'.obs) a Rm)
    (hx : XRel ((cxW P X ρ (fun b => Wr (cur S e1.obs) μ b ∨ b ∈ Ln) μ w').at μ') sx v) (hk : ∀ k ∈ keysSX sx, withKeys K es.m es'.m k) (hkeep : ∀ k, K k → μ' k = μ k) : Out P N X ρ K S μ a w es es' sx μ' w' v := by
  have Lat : Later (withKeys K es.m es'.m) ((cxW P X ρ (fun b => Wr (cur S e1.obs) μ b ∨ b ∈ Ln) μ w').at μ') (cxOf P X ρ (cur S es'.obs) μ' w') :=
    { P := rfl, ρ := fun _ _ h => h, μ := fun _ _ => rfl, stays := Stays.refl _ _,
      O := fun b _ ho => ho.imp id fun ⟨k, o, h1, h2, h3⟩ => (r.rest k o b h1 h2 h3).2, W := fun b _ ⟨k, o, h1, h2, h3⟩ => (r.rest k o b h1 h2 h3).2, WO := fun b hb => .inr hb }
  have hWX : ∀ b, (Wr (cur S e1.obs) μ b ∨ b ∈ Ln) → ¬ X b := by
    intro b hb hX
    rcases hb with ⟨k, o, h1, h2, h3⟩ | hb
    · exact d.good.xsep k o b h1 h2 h3 (.inl hX)
    · rcases hLn b hb with h | h
      · obtain ⟨k, o, h1, h2, h3⟩ := d.own b h
        exact G.xsep k o b h1 h2 h3 hX
      · have := G.xlt b hX
        omega
  refine ⟨⟨G.size, G.defers, fun s => Lat.srel (r.kt s) (r.slot s), fun k o ho => Lat.obOk (r.ko k o ho).1 (r.ko k o ho).2 (fun _ b _ _ => rfl) (r.obj k o ho), r.sep, fun k o b h1 h2 h3 => hWX b (r.rest k o b h1 h2 h3).2,
    fun b hb => Nat.lt_of_lt_of_le (G.xlt b hb) A.size, r.kt, r.ko⟩, Lat.xrel hk hx, hk, ⟨A.os, A.tape, A.output, A.size, fun b hb hw => A.stays b hb fun h => hw (d.own b h)⟩, fun b ⟨k, o, h1, h2, h3⟩ => ?_, hkeep⟩
  rcases (r.rest k o b h1 h2 h3).2 with h | h
  · exact .inl (d.fewer.wr h)
  · exact (hLn b h).imp (d.own b) id
theorem RowOwn.rel {O O' : Nat → Prop} {t e : TypeId} {xs : List IV} {v : Value} (h : RowOwn P w O e xs v) (ht : P.underlying t = some (.slice e)) (hO : ∀ b, b < w.heap.size → O' b → O b) (hb : ∀ b, blk v = some b → ¬ O' b) : Rel P w O' t (.list xs) v := by
 obtain ⟨hs, cs, ⟨g1, g2⟩, h5, h6⟩ := h
 rcases g2 with ⟨rfl, g3⟩ | ⟨g, cap, cu, rfl, e2, e3, e4, e5, e6, e7⟩
 ·have : xs = [] := by cases xs with | nil => rfl | cons => simp at g3
  subst this
  exact (Row.nilB e none 0 : RowB P w O e [] none 0).row (fun b _ hb => hO b ‹_› hb) (fun ad hA => by cases hA) |>.rel ht
 ·have hE : Elems P w O e xs cs := h5
  obtain ⟨us, r1, rfl⟩ := hE.relE g1
  refine .list (fun j => (us[j]?).getD undef) ht e4 (Nat.le_trans e4 e5) (fun h0 => ⟨hs, _, rfl, hb g rfl, fun j hj => ?_⟩) (fun j x hx => ?_)
  ·have hj' : j < us.length := by rw [← r1.len]; exact hj
   have hju : us[j]? = some us[j] := List.getElem?_eq_getElem hj'
   rw [hju]
   have hsz := r1.size us[j] (List.getElem_mem hj')
   refine ⟨hsz.1, fun i u hu => ?_⟩
   rw [addr_add_add, addr_of]
   simp only [World.cell?, e3]
   have hat := flatC_at (fun v hv => (r1.size v hv).1) j us[j] hju
   have hi : i < sizeT P e := by rw [← hsz.1]; exact (Array.getElem?_eq_some_iff.1 hu).1
   have hu' : us[j].cells.toList[i]? = some u := by simpa using hu
   rw [← hat, List.getElem?_take, if_pos hi, List.getElem?_drop, ← e7, List.getElem?_take] at hu'
   have hlt : j * sizeT P e + i < xs.length * sizeT P e := by
    have : j * sizeT P e + sizeT P e ≤ xs.length * sizeT P e := by rw [← Nat.succ_mul]; exact Nat.mul_le_mul_right _ hj
    omega
   rw [if_pos hlt] at hu'
   simpa using hu'
  ·obtain ⟨u, hu, hr⟩ := r1.get j x hx
   rw [hu]
   exact hr.weaken hO
theorem mkCellsG_ok : ∀ {bs : List Bool} {ts : List TypeId} {xs : List IV} {vs : List Value} {L : List Nat} {n : Nat} {es es' : ES} {lvs : List LV} {ls : List PLt} {c : Cx} {O : Nat → Prop}, es.gs.isEmpty = false → Ev S (mkCells c.P bs ts n) es lvs es' ls →
  CellsOwn c.P c.w O bs ts xs vs L → (∀ t ∈ ts, isAggT c.P t = false) → (∀ b, b < c.w.heap.size → c.O b → O b) → (∀ b ∈ L, ¬ c.O b) → (∀ i, i < xs.length → c.ρ[n + i]? = xs[i]?) →
  es = es' ∧ ls = [] ∧ CRels c lvs vs ∧ lvs.flatMap keysLV = []
 | [], [], xs, vs, L, n, es, es', lvs, ls, c, O, hg, h, hc, hf, hO, hL, hρ => by
  unfold mkCells at h
  rw [Ev_pure] at h
  obtain ⟨rfl, rfl, rfl⟩ := h
  cases xs with
  | cons => cases vs <;> exact hc.elim
  | nil =>
   cases vs with
   | cons => exact hc.elim
   | nil => exact ⟨rfl, rfl, trivial, rfl⟩
 | o :: bs, t :: ts, xs, vs, L, n, es, es', lvs, ls, c, O, hg, h, hc, hf, hO, hL, hρ => by
  cases xs with
  | nil => cases o <;> exact hc.elim
  | cons x xs =>
  cases vs with
  | nil => cases o <;> exact hc.elim
  | cons v vs =>
  have hf' : ∀ t ∈ ts, isAggT c.P t = false := fun t h => hf t (List.mem_cons_of_mem _ h)
  have hρ0 : c.ρ[n]? = some x := by simpa using hρ 0 (by simp)
  have hρ1 : ∀ i, i < xs.length → c.ρ[n + 1 + i]? = xs[i]? := fun i hi => by
   have := hρ (i + 1) (by simpa using hi)
   simpa [Nat.add_assoc, Nat.add_comm 1 i] using this
  cases o with
  | false =>
   obtain ⟨c1, c2⟩ := hc
   unfold mkCells at h
   rw [Ev_bind] at h
   obtain ⟨r, e1, l1, _, h1, h2, rfl⟩ := h
   rw [Ev_pure] at h2
   obtain ⟨rfl, rfl, rfl⟩ := h2
   obtain ⟨rfl, rfl, q1, q2⟩ := mkCellsG_ok hg h1 c2 hf' hO hL hρ1
   exact ⟨rfl, rfl, ⟨⟨(c1.one (hf t List.mem_cons_self)).1, ⟨x, hρ0, c1.weaken hO⟩⟩, q1⟩, by rw [List.flatMap_cons, q2]; rfl⟩
  | true =>
   obtain ⟨L', ⟨ys, rfl, hcase⟩, c2, rfl⟩ := hc
   unfold mkCells at h
   cases he : elemT c.P t with
   | none =>
    simp only [he, Ev_bind, Ev_bare] at h
    obtain ⟨_, _, _, _, ⟨h0, _, _⟩, _⟩ := h
    rw [h0] at hg; cases hg
   | some e =>
   have ht := elemT_eq he
   have hrow : RowOwn c.P c.w O e ys v := by
    rcases hcase with ⟨e', ht', h⟩ | ⟨kt, vt, ht', _⟩
    ·rw [ht] at ht'; injection ht' with ht'; injection ht' with ht'; rw [ht']; exact h
    ·rw [ht] at ht'; cases ht'
   simp only [he, Ev_bind, Ev_guards] at h
   obtain ⟨gs, _, _, _, ⟨rfl, rfl, rfl⟩, h, rfl⟩ := h
   simp only [hg, Bool.false_eq_true, if_false] at h
   rw [Ev_bind] at h
   obtain ⟨r, e1, l1, _, h1, h2, rfl⟩ := h
   rw [Ev_pure] at h2
   obtain ⟨rfl, rfl, rfl⟩ := h2
   obtain ⟨rfl, rfl, q1, q2⟩ := mkCellsG_ok hg h1 c2 hf' hO (fun b hb => hL b (List.mem_append_right _ hb)) hρ1
   have hr := hrow.rel ht hO fun b hb => hL b (List.mem_append_left _ (by simp [hb]))
   exact ⟨rfl, rfl, ⟨⟨(hr.one (hf t List.mem_cons_self)).1, ⟨_, hρ0, hr⟩⟩, q1⟩, by rw [List.flatMap_cons, q2]; rfl⟩
 | [], _ :: _, xs, vs, L, n, es, es', lvs, ls, c, O, hg, h, hc, hf, hO, hL, hρ => by simp [mkCells, Ev_fail] at h
 | _ :: _, [], xs, vs, L, n, es, es', lvs, ls, c, O, hg, h, hc, hf, hO, hL, hρ => by simp [mkCells, Ev_fail] at h
theorem mkResG_ok : ∀ {rs : List RS} {xs : List IV} {vs : List Value} {L : List Nat} {n : Nat} {es es' : ES} {r : List VV × Nat} {ls : List PLt} {c : Cx} {O : Nat → Prop}, es.gs.isEmpty = false → Ev S (mkRes c.P rs n) es r es' ls →
  RessRel c.P c.w O rs xs vs L → (∀ b, b < c.w.heap.size → c.O b → O b) → (∀ b ∈ L, ¬ c.O b) → (∀ i, i < xs.length → c.ρ[n + i]? = xs[i]?) →
  es = es' ∧ ls = [] ∧ VRels c r.1 vs ∧ r.1.flatMap keysVV = []
 | [], xs, vs, L, n, es, es', r, ls, c, O, hg, h, hr, hO, hL, hρ => by
  unfold mkRes at h
  rw [Ev_pure] at h
  obtain ⟨rfl, rfl, rfl⟩ := h
  cases vs with
  | cons => exact hr.elim
  | nil => exact ⟨rfl, rfl, trivial, rfl⟩
 | .whole t :: rs, xs, vs, L, n, es, es', r, ls, c, O, hg, h, hr, hO, hL, hρ => by
  cases vs with
  | nil => exact hr.elim
  | cons v vs =>
   obtain ⟨ys, zs, L1, L2, rfl, rfl, ⟨x, rfl, rfl, r1⟩, r2⟩ := hr
   unfold mkRes at h
   rw [Ev_bind] at h
   obtain ⟨q, e1, l1, _, h1, h2, rfl⟩ := h
   rw [Ev_pure] at h2
   obtain ⟨rfl, rfl, rfl⟩ := h2
   obtain ⟨p1, p2⟩ := packs hρ
   obtain ⟨rfl, rfl, q1, q2⟩ := mkResG_ok hg h1 r2 hO hL (by simpa using p2)
   have hx : c.ρ[n]? = some x := by simpa using p1 0 (by simp)
   exact ⟨rfl, rfl, ⟨⟨x, hx, r1.weaken hO⟩, q1⟩, by rw [List.flatMap_cons, q2]; rfl⟩
 | .clip t :: rs, xs, vs, L, n, es, es', r, ls, c, O, hg, h, hr, hO, hL, hρ => by
  cases vs with
  | nil => exact hr.elim
  | cons v vs =>
   obtain ⟨ys, zs, L1, L2, rfl, rfl, ⟨x, rfl, rfl, r1, r3⟩, r2⟩ := hr
   unfold mkRes at h
   rw [Ev_bind] at h
   obtain ⟨q, e1, l1, _, h1, h2, rfl⟩ := h
   rw [Ev_pure] at h2
   obtain ⟨rfl, rfl, rfl⟩ := h2
   obtain ⟨p1, p2⟩ := packs hρ
   obtain ⟨rfl, rfl, q1, q2⟩ := mkResG_ok hg h1 r2 hO hL (by simpa using p2)
   have hx : c.ρ[n]? = some x := by simpa using p1 0 (by simp)
   exact ⟨rfl, rfl, ⟨⟨⟨x, hx, r1.weaken hO⟩, r3⟩, q1⟩, by rw [List.flatMap_cons, q2]; rfl⟩
 | .strict t :: rs, xs, vs, L, n, es, es', r, ls, c, O, hg, h, hr, hO, hL, hρ => by
  cases vs with
  | nil => exact hr.elim
  | cons v vs =>
   obtain ⟨ys, zs, L1, L2, rfl, rfl, ⟨x, rfl, rfl, r1, ys3, A3, cap3, rfl, r3⟩, r2⟩ := hr
   unfold mkRes at h
   rw [Ev_bind] at h
   obtain ⟨q, e1, l1, _, h1, h2, rfl⟩ := h
   rw [Ev_pure] at h2
   obtain ⟨rfl, rfl, rfl⟩ := h2
   obtain ⟨p1, p2⟩ := packs hρ
   obtain ⟨rfl, rfl, q1, q2⟩ := mkResG_ok hg h1 r2 hO hL (by simpa using p2)
   have hx : c.ρ[n]? = some (.list ys3) := by simpa using p1 0 (by simp)
   exact ⟨rfl, rfl, ⟨⟨⟨_, hx, r1.weaken hO⟩, ys3, A3, cap3, hx, r3⟩, q1⟩, by rw [List.flatMap_cons, q2]; rfl⟩
 | .skip :: rs, xs, vs, L, n, es, es', r, ls, c, O, hg, h, hr, hO, hL, hρ => by
  cases vs with
  | nil => exact hr.elim
  | cons v vs =>
   obtain ⟨ys, zs, L1, L2, rfl, rfl, ⟨rfl, rfl⟩, r2⟩ := hr
   unfold mkRes at h
   rw [Ev_bind] at h
   obtain ⟨q, e1, l1, _, h1, h2, rfl⟩ := h
   rw [Ev_pure] at h2
   obtain ⟨rfl, rfl, rfl⟩ := h2
   obtain ⟨rfl, rfl, q1, q2⟩ := mkResG_ok hg h1 r2 hO hL (by simpa using hρ)
   exact ⟨rfl, rfl, ⟨trivial, q1⟩, by rw [List.flatMap_cons, q2]; rfl⟩
 | .nbox t bs :: rs, xs, vs, L, n, es, es', r, ls, c, O, hg, h, hr, hO, hL, hρ => by
  unfold mkRes at h
  simp only [Ev_bind, Ev_bare] at h
  obtain ⟨_, _, _, _, ⟨h0, _, _⟩, _⟩ := h
  rw [h0] at hg; cases hg
 | .clo f bs :: rs, xs, vs, L, n, es, es', r, ls, c, O, hg, h, hr, hO, hL, hρ => by
  unfold mkRes at h
  simp only [Ev_bind, Ev_bare] at h
  obtain ⟨_, _, _, _, ⟨h0, _, _⟩, _⟩ := h
  rw [h0] at hg; cases hg
 | .cells t bs :: rs, xs, vs, L, n, es, es', r, ls, c, O, hg, h, hr, hO, hL, hρ => by
  cases vs with
  | nil => exact hr.elim
  | cons v vs =>
   obtain ⟨ys, zs, L1, L2, rfl, rfl, ⟨ts', b1, b2, b3, b4⟩, r2⟩ := hr
   unfold mkRes at h
   simp only [Ev_bind, Ev_ofOption] at h
   obtain ⟨ts, _, _, _, ⟨h1, rfl, rfl⟩, ⟨lvs, e1, l1, _, h2, ⟨vv, e2, l2, _, h3, ⟨q, e3, l3, _, h4, h5, rfl⟩, rfl⟩, rfl⟩, rfl⟩ := h
   rw [Ev_pure] at h5
   obtain ⟨rfl, rfl, rfl⟩ := h5
   rw [h1] at b1; injection b1 with b1; subst b1
   obtain ⟨p1, p2⟩ := packs hρ
   obtain ⟨rfl, rfl, a1, a2⟩ := mkCellsG_ok hg h2 b4 (fun u hu => by
    obtain ⟨i, hi⟩ := List.mem_iff_getElem?.1 hu
    exact leaves_flat h1 i u hi) hO (fun b hb => hL b (List.mem_append_left _ hb)) p1
   obtain ⟨rfl, rfl, s1, s2⟩ := mkVV_ok h3 b3 a1
   obtain ⟨rfl, rfl, q1, q2⟩ := mkResG_ok hg h4 r2 hO (fun b hb => hL b (List.mem_append_right _ hb)) (by rw [← b4.len]; exact p2)
   refine ⟨rfl, rfl, ⟨s1, q1⟩, ?_⟩
   rw [List.flatMap_cons, q2, List.append_nil, List.eq_nil_iff_forall_not_mem]
   intro k hk
   have := s2 k hk
   rw [a2] at this
   cases this
end
end Go.CT
