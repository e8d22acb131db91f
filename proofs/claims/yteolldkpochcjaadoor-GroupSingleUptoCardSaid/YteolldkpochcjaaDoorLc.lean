import Derived.Test.YteolldkpochcjaaDoorLb
import Derived.Test.YteolldkpochcjaaDoorDa
import Derived.Test.YteolldkpochcjaaDoorLa
import Derived.Test.YteolldkpochcjaaDoorCtC
import Derived.Test.YteolldkpochcjaaDoorCtD
import Derived.Shelf.Lay
import Derived.WalkKit
import Derived.ProofKit
import Derived.Test.YteolldkpochcjaaDoorRows
set_option linter.unusedVariables false
set_option linter.unusedSimpArgs false
set_option maxRecDepth 100000
namespace Go.CT
open Go Go.Proofs Go.RowKit
def entsOf : List IV → Option (List MemD.E)
 | [] => some []
 | .agg [.int t, .str d] :: r => (entsOf r).map (⟨t, d⟩ :: ·)
 | _ => none
theorem entsOf_inv : ∀ {xs : List IV} {es : List MemD.E}, entsOf xs = some es → xs = es.map MemD.E.enc
 | [], es, h => by simp only [entsOf, Option.some.injEq] at h; subst h; rfl
 | x :: xs, es, h => by
  unfold entsOf at h
  split at h
  ·rename_i heq; cases heq
  ·rename_i t d r heq
   injection heq with h1 h2
   subst h1 h2
   cases hr : entsOf xs with
   | none => simp [hr] at h
   | some l =>
    simp only [hr, Option.map_some, Option.some.injEq] at h
    subst h
    rw [entsOf_inv hr]; rfl
  ·cases h
def O.commM : IV → Option (List IV)
 | .agg [_, _, _, _, _, _, _, _, _, _, _, .int m, _, .int b, .int bt, .list es, .str sn] =>
  (entsOf es).bind fun l => if sn = ⟨#[]⟩ ∧ 0 ≤ b ∧ b ≤ 1000000000000000 ∧ b < m ∧ m ≤ 4000000000000000 ∧ 0 < l.length ∧ l.length ≤ 1048576 then some [.list ((MemD.dataF b l m).map IV.str)] else none
 | _ => none
def O.commF : List IV → Option (List IV)
 | [.agg [.list ms, _, _], .int i] => if i < 0 ∨ (ms.length : Int) ≤ i then some [.list []] else (ms[i.toNat]?).bind O.commM
 | _ => none
theorem row_after {P : Program} {te ts ta tb : TypeId} {f : FuncId} {al : Bool} (hstr : P.underlying te = some .string) (hse : sizeT P te = 1) (hts : P.underlying ts = some (.slice te)) (hl : leaves P ts = some [ts]) (hss : sizeT P ts = 1)
  {X : Nat → Prop} {a b : Value} {w w' : World} {v : Value} (zs : List ByteArray) (hrow : w'.ownsRow w.heap.size te 1 v zs.length (zs.map .string)) (hB : Below w.heap.size w w') :
  After P X ⟨f, [.data ta, .data tb], [.cells ts [true]], al⟩ [a, b] [] [.list (zs.map IV.str)] w v w' := by
 have hagg : isAggT P ts = false := by simp [isAggT, hts]
 refine ⟨⟨hB.os, hB.tape, hB.output, hB.size, fun b hb _ => hB.block b hb⟩, [v], [.list (zs.map IV.str)], [], (blk v).toList, [], rfl, by simp, ?_, ?_, ?_, ?_⟩
 ·cases blk v <;> simp
 ·intro b hb
  right
  simp only [List.append_nil, Option.mem_toList] at hb
  rcases hrow.2 with ⟨rfl, _⟩ | ⟨g, cap, cu, rfl, e2, e3, _⟩
  ·cases hb
  ·simp [blk] at hb
   subst hb; exact e2
 ·refine ⟨[.list (zs.map IV.str)], [], (blk v).toList, [], rfl, by simp, ?_, rfl, rfl⟩
  have hone := (own_blk hrow).2.1
  refine ⟨[ts], hl, ?_, ?_, ?_⟩
  ·rw [one_cells hone, hss]; rfl
  ·rw [hagg]; simpa using hone
  ·rw [show v.cells.toList = [v] by rw [one_cells hone]]
   refine ⟨[], ⟨_, rfl, .inl ⟨te, hts, by rw [hse]; decide, _, ?_, elemsStr hstr hse zs, ?_⟩⟩, rfl, by simp⟩
   ·rw [hse, List.length_map]
    refine ⟨hrow.1, hrow.2.imp id fun ⟨g, cap, cu, e1, e2, rest⟩ => ⟨g, cap, cu, e1, Nat.zero_le _, rest⟩⟩
   ·intro u hu
    obtain ⟨z, _, rfl⟩ := List.mem_map.1 hu
    rfl
 ·simp [BackRel, PS.isBack]
theorem mem_data : (0, (⟨20, [.data 44, .data 3], [.cells 31 [true]], false⟩ : Spec)) ∈ MemD.specs := List.mem_of_getElem? (i := 0) (by kernel_rfl)
theorem u9 : Tryd.prog.underlying 9 = some .string := by kernel_rfl
theorem u3 : Tryd.prog.underlying 3 = some (.int .i64) := by kernel_rfl
theorem u31 : Tryd.prog.underlying 31 = some (.slice 9) := by kernel_rfl
theorem u25 : Tryd.prog.underlying 25 = some (.slice 44) := by kernel_rfl
theorem s9 : sizeT Tryd.prog 9 = 1 := by kernel_rfl
theorem s31 : sizeT Tryd.prog 31 = 1 := by kernel_rfl
theorem s44 : sizeT Tryd.prog 44 = 17 := by kernel_rfl
theorem l31 : leaves Tryd.prog 31 = some [31] := by kernel_rfl
theorem a44 : isAggT Tryd.prog 44 = true := by kernel_rfl
theorem a29 : isAggT Tryd.prog 29 = true := by kernel_rfl
theorem l29 : leaves Tryd.prog 29 = some [25, 26, 27] := by kernel_rfl
theorem l44 : leaves Tryd.prog 44 = some [3, 3, 3, 3, 3, 3, 3, 3, 32, 32, 32, 3, 3, 3, 3, 40, 9] := by kernel_rfl
theorem data_calls {W : World} {vs : Array Value} {x : IV} {m : Int} {zs : List ByteArray} (hr : Rel Tryd.prog W (fun _ => False) 44 x (.agg vs)) (h : MemD.W MemD.f_group_data 0 [x, .int m] = some [.list (zs.map IV.str)]) :
  Calls Tryd.prog 20 #[.agg vs, .int .i64 m] W fun e W' => ∃ v, e = .returned v ∧ W'.ownsRow W.heap.size 9 1 v zs.length (zs.map .string) ∧ Below W.heap.size W W' := by
 obtain ⟨k, hk⟩ := (V_some _ _).1 h
 have hd := MemD.soundW k 0 _ mem_data W (fun _ => False) [x, .int m] [.agg vs, .int .i64 m] [.agg vs, .int .i64 m] [] _ rfl
  ⟨[x], [.int m], [], [], rfl, rfl, ⟨_, rfl, rfl, hr.weaken (by simp)⟩, ⟨[.int m], [], [], [], rfl, rfl, ⟨_, rfl, rfl, .int u3⟩, rfl, rfl⟩⟩ (by simp) (by simp) (fun _ h => h.elim) hk
 have hc := Does.calls (P := Tryd.prog) Tryd.func20 (by kernel_rfl) (by kernel_rfl) hd
 ·refine hc.mono ?_
  rintro e W' ⟨v, rfl, hA⟩
  obtain ⟨vs', xs', ys', L1, L2, rfl, hrs, hnd, hb, hres, hback⟩ := hA.out
  simp [BackRel, PS.isBack] at hback
  obtain ⟨rfl, rfl⟩ := hback
  simp only [List.append_nil] at hrs hb hnd
  subst hrs
  match vs', hres with
  | [u], hres =>
  obtain ⟨ys, zs', M1, M2, e1, e2, hu, e3, e4⟩ := hres
  subst e3 e4
  simp only [List.append_nil] at e1 e2
  subst e1 e2
  obtain ⟨ts, ht, hsz, hcl, hco⟩ := hu
  rw [l31] at ht
  injection ht with ht
  subst ht
  have hone : u.oneCell' = true := by simpa [isAggT, u31] using hcl
  rw [show u.cells.toList = [u] by rw [one_cells hone]] at hco
  obtain ⟨L', hcell, hnil, e5⟩ := hco
  have e6 : L' = [] := hnil
  subst e6
  obtain ⟨ys2, e7, hrow⟩ := hcell
  injection e7 with e7
  subst e7
  rcases hrow with ⟨el, he, hown⟩ | ⟨kt, vt, he, _⟩
  ·rw [u31] at he
   injection he with he
   injection he with he
   subst he
   obtain ⟨_, cs, h5, h6, h7⟩ := hown
   rw [s9] at h5
   have hcs : cs = zs.map Value.string := by
    have hlen := h5.1
    simp only [List.length_map, Nat.mul_one] at hlen
    apply List.ext_getElem (by simpa using hlen)
    intro j hj1 hj2
    obtain ⟨v, hv1, hv2, hv3⟩ := h6 j (.str zs[j]) (by simp [show j < zs.length by simpa using hj2])
    obtain ⟨s, e1, rfl⟩ := hv1.str_inv u9
    injection e1 with e1
    subst e1
    rw [s9, Nat.mul_one, List.drop_eq_getElem_cons hj1, List.take_succ_cons, List.take_zero] at hv2
    change [Value.string zs[j]] = _ at hv2
    injection hv2 with hv2
    simp [← hv2]
   subst hcs
   refine ⟨u, rfl, ?_, ⟨hA.step.os, hA.step.tape, hA.step.output, hA.step.size, fun b hb => hA.step.stays b hb (by simp)⟩⟩
   rw [List.length_map] at h5
   refine ⟨h5.1, h5.2.imp id fun ⟨g, cap, cu, f1, f2, rest⟩ => ⟨g, cap, cu, f1, ?_, rest⟩⟩
   rcases hb g (by rw [e5, f1]; simp [blk]) with h | h
   ·simp at h
   ·exact h
  ·rw [u31] at he; cases he
theorem arr17 {cs : Array Value} (h : cs.size = 17) : ∃ v0 v1 v2 v3 v4 v5 v6 v7 v8 v9 v10 v11 v12 v13 v14 v15 v16, cs = #[v0, v1, v2, v3, v4, v5, v6, v7, v8, v9, v10, v11, v12, v13, v14, v15, v16] := by
 obtain ⟨l⟩ := cs
 match l, h with
 | [a0, a1, a2, a3, a4, a5, a6, a7, a8, a9, a10, a11, a12, a13, a14, a15, a16], _ => exact ⟨a0, a1, a2, a3, a4, a5, a6, a7, a8, a9, a10, a11, a12, a13, a14, a15, a16, rfl⟩
theorem arr3 {cs : Array Value} (h : cs.size = 3) : ∃ v0 v1 v2, cs = #[v0, v1, v2] := by
 obtain ⟨l⟩ := cs
 match l, h with
 | [a0, a1, a2], _ => exact ⟨a0, a1, a2, rfl⟩
set_option maxHeartbeats 4000000 in
theorem commit_ok : PrimOk Tryd.prog O.commF ⟨9, [.data 29, .data 3], [.cells 31 [true]], false⟩ := by
 intro w X xs args L rs hr hnd hX hlt hf
 match args, hr with
 | [u, u2], hr =>
  obtain ⟨ys, zs, L1, L2, e1, e2, ⟨x, e3, e4, hx1⟩, hr⟩ := hr
  obtain ⟨ys', zs', L1', L2', e1', e2', ⟨y, e3', e4', hy1⟩, ⟨e5, e6⟩⟩ := hr
  subst e3 e4 e3' e4' e5 e6 e1' e2' e1 e2
  obtain ⟨i, rfl, rfl⟩ := hy1.int_inv u3
  obtain ⟨ts, gs, cs, h1, rfl, rfl, h2, h3, _, h4⟩ := hx1.agg_inv a29
  rw [l29] at h1
  injection h1 with h1
  subst h1
  obtain ⟨vm, dv, wv, rfl⟩ := arr3 h3
  match gs, h2 with
  | [gm, gd, gw], _ =>
  obtain ⟨ms, A, c, rfl, rfl, hc1, hc2, vs, hc3, hc4⟩ := (h4 0 25 gm vm rfl rfl rfl).list_inv u25
  refine .inl ⟨_, Tryd.func9, by kernel_rfl, by kernel_rfl, ?_⟩
  by_cases hi : i < 0 ∨ (ms.length : Int) ≤ i
  ·simp only [List.cons_append, List.nil_append, O.commF, if_pos hi, Option.some.injEq] at hf
   subst hf
   refine (Spl.comm_out A ms.length c dv wv i w hi).mono ?_
   rintro e w' ⟨rfl, rfl⟩
   exact ⟨_, rfl, row_after u9 s9 u31 l31 s31 [] (World.ownsRow_nil _ _ _ _) ((Below.refl _ w).alloc (Nat.le_refl _) _)⟩
  ·simp only [List.cons_append, List.nil_append, O.commF, if_neg hi] at hf
   obtain ⟨n, rfl⟩ : ∃ n : Nat, i = n := ⟨i.toNat, by omega⟩
   have hn : n < ms.length := by omega
   rw [Int.toNat_natCast, List.getElem?_eq_getElem hn, Option.bind_some] at hf
   have hrel := hc4 n _ (List.getElem?_eq_getElem hn)
   obtain ⟨h17, ad, rfl, hO, hcell⟩ := hc3 (by omega)
   have hcell := hcell n hn
   rw [s44] at hcell
   obtain ⟨ts, gs, cs, q1, q2, q3, q4, q5, _, q6⟩ := hrel.agg_inv a44
   rw [l44] at q1
   injection q1 with q1
   subst q1
   rw [q2] at hf hrel
   rw [q3] at hcell hrel
   obtain ⟨v0, v1, v2, v3, v4, v5, v6, v7, v8, v9, v10, v11, v12, v13, v14, v15, v16, rfl⟩ := arr17 q5
   unfold O.commM at hf
   split at hf
   rotate_left
   ·cases hf
   rename_i m _ b bt es sn heq
   injection heq with heq
   subst heq
   cases hes : entsOf es with
   | none => simp [hes] at hf
   | some l =>
   obtain rfl := entsOf_inv hes
   simp only [hes, Option.bind_some] at hf
   rw [Option.ite_none_right_eq_some] at hf
   obtain ⟨⟨rfl, p1, p2, p3, p4, p5, p6⟩, hf⟩ := hf
   injection hf with hf
   subst hf
   obtain ⟨m2, em, rfl⟩ := (q6 11 3 _ v11 rfl rfl rfl).int_inv u3
   injection em with em
   subst em
   obtain ⟨s2, es2, rfl⟩ := (q6 16 9 _ v16 rfl rfl rfl).str_inv u9
   injection es2 with es2
   subst es2
   have hdl : (MemD.dataF b l m).length = min (m - b).toNat l.length := by simp [MemD.dataF]
   refine (Spl.comm_in ad ms.length c dv wv n w hn hc2 v0 v1 v2 v3 v4 v5 v6 v7 v8 v9 v10 v12 v13 v14 v15 m ?_ ?_ (MemD.dataF b l m) (by omega) ?_).mono ?_
   ·intro j u hu
    exact hcell.2 j u (by simpa [Value.cells] using hu)
   ·intro v hv
    refine hrel.cells_one v ?_
    simp only [Value.cells, List.mem_toArray]
    simp only [List.mem_cons, List.not_mem_nil, or_false] at hv ⊢
    rcases hv with h | h | h | h | h | h | h | h | h | h | h | h | h | h | h <;> simp [h]
   ·intro W hW
    refine data_calls (hrel.mono (O' := fun _ => False) (fun b _ h => h.elim) fun b hb _ => hW.block b hb) ?_
    exact MemD.data_eq _ _ _ _ _ _ _ _ _ _ _ _ _ _ b bt l m ⟨p1, p2, by simp only; omega⟩ p6 ⟨by omega, p4⟩
   ·rintro e w' ⟨v, rfl, hrow, hB⟩
    exact ⟨v, rfl, row_after u9 s9 u31 l31 s31 _ hrow hB⟩
end Go.CT
namespace Go.Proofs
open Go.Shelf
def Tryd.lays169_ren : Ren := ⟨fun x => match x with | 169 => 46 | n => n, fun x => match x with | 37 => 91 | 70 => 90 | 72 => 93 | 127 => 114 | n => n, fun n => n⟩
theorem Tryd.lays169 : Lays.n169 Tryd.prog Tryd.lays169_ren where
 mixed := by kernel_rfl
 f169 := by kernel_rfl
 t0 := by kernel_rfl
 a0 := Tryd.isAgg0
 z0 := Tryd.sizeOf0
 v0 := Tryd.zeroValue0
 t3 := by kernel_rfl
 a3 := Tryd.isAgg3
 z3 := Tryd.sizeOf3
 v3 := Tryd.zeroValue3
 t9 := by kernel_rfl
 a9 := Tryd.isAgg9
 z9 := Tryd.sizeOf9
 v9 := Tryd.zeroValue9
 t37 := by kernel_rfl
 a37 := Tryd.isAgg91
 z37 := Tryd.sizeOf91
 v37 := Tryd.zeroValue91
 t70 := by kernel_rfl
 a70 := Tryd.isAgg90
 z70 := Tryd.sizeOf90
 v70 := Tryd.zeroValue90
 t72 := by kernel_rfl
 a72 := Tryd.isAgg93
 z72 := Tryd.sizeOf93
 v72 := Tryd.zeroValue93
 t127 := by kernel_rfl
 a127 := Tryd.isAgg114
 z127 := Tryd.sizeOf114
 v127 := Tryd.zeroValue114
theorem Tryd.extra : Builder.Extra Tryd.prog Tryd.lays169_ren where
 sizeBuilder := by kernel_rfl
 liesBuilder := by kernel_rfl
 t5 := Tryd.underlying5
 a5 := Tryd.isAgg5
 z5 := Tryd.sizeOf5
 v5 := Tryd.zeroValue5
 infoByte := by kernel_rfl
 cellsByte := by kernel_rfl
 sizeByte := by kernel_rfl
 neB5 := by decide
end Go.Proofs
namespace Go.CT.Memb
open Go.Proofs Go.Shelf
def chkRen : Ren := ⟨fun x => match x with | 240 => 65 | 276 => 84 | n => n, fun x => match x with | 4 => 4 | 9 => 9 | 20 => 20 | 70 => 90 | 72 => 93 | 37 => 91 | 164 => 127 | n => n, fun n => n⟩
theorem chkLays : Lays.n240 Tryd.prog chkRen where
 mixed := by kernel_rfl
 f240 := by kernel_rfl
 f276 := by kernel_rfl
 t0 := by kernel_rfl
 a0 := Tryd.isAgg0
 z0 := Tryd.sizeOf0
 v0 := Tryd.zeroValue0
 t4 := by kernel_rfl
 a4 := Tryd.isAgg4
 z4 := Tryd.sizeOf4
 v4 := Tryd.zeroValue4
 t9 := by kernel_rfl
 a9 := Tryd.isAgg9
 z9 := Tryd.sizeOf9
 v9 := Tryd.zeroValue9
 t20 := by kernel_rfl
 a20 := Tryd.isAgg20
 z20 := Tryd.sizeOf20
 v20 := Tryd.zeroValue20
 t70 := by kernel_rfl
 a70 := Tryd.isAgg90
 z70 := Tryd.sizeOf90
 v70 := Tryd.zeroValue90
 t72 := by kernel_rfl
 a72 := Tryd.isAgg93
 z72 := Tryd.sizeOf93
 v72 := Tryd.zeroValue93
 t164 := by kernel_rfl
 a164 := Tryd.isAgg127
 z164 := Tryd.sizeOf127
 v164 := Tryd.zeroValue127
theorem chkExtra : Builder.X72 Tryd.prog chkRen where
 sizeBuilder := by kernel_rfl
 liesBuilder := by kernel_rfl
end Go.CT.Memb
