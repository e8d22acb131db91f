import Derived.Test.YtfhkcifopfheaaaGreatDoorCtC
import Derived.Shelf.Strings.Builder1
import Derived.Shelf.Strconv.Itoa3
import Derived.WalkKit
import Derived.ProofKit
import Derived.Test.YtfhkcifopfheaaaGreatDoorRows
set_option linter.unusedVariables false
set_option linter.unusedSimpArgs false
namespace Go.CT
open Go.Proofs Go.Shelf Go.RowKit
section
variable {P : Program} {ρ : Ren} {al : Bool}
theorem none_ok {s : Spec} : PrimOk P O.noneF s := by
 intro w X xs args L rs hr hn hX hlt hf
 simp [O.noneF] at hf
theorem itoaB_eq (i : Nat) (h : i < 100) : (⟨(Lib.decDigits i).toArray⟩ : ByteArray) = O.itoaB i := by
 unfold O.itoaB
 by_cases h1 : i < 10
 ·rw [if_pos h1, Lib.decDigits, dif_pos h1]
 ·rw [if_neg h1, Lib.decDigits, dif_neg h1, Lib.decDigits, dif_pos (by omega)]; rfl
theorem itoa_ok (L : Lays.n171 P ρ) {f ti ts : Nat} (hf : f = ρ.f 171) (hti : ti = ρ.t 3) (hts : ts = ρ.t 9) : PrimOk P O.itoaF ⟨f, [.data ti], [.whole ts], al⟩ := by
 intro w X xs args Ls rs hr hn hX hlt hf'
 subst hf hti hts
 match args, hr with
 | [u], hr =>
  obtain ⟨ys, zs, L1, L2, e1, e2, ⟨x, e3, e4, hx1⟩, ⟨e5, e6⟩⟩ := hr
  subst e3 e4 e5 e6 e1 e2
  obtain ⟨n, rfl, rfl⟩ := hx1.int_inv L.t3
  simp only [List.cons_append, List.nil_append, O.itoaF] at hf'
  rw [Option.ite_none_right_eq_some] at hf'
  obtain ⟨⟨h0, h1⟩, hf'⟩ := hf'
  injection hf' with hf'; subst hf'
  obtain ⟨i, rfl⟩ := Int.eq_ofNat_of_zero_le h0
  have hi : i < 100 := by omega
  refine .inl ⟨_, L.f171, by kernel_rfl, by kernel_rfl, ?_⟩
  refine (Any.strconv_Itoa_small L i hi w).mono fun e w' hew => ?_
  obtain ⟨rfl, rfl⟩ := hew
  refine ⟨_, rfl, WStep.refl _ _, [.string ⟨(Lib.decDigits i).toArray⟩], [.str (O.itoaB i)], [], [], [], rfl, rfl, by simp, by simp, ?_, by simp [BackRel, PS.isBack]⟩
  refine ⟨[_], [], [], [], rfl, rfl, ⟨_, rfl, rfl, ?_⟩, rfl, rfl⟩
  rw [itoaB_eq i hi]
  exact .str L.t9
theorem RowOwn.step {w w' : World} {O O' : Nat → Prop} {e : TypeId} {xs : List IV} {v : Value} (h : RowOwn P w O e xs v) (hO : ∀ b, b < w.heap.size → O' b → O b) (hs : Stays O w w') (hv : ∀ b, blk v = some b → w'.heap[b]? = w.heap[b]?) : RowOwn P w' O' e xs v := by
 obtain ⟨h1, cs, ⟨g1, g2⟩, h3, h4⟩ := h
 refine ⟨h1, cs, ⟨g1, ?_⟩, fun j x hx => ?_, h4⟩
 ·rcases g2 with g2 | ⟨g, cap, cur, rfl, e2, e3, e4⟩
  ·exact .inl g2
  ·exact .inr ⟨g, cap, cur, rfl, e2, by rw [hv g rfl]; exact e3, e4⟩
 ·obtain ⟨v, q1, q2⟩ := h3 j x hx
  exact ⟨v, q1.mono hO hs, q2⟩
theorem copyCheck_ok (L : Lays.n240 P ρ) (X : Builder.X72 P ρ) {f t : Nat} (hf : f = ρ.f 240) (ht : t = ρ.t 72) : PrimOk P O.copyCheckF ⟨f, [.bld t true], [], al⟩ := by
 intro w X0 xs args Ls rs hr hn hX hlt hf'
 subst hf ht
 match args, hr with
 | [u], hr =>
  obtain ⟨_, _, _, _, rfl, rfl, ⟨b, c0, c1, ys, st, e, rfl, hb, hc, hbt, rfl, hrow, rfl⟩, rfl, rfl⟩ := hr
  simp only [List.append_nil, O.copyCheckF, Option.some.injEq] at hf' hn hX hrow ⊢
  subst hf'
  rw [List.nodup_cons] at hn
  have fin : ∀ (w' : World), WStep (· = b) w w' → w'.heap[b]? = some (.cells #[.pointer (some ⟨b, 0, none⟩), c1] (ρ.t 72) (0, 0)) →
    After P X0 ⟨ρ.f 240, [.bld (ρ.t 72) true], [], al⟩ [.pointer (some ⟨b, 0, none⟩)] (b :: (blk c1).toList) [.list ys] w (.tuple #[]) w' := by
   intro w' hs hb'
   have hs' : WStep (· ∈ b :: (blk c1).toList) w w' := ⟨hs.os, hs.tape, hs.output, hs.size, fun k hk hkn => hs.stays k hk fun h => hkn (by have h : k = b := h; subst h; exact List.mem_cons_self)⟩
   refine ⟨hs', [], [], [.list ys], [], b :: (blk c1).toList, rfl, rfl, by rw [List.nil_append, List.nodup_cons]; exact hn, fun b' hb' => .inl (by simpa using hb'), ⟨rfl, rfl⟩, ?_⟩
   simp only [BackRel, PS.isBack, if_true]
   refine ⟨[.list ys], [], b :: (blk c1).toList, [], rfl, by simp, ⟨b, _, c1, ys, st, e, rfl, hb', .inr rfl, hbt, rfl, ?_, rfl⟩, rfl, rfl⟩
   refine hrow.step (fun b' _ h => by simpa using h) (fun k hk hko => hs.stays k hk fun h => hko (.inr (by have h : k = b := h; subst h; exact List.mem_cons_self))) (fun g hg => ?_)
   refine hs.stays g ?_ fun h => ?_
   ·obtain ⟨_, cs, ⟨_, g2⟩, _⟩ := hrow
    rcases g2 with ⟨rfl, _⟩ | ⟨g', cap, cur, rfl, _, e3, _⟩
    ·cases hg
    ·simp [blk] at hg; subst hg
     exact (Array.getElem?_eq_some_iff.1 e3).1
   ·have h : g = b := h
    subst h
    exact hn.1 (by simp [hg])
  refine .inl ⟨_, L.f240, by kernel_rfl, by kernel_rfl, ?_⟩
  rcases hc with rfl | rfl
  ·refine (Any.Builder_copyCheck_fresh L X b w (by simp [World.cell?, hb]) (by simp [World.shape?, hb]) (by simp [World.frozen?, hb])).mono fun e w' hew => ?_
   obtain ⟨rfl, rfl⟩ := hew
   refine ⟨_, rfl, fin _ ⟨rfl, rfl, rfl, by rw [World.size_setCell]; exact Nat.le_refl _, fun k hk hkb => ?_⟩ ?_⟩
   ·have hkb : ¬ k = b := hkb
    simp [World.setCell, Array.getElem?_modify]
    intro e; exact absurd e.symm hkb
   ·simp [World.setCell, Array.getElem?_modify, hb]
  ·refine (Any.Builder_copyCheck_used L X b w (by simp [World.cell?, hb])).mono fun e w' hew => ?_
   obtain ⟨rfl, rfl⟩ := hew
   exact ⟨_, rfl, fin _ (.refl _ _) hb⟩
theorem bytes_of {w : World} {O : Nat → Prop} {e : TypeId} (he : P.underlying e = some (.int .u8)) (hs : sizeT P e = 1) : ∀ (ys : List IV) (cs : List Value) (l : List UInt8), cs.length = ys.length → Elems P w O e ys cs → ys.mapM ivByte = some l → cs = Lib.byteCells l ∧ ys.length = l.length
 | [], [], l, _, _, h => by simp at h; subst h; exact ⟨rfl, rfl⟩
 | [], _ :: _, _, h, _, _ => by simp at h
 | _ :: _, [], _, h, _, _ => by simp at h
 | y :: ys, c :: cs, l, h, hE, hm => by
  obtain ⟨v, h1, h2, h3⟩ := hE 0 y rfl
  obtain ⟨n, rfl, rfl⟩ := h1.int_inv he
  rw [List.mapM_cons] at hm
  simp only [Option.pure_def, Option.bind_eq_bind] at hm
  cases hb : ivByte (.int n) with
  | none => simp [hb] at hm
  | some u =>
   cases hr : ys.mapM ivByte with
   | none => simp [hb, hr] at hm
   | some l' =>
    simp [hb, hr] at hm; subst hm
    obtain ⟨q1, q2⟩ := bytes_of he hs ys cs l' (by simpa using h) (fun j x hx => by
     obtain ⟨v, g1, g2, g3⟩ := hE (j + 1) x hx
     refine ⟨v, g1, ?_, g3⟩
     rw [g2, hs]
     simp) hr
    rw [hs] at h2
    simp at h2
    have e1 : (Value.int IntKind.u8 n).cells.toList = [Value.int .u8 n] := rfl
    rw [e1] at h2
    have hc : c = .int .u8 n := by simpa using h2.symm
    have hu : (u.toNat : Int) = n := by
     simp only [ivByte] at hb
     rw [Option.ite_none_right_eq_some] at hb
     obtain ⟨⟨b1, b2⟩, hb⟩ := hb
     injection hb with hb
     subst hb
     have : n.toNat.toUInt8.toNat = n.toNat := by
      simp only [Nat.toUInt8, UInt8.toNat_ofNat']
      omega
     rw [this]; omega
    refine ⟨?_, by simp [q2]⟩
    rw [hc, q1, ← hu]; rfl
set_option maxHeartbeats 2000000 in
set_option maxRecDepth 100000 in
theorem string_walk (L : Lays.n169 P ρ) (X : Builder.Extra P ρ) (b g cap : Nat) (p : Value) (cur : Array Value) (l : List UInt8) (w : World) (hbk : w.heap[b]? = some (.cells #[p, .slice (some ⟨g, 0, none⟩) l.length cap] (ρ.t 72) (0, 0)))
  (hg : w.heap[g]? = some (.cells cur (ρ.t 5) (0, 0))) (h0 : l ≠ []) (hnc : l.length ≤ cap) (hcm : cap ≤ maxLen) (hcs : cur.size = cap) (hcell : ∀ (j : Nat) (x : UInt8), l[j]? = some x → w.cell? ((⟨g, 0, none⟩ : Addr).add j) = some (.int .u8 x.toNat)) :
  Calls P (ρ.f 169) #[.pointer (some ⟨b, 0, none⟩)] w fun e w' => e = .returned (.string ⟨l.toArray⟩) ∧ w' = w.drew.freeze ⟨g, 0, none⟩ l.length := by
 have hl0 : l.length ≠ 0 := by simpa using h0
 have c1 : w.drew.cell? ⟨b, 1, none⟩ = some (.slice (some ⟨g, 0, none⟩) l.length cap) := by
  have : w.drew.heap[b]? = some (.cells #[p, .slice (some ⟨g, 0, none⟩) l.length cap] (ρ.t 72) (0, 0)) := hbk
  rw [Lib.cell_of_heap this]; rfl
 have hSD : (Builtin.unsafeSliceData_ #[(ρ.t 37)] (ρ.t 127) #[.slice (some ⟨g, 0, none⟩) l.length cap]).run P w.drew = .ok (.pointer (some ⟨g, 0, none⟩)) w.drew :=
  Lib.run_unsafeSliceData_row _ _ _ _ _ _ (by omega)
 have hUS : (Builtin.unsafeString_ #[(ρ.t 127), (ρ.t 3)] (ρ.t 9) #[.pointer (some ⟨g, 0, none⟩), .int .i64 l.length]).run P w.drew = .ok (.string ⟨l.toArray⟩) (w.drew.freeze ⟨g, 0, none⟩ l.length) :=
  Lib.run_unsafeString_row w.drew (ρ.t 127) (ρ.t 3) (ρ.t 9) (ρ.t 5) L.t127 X.cellsByte g cur.size (by have hg' : w.drew.heap[g]? = some (.cells cur (ρ.t 5) (0, 0)) := hg; simp [World.shape?, hg']) l h0 (by omega) (by unfold maxLen at hcm; omega) hcell
 clear hcell hcs hcm hnc
 have mixed := L.mixed
 have t72 := L.t72; have a72 := L.a72; have z72 := L.z72; have v72 := L.v72; have u72 := run_underlying L.t72
 have t70 := L.t70; have a70 := L.a70; have z70 := L.z70; have v70 := L.v70; have u70 := run_underlying L.t70
 have t37 := L.t37; have a37 := L.a37; have z37 := L.z37; have v37 := L.v37; have u37 := run_underlying L.t37
 have t127 := L.t127; have a127 := L.a127; have z127 := L.z127; have v127 := L.v127; have u127 := run_underlying L.t127
 have t3 := L.t3; have a3 := L.a3; have z3 := L.z3; have v3 := L.v3; have u3 := run_underlying L.t3
 have t9 := L.t9; have a9 := L.a9; have z9 := L.z9; have v9 := L.v9; have u9 := run_underlying L.t9
 have t5 := X.t5; have a5 := X.a5; have z5 := X.z5; have v5 := X.v5; have u5 := run_underlying X.t5
 go_enter L.f169, Body.n169_ntmps ρ
 go_wp2
 go_region_o
 all_goals (go_wp2; go_ret; exact ⟨rfl, rfl⟩)
theorem string_ok (L : Lays.n169 P ρ) (X : Builder.Extra P ρ) {f t ts : Nat} (hf : f = ρ.f 169) (ht : t = ρ.t 72) (hts : ts = ρ.t 9) (hb0 : bldT P (ρ.t 72) = some (ρ.t 37, ρ.t 5)) : PrimOk P O.stringF ⟨f, [.bld t false], [.whole ts], al⟩ := by
 intro w X0 xs args Ls rs hr hn hX hlt hf'
 subst hf ht hts
 match args, hr with
 | [u], hr =>
  obtain ⟨_, _, _, _, rfl, rfl, ⟨b, c0, c1, ys, st, e, rfl, hb, hc, hbt, rfl, hrow, rfl⟩, rfl, rfl⟩ := hr
  rw [hb0] at hbt; injection hbt with hbt; injection hbt with i1 i2; subst i1; subst i2
  simp only [List.append_nil] at hf' hn hX hrow ⊢
  simp only [O.stringF] at hf'
  rw [Option.map_eq_some_iff] at hf'
  obtain ⟨l, hl, hf'⟩ := hf'
  subst hf'
  obtain ⟨h1, cs, hown, h3, h4⟩ := hrow
  obtain ⟨f1, f2, f3, f4, f5⟩ := bldT_ok hb0
  have hlen : cs.length = ys.length := by have := hown.1; rw [f5] at this; omega
  obtain ⟨rfl, hyl⟩ := bytes_of (intK_eq f1) f5 ys cs l hlen h3 hl
  rw [f5, hyl] at hown
  have fin : ∀ (w' : World) (s : ByteArray), s = ⟨l.toArray⟩ → WStep (· ∈ b :: (blk c1).toList) w w' →
    After P X0 ⟨ρ.f 169, [.bld (ρ.t 72) false], [.whole (ρ.t 9)], al⟩ [.pointer (some ⟨b, 0, none⟩)] (b :: (blk c1).toList) [.str ⟨l.toArray⟩] w (.string s) w' := by
   intro w' s hs hw
   subst hs
   refine ⟨hw, [.string ⟨l.toArray⟩], [.str ⟨l.toArray⟩], [], [], [], rfl, rfl, by simp, by simp, ?_, by simp [BackRel, PS.isBack]⟩
   exact ⟨[_], [], [], [], rfl, rfl, ⟨_, rfl, rfl, .str L.t9⟩, rfl, rfl⟩
  have below : ∀ {w' : World}, Below w.heap.size w w' → WStep (· ∈ b :: (blk c1).toList) w w' := fun h => ⟨h.os, h.tape, h.output, h.size, fun k hk _ => h.block k hk⟩
  refine .inl ⟨_, L.f169, by kernel_rfl, by kernel_rfl, ?_⟩
  obtain ⟨_, hown2⟩ := hown
  rcases hown2 with ⟨rfl, hn0⟩ | ⟨g, cap, cur, rfl, _, hg, hnc, hcm, hcs, htake⟩
  ·have hl0 : l = [] := List.length_eq_zero_iff.1 hn0
   subst hl0
   refine (Any.Builder_String_nil L X w.heap.size b c0 w hb).mono fun e w' hew => ?_
   obtain ⟨rfl, hw⟩ := hew
   exact ⟨_, rfl, fin w' _ rfl (below hw)⟩
  ·by_cases hl0 : l = []
   ·subst hl0
    by_cases hc0 : cap = 0
    ·subst hc0
     refine (Any.Builder_String_noroom L X w.heap.size b g c0 cur w (Nat.le_refl _) hb hg).mono fun e w' hew => ?_
     obtain ⟨rfl, hw⟩ := hew
     exact ⟨_, rfl, fin w' _ rfl (below hw)⟩
    ·refine (Any.Builder_String_room L X w.heap.size b g cap c0 w hc0 hb).mono fun e w' hew => ?_
     obtain ⟨rfl, hw⟩ := hew
     exact ⟨_, rfl, fin w' _ rfl (below hw)⟩
   ·have hcell : ∀ (j : Nat) (x : UInt8), l[j]? = some x → w.cell? ((⟨g, 0, none⟩ : Addr).add j) = some (.int .u8 x.toNat) := by
     intro j x hx
     rw [addr_of]
     simp only [World.cell?, hg]
     have hj := (List.getElem?_eq_some_iff.1 hx).1
     have := congrArg (fun q => q[j]?) htake
     simp only [Nat.mul_one, List.getElem?_take, hj, if_true, Lib.byteCells, List.getElem?_map, hx, Option.map_some] at this
     simpa using this
    refine (string_walk L X b g cap c0 cur l w hb hg hl0 hnc hcm (by omega) hcell).mono fun e w' hew => ?_
    obtain ⟨rfl, rfl⟩ := hew
    refine ⟨_, rfl, fin _ _ rfl ?_⟩
    unfold World.freeze
    split
    ·exact ⟨rfl, rfl, rfl, Nat.le_refl _, fun _ _ _ => rfl⟩
    ·refine ⟨rfl, rfl, rfl, by show w.heap.size ≤ (w.drew.heap.modify _ _).size; rw [Array.size_modify]; exact Nat.le_refl _, fun k hk hkn => ?_⟩
     have hkg : k ≠ g := fun e => hkn (by subst e; simp [blk])
     simp only [Array.getElem?_modify]
     rw [if_neg (fun e => hkg e.symm)]
     rfl
theorem clip_ok {f t e : TypeId} {fn : Func} (hfn : P.funcs[f]? = some fn) (hn : (fn.name == "runtime.NumGoroutine") = false) (hb : fn.body.isNone = false) (ht : P.underlying t = some (.slice e))
  (hw : ∀ (A : Option Addr) (n cap : Nat) (w : World), n ≤ cap → cap ≤ maxLen → Calls P f #[.slice A n cap] w fun e w' => e = .returned (.slice A n n) ∧ w' = w) : PrimOk P O.clipF ⟨f, [.own t], [.clip t], al⟩ := by
 intro w X xs args Ls rs hr hnd hX hlt hf'
 match args, hr with
 | [u], hr =>
  obtain ⟨_, _, _, _, rfl, rfl, ⟨e', ys, rfl, rfl, h1, hrow⟩, rfl, rfl⟩ := hr
  rw [ht] at h1; injection h1 with h1; injection h1 with h1; subst h1
  simp only [List.append_nil, O.clipF, Option.some.injEq] at hf' hrow hnd hX ⊢
  subst hf'
  have hX' : ∀ b, blk u = some b → ¬ X b := fun b hb => hX b (by simp [hb])
  have hrel := hrow.rel (O' := fun b => X b ∨ b ∈ ([] ++ [] : List Nat)) ht (fun b _ h => by
   rcases h with h | h
   ·exact .inl h
   ·cases h) (fun b hb h => by
   rcases h with h | h
   ·exact hX' b hb h
   ·cases h)
  obtain ⟨xs', A, cap, hx, rfl, hr2⟩ := hrel.list_inv ht
  injection hx with hx; subst hx
  have hcap : ys.length ≤ cap ∧ cap ≤ maxLen := by
   obtain ⟨_, cs, ⟨_, g2⟩, _⟩ := hrow
   rcases g2 with ⟨h, h0⟩ | ⟨g, cap', cur, h, _, _, h2, h3, _⟩
   ·injection h with i1 i2 i3
    subst i3; exact ⟨by omega, by unfold maxLen; omega⟩
   ·injection h with i1 i2 i3
    subst i3; exact ⟨h2, h3⟩
  refine .inl ⟨fn, hfn, hn, hb, ?_⟩
  refine (hw A ys.length cap w hcap.1 hcap.2).mono fun e w' hew => ?_
  obtain ⟨rfl, rfl⟩ := hew
  refine ⟨_, rfl, WStep.refl _ _, [.slice A ys.length ys.length], [.list ys], [], [], [], rfl, rfl, by simp, by simp, ?_, by simp [BackRel, PS.isBack]⟩
  refine ⟨[.list ys], [], [], [], rfl, rfl, ⟨_, rfl, rfl, ?_, A, ys.length, rfl⟩, rfl, rfl⟩
  obtain ⟨q1, q2, vs, q3, q4⟩ := hr2
  exact .list vs ht (Nat.le_refl _) q2 q3 q4
end
end Go.CT
namespace Go.Proofs
open Go.Shelf
def Tryz.lays171_ren : Ren := ⟨fun x => match x with | 171 => 209 | 243 => 234 | 246 => 244 | 283 => 258 | 284 => 259 | 285 => 260 | 286 => 261 | 129 => 256 | 317 => 269 | 318 => 270 | 319 => 271 | 320 => 272 | 337 => 274 | 338 => 275 | n => n, fun x => match x with | 3 => 3 | 9 => 9 | 2 => 2 | 4 => 4 | 171 => 221 | 0 => 0 | 53 => 220 | 37 => 174 | 5 => 5 | 173 => 223 | 212 => 233 | 51 => 218 | 20 => 20 | 213 => 234 | 46 => 196 | 232 => 238 | 233 => 239 | n => n, fun x => match x with | 17 => 1 | 18 => 2 | 19 => 3 | n => n⟩
theorem Tryz.lays171 : Lays.n171 Tryz.prog Tryz.lays171_ren where
 mixed := by kernel_rfl
 f171 := by kernel_rfl
 f243 := by kernel_rfl
 f246 := by kernel_rfl
 f283 := by kernel_rfl
 f284 := by kernel_rfl
 f285 := by kernel_rfl
 f286 := by kernel_rfl
 f129 := by kernel_rfl
 f317 := by kernel_rfl
 f318 := by kernel_rfl
 f319 := by kernel_rfl
 f320 := by kernel_rfl
 f337 := by kernel_rfl
 f338 := by kernel_rfl
 t3 := by kernel_rfl
 a3 := Tryz.isAgg3
 z3 := Tryz.sizeOf3
 v3 := Tryz.zeroValue3
 t9 := by kernel_rfl
 a9 := Tryz.isAgg9
 z9 := Tryz.sizeOf9
 v9 := Tryz.zeroValue9
 t2 := by kernel_rfl
 a2 := Tryz.isAgg2
 z2 := Tryz.sizeOf2
 v2 := Tryz.zeroValue2
 t4 := by kernel_rfl
 a4 := Tryz.isAgg4
 z4 := Tryz.sizeOf4
 v4 := Tryz.zeroValue4
 t171 := by kernel_rfl
 a171 := Tryz.isAgg221
 z171 := Tryz.sizeOf221
 v171 := Tryz.zeroValue221
 t0 := by kernel_rfl
 a0 := Tryz.isAgg0
 z0 := Tryz.sizeOf0
 v0 := Tryz.zeroValue0
 t53 := by kernel_rfl
 a53 := Tryz.isAgg220
 z53 := Tryz.sizeOf220
 v53 := Tryz.zeroValue220
 t37 := by kernel_rfl
 a37 := Tryz.isAgg174
 z37 := Tryz.sizeOf174
 v37 := Tryz.zeroValue174
 t5 := by kernel_rfl
 a5 := Tryz.isAgg5
 z5 := Tryz.sizeOf5
 v5 := Tryz.zeroValue5
 t173 := by kernel_rfl
 a173 := Tryz.isAgg223
 z173 := Tryz.sizeOf223
 v173 := Tryz.zeroValue223
 t212 := by kernel_rfl
 a212 := Tryz.isAgg233
 z212 := Tryz.sizeOf233
 v212 := Tryz.zeroValue233
 t51 := by kernel_rfl
 a51 := Tryz.isAgg218
 z51 := Tryz.sizeOf218
 v51 := Tryz.zeroValue218
 t20 := by kernel_rfl
 a20 := Tryz.isAgg20
 z20 := Tryz.sizeOf20
 v20 := Tryz.zeroValue20
 t213 := by kernel_rfl
 a213 := Tryz.isAgg234
 z213 := Tryz.sizeOf234
 t46 := by kernel_rfl
 a46 := Tryz.isAgg196
 z46 := Tryz.sizeOf196
 v46 := Tryz.zeroValue196
 t232 := by kernel_rfl
 a232 := Tryz.isAgg238
 z232 := Tryz.sizeOf238
 v232 := Tryz.zeroValue238
 t233 := by kernel_rfl
 a233 := Tryz.isAgg239
 z233 := Tryz.sizeOf239
 v233 := Tryz.zeroValue239
 g17 := by kernel_rfl
 g18 := by kernel_rfl
 g19 := by kernel_rfl
def Tryz.lays169_ren : Ren := ⟨fun x => match x with | 169 => 211 | n => n, fun x => match x with | 70 => 173 | 9 => 9 | 0 => 0 | 72 => 176 | 37 => 174 | 127 => 198 | 3 => 3 | 5 => 5 | n => n, fun n => n⟩
theorem Tryz.lays169 : Lays.n169 Tryz.prog Tryz.lays169_ren where
 mixed := by kernel_rfl
 f169 := by kernel_rfl
 t70 := by kernel_rfl
 a70 := Tryz.isAgg173
 z70 := Tryz.sizeOf173
 v70 := Tryz.zeroValue173
 t9 := by kernel_rfl
 a9 := Tryz.isAgg9
 z9 := Tryz.sizeOf9
 v9 := Tryz.zeroValue9
 t0 := by kernel_rfl
 a0 := Tryz.isAgg0
 z0 := Tryz.sizeOf0
 v0 := Tryz.zeroValue0
 t72 := by kernel_rfl
 a72 := Tryz.isAgg176
 z72 := Tryz.sizeOf176
 v72 := Tryz.zeroValue176
 t37 := by kernel_rfl
 a37 := Tryz.isAgg174
 z37 := Tryz.sizeOf174
 v37 := Tryz.zeroValue174
 t127 := by kernel_rfl
 a127 := Tryz.isAgg198
 z127 := Tryz.sizeOf198
 v127 := Tryz.zeroValue198
 t3 := by kernel_rfl
 a3 := Tryz.isAgg3
 z3 := Tryz.sizeOf3
 v3 := Tryz.zeroValue3
theorem Tryz.extra : Builder.Extra Tryz.prog Tryz.lays169_ren where
 sizeBuilder := by kernel_rfl
 liesBuilder := by kernel_rfl
 t5 := Tryz.underlying5
 a5 := Tryz.isAgg5
 z5 := Tryz.sizeOf5
 v5 := Tryz.zeroValue5
 infoByte := by kernel_rfl
 cellsByte := by kernel_rfl
 sizeByte := by kernel_rfl
 neB5 := by decide
end Go.Proofs
namespace Go.CT.Sch
open Go.Proofs Go.Shelf
def chkRen : Ren := ⟨fun x => match x with | 240 => 233 | 276 => 243 | n => n, fun x => match x with | 4 => 4 | 9 => 9 | 20 => 20 | 70 => 173 | 72 => 176 | 37 => 174 | 164 => 204 | n => n, fun n => n⟩
theorem chkLays : Lays.n240 Tryz.prog chkRen where
 mixed := by kernel_rfl
 f240 := by kernel_rfl
 f276 := by kernel_rfl
 t0 := by kernel_rfl
 a0 := Tryz.isAgg0
 z0 := Tryz.sizeOf0
 v0 := Tryz.zeroValue0
 t4 := by kernel_rfl
 a4 := Tryz.isAgg4
 z4 := Tryz.sizeOf4
 v4 := Tryz.zeroValue4
 t9 := by kernel_rfl
 a9 := Tryz.isAgg9
 z9 := Tryz.sizeOf9
 v9 := Tryz.zeroValue9
 t20 := by kernel_rfl
 a20 := Tryz.isAgg20
 z20 := Tryz.sizeOf20
 v20 := Tryz.zeroValue20
 t70 := by kernel_rfl
 a70 := Tryz.isAgg173
 z70 := Tryz.sizeOf173
 v70 := Tryz.zeroValue173
 t72 := by kernel_rfl
 a72 := Tryz.isAgg176
 z72 := Tryz.sizeOf176
 v72 := Tryz.zeroValue176
 t164 := by kernel_rfl
 a164 := Tryz.isAgg204
 z164 := Tryz.sizeOf204
 v164 := Tryz.zeroValue204
theorem chkExtra : Builder.X72 Tryz.prog chkRen where
 sizeBuilder := by kernel_rfl
 liesBuilder := by kernel_rfl
theorem clip_walk194 (A : Option Addr) (n cap : Nat) (w : World) (h : n ≤ cap) (hn : cap ≤ maxLen) :
  Calls Tryz.prog 194 #[.slice A n cap] w fun e w' => e = .returned (.slice A n n) ∧ w' = w := by
 go_enter Tryz.func194, Tryz.ntmps194
 go_wp2
 go_ret
 exact ⟨rfl, rfl⟩
end Go.CT.Sch
