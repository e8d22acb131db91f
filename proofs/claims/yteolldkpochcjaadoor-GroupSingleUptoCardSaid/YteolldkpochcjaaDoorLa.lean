import Derived.Test.YteolldkpochcjaaDoorCtD
import Derived.Shelf.Spec.SlicesInsert
import Derived.Shelf.Spec.SlicesInsertGrow
import Derived.Lib.Bytealg
import Derived.Shelf.Lay
import Derived.Shelf.Strings.Search3
import Derived.WalkKit
import Derived.ProofKit
import Derived.Test.YteolldkpochcjaaDoorRows
import Derived.RangeFuncNested
import Derived.RangeFuncBound
import Derived.RangeFuncCalls
import Derived.RangeFuncLeaves
import Derived.RangeFuncBox
import Derived.Maps.AppendAt
import Derived.Shelf.Abstract
import Derived.Shelf.RegionOpen
import Derived.OwnWalkIn
import Derived.TacticsInMore
import Derived.LoopNIn
import Derived.LoopIn
import Derived.Below
import Derived.Shelf.Strings.Builder1
import Derived.Shelf.Strconv.Itoa3
set_option linter.unusedVariables false
set_option linter.unusedSimpArgs false
namespace Go.CT
open Go.Proofs Go.Shelf Go.RowKit Go.Lib
def O.insertF : List IV → Option (List IV)
 | [.list xs, .int i, .list [y]] => if 0 ≤ i ∧ i ≤ xs.length ∧ xs.length ≤ 1073741824 then some [.list (xs.take i.toNat ++ y :: xs.drop i.toNat)] else none
 | _ => none
theorem setCells_heap (b : Nat) (e : TypeId) : ∀ (vs : List Value) (o : Nat) (w : World) (cur : Array Value), w.heap[b]? = some (.cells cur e (0, 0)) →
  ∃ cur' : Array Value, (w.setCells b o vs).heap[b]? = some (.cells cur' e (0, 0)) ∧ cur'.size = cur.size ∧ ∀ j, cur'[j]? = if o ≤ j ∧ j < o + vs.length ∧ j < cur.size then vs[j - o]? else cur[j]?
 | [], o, w, cur, h => ⟨cur, h, rfl, fun j => by rw [if_neg]; simp; omega⟩
 | v :: r, o, w, cur, h => by
  have h1 : (w.setCell ⟨b, o, none⟩ v).heap[b]? = some (.cells (cur.setIfInBounds o v) e (0, 0)) := by
   simp [World.setCell, Array.getElem?_modify, h]
  obtain ⟨cur', g1, g2, g3⟩ := setCells_heap b e r (o + 1) _ _ h1
  refine ⟨cur', g1, by simpa using g2, fun j => ?_⟩
  rw [g3 j]
  simp only [Array.size_setIfInBounds, List.length_cons]
  by_cases c : j = o
  ·subst c
   rw [if_neg (by omega)]
   by_cases d : j < cur.size
   ·rw [if_pos ⟨by omega, by omega, d⟩, Array.getElem?_setIfInBounds_self_of_lt d, Nat.sub_self]; rfl
   ·rw [if_neg (by omega), Array.getElem?_eq_none (by simpa using d), Array.getElem?_eq_none (by omega)]
  ·rw [Array.getElem?_setIfInBounds_ne (by omega)]
   by_cases d : o + 1 ≤ j ∧ j < o + 1 + r.length ∧ j < cur.size
   ·rw [if_pos d, if_pos ⟨by omega, by omega, d.2.2⟩]
    rw [show j - o = (j - (o + 1)) + 1 by omega]; rfl
   ·rw [if_neg d, if_neg (by omega)]
theorem setCells_other (b : Nat) : ∀ (vs : List Value) (o : Nat) (w : World) (k : Nat), k ≠ b → (w.setCells b o vs).heap[k]? = w.heap[k]?
 | [], _, _, _, _ => rfl
 | v :: r, o, w, k, h => by
  rw [World.setCells, setCells_other b r (o + 1) _ k h]
  simp [World.setCell, Array.getElem?_modify]
  intro e; exact absurd e.symm h
theorem setCells_same (b : Nat) : ∀ (vs : List Value) (o : Nat) (w : World), (w.setCells b o vs).os = w.os ∧ (w.setCells b o vs).tape = w.tape ∧ (w.setCells b o vs).output = w.output ∧ (w.setCells b o vs).heap.size = w.heap.size
 | [], _, _ => ⟨rfl, rfl, rfl, rfl⟩
 | v :: r, o, w => by
  rw [World.setCells]
  obtain ⟨h1, h2, h3, h4⟩ := setCells_same b r (o + 1) (w.setCell ⟨b, o, none⟩ v)
  exact ⟨h1.trans rfl, h2.trans rfl, h3.trans rfl, h4.trans (World.size_setCell ..)⟩
theorem ins_take {cs : List Value} {x : Value} {cur : Array Value} {i : Nat} (hi : i ≤ cs.length) (hs : cs.length + 1 ≤ cur.size) (h : ∀ j, j < cs.length + 1 → cur[j]? = if j < i then cs[j]? else if j = i then some x else cs[j - 1]?) :
  cur.toList.take (cs.length + 1) = cs.take i ++ x :: cs.drop i := by
 refine List.ext_getElem? fun j => ?_
 rw [List.getElem?_take]
 by_cases hj : j < cs.length + 1
 ·rw [if_pos hj, Array.getElem?_toList, h j hj, List.getElem?_append, List.length_take, Nat.min_eq_left hi]
  by_cases c : j < i
  ·rw [if_pos c, if_pos c, List.getElem?_take, if_pos c]
  ·rw [if_neg c, if_neg c]
   by_cases d : j = i
   ·subst d; simp
   ·rw [if_neg d, show j - i = (j - i - 1) + 1 by omega, List.getElem?_cons_succ, List.getElem?_drop]
    congr 1; omega
 ·rw [if_neg hj, List.getElem?_eq_none]
  simp; omega
section
variable {P : Program} {w : World} {O : Nat → Prop} {e : TypeId} {k : IntKind}
theorem ints_of (he : P.underlying e = some (.int k)) (hs : sizeT P e = 1) : ∀ (ys : List IV) (cs : List Value), cs.length = ys.length → Elems P w O e ys cs → ∃ ns : List Int, ys = ns.map IV.int ∧ cs = ns.map (Value.int k)
 | [], [], _, _ => ⟨[], rfl, rfl⟩
 | [], _ :: _, h, _ => by simp at h
 | _ :: _, [], h, _ => by simp at h
 | y :: ys, c :: cs, h, hE => by
  obtain ⟨v, h1, h2, h3⟩ := hE 0 y rfl
  obtain ⟨n, rfl, rfl⟩ := h1.int_inv he
  obtain ⟨ns, rfl, rfl⟩ := ints_of he hs ys cs (by simpa using h) fun j x hx => by
   obtain ⟨v, g1, g2, g3⟩ := hE (j + 1) x hx
   refine ⟨v, g1, ?_, g3⟩
   rw [g2, hs]
   simp
  rw [hs] at h2
  simp at h2
  have : Value.int k n = c := by
   have e1 : (Value.int k n).cells.toList = [Value.int k n] := rfl
   rw [e1] at h2
   simpa using h2
  exact ⟨n :: ns, rfl, by rw [← this]; rfl⟩
theorem elems_of (he : P.underlying e = some (.int k)) (hs : sizeT P e = 1) (ns : List Int) : Elems P w O e (ns.map IV.int) (ns.map (Value.int k)) := fun j x hx => by
 rw [List.getElem?_map, Option.map_eq_some_iff] at hx
 obtain ⟨n, hn, rfl⟩ := hx
 refine ⟨.int k n, .int he, ?_, by rw [hs]; rfl⟩
 have e1 : (Value.int k n).cells.toList = [Value.int k n] := rfl
 rw [e1, hs, Nat.mul_one]
 have hlt := (List.getElem?_eq_some_iff.1 hn).1
 rw [List.drop_eq_getElem_cons (by simpa using hlt)]
 simp [(List.getElem?_eq_some_iff.1 hn).2]
end
theorem insert_ok {P : Program} {ρ : Ren} (Ls : Lays2.n21 P ρ) {f : FuncId} {ts ti : TypeId} (hf : f = ρ.f 21) (hts : ts = ρ.t 22) (hti : ti = ρ.t 3) (hs1 : sizeT P ti = 1) (hl : leaves P ts = some [ts]) (hst : sizeT P ts = 1) {al : Bool} :
  PrimOk P O.insertF ⟨f, [.own ts, .data ti, .own ts], [.cells ts [true]], al⟩ := by
 intro w X xs args L rs hr hn hX hlt hf'
 subst hf hts hti
 have hi64 : P.underlying (ρ.t 3) = some (.int .i64) := Ls.t3
 have ht22 : P.underlying (ρ.t 22) = some (.slice (ρ.t 3)) := Ls.t22
 match args, hr with
 | [s, iv, v], hr =>
 obtain ⟨_, _, L1, _, rfl, rfl, ⟨e1, ys, rfl, rfl, h1, hs0, cs, hown, hE, hone⟩, _, _, _, _, rfl, rfl, ⟨ix, rfl, rfl, hix⟩, _, _, L3, _, rfl, rfl, ⟨e3, zs, rfl, rfl, h3, hz0, ds, hown3, hE3, hone3⟩, rfl, rfl⟩ := hr
 rw [ht22] at h1; injection h1 with h1; injection h1 with h1; subst h1
 rw [ht22] at h3; injection h3 with h3; injection h3 with h3; subst h3
 obtain ⟨i, rfl, rfl⟩ := hix.int_inv hi64
 rw [hs1] at hown hown3
 obtain ⟨ns, rfl, rfl⟩ := ints_of hi64 hs1 ys cs (by have := hown.1; omega) hE
 obtain ⟨ms, rfl, rfl⟩ := ints_of hi64 hs1 zs ds (by have := hown3.1; omega) hE3
 simp only [List.singleton_append, List.nil_append, List.append_nil] at hf' hn hX ⊢
 -- one number
 match ms, hf', hown3, hn, hX with
 | [], hf', _, _, _ => simp [O.insertF] at hf'
 | _ :: _ :: _, hf', _, _, _ => simp [O.insertF] at hf'
 | [m], hf', hown3, hn, hX =>
 simp only [O.insertF, List.map_cons, List.map_nil] at hf'
 rw [Option.ite_none_right_eq_some] at hf'
 obtain ⟨⟨hi0, hil, hlen⟩, hf'⟩ := hf'
 injection hf' with hf'
 subst hf'
 obtain ⟨i, rfl⟩ := Int.eq_ofNat_of_zero_le hi0
 simp only [List.length_map, Int.ofNat_eq_natCast, Int.toNat_natCast, Int.ofNat_le] at hil hlen ⊢
 simp only [List.length_map, List.length_cons, List.length_nil, List.map_cons, List.map_nil] at hown hown3
 -- the row of the new
 obtain ⟨_, hv⟩ := hown3
 rcases hv with ⟨_, hv⟩ | ⟨g2, cap2, cur2, rfl, _, hb2, hc2, hm2, hz2, hk2⟩
 ·omega
 have hblk2 : blk (.slice (some ⟨g2, 0, none⟩) (0 + 1) cap2) = some g2 := rfl
 have hc20 : cur2[0]? = some (.int .i64 m) := by
  have := congrArg (fun l => l[0]?) hk2
  simpa [List.getElem?_take] using this
 have hvs : ∀ j v, ([Value.int .i64 m] : List Value)[j]? = some v → w.cell? ⟨g2, 0 + j, none⟩ = some v := fun j v hj => by
  match j, hj with
  | 0, hj =>
   simp at hj; subst hj
   simp [World.cell?, hb2, hc20]
 have h1v : ∀ v ∈ ([Value.int .i64 m] : List Value), v.oneCell' = true := by simp [Value.oneCell']
 have h1c : ∀ v ∈ ns.map (Value.int .i64), v.oneCell' = true := by simp [Value.oneCell']
 have hfrz : ∀ (b : Nat) (cur : Array Value), w.heap[b]? = some (.cells cur (ρ.t 3) (0, 0)) → ∀ o, w.frozen? ⟨b, o, none⟩ = false := fun b cur hb o => by simp [World.frozen?, hb]
 have hshape : ∀ (b : Nat) (cur : Array Value), w.heap[b]? = some (.cells cur (ρ.t 3) (0, 0)) → w.shape? b = some (ρ.t 3, cur.size) := fun b cur hb => by simp [World.shape?, hb]
 -- what the caller is told
 have fin : ∀ (w' : World) (g n' cap : Nat) (cur' : Array Value), n' = ns.length + 1 → w'.heap[g]? = some (.cells cur' (ρ.t 3) (0, 0)) → n' ≤ cap → cap ≤ maxLen → cur'.size = cap →
   cur'.toList.take (ns.length + 1) = (ns.map (Value.int .i64)).take i ++ .int .i64 m :: (ns.map (Value.int .i64)).drop i →
   WStep (· ∈ (blk s).toList ++ (blk (.slice (some ⟨g2, 0, none⟩) (0 + 1) cap2)).toList) w w' → (g ∈ (blk s).toList ∨ w.heap.size ≤ g) →
   After P X ⟨ρ.f 21, [.own (ρ.t 22), .data (ρ.t 3), .own (ρ.t 22)], [.cells (ρ.t 22) [true]], al⟩ [s, .int .i64 i, .slice (some ⟨g2, 0, none⟩) (0 + 1) cap2] ((blk s).toList ++ (blk (.slice (some ⟨g2, 0, none⟩) (0 + 1) cap2)).toList)
    [.list ((ns.map IV.int).take i ++ .int m :: (ns.map IV.int).drop i)] w (.slice (some ⟨g, 0, none⟩) n' cap) w' := by
  intro w' g n' cap cur' hn' hb hcap hmax hsz hcur hstep hg
  subst hn'
  refine ⟨hstep, [.slice (some ⟨g, 0, none⟩) (ns.length + 1) cap], [.list ((ns.map IV.int).take i ++ .int m :: (ns.map IV.int).drop i)], [], [g], [], rfl, by simp, by simp, ?_, ?_, ?_⟩
  ·intro b hb; simp at hb; subst hb
   rcases hg with h | h
   ·exact .inl (List.mem_append_left _ h)
   ·exact .inr h
  ·refine ⟨[.list ((ns.map IV.int).take i ++ .int m :: (ns.map IV.int).drop i)], [], [g], [], rfl, rfl, ?_, ⟨rfl, rfl⟩⟩
   have hk : (ns.map (Value.int .i64)).take i ++ .int .i64 m :: (ns.map (Value.int .i64)).drop i = (ns.take i ++ m :: ns.drop i).map (Value.int .i64) := by simp [List.map_take, List.map_drop]
   have hk2 : (ns.map IV.int).take i ++ .int m :: (ns.map IV.int).drop i = (ns.take i ++ m :: ns.drop i).map IV.int := by simp [List.map_take, List.map_drop]
   have hlen2 : (ns.take i ++ m :: ns.drop i).length = ns.length + 1 := by simp; omega
   refine ⟨[ρ.t 22], hl, by simp [Value.cells, hst], ?_, ?_⟩
   ·have : isAggT P (ρ.t 22) = false := by simp [isAggT, ht22]
    simp [this, Value.oneCell']
   ·refine ⟨[], ⟨(ns.take i ++ m :: ns.drop i).map IV.int, by rw [hk2], .inl ⟨ρ.t 3, ht22, ⟨by omega, (ns.take i ++ m :: ns.drop i).map (Value.int .i64), ?_, elems_of hi64 hs1 _, fun u hu => by obtain ⟨n, _, rfl⟩ := List.mem_map.1 hu; rfl⟩⟩⟩, rfl, rfl⟩
    rw [hs1, List.length_map, hlen2]
    refine ⟨by rw [List.length_map, hlen2]; omega, .inr ⟨g, cap, cur', rfl, Nat.zero_le _, hb, hcap, hmax, by omega, ?_⟩⟩
    rw [Nat.mul_one, hcur, hk]
  ·simp [BackRel, PS.isBack]
 refine .inl ⟨_, Ls.f21, by kernel_rfl, by kernel_rfl, ?_⟩
 have hstepA : ∀ (W : Nat → Prop) (o : Obj), WStep W w (w.drew.alloc o) := fun W o =>
  ⟨rfl, rfl, rfl, by rw [World.size_alloc]; exact Nat.le_succ _, fun b hb _ => heap_alloc_old w.drew o hb⟩
 have hgrow : ∀ (base : Option Addr) (c : Nat), s = .slice base ns.length c → c < ns.length + 1 → ns.length ≤ c → (base = none → ns.length = 0) → (∀ a, base = some a → ∀ j v, (ns.map (Value.int .i64))[j]? = some v → w.cell? (a.add j) = some v) → i = ns.length →
   Calls P (ρ.f 21) [s, .int .i64 i, .slice (some ⟨g2, 0, none⟩) (0 + 1) cap2].toArray w fun e w' => ∃ v, e = .returned v ∧ After P X ⟨ρ.f 21, [.own (ρ.t 22), .data (ρ.t 3), .own (ρ.t 22)], [.cells (ρ.t 22) [true]], al⟩ [s, .int .i64 i, .slice (some ⟨g2, 0, none⟩) (0 + 1) cap2] ((blk s).toList ++ (blk (.slice (some ⟨g2, 0, none⟩) (0 + 1) cap2)).toList)
    [.list ((ns.map IV.int).take i ++ .int m :: (ns.map IV.int).drop i)] w v w' := by
  intro base c hs hc hnc hnil hcs hi
  have hk := Any2.slices_Insert_int_end_grow Ls base ns.length c g2 0 1 cap2 (ns.map (Value.int .i64)) [.int .i64 m] w (by omega) hnc hc (by omega) (by simp) rfl hnil hcs hvs h1v
  rw [hs, hi]
  rw [hs, hi] at fin
  refine hk.mono fun e w' hew => ?_
  obtain ⟨rfl, rfl⟩ := hew
  have hge := grownCap_ge w (ns.length + 1) c (ρ.t 3)
  refine ⟨_, rfl, fin _ w.heap.size (ns.length + 1) _ _ rfl (heap_alloc_new w.drew _) hge (grownCap_le_maxLen w _ _ _ (by unfold maxLen; omega)) ?_ ?_ (hstepA _ _) (.inr (Nat.le_refl _))⟩
  ·simp only [Array.size_append, size_zeroCells, List.size_toArray, List.length_append, List.length_map, List.length_singleton]
   show ns.length + 1 + (grownCap w (ns.length + 1) c (ρ.t 3) - (ns.length + 1)) * 1 = _
   omega
  ·rw [Array.toList_append]
   rw [List.take_left' (by simp)]
   rw [List.take_of_length_le (by simp), List.drop_of_length_le (by simp)]
 obtain ⟨hlenc, ⟨rfl, hn0⟩ | ⟨g, cap, cur, rfl, _, hb, hcn, hmx, hcs, hcur⟩⟩ := hown
 ·have hns : ns.length = 0 := by omega
  exact hgrow none 0 (by rw [hns]) (by omega) (by omega) (fun _ => hns) (fun a h => by cases h) (by omega)
 ·have hcell : ∀ j v, (ns.map (Value.int .i64))[j]? = some v → w.cell? ⟨g, 0 + j, none⟩ = some v := fun j v hj => by
   rw [← hcur, List.getElem?_take] at hj
   split at hj
   ·simp [World.cell?, hb]; simpa using hj
   ·cases hj
  have hcurj : ∀ j, j < ns.length → cur[j]? = (ns.map (Value.int .i64))[j]? := fun j hj => by
   rw [← hcur, List.getElem?_take, if_pos (by omega)]; simp
  by_cases hroom : ns.length + 1 ≤ cap
  ·have hne : g2 ≠ g := fun e => by
    subst e
    have : ([g2, g2] : List Nat).Nodup := hn
    simp at this
   by_cases hi : i = ns.length
   ·have hk := Any2.slices_Insert_int_end_room Ls g 0 ns.length cap g2 0 1 cap2 [.int .i64 m] w (by omega) hroom hmx rfl
     (fun j hj => by
      have : 0 + ns.length + j < cur.size := by omega
      simp [World.cell?, hb, Array.getElem?_eq_getElem this]; omega) (fun j _ => hfrz g cur hb _) hvs h1v
    subst hi
    refine hk.mono fun e w' hew => ?_
    obtain ⟨rfl, rfl⟩ := hew
    obtain ⟨cur', k1, k2, k3⟩ := setCells_heap g (ρ.t 3) [.int .i64 m] (0 + ns.length) w cur hb
    obtain ⟨q1, q2, q3, q4⟩ := setCells_same g [.int .i64 m] (0 + ns.length) w
    refine ⟨_, rfl, fin _ g (ns.length + 1) cap cur' rfl k1 hroom hmx (by omega) ?_ ⟨q1, q2, q3, by omega, fun b hb' hbn => setCells_other g _ _ w b fun e => hbn (by subst e; simp [blk])⟩ (.inl (by simp [blk]))⟩
    have hins := ins_take (cs := ns.map (Value.int .i64)) (x := .int .i64 m) (cur := cur') (i := ns.length) (by simp) (by simp; omega) (fun j hj => by
     rw [k3]
     simp only [List.length_map] at hj
     by_cases c : j < ns.length
     ·rw [if_neg (by simp; omega), if_pos c, hcurj j c]
     ·rw [if_pos (by simp; omega), if_neg c, if_pos (by omega)]
      have : j - (0 + ns.length) = 0 := by omega
      rw [this]; rfl)
    simpa using hins
   ·have hk := Any2.slices_Insert_int_shift Ls g 0 ns.length cap i g2 0 1 cap2 (ns.map (Value.int .i64)) [.int .i64 m] w (by omega) (by omega) hroom hmx hne (by simp) rfl hcell
     (fun j hj => by
      have : 0 + j < cur.size := by omega
      simp [World.cell?, hb, Array.getElem?_eq_getElem this]; omega) (fun j _ => hfrz g cur hb _) hvs h1c h1v _ _ _ _ (hshape g2 cur2 hb2) (hshape g cur hb) (by omega) (hfrz g2 cur2 hb2 _) (hfrz g2 cur2 hb2 _)
    refine hk.mono fun e w' hew => ?_
    obtain ⟨rfl, rfl⟩ := hew
    obtain ⟨cur1, k1, k2, k3⟩ := setCells_heap g (ρ.t 3) ((ns.map (Value.int .i64)).drop i) (0 + (i + 1)) w.drew cur hb
    obtain ⟨cur', r1, r2, r3⟩ := setCells_heap g (ρ.t 3) [.int .i64 m] (0 + i) _ cur1 k1
    obtain ⟨q1, q2, q3, q4⟩ := setCells_same g ((ns.map (Value.int .i64)).drop i) (0 + (i + 1)) w.drew
    obtain ⟨p1, p2, p3, p4⟩ := setCells_same g [.int .i64 m] (0 + i) (w.drew.setCells g (0 + (i + 1)) ((ns.map (Value.int .i64)).drop i))
    refine ⟨_, rfl, fin _ g (ns.length + 1) cap cur' rfl r1 hroom hmx (by omega) ?_ ⟨p1.trans q1, p2.trans q2, p3.trans q3, by rw [p4, q4]; exact Nat.le_refl _, fun b hb' hbn => ?_⟩ (.inl (by simp [blk]))⟩
    ·have hins := ins_take (cs := ns.map (Value.int .i64)) (x := .int .i64 m) (cur := cur') (i := i) (by simp; omega) (by simp; omega) (fun j hj => by
      rw [r3]
      simp only [List.length_map] at hj
      by_cases c : j < i
      ·rw [if_neg (by simp; omega), if_pos c, k3, if_neg (by simp; omega), hcurj j (by omega)]
      ·rw [if_neg c]
       by_cases d : j = i
       ·rw [if_pos (by simp; omega), if_pos d]
        have : j - (0 + i) = 0 := by omega
        rw [this]; rfl
       ·rw [if_neg (by simp; omega), if_neg d, k3, if_pos (by simp; omega), List.getElem?_drop]
        congr 1; omega)
     simpa using hins
    ·have hbg : b ≠ g := fun e => hbn (by subst e; simp [blk])
     rw [setCells_other g _ _ _ b hbg, setCells_other g _ _ _ b hbg]; rfl
  ·by_cases hi : i = ns.length
   ·exact hgrow (some ⟨g, 0, none⟩) cap rfl (by omega) hcn (fun h => by cases h) (fun a ha j v hj => by injection ha with ha; subst ha; rw [Addr.add_lit]; exact hcell j v hj) hi
   ·have hk := Any2.slices_Insert_int_grow Ls g 0 ns.length cap i g2 0 1 cap2 (ns.map (Value.int .i64)) [.int .i64 m] w (by omega) (by omega) hcn (by omega) (by omega) (by simp) rfl hcell hvs h1c h1v
    refine hk.mono fun e w' hew => ?_
    obtain ⟨rfl, rfl⟩ := hew
    have hge := grownCap_ge w (ns.length + 1) cap (ρ.t 3)
    generalize hcz : (((ns.map (Value.int .i64)).take i).toArray ++ Builtin.zeroCells (Value.int .i64 0).cells (ns.length + 1 - i) ++ Builtin.zeroCells (Value.int .i64 0).cells (grownCap w (ns.length + 1) cap (ρ.t 3) - (ns.length + 1))) = cz
    have hzs : cz.size = grownCap w (ns.length + 1) cap (ρ.t 3) := by
     rw [← hcz]
     simp only [Array.size_append, size_zeroCells, List.size_toArray, List.length_take, List.length_map]
     show min i ns.length + (ns.length + 1 - i) * 1 + (grownCap w (ns.length + 1) cap (ρ.t 3) - (ns.length + 1)) * 1 = _
     omega
    have hzj : ∀ j, j < i → cz[j]? = (ns.map (Value.int .i64))[j]? := fun j hj => by
     rw [← hcz, Array.append_assoc, Array.getElem?_append_left (by simp; omega)]
     simp [List.getElem?_take, hj]
    have hb0 : ((w.alloc (.cells cz (ρ.t 3))).drew).heap[w.heap.size]? = some (.cells cz (ρ.t 3) (0, 0)) := heap_alloc_new w _
    obtain ⟨cur1, k1, k2, k3⟩ := setCells_heap w.heap.size (ρ.t 3) [.int .i64 m] i ((w.alloc (.cells cz (ρ.t 3))).drew) cz hb0
    have k1' : ((((w.alloc (.cells cz (ρ.t 3))).drew).setCells w.heap.size i [.int .i64 m]).drew).heap[w.heap.size]? = some (.cells cur1 (ρ.t 3) (0, 0)) := k1
    obtain ⟨cur', r1, r2, r3⟩ := setCells_heap w.heap.size (ρ.t 3) ((ns.map (Value.int .i64)).drop i) (i + 1) _ cur1 k1'
    obtain ⟨q1, q2, q3, q4⟩ := setCells_same w.heap.size [.int .i64 m] i ((w.alloc (.cells cz (ρ.t 3))).drew)
    obtain ⟨p1, p2, p3, p4⟩ := setCells_same w.heap.size ((ns.map (Value.int .i64)).drop i) (i + 1) ((((w.alloc (.cells cz (ρ.t 3))).drew).setCells w.heap.size i [.int .i64 m]).drew)
    refine ⟨_, rfl, fin _ w.heap.size (ns.length + 1) (grownCap w (ns.length + 1) cap (ρ.t 3)) cur' rfl r1 hge (grownCap_le_maxLen w _ _ _ (by unfold maxLen; omega)) (by omega) ?_ ⟨p1.trans q1, p2.trans q2, p3.trans q3, ?_, fun b hb' hbn => ?_⟩ (.inr (Nat.le_refl _))⟩
    ·have hins := ins_take (cs := ns.map (Value.int .i64)) (x := .int .i64 m) (cur := cur') (i := i) (by simp; omega) (by simp; omega) (fun j hj => by
      rw [r3]
      simp only [List.length_map] at hj
      by_cases c : j < i
      ·rw [if_neg (by simp; omega), if_pos c, k3, if_neg (by simp; omega), hzj j c]
      ·rw [if_neg c]
       by_cases d : j = i
       ·rw [if_neg (by simp; omega), if_pos d, k3, if_pos (by simp; omega)]
        have : j - i = 0 := by omega
        rw [this]; rfl
       ·rw [if_pos (by simp; omega), if_neg d, List.getElem?_drop]
        congr 1; omega)
     simpa using hins
    ·rw [p4]
     show w.heap.size ≤ (((w.alloc (.cells cz (ρ.t 3))).drew).setCells w.heap.size i [.int .i64 m]).heap.size
     rw [q4]
     show w.heap.size ≤ (w.alloc (.cells cz (ρ.t 3))).heap.size
     rw [World.size_alloc]; omega
    ·have hbg : b ≠ w.heap.size := by omega
     rw [setCells_other _ _ _ _ b hbg]
     show (((w.alloc (.cells cz (ρ.t 3))).drew).setCells w.heap.size i [.int .i64 m]).heap[b]? = _
     rw [setCells_other _ _ _ _ b hbg]
     exact heap_alloc_old w _ hb'
end Go.CT
namespace Go.CT
open Go
def O.oneF (g : List UInt8 → UInt8 → IV) : List IV → Option (List IV)
 | [.str s, .str d] => match d.data.toList with | [c] => some [g s.data.toList c] | _ => none
 | _ => none
def O.containsF : List IV → Option (List IV) := O.oneF fun s c => .bool (decide (0 ≤ Lib.indexByte s c))
theorem one_byte {d : ByteArray} {c : UInt8} (h : d.data.toList = [c]) : d = ⟨#[c]⟩ := by
 obtain ⟨⟨l⟩⟩ := d
 have : l = [c] := h
 subst this; rfl
theorem one_ok {P : Program} {f : FuncId} {fn : Func} {ts tr : TypeId} {al : Bool} {g : List UInt8 → UInt8 → IV} {v : List UInt8 → UInt8 → Value} (hfn : P.funcs[f]? = some fn) (hn : (fn.name == "runtime.NumGoroutine") = false) (hb : fn.body.isNone = false)
  (hs : P.underlying ts = some .string) (hv : ∀ s c w O, Rel P w O tr (g s c) (v s c))
  (hc : ∀ (s : ByteArray) (c : UInt8) (w : World), Calls P f #[.string s, .string ⟨#[c]⟩] w fun e w' => e = .returned (v s.data.toList c) ∧ w' = w) : PrimOk P (O.oneF g) ⟨f, [.data ts, .data ts], [.whole tr], al⟩ := by
 intro w X xs args L rs hr hnd hX hlt hf
 match args, hr with
 | [u, u2], hr =>
  obtain ⟨ys, zs, L1, L2, e1, e2, ⟨x, e3, e4, hx1⟩, hr⟩ := hr
  obtain ⟨ys', zs', L1', L2', e1', e2', ⟨y, e3', e4', hy1⟩, ⟨e5, e6⟩⟩ := hr
  subst e3 e4 e3' e4' e5 e6 e1' e2' e1 e2
  obtain ⟨a, rfl, rfl⟩ := hx1.str_inv hs
  obtain ⟨b, rfl, rfl⟩ := hy1.str_inv hs
  simp only [List.cons_append, List.nil_append, O.oneF] at hf
  split at hf
  ·rename_i c hb1
   injection hf with hf; subst hf
   obtain rfl := one_byte hb1
   refine .inl ⟨_, hfn, hn, hb, ?_⟩
   refine (hc a c w).mono fun e w' hew => ?_
   obtain ⟨rfl, rfl⟩ := hew
   refine ⟨_, rfl, WStep.refl _ _, [v a.data.toList c], [g a.data.toList c], [], [], [], rfl, rfl, by simp, by simp, ?_, by simp [BackRel, PS.isBack]⟩
   exact ⟨[_], [], [], [], rfl, rfl, ⟨_, rfl, rfl, hv _ _ _ _⟩, rfl, rfl⟩
  ·cases hf
end Go.CT
namespace Go.Proofs
open Go.Shelf
def Tryd.lays144_ren : Ren := ⟨fun x => match x with | 143 => 49 | 144 => 42 | 217 => 86 | 219 => 68 | 224 => 88 | 225 => 87 | 266 => 97 | 267 => 89 | 314 => 98 | n => n, fun x => match x with | 46 => 131 | 51 => 143 | 146 => 144 | n => n, fun x => match x with | 1 => 2 | n => n⟩
theorem Tryd.lays144 : Lays.n144 Tryd.prog Tryd.lays144_ren where
 mixed := by kernel_rfl
 f143 := by kernel_rfl
 f144 := by kernel_rfl
 f217 := by kernel_rfl
 f219 := by kernel_rfl
 f224 := by kernel_rfl
 f225 := by kernel_rfl
 f266 := by kernel_rfl
 f267 := by kernel_rfl
 f314 := by kernel_rfl
 t3 := by kernel_rfl
 a3 := Tryd.isAgg3
 z3 := Tryd.sizeOf3
 v3 := Tryd.zeroValue3
 t4 := by kernel_rfl
 a4 := Tryd.isAgg4
 z4 := Tryd.sizeOf4
 v4 := Tryd.zeroValue4
 t5 := by kernel_rfl
 a5 := Tryd.isAgg5
 z5 := Tryd.sizeOf5
 v5 := Tryd.zeroValue5
 t9 := by kernel_rfl
 a9 := Tryd.isAgg9
 z9 := Tryd.sizeOf9
 v9 := Tryd.zeroValue9
 t46 := by kernel_rfl
 a46 := Tryd.isAgg131
 z46 := Tryd.sizeOf131
 v46 := Tryd.zeroValue131
 t51 := by kernel_rfl
 a51 := Tryd.isAgg143
 z51 := Tryd.sizeOf143
 v51 := Tryd.zeroValue143
 t146 := by kernel_rfl
 a146 := Tryd.isAgg144
 z146 := Tryd.sizeOf144
 v146 := Tryd.zeroValue144
 g1 := by kernel_rfl
end Go.Proofs
namespace Go.CT.Strs
open Go Go.Proofs Go.Shelf
theorem contains_ok : PrimOk Tryd.prog O.containsF ⟨42, [.data 9, .data 9], [.whole 4], false⟩ :=
 one_ok (g := fun s c => .bool (decide (0 ≤ Lib.indexByte s c))) (v := fun s c => .bool (decide (0 ≤ Lib.indexByte s c))) Tryd.func42 (by kernel_rfl) (by kernel_rfl) Tryd.underlying9 (fun _ _ _ _ => .bool Tryd.underlying4) (Any.strings_Contains_one Tryd.lays144)
end Go.CT.Strs
namespace Go.Proofs.Spl
open Go Go.Proofs Go.RowKit Go.Shelf
attribute [local go_sem] Oper.semAt_some
set_option maxRecDepth 100000 in
set_option maxHeartbeats 2000000 in
theorem indexByte_in (F : Fence) (n : Nat) (h : F.fn 86) (h97 : F.fn 97) (hro : F.round = none) (s : ByteArray) (c : Int) (w : World) :
  CallsIn F n Tryd.prog 86 #[.string s, .int .u8 c] w fun e w' => e = .returned (.int .i64 (Lib.indexByte s.data.toList c.toNat.toUInt8)) ∧ w' = w := by
 refine callsIn_of_wp Tryd.func86 rfl h ?_ hro
 simp only [Tryd.ntmps86, List.size_toArray, List.length_cons, List.length_nil, Nat.reduceAdd, Nat.reduceSub, Array.replicate_succ, Array.replicate_zero, List.push_toArray, List.append_toArray, List.nil_append, List.cons_append]
 gi_wp2
 rw [run_callFunc_extern Tryd.func97 (by kernel_rfl) (by kernel_rfl) (by kernel_rfl) (e := Extern.BytealgIndexByte.indexByte) (by kernel_rfl), Lib.run_indexByteString]
 simp only [Result.andThen]
 rw [Oper.uponIn_value]
 gi_wp2
 go_ret
 exact ⟨rfl, rfl⟩
structure Has (F : Fence) : Prop where
 f18 : F.fn 18
 f19 : F.fn 19
 f35 : F.fn 35
 f36 : F.fn 36
 f47 : F.fn 47
 f49 : F.fn 49
 f50 : F.fn 50
 f68 : F.fn 68
 f86 : F.fn 86
 f97 : F.fn 97
 ro : F.round = none
set_option maxRecDepth 100000 in
set_option maxHeartbeats 4000000 in
theorem liteIndex_in (F : Fence) (n : Nat) (h : Has F) (hn : 1 ≤ n) (s : ByteArray) (c : UInt8) (w : World) :
  CallsIn F n Tryd.prog 68 #[.string s, .string ⟨#[c]⟩] w fun e w' => e = .returned (.int .i64 (Lib.indexByte s.data.toList c)) ∧ w' = w := by
 have h1 : 1 ≤ n := by omega
 have h68 := h.f68; have h86 := h.f86
 have hro := h.ro
 refine callsIn_of_wp Tryd.func68 rfl h.f68 ?_ hro
 simp only [Tryd.ntmps68, List.size_toArray, List.length_cons, List.length_nil, Nat.reduceAdd, Nat.reduceSub, Array.replicate_succ, Array.replicate_zero, List.push_toArray, List.append_toArray, List.nil_append, List.cons_append]
 gi_wp2_with (gi_at_call 86; refine (indexByte_in F (n - 1) h.f86 h.f97 h.ro _ _ _).mono ?_; rintro e w' ⟨rfl, rfl⟩)
 ·have h : ([c] == s.toList) = true := by assumption
  go_ret
  refine ⟨?_, rfl⟩
  have e : s.data.toList = [c] := by rw [← Lib.toList_data]; exact (beq_iff_eq.1 h).symm
  rw [e]
  simp [Lib.indexByte]
 ·go_ret
  exact ⟨rfl, rfl⟩
set_option maxRecDepth 100000 in
set_option maxHeartbeats 2000000 in
theorem index_in (F : Fence) (n : Nat) (h : Has F) (hn : 2 ≤ n) (s : ByteArray) (c : UInt8) (w : World) :
  CallsIn F n Tryd.prog 49 #[.string s, .string ⟨#[c]⟩] w fun e w' => e = .returned (.int .i64 (Lib.indexByte s.data.toList c)) ∧ w' = w := by
 have h1 : 1 ≤ n := by omega
 have h68 := h.f68
 have hro := h.ro
 refine callsIn_of_wp Tryd.func49 rfl h.f49 ?_ hro
 simp only [Tryd.ntmps49, List.size_toArray, List.length_cons, List.length_nil, Nat.reduceAdd, Nat.reduceSub, Array.replicate_succ, Array.replicate_zero, List.push_toArray, List.append_toArray, List.nil_append, List.cons_append]
 gi_wp2_with (gi_at_call 68; refine (liteIndex_in F (n - 1) h (by omega) _ _ _).mono ?_; rintro e w' ⟨rfl, rfl⟩)
 go_ret
 exact ⟨rfl, rfl⟩
set_option maxRecDepth 100000 in
set_option maxHeartbeats 2000000 in
theorem hasSuffix_in (F : Fence) (n : Nat) (h : Has F) (w : World) :
  CallsIn F n Tryd.prog 50 #[.string ⟨#[]⟩, .string ⟨#[10]⟩] w fun e w' => e = .returned (.bool false) ∧ w' = w := by
 have hro := h.ro
 refine callsIn_of_wp Tryd.func50 rfl h.f50 ?_ hro
 simp only [Tryd.ntmps50, List.size_toArray, List.length_cons, List.length_nil, Nat.reduceAdd, Nat.reduceSub, Array.replicate_succ, Array.replicate_zero, List.push_toArray, List.append_toArray, List.nil_append, List.cons_append]
 gi_wp2
 go_ret
 exact ⟨rfl, rfl⟩
set_option maxRecDepth 100000 in
set_option maxHeartbeats 2000000 in
theorem liteCut_in (F : Fence) (n : Nat) (h : Has F) (hn : 1 ≤ n) (w : World) :
  CallsIn F n Tryd.prog 36 #[.string ⟨#[]⟩, .string ⟨#[10]⟩] w fun e w' => e = .returned (.tuple #[.string ⟨#[]⟩, .bool false]) ∧ w' = w := by
 have h1 : 1 ≤ n := by omega
 have h50 := h.f50
 have hro := h.ro
 refine callsIn_of_wp Tryd.func36 rfl h.f36 ?_ hro
 simp only [Tryd.ntmps36, List.size_toArray, List.length_cons, List.length_nil, Nat.reduceAdd, Nat.reduceSub, Array.replicate_succ, Array.replicate_zero, List.push_toArray, List.append_toArray, List.nil_append, List.cons_append]
 gi_wp2_with (gi_at_call 50; refine (hasSuffix_in F (n - 1) h _).mono ?_; rintro e w' ⟨rfl, rfl⟩)
 go_ret2
 exact ⟨rfl, rfl⟩
set_option maxRecDepth 100000 in
set_option maxHeartbeats 2000000 in
theorem cut_in (F : Fence) (n : Nat) (h : Has F) (hn : 2 ≤ n) (w : World) :
  CallsIn F n Tryd.prog 19 #[.string ⟨#[]⟩, .string ⟨#[10]⟩] w fun e w' => e = .returned (.tuple #[.string ⟨#[]⟩, .bool false]) ∧ w' = w := by
 have h1 : 1 ≤ n := by omega
 have h36 := h.f36
 have hro := h.ro
 refine callsIn_of_wp Tryd.func19 rfl h.f19 ?_ hro
 simp only [Tryd.ntmps19, List.size_toArray, List.length_cons, List.length_nil, Nat.reduceAdd, Nat.reduceSub, Array.replicate_succ, Array.replicate_zero, List.push_toArray, List.append_toArray, List.nil_append, List.cons_append]
 gi_wp2_with (gi_at_call 36; refine (liteCut_in F (n - 1) h (by omega) _).mono ?_; rintro e w' ⟨rfl, rfl⟩)
 go_ret2
 exact ⟨rfl, rfl⟩
end Go.Proofs.Spl
namespace Go.Proofs.Spl
open Go Go.Proofs Go.RowKit Go.Shelf
attribute [local go_sem] Oper.semAt_some
set_option maxRecDepth 100000 in
set_option maxHeartbeats 4000000 in
theorem split1_in (F : Fence) (n : Nat) (h : Has F) (hn : 3 ≤ n) (l : Nat) (ap aq av : Addr) (n₀ : Nat) (J Jx : List Unit → World → Prop)
  (hY : ∀ pre x W, J pre W → pre.length < 1 → YieldAt F (n - 1) Tryd.prog l #[.string ⟨#[]⟩] W fun e W' =>
   (e = .returned (.bool true) ∧ J (pre ++ [x]) W' ∧ Below n₀ W W') ∨ (e = .returned (.bool false) ∧ Jx (pre ++ [x]) W'))
  (W : World) (hp : W.cell? ap = some (.string ⟨#[10]⟩)) (hs : W.cell? aq = some (.string ⟨#[]⟩)) (hv : W.cell? av = some (.int .i64 1)) (h0 : J [] W) :
  CallsIn F n Tryd.prog 47 #[.func (.yield l) #[] #[], .pointer (some ap), .pointer (some aq), .pointer (some av)] W fun e W' => (∃ v, e = .returned v) ∧
   ((∃ ys, ys = [()] ∧ J ys W') ∨ (∃ pre : List Unit, True ∧ Jx pre W')) := by
 have h1 : 1 ≤ n := by omega
 have hro := h.ro
 have h49 := h.f49
 refine callsIn_of_wp Tryd.func47 rfl h.f47 ?_ hro
 simp only [Tryd.ntmps47, List.size_toArray, List.length_cons, List.length_nil, Nat.reduceAdd, Nat.reduceSub, Array.replicate_succ, Array.replicate_zero, List.push_toArray, List.append_toArray, List.nil_append, List.cons_append]
 gi_wp2
 gi_loopw [7] (fun _ wr => wr = W) (fun _ _ => 0)
 case atStart => exact rfl
 case round =>
  obtain rfl := hrel
  obtain ⟨fn, tmps, assign, body, hy, hR⟩ := hY _ () wr h0 (by simp)
  gi_wp2_with (gi_at_call 49; refine (index_in F (n - 1) h (by omega) _ _ _).mono ?_; rintro e w' ⟨rfl, rfl⟩)
  refine hR.mono ?_
  rintro e W3 (⟨rfl, hJ3, hk3⟩ | ⟨rfl, hJx3⟩)
  ·gi_wp2
   go_end0
   exact ⟨⟨_, rfl⟩, .inl ⟨_, rfl, hJ3⟩⟩
  ·gi_wp2
   go_end0
   exact ⟨⟨_, rfl⟩, .inr ⟨_, trivial, hJx3⟩⟩
theorem split_stops (F : Fence) (n : Nat) (h : Has F) (hn : 3 ≤ n) (ap aq av : Addr) (n₀ : Nat) (w : World) (hbp : ap.block < w.heap.size) (hbq : aq.block < w.heap.size) (hbv : av.block < w.heap.size)
  (hp : w.cell? ap = some (.string ⟨#[10]⟩)) (hs : w.cell? aq = some (.string ⟨#[]⟩)) (hv : w.cell? av = some (.int .i64 1)) :
  SeqStopsK F n Tryd.prog 47 #[.pointer (some ap), .pointer (some aq), .pointer (some av)] (fun _ : Unit => #[Value.string ⟨#[]⟩]) (Below n₀) (fun ys => ys = [()]) (fun _ => True) 1 w := fun l J Jx W hW _ _ hY h0 =>
 split1_in F n h hn l ap aq av n₀ J Jx hY W ((hW.cell (p := ap) hbp).trans hp) ((hW.cell (p := aq) hbq).trans hs) ((hW.cell (p := av) hbv).trans hv) h0
set_option maxRecDepth 100000 in
set_option maxHeartbeats 2000000 in
theorem splitSeq_in (F : Fence) (n : Nat) (h : Has F) (w : World) :
  CallsIn F n Tryd.prog 35 #[.string ⟨#[]⟩, .string ⟨#[10]⟩, .int .i64 1] w fun e w' =>
   e = .returned (.func (.func 47) #[] #[.pointer (some ⟨w.heap.size + 1, 0, none⟩), .pointer (some ⟨w.heap.size, 0, none⟩), .pointer (some ⟨w.heap.size + 2, 0, none⟩)]) ∧
   w' = ((w.alloc (.cells #[.string ⟨#[]⟩] 9)).alloc (.cells #[.string ⟨#[10]⟩] 9)).alloc (.cells #[.int .i64 1] 3) := by
 have hro := h.ro
 refine callsIn_of_wp Tryd.func35 rfl h.f35 ?_ hro
 simp only [Tryd.ntmps35, List.size_toArray, List.length_cons, List.length_nil, Nat.reduceAdd, Nat.reduceSub, Array.replicate_succ, Array.replicate_zero, List.push_toArray, List.append_toArray, List.nil_append, List.cons_append]
 gi_wp2
 go_ret
 exact ⟨rfl, rfl⟩
set_option maxRecDepth 100000 in
set_option maxHeartbeats 2000000 in
theorem splitAfter_in (F : Fence) (n : Nat) (h : Has F) (hn : 1 ≤ n) (w : World) :
  CallsIn F n Tryd.prog 18 #[.string ⟨#[]⟩, .string ⟨#[10]⟩] w fun e w' =>
   e = .returned (.func (.func 47) #[] #[.pointer (some ⟨w.heap.size + 1, 0, none⟩), .pointer (some ⟨w.heap.size, 0, none⟩), .pointer (some ⟨w.heap.size + 2, 0, none⟩)]) ∧
   w' = ((w.alloc (.cells #[.string ⟨#[]⟩] 9)).alloc (.cells #[.string ⟨#[10]⟩] 9)).alloc (.cells #[.int .i64 1] 3) := by
 have hro := h.ro
 have h1 : 1 ≤ n := by omega
 have h35 := h.f35
 refine callsIn_of_wp Tryd.func18 rfl h.f18 ?_ hro
 simp only [Tryd.ntmps18, List.size_toArray, List.length_cons, List.length_nil, Nat.reduceAdd, Nat.reduceSub, Array.replicate_succ, Array.replicate_zero, List.push_toArray, List.append_toArray, List.nil_append, List.cons_append]
 gi_wp2_with (gi_at_call 35; refine (splitSeq_in F (n - 1) h _).mono ?_; rintro e w' ⟨rfl, rfl⟩)
 go_ret
 exact ⟨rfl, rfl⟩
end Go.Proofs.Spl
namespace Go.CT
open Go.RowKit
def Strs (n₀ : Nat) (W : World) (sv : Value) (zs : List ByteArray) : Prop :=
 ∃ A cap, sv = .slice A zs.length cap ∧ zs.length ≤ maxLen ∧ (0 < zs.length → ∃ ad, A = some ad ∧ ad.block < n₀ ∧ ∀ j, j < zs.length → W.cell? (ad.add j) = some (.string (zs[j]?.getD ⟨#[]⟩)))
theorem Strs.below {n₀ : Nat} {A B : World} (h : Below n₀ A B) {sv : Value} {zs : List ByteArray} : Strs n₀ A sv zs → Strs n₀ B sv zs
 | ⟨b, cap, e, hm, hc⟩ => ⟨b, cap, e, hm, fun h0 => let ⟨ad, e1, e2, e3⟩ := hc h0; ⟨ad, e1, e2, fun j hj => (h.cell (by rw [addr_block]; exact e2)).trans (e3 j hj)⟩⟩
theorem elemsStr {P : Program} {te : TypeId} (hstr : P.underlying te = some .string) (hse : sizeT P te = 1) {w : World} {O : Nat → Prop} (zs : List ByteArray) : Elems P w O te (zs.map IV.str) (zs.map Value.string) := by
 intro j x hx
 rw [List.getElem?_map] at hx
 cases hz : zs[j]? with
 | none => simp [hz] at hx
 | some z =>
  simp only [hz, Option.map_some, Option.some.injEq] at hx
  subst hx
  refine ⟨.string z, .str hstr, ?_, by rw [hse]; rfl⟩
  rw [hse, Nat.mul_one]
  have hj := (List.getElem?_eq_some_iff.1 hz).1
  rw [List.drop_eq_getElem_cons (by simpa using hj)]
  simp [(List.getElem?_eq_some_iff.1 hz).2, Value.cells]
end Go.CT
namespace Go.CT
open Go.Proofs Go.Shelf Go.RowKit
section
variable {P : Program} {ρ : Ren} {al : Bool}
theorem RowOwn.step {w w' : World} {O O' : Nat → Prop} {e : TypeId} {xs : List IV} {v : Value} (h : RowOwn P w O e xs v) (hO : ∀ b, b < w.heap.size → O' b → O b) (hs : Stays O w w') (hv : ∀ b, blk v = some b → w'.heap[b]? = w.heap[b]?) : RowOwn P w' O' e xs v := by
 obtain ⟨h1, cs, ⟨g1, g2⟩, h3, h4⟩ := h
 refine ⟨h1, cs, ⟨g1, ?_⟩, fun j x hx => ?_, h4⟩
 ·rcases g2 with g2 | ⟨g, cap, cur, rfl, e2, e3, e4⟩
  ·exact .inl g2
  ·exact .inr ⟨g, cap, cur, rfl, e2, by rw [hv g rfl]; exact e3, e4⟩
 ·obtain ⟨v, q1, q2⟩ := h3 j x hx
  exact ⟨v, q1.mono hO hs, q2⟩
theorem copyCheck_ok (L : Lays.n240 P ρ) (X : Builder.X72 P ρ) {f t : Nat} (hf : f = ρ.f 240) (ht : t = ρ.t 72) : PrimOk P O.copyCheckF ⟨f, [.bld t true], [], al⟩ := by
 intro w X0 xs args Ls rs hr hn hX hlt hf'
 subst hf ht
 match args, hr with
 | [u], hr =>
  obtain ⟨_, _, _, _, rfl, rfl, ⟨b, c0, c1, ys, st, e, rfl, hb, hc, hbt, rfl, hrow, rfl⟩, rfl, rfl⟩ := hr
  simp only [List.append_nil, O.copyCheckF, Option.some.injEq] at hf' hn hX hrow ⊢
  subst hf'
  rw [List.nodup_cons] at hn
  have fin : ∀ (w' : World), WStep (· = b) w w' → w'.heap[b]? = some (.cells #[.pointer (some ⟨b, 0, none⟩), c1] (ρ.t 72) (0, 0)) →
    After P X0 ⟨ρ.f 240, [.bld (ρ.t 72) true], [], al⟩ [.pointer (some ⟨b, 0, none⟩)] (b :: (blk c1).toList) [.list ys] w (.tuple #[]) w' := by
   intro w' hs hb'
   have hs' : WStep (· ∈ b :: (blk c1).toList) w w' := ⟨hs.os, hs.tape, hs.output, hs.size, fun k hk hkn => hs.stays k hk fun h => hkn (by have h : k = b := h; subst h; exact List.mem_cons_self)⟩
   refine ⟨hs', [], [], [.list ys], [], b :: (blk c1).toList, rfl, rfl, by rw [List.nil_append, List.nodup_cons]; exact hn, fun b' hb' => .inl (by simpa using hb'), ⟨rfl, rfl⟩, ?_⟩
   simp only [BackRel, PS.isBack, if_true]
   refine ⟨[.list ys], [], b :: (blk c1).toList, [], rfl, by simp, ⟨b, _, c1, ys, st, e, rfl, hb', .inr rfl, hbt, rfl, ?_, rfl⟩, rfl, rfl⟩
   refine hrow.step (fun b' _ h => by simpa using h) (fun k hk hko => hs.stays k hk fun h => hko (.inr (by have h : k = b := h; subst h; exact List.mem_cons_self))) (fun g hg => ?_)
   refine hs.stays g ?_ fun h => ?_
   ·obtain ⟨_, cs, ⟨_, g2⟩, _⟩ := hrow
    rcases g2 with ⟨rfl, _⟩ | ⟨g', cap, cur, rfl, _, e3, _⟩
    ·cases hg
    ·simp [blk] at hg; subst hg
     exact (Array.getElem?_eq_some_iff.1 e3).1
   ·have h : g = b := h
    subst h
    exact hn.1 (by simp [hg])
  refine .inl ⟨_, L.f240, by kernel_rfl, by kernel_rfl, ?_⟩
  rcases hc with rfl | rfl
  ·refine (Any.Builder_copyCheck_fresh L X b w (by simp [World.cell?, hb]) (by simp [World.shape?, hb]) (by simp [World.frozen?, hb])).mono fun e w' hew => ?_
   obtain ⟨rfl, rfl⟩ := hew
   refine ⟨_, rfl, fin _ ⟨rfl, rfl, rfl, by rw [World.size_setCell]; exact Nat.le_refl _, fun k hk hkb => ?_⟩ ?_⟩
   ·have hkb : ¬ k = b := hkb
    simp [World.setCell, Array.getElem?_modify]
    intro e; exact absurd e.symm hkb
   ·simp [World.setCell, Array.getElem?_modify, hb]
  ·refine (Any.Builder_copyCheck_used L X b w (by simp [World.cell?, hb])).mono fun e w' hew => ?_
   obtain ⟨rfl, rfl⟩ := hew
   exact ⟨_, rfl, fin _ (.refl _ _) hb⟩
theorem bytes_of {w : World} {O : Nat → Prop} {e : TypeId} (he : P.underlying e = some (.int .u8)) (hs : sizeT P e = 1) : ∀ (ys : List IV) (cs : List Value) (l : List UInt8), cs.length = ys.length → Elems P w O e ys cs → ys.mapM ivByte = some l → cs = Lib.byteCells l ∧ ys.length = l.length
 | [], [], l, _, _, h => by simp at h; subst h; exact ⟨rfl, rfl⟩
 | [], _ :: _, _, h, _, _ => by simp at h
 | _ :: _, [], _, h, _, _ => by simp at h
 | y :: ys, c :: cs, l, h, hE, hm => by
  obtain ⟨v, h1, h2, h3⟩ := hE 0 y rfl
  obtain ⟨n, rfl, rfl⟩ := h1.int_inv he
  rw [List.mapM_cons] at hm
  simp only [Option.pure_def, Option.bind_eq_bind] at hm
  cases hb : ivByte (.int n) with
  | none => simp [hb] at hm
  | some u =>
   cases hr : ys.mapM ivByte with
   | none => simp [hb, hr] at hm
   | some l' =>
    simp [hb, hr] at hm; subst hm
    obtain ⟨q1, q2⟩ := bytes_of he hs ys cs l' (by simpa using h) (fun j x hx => by
     obtain ⟨v, g1, g2, g3⟩ := hE (j + 1) x hx
     refine ⟨v, g1, ?_, g3⟩
     rw [g2, hs]
     simp) hr
    rw [hs] at h2
    simp at h2
    have e1 : (Value.int IntKind.u8 n).cells.toList = [Value.int .u8 n] := rfl
    rw [e1] at h2
    have hc : c = .int .u8 n := by simpa using h2.symm
    have hu : (u.toNat : Int) = n := by
     simp only [ivByte] at hb
     rw [Option.ite_none_right_eq_some] at hb
     obtain ⟨⟨b1, b2⟩, hb⟩ := hb
     injection hb with hb
     subst hb
     have : n.toNat.toUInt8.toNat = n.toNat := by
      simp only [Nat.toUInt8, UInt8.toNat_ofNat']
      omega
     rw [this]; omega
    refine ⟨?_, by simp [q2]⟩
    rw [hc, q1, ← hu]; rfl
set_option maxHeartbeats 2000000 in
set_option maxRecDepth 100000 in
theorem string_walk (L : Lays.n169 P ρ) (X : Builder.Extra P ρ) (b g cap : Nat) (p : Value) (cur : Array Value) (l : List UInt8) (w : World) (hbk : w.heap[b]? = some (.cells #[p, .slice (some ⟨g, 0, none⟩) l.length cap] (ρ.t 72) (0, 0)))
  (hg : w.heap[g]? = some (.cells cur (ρ.t 5) (0, 0))) (h0 : l ≠ []) (hnc : l.length ≤ cap) (hcm : cap ≤ maxLen) (hcs : cur.size = cap) (hcell : ∀ (j : Nat) (x : UInt8), l[j]? = some x → w.cell? ((⟨g, 0, none⟩ : Addr).add j) = some (.int .u8 x.toNat)) :
  Calls P (ρ.f 169) #[.pointer (some ⟨b, 0, none⟩)] w fun e w' => e = .returned (.string ⟨l.toArray⟩) ∧ w' = w.drew.freeze ⟨g, 0, none⟩ l.length := by
 have hl0 : l.length ≠ 0 := by simpa using h0
 have c1 : w.drew.cell? ⟨b, 1, none⟩ = some (.slice (some ⟨g, 0, none⟩) l.length cap) := by
  have : w.drew.heap[b]? = some (.cells #[p, .slice (some ⟨g, 0, none⟩) l.length cap] (ρ.t 72) (0, 0)) := hbk
  rw [Lib.cell_of_heap this]; rfl
 have hSD : (Builtin.unsafeSliceData_ #[(ρ.t 37)] (ρ.t 127) #[.slice (some ⟨g, 0, none⟩) l.length cap]).run P w.drew = .ok (.pointer (some ⟨g, 0, none⟩)) w.drew :=
  Lib.run_unsafeSliceData_row _ _ _ _ _ _ (by omega)
 have hUS : (Builtin.unsafeString_ #[(ρ.t 127), (ρ.t 3)] (ρ.t 9) #[.pointer (some ⟨g, 0, none⟩), .int .i64 l.length]).run P w.drew = .ok (.string ⟨l.toArray⟩) (w.drew.freeze ⟨g, 0, none⟩ l.length) :=
  Lib.run_unsafeString_row w.drew (ρ.t 127) (ρ.t 3) (ρ.t 9) (ρ.t 5) L.t127 X.cellsByte g cur.size (by have hg' : w.drew.heap[g]? = some (.cells cur (ρ.t 5) (0, 0)) := hg; simp [World.shape?, hg']) l h0 (by omega) (by unfold maxLen at hcm; omega) hcell
 clear hcell hcs hcm hnc
 have mixed := L.mixed
 have t72 := L.t72; have a72 := L.a72; have z72 := L.z72; have v72 := L.v72; have u72 := run_underlying L.t72
 have t70 := L.t70; have a70 := L.a70; have z70 := L.z70; have v70 := L.v70; have u70 := run_underlying L.t70
 have t37 := L.t37; have a37 := L.a37; have z37 := L.z37; have v37 := L.v37; have u37 := run_underlying L.t37
 have t127 := L.t127; have a127 := L.a127; have z127 := L.z127; have v127 := L.v127; have u127 := run_underlying L.t127
 have t3 := L.t3; have a3 := L.a3; have z3 := L.z3; have v3 := L.v3; have u3 := run_underlying L.t3
 have t9 := L.t9; have a9 := L.a9; have z9 := L.z9; have v9 := L.v9; have u9 := run_underlying L.t9
 have t5 := X.t5; have a5 := X.a5; have z5 := X.z5; have v5 := X.v5; have u5 := run_underlying X.t5
 go_enter L.f169, Body.n169_ntmps ρ
 go_wp2
 go_region_o
 all_goals (go_wp2; go_ret; exact ⟨rfl, rfl⟩)
theorem string_ok (L : Lays.n169 P ρ) (X : Builder.Extra P ρ) {f t ts : Nat} (hf : f = ρ.f 169) (ht : t = ρ.t 72) (hts : ts = ρ.t 9) (hb0 : bldT P (ρ.t 72) = some (ρ.t 37, ρ.t 5)) : PrimOk P O.stringF ⟨f, [.bld t false], [.whole ts], al⟩ := by
 intro w X0 xs args Ls rs hr hn hX hlt hf'
 subst hf ht hts
 match args, hr with
 | [u], hr =>
  obtain ⟨_, _, _, _, rfl, rfl, ⟨b, c0, c1, ys, st, e, rfl, hb, hc, hbt, rfl, hrow, rfl⟩, rfl, rfl⟩ := hr
  rw [hb0] at hbt; injection hbt with hbt; injection hbt with i1 i2; subst i1; subst i2
  simp only [List.append_nil] at hf' hn hX hrow ⊢
  simp only [O.stringF] at hf'
  rw [Option.map_eq_some_iff] at hf'
  obtain ⟨l, hl, hf'⟩ := hf'
  subst hf'
  obtain ⟨h1, cs, hown, h3, h4⟩ := hrow
  obtain ⟨f1, f2, f3, f4, f5⟩ := bldT_ok hb0
  have hlen : cs.length = ys.length := by have := hown.1; rw [f5] at this; omega
  obtain ⟨rfl, hyl⟩ := bytes_of (intK_eq f1) f5 ys cs l hlen h3 hl
  rw [f5, hyl] at hown
  have fin : ∀ (w' : World) (s : ByteArray), s = ⟨l.toArray⟩ → WStep (· ∈ b :: (blk c1).toList) w w' →
    After P X0 ⟨ρ.f 169, [.bld (ρ.t 72) false], [.whole (ρ.t 9)], al⟩ [.pointer (some ⟨b, 0, none⟩)] (b :: (blk c1).toList) [.str ⟨l.toArray⟩] w (.string s) w' := by
   intro w' s hs hw
   subst hs
   refine ⟨hw, [.string ⟨l.toArray⟩], [.str ⟨l.toArray⟩], [], [], [], rfl, rfl, by simp, by simp, ?_, by simp [BackRel, PS.isBack]⟩
   exact ⟨[_], [], [], [], rfl, rfl, ⟨_, rfl, rfl, .str L.t9⟩, rfl, rfl⟩
  have below : ∀ {w' : World}, Below w.heap.size w w' → WStep (· ∈ b :: (blk c1).toList) w w' := fun h => ⟨h.os, h.tape, h.output, h.size, fun k hk _ => h.block k hk⟩
  refine .inl ⟨_, L.f169, by kernel_rfl, by kernel_rfl, ?_⟩
  obtain ⟨_, hown2⟩ := hown
  rcases hown2 with ⟨rfl, hn0⟩ | ⟨g, cap, cur, rfl, _, hg, hnc, hcm, hcs, htake⟩
  ·have hl0 : l = [] := List.length_eq_zero_iff.1 hn0
   subst hl0
   refine (Any.Builder_String_nil L X w.heap.size b c0 w hb).mono fun e w' hew => ?_
   obtain ⟨rfl, hw⟩ := hew
   exact ⟨_, rfl, fin w' _ rfl (below hw)⟩
  ·by_cases hl0 : l = []
   ·subst hl0
    by_cases hc0 : cap = 0
    ·subst hc0
     refine (Any.Builder_String_noroom L X w.heap.size b g c0 cur w (Nat.le_refl _) hb hg).mono fun e w' hew => ?_
     obtain ⟨rfl, hw⟩ := hew
     exact ⟨_, rfl, fin w' _ rfl (below hw)⟩
    ·refine (Any.Builder_String_room L X w.heap.size b g cap c0 w hc0 hb).mono fun e w' hew => ?_
     obtain ⟨rfl, hw⟩ := hew
     exact ⟨_, rfl, fin w' _ rfl (below hw)⟩
   ·have hcell : ∀ (j : Nat) (x : UInt8), l[j]? = some x → w.cell? ((⟨g, 0, none⟩ : Addr).add j) = some (.int .u8 x.toNat) := by
     intro j x hx
     rw [addr_of]
     simp only [World.cell?, hg]
     have hj := (List.getElem?_eq_some_iff.1 hx).1
     have := congrArg (fun q => q[j]?) htake
     simp only [Nat.mul_one, List.getElem?_take, hj, if_true, Lib.byteCells, List.getElem?_map, hx, Option.map_some] at this
     simpa using this
    refine (string_walk L X b g cap c0 cur l w hb hg hl0 hnc hcm (by omega) hcell).mono fun e w' hew => ?_
    obtain ⟨rfl, rfl⟩ := hew
    refine ⟨_, rfl, fin _ _ rfl ?_⟩
    unfold World.freeze
    split
    ·exact ⟨rfl, rfl, rfl, Nat.le_refl _, fun _ _ _ => rfl⟩
    ·refine ⟨rfl, rfl, rfl, by show w.heap.size ≤ (w.drew.heap.modify _ _).size; rw [Array.size_modify]; exact Nat.le_refl _, fun k hk hkn => ?_⟩
     have hkg : k ≠ g := fun e => hkn (by subst e; simp [blk])
     simp only [Array.getElem?_modify]
     rw [if_neg (fun e => hkg e.symm)]
     rfl
end
end Go.CT
