import Derived.Test.YtcamikkadiiobaaCtC
import Derived.Shelf.Spec.SlicesInsert
import Derived.Shelf.Spec.SlicesInsertGrow
set_option linter.unusedVariables false
set_option linter.unusedSimpArgs false
namespace Go.CT
open Go.Proofs Go.Shelf Go.RowKit Go.Lib

/-! ## slices.Insert of one number, out of the shelf's contract -/
/-- What slices.Insert says of rows of one's own. -/
def O.insertF : List IV → Option (List IV)
  | [.list xs, .int i, .list [y]] => if 0 ≤ i ∧ i ≤ xs.length ∧ xs.length ≤ 1073741824 then some [.list (xs.take i.toNat ++ y :: xs.drop i.toNat)] else none
  | _ => none

theorem setCells_heap (b : Nat) (e : TypeId) : ∀ (vs : List Value) (o : Nat) (w : World) (cur : Array Value), w.heap[b]? = some (.cells cur e (0, 0)) →
    ∃ cur' : Array Value, (w.setCells b o vs).heap[b]? = some (.cells cur' e (0, 0)) ∧ cur'.size = cur.size ∧ ∀ j, cur'[j]? = if o ≤ j ∧ j < o + vs.length ∧ j < cur.size then vs[j - o]? else cur[j]?
  | [], o, w, cur, h => ⟨cur, h, rfl, fun j => by rw [if_neg]; simp; omega⟩
  | v :: r, o, w, cur, h => by
    have h1 : (w.setCell ⟨b, o, none⟩ v).heap[b]? = some (.cells (cur.setIfInBounds o v) e (0, 0)) := by
      simp [World.setCell, Array.getElem?_modify, h]
    obtain ⟨cur', g1, g2, g3⟩ := setCells_heap b e r (o + 1) _ _ h1
    refine ⟨cur', g1, by simpa using g2, fun j => ?_⟩
    rw [g3 j]
    simp only [Array.size_setIfInBounds, List.length_cons]
    by_cases c : j = o
    · subst c
      rw [if_neg (by omega)]
      by_cases d : j < cur.size
      · rw [if_pos ⟨by omega, by omega, d⟩, Array.getElem?_setIfInBounds_self_of_lt d, Nat.sub_self]; rfl
      · rw [if_neg (by omega), Array.getElem?_eq_none (by simpa using d), Array.getElem?_eq_none (by omega)]
    · rw [Array.getElem?_setIfInBounds_ne (by omega)]
      by_cases d : o + 1 ≤ j ∧ j < o + 1 + r.length ∧ j < cur.size
      · rw [if_pos d, if_pos ⟨by omega, by omega, d.2.2⟩]
        rw [show j - o = (j - (o + 1)) + 1 by omega]; rfl
      · rw [if_neg d, if_neg (by omega)]
theorem setCells_other (b : Nat) : ∀ (vs : List Value) (o : Nat) (w : World) (k : Nat), k ≠ b → (w.setCells b o vs).heap[k]? = w.heap[k]?
  | [], _, _, _, _ => rfl
  | v :: r, o, w, k, h => by
    rw [World.setCells, setCells_other b r (o + 1) _ k h]
    simp [World.setCell, Array.getElem?_modify]
    intro e; exact absurd e.symm h
theorem setCells_same (b : Nat) : ∀ (vs : List Value) (o : Nat) (w : World), (w.setCells b o vs).os = w.os ∧ (w.setCells b o vs).tape = w.tape ∧ (w.setCells b o vs).output = w.output ∧ (w.setCells b o vs).heap.size = w.heap.size
  | [], _, _ => ⟨rfl, rfl, rfl, rfl⟩
  | v :: r, o, w => by
    rw [World.setCells]
    obtain ⟨h1, h2, h3, h4⟩ := setCells_same b r (o + 1) (w.setCell ⟨b, o, none⟩ v)
    exact ⟨h1.trans rfl, h2.trans rfl, h3.trans rfl, h4.trans (World.size_setCell ..)⟩
/-- What stands in a row after one is put between. -/
theorem ins_take {cs : List Value} {x : Value} {cur : Array Value} {i : Nat} (hi : i ≤ cs.length) (hs : cs.length + 1 ≤ cur.size) (h : ∀ j, j < cs.length + 1 → cur[j]? = if j < i then cs[j]? else if j = i then some x else cs[j - 1]?) :
    cur.toList.take (cs.length + 1) = cs.take i ++ x :: cs.drop i := by
  refine List.ext_getElem? fun j => ?_
  rw [List.getElem?_take]
  by_cases hj : j < cs.length + 1
  · rw [if_pos hj, Array.getElem?_toList, h j hj, List.getElem?_append, List.length_take, Nat.min_eq_left hi]
    by_cases c : j < i
    · rw [if_pos c, if_pos c, List.getElem?_take, if_pos c]
    · rw [if_neg c, if_neg c]
      by_cases d : j = i
      · subst d; simp
      · rw [if_neg d, show j - i = (j - i - 1) + 1 by omega, List.getElem?_cons_succ, List.getElem?_drop]
        congr 1; omega
  · rw [if_neg hj, List.getElem?_eq_none]
    simp; omega
section
variable {P : Program} {w : World} {O : Nat → Prop} {e : TypeId} {k : IntKind}
theorem ints_of (he : P.underlying e = some (.int k)) (hs : sizeT P e = 1) : ∀ (ys : List IV) (cs : List Value), cs.length = ys.length → Elems P w O e ys cs → ∃ ns : List Int, ys = ns.map IV.int ∧ cs = ns.map (Value.int k)
  | [], [], _, _ => ⟨[], rfl, rfl⟩
  | [], _ :: _, h, _ => by simp at h
  | _ :: _, [], h, _ => by simp at h
  | y :: ys, c :: cs, h, hE => by
    obtain ⟨v, h1, h2, h3⟩ := hE 0 y rfl
    obtain ⟨n, rfl, rfl⟩ := h1.int_inv he
    obtain ⟨ns, rfl, rfl⟩ := ints_of he hs ys cs (by simpa using h) fun j x hx => by
      obtain ⟨v, g1, g2, g3⟩ := hE (j + 1) x hx
      refine ⟨v, g1, ?_, g3⟩
      rw [g2, hs]
      simp
    rw [hs] at h2
    simp at h2
    have : Value.int k n = c := by
      have e1 : (Value.int k n).cells.toList = [Value.int k n] := rfl
      rw [e1] at h2
      simpa using h2
    exact ⟨n :: ns, rfl, by rw [← this]; rfl⟩
theorem elems_of (he : P.underlying e = some (.int k)) (hs : sizeT P e = 1) (ns : List Int) : Elems P w O e (ns.map IV.int) (ns.map (Value.int k)) := fun j x hx => by
  rw [List.getElem?_map, Option.map_eq_some_iff] at hx
  obtain ⟨n, hn, rfl⟩ := hx
  refine ⟨.int k n, .int he, ?_, by rw [hs]; rfl⟩
  have e1 : (Value.int k n).cells.toList = [Value.int k n] := rfl
  rw [e1, hs, Nat.mul_one]
  have hlt := (List.getElem?_eq_some_iff.1 hn).1
  rw [List.drop_eq_getElem_cons (by simpa using hlt)]
  simp [(List.getElem?_eq_some_iff.1 hn).2]
end

/-- slices.Insert of one number into a row of one's own. -/
theorem insert_ok {P : Program} {ρ : Ren} (Ls : Lays2.n21 P ρ) {f : FuncId} {ts ti : TypeId} (hf : f = ρ.f 21) (hts : ts = ρ.t 22) (hti : ti = ρ.t 3) (hs1 : sizeT P ti = 1) (hl : leaves P ts = some [ts]) (hst : sizeT P ts = 1) {al : Bool} :
    PrimOk P O.insertF ⟨f, [.own ts, .data ti, .own ts], [.cells ts [true]], al⟩ := by
  intro w X xs args L rs hr hn hX hlt hf'
  subst hf hts hti
  have hi64 : P.underlying (ρ.t 3) = some (.int .i64) := Ls.t3
  have ht22 : P.underlying (ρ.t 22) = some (.slice (ρ.t 3)) := Ls.t22
  match args, hr with
  | [s, iv, v], hr =>
  obtain ⟨_, _, L1, _, rfl, rfl, ⟨e1, ys, rfl, rfl, h1, hs0, cs, hown, hE, hone⟩, _, _, _, _, rfl, rfl, ⟨ix, rfl, rfl, hix⟩, _, _, L3, _, rfl, rfl, ⟨e3, zs, rfl, rfl, h3, hz0, ds, hown3, hE3, hone3⟩, rfl, rfl⟩ := hr
  rw [ht22] at h1; injection h1 with h1; injection h1 with h1; subst h1
  rw [ht22] at h3; injection h3 with h3; injection h3 with h3; subst h3
  obtain ⟨i, rfl, rfl⟩ := hix.int_inv hi64
  rw [hs1] at hown hown3
  obtain ⟨ns, rfl, rfl⟩ := ints_of hi64 hs1 ys cs (by have := hown.1; omega) hE
  obtain ⟨ms, rfl, rfl⟩ := ints_of hi64 hs1 zs ds (by have := hown3.1; omega) hE3
  simp only [List.singleton_append, List.nil_append, List.append_nil] at hf' hn hX ⊢
  -- one number
  match ms, hf', hown3, hn, hX with
  | [], hf', _, _, _ => simp [O.insertF] at hf'
  | _ :: _ :: _, hf', _, _, _ => simp [O.insertF] at hf'
  | [m], hf', hown3, hn, hX =>
  simp only [O.insertF, List.map_cons, List.map_nil] at hf'
  rw [Option.ite_none_right_eq_some] at hf'
  obtain ⟨⟨hi0, hil, hlen⟩, hf'⟩ := hf'
  injection hf' with hf'
  subst hf'
  obtain ⟨i, rfl⟩ := Int.eq_ofNat_of_zero_le hi0
  simp only [List.length_map, Int.ofNat_eq_natCast, Int.toNat_natCast, Int.ofNat_le] at hil hlen ⊢
  simp only [List.length_map, List.length_cons, List.length_nil, List.map_cons, List.map_nil] at hown hown3
  -- the row of the new
  obtain ⟨_, hv⟩ := hown3
  rcases hv with ⟨_, hv⟩ | ⟨g2, cap2, cur2, rfl, _, hb2, hc2, hm2, hz2, hk2⟩
  · omega
  have hblk2 : blk (.slice (some ⟨g2, 0, none⟩) (0 + 1) cap2) = some g2 := rfl
  have hc20 : cur2[0]? = some (.int .i64 m) := by
    have := congrArg (fun l => l[0]?) hk2
    simpa [List.getElem?_take] using this
  have hvs : ∀ j v, ([Value.int .i64 m] : List Value)[j]? = some v → w.cell? ⟨g2, 0 + j, none⟩ = some v := fun j v hj => by
    match j, hj with
    | 0, hj =>
      simp at hj; subst hj
      simp [World.cell?, hb2, hc20]
  have h1v : ∀ v ∈ ([Value.int .i64 m] : List Value), v.oneCell' = true := by simp [Value.oneCell']
  have h1c : ∀ v ∈ ns.map (Value.int .i64), v.oneCell' = true := by simp [Value.oneCell']
  have hfrz : ∀ (b : Nat) (cur : Array Value), w.heap[b]? = some (.cells cur (ρ.t 3) (0, 0)) → ∀ o, w.frozen? ⟨b, o, none⟩ = false := fun b cur hb o => by simp [World.frozen?, hb]
  have hshape : ∀ (b : Nat) (cur : Array Value), w.heap[b]? = some (.cells cur (ρ.t 3) (0, 0)) → w.shape? b = some (ρ.t 3, cur.size) := fun b cur hb => by simp [World.shape?, hb]
  -- what the caller is told
  have fin : ∀ (w' : World) (g n' cap : Nat) (cur' : Array Value), n' = ns.length + 1 → w'.heap[g]? = some (.cells cur' (ρ.t 3) (0, 0)) → n' ≤ cap → cap ≤ maxLen → cur'.size = cap →
      cur'.toList.take (ns.length + 1) = (ns.map (Value.int .i64)).take i ++ .int .i64 m :: (ns.map (Value.int .i64)).drop i →
      WStep (· ∈ (blk s).toList ++ (blk (.slice (some ⟨g2, 0, none⟩) (0 + 1) cap2)).toList) w w' → (g ∈ (blk s).toList ∨ w.heap.size ≤ g) →
      After P X ⟨ρ.f 21, [.own (ρ.t 22), .data (ρ.t 3), .own (ρ.t 22)], [.cells (ρ.t 22) [true]], al⟩ [s, .int .i64 i, .slice (some ⟨g2, 0, none⟩) (0 + 1) cap2] ((blk s).toList ++ (blk (.slice (some ⟨g2, 0, none⟩) (0 + 1) cap2)).toList)
        [.list ((ns.map IV.int).take i ++ .int m :: (ns.map IV.int).drop i)] w (.slice (some ⟨g, 0, none⟩) n' cap) w' := by
    intro w' g n' cap cur' hn' hb hcap hmax hsz hcur hstep hg
    subst hn'
    refine ⟨hstep, [.slice (some ⟨g, 0, none⟩) (ns.length + 1) cap], [.list ((ns.map IV.int).take i ++ .int m :: (ns.map IV.int).drop i)], [], [g], [], rfl, by simp, by simp, ?_, ?_, ?_⟩
    · intro b hb; simp at hb; subst hb
      rcases hg with h | h
      · exact .inl (List.mem_append_left _ h)
      · exact .inr h
    · refine ⟨[.list ((ns.map IV.int).take i ++ .int m :: (ns.map IV.int).drop i)], [], [g], [], rfl, rfl, ?_, ⟨rfl, rfl⟩⟩
      have hk : (ns.map (Value.int .i64)).take i ++ .int .i64 m :: (ns.map (Value.int .i64)).drop i = (ns.take i ++ m :: ns.drop i).map (Value.int .i64) := by simp [List.map_take, List.map_drop]
      have hk2 : (ns.map IV.int).take i ++ .int m :: (ns.map IV.int).drop i = (ns.take i ++ m :: ns.drop i).map IV.int := by simp [List.map_take, List.map_drop]
      have hlen2 : (ns.take i ++ m :: ns.drop i).length = ns.length + 1 := by simp; omega
      refine ⟨[ρ.t 22], hl, by simp [Value.cells, hst], ?_, ?_⟩
      · have : isAggT P (ρ.t 22) = false := by simp [isAggT, ht22]
        simp [this, Value.oneCell']
      · refine ⟨ρ.t 3, (ns.take i ++ m :: ns.drop i).map IV.int, [], by rw [hk2], ht22, ⟨by omega, (ns.take i ++ m :: ns.drop i).map (Value.int .i64), ?_, elems_of hi64 hs1 _, fun u hu => by obtain ⟨n, _, rfl⟩ := List.mem_map.1 hu; rfl⟩, rfl, rfl⟩
        rw [hs1, List.length_map, hlen2]
        refine ⟨by rw [List.length_map, hlen2]; omega, .inr ⟨g, cap, cur', rfl, Nat.zero_le _, hb, hcap, hmax, by omega, ?_⟩⟩
        rw [Nat.mul_one, hcur, hk]
    · simp [BackRel, PS.isBack]
  refine .inl ⟨_, Ls.f21, by kernel_rfl, by kernel_rfl, ?_⟩
  have hstepA : ∀ (W : Nat → Prop) (o : Obj), WStep W w (w.drew.alloc o) := fun W o =>
    ⟨rfl, rfl, rfl, by rw [World.size_alloc]; exact Nat.le_succ _, fun b hb _ => heap_alloc_old w.drew o hb⟩
  have hgrow : ∀ (base : Option Addr) (c : Nat), s = .slice base ns.length c → c < ns.length + 1 → ns.length ≤ c → (base = none → ns.length = 0) → (∀ a, base = some a → ∀ j v, (ns.map (Value.int .i64))[j]? = some v → w.cell? (a.add j) = some v) → i = ns.length →
      Calls P (ρ.f 21) [s, .int .i64 i, .slice (some ⟨g2, 0, none⟩) (0 + 1) cap2].toArray w fun e w' => ∃ v, e = .returned v ∧ After P X ⟨ρ.f 21, [.own (ρ.t 22), .data (ρ.t 3), .own (ρ.t 22)], [.cells (ρ.t 22) [true]], al⟩ [s, .int .i64 i, .slice (some ⟨g2, 0, none⟩) (0 + 1) cap2] ((blk s).toList ++ (blk (.slice (some ⟨g2, 0, none⟩) (0 + 1) cap2)).toList)
        [.list ((ns.map IV.int).take i ++ .int m :: (ns.map IV.int).drop i)] w v w' := by
    intro base c hs hc hnc hnil hcs hi
    have hk := Any2.slices_Insert_int_end_grow Ls base ns.length c g2 0 1 cap2 (ns.map (Value.int .i64)) [.int .i64 m] w (by omega) hnc hc (by omega) (by simp) rfl hnil hcs hvs h1v
    rw [hs, hi]
    rw [hs, hi] at fin
    refine hk.mono fun e w' hew => ?_
    obtain ⟨rfl, rfl⟩ := hew
    have hge := grownCap_ge w (ns.length + 1) c (ρ.t 3)
    refine ⟨_, rfl, fin _ w.heap.size (ns.length + 1) _ _ rfl (heap_alloc_new w.drew _) hge (grownCap_le_maxLen w _ _ _ (by unfold maxLen; omega)) ?_ ?_ (hstepA _ _) (.inr (Nat.le_refl _))⟩
    · simp only [Array.size_append, size_zeroCells, List.size_toArray, List.length_append, List.length_map, List.length_singleton]
      show ns.length + 1 + (grownCap w (ns.length + 1) c (ρ.t 3) - (ns.length + 1)) * 1 = _
      omega
    · rw [Array.toList_append]
      rw [List.take_left' (by simp)]
      rw [List.take_of_length_le (by simp), List.drop_of_length_le (by simp)]
  obtain ⟨hlenc, ⟨rfl, hn0⟩ | ⟨g, cap, cur, rfl, _, hb, hcn, hmx, hcs, hcur⟩⟩ := hown
  · have hns : ns.length = 0 := by omega
    exact hgrow none 0 (by rw [hns]) (by omega) (by omega) (fun _ => hns) (fun a h => by cases h) (by omega)
  · have hcell : ∀ j v, (ns.map (Value.int .i64))[j]? = some v → w.cell? ⟨g, 0 + j, none⟩ = some v := fun j v hj => by
      rw [← hcur, List.getElem?_take] at hj
      split at hj
      · simp [World.cell?, hb]; simpa using hj
      · cases hj
    have hcurj : ∀ j, j < ns.length → cur[j]? = (ns.map (Value.int .i64))[j]? := fun j hj => by
      rw [← hcur, List.getElem?_take, if_pos (by omega)]; simp
    by_cases hroom : ns.length + 1 ≤ cap
    · have hne : g2 ≠ g := fun e => by
        subst e
        have : ([g2, g2] : List Nat).Nodup := hn
        simp at this
      by_cases hi : i = ns.length
      · have hk := Any2.slices_Insert_int_end_room Ls g 0 ns.length cap g2 0 1 cap2 [.int .i64 m] w (by omega) hroom hmx rfl
          (fun j hj => by
            have : 0 + ns.length + j < cur.size := by omega
            simp [World.cell?, hb, Array.getElem?_eq_getElem this]; omega) (fun j _ => hfrz g cur hb _) hvs h1v
        subst hi
        refine hk.mono fun e w' hew => ?_
        obtain ⟨rfl, rfl⟩ := hew
        obtain ⟨cur', k1, k2, k3⟩ := setCells_heap g (ρ.t 3) [.int .i64 m] (0 + ns.length) w cur hb
        obtain ⟨q1, q2, q3, q4⟩ := setCells_same g [.int .i64 m] (0 + ns.length) w
        refine ⟨_, rfl, fin _ g (ns.length + 1) cap cur' rfl k1 hroom hmx (by omega) ?_ ⟨q1, q2, q3, by omega, fun b hb' hbn => setCells_other g _ _ w b fun e => hbn (by subst e; simp [blk])⟩ (.inl (by simp [blk]))⟩
        have hins := ins_take (cs := ns.map (Value.int .i64)) (x := .int .i64 m) (cur := cur') (i := ns.length) (by simp) (by simp; omega) (fun j hj => by
          rw [k3]
          simp only [List.length_map] at hj
          by_cases c : j < ns.length
          · rw [if_neg (by simp; omega), if_pos c, hcurj j c]
          · rw [if_pos (by simp; omega), if_neg c, if_pos (by omega)]
            have : j - (0 + ns.length) = 0 := by omega
            rw [this]; rfl)
        simpa using hins
      · have hk := Any2.slices_Insert_int_shift Ls g 0 ns.length cap i g2 0 1 cap2 (ns.map (Value.int .i64)) [.int .i64 m] w (by omega) (by omega) hroom hmx hne (by simp) rfl hcell
          (fun j hj => by
            have : 0 + j < cur.size := by omega
            simp [World.cell?, hb, Array.getElem?_eq_getElem this]; omega) (fun j _ => hfrz g cur hb _) hvs h1c h1v _ _ _ _ (hshape g2 cur2 hb2) (hshape g cur hb) (by omega) (hfrz g2 cur2 hb2 _) (hfrz g2 cur2 hb2 _)
        refine hk.mono fun e w' hew => ?_
        obtain ⟨rfl, rfl⟩ := hew
        obtain ⟨cur1, k1, k2, k3⟩ := setCells_heap g (ρ.t 3) ((ns.map (Value.int .i64)).drop i) (0 + (i + 1)) w.drew cur hb
        obtain ⟨cur', r1, r2, r3⟩ := setCells_heap g (ρ.t 3) [.int .i64 m] (0 + i) _ cur1 k1
        obtain ⟨q1, q2, q3, q4⟩ := setCells_same g ((ns.map (Value.int .i64)).drop i) (0 + (i + 1)) w.drew
        obtain ⟨p1, p2, p3, p4⟩ := setCells_same g [.int .i64 m] (0 + i) (w.drew.setCells g (0 + (i + 1)) ((ns.map (Value.int .i64)).drop i))
        refine ⟨_, rfl, fin _ g (ns.length + 1) cap cur' rfl r1 hroom hmx (by omega) ?_ ⟨p1.trans q1, p2.trans q2, p3.trans q3, by rw [p4, q4]; exact Nat.le_refl _, fun b hb' hbn => ?_⟩ (.inl (by simp [blk]))⟩
        · have hins := ins_take (cs := ns.map (Value.int .i64)) (x := .int .i64 m) (cur := cur') (i := i) (by simp; omega) (by simp; omega) (fun j hj => by
            rw [r3]
            simp only [List.length_map] at hj
            by_cases c : j < i
            · rw [if_neg (by simp; omega), if_pos c, k3, if_neg (by simp; omega), hcurj j (by omega)]
            · rw [if_neg c]
              by_cases d : j = i
              · rw [if_pos (by simp; omega), if_pos d]
                have : j - (0 + i) = 0 := by omega
                rw [this]; rfl
              · rw [if_neg (by simp; omega), if_neg d, k3, if_pos (by simp; omega), List.getElem?_drop]
                congr 1; omega)
          simpa using hins
        · have hbg : b ≠ g := fun e => hbn (by subst e; simp [blk])
          rw [setCells_other g _ _ _ b hbg, setCells_other g _ _ _ b hbg]; rfl
    · by_cases hi : i = ns.length
      · exact hgrow (some ⟨g, 0, none⟩) cap rfl (by omega) hcn (fun h => by cases h) (fun a ha j v hj => by injection ha with ha; subst ha; rw [Addr.add_lit]; exact hcell j v hj) hi
      · have hk := Any2.slices_Insert_int_grow Ls g 0 ns.length cap i g2 0 1 cap2 (ns.map (Value.int .i64)) [.int .i64 m] w (by omega) (by omega) hcn (by omega) (by omega) (by simp) rfl hcell hvs h1c h1v
        refine hk.mono fun e w' hew => ?_
        obtain ⟨rfl, rfl⟩ := hew
        have hge := grownCap_ge w (ns.length + 1) cap (ρ.t 3)
        generalize hcz : (((ns.map (Value.int .i64)).take i).toArray ++ Builtin.zeroCells (Value.int .i64 0).cells (ns.length + 1 - i) ++ Builtin.zeroCells (Value.int .i64 0).cells (grownCap w (ns.length + 1) cap (ρ.t 3) - (ns.length + 1))) = cz
        have hzs : cz.size = grownCap w (ns.length + 1) cap (ρ.t 3) := by
          rw [← hcz]
          simp only [Array.size_append, size_zeroCells, List.size_toArray, List.length_take, List.length_map]
          show min i ns.length + (ns.length + 1 - i) * 1 + (grownCap w (ns.length + 1) cap (ρ.t 3) - (ns.length + 1)) * 1 = _
          omega
        have hzj : ∀ j, j < i → cz[j]? = (ns.map (Value.int .i64))[j]? := fun j hj => by
          rw [← hcz, Array.append_assoc, Array.getElem?_append_left (by simp; omega)]
          simp [List.getElem?_take, hj]
        have hb0 : ((w.alloc (.cells cz (ρ.t 3))).drew).heap[w.heap.size]? = some (.cells cz (ρ.t 3) (0, 0)) := heap_alloc_new w _
        obtain ⟨cur1, k1, k2, k3⟩ := setCells_heap w.heap.size (ρ.t 3) [.int .i64 m] i ((w.alloc (.cells cz (ρ.t 3))).drew) cz hb0
        have k1' : ((((w.alloc (.cells cz (ρ.t 3))).drew).setCells w.heap.size i [.int .i64 m]).drew).heap[w.heap.size]? = some (.cells cur1 (ρ.t 3) (0, 0)) := k1
        obtain ⟨cur', r1, r2, r3⟩ := setCells_heap w.heap.size (ρ.t 3) ((ns.map (Value.int .i64)).drop i) (i + 1) _ cur1 k1'
        obtain ⟨q1, q2, q3, q4⟩ := setCells_same w.heap.size [.int .i64 m] i ((w.alloc (.cells cz (ρ.t 3))).drew)
        obtain ⟨p1, p2, p3, p4⟩ := setCells_same w.heap.size ((ns.map (Value.int .i64)).drop i) (i + 1) ((((w.alloc (.cells cz (ρ.t 3))).drew).setCells w.heap.size i [.int .i64 m]).drew)
        refine ⟨_, rfl, fin _ w.heap.size (ns.length + 1) (grownCap w (ns.length + 1) cap (ρ.t 3)) cur' rfl r1 hge (grownCap_le_maxLen w _ _ _ (by unfold maxLen; omega)) (by omega) ?_ ⟨p1.trans q1, p2.trans q2, p3.trans q3, ?_, fun b hb' hbn => ?_⟩ (.inr (Nat.le_refl _))⟩
        · have hins := ins_take (cs := ns.map (Value.int .i64)) (x := .int .i64 m) (cur := cur') (i := i) (by simp; omega) (by simp; omega) (fun j hj => by
            rw [r3]
            simp only [List.length_map] at hj
            by_cases c : j < i
            · rw [if_neg (by simp; omega), if_pos c, k3, if_neg (by simp; omega), hzj j c]
            · rw [if_neg c]
              by_cases d : j = i
              · rw [if_neg (by simp; omega), if_pos d, k3, if_pos (by simp; omega)]
                have : j - i = 0 := by omega
                rw [this]; rfl
              · rw [if_pos (by simp; omega), if_neg d, List.getElem?_drop]
                congr 1; omega)
          simpa using hins
        · rw [p4]
          show w.heap.size ≤ (((w.alloc (.cells cz (ρ.t 3))).drew).setCells w.heap.size i [.int .i64 m]).heap.size
          rw [q4]
          show w.heap.size ≤ (w.alloc (.cells cz (ρ.t 3))).heap.size
          rw [World.size_alloc]; omega
        · have hbg : b ≠ w.heap.size := by omega
          rw [setCells_other _ _ _ _ b hbg]
          show (((w.alloc (.cells cz (ρ.t 3))).drew).setCells w.heap.size i [.int .i64 m]).heap[b]? = _
          rw [setCells_other _ _ _ _ b hbg]
          exact heap_alloc_old w _ hb'
end Go.CT
