import Derived.Test.YteolldkpochcjaaDoorCtA
import Derived.Test.YteolldkpochcjaaDoorLa
set_option linter.unusedVariables false
set_option linter.unusedSimpArgs false
namespace Go.Proofs.Spl
open Go Go.Proofs Go.RowKit Go.Shelf
attribute [local go_sem] Oper.semAt_some
attribute [-go_sem] Builtin.append_
theorem six (w : World) (a b c d e f : Obj) : ∀ W, W = (((((w.alloc a).alloc b).alloc c).alloc d).alloc e).alloc f →
  W.heap.size = w.heap.size + 6 ∧ W.heap[w.heap.size + 1]? = some b ∧ W.heap[w.heap.size + 1 + 1]? = some c ∧ W.heap[w.heap.size + 3]? = some d ∧ W.heap[w.heap.size + 4]? = some e ∧ W.heap[w.heap.size + 5]? = some f := by
 rintro W rfl
 refine ⟨by simp, ?_, ?_, ?_, ?_, ?_⟩ <;> simp only [World.alloc, Array.getElem?_push, Array.size_push] <;> (repeat (first | rw [if_pos trivial] | rw [if_pos (by omega)] | rw [if_neg (by omega)]))
theorem cell_one' {W : World} {b : Nat} {v : Value} {t : TypeId} (h : W.heap[b]? = some (.cells #[v] t)) : W.cell? ⟨b, 0, none⟩ = some v := by simp [World.cell?, h]
theorem has_wide : Has Fence.wide := ⟨trivial, trivial, trivial, trivial, trivial, trivial, trivial, trivial, trivial, trivial, rfl⟩
set_option maxRecDepth 100000 in
set_option maxHeartbeats 8000000 in
theorem comm_out (A : Option Addr) (k c : Nat) (dv wv : Value) (i : Int) (w : World) (hi : i < 0 ∨ (k : Int) ≤ i) :
  Calls Tryd.prog 9 #[.agg #[.slice A k c, dv, wv], .int .i64 i] w fun e w' => e = .returned (.slice none 0 0) ∧ w' = w.alloc (.cells #[.slice A k c, dv, wv] 29) := by
 refine (callsIn_wide (n := 10)).1 ?_
 have hro : Fence.wide.round = none := rfl
 refine callsIn_of_wp Tryd.func9 rfl trivial ?_ hro
 simp only [Tryd.ntmps9, List.size_toArray, List.length_cons, List.length_nil, Nat.reduceAdd, Nat.reduceSub, Array.replicate_succ, Array.replicate_zero, List.push_toArray, List.append_toArray, List.nil_append, List.cons_append]
 rcases hi with hi | hi
 ·gi_wp2
  go_ret
  exact ⟨rfl, rfl⟩
 ·by_cases h0 : i < 0
  ·gi_wp2
   go_ret
   exact ⟨rfl, rfl⟩
  ·gi_wp2
   go_ret
   exact ⟨rfl, rfl⟩
theorem info9 : (Tryd.prog.info? 9).map (fun i => (i.zero, i.size, i.bytes)) = some (some (.string ⟨#[]⟩), 1, 16) := by kernel_rfl
theorem under31 : Tryd.prog.underlying 31 = some (.slice 9) := by kernel_rfl
theorem then_false {F : Fence} {n : Nat} {P : Program} {c : Code} {K : Act → World → Prop} {Q : Exit → Act → World → Prop} {a : Act} {W : World} (h : c.wpIn F n P (Exit.then K fun _ _ _ => False) a W) : c.wpIn F n P (Exit.then K Q) a W :=
 wpIn_mono h fun e _ _ h => by cases e <;> first | exact h | exact h.elim
theorem row_some {w : World} {b : Nat} {e : TypeId} {size : Nat} {v : Value} {k : Nat} {xs : List Value} (h : w.ownsRow b e size v k xs) (hk : 0 < k) : ∃ g cap, v = .slice (some ⟨g, 0, none⟩) k cap := by
 rcases h.2 with ⟨_, h0⟩ | ⟨g, cap, _, rfl, _⟩
 ·omega
 ·exact ⟨g, cap, rfl⟩
set_option maxRecDepth 100000 in
set_option maxHeartbeats 16000000 in
theorem comm_in (ad : Addr) (k c : Nat) (dv wv : Value) (i : Nat) (w : World) (hi : i < k) (hc : k ≤ maxLen) (v0 v1 v2 v3 v4 v5 v6 v7 v8 v9 v10 v12 v13 v14 v15 : Value) (m : Int)
  (hcs : ∀ (j : Nat) u, [v0, v1, v2, v3, v4, v5, v6, v7, v8, v9, v10, .int .i64 m, v12, v13, v14, v15, .string ⟨#[]⟩][j]? = some u → w.cell? ((ad.add (i * 17)).add j) = some u)
  (ho : ∀ v ∈ [v0, v1, v2, v3, v4, v5, v6, v7, v8, v9, v10, v12, v13, v14, v15], v.oneCell' = true)
  (zs : List ByteArray) (hz : 0 < zs.length ∧ zs.length ≤ 1048576)
  (hD : ∀ W, Below w.heap.size w W → Calls Tryd.prog 20 #[.agg #[v0, v1, v2, v3, v4, v5, v6, v7, v8, v9, v10, .int .i64 m, v12, v13, v14, v15, .string ⟨#[]⟩], .int .i64 m] W fun e W' => ∃ (v : Value), e = .returned v ∧ W'.ownsRow W.heap.size 9 1 v zs.length (zs.map .string) ∧ Below W.heap.size W W') :
  Calls Tryd.prog 9 #[.agg #[.slice (some ad) k c, dv, wv], .int .i64 i] w fun e w' => ∃ v, e = .returned v ∧ w'.ownsRow w.heap.size 9 1 v zs.length (zs.map .string) ∧ Below w.heap.size w w' := by
 refine (callsIn_wide (n := 10)).1 ?_
 have hro : Fence.wide.round = none := rfl
 refine callsIn_of_wp_marks Tryd.func9 rfl trivial ?_ hro
 simp only [Tryd.ntmps9, List.size_toArray, List.length_cons, List.length_nil, Nat.reduceAdd, Nat.reduceSub, Array.replicate_succ, Array.replicate_zero, List.push_toArray, List.append_toArray, List.nil_append, List.cons_append]
 have h0 : ¬ (i : Int) < 0 := by omega
 have h2 : ¬ (k : Int) ≤ i := by omega
 have hmax : maxLen = 9223372036854775807 := by decide
 have hb : (ad.add (i * 17)).block < w.heap.size := by have := World.block_lt_of_cell? w _ (hcs 0 v0 rfl); rwa [CT.addr_block] at this
 have hB0 : Below w.heap.size w (w.alloc (.cells #[.slice (some ad) k c, dv, wv] 29)) := (Below.refl _ w).alloc (Nat.le_refl _) _
 have hx : ∀ j u, [v0, v1, v2, v3, v4, v5, v6, v7, v8, v9, v10, .int .i64 m, v12, v13, v14, v15, .string ⟨#[]⟩][j]? = some u → (w.alloc (.cells #[.slice (some ad) k c, dv, wv] 29)).cell? ((ad.add (i * 17)).add j) = some u := fun j u hu => (hB0.cell (by rw [CT.addr_block]; exact hb)).trans (hcs j u hu)
 have c0 : (w.alloc (.cells #[.slice (some ad) k c, dv, wv] 29)).cell? (ad.add (i * 17)) = some v0 := hx 0 v0 rfl
 have c1 : (w.alloc (.cells #[.slice (some ad) k c, dv, wv] 29)).cell? { block := (ad.add (i * 17)).block, off := (ad.add (i * 17)).off + 1 } = some v1 := hx 1 v1 rfl
 have c2 : (w.alloc (.cells #[.slice (some ad) k c, dv, wv] 29)).cell? { block := (ad.add (i * 17)).block, off := (ad.add (i * 17)).off + 2 } = some v2 := hx 2 v2 rfl
 have c3 : (w.alloc (.cells #[.slice (some ad) k c, dv, wv] 29)).cell? { block := (ad.add (i * 17)).block, off := (ad.add (i * 17)).off + 3 } = some v3 := hx 3 v3 rfl
 have c4 : (w.alloc (.cells #[.slice (some ad) k c, dv, wv] 29)).cell? { block := (ad.add (i * 17)).block, off := (ad.add (i * 17)).off + 4 } = some v4 := hx 4 v4 rfl
 have c5 : (w.alloc (.cells #[.slice (some ad) k c, dv, wv] 29)).cell? { block := (ad.add (i * 17)).block, off := (ad.add (i * 17)).off + 5 } = some v5 := hx 5 v5 rfl
 have c6 : (w.alloc (.cells #[.slice (some ad) k c, dv, wv] 29)).cell? { block := (ad.add (i * 17)).block, off := (ad.add (i * 17)).off + 6 } = some v6 := hx 6 v6 rfl
 have c7 : (w.alloc (.cells #[.slice (some ad) k c, dv, wv] 29)).cell? { block := (ad.add (i * 17)).block, off := (ad.add (i * 17)).off + 7 } = some v7 := hx 7 v7 rfl
 have c8 : (w.alloc (.cells #[.slice (some ad) k c, dv, wv] 29)).cell? { block := (ad.add (i * 17)).block, off := (ad.add (i * 17)).off + 8 } = some v8 := hx 8 v8 rfl
 have c9 : (w.alloc (.cells #[.slice (some ad) k c, dv, wv] 29)).cell? { block := (ad.add (i * 17)).block, off := (ad.add (i * 17)).off + 9 } = some v9 := hx 9 v9 rfl
 have c10 : (w.alloc (.cells #[.slice (some ad) k c, dv, wv] 29)).cell? { block := (ad.add (i * 17)).block, off := (ad.add (i * 17)).off + 10 } = some v10 := hx 10 v10 rfl
 have c11 : (w.alloc (.cells #[.slice (some ad) k c, dv, wv] 29)).cell? { block := (ad.add (i * 17)).block, off := (ad.add (i * 17)).off + 11 } = some (Value.int .i64 m) := hx 11 (Value.int .i64 m) rfl
 have c12 : (w.alloc (.cells #[.slice (some ad) k c, dv, wv] 29)).cell? { block := (ad.add (i * 17)).block, off := (ad.add (i * 17)).off + 12 } = some v12 := hx 12 v12 rfl
 have c13 : (w.alloc (.cells #[.slice (some ad) k c, dv, wv] 29)).cell? { block := (ad.add (i * 17)).block, off := (ad.add (i * 17)).off + 13 } = some v13 := hx 13 v13 rfl
 have c14 : (w.alloc (.cells #[.slice (some ad) k c, dv, wv] 29)).cell? { block := (ad.add (i * 17)).block, off := (ad.add (i * 17)).off + 14 } = some v14 := hx 14 v14 rfl
 have c15 : (w.alloc (.cells #[.slice (some ad) k c, dv, wv] 29)).cell? { block := (ad.add (i * 17)).block, off := (ad.add (i * 17)).off + 15 } = some v15 := hx 15 v15 rfl
 have c16 : (w.alloc (.cells #[.slice (some ad) k c, dv, wv] 29)).cell? { block := (ad.add (i * 17)).block, off := (ad.add (i * 17)).off + 16 } = some (Value.string ⟨#[]⟩) := hx 16 (Value.string ⟨#[]⟩) rfl
 have o0 : v0.oneCell' = true := ho _ (by simp)
 have o1 : v1.oneCell' = true := ho _ (by simp)
 have o2 : v2.oneCell' = true := ho _ (by simp)
 have o3 : v3.oneCell' = true := ho _ (by simp)
 have o4 : v4.oneCell' = true := ho _ (by simp)
 have o5 : v5.oneCell' = true := ho _ (by simp)
 have o6 : v6.oneCell' = true := ho _ (by simp)
 have o7 : v7.oneCell' = true := ho _ (by simp)
 have o8 : v8.oneCell' = true := ho _ (by simp)
 have o9 : v9.oneCell' = true := ho _ (by simp)
 have o10 : v10.oneCell' = true := ho _ (by simp)
 have o12 : v12.oneCell' = true := ho _ (by simp)
 have o13 : v13.oneCell' = true := ho _ (by simp)
 have o14 : v14.oneCell' = true := ho _ (by simp)
 have o15 : v15.oneCell' = true := ho _ (by simp)
 have hrs := fun (a : Addr) (v : Value) (m : Mode) (W : World) (hv : v.oneCell' = true) => run_store Tryd.prog W a v m hv
 have f18 : Fence.wide.fn 18 := trivial
 have f19 : Fence.wide.fn 19 := trivial
 have f20 : Fence.wide.fn 20 := trivial
 gi_wp2_with (gi_at_call 18; refine (splitAfter_in Fence.wide 9 has_wide (by omega) _).mono ?_; rintro e w' ⟨rfl, rfl⟩)
 obtain ⟨Wl, hWl⟩ : ∃ W, W = (((((w.alloc (.cells #[.slice (some ad) k c, dv, wv] 29)).alloc (.cells #[v0, v1, v2, v3, v4, v5, v6, v7, v8, v9, v10, .int .i64 m, v12, v13, v14, v15, .string ⟨#[]⟩] 44)).alloc (.cells #[.slice none 0 0] 31)).alloc (.cells #[.string ⟨#[]⟩] 9)).alloc (.cells #[.string ⟨#[10]⟩] 9)).alloc (.cells #[.int .i64 1] 3) := ⟨_, rfl⟩
 obtain ⟨hWs, h1b, h2b, h3b, h4b, h5b⟩ := six w _ _ _ _ _ _ Wl hWl
 refine wpIn_rangeFunc_ownG hro (by decide) (gf := 47) (lb := #[.pointer (some ⟨w.heap.size + 4, 0, none⟩), .pointer (some ⟨w.heap.size + 3, 0, none⟩), .pointer (some ⟨w.heap.size + 5, 0, none⟩)]) (by simp [Act.eval]) trivial (enters_of Tryd.func47 (by kernel_rfl) rfl)
  (split_stops Fence.wide 9 has_wide (by omega) ⟨w.heap.size + 4, 0, none⟩ ⟨w.heap.size + 3, 0, none⟩ ⟨w.heap.size + 5, 0, none⟩ Wl.heap.size Wl (by simp [hWs]) (by simp [hWs]) (by simp [hWs]) (cell_one' h4b) (cell_one' h3b) (cell_one' h5b)) belowK_t (belowK_b (by simp [hWl])) (by rw [hWl]; exact Below.refl _ _) (fun _ => rfl)
  (fun (_ : List Unit) W => Below Wl.heap.size Wl W)
  (fun _ _ _ => False)
  (ownFrom_below (by (try simp) <;> omega) (by (try simp) <;> omega))
  (fun _ _ _ _ _ hs _ _ => hs)
  (by rw [hWl]; exact Below.refl _ _)
  (fun _ => { tmps := #[.agg #[.slice (some ad) k c, dv, wv], .int .i64 i, .pointer (some ⟨w.heap.size, 0, none⟩), undef, .slice none 0 0, .pointer (some ⟨w.heap.size + 1, 0, none⟩), .pointer (some ⟨w.heap.size + 1 + 1, 0, none⟩), .string ⟨#[]⟩, undef, undef,
   .int .i64 i, .bool false, .bool false, .int .i64 i, .pointer (some ⟨w.heap.size, 0, none⟩), .slice (some ad) k c, .int .i64 k, .bool false, .bool false, .pointer (some ⟨w.heap.size, 0, none⟩), .slice (some ad) k c, .int .i64 i, .pointer (some (ad.add (i * 17))), .agg #[v0, v1, v2, v3, v4, v5, v6, v7, v8, v9, v10, .int .i64 m, v12, v13, v14, v15, .string ⟨#[]⟩],
   .pointer (some ⟨w.heap.size + 1, 16, none⟩), .string ⟨#[]⟩, .func (.func 47) #[] #[.pointer (some ⟨w.heap.size + 4, 0, none⟩), .pointer (some ⟨w.heap.size + 3, 0, none⟩), .pointer (some ⟨w.heap.size + 5, 0, none⟩)], .string ⟨#[]⟩,
   undef, undef, undef, undef, undef, undef, undef, undef, undef, undef, undef, undef, undef, undef, undef, undef], defers := [] }) ?assign ?body ?done ?stop
 case assign =>
  as_aux_lemma =>
   intro l x W K hK
   gi_wp2
   exact hK
 case body =>
  as_aux_lemma =>
   rintro l pre x W hB hle
   have h8 : 1 ≤ 10 - 1 - 1 := by decide
   gi_wp2_with (gi_at_call 19; refine (CallsIn.inRound l (cut_in Fence.wide _ has_wide (by decide) _)).mono ?_; rintro e w' ⟨rfl, rfl⟩)
   exact ⟨KeepsFrom.refl _ _, Below.refl _ _, hB⟩
 case done =>
  as_aux_lemma =>
   rintro D ys W hDl rfl hB hK
   have hvc : W.cell? ⟨w.heap.size + 1 + 1, 0, none⟩ = some (.slice none 0 0) := (hB.cell (by simp [hWs])).trans (cell_one' h2b)
   have hmb : W.heap[w.heap.size + 1]? = some (.cells #[v0, v1, v2, v3, v4, v5, v6, v7, v8, v9, v10, .int .i64 m, v12, v13, v14, v15, .string ⟨#[]⟩] 44) := (hB.block _ (by omega)).trans h1b
   have d0 : W.cell? ⟨w.heap.size + 1, 0, none⟩ = some v0 := by simp [World.cell?, hmb]
   have d1 : W.cell? ⟨w.heap.size + 1, 1, none⟩ = some v1 := by simp [World.cell?, hmb]
   have d2 : W.cell? ⟨w.heap.size + 1, 2, none⟩ = some v2 := by simp [World.cell?, hmb]
   have d3 : W.cell? ⟨w.heap.size + 1, 3, none⟩ = some v3 := by simp [World.cell?, hmb]
   have d4 : W.cell? ⟨w.heap.size + 1, 4, none⟩ = some v4 := by simp [World.cell?, hmb]
   have d5 : W.cell? ⟨w.heap.size + 1, 5, none⟩ = some v5 := by simp [World.cell?, hmb]
   have d6 : W.cell? ⟨w.heap.size + 1, 6, none⟩ = some v6 := by simp [World.cell?, hmb]
   have d7 : W.cell? ⟨w.heap.size + 1, 7, none⟩ = some v7 := by simp [World.cell?, hmb]
   have d8 : W.cell? ⟨w.heap.size + 1, 8, none⟩ = some v8 := by simp [World.cell?, hmb]
   have d9 : W.cell? ⟨w.heap.size + 1, 9, none⟩ = some v9 := by simp [World.cell?, hmb]
   have d10 : W.cell? ⟨w.heap.size + 1, 10, none⟩ = some v10 := by simp [World.cell?, hmb]
   have d11 : W.cell? ⟨w.heap.size + 1, 11, none⟩ = some (Value.int .i64 m) := by simp [World.cell?, hmb]
   have d12 : W.cell? ⟨w.heap.size + 1, 12, none⟩ = some v12 := by simp [World.cell?, hmb]
   have d13 : W.cell? ⟨w.heap.size + 1, 13, none⟩ = some v13 := by simp [World.cell?, hmb]
   have d14 : W.cell? ⟨w.heap.size + 1, 14, none⟩ = some v14 := by simp [World.cell?, hmb]
   have d15 : W.cell? ⟨w.heap.size + 1, 15, none⟩ = some v15 := by simp [World.cell?, hmb]
   have d16 : W.cell? ⟨w.heap.size + 1, 16, none⟩ = some (Value.string ⟨#[]⟩) := by simp [World.cell?, hmb]
   clear c0 c1 c2 c3 c4 c5 c6 c7 c8 c9 c10 c11 c12 c13 c14 c15 c16 hrs hx
   have mixed : Tryd.prog.follows .mixedOrders = true := by kernel_rfl
   have gvc : W.drew.cell? ⟨w.heap.size + 1 + 1, 0, none⟩ = some (.slice none 0 0) := hvc
   have g0 : W.drew.cell? ⟨w.heap.size + 1, 0, none⟩ = some v0 := d0
   have g1 : W.drew.cell? ⟨w.heap.size + 1, 1, none⟩ = some v1 := d1
   have g2 : W.drew.cell? ⟨w.heap.size + 1, 2, none⟩ = some v2 := d2
   have g3 : W.drew.cell? ⟨w.heap.size + 1, 3, none⟩ = some v3 := d3
   have g4 : W.drew.cell? ⟨w.heap.size + 1, 4, none⟩ = some v4 := d4
   have g5 : W.drew.cell? ⟨w.heap.size + 1, 5, none⟩ = some v5 := d5
   have g6 : W.drew.cell? ⟨w.heap.size + 1, 6, none⟩ = some v6 := d6
   have g7 : W.drew.cell? ⟨w.heap.size + 1, 7, none⟩ = some v7 := d7
   have g8 : W.drew.cell? ⟨w.heap.size + 1, 8, none⟩ = some v8 := d8
   have g9 : W.drew.cell? ⟨w.heap.size + 1, 9, none⟩ = some v9 := d9
   have g10 : W.drew.cell? ⟨w.heap.size + 1, 10, none⟩ = some v10 := d10
   have g11 : W.drew.cell? ⟨w.heap.size + 1, 11, none⟩ = some (Value.int .i64 m) := d11
   have g12 : W.drew.cell? ⟨w.heap.size + 1, 12, none⟩ = some v12 := d12
   have g13 : W.drew.cell? ⟨w.heap.size + 1, 13, none⟩ = some v13 := d13
   have g14 : W.drew.cell? ⟨w.heap.size + 1, 14, none⟩ = some v14 := d14
   have g15 : W.drew.cell? ⟨w.heap.size + 1, 15, none⟩ = some v15 := d15
   have g16 : W.drew.cell? ⟨w.heap.size + 1, 16, none⟩ = some (Value.string ⟨#[]⟩) := d16
   have hwB : Below w.heap.size w W.drew := by
    refine Below.drew (Below.trans ?_ (hB.mono (by omega)))
    rw [hWl]
    exact ((((((Below.refl _ w).alloc (by (try simp) <;> omega) _).alloc (by (try simp) <;> omega) _).alloc (by (try simp) <;> omega) _).alloc (by (try simp) <;> omega) _).alloc (by (try simp) <;> omega) _).alloc (by (try simp) <;> omega) _
   gi_wp2
   obtain ⟨i0, hi0, hz0, hz1, hz2⟩ := info_parts info9
   have hDW : D < W.heap.size := (Array.getElem?_eq_some_iff.1 hK).1
   have hWW := hB.size
   have hDw : w.heap.size ≤ D := by simp at hDl; omega
   refine then_false ?_
   gi_region_with_o (gi_at_call 20; refine (callsIn_wide.2 (hD _ hwB)).mono ?_; rintro e w' ⟨v, rfl, hrow, hb2⟩; obtain ⟨g, cap, rfl⟩ := row_some hrow hz.1; obtain ⟨v', w1, hrun, hown', hgrow, hnil⟩ := run_append_own (P := Tryd.prog) w' w.heap.size 31 31 9 i0 _ 1 16 under31 hi0 hz0 hz1 hz2 rfl (by decide) (.slice none 0 0) 0 [] (World.ownsRow_nil _ _ _ _) ⟨g, 0, none⟩ zs.length cap (zs.map Value.string) (by simp) (hrow.cells rfl) (by simp [Value.oneCell']) (by omega) (by omega) (by have := hb2.size; have := hwB.size; omega); obtain ⟨g', cap', rfl⟩ := row_some hown' (by omega); have hvc' : w'.cell? ⟨w.heap.size + 1 + 1, 0, none⟩ = some (.slice none 0 0) := (hb2.cell (p := ⟨w.heap.size + 1 + 1, 0, none⟩) (show w.heap.size + 1 + 1 < W.heap.size by omega)).trans gvc; have hB1 : Below w.heap.size w w1 := (hwB.trans (hb2.mono hwB.size)).grown hgrow (by have := hb2.size; have := hwB.size; omega) (fun j ej => by simp [Value.ownBlock] at ej); have hK' : w1.heap[D]? = some (.deferred (some [])) := (hgrow.block D (Nat.lt_of_lt_of_le hDW hb2.size) (by simp [Value.ownBlock])).trans ((hb2.block D hDW).trans hK))
   all_goals
    gi_wp2
    refine ⟨by simp, .inl ⟨_, _, rfl, run_takeDeferred hK', ?_⟩⟩
    have hown3 : (w1.putObj D (.deferred none)).ownsRow w.heap.size 9 1 (.slice (some ⟨g', 0, none⟩) zs.length cap') zs.length (zs.map .string) := by simpa using ownsRow_putObj hown' (.deferred none) hK' rfl
    refine ⟨_, results_tmp rfl _ _ _, .slice (some ⟨g', 0, none⟩) zs.length cap', rfl, hown3, hB1.trans (belowK_b (w := w) (Nat.le_refl _) w1 D _ _ (by omega) hK' rfl rfl)⟩
 case stop => rintro D c pre W _ _ h _; exact h.elim
end Go.Proofs.Spl
