import Derived.Test.YteolldkpochcjaaDoorCtD
import Derived.Test.YteolldkpochcjaaDoorRows
set_option linter.unusedVariables false
set_option linter.unusedSimpArgs false
set_option linter.defProp false
set_option linter.unusedSimpArgs false
set_option maxRecDepth 100000
namespace Go.CT.MemD
open Go.Proofs
abbrev f_group_data : Nat := 0
abbrev f_rlog_From : Nat := 1
abbrev f_rlog_Last : Nat := 2
abbrev f_slices_Clone_Entry : Nat := 3
def specs : List (Nat × Spec) := dSpecs 4 0x822822280101d00060060854020660010411412018018150181281043e4406058040280
def blks (i : Nat) : List Blk :=
 match i with
 | 0 => dBlks 0x4cf5c98526c5c0100d0000c000a014887c04388109e200000f41c1741c0101
 | _ => []
def pr (i : Nat) : Option (List IV → Option (List IV)) :=
 match i with
 | 3 => some O.cloneF
 | _ => none
noncomputable def W (f b : Nat) (xs : List IV) : Option (List IV) := V (tab Tryd.prog specs blks 3000) pr ⟨f, b⟩ xs
theorem e_f_slices_Clone_Entry (xs : List IV) : W 3 0 xs = O.cloneF xs := V_eq _ _ _ _
def pa (n : Nat) : Nat :=
 match n with
 | 0 => 1
 | 1 => 1
 | 4 => 1
 | 7 => 1
 | 8 => 9
 | 10 => 1
 | 13 => 1
 | 17 => 3
 | _ => 2
def pp (n : Nat) : Prim :=
 match n with
 | 0 => .proj 13 3 true
 | 1 => .proj 13 1 false
 | 2 => .arith .add .i64
 | 3 => .arith .sub .i64
 | 4 => .len
 | 5 => .cmp .lss
 | 6 => .index
 | 7 => .proj 1 1 false
 | 8 => .mklist
 | 9 => .append 16
 | 10 => .proj 0 1 false
 | 11 => .cmp .leq
 | 12 => .cmp .gtr
 | 13 => .proj 2 1 false
 | 14 => .sliceLo
 | 15 => .max
 | 16 => .min
 | 17 => .slice
 | _ => .not
def pu : Prim → Prim
 | .proj p 0 false => pp p
 | p => p
def ko (n : Nat) : IV :=
 match n with
 | 0 => .int 1
 | 1 => .int 0
 | 2 => .list []
 | 3 => .bool true
 | 4 => .bool false
 | _ => .junk
def kon : IV → IV
 | .int (.ofNat n) => ko n
 | c => c
theorem pE : P1 pu 0 (O.projs 13 3) ∧ P1 pu 1 (O.proj 13) ∧ P2 pu 2 (O.add .i64) ∧ P2 pu 3 (O.sub .i64) ∧ P1 pu 4 (O.len) ∧ P2 pu 5 (O.lt) ∧ P2 pu 6 (O.index) ∧ P1 pu 7 (O.proj 1) ∧ P9 pu 8 (O.mklist) ∧ P2 pu 9 (O.append 16) ∧ P1 pu 10 (O.proj 0) ∧ P2 pu 11 (O.le) ∧ P2 pu 12 (O.gt) ∧ P1 pu 13 (O.proj 2) ∧ P2 pu 14 (O.sliceLo) ∧ P2 pu 15 (O.max) ∧ P2 pu 16 (O.min) ∧ P3 pu 17 (O.slice) := by (repeat' apply And.intro) <;> first | exact fun _ => rfl | exact fun _ _ => rfl | exact fun _ _ _ => rfl
theorem kE : KE kon 0 (.int 1) ∧ KE kon 1 (.int 0) ∧ KE kon 2 (.list []) ∧ KE kon 3 (.bool true) ∧ KE kon 4 (.bool false) := by (repeat' apply And.intro) <;> rfl
theorem EQV (c : Nat) {T : Tr} (_ : (dTr pa 18 5 500 c).1 = T) (h : trX Tryd.prog specs blks 3000 pr T = trY kon pu T) : trP kon pu W T := V_num T h
def A0 := by have x := EQV 0xaa70207e62fa57b846808472f6ff37a873df618f16ecb381fc6fa1bcb54f536fa065617b552872b2064c181c7eab6b263ab997846e199418350dd042ed0f1c6e53ac88a7e5962575041b8a8b51516a87ee35f0c0054b206a9572eb6ffcdf71a255e00804e345ed6968faeb02761244f7b0be9b258c94684a99e89ba4fa0a40b9c8783a6b1b03a9fefd77f4469c6168ff9a5d3bf219b63d57f5679861a1b9e5464016c12e7539a68d5011721b4a991b575e50bfe6c6d977a11bb77e1238f4fb12a0bcd91b649fd40ded062944f21624e780ca4ce3e2c5ff6e80c9bd9bd468769a0a7508e38b429ec95b7f33affdf1ec190faba882b61ef863285f39ba7249676cd97c38b07257d8127acaad2e88907dae5940dd3605fc14a255c5b9b53f8683cb98f389b4c20000f (by conv => lhs; cbv) (by kernel_rfl); simp only [shE, shC_, shF, shG, shH, pE, kE, Nat.reduceAdd, Nat.reduceSub] at x; exact sx_of x
def e_f_group_data_0 := A0.a
def e_f_group_data_1 := A0.b
def e_f_rlog_From_0 := A0.c
def e_f_rlog_Last_0 := A0.d
theorem mixed : Tryd.prog.follows .mixedOrders = true := by kernel_rfl
theorem numbers : numbersOk specs = true := by kernel_rfl
theorem pr_ok : ∀ i s f, (i, s) ∈ specs → pr i = some f → FlatOk Tryd.prog f s := by
 intro i s f hm hp
 have hs := lookS_mem numbers hm
 unfold pr at hp
 split at hp
 ·refine pq (s' := ⟨29, [.data 40], [.cells 40 [true]], false⟩) hs hp (by kernel_rfl) ?_ (by kernel_rfl)
  exact clone_ok mixed (e := 73) (fn := fnAt Tryd.prog 29) (root := rootAt Tryd.prog 29) (rest := restAt Tryd.prog 29) ⟨by kernel_rfl, by kernel_rfl, by kernel_rfl, by kernel_rfl, by kernel_rfl, of_decide_eq_true (by kernel_rfl), by kernel_rfl, by kernel_rfl, by kernel_rfl, by kernel_rfl, 24, by kernel_rfl, of_decide_eq_true (by kernel_rfl)⟩
 ·cases hp
theorem soundW : ∀ k, Sound Tryd.prog specs (run (tab Tryd.prog specs blks 3000) pr k) := sound_tab mixed numbers (by kernel_rfl) pr_ok
end Go.CT.MemD
namespace Go.CT.MemD
open Go.Proofs
structure E where
 t : Int
 d : ByteArray
 deriving DecidableEq
@[simp] def E.enc (e : E) : IV := .agg [.int e.t, .str e.d]
structure L where
 b : Int
 bt : Int
 es : List E
@[simp] def L.enc (l : L) : IV := .agg [.int l.b, .int l.bt, .list (l.es.map E.enc)]
def L.small (l : L) : Prop := l.es.length ≤ 1048576
def lastI (l : L) : Int := l.b + l.es.length
def lastT (l : L) : Int := match l.es.getLast? with | some e => e.t | none => l.bt
def tame (l : L) : Prop := 0 ≤ l.b ∧ l.b ≤ 1000000000000000 ∧ l.es.length ≤ 4194304
theorem prg_last (b bt : Int) (es : List E) (h : tame ⟨b, bt, es⟩) : W f_rlog_Last 0 [.agg [.int b, .int bt, .list (es.map E.enc)]] = some [.int (lastI ⟨b, bt, es⟩), .int (lastT ⟨b, bt, es⟩)] := by
 obtain ⟨h1, h2, h3⟩ := h
 simp only at h1 h2 h3
 rw [e_f_rlog_Last_0]
 rcases es.eq_nil_or_concat with rfl | ⟨es, e, rfl⟩
 ·simp [lastI, lastT]
 ·simp at h3
  have w1 : IntKind.i64.wrap (b + ((es.length : Int) + 1)) = b + (es.length + 1) := wrap64 (by omega) (by omega)
  have w2 : IntKind.i64.wrap (es.length : Int) = es.length := wrap64 (by omega) (by omega)
  have h4 : (0 : Int) < es.length + 1 := by omega
  simp [lastI, lastT, w1, w2, h4]
def fromI (l : L) (i most : Int) : Option (List E) := if i ≤ l.b ∨ l.b + l.es.length + 1 < i then none else some ((l.es.drop ((i - l.b).toNat - 1)).take most.toNat)
def optE (o : Option (List E)) : List IV := match o with | some l => [.list (l.map E.enc), .bool true] | none => [.list [], .bool false]
theorem clone_list (xs : List IV) (h : xs.length ≤ 4194304) : W f_slices_Clone_Entry 0 [.list xs] = some [.list xs] := by
 rw [e_f_slices_Clone_Entry, O.cloneF, if_pos (by omega)]
theorem prg_from (b bt : Int) (es : List E) (i most : Int) (h : tame ⟨b, bt, es⟩) : W f_rlog_From 0 [.agg [.int b, .int bt, .list (es.map E.enc)], .int i, .int most] = some (optE (fromI ⟨b, bt, es⟩ i most)) := by
 have h0 := prg_last b bt es h
 obtain ⟨h1, h2, h3⟩ := h
 simp only at h1 h2 h3
 rw [e_f_rlog_From_0]
 have w0 : IntKind.i64.wrap (b + es.length + 1) = b + es.length + 1 := wrap64 (by omega) (by omega)
 simp [h0, lastI, fromI, w0]
 by_cases c1 : i ≤ b
 ·simp [c1, optE]
 ·by_cases c3 : b + es.length + 1 < i
  ·simp [c1, c3, optE]
  ·have w1 : IntKind.i64.wrap (i - b) = i - b := wrap64 (by omega) (by omega)
   have w2 : IntKind.i64.wrap (i - b - 1) = i - b - 1 := wrap64 (by omega) (by omega)
   have h4 : 1 ≤ i - b := by omega
   obtain ⟨k, rfl⟩ : ∃ k : Nat, i = b + 1 + k := ⟨(i - b - 1).toNat, by omega⟩
   have h5 : k ≤ es.length := by omega
   have e1 : b + 1 + (k : Int) - b - 1 = k := by omega
   have e2 : (b + 1 + (k : Int) - b).toNat - 1 = k := by omega
   have wk : IntKind.i64.wrap (k : Int) = k := wrap64 (by omega) (by omega)
   simp only [w1, e1, e2, wk]
   simp [c1, c3, h5]
   generalize hm : (if (0 : Int) < most then most else 0) = m
   have hm0 : 0 ≤ m ∧ most.toNat = m.toNat := by rw [← hm]; split <;> omega
   obtain ⟨n, rfl⟩ : ∃ n : Nat, m = n := ⟨m.toNat, by omega⟩
   rw [hm0.2]
   have h6 : ((es.length : Int) - k) = ((es.length - k : Nat) : Int) := by omega
   obtain ⟨q, hq⟩ : ∃ q, q = min (es.length - k) n := ⟨_, rfl⟩
   have e7 : List.take n (List.drop k es) = List.take q (List.drop k es) := by
    rw [hq]
    by_cases c4 : es.length - k ≤ n
    ·rw [Nat.min_eq_left c4, List.take_of_length_le (by simp; omega), List.take_of_length_le (by simp)]
    ·rw [Nat.min_eq_right (by omega)]
   have e8 : (if ((es.length - k : Nat) : Int) < n then ((es.length - k : Nat) : Int) else n) = (q : Int) := by split <;> omega
   have e9 : q ≤ es.length - k := by omega
   rw [e8]
   have hc := clone_list (((es.drop k).take q).map E.enc) (by simp; omega)
   simp only [List.map_take, List.map_drop] at hc
   have e10 : (q : Int) ≤ ((es.length - k : Nat) : Int) := by omega
   simp [e9, e7, hc, optE]
def dataF (b : Int) (es : List E) (to : Int) : List ByteArray := (es.take (to - b).toNat).map E.d
theorem data_1 (es : List E) (he : es.length ≤ 1048576) : ∀ (n k : Nat) (acc : List ByteArray), n + k = es.length → acc.length = k →
  W f_group_data 1 [.int es.length, .int k, .list (acc.map IV.str), .list (es.map E.enc)] = some [.list ((acc ++ (es.drop k).map E.d).map IV.str)]
 | 0, k, acc, h, ha => by
  rw [e_f_group_data_1]
  have : ¬ k < es.length := by omega
  simp [this, List.drop_of_length_le (Nat.le_of_not_lt this)]
 | n + 1, k, acc, h, ha => by
  have hk : k < es.length := by omega
  have hw : IntKind.i64.wrap ((k : Int) + 1) = ((k + 1 : Nat) : Int) := by rw [wrap64 (by omega) (by omega)]; rfl
  have ih := data_1 es he n (k + 1) (acc ++ [es[k].d]) (by omega) (by simp [ha])
  have hc : (acc.length + 1) * 16 ≤ maxBytes := by unfold maxBytes; omega
  rw [e_f_group_data_1]
  have e1 : acc.map IV.str ++ [IV.str es[k].d] = (acc ++ [es[k].d]).map IV.str := by simp
  have e2 : acc ++ (es.drop k).map E.d = (acc ++ [es[k].d]) ++ (es.drop (k + 1)).map E.d := by rw [List.drop_eq_getElem_cons hk, List.map_cons]; simp
  have e3 : O.index (.list (es.map E.enc)) (.int k) = some es[k].enc := by simp [hk]
  have e4 : O.append 16 (.list (acc.map IV.str)) (.list [.str es[k].d]) = some (.list ((acc ++ [es[k].d]).map IV.str)) := by rw [← e1]; simp [hc]
  have e5 : O.lt (.int k) (.int es.length) = some (.bool true) := by simp [hk]
  have e6 : O.proj 1 es[k].enc = some (.str es[k].d) := rfl
  have e7 : O.mklist [.str es[k].d] = some (.list [.str es[k].d]) := rfl
  have e8 : O.add .i64 (.int k) (.int 1) = some (.int ((k + 1 : Nat) : Int)) := by rw [O.add_int, hw]
  simp only [e5, Option.bind_some, O.cnd_bool, if_true, e3, e6, e7, e4, e8, ih]
  rw [e2]
theorem data_eq (x0 x1 x2 x3 x4 x5 x6 x7 x8 x9 x10 x11 x12 x16 : IV) (b bt : Int) (es : List E) (to : Int) (h : tame ⟨b, bt, es⟩) (he : es.length ≤ 1048576) (ht : b ≤ to ∧ to ≤ 4000000000000000) :
  W f_group_data 0 [.agg [x0, x1, x2, x3, x4, x5, x6, x7, x8, x9, x10, x11, x12, .int b, .int bt, .list (es.map E.enc), x16], .int to] = some [.list ((dataF b es to).map IV.str)] := by
 have h1 := h.1; have h2 := h.2.1
 simp only at h1 h2
 have w1 : IntKind.i64.wrap (b + 1) = b + 1 := wrap64 (by omega) (by omega)
 have w2 : IntKind.i64.wrap (to - b) = to - b := wrap64 (by omega) (by omega)
 have hf := prg_from b bt es (b + 1) (to - b) h
 have e1 : fromI ⟨b, bt, es⟩ (b + 1) (to - b) = some (es.take (to - b).toNat) := by
  unfold fromI
  rw [if_neg (by simp only; omega)]
  have : (b + 1 - b).toNat - 1 = 0 := by omega
  simp [this]
 have hd := data_1 (es.take (to - b).toNat) (by simp; omega) _ 0 [] (Nat.add_zero _) rfl
 rw [e_f_group_data_0]
 simp only [List.map_nil, List.nil_append, List.drop_zero, Int.natCast_zero] at hd
 simp only [O.projs_agg, O.proj_agg, List.drop_succ_cons, List.drop_zero, List.take_succ_cons, List.take_zero, List.getElem?_cons_succ, List.getElem?_cons_zero, Option.bind_some, O.add_int, w1, O.sub_int, w2, hf, e1, optE, O.calls_2, O.len_list, List.length_map, hd, dataF]
end Go.CT.MemD
