import Derived.Test.YtfhkcifopfheaaaGreatDoorCtD
import Derived.Test.YtfhkcifopfheaaaGreatDoorTabA
import Derived.WalkKit
import Derived.ProofKit
import Derived.OpenShut
import Derived.JoinedCond
import Derived.Test.YtfhkcifopfheaaaGreatDoorCards
import Derived.Test.YtfhkcifopfheaaaGreatDoorTie
import Derived.Deep.DeepHandedRow
import Derived.Lib.LaidTab
import Derived.Test.YtfhkcifopfheaaaGreatDoorWholePrB
/- Keeping all leaves and dropping none return the value, and the leaves of a part are leaves of the value, for every schema, value and list of paths whose whole data weigh at most 2^20. -/
set_option linter.unusedVariables false
set_option linter.unusedSimpArgs false
namespace Go.Proofs.YtfhkcifopfheaaaGreatDoor
open Go.ChangeShapes Go.WideShapes Go.ChangeAt Go.RowKit Go.CT Go.CT.Sch
set_option linter.unusedVariables false
def Wp (d:DataW Unit):Array Value:=match d with | .agg l=>(l.map fun | .lit (.int k n)=>Value.int k n | _=>undef).toArray | _=> #[]
noncomputable def S4 (os:Os):World:=
 {World.holding Tryz.prog os ⟨#[], #[],[]⟩ with heap:=((((World.holding Tryz.prog os ⟨#[], #[],[]⟩).heap).modify 2 (fun | .cells _ t frozen=> .cells (Wp Rows.laid_math_bits_deBruijn32tab) t frozen | o=>o)).modify 3 (fun | .cells _ t frozen=> .cells (Wp Rows.laid_math_bits_deBruijn64tab) t frozen | o=>o)).modify 1 (fun | .cells _ t frozen=> .cells (Wp Rows.laid_internal_strconv_uint64pow10) t frozen | o=>o)}
theorem own:ownKnob Tryz.prog.godebug=none:=by kernel_rfl
theorem laidOut:laidOutB Tryz.prog=true:=by kernel_rfl
theorem one_le {H:Type} (d:DataW H):1≤Rows.uptoBulk d:=by
 cases d with
 | lit l=>cases l<;>simp [Rows.uptoBulk]
 | nil=>simp [Rows.uptoBulk]
 | ptr d=>simp [Rows.uptoBulk]
 | slice elems spare=>simp [Rows.uptoBulk]
 | agg parts=>simp [Rows.uptoBulk]
 | iface t d=>simp [Rows.uptoBulk]
 | map entries=>simp [Rows.uptoBulk]
 | held h=>simp [Rows.uptoBulk]
theorem Axj (H:Type):Ahe (H:=H) Rows.uptoBulk Rows.uptoBulkAll:=
 ⟨rfl,fun _ _=>rfl,one_le,fun s=>by simp [Rows.uptoBulk],fun es sp=>by simp only [Rows.uptoBulk];omega,fun ps=>by simp [Rows.uptoBulk]⟩
theorem small {H:Type} {ds:List (DataW H)} (h:Rows.uptoSmall H ds=true):Rows.uptoBulkAll ds≤1048576:=of_decide_eq_true h
theorem Ml {a b:Bool} (ha:a=true) (hb:b=true):(a&&b)=true:=by rw [ha,hb];rfl
theorem Ayo:mapsRowed Tryz.prog=true:=by kernel_rfl
theorem Aws:(Tryz.prog.stops == [])=true:=by kernel_rfl
theorem Awp:(Tryz.prog.stopKnobs == [])=true:=by kernel_rfl
theorem Axo:(Rows.fieldsLeavesUptoRow.plainKeys == Tryz.prog.plainKeys)=true:=by kernel_rfl
theorem Av9:Tryz.prog.stopsHeard=true:=by kernel_rfl
theorem Awh:Tryz.prog.mayEnter=true:=by kernel_rfl
theorem Ax2:(Rows.fieldsLeavesUptoRow.lifted == Tryz.prog.liftsFinal)=true:=by kernel_rfl
theorem Ax3:(Tryz.prog.make == some Rows.fieldsLeavesUptoRow.make)=true:=by kernel_rfl
end Go.Proofs.YtfhkcifopfheaaaGreatDoor
namespace Go.Proofs.YtfhkcifopfheaaaGreatDoor
open Go.ChangeShapes Go.WideShapes Go.ChangeAt Go.RowKit Go.CT Go.CT.Sch
set_option linter.unusedVariables false
namespace fieldsWhole
theorem Ass (H:Type) (ds:List (DataW H)) (h:ds.length=3):(Rows.fieldsWholeSpec.fn H ds).results = [.lit (.bool true)]∧(Rows.fieldsWholeSpec.fn H ds).args =ds∧(Rows.fieldsWholeSpec.fn H ds).vars = []:=by
 match ds,h with
 | [d0,d1,d2],_=>exact ⟨rfl,rfl,rfl⟩
theorem d1:Ads Tryz.prog [26,3,22,9,23,24,64,4,30,33,31,70]=true:=by kernel_rfl
theorem d2:Tryz.prog.underlying 4=some .bool :=by kernel_rfl
theorem d3:Tryz.f14.body.isSome=true:=by kernel_rfl
theorem d4:(Tryz.f14.name == "runtime.NumGoroutine")=false:=by kernel_rfl
theorem d5:Tryz.f14.params.toList= [26,33,22]:=by kernel_rfl
theorem d6:Tryz.f14.resultTypes= #[4]:=by kernel_rfl
theorem d7:Jd 182 specs=some ⟨14,([26,33,22]:List Nat).map PS.data,[.whole 4],false⟩:=by kernel_rfl
set_option maxRecDepth 100000 in
theorem ct (hV: ∀xs,WTs Tryz.prog [26,33,22] xs→IV.Ch xs≤1048576→W Amp 0 xs=some [.bool true]) (H:Type) (enc:TypeId × Value→H) (W:World) (base:Nat) (args:Array Value) (ds gs:List (DataW H)) (before:List MemPlace)
  (hval: ∀ (j:Nat) t v,Tryz.f14.params[j]?=some t→args[j]?=some v→Value.okWide Tryz.prog W .any base t v)
  (hW:DataW.Whole enc Tryz.prog Tryz.f14.params.toList [] false W args.toList ds gs before) (hk:Rows.uptoBulkAll (ds++gs)≤1048576):
  Calls Tryz.prog 14 args W fun e W'=> ∃v,e= .returned v∧Rows.fieldsWholeSpec.post enc Tryz.prog Tryz.f14 false true false false W args v W':=by
 have hV': ∀xs,WTs Tryz.prog [26,33,22] xs→IV.Ch xs≤1048576→V (tab Tryz.prog specs Ua 3000) pr ⟨182,0⟩ xs=some [.bool true]:=hV
 have h8:=Qc d7
 refine Ab0 (TS:= [26,3,22,9,23,24,64,4,30,33,31,70]) (bks:=Rows.uptoBulkAll) (s:=Rows.fieldsWholeSpec) Aww h8 d2 Tryz.func14 d3 d4 d5 d6 laidOut d1 ?_ (Axj H) ?_ ?_ hV' W base args ds gs before ?_ ?_ ?_
 ·decide
 ·rfl
 ·exact Ass H
 ·exact hval
 ·exact hW
 ·exact hk
theorem Aoj (os:Os):laidMet Tryz.prog Rows.fieldsWholeUptoRow.laid ((S4 os).forCall (fun _ _=>0) ⟨#[], #[.agg #[.int .i64 0,.int .i64 0,.int .i64 0,.slice none 0 0,.string ⟨#[]⟩,.slice none 0 0,.slice none 0 0],.agg #[.int .i64 0,.int .i64 0,.string ⟨#[]⟩,.slice none 0 0,.slice none 0 0],.slice none 0 0],[]⟩).memory :=
 laidMet_of_run' 8 (by kernel_rfl) (by kernel_rfl)
theorem reads (os:Os) {H:Type} (enc:TypeId × Value→H): ∃places,DataW.whole enc Tryz.prog ((S4 os).forCall (fun _ _=>0) ⟨#[], #[.agg #[.int .i64 0,.int .i64 0,.int .i64 0,.slice none 0 0,.string ⟨#[]⟩,.slice none 0 0,.slice none 0 0],.agg #[.int .i64 0,.int .i64 0,.string ⟨#[]⟩,.slice none 0 0,.slice none 0 0],.slice none 0 0],[]⟩).memory Tryz.f14.params.toList Rows.fieldsWholeSpec.vars false (#[.agg #[.int .i64 0,.int .i64 0,.int .i64 0,.slice none 0 0,.string ⟨#[]⟩,.slice none 0 0,.slice none 0 0],.agg #[.int .i64 0,.int .i64 0,.string ⟨#[]⟩,.slice none 0 0,.slice none 0 0],.slice none 0 0]:Array Value).toList 8=some ([.agg [.lit (.int .i64 0),.lit (.int .i64 0),.lit (.int .i64 0),.nil,.lit (.string []),.nil,.nil],.agg [.lit (.int .i64 0),.lit (.int .i64 0),.lit (.string []),.nil,.nil],.nil],[],places):=
 ⟨[],by kernel_rfl⟩
set_option maxRecDepth 100000 in
theorem lifted (hV: ∀xs,WTs Tryz.prog [26,33,22] xs→IV.Ch xs≤1048576→W Amp 0 xs=some [.bool true]) (os:Os) (started:os.Started) (H:Type) (enc:TypeId × Value→H) (F:Stop.Interp):
  ReturnsInHanded {} Tryz.checked os 14 .any ((Rows.OpenSpec.upto Rows.fieldsWholeSpec).preRow enc Tryz.prog Tryz.f14 Rows.fieldsWholeUptoRow.domain false Rows.fieldsWholeUptoRow.laid) (((Rows.OpenSpec.upto Rows.fieldsWholeSpec).at F).post enc Tryz.prog Tryz.f14 false true false false):=by
 obtain ⟨places,hx⟩:=reads os enc
 refine returnsInHanded_of_row (C:=Tryz.checked) (s:=Rows.OpenSpec.upto Rows.fieldsWholeSpec) own started (by kernel_rfl) Tryz.func14
  (witness_row_at (enc:=enc) (C:=Tryz.checked) false (S4 os) #[.agg #[.int .i64 0,.int .i64 0,.int .i64 0,.slice none 0 0,.string ⟨#[]⟩,.slice none 0 0,.slice none 0 0],.agg #[.int .i64 0,.int .i64 0,.string ⟨#[]⟩,.slice none 0 0,.slice none 0 0],.slice none 0 0] rfl (by kernel_rfl) (by kernel_rfl) (by kernel_rfl)
   (OpenSpec.preRow_of_cond 8 hx (by kernel_rfl) (fun k hk=>by cases hk;kernel_rfl) (by kernel_rfl) (Aoj os))) ?_
 intro W base args ds gs before hval hW _ hcond _ hL _ _
 exact ct hV H enc W base args ds gs before hval hW (small (hcond _ rfl))
set_option maxHeartbeats 4000000 in
theorem closed:joinedFacts Tryz.prog 14 Tryz.f14 (Rows.OpenSpec.upto Rows.fieldsWholeSpec).bare Rows.fieldsWholeUptoRow=true:=by
 unfold joinedFacts
 exact Ml (Ml (Ml (Ml (Ml (Ml (Ml (Ml (Ml (Ml (Ml (Ml (Ml (Ml (Ml (Ml (Ml (Ml (Ml (Ml (Ml (Ml (Ml (Ml (Ml (Ml (Ml (Ml (Ml (Ml (Ml (by as_aux_lemma=>kernel_rfl) laidOut) Ayo) (by as_aux_lemma=>kernel_rfl)) (by as_aux_lemma=>kernel_rfl)) (by as_aux_lemma=>kernel_rfl)) Aws) (by as_aux_lemma=>kernel_rfl)) Awp) (by as_aux_lemma=>kernel_rfl)) (by as_aux_lemma=>kernel_rfl)) (by as_aux_lemma=>kernel_rfl)) (by as_aux_lemma=>kernel_rfl)) (by as_aux_lemma=>kernel_rfl)) (by as_aux_lemma=>kernel_rfl)) (by as_aux_lemma=>kernel_rfl)) (by as_aux_lemma=>kernel_rfl)) (by as_aux_lemma=>kernel_rfl)) (by as_aux_lemma=>kernel_rfl)) (by as_aux_lemma=>kernel_rfl)) (by as_aux_lemma=>kernel_rfl)) (by as_aux_lemma=>kernel_rfl)) Axo) (by as_aux_lemma=>kernel_rfl)) Av9) Awh) Ax2) Ax3) (by as_aux_lemma=>kernel_rfl)) (by as_aux_lemma=>kernel_rfl)) (by as_aux_lemma=>kernel_rfl)) (by as_aux_lemma=>kernel_rfl)
set_option maxHeartbeats 4000000 in
theorem holds_of (hV: ∀xs,WTs Tryz.prog [26,33,22] xs→IV.Ch xs≤1048576→W Amp 0 xs=some [.bool true]):Rows.FieldsWholeUptoSaid:=
 OpenClaim.holds_of_cond 14 Tryz.f14 rfl rfl rfl rfl rfl rfl rfl ⟨rfl,rfl,rfl,rfl,rfl⟩ rfl rfl rfl rfl rfl (by as_aux_lemma=>kernel_rfl) Tryz.func14 closed
  (of_decide_eq_true (by as_aux_lemma=>kernel_rfl)) (by unfold Func.isWrapper;first | (rw [if_pos (by decide+kernel)];kernel_rfl) | (rw [if_neg (by decide+kernel)];exact ⟨rfl,rfl⟩))
  (fun os started H enc _ F=>by rw [OpenClaim.pre_eq_preRow];exact lifted hV os started H enc F)
set_option maxHeartbeats 4000000 in
theorem Atc:([26,33,22]:List Nat).all (fun t=> !(Tryz.prog.wantsStandIn t))=true:=by as_aux_lemma=>kernel_rfl
set_option maxHeartbeats 4000000 in
theorem plain (f:FuncId) (fn:Func) (hf:Tryz.pinned.checked.prog.funcNamed "orchestrator/orchestratorlaw10.FieldsWhole" =some f) (hfn:Tryz.pinned.checked.prog.funcs[f]?=some fn):
  false=Tryz.pinned.checked.prog.looks []∧ ∀ (j:Nat) t,fn.params[j]?=some t→Tryz.pinned.checked.prog.wantsStandIn t=false:=by
 obtain rfl:f=14:=Option.some.inj ((show Tryz.prog.funcNamed "orchestrator/orchestratorlaw10.FieldsWhole" =some 14 by as_aux_lemma=>kernel_rfl).symm.trans hf) |>.symm
 obtain rfl:fn=Tryz.f14:=(Option.some.inj (Tryz.func14.symm.trans hfn)).symm
 refine ⟨by as_aux_lemma=>kernel_rfl,fun j t ht=>?_⟩
 have hm:t∈Tryz.f14.params.toList:=Array.mem_toList_iff.2 (Array.mem_of_getElem? ht)
 rw [d5] at hm
 have h:=List.all_eq_true.1 Atc t hm
 have h':Tryz.prog.wantsStandIn t=false:=by simpa using h
 exact h'
set_option maxHeartbeats 4000000 in
theorem Ar2 (hV: ∀xs,WTs Tryz.prog [26,33,22] xs→IV.Ch xs≤1048576→W Amp 0 xs=some [.bool true]):Rows.FieldsWholeUptoCardSaid:=
 Claim7.holds_tied_plain_at .later [] _ _ _ _ (holds_of hV) (fun _ h=>by cases h) (by as_aux_lemma=>kernel_rfl) (fun _ h=>by cases h) fieldsWholeUpto_row_tie rfl ⟨rfl,rfl⟩ (by as_aux_lemma=>kernel_rfl) rfl plain (by as_aux_lemma=>kernel_rfl)
end fieldsWhole
end Go.Proofs.YtfhkcifopfheaaaGreatDoor
namespace Go.Proofs.YtfhkcifopfheaaaGreatDoor
open Go.CT Go.CT.Sch
theorem FieldsWhole_upto:Rows.FieldsWholeUptoCardSaid:=fieldsWhole.Ar2 fun xs h hb=>by
 obtain ⟨a,xs,rfl,ha,h⟩:=h.cons_inv
 obtain ⟨b,xs,rfl,hb',h⟩:=h.cons_inv
 obtain ⟨c,xs,rfl,hc,h⟩:=h.cons_inv
 obtain rfl:=h.Xb
 obtain ⟨s,rfl⟩:=Av2 ha
 obtain ⟨v,rfl⟩:=Apw hb'
 obtain ⟨l,rfl⟩:=Apn hc
 simp only [IV.Ch,IV.bulk] at hb
 have hl:=Cs (l.map IV.str)
 rw [List.length_map] at hl
 exact Ake Avg s v l (by unfold Sch.Ay;omega) (by unfold Val.Ay;omega) (by omega)
end Go.Proofs.YtfhkcifopfheaaaGreatDoor
