import Derived.Test.YtfealnpkfnjbkaaGreatDoorCtC
import Derived.Test.YtfealnpkfnjbkaaGreatDoorTabA
import Derived.WalkKit
import Derived.ProofKit
import Derived.OpenShut
import Derived.JoinedCond
import Derived.Test.YtfealnpkfnjbkaaGreatDoorCards
import Derived.Test.YtfealnpkfnjbkaaGreatDoorTie
import Derived.Deep.DeepHandedRow
import Derived.Lib.LaidTab
import Derived.Test.YtfealnpkfnjbkaaGreatDoorOwnersPrC
/- After an apply without conflicts the new value satisfies all leaves of the configuration, the manager owns exactly these, other managers own what they owned, their fields are as they were, and applying again changes nothing. For all arguments within the size bound. -/
set_option linter.unusedVariables false
set_option linter.unusedSimpArgs false
open Go.CT.IV renaming Dm->aB
open Option.some renaming inj->aA
namespace Go.Proofs.YtfealnpkfnjbkaaGreatDoor
open Go.ChangeShapes Go.WideShapes Go.ChangeAt Go.RowKit Go.CT Go.CT.Sch
set_option linter.unusedVariables false
def Afo (d:DataW Unit):Array Value:=match d with | .agg l=>(l.map fun | .lit (.int k n)=>Value.int k n | _=>undef).toArray | _=> #[]
noncomputable def low:Nat:=(World.holding Tryz.prog default ⟨#[], #[],[]⟩).heap.size
def Agu:Array Obj:= #[.cells #[.string ⟨#[118,97,108,117,101,32,111,117,116,32,111,102,32,114,97,110,103,101]⟩] 286,.cells #[.string ⟨#[105,110,118,97,108,105,100,32,115,121,110,116,97,120]⟩] 286]
noncomputable def Xc (os:Os):World:=
 {World.holding Tryz.prog os ⟨Agu, #[],[]⟩with heap:=((((((World.holding Tryz.prog os ⟨Agu, #[],[]⟩).heap).modify 4 (fun | .cells _ t frozen=> .cells (Afo Rows.laid_math_bits_deBruijn32tab) t frozen | o=>o)).modify 5 (fun | .cells _ t frozen=> .cells (Afo Rows.laid_math_bits_deBruijn64tab) t frozen | o=>o)).modify 3 (fun | .cells _ t frozen=> .cells (Afo Rows.laid_internal_strconv_uint64pow10) t frozen | o=>o)).modify 2 (fun | .cells _ t frozen=> .cells #[.iface 284 (.pointer (some ⟨low,0,none⟩))] t frozen | o=>o)).modify 1 (fun | .cells _ t frozen=> .cells #[.iface 284 (.pointer (some ⟨low+1,0,none⟩))] t frozen | o=>o)}
theorem own:ownKnob Tryz.prog.godebug=none:=by kernel_rfl
theorem laidOut:laidOutB Tryz.prog=true:=by kernel_rfl
theorem one_le {H:Type}(d:DataW H):1<=Rows.uptoBulk d:=by
 cases d with
 | lit l=>cases l<;>simp[Rows.uptoBulk]
 | nil=>simp[Rows.uptoBulk]
 | ptr d=>simp[Rows.uptoBulk]
 | slice elems spare=>simp[Rows.uptoBulk]
 | agg parts=>simp[Rows.uptoBulk]
 | iface t d=>simp[Rows.uptoBulk]
 | map entries=>simp[Rows.uptoBulk]
 | held h=>simp[Rows.uptoBulk]
theorem A7r (H:Type):Aro (H:=H) Rows.uptoBulk Rows.uptoBulkAll:=
 ⟨rfl,λ_ _=>rfl,one_le,λs=>by simp[Rows.uptoBulk],λes sp=>by simp only[Rows.uptoBulk];omega,λa=>by simp[Rows.uptoBulk]⟩
theorem small {H:Type}{ds:List (DataW H)}(h:Rows.uptoSmall H ds=true):Rows.uptoBulkAll ds<=1048576:=of_decide_eq_true h
theorem R7 {a b:Bool}(c:a=true)(d:b=true):(a&&b)=true:=by rw[c,d];rfl
theorem A7c:mapsRowed Tryz.prog=true:=by kernel_rfl
theorem A4x:(Tryz.prog.stops == [])=true:=by kernel_rfl
theorem A5u:(Tryz.prog.stopKnobs == [])=true:=by kernel_rfl
theorem A70:(Rows.applyOwnersUptoRow.plainKeys == Tryz.prog.plainKeys)=true:=by kernel_rfl
theorem A4l:Tryz.prog.stopsHeard=true:=by kernel_rfl
theorem A58:Tryz.prog.mayEnter=true:=by kernel_rfl
theorem A7b:(Rows.applyOwnersUptoRow.lifted == Tryz.prog.liftsFinal)=true:=by kernel_rfl
theorem A7t:(Tryz.prog.make == some Rows.applyOwnersUptoRow.make)=true:=by kernel_rfl
end Go.Proofs.YtfealnpkfnjbkaaGreatDoor
namespace Go.Proofs.YtfealnpkfnjbkaaGreatDoor
open Go.ChangeShapes Go.WideShapes Go.ChangeAt Go.RowKit Go.CT Go.CT.Sch
set_option linter.unusedVariables false
namespace applyOwners
theorem A1x (H:Type)(ds:List (DataW H))(h:ds.length=5):(Rows.applyOwnersSpec.fn H ds).results = [.lit (.bool true)]/\(Rows.applyOwnersSpec.fn H ds).args =ds/\(Rows.applyOwnersSpec.fn H ds).vars = []:=by
 match ds,h with
 | [a,d1,d2,d3,d4],_=>exact⟨rfl,rfl,rfl⟩
theorem d1:Anp Tryz.prog [26,3,22,9,23,24,94,4,27,30,28,84,31,52]=true:=by kernel_rfl
theorem d2:Tryz.prog.underlying 4=some .bool :=by kernel_rfl
theorem d3:Tryz.f5.body.isSome=true:=by kernel_rfl
theorem d4:(Tryz.f5.name == "runtime.NumGoroutine")=false:=by kernel_rfl
theorem d5:Tryz.f5.params.toList= [26,30,31,9,30]:=by kernel_rfl
theorem d6:Tryz.f5.resultTypes= #[4]:=by kernel_rfl
theorem d7:Afc 0 specs=some ⟨5,([26,30,31,9,30]:List Nat).map PS.data,[.whole 4],false⟩:=by kernel_rfl
set_option maxRecDepth 100000 in
theorem ct (c: ∀xs,WTs Tryz.prog [26,30,31,9,30] xs->aB xs<=1048576->W 0 0 xs=some [.bool true])(H:Type)(enc:TypeId × Value->H)(W:World)(base:Nat)(args:Array Value)(ds gs:List (DataW H))(before:List MemPlace)
  (a: ∀ (j:Nat) t v,Tryz.f5.params[j]?=some t->args[j]?=some v->Value.okWide Tryz.prog W .any base t v)
  (d:DataW.Whole enc Tryz.prog Tryz.f5.params.toList [] false W args.toList ds gs before) (g:Rows.uptoBulkAll (ds++gs)<=1048576):
  Calls Tryz.prog 5 args W λe W'=> ∃v,e= .returned v/\Rows.applyOwnersSpec.post enc Tryz.prog Tryz.f5 false true false false W args v W':=by
 have b: ∀xs,WTs Tryz.prog [26,30,31,9,30] xs->aB xs<=1048576->V (tab Tryz.prog specs S1 3000) pr ⟨0,0⟩ xs=some [.bool true]:=c
 have h:=Vy d7
 refine Aml (TS:= [26,3,22,9,23,24,94,4,27,30,28,84,31,52]) (bks:=Rows.uptoBulkAll) (s:=Rows.applyOwnersSpec) A5d h d2 Tryz.func5 d3 d4 d5 d6 laidOut d1 ?_ (A7r H) ?_ ?_ b W base args ds gs before ?_ ?_ ?_
 ·decide
 ·rfl
 ·exact A1x H
 ·exact a
 ·exact d
 ·exact g
theorem Ay6 (os:Os):laidMet Tryz.prog Rows.applyOwnersUptoRow.laid ((Xc os).forCall (λ_ _=>0) ⟨#[], #[.agg #[.int .i64 0,.int .i64 0,.int .i64 0,.slice none 0 0,.string ⟨#[]⟩,.slice none 0 0,.slice none 0 0],.agg #[.int .i64 0,.int .i64 0,.string ⟨#[]⟩,.slice none 0 0,.slice none 0 0],.slice none 0 0,.string ⟨#[]⟩,.agg #[.int .i64 0,.int .i64 0,.string ⟨#[]⟩,.slice none 0 0,.slice none 0 0]],[]⟩).memory :=
 laidMet_of_run' 8 (by kernel_rfl) (by kernel_rfl)
theorem reads (os:Os){H:Type}(enc:TypeId × Value->H): ∃places,DataW.whole enc Tryz.prog ((Xc os).forCall (λ_ _=>0) ⟨#[], #[.agg #[.int .i64 0,.int .i64 0,.int .i64 0,.slice none 0 0,.string ⟨#[]⟩,.slice none 0 0,.slice none 0 0],.agg #[.int .i64 0,.int .i64 0,.string ⟨#[]⟩,.slice none 0 0,.slice none 0 0],.slice none 0 0,.string ⟨#[]⟩,.agg #[.int .i64 0,.int .i64 0,.string ⟨#[]⟩,.slice none 0 0,.slice none 0 0]],[]⟩).memory Tryz.f5.params.toList Rows.applyOwnersSpec.vars false (#[.agg #[.int .i64 0,.int .i64 0,.int .i64 0,.slice none 0 0,.string ⟨#[]⟩,.slice none 0 0,.slice none 0 0],.agg #[.int .i64 0,.int .i64 0,.string ⟨#[]⟩,.slice none 0 0,.slice none 0 0],.slice none 0 0,.string ⟨#[]⟩,.agg #[.int .i64 0,.int .i64 0,.string ⟨#[]⟩,.slice none 0 0,.slice none 0 0]]:Array Value).toList 8=some ([.agg [.lit (.int .i64 0),.lit (.int .i64 0),.lit (.int .i64 0),.nil,.lit (.string []),.nil,.nil],.agg [.lit (.int .i64 0),.lit (.int .i64 0),.lit (.string []),.nil,.nil],.nil,.lit (.string []),.agg [.lit (.int .i64 0),.lit (.int .i64 0),.lit (.string []),.nil,.nil]],[],places):=
 ⟨[],by kernel_rfl⟩
set_option maxRecDepth 100000 in
theorem lifted (c: ∀xs,WTs Tryz.prog [26,30,31,9,30] xs->aB xs<=1048576->W 0 0 xs=some [.bool true])(os:Os)(started:os.Started)(H:Type)(enc:TypeId × Value->H)(F:Stop.Interp):
  ReturnsInHanded {} Tryz.checked os 5 .any ((Rows.OpenSpec.upto Rows.applyOwnersSpec).preRow enc Tryz.prog Tryz.f5 Rows.applyOwnersUptoRow.domain false Rows.applyOwnersUptoRow.laid) (((Rows.OpenSpec.upto Rows.applyOwnersSpec).at F).post enc Tryz.prog Tryz.f5 false true false false):=by
 obtain⟨places,d⟩:=reads os enc
 refine returnsInHanded_of_row (C:=Tryz.checked) (s:=Rows.OpenSpec.upto Rows.applyOwnersSpec) own started (by kernel_rfl) Tryz.func5
  (witness_row_at (enc:=enc) (C:=Tryz.checked) false (Xc os) #[.agg #[.int .i64 0,.int .i64 0,.int .i64 0,.slice none 0 0,.string ⟨#[]⟩,.slice none 0 0,.slice none 0 0],.agg #[.int .i64 0,.int .i64 0,.string ⟨#[]⟩,.slice none 0 0,.slice none 0 0],.slice none 0 0,.string ⟨#[]⟩,.agg #[.int .i64 0,.int .i64 0,.string ⟨#[]⟩,.slice none 0 0,.slice none 0 0]] rfl (by kernel_rfl) (by kernel_rfl) (by kernel_rfl)
   (OpenSpec.preRow_of_cond 8 d (by kernel_rfl) (λk e=>by cases e;kernel_rfl) (by kernel_rfl) (Ay6 os))) ?_
 intro W base args ds gs before b g _ a _ h _ _
 exact ct c H enc W base args ds gs before b g (small (a _ rfl))
set_option maxHeartbeats 4000000 in
theorem closed:joinedFacts Tryz.prog 5 Tryz.f5 (Rows.OpenSpec.upto Rows.applyOwnersSpec).bare Rows.applyOwnersUptoRow=true:=by
 unfold joinedFacts
 exact R7 (R7 (R7 (R7 (R7 (R7 (R7 (R7 (R7 (R7 (R7 (R7 (R7 (R7 (R7 (R7 (R7 (R7 (R7 (R7 (R7 (R7 (R7 (R7 (R7 (R7 (R7 (R7 (R7 (R7 (R7 (by as_aux_lemma=>kernel_rfl) laidOut) A7c) (by as_aux_lemma=>kernel_rfl)) (by as_aux_lemma=>kernel_rfl)) (by as_aux_lemma=>kernel_rfl)) A4x) (by as_aux_lemma=>kernel_rfl)) A5u) (by as_aux_lemma=>kernel_rfl)) (by as_aux_lemma=>kernel_rfl)) (by as_aux_lemma=>kernel_rfl)) (by as_aux_lemma=>kernel_rfl)) (by as_aux_lemma=>kernel_rfl)) (by as_aux_lemma=>kernel_rfl)) (by as_aux_lemma=>kernel_rfl)) (by as_aux_lemma=>kernel_rfl)) (by as_aux_lemma=>kernel_rfl)) (by as_aux_lemma=>kernel_rfl)) (by as_aux_lemma=>kernel_rfl)) (by as_aux_lemma=>kernel_rfl)) (by as_aux_lemma=>kernel_rfl)) A70) (by as_aux_lemma=>kernel_rfl)) A4l) A58) A7b) A7t) (by as_aux_lemma=>kernel_rfl)) (by as_aux_lemma=>kernel_rfl)) (by as_aux_lemma=>kernel_rfl)) (by as_aux_lemma=>kernel_rfl)
set_option maxHeartbeats 4000000 in
theorem holds_of (a: ∀xs,WTs Tryz.prog [26,30,31,9,30] xs->aB xs<=1048576->W 0 0 xs=some [.bool true]):Rows.ApplyOwnersUptoSaid:=
 OpenClaim.holds_of_cond 5 Tryz.f5 rfl rfl rfl rfl rfl rfl rfl ⟨rfl,rfl,rfl,rfl,rfl⟩ rfl rfl rfl rfl rfl (by as_aux_lemma=>kernel_rfl) Tryz.func5 closed
  (of_decide_eq_true (by as_aux_lemma=>kernel_rfl)) (by unfold Func.isWrapper;first | (rw[if_pos (by decide+kernel)];kernel_rfl) | (rw[if_neg (by decide+kernel)];exact⟨rfl,rfl⟩))
  (λos started H enc _ F=>by rw[OpenClaim.pre_eq_preRow];exact lifted a os started H enc F)
set_option maxHeartbeats 4000000 in
theorem A1z:([26,30,31,9,30]:List Nat).all (λt=> !(Tryz.prog.wantsStandIn t))=true:=by as_aux_lemma=>kernel_rfl
set_option maxHeartbeats 4000000 in
theorem plain (f:FuncId)(fn:Func)(c:Tryz.pinned.checked.prog.funcNamed "orchestrator/orchestratorlaw11.ApplyOwners" =some f)(a:Tryz.pinned.checked.prog.funcs[f]?=some fn):
  true=Tryz.pinned.checked.prog.looks []/\ ∀ (j:Nat) t,fn.params[j]?=some t->Tryz.pinned.checked.prog.wantsStandIn t=false:=by
 obtain rfl:f=5:=aA ((show Tryz.prog.funcNamed "orchestrator/orchestratorlaw11.ApplyOwners" =some 5 by as_aux_lemma=>kernel_rfl).symm.trans c) |>.symm
 obtain rfl:fn=Tryz.f5:=(aA (Tryz.func5.symm.trans a)).symm
 refine⟨by as_aux_lemma=>kernel_rfl,λj t d=>?_⟩
 have b:t∈Tryz.f5.params.toList:=Array.mem_toList_iff.2 (Array.mem_of_getElem? d)
 rw[d5]at b
 have h:=List.all_eq_true.1 A1z t b
 have h':Tryz.prog.wantsStandIn t=false:=by simpa using h
 exact h'
set_option maxHeartbeats 4000000 in
theorem A1h (a: ∀xs,WTs Tryz.prog [26,30,31,9,30] xs->aB xs<=1048576->W 0 0 xs=some [.bool true]):Rows.ApplyOwnersUptoCardSaid:=
 Claim7.holds_tied_plain_at .later [] _ _ _ _ (holds_of a) (λ_ h=>by cases h) (by as_aux_lemma=>kernel_rfl) (λ_ h=>by cases h) applyOwnersUpto_row_tie rfl ⟨rfl,rfl⟩ (by as_aux_lemma=>kernel_rfl) rfl plain (by as_aux_lemma=>kernel_rfl)
end applyOwners
end Go.Proofs.YtfealnpkfnjbkaaGreatDoor
namespace Go.Proofs.YtfealnpkfnjbkaaGreatDoor
open Go.CT Go.CT.Sch
theorem ApplyOwners_upto:Rows.ApplyOwnersUptoCardSaid:=applyOwners.A1h λxs h b=>by
 obtain⟨s0,xs,rfl,c,h⟩:=h.cons_inv
 obtain⟨v0,xs,rfl,d,h⟩:=h.cons_inv
 obtain⟨m0,xs,rfl,e,h⟩:=h.cons_inv
 obtain⟨nm0,xs,rfl,a,h⟩:=h.cons_inv
 obtain⟨w0,xs,rfl,g,h⟩:=h.cons_inv
 obtain rfl:=h.Xe
 obtain⟨s,rfl⟩:=A5x c
 obtain⟨v,rfl⟩:=Atk d
 obtain⟨m,rfl⟩:=A2x e
 obtain⟨nm,rfl⟩:=Vu a
 obtain⟨w,rfl⟩:=Atk g
 simp only[aB,IV.bulk]at b
 exact Aq1 s v w m nm (A73 (by unfold Sch.Ap Val.Ap;omega)).1
end Go.Proofs.YtfealnpkfnjbkaaGreatDoor
