import Derived.Test.YtfealnpkfnjbkaaGreatDoorCtC
import Derived.Test.YtfealnpkfnjbkaaGreatDoorTabA
import Derived.WalkKit
import Derived.ProofKit
import Derived.OpenShut
import Derived.JoinedCond
import Derived.Test.YtfealnpkfnjbkaaGreatDoorCards
import Derived.Test.YtfealnpkfnjbkaaGreatDoorTie
import Derived.Deep.DeepHandedRow
import Derived.Lib.LaidTab
import Derived.Test.YtfealnpkfnjbkaaGreatDoorWithdrawsPrC
/- Applying the empty map gives up all fields of a manager, and removes those that nobody else owns. For all arguments within the size bound. -/
set_option linter.unusedVariables false
set_option linter.unusedSimpArgs false
open Go.CT.IV renaming Dk->aB
open Option.some renaming inj->aA
namespace Go.Proofs.YtfealnpkfnjbkaaGreatDoor
open Go.ChangeShapes Go.WideShapes Go.ChangeAt Go.RowKit Go.CT Go.CT.Sch
set_option linter.unusedVariables false
def Ae5 (d:DataW Unit):Array Value:=match d with | .agg l=>(l.map fun | .lit (.int k n)=>Value.int k n | _=>undef).toArray | _=> #[]
noncomputable def low:Nat:=(World.holding Tryz.prog default ⟨#[], #[],[]⟩).heap.size
def Agb:Array Obj:= #[.cells #[.string ⟨#[118,97,108,117,101,32,111,117,116,32,111,102,32,114,97,110,103,101]⟩] 286,.cells #[.string ⟨#[105,110,118,97,108,105,100,32,115,121,110,116,97,120]⟩] 286]
noncomputable def Wj (os:Os):World:=
 {World.holding Tryz.prog os ⟨Agb, #[],[]⟩with heap:=((((((World.holding Tryz.prog os ⟨Agb, #[],[]⟩).heap).modify 4 (fun | .cells _ t frozen=> .cells (Ae5 Rows.laid_math_bits_deBruijn32tab) t frozen | o=>o)).modify 5 (fun | .cells _ t frozen=> .cells (Ae5 Rows.laid_math_bits_deBruijn64tab) t frozen | o=>o)).modify 3 (fun | .cells _ t frozen=> .cells (Ae5 Rows.laid_internal_strconv_uint64pow10) t frozen | o=>o)).modify 2 (fun | .cells _ t frozen=> .cells #[.iface 284 (.pointer (some ⟨low,0,none⟩))] t frozen | o=>o)).modify 1 (fun | .cells _ t frozen=> .cells #[.iface 284 (.pointer (some ⟨low+1,0,none⟩))] t frozen | o=>o)}
theorem own:ownKnob Tryz.prog.godebug=none:=by kernel_rfl
theorem laidOut:laidOutB Tryz.prog=true:=by kernel_rfl
theorem one_le {H:Type}(d:DataW H):1<=Rows.uptoBulk d:=by
 cases d with
 | lit l=>cases l<;>simp[Rows.uptoBulk]
 | nil=>simp[Rows.uptoBulk]
 | ptr d=>simp[Rows.uptoBulk]
 | slice elems spare=>simp[Rows.uptoBulk]
 | agg parts=>simp[Rows.uptoBulk]
 | iface t d=>simp[Rows.uptoBulk]
 | map entries=>simp[Rows.uptoBulk]
 | held h=>simp[Rows.uptoBulk]
theorem Bhy (H:Type):Asx (H:=H) Rows.uptoBulk Rows.uptoBulkAll:=
 ⟨rfl,λ_ _=>rfl,one_le,λs=>by simp[Rows.uptoBulk],λes sp=>by simp only[Rows.uptoBulk];omega,λa=>by simp[Rows.uptoBulk]⟩
theorem small {H:Type}{ds:List (DataW H)}(h:Rows.uptoSmall H ds=true):Rows.uptoBulkAll ds<=1048576:=of_decide_eq_true h
theorem Rp {a b:Bool}(c:a=true)(d:b=true):(a&&b)=true:=by rw[c,d];rfl
theorem Bhk:mapsRowed Tryz.prog=true:=by kernel_rfl
theorem Beo:(Tryz.prog.stops == [])=true:=by kernel_rfl
theorem Bfo:(Tryz.prog.stopKnobs == [])=true:=by kernel_rfl
theorem Bib:(Rows.applyWithdrawsUptoRow.plainKeys == Tryz.prog.plainKeys)=true:=by kernel_rfl
theorem Bd6:Tryz.prog.stopsHeard=true:=by kernel_rfl
theorem Bf3:Tryz.prog.mayEnter=true:=by kernel_rfl
theorem Bhj:(Rows.applyWithdrawsUptoRow.lifted == Tryz.prog.liftsFinal)=true:=by kernel_rfl
theorem Bh1:(Tryz.prog.make == some Rows.applyWithdrawsUptoRow.make)=true:=by kernel_rfl
end Go.Proofs.YtfealnpkfnjbkaaGreatDoor
namespace Go.Proofs.YtfealnpkfnjbkaaGreatDoor
open Go.ChangeShapes Go.WideShapes Go.ChangeAt Go.RowKit Go.CT Go.CT.Sch
set_option linter.unusedVariables false
namespace applyWithdraws
theorem A90 (H:Type)(ds:List (DataW H))(h:ds.length=4):(Rows.applyWithdrawsSpec.fn H ds).results = [.lit (.bool true)]/\(Rows.applyWithdrawsSpec.fn H ds).args =ds/\(Rows.applyWithdrawsSpec.fn H ds).vars = []:=by
 match ds,h with
 | [a,d1,d2,d3],_=>exact⟨rfl,rfl,rfl⟩
theorem d1:Ani Tryz.prog [26,3,22,9,23,24,94,4,27,30,28,84,31,52]=true:=by kernel_rfl
theorem d2:Tryz.prog.underlying 4=some .bool :=by kernel_rfl
theorem d3:Tryz.f7.body.isSome=true:=by kernel_rfl
theorem d4:(Tryz.f7.name == "runtime.NumGoroutine")=false:=by kernel_rfl
theorem d5:Tryz.f7.params.toList= [26,30,31,9]:=by kernel_rfl
theorem d6:Tryz.f7.resultTypes= #[4]:=by kernel_rfl
theorem d7:Aer 0 specs=some ⟨7,([26,30,31,9]:List Nat).map PS.data,[.whole 4],false⟩:=by kernel_rfl
set_option maxRecDepth 100000 in
theorem ct (c: ∀xs,WTs Tryz.prog [26,30,31,9] xs->aB xs<=1048576->W F0 0 xs=some [.bool true])(H:Type)(enc:TypeId × Value->H)(W:World)(base:Nat)(args:Array Value)(ds gs:List (DataW H))(before:List MemPlace)
  (a: ∀ (j:Nat) t v,Tryz.f7.params[j]?=some t->args[j]?=some v->Value.okWide Tryz.prog W .any base t v)
  (d:DataW.Whole enc Tryz.prog Tryz.f7.params.toList [] false W args.toList ds gs before) (g:Rows.uptoBulkAll (ds++gs)<=1048576):
  Calls Tryz.prog 7 args W λe W'=> ∃v,e= .returned v/\Rows.applyWithdrawsSpec.post enc Tryz.prog Tryz.f7 false true false false W args v W':=by
 have b: ∀xs,WTs Tryz.prog [26,30,31,9] xs->aB xs<=1048576->V (tab Tryz.prog specs Sh 3000) pr ⟨0,0⟩ xs=some [.bool true]:=c
 have h:=U5 d7
 refine Alu (TS:= [26,3,22,9,23,24,94,4,27,30,28,84,31,52]) (bks:=Rows.uptoBulkAll) (s:=Rows.applyWithdrawsSpec) Be5 h d2 Tryz.func7 d3 d4 d5 d6 laidOut d1 ?_ (Bhy H) ?_ ?_ b W base args ds gs before ?_ ?_ ?_
 ·decide
 ·rfl
 ·exact A90 H
 ·exact a
 ·exact d
 ·exact g
theorem A5b (os:Os):laidMet Tryz.prog Rows.applyWithdrawsUptoRow.laid ((Wj os).forCall (λ_ _=>0) ⟨#[], #[.agg #[.int .i64 0,.int .i64 0,.int .i64 0,.slice none 0 0,.string ⟨#[]⟩,.slice none 0 0,.slice none 0 0],.agg #[.int .i64 0,.int .i64 0,.string ⟨#[]⟩,.slice none 0 0,.slice none 0 0],.slice none 0 0,.string ⟨#[]⟩],[]⟩).memory :=
 laidMet_of_run' 8 (by kernel_rfl) (by kernel_rfl)
theorem reads (os:Os){H:Type}(enc:TypeId × Value->H): ∃places,DataW.whole enc Tryz.prog ((Wj os).forCall (λ_ _=>0) ⟨#[], #[.agg #[.int .i64 0,.int .i64 0,.int .i64 0,.slice none 0 0,.string ⟨#[]⟩,.slice none 0 0,.slice none 0 0],.agg #[.int .i64 0,.int .i64 0,.string ⟨#[]⟩,.slice none 0 0,.slice none 0 0],.slice none 0 0,.string ⟨#[]⟩],[]⟩).memory Tryz.f7.params.toList Rows.applyWithdrawsSpec.vars false (#[.agg #[.int .i64 0,.int .i64 0,.int .i64 0,.slice none 0 0,.string ⟨#[]⟩,.slice none 0 0,.slice none 0 0],.agg #[.int .i64 0,.int .i64 0,.string ⟨#[]⟩,.slice none 0 0,.slice none 0 0],.slice none 0 0,.string ⟨#[]⟩]:Array Value).toList 8=some ([.agg [.lit (.int .i64 0),.lit (.int .i64 0),.lit (.int .i64 0),.nil,.lit (.string []),.nil,.nil],.agg [.lit (.int .i64 0),.lit (.int .i64 0),.lit (.string []),.nil,.nil],.nil,.lit (.string [])],[],places):=
 ⟨[],by kernel_rfl⟩
set_option maxRecDepth 100000 in
theorem lifted (c: ∀xs,WTs Tryz.prog [26,30,31,9] xs->aB xs<=1048576->W F0 0 xs=some [.bool true])(os:Os)(started:os.Started)(H:Type)(enc:TypeId × Value->H)(F:Stop.Interp):
  ReturnsInHanded {} Tryz.checked os 7 .any ((Rows.OpenSpec.upto Rows.applyWithdrawsSpec).preRow enc Tryz.prog Tryz.f7 Rows.applyWithdrawsUptoRow.domain false Rows.applyWithdrawsUptoRow.laid) (((Rows.OpenSpec.upto Rows.applyWithdrawsSpec).at F).post enc Tryz.prog Tryz.f7 false true false false):=by
 obtain⟨places,d⟩:=reads os enc
 refine returnsInHanded_of_row (C:=Tryz.checked) (s:=Rows.OpenSpec.upto Rows.applyWithdrawsSpec) own started (by kernel_rfl) Tryz.func7
  (witness_row_at (enc:=enc) (C:=Tryz.checked) false (Wj os) #[.agg #[.int .i64 0,.int .i64 0,.int .i64 0,.slice none 0 0,.string ⟨#[]⟩,.slice none 0 0,.slice none 0 0],.agg #[.int .i64 0,.int .i64 0,.string ⟨#[]⟩,.slice none 0 0,.slice none 0 0],.slice none 0 0,.string ⟨#[]⟩] rfl (by kernel_rfl) (by kernel_rfl) (by kernel_rfl)
   (OpenSpec.preRow_of_cond 8 d (by kernel_rfl) (λk e=>by cases e;kernel_rfl) (by kernel_rfl) (A5b os))) ?_
 intro W base args ds gs before b g _ a _ h _ _
 exact ct c H enc W base args ds gs before b g (small (a _ rfl))
set_option maxHeartbeats 4000000 in
theorem closed:joinedFacts Tryz.prog 7 Tryz.f7 (Rows.OpenSpec.upto Rows.applyWithdrawsSpec).bare Rows.applyWithdrawsUptoRow=true:=by
 unfold joinedFacts
 exact Rp (Rp (Rp (Rp (Rp (Rp (Rp (Rp (Rp (Rp (Rp (Rp (Rp (Rp (Rp (Rp (Rp (Rp (Rp (Rp (Rp (Rp (Rp (Rp (Rp (Rp (Rp (Rp (Rp (Rp (Rp (by as_aux_lemma=>kernel_rfl) laidOut) Bhk) (by as_aux_lemma=>kernel_rfl)) (by as_aux_lemma=>kernel_rfl)) (by as_aux_lemma=>kernel_rfl)) Beo) (by as_aux_lemma=>kernel_rfl)) Bfo) (by as_aux_lemma=>kernel_rfl)) (by as_aux_lemma=>kernel_rfl)) (by as_aux_lemma=>kernel_rfl)) (by as_aux_lemma=>kernel_rfl)) (by as_aux_lemma=>kernel_rfl)) (by as_aux_lemma=>kernel_rfl)) (by as_aux_lemma=>kernel_rfl)) (by as_aux_lemma=>kernel_rfl)) (by as_aux_lemma=>kernel_rfl)) (by as_aux_lemma=>kernel_rfl)) (by as_aux_lemma=>kernel_rfl)) (by as_aux_lemma=>kernel_rfl)) (by as_aux_lemma=>kernel_rfl)) Bib) (by as_aux_lemma=>kernel_rfl)) Bd6) Bf3) Bhj) Bh1) (by as_aux_lemma=>kernel_rfl)) (by as_aux_lemma=>kernel_rfl)) (by as_aux_lemma=>kernel_rfl)) (by as_aux_lemma=>kernel_rfl)
set_option maxHeartbeats 4000000 in
theorem holds_of (a: ∀xs,WTs Tryz.prog [26,30,31,9] xs->aB xs<=1048576->W F0 0 xs=some [.bool true]):Rows.ApplyWithdrawsUptoSaid:=
 OpenClaim.holds_of_cond 7 Tryz.f7 rfl rfl rfl rfl rfl rfl rfl ⟨rfl,rfl,rfl,rfl,rfl⟩ rfl rfl rfl rfl rfl (by as_aux_lemma=>kernel_rfl) Tryz.func7 closed
  (of_decide_eq_true (by as_aux_lemma=>kernel_rfl)) (by unfold Func.isWrapper;first | (rw[if_pos (by decide+kernel)];kernel_rfl) | (rw[if_neg (by decide+kernel)];exact⟨rfl,rfl⟩))
  (λos started H enc _ F=>by rw[OpenClaim.pre_eq_preRow];exact lifted a os started H enc F)
set_option maxHeartbeats 4000000 in
theorem A95:([26,30,31,9]:List Nat).all (λt=> !(Tryz.prog.wantsStandIn t))=true:=by as_aux_lemma=>kernel_rfl
set_option maxHeartbeats 4000000 in
theorem plain (f:FuncId)(fn:Func)(c:Tryz.pinned.checked.prog.funcNamed "orchestrator/orchestratorlaw11.ApplyWithdraws" =some f)(a:Tryz.pinned.checked.prog.funcs[f]?=some fn):
  true=Tryz.pinned.checked.prog.looks []/\ ∀ (j:Nat) t,fn.params[j]?=some t->Tryz.pinned.checked.prog.wantsStandIn t=false:=by
 obtain rfl:f=7:=aA ((show Tryz.prog.funcNamed "orchestrator/orchestratorlaw11.ApplyWithdraws" =some 7 by as_aux_lemma=>kernel_rfl).symm.trans c) |>.symm
 obtain rfl:fn=Tryz.f7:=(aA (Tryz.func7.symm.trans a)).symm
 refine⟨by as_aux_lemma=>kernel_rfl,λj t d=>?_⟩
 have b:t∈Tryz.f7.params.toList:=Array.mem_toList_iff.2 (Array.mem_of_getElem? d)
 rw[d5]at b
 have h:=List.all_eq_true.1 A95 t b
 have h':Tryz.prog.wantsStandIn t=false:=by simpa using h
 exact h'
set_option maxHeartbeats 4000000 in
theorem A9d (a: ∀xs,WTs Tryz.prog [26,30,31,9] xs->aB xs<=1048576->W F0 0 xs=some [.bool true]):Rows.ApplyWithdrawsUptoCardSaid:=
 Claim7.holds_tied_plain_at .later [] _ _ _ _ (holds_of a) (λ_ h=>by cases h) (by as_aux_lemma=>kernel_rfl) (λ_ h=>by cases h) applyWithdrawsUpto_row_tie rfl ⟨rfl,rfl⟩ (by as_aux_lemma=>kernel_rfl) rfl plain (by as_aux_lemma=>kernel_rfl)
end applyWithdraws
end Go.Proofs.YtfealnpkfnjbkaaGreatDoor
namespace Go.Proofs.YtfealnpkfnjbkaaGreatDoor
open Go.CT Go.CT.Sch
theorem ApplyWithdraws_upto:Rows.ApplyWithdrawsUptoCardSaid:=applyWithdraws.A9d λxs h b=>by
 obtain⟨s0,xs,rfl,c,h⟩:=h.cons_inv
 obtain⟨v0,xs,rfl,d,h⟩:=h.cons_inv
 obtain⟨m0,xs,rfl,e,h⟩:=h.cons_inv
 obtain⟨nm0,xs,rfl,a,h⟩:=h.cons_inv
 obtain rfl:=h.Wl
 obtain⟨s,rfl⟩:=Bfs c
 obtain⟨v,rfl⟩:=A7l d
 obtain⟨m,rfl⟩:=Bba e
 obtain⟨nm,rfl⟩:=Uz a
 simp only[aB,IV.bulk]at b
 exact Adt s v m nm (Bh2 (by unfold Sch.Ap Val.Ap;omega))
end Go.Proofs.YtfealnpkfnjbkaaGreatDoor
