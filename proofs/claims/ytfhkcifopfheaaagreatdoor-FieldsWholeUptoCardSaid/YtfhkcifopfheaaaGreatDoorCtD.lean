import Derived.Test.YtfhkcifopfheaaaGreatDoorCtC
import Derived.OpenShut
set_option linter.unusedVariables false
set_option linter.unusedSimpArgs false
namespace Go.CT
open Go.RowKit Go.ChangeShapes
section
variable {H:Type} {enc:TypeId × Value→H} {P:Program} {w:World} {TS:List TypeId} {bk:DataW H→Nat} {bks:List (DataW H)→Nat}
theorem Ahd {t:TypeId} {v:Value} {base:Nat} (ht:Pq P TS t=true) (h:Value.okWide P w .any base t v):mkV P t v.cells.toList=v:=by
 unfold Pq at ht
 simp only [Bool.and_eq_true] at ht
 obtain ⟨_,hk⟩:=ht
 have aux:Ag P t=false→(∀cs,v≠ .agg cs)→mkV P t v.cells.toList=v:=by
  intro ha hv
  unfold mkV
  rw [ha]
  cases v<;>first | rfl | exact absurd rfl (hv _)
 cases hu:P.underlying t with
 | none=>rw [hu] at hk;cases hk
 | some d=>
  rw [hu] at hk
  cases d with
  | struct fs=>
   simp only [Value.okWide,hu] at h
   obtain ⟨cs,rfl,_,_⟩:=h
   simp [mkV,Ag,hu,Value.cells]
  | int k=>
   refine aux (by simp [Ag,hu]) (fun cs e=>?_)
   subst e
   simp [Value.okWide,Cell.okWide,Cell.ok,hu] at h
  | bool=>
   refine aux (by simp [Ag,hu]) (fun cs e=>?_)
   subst e
   simp [Value.okWide,Cell.okWide,Cell.ok,hu] at h
  | string=>
   refine aux (by simp [Ag,hu]) (fun cs e=>?_)
   subst e
   simp [Value.okWide,Cell.okWide,Cell.ok,hu] at h
  | slice e=>
   refine aux (by simp [Ag,hu]) (fun cs e=>?_)
   subst e
   simp [Value.okWide,Cell.okWide,Cell.ok,hu] at h
  | _=>simp at hk
theorem Akd (hB:Ahe bk bks) (hTS:Ads P TS=true) {spare:Nat→Bool} {base:Nat} : ∀ (ts:List TypeId) (vs:List Value) (ds:List (DataW H)) (ps:List MemPlace),(∀t∈ts,t∈TS)→
  DataW.TrodAll enc P w 0 spare true ts vs ds ps→(∀ (j:Nat) (t:TypeId) (v:Value),ts[j]?=some t→vs[j]?=some v→Value.okWide P w .any base t v)→
  ∃xs,WTs P ts xs∧IV.Ch xs≤bks ds∧Dg P w (fun b=>False∨b∈ []) (· ∈ []) (ts.map PS.data) xs vs []∧ds.length=ts.length
 | [],[],[],ps,_,_,_=>⟨[],trivial,by simp [IV.Ch],⟨rfl,rfl⟩,rfl⟩
 | t::ts,v::vs,d::ds,ps,hT,h,hok=>by
  obtain ⟨p,q,⟨fuel,h1⟩,h2,rfl⟩:=h
  obtain ⟨xs,x1,x2,x3,x4⟩:=Akd hB hTS ts vs ds q (fun t h=>hT t (by simp [h])) h2 (fun j t v a b=>hok (j+1) t v (by simpa using a) (by simpa using b))
  have ht:=hT t (by simp)
  have hd:Pq P TS t=true:=List.all_eq_true.1 hTS t ht
  obtain ⟨ys,y1,y2⟩:=Abs hB hTS fuel t _ d p ht h1
  obtain ⟨r1,r2,r3,r4,r5⟩:=y1.mk_val hd
  have hv:=Ahd hd (hok 0 t v rfl rfl)
  rw [hv] at r1
  refine ⟨Ahj P t ys::xs,⟨r2,x1⟩,?_,?_,by simp [x4]⟩
  ·rw [hB.cons]
   simp only [IV.Ch]
   by_cases ha:Ag P t=true
   ·have:=y2 ha
    have e1:(Ahj P t ys).bulk =IV.Ch ys+1:=by simp [Ahj,ha,IV.bulk]
    omega
   ·have:=r4 (by simpa using ha)
    omega
  ·refine ⟨[Ahj P t ys],xs,[],[],rfl,rfl,⟨_,rfl,rfl,r1.weaken (fun b _ hb=>?_)⟩,x3⟩
   rcases hb with hb | hb
   ·exact hb
   ·cases hb
 | [],_::_,_,_,_,h,_=>by cases h
 | [],[],_::_,_,_,h,_=>by cases h
 | _::_,[],_,_,_,h,_=>by cases h
 | _::_,_::_,[],_,_,h,_=>by cases h
theorem Nw (hl:laidOutB P=true) {W W':World} {sp:Nat→Bool} (hb:Below W.heap.size W W'): ∀ (ts:List TypeId) (vs:List Value) (ds:List (DataW H)) (ps:List MemPlace),(∀t∈ts,P.readableRec t=true∧t<P.types.size)→
  DataW.TrodAll enc P W 0 (fun _=>true) true ts vs ds ps→(∀p∈ps,p.block<W.heap.size)→(∀p∈ps,sp p.block=true)→DataW.TrodAll enc P W' 0 sp true ts vs ds ps
 | [],[],[],_,_,h,_,_=>h
 | t::ts,v::vs,d::ds,ps,hT,h,hlt,hsp=>by
  obtain ⟨p,q,h1,h2,rfl⟩:=h
  have ht:=hT t (by simp)
  exact ⟨p,q,WideElems.Trod_stays hl ht.1 ht.2 h1 (fun x hx=>hb.same (hlt x (by simp [hx]))) (fun x hx=>hsp x (by simp [hx])),
   Nw hl hb ts vs ds q (fun t h=>hT t (by simp [h])) h2 (fun x hx=>hlt x (by simp [hx])) (fun x hx=>hsp x (by simp [hx])),rfl⟩
 | [],_::_,_,_,_,h,_,_=>by cases h
 | [],[],_::_,_,_,h,_,_=>by cases h
 | _::_,[],_,_,_,h,_,_=>by cases h
 | _::_,_::_,[],_,_,h,_,_=>by cases h
theorem Aj2.calls {f:FuncId} {args:Array Value} {R:Value→World→Prop} {fn:Func} (hfn:P.funcs[f]?=some fn) (hb:fn.body.isSome=true) (hn:(fn.name == "runtime.NumGoroutine")=false) (h:Aj2 P f args w R):
  Calls P f args w fun e w'=> ∃v,e= .returned v∧R v w':=by
 rcases h with ⟨_,_,_,_,h⟩ | ⟨v,w',h,_⟩
 ·exact h
 ·have hb': ¬ fn.body=none:=by cases hf:fn.body<;>simp_all
  have hn': ¬ fn.name= "runtime.NumGoroutine" :=by simpa using hn
  simp [callFunc,hfn,hn',hb'] at h
theorem Vt: ∀ {ts:List TypeId} {vs:List Value},ts.length=vs.length→Hk 0 (ts.map PS.data) vs=some vs
 | [],[],_=>rfl
 | [],_::_,h=>by simp at h
 | _::_,[],h=>by simp at h
 | t::ts,v::vs,h=>by
  simp only [List.map_cons,Hk,Z8,Vt (ts:=ts) (vs:=vs) (by simpa using h),Option.map_some]
theorem Ab0 {specs:List (Nat × Spec)} {T:Job→Option PT} {pr:Nat→Option (List IV→Option (List IV))} (hS: ∀k,Sound P specs (run T pr k)) {i:Nat} {f:FuncId} {tb:TypeId} {fn:Func} {al:Bool} {ts:List TypeId}
  (hmem:(i,(⟨f,ts.map PS.data,[.whole tb],al⟩:Spec))∈specs) (htb:P.underlying tb=some .bool) (hfn:P.funcs[f]?=some fn) (hbody:fn.body.isSome=true) (hname:(fn.name == "runtime.NumGoroutine")=false)
  (hpar:fn.params.toList=ts) (hres:fn.resultTypes= #[tb]) (hl:laidOutB P=true) (hTS:Ads P TS=true) (hin: ∀t∈ts,t∈TS) (hB:Ahe bk bks) {s:ChangeSpec} (hvars:s.vars= [])
  (hspec: ∀ds:List (DataW H),ds.length=ts.length→(s.fn H ds).results = [.lit (.bool true)]∧(s.fn H ds).args =ds∧(s.fn H ds).vars = []) {n:Nat}
  (hV: ∀xs,WTs P ts xs→IV.Ch xs≤n→V T pr ⟨i,0⟩ xs=some [.bool true])
  (W:World) (base:Nat) (args:Array Value) (ds gs:List (DataW H)) (before:List MemPlace)
  (hval: ∀ (j:Nat) t v,fn.params[j]?=some t→args[j]?=some v→Value.okWide P W .any base t v)
  (hW:DataW.Whole enc P fn.params.toList s.vars false W args.toList ds gs before) (hk:bks (ds++gs)≤n):
  Calls P f args W fun e W'=> ∃v,e= .returned v∧s.post enc P fn false true false false W args v W':=by
 have hW0:=hW
 obtain ⟨p,q,hA,hv,rfl,hfz,hnd⟩:=hW
 rw [hvars] at hv
 have hgs:gs= []∧q= []:=by cases gs<;>simp_all [DataW.TrodVars]
 obtain ⟨rfl,rfl⟩:=hgs
 rw [List.append_nil] at hk
 rw [hpar] at hA
 obtain ⟨xs,x1,x2,x3,x4⟩:=Akd hB hTS (base:=base) ts args.toList ds p hin hA (fun j t v a b=>hval j t v (by rw [←Array.getElem?_toList,hpar];exact a) (by rw [←Array.getElem?_toList];exact b))
 obtain ⟨k,hrun⟩:=(U7 T pr).1 (hV xs x1 (by omega))
 have hd:=hS k i _ hmem W (fun _=>False) xs args.toList args.toList [] [.bool true] (Vt (by have:=Ad9 x3;simpa using this)) x3 (by simp) (by simp) (by simp) hrun
 refine (Aj2.calls hfn hbody hname (by simpa using hd)).mono ?_
 rintro e W' ⟨v,rfl,hAf⟩
 refine ⟨v,rfl,?_⟩
 obtain ⟨vs,ys,zs,L1,L2,e1,e2,_,_,e5,e6⟩:=hAf.out
 have hb:Below W.heap.size W W':=⟨hAf.step.os,hAf.step.tape,hAf.step.output,hAf.step.size,fun k hk=>hAf.step.stays k hk (by simp)⟩
 have hlt: ∀x∈p,x.block<W.heap.size:=fun x hx=>by simpa using hW0.lt x (by simpa using hx)
 have hvv:v= .bool true:=by
  cases vs with
  | nil=>simp [Gg] at e5
  | cons v0 vs=>
   cases vs with
   | cons _ _=>simp [Gg] at e5
   | nil=>
    obtain ⟨as,bs,M1,M2,f1,f2,f3,f4⟩:=e5
    obtain ⟨x,g1,g2,g3⟩:=f3
    obtain ⟨b,h1,h2⟩:=g3.J7 htb
    obtain ⟨f5,_⟩:=f4
    subst g1 h1 h2 f5
    simp only [List.append_nil] at f1
    subst f1
    simp only [List.cons_append,List.nil_append,List.cons.injEq,IV.bool.injEq] at e2
    rw [e1];simp [packed,←e2.1]
 subst hvv
 obtain ⟨s1,s2,s3⟩:=hspec ds x4
 have hT: ∀t∈ts,P.readableRec t=true∧t<P.types.size:=fun t ht=>by
  have hd:Pq P TS t=true:=List.all_eq_true.1 hTS t (hin t ht)
  unfold Pq at hd
  simp only [Bool.and_eq_true,decide_eq_true_eq] at hd
  exact ⟨hd.1.2,hd.1.1.2⟩
 refine ⟨ds,[],p,[],p,[],by simpa using hW0,?_,?_,?_,?_,fun h=>by cases h⟩
 ·rw [List.append_nil,s1,hres]
  exact trodAll_mk1 (shut_bool htb _)
 ·rw [List.append_nil,s2,hpar]
  exact Nw hl hb ts _ ds p hT hA hlt (fun x hx=>by simpa using hlt x hx)
 ·rw [List.append_nil,s3,hvars]
  rfl
 ·exact hb.frame _
end
end Go.CT
