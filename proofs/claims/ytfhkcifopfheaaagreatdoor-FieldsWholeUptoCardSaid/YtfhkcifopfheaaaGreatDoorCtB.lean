import Derived.Test.YtfhkcifopfheaaaGreatDoorCtA
import Derived.MapKept
import Derived.Lib.AppendStr
set_option linter.unusedVariables false
set_option linter.unusedSimpArgs false
namespace Go.CT
open EM
theorem O7 (b off:Nat):(⟨b,0,none⟩:Addr).add off=⟨b,off,none⟩:=by unfold Addr.add;split<;>simp_all
section
variable {P:Program} {w:World}
theorem Iv {t T:TypeId} {b off:Nat} {cur:Array Value} {v:Value} {i:TypeInfo} (hi:P.info? t=some i) (hb:w.heap[b]?=some (.cells cur T (0,0))) (hs:v.cells.size=Af P t) (ho:off+v.cells.size≤cur.size)
  (h1: ∀u∈v.cells,u.oneCell'=true):
  (Instr.storeAt t (.pointer (some ((⟨b,0,none⟩:Addr).add off))) v).run P w= .ok () (w.setRow b (cur.toList.take off++v.cells.toList++cur.toList.drop (off+v.cells.size)).toArray):=by
 rw [O7]
 have:=run_storeCells_at (P:=P) b off T v.cells.toList 0 cur w hb (by simpa using ho) (fun u hu=>h1 u (by simpa using hu))
 simp only [Nat.add_zero,Array.length_toList] at this
 simp [Instr.storeAt,Instr.sureAddr,storeVar,run_sizeOf hi,hs]
 rw [←hs]
 simpa using this
theorem Aab {W:Nat→Prop} {b:Nat} (hW:W b) (cs:Array Value):Gb W w (w.setRow b cs):=
 ⟨rfl,rfl,rfl,by simp,fun k _ hk=>setRow_other w b k cs (fun e=>hk (e ▸ hW))⟩
theorem I9 {α:Type} {cs new:List α} {off:Nat} (h:off+new.length≤cs.length):(cs.take off++new++cs.drop (off+new.length)).length =cs.length:=by
 simp only [List.length_append,List.length_take,List.length_drop];omega
theorem Lu {α:Type} {cs new:List α} {off:Nat} (h:off+new.length≤cs.length) (i:Nat):
  (cs.take off++new++cs.drop (off+new.length))[i]?=if i<off then cs[i]? else if i<off+new.length then new[i - off]? else cs[i]?:=by
 simp only [List.getElem?_append,List.length_append,List.length_take,List.getElem?_take,List.getElem?_drop]
 have e1:min off cs.length=off:=by omega
 rw [e1]
 by_cases h1:i<off
 ·simp [h1,show i<off+new.length by omega]
 ·by_cases h2:i<off+new.length
  ·simp [h1,h2]
  ·simp only [h1,h2,if_false]
   congr 1;omega
theorem Tm {sz:Nat} : ∀ {vs:List Value} {j off:Nat} {u u':Value} {new:List Value},(∀v∈vs,v.cells.size=sz)→vs[j]?=some u→off+new.length≤sz→u'.cells.toList=u.cells.toList.take off++new++u.cells.toList.drop (off+new.length)→
  A8 (vs.set j u')=(A8 vs).take (j * sz+off)++new++(A8 vs).drop (j * sz+off+new.length)
 | [],j,off,u,u',new,_,hj,_,_=>by simp at hj
 | v::vs,0,off,u,u',new,h,hj,ho,hu=>by
  simp at hj;subst hj
  have hl:v.cells.toList.length=sz:=by rw [Array.length_toList];exact h v List.mem_cons_self
  simp only [List.set_cons_zero,A8,List.flatMap_cons,Nat.zero_mul,Nat.zero_add]
  rw [hu,List.take_append_of_le_length (by omega),List.drop_append_of_le_length (by omega)]
  simp
 | v::vs,j+1,off,u,u',new,h,hj,ho,hu=>by
  have hl:v.cells.toList.length=sz:=by rw [Array.length_toList];exact h v List.mem_cons_self
  have ih:=Tm (vs:=vs) (j:=j) (fun v hv=>h v (List.mem_cons_of_mem _ hv)) (by simpa using hj) ho hu
  simp only [List.set_cons_succ]
  have e0: ∀ws:List Value,A8 (v::ws)=v.cells.toList++A8 ws:=fun ws=>by simp [A8]
  rw [e0,e0,ih]
  have e1:(j+1) * sz+off=sz+(j * sz+off):=by rw [Nat.add_mul,Nat.one_mul];omega
  have e2:(j+1) * sz+off+new.length=sz+(j * sz+off+new.length):=by rw [e1];omega
  rw [e2,e1,List.take_append,List.drop_append,hl]
  have a1:sz+(j * sz+off) - sz=j * sz+off:=by omega
  have a2:sz+(j * sz+off+new.length) - sz=j * sz+off+new.length:=by omega
  rw [a1,a2,List.take_of_length_le (l:=v.cells.toList) (by omega),List.drop_of_length_le (l:=v.cells.toList) (by omega)]
  simp
theorem E0.set {O:Nat→Prop} {e:TypeId} : ∀ {xs:List IV} {vs:List Value} {j:Nat} {y:IV} {u:Value},E0 P w O e xs vs→Rel P w O e y u→u.cells.size=Af P e→E0 P w O e (xs.set j y) (vs.set j u)
 | [],[],j,_,_,_,_,_=>by simp [E0]
 | _::_,_::_,0,_,_,h,h1,h2=>⟨⟨h1,h2⟩,h.2⟩
 | _::_,_::_,j+1,_,_,h,h1,h2=>⟨h.1,E0.set h.2 h1 h2⟩
 | [],_::_,_,_,_,h,_,_=>h.elim
 | _::_,[],_,_,_,h,_,_=>h.elim
theorem Rel.Adr {O:Nat→Prop} {t0 t:TypeId} {off:Nat} {x y:IV} {u v:Value} (hx:Rel P w O t0 x u) (ha:Ag P t0=true) (hp:Ro P t0 off t=true) (hy:Rel P w O t y v):
    off+v.cells.size≤u.cells.size∧v.cells.size=Af P t∧ ∃cs,x= .agg cs∧
      ((Ag P t=true→ ∃new,y= .agg new∧new.length=Af P t∧Rel P w O t0 (.agg (setCells cs new off)) (.agg (u.cells.toList.take off++v.cells.toList++u.cells.toList.drop (off+v.cells.size)).toArray))∧
       (Ag P t=false→Rel P w O t0 (.agg (cs.set off y)) (.agg (u.cells.toList.take off++v.cells.toList++u.cells.toList.drop (off+v.cells.size)).toArray))):=by
  obtain ⟨ts,xs,us,h1,rfl,rfl,hr⟩:=hx.W1 ha
  unfold Ro at hp
  rw [h1] at hp
  cases hus:leaves P t with
  | none=>simp [hus] at hp
  | some tt=>
    simp only [hus,Bool.and_eq_true,beq_iff_eq,decide_eq_true_eq] at hp
    obtain ⟨⟨hp1,hp2⟩,hp3⟩:=hp
    have hl1:=hr.len
    have hget: ∀ (i:Nat) (q:TypeId),tt[i]?=some q→ts[off+i]?=some q:=by
      intro i q hq
      rw [←hp1,List.getElem?_take] at hq
      split at hq
      · rwa [List.getElem?_drop] at hq
      · simp at hq
    have hle:off+tt.length≤ts.length:=by
      have:=congrArg List.length hp1
      rw [List.length_take,List.length_drop] at this
      omega
    -- the new part, leaf by leaf
    have hpart: ∃new:List IV,Gn P w O tt new v.cells.toList∧(Ag P t=true→y= .agg new)∧(Ag P t=false→new= [y]):=by
      by_cases hag:Ag P t=true
      · obtain ⟨ts',ys,vs',q1,rfl,rfl,q2⟩:=hy.W1 hag
        rw [hus] at q1;injection q1 with q1;subst q1
        exact ⟨ys,q2,fun _=>rfl,fun h=>by simp [hag] at h⟩
      · have hag':Ag P t=false:=by simpa using hag
        have ht1:tt= [t]:=by
          have hl: ∀ (d:Nat),E6 P (d+1) t=some tt→tt= [t]:=by
            intro d hd
            unfold E6 at hd
            cases hun:P.underlying t with
            | none=>simp [hun] at hd
            | some de=>cases de<;>simp_all [Ag]
          exact hl 11 hus
        subst ht1
        refine ⟨[y],?_,fun h=>by simp [hag'] at h,fun _=>rfl⟩
        rw [(hy.one hag').2]
        exact ⟨hy,trivial⟩
    obtain ⟨new,hn,hna,hnb⟩:=hpart
    have hl2:=hn.len
    have hvs:v.cells.size=tt.length:=by rw [←Array.length_toList];exact hl2.2
    have husz:us.size=ts.length:=by rw [←Array.length_toList];exact hl1.2
    have hsz:off+v.cells.size≤us.size:=by omega
    have hnl:new.length=v.cells.toList.length:=by rw [hl2.1,hl2.2]
    have hrel:Rel P w O t0 (.agg (setCells xs new off)) (.agg (us.toList.take off++v.cells.toList++us.toList.drop (off+v.cells.size)).toArray):=by
      refine Gn.agg (ts:=ts) (Gn.Ja ?_ ?_ ?_) ha h1
      · unfold setCells
        rw [I9 (by omega)];exact hl1.1
      · have:=I9 (cs:=us.toList) (new:=v.cells.toList) (off:=off) (by simpa using hsz)
        simp only [Array.length_toList] at this ⊢
        rw [List.toList_toArray,this]
        omega
      · intro i q x' c' hq hx' hc'
        unfold setCells at hx'
        rw [Lu (by omega)] at hx'
        rw [List.toList_toArray] at hc'
        have hcc:=Lu (cs:=us.toList) (new:=v.cells.toList) (off:=off) (by simpa using hsz) i
        simp only [Array.length_toList] at hcc
        rw [hcc] at hc'
        by_cases c1:i<off
        · simp only [c1,if_true] at hx' hc'
          exact hr.get i q x' c' hq hx' hc'
        · simp only [c1,if_false] at hx' hc'
          by_cases c2:i<off+v.cells.size
          · rw [if_pos c2] at hc'
            rw [if_pos (by rw [hnl,Array.length_toList];exact c2)] at hx'
            refine hn.get (i - off) q x' c' ?_ hx' hc'
            have hit:i - off<tt.length:=by omega
            have:=hget (i - off) _ (List.getElem?_eq_getElem hit)
            rw [show off+(i - off)=i by omega,hq] at this
            rw [List.getElem?_eq_getElem hit];exact this.symm
          · rw [if_neg c2] at hc'
            rw [if_neg (by rw [hnl,Array.length_toList];exact c2)] at hx'
            exact hr.get i q x' c' hq hx' hc'
    refine ⟨hsz,by omega,xs,rfl,fun hag=>⟨new,hna hag,by omega,hrel⟩,fun hag=>?_⟩
    have hnw:=hnb hag
    subst hnw
    have:setCells xs [y] off=xs.set off y:=by
      unfold setCells
      have ho:off<xs.length:=by simp at hl2;omega
      simp only [List.length_singleton]
      rw [List.set_eq_take_append_cons_drop,if_pos ho]
      simp
    rw [←this];exact hrel
end
theorem Se {α:Type} {cs new:List α} {p m:Nat} (h:p+new.length≤m) (hm:m≤cs.length):
  (cs.take p++new++cs.drop (p+new.length)).take m=(cs.take m).take p++new++(cs.take m).drop (p+new.length):=by
 apply List.ext_getElem?
 intro i
 rw [Lu (by rw [List.length_take];omega),List.getElem?_take,Lu (by omega),List.getElem?_take]
 by_cases h1:i<p
 ·simp [h1,show i<m by omega]
 ·by_cases h2:i<p+new.length
  ·simp [h1,h2,show i<m by omega]
  ·simp only [h1,h2,if_false]
section
variable {P:Program} {w:World} {O:Nat→Prop}
theorem Aim {e t:TypeId} {off:Nat} {xs:List IV} {vs:List Value} {j:Nat} {y r:IV} {v:Value} (hE:E0 P w O e xs vs) (hy:Rel P w O t y v)
  (hg:((off == 0&&t == e&&K8 P e)||(Ag P e&&Ro P e off t&&K8 P e))=true)
  (hr:Prim.ev (.setAt off (Af P t) (Ag P t) (off == 0&&t == e)) [.list xs,.int (j:Nat),y]=some r):
  ∃xs' vs',r= .list xs'∧xs'.length=xs.length∧E0 P w O e xs' vs'∧j * Af P e+off+v.cells.size≤(A8 vs).length ∧v.cells.size=Af P t∧
   A8 vs'=(A8 vs).take (j * Af P e+off)++v.cells.toList++(A8 vs).drop (j * Af P e+off+v.cells.size):=by
 simp only [Prim.ev,Int.natCast_nonneg,if_true,Int.toNat_natCast] at hr
 cases hx:xs[j]? with
 | none=>simp [hx] at hr
 | some old=>
  obtain ⟨u,hu,hou⟩:=hE.get j old hx
  have hsz:=fun a b=>(hE.size a b).1
  have hus:=hsz u (List.mem_of_getElem? hu)
  have hj:=(List.getElem?_eq_some_iff.1 hu).1
  have hlen:=Dx hsz
  have hjn:j * Af P e+Af P e≤vs.length * Af P e:=by rw [←Nat.succ_mul];exact Nat.mul_le_mul_right _ hj
  simp only [hx] at hr
  by_cases hw:(off == 0&&t == e)=true
  ·simp only [hw,if_true,Option.some.injEq] at hr
   subst hr
   simp only [Bool.and_eq_true,beq_iff_eq] at hw
   obtain ⟨rfl,rfl⟩:=hw
   have hso:K8 P t=true:=by
    simp only [Bool.or_eq_true,Bool.and_eq_true] at hg
    rcases hg with hg | hg
    ·exact hg.2
    ·exact hg.2
   have hvs:=hy.sized hso
   have hsp:=Tm (vs:=vs) (j:=j) (off:=0) (u:=u) (u':=v) (new:=v.cells.toList) hsz hu (by rw [Array.length_toList,hvs];omega)
    (by rw [List.take_zero,List.nil_append,Nat.zero_add,List.drop_of_length_le (by rw [Array.length_toList,Array.length_toList];omega),List.append_nil])
   rw [Array.length_toList] at hsp
   exact ⟨_,_,rfl,by simp,E0.set hE hy hvs,by omega,hvs,hsp⟩
  ·have hw':(off == 0&&t == e)=false:=by simpa using hw
   simp only [hw',Bool.false_and,Bool.false_or,Bool.and_eq_true] at hg
   obtain ⟨⟨ha,hp⟩,hso⟩:=hg
   obtain ⟨b1,b2,cs,rfl,hA,hB⟩:=hou.Adr ha hp hy
   simp only [hw'] at hr
   have fin: ∀ {y':IV},Rel P w O e y' (.agg (u.cells.toList.take off++v.cells.toList++u.cells.toList.drop (off+v.cells.size)).toArray)→r= .list (xs.set j y')→
     ∃xs' vs',r= .list xs'∧xs'.length=xs.length∧E0 P w O e xs' vs'∧j * Af P e+off+v.cells.size≤(A8 vs).length ∧v.cells.size=Af P t∧
      A8 vs'=(A8 vs).take (j * Af P e+off)++v.cells.toList++(A8 vs).drop (j * Af P e+off+v.cells.size):=by
    intro y' h1 h2
    have hsp:=Tm (vs:=vs) (j:=j) (off:=off) (u:=u) (new:=v.cells.toList) (u':= .agg (u.cells.toList.take off++v.cells.toList++u.cells.toList.drop (off+v.cells.size)).toArray) hsz hu
     (by rw [Array.length_toList];omega) (by rw [Array.length_toList];simp [Value.cells])
    rw [Array.length_toList] at hsp
    exact ⟨_,_,h2,by simp,E0.set hE h1 (h1.sized hso),by omega,b2,hsp⟩
   cases hag:Ag P t with
   | true=>
    obtain ⟨new,rfl,hn,hR⟩:=hA hag
    simp only [hag,hn,if_true,Bool.false_eq_true,if_false,Option.some.injEq] at hr
    exact fin hR hr.symm
   | false=>
    have hR:=hB hag
    simp only [hag,Bool.false_eq_true,if_false,Option.some.injEq] at hr
    exact fin hR hr.symm
end
section
variable {P:Program} {N:Nat} {X:Nat→Prop} {R:Job→List IV→Option (List IV)} {ρ:List IV} {K:Nat→Prop} {S:View} {μ:Nat→Value} {a:Act} {w:World} {es es':ES} {ls:List PLt} {sx:SX}
theorem Qt {k b : Nat} {o o' : Ob} {cs : Array Value} {e1 : ES} {nn : Nat} {val : Value} (p : Ph P N X ρ K S μ a w es e1) (ho : cur S e1.obs k = some o) (hown : o.Dn = true) (hb : blk (μ k) = some b) (hkeys : ∀ k' ∈ Ee o', K k')
    (hok : C0 K (A6 P X ρ (cur S e1.obs) μ w) (A6 P X ρ (A9 (cur S e1.obs) k (some o')) (Cu μ k (μ k)) (w.setRow b cs)) → Y0 (A6 P X ρ (A9 (cur S e1.obs) k (some o')) (Cu μ k (μ k)) (w.setRow b cs)) k o') :
    Out P N X ρ K S μ a w es { e1 with n := nn, obs := (k, some o') :: e1.obs } (one (.leaf .junk)) (Cu μ k (μ k)) (w.setRow b cs) val := by
  have hKk := (p.Bu.ko k o ho).1
  have hP : Put P X ρ K (cur S e1.obs) (A9 (cur S e1.obs) k (some o')) μ w (w.setRow b cs) k o' (μ k) :=
    { other := fun k' o2 h h2 => by simpa [A9, h] using h2
      here := by simp [A9]
      same := fun k' _ => by unfold Cu; split <;> simp_all
      step := Aab ⟨k, o, ho, hown, hb⟩ _
      rest := fun k' o2 b' h h2 hi hb' => by
        have h2' : cur S e1.obs k' = some o2 := by simpa [A9, h] using h2
        refine setRow_other w b b' cs (fun e => ?_)
        subst e
        exact h (p.Bu.sep k' k o2 o b' h2' ho hi hown hb' hb)
      new := fun b' hb' => .inl ⟨⟨k, o, ho, hown, hb'⟩, fun k' o2 h h2 hi hb2 => h (p.Bu.sep k' k o2 o b' (by simpa [A9, h] using h2) ho hi hown hb2 hb')⟩
      keys := fun k2 h2 => .inl (hkeys k2 h2) }
  have hK : ∀ k', K k' ∨ k' = k → Al K es.m e1.m k' := by
    rintro k' (h | rfl)
    · exact .inl h
    · exact .inl hKk
  refine ⟨?_, trivial, fun k h => by simp [Br, Ap, As, one] at h, ?_, ?_, hP.same⟩
  · show Good P N X ρ (Al K es.m e1.m) S.tm (cur S ((k, some o') :: e1.obs)) _ a _
    rw [A7]
    exact hP.Bu p.Bu (hok hP.later) hK
  · have := hP.step
    exact ⟨this.os, this.tape, this.output, this.size, fun b hb hW => this.stays b hb fun h => hW (p.Dc.wr h)⟩
  · intro b' hb'
    have hb' : Wr (cur S ((k, some o') :: e1.obs)) _ b' := hb'
    rw [A7] at hb'
    exact (hP.own p.Bu b' hb').imp p.Dc.wr id
theorem Aiq {p:PV} {t:TypeId} {vv:VV} {va v:Value} {u:Unit} (G:Good P N X ρ K S.tm (cur S es.obs) μ a w) (h:Ev S (Akt P p t vv) es u es' ls) (hl:LH R ρ ls) (hg:holds ρ es.gs=some true)
  (hp:Xz (A6 P X ρ (cur S es.obs) μ w) p va) (hpk: ∀k∈Cv p,K k) (hv:Ki (A6 P X ρ (cur S es.obs) μ w) vv v) (hvk: ∀k∈Ap vv,K k):
  ∃w' μ',(Instr.storeAt t va v).run P w= .ok () w'∧Out P N X ρ K S μ a w es es' (one (.leaf .junk)) μ' w' undef:=by
 unfold Akt at h
 rw [Aa] at h
 obtain ⟨_,_,_,_,h0,h,rfl⟩:=h
 rw [Cy] at h0
 obtain ⟨_,rfl,rfl⟩:=h0
 have hl:=hl.right
 cases p with
 | p k off=>
  rw [Aa] at h
  obtain ⟨o,_,_,l2,h0,h,rfl⟩:=h
  rw [Be] at h0
  obtain ⟨ho,rfl,rfl⟩:=h0
  have hl:=hl.right
  cases o with
  | arr=>simp [Ad] at h
  | frz=>simp [Ad] at h
  | iter=>simp [Ad] at h
  | mp=>simp [Ad] at h
  | box t0 old=>
   obtain ⟨b,uu,o1,o2,o3,o4,o5,o6⟩:=G.obj k _ ho
   obtain ⟨b',p1,p2⟩:=hp
   have hbb:b'=b:=by
    have h1':μ k= .pointer (some ⟨b,0,none⟩):=o1
    have p1':μ k= .pointer (some ⟨b',0,none⟩):=p1
    rw [h1'] at p1';injection p1' with p1';injection p1' with p1';injection p1' with p1';exact p1'.symm
   subst hbb
   have hblk:blk (μ k)=some b':=by
    have o1':μ k= .pointer (some ⟨b',0,none⟩):=o1
    rw [o1'];rfl
   subst p2
   have o2':w.heap[b']?=some (.cells uu.cells t0 (0,0)):=o2
   have o3':uu.cells.size=Af P t0:=o3
   simp only [Gk] at h
   rcases h with ⟨hc,h⟩ | ⟨hc,h⟩
   ·simp only [Bool.and_eq_true,beq_iff_eq] at hc
    obtain ⟨rfl,rfl⟩:=hc
    simp only [Aa,Ae,A5] at h
    obtain ⟨_,_,_,_,⟨g1,rfl,rfl⟩,⟨rfl,rfl⟩,rfl⟩:=h
    obtain ⟨f1,f2,f3⟩:=W8 (c:=A6 P X ρ (cur S es.obs) μ w) g1 hv
    have f1:v.cells.size=Af P t:=f1
    obtain ⟨i,hi⟩: ∃i,P.info? t=some i:=by
     by_cases ha:Ag P t=true
     ·obtain ⟨d,hd⟩:=Hp ha
      exact D3 hd
     ·have ha':Ag P t=false:=by simpa using ha
      have f2':v.oneCell'=true:=by
       have:(if Ag P t then ∃cs,v= .agg cs else v.oneCell'=true):=f2
       simpa [ha'] using this
      rw [Ew f2'] at f1
      exact D1 (by simp at f1;omega)
    have hrun:=Iv (off:=0) hi o2' f1 (by omega) f3
    have hcells:(uu.cells.toList.take 0++v.cells.toList++uu.cells.toList.drop (0+v.cells.size)).toArray =v.cells:=by
     rw [List.take_zero,List.nil_append,Nat.zero_add,List.drop_of_length_le (by rw [Array.length_toList];omega),List.append_nil]
    rw [hcells] at hrun
    refine ⟨_,_,hrun,Qt (e1:=es) (.refl G) ho rfl hblk hvk (fun L=>?_)⟩
    exact ⟨b',v,by rw [show (A6 P X ρ (A9 (cur S es.obs) k (some (.box t vv))) (Cu μ k (μ k)) (w.setRow b' v.cells)).μ =Cu μ k (μ k) from rfl,A4];exact o1,
     setRow_heap w b' uu.cells v.cells t (0,0) o2',f1,f2,f3,L.Ahm hvk hv⟩
   ·rw [Aa] at h
    obtain ⟨_,_,_,_,h0,h,rfl⟩:=h
    rw [Ae] at h0
    obtain ⟨g1,rfl,rfl⟩:=h0
    simp only [Bool.and_eq_true,decide_eq_true_eq] at g1
    obtain ⟨ga,gs⟩:=g1
    have hl:=hl.right
    rw [Aa] at h
    obtain ⟨cs,e1,l1,_,h1,h,rfl⟩:=h
    obtain ⟨⟨n1,rfl⟩,q1,q2⟩:=H0 h1 hl.left hg (G.ko k _ ho).2 o6
    rw [Aa] at h
    obtain ⟨new,e2,l2,_,h2,h,rfl⟩:=h
    obtain ⟨⟨n2,rfl⟩,q3,q4⟩:=H0 (es:= {es with n:=n1}) h2 hl.right.left hg hvk hv
    simp only [Aa,Ae,A5] at h
    obtain ⟨_,_,_,_,⟨g2,rfl,rfl⟩,⟨rfl,rfl⟩,rfl⟩:=h
    simp only [Bool.and_eq_true,decide_eq_true_eq,beq_iff_eq] at g2
    obtain ⟨g2,g3⟩:=g2
    have hvl:v.cells.size=new.length:=by rw [q3.len,Array.length_toList]
    have hcl:uu.cells.size=cs.length:=by rw [q1.len,Array.length_toList]
    have f1:v.cells.size=Af P t:=by omega
    have f3: ∀u∈v.cells,u.oneCell'=true:=fun u hu=>q3.one u (by simpa using hu)
    obtain ⟨i,hi⟩:=D1 gs
    have hrun:=Iv (off:=off) hi o2' f1 (by omega) f3
    refine ⟨_,Cu μ k (μ k),hrun,?_⟩
    have hkeys: ∀k'∈Ap (.agg t0 (cs.take off++new++cs.drop (off+new.length))),K k':=by
     intro k' hm
     simp only [Ap,List.flatMap_append,List.mem_append] at hm
     rcases hm with (hm | hm) | hm
     ·simp only [List.mem_flatMap] at hm
      obtain ⟨l,hm,hk'⟩:=hm
      exact q2 k' (List.mem_flatMap.2 ⟨l,List.mem_of_mem_take hm,hk'⟩)
     ·exact q4 k' hm
     ·simp only [List.mem_flatMap] at hm
      obtain ⟨l,hm,hk'⟩:=hm
      exact q2 k' (List.mem_flatMap.2 ⟨l,List.mem_of_mem_drop hm,hk'⟩)
    refine Qt (e1:=es) (nn:=n2) (.refl G) ho rfl hblk hkeys (fun L=>?_)
    have hspl:=q1.Adr q3 off
    have hcells:(uu.cells.toList.take off++v.cells.toList++uu.cells.toList.drop (off+v.cells.size))=(uu.cells.toList.take off++v.cells.toList++uu.cells.toList.drop (off+v.cells.toList.length)):=by rw [Array.length_toList]
    rw [←hcells] at hspl
    refine ⟨b',.agg (uu.cells.toList.take off++v.cells.toList++uu.cells.toList.drop (off+v.cells.size)).toArray,?_,setRow_heap w b' uu.cells _ t0 (0,0) o2',?_,?_,?_,?_⟩
    ·show Cu μ k (μ k) k=_
     rw [A4];exact o1
    ·have:=I9 (cs:=uu.cells.toList) (new:=v.cells.toList) (off:=off) (by rw [Array.length_toList,Array.length_toList];omega)
     rw [Array.length_toList,Array.length_toList] at this
     exact this.trans o3'
    ·show if Ag P t0 then _ else _
     rw [if_pos ga];exact ⟨_,rfl⟩
    ·intro u hu
     have hu':u∈(uu.cells.toList.take off++v.cells.toList++uu.cells.toList.drop (off+v.cells.size)):=by simpa [Value.cells] using hu
     exact hspl.one u hu'
    ·exact ⟨_,rfl,by rw [List.toList_toArray];exact L.Aam hkeys hspl⟩
 | el k e iA off=>
  rw [Aa] at h
  obtain ⟨x,e1,l1,_,h1,h,rfl⟩:=h
  obtain ⟨p,_,hD⟩:=Dw G h1 hl.left hg hvk hv
  obtain ⟨y,d1,d2⟩:=hD rfl
  have d1:x.ev ρ=some y:=d1
  have hl:=hl.right
  rw [Aa] at h
  obtain ⟨o,_,_,l2,h0,h,rfl⟩:=h
  rw [Be] at h0
  obtain ⟨ho,rfl,rfl⟩:=h0
  have hl:=hl.right
  cases o with
  | box=>simp [Ad] at h
  | frz=>simp [Ad] at h
  | iter=>simp [Ad] at h
  | mp=>simp [Ad] at h
  | arr e' tt c=>
   simp only [Aa,Ae,Bb,A5] at h
   obtain ⟨_,_,_,_,⟨g1,rfl,rfl⟩,⟨_,_,_,_,⟨g2,rfl,rfl⟩,⟨_,_,_,_,⟨rfl,rfl,rfl⟩,⟨rfl,rfl⟩,rfl⟩,rfl⟩,rfl⟩:=h
   have:e'=e:=by simpa using g1
   subst this
   obtain ⟨ivs,cs,q1,q2,q3,q4,q5,q6⟩:=p.Bu.obj k _ ho
   have q1:c.ev ρ=some (.list ivs):=q1
   obtain ⟨vs',r,r1,r2,r3⟩:=LH.Bo hl.right.right.left (by rw [p.gs];exact hg)
   obtain ⟨a1,a2,a3,s1,s2,s3,rfl⟩:=Aq6 r1
   obtain ⟨g,n,cap,j,m1,m2,m3,rfl⟩:=hp
   have m2:iA.ev ρ=some (.int (j:Nat)):=m2
   have m1:μ k= .slice (some ⟨g,0,none⟩) n cap:=m1
   rw [q1] at s1;injection s1 with s1;subst s1
   rw [m2] at s2;injection s2 with s2;subst s2
   rw [d1] at s3;injection s3 with s3;subst s3
   obtain ⟨w1,q4⟩:=q4
   rcases q4 with ⟨q4,_⟩ | ⟨g',cap',cu,f1,f2,f3,f4,f5,f6,f7⟩
   ·have q4:μ k= .slice none 0 0:=q4
    rw [m1] at q4;injection q4 with q4;cases q4
   ·have f1':μ k= .slice (some ⟨g',0,none⟩) ivs.length cap':=f1
    rw [m1] at f1';injection f1' with i1 i2 i3
    injection i1 with i1;injection i1 with i1;subst i1;subst i2;subst i3
    have f3:w.heap[g]?=some (.cells cu e' (0,0)):=f3
    have w1:cs.length=ivs.length * Af P e':=w1
    have q5:Ik P w (A6 P X ρ (cur S e1.obs) μ w).O e' ivs cs:=q5
    obtain ⟨us,hE,rfl⟩:=q5.Amt w1
    obtain ⟨xs',us',rfl,t1,t2,t3,t4,t5⟩:=Aim hE d2 g2 r2
    have f6:cu.size=cap * Af P e':=f6
    have f7:cu.toList.take (ivs.length * Af P e')=A8 us:=f7
    have hcap:ivs.length * Af P e'≤cu.size:=by rw [f6];exact Nat.mul_le_mul_right _ f4
    obtain ⟨i,hi⟩: ∃i,P.info? t=some i:=by
     simp only [Bool.or_eq_true,Bool.and_eq_true,beq_iff_eq] at g2
     by_cases ha:Ag P t=true
     ·obtain ⟨d,hd⟩:=Hp ha
      exact D3 hd
     ·have ha':Ag P t=false:=by simpa using ha
      have:=(d2.one ha').1
      rw [Ew this] at t4
      exact D1 (by simp at t4;omega)
    have hrun:=Iv (off:=j * Af P e'+off) hi f3 t4 (by omega) d2.Nu
    refine ⟨_,Cu μ k (μ k),hrun,Qt (e1:=e1) p ho rfl (by rw [m1];rfl) (fun k' hk=>by cases hk) (fun L=>?_)⟩
    refine ⟨xs',A8 us',r3,q2,q3,⟨?_,.inr ⟨g,cap,_,?_,Nat.zero_le _,setRow_heap w g cu _ e' (0,0) f3,by omega,f5,?_,?_⟩⟩,(E0.later L t2).elems,Ex fun v hv=>(t2.size v hv).2⟩
    ·rw [Dx fun v hv=>(t2.size v hv).1,t2.len];rfl
    ·show Cu μ k (μ k) k=_
     rw [A4,m1,t1]
    ·have:=I9 (cs:=cu.toList) (new:=v.cells.toList) (off:=j * Af P e'+off) (by rw [Array.length_toList,Array.length_toList];omega)
     rw [Array.length_toList,Array.length_toList] at this
     exact this.trans f6
    ·rw [List.toList_toArray,t1]
     have:=Se (cs:=cu.toList) (new:=v.cells.toList) (p:=j * Af P e'+off) (m:=ivs.length * Af P e') (by rw [Array.length_toList];omega) (by rw [Array.length_toList];omega)
     rw [Array.length_toList] at this
     rw [t5,←f7];exact this
 | im x t0 off=>simp [Ad] at h
end
end Go.CT
namespace Go.CT
open EM
section
variable {P:Program} {N:Nat} {X:Nat→Prop} {R:Job→List IV→Option (List IV)} {ρ:List IV} {K:Nat→Prop} {S:View} {μ:Nat→Value} {a:Act} {w:World} {es es':ES} {ls:List PLt} {sx:SX}
theorem T2 (z:Value) (sz n:Nat) (hz:z.cells.size=sz) (hs:0<sz):(Builtin.zeroCells z.cells n).toList =A8 (List.replicate n z):=by
 have h1:Builtin.zeroCells z.cells n=madeCells z.cells (n * sz):=by simp [Builtin.zeroCells,madeCells,hz]
 have h2:=Aa4 z.cells sz n n hz hs (Nat.le_refl _)
 have h3:(madeCells z.cells (n * sz)).toList.take (n * sz)=(madeCells z.cells (n * sz)).toList :=by
  rw [List.take_of_length_le]
  rw [Array.length_toList,size_madeCells];exact Nat.le_refl _
 rw [h1,←h3,h2]
 simp only [A8,List.flatMap_replicate]
 rfl
theorem Rc {sz:Nat} : ∀ {us:List Value},(∀u∈us,u.cells.size=sz)→ ∀l,A8 (us.take l)=(A8 us).take (l * sz)∧A8 (us.drop l)=(A8 us).drop (l * sz)
 | [],_,l=>by simp [A8]
 | u::us,h,0=>by simp [A8]
 | u::us,h,l+1=>by
  have ih:=Rc (us:=us) (fun v hv=>h v (List.mem_cons_of_mem _ hv)) l
  have hu:u.cells.toList.length=sz:=by rw [Array.length_toList];exact h u List.mem_cons_self
  have e0: ∀vs:List Value,A8 (u::vs)=u.cells.toList++A8 vs:=fun vs=>by simp [A8]
  have e1:(l+1) * sz=sz+l * sz:=by rw [Nat.add_mul,Nat.one_mul];omega
  rw [List.take_succ_cons,List.drop_succ_cons,e0,e0,ih.1,ih.2,e1]
  constructor
  ·rw [List.take_append,hu,List.take_of_length_le (l:=u.cells.toList) (by omega)]
   congr 2;omega
  ·rw [List.drop_append,hu,List.drop_of_length_le (l:=u.cells.toList) (by omega),List.nil_append]
   congr 1;omega
theorem E0.cut {O:Nat→Prop} {e:TypeId} {xs:List IV} {us:List Value} (h:E0 P w O e xs us) (l:Nat):E0 P w O e (xs.take l) (us.take l)∧E0 P w O e (xs.drop l) (us.drop l):=by
 have hlen:=h.len
 refine ⟨E0.Ja (by rw [List.length_take,List.length_take,hlen]) fun j x v hx hv=>?_,E0.Ja (by rw [List.length_drop,List.length_drop,hlen]) fun j x v hx hv=>?_⟩
 ·rw [List.getElem?_take] at hx hv
  split at hx
  ·rename_i hj
   rw [if_pos hj] at hv
   obtain ⟨u,h1,h2⟩:=h.get j x hx
   rw [hv] at h1;injection h1 with h1;subst h1
   exact ⟨h2,(h.size v (List.mem_of_getElem? hv)).1⟩
  ·cases hx
 ·rw [List.getElem?_drop] at hx hv
  obtain ⟨u,h1,h2⟩:=h.get _ x hx
  rw [hv] at h1;injection h1 with h1;subst h1
  exact ⟨h2,(h.size v (List.mem_of_getElem? hv)).1⟩
theorem E0.app {O:Nat→Prop} {e:TypeId} {xs ys:List IV} {us vs:List Value} (h:E0 P w O e xs us) (k:E0 P w O e ys vs):E0 P w O e (xs++ys) (us++vs):=by
 have h1:=h.len
 have h2:=k.len
 refine E0.Ja (by rw [List.length_append,List.length_append,h1,h2]) fun j x v hx hv=>?_
 by_cases hj:j<us.length
 ·rw [List.getElem?_append_left (by omega)] at hx
  rw [List.getElem?_append_left hj] at hv
  obtain ⟨u,q1,q2⟩:=h.get j x hx
  rw [hv] at q1;injection q1 with q1;subst q1
  exact ⟨q2,(h.size v (List.mem_of_getElem? hv)).1⟩
 ·rw [List.getElem?_append_right (by omega)] at hx hv
  rw [h1] at hx
  obtain ⟨u,q1,q2⟩:=k.get _ x hx
  rw [hv] at q1;injection q1 with q1;subst q1
  exact ⟨q2,(k.size v (List.mem_of_getElem? hv)).1⟩
theorem Ahp {t rt:TypeId} {x:Operand} (G:Good P N X ρ K S.tm (cur S es.obs) μ a w) (h:Ev S (Ak0 P t x) es sx es' ls) (hl:LH R ρ ls) (hg:holds ρ es.gs=some true):
  ∃v w' μ',(Builtin.clear_ #[t] rt #[a.eval x]).run P w= .ok v w'∧Out P N X ρ K S μ a w es es' sx μ' w' v:=by
 unfold Ak0 at h
 rw [Aa] at h
 obtain ⟨_,_,_,_,h0,h,rfl⟩:=h
 rw [Cy] at h0
 obtain ⟨_,rfl,rfl⟩:=h0
 rw [Aa] at h
 obtain ⟨e,_,_,_,h0,h,rfl⟩:=h
 rw [Ai] at h0
 obtain ⟨he,rfl,rfl⟩:=h0
 rw [Aa] at h
 obtain ⟨_,_,_,_,h0,h,rfl⟩:=h
 rw [Ae] at h0
 obtain ⟨g1,rfl,rfl⟩:=h0
 simp only [Bool.and_eq_true,decide_eq_true_eq] at g1
 obtain ⟨g1,g3⟩:=g1
 rw [Aa] at h
 obtain ⟨zi,_,_,_,h0,h,rfl⟩:=h
 rw [Ai] at h0
 obtain ⟨hz,rfl,rfl⟩:=h0
 rw [Aa] at h
 obtain ⟨xv,e1,l1,_,h1,h,rfl⟩:=h
 obtain ⟨rfl,rfl,p1,p2⟩:=Eu G h1 hg
 split at h
 rotate_left
 ·simp [Ad] at h
 rename_i k lo hi t'
 rw [Aa] at h
 obtain ⟨o,_,_,l2,h0,h,rfl⟩:=h
 rw [Be] at h0
 obtain ⟨ho,rfl,rfl⟩:=h0
 cases o with
 | box=>simp [Ad] at h
 | frz=>simp [Ad] at h
 | iter=>simp [Ad] at h
 | mp=>simp [Ad] at h
 | arr e' tt c=>
  simp only [Aa,Ae,Bb,A5,Ac] at h
  obtain ⟨_,_,_,_,⟨g4,rfl,rfl⟩,⟨_,_,_,_,⟨rfl,rfl,rfl⟩,⟨_,_,_,_,⟨rfl,rfl⟩,⟨rfl,rfl,rfl⟩,rfl⟩,rfl⟩,rfl⟩:=h
  simp only [Bool.and_eq_true,beq_iff_eq] at g4
  obtain ⟨rfl,g4⟩:=g4
  obtain ⟨ivs,cs,q1,q2,q3,q4,q5,q6⟩:=G.obj k _ ho
  have q1:c.ev ρ=some (.list ivs):=q1
  have hl':=hl.right.right.right.right.right.right.right
  obtain ⟨vs',r,r1,r2,r3⟩:=LH.Bo (by simpa using hl') hg
  obtain ⟨a1,a2,a3,s1,s2,s3,rfl⟩:=Aq6 r1
  obtain ⟨A,n,cap,l,h,e0,m0,m1,m2,m3,m4,m5,hv⟩:=p1
  have m2:lo.ev ρ=some (.int (l:Nat)):=m2
  have m3:hi.ev ρ=some (.int (h:Nat)):=m3
  have m1:μ k= .slice A n cap:=m1
  have m0:P.underlying t'=some (.slice e0):=m0
  rw [Ba g4] at m0;injection m0 with m0;injection m0 with m0;subst m0
  rw [q1] at s1;injection s1 with s1;subst s1
  rw [m2] at s2;injection s2 with s2;subst s2
  rw [m3] at s3;injection s3 with s3;subst s3
  simp only [Prim.ev] at r2
  rw [Option.ite_none_right_eq_some] at r2
  obtain ⟨⟨hpos,_,_,hle⟩,r2⟩:=r2
  injection r2 with r2
  subst r2
  have hle:h≤ivs.length:=by omega
  simp only [Int.toNat_natCast] at r3
  obtain ⟨w1,q4⟩:=q4
  rcases q4 with ⟨_,q4⟩ | ⟨g,cap',cu,f1,f2,f3,f4,f5,f6,f7⟩
  ·omega
  have f1':μ k= .slice (some ⟨g,0,none⟩) ivs.length cap':=f1
  rw [m1] at f1';injection f1' with i1 i2 i3
  subst i1;subst i2;subst i3
  have f3:w.heap[g]?=some (.cells cu e (0,0)):=f3
  have w1:cs.length=ivs.length * Af P e:=w1
  have q5:Ik P w (A6 P X ρ (cur S es.obs) μ w).O e ivs cs:=q5
  obtain ⟨us,hE,rfl⟩:=q5.Amt w1
  have f6:cu.size=cap * Af P e:=f6
  have f7:cu.toList.take (ivs.length * Af P e)=A8 us:=f7
  have hcap:ivs.length * Af P e≤cu.size:=by rw [f6];exact Nat.mul_le_mul_right _ f4
  obtain ⟨i,z,z1,z2,z3,z4,z5⟩:=Mr g3
  obtain ⟨i',z',z1',z2',hrel⟩:=Pv (w:=w) (O:=(A6 P X ρ (cur S es.obs) μ w).O) hz
  rw [z1] at z1';injection z1' with z1';subst z1'
  rw [z2] at z2';injection z2' with z2';subst z2'
  have hrep:E0 P w (A6 P X ρ (cur S es.obs) μ w).O e (List.replicate (h - l) zi) (List.replicate (h - l) z):=
   E0.Ja (by simp) fun j x v hx hv=>by
    simp [List.getElem?_replicate] at hx hv
    obtain ⟨_,rfl⟩:=hx
    obtain ⟨_,rfl⟩:=hv
    exact ⟨hrel,z3⟩
  have t2:E0 P w (A6 P X ρ (cur S es.obs) μ w).O e (ivs.take l++List.replicate (h - l) zi++ivs.drop h) (us.take l++List.replicate (h - l) z++us.drop h):=
   ((hE.cut l).1.app hrep).app (hE.cut h).2
  have hsz:=fun a b=>(hE.size a b).1
  have hul:us.length=ivs.length:=hE.len.symm
  have hfl:(A8 us).length =ivs.length * Af P e:=by rw [Dx hsz,hul]
  have hzl:(Builtin.zeroCells z.cells (h - l)).toList =A8 (List.replicate (h - l) z):=T2 z (Af P e) (h - l) z3 g1
  have hzn:(A8 (List.replicate (h - l) z)).length =(h - l) * Af P e:=by
   rw [Dx (sz:=Af P e) (fun v hv=>by rw [(List.mem_replicate.1 hv).2];exact z3),List.length_replicate]
  have e3:l * Af P e+(h - l) * Af P e=h * Af P e:=by rw [←Nat.add_mul];congr 1;omega
  have hh:h * Af P e≤ivs.length * Af P e:=Nat.mul_le_mul_right _ hle
  have hflat:A8 (us.take l++List.replicate (h - l) z++us.drop h)=(A8 us).take (l * Af P e)++A8 (List.replicate (h - l) z)++(A8 us).drop (l * Af P e+(A8 (List.replicate (h - l) z)).length):=by
   rw [Ek,Ek,(Rc hsz l).1,(Rc hsz h).2,hzn,e3]
  have hn3:(ivs.take l++List.replicate (h - l) zi++ivs.drop h).length =ivs.length:=by
   simp only [List.length_append,List.length_take,List.length_replicate,List.length_drop];omega
  -- what is laid
  have hrun:(Builtin.clear_ #[t] rt #[a.eval x]).run P w= .ok (.tuple #[]) (w.setRow g (cu.toList.take (l * Af P e)++A8 (List.replicate (h - l) z)++cu.toList.drop (l * Af P e+(A8 (List.replicate (h - l) z)).length)).toArray):=by
   have hund:(underlying t).run P w= .ok (.slice e) w:=by simp [underlying,Ba he]
   have hv':a.eval x= .slice (if cap=l then some (⟨g,0,none⟩:Addr) else (some (⟨g,0,none⟩:Addr)).map (·.add (l * Af P e))) (h - l) (cap - l):=hv
   rw [hv']
   by_cases hlh:h - l=0
   ·have hself:(cu.toList.take (l * Af P e)++A8 (List.replicate (h - l) z)++cu.toList.drop (l * Af P e+(A8 (List.replicate (h - l) z)).length)).toArray =cu:=by
     rw [hlh];simp [A8]
    rw [hself,setRow_self w g cu e (0,0) f3,hlh]
    generalize (if cap=l then some (⟨g,0,none⟩:Addr) else (some (⟨g,0,none⟩:Addr)).map (·.add (l * Af P e)))=Y
    unfold Builtin.clear_
    simp only [List.getElem?_toArray,List.getElem?_cons_zero,Sem.run_bind,hund,Result.andThen_ok]
    cases Y<;>simp
   ·have hcl: ¬ cap=l:=by omega
    obtain ⟨nn,hnn⟩: ∃nn,h - l=nn+1:=⟨h - l - 1,by omega⟩
    have hst:=run_storeCells_at (P:=P) g (l * Af P e) e (A8 (List.replicate (h - l) z)) 0 cu w f3 (by rw [hzn];omega) (fun v hv=>by
     exact Ex (fun u hu=>by rw [(List.mem_replicate.1 hu).2];exact (hrep.size z (by rw [hnn];simp)).2) v hv)
    simp only [Nat.add_zero] at hst
    rw [if_neg hcl]
    simp only [Option.map_some,O7]
    unfold Builtin.clear_
    simp only [List.getElem?_toArray,List.getElem?_cons_zero,Sem.run_bind,hund,Result.andThen_ok]
    rw [hnn]
    simp only [Sem.run_bind,zeroValue,typeInfo]
    rw [←hnn]
    simp [z1,z2,hzl,hst]
  refine ⟨_,_,Cu μ k (μ k),hrun,Qt (e1:=es) (.refl G) ho rfl (by rw [m1];rfl) (fun k' hk=>by cases hk) (fun L=>?_)⟩
  refine ⟨_,A8 (us.take l++List.replicate (h - l) z++us.drop h),r3,q2,q3,⟨?_,.inr ⟨g,cap,_,?_,Nat.zero_le _,setRow_heap w g cu _ e (0,0) f3,by omega,f5,?_,?_⟩⟩,(E0.later L t2).elems,Ex fun v hv=>(t2.size v hv).2⟩
  ·rw [Dx fun v hv=>(t2.size v hv).1,←t2.len];rfl
  ·show Cu μ k (μ k) k=_
   rw [A4,m1,hn3]
  ·have:=I9 (cs:=cu.toList) (new:=A8 (List.replicate (h - l) z)) (off:=l * Af P e) (by rw [hzn,Array.length_toList];omega)
   rw [Array.length_toList] at this
   exact this.trans f6
  ·rw [List.toList_toArray,hn3]
   have:=Se (cs:=cu.toList) (new:=A8 (List.replicate (h - l) z)) (p:=l * Af P e) (m:=ivs.length * Af P e) (by rw [hzn];omega) (by rw [Array.length_toList];omega)
   rw [hflat,←f7];exact this
end
end Go.CT
namespace Go.CT
open EM
def Ix (w:World) (r:Nat) (o:Obj):World:= {w with heap:=w.heap.setIfInBounds r o}
theorem T7 {w:World} {r:Nat} {o o':Obj} (h:w.heap[r]?=some o'):(Ix w r o).heap[r]?=some o:=by
 have hlt:r<w.heap.size:=(Array.getElem?_eq_some_iff.1 h).1
 simp [Ix,hlt]
theorem P0 (w:World) (r:Nat) (o:Obj):Gb (· =r) w (Ix w r o):=
 ⟨rfl,rfl,rfl,by simp [Ix],fun b _ h=>by
  have h: ¬ b=r:=h
  simp [Ix,Ne.symm h]⟩
section
variable {P:Program} {N:Nat} {X:Nat→Prop} {R:Job→List IV→Option (List IV)} {ρ:List IV} {K:Nat→Prop} {S:View} {μ:Nat→Value} {a:Act} {w w':World} {es es':ES} {ls:List PLt} {sx:SX}
theorem S5 {k b : Nat} {o o' : Ob} {e1 : ES} {nn : Nat} {val : Value} (p : Ph P N X ρ K S μ a w es e1) (ho : cur S e1.obs k = some o) (hown : o.Dn = true) (hb : blk (μ k) = some b) (hkeys : ∀ k' ∈ Ee o', K k')
    (hstep : Gb (· = b) w w')
    (hok : C0 K (A6 P X ρ (cur S e1.obs) μ w) (A6 P X ρ (A9 (cur S e1.obs) k (some o')) (Cu μ k (μ k)) w') → Y0 (A6 P X ρ (A9 (cur S e1.obs) k (some o')) (Cu μ k (μ k)) w') k o')
    (hx : Acn (A6 P X ρ (A9 (cur S e1.obs) k (some o')) (Cu μ k (μ k)) w') sx val) (hs : ∀ k ∈ Br sx, K k) :
    Out P N X ρ K S μ a w es { e1 with n := nn, obs := (k, some o') :: e1.obs } sx (Cu μ k (μ k)) w' val := by
  have hKk := (p.Bu.ko k o ho).1
  have hW : Gb (Wr (cur S e1.obs) μ) w w' := ⟨hstep.os, hstep.tape, hstep.output, hstep.size, fun b' hb' hw => hstep.stays b' hb' fun e => hw (by have e : b' = b := e; subst e; exact ⟨k, o, ho, hown, hb⟩)⟩
  have hP : Put P X ρ K (cur S e1.obs) (A9 (cur S e1.obs) k (some o')) μ w w' k o' (μ k) :=
    { other := fun k' o2 h h2 => by simpa [A9, h] using h2
      here := by simp [A9]
      same := fun k' _ => by unfold Cu; split <;> simp_all
      step := hW
      rest := fun k' o2 b' h h2 hi hb' => by
        have h2' : cur S e1.obs k' = some o2 := by simpa [A9, h] using h2
        have hlt := p.Bu.Kg h2' hi hb'
        refine hstep.stays b' hlt fun e => ?_
        have e : b' = b := e
        subst e
        exact h (p.Bu.sep k' k o2 o b' h2' ho hi hown hb' hb)
      new := fun b' hb' => .inl ⟨⟨k, o, ho, hown, hb'⟩, fun k' o2 h h2 hi hb2 => h (p.Bu.sep k' k o2 o b' (by simpa [A9, h] using h2) ho hi hown hb2 hb')⟩
      keys := fun k2 h2 => .inl (hkeys k2 h2) }
  have hK : ∀ k', K k' ∨ k' = k → Al K es.m e1.m k' := by
    rintro k' (h | rfl)
    · exact .inl h
    · exact .inl hKk
  refine ⟨?_, ?_, fun k h => .inl (hs k h), ?_, ?_, hP.same⟩
  · show Good P N X ρ (Al K es.m e1.m) S.tm (cur S ((k, some o') :: e1.obs)) _ a _
    rw [A7]
    exact hP.Bu p.Bu (hok hP.later) hK
  · show Acn (A6 P X ρ (cur S ((k, some o') :: e1.obs)) _ _) _ _
    rw [A7]; exact hx
  · exact ⟨hW.os, hW.tape, hW.output, hW.size, fun b hb hW' => hW.stays b hb fun h => hW' (p.Dc.wr h)⟩
  · intro b' hb'
    have hb' : Wr (cur S ((k, some o') :: e1.obs)) _ b' := hb'
    rw [A7] at hb'
    exact (hP.own p.Bu b' hb').imp p.Dc.wr id
theorem Nc.text {c:Cx} {x:Arg} {t:TypeId} {v:Value} (h:Nc c x t v) (ht:c.P.underlying t=some .string): ∃s,x.ev c.ρ=some (.str s)∧v= .string s:=by
 obtain ⟨iv,h1,h2,_⟩:=h
 obtain ⟨s,rfl,rfl⟩:=h2.Gj ht
 exact ⟨s,h1,rfl⟩
theorem Alb {t:TypeId} {x:Operand} (G:Good P N X ρ K S.tm (cur S es.obs) μ a w) (h:Ev S (Akw P t x) es sx es' ls) (hl:LH R ρ ls) (hg:holds ρ es.gs=some true) (hfresh: ∀k,es.m≤k→k<es'.m→ ¬ K k):
  ∃v w' μ',(Instr.range t (a.eval x)).run P w= .ok v w'∧Out P N X ρ K S μ a w es es' sx μ' w' v:=by
 unfold Akw at h
 rw [Aa] at h
 obtain ⟨_,_,_,_,h0,h,rfl⟩:=h
 rw [Cy] at h0
 obtain ⟨_,rfl,rfl⟩:=h0
 rw [Aa] at h
 obtain ⟨_,_,_,_,h0,h,rfl⟩:=h
 rw [Ae] at h0
 obtain ⟨g0,rfl,rfl⟩:=h0
 have ht:=Dl g0
 rw [Aa] at h
 obtain ⟨y,e1,l1,_,h1,h,rfl⟩:=h
 have hl:=hl.right.right
 obtain ⟨p,q⟩:=Eg G h1 hl.left hg
 obtain ⟨s,q1,q2⟩:=q.text ht
 simp only [Aa,Bp,A5,Ac] at h
 obtain ⟨_,_,_,_,⟨rfl,rfl,rfl⟩,⟨_,_,_,_,⟨rfl,rfl⟩,⟨rfl,rfl,rfl⟩,rfl⟩,rfl⟩:=h
 rw [q2]
 refine ⟨.pointer (some ⟨w.heap.size,0,none⟩),w.alloc (.stringIter s 0),_,?_,V7 (nn:=e1.n) (hdr:= .pointer (some ⟨w.heap.size,0,none⟩)) p hfresh rfl (fun k hk=>by cases hk) (fun L=>?_) ?_ (fun k hk=>?_)⟩
 ·simp [Instr.range,underlying,ht]
 ·refine ⟨w.heap.size,0,s,A4,?_,q1,rfl⟩
  exact heap_alloc_new w _
 ·exact ⟨w.heap.size,A4,by rw [Au]⟩
 ·simpa [Br,Ap,As,Cv,one] using hk
theorem Ao8 {it:Operand} {isS:Bool} {ty:TypeId} (G:Good P N X ρ K S.tm (cur S es.obs) μ a w) (h:Ev S (Auz P it isS) es sx es' ls) (hl:LH R ρ ls) (hg:holds ρ es.gs=some true):
  ∃v w' μ',(Instr.next (a.eval it) isS ty).run P w= .ok v w'∧Out P N X ρ K S μ a w es es' sx μ' w' v:=by
 unfold Auz at h
 rw [Aa] at h
 obtain ⟨_,_,_,_,h0,h,rfl⟩:=h
 rw [Cy] at h0
 obtain ⟨_,rfl,rfl⟩:=h0
 rw [Aa] at h
 obtain ⟨_,_,_,_,h0,h,rfl⟩:=h
 rw [Ae] at h0
 obtain ⟨g0,rfl,rfl⟩:=h0
 subst g0
 rw [Aa] at h
 obtain ⟨vv,e1,l1,_,h1,h,rfl⟩:=h
 rw [Aa] at h
 obtain ⟨p,e2,l2,_,h2,h,rfl⟩:=h
 obtain ⟨rfl,rfl,rfl,hp,hpk⟩:=Ox G h1 h2 hg
 have hl:LH R ρ _:=hl.right.right.right.right
 unfold Ajh at h
 split at h
 ·rename_i k
  rw [Aa] at h
  obtain ⟨o,_,_,l3,h0,h,rfl⟩:=h
  rw [Be] at h0
  obtain ⟨ho,rfl,rfl⟩:=h0
  have hl:=hl.right
  split at h
  ·rename_i s q
   simp only [Aa,Bb,A5,Ac] at h
   obtain ⟨_,_,_,_,⟨rfl,rfl,rfl⟩,⟨_,_,_,_,⟨rfl,rfl,rfl⟩,⟨_,_,_,_,⟨rfl,rfl,rfl⟩,⟨_,_,_,_,⟨rfl,rfl⟩,⟨rfl,rfl,rfl⟩,rfl⟩,rfl⟩,rfl⟩,rfl⟩:=h
   obtain ⟨b,n,bs,o1,o2,o3,o4⟩:=G.obj k _ ho
   have o1:μ k= .pointer (some ⟨b,0,none⟩):=o1
   have o2:w.heap[b]?=some (.stringIter bs n):=o2
   have o3:s.ev ρ=some (.str bs):=o3
   have o4:q.ev ρ=some (.int n):=o4
   have two: ∀ {pr:Prim} {m:Nat},LH R ρ [⟨m,⟨es.gs,.Bo pr [s,q]⟩⟩]→ ∃y,pr.ev [.str bs,.int n]=some y∧Arg.ev ρ (.v m)=some y:=by
    intro pr m hh
    obtain ⟨vs,y,r1,r2,r3⟩:=LH.Bo hh hg
    obtain ⟨u,v,s1,s2,rfl⟩:=Aa9 r1
    rw [o3] at s1;rw [o4] at s2
    injection s1 with s1;injection s2 with s2;subst s1;subst s2
    exact ⟨y,r2,r3⟩
   obtain ⟨y1,r1,t1⟩:=two hl.left
   obtain ⟨y2,r2,t2⟩:=two hl.right.left
   obtain ⟨y3,r3,t3⟩:=two hl.right.right.left
   simp only [Prim.ev,Int.natCast_nonneg,if_true,Int.toNat_natCast,Option.some.injEq] at r1 r2 r3
   subst r1;subst r2;subst r3
   have hv:a.eval it= .pointer (some ⟨b,0,none⟩):=by
    obtain ⟨b',r1,r2⟩:=hp
    have r1':μ k= .pointer (some ⟨b',0,none⟩):=r1
    rw [o1] at r1';injection r1' with r1';injection r1' with r1';injection r1' with r1'
    subst r1'
    rw [r2,Au]
   rw [hv]
   by_cases hlt:n<bs.size
   ·simp only [hlt,if_true,decide_true] at t1 t2 t3
    refine ⟨.tuple #[.bool true,.int .i64 n,.int .i32 (Utf8.decode bs n).1],Ix w b (.stringIter bs (n+(Utf8.decode bs n).2)),Cu μ k (μ k),?_,S5 (e1:=es) (.refl G) ho rfl (by rw [o1];rfl) (fun k hk=>by cases hk) (P0 w b _) (fun L=>?_) ?_ (fun k hk=>by cases hk)⟩
    ·simp [Instr.next,getObj,setObj,Sem.run,o2,hlt,Ix,Result.andThen,goInt]
    ·refine ⟨b,n+(Utf8.decode bs n).2,bs,A4.trans o1,T7 o2,o3,?_⟩
     show Arg.ev ρ _=_
     rw [t3];simp
    ·exact ⟨true,n,(Utf8.decode bs n).1,t1,o4,t2,rfl⟩
   ·simp only [hlt,if_false,decide_false] at t1 t2 t3
    refine ⟨.tuple #[.bool false],w,Cu μ k (μ k),?_,S5 (e1:=es) (.refl G) ho rfl (by rw [o1];rfl) (fun k hk=>by cases hk) (.refl _ _) (fun L=>?_) ?_ (fun k hk=>by cases hk)⟩
    ·simp [Instr.next,getObj,Sem.run,o2,hlt,Result.andThen]
    ·refine ⟨b,n,bs,A4.trans o1,o2,o3,?_⟩
     show Arg.ev ρ _=_
     rw [t3]
    ·exact ⟨false,n,0,t1,o4,t2,rfl⟩
  ·simp [Ad] at h
 ·simp [Ad] at h
theorem Yx {x:Operand} {i:Nat} {rt:TypeId} (G:Good P N X ρ K S.tm (cur S es.obs) μ a w) (h:Ev S (do
   match ←rd P x 0 with
   | .tup vs=>do pure (.one (←ofOption vs[i]?))
   | .nx ok p r=>xNx P ok p r i rt
   | _=>fail:EM SX) es sx es' ls) (hl:LH R ρ ls) (hg:holds ρ es.gs=some true):
  ∃v,(Instr.extract (a.eval x) i).run P w= .ok v w∧Out P N X ρ K S μ a w es es' sx μ w v:=by
 rw [Aa] at h
 obtain ⟨s,e1,l1,_,h1,h,rfl⟩:=h
 obtain ⟨rfl,rfl,h3,h4⟩:=Ant G h1 hg
 split at h
 ·rename_i vs
  simp only [Aa,Ai,Ac] at h
  obtain ⟨vv,_,_,_,⟨g1,rfl,rfl⟩,⟨rfl,rfl,rfl⟩,rfl⟩:=h
  obtain ⟨us,hu,hr⟩:=h3
  obtain ⟨u,q1,q2⟩:=hr.get i vv g1
  refine ⟨u,?_,Ph.out (.refl G) q2 (fun k hm=>h4 k ?_)⟩
  ·rw [hu]
   have:us[i]?=some u:=by simpa using q1
   simp [Instr.extract,this]
  ·simp only [Br,List.mem_flatMap] at hm ⊢
   exact ⟨vv,List.mem_of_getElem? g1,hm⟩
 ·rename_i ok p r
  obtain ⟨b,n,m,d1,d2,d3,hu⟩:=h3
  have d1:ok.ev ρ=some (.bool b):=d1
  have d2:p.ev ρ=some (.int n):=d2
  have d3:r.ev ρ=some (.int m):=d3
  have hl:=hl.right
  have Agk: ∀ {es e2:ES} {l2:List PLt} {z:Arg},Ev S (Bo .Agk [ok]) es z e2 l2→LH R ρ l2→holds ρ es.gs=some true→b=true∧e2= {es with n:=es.n+1} :=by
   intro es e2 l2 z hh hl hg
   rw [Bb] at hh
   obtain ⟨rfl,rfl,rfl⟩:=hh
   obtain ⟨vs,y,r1,r2,r3⟩:=LH.Bo hl hg
   obtain ⟨u,s1,rfl⟩:=Akr r1
   rw [d1] at s1;injection s1 with s1;subst s1
   simp only [Prim.ev] at r2
   split at r2
   ·exact ⟨by assumption,rfl⟩
   ·cases r2
  unfold xNx at h
  split at h
  ·simp only [Aa,Ae,Ac] at h
   obtain ⟨_,_,_,_,⟨g1,rfl,rfl⟩,⟨rfl,rfl,rfl⟩,rfl⟩:=h
   refine ⟨.bool b,?_,Ph.out (.refl G) ⟨.bool b,d1,.bool (Bx g1)⟩ (J0 _ _)⟩
   rw [hu];cases b<;>simp [Instr.extract]
  ·simp only [Aa,Ae,Ac] at h
   obtain ⟨_,_,_,_,⟨g1,rfl,rfl⟩,⟨z,e2,l2,_,h2,⟨rfl,rfl,rfl⟩,rfl⟩,rfl⟩:=h
   obtain ⟨rfl,rfl⟩:=Agk h2 hl.right.left hg
   have g1:Kl P rt=some .i64 :=by simpa using g1
   refine ⟨.int .i64 n,?_,Ph.out (.same G rfl rfl rfl) ⟨.int n,d2,.int (Cl g1)⟩ (J0 _ _)⟩
   rw [hu];simp [Instr.extract]
  ·simp only [Aa,Ae,Ac] at h
   obtain ⟨_,_,_,_,⟨g1,rfl,rfl⟩,⟨z,e2,l2,_,h2,⟨rfl,rfl,rfl⟩,rfl⟩,rfl⟩:=h
   obtain ⟨rfl,rfl⟩:=Agk h2 hl.right.left hg
   have g1:Kl P rt=some .i32 :=by simpa using g1
   refine ⟨.int .i32 m,?_,Ph.out (.same G rfl rfl rfl) ⟨.int m,d3,.int (Cl g1)⟩ (J0 _ _)⟩
   rw [hu];simp [Instr.extract]
  ·simp [Ad] at h
 ·simp [Ad] at h
end
end Go.CT
namespace Go.CT
open EM
section
variable {P:Program} {w:World} {O O':Nat→Prop} {kt vt:TypeId}
theorem Jy (hk:Aid P kt=true) {a b:IV} {u v:Value} (h1:Rel P w O kt a u) (h2:Rel P w O' kt b v):
  ∃d r,P.underlying kt=some d∧MapKept.IsKey d u∧a.Mi b=some r∧Instr.sameNow d u v=some r∧(r=true→v=u):=by
 unfold Aid at hk
 rw [Bool.or_eq_true] at hk
 rcases hk with hk | hk
 ·obtain ⟨k,hk⟩:=Option.isSome_iff_exists.1 hk
  have ht:=Cl hk
  obtain ⟨n,rfl,rfl⟩:=h1.Gp ht
  obtain ⟨m,rfl,rfl⟩:=h2.Gp ht
  refine ⟨_,n == m,ht,rfl,rfl,by simp [Instr.sameNow],fun h=>?_⟩
  rw [beq_iff_eq] at h;rw [h]
 ·have ht:=Dl hk
  obtain ⟨n,rfl,rfl⟩:=h1.Gj ht
  obtain ⟨m,rfl,rfl⟩:=h2.Gj ht
  have e:(n.toList == m.toList)=(n == m):=by
   rw [Bool.eq_iff_iff,beq_iff_eq,MapKept.bytes_beq,ByteArray.toList_eq,ByteArray.toList_eq]
   constructor
   ·intro h;cases n;cases m;simpa using h
   ·rintro rfl;rfl
  refine ⟨_,n == m,ht,trivial,by simp only [IV.Mi,e],by simp [Instr.sameNow],fun h=>?_⟩
  rw [MapKept.bytes_beq] at h;rw [h]
theorem Xl {d:TypeDesc} {key:IV} {kv:Value} (hk:Aid P kt=true) (hd:P.underlying kt=some d) (h1:Rel P w O' kt key kv) (h1':Rel P w O kt key kv): ∀ (xs:List IV) (es:List MapEntry) (i:Nat),H9 P w O kt vt xs es→
  (Qn key xs=some none∧Instr.findNow d kv es i=some none∧ ∀val,Ahy key val xs=some (xs++ [.agg [key,val]]))∨
  (∃j e b,Qn key xs=some (some b)∧Instr.findNow d kv es i=some (some (i+j,e.val))∧es[j]?=some e∧e.key=kv∧Rel P w O vt b e.val∧
   ∀val valv,Rel P w O vt val valv→ ∃ys,Ahy key val xs=some ys∧H9 P w O kt vt ys (es.modify j fun e=> {e with key:=kv,val:=valv}))
 | [],[],i,_=> .inl ⟨rfl,rfl,fun _=>rfl⟩
 | x::xs,e::es,i,h=>by
  obtain ⟨⟨a,b,rfl,h2,h3⟩,h4⟩:=h
  obtain ⟨d',r,g1,g2,g3,g4,g5⟩:=Jy hk h1 h2
  rw [hd] at g1;injection g1 with g1;subst g1
  cases r with
  | true=>
   refine .inr ⟨0,e,b,by simp [Qn,g3],by simp [Instr.findNow,g4],rfl,g5 rfl,h3,fun val valv hv=>⟨.agg [key,val]::xs,by simp [Ahy,g3],?_⟩⟩
   exact ⟨⟨key,val,rfl,h1',hv⟩,h4⟩
  | false=>
   rcases Xl hk hd h1 h1' xs es (i+1) h4 with ⟨q1,q2,q3⟩ | ⟨j,e',b',q1,q2,q3,q4,q5,q6⟩
   ·exact .inl ⟨by simp [Qn,g3,q1],by simp [Instr.findNow,g4,q2],fun val=>by simp [Ahy,g3,q3]⟩
   ·refine .inr ⟨j+1,e',b',by simp [Qn,g3,q1],by simp [Instr.findNow,g4,q2];omega,by simpa using q3,q4,q5,fun val valv hv=>?_⟩
    obtain ⟨ys,r1,r2⟩:=q6 val valv hv
    exact ⟨.agg [a,b]::ys,by simp [Ahy,g3,r1],⟨a,b,rfl,h2,h3⟩,r2⟩
 | [],_::_,_,h=>h.elim
 | _::_,[],_,h=>h.elim
theorem H9.app {x:IV} {e:MapEntry} (hx: ∃a b,x= .agg [a,b]∧Rel P w O kt a e.key∧Rel P w O vt b e.val): ∀ {xs:List IV} {es:List MapEntry},H9 P w O kt vt xs es→H9 P w O kt vt (xs++ [x]) (es++ [e])
 | [],[],_=>⟨hx,trivial⟩
 | _::_,_::_,h=>⟨h.1,h.2.app hx⟩
 | [],_::_,h=>h.elim
 | _::_,[],h=>h.elim
theorem Rel.key (hk:Aid P kt=true) {a:IV} {u:Value} (h:Rel P w O kt a u):Rel P w O' kt a u:=by
 unfold Aid at hk
 rw [Bool.or_eq_true] at hk
 rcases hk with hk | hk
 ·obtain ⟨k,hk⟩:=Option.isSome_iff_exists.1 hk
  obtain ⟨n,rfl,rfl⟩:=h.Gp (Cl hk)
  exact .int (Cl hk)
 ·obtain ⟨n,rfl,rfl⟩:=h.Gj (Dl hk)
  exact .str (Dl hk)
end
theorem Mw {P:Program} {t:TypeId} {kv:TypeId × TypeId} (h:Aj1 P t=some kv):P.underlying t=some (.map kv.1 kv.2):=by
 unfold Aj1 at h
 split at h
 ·rename_i k v hu;injection h with h;subst h;exact hu
 ·cases h
section
variable {P:Program} {N:Nat} {X:Nat→Prop} {R:Job→List IV→Option (List IV)} {ρ:List IV} {K:Nat→Prop} {S:View} {μ:Nat→Value} {a:Act} {w w':World} {es es':ES} {ls:List PLt} {sx:SX}
theorem Acj {t:TypeId} {r:Option Operand} (G:Good P N X ρ K S.tm (cur S es.obs) μ a w) (h:Ev S (V3 P t r) es sx es' ls) (hfresh: ∀k,es.m≤k→k<es'.m→ ¬ K k):
  r=none∧ ∃v w' μ',(Instr.makeMap t none).run P w= .ok v w'∧Out P N X ρ K S μ a w es es' sx μ' w' v:=by
 unfold V3 at h
 simp only [Aa,Cy,Ae,Ai,Bp,A5,Ac] at h
 obtain ⟨_,_,_,_,⟨_,rfl,rfl⟩,⟨_,_,_,_,⟨g0,rfl,rfl⟩,⟨kv,_,_,_,⟨g1,rfl,rfl⟩,⟨_,_,_,_,⟨g2,rfl,rfl⟩,⟨_,_,_,_,⟨rfl,rfl,rfl⟩,⟨_,_,_,_,⟨rfl,rfl⟩,⟨rfl,rfl,rfl⟩,rfl⟩,rfl⟩,rfl⟩,rfl⟩,rfl⟩,rfl⟩:=h
 refine ⟨by simpa using g0,.map (some w.heap.size),w.alloc (.map #[] 0),_,?_,V7 (nn:=es.n) (hdr:= .map (some w.heap.size)) (.refl G) hfresh rfl (fun k hk=>by cases hk) (fun L=>?_) ?_ (fun k hk=>?_)⟩
 ·simp [Instr.makeMap]
 ·exact ⟨w.heap.size,0, #[],[],A4,heap_alloc_new w _,Mw g1,g2,rfl,trivial⟩
 ·exact ⟨A4.symm,w.heap.size,rfl⟩
 ·simpa [Br,Ap,As,one] using hk
theorem Afb {t:TypeId} {x:Operand} {es2:ES} {vv:VV} {k:Nat} {l1 l2:List PLt} (G:Good P N X ρ K S.tm (cur S es.obs) μ a w) (h1:Ev S (rd1 P x t) es vv es2 l1) (h2:Ev S (An5 vv) es2 k es' l2) (hg:holds ρ es.gs=some true):
  es=es2∧es=es'∧l1= []∧l2= []∧a.eval x=μ k∧K k:=by
 obtain ⟨rfl,rfl,h3,h4⟩:=Eu G h1 hg
 unfold An5 at h2
 split at h2
 ·rename_i k' t'
  rw [Ac] at h2
  obtain ⟨rfl,rfl,rfl⟩:=h2
  exact ⟨rfl,rfl,rfl,rfl,h3.1,h4 k (by simp [Ap,As])⟩
 ·simp [Ad] at h2
theorem Nc.key {c:Cx} {x:Arg} {t:TypeId} {v:Value} (h:Nc c x t v) (hk:Aid c.P t=true) (O:Nat→Prop): ∃iv,x.ev c.ρ=some iv∧Rel c.P c.w O t iv v:=by
 obtain ⟨iv,h1,h2,_⟩:=h
 exact ⟨iv,h1,h2.key hk⟩
theorem Af0 {t:TypeId} {x i:Operand} {ok:Bool} (G:Good P N X ρ K S.tm (cur S es.obs) μ a w) (h:Ev S (Abd P t x i ok) es sx es' ls) (hl:LH R ρ ls) (hg:holds ρ es.gs=some true):
  ∃v,(Instr.lookup t (a.eval x) (a.eval i) ok).run P w= .ok v w∧Out P N X ρ K S μ a w es es' sx μ w v:=by
 unfold Abd at h
 rw [Aa] at h
 obtain ⟨kv,_,_,_,h0,h,rfl⟩:=h
 rw [Ai] at h0
 obtain ⟨g0,rfl,rfl⟩:=h0
 rw [Aa] at h
 obtain ⟨_,_,_,_,h0,h,rfl⟩:=h
 rw [Ae] at h0
 obtain ⟨g1,rfl,rfl⟩:=h0
 rw [Aa] at h
 obtain ⟨z,_,_,_,h0,h,rfl⟩:=h
 rw [Ai] at h0
 obtain ⟨g2,rfl,rfl⟩:=h0
 rw [Aa] at h
 obtain ⟨vv,e1,l1,_,h1,h,rfl⟩:=h
 rw [Aa] at h
 obtain ⟨k,e2,l2,_,h2,h,rfl⟩:=h
 obtain ⟨rfl,rfl,rfl,rfl,hv,hK⟩:=Afb G h1 h2 hg
 rw [Aa] at h
 obtain ⟨iv,e3,l3,_,h3,h,rfl⟩:=h
 have hl:=hl.right.right.right.right.right
 obtain ⟨p,q⟩:=Eg G h3 hl.left hg
 simp only [Bool.and_eq_true] at g1
 obtain ⟨key,q1,q2⟩:=q.key g1.1 (A6 P X ρ (cur S e3.obs) μ w).O
 rw [Aa] at h
 obtain ⟨o,_,_,l4,h0,h,rfl⟩:=h
 rw [Be] at h0
 obtain ⟨ho,rfl,rfl⟩:=h0
 have hl:=hl.right.right
 split at h
 ·rename_i t' kt vt c
  rw [Aa] at h
  obtain ⟨_,_,_,_,h0,h,rfl⟩:=h
  rw [Ae] at h0
  obtain ⟨g3,rfl,rfl⟩:=h0
  simp only [Bool.and_eq_true,beq_iff_eq] at g3
  obtain ⟨⟨e1,e2⟩,g3⟩:=g3
  subst e1;subst e2
  have hl:=hl.right
  rw [Aa] at h
  obtain ⟨y,_,_,_,h0,h,rfl⟩:=h
  rw [Bb] at h0
  obtain ⟨rfl,rfl,rfl⟩:=h0
  rw [Aa] at h
  obtain ⟨y,_,_,_,h0,h,rfl⟩:=h
  rw [Bb] at h0
  obtain ⟨rfl,rfl,rfl⟩:=h0
  obtain ⟨r,cl,ents,ivs,o1,o2,o3,o4,o5,o6⟩:=p.Bu.obj k _ ho
  have o1:μ k= .map (some r):=o1
  have o2:w.heap[r]?=some (.map ents cl):=o2
  have o5:c.ev ρ=some (.list ivs):=o5
  have q1:iv.ev ρ=some key:=q1
  have hg':holds ρ e3.gs=some true:=by rw [p.gs];exact hg
  have two: ∀ {pr:Prim} {m:Nat},LH R ρ [⟨m,⟨e3.gs,.Bo pr [c,iv]⟩⟩]→ ∃y,pr.ev [.list ivs,key]=some y∧Arg.ev ρ (.v m)=some y:=by
   intro pr m hh
   obtain ⟨vs,y,r1,r2,r3⟩:=LH.Bo hh hg'
   obtain ⟨u,v,s1,s2,rfl⟩:=Aa9 r1
   rw [o5] at s1;rw [q1] at s2
   injection s1 with s1;injection s2 with s2;subst s1;subst s2
   exact ⟨y,r2,r3⟩
  obtain ⟨y1,r1,t1⟩:=two hl.left
  obtain ⟨y2,r2,t2⟩:=two hl.right.left
  simp only [Prim.ev] at r1 r2
  obtain ⟨zi,zv,z1,z2,z3⟩:=Pv (w:=w) (O:=(A6 P X ρ (cur S e3.obs) μ w).O) g2
  obtain ⟨dd,_,hd,hkey,_⟩:=Jy g1.1 q2 q2
  have hd:P.underlying kv.1=some dd:=hd
  have fin: ∀ {v0:Value} {okb:Bool},(Instr.lookup t (a.eval x) (a.eval i) ok).run P w= .ok (if ok then .tuple #[v0,.bool okb] else v0) w→Rel P w (A6 P X ρ (cur S e3.obs) μ w).O kv.2 y1 v0→y2= .bool okb→
    ∃v,(Instr.lookup t (a.eval x) (a.eval i) ok).run P w= .ok v w∧Out P N X ρ K S μ a w es es' sx μ w v:=by
   intro v0 okb hrun hr hy
   subst hy
   refine ⟨_,hrun,?_⟩
   rw [Gk] at h
   rcases h with ⟨hok,h⟩ | ⟨hok,h⟩
   ·rw [Ac] at h
    obtain ⟨rfl,rfl,rfl⟩:=h
    rw [if_pos hok]
    refine Ph.out (es':= {e3 with n:=e3.n+1+1}) ⟨p.Bu,p.Dc,p.m,p.gs⟩ ⟨_,rfl,⟨y1,t1,hr⟩,⟨.bool okb,t2,.bool (Bx g3)⟩,trivial⟩ (fun k hk=>by simp [Br,Ap,As] at hk)
   ·rw [Ac] at h
    obtain ⟨rfl,rfl,rfl⟩:=h
    rw [if_neg hok]
    exact Ph.out (es':= {e3 with n:=e3.n+1+1}) ⟨p.Bu,p.Dc,p.m,p.gs⟩ ⟨y1,t1,hr⟩ (J0 _ _)
  rcases Xl (O:=(A6 P X ρ (cur S e3.obs) μ w).O) g1.1 hd q2 q2 ivs ents.toList 0 o6 with ⟨m1,m2,m3⟩ | ⟨j,e,b,m1,m2,m3,m4,m5,m6⟩
  ·rw [m1] at r1 r2
   simp only [Option.map_some,Option.some.injEq,Option.getD_none,Option.isSome_none] at r1 r2
   subst r1;subst r2
   refine fin (v0:=zv) (okb:=false) ?_ z3 rfl
   rw [hv,o1]
   simp [Instr.lookup,MapKept.run_getObj_map o2,underlying,Mw g0,MapKept.run_checkKey hd hkey,MapKept.run_findKey hd m2,Result.andThen,zeroValue,typeInfo,z1,z2]
  ·rw [m1] at r1 r2
   simp only [Option.map_some,Option.some.injEq,Option.getD_some,Option.isSome_some] at r1 r2
   subst r1;subst r2
   refine fin (v0:=e.val) (okb:=true) ?_ m5 rfl
   rw [hv,o1]
   simp [Instr.lookup,MapKept.run_getObj_map o2,underlying,Mw g0,MapKept.run_checkKey hd hkey,MapKept.run_findKey hd m2,Result.andThen]
 ·simp [Ad] at h
theorem Wy {t:TypeId} {m i x:Operand} (G:Good P N X ρ K S.tm (cur S es.obs) μ a w) (h:Ev S (Pc P t m i x) es sx es' ls) (hl:LH R ρ ls) (hg:holds ρ es.gs=some true):
  ∃w' μ',(Instr.mapUpdate t (a.eval m) (a.eval i) (a.eval x)).run P w= .ok () w'∧Out P N X ρ K S μ a w es es' sx μ' w' undef:=by
 unfold Pc at h
 rw [Aa] at h
 obtain ⟨_,_,_,_,h0,h,rfl⟩:=h
 rw [Cy] at h0
 obtain ⟨_,rfl,rfl⟩:=h0
 rw [Aa] at h
 obtain ⟨kv,_,_,_,h0,h,rfl⟩:=h
 rw [Ai] at h0
 obtain ⟨g0,rfl,rfl⟩:=h0
 rw [Aa] at h
 obtain ⟨_,_,_,_,h0,h,rfl⟩:=h
 rw [Ae] at h0
 obtain ⟨g1,rfl,rfl⟩:=h0
 rw [Aa] at h
 obtain ⟨vv,e1,l1,_,h1,h,rfl⟩:=h
 rw [Aa] at h
 obtain ⟨k,e2,l2,_,h2,h,rfl⟩:=h
 obtain ⟨rfl,rfl,rfl,rfl,hv,hK⟩:=Afb G h1 h2 hg
 rw [Aa] at h
 obtain ⟨iv,e3,l3,_,h3,h,rfl⟩:=h
 have hl:=hl.right.right.right.right.right
 obtain ⟨p,q⟩:=Eg G h3 hl.left hg
 obtain ⟨key,q1,q2⟩:=q.key g1 (fun _=>False)
 have q1:iv.ev ρ=some key:=q1
 have hl:=hl.right
 have hg':holds ρ e3.gs=some true:=by rw [p.gs];exact hg
 rw [Aa] at h
 obtain ⟨xv,e4,l4,_,h4,h,rfl⟩:=h
 obtain ⟨rfl,rfl,h5,h6⟩:=Eu p.Bu h4 hg'
 have hl:=hl.right
 rw [Aa] at h
 obtain ⟨y,e5,l5,_,h7,h,rfl⟩:=h
 obtain ⟨p2,_,d⟩:=Dw p.Bu h7 hl.left hg' h6 h5
 obtain ⟨vx,d1,d2⟩:=d rfl
 have d1:y.ev ρ=some vx:=d1
 have hl:=hl.right
 have pp:=p.trans p2
 have hg'':holds ρ e5.gs=some true:=by rw [p2.gs];exact hg'
 rw [Aa] at h
 obtain ⟨o,_,_,l6,h0,h,rfl⟩:=h
 rw [Be] at h0
 obtain ⟨ho,rfl,rfl⟩:=h0
 split at h
 ·rename_i t' kt vt c
  simp only [Aa,Ae,Bb,A5,Ac] at h
  obtain ⟨_,_,_,_,⟨g3,rfl,rfl⟩,⟨_,_,_,_,⟨rfl,rfl,rfl⟩,⟨_,_,_,_,⟨rfl,rfl⟩,⟨rfl,rfl,rfl⟩,rfl⟩,rfl⟩,rfl⟩:=h
  simp only [Bool.and_eq_true,beq_iff_eq] at g3
  obtain ⟨e1,e2⟩:=g3
  subst e1;subst e2
  obtain ⟨r,cl,ents,ivs,o1,o2,o3,o4,o5,o6⟩:=pp.Bu.obj k _ ho
  have o1:μ k= .map (some r):=o1
  have o2:w.heap[r]?=some (.map ents cl):=o2
  have o5:c.ev ρ=some (.list ivs):=o5
  obtain ⟨vs,z,r1,r2,r3⟩:=LH.Bo hl.right.right.left hg''
  obtain ⟨u,v,s,s1,s2,s3,rfl⟩:=Aq6 r1
  rw [o5] at s1;rw [q1] at s2;rw [d1] at s3
  injection s1 with s1;injection s2 with s2;injection s3 with s3;subst s1;subst s2;subst s3
  simp only [Prim.ev] at r2
  obtain ⟨dd,_,hd,hkey,_⟩:=Jy g1 q2 q2
  have hd:P.underlying kv.1=some dd:=hd
  have q3:=q2.key (O':=(A6 P X ρ (cur S e5.obs) μ w).O) g1
  have fin: ∀ {ys:List IV} {es2:Array MapEntry} {cl2:Nat},(Instr.mapUpdate t (a.eval m) (a.eval i) (a.eval x)).run P w= .ok () (Ix w r (.map es2 cl2))→H9 P w (A6 P X ρ (cur S e5.obs) μ w).O kv.1 kv.2 ys es2.toList→z= .list ys→
    ∃w' μ',(Instr.mapUpdate t (a.eval m) (a.eval i) (a.eval x)).run P w= .ok () w'∧Out P N X ρ K S μ a w es {e5 with n:=e5.n+1,obs:=(k,some (.mp t' kv.1 kv.2 (.v e5.n)))::e5.obs} (one (.leaf .junk)) μ' w' undef:=by
   intro ys es2 cl2 hrun hM hz
   subst hz
   refine ⟨_,_,hrun,S5 (e1:=e5) pp ho rfl (by rw [o1];rfl) (fun k hk=>by cases hk) (P0 w r _) (fun L=>?_) trivial (fun k hk=>by simp [Br,Ap,As,one] at hk)⟩
   exact ⟨r,cl2,es2,ys,A4.trans o1,T7 o2,o3,o4,r3,hM.imp fun _ _ _ h'=>L.rel h'⟩
  rcases Xl (O:=(A6 P X ρ (cur S e5.obs) μ w).O) (kt:=kv.1) g1 hd q2 q3 ivs ents.toList 0 o6 with ⟨m1,m2,m3⟩ | ⟨j,e,b,m1,m2,m3,m4,m5,m6⟩
  ·rw [m3] at r2
   simp only [Option.map_some,Option.some.injEq] at r2
   refine fin (es2:=ents.push {key:=a.eval i,val:=a.eval x,born:=cl}) (cl2:=cl+1) ?_ ?_ r2.symm
   ·rw [hv,o1]
    simp [Instr.mapUpdate,MapKept.run_getObj_map o2,underlying,Mw g0,MapKept.run_checkKey hd hkey,MapKept.run_findKey hd m2,Result.andThen,MapKept.run_setObj_map _ o2,Ix]
   ·rw [Array.toList_push]
    exact H9.app ⟨key,vx,rfl,q3,d2⟩ o6
  ·obtain ⟨ys,y1,y2⟩:=m6 vx (a.eval x) d2
   rw [y1] at r2
   simp only [Option.map_some,Option.some.injEq] at r2
   refine fin (es2:=ents.modify j fun e=> {e with key:=a.eval i,val:=a.eval x}) (cl2:=cl) ?_ ?_ r2.symm
   ·have hj:ents[j]?=some e:=by simpa using m3
    rw [hv,o1]
    simp [Instr.mapUpdate,MapKept.run_getObj_map o2,underlying,Mw g0,MapKept.run_checkKey hd hkey,MapKept.run_findKey hd m2,Result.andThen,MapKept.run_setObj_map _ o2,Ix,hj,m4,MapKept.run_keyThatStays hkey]
   ·rw [Array.toList_modify];exact y2
 ·simp [Ad] at h
theorem Agc {t st:TypeId} (G:Good P N X ρ K S.tm (cur S es.obs) μ a w) (h:Ev S (Abv P t st) es sx es' ls) (hfresh: ∀k,es.m≤k→k<es'.m→ ¬ K k):
  ∃v w' μ',(Instr.alloc t true (.tuple #[])).run P w= .ok v w'∧Out P N X ρ K S μ a w es es' sx μ' w' v:=by
 unfold Abv at h
 simp only [Aa,Cy,Ae,Bp,A5,Ac] at h
 obtain ⟨_,_,_,_,⟨_,rfl,rfl⟩,⟨_,_,_,_,⟨g0,rfl,rfl⟩,⟨_,_,_,_,⟨rfl,rfl,rfl⟩,⟨_,_,_,_,⟨rfl,rfl⟩,⟨rfl,rfl,rfl⟩,rfl⟩,rfl⟩,rfl⟩,rfl⟩:=h
 simp only [Bool.and_eq_true,beq_iff_eq] at g0
 obtain ⟨⟨g0,g1⟩,g2⟩:=g0
 have hz: ∃i,P.info? t=some i∧i.zero=some (.agg #[.pointer none,.slice none 0 0]):=by
  unfold Aln at g0
  split at g0
  ·rename_i i hi
   split at g0
   ·rename_i cs hcs
    split at g0
    ·rename_i hl
     refine ⟨i,hi,?_⟩
     rw [hcs]
     have:cs= #[.pointer none,.slice none 0 0]:=by
      apply Array.toList_inj.1;rw [hl]
     rw [this]
    ·cases g0
   ·cases g0
  ·cases g0
 obtain ⟨i,hi,hz⟩:=hz
 refine ⟨.pointer (some ⟨w.heap.size,0,none⟩),w.alloc (.cells #[.pointer none,.slice none 0 0] t),_,?_,V7 (nn:=es.n) (hdr:= .pointer (some ⟨w.heap.size,0,none⟩)) (.refl G) hfresh rfl (fun k hk=>?_) (fun L=>?_) ?_ (fun k hk=>?_)⟩
 ·simp [Instr.alloc,zeroValue,typeInfo,hi,hz,newVar,newRow,Value.cells]
 ·simp only [Ee,Ap,List.flatMap_cons,As,List.flatMap_nil,List.append_nil,List.mem_singleton] at hk
  exact .inr hk
 ·refine ⟨w.heap.size,.agg #[.pointer none,.slice none 0 0],A4,heap_alloc_new w _,?_,?_,?_,?_⟩
  ·show 2=Af P t
   exact g2.symm
  ·show if Ag P t=true then _ else _
   rw [if_pos g1];exact ⟨_,rfl⟩
  ·intro u hu
   simp [Value.cells] at hu
   rcases hu with rfl | rfl<;>rfl
  ·exact ⟨_,rfl,⟨rfl,.inl rfl⟩,⟨rfl,rfl⟩,trivial⟩
 ·exact ⟨w.heap.size,A4,by rw [Au]⟩
 ·simpa [Br,Ap,As,Cv,one] using hk
end
end Go.CT
namespace Go.CT
open EM
section
variable {P:Program} {N:Nat} {X:Nat→Prop} {R:Job→List IV→Option (List IV)} {ρ:List IV} {K:Nat→Prop} {S:View} {μ:Nat→Value} {a:Act} {w:World} {es es':ES} {ls:List PLt} {sx:SX}
theorem Ab7 (s:ByteArray):(Bq s).length =s.size:=by simp [Bq]
theorem Ahq {O:Nat→Prop} {e:TypeId} (he:P.underlying e=some (.int .u8)) (hs:Af P e=1) (s:ByteArray):E0 P w O e (Bq s) (Lib.strCells s):=by
 unfold Bq Lib.strCells
 refine E0.Ja (by simp) fun j x v hx hv=>?_
 rw [List.getElem?_map,Option.map_eq_some_iff] at hx hv
 obtain ⟨b,h1,rfl⟩:=hx
 obtain ⟨b',h2,rfl⟩:=hv
 rw [h1] at h2;injection h2 with h2;subst h2
 exact ⟨.int he,by rw [hs];rfl⟩
theorem Wn (s:ByteArray):A8 (Lib.strCells s)=Lib.strCells s:=by
 unfold Lib.strCells A8
 induction s.data.toList with
 | nil=>rfl
 | cons b l ih=>simp only [List.map_cons,List.flatMap_cons,ih];rfl
theorem Ada (t u ty e:TypeId) (i:TypeInfo) (ht:P.underlying t=some (.slice e)) (hu:P.underlying u=some .string) (hi:P.info? e=some i) (hz:i.zero=some (.int .u8 0)) (hsize:i.size=1) (hby:i.bytes=1)
  (v:Value) (n:Nat) (xs:List Value) (hown:w.ownsRow 0 e 1 v n xs) (s:ByteArray) (hb:n+s.size≤140737488355328):
  ∃v' w',(Builtin.append_ #[t,u] ty #[v,.string s]).run P w= .ok v' w'∧w'.ownsRow 0 e 1 v' (n+s.size) (xs++Lib.strCells s)∧w.grownBy w' v.ownBlock∧(v'.ownBlock=v.ownBlock∨ ∀b,v'.ownBlock=some b→w.heap.size≤b):=by
 have hm:n+s.size≤maxLen:=by
  have:maxLen=9223372036854775807:=by decide
  omega
 obtain ⟨hl,hown2⟩:=hown
 rcases hown2 with ⟨rfl,hn⟩ | ⟨g,cap,cur,rfl,hbg,hg,hnc,hcm,hcs,htake⟩
 ·obtain ⟨v',w',h1,h2,h3,h4⟩:=Lib.run_append_own_string (P:=P) w w.heap.size t u ty e i ht hu hi hz hsize hby _ n xs ⟨hl,.inl ⟨rfl,hn⟩⟩ s hm hb (Nat.le_refl _)
  refine ⟨v',w',h1,⟨h2.1,h2.2.imp id fun ⟨g,cap,cur,a1,a2,a3⟩=>⟨g,cap,cur,a1,Nat.zero_le _,a3⟩⟩,h3,.inr fun b hb=>?_⟩
  rcases h2.2 with ⟨rfl,_⟩ | ⟨g,cap,cur,rfl,a2,_⟩
  ·cases hb
  ·simp only [Value.ownBlock,Option.some.injEq] at hb
   omega
 ·obtain ⟨v',w',h1,h2,h3,h4⟩:=Lib.run_append_own_string (P:=P) w 0 t u ty e i ht hu hi hz hsize hby _ n xs ⟨hl,.inr ⟨g,cap,cur,rfl,hbg,hg,hnc,hcm,hcs,htake⟩⟩ s hm hb (Nat.zero_le _)
  refine ⟨v',w',h1,h2,h3,?_⟩
  by_cases hroom:n+s.size≤cap
  ·have hr:=Lib.run_append_room_string (P:=P) w t u ty e i ht hu hi hsize g n cap cur hg s hroom (by omega)
   rw [h1] at hr
   injection hr with hr
   rw [hr];exact .inl rfl
  ·have holds: ∀j u,xs[j]?=some u→w.cell? ((⟨g,0,none⟩:Addr).add j)=some u:=World.ownsRow.cells (w:=w) (base:=0) (e:=e) (size:=1) (n:=n) (v:= .slice (some ⟨g,0,none⟩) n cap) ⟨hl,.inr ⟨g,cap,cur,rfl,hbg,hg,hnc,hcm,hcs,htake⟩⟩ (g:=g) rfl
   have hmx:maxLen=9223372036854775807:=by decide
   have hr:=Lib.run_append_grow_string (P:=P) w t u ty e i (.int .u8 0) ht hu hi hz ⟨g,0,none⟩ n cap xs (by rw [hsize];exact hl) holds s (by omega) (by omega) (by rw [hby];exact growslice_fits (by omega) (by omega))
   rw [h1] at hr
   injection hr with hr
   rw [hr]
   right
   intro b hb
   simp only [Value.ownBlock,Option.some.injEq] at hb
   omega
theorem Acx {st xt rt : TypeId} {s x : Operand} (G : Good P N X ρ K S.tm (cur S es.obs) μ a w) (h : Ev S (Wd P st xt s x rt) es sx es' ls) (hl : LH R ρ ls) (hg : holds ρ es.gs = some true) (hfresh : ∀ k, es.m ≤ k → k < es'.m → ¬ K k) :
    ∃ v w' μ', (Builtin.append_ #[st, xt] rt #[a.eval s, a.eval x]).run P w = .ok v w' ∧ Out P N X ρ K S μ a w es es' sx μ' w' v := by
  unfold Wd at h
  rw [Aa] at h
  obtain ⟨_, _, _, _, h0, h, rfl⟩ := h
  rw [Cy] at h0
  obtain ⟨_, rfl, rfl⟩ := h0
  rw [Aa] at h
  obtain ⟨e, _, _, _, h0, h, rfl⟩ := h
  rw [Ai] at h0
  obtain ⟨he, rfl, rfl⟩ := h0
  rw [Aa] at h
  obtain ⟨_, _, _, _, h0, h, rfl⟩ := h
  rw [Ae] at h0
  obtain ⟨g0, rfl, rfl⟩ := h0
  simp only [Bool.and_eq_true, beq_iff_eq] at g0
  obtain ⟨⟨⟨⟨gx, gk⟩, gs1⟩, gb1⟩, gz, gy⟩ := g0
  have g1 : 0 < Af P e := by omega
  rw [Aa] at h
  obtain ⟨sv, e1, l1, _, h1, h, rfl⟩ := h
  obtain ⟨rfl, rfl, sv3, sv4⟩ := Eu G h1 hg
  have hl := hl.right.right.right.right
  rw [Aa] at h
  obtain ⟨y, e2, l2, _, h2, h, rfl⟩ := h
  obtain ⟨p, hB⟩ := Eg G h2 hl.left hg
  have hg2 : holds ρ e2.gs = some true := by rw [p.gs]; exact hg
  rw [Aa] at h
  obtain ⟨⟨old, c⟩, e3, l3, _, h3, h, rfl⟩ := h
  obtain ⟨⟨n3, rfl⟩, ivs, cs, q1, q2, q3, q4, q5⟩ := Nh p.Bu h3 hl.right.left hg2 (p.later.Ahm sv4 sv3) g1
  simp only [Aa, Bb, Bp, A5, Ac] at h
  obtain ⟨_, _, _, _, ⟨rfl, rfl, rfl⟩, ⟨_, e4, l4, _, h4, ⟨_, _, _, _, ⟨rfl, rfl, rfl⟩, ⟨_, _, _, _, ⟨rfl, rfl⟩, ⟨rfl, rfl, rfl⟩, rfl⟩, rfl⟩, rfl⟩, rfl⟩ := h
  obtain ⟨vs, iv, r1, r2, r3⟩ := LH.Bo hl.right.right.left hg2
  obtain ⟨u, v, s1, s2, rfl⟩ := Aa9 r1
  rw [q1] at s1; injection s1 with s1; subst s1
  have ht := Ba he
  have hku := Cl gk
  obtain ⟨str, b1, hx⟩ := hB.text (Dl gx)
  have b1' : y.ev ρ = some (.str str) := b1
  rw [b1'] at s2; injection s2 with s2; subst s2
  simp only [Prim.ev] at r2
  split at r2
  · rename_i hbytes
    injection r2 with r2; subst r2
    have hmb : Ax = 140737488355328 := rfl
    obtain ⟨i, z, z1, z2, z3, z4, z5⟩ := Mr gz
    have hz0 : z = .int .u8 0 := by
      unfold zeroByte at gy
      rw [z1] at gy
      simp only [z2] at gy
      split at gy
      · rename_i h'; injection h' with h'
      · cases gy
    generalize hys : Bq str = ys at *
    generalize hus : Lib.strCells str = us at *
    have e1' : E0 P w (A6 P X ρ (cur S e2.obs) μ w).O e ys us := by rw [← hys, ← hus]; exact Ahq hku gs1 str
    have hfl : A8 us = us := by rw [← hus]; exact Wn str
    have hul := e1'.len
    have hyl : ys.length = str.size := by rw [← hys]; exact Ab7 str
    have run : ∃ v' w', (Builtin.append_ #[st, xt] rt #[a.eval s, a.eval x]).run P w = .ok v' w' ∧ w'.ownsRow 0 e (Af P e) v' (ivs.length + ys.length) (cs ++ A8 us) ∧ w.grownBy w' (a.eval s).ownBlock ∧
        (v'.ownBlock = (a.eval s).ownBlock ∨ ∀ b, v'.ownBlock = some b → w.heap.size ≤ b) := by
      rw [hx, hfl, ← hus, hyl, gs1]
      have q2' : w.ownsRow 0 e 1 (a.eval s) ivs.length cs := by rw [← gs1]; exact q2
      exact Ada st xt rt e i ht (Dl gx) z1 (by rw [z2, hz0]) (by omega) (by omega) _ _ _ q2' str (by omega)
    obtain ⟨v', w', t1, t2, t3, t4⟩ := run
    -- what has become of the state
    obtain ⟨A', n', cap', hv'⟩ : ∃ A n c, v' = .slice A n c := by
      rcases t2.2 with ⟨h, _⟩ | ⟨g, cap, cu, h, _⟩
      · exact ⟨_, _, _, h⟩
      · exact ⟨_, _, _, h⟩
    have hblk' : blk v' = v'.ownBlock := by rw [hv', Nt]
    -- the old row's block is ours
    have hold : ∀ b, (a.eval s).ownBlock = some b → ∃ k t c0, old = some k ∧ cur S e2.obs k = some (.arr e t c0) ∧ blk (μ k) = some b := by
      intro b hb
      cases old with
      | none => rw [q4 rfl] at hb; simp [Value.ownBlock] at hb
      | some k =>
        obtain ⟨⟨t, c0, h1⟩, h2⟩ := q5 k rfl
        exact ⟨k, t, c0, rfl, h1, by rw [← h2]; exact hb⟩
    obtain ⟨hobs, hm4, hgs4⟩ : cur S e4.obs = (match old with | some k => A9 (cur S e2.obs) k none | none => cur S e2.obs) ∧ e4.m = e2.m ∧ e4.gs = e2.gs := by
      unfold Mp at h4
      cases old with
      | none => rw [Ac] at h4; obtain ⟨_, rfl, _⟩ := h4; exact ⟨rfl, rfl, rfl⟩
      | some k =>
        rw [A5] at h4
        obtain ⟨rfl, _⟩ := h4
        exact ⟨by rw [show ({ n := e2.n, m := e2.m, gs := e2.gs, obs := (k, none) :: e2.obs } : ES).obs = (k, none) :: e2.obs from rfl] <;> exact A7 .., rfl, rfl⟩
    have hm : ¬ K e4.m := hfresh e4.m (by rw [hm4, p.m]; exact Nat.le_refl _) (Nat.lt_succ_self _)
    have hsub : ∀ k o, cur S e4.obs k = some o → cur S e2.obs k = some o ∧ old ≠ some k := by
      intro k o ho
      rw [hobs] at ho
      cases old with
      | none => exact ⟨ho, by simp⟩
      | some k0 =>
        simp only [A9] at ho
        split at ho
        · cases ho
        · rename_i hne
          exact ⟨ho, by simpa using fun h => hne h.symm⟩
    have hP : Put P X ρ K (cur S e2.obs) (A9 (cur S e4.obs) e4.m (some (.arr e st (.v n3)))) μ w w' e4.m (.arr e st (.v n3)) v' :=
      { other := fun k' o' h ho => (hsub k' o' (by simpa [A9, h] using ho)).1
        here := by simp [A9]
        same := fun k' h => Cf (fun e => hm (e ▸ h))
        step := ⟨t3.os, t3.tape, t3.output, t3.size, fun b hb hW => t3.block b hb (fun h => by
          obtain ⟨k, t, c0, _, h2, h3⟩ := hold b h.symm
          exact hW ⟨k, _, h2, rfl, h3⟩)⟩
        rest := fun k' o' b h ho hi hb => by
          obtain ⟨h1, h2⟩ := hsub k' o' (by simpa [A9, h] using ho)
          refine t3.block b (p.Bu.Kg h1 hi hb) (fun hbo => ?_)
          obtain ⟨k, t, c0, h3, h4, h5⟩ := hold b hbo.symm
          have := p.Bu.sep k' k _ _ b h1 h4 hi rfl hb h5
          subst this
          exact h2 h3
        new := fun b hb => by
          rw [hblk'] at hb
          rcases t4 with h | h
          · rw [h] at hb
            obtain ⟨k, t, c0, h3, h4, h5⟩ := hold b hb
            refine .inl ⟨⟨k, _, h4, rfl, h5⟩, fun k' o' hne ho hi hb' => ?_⟩
            obtain ⟨h1, h2⟩ := hsub k' o' (by simpa [A9, hne] using ho)
            have := p.Bu.sep k' k _ _ b h1 h4 hi rfl hb' h5
            subst this
            exact h2 h3
          · exact .inr (h b hb)
        keys := fun k' h => by simp [Ee] at h }
    obtain ⟨vs0, w1, w2⟩ := q3.Amt (by
      have := q2.1
      omega)
    have hE : E0 P w (A6 P X ρ (cur S e2.obs) μ w).O e (ivs ++ ys) (vs0 ++ us) := w1.append e1'
    have hok : Y0 (A6 P X ρ (A9 (cur S e4.obs) e4.m (some (.arr e st (.v n3)))) (Cu μ e4.m v') w') e4.m (.arr e st (.v n3)) := by
      refine ⟨ivs ++ ys, cs ++ A8 us, r3, ht, g1, ?_, hP.later.elems ?_, ?_⟩
      · show World.ownsRow _ 0 e (Af P e) (Cu μ e4.m v' e4.m) _ _
        rw [A4, List.length_append]
        exact t2
      · rw [w2, ← Ek]
        exact hE.elems
      · rw [w2, ← Ek]
        exact Ex fun v hv => (hE.size v hv).2
    have hK : ∀ k', K k' ∨ k' = e4.m → Al K es.m (e4.m + 1) k' := by
      rintro k' (h | rfl)
      · exact .inl h
      · exact .inr ⟨by rw [hm4, p.m]; exact Nat.le_refl _, Nat.lt_succ_self _⟩
    refine ⟨v', w', Cu μ e4.m v', t1, ?_, ?_, ?_, ?_, ?_, hP.same⟩
    · show Good P N X ρ (Al K es.m (e4.m + 1)) S.tm (cur S ((e4.m, some (.arr e st (.v n3))) :: e4.obs)) _ a _
      rw [A7]
      exact hP.Bu p.Bu hok hK
    · exact ⟨A4.symm, _, _, _, hv'⟩
    · intro k h
      simp [Br, Ap, As, one] at h
      subst h
      exact hK _ (.inr rfl)
    · have := hP.step
      exact ⟨this.os, this.tape, this.output, this.size, fun b hb hW => this.stays b hb fun h => hW (p.Dc.wr h)⟩
    · intro b hb
      have hb : Wr (cur S ((e4.m, some (.arr e st (.v n3))) :: e4.obs)) _ b := hb
      rw [A7] at hb
      exact (hP.own p.Bu b hb).imp p.Dc.wr id
  · cases r2
end
end Go.CT
namespace Go.CT
open EM
section
variable {P:Program} {N:Nat} {X:Nat→Prop} {R:Job→List IV→Option (List IV)} {ρ:List IV} {K:Nat→Prop} {S:View} {μ:Nat→Value} {a:Act} {w:World} {es es':ES} {ls:List PLt} {sx:SX}
theorem Rel.drew {O:Nat→Prop} {t:TypeId} {x:IV} {v:Value} (h:Rel P w O t x v):Rel P w.drew O t x v:=h.mono (fun _ _ h=>h) (fun _ _ _=>rfl)
theorem Good.drew {tm:Nat→SV} {ob:Nat→Option Ob} (G:Good P N X ρ K tm ob μ a w):Good P N X ρ K tm ob μ a w.drew:=by
 have L:C0 K (A6 P X ρ ob μ w) (A6 P X ρ ob μ w.drew):= {P:=rfl,ρ:=fun _ _ h=>h,μ:=fun _ _=>rfl,stays:=fun _ _ _=>rfl,O:=fun _ _ h=>h,W:=fun _ _ h=>h,WO:=fun _ h=> .inr h}
 exact ⟨G.size,G.defers,fun s=>L.Ajn (G.kt s) (G.slot s),fun k o ho=>L.Aa7 (G.ko k o ho).1 (G.ko k o ho).2 (fun _ _ _ _=>rfl) (G.obj k o ho),G.sep,G.xsep,G.xlt,G.kt,G.ko⟩
theorem Ph.drew (p:Ph P N X ρ K S μ a w es es'):Ph P N X ρ K S μ a w.drew es es':=⟨p.Bu.drew,p.Dc,p.m,p.gs⟩
theorem Out.Awq {μ':Nat→Value} {w':World} {v:Value} (o:Out P N X ρ K S μ a w.drew es es' sx μ' w' v):Out P N X ρ K S μ a w es es' sx μ' w' v:=
 ⟨o.Bu,o.rel,o.keys,⟨o.step.os,o.step.tape,o.step.output,o.step.size,o.step.stays⟩,o.own,o.keep⟩
theorem Abm {st xt ct rt:TypeId} {s x:Operand} {c:Arg} (G:Good P N X ρ K S.tm (cur S es.obs) μ a w) (h:Ev S (Wc P st xt c ct x rt) es sx es' ls) (hl:LH R ρ ls) (hg:holds ρ es.gs=some true) (hfresh: ∀k,es.m≤k→k<es'.m→ ¬ K k)
  (hs:Tr (A6 P X ρ (cur S es.obs) μ w) (.cl c ct) (a.eval s)):
  ∃v w' μ',(Builtin.append_ #[st,xt] rt #[a.eval s,a.eval x]).run P w= .ok v w'∧Out P N X ρ K S μ a w es es' sx μ' w' v:=by
 unfold Wc at h
 rw [Aa] at h
 obtain ⟨_,_,_,_,h0,h,rfl⟩:=h
 rw [Cy] at h0
 obtain ⟨_,rfl,rfl⟩:=h0
 rw [Aa] at h
 obtain ⟨e,_,_,_,h0,h,rfl⟩:=h
 rw [Ai] at h0
 obtain ⟨he,rfl,rfl⟩:=h0
 rw [Aa] at h
 obtain ⟨_,_,_,_,h0,h,rfl⟩:=h
 rw [Ae] at h0
 obtain ⟨g1,rfl,rfl⟩:=h0
 simp only [Bool.and_eq_true,decide_eq_true_eq,beq_iff_eq] at g1
 obtain ⟨⟨⟨⟨g1,g2⟩,rfl⟩,rfl⟩,g4⟩:=g1
 rw [Aa] at h
 obtain ⟨xv,e1,l1,_,h1,h,rfl⟩:=h
 obtain ⟨rfl,rfl,xv3,xv4⟩:=Eu G h1 hg
 have hl:=hl.right.right.right.right
 rw [Aa] at h
 obtain ⟨y,e2,l2,_,h2,h,rfl⟩:=h
 obtain ⟨p,hB,_⟩:=Dw G h2 hl.left hg xv4 xv3
 have hg2:holds ρ e2.gs=some true:=by rw [p.gs];exact hg
 simp only [Aa,Bb,Bp,A5,Ac] at h
 obtain ⟨_,_,_,_,⟨rfl,rfl,rfl⟩,⟨_,_,_,_,⟨rfl,rfl,rfl⟩,⟨_,_,_,_,⟨rfl,rfl⟩,⟨rfl,rfl,rfl⟩,rfl⟩,rfl⟩,rfl⟩:=h
 obtain ⟨vs,iv,r1,r2,r3⟩:=LH.Bo hl.right.left hg2
 obtain ⟨u,v,s1,s2,rfl⟩:=Aa9 r1
 have ht:=Ba he
 -- the row without room
 obtain ⟨⟨civ,c1,c2⟩,A0,n0,hv0⟩:=hs
 have c1:c.ev ρ=some civ:=c1
 obtain ⟨xs,A,cap,rfl,hx0,hrow0⟩:=(p.later.rel c2).Ca ht
 rw [c1] at s1;injection s1 with s1;subst s1
 rw [hv0] at hx0
 injection hx0 with i1 i2 i3
 subst i1;subst i2;subst i3
 -- what comes behind
 obtain ⟨yiv,b1,b2,b3⟩:=hB
 obtain ⟨ys,A1,cap1,rfl,hx,hrow⟩:=b3 e ht
 have b1':y.ev ρ=some (.list ys):=b1
 rw [b1'] at s2;injection s2 with s2;subst s2
 simp only [Prim.ev] at r2
 split at r2
 ·rename_i hc
  obtain ⟨hpos,hbytes⟩:=hc
  injection r2 with r2;subst r2
  obtain ⟨i,z,z1,z2,z3,z4,z5⟩:=Mr g4
  have hmb:Ax=140737488355328:=rfl
  have hmax:maxLen=9223372036854775807:=by decide
  have hsum:xs.length+ys.length≤maxLen:=by
   have:=Nat.le_mul_of_pos_right (xs.length+ys.length) g2
   omega
  obtain ⟨us0,e0',hcells0⟩:=hrow0.Zk.Amt
  obtain ⟨us,e1',hcells⟩:=hrow.Amt
  have hul0:=e0'.len
  have hul:=e1'.len
  obtain ⟨ad,rfl,hat⟩:=hcells hpos
  have hl0:=Dx (sz:=Af P e) (vs:=us0) (fun v hv=>(e0'.size v hv).1)
  have hl1:=Dx (sz:=Af P e) (vs:=us) (fun v hv=>(e1'.size v hv).1)
  have hE:E0 P w (A6 P X ρ (cur S e2.obs) μ w).O e (xs++ys) (us0++us):=e0'.append e1'
  have hge:=grownCap_ge w (xs.length+ys.length) xs.length e
  have hfits:Builtin.nextslicecap (xs.length+ys.length) xs.length * i.bytes≤281474976710656:=growslice_fits (by omega) (by rw [z5];omega)
  let cs:Array Value:=(A8 us0).toArray ++(A8 us).toArray ++Builtin.zeroCells z.cells (grownCap w (xs.length+ys.length) xs.length e - (xs.length+ys.length))
  have hrun:(Builtin.append_ #[ct,ct] rt #[a.eval s,a.eval x]).run P w= .ok (.slice (some ⟨w.heap.size,0,none⟩) (xs.length+ys.length) (grownCap w (xs.length+ys.length) xs.length e)) (w.drew.alloc (.cells cs e)):=by
   rw [hx,hv0]
   cases A0 with
   | some b=>
    exact run_append_grow (P:=P) w ct rt e i z ht z1 z2 b xs.length xs.length (A8 us0) (by rw [hl0,z4,hul0]) (fun j u hj=>by
     have h0:0<xs.length:=by
      have:=(List.getElem?_eq_some_iff.1 hj).1
      rw [hl0,←hul0] at this
      exact Nat.pos_of_mul_pos_right (by omega:0<xs.length * Af P e) |> fun h=>by
       rcases Nat.eq_zero_or_pos xs.length with h | h
       ·rw [h] at this;simp at this
       ·exact h
     obtain ⟨ad',hh,hat0⟩:=hcells0 h0
     injection hh with hh;subst hh
     exact hat0 j u hj) ad ys.length cap1 (A8 us) (by rw [hl1,z4,hul]) hat (by omega) (by omega) hfits
   | none=>
    have hz:xs= []:=by
     rcases Nat.eq_zero_or_pos xs.length with h | h
     ·exact List.length_eq_zero_iff.1 h
     ·obtain ⟨_,hh,_⟩:=hcells0 h
      cases hh
    subst hz
    have hu0:us0= []:=List.length_eq_zero_iff.1 (by rw [←hul0];rfl)
    have hr:=run_append_nil (P:=P) w ct rt e i z ht z1 z2 ad ys.length cap1 (A8 us) (by rw [hl1,z4,hul]) hat hpos (by simp at hsum;omega) (by rw [z5];simp at hbytes;omega)
    simp only [List.length_nil,Nat.zero_add] at *
    rw [hr]
    simp [cs,hu0,A8]
  have hzs:(Builtin.zeroCells z.cells (grownCap w (xs.length+ys.length) xs.length e - (xs.length+ys.length))).size =(grownCap w (xs.length+ys.length) xs.length e - (xs.length+ys.length)) * Af P e:=by
   rw [size_zeroCells,z3]
  have hcsz:cs.size=grownCap w (xs.length+ys.length) xs.length e * Af P e:=by
   simp only [cs,Array.size_append,List.size_toArray,hl0,hl1,hzs,←hul0,←hul]
   rw [←Nat.add_mul,←Nat.add_mul]
   congr 1;omega
  have htake:cs.toList.take ((xs.length+ys.length) * Af P e)=A8 (us0++us):=by
   simp only [cs,Array.toList_append,Ek]
   rw [List.take_left' (by rw [List.length_append,hl0,hl1,Nat.add_mul,hul0,hul])]
  have ho:=Ve (N:=N) (K:=K) (S:=S) (a:=a) (rt:=rt) (nn:=e2.n+1) (w:=w.drew) (es:=es) (e1:= {e2 with n:=e2.n+1}) (ivs:=xs++ys) (n:=xs.length+ys.length) (cap:=grownCap w (xs.length+ys.length) xs.length e) (cs:=cs) (x:= .v e2.n) (t:=ct) ⟨p.Bu.drew,p.Dc,p.m,p.gs⟩ hfresh r3 ht g1 (by simp) hge
   (grownCap_le_maxLen w _ _ _ hsum) hcsz (by rw [htake];exact fun j x hx=>let ⟨v,q1,q2⟩:=hE.elems j x hx; ⟨v,q1.drew,q2⟩) (by rw [htake];exact Ex fun v hv=>(hE.size v hv).2)
  exact ⟨_,_,_,hrun,ho.Awq⟩
 ·cases r2
theorem Xd {st xt rt:TypeId} {s x:Operand} (G:Good P N X ρ K S.tm (cur S es.obs) μ a w) (h:Ev S (Pb P st xt s x rt) es sx es' ls) (hl:LH R ρ ls) (hg:holds ρ es.gs=some true) (hfresh: ∀k,es.m≤k→k<es'.m→ ¬ K k):
  ∃v w' μ',(Builtin.append_ #[st,xt] rt #[a.eval s,a.eval x]).run P w= .ok v w'∧Out P N X ρ K S μ a w es es' sx μ' w' v:=by
 unfold Pb at h
 rw [Aa] at h
 obtain ⟨sv,e1,l1,_,h1,h,rfl⟩:=h
 obtain ⟨rfl,rfl,sv3,sv4⟩:=Eu G h1 hg
 split at h
 ·exact Abm G h (by simpa using hl) hg hfresh sv3
 ·exact Agf G h (by simpa using hl) hg hfresh
end
end Go.CT
namespace Go.CT
open EM
section
variable (P:Program) (w:World) (O Lt:Nat→Prop)
def Es (e:TypeId) (xs:List IV) (v:Value):Prop:=
 0<Af P e∧ ∃cs,w.ownsRow 0 e (Af P e) v xs.length cs∧Ik P w O e xs cs∧ ∀u∈cs,u.oneCell'=true
def Z4 (kt vt:TypeId) (xs:List IV) (v:Value):Prop:=
 ∃ (r cl:Nat) (es:Array MapEntry),v= .map (some r)∧w.heap[r]?=some (.map es cl)∧Aid P kt=true∧H9 P w O kt vt xs es.toList
def Lh (t:TypeId) (x:IV) (v:Value):Prop:=
 ∃ys,x= .list ys∧((∃e,P.underlying t=some (.slice e)∧Es P w O e ys v)∨ ∃kt vt,P.underlying t=some (.map kt vt)∧Z4 P w O kt vt ys v)
def Bd:List Bool→List TypeId→List IV→List Value→List Nat→Prop
 | [],[],[],[],L=>L= []
 | true::bs,t::ts,x::xs,v::vs,L=> ∃L',Lh P w O t x v∧Bd bs ts xs vs L'∧L=(blk v).toList ++L'
 | false::bs,t::ts,x::xs,v::vs,L=>Rel P w O t x v∧Bd bs ts xs vs L
 | _,_,_,_,_=>False
def Ma (t:TypeId) (bs:List Bool) (xs:List IV) (v:Value) (L:List Nat):Prop:=
 ∃ts,leaves P t=some ts∧v.cells.size=Af P t∧(if Ag P t then ∃cs,v= .agg cs else v.oneCell'=true)∧Bd P w O bs ts xs v.cells.toList L
def Tu (t:TypeId) (bs:List Bool) (xs:List IV) (v:Value) (L:List Nat):Prop:=
 ∃b u L',v= .pointer (some ⟨b,0,none⟩)∧w.heap[b]?=some (.cells u.cells t (0,0))∧Ma P w O t bs xs u L'∧L=b::L'
def Gv:List (TypeId × List Bool)→List IV→List Value→List Nat→Prop
 | [],xs,[],L=>xs= []∧L= []
 | b::bs,xs,v::vs,L=> ∃ys zs L1 L2,xs=ys++zs∧L=L1++L2∧Tu P w O b.1 b.2 ys v L1∧Gv bs zs vs L2
 | _,_,_,_=>False
def Md (t:TypeId) (x:IV) (v:Value):Prop:=
 ∃ad u,v= .pointer (some ad)∧Dh w ad u (Af P t)∧0<Af P t∧ ¬ Lt ad.block∧Rel P w O t x u
def Ge:List TypeId→List IV→List Value→Prop
 | [],[],[]=>True
 | t::ts,x::xs,v::vs=>Md P w O Lt t x v∧Ge ts xs vs
 | _,_,_=>False
def ArgRel:PS→List IV→Value→List Nat→Prop
 | .data t,xs,v,L=> ∃x,xs= [x]∧L= []∧Rel P w O t x v
 | .arr t,xs,v,L=> ∃e ys,xs= [.list ys]∧L=(blk v).toList ∧P.underlying t=some (.slice e)∧Es P w O e ys v
 | .own t,xs,v,L=> ∃e ys,xs= [.list ys]∧L=(blk v).toList ∧P.underlying t=some (.slice e)∧Es P w O e ys v
 | .box t bs,xs,v,L=>Tu P w O t bs xs v L
 | .fnb _ _,xs,_,L=>xs= []∧L= []
 | .fn f ts,xs,v,L=> ∃vs:Array Value,v= .func (.func f) #[] vs∧L= []∧Ge P w O Lt ts xs vs.toList
 | .rd t,xs,v,L=> ∃x,xs= [x]∧L= []∧Md P w O Lt t x v
 | .bld t _,xs,v,L=> ∃b c0 c1 ys st e,v= .pointer (some ⟨b,0,none⟩)∧w.heap[b]?=some (.cells #[c0,c1] t (0,0))∧(c0= .pointer none∨c0=v)∧Aq2 P t=some (st,e)∧xs= [.list ys]∧Es P w O e ys c1∧L=b::(blk c1).toList
def Dg:List PS→List IV→List Value→List Nat→Prop
 | [],xs,[],L=>xs= []∧L= []
 | p::ps,xs,v::vs,L=> ∃ys zs L1 L2,xs=ys++zs∧L=L1++L2∧ArgRel P w O Lt p ys v L1∧Dg ps zs vs L2
 | _,_,_,_=>False
def R2:RS→List IV→Value→List Nat→Prop
 | .whole t,xs,v,L=> ∃x,xs= [x]∧L= []∧Rel P w O t x v
 | .cells t bs,xs,v,L=>Ma P w O t bs xs v L
 | .skip,xs,_,L=>xs= []∧L= []
 | .nbox t bs,xs,v,L=>Gv P w O [(t,bs)] xs [v] L
 | .clo f bxs,xs,v,L=> ∃caps:Array Value,v= .func (.func f) #[] caps∧Gv P w O bxs xs caps.toList L
 | .clip t,xs,v,L=> ∃x,xs= [x]∧L= []∧Rel P w O t x v∧ ∃A n,v= .slice A n n
def Gg:List RS→List IV→List Value→List Nat→Prop
 | [],xs,[],L=>xs= []∧L= []
 | p::ps,xs,v::vs,L=> ∃ys zs L1 L2,xs=ys++zs∧L=L1++L2∧R2 P w O p ys v L1∧Gg ps zs vs L2
 | _,_,_,_=>False
def PS.Ce:PS→Bool
 | .box _ _=>true
 | .arr _=>true
 | .bld _ b=>b
 | _=>false
def Bi:List PS→List IV→List Value→List Nat→Prop
 | [],xs,[],L=>xs= []∧L= []
 | p::ps,xs,v::vs,L=>
  if p.Ce then ∃ys zs L1 L2,xs=ys++zs∧L=L1++L2∧ArgRel P w O (fun _=>False) p ys v L1∧Bi ps zs vs L2
  else Bi ps xs vs L
 | _,_,_,_=>False
end
def packed:List Value→Value
 | [v]=>v
 | vs=> .tuple vs.toArray
structure Tw (P:Program) (X:Nat→Prop) (s:Spec) (args:List Value) (L:List Nat) (rs:List IV) (w:World) (v:Value) (w':World):Prop where
 step:Gb (· ∈L) w w'
 out: ∃vs xs ys L1 L2,v=packed vs∧rs=xs++ys∧(L1++L2).Nodup ∧(∀b∈L1++L2,b∈L∨w.heap.size≤b)∧
  Gg P w' (fun b=>X b∨b∈L1++L2) s.results xs vs L1∧Bi P w' (fun b=>X b∨b∈L1++L2) s.params ys args L2
def Aj2 (P:Program) (f:FuncId) (args:Array Value) (w:World) (R:Value→World→Prop):Prop:=
 (∃fn,P.funcs[f]?=some fn∧(fn.name == "runtime.NumGoroutine")=false∧fn.body.isNone=false∧Calls P f args w fun e w'=> ∃v,e= .returned v∧R v w')∨
 (∃v w',(callFunc f args).run P w= .ok (.value v) w'∧R v w')
theorem Aj2.mono {P:Program} {f:FuncId} {args:Array Value} {w:World} {R R':Value→World→Prop} (h:Aj2 P f args w R) (hr: ∀v w',R v w'→R' v w'):Aj2 P f args w R':=by
 rcases h with ⟨fn,h1,h2,h3,h4⟩ | ⟨v,w',h1,h2⟩
 ·exact .inl ⟨fn,h1,h2,h3,h4.mono fun e w' ⟨v,hv,hR⟩=>⟨v,hv,hr _ _ hR⟩⟩
 ·exact .inr ⟨v,w',h1,hr _ _ h2⟩
def Sound (P:Program) (specs:List (Nat × Spec)) (R:Job→List IV→Option (List IV)):Prop:=
 ∀i s,(i,s)∈specs→ ∀ (w:World) (X:Nat→Prop) (xs:List IV) (args fargs:List Value) (L:List Nat) (rs:List IV),Hk 0 s.params args=some fargs→
  Dg P w (fun b=>X b∨b∈L) (· ∈L) s.params xs fargs L→L.Nodup→(∀b∈L,¬ X b)→(∀b,X b→b<w.heap.size)→
  R ⟨i,0⟩ xs=some rs→Aj2 P s.fn args.toArray w (Tw P X s fargs L rs w)
section
variable {P:Program} {w:World} {O O' Lt:Nat→Prop}
theorem Ik.weaken {e:TypeId} {xs:List IV} {cs:List Value} (h:Ik P w O e xs cs) (hO: ∀b,b<w.heap.size→O' b→O b):Ik P w O' e xs cs:=fun j x hx=>
 let ⟨v,h1,h2⟩:=h j x hx
 ⟨v,h1.weaken hO,h2⟩
theorem Es.weaken {e:TypeId} {xs:List IV} {v:Value} (h:Es P w O e xs v) (hO: ∀b,b<w.heap.size→O' b→O b):Es P w O' e xs v:=
 ⟨h.1,let ⟨cs,h1,h2,h3⟩:=h.2; ⟨cs,h1,h2.weaken hO,h3⟩⟩
theorem Z4.weaken {kt vt:TypeId} {xs:List IV} {v:Value} (h:Z4 P w O kt vt xs v) (hO: ∀b,b<w.heap.size→O' b→O b):Z4 P w O' kt vt xs v:=
 let ⟨r,cl,es,h1,h2,h3,h4⟩:=h; ⟨r,cl,es,h1,h2,h3,h4.imp fun _ _ _ h=>h.weaken hO⟩
theorem Lh.weaken {t:TypeId} {x:IV} {v:Value} (h:Lh P w O t x v) (hO: ∀b,b<w.heap.size→O' b→O b):Lh P w O' t x v:=
 let ⟨ys,h1,h2⟩:=h; ⟨ys,h1,h2.imp (fun ⟨e,h3,h4⟩=>⟨e,h3,h4.weaken hO⟩) fun ⟨kt,vt,h3,h4⟩=>⟨kt,vt,h3,h4.weaken hO⟩⟩
theorem Bd.weaken (hO: ∀b,b<w.heap.size→O' b→O b): ∀ {bs:List Bool} {ts:List TypeId} {xs:List IV} {vs:List Value} {L:List Nat},Bd P w O bs ts xs vs L→Bd P w O' bs ts xs vs L
 | [],[],[],[],_,h=>h
 | true::bs,t::ts,x::xs,v::vs,L,h=>by
  obtain ⟨L',h3,h4,h5⟩:=h
  exact ⟨L',h3.weaken hO,Bd.weaken hO h4,h5⟩
 | false::bs,t::ts,x::xs,v::vs,L,h=>⟨h.1.weaken hO,Bd.weaken hO h.2⟩
 | [],[],[],_::_,_,h=>h.elim
 | [],[],_::_,_,_,h=>h.elim
 | [],_::_,_,_,_,h=>h.elim
 | _::_,[],_,_,_,h=>by simp [Bd] at h
 | _::_,_::_,[],_,_,h=>by simp [Bd] at h
 | _::_,_::_,_::_,[],_,h=>by simp [Bd] at h
theorem Ma.weaken {t:TypeId} {bs:List Bool} {xs:List IV} {v:Value} {L:List Nat} (h:Ma P w O t bs xs v L) (hO: ∀b,b<w.heap.size→O' b→O b):Ma P w O' t bs xs v L:=
 let ⟨ts,h1,h2,h3,h4⟩:=h; ⟨ts,h1,h2,h3,h4.weaken hO⟩
theorem Tu.weaken {t:TypeId} {bs:List Bool} {xs:List IV} {v:Value} {L:List Nat} (h:Tu P w O t bs xs v L) (hO: ∀b,b<w.heap.size→O' b→O b):Tu P w O' t bs xs v L:=
 let ⟨b,u,L',h1,h2,h3,h4⟩:=h; ⟨b,u,L',h1,h2,h3.weaken hO,h4⟩
theorem Gv.weaken (hO: ∀b,b<w.heap.size→O' b→O b): ∀ {bs:List (TypeId × List Bool)} {xs:List IV} {vs:List Value} {L:List Nat},Gv P w O bs xs vs L→Gv P w O' bs xs vs L
 | [],_,[],_,h=>h
 | _::_,_,_::_,_,h=>by
  obtain ⟨ys,zs,L1,L2,h1,h2,h3,h4⟩:=h
  exact ⟨ys,zs,L1,L2,h1,h2,h3.weaken hO,h4.weaken hO⟩
 | [],_,_::_,_,h=>h.elim
 | _::_,_,[],_,h=>h.elim
theorem R2.weaken {r:RS} {xs:List IV} {v:Value} {L:List Nat} (h:R2 P w O r xs v L) (hO: ∀b,b<w.heap.size→O' b→O b):R2 P w O' r xs v L:=by
 cases r with
 | whole t=>obtain ⟨x,q1,q2,q3⟩:=h;exact ⟨x,q1,q2,q3.weaken hO⟩
 | clip t=>obtain ⟨x,q1,q2,q3,q4⟩:=h;exact ⟨x,q1,q2,q3.weaken hO,q4⟩
 | skip=>exact h
 | cells t bs=>exact Ma.weaken h hO
 | nbox t bs=>exact Gv.weaken hO h
 | clo f bxs=>obtain ⟨c,q1,q2⟩:=h;exact ⟨c,q1,q2.weaken hO⟩
theorem Md.weaken {t:TypeId} {x:IV} {v:Value} (h:Md P w O Lt t x v) (hO: ∀b,b<w.heap.size→O' b→O b):Md P w O' Lt t x v:=
 let ⟨ad,u,h1,h2,h3,h4,h5⟩:=h; ⟨ad,u,h1,h2,h3,h4,h5.weaken hO⟩
theorem Ge.weaken (hO: ∀b,b<w.heap.size→O' b→O b): ∀ {ts:List TypeId} {xs:List IV} {vs:List Value},Ge P w O Lt ts xs vs→Ge P w O' Lt ts xs vs
 | [],[],[],_=>trivial
 | _::_,_::_,_::_,h=>⟨h.1.weaken hO,Ge.weaken hO h.2⟩
 | [],[],_::_,h=>h.elim
 | [],_::_,_,h=>h.elim
 | _::_,[],_,h=>h.elim
 | _::_,_::_,[],h=>h.elim
theorem ArgRel.weaken {p:PS} {xs:List IV} {v:Value} {L:List Nat} (h:ArgRel P w O Lt p xs v L) (hO: ∀b,b<w.heap.size→O' b→O b):ArgRel P w O' Lt p xs v L:=by
 cases p with
 | data t=>obtain ⟨x,h1,h2,h3⟩:=h;exact ⟨x,h1,h2,h3.weaken hO⟩
 | arr t=>obtain ⟨e,ys,h1,h2,h3,h4⟩:=h;exact ⟨e,ys,h1,h2,h3,h4.weaken hO⟩
 | own t=>obtain ⟨e,ys,h1,h2,h3,h4⟩:=h;exact ⟨e,ys,h1,h2,h3,h4.weaken hO⟩
 | box t bs=>exact Tu.weaken h hO
 | fnb f n=>exact h
 | fn f ts=>obtain ⟨vs,h1,h2,h3⟩:=h;exact ⟨vs,h1,h2,h3.weaken hO⟩
 | rd t=>obtain ⟨x,h1,h2,h3⟩:=h;exact ⟨x,h1,h2,h3.weaken hO⟩
 | bld t bk=>obtain ⟨b,c0,c1,ys,st,e,h1,h2,h3,h4,h5,h6,h7⟩:=h;exact ⟨b,c0,c1,ys,st,e,h1,h2,h3,h4,h5,h6.weaken hO,h7⟩
theorem Dg.weaken (hO: ∀b,b<w.heap.size→O' b→O b): ∀ {ps:List PS} {xs:List IV} {vs:List Value} {L:List Nat},Dg P w O Lt ps xs vs L→Dg P w O' Lt ps xs vs L
 | [],_,[],_,h=>h
 | _::_,_,_::_,_,h=>by
  obtain ⟨ys,zs,L1,L2,h1,h2,h3,h4⟩:=h
  exact ⟨ys,zs,L1,L2,h1,h2,h3.weaken hO,h4.weaken hO⟩
 | [],_,_::_,_,h=>h.elim
 | _::_,_,[],_,h=>h.elim
end
section
variable {P:Program} {N:Nat} {X X':Nat→Prop} {R:Job→List IV→Option (List IV)} {ρ:List IV} {K:Nat→Prop} {S:View} {μ:Nat→Value} {a:Act} {w:World} {es es':ES} {ls:List PLt} {sx:SX}
 {tm:Nat→SV} {ob ob':Nat→Option Ob}
theorem Good.move (G:Good P N X ρ K tm ob μ a w) (h: ∀k o,ob' k=some o→ob k=some o) (hX: ∀b,X' b→X b∨Wr ob μ b) (hsep: ∀k o b,ob' k=some o→o.Dn=true→blk (μ k)=some b→ ¬ X' b):
  Good P N X' ρ K tm ob' μ a w:=by
 have hW: ∀b,Wr ob' μ b→Wr ob μ b:=fun b ⟨k,o,h1,h2,h3⟩=>⟨k,o,h k o h1,h2,h3⟩
 have L:C0 K (A6 P X ρ ob μ w) (A6 P X' ρ ob' μ w):=
  {P:=rfl,ρ:=fun _ _ h=>h,μ:=fun _ _=>rfl,stays:=I8.refl _ _,O:=fun b _ hb=>hb.elim (fun hb=>hX b hb) fun hb=> .inr (hW b hb),W:=fun b _ hb=>hW b hb,WO:=fun b hb=> .inr hb}
 refine ⟨G.size,G.defers,fun s=>L.Ajn (G.kt s) (G.slot s),fun k o ho=>L.Aa7 (G.ko k o (h k o ho)).1 (G.ko k o (h k o ho)).2 (fun _ b _ _=>rfl) (G.obj k o (h k o ho)),
  fun k k' o o' b h1 h2 h3 h4 h5 h6=>G.sep k k' o o' b (h k o h1) (h k' o' h2) h3 h4 h5 h6,hsep,fun b hb=>?_,G.kt,fun k o ho=>G.ko k o (h k o ho)⟩
 rcases hX b hb with hb | ⟨k,o,h1,h2,h3⟩
 ·exact G.xlt b hb
 ·exact G.Kg h1 h2 h3
theorem Good.Aqv (G:Good P N X ρ K tm ob μ a w) (h: ∀b,X b↔X' b):Good P N X' ρ K tm ob μ a w:=by
 have:X=X':=funext fun b=>propext (h b)
 subst this;exact G
theorem Good.Aba (G:Good P N X ρ K tm ob μ a w) {k:Nat} {o:Ob} (h:ob k=some o) (ho:o.Dn=true):
  Good P N (fun b=>X b∨b∈(blk (μ k)).toList) ρ K tm (A9 ob k none) μ a w:=by
 have hk: ∀k' o',A9 ob k none k'=some o'→k'≠k∧ob k'=some o':=by
  intro k' o' h'
  unfold A9 at h'
  split at h'
  ·cases h'
  ·rename_i hne;exact ⟨hne,h'⟩
 refine G.move (fun k' o' h'=>(hk k' o' h').2) (fun b hb=>hb.imp id fun hb=>⟨k,o,h,ho,by simpa using hb⟩) (fun k' o' b h1 h2 h3 h4=>?_)
 rcases h4 with h4 | h4
 ·exact G.xsep k' o' b (hk k' o' h1).2 h2 h3 h4
 ·exact (hk k' o' h1).1 (G.sep k' k o' o b (hk k' o' h1).2 h h2 ho h3 (by simpa using h4))
variable (P N X ρ K S μ a w) in
structure Lw (L:List Nat) (es es':ES):Prop where
 Bu:Good P N (fun b=>X b∨b∈L) ρ K S.tm (cur S es'.obs) μ a w
 Dc:Hn (cur S es.obs) (cur S es'.obs)
 m:es'.m=es.m
 gs:es'.gs=es.gs
 own: ∀b∈L,Wr (cur S es.obs) μ b
 nodup:L.Nodup
theorem Ph.Aba (p:Ph P N X ρ K S μ a w es es'):Lw P N X ρ K S μ a w [] es es':=
 ⟨p.Bu.Aqv fun b=>by simp,p.Dc,p.m,p.gs,by simp,List.nodup_nil⟩
theorem Lw.congr {L:List Nat} (h:Lw P N X ρ K S μ a w L es es') (hX: ∀b,X b↔X' b):Lw P N X' ρ K S μ a w L es es':=by
 have:X=X':=funext fun b=>propext (hX b)
 subst this;exact h
theorem Lw.trans {L1 L2:List Nat} {e1 e2 e3:ES} (h:Lw P N X ρ K S μ a w L1 e1 e2) (h':Lw P N (fun b=>X b∨b∈L1) ρ K S μ a w L2 e2 e3):Lw P N X ρ K S μ a w (L1++L2) e1 e3:=by
 refine ⟨h'.Bu.Aqv fun b=>by simp [or_assoc],h.Dc.trans h'.Dc,h'.m.trans h.m,h'.gs.trans h.gs,fun b hb=>?_,?_⟩
 ·rcases List.mem_append.1 hb with hb | hb
  ·exact h.own b hb
  ·exact h.Dc.wr (h'.own b hb)
 ·rw [List.nodup_append]
  refine ⟨h.nodup,h'.nodup,fun b h1 c h2 e=>?_⟩
  subst e
  obtain ⟨k,o,q1,q2,q3⟩:=h'.own b h2
  exact h.Bu.xsep k o b q1 q2 q3 (.inr h1)
theorem Lw.later {L:List Nat} (h:Lw P N X ρ K S μ a w L es es'):C0 K (A6 P X ρ (cur S es.obs) μ w) (A6 P (fun b=>X b∨b∈L) ρ (cur S es'.obs) μ w):=
 {P:=rfl,ρ:=fun _ _ h=>h,μ:=fun _ _=>rfl,stays:=I8.refl _ _,O:=fun b _ hb=>hb.elim (fun hb=>hb.imp id (h.own b)) fun hb=> .inr (h.Dc.wr hb),W:=fun _b _ hb=>h.Dc.wr hb,WO:=fun _b hb=> .inr hb}
theorem Lw.drop (G:Good P N X ρ K S.tm (cur S es.obs) μ a w) {k:Nat} {o:Ob} {n:Nat} (h:cur S es.obs k=some o) (ho:o.Dn=true):
  Lw P N X ρ K S μ a w (blk (μ k)).toList es {es with n,obs:=(k,none)::es.obs} :=by
 refine ⟨?_,?_,rfl,rfl,fun b hb=>⟨k,o,h,ho,by simpa using hb⟩,by cases blk (μ k)<;>simp⟩
 ·show Good P N _ ρ K S.tm (cur S ((k,none)::es.obs)) μ a w
  rw [A7];exact G.Aba h ho
 ·show Hn (cur S es.obs) (cur S ((k,none)::es.obs))
  rw [A7];exact (G.drop k).2
end
end Go.CT
namespace Go.CT
open EM
section
variable {P:Program} {N:Nat} {X:Nat→Prop} {R:Job→List IV→Option (List IV)} {ρ:List IV} {K:Nat→Prop} {S:View} {μ:Nat→Value} {a:Act} {w:World} {es es':ES} {ls:List PLt} {sx:SX}
theorem Iu {base e sz n:Nat} {v:Value} {cs:List Value} (h:w.ownsRow base e sz v n cs):v.ownBlock=blk v∧v.oneCell'=true∧ ∃A n cap,v= .slice A n cap:=by
 obtain ⟨_,h⟩:=h
 rcases h with ⟨rfl,_⟩ | ⟨g,cap,cu,rfl,_⟩
 ·exact ⟨rfl,rfl,_,_,_,rfl⟩
 ·exact ⟨rfl,rfl,_,_,_,rfl⟩
theorem Lv {e:TypeId} {l:LV} {x:Arg} {v:Value} (G:Good P N X ρ K S.tm (cur S es.obs) μ a w) (h:Ev S (O6 P e l) es x es' ls) (hl:LH R ρ ls) (hg:holds ρ es.gs=some true)
  (hv:Tr (A6 P X ρ (cur S es.obs) μ w) l v):
  ∃ys,x.ev ρ=some (.list ys)∧Lw P N X ρ K S μ a w (blk v).toList es es'∧Es P w (fun b=>(X b∨b∈(blk v).toList)∨Wr (cur S es'.obs) μ b) e ys v:=by
 unfold O6 at h
 rw [Aa] at h
 obtain ⟨_,_,_,_,h0,h,rfl⟩:=h
 rw [Ae] at h0
 obtain ⟨g0,rfl,rfl⟩:=h0
 simp only [decide_eq_true_eq] at g0
 have hl:=hl.right
 rw [Aa] at h
 obtain ⟨⟨old,c⟩,e1,l1,_,h1,h,rfl⟩:=h
 obtain ⟨⟨n1,rfl⟩,ivs,cs,q1,q2,q3,q4,q5⟩:=Nh (sv:= .leaf l) G h1 hl.left hg hv g0
 have hone: ∀u∈cs,u.oneCell'=true:=by
  have hE:Ik P w (A6 P X ρ (cur S es.obs) μ w).O e ivs cs:=q3
  obtain ⟨us,r1,rfl⟩:=hE.Amt q2.1
  exact Ex fun v hv=>(r1.size v hv).2
 obtain ⟨b1,_,A,n,cap,rfl⟩:=Iu q2
 cases old with
 | none=>
  have:=q4 rfl
  injection this with i1 i2 i3;subst i1;subst i2;subst i3
  simp only [Mp,Aa,Ac] at h
  obtain ⟨_,_,_,_,⟨_,rfl,rfl⟩,⟨rfl,rfl,rfl⟩,rfl⟩:=h
  have p:Ph P N X ρ K S μ a w es {es with n:=n1} := .same G rfl rfl rfl
  refine ⟨ivs,q1,p.Aba,g0,cs,q2,q3.weaken fun b _ hb=>?_,hone⟩
  rcases hb with (hb | hb) | hb
  ·exact .inl hb
  ·simp [blk] at hb
  ·exact .inr hb
 | some k=>
  obtain ⟨⟨t,c0,q6⟩,q7⟩:=q5 k rfl
  rw [b1] at q7
  simp only [Mp,Aa,A5,Ac] at h
  obtain ⟨_,_,_,_,⟨rfl,rfl⟩,⟨rfl,rfl,rfl⟩,rfl⟩:=h
  have d:=Lw.drop (n:=n1) G q6 rfl
  rw [←q7] at d
  exact ⟨ivs,q1,d,g0,cs,q2,q3.weaken fun b hb ho=>d.later.O b hb ho,hone⟩
theorem Rel.as {O:Nat→Prop} {al:Bool} {t:TypeId} {x:Arg} {v:Value} {c:Cx} (hb:Nc c x t v) (hd:al=true→Ts c x t v) (hO: ∀b,O b→al=true∧c.O b): ∃iv,x.ev c.ρ=some iv∧Rel c.P c.w O t iv v:=by
 cases al with
 | true=>
  obtain ⟨iv,h1,h2⟩:=hd rfl
  exact ⟨iv,h1,h2.weaken fun b _ hb=>(hO b hb).2⟩
 | false=>
  obtain ⟨iv,h1,h2,_⟩:=hb
  exact ⟨iv,h1,h2.weaken fun b _ hb=>by have:=(hO b hb).1;simp at this⟩
theorem Agn {t:TypeId} {l:LV} {x:Arg} {v:Value} (G:Good P N X ρ K S.tm (cur S es.obs) μ a w) (h:Ev S (Abk P t l) es x es' ls)
  (hv:Tr (A6 P X ρ (cur S es.obs) μ w) l v):
  ∃ys kt vt,x.ev ρ=some (.list ys)∧Lw P N X ρ K S μ a w (blk v).toList es es'∧P.underlying t=some (.map kt vt)∧Z4 P w (fun b=>(X b∨b∈(blk v).toList)∨Wr (cur S es'.obs) μ b) kt vt ys v:=by
 unfold Abk at h
 split at h
 ·rename_i k t1
  rw [Aa] at h
  obtain ⟨o,_,_,l2,h0,h,rfl⟩:=h
  rw [Be] at h0
  obtain ⟨ho,rfl,rfl⟩:=h0
  cases o with
  | box=>simp [Ad] at h
  | frz=>simp [Ad] at h
  | iter=>simp [Ad] at h
  | arr=>simp [Ad] at h
  | mp t' kt vt c=>
   simp only [Aa,Ae,A5,Ac] at h
   obtain ⟨_,_,_,_,⟨g0,rfl,rfl⟩,⟨_,_,_,_,⟨rfl,rfl⟩,⟨rfl,rfl,rfl⟩,rfl⟩,rfl⟩:=h
   have g0:Aj1 P t=some (kt,vt):=by simpa using g0
   obtain ⟨r,cl,ents,ivs,q1,q2,q3,q4,q5,q6⟩:=G.obj k _ ho
   have hu:v=μ k:=hv.1
   subst hu
   have d:=Lw.drop (n:=es.n) G ho rfl
   exact ⟨ivs,kt,vt,q5,d,Mw g0,r,cl,ents,q1,q2,q4,q6.imp fun _ _ _ h=>h.weaken fun b hb ho=>d.later.O b hb ho⟩
 ·simp [Ad] at h
theorem Agm {t:TypeId} {l:LV} {x:Arg} {v:Value} (G:Good P N X ρ K S.tm (cur S es.obs) μ a w) (h:Ev S (Ab5 P t l) es x es' ls) (hl:LH R ρ ls) (hg:holds ρ es.gs=some true)
  (hv:Tr (A6 P X ρ (cur S es.obs) μ w) l v):
  ∃y,x.ev ρ=some y∧Lw P N X ρ K S μ a w (blk v).toList es es'∧Lh P w (fun b=>(X b∨b∈(blk v).toList)∨Wr (cur S es'.obs) μ b) t y v:=by
 unfold Ab5 at h
 split at h
 ·rename_i e he
  obtain ⟨ys,r1,r2,r3⟩:=Lv G h hl hg hv
  exact ⟨_,r1,r2,ys,rfl,.inl ⟨e,Ba he,r3⟩⟩
 ·obtain ⟨ys,kt,vt,r1,r2,r3,r4⟩:=Agn G h hv
  exact ⟨_,r1,r2,ys,rfl,.inr ⟨kt,vt,r3,r4⟩⟩
theorem W6 {t:TypeId} {l:LV} {x:Arg} (h:Ev S (Cp P false t l) es x es' ls) (he:Cz P t=none):Ev S (Cp P true t l) es x es' ls:=by
 cases l with
 | ref k u=>
  exfalso
  unfold Cp at h
  simp only [Aa,Be] at h
  obtain ⟨o,_,_,ls2,⟨ho,rfl,rfl⟩,h,rfl⟩:=h
  cases o<;>simp [Ad,Aa,Ae,he] at h
 | sub k lo hi u=>
  exfalso
  unfold Cp at h
  simp only [Aa,Be] at h
  obtain ⟨o,_,_,ls2,⟨ho,rfl,rfl⟩,h,rfl⟩:=h
  cases o<;>simp [Ad,Aa,Ae,he] at h
 | _=>exact h
theorem J4: ∀ {bs:List Bool} {ts:List TypeId} {lvs:List LV} {es es':ES} {as:List Arg} {ls:List PLt},Ev S (Dk P false bs ts lvs) es as es' ls→Dj P bs ts=true→Ev S (Dk P true bs ts lvs) es as es' ls
 | [],[],[],es,es',as,ls,h,hf=>h
 | o::bs,t::ts,l::lvs,es,es',as,ls,h,hf=>by
  unfold Dk at h ⊢
  rw [Aa] at h ⊢
  obtain ⟨x,e1,l1,l2,h1,h2,rfl⟩:=h
  rw [Aa] at h2
  obtain ⟨y,e2,l3,l4,h3,h4,rfl⟩:=h2
  cases o with
  | true=>
   simp only [Dj,Bool.and_eq_true] at hf
   exact ⟨x,e1,l1,_,h1,Aa.2 ⟨y,e2,l3,l4,J4 h3 hf.2,h4,rfl⟩,rfl⟩
  | false=>
   simp only [Dj,Bool.and_eq_true,Option.isNone_iff_eq_none] at hf
   exact ⟨x,e1,l1,_,W6 h1 hf.1,Aa.2 ⟨y,e2,l3,l4,J4 h3 hf.2,h4,rfl⟩,rfl⟩
 | [],[],_::_,_,_,_,_,h,_=>by simp [Dk,Ad] at h
 | [],_::_,_,_,_,_,_,h,_=>by simp [Dk,Ad] at h
 | _::_,[],_,_,_,_,_,h,_=>by simp [Dk,Ad] at h
 | _::_,_::_,[],_,_,_,_,h,_=>by simp [Dk,Ad] at h
def Ame (al:Bool) (X:Nat→Prop) (L:List Nat) (ob:Nat→Option Ob) (μ:Nat→Value) (b:Nat):Prop:=al=true∧((X b∨b∈L)∨Wr ob μ b)
theorem J6: ∀ {bs:List Bool} {ts:List TypeId} {lvs:List LV} {X:Nat→Prop} {es es':ES} {as:List Arg} {ls:List PLt} {vs:List Value},Good P N X ρ K S.tm (cur S es.obs) μ a w→Ev S (Dk P true bs ts lvs) es as es' ls→LH R ρ ls→holds ρ es.gs=some true→
  (∀k∈lvs.flatMap As,K k)→C6 (A6 P X ρ (cur S es.obs) μ w) lvs vs→
  ∃xs L,Arg.evs ρ as=some xs∧Lw P N X ρ K S μ a w L es es'∧Bd P w (Ame true X L (cur S es'.obs) μ) bs ts xs vs L
 | [],[],[],X,es,es',as,ls,vs,G,h,hl,hg,hk,hv=>by
  unfold Dk at h
  rw [Ac] at h
  obtain ⟨rfl,rfl,rfl⟩:=h
  cases vs with
  | cons=>exact hv.elim
  | nil=>exact ⟨[],[],rfl,(Ph.refl G).Aba,rfl⟩
 | o::bs,t::ts,l::lvs,X,es,es',as,ls,vs,G,h,hl,hg,hk,hv=>by
  cases vs with
  | nil=>exact hv.elim
  | cons v vs=>
   unfold Dk at h
   simp only [Aa] at h
   obtain ⟨x,e1,l1,_,h1,⟨as,e2,l2,_,h2,h3,rfl⟩,rfl⟩:=h
   rw [Ac] at h3
   obtain ⟨rfl,rfl,rfl⟩:=h3
   have hk1: ∀k∈lvs.flatMap As,K k:=fun k hm=>hk k (by rw [List.flatMap_cons];exact List.mem_append_right _ hm)
   cases o with
   | true=>
    simp only [Ab8,if_true] at h1
    obtain ⟨y,r1,r2,r3⟩:=Agm G h1 hl.left hg hv.1.2
    obtain ⟨xs,L2,s1,s2,s3⟩:=J6 r2.Bu h2 hl.right.left (by rw [r2.gs];exact hg) hk1 (r2.later.Aam hk1 hv.2)
    refine ⟨y::xs,_,Ed r1 s1,r2.trans s2,L2,r3.weaken fun b hb ho=>?_,s3.weaken (fun b hb ho=>?_),rfl⟩
    ·obtain ⟨_,ho⟩:=ho
     have:=s2.later.O b hb (by simpa [A6,or_assoc] using ho)
     exact this
    ·exact ⟨rfl,by simpa [or_assoc] using ho.2⟩
   | false=>
    simp only [Ab8,Bool.false_eq_true,if_false] at h1
    obtain ⟨p,q2,q3⟩:=E2 G h1 hl.left hg hv.1.2
    obtain ⟨iv,q4,q5⟩:=q3 rfl
    obtain ⟨xs,L2,s1,s2,s3⟩:=J6 p.Bu h2 hl.right.left (by rw [p.gs];exact hg) hk1 (p.later.Aam hk1 hv.2)
    have s2':=p.Aba.trans (s2.congr fun b=>by simp)
    refine ⟨iv::xs,L2,Ed q4 s1,by simpa using s2',q5.weaken fun b hb ho=>s2.later.O b hb ho.2,s3⟩
 | [],[],_::_,X,es,es',as,ls,vs,G,h,hl,hg,hk,hv=>by simp [Dk,Ad] at h
 | [],_::_,_,X,es,es',as,ls,vs,G,h,hl,hg,hk,hv=>by simp [Dk,Ad] at h
 | _::_,[],_,X,es,es',as,ls,vs,G,h,hl,hg,hk,hv=>by simp [Dk,Ad] at h
 | _::_,_::_,[],X,es,es',as,ls,vs,G,h,hl,hg,hk,hv=>by simp [Dk,Ad] at h
end
end Go.CT
namespace Go.CT
open EM
def Akx (P:Program) (K:Nat→Prop) (μ:Nat→Value):PS→Value→List Bk→Prop
 | .box t bs,u,l=> ∃k,l= [.box k t bs]∧K k∧μ k=u
 | .arr t,u,l=> ∃k e t',l= [.arr k e t']∧K k∧μ k=u∧P.underlying t=some (.slice e)∧P.underlying t'=some (.slice e)
 | .bld t bk,u,l=> ∃k st e,Aq2 P t=some (st,e)∧l=(if bk then [.bld k t e st] else [])∧K k∧μ k=u
 | _,_,l=>l= []
def Mg (P:Program) (K:Nat→Prop) (μ:Nat→Value):List PS→List Value→List Bk→Prop
 | [],[],l=>l= []
 | p::ps,u::us,l=> ∃l1 l2,l=l1++l2∧Akx P K μ p u l1∧Mg P K μ ps us l2
 | _,_,_=>False
section
variable {P:Program} {N:Nat} {X:Nat→Prop} {R:Job→List IV→Option (List IV)} {ρ:List IV} {K:Nat→Prop} {S:View} {μ:Nat→Value} {a:Act} {w:World} {es es':ES} {ls:List PLt} {sx:SX}
theorem Vj {al:Bool} {t:TypeId} {p:PV} {x:Arg} {v:Value} (G:Good P N X ρ K S.tm (cur S es.obs) μ a w) (h:Ev S (Ww P al t p) es x es' ls) (hl:LH R ρ ls) (hg:holds ρ es.gs=some true)
  (hv:Xz (A6 P X ρ (cur S es.obs) μ w) p v):
  Ph P N X ρ K S μ a w es es'∧ ∃iv,x.ev ρ=some iv∧Md P w (Ame al X [] (cur S es'.obs) μ) (fun _=>False) t iv v:=by
 unfold Ww at h
 split at h
 ·rename_i k
  rw [Aa] at h
  obtain ⟨o,_,_,l2,h0,h,rfl⟩:=h
  rw [Be] at h0
  obtain ⟨ho,rfl,rfl⟩:=h0
  cases o with
  | arr=>simp [Ad] at h
  | frz=>simp [Ad] at h
  | iter=>simp [Ad] at h
  | mp=>simp [Ad] at h
  | box t0 vv=>
   rw [Aa] at h
   obtain ⟨_,_,_,_,h0,h,rfl⟩:=h
   rw [Ae] at h0
   obtain ⟨g0,rfl,rfl⟩:=h0
   simp only [Bool.and_eq_true,beq_iff_eq,decide_eq_true_eq] at g0
   obtain ⟨rfl,g0⟩:=g0
   obtain ⟨b,u,o1,o2,o3,o4,o5,o6⟩:=G.obj k _ ho
   obtain ⟨p1,p2,p3⟩:=Dw G h (by simpa using hl) hg (G.ko k _ ho).2 o6
   obtain ⟨iv,q1,q2⟩:=Rel.as (O:=Ame al X [] (cur S es'.obs) μ) p2 p3 fun b hb=>⟨hb.1,by simpa [A6] using hb.2⟩
   refine ⟨p1,iv,q1,⟨b,0,none⟩,u,?_,⟨o3,fun i c hc=>?_⟩,g0,id,q2⟩
   ·obtain ⟨b',r1,r2⟩:=hv
    have r1':μ k= .pointer (some ⟨b',0,none⟩):=r1
    have o1':μ k= .pointer (some ⟨b,0,none⟩):=o1
    rw [o1'] at r1';injection r1' with r1';injection r1' with r1';injection r1' with r1'
    subst r1'
    rw [r2,Au]
   ·rw [O7]
    have o2':w.heap[b]?=some (.cells u.cells t (0,0)):=o2
    simp only [World.cell?,o2']
    exact hc
 ·rename_i x' t0
  simp only [Aa,Ae,Ac] at h
  obtain ⟨_,_,_,_,⟨g0,rfl,rfl⟩,⟨rfl,rfl,rfl⟩,rfl⟩:=h
  have:t=t0:=by simpa using g0
  subst this
  obtain ⟨ad,u,⟨iv,r1,r2⟩,r3,r4,r5,r6⟩:=hv
  refine ⟨.refl G,iv,r1,ad,u,by rw [r6,Au],r3,r4,id,r2.weaken fun b _ hb=>by simpa [A6] using hb.2⟩
 ·simp [Ad] at h
theorem Q8 {al:Bool} : ∀ {ts:List TypeId} {ps:List PV} {es es':ES} {as:List Arg} {ls:List PLt} {vs:List Value},Good P N X ρ K S.tm (cur S es.obs) μ a w→Ev S (Hv P al ts ps) es as es' ls→LH R ρ ls→holds ρ es.gs=some true→
  (∀k∈ps.flatMap Cv,K k)→Kk (A6 P X ρ (cur S es.obs) μ w) ps vs→
  Ph P N X ρ K S μ a w es es'∧ ∃xs,Arg.evs ρ as=some xs∧Ge P w (Ame al X [] (cur S es'.obs) μ) (fun _=>False) ts xs vs
 | [],[],es,es',as,ls,vs,G,h,hl,hg,hk,hv=>by
  unfold Hv at h
  rw [Ac] at h
  obtain ⟨rfl,rfl,rfl⟩:=h
  cases vs with
  | cons=>exact hv.elim
  | nil=>exact ⟨.refl G,[],rfl,trivial⟩
 | t::ts,p::ps,es,es',as,ls,vs,G,h,hl,hg,hk,hv=>by
  cases vs with
  | nil=>exact hv.elim
  | cons v vs=>
   unfold Hv at h
   simp only [Aa] at h
   obtain ⟨x,e1,l1,_,h1,⟨as,e2,l2,_,h2,h3,rfl⟩,rfl⟩:=h
   rw [Ac] at h3
   obtain ⟨rfl,rfl,rfl⟩:=h3
   have hk1: ∀k∈ps.flatMap Cv,K k:=fun k hm=>hk k (by rw [List.flatMap_cons];exact List.mem_append_right _ hm)
   obtain ⟨p1,iv,p2,p3⟩:=Vj G h1 hl.left hg hv.1
   obtain ⟨q1,xs,q2,q3⟩:=Q8 p1.Bu h2 hl.right.left (by rw [p1.gs];exact hg) hk1 (p1.later.Aad hk1 hv.2)
   refine ⟨p1.trans q1,iv::xs,Ed p2 q2,p3.weaken fun b hb ho=>⟨ho.1,?_⟩,q3⟩
   have:=q1.later.O b hb (by simpa [A6] using ho.2)
   simpa [A6] using this
 | [],_::_,es,es',as,ls,vs,G,h,hl,hg,hk,hv=>by simp [Hv,Ad] at h
 | _::_,[],es,es',as,ls,vs,G,h,hl,hg,hk,hv=>by simp [Hv,Ad] at h
theorem Aji {al:Bool} {p:PS} {vv:VV} {r:List Arg × List Bk} {u:Value} (G:Good P N X ρ K S.tm (cur S es.obs) μ a w) (h:Ev S (Aqp P al p vv) es r es' ls) (hl:LH R ρ ls) (hg:holds ρ es.gs=some true)
  (hk: ∀k∈Ap vv,K k) (hv:Ki (A6 P X ρ (cur S es.obs) μ w) vv u) (hal:p.De=true∨al=true):
  ∃xs L,Arg.evs ρ r.1=some xs∧Lw P N X ρ K S μ a w L es es'∧ArgRel P w (Ame al X L (cur S es'.obs) μ) (fun _=>False) p xs u L∧Akx P K μ p u r.2:=by
 unfold Aqp at h
 cases p with
 | data t=>
  simp only [Aa,Ac] at h
  obtain ⟨x,e1,l1,_,h1,⟨rfl,rfl,rfl⟩,rfl⟩:=h
  obtain ⟨p1,p2,p3⟩:=Dw G h1 (by simpa using hl) hg hk hv
  obtain ⟨iv,q1,q2⟩:=Rel.as (O:=Ame al X [] (cur S e1.obs) μ) p2 p3 fun b hb=>⟨hb.1,by simpa [A6] using hb.2⟩
  exact ⟨[iv],[],Ed q1 rfl,p1.Aba,⟨iv,rfl,rfl,q2⟩,rfl⟩
 | arr t=>
  have hal:al=true:=by simpa [PS.De] using hal
  subst hal
  simp only at h
  split at h
  ·rename_i k t1
   rw [Aa] at h
   obtain ⟨o,_,_,l2,h0,h,rfl⟩:=h
   rw [Be] at h0
   obtain ⟨ho,rfl,rfl⟩:=h0
   cases o with
   | box=>simp [Ad] at h
   | frz=>simp [Ad] at h
   | iter=>simp [Ad] at h
   | mp=>simp [Ad] at h
   | arr e t' c=>
    simp only [Aa,Ae,A5,Ac] at h
    obtain ⟨_,_,_,_,⟨g0,rfl,rfl⟩,⟨_,_,_,_,⟨rfl,rfl⟩,⟨rfl,rfl,rfl⟩,rfl⟩,rfl⟩:=h
    have g0:Cz P t=some e:=by simpa using g0
    obtain ⟨ivs,cs,q1,q2,q3,q4,q5,q6⟩:=G.obj k _ ho
    have q2:P.underlying t'=some (.slice e):=q2
    have hu:u=μ k:=hv.1
    subst hu
    have d:=Lw.drop (n:=es.n) G ho rfl
    refine ⟨[.list ivs],_,Ed q1 rfl,d,⟨e,ivs,rfl,rfl,Ba g0,q3,cs,q4,?_,q6⟩,k,e,t',rfl,(G.ko k _ ho).1,rfl,Ba g0,q2⟩
    exact Ik.weaken (O:=(A6 P X ρ (cur S es.obs) μ w).O) q5 fun b hb ho=>d.later.O b hb ho.2
  ·simp [Ad] at h
 | own t=>
  have hal:al=true:=by simpa [PS.De] using hal
  subst hal
  simp only at h
  split at h
  ·rename_i l
   simp only [Aa,Ai,Ac] at h
   obtain ⟨e,_,_,_,⟨h1,rfl,rfl⟩,⟨x,e1,l1,_,h2,⟨rfl,rfl,rfl⟩,rfl⟩,rfl⟩:=h
   obtain ⟨ys,r1,r2,r3⟩:=Lv G h2 (by simpa using hl) hg hv
   exact ⟨_,_,Ed r1 rfl,r2,⟨e,ys,rfl,rfl,Ba h1,r3.weaken fun b _ hb=>hb.2⟩,rfl⟩
  ·simp [Ad] at h
 | box t bs=>
  have hal:al=true:=by simpa [PS.De] using hal
  subst hal
  simp only at h
  split at h
  ·rename_i k
   rw [Aa] at h
   obtain ⟨o,_,_,l2,h0,h,rfl⟩:=h
   rw [Be] at h0
   obtain ⟨ho,rfl,rfl⟩:=h0
   cases o with
   | arr=>simp [Ad] at h
   | frz=>simp [Ad] at h
   | iter=>simp [Ad] at h
   | mp=>simp [Ad] at h
   | box t0 v0=>
    simp only [Aa,Ae,A5,Ai,Ac] at h
    obtain ⟨_,_,_,_,⟨g0,rfl,rfl⟩,⟨cs,e1,l1,_,h1,⟨_,_,_,_,⟨rfl,rfl⟩,⟨ts,_,_,_,⟨h2,rfl,rfl⟩,⟨as,e2,l3,_,h3,⟨rfl,rfl,rfl⟩,rfl⟩,rfl⟩,rfl⟩,rfl⟩,rfl⟩:=h
    have:t=t0:=by simpa using g0
    subst this
    obtain ⟨b,v,o1,o2,o3,o4,o5,o6⟩:=G.obj k _ ho
    have o1:μ k= .pointer (some ⟨b,0,none⟩):=o1
    have o2:w.heap[b]?=some (.cells v.cells t (0,0)):=o2
    obtain ⟨⟨n1,rfl⟩,q1,q2⟩:=H0 h1 (by simpa using LH.left (by simpa using hl)) hg (G.ko k _ ho).2 o6
    have d:=Lw.drop (n:=n1) G ho rfl
    obtain ⟨xs,L,s1,s2,s3⟩:=J6 d.Bu h3 (by simpa using LH.right (by simpa using hl)) (by rw [d.gs];exact hg) q2 (d.later.Aam q2 q1)
    have hu:u=μ k:=by
     obtain ⟨b',r1,r2⟩:=hv
     have r1':μ k= .pointer (some ⟨b',0,none⟩):=r1
     rw [r2,Au,r1']
    subst hu
    have hb:(blk (μ k)).toList = [b]:=by rw [o1];rfl
    refine ⟨xs,_,s1,d.trans s2,⟨b,v,L,o1,o2,⟨ts,h2,o3,o4,s3.weaken fun c hc hO=>⟨rfl,?_⟩⟩,by rw [hb];rfl⟩,k,rfl,(G.ko k _ ho).1,rfl⟩
    simpa [or_assoc] using hO.2
  ·simp [Ad] at h
 | fnb f n=>
  simp only [Ac] at h
  obtain ⟨rfl,rfl,rfl⟩:=h
  exact ⟨[],[],rfl,(Ph.refl G).Aba,⟨rfl,rfl⟩,rfl⟩
 | fn f ts=>
  simp only at h
  split at h
  ·rename_i g caps
   simp only [Aa,Ae,Ac] at h
   obtain ⟨_,_,_,_,⟨g0,rfl,rfl⟩,⟨as,e1,l1,_,h1,⟨rfl,rfl,rfl⟩,rfl⟩,rfl⟩:=h
   have:f=g:=by simpa using g0
   subst this
   obtain ⟨vs,rfl,hp⟩:=hv
   obtain ⟨p1,xs,p2,p3⟩:=Q8 G h1 (by simpa using hl) hg hk hp
   exact ⟨xs,[],p2,p1.Aba,⟨vs,rfl,rfl,p3⟩,rfl⟩
  ·simp [Ad] at h
 | rd t=>
  simp only at h
  split at h
  ·rename_i p
   simp only [Aa,Ac] at h
   obtain ⟨x,e1,l1,_,h1,⟨rfl,rfl,rfl⟩,rfl⟩:=h
   obtain ⟨p1,iv,p2,p3⟩:=Vj G h1 (by simpa using hl) hg hv
   exact ⟨[iv],[],Ed p2 rfl,p1.Aba,⟨iv,rfl,rfl,p3⟩,rfl⟩
  ·simp [Ad] at h
 | bld t bk=>
  have hal:al=true:=by simpa [PS.De] using hal
  subst hal
  simp only at h
  split at h
  ·rename_i k
   rw [Aa] at h
   obtain ⟨o,_,_,l2,h0,h,rfl⟩:=h
   rw [Be] at h0
   obtain ⟨ho,rfl,rfl⟩:=h0
   split at h
   ·rename_i t0 t1 k1 lv
    simp only [Aa,Ae,A5,Ai,Ac] at h
    obtain ⟨se,_,_,_,⟨hse,rfl,rfl⟩,⟨_,_,_,_,⟨g0,rfl,rfl⟩,⟨_,_,_,_,⟨rfl,rfl⟩,⟨x,e2,l3,_,h3,⟨rfl,rfl,rfl⟩,rfl⟩,rfl⟩,rfl⟩,rfl⟩:=h
    simp only [Bool.and_eq_true,beq_iff_eq] at g0
    obtain ⟨e0,e1⟩:=g0
    subst e0;subst e1
    obtain ⟨b,v,o1,o2,o3,o4,o5,o6⟩:=G.obj k1 _ ho
    have o1:μ k1= .pointer (some ⟨b,0,none⟩):=o1
    have o2:w.heap[b]?=some (.cells v.cells t (0,0)):=o2
    have hu:u=μ k1:=by
     obtain ⟨b',r1,r2⟩:=hv
     have r1':μ k1= .pointer (some ⟨b',0,none⟩):=r1
     rw [r2,Au,r1']
    subst hu
    obtain ⟨cs,rfl,hc⟩:=o6
    obtain ⟨c0,c1,hcs⟩: ∃c0 c1,cs.toList= [c0,c1]:=by
     match hcs:cs.toList,hc with
     | [c0,c1],_=>exact ⟨c0,c1,rfl⟩
     | [],h=>exact h.elim
     | [_],h=>exact h.2.elim
     | _::_::_::_,h=>exact h.2.2.elim
    rw [hcs] at hc
    have hcs':cs= #[c0,c1]:=by rw [←Array.toArray_toList (xs:=cs),hcs]
    subst hcs'
    have d:=Lw.drop (n:=es.n) G ho rfl
    have hkl: ∀k∈As lv,K k:=fun k' hk'=>(G.ko k1 _ ho).2 k' (by simp [Ee,Ap,hk'])
    obtain ⟨ys,r1,r2,r3⟩:=Lv d.Bu h3 (by simpa using hl) (by rw [d.gs];exact hg) (d.later.Axx hkl hc.2.1.2)
    have hb:(blk (μ k1)).toList = [b]:=by rw [o1];rfl
    refine ⟨[.list ys],_,Ed r1 rfl,d.trans r2,⟨b,c0,c1,ys,se.1,se.2,o1,o2,?_,hse,rfl,r3.weaken fun b' hb' hO=>?_,by rw [hb];rfl⟩,k1,se.1,se.2,hse,rfl,(G.ko k1 _ ho).1,rfl⟩
    ·exact hc.1.2.imp id fun h=>h.1
    ·simpa [or_assoc] using hO.2
   ·simp [Ad] at h
  ·simp [Ad] at h
theorem Ea: ∀ {xs ys:List Arg} {us vs:List IV},Arg.evs ρ xs=some us→Arg.evs ρ ys=some vs→Arg.evs ρ (xs++ys)=some (us++vs)
 | [],ys,us,vs,h1,h2=>by
  simp only [Arg.evs,Option.some.injEq] at h1
  subst h1;exact h2
 | x::xs,ys,us,vs,h1,h2=>by
  unfold Arg.evs at h1
  cases hx:x.ev ρ with
  | none=>simp [hx] at h1
  | some u=>
   cases hr:Arg.evs ρ xs with
   | none=>simp [hx,hr] at h1
   | some r=>
    simp [hx,hr] at h1
    subst h1
    exact Ed hx (Ea hr h2)
theorem On {al:Bool} : ∀ {ps:List PS} {vvs:List VV} {X:Nat→Prop} {es es':ES} {r:List Arg × List Bk} {ls:List PLt} {us:List Value},Good P N X ρ K S.tm (cur S es.obs) μ a w→Ev S (Mv P al ps vvs) es r es' ls→LH R ρ ls→
  holds ρ es.gs=some true→(∀k∈vvs.flatMap Ap,K k)→Dy (A6 P X ρ (cur S es.obs) μ w) vvs us→(ps.all PS.De=true∨al=true)→
  ∃xs L,Arg.evs ρ r.1=some xs∧Lw P N X ρ K S μ a w L es es'∧Dg P w (Ame al X L (cur S es'.obs) μ) (fun _=>False) ps xs us L∧Mg P K μ ps us r.2
 | [],[],X,es,es',r,ls,us,G,h,hl,hg,hk,hv,hal=>by
  unfold Mv at h
  rw [Ac] at h
  obtain ⟨rfl,rfl,rfl⟩:=h
  cases us with
  | cons=>exact hv.elim
  | nil=>exact ⟨[],[],rfl,(Ph.refl G).Aba,⟨rfl,rfl⟩,rfl⟩
 | p::ps,vv::vvs,X,es,es',r,ls,us,G,h,hl,hg,hk,hv,hal=>by
  cases us with
  | nil=>exact hv.elim
  | cons u us=>
   unfold Mv at h
   simp only [Aa] at h
   obtain ⟨r1,e1,l1,_,h1,⟨r2,e2,l2,_,h2,h3,rfl⟩,rfl⟩:=h
   rw [Ac] at h3
   obtain ⟨rfl,rfl,rfl⟩:=h3
   have hk1: ∀k∈vvs.flatMap Ap,K k:=fun k hm=>hk k (by rw [List.flatMap_cons];exact List.mem_append_right _ hm)
   simp only [List.all_cons,Bool.and_eq_true] at hal
   obtain ⟨xs,L1,p1,p2,p3,p4⟩:=Aji G h1 hl.left hg (fun k hm=>hk k (by rw [List.flatMap_cons];exact List.mem_append_left _ hm)) hv.1 (hal.imp (·.1) id)
   obtain ⟨ys,L2,q1,q2,q3,q4⟩:=On p2.Bu h2 hl.right.left (by rw [p2.gs];exact hg) hk1 (p2.later.N7 hk1 hv.2) (hal.imp (·.2) id)
   refine ⟨xs++ys,L1++L2,Ea p1 q1,p2.trans q2,⟨xs,ys,L1,L2,rfl,rfl,p3.weaken fun b hb ho=>⟨ho.1,?_⟩,q3.weaken fun b hb ho=>⟨ho.1,by simpa [or_assoc] using ho.2⟩⟩,_,_,rfl,p4,q4⟩
   have:=q2.later.O b hb (by simpa [A6,or_assoc] using ho.2)
   exact this
 | [],_::_,X,es,es',r,ls,us,G,h,hl,hg,hk,hv,hal=>by simp [Mv,Ad] at h
 | _::_,[],X,es,es',r,ls,us,G,h,hl,hg,hk,hv,hal=>by simp [Mv,Ad] at h
def PS.Afs:PS→Bool
 | .data _=>true
 | _=>false
theorem Ajb {p:PS} {vv:VV} {r:List Arg × List Bk} (h:Ev S (Aqp P false p vv) es r es' ls) (hs:p.safe P=true) (hd:p.Afs=false):Ev S (Aqp P true p vv) es r es' ls:=by
 cases p with
 | data t=>cases hd
 | arr t=>exact h
 | own t=>exact h
 | bld t b=>exact h
 | fnb f n=>exact h
 | rd t=>cases hs
 | fn f ts=>
  have:ts= []:=by simpa [PS.safe] using hs
  subst this
  unfold Aqp at h ⊢
  simp only at h ⊢
  split at h
  ·rename_i g caps
   have e:Hv P true [] caps=Hv P false [] caps:=by cases caps<;>rfl
   simp only [e]
   exact h
  ·simp [Ad] at h
 | box t bs=>
  unfold Aqp at h ⊢
  simp only at h ⊢
  split at h
  ·rename_i k
   rw [Aa] at h ⊢
   obtain ⟨o,e1,l1,l2,h0,h,rfl⟩:=h
   refine ⟨o,e1,l1,l2,h0,?_,rfl⟩
   cases o with
   | box t0 v0=>
    simp only at h ⊢
    rw [Aa] at h ⊢
    obtain ⟨x1,e2,l3,l4,h1,h,rfl⟩:=h
    refine ⟨x1,e2,l3,l4,h1,?_,rfl⟩
    rw [Aa] at h ⊢
    obtain ⟨x2,e3,l5,l6,h2,h,rfl⟩:=h
    refine ⟨x2,e3,l5,l6,h2,?_,rfl⟩
    rw [Aa] at h ⊢
    obtain ⟨x3,e4,l7,l8,h3,h,rfl⟩:=h
    refine ⟨x3,e4,l7,l8,h3,?_,rfl⟩
    rw [Aa] at h ⊢
    obtain ⟨ts,e5,l9,l10,h4,h,rfl⟩:=h
    refine ⟨ts,e5,l9,l10,h4,?_,rfl⟩
    rw [Aa] at h ⊢
    obtain ⟨as,e6,l11,l12,h5,h,rfl⟩:=h
    refine ⟨as,e6,l11,l12,J4 h5 ?_,h,rfl⟩
    obtain ⟨hts,_,_⟩:=Ai.1 h4
    simpa [PS.safe,hts] using hs
   | _=>simp [Ad] at h
  ·simp [Ad] at h
theorem Ahc {p:PS} {ps:List PS} {v:VV} {vs:List VV} (hd:p.Afs=false):X9 (p::ps) (v::vs)=X9 ps vs:=by cases p<;>first | rfl | cases hd
theorem Acp {p:PS} {ps:List PS} {v:VV} {vs:List VV} (hd:p.Afs=false):Ko (p::ps) (v::vs)=Ko ps vs:=by cases p<;>first | (cases v<;>rfl) | cases hd
theorem Td {KS:List Nat} : ∀ {ps:List PS} {vvs:List VV} {X:Nat→Prop} {es es':ES} {r:List Arg × List Bk} {ls:List PLt} {us:List Value},Good P N X ρ K S.tm (cur S es.obs) μ a w→Ev S (Mv P false ps vvs) es r es' ls→LH R ρ ls→
  holds ρ es.gs=some true→(∀k∈vvs.flatMap Ap,K k)→Dy (A6 P X ρ (cur S es.obs) μ w) vvs us→ps.all (PS.safe P)=true→Ko ps vvs=true→(∀k∈X9 ps vvs,∀e t c,cur S es.obs k=some (.arr e t c)→k∈KS)→
  ∃xs L,Arg.evs ρ r.1=some xs∧Lw P N X ρ K S μ a w L es es'∧Dg P w (fun b=>(X b∨b∈L)∧ ∀k∈KS,blk (μ k)≠some b) (fun _=>False) ps xs us L∧Mg P K μ ps us r.2
 | [],[],X,es,es',r,ls,us,G,h,hl,hg,hk,hv,hs,hd,hKS=>by
  unfold Mv at h
  rw [Ac] at h
  obtain ⟨rfl,rfl,rfl⟩:=h
  cases us with
  | cons=>exact hv.elim
  | nil=>exact ⟨[],[],rfl,(Ph.refl G).Aba,⟨rfl,rfl⟩,rfl⟩
 | p::ps,vv::vvs,X,es,es',r,ls,us,G,h,hl,hg,hk,hv,hs,hd,hKS=>by
  cases us with
  | nil=>exact hv.elim
  | cons u us=>
   unfold Mv at h
   simp only [Aa] at h
   obtain ⟨r1,e1,l1,_,h1,⟨r2,e2,l2,_,h2,h3,rfl⟩,rfl⟩:=h
   rw [Ac] at h3
   obtain ⟨rfl,rfl,rfl⟩:=h3
   have hk0: ∀k∈Ap vv,K k:=fun k hm=>hk k (by rw [List.flatMap_cons];exact List.mem_append_left _ hm)
   have hk1: ∀k∈vvs.flatMap Ap,K k:=fun k hm=>hk k (by rw [List.flatMap_cons];exact List.mem_append_right _ hm)
   simp only [List.all_cons,Bool.and_eq_true] at hs
   cases hp:p.Afs with
   | false=>
    rw [Acp hp] at hd
    rw [Ahc hp] at hKS
    obtain ⟨xs,L1,p1,p2,p3,p4⟩:=Aji G (Ajb h1 hs.1 hp) hl.left hg hk0 hv.1 (.inr rfl)
    obtain ⟨ys,L2,q1,q2,q3,q4⟩:=Td p2.Bu h2 hl.right.left (by rw [p2.gs];exact hg) hk1 (p2.later.N7 hk1 hv.2) hs.2 hd (fun k hk e t c ho=>hKS k hk e t c (p2.Dc k _ ho rfl))
    refine ⟨xs++ys,L1++L2,Ea p1 q1,p2.trans q2,⟨xs,ys,L1,L2,rfl,rfl,p3.weaken fun b hb ho=>⟨rfl,?_⟩,q3.weaken fun b hb ho=>?_⟩,_,_,rfl,p4,q4⟩
    ·rcases ho.1 with ho | ho
     ·exact .inl (.inl ho)
     ·rcases List.mem_append.1 ho with ho | ho
      ·exact .inl (.inr ho)
      ·exact .inr (q2.own b ho)
    ·exact ⟨by simpa [or_assoc] using ho.1,ho.2⟩
   | true=>
    cases p with
    | data t=>
     unfold Aqp at h1
     simp only [Aa,Ac] at h1
     obtain ⟨x,e1',l1',_,h1,⟨rfl,rfl,rfl⟩,rfl⟩:=h1
     obtain ⟨p1,p2,p3⟩:=Dw G h1 (by simpa using hl.left) hg hk0 hv.1
     have hd0:(∃l,vv= .leaf l)∨Ap vv= []:=by
      cases vv with
      | leaf l=>exact .inl ⟨l,rfl⟩
      | agg t' cs=>right;simp only [Ko,Bool.and_eq_true,List.isEmpty_iff] at hd;exact hd.1
     have hd1:Ko ps vvs=true:=by
      cases vv with
      | leaf l=>exact hd
      | agg t' cs=>simp only [Ko,Bool.and_eq_true] at hd;exact hd.2
     obtain ⟨iv,d1,d2⟩:=Agx (KS:=KS) G h1 (by simpa using hl.left) hg hk0 hv.1 (fun k hk e t c ho=>hKS k (by simp only [X9];exact List.mem_append_left _ hk) e t c ho) hd0
     obtain ⟨ys,L2,q1,q2,q3,q4⟩:=Td p1.Bu h2 hl.right.left (by rw [p1.gs];exact hg) hk1 (p1.later.N7 hk1 hv.2) hs.2 hd1 (fun k hk e t c ho=>hKS k (by simp only [X9];exact List.mem_append_right _ hk) e t c (p1.Dc k _ ho rfl))
     have q2':=p1.Aba.trans (q2.congr fun b=>by simp)
     refine ⟨[iv]++ys,[]++L2,Ea (Ed d1 rfl) q1,q2',⟨[iv],ys,[],L2,rfl,rfl,⟨iv,rfl,rfl,d2.weaken fun b hb ho=>⟨ho.1.imp id fun h=>p1.Dc.wr (q2.own b (by simpa using h)),ho.2⟩⟩,by simpa using q3⟩,_,_,rfl,rfl,q4⟩
    | _=>cases hp
 | [],_::_,X,es,es',r,ls,us,G,h,hl,hg,hk,hv,hs,hd,hKS=>by simp [Mv,Ad] at h
 | _::_,[],X,es,es',r,ls,us,G,h,hl,hg,hk,hv,hs,hd,hKS=>by simp [Mv,Ad] at h
theorem O9: ∀ {ks r:List Nat} {es es':ES} {ls:List PLt},Ev S (Nd ks) es r es' ls→es=es'∧ls= []∧ ∀k∈ks,∀e t c,cur S es.obs k=some (.arr e t c)→k∈r
 | [],r,es,es',ls,h=>by
  unfold Nd at h
  rw [Ac] at h
  exact ⟨h.2.1,h.2.2,by simp⟩
 | k::ks,r,es,es',ls,h=>by
  unfold Nd at h
  rw [Aa] at h
  obtain ⟨o,e1,l1,l2,h0,h,rfl⟩:=h
  obtain ⟨ho,rfl,rfl⟩:=Be.1 h0
  have other:Ev S (Nd ks) es r es' l2→(∀e t c,o≠ .arr e t c)→es=es'∧ []++l2= []∧ ∀k'∈k::ks,∀e t c,cur S es.obs k'=some (.arr e t c)→k'∈r:=by
   intro h hne
   obtain ⟨q1,q2,q3⟩:=O9 h
   refine ⟨q1,by simp [q2],fun k' hk' e t c hc=>?_⟩
   rcases List.mem_cons.1 hk' with rfl | hk'
   ·rw [ho] at hc;injection hc with hc;exact absurd hc (hne _ _ _)
   ·exact q3 k' hk' e t c hc
  cases o with
  | arr e t c=>
   simp only at h
   rw [Aa] at h
   obtain ⟨r',e2,l3,l4,h1,h2,rfl⟩:=h
   obtain ⟨rfl,e21,h2⟩:=Ac.1 h2
   obtain ⟨e12,hl3,q3⟩:=O9 h1
   refine ⟨e12.trans e21,by simp [h2,hl3],fun k' hk' e t c hc=>?_⟩
   rcases List.mem_cons.1 hk' with rfl | hk'
   ·exact List.mem_cons_self
   ·exact List.mem_cons_of_mem _ (q3 k' hk' e t c hc)
  | box=>exact other h (by intros;simp)
  | frz=>exact other h (by intros;simp)
  | iter=>exact other h (by intros;simp)
  | mp=>exact other h (by intros;simp)
theorem K3 {X0:Nat→Prop} {es0:ES} {L:List Nat} (d:Lw P N X0 ρ K S μ a w L es0 es): ∀ {ks:List Nat} {es':ES} {ls:List PLt} {u:Unit},Ev S (Kx ks) es u es' ls→es=es'∧ls= []∧ ∀k∈ks,∀b,blk (μ k)=some b→b∉L
 | [],es',ls,u,h=>by
  unfold Kx at h
  rw [Ac] at h
  exact ⟨h.2.1,h.2.2,by simp⟩
 | k::ks,es',ls,u,h=>by
  unfold Kx at h
  rw [Aa] at h
  obtain ⟨o,e1,l1,l2,h0,h,rfl⟩:=h
  obtain ⟨ho,rfl,rfl⟩:=Be.1 h0
  cases o with
  | arr e t c=>
   obtain ⟨q1,q2,q3⟩:=K3 d h
   refine ⟨q1,by simp [q2],fun k' hk' b hb=>?_⟩
   rcases List.mem_cons.1 hk' with rfl | hk'
   ·exact fun hL=>d.Bu.xsep _ _ b ho rfl hb (.inr hL)
   ·exact q3 k' hk' b hb
  | box=>simp [Ad] at h
  | frz=>simp [Ad] at h
  | iter=>simp [Ad] at h
  | mp=>simp [Ad] at h
theorem X3 {X0:Nat→Prop} {es0:ES} {L:List Nat} {p:PV} {v:Value} {u:Unit} (d:Lw P N X0 ρ K S μ a w L es0 es) (h:Ev S (Ad8 p) es u es' ls) (hv:Xz (A6 P X0 ρ (cur S es0.obs) μ w) p v):
  es=es'∧ls= []∧ ∀ad,v= .pointer (some ad)→ad.block∉L:=by
 unfold Ad8 at h
 cases p with
 | p k off=>
  simp only at h
  rw [Aa] at h
  obtain ⟨o,_,_,l2,h0,h,rfl⟩:=h
  rw [Be] at h0
  obtain ⟨ho,rfl,rfl⟩:=h0
  cases o with
  | arr=>simp [Ad] at h
  | frz=>simp [Ad] at h
  | iter=>simp [Ad] at h
  | mp=>simp [Ad] at h
  | box t0 vv=>
   rw [Ac] at h
   obtain ⟨_,rfl,rfl⟩:=h
   refine ⟨rfl,rfl,fun ad hv' hL=>?_⟩
   obtain ⟨b,r1,r2⟩:=hv
   have r1':μ k= .pointer (some ⟨b,0,none⟩):=r1
   rw [hv'] at r2;injection r2 with r2;injection r2 with r2
   subst r2
   rw [Cw] at hL
   exact d.Bu.xsep k _ b ho rfl (by rw [r1'];rfl) (.inr hL)
 | im x t off=>
  simp only at h
  rw [Ac] at h
  obtain ⟨_,rfl,rfl⟩:=h
  refine ⟨rfl,rfl,fun ad hv' hL=>?_⟩
  obtain ⟨ad',u,r3,r4,r5,r6,r7⟩:=hv
  rw [hv'] at r7;injection r7 with r7;injection r7 with r7
  subst r7
  rw [Cw] at hL
  exact r6 (d.own _ hL)
 | el k e i off=>simp [Ad] at h
theorem Md.apart {O Lt:Nat→Prop} {t:TypeId} {x:IV} {v:Value} (h:Md P w O (fun _=>False) t x v) (hL: ∀ad,v= .pointer (some ad)→ ¬ Lt ad.block):Md P w O Lt t x v:=
 let ⟨ad,u,h1,h2,h3,_,h5⟩:=h; ⟨ad,u,h1,h2,h3,hL ad h1,h5⟩
theorem Vh {X0:Nat→Prop} {es0:ES} {L:List Nat} {O:Nat→Prop} (d:Lw P N X0 ρ K S μ a w L es0 es): ∀ {ps:List PV} {ts:List TypeId} {xs:List IV} {vs:List Value} {es':ES} {ls:List PLt} {u:Unit},Ev S (Sr ps) es u es' ls→Kk (A6 P X0 ρ (cur S es0.obs) μ w) ps vs→
  Ge P w O (fun _=>False) ts xs vs→es=es'∧ls= []∧Ge P w O (· ∈L) ts xs vs
 | [],ts,xs,vs,es',ls,u,h,hv,hc=>by
  unfold Sr at h
  rw [Ac] at h
  obtain ⟨_,rfl,rfl⟩:=h
  cases vs with
  | cons=>exact hv.elim
  | nil=>exact ⟨rfl,rfl,by cases ts<;>cases xs<;>simp_all [Ge]⟩
 | p::ps,ts,xs,vs,es',ls,u,h,hv,hc=>by
  cases vs with
  | nil=>exact hv.elim
  | cons v vs=>
   unfold Sr at h
   rw [Aa] at h
   obtain ⟨_,e1,l1,l2,h1,h2,rfl⟩:=h
   obtain ⟨rfl,rfl,q⟩:=X3 d h1 hv.1
   cases ts with
   | nil=>cases xs<;>exact hc.elim
   | cons t ts=>
    cases xs with
    | nil=>exact hc.elim
    | cons x xs=>
     obtain ⟨rfl,rfl,r⟩:=Vh d h2 hv.2 hc.2
     exact ⟨rfl,rfl,hc.1.apart q,r⟩
theorem Al7 {X0:Nat→Prop} {es0:ES} {L L1:List Nat} {O:Nat→Prop} {p:PS} {vv:VV} {v:Value} {xs:List IV} {u:Unit} (d:Lw P N X0 ρ K S μ a w L es0 es) (h:Ev S (Ak3 p vv) es u es' ls) (hv:Ki (A6 P X0 ρ (cur S es0.obs) μ w) vv v)
  (hc:ArgRel P w O (fun _=>False) p xs v L1):es=es'∧ls= []∧ArgRel P w O (· ∈L) p xs v L1:=by
 unfold Ak3 at h
 cases p with
 | rd t=>
  simp only at h
  split at h
  ·obtain ⟨rfl,rfl,q⟩:=X3 d h hv
   obtain ⟨x,h1,h2,h3⟩:=hc
   exact ⟨rfl,rfl,x,h1,h2,h3.apart q⟩
  ·simp [Ad] at h
 | fn f ts=>
  simp only at h
  split at h
  ·obtain ⟨vs,rfl,hps⟩:=hv
   obtain ⟨vs',h1,h2,h3⟩:=hc
   injection h1 with i1 _ h1
   injection i1 with i1
   subst h1;subst i1
   obtain ⟨rfl,rfl,q⟩:=Vh d h hps h3
   exact ⟨rfl,rfl,vs,rfl,h2,q⟩
  ·simp [Ad] at h
 | data t=>rw [Ac] at h;obtain ⟨_,rfl,rfl⟩:=h;exact ⟨rfl,rfl,hc⟩
 | fnb f n=>rw [Ac] at h;obtain ⟨_,rfl,rfl⟩:=h;exact ⟨rfl,rfl,hc⟩
 | arr t=>rw [Ac] at h;obtain ⟨_,rfl,rfl⟩:=h;exact ⟨rfl,rfl,hc⟩
 | own t=>rw [Ac] at h;obtain ⟨_,rfl,rfl⟩:=h;exact ⟨rfl,rfl,hc⟩
 | box t bs=>rw [Ac] at h;obtain ⟨_,rfl,rfl⟩:=h;exact ⟨rfl,rfl,hc⟩
 | bld t bk=>rw [Ac] at h;obtain ⟨_,rfl,rfl⟩:=h;exact ⟨rfl,rfl,hc⟩
theorem Ae5 {X0:Nat→Prop} {es0:ES} {L:List Nat} {O:Nat→Prop} (d:Lw P N X0 ρ K S μ a w L es0 es): ∀ {ps:List PS} {vvs:List VV} {xs:List IV} {vs:List Value} {L1:List Nat} {es':ES} {ls:List PLt} {u:Unit},Ev S (still ps vvs) es u es' ls→
  Dy (A6 P X0 ρ (cur S es0.obs) μ w) vvs vs→Dg P w O (fun _=>False) ps xs vs L1→es=es'∧ls= []∧Dg P w O (· ∈L) ps xs vs L1
 | [],[],xs,vs,L1,es',ls,u,h,hv,hc=>by
  unfold still at h
  rw [Ac] at h
  obtain ⟨_,rfl,rfl⟩:=h
  cases vs with
  | cons=>exact hv.elim
  | nil=>exact ⟨rfl,rfl,hc⟩
 | p::ps,vv::vvs,xs,vs,L1,es',ls,u,h,hv,hc=>by
  cases vs with
  | nil=>exact hv.elim
  | cons v vs=>
   unfold still at h
   rw [Aa] at h
   obtain ⟨_,e1,l1,l2,h1,h2,rfl⟩:=h
   obtain ⟨ys,zs,La,Lb,rfl,rfl,c1,c2⟩:=hc
   obtain ⟨rfl,rfl,q⟩:=Al7 d h1 hv.1 c1
   obtain ⟨rfl,rfl,r⟩:=Ae5 d h2 hv.2 c2
   exact ⟨rfl,rfl,ys,zs,La,Lb,rfl,rfl,q,r⟩
 | [],_::_,xs,vs,L1,es',ls,u,h,hv,hc=>by simp [still,Ad] at h
 | _::_,[],xs,vs,L1,es',ls,u,h,hv,hc=>by simp [still,Ad] at h
end
end Go.CT
namespace Go.CT
open EM
structure Reg (c:Cx) (K:Nat→Prop) (tm:Nat→SV) (ob:Nat→Option Ob) (a:Act) (Rm:Nat→Prop):Prop where
 wo: ∀b,c.W b→c.O b
 slot: ∀s,Amk c (tm s) (a.tmps.getD s undef)
 obj: ∀k o,ob k=some o→Y0 c k o
 sep: ∀k k' o o' b,ob k=some o→ob k'=some o'→o.Dn=true→o'.Dn=true→blk (c.μ k)=some b→blk (c.μ k')=some b→k=k'
 rest: ∀k o b,ob k=some o→o.Dn=true→blk (c.μ k)=some b→ ¬ Rm b∧c.W b
 kt: ∀s k,k∈Br (tm s).x →K k
 ko: ∀k o,ob k=some o→K k∧ ∀k'∈Ee o,K k'
def Cx.at (c:Cx) (μ:Nat→Value):Cx:= {c with μ}
theorem Cx.later {c:Cx} {K:Nat→Prop} {μ:Nat→Value} (wo: ∀b,c.W b→c.O b) (h: ∀k,K k→μ k=c.μ k):C0 K c (c.at μ):=
 {P:=rfl,ρ:=fun _ _ h=>h,μ:=h,stays:=I8.refl _ _,O:=fun _ _ h=>h,W:=fun _ _ h=>h,WO:=wo}
section
variable {P:Program} {N:Nat} {X:Nat→Prop} {R:Job→List IV→Option (List IV)} {ρ:List IV} {K:Nat→Prop} {S:View} {μ:Nat→Value} {a:Act} {w:World} {es es':ES} {ls:List PLt} {sx:SX}
 {tm:Nat→SV} {ob:Nat→Option Ob} {c:Cx} {Rm:Nat→Prop}
theorem Reg.put (G:Reg c K tm ob a Rm) {k:Nat} {o:Ob} {hdr:Value} {K' Rm':Nat→Prop} (hk:K k→c.μ k=hdr) (hb: ∀b,blk hdr=some b→Rm b∧c.W b∧ ¬ Rm' b) (hRm: ∀b,Rm' b→Rm b)
  (hK: ∀k',K k'∨k'=k→K' k') (hok:Y0 (c.at (Cu c.μ k hdr)) k o) (hkeys: ∀k'∈Ee o,K' k'):
  Reg (c.at (Cu c.μ k hdr)) K' tm (A9 ob k (some o)) a Rm':=by
 have hμ: ∀k',K k'→Cu c.μ k hdr k'=c.μ k':=by
  intro k' hk'
  unfold Cu
  split
  ·rename_i e;subst e;exact (hk hk').symm
  ·rfl
 have L:C0 K c (c.at (Cu c.μ k hdr)):=Cx.later G.wo hμ
 have old: ∀k' o',A9 ob k (some o) k'=some o'→(k'=k∧o'=o)∨(k'≠k∧ob k'=some o'):=by
  intro k' o' h
  unfold A9 at h
  split at h
  ·rename_i e;injection h with h;exact .inl ⟨e,h.symm⟩
  ·rename_i e;exact .inr ⟨e,h⟩
 have hne: ∀k' o' b,k'≠k→ob k'=some o'→o'.Dn=true→blk (Cu c.μ k hdr k')=some b→ ¬ Rm b∧c.W b:=by
  intro k' o' b h1 h2 h3 h4
  rw [Cf h1] at h4
  exact G.rest k' o' b h2 h3 h4
 refine ⟨G.wo,fun s=>L.Ajn (G.kt s) (G.slot s),fun k' o' h=>?_,fun k1 k2 o1 o2 b h1 h2 h3 h4 h5 h6=>?_,fun k' o' b h1 h2 h3=>?_,fun s k' h=>hK k' (.inl (G.kt s k' h)),fun k' o' h=>?_⟩
 ·rcases old k' o' h with ⟨rfl,rfl⟩ | ⟨h1,h2⟩
  ·exact hok
  ·exact L.Aa7 (G.ko k' o' h2).1 (G.ko k' o' h2).2 (fun _ _ _ _=>rfl) (G.obj k' o' h2)
 ·have h5:blk (Cu c.μ k hdr k1)=some b:=h5
  have h6:blk (Cu c.μ k hdr k2)=some b:=h6
  rcases old k1 o1 h1 with ⟨rfl,rfl⟩ | ⟨q1,q2⟩
  ·rcases old k2 o2 h2 with ⟨rfl,rfl⟩ | ⟨r1,r2⟩
   ·rfl
   ·rw [A4] at h5
    exact absurd (hb b h5).1 (hne k2 o2 b r1 r2 h4 h6).1
  ·rcases old k2 o2 h2 with ⟨rfl,rfl⟩ | ⟨r1,r2⟩
   ·rw [A4] at h6
    exact absurd (hb b h6).1 (hne k1 o1 b q1 q2 h3 h5).1
   ·rw [Cf q1] at h5;rw [Cf r1] at h6
    exact G.sep k1 k2 o1 o2 b q2 r2 h3 h4 h5 h6
 ·have h3:blk (Cu c.μ k hdr k')=some b:=h3
  rcases old k' o' h1 with ⟨rfl,rfl⟩ | ⟨q1,q2⟩
  ·rw [A4] at h3
   exact ⟨(hb b h3).2.2,(hb b h3).2.1⟩
  ·have:=hne k' o' b q1 q2 h2 h3
   exact ⟨fun h=>this.1 (hRm b h),this.2⟩
 ·rcases old k' o' h with ⟨rfl,rfl⟩ | ⟨h1,h2⟩
  ·exact ⟨hK _ (.inr rfl),hkeys⟩
  ·exact ⟨hK _ (.inl (G.ko k' o' h2).1),fun k2 hk2=>hK _ (.inl ((G.ko k' o' h2).2 k2 hk2))⟩
theorem Reg.keys (G:Reg c K tm ob a Rm) {K' Rm':Nat→Prop} (hK: ∀k,K k→K' k) (hR: ∀b,Rm' b→Rm b):Reg c K' tm ob a Rm':=
 ⟨G.wo,G.slot,G.obj,G.sep,fun k o b h1 h2 h3=>⟨fun h=>(G.rest k o b h1 h2 h3).1 (hR b h),(G.rest k o b h1 h2 h3).2⟩,fun s k h=>hK k (G.kt s k h),fun k o h=>⟨hK k (G.ko k o h).1,fun k' h'=>hK k' ((G.ko k o h).2 k' h')⟩⟩
theorem Hd {P:Program} : ∀ {bs:List Bool} {ts:List TypeId} {n:Nat} {es es':ES} {lvs:List LV} {ls:List PLt},Ev S (Cg P bs ts n) es lvs es' ls→es.m≤es'.m
 | [],[],n,es,es',lvs,ls,h=>by
  unfold Cg at h
  rw [Ac] at h
  obtain ⟨_,rfl,_⟩:=h
  exact Nat.le_refl _
 | o::bs,t::ts,n,es,es',lvs,ls,h=>by
  cases o with
  | false=>
   unfold Cg at h
   rw [Aa] at h
   obtain ⟨r,e1,l1,_,h1,h2,rfl⟩:=h
   rw [Ac] at h2
   obtain ⟨_,rfl,_⟩:=h2
   exact Hd h1
  | true=>
   unfold Cg at h
   split at h
   ·simp only [Aa,Ha] at h
    obtain ⟨gs,_,_,_,⟨rfl,rfl,rfl⟩,h,rfl⟩:=h
    rw [Gk] at h
    rcases h with ⟨_,h⟩ | ⟨_,h⟩
    ·simp only [Aa,Bp,A5] at h
     obtain ⟨_,_,_,_,⟨rfl,rfl,rfl⟩,⟨_,_,_,_,⟨rfl,rfl⟩,⟨r,e1,l1,_,h2,h3,rfl⟩,rfl⟩,rfl⟩:=h
     rw [Ac] at h3
     obtain ⟨_,rfl,_⟩:=h3
     have:=Hd h2
     exact Nat.le_of_succ_le this
    ·rw [Aa] at h
     obtain ⟨r,e1,l1,_,h1,h2,rfl⟩:=h
     rw [Ac] at h2
     obtain ⟨_,rfl,_⟩:=h2
     exact Hd h1
   ·simp only [Aa,Cy,Ai,Bp,A5] at h
    obtain ⟨_,_,_,_,⟨_,rfl,rfl⟩,⟨kv,_,_,_,⟨_,rfl,rfl⟩,⟨_,_,_,_,⟨rfl,rfl,rfl⟩,⟨_,_,_,_,⟨rfl,rfl⟩,⟨r,e1,l1,_,h2,h3,rfl⟩,rfl⟩,rfl⟩,rfl⟩,rfl⟩:=h
    rw [Ac] at h3
    obtain ⟨_,rfl,_⟩:=h3
    have:=Hd h2
    exact Nat.le_of_succ_le this
 | [],_::_,n,es,es',lvs,ls,h=>by simp [Cg,Ad] at h
 | _::_,[],n,es,es',lvs,ls,h=>by simp [Cg,Ad] at h
theorem Pr: ∀ {bs:List Bool} {ts:List TypeId} {xs:List IV} {vs:List Value} {L:List Nat} {n:Nat} {es es':ES} {lvs:List LV} {ls:List PLt} {c:Cx} {K Rm:Nat→Prop},es.gs= []→Ev S (Cg c.P bs ts n) es lvs es' ls→
  Bd c.P c.w c.O bs ts xs vs L→(∀t∈ts,Ag c.P t=false)→L.Nodup→(∀b∈L,Rm b∧c.W b)→Reg c K S.tm (cur S es.obs) a Rm→(∀i,i<xs.length→c.ρ[n+i]?=xs[i]?)→(∀k,es.m≤k→k<es'.m→ ¬ K k)→
  ls= []∧es'.n=es.n∧es'.gs=es.gs∧es.m≤es'.m∧ ∃μ',(∀k,K k→μ' k=c.μ k)∧Reg (c.at μ') (Al K es.m es'.m) S.tm (cur S es'.obs) a (fun b=>Rm b∧b∉L)∧C6 (c.at μ') lvs vs∧ ∀k∈lvs.flatMap As,Al K es.m es'.m k
 | [],[],xs,vs,L,n,es,es',lvs,ls,c,K,Rm,hg,h,hc,hf,hn,hL,G,hρ,hfr=>by
  unfold Cg at h
  rw [Ac] at h
  obtain ⟨rfl,rfl,rfl⟩:=h
  cases xs with
  | cons=>cases vs<;>exact hc.elim
  | nil=>
   cases vs with
   | cons=>exact hc.elim
   | nil=>exact ⟨rfl,rfl,rfl,Nat.le_refl _,c.μ,fun _ _=>rfl,G.keys (fun k h=> .inl h) (fun b h=>h.1),trivial,by simp⟩
 | o::bs,t::ts,xs,vs,L,n,es,es',lvs,ls,c,K,Rm,hg,h,hc,hf,hn,hL,G,hρ,hfr=>by
  cases xs with
  | nil=>cases o<;>exact hc.elim
  | cons x xs=>
  cases vs with
  | nil=>cases o<;>exact hc.elim
  | cons v vs=>
  have hf': ∀t∈ts,Ag c.P t=false:=fun t h=>hf t (List.mem_cons_of_mem _ h)
  have hρ0:c.ρ[n]?=some x:=by simpa using hρ 0 (by simp)
  have hρ1: ∀i,i<xs.length→c.ρ[n+1+i]?=xs[i]?:=fun i hi=>by
   have:=hρ (i+1) (by simpa using hi)
   simpa [Nat.add_assoc,Nat.add_comm 1 i] using this
  cases o with
  | false=>
   obtain ⟨c1,c2⟩:=hc
   unfold Cg at h
   rw [Aa] at h
   obtain ⟨r,e1,l1,_,h1,h2,rfl⟩:=h
   rw [Ac] at h2
   obtain ⟨rfl,rfl,rfl⟩:=h2
   obtain ⟨rfl,q1,q2,q3,μ',q4,q5,q6,q7⟩:=Pr hg h1 c2 hf' hn hL G hρ1 hfr
   refine ⟨rfl,q1,q2,q3,μ',q4,q5,⟨⟨(c1.one (hf t List.mem_cons_self)).1,⟨x,hρ0,c1⟩⟩,q6⟩,fun k hk=>?_⟩
   rw [List.flatMap_cons] at hk
   rcases List.mem_append.1 hk with hk | hk
   ·simp [As] at hk
   ·exact q7 k hk
  | true=>
   obtain ⟨L',⟨ys,rfl,hcase⟩,c2,rfl⟩:=hc
   -- what the object is, and how it is told
   obtain ⟨o,lv,e1,r,l1,rfl,hb,hok,hlr,hkl,h2,h3⟩: ∃ (o:Ob) (lv:LV) (e1:ES) (r:List LV) (l1:List PLt),ls=l1∧(∀b,blk v=some b→True)∧
     (∀μ,μ es.m=v→Y0 (c.at μ) es.m o∧Ee o= [])∧(∀c':Cx,c'.μ es.m=v→Aw8 c' lv v)∧As lv= [es.m]∧
     Ev S (Cg c.P bs ts (n+1)) {es with m:=es.m+1,obs:=(es.m,some o)::es.obs} r e1 l1∧lvs=lv::r∧e1=es':=by
    unfold Cg at h
    rcases hcase with ⟨e,ht,⟨hs,cs,hrow,hel,hone⟩⟩ | ⟨kt,vt,ht,rr,cl,ents,rfl,m2,m3,m4⟩
    ·have he:Cz c.P t=some e:=by simp [Cz,ht]
     simp only [he,Aa,Ha] at h
     obtain ⟨gs,_,_,_,⟨rfl,rfl,rfl⟩,h,rfl⟩:=h
     rw [hg] at h
     simp only [List.isEmpty_nil,if_true,Aa,Bp,A5] at h
     obtain ⟨_,_,_,_,⟨rfl,rfl,rfl⟩,⟨_,_,_,_,⟨rfl,rfl⟩,⟨r,e1,l1,_,h2,h3,rfl⟩,rfl⟩,rfl⟩:=h
     rw [Ac] at h3
     obtain ⟨rfl,rfl,rfl⟩:=h3
     obtain ⟨_,_,A,nn,cap,rfl⟩:=Iu hrow
     refine ⟨.arr e t (.v n),.ref es.m t,e1,r,l1,by simp,fun _ _=>trivial,fun μ hμ=>⟨⟨ys,cs,hρ0,ht,hs,?_,hel,hone⟩,rfl⟩,fun c' hc'=>⟨rfl,hc'.symm,A,nn,cap,rfl⟩,rfl,h2,rfl,rfl⟩
     show c.w.ownsRow 0 e (Af c.P e) (μ es.m) ys.length cs
     rw [hμ];exact hrow
    ·have he:Cz c.P t=none:=by simp [Cz,ht]
     simp only [he,Aa,Cy,Ai,Bp,A5] at h
     obtain ⟨_,_,_,_,⟨_,rfl,rfl⟩,⟨kv,_,_,_,⟨hkv,rfl,rfl⟩,⟨_,_,_,_,⟨rfl,rfl,rfl⟩,⟨_,_,_,_,⟨rfl,rfl⟩,⟨r,e1,l1,_,h2,h3,rfl⟩,rfl⟩,rfl⟩,rfl⟩,rfl⟩:=h
     rw [Ac] at h3
     obtain ⟨rfl,rfl,rfl⟩:=h3
     have hkv':=Mw hkv
     rw [ht] at hkv';injection hkv' with hkv';injection hkv' with i1 i2
     subst i1;subst i2
     exact ⟨.mp t kv.1 kv.2 (.v n),.mref es.m t,e1,r,l1,by simp,fun _ _=>trivial,fun μ hμ=>⟨⟨rr,cl,ents,ys,hμ,m2,ht,m3,hρ0,m4⟩,rfl⟩,fun c' hc'=>⟨rfl,hc'.symm,rr,rfl⟩,rfl,h2,rfl,rfl⟩
   obtain ⟨rfl,rfl⟩:=h3
   have hm1:es.m+1≤e1.m:=Hd h2
   have hKk: ¬ K es.m:=hfr es.m (Nat.le_refl _) (by omega)
   rw [List.nodup_append] at hn
   obtain ⟨hn1,hn2,hn3⟩:=hn
   have G1:Reg (c.at (Cu c.μ es.m v)) (Al K es.m (es.m+1)) S.tm (cur S ((es.m,some o)::es.obs)) a (fun b=>Rm b∧b∉(blk v).toList):=by
    rw [A7]
    refine G.put (fun h=>absurd h hKk) (fun b hb=>?_) (fun b h=>h.1) (fun k' h=>h.elim .inl fun h=> .inr (by omega)) (hok _ A4).1 (fun k' h=>by rw [(hok (Cu c.μ es.m v) A4).2] at h;cases h)
    have hbL:b∈(blk v).toList :=by simp [hb]
    have:=hL b (List.mem_append_left _ hbL)
    exact ⟨this.1,this.2,fun h=>h.2 hbL⟩
   obtain ⟨rfl,q1,q2,q3,μ',q4,q5,q6,q7⟩:=Pr (c:=c.at (Cu c.μ es.m v)) (es:= {es with m:=es.m+1,obs:=(es.m,some o)::es.obs}) hg h2 c2 hf' hn2
    (fun b hb=>⟨⟨(hL b (List.mem_append_right _ hb)).1,fun h=>hn3 b h b hb rfl⟩,(hL b (List.mem_append_right _ hb)).2⟩) G1 hρ1 (fun k h1 h2 hk=>by
     have h1:es.m+1≤k:=h1
     rcases hk with hk | hk
     ·exact hfr k (by omega) h2 hk
     ·omega)
   have hμk:μ' es.m=v:=by
    have:=q4 es.m (.inr ⟨Nat.le_refl _,Nat.lt_succ_self _⟩)
    rw [this];show Cu c.μ es.m _ es.m=_;rw [A4]
   have hw: ∀k,Al (Al K es.m (es.m+1)) (es.m+1) e1.m k→Al K es.m e1.m k:=by
    rintro k ((h | h) | h)
    ·exact .inl h
    ·exact .inr (by omega)
    ·exact .inr (by omega)
   refine ⟨rfl,q1,q2,Nat.le_of_succ_le hm1,μ',fun k hk=>?_,q5.keys hw (fun b h=>⟨⟨h.1,fun h'=>h.2 (List.mem_append_left _ h')⟩,fun h'=>h.2 (List.mem_append_right _ h')⟩),⟨hlr (c.at μ') hμk,q6⟩,fun k hk=>?_⟩
   ·have:=q4 k (.inl hk)
    rw [this]
    show Cu c.μ es.m _ k=_
    exact Cf fun e=>hKk (e ▸ hk)
   ·rw [List.flatMap_cons] at hk
    rcases List.mem_append.1 hk with hk | hk
    ·rw [hkl,List.mem_singleton] at hk
     subst hk;exact .inr ⟨Nat.le_refl _,by omega⟩
    ·exact hw k (q7 k hk)
 | [],_::_,xs,vs,L,n,es,es',lvs,ls,c,K,Rm,hg,h,hc,hf,hn,hL,G,hρ,hfr=>by simp [Cg,Ad] at h
 | _::_,[],xs,vs,L,n,es,es',lvs,ls,c,K,Rm,hg,h,hc,hf,hn,hL,G,hρ,hfr=>by simp [Cg,Ad] at h
end
end Go.CT
namespace Go.CT
open EM
section
variable {P:Program} {N:Nat} {X:Nat→Prop} {R:Job→List IV→Option (List IV)} {ρ:List IV} {K:Nat→Prop} {S:View} {μ:Nat→Value} {a:Act} {w:World} {es es':ES} {ls:List PLt} {sx:SX}
 {tm:Nat→SV} {ob:Nat→Option Ob} {c:Cx} {Rm:Nat→Prop}
theorem Al1 {t:TypeId} {lvs:List LV} {vv:VV} {v:Value} (h:Ev S (Aml c.P t lvs) es vv es' ls) (hv:if Ag c.P t then ∃cs,v= .agg cs else v.oneCell'=true) (hc:C6 c lvs v.cells.toList):
  es=es'∧ls= []∧Ki c vv v∧(∀k∈Ap vv,k∈lvs.flatMap As):=by
 unfold Aml at h
 by_cases ha:Ag c.P t=true
 ·simp only [ha,if_true,Ac] at h hv
  obtain ⟨rfl,rfl,rfl⟩:=h
  obtain ⟨cs,rfl⟩:=hv
  exact ⟨rfl,rfl,⟨cs,rfl,hc⟩,fun k hk=>hk⟩
 ·have ha':Ag c.P t=false:=by simpa using ha
  simp only [ha',Bool.false_eq_true,if_false] at h hv
  rw [Ew hv] at hc
  split at h
  ·rw [Ac] at h
   obtain ⟨rfl,rfl,rfl⟩:=h
   exact ⟨rfl,rfl,hc.1.2,fun k hk=>by simpa [Ap] using hk⟩
  ·simp [Ad] at h
theorem Bd.len {O:Nat→Prop} : ∀ {bs:List Bool} {ts:List TypeId} {xs:List IV} {vs:List Value} {L:List Nat},Bd P w O bs ts xs vs L→xs.length=bs.length
 | [],[],[],[],_,_=>rfl
 | true::bs,t::ts,x::xs,v::vs,L,h=>by
  obtain ⟨_,_,h,_⟩:=h
  simp [Bd.len h]
 | false::bs,t::ts,x::xs,v::vs,L,h=>by simp [Bd.len h.2]
 | [],[],[],_::_,_,h=>h.elim
 | [],[],_::_,_,_,h=>h.elim
 | [],_::_,_,_,_,h=>h.elim
 | _::_,[],_,_,_,h=>by simp [Bd] at h
 | _::_,_::_,[],_,_,h=>by simp [Bd] at h
 | _::_,_::_,_::_,[],_,h=>by simp [Bd] at h
theorem Bd.one {O:Nat→Prop} : ∀ {bs:List Bool} {ts:List TypeId} {xs:List IV} {vs:List Value} {L:List Nat},Bd P w O bs ts xs vs L→(∀t∈ts,Ag P t=false)→ ∀v∈vs,v.oneCell'=true
 | [],[],[],[],_,_,_=>by simp
 | true::bs,t::ts,x::xs,v::vs,L,h,hf=>by
  obtain ⟨L',⟨ys,h1,hcase⟩,h4,h5⟩:=h
  intro u hu
  rcases List.mem_cons.1 hu with rfl | hu
  ·rcases hcase with ⟨e,h2,_,cs,h3,_⟩ | ⟨kt,vt,_,r,cl,ents,rfl,_⟩
   ·exact (Iu h3).2.1
   ·rfl
  ·exact Bd.one h4 (fun t h=>hf t (List.mem_cons_of_mem _ h)) u hu
 | false::bs,t::ts,x::xs,v::vs,L,h,hf=>by
  intro u hu
  rcases List.mem_cons.1 hu with rfl | hu
  ·exact (h.1.one (hf t List.mem_cons_self)).1
  ·exact Bd.one h.2 (fun t h=>hf t (List.mem_cons_of_mem _ h)) u hu
 | [],[],[],_::_,_,h,_=>h.elim
 | [],[],_::_,_,_,h,_=>h.elim
 | [],_::_,_,_,_,h,_=>h.elim
 | _::_,[],_,_,_,h,_=>by simp [Bd] at h
 | _::_,_::_,[],_,_,h,_=>by simp [Bd] at h
 | _::_,_::_,_::_,[],_,h,_=>by simp [Bd] at h
theorem Akx.mono {K K':Nat→Prop} {μ μ':Nat→Value} (hK: ∀k,K k→K' k) (hμ: ∀k,K k→μ' k=μ k) {p:PS} {u:Value} {l:List Bk} (h:Akx P K μ p u l):Akx P K' μ' p u l:=by
 cases p with
 | box t bs=>obtain ⟨k,h1,h2,h3⟩:=h;exact ⟨k,h1,hK k h2,(hμ k h2).trans h3⟩
 | arr t=>obtain ⟨k,e,t',h1,h2,h3,h4⟩:=h;exact ⟨k,e,t',h1,hK k h2,(hμ k h2).trans h3,h4⟩
 | data t=>exact h
 | own t=>exact h
 | fn f ts=>exact h
 | fnb f n=>exact h
 | rd t=>exact h
 | bld t bk=>obtain ⟨k,st,e,h1,h2,h3,h4⟩:=h;exact ⟨k,st,e,h1,h2,hK k h3,(hμ k h3).trans h4⟩
theorem Mg.mono {K K':Nat→Prop} {μ μ':Nat→Value} : ∀ {ps:List PS} {us:List Value} {l:List Bk},Mg P K μ ps us l→(∀k,K k→K' k)→(∀k,K k→μ' k=μ k)→Mg P K' μ' ps us l
 | [],[],_,h,_,_=>h
 | _::_,_::_,_,h,hK,hμ=>by
  obtain ⟨l1,l2,h1,h2,h3⟩:=h
  exact ⟨l1,l2,h1,h2.mono hK hμ,h3.mono hK hμ⟩
 | [],_::_,_,h,_,_=>h.elim
 | _::_,[],_,h,_,_=>h.elim
def Avy (c:Cx) (K:Nat→Prop) (S:View) (a:Act) (Rm:Nat→Prop) (L:List Nat) (es es':ES) (ls:List PLt) (Good':(Nat→Value)→Prop):Prop:=
 ls= []∧es'.n=es.n∧es'.gs=es.gs∧es.m≤es'.m∧ ∃μ',(∀k,K k→μ' k=c.μ k)∧Reg (c.at μ') (Al K es.m es'.m) S.tm (cur S es'.obs) a (fun b=>Rm b∧b∉L)∧Good' μ'
theorem B9 {K:Nat→Prop} {m1 m2 m3:Nat} (h1:m1≤m2) (h2:m2≤m3): ∀k,Al (Al K m1 m2) m2 m3 k→Al K m1 m3 k:=by
 rintro k ((h | h) | h)
 ·exact .inl h
 ·exact .inr (by omega)
 ·exact .inr (by omega)
theorem Nk {xs ys:List IV} {n:Nat} (h: ∀i,i<(xs++ys).length →ρ[n+i]?=(xs++ys)[i]?):(∀i,i<xs.length→ρ[n+i]?=xs[i]?)∧(∀i,i<ys.length→ρ[n+xs.length+i]?=ys[i]?):=by
 refine ⟨fun i hi=>?_,fun i hi=>?_⟩
 ·have:=h i (by simp;omega)
  rwa [List.getElem?_append_left hi] at this
 ·have:=h (xs.length+i) (by simp;omega)
  rw [List.getElem?_append_right (by omega),Nat.add_sub_cancel_left] at this
  rwa [Nat.add_assoc]
theorem Ma.take {t:TypeId} {bs:List Bool} {xs:List IV} {v:Value} {L:List Nat} {n:Nat} {ts:List TypeId} {lvs:List LV} {vv:VV} {e1:ES} {l1 l2:List PLt} (hg:es.gs= []) (hts:leaves c.P t=some ts) (h1:Ev S (Cg c.P bs ts n) es lvs e1 l1) (h2:Ev S (Aml c.P t lvs) e1 vv es' l2)
  (hb:Ma c.P c.w c.O t bs xs v L) (hn:L.Nodup) (hL: ∀b∈L,Rm b∧c.W b) (G:Reg c K S.tm (cur S es.obs) a Rm) (hρ: ∀i,i<xs.length→c.ρ[n+i]?=xs[i]?) (hfr: ∀k,es.m≤k→k<e1.m→ ¬ K k):
  e1=es'∧l2= []∧Avy c K S a Rm L es es' l1 fun μ'=>Ki (c.at μ') vv v∧ ∀k∈Ap vv,Al K es.m es'.m k:=by
 obtain ⟨ts',b1,b2,b3,b4⟩:=hb
 rw [hts] at b1;injection b1 with b1;subst b1
 obtain ⟨rfl,q1,q2,q3,μ',q4,q5,q6,q7⟩:=Pr hg h1 b4 (fun u hu=>by
  obtain ⟨i,hi⟩:=List.mem_iff_getElem?.1 hu
  exact Dq hts i u hi) hn hL G hρ hfr
 obtain ⟨rfl,rfl,r1,r2⟩:=Al1 (c:=c.at μ') h2 b3 q6
 exact ⟨rfl,rfl,rfl,q1,q2,q3,μ',q4,q5,r1,fun k hk=>q7 k (r2 k hk)⟩
theorem Q5 {t:TypeId} {lvs:List LV} {vv:VV} (h:Ev S (Aml P t lvs) es vv es' ls):es=es':=by
 unfold Aml at h
 rw [Gk] at h
 rcases h with ⟨_,h⟩ | ⟨_,h⟩
 ·rw [Ac] at h;exact h.2.1
 ·split at h
  ·rw [Ac] at h;exact h.2.1
  ·simp [Ad] at h
theorem N3: ∀ {bs:List (TypeId × List Bool)} {n:Nat} {es es':ES} {r:List PV × Nat} {ls:List PLt},Ev S (Jq P bs n) es r es' ls→es.m≤es'.m
 | [],n,es,es',r,ls,h=>by
  unfold Jq at h
  rw [Ac] at h
  obtain ⟨_,rfl,_⟩:=h
  exact Nat.le_refl _
 | b::bs,n,es,es',r,ls,h=>by
  unfold Jq at h
  simp only [Aa,Ai,Bp,A5] at h
  obtain ⟨ts,_,_,_,⟨h1,rfl,rfl⟩,⟨lvs,e1,l1,_,h2,⟨vv,e2,l2,_,h3,⟨_,_,_,_,⟨rfl,rfl,rfl⟩,⟨_,_,_,_,⟨rfl,rfl⟩,⟨q,e4,l4,_,h4,h5,rfl⟩,rfl⟩,rfl⟩,rfl⟩,rfl⟩,rfl⟩:=h
  rw [Ac] at h5
  obtain ⟨_,rfl,_⟩:=h5
  have a1:=Hd h2
  have a2:=Q5 h3
  subst a2
  have a3:=N3 h4
  exact Nat.le_trans a1 (Nat.le_of_succ_le a3)
theorem Jm: ∀ {rs:List RS} {n:Nat} {es es':ES} {r:List VV × Nat} {ls:List PLt},Ev S (E1 P rs n) es r es' ls→es.m≤es'.m
 | [],n,es,es',r,ls,h=>by
  unfold E1 at h
  rw [Ac] at h
  obtain ⟨_,rfl,_⟩:=h
  exact Nat.le_refl _
 | .whole t::rs,n,es,es',r,ls,h=>by
  unfold E1 at h
  rw [Aa] at h
  obtain ⟨r,e1,l1,_,h1,h2,rfl⟩:=h
  rw [Ac] at h2
  obtain ⟨_,rfl,_⟩:=h2
  exact Jm h1
 | .clip t::rs,n,es,es',r,ls,h=>by
  unfold E1 at h
  rw [Aa] at h
  obtain ⟨r,e1,l1,_,h1,h2,rfl⟩:=h
  rw [Ac] at h2
  obtain ⟨_,rfl,_⟩:=h2
  exact Jm h1
 | .skip ::rs,n,es,es',r,ls,h=>by
  unfold E1 at h
  rw [Aa] at h
  obtain ⟨r,e1,l1,_,h1,h2,rfl⟩:=h
  rw [Ac] at h2
  obtain ⟨_,rfl,_⟩:=h2
  exact Jm h1
 | .nbox t bs::rs,n,es,es',r,ls,h=>by
  unfold E1 at h
  simp only [Aa,Cy] at h
  obtain ⟨_,_,_,_,⟨_,rfl,rfl⟩,⟨b,e1,l1,_,h1,⟨q,e2,l2,_,h2,h3,rfl⟩,rfl⟩,rfl⟩:=h
  rw [Ac] at h3
  obtain ⟨_,rfl,_⟩:=h3
  exact Nat.le_trans (N3 h1) (Jm h2)
 | .clo f bs::rs,n,es,es',r,ls,h=>by
  unfold E1 at h
  simp only [Aa,Cy] at h
  obtain ⟨_,_,_,_,⟨_,rfl,rfl⟩,⟨b,e1,l1,_,h1,⟨q,e2,l2,_,h2,h3,rfl⟩,rfl⟩,rfl⟩:=h
  rw [Ac] at h3
  obtain ⟨_,rfl,_⟩:=h3
  exact Nat.le_trans (N3 h1) (Jm h2)
 | .cells t bs::rs,n,es,es',r,ls,h=>by
  unfold E1 at h
  simp only [Aa,Ai] at h
  obtain ⟨ts,_,_,_,⟨h1,rfl,rfl⟩,⟨lvs,e1,l1,_,h2,⟨vv,e2,l2,_,h3,⟨q,e3,l3,_,h4,h5,rfl⟩,rfl⟩,rfl⟩,rfl⟩:=h
  rw [Ac] at h5
  obtain ⟨_,rfl,_⟩:=h5
  have a1:=Hd h2
  have a2:=Jm h4
  have a3:e1.m=e2.m:=by
   unfold Aml at h3
   rw [Gk] at h3
   rcases h3 with ⟨_,h3⟩ | ⟨_,h3⟩
   ·rw [Ac] at h3;obtain ⟨_,rfl,_⟩:=h3;rfl
   ·split at h3
    ·rw [Ac] at h3;obtain ⟨_,rfl,_⟩:=h3;rfl
    ·simp [Ad] at h3
  omega
theorem Dy.append {c:Cx} : ∀ {xs ys:List VV} {us vs:List Value},Dy c xs us→Dy c ys vs→Dy c (xs++ys) (us++vs)
 | [],_,[],_,_,h=>h
 | _::_,_,_::_,_,h,h'=>⟨h.1,Dy.append h.2 h'⟩
 | [],_,_::_,_,h,_=>h.elim
 | _::_,_,[],_,h,_=>h.elim
theorem Kk.N7 {c:Cx} : ∀ {ps:List PV} {vs:List Value},Kk c ps vs→Dy c (ps.map Af6) vs
 | [],[],_=>trivial
 | _::_,_::_,h=>⟨h.1,Kk.N7 h.2⟩
 | [],_::_,h=>h.elim
 | _::_,[],h=>h.elim
theorem Nn (ps:List PV):(ps.map Af6).flatMap Ap=ps.flatMap Cv:=by
 induction ps with
 | nil=>rfl
 | cons p ps ih=>simp [Af6,Ap,As] at ih ⊢;exact ih
theorem Ma.ones {O:Nat→Prop} {t:TypeId} {bs:List Bool} {xs:List IV} {v:Value} {L:List Nat} (h:Ma P w O t bs xs v L): ∀u∈v.cells,u.oneCell'=true:=by
 obtain ⟨ts',c1,c2,c3,c4⟩:=h
 have:=c4.one (fun u hu=>by
  obtain ⟨i,hi⟩:=List.mem_iff_getElem?.1 hu
  exact Dq c1 i u hi)
 exact fun z hz=>this z (by simpa using hz)
theorem O2: ∀ {bs:List (TypeId × List Bool)} {xs:List IV} {vs:List Value} {L:List Nat} {n:Nat} {es es':ES} {r:List PV × Nat} {ls:List PLt} {c:Cx} {K Rm:Nat→Prop},es.gs= []→Ev S (Jq c.P bs n) es r es' ls→
  Gv c.P c.w c.O bs xs vs L→L.Nodup→(∀b∈L,Rm b∧c.W b)→Reg c K S.tm (cur S es.obs) a Rm→(∀i,i<xs.length→c.ρ[n+i]?=xs[i]?)→(∀k,es.m≤k→k<es'.m→ ¬ K k)→
  Avy c K S a Rm L es es' ls fun μ'=>Kk (c.at μ') r.1 vs∧(∀k∈r.1.flatMap Cv,Al K es.m es'.m k)∧r.2=n+xs.length
 | [],xs,vs,L,n,es,es',r,ls,c,K,Rm,hg,h,hr,hn,hL,G,hρ,hfr=>by
  unfold Jq at h
  rw [Ac] at h
  obtain ⟨rfl,rfl,rfl⟩:=h
  cases vs with
  | cons=>exact hr.elim
  | nil=>
   obtain ⟨rfl,rfl⟩:=hr
   exact ⟨rfl,rfl,rfl,Nat.le_refl _,c.μ,fun _ _=>rfl,G.keys (fun k h=> .inl h) (fun b h=>h.1),trivial,by simp,rfl⟩
 | tb::bs,xs,vs,L,n,es,es',r,ls,c,K,Rm,hg,h,hr,hn,hL,G,hρ,hfr=>by
  cases vs with
  | nil=>exact hr.elim
  | cons v vs=>
   obtain ⟨ys,zs,L1,L2,rfl,rfl,⟨b,uv,L',rfl,r1,r2,rfl⟩,r6⟩:=hr
   unfold Jq at h
   simp only [Aa,Ai,Bp,A5] at h
   obtain ⟨ts,_,_,_,⟨h1,rfl,rfl⟩,⟨lvs,e1,l1,_,h2,⟨vv,e2,l2,_,h3,⟨_,_,_,_,⟨rfl,rfl,rfl⟩,⟨_,_,_,_,⟨rfl,rfl⟩,⟨q,e4,l4,_,h4,h5,rfl⟩,rfl⟩,rfl⟩,rfl⟩,rfl⟩,rfl⟩:=h
   rw [Ac] at h5
   obtain ⟨rfl,rfl,rfl⟩:=h5
   obtain ⟨p1,p2⟩:=Nk hρ
   rw [List.nodup_append] at hn
   obtain ⟨hn1,hn2,hn3⟩:=hn
   rw [List.nodup_cons] at hn1
   have hm4:e2.m+1≤e4.m:=N3 h4
   have e12:=Q5 h3
   subst e12
   obtain ⟨_,rfl,rfl,a1,a2,a3,μ1,a4,a5,a6,a7⟩:=r2.take hg h1 h2 h3 hn1.2 (fun b' hb=>hL b' (by simp [hb])) G p1 (fun k' k1 k2=>hfr k' k1 (by omega))
   have hlen:ys.length=tb.2.length:=by
    obtain ⟨_,_,_,_,hcc⟩:=r2
    exact hcc.len
   have hone:=r2.ones
   have hK3: ¬ Al K es.m e1.m e1.m:=fun h=>h.elim (hfr e1.m a3 (by omega)) fun h=>by omega
   have hμ: ∀k,Al K es.m e1.m k→Cu μ1 e1.m (.pointer (some ⟨b,0,none⟩)) k=μ1 k:=fun k hk=>Cf fun e=>hK3 (e ▸ hk)
   have hkk: ∀k',Al K es.m e1.m k'∨k'=e1.m→Al K es.m (e1.m+1) k':=by
    rintro k' ((h | h) | rfl)
    ·exact .inl h
    ·exact .inr (by omega)
    ·exact .inr (by omega)
   have G1:Reg ((c.at μ1).at (Cu μ1 e1.m (.pointer (some ⟨b,0,none⟩)))) (Al K es.m (e1.m+1)) S.tm (cur S ((e1.m,some (.box tb.1 vv))::e1.obs)) a (fun b'=>(Rm b'∧b'∉L')∧b'≠b):=by
    rw [A7]
    refine a5.put (fun h=>absurd h hK3) (fun b' hb=>?_) (fun b' h=>h.1) hkk ?_ (fun k' h=> .inl (a7 k' h) |> hkk k')
    ·simp [blk] at hb
     subst hb
     have:=hL b (by simp)
     exact ⟨⟨this.1,hn1.1⟩,this.2,fun h=>h.2 rfl⟩
    ·obtain ⟨ts',c1,c2,c3,c4⟩:=r2
     have Lt2:=Cx.later (c:=c.at μ1) (μ:=Cu μ1 e1.m (.pointer (some ⟨b,0,none⟩))) a5.wo hμ
     exact ⟨b,uv,A4,r1,c2,c3,hone,Lt2.Ahm a7 a6⟩
   obtain ⟨rfl,q1,q2,q3,μ',q4,q5,q6,q7,q8⟩:=O2 (c:=(c.at μ1).at (Cu μ1 e1.m (.pointer (some ⟨b,0,none⟩)))) (es:= {e1 with m:=e1.m+1,obs:=(e1.m,some (.box tb.1 vv))::e1.obs}) (a2.trans hg) h4 r6 hn2
    (fun b' hb=>⟨⟨⟨(hL b' (List.mem_append_right _ hb)).1,fun h=>hn3 b' (List.mem_cons_of_mem _ h) b' hb rfl⟩,fun h=>hn3 b (List.mem_cons_self) b' hb h.symm⟩,(hL b' (List.mem_append_right _ hb)).2⟩) G1 (by rw [←hlen];exact p2) (fun k' k1 k2 hk=>by
     have k1:e1.m+1≤k':=k1
     rcases hk with hk | hk
     ·exact hfr k' (by omega) k2 hk
     ·omega)
   have hw: ∀k,Al (Al K es.m (e1.m+1)) (e1.m+1) e4.m k→Al K es.m e4.m k:=B9 (Nat.le_succ_of_le a3) hm4
   have hμk:μ' e1.m= .pointer (some ⟨b,0,none⟩):=(q4 e1.m (.inr ⟨a3,Nat.lt_succ_self _⟩)).trans A4
   refine ⟨rfl,q1.trans a1,q2.trans a2,by omega,μ',fun k hk=>?_,q5.keys hw (fun b' h=>?_),⟨⟨b,hμk,by rw [Au]⟩,q6⟩,fun k hk=>?_,by rw [q8,←hlen];simp;omega⟩
   ·exact (q4 k (.inl hk)).trans ((hμ k (.inl hk)).trans (a4 k hk))
   ·have h2:=h.2
    simp only [List.cons_append,List.mem_cons,List.mem_append,not_or] at h2
    exact ⟨⟨⟨h.1,h2.2.1⟩,h2.1⟩,h2.2.2⟩
   ·rw [List.flatMap_cons] at hk
    rcases List.mem_append.1 hk with hk | hk
    ·simp only [Cv,List.mem_singleton] at hk
     subst hk
     exact .inr ⟨a3,by omega⟩
    ·exact hw k (q7 k hk)
theorem J5: ∀ {rs:List RS} {xs:List IV} {vs:List Value} {L:List Nat} {n:Nat} {es es':ES} {r:List VV × Nat} {ls:List PLt} {c:Cx} {K Rm:Nat→Prop},es.gs= []→Ev S (E1 c.P rs n) es r es' ls→
  Gg c.P c.w c.O rs xs vs L→L.Nodup→(∀b∈L,Rm b∧c.W b)→Reg c K S.tm (cur S es.obs) a Rm→(∀i,i<xs.length→c.ρ[n+i]?=xs[i]?)→(∀k,es.m≤k→k<es'.m→ ¬ K k)→
  Avy c K S a Rm L es es' ls fun μ'=>Dy (c.at μ') r.1 vs∧(∀k∈r.1.flatMap Ap,Al K es.m es'.m k)∧r.2=n+xs.length
 | [],xs,vs,L,n,es,es',r,ls,c,K,Rm,hg,h,hr,hn,hL,G,hρ,hfr=>by
  unfold E1 at h
  rw [Ac] at h
  obtain ⟨rfl,rfl,rfl⟩:=h
  cases vs with
  | cons=>exact hr.elim
  | nil=>
   obtain ⟨rfl,rfl⟩:=hr
   exact ⟨rfl,rfl,rfl,Nat.le_refl _,c.μ,fun _ _=>rfl,G.keys (fun k h=> .inl h) (fun b h=>h.1),trivial,by simp,rfl⟩
 | .whole t::rs,xs,vs,L,n,es,es',r,ls,c,K,Rm,hg,h,hr,hn,hL,G,hρ,hfr=>by
  cases vs with
  | nil=>exact hr.elim
  | cons v vs=>
   obtain ⟨ys,zs,L1,L2,rfl,rfl,⟨x,rfl,rfl,r1⟩,r2⟩:=hr
   unfold E1 at h
   rw [Aa] at h
   obtain ⟨q,e1,l1,_,h1,h2,rfl⟩:=h
   rw [Ac] at h2
   obtain ⟨rfl,rfl,rfl⟩:=h2
   obtain ⟨p1,p2⟩:=Nk hρ
   obtain ⟨rfl,q1,q2,q3,μ',q4,q5,q6,q7,q8⟩:=J5 hg h1 r2 hn hL G (by simpa using p2) hfr
   have hx:c.ρ[n]?=some x:=by simpa using p1 0 (by simp)
   refine ⟨rfl,q1,q2,q3,μ',q4,q5,⟨⟨x,hx,r1⟩,q6⟩,fun k hk=>?_,by rw [q8];simp;omega⟩
   rw [List.flatMap_cons] at hk
   rcases List.mem_append.1 hk with hk | hk
   ·simp [Ap,As] at hk
   ·exact q7 k hk
 | .clip t::rs,xs,vs,L,n,es,es',r,ls,c,K,Rm,hg,h,hr,hn,hL,G,hρ,hfr=>by
  cases vs with
  | nil=>exact hr.elim
  | cons v vs=>
   obtain ⟨ys,zs,L1,L2,rfl,rfl,⟨x,rfl,rfl,r1,r3⟩,r2⟩:=hr
   unfold E1 at h
   rw [Aa] at h
   obtain ⟨q,e1,l1,_,h1,h2,rfl⟩:=h
   rw [Ac] at h2
   obtain ⟨rfl,rfl,rfl⟩:=h2
   obtain ⟨p1,p2⟩:=Nk hρ
   obtain ⟨rfl,q1,q2,q3,μ',q4,q5,q6,q7,q8⟩:=J5 hg h1 r2 hn hL G (by simpa using p2) hfr
   have hx:c.ρ[n]?=some x:=by simpa using p1 0 (by simp)
   refine ⟨rfl,q1,q2,q3,μ',q4,q5,⟨⟨⟨x,hx,r1⟩,r3⟩,q6⟩,fun k hk=>?_,by rw [q8];simp;omega⟩
   rw [List.flatMap_cons] at hk
   rcases List.mem_append.1 hk with hk | hk
   ·simp [Ap,As] at hk
   ·exact q7 k hk
 | .skip ::rs,xs,vs,L,n,es,es',r,ls,c,K,Rm,hg,h,hr,hn,hL,G,hρ,hfr=>by
  cases vs with
  | nil=>exact hr.elim
  | cons v vs=>
   obtain ⟨ys,zs,L1,L2,rfl,rfl,⟨rfl,rfl⟩,r2⟩:=hr
   unfold E1 at h
   rw [Aa] at h
   obtain ⟨q,e1,l1,_,h1,h2,rfl⟩:=h
   rw [Ac] at h2
   obtain ⟨rfl,rfl,rfl⟩:=h2
   obtain ⟨rfl,q1,q2,q3,μ',q4,q5,q6,q7,q8⟩:=J5 hg h1 r2 hn hL G (by simpa using hρ) hfr
   refine ⟨rfl,q1,q2,q3,μ',q4,q5,⟨trivial,q6⟩,fun k hk=>?_,by rw [q8];simp⟩
   rw [List.flatMap_cons] at hk
   rcases List.mem_append.1 hk with hk | hk
   ·simp [Ap,As] at hk
   ·exact q7 k hk
 | .nbox t bs::rs,xs,vs,L,n,es,es',r,ls,c,K,Rm,hg,h,hr,hn,hL,G,hρ,hfr=>by
  cases vs with
  | nil=>exact hr.elim
  | cons v vs=>
   obtain ⟨ys,zs,L1,L2,rfl,rfl,r1,r2⟩:=hr
   unfold E1 at h
   simp only [Aa,Cy] at h
   obtain ⟨_,_,_,_,⟨_,rfl,rfl⟩,⟨b,e1,l1,_,h1,⟨q,e2,l2,_,h2,h3,rfl⟩,rfl⟩,rfl⟩:=h
   rw [Ac] at h3
   obtain ⟨rfl,rfl,rfl⟩:=h3
   obtain ⟨p1,p2⟩:=Nk hρ
   rw [List.nodup_append] at hn
   obtain ⟨hn1,hn2,hn3⟩:=hn
   have hm:=Jm h2
   obtain ⟨rfl,a1,a2,a3,μ1,a4,a5,a6,a7,a8⟩:=O2 hg h1 r1 hn1 (fun b hb=>hL b (List.mem_append_left _ hb)) G p1 (fun k k1 k2=>hfr k k1 (by omega))
   rw [a8] at h2
   obtain ⟨rfl,q1,q2,q3,μ',q4,q5,q6,q7,q8⟩:=J5 (c:=c.at μ1) (a2.trans hg) h2 r2 hn2 (fun b hb=>⟨⟨(hL b (List.mem_append_right _ hb)).1,fun h=>hn3 b h b hb rfl⟩,(hL b (List.mem_append_right _ hb)).2⟩) a5
    p2 (fun k k1 k2 hk=>by
     rcases hk with hk | hk
     ·exact hfr k (by omega) k2 hk
     ·omega)
   have hw:=B9 (K:=K) a3 q3
   have Lt:=Cx.later (c:=c.at μ1) (μ:=μ') a5.wo q4
   refine ⟨rfl,q1.trans a1,q2.trans a2,Nat.le_trans a3 q3,μ',fun k hk=>(q4 k (.inl hk)).trans (a4 k hk),q5.keys hw (fun b h=>⟨⟨h.1,fun h'=>h.2 (List.mem_append_left _ h')⟩,fun h'=>h.2 (List.mem_append_right _ h')⟩),Dy.append (us:= [v]) (Lt.Aad a7 a6).N7 q6,fun k hk=>?_,by rw [q8];simp;omega⟩
   rw [List.flatMap_append] at hk
   rcases List.mem_append.1 hk with hk | hk
   ·exact hw k (.inl (a7 k (by rw [←Nn];exact hk)))
   ·exact hw k (q7 k hk)
 | .clo f bs::rs,xs,vs,L,n,es,es',r,ls,c,K,Rm,hg,h,hr,hn,hL,G,hρ,hfr=>by
  cases vs with
  | nil=>exact hr.elim
  | cons v vs=>
   obtain ⟨ys,zs,L1,L2,rfl,rfl,⟨caps,rfl,r1⟩,r2⟩:=hr
   unfold E1 at h
   simp only [Aa,Cy] at h
   obtain ⟨_,_,_,_,⟨_,rfl,rfl⟩,⟨b,e1,l1,_,h1,⟨q,e2,l2,_,h2,h3,rfl⟩,rfl⟩,rfl⟩:=h
   rw [Ac] at h3
   obtain ⟨rfl,rfl,rfl⟩:=h3
   obtain ⟨p1,p2⟩:=Nk hρ
   rw [List.nodup_append] at hn
   obtain ⟨hn1,hn2,hn3⟩:=hn
   have hm:=Jm h2
   obtain ⟨rfl,a1,a2,a3,μ1,a4,a5,a6,a7,a8⟩:=O2 hg h1 r1 hn1 (fun b hb=>hL b (List.mem_append_left _ hb)) G p1 (fun k k1 k2=>hfr k k1 (by omega))
   rw [a8] at h2
   obtain ⟨rfl,q1,q2,q3,μ',q4,q5,q6,q7,q8⟩:=J5 (c:=c.at μ1) (a2.trans hg) h2 r2 hn2 (fun b hb=>⟨⟨(hL b (List.mem_append_right _ hb)).1,fun h=>hn3 b h b hb rfl⟩,(hL b (List.mem_append_right _ hb)).2⟩) a5
    p2 (fun k k1 k2 hk=>by
     rcases hk with hk | hk
     ·exact hfr k (by omega) k2 hk
     ·omega)
   have hw:=B9 (K:=K) a3 q3
   have Lt:=Cx.later (c:=c.at μ1) (μ:=μ') a5.wo q4
   refine ⟨rfl,q1.trans a1,q2.trans a2,Nat.le_trans a3 q3,μ',fun k hk=>(q4 k (.inl hk)).trans (a4 k hk),q5.keys hw (fun b h=>⟨⟨h.1,fun h'=>h.2 (List.mem_append_left _ h')⟩,fun h'=>h.2 (List.mem_append_right _ h')⟩),⟨⟨caps,rfl,Lt.Aad a7 a6⟩,q6⟩,fun k hk=>?_,by rw [q8];simp;omega⟩
   rw [List.flatMap_cons] at hk
   rcases List.mem_append.1 hk with hk | hk
   ·exact hw k (.inl (a7 k hk))
   ·exact hw k (q7 k hk)
 | .cells t bs::rs,xs,vs,L,n,es,es',r,ls,c,K,Rm,hg,h,hr,hn,hL,G,hρ,hfr=>by
  cases vs with
  | nil=>exact hr.elim
  | cons v vs=>
   obtain ⟨ys,zs,L1,L2,rfl,rfl,r1,r2⟩:=hr
   unfold E1 at h
   simp only [Aa,Ai] at h
   obtain ⟨ts,_,_,_,⟨h1,rfl,rfl⟩,⟨lvs,e1,l1,_,h2,⟨vv,e2,l2,_,h3,⟨q,e3,l3,_,h4,h5,rfl⟩,rfl⟩,rfl⟩,rfl⟩:=h
   rw [Ac] at h5
   obtain ⟨rfl,rfl,rfl⟩:=h5
   obtain ⟨p1,p2⟩:=Nk hρ
   rw [List.nodup_append] at hn
   obtain ⟨hn1,hn2,hn3⟩:=hn
   have hm:e1.m≤e3.m:=by
    have e12:=Q5 h3
    rw [e12];exact Jm h4
   obtain ⟨rfl,rfl,rfl,a1,a2,a3,μ1,a4,a5,a6,a7⟩:=r1.take hg h1 h2 h3 hn1 (fun b hb=>hL b (List.mem_append_left _ hb)) G p1 (fun k k1 k2=>hfr k k1 (by omega))
   have hlen:ys.length=bs.length:=by
    obtain ⟨_,_,_,_,hcc⟩:=r1
    exact hcc.len
   obtain ⟨rfl,q1,q2,q3,μ',q4,q5,q6,q7,q8⟩:=J5 (c:=c.at μ1) (a2.trans hg) h4 r2 hn2 (fun b hb=>⟨⟨(hL b (List.mem_append_right _ hb)).1,fun h=>hn3 b h b hb rfl⟩,(hL b (List.mem_append_right _ hb)).2⟩) a5
    (by rw [←hlen];exact p2) (fun k k1 k2 hk=>by
     rcases hk with hk | hk
     ·exact hfr k (by omega) k2 hk
     ·omega)
   have hw:=B9 (K:=K) a3 q3
   have Lt:=Cx.later (c:=c.at μ1) (μ:=μ') a5.wo q4
   refine ⟨rfl,q1.trans a1,q2.trans a2,Nat.le_trans a3 q3,μ',fun k hk=>(q4 k (.inl hk)).trans (a4 k hk),q5.keys hw (fun b h=>⟨⟨h.1,fun h'=>h.2 (List.mem_append_left _ h')⟩,fun h'=>h.2 (List.mem_append_right _ h')⟩),⟨Lt.Ahm a7 a6,q6⟩,fun k hk=>?_,by rw [q8,←hlen];simp;omega⟩
   rw [List.flatMap_cons] at hk
   rcases List.mem_append.1 hk with hk | hk
   ·exact hw k (.inl (a7 k hk))
   ·exact hw k (q7 k hk)
theorem V6 {t st e:TypeId} (h:Aq2 P t=some (st,e)):Kl P e=some .u8 ∧P.underlying st=some (.slice e)∧Ag P t=true∧Af P t=2∧Af P e=1:=by
 unfold Aq2 at h
 split at h
 ·rename_i pt st' hl
  split at h
  ·rename_i t' e' h1 h2
   rw [Option.ite_none_right_eq_some] at h
   obtain ⟨hc,h⟩:=h
   injection h with h;injection h with i1 i2;subst i1;subst i2
   simp only [Bool.and_eq_true,beq_iff_eq] at hc
   exact ⟨hc.1.1.1.2,Ba h2,hc.1.2,hc.2,hc.1.1.2⟩
  ·cases h
 ·cases h
theorem Gu: ∀ {bks:List Bk} {n:Nat} {es es':ES} {u:Unit} {ls:List PLt},Ev S (C8 P bks n) es u es' ls→es.m≤es'.m
 | [],n,es,es',u,ls,h=>by
  unfold C8 at h
  rw [Ac] at h
  obtain ⟨_,rfl,_⟩:=h
  exact Nat.le_refl _
 | .box k t bs::bks,n,es,es',u,ls,h=>by
  unfold C8 at h
  simp only [Aa,Ai,A5] at h
  obtain ⟨ts,_,_,_,⟨h1,rfl,rfl⟩,⟨lvs,e1,l1,_,h2,⟨vv,e2,l2,_,h3,⟨_,e3,l3,_,⟨rfl,rfl⟩,h4,rfl⟩,rfl⟩,rfl⟩,rfl⟩:=h
  have a1:=Hd h2
  have a2:=Gu h4
  have a3:=Q5 h3
  subst a3
  exact Nat.le_trans a1 a2
 | .arr k e t::bks,n,es,es',u,ls,h=>by
  unfold C8 at h
  simp only [Aa,A5] at h
  obtain ⟨_,_,_,_,⟨rfl,rfl⟩,h2,rfl⟩:=h
  have a2:=Gu h2
  exact a2
 | .bld k t e st::bks,n,es,es',u,ls,h=>by
  unfold C8 at h
  simp only [Aa,A5,Bp] at h
  obtain ⟨_,_,_,_,⟨rfl,rfl,rfl⟩,⟨_,_,_,_,⟨rfl,rfl⟩,⟨_,_,_,_,⟨rfl,rfl⟩,h2,rfl⟩,rfl⟩,rfl⟩:=h
  have a2:=Gu h2
  exact Nat.le_trans (Nat.le_succ _) a2
theorem Hb: ∀ {ps:List PS} {bks:List Bk} {xs:List IV} {vs:List Value} {L:List Nat} {n:Nat} {es es':ES} {u:Unit} {ls:List PLt} {c:Cx} {K Rm:Nat→Prop},es.gs= []→Ev S (C8 c.P bks n) es u es' ls→
  Bi c.P c.w c.O ps xs vs L→Mg c.P K c.μ ps vs bks→L.Nodup→(∀b∈L,Rm b∧c.W b)→Reg c K S.tm (cur S es.obs) a Rm→(∀i,i<xs.length→c.ρ[n+i]?=xs[i]?)→(∀k,es.m≤k→k<es'.m→ ¬ K k)→
  Avy c K S a Rm L es es' ls fun _=>True
 | [],bks,xs,vs,L,n,es,es',u,ls,c,K,Rm,hg,h,hr,hk,hn,hL,G,hρ,hfr=>by
  cases vs with
  | cons=>exact hr.elim
  | nil=>
   obtain ⟨rfl,rfl⟩:=hr
   have hk:bks= []:=hk
   subst hk
   unfold C8 at h
   rw [Ac] at h
   obtain ⟨rfl,rfl,rfl⟩:=h
   exact ⟨rfl,rfl,rfl,Nat.le_refl _,c.μ,fun _ _=>rfl,G.keys (fun k h=> .inl h) (fun b h=>h.1),trivial⟩
 | p::ps,bks,xs,vs,L,n,es,es',u,ls,c,K,Rm,hg,h,hr,hk,hn,hL,G,hρ,hfr=>by
  cases vs with
  | nil=>exact hr.elim
  | cons v vs=>
   obtain ⟨k1,k2,rfl,hk1,hk2⟩:=hk
   unfold Bi at hr
   have skip:p.Ce=false→k1= []→Avy c K S a Rm L es es' ls fun _=>True:=by
    intro hp hk0
    subst hk0
    simp only [hp,Bool.false_eq_true,if_false] at hr
    exact Hb hg h hr hk2 hn hL G hρ hfr
   cases p with
   | data t=>exact skip rfl hk1
   | own t=>exact skip rfl hk1
   | fn f ts=>exact skip rfl hk1
   | fnb f n=>exact skip rfl hk1
   | rd t=>exact skip rfl hk1
   | bld t bk=>
    cases bk with
    | false=>
     obtain ⟨_,_,_,_,hk0,_⟩:=hk1
     exact skip rfl hk0
    | true=>
    simp only [PS.Ce,if_true] at hr
    obtain ⟨ys,zs,L1,L2,rfl,rfl,⟨b,c0,c1,ys',st,e,rfl,r1,r2,r3,rfl,⟨r4,cs,r5,r6,r7⟩,rfl⟩,r8⟩:=hr
    obtain ⟨k,st',e',hse,hk1,b1,b2⟩:=hk1
    rw [r3] at hse;injection hse with hse;injection hse with i1 i2;subst i1;subst i2
    simp only [if_true] at hk1
    subst hk1
    simp only [List.singleton_append] at h
    unfold C8 at h
    simp only [Aa,A5,Bp] at h
    obtain ⟨_,_,_,_,⟨rfl,rfl,rfl⟩,⟨_,_,_,_,⟨rfl,rfl⟩,⟨_,_,_,_,⟨rfl,rfl⟩,h2,rfl⟩,rfl⟩,rfl⟩:=h
    have hm:=Gu h2
    have hm:es.m+1≤es'.m:=hm
    obtain ⟨p1,p2⟩:=Nk hρ
    rw [List.nodup_append] at hn
    obtain ⟨hn1,hn2,hn3⟩:=hn
    rw [List.nodup_cons] at hn1
    have hx:c.ρ[n]?=some (.list ys'):=by simpa using p1 0 (by simp)
    obtain ⟨f1,f2,f3,f4,f5⟩:=V6 r3
    have hKk: ¬ K es.m:=hfr es.m (Nat.le_refl _) (by omega)
    obtain ⟨_,h1c,A,nn,cap,rfl⟩:=Iu r5
    -- the row
    have G1:Reg (c.at (Cu c.μ es.m (.slice A nn cap))) (Al K es.m (es.m+1)) S.tm (cur S ((es.m,some (.arr e st (.v n)))::es.obs)) a (fun b'=>Rm b'∧b'∉(blk (.slice A nn cap)).toList):=by
     rw [A7]
     refine G.put (fun h=>absurd h hKk) (fun b' hb=>?_) (fun b h=>h.1) (fun k' h=>h.elim .inl fun h=> .inr (by omega)) ?_ (fun k' h=>by simp [Ee] at h)
     ·have hbL:b'∈(blk (.slice A nn cap)).toList :=by simp [hb]
      have:=hL b' (List.mem_append_left _ (List.mem_cons_of_mem _ hbL))
      exact ⟨this.1,this.2,fun h=>h.2 hbL⟩
     ·refine ⟨ys',cs,hx,f2,r4,?_,r6,r7⟩
      show c.w.ownsRow 0 e (Af c.P e) (Cu c.μ es.m (.slice A nn cap) es.m) ys'.length cs
      rw [A4];exact r5
    -- the variable
    generalize hμ1:Cu c.μ es.m (.slice A nn cap)=μ1 at G1
    have hKn: ∀k',K k'→k'≠es.m:=fun k' h e=>hKk (by rw [←e];exact h)
    have hne:k≠es.m:=hKn k b1
    have hμk:μ1 k= .pointer (some ⟨b,0,none⟩):=by rw [←hμ1,Cf hne];exact b2
    have hμm:μ1 es.m= .slice A nn cap:=by rw [←hμ1,A4]
    have hμ2:Cu μ1 k (.pointer (some ⟨b,0,none⟩))=μ1:=by funext k';unfold Cu;split<;>simp_all
    have G2:Reg ((c.at μ1).at (Cu μ1 k (.pointer (some ⟨b,0,none⟩)))) (Al K es.m (es.m+1)) S.tm (cur S ((k,some (.box t (.agg t [.hid k,.ref es.m st])))::(es.m,some (.arr e st (.v n)))::es.obs)) a (fun b'=>(Rm b'∧b'∉(blk (.slice A nn cap)).toList)∧b'≠b):=by
     rw [A7]
     refine G1.put (fun _=>hμk) (fun b' hb=>?_) (fun b h=>h.1) (fun k' h=>h.elim id fun h=> .inl (h ▸ b1)) ?_ (fun k' h=>?_)
     ·simp [blk] at hb
      subst hb
      have:=hL b (by simp)
      exact ⟨⟨this.1,hn1.1⟩,this.2,fun h=>h.2 rfl⟩
     ·refine ⟨b,.agg #[c0,.slice A nn cap],by show Cu _ _ _ k=_;rw [A4],r1,f4.symm,?_,?_,?_⟩
      ·show if Ag c.P t=true then _ else _
       rw [if_pos f3];exact ⟨_,rfl⟩
      ·intro u hu
       simp [Value.cells] at hu
       rcases hu with rfl | rfl
       ·rcases r2 with h | h<;>rw [h]<;>rfl
       ·rfl
      ·show Ki ((c.at μ1).at (Cu μ1 k _)) _ _
       rw [hμ2]
       refine ⟨_,rfl,⟨?_,r2.imp id fun h=>⟨h.trans hμk.symm,_,h⟩⟩,⟨rfl,hμm.symm,_,_,_,rfl⟩,trivial⟩
       rcases r2 with h | h<;>rw [h]<;>rfl
     ·simp only [Ee,Ap,List.flatMap_cons,As,List.flatMap_nil,List.append_nil,List.mem_append,List.mem_singleton] at h
      rcases h with rfl | rfl
      ·exact .inl b1
      ·exact .inr ⟨Nat.le_refl _,Nat.lt_succ_self _⟩
    rw [hμ2] at G2
    obtain ⟨rfl,q1,q2,q3,μ',q4,q5,_⟩:=Hb (c:=c.at μ1) (es:= {es with m:=es.m+1,obs:=(k,some (.box t (.agg t [.hid k,.ref es.m st])))::(es.m,some (.arr e st (.v n)))::es.obs}) hg h2 r8
     (hk2.mono (fun _ h=> .inl h) (fun k' hk'=>by show μ1 k'=_;rw [←hμ1,Cf (hKn k' hk')])) hn2
     (fun b' hb=>⟨⟨⟨(hL b' (List.mem_append_right _ hb)).1,fun h=>hn3 b' (List.mem_cons_of_mem _ h) b' hb rfl⟩,fun h=>hn3 b (List.mem_cons_self) b' hb h.symm⟩,(hL b' (List.mem_append_right _ hb)).2⟩) G2
     (show ∀i,i<zs.length→c.ρ[n+1+i]?=zs[i]? by simpa using p2) (fun k' k1 k2 hk=>by
      have k1:es.m+1≤k':=k1
      rcases hk with hk | hk
      ·exact hfr k' (by omega) k2 hk
      ·omega)
    have hw:=B9 (K:=K) (Nat.le_succ es.m) q3
    refine ⟨rfl,q1,q2,Nat.le_trans (Nat.le_succ _) q3,μ',fun k' hk'=>(q4 k' (.inl hk')).trans (by show μ1 k'=_;rw [←hμ1,Cf (hKn k' hk')]),q5.keys hw (fun b' h=>⟨⟨⟨h.1,fun h'=>h.2 (List.mem_append_left _ (List.mem_cons_of_mem _ h'))⟩,fun h'=>h.2 (List.mem_append_left _ (h' ▸ List.mem_cons_self))⟩,fun h'=>h.2 (List.mem_append_right _ h')⟩),trivial⟩
   | arr t=>
    simp only [PS.Ce,if_true] at hr
    obtain ⟨ys,zs,L1,L2,rfl,rfl,⟨e,ys',rfl,rfl,r1,r2,cs,r3,r4,r5⟩,r6⟩:=hr
    obtain ⟨k,e',t',rfl,b1,b2,b3,b4⟩:=hk1
    have:e'=e:=by rw [r1] at b3;injection b3 with b3;injection b3 with b3;exact b3.symm
    subst this
    simp only [List.singleton_append] at h
    unfold C8 at h
    simp only [Aa,A5] at h
    obtain ⟨_,_,_,_,⟨rfl,rfl⟩,h2,rfl⟩:=h
    obtain ⟨p1,p2⟩:=Nk hρ
    rw [List.nodup_append] at hn
    obtain ⟨hn1,hn2,hn3⟩:=hn
    have hx:c.ρ[n]?=some (.list ys'):=by simpa using p1 0 (by simp)
    have G1:Reg (c.at (Cu c.μ k v)) K S.tm (cur S ((k,some (.arr e' t' (.v n)))::es.obs)) a (fun b=>Rm b∧b∉(blk v).toList):=by
     rw [A7]
     refine G.put (fun _=>b2) (fun b hb=>?_) (fun b h=>h.1) (fun k' h=>h.elim id fun h=>h ▸ b1) ⟨ys',cs,hx,b4,r2,?_,r4,r5⟩ (fun k' h=>by simp [Ee] at h)
     ·have hbL:b∈(blk v).toList :=by simp [hb]
      have:=hL b (List.mem_append_left _ hbL)
      exact ⟨this.1,this.2,fun h=>h.2 hbL⟩
     ·show c.w.ownsRow 0 e' (Af c.P e') (Cu c.μ k v k) ys'.length cs
      rw [A4];exact r3
    have hμ:Cu c.μ k v=c.μ:=by funext k';unfold Cu;split<;>simp_all
    rw [hμ] at G1
    obtain ⟨rfl,q1,q2,q3,μ',q4,q5,_⟩:=Hb (c:=c.at c.μ) (es:= {es with obs:=(k,some (.arr e' t' (.v n)))::es.obs}) hg h2 r6 hk2 hn2
     (fun b hb=>⟨⟨(hL b (List.mem_append_right _ hb)).1,fun h=>hn3 b h b hb rfl⟩,(hL b (List.mem_append_right _ hb)).2⟩) G1 (show ∀i,i<zs.length→c.ρ[n+1+i]?=zs[i]? by simpa using p2) hfr
    exact ⟨rfl,q1,q2,q3,μ',q4,q5.keys (fun _ h=>h) (fun b h=>⟨⟨h.1,fun h'=>h.2 (List.mem_append_left _ h')⟩,fun h'=>h.2 (List.mem_append_right _ h')⟩),trivial⟩
   | box t bs=>
    simp only [PS.Ce,if_true] at hr
    obtain ⟨ys,zs,L1,L2,rfl,rfl,⟨b,uv,L',rfl,r1,r2,rfl⟩,r6⟩:=hr
    obtain ⟨k,rfl,b1,b2⟩:=hk1
    simp only [List.singleton_append] at h
    unfold C8 at h
    simp only [Aa,Ai,A5] at h
    obtain ⟨ts,_,_,_,⟨h1,rfl,rfl⟩,⟨lvs,e1,l1,_,h2,⟨vv,e2,l2,_,h3,⟨_,e3,l3,_,⟨rfl,rfl⟩,h4,rfl⟩,rfl⟩,rfl⟩,rfl⟩:=h
    obtain ⟨p1,p2⟩:=Nk hρ
    rw [List.nodup_append] at hn
    obtain ⟨hn1,hn2,hn3⟩:=hn
    rw [List.nodup_cons] at hn1
    have hm:e1.m≤es'.m:=by
     have e12:=Q5 h3
     rw [e12];exact Gu (es:= {e2 with obs:=(k,some (.box t vv))::e2.obs}) h4
    obtain ⟨rfl,rfl,rfl,a1,a2,a3,μ1,a4,a5,a6,a7⟩:=r2.take hg h1 h2 h3 hn1.2 (fun b' hb=>hL b' (by simp [hb])) G p1 (fun k' k1 k2=>hfr k' k1 (by omega))
    have hlen:ys.length=bs.length:=by
     obtain ⟨_,_,_,_,hcc⟩:=r2
     exact hcc.len
    have hμk:μ1 k= .pointer (some ⟨b,0,none⟩):=(a4 k b1).trans b2
    have hμ:Cu μ1 k (.pointer (some ⟨b,0,none⟩))=μ1:=by funext k';unfold Cu;split<;>simp_all
    have hone: ∀u∈uv.cells,u.oneCell'=true:=by
     obtain ⟨ts',c1,c2,c3,c4⟩:=r2
     have:=c4.one (fun u hu=>by
      obtain ⟨i,hi⟩:=List.mem_iff_getElem?.1 hu
      exact Dq c1 i u hi)
     exact fun u hu=>this u (by simpa using hu)
    have G1:Reg ((c.at μ1).at (Cu μ1 k (.pointer (some ⟨b,0,none⟩)))) (Al K es.m e1.m) S.tm (cur S ((k,some (.box t vv))::e1.obs)) a (fun b'=>(Rm b'∧b'∉L')∧b'≠b):=by
     rw [A7]
     refine a5.put (fun _=>hμk) (fun b' hb=>?_) (fun b h=>h.1) (fun k' h=>h.elim id fun h=> .inl (h ▸ b1)) ?_ (fun k' h=>a7 k' h)
     ·simp [blk] at hb
      subst hb
      have:=hL b (by simp)
      exact ⟨⟨this.1,hn1.1⟩,this.2,fun h=>h.2 rfl⟩
     ·obtain ⟨ts',c1,c2,c3,c4⟩:=r2
      refine ⟨b,uv,by show Cu _ _ _ k=_;rw [A4],r1,c2,c3,hone,?_⟩
      show Ki ((c.at μ1).at (Cu μ1 k _)) vv uv
      rw [hμ];exact a6
    rw [hμ] at G1
    obtain ⟨rfl,q1,q2,q3,μ',q4,q5,_⟩:=Hb (c:=c.at μ1) (es:= {e1 with obs:=(k,some (.box t vv))::e1.obs}) (a2.trans hg) h4 r6
     (hk2.mono (fun _ h=> .inl h) a4) hn2
     (fun b' hb=>⟨⟨⟨(hL b' (List.mem_append_right _ hb)).1,fun h=>hn3 b' (List.mem_cons_of_mem _ h) b' hb rfl⟩,fun h=>hn3 b (List.mem_cons_self) b' hb h.symm⟩,(hL b' (List.mem_append_right _ hb)).2⟩) G1 (by rw [←hlen];exact p2) (fun k' k1 k2 hk=>by
      have k1:e1.m≤k':=k1
      rcases hk with hk | hk
      ·exact hfr k' (by omega) k2 hk
      ·omega)
    have q3:e1.m≤es'.m:=q3
    refine ⟨rfl,q1.trans a1,q2.trans a2,Nat.le_trans a3 q3,μ',fun k hk=>(q4 k (.inl hk)).trans (a4 k hk),q5.keys (B9 (K:=K) a3 q3) (fun b' h=>?_),trivial⟩
    have h2:=h.2
    simp only [List.cons_append,List.mem_cons,List.mem_append,not_or] at h2
    exact ⟨⟨⟨h.1,h2.2.1⟩,h2.1⟩,h2.2.2⟩
end
end Go.CT
namespace Go.CT
open EM
section
variable {P:Program} {N:Nat} {X:Nat→Prop} {R:Job→List IV→Option (List IV)} {ρ:List IV} {K:Nat→Prop} {S:View} {μ:Nat→Value} {a:Act} {w w':World} {es es' e1:ES} {ls:List PLt} {sx:SX}
 {tm:Nat→SV} {ob:Nat→Option Ob} {c:Cx} {Rm:Nat→Prop}
def cxW (P:Program) (X:Nat→Prop) (ρ:List IV) (WA:Nat→Prop) (μ:Nat→Value) (w:World):Cx:= {P,ρ,μ,w,O:=fun b=>X b∨WA b,W:=WA}
theorem Ae7 {L Ln : List Nat} (G : Good P N X ρ K S.tm (cur S es.obs) μ a w) (d : Lw P N X ρ K S μ a w L es e1) (A : Gb (· ∈ L) w w') (hLn : ∀ b ∈ Ln, b ∈ L ∨ w.heap.size ≤ b) :
    Reg (cxW P X ρ (fun b => Wr (cur S e1.obs) μ b ∨ b ∈ Ln) μ w') K S.tm (cur S e1.obs) a (· ∈ Ln) := by
  have hWL : ∀ b, b < w.heap.size → (Wr (cur S e1.obs) μ b ∨ b ∈ Ln) → Wr (cur S es.obs) μ b := by
    intro b hb h
    rcases h with h | h
    · exact d.Dc.wr h
    · rcases hLn b h with h | h
      · exact d.own b h
      · omega
  have Lat : C0 K (A6 P X ρ (cur S es.obs) μ w) (cxW P X ρ (fun b => Wr (cur S e1.obs) μ b ∨ b ∈ Ln) μ w') :=
    { P := rfl, ρ := fun _ _ h => h, μ := fun _ _ => rfl, stays := fun b hb hw => A.stays b hb fun h => hw (d.own b h),
      O := fun b hb ho => ho.imp id (hWL b hb), W := hWL, WO := fun b hb => .inr hb }
  have hoff : ∀ k o b, cur S e1.obs k = some o → o.Dn = true → blk (μ k) = some b → b < w.heap.size ∧ b ∉ L ∧ ¬ X b := by
    intro k o b h1 h2 h3
    have := d.Bu.xsep k o b h1 h2 h3
    exact ⟨d.Bu.Kg h1 h2 h3, fun h => this (.inr h), fun h => this (.inl h)⟩
  refine ⟨fun b hb => .inr hb, fun s => Lat.Ajn (G.kt s) (G.slot s), fun k o ho => ?_, fun k k' o o' b h1 h2 h3 h4 h5 h6 => d.Bu.sep k k' o o' b h1 h2 h3 h4 h5 h6,
    fun k o b h1 h2 h3 => ⟨fun h => ?_, .inl ⟨k, o, h1, h2, h3⟩⟩, G.kt, d.Bu.ko⟩
  · cases hi : o.Dn with
    | true =>
      have h := d.Dc k o ho hi
      exact Lat.Aa7 (G.ko k o h).1 (G.ko k o h).2 (fun _ b hb _ => A.stays b (hoff k o b ho hi hb).1 (hoff k o b ho hi hb).2.1) (G.obj k o h)
    | false =>
      cases o with
      | box => simp [Ob.Dn] at hi
      | iter => simp [Ob.Dn] at hi
      | mp => simp [Ob.Dn] at hi
      | arr => simp [Ob.Dn] at hi
      | frz e t x =>
        obtain ⟨h1, iv, h2, h3⟩ := d.Bu.obj k _ ho
        refine ⟨h1, iv, h2, ?_⟩
        refine Rel.mono h3 (fun b hb ho => ?_) (fun b hb ho => A.stays b hb fun h => ho (.inl (.inr h)))
        rcases ho with ho | ho | ho
        · exact .inl (.inl ho)
        · exact .inr ho
        · rcases hLn b ho with h | h
          · exact .inl (.inr h)
          · have hb : b < w.heap.size := hb
            omega
  · obtain ⟨q1, q2, q3⟩ := hoff k o b h1 h2 h3
    rcases hLn b h with h | h
    · exact q2 h
    · omega
theorem Akb {L Ln : List Nat} {μ' : Nat → Value} {v : Value} (G : Good P N X ρ K S.tm (cur S es.obs) μ a w) (d : Lw P N X ρ K S μ a w L es e1) (A : Gb (· ∈ L) w w') (hLn : ∀ b ∈ Ln, b ∈ L ∨ w.heap.size ≤ b)
    (r : Reg ((cxW P X ρ (fun b => Wr (cur S e1.obs) μ b ∨ b ∈ Ln) μ w').at μ') (Al K es.m es'.m) S.tm (cur S es'.obs) a Rm)
    (hx : Acn ((cxW P X ρ (fun b => Wr (cur S e1.obs) μ b ∨ b ∈ Ln) μ w').at μ') sx v) (hk : ∀ k ∈ Br sx, Al K es.m es'.m k) (hkeep : ∀ k, K k → μ' k = μ k) : Out P N X ρ K S μ a w es es' sx μ' w' v := by
  have Lat : C0 (Al K es.m es'.m) ((cxW P X ρ (fun b => Wr (cur S e1.obs) μ b ∨ b ∈ Ln) μ w').at μ') (A6 P X ρ (cur S es'.obs) μ' w') :=
    { P := rfl, ρ := fun _ _ h => h, μ := fun _ _ => rfl, stays := I8.refl _ _,
      O := fun b _ ho => ho.imp id fun ⟨k, o, h1, h2, h3⟩ => (r.rest k o b h1 h2 h3).2, W := fun b _ ⟨k, o, h1, h2, h3⟩ => (r.rest k o b h1 h2 h3).2, WO := fun b hb => .inr hb }
  have hWX : ∀ b, (Wr (cur S e1.obs) μ b ∨ b ∈ Ln) → ¬ X b := by
    intro b hb hX
    rcases hb with ⟨k, o, h1, h2, h3⟩ | hb
    · exact d.Bu.xsep k o b h1 h2 h3 (.inl hX)
    · rcases hLn b hb with h | h
      · obtain ⟨k, o, h1, h2, h3⟩ := d.own b h
        exact G.xsep k o b h1 h2 h3 hX
      · have := G.xlt b hX
        omega
  refine ⟨⟨G.size, G.defers, fun s => Lat.Ajn (r.kt s) (r.slot s), fun k o ho => Lat.Aa7 (r.ko k o ho).1 (r.ko k o ho).2 (fun _ b _ _ => rfl) (r.obj k o ho), r.sep, fun k o b h1 h2 h3 => hWX b (r.rest k o b h1 h2 h3).2,
    fun b hb => Nat.lt_of_lt_of_le (G.xlt b hb) A.size, r.kt, r.ko⟩, Lat.xrel hk hx, hk, ⟨A.os, A.tape, A.output, A.size, fun b hb hw => A.stays b hb fun h => hw (d.own b h)⟩, fun b ⟨k, o, h1, h2, h3⟩ => ?_, hkeep⟩
  rcases (r.rest k o b h1 h2 h3).2 with h | h
  · exact .inl (d.Dc.wr h)
  · exact (hLn b h).imp (d.own b) id
theorem Es.rel {O O':Nat→Prop} {t e:TypeId} {xs:List IV} {v:Value} (h:Es P w O e xs v) (ht:P.underlying t=some (.slice e)) (hO: ∀b,b<w.heap.size→O' b→O b) (hb: ∀b,blk v=some b→ ¬ O' b):Rel P w O' t (.list xs) v:=by
 obtain ⟨hs,cs,⟨g1,g2⟩,h5,h6⟩:=h
 rcases g2 with ⟨rfl,g3⟩ | ⟨g,cap,cu,rfl,e2,e3,e4,e5,e6,e7⟩
 ·have:xs= []:=by cases xs with | nil=>rfl | cons=>simp at g3
  subst this
  exact (Row.nilB e none 0:Aci P w O e [] none 0).row (fun b _ hb=>hO b ‹_› hb) (fun ad hA=>by cases hA) |>.rel ht
 ·have hE:Ik P w O e xs cs:=h5
  obtain ⟨us,r1,rfl⟩:=hE.Amt g1
  refine .list (fun j=>(us[j]?).getD undef) ht e4 (Nat.le_trans e4 e5) (fun h0=>⟨hs,_,rfl,hb g rfl,fun j hj=>?_⟩) (fun j x hx=>?_)
  ·have hj':j<us.length:=by rw [←r1.len];exact hj
   have hju:us[j]?=some us[j]:=List.getElem?_eq_getElem hj'
   rw [hju]
   have hsz:=r1.size us[j] (List.getElem_mem hj')
   refine ⟨hsz.1,fun i u hu=>?_⟩
   rw [C4,O7]
   simp only [World.cell?,e3]
   have hat:=N2 (fun v hv=>(r1.size v hv).1) j us[j] hju
   have hi:i<Af P e:=by rw [←hsz.1];exact (Array.getElem?_eq_some_iff.1 hu).1
   have hu':us[j].cells.toList[i]?=some u:=by simpa using hu
   rw [←hat,List.getElem?_take,if_pos hi,List.getElem?_drop,←e7,List.getElem?_take] at hu'
   have hlt:j * Af P e+i<xs.length * Af P e:=by
    have:j * Af P e+Af P e≤xs.length * Af P e:=by rw [←Nat.succ_mul];exact Nat.mul_le_mul_right _ hj
    omega
   rw [if_pos hlt] at hu'
   simpa using hu'
  ·obtain ⟨u,hu,hr⟩:=r1.get j x hx
   rw [hu]
   exact hr.weaken hO
theorem Na: ∀ {bs:List Bool} {ts:List TypeId} {xs:List IV} {vs:List Value} {L:List Nat} {n:Nat} {es es':ES} {lvs:List LV} {ls:List PLt} {c:Cx} {O:Nat→Prop},es.gs.isEmpty=false→Ev S (Cg c.P bs ts n) es lvs es' ls→
  Bd c.P c.w O bs ts xs vs L→(∀t∈ts,Ag c.P t=false)→(∀b,b<c.w.heap.size→c.O b→O b)→(∀b∈L,¬ c.O b)→(∀i,i<xs.length→c.ρ[n+i]?=xs[i]?)→
  es=es'∧ls= []∧C6 c lvs vs∧lvs.flatMap As= []
 | [],[],xs,vs,L,n,es,es',lvs,ls,c,O,hg,h,hc,hf,hO,hL,hρ=>by
  unfold Cg at h
  rw [Ac] at h
  obtain ⟨rfl,rfl,rfl⟩:=h
  cases xs with
  | cons=>cases vs<;>exact hc.elim
  | nil=>
   cases vs with
   | cons=>exact hc.elim
   | nil=>exact ⟨rfl,rfl,trivial,rfl⟩
 | o::bs,t::ts,xs,vs,L,n,es,es',lvs,ls,c,O,hg,h,hc,hf,hO,hL,hρ=>by
  cases xs with
  | nil=>cases o<;>exact hc.elim
  | cons x xs=>
  cases vs with
  | nil=>cases o<;>exact hc.elim
  | cons v vs=>
  have hf': ∀t∈ts,Ag c.P t=false:=fun t h=>hf t (List.mem_cons_of_mem _ h)
  have hρ0:c.ρ[n]?=some x:=by simpa using hρ 0 (by simp)
  have hρ1: ∀i,i<xs.length→c.ρ[n+1+i]?=xs[i]?:=fun i hi=>by
   have:=hρ (i+1) (by simpa using hi)
   simpa [Nat.add_assoc,Nat.add_comm 1 i] using this
  cases o with
  | false=>
   obtain ⟨c1,c2⟩:=hc
   unfold Cg at h
   rw [Aa] at h
   obtain ⟨r,e1,l1,_,h1,h2,rfl⟩:=h
   rw [Ac] at h2
   obtain ⟨rfl,rfl,rfl⟩:=h2
   obtain ⟨rfl,rfl,q1,q2⟩:=Na hg h1 c2 hf' hO hL hρ1
   exact ⟨rfl,rfl,⟨⟨(c1.one (hf t List.mem_cons_self)).1,⟨x,hρ0,c1.weaken hO⟩⟩,q1⟩,by rw [List.flatMap_cons,q2];rfl⟩
  | true=>
   obtain ⟨L',⟨ys,rfl,hcase⟩,c2,rfl⟩:=hc
   unfold Cg at h
   cases he:Cz c.P t with
   | none=>
    simp only [he,Aa,Cy] at h
    obtain ⟨_,_,_,_,⟨h0,_,_⟩,_⟩:=h
    rw [h0] at hg;cases hg
   | some e=>
   have ht:=Ba he
   have hrow:Es c.P c.w O e ys v:=by
    rcases hcase with ⟨e',ht',h⟩ | ⟨kt,vt,ht',_⟩
    ·rw [ht] at ht';injection ht' with ht';injection ht' with ht';rw [ht'];exact h
    ·rw [ht] at ht';cases ht'
   simp only [he,Aa,Ha] at h
   obtain ⟨gs,_,_,_,⟨rfl,rfl,rfl⟩,h,rfl⟩:=h
   simp only [hg,Bool.false_eq_true,if_false] at h
   rw [Aa] at h
   obtain ⟨r,e1,l1,_,h1,h2,rfl⟩:=h
   rw [Ac] at h2
   obtain ⟨rfl,rfl,rfl⟩:=h2
   obtain ⟨rfl,rfl,q1,q2⟩:=Na hg h1 c2 hf' hO (fun b hb=>hL b (List.mem_append_right _ hb)) hρ1
   have hr:=hrow.rel ht hO fun b hb=>hL b (List.mem_append_left _ (by simp [hb]))
   exact ⟨rfl,rfl,⟨⟨(hr.one (hf t List.mem_cons_self)).1,⟨_,hρ0,hr⟩⟩,q1⟩,by rw [List.flatMap_cons,q2];rfl⟩
 | [],_::_,xs,vs,L,n,es,es',lvs,ls,c,O,hg,h,hc,hf,hO,hL,hρ=>by simp [Cg,Ad] at h
 | _::_,[],xs,vs,L,n,es,es',lvs,ls,c,O,hg,h,hc,hf,hO,hL,hρ=>by simp [Cg,Ad] at h
theorem Lk: ∀ {rs:List RS} {xs:List IV} {vs:List Value} {L:List Nat} {n:Nat} {es es':ES} {r:List VV × Nat} {ls:List PLt} {c:Cx} {O:Nat→Prop},es.gs.isEmpty=false→Ev S (E1 c.P rs n) es r es' ls→
  Gg c.P c.w O rs xs vs L→(∀b,b<c.w.heap.size→c.O b→O b)→(∀b∈L,¬ c.O b)→(∀i,i<xs.length→c.ρ[n+i]?=xs[i]?)→
  es=es'∧ls= []∧Dy c r.1 vs∧r.1.flatMap Ap= []
 | [],xs,vs,L,n,es,es',r,ls,c,O,hg,h,hr,hO,hL,hρ=>by
  unfold E1 at h
  rw [Ac] at h
  obtain ⟨rfl,rfl,rfl⟩:=h
  cases vs with
  | cons=>exact hr.elim
  | nil=>exact ⟨rfl,rfl,trivial,rfl⟩
 | .whole t::rs,xs,vs,L,n,es,es',r,ls,c,O,hg,h,hr,hO,hL,hρ=>by
  cases vs with
  | nil=>exact hr.elim
  | cons v vs=>
   obtain ⟨ys,zs,L1,L2,rfl,rfl,⟨x,rfl,rfl,r1⟩,r2⟩:=hr
   unfold E1 at h
   rw [Aa] at h
   obtain ⟨q,e1,l1,_,h1,h2,rfl⟩:=h
   rw [Ac] at h2
   obtain ⟨rfl,rfl,rfl⟩:=h2
   obtain ⟨p1,p2⟩:=Nk hρ
   obtain ⟨rfl,rfl,q1,q2⟩:=Lk hg h1 r2 hO hL (by simpa using p2)
   have hx:c.ρ[n]?=some x:=by simpa using p1 0 (by simp)
   exact ⟨rfl,rfl,⟨⟨x,hx,r1.weaken hO⟩,q1⟩,by rw [List.flatMap_cons,q2];rfl⟩
 | .clip t::rs,xs,vs,L,n,es,es',r,ls,c,O,hg,h,hr,hO,hL,hρ=>by
  cases vs with
  | nil=>exact hr.elim
  | cons v vs=>
   obtain ⟨ys,zs,L1,L2,rfl,rfl,⟨x,rfl,rfl,r1,r3⟩,r2⟩:=hr
   unfold E1 at h
   rw [Aa] at h
   obtain ⟨q,e1,l1,_,h1,h2,rfl⟩:=h
   rw [Ac] at h2
   obtain ⟨rfl,rfl,rfl⟩:=h2
   obtain ⟨p1,p2⟩:=Nk hρ
   obtain ⟨rfl,rfl,q1,q2⟩:=Lk hg h1 r2 hO hL (by simpa using p2)
   have hx:c.ρ[n]?=some x:=by simpa using p1 0 (by simp)
   exact ⟨rfl,rfl,⟨⟨⟨x,hx,r1.weaken hO⟩,r3⟩,q1⟩,by rw [List.flatMap_cons,q2];rfl⟩
 | .skip ::rs,xs,vs,L,n,es,es',r,ls,c,O,hg,h,hr,hO,hL,hρ=>by
  cases vs with
  | nil=>exact hr.elim
  | cons v vs=>
   obtain ⟨ys,zs,L1,L2,rfl,rfl,⟨rfl,rfl⟩,r2⟩:=hr
   unfold E1 at h
   rw [Aa] at h
   obtain ⟨q,e1,l1,_,h1,h2,rfl⟩:=h
   rw [Ac] at h2
   obtain ⟨rfl,rfl,rfl⟩:=h2
   obtain ⟨rfl,rfl,q1,q2⟩:=Lk hg h1 r2 hO hL (by simpa using hρ)
   exact ⟨rfl,rfl,⟨trivial,q1⟩,by rw [List.flatMap_cons,q2];rfl⟩
 | .nbox t bs::rs,xs,vs,L,n,es,es',r,ls,c,O,hg,h,hr,hO,hL,hρ=>by
  unfold E1 at h
  simp only [Aa,Cy] at h
  obtain ⟨_,_,_,_,⟨h0,_,_⟩,_⟩:=h
  rw [h0] at hg;cases hg
 | .clo f bs::rs,xs,vs,L,n,es,es',r,ls,c,O,hg,h,hr,hO,hL,hρ=>by
  unfold E1 at h
  simp only [Aa,Cy] at h
  obtain ⟨_,_,_,_,⟨h0,_,_⟩,_⟩:=h
  rw [h0] at hg;cases hg
 | .cells t bs::rs,xs,vs,L,n,es,es',r,ls,c,O,hg,h,hr,hO,hL,hρ=>by
  cases vs with
  | nil=>exact hr.elim
  | cons v vs=>
   obtain ⟨ys,zs,L1,L2,rfl,rfl,⟨ts',b1,b2,b3,b4⟩,r2⟩:=hr
   unfold E1 at h
   simp only [Aa,Ai] at h
   obtain ⟨ts,_,_,_,⟨h1,rfl,rfl⟩,⟨lvs,e1,l1,_,h2,⟨vv,e2,l2,_,h3,⟨q,e3,l3,_,h4,h5,rfl⟩,rfl⟩,rfl⟩,rfl⟩:=h
   rw [Ac] at h5
   obtain ⟨rfl,rfl,rfl⟩:=h5
   rw [h1] at b1;injection b1 with b1;subst b1
   obtain ⟨p1,p2⟩:=Nk hρ
   obtain ⟨rfl,rfl,a1,a2⟩:=Na hg h2 b4 (fun u hu=>by
    obtain ⟨i,hi⟩:=List.mem_iff_getElem?.1 hu
    exact Dq h1 i u hi) hO (fun b hb=>hL b (List.mem_append_left _ hb)) p1
   obtain ⟨rfl,rfl,s1,s2⟩:=Al1 h3 b3 a1
   obtain ⟨rfl,rfl,q1,q2⟩:=Lk hg h4 r2 hO (fun b hb=>hL b (List.mem_append_right _ hb)) (by rw [←b4.len];exact p2)
   refine ⟨rfl,rfl,⟨s1,q1⟩,?_⟩
   rw [List.flatMap_cons,q2,List.append_nil,List.eq_nil_iff_forall_not_mem]
   intro k hk
   have:=s2 k hk
   rw [a2] at this
   cases this
end
end Go.CT
namespace Go.CT
open EM
section
variable {P:Program} {N:Nat} {X:Nat→Prop} {R:Job→List IV→Option (List IV)} {ρ:List IV} {K:Nat→Prop} {S:View} {μ:Nat→Value} {a:Act} {w w':World} {es es' e1:ES} {ls:List PLt} {sx:SX}
 {O O':Nat→Prop}
theorem Ni {u:TypeId} {x:IV} {v:Value} (h:Rel P w O u x v) (ha:Ag P u=false) (he:Cz P u=none):Rel P w O' u x v:=by
 cases h with
 | int h=>exact .int h
 | bool h=>exact .bool h
 | str h=>exact .str h
 | agg h=>rw [ha] at h;cases h
 | list _ h=>simp [Cz,h] at he
theorem Ac8 {t:TypeId} {ts:List TypeId} (h:leaves P t=some ts) (ha:Ag P t=false):ts= [t]:=by
 have hl: ∀ (d:Nat),E6 P (d+1) t=some ts→ts= [t]:=by
  intro d hd
  unfold E6 at hd
  cases hun:P.underlying t with
  | none=>simp [hun] at hd
  | some de=>cases de<;>simp_all [Ag]
 exact hl 11 h
theorem Rel.flat {t:TypeId} {x:IV} {v:Value} (h:Rel P w O t x v) (hf:Od P t=true):Rel P w O' t x v:=by
 unfold Od at hf
 cases hl:leaves P t with
 | none=>simp [hl] at hf
 | some ts=>
  simp only [hl,List.all_eq_true,Option.isNone_iff_eq_none] at hf
  by_cases ha:Ag P t=true
  ·obtain ⟨ts',xs,cs,h1,rfl,rfl,h2⟩:=h.W1 ha
   rw [hl] at h1;injection h1 with h1;subst h1
   refine Gn.agg (Gn.Ja h2.len.1 h2.len.2 fun i u x c h3 h4 h5=>?_) ha hl
   exact Ni (h2.get i u x c h3 h4 h5) (Dq hl i u h3) (hf u (List.mem_of_getElem? h3))
  ·have ha':Ag P t=false:=by simpa using ha
   have:=Ac8 hl ha'
   subst this
   exact Ni h ha' (hf t (by simp))
theorem Es.flat {e:TypeId} {xs:List IV} {v:Value} (h:Es P w O e xs v) (hf:Od P e=true):Es P w O' e xs v:=
 ⟨h.1,let ⟨cs,h1,h2,h3⟩:=h.2; ⟨cs,h1,fun j x hx=>let ⟨v,q1,q2⟩:=h2 j x hx; ⟨v,q1.flat hf,q2⟩,h3⟩⟩
theorem Lh.flat {t:TypeId} {x:IV} {v:Value} (h:Lh P w O t x v) (hf:(match Cz P t with | some e=>Od P e | none=>match Aj1 P t with | some kv=>Od P kv.1&&Od P kv.2 | none=>false)=true):Lh P w O' t x v:=by
 obtain ⟨ys,h1,⟨e,h2,h3⟩ | ⟨kt,vt,h2,r,cl,es,h3,h4,h5,h6⟩⟩:=h
 ·simp only [Cz,h2] at hf
  exact ⟨ys,h1,.inl ⟨e,h2,h3.flat hf⟩⟩
 ·simp only [Cz,Aj1,h2,Bool.and_eq_true] at hf
  refine ⟨ys,h1,.inr ⟨kt,vt,h2,r,cl,es,h3,h4,h5,?_⟩⟩
  have: ∀ {xs:List IV} {es:List MapEntry},H9 P w O kt vt xs es→H9 P w O' kt vt xs es:=by
   intro xs
   induction xs with
   | nil=>intro es h;cases es<;>exact h
   | cons x xs ih=>
    intro es h
    cases es with
    | nil=>exact h
    | cons e es=>
     obtain ⟨⟨a,b,e1,e2,e3⟩,h⟩:=h
     exact ⟨⟨a,b,e1,e2.flat hf.1,e3.flat hf.2⟩,ih h⟩
  exact this h6
theorem Bd.flat: ∀ {bs:List Bool} {ts:List TypeId} {xs:List IV} {vs:List Value} {L:List Nat},Bd P w O bs ts xs vs L→Dj P bs ts=true→(∀t∈ts,Ag P t=false)→Bd P w O' bs ts xs vs L
 | [],[],[],[],_,h,_,_=>h
 | true::bs,t::ts,x::xs,v::vs,L,h,hf,ha=>by
  obtain ⟨L',h3,h4,h5⟩:=h
  simp only [Dj,Bool.and_eq_true] at hf
  exact ⟨L',h3.flat hf.1,h4.flat hf.2 (fun t h=>ha t (List.mem_cons_of_mem _ h)),h5⟩
 | false::bs,t::ts,x::xs,v::vs,L,h,hf,ha=>by
  simp only [Dj,Bool.and_eq_true,Option.isNone_iff_eq_none] at hf
  exact ⟨Ni h.1 (ha t List.mem_cons_self) hf.1,h.2.flat hf.2 (fun t h=>ha t (List.mem_cons_of_mem _ h))⟩
 | [],[],[],_::_,_,h,_,_=>h.elim
 | [],[],_::_,_,_,h,_,_=>h.elim
 | [],_::_,_,_,_,h,_,_=>h.elim
 | _::_,[],_,_,_,h,_,_=>by simp [Bd] at h
 | _::_,_::_,[],_,_,h,_,_=>by simp [Bd] at h
 | _::_,_::_,_::_,[],_,h,_,_=>by simp [Bd] at h
theorem Tu.flat {t:TypeId} {bs:List Bool} {xs:List IV} {v:Value} {L:List Nat} (h:Tu P w O t bs xs v L) (hf:(match leaves P t with | some ts=>Dj P bs ts | none=>false)=true):Tu P w O' t bs xs v L:=by
 obtain ⟨b,u,L',h1,h2,⟨ts,q1,q2,q3,q4⟩,h4⟩:=h
 simp only [q1] at hf
 exact ⟨b,u,L',h1,h2,⟨ts,q1,q2,q3,q4.flat hf fun u hu=>by
  obtain ⟨i,hi⟩:=List.mem_iff_getElem?.1 hu
  exact Dq q1 i u hi⟩,h4⟩
theorem Gv.flat: ∀ {bs:List (TypeId × List Bool)} {xs:List IV} {vs:List Value} {L:List Nat},Gv P w O bs xs vs L→bs.all (fun b=>match leaves P b.1 with | some ts=>Dj P b.2 ts | none=>false)=true→Gv P w O' bs xs vs L
 | [],_,[],_,h,_=>h
 | b::bs,_,_::_,_,h,hf=>by
  obtain ⟨ys,zs,L1,L2,h1,h2,h3,h4⟩:=h
  simp only [List.all_cons,Bool.and_eq_true] at hf
  exact ⟨ys,zs,L1,L2,h1,h2,h3.flat hf.1,h4.flat hf.2⟩
 | [],_,_::_,_,h,_=>h.elim
 | _::_,_,[],_,h,_=>h.elim
theorem Gg.flat: ∀ {rs:List RS} {xs:List IV} {vs:List Value} {L:List Nat},Gg P w O rs xs vs L→rs.all (RS.flat P)=true→Gg P w O' rs xs vs L
 | [],_,[],_,h,_=>h
 | r::rs,_,v::vs,_,h,hf=>by
  obtain ⟨ys,zs,L1,L2,h1,h2,h3,h4⟩:=h
  simp only [List.all_cons,Bool.and_eq_true] at hf
  refine ⟨ys,zs,L1,L2,h1,h2,?_,h4.flat hf.2⟩
  cases r with
  | whole t=>obtain ⟨x,q1,q2,q3⟩:=h3;exact ⟨x,q1,q2,q3.flat hf.1⟩
  | clip t=>obtain ⟨x,q1,q2,q3,q4⟩:=h3;exact ⟨x,q1,q2,q3.flat hf.1,q4⟩
  | skip=>exact h3
  | nbox t bs=>exact Gv.flat h3 (by simp only [List.all_cons,List.all_nil,Bool.and_true];exact hf.1)
  | clo f bs=>obtain ⟨c,q1,q2⟩:=h3;exact ⟨c,q1,q2.flat hf.1⟩
  | cells t bs=>
   obtain ⟨ts,q1,q2,q3,q4⟩:=h3
   have hf1:=hf.1
   simp only [RS.flat,q1] at hf1
   exact ⟨ts,q1,q2,q3,q4.flat hf1 fun u hu=>by
    obtain ⟨i,hi⟩:=List.mem_iff_getElem?.1 hu
    exact Dq q1 i u hi⟩
 | [],_,_::_,_,h,_=>h.elim
 | _::_,_,[],_,h,_=>h.elim
theorem Gg.weaken (hO: ∀b,b<w.heap.size→O' b→O b): ∀ {rs:List RS} {xs:List IV} {vs:List Value} {L:List Nat},Gg P w O rs xs vs L→Gg P w O' rs xs vs L
 | [],_,[],_,h=>h
 | r::rs,_,v::vs,_,h=>by
  obtain ⟨ys,zs,L1,L2,h1,h2,h3,h4⟩:=h
  exact ⟨ys,zs,L1,L2,h1,h2,R2.weaken h3 hO,h4.weaken hO⟩
 | [],_,_::_,_,h=>h.elim
 | _::_,_,[],_,h=>h.elim
theorem Bi.weaken (hO: ∀b,b<w.heap.size→O' b→O b): ∀ {rs:List PS} {xs:List IV} {vs:List Value} {L:List Nat},Bi P w O rs xs vs L→Bi P w O' rs xs vs L
 | [],_,[],_,h=>h
 | r::rs,xs,v::vs,L,h=>by
  unfold Bi at h ⊢
  by_cases hb:r.Ce=true
  ·simp only [hb,if_true] at h ⊢
   obtain ⟨ys,zs,L1,L2,h1,h2,h3,h4⟩:=h
   exact ⟨ys,zs,L1,L2,h1,h2,h3.weaken hO,h4.weaken hO⟩
  ·simp only [hb] at h ⊢
   exact Bi.weaken hO h
 | [],_,_::_,_,h=>h.elim
 | _::_,_,[],_,h=>h.elim
theorem Dg.pure {Lt:Nat→Prop} : ∀ {ps:List PS} {xs:List IV} {vs:List Value} {L:List Nat},Dg P w O Lt ps xs vs L→ps.all PS.De=true→L= []
 | [],_,[],_,h,_=>h.2
 | p::ps,_,v::vs,_,h,hp=>by
  obtain ⟨ys,zs,L1,L2,h1,rfl,h3,h4⟩:=h
  simp only [List.all_cons,Bool.and_eq_true] at hp
  rw [h4.pure hp.2,List.append_nil]
  cases p with
  | data t=>obtain ⟨x,_,q,_⟩:=h3;exact q
  | fn f ts=>obtain ⟨x,_,q,_⟩:=h3;exact q
  | fnb f n=>exact h3.2
  | rd t=>obtain ⟨x,_,q,_⟩:=h3;exact q
  | arr t=>simp [PS.De] at hp
  | own t=>simp [PS.De] at hp
  | box t bs=>simp [PS.De] at hp
  | bld t bk=>simp [PS.De] at hp
 | [],_,_::_,_,h,_=>h.elim
 | _::_,_,[],_,h,_=>h.elim
theorem Mg.pure: ∀ {ps:List PS} {us:List Value} {l:List Bk},Mg P K μ ps us l→ps.all PS.De=true→l= []
 | [],[],_,h,_=>h
 | p::ps,_::_,_,h,hp=>by
  obtain ⟨l1,l2,rfl,h2,h3⟩:=h
  simp only [List.all_cons,Bool.and_eq_true] at hp
  rw [h3.pure hp.2,List.append_nil]
  cases p with
  | data t=>exact h2
  | fn f ts=>exact h2
  | fnb f n=>exact h2
  | rd t=>exact h2
  | arr t=>simp [PS.De] at hp
  | own t=>simp [PS.De] at hp
  | box t bs=>simp [PS.De] at hp
  | bld t bk=>simp [PS.De] at hp
 | [],_::_,_,h,_=>h.elim
 | _::_,[],_,h,_=>h.elim
theorem Bi.pure: ∀ {ps:List PS} {xs:List IV} {us:List Value} {L:List Nat},Bi P w O ps xs us L→ps.all PS.De=true→xs= []∧L= []
 | [],_,[],_,h,_=>h
 | p::ps,xs,v::us,L,h,hp=>by
  simp only [List.all_cons,Bool.and_eq_true] at hp
  have:p.Ce=false:=by cases p<;>simp_all [PS.De,PS.Ce]
  simp only [Bi,this,Bool.false_eq_true,if_false] at h
  exact h.pure hp.2
 | [],_,_::_,_,h,_=>h.elim
 | _::_,_,[],_,h,_=>h.elim
theorem Bi.free: ∀ {ps:List PS} {xs:List IV} {us:List Value} {L:List Nat},Bi P w O ps xs us L→ps.all PS.De=true→Bi P w O' ps xs us L
 | [],_,[],_,h,_=>h
 | p::ps,xs,v::us,L,h,hp=>by
  simp only [List.all_cons,Bool.and_eq_true] at hp
  have:p.Ce=false:=by cases p<;>simp_all [PS.De,PS.Ce]
  simp only [Bi,this,Bool.false_eq_true,if_false] at h ⊢
  exact h.free hp.2
 | [],_,_::_,_,h,_=>h.elim
 | _::_,_,[],_,h,_=>h.elim
theorem Ajw {e:TypeId} {k:IntKind} (h:Kl P e=some k):Od P e=true:=by
 have hu:=Cl h
 have hl:leaves P e=some [e]:=by unfold leaves E6;simp [hu]
 simp [Od,hl,Cz,hu]
theorem ArgRel.flat {Lt:Nat→Prop} {p:PS} {xs:List IV} {v:Value} {L:List Nat} (h:ArgRel P w O Lt p xs v L) (hb:p.Ce=true) (hs:p.safe P=true):ArgRel P w O' Lt p xs v L:=by
 cases p with
 | arr t=>
  obtain ⟨e,ys,h1,h2,h3,h4⟩:=h
  simp only [PS.safe,Cz,h3] at hs
  exact ⟨e,ys,h1,h2,h3,h4.flat hs⟩
 | box t bs=>exact Tu.flat h hs
 | bld t bk=>
  obtain ⟨b,c0,c1,ys,st,e,h1,h2,h3,h4,h5,h6,h7⟩:=h
  exact ⟨b,c0,c1,ys,st,e,h1,h2,h3,h4,h5,h6.flat (Ajw (V6 h4).1),h7⟩
 | _=>cases hb
theorem Bi.flat: ∀ {ps:List PS} {xs:List IV} {us:List Value} {L:List Nat},Bi P w O ps xs us L→ps.all (PS.safe P)=true→Bi P w O' ps xs us L
 | [],_,[],_,h,_=>h
 | p::ps,xs,v::us,L,h,hp=>by
  simp only [List.all_cons,Bool.and_eq_true] at hp
  unfold Bi at h ⊢
  by_cases hb:p.Ce=true
  ·simp only [hb,if_true] at h ⊢
   obtain ⟨ys,zs,L1,L2,h1,h2,h3,h4⟩:=h
   exact ⟨ys,zs,L1,L2,h1,h2,h3.flat hb hp.1,h4.flat hp.2⟩
  ·simp only [hb] at h ⊢
   exact Bi.flat h hp.2
 | [],_,_::_,_,h,_=>h.elim
 | _::_,_,[],_,h,_=>h.elim
theorem Vn {c:Cx} {vvs:List VV} {vs:List Value} (h:Dy c vvs vs):Acn c (Xq vvs) (packed vs):=by
 cases vvs with
 | nil=>cases vs with
  | nil=>exact ⟨#[],rfl,trivial⟩
  | cons=>exact h.elim
 | cons v vvs=>
  cases vs with
  | nil=>exact h.elim
  | cons u us=>
   cases vvs with
   | nil=>cases us with
    | nil=>exact h.1
    | cons=>exact h.2.elim
   | cons v2 vvs=>
    cases us with
    | nil=>exact h.2.elim
    | cons u2 us=>exact ⟨_,rfl,by simpa using h⟩
theorem Qb (vvs:List VV): ∀k∈Br (Xq vvs),k∈vvs.flatMap Ap:=by
 intro k hk
 unfold Xq at hk
 split at hk
 ·simpa [Br] using hk
 ·simpa [Br] using hk
theorem LH.call {n i m:Nat} {gs:List (Arg × Bool)} {as:List Arg} (h:LH R ρ [⟨n,⟨gs,.call i as m⟩⟩]) (hg:holds ρ gs=some true):
  ∃xs rs,Arg.evs ρ as=some xs∧R ⟨i,0⟩ xs=some rs∧rs.length=m∧ ∀j,j<rs.length→ρ[n+j]?=rs[j]?:=by
 obtain ⟨xs,h1,h2⟩:=h _ (List.mem_singleton.2 rfl)
 simp only [Jc.ev,hg,Option.bind_some,if_true,Kj.ev] at h1
 cases hv:Arg.evs ρ as with
 | none=>simp [hv] at h1
 | some vs=>
  simp only [hv,Option.bind_some] at h1
  cases hy:R ⟨i,0⟩ vs with
  | none=>simp [hy] at h1
  | some y=>
   simp only [hy,Option.bind_some] at h1
   split at h1
   ·rename_i hlen
    injection h1 with h1
    subst h1
    exact ⟨vs,y,rfl,hy,hlen,fun j hj=>h2 j (by simpa [Kj.arity,←hlen] using hj)⟩
   ·cases h1
theorem Yf {specs:List (Nat × Spec)} {i:Nat} {s:Spec} {vvs:List VV} {args0 args:List Value} (hfl:Hk 0 s.params args0=some args) (hS:Sound P specs R) (hmem:(i,s)∈specs) (G:Good P N X ρ K S.tm (cur S es.obs) μ a w) (h:Ev S (Ra P i s vvs) es sx es' ls) (hl:LH R ρ ls)
  (hg:holds ρ es.gs=some true) (hk: ∀k∈vvs.flatMap Ap,K k) (hv:Dy (A6 P X ρ (cur S es.obs) μ w) vvs args) (hfr: ∀k,es.m≤k→k<es'.m→ ¬ K k):
  Aj2 P s.fn args0.toArray w fun v w'=> ∃μ',Out P N X ρ K S μ a w es es' sx μ' w' v:=by
 unfold Ra at h
 rw [Aa] at h
 obtain ⟨_,_,_,_,h0,h,rfl⟩:=h
 rw [Ae] at h0
 obtain ⟨g0,rfl,rfl⟩:=h0
 rw [Aa] at h
 obtain ⟨_,e0,_,_,h0,h,rfl⟩:=h
 have hbare:es=e0∧(s.params.all PS.De=true∨es.gs= []):=by
  unfold Alk at h0
  rw [Gk] at h0
  rcases h0 with ⟨hp,h0⟩ | ⟨_,h0⟩
  ·rw [Ac] at h0;exact ⟨h0.2.1,.inl hp⟩
  ·rw [Cy] at h0;exact ⟨h0.2.1,.inr h0.1⟩
 obtain ⟨rfl,hbare⟩:=hbare
 simp only [Aa,Ac7,Ac] at h
 obtain ⟨ks,_,_,_,h00,⟨ab,e1,l1,_,h1,⟨_,e1',l1',_,hst,⟨_,e2,l2,_,h2,⟨n,_,_,_,⟨rfl,rfl,rfl⟩,⟨rm,e3,l3,_,h3,⟨_,e4,l4,_,h4,⟨rfl,rfl,rfl⟩,rfl⟩,rfl⟩,rfl⟩,rfl⟩,rfl⟩,rfl⟩,rfl⟩:=h
 obtain ⟨rfl,rfl,hks⟩:=O9 h00
 have hl:=hl.right.right.right
 obtain ⟨al,xs,L,p1,d,p4,p3,hfl0⟩: ∃ (al:Bool) (xs:List IV) (L:List Nat),Arg.evs ρ ab.1=some xs∧Lw P N X ρ K S μ a w L es e1∧Mg P K μ s.params args ab.2∧
   Dg P w (fun b=>(al=true∧(X b∨Wr (cur S e1.obs) μ b))∨b∈L) (fun _=>False) s.params xs args L∧
   (al=false→s.results.all (RS.flat P)=true∧(s.params.all PS.De=true∨s.params.all (PS.safe P)=true)):=by
  generalize hlent:(!s.alias_ && !s.params.all PS.De&&s.params.all (PS.safe P)&&Ko s.params vvs)=Zk at h00 hks h1
  cases Zk with
  | true=>
   simp only [Bool.and_eq_true,Bool.not_eq_true'] at hlent
   obtain ⟨⟨⟨a1,a2⟩,a3⟩,a4⟩:=hlent
   simp only [Bool.not_true,Bool.false_and] at h1
   simp only [if_true] at hks
   obtain ⟨xs,L,p1,d,p3,p4⟩:=Td (KS:=ks) G h1 hl.left hg hk hv a3 a4 hks
   obtain ⟨_,_,hst'⟩:=K3 d hst
   refine ⟨false,xs,L,p1,d,p4,p3.weaken fun b hb ho=>?_,fun _=>⟨by simpa [a1] using g0,.inr a3⟩⟩
   have ho:b∈L:=ho.resolve_left (by simp)
   exact ⟨.inr ho,fun k hk hb=>hst' k hk b hb ho⟩
  | false=>
   simp only [Bool.not_false,Bool.true_and] at h1
   generalize hal:(s.alias_|| !s.params.all PS.De)=al at h1
   have hal':s.params.all PS.De=true∨al=true:=by
    by_cases hp:s.params.all PS.De=true
    ·exact .inl hp
    ·right;rw [←hal];simp [hp]
   obtain ⟨xs,L,p1,d,p3,p4⟩:=On G h1 hl.left hg hk hv hal'
   refine ⟨al,xs,L,p1,d,p4,p3.weaken fun b hb ho=>?_,fun ha=>?_⟩
   ·rcases ho with ⟨ha,ho⟩ | ho
    ·exact ⟨ha,ho.imp .inl id⟩
    ·refine ⟨?_,.inl (.inr ho)⟩
     rcases hal' with hp | hp
     ·rw [p3.pure hp] at ho;cases ho
     ·exact hp
   ·subst ha
    simp only [Bool.or_eq_false_iff,Bool.not_eq_false'] at hal
    exact ⟨by simpa [hal.1] using g0,.inl hal.2⟩
 have hl:=hl.right
 obtain ⟨rfl,rfl,_⟩:=K3 d hst
 have hl:=hl.right
 obtain ⟨rfl,rfl,p3'⟩:=Ae5 d h2 hv p3
 have hl:=hl.right
 obtain ⟨xs',rs,q1,q2,q3,q4⟩:=LH.call hl.left (by rw [d.gs];exact hg)
 rw [p1] at q1;injection q1 with q1;subst q1
 -- what the callee must not touch
 have hargs:Dg P w (fun b=>(al=true∧(X b∨Wr (cur S e1.obs) μ b))∨b∈L) (· ∈L) s.params xs args L:=p3'
 have hdo:=hS i s hmem w (fun b=>al=true∧(X b∨Wr (cur S e1.obs) μ b)) xs args0 args L rs hfl hargs d.nodup
  (fun b hb hx=>by
   rcases hx.2 with hx | ⟨k,o,r1,r2,r3⟩
   ·obtain ⟨k,o,r1,r2,r3⟩:=d.own b hb
    exact G.xsep k o b r1 r2 r3 hx
   ·exact d.Bu.xsep k o b r1 r2 r3 (.inr hb))
  (fun b hx=>by
   rcases hx.2 with hx | ⟨k,o,r1,r2,r3⟩
   ·exact G.xlt b hx
   ·exact d.Bu.Kg r1 r2 r3) q2
 refine hdo.mono fun v w' A=>?_
 obtain ⟨vs,ivs,bvs,L1,L2,rfl,rfl,hnd,hLn,hres,hback⟩:=A.out
 have hOA: ∀ (WA:Nat→Prop),(∀b,WA b→Wr (cur S e1.obs) μ b∨b∈L1++L2)→ ∃O:Nat→Prop,Gg P w' O s.results ivs vs L1∧Bi P w' O s.params bvs args L2∧ ∀b,(X b∨WA b)→O b:=by
  intro WA hWA
  cases ha:al with
  | true=>
   refine ⟨_,hres,hback,fun b hb=>?_⟩
   subst ha
   rcases hb with hb | hb
   ·exact .inl ⟨rfl,.inl hb⟩
   ·exact (hWA b hb).imp (fun h=>⟨rfl,.inr h⟩) id
  | false=>
   obtain ⟨hflat,hps⟩:=hfl0 ha
   exact ⟨fun _=>True,hres.flat hflat,hps.elim (fun hp=>hback.free hp) (fun hp=>hback.flat hp),fun _ _=>trivial⟩
 obtain ⟨t1,t2⟩:=Nk q4
 by_cases hgs:es.gs= []
 ·obtain ⟨O,o1,o2,o3⟩:=hOA (fun b=>Wr (cur S e1.obs) μ b∨b∈L1++L2) fun _ h=>h
  have r0:=Ae7 G d A.step hLn
  have hgs1:e1.gs= []:=d.gs.trans hgs
  rw [List.nodup_append] at hnd
  obtain ⟨hn1,hn2,hn3⟩:=hnd
  have hm34:e3.m≤e4.m:=Gu h4
  obtain ⟨rfl,u1,u2,u3,μ1,u4,u5,u6,u7,u8⟩:=J5 (c:=cxW P X ρ (fun b=>Wr (cur S e1.obs) μ b∨b∈L1++L2) μ w') (es:= {e1 with n:=e1.n+(Kj.call i ab.1 s.arity).arity}) hgs1 h3
   (o1.weaken fun b _ hb=>o3 b hb) hn1 (fun b hb=>⟨List.mem_append_left _ hb,.inr (List.mem_append_left _ hb)⟩) r0 t1 (fun k k1 k2=>hfr k (by have:=d.m;have k1:e1.m≤k:=k1;omega) (by omega))
  have u3:e1.m≤e3.m:=u3
  have hm1:=d.m
  rw [u8] at h4
  obtain ⟨rfl,v1,v2,v3,μ',v4,v5,_⟩:=Hb (c:=(cxW P X ρ (fun b=>Wr (cur S e1.obs) μ b∨b∈L1++L2) μ w').at μ1) (u2.trans hgs1) h4
   (o2.weaken fun b _ hb=>o3 b hb) (p4.mono (fun _ h=> .inl h) u4) hn2 (fun b hb=>⟨⟨List.mem_append_right _ hb,fun h=>hn3 b h b hb rfl⟩,.inr (List.mem_append_right _ hb)⟩) u5 t2 (fun k k1 k2 hk=>by
    rcases hk with hk | hk
    ·exact hfr k (by omega) k2 hk
    ·have hk2:k<e3.m:=hk.2
     omega)
  have hw: ∀k,Al (Al K e1.m e3.m) e3.m e4.m k→Al K es.m e4.m k:=by
   intro k hk
   have:=B9 u3 v3 k hk
   rwa [hm1] at this
  have Lt:=Cx.later (c:=(cxW P X ρ (fun b=>Wr (cur S e1.obs) μ b∨b∈L1++L2) μ w').at μ1) (μ:=μ') u5.wo v4
  refine ⟨μ',Akb G d A.step hLn (v5.keys hw fun b h=>h) (Vn (Lt.N7 u7 u6)) (fun k hk=>hw k (.inl (u7 k (Qb _ k hk)))) fun k hk=>(v4 k (.inl hk)).trans (u4 k hk)⟩
 ·have hp:s.params.all PS.De=true:=hbare.resolve_right hgs
  have hL:=p3.pure hp
  subst hL
  have hgs1:e1.gs.isEmpty=false:=by rw [d.gs];cases hh:es.gs<;>simp_all
  obtain ⟨O,o1,o2,o3⟩:=hOA (fun b=>Wr (cur S e1.obs) μ b∨b∈([]:List Nat)) fun b h=>h.imp id fun h=>by cases h
  have r0:=Ae7 (Ln:= []) G d A.step (by simp)
  obtain ⟨rfl,rfl,u1,u2⟩:=Lk (c:=cxW P X ρ (fun b=>Wr (cur S e1.obs) μ b∨b∈([]:List Nat)) μ w') (es:= {e1 with n:=e1.n+(Kj.call i ab.1 s.arity).arity}) hgs1 h3 o1 (fun b _ hb=>o3 b hb)
   (fun b hb hO=>by
    have hf:w.heap.size≤b:=(hLn b (List.mem_append_left _ hb)).resolve_left (by simp)
    rcases hO with hO | ⟨k,o,y1,y2,y3⟩ | hO
    ·have:=G.xlt b hO;omega
    ·have:=d.Bu.Kg y1 y2 y3;omega
    ·cases hO) t1
  have hbk:=p4.pure hp
  rw [hbk] at h4
  unfold C8 at h4
  rw [Ac] at h4
  obtain ⟨_,rfl,rfl⟩:=h4
  refine ⟨μ,Akb (Ln:= []) G d A.step (by simp) (r0.keys (fun _ h=> .inl h) fun b h=>h) (Vn u1) (fun k hk=>?_) fun _ _=>rfl⟩
  have:=Qb _ k hk
  rw [u2] at this
  cases this
end
end Go.CT
namespace Go.CT
open EM
section
variable {P:Program} {N:Nat} {X:Nat→Prop} {R:Job→List IV→Option (List IV)} {ρ:List IV} {K:Nat→Prop} {S:View} {μ:Nat→Value} {a:Act} {w w':World} {es es':ES} {ls:List PLt} {sx:SX}
 {tm:Nat→SV} {ob:Nat→Option Ob}
theorem Ms (obj:Obj):C0 K (A6 P X ρ ob μ w) (A6 P X ρ ob μ (w.alloc obj)):=
 {P:=rfl,ρ:=fun _ _ h=>h,μ:=fun _ _=>rfl,stays:=(D4 _ w obj).stays,O:=fun _ _ h=>h,W:=fun _ _ h=>h,WO:=fun _ h=> .inr h}
theorem Good.alloc (G:Good P N X ρ K tm ob μ a w) (obj:Obj):Good P N X ρ K tm ob μ a (w.alloc obj):=
 ⟨G.size,G.defers,fun s=>(Ms obj).Ajn (G.kt s) (G.slot s),fun k o ho=>(Ms obj).Aa7 (G.ko k o ho).1 (G.ko k o ho).2 (fun _ b _ hlt=>Go.RowKit.Below.heap_alloc _ _ _ hlt) (G.obj k o ho),G.sep,G.xsep,
  fun b hb=>Nat.lt_of_lt_of_le (G.xlt b hb) (D4 (fun _=>False) w obj).size,G.kt,G.ko⟩
theorem S8 {t:TypeId} {len:Nat} {parts:Array (Nat × Operand)} (G:Good P N X ρ K S.tm (cur S es.obs) μ a w) (h:Ev S (K5 P t len parts) es sx es' ls) (hl:LH R ρ ls) (hg:holds ρ es.gs=some true):
  ∃v w' μ',(Instr.buildSlice t len (parts.map fun (i,x)=>(i,a.eval x))).run P w= .ok v w'∧Out P N X ρ K S μ a w es es' sx μ' w' v:=by
 unfold K5 at h
 rw [Aa] at h
 obtain ⟨e,_,_,_,h0,h,rfl⟩:=h
 rw [Ai] at h0
 obtain ⟨he,rfl,rfl⟩:=h0
 rw [Aa] at h
 obtain ⟨_,_,_,_,h0,h,rfl⟩:=h
 rw [Ae] at h0
 obtain ⟨g1,rfl,rfl⟩:=h0
 simp only [Bool.and_eq_true,decide_eq_true_eq,beq_iff_eq] at g1
 obtain ⟨⟨⟨⟨g1,g2⟩,g3⟩,g4⟩,g5⟩:=g1
 rw [Aa] at h
 obtain ⟨as,e1,l1,_,h1,h,rfl⟩:=h
 have hl:=hl.right.right
 obtain ⟨p,xs,q1,q2,q3⟩:=Kv g5 G h1 hl.left hg
 simp only [Aa,Bb,Ac] at h
 obtain ⟨_,_,_,_,⟨rfl,rfl,rfl⟩,⟨rfl,rfl,rfl⟩,rfl⟩:=h
 obtain ⟨vs,iv,r1,r2,r3⟩:=LH.Bo hl.right.left (by rw [p.gs];exact hg)
 rw [q1] at r1;injection r1 with r1;subst r1
 simp only [Prim.ev,Option.some.injEq] at r2;subst r2
 obtain ⟨i,z,z1,z2,z3,z4,z5⟩:=Mr g4
 have ht:=Ba he
 have hlen:(parts.toList.map fun p=>a.eval p.2).length =len:=by simp [g3]
 have hxs:=q2.len
 rw [hlen] at hxs
 let vs0:=parts.toList.map fun p=>a.eval p.2
 let cells0:Array Value:=(Array.range (len * Af P e)).map ((if len * Af P e=0 then (#[]:Array Value) else z.cells)[· % (if len * Af P e=0 then (#[]:Array Value) else z.cells).size]!)
 have hc0:cells0.size=len * Af P e:=by simp [cells0]
 obtain ⟨cells',f1,f2⟩:=S9 (sz:=Af P e) vs0 0 cells0 (fun v hv=>(q2.size v hv).1) (by rw [hc0,Nat.zero_add];exact Nat.mul_le_mul_right _ (by simp [vs0,g3]))
 have hvl:vs0.length=len:=hlen
 have f2':cells'.toList=A8 vs0:=by
  rw [f2,Nat.zero_mul,List.take_zero,List.nil_append,Nat.zero_add,hvl,List.drop_of_length_le (by rw [Array.length_toList,hc0];exact Nat.le_refl _),List.append_nil]
 have hcs:cells'.size=len * Af P e:=by
  rw [←Array.length_toList,f2',Dx (sz:=Af P e) (fun v hv=>(q2.size v hv).1),hvl]
 have L:C0 K (A6 P X ρ (cur S e1.obs) μ w) (A6 P X ρ (cur S e1.obs) μ (w.alloc (.cells cells' e))):=Ms _
 refine ⟨.slice (some ⟨w.heap.size,0,none⟩) len len,w.alloc (.cells cells' e),μ,?_,?_⟩
 ·have hparts:(parts.map fun (x:Nat × Operand)=>match x with | (i,x)=>(i,a.eval x)).toList =Ac0 0 vs0:=by
   rw [Array.toList_map]
   have:(fun (x:Nat × Operand)=>match x with | (i,x)=>(i,a.eval x))=fun p=>(p.1,a.eval p.2):=by funext ⟨i,x⟩;rfl
   rw [this];exact q3
  unfold Instr.buildSlice
  have hn: ¬ (len * Af P e > 2 ^ 24):=by omega
  by_cases hzz:len * Af P e=0
  ·simp only [underlying,Sem.run_bind,run_program,Result.andThen_ok,ht,Sem.run_pure,run_sizeOf z1,if_neg hn,if_pos hzz,hparts]
   have f1':=f1
   simp only [cells0,if_pos hzz] at f1'
   rw [f1']
   simp [newRow]
  ·simp only [underlying,Sem.run_bind,run_program,Result.andThen_ok,ht,Sem.run_pure,run_sizeOf z1,if_neg hn,if_neg hzz,hparts,zeroValue,typeInfo,z1,z2]
   have f1':=f1
   simp only [cells0,if_neg hzz] at f1'
   rw [f1']
   simp [newRow]
 ·have hone: ∀u∈A8 vs0,u.oneCell'=true:=fun u hu=>Ex (fun v hv=>(q2.size v hv).2) u hu
  have hrow:Es P (w.alloc (.cells cells' e)) (A6 P X ρ (cur S e1.obs) μ w).O e xs (.slice (some ⟨w.heap.size,0,none⟩) len len):=by
   refine ⟨g2,A8 vs0,?_,L.elems q2.elems,hone⟩
   rw [hxs]
   refine ⟨by rw [Dx (sz:=Af P e) (fun v hv=>(q2.size v hv).1),hvl],.inr ⟨w.heap.size,len,cells',rfl,Nat.zero_le _,heap_alloc_new w _,Nat.le_refl _,?_,hcs,?_⟩⟩
   ·have:maxLen=9223372036854775807:=by decide
    have:=Nat.le_mul_of_pos_right len g2
    omega
   ·rw [List.take_of_length_le (by rw [Array.length_toList,hcs];exact Nat.le_refl _),f2']
  have hrel:=hrow.rel (O':=(A6 P X ρ (cur S e1.obs) μ w).O) ht (fun _ _ h=>h) (fun b hb hO=>by
   simp [blk] at hb
   subst hb
   rcases hO with hO | ⟨k,o,k1,k2,k3⟩
   ·exact Nat.lt_irrefl _ (G.xlt _ hO)
   ·exact Nat.lt_irrefl _ (p.Bu.Kg k1 k2 k3))
  refine ⟨(p.Bu.alloc _).K7 fun _ h=> .inl h,⟨.list xs,r3,hrel⟩,J0 _ _,?_,fun b hb=> .inl (p.Dc.wr hb),fun _ _=>rfl⟩
  exact D4 _ _ _
end
end Go.CT
namespace Go.CT
open EM
section
variable {P:Program} {N:Nat} {X:Nat→Prop} {R:Job→List IV→Option (List IV)} {ρ:List IV} {K:Nat→Prop} {S:View} {μ:Nat→Value} {a:Act} {w w':World} {es es' e1:ES} {ls:List PLt} {sx:SX}
theorem Aiv {p:PS} {v:VV} {b:Bool} (h:Ev S (Ah5 p v) es b es' ls):es=es'∧ls= []:=by
  unfold Ah5 at h
  split at h<;>first
    | (rw [Ac] at h;exact ⟨h.2.1,h.2.2⟩)
    | (rw [Aa] at h
       obtain ⟨o,_,_,l2,h0,h,rfl⟩:=h
       rw [Be] at h0
       obtain ⟨ho,rfl,rfl⟩:=h0
       split at h<;> (rw [Ac] at h;exact ⟨h.2.1,by simpa using h.2.2⟩))
theorem Um: ∀ {ps:List PS} {vs:List VV} {b:Bool} {es es':ES} {ls:List PLt},Ev S (Mm ps vs) es b es' ls→es=es'∧ls= []
 | [],[],b,es,es',ls,h=>by
  unfold Mm at h
  rw [Ac] at h;exact ⟨h.2.1,h.2.2⟩
 | p::ps,v::vs,b,es,es',ls,h=>by
  unfold Mm at h
  rw [Aa] at h
  obtain ⟨c,e1,l1,l2,h1,h2,rfl⟩:=h
  obtain ⟨rfl,rfl⟩:=Aiv h1
  rw [Gk] at h2
  rcases h2 with ⟨_,h2⟩ | ⟨_,h2⟩
  ·obtain ⟨rfl,rfl⟩:=Um h2
   exact ⟨rfl,rfl⟩
  ·rw [Ac] at h2;exact ⟨h2.2.1,by simpa using h2.2.2⟩
 | [],_::_,b,es,es',ls,h=>by unfold Mm at h;rw [Ac] at h;exact ⟨h.2.1,h.2.2⟩
 | _::_,[],b,es,es',ls,h=>by unfold Mm at h;rw [Ac] at h;exact ⟨h.2.1,h.2.2⟩
theorem J8 {f:FuncId} {vs:List VV} : ∀ {ss:List (Nat × Spec)} {q:Nat × Spec} {es es':ES} {ls:List PLt},Ev S (Ka f vs ss) es q es' ls→es=es'∧ls= []∧q∈ss∧q.2.fn=f
 | [],q,es,es',ls,h=>by simp [Ka,Ad] at h
 | (i,s)::ss,q,es,es',ls,h=>by
  unfold Ka at h
  rw [Gk] at h
  rcases h with ⟨h0,h⟩ | ⟨_,h⟩
  ·split at h
   ·rw [Aa] at h
    obtain ⟨c,e1,l1,l2,h1,h2,rfl⟩:=h
    obtain ⟨rfl,rfl⟩:=Um h1
    rw [Gk] at h2
    rcases h2 with ⟨_,h2⟩ | ⟨_,h2⟩
    ·rw [Ac] at h2
     obtain ⟨rfl,rfl,rfl⟩:=h2
     exact ⟨rfl,rfl,List.mem_cons_self,by simpa using h0⟩
    ·obtain ⟨rfl,rfl,q1,q2⟩:=J8 h2
     exact ⟨rfl,rfl,List.mem_cons_of_mem _ q1,q2⟩
   ·obtain ⟨rfl,rfl,q1,q2⟩:=J8 h
    exact ⟨rfl,rfl,List.mem_cons_of_mem _ q1,q2⟩
  ·obtain ⟨rfl,rfl,q1,q2⟩:=J8 h
   exact ⟨rfl,rfl,List.mem_cons_of_mem _ q1,q2⟩
theorem Ae2: ∀ {xs:List Operand} {ts:List TypeId} {es es':ES} {vs:List VV} {ls:List PLt},Good P N X ρ K S.tm (cur S es.obs) μ a w→Ev S (Ag5 P xs ts) es vs es' ls→holds ρ es.gs=some true→
  es=es'∧ls= []∧Dy (A6 P X ρ (cur S es.obs) μ w) vs (xs.map a.eval)∧ ∀k∈vs.flatMap Ap,K k
 | [],ts,es,es',vs,ls,G,h,hg=>by
  unfold Ag5 at h
  rw [Ac] at h
  obtain ⟨rfl,rfl,rfl⟩:=h
  exact ⟨rfl,rfl,trivial,by simp⟩
 | x::xs,t::ts,es,es',vs,ls,G,h,hg=>by
  unfold Ag5 at h
  simp only [Aa,Ac] at h
  obtain ⟨v,e1,l1,_,h1,⟨vs,e2,l2,_,h2,⟨rfl,rfl,rfl⟩,rfl⟩,rfl⟩:=h
  obtain ⟨rfl,rfl,p1,p2⟩:=Eu G h1 hg
  obtain ⟨rfl,rfl,q1,q2⟩:=Ae2 G h2 hg
  refine ⟨rfl,rfl,⟨p1,q1⟩,fun k hk=>?_⟩
  rw [List.flatMap_cons] at hk
  rcases List.mem_append.1 hk with hk | hk
  ·exact p2 k hk
  ·exact q2 k hk
 | _::_,[],es,es',vs,ls,G,h,hg=>by simp [Ag5,Ad] at h
theorem Kk.len {c:Cx} : ∀ {ps:List PV} {vs:List Value},Kk c ps vs→ps.length=vs.length
 | [],[],_=>rfl
 | _::_,_::_,h=>by simp [Kk.len h.2]
 | [],_::_,h=>h.elim
 | _::_,[],h=>h.elim
theorem Wv {c:Cx} : ∀ {k:Nat} {ps:List PS} {vvs fl:List VV} {vs:List Value},Im k ps vvs=some fl→Dy c vvs vs→ ∃fs,Hk k ps vs=some fs∧Dy c fl fs∧ ∀q∈fl.flatMap Ap,q∈vvs.flatMap Ap
 | k+1,_::ps,vvs,fl,vs,h,hv=>by
  unfold Im at h
  unfold Hk
  exact Wv h hv
 | k+1,[],vvs,fl,vs,h,hv=>by simp [Im] at h
 | 0,[],[],fl,vs,h,hv=>by
  cases vs with
  | cons=>exact hv.elim
  | nil=>
   simp only [Im,Option.some.injEq] at h
   subst h
   exact ⟨[],rfl,trivial,by simp⟩
 | 0,[],_::_,fl,vs,h,hv=>by simp [Im] at h
 | 0,p::ps,[],fl,vs,h,hv=>by simp [Im] at h
 | 0,p::ps,x::vvs,fl,vs,h,hv=>by
  cases vs with
  | nil=>exact hv.elim
  | cons v vs=>
   unfold Im at h
   unfold Hk
   cases hp:Z8 p with
   | none=>
    simp only [hp] at h ⊢
    cases hr:Im 0 ps vvs with
    | none=>simp [hr] at h
    | some r=>
     simp only [hr,Option.map_some,Option.some.injEq] at h
     subst h
     obtain ⟨fs,q1,q2,q3⟩:=Wv hr hv.2
     refine ⟨v::fs,by simp [q1],⟨hv.1,q2⟩,fun q hq=>?_⟩
     rw [List.flatMap_cons] at hq ⊢
     exact (List.mem_append.1 hq).elim (fun h=>List.mem_append_left _ h) fun h=>List.mem_append_right _ (q3 q h)
   | some fn=>
    simp only [hp] at h ⊢
    cases hx:Ab9 x with
    | none=>simp [hx] at h
    | some gc=>
     simp only [hx] at h
     split at h
     ·rename_i hc
      simp only [Bool.and_eq_true,beq_iff_eq] at hc
      obtain ⟨g,caps,rfl⟩: ∃g caps,x= .leaf (.fn g caps):=by
       unfold Ab9 at hx
       split at hx
       ·exact ⟨_,_,rfl⟩
       ·cases hx
      simp only [Ab9,Option.some.injEq] at hx
      subst hx
      cases hr:Im fn.2 ps vvs with
      | none=>simp [hr] at h
      | some r=>
       simp only [hr,Option.map_some,Option.some.injEq] at h
       subst h
       obtain ⟨cs,rfl,hcs⟩:=hv.1
       obtain ⟨fs,q1,q2,q3⟩:=Wv hr hv.2
       refine ⟨.func (.func g) #[] cs::(cs.toList++fs),?_,⟨trivial,hcs.N7.append q2⟩,fun q hq=>?_⟩
       ·have hl:=hcs.len
        simp only [Axd,Array.isEmpty_empty,if_true,q1,Option.map_some]
        rw [if_pos]
        simp only [Bool.and_eq_true,beq_iff_eq]
        exact ⟨hc.1,hl ▸ hc.2⟩
       ·rw [List.flatMap_cons,List.flatMap_append,Nn] at hq
        rw [List.flatMap_cons]
        rcases List.mem_append.1 hq with hq | hq
        ·simp [Ap,As] at hq
        ·exact (List.mem_append.1 hq).elim (fun h=>List.mem_append_left _ h) fun h=>List.mem_append_right _ (q3 q h)
     ·cases h
theorem Aha {o:Oper} {f:FuncId} {args:Array Value} {R:Value→World→Prop} {next:Act→World→Prop} {Q:Exit→Act→World→Prop} (h:Aj2 P f args w R) (he:(execOp a.eval o).run P w=(callFunc f args).run P w)
  (hn: ∀v w',R v w'→next (a.put o.dst v) w'):o.wp P a w next Q:=by
 unfold Oper.wp
 rw [he]
 rcases h with ⟨fn,h1,h2,h3,h4⟩ | ⟨v,w',h1,h2⟩
 ·have:(callFunc f args).run P w= .ok (.enter f args) w:=by
   have h2': ¬ fn.name= "runtime.NumGoroutine" :=by simpa using h2
   have h3': ¬ fn.body=none:=fun e=>by simp [e] at h3
   simp [callFunc,h1,h2',h3']
  rw [this,Oper.upon_enter]
  refine h4.mono fun e w' ⟨v,hv,hR⟩=>?_
  subst hv
  exact hn v w' hR
 ·rw [h1];exact hn v w' h2
theorem Aw0 {specs:List (Nat × Spec)} {o:Oper} {next:Act→World→Prop} {Q:Exit→Act→World→Prop} (hS:Sound P specs R) (G:Good P N X ρ K S.tm (cur S es.obs) μ a w) (h:Ev S (xOp P specs o) es sx es' ls) (hl:LH R ρ ls)
  (hg:holds ρ es.gs=some true) (hfr: ∀k,es.m≤k→k<es'.m→ ¬ K k) (hn: ∀v w' μ',Out P N X ρ K S μ a w es es' sx μ' w' v→next (a.put o.dst v) w'):o.wp P a w next Q:=by
 have val: ∀ {s:Sem Value},(execOp a.eval o=do pure (.value (←s)))→(∃v w' μ',s.run P w= .ok v w'∧Out P N X ρ K S μ a w es es' sx μ' w' v)→o.wp P a w next Q:=by
  intro s he ⟨v,w',μ',h1,h2⟩
  refine Cc (w':=w') (v:=v) ?_ (hn v w' μ' h2)
  rw [he,Sem.run_bind,h1];rfl
 have val0: ∀ {s:Sem Value},(execOp a.eval o=do pure (.value (←s)))→(∃v,s.run P w= .ok v w∧Out P N X ρ K S μ a w es es' sx μ w v)→o.wp P a w next Q:=by
  intro s he ⟨v,h1,h2⟩
  exact val he ⟨v,w,μ,h1,h2⟩
 unfold xOp at h
 split at h
 ·rename_i x ho
  obtain ⟨rfl,rfl,q1,q2⟩:=Ant G h hg
  exact Cc (w':=w) (v:=a.eval x) (by simp [execOp,ho]) (hn _ _ μ (Ph.out (.refl G) q1 q2))
 ·rename_i x ho
  obtain ⟨rfl,rfl,q1,q2⟩:=Ant G h hg
  exact Cc (w':=w) (v:=a.eval x) (by simp [execOp,ho]) (hn _ _ μ (Ph.out (.refl G) q1 q2))
 ·rename_i c x y ho
  obtain ⟨v,h1,h2⟩:=Aor G h hl hg
  refine Cc (w':=w) (v:=v) ?_ (hn _ _ μ h2)
  simp only [execOp,ho]
  simp only [Sem.run_bind,Sem.run_pure] at h1 ⊢
  cases hc:(asBool (a.eval c)).run P w with
  | halt=>simp [hc] at h1
  | ok b w2=>simp [hc] at h1 ⊢;exact h1
 ·rename_i t x ho
  exact val (by simp [execOp,ho]) (Atm G h hg hfr)
 ·rename_i t ho
  split at h
  ·exact val (by simp [execOp,ho]) (Agc G h hfr)
  ·exact val (by simp [execOp,ho]) (Aky G h hfr)
 ·rename_i t x ho
  exact val0 (by simp [execOp,ho]) (Am5 G h hl hg)
 ·rename_i t x y ho
  rw [Aa] at h
  obtain ⟨vv,e1,l1,_,h1,h,rfl⟩:=h
  rw [Aa] at h
  obtain ⟨p,e2,l2,_,h2,h,rfl⟩:=h
  obtain ⟨rfl,rfl,rfl,hp,hpk⟩:=Ox G h1 h2 hg
  rw [Aa] at h
  obtain ⟨v,e3,l3,_,h3,h,rfl⟩:=h
  obtain ⟨rfl,rfl,hv,hvk⟩:=Eu G h3 hg
  rw [Aa] at h
  obtain ⟨_,e4,l4,_,h4,h,rfl⟩:=h
  rw [Ac] at h
  obtain ⟨rfl,rfl,rfl⟩:=h
  obtain ⟨w',μ',r1,r2⟩:=Aiq G h4 (by simpa using hl) hg hp hpk hv hvk
  unfold Oper.wp
  have:(execOp a.eval o).run P w= .ok .skip w':=by simp [execOp,ho,r1]
  rw [this,Oper.upon_skip]
  exact hn undef w' μ' r2
 ·rename_i s x f ho
  exact val0 (by simp [execOp,ho]) (W9 G h hg)
 ·rename_i s x f ho
  exact val0 (by simp [execOp,ho]) (Akz G h hl hg)
 ·rename_i t x i ho
  exact val0 (by simp [execOp,ho]) (Xt G h hl hg)
 ·rename_i t x i ho
  exact val0 (by simp [execOp,ho]) (Af4 G h hl hg)
 ·rename_i t x lo hi mx ho
  exact val0 (by simp [execOp,ho]) (Amf G h hl hg)
 ·rename_i op xt x y yt ho
  exact val0 (by simp [execOp,ho]) (At7 G h hl hg)
 ·rename_i op xt x ho
  exact val0 (by simp [execOp,ho]) (Aw3 G h hl hg)
 ·rename_i src dst x ho
  exact val0 (by simp [execOp,ho]) (Aoq G h hl hg)
 ·rename_i x ho
  obtain ⟨v,h1,h2⟩:=Aal ho G h hg
  exact Cc h1 (hn _ _ μ h2)
 ·rename_i x i ho
  exact val0 (by simp [execOp,ho]) (Yx G h hl hg)
 ·rename_i t x ho
  exact val (by simp [execOp,ho]) (Alb G h hl hg hfr)
 ·rename_i it isS ho
  exact val (by simp [execOp,ho]) (Ao8 (ty:=o.type) G h hl hg)
 ·rename_i t r ho
  obtain ⟨rfl,h1⟩:=Acj G h hfr
  exact val (by simp [execOp,ho]) h1
 ·rename_i t x i ok ho
  exact val0 (by simp [execOp,ho]) (Af0 G h hl hg)
 ·rename_i t m i x ho
  obtain ⟨w',μ',r1,r2⟩:=Wy G h hl hg
  unfold Oper.wp
  have:(execOp a.eval o).run P w= .ok .skip w':=by simp [execOp,ho,r1]
  rw [this,Oper.upon_skip]
  exact hn undef w' μ' r2
 ·rename_i t parts ho
  exact val0 (by simp [execOp,ho]) (Ajf G h hl hg)
 ·rename_i t len parts ho
  simp only [Aa,Ha] at h
  obtain ⟨gs,_,_,_,⟨rfl,rfl,rfl⟩,h,rfl⟩:=h
  rw [Gk] at h
  rcases h with ⟨_,h⟩ | ⟨_,h⟩
  ·exact val (by simp [execOp,ho]) (Tt G h (by simpa using hl) hg hfr)
  ·exact val (by simp [execOp,ho]) (S8 G h (by simpa using hl) hg)
 ·rename_i t x y ho
  exact val (by simp [execOp,ho]) (V8 G h hl hg hfr)
 ·rename_i f first caps ho
  exact val0 (by simp [execOp,ho]) (Zf G h hg)
 ·rename_i c ho
  unfold Aw2 at h
  split at h
  ·rename_i b hb
   split at h
   ·rename_i x t ha ht
    have e1:c.args= #[x]:=by rw [←Array.toArray_toList (xs:=c.args),ha]
    have e2:c.argTypes= #[t]:=by rw [←Array.toArray_toList (xs:=c.argTypes),ht]
    obtain ⟨v,h1,h2⟩:=As4 e2 G h hl hg
    refine Cc (w':=w) (v:=v) ?_ (hn _ _ μ h2)
    simp [execOp,ho,resolve,hb,e1,invoke,builtin,h1]
   ·rename_i s x st xt ha ht
    have e1:c.args= #[s,x]:=by rw [←Array.toArray_toList (xs:=c.args),ha]
    have e2:c.argTypes= #[st,xt]:=by rw [←Array.toArray_toList (xs:=c.argTypes),ht]
    rw [Gk] at h
    rcases h with ⟨_,h⟩ | ⟨_,h⟩
    ·obtain ⟨v,w',μ',h1,h2⟩:=Acx G h hl hg hfr
     refine Cc (w':=w') (v:=v) ?_ (hn _ _ μ' h2)
     simp [execOp,ho,resolve,hb,e1,e2,invoke,builtin,h1]
    ·obtain ⟨v,w',μ',h1,h2⟩:=Xd G h hl hg hfr
     refine Cc (w':=w') (v:=v) ?_ (hn _ _ μ' h2)
     simp [execOp,ho,resolve,hb,e1,e2,invoke,builtin,h1]
   ·rename_i x t ha ht
    have e1:c.args= #[x]:=by rw [←Array.toArray_toList (xs:=c.args),ha]
    have e2:c.argTypes= #[t]:=by rw [←Array.toArray_toList (xs:=c.argTypes),ht]
    obtain ⟨v,w',μ',h1,h2⟩:=Ahp (rt:=o.type) G h hl hg
    refine Cc (w':=w') (v:=v) ?_ (hn _ _ μ' h2)
    simp [execOp,ho,resolve,hb,e1,e2,invoke,builtin,h1]
   ·rename_i x y t u ha ht
    have e1:c.args= #[x,y]:=by rw [←Array.toArray_toList (xs:=c.args),ha]
    rw [Aa] at h
    obtain ⟨_,_,_,_,h0,h,rfl⟩:=h
    rw [Ae] at h0
    obtain ⟨g0,rfl,rfl⟩:=h0
    obtain ⟨v,h1,h2⟩:=Vl (ats:=c.argTypes) G h (by simpa using hl) hg
    refine Cc (w':=w) (v:=v) ?_ (hn _ _ μ h2)
    simp only [if_true] at h1
    simp [execOp,ho,resolve,hb,e1,invoke,builtin,h1]
   ·rename_i x y t u ha ht
    have e1:c.args= #[x,y]:=by rw [←Array.toArray_toList (xs:=c.args),ha]
    rw [Aa] at h
    obtain ⟨_,_,_,_,h0,h,rfl⟩:=h
    rw [Ae] at h0
    obtain ⟨g0,rfl,rfl⟩:=h0
    obtain ⟨v,h1,h2⟩:=Vl (ats:=c.argTypes) G h (by simpa using hl) hg
    refine Cc (w':=w) (v:=v) ?_ (hn _ _ μ h2)
    simp only [Bool.false_eq_true,if_false] at h1
    simp [execOp,ho,resolve,hb,e1,invoke,builtin,h1]
   ·simp [Ad] at h
  ·rename_i fo hb
   rw [Aa] at h
   obtain ⟨fv,e1,l1,_,h1,h,rfl⟩:=h
   obtain ⟨rfl,rfl,p1,p2⟩:=Eu G h1 hg
   split at h
   ·rename_i f caps
    obtain ⟨vs,p1,p3⟩:=p1
    rw [Aa] at h
    obtain ⟨vvs,e2,l2,_,h2,h,rfl⟩:=h
    obtain ⟨rfl,rfl,q1,q2⟩:=Ae2 G h2 hg
    simp only [Aa] at h
    obtain ⟨q,e3,l3,_,h3,⟨fl,_,_,_,h0,h,rfl⟩,rfl⟩:=h
    obtain ⟨rfl,rfl,r1,r2⟩:=J8 h3
    rw [Ai] at h0
    obtain ⟨hfl,rfl,rfl⟩:=h0
    obtain ⟨fs,f1,f2,f3⟩:=Wv hfl (q1.append p3.N7)
    have hdo:=Yf f1 hS r1 G h (by simpa using hl) hg (fun k hk=>by
     have hk:=f3 k hk
     rw [List.flatMap_append,Nn] at hk
     rcases List.mem_append.1 hk with hk | hk
     ·exact q2 k hk
     ·exact p2 k hk) f2 hfr
    rw [r2] at hdo
    refine Aha hdo ?_ fun v w' ⟨μ',hO⟩=>hn v w' μ' hO
    have e:(c.args.toList.map a.eval++vs.toList).toArray =c.args.map a.eval++vs:=by
     apply Array.toList_inj.1;simp
    rw [e]
    simp [execOp,ho,resolve,hb,p1,Deferred.ofValue,invoke]
   ·simp [Ad] at h
  ·simp [Ad] at h
 ·simp [Ad] at h
end
end Go.CT
namespace Go.CT
open EM
theorem RM.Nr {α:Type} {S S':View} : ∀ {f:RM α} {x:α} {ls:List PLt} {sl ks:List Nat},f.run S=some (x,ls,sl,ks)→(∀t∈sl,S'.tm t=S.tm t)→(∀k∈ks,S'.ob k=S.ob k)→f.run S'=some (x,ls,sl,ks)
 | .pure a,x,ls,sl,ks,h,_,_=>h
 | .tm s k,x,ls,sl,ks,h,h1,h2=>by
  simp only [RM.run,Option.map_eq_some_iff,Prod.exists] at h
  obtain ⟨a,e,l,r,h,h'⟩:=h
  simp only [Prod.mk.injEq] at h'
  obtain ⟨rfl,rfl,rfl,rfl⟩:=h'
  have:=RM.Nr h (fun t ht=>h1 t (List.mem_cons_of_mem _ ht)) h2
  simp only [RM.run,h1 s List.mem_cons_self,this,Option.map_some]
 | .ob s k,x,ls,sl,ks,h,h1,h2=>by
  simp only [RM.run,Option.map_eq_some_iff,Prod.exists] at h
  obtain ⟨a,e,l,r,h,h'⟩:=h
  simp only [Prod.mk.injEq] at h'
  obtain ⟨rfl,rfl,rfl,rfl⟩:=h'
  have:=RM.Nr h h1 (fun t ht=>h2 t (List.mem_cons_of_mem _ ht))
  simp only [RM.run,h2 s List.mem_cons_self,this,Option.map_some]
 | .emit l k,x,ls,sl,ks,h,h1,h2=>by
  simp only [RM.run,Option.map_eq_some_iff,Prod.exists] at h
  obtain ⟨a,e,l,r,h,h'⟩:=h
  simp only [Prod.mk.injEq] at h'
  obtain ⟨rfl,rfl,rfl,rfl⟩:=h'
  have:=RM.Nr h h1 h2
  simp only [RM.run,this,Option.map_some]
section
variable {P:Program} {N:Nat} {X:Nat→Prop} {R:Job→List IV→Option (List IV)} {ρ:List IV} {K:Nat→Prop} {S:View} {μ:Nat→Value} {a:Act} {w w':World} {es es' e1:ES} {ls:List PLt} {sx:SX}
 {tm:Nat→SV} {ob:Nat→Option Ob} {specs:List (Nat × Spec)} {ops:Array Oper}
structure FS (P:Program) (N:Nat) (X:Nat→Prop) (ρ:List IV) (K:Nat→Prop) (tm:Nat→SV) (ob:Nat→Option Ob) (μ:Nat→Value) (a:Act) (w:World) (W0:Nat→Prop) (w0:World) (H:Nat→Prop) (hd:Nat→Value):Prop where
 Bu:Good P N X ρ K tm ob μ a w
 step:Gb W0 w0 w
 own: ∀b,Wr ob μ b→W0 b∨w0.heap.size≤b
 hdr: ∀k,H k→K k∧μ k=hd k
theorem FS.out {W0:Nat→Prop} {w0:World} {H:Nat→Prop} {hd:Nat→Value} {μ':Nat→Value} {v:Value} (F:FS P N X ρ K S.tm (cur S es.obs) μ a w W0 w0 H hd) (o:Out P N X ρ K S μ a w es es' sx μ' w' v):
  Gb W0 w0 w'∧ ∀b,Wr (cur S es'.obs) μ' b→W0 b∨w0.heap.size≤b:=by
 refine ⟨⟨o.step.os.trans F.step.os,o.step.tape.trans F.step.tape,o.step.output.trans F.step.output,Nat.le_trans F.step.size o.step.size,fun b hb hw=>?_⟩,fun b hb=>?_⟩
 ·rw [o.step.stays b (Nat.lt_of_lt_of_le hb F.step.size) fun h=>?_,F.step.stays b hb hw]
  rcases F.own b h with h | h
  ·exact hw h
  ·omega
 ·rcases o.own b hb with h | h
  ·exact F.own b h
  ·exact .inr (Nat.le_trans F.step.size h)
theorem Good.Ahz (G:Good P N X ρ K tm ob μ a w) {d:Option Nat} {sv:SV} {v:Value} (hd: ∀t,d=some t→t<N) (hv:Amk (A6 P X ρ ob μ w) sv v) (hk: ∀k∈Br sv.x,K k):
  Good P N X ρ K (fun t=>if d=some t then sv else tm t) ob μ (a.put d v) w:=by
 cases d with
 | none=>simpa [Act.put] using G
 | some t=>
  have ht:=hd t rfl
  refine ⟨by simpa [Act.put] using G.size,G.defers,fun s=>?_,G.obj,G.sep,G.xsep,G.xlt,fun s k hk'=>?_,G.ko⟩
  ·by_cases hs:t=s
   ·subst hs
    have:(a.put (some t) v).tmps.getD t undef=v:=by
     have hlt:t<a.tmps.size:=by rw [G.size];exact ht
     simp [Act.put,hlt]
    rw [this];simpa using hv
   ·have:(a.put (some t) v).tmps.getD s undef=a.tmps.getD s undef:=by
     simp [Act.put,Array.getElem?_setIfInBounds_ne hs]
    rw [this];simpa [hs] using G.slot s
  ·by_cases hs:t=s
   ·subst hs;simp at hk';exact hk k hk'
   ·simp [hs] at hk';exact G.kt s k hk'
theorem P2: ∀ {gs hs:List (Arg × Bool)},holds ρ (gs++hs)=match holds ρ gs with | some true=>holds ρ hs | r=>r
 | [],hs=>rfl
 | (x,want)::gs,hs=>by
  simp only [List.cons_append,holds]
  cases hx:x.ev ρ with
  | none=>rfl
  | some y=>
   cases y<;>try rfl
   rename_i b
   by_cases hb:b=want
   ·simp only [hb,if_true];exact P2
   ·simp [hb]
theorem Ag8 {o:Oper} {gs:List (Arg × Bool)} {gk:List Nat} (h:Wq P S ops o=some (gs,gk)) (hs: ∀t∈gk,tm t=S.tm t) (G:Good P N X ρ K tm ob μ a w):
  holds ρ gs=some (Region.wanted o (yielded ops a.tmps)):=by
 unfold Wq at h
 cases hg:o.guard with
 | none=>
  simp only [hg,Option.some.injEq,Prod.mk.injEq] at h
  obtain ⟨rfl,rfl⟩:=h
  simp [holds,Region.wanted,hg]
 | some jw=>
  obtain ⟨j,want⟩:=jw
  simp only [hg] at h
  cases hd:(ops[j]?).bind (·.dst) with
  | none=>simp [hd] at h
  | some d=>
   simp only [hd] at h
   split at h
   ·rename_i x t hx
    split at h
    ·rename_i hb
     simp only [Option.some.injEq,Prod.mk.injEq] at h
     obtain ⟨rfl,rfl⟩:=h
     have hsd:=hs d (by simp)
     obtain ⟨b,h1,h2,h3⟩:=G.slot d
     rw [hsd] at h1 h2
     have h1:holds ρ (S.tm d).gs =some b:=h1
     rw [P2,h1]
     have hw:Region.wanted o (yielded ops a.tmps)=(yielded ops a.tmps j == some want):=by simp [Region.wanted,hg]
     rw [hw]
     have hy:yielded ops a.tmps j=match a.tmps[d]? with | some (.bool b)=>some b | _=>none:=by
      unfold yielded;rw [hd];rfl
     cases b with
     | true=>
      have hx':=h2 rfl
      rw [hx] at hx'
      obtain ⟨iv,q1,q2⟩:=hx'
      obtain ⟨c,rfl,q3⟩:=q2.J7 (Bx hb)
      have q1:x.ev ρ=some (.bool c):=q1
      have:a.tmps[d]?=some (.bool c):=by
       have q3':(a.tmps[d]?).getD undef= .bool c:=by simpa using q3
       cases hq:a.tmps[d]? with
       | none=>rw [hq] at q3';simp [undef] at q3'
       | some z=>rw [hq] at q3';simp at q3';rw [q3']
      rw [hy,this]
      simp only [holds,q1]
      by_cases hcw:c=want
      ·simp [hcw]
      ·simp only [hcw,if_false];cases c<;>cases want<;>simp_all
     | false=>
      have h3:=h3 rfl
      have hne:yielded ops a.tmps j=none:=by
       rw [hy]
       have q3':(a.tmps[d]?).getD undef=undef:=by simpa using h3
       cases hq:a.tmps[d]? with
       | none=>rfl
       | some z=>rw [hq] at q3';simp at q3';rw [q3'];rfl
      rw [hne];rfl
    ·cases h
   ·cases h
theorem Lf {m0:Nat} {x:SX} (h:N8 m0 x=true): ∀k∈Br x,k<m0:=by
 have hp: ∀p:PV,Jt m0 p=true→ ∀k∈Cv p,k<m0:=by
  intro p h k hk
  cases p<;>simp_all [Jt,Cv]
 have hl: ∀l:LV,Js m0 l=true→ ∀k∈As l,k<m0:=by
  intro l h k hk
  cases l<;>simp_all [Js,As]
  ·exact hp _ h k hk
  ·obtain ⟨p,h1,h2⟩:=hk
   exact hp p (h p h1) k h2
 have hv: ∀v:VV,H3 m0 v=true→ ∀k∈Ap v,k<m0:=by
  intro v h k hk
  cases v with
  | leaf l=>exact hl l h k hk
  | agg t ls=>
   simp only [H3,List.all_eq_true] at h
   simp only [Ap,List.mem_flatMap] at hk
   obtain ⟨l,h1,h2⟩:=hk
   exact hl l (h l h1) k h2
 intro k hk
 cases x with
 | one v=>exact hv v h k hk
 | nx=>cases hk
 | tup vs=>
  simp only [N8,List.all_eq_true] at h
  simp only [Br,List.mem_flatMap] at hk
  obtain ⟨v,h1,h2⟩:=hk
  exact hv v (h v h1) k h2
theorem Oa: ∀ {obs:List (Nat × Option Ob)} {S':View},Bs S obs=true→(∀k∈obs.map (·.1),S'.ob k=S.ob k)→Good P N X ρ K tm S'.ob μ a w→Good P N X ρ K tm (cur S' obs) μ a w∧Hn S'.ob (cur S' obs)
 | [],S',_,_,G=>⟨by rw [J1];exact G,by rw [J1];exact Hn.refl _⟩
 | (k,none)::r,S',h,_,_=>by simp [Bs] at h
 | (k,some (.box _ _))::r,S',h,_,_=>by simp [Bs] at h
 | (k,some (.arr _ _ _))::r,S',h,_,_=>by simp [Bs] at h
 | (k,some (.iter _ _))::r,S',h,_,_=>by simp [Bs] at h
 | (k,some (.mp _ _ _ _))::r,S',h,_,_=>by simp [Bs] at h
 | (k,some (.frz e t c))::r,S',h,hk,G=>by
  simp only [Bs,Bool.and_eq_true] at h
  obtain ⟨h1,h2⟩:=h
  obtain ⟨G1,F1⟩:=Oa h2 (fun k hk'=>hk k (by simp at hk' ⊢;exact .inr hk')) G
  rw [A7]
  have hSk:=hk k (by simp)
  -- in the older obs k is frozen already, or still as it was
  have hcur: ∃c',(cur S' r k=some (.arr e t c')∨cur S' r k=some (.frz e t c'))∧c.ev ρ=c'.ev ρ:=by
   have hbase: ∃c',(S.ob k=some (.arr e t c')∨S.ob k=some (.frz e t c'))∧c.ev ρ=c'.ev ρ:=by
    split at h1
    ·rename_i e' t' c' hob
     simp only [Bool.and_eq_true,beq_iff_eq] at h1
     obtain ⟨⟨rfl,rfl⟩,h1⟩:=h1
     exact ⟨c',.inl hob,Arg.Jy h1⟩
    ·rename_i e' t' c' hob
     simp only [Bool.and_eq_true,beq_iff_eq] at h1
     obtain ⟨⟨rfl,rfl⟩,h1⟩:=h1
     exact ⟨c',.inr hob,Arg.Jy h1⟩
    ·cases h1
   obtain ⟨c',hb,hev⟩:=hbase
   unfold cur
   cases hlk:Ga k r with
   | none=>simp only;rw [hSk];exact ⟨c',hb,hev⟩
   | some o=>
    simp only
    -- what stands in r for k is frozen too, of the same row
    have: ∀ {r:List (Nat × Option Ob)} {o:Option Ob},Bs S r=true→Ga k r=some o→ ∃c2,o=some (.frz e t c2)∧c.ev ρ=c2.ev ρ:=by
     intro r o hr hl
     induction r with
     | nil=>simp [Ga] at hl
     | cons q r ih=>
      obtain ⟨k2,o2⟩:=q
      unfold Ga at hl
      by_cases hkk:k2=k
      ·simp only [hkk,beq_self_eq_true,if_true,Option.some.injEq] at hl
       subst hl
       cases o2 with
       | none=>simp [Bs] at hr
       | some ob2=>
        cases ob2 with
        | box=>simp [Bs] at hr
        | arr=>simp [Bs] at hr
        | iter=>simp [Bs] at hr
        | mp=>simp [Bs] at hr
        | frz e2 t2 c2=>
         simp only [Bs,Bool.and_eq_true,hkk] at hr
         obtain ⟨hr,_⟩:=hr
         rcases hb with hb | hb<;>simp only [hb,Bool.and_eq_true,beq_iff_eq] at hr<;>obtain ⟨⟨rfl,rfl⟩,hr⟩:=hr<;>exact ⟨c2,rfl,hev.trans (Arg.Jy hr).symm⟩
      ·have:(k2 == k)=false:=by simpa using hkk
       simp only [this,Bool.false_eq_true,if_false] at hl
       refine ih ?_ hl
       cases o2 with
       | none=>simp [Bs] at hr
       | some ob2=>cases ob2<;>simp [Bs] at hr ⊢<;>exact hr.2
    obtain ⟨c2,rfl,hev2⟩:=this h2 hlk
    exact ⟨c2,.inr rfl,hev2⟩
  obtain ⟨c',hc,hev⟩:=hcur
  have swap: ∀ {ob:Nat→Option Ob},Good P N X ρ K tm ob μ a w→ob k=some (.frz e t c')→Good P N X ρ K tm (A9 ob k (some (.frz e t c))) μ a w∧Hn ob (A9 ob k (some (.frz e t c))):=by
   intro ob G ho
   have F:Hn ob (A9 ob k (some (.frz e t c))):=by
    intro k' o ho' hi
    unfold A9 at ho'
    split at ho'
    ·injection ho' with ho';subst ho';simp [Ob.Dn] at hi
    ·exact ho'
   refine ⟨G.Dc F (fun k' o ho' hi=>?_),F⟩
   by_cases hk:k'=k
   ·subst hk
    simp only [A9,if_true,Option.some.injEq] at ho'
    subst ho'
    have hL:=F.later (K:=K) (P:=P) (X:=X) (ρ:=ρ) (μ:=μ) (w:=w)
    obtain ⟨q1,iv,q2,q3⟩:=G.obj k' _ ho
    refine ⟨⟨q1,iv,hev.trans q2,hL.rel q3⟩,(G.ko k' _ ho).1,fun _ h=>by simp [Ee] at h⟩
   ·have ho2:ob k'=some o:=by simpa [A9,hk] using ho'
    exact ⟨F.later.Aa7 (K:=K) (G.ko k' o ho2).1 (G.ko k' o ho2).2 (fun _ _ _ _=>rfl) (G.obj k' o ho2),G.ko k' o ho2⟩
  rcases hc with hc | hc
  ·obtain ⟨G2,F2⟩:=G1.freeze hc
   have:A9 (A9 (cur S' r) k (some (.frz e t c'))) k (some (.frz e t c))=A9 (cur S' r) k (some (.frz e t c)):=by
    funext k';unfold A9;split<;>rfl
   obtain ⟨G3,F3⟩:=swap G2 (by simp [A9])
   rw [this] at G3 F3
   exact ⟨G3,F1.trans (F2.trans F3)⟩
  ·obtain ⟨G3,F3⟩:=swap G1 hc
   exact ⟨G3,F1.trans F3⟩
end
end Go.CT
namespace Go.CT
open EM
def Ef.slot (d:Ef) (tm:Nat→SV) (t:Nat):SV:=if d.dst=some t then d.v else tm t
section
variable {P:Program} {N:Nat} {X:Nat→Prop} {R:Job→List IV→Option (List IV)} {ρ:List IV} {K:Nat→Prop} {S:View} {μ:Nat→Value} {a:Act} {w w':World} {es es' e1:ES} {ls:List PLt} {sx:SX}
 {tm:Nat→SV} {ob:Nat→Option Ob} {specs:List (Nat × Spec)} {ops:Array Oper} {Q:Exit→Act→World→Prop}
theorem Ari {S':View} {n m m0 i:Nat} {o:Oper} {d:Ef} {W0:Nat→Prop} {w0:World} {H:Nat→Prop} {hd:Nat→Value} {next:Act→World→Prop} (hS:Sound P specs R) (hdo:Apx P specs N ops m0 S n m o=some d) (F:FS P N X ρ K S'.tm S'.ob μ a w W0 w0 H hd)
  (hsl: ∀t∈d.slots,S'.tm t=S.tm t) (hky: ∀k∈d.keys,S'.ob k=S.ob k) (hwk: ∀k∈d.obs.map (·.1),S'.ob k=S.ob k) (hfr: ∀k,m≤k→k<d.m→ ¬ K k) (hm0: ∀k,k<m0→K k) (hl:LH R ρ d.lets)
  (hi:ops[i]?=some o) (hn: ∀a' w' μ',FS P N X ρ (Al K m d.m) (d.slot S'.tm) (cur S' d.obs) μ' a' w' W0 w0 H hd→next a' w'):wpOp P ops Q i next a w:=by
 unfold Apx at hdo
 cases hg:Wq P S ops o with
 | none=>simp [hg] at hdo
 | some gg=>
  obtain ⟨gs,gk⟩:=gg
  simp only [hg] at hdo
  cases hr:(xOp P specs o {n,m,gs,obs:= []}).run S with
  | none=>simp [hr] at hdo
  | some q=>
   obtain ⟨⟨x,es⟩,lets,slots,keys⟩:=q
   simp only [hr] at hdo
   ·rw [Option.ite_none_right_eq_some] at hdo
    obtain ⟨hc,hdo⟩:=hdo
    injection hdo with hdo
    subst hdo
    rw [Bool.and_eq_true,Bool.and_eq_true,Bool.or_eq_true,Bool.and_eq_true] at hc
    obtain ⟨⟨hc1,hc2⟩,hc3⟩:=hc
    have hdst: ∀t,o.dst=some t→t<N:=by
     intro t ht;rw [ht] at hc2;simpa using hc2
    have hh:=Ag8 hg (fun t ht=>hsl t (List.mem_append_left _ ht)) F.Bu
    have hr':=RM.Nr hr (fun t ht=>hsl t (List.mem_append_right _ ht)) hky
    have hEv:Ev S' (xOp P specs o) {n,m,gs,obs:= []} x es lets:=⟨slots,keys,hr'⟩
    have G0:Good P N X ρ K S'.tm (cur S' ([]:List (Nat × Option Ob))) μ a w:=by rw [J1];exact F.Bu
    unfold wpOp
    rw [hi]
    simp only
    by_cases hw:Region.wanted o (yielded ops a.tmps)=true
    ·rw [if_pos hw]
     rw [hw] at hh
     refine .inl (Aw0 hS G0 hEv hl hh hfr fun v w' μ' O=>?_)
     have F0:FS P N X ρ K S'.tm (cur S' ({n,m,gs,obs:= []} :ES).obs) μ a w W0 w0 H hd:=by
      show FS P N X ρ K S'.tm (cur S' []) μ a w W0 w0 H hd
      rw [J1];exact F
     obtain ⟨f1,f2⟩:=F0.out O
     exact hn _ _ μ' ⟨O.Bu.Ahz hdst ⟨true,hh,fun _=>O.rel,fun h=>by cases h⟩ O.keys,f1,f2,fun k hk=>⟨.inl (F.hdr k hk).1,(O.keep k (F.hdr k hk).1).trans (F.hdr k hk).2⟩⟩
    ·rw [if_neg hw]
     have hw':Region.wanted o (yielded ops a.tmps)=false:=by simpa using hw
     rw [hw'] at hh
     have hgs:gs.isEmpty=false:=by
      cases gs with
      | nil=>simp [holds] at hh
      | cons=>rfl
     rw [hgs] at hc1
     have hc1:=hc1.resolve_left (by simp)
     obtain ⟨G1,F1⟩:=Oa hc1.1 hwk F.Bu
     refine hn _ _ μ ⟨(G1.Ahz (sv:=⟨gs,x⟩) hdst ⟨false,hh,(fun h=>by cases h),fun _=>rfl⟩ fun k hk=>hm0 k (Lf hc1.2 k hk)).K7 fun _ h=> .inl h,F.step,fun b hb=>F.own b (F1.wr hb),fun k hk=>⟨.inl (F.hdr k hk).1,(F.hdr k hk).2⟩⟩
theorem Aw1 {n m m0:Nat} {o:Oper} {d:Ef} (hd:Apx P specs N ops m0 S n m o=some d):m≤d.m:=by
 unfold Apx at hd
 split at hd
 ·cases hd
 ·split at hd
  ·cases hd
  ·rw [Option.ite_none_right_eq_some] at hd
   obtain ⟨hc,hd⟩:=hd
   injection hd with hd
   subst hd
   rw [Bool.and_eq_true] at hc
   simpa using hc.2
end
section
variable {β:Type}
def over (D:Nat→Bool):List (Nat→Option β)→Nat→(Nat→β)→Nat→β
 | [],_,f=>f
 | g::gs,j,f=>over D gs (j+1) (if D j then fun t=>(g t).getD (f t) else f)
theorem G4 {D D':Nat→Bool} {t:Nat} : ∀ {gs:List (Nat→Option β)} {j:Nat} {f f':Nat→β},(∀i g,gs[i]?=some g→(g t).isSome →D (j+i)=D' (j+i))→f t=f' t→over D gs j f t=over D' gs j f' t
 | [],_,_,_,_,h=>h
 | g::gs,j,f,f',h,hf=>by
  unfold over
  refine G4 (fun i g' hg hs=>?_) ?_
  ·have:=h (i+1) g' (by simpa using hg) hs
   rwa [←Nat.add_assoc,Nat.add_right_comm] at this
  ·have h0:=h 0 g (by simp)
   rw [Nat.add_zero] at h0
   cases hg:g t with
   | none=>cases D j<;>cases D' j<;>simp [hg,hf]
   | some y=>
    have h0:=h0 (by simp [hg])
    rw [h0]
    cases D' j<;>simp [hg,hf]
theorem Rr {D:Nat→Bool} {t:Nat} : ∀ {gs:List (Nat→Option β)} {j:Nat} {f:Nat→β},(∀i g,gs[i]?=some g→D (j+i)=true→g t=none)→over D gs j f t=f t
 | [],_,_,_=>rfl
 | g::gs,j,f,h=>by
  unfold over
  rw [Rr fun i g' hg hs=>h (i+1) g' (by simpa using hg) (by rwa [←Nat.add_assoc,Nat.add_right_comm])]
  cases hD:D j with
  | false=>rfl
  | true=>
   have:=h 0 g (by simp) (by simpa using hD)
   simp [this]
theorem Xu {D : Nat → Bool} {t : Nat} : ∀ {gs : List (Nat → Option β)} {i j : Nat} {f : Nat → β} {g : Nat → Option β}, gs[i]? = some g → D (j + i) = false → (∀ i' g', i < i' → gs[i']? = some g' → D (j + i') = true → (g t).isSome → g' t = none) →
    over (fun n => n == j + i || D n) gs j f t = (g t).getD (over D gs j f t)
  | [], i, _, _, _, h, _, _ => by simp at h
  | g0 :: gs, 0, j, f, g, h, hD, hx => by
    simp at h; subst h
    unfold over
    simp only [Nat.add_zero, beq_self_eq_true, Bool.true_or, if_true] at hD ⊢
    rw [hD]
    simp only [Bool.false_eq_true, if_false]
    have e1 : over (fun n => n == j || D n) gs (j + 1) (fun t => (g0 t).getD (f t)) t = over D gs (j + 1) (fun t => (g0 t).getD (f t)) t :=
      G4 (fun i' g' hg hs => by         have : (j + 1 + i' == j) = false := by simp; omega
                                        simp [this]) rfl
    rw [e1]
    cases hg : g0 t with
    | none => 
      simp only [Option.getD_none]
      exact G4 (fun _ _ _ _ => rfl) (by simp [hg])
    | some y =>
      rw [Rr fun i' g' hg' hD' => hx (i' + 1) g' (by omega) (by simpa using hg') (by rwa [← Nat.add_assoc, Nat.add_right_comm]) (by simp [hg])]
      simp [hg]
  | g0 :: gs, i + 1, j, f, g, h, hD, hx => by
    unfold over
    have hj : (j == j + (i + 1)) = false := by simp
    simp only [hj, Bool.false_or]
    have ih := Xu (D := D) (t := t) (gs := gs) (i := i) (j := j + 1) (f := if D j then fun t => (g0 t).getD (f t) else f) (by simpa using h) (by rwa [Nat.add_right_comm, Nat.add_assoc])
      (fun i' g' hlt hg hD' hs => hx (i' + 1) g' (by omega) (by simpa using hg) (by rwa [← Nat.add_assoc, Nat.add_right_comm]) hs)
    rw [show j + 1 + i = j + (i + 1) by omega] at ih
    exact ih
end
end Go.CT
namespace Go.CT
open EM
theorem Yj (t t':Nat) (v:SV) (l:List (Nat × SV)):Gs t (Akm t' v l)=if t'=t then v else Gs t l:=by
 induction l with
 | nil=>simp [Akm,Gs]
 | cons p l ih=>
  obtain ⟨t2,v2⟩:=p
  unfold Akm
  by_cases h:t2=t'
  ·subst h
   simp only [beq_self_eq_true,if_true,Gs]
   by_cases h2:t2=t<;>simp [h2]
  ·have:(t2 == t')=false:=by simpa using h
   simp only [this,Bool.false_eq_true,if_false,Gs,ih]
   by_cases h2:t2=t
   ·subst h2
    have h3: ¬ t'=t2:=fun e=>h e.symm
    simp [h3]
   ·simp [h2]
theorem Re (k k':Nat) (l:List (Nat × Ob)):L6 k (Abe k' l)=if k'=k then none else L6 k l:=by
 induction l with
 | nil=>simp [Abe,L6]
 | cons p l ih=>
  obtain ⟨k2,v2⟩:=p
  unfold Abe
  by_cases h:k2=k'
  ·subst h
   simp only [beq_self_eq_true,if_true,ih,L6]
   by_cases h2:k2=k<;>simp [h2]
  ·have:(k2 == k')=false:=by simpa using h
   simp only [this,Bool.false_eq_true,if_false,L6,ih]
   by_cases h2:k2=k
   ·subst h2
    have h3: ¬ k'=k2:=fun e=>h e.symm
    simp [h3]
   ·simp [h2]
theorem Abo (k k':Nat) (o:Option Ob) (l:List (Nat × Ob)):L6 k (Apd k' o l)=if k'=k then o else L6 k l:=by
 cases o with
 | none=>simp [Apd,Re]
 | some o=>
  simp only [Apd,L6,Re]
  by_cases h:k'=k<;>simp [h]
theorem Lg (k:Nat): ∀ (r:List (Nat × Option Ob)) (l:List (Nat × Ob)),L6 k (Sn r l)=(Ga k r).getD (L6 k l)
 | [],l=>rfl
 | (k',o)::r,l=>by
  simp only [Sn,Abo,Ga,Lg k r l]
  by_cases h:k'=k<;>simp [h]
def Ef.Ws (d:Ef) (t:Nat):Option SV:=if d.dst=some t then some d.v else none
def Ef.Z1 (d:Ef) (k:Nat):Option (Option Ob):=Ga k d.obs
theorem Aoz (s:St) (d:Ef) (t:Nat):(s.after d).view.tm t=(d.Ws t).getD (s.view.tm t):=by
 simp only [St.view,St.after,Ef.Ws]
 cases h:d.dst with
 | none=>simp
 | some t'=>
  simp only [Yj,Option.some.injEq]
  by_cases h:t'=t<;>simp [h]
theorem Aom (s:St) (d:Ef) (k:Nat):(s.after d).view.ob k=(d.Z1 k).getD (s.view.ob k):=by
 simp only [St.view,St.after,Ef.Z1,Lg]
def Pp (s:St) (ds:List Ef) (i:Nat):St:=(ds.take i).foldl St.after s
theorem Nz {s:St} {ds:List Ef} {i:Nat} {d:Ef} (h:ds[i]?=some d):Pp s ds (i+1)=(Pp s ds i).after d:=by
 unfold Pp
 rw [List.take_add_one,h]
 simp [List.foldl_append]
section
variable {P:Program} {N m0:Nat} {specs:List (Nat × Spec)} {ops:Array Oper}
theorem Yc: ∀ {os:List Oper} {s s':St} {ds:List Ef},Aay P specs N ops m0 os s=some (ds,s')→
  ds.length=os.length∧s'=Pp s ds os.length∧ ∀ (i:Nat) (o:Oper),os[i]?=some o→ ∃d,ds[i]?=some d∧Apx P specs N ops m0 (Pp s ds i).view (Pp s ds i).n (Pp s ds i).m o=some d
 | [],s,s',ds,h=>by
  simp only [Aay,Option.some.injEq,Prod.mk.injEq] at h
  obtain ⟨rfl,rfl⟩:=h
  exact ⟨rfl,rfl,by simp⟩
 | o::os,s,s',ds,h=>by
  unfold Aay at h
  cases hd:Apx P specs N ops m0 s.view s.n s.m o with
  | none=>simp [hd] at h
  | some d=>
   simp only [hd] at h
   cases hr:Aay P specs N ops m0 os (s.after d) with
   | none=>simp [hr] at h
   | some q=>
    obtain ⟨ds2,s2⟩:=q
    simp only [hr,Option.some.injEq,Prod.mk.injEq] at h
    obtain ⟨rfl,rfl⟩:=h
    obtain ⟨h1,h2,h3⟩:=Yc hr
    refine ⟨by simp [h1],?_,fun i o' ho=>?_⟩
    ·rw [h2];rfl
    ·cases i with
     | zero=>simp at ho;subst ho;exact ⟨d,rfl,hd⟩
     | succ i=>exact h3 i o' (by simpa using ho)
theorem V4 {β:Type} (pr:St→Nat→β) (wr:Ef→Nat→Option β) (hp: ∀s d t,pr (s.after d) t=(wr d t).getD (pr s t)) (t:Nat): ∀ (ds:List Ef) (i j:Nat) (s:St) (f:Nat→β),(f t=pr s t)→
  over (fun n=>decide (n<j+i)) (ds.map wr) j f t=pr (Pp s ds i) t
 | [],i,j,s,f,h=>by simp [over,Pp,h]
 | d::ds,0,j,s,f,h=>by
  have hne:over (fun n=>decide (n<j+0)) ((d::ds).map wr) j f t=f t:=Rr fun i g hg hD=>by
   have:=of_decide_eq_true hD
   omega
  rw [hne,h];rfl
 | d::ds,i+1,j,s,f,h=>by
  simp only [List.map_cons,over]
  have e:decide (j<j+(i+1))=true:=by simp
  rw [e]
  have:=V4 pr wr hp t ds i (j+1) (s.after d) (fun t=>(wr d t).getD (f t)) (by rw [hp];simp [h])
  rw [show j+1+i=j+(i+1) by omega] at this
  simpa [Pp] using this
theorem Aqb (s:St) (ds:List Ef) (i t:Nat):over (fun n=>decide (n<i)) (ds.map Ef.Ws) 0 s.view.tm t=(Pp s ds i).view.tm t:=by
 have:=V4 (fun s t=>s.view.tm t) Ef.Ws Aoz t ds i 0 s s.view.tm rfl
 simpa using this
theorem Aq4 (s:St) (ds:List Ef) (i k:Nat):over (fun n=>decide (n<i)) (ds.map Ef.Z1) 0 s.view.ob k=(Pp s ds i).view.ob k:=by
 have:=V4 (fun s t=>s.view.ob t) Ef.Z1 Aom k ds i 0 s s.view.ob rfl
 simpa using this
end
section
variable {P:Program} {N:Nat} {X:Nat→Prop} {R:Job→List IV→Option (List IV)} {ρ:List IV} {K:Nat→Prop} {S:View} {μ:Nat→Value} {a:Act} {w w':World}
 {specs:List (Nat × Spec)} {ops:Array Oper} {Q:Exit→Act→World→Prop} {W0:Nat→Prop} {w0:World} {H:Nat→Prop} {hd:Nat→Value}
def KD (s:St) (ds:List Ef) (D:Nat→Bool) (k:Nat):Prop:=k<s.m∨ ∃i d,D i=true∧ds[i]?=some d∧(Pp s ds i).m ≤k∧k<d.m
def FSD (P:Program) (N:Nat) (X:Nat→Prop) (ρ:List IV) (s:St) (ds:List Ef) (D:Nat→Bool) (μ:Nat→Value) (a:Act) (w:World) (W0:Nat→Prop) (w0:World) (H:Nat→Prop) (hd:Nat→Value):Prop:=
 FS P N X ρ (KD s ds D) (over D (ds.map Ef.Ws) 0 s.view.tm) (over D (ds.map Ef.Z1) 0 s.view.ob) μ a w W0 w0 H hd
structure Qo (P:Program) (specs:List (Nat × Spec)) (N:Nat) (ops:Array Oper) (s s':St) (ds:List Ef):Prop where
 len:ds.length=ops.size
 last:s'=Pp s ds ops.size
 get: ∀ (i:Nat) (o:Oper),ops[i]?=some o→ ∃d,ds[i]?=some d∧Apx P specs N ops s.m (Pp s ds i).view (Pp s ds i).n (Pp s ds i).m o=some d
theorem Qo.of {s s':St} {ds:List Ef} (h:Aay P specs N ops s.m ops.toList s=some (ds,s')):Qo P specs N ops s s' ds:=by
 obtain ⟨h1,h2,h3⟩:=Yc h
 exact ⟨by simpa using h1,by simpa using h2,fun i o ho=>h3 i o (by simpa using ho)⟩
theorem Qo.mono {s s':St} {ds:List Ef} (p:Qo P specs N ops s s' ds): ∀ {i j:Nat},i≤j→(Pp s ds i).m ≤(Pp s ds j).m :=by
 intro i j hij
 induction hij with
 | refl=>exact Nat.le_refl _
 | step hij ih=>
  rename_i j
  refine Nat.le_trans ih ?_
  cases hd:ds[j]? with
  | none=>
   have:Pp s ds (j+1)=Pp s ds j:=by
    unfold Pp;rw [List.take_add_one,hd];simp
   rw [this];exact Nat.le_refl _
  | some d=>
   rw [Nz hd]
   have hlt:=(List.getElem?_eq_some_iff.1 hd).1
   rw [p.len] at hlt
   obtain ⟨d',h1,h2⟩:=p.get j ops[j] (Array.getElem?_eq_getElem hlt)
   rw [hd] at h1;injection h1 with h1;subst h1
   exact Aw1 h2
theorem Aj0 {x y:Ef} {t:Nat} (h1:(y.Ws t).isSome =true) (h2:t∈x.slots∨x.dst=some t):x.Afv y=true:=by
 unfold Ef.Ws at h1
 split at h1
 ·rename_i h
  simp only [Ef.Afv,h,Bool.or_eq_true]
  left
  rcases h2 with h2 | h2
  ·left;simpa using h2
  ·right;simpa using h2
 ·cases h1
theorem O0 {k:Nat} : ∀ {r:List (Nat × Option Ob)},(Ga k r).isSome =true↔k∈r.map (·.1)
 | []=>by simp [Ga]
 | (k',o)::r=>by
  unfold Ga
  by_cases h:k'=k
  ·subst h;simp
  ·have:(k' == k)=false:=by simpa using h
   simp only [this,Bool.false_eq_true,if_false,List.map_cons,List.mem_cons]
   rw [O0]
   constructor
   ·exact .inr
   ·rintro (h' | h')
    ·exact absurd h'.symm h
    ·exact h'
theorem Ako {x y:Ef} {k:Nat} (h1:(y.Z1 k).isSome =true) (h2:k∈x.keys∨k∈x.obs.map (·.1)):x.Afv y=true:=by
 unfold Ef.Z1 at h1
 rw [O0,List.mem_map] at h1
 obtain ⟨p,hp,rfl⟩:=h1
 simp only [Ef.Afv,Bool.or_eq_true,List.any_eq_true]
 right
 refine ⟨p,hp,?_⟩
 rcases h2 with h2 | h2
 ·left;simpa using h2
 ·right
  rw [List.mem_map] at h2
  obtain ⟨q,hq,hqk⟩:=h2
  exact ⟨q,hq,beq_iff_eq.2 hqk⟩
theorem Ae1 {s s':St} {ds:List Ef} {D:Nat→Bool} {i:Nat} {o:Oper} {d:Ef} {next:Act→World→Prop} (hS:Sound P specs R) (p:Qo P specs N ops s s' ds) (F:FSD P N X ρ s ds D μ a w W0 w0 H hd) (ho:ops[i]?=some o) (hdd:ds[i]?=some d)
  (hDi:D i=false) (hA: ∀j e,ds[j]?=some e→j≠i→d.Afv e=true→D j=decide (j<i)) (hl:LH R ρ d.lets)
  (hn: ∀a' w' μ',FSD P N X ρ s ds (fun n=>n == i||D n) μ' a' w' W0 w0 H hd→next a' w'):wpOp P ops Q i next a w:=by
 obtain ⟨d',h1,h2⟩:=p.get i o ho
 rw [hdd] at h1;injection h1 with h1;subst h1
 have hsame: ∀j e,ds[j]?=some e→d.Afv e=true→D j=decide (j<i):=by
  intro j e hj hh
  by_cases hji:j=i
  ·subst hji;simp [hDi]
  ·exact hA j e hj hji hh
 have hob: ∀k,(k∈d.keys∨k∈d.obs.map (·.1))→over D (ds.map Ef.Z1) 0 s.view.ob k=(Pp s ds i).view.ob k:=by
  intro k hk
  rw [←Aq4 s ds i k]
  refine G4 (fun j g hg hs=>?_) rfl
  rw [List.getElem?_map,Option.map_eq_some_iff] at hg
  obtain ⟨e,he,rfl⟩:=hg
  simp only [Nat.zero_add]
  exact hsame j e he (Ako hs hk)
 refine Ari (S':=⟨over D (ds.map Ef.Ws) 0 s.view.tm,over D (ds.map Ef.Z1) 0 s.view.ob⟩) hS h2 F (fun t ht=>?_) (fun k hk=>hob k (.inl hk)) (fun k hk=>hob k (.inr hk)) (fun k hk1 hk2 hK=>?_) (fun k hk=> .inl hk) hl ho (fun a' w' μ' F'=>hn a' w' μ' ?_)
 ·show over D (ds.map Ef.Ws) 0 s.view.tm t=_
  rw [←Aqb s ds i t]
  refine G4 (fun j g hg hs=>?_) rfl
  rw [List.getElem?_map,Option.map_eq_some_iff] at hg
  obtain ⟨e,he,rfl⟩:=hg
  simp only [Nat.zero_add]
  exact hsame j e he (Aj0 hs (.inl ht))
 ·rcases hK with hK | ⟨j,e,q1,q2,q3,q4⟩
  ·have:s.m≤(Pp s ds i).m :=p.mono (i:=0) (Nat.zero_le i)
   omega
  ·have hji:j≠i:=fun e=>by rw [e,hDi] at q1;cases q1
   rcases Nat.lt_or_ge j i with hlt | hge
   ·have a1:=p.mono (i:=j+1) (j:=i) hlt
    rw [Nz q2] at a1
    have:e.m≤(Pp s ds i).m :=a1
    omega
   ·have a1:=p.mono (i:=i+1) (j:=j) (by omega)
    rw [Nz hdd] at a1
    have:d.m≤(Pp s ds j).m :=a1
    omega
 ·have e1:d.slot (over D (ds.map Ef.Ws) 0 s.view.tm)=over (fun n=>n == i||D n) (ds.map Ef.Ws) 0 s.view.tm:=by
   funext t
   have:=Xu (D:=D) (t:=t) (gs:=ds.map Ef.Ws) (i:=i) (j:=0) (f:=s.view.tm) (g:=d.Ws) (by rw [List.getElem?_map,hdd];rfl) (by simpa using hDi) (fun i' g' hlt hg hD hs=>by
    rw [List.getElem?_map,Option.map_eq_some_iff] at hg
    obtain ⟨e,he,rfl⟩:=hg
    rw [Nat.zero_add] at hD
    cases hw:e.Ws t with
    | none=>rfl
    | some y=>
     have hdt:d.dst=some t:=by
      unfold Ef.Ws at hs;split at hs
      ·assumption
      ·cases hs
     have:=hsame i' e he (Aj0 (t:=t) (by simp [hw]) (.inr hdt))
     rw [hD] at this
     simp at this;omega)
   simp only [Nat.zero_add] at this
   rw [this]
   unfold Ef.slot Ef.Ws
   split<;>rfl
  have e2:cur ⟨over D (ds.map Ef.Ws) 0 s.view.tm,over D (ds.map Ef.Z1) 0 s.view.ob⟩ d.obs=over (fun n=>n == i||D n) (ds.map Ef.Z1) 0 s.view.ob:=by
   funext k
   have:=Xu (D:=D) (t:=k) (gs:=ds.map Ef.Z1) (i:=i) (j:=0) (f:=s.view.ob) (g:=d.Z1) (by rw [List.getElem?_map,hdd];rfl) (by simpa using hDi) (fun i' g' hlt hg hD hs=>by
    rw [List.getElem?_map,Option.map_eq_some_iff] at hg
    obtain ⟨e,he,rfl⟩:=hg
    rw [Nat.zero_add] at hD
    cases hw:e.Z1 k with
    | none=>rfl
    | some y=>
     have:=hsame i' e he (Ako (k:=k) (by simp [hw]) (.inr (O0.1 hs)))
     rw [hD] at this
     simp at this;omega)
   simp only [Nat.zero_add] at this
   rw [this]
   unfold cur Ef.Z1
   cases Ga k d.obs<;>rfl
  rw [e2] at F'
  simp only [] at F'
  rw [e1] at F'
  have hKK: ∀k,Al (KD s ds D) (Pp s ds i).m d.m k→KD s ds (fun n=>n == i||D n) k:=?_
  ·exact ⟨F'.Bu.K7 hKK,F'.step,F'.own,fun k hk=>⟨hKK k (F'.hdr k hk).1,(F'.hdr k hk).2⟩⟩
  intro k hk
  rcases hk with (hk | ⟨j,e,q1,q2,q3⟩) | hk
  ·exact .inl hk
  ·exact .inr ⟨j,e,by simp [q1],q2,q3⟩
  ·exact .inr ⟨i,d,by simp,hdd,hk⟩
end
end Go.CT
namespace Go.CT
open EM
def Aek (ops:Array Oper) (D:Nat→Bool):Prop:= ∀ (i:Nat) (o:Oper),ops[i]?=some o→D i=true→ ∀e∈o.after,Region.binds .any e=true→D e.on=true
theorem Afi {acc:List Nat} {D:Nat→Bool} (hacc: ∀ (i m:Nat),acc[i]?=some m→D i=true→ ∀j,m.testBit j=true→D j=true): ∀ {es:List Edge},(∀e∈es,Region.binds .any e=true→D e.on=true)→ ∀j,(Ak4 acc es).testBit j=true→D j=true
 | [],_,j,h=>by simp [Ak4] at h
 | e::es,he,j,h=>by
  unfold Ak4 at h
  rw [Nat.testBit_or,Bool.or_eq_true] at h
  rcases h with h | h
  ·by_cases hb:Region.binds .any e=true
   ·rw [if_pos hb,Nat.testBit_or,Bool.or_eq_true] at h
    have hon:=he e List.mem_cons_self hb
    rcases h with h | h
    ·rw [Nat.one_shiftLeft,Nat.testBit_two_pow] at h
     have:e.on=j:=by simpa using h
     rw [←this];exact hon
    ·cases hm:acc[e.on]? with
     | none=>rw [List.getD_eq_getElem?_getD,hm] at h;simp at h
     | some m=>
      rw [List.getD_eq_getElem?_getD,hm] at h
      exact hacc e.on m hm hon j h
   ·rw [if_neg hb] at h;simp at h
  ·exact Afi hacc (fun e' h'=>he e' (List.mem_cons_of_mem _ h')) j h
theorem Ai9 {ops:Array Oper} : ∀ {os:List Oper} {acc:List Nat},(∀i o,os[i]?=some o→ops[acc.length+i]?=some o)→
  (∀D,Aek ops D→ ∀ (i m:Nat),acc[i]?=some m→ ∀o,ops[i]?=some o→(∀e∈o.after,Region.binds .any e=true→D e.on=true)→ ∀j,m.testBit j=true→D j=true)→acc.length+os.length=ops.size→
  (Ap6 os acc).length =ops.size∧ ∀D,Aek ops D→ ∀ (i m:Nat),(Ap6 os acc)[i]?=some m→ ∀o,ops[i]?=some o→(∀e∈o.after,Region.binds .any e=true→D e.on=true)→ ∀j,m.testBit j=true→D j=true
 | [],acc,_,h,hl=>by
  unfold Ap6
  exact ⟨by simpa using hl,h⟩
 | o::os,acc,hos,h,hl=>by
  unfold Ap6
  refine Ai9 (fun i o' ho'=>?_) (fun D hD i m hm o' ho' he j hj=>?_) (by simp at hl ⊢;omega)
  ·have:=hos (i+1) o' (by simpa using ho')
   rw [List.length_append,List.length_singleton,Nat.add_assoc,Nat.add_comm 1 i]
   exact this
  ·by_cases hi:i<acc.length
   ·rw [List.getElem?_append_left hi] at hm
    exact h D hD i m hm o' ho' he j hj
   ·rw [List.getElem?_append_right (by omega)] at hm
    have hi2:i=acc.length:=by
     have:=(List.getElem?_eq_some_iff.1 hm).1
     simp at this;omega
    subst hi2
    simp at hm
    subst hm
    have:o'=o:=by
     have:=hos 0 o rfl
     rw [Nat.add_zero,ho'] at this
     injection this
    subst this
    refine Afi (D:=D) (fun i m hm hDi j hj=>?_) (fun e hmem hb=>he e (by simpa using hmem) hb) j hj
    have hlt:=(List.getElem?_eq_some_iff.1 hm).1
    have hlt2:i<ops.size:=by simp at hl;omega
    exact h D hD i m hm ops[i] (Array.getElem?_eq_getElem hlt2) (fun e he hb=>hD i ops[i] (Array.getElem?_eq_getElem hlt2) hDi e he hb) j hj
theorem Rj {anc:Nat} {x:Ef} : ∀ {ys:List Ef} {j:Nat},Qx anc x ys j=true→ ∀i y,ys[i]?=some y→anc.testBit (j+i)=true∨(x.Afv y=false∧y.Afv x=false)
 | [],_,_,i,y,h=>by simp at h
 | y::ys,j,h,i,y',hy=>by
  unfold Qx at h
  rw [Bool.and_eq_true] at h
  cases i with
  | zero=>
   simp at hy;subst hy
   have:=h.1
   simp only [Bool.or_eq_true,Bool.not_eq_true',Bool.or_eq_false_iff] at this
   exact this
  | succ i=>
   have:=Rj h.2 i y' (by simpa using hy)
   rwa [Nat.add_assoc,Nat.add_comm 1 i] at this
theorem Sg: ∀ {as:List Nat} {ds before:List Ef},Lo before as ds=true→ ∀i d a,ds[i]?=some d→as[i]?=some a→ ∀j y,(before++ds)[j]?=some y→j<before.length+i→a.testBit j=true∨(d.Afv y=false∧y.Afv d=false)
 | a::as,d::ds,before,h,i,d',a',hd,ha,j,y,hy,hj=>by
  unfold Lo at h
  rw [Bool.and_eq_true] at h
  cases i with
  | zero=>
   simp at hd ha;subst hd;subst ha
   rw [List.getElem?_append_left (by omega)] at hy
   have:=Rj h.1 j y hy
   rwa [Nat.zero_add] at this
  | succ i=>
   refine Sg h.2 i d' a' (by simpa using hd) (by simpa using ha) j y (by simpa using hy) (by simp;omega)
 | [],[],_,_,i,d,a,hd,_,_,_,_,_=>by simp at hd
 | [],_::_,_,h,_,_,_,_,_,_,_,_,_=>by simp [Lo] at h
 | _::_,[],_,h,_,_,_,_,_,_,_,_,_=>by simp [Lo] at h
theorem Yd: ∀ {os:List Oper} {i:Nat},Afx os i=true→ ∀j o,os[j]?=some o→ ∀e∈o.after,Region.binds .any e=true→e.on<i+j
 | o::os,i,h,j,o',ho,e,he,hb=>by
  unfold Afx at h
  rw [Bool.and_eq_true] at h
  cases j with
  | zero=>
   simp at ho;subst ho
   have:=h.1
   rw [List.all_eq_true] at this
   have:=this e (by simpa using he)
   simpa [hb] using this
  | succ j=>
   have:=Yd h.2 j o' (by simpa using ho) e he hb
   omega
 | [],_,_,j,o,ho,_,_,_=>by simp at ho
section
variable {P:Program} {N:Nat} {X:Nat→Prop} {R:Job→List IV→Option (List IV)} {ρ:List IV} {K:Nat→Prop} {S:View} {μ:Nat→Value} {a:Act} {w w':World}
 {specs:List (Nat × Spec)} {ops:Array Oper} {Q:Exit→Act→World→Prop} {W0:Nat→Prop} {w0:World} {H:Nat→Prop} {hd:Nat→Value} {s s':St} {ds:List Ef}
theorem Ajc (p:Qo P specs N ops s s' ds) {D:Nat→Bool} {k:Nat} (h:KD s ds D k):k<s'.m:=by
 rw [p.last]
 rcases h with h | ⟨i,d,_,h2,_,h4⟩
 ·exact Nat.lt_of_lt_of_le h (p.mono (i:=0) (Nat.zero_le _))
 ·have hi:=(List.getElem?_eq_some_iff.1 h2).1
  rw [p.len] at hi
  have:=p.mono (i:=i+1) (j:=ops.size) hi
  rw [Nz h2] at this
  exact Nat.lt_of_lt_of_le h4 this
theorem FSD.last (p:Qo P specs N ops s s' ds) {D:Nat→Bool} (hD: ∀i,i<ops.size→D i=true) (F:FSD P N X ρ s ds D μ a w W0 w0 H hd):FS P N X ρ (· <s'.m) s'.view.tm s'.view.ob μ a w W0 w0 H hd:=by
 have e1:over D (ds.map Ef.Ws) 0 s.view.tm=s'.view.tm:=by
  funext t
  rw [p.last,←Aqb s ds ops.size t]
  refine G4 (fun j g hg hs=>?_) rfl
  have hj:=(List.getElem?_eq_some_iff.1 hg).1
  rw [List.length_map,p.len] at hj
  simp [hD j hj,hj]
 have e2:over D (ds.map Ef.Z1) 0 s.view.ob=s'.view.ob:=by
  funext t
  rw [p.last,←Aq4 s ds ops.size t]
  refine G4 (fun j g hg hs=>?_) rfl
  have hj:=(List.getElem?_eq_some_iff.1 hg).1
  rw [List.length_map,p.len] at hj
  simp [hD j hj,hj]
 unfold FSD at F
 rw [e1,e2] at F
 exact ⟨F.Bu.K7 fun k hk=>Ajc p hk,F.step,F.own,fun k hk=>⟨Ajc p (F.hdr k hk).1,(F.hdr k hk).2⟩⟩
theorem FSD.first (F:FS P N X ρ (· <s.m) s.view.tm s.view.ob μ a w W0 w0 H hd) {D:Nat→Bool} (hD: ∀i,D i=false):FSD P N X ρ s ds D μ a w W0 w0 H hd:=by
 have e1:over D (ds.map Ef.Ws) 0 s.view.tm=s.view.tm:=by
  funext t;exact Rr fun i g _ h=>by rw [hD] at h;cases h
 have e2:over D (ds.map Ef.Z1) 0 s.view.ob=s.view.ob:=by
  funext t;exact Rr fun i g _ h=>by rw [hD] at h;cases h
 unfold FSD
 rw [e1,e2]
 exact ⟨F.Bu.K7 fun k hk=> .inl hk,F.step,F.own,fun k hk=>⟨.inl (F.hdr k hk).1,(F.hdr k hk).2⟩⟩
theorem Qo.done (p:Qo P specs N ops s s' ds) {i:Nat} {o:Oper} (ho:ops[i]?=some o): ∃d,ds[i]?=some d:=by
 obtain ⟨d,h,_⟩:=p.get i o ho
 exact ⟨d,h⟩
theorem Aqi (hS:Sound P specs R) (p:Qo P specs N ops s s' ds) (hl:LH R ρ (ds.flatMap (·.lets))) (hn: ∀a' w' μ',FS P N X ρ (· <s'.m) s'.view.tm s'.view.ob μ' a' w' W0 w0 H hd→Q .normal a' w'):
  ∀ (k i:Nat) (a:Act) (w:World) (μ:Nat→Value),i+k=ops.size→FSD P N X ρ s ds (fun n=>decide (n<i)) μ a w W0 w0 H hd→wpOps P ops Q (List.range' i k) a w
 | 0,i,a,w,μ,hk,F=>by
  simp only [List.range'_zero,wpOps]
  exact hn a w μ (F.last p fun j hj=>by simp;omega)
 | k+1,i,a,w,μ,hk,F=>by
  rw [List.range'_succ,wpOps_cons]
  have hi:i<ops.size:=by omega
  have ho:=Array.getElem?_eq_getElem hi
  obtain ⟨d,hdd⟩:=p.done ho
  refine Ae1 hS p F ho hdd (by simp) (fun j e _ _ _=>rfl) (fun l hl'=>hl l (List.mem_flatMap.2 ⟨d,List.mem_of_getElem? hdd,hl'⟩)) fun a' w' μ' F'=>?_
  refine Aqi hS p hl hn k (i+1) a' w' μ' (by omega) ?_
  have:(fun n=>decide (n<i+1))=fun n=>n == i||decide (n<i):=by
   funext n
   by_cases h:n=i
   ·subst h;simp
   ·by_cases h2:n<i
    ·simp [h2];omega
    ·have:(n == i)=false:=by simpa using h
     simp [this,h2];omega
  rw [this];exact F'
def un (listed:Array Bool):Nat:=listed.toList.countP (fun b=> !b)
theorem Awv (hS:Sound P specs R) (p:Qo P specs N ops s s' ds) (hok:Afw ops.toList ds=true) (hl:LH R ρ (ds.flatMap (·.lets))) (hn: ∀a' w' μ',FS P N X ρ (· <s'.m) s'.view.tm s'.view.ob μ' a' w' W0 w0 H hd→Q .normal a' w'):
  ∀ (fuel:Nat) (listed:Array Bool) (a:Act) (w:World) (μ:Nat→Value),listed.size=ops.size→un listed=fuel→Aek ops (fun n=>listed.getD n false)→FSD P N X ρ s ds (fun n=>listed.getD n false) μ a w W0 w0 H hd→wpAny P .any ops Q fuel listed a w:=by
 simp only [Afw,Bool.and_eq_true] at hok
 obtain ⟨hb,hg⟩:=hok
 have hback: ∀ (i:Nat) (o:Oper),ops[i]?=some o→ ∀e∈o.after,Region.binds .any e=true→e.on<i:=by
  intro i o ho e he hbd
  have:=Yd hb i o (by simpa using ho) e he hbd
  omega
 obtain ⟨hanl,han⟩:=Ai9 (ops:=ops) (os:=ops.toList) (acc:= []) (fun i o h=>by simpa using h) (fun D hD i m hm=>by simp at hm) (by simp)
 -- a touch tells the order
 have pair: ∀ (i j:Nat) (d e:Ef),ds[i]?=some d→ds[j]?=some e→j<i→(d.Afv e=true∨e.Afv d=true)→ ∀D,Aek ops D→(∀o,ops[i]?=some o→ ∀e∈o.after,Region.binds .any e=true→D e.on=true)→D j=true:=by
  intro i j d e hd he hji hh D hD hi
  have hi1:=(List.getElem?_eq_some_iff.1 hd).1
  rw [p.len] at hi1
  have hm:(Ap6 ops.toList [])[i]?=some (Ap6 ops.toList [])[i]:=List.getElem?_eq_getElem (by rw [hanl];exact hi1)
  have:=Sg hg i d _ hd hm j e (by simpa using he) (by simpa using hji)
  rcases this with h | h
  ·exact han D hD i _ hm ops[i] (Array.getElem?_eq_getElem hi1) (hi _ (Array.getElem?_eq_getElem hi1)) j h
  ·rw [h.1,h.2] at hh;simp at hh
 have hall: ∀ (listed:Array Bool),Region.ready .any ops listed= []→listed.size=ops.size→ ∀i,i<ops.size→listed.getD i false=true:=by
  intro listed hr hsz i
  induction i using Nat.strongRecOn with
  | _ i ih=>
   intro hi
   cases hv:listed.getD i false with
   | true=>rfl
   | false=>
    have:i∈Region.ready .any ops listed:=by
     rw [mem_ready]
     refine ⟨?_,ops[i],Array.getElem?_eq_getElem hi,fun e he hbd=>?_⟩
     ·have hlt:i<listed.size:=by omega
      simp [hlt] at hv ⊢;exact hv
     ·have:=hback i ops[i] (Array.getElem?_eq_getElem hi) e he hbd
      exact ih e.on this (by omega)
    rw [hr] at this;cases this
 intro fuel
 induction fuel with
 | zero=>
  intro listed a w μ hsz hun hcl F
  have hD: ∀i,i<ops.size→listed.getD i false=true:=by
   intro i hi
   unfold un at hun
   rw [List.countP_eq_zero] at hun
   have hlt:i<listed.size:=by omega
   have:=hun listed[i] (by simp)
   simp [hlt];simpa using this
  refine ⟨?_,hn a w μ (F.last p hD)⟩
  rw [List.eq_nil_iff_forall_not_mem]
  intro i hi
  rw [mem_ready] at hi
  obtain ⟨h1,o,ho,_⟩:=hi
  have hi2:=(Array.getElem?_eq_some_iff.1 ho).1
  have:=hD i hi2
  have hlt:i<listed.size:=by omega
  simp [hlt] at h1 this
  rw [h1] at this;cases this
 | succ fuel ih=>
  intro listed a w μ hsz hun hcl F
  refine ⟨fun hr=>hn a w μ (F.last p (hall listed hr hsz)),fun i hi=>?_⟩
  rw [mem_ready] at hi
  obtain ⟨h1,o,ho,h2⟩:=hi
  have hi2:=(Array.getElem?_eq_some_iff.1 ho).1
  have hlt:i<listed.size:=by omega
  have hDi:listed.getD i false=false:=by simp [hlt] at h1 ⊢;exact h1
  obtain ⟨d,hdd⟩:=p.done ho
  have hset:(fun n=>(listed.setIfInBounds i true).getD n false)=fun n=>n == i||listed.getD n false:=by
   funext n
   by_cases hni:i=n
   ·subst hni;simp [hlt]
   ·have:(n == i)=false:=by simp;exact fun e=>hni e.symm
    rw [getD_set_ne false hni,this,Bool.false_or]
  refine Ae1 hS p F ho hdd hDi (fun j e hj hji hh=>?_) (fun l hl'=>hl l (List.mem_flatMap.2 ⟨d,List.mem_of_getElem? hdd,hl'⟩)) fun a' w' μ' F'=>?_
  ·rcases Nat.lt_or_ge j i with hlt' | hge
   ·have:=pair i j d e hdd hj hlt' (.inl hh) _ hcl (fun o' ho' e he hbd=>by rw [ho] at ho';injection ho' with ho';subst ho';exact h2 e he hbd)
    simp [hlt'] at this ⊢;exact this
   ·have hij:i<j:=by omega
    have hnj:listed.getD j false=false:=by
     cases hv:listed.getD j false with
     | false=>rfl
     | true=>
      have:=pair j i e d hj hdd hij (.inr hh) _ hcl (fun o' ho' e he hbd=>hcl j o' ho' hv e he hbd)
      simp only [hDi] at this
      cases this
    rw [hnj];simp;omega
  ·refine ih (listed.setIfInBounds i true) a' w' μ' (by simpa using hsz) ?_ ?_ (by rw [hset];exact F')
   ·unfold un at hun ⊢
    rw [Array.toList_setIfInBounds,List.countP_set (by simpa using hlt),hun]
    have:listed.toList[i]'(by simpa using hlt)=false:=by simp [hlt] at hDi;simpa using hDi
    simp [this]
   ·rw [hset]
    intro j o' ho' hj e he hbd
    simp only [Bool.or_eq_true,beq_iff_eq] at hj ⊢
    right
    rcases hj with rfl | hj
    ·rw [ho] at ho';injection ho' with ho';subst ho'
     exact h2 e he hbd
    ·exact hcl j o' ho' hj e he hbd
theorem Good.drawn {tm:Nat→SV} {ob:Nat→Option Ob} (G:Good P N X ρ K tm ob μ a w) (hh:w'.heap=w.heap):Good P N X ρ K tm ob μ a w':=by
 have L:C0 K (A6 P X ρ ob μ w) (A6 P X ρ ob μ w'):=
  {P:=rfl,ρ:=fun _ _ h=>h,μ:=fun _ _=>rfl,stays:=fun b _ _=>by show w'.heap[b]?=w.heap[b]?;rw [hh],O:=fun _ _ h=>h,W:=fun _ _ h=>h,WO:=fun b hb=> .inr hb}
 exact ⟨G.size,G.defers,fun s=>L.Ajn (G.kt s) (G.slot s),fun k o ho=>L.Aa7 (G.ko k o ho).1 (G.ko k o ho).2 (fun _ b _ _=>by show w'.heap[b]?=w.heap[b]?;rw [hh]) (G.obj k o ho),G.sep,G.xsep,fun b hb=>by rw [hh];exact G.xlt b hb,G.kt,G.ko⟩
theorem Akl {draw:Bool} {ls:List PLt} {id:Nat} (hm:P.follows .mixedOrders =true) (hS:Sound P specs R) (hdo:Qr P specs N ops draw s=some (ls,s')) (hl:LH R ρ ls) (F:FS P N X ρ (· <s.m) s.view.tm s.view.ob μ a w W0 w0 H hd)
  (hn: ∀a' w' μ',FS P N X ρ (· <s'.m) s'.view.tm s'.view.ob μ' a' w' W0 w0 H hd→Q .normal a' w'):(Code.region id ops draw).wp P Q a w:=by
 unfold Qr at hdo
 cases ho:Aay P specs N ops s.m ops.toList s with
 | none=>simp [ho] at hdo
 | some q=>
  obtain ⟨ds,s2⟩:=q
  simp only [ho] at hdo
  rw [Option.ite_none_right_eq_some] at hdo
  obtain ⟨hc,hdo⟩:=hdo
  injection hdo with hdo
  simp only [Prod.mk.injEq] at hdo
  obtain ⟨rfl,rfl⟩:=hdo
  have p:=Qo.of ho
  cases draw with
  | false=>
   refine wp_region ?_
   rw [List.range_eq_range']
   exact Aqi hS p hl hn ops.size 0 a w μ (by omega) (FSD.first F fun i=>by simp)
  | true=>
   have hok:Afw ops.toList ds=true:=by simpa using hc
   refine wp_region_any hm ?_
   have hrep: ∀i,(Array.replicate ops.size false).getD i false=false:=fun i=>by
    by_cases h:i<ops.size
    ·simp [h]
    ·simp [h]
   have F1:FS P N X ρ (· <s.m) s.view.tm s.view.ob μ a {w with drawn:=w.drawn+1} W0 w0 H hd:=⟨F.Bu.drawn rfl,⟨F.step.os,F.step.tape,F.step.output,F.step.size,F.step.stays⟩,F.own,F.hdr⟩
   exact Awv hS p hok hl hn ops.size _ a _ μ (by simp) (by unfold un;rw [Array.toList_replicate,List.countP_replicate];simp) (fun i o _ h=>by have h:(Array.replicate ops.size false).getD i false=true:=h;rw [hrep] at h;cases h) (FSD.first F1 hrep)
end
end Go.CT
namespace Go.CT
open EM
structure Bind where
 args:List (Nat × Arg)
 keys:List (Nat × Nat) -- the block's key, ours
def findKey (k':Nat):List (Nat × Nat)→Option Nat
 | []=>none
 | (j,k)::r=>if j == k' then some k else findKey k' r
def E4 (i:Nat):List (Nat × Arg)→Option Arg
 | []=>none
 | (j,y)::r=>if j == i then some y else E4 i r
def Eb (b:Bind) (x y:Arg):EM Bind:=
 match x with
 | .v i=>do
  EM.guard (E4 i b.args).isNone
  pure {b with args:=(i,y)::b.args}
 | .k c=>do
  EM.guard ((Arg.k c).same y)
  pure b
def I1 (b:Bind) (k' k:Nat):EM Bind:=
 match findKey k' b.keys with
 | some k0=>do
  EM.guard (k0 == k)
  pure b
 | none=>do
  EM.guard (b.keys.all fun p=>p.2 !=k)
  pure {b with keys:=(k',k)::b.keys}
def uPV (b:Bind) (p' p:PV):EM Bind:=
 match p' with
 | .p k' o'=>
  match p with
  | .p k o=>do
   EM.guard (o' == o)
   I1 b k' k
  | _=>fail
 | .el k' e' i' o'=>
  match p with
  | .el k e i o=>do
   EM.guard (o' == o&&e' == e)
   let b1 ←I1 b k' k
   Eb b1 i' i
  | _=>fail
 | .im x' t' o'=>
  match p with
  | .im x t o=>do
   EM.guard (o' == o&&t' == t)
   Eb b x' x
  | _=>fail
def Avh (b:Bind):List PV→List PV→EM Bind
 | [],[]=>pure b
 | p'::ps',p::ps=>do
  let b1 ←uPV b p' p
  Avh b1 ps' ps
 | _,_=>fail
section
variable (P:Program)
def An4 (t:TypeId) (l:LV):EM Nat:=do
 let e ←ofOption (Cz P t)
 let c ←O6 P e l
 let k ←Ej
 D5 k (some (.arr e t c))
 pure k
def uLV (b:Bind) (l' l:LV):EM Bind:=
 match l' with
 | .junk =>pure b
 | .at x' t'=>do
  let y ←Cp P true t' l
  Eb b x' y
 | .nil _=>
  match l with
  | .nil _=>pure b
  | _=>fail
 | .ref k' t'=>
  match l with
  | .ref k _=>I1 b k' k
  | .at .. =>fail
  | l=>do
   let k ←An4 P t' l
   I1 b k' k
 | .sub k' lo' hi' t'=>
  match l with
  | .sub k lo hi t=>do
   EM.guard (t == t')
   let b1 ←I1 b k' k
   let b2 ←Eb b1 lo' lo
   Eb b2 hi' hi
  | _=>fail
 | .ptr p'=>
  match l with
  | .ptr p=>uPV b p' p
  | _=>fail
 | .fn f' ps'=>
  match l with
  | .fn f ps=>do
   EM.guard (f' == f)
   Avh b ps' ps
  | _=>fail
 | .mref k' _=>
  match l with
  | .mref k _=>I1 b k' k
  | _=>fail
 | .cl x' t'=>
  match l with
  | .cl x t=>do
   EM.guard (t == t')
   Eb b x' x
  | _=>fail
 | .hid k'=>
  match l with
  | .hid k=>I1 b k' k
  | _=>fail
def Art (b:Bind):List LV→List LV→EM Bind
 | [],[]=>pure b
 | l'::ls',l::ls=>do
  let b1 ←uLV P b l' l
  Art b1 ls' ls
 | _,_=>fail
def Ai7 (t':TypeId):VV→Bool
 | .agg t _=>t == t'
 | .leaf (.at _ t)=>t == t'
 | _=>false
def uVV (b:Bind) (v' v:VV):EM Bind:=
 match v' with
 | .agg t' cs'=>do
  EM.guard (Ag P t'&&Ai7 t' v)
  let cs ←K6 P v
  Art P b cs' cs
 | .leaf l'=>
  match l' with
  | .junk =>pure b
  | .at x' t'=>do
   let y ←Hq P true t' v
   Eb b x' y
  | l'=>
   match v with
   | .leaf l=>uLV P b l' l
   | _=>fail
def Atg (b:Bind):List VV→List VV→EM Bind
 | [],[]=>pure b
 | l'::ls',l::ls=>do
  let b1 ←uVV P b l' l
  Atg b1 ls' ls
 | _,_=>fail
def Ap5:SX→Bool
 | .one (.leaf .junk)=>true
 | _=>false
def uSX (b:Bind) (x' x:SX):EM Bind:=
 match x' with
 | .one v'=>
  match x with
  | .one v=>uVV P b v' v
  | _=>fail
 | .tup vs'=>
  match x with
  | .tup vs=>Atg P b vs' vs
  | _=>fail
 | .nx ok' p' r'=>
  match x with
  | .nx ok p r=>do
   let b1 ←Eb b ok' ok
   let b2 ←Eb b1 p' p
   Eb b2 r' r
  | _=>fail
def uSV (b:Bind) (s':SV) (t:Nat):EM Bind:=
 if s'.gs.isEmpty&&Ap5 s'.x then pure b
 else do
  let s ←X4 t
  EM.guard (s.gs.isEmpty&&s'.gs.isEmpty)
  uSX P b s'.x s.x
def Zy (b:Bind):List (Nat × SV)→EM Bind
 | []=>pure b
 | (t,v')::r=>do
  let b1 ←uSV P b v' t
  Zy b1 r
def Wf (b:Bind) (o':Ob) (k:Nat):EM Bind:=
 match o' with
 | .box t' v'=>do
  match ←E5 k with
  | .box t v=>do
   EM.guard (t' == t)
   uVV P b v' v
  | _=>fail
 | .frz e' t' c'=>do
  EM.guard (Cz P t' == some e')
  let y ←Cp P true t' (.ref k t')
  Eb b c' y
 | .arr .. =>pure b
 | .iter .. =>pure b
 | .mp .. =>pure b
def Rt (b:Bind):List (Nat × Ob)→EM Bind
 | []=>pure b
 | (k',o')::r=>do
  let k ←ofOption (findKey k' b.keys)
  let b1 ←Wf P b o' k
  Rt b1 r
def Vy (b:Bind) (o':Ob) (k:Nat):EM Bind:=
 match o' with
 | .box _ _=>do
  match ←E5 k with
  | .box .. =>pure b
  | _=>fail
 | .arr e' t' c'=>do
  match ←E5 k with
  | .arr e _ c=>do
   EM.guard (e' == e&&Cz P t' == some e)
   Eb b c' c
  | _=>fail
 | .frz .. =>pure b
 | .iter s' p'=>do
  match ←E5 k with
  | .iter s p=>do
   let b1 ←Eb b s' s
   Eb b1 p' p
  | _=>fail
 | .mp t' kt' vt' c'=>do
  match ←E5 k with
  | .mp t kt vt c=>do
   EM.guard (t' == t&&kt' == kt&&vt' == vt)
   Eb b c' c
  | _=>fail
def Tl (b:Bind):List (Nat × Ob)→EM Bind
 | []=>pure b
 | (k',o')::r=>do
  let k ←ofOption (findKey k' b.keys)
  let b1 ←Vy P b o' k
  Tl b1 r
def Ar0 (m:Nat):Ob→Bool
 | .box _ v=>H3 m v
 | _=>true
def stOk (t:St):Bool:=
 (t.tm.all fun p=>N8 t.m p.2.x&&p.2.gs.isEmpty)&&(t.ob.all fun p=>decide (p.1<t.m)&&Ar0 t.m p.2)
def Vd (b:Bind):Nat→Option (List Arg)
 | 0=>some []
 | n+1=>
  match Vd b n with
  | none=>none
  | some as=>
   match E4 n b.args with
   | none=>none
   | some y=>some (as++ [y])
def uSt (backs:List Nat) (t:St):EM (List Arg):=do
 EM.guard (stOk t)
 let b1 ←Zy P ⟨[],[]⟩ t.tm
 let b2 ←Rt P b1 t.ob
 let b3 ←Tl P b2 t.ob
 EM.guard (b3.args.all fun p=>decide (p.1<t.n))
 EM.guard (backs.all fun k=>findKey k b3.keys == some k&&decide (k<t.m))
 ofOption (Vd b3 t.n)
end
end Go.CT
