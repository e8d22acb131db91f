import Derived.Test.YtfhkcifopfheaaaGreatDoorCtC
import Derived.Test.YtfhkcifopfheaaaGreatDoorLib
import Derived.Test.YtfhkcifopfheaaaGreatDoorTabA
set_option linter.unusedVariables false
set_option linter.unusedSimpArgs false
namespace Go.CT
def SS (l:List ByteArray):Prop:=l.Pairwise fun a b=>blt a b=true
theorem SS.ext: ∀ {a b:List ByteArray},SS a→SS b→(∀x,x∈a↔x∈b)→a=b
 | [],[],_,_,_=>rfl
 | [],y::b,_,_,h=>by have:=(h y).2 List.mem_cons_self;cases this
 | x::a,[],_,_,h=>by have:=(h x).1 List.mem_cons_self;cases this
 | x::a,y::b,ha,hb,h=>by
  obtain ⟨a1,a2⟩:=List.pairwise_cons.1 ha
  obtain ⟨b1,b2⟩:=List.pairwise_cons.1 hb
  have hxy:x=y:=by
   rcases List.mem_cons.1 ((h x).1 List.mem_cons_self) with e | e
   ·exact e
   ·rcases List.mem_cons.1 ((h y).2 List.mem_cons_self) with e' | e'
    ·exact e'.symm
    ·have:=blt_trans (b1 x e) (a1 y e')
     rw [blt_irrefl] at this;cases this
  subst hxy
  rw [SS.ext a2 b2 fun z=>⟨fun hz=>?_,fun hz=>?_⟩]
  ·rcases List.mem_cons.1 ((h z).1 (List.mem_cons_of_mem _ hz)) with rfl | e
   ·have:=a1 z hz;rw [blt_irrefl] at this;cases this
   ·exact e
  ·rcases List.mem_cons.1 ((h z).2 (List.mem_cons_of_mem _ hz)) with rfl | e
   ·have:=b1 z hz;rw [blt_irrefl] at this;cases this
   ·exact e
theorem compact_mem {l:List (List UInt8)} {x:List UInt8} :x∈Lib.compact l↔x∈l:=by
 unfold Lib.compact Lib.compactUpTo
 simp only [List.mem_map,List.mem_filter,List.mem_range]
 constructor
 ·rintro ⟨j,⟨hj,_⟩,rfl⟩
  have:l.toArray[j]! =l[j]:=by simp [hj]
  rw [this];exact List.getElem_mem hj
 ·intro hx
  obtain ⟨i,hi,rfl⟩:=List.mem_iff_getElem.1 hx
  -- the first place
  have: ∀i,∀hi:i<l.length,∃j,j<l.length∧Lib.keeps l.toArray j=true∧l.toArray[j]! =l[i]:=by
   intro i
   induction i with
   | zero=>intro hi;exact ⟨0,hi,by simp [Lib.keeps],by simp [hi]⟩
   | succ i ih=>
    intro hi
    by_cases he:l[i]=l[i+1]
    ·obtain ⟨j,h1,h2,h3⟩:=ih (by omega)
     exact ⟨j,h1,h2,h3.trans he⟩
    ·refine ⟨i+1,hi,Lib.keeps_pos ?_,by simp [hi]⟩
     have h1:i<l.length:=by omega
     simp [hi,h1]
     exact fun e=>he e.symm
  obtain ⟨j,h1,h2,h3⟩:=this i hi
  exact ⟨j,⟨h1,h2⟩,h3⟩
theorem compact_pair {l:List (List UInt8)} (h:l.Pairwise fun a b=>Op.bytesLess b a=false):(Lib.compact l).Pairwise fun a b=>Op.bytesLess a b=true:=by
 unfold Lib.compact Lib.compactUpTo
 rw [List.pairwise_map]
 have hr:((List.range l.length).filter (Lib.keeps l.toArray)).Pairwise (· < ·):=List.Pairwise.filter _ List.pairwise_lt_range
 refine hr.imp_of_mem fun {i j} hi hj hij=>?_
 simp only [List.mem_filter,List.mem_range] at hi hj
 obtain ⟨hj1,hj2⟩:=hj
 have hi1:i<l.length:=by omega
 have hp:j - 1<l.length:=by omega
 have ei:l.toArray[i]! =l[i]:=by simp [hi1]
 have ej:l.toArray[j]! =l[j]:=by simp [hj1]
 have ep:l.toArray[j - 1]! =l[j - 1]:=by simp [hp]
 rw [ei,ej]
 have hne:l[j]≠l[j - 1]:=by
  intro e
  have:Lib.keeps l.toArray j=false:=Lib.keeps_neg (by omega) (by rw [ej,ep];exact e)
  rw [this] at hj2;cases hj2
 have h1:Op.bytesLess l[j] l[j - 1]=false:=List.pairwise_iff_getElem.1 h (j - 1) j hp hj1 (by omega)
 have h2:Op.bytesLess l[j - 1] l[j]=true:=by
  rcases bl_total l[j - 1] l[j] with h | h | h
  ·exact h
  ·exact absurd h.symm hne
  ·rw [h] at h1;cases h1
 by_cases he:i=j - 1
 ·subst he;exact h2
 ·have h3:Op.bytesLess l[j - 1] l[i]=false:=List.pairwise_iff_getElem.1 h i (j - 1) hi1 hp (by omega)
  rcases bl_total l[i] l[j - 1] with h | h | h
  ·exact bl_trans h h2
  ·rw [h];exact h2
  ·rw [h] at h3;cases h3
def setB (l:List ByteArray):List ByteArray:=compactB (sortB l)
theorem mem_setB {l:List ByteArray} {x:ByteArray} :x∈setB l↔x∈l:=by
 unfold setB compactB
 rw [sortB_eq];unfold sortM
 rw [map_back,List.mem_map]
 constructor
 ·rintro ⟨y,hy,rfl⟩
  rw [compact_mem,List.mem_mergeSort,List.mem_map] at hy
  obtain ⟨z,hz,rfl⟩:=hy
  rw [back_ofL];exact hz
 ·intro hx
  refine ⟨x.data.toList,?_,back_ofL x⟩
  rw [compact_mem,List.mem_mergeSort,List.mem_map]
  exact ⟨x,hx,rfl⟩
theorem setB_SS (l:List ByteArray):SS (setB l):=by
 unfold setB compactB SS
 rw [sortB_eq];unfold sortM
 rw [map_back,List.pairwise_map]
 refine (compact_pair (sort_pair _)).imp fun h=>?_
 unfold blt
 rw [ofL_back,ofL_back];exact h
theorem setB_len (l:List ByteArray):(setB l).length ≤l.length:=by
 unfold setB compactB
 rw [sortB_eq];unfold sortM
 rw [map_back,List.length_map]
 have h1: ∀l:List (List UInt8),(Lib.compact l).length ≤l.length:=fun l=>by
  have h1:(Lib.compact l).length ≤(List.range l.length).length :=by
   unfold Lib.compact Lib.compactUpTo
   rw [List.length_map]
   exact List.length_filter_le _ _
  simpa using h1
 refine Nat.le_trans (h1 _) ?_
 rw [List.length_mergeSort,List.length_map];exact Nat.le_refl _
end Go.CT
namespace Go.CT.Sch
open Go.Proofs
abbrev SL (l:List ByteArray):IV:=Srt.LE IV.str l
theorem fsame_1 (a:List ByteArray) (hl:a.length≤1099511627776): ∀ (n i:Nat),i+n=a.length→W F95 1 [SL a,SL a,.int (i:Nat)]=some [.bool true]
 | 0,i,h=>by
  rw [e_F95_1,Srt.len]
  have h1: ¬ i<a.length:=by omega
  simp only [Option.bind_some,O.lt_int,lt_cast,h1,decide_false,O.cnd_bool,Bool.false_eq_true,if_false]
 | n+1,i,h=>by
  have hi:i<a.length:=by omega
  have hw:=next64 (i:=i) (by omega)
  have hx:=Srt.idx IV.str (List.getElem?_eq_getElem hi)
  rw [e_F95_1,Srt.len]
  simp only [Option.bind_some,O.lt_int,lt_cast,hi,decide_true,O.cnd_bool,if_true,hx,O.sNe_str,Bool.not_true,Bool.false_eq_true,if_false,O.add_int,hw]
  exact fsame_1 a hl n (i+1) (by omega)
theorem fsame (a:List ByteArray) (hl:a.length≤1099511627776):W F95 0 [SL a,SL a]=some [.bool true]:=by
 rw [e_F95_0,Srt.len]
 have:=fsame_1 a hl a.length 0 (by omega)
 simp only [Int.cast_ofNat_Int] at this
 simp only [Option.bind_some,O.ne_int,decide_true,Bool.not_true,O.cnd_bool,Bool.false_eq_true,if_false]
 exact this
theorem collectF_SL {l:List ByteArray} (h:l.length≤1099511627776):O.collectF [SL l]=some [SL l]:=by
 unfold O.collectF SL Srt.LE
 simp only [List.length_map]
 rw [if_pos (by unfold maxBytes;omega)]
theorem sortF_SL {l:List ByteArray} (h:l.length≤1099511627776):O.sortF [SL l]=some [SL (sortB l)]:=by
 unfold O.sortF SL Srt.LE
 simp only [strsOf_map,Option.bind_some]
 rw [if_pos (by omega)]
theorem compactF_SL {l:List ByteArray} (h:l.length≤1099511627776):O.compactF [SL l]=some [SL (compactB l)]:=by
 unfold O.compactF SL Srt.LE
 simp only [strsOf_map,Option.bind_some]
 rw [if_pos (by omega)]
theorem fset {l:List ByteArray} (h:l.length≤1099511627776):W F89 0 [SL l]=some [SL (setB l)]:=by
 have hs:(sortB l).length =l.length:=(sortB_perm l).length_eq
 rw [e_F89_0,e_F90_0]
 simp only [O.calls_1,e_F91_0,e_F92,e_F93,e_F94,collectF_SL h,sortF_SL h,compactF_SL (l:=sortB l) (by omega)]
 rfl
def inB (l:List ByteArray) (s:ByteArray):Bool:=l.any fun t=>decide (s=t)
theorem inB_cons (k:ByteArray) (ks:List ByteArray) (s:ByteArray):inB (k::ks) s=(decide (s=k)||inB ks s):=rfl
def mapS (ks:List ByteArray):List IV:=ks.map fun k=> .agg [.str k,.bool true]
theorem eqLeafS (s t:ByteArray):(IV.str s).eqLeaf (.str t)=some (decide (s=t)):=by
 have:(s.toList == t.toList)=decide (s=t):=by
  rw [Bool.eq_iff_iff,beq_iff_eq,decide_eq_true_iff];exact O.str_ext
 simp only [IV.eqLeaf,this]
theorem mfind_S (s:ByteArray): ∀ks:List ByteArray,mfind (.str s) (mapS ks)=some (if inB ks s then some (.bool true) else none)
 | []=>rfl
 | k::ks=>by
  have ih:=mfind_S s ks
  unfold mapS at ih ⊢
  simp only [List.map_cons,mfind,eqLeafS]
  by_cases h:s=k
  ·subst h;simp [inB_cons]
  ·simp only [h,decide_false,ih,inB_cons,Bool.false_or]
theorem mput_S (s:ByteArray): ∀ks:List ByteArray,mput (.str s) (.bool true) (mapS ks)=some (mapS (if inB ks s then ks else ks++ [s]))
 | []=>rfl
 | k::ks=>by
  have ih:=mput_S s ks
  unfold mapS at ih ⊢
  simp only [List.map_cons,mput,eqLeafS]
  by_cases h:s=k
  ·subst h;simp [inB_cons]
  ·simp only [h,decide_false,ih,inB_cons,Bool.false_or,Option.map_some]
   cases inB ks s<;>simp
end Go.CT.Sch
namespace Go.CT.Sch
open Go.Proofs
end Go.CT.Sch
namespace Go.CT.Sch
open Go.Proofs
def leB (s x:ByteArray):Bool:=blt s x||decide (s=x)
def putR (s:ByteArray):Bool→List ByteArray→List ByteArray
 | d,[]=>if d then [] else [s]
 | d,x::r=>(if !d &&leB s x then [s] else [])++(if x=s then [] else [x])++putR s (d||leB s x) r
theorem putR_true (s:ByteArray): ∀l,putR s true l=l.filter fun x=> !decide (x=s)
 | []=>rfl
 | x::r=>by
  rw [putR,Bool.true_or,putR_true s r,List.filter_cons]
  by_cases h:x=s<;>simp [h]
theorem putR_mem (s x:ByteArray): ∀l,x∈putR s false l↔x=s∨x∈l
 | []=>by simp [putR]
 | y::r=>by
  rw [putR]
  cases h:leB s y with
  | true=>
   rw [Bool.or_true,putR_true]
   by_cases h2:y=s
   ·subst h2
    by_cases hx:x=y<;>simp [hx]
   ·simp only [Bool.not_false,Bool.true_and,if_true,h2,if_false,List.mem_append,List.mem_singleton,List.mem_filter,Bool.not_eq_true',decide_eq_false_iff_not,List.mem_cons,List.not_mem_nil,or_false]
    constructor
    ·rintro ((h | h) | h)
     ·exact .inl h
     ·exact .inr (.inl h)
     ·exact .inr (.inr h.1)
    ·rintro (h | h | h)
     ·exact .inl (.inl h)
     ·exact .inl (.inr h)
     ·by_cases hs:x=s
      ·exact .inl (.inl hs)
      ·exact .inr ⟨h,hs⟩
  | false=>
   have h2: ¬ y=s:=by rintro rfl;simp [leB] at h
   simp only [Bool.not_false,Bool.true_and,Bool.false_eq_true,if_false,h2,List.nil_append,List.mem_append,List.mem_singleton,Bool.or_self,putR_mem s x r,List.mem_cons,List.not_mem_nil,or_false]
   constructor
   ·rintro (h | h | h)
    ·exact .inr (.inl h)
    ·exact .inl h
    ·exact .inr (.inr h)
   ·rintro (h | h | h)
    ·exact .inr (.inl h)
    ·exact .inl h
    ·exact .inr (.inr h)
theorem putR_SS (s:ByteArray): ∀l,SS l→SS (putR s false l)
 | [],_=>List.pairwise_singleton _ _
 | y::r,hs=>by
  obtain ⟨h1,h2⟩:=List.pairwise_cons.1 hs
  rw [putR]
  cases h:leB s y with
  | true=>
   rw [Bool.or_true,putR_true]
   have e:(if !false &&true then [s] else [])++(if y=s then [] else [y])++r.filter (fun x=> !decide (x=s))=s::(y::r).filter (fun x=> !decide (x=s)):=by
    rw [List.filter_cons]
    by_cases h2:y=s<;>simp [h2]
   rw [e]
   refine List.pairwise_cons.2 ⟨fun x hx=>?_,List.Pairwise.filter _ hs⟩
   simp only [List.mem_filter,Bool.not_eq_true',decide_eq_false_iff_not] at hx
   have hsy:blt s y=true∨s=y:=by simpa [leB] using h
   rcases List.mem_cons.1 hx.1 with rfl | hr
   ·exact hsy.resolve_right fun e=>hx.2 e.symm
   ·rcases hsy with h | rfl
    ·exact blt_trans h (h1 x hr)
    ·exact h1 x hr
  | false=>
   have h3: ¬ y=s:=by rintro rfl;simp [leB] at h
   have hys:blt y s=true:=by
    rcases blt_total s y with h4 | h4 | h4
    ·simp [leB,h4] at h
    ·exact absurd h4.symm h3
    ·exact h4
   simp only [Bool.not_false,Bool.true_and,Bool.false_eq_true,if_false,h3,List.nil_append,List.singleton_append,Bool.or_self]
   refine List.pairwise_cons.2 ⟨fun x hx=>?_,putR_SS s r h2⟩
   rcases (putR_mem s x r).1 hx with rfl | hx
   ·exact hys
   ·exact h1 x hx
theorem putR_len (s:ByteArray): ∀l,(putR s false l).length ≤l.length+1
 | []=>by simp [putR]
 | x::r=>by
  have ih:=putR_len s r
  have h1:(if x=s then ([]:List ByteArray) else [x]).length ≤1:=by split<;>simp
  rw [putR,List.length_append,List.length_append,List.length_cons]
  cases h:leB s x with
  | true=>
   rw [Bool.or_true,putR_true]
   have:=List.length_filter_le (fun x=> !decide (x=s)) r
   have h2:(if (!false &&true)=true then [s] else []).length =1:=rfl
   rw [h2];omega
  | false=>
   have h2:(if (!false &&false)=true then [s] else []).length =0:=rfl
   rw [h2,Bool.or_self];omega
theorem rput_1 (l:List ByteArray) (s:ByteArray) (hl:l.length≤1048576): ∀ (n i:Nat) (d:Bool) (out:List ByteArray),i+n=l.length→out.length≤i+(if d then 1 else 0)→
  W F157 1 [SL l,.str s,.bool d,.int i,SL out]=some [SL (out++putR s d (l.drop i))]
 | 0,i,d,out,h,ho=>by
  have h1: ¬ i<l.length:=by omega
  have ap:O.append 16 (SL out) (.list [.str s])=some (SL (out++ [s])):=by
   have ho:out.length≤i+1:=by cases d<;>simp at ho<;>omega
   unfold SL Srt.LE
   rw [O.append_list,if_pos (by simp only [List.length_map,List.length_singleton,maxBytes];omega)]
   simp
  rw [e_F157_1,Srt.len,List.drop_of_length_le (by omega)]
  cases d<;>simp [lt_cast,h1,putR,ap]
 | n+1,i,d,out,h,ho=>by
  have hi:i<l.length:=by omega
  have hw:=next64 (i:=i) (by omega)
  have hx:=Srt.idx IV.str (List.getElem?_eq_getElem hi)
  have ap: ∀ (o:List ByteArray) (t:ByteArray),o.length≤i+3→O.append 16 (SL o) (.list [.str t])=some (SL (o++ [t])):=by
   intro o t ho
   unfold SL Srt.LE
   rw [O.append_list,if_pos (by simp only [List.length_map,List.length_singleton,maxBytes];omega)]
   simp
  -- the second half
  have half: ∀ (d':Bool) (o:List ByteArray),o.length≤i+(if d' then 1 else 0)→W F157 2 [SL l,.str s,.bool d',.int i,SL o]=some [SL (o++((if l[i]=s then [] else [l[i]])++putR s d' (l.drop (i+1))))]:=by
   intro d' o ho
   rw [e_F157_2]
   by_cases he:l[i]=s
   ·have:=rput_1 l s hl n (i+1) d' o (by omega) (by omega)
    simp only [hx,Option.bind_some,O.sNe_str,he,decide_true,Bool.not_true,O.cnd_bool,Bool.false_eq_true,if_false,e_F157_3,O.add_int,hw,this,if_true,List.nil_append]
   ·have:=rput_1 l s hl n (i+1) d' (o++ [l[i]]) (by omega) (by rw [List.length_append,List.length_singleton];omega)
    simp only [hx,Option.bind_some,O.sNe_str,he,decide_false,Bool.not_false,O.cnd_bool,if_true,O.mklist_eq,ap o l[i] (by cases d'<;>simp at ho<;>omega),e_F157_3,O.add_int,hw,this,if_false,List.append_assoc]
  rw [e_F157_1,Srt.len,List.drop_eq_getElem_cons hi,putR]
  have hle:O.sLe (.str s) (.str l[i])=some (.bool (leB s l[i])):=by rw [O.sLe_str,blt_eq];rfl
  cases d with
  | true=>
   simp only [Option.bind_some,O.lt_int,lt_cast,hi,decide_true,O.cnd_bool,if_true,O.not_bool,Bool.not_true,Bool.false_eq_true,if_false,Bool.true_or,Bool.false_and,List.nil_append]
   exact half true out ho
  | false=>
   cases hc:leB s l[i] with
   | true=>
    simp only [Option.bind_some,O.lt_int,lt_cast,hi,decide_true,O.cnd_bool,if_true,O.not_bool,Bool.not_false,hx,hle,hc,O.mklist_eq,ap out s (by simp at ho;omega),Bool.or_true,Bool.true_and]
    have ho':out.length≤i:=by simpa using ho
    rw [half true (out++ [s]) (by rw [List.length_append,List.length_singleton,if_pos rfl];omega)]
    simp
   | false=>
    simp only [Option.bind_some,O.lt_int,lt_cast,hi,decide_true,O.cnd_bool,if_true,O.not_bool,Bool.not_false,hx,hle,hc,Bool.false_eq_true,if_false,Bool.or_self,Bool.and_false,List.nil_append]
    exact half false out ho
end Go.CT.Sch
namespace Go.CT.Sch
open Go.Proofs
theorem rput (l:List ByteArray) (s:ByteArray) (hl:l.length≤1048576):W F157 0 [SL l,.str s]=some [SL (putR s false l)]:=by
 have:=rput_1 l s hl l.length 0 false [] (by omega) (by simp)
 simp only [Int.cast_ofNat_Int,List.drop_zero,List.nil_append] at this
 rw [e_F157_0]
 exact this
def putsR:List ByteArray→List ByteArray→List ByteArray
 | acc,[]=>acc
 | acc,s::l=>putsR (putR s false acc) l
theorem putsR_SS: ∀ (l acc:List ByteArray),SS acc→SS (putsR acc l)
 | [],_,h=>h
 | s::l,acc,h=>putsR_SS l _ (putR_SS s acc h)
theorem putsR_mem (x:ByteArray): ∀ (l acc:List ByteArray),x∈putsR acc l↔x∈acc∨x∈l
 | [],acc=>by simp [putsR]
 | s::l,acc=>by
  rw [putsR,putsR_mem x l,putR_mem,List.mem_cons]
  constructor
  ·rintro ((h | h) | h)
   ·exact .inr (.inl h)
   ·exact .inl h
   ·exact .inr (.inr h)
  ·rintro (h | h | h)
   ·exact .inl (.inr h)
   ·exact .inl (.inl h)
   ·exact .inr h
theorem runion_2 (l:List ByteArray): ∀ (n i:Nat) (acc:List ByteArray),i+n=l.length→acc.length+n≤1048576→l.length≤1048576→
  W F156 2 [SL l,.int i,SL acc]=some [SL (putsR acc (l.drop i))]
 | 0,i,acc,h,hb,hl=>by
  have h1: ¬ i<l.length:=by omega
  rw [e_F156_2,Srt.len,List.drop_of_length_le (by omega)]
  simp only [Option.bind_some,O.lt_int,lt_cast,h1,decide_false,O.cnd_bool,Bool.false_eq_true,if_false,putsR]
 | n+1,i,acc,h,hb,hl=>by
  have hi:i<l.length:=by omega
  have hw:=next64 (i:=i) (by omega)
  have hx:=Srt.idx IV.str (List.getElem?_eq_getElem hi)
  have hp:=putR_len l[i] acc
  have ih:=runion_2 l n (i+1) (putR l[i] false acc) (by omega) (by omega) hl
  rw [e_F156_2,Srt.len,List.drop_eq_getElem_cons hi,putsR]
  simp only [Option.bind_some,O.lt_int,lt_cast,hi,decide_true,O.cnd_bool,if_true,hx,rput acc l[i] (by omega),O.calls_1,O.add_int,hw,ih]
theorem runion_1 (a b:List ByteArray): ∀ (n i:Nat) (acc:List ByteArray),i+n=a.length→acc.length+n+b.length≤1048576→a.length≤1048576→
  W F156 1 [SL a,SL b,.int i,SL acc]=some [SL (putsR (putsR acc (a.drop i)) b)]
 | 0,i,acc,h,hb,hl=>by
  have h1: ¬ i<a.length:=by omega
  have h2:=runion_2 b b.length 0 acc (by omega) (by omega) (by omega)
  simp only [Int.cast_ofNat_Int,List.drop_zero] at h2
  rw [e_F156_1,Srt.len,List.drop_of_length_le (by omega)]
  simp only [Option.bind_some,O.lt_int,lt_cast,h1,decide_false,O.cnd_bool,Bool.false_eq_true,if_false,putsR]
  exact h2
 | n+1,i,acc,h,hb,hl=>by
  have hi:i<a.length:=by omega
  have hw:=next64 (i:=i) (by omega)
  have hx:=Srt.idx IV.str (List.getElem?_eq_getElem hi)
  have hp:=putR_len a[i] acc
  have ih:=runion_1 a b n (i+1) (putR a[i] false acc) (by omega) (by omega) hl
  rw [e_F156_1,Srt.len,List.drop_eq_getElem_cons hi,putsR]
  simp only [Option.bind_some,O.lt_int,lt_cast,hi,decide_true,O.cnd_bool,if_true,hx,rput acc a[i] (by omega),O.calls_1,O.add_int,hw,ih]
theorem union_eq (a b:List ByteArray):putsR (putsR [] a) b=setB (a++b):=
 SS.ext (putsR_SS b _ (putsR_SS a _ List.Pairwise.nil)) (setB_SS _) fun x=>by rw [putsR_mem,putsR_mem,mem_setB,List.mem_append];simp
theorem runion (a b:List ByteArray) (hb:a.length+b.length≤1048576):W F156 0 [SL a,SL b]=some [SL (setB (a++b))]:=by
 have:=runion_1 a b a.length 0 [] (by omega) (by simp only [List.length_nil];omega) (by omega)
 simp only [Int.cast_ofNat_Int,List.drop_zero,union_eq] at this
 rw [e_F156_0]
 exact this
end Go.CT.Sch
namespace Go.CT.Sch
open Go.Proofs
theorem byte_int (c:UInt8):(0:Int)≤c.toNat∧(c.toNat:Int)≤255:=by
 have:=c.toNat_lt;omega
theorem drop_get {s:ByteArray} {i:Nat} (h:i<s.size):s.data.toList.drop i=s[i]::s.data.toList.drop (i+1):=by
 rw [List.drop_eq_getElem_cons (by simpa using h)];rfl
theorem ref_str_1 (s:ByteArray) (hs:s.size≤4611686018427387904): ∀ (n i:Nat),i+n=s.size→W F126 1 [.str s,.int i]=some [.bool ((s.data.toList.drop i).all okChar&&decide (s.size≤200))]
 | 0,i,h=>by
  rw [e_F126_1]
  have h1: ¬ i<s.size:=by omega
  have h2:s.data.toList.drop i= []:=List.drop_of_length_le (by simp;omega)
  have h3:decide ((s.size:Int)≤200)=decide (s.size≤200):=by simp;omega
  simp [h1,h2]
  omega
 | n+1,i,h=>by
  have hi:i<s.size:=by omega
  have ih:=ref_str_1 s hs n (i+1) (by omega)
  have hw:=next64 (i:=i) (by omega)
  rw [e_F126_1,drop_get hi]
  have hb:=byte_int s[i]
  generalize hc:s[i]=c at hb
  have e1:okChar c= !(decide (¬ (c.toNat:Int)=10∧((c.toNat:Int)<32∨(126:Int)<c.toNat))):=by
   unfold okChar
   rw [Bool.eq_iff_iff]
   simp
   omega
  simp only [O.slen_str,Option.bind_some,O.lt_int,lt_cast,hi,decide_true,O.cnd_bool,if_true,O.sindex_str,Int.natCast_nonneg,Int.toNat_natCast,sget hi,hc,Option.map_some,O.ne_int,List.all_cons,e1,O.add_int,hw,ih]
  by_cases c1:(c.toNat:Int)=10
  ·simp [c1]
  ·by_cases c2:(c.toNat:Int)<32
   ·simp [c1,c2]
   ·by_cases c3:(126:Int)<c.toNat
    ·simp [c1,c2,c3]
    ·simp [c1,c2,c3]
theorem ref_str (s:ByteArray) (hs:s.size≤4611686018427387904):W F126 0 [.str s]=some [.bool (okStr s)]:=by
 rw [e_F126_0]
 exact ref_str_1 s hs s.size 0 (by omega)
theorem ref_name_1 (s:ByteArray) (hs:s.size≤4611686018427387904): ∀ (n i:Nat),i+n=s.size→W F130 1 [.str s,.int i]=some [.bool ((s.data.toList.drop i).all okNameChar&&decide (1≤s.size∧s.size≤40))]
 | 0,i,h=>by
  rw [e_F130_1]
  have h1: ¬ i<s.size:=by omega
  have h2:s.data.toList.drop i= []:=List.drop_of_length_le (by simp;omega)
  have h3:((s.size:Int)≤40)=(s.size≤40):=by simp;omega
  simp [h1,h2,h3]
  have:((1:Int)≤s.size)=(1≤s.size):=by simp;omega
  by_cases c:1≤s.size<;>simp [this,c]
 | n+1,i,h=>by
  have hi:i<s.size:=by omega
  have ih:=ref_name_1 s hs n (i+1) (by omega)
  have hw:=next64 (i:=i) (by omega)
  rw [e_F130_1,drop_get hi]
  generalize hc:s[i]=c
  have e1:okNameChar c= !(decide (¬ (((97:Int)≤c.toNat∧(c.toNat:Int)≤122)∨((65:Int)≤c.toNat∧(c.toNat:Int)≤90))∧ ¬ ((48:Int)≤c.toNat∧(c.toNat:Int)≤57)∧ ¬ (c.toNat:Int)=45∧ ¬ (c.toNat:Int)=95∧ ¬ (c.toNat:Int)=47)):=by
   unfold okNameChar
   rw [Bool.eq_iff_iff]
   simp
   omega
  simp only [O.slen_str,Option.bind_some,O.lt_int,lt_cast,hi,decide_true,O.cnd_bool,if_true,O.sindex_str,Int.natCast_nonneg,Int.toNat_natCast,sget hi,hc,Option.map_some,O.ge_int,O.le_int,O.ne_int,List.all_cons,e1,O.add_int,hw,ih]
  by_cases p1:(97:Int)≤c.toNat<;>by_cases p2:(c.toNat:Int)≤122<;>by_cases p3:(65:Int)≤c.toNat<;>by_cases p4:(c.toNat:Int)≤90<;>by_cases p5:(48:Int)≤c.toNat<;>by_cases p6:(c.toNat:Int)≤57<;>simp [p1,p2,p3,p4,p5,p6]<;>
   by_cases p7:(c.toNat:Int)=45<;>by_cases p8:(c.toNat:Int)=95<;>by_cases p9:(c.toNat:Int)=47<;>simp [p7,p8,p9]
theorem ref_name (s:ByteArray) (hs:s.size≤4611686018427387904):W F130 0 [.str s]=some [.bool (okName s)]:=by
 rw [e_F130_0]
 exact ref_name_1 s hs s.size 0 (by omega)
end Go.CT.Sch
namespace Go.CT.Sch
open Go.Proofs
theorem emptyB_eq:(⟨#[]⟩:ByteArray)=emptyB:=rfl
theorem frOk_cons (d:Nat) (o:Option ByteArray) (p:ByteArray × Val) (r:List (ByteArray × Val)):frOk d o (p::r)=(okName p.1&&(match o with | none=>true | some q=>blt q p.1)&&validD d p.2&&frOk d (some p.1) r):=by
 cases o<;>rfl
theorem ref_scalar (v:Val) (hv:v.mass≤1099511627776):W F133 0 [v.enc]=some [.bool (okScalar v)]:=by
 have hs:=v.mass_s
 rw [e_F133_0]
 unfold okScalar
 simp only [Val.proj0,Option.bind_some,O.eq_int,O.cnd_bool]
 by_cases c1:v.k=1
 ·simp [c1,emptyB_eq]
 by_cases c2:v.k=2
 ·by_cases a1: -1000000000000000≤v.n<;>by_cases a2:v.n≤1000000000000000<;>simp [c2,a1,a2,emptyB_eq]
 by_cases c3:v.k=3
 ·simp [c3,ref_str v.s (by omega)]
 by_cases c4:v.k=0
 ·by_cases a1:v.n=0<;>simp [c4,e_F133_1,a1,emptyB_eq]
 by_cases c5:v.k=4
 ·by_cases a1:v.n=0<;>simp [c5,e_F133_1,a1,emptyB_eq]
 by_cases c6:v.k=5
 ·by_cases a1:v.n=0<;>simp [c6,e_F133_1,a1,emptyB_eq]
 simp [c1,c2,c3,c4,c5,c6,e_F133_1]
theorem ref_valid_1 (d:Nat) (v:Val) (hd:d≤12) (hv:v.mass≤1099511627776) (ih: ∀x∈v.l,W F132 0 [x.enc,.int d]=some [.bool (validD d x)]): ∀ (n i:Nat),i+n=v.l.length→
  W F132 1 [.int ((d+1:Nat):Int),.int i,v.enc]=if (v.l.drop i).all (validD d)=true then W F132 2 [.int ((d+1:Nat):Int),.int 0,v.enc] else some [.bool false]
 | 0,i,h=>by
  rw [e_F132_1]
  have h1: ¬ i<v.l.length:=by omega
  simp [h1,List.drop_of_length_le (Nat.le_of_not_lt h1)]
 | n+1,i,h=>by
  have hi:i<v.l.length:=by omega
  have hm:=v.mass_len_l
  have hw:=next64 (i:=i) (by omega)
  have hd1:IntKind.i64.wrap (((d+1:Nat):Int) - 1)=d:=by rw [wrap64 (by omega) (by omega)];omega
  have:=ref_valid_1 d v hd hv ih n (i+1) (by omega)
  rw [e_F132_1,List.drop_eq_getElem_cons hi]
  simp only [Val.proj3,Option.bind_some,O.len_list,List.length_map,O.lt_int,lt_cast,hi,decide_true,O.cnd_bool,if_true,O.index_list,Int.natCast_nonneg,Int.toNat_natCast,List.getElem?_map,List.getElem?_eq_getElem hi,Option.map_some,O.sub_int,hd1,ih _ (List.getElem_mem hi),O.calls_1,O.not_bool,O.add_int,hw,this,List.all_cons,Bool.and_eq_true]
  by_cases c:validD d v.l[i]=true<;>simp [c]
theorem ref_valid_2 (d:Nat) (v:Val) (hd:d≤12) (hv:v.mass≤1099511627776) (ih: ∀p∈v.f,W F132 0 [p.2.enc,.int d]=some [.bool (validD d p.2)]): ∀ (n i:Nat),i+n=v.f.length→
  W F132 2 [.int ((d+1:Nat):Int),.int i,v.enc]=some [.bool (frOk d (prevName v.f i) (v.f.drop i))]
 | 0,i,h=>by
  rw [e_F132_2]
  have h1: ¬ i<v.f.length:=by omega
  simp [h1,List.drop_of_length_le (Nat.le_of_not_lt h1),frOk]
 | n+1,i,h=>by
  have hi:i<v.f.length:=by omega
  have hm:=v.mass_len_f
  have hw:=next64 (i:=i) (by omega)
  have hd1:IntKind.i64.wrap (((d+1:Nat):Int) - 1)=d:=by rw [wrap64 (by omega) (by omega)];omega
  have:=ref_valid_2 d v hd hv ih n (i+1) (by omega)
  have hmem:=List.getElem_mem hi
  have hmass:=Val.mass_f hmem
  have hpn:prevName v.f (i+1)=some v.f[i].1 :=by simp [prevName,hi]
  rw [hpn] at this
  rw [e_F132_2,List.drop_eq_getElem_cons hi,frOk_cons]
  simp only [Val.proj4,Option.bind_some,O.len_list,List.length_map,O.lt_int,lt_cast,hi,decide_true,O.cnd_bool,if_true,O.index_list,Int.natCast_nonneg,Int.toNat_natCast,List.getElem?_map,List.getElem?_eq_getElem hi,Option.map_some,Fld.proj0,Fld.projV,ref_name v.f[i].1 (by omega),O.sub_int,hd1,ih _ hmem,O.calls_1,O.not_bool,O.add_int,hw,this,O.gt_int]
  cases i with
  | zero=>
   simp only [prevName]
   cases okName v.f[0].1<;>cases validD d v.f[0].2<;>simp
  | succ i=>
   have hi':i<v.f.length:=by omega
   have hw2:IntKind.i64.wrap (((i+1:Nat):Int) - 1)=i:=by rw [wrap64 (by omega) (by omega)];omega
   have hp:(0:Int)<((i+1:Nat):Int):=by omega
   simp only [prevName,List.getElem?_eq_getElem hi',Option.map_some,hw2,hp,decide_true,if_true,Int.natCast_nonneg,Int.toNat_natCast,Option.bind_some,Fld.proj0,sLe_blt]
   cases okName v.f[i+1].1<;>cases validD d v.f[i+1].2<;>cases blt v.f[i].1 v.f[i+1].1<;>simp
theorem ref_valid: ∀ (d:Nat) (v:Val),d≤12→v.mass≤1099511627776→W F132 0 [v.enc,.int d]=some [.bool (validD d v)]
 | 0,v,_,_=>by
  rw [e_F132_0]
  simp [validD]
 | d+1,v,hd,hv=>by
  have h1:=ref_valid_1 d v (by omega) hv (fun x hx=>ref_valid d x (by omega) (by have:=Val.mass_l hx;omega)) v.l.length 0 (by omega)
  have h2:=ref_valid_2 d v (by omega) hv (fun p hp=>ref_valid d p.2 (by omega) (by have:=Val.mass_f hp;omega)) v.f.length 0 (by omega)
  rw [e_F132_0]
  have hz: ¬ ((d+1:Nat):Int)=0:=by omega
  simp only [Int.cast_ofNat_Int,List.drop_zero,prevName,frOk_none] at h1 h2
  rw [h2] at h1
  simp only [O.eq_int,hz,decide_false,Option.bind_some,O.cnd_bool,Bool.false_eq_true,if_false,ref_scalar v hv,O.calls_1,O.not_bool,Val.proj3,Val.proj4,Val.proj0,O.len_list,List.length_map,O.gt_int,O.ne_int,h1,validD]
  have hnil:v.l= []→v.l.all (validD d)=true:=fun e=>by rw [e];rfl
  have hnil2:v.f= []→(v.f.all fun p=>okName p.1&&validD d p.2)=true∧rising v.f=true:=fun e=>by rw [e];exact ⟨rfl,rfl⟩
  generalize v.l.all (validD d)=A at *
  generalize (v.f.all fun p=>okName p.1&&validD d p.2)=B at *
  generalize rising v.f=C at *
  cases hs:okScalar v with
  | false=>simp
  | true=>
   by_cases c1:(64:Int)<v.l.length
   ·have: ¬ v.l.length≤64:=by omega
    simp [c1,this]
   ·have d1:v.l.length≤64:=by omega
    by_cases c2:(64:Int)<v.f.length
    ·have: ¬ v.f.length≤64:=by omega
     simp [c1,c2,this]
    ·have d2:v.f.length≤64:=by omega
     by_cases c3:v.k=4
     ·have c4: ¬ v.k=5:=by omega
      by_cases c5:v.f= []
      ·simp [c3,c1,d1,c5]
       cases A<;>simp
      ·have c6:(0:Int)<v.f.length:=by have:=List.length_pos_iff.2 c5;omega
       simp [c3,c1,c2,d1,d2,c5,c6]
     ·by_cases c5:v.l= []
      ·by_cases c4:v.k=5
       ·simp [c4,c2,d2,c5]
        cases A<;>simp
       ·by_cases c7:v.f= []
        ·simp [c3,c4,c5,c7]
         cases A<;>simp
        ·have c6:(0:Int)<v.f.length:=by have:=List.length_pos_iff.2 c7;omega
         simp [c3,c4,c5,c7,c6,c2,d2]
      ·have c6:(0:Int)<v.l.length:=by have:=List.length_pos_iff.2 c5;omega
       simp [c3,c5,c6,c1,c2,d1,d2]
end Go.CT.Sch
namespace Go.CT
theorem get!_eq (s:ByteArray) (i:Nat) (h:i<s.size):s.get! (i+0)=s[i]:=by
 obtain ⟨a⟩:=s
 have h':i<a.size:=h
 show a[i+0]! =a[i]
 simp [h']
theorem decode_low {s:ByteArray} {i:Nat} (h:i<s.size) (hb:s[i].toNat <128):Utf8.decode s i=(s[i].toNat,1):=by
 unfold Utf8.decode
 simp only [get!_eq s i h]
 rw [if_pos hb]
theorem decode_high {s:ByteArray} {i:Nat} (h:i<s.size) (hb:128≤s[i].toNat):128≤(Utf8.decode s i).1 :=by
 unfold Utf8.decode
 simp only [get!_eq s i h]
 rw [if_neg (by omega)]
 have e:Utf8.runeError=65533:=rfl
 split
 ·split<;>simp only [e]<;>omega
 ·split
  ·split
   ·rename_i hc
    simp only [Bool.and_eq_true,decide_eq_true_eq,ge_iff_le] at hc
    show 128≤_
    omega
   ·simp [e]
  ·split
   ·split
    ·rename_i hc
     simp only [Bool.and_eq_true,decide_eq_true_eq,ge_iff_le] at hc
     show 128≤_
     omega
    ·simp [e]
   ·simp [e]
namespace O
variable {s:ByteArray} {i:Nat} {b:Bool} {xs ys:List IV}
theorem iterOk_in (h:i<s.size):iterOk (.str s) (.int i)=some (.bool true):=by simp [iterOk,Prim.ev,h]
theorem iterOk_out (h: ¬ i<s.size):iterOk (.str s) (.int i)=some (.bool false):=by simp [iterOk,Prim.ev,h]
theorem runeAt_in (h:i<s.size):runeAt (.str s) (.int i)=some (.int (Utf8.decode s i).1):=by simp [runeAt,Prim.ev,h]
theorem runeAt_out (h: ¬ i<s.size):runeAt (.str s) (.int i)=some (.int 0):=by simp [runeAt,Prim.ev,h]
theorem iterNext_in (h:i<s.size):iterNext (.str s) (.int i)=some (.int ((i+(Utf8.decode s i).2 :Nat):Int)):=by simp [iterNext,Prim.ev,h]
theorem iterNext_out (h: ¬ i<s.size):iterNext (.str s) (.int i)=some (.int i):=by simp [iterNext,Prim.ev,h]
@[simp] theorem need_true:need (.bool true)=some (.bool true):=rfl
theorem appendN_list {n:Nat} (h:0<ys.length) (hb:(xs.length+ys.length) * n≤maxBytes):appendN n (.list xs) (.list ys)=some (.list (xs++ys)):=if_pos ⟨h,hb⟩
theorem appendS_str (h:xs.length+s.size≤maxBytes):appendS (.list xs) (.str s)=some (.list (xs++bytesIV s)):=if_pos h
@[simp] theorem clipF_list:clipF [.list xs]=some [.list xs]:=rfl
@[simp] theorem copyCheckF_list:copyCheckF [.list xs]=some [.list xs]:=rfl
theorem mapM_ivByte: ∀l:List UInt8,(l.map fun b:UInt8=>IV.int b.toNat).mapM ivByte=some l
 | []=>rfl
 | b::l=>by
  have hb:ivByte (.int b.toNat)=some b:=by
   have h:(b.toNat:Int)<256:=by have:=b.toNat_lt;omega
   simp only [ivByte,Int.natCast_nonneg,h,and_self,if_true,Int.toNat_natCast]
   simp [Nat.toUInt8]
  simp [List.map_cons,List.mapM_cons,hb,mapM_ivByte l]
theorem stringF_bytes (s:ByteArray):stringF [.list (bytesIV s)]=some [.str s]:=by
 simp only [stringF,bytesIV,mapM_ivByte,Option.map_some]
theorem bytesIV_append (s t:ByteArray):bytesIV (s++t)=bytesIV s++bytesIV t:=by
 simp [bytesIV,ByteArray.toList_data_append]
theorem bytesIV_length (s:ByteArray):(bytesIV s).length =s.size:=by simp [bytesIV]
theorem itoa_fun (n:Nat) (h:n<100):itoaF [.int n]=some [.str (itoaB n)]:=by
 simp only [itoaF,Int.natCast_nonneg,true_and,Int.toNat_natCast]
 rw [if_pos (by omega)]
end O
end Go.CT
namespace Go.CT.Sch
open Go.Proofs
structure Stp where
 k:Int
 nm:ByteArray
 ix:Int
 vl:ByteArray
def Stp.enc (s:Stp):IV:= .agg [.int s.k,.str s.nm,.int s.ix,.str s.vl]
@[simp] theorem Stp.proj0 (s:Stp):O.proj 0 s.enc=some (.int s.k):=rfl
@[simp] theorem Stp.proj1 (s:Stp):O.proj 1 s.enc=some (.str s.nm):=rfl
@[simp] theorem Stp.proj2 (s:Stp):O.proj 2 s.enc=some (.int s.ix):=rfl
@[simp] theorem Stp.proj3 (s:Stp):O.proj 3 s.enc=some (.str s.vl):=rfl
def Stp.fits (s:Stp):Prop:=s.nm.size≤1099511627000∧s.vl.size≤1099511627000
def bsL (l:List UInt8):ByteArray:=⟨l.toArray⟩
theorem bsL_append (a b:List UInt8):bsL (a++b)=bsL a++bsL b:=by
 apply bytes_ext
 rw [ByteArray.toList_data_append];simp [bsL]
theorem bsL_size (l:List UInt8):(bsL l).size =l.length:=by simp [bsL,ByteArray.size]
theorem emptyB_append (s:ByteArray):emptyB++s=s:=by
 apply bytes_ext
 rw [ByteArray.toList_data_append];rfl
theorem append_emptyB (s:ByteArray):s++emptyB=s:=by
 apply bytes_ext
 rw [ByteArray.toList_data_append];simp [emptyB]
theorem extract1 {s:ByteArray} {i:Nat} (h:i<s.size):s.extract i (i+1)=bsL [s[i]]:=by
 apply bytes_ext
 rw [ByteArray.data_extract,Array.toList_extract]
 simp only [List.extract_eq_take_drop,bsL]
 have:=drop_get h
 rw [show i+1 - i=1 by omega,this]
 rfl
def escB (c:UInt8):List UInt8:=if c.toNat=10 then [92,110] else if c.toNat=34∨c.toNat=92 then [92,c] else [c]
def quoteB (s:ByteArray):ByteArray:=bsL (34::s.data.toList.flatMap escB++ [34])
theorem escB_len (c:UInt8):(escB c).length ≤2:=by unfold escB;split<;> (try split)<;>simp
theorem esc_len: ∀l:List UInt8,(l.flatMap escB).length ≤2 * l.length
 | []=>by simp
 | c::l=>by
  have:=escB_len c
  have:=esc_len l
  simp only [List.flatMap_cons,List.length_append,List.length_cons];omega
theorem quoteB_size (s:ByteArray):(quoteB s).size ≤2+2 * s.size:=by
 have:=esc_len s.data.toList
 have h:s.data.toList.length=s.size:=by simp
 unfold quoteB
 rw [bsL_size]
 simp only [List.length_cons,List.length_append,List.length_nil]
 omega
def stepOk (x:Stp):Bool:=
 if x.k=1 then okName x.nm&&decide (x.ix=0)&&decide (x.vl=emptyB)
 else if x.k=2 then decide (0≤x.ix)&&decide (x.ix≤64)&&decide (x.nm=emptyB)&&decide (x.vl=emptyB)
 else if x.k=3 then okName x.nm&&okStr x.vl&&decide (x.ix=0)
 else false
def pathOk (p:List Stp):Bool:=p.all stepOk&&decide (p.length≤16)
def stepB (first:Bool) (x:Stp):ByteArray:=
 if x.k=2 then bsL [91]++O.itoaB x.ix.toNat++bsL [93]
 else if x.k=3 then bsL [91]++x.nm++bsL [61]++quoteB x.vl++bsL [93]
 else if first then x.nm else bsL [46]++x.nm
def stepsB:Bool→List Stp→ByteArray
 | _,[]=>emptyB
 | b,x::r=>stepB b x++stepsB false r
def pathB (p:List Stp):ByteArray:=stepsB true p
def printB (p:List Stp):ByteArray:=if pathOk p then pathB p else emptyB
def printE (p:List Stp):Int:=if pathOk p then 0 else 1
theorem okName_size {s:ByteArray} (h:okName s=true):s.size≤40:=by
 unfold okName at h
 simp only [Bool.and_eq_true,decide_eq_true_eq] at h
 exact h.2.2
theorem okStr_size {s:ByteArray} (h:okStr s=true):s.size≤200:=by
 unfold okStr at h
 simp only [Bool.and_eq_true,decide_eq_true_eq] at h
 exact h.2
theorem itoaB_size (n:Nat):(O.itoaB n).size ≤2:=by
 unfold O.itoaB
 split
 ·show 1≤2;omega
 ·show 2≤2;omega
theorem stepOk_sizes {x:Stp} (h:stepOk x=true):x.nm.size≤40∧x.vl.size≤200∧(x.k=2→0≤x.ix∧x.ix≤64)∧(x.k=3→okStr x.vl=true)∧(x.k=1∨x.k=2∨x.k=3):=by
 have e0:emptyB.size=0:=rfl
 unfold stepOk at h
 split at h
 ·rename_i k1
  simp only [Bool.and_eq_true,decide_eq_true_eq] at h
  exact ⟨okName_size h.1.1,by rw [h.2,e0];omega,fun h=>by omega,fun h=>by omega,.inl k1⟩
 ·split at h
  ·rename_i k2
   simp only [Bool.and_eq_true,decide_eq_true_eq] at h
   exact ⟨by rw [h.1.2,e0];omega,by rw [h.2,e0];omega,fun _=>⟨h.1.1.1,h.1.1.2⟩,fun h=>by omega,.inr (.inl k2)⟩
  ·split at h
   ·rename_i k3
    simp only [Bool.and_eq_true,decide_eq_true_eq] at h
    exact ⟨okName_size h.1.1,okStr_size h.1.2,fun h=>by omega,fun _=>h.1.2,.inr (.inr k3)⟩
   ·cases h
theorem ref_pchar (c:UInt8):W F141 0 [.int c.toNat]=some [.bool (okNameChar c)]:=by
 rw [e_F141_0]
 simp only [O.ge_int,O.le_int,O.eq_int,Option.bind_some,O.cnd_bool,ite_some,ite_ivbool]
 congr 3
 unfold okNameChar
 rw [Bool.eq_iff_iff]
 simp
 omega
theorem ref_pname_1 (s:ByteArray) (hs:s.size≤1099511627776): ∀ (n i:Nat),i+n=s.size→W F140 1 [.str s,.int i]=some [.bool ((s.data.toList.drop i).all okNameChar&&decide (1≤s.size∧s.size≤40))]
 | 0,i,h=>by
  have h1: ¬ i<s.size:=by omega
  have h2:s.data.toList.drop i= []:=List.drop_of_length_le (by simp;omega)
  rw [e_F140_1]
  simp only [O.slen_str,Option.bind_some,O.lt_int,lt_cast,h1,decide_false,O.cnd_bool,Bool.false_eq_true,if_false,O.gt_int,O.le_int,ite_some,ite_ivbool,h2,List.all_nil,Bool.true_and]
  congr 3
  rw [Bool.eq_iff_iff]
  simp
  omega
 | n+1,i,h=>by
  have hi:i<s.size:=by omega
  have hw:=next64 (i:=i) (by omega)
  have ih:=ref_pname_1 s hs n (i+1) (by omega)
  rw [e_F140_1,drop_get hi]
  simp only [O.slen_str,Option.bind_some,O.lt_int,lt_cast,hi,decide_true,O.cnd_bool,if_true,O.sindex_str,Int.natCast_nonneg,Int.toNat_natCast,sget hi,Option.map_some,ref_pchar,O.calls_1,O.not_bool,O.add_int,hw,ih,List.all_cons]
  cases okNameChar s[i]<;>simp
theorem ref_pname (s:ByteArray) (hs:s.size≤1099511627776):W F140 0 [.str s]=some [.bool (okName s)]:=by
 rw [e_F140_0];exact ref_pname_1 s hs s.size 0 (by omega)
theorem ref_pstr_1 (s:ByteArray) (hs:s.size≤1099511627776): ∀ (n i:Nat),i+n=s.size→W F142 1 [.str s,.int i]=some [.bool ((s.data.toList.drop i).all okChar&&decide (s.size≤200))]
 | 0,i,h=>by
  have h1: ¬ i<s.size:=by omega
  have h2:s.data.toList.drop i= []:=List.drop_of_length_le (by simp;omega)
  rw [e_F142_1]
  simp only [O.slen_str,Option.bind_some,O.lt_int,lt_cast,h1,decide_false,O.cnd_bool,Bool.false_eq_true,if_false,O.le_int,h2,List.all_nil,Bool.true_and]
  congr 3
  rw [Bool.eq_iff_iff]
  simp
  omega
 | n+1,i,h=>by
  have hi:i<s.size:=by omega
  have hw:=next64 (i:=i) (by omega)
  have ih:=ref_pstr_1 s hs n (i+1) (by omega)
  rw [e_F142_1,drop_get hi]
  have e1:okChar s[i]= !(if (!decide ((s[i].toNat :Int)=10))=true then (if decide ((s[i].toNat :Int)<32)=true then true else decide (126<(s[i].toNat :Int))) else false):=by
   unfold okChar
   rw [Bool.eq_iff_iff]
   by_cases c1:s[i].toNat =10
   ·simp [c1]
   ·have c1': ¬ (s[i].toNat :Int)=10:=by omega
    by_cases c2:s[i].toNat <32
    ·have c2':(s[i].toNat :Int)<32:=by omega
     simp [c1,c1',c2,c2'];omega
    ·have c2': ¬ (s[i].toNat :Int)<32:=by omega
     simp [c1,c1',c2,c2']
     omega
  simp only [O.slen_str,Option.bind_some,O.lt_int,lt_cast,hi,decide_true,O.cnd_bool,if_true,O.sindex_str,Int.natCast_nonneg,Int.toNat_natCast,sget hi,Option.map_some,O.ne_int,O.gt_int,ite_some,ite_ivbool,O.add_int,hw,ih,List.all_cons,e1]
  generalize (if (!decide ((s[i].toNat :Int)=10))=true then (if decide ((s[i].toNat :Int)<32)=true then true else decide (126<(s[i].toNat :Int))) else false)=b
  cases b<;>simp
theorem ref_pstr (s:ByteArray) (hs:s.size≤1099511627776):W F142 0 [.str s]=some [.bool (okStr s)]:=by
 rw [e_F142_0];exact ref_pstr_1 s hs s.size 0 (by omega)
theorem ref_pstep (s:Stp) (hs:s.fits):W F139 0 [s.enc]=some [.bool (stepOk s)]:=by
 have h1:=ref_pname s.nm (Nat.le_trans hs.1 (by decide))
 have h2:=ref_pstr s.vl (Nat.le_trans hs.2 (by decide))
 rw [e_F139_0]
 simp only [Stp.proj0,Stp.proj1,Stp.proj2,Stp.proj3,Option.bind_some,O.eq_int,O.cnd_bool,h1,h2,O.calls_1,O.ge_int,O.le_int,O.sEq_str,ite_some,ite_ivbool,emptyB_eq]
 unfold stepOk
 by_cases k1:s.k=1
 ·simp only [k1,decide_true,if_true]
  cases okName s.nm<;>simp
 ·by_cases k2:s.k=2
  ·simp only [k1,k2,decide_true,decide_false,Bool.false_eq_true,if_true,if_false]
   by_cases e1:0≤s.ix<;>by_cases e2:s.ix≤64<;>by_cases e3:s.nm=emptyB<;>simp [e1,e2,e3]
  ·simp only [k1,k2,decide_false,Bool.false_eq_true,if_false]
   by_cases k3:s.k=3
   ·simp only [k3,decide_true,if_true]
    cases okName s.nm<;>cases okStr s.vl<;>simp
   ·simp [k3]
theorem ref_pvalid_1 (p:List Stp) (hp: ∀s∈p,s.fits) (hl:p.length≤1099511627776): ∀ (n i:Nat),i+n=p.length→W F138 1 [.list (p.map Stp.enc),.int i]=some [.bool ((p.drop i).all stepOk&&decide (p.length≤16))]
 | 0,i,h=>by
  have h1: ¬ i<p.length:=by omega
  have h2:p.drop i= []:=List.drop_of_length_le (by omega)
  rw [e_F138_1]
  simp only [O.len_list,List.length_map,Option.bind_some,O.lt_int,lt_cast,h1,decide_false,O.cnd_bool,Bool.false_eq_true,if_false,O.le_int,h2,List.all_nil,Bool.true_and]
  congr 3
  rw [Bool.eq_iff_iff]
  simp
  omega
 | n+1,i,h=>by
  have hi:i<p.length:=by omega
  have hw:=next64 (i:=i) (by omega)
  have ih:=ref_pvalid_1 p hp hl n (i+1) (by omega)
  rw [e_F138_1,List.drop_eq_getElem_cons hi]
  simp only [O.len_list,List.length_map,Option.bind_some,O.lt_int,lt_cast,hi,decide_true,O.cnd_bool,if_true,O.index_list,Int.natCast_nonneg,Int.toNat_natCast,List.getElem?_map,List.getElem?_eq_getElem hi,Option.map_some,ref_pstep _ (hp _ (List.getElem_mem hi)),O.calls_1,O.not_bool,O.add_int,hw,ih,List.all_cons]
  cases stepOk p[i]<;>simp
theorem ref_pvalid (p:List Stp) (hp: ∀s∈p,s.fits) (hl:p.length≤1099511627776):W F138 0 [.list (p.map Stp.enc)]=some [.bool (pathOk p)]:=by
 rw [e_F138_0];exact ref_pvalid_1 p hp hl p.length 0 (by omega)
theorem cat_ok {a b:ByteArray} (ha:a.size≤100000) (hb:b.size≤100000):O.cat (.str a) (.str b)=some (.str (a++b)):=by
 rw [O.cat_str,if_pos (by unfold maxBytes;omega)]
theorem digit_1: ∀d:Fin 10,(⟨#[48,49,50,51,52,53,54,55,56,57]⟩:ByteArray).extract d (d+1)=bsL [(48+d.val).toUInt8]:=by decide+kernel
theorem ref_dec (n:Int) (h0:0≤n) (h1:n≤64):W F143 0 [.int n]=some [.str (O.itoaB n.toNat)]:=by
 have sl: ∀d:Nat,d<10→O.sslice (.str ⟨#[48,49,50,51,52,53,54,55,56,57]⟩) (.int d) (.int ((d:Int)+1))=some (.str (bsL [(48+d).toUInt8])):=by
  intro d hd
  rw [O.sslice_str,if_pos ⟨by omega,by omega,by show (d:Int)+1≤10;omega⟩]
  have:=digit_1 ⟨d,hd⟩
  simp only [Int.toNat_natCast]
  rw [show ((d:Int)+1).toNat =d+1 by omega,this]
 obtain ⟨m,rfl⟩:=Int.eq_ofNat_of_zero_le h0
 rw [e_F143_0]
 unfold O.itoaB
 simp only [Int.ofNat_eq_natCast,Int.toNat_natCast]
 by_cases c:m<10
 ·have hw:IntKind.i64.wrap ((m:Int)+1)=(m:Int)+1:=wrap64 (by omega) (by omega)
  have c':(m:Int)<10:=by omega
  simp only [O.lt_int,c',decide_true,Option.bind_some,O.cnd_bool,if_true,O.add_int,hw,sl m c,c]
  rfl
 ·have c': ¬ (m:Int)<10:=by omega
  have hq:(m:Int).tdiv 10=((m / 10:Nat):Int):=by rw [Int.tdiv_eq_ediv_of_nonneg (by omega)];omega
  have hr:(m:Int).tmod 10=((m % 10:Nat):Int):=by rw [Int.tmod_eq_emod_of_nonneg (by omega)];omega
  have hw1:IntKind.i64.wrap ((m / 10:Nat):Int)=((m / 10:Nat):Int):=wrap64 (by omega) (by omega)
  have hw2:IntKind.i64.wrap (((m / 10:Nat):Int)+1)=((m / 10:Nat):Int)+1:=wrap64 (by omega) (by omega)
  have hw3:IntKind.i64.wrap (((m % 10:Nat):Int)+1)=((m % 10:Nat):Int)+1:=wrap64 (by omega) (by omega)
  have hne: ¬ (10:Int)=0:=by omega
  simp only [O.lt_int,c',decide_false,Option.bind_some,O.cnd_bool,Bool.false_eq_true,if_false,O.quo_int,O.rem_int,hne,hq,hr,hw1,O.add_int,hw2,hw3,sl (m / 10) (by omega),sl (m % 10) (by omega),c]
  rw [cat_ok (by rw [bsL_size];simp) (by rw [bsL_size];simp),←bsL_append]
  rfl
theorem ref_quote_1 (s:ByteArray) (hs:s.size≤200): ∀ (n i:Nat) (o:ByteArray),i+n=s.size→o.size≤1+2 * i→W F144 1 [.str s,.str o,.int i]=some [.str (o++bsL ((s.data.toList.drop i).flatMap escB++ [34]))]
 | 0,i,o,h,ho=>by
  have h1: ¬ i<s.size:=by omega
  have h2:s.data.toList.drop i= []:=List.drop_of_length_le (by simp;omega)
  rw [e_F144_1]
  simp only [O.slen_str,Option.bind_some,O.lt_int,lt_cast,h1,decide_false,O.cnd_bool,Bool.false_eq_true,if_false,h2,List.flatMap_nil,List.nil_append]
  rw [show (ByteArray.mk #[34])=bsL [34] from rfl,cat_ok (by omega) (by rw [bsL_size];simp)]
  rfl
 | n+1,i,o,h,ho=>by
  have hi:i<s.size:=by omega
  have hw:=next64 (i:=i) (by omega)
  have hsl:O.sslice (.str s) (.int i) (.int ((i+1:Nat):Int))=some (.str (bsL [s[i]])):=by
   rw [O.sslice_str,if_pos ⟨by omega,by omega,by omega⟩]
   simp only [Int.toNat_natCast]
   rw [extract1 hi]
  have next: ∀a:List UInt8,a.length≤2→escB s[i]=a→W F144 2 [.str s,.str (o++bsL a),.int i]=some [.str (o++bsL ((s.data.toList.drop i).flatMap escB++ [34]))]:=by
   intro a ha he
   rw [e_F144_2]
   simp only [O.add_int,hw,Option.bind_some]
   rw [ref_quote_1 s hs n (i+1) _ (by omega) (by rw [ByteArray.size_append,bsL_size];omega),drop_get hi,List.flatMap_cons,he,List.append_assoc,bsL_append a,ByteArray.append_assoc]
  rw [e_F144_1]
  simp only [O.slen_str,Option.bind_some,O.lt_int,lt_cast,hi,decide_true,O.cnd_bool,if_true,O.sindex_str,Int.natCast_nonneg,Int.toNat_natCast,sget hi,Option.map_some,O.eq_int,ite_some,ite_ivbool]
  rw [show (ByteArray.mk #[92,110])=bsL [92,110] from rfl,show (ByteArray.mk #[92])=bsL [92] from rfl]
  by_cases c1:s[i].toNat =10
  ·have c1':(s[i].toNat :Int)=10:=by omega
   simp only [c1',decide_true,if_true]
   rw [cat_ok (by omega) (by rw [bsL_size];simp)]
   exact next [92,110] (by simp) (by unfold escB;rw [if_pos c1])
  ·have c1': ¬ (s[i].toNat :Int)=10:=by omega
   simp only [c1',decide_false,Bool.false_eq_true,if_false]
   by_cases c2:s[i].toNat =34∨s[i].toNat =92
   ·have c2':(if decide ((s[i].toNat :Int)=34)=true then true else decide ((s[i].toNat :Int)=92))=true:=by
     rcases c2 with h | h<;>simp [h]
    simp only [c2',if_true]
    rw [cat_ok (by omega) (by rw [bsL_size];simp)]
    simp only [Option.bind_some,O.add_int,hw,hsl]
    rw [cat_ok (by rw [ByteArray.size_append,bsL_size];simp;omega) (by rw [bsL_size];simp),ByteArray.append_assoc,←bsL_append]
    exact next [92,s[i]] (by simp) (by unfold escB;rw [if_neg c1,if_pos c2])
   ·have c2':(if decide ((s[i].toNat :Int)=34)=true then true else decide ((s[i].toNat :Int)=92))=false:=by
     have h1: ¬ (s[i].toNat :Int)=34:=by omega
     have h2: ¬ (s[i].toNat :Int)=92:=by omega
     simp [h1,h2]
    simp only [c2',Bool.false_eq_true,if_false,O.add_int,hw,Option.bind_some,hsl]
    rw [cat_ok (by omega) (by rw [bsL_size];simp)]
    exact next [s[i]] (by simp) (by unfold escB;rw [if_neg c1,if_neg c2])
theorem ref_quote (s:ByteArray) (hs:s.size≤200):W F144 0 [.str s]=some [.str (quoteB s)]:=by
 rw [e_F144_0,show (ByteArray.mk #[34])=bsL [34] from rfl]
 rw [show (IV.int 0)=IV.int ((0:Nat):Int) from rfl,ref_quote_1 s hs s.size 0 _ (by omega) (by rw [bsL_size];simp),←bsL_append]
 rfl
theorem stepB_size {b:Bool} {x:Stp} (h:stepOk x=true):(stepB b x).size ≤500:=by
 obtain ⟨h1,h2,_⟩:=stepOk_sizes h
 have hq:=quoteB_size x.vl
 have hi:=itoaB_size x.ix.toNat
 have e: ∀c:UInt8,(bsL [c]).size =1:=fun c=>by rw [bsL_size];rfl
 unfold stepB
 split
 ·simp only [ByteArray.size_append,e];omega
 ·split
  ·simp only [ByteArray.size_append,e];omega
  ·split
   ·omega
   ·simp only [ByteArray.size_append,e];omega
theorem ref_print_1 (p:List Stp) (hp: ∀s∈p,stepOk s=true) (hl:p.length≤16): ∀ (n i:Nat) (o:ByteArray),i+n=p.length→o.size≤500 * i→W F137 1 [.list (p.map Stp.enc),.str o,.int i]=some [.str (o++stepsB (decide (i=0)) (p.drop i)),.int 0]
 | 0,i,o,h,ho=>by
  have h1: ¬ i<p.length:=by omega
  have h2:p.drop i= []:=List.drop_of_length_le (by omega)
  rw [e_F137_1]
  simp only [O.len_list,List.length_map,Option.bind_some,O.lt_int,lt_cast,h1,decide_false,O.cnd_bool,Bool.false_eq_true,if_false,h2,stepsB,append_emptyB]
 | n+1,i,o,h,ho=>by
  have hi:i<p.length:=by omega
  have hw:=next64 (i:=i) (by omega)
  have hok:=hp _ (List.getElem_mem hi)
  obtain ⟨g1,g2,g3,g4,g5⟩:=stepOk_sizes hok
  have e: ∀c:UInt8,(bsL [c]).size =1:=fun c=>by rw [bsL_size];rfl
  have next: ∀t:ByteArray,stepB (decide (i=0)) p[i]=t→W F137 2 [.list (p.map Stp.enc),.str (o++t),.int i]=some [.str (o++stepsB (decide (i=0)) (p.drop i)),.int 0]:=by
   intro t ht
   have hz:(stepB (decide (i=0)) p[i]).size ≤500:=stepB_size hok
   rw [e_F137_2]
   simp only [O.add_int,hw,Option.bind_some]
   rw [ref_print_1 p hp hl n (i+1) (o++t) (by omega) (by rw [ByteArray.size_append,←ht];omega),List.drop_eq_getElem_cons hi,stepsB,ht,ByteArray.append_assoc]
   rfl
  rw [e_F137_1]
  simp only [O.len_list,List.length_map,Option.bind_some,O.lt_int,lt_cast,hi,decide_true,O.cnd_bool,if_true,O.index_list,Int.natCast_nonneg,Int.toNat_natCast,List.getElem?_map,List.getElem?_eq_getElem hi,Option.map_some,Stp.proj0,Stp.proj1,Stp.proj2,Stp.proj3,O.eq_int,O.gt_int]
  rw [show (ByteArray.mk #[91])=bsL [91] from rfl,show (ByteArray.mk #[93])=bsL [93] from rfl,show (ByteArray.mk #[61])=bsL [61] from rfl,show (ByteArray.mk #[46])=bsL [46] from rfl]
  by_cases k2:p[i].k =2
  ·have hd:=ref_dec p[i].ix (g3 k2).1 (g3 k2).2
   have hd2:=itoaB_size p[i].ix.toNat
   simp only [k2,decide_true,if_true]
   rw [cat_ok (by omega) (by rw [e];omega)]
   simp only [Option.bind_some,hd,O.calls_1]
   rw [cat_ok (by rw [ByteArray.size_append,e];omega) (by omega)]
   simp only [Option.bind_some]
   rw [cat_ok (by rw [ByteArray.size_append,ByteArray.size_append,e];omega) (by rw [e];omega)]
   simp only [Option.bind_some,ByteArray.append_assoc]
   exact next _ (by unfold stepB;rw [if_pos k2,ByteArray.append_assoc])
  ·simp only [k2,decide_false,Bool.false_eq_true,if_false]
   by_cases k3:p[i].k =3
   ·have hd:=ref_quote p[i].vl g2
    have hd2:=quoteB_size p[i].vl
    simp only [k3,decide_true,if_true]
    rw [cat_ok (by omega) (by rw [e];omega)]
    simp only [Option.bind_some]
    rw [cat_ok (by rw [ByteArray.size_append,e];omega) (by omega)]
    simp only [Option.bind_some]
    rw [cat_ok (by rw [ByteArray.size_append,ByteArray.size_append,e];omega) (by rw [e];omega)]
    simp only [Option.bind_some,hd,O.calls_1]
    rw [cat_ok (by rw [ByteArray.size_append,ByteArray.size_append,ByteArray.size_append,e,e];omega) (by omega)]
    simp only [Option.bind_some]
    rw [cat_ok (by rw [ByteArray.size_append,ByteArray.size_append,ByteArray.size_append,ByteArray.size_append,e,e];omega) (by rw [e];omega)]
    simp only [Option.bind_some,ByteArray.append_assoc]
    exact next _ (by unfold stepB;rw [if_neg k2,if_pos k3];simp only [ByteArray.append_assoc])
   ·simp only [k3,decide_false,Bool.false_eq_true,if_false]
    by_cases hz:i=0
    ·have hz': ¬ (0:Int)<i:=by omega
     have ho':o=emptyB:=by
      apply bytes_ext
      have:o.size=0:=by omega
      have:o.data.toList.length=0:=by simpa using this
      rw [List.length_eq_zero_iff.1 this];rfl
     simp only [hz',decide_false,Bool.false_eq_true,if_false]
     have:=next p[i].nm (by unfold stepB;rw [if_neg k2,if_neg k3,if_pos (by simpa using hz)])
     rw [ho',emptyB_append] at this
     rw [ho']
     exact this
    ·have hz':(0:Int)<i:=by omega
     simp only [hz',decide_true,if_true]
     rw [cat_ok (by omega) (by rw [e];omega)]
     simp only [Option.bind_some]
     rw [cat_ok (by rw [ByteArray.size_append,e];omega) (by omega)]
     simp only [Option.bind_some,ByteArray.append_assoc]
     exact next _ (by unfold stepB;rw [if_neg k2,if_neg k3,if_neg (by simpa using hz)])
theorem ref_print (p:List Stp) (hp: ∀s∈p,s.fits) (hl:p.length≤1099511627776):W F137 0 [.list (p.map Stp.enc)]=some [.str (printB p),.int (printE p)]:=by
 rw [e_F137_0]
 unfold printB printE
 cases hb:pathOk p with
 | false=>simp only [ref_pvalid p hp hl,hb,O.calls_1,O.not_bool,Option.bind_some,Bool.not_false,O.cnd_bool,if_true];rfl
 | true=>
  simp only [ref_pvalid p hp hl,hb,O.calls_1,O.not_bool,Option.bind_some,Bool.not_true,O.cnd_bool,Bool.false_eq_true,if_false,if_true]
  unfold pathOk at hb
  simp only [Bool.and_eq_true,decide_eq_true_eq,List.all_eq_true] at hb
  have:=ref_print_1 p hb.1 hb.2 p.length 0 emptyB (by omega) (Nat.le_refl _)
  rw [emptyB_append] at this
  exact this
end Go.CT.Sch
namespace Go.CT.Sch
open Go.Proofs
theorem pv_text_1 (s:ByteArray) (hs:s.size≤1099511627776): ∀ (n i:Nat),i+n=s.size→W F22 1 [.str s,.int s.size,.int i]=some [.bool ((s.data.toList.drop i).all okChar&&decide (s.size≤200))]
 | 0,i,h=>by
  have h1: ¬ i<s.size:=by omega
  have h2:s.data.toList.drop i= []:=List.drop_of_length_le (by simp;omega)
  rw [e_F22_1]
  simp only [O.slen_str,Option.bind_some,O.lt_int,lt_cast,h1,decide_false,O.cnd_bool,Bool.false_eq_true,if_false,O.le_int,h2,List.all_nil,Bool.true_and]
  congr 3
  rw [Bool.eq_iff_iff]
  simp
  omega
 | n+1,i,h=>by
  have hi:i<s.size:=by omega
  have hw:=next64 (i:=i) (by omega)
  have ih:=pv_text_1 s hs n (i+1) (by omega)
  rw [e_F22_1,drop_get hi]
  have e1:okChar s[i]= !(if (!decide ((s[i].toNat :Int)=10))=true then (if decide ((s[i].toNat :Int)<32)=true then true else decide (126<(s[i].toNat :Int))) else false):=by
   unfold okChar
   rw [Bool.eq_iff_iff]
   by_cases c1:s[i].toNat =10
   ·simp [c1]
   ·have c1': ¬ (s[i].toNat :Int)=10:=by omega
    by_cases c2:s[i].toNat <32
    ·have c2':(s[i].toNat :Int)<32:=by omega
     simp [c1,c1',c2,c2'];omega
    ·have c2': ¬ (s[i].toNat :Int)<32:=by omega
     simp [c1,c1',c2,c2']
     omega
  simp only [O.slen_str,Option.bind_some,O.lt_int,lt_cast,hi,decide_true,O.cnd_bool,if_true,O.sindex_str,Int.natCast_nonneg,Int.toNat_natCast,sget hi,Option.map_some,O.ne_int,O.gt_int,ite_some,ite_ivbool,O.add_int,hw,ih,List.all_cons,e1]
  generalize (if (!decide ((s[i].toNat :Int)=10))=true then (if decide ((s[i].toNat :Int)<32)=true then true else decide (126<(s[i].toNat :Int))) else false)=b
  cases b<;>simp
theorem pv_text (s:ByteArray) (hs:s.size≤1099511627776):W F22 0 [.str s]=some [.bool (okStr s)]:=by
 rw [e_F22_0]
 simp only [O.slen_str,Option.bind_some]
 exact pv_text_1 s hs s.size 0 (by omega)
theorem pv_name_1 (s:ByteArray) (hs:s.size≤1099511627776): ∀ (n i:Nat),i+n=s.size→W F23 1 [.str s,.int s.size,.int i]=some [.bool ((s.data.toList.drop i).all okNameChar&&decide (1≤s.size∧s.size≤40))]
 | 0,i,h=>by
  have h1: ¬ i<s.size:=by omega
  have h2:s.data.toList.drop i= []:=List.drop_of_length_le (by simp;omega)
  rw [e_F23_1]
  simp only [O.slen_str,Option.bind_some,O.lt_int,lt_cast,h1,decide_false,O.cnd_bool,Bool.false_eq_true,if_false,O.ge_int,O.le_int,ite_some,ite_ivbool,h2,List.all_nil,Bool.true_and]
  congr 3
  rw [Bool.eq_iff_iff]
  simp
  omega
 | n+1,i,h=>by
  have hi:i<s.size:=by omega
  have hw:=next64 (i:=i) (by omega)
  have ih:=pv_name_1 s hs n (i+1) (by omega)
  rw [e_F23_1,drop_get hi]
  generalize hc:s[i]=c
  simp only [O.slen_str,Option.bind_some,O.lt_int,lt_cast,hi,decide_true,O.cnd_bool,if_true,O.sindex_str,Int.natCast_nonneg,Int.toNat_natCast,sget hi,hc,Option.map_some,O.ge_int,O.le_int,O.eq_int,ite_some,ite_ivbool,O.not_bool,O.add_int,hw,ih,List.all_cons]
  have e1:okNameChar c=(if (if (if (if (if (if decide ((97:Int)≤c.toNat)=true then decide ((c.toNat:Int)≤122) else false)=true then true else if decide ((65:Int)≤c.toNat)=true then decide ((c.toNat:Int)≤90) else false)=true then true else if decide ((48:Int)≤c.toNat)=true then decide ((c.toNat:Int)≤57) else false)=true then true else decide ((c.toNat:Int)=45))=true then true else decide ((c.toNat:Int)=95))=true then true else decide ((c.toNat:Int)=47)):=by
   unfold okNameChar
   rw [Bool.eq_iff_iff]
   simp
   omega
  rw [←e1]
  cases okNameChar c<;>simp
theorem pv_name (s:ByteArray) (hs:s.size≤1099511627776):W F23 0 [.str s]=some [.bool (okName s)]:=by
 rw [e_F23_0]
 simp only [O.slen_str,Option.bind_some]
 exact pv_name_1 s hs s.size 0 (by omega)
theorem pv_scalar (v:Val) (hv:v.mass≤1099511627776):W F21 0 [v.enc]=some [.bool (okScalar v)]:=by
 have hs:=v.mass_s
 rw [e_F21_0]
 unfold okScalar
 simp only [Val.proj0,Option.bind_some,O.eq_int,O.cnd_bool]
 by_cases c1:v.k=1
 ·by_cases a1:v.s=emptyB<;>by_cases a2:v.n=0<;>simp [c1,a1,a2,emptyB_eq]
 by_cases c2:v.k=2
 ·by_cases a1: -1000000000000000≤v.n<;>by_cases a2:v.n≤1000000000000000<;>by_cases a3:v.s=emptyB<;>simp [c2,a1,a2,a3,emptyB_eq]
 by_cases c3:v.k=3
 ·by_cases a1:v.n=0<;>simp [c3,a1,pv_text v.s (by omega)]
 by_cases c4:v.k=0
 ·by_cases a1:v.n=0<;>simp [c4,e_F21_1,a1,emptyB_eq]
 by_cases c5:v.k=4
 ·by_cases a1:v.n=0<;>simp [c5,e_F21_1,a1,emptyB_eq]
 by_cases c6:v.k=5
 ·by_cases a1:v.n=0<;>simp [c6,e_F21_1,a1,emptyB_eq]
 simp [c1,c2,c3,c4,c5,c6,e_F21_1]
theorem pv_valid_2 (d:Nat) (v:Val) (hd:d≤12) (hv:v.mass≤1099511627776) (ih: ∀p∈v.f,W F20 0 [p.2.enc,.int d]=some [.bool (validD d p.2)]): ∀ (n i:Nat),i+n=v.f.length→
  W F20 2 [.int ((d+1:Nat):Int),.list (v.f.map Fld.enc),.int v.f.length,.int i,v.enc]=some [.bool (frOk d (prevName v.f i) (v.f.drop i))]
 | 0,i,h=>by
  rw [e_F20_2]
  have h1: ¬ i<v.f.length:=by omega
  simp [h1,List.drop_of_length_le (Nat.le_of_not_lt h1),frOk]
 | n+1,i,h=>by
  have hi:i<v.f.length:=by omega
  have hm:=v.mass_len_f
  have hw:=next64 (i:=i) (by omega)
  have hd1:IntKind.i64.wrap (((d+1:Nat):Int) - 1)=d:=by rw [wrap64 (by omega) (by omega)];omega
  have:=pv_valid_2 d v hd hv ih n (i+1) (by omega)
  have hmem:=List.getElem_mem hi
  have hmass:=Val.mass_f hmem
  have hpn:prevName v.f (i+1)=some v.f[i].1 :=by simp [prevName,hi]
  rw [hpn] at this
  rw [e_F20_2,List.drop_eq_getElem_cons hi,frOk_cons]
  simp only [Val.proj4,Option.bind_some,O.lt_int,lt_cast,hi,decide_true,O.cnd_bool,if_true,O.index_list,Int.natCast_nonneg,Int.toNat_natCast,List.getElem?_map,List.getElem?_eq_getElem hi,Option.map_some,Fld.proj0,Fld.projV,pv_name v.f[i].1 (by omega),O.sub_int,hd1,ih _ hmem,O.calls_1,O.not_bool,O.gt_int,O.add_int,hw,this]
  cases i with
  | zero=>
   simp only [prevName]
   cases okName v.f[0].1<;>cases validD d v.f[0].2<;>simp
  | succ i=>
   have hi':i<v.f.length:=by omega
   have hw2:IntKind.i64.wrap (((i+1:Nat):Int) - 1)=i:=by rw [wrap64 (by omega) (by omega)];omega
   have hp:(0:Int)<((i+1:Nat):Int):=by omega
   simp only [prevName,List.getElem?_eq_getElem hi',Option.map_some,hw2,hp,decide_true,if_true,Int.natCast_nonneg,Int.toNat_natCast,Option.bind_some,Fld.proj0,sGe_blt]
   cases okName v.f[i+1].1<;>cases validD d v.f[i+1].2<;>cases blt v.f[i].1 v.f[i+1].1<;>simp
theorem pv_valid_1 (d:Nat) (v:Val) (hd:d≤12) (hv:v.mass≤1099511627776) (ih: ∀x∈v.l,W F20 0 [x.enc,.int d]=some [.bool (validD d x)]): ∀ (n i:Nat),i+n=v.l.length→
  W F20 1 [.int ((d+1:Nat):Int),.list (v.l.map Val.enc),.int v.l.length,.int i,v.enc]=if (v.l.drop i).all (validD d)=true then W F20 2 [.int ((d+1:Nat):Int),.list (v.f.map Fld.enc),.int v.f.length,.int 0,v.enc] else some [.bool false]
 | 0,i,h=>by
  rw [e_F20_1]
  have h1: ¬ i<v.l.length:=by omega
  simp [h1,List.drop_of_length_le (Nat.le_of_not_lt h1)]
 | n+1,i,h=>by
  have hi:i<v.l.length:=by omega
  have hm:=v.mass_len_l
  have hw:=next64 (i:=i) (by omega)
  have hd1:IntKind.i64.wrap (((d+1:Nat):Int) - 1)=d:=by rw [wrap64 (by omega) (by omega)];omega
  have:=pv_valid_1 d v hd hv ih n (i+1) (by omega)
  rw [e_F20_1,List.drop_eq_getElem_cons hi]
  simp only [Option.bind_some,O.lt_int,lt_cast,hi,decide_true,O.cnd_bool,if_true,O.index_list,Int.natCast_nonneg,Int.toNat_natCast,List.getElem?_map,List.getElem?_eq_getElem hi,Option.map_some,O.sub_int,hd1,ih _ (List.getElem_mem hi),O.calls_1,O.not_bool,O.add_int,hw,this,List.all_cons]
  by_cases c:validD d v.l[i]=true<;>simp [c]
theorem pv_valid: ∀ (d:Nat) (v:Val),d≤12→v.mass≤1099511627776→W F20 0 [v.enc,.int d]=some [.bool (validD d v)]
 | 0,v,_,_=>by
  rw [e_F20_0]
  simp [validD]
 | d+1,v,hd,hv=>by
  have h1:=pv_valid_1 d v (by omega) hv (fun x hx=>pv_valid d x (by omega) (by have:=Val.mass_l hx;omega)) v.l.length 0 (by omega)
  have h2:=pv_valid_2 d v (by omega) hv (fun p hp=>pv_valid d p.2 (by omega) (by have:=Val.mass_f hp;omega)) v.f.length 0 (by omega)
  have hm1:=v.mass_len_l
  have hm2:=v.mass_len_f
  have hd0: ¬ ((d+1:Nat):Int)=0:=by omega
  simp only [List.drop_zero,Int.cast_ofNat_Int] at h1 h2
  have e1:decide ((0:Int)<(v.l.length:Int))= !decide (v.l= []):=by cases v.l<;>simp
  have e2:decide ((0:Int)<(v.f.length:Int))= !decide (v.f= []):=by cases v.f<;>simp
  have e3:decide ((64:Int)<(v.l.length:Int))= !decide (v.l.length≤64):=by rw [Bool.eq_iff_iff];simp;omega
  have e4:decide ((64:Int)<(v.f.length:Int))= !decide (v.f.length≤64):=by rw [Bool.eq_iff_iff];simp;omega
  rw [e_F20_0]
  simp only [O.eq_int,hd0,decide_false,Option.bind_some,O.cnd_bool,Bool.false_eq_true,if_false,pv_scalar v hv,O.calls_1,O.not_bool,ite_some,ite_ivbool,Val.proj0,Val.proj3,Val.proj4,O.ne_int,O.len_list,List.length_map,O.gt_int,e1,e2,e3,e4,h1,h2]
  unfold validD
  have hpn:prevName v.f 0=none:=rfl
  rw [hpn,frOk_none]
  generalize v.l.all (validD d)=A at *
  generalize (v.f.all fun p=>okName p.1&&validD d p.2)=B at *
  generalize rising v.f=C at *
  generalize okScalar v=D
  clear h1 h2
  have p4:(if (!decide (v.k=4))=true then !decide (v.l= []) else false)= !decide (v.k≠4→v.l= []):=by by_cases c:v.k=4<;>simp [c]
  have p5:(if (!decide (v.k=5))=true then !decide (v.f= []) else false)= !decide (v.k≠5→v.f= []):=by by_cases c:v.k=5<;>simp [c]
  rw [p4,p5,show decide (v.l.length≤64∧v.f.length≤64∧(v.k≠4→v.l= [])∧(v.k≠5→v.f= []))=(decide (v.l.length≤64)&&(decide (v.f.length≤64)&&(decide (v.k≠4→v.l= [])&&decide (v.k≠5→v.f= [])))) by simp only [Bool.decide_and]]
  generalize decide (v.l.length≤64)=b1
  generalize decide (v.f.length≤64)=b2
  generalize decide (v.k≠4→v.l= [])=b3
  generalize decide (v.k≠5→v.f= [])=b4
  cases D<;>cases b1<;>cases b2<;>cases b3<;>cases b4<;>cases A<;>cases B<;>cases C<;>rfl
theorem pv_size_2 (v:Val) (hv:v.mass≤1099511627776) (ih: ∀p∈v.f,W F24 0 [p.2.enc]=some [.int p.2.size]): ∀ (n i c:Nat),i+n=v.f.length→c+sizeFs (v.f.drop i)≤4611686018427387904→
  W F24 2 [.int c,.list (v.f.map Fld.enc),.int v.f.length,.int i]=some [.int ((c+sizeFs (v.f.drop i):Nat):Int)]
 | 0,i,c,h,hc=>by
  rw [e_F24_2]
  have h1: ¬ i<v.f.length:=by omega
  simp [h1,List.drop_of_length_le (Nat.le_of_not_lt h1),sizeFs]
 | n+1,i,c,h,hc=>by
  have hi:i<v.f.length:=by omega
  have hm:=v.mass_len_f
  have hw:=next64 (i:=i) (by omega)
  have hd:sizeFs (v.f.drop i)=v.f[i].2.size +sizeFs (v.f.drop (i+1)):=by rw [List.drop_eq_getElem_cons hi];rfl
  have hw2:IntKind.i64.wrap ((c:Int)+(v.f[i].2.size :Int))=((c+v.f[i].2.size :Nat):Int):=by rw [wrap64 (by omega) (by omega)];rfl
  rw [e_F24_2]
  simp only [Option.bind_some,O.lt_int,lt_cast,hi,decide_true,O.cnd_bool,if_true,O.index_list,Int.natCast_nonneg,Int.toNat_natCast,List.getElem?_map,List.getElem?_eq_getElem hi,Option.map_some,Fld.projV,ih _ (List.getElem_mem hi),O.calls_1,O.add_int,hw,hw2]
  rw [pv_size_2 v hv ih n (i+1) _ (by omega) (by omega),hd,Nat.add_assoc]
theorem pv_size_1 (v:Val) (hv:v.mass≤1099511627776) (ih: ∀x∈v.l,W F24 0 [x.enc]=some [.int x.size]): ∀ (n i c:Nat),i+n=v.l.length→c+sizeVs (v.l.drop i)≤4611686018427387904→
  W F24 1 [.int c,.list (v.l.map Val.enc),.int v.l.length,.int i,v.enc]=W F24 2 [.int ((c+sizeVs (v.l.drop i):Nat):Int),.list (v.f.map Fld.enc),.int v.f.length,.int 0]
 | 0,i,c,h,hc=>by
  rw [e_F24_1]
  have h1: ¬ i<v.l.length:=by omega
  simp [h1,List.drop_of_length_le (Nat.le_of_not_lt h1),sizeVs]
 | n+1,i,c,h,hc=>by
  have hi:i<v.l.length:=by omega
  have hm:=v.mass_len_l
  have hw:=next64 (i:=i) (by omega)
  have hd:sizeVs (v.l.drop i)=v.l[i].size +sizeVs (v.l.drop (i+1)):=by rw [List.drop_eq_getElem_cons hi];rfl
  have hw2:IntKind.i64.wrap ((c:Int)+(v.l[i].size :Int))=((c+v.l[i].size :Nat):Int):=by rw [wrap64 (by omega) (by omega)];rfl
  rw [e_F24_1]
  simp only [Option.bind_some,O.lt_int,lt_cast,hi,decide_true,O.cnd_bool,if_true,O.index_list,Int.natCast_nonneg,Int.toNat_natCast,List.getElem?_map,List.getElem?_eq_getElem hi,Option.map_some,ih _ (List.getElem_mem hi),O.calls_1,O.add_int,hw,hw2]
  rw [pv_size_1 v hv ih n (i+1) _ (by omega) (by omega),hd,Nat.add_assoc]
theorem pv_size: ∀v:Val,v.mass≤1099511627776→W F24 0 [v.enc]=some [.int v.size]:=by
 refine Val.ind fun v ih1 ih2 hv=>?_
 have hsz:=v.size_mass
 have hs:=v.size_eq
 have h1:=pv_size_1 v hv (fun x hx=>ih1 x hx (by have:=Val.mass_l hx;omega)) v.l.length 0 1 (by omega) (by simp only [List.drop_zero];omega)
 have h2:=pv_size_2 v hv (fun p hp=>ih2 p hp (by have:=Val.mass_f hp;omega)) v.f.length 0 (1+sizeVs v.l) (by omega) (by simp only [List.drop_zero];omega)
 simp only [List.drop_zero,Int.cast_ofNat_Int] at h1 h2
 rw [e_F24_0]
 simp only [Val.proj3,Option.bind_some,O.len_list,List.length_map]
 have h1':W F24 1 [.int 1,.list (v.l.map Val.enc),.int v.l.length,.int 0,v.enc]=W F24 2 [.int ((1+sizeVs v.l:Nat):Int),.list (v.f.map Fld.enc),.int v.f.length,.int 0]:=h1
 rw [h1',h2,hs]
theorem pv_Valid (v:Val) (hv:v.mass≤1099511627776):W F19 0 [v.enc]=some [.bool v.valid]:=by
 rw [e_F19_0]
 have h1:=pv_valid 12 v (by omega) hv
 have h2:=pv_size v hv
 simp only [Int.cast_ofNat_Int] at h1
 simp only [h1,h2,O.calls_1,O.cnd_bool,O.le_int,Option.bind_some,Val.valid]
 have:decide ((v.size:Int)≤600)=decide (v.size≤600):=by simp;omega
 cases validD 12 v<;>simp [this]
end Go.CT.Sch
namespace Go.CT.Sch
open Go.Proofs
def nmR (r:Int):Bool:=decide (97≤r∧r≤122)||decide (65≤r∧r≤90)||decide (48≤r∧r≤57)||decide (r=45)||decide (r=95)||decide (r=47)
theorem pp_rune (r:Int):W F58 0 [.int r]=some [.bool (nmR r)]:=by
 rw [e_F58_0]
 simp only [O.ge_int,O.le_int,O.eq_int,Option.bind_some,O.cnd_bool,ite_some,ite_ivbool]
 congr 3
 unfold nmR
 rw [Bool.eq_iff_iff]
 simp
theorem nmR_char (c:UInt8):nmR c.toNat=okNameChar c:=by
 unfold nmR okNameChar
 rw [Bool.eq_iff_iff]
 simp
 omega
theorem nmR_high {r:Int} (h:128≤r):nmR r=false:=by
 unfold nmR
 simp
 omega
theorem char_high {c:UInt8} (h:128≤c.toNat):okNameChar c=false:=by
 rw [←nmR_char];exact nmR_high (by omega)
theorem pp_name_1 (s:ByteArray) (hs:s.size≤1099511627776): ∀ (n i:Nat),i+n=s.size→W F57 1 [.str s,.str s,.int i]=some [.bool ((s.data.toList.drop i).all okNameChar&&decide (1≤s.size∧s.size≤40))]
 | 0,i,h=>by
  have h1: ¬ i<s.size:=by omega
  have h2:s.data.toList.drop i= []:=List.drop_of_length_le (by simp;omega)
  rw [e_F57_1]
  simp only [O.iterOk_out h1,O.runeAt_out h1,O.iterNext_out h1,Option.bind_some,O.cnd_bool,Bool.false_eq_true,if_false,O.sNe_str,O.slen_str,O.le_int,ite_some,ite_ivbool,h2,List.all_nil,Bool.true_and]
  congr 3
  have e:s=(⟨#[]⟩:ByteArray)↔s.size=0:=by
   constructor
   ·rintro rfl;rfl
   ·intro h0
    apply bytes_ext
    have:s.data.toList.length=0:=by simpa using h0
    rw [List.length_eq_zero_iff.1 this]
  by_cases c:s.size=0
  ·simp [e,c]
  ·have c1:1≤s.size:=by omega
   rw [Bool.eq_iff_iff]
   simp [e,c,c1]
   omega
 | n+1,i,h=>by
  have hi:i<s.size:=by omega
  rw [e_F57_1,drop_get hi]
  simp only [O.iterOk_in hi,O.runeAt_in hi,O.iterNext_in hi,Option.bind_some,O.cnd_bool,if_true,O.need_true,pp_rune,O.calls_1,O.not_bool,List.all_cons]
  by_cases hb:s[i].toNat <128
  ·have ih:=pp_name_1 s hs n (i+1) (by omega)
   rw [decode_low hi hb]
   simp only [nmR_char]
   cases okNameChar s[i] with
   | true=>simpa using ih
   | false=>simp
  ·have hd:=decode_high hi (by omega)
   rw [nmR_high (by omega),char_high (by omega)]
   simp
theorem pp_name (s:ByteArray) (hs:s.size≤1099511627776):W F57 0 [.str s]=some [.bool (okName s)]:=by
 rw [e_F57_0];exact pp_name_1 s hs s.size 0 (by omega)
theorem str_valid (s:ByteArray):(Val.mk 3 0 s [] []).valid =okStr s:=by
 unfold Val.valid validD
 simp [okScalar,rising,Val.size,sizeVs,sizeFs]
theorem pp_step (s:Stp) (hs:s.fits):W F56 0 [s.enc]=some [.bool (stepOk s)]:=by
 have h1:=pp_name s.nm (Nat.le_trans hs.1 (by decide))
 have h2:=pv_Valid ⟨3,0,s.vl,[],[]⟩ (by
  have:=hs.2
  rw [Val.mass_eq];simp [massVs_nil,massFs_nil];omega)
 rw [str_valid] at h2
 have e:IV.agg [.int 3,.int 0,.str s.vl,.list [],.list []]=Val.enc ⟨3,0,s.vl,[],[]⟩:=rfl
 rw [e_F56_0]
 simp only [Stp.proj0,Stp.proj1,Stp.proj2,Stp.proj3,Option.bind_some,O.eq_int,O.cnd_bool,h1,O.calls_1,O.ge_int,O.le_int,O.sEq_str,ite_some,ite_ivbool,emptyB_eq,e_F18_0,O.calls_5,O.mkagg_eq,e,h2]
 unfold stepOk
 by_cases k1:s.k=1
 ·simp only [k1,decide_true,if_true]
  cases okName s.nm<;>simp
 ·by_cases k2:s.k=2
  ·simp only [k2,decide_true,decide_false,Bool.false_eq_true,if_true,if_false]
   by_cases e1:0≤s.ix<;>by_cases e2:s.ix≤64<;>by_cases e3:s.nm=emptyB<;>simp [e1,e2,e3]
  ·simp only [k1,k2,decide_false,Bool.false_eq_true,if_false]
   by_cases k3:s.k=3
   ·simp only [k3,decide_true,if_true]
    cases okName s.nm<;>cases okStr s.vl<;>simp
   ·simp [k3]
theorem pp_index (p:List Stp) (hp: ∀s∈p,s.fits) (hl:p.length≤1099511627776): ∀ (n i:Nat),i+n=p.length→
  ∃r:Int,W F54 1 [.list (p.map Stp.enc),.int p.length,.int i]=some [.int r]∧decide (0≤r)= !(p.drop i).all stepOk
 | 0,i,h=>by
  have h1: ¬ i<p.length:=by omega
  have h2:p.drop i= []:=List.drop_of_length_le (by omega)
  rw [e_F54_1]
  simp only [O.lt_int,lt_cast,h1,decide_false,Option.bind_some,O.cnd_bool,Bool.false_eq_true,if_false,h2]
  exact ⟨-1,rfl,rfl⟩
 | n+1,i,h=>by
  have hi:i<p.length:=by omega
  have hw:=next64 (i:=i) (by omega)
  obtain ⟨r,hr,hr2⟩:=pp_index p hp hl n (i+1) (by omega)
  rw [e_F54_1,List.drop_eq_getElem_cons hi]
  simp only [O.lt_int,lt_cast,hi,decide_true,Option.bind_some,O.cnd_bool,if_true,O.index_list,Int.natCast_nonneg,Int.toNat_natCast,List.getElem?_map,List.getElem?_eq_getElem hi,Option.map_some,e_F55_0,pp_step _ (hp _ (List.getElem_mem hi)),O.calls_1,O.not_bool,O.add_int,hw,hr,List.all_cons]
  cases stepOk p[i] with
  | true=>exact ⟨r,by simp,by simpa using hr2⟩
  | false=>exact ⟨i,by simp,by simp⟩
theorem pp_valid (p:List Stp) (hp: ∀s∈p,s.fits) (hl:p.length≤1099511627776):W F52 0 [.list (p.map Stp.enc)]=some [.bool (pathOk p)]:=by
 obtain ⟨r,hr,hr2⟩:=pp_index p hp hl p.length 0 (by omega)
 have hr':W F54 0 [.list (p.map Stp.enc)]=some [.int r]:=by
  rw [e_F54_0]
  simp only [O.len_list,List.length_map,Option.bind_some]
  exact hr
 rw [e_F52_0]
 simp only [O.len_list,List.length_map,Option.bind_some,O.le_int,O.cnd_bool,e_F53_0,hr',O.calls_1,O.ge_int,hr2,O.not_bool,List.drop_zero,Bool.not_not]
 unfold pathOk
 have:decide ((p.length:Int)≤16)=decide (p.length≤16):=by simp;omega
 rw [this]
 by_cases c:p.length≤16<;>simp [c]
theorem bld_byte (s:ByteArray) (c:UInt8) (hs:s.size≤1000000):W F59 0 [.list (bytesIV s),.int c.toNat]=some [.list (bytesIV (s++bsL [c]))]:=by
 rw [e_F59_0]
 have h:((bytesIV s).length + [IV.int (c.toNat:Int)].length) * 1≤maxBytes:=by rw [O.bytesIV_length];simp;unfold maxBytes;omega
 simp only [e_F60,O.copyCheckF_list,O.calls_1,O.mklist_eq,Option.bind_some,O.append_list,h,if_true,O.bytesIV_append]
 rfl
theorem bld_str (s t:ByteArray) (hs:s.size≤1000000) (ht:t.size≤1000000): ∃n,W F62 0 [.list (bytesIV s),.str t]=some [n,.list (bytesIV (s++t))]:=by
 rw [e_F62_0]
 have h:(bytesIV s).length +t.size≤maxBytes:=by rw [O.bytesIV_length];unfold maxBytes;omega
 simp only [e_F60,O.copyCheckF_list,O.calls_1,O.appendS_str h,Option.bind_some,O.slen_str,O.bytesIV_append]
 exact ⟨_,rfl⟩
theorem bld_rune (s:ByteArray) (c:UInt8) (hc:c.toNat<128) (hs:s.size≤1000000): ∃n,W F65 0 [.list (bytesIV s),.int c.toNat]=some [n,.list (bytesIV (s++bsL [c]))]:=by
 rw [e_F65_0]
 have h:((bytesIV s).length + [IV.int (c.toNat:Int)].length) * 1≤maxBytes:=by rw [O.bytesIV_length];simp;unfold maxBytes;omega
 have w1:IntKind.u32.wrap (c.toNat:Int)=c.toNat:=by
  unfold IntKind.wrap
  simp [IntKind.signed,IntKind.bits]
  omega
 have w2:IntKind.u8.wrap (c.toNat:Int)=c.toNat:=by
  unfold IntKind.wrap
  simp [IntKind.signed,IntKind.bits]
  omega
 have w3:decide ((c.toNat:Int)≤127)=true:=by simp;omega
 simp only [e_F60,O.copyCheckF_list,O.calls_1,O.len_list,Option.bind_some,e_F66_0,O.conv_int,w1,w2,O.le_int,w3,O.cnd_bool,if_true,O.mklist_eq,O.append_list,h,O.bytesIV_append,O.sub_int]
 exact ⟨_,rfl⟩
theorem okChar_low {c:UInt8} (h:okChar c=true):c.toNat<128:=by
 unfold okChar at h
 simp at h
 omega
theorem pp_quote_1 (s:ByteArray) (hs:s.size≤200) (ho: ∀c∈s.data.toList,okChar c=true): ∀ (n i:Nat) (o:ByteArray),i+n=s.size→o.size≤1+2 * i→W F63 1 [.str s,.int i,.list (bytesIV o)]=some [.str (o++bsL ((s.data.toList.drop i).flatMap escB++ [34]))]
 | 0,i,o,h,ho'=>by
  have h1: ¬ i<s.size:=by omega
  have h2:s.data.toList.drop i= []:=List.drop_of_length_le (by simp;omega)
  have hb:=bld_byte o 34 (by omega)
  rw [e_F63_1]
  simp only [O.iterOk_out h1,O.runeAt_out h1,O.iterNext_out h1,Option.bind_some,O.cnd_bool,Bool.false_eq_true,if_false]
  rw [show (IV.int 34)=IV.int ((34:UInt8).toNat :Int) from rfl,hb]
  simp only [O.calls_1,e_F64,O.stringF_bytes,h2,List.flatMap_nil,List.nil_append]
 | n+1,i,o,h,ho'=>by
  have hi:i<s.size:=by omega
  have hc:=ho s[i] (by rw [show s[i]=s.data.toList[i]'(by simpa using hi) from rfl];exact List.getElem_mem _)
  have hlow:=okChar_low hc
  have next: ∀a:List UInt8,a.length≤2→escB s[i]=a→W F63 3 [.str s,.int ((i+1:Nat):Int),.list (bytesIV (o++bsL a))]=some [.str (o++bsL ((s.data.toList.drop i).flatMap escB++ [34]))]:=by
   intro a ha he
   rw [e_F63_3]
   rw [pp_quote_1 s hs ho n (i+1) _ (by omega) (by rw [ByteArray.size_append,bsL_size];omega),drop_get hi,List.flatMap_cons,he,List.append_assoc,bsL_append a,ByteArray.append_assoc]
  rw [e_F63_1]
  simp only [O.iterOk_in hi,O.runeAt_in hi,O.iterNext_in hi,decode_low hi hlow,Option.bind_some,O.cnd_bool,if_true,O.need_true,O.eq_int]
  have two:s[i].toNat =34∨s[i].toNat =92→W F63 2 [.int s[i].toNat,.int s[i].toNat,.bool true,.str s,.int ((i+1:Nat):Int),.list (bytesIV o)]=some [.str (o++bsL ((s.data.toList.drop i).flatMap escB++ [34]))]:=by
   intro h2
   rw [e_F63_2]
   have hb:=bld_byte o 92 (by omega)
   obtain ⟨m,hr⟩:=bld_rune (o++bsL [92]) s[i] hlow (by rw [ByteArray.size_append,bsL_size];simp;omega)
   simp only [O.cnd_bool,if_true]
   rw [show (IV.int 92)=IV.int ((92:UInt8).toNat :Int) from rfl,hb]
   simp only [O.calls_1,hr,O.calls_2]
   rw [ByteArray.append_assoc,←bsL_append]
   exact next [92,s[i]] (by simp) (by unfold escB;rw [if_neg (by omega),if_pos h2])
  by_cases c1:s[i].toNat =34
  ·have c1':decide ((s[i].toNat :Int)=34)=true:=by simp;omega
   simp only [c1',if_true]
   exact two (.inl c1)
  ·have c1':decide ((s[i].toNat :Int)=34)=false:=by simp;omega
   simp only [c1',Bool.false_eq_true,if_false]
   by_cases c2:s[i].toNat =92
   ·have c2':decide ((s[i].toNat :Int)=92)=true:=by simp;omega
    simp only [c2']
    exact two (.inr c2)
   ·have c2':decide ((s[i].toNat :Int)=92)=false:=by simp;omega
    simp only [c2']
    rw [e_F63_2]
    simp only [O.cnd_bool,Bool.false_eq_true,if_false,O.eq_int,Option.bind_some]
    by_cases c3:s[i].toNat =10
    ·have c3':decide ((s[i].toNat :Int)=10)=true:=by simp;omega
     simp only [c3',if_true]
     obtain ⟨m,hr⟩:=bld_str o (bsL [92,110]) (by omega) (by rw [bsL_size];simp)
     rw [show (ByteArray.mk #[92,110])=bsL [92,110] from rfl]
     simp only [hr,O.calls_2]
     exact next [92,110] (by simp) (by unfold escB;rw [if_pos c3])
    ·have c3':decide ((s[i].toNat :Int)=10)=false:=by simp;omega
     simp only [c3',Bool.false_eq_true,if_false]
     obtain ⟨m,hr⟩:=bld_rune o s[i] hlow (by omega)
     simp only [hr,O.calls_2]
     exact next [s[i]] (by simp) (by unfold escB;rw [if_neg c3,if_neg (by omega)])
theorem pp_quote (s:ByteArray) (h:okStr s=true):W F63 0 [.str s]=some [.str (quoteB s)]:=by
 have hs:=okStr_size h
 unfold okStr at h
 simp only [Bool.and_eq_true,List.all_eq_true] at h
 rw [e_F63_0]
 have hb:=bld_byte emptyB 34 (by decide)
 rw [show (IV.list [])=IV.list (bytesIV emptyB) from rfl,show (IV.int 34)=IV.int ((34:UInt8).toNat :Int) from rfl,hb]
 simp only [O.calls_1,emptyB_append]
 rw [show (IV.int 0)=IV.int ((0:Nat):Int) from rfl,pp_quote_1 s hs h.1 s.size 0 _ (by omega) (by rw [bsL_size];simp),←bsL_append]
 rfl
theorem pp_print_1 (p:List Stp) (hp: ∀s∈p,stepOk s=true) (hl:p.length≤16): ∀ (n i:Nat) (o:ByteArray),i+n=p.length→o.size≤500 * i→W F51 1 [.list (p.map Stp.enc),.int p.length,.int i,.list (bytesIV o)]=some [.str (o++stepsB (decide (i=0)) (p.drop i)),.int 0]
 | 0,i,o,h,ho=>by
  have h1: ¬ i<p.length:=by omega
  have h2:p.drop i= []:=List.drop_of_length_le (by omega)
  rw [e_F51_1]
  simp only [Option.bind_some,O.lt_int,lt_cast,h1,decide_false,O.cnd_bool,Bool.false_eq_true,if_false,h2,stepsB,append_emptyB,e_F64,O.stringF_bytes,O.calls_1]
 | n+1,i,o,h,ho=>by
  have hi:i<p.length:=by omega
  have hw:=next64 (i:=i) (by omega)
  have hok:=hp _ (List.getElem_mem hi)
  obtain ⟨g1,g2,g3,g4,g5⟩:=stepOk_sizes hok
  have e: ∀c:UInt8,(bsL [c]).size =1:=fun c=>by rw [bsL_size];rfl
  have next: ∀t:ByteArray,stepB (decide (i=0)) p[i]=t→W F51 3 [.list (p.map Stp.enc),.int p.length,.int i,.list (bytesIV (o++t))]=some [.str (o++stepsB (decide (i=0)) (p.drop i)),.int 0]:=by
   intro t ht
   have hz:(stepB (decide (i=0)) p[i]).size ≤500:=stepB_size hok
   rw [e_F51_3]
   simp only [O.add_int,hw,Option.bind_some]
   rw [pp_print_1 p hp hl n (i+1) (o++t) (by omega) (by rw [ByteArray.size_append,←ht];omega),List.drop_eq_getElem_cons hi,stepsB,ht,ByteArray.append_assoc]
   rfl
  rw [e_F51_1]
  simp only [Option.bind_some,O.lt_int,lt_cast,hi,decide_true,O.cnd_bool,if_true,O.index_list,Int.natCast_nonneg,Int.toNat_natCast,List.getElem?_map,List.getElem?_eq_getElem hi,Option.map_some,Stp.proj0,Stp.proj1,Stp.proj2,Stp.proj3,O.eq_int,O.gt_int]
  rw [show (ByteArray.mk #[91])=bsL [91] from rfl,show (ByteArray.mk #[93])=bsL [93] from rfl,show (ByteArray.mk #[61])=bsL [61] from rfl,show (IV.int 46)=IV.int ((46:UInt8).toNat :Int) from rfl]
  rcases g5 with k1 | k2 | k3
  ·simp only [k1,decide_true,if_true]
   by_cases hz:i=0
   ·have hz': ¬ (0:Int)<i:=by omega
    obtain ⟨m,hr⟩:=bld_str o p[i].nm (by omega) (by omega)
    simp only [hz',decide_false,Bool.false_eq_true,if_false]
    rw [e_F51_2]
    simp only [Stp.proj1,Option.bind_some,hr,O.calls_2]
    exact next _ (by unfold stepB;rw [if_neg (by omega),if_neg (by omega),if_pos (by simpa using hz)])
   ·have hz':(0:Int)<i:=by omega
    obtain ⟨m,hr⟩:=bld_str (o++bsL [46]) p[i].nm (by rw [ByteArray.size_append,e];omega) (by omega)
    simp only [hz',decide_true,if_true,bld_byte o 46 (by omega),O.calls_1]
    rw [e_F51_2]
    simp only [Stp.proj1,Option.bind_some,hr,O.calls_2,ByteArray.append_assoc]
    exact next _ (by unfold stepB;rw [if_neg (by omega),if_neg (by omega),if_neg (by simpa using hz)])
  ·obtain ⟨x,hx⟩:=Int.eq_ofNat_of_zero_le (g3 k2).1
   have hx2:=(g3 k2).2
   rw [hx] at hx2
   have hd:W F61 0 [.int p[i].ix]=some [.str (O.itoaB p[i].ix.toNat)]:=by
    rw [e_F61,hx,O.itoa_fun x (by omega)];rfl
   have hd2:=itoaB_size p[i].ix.toNat
   have k1:decide (p[i].k =1)=false:=by rw [k2];rfl
   simp only [k1,k2,decide_true,Bool.false_eq_true,if_false,if_true,hd,O.calls_1]
   rw [cat_ok (by rw [e];omega) (by omega)]
   simp only [Option.bind_some]
   rw [cat_ok (by rw [ByteArray.size_append,e];omega) (by rw [e];omega)]
   obtain ⟨m,hr⟩:=bld_str o (bsL [91]++O.itoaB p[i].ix.toNat ++bsL [93]) (by omega) (by rw [ByteArray.size_append,ByteArray.size_append,e,e];omega)
   simp only [Option.bind_some,hr,O.calls_2]
   exact next _ (by unfold stepB;rw [if_pos k2])
  ·have hd:=pp_quote p[i].vl (g4 k3)
   have hd2:=quoteB_size p[i].vl
   have k1:decide (p[i].k =1)=false:=by rw [k3];rfl
   have k2:decide (p[i].k =2)=false:=by rw [k3];rfl
   simp only [k1,k2,k3,decide_true,Bool.false_eq_true,if_false,if_true]
   rw [cat_ok (by rw [e];omega) (by omega)]
   simp only [Option.bind_some]
   rw [cat_ok (by rw [ByteArray.size_append,e];omega) (by rw [e];omega)]
   simp only [Option.bind_some,hd,O.calls_1]
   rw [cat_ok (by rw [ByteArray.size_append,ByteArray.size_append,e,e];omega) (by omega)]
   simp only [Option.bind_some]
   rw [cat_ok (by rw [ByteArray.size_append,ByteArray.size_append,ByteArray.size_append,e,e];omega) (by rw [e];omega)]
   obtain ⟨m,hr⟩:=bld_str o (bsL [91]++p[i].nm ++bsL [61]++quoteB p[i].vl ++bsL [93]) (by omega) (by simp only [ByteArray.size_append,e];omega)
   simp only [Option.bind_some,hr,O.calls_2]
   exact next _ (by unfold stepB;rw [if_neg (by omega),if_pos k3])
theorem pp_print (p:List Stp) (hp: ∀s∈p,s.fits) (hl:p.length≤1099511627776):W F51 0 [.list (p.map Stp.enc)]=some [.str (printB p),.int (printE p)]:=by
 rw [e_F51_0]
 unfold printB printE
 cases hb:pathOk p with
 | false=>simp only [pp_valid p hp hl,hb,O.calls_1,O.not_bool,Option.bind_some,Bool.not_false,O.cnd_bool,if_true];rfl
 | true=>
  simp only [pp_valid p hp hl,hb,O.calls_1,O.not_bool,Option.bind_some,Bool.not_true,O.cnd_bool,Bool.false_eq_true,if_false,if_true,O.len_list,List.length_map]
  unfold pathOk at hb
  simp only [Bool.and_eq_true,decide_eq_true_eq,List.all_eq_true] at hb
  have:=pp_print_1 p hb.1 hb.2 p.length 0 emptyB (by omega) (Nat.le_refl _)
  rw [emptyB_append] at this
  exact this
end Go.CT.Sch
namespace Go.CT.Sch
open Go.Proofs
def zeroVal:Val:=⟨0,0,emptyB,[],[]⟩
def getIV (o:Option Val):List IV:= [.int (o.getD zeroVal).k,.int (o.getD zeroVal).n,.str (o.getD zeroVal).s,.list ((o.getD zeroVal).l.map Val.enc),.list ((o.getD zeroVal).f.map Fld.enc),.bool o.isSome]
theorem app_ok {n b:Nat} (hn:n≤1099511627776) (hb:b≤127):n * b≤maxBytes:=by
 have:n * b≤1099511627776 * 127:=Nat.mul_le_mul hn hb
 unfold maxBytes;omega
theorem take_get {α:Type} (l:List α) {i:Nat} (h:i<l.length):l.take i++ [l[i]]=l.take (i+1):=by
 rw [List.take_add_one,List.getElem?_eq_getElem h];rfl
theorem ref_copy_2W (v:Val) (hv:Wide 1099511627776 v) (y2 y3 y4 y5 y6 y7 y8:IV) (ih: ∀p∈v.f,W F9 0 [p.2.enc]=some p.2.comps): ∀ (n i:Nat),i+n=v.f.length→
  W F9 2 [.int i,v.enc,y2,y3,y4,y5,y6,y7,y8,.list ((v.f.take i).map Fld.enc)]=some [y5,y6,y7,y8,.list (v.f.map Fld.enc)]
 | 0,i,h=>by
  rw [e_F9_2]
  have h1: ¬ i<v.f.length:=by omega
  simp only [Val.proj4,Option.bind_some,O.len_list,List.length_map,O.lt_int,lt_cast,h1,decide_false,O.cnd_bool,Bool.false_eq_true,if_false,List.take_of_length_le (Nat.le_of_not_lt h1)]
 | n+1,i,h=>by
  have hi:i<v.f.length:=by omega
  have hm:=hv.len_f
  have hw:=next64 (i:=i) (by omega)
  have:=ref_copy_2W v hv y2 y3 y4 y5 y6 y7 y8 ih n (i+1) (by omega)
  have hap:((v.f.take i).length +1) * 96≤maxBytes:=app_ok (by rw [List.length_take];omega) (by omega)
  rw [e_F9_2]
  simp only [Val.proj4,Option.bind_some,O.len_list,List.length_map,O.lt_int,lt_cast,hi,decide_true,O.cnd_bool,if_true,O.index_list,Int.natCast_nonneg,Int.toNat_natCast,List.getElem?_map,List.getElem?_eq_getElem hi,Option.map_some,Fld.proj0,Fld.projV,ih _ (List.getElem_mem hi),Val.comps_eq,O.calls_5,O.mkagg_eq,Fld.fold_eta,O.mklist_eq,O.append_list,List.length_singleton,hap,O.add_int,hw]
  rw [←take_get v.f hi,List.map_append] at this
  exact this
theorem ref_copy_1W (v:Val) (hv:Wide 1099511627776 v) (y2 y3 y4 y5 y6 y7:IV) (ih: ∀x∈v.l,W F9 0 [x.enc]=some x.comps): ∀ (n i:Nat),i+n=v.l.length→
  W F9 1 [.int i,v.enc,y2,y3,y4,y5,y6,y7,.list ((v.l.take i).map Val.enc)]=W F9 2 [.int 0,v.enc,y2,y3,y4,y5,y6,y7,.list (v.l.map Val.enc),.list []]
 | 0,i,h=>by
  rw [e_F9_1]
  have h1: ¬ i<v.l.length:=by omega
  simp only [Val.proj3,Option.bind_some,O.len_list,List.length_map,O.lt_int,lt_cast,h1,decide_false,O.cnd_bool,Bool.false_eq_true,if_false,List.take_of_length_le (Nat.le_of_not_lt h1)]
 | n+1,i,h=>by
  have hi:i<v.l.length:=by omega
  have hm:=hv.len_l
  have hw:=next64 (i:=i) (by omega)
  have:=ref_copy_1W v hv y2 y3 y4 y5 y6 y7 ih n (i+1) (by omega)
  have hap:((v.l.take i).length +1) * 80≤maxBytes:=app_ok (by rw [List.length_take];omega) (by omega)
  rw [e_F9_1]
  simp only [Val.proj3,Option.bind_some,O.len_list,List.length_map,O.lt_int,lt_cast,hi,decide_true,O.cnd_bool,if_true,O.index_list,Int.natCast_nonneg,Int.toNat_natCast,List.getElem?_map,List.getElem?_eq_getElem hi,Option.map_some,ih _ (List.getElem_mem hi),Val.comps_eq,O.calls_5,O.mkagg_eq,Val.fold_eta,O.mklist_eq,O.append_list,List.length_singleton,hap,O.add_int,hw]
  rw [←take_get v.l hi,List.map_append] at this
  exact this
theorem ref_copyW: ∀v:Val,Wide 1099511627776 v→W F9 0 [v.enc]=some v.comps:=by
 refine Val.ind fun v ih1 ih2 hv=>?_
 have h1:=ref_copy_1W v hv (.int 0) (.int 0) (.str ⟨#[]⟩) (.int v.k) (.int v.n) (.str v.s) (fun x hx=>ih1 x hx (hv.mem_l hx)) v.l.length 0 (by omega)
 have h2:=ref_copy_2W v hv (.int 0) (.int 0) (.str ⟨#[]⟩) (.int v.k) (.int v.n) (.str v.s) (.list (v.l.map Val.enc)) (fun p hp=>ih2 p hp (hv.mem_f hp)) v.f.length 0 (by omega)
 simp only [List.take_zero,List.map_nil,Int.cast_ofNat_Int] at h1 h2
 rw [e_F9_0]
 simp only [Val.proj0,Val.proj1,Val.proj2,Option.bind_some]
 rw [h1,h2,Val.comps_eq]
theorem ref_get_1W (v:Val) (nm:ByteArray) (hv:Wide 1099511627776 v) (y3 y4 y5:IV): ∀ (n i:Nat),i+n=v.f.length→
  W F148 1 [.str nm,.int i,v.enc,y3,y4,y5]=some (getIV (((v.f.drop i).find? fun p=>decide (p.1=nm)).map (·.2)))
 | 0,i,h=>by
  rw [e_F148_1]
  have h1: ¬ i<v.f.length:=by omega
  simp [h1,List.drop_of_length_le (Nat.le_of_not_lt h1),getIV,zeroVal,emptyB]
 | n+1,i,h=>by
  have hi:i<v.f.length:=by omega
  have hm:=hv.len_f
  have hw:=next64 (i:=i) (by omega)
  have:=ref_get_1W v nm hv y3 y4 y5 n (i+1) (by omega)
  have hmem:=List.getElem_mem hi
  rw [e_F148_1,List.drop_eq_getElem_cons hi]
  simp only [Val.proj4,Option.bind_some,O.len_list,List.length_map,O.lt_int,lt_cast,hi,decide_true,O.cnd_bool,if_true,O.index_list,Int.natCast_nonneg,Int.toNat_natCast,List.getElem?_map,List.getElem?_eq_getElem hi,Option.map_some,Fld.proj0,Fld.projV,O.sEq_str,ref_copyW v.f[i].2 (hv.mem_f hmem),Val.comps_eq,O.calls_5,O.add_int,hw,this,List.find?_cons]
  by_cases c:v.f[i].1 =nm
  ·simp [c,getIV]
  ·have c':decide (v.f[i].1 =nm)=false:=by simpa using c
   simp only [c,c',decide_false,Bool.false_eq_true,if_false]
theorem ref_getW (v:Val) (nm:ByteArray) (hv:Wide 1099511627776 v):W F148 0 [v.enc,.str nm]=some (getIV (v.get nm)):=by
 rw [e_F148_0]
 unfold Val.get
 have:=ref_get_1W v nm hv (.int 0) (.int 0) (.str ⟨#[]⟩) v.f.length 0 (by omega)
 simp only [List.drop_zero,Int.cast_ofNat_Int] at this
 simp only [Val.proj0,Option.bind_some,O.eq_int,O.cnd_bool,this]
 by_cases c:v.k=5<;>simp [c,getIV,zeroVal,emptyB]
def othersF (v:Val) (nm:ByteArray):List (ByteArray × Val):=if v.k=5 then v.f.filter (fun p=> !decide (p.1=nm)) else []
def putL (p:ByteArray × Val):Bool→List (ByteArray × Val)→List (ByteArray × Val)
 | done,[]=>if done then [] else [p]
 | done,x::xs=>(if !done && !blt x.1 p.1 then [p] else [])++(if x.1=p.1 then [] else [x])++putL p (done|| !blt x.1 p.1) xs
theorem putL_len (p:ByteArray × Val): ∀ (l:List (ByteArray × Val)) (d:Bool),(putL p d l).length ≤l.length+1
 | [],d=>by cases d<;>simp [putL]
 | x::xs,true=>by
  simp only [putL,Bool.not_true,Bool.false_and,Bool.false_eq_true,if_false,List.nil_append,Bool.true_or,List.length_append]
  have:(putL p true xs).length ≤xs.length:=by
   have key: ∀l,(putL p true l).length ≤l.length:=by
    intro l
    induction l with
    | nil=>simp [putL]
    | cons y ys ih=>
     simp only [putL,Bool.not_true,Bool.false_and,Bool.false_eq_true,if_false,List.nil_append,Bool.true_or,List.length_append,List.length_cons]
     split<;>simp<;>omega
   exact key xs
  split<;>simp<;>omega
 | x::xs,false=>by
  have h1:=putL_len p xs true
  have h2:=putL_len p xs false
  have key: ∀l,(putL p true l).length ≤l.length:=by
   intro l
   induction l with
   | nil=>simp [putL]
   | cons y ys ih=>
    simp only [putL,Bool.not_true,Bool.false_and,Bool.false_eq_true,if_false,List.nil_append,Bool.true_or,List.length_append,List.length_cons]
    split<;>simp<;>omega
  have h3:=key xs
  simp only [putL,Bool.not_false,Bool.true_and,Bool.false_or,List.length_append,List.length_cons]
  cases blt x.1 p.1<;>simp<;>split<;>simp<;>omega
def mapL (l:List (ByteArray × Val)):List (ByteArray × Val):=l.foldl (fun acc p=>putL p false acc) []
theorem massFs_filter (q:ByteArray × Val→Bool): ∀l:List (ByteArray × Val),massFs (l.filter q)≤massFs l
 | []=>by simp
 | p::l=>by
  have:=massFs_filter q l
  rw [List.filter_cons]
  split
  ·rw [massFs_cons,massFs_cons];omega
  ·rw [massFs_cons];omega
def withV (v:Val) (nm:ByteArray) (x:Val):Val:=⟨5,0,emptyB,[],mapL (othersF v nm++ [(nm,x)])⟩
theorem ref_get (v:Val) (nm:ByteArray) (hv:v.mass≤1099511627776):W F148 0 [v.enc,.str nm]=some (getIV (v.get nm)):=ref_getW v nm (wide_mass v (by omega))
end Go.CT.Sch
namespace Go.CT.Sch
open Go.Proofs
theorem ref_size_2 (v:Val) (hv:v.mass≤1099511627776) (ih: ∀p∈v.f,W F134 0 [p.2.enc]=some [.int p.2.size]): ∀ (n i c:Nat),i+n=v.f.length→c≤1099511627776→
  W F134 2 [.int c,.int i,v.enc]=some [.int ((c+sizeFs (v.f.drop i):Nat):Int)]
 | 0,i,c,h,hc=>by
  rw [e_F134_2]
  have h1: ¬ i<v.f.length:=by omega
  simp [h1,List.drop_of_length_le (Nat.le_of_not_lt h1),sizeFs]
 | n+1,i,c,h,hc=>by
  have hi:i<v.f.length:=by omega
  have hm:=v.mass_len_f
  have hw:=next64 (i:=i) (by omega)
  have hs:=sizeFs_mem (List.getElem_mem hi)
  have hsz:=v.size_mass
  rw [v.size_eq] at hsz
  have hd:sizeFs (v.f.drop i)=v.f[i].2.size +sizeFs (v.f.drop (i+1)):=by rw [List.drop_eq_getElem_cons hi];rfl
  have hw2:IntKind.i64.wrap ((c:Int)+(v.f[i].2.size :Nat))=((c+v.f[i].2.size :Nat):Int):=by rw [wrap64 (by omega) (by omega)];rfl
  rw [e_F134_2]
  simp only [Val.proj4,Option.bind_some,O.len_list,List.length_map,O.lt_int,lt_cast,hi,decide_true,O.cnd_bool,if_true,O.index_list,Int.natCast_nonneg,Int.toNat_natCast,List.getElem?_map,List.getElem?_eq_getElem hi,Option.map_some,Fld.projV,ih _ (List.getElem_mem hi),O.calls_1,O.add_int,hw,hw2]
  by_cases hc2:c+v.f[i].2.size ≤1099511627776
  ·rw [ref_size_2 v hv ih n (i+1) _ (by omega) hc2,hd,Nat.add_assoc]
  ·-- larger sums: only the bound differs
   have key: ∀ (n i c:Nat),i+n=v.f.length→c+sizeFs (v.f.drop i)≤4611686018427387904→W F134 2 [.int c,.int i,v.enc]=some [.int ((c+sizeFs (v.f.drop i):Nat):Int)]:=by
    intro n
    induction n with
    | zero=>
     intro i c h _
     rw [e_F134_2]
     have h1: ¬ i<v.f.length:=by omega
     simp [h1,List.drop_of_length_le (Nat.le_of_not_lt h1),sizeFs]
    | succ n ihn=>
     intro i c h hc
     have hi:i<v.f.length:=by omega
     have hw:=next64 (i:=i) (by omega)
     have hd:sizeFs (v.f.drop i)=v.f[i].2.size +sizeFs (v.f.drop (i+1)):=by rw [List.drop_eq_getElem_cons hi];rfl
     have hw2:IntKind.i64.wrap ((c:Int)+(v.f[i].2.size :Nat))=((c+v.f[i].2.size :Nat):Int):=by rw [wrap64 (by omega) (by omega)];rfl
     rw [e_F134_2]
     simp only [Val.proj4,Option.bind_some,O.len_list,List.length_map,O.lt_int,lt_cast,hi,decide_true,O.cnd_bool,if_true,O.index_list,Int.natCast_nonneg,Int.toNat_natCast,List.getElem?_map,List.getElem?_eq_getElem hi,Option.map_some,Fld.projV,ih _ (List.getElem_mem hi),O.calls_1,O.add_int,hw,hw2]
     rw [ihn (i+1) _ (by omega) (by omega),hd,Nat.add_assoc]
   have hsub:sizeFs (v.f.drop (i+1))≤sizeFs v.f:=by
    have:=List.take_append_drop (i+1) v.f
    have h2:=sizeFs_append (v.f.take (i+1)) (v.f.drop (i+1))
    rw [this] at h2;omega
   rw [key n (i+1) _ (by omega) (by omega),hd,Nat.add_assoc]
theorem ref_size_1 (v:Val) (hv:v.mass≤1099511627776) (ih: ∀x∈v.l,W F134 0 [x.enc]=some [.int x.size]): ∀ (n i c:Nat),i+n=v.l.length→c+sizeVs (v.l.drop i)≤4611686018427387904→
  W F134 1 [.int c,.int i,v.enc]=W F134 2 [.int ((c+sizeVs (v.l.drop i):Nat):Int),.int 0,v.enc]
 | 0,i,c,h,hc=>by
  rw [e_F134_1]
  have h1: ¬ i<v.l.length:=by omega
  simp [h1,List.drop_of_length_le (Nat.le_of_not_lt h1),sizeVs]
 | n+1,i,c,h,hc=>by
  have hi:i<v.l.length:=by omega
  have hm:=v.mass_len_l
  have hw:=next64 (i:=i) (by omega)
  have hd:sizeVs (v.l.drop i)=v.l[i].size +sizeVs (v.l.drop (i+1)):=by rw [List.drop_eq_getElem_cons hi];rfl
  have hw2:IntKind.i64.wrap ((c:Int)+(v.l[i].size :Nat))=((c+v.l[i].size :Nat):Int):=by rw [wrap64 (by omega) (by omega)];rfl
  rw [e_F134_1]
  simp only [Val.proj3,Option.bind_some,O.len_list,List.length_map,O.lt_int,lt_cast,hi,decide_true,O.cnd_bool,if_true,O.index_list,Int.natCast_nonneg,Int.toNat_natCast,List.getElem?_map,List.getElem?_eq_getElem hi,Option.map_some,ih _ (List.getElem_mem hi),O.calls_1,O.add_int,hw,hw2]
  rw [ref_size_1 v hv ih n (i+1) _ (by omega) (by omega),hd,Nat.add_assoc]
theorem ref_size: ∀v:Val,v.mass≤1099511627776→W F134 0 [v.enc]=some [.int v.size]:=by
 refine Val.ind fun v ih1 ih2 hv=>?_
 have hsz:=v.size_mass
 have hs:=v.size_eq
 have h1:=ref_size_1 v hv (fun x hx=>ih1 x hx (by have:=Val.mass_l hx;omega)) v.l.length 0 1 (by omega) (by simp only [List.drop_zero];omega)
 have h2:=ref_size_2 v hv (fun p hp=>ih2 p hp (by have:=Val.mass_f hp;omega)) v.f.length 0 (1+sizeVs v.l) (by omega) (by omega)
 simp only [List.drop_zero,Int.cast_ofNat_Int] at h1 h2
 rw [e_F134_0]
 have h1':W F134 1 [.int 1,.int 0,v.enc]=W F134 2 [.int ((1+sizeVs v.l:Nat):Int),.int 0,v.enc]:=h1
 rw [h1',h2,hs]
theorem ref_Valid (v:Val) (hv:v.mass≤1099511627776):W F131 0 [v.enc]=some [.bool v.valid]:=by
 rw [e_F131_0]
 have h1:=ref_valid 12 v (by omega) hv
 have h2:=ref_size v hv
 simp only [Int.cast_ofNat_Int] at h1
 simp only [h1,h2,O.calls_1,O.cnd_bool,O.le_int,Option.bind_some,Val.valid]
 have:decide ((v.size:Int)≤600)=decide (v.size≤600):=by simp;omega
 cases validD 12 v<;>simp [this]
theorem ref_count_2 (v:Val) (hv:v.mass≤1099511627776) (ih: ∀p∈v.f,∀c d:Int,c≤100000→ -1099511627776≤d→d≤100000→ ∃r:Int,W F4 0 [p.2.enc,.int c,.int d]=some [.int r]∧r≤100000) (d:Int) (hd: -1000000000000≤d∧d≤100000): ∀ (n i:Nat) (c:Int),i+n=v.f.length→c≤100000→
  ∃r:Int,W F4 2 [.int c,.int d,.int i,v.enc]=some [.int r]∧r≤100000
 | 0,i,c,h,hc=>by
  rw [e_F4_2]
  have h1: ¬ i<v.f.length:=by omega
  exact ⟨c,by simp [h1],hc⟩
 | n+1,i,c,h,hc=>by
  have hi:i<v.f.length:=by omega
  have hm:=v.mass_len_f
  have hw:=next64 (i:=i) (by omega)
  have hw2:IntKind.i64.wrap (d - 1)=d - 1:=wrap64 (by omega) (by omega)
  obtain ⟨r,hr,hr2⟩:=ih _ (List.getElem_mem hi) c (d - 1) hc (by omega) (by omega)
  obtain ⟨r',hr',hr2'⟩:=ref_count_2 v hv ih d hd n (i+1) r (by omega) hr2
  rw [e_F4_2]
  by_cases c1:0≤c
  ·by_cases c2:(1000:Int)<v.f[i].1.size
   ·exact ⟨-1,by simp [hi,c1,c2],by omega⟩
   ·exact ⟨r',by simp only [Val.proj4,Option.bind_some,O.len_list,List.length_map,O.lt_int,lt_cast,hi,decide_true,O.cnd_bool,if_true,O.ge_int,c1,O.index_list,Int.natCast_nonneg,Int.toNat_natCast,List.getElem?_map,List.getElem?_eq_getElem hi,Option.map_some,Fld.proj0,O.slen_str,O.gt_int,c2,decide_false,Bool.false_eq_true,if_false,Fld.projV,O.sub_int,hw2,hr,O.calls_1,O.add_int,hw,hr'],hr2'⟩
  ·exact ⟨c,by simp [hi,c1],hc⟩
theorem ref_count_1 (v:Val) (hv:v.mass≤1099511627776) (ih: ∀x∈v.l,∀c d:Int,c≤100000→ -1099511627776≤d→d≤100000→ ∃r:Int,W F4 0 [x.enc,.int c,.int d]=some [.int r]∧r≤100000) (d:Int) (hd: -1000000000000≤d∧d≤100000): ∀ (n i:Nat) (c:Int),i+n=v.l.length→c≤100000→
  ∃r:Int,W F4 1 [.int c,.int d,.int i,v.enc]=W F4 2 [.int r,.int d,.int 0,v.enc]∧r≤100000
 | 0,i,c,h,hc=>by
  rw [e_F4_1]
  have h1: ¬ i<v.l.length:=by omega
  exact ⟨c,by simp [h1],hc⟩
 | n+1,i,c,h,hc=>by
  have hi:i<v.l.length:=by omega
  have hm:=v.mass_len_l
  have hw:=next64 (i:=i) (by omega)
  have hw2:IntKind.i64.wrap (d - 1)=d - 1:=wrap64 (by omega) (by omega)
  obtain ⟨r,hr,hr2⟩:=ih _ (List.getElem_mem hi) c (d - 1) hc (by omega) (by omega)
  obtain ⟨r',hr',hr2'⟩:=ref_count_1 v hv ih d hd n (i+1) r (by omega) hr2
  rw [e_F4_1]
  by_cases c1:0≤c
  ·exact ⟨r',by simp only [Val.proj3,Option.bind_some,O.len_list,List.length_map,O.lt_int,lt_cast,hi,decide_true,O.cnd_bool,if_true,O.ge_int,c1,O.index_list,Int.natCast_nonneg,Int.toNat_natCast,List.getElem?_map,List.getElem?_eq_getElem hi,Option.map_some,O.sub_int,hw2,hr,O.calls_1,O.add_int,hw,hr'],hr2'⟩
  ·exact ⟨c,by simp [hi,c1],hc⟩
theorem ref_count: ∀v:Val,v.mass≤1099511627776→ ∀c d:Int,c≤100000→ -1099511627776≤d→d≤100000→ ∃r:Int,W F4 0 [v.enc,.int c,.int d]=some [.int r]∧r≤100000:=by
 refine Val.ind fun v ih1 ih2 hv c d hc hd hd2=>?_
 rw [e_F4_0]
 by_cases c1:c≤0
 ·exact ⟨-1,by simp [c1],by omega⟩
 ·by_cases c2:d≤0
  ·exact ⟨-1,by simp [c1,c2],by omega⟩
  ·by_cases c3:(1000:Int)<v.s.size
   ·exact ⟨-1,by simp [c1,c2,c3],by omega⟩
   ·have hw:IntKind.i64.wrap (c - 1)=c - 1:=wrap64 (by omega) (by omega)
    obtain ⟨r,h1,h2⟩:=ref_count_1 v hv (fun x hx=>ih1 x hx (by have:=Val.mass_l hx;omega)) d (by omega) v.l.length 0 (c - 1) (by omega) (by omega)
    obtain ⟨r',h1',h2'⟩:=ref_count_2 v hv (fun p hp=>ih2 p hp (by have:=Val.mass_f hp;omega)) d (by omega) v.f.length 0 r (by omega) h2
    simp only [Int.cast_ofNat_Int] at h1 h1'
    exact ⟨r',by simp [c1,c2,c3,hw,h1,h1'],h2'⟩
end Go.CT.Sch
namespace Go.CT.Sch
open Go.Proofs
def fltB (x y:ByteArray × Val):Bool:=blt x.1 y.1
theorem cmpB: ∀ (a b:List UInt8),decide (Lib.compareBytes a b<0)=Op.bytesLess a b
 | [],[]=>rfl
 | [],_::_=>by simp [Lib.compareBytes,Op.bytesLess]
 | _::_,[]=>by simp [Lib.compareBytes,Op.bytesLess]
 | a::x,b::y=>by
  simp only [Lib.compareBytes,Op.bytesLess]
  by_cases h1:a<b
  ·simp [h1]
  ·by_cases h2:b<a
   ·have: ¬ a=b:=fun e=>by subst e;exact h1 h2
    simp [h1,h2,this]
   ·have:a=b:=by
     have h1': ¬ a.toNat<b.toNat:=fun h=>h1 (UInt8.lt_iff_toNat_lt.2 h)
     have h2': ¬ b.toNat<a.toNat:=fun h=>h2 (UInt8.lt_iff_toNat_lt.2 h)
     exact UInt8.toNat_inj.1 (by omega)
    subst this
    simp [h1,cmpB x y]
theorem fcmp (x y:ByteArray × Val): ∃c:Int,W F39 0 [Fld.enc x,Fld.enc y]=some [.int c]∧(decide (c<0)=fltB x y):=by
 refine ⟨Lib.compareBytes x.1.data.toList y.1.data.toList,?_,cmpB _ _⟩
 rw [e_F39_0]
 simp [e_F40_0,e_F41_0,e_F42,O.compareF]
theorem ford:Srt.Ord fltB where
 irr x:=blt_irrefl _
 tr x y z h k:=blt_trans h k
 neg x y z h:=by
  rcases blt_total x.1 y.1 with h1 | h1 | h1
  ·exact .inl h1
  ·right;unfold fltB at h ⊢;rw [←h1];exact h
  ·right;exact blt_trans h1 h
noncomputable def feqs:Srt.Eqs Fld.enc fltB 6 true where
 S b xs:=W F36 b xs
 B b xs:=W F37 b xs
 I b xs:=W F38 b xs
 M b xs:=W F43 b xs
 R b xs:=W F44 b xs
 X b xs:=W F45 b xs
 C xs:=W F39 0 xs
 cmp:=fcmp
 s0:=by intros;exact V_is rfl (by kernel_rfl)
 b0:=by intros;exact V_is rfl (by kernel_rfl)
 b1:=by intros;exact V_is rfl (by kernel_rfl)
 b2:=by intros;exact V_is rfl (by kernel_rfl)
 b3:=by intros;exact V_is rfl (by kernel_rfl)
 b4:=by intros;exact V_is rfl (by kernel_rfl)
 i0:=by intros;exact V_is rfl (by kernel_rfl)
 i1:=by intros;exact V_is rfl (by kernel_rfl)
 i2:=by intros;exact V_is rfl (by kernel_rfl)
 x0:=by intros;exact V_is rfl (by kernel_rfl)
 x1:=by intros;exact V_is rfl (by kernel_rfl)
 r0:=by intros;exact V_is rfl (by kernel_rfl)
 r1:=by intros;exact V_is rfl (by kernel_rfl)
 r2:=by intros;exact V_is rfl (by kernel_rfl)
 m0:=by intros;exact V_is rfl (by kernel_rfl)
 m1:=by intros;exact V_is rfl (by kernel_rfl)
 m2:=by intros;exact V_is rfl (by kernel_rfl)
 m3:=by intros;exact V_is rfl (by kernel_rfl)
 m4:=by intros;exact V_is rfl (by kernel_rfl)
 m5:=by intros;exact V_is rfl (by kernel_rfl)
 m6:=by intros;exact V_is rfl (by kernel_rfl)
 m7:=by intros;exact V_is rfl (by kernel_rfl)
 m8:=by intros;exact V_is rfl (by kernel_rfl)
 m9:=by intros;exact V_is rfl (by kernel_rfl)
 m10:=by intros;exact V_is rfl (by kernel_rfl)
 m11:=by intros;exact V_is rfl (by kernel_rfl)
end Go.CT.Sch
namespace Go.CT.Sch
open Go.Proofs
theorem cloneF_list {l:List IV} (h:l.length≤1073741824):O.cloneF [.list l]=some [.list l]:=if_pos h
theorem val_clone_2W (v:Val) (hv:Wide 1073741824 v) (y2 y3 y4 y5 y6 y7 y9:IV) (ih: ∀p∈v.f,W F46 0 [p.2.enc]=some p.2.comps): ∀ (n i:Nat),i+n=v.f.length→
  W F46 2 [.int v.f.length,.int i,y2,y3,y4,y5,y6,y7,.list (v.f.map Fld.enc),y9]=some [y2,y3,y4,y9,.list (v.f.map Fld.enc)]
 | 0,i,h=>by
  rw [e_F46_2]
  have h1: ¬ i<v.f.length:=by omega
  simp only [O.lt_int,lt_cast,h1,decide_false,Option.bind_some,O.cnd_bool,Bool.false_eq_true,if_false]
 | n+1,i,h=>by
  have hi:i<v.f.length:=by omega
  have hm:=hv.len_f
  have hw:=next64 (i:=i) (by omega)
  have:=val_clone_2W v hv y2 y3 y4 y5 y6 y7 y9 ih n (i+1) (by omega)
  have hset:O.setAt 1 5 true false (.list (v.f.map Fld.enc)) (.int i) v.f[i].2.enc =some (.list (v.f.map Fld.enc)):=by
   have hg:(v.f.map Fld.enc)[i]?=some (Fld.enc v.f[i]):=by rw [List.getElem?_map,List.getElem?_eq_getElem hi];rfl
   have hs:(v.f.map Fld.enc).set i (Fld.enc v.f[i])=v.f.map Fld.enc:=by
    rw [←List.map_set,List.set_getElem_self]
   unfold O.setAt
   simp only [Prim.ev,Int.natCast_nonneg,if_true,Int.toNat_natCast,hg,Bool.false_eq_true,if_false]
   rw [v.f[i].2.enc_eq]
   simp only [Fld.enc]
   have hl:v.f[i].2.comps.length =5:=rfl
   simp only [hl,if_true]
   congr 2
  rw [e_F46_2]
  simp only [O.lt_int,lt_cast,hi,decide_true,Option.bind_some,O.cnd_bool,if_true,O.index_list,Int.natCast_nonneg,Int.toNat_natCast,List.getElem?_map,List.getElem?_eq_getElem hi,Option.map_some,Fld.projV,ih _ (List.getElem_mem hi),Val.comps_eq,O.calls_5,O.mkagg_eq,Val.fold_eta,hset,O.add_int,hw,this]
theorem val_clone_1W (v:Val) (hv:Wide 1073741824 v) (y2 y3 y4 y6 y7 y8:IV) (ih: ∀x∈v.l,W F46 0 [x.enc]=some x.comps): ∀ (n i:Nat),i+n=v.l.length→
  W F46 1 [.int v.l.length,.int i,y2,y3,y4,.list (v.f.map Fld.enc),y6,y7,y8,.list (v.l.map Val.enc)]=W F46 2 [.int v.f.length,.int (0:Nat),y2,y3,y4,y6,y7,y8,.list (v.f.map Fld.enc),.list (v.l.map Val.enc)]
 | 0,i,h=>by
  rw [e_F46_1]
  have h1: ¬ i<v.l.length:=by omega
  have h6:=hv.len_f
  have hc:(v.f.map Fld.enc).length ≤1073741824:=by rw [List.length_map];omega
  simp only [O.lt_int,lt_cast,h1,decide_false,Option.bind_some,O.cnd_bool,Bool.false_eq_true,if_false,e_F35,cloneF_list hc,O.calls_1,O.len_list,List.length_map]
  rfl
 | n+1,i,h=>by
  have hi:i<v.l.length:=by omega
  have hm:=hv.len_l
  have hw:=next64 (i:=i) (by omega)
  have:=val_clone_1W v hv y2 y3 y4 y6 y7 y8 ih n (i+1) (by omega)
  have hset:O.setAt 0 5 true true (.list (v.l.map Val.enc)) (.int i) v.l[i].enc =some (.list (v.l.map Val.enc)):=by
   rw [show (IV.list (v.l.map Val.enc))=Srt.LE Val.enc v.l from rfl,Srt.seti Val.enc hi,List.set_getElem_self]
  rw [e_F46_1]
  simp only [O.lt_int,lt_cast,hi,decide_true,Option.bind_some,O.cnd_bool,if_true,O.index_list,Int.natCast_nonneg,Int.toNat_natCast,List.getElem?_map,List.getElem?_eq_getElem hi,Option.map_some,ih _ (List.getElem_mem hi),Val.comps_eq,O.calls_5,O.mkagg_eq,Val.fold_eta,hset,O.add_int,hw,this]
theorem val_cloneW: ∀v:Val,Wide 1073741824 v→W F46 0 [v.enc]=some v.comps:=by
 refine Val.ind fun v ih1 ih2 hv=>?_
 have h1:=val_clone_1W v hv (.int v.k) (.int v.n) (.str v.s) (.int 0) (.int 0) (.str ⟨#[]⟩) (fun x hx=>ih1 x hx (hv.mem_l hx)) v.l.length 0 (by omega)
 have h2:=val_clone_2W v hv (.int v.k) (.int v.n) (.str v.s) (.int 0) (.int 0) (.str ⟨#[]⟩) (.list (v.l.map Val.enc)) (fun p hp=>ih2 p hp (hv.mem_f hp)) v.f.length 0 (by omega)
 rw [h2] at h1
 rw [e_F46_0]
 have h6:=hv.len_l
 have hc:(v.l.map Val.enc).length ≤1073741824:=by rw [List.length_map];omega
 simp only [Val.proj0,Val.proj1,Val.proj2,Val.proj3,Val.proj4,Option.bind_some,e_F47,cloneF_list hc,O.calls_1,O.len_list,List.length_map]
 rw [Val.comps_eq]
 exact h1
theorem val_get_1W (v:Val) (nm:ByteArray) (hv:Wide 1073741824 v) (y4 y5 y6:IV): ∀ (n i:Nat),i+n=v.f.length→
  W F73 1 [.str nm,.list (v.f.map Fld.enc),.int v.f.length,.int i,y4,y5,y6]=some (getIV (((v.f.drop i).find? fun p=>decide (p.1=nm)).map (·.2)))
 | 0,i,h=>by
  rw [e_F73_1]
  have h1: ¬ i<v.f.length:=by omega
  simp [h1,List.drop_of_length_le (Nat.le_of_not_lt h1),getIV,zeroVal,emptyB]
 | n+1,i,h=>by
  have hi:i<v.f.length:=by omega
  have hm:=hv.len_f
  have hw:=next64 (i:=i) (by omega)
  have:=val_get_1W v nm hv y4 y5 y6 n (i+1) (by omega)
  have hmem:=List.getElem_mem hi
  rw [e_F73_1,List.drop_eq_getElem_cons hi]
  simp only [O.lt_int,lt_cast,hi,decide_true,Option.bind_some,O.cnd_bool,if_true,O.index_list,Int.natCast_nonneg,Int.toNat_natCast,List.getElem?_map,List.getElem?_eq_getElem hi,Option.map_some,Fld.proj0,Fld.projV,O.sEq_str,val_cloneW v.f[i].2 (hv.mem_f hmem),Val.comps_eq,O.calls_5,O.add_int,hw,this,List.find?_cons]
  by_cases c:v.f[i].1 =nm
  ·simp [c,getIV]
  ·have c':decide (v.f[i].1 =nm)=false:=by simpa using c
   simp only [c,c',decide_false,Bool.false_eq_true,if_false]
theorem val_getW (v:Val) (nm:ByteArray) (hv:Wide 1073741824 v):W F73 0 [v.enc,.str nm]=some (getIV (v.get nm)):=by
 rw [e_F73_0]
 unfold Val.get
 have:=val_get_1W v nm hv (.int 0) (.int 0) (.str ⟨#[]⟩) v.f.length 0 (by omega)
 simp only [List.drop_zero,Int.cast_ofNat_Int] at this
 simp only [Val.proj0,Val.proj4,Option.bind_some,O.eq_int,O.cnd_bool,O.len_list,List.length_map,this]
 by_cases c:v.k=5<;>simp [c,getIV,zeroVal,emptyB]
end Go.CT.Sch
namespace Go.CT.Sch
open Go.Proofs
def noName (nm:ByteArray) (p:ByteArray × Val):Bool:= !decide (p.1=nm)
def dedup:List (ByteArray × Val)→List (ByteArray × Val)
 | []=> []
 | [p]=> [p]
 | p::q::r=>if q.1=p.1 then dedup (q::r) else p::dedup (q::r)
def Strict (l:List (ByteArray × Val)):Prop:=l.Pairwise fun a b=>blt a.1 b.1=true
def isName (nm:ByteArray) (p:ByteArray × Val):Bool:=decide (p.1=nm)
def look (nm:ByteArray) (l:List (ByteArray × Val)):Option (ByteArray × Val):=(l.filter (isName nm)).getLast?
theorem dedup_mem: ∀ (l:List (ByteArray × Val)) (p:ByteArray × Val),p∈dedup l→p∈l
 | [],p,h=>h
 | [_],p,h=>h
 | a::b::r,p,h=>by
  simp only [dedup] at h
  split at h
  ·exact List.mem_cons_of_mem _ (dedup_mem (b::r) p h)
  ·rcases List.mem_cons.1 h with rfl | h
   ·simp
   ·exact List.mem_cons_of_mem _ (dedup_mem (b::r) p h)
theorem blt_of_le {x y:ByteArray} (h:blt y x=false) (hne: ¬ y=x):blt x y=true:=by
 rcases blt_total x y with h1 | h1 | h1
 ·exact h1
 ·exact absurd h1.symm hne
 ·rw [h] at h1;cases h1
theorem blt_le_trans {x y z:ByteArray} (h:blt x y=true) (h2:blt z y=false):blt x z=true:=by
 rcases blt_total y z with h1 | h1 | h1
 ·exact blt_trans h h1
 ·rw [←h1];exact h
 ·rw [h2] at h1;cases h1
theorem dedup_strict: ∀l:List (ByteArray × Val),Srt.Sorted fltB l→Strict (dedup l)
 | [],_=>List.Pairwise.nil
 | [_],_=>List.pairwise_singleton _ _
 | a::b::r,h=>by
  have h1:=List.pairwise_cons.1 h
  have ih:=dedup_strict (b::r) h1.2
  simp only [dedup]
  split
  ·exact ih
  ·next hne=>
   refine List.pairwise_cons.2 ⟨fun y hy=>?_,ih⟩
   have hab:blt a.1 b.1=true:=blt_of_le (h1.1 b (by simp)) hne
   rcases List.mem_cons.1 (dedup_mem _ _ hy) with rfl | hy
   ·exact hab
   ·exact blt_le_trans hab ((List.pairwise_cons.1 h1.2).1 y hy)
theorem look_cons (nm:ByteArray) (p:ByteArray × Val) (l:List (ByteArray × Val)):look nm (p::l)=(look nm l).or (if p.1=nm then some p else none):=by
 unfold look
 rw [List.filter_cons]
 by_cases c:p.1=nm
 ·rw [if_pos (by simp [isName,c]),if_pos c]
  generalize l.filter (isName nm)=m
  cases m with
  | nil=>rfl
  | cons b r=>
   rw [List.getLast?_cons_cons]
   cases h:(b::r).getLast? with
   | none=>simp at h
   | some x=>rfl
 ·rw [if_neg (by simp [isName,c]),if_neg c,Option.or_none]
theorem look_dedup (nm:ByteArray): ∀l:List (ByteArray × Val),look nm (dedup l)=look nm l
 | []=>rfl
 | [_]=>rfl
 | a::b::r=>by
  have ih:=look_dedup nm (b::r)
  simp only [dedup]
  split
  ·next e=>
   rw [ih,look_cons nm a (b::r),look_cons nm b r]
   by_cases c:b.1=nm
   ·have c2:a.1=nm:=by rw [←e];exact c
    simp only [c,c2,if_true]
    cases look nm r<;>rfl
   ·have c2: ¬ a.1=nm:=by rw [←e];exact c
    simp only [c2,if_false,Option.or_none]
  ·rw [look_cons nm a,ih,look_cons nm a]
theorem strict_mem {l:List (ByteArray × Val)} (h:Strict l) (p:ByteArray × Val):p∈l↔look p.1 l=some p:=by
 induction l with
 | nil=>simp [look]
 | cons a l ih=>
  have h1:=List.pairwise_cons.1 h
  rw [look_cons,List.mem_cons,ih h1.2]
  by_cases c:a.1=p.1
  ·have hn:look p.1 l=none:=by
    unfold look
    rw [List.getLast?_eq_none_iff,List.filter_eq_nil_iff]
    intro y hy hy2
    simp only [isName,decide_eq_true_eq] at hy2
    have:=h1.1 y hy
    rw [c,hy2,blt_irrefl] at this
    cases this
   simp [hn,c,eq_comm]
  ·have: ¬ p=a:=fun e=>c (by rw [e])
   simp [c,this]
theorem strict_ext {a b:List (ByteArray × Val)} (ha:Strict a) (hb:Strict b) (h: ∀p,p∈a↔p∈b):a=b:=by
 induction a generalizing b with
 | nil=>
  cases b with
  | nil=>rfl
  | cons y b=>have:=(h y).2 (by simp);simp at this
 | cons x a ih=>
  cases b with
  | nil=>have:=(h x).1 (by simp);simp at this
  | cons y b=>
   have ha':=List.pairwise_cons.1 ha
   have hb':=List.pairwise_cons.1 hb
   have hxy:x=y:=by
    rcases List.mem_cons.1 ((h x).1 (by simp)) with e | hx
    ·exact e
    ·rcases List.mem_cons.1 ((h y).2 (by simp)) with e | hy
     ·exact e.symm
     ·have h1:=hb'.1 x hx
      have h2:=ha'.1 y hy
      rw [blt_asymm h1] at h2;cases h2
   subst hxy
   rw [ih ha'.2 hb'.2]
   intro p
   have:=h p
   simp only [List.mem_cons] at this
   constructor
   ·intro hp
    rcases this.1 (.inr hp) with rfl | h
    ·have:=ha'.1 p hp;rw [blt_irrefl] at this;cases this
    ·exact h
   ·intro hp
    rcases this.2 (.inr hp) with rfl | h
    ·have:=hb'.1 p hp;rw [blt_irrefl] at this;cases this
    ·exact h
theorem strict_look_ext {a b:List (ByteArray × Val)} (ha:Strict a) (hb:Strict b) (h: ∀nm,look nm a=look nm b):a=b:=
 strict_ext ha hb fun p=>by rw [strict_mem ha,strict_mem hb,h]
theorem putL_true (p:ByteArray × Val): ∀l,putL p true l=l.filter (noName p.1)
 | []=>rfl
 | x::xs=>by
  simp only [putL,Bool.not_true,Bool.false_and,Bool.false_eq_true,if_false,List.nil_append,Bool.true_or,putL_true p xs,List.filter_cons,noName]
  by_cases c:x.1=p.1<;>simp [c]
theorem putL_ge (p x:ByteArray × Val) (xs:List (ByteArray × Val)) (h:blt x.1 p.1=false):putL p false (x::xs)=p::(x::xs).filter (noName p.1):=by
 simp only [putL,h,Bool.not_false,Bool.and_self,if_true,Bool.or_true,putL_true,List.filter_cons,noName]
 by_cases c:x.1=p.1<;>simp [c]
theorem putL_lt (p x:ByteArray × Val) (xs:List (ByteArray × Val)) (h:blt x.1 p.1=true):putL p false (x::xs)=x::putL p false xs:=by
 have hne: ¬ x.1=p.1:=blt_ne h
 simp [putL,h,hne]
theorem putL_mem (p:ByteArray × Val): ∀ (l:List (ByteArray × Val)) (y:ByteArray × Val),y∈putL p false l→y=p∨y∈l
 | [],y,h=>by simp [putL] at h;exact .inl h
 | x::xs,y,h=>by
  cases hb:blt x.1 p.1 with
  | true=>
   rw [putL_lt p x xs hb] at h
   rcases List.mem_cons.1 h with rfl | h
   ·simp
   ·rcases putL_mem p xs y h with h | h
    ·exact .inl h
    ·exact .inr (List.mem_cons_of_mem _ h)
  | false=>
   rw [putL_ge p x xs hb] at h
   rcases List.mem_cons.1 h with rfl | h
   ·simp
   ·exact .inr (List.mem_filter.1 h).1
theorem putL_strict (p:ByteArray × Val): ∀l:List (ByteArray × Val),Strict l→Strict (putL p false l)
 | [],_=>List.pairwise_singleton _ _
 | x::xs,h=>by
  have h1:=List.pairwise_cons.1 h
  cases hb:blt x.1 p.1 with
  | true=>
   rw [putL_lt p x xs hb]
   refine List.pairwise_cons.2 ⟨fun y hy=>?_,putL_strict p xs h1.2⟩
   rcases putL_mem p xs y hy with rfl | hy
   ·exact hb
   ·exact h1.1 y hy
  | false=>
   rw [putL_ge p x xs hb]
   refine List.pairwise_cons.2 ⟨fun y hy=>?_,h.sublist List.filter_sublist⟩
   obtain ⟨hy,hn⟩:=List.mem_filter.1 hy
   have hne: ¬ y.1=p.1:=by simpa [noName] using hn
   refine blt_of_le ?_ hne
   rcases List.mem_cons.1 hy with rfl | hy
   ·exact hb
   ·cases hc:blt y.1 p.1 with
    | false=>rfl
    | true=>have:=blt_trans (h1.1 y hy) hc;rw [hb] at this;cases this
theorem putL_filter (p:ByteArray × Val) (nm:ByteArray): ∀l:List (ByteArray × Val),(putL p false l).filter (isName nm)=if p.1=nm then [p] else l.filter (isName nm)
 | []=>by by_cases c:p.1=nm<;>simp [putL,isName,c]
 | x::xs=>by
  cases hb:blt x.1 p.1 with
  | true=>
   have hne:=blt_ne hb
   rw [putL_lt p x xs hb,List.filter_cons,putL_filter p nm xs,List.filter_cons]
   by_cases c:p.1=nm
   ·have: ¬ x.1=nm:=by rw [←c];exact hne
    simp [c,isName,this]
   ·simp [c]
  | false=>
   rw [putL_ge p x xs hb,List.filter_cons,List.filter_filter]
   by_cases c:p.1=nm
   ·rw [if_pos (by simp [isName,c]),if_pos c]
    congr 1
    rw [List.filter_eq_nil_iff]
    intro y _ hy
    simp [noName,isName,c] at hy
   ·rw [if_neg (by simp [isName,c]),if_neg c]
    refine List.filter_congr fun y _=>?_
    by_cases d:y.1=nm
    ·have: ¬ nm=p.1:=fun e=>c e.symm
     simp [noName,isName,d,this]
    ·simp [isName,d]
theorem mapL_snoc (l:List (ByteArray × Val)) (p:ByteArray × Val):mapL (l++ [p])=putL p false (mapL l):=by
 unfold mapL;rw [List.foldl_append];rfl
theorem mapL_props (l:List (ByteArray × Val)): ∀n,l.length=n→Strict (mapL l)∧ ∀nm,look nm (mapL l)=look nm l:=by
 intro n
 induction n generalizing l with
 | zero=>intro h;have:=List.length_eq_zero_iff.1 h;subst this;exact ⟨List.Pairwise.nil,fun _=>rfl⟩
 | succ n ih=>
  intro h
  rcases Srt.snoc_cases l with rfl | ⟨l0,p,rfl⟩
  ·simp at h
  ·obtain ⟨h1,h2⟩:=ih l0 (by simpa using h)
   rw [mapL_snoc]
   refine ⟨putL_strict p _ h1,fun nm=>?_⟩
   unfold look
   rw [putL_filter,List.filter_append]
   by_cases c:p.1=nm
   ·simp [c,isName]
   ·have:=h2 nm
    unfold look at this
    simp [c,isName] at this ⊢
    exact this
theorem mapL_strict (l:List (ByteArray × Val)):Strict (mapL l):=(mapL_props l _ rfl).1
theorem look_mapL (nm:ByteArray) (l:List (ByteArray × Val)):look nm (mapL l)=look nm l:=(mapL_props l _ rfl).2 nm
theorem mapL_id {l:List (ByteArray × Val)} (h:Strict l):mapL l=l:=strict_look_ext (mapL_strict l) h fun nm=>look_mapL nm l
theorem mapL_mem {l:List (ByteArray × Val)} {p:ByteArray × Val} (h:p∈mapL l):p∈l:=by
 rw [strict_mem (mapL_strict l),look_mapL] at h
 unfold look at h
 exact (List.mem_filter.1 (List.mem_of_getLast? h)).1
theorem eqv_name (k y:ByteArray × Val):Srt.eqv fltB k y=isName k.1 y:=by
 unfold Srt.eqv isName fltB
 rcases blt_total k.1 y.1 with h | h | h
 ·have:=blt_ne h
  rw [h]
  simp only [Bool.not_true,Bool.false_and]
  symm;simpa using fun e=>this e.symm
 ·rw [h,blt_irrefl];simp
 ·have:=blt_ne h
  rw [h]
  simp [this]
theorem dedup_sort {l r:List (ByteArray × Val)} (h1:Srt.Sorted fltB r) (h2:Srt.Stab fltB l r):dedup r=mapL l:=by
 refine strict_look_ext (dedup_strict r h1) (mapL_strict l) fun nm=>?_
 rw [look_dedup,look_mapL]
 have:=h2.2 (nm,zeroVal)
 have e:Srt.eqv fltB (nm,zeroVal)=isName nm:=funext fun y=>eqv_name _ y
 rw [e] at this
 unfold look
 rw [this]
end Go.CT.Sch
namespace Go.CT.Sch
open Go.Proofs
theorem massFs_putL (p:ByteArray × Val): ∀l,massFs (putL p false l)≤massFs l+massFs [p]
 | []=>by simp [putL,massFs_nil]
 | x::xs=>by
  cases hb:blt x.1 p.1 with
  | true=>
   have:=massFs_putL p xs
   rw [putL_lt p x xs hb,massFs_cons,massFs_cons x xs];omega
  | false=>
   have:=massFs_filter (noName p.1) (x::xs)
   rw [putL_ge p x xs hb,massFs_cons,massFs_cons p [],massFs_nil];omega
theorem massFs_mapL (l:List (ByteArray × Val)):massFs (mapL l)≤massFs l:=by
 have: ∀n (l:List (ByteArray × Val)),l.length=n→massFs (mapL l)≤massFs l:=by
  intro n
  induction n with
  | zero=>intro l h;have:=List.length_eq_zero_iff.1 h;subst this;exact Nat.le_refl _
  | succ n ih=>
   intro l h
   rcases Srt.snoc_cases l with rfl | ⟨l0,p,rfl⟩
   ·simp at h
   ·have h1:=ih l0 (by simpa using h)
    have h2:=massFs_putL p (mapL l0)
    rw [mapL_snoc,massFs_append];omega
 exact this _ l rfl
def mapV (l:List (ByteArray × Val)):Val:=⟨5,0,emptyB,[],mapL l⟩
theorem mapV_mass (l:List (ByteArray × Val)):(mapV l).mass ≤6+massFs l:=by
 have:=massFs_mapL l
 rw [Val.mass_eq]
 simp only [mapV,Val.s_mk,Val.l_mk,Val.f_mk,massVs_nil,show emptyB.size=0 from rfl];omega
theorem val_map_1W (r:List (ByteArray × Val)) (hr:r.length≤1099511627775) (y2 y3 y4:IV): ∀ (n i:Nat) (acc:List (ByteArray × Val)),i+n=r.length→acc.length≤i→WideF 1073741824 (acc++dedup (r.drop i))→
  W F34 1 [.int r.length,.int i,y2,y3,y4,Srt.LE Fld.enc r,.int 5,.int 0,.str ⟨#[]⟩,.list (acc.map Fld.enc)]=some (Val.comps ⟨5,0,emptyB,[],acc++dedup (r.drop i)⟩)
 | 0,i,acc,h,ha,hm=>by
  rw [e_F39]
  have h1: ¬ i<r.length:=by omega
  have e0:r.drop i= []:=List.drop_of_length_le (by omega)
  rw [e0] at hm ⊢
  rw [show dedup []= [] from rfl,List.append_nil] at hm
  have hc:=val_cloneW ⟨5,0,emptyB,[],acc⟩ (.mk _ (Nat.zero_le _) hm.1 (by simp) hm.2)
  have e:IV.agg [.int 5,.int 0,.str ⟨#[]⟩,.list [],.list (acc.map Fld.enc)]=Val.enc ⟨5,0,emptyB,[],acc⟩:=by
   rw [←Val.fold];rfl
  simp only [O.lt_int,lt_cast,h1,decide_false,Option.bind_some,O.cnd_bool,Bool.false_eq_true,if_false,O.mkagg_eq,e,hc,Val.comps_eq,O.calls_5,dedup,List.append_nil]
 | n+1,i,acc,h,ha,hm=>by
  have hi:i<r.length:=by omega
  have hw:=next64 (i:=i) (by omega)
  have hap:(acc.length+1) * 96≤maxBytes:=app_ok (by omega) (by omega)
  have gi:=Srt.idx Fld.enc (List.getElem?_eq_getElem hi)
  rw [e_F39]
  have hd:=List.drop_eq_getElem_cons hi
  by_cases c:i+1=r.length
  ·have c':((i+1:Nat):Int)=(r.length:Int):=by omega
   have e1:r.drop (i+1)= []:=List.drop_of_length_le (by omega)
   have ih:=val_map_1W r hr y2 y3 y4 n (i+1) (acc++ [r[i]]) (by omega) (by simp;omega) (by
    rw [e1];rw [hd,e1] at hm
    simpa [dedup] using hm)
   simp only [e1,List.map_append,List.map_cons,List.map_nil] at ih
   rw [hd,e1]
   simp only [O.lt_int,lt_cast,hi,decide_true,Option.bind_some,O.cnd_bool,if_true,gi,O.add_int,hw,Srt.len,O.eq_int,c',O.mklist_eq,O.append_list,List.length_map,List.length_singleton,hap,e_F34_2]
   rw [c'] at ih
   rw [ih]
   simp [dedup]
  ·have hi2:i+1<r.length:=by omega
   have c': ¬ ((i+1:Nat):Int)=(r.length:Int):=by omega
   have gi2:=Srt.idx Fld.enc (List.getElem?_eq_getElem hi2)
   have hd2:=List.drop_eq_getElem_cons hi2
   by_cases d:r[i+1].1 =r[i].1
   ·have ih:=val_map_1W r hr y2 y3 y4 n (i+1) acc (by omega) (by omega) (by
     rw [hd,hd2] at hm;rw [hd2]
     simp only [dedup,d,if_true] at hm
     exact hm)
    rw [hd2] at ih
    rw [hd,hd2]
    simp only [O.lt_int,lt_cast,hi,decide_true,Option.bind_some,O.cnd_bool,if_true,gi,O.add_int,hw,Srt.len,O.eq_int,c',decide_false,Bool.false_eq_true,if_false,gi2,Fld.proj0,O.sNe_str,d,Bool.not_true,e_F34_2,dedup,ih]
   ·have ih:=val_map_1W r hr y2 y3 y4 n (i+1) (acc++ [r[i]]) (by omega) (by simp;omega) (by
     rw [hd,hd2] at hm;rw [hd2]
     simp only [dedup,d,if_false] at hm
     simpa using hm)
    rw [hd2] at ih
    simp only [List.map_append,List.map_cons,List.map_nil,List.append_assoc,List.singleton_append] at ih
    rw [hd,hd2]
    simp only [O.lt_int,lt_cast,hi,decide_true,Option.bind_some,O.cnd_bool,if_true,gi,O.add_int,hw,Srt.len,O.eq_int,c',decide_false,Bool.false_eq_true,if_false,gi2,Fld.proj0,O.sNe_str,d,Bool.not_false,O.mklist_eq,O.append_list,List.length_map,List.length_singleton,hap,e_F34_2,dedup,ih]
theorem mapL_len (l:List (ByteArray × Val)):(mapL l).length ≤l.length:=by
 have: ∀n (l:List (ByteArray × Val)),l.length=n→(mapL l).length ≤n:=by
  intro n
  induction n with
  | zero=>intro l h;have:=List.length_eq_zero_iff.1 h;subst this;exact Nat.le_refl _
  | succ n ih=>
   intro l h
   rcases Srt.snoc_cases l with rfl | ⟨l0,p,rfl⟩
   ·simp at h
   ·have h1:=ih l0 (by simpa using h)
    have h2:=putL_len p (mapL l0) false
    rw [mapL_snoc];omega
 exact this _ l rfl
theorem mapL_wide {N:Nat} {l:List (ByteArray × Val)} (h:WideF N l):WideF N (mapL l):=
 ⟨Nat.le_trans (mapL_len l) h.1,fun p hp=>h.2 p (mapL_mem hp)⟩
theorem val_mapW (l:List (ByteArray × Val)) (hl:WideF 1073741824 l):W F34 0 [.list (l.map Fld.enc)]=some (mapV l).comps :=by
 have h6:=hl.1
 obtain ⟨r,h1,h2,h3⟩:=Srt.sort ford feqs l (by omega)
 have hc:(l.map Fld.enc).length ≤1073741824:=by rw [List.length_map];omega
 rw [e_F34_0]
 have h3':W F36 0 [.list (l.map Fld.enc)]=some [Srt.LE Fld.enc r]:=h3
 have hlen:r.length=l.length:=h2.1.symm
 have h4:=val_map_1W r (by omega) (.int 0) (.int 0) (.str ⟨#[]⟩) r.length 0 [] (by omega) (by simp) (by
  rw [List.drop_zero,List.nil_append,dedup_sort h1 h2];exact mapL_wide hl)
 simp only [List.drop_zero,Int.cast_ofNat_Int,List.map_nil,List.nil_append,dedup_sort h1 h2] at h4
 simp only [e_F35,cloneF_list hc,O.calls_1,h3',Srt.len,Option.bind_some]
 exact h4
theorem val_map (l:List (ByteArray × Val)) (hl:massFs l≤4294967200):W F34 0 [.list (l.map Fld.enc)]=some (mapV l).comps :=val_mapW l (wideF_mass (by omega))
end Go.CT.Sch
namespace Go.CT.Sch
open Go.Proofs
theorem calls_6 {β:Type} {a b c d e g:IV} {f:IV→IV→IV→IV→IV→IV→Option β} :calls (some [a,b,c,d,e,g]) 6 f=f a b c d e g:=rfl
def zeroSch:Sch:=⟨0,0,0,[],emptyB,[],[]⟩
def zeroSF:SFld:=⟨emptyB,false,false,[],zeroSch⟩
theorem zeroSF_enc:IV.agg [.str ⟨#[]⟩,.bool false,.bool false,.list [],.int 0,.int 0,.int 0,.list [],.str ⟨#[]⟩,.list [],.list []]=zeroSF.enc:=rfl
inductive SB:Sch→Prop
 | mk (s:Sch):s.it.length≤1→(s.it≠ []→s.f= [])→(s.k=4→s.it.length=1)→(∀x∈s.it,SB x)→(∀p∈s.f,SB p.s)→SB s
theorem SB.one {s:Sch} (h:SB s):s.it.length≤1:=by cases h;assumption
theorem SB.nof {s:Sch} (h:SB s) (hi:s.it≠ []):s.f= []:=by cases h with | mk _ h1 h2 h3 h4 h5=>exact h2 hi
theorem SB.list {s:Sch} (h:SB s) (hi:s.k=4):s.it.length=1:=by cases h with | mk _ h1 h2 h3 h4 h5=>exact h3 hi
theorem SB.mem_it {s x:Sch} (h:SB s) (hx:x∈s.it):SB x:=by cases h with | mk _ h1 h2 h3 h4 h5=>exact h4 x hx
theorem SB.mem_f {s:Sch} {p:SFld} (h:SB s) (hx:p∈s.f):SB p.s:=by cases h with | mk _ h1 h2 h3 h4 h5=>exact h5 p hx
def subS (s:Sch) (nm:ByteArray):Option Sch:=match s.it with | []=>(s.fld nm).map (·.s) | t::_=>some t
theorem fld_mem {s:Sch} {nm:ByteArray} {p:SFld} (h:s.fld nm=some p):p∈s.f∧p.nm=nm:=
 ⟨List.mem_of_find?_eq_some h,by simpa using List.find?_some h⟩
theorem subS_mem {s t:Sch} {nm:ByteArray} (h:subS s nm=some t):t∈s.it∨ ∃p∈s.f,p.nm=nm∧p.s=t:=by
 unfold subS at h
 split at h
 ·right
  rw [Option.map_eq_some_iff] at h
  obtain ⟨p,hp,rfl⟩:=h
  exact ⟨p,(fld_mem hp).1,(fld_mem hp).2,rfl⟩
 ·rename_i t' r e
  cases h
  left;rw [e];simp
theorem SB.sub {s t:Sch} {nm:ByteArray} (hs:SB s) (h:subS s nm=some t):SB t:=by
 rcases subS_mem h with h | ⟨p,hp,_,rfl⟩
 ·exact hs.mem_it h
 ·exact hs.mem_f hp
theorem subS_mass {s t:Sch} {nm:ByteArray} (h:subS s nm=some t):t.mass<s.mass:=by
 rcases subS_mem h with h | ⟨p,hp,_,rfl⟩
 ·exact Sch.mass_it h
 ·have:=Sch.mass_f hp;omega
def errAt (p:List Stp) (c:Int):IV:= .agg [.str (printB p),.int c]
def fldStp (nm:ByteArray):Stp:=⟨1,nm,0,emptyB⟩
def isKey (v:Val) (nm:ByteArray):Bool:=(v.get nm).isSome &&decide (((v.get nm).getD zeroVal).k =3)
def keyB (v:Val) (nm:ByteArray):ByteArray:=((v.get nm).getD zeroVal).s
def hasKey (v:Val) (nm:ByteArray):Bool:=isKey v nm&& !decide (nm=emptyB)
def elStp (key:ByteArray) (v:Val) (i:Nat):Stp:=if hasKey v key then ⟨3,key,0,keyB v key⟩ else ⟨2,emptyB,i,emptyB⟩
def sameKey (nm:ByteArray) (k:ByteArray) (u:Val):Bool:=hasKey u nm&&decide (keyB u nm=k)
def dupE (key:ByteArray) (prev:List Val) (v:Val) (q:List Stp):List IV:=if hasKey v key&&prev.any (sameKey key (keyB v key)) then [errAt q 8] else []
def isHere (v:Val) (nm:ByteArray):Bool:=(v.get nm).isSome && !decide (((v.get nm).getD zeroVal).k =0)
def miss1 (v:Val) (p:List Stp) (d:SFld):List IV:=if d.rq&& !isHere v d.nm then [errAt (p++ [fldStp d.nm]) 7] else []
def rngE (p:List Stp) (sc:Sch) (n:Int):List IV:=if decide (n<sc.mn)||decide (sc.mx<n) then [errAt p 5] else []
mutual
def errs:Val→Sch→List Stp→List IV
 | ⟨k,n,s,l,f⟩,sc,p=>
  if k=sc.k then
   if k=2 then rngE p sc n
   else if k=3 then (if decide ((s.size:Int)<sc.mn)||decide (sc.mx<(s.size:Int)) then [errAt p 5] else if decide (0<sc.en.length)&& !sc.en.any (fun e=>decide (e=s)) then [errAt p 1] else [])
   else if k=4 then rngE p sc l.length++errsL l sc.key (sc.it.headD zeroSch) p []
   else if k=5 then errsF f sc p++sc.f.flatMap (miss1 ⟨k,n,s,l,f⟩ p)
   else []
  else [errAt p 6]
def errsL:List Val→ByteArray→Sch→List Stp→List Val→List IV
 | [],_,_,_,_=> []
 | v::vs,key,t,p,prev=>(errs v t (p++ [elStp key v prev.length])++dupE key prev v (p++ [elStp key v prev.length]))++errsL vs key t p (prev++ [v])
def errsF:List (ByteArray × Val)→Sch→List Stp→List IV
 | [],_,_=> []
 | (nm,v)::fs,sc,p=>(match subS sc nm with | none=> [errAt (p++ [fldStp nm]) 1] | some t=>if v.k=0 then [] else errs v t (p++ [fldStp nm]))++errsF fs sc p
end
theorem errs_eq (v:Val) (sc:Sch) (p:List Stp):errs v sc p=
  if v.k=sc.k then
   if v.k=2 then rngE p sc v.n
   else if v.k=3 then (if decide ((v.s.size:Int)<sc.mn)||decide (sc.mx<(v.s.size:Int)) then [errAt p 5] else if decide (0<sc.en.length)&& !sc.en.any (fun e=>decide (e=v.s)) then [errAt p 1] else [])
   else if v.k=4 then rngE p sc v.l.length++errsL v.l sc.key (sc.it.headD zeroSch) p []
   else if v.k=5 then errsF v.f sc p++sc.f.flatMap (miss1 v p)
   else []
  else [errAt p 6]:=by
 cases v;rw [errs];rfl
def err1 (sc:Sch) (p:List Stp) (x:ByteArray × Val):List IV:=match subS sc x.1 with | none=> [errAt (p++ [fldStp x.1]) 1] | some t=>if x.2.k=0 then [] else errs x.2 t (p++ [fldStp x.1])
theorem errsF_cons (x:ByteArray × Val) (fs:List (ByteArray × Val)) (sc:Sch) (p:List Stp):errsF (x::fs) sc p=err1 sc p x++errsF fs sc p:=by
 obtain ⟨nm,v⟩:=x;rw [errsF];rfl
theorem errsF_nil (sc:Sch) (p:List Stp):errsF [] sc p= []:=by rw [errsF]
theorem errsL_cons (v:Val) (vs:List Val) (key:ByteArray) (t:Sch) (p:List Stp) (prev:List Val):errsL (v::vs) key t p prev=(errs v t (p++ [elStp key v prev.length])++dupE key prev v (p++ [elStp key v prev.length]))++errsL vs key t p (prev++ [v]):=by rw [errsL]
theorem errsL_nil (key:ByteArray) (t:Sch) (p:List Stp) (prev:List Val):errsL [] key t p prev= []:=by rw [errsL]
theorem dupE_len (key:ByteArray) (prev:List Val) (v:Val) (q:List Stp):(dupE key prev v q).length ≤1:=by unfold dupE;split<;>simp
theorem miss1_len (v:Val) (p:List Stp) (d:SFld):(miss1 v p d).length ≤1:=by unfold miss1;split<;>simp
theorem rngE_len (p:List Stp) (sc:Sch) (n:Int):(rngE p sc n).length ≤1:=by unfold rngE;split<;>simp
theorem miss_len (v:Val) (p:List Stp): ∀l:List SFld,(l.flatMap (miss1 v p)).length ≤l.length
 | []=>by simp
 | d::l=>by
  have:=miss1_len v p d
  have:=miss_len v p l
  simp only [List.flatMap_cons,List.length_append,List.length_cons];omega
theorem errs_len: ∀ (v:Val) (sc:Sch) (p:List Stp),SB sc→(errs v sc p).length ≤(2+sc.mass) * v.size:=by
 refine Val.ind fun v ih1 ih2 sc p hs=>?_
 have hpos:=v.size_pos
 have one:1≤(2+sc.mass) * v.size:=by
  have:1 * 1≤(2+sc.mass) * v.size:=Nat.mul_le_mul (by omega) hpos
  omega
 have hL: ∀ (t:Sch),SB t→t.mass<sc.mass→ ∀ (l:List Val),(∀x∈l,∀sc p,SB sc→(errs x sc p).length ≤(2+sc.mass) * x.size)→ ∀ (prev:List Val) (key:ByteArray),(errsL l key t p prev).length ≤(2+sc.mass) * sizeVs l:=by
  intro t ht htm l
  induction l with
  | nil=>intro _ prev key;rw [errsL_nil];simp
  | cons x l ih=>
   intro h prev key
   have h1:=h x (by simp) t (p++ [elStp key x prev.length]) ht
   have h2:=ih (fun y hy=>h y (by simp [hy])) (prev++ [x]) key
   have h3:=dupE_len key prev x (p++ [elStp key x prev.length])
   have h4:=x.size_pos
   have h5:(3+t.mass) * x.size≤(2+sc.mass) * x.size:=Nat.mul_le_mul (by omega) (Nat.le_refl _)
   have h6:(3+t.mass) * x.size=(2+t.mass) * x.size+x.size:=by rw [show 3+t.mass=(2+t.mass)+1 by omega,Nat.add_mul,Nat.one_mul]
   rw [errsL_cons]
   simp only [List.length_append,sizeVs,Nat.mul_add]
   omega
 have hF: ∀ (l:List (ByteArray × Val)),(∀x∈l,∀sc p,SB sc→(errs x.2 sc p).length ≤(2+sc.mass) * x.2.size)→(errsF l sc p).length ≤(2+sc.mass) * sizeFs l:=by
  intro l
  induction l with
  | nil=>intro _;rw [errsF_nil];simp
  | cons x l ih=>
   intro h
   have h2:=ih (fun y hy=>h y (by simp [hy]))
   have h4:=x.2.size_pos
   have h7:(err1 sc p x).length ≤(2+sc.mass) * x.2.size:=by
    have h8:1 * 1≤(2+sc.mass) * x.2.size:=Nat.mul_le_mul (by omega) h4
    unfold err1
    split
    ·simp only [List.length_singleton];omega
    ·rename_i t ht
     split
     ·simp
     ·have h1:=h x (by simp) t (p++ [fldStp x.1]) (hs.sub ht)
      have:=subS_mass ht
      have h5:(2+t.mass) * x.2.size≤(2+sc.mass) * x.2.size:=Nat.mul_le_mul (by omega) (Nat.le_refl _)
      omega
   rw [errsF_cons]
   simp only [List.length_append,sizeFs,Nat.mul_add]
   omega
 have hsz:=v.size_eq
 rw [errs_eq]
 split
 ·split
  ·have:=rngE_len p sc v.n;omega
  ·split
   ·split
    ·simpa using one
    ·split
     ·simpa using one
     ·simp
   ·split
    ·rename_i hk hk2 hk3 hk4
     obtain ⟨t,ht⟩:=List.length_eq_one_iff.1 (hs.list (by omega))
     have h1:=hL t (hs.mem_it (by rw [ht];simp)) (Sch.mass_it (by rw [ht];simp)) v.l ih1 [] sc.key
     have h2:=rngE_len p sc v.l.length
     have h3:(2+sc.mass) * (1+sizeVs v.l)≤(2+sc.mass) * v.size:=Nat.mul_le_mul (Nat.le_refl _) (by omega)
     rw [Nat.mul_add] at h3
     rw [ht,List.headD_cons,List.length_append]
     omega
    ·split
     ·have h1:=hF v.f ih2
      have h2:=miss_len v p sc.f
      have h4:=sc.mass_len_f
      have h3:(2+sc.mass) * (1+sizeFs v.f)≤(2+sc.mass) * v.size:=Nat.mul_le_mul (Nat.le_refl _) (by omega)
      rw [Nat.mul_add] at h3
      rw [List.length_append]
      omega
     ·simp
 ·simpa using one
theorem app24 {n:Nat} (h:n≤4398046511104):n * 24≤maxBytes:=by
 have:n * 24≤4398046511104 * 24:=Nat.mul_le_mul h (Nat.le_refl _)
 unfold maxBytes;omega
theorem get_size (v:Val) (nm:ByteArray):((v.get nm).getD zeroVal).s.size ≤v.mass:=by
 unfold Val.get
 split
 ·cases h:v.f.find? fun p=>decide (p.1=nm) with
  | none=>exact Nat.zero_le _
  | some p=>
   have h1:=Val.mass_f (List.mem_of_find?_eq_some h)
   have h2:=p.2.mass_s
   simp only [Option.map_some,Option.getD_some];omega
 ·exact Nat.zero_le _
theorem elStp_fits (key:ByteArray) (v:Val) (i:Nat) (h1:key.size≤1048576) (h2:v.mass≤1048576):(elStp key v i).fits :=by
 have:=get_size v key
 unfold elStp
 split
 ·exact ⟨by show key.size≤_;omega,by show (keyB v key).size ≤_;unfold keyB;omega⟩
 ·exact ⟨by show (0:Nat)≤_;omega,by show (0:Nat)≤_;omega⟩
theorem fldStp_fits (nm:ByteArray) (h:nm.size≤1048576):(fldStp nm).fits :=⟨by show nm.size≤_;omega,by show (0:Nat)≤_;omega⟩
theorem fits_snoc {p:List Stp} {x:Stp} (hp: ∀s∈p,s.fits) (hx:x.fits): ∀s∈p++ [x],s.fits:=by
 intro s hs
 rcases List.mem_append.1 hs with h | h
 ·exact hp s h
 ·simp at h;subst h;exact hx
end Go.CT.Sch
namespace Go.CT.Sch
open Go.Proofs
theorem ref_keyof (v:Val) (nm:ByteArray) (hv:v.mass≤1048576):W F147 0 [v.enc,.str nm]=some [.str (keyB v nm),.bool (hasKey v nm)]:=by
 rw [e_F147_0]
 unfold keyB hasKey isKey
 simp only [ref_get v nm (by omega),getIV,calls_6,O.cnd_bool,O.sNe_str,O.eq_int,Option.bind_some,ite_some,ite_ivbool,emptyB]
 cases (v.get nm).isSome<;>by_cases h1:nm=⟨#[]⟩<;>by_cases h2:((v.get nm).getD zeroVal).k =3<;>simp [h1,h2]
theorem ref_element (s:Sch) (l:List Val) (i:Nat) (hi:i<l.length) (hv:l[i].mass ≤1048576):W F146 0 [s.enc,.list (l.map Val.enc),.int i]=some [(elStp s.key l[i] i).enc]:=by
 rw [e_F146_0]
 unfold elStp
 simp only [O.index_list,Int.natCast_nonneg,if_true,Int.toNat_natCast,List.getElem?_map,List.getElem?_eq_getElem hi,Option.map_some,Option.bind_some,Sch.proj4,ref_keyof l[i] s.key hv,O.calls_2,O.mkagg_eq,O.cnd_bool]
 split<;>rfl
theorem ref_then (p:List Stp) (s:Stp) (hl:p.length≤1099511627776):W F149 0 [.list (p.map Stp.enc),s.enc]=some [.list ((p++ [s]).map Stp.enc)]:=by
 have h1:(0+p.length) * 48≤maxBytes:=app_ok (by omega) (by omega)
 have h2:(p.length+1) * 48≤maxBytes:=by
  have:(p.length+1) * 48≤1099511627777 * 48:=Nat.mul_le_mul (by omega) (Nat.le_refl _)
  unfold maxBytes;omega
 rw [e_F149_0]
 simp only [O.mklist_eq,Option.bind_some,O.append_list,List.length_nil,List.length_map,h1,if_true,List.nil_append,List.length_singleton,h2,List.map_append,List.map_cons,List.map_nil]
theorem ref_at (p:List Stp) (hp: ∀s∈p,s.fits) (hl:p.length≤1099511627776) (c:Int):W F136 0 [.list (p.map Stp.enc),.int c]=some [.list [errAt p c]]:=by
 rw [e_F136_0]
 simp only [ref_print p hp hl,O.calls_2,O.mkagg_eq,O.mklist_eq,Option.bind_some,errAt]
theorem ref_field_1 (s:Sch) (nm:ByteArray) (hs:s.mass≤1099511627776) (y3 y4 y5 y6 y7 y8 y9:IV): ∀ (n i:Nat),i+n=s.f.length→
  W F128 1 [.str nm,.int i,s.enc,y3,y4,y5,y6,y7,y8,y9]=some [(((s.f.drop i).find? fun p=>decide (p.nm=nm)).getD zeroSF).enc,.bool ((s.f.drop i).find? fun p=>decide (p.nm=nm)).isSome]
 | 0,i,h=>by
  rw [e_F128_1]
  have h1: ¬ i<s.f.length:=by omega
  simp [h1,List.drop_of_length_le (Nat.le_of_not_lt h1),zeroSF_enc]
 | n+1,i,h=>by
  have hi:i<s.f.length:=by omega
  have hm:=s.mass_len_f
  have hw:=next64 (i:=i) (by omega)
  have:=ref_field_1 s nm hs y3 y4 y5 y6 y7 y8 y9 n (i+1) (by omega)
  rw [e_F128_1,List.drop_eq_getElem_cons hi]
  simp only [Sch.proj6,O.len_list,List.length_map,O.lt_int,lt_cast,hi,decide_true,Option.bind_some,O.cnd_bool,if_true,O.index_list,Int.natCast_nonneg,Int.toNat_natCast,List.getElem?_map,List.getElem?_eq_getElem hi,Option.map_some,SFld.proj0,O.sEq_str,O.add_int,hw,this,List.find?_cons]
  by_cases c:s.f[i].nm =nm
  ·simp [c]
  ·have c':decide (s.f[i].nm =nm)=false:=by simpa using c
   simp only [c,c',decide_false,Bool.false_eq_true,if_false]
theorem ref_field (s:Sch) (nm:ByteArray) (hs:s.mass≤1099511627776):W F128 0 [s.enc,.str nm]=some [((s.fld nm).getD zeroSF).enc,.bool (s.fld nm).isSome]:=by
 rw [e_F128_0]
 have:=ref_field_1 s nm hs (.str ⟨#[]⟩) (.bool false) (.bool false) (.int 0) (.int 0) (.int 0) (.str ⟨#[]⟩) s.f.length 0 (by omega)
 simp only [List.drop_zero,Int.cast_ofNat_Int] at this
 exact this
def hereV (v:Val) (nm:ByteArray):Val:=if isHere v nm then (v.get nm).getD zeroVal else zeroVal
theorem ref_present (v:Val) (nm:ByteArray) (hv:v.mass≤1048576):W F151 0 [v.enc,.str nm]=some [.int (hereV v nm).k,.int (hereV v nm).n,.str (hereV v nm).s,.list ((hereV v nm).l.map Val.enc),.list ((hereV v nm).f.map Fld.enc),.bool (isHere v nm)]:=by
 rw [e_F151_0]
 unfold hereV isHere
 simp only [ref_get v nm (by omega),getIV,calls_6,O.not_bool,O.eq_int,O.cnd_bool,Option.bind_some]
 cases (v.get nm).isSome with
 | false=>rfl
 | true=>
  by_cases h:((v.get nm).getD zeroVal).k =0
  ·simp only [h,decide_true];rfl
  ·simp only [h,decide_false];rfl
theorem ref_elems_3 (s:Sch) (v:Val) (p q:List Stp) (hv:v.mass≤1048576) (hq: ∀s∈q,s.fits) (hl:q.length≤1099511627776) (i:Nat) (hiv:i≤v.l.length) (key:ByteArray) (ok:Bool) (out:List IV) (ho:out.length≤4398046511103): ∀ (n j:Nat) (ag:Bool),j+n=i→
  W F145 3 [.list (p.map Stp.enc),.int i,.str key,.bool ok,.bool ag,.int j,s.enc,v.enc,.list out,.list (q.map Stp.enc)]
   =W F145 4 [.list (p.map Stp.enc),.int i,s.enc,v.enc,.list (out++if ag||(ok&&((v.l.take i).drop j).any (sameKey s.key key)) then [errAt q 8] else [])]
 | n,j,ag,h=>by
  have hm:=v.mass_len_l
  have fin:(cnd (.bool ag) (
    calls (W F136 0 [.list (q.map Stp.enc),(.int 8)]) 1 fun x12=>
    (O.append 24 (.list out) x12).bind fun x13=>
    W F145 4 [.list (p.map Stp.enc),.int i,s.enc,v.enc,x13]) (
    W F145 4 [.list (p.map Stp.enc),.int i,s.enc,v.enc,.list out]))=W F145 4 [.list (p.map Stp.enc),.int i,s.enc,v.enc,.list (out++if ag then [errAt q 8] else [])]:=by
   cases ag with
   | false=>simp
   | true=>
    have hap:(out.length+1) * 24≤maxBytes:=app24 (by omega)
    simp only [O.cnd_bool,if_true,ref_at q hq hl 8,O.calls_1,O.append_list,List.length_singleton,hap,Option.bind_some]
  rw [e_F145_3]
  by_cases c:j<i
  ·obtain ⟨m,rfl⟩: ∃m,n=m+1:=⟨n - 1,by omega⟩
   have hj:j<v.l.length:=by omega
   have hw:=next64 (i:=j) (by omega)
   have hx:=Val.mass_l (List.getElem_mem hj)
   have hc:(j:Int)<i:=by omega
   cases ok with
   | false=>
    simp only [O.lt_int,hc,decide_true,Option.bind_some,O.pick_bool,if_true,O.cnd_bool,Bool.false_eq_true,if_false]
    simp only [O.cnd_bool] at fin
    rw [fin];simp
   | true=>
    have hk:=ref_keyof v.l[j] s.key (by omega)
    have hd:(v.l.take i).drop j=v.l[j]::(v.l.take i).drop (j+1):=by
     rw [List.drop_eq_getElem_cons (by simp;omega),List.getElem_take]
    simp only [O.lt_int,hc,decide_true,Option.bind_some,O.pick_bool,if_true,O.cnd_bool,Val.proj3,O.index_list,Int.natCast_nonneg,Int.toNat_natCast,List.getElem?_map,List.getElem?_eq_getElem hj,Option.map_some,Sch.proj4,hk,O.calls_2,O.sEq_str,ite_some,ite_ivbool,O.add_int,hw]
    rw [ref_elems_3 s v p q hv hq hl i hiv key true out ho m (j+1) _ (by omega),hd,List.any_cons]
    congr 6
    unfold sameKey
    cases ag<;>cases hasKey v.l[j] s.key<;>simp
  ·have hc: ¬ (j:Int)<i:=by omega
   simp only [O.lt_int,hc,decide_false,Option.bind_some,O.pick_bool,Bool.false_eq_true,if_false,O.cnd_bool]
   simp only [O.cnd_bool] at fin
   rw [fin,List.drop_of_length_le (by simp;omega)]
   simp
def RefE (v:Val):Prop:=v.mass≤1048576→ ∀ (s:Sch),SB s→s.mass≤1048576→ ∀p:List Stp,(∀x∈p,x.fits)→p.length+v.mass≤549755813888→W F135 0 [s.enc,v.enc,.list (p.map Stp.enc)]=some [.list (errs v s p)]
theorem ref_elems_2 (s t:Sch) (v:Val) (p:List Stp) (hv:v.mass≤1048576) (hs:s.mass≤1048576) (ht:s.it= [t]) (hsb:SB s) (hp: ∀s∈p,s.fits) (hl:p.length+v.mass≤549755813888)
  (ih: ∀x∈v.l,RefE x): ∀ (n i:Nat) (out:List IV),i+n=v.l.length→out.length+(2+s.mass) * sizeVs (v.l.drop i)≤4398046511103→
  W F145 2 [.list (p.map Stp.enc),.int i,s.enc,v.enc,.list out]=some [.list (out++errsL (v.l.drop i) s.key t p (v.l.take i))]
 | 0,i,out,h,hb=>by
  have h1: ¬ i<v.l.length:=by omega
  rw [e_F145_2,List.drop_of_length_le (by omega),errsL_nil]
  simp only [Val.proj3,O.len_list,List.length_map,Option.bind_some,O.lt_int,lt_cast,h1,decide_false,O.cnd_bool,Bool.false_eq_true,if_false,List.append_nil]
 | n+1,i,out,h,hb=>by
  have hi:i<v.l.length:=by omega
  have hm:=v.mass_len_l
  have hw:=next64 (i:=i) (by omega)
  have hx:=Val.mass_l (List.getElem_mem hi)
  have htm:t∈s.it:=by rw [ht];simp
  have htmass:=Sch.mass_it htm
  have hd:=List.drop_eq_getElem_cons hi
  have hkey:=s.mass_key
  rw [hd] at hb ⊢
  rw [errsL_cons]
  have hti:(v.l.take i).length =i:=by simp;omega
  have htk:v.l.take i++ [v.l[i]]=v.l.take (i+1):=by simp
  rw [hti,htk]
  have hq:=fits_snoc hp (elStp_fits s.key v.l[i] i (by omega) (by omega))
  have he1:=ih _ (List.getElem_mem hi) (by omega) t (hsb.mem_it htm) (by omega) _ hq (by simp;omega)
  have hlen:=errs_len v.l[i] t (p++ [elStp s.key v.l[i] i]) (hsb.mem_it htm)
  have hdl:=dupE_len s.key (v.l.take i) v.l[i] (p++ [elStp s.key v.l[i] i])
  simp only [sizeVs,Nat.mul_add] at hb
  have hsz:(2+t.mass) * v.l[i].size +1≤(2+s.mass) * v.l[i].size :=by
   have h1:=v.l[i].size_pos
   have h2:(3+t.mass) * v.l[i].size ≤(2+s.mass) * v.l[i].size :=Nat.mul_le_mul (by omega) (Nat.le_refl _)
   have h3:(3+t.mass) * v.l[i].size =(2+t.mass) * v.l[i].size +v.l[i].size :=by rw [show 3+t.mass=(2+t.mass)+1 by omega,Nat.add_mul,Nat.one_mul]
   omega
  generalize hE:errs v.l[i] t (p++ [elStp s.key v.l[i] i])=es1 at *
  have hap:(out.length+es1.length) * 24≤maxBytes:=app24 (by omega)
  have h3:=ref_elems_3 s v p (p++ [elStp s.key v.l[i] i]) hv hq (by simp;omega) i (by omega) (keyB v.l[i] s.key) (hasKey v.l[i] s.key) (out++es1) (by rw [List.length_append];omega) i 0 false (by omega)
  simp only [Int.cast_ofNat_Int,List.drop_zero,Bool.false_or] at h3
  have hdup:(if (hasKey v.l[i] s.key&&(v.l.take i).any (sameKey s.key (keyB v.l[i] s.key)))=true then [errAt (p++ [elStp s.key v.l[i] i]) 8] else [])=dupE s.key (v.l.take i) v.l[i] (p++ [elStp s.key v.l[i] i]):=rfl
  rw [hdup] at h3
  generalize hD:dupE s.key (v.l.take i) v.l[i] (p++ [elStp s.key v.l[i] i])=d at *
  have h4:=ref_elems_2 s t v p hv hs ht hsb hp hl ih n (i+1) (out++es1++d) (by omega) (by simp only [List.length_append];omega)
  rw [e_F145_2]
  simp only [Val.proj3,O.len_list,List.length_map,Option.bind_some,O.lt_int,lt_cast,hi,decide_true,O.cnd_bool,if_true,ref_element s v.l i hi (by omega),O.calls_1,ref_then p (elStp s.key v.l[i] i) (by omega),Sch.proj5,ht,List.map_cons,List.map_nil,O.index_list,Int.le_refl,Int.toNat_zero,List.getElem?_cons_zero,Int.natCast_nonneg,Int.toNat_natCast,List.getElem?_map,List.getElem?_eq_getElem hi,Option.map_some,he1,O.append_list,hap,Sch.proj4,ref_keyof v.l[i] s.key (by omega),O.calls_2]
  rw [h3,e_F145_4]
  simp only [O.add_int,hw,Option.bind_some]
  rw [h4]
  simp only [List.append_assoc]
theorem ref_mem_3 (s:Sch) (v:Val) (p:List Stp) (hv:v.mass≤1048576) (hs:s.mass≤1048576) (hp: ∀s∈p,s.fits) (hl:p.length+v.mass≤549755813888): ∀ (n i:Nat) (out:List IV),i+n=s.f.length→out.length+n≤4398046511103→
  W F150 3 [.list (p.map Stp.enc),.int i,s.enc,v.enc,.list out]=some [.list (out++(s.f.drop i).flatMap (miss1 v p))]
 | 0,i,out,h,hb=>by
  have h1: ¬ i<s.f.length:=by omega
  rw [e_F150_3,List.drop_of_length_le (by omega)]
  simp only [Sch.proj6,O.len_list,List.length_map,Option.bind_some,O.lt_int,lt_cast,h1,decide_false,O.cnd_bool,Bool.false_eq_true,if_false,List.flatMap_nil,List.append_nil]
 | n+1,i,out,h,hb=>by
  have hi:i<s.f.length:=by omega
  have hm:=s.mass_len_f
  have hw:=next64 (i:=i) (by omega)
  have hsf:=Sch.mass_f (List.getElem_mem hi)
  have hq:=fits_snoc hp (fldStp_fits s.f[i].nm (by omega))
  have hap:(out.length+1) * 24≤maxBytes:=app24 (by omega)
  have hmk:O.mkagg [(.int 1),.str s.f[i].nm,(.int 0),(.str ⟨#[]⟩)]=some (fldStp s.f[i].nm).enc :=rfl
  rw [e_F150_3,List.drop_eq_getElem_cons hi,List.flatMap_cons]
  unfold miss1
  simp only [Sch.proj6,O.len_list,List.length_map,Option.bind_some,O.lt_int,lt_cast,hi,decide_true,O.cnd_bool,if_true,O.index_list,Int.natCast_nonneg,Int.toNat_natCast,List.getElem?_map,List.getElem?_eq_getElem hi,Option.map_some,SFld.proj0,ref_present v s.f[i].nm hv,calls_6,SFld.proj1,O.not_bool,ite_some,ite_ivbool,hmk,ref_then p (fldStp s.f[i].nm) (by omega),O.calls_1,ref_at _ hq (by simp;omega),O.append_list,List.length_singleton,hap,e_F150_4,O.add_int,hw]
  have e:(if s.f[i].rq =true then !isHere v s.f[i].nm else false)=(s.f[i].rq && !isHere v s.f[i].nm):=by cases s.f[i].rq<;>simp
  rw [e]
  cases (s.f[i].rq && !isHere v s.f[i].nm) with
  | true=>
   have h1:=ref_mem_3 s v p hv hs hp hl n (i+1) (out++ [errAt (p++ [fldStp s.f[i].nm]) 7]) (by omega) (by simp;omega)
   simp only [if_true,h1,List.append_assoc]
   rfl
  | false=>
   have h1:=ref_mem_3 s v p hv hs hp hl n (i+1) out (by omega) (by omega)
   simp only [Bool.false_eq_true,if_false,h1,List.nil_append]
   rfl
theorem ref_mem_1 (s:Sch) (v:Val) (p:List Stp) (hv:v.mass≤1048576) (hs:s.mass≤1048576) (hsb:SB s) (hp: ∀s∈p,s.fits) (hl:p.length+v.mass≤549755813888)
  (ih: ∀x∈v.f,RefE x.2): ∀ (n i:Nat) (out:List IV),i+n=v.f.length→out.length+s.f.length+(2+s.mass) * sizeFs (v.f.drop i)≤4398046511103→
  W F150 1 [.list (p.map Stp.enc),.int i,s.enc,v.enc,.list out]=some [.list (out++errsF (v.f.drop i) s p++s.f.flatMap (miss1 v p))]
 | 0,i,out,h,hb=>by
  have h1: ¬ i<v.f.length:=by omega
  have h3:=ref_mem_3 s v p hv hs hp hl s.f.length 0 out (by omega) (by omega)
  simp only [Int.cast_ofNat_Int,List.drop_zero] at h3
  rw [e_F150_1,List.drop_of_length_le (by omega),errsF_nil]
  simp only [Val.proj4,O.len_list,List.length_map,Option.bind_some,O.lt_int,lt_cast,h1,decide_false,O.cnd_bool,Bool.false_eq_true,if_false,List.append_nil,h3]
 | n+1,i,out,h,hb=>by
  have hi:i<v.f.length:=by omega
  have hm:=v.mass_len_f
  have hw:=next64 (i:=i) (by omega)
  have hx:=Val.mass_f (List.getElem_mem hi)
  have hd:=List.drop_eq_getElem_cons hi
  rw [hd] at hb ⊢
  rw [errsF_cons]
  simp only [sizeFs,Nat.mul_add] at hb
  have hq:=fits_snoc hp (fldStp_fits v.f[i].1 (by omega))
  have hmk:O.mkagg [(.int 1),.str v.f[i].1,(.int 0),(.str ⟨#[]⟩)]=some (fldStp v.f[i].1).enc :=rfl
  have hpos:=v.f[i].2.size_pos
  have hone:1≤(2+s.mass) * v.f[i].2.size :=by
   have:1 * 1≤(2+s.mass) * v.f[i].2.size :=Nat.mul_le_mul (by omega) hpos
   omega
  -- what this field adds
  have key: ∀es:List IV,es.length≤(2+s.mass) * v.f[i].2.size →W F150 2 [.list (p.map Stp.enc),.int i,s.enc,v.enc,.list (out++es)]=some [.list (out++(es++errsF (v.f.drop (i+1)) s p)++s.f.flatMap (miss1 v p))]:=by
   intro es hes
   have h4:=ref_mem_1 s v p hv hs hsb hp hl ih n (i+1) (out++es) (by omega) (by rw [List.length_append];omega)
   rw [e_F150_2]
   simp only [O.add_int,hw,Option.bind_some,h4,List.append_assoc]
  have sub: ∀t:Sch,subS s v.f[i].1 =some t→((∃es,errs v.f[i].2 t (p++ [fldStp v.f[i].1])=es∧W F135 0 [t.enc,v.f[i].2.enc,.list ((p++ [fldStp v.f[i].1]).map Stp.enc)]=some [.list es]∧es.length≤(2+s.mass) * v.f[i].2.size)):=by
   intro t ht
   have htm:=subS_mass ht
   have h1:=ih _ (List.getElem_mem hi) (by omega) t (hsb.sub ht) (by omega) _ hq (by simp;omega)
   have h2:=errs_len v.f[i].2 t (p++ [fldStp v.f[i].1]) (hsb.sub ht)
   have h5:(2+t.mass) * v.f[i].2.size ≤(2+s.mass) * v.f[i].2.size :=Nat.mul_le_mul (by omega) (Nat.le_refl _)
   exact ⟨_,rfl,h1,by omega⟩
  have hap: ∀es:List IV,es.length≤(2+s.mass) * v.f[i].2.size →(out.length+es.length) * 24≤maxBytes:=fun es h=>app24 (by omega)
  rw [e_F150_1]
  simp only [Val.proj4,O.len_list,List.length_map,Option.bind_some,O.lt_int,lt_cast,hi,decide_true,O.cnd_bool,if_true,O.index_list,Int.natCast_nonneg,Int.toNat_natCast,List.getElem?_map,List.getElem?_eq_getElem hi,Option.map_some,Fld.proj0,hmk,ref_then p _ (show p.length≤1099511627776 by omega),O.calls_1,ref_field s v.f[i].1 (by omega),O.calls_2,Sch.proj5,O.eq_int,O.not_bool,ite_some,ite_ivbool,Fld.proj1,O.ne_int,Fld.projV,SFld.projS]
  unfold err1
  cases hit:s.it with
  | nil=>
   have hsub:subS s v.f[i].1 =(s.fld v.f[i].1).map (·.s):=by unfold subS;rw [hit]
   rw [hsub] at sub ⊢
   simp only [List.length_nil,Int.cast_ofNat_Int,decide_true,if_true]
   cases hf:s.fld v.f[i].1 with
   | none=>
    have hap1:=hap [errAt (p++ [fldStp v.f[i].1]) 1] (by simpa using hone)
    simp only [Option.isSome_none,Bool.not_false,if_true,ref_at _ hq (show (p++ [fldStp v.f[i].1]).length ≤1099511627776 by simp;omega),O.calls_1,O.append_list,hap1,Option.bind_some,Option.map_none]
    exact key _ (by simpa using hone)
   | some d=>
    simp only [Option.isSome_some,Bool.not_true,Bool.false_eq_true,if_false,Option.map_some,Option.getD_some,show ¬ (0:Int)=1 by omega,decide_false,ite_self]
    by_cases hk:v.f[i].2.k =0
    ·simp only [hk,decide_true,Bool.not_true,Bool.false_eq_true,if_false,if_true]
     have:=key [] (by simp)
     simpa using this
    ·obtain ⟨es,he,h1,h2⟩:=sub d.s (by rw [hf];rfl)
     simp only [hk,decide_false,Bool.not_false,if_true,if_false,h1,O.calls_1,O.append_list,hap es h2,Option.bind_some,he]
     exact key es h2
  | cons t r=>
   have hr:r= []:=by have:=hsb.one;rw [hit] at this;simpa using this
   subst hr
   have hsub:subS s v.f[i].1 =some t:=by unfold subS;rw [hit]
   rw [hsub] at sub ⊢
   simp only [List.length_cons,List.length_nil,Nat.zero_add,Int.cast_ofNat_Int,show ¬ (1:Int)=0 by omega,decide_false,Bool.false_eq_true,if_false,decide_true,List.map_cons,List.map_nil,Int.le_refl,if_true,Int.toNat_zero,List.getElem?_cons_zero,Option.bind_some]
   by_cases hk:v.f[i].2.k =0
   ·simp only [hk,decide_true,Bool.not_true,Bool.false_eq_true,if_false,if_true]
    have:=key [] (by simp)
    simpa using this
   ·obtain ⟨es,he,h1,h2⟩:=sub t rfl
    simp only [Option.map_some,Option.bind_some,hk,decide_false,Bool.not_false,if_true,if_false,h1,O.calls_1,O.append_list,hap es h2,Option.bind_some,he]
    exact key es h2
theorem ref_err_1 (s:Sch) (v:Val) (p:List Stp) (hp: ∀s∈p,s.fits) (hl:p.length≤1099511627776) (hs:s.mass≤1048576): ∀ (n i:Nat),i+n=s.en.length→
  W F135 1 [.list (p.map Stp.enc),.int i,s.enc,v.enc]=some [.list (if decide (0<s.en.length)&& !(s.en.drop i).any (fun e=>decide (e=v.s)) then [errAt p 1] else [])]
 | 0,i,h=>by
  have h1: ¬ i<s.en.length:=by omega
  rw [e_F135_1,List.drop_of_length_le (by omega)]
  simp only [Sch.proj3,O.len_list,List.length_map,Option.bind_some,O.lt_int,lt_cast,h1,decide_false,O.cnd_bool,Bool.false_eq_true,if_false,O.gt_int,ref_at p hp hl,O.calls_1,List.any_nil,Bool.not_false,Bool.and_true]
  have e:decide ((0:Int)<(s.en.length:Int))=decide (0<s.en.length):=by simp
  rw [e]
  split<;>simp
 | n+1,i,h=>by
  have hi:i<s.en.length:=by omega
  have hm:=s.mass_len_en
  have hw:=next64 (i:=i) (by omega)
  have he:=ref_err_1 s v p hp hl hs n (i+1) (by omega)
  rw [e_F135_1,List.drop_eq_getElem_cons hi,List.any_cons]
  simp only [Sch.proj3,O.len_list,List.length_map,Option.bind_some,O.lt_int,lt_cast,hi,decide_true,O.cnd_bool,if_true,O.index_list,Int.natCast_nonneg,Int.toNat_natCast,List.getElem?_map,List.getElem?_eq_getElem hi,Option.map_some,Val.proj2,O.sEq_str,O.add_int,hw,he]
  by_cases c:s.en[i]=v.s<;>simp [c]
theorem ref_errs: ∀v:Val,RefE v:=by
 refine Val.ind fun v ih1 ih2 hv s hsb hs p hp hl=>?_
 have hat: ∀c,W F136 0 [.list (p.map Stp.enc),.int c]=some [.list [errAt p c]]:=ref_at p hp (by omega)
 have hsz:=v.size_eq
 have hsm:=v.size_mass
 have hlf:=s.mass_len_f
 have hmul:(2+s.mass) * v.size≤1048578 * 1048576:=Nat.mul_le_mul (by omega) (by omega)
 rw [e_F135_0,errs_eq]
 simp only [Val.proj0,Sch.proj0,Option.bind_some,O.ne_int,O.cnd_bool,hat,O.calls_1]
 by_cases hk:v.k=s.k
 ·simp only [hk,decide_true,Bool.not_true,Bool.false_eq_true,if_false,if_true,O.eq_int,Option.bind_some,O.cnd_bool]
  by_cases k2:s.k=2
  ·simp only [k2,decide_true,if_true,Val.proj1,Sch.proj1,Sch.proj2,O.lt_int,O.gt_int,Option.bind_some,O.cnd_bool,ite_some,ite_ivbool,rngE]
   by_cases c1:v.n<s.mn<;>by_cases c2:s.mx<v.n<;>simp [c1,c2]
  ·by_cases k3:s.k=3
   ·have h1:=ref_err_1 s v p hp (by omega) hs s.en.length 0 (by omega)
    simp only [Int.cast_ofNat_Int,List.drop_zero] at h1
    simp only [k3,show ¬ (3:Int)=2 by omega,decide_false,Bool.false_eq_true,if_false,decide_true,if_true,Val.proj2,Sch.proj1,Sch.proj2,O.slen_str,O.lt_int,O.gt_int,Option.bind_some,O.cnd_bool,ite_some,ite_ivbool,h1]
    by_cases c1:(v.s.size:Int)<s.mn<;>by_cases c2:s.mx<(v.s.size:Int)<;>simp [c1,c2]
   ·by_cases k4:s.k=4
    ·obtain ⟨t,ht⟩:=List.length_eq_one_iff.1 (hsb.list k4)
     have hb:(2+s.mass) * sizeVs v.l≤(2+s.mass) * v.size:=Nat.mul_le_mul (Nat.le_refl _) (by omega)
     have hl1:=rngE_len p s v.l.length
     have h2:=ref_elems_2 s t v p hv hs ht hsb hp hl ih1 v.l.length 0 (rngE p s v.l.length) (by omega) (by simp only [List.drop_zero];omega)
     simp only [Int.cast_ofNat_Int,List.drop_zero,List.take_zero] at h2
     have h0:W F145 0 [s.enc,v.enc,.list (p.map Stp.enc)]=some [.list (rngE p s v.l.length++errsL v.l s.key t p [])]:=by
      rw [e_F145_0]
      simp only [Val.proj3,Sch.proj1,Sch.proj2,O.len_list,List.length_map,O.lt_int,O.gt_int,Option.bind_some,O.cnd_bool,ite_some,ite_ivbool,hat,O.calls_1,O.append_list,List.length_nil,List.length_singleton,List.nil_append,e_F145_1]
      have hap:(0+1) * 24≤maxBytes:=app24 (by omega)
      simp only [hap,if_true,Option.bind_some]
      revert h2
      unfold rngE
      by_cases c1:(v.l.length:Int)<s.mn<;>by_cases c2:s.mx<(v.l.length:Int)<;>simp [c1,c2]
     simp only [k4,show ¬ (4:Int)=2 by omega,show ¬ (4:Int)=3 by omega,decide_false,Bool.false_eq_true,if_false,decide_true,if_true,h0,O.calls_1,ht,List.headD_cons]
    ·by_cases k5:s.k=5
     ·have hb:(2+s.mass) * sizeFs v.f≤(2+s.mass) * v.size:=Nat.mul_le_mul (Nat.le_refl _) (by omega)
      have h2:=ref_mem_1 s v p hv hs hsb hp hl ih2 v.f.length 0 [] (by omega) (by simp only [List.drop_zero,List.length_nil];omega)
      simp only [Int.cast_ofNat_Int,List.drop_zero,List.nil_append] at h2
      have h0:W F150 0 [s.enc,v.enc,.list (p.map Stp.enc)]=some [.list (errsF v.f s p++s.f.flatMap (miss1 v p))]:=by
       rw [e_F150_0,h2]
      simp only [k5,show ¬ (5:Int)=2 by omega,show ¬ (5:Int)=3 by omega,show ¬ (5:Int)=4 by omega,decide_false,Bool.false_eq_true,if_false,decide_true,if_true,h0,O.calls_1]
     ·simp only [k2,k3,k4,k5,decide_false,Bool.false_eq_true,if_false]
 ·simp only [hk,decide_false,Bool.not_false,if_true,if_false]
end Go.CT.Sch
namespace Go.CT.Sch
open Go.Proofs
def encM (m:List (ByteArray × Bool)):List IV:=m.map fun e=> .agg [.str e.1,.bool e.2]
def mlook (m:List (ByteArray × Bool)) (k:ByteArray):Option Bool:=(m.find? fun e=>decide (e.1=k)).map (·.2)
def mputB (k:ByteArray) (b:Bool):List (ByteArray × Bool)→List (ByteArray × Bool)
 | []=> [(k,b)]
 | e::r=>if e.1=k then (k,b)::r else e::mputB k b r
theorem eqLeaf_str (a b:ByteArray):IV.eqLeaf (.str a) (.str b)=some (decide (a=b)):=by
 have:(a.toList == b.toList)=decide (a=b):=by
  rw [Bool.eq_iff_iff,beq_iff_eq,decide_eq_true_iff];exact O.str_ext
 simp only [IV.eqLeaf,this]
theorem mfind_enc (k:ByteArray): ∀m:List (ByteArray × Bool),mfind (.str k) (encM m)=some ((mlook m k).map .bool)
 | []=>rfl
 | e::r=>by
  have ih:=mfind_enc k r
  simp only [encM,List.map_cons,mfind,eqLeaf_str,mlook,List.find?_cons]
  by_cases c:k=e.1
  ·simp [c]
  ·have c': ¬ e.1=k:=fun h=>c h.symm
   simp only [c,c',decide_false]
   exact ih
theorem mput_enc (k:ByteArray) (b:Bool): ∀m:List (ByteArray × Bool),mput (.str k) (.bool b) (encM m)=some (encM (mputB k b m))
 | []=>rfl
 | e::r=>by
  have ih:=mput_enc k b r
  simp only [encM,List.map_cons,mput,eqLeaf_str,mputB]
  by_cases c:k=e.1
  ·simp [c]
  ·have c': ¬ e.1=k:=fun h=>c h.symm
   simp only [c,c',decide_false,if_false]
   unfold encM at ih
   rw [ih];rfl
theorem mlook_put (k j:ByteArray) (b:Bool): ∀m:List (ByteArray × Bool),mlook (mputB k b m) j=if k=j then some b else mlook m j
 | []=>by simp only [mputB,mlook,List.find?_cons,List.find?_nil];by_cases c:k=j<;>simp [c]
 | e::r=>by
  have ih:=mlook_put k j b r
  unfold mlook at ih ⊢
  unfold mputB
  by_cases c:e.1=k
  ·simp only [c,if_true,List.find?_cons]
   by_cases c2:k=j<;>simp [c2]
  ·simp only [c,if_false,List.find?_cons]
   by_cases c2:e.1=j
   ·have: ¬ k=j:=fun h=>c (c2.trans h.symm)
    simp [c2,this]
   ·simp only [c2,decide_false,ih]
theorem mget_enc (m:List (ByteArray × Bool)) (k:ByteArray):O.mget (.bool false) (.list (encM m)) (.str k)=some (.bool ((mlook m k).getD false)):=by
 unfold O.mget
 simp only [Prim.ev,mfind_enc,Option.map_some]
 cases mlook m k<;>rfl
theorem mhas_enc (m:List (ByteArray × Bool)) (k:ByteArray):O.mhas (.list (encM m)) (.str k)=some (.bool (mlook m k).isSome):=by
 unfold O.mhas
 simp only [Prim.ev,mfind_enc,Option.map_some,Option.isSome_map]
theorem mset_enc (m:List (ByteArray × Bool)) (k:ByteArray) (b:Bool):O.mset (.list (encM m)) (.str k) (.bool b)=some (.list (encM (mputB k b m))):=by
 unfold O.mset
 simp only [Prim.ev,mput_enc,Option.map_some]
theorem pg_get (v:Val) (nm:ByteArray) (hv:v.mass≤4294967296):W F73 0 [v.enc,.str nm]=some (getIV (v.get nm)):=val_getW v nm (wide_mass v (by omega))
theorem pg_key (v:Val) (nm:ByteArray) (hv:v.mass≤1048576):W F72 0 [v.enc,.str nm]=some [.str (keyB v nm),.bool (isKey v nm)]:=by
 rw [e_F72_0]
 unfold keyB isKey
 simp only [pg_get v nm (by omega),getIV,calls_6,O.cnd_bool,O.eq_int,Option.bind_some,ite_some,ite_ivbool]
 cases (v.get nm).isSome<;>simp
theorem pg_element (s:Sch) (v:Val) (i:Int) (hv:v.mass≤1048576):W F71 0 [s.enc,.int i,v.enc]=some [.agg [.int (if hasKey v s.key then 3 else 2),.str (if hasKey v s.key then s.key else emptyB),.int (if hasKey v s.key then 0 else i),.str (if hasKey v s.key then keyB v s.key else emptyB)]]:=by
 rw [e_F71_0]
 have e:(if isKey v s.key=true then !decide (s.key=(⟨#[]⟩:ByteArray)) else false)=hasKey v s.key:=by unfold hasKey emptyB;cases isKey v s.key<;>simp
 simp only [Sch.proj4,Option.bind_some,pg_key v s.key hv,O.calls_2,O.sNe_str,O.cnd_bool,ite_some,ite_ivbool,e,O.mkagg_eq]
 cases hasKey v s.key<;>rfl
theorem pg_element' (s:Sch) (v:Val) (i:Nat) (hv:v.mass≤1048576):W F71 0 [s.enc,.int i,v.enc]=some [(elStp s.key v i).enc]:=by
 rw [pg_element s v i hv]
 unfold elStp
 cases hasKey v s.key<;>rfl
theorem pg_member (nm:ByteArray):W F79 0 [.str nm]=some [(fldStp nm).enc]:=by
 rw [e_F79_0];rfl
theorem pg_then (p:List Stp) (s:Stp) (hl:p.length≤1073741824):W F74 0 [.list (p.map Stp.enc),s.enc]=some [.list ((p++ [s]).map Stp.enc)]:=by
 have h2:((p.map Stp.enc).length + [s.enc].length) * 48≤maxBytes:=by
  have:(p.length+1) * 48≤1099511627777 * 48:=Nat.mul_le_mul (by omega) (Nat.le_refl _)
  simp only [List.length_map,List.length_singleton]
  unfold maxBytes;omega
 have h1:O.cloneF [.list (p.map Stp.enc)]=some [.list (p.map Stp.enc)]:=cloneF_list (by rw [List.length_map];omega)
 rw [e_F74_0]
 simp only [e_F75,h1,O.calls_1,e_F76,O.clipF_list,O.mklist_eq,Option.bind_some,O.appendN_list (n:=48) (by simp) h2,List.map_append,List.map_cons,List.map_nil]
theorem pg_add (out:List IV) (p:List Stp) (c:Int) (hp: ∀s∈p,s.fits) (hl:p.length≤1099511627776) (ho:out.length≤4398046511103):W F50 0 [.list out,.list (p.map Stp.enc),.int c]=some [.list (out++ [errAt p c])]:=by
 have hap:(out.length+1) * 24≤maxBytes:=app24 (by omega)
 rw [e_F50_0]
 simp only [pp_print p hp hl,O.calls_2,O.mkagg_eq,O.mklist_eq,Option.bind_some,O.append_list,List.length_singleton,hap,if_true,errAt]
theorem pg_dict (s:Sch):W F77 0 [s.enc]=some [.bool (decide (s.k=5)&&decide (0<s.it.length))]:=by
 rw [e_F77_0]
 by_cases k5:s.k=5<;>simp [k5]
theorem pg_struct (s:Sch):W F29 0 [s.enc]=some [.bool (decide (s.k=5)&&decide (s.it.length=0))]:=by
 rw [e_F29_0]
 by_cases k5:s.k=5<;>simp [k5]
theorem pg_index (s:Sch) (nm:ByteArray) (hs:s.mass≤1099511627776): ∀ (n i:Nat),i+n=s.f.length→
  ∃r:Int,W F27 1 [.list (s.f.map SFld.enc),.str nm,.int s.f.length,.int i]=some [.int r]∧
   ((((s.f.drop i).find? fun p=>decide (p.nm=nm))=none∧r<0)∨(∃j:Nat,r=j∧s.f[j]?=((s.f.drop i).find? fun p=>decide (p.nm=nm))∧((s.f.drop i).find? fun p=>decide (p.nm=nm)).isSome =true))
 | 0,i,h=>by
  rw [e_F27_1]
  have h1: ¬ i<s.f.length:=by omega
  refine ⟨-1,by simp [h1],.inl ⟨by simp [List.drop_of_length_le (Nat.le_of_not_lt h1)],by omega⟩⟩
 | n+1,i,h=>by
  have hi:i<s.f.length:=by omega
  have hm:=s.mass_len_f
  have hw:=next64 (i:=i) (by omega)
  obtain ⟨r,hr,h2⟩:=pg_index s nm hs n (i+1) (by omega)
  rw [e_F27_1,List.drop_eq_getElem_cons hi,List.find?_cons]
  simp only [O.lt_int,lt_cast,hi,decide_true,Option.bind_some,O.cnd_bool,if_true,O.index_list,Int.natCast_nonneg,Int.toNat_natCast,List.getElem?_map,List.getElem?_eq_getElem hi,Option.map_some,e_F28_0,SFld.proj0,O.sEq_str,O.calls_1,O.add_int,hw,hr]
  by_cases c:s.f[i].nm =nm
  ·refine ⟨i,by simp [c],.inr ⟨i,rfl,by simp [c],by simp [c]⟩⟩
  ·have c':decide (s.f[i].nm =nm)=false:=by simpa using c
   simp only [c',Bool.false_eq_true,if_false]
   exact ⟨r,rfl,h2⟩
theorem pg_field (s:Sch) (nm:ByteArray) (hs:s.mass≤1099511627776):W F26 0 [s.enc,.str nm]=
  some [(if s.k=5∧s.it.length=0 then (s.fld nm).getD zeroSF else zeroSF).enc,.bool (decide (s.k=5∧s.it.length=0)&&(s.fld nm).isSome)]:=by
 obtain ⟨r,hr,h2⟩:=pg_index s nm hs s.f.length 0 (by omega)
 have hr':W F27 0 [.list (s.f.map SFld.enc),.str nm]=some [.int r]:=by
  rw [e_F27_0]
  simpa using hr
 simp only [List.drop_zero] at h2
 have hf:(s.f.find? fun p=>decide (p.nm=nm))=s.fld nm:=rfl
 rw [hf] at h2
 have hst:=pg_struct s
 rw [e_F26_0]
 simp only [Sch.proj6,Option.bind_some,hr',O.calls_1,O.lt_int,O.cnd_bool,hst,O.not_bool,O.mkagg_eq,ite_some,ite_ivbool]
 rcases h2 with ⟨h3,h4⟩ | ⟨j,rfl,h3,h4⟩
 ·rw [h3]
  simp only [h4,decide_true,if_true,Option.getD_none,ite_self,Option.isSome_none,Bool.and_false]
  rfl
 ·have hj: ¬ (j:Int)<0:=by omega
  obtain ⟨d,hd⟩:=Option.isSome_iff_exists.1 h4
  rw [hd] at h3 ⊢
  simp only [hj,decide_false,Bool.false_eq_true,if_false,O.index_list,Int.natCast_nonneg,if_true,Int.toNat_natCast,List.getElem?_map,h3,Option.map_some,Option.getD_some,Option.isSome_some,Bool.and_true,Option.bind_some]
  by_cases c1:s.k=5<;>by_cases c2:s.it.length=0<;>simp [c1,c2,zeroSF_enc]
theorem pg_present (v:Val) (nm:ByteArray) (hv:v.mass≤1048576): ∃w:Val,W F80 0 [v.enc,.str nm]=some [.int w.k,.int w.n,.str w.s,.list (w.l.map Val.enc),.list (w.f.map Fld.enc),.bool (isHere v nm)]∧w=(v.get nm).getD zeroVal:=by
 rw [e_F80_0]
 unfold isHere
 refine ⟨_,?_,rfl⟩
 simp only [pg_get v nm (by omega),getIV,calls_6,O.ne_int,O.cnd_bool,Option.bind_some,ite_some,ite_ivbool]
 cases (v.get nm).isSome<;>simp
theorem pg_contains_1 (l:List ByteArray) (x:ByteArray) (hl:l.length≤1099511627776): ∀ (n i:Nat),i+n=l.length→
  ∃r:Int,W F69 1 [.list (l.map .str),.str x,.int l.length,.int i]=some [.int r]∧(decide (0≤r)=(l.drop i).any fun e=>decide (e=x))
 | 0,i,h=>by
  rw [e_F69_1]
  have h1: ¬ i<l.length:=by omega
  refine ⟨-1,by simp [h1],by simp [List.drop_of_length_le (Nat.le_of_not_lt h1)]⟩
 | n+1,i,h=>by
  have hi:i<l.length:=by omega
  have hw:=next64 (i:=i) (by omega)
  obtain ⟨r,hr,h2⟩:=pg_contains_1 l x hl n (i+1) (by omega)
  rw [e_F69_1,List.drop_eq_getElem_cons hi,List.any_cons]
  simp only [O.lt_int,lt_cast,hi,decide_true,Option.bind_some,O.cnd_bool,if_true,O.index_list,Int.natCast_nonneg,Int.toNat_natCast,List.getElem?_map,List.getElem?_eq_getElem hi,Option.map_some,O.sEq_str,O.add_int,hw,hr]
  by_cases c:x=l[i]
  ·refine ⟨i,by simp [c],by simp [c]⟩
  ·have c': ¬ l[i]=x:=fun h=>c h.symm
   simp only [c,decide_false,Bool.false_eq_true,if_false]
   exact ⟨r,rfl,by simp [c',h2]⟩
theorem pg_contains (l:List ByteArray) (x:ByteArray) (hl:l.length≤1099511627776):W F68 0 [.list (l.map .str),.str x]=some [.bool (l.any fun e=>decide (e=x))]:=by
 obtain ⟨r,hr,h2⟩:=pg_contains_1 l x hl l.length 0 (by omega)
 have hr':W F69 0 [.list (l.map .str),.str x]=some [.int r]:=by
  rw [e_F69_0];simpa using hr
 rw [e_F68_0]
 simp only [hr',O.calls_1,O.ge_int,Option.bind_some,h2,List.drop_zero]
def PgE (v:Val):Prop:=v.mass≤1048576→ ∀ (s:Sch),SB s→s.mass≤1048576→ ∀ (p:List Stp) (out:List IV),(∀x∈p,x.fits)→p.length+v.mass≤1073741824→out.length+(2+s.mass) * v.size≤4398046511103→
 W F49 0 [.list out,s.enc,v.enc,.list (p.map Stp.enc)]=some [.list (out++errs v s p)]
theorem pg_list_2 (s t:Sch) (v:Val) (p:List Stp) (hv:v.mass≤1048576) (hs:s.mass≤1048576) (ht:s.it= [t]) (hsb:SB s) (hp: ∀s∈p,s.fits) (hl:p.length+v.mass≤1073741824)
  (ih: ∀x∈v.l,PgE x): ∀ (n i:Nat) (out:List IV) (m:List (ByteArray × Bool)),i+n=v.l.length→out.length+(2+s.mass) * sizeVs (v.l.drop i)≤4398046511103→
  (∀k,(mlook m k).getD false=(v.l.take i).any (sameKey s.key k))→
  W F70 2 [.list (p.map Stp.enc),.list (v.l.map Val.enc),.int v.l.length,.int i,s.enc,.list (encM m),.list out]=some [.list (out++errsL (v.l.drop i) s.key t p (v.l.take i))]
 | 0,i,out,m,h,hb,hM=>by
  have h1: ¬ i<v.l.length:=by omega
  rw [e_F70_2,List.drop_of_length_le (by omega),errsL_nil]
  simp only [O.lt_int,lt_cast,h1,decide_false,Option.bind_some,O.cnd_bool,Bool.false_eq_true,if_false,List.append_nil]
 | n+1,i,out,m,h,hb,hM=>by
  have hi:i<v.l.length:=by omega
  have hm:=v.mass_len_l
  have hw:=next64 (i:=i) (by omega)
  have hx:=Val.mass_l (List.getElem_mem hi)
  have htm:t∈s.it:=by rw [ht];simp
  have htmass:=Sch.mass_it htm
  have hd:=List.drop_eq_getElem_cons hi
  have hkey:=s.mass_key
  rw [hd] at hb ⊢
  rw [errsL_cons]
  have hti:(v.l.take i).length =i:=by simp;omega
  have htk:v.l.take i++ [v.l[i]]=v.l.take (i+1):=by simp
  rw [hti,htk]
  have hq:=fits_snoc hp (elStp_fits s.key v.l[i] i (by omega) (by omega))
  have hlen:=errs_len v.l[i] t (p++ [elStp s.key v.l[i] i]) (hsb.mem_it htm)
  have hdl:=dupE_len s.key (v.l.take i) v.l[i] (p++ [elStp s.key v.l[i] i])
  simp only [sizeVs,Nat.mul_add] at hb
  have hsz:(2+t.mass) * v.l[i].size +1≤(2+s.mass) * v.l[i].size :=by
   have h1:=v.l[i].size_pos
   have h2:(3+t.mass) * v.l[i].size ≤(2+s.mass) * v.l[i].size :=Nat.mul_le_mul (by omega) (Nat.le_refl _)
   have h3:(3+t.mass) * v.l[i].size =(2+t.mass) * v.l[i].size +v.l[i].size :=by rw [show 3+t.mass=(2+t.mass)+1 by omega,Nat.add_mul,Nat.one_mul]
   omega
  have he1:=ih _ (List.getElem_mem hi) (by omega) t (hsb.mem_it htm) (by omega) (p++ [elStp s.key v.l[i] i]) out hq (by simp;omega) (by omega)
  generalize hE:errs v.l[i] t (p++ [elStp s.key v.l[i] i])=es1 at *
  have hany: ∀k,(v.l.take (i+1)).any (sameKey s.key k)=((v.l.take i).any (sameKey s.key k)||sameKey s.key k v.l[i]):=by
   intro k;rw [←htk,List.any_append];simp
  have go: ∀ (es:List IV) (m':List (ByteArray × Bool)),es.length≤(2+s.mass) * v.l[i].size →(∀k,(mlook m' k).getD false=(v.l.take (i+1)).any (sameKey s.key k))→
    W F70 4 [.list (p.map Stp.enc),.list (v.l.map Val.enc),.int v.l.length,.int i,s.enc,.list (encM m'),.list (out++es)]=some [.list (out++(es++errsL (v.l.drop (i+1)) s.key t p (v.l.take (i+1))))]:=by
   intro es m' hes hM'
   have h4:=pg_list_2 s t v p hv hs ht hsb hp hl ih n (i+1) (out++es) m' (by omega) (by rw [List.length_append];omega) hM'
   rw [e_F70_4]
   simp only [O.add_int,hw,Option.bind_some]
   rw [h4,List.append_assoc]
  have ek:(if isKey v.l[i] s.key=true then !decide (s.key=(⟨#[]⟩:ByteArray)) else false)=hasKey v.l[i] s.key:=by unfold hasKey emptyB;cases isKey v.l[i] s.key<;>simp
  rw [e_F70_2]
  simp only [O.lt_int,lt_cast,hi,decide_true,Option.bind_some,O.cnd_bool,if_true,O.index_list,Int.natCast_nonneg,Int.toNat_natCast,List.getElem?_map,List.getElem?_eq_getElem hi,Option.map_some,pg_element' s v.l[i] i (by omega),O.calls_1,pg_then p (elStp s.key v.l[i] i) (by omega),Sch.proj5,ht,List.map_cons,List.map_nil,Int.le_refl,Int.toNat_zero,List.getElem?_cons_zero,he1,Sch.proj4,pg_key v.l[i] s.key (by omega),O.calls_2,O.sNe_str,ite_some,ite_ivbool,ek,mget_enc,mhas_enc,hM]
  unfold dupE
  cases hk:hasKey v.l[i] s.key with
  | false=>
   simp only [Bool.false_eq_true,if_false,Bool.false_and,List.append_nil]
   refine go es1 m (by omega) fun k=>?_
   rw [hM,hany]
   simp [sameKey,hk]
  | true=>
   have hM': ∀k,(mlook (mputB (keyB v.l[i] s.key) true m) k).getD false=(v.l.take (i+1)).any (sameKey s.key k):=by
    intro k
    rw [mlook_put,hany]
    unfold sameKey at hM ⊢
    by_cases c:keyB v.l[i] s.key=k
    ·simp [c,hk]
    ·simp [c,hM]
   simp only [if_true,Bool.true_and]
   cases hdup:(v.l.take i).any (sameKey s.key (keyB v.l[i] s.key)) with
   | true=>
    simp only [if_true,pg_add _ _ 8 hq (show (p++ [elStp s.key v.l[i] i]).length ≤1099511627776 by simp;omega) (show (out++es1).length ≤4398046511103 by rw [List.length_append];omega),O.calls_1,e_F70_3,mset_enc,Option.bind_some]
    have h5:=go (es1++ [errAt (p++ [elStp s.key v.l[i] i]) 8]) _ (by simp;omega) hM'
    simp only [←List.append_assoc] at h5 ⊢
    exact h5
   | false=>
    simp only [Bool.false_eq_true,if_false,e_F70_3,mset_enc,Option.bind_some,List.append_nil]
    exact go es1 _ (by omega) hM'
theorem pg_str_3 (s:Sch) (v:Val) (p:List Stp) (hv:v.mass≤1048576) (hs:s.mass≤1048576) (hp: ∀s∈p,s.fits) (hl:p.length+v.mass≤1073741824): ∀ (n i:Nat) (out:List IV),i+n=s.f.length→out.length+n≤4398046511103→
  W F78 3 [.list (p.map Stp.enc),.list (s.f.map SFld.enc),.int s.f.length,.int i,v.enc,.list out]=some [.list (out++(s.f.drop i).flatMap (miss1 v p))]
 | 0,i,out,h,hb=>by
  have h1: ¬ i<s.f.length:=by omega
  rw [e_F78_3,List.drop_of_length_le (by omega)]
  simp only [Option.bind_some,O.lt_int,lt_cast,h1,decide_false,O.cnd_bool,Bool.false_eq_true,if_false,List.flatMap_nil,List.append_nil]
 | n+1,i,out,h,hb=>by
  have hi:i<s.f.length:=by omega
  have hm:=s.mass_len_f
  have hw:=next64 (i:=i) (by omega)
  have hsf:=Sch.mass_f (List.getElem_mem hi)
  have hq:=fits_snoc hp (fldStp_fits s.f[i].nm (by omega))
  obtain ⟨w,hw1,_⟩:=pg_present v s.f[i].nm hv
  rw [e_F78_3,List.drop_eq_getElem_cons hi,List.flatMap_cons]
  unfold miss1
  have e:(if s.f[i].rq =true then !isHere v s.f[i].nm else false)=(s.f[i].rq && !isHere v s.f[i].nm):=by cases s.f[i].rq<;>simp
  simp only [Option.bind_some,O.lt_int,lt_cast,hi,decide_true,O.cnd_bool,if_true,O.index_list,Int.natCast_nonneg,Int.toNat_natCast,List.getElem?_map,List.getElem?_eq_getElem hi,Option.map_some,SFld.proj0,hw1,calls_6,SFld.proj1,O.not_bool,ite_some,ite_ivbool,pg_member,O.calls_1,pg_then p (fldStp s.f[i].nm) (by omega),pg_add out _ 7 hq (show (p++ [fldStp s.f[i].nm]).length ≤1099511627776 by simp;omega) (by omega),e_F78_4,O.add_int,hw,e]
  cases (s.f[i].rq && !isHere v s.f[i].nm) with
  | true=>
   have h1:=pg_str_3 s v p hv hs hp hl n (i+1) (out++ [errAt (p++ [fldStp s.f[i].nm]) 7]) (by omega) (by simp;omega)
   simp only [if_true,h1,List.append_assoc]
   rfl
  | false=>
   have h1:=pg_str_3 s v p hv hs hp hl n (i+1) out (by omega) (by omega)
   simp only [Bool.false_eq_true,if_false,h1,List.nil_append]
   rfl
theorem pg_sub (s:Sch) (v:Val) (p:List Stp) (hv:v.mass≤1048576) (hs:s.mass≤1048576) (hsb:SB s) (hp: ∀s∈p,s.fits) (hl:p.length+v.mass≤1073741824) (ih: ∀x∈v.f,PgE x.2) (i:Nat) (hi:i<v.f.length) (out:List IV) (hb:out.length+(2+s.mass) * v.f[i].2.size ≤4398046511103) (t:Sch) (ht:subS s v.f[i].1 =some t):
  W F49 0 [.list out,t.enc,v.f[i].2.enc,.list ((p++ [fldStp v.f[i].1]).map Stp.enc)]=some [.list (out++errs v.f[i].2 t (p++ [fldStp v.f[i].1]))]∧(errs v.f[i].2 t (p++ [fldStp v.f[i].1])).length ≤(2+s.mass) * v.f[i].2.size :=by
 have hm:=v.mass_len_f
 have hx:=Val.mass_f (List.getElem_mem hi)
 have hq:=fits_snoc hp (fldStp_fits v.f[i].1 (by omega))
 have htm:=subS_mass ht
 have h2:=errs_len v.f[i].2 t (p++ [fldStp v.f[i].1]) (hsb.sub ht)
 have h5:(2+t.mass) * v.f[i].2.size ≤(2+s.mass) * v.f[i].2.size :=Nat.mul_le_mul (by omega) (Nat.le_refl _)
 exact ⟨ih _ (List.getElem_mem hi) (by omega) t (hsb.sub ht) (by omega) _ out hq (by simp;omega) (by omega),by omega⟩
theorem pg_dict_1 (s t:Sch) (v:Val) (p:List Stp) (hv:v.mass≤1048576) (hs:s.mass≤1048576) (ht:s.it= [t]) (hsb:SB s) (hp: ∀s∈p,s.fits) (hl:p.length+v.mass≤1073741824)
  (ih: ∀x∈v.f,PgE x.2): ∀ (n i:Nat) (out:List IV),i+n=v.f.length→out.length+(2+s.mass) * sizeFs (v.f.drop i)≤4398046511103→
  W F49 1 [.list (p.map Stp.enc),.list (v.f.map Fld.enc),.int v.f.length,.int i,s.enc,.list out]=some [.list (out++errsF (v.f.drop i) s p)]
 | 0,i,out,h,hb=>by
  have h1: ¬ i<v.f.length:=by omega
  rw [e_F49_1,List.drop_of_length_le (by omega),errsF_nil]
  simp only [O.lt_int,lt_cast,h1,decide_false,Option.bind_some,O.cnd_bool,Bool.false_eq_true,if_false,List.append_nil]
 | n+1,i,out,h,hb=>by
  have hi:i<v.f.length:=by omega
  have hm:=v.mass_len_f
  have hw:=next64 (i:=i) (by omega)
  have hd:=List.drop_eq_getElem_cons hi
  rw [hd] at hb ⊢
  rw [errsF_cons]
  simp only [sizeFs,Nat.mul_add] at hb
  have hsub:subS s v.f[i].1 =some t:=by unfold subS;rw [ht]
  have key: ∀es:List IV,es.length≤(2+s.mass) * v.f[i].2.size →W F49 2 [.list (p.map Stp.enc),.list (v.f.map Fld.enc),.int v.f.length,.int i,s.enc,.list (out++es)]=some [.list (out++(es++errsF (v.f.drop (i+1)) s p))]:=by
   intro es hes
   have h4:=pg_dict_1 s t v p hv hs ht hsb hp hl ih n (i+1) (out++es) (by omega) (by rw [List.length_append];omega)
   rw [e_F49_2]
   simp only [O.add_int,hw,Option.bind_some,h4,List.append_assoc]
  obtain ⟨h1,h2⟩:=pg_sub s v p hv hs hsb hp hl ih i hi out (by omega) t hsub
  rw [e_F49_1]
  unfold err1
  rw [hsub]
  simp only [O.lt_int,lt_cast,hi,decide_true,Option.bind_some,O.cnd_bool,if_true,O.index_list,Int.natCast_nonneg,Int.toNat_natCast,List.getElem?_map,List.getElem?_eq_getElem hi,Option.map_some,Fld.proj1,O.ne_int,Sch.proj5,ht,List.map_cons,List.map_nil,Int.le_refl,Int.toNat_zero,List.getElem?_cons_zero,Fld.projV,Fld.proj0,pg_member,O.calls_1,pg_then p (fldStp v.f[i].1) (by omega),h1]
  by_cases hk:v.f[i].2.k =0
  ·simp only [hk,decide_true,Bool.not_true,Bool.false_eq_true,if_false,if_true]
   have:=key [] (by simp)
   simpa using this
  ·simp only [hk,decide_false,Bool.not_false,if_true,if_false]
   exact key _ h2
theorem pg_str_1 (s:Sch) (v:Val) (p:List Stp) (hv:v.mass≤1048576) (hs:s.mass≤1048576) (hk5:s.k=5) (hit:s.it= []) (hsb:SB s) (hp: ∀s∈p,s.fits) (hl:p.length+v.mass≤1073741824)
  (ih: ∀x∈v.f,PgE x.2): ∀ (n i:Nat) (out:List IV),i+n=v.f.length→out.length+s.f.length+(2+s.mass) * sizeFs (v.f.drop i)≤4398046511103→
  W F78 1 [.list (p.map Stp.enc),.list (v.f.map Fld.enc),.int v.f.length,.int i,s.enc,v.enc,.list out]=some [.list (out++errsF (v.f.drop i) s p++s.f.flatMap (miss1 v p))]
 | 0,i,out,h,hb=>by
  have h1: ¬ i<v.f.length:=by omega
  have h3:=pg_str_3 s v p hv hs hp hl s.f.length 0 out (by omega) (by omega)
  simp only [Int.cast_ofNat_Int,List.drop_zero] at h3
  rw [e_F78_1,List.drop_of_length_le (by omega),errsF_nil]
  simp only [O.lt_int,lt_cast,h1,decide_false,Option.bind_some,O.cnd_bool,Bool.false_eq_true,if_false,Sch.proj6,O.len_list,List.length_map,h3,List.append_nil]
 | n+1,i,out,h,hb=>by
  have hi:i<v.f.length:=by omega
  have hm:=v.mass_len_f
  have hw:=next64 (i:=i) (by omega)
  have hx:=Val.mass_f (List.getElem_mem hi)
  have hd:=List.drop_eq_getElem_cons hi
  rw [hd] at hb ⊢
  rw [errsF_cons]
  simp only [sizeFs,Nat.mul_add] at hb
  have hpos:=v.f[i].2.size_pos
  have hone:1≤(2+s.mass) * v.f[i].2.size :=by
   have:1 * 1≤(2+s.mass) * v.f[i].2.size :=Nat.mul_le_mul (by omega) hpos
   omega
  have hq:=fits_snoc hp (fldStp_fits v.f[i].1 (by omega))
  have hsub:subS s v.f[i].1 =(s.fld v.f[i].1).map (·.s):=by unfold subS;rw [hit]
  have key: ∀es:List IV,es.length≤(2+s.mass) * v.f[i].2.size →W F78 2 [.list (p.map Stp.enc),.list (v.f.map Fld.enc),.int v.f.length,.int i,s.enc,v.enc,.list (out++es)]=some [.list (out++(es++errsF (v.f.drop (i+1)) s p)++s.f.flatMap (miss1 v p))]:=by
   intro es hes
   have h4:=pg_str_1 s v p hv hs hk5 hit hsb hp hl ih n (i+1) (out++es) (by omega) (by rw [List.length_append];omega)
   rw [e_F78_2]
   simp only [O.add_int,hw,Option.bind_some,h4,List.append_assoc]
  rw [e_F78_1]
  unfold err1
  simp only [O.lt_int,lt_cast,hi,decide_true,Option.bind_some,O.cnd_bool,if_true,O.index_list,Int.natCast_nonneg,Int.toNat_natCast,List.getElem?_map,List.getElem?_eq_getElem hi,Option.map_some,Fld.proj0,pg_member,O.calls_1,pg_then p (fldStp v.f[i].1) (by omega),pg_field s v.f[i].1 (by omega),O.calls_2,hk5,hit,List.length_nil,and_self,decide_true,Bool.true_and,O.not_bool,Fld.proj1,O.ne_int,Fld.projV,SFld.projS]
  rw [hsub]
  cases hf:s.fld v.f[i].1 with
  | none=>
   simp only [Option.isSome_none,Bool.not_false,if_true,pg_add out _ 1 hq (show (p++ [fldStp v.f[i].1]).length ≤1099511627776 by simp;omega) (by omega),O.calls_1,Option.map_none]
   exact key _ (by simpa using hone)
  | some d=>
   simp only [Option.isSome_some,Bool.not_true,Bool.false_eq_true,if_false,Option.map_some,Option.getD_some]
   by_cases hk:v.f[i].2.k =0
   ·simp only [hk,decide_true,Bool.not_true,Bool.false_eq_true,if_false,if_true]
    have:=key [] (by simp)
    simpa using this
   ·obtain ⟨h1,h2⟩:=pg_sub s v p hv hs hsb hp hl ih i hi out (by omega) d.s (by rw [hsub,hf];rfl)
    simp only [hk,decide_false,Bool.not_false,if_true,if_false,h1,O.calls_1]
    exact key _ h2
theorem pg_check: ∀v:Val,PgE v:=by
 refine Val.ind fun v ih1 ih2 hv s hsb hs p out hp hl hb=>?_
 have hpos:=v.size_pos
 have hone:1≤(2+s.mass) * v.size:=by
  have:1 * 1≤(2+s.mass) * v.size:=Nat.mul_le_mul (by omega) hpos
  omega
 have hat: ∀c,W F50 0 [.list out,.list (p.map Stp.enc),.int c]=some [.list (out++ [errAt p c])]:=fun c=>pg_add out p c hp (by omega) (by omega)
 have hsz:=v.size_eq
 have hlf:=s.mass_len_f
 have hle:=s.mass_len_en
 rw [e_F49_0,errs_eq]
 simp only [Val.proj0,Sch.proj0,Option.bind_some,O.ne_int,O.cnd_bool,hat,O.calls_1]
 by_cases hk:v.k=s.k
 ·simp only [hk,decide_true,Bool.not_true,Bool.false_eq_true,if_false,if_true,O.eq_int,Option.bind_some,O.cnd_bool]
  by_cases k2:s.k=2
  ·simp only [k2,decide_true,if_true,Val.proj1,Sch.proj1,Sch.proj2,O.lt_int,O.gt_int,Option.bind_some,O.cnd_bool,ite_some,ite_ivbool,rngE]
   by_cases c1:v.n<s.mn<;>by_cases c2:s.mx<v.n<;>simp [c1,c2]
  ·by_cases k3:s.k=3
   ·simp only [k3,show ¬ (3:Int)=2 by omega,decide_false,Bool.false_eq_true,if_false,decide_true,if_true,Val.proj2,Sch.proj1,Sch.proj2,Sch.proj3,O.len_list,List.length_map,O.slen_str,O.lt_int,O.gt_int,Option.bind_some,O.cnd_bool,ite_some,ite_ivbool,pg_contains s.en v.s (by omega),O.calls_1,O.not_bool]
    have e:decide ((0:Int)<(s.en.length:Int))=decide (0<s.en.length):=by simp
    rw [e]
    by_cases c1:(v.s.size:Int)<s.mn<;>by_cases c2:s.mx<(v.s.size:Int)<;>by_cases c3:0<s.en.length<;>cases (s.en.any fun e=>decide (e=v.s))<;>simp [c1,c2,c3]
   ·by_cases k4:s.k=4
    ·obtain ⟨t,ht⟩:=List.length_eq_one_iff.1 (hsb.list k4)
     have hb2:(2+s.mass) * (1+sizeVs v.l)≤(2+s.mass) * v.size:=Nat.mul_le_mul (Nat.le_refl _) (by omega)
     rw [Nat.mul_add] at hb2
     have hl1:=rngE_len p s v.l.length
     have h2:=pg_list_2 s t v p hv hs ht hsb hp hl ih1 v.l.length 0 (out++rngE p s v.l.length) [] (by omega) (by simp only [List.drop_zero,List.length_append];omega) (fun k=>rfl)
     simp only [Int.cast_ofNat_Int,List.drop_zero,List.take_zero] at h2
     have h0:W F70 0 [.list out,s.enc,v.enc,.list (p.map Stp.enc)]=some [.list (out++(rngE p s v.l.length++errsL v.l s.key t p []))]:=by
      have h3: ∀o:List IV,o=out++rngE p s v.l.length→W F70 1 [.list (p.map Stp.enc),s.enc,v.enc,.list o]=some [.list (out++(rngE p s v.l.length++errsL v.l s.key t p []))]:=by
       intro o ho
       rw [e_F70_1,ho]
       simp only [Val.proj3,O.len_list,List.length_map,Option.bind_some]
       rw [←List.append_assoc]
       exact h2
      rw [e_F70_0]
      simp only [Val.proj3,Sch.proj1,Sch.proj2,O.len_list,List.length_map,O.lt_int,O.gt_int,Option.bind_some,O.cnd_bool,ite_some,ite_ivbool,hat,O.calls_1]
      by_cases c1:(v.l.length:Int)<s.mn<;>by_cases c2:s.mx<(v.l.length:Int)<;>simp only [c1,c2,decide_true,decide_false,if_true,if_false,Bool.false_eq_true]<;>exact h3 _ (by simp [rngE,c1,c2])
     simp only [k4,show ¬ (4:Int)=2 by omega,show ¬ (4:Int)=3 by omega,decide_false,Bool.false_eq_true,if_false,decide_true,if_true,h0,O.calls_1,ht,List.headD_cons]
    ·by_cases k5:s.k=5
     ·have hb2:(2+s.mass) * (1+sizeFs v.f)≤(2+s.mass) * v.size:=Nat.mul_le_mul (Nat.le_refl _) (by omega)
      rw [Nat.mul_add] at hb2
      simp only [k5,show ¬ (5:Int)=2 by omega,show ¬ (5:Int)=3 by omega,show ¬ (5:Int)=4 by omega,decide_false,Bool.false_eq_true,if_false,decide_true,if_true,pg_dict,O.calls_1,Bool.true_and,O.cnd_bool]
      cases hit:s.it with
      | nil=>
       have h2:=pg_str_1 s v p hv hs k5 hit hsb hp hl ih2 v.f.length 0 out (by omega) (by simp only [List.drop_zero];omega)
       simp only [Int.cast_ofNat_Int,List.drop_zero] at h2
       have h0:W F78 0 [.list out,s.enc,v.enc,.list (p.map Stp.enc)]=some [.list (out++(errsF v.f s p++s.f.flatMap (miss1 v p)))]:=by
        rw [e_F78_0,←List.append_assoc]
        simp only [Val.proj4,O.len_list,List.length_map,Option.bind_some]
        exact h2
       simp only [List.length_nil,Nat.lt_irrefl,decide_false,Bool.false_eq_true,if_false,h0,O.calls_1]
      | cons t r=>
       have hr:r= []:=by have:=hsb.one;rw [hit] at this;simpa using this
       subst hr
       have hnf:=hsb.nof (by rw [hit];simp)
       have h2:=pg_dict_1 s t v p hv hs hit hsb hp hl ih2 v.f.length 0 out (by omega) (by simp only [List.drop_zero];omega)
       simp only [Int.cast_ofNat_Int,List.drop_zero] at h2
       simp only [List.length_cons,Nat.zero_lt_succ,decide_true,if_true,Val.proj4,O.len_list,List.length_map,Option.bind_some,hnf,List.flatMap_nil,List.append_nil]
       exact h2
     ·simp only [k2,k3,k4,k5,decide_false,Bool.false_eq_true,if_false,pg_dict,O.calls_1,Bool.false_and,O.cnd_bool,List.append_nil]
 ·simp only [hk,decide_false,Bool.not_false,if_true,if_false]
theorem pg_errors (v:Val) (hv:v.mass≤1048576) (s:Sch) (hsb:SB s) (hs:s.mass≤1048576):W F48 0 [s.enc,v.enc]=some [.list (errs v s [])]:=by
 have hsm:=v.size_mass
 have hmul:(2+s.mass) * v.size≤1048578 * 1048576:=Nat.mul_le_mul (by omega) (by omega)
 have h:=pg_check v hv s hsb hs [] [] (by simp) (by simp;omega) (by simp;omega)
 simp only [List.map_nil,List.nil_append] at h
 rw [e_F48_0]
 simp only [h,O.calls_1]
end Go.CT.Sch
namespace Go.CT.Sch
open Go.Proofs
def gtPrev (o:Option ByteArray) (x:ByteArray):Bool:=match o with | none=>true | some q=>blt q x
def enOk (mn mx:Int):Option ByteArray→List ByteArray→Bool
 | _,[]=>true
 | o,x::r=>okStr x&&decide (mn≤x.size)&&decide ((x.size:Int)≤mx)&&gtPrev o x&&enOk mn mx (some x) r
def okDf (x:SFld):Bool:=x.df.all fun v=> !decide (v.k=0)&&v.valid&&decide ((errs v x.s []).length =0)
def fOk (g:Sch→Bool):Option ByteArray→List SFld→Bool
 | _,[]=>true
 | o,x::r=>okName x.nm&&gtPrev o x.nm&&g x.s&&decide (x.df.length≤1)&&okDf x&&fOk g (some x.nm) r
def plainB (s:Sch):Bool:=decide (s.key=emptyB)&&decide (s.it.length=0)&&decide (s.f.length=0)
def rngB (s:Sch) (m:Int):Bool:=decide (0≤s.mn)&&decide (s.mn≤s.mx)&&decide (s.mx≤m)
def keyOkB (s:Sch):Bool:=decide (s.key=emptyB)||(match s.it with | t::_=>decide (t.k=5)&&(t.fld s.key).isSome &&((t.fld s.key).getD zeroSF).rq &&decide (((t.fld s.key).getD zeroSF).s.k =3) | []=>false)
def svalid:Nat→Sch→Bool
 | 0,_=>false
 | d+1,s=>
  if s.k=1 then plainB s&&decide (s.mn=0)&&decide (s.mx=0)&&decide (s.en.length=0)
  else if s.k=2 then plainB s&&decide (-1000000000000000≤s.mn)&&decide (s.mn≤s.mx)&&decide (s.mx≤1000000000000000)&&decide (s.en.length=0)
  else if s.k=3 then plainB s&&rngB s 200&&enOk s.mn s.mx none s.en&&decide (s.en.length≤64)
  else if s.k=4 then rngB s 64&&decide (s.en.length=0)&&decide (s.f.length=0)&&decide (s.it.length=1)&&keyOkB s&&s.it.all (svalid d)
  else if s.k=5 then decide (s.mn=0)&&decide (s.mx=0)&&decide (s.en.length=0)&&decide (s.key=emptyB)&&decide (s.it.length≤1)&&(decide (s.it.length=0)||decide (s.f.length=0))&&decide (s.f.length≤64)&&s.it.all (svalid d)&&fOk (svalid d) none s.f
  else false
def valid (s:Sch):Bool:=svalid 12 s
theorem fOk_mem {g:Sch→Bool} : ∀ {l:List SFld} {o:Option ByteArray},fOk g o l=true→ ∀x∈l,okName x.nm=true∧g x.s=true∧x.df.length≤1∧okDf x=true
 | [],_,_,x,hx=>by simp at hx
 | y::r,o,h,x,hx=>by
  simp only [fOk,Bool.and_eq_true,decide_eq_true_eq] at h
  rcases List.mem_cons.1 hx with rfl | hx
  ·exact ⟨h.1.1.1.1.1,h.1.1.1.2,h.1.1.2,h.1.2⟩
  ·exact fOk_mem h.2 x hx
theorem svalid_SB: ∀ (d:Nat) (s:Sch),svalid d s=true→SB s
 | 0,s,h=>by simp [svalid] at h
 | d+1,s,h=>by
  have leaf:s.k≠4→plainB s=true→SB s:=fun h4 h=>by
   simp only [plainB,Bool.and_eq_true,decide_eq_true_eq] at h
   have h1:s.it= []:=List.length_eq_zero_iff.1 h.1.2
   have h2:s.f= []:=List.length_eq_zero_iff.1 h.2
   exact .mk s (by omega) (fun e=>absurd h1 e) (fun e=>absurd e h4) (by simp [h1]) (by simp [h2])
  unfold svalid at h
  split at h
  ·simp only [Bool.and_eq_true] at h;exact leaf (by omega) h.1.1.1
  ·split at h
   ·simp only [Bool.and_eq_true] at h;exact leaf (by omega) h.1.1.1.1
   ·split at h
    ·simp only [Bool.and_eq_true] at h;exact leaf (by omega) h.1.1.1
    ·split at h
     ·simp only [Bool.and_eq_true,decide_eq_true_eq,List.all_eq_true] at h
      have h2:s.f= []:=List.length_eq_zero_iff.1 h.1.1.1.2
      exact .mk s (by omega) (fun _=>h2) (fun _=>h.1.1.2) (fun x hx=>svalid_SB d x (h.2 x hx)) (by simp [h2])
     ·split at h
      ·simp only [Bool.and_eq_true,decide_eq_true_eq,List.all_eq_true,Bool.or_eq_true] at h
       refine .mk s h.1.1.1.1.2 (fun e=>?_) (fun e=>by omega) (fun x hx=>svalid_SB d x (h.1.2 x hx)) (fun p hp=>svalid_SB d p.s (fOk_mem h.2 p hp).2.1)
       rcases h.1.1.1.2 with h1 | h1
       ·exact absurd (List.length_eq_zero_iff.1 h1) e
       ·exact List.length_eq_zero_iff.1 h1
      ·cases h
def prevS (l:List SFld):Nat→Option ByteArray
 | 0=>none
 | i+1=>(l[i]?).map (·.nm)
def prevE (l:List ByteArray):Nat→Option ByteArray
 | 0=>none
 | i+1=>l[i]?
theorem ref_plain (s:Sch):W F124 0 [s.enc]=some [.bool (plainB s)]:=by
 rw [e_F124_0]
 simp only [Sch.proj4,Sch.proj5,Sch.proj6,O.len_list,List.length_map,Option.bind_some,O.sEq_str,O.eq_int,O.cnd_bool,ite_some,ite_ivbool,emptyB_eq]
 congr 3
 unfold plainB
 rw [Bool.eq_iff_iff]
 simp [and_assoc]
theorem ref_text_1 (s:Sch) (hs:s.mass≤1048576): ∀ (n i:Nat),i+n=s.en.length→
  W F125 1 [.int i,s.enc]=some [.bool (enOk s.mn s.mx (prevE s.en i) (s.en.drop i)&&(plainB s&&rngB s 200&&decide (s.en.length≤64)))]
 | 0,i,h=>by
  have h1: ¬ i<s.en.length:=by omega
  rw [e_F125_1,List.drop_of_length_le (by omega)]
  simp only [Sch.proj3,O.len_list,List.length_map,Option.bind_some,O.lt_int,lt_cast,h1,decide_false,O.cnd_bool,Bool.false_eq_true,if_false,ref_plain,O.calls_1,Sch.proj1,Sch.proj2,O.ge_int,O.le_int,ite_some,ite_ivbool]
  congr 3
  unfold rngB enOk
  rw [Bool.eq_iff_iff]
  simp [and_assoc]
  omega
 | n+1,i,h=>by
  have hi:i<s.en.length:=by omega
  have hm:=s.mass_len_en
  have hw:=next64 (i:=i) (by omega)
  have ih:=ref_text_1 s hs n (i+1) (by omega)
  have hx:=Sch.mass_en (List.getElem_mem hi)
  have hpe:prevE s.en (i+1)=some s.en[i]:=by simp [prevE,hi]
  rw [hpe] at ih
  rw [e_F125_1,List.drop_eq_getElem_cons hi]
  simp only [enOk,Sch.proj3,O.len_list,List.length_map,Option.bind_some,O.lt_int,lt_cast,hi,decide_true,O.cnd_bool,if_true,O.index_list,Int.natCast_nonneg,Int.toNat_natCast,List.getElem?_map,List.getElem?_eq_getElem hi,Option.map_some,O.slen_str,ref_str s.en[i] (by omega),O.calls_1,O.not_bool,Sch.proj1,Sch.proj2,O.gt_int,O.add_int,hw,ih]
  generalize (plainB s&&rngB s 200&&decide (s.en.length≤64))=R
  cases i with
  | zero=>
   simp only [prevE,gtPrev]
   by_cases c1:s.mn≤(s.en[0].size :Int)<;>by_cases c2:(s.en[0].size :Int)≤s.mx<;>cases okStr s.en[0]<;>simp [c1,c2,Int.not_lt.2,Int.not_le.1]
  | succ i=>
   have hi':i<s.en.length:=by omega
   have hw2:IntKind.i64.wrap (((i+1:Nat):Int) - 1)=i:=by rw [wrap64 (by omega) (by omega)];omega
   have hp:(0:Int)<((i+1:Nat):Int):=by omega
   simp only [prevE,List.getElem?_eq_getElem hi',gtPrev,O.sub_int,hw2,hp,decide_true,if_true,Int.natCast_nonneg,Int.toNat_natCast,Option.map_some,Option.bind_some,sLe_blt]
   by_cases c1:s.mn≤(s.en[i+1].size :Int)<;>by_cases c2:(s.en[i+1].size :Int)≤s.mx<;>cases okStr s.en[i+1]<;>cases hb:blt s.en[i] s.en[i+1]<;>simp [c1,c2,Int.not_lt.2,Int.not_le.1,List.getElem?_eq_getElem hi',sLe_blt,hb, -O.sLe_str]
theorem ref_struct_1 (d:Nat) (s:Sch) (hd:d≤12) (hs:s.mass≤1048576) (ih: ∀p∈s.f,W F123 0 [p.s.enc,.int d]=some [.bool (svalid d p.s)]): ∀ (n i:Nat),i+n=s.f.length→
  W F129 1 [.int ((d+1:Nat):Int),.int i,s.enc]=some [.bool (fOk (svalid d) (prevS s.f i) (s.f.drop i))]
 | 0,i,h=>by
  have h1: ¬ i<s.f.length:=by omega
  rw [e_F129_1,List.drop_of_length_le (by omega)]
  simp only [Sch.proj6,O.len_list,List.length_map,Option.bind_some,O.lt_int,lt_cast,h1,decide_false,O.cnd_bool,Bool.false_eq_true,if_false,fOk]
 | n+1,i,h=>by
  have hi:i<s.f.length:=by omega
  have hm:=s.mass_len_f
  have hw:=next64 (i:=i) (by omega)
  have hwd:IntKind.i64.wrap (((d+1:Nat):Int) - 1)=(d:Int):=by rw [wrap64 (by omega) (by omega)];omega
  have hx:=Sch.mass_f (List.getElem_mem hi)
  have hrec:=ref_struct_1 d s hd hs ih n (i+1) (by omega)
  have hpe:prevS s.f (i+1)=some s.f[i].nm :=by simp [prevS,hi]
  rw [hpe] at hrec
  have hv:=ih _ (List.getElem_mem hi)
  -- the order
  have hord: ∀ (K:IV→Option IV),((O.gt (.int i) (.int 0)).bind fun x10=>
    (cnd x10 (
      (O.sub .i64 (.int i) (.int 1)).bind fun x11=>
      (O.index (.list (s.f.map SFld.enc)) x11).bind fun x12=>
      (O.proj 0 x12).bind fun x13=>
      (O.sLe (.str s.f[i].nm) x13).bind fun x14=>
      some x14) (some (.bool false))).bind K)=K (.bool (!gtPrev (prevS s.f i) s.f[i].nm)):=by
   intro K
   cases i with
   | zero=>simp [prevS,gtPrev]
   | succ j=>
    have hj:j<s.f.length:=by omega
    have hw2:IntKind.i64.wrap (((j+1:Nat):Int) - 1)=j:=by rw [wrap64 (by omega) (by omega)];omega
    have hp:(0:Int)<((j+1:Nat):Int):=by omega
    simp only [prevS,List.getElem?_eq_getElem hj,Option.map_some,gtPrev,O.gt_int,hp,decide_true,Option.bind_some,O.cnd_bool,if_true,O.sub_int,hw2,O.index_list,Int.natCast_nonneg,Int.toNat_natCast,List.getElem?_map,SFld.proj0,sLe_blt]
  have hix:O.index (.list (s.f.map SFld.enc)) (.int i)=some s.f[i].enc :=by
   simp only [O.index_list,Int.natCast_nonneg,if_true,Int.toNat_natCast,List.getElem?_map,List.getElem?_eq_getElem hi,Option.map_some]
  rw [e_F129_1,List.drop_eq_getElem_cons hi]
  simp only [Sch.proj6,O.len_list,List.length_map,Option.bind_some,O.lt_int,lt_cast,hi,decide_true,O.cnd_bool,if_true,hix,SFld.proj0,fOk,ref_name s.f[i].nm (by omega),O.calls_1,O.not_bool]
  simp only [hord]
  simp only [SFld.proj0,SFld.proj3,SFld.projS,O.calls_1,O.not_bool,O.cnd_bool,O.sub_int,hwd,hv,O.add_int,hw,hrec,O.len_list,List.length_map,O.gt_int,O.eq_int,Option.bind_some]
  cases okName s.f[i].nm with
  | false=>simp
  | true=>
   cases gtPrev (prevS s.f i) s.f[i].nm with
   | false=>simp
   | true=>
    cases hsv:svalid d s.f[i].s with
    | false=>simp
    | true=>
     by_cases hlen:s.f[i].df.length ≤1
     ·have hlen': ¬ (1:Int)<s.f[i].df.length :=by omega
      have hsb:=svalid_SB d _ hsv
      unfold okDf
      by_cases h1:s.f[i].df.length =1
      ·obtain ⟨v,hv1⟩:=List.length_eq_one_iff.1 h1
       have hvm:=Sch.mass_d (List.getElem_mem hi) (show v∈s.f[i].df by rw [hv1];simp)
       have he:=ref_errs v (by omega) s.f[i].s hsb (by omega) [] (by simp) (by simp;omega)
       simp only [List.map_nil] at he
       have hV:=ref_Valid v (by omega)
       rw [hv1]
       by_cases k0:v.k=0
       ·simp [k0]
       ·cases hval:v.valid with
        | false=>simp [k0,hV,hval]
        | true=>
         by_cases hz:(errs v s.f[i].s []).length =0
         ·simp [k0,hV,hval,he,List.length_eq_zero_iff.1 hz]
         ·have hz':0<(errs v s.f[i].s []).length :=Nat.pos_of_ne_zero hz
          have hz2: ¬ errs v s.f[i].s []= []:=fun h=>hz (by rw [h];rfl)
          simp [k0,hV,hval,he,hz',hz2]
      ·have h0:s.f[i].df = []:=List.length_eq_zero_iff.1 (by omega)
       simp [h0]
     ·have hlen':(1:Int)<s.f[i].df.length :=by omega
      simp [hlen',hlen]
theorem egL (mn mx:Int) (a b c:Nat):(if (if (if (if (if decide (mn<0)=true then true else decide (mx<mn))=true then true else decide ((64:Int)<mx))=true then true else decide ((0:Int)<(a:Int)))=true then true else decide ((0:Int)<(b:Int)))=true then true else !decide ((c:Int)=1))= !(decide (0≤mn)&&decide (mn≤mx)&&decide (mx≤64)&&decide (a=0)&&decide (b=0)&&decide (c=1)):=by
 rw [Bool.eq_iff_iff];simp;omega
theorem egS (mn mx:Int) (a b c:Nat) (k:Bool):(if (if (if (if (if (if (!decide (mn=0))=true then true else !decide (mx=0))=true then true else decide ((0:Int)<(a:Int)))=true then true else !k)=true then true else decide ((1:Int)<(b:Int)))=true then true else if decide ((b:Int)=1)=true then decide ((0:Int)<(c:Int)) else false)=true then true else decide ((64:Int)<(c:Int)))
  = !(decide (mn=0)&&decide (mx=0)&&decide (a=0)&&k&&decide (b≤1)&&(decide (b=0)||decide (c=0))&&decide (c≤64)):=by
 cases k
 ·simp
 ·rw [Bool.eq_iff_iff];simp;omega
theorem ref_svalid: ∀ (d:Nat) (s:Sch),d≤12→s.mass≤1048576→W F123 0 [s.enc,.int d]=some [.bool (svalid d s)]
 | 0,s,hd,hs=>by rw [e_F123_0];simp [svalid]
 | d+1,s,hd,hs=>by
  have hd0: ¬ ((d+1:Nat):Int)=0:=by omega
  have hwd:IntKind.i64.wrap (((d+1:Nat):Int) - 1)=(d:Int):=by rw [wrap64 (by omega) (by omega)];omega
  have hit: ∀t∈s.it,W F123 0 [t.enc,.int d]=some [.bool (svalid d t)]:=fun t ht=>ref_svalid d t (by omega) (by have:=Sch.mass_it ht;omega)
  have hif: ∀p∈s.f,W F123 0 [p.s.enc,.int d]=some [.bool (svalid d p.s)]:=fun p hp=>ref_svalid d p.s (by omega) (by have:=Sch.mass_f hp;omega)
  rw [e_F123_0]
  unfold svalid
  simp only [O.eq_int,hd0,decide_false,Option.bind_some,O.cnd_bool,Bool.false_eq_true,if_false,Sch.proj0,Sch.proj1,Sch.proj2,Sch.proj3,ref_plain,O.calls_1,O.le_int,O.len_list,List.length_map]
  by_cases k1:s.k=1
  ·simp only [k1,decide_true,if_true,Option.bind_some,O.cnd_bool,ite_some,ite_ivbool]
   congr 3
   rw [Bool.eq_iff_iff];simp [and_assoc]
  ·by_cases k2:s.k=2
   ·simp only [k2,show ¬ (2:Int)=1 by omega,decide_true,decide_false,Bool.false_eq_true,if_false,if_true,Option.bind_some,O.cnd_bool,ite_some,ite_ivbool]
    congr 3
    rw [Bool.eq_iff_iff];simp [and_assoc]
   ·by_cases k3:s.k=3
    ·have ht:=ref_text_1 s hs s.en.length 0 (by omega)
     simp only [Int.cast_ofNat_Int,List.drop_zero,prevE] at ht
     simp only [k3,show ¬ (3:Int)=1 by omega,show ¬ (3:Int)=2 by omega,decide_true,decide_false,Bool.false_eq_true,if_false,if_true,e_F125_0,ht,O.calls_1]
     congr 3
     generalize enOk s.mn s.mx none s.en=a
     cases a<;>cases plainB s<;>cases rngB s 200<;>simp
    ·by_cases k4:s.k=4
     ·have hl:W F127 0 [s.enc,.int ((d+1:Nat):Int)]=some [.bool (rngB s 64&&decide (s.en.length=0)&&decide (s.f.length=0)&&decide (s.it.length=1)&&keyOkB s&&s.it.all (svalid d))]:=by
       rw [e_F127_0]
       simp only [Sch.proj1,Sch.proj2,Sch.proj3,Sch.proj5,Sch.proj6,O.len_list,List.length_map,Option.bind_some,O.lt_int,O.gt_int,O.ne_int,O.cnd_bool,ite_some,ite_ivbool]
       have eg:(if (if (if (if (if decide (s.mn<0)=true then true else decide (s.mx<s.mn))=true then true else decide ((64:Int)<s.mx))=true then true else decide ((0:Int)<(s.en.length:Int)))=true then true else decide ((0:Int)<(s.f.length:Int)))=true then true else !decide ((s.it.length:Int)=1))= !(rngB s 64&&decide (s.en.length=0)&&decide (s.f.length=0)&&decide (s.it.length=1)):=by
        exact egL s.mn s.mx s.en.length s.f.length s.it.length
       rw [eg]
       cases hg:(rngB s 64&&decide (s.en.length=0)&&decide (s.f.length=0)&&decide (s.it.length=1)) with
       | false=>simp
       | true=>
        simp only [Bool.and_eq_true,decide_eq_true_eq] at hg
        obtain ⟨t,ht⟩:=List.length_eq_one_iff.1 hg.2
        have htm:t∈s.it:=by rw [ht];simp
        have hmt:=Sch.mass_it htm
        have hl1:W F127 1 [.int ((d+1:Nat):Int),s.enc]=some [.bool (svalid d t)]:=by
         rw [e_F127_1]
         simp only [Sch.proj5,ht,List.map_cons,List.map_nil,Option.bind_some,O.index_list,Int.le_refl,if_true,Int.toNat_zero,List.getElem?_cons_zero,O.sub_int,hwd,hit t htm,O.calls_1]
        have hfd:=ref_field t s.key (by omega)
        simp only [Bool.not_true,Bool.false_eq_true,if_false,Sch.proj4,Option.bind_some,O.sNe_str,O.cnd_bool,hl1,ht,List.map_cons,List.map_nil,O.index_list,Int.le_refl,if_true,Int.toNat_zero,List.getElem?_cons_zero,hfd,O.calls_2,Sch.proj0,SFld.proj1,SFld.proj4,O.ne_int,O.not_bool,ite_some,ite_ivbool,List.all_cons,List.all_nil,Bool.and_true,Bool.true_and,keyOkB,emptyB_eq]
        by_cases c:s.key=emptyB
        ·simp [c]
        ·by_cases c2:t.k=5<;>by_cases c3:((t.fld s.key).getD zeroSF).s.k =3<;>cases (t.fld s.key).isSome<;>cases ((t.fld s.key).getD zeroSF).rq<;>simp [c,c2,c3]
      simp only [k4,show ¬ (4:Int)=1 by omega,show ¬ (4:Int)=2 by omega,show ¬ (4:Int)=3 by omega,decide_true,decide_false,Bool.false_eq_true,if_false,if_true,hl,O.calls_1]
     ·by_cases k5:s.k=5
      ·have hst:=ref_struct_1 d s (by omega) hs hif s.f.length 0 (by omega)
       simp only [Int.cast_ofNat_Int,List.drop_zero,prevS] at hst
       have hl:W F129 0 [s.enc,.int ((d+1:Nat):Int)]=some [.bool (decide (s.mn=0)&&decide (s.mx=0)&&decide (s.en.length=0)&&decide (s.key=emptyB)&&decide (s.it.length≤1)&&(decide (s.it.length=0)||decide (s.f.length=0))&&decide (s.f.length≤64)&&s.it.all (svalid d)&&fOk (svalid d) none s.f)]:=by
        rw [e_F129_0]
        simp only [Sch.proj1,Sch.proj2,Sch.proj3,Sch.proj4,Sch.proj5,Sch.proj6,O.len_list,List.length_map,Option.bind_some,O.sNe_str,O.gt_int,O.eq_int,O.ne_int,O.cnd_bool,ite_some,ite_ivbool,emptyB_eq]
        have eg:(if (if (if (if (if (if (!decide (s.mn=0))=true then true else !decide (s.mx=0))=true then true else decide ((0:Int)<(s.en.length:Int)))=true then true else !decide (s.key=emptyB))=true then true else decide ((1:Int)<(s.it.length:Int)))=true then true else if decide ((s.it.length:Int)=1)=true then decide ((0:Int)<(s.f.length:Int)) else false)=true then true else decide ((64:Int)<(s.f.length:Int)))
          = !(decide (s.mn=0)&&decide (s.mx=0)&&decide (s.en.length=0)&&decide (s.key=emptyB)&&decide (s.it.length≤1)&&(decide (s.it.length=0)||decide (s.f.length=0))&&decide (s.f.length≤64)):=by
         exact egS s.mn s.mx s.en.length s.it.length s.f.length _
        rw [eg]
        cases hg:(decide (s.mn=0)&&decide (s.mx=0)&&decide (s.en.length=0)&&decide (s.key=emptyB)&&decide (s.it.length≤1)&&(decide (s.it.length=0)||decide (s.f.length=0))&&decide (s.f.length≤64)) with
        | false=>simp
        | true=>
         simp only [Bool.and_eq_true,Bool.or_eq_true,decide_eq_true_eq] at hg
         by_cases h1:s.it.length=1
         ·obtain ⟨t,ht⟩:=List.length_eq_one_iff.1 h1
          have hf:s.f= []:=by
           rcases hg.1.2 with h | h
           ·omega
           ·exact List.length_eq_zero_iff.1 h
          have hh:=hit t (by rw [ht];simp)
          have hwd2:IntKind.i64.wrap (d:Int)=(d:Int):=wrap64 (by omega) (by omega)
          simp [ht,hf,hwd2,hh,fOk]
         ·have h0:s.it= []:=List.length_eq_zero_iff.1 (by omega)
          push_cast at hst
          simp [h0,hst]
       simp only [k5,show ¬ (5:Int)=1 by omega,show ¬ (5:Int)=2 by omega,show ¬ (5:Int)=3 by omega,show ¬ (5:Int)=4 by omega,decide_true,decide_false,Bool.false_eq_true,if_false,if_true,hl,O.calls_1]
      ·simp only [k1,k2,k3,k4,k5,decide_false,Bool.false_eq_true,if_false]
theorem ref_Svalid (s:Sch) (hs:s.mass≤1048576):W F122 0 [s.enc]=some [.bool s.valid]:=by
 rw [e_F122_0]
 have:W F123 0 [s.enc,.int 12]=some [.bool s.valid]:=ref_svalid 12 s (by omega) hs
 simp only [this,O.calls_1]
end Go.CT.Sch
namespace Go.CT.Sch
open Go.Proofs
theorem named_valid (nm:ByteArray):(mapV [(nm,zeroVal)]).valid =okName nm:=by
 have h1:mapL [(nm,zeroVal)]= [(nm,zeroVal)]:=mapL_id (List.pairwise_singleton _ _)
 unfold mapV
 rw [h1]
 unfold Val.valid
 have h2:validD 11 zeroVal=true:=by decide
 simp only [validD,Val.k_mk,Val.n_mk,Val.s_mk,Val.l_mk,Val.f_mk,okScalar,List.all_cons,List.all_nil,h2,rising,Val.size,sizeVs,sizeFs,zeroVal]
 simp
theorem pg_named (nm:ByteArray) (hn:nm.size≤1048576) (K:IV→Option (List IV)):(O.mkagg [.str nm,(.int 0),(.int 0),(.str ⟨#[]⟩),(.list []),(.list [])]).bind (fun x8=>
  (O.mklist [x8]).bind fun x9=>
  calls (W F34 0 [x9]) 5 fun x10 x11 x12 x13 x14=>
  (O.mkagg [x10,x11,x12,x13,x14]).bind fun x15=>
  calls (W F19 0 [x15]) 1 K)=K (.bool (okName nm)):=by
 have e:IV.agg [.str nm,(.int 0),(.int 0),(.str ⟨#[]⟩),(.list []),(.list [])]=Fld.enc (nm,zeroVal):=rfl
 have hmass:massFs [(nm,zeroVal)]≤4294967200:=by
  rw [massFs_cons,massFs_nil,Val.mass_eq]
  simp only [zeroVal,Val.s_mk,Val.l_mk,Val.f_mk,massVs_nil,massFs_nil,show emptyB.size=0 from rfl];omega
 have h1:=val_map [(nm,zeroVal)] hmass
 have h2:(mapV [(nm,zeroVal)]).mass ≤1099511627776:=by have:=mapV_mass [(nm,zeroVal)];omega
 have h3:=pv_Valid _ h2
 rw [named_valid] at h3
 rw [Val.comps_eq] at h1
 simp only [List.map_cons,List.map_nil] at h1
 simp only [O.mkagg_eq,O.mklist_eq,Option.bind_some,e,h1,O.calls_5,Val.fold_eta,h3,O.calls_1]
theorem pg_bounded (s:Sch) (m:Int):W F16 0 [s.enc,.int m]=some [.bool (rngB s m)]:=by
 rw [e_F16_0]
 simp only [Sch.proj1,Sch.proj2,O.le_int,Option.bind_some,O.cnd_bool,ite_some,ite_ivbool]
 congr 3
 unfold rngB
 rw [Bool.eq_iff_iff];simp [and_assoc]
theorem pg_enum_1 (s:Sch) (hs:s.mass≤1048576): ∀ (n i:Nat),i+n=s.en.length→
  W F17 1 [.list (s.en.map .str),.int s.en.length,.int i,s.enc]=some [.bool (enOk s.mn s.mx (prevE s.en i) (s.en.drop i)&&decide (s.en.length≤64))]
 | 0,i,h=>by
  have h1: ¬ i<s.en.length:=by omega
  rw [e_F17_1,List.drop_of_length_le (by omega)]
  simp only [Sch.proj3,O.len_list,List.length_map,Option.bind_some,O.lt_int,lt_cast,h1,decide_false,O.cnd_bool,Bool.false_eq_true,if_false,O.le_int,enOk,Bool.true_and]
  congr 3
  rw [Bool.eq_iff_iff];simp;omega
 | n+1,i,h=>by
  have hi:i<s.en.length:=by omega
  have hm:=s.mass_len_en
  have hw:=next64 (i:=i) (by omega)
  have ih:=pg_enum_1 s hs n (i+1) (by omega)
  have hx:=Sch.mass_en (List.getElem_mem hi)
  have hpe:prevE s.en (i+1)=some s.en[i]:=by simp [prevE,hi]
  rw [hpe] at ih
  have e:IV.agg [.int 3,.int 0,.str s.en[i],.list [],.list []]=Val.enc ⟨3,0,s.en[i],[],[]⟩:=rfl
  have hv:=pv_Valid ⟨3,0,s.en[i],[],[]⟩ (by rw [Val.mass_eq];simp [massVs_nil,massFs_nil];omega)
  rw [str_valid] at hv
  have hix:O.index (.list (s.en.map .str)) (.int i)=some (.str s.en[i]):=by
   simp only [O.index_list,Int.natCast_nonneg,if_true,Int.toNat_natCast,List.getElem?_map,List.getElem?_eq_getElem hi,Option.map_some]
  have hord: ∀ (K:IV→Option IV),((O.gt (.int i) (.int 0)).bind fun x10=>
    (cnd x10 (
      (O.proj 3 s.enc).bind fun x11=>
      (O.sub .i64 (.int i) (.int 1)).bind fun x12=>
      (O.index x11 x12).bind fun x13=>
      (O.sGe x13 (.str s.en[i])).bind fun x14=>
      some x14) (some (.bool false))).bind K)=K (.bool (!gtPrev (prevE s.en i) s.en[i])):=by
   intro K
   cases i with
   | zero=>simp [prevE,gtPrev]
   | succ j=>
    have hj:j<s.en.length:=by omega
    have hw2:IntKind.i64.wrap (((j+1:Nat):Int) - 1)=j:=by rw [wrap64 (by omega) (by omega)];omega
    have hp:(0:Int)<((j+1:Nat):Int):=by omega
    simp only [Sch.proj3,prevE,List.getElem?_eq_getElem hj,Option.map_some,gtPrev,O.gt_int,hp,decide_true,Option.bind_some,O.cnd_bool,if_true,O.sub_int,hw2,O.index_list,Int.natCast_nonneg,Int.toNat_natCast,List.getElem?_map,sGe_blt]
  rw [e_F17_1,List.drop_eq_getElem_cons hi]
  simp only [enOk,Option.bind_some,O.lt_int,lt_cast,hi,decide_true,O.cnd_bool,if_true,hix]
  simp only [hord]
  simp only [O.slen_str,Sch.proj1,Sch.proj2,Option.bind_some,O.lt_int,O.gt_int,O.cnd_bool,e_F18_0,O.calls_5,O.mkagg_eq,e,hv,O.calls_1,O.not_bool,O.add_int,hw,ih]
  by_cases c1:s.mn≤(s.en[i].size :Int)<;>by_cases c2:(s.en[i].size :Int)≤s.mx<;>cases okStr s.en[i]<;>cases gtPrev (prevE s.en i) s.en[i]<;>simp [c1,c2,Int.not_lt.2,Int.not_le.1]
theorem pg_enum (s:Sch) (hs:s.mass≤1048576):W F17 0 [s.enc]=some [.bool (enOk s.mn s.mx none s.en&&decide (s.en.length≤64))]:=by
 have h:=pg_enum_1 s hs s.en.length 0 (by omega)
 simp only [Int.cast_ofNat_Int,List.drop_zero,prevE] at h
 rw [e_F17_0]
 simp only [Sch.proj3,O.len_list,List.length_map,Option.bind_some]
 exact h
theorem pg_keyed (s t:Sch) (hs:s.mass≤1048576) (ht:s.it= [t]) (hsb:SB t):W F25 0 [s.enc]=some [.bool (keyOkB s)]:=by
 have hmt:=Sch.mass_it (show t∈s.it by rw [ht];simp)
 have hfd:=pg_field t s.key (by omega)
 rw [e_F25_0]
 unfold keyOkB
 simp only [Sch.proj5,ht,List.map_cons,List.map_nil,O.index_list,Int.le_refl,if_true,Int.toNat_zero,List.getElem?_cons_zero,Option.bind_some,Sch.proj4,hfd,O.calls_2,O.sEq_str,O.cnd_bool,SFld.proj1,SFld.proj4,O.eq_int,ite_some,ite_ivbool,emptyB_eq]
 congr 3
 by_cases c:s.key=emptyB
 ·simp [c]
 ·by_cases c2:t.k=5
  ·by_cases c3:t.it.length=0
   ·cases (t.fld s.key).isSome<;>cases hrq:((t.fld s.key).getD zeroSF).rq<;>simp [c,c2,c3,hrq]
   ·have hnf:t.f= []:=hsb.nof fun e=>c3 (by rw [e];rfl)
    have hfl:t.fld s.key=none:=by unfold Sch.fld;rw [hnf];rfl
    simp [c,c2,c3,hfl]
  ·simp [c,c2]
theorem pg_fields_2 (d:Nat) (s:Sch) (hd:d≤12) (hs:s.mass≤1048576) (i:Nat) (hi:i<s.f.length) (hsb:SB s.f[i].s): ∀ (n j:Nat),j+n=s.f[i].df.length →
  W F33 2 [.int d,.list (s.f.map SFld.enc),.int s.f.length,.int i,.list (s.f[i].df.map Val.enc),.int s.f[i].df.length,.int j,s.enc,s.f[i].enc]
   =if ((s.f[i].df.drop j).all fun v=> !decide (v.k=0)&&v.valid&&decide ((errs v s.f[i].s []).length =0))=true then W F33 1 [.int d,.list (s.f.map SFld.enc),.int s.f.length,.int ((i+1:Nat):Int),s.enc] else some [.bool false]
 | 0,j,h=>by
  have h1: ¬ j<s.f[i].df.length :=by omega
  have hm:=s.mass_len_f
  have hw:=next64 (i:=i) (by omega)
  rw [e_F33_2,List.drop_of_length_le (by omega)]
  simp only [O.lt_int,lt_cast,h1,decide_false,Option.bind_some,O.cnd_bool,Bool.false_eq_true,if_false,O.add_int,hw,List.all_nil,if_true]
 | n+1,j,h=>by
  have hj:j<s.f[i].df.length :=by omega
  have hm:=Sch.mass_f (List.getElem_mem hi)
  have hl:=bulk_mem (List.mem_map_of_mem (f:=Val.enc) (List.getElem_mem hj))
  have hvm:=Sch.mass_d (List.getElem_mem hi) (List.getElem_mem hj)
  have hlen:s.f[i].df.length ≤massVs s.f[i].df :=by have:=length_le_bulks (s.f[i].df.map Val.enc);rw [List.length_map] at this;exact this
  have hw:=next64 (i:=j) (by omega)
  have ih:=pg_fields_2 d s hd hs i hi hsb n (j+1) (by omega)
  have hV:=pv_Valid s.f[i].df[j] (by omega)
  have he:=pg_errors s.f[i].df[j] (by omega) s.f[i].s hsb (by omega)
  rw [e_F33_2,List.drop_eq_getElem_cons hj,List.all_cons]
  simp only [O.lt_int,lt_cast,hj,decide_true,Option.bind_some,O.cnd_bool,if_true,O.index_list,Int.natCast_nonneg,Int.toNat_natCast,List.getElem?_map,List.getElem?_eq_getElem hj,Option.map_some,Val.proj0,O.eq_int,hV,O.calls_1,O.not_bool,SFld.projS,he,O.len_list,O.gt_int,O.add_int,hw,ih]
  by_cases k0:s.f[i].df[j].k =0
  ·simp [k0]
  ·cases hval:s.f[i].df[j].valid with
   | false=>simp [k0]
   | true=>
    by_cases hz:(errs s.f[i].df[j] s.f[i].s []).length =0
    ·simp [k0,List.length_eq_zero_iff.1 hz]
    ·have hz':0<(errs s.f[i].df[j] s.f[i].s []).length :=Nat.pos_of_ne_zero hz
     have hz2: ¬ errs s.f[i].df[j] s.f[i].s []= []:=fun h=>hz (by rw [h];rfl)
     simp [k0,hz',hz2]
theorem pg_fields_1 (d:Nat) (s:Sch) (hd:d≤12) (hs:s.mass≤1048576) (ih: ∀p∈s.f,W F15 0 [p.s.enc,.int d]=some [.bool (svalid d p.s)]): ∀ (n i:Nat),i+n=s.f.length→
  W F33 1 [.int d,.list (s.f.map SFld.enc),.int s.f.length,.int i,s.enc]=some [.bool (fOk (svalid d) (prevS s.f i) (s.f.drop i))]
 | 0,i,h=>by
  have h1: ¬ i<s.f.length:=by omega
  rw [e_F33_1,List.drop_of_length_le (by omega)]
  simp only [O.lt_int,lt_cast,h1,decide_false,Option.bind_some,O.cnd_bool,Bool.false_eq_true,if_false,fOk]
 | n+1,i,h=>by
  have hi:i<s.f.length:=by omega
  have hm:=s.mass_len_f
  have hx:=Sch.mass_f (List.getElem_mem hi)
  have hrec:=pg_fields_1 d s hd hs ih n (i+1) (by omega)
  have hpe:prevS s.f (i+1)=some s.f[i].nm :=by simp [prevS,hi]
  rw [hpe] at hrec
  have hv:=ih _ (List.getElem_mem hi)
  have hix:O.index (.list (s.f.map SFld.enc)) (.int i)=some s.f[i].enc :=by
   simp only [O.index_list,Int.natCast_nonneg,if_true,Int.toNat_natCast,List.getElem?_map,List.getElem?_eq_getElem hi,Option.map_some]
  have hord: ∀ (K:IV→Option IV),((O.gt (.int i) (.int 0)).bind fun x18=>
    (cnd x18 (
      (O.proj 6 s.enc).bind fun x19=>
      (O.sub .i64 (.int i) (.int 1)).bind fun x20=>
      (O.index x19 x20).bind fun x21=>
      (O.proj 0 x21).bind fun x22=>
      (O.sGe x22 (.str s.f[i].nm)).bind fun x23=>
      some x23) (some (.bool false))).bind K)=K (.bool (!gtPrev (prevS s.f i) s.f[i].nm)):=by
   intro K
   cases i with
   | zero=>simp [prevS,gtPrev]
   | succ j=>
    have hj:j<s.f.length:=by omega
    have hw2:IntKind.i64.wrap (((j+1:Nat):Int) - 1)=j:=by rw [wrap64 (by omega) (by omega)];omega
    have hp:(0:Int)<((j+1:Nat):Int):=by omega
    simp only [Sch.proj6,prevS,List.getElem?_eq_getElem hj,Option.map_some,gtPrev,O.gt_int,hp,decide_true,Option.bind_some,O.cnd_bool,if_true,O.sub_int,hw2,O.index_list,Int.natCast_nonneg,Int.toNat_natCast,List.getElem?_map,SFld.proj0,sGe_blt]
  rw [e_F33_1,List.drop_eq_getElem_cons hi]
  simp only [O.lt_int,lt_cast,hi,decide_true,Option.bind_some,O.cnd_bool,if_true,hix,SFld.proj0,fOk]
  rw [pg_named s.f[i].nm (by omega)]
  simp only [O.not_bool,Option.bind_some]
  simp only [hord]
  simp only [SFld.proj3,SFld.projS,O.calls_1,O.not_bool,O.cnd_bool,hv,O.len_list,List.length_map,O.gt_int,Option.bind_some]
  cases okName s.f[i].nm with
  | false=>simp
  | true=>
   cases gtPrev (prevS s.f i) s.f[i].nm with
   | false=>simp
   | true=>
    cases hsv:svalid d s.f[i].s with
    | false=>simp
    | true=>
     by_cases hlen:s.f[i].df.length ≤1
     ·have hlen': ¬ (1:Int)<s.f[i].df.length :=by omega
      have h2:=pg_fields_2 d s hd hs i hi (svalid_SB d _ hsv) s.f[i].df.length 0 (by omega)
      simp only [Int.cast_ofNat_Int,List.drop_zero,hrec] at h2
      simp only [Bool.not_true,Bool.false_eq_true,if_false,hlen',decide_false,Option.bind_some,O.cnd_bool,h2,okDf,hlen,decide_true,Bool.true_and]
      cases (s.f[i].df.all fun v=> !decide (v.k=0)&&v.valid&&decide ((errs v s.f[i].s []).length =0))<;>simp
     ·have hlen':(1:Int)<s.f[i].df.length :=by omega
      simp [hlen',hlen]
theorem pg_items (d:Nat) (s:Sch) (hd:d≤12) (hs:s.mass≤1048576) (hl:s.it.length≤1) (ih: ∀t∈s.it,W F15 0 [t.enc,.int d]=some [.bool (svalid d t)]):
  W F30 0 [.list (s.it.map Sch.enc),.int ((d+1:Nat):Int)]=some [.bool (!s.it.all (svalid d))]:=by
 have hwd:IntKind.i64.wrap (((d+1:Nat):Int) - 1)=(d:Int):=by rw [wrap64 (by omega) (by omega)];omega
 rw [e_F30_0,e_F31_0]
 cases hit:s.it with
 | nil=>
  simp only [List.map_nil,O.len_list,List.length_nil,Option.bind_some,Int.cast_ofNat_Int]
  rw [e_F31_1]
  simp
 | cons t r=>
  have hr:r= []:=by rw [hit] at hl;simpa using hl
  subst hr
  have h1:=ih t (by rw [hit];simp)
  have h2:W F32 0 [t.enc,.int ((d+1:Nat):Int)]=some [.bool (!svalid d t)]:=by
   rw [e_F32_0]
   simp only [O.sub_int,hwd,Option.bind_some,h1,O.calls_1,O.not_bool]
  have h3:IntKind.i64.wrap (0+1)=1:=by decide
  simp only [List.map_cons,List.map_nil,O.len_list,List.length_cons,List.length_nil,Nat.zero_add,Int.cast_ofNat_Int,Option.bind_some]
  rw [e_F31_1]
  simp only [O.lt_int,show (0:Int)<1 by omega,decide_true,Option.bind_some,O.cnd_bool,if_true,O.index_list,Int.le_refl,Int.toNat_zero,List.getElem?_cons_zero,h2,O.calls_1,O.add_int,h3]
  cases hsv:svalid d t with
  | true=>
   simp only [Bool.not_true,Bool.false_eq_true,if_false]
   rw [e_F31_1]
   simp [hsv]
  | false=>simp [hsv]
theorem egP (k:Int) (a b c:Nat) (e:Bool):(if (if (if (if (!decide (k=3))=true then decide ((0:Int)<(a:Int)) else false)=true then true else if (!decide (k=4))=true then !e else false)=true then true else if (!decide (k=5))=true then decide ((0:Int)<(b:Int)) else false)=true then true else if (if (!decide (k=5))=true then !decide (k=4) else false)=true then decide ((0:Int)<(c:Int)) else false)
  = !(decide (k=3∨a=0)&&(decide (k=4)||e)&&decide (k=5∨b=0)&&decide (k=5∨k=4∨c=0)):=by
 cases e
 ·by_cases k4:k=4
  ·rw [Bool.eq_iff_iff];simp [k4];omega
  ·simp [k4]
 ·rw [Bool.eq_iff_iff];simp;omega
theorem egM (mn mx:Int) (b c:Nat):(if (if (if (if (!decide (mn=0))=true then true else !decide (mx=0))=true then true else decide ((1:Int)<(b:Int)))=true then true else if decide ((b:Int)=1)=true then decide ((0:Int)<(c:Int)) else false)=true then true else decide ((64:Int)<(c:Int)))
  = !(decide (mn=0)&&decide (mx=0)&&decide (b≤1)&&(decide (b=0)||decide (c=0))&&decide (c≤64)):=by
 rw [Bool.eq_iff_iff];simp;omega
theorem pg_svalid: ∀ (d:Nat) (s:Sch),d≤12→s.mass≤1048576→W F15 0 [s.enc,.int d]=some [.bool (svalid d s)]
 | 0,s,hd,hs=>by rw [e_F15_0];simp [svalid]
 | d+1,s,hd,hs=>by
  have hd0: ¬ ((d+1:Nat):Int)=0:=by omega
  have hwd:IntKind.i64.wrap (((d+1:Nat):Int) - 1)=(d:Int):=by rw [wrap64 (by omega) (by omega)];omega
  have hit: ∀t∈s.it,W F15 0 [t.enc,.int d]=some [.bool (svalid d t)]:=fun t ht=>pg_svalid d t (by omega) (by have:=Sch.mass_it ht;omega)
  have hif: ∀p∈s.f,W F15 0 [p.s.enc,.int d]=some [.bool (svalid d p.s)]:=fun p hp=>pg_svalid d p.s (by omega) (by have:=Sch.mass_f hp;omega)
  have hfs:=pg_fields_1 d s (by omega) hs hif s.f.length 0 (by omega)
  simp only [Int.cast_ofNat_Int,List.drop_zero,prevS] at hfs
  have hfs':W F33 0 [s.enc,.int d]=some [.bool (fOk (svalid d) none s.f)]:=by
   rw [e_F33_0]
   simp only [Sch.proj6,O.len_list,List.length_map,Option.bind_some]
   exact hfs
  rw [e_F15_0]
  unfold svalid
  simp only [O.eq_int,O.ne_int,hd0,decide_false,Option.bind_some,O.cnd_bool,Bool.false_eq_true,if_false,Sch.proj0,Sch.proj3,Sch.proj4,Sch.proj5,Sch.proj6,O.len_list,List.length_map,O.gt_int,O.sNe_str,ite_some,ite_ivbool,emptyB_eq,egP]
  cases hg:(decide (s.k=3∨s.en.length=0)&&(decide (s.k=4)||decide (s.key=emptyB))&&decide (s.k=5∨s.f.length=0)&&decide (s.k=5∨s.k=4∨s.it.length=0)) with
  | false=>
   simp only [Bool.not_false,if_true]
   by_cases k1:s.k=1
   ·simp only [k1,if_true,plainB]
    simp [k1] at hg
    congr 3
    rw [eq_comm,Bool.eq_false_iff]
    intro h
    simp at h
    simp [h] at hg
   ·by_cases k2:s.k=2
    ·simp only [k2,show ¬ (2:Int)=1 by omega,if_false,if_true,plainB]
     simp [k2] at hg
     congr 3
     rw [eq_comm,Bool.eq_false_iff]
     intro h
     simp at h
     simp [h] at hg
    ·by_cases k3:s.k=3
     ·simp only [k3,show ¬ (3:Int)=1 by omega,show ¬ (3:Int)=2 by omega,if_false,if_true,plainB]
      simp [k3] at hg
      congr 3
      rw [eq_comm,Bool.eq_false_iff]
      intro h
      simp at h
      simp [h] at hg
     ·by_cases k4:s.k=4
      ·simp only [k4,show ¬ (4:Int)=1 by omega,show ¬ (4:Int)=2 by omega,show ¬ (4:Int)=3 by omega,if_false,if_true]
       simp [k4] at hg
       congr 3
       rw [eq_comm,Bool.eq_false_iff]
       intro h
       simp at h
       simp [h] at hg
      ·by_cases k5:s.k=5
       ·simp only [k5,show ¬ (5:Int)=1 by omega,show ¬ (5:Int)=2 by omega,show ¬ (5:Int)=3 by omega,show ¬ (5:Int)=4 by omega,if_false,if_true]
        simp [k5] at hg
        congr 3
        rw [eq_comm,Bool.eq_false_iff]
        intro h
        simp at h
        simp [h] at hg
       ·simp [k1,k2,k3,k4,k5]
  | true=>
   simp only [Bool.and_eq_true,Bool.or_eq_true,decide_eq_true_eq] at hg
   obtain ⟨⟨⟨g1,g2⟩,g3⟩,g4⟩:=hg
   simp only [Bool.not_true,Bool.false_eq_true,if_false,Sch.proj1,Sch.proj2,Option.bind_some,O.eq_int,O.le_int,O.ne_int,O.cnd_bool,pg_bounded,pg_enum s hs,O.calls_1,ite_some,ite_ivbool]
   by_cases k1:s.k=1
   ·simp only [k1,decide_true,if_true,plainB]
    rcases g1 with g1 | g1
    ·omega
    ·rcases g2 with g2 | g2
     ·omega
     ·rcases g3 with g3 | g3
      ·omega
      ·rcases g4 with g4 | g4 | g4
       ·omega
       ·omega
       ·simp only [g1,g2,g3,g4,decide_true,Bool.true_and,Bool.and_true]
        congr 3
        rw [Bool.eq_iff_iff];simp
   ·by_cases k2:s.k=2
    ·simp only [k2,show ¬ (2:Int)=1 by omega,decide_false,Bool.false_eq_true,if_false,decide_true,if_true,plainB]
     rcases g1 with g1 | g1
     ·omega
     ·rcases g2 with g2 | g2
      ·omega
      ·rcases g3 with g3 | g3
       ·omega
       ·rcases g4 with g4 | g4 | g4
        ·omega
        ·omega
        ·simp only [g1,g2,g3,g4,decide_true,Bool.true_and,Bool.and_true]
         congr 3
         rw [Bool.eq_iff_iff];simp [and_assoc]
    ·by_cases k3:s.k=3
     ·simp only [k3,show ¬ (3:Int)=1 by omega,show ¬ (3:Int)=2 by omega,decide_false,Bool.false_eq_true,if_false,decide_true,if_true,plainB]
      rcases g2 with g2 | g2
      ·omega
      ·rcases g3 with g3 | g3
       ·omega
       ·rcases g4 with g4 | g4 | g4
        ·omega
        ·omega
        ·simp only [g2,g3,g4,decide_true,Bool.true_and,Bool.and_true]
         cases rngB s 200<;>simp
     ·by_cases k4:s.k=4
      ·have g1':s.en.length=0:=by rcases g1 with h | h;exact absurd h k3;exact h
       have g3':s.f.length=0:=by rcases g3 with h | h;exact absurd h (by omega);exact h
       simp only [k4,show ¬ (4:Int)=1 by omega,show ¬ (4:Int)=2 by omega,show ¬ (4:Int)=3 by omega,decide_false,Bool.false_eq_true,if_false,decide_true,if_true,g1',g3',Bool.and_true]
       cases rngB s 64 with
       | false=>simp
       | true=>
        by_cases h1:s.it.length=1
        ·obtain ⟨t,ht⟩:=List.length_eq_one_iff.1 h1
         have h2:=hit t (by rw [ht];simp)
         have h1':(s.it.length:Int)=1:=by omega
         simp only [if_true,h1',decide_true,ht,List.map_cons,List.map_nil,O.index_list,Int.le_refl,Int.toNat_zero,List.getElem?_cons_zero,Option.bind_some,O.sub_int,hwd,h2,O.calls_1,O.cnd_bool,List.all_cons,List.all_nil,Bool.and_true,Bool.true_and,List.length_cons,List.length_nil]
         cases hsv:svalid d t with
         | false=>simp
         | true=>
          have hk:=pg_keyed s t hs ht (svalid_SB d t hsv)
          simp [hk]
        ·have h1': ¬ (s.it.length:Int)=1:=by omega
         simp [h1,h1']
      ·by_cases k5:s.k=5
       ·have g1':s.en.length=0:=by rcases g1 with h | h;exact absurd h k3;exact h
        have g2':s.key=emptyB:=by rcases g2 with h | h;exact absurd h k4;exact h
        simp only [k5,show ¬ (5:Int)=1 by omega,show ¬ (5:Int)=2 by omega,show ¬ (5:Int)=3 by omega,show ¬ (5:Int)=4 by omega,decide_false,Bool.false_eq_true,if_false,decide_true,if_true,g1',g2',Bool.and_true]
        have eg:=egM s.mn s.mx s.it.length s.f.length
        rw [eg]
        cases hg5:(decide (s.mn=0)&&decide (s.mx=0)&&decide (s.it.length≤1)&&(decide (s.it.length=0)||decide (s.f.length=0))&&decide (s.f.length≤64)) with
        | false=>simp
        | true=>
         simp only [Bool.and_eq_true,Bool.or_eq_true,decide_eq_true_eq] at hg5
         have h2:=pg_items d s (by omega) hs hg5.1.1.2 hit
         simp only [Bool.not_true,Bool.false_eq_true,if_false,h2,O.calls_1,O.not_bool,Bool.not_not,Option.bind_some,O.cnd_bool,O.sub_int,hwd,hfs',ite_some,ite_ivbool,Bool.true_and]
         cases s.it.all (svalid d)<;>simp
       ·simp only [k1,k2,k3,k4,k5,decide_false,Bool.false_eq_true,if_false]
theorem pg_Svalid (s:Sch) (hs:s.mass≤1048576):W F14 0 [s.enc]=some [.bool s.valid]:=by
 rw [e_F14_0]
 have:W F15 0 [s.enc,.int 12]=some [.bool s.valid]:=pg_svalid 12 s (by omega) hs
 simp only [this,O.calls_1]
end Go.CT.Sch
namespace Go.CT.Sch
open Go.Proofs
theorem validD_succ (d:Nat) (v:Val):validD (d+1) v=true↔okScalar v=true∧(v.l.length≤64∧v.f.length≤64∧(v.k≠4→v.l= [])∧(v.k≠5→v.f= []))∧(∀x∈v.l,validD d x=true)∧(∀p∈v.f,okName p.1=true∧validD d p.2=true)∧rising v.f=true:=by
 rw [validD]
 simp only [Bool.and_eq_true,List.all_eq_true,decide_eq_true_eq]
 constructor
 ·rintro ⟨⟨⟨⟨a,b⟩,c⟩,d⟩,e⟩;exact ⟨a,b,c,d,e⟩
 ·rintro ⟨a,b,c,d,e⟩;exact ⟨⟨⟨⟨a,b⟩,c⟩,d⟩,e⟩
theorem validD_mono: ∀ (d:Nat) (v:Val),validD d v=true→validD (d+1) v=true
 | 0,v,h=>by simp [validD] at h
 | d+1,v,h=>by
  rw [validD_succ] at h ⊢
  exact ⟨h.1,h.2.1,fun x hx=>validD_mono d x (h.2.2.1 x hx),fun p hp=>⟨(h.2.2.2.1 p hp).1,validD_mono d p.2 (h.2.2.2.1 p hp).2⟩,h.2.2.2.2⟩
theorem valid_iff (v:Val):v.valid=true↔validD 12 v=true∧v.size≤600:=by
 unfold Val.valid;simp only [Bool.and_eq_true,decide_eq_true_eq]
theorem valid_l {v x:Val} (h:v.valid=true) (hx:x∈v.l):x.valid=true:=by
 rw [valid_iff] at h ⊢
 have h1:=(validD_succ 11 v).1 h.1
 have:=Val.size_l hx
 exact ⟨validD_mono 11 x (h1.2.2.1 x hx),by omega⟩
theorem valid_f {v:Val} {p:ByteArray × Val} (h:v.valid=true) (hp:p∈v.f):p.2.valid=true∧okName p.1=true:=by
 rw [valid_iff] at h ⊢
 have h1:=(validD_succ 11 v).1 h.1
 have:=Val.size_f hp
 exact ⟨⟨validD_mono 11 p.2 (h1.2.2.2.1 p hp).2,by omega⟩,(h1.2.2.2.1 p hp).1⟩
theorem valid_nof {v:Val} (h:v.valid=true) (hk:v.k≠5):v.f= []:=by
 rw [valid_iff] at h
 exact ((validD_succ 11 v).1 h.1).2.1.2.2.2 hk
theorem valid_nol {v:Val} (h:v.valid=true) (hk:v.k≠4):v.l= []:=by
 rw [valid_iff] at h
 exact ((validD_succ 11 v).1 h.1).2.1.2.2.1 hk
theorem fOk_mono {g g':Sch→Bool} : ∀ {l:List SFld} {o:Option ByteArray},(∀x∈l,g x.s=true→g' x.s=true)→fOk g o l=true→fOk g' o l=true
 | [],_,_,_=>rfl
 | y::r,o,hg,h=>by
  simp only [fOk,Bool.and_eq_true] at h ⊢
  exact ⟨⟨⟨⟨h.1.1.1.1,hg y (by simp) h.1.1.1.2⟩,h.1.1.2⟩,h.1.2⟩,fOk_mono (fun x hx=>hg x (by simp [hx])) h.2⟩
theorem svalid_mono: ∀ (d:Nat) (s:Sch),svalid d s=true→svalid (d+1) s=true
 | 0,s,h=>by simp [svalid] at h
 | d+1,s,h=>by
  rw [svalid] at h ⊢
  split
  ·rename_i k1;rw [if_pos k1] at h;exact h
  ·rename_i k1;rw [if_neg k1] at h
   split
   ·rename_i k2;rw [if_pos k2] at h;exact h
   ·rename_i k2;rw [if_neg k2] at h
    split
    ·rename_i k3;rw [if_pos k3] at h;exact h
    ·rename_i k3;rw [if_neg k3] at h
     split
     ·rename_i k4;rw [if_pos k4] at h
      simp only [Bool.and_eq_true,List.all_eq_true] at h ⊢
      exact ⟨h.1,fun x hx=>svalid_mono d x (h.2 x hx)⟩
     ·rename_i k4;rw [if_neg k4] at h
      split
      ·rename_i k5;rw [if_pos k5] at h
       simp only [Bool.and_eq_true,List.all_eq_true] at h ⊢
       exact ⟨⟨h.1.1,fun x hx=>svalid_mono d x (h.1.2 x hx)⟩,fOk_mono (fun x _ hx=>svalid_mono d x.s hx) h.2⟩
      ·rename_i k5;rw [if_neg k5] at h;cases h
theorem svalid_f {d:Nat} {s:Sch} {p:SFld} (h:svalid (d+1) s=true) (hp:p∈s.f):s.k=5∧okName p.nm=true∧svalid d p.s=true∧p.df.length≤1∧okDf p=true:=by
 have nof:s.f.length=0→False:=fun h0=>by
  rw [List.length_eq_zero_iff.1 h0] at hp;simp at hp
 have nop:plainB s=true→False:=fun h0=>by
  simp only [plainB,Bool.and_eq_true,decide_eq_true_eq] at h0
  exact nof h0.2
 rw [svalid] at h
 split at h
 ·simp only [Bool.and_eq_true] at h;exact (nop h.1.1.1).elim
 ·split at h
  ·simp only [Bool.and_eq_true] at h;exact (nop h.1.1.1.1).elim
  ·split at h
   ·simp only [Bool.and_eq_true] at h;exact (nop h.1.1.1).elim
   ·split at h
    ·simp only [Bool.and_eq_true,decide_eq_true_eq] at h;exact (nof h.1.1.1.2).elim
    ·split at h
     ·rename_i k5
      simp only [Bool.and_eq_true] at h
      exact ⟨k5,fOk_mem h.2 p hp⟩
     ·cases h
theorem Sch.valid_f {s:Sch} {p:SFld} (h:s.valid=true) (hp:p∈s.f):p.s.valid=true:=svalid_mono 11 p.s (svalid_f h hp).2.2.1
theorem Sch.valid_SB {s:Sch} (h:s.valid=true):SB s:=svalid_SB 12 s h
end Go.CT.Sch
namespace Go.CT.Sch
open Go.Proofs
end Go.CT.Sch
namespace Go.CT.Sch
open Go.Proofs
abbrev Kid:=Stp × Val × Option Sch
def kStp (key:ByteArray) (x:Val):Stp:=⟨3,key,0,keyB x key⟩
def keyedL (key:ByteArray):List ByteArray→List Val→Bool
 | _,[]=>true
 | met,x::l=>isKey x key&& !inB met (keyB x key)&&keyedL key (met++ [keyB x key]) l
def kids:Option Sch→Val→List Kid
 | none,_=> []
 | some s,v=>if s.k=v.k then (if v.k=5 then v.f.map fun x=>(fldStp x.1,x.2,subS s x.1) else if v.k=4∧s.key≠emptyB∧keyedL s.key [] v.l=true then v.l.map fun x=>(kStp s.key x,x,s.it.head?) else []) else []
def strV (s:ByteArray):Val:=⟨3,0,s,[],[]⟩
def lv:Nat→Option Sch→Val→List Stp→List ByteArray
 | 0,_,_,_=> []
 | d+1,o,v,p=>if kids o v= [] then [printB p] else (kids o v).flatMap fun x=>lv d x.2.2 x.2.1 (p++ [x.1])
def keptW (r:Kid→Val × Bool) (l:List Kid):List (Stp × Val):=l.filterMap fun x=>if (r x).2 then some (x.1,(r x).1) else none
def fieldsOf (l:List (Stp × Val)):List (ByteArray × Val):=l.map fun x=>(x.1.nm,x.2)
def elemsOf (l:List (Stp × Val)):List Val:=l.map fun x=>withV x.2 x.1.nm (strV x.1.vl)
def pt:Nat→Option Sch→Val→List Stp→(ByteArray→Bool)→Val × Bool
  | 0,_,v,_,_=>(v,false)
  | d+1,o,v,p,ch=>if kids o v= [] then (v,ch (printB p)) else
    (⟨v.k,0,emptyB,if v.k=5 then [] else elemsOf (keptW (fun x=>pt d x.2.2 x.2.1 (p++ [x.1]) ch) (kids o v)),
      if v.k=5 then fieldsOf (keptW (fun x=>pt d x.2.2 x.2.1 (p++ [x.1]) ch) (kids o v)) else []⟩,
     !(keptW (fun x=>pt d x.2.2 x.2.1 (p++ [x.1]) ch) (kids o v)).isEmpty)
theorem kids_size {o:Option Sch} {v:Val} {x:Kid} (h:x∈kids o v):x.2.1.size<v.size∧x.2.1.mass<v.mass:=by
 cases o with
 | none=>simp [kids] at h
 | some s=>
  rw [kids] at h
  split at h
  ·split at h
   ·obtain ⟨p,hp,rfl⟩:=List.mem_map.1 h
    have:=Val.mass_f hp
    exact ⟨Val.size_f hp,by show p.2.mass<v.mass;omega⟩
   ·split at h
    ·obtain ⟨p,hp,rfl⟩:=List.mem_map.1 h
     exact ⟨Val.size_l hp,Val.mass_l hp⟩
    ·simp at h
  ·simp at h
end Go.CT.Sch
namespace Go.CT.Sch
open Go.Proofs
theorem foldLoop {α β R:Type} (l:List α) (I:Nat→β→Prop) (F:Nat→β→R) (step:β→α→β) (fin:β→R)
  (h1: ∀i (hi:i<l.length) b,I i b→F i b=F (i+1) (step b l[i])∧I (i+1) (step b l[i])) (h0: ∀b,I l.length b→F l.length b=fin b):
  ∀ (n i:Nat) (b:β),i+n=l.length→I i b→F i b=fin ((l.drop i).foldl step b)
 | 0,i,b,h,hI=>by
  have:i=l.length:=by omega
  subst this
  rw [h0 b hI,List.drop_length];rfl
 | n+1,i,b,h,hI=>by
  have hi:i<l.length:=by omega
  obtain ⟨e,hI'⟩:=h1 i hi b hI
  rw [e,foldLoop l I F step fin h1 h0 n (i+1) _ (by omega) hI',List.drop_eq_getElem_cons hi];rfl
theorem foldLoop0 {α β R:Type} (l:List α) (I:Nat→β→Prop) (F:Nat→β→R) (step:β→α→β) (fin:β→R) (b:β)
  (h1: ∀i (hi:i<l.length) b,I i b→F i b=F (i+1) (step b l[i])∧I (i+1) (step b l[i])) (h0: ∀b,I l.length b→F l.length b=fin b) (hI:I 0 b):
  F 0 b=fin (l.foldl step b):=by
 have:=foldLoop l I F step fin h1 h0 l.length 0 b (by omega) hI
 rwa [List.drop_zero] at this
theorem foldl_map_app {α β:Type} (g:α→β): ∀ (l:List α) (b:List β),l.foldl (fun b x=>b++ [g x]) b=b++l.map g
 | [],b=>by simp
 | x::l,b=>by rw [List.foldl_cons,foldl_map_app g l];simp
theorem idxm {α:Type} (enc:α→IV) {l:List α} {i:Nat} (h:i<l.length):O.index (.list (l.map enc)) (.int i)=some (enc l[i]):=by
 simp only [O.index_list,Int.natCast_nonneg,if_true,Int.toNat_natCast,List.getElem?_map,List.getElem?_eq_getElem h,Option.map_some]
theorem lenm {α:Type} (enc:α→IV) (l:List α):O.len (.list (l.map enc))=some (.int l.length):=by rw [O.len_list,List.length_map]
theorem apm {α:Type} (enc:α→IV) {n:Nat} (l:List α) (x:α) (hl:l.length≤137438953471) (hn:n≤1024:=by decide):O.append n (.list (l.map enc)) (.list [enc x])=some (.list ((l++ [x]).map enc)):=by
 rw [O.append_list,if_pos]
 ·simp
 ·have:(l.length+1) * n≤137438953472 * 1024:=Nat.mul_le_mul (by omega) hn
  simp only [List.length_map,List.length_singleton]
  unfold maxBytes;omega
theorem lti {i n:Nat} (h:i<n):O.lt (.int i) (.int n)=some (.bool true):=by rw [O.lt_int];simp;omega
theorem ltn (n:Nat):O.lt (.int n) (.int n)=some (.bool false):=by rw [O.lt_int];simp
theorem nxt {i:Nat} (h:i<4611686018427387904):O.add .i64 (.int i) (.int 1)=some (.int ((i+1:Nat):Int)):=by rw [O.add_int,next64 (by omega)]
def kidIV (x:Kid):IV:= .agg [.int x.1.k,.str x.1.nm,.int x.1.ix,.str x.1.vl,.int x.2.1.k,.int x.2.1.n,.str x.2.1.s,.list (x.2.1.l.map Val.enc),.list (x.2.1.f.map Fld.enc),
 .int (x.2.2.getD zeroSch).k,.int (x.2.2.getD zeroSch).mn,.int (x.2.2.getD zeroSch).mx,.list ((x.2.2.getD zeroSch).en.map .str),.str (x.2.2.getD zeroSch).key,.list ((x.2.2.getD zeroSch).it.map Sch.enc),.list ((x.2.2.getD zeroSch).f.map SFld.enc),.bool x.2.2.isSome]
theorem kid_step (x:Kid):O.projs 0 4 (kidIV x)=some x.1.enc:=rfl
theorem kid_val (x:Kid):O.projs 4 5 (kidIV x)=some x.2.1.enc:=by rw [Val.enc_eq,Val.comps_eq];rfl
theorem kid_sch (x:Kid):O.projs 9 7 (kidIV x)=some (x.2.2.getD zeroSch).enc :=by rw [Sch.enc_eq,Sch.comps_eq];rfl
theorem kid4 (x:Kid):O.proj 4 (kidIV x)=some (.int x.2.1.k):=rfl
theorem kid9 (x:Kid):O.proj 9 (kidIV x)=some (.int (x.2.2.getD zeroSch).k):=rfl
theorem kid13 (x:Kid):O.proj 13 (kidIV x)=some (.str (x.2.2.getD zeroSch).key):=rfl
theorem kid16 (x:Kid):O.proj 16 (kidIV x)=some (.bool x.2.2.isSome):=rfl
theorem pf_index (s:Sch) (p:ByteArray × Val) (hs:s.mass≤1099511627776): ∀ (n i:Nat),i+n=s.f.length→
  ∃r:Int,W F84 1 [.list (s.f.map SFld.enc),Fld.enc p,.int s.f.length,.int i]=some [.int r]∧
   ((((s.f.drop i).find? fun q=>decide (q.nm=p.1))=none∧r<0)∨(∃j:Nat,r=j∧s.f[j]?=((s.f.drop i).find? fun q=>decide (q.nm=p.1))∧((s.f.drop i).find? fun q=>decide (q.nm=p.1)).isSome =true))
 | 0,i,h=>by
  rw [e_F84_1]
  have h1: ¬ i<s.f.length:=by omega
  refine ⟨-1,by simp [h1],.inl ⟨by simp [List.drop_of_length_le (Nat.le_of_not_lt h1)],by omega⟩⟩
 | n+1,i,h=>by
  have hi:i<s.f.length:=by omega
  have hm:=s.mass_len_f
  obtain ⟨r,hr,h2⟩:=pf_index s p hs n (i+1) (by omega)
  rw [e_F84_1,List.drop_eq_getElem_cons hi,List.find?_cons]
  simp only [lti hi,Option.bind_some,O.cnd_bool,if_true,idxm SFld.enc hi,e_F85_0,SFld.proj0,Fld.proj0,O.sEq_str,O.calls_1,nxt (show i<4611686018427387904 by omega),hr]
  by_cases c:s.f[i].nm =p.1
  ·refine ⟨i,by simp [c],.inr ⟨i,rfl,by simp [c],by simp [c]⟩⟩
  ·have c':decide (s.f[i].nm =p.1)=false:=by simpa using c
   simp only [c',Bool.false_eq_true,if_false]
   exact ⟨r,rfl,h2⟩
def memKid (s:Sch) (x:ByteArray × Val):Kid:=(fldStp x.1,x.2,subS s x.1)
theorem pf_members (s:Sch) (v:Val) (hs:s.mass≤1099511627776) (hv:v.mass≤1048576):W F83 0 [s.enc,v.enc]=some [.list ((v.f.map (memKid s)).map kidIV)]:=by
 have hl:=v.mass_len_f
 rw [e_F83_0]
 simp only [Val.proj4,Option.bind_some,lenm]
 refine (foldLoop0 v.f (fun i (b:List Kid)=>b.length=i) (fun i b=>W F83 1 [.list (v.f.map Fld.enc),.int v.f.length,.int i,s.enc,.list (b.map kidIV)]) (fun b x=>b++ [memKid s x]) (fun b=>some [.list (b.map kidIV)]) [] ?_ ?_ rfl).trans ?_
 ·intro i hi b hb
  refine ⟨?_,by simp [hb]⟩
  rw [e_F85]
  have e2: ∀ (o:Option Sch),subS s v.f[i].1 =o→W F83 2 [.list (v.f.map Fld.enc),.int v.f.length,.int i,s.enc,.list (b.map kidIV),.int 1,.str v.f[i].1,.int 0,.str ⟨#[]⟩,.int v.f[i].2.k,.int v.f[i].2.n,.str v.f[i].2.s,.list (v.f[i].2.l.map Val.enc),.list (v.f[i].2.f.map Fld.enc),
    .int (o.getD zeroSch).k,.int (o.getD zeroSch).mn,.int (o.getD zeroSch).mx,.list ((o.getD zeroSch).en.map .str),.str (o.getD zeroSch).key,.list ((o.getD zeroSch).it.map Sch.enc),.list ((o.getD zeroSch).f.map SFld.enc),.bool o.isSome]=
    W F83 1 [.list (v.f.map Fld.enc),.int v.f.length,.int (i+1:Nat),s.enc,.list ((b++ [memKid s v.f[i]]).map kidIV)]:=by
   rintro o rfl
   have ha:=apm kidIV (n:=248) b (memKid s v.f[i]) (by omega)
   rw [e_F83_2]
   simp only [O.mkagg_eq,O.mklist_eq,Option.bind_some,nxt (show i<4611686018427387904 by omega)]
   have he:(IV.agg [.int 1,.str v.f[i].1,.int 0,.str ⟨#[]⟩,.int v.f[i].2.k,.int v.f[i].2.n,.str v.f[i].2.s,.list (v.f[i].2.l.map Val.enc),.list (v.f[i].2.f.map Fld.enc),
    .int ((subS s v.f[i].1).getD zeroSch).k,.int ((subS s v.f[i].1).getD zeroSch).mn,.int ((subS s v.f[i].1).getD zeroSch).mx,.list (((subS s v.f[i].1).getD zeroSch).en.map .str),.str ((subS s v.f[i].1).getD zeroSch).key,.list (((subS s v.f[i].1).getD zeroSch).it.map Sch.enc),.list (((subS s v.f[i].1).getD zeroSch).f.map SFld.enc),.bool (subS s v.f[i].1).isSome])=kidIV (memKid s v.f[i]):=rfl
   rw [he,ha];rfl
  simp only [lti hi,Option.bind_some,O.cnd_bool,if_true,idxm Fld.enc hi,Fld.proj0,Fld.projV,Val.proj0,Val.proj1,Val.proj2,Val.proj3,Val.proj4,Sch.proj5,lenm,O.gt_int]
  cases hit:s.it with
  | cons t ts=>
   have hsub:subS s v.f[i].1 =some t:=by unfold subS;rw [hit]
   have:=e2 (some t) hsub
   simp only [Option.getD_some,Option.isSome_some] at this
   have h0:(0:Int)<((t::ts).length :Nat):=by simp
   simp only [h0,decide_true,if_true,List.map_cons,O.index_list,Int.le_refl,Int.toNat_zero,List.getElem?_cons_zero,Option.bind_some,Sch.proj0,Sch.proj1,Sch.proj2,Sch.proj3,Sch.proj4,Sch.proj5,Sch.proj6]
   exact this
  | nil=>
   have hsub:subS s v.f[i].1 =(s.fld v.f[i].1).map (·.s):=by unfold subS;rw [hit]
   obtain ⟨r,hr,h2⟩:=pf_index s v.f[i] hs s.f.length 0 (by omega)
   have hr':W F84 0 [.list (s.f.map SFld.enc),Fld.enc v.f[i]]=some [.int r]:=by
    rw [e_F84_0]
    simpa using hr
   simp only [List.drop_zero] at h2
   have hf:(s.f.find? fun p=>decide (p.nm=v.f[i].1))=s.fld v.f[i].1 :=rfl
   rw [hf] at h2
   have h0: ¬ (0:Int)<(([]:List Sch).length :Nat):=by simp
   simp only [h0,decide_false,Bool.false_eq_true,if_false,Sch.proj6,Option.bind_some,hr',O.calls_1,O.ge_int,O.cnd_bool]
   rcases h2 with ⟨h3,h4⟩ | ⟨j,rfl,h3,h4⟩
   ·have hn: ¬ (0:Int)≤r:=by omega
    have:=e2 none (by rw [hsub,h3];rfl)
    simp only [Option.getD_none,Option.isSome_none] at this
    simp only [hn,decide_false,Bool.false_eq_true,if_false]
    exact this
   ·obtain ⟨d,hd⟩:=Option.isSome_iff_exists.1 h4
    rw [hd] at h3
    have:=e2 (some d.s) (by rw [hsub,hd];rfl)
    simp only [Option.getD_some,Option.isSome_some] at this
    simp only [Int.natCast_nonneg,decide_true,if_true,O.index_list,Int.toNat_natCast,List.getElem?_map,h3,Option.map_some,Option.bind_some,SFld.projS,Sch.proj0,Sch.proj1,Sch.proj2,Sch.proj3,Sch.proj4,Sch.proj5,Sch.proj6]
    exact this
 ·intro b hb
  rw [e_F85]
  simp only [ltn,Option.bind_some,O.cnd_bool,Bool.false_eq_true,if_false]
 ·rw [foldl_map_app];rfl
end Go.CT.Sch
namespace Go.CT.Sch
open Go.Proofs
theorem mgetS (ks:List ByteArray) (s:ByteArray):O.mget (.bool false) (.list (mapS ks)) (.str s)=some (.bool (inB ks s)):=by
 unfold O.mget
 simp only [Prim.ev,mfind_S,Option.map_some]
 cases inB ks s<;>simp
theorem mhasS (ks:List ByteArray) (s:ByteArray): ∃b,O.mhas (.list (mapS ks)) (.str s)=some (.bool b):=by
 unfold O.mhas
 simp only [Prim.ev,mfind_S,Option.map_some]
 exact ⟨_,rfl⟩
theorem msetS (ks:List ByteArray) (s:ByteArray):O.mset (.list (mapS ks)) (.str s) (.bool true)=some (.list (mapS (if inB ks s then ks else ks++ [s]))):=by
 unfold O.mset
 simp only [Prim.ev,mput_S,Option.map_some]
def elKid (s:Sch) (x:Val):Kid:=(kStp s.key x,x,s.it.head?)
theorem pf_elements_1 (s t:Sch) (v:Val) (ht:s.it= [t]) (hv:v.mass≤1048576): ∀ (n i:Nat) (b:List Kid) (acc:List ByteArray),i+n=v.l.length→b.length=i→
  W F86 1 [.list (v.l.map Val.enc),.int v.l.length,.int i,s.enc,.list (b.map kidIV),.list (mapS acc)]=some [.list ((if keyedL s.key acc (v.l.drop i) then b++(v.l.drop i).map (elKid s) else []).map kidIV)]
 | 0,i,b,acc,h,hb=>by
  have:i=v.l.length:=by omega
  subst this
  rw [e_F86_1,List.drop_length,keyedL]
  simp only [ltn,Option.bind_some,O.cnd_bool,Bool.false_eq_true,if_false,if_true,List.map_nil,List.append_nil]
 | n+1,i,b,acc,h,hb=>by
  have hi:i<v.l.length:=by omega
  have hl:=v.mass_len_l
  have hm:=Val.mass_l (List.getElem_mem hi)
  have hg:=pg_get v.l[i] s.key (by omega)
  obtain ⟨bb,hh⟩:=mhasS acc (keyB v.l[i] s.key)
  have hh':O.mhas (.list (mapS acc)) (.str ((v.l[i].get s.key).getD zeroVal).s)=some (.bool bb):=hh
  have hms:=msetS acc (keyB v.l[i] s.key)
  have hmg:=mgetS acc (keyB v.l[i] s.key)
  unfold keyB at hms hmg
  rw [e_F86_1,List.drop_eq_getElem_cons hi,keyedL]
  simp only [lti hi,Option.bind_some,O.cnd_bool,if_true,idxm Val.enc hi,Sch.proj4,hg,getIV,calls_6,O.not_bool,O.ne_int,ite_some,ite_ivbool,hmg,hh']
  unfold isKey keyB
  cases c1:(v.l[i].get s.key).isSome with
  | false=>simp
  | true=>
   by_cases c2:((v.l[i].get s.key).getD zeroVal).k =3
   ·cases c3:inB acc ((v.l[i].get s.key).getD zeroVal).s with
    | true=>simp [c2]
    | false=>
     have ih:=pf_elements_1 s t v ht hv n (i+1) (b++ [elKid s v.l[i]]) (acc++ [keyB v.l[i] s.key]) (by omega) (by simp [hb])
     have ha:=apm kidIV (n:=248) b (elKid s v.l[i]) (by omega)
     have he:(IV.agg [.int 3,.str s.key,.int 0,.str ((v.l[i].get s.key).getD zeroVal).s,.int v.l[i].k,.int v.l[i].n,.str v.l[i].s,.list (v.l[i].l.map Val.enc),.list (v.l[i].f.map Fld.enc),
      .int t.k,.int t.mn,.int t.mx,.list (t.en.map .str),.str t.key,.list (t.it.map Sch.enc),.list (t.f.map SFld.enc),.bool true])=kidIV (elKid s v.l[i]):=by
      unfold elKid kidIV;rw [ht];rfl
     simp only [c2,decide_true,Bool.not_true,Bool.false_eq_true,if_false,hms,c3,Option.bind_some,Sch.proj5,ht,List.map_cons,List.map_nil,O.index_list,Int.le_refl,if_true,Int.toNat_zero,List.getElem?_cons_zero,Sch.proj0,Sch.proj1,Sch.proj2,Sch.proj3,Sch.proj4,Sch.proj6,
      Val.proj0,Val.proj1,Val.proj2,Val.proj3,Val.proj4,O.mkagg_eq,O.mklist_eq,nxt (show i<4611686018427387904 by omega),Bool.not_false,Bool.true_and,Bool.and_true]
     rw [he,ha]
     simp only [Option.bind_some]
     refine ih.trans ?_
     unfold keyB
     simp only [List.append_assoc,List.singleton_append]
   ·simp [c2]
theorem pf_elements (s t:Sch) (v:Val) (ht:s.it= [t]) (hv:v.mass≤1048576):W F86 0 [s.enc,v.enc]=some [.list ((if keyedL s.key [] v.l then v.l.map (elKid s) else []).map kidIV)]:=by
 have:=pf_elements_1 s t v ht hv v.l.length 0 [] [] (by omega) rfl
 rw [List.drop_zero] at this
 rw [e_F86_0]
 simp only [Val.proj3,Option.bind_some,lenm]
 exact this
theorem pf_children (x:Kid) (hsb: ∀s,x.2.2=some s→SB s∧s.mass≤1048576) (hv:x.2.1.mass≤1048576):W F82 0 [kidIV x]=some [.list ((kids x.2.2 x.2.1).map kidIV)]:=by
 obtain ⟨st,v,o⟩:=x
 rw [e_F82_0]
 simp only [kid16,kid9,kid4,kid13,kid_sch,kid_val,Option.bind_some,O.not_bool,O.ne_int,O.cnd_bool,ite_some,ite_ivbool]
 cases o with
 | none=>simp [kids]
 | some s=>
  obtain ⟨hsb,hs⟩:=hsb s rfl
  simp only [Option.isSome_some,Bool.not_true,Bool.false_eq_true,if_false,Option.getD_some]
  rw [kids]
  by_cases c1:s.k=v.k
  ·simp only [c1,decide_true,Bool.not_true,Bool.false_eq_true,if_false,if_true,O.eq_int,Option.bind_some]
   by_cases c2:v.k=5
   ·simp only [c2,decide_true,if_true,pf_members s v (by omega) hv,O.calls_1];rfl
   ·simp only [c2,decide_false,Bool.false_eq_true,if_false,O.cnd_bool,ite_some,O.sNe_str,Option.bind_some,ite_ivbool]
    by_cases c3:v.k=4
    ·have hl:=hsb.list (by omega)
     obtain ⟨t,ht⟩: ∃t,s.it= [t]:=List.length_eq_one_iff.1 hl
     by_cases c4:s.key=emptyB
     ·have:s.key=(⟨#[]⟩:ByteArray):=c4
      have e:decide (emptyB=(⟨#[]⟩:ByteArray))=true:=rfl
      simp only [c3,decide_true,if_true,e,Bool.not_true,Bool.false_eq_true,if_false,c4,ne_eq,not_true_eq_false,false_and,and_false,List.map_nil]
     ·have c4': ¬ s.key=(⟨#[]⟩:ByteArray):=c4
      simp only [c3,decide_true,if_true,c4',decide_false,Bool.not_false,pf_elements s t v ht hv,O.calls_1,true_and,c4,ne_eq,not_false_eq_true]
      rfl
    ·simp [c3]
  ·simp [c1]
theorem pf_below (p:List Stp) (s:Stp) (hl:p.length≤1073741824):W F88 0 [.list (p.map Stp.enc),s.enc]=some [.list ((p++ [s]).map Stp.enc)]:=by
 have h1:O.cloneF [.list (p.map Stp.enc)]=some [.list (p.map Stp.enc)]:=cloneF_list (by rw [List.length_map];omega)
 rw [e_F88_0]
 simp only [e_F75,h1,O.calls_1,O.mklist_eq,Option.bind_some,apm Stp.enc (n:=48) p s (by omega)]
def OSB (o:Option Sch):Prop:= ∀s,o=some s→SB s∧s.mass≤1048576
theorem kids_sb {o:Option Sch} {v:Val} (h:OSB o) {x:Kid} (hx:x∈kids o v):OSB x.2.2:=by
 cases o with
 | none=>simp [kids] at hx
 | some s=>
  obtain ⟨h1,h2⟩:=h s rfl
  rw [kids] at hx
  split at hx
  ·split at hx
   ·obtain ⟨p,hp,rfl⟩:=List.mem_map.1 hx
    intro t ht
    have:=subS_mass ht
    exact ⟨h1.sub ht,by omega⟩
   ·split at hx
    ·obtain ⟨p,hp,rfl⟩:=List.mem_map.1 hx
     intro t ht
     have hm:=List.mem_of_head? ht
     have:=Sch.mass_it hm
     exact ⟨h1.mem_it hm,by omega⟩
    ·simp at hx
  ·simp at hx
theorem kids_fits {o:Option Sch} {v:Val} (h:OSB o) (hv:v.mass≤1048576) {x:Kid} (hx:x∈kids o v):x.1.fits:=by
 cases o with
 | none=>simp [kids] at hx
 | some s=>
  obtain ⟨h1,h2⟩:=h s rfl
  rw [kids] at hx
  split at hx
  ·split at hx
   ·obtain ⟨p,hp,rfl⟩:=List.mem_map.1 hx
    have:=Val.mass_f hp
    exact fldStp_fits _ (by omega)
   ·split at hx
    ·obtain ⟨p,hp,rfl⟩:=List.mem_map.1 hx
     have:=Val.mass_l hp
     have h3:=get_size p s.key
     have:=s.mass_key
     exact ⟨by show s.key.size≤_;omega,by show (keyB p s.key).size ≤_;unfold keyB;omega⟩
    ·simp at hx
  ·simp at hx
end Go.CT.Sch
namespace Go.CT.Sch
open Go.Proofs
theorem kids_sum (o:Option Sch) (v:Val) (g:Kid→List ByteArray) (hg: ∀x∈kids o v,(g x).length ≤x.2.1.size):((kids o v).flatMap g).length <v.size:=by
 have hF: ∀ (l:List (ByteArray × Val)) (s:Sch),(∀x∈l.map (memKid s),(g x).length ≤x.2.1.size)→((l.map (memKid s)).flatMap g).length ≤sizeFs l:=by
  intro l s
  induction l with
  | nil=>simp
  | cons a l ih=>
   intro h
   have h1:=h (memKid s a) (by simp)
   have h2:=ih fun x hx=>h x (by simp only [List.map_cons,List.mem_cons];exact .inr hx)
   have h3:(memKid s a).2.1.size =a.2.size:=rfl
   have h4:sizeFs (a::l)=a.2.size+sizeFs l:=rfl
   simp only [List.map_cons,List.flatMap_cons,List.length_append];omega
 have hV: ∀ (l:List Val) (s:Sch),(∀x∈l.map (elKid s),(g x).length ≤x.2.1.size)→((l.map (elKid s)).flatMap g).length ≤sizeVs l:=by
  intro l s
  induction l with
  | nil=>simp
  | cons a l ih=>
   intro h
   have h1:=h (elKid s a) (by simp)
   have h2:=ih fun x hx=>h x (by simp only [List.map_cons,List.mem_cons];exact .inr hx)
   have h3:(elKid s a).2.1.size =a.size:=rfl
   have h4:sizeVs (a::l)=a.size+sizeVs l:=rfl
   simp only [List.map_cons,List.flatMap_cons,List.length_append];omega
 have hs:=v.size_eq
 cases o with
 | none=>simp only [kids,List.flatMap_nil,List.length_nil];omega
 | some s=>
  revert hg
  rw [kids]
  intro hg
  split
  ·rename_i c1;rw [if_pos c1] at hg
   split
   ·rename_i c2;rw [if_pos c2] at hg
    have:((v.f.map (memKid s)).flatMap g).length ≤sizeFs v.f:=hF v.f s hg
    show ((v.f.map (memKid s)).flatMap g).length <_
    omega
   ·rename_i c2;rw [if_neg c2] at hg
    split
    ·rename_i c3;rw [if_pos c3] at hg
     have:((v.l.map (elKid s)).flatMap g).length ≤sizeVs v.l:=hV v.l s hg
     show ((v.l.map (elKid s)).flatMap g).length <_
     omega
    ·simp only [List.flatMap_nil,List.length_nil];omega
  ·simp only [List.flatMap_nil,List.length_nil];omega
theorem lv_len: ∀ (n:Nat) (o:Option Sch) (v:Val) (p:List Stp),(lv n o v p).length ≤v.size
 | 0,_,_,_=>by simp [lv]
 | n+1,o,v,p=>by
  have:=v.size_pos
  rw [lv]
  split
  ·simp;omega
  ·exact Nat.le_of_lt (kids_sum o v _ fun x _=>lv_len n _ _ _)
theorem pf_walk: ∀ (n:Nat) (x:Kid) (p:List Stp) (out:List ByteArray),x.2.1.size≤n→OSB x.2.2→x.2.1.mass≤1048576→(∀s∈p,s.fits)→p.length+n≤1073741824→out.length+(lv n x.2.2 x.2.1 p).length ≤1073741824→
  W F81 0 [kidIV x,.list (p.map Stp.enc),SL out]=some [SL (out++lv n x.2.2 x.2.1 p)]
 | 0,x,p,out,h,_,_,_,_,_=>by have:=x.2.1.size_pos;omega
 | n+1,x,p,out,h,hsb,hv,hp,hl,ho=>by
  rw [lv] at ho ⊢
  have loop: ∀ (m i:Nat) (out:List ByteArray),i+m=(kids x.2.2 x.2.1).length →out.length+(((kids x.2.2 x.2.1).drop i).flatMap fun y=>lv n y.2.2 y.2.1 (p++ [y.1])).length ≤1073741824→
    W F81 2 [.list (p.map Stp.enc),.int (kids x.2.2 x.2.1).length,.int i,.list ((kids x.2.2 x.2.1).map kidIV),SL out]=some [SL (out++((kids x.2.2 x.2.1).drop i).flatMap fun y=>lv n y.2.2 y.2.1 (p++ [y.1]))]:=by
   intro m
   induction m with
   | zero=>
    intro i out hi ho
    have:i=(kids x.2.2 x.2.1).length :=by omega
    subst this
    rw [e_F81_2,List.drop_length]
    simp only [ltn,Option.bind_some,O.cnd_bool,Bool.false_eq_true,if_false,List.flatMap_nil,List.append_nil]
   | succ m ih=>
    intro i out hi ho
    have hi':i<(kids x.2.2 x.2.1).length :=by omega
    have hx:=List.getElem_mem hi'
    obtain ⟨hs1,hs2⟩:=kids_size hx
    rw [List.drop_eq_getElem_cons hi',List.flatMap_cons,List.length_append] at ho
    have hlen:(kids x.2.2 x.2.1).length <4611686018427387904:=by
     have:=kids_sum x.2.2 x.2.1 (fun _=> [emptyB]) (fun y hy=>by have:=y.2.1.size_pos;simp;omega)
     have h2:((kids x.2.2 x.2.1).flatMap fun _=> [emptyB]).length =(kids x.2.2 x.2.1).length :=by
      generalize kids x.2.2 x.2.1=l
      induction l with
      | nil=>rfl
      | cons a l ih=>simp [List.flatMap_cons,ih]
     have:=x.2.1.size_mass
     omega
    have hw:=pf_walk n (kids x.2.2 x.2.1)[i] (p++ [(kids x.2.2 x.2.1)[i].1]) out (by omega) (kids_sb hsb hx) (by omega) (fits_snoc hp (kids_fits hsb hv hx)) (by simp;omega) (by omega)
    rw [e_F81_2]
    simp only [lti hi',Option.bind_some,O.cnd_bool,if_true,idxm kidIV hi',kid_step,pf_below p _ (show p.length≤1073741824 by omega),O.calls_1,hw,nxt (show i<4611686018427387904 by omega)]
    rw [ih (i+1) _ (by omega) (by simp only [List.length_append];omega),List.drop_eq_getElem_cons hi',List.flatMap_cons,List.append_assoc]
  rw [e_F81_0]
  simp only [pf_children x hsb hv,O.calls_1,lenm,Option.bind_some,O.eq_int,O.cnd_bool]
  by_cases c:kids x.2.2 x.2.1= []
  ·simp only [c,if_true,List.length_nil,Int.cast_ofNat_Int,decide_true,pp_print p hp (by omega),O.calls_2,e_F87_0,O.mklist_eq,Option.bind_some]
   rw [if_pos c,List.length_singleton] at ho
   have ha:=apm IV.str (n:=16) out (printB p) (by omega)
   have ha':O.append 16 (SL out) (.list [.str (printB p)])=some (SL (out++ [printB p])):=ha
   simp only [ha',Option.bind_some,O.calls_1]
   have:=loop 0 0 (out++ [printB p]) (by rw [c];rfl) (by rw [c];simp;omega)
   rw [c] at this
   simp only [List.length_nil,Int.cast_ofNat_Int,List.drop_nil,List.flatMap_nil,List.append_nil] at this
   rw [e_F81_1]
   simp only [lenm,List.length_nil,Int.cast_ofNat_Int,Option.bind_some]
   exact this
  ·have c': ¬ ((kids x.2.2 x.2.1).length :Int)=0:=by
    have:(kids x.2.2 x.2.1).length ≠0:=fun e=>c (List.length_eq_zero_iff.1 e)
    omega
   rw [if_neg c] at ho ⊢
   simp only [c',decide_false,Bool.false_eq_true,if_false]
   rw [e_F81_1]
   simp only [lenm,Option.bind_some]
   have:=loop (kids x.2.2 x.2.1).length 0 out (by omega) (by rw [List.drop_zero];exact ho)
   rw [List.drop_zero] at this
   exact this
theorem pf_valid (s:Sch) (v:Val) (hs:s.mass≤1048576) (hv:v.mass≤1048576):W F13 0 [s.enc,v.enc]=some [.bool (s.valid&&v.valid)]:=by
 rw [e_F13_0]
 simp only [pg_Svalid s hs,pv_Valid v (by omega),O.calls_1,O.cnd_bool,ite_some,ite_ivbool,Option.bind_some]
 cases s.valid<;>cases v.valid<;>rfl
def leavesB (s:Sch) (v:Val):List ByteArray:=if s.valid&&v.valid then setB (lv v.size (some s) v []) else []
theorem pf_Leaves (s:Sch) (v:Val) (hs:s.mass≤1048576) (hv:v.mass≤1048576):W F12 0 [s.enc,v.enc]=some [SL (leavesB s v)]:=by
 rw [e_F12_0]
 simp only [pf_valid s v hs hv,O.calls_1,O.not_bool,Option.bind_some,O.cnd_bool]
 unfold leavesB
 cases c:s.valid&&v.valid with
 | false=>simp only [Bool.not_false,if_true,Bool.false_eq_true,if_false];rfl
 | true=>
  have c1:s.valid=true∧v.valid=true:=by simpa using c
  have hsb:=Sch.valid_SB c1.1
  have hsz:=v.size_mass
  have hl:=lv_len v.size (some s) v []
  have he:IV.agg [.int 0,.str ⟨#[]⟩,.int 0,.str ⟨#[]⟩,.int v.k,.int v.n,.str v.s,.list (v.l.map Val.enc),.list (v.f.map Fld.enc),.int s.k,.int s.mn,.int s.mx,.list (s.en.map .str),.str s.key,.list (s.it.map Sch.enc),.list (s.f.map SFld.enc),.bool true]=kidIV (⟨0,emptyB,0,emptyB⟩,v,some s):=rfl
  have hw:=pf_walk v.size (⟨0,emptyB,0,emptyB⟩,v,some s) [] [] (Nat.le_refl _) (fun t ht=>by cases ht;exact ⟨hsb,hs⟩) hv (by simp) (by simp;omega) (by simp only [List.length_nil];omega)
  simp only [List.nil_append] at hw
  simp only [Bool.not_true,Bool.false_eq_true,if_false,if_true,Val.proj0,Val.proj1,Val.proj2,Val.proj3,Val.proj4,Sch.proj0,Sch.proj1,Sch.proj2,Sch.proj3,Sch.proj4,Sch.proj5,Sch.proj6,Option.bind_some,O.mkagg_eq,he]
  have hw':W F81 0 [kidIV (⟨0,emptyB,0,emptyB⟩,v,some s),.list [],.list []]=some [SL (lv v.size (some s) v [])]:=hw
  rw [hw']
  simp only [O.calls_1,fset (l:=lv v.size (some s) v []) (by omega)]
end Go.CT.Sch
namespace Go.CT.Sch
open Go.Proofs
theorem elKid_step {s:Sch} {v:Val} {i:Nat} (hk:hasKey v s.key=true):elStp s.key v i=kStp s.key v:=by
 unfold elStp kStp;rw [if_pos hk]
theorem keyedL_isKey {key:ByteArray} : ∀ {l:List Val} {acc:List ByteArray},keyedL key acc l=true→ ∀x∈l,isKey x key=true
 | [],_,_=>by simp
 | y::l,acc,h=>by
  simp only [keyedL,Bool.and_eq_true] at h
  intro x hx
  rcases List.mem_cons.1 hx with rfl | hx
  ·exact h.1.1
  ·exact keyedL_isKey h.2 x hx
theorem rf_keyed_2 (s:Sch) (v:Val) (hv:v.mass≤1048576) (i:Nat) (hi:i<v.l.length) (a:ByteArray): ∀ (n k:Nat),k+n=i→
  W F154 2 [.int i,.str a,.int k,s.enc,v.enc]=if inB (((v.l.take i).drop k).map fun x=>keyB x s.key) a then some [.bool false] else W F154 1 [.int (i+1:Nat),s.enc,v.enc]
 | 0,k,h=>by
  have:k=i:=by omega
  subst this
  have hl:=v.mass_len_l
  rw [e_F154_2,List.drop_of_length_le (by rw [List.length_take];omega)]
  simp only [ltn,Option.bind_some,O.cnd_bool,Bool.false_eq_true,if_false,nxt (show k<4611686018427387904 by omega),List.map_nil,inB,List.any_nil]
 | n+1,k,h=>by
  have hk:k<i:=by omega
  have hkl:k<v.l.length:=by omega
  have hl:=v.mass_len_l
  have hm:=Val.mass_l (List.getElem_mem hkl)
  have hk2:k<(v.l.take i).length :=by rw [List.length_take];omega
  have ih:=rf_keyed_2 s v hv i hi a n (k+1) (by omega)
  rw [e_F154_2,List.drop_eq_getElem_cons hk2,List.map_cons,inB_cons]
  simp only [lti hk,Option.bind_some,O.cnd_bool,if_true,Val.proj3,idxm Val.enc hkl,Sch.proj4,ref_keyof v.l[k] s.key (by omega),O.calls_2,O.sEq_str,nxt (show k<4611686018427387904 by omega),ih,List.getElem_take]
  by_cases c:a=keyB v.l[k] s.key
  ·simp [c]
  ·simp [c]
theorem rf_keyed_1 (s:Sch) (v:Val) (hv:v.mass≤1048576) (hne:s.key≠emptyB): ∀ (n i:Nat),i+n=v.l.length→
  W F154 1 [.int i,s.enc,v.enc]=some [.bool (keyedL s.key ((v.l.take i).map fun x=>keyB x s.key) (v.l.drop i))]
 | 0,i,h=>by
  have:i=v.l.length:=by omega
  subst this
  rw [e_F154_1,List.drop_length,keyedL]
  simp only [Val.proj3,lenm,ltn,Option.bind_some,O.cnd_bool,Bool.false_eq_true,if_false]
 | n+1,i,h=>by
  have hi:i<v.l.length:=by omega
  have hm:=Val.mass_l (List.getElem_mem hi)
  have ih:=rf_keyed_1 s v hv hne n (i+1) (by omega)
  have h2:=rf_keyed_2 s v hv i hi (keyB v.l[i] s.key) i 0 (by omega)
  rw [List.drop_zero] at h2
  have hh:hasKey v.l[i] s.key=isKey v.l[i] s.key:=by unfold hasKey;simp [hne]
  have ht:v.l.take (i+1)=v.l.take i++ [v.l[i]]:=(take_get v.l hi).symm
  rw [ht,List.map_append] at ih
  rw [e_F154_1,List.drop_eq_getElem_cons hi,keyedL]
  simp only [Val.proj3,lenm,lti hi,Option.bind_some,O.cnd_bool,if_true,idxm Val.enc hi,Sch.proj4,ref_keyof v.l[i] s.key (by omega),O.calls_2,O.not_bool,hh]
  simp only [Int.cast_ofNat_Int] at h2
  cases c1:isKey v.l[i] s.key with
  | false=>simp
  | true=>
   simp only [Bool.not_true,Bool.false_eq_true,if_false,h2,ih,List.map_cons,List.map_nil,Bool.true_and]
   cases inB ((v.l.take i).map fun x=>keyB x s.key) (keyB v.l[i] s.key)<;>simp
theorem rf_keyed (s:Sch) (v:Val) (hv:v.mass≤1048576):W F154 0 [s.enc,v.enc]=some [.bool (decide (s.k=4∧v.k=4∧s.key≠emptyB∧v.l≠ [])&&keyedL s.key [] v.l)]:=by
 rw [e_F154_0]
 simp only [Sch.proj0,Option.bind_some,O.ne_int,O.cnd_bool,Sch.proj4,O.sEq_str,Val.proj0,Val.proj3,lenm,O.eq_int,ite_some,ite_ivbool]
 by_cases c1:s.k=4
 ·by_cases c2:s.key=emptyB
  ·have e:decide (emptyB=(⟨#[]⟩:ByteArray))=true:=rfl
   simp [c1,c2,e]
  ·have e:decide (s.key=(⟨#[]⟩:ByteArray))=false:=decide_eq_false c2
   by_cases c3:v.k=4
   ·by_cases c4:v.l= []
    ·simp [c1,c4]
    ·have c4': ¬ (v.l.length:Int)=0:=by
      have:v.l.length≠0:=fun e=>c4 (List.length_eq_zero_iff.1 e)
      omega
     have:=rf_keyed_1 s v hv c2 v.l.length 0 (by omega)
     simp only [List.take_zero,List.map_nil,List.drop_zero,Int.cast_ofNat_Int] at this
     simp only [c1,e,c3,c4',decide_true,decide_false,Bool.not_true,Bool.false_eq_true,if_false,this,c2,c4,ne_eq,not_false_eq_true,and_self,Bool.true_and]
   ·simp [c1,c3]
 ·simp [c1]
def oE (o:Option Sch):IV:=(o.getD zeroSch).enc
theorem rf_composite (o:Option Sch) (v:Val) (hv:v.mass≤1048576):W F153 0 [oE o,.bool o.isSome,v.enc]=some [.bool !(kids o v).isEmpty]:=by
 rw [e_F153_0]
 cases o with
 | none=>simp [kids]
 | some s=>
  simp only [oE,Option.isSome_some,O.cnd_bool,if_true,Option.getD_some,rf_keyed s v hv,O.calls_1,Option.bind_some,Sch.proj0,O.eq_int,Val.proj0,Val.proj4,lenm,O.gt_int,ite_some,ite_ivbool]
  congr 3
  rw [kids]
  by_cases c1:s.k=v.k
  ·rw [if_pos c1,c1]
   by_cases c2:v.k=5
   ·rw [if_pos c2,List.isEmpty_map]
    cases v.f<;>simp [c2]
   ·rw [if_neg c2]
    by_cases c3:v.k=4
    ·by_cases c4:s.key=emptyB
     ·simp [c4,c3]
     ·cases hl:v.l with
      | nil=>simp [c3]
      | cons a l=>
       cases hk:keyedL s.key [] (a::l)<;>simp [c3,c4]
    ·simp [c3,c2]
  ·rw [if_neg c1]
   by_cases c2:s.k=5
   ·have: ¬ v.k=5:=fun e=>c1 (c2.trans e.symm)
    simp [c2,this]
   ·by_cases c3:s.k=4
    ·have: ¬ v.k=4:=fun e=>c1 (c3.trans e.symm)
     simp [c3,this]
    ·simp [c2,c3]
theorem rf_under_1 (s:Sch) (nm:ByteArray) (hs:s.mass≤1048576) (y3 y4 y5 y6:IV): ∀ (n i:Nat),i+n=s.f.length→
  W F155 1 [.str nm,.int i,s.enc,y3,y4,y5,y6]=some [oE (((s.f.drop i).find? fun p=>decide (p.nm=nm)).map (·.s)),.bool ((s.f.drop i).find? fun p=>decide (p.nm=nm)).isSome]
 | 0,i,h=>by
  have:i=s.f.length:=by omega
  subst this
  rw [e_F155_1,List.drop_length]
  simp only [Sch.proj6,lenm,ltn,Option.bind_some,O.cnd_bool,Bool.false_eq_true,if_false,O.mkagg_eq];rfl
 | n+1,i,h=>by
  have hi:i<s.f.length:=by omega
  have hm:=s.mass_len_f
  have ih:=rf_under_1 s nm hs y3 y4 y5 y6 n (i+1) (by omega)
  rw [e_F155_1,List.drop_eq_getElem_cons hi,List.find?_cons]
  simp only [Sch.proj6,lenm,lti hi,Option.bind_some,O.cnd_bool,if_true,idxm SFld.enc hi,SFld.proj0,O.sEq_str,SFld.projS,nxt (show i<4611686018427387904 by omega),ih]
  by_cases c:s.f[i].nm =nm
  ·simp [c,oE]
  ·have c':decide (s.f[i].nm =nm)=false:=by simpa using c
   simp only [c',Bool.false_eq_true,if_false]
theorem rf_under (s:Sch) (nm:ByteArray) (hs:s.mass≤1048576) (hsb:SB s):W F155 0 [s.enc,.str nm]=some [oE (subS s nm),.bool (subS s nm).isSome]:=by
 have h1:=hsb.one
 have:=rf_under_1 s nm hs (.int 0) (.int 0) (.int 0) (.str ⟨#[]⟩) s.f.length 0 (by omega)
 rw [List.drop_zero] at this
 rw [e_F155_0]
 simp only [Sch.proj5,Option.bind_some,lenm,O.eq_int,O.cnd_bool]
 unfold subS
 cases hit:s.it with
 | nil=>
  have h0:decide (((([]:List Sch).length :Nat):Int)=1)=false:=by decide
  simp only [h0,Bool.false_eq_true,if_false,Option.isSome_map]
  exact this
 | cons t ts=>
  have hn:ts= []:=by rw [hit] at h1;simp at h1;exact h1
  subst hn
  simp [oE]
end Go.CT.Sch
namespace Go.CT.Sch
open Go.Proofs
theorem apS (l m:List ByteArray) (h:l.length+m.length≤137438953471):O.append 16 (SL l) (SL m)=some (SL (l++m)):=by
 unfold SL Srt.LE
 rw [O.append_list,if_pos]
 ·simp
 ·have:(l.length+m.length) * 16≤137438953472 * 1024:=Nat.mul_le_mul (by omega) (by decide)
  simp only [List.length_map]
  unfold maxBytes;omega
theorem rf_leaves: ∀ (n:Nat) (o:Option Sch) (v:Val) (p:List Stp),v.size≤n→OSB o→v.mass≤1048576→v.valid=true→(∀s∈p,s.fits)→p.length+n≤1073741824→
  W F152 0 [oE o,.bool o.isSome,v.enc,.list (p.map Stp.enc)]=some [SL (lv n o v p)]
 | 0,o,v,p,h,_,_,_,_,_=>by have:=v.size_pos;omega
 | n+1,o,v,p,h,hsb,hv,hvv,hp,hl=>by
  have htot:=lv_len (n+1) o v p
  have hsm:=v.size_mass
  have recu: ∀x∈kids o v,x.2.1.valid=true→W F152 0 [oE x.2.2,.bool x.2.2.isSome,x.2.1.enc,.list ((p++ [x.1]).map Stp.enc)]=some [SL (lv n x.2.2 x.2.1 (p++ [x.1]))]:=by
   intro x hx hxv
   obtain ⟨h1,h2⟩:=kids_size hx
   exact rf_leaves n x.2.2 x.2.1 (p++ [x.1]) (by omega) (kids_sb hsb hx) (by omega) hxv (fits_snoc hp (kids_fits hsb hv hx)) (by simp;omega)
  rw [lv] at htot ⊢
  rw [e_F152_0]
  simp only [rf_composite o v hv,O.calls_1,O.not_bool,Bool.not_not,Option.bind_some,O.cnd_bool]
  by_cases c:kids o v= []
  ·simp only [c,List.isEmpty_nil,if_true,ref_print p hp (by omega),O.calls_2,O.mklist_eq,Option.bind_some];rfl
  ·have c':(kids o v).isEmpty =false:=by simpa using c
   rw [if_neg c] at htot
   simp only [c',Bool.false_eq_true,if_false,c]
   cases o with
   | none=>simp [kids] at c
   | some s=>
    obtain ⟨hsb1,hs⟩:=hsb s rfl
    have loop2:v.k=5→kids (some s) v=v.f.map (memKid s)→ ∀ (m i:Nat) (out:List ByteArray),i+m=v.f.length→out.length+(((kids (some s) v).drop i).flatMap fun x=>lv n x.2.2 x.2.1 (p++ [x.1])).length ≤1048576→
      W F152 2 [.list (p.map Stp.enc),.int i,s.enc,v.enc,SL out]=some [SL (out++((kids (some s) v).drop i).flatMap fun x=>lv n x.2.2 x.2.1 (p++ [x.1]))]:=by
     intro hk5 hkids m
     induction m with
     | zero=>
      intro i out hi _
      have:i=v.f.length:=by omega
      subst this
      have hd:(kids (some s) v).drop v.f.length= []:=List.drop_of_length_le (by rw [hkids,List.length_map];exact Nat.le_refl _)
      rw [e_F152_2,hd]
      simp only [Val.proj4,lenm,ltn,Option.bind_some,O.cnd_bool,Bool.false_eq_true,if_false,List.flatMap_nil,List.append_nil]
     | succ m ih=>
      intro i out hi ho
      have hi':i<v.f.length:=by omega
      have hi2:i<(kids (some s) v).length :=by rw [hkids,List.length_map];exact hi'
      have hlen:=v.mass_len_f
      have hge:(kids (some s) v)[i]=memKid s v.f[i]:=by simp only [hkids,List.getElem_map]
      have hr:=recu _ (List.getElem_mem hi2) (by rw [hge];exact (valid_f hvv (List.getElem_mem hi')).1)
      rw [List.drop_eq_getElem_cons hi2,List.flatMap_cons,List.length_append] at ho
      rw [hge] at hr ho
      have hr':W F152 0 [oE (subS s v.f[i].1),.bool (subS s v.f[i].1).isSome,v.f[i].2.enc,.list ((p++ [fldStp v.f[i].1]).map Stp.enc)]=some [SL (lv n (memKid s v.f[i]).2.2 (memKid s v.f[i]).2.1 (p++ [(memKid s v.f[i]).1]))]:=hr
      have he:IV.agg [.int 1,.str v.f[i].1,.int 0,.str ⟨#[]⟩]=(fldStp v.f[i].1).enc :=rfl
      rw [e_F152_2]
      simp only [Val.proj4,lenm,lti hi',Option.bind_some,O.cnd_bool,if_true,idxm Fld.enc hi',Fld.proj0,rf_under s v.f[i].1 hs hsb1,O.calls_2,Fld.projV,O.mkagg_eq,he,ref_then p (fldStp v.f[i].1) (show p.length≤1099511627776 by omega),O.calls_1,hr']
      rw [apS _ _ (by omega)]
      simp only [Option.bind_some,nxt (show i<4611686018427387904 by omega)]
      rw [ih (i+1) _ (by omega) (by simp only [List.length_append];omega),List.drop_eq_getElem_cons hi2,List.flatMap_cons,List.append_assoc,hge]
    have loop1: ∀t,s.it= [t]→kids (some s) v=v.l.map (elKid s)→v.f= []→(∀x∈v.l,hasKey x s.key=true)→ ∀ (m i:Nat) (out:List ByteArray),i+m=v.l.length→out.length+(((kids (some s) v).drop i).flatMap fun x=>lv n x.2.2 x.2.1 (p++ [x.1])).length ≤1048576→
      W F152 1 [.list (p.map Stp.enc),.int i,s.enc,v.enc,SL out]=some [SL (out++((kids (some s) v).drop i).flatMap fun x=>lv n x.2.2 x.2.1 (p++ [x.1]))]:=by
     intro t ht hkids hf hkey m
     induction m with
     | zero=>
      intro i out hi _
      have:i=v.l.length:=by omega
      subst this
      have hd:(kids (some s) v).drop v.l.length= []:=List.drop_of_length_le (by rw [hkids,List.length_map];exact Nat.le_refl _)
      have h0:O.lt (.int 0) (.int 0)=some (.bool false):=rfl
      rw [e_F152_1,hd]
      simp only [Val.proj3,lenm,ltn,Option.bind_some,O.cnd_bool,Bool.false_eq_true,if_false,List.flatMap_nil,List.append_nil]
      rw [e_F152_2]
      simp only [Val.proj4,hf,List.map_nil,O.len_list,List.length_nil,Int.cast_ofNat_Int,h0,Option.bind_some,O.cnd_bool,Bool.false_eq_true,if_false]
     | succ m ih=>
      intro i out hi ho
      have hi':i<v.l.length:=by omega
      have hi2:i<(kids (some s) v).length :=by rw [hkids,List.length_map];exact hi'
      have hlen:=v.mass_len_l
      have hm:=Val.mass_l (List.getElem_mem hi')
      have hge:(kids (some s) v)[i]=elKid s v.l[i]:=by simp only [hkids,List.getElem_map]
      have hr:=recu _ (List.getElem_mem hi2) (by rw [hge];exact valid_l hvv (List.getElem_mem hi'))
      rw [List.drop_eq_getElem_cons hi2,List.flatMap_cons,List.length_append] at ho
      rw [hge] at hr ho
      have hst:=elKid_step (i:=i) (hkey _ (List.getElem_mem hi'))
      have hr':W F152 0 [oE s.it.head?,.bool s.it.head?.isSome,v.l[i].enc,.list ((p++ [kStp s.key v.l[i]]).map Stp.enc)]=some [SL (lv n (elKid s v.l[i]).2.2 (elKid s v.l[i]).2.1 (p++ [(elKid s v.l[i]).1]))]:=hr
      rw [ht] at hr'
      have hr'':W F152 0 [t.enc,.bool true,v.l[i].enc,.list ((p++ [kStp s.key v.l[i]]).map Stp.enc)]=some [SL (lv n (elKid s v.l[i]).2.2 (elKid s v.l[i]).2.1 (p++ [(elKid s v.l[i]).1]))]:=hr'
      rw [e_F152_1]
      simp only [Val.proj3,lenm,lti hi',Option.bind_some,O.cnd_bool,if_true,Sch.proj5,ht,List.map_cons,List.map_nil,O.index_list,Int.le_refl,Int.toNat_zero,List.getElem?_cons_zero,Int.natCast_nonneg,Int.toNat_natCast,List.getElem?_map,List.getElem?_eq_getElem hi',Option.map_some,
       ref_element s v.l i hi' (by omega),O.calls_1,hst,ref_then p (kStp s.key v.l[i]) (show p.length≤1099511627776 by omega),hr'']
      rw [apS _ _ (by omega)]
      simp only [Option.bind_some,nxt (show i<4611686018427387904 by omega)]
      rw [ih (i+1) _ (by omega) (by simp only [List.length_append];omega),List.drop_eq_getElem_cons hi2,List.flatMap_cons,List.append_assoc,hge]
    show W F152 1 [.list (p.map Stp.enc),.int 0,s.enc,v.enc,SL []]=_
    have hkk:=c
    rw [kids] at hkk
    by_cases c1:s.k=v.k
    ·rw [if_pos c1] at hkk
     by_cases c2:v.k=5
     ·have hkids:kids (some s) v=v.f.map (memKid s):=by rw [kids,if_pos c1,if_pos c2];rfl
      have hnl:=valid_nol hvv (by omega)
      have h0:O.lt (.int 0) (.int 0)=some (.bool false):=rfl
      have:=loop2 c2 hkids v.f.length 0 [] (by omega) (by rw [List.drop_zero];simp only [List.length_nil];omega)
      rw [List.drop_zero,List.nil_append] at this
      rw [e_F152_1]
      simp only [Val.proj3,hnl,List.map_nil,O.len_list,List.length_nil,Int.cast_ofNat_Int,h0,Option.bind_some,O.cnd_bool,Bool.false_eq_true,if_false]
      exact this
     ·rw [if_neg c2] at hkk
      by_cases c3:v.k=4∧s.key≠emptyB∧keyedL s.key [] v.l=true
      ·have hkids:kids (some s) v=v.l.map (elKid s):=by rw [kids,if_pos c1,if_neg c2,if_pos c3];rfl
       obtain ⟨t,ht⟩: ∃t,s.it= [t]:=List.length_eq_one_iff.1 (hsb1.list (by omega))
       have hkey: ∀x∈v.l,hasKey x s.key=true:=fun x hx=>by
        have:=keyedL_isKey c3.2.2 x hx
        unfold hasKey;simp [this,c3.2.1]
       have:=loop1 t ht hkids (valid_nof hvv c2) hkey v.l.length 0 [] (by omega) (by rw [List.drop_zero];simp only [List.length_nil];omega)
       rw [List.drop_zero,List.nil_append] at this
       exact this
      ·rw [if_neg c3] at hkk;exact absurd rfl hkk
    ·rw [if_neg c1] at hkk;exact absurd rfl hkk
theorem rf_good (s:Sch) (v:Val) (hs:s.mass≤1048576) (hv:v.mass≤1048576):W F121 0 [s.enc,v.enc]=some [.bool (s.valid&&v.valid)]:=by
 rw [e_F121_0]
 simp only [ref_Svalid s hs,ref_Valid v (by omega),O.calls_1,O.cnd_bool,ite_some,ite_ivbool,Option.bind_some]
 cases s.valid<;>cases v.valid<;>rfl
theorem rf_Leaves (s:Sch) (v:Val) (hs:s.mass≤1048576) (hv:v.mass≤1048576):W F120 0 [s.enc,v.enc]=some [SL (leavesB s v)]:=by
 rw [e_F120_0]
 simp only [rf_good s v hs hv,O.calls_1,O.not_bool,Option.bind_some,O.cnd_bool]
 unfold leavesB
 cases c:s.valid&&v.valid with
 | false=>simp only [Bool.not_false,if_true,Bool.false_eq_true,if_false];rfl
 | true=>
  have c1:s.valid=true∧v.valid=true:=by simpa using c
  have hsz:=v.size_mass
  have hl:=lv_len v.size (some s) v []
  have hw:=rf_leaves v.size (some s) v [] (Nat.le_refl _) (fun t ht=>by cases ht;exact ⟨Sch.valid_SB c1.1,hs⟩) hv c1.2 (by simp) (by simp;omega)
  have hw':W F152 0 [s.enc,.bool true,v.enc,.list []]=some [SL (lv v.size (some s) v [])]:=hw
  have hu:=runion (lv v.size (some s) v []) [] (by simp only [List.length_nil];omega)
  have hu':W F156 0 [SL (lv v.size (some s) v []),.list []]=some [SL (setB (lv v.size (some s) v []++ []))]:=hu
  rw [List.append_nil] at hu'
  simp only [Bool.not_true,Bool.false_eq_true,if_false,if_true,hw',O.calls_1,hu']
end Go.CT.Sch
namespace Go.CT.Sch
open Go.Proofs
theorem small_tot (v:Val) (hv:v.mass≤1099511627776) (n:Int) (h0:0≤n) (h1:n≤1000): ∃b,W F3 0 [v.enc,.int n]=some [.bool b]:=by
 obtain ⟨r,h,_⟩:=ref_count v hv n n (by omega) (by omega) (by omega)
 exact ⟨decide (0≤r),by rw [e_F3_0];simp [h]⟩
def PtT (s:Sch):Prop:=s.mass≤1048576→ ∀c:Int,c≤100000→ ∃r:Int,W F2 0 [s.enc,.int c]=some [.int r]∧r≤100000
theorem parts_3 (s:Sch) (hs:s.mass≤1048576) (c:Int) (i:Nat) (hi:i<s.f.length) (K: ∃r:Int,(∃r':Int,W F2 0 [s.f[i].s.enc,.int c]=some [.int r']∧W F2 2 [.int r',.int (i+1:Nat),s.enc]=some [.int r])∧r≤100000): ∀ (n j:Nat),j+n=s.f[i].df.length →
  ∃r:Int,W F2 3 [.int c,.int i,.int j,s.enc]=some [.int r]∧r≤100000
 | 0,j,h=>by
  have hj:j=s.f[i].df.length :=by omega
  subst hj
  have hm:=s.mass_len_f
  obtain ⟨r,⟨r',h1,h2⟩,h3⟩:=K
  rw [e_F2_3]
  exact ⟨r,by simp only [Sch.proj6,Option.bind_some,idxm SFld.enc hi,SFld.proj3,lenm,ltn,O.cnd_bool,Bool.false_eq_true,if_false,SFld.projS,h1,O.calls_1,nxt (show i<4611686018427387904 by omega),h2],h3⟩
 | n+1,j,h=>by
  have hj:j<s.f[i].df.length :=by omega
  have hd:=Sch.mass_d (List.getElem_mem hi) (List.getElem_mem hj)
  have hl:s.f[i].df.length ≤4294967296:=by
   have:=Sch.mass_f (List.getElem_mem hi)
   have:=massVs_len6 s.f[i].df
   omega
  obtain ⟨b,hb⟩:=small_tot s.f[i].df[j] (by omega) 50 (by omega) (by omega)
  obtain ⟨r,hr,hr2⟩:=parts_3 s hs c i hi K n (j+1) (by omega)
  rw [e_F2_3]
  simp only [Sch.proj6,Option.bind_some,idxm SFld.enc hi,SFld.proj3,lenm,lti hj,O.cnd_bool,if_true,O.gt_int,idxm Val.enc hj,hb,O.calls_1,O.not_bool,ite_some,ite_ivbool,nxt (show j<4611686018427387904 by omega),hr]
  by_cases c1:(2:Int)<j
  ·exact ⟨-1,by simp [c1],by omega⟩
  ·cases b
   ·exact ⟨-1,by simp [c1],by omega⟩
   ·exact ⟨r,by simp [c1],hr2⟩
theorem parts_2 (s:Sch) (hs:s.mass≤1048576) (ih: ∀p∈s.f,PtT p.s): ∀ (n i:Nat) (c:Int),i+n=s.f.length→c≤100000→
  ∃r:Int,W F2 2 [.int c,.int i,s.enc]=some [.int r]∧r≤100000
 | 0,i,c,h,hc=>by
  have hi:i=s.f.length:=by omega
  subst hi
  rw [e_F2_2]
  exact ⟨c,by simp only [Sch.proj6,Option.bind_some,lenm,ltn,O.cnd_bool,Bool.false_eq_true,if_false],hc⟩
 | n+1,i,c,h,hc=>by
  have hi:i<s.f.length:=by omega
  have hm:=Sch.mass_f (List.getElem_mem hi)
  obtain ⟨r',h1,h2⟩:=ih _ (List.getElem_mem hi) (by omega) c hc
  obtain ⟨r,h3,h4⟩:=parts_2 s hs ih n (i+1) r' (by omega) h2
  obtain ⟨r2,h5,h6⟩:=parts_3 s hs c i hi ⟨r,⟨r',h1,h3⟩,h4⟩ s.f[i].df.length 0 (by omega)
  have h5':W F2 3 [.int c,.int i,.int 0,s.enc]=some [.int r2]:=h5
  rw [e_F2_2]
  by_cases c1:0≤c
  ·exact ⟨r2,by simp only [Sch.proj6,Option.bind_some,lenm,lti hi,O.cnd_bool,if_true,O.ge_int,c1,decide_true,h5'],h6⟩
  ·exact ⟨c,by simp only [Sch.proj6,Option.bind_some,lenm,lti hi,O.cnd_bool,if_true,O.ge_int,c1,decide_false,Bool.false_eq_true,if_false],hc⟩
theorem parts_1 (s:Sch) (hs:s.mass≤1048576) (ih: ∀t∈s.it,PtT t) (ihf: ∀p∈s.f,PtT p.s): ∀ (n i:Nat) (c:Int),i+n=s.it.length→c≤100000→
  ∃r:Int,W F2 1 [.int c,.int i,s.enc]=some [.int r]∧r≤100000
 | 0,i,c,h,hc=>by
  have hi:i=s.it.length:=by omega
  subst hi
  obtain ⟨r,h1,h2⟩:=parts_2 s hs ihf s.f.length 0 c (by omega) hc
  have h1':W F2 2 [.int c,.int 0,s.enc]=some [.int r]:=h1
  rw [e_F2_1]
  exact ⟨r,by simp only [Sch.proj5,Option.bind_some,lenm,ltn,O.cnd_bool,Bool.false_eq_true,if_false,h1'],h2⟩
 | n+1,i,c,h,hc=>by
  have hi:i<s.it.length:=by omega
  have hl:=s.mass_len_it
  have hm:=Sch.mass_it (List.getElem_mem hi)
  obtain ⟨r',h1,h2⟩:=ih _ (List.getElem_mem hi) (by omega) c hc
  obtain ⟨r,h3,h4⟩:=parts_1 s hs ih ihf n (i+1) r' (by omega) h2
  obtain ⟨r2,h5,h6⟩:=parts_2 s hs ihf s.f.length 0 c (by omega) hc
  have h5':W F2 2 [.int c,.int 0,s.enc]=some [.int r2]:=h5
  rw [e_F2_1]
  by_cases c1:0≤c
  ·exact ⟨r,by simp only [Sch.proj5,Option.bind_some,lenm,lti hi,O.cnd_bool,if_true,O.ge_int,c1,decide_true,idxm Sch.enc hi,h1,O.calls_1,nxt (show i<4611686018427387904 by omega),h3],h4⟩
  ·exact ⟨r2,by simp only [Sch.proj5,Option.bind_some,lenm,lti hi,O.cnd_bool,if_true,O.ge_int,c1,decide_false,Bool.false_eq_true,if_false,h5'],h6⟩
theorem parts_tot: ∀s:Sch,PtT s:=by
 refine Sch.ind fun s ih1 ih2 hs c hc=>?_
 rw [e_F2_0]
 simp only [O.le_int,Option.bind_some,O.cnd_bool,Sch.proj3,lenm,O.gt_int,ite_some,ite_ivbool,O.sub_int]
 by_cases c1:c≤0
 ·exact ⟨-1,by simp [c1],by omega⟩
 ·by_cases c2:(100:Int)<s.en.length
  ·exact ⟨-1,by simp [c1,c2],by omega⟩
  ·have hw:IntKind.i64.wrap (c - 1)=c - 1:=wrap64 (by omega) (by omega)
   obtain ⟨r,h1,h2⟩:=parts_1 s hs ih1 ih2 s.it.length 0 (c - 1) (by omega) (by omega)
   have h1':W F2 1 [.int (c - 1),.int 0,s.enc]=some [.int r]:=h1
   exact ⟨r,by simp only [c1,c2,decide_false,Bool.false_eq_true,if_false,hw,h1'],h2⟩
theorem light_tot (s:Sch) (v:Val) (l:List ByteArray) (hs:s.mass≤1048576) (hv:v.mass≤1048576): ∃b,W F1 0 [s.enc,v.enc,SL l]=some [.bool b]:=by
 obtain ⟨r,h1,_⟩:=parts_tot s hs 60 (by omega)
 obtain ⟨b,h2⟩:=small_tot v (by omega) 100 (by omega) (by omega)
 rw [e_F1_0]
 simp only [h1,O.calls_1,O.ge_int,Option.bind_some,O.cnd_bool,h2,ite_some,Srt.len,O.le_int,ite_ivbool]
 exact ⟨_,rfl⟩
theorem leavesB_len (s:Sch) (v:Val):(leavesB s v).length ≤v.size:=by
 unfold leavesB
 split
 ·exact Nat.le_trans (setB_len _) (lv_len _ _ _ _)
 ·simp
theorem law_leaves (hA:W F5 0 []=some [.bool true]) (s:Sch) (v:Val) (hs:s.mass≤1048576) (hv:v.mass≤1048576):W F0 0 [s.enc,v.enc]=some [.bool true]:=by
 obtain ⟨b,hb⟩:=light_tot s v [] hs hv
 have hb':W F1 0 [s.enc,v.enc,.list []]=some [.bool b]:=hb
 have hl:=leavesB_len s v
 have hm:=v.size_mass
 rw [e_F0_0]
 simp only [hb',O.calls_1,O.not_bool,Option.bind_some,O.cnd_bool,hA,pf_Leaves s v hs hv,rf_Leaves s v hs hv,fsame (leavesB s v) (by omega),if_true]
 cases b<;>simp
end Go.CT.Sch
namespace Go.CT.Sch
open Go.Proofs
theorem awake10:W F5 0 []=some [.bool true]:=V_run 600 (by kernel_rfl)
end Go.CT.Sch
namespace Go.CT.Sch
open Go.Proofs
theorem wt_int {x:IV} (h:WT Tryz.prog 3 x): ∃n,x= .int n:=by
 obtain ⟨n,rfl,_⟩:=h.int_inv (k:= .i64) (by kernel_rfl)
 exact ⟨n,rfl⟩
theorem wt_str {x:IV} (h:WT Tryz.prog 9 x): ∃s,x= .str s:=by
 obtain ⟨s,rfl,_⟩:=h.str_inv (by kernel_rfl)
 exact ⟨s,rfl⟩
theorem wt_bool {x:IV} (h:WT Tryz.prog 4 x): ∃b,x= .bool b:=h.bool_inv (by kernel_rfl)
theorem wt_strs {x:IV} (h:WT Tryz.prog 22 x): ∃l:List ByteArray,x= .list (l.map .str):=by
 obtain ⟨xs,rfl,_,h⟩:=h.list_inv (e:=9) (by kernel_rfl)
 obtain ⟨es,rfl,_⟩:=list_form (enc:=IV.str) (ok:=fun _=>True) (xs:=xs) fun x hx=>by
  obtain ⟨s,e⟩:=wt_str (h x hx)
  exact ⟨s,e,trivial⟩
 exact ⟨es,rfl⟩
theorem wt_vals {x:IV} (hx:WT Tryz.prog 30 x) (h: ∀y,y.bulk<x.bulk→WT Tryz.prog 33 y→ ∃v:Val,y=v.enc): ∃l:List Val,x= .list (l.map Val.enc):=by
 obtain ⟨xs,rfl,_,hh⟩:=hx.list_inv (e:=33) (by kernel_rfl)
 obtain ⟨es,rfl,_⟩:=list_form (enc:=Val.enc) (ok:=fun _=>True) (xs:=xs) fun y hy=>by
  have hb:y.bulk<(IV.list xs).bulk :=by have:=bulk_mem hy;simp only [IV.bulk];omega
  obtain ⟨s,e⟩:=h y hb (hh y hy)
  exact ⟨s,e,trivial⟩
 exact ⟨es,rfl⟩
theorem wt_fields {x:IV} (hx:WT Tryz.prog 31 x) (h: ∀y,y.bulk<x.bulk→WT Tryz.prog 70 y→ ∃p,y=Fld.enc p): ∃l:List (ByteArray × Val),x= .list (l.map Fld.enc):=by
 obtain ⟨xs,rfl,_,hh⟩:=hx.list_inv (e:=70) (by kernel_rfl)
 obtain ⟨es,rfl,_⟩:=list_form (enc:=Fld.enc) (ok:=fun _=>True) (xs:=xs) fun y hy=>by
  have hb:y.bulk<(IV.list xs).bulk :=by have:=bulk_mem hy;simp only [IV.bulk];omega
  obtain ⟨s,e⟩:=h y hb (hh y hy)
  exact ⟨s,e,trivial⟩
 exact ⟨es,rfl⟩
theorem wt_valn: ∀ (n:Nat) (x:IV),x.bulk≤n→(WT Tryz.prog 33 x→ ∃v:Val,x=v.enc)∧(WT Tryz.prog 70 x→ ∃p,x=Fld.enc p)
 | 0,x,hb=>by have:=bulk_pos x;omega
 | n+1,x,hb=>by
  have hV: ∀y:IV,y.bulk≤n→WT Tryz.prog 30 y→ ∃l:List Val,y= .list (l.map Val.enc):=fun y hy h=>wt_vals h fun z hz hw=>(wt_valn n z (by omega)).1 hw
  have hF: ∀y:IV,y.bulk≤n→WT Tryz.prog 31 y→ ∃l:List (ByteArray × Val),y= .list (l.map Fld.enc):=fun y hy h=>wt_fields h fun z hz hw=>(wt_valn n z (by omega)).2 hw
  constructor
  ·intro h
   obtain ⟨xs,rfl,h2⟩:=h.agg_inv (ts:= [3,3,9,30,31]) (by kernel_rfl) (by kernel_rfl)
   obtain ⟨a,xs,rfl,ha,h⟩:=h2.cons_inv
   obtain ⟨b,xs,rfl,hb,h⟩:=h.cons_inv
   obtain ⟨c,xs,rfl,hc,h⟩:=h.cons_inv
   obtain ⟨d,xs,rfl,hd,h⟩:=h.cons_inv
   obtain ⟨e,xs,rfl,he,h⟩:=h.cons_inv
   obtain rfl:=h.nil_inv
   simp only [IV.bulk,IV.bulks] at hb
   obtain ⟨k,rfl⟩:=wt_int ha
   obtain ⟨m,rfl⟩:=wt_int ‹WT Tryz.prog 3 b›
   obtain ⟨s,rfl⟩:=wt_str hc
   obtain ⟨l,rfl⟩:=hV d (by omega) hd
   obtain ⟨f,rfl⟩:=hF e (by omega) he
   exact ⟨⟨k,m,s,l,f⟩,Val.fold _ _ _ _ _⟩
  ·intro h
   obtain ⟨xs,rfl,h2⟩:=h.agg_inv (ts:= [9,3,3,9,30,31]) (by kernel_rfl) (by kernel_rfl)
   obtain ⟨z,xs,rfl,hz,h⟩:=h2.cons_inv
   obtain ⟨a,xs,rfl,ha,h⟩:=h.cons_inv
   obtain ⟨b,xs,rfl,hb,h⟩:=h.cons_inv
   obtain ⟨c,xs,rfl,hc,h⟩:=h.cons_inv
   obtain ⟨d,xs,rfl,hd,h⟩:=h.cons_inv
   obtain ⟨e,xs,rfl,he,h⟩:=h.cons_inv
   obtain rfl:=h.nil_inv
   simp only [IV.bulk,IV.bulks] at hb
   obtain ⟨nm,rfl⟩:=wt_str hz
   obtain ⟨k,rfl⟩:=wt_int ha
   obtain ⟨m,rfl⟩:=wt_int ‹WT Tryz.prog 3 b›
   obtain ⟨s,rfl⟩:=wt_str hc
   obtain ⟨l,rfl⟩:=hV d (by omega) hd
   obtain ⟨f,rfl⟩:=hF e (by omega) he
   exact ⟨(nm,⟨k,m,s,l,f⟩),Fld.fold _ _ _ _ _ _⟩
theorem wt_val {x:IV} (h:WT Tryz.prog 33 x): ∃v:Val,x=v.enc:=(wt_valn _ x (Nat.le_refl _)).1 h
theorem wt_vallist {x:IV} (h:WT Tryz.prog 30 x): ∃l:List Val,x= .list (l.map Val.enc):=wt_vals h fun _ _ hw=>wt_val hw
theorem wt_schs {x:IV} (hx:WT Tryz.prog 23 x) (h: ∀y,y.bulk<x.bulk→WT Tryz.prog 26 y→ ∃v:Sch,y=v.enc): ∃l:List Sch,x= .list (l.map Sch.enc):=by
 obtain ⟨xs,rfl,_,hh⟩:=hx.list_inv (e:=26) (by kernel_rfl)
 obtain ⟨es,rfl,_⟩:=list_form (enc:=Sch.enc) (ok:=fun _=>True) (xs:=xs) fun y hy=>by
  have hb:y.bulk<(IV.list xs).bulk :=by have:=bulk_mem hy;simp only [IV.bulk];omega
  obtain ⟨s,e⟩:=h y hb (hh y hy)
  exact ⟨s,e,trivial⟩
 exact ⟨es,rfl⟩
theorem wt_sfields {x:IV} (hx:WT Tryz.prog 24 x) (h: ∀y,y.bulk<x.bulk→WT Tryz.prog 64 y→ ∃p:SFld,y=p.enc): ∃l:List SFld,x= .list (l.map SFld.enc):=by
 obtain ⟨xs,rfl,_,hh⟩:=hx.list_inv (e:=64) (by kernel_rfl)
 obtain ⟨es,rfl,_⟩:=list_form (enc:=SFld.enc) (ok:=fun _=>True) (xs:=xs) fun y hy=>by
  have hb:y.bulk<(IV.list xs).bulk :=by have:=bulk_mem hy;simp only [IV.bulk];omega
  obtain ⟨s,e⟩:=h y hb (hh y hy)
  exact ⟨s,e,trivial⟩
 exact ⟨es,rfl⟩
theorem wt_schn: ∀ (n:Nat) (x:IV),x.bulk≤n→(WT Tryz.prog 26 x→ ∃v:Sch,x=v.enc)∧(WT Tryz.prog 64 x→ ∃p:SFld,x=p.enc)
 | 0,x,hb=>by have:=bulk_pos x;omega
 | n+1,x,hbn=>by
  have hV: ∀y:IV,y.bulk≤n→WT Tryz.prog 23 y→ ∃l:List Sch,y= .list (l.map Sch.enc):=fun y hy h=>wt_schs h fun z hz hw=>(wt_schn n z (by omega)).1 hw
  have hF: ∀y:IV,y.bulk≤n→WT Tryz.prog 24 y→ ∃l:List SFld,y= .list (l.map SFld.enc):=fun y hy h=>wt_sfields h fun z hz hw=>(wt_schn n z (by omega)).2 hw
  have hS: ∀xs,WTs Tryz.prog [3,3,3,22,9,23,24] xs→IV.bulks xs≤n→ ∃s:Sch,xs=s.comps:=by
   intro xs h hb
   obtain ⟨a,xs,rfl,ha,h⟩:=h.cons_inv
   obtain ⟨b,xs,rfl,hb',h⟩:=h.cons_inv
   obtain ⟨c,xs,rfl,hc,h⟩:=h.cons_inv
   obtain ⟨d,xs,rfl,hd,h⟩:=h.cons_inv
   obtain ⟨e,xs,rfl,he,h⟩:=h.cons_inv
   obtain ⟨g,xs,rfl,hg,h⟩:=h.cons_inv
   obtain ⟨i,xs,rfl,hi,h⟩:=h.cons_inv
   obtain rfl:=h.nil_inv
   simp only [IV.bulks] at hb
   obtain ⟨k,rfl⟩:=wt_int ha
   obtain ⟨m,rfl⟩:=wt_int hb'
   obtain ⟨o,rfl⟩:=wt_int hc
   obtain ⟨en,rfl⟩:=wt_strs hd
   obtain ⟨key,rfl⟩:=wt_str he
   obtain ⟨it,rfl⟩:=hV g (by omega) hg
   obtain ⟨f,rfl⟩:=hF i (by omega) hi
   exact ⟨⟨k,m,o,en,key,it,f⟩,by rw [Sch.comps_eq];rfl⟩
  constructor
  ·intro h
   obtain ⟨xs,rfl,h2⟩:=h.agg_inv (ts:= [3,3,3,22,9,23,24]) (by kernel_rfl) (by kernel_rfl)
   simp only [IV.bulk] at hbn
   obtain ⟨s,rfl⟩:=hS xs h2 (by omega)
   exact ⟨s,s.enc_eq.symm⟩
  ·intro h
   obtain ⟨xs,rfl,h2⟩:=h.agg_inv (ts:= [9,4,4,30,3,3,3,22,9,23,24]) (by kernel_rfl) (by kernel_rfl)
   obtain ⟨a,xs,rfl,ha,h⟩:=h2.cons_inv
   obtain ⟨b,xs,rfl,hb',h⟩:=h.cons_inv
   obtain ⟨c,xs,rfl,hc,h⟩:=h.cons_inv
   obtain ⟨d,xs,rfl,hd,h⟩:=h.cons_inv
   simp only [IV.bulk,IV.bulks] at hbn
   obtain ⟨s,rfl⟩:=hS xs h (by omega)
   obtain ⟨nm,rfl⟩:=wt_str ha
   obtain ⟨rq,rfl⟩:=wt_bool hb'
   obtain ⟨im,rfl⟩:=wt_bool hc
   obtain ⟨df,rfl⟩:=wt_vallist hd
   exact ⟨⟨nm,rq,im,df,s⟩,rfl⟩
theorem wt_sch {x:IV} (h:WT Tryz.prog 26 x): ∃s:Sch,x=s.enc:=(wt_schn _ x (Nat.le_refl _)).1 h
end Go.CT.Sch
