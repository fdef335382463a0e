/-
  AbsEz: parts of the proof.
-/
import Derived.Test.YtgiedjgdlckahaaGreatDoorTk03
namespace Go.Abs
theorem ba {s:Nat}:∀ {k:List Value},(∀ e∈k,(cl e).length=s)->(flatC k).length=k.length*s
 |[],_=>by simp[flatC]
 |x::k,hk=>by
  have ih:=ba (k:=k) (fun e m=>hk e (by simp[m]));have hx:=hk x (by simp);simp only[flatC,List.flatMap_cons,List.length_append] at ih ⊢;rw[ih,hx,List.length_cons,Nat.add_mul,Nat.one_mul,Nat.add_comm]
theorem bN (a b:List Value):flatC (a++b)=flatC a++flatC b:=by simp[flatC]
theorem kB {α:Type}{f:α->List Value}{s:Nat} (hs:0<s):∀ (l:List α),(∀ x∈l,(f x).length=s)->∀ i:Nat,(l.flatMap f)[i]?=(l[i/s]?).bind fun x=>(f x)[i%s]?
 |[],_,i=>by simp
 |x::l,hl,i=>by
  have hx:=hl x (by simp);rw[List.flatMap_cons];by_cases c:i<s
  ·rw[List.getElem?_append_left (by omega),Nat.div_eq_of_lt c,Nat.mod_eq_of_lt c];simp
  ·rw[List.getElem?_append_right (by omega),hx,kB hs l (fun y m=>hl y (by simp[m])) (i-s)]
   have h1:i/s=(i-s)/s+1:=by rw[<- Nat.add_div_right _ hs];congr 1;omega
   have h2:i%s=(i-s)%s:=by rw[Nat.mod_eq_sub_mod (by omega)]
   rw[h1,h2,List.getElem?_cons_succ]
theorem fF (a:Value) (b:List Value):flatC (a::b)=cl a++flatC b:=by simp[flatC]
theorem vf {s:Nat}{es:List Value} (hs:∀ e∈es,(cl e).length=s) {k:Nat}{u:Value} (hu:es[k]?=some u) {i:Nat} (hi:i<s):(flatC es)[k*s+i]?=(cl u)[i]?:=by
 have hs0:0<s:=by omega
 rw[flatC,kB hs0 es hs (k*s+i)]
 have h1:(k*s+i)/s=k:=by
  rw[Nat.mul_comm,Nat.mul_add_div hs0,Nat.div_eq_of_lt hi,Nat.add_zero]
 have h2:(k*s+i)%s=i:=by
  rw[Nat.mul_comm,Nat.mul_add_mod,Nat.mod_eq_of_lt hi]
 rw[h1,h2,hu];rfl
theorem uy {s:Nat}:∀ {es:List Value},(∀ e∈es,(cl e).length=s)->∀ l:Nat,flatC (es.drop l)=(flatC es).drop (l*s)
 |[],_,l=>by simp[flatC]
 |e::es,hs,0=>by simp
 |e::es,hs,l+1=>by
  have he:=hs e (by simp);rw[List.drop_succ_cons,uy (fun e m=>hs e (by simp[m])) l,fF,Nat.add_mul,Nat.one_mul,Nat.add_comm,<- he,List.drop_append];simp
theorem py {s:Nat}:∀ {es:List Value},(∀ e∈es,(cl e).length=s)->∀ l:Nat,flatC (es.take l)=(flatC es).take (l*s)
 |[],_,l=>by simp[flatC]
 |e::es,hs,0=>by simp[flatC]
 |e::es,hs,l+1=>by
  have he:=hs e (by simp);rw[List.take_succ_cons,fF,py (fun e m=>hs e (by simp[m])) l,fF,Nat.add_mul,Nat.one_mul,Nat.add_comm,<- he,List.take_append,List.take_of_length_le (Nat.le_add_right _ _)];simp
theorem VRel.ql {ι:Inj}{i:Nat}{es:List Value}{v':Value} (r:VRel ι (.iface i (.tuple ⟨es⟩)) v'):∃ a cap,v'=.slice a es.length cap/\es.length<=cap:=by
 cases r with
 |flNil _=>exact⟨none,0,rfl,Nat.le_refl _⟩
 |flEmpty _ a cap=>exact⟨_,cap,rfl,Nat.zero_le _⟩
 |fl _ _ b o cap C h0 h1 h2=>exact⟨_,cap,rfl,h2⟩
theorem VRel.ER {ι:Inj}{s j:Nat}{es:List Value}{v':Value} (r:VRel ι (.iface s (.iface j (.tuple ⟨es⟩))) v'):VRel ι (.iface s (.tuple ⟨es⟩)) v':=by
 cases r with
 |fnNil _=>exact .flNil s
 |fn _ _ _ _ _ _ h=>exact h
 |fcNil _=>exact .flNil s
 |fcEmpty _ a=>exact .flEmpty s a 0
 |fc _ _ _ _ _ h=>exact h
theorem VRel.Ij {ι:Inj}{s:Nat}{es:List Value}{v':Value} (r:VRel ι (.iface s (.tuple ⟨es⟩)) v') {k:Nat}{u:Value} (hu:es[k]?=some u) :
  ∃ b o cap,v'=.slice (some ⟨b,o,none⟩) es.length cap/\VRel ι (FP u) (.pointer (some ⟨b,o+k*s,none⟩)):=by
 have hk:k<es.length:=(List.getElem?_eq_some_iff.1 hu).1
 cases r with
 |flNil _=>simp at hk
 |flEmpty _ a cap=>simp at hk
 |fl _ _ b o cap C h0 h1 h2 h3 h4 h5 =>
  have hum:=h3 u (List.mem_of_getElem? hu)
  have hks:k*s+s<=es.length*s:=by
   have:(k+1)*s<=es.length*s:=Nat.mul_le_mul_right _ hk;rw[Nat.add_mul,Nat.one_mul] at this;exact this
  refine⟨b,o,cap,rfl,.fp u b (o+k*s) C h0 (by rw[hum];omega) fun i hi=>?_⟩;rw[hum] at hi;have:=h5 (k*s+i) (by omega);rw[List.getD,vf h3 hu hi,<- Nat.add_assoc] at this;exact this
theorem VRel.IQ {ι:Inj}{s:Nat}{es:List Value}{b o n cap:Nat} (r:VRel ι (.iface s (.tuple ⟨es⟩)) (.slice (some ⟨b,o,none⟩) n cap)) {l m:Nat} (hlm:l<=m) (hm:m<=es.length) {cap':Nat} (hc:m-l<=cap') :
  VRel ι (FL s ((es.drop l).take (m-l))) (.slice (some ⟨b,o+l*s,none⟩) (m-l) cap'):=by
 by_cases q:m-l=0
 ·rw[q,List.take_zero];exact .flEmpty s _ cap'
 cases r with
 |flEmpty _ _ _=>simp at hm;omega
 |fl _ _ _ _ _ C h0 h1 h2 h3 h4 h5 =>
  have hl:((es.drop l).take (m-l)).length=m-l:=by simp;omega
  have hne:(es.drop l).take (m-l)≠[]:=by
   intro e;rw[e] at hl;simp at hl;omega
  have hmul:m*s<=es.length*s:=Nat.mul_le_mul_right _ hm
  have hml:l*s+(m-l)*s=m*s:=by rw[<- Nat.add_mul];congr 1;omega
  have:=VRel.fl (ι:=ι) s ((es.drop l).take (m-l)) b (o+l*s) cap' C h0 hne (by omega) (fun e he=>h3 e (List.mem_of_mem_drop (List.mem_of_mem_take he))) (by rw[hl];omega) ?_
  ·rw[hl] at this;exact this
  ·intro i hi;rw[hl] at hi;have:=h5 (l*s+i) (by omega);rw[List.getD] at this ⊢;rw[py (fun e he=>h3 e (List.mem_of_mem_drop he)),uy h3,List.getElem?_take,if_pos hi,List.getElem?_drop,Nat.add_assoc];exact this
theorem VRel.lI {ι:Inj}{s:Nat}{es:List Value}{a:Addr}{n cap:Nat} (r:VRel ι (.iface s (.tuple ⟨es⟩)) (.slice (some a) n cap)) {l m:Nat} (hlm:l<=m) (hm:m<=es.length) {cap':Nat}{a':Addr} (hc:m-l<=cap') (ho:cap'≠0->a'=a.add (l*s)) :
  VRel ι (FL s ((es.drop l).take (m-l))) (.slice (some a') (m-l) cap'):=by
 by_cases q:m-l=0
 ·rw[q,List.take_zero];exact .flEmpty s a' cap'
 ·have hne:es≠[]:=by
   intro e;subst e;simp at hm;omega
  have hA:∃ b o,a=⟨b,o,none⟩:=by
   cases r with
   |flEmpty _ _ _=>exact absurd rfl hne
   |fl _ _ b o _ _ _ _ _ _ _ _=>exact⟨b,o,rfl⟩
  obtain⟨b,o,rfl⟩:=hA
  have he:a'=⟨b,o+l*s,none⟩:=by
   rw[ho (by omega)];unfold Addr.add;split
   ·rename_i hz;rw[hz];rfl
   ·rfl
  rw[he];exact r.IQ hlm hm hc
def uC (P:Program) (t:TypeId) (cs:Array Value) (off:Nat):Option Value :=
 match fB P t,aQ P t with
 |some true,some n=>match Nat.ble (off+n) cs.toList.length with
  |true=>some (FP (.agg ⟨(cs.toList.drop off).take n⟩))
  |false=>none
 |some false,_=>match cs.toList[off]? with
  |some u=>match u with
   |.agg _=>none
   |u=>some (FP u)
  |none=>none
 |_,_=>none
theorem pF {P:Program}{ι:Inj}{t:TypeId}{cs:Array Value}{off:Nat}{v:Value}{b o:Nat} (r:VRel ι (.iface 0 (.agg ⟨[.agg cs]⟩)) (.pointer (some ⟨b,o,none⟩))) (h:uC P t cs off=some v) :
  VRel ι v (.pointer (some ⟨b,o+off,none⟩)):=by
 cases r with
 |fp _ _ _ C h0 h1 h2 =>
  have hcl:cl (.agg cs)=cs.toList:=rfl;rw[hcl] at h1 h2;rw[Array.length_toList] at h1 h2;unfold uC at h;split at h
  ·rename_i n _ _;split at h
   ·rename_i hle;simp only[Option.some.injEq] at h;subst h;have hle:off+n<=cs.toList.length:=Nat.le_of_ble_eq_true hle;rw[Array.length_toList] at hle
    have hl:(cl (.agg ⟨(cs.toList.drop off).take n⟩)).length=n:=by simp[cl,Value.cells];omega
    refine .fp _ b (o+off) C h0 (by rw[hl];omega) fun i hi=>?_;rw[hl] at hi;have:=h2 (off+i) (by omega);rw[List.getD] at this ⊢
    have e:(cl (.agg ⟨(cs.toList.drop off).take n⟩))[i]?=cs.toList[off+i]?:=by
     simp only[cl,Value.cells];rw[List.getElem?_take,if_pos (by omega),List.getElem?_drop]
    rw[e,Nat.add_assoc];exact this
   ·cases h
  ·split at h
   ·rename_i u hu;rw[Array.getElem?_toList] at hu;have hlt:off<cs.size:=(Array.getElem?_eq_some_iff.1 hu).1
    have key:cl u=[u]->VRel ι (FP u) (.pointer (some ⟨b,o+off,none⟩)):=fun e=>by
     refine .fp u b (o+off) C h0 (by rw[e];simp;omega) fun i hi=>?_;rw[e] at hi ⊢;simp only[List.length_singleton,Nat.lt_one_iff] at hi;subst hi;have:=h2 off hlt;rw[List.getD,Array.getElem?_toList,hu] at this;simpa using this
    split at h
    ·cases h
    ·rename_i hna;simp only[Option.some.injEq] at h;subst h;refine key ?_
     cases u <;> first|rfl|exact absurd rfl (hna _)
   ·cases h
  ·cases h
def EH (P:Program) (t:TypeId) (cs:Array Value) (off:Nat):Option Value :=
 match fB P t,aQ P t with
 |some true,some n=>match Nat.ble (off+n) cs.toList.length with
  |true=>some (.agg ⟨(cs.toList.drop off).take n⟩)
  |false=>none
 |some false,_=>cs.toList[off]?
 |_,_=>none
theorem FX {P:Program}{t:TypeId}{cs:Array Value}{off:Nat}{v:Value} (h:EH P t cs off=some v):partOf P t cs off=some v:=by
 unfold EH at h;unfold partOf;split at h
 ·rename_i n h1 h2;simp only[h1,h2];split at h
  ·rename_i hle;have hle:off+n<=cs.toList.length:=Nat.le_of_ble_eq_true hle;rw[Array.length_toList] at hle;rw[if_pos hle];simp only[Option.some.injEq] at h ⊢;rw[<- h];congr 1;apply Array.ext';simp[List.extract_eq_take_drop]
  ·cases h
 ·rename_i h1;simp only[h1];rw[Array.getElem?_toList] at h;exact h
 ·cases h
def xX (P:Program) (t:TypeId) (i:Nat):Option (Nat×Nat) :=
 match P.underlying t with
 |some (.array _ e)=>match aQ P e with
  |some s=>some (i*s,s)
  |none=>none
 |some (.struct fs)=>match fs.toList[i]? with
  |some f=>match aQ P f.type with
   |some s=>some (f.offset,s)
   |none=>none
  |none=>none
 |_=>none
def eh (place:Nat->Option (Nat×Nat)) (cs:List Value):List (Nat×Value)->Option (List Value)
 |[]=>some cs
 |(i,v)::r=>match place i with
  |some (off,s)=>match Nat.beq (cl v).length s,Nat.ble (off+(cl v).length) cs.length with
   |true,true=>eh place (cs.take off++(cl v++cs.drop (off+(cl v).length))) r
   |_,_=>none
  |none=>none
def sW (P:Program):List Field->Bool
 |[]=>true
 |f::r=>match aQ P f.type with
  |some _=>sW P r
  |none=>false
def uO (P:Program) (t:TypeId) (ps:List (Nat×Value)):Option (List Value) :=
 match zeroOf P t with
 |some z=>match z.cells.toList.all aJ with
  |true=>match P.underlying t with
   |some (.array _ e)=>match aQ P e with
    |some _=>eh (xX P t) z.cells.toList ps
    |none=>none
   |some (.struct fs)=>match sW P fs.toList with
    |true=>eh (xX P t) z.cells.toList ps
    |false=>none
   |_=>none
  |false=>none
 |none=>none
theorem we (off:Nat):∀ (l:List Value) (n:Nat) (p q:List Value),l.length<=q.length->p.length=off+n ->
  ((l.zipIdx n).foldl (fun (cs:Array Value) (x:Value×Nat)=>cs.setIfInBounds (off+x.2) x.1) (p++q).toArray)=(p++(l++q.drop l.length)).toArray
 |[],n,p,q,_,_=>by simp
 |x::l,n,p,[],hle,_=>by simp at hle
 |x::l,n,p,y::q,hle,hp=>by
  simp only[List.zipIdx_cons,List.foldl_cons]
  have e:(p++y::q).toArray.setIfInBounds (off+n) x=((p++[x])++q).toArray:=by
    rw[<- hp];simp
  rw[e,we off l (n+1) (p++[x]) q (by simpa using hle) (by simp[hp];omega)];simp
theorem uw {place place':Nat->Option (Nat×Nat)} (hp:∀ i q,place i=some q->place' i=some q):∀ (ps:List (Nat×Value)) (cs out:List Value),eh place cs ps=some out->Instr.fill place' cs.toArray ps=some out.toArray
 |[],cs,out,h=>by
  simp only[eh,Option.some.injEq] at h;subst h;rfl
 |(i,v)::r,cs,out,h=>by
  unfold eh at h;split at h
  ·rename_i off s hpl;split at h
   ·rename_i b1 b2;have h1:(cl v).length=s:=Nat.eq_of_beq_eq_true b1;have h2:off+(cl v).length<=cs.length:=Nat.le_of_ble_eq_true b2
    have hv:v.cells.size=s:=by rw[<- h1];simp[cl]
    have ih:=uw hp r _ _ h;unfold Instr.fill;simp only[hp _ _ hpl]
    have c':(decide (v.cells.size≠s)||decide (off+v.cells.size>cs.toArray.size))=false:=by
     have:off+v.cells.size<=cs.length:=by rw[hv,<- h1];exact h2
     simp[hv];omega
    rw[c'];simp only[Bool.false_eq_true,if_false];rw[<- Array.foldl_toList,Array.toList_zipIdx];have key:=we off v.cells.toList 0 (cs.take off) (cs.drop off) (by simp only[cl] at h2;rw[List.length_drop];omega) (by rw[List.length_take];omega);rw[List.take_append_drop] at key;rw[key];simp only[cl,List.drop_drop] at ih ⊢;exact ih
   ·cases h
  ·cases h
theorem pE {P:Program}:∀ {fs:List Field},sW P fs=true->∃ places,fs.mapM (fun f=>(P.info? f.type).map fun i=>(f.offset,i.size))=some places/\∀ (i:Nat) (f:Field) (s:Nat),fs[i]?=some f->aQ P f.type=some s->places[i]?=some (f.offset,s)
 |[],_=>⟨[],rfl,by simp⟩
 |f::r,h=>by
  unfold sW at h;split at h
  ·rename_i s hs;obtain⟨places,e,q⟩:=pE h
   have hi:∃ it,P.info? f.type=some it/\it.size=s:=by
    unfold aQ at hs
    cases hi:P.info? f.type with
    |none=>simp[hi] at hs
    |some it=>exact⟨it,rfl,by simpa[hi] using hs⟩
   obtain⟨it,hi,rfl⟩:=hi;refine⟨(f.offset,it.size)::places,by simp[hi,e],fun i f' s' h1 h2=>?_⟩
   cases i with
   |zero =>
    simp only[List.getElem?_cons_zero,Option.some.injEq] at h1;subst h1;rw[hs] at h2
    cases h2
    rfl
   |succ i=>simpa using q i f' s' (by simpa using h1) h2
  ·cases h
theorem C9 {P:Program}{t:TypeId}{ps:List (Nat×Value)}{l:List Value} (h:uO P t ps=some l):∃ z,zeroOf P t=some z/\z.cells.all aJ=true/\P.built t ps=some l.toArray:=by
 unfold uO at h;split at h
 ·rename_i z hz;split at h
  ·rename_i hpl;refine⟨z,hz,by rw[<- Array.all_toList];exact hpl,?_⟩
   have hinfo:∃ it,P.info? t=some it/\it.zero=some z:=by
    unfold zeroOf at hz
    cases hi:P.info? t with
    |none=>simp[hi] at hz
    |some it=>exact⟨it,rfl,by simpa[hi] using hz⟩
   obtain⟨it,hi,hz'⟩:=hinfo;split at h
   ·rename_i n e hu;split at h
    ·rename_i s hs
     have he:∃ ie,P.info? e=some ie/\ie.size=s:=by
      unfold aQ at hs
      cases hi:P.info? e with
      |none=>simp[hi] at hs
      |some it=>exact⟨it,rfl,by simpa[hi] using hs⟩
     obtain⟨ie,he,rfl⟩:=he;unfold Program.built;simp only[hi,hu,hz',he];refine uw (fun i q hq=>?_) ps _ _ h;simp only[xX,hu,hs] at hq;exact hq
    ·cases h
   ·rename_i fs hu;split at h
    ·rename_i hia;obtain⟨places,e,q⟩:=pE hia;unfold Program.built;simp only[hi,hu,hz',e];refine uw (fun i pq hq=>?_) ps _ _ h;simp only[xX,hu] at hq;split at hq
     ·rename_i f hf;split at hq
      ·rename_i s hs
       cases hq
       simpa using q i f s hf hs
      ·cases hq
     ·cases hq
    ·cases h
   ·cases h
  ·cases h
 ·cases h
theorem VRel.uV {ι:Inj}{i:Nat}{v v':Value} (r:VRel ι (.iface i (.agg ⟨[v]⟩)) v'):∃ b o,v'=.pointer (some ⟨b,o,none⟩):=by
 cases r
 exact⟨_,_,rfl⟩
end Go.Abs
