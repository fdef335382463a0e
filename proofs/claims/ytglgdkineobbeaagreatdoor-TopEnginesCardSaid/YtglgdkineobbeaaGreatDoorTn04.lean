/- Parts of the proof. -/
import Derived.Test.YtglgdkineobbeaaGreatDoorTn03
open Go.Instr renaming fill->Oc
open Go.Program renaming built->RJ
open Go.Value renaming cells->SB
open List renaming getD->Mh
open Nat renaming ble->NK
namespace Go.Abs
theorem bD{s:Nat}:∀{k:List Value},(∀e∈k,(cl e).length=s)->(ah k).length=k.length*s
 |[],_=>by simp[ah]
 |x::k,hk=>by
  have ih:=bD (k:=k) (λe m=>hk e (by simp[m]));have hx:=hk x (by simp);simp only[ah,PU,Ml] at ih ⊢;rw[ih,hx,M8,Nk,Oh,OQ]
theorem ck(a b:List Value):ah (a++b)=ah a++ah b:=by simp[ah]
theorem mc{α:Type}{f:α->List Value}{s:Nat}(hs:0<s):∀(l:List α),(∀x∈l,(f x).length=s)->∀i:Nat,(l.flatMap f)[i]?=(l[i/s]?).bind λx=>(f x)[i%s]?
 |[],_,i=>by simp
 |x::l,hl,i=>by
  have hx:=hl x (by simp);rw[PU];by_cases c:i<s
  .rw[Mb (by omega),Q1 c,Om c];simp
  .rw[Mg (by omega),hx,mc hs l (λy m=>hl y (by simp[m])) (i-s)]
   have h1:i/s=(i-s)/s+1:=by rw[<- Nat.add_div_right _ hs];congr 1;omega
   have h2:i%s=(i-s)%s:=by rw[Nat.mod_eq_sub_mod (by omega)]
   rw[h1,h2,M9]
theorem jK(a:Value)(b:List Value):ah (a::b)=cl a++ah b:=by simp[ah]
theorem vF{s:Nat}{es:List Value}(hs:∀e∈es,(cl e).length=s){k:Nat}{u:Value}(hu:es[k]?=some u){i:Nat}(hi:i<s):(ah es)[k*s+i]?=(cl u)[i]?:=by
 have hs0:0<s:=by omega
 rw[ah,mc hs0 es hs (k*s+i)]
 have h1:(k*s+i)/s=k:=by
  rw[RU,Nat.mul_add_div hs0,Q1 hi,OP]
 have h2:(k*s+i)%s=i:=by
  rw[RU,Nat.mul_add_mod,Om hi]
 rw[h1,h2,hu];rfl
theorem vW{s:Nat}:∀{es:List Value},(∀e∈es,(cl e).length=s)->∀l:Nat,ah (es.drop l)=(ah es).drop (l*s)
 |[],_,l=>by simp[ah]
 |e::es,hs,0=>by simp
 |e::es,hs,l+1=>by
  have he:=hs e (by simp);rw[List.drop_succ_cons,vW (λe m=>hs e (by simp[m])) l,jK,Nk,Oh,OQ,<- he,Q2];simp
theorem qL{s:Nat}:∀{es:List Value},(∀e∈es,(cl e).length=s)->∀l:Nat,ah (es.take l)=(ah es).take (l*s)
 |[],_,l=>by simp[ah]
 |e::es,hs,0=>by simp[ah]
 |e::es,hs,l+1=>by
  have he:=hs e (by simp);rw[List.take_succ_cons,jK,qL (λe m=>hs e (by simp[m])) l,jK,Nk,Oh,OQ,<- he,Q3,Mc (Nat.le_add_right _ _)];simp
theorem VRel.rD{ι:Inj}{i:Nat}{es:List Value}{v':Value}(r:VRel ι (.iface i (.tuple ⟨es⟩)) v'):∃a cap,v'=.slice a es.length cap/\es.length<=cap:=by
 cases r with
 |flNil _=>exact⟨none,0,rfl,LV _⟩
 |flEmpty _ a cap=>exact⟨_,cap,rfl,L1 _⟩
 |fl _ _ b o cap C h0 h1 h2=>exact⟨_,cap,rfl,h2⟩
theorem VRel.H6{ι:Inj}{s j:Nat}{es:List Value}{v':Value}(r:VRel ι (.iface s (.iface j (.tuple ⟨es⟩))) v'):VRel ι (.iface s (.tuple ⟨es⟩)) v':=by
 cases r with
 |fnNil _=>exact .flNil s
 |fn _ _ _ _ _ _ h=>exact h
 |fcNil _=>exact .flNil s
 |fcEmpty _ a=>exact .flEmpty s a 0
 |fc _ _ _ _ _ h=>exact h
theorem VRel.JK{ι:Inj}{s:Nat}{es:List Value}{v':Value}(r:VRel ι (.iface s (.tuple ⟨es⟩)) v'){k:Nat}{u:Value}(hu:es[k]?=some u) :
  ∃b o cap,v'=.slice (some ⟨b,o,none⟩) es.length cap/\VRel ι (FP u) (.pointer (some ⟨b,o+k*s,none⟩)):=by
 have hk:k<es.length:=(LX.1 hu).1
 cases r with
 |flNil _=>simp at hk
 |flEmpty _ a cap=>simp at hk
 |fl _ _ b o cap C h0 h1 h2 h3 h4 h5 =>
  have hum:=h3 u (LS hu)
  have hks:k*s+s<=es.length*s:=by
   have:(k+1)*s<=es.length*s:=MY _ hk;rw[Nk,Oh] at this;exact this
  refine⟨b,o,cap,rfl,.fp u b (o+k*s) C h0 (by rw[hum];omega) λi hi=>?_⟩;rw[hum] at hi;have:=h5 (k*s+i) (by omega);rw[Mh,vF h3 hu hi,<- Nm] at this;exact this
theorem VRel.Kq{ι:Inj}{s:Nat}{es:List Value}{b o n cap:Nat}(r:VRel ι (.iface s (.tuple ⟨es⟩)) (.slice (some ⟨b,o,none⟩) n cap)){l m:Nat}(hlm:l<=m)(hm:m<=es.length){cap':Nat}(hc:m-l<=cap') :
  VRel ι (FL s ((es.drop l).take (m-l))) (.slice (some ⟨b,o+l*s,none⟩) (m-l) cap'):=by
 by_cases q:m-l=0
 .rw[q,QB];exact .flEmpty s _ cap'
 cases r with
 |flEmpty _ _ _=>simp at hm;omega
 |fl _ _ _ _ _ C h0 h1 h2 h3 h4 h5 =>
  have hl:((es.drop l).take (m-l)).length=m-l:=by simp;omega
  have hne:(es.drop l).take (m-l)≠[]:=by
   intro e;rw[e] at hl;simp at hl;omega
  have hmul:m*s<=es.length*s:=MY _ hm
  have hml:l*s+(m-l)*s=m*s:=by rw[<- Nk];congr 1;omega
  have:=VRel.fl (ι:=ι) s ((es.drop l).take (m-l)) b (o+l*s) cap' C h0 hne (by omega) (λe he=>h3 e (Qh (OR he))) (by rw[hl];omega) ?_
  .rw[hl] at this;exact this
  .intro i hi;rw[hl] at hi;have:=h5 (l*s+i) (by omega);rw[Mh] at this ⊢;rw[qL (λe he=>h3 e (Qh he)),vW h3,MX,if_pos hi,Nq,Nm];exact this
theorem VRel.nJ{ι:Inj}{s:Nat}{es:List Value}{a:Addr}{n cap:Nat}(r:VRel ι (.iface s (.tuple ⟨es⟩)) (.slice (some a) n cap)){l m:Nat}(hlm:l<=m)(hm:m<=es.length){cap':Nat}{a':Addr}(hc:m-l<=cap')(ho:cap'≠0->a'=a.add (l*s)) :
  VRel ι (FL s ((es.drop l).take (m-l))) (.slice (some a') (m-l) cap'):=by
 by_cases q:m-l=0
 .rw[q,QB];exact .flEmpty s a' cap'
 .have hne:es≠[]:=by
   intro e;subst e;simp at hm;omega
  have hA:∃b o,a=⟨b,o,none⟩:=by
   cases r with
   |flEmpty _ _ _=>exact absurd rfl hne
   |fl _ _ b o _ _ _ _ _ _ _ _=>exact⟨b,o,rfl⟩
  obtain⟨b,o,rfl⟩:=hA
  have he:a'=⟨b,o+l*s,none⟩:=by
   rw[ho (by omega)];unfold Addr.add;split
   .rename_i hz;rw[hz];rfl
   .rfl
  rw[he];exact r.Kq hlm hm hc
def wG(P:Program)(t:TypeId)(cs:Array Value)(off:Nat):Option Value :=
 match iz P t,bb P t with
 |some true,some n=>match NK (off+n) cs.toList.length with
  |true=>some (FP (.agg ⟨(cs.toList.drop off).take n⟩))
  |false=>none
 |some false,_=>match cs.toList[off]? with
  |some u=>match u with
   |.agg _=>none
   |u=>some (FP u)
  |none=>none
 |_,_=>none
theorem sw{P:Program}{ι:Inj}{t:TypeId}{cs:Array Value}{off:Nat}{v:Value}{b o:Nat}(r:VRel ι (.iface 0 (.agg ⟨[.agg cs]⟩)) (.pointer (some ⟨b,o,none⟩)))(h:wG P t cs off=some v) :
  VRel ι v (.pointer (some ⟨b,o+off,none⟩)):=by
 cases r with
 |fp _ _ _ C h0 h1 h2 =>
  have hcl:cl (.agg cs)=cs.toList:=rfl;rw[hcl] at h1 h2;rw[NF] at h1 h2;unfold wG at h;split at h
  .rename_i n _ _;split at h
   .rename_i hle;simp only[LR] at h;subst h;have hle:off+n<=cs.toList.length:=Mq hle;rw[NF] at hle
    have hl:(cl (.agg ⟨(cs.toList.drop off).take n⟩)).length=n:=by simp[cl,SB];omega
    refine .fp _ b (o+off) C h0 (by rw[hl];omega) λi hi=>?_;rw[hl] at hi;have:=h2 (off+i) (by omega);rw[Mh] at this ⊢
    have e:(cl (.agg ⟨(cs.toList.drop off).take n⟩))[i]?=cs.toList[off+i]?:=by
     simp only[cl,SB];rw[MX,if_pos (by omega),Nq]
    rw[e,Nm];exact this
   .cases h
  .split at h
   .rename_i u hu;rw[Nt] at hu;have hlt:off<cs.size:=(L3.1 hu).1
    have key:cl u=[u]->VRel ι (FP u) (.pointer (some ⟨b,o+off,none⟩)):=λe=>by
     refine .fp u b (o+off) C h0 (by rw[e];simp;omega) λi hi=>?_;rw[e] at hi ⊢;simp only[L6,Nat.lt_one_iff] at hi;subst hi;have:=h2 off hlt;rw[Mh,Nt,hu] at this;simpa using this
    split at h
    .cases h
    .rename_i hna;simp only[LR] at h;subst h;refine key ?_
     cases u <;> first|rfl|exact absurd rfl (hna _)
   .cases h
  .cases h
def HH(P:Program)(t:TypeId)(cs:Array Value)(off:Nat):Option Value :=
 match iz P t,bb P t with
 |some true,some n=>match NK (off+n) cs.toList.length with
  |true=>some (.agg ⟨(cs.toList.drop off).take n⟩)
  |false=>none
 |some false,_=>cs.toList[off]?
 |_,_=>none
theorem GQ{P:Program}{t:TypeId}{cs:Array Value}{off:Nat}{v:Value}(h:HH P t cs off=some v):partOf P t cs off=some v:=by
 unfold HH at h;unfold partOf;split at h
 .rename_i n h1 h2;simp only[h1,h2];split at h
  .rename_i hle;have hle:off+n<=cs.toList.length:=Mq hle;rw[NF] at hle;rw[if_pos hle];simp only[LR] at h ⊢;rw[<- h];congr 1;apply On;simp[QM]
  .cases h
 .rename_i h1;simp only[h1];rw[Nt] at h;exact h
 .cases h
def Aa(P:Program)(t:TypeId)(i:Nat):Option (Nat×Nat) :=
 match P.underlying t with
 |some (.array _ e)=>match bb P e with
  |some s=>some (i*s,s)
  |none=>none
 |some (.struct fs)=>match fs.toList[i]? with
  |some f=>match bb P f.type with
   |some s=>some (f.offset,s)
   |none=>none
  |none=>none
 |_=>none
def gq(place:Nat->Option (Nat×Nat))(cs:List Value):List (Nat×Value)->Option (List Value)
 |[]=>some cs
 |(i,v)::r=>match place i with
  |some (off,s)=>match Nat.beq (cl v).length s,NK (off+(cl v).length) cs.length with
   |true,true=>gq place (cs.take off++(cl v++cs.drop (off+(cl v).length))) r
   |_,_=>none
  |none=>none
def vi(P:Program):List Field->Bool
 |[]=>true
 |f::r=>match bb P f.type with
  |some _=>vi P r
  |none=>false
def sW(P:Program)(t:TypeId)(ps:List (Nat×Value)):Option (List Value) :=
 match zeroOf P t with
 |some z=>match z.cells.toList.all aR with
  |true=>match P.underlying t with
   |some (.array _ e)=>match bb P e with
    |some _=>gq (Aa P t) z.cells.toList ps
    |none=>none
   |some (.struct fs)=>match vi P fs.toList with
    |true=>gq (Aa P t) z.cells.toList ps
    |false=>none
   |_=>none
  |false=>none
 |none=>none
theorem xX(off:Nat):∀(l:List Value) (n:Nat) (p q:List Value),l.length<=q.length->p.length=off+n ->
  ((l.zipIdx n).foldl (λ(cs:Array Value) (x:Value×Nat)=>cs.setIfInBounds (off+x.2) x.1) (p++q).toArray)=(p++(l++q.drop l.length)).toArray
 |[],n,p,q,_,_=>by simp
 |x::l,n,p,[],hle,_=>by simp at hle
 |x::l,n,p,y::q,hle,hp=>by
  simp only[Pw,N3]
  have e:(p++y::q).toArray.setIfInBounds (off+n) x=((p++[x])++q).toArray:=by
    rw[<- hp];simp
  rw[e,xX off l (n+1) (p++[x]) q (by simpa using hle) (by simp[hp];omega)];simp
theorem xg{place place':Nat->Option (Nat×Nat)}(hp:∀i q,place i=some q->place' i=some q):∀(ps:List (Nat×Value)) (cs out:List Value),gq place cs ps=some out->Oc place' cs.toArray ps=some out.toArray
 |[],cs,out,h=>by
  simp only[gq,LR] at h;subst h;rfl
 |(i,v)::r,cs,out,h=>by
  unfold gq at h;split at h
  .rename_i off s hpl;split at h
   .rename_i b1 b2;have h1:(cl v).length=s:=M6 b1;have h2:off+(cl v).length<=cs.length:=Mq b2
    have hv:v.cells.size=s:=by rw[<- h1];simp[cl]
    have ih:=xg hp r _ _ h;unfold Oc;simp only[hp _ _ hpl]
    have c':(decide (v.cells.size≠s)||decide (off+v.cells.size>cs.toArray.size))=false:=by
     have:off+v.cells.size<=cs.length:=by rw[hv,<- h1];exact h2
     simp[hv];omega
    rw[c'];simp only[Nr,if_false];rw[<- PJ,PB];have key:=xX off v.cells.toList 0 (cs.take off) (cs.drop off) (by simp only[cl] at h2;rw[No];omega) (by rw[L8];omega);rw[Na] at key;rw[key];simp only[cl,QC] at ih ⊢;exact ih
   .cases h
  .cases h
theorem sl{P:Program}:∀{fs:List Field},vi P fs=true->∃places,fs.mapM (λf=>(P.info? f.type).map λi=>(f.offset,i.size))=some places/\∀(i:Nat) (f:Field) (s:Nat),fs[i]?=some f->bb P f.type=some s->places[i]?=some (f.offset,s)
 |[],_=>⟨[],rfl,by simp⟩
 |f::r,h=>by
  unfold vi at h;split at h
  .rename_i s hs;obtain⟨places,e,q⟩:=sl h
   have hi:∃it,P.info? f.type=some it/\it.size=s:=by
    unfold bb at hs
    cases hi:P.info? f.type with
    |none=>simp[hi] at hs
    |some it=>exact⟨it,rfl,by simpa[hi] using hs⟩
   obtain⟨it,hi,rfl⟩:=hi;refine⟨(f.offset,it.size)::places,by simp[hi,e],λi f' s' h1 h2=>?_⟩
   cases i with
   |zero =>
    simp only[My,LR] at h1;subst h1;rw[hs] at h2
    cases h2
    rfl
   |succ i=>simpa using q i f' s' (by simpa using h1) h2
  .cases h
theorem E4{P:Program}{t:TypeId}{ps:List (Nat×Value)}{l:List Value}(h:sW P t ps=some l):∃z,zeroOf P t=some z/\z.cells.all aR=true/\P.built t ps=some l.toArray:=by
 unfold sW at h;split at h
 .rename_i z hz;split at h
  .rename_i hpl;refine⟨z,hz,by rw[<- Px];exact hpl,?_⟩
   have hinfo:∃it,P.info? t=some it/\it.zero=some z:=by
    unfold zeroOf at hz
    cases hi:P.info? t with
    |none=>simp[hi] at hz
    |some it=>exact⟨it,rfl,by simpa[hi] using hz⟩
   obtain⟨it,hi,hz'⟩:=hinfo;split at h
   .rename_i n e hu;split at h
    .rename_i s hs
     have he:∃ie,P.info? e=some ie/\ie.size=s:=by
      unfold bb at hs
      cases hi:P.info? e with
      |none=>simp[hi] at hs
      |some it=>exact⟨it,rfl,by simpa[hi] using hs⟩
     obtain⟨ie,he,rfl⟩:=he;unfold RJ;simp only[hi,hu,hz',he];refine xg (λi q hq=>?_) ps _ _ h;simp only[Aa,hu,hs] at hq;exact hq
    .cases h
   .rename_i fs hu;split at h
    .rename_i hia;obtain⟨places,e,q⟩:=sl hia;unfold RJ;simp only[hi,hu,hz',e];refine xg (λi pq hq=>?_) ps _ _ h;simp only[Aa,hu] at hq;split at hq
     .rename_i f hf;split at hq
      .rename_i s hs
       cases hq
       simpa using q i f s hf hs
      .cases hq
     .cases hq
    .cases h
   .cases h
  .cases h
 .cases h
theorem VRel.vJ{ι:Inj}{i:Nat}{v v':Value}(r:VRel ι (.iface i (.agg ⟨[v]⟩)) v'):∃b o,v'=.pointer (some ⟨b,o,none⟩):=by
 cases r
 exact⟨_,_,rfl⟩
end Go.Abs
