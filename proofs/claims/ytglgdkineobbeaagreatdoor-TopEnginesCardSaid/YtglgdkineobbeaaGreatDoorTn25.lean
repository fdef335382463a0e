/- Parts of the proof. -/
import Derived.Test.YtglgdkineobbeaaGreatDoorTn24
open Go.Cell renaming okWide->SD
open Go.DataW renaming trod->OJ
open Go.Lit renaming int->Rb
open Go.Value renaming okWide->PZ
open Go.World renaming cell?->PK
open List renaming getD->Mh
namespace Go.Abs
open Go.ChangeShapes Go.RowKit
inductive Sh where
 |int (k:IntKind) | bool|str|unit
 |pair (a b:Sh)
 |slice (e:Sh)
@[reducible] def Sh.Den:Sh->Type
 |.int _=>Int
 |.bool=>Bool
 |.str=>ByteArray
 |.unit=>Unit
 |.pair a b=>a.Den×b.Den
 |.slice e=>List e.Den
def Sh.size:Sh->Nat
 |.unit=>0
 |.pair a b=>a.size+b.size
 |_=>1
def Sh.wf:(s:Sh)->s.Den->Prop
 |.int k,n=>(Rb k n).wf=true
 |.bool,_=>True
 |.str,s=>s.size<=maxLen
 |.unit,_=>True
 |.pair a b,x=>a.wf x.1/\b.wf x.2
 |.slice e,l=>l.length<=maxLen/\∀x∈l,e.wf x
mutual
def Ah (P:Program):Nat->TypeId->Option Sh
 |0,_=>none
 |d+1,t =>
  match P.underlying t with
  |some .bool=>some .bool
  |some (.int k)=>some (.int k)
  |some .string=>some .str
  |some (.struct fs)=>match mX P d 0 fs.toList with
   |some s=>if P.cellsOf t=s.size then some s else none
   |none=>none
  |some (.array n e)=>match Ah P d e with
   |some s=>if s.size=P.cellsOf e/\P.cellsOf t=n*s.size then some (rep n s) else none
   |none=>none
  |some (.slice e)=>match Ah P d e with
   |some s=>if s.size=P.cellsOf e/\0<s.size then some (.slice s) else none
   |none=>none
  |_=>none
def mX (P:Program):Nat->Nat->List Field->Option Sh
 |0,_,_=>none
 |_+1,_,[]=>some .unit
 |d+1,off,f::r=>match Ah P d f.type,mX P d (off+P.cellsOf f.type) r with
  |some a,some b=>if f.offset=off/\a.size=P.cellsOf f.type then some (.pair a b) else none
  |_,_=>none
def rep:Nat->Sh->Sh
 |0,_=>.unit
 |n+1,s=>.pair s (rep n s)
end
def Sh.one:Sh->Bool
 |.pair _ _=>false
 |.unit=>false
 |_=>true
def elV(one:Bool)(cs:List Value):Value:=match one with
 |true=>cs.headD undef
 |false=>.agg ⟨cs⟩
def Sh.bI:(s:Sh)->s.Den->List Value
 |.int k,n=>[.int k n]
 |.bool,b=>[.bool b]
 |.str,s=>[.string s]
 |.unit,_=>[]
 |.pair a b,x=>a.bI x.1++b.bI x.2
 |.slice e,l=>[FL e.size (l.map λx=>elV e.one (e.bI x))]
theorem Sh.rf:∀(s:Sh) (v:s.Den),(s.bI v).length=s.size
 |.int _,_=>rfl
 |.bool,_=>rfl
 |.str,_=>rfl
 |.unit,_=>rfl
 |.pair a b,x=>by simp only[Sh.bI,Ml,Sh.rf a x.1,Sh.rf b x.2,Sh.size]
 |.slice _,_=>rfl
theorem Gy:∀(s:Sh) (v:s.Den),cl (elV s.one (s.bI v))=s.bI v
 |.int _,_=>rfl
 |.bool,_=>rfl
 |.str,_=>rfl
 |.unit,_=>rfl
 |.pair _ _,_=>rfl
 |.slice _,_=>rfl
section
variable {H:Type} {enc:TypeId×Value->H} {P:Program} {W:World} {spare:Nat->Bool} {held:Bool} {base:Nat}
theorem cells?_get{a:Addr}{n:Nat}{cs:List Value}(h:W.cells? base a n=some cs):cs.length=n/\∀i,i<n->W.cell? (a.add i)=cs[i]?:=by
 unfold World.cells? at h;split at h
 .refine⟨by simpa using mapM_some_length h,λi hi=>mapM_some_get h i i (by simp[hi])⟩
 .cases h
structure Goes (Good:(s:Sh)->List Value->Prop):Prop where
 unit:Good .unit []
 pair:∀{a b c1 c2},Good a c1->Good b c2->Good (.pair a b) (c1++c2)
theorem ud{Good:(s:Sh)->List Value->Prop}(G:Goes Good){d n:Nat}{cs:List Value}{xs:List (DataW H×List MemPlace)}
  (IH:∀d',d'<d->∀(t:TypeId) (s:Sh),Ah P d' t=some s->∀(fuel:Nat) (cs:List Value) (x:DataW H×List MemPlace),OJ enc P W base (λ_=>true) held fuel t cs=some x->Good s cs) :
  ∀(d':Nat),d'<=d->∀(fs:List Field) (off k:Nat) (s:Sh),mX P d' off fs=some s->(∀(i:Nat) (f:Field),fs[i]?=some f->∃x,xs[k+i]?=some x/\OJ enc P W base (λ_=>true) held n f.type ((cs.drop f.offset).take (P.cellsOf f.type))=some x)->cs.length=off+s.size->Good s (cs.drop off)
 |0,_,_,_,_,_,h,_,_=>by simp[mX] at h
 |d'+1,hd,[],off,k,s,h,_,hl=>by
  simp only[mX,LR] at h;subst h;have:cs.drop off=[]:=NL (by simp[Sh.size] at hl;omega);rw[this];exact G.unit
 |d'+1,hd,f::r,off,k,s,h,hx,hl=>by
  simp only[mX] at h;split at h
  .rename_i a b ha hb;split at h
   .rename_i hc;obtain⟨ho,hsz⟩:=hc;simp only[LR] at h;subst h;obtain⟨x,_,hx0⟩:=hx 0 f rfl;rw[ho] at hx0;have hlen:cs.length=off+(a.size+b.size):=hl
    have split:cs.drop off=(cs.drop off).take (P.cellsOf f.type)++cs.drop (off+P.cellsOf f.type):=by
     rw[<- QC,Na]
    rw[split];refine G.pair (IH d' (by omega) f.type a ha n _ x hx0) ?_
    exact ud G IH d' (by omega) r (off+P.cellsOf f.type) (k+1) b hb (λi g hg=>by
     have:=hx (i+1) g (by simpa using hg)
     rw[show k+1+i=k+(i+1) by omega];exact this) (by omega)
   .cases h
  .cases h
theorem AI{Good:(s:Sh)->List Value->Prop}(G:Goes Good){s:Sh}{cs:List Value}{c N:Nat}(each:∀i,i<N->Good s ((cs.drop (i*c)).take c))(hl:cs.length=N*c) :
  ∀(m k:Nat),k+m=N->Good (rep m s) (cs.drop (k*c))
 |0,k,hk=>by
  have:cs.drop (k*c)=[]:=NL (by rw[hl,<- hk];simp);rw[this];exact G.unit
 |m+1,k,hk=>by
  have split:cs.drop (k*c)=(cs.drop (k*c)).take c++cs.drop ((k+1)*c):=by
   rw[Nk,Oh,<- QC,Na]
  rw[split];exact G.pair (each k (by omega)) (AI G each hl m (k+1) (by omega))
theorem Ed{Good:(s:Sh)->List Value->Prop}(G:Goes Good)(hint:∀k n,(Rb k n).wf=true->Good (.int k) [.int k n])(hbool:∀b,Good .bool [.bool b])(hstr:∀s:ByteArray,s.size<=maxLen->Good .str [.string s])
  (hslice:∀e t cs (s:Sh) fuel (x:DataW H×List MemPlace),P.underlying t=some (.slice e)->s.size=P.cellsOf e->0<s.size->(∀fuel cs (x:DataW H×List MemPlace),OJ enc P W base (λ_=>true) held fuel e cs=some x->Good s cs)->OJ enc P W base (λ_=>true) held fuel t cs=some x->Good (.slice s) cs) :
  ∀(d:Nat) (t:TypeId) (s:Sh),Ah P d t=some s->∀(fuel:Nat) (cs:List Value) (x:DataW H×List MemPlace),OJ enc P W base (λ_=>true) held fuel t cs=some x->Good s cs:=by
 intro d
 induction d using Nat.strongRecOn with
 |_ d IH =>
  intro t s hs fuel cs x ht
  cases d with
  |zero=>simp[Ah] at hs
  |succ d =>
   unfold Ah at hs;split at hs
   .rename_i hu
    cases hs
    obtain⟨b,rfl,_⟩:=DataW.trod_bool hu ht;exact hbool b
   .rename_i k hu
    cases hs
    obtain⟨n,rfl,_,hw⟩:=DataW.trod_int hu ht;exact hint k n hw
   .rename_i hu
    cases hs
    obtain⟨b,rfl,_,hw⟩:=DataW.trod_string hu ht;exact hstr b hw
   .rename_i fs hu;split at hs
    .rename_i s' hf;split at hs
     .rename_i hsz
      cases hs
      obtain⟨xs,m,_,_,h1,h2,h3⟩:=DataW.trod_struct hu ht
      have:=ud (n:=m) (xs:=xs) G (λd' hd'=>IH d' (by omega)) d (LV _) fs.toList 0 0 s hf (λi f hf=>by
       have hf':fs[i]?=some f:=by simpa using hf
       have hi:i<fs.size:=(L3.1 hf').1;refine⟨xs[i],by rw[Nu];exact LU (by omega),?_⟩
       rw[h3 i f hf'];exact LU (by omega)) (by rw[h1,hsz,Nu])
      simpa using this
     .cases hs
    .cases hs
   .rename_i n e hu;split at hs
    .rename_i s' hf;split at hs
     .rename_i hsz
      cases hs
      obtain⟨xs,m,_,_,h1,h2,h3⟩:=DataW.trod_array hu ht;have:=AI (N:=n) (c:=P.cellsOf e) (cs:=cs) (s:=s') G (λi hi=>IH d (by omega) e s' hf m _ xs[i] ((h3 i hi).trans (LU (by omega)))) (by rw[h1,hsz.2,hsz.1]) n 0 (by omega);simpa using this
     .cases hs
    .cases hs
   .rename_i e hu;split at hs
    .rename_i s' hf;split at hs
     .rename_i hsz
      cases hs
      exact hslice e t cs s' fuel x hu hsz.1 hsz.2 (λfuel cs x h=>IH d (by omega) e s' hf fuel cs x h) ht
     .cases hs
    .cases hs
   .cases hs
theorem add_eq(b o k:Nat):(⟨b,o,none⟩:Addr).add k=⟨b,o+k,none⟩:=by
 unfold Addr.add;split
 .rename_i h;subst h;rfl
 .rfl
def Reads(ι:Inj)(s:Sh)(cs:List Value):Prop:=∃v:s.Den,s.wf v/\ba ι (s.bI v) cs
theorem AK{e:Sh}{et:TypeId}{a:Addr}{len cap n:Nat}{elems:List (DataW H×List MemPlace)}{ι:Inj}(hι:∀b C ty fr,W.heap[b]?=some (.cells C ty fr)->ι.fz b=some C)(hpos:0<e.size)(hsz:e.size=P.cellsOf et)
  (IH:∀(fuel:Nat) (cs:List Value) (x:DataW H×List MemPlace),OJ enc P W base (λ_=>true) held fuel et cs=some x->Reads ι e cs)
  (hlc:len<=cap) (hcm:cap<=maxLen) (hel:elems.length=len)
  (h1:∀i,i<len->(W.cells? base (a.add (i*P.cellsOf et)) (P.cellsOf et)).bind (OJ enc P W base (λ_=>true) held n et)=elems[i]?):Reads ι (.slice e) [.slice (some a) len cap]:=by
 by_cases q:len=0
 .subst q;exact⟨[],⟨L1 _,by simp⟩,ba.cons (.flEmpty _ _ _) (ba.nil _)⟩
 have hsp:a.spot=none/\∃C ty fr,W.heap[a.block]?=some (.cells C ty fr):=by
  have h:=h1 0 (by omega);obtain⟨y,hy⟩:∃y,elems[0]?=some y:=⟨_,LU (by omega)⟩;rw[hy,PR] at h;obtain⟨cs,hc,_⟩:=h;obtain⟨g1,g2⟩:=cells?_get hc;have g3:=g2 0 (by omega);rw[Q7] at g3
  have e0:(a.add 0).add 0=a:=by unfold Addr.add;simp
  rw[e0,LU (by omega)] at g3;unfold PK at g3;split at g3
  .rename_i C ty fr hC;split at g3
   .cases g3
   .rename_i hn;exact⟨by simpa using hn,C,ty,fr,hC⟩
  .cases g3
 obtain⟨hsp,C,ty,fr,hC⟩:=hsp;obtain⟨ab,ao,asp⟩:=a;simp only at hsp;subst hsp
 have celln:∀k,W.cell? ((⟨ab,ao,none⟩:Addr).add k)=C[ao+k]?:=λk=>by
  rw[add_eq];simp only[PK,hC];rfl
 have got:∀i,i<len->∃v:e.Den,(∀k,k<e.size->∃u,C[ao+i*e.size+k]?=some u/\VRel ι ((e.bI v).getD k undef) u)/\e.wf v:=λi hi=>by
  have:=h1 i hi;obtain⟨y,hy⟩:∃y,elems[i]?=some y:=⟨_,LU (by omega)⟩;rw[hy,PR] at this;obtain⟨cs,hc,ht⟩:=this;obtain⟨v,hw,hr⟩:=IH n cs y ht;refine⟨v,λk hk=>?_,hw⟩;have g:=(cells?_get hc).2 k (by omega);rw[<- hsz] at g
  have e1:((⟨ab,ao,none⟩:Addr).add (i*e.size)).add k=(⟨ab,ao,none⟩:Addr).add (i*e.size+k):=by rw[add_eq,add_eq,add_eq,Nm]
  rw[e1,celln,<- Nm] at g
  have hlt:k<cs.length:=by rw[(cells?_get hc).1,<- hsz];exact hk
  rw[LU hlt] at g;refine⟨cs[k],g,?_⟩;have:=hr.2 k;rwa [show cs.getD k undef=cs[k] by simp[Mh,LU hlt]] at this
 obtain⟨l,hll,hl⟩:∃l:List e.Den,l.length=len/\∀i v,l[i]?=some v->(∀k,k<e.size->∃u,C[ao+i*e.size+k]?=some u/\VRel ι ((e.bI v).getD k undef) u)/\e.wf v:=by
  have:∀m,m<=len->∃l:List e.Den,l.length=m/\∀i v,l[i]?=some v->(∀k,k<e.size->∃u,C[ao+i*e.size+k]?=some u/\VRel ι ((e.bI v).getD k undef) u)/\e.wf v:=by
   intro m
   induction m with
   |zero=>intro _;exact⟨[],rfl,λi v e=>by simp at e⟩
   |succ m ih =>
    intro hm;obtain⟨l,q1,q2⟩:=ih (by omega);obtain⟨v,hv⟩:=got m (by omega);refine⟨l++[v],by simp[q1],λi u hu=>?_⟩;by_cases hi:i<l.length
    .rw[Mb hi] at hu;exact q2 i u hu
    .rw[Mg (by omega)] at hu
     have:i-l.length=0:=by
      have:=(LX.1 hu).1;simp at this;omega
     rw[this] at hu;simp only[My,LR] at hu;subst hu
     have:i=m:=by omega
     subst this;exact hv
  exact this len (LV _)
 have hlen:∀x∈l,(e.bI x).length=e.size:=λx _=>Sh.rf e x
 have hflen:(l.flatMap e.bI).length=len*e.size:=by
  rw[<- hll];clear hl hll
  induction l with
  |nil=>simp
  |cons x l ih =>
   rw[PU,Ml,hlen x (by simp),ih (λy m=>hlen y (by simp[m])),M8,Nk,Oh,OQ]
 have hb2:ao+len*e.size<=C.size:=by
  obtain⟨v,hv⟩:∃v,l[len-1]?=some v:=⟨_,LU (by omega)⟩;obtain⟨u,q,_⟩:=(hl _ v hv).1 (e.size-1) (by omega);have:=(L3.1 q).1
  have:len*e.size=(len-1)*e.size+e.size:=by
   obtain⟨m,rfl⟩:∃m,len=m+1:=⟨len-1,by omega⟩;simp[Nk]
  omega
 refine⟨l,⟨by omega,λx hx=>?_⟩,ba.cons ?_ (ba.nil _)⟩
 .obtain⟨i,hi⟩:=M1 hx;exact (hl i x hi).2
 .show VRel ι (FL e.size (l.map λx=>elV e.one (e.bI x))) _
  have hfc:ah (l.map λx=>elV e.one (e.bI x))=l.flatMap e.bI:=by
   unfold ah;rw[List.flatMap_map];congr 1;funext x;exact Gy e x
  have:=VRel.fl (ι:=ι) e.size (l.map λx=>elV e.one (e.bI x)) ab ao cap C (hι _ _ _ _ hC) (by intro c;apply q;have:=congrArg List.length c;rw[LZ] at this;rw[<- hll,this];rfl) (by rw[LZ];omega)
   (λu hu=>by
    obtain⟨x,hx,rfl⟩:=MP.1 hu
    rw[Gy e x];exact hlen x hx)
   (by rw[LZ,hll];exact hb2) (λi hi=>?_)
  .rw[LZ,hll] at this;exact this
  .rw[LZ,hll] at hi;rw[hfc];have hv:(l.flatMap e.bI)[i]?=some ((l.flatMap e.bI)[i]'(by rw[hflen];exact hi)):=LU _;generalize hvv:(l.flatMap e.bI)[i]'(by rw[hflen];exact hi)=v at hv;rw[Mh,hv];rw[mc hpos l hlen i,PR] at hv;obtain⟨x,hx,hv⟩:=hv;obtain⟨u,q1,q2⟩:=(hl _ x hx).1 (i%e.size) (NV _ hpos);rw[Nm,RU,Nat.div_add_mod] at q1;rw[Mh,hv] at q2;rw[LW,q1];exact q2
theorem C9{ι:Inj}(hι:∀b C ty fr,W.heap[b]?=some (.cells C ty fr)->ι.fz b=some C)(d:Nat)(t:TypeId)(s:Sh)(hs:Ah P d t=some s)(fuel:Nat)(cs:List Value)(x:DataW H×List MemPlace)(ht:OJ enc P W base (λ_=>true) held fuel t cs=some x):Reads ι s cs:=by
 have flat:∀(s:Sh) (v:s.Den) (cs:List Value),s.wf v->s.bI v=cs->cs.all aR=true->Reads ι s cs:=λs v cs hw e hp=>⟨v,hw,by
  rw[e];refine ba.nf rfl λi x y e1 e2=>?_;rw[e1] at e2;cases e2
  exact VRel.oO (Md.1 hp x (LS e1))⟩
 refine Ed (Good:=λs cs=>Reads ι s cs) ⟨flat .unit () [] trivial rfl rfl,λ{a b c1 c2} g1 g2=>?_⟩
  (λk n hw=>flat (.int k) n _ hw rfl rfl) (λb=>flat .bool b _ trivial rfl rfl) (λb hw=>flat .str b _ hw rfl rfl) (λe t cs s fuel x hu hsz hpos IH ht=>?_) d t s hs fuel cs x ht
 .obtain⟨v1,w1,r1⟩:=g1;obtain⟨v2,w2,r2⟩:=g2;exact⟨(v1,v2),⟨w1,w2⟩,r1.append r2⟩
 .rcases DataW.trod_slice hu ht with⟨rfl,_⟩|⟨a,len,cap,elems,rest,n,_,rfl,_,_,h1,h2,h3,h4,h5,_⟩
  .exact⟨[],⟨L1 _,by simp⟩,ba.cons (.flNil _) (ba.nil _)⟩
  .exact AK hι hpos hsz IH h1 h2 h3 h4
@[reducible] def Ev:List (Sh×Bool)->Type
 |[]=>Unit
 |(s,_)::r=>s.Den×Ev r
def wfL:(l:List (Sh×Bool))->Ev l->Prop
 |[],_=>True
 |(s,_)::r,x=>s.wf x.1/\wfL r x.2
def Hr:(l:List (Sh×Bool))->Ev l->List Value
 |[],_=>[]
 |(s,g)::r,x=>elV (!g) (s.bI x.1)::Hr r x.2
def xx(P:Program)(d:Nat):List TypeId->List (Sh×Bool)->Prop
 |[],[]=>True
 |t::ts,(s,g)::r=>Ah P d t=some s/\iz P t=some g/\xx P d ts r
 |_,_=>False
theorem C8{r:Reach}{b:Nat}{t:TypeId}{v:Value}{g:Bool}(h:PZ P W r b t v)(hg:iz P t=some g):match g with
  |true=>∃cs,v=.agg cs
  |false=>v.cells = #[v]:=by
 unfold iz at hg;unfold PZ at h
 have one:SD P W r b t v->v.cells = #[v]:=by
  intro hc
  cases v with
  |agg cs =>
   exfalso;unfold SD Cell.ok at hc
   cases hu:P.underlying t with
   |none=>simp[hu] at hc
   |some d=>cases d <;> simp[hu] at hc
  |_=>rfl
 split at hg
 .rename_i q;rw[q] at h;cases hg;obtain⟨cs,e,_⟩:=h;exact⟨cs,e⟩
 .rename_i q;rw[q] at h;cases hg;obtain⟨cs,e,_⟩:=h;exact⟨cs,e⟩
 .rename_i d q1 q2 q3
  cases hg
  split at h
  .rename_i q;exact absurd (Ni (q3.symm.trans q)) (q1 _)
  .rename_i q;exact absurd (Ni (q3.symm.trans q)) (q2 _ _)
  .exact one h
 .cases hg
theorem ym{d b:Nat}{r:Reach}{ι:Inj}(hι:∀b C ty fr,W.heap[b]?=some (.cells C ty fr)->ι.fz b=some C):∀(ts:List TypeId) (l:List (Sh×Bool)),xx P d ts l->∀(vs:List Value) (ds:List (DataW H)) (p:List MemPlace),DataW.TrodAll enc P W base (λ_=>true) held ts vs ds p->(∀(j:Nat) t v,ts[j]?=some t->vs[j]?=some v->PZ P W r b t v) ->
  ∃x:Ev l,wfL l x/\ba ι (Hr l x) vs
 |[],[],_,vs,ds,p,hA,_=>by
  obtain⟨rfl,_,_⟩:=trodAll_nil hA;exact⟨(),trivial,ba.nil _⟩
 |[],_::_,h,_,_,_,_,_=>h.elim
 |_::_,[],h,_,_,_,_,_=>h.elim
 |t::ts,(s,g)::l,h,vs,ds,p,hA,hok=>by
  obtain⟨h1,h2,h3⟩:=h;obtain⟨v,vs',d',ds',p1,p2,rfl,rfl,_,⟨fuel,ht⟩,hA'⟩:=trodAll_cons hA;have hv:=hok 0 t v rfl rfl;obtain⟨x1,k1,k2⟩:=C9 hι d t s h1 fuel _ _ ht;obtain⟨x2,q1,q2⟩:=ym hι ts l h3 vs' ds' p2 hA' (λj t v e1 e2=>hok (j+1) t v (by simpa using e1) (by simpa using e2));have hag:=C8 hv h2;refine⟨(x1,x2),⟨k1,q1⟩,ba.cons ?_ q2⟩
  cases g with
  |true =>
   obtain⟨cs,rfl⟩:=hag
   have:bB ι ⟨s.bI x1⟩ cs:=by rw[bB.iK];exact k2
   exact .agg _ _ this.1 this.2
  |false =>
   have hc:v.cells = #[v]:=hag;rw[hc] at k2;have hl:=k2.1
   show VRel ι ((s.bI x1).headD undef) v
   match h:s.bI x1,hl,k2 with
   |[a],_,k2=>simpa using k2.2 0
end
end Go.Abs
