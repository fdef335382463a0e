/- Parts of the proof. -/
import Derived.Test.YtglgdkineobbeaaGreatDoorTn07
import Derived.Laws.World
import Derived.IntWalk
import Derived.Laws.BytesArg
open Array renaming range->Rp
open ByteArray renaming empty->R7
open ForInStep renaming yield->R8
open Go.Instr renaming buildSlice->Qc,checkKey->OH,fill->Oc,findAsking->O6,findKey->Sr,findNow->Pj,loadAt->RW,lookup->Q8,makeMap->Ss,sameBits->N1,sameNow->OW,sureAddr->Ov
open Go.Op renaming equal->PE,operands->Mi
open Go.Result renaming andThen_ok->Mo
open Go.Sem renaming run->Pn,run_bind->Mv,run_pure->MO
open Go.World renaming cell?->PK
open List renaming getD->Mh,range->Ma
open PUnit renaming unit->RN
open Std.Legacy.Range renaming forIn_eq_forIn_range'->Ro,size->Sy
namespace Go.Abs
def mJ(P:Program)(h:Heap)(t:TypeId)(g off:Nat):Option Value :=
 match h.get g with
 |some (.cells cs _) =>
  match iz P t with
  |some true =>
   match bb P t with
   |some n=>if off+n<=cs.length then some (.agg ((cs.drop off).take n).toArray) else none
   |none=>none
  |some false=>cs[off]?
  |none=>none
 |_=>none
theorem oE{N:Nat}{P:Program}{ι:Inj}{h:Heap}{w:World}(H:HRel N ι h w){t:TypeId}{g off:Nat}{l:Loc}{v:Value}(hl:ι g=some l)(e:mJ P h t g off=some v) :
  ∃v',(loadVar t ⟨l.blk,l.base+off,none⟩).run P w=.ok v' w/\VRel ι v v':=by
 unfold mJ at e
 cases hg:h.get g with
 |none=>simp[hg] at e
 |some ob =>
  cases ob <;> try (simp[hg] at e;done)
  rename_i cs ro;simp only[hg] at e
  cases hagg:iz P t with
  |none=>simp[hagg] at e
  |some b =>
   cases b with
   |false =>
    simp only[hagg] at e;obtain⟨v',q1,q2⟩:=H.cell hl hg e;exact⟨v',by simp[loadVar,iZ hagg,q1],q2⟩
   |true =>
    cases hs:bb P t with
    |none=>simp[hagg,hs] at e
    |some n =>
     simp only[hagg,hs] at e;split at e
     .rename_i hle;simp only[LR] at e;subst e;obtain⟨vs,q1,q2⟩:=H.loadCells (P:=P) hl hg hle;exact⟨.agg vs,by simp[loadVar,iZ hagg,bg hs,q1],.agg _ _ q2.1 q2.2⟩
     .cases e
def np:List Value->Option (List Int)
 |[]=>some []
 |.int .u8 n::r=>match np r with
  |some l=>some (n::l)
  |none=>none
 |_::_=>none
theorem qZ:∀{cs:List Value}{xs:List Int},np cs=some xs->cs=xs.map (Value.int .u8)
 |[],xs,h=>by simp only[np,LR] at h;subst h;rfl
 |v::r,xs,h=>by
  unfold np at h;split at h
  .rename_i hv;cases hv
  .rename_i n r' hv
   cases hv
   split at h
   .rename_i l hl
    cases h
    rw[qZ hl];rfl
   .cases h
  .cases h
def zg(P:Program)(t:TypeId)(v:Value):Option Value :=
 match iz P t with
 |some true=>match v with
  |.agg cs=>match bb P t with
   |some n=>match Nat.beq cs.toList.length n with
    |true=>some (.agg cs)
    |false=>none
   |none=>none
  |_=>none
 |some false=>match v with
  |.agg _=>none
  |v=>some v
 |none=>none
theorem qh{P:Program}{ι:Inj}{w:World}(hfz:∀b C,ι.fz b=some C->∃ty fr,w.heap[b]?=some (.cells C ty fr)){t:TypeId}{i:Nat}{u x' v:Value}(r:VRel ι (.iface i (.agg ⟨[u]⟩)) x')(e:zg P t u=some v) :
  ∃a v',x'=.pointer (some a)/\(loadVar t a).run P w=.ok v' w/\VRel ι v v':=by
 cases r with
 |fp _ b o C h0 h1 h2 =>
  obtain⟨ty,fr,hb⟩:=hfz b C h0
  have cell:∀j,o+j<C.size->w.cell? ⟨b,o+j,none⟩=some (C.getD (o+j) undef):=λj hj=>by
   simp[PK,hb,LW,Me hj]
  unfold zg at e;split at e
  .rename_i ha;split at e
   .rename_i cs;split at e
    .rename_i n hs;split at e
     .rename_i hn;have hn':cs.toList.length=n:=M6 hn;simp only[LR] at e;subst e;have hcl:cl (.agg cs)=cs.toList:=rfl;rw[hcl,hn'] at h1 h2;refine⟨_,.agg ((Ma n).map λj=>C.getD (o+j) undef).toArray,rfl,?_,?_⟩
      .simp only[loadVar,iZ ha,bg hs,Mv,Mo,if_true];rw[run_loadCells w _ n (λj=>C.getD (o+j) undef) (λj hj=>by rw[cP];exact cell j (by omega))];rfl
      .have:ba ι cs.toList ((Ma n).map λj=>C.getD (o+j) undef):=by
        refine ba.nf (by simp[hn']) λj x y e1 e2=>?_
        have hj:j<n:=by rw[<- hn'];exact (LX.1 e1).1
        simp only[L7,M7 hj,MI,LR] at e2;subst e2;have:=h2 j hj;simpa[Mh,e1] using this
       have:=this.array;exact .agg _ _ this.1 this.2
     .cases e
    .cases e
   .cases e
  .rename_i ha
   have key:cl u=[u]->∃a v',Value.pointer (some ⟨b,o,none⟩)=.pointer (some a)/\(loadVar t a).run P w=.ok v' w/\VRel ι u v':=λeu=>by
    rw[eu] at h1 h2;simp only[L6] at h1 h2;have c0:=cell 0 (by omega);have h20:=h2 0 (by omega);simp only[OP] at c0 h20;refine⟨_,C.getD o undef,rfl,?_,by simpa[Mh] using h20⟩;simp only[loadVar,iZ ha,Mv,Mo,Nr,if_false,run_load,c0]
   split at e
   .cases e
   .rename_i hna;simp only[LR] at e;subst e;exact key (by cases u <;> first|rfl|exact absurd rfl (hna _))
  .cases e
def lJ(h:Heap):Value->Option Value
 |.iface _ (.tuple ⟨es⟩)=>match np es with
  |some xs=>some (.string (strOfNums xs))
  |none=>none
 |.slice none _ _=>some (.string R7)
 |.slice (some ⟨g,off,_⟩) len _ =>
  match h.get g with
  |some (.cells cs _)=>match np ((cs.drop off).take len) with
   |some xs=>if xs.length=len then some (.string (strOfNums xs)) else none
   |none=>none
  |_=>none
 |_=>none
def gK:TypeDesc->Bool
 |.int _ | .string | .bool=>true
 |_=>false
def Gp:Value->Value->Bool
 |.int j a,.int k b=>j==k&&a==b
 |.bool a,.bool b=>a==b
 |.string a,.string b=>a==b
 |_,_=>false
def tw:List Value->List Value->Bool
 |[],[]=>true
 |x::xs,y::ys=>Gp x y&&tw xs ys
 |_,_=>false
def Df(P:Program)(rec:TypeId->Value->Bool)(cs:Array Value):List Field->Bool
 |[]=>true
 |f::r=>match partOf P f.type cs f.offset with
  |some x=>rec f.type x&&Df P rec cs r
  |none=>false
def Dh(P:Program)(rec:TypeId->Value->Bool)(e:TypeId)(c:Nat)(cs:Array Value):List Nat->Bool
 |[]=>true
 |i::r=>match partOf P e cs (i*c) with
  |some x=>rec e x&&Dh P rec e c cs r
  |none=>false
def Bq(P:Program):Nat->TypeId->Value->Bool
 |0,_,_=>false
 |d+1,t,v =>
  match P.underlying t,v with
  |some (.int _),_|some .string,_|some .bool,_=>true
  |some (.struct fs),.agg cs=>Df P (Bq P d) cs fs.toList
  |some (.array n e),.agg cs=>match bb P e with
   |some c=>Dh P (Bq P d) e c cs (List.range' 0 n)
   |none=>false
  |_,_=>false
def fo(P:Program)(kt:TypeId)(kd:TypeDesc)(k k':Value):Option Bool :=
 match gK kd with
 |true=>OW kd k k'
 |false=>match nW P kt k k' with
  |some true=>match k',k with
   |.agg a,.agg b=>match tw a.toList b.toList with
    |true=>some true
    |false=>none
   |_,_=>none
  |some false=>some false
  |none=>none
def ke(P:Program)(kt:TypeId)(kd:TypeDesc)(k:Value):Bool :=
 match gK kd with
 |true=>true
 |false=>plain k&&Bq P 9 kt k
def mQ(P:Program)(kt:TypeId)(kind:TypeDesc)(k:Value):List (Value×Value)->Nat->Option (Option (Nat×Value))
 |[],_=>some none
 |(k',v)::es,i =>
  match fo P kt kind k k' with
  |some true=>some (some (i,v))
  |some false=>mQ P kt kind k es (i+1)
  |none=>none
def entriesOf(h:Heap):Value->Option (List (Value×Value))
 |.map none=>some []
 |.map (some g)=>match h.get g with
  |some (.map es)=>some es
  |_=>none
 |_=>none
def bp(P:Program)(ρ:Operand->Value)(o:Oper)(h:Heap):Option Value :=
 match o.op with
 |.load t a =>
  match ρ a with
  |.pointer (some ⟨g,off,none⟩)=>mJ P h t g off
  |.iface _ (.agg ⟨[u]⟩)=>zg P t u
  |_=>none
 |.convert s t x =>
  match P.underlying s,P.underlying t with
  |some (.slice e),some .string=>match P.underlying e with
   |some (.int .u8)=>lJ h (ρ x)
   |_=>none
  |_,_=>bx P ρ o
 |.lookup t x i commaOk =>
  match P.underlying t with
  |some (.map kt e) =>
   match P.underlying kt,zeroOf P e,entriesOf h (ρ x) with
   |some kd,some z,some es =>
    if ke P kt kd (ρ i)=true/\plain z=true then
     match mQ P kt kd (ρ i) es 0 with
     |some (some (_,v))=>some (match commaOk with|true=>.tuple #[v,.bool true] | false=>v)
     |some none=>some (match commaOk with|true=>.tuple #[z,.bool false] | false=>z)
     |none=>none
    else none
   |_,_,_=>none
  |_=>none
 |_=>none
def dj(ρ:Operand->Value)(o:Oper):Bool :=
 match o.op with
 |.load _ a=>match ρ a with
  |.iface _ _=>true
  |_=>false
 |.convert _ _ x=>match ρ x with
  |.int _ _=>true
  |_=>false
 |_=>false
theorem tU{P:Program}{ι:Inj}{h:Heap}{w:World}{ρ ρ':Operand->Value}{o:Oper}{v:Value}(hfz:∀b C,ι.fz b=some C->∃ty fr,w.heap[b]?=some (.cells C ty fr))(hρ:∀x∈o.op.operands,VRel ι (ρ x) (ρ' x))
  (hf:dj ρ o=true) (e:bp P ρ o h=some v):∃v',(execOp ρ' o).run P w=.ok (.value v') w/\VRel ι v v':=by
 obtain⟨dst,op,type,pos,after,guard⟩:=o
 cases op <;> try (simp[dj] at hf;done)
 case convert s t x =>
  simp only[dj] at hf
  simp only[bp] at e
  split at e
  .split at e
   .cases hx:ρ x <;> simp[hx] at hf
    rw[hx] at e
    simp[lJ] at e
   .cases e
  .obtain⟨v',q1,q2⟩:=lx (by simp) hρ e
   exact⟨v',q1 w,q2⟩
 rename_i t a;have ha:=hρ a (by simp[Mi]);simp only[bp] at e;simp only[dj] at hf;generalize ea:ρ a=y0 at ha e hf;generalize ea':ρ' a=y at ha
 split at e <;> try (cases e;done)
 .simp at hf
 .obtain⟨ad,v',rfl,q1,q2⟩:=qh hfz ha e;exact⟨v',by simp[execOp,RW,Ov,ea',q1],q2⟩
theorem VRel.wy{ι:Inj}{z:Value}{b:Bool}(h:plain z=true):VRel ι (.tuple #[z,.bool b]) (.tuple #[z,.bool b]):=by
 have:=ba.cons (VRel.aU (ι:=ι) h) (ba.cons (VRel.bool b) (ba.nil ι));exact .tuple _ _ this.array.1 this.array.2
theorem CJ{ι:Inj}{kind:TypeDesc}{k k':Value}{b:Bool}(e:OW kind k k'=some b){c c':Value}(r:VRel ι k c)(r':VRel ι k' c'):c=k/\c'=k':=by
 unfold OW at e;split at e
 .exact⟨r.bZ rfl,r'.bZ rfl⟩
 .exact⟨r.bZ rfl,r'.bZ rfl⟩
 .exact⟨r.bZ rfl,r'.bZ rfl⟩
 .cases e
theorem Cx:∀{a b:Value} (n:Nat),Gp a b=true->N1 n a b=true
 |.int _ _,.int _ _,n,h=>by cases n <;> exact h
 |.bool _,.bool _,n,h=>by cases n <;> exact h
 |.string a,.string b,n,h=>by cases n <;> exact h
theorem uD(n:Nat):∀{xs ys:List Value},tw xs ys=true->xs.length=ys.length/\((xs.zip ys).all λ(x,y)=>N1 n x y)=true
 |[],[],_=>⟨rfl,rfl⟩
 |[],_::_,h=>by cases h
 |_::_,[],h=>by cases h
 |x::xs,y::ys,h=>by
  unfold tw at h;rw[L9] at h;obtain⟨h1,h2⟩:=uD n h.2;refine⟨by simp[h1],?_⟩;rw[List.zip_cons_cons,List.all_cons,h2,PG];exact Cx n h.1
theorem pU{kd:TypeDesc}{a b:Value}(h:OW kd b a=some true):N1 10000 a b=true:=by
 unfold OW at h;split at h
 .split at h
  .rename_i hk;subst hk;simp only[LR,beq_iff_eq] at h;subst h;simp[N1]
  .cases h
 .rename_i x y;simp only[LR] at h;obtain⟨x⟩:=x;obtain⟨y⟩:=y;have h':(x==y)=true:=h;rw[beq_iff_eq] at h';subst h'
  show (x==x)=true
  simp
 .simp only[LR,beq_iff_eq] at h;subst h;simp[N1]
 .cases h
theorem Bi{P:Program}{t:TypeId}{x y:Value}{q:Bool}(h:nW P t x y=some q):plain x=true/\plain y=true/\∀w,(PE t x y).run P w=.ok q w:=by
 unfold nW at h;split at h
 .rename_i xs ys;split at h
  .rename_i hc;simp only[L9,Ox] at hc;exact⟨hc.1.1,hc.1.2,λw=>zn 9936 64 t _ _ q h w⟩
  .cases h
 .cases h
theorem qd{P:Program}{ι:Inj}{kt:TypeId}{kd:TypeDesc}{k k':Value}{b:Bool}(e:fo P kt kd k k'=some b){c c':Value}(r:VRel ι k c)(r':VRel ι k' c') :
  (gK kd=true->OW kd c c'=some b)/\(gK kd=false->∀w,(PE kt c c').run P w=.ok b w)/\(b=true->N1 10000 c' c=true):=by
 unfold fo at e
 cases hk:gK kd with
 |true =>
  rw[hk] at e;dsimp only at e;obtain⟨e1,e2⟩:=CJ e r r';subst e1 e2;refine⟨λ_=>e,(λh=>by cases h),λhb=>?_⟩;subst hb;exact pU e
 |false =>
  rw[hk] at e;dsimp only at e
  cases he:nW P kt k k' with
  |none=>rw[he] at e;cases e
  |some q =>
   obtain⟨p1,p2,p3⟩:=Bi he;have h1:=r.cv p1;have h2:=r'.cv p2;subst h1 h2;rw[he] at e
   cases q with
   |false =>
    cases e
    exact⟨(λh=>by cases h),λ_ w=>p3 w,(λh=>by cases h)⟩
   |true =>
    dsimp only at e;split at e
    .rename_i a b';split at e
     .rename_i hs
      cases e
      refine⟨(λh=>by cases h),λ_ w=>p3 w,λ_=>?_⟩;obtain⟨g1,g2⟩:=uD 9999 hs
      show N1 (9999+1) (.agg _) (.agg _)=true
      unfold N1;rw[g2,PG,beq_iff_eq];simpa using g1
     .cases e
    .cases e
def Gw(P:Program)(kt:TypeId)(kd:TypeDesc)(c:Value)(E:List MapEntry)(i:Nat)(r:Option (Nat×Value)):Prop :=
 (gK kd=true->Pj kd c E i=some r)/\(gK kd=false->∀w,(O6 kt c E i).run P w=.ok r w)
theorem fY{P:Program}{ι:Inj}{kt:TypeId}{kind:TypeDesc}{k c:Value}(rk:VRel ι k c):∀(es:List (Value×Value)) (E:List MapEntry) (i:Nat),es.length=E.length ->
  (∀(j:Nat) (k v:Value),es[j]?=some (k,v)->∃m:MapEntry,E[j]?=some m/\VRel ι k m.key/\VRel ι v m.val)->∀r,mQ P kt kind k es i=some r ->
  match r with
  |some (n,v)=>∃v',Gw P kt kind c E i (some (n,v'))/\VRel ι v v'/\i<=n/\∃m,E[n-i]?=some m/\N1 10000 m.key c=true/\m.val=v'
  |none=>Gw P kt kind c E i none
 |[],[],i,_,_,r,h=>by
  simp only[mQ,LR] at h;subst h;exact⟨λ_=>rfl,λ_ w=>by simp[O6]⟩
 |[],_::_,_,h,_,_,_=>by simp at h
 |_::_,[],_,h,_,_,_=>by simp at h
 |(k',v)::es,m::E,i,hl,hE,r,h=>by
  obtain⟨m',e,r1,r2⟩:=hE 0 k' v rfl;simp only[My,LR] at e;subst e;unfold mQ at h;split at h
  .rename_i hs;simp only[LR] at h;subst h;obtain⟨g1,g2,g3⟩:=qd hs rk r1;refine⟨m.val,⟨λhk=>?_,λhk w=>?_⟩,r2,LV _,m,by simp,g3 rfl,rfl⟩
   .unfold Pj;rw[g1 hk]
   .simp[O6,g2 hk w]
  .rename_i hs;obtain⟨g1,g2,_⟩:=qd hs rk r1;have ih:=fY rk es E (i+1) (by simpa using hl) (λj k v q=>hE (j+1) k v (by simpa using q)) r h
   cases r with
   |none =>
    refine⟨λhk=>?_,λhk w=>?_⟩
    .unfold Pj;rw[g1 hk];exact ih.1 hk
    .simp[O6,g2 hk w,ih.2 hk w]
   |some p =>
    obtain⟨n,u⟩:=p;obtain⟨v',q1,q2,q3,m',q4,q5,q6⟩:=ih;refine⟨v',⟨λhk=>?_,λhk w=>?_⟩,q2,by omega,m',?_,q5,q6⟩
    .unfold Pj;rw[g1 hk];exact q1.1 hk
    .simp[O6,g2 hk w,q1.2 hk w]
    .have:n-i=(n-(i+1))+1:=by omega
     rw[this,M9];exact q4
  .cases h
theorem xT {P:Program}{b:Bool}{n:Nat}{rec:TypeId->Value->Bool} (IH:∀t v,rec t v=true->∀w,(OH b n t v).run P w=.ok () w) (cs:Array Value) :
  ∀(fs:List Field),Df P rec cs fs=true->∀w,(forIn fs RN (λf _=>do
   if f.name ≠ "_" then OH b n f.type (← part f.type cs f.offset)
   pure (R8 RN)):Sem PUnit).run P w=.ok () w
 |[],_,w=>by simp
 |f::r,h,w=>by
  unfold Df at h
  split at h
  .rename_i x hx
   rw[L9] at h
   have ih:=xT IH cs r h.2 w
   by_cases hn : f.name = "_"
   .simpa[hn] using ih
   .simpa[hn,jS hx,IH _ _ h.1] using ih
  .cases h
theorem yE{P:Program}{b:Bool}{n:Nat}{rec:TypeId->Value->Bool}(IH:∀t v,rec t v=true->∀w,(OH b n t v).run P w=.ok () w)(cs:Array Value){e:TypeId}{c:Nat}(hc:bb P e=some c) :
  ∀(is:List Nat),Dh P rec e c cs is=true->∀w,(forIn is RN (λi _=>do
   OH b n e (<- part e cs (i*(<- sizeOf e)))
   pure (R8 RN)):Sem PUnit).run P w=.ok () w
 |[],_,w=>by simp
 |i::r,h,w=>by
  unfold Dh at h;split at h
  .rename_i x hx;rw[L9] at h;have ih:=yE IH cs hc r h.2 w;simpa[bg hc,jS hx,IH _ _ h.1] using ih
  .cases h
theorem yj{P:Program}{b:Bool}(n:Nat):∀(d:Nat) (t:TypeId) (v:Value),Bq P d t v=true->∀w,(OH b (n+d) t v).run P w=.ok () w
 |0,_,_,h,_=>by cases h
 |d+1,t,v,h,w=>by
  have IH:=yj (P:=P) (b:=b) n d;rw[show n+(d+1)=(n+d)+1 by omega];unfold Bq at h;unfold OH;split at h
  .rename_i hu;simp[ax hu]
  .rename_i hu;simp[ax hu]
  .rename_i hu;simp[ax hu]
  .rename_i fs cs hu;have q:=xT IH cs fs.toList h w;simpa[ax hu] using q
  .rename_i m e cs hu;split at h
   .rename_i c hc;have q:=yE IH cs hc _ h w;simpa[ax hu,Ro,Sy] using q
   .cases h
  .cases h
theorem run_checkKey{P:Program}{w:World}{b:Bool}{t:TypeId}{kd:TypeDesc}{v:Value}(hu:P.underlying t=some kd)(hk:ke P t kd v=true){ι:Inj}{v':Value}(r:VRel ι v v'):(OH b 10000 t v').run P w=.ok () w:=by
 unfold ke at hk
 cases hq:gK kd with
 |true =>
  unfold OH;simp only[Mv,ax hu,Mo]
  cases kd <;> simp[gK] at hq <;> simp
 |false =>
  rw[hq] at hk;simp only[L9] at hk;rw[r.cv hk.1];exact yj 9991 9 t v hk.2 w
theorem zj{kd:TypeDesc}(h:gK kd=false){k:Value}{e:MapEntry}{E:List MapEntry}{i:Nat}:Pj kd k (e::E) i=none:=by
 unfold Pj
 have:OW kd k e.key=none:=by
  unfold OW;split
  .cases h
  .cases h
  .cases h
  .rfl
 rw[this]
theorem run_findKey{P:Program}{w:World}{t:TypeId}{kd:TypeDesc}{k:Value}{E:List MapEntry}{r:Option (Nat×Value)}(hu:P.underlying t=some kd)(hf:Gw P t kd k E 0 r):(Sr t k E).run P w=.ok r w:=by
 unfold Sr
 cases hk:gK kd with
 |true=>simp only[Mv,ax hu,Mo,hf.1 hk,MO]
 |false =>
  have h2:=hf.2 hk w
  cases E with
  |nil =>
   have e:Pj kd k [] 0=some none:=rfl;simp only[Mv,ax hu,Mo,e,MO];simpa[O6] using h2
  |cons e E=>simp only[Mv,ax hu,Mo,zj hk,h2]
theorem By{N:Nat}{P:Program}{ι:Inj}{h:Heap}{w:World}(H:HRel N ι h w){s t e:TypeId}(hs:P.underlying s=some (.slice e))(he:P.underlying e=some (.int .u8))(ht:P.underlying t=some .string){x x' v:Value}(r:VRel ι x x')
  (hv:lJ h x=some v):(convert s t x').run P w=.ok v w/\plain v=true:=by
 have key:∀(g off len cap':Nat) (l:Loc) (o:Nat),ι g=some l->(len≠0->o=l.base+off)->∀cs ro,h.get g=some (.cells cs ro)->∀xs,np ((cs.drop off).take len)=some xs->xs.length=len ->
   (convert s t (.slice (some ⟨l.blk,o,none⟩) len cap')).run P w=.ok (.string (strOfNums xs)) w:=by
  intro g off len cap' l o hl ho cs ro hg xs hx hlen;refine run_convert_bytes_arg w s e hs he l.blk o len cap' xs hlen (λi hi=>?_) t ht;have hm:=qZ hx
  have hi':i<xs.length:=by omega
  have hc:cs[off+i]?=some (.int .u8 xs[i]):=by
   have:((cs.drop off).take len)[i]?=some (.int .u8 xs[i]):=by rw[hm];simp[hi']
   rw[MX,if_pos hi,Nq] at this;exact this
  obtain⟨v',q1,q2⟩:=H.cell hl hg hc;have hv':=q2.bZ rfl;subst hv';have ho':=ho (by omega);subst ho';rw[Nm,q1];simp[Mh,LU hi']
 cases r <;> try (simp[lJ] at hv;done)
 case sliceNil =>
  simp only[lJ,LR] at hv
  subst hv
  exact⟨run_convert_bytes_nil w s e hs he 0 0 t ht,rfl⟩
 case slice g off len cap o l hl hle ho =>
  simp only[lJ] at hv
  split at hv
  .rename_i cs ro hg
   split at hv
   .rename_i xs hx
    split at hv
    .rename_i hlen
     simp only[LR] at hv
     subst hv
     exact⟨key g off len cap l o hl (λ_=>ho (by omega)) cs ro hg xs hx hlen,rfl⟩
    .cases hv
   .cases hv
  .cases hv
 case sliceOpen g off sp len cap cap' o l hl hle hcap ho htot =>
  simp only[lJ] at hv
  split at hv
  .rename_i cs ro hg
   split at hv
   .rename_i xs hx
    split at hv
    .rename_i hlen
     simp only[LR] at hv
     subst hv
     exact⟨key g off len cap' l o hl (λ_=>ho (by omega)) cs ro hg xs hx hlen,rfl⟩
    .cases hv
   .cases hv
  .cases hv
 case flNil s0 =>
  simp only[lJ,np,LR] at hv
  subst hv
  exact⟨run_convert_bytes_nil w s e hs he 0 0 t ht,rfl⟩
 case flEmpty s0 a cap =>
  simp only[lJ,np,LR] at hv
  subst hv
  refine⟨(?_:(convert s t (.slice (some a) 0 cap)).run P w=.ok (.string R7) w),rfl⟩
  rw[run_convert_bytes_string w s t e _ 0 cap hs he ht]
  simp[Conv.bytesToString,loadCells,loadCellsFrom]
 case fl s0 es b o cap C h0 h1 h2 h3 h4 h5 =>
  simp only[lJ] at hv
  split at hv
  .rename_i xs hx
   simp only[LR] at hv
   subst hv
   have hm:=qZ hx
   have hlen:xs.length=es.length:=by rw[hm];simp
   obtain⟨ty,fr,hb⟩:=H.frz b C h0
   have hne:0<es.length:=RA.2 h1
   have hget:∀i (hi:i<xs.length),es[i]?=some (.int .u8 xs[i]):=λi hi=>(congrArg (λl=>l[i]?) hm).trans (by simp[hi])
   have hs1:s0=1:=by
    have hm0:es[0]?=some (.int .u8 xs[0]):=hget 0 (by omega);rw[<- h3 _ (LS hm0)];rfl
   subst hs1
   refine⟨run_convert_bytes_arg w s e hs he b o es.length cap xs hlen (λi hi=>?_) t ht,rfl⟩
   have hi':i<xs.length:=by omega
   have q:=h5 i (by omega)
   have e1:(ah es)[i]?=some (.int .u8 xs[i]):=by
    have hu:es[i]?=some (.int .u8 xs[i]):=hget i hi';have:=vF h3 hu (i:=0) (by omega);rw[PQ,OP] at this;rw[this];rfl
   rw[Mh,e1] at q
   have q':=q.bZ rfl
   have hlt:o+i<C.size:=by omega
   simp only[NI] at q'
   rw[LW,Me hlt] at q'
   simp only[NI] at q'
   simp[PK,hb,Me hlt,q',Mh,LU hi']
  .cases hv
theorem wu{P:Program}{ρ:Operand->Value}{o:Oper}{v:Value}(h:bx P ρ o=some v):plain v=true:=by
 unfold bx at h;split at h
 .split at h
  .split at h
   .rename_i hp;cases h;exact hp
   .cases h
  .cases h
 .cases h
theorem lU{N:Nat}{P:Program}{ι:Inj}{h:Heap}{w:World}(H:HRel N ι h w){ρ ρ':Operand->Value}{o:Oper}{v:Value}(hρ:∀x∈o.op.operands,VRel ι (ρ x) (ρ' x))
  (e:bp P ρ o h=some v):∃v',(execOp ρ' o).run P w=.ok (.value v') w/\VRel ι v v':=by
 obtain⟨dst,op,type,pos,after,guard⟩:=o
 cases op with
 |load t a =>
  have ha:=hρ a (by simp[Mi]);simp only[bp] at e;generalize ea:ρ a=y0 at ha e;generalize ea':ρ' a=y at ha
  split at e <;> try (cases e;done)
  .rename_i g off
   cases ha
   rename_i l hl;obtain⟨v',q1,q2⟩:=oE H hl e;exact⟨v',by simp[execOp,RW,Ov,ea',q1],q2⟩
  .obtain⟨ad,v',rfl,q1,q2⟩:=qh H.frz ha e;exact⟨v',by simp[execOp,RW,Ov,ea',q1],q2⟩
 |convert s t x =>
  have hx:=hρ x (by simp[Mi])
  have FB:∀{u},bx P ρ ⟨dst,.convert s t x,type,pos,after,guard⟩=some u->∃v',(execOp ρ' ⟨dst,.convert s t x,type,pos,after,guard⟩).run P w=.ok (.value v') w/\VRel ι u v' :=
   λhf=>let ⟨v',q1,q2⟩:=lx (by simp) hρ hf;⟨v',q1 w,q2⟩
  simp only[bp] at e;split at e
  .rename_i el hs ht;split at e
   .rename_i he;obtain⟨q1,q2⟩:=By H hs he ht hx e;exact⟨v,by simp[execOp,q1],VRel.aU q2⟩
   .cases e
  .exact FB e
 |lookup t x i commaOk =>
  have hx:=hρ x (by simp[Mi]);have hi:=hρ i (by simp[Mi]);simp only[bp] at e
  cases hu:P.underlying t with
  |none=>simp[hu] at e
  |some dd =>
   cases dd <;> try (simp[hu] at e;done)
   rename_i kt el
   cases hk:P.underlying kt with
   |none=>simp[hu,hk] at e
   |some kd =>
    cases hz:zeroOf P el with
    |none=>simp[hu,hk,hz] at e
    |some z =>
     cases he:entriesOf h (ρ x) with
     |none=>simp[hu,hk,hz,he] at e
     |some es =>
      simp only[hu,hk,hz,he] at e;split at e
      .rename_i hc;obtain⟨c1,c2⟩:=hc
       have hE:∃E:Array MapEntry,((ρ' x=.map none/\E = #[])\/∃r c,ρ' x=.map (some r)/\w.heap[r]?=some (.map E c))/\es.length=E.toList.length/\∀(j:Nat) (k v:Value),es[j]?=some (k,v)->∃m:MapEntry,E.toList[j]?=some m/\VRel ι k m.key/\VRel ι v m.val:=by
        generalize ex:ρ x=y0 at hx he;generalize ex':ρ' x=y1 at hx
        cases hx <;> try (simp[entriesOf] at he;done)
        .simp only[entriesOf,LR] at he;subst he;exact⟨#[],.inl ⟨rfl,rfl⟩,rfl,by simp⟩
        .rename_i g l hl;simp only[entriesOf] at he;split at he
         .rename_i es' hg;simp only[LR] at he;subst he;obtain⟨E,c,k1,k2,k3,k4,_⟩:=H.obj g l _ hl hg;refine⟨E,.inr ⟨l.blk,c,rfl,k1⟩,by simp[k3],λj k v q=>?_⟩;obtain⟨m,q1,q2,q3⟩:=k4 j k v q;exact⟨m,by simpa using q1,q2,q3⟩
         .cases he
       obtain⟨E,q1,q2,q3⟩:=hE
       cases hf:mQ P kt kd (ρ i) es 0 with
       |none=>simp[hf] at e
       |some r =>
        have fs:=fY hi es E.toList 0 q2 q3 r hf
        cases r with
        |none =>
         simp only[hf,LR] at e;subst e;refine⟨match commaOk with|true=>.tuple #[z,.bool false] | false=>z,?_,?_⟩
         .rcases q1 with⟨q1,rfl⟩|⟨r,c,q1,k1⟩
          .simp only[execOp,Q8,Mv,ax hu,Mo,q1,MO,run_checkKey hk c1 hi,run_findKey hk fs,fi hz]
           cases commaOk <;> rfl
          .have hg:(getObj r).run P w=.ok (.map E c) w:=by simp[getObj,Pn,k1]
           simp only[execOp,Q8,Mv,ax hu,Mo,q1,hg,MO,run_checkKey hk c1 hi,run_findKey hk fs,fi hz]
           cases commaOk <;> rfl
         .cases commaOk
          .exact VRel.aU c2
          .exact VRel.wy c2
        |some p =>
         obtain⟨n,v0⟩:=p;simp only[hf,LR] at e;subst e;obtain⟨v',f1,f2,_⟩:=fs;refine⟨match commaOk with|true=>.tuple #[v',.bool true] | false=>v',?_,?_⟩
         .rcases q1 with⟨q1,rfl⟩|⟨r,c,q1,k1⟩
          .simp only[execOp,Q8,Mv,ax hu,Mo,q1,MO,run_checkKey hk c1 hi,run_findKey hk f1]
           cases commaOk <;> rfl
          .have hg:(getObj r).run P w=.ok (.map E c) w:=by simp[getObj,Pn,k1]
           simp only[execOp,Q8,Mv,ax hu,Mo,q1,hg,MO,run_checkKey hk c1 hi,run_findKey hk f1]
           cases commaOk <;> rfl
         .cases commaOk
          .exact f2
          .have:=ba.cons f2 (ba.cons (VRel.bool true) (ba.nil ι));exact .tuple _ _ this.array.1 this.array.2
      .cases e
 |_=>simp[bp] at e
theorem nm{α:Type}(f:Nat->α):(Rp 0).map f = #[]:=NJ (by simp)
def jW(zero:Array Value)(n:Nat):Array Value:=(Rp n).map λi=>zero[i%zero.size]!
theorem sP(z:Array Value)(n:Nat):(jW z n).size=n:=by simp[jW]
theorem nq{z:Array Value}(h:z.all aR=true)(n:Nat):(jW z n).all aR=true:=by
 rw[MJ];intro v hv;simp only[jW,Array.mem_map] at hv;obtain⟨i,_,rfl⟩:=hv;rw[Array.getElem!_eq_getD,LW]
 cases e:z[i%z.size]? with
 |none=>rfl
 |some u=>exact (MJ.1 h) u (M5 e)
theorem HW(v:Value)(n:Nat):(jW #[v] n).toList=List.replicate n v:=by
 apply NY
 .simp[jW]
 .intro i h1 h2;simp[jW,Nat.mod_one]
def ew(P:Program)(ρ:Operand->Value)(o:Oper):Option (AObj×(Nat->Value)) :=
 match o.op with
 |.alloc t =>
  match zeroOf P t with
  |some z=>if z.cells.all aR then some (.cells z.cells.toList false,λg=>.pointer (some ⟨g,0,none⟩)) else none
  |none=>none
 |.box _ x=>some (.cells (ρ x).cells.toList false,λg=>.pointer (some ⟨g,0,none⟩))
 |.buildSlice t len ps =>
  match P.underlying t with
  |some (.slice e) =>
   match bb P e,zeroOf P e with
   |some s,some z =>
    if z.cells.all aR&&decide (0<len*s)&&decide (len*s<=2^24) then
     match Oc (λi=>some (i*s,s)) (jW z.cells (len*s)) (ps.toList.map λp=>(p.1,ρ p.2)) with
     |some cells=>some (.cells cells.toList false,λg=>.slice (some ⟨g,0,none⟩) len len)
     |none=>none
    else if len=0/\ps.size=0 then some (.cells [] false,λg=>.slice (some ⟨g,0,none⟩) 0 0)
    else none
   |_,_=>none
  |_=>none
 |.makeSlice t l c =>
  match P.underlying t,ρ l,ρ c with
  |some (.slice e),.int _ l,.int _ c =>
   match bb P e,kH P e,zeroOf P e with
   |some s,some b,some z =>
    if 0<=l/\l<=c/\(b:Int)*c<=2^48/\c<2^63/\z.cells.all aR=true then
     some (.cells (jW z.cells (c.toNat*s)).toList false,λg=>.slice (some ⟨g,0,none⟩) l.toNat c.toNat)
    else none
   |_,_,_=>none
  |_,_,_=>none
 |.makeMap _ none=>some (.map [],λg=>.map (some g))
 |.makeMap t (some r) =>
  match P.underlying t,ρ r with
  |some (.map ..),.int .. => some (.map [],λg=>.map (some g))
  |_,_=>none
 |.range t x =>
  match P.underlying t,ρ x with
  |some .string,.string s=>some (.iter s 0,λg=>.pointer (some ⟨g,0,none⟩))
  |_,_=>none
 |_=>none
theorem vr{P:Program}{ρ:Operand->Value}{o:Oper}{ob:AObj}{f:Nat->Value}(e:ew P ρ o=some (ob,f)):∀cs,ob≠.cells cs true:=by
 unfold ew at e
 repeat' (split at e)
 all_goals first
  |(cases e;done)
  |(simp only[LR,Mn] at e
    obtain⟨rfl,_⟩:=e
    intro cs hc
    cases hc)
theorem iL.row{ι:Inj}{xs ys:Array Value}(r:bB ι xs ys)(b:Nat)(t:TypeId):iL ι ⟨b,0,ys.size⟩ (.cells xs.toList false) (some (.cells ys t)):=by
 refine⟨ys,t,(0,0),rfl,λ_=>rfl,rfl,by simp[r.1],λi v e=>?_⟩;obtain⟨v',q1,q2⟩:=r.get (i:=i) (v:=v) (by simpa using e);exact⟨v',by simpa using q1,q2⟩
theorem wrap_i64{n:Int}(h0:0<=n)(h1:n<2^63):IntKind.i64.wrap n=n:=by
 exact IntWalk.i64_in n (by omega)
theorem run_askRoom{P:Program}(n:Nat)(w:World):(askRoom n).run P w=.ok () w:=by
 unfold askRoom;split
 .simp[mark,Pn]
 .rfl
theorem vv{P:Program}{ι:Inj}{ρ ρ':Operand->Value}{o:Oper}{ob:AObj}{f:Nat->Value}(hρ:∀x∈o.op.operands,VRel ι (ρ x) (ρ' x))(e:ew P ρ o=some (ob,f))(w:World) :
  ∃o' tot v',(execOp ρ' o).run P w=.ok (.value v') (w.alloc o')/\∀ι1 g,Inj.Le ι ι1->ι1 g=some ⟨w.heap.size,0,tot⟩ ->
   iL ι1 ⟨w.heap.size,0,tot⟩ ob (some o')/\VRel ι1 (f g) v':=by
 obtain⟨dst,op,type,pos,after,guard⟩:=o
 cases op with
 |alloc t =>
  simp only[ew] at e
  cases hz:zeroOf P t with
  |none=>simp[hz] at e
  |some z =>
   simp only[hz] at e;split at e
   .rename_i hp;simp only[LR,Mn] at e;obtain⟨rfl,rfl⟩:=e;refine⟨.cells z.cells t,z.cells.size,.pointer (some ⟨w.heap.size,0,none⟩),?_,λι1 g _ hg=>⟨iL.row (bB.aU hp) _ _,?_⟩⟩
    .simp[execOp,Instr.alloc,fi hz,newVar,newRow]
    .exact .ptr g 0 _ hg
   .cases e
 |box t x =>
  have hx:=hρ x (by simp[Mi]);simp only[ew,LR,Mn] at e;obtain⟨rfl,rfl⟩:=e;refine⟨.cells (ρ' x).cells t,(ρ' x).cells.size,.pointer (some ⟨w.heap.size,0,none⟩),?_,λι1 g hext hg=>⟨iL.row (hx.cells.mono hext) _ _,?_⟩⟩
  .simp[execOp,Instr.box,newVar,newRow]
  .exact .ptr g 0 _ hg
 |buildSlice t len ps =>
  simp only[ew] at e
  cases hu:P.underlying t with
  |none=>simp[hu] at e
  |some d =>
   cases d <;> try (simp[hu] at e;done)
   rename_i el
   cases hs:bb P el with
   |none=>simp[hu,hs] at e
   |some s =>
    cases hz:zeroOf P el with
    |none=>simp[hu,hs,hz] at e
    |some z =>
     simp only[hu,hs,hz] at e;split at e
     .rename_i hp;simp only[L9,decide_eq_true_eq] at hp
      cases hf:Oc (λi=>some (i*s,s)) (jW z.cells (len*s)) (ps.toList.map λp=>(p.1,ρ p.2)) with
      |none=>simp[hf] at e
      |some cells =>
       simp only[hf,LR,Mn] at e;obtain⟨rfl,rfl⟩:=e;have hps:∀p∈ps.toList,VRel ι (ρ p.2) (ρ' p.2):=λp hp=>hρ p.2 (by simp only[Mi,Q4,MP];exact⟨p,hp,rfl⟩);obtain⟨cells',q1,q2⟩:=pb ps.toList hps _ _ _ (bB.aU (nq hp.1.1 (len*s))) hf;refine⟨.cells cells' el,cells'.size,.slice (some ⟨w.heap.size,0,none⟩) len len,?_,λι1 g hext hg=>⟨iL.row (q2.mono hext) _ _,?_⟩⟩
       .have h1:¬ len*s>2^24:=by omega
        have h2:¬ len*s=0:=by omega
        have h3:(ps.map λ(x:Nat×Operand)=>(x.1,ρ' x.2)).toList=ps.toList.map λp=>(p.1,ρ' p.2):=by simp
        have q1':Oc (λi=>some (i*s,s)) ((Rp (len*s)).map (λi=>z.cells[i%z.cells.size]!)) (ps.map λ(x:Nat×Operand)=>(x.1,ρ' x.2)).toList=some cells':=by rw[h3];exact q1
        simp only[execOp,Qc,Mv,ax hu,Mo,bg hs,h1,h2,if_false,fi hz];simp only[MO,Mo,q1'];simp[newRow]
       .exact .slice g 0 _ _ _ _ hg (LV _) (λ_=>rfl)
     .split at e
      .rename_i hc;obtain⟨h0,h1⟩:=hc;subst h0;simp only[LR,Mn] at e;obtain⟨rfl,rfl⟩:=e;have hps:ps = #[]:=NJ h1;subst hps;refine⟨.cells #[] el,0,.slice (some ⟨w.heap.size,0,none⟩) 0 0,?_,λι1 g hext hg=>⟨?_,?_⟩⟩
       .simp[execOp,Qc,ax hu,bg hs,Oc,newRow];rw[nm]
       .exact⟨#[],el,(0,0),rfl,λ_=>rfl,rfl,by simp,by simp⟩
       .exact .slice g 0 _ _ _ _ hg (LV _) (λ_=>rfl)
      .cases e
 |makeSlice t l c =>
  have hl:=hρ l (by simp[Mi]);have hc:=hρ c (by simp[Mi]);simp only[ew] at e
  cases hu:P.underlying t with
  |none=>simp[hu] at e
  |some d =>
   cases d <;> try (simp[hu] at e;done)
   rename_i el;generalize el0:ρ l=y0 at hl e;generalize el1:ρ' l=y1 at hl;generalize ec0:ρ c=z0 at hc e;generalize ec1:ρ' c=z1 at hc
   cases hl <;> try (simp[hu] at e;done)
   rename_i k1 n
   cases hc <;> try (simp[hu] at e;done)
   rename_i k2 m
   cases hs:bb P el with
   |none=>simp[hu,hs] at e
   |some s =>
    cases hb:kH P el with
    |none=>simp[hu,hs,hb] at e
    |some b =>
     cases hz:zeroOf P el with
     |none=>simp[hu,hs,hb,hz] at e
     |some z =>
      simp only[hu,hs,hb,hz] at e;split at e
      .rename_i hcond;obtain⟨c1,c2,c3,c4,c5⟩:=hcond;simp only[LR,Mn] at e;obtain⟨rfl,rfl⟩:=e;refine⟨.cells (jW z.cells (m.toNat*s)) el,(jW z.cells (m.toNat*s)).size,.slice (some ⟨w.heap.size,0,none⟩) n.toNat m.toNat,?_,λι1 g hext hg=>⟨iL.row (bB.aU (nq c5 _)) _ _,?_⟩⟩
       .have w1:=wrap_i64 c1 (by omega:n<2^63);have w2:=wrap_i64 (by omega:0<=m) c4
        have hinfo:∃i,P.info? el=some i/\i.bytes=b:=by
         unfold kH at hb
         cases hi:P.info? el with
         |none=>simp[hi] at hb
         |some i=>exact⟨i,rfl,by simpa[hi] using hb⟩
        obtain⟨i,hi,rfl⟩:=hinfo
        have t1:¬ (m<0\/(i.bytes:Int)*m>2^48):=by omega
        have t2:¬ n<0:=by omega
        have t3:¬ n>m:=by omega
        simp only[execOp,Instr.makeSlice,el1,ec1,Mv,ax hu,Mo,asInt,asIntOf,MO,typeInfo,run_program,hi,w1,w2];simp only[decide_eq_false (show ¬ m<0 by omega),decide_eq_false t2,decide_eq_false t3,decide_eq_false (show ¬ (i.bytes:Int)*m>2^48 by omega),Bool.or_self,Qg,Nr,if_false];simp only[run_askRoom,bg hs,Mv,Mo];by_cases q:m.toNat*s=0
        .simp[q,newRow,jW];rw[nm,nm]
        .simp[q,newRow,jW,fi hz]
       .refine .slice g 0 _ _ _ _ hg (by omega) (λ_=>rfl)
      .cases e
 |makeMap t r =>
  cases r with
  |some r =>
   have hr:=hρ r (by simp[Mi]);simp only[ew] at e;split at e
   .rename_i k0 e0 ik n hu hs;simp only[LR,Mn] at e;obtain⟨rfl,rfl⟩:=e;rw[hs] at hr;have hr':=hr.bZ rfl;refine⟨.map #[] 0,0,.map (some w.heap.size),?_,λι1 g hext hg=>⟨⟨#[],0,rfl,rfl,rfl,by simp,rfl,by simp⟩,.map g _ hg⟩⟩;simp[execOp,Ss,ax hu,hr',asInt,asIntOf]
   .cases e
  |none =>
   simp only[ew,LR,Mn] at e;obtain⟨rfl,rfl⟩:=e;refine⟨.map #[] 0,0,.map (some w.heap.size),?_,λι1 g hext hg=>⟨⟨#[],0,rfl,rfl,rfl,by simp,rfl,by simp⟩,.map g _ hg⟩⟩;simp[execOp,Ss]
 |range t x =>
  have hx:=hρ x (by simp[Mi]);simp only[ew] at e;split at e
  .rename_i s hu hs;simp only[LR,Mn] at e;obtain⟨rfl,rfl⟩:=e;rw[hs] at hx;have hx':=hx.bZ rfl;refine⟨.stringIter s 0,0,.pointer (some ⟨w.heap.size,0,none⟩),?_,λι1 g hext hg=>⟨⟨rfl,rfl⟩,.ptr g 0 _ hg⟩⟩;simp[execOp,Instr.range,hx',ax hu]
  .cases e
 |_=>simp[ew] at e
end Go.Abs
