/- Parts of the proof. -/
import Derived.Test.YtglgdkineobbeaaGreatDoorTn50
open Go.Value renaming bool->L0,map->Pb,slice->Pu,tuple->MD
open Int renaming negSucc->Mj,ofNat->LQ
open List renaming getD->Mh,range->Ma,replicate->LY
open List.Perm renaming swap->Ry
open Prod renaming fst->P6
namespace Go.Proofs.YtglgdkineobbeaaGreatDoor
open Go.Abs
set_option maxRecDepth 100000
def rU(c:Circ)(ts:List Pat)(f:Flt)(v:Nat):Prop:=∀i,i<64->v.testBit i=(decide (i<ts.length)&&jf c (ts.getD i ⟨[],[]⟩) f)
theorem CN{c:Circ}(C:Cir c){l:List Flt}{ts:List Pat}(hts:∀p∈ts,PatOk c p)(hl:∀f∈l,StuckOk c f)(h64:ts.length<=64){G:Nat->Nat->Prop}(hG:∀(k:Nat) (f:Flt) (v:Nat),l[k]?=some f->rU c ts f v->G k v) :
  cp c λx=>gY ts x.ins.length λpi=>gZ ts x.state.length λps=>bh x pi ps λgd=>∀(k:Nat) (f:Flt),l[k]?=some f->bH x f gd.1 λy=>bh y pi ps λbd=>bP gd.2 bd.2 λh=>G k (yB ts.length h):=by
 have hlen:=C.len;have hi:=cD c [0];have hs:=cD c [14]
 have hp:∀i,i<ts.length->PatOk c (ts.getD i ⟨[],[]⟩):=λi h=>by
  rw[Mh,LU h];exact hts _ (Nw h)
 refine mS C.good λo ho=>kY (by omega) (iU (by omega) ?_);dsimp only;refine Bw (by omega) h64 (λp m=>⟨(hts p m).inp,(hts p m).inpv⟩) λpi hpi1 hpi2=>Al (by omega) h64 (λp m=>⟨(hts p m).state,(hts p m).statev⟩) λps hps1 hps2=>?_
 have gl:∀i,i<ts.length->ts[i]?=some (ts.getD i ⟨[],[]⟩):=λi h=>by rw[Mh,LU h];rfl
 refine zX C (AG ho h64) hp hpi1 hps1 (λi hi q w hw=>hpi2 i q _ w (gl i hi) hw) (λi hi q w hw=>hps2 i q _ w (gl i hi) hw) λnets seen hn hS hsl hseen k f hf=>?_;have F:=hl f (LS hf);refine HA ho h64 F λy E=>?_;refine zX C E hp hpi1 hps1 (λi hi q w hw=>hpi2 i q _ w (gl i hi) hw) (λi hi q w hw=>hps2 i q _ w (gl i hi) hw) λnets2 seen2 hn2 hS2 hsl2 hseen2=>?_;have hol:=C.good.outsLen;refine rC (by dsimp only;omega) (by dsimp only;omega) λr hr=>hG k f _ hf λi hi64=>?_
 have key:i<ts.length->r.testBit i=jf c (ts.getD i ⟨[],[]⟩) f:=λh=>by
  rw[hr i hi64];dsimp only;rw[hseen i h,hseen2 i h];exact AA C (hp i h) F (hS i h) (hS2 i h)
 unfold yB;by_cases c1:ts.length<64
 .rw[if_pos c1,dz hi64,GJ c1];by_cases c2:i<ts.length
  .rw[key c2,decide_eq_true c2,PG,OX]
  .rw[decide_eq_false c2,Bool.and_false,QL]
 .rw[if_neg c1,key (by omega),decide_eq_true (by omega:i<ts.length),OX]
theorem lS{α:Type}{l:List α}{i:Nat}{x:α}(h:l[i]?=some x):l.take (i+1)=l.take i++[x]:=by
 obtain⟨h1,rfl⟩:=LX.1 h;exact MK h1
def zk(c:Circ)(i:Nat):List LnZ:=(Ma ((ct c i).length+1)).map λj=>⟨i,LQ j-LQ 1⟩
def jZ(c:Circ)(i:Nat):List LnZ:=(Ma i).flatMap (zk c)
def fH(c:Circ):List LnZ:=jZ c c.nodes.length
theorem rq(c:Circ)(i:Nat):jZ c (i+1)=jZ c i++zk c i:=by
 unfold jZ;rw[N6,RF];simp
theorem pc{c:Circ}(C:Cir c):∀i,i<=c.nodes.length->(jZ c i).length<=i*17
 |0,_=>by unfold jZ;simp
 |i+1,h=>by
  have:=pc C i (by omega);obtain⟨x,hx⟩:=aA (show i<c.nodes.length from h);have:=(C.good.node i x hx).few;rw[rq,Ml];unfold zk;rw[LZ,M4,bk hx];omega
theorem rX{c:Circ}(C:Cir c){K:List LnZ×Nat->Prop}(h:K (fH c,0)):cm c K:=by
 have hlen:=C.len;unfold cm;refine A8 C ⟨(λq=>absurd rfl (dm.1 q)),λ_=>?_⟩;refine aB (λs=>s.2<=c.nodes.length/\s.1=jZ c s.2) (λs=>c.nodes.length-s.2) (λl=>l=fH c) ?_ ⟨L1 _,rfl⟩ (λ_ e=>e ▸ h);rintro k ⟨l,i⟩ nx ⟨hi,hl⟩ hnx hk;dsimp only at hi hl;refine⟨λq=>?_,λq=>hk _ ?_⟩
 .have q:i<c.nodes.length:=aX.1 q;obtain⟨x,hx⟩:=aA q;have hfew:=(C.good.node i x hx).few;have hll:=pc C i hi;refine fK (λr=>r=jZ c (i+1)) (λk2 hk2=>⟨x,hx,by omega,?_⟩) ?_
  .refine bM (λs=>s.2<=x.ins.length+1/\s.1=jZ c i++(zk c i).take s.2) (λs=>x.ins.length+1-s.2) ?_ ⟨L1 _,by simp[hl]⟩;rintro⟨l,j⟩ nx ⟨hj,hl⟩ hnx;dsimp only at hj hl;refine⟨λq=>?_,λq=>hk2 _ ?_⟩
   .have q:j<x.ins.length+1:=aX.1 q
    have hg:(zk c i)[j]?=some ⟨i,LQ j-LQ 1⟩:=by
     unfold zk;rw[L7,bk hx,M7 q];rfl
    have hb:((zk c i).take j).length<=17:=by
     rw[L8];omega
    refine⟨by simp only[L4];omega,by simp only[L4];omega,?_,by omega,hnx _ ⟨q,?_⟩ (by dsimp only;omega)⟩
    .rw[hl,Ml,L6];omega
    .dsimp only;rw[hl,MC,lS hg]
   .have q:x.ins.length+1<=j:=bC.1 q;rw[hl,rq,Mc];unfold zk;rw[LZ,M4,bk hx];exact q
  .rintro _ rfl;exact⟨by omega,hnx _ ⟨q,rfl⟩ (by dsimp only;omega)⟩
 .have q:c.nodes.length<=i:=bC.1 q
  have e:i=c.nodes.length:=by omega
  subst e;exact hl
theorem ng{c:Circ}(C:Cir c){p:Pat}(hp:PatOk c p){K:Nat->Prop}(h:K 0):ee c p K:=by
 unfold ee;exact B3 C.good ⟨(λq=>absurd rfl (dm.1 q)),λ_=>DF C hp h⟩
theorem aT{α:Type}{l:List α}{a b:α}:a∈l++[b]↔a∈l\/a=b:=by rw[MB,Mm]
theorem HY{κ ν:Type}[DecidableEq κ](m:List (κ×ν))(k k':κ)(v:ν):bY (gQ m k v) k'=if k'=k then some v else bY m k':=by
 induction m with
 |nil=>unfold gQ bY bY;rfl
 |cons a m ih =>
  unfold gQ;by_cases e:k=a.1
  .rw[if_pos e];unfold bY;by_cases e2:k'=k
   .rw[if_pos e2,if_pos e2]
   .rw[if_neg e2,if_neg e2,if_neg (λq=>e2 (q.trans e.symm))]
  .rw[if_neg e];unfold bY;by_cases e2:k'=a.1
   .rw[if_pos e2,if_pos e2,if_neg (λq=>e (q.symm.trans e2))]
   .rw[if_neg e2,if_neg e2,ih]
theorem EL{κ:Type}[DecidableEq κ]{l:List κ}(hl:l.length<2^60){rest:List (κ×Bool)->Prop}(h:∀m:List (κ×Bool),(∀x,(bY m x).getD false=decide (x∈l))->rest m) :
  aF (S:=((List (κ×Bool))×Nat)) (λ(v17,v18) nx19=>((ltN v18 l.length)=true->∃x20,l[v18]?=some x20/\v18+1<2^63/\nx19 ((gQ v17 x20 true),(v18+1)))/\((ltN v18 l.length)=false->rest v17)) (([]:List (κ×Bool)),0):=by
 refine bM (λs=>s.2<=l.length/\∀x,(bY s.1 x).getD false=decide (x∈l.take s.2)) (λs=>l.length-s.2) ?_ ⟨L1 _,λx=>by simp[bY]⟩;rintro⟨m,i⟩ nx ⟨hi,hm⟩ hnx;dsimp only at hi hm;refine⟨λq=>?_,λq=>?_⟩
 .have q:i<l.length:=aX.1 q;obtain⟨y,hy⟩:=aA q;refine⟨y,hy,by omega,hnx _ ⟨q,λx=>?_⟩ (by dsimp only;omega)⟩;dsimp only;rw[HY,lS hy];by_cases e:x=y
  .rw[if_pos e,decide_eq_true (aT.2 (.inr e))];rfl
  .rw[if_neg e,hm,MW,decide_eq_true_eq,decide_eq_true_eq,aT];exact⟨.inl,λq=>q.resolve_right e⟩
 .have q:l.length<=i:=bC.1 q;rw[Mc q] at hm;exact h m hm
theorem iq{c:Circ}{l:LnZ}:l∈fH c↔l.node<c.nodes.length/\(l.pin=Mj 0\/∃j,l.pin=LQ j/\j<(ct c l.node).length):=by
 unfold fH jZ zk;rw[N8];constructor
 .rintro⟨i,hi,h⟩;obtain⟨j,hj,rfl⟩:=MP.1 h;have hi:=Mx.1 hi;have hj:=Mx.1 hj;refine⟨hi,?_⟩
  cases j with
  |zero=>exact .inl rfl
  |succ j=>exact .inr ⟨j,by simp only[L4];omega,by dsimp only;omega⟩
 .obtain⟨n,q⟩:=l;rintro⟨h1,h2⟩;dsimp only at h1 h2;refine⟨n,Mx.2 h1,?_⟩
  rcases h2 with rfl|⟨j,rfl,hj⟩
  .exact MP.2 ⟨0,Mx.2 (by omega),rfl⟩
  .exact MP.2 ⟨j+1,Mx.2 (by omega),by simp only[L4,LnZ.mk.injEq,true_and];omega⟩
theorem wS{c:Circ}{l:LnZ}(hl:l∈fH c){v:Nat}(hv:v<=1):StuckOk c ⟨0,l,v,0⟩:=by
 obtain⟨h1,h2⟩:=iq.1 hl;refine⟨rfl,hv,rfl,h1,?_,?_⟩
 .rcases h2 with e|⟨j,e,_⟩
  .dsimp only;rw[e];decide
  .dsimp only;rw[e];simp only[L4];omega
 .rcases h2 with e|⟨j,e,hj⟩
  .dsimp only;rw[e];exact Int.lt_of_lt_of_le (show Mj 0<0 by decide) (MN _)
  .dsimp only;rw[e];simp only[L4];omega
theorem CM:(([⟨#[97]⟩,⟨#[98]⟩,⟨#[121]⟩]:List ByteArray).all λs=>isTrue (km Tryz.prog [] (pe Tryz.prog) 60 202 #[.string s] (cj vars)))=true:=by kernel_rfl
theorem Gx{s:ByteArray}(h:s∈([⟨#[97]⟩,⟨#[98]⟩,⟨#[121]⟩]:List ByteArray)):Iv s:=by
 obtain⟨h',e⟩:=xf (Md.1 CM s h);have c:=(kp hM hP (λf vs h v e=>jy f vs h v e) 60 _ _ _ _ _ e).1;exact⟨aq.wX rfl,λh b=>c.lift (by kernel_rfl) rfl (ri (DE b) (ve b))⟩
set_option maxHeartbeats 1000000
def iJ(c:Circ)(l:List Flt)(ts:List Pat)(K:List (List Nat)×Nat->Prop):Prop :=
 Cir c/\(∀f∈l,StuckOk c f)/\(∀p∈ts,PatOk c p)/\l.length<=65536/\ts.length<=64 /\
  ∀r:List (List Nat),r.length=l.length->(0<ts.length->∀(k:Nat) (f:Flt),l[k]?=some f->∃v,r[k]?=some [v]/\rU c ts f v)->K (r,0)
theorem qX{c:Circ}(C:Cir c){l:List Flt}{ts:List Pat}(hl:∀f∈l,StuckOk c f)(hts:∀p∈ts,PatOk c p)(h1:l.length<=65536)(h2:ts.length<=64){K:Nat->Prop}(h:K 0):cr c l ts K:=by
 unfold cr;refine fK (λb=>b=false) (λk hk=>⟨λq=>?_,λq=>hk _ ?_⟩) λb hb=>⟨λq=>(by rw[hb] at q;cases q),λ_=>rX C ⟨λq=>absurd rfl (dm.1 q),λ_=>?_⟩⟩
 .have:=aX.1 q;omega
 .exact bC.2 (by omega)
 refine aB (λi=>i<=l.length) (λi=>l.length-i) (λ_=>True) ?_ (L1 _) λ_ _=>?_
 .rintro k i nx hi hnx hk;refine⟨λq=>?_,λq=>hk _ trivial⟩;have q:i<l.length:=aX.1 q;obtain⟨f,hf⟩:=aA q;have F:=hl f (LS hf);exact⟨f,hf,pK C F ⟨λq=>absurd rfl (dm.1 q),λ_=>⟨λq=>(by have:=cJ.1 q;have:=F.model;omega),λ_=>⟨by omega,hnx _ q (by omega)⟩⟩⟩⟩
 .refine aB (λi=>i<=ts.length) (λi=>ts.length-i) (λ_=>True) ?_ (L1 _) λ_ _=>h;rintro k i nx hi hnx hk;refine⟨λq=>?_,λq=>hk _ trivial⟩;have q:i<ts.length:=aX.1 q;obtain⟨p,hp⟩:=aA q;exact⟨p,hp,ng C (hts p (LS hp)) ⟨λq=>absurd rfl (dm.1 q),λ_=>⟨by omega,hnx _ q (by omega)⟩⟩⟩
theorem Gs{p0:Circ}{p1:List Flt}(C:Cir p0)(hl:∀f∈p1,StuckOk p0 f)(h1:p1.length<=65536){h0:Heap}(hB:aH vars h0):∃r,r=LY p1.length ([]:List Nat)/\al Tryz.prog NG 46 ⟨[az p0,ae 5 ay p1,ae 2 aE []]⟩ h0 ((λ(r:(List (List Nat)))=>MD ⟨[ae 1 (ae 1 n64) r,i64 0]⟩) r) h0:=by
 refine BC ?_ ?_ h1 hB
 .exact qX C hl (λ_ m=>by cases m) h1 (L1 _) rfl
 .have hlen:=C.len
  have hn:p0.nodes.length<2^40:=by omega
  unfold cp;exact mS C.good λo _=>kY hn (iU hn trivial)
theorem HN{p0:Circ}{p1:List Flt}{p2:List Pat}(C:Cir p0)(hl:∀f∈p1,StuckOk p0 f)(hts:∀p∈p2,PatOk p0 p)(h1:p1.length<=65536)(hpos:0<p2.length)(h2:p2.length<=64){h0:Heap}(hB:aH vars h0) :
  ∃r:List (List Nat),(r.length=p1.length/\∀k,k<p1.length->∃v,r[k]?=some [v]/\∀f,p1[k]?=some f->rU p0 p2 f v)/\al Tryz.prog NG 46 ⟨[az p0,ae 5 ay p1,ae 2 aE p2]⟩ h0 ((λ(r:(List (List Nat)))=>MD ⟨[ae 1 (ae 1 n64) r,i64 0]⟩) r) h0:=by
 refine BV (G:=λk v=>∀f,p1[k]?=some f->rU p0 p2 f v) ?_ ?_ h1 hpos h2 hB
 .exact qX C hl hts h1 h2 rfl
 .have hG:∀(k:Nat) (f:Flt) (v:Nat),p1[k]?=some f->rU p0 p2 f v->(λ(k v:Nat)=>∀f,p1[k]?=some f->rU p0 p2 f v) k v:=λk f v hf hv g hg=>by rw[hf] at hg;cases hg;exact hv
  have a2:=CN (G:=λ(k v:Nat)=>∀f,p1[k]?=some f->rU p0 p2 f v) C hts hl h2 hG;exact a2
theorem gp{p0:Circ}{p1:List Flt}{p2:List Pat}{K:(List (List Nat)×Nat)->Prop}(hm:iJ p0 p1 p2 K){h0:Heap}(hB:aH vars h0):∃r,K r/\al Tryz.prog NG 46 ⟨[az p0,ae 5 ay p1,ae 2 aE p2]⟩ h0 ((λ(r:(List (List Nat)×Nat))=>MD ⟨[(ae 1 (ae 1 n64)) (r.1),i64 (r.2)]⟩) r) h0:=by
 obtain⟨C,hl,hts,h1,h2,hk⟩:=hm;by_cases hz:p2=[]
 .subst hz;obtain⟨r,rfl,c⟩:=Gs C hl h1 hB;exact⟨(LY p1.length [],0),hk _ (Mw ..) (λq=>absurd q (Ot 0)),c⟩
 .obtain⟨r,⟨e1,e2⟩,c⟩:=HN C hl hts h1 (RA.2 hz) h2 hB;refine⟨(r,0),hk r e1 (λ_ k f hf=>?_),c⟩;obtain⟨v,hv,hg⟩:=e2 k (ai hf);exact⟨v,hv,hg f hf⟩
def vN(c:Circ)(p:Pat)(m w:Nat):List Nat:=sol c p (jG m w) idP
def vP(c:Circ)(p:Pat)(k j w:Nat):List Nat:=sol c p idN (ij k (LQ j) w)
def xF(c:Circ)(p:Pat)(m w:Nat):Bool:=ry (oj c idP (cn c p)) (oj c idP (vN c p m w))
def EF(c:Circ)(p:Pat)(k j w:Nat):Bool:=ry (oj c idP (cn c p)) (oj c (ij k (LQ j) w) (vP c p k j w))
theorem zl(c:Circ)(p:Pat)(m w:Nat):jf c p ⟨0,⟨m,Mj 0⟩,w,0⟩=xF c p m w:=by
 have h:(Mj 0:Int)<0:=by decide
 unfold jf jV ntF pnF;simp only[if_pos h];rfl
theorem Dd(c:Circ)(p:Pat)(k j w:Nat):jf c p ⟨0,⟨k,LQ j⟩,w,0⟩=EF c p k j w:=by
 have h:¬ (LQ j:Int)<0:=Rg.2 (MN j);unfold jf jV ntF pnF;simp only[if_neg h];rfl
theorem kJ{c:Circ}(C:Cir c){p:Pat}(hp:PatOk c p):Sol c p idN idP (cn c p):=nK C hp zZ rj
theorem tm{c:Circ}(C:Cir c){p:Pat}(hp:PatOk c p){m w:Nat}(hw:w<=3):Sol c p (jG m w) idP (vN c p m w):=nK C hp (vk hw) rj
theorem yX{c:Circ}(C:Cir c){p:Pat}(hp:PatOk c p){k j w:Nat}(hw:w<=3):Sol c p idN (ij k (LQ j) w) (vP c p k j w):=nK C hp zZ (zM hw)
theorem nQ{c:Circ}(C:Cir c){k:Nat}{x:Node}(hx:c.nodes[k]?=some x)(hc:cw x.kind=true){y:Nat}(hy:y∈x.ins):y<k:=by
 have hc:=of_decide_eq_true hc;exact (C.good.node k x hx).acyc hc.1 hc.2 y hy
theorem JM{c:Circ}(C:Cir c){p:Pat}(hp:PatOk c p){m w:Nat}(hw:w<=3):∀n i,i<n->i<m->(vN c p m w).getD i 0=(cn c p).getD i 0:=by
 have S:=tm C hp (m:=m) hw;have V:=kJ C hp;intro n
 induction n with
 |zero=>intro i h;omega
 |succ n ih =>
  intro i hi him;by_cases q:i<c.nodes.length
  .obtain⟨x,hx⟩:=aA q;rw[S.val i x hx,V.val i x hx];unfold jG idN;rw[if_neg (by omega)];unfold dD;split
   .rename_i hc;congr 1;refine iR λy hy=>?_;have:=nQ C hx hc hy;exact ih y (by omega) (by omega)
   .rfl
  .rw[Mh,Mh,Mk (by rw[S.len];omega),Mk (by rw[V.len];omega)]
theorem HO{c:Circ}(C:Cir c){p:Pat}(hp:PatOk c p){m w:Nat}(hw:w<=3)(hm:m<c.nodes.length):(vN c p m w).getD m 0=w:=by
 obtain⟨x,hx⟩:=aA hm;rw[(tm C hp hw).val m x hx];unfold jG;rw[if_pos rfl]
theorem Lo{c:Circ}(C:Cir c){p:Pat}(hp:PatOk c p){k j w:Nat}(hw:w<=3){x:Node}(hx:c.nodes[k]?=some x)(hc:cw x.kind=true):vP c p k j w=vN c p k (fN x.kind (cO (ij k (LQ j) w) (cn c p) k x)):=by
 have V:=kJ C hp;have hu:fN x.kind (cO (ij k (LQ j) w) (cn c p) k x)<=3:=Ba _ (Ay (zM hw) V.le);have S:=tm C hp (m:=k) hu;refine (Sol.eq C (⟨S.len,λi y hy=>?_,S.le⟩:Sol c p idN (ij k (LQ j) w) _) (yX C hp hw)).symm;by_cases e:i=k
 .subst e;rw[hx] at hy;cases hy;rw[HO C hp hu (ai hx)];unfold idN;rw[eJ hc];congr 1;refine iR λy hy=>?_;exact (JM C hp hu (y+1) y (by omega) (nQ C hx hc hy)).symm
 .rw[S.val i y hy];unfold jG idN;rw[if_neg e];unfold dD;split
  .congr 1;unfold cO ij idP;refine NY (by simp) λa b d=>?_;simp only[OB];rw[if_neg (λh=>e h.1)]
  .rfl
theorem Ib{c:Circ}(C:Cir c){p:Pat}(hp:PatOk c p){m:Nat}:vN c p m ((cn c p).getD m 0)=cn c p:=by
 have V:=kJ C hp;have S:=tm C hp (m:=m) (V.le m);refine (Sol.eq C (⟨V.len,λi y hy=>?_,V.le⟩:Sol c p (jG m ((cn c p).getD m 0)) idP _) S).symm;rw[V.val i y hy];unfold jG idN;split
 .rename_i e;subst e;exact (V.val i y hy).symm
 .rfl
theorem mF{c:Circ}{p:Pat}{m w:Nat}:xF c p m w=true↔(∃o∈c.outs,Con ((cn c p).getD o 0) ((vN c p m w).getD o 0))\/∃s∈ofN c [14],Con (min ((cn c p).getD (dOf c s) 0) 2) (min ((vN c p m w).getD (dOf c s) 0) 2):=rM
theorem wZ{c:Circ}{p:Pat}{k j w:Nat}:EF c p k j w=true↔(∃o∈c.outs,Con ((cn c p).getD o 0) ((vP c p k j w).getD o 0))\/∃s∈ofN c [14],Con (min ((cn c p).getD (dOf c s) 0) 2) (min (ij k (LQ j) w s 0 ((vP c p k j w).getD (dOf c s) 0)) 2):=rM
theorem th{c:Circ}(C:Cir c){p:Pat}(hp:PatOk c p){m:Nat}:xF c p m ((cn c p).getD m 0)=false:=by
 rw[P7];intro h;unfold xF at h;rw[Ib C hp] at h
 rcases rM.1 h with⟨o,_,q⟩|⟨s,_,q⟩
 .exact jY _ q
 .exact jY _ q
theorem rQ{k w s j v:Nat}{pin:Int}(h:s≠k):ij k pin w s j v=v:=by unfold ij;rw[if_neg (λe=>h e.1)]
theorem wx{c:Circ}{k s:Nat}{x:Node}(hx:c.nodes[k]?=some x)(hc:cw x.kind=true)(hs:s∈ofN c [14]):s≠k:=by
 rintro rfl;have:=(bK.1 hs).2;rw[dk hx] at this;have hc:=of_decide_eq_true hc;omega
theorem Bs{c:Circ}(C:Cir c){p:Pat}(hp:PatOk c p){k j w:Nat}(hw:w<=3){x:Node}(hx:c.nodes[k]?=some x)(hc:cw x.kind=true):EF c p k j w=xF c p k (fN x.kind (cO (ij k (LQ j) w) (cn c p) k x)):=by
 rw[MW,wZ,mF,Lo C hp hw hx hc];refine or_congr O4 ⟨?_,?_⟩
 .rintro⟨s,hs,q⟩;rw[rQ (wx hx hc hs)] at q;exact⟨s,hs,q⟩
 .rintro⟨s,hs,q⟩;refine⟨s,hs,?_⟩;rw[rQ (wx hx hc hs)];exact q
theorem GP{c:Circ}(C:Cir c){p:Pat}(hp:PatOk c p){k j w:Nat}(hw:w<=3){x:Node}(hx:c.nodes[k]?=some x)(hc:cw x.kind=false):vP c p k j w=cn c p:=by
 have V:=kJ C hp;refine (Sol.eq C (⟨V.len,λi y hy=>?_,V.le⟩:Sol c p idN (ij k (LQ j) w) _) (yX C hp hw)).symm;rw[V.val i y hy];unfold idN;by_cases e:i=k
 .subst e;rw[hx] at hy;cases hy;rw[da hc,da hc]
 .unfold dD;split
  .congr 1;unfold cO ij idP;refine NY (by simp) λa b d=>?_;simp only[OB];rw[if_neg (λh=>e h.1)]
  .rfl
theorem qK{c:Circ}(C:Cir c){p:Pat}(hp:PatOk c p){k w:Nat}(hw:w<=3){x:Node}(hx:c.nodes[k]?=some x)(hk:x.kind=14):EF c p k 0 w=decide (Con (min ((cn c p).getD (dOf c k) 0) 2) (min w 2)):=by
 have hc:cw x.kind=false:=by rw[hk];decide
 have hm:k∈ofN c [14]:=bK.2 ⟨ai hx,by rw[dk hx];exact hk⟩
 have e:∀v,ij k (LQ 0) w k 0 v=w:=λv=>by unfold ij;rw[if_pos ⟨rfl,rfl⟩]
 rw[MW,wZ,GP C hp hw hx hc,decide_eq_true_eq];constructor
 .rintro (⟨o,_,q⟩|⟨s,hs,q⟩)
  .exact absurd q (jY _)
  .by_cases h:s=k
   .subst h;rw[e] at q;exact q
   .rw[rQ h] at q;exact absurd q (jY _)
 .intro q;refine .inr ⟨k,hm,?_⟩;rw[e];exact q
theorem xV{c:Circ}(C:Cir c){p:Pat}(hp:PatOk c p){m w:Nat}(hw:w<=3)(hm:m<c.nodes.length)(h:∀(k:Nat) (x:Node),c.nodes[k]?=some x->cw x.kind=true->m ∉ x.ins):vN c p m w=(cn c p).set m w:=by
 have V:=kJ C hp
 have hml:m<(cn c p).length:=by rw[V.len];exact hm
 refine (Sol.eq C (⟨by rw[Nj];exact V.len,λi y hy=>?_,λi=>?_⟩:Sol c p (jG m w) idP _) (tm C hp hw)).symm
 .rw[bm hml];unfold jG;by_cases e:m=i
  .subst e;rw[if_pos rfl,if_pos rfl]
  .rw[if_neg e,if_neg (λq=>e q.symm),V.val i y hy];unfold idN dD;split
   .rename_i hc;congr 1;refine iR λz hz=>?_;rw[bm hml,if_neg];rintro rfl;exact h i y hy hc hz
   .rfl
 .rw[bm hml];split
  .exact hw
  .exact V.le i
structure One (c:Circ) (m k j:Nat):Prop where
 pin:(ct c k)[j]?=some m
 only:∀k' j',(ct c k')[j']?=some m->k'=k/\j'=j
 outs:m ∉ c.outs
theorem lB{c:Circ}{k j m:Nat}(h:(ct c k)[j]?=some m):∃x,c.nodes[k]?=some x/\x.ins[j]?=some m:=by
 cases e:c.nodes[k]? with
 |none =>
  exfalso;unfold ct at h;rw[Mh,L7,e] at h;simp at h
 |some x=>rw[bk e] at h;exact⟨x,rfl,h⟩
theorem Ks{c:Circ}(C:Cir c){p:Pat}(hp:PatOk c p){m k j w:Nat}(hw:w<=3)(h:One c m k j){x:Node}(hx:c.nodes[k]?=some x)(_hc:cw x.kind=true)(hm:m<c.nodes.length):vN c p m w=(vP c p k j w).set m w:=by
 have S:=yX C hp (k:=k) (j:=j) hw
 have hml:m<(vP c p k j w).length:=by rw[S.len];exact hm
 refine (Sol.eq C (⟨by rw[Nj];exact S.len,λi y hy=>?_,λi=>?_⟩:Sol c p (jG m w) idP _) (tm C hp hw)).symm
 .rw[bm hml];unfold jG;by_cases e:m=i
  .subst e;rw[if_pos rfl,if_pos rfl]
  .rw[if_neg e,if_neg (λq=>e q.symm),S.val i y hy];unfold idN dD;split
   .congr 1;unfold cO;refine NY (by simp) λa b d=>?_;simp only[OB]
    have ha:a<y.ins.length:=by simpa using b
    unfold idP ij;rw[bm hml];by_cases q:m=y.ins[a]
    .rw[if_pos q,if_pos];have:=h.only i a (by rw[bk hy,LU ha,q]);exact⟨this.1,by rw[this.2]⟩
    .rw[if_neg q,if_neg];rintro⟨rfl,q2⟩;have q2:a=j:=QX q2;subst q2;have:=h.pin;rw[bk hy,LU ha] at this;exact q (Ni this).symm
   .rfl
 .rw[bm hml];split
  .exact hw
  .exact S.le i
theorem nB{c:Circ}(C:Cir c){s:Nat}(hs:s∈ofN c [14]):∃x,c.nodes[s]?=some x/\x.kind=14/\(ct c s)[0]?=some (dOf c s)/\x.ins.length=1:=by
 obtain⟨h1,h2⟩:=bK.1 hs;obtain⟨x,hx⟩:=aA h1;rw[dk hx] at h2
 have ha:x.ins.length=1:=by have:=(C.good.node s x hx).arity;rw[h2] at this;exact pJ this
 refine⟨x,hx,h2,?_,ha⟩;unfold dOf;rw[bk hx];exact getD_some (by omega)
theorem I5{c:Circ}(C:Cir c){p:Pat}(hp:PatOk c p){m k j w:Nat}(hw:w<=3)(h:One c m k j)(hm:m<c.nodes.length):xF c p m w=EF c p k j w:=by
 obtain⟨x,hx,hj⟩:=lB h.pin;have out_ne:∀o∈c.outs,m≠o:=λo ho e=>h.outs (e ▸ ho)
 cases hc:cw x.kind with
 |true =>
  have S:=yX C hp (k:=k) (j:=j) hw
  have hml:m<(vP c p k j w).length:=by rw[S.len];exact hm
  rw[MW,wZ,mF,Ks C hp hw h hx hc hm]
  have key:∀s∈ofN c [14],((vP c p k j w).set m w).getD (dOf c s) 0=(vP c p k j w).getD (dOf c s) 0:=by
   intro s hs;obtain⟨y,hy,hk,hd,_⟩:=nB C hs;rw[bm hml,if_neg];intro e;rw[<- e] at hd;exact wx hx hc hs (h.only s 0 hd).1
  refine or_congr ⟨?_,?_⟩ ⟨?_,?_⟩
  .rintro⟨o,ho,q⟩;rw[bm hml,if_neg (out_ne o ho)] at q;exact⟨o,ho,q⟩
  .rintro⟨o,ho,q⟩;refine⟨o,ho,?_⟩;rw[bm hml,if_neg (out_ne o ho)];exact q
  .rintro⟨s,hs,q⟩;refine⟨s,hs,?_⟩;rw[key s hs] at q;rw[rQ (wx hx hc hs)];exact q
  .rintro⟨s,hs,q⟩;refine⟨s,hs,?_⟩;rw[key s hs];rw[rQ (wx hx hc hs)] at q;exact q
 |false =>
  have hk:x.kind=14:=by
   have hc:=of_decide_eq_false hc;have:=C.kinds k x hx;by_cases e:x.kind=0
   .have ha:=(C.good.node k x hx).arity;rw[e] at ha
    have:hiZ 0=0:=by decide
    have q:=ha.2;rw[this] at q;have:=ai hj;simp only[L4] at q;omega
   .omega
  have hs:k∈ofN c [14]:=bK.2 ⟨ai hx,by rw[dk hx];exact hk⟩;obtain⟨y,hy,_,hd,hl⟩:=nB C hs;rw[hx] at hy;cases hy
  have j0:j=0:=by have:=ai hj;omega
  subst j0
  have e:dOf c k=m:=by have:=h.pin;rw[hd] at this;exact Ni this
  have V:=kJ C hp
  have hml:m<(cn c p).length:=by rw[V.len];exact hm
  rw[qK C hp hw hx hk,MW,mF,decide_eq_true_eq,xV C hp hw hm,e]
  .constructor
   .rintro (⟨o,ho,q⟩|⟨s,hs',q⟩)
    .rw[bm hml,if_neg (out_ne o ho)] at q;exact absurd q (jY _)
    .rw[bm hml] at q;by_cases e2:m=dOf c s
     .rw[if_pos e2,<- e2] at q;exact q
     .rw[if_neg e2] at q;exact absurd q (jY _)
   .intro q;refine .inr ⟨k,hs,?_⟩;rw[e,bm hml,if_pos rfl];exact q
  .intro k' x' hx' hc' hmem;obtain⟨i,hi,q⟩:=NH hmem;have:=(h.only k' i (by rw[bk hx',LU hi,q])).1;subst this;rw[hx] at hx';cases hx';rw[hc] at hc';cases hc'
theorem F6{c:Circ}(C:Cir c){p:Pat}(hp:PatOk c p){m w:Nat}(hw:w<=3)(hm:m<c.nodes.length)(h1:∀k j:Nat,(ct c k)[j]?≠some m)(h2:m ∉ c.outs):xF c p m w=false:=by
 have V:=kJ C hp
 have hml:m<(cn c p).length:=by rw[V.len];exact hm
 rw[P7];intro h
 rw[mF,xV C hp hw hm (λk x hx _ hmem=>by
  obtain⟨i,hi,q⟩:=NH hmem
  exact h1 k i (by rw[bk hx,LU hi,q]))] at h
 rcases h with⟨o,ho,q⟩|⟨s,hs,q⟩
 .rw[bm hml,if_neg (λe:m=o=>h2 (by rw[e];exact ho))] at q;exact jY _ q
 .obtain⟨y,hy,hk,hd,_⟩:=nB C hs;rw[bm hml,if_neg (λe:m=dOf c s=>h1 s 0 (by rw[hd,e]))] at q;exact jY _ q
theorem Io{c:Circ}(C:Cir c){p:Pat}(hp:PatOk c p){m w:Nat}(hw:w<=3)(hm:m<c.nodes.length)(h:m∈c.outs)(hc:Con ((cn c p).getD m 0) w):xF c p m w=true :=
 mF.2 (.inl ⟨m,h,by rw[HO C hp hw hm];exact hc⟩)
theorem EH{c:Circ}(C:Cir c){p:Pat}(hp:PatOk c p){s w:Nat}(hw:w<=3)(hs:s∈ofN c [14])(hc:Con ((cn c p).getD (dOf c s) 0) w):xF c p (dOf c s) w=true:=by
 obtain⟨x,hx,hk,hd,_⟩:=nB C hs
 have hm:dOf c s<c.nodes.length:=by
  have:=(C.good.node s x hx).ins (dOf c s) (by rw[bk hx] at hd;exact LS hd);exact this
 refine mF.2 (.inr ⟨s,hs,?_⟩);rw[HO C hp hw hm];obtain⟨h1,h2,h3⟩:=hc;exact⟨by omega,by omega,by omega⟩
structure Plz (c:Circ):Prop where
 cir:Cir c
 kinds:∀(i:Nat) (x:Node),c.nodes[i]?=some x->x.kind≠12/\x.kind≠13
structure Full (c:Circ) (p:Pat):Prop where
 pat:PatOk c p
 inp:∀v∈p.inp,v<=1
 state:∀v∈p.state,v<=1
theorem tK{k:Nat}{l:List Nat}(hk0:1<=k)(hk:k<12)(h:∀v∈l,v<=1):uC k l<=1:=by
 have g:∀i,l.getD i 0<=1:=by
  intro i;by_cases q:i<l.length
  .exact h _ (iu q)
  .rw[Mh,Mk (by omega)];exact L1 _
 have hn:∀v,v<=1->gz v<=1:=λv hv=>by unfold gz;split <;> omega
 have hd:∀(low high:Nat) (l:List Nat),low+high=1->(∀v∈l,v<=1)->∀o,o<=1->jH low high l o<=1:=by
  intro low high l hs
  induction l with
  |nil=>intro _ o ho;exact ho
  |cons v r ih =>
   intro hv o ho;have h1:=hv v (.head _);unfold jH;split
   .omega
   .rw[if_pos (by omega)];exact ih (λv m=>hv v (.tail _ m)) o ho
 have hx:∀(l:List Nat),(∀v∈l,v<=1)->∀o,o<=1->mD l o<=1:=by
  intro l
  induction l with
  |nil=>intro _ o ho;exact ho
  |cons v r ih =>
   intro hv o ho;have h1:=hv v (.head _);unfold mD;rw[if_pos h1];refine ih (λv m=>hv v (.tail _ m)) _ ?_
   have q1:o=0\/o=1:=by omega
   have q2:v=0\/v=1:=by omega
   rcases q1 with rfl|rfl <;> rcases q2 with rfl|rfl <;> decide
 have g0:=g 0;have g1:=g 1;have g2:=g 2;unfold uC
 split;· omega
 split;· omega
 split;· omega
 split;· exact hn _ g0
 split;· exact hd 0 1 l rfl h 1 (by decide)
 split;· exact hn _ (hd 0 1 l rfl h 1 (by decide))
 split;· exact hd 1 0 l rfl h 0 (by decide)
 split;· exact hn _ (hd 1 0 l rfl h 0 (by decide))
 split;· exact hx l h 0 (by decide)
 split;· exact hn _ (hx l h 0 (by decide))
 split
 .unfold vU
  repeat' split
  all_goals omega
 .omega
theorem qb{c:Circ}(P:Plz c){p:Pat}(F:Full c p):∀i,(cn c p).getD i 0<=1:=by
 have C:=P.cir;have V:=kJ C F.pat
 have key:∀n i,i<n->(cn c p).getD i 0<=1:=by
  intro n
  induction n with
  |zero=>intro i h;omega
  |succ n ih =>
   intro i hi;by_cases q:i<c.nodes.length
   .obtain⟨x,hx⟩:=aA q;rw[V.val i x hx];unfold idN
    cases hc:cw x.kind with
    |true =>
     rw[eJ hc];have hc':=of_decide_eq_true hc;have:=P.kinds i x hx;unfold fN;rw[if_neg (by omega),if_neg (by omega)];refine tK hc'.1 (by omega) λv hv=>?_;unfold cO idP at hv;rw[Qp] at hv;obtain⟨a,ha,rfl⟩:=hv;exact ih _ (by have:=nQ C hx hc (Nw ha);omega)
    |false =>
     rw[da hc]
     have k2:∀(l:List Nat) (j:Nat),(∀v∈l,v<=1)->l.getD j 0<=1:=by
      intro l j h;by_cases q:j<l.length
      .exact h _ (iu q)
      .rw[Mh,Mk (by omega)];exact L1 _
     unfold zx;split
     .exact k2 _ _ F.inp
     split
     .exact k2 _ _ F.state
     .omega
   .rw[Mh,Mk (by rw[V.len];omega)];exact L1 _
 exact λi=>key (i+1) i (by omega)
theorem GG{p:Pat}(h1:∀v∈p.inp,v<=1)(h2:∀v∈p.state,v<=1)(l1:p.inp.length<=16)(l2:p.state.length<=16){K:Bool->Prop}(h:K true):dG p K:=by
 unfold dG;refine aB (λs=>s<=p.inp.length) (λs=>p.inp.length-s) (λ_=>True) ?_ (L1 _) λ_ _=>⟨λ_=>?_,(λq=>by cases q)⟩
 .rintro k j nx hj hnx hk;refine⟨λc=>?_,λ_=>hk _ trivial⟩;have c:j<p.inp.length:=aX.1 c;obtain⟨v,hv⟩:=aA c;have:=h1 v (LS hv);exact⟨v,hv,λq=>absurd (aX.1 q) (by omega),λ_=>⟨by omega,hnx _ c (by omega)⟩⟩
 .refine aB (λs=>s<=p.state.length) (λs=>p.state.length-s) (λ_=>True) ?_ (L1 _) λ_ _=>h;rintro k j nx hj hnx hk;refine⟨λc=>?_,λ_=>hk _ trivial⟩;have c:j<p.state.length:=aX.1 c;obtain⟨v,hv⟩:=aA c;have:=h2 v (LS hv);exact⟨v,hv,λq=>absurd (aX.1 q) (by omega),λ_=>⟨by omega,hnx _ c (by omega)⟩⟩
theorem ER{c:Circ}(P:Plz c){K:Bool->Prop}(h:K true):ez c K:=by
 have hlen:=P.cir.len;refine AW (by omega) (by simp) ?_
 have:ofN c [12,13]=[]:=by
  unfold ofN;rw[List.filter_eq_nil_iff];intro i hi q;have hi:=Mx.1 hi;obtain⟨x,hx⟩:=aA hi;have hk:=P.kinds i x hx;simp[hx,hk] at q
 rw[this];exact h
theorem El{c:Circ}(P:Plz c){p:Pat}(F:Full c p){l:List Flt}(hl:l.length<=1000)(hf:∀f∈l,StuckOk c f){K:Nat->Prop}(h:K 0):cE c l p K:=by
 have C:=P.cir;have hlen:=C.len;have hi:=cD c [0];have hs:=cD c [14];have A1:p.inp.length=(ofN c [0]).length:=F.pat.inp;have A2:p.state.length=(ofN c [14]).length:=F.pat.state;have hm:c.nodes.length*l.length<=16*1000:=Nat.mul_le_mul hlen hl;unfold cE;refine fK (λb=>b=false) (λk hk=>⟨λq=>absurd (aX.1 q) (by omega),λ_=>⟨by omega,hk _ (bC.2 (by omega))⟩⟩) λb hb=>⟨λq=>(by rw[hb] at q;cases q),λ_=>rX C ⟨λq=>absurd rfl (dm.1 q),λ_=>ER P ⟨(λq=>by cases q),λ_=>?_⟩⟩⟩;refine aB (λi=>i<=l.length) (λi=>l.length-i) (λ_=>True) ?_ (L1 _) λ_ _=>ng C F.pat ⟨λq=>absurd rfl (dm.1 q),λ_=>GG F.inp F.state (by omega) (by omega) ⟨(λq=>by cases q),λ_=>h⟩⟩;rintro k i nx hi hnx hk;refine⟨λq=>?_,λq=>hk _ trivial⟩;have q:i<l.length:=aX.1 q;obtain⟨f,hf2⟩:=aA q;have G:=hf f (LS hf2);exact⟨f,hf2,pK C G ⟨λq=>absurd rfl (dm.1 q),λ_=>⟨λq=>absurd G.model (dm.1 q),λ_=>⟨by omega,hnx _ q (by omega)⟩⟩⟩⟩
set_option maxHeartbeats 8000000
structure LinesOk (l:List Flt) (i:Nat) (mA:PM):Prop where
 at_:∀k,bS mA k=(Ma i).filter λt=>match l[t]? with|some f=>decide (f.line=k) | none=>false
 nn:∀e∈mA,e.2.1≠none
def atL(gA:Nat)(mA:PM)(R:List Slot):List Slot:=(some gA,.map (aY av ixV mA))::(mA.map bl++R)
theorem vf{gA:Nat}{mA:PM}{R:List Slot}{p:Slot}:(p::atL gA mA R).Perm (atL gA mA (p::R)):=by
 have h1:atL gA mA (p::R)=((some gA,AObj.map (aY av ixV mA))::mA.map bl)++p::R:=rfl;have h2:p::atL gA mA R=p::(((some gA,AObj.map (aY av ixV mA))::mA.map bl)++R):=rfl;rw[h1,h2];exact OE.symm
theorem BT{gA:Nat}{mA:PM}{R:List Slot}{p:Slot}(h:p∈R):p∈atL gA mA R:=.tail _ (Nd _ h)
theorem LinesOk.step{l:List Flt}{i:Nat}{mA mA':PM}{f:Flt}(F:LinesOk l i mA)(hf:l[i]?=some f)(e1:∀q,bS mA' q=bS mA q++if q=f.line then [i] else [])(e2:∀e∈mA',e.2.1≠none):LinesOk l (i+1) mA':=by
 refine⟨λk=>?_,e2⟩;rw[e1,F.at_];refine Eq.trans ?_ (mG (p:=λf=>decide (f.line=k)) hf).symm;by_cases c:k=f.line
 .rw[if_pos c,if_pos (decide_eq_true c.symm)];rfl
 .rw[if_neg c,if_neg (by simp;exact λe=>c e.symm)];rfl
theorem IM{h:Heap}{a b:Value}(e:a=b):VLe h a b:=e ▸ VLe.refl _ _
theorem GV{P:Program}{ρ:Operand->Value}{d:Option Tmp}{ty:TypeId}{pos:String}{af:Array Edge}{gd:Option (Nat×Bool)}{t e:TypeId}{x i:Operand}{sp:Option Nat}{kk:IntKind}{v:Value}(g off s n cap j:Nat)(hu:P.underlying t=some (.slice e))(hs:bb P e=some s)(hx:ρ x=.slice (some ⟨g,off,sp⟩) n cap)(hi:ρ i=.int kk (LQ j))(hj:j<n)
  (hv:v=.pointer (some ⟨g,off+j*s,none⟩)):aC P ρ { dst:=d,op:=.indexAddr t x i,type:=ty,pos:=pos,after:=af,guard:=gd }=some v:=by
 obtain⟨_,q,rfl⟩:=cb (d:=d) (ty:=ty) (pos:=pos) (af:=af) (gd:=gd) (K:=λu=>u=Value.pointer (some ⟨g,off+j*s,none⟩)) hu hs hx hi hj rfl;rw[hv];exact q
abbrev vC(k:Nat):Prop:=k≠0/\k≠14
def Cd(c:Circ)(l:List Flt)(nets:List Nat)(Q:Nat->Nat->Prop)(EV:Mach->Nat->Node->Nat->Nat):Prop :=
 ∀(x:Mach) (n:Nat) (y:Node),x.c=c->x.l=l->x.nets=nets->LinesOk l l.length x.mA->c.nodes[n]?=some y->(vC y.kind->∀m∈y.ins,IsSet (x.S m) (Q m)) ->
  (vC y.kind->∀i,jv x Q n y y.ins.length i->(∃f,l[i]?=some f)/\bL y.kind (inB x n i y) (· = EV x n y i))/\(∀i∈bS x.mA (nU n),vC y.kind->¬ jv x Q n y y.ins.length i)/\∀i,HQ x Q (EV x n y) n y i↔Q n i
theorem LinesOk.len{l:List Flt}{i:Nat}{mA:PM}(F:LinesOk l i mA)(k:LnZ):(bS mA k).length<=i:=by
 rw[F.at_];exact Mf (Nf _ _) (by rw[M4];exact LV _)
theorem LinesOk.lt{l:List Flt}{mA:PM}(F:LinesOk l l.length mA){k:LnZ}{i:Nat}(h:i∈bS mA k):∃f,l[i]?=some f/\f.line=k:=by
 rw[F.at_] at h;obtain⟨h1,h2⟩:=Nc.1 h;have h1:=Mx.1 h1;have hf:=LU h1;rw[hf] at h2;exact⟨_,hf,of_decide_eq_true h2⟩
theorem LinesOk.nodup{l:List Flt}{i:Nat}{mA:PM}(F:LinesOk l i mA)(k:LnZ):(bS mA k).Nodup:=by
 rw[F.at_];exact (Oq).sublist Qt
def JQ(c:Circ)(o:List Nat):Prop:=(∀n,n∈o↔n<c.nodes.length)/\o.length<=16/\∀(a n:Nat) (y:Node) (m:Nat),o[a]?=some n->c.nodes[n]?=some y->vC y.kind->m∈y.ins->∃b,b<a/\o[b]?=some m
theorem Cf{c:Circ}{l:List Flt}{p:Pat}{nets:List Nat}{Q:Nat->Nat->Prop}{EV:Mach->Nat->Node->Nat->Nat}{h0:Heap}(hB:aH vars h0)(hck:cE c l p (· = 0))(hrun:dw c p (λr=>r.2=(nets,0)))(hord:bz c (λr=>∃o,r=(o,0)/\JQ c o))(hl:l.length<=65536)(hc:c.nodes.length<=16)
  (hnets:nets.length=c.nodes.length) (hins:∀(n:Nat) (y:Node),c.nodes[n]?=some y->y.ins.length<=16) (hstep:Cd c l nets Q EV) :
  CallM Tryz.prog NG 26 ⟨[az c,ae 5 ay l,aE p]⟩ h0 (λv h'=>∃x:Mach,v=.tuple ⟨[.pointer (some ⟨x.gx,0,none⟩),i64 0]⟩/\x.c=c/\x.l=l/\x.nets=nets/\LinesOk l l.length x.mA/\MachAt x h'/\(∀n,n<c.nodes.length->(∃g,x.A[n]?=some (some g))/\IsSet (x.S n) (Q n))/\∃L,Own vars h0 L h'):=by
 refine fgM Tryz.func26 ?_;have O:=Own.start hB
 conv=>whnf
 refine CodeM.seq (CodeM.reg ?_);refine gH ?_;refine fz ?_;refine gH ?_;refine fz ?_;refine gH ?_
 conv=>whnf
 refine CodeM.seq (CodeM.seq (CodeM.reg ?_));refine gH ?_;refine ca (og hck O.has) λr1 hr=>?_;subst hr;refine gH ?_
 conv=>whnf
 refine CodeM.seq (CodeM.reg ?_);refine gH ?_
 refine CodeM.cond ⟨false,rfl,(λe=>nomatch e),λ_=>CodeM.skip ?_⟩;conv=>whnf
 refine CodeM.seq (CodeM.reg ?_);refine gH ?_;refine ca (kf hrun O.has) λr2 hr=>?_;obtain⟨rs,r2⟩:=r2;dsimp only at hr;subst hr;refine gH ?_;refine O.new (aj (l:=[(.slice none 0 0),(.slice none 0 0)]) rfl rfl rfl) λg9 h O=>?_;refine gH ?_;refine O.stC 2 (.head _) [((ae 1 n8) rs.out),((ae 1 n8) rs.next)] λh O=>?_;refine gH ?_
 conv=>whnf
 refine CodeM.seq (CodeM.seq (CodeM.reg ?_));refine gH ?_
 refine CodeM.cond ⟨false,rfl,(λe=>nomatch e),λ_=>CodeM.skip ?_⟩;conv=>whnf
 refine CodeM.seq (CodeM.draw ?_);refine gH ?_;refine⟨.inr (.inr rfl),?_⟩;refine gH ?_;refine⟨.inr (.inr rfl),?_⟩;refine gH ?_;refine O.xa (enc:=Pb) (z:=(none:Option Nat)) (b:=8) (s:=1) (n:=c.nodes.length) rfl rfl rfl rfl rfl (by decide) (by kernel_rfl) rfl rfl (by omega) (by omega) λgl h O=>?_;refine gH ?_;refine O.oN ((rfl:ew _ _ _=some (.map (aY av ixV ([]:PM)),λg=>.map (some g)))) λgA h O=>?_;refine gH ?_;refine O.oN (sh rfl) λgx h O=>?_;refine gH ?_;refine CodeM.seq (CodeM.seq (CodeM.reg ?_));refine gH ?_
 refine CodeM.block (CodeM.loop (nn:=88) (σ:=Nat×PM) (λs h'=>s.1<=l.length/\LinesOk l s.1 s.2/\Own vars h0 (atL gA s.2 [(some gl,.cells (ah ((LY c.nodes.length (none:Option Nat)).map Pb)) false),(some gx,.cells (cl (az c)++[ae 5 ay l,ae 1 n8 nets,.slice (some ⟨gl,0,none⟩) c.nodes.length c.nodes.length,.map (some gA)]) false)]) h')
  (λs=>[(1,ae 5 ay l),(3,FP (az c)),(12,.pointer (some ⟨gx,0,none⟩)),(46,ae 5 ay l),(47,i64 l.length),(48,i64 s.1)]) (λs=>l.length-s.1) rfl ⟨(0,[]),⟨L1 _,⟨λk=>rfl,(λe m=>by cases m)⟩,O.sel [1,2,0] (by decide)⟩,VLe.refl _ _,VLe.refl _ _,VLe.refl _ _,VLe.refl _ _,VLe.refl _ _,VLe.refl _ _,trivial⟩ ?_)
 clear O;rintro⟨i,mA⟩ base h ⟨hi,F,O⟩;dsimp only at hi F O
 conv=>whnf
 refine CodeM.seq (CodeM.reg ?_);refine gH ?_;by_cases hlt:i<l.length
 .obtain⟨f,hf⟩:∃f,l[i]?=some f:=⟨_,LU hlt⟩
  refine CodeM.seq (CodeM.cond ⟨true,congrArg L0 (by show ltN i l.length=true;rw[bj];simp;omega),λ_=>CodeM.skip ?_,(λe=>nomatch e)⟩);conv=>whnf
  refine CodeM.seq (CodeM.block (CodeM.seq (CodeM.reg ?_)));refine gH ?_;refine atF (W:=λ_=>True) ⟨f,hf,trivial⟩ λf' hf' _=>?_;rw[hf] at hf';cases hf';refine gH ?_;refine O.new (aj (l:=[n8 0,i64 0,i64 0,n8 0,i64 0]) rfl rfl rfl) λg14 h O=>?_;refine gH ?_;refine O.stC 5 (.head _) (cl (ay f)) λh O=>?_;refine gH ?_;have O:=O.perm vf;refine CodeM.draw ?_;refine gH ?_;refine ldO (O.at (BT (.tail _ (.tail _ (.head _))))) ?_;refine gH ?_;refine⟨.inr (.inr (bw rfl (O.at (BT (.tail _ (.tail _ (.head _))))) rfl rfl)),?_⟩;refine gH ?_;refine ldA (l:=[i64 f.line.node,z64 f.line.pin]) (O.at (BT (.head _))) ?_;refine gH ?_;refine⟨.inr (.inr (aM rfl (O.at (BT (.head _))) rfl rfl (lbE rfl) rfl)),?_⟩;refine gH ?_;refine O.eA (l:=([i]:List Nat)) (enc:=i64) (s:=1) (z:=i64 0) rfl rfl (by kernel_rfl) (by kernel_rfl) rfl rfl rfl rfl (λ_=>rfl) λgb h O=>?_;refine gH ?_
  cases hj:bU mA f.line 0 with
  |some q =>
   obtain⟨j,a,r⟩:=q;have hjm:=(dW hj).2;rw[Ou] at hjm;have hne:=F.nn _ (LS hjm);refine O.KV (ek:=av) (ev:=ixV) (.tail _ (.head _)) hj rfl rfl rfl (by kernel_rfl) (by kernel_rfl) (jB rfl) rfl rfl λh O=>?_;refine gH ?_;have hrl:=Cq (F.at_ f.line) hj;obtain⟨fA,A,hfA⟩:=Hc (S:=((some g14,.cells (cl (ay f)) false)::[(some gl,.cells (ah ((LY c.nodes.length (none:Option Nat)).map Pb)) false),(some gx,.cells (cl (az c)++[ae 5 ay l,ae 1 n8 nets,.slice (some ⟨gl,0,none⟩) c.nodes.length c.nodes.length,.map (some gA)]) false)])) hjm;refine O.fb (enc:=i64) (s:=1) (b:=8) (l:=r) (new:=([i]:List Nat)) (.tail _ (.tail _ A)) (λe=>absurd e hne) rfl rfl rfl rfl rfl rfl rfl rfl (YOk.own O.i0 rfl (λ_=>rfl) rfl) (λ_=>rfl) (λ_=>rfl) (by decide) (by rw[L6];omega) λa' h ha' O=>?_;refine gH ?_;have O:Own vars h0 ((some gb,.cells (ah (([i]:List Nat).map i64)) false)::(some gA,.map (aY av ixV mA))::fA (bl (f.line,a',r++[i]))) h:=O;rw[hfA] at O;refine O.IX (i:=j) (kv:=av f.line) (old:=ixV (a,r)) (.tail _ (.head _)) (by unfold aY;rw[L7,hjm];rfl) rfl rfl rfl λh O=>?_;refine gH ?_
   have em:(aY av ixV mA).set j (av f.line,ak 1 a' ((r++[i]).map i64))=aY av ixV (mA.set j (f.line,a',r++[i])):=by unfold aY;rw[Qy];rfl
   have O:Own vars h0 ((some gb,.cells (ah (([i]:List Nat).map i64)) false)::(some gA,.map ((aY av ixV mA).set j (av f.line,ak 1 a' ((r++[i]).map i64))))::((mA.set j (f.line,a',r++[i])).map bl++((some g14,.cells (cl (ay f)) false)::[(some gl,.cells (ah ((LY c.nodes.length (none:Option Nat)).map Pb)) false),(some gx,.cells (cl (az c)++[ae 5 ay l,ae 1 n8 nets,.slice (some ⟨gl,0,none⟩) c.nodes.length c.nodes.length,.map (some gA)]) false)]))) h:=O;rw[em] at O
   have hne':∀e∈mA.set j (f.line,a',r++[i]),e.2.1≠none:=λe m=>by
    rcases OM m with m|rfl
    .exact F.nn e m
    .exact λq=>by have:=ha' q;simp at this
   have O:Own vars h0 (atL gA (mA.set j (f.line,a',r++[i])) [(some gl,.cells (ah ((LY c.nodes.length (none:Option Nat)).map Pb)) false),(some gx,.cells (cl (az c)++[ae 5 ay l,ae 1 n8 nets,.slice (some ⟨gl,0,none⟩) c.nodes.length c.nodes.length,.map (some gA)]) false)]) h:=(O.tail.perm (vf (R:=[(some gl,.cells (ah ((LY c.nodes.length (none:Option Nat)).map Pb)) false),(some gx,.cells (cl (az c)++[ae 5 ay l,ae 1 n8 nets,.slice (some ⟨gl,0,none⟩) c.nodes.length c.nodes.length,.map (some gA)]) false)])).symm).tail
   conv=>whnf
   refine CodeM.reg ?_;refine gH ?_;refine aJ (a:=i) (b:=1) (W:=True) ⟨by omega,trivial⟩ λ_=>?_;refine gH ?_;exact⟨(i+1,mA.set j (f.line,a',r++[i])),by show l.length-(i+1)<l.length-i;omega,⟨hlt,F.step hf (λq=>xz hj q) hne',O⟩,VLe.refl _ _,VLe.refl _ _,VLe.refl _ _,VLe.refl _ _,VLe.refl _ _,VLe.refl _ _,trivial⟩
  |none =>
   refine O.KN (ek:=av) (ev:=ixV) (.tail _ (.head _)) hj rfl rfl rfl (by kernel_rfl) (by kernel_rfl) (jB rfl) rfl rfl λh O=>?_;refine gH ?_;have O:=O.aZ (.cells (ah (([]:List Nat).map i64)) false);refine O.fb (enc:=i64) (s:=1) (b:=8) (l:=([]:List Nat)) (new:=([i]:List Nat)) (.head _) (λ_=>rfl) rfl rfl rfl rfl rfl rfl rfl rfl (YOk.own O.i1 rfl (λ_=>rfl) rfl) (λ_=>rfl) (λ_=>rfl) (by decide) (by simp) λa' h ha' O=>?_;refine gH ?_;refine O.IX (i:=mA.length) (kv:=av f.line) (old:=.slice none 0 0) (.tail _ (.tail _ (.head _))) (by rw[Mg (by unfold aY;rw[LZ];exact LV _)];unfold aY;rw[LZ,Nx];rfl) rfl rfl rfl λh O=>?_;refine gH ?_
   have em:(aY av ixV mA++[(av f.line,Pu none 0 0)]).set mA.length (av f.line,ak 1 a' (([]++[i]).map i64))=aY av ixV (mA++[(f.line,a',[i])]):=by
    have e2:aY av ixV (mA++[(f.line,a',[i])])=aY av ixV mA++[(av f.line,ixV (a',[i]))]:=MT;rw[e2,Rm _ _ (by unfold aY;rw[LZ];exact LV _)]
    have e3:(aY av ixV mA).length=mA.length:=by unfold aY;rw[LZ]
    rw[e3,Nx];rfl
   have O:Own vars h0 (bl (f.line,a',[i])::(some gb,.cells (ah (([i]:List Nat).map i64)) false)::(some gA,.map ((aY av ixV mA++[(av f.line,Pu none 0 0)]).set mA.length (av f.line,ak 1 a' (([]++[i]).map i64))))::(mA.map bl++((some g14,.cells (cl (ay f)) false)::[(some gl,.cells (ah ((LY c.nodes.length (none:Option Nat)).map Pb)) false),(some gx,.cells (cl (az c)++[ae 5 ay l,ae 1 n8 nets,.slice (some ⟨gl,0,none⟩) c.nodes.length c.nodes.length,.map (some gA)]) false)]))) h:=O;rw[em] at O;have O:=(O.perm (Ry _ _ _)).tail.perm zw
   have hne':∀e∈mA++[(f.line,a',[i])],e.2.1≠none:=λe m=>by
    rcases MB.1 m with m|m
    .exact F.nn e m
    .rw[Mm.1 m]
     exact λq=>by have:=ha' q;simp at this
   have O:Own vars h0 (atL gA (mA++[(f.line,a',[i])]) [(some gl,.cells (ah ((LY c.nodes.length (none:Option Nat)).map Pb)) false),(some gx,.cells (cl (az c)++[ae 5 ay l,ae 1 n8 nets,.slice (some ⟨gl,0,none⟩) c.nodes.length c.nodes.length,.map (some gA)]) false)]) h:=(O.perm (vf (R:=[(some gl,.cells (ah ((LY c.nodes.length (none:Option Nat)).map Pb)) false),(some gx,.cells (cl (az c)++[ae 5 ay l,ae 1 n8 nets,.slice (some ⟨gl,0,none⟩) c.nodes.length c.nodes.length,.map (some gA)]) false)])).symm).tail
   conv=>whnf
   refine CodeM.reg ?_;refine gH ?_;refine aJ (a:=i) (b:=1) (W:=True) ⟨by omega,trivial⟩ λ_=>?_;refine gH ?_;exact⟨(i+1,mA++[(f.line,a',[i])]),by show l.length-(i+1)<l.length-i;omega,⟨hlt,F.step hf (λq=>CK hj q) hne',O⟩,VLe.refl _ _,VLe.refl _ _,VLe.refl _ _,VLe.refl _ _,VLe.refl _ _,VLe.refl _ _,trivial⟩
 .obtain rfl:i=l.length:=by omega
  refine CodeM.seq (CodeM.cond ⟨false,congrArg L0 (by show ltN l.length l.length=false;rw[bj];simp),(λe=>nomatch e),λ_=>CodeM.exit ?_⟩);conv=>whnf
  refine CodeM.seq (CodeM.reg ?_);refine gH ?_;refine ca (eG hord O.has) λr3 hr=>?_;obtain⟨o,rfl,hoall,hol,hbef⟩:=hr;refine gH ?_
  conv=>whnf
  refine CodeM.seq (CodeM.seq (CodeM.reg ?_));refine gH ?_
  refine CodeM.block (CodeM.loop (nn:=88) (σ:=Nat×List (Option Nat)×(Nat->SM)) (λs h'=>s.1<=o.length/\s.2.1.length=c.nodes.length/\(∀j m,j<s.1->o[j]?=some m->(∃g,s.2.1[m]?=some (some g))/\IsSet (s.2.2 m) (Q m))/\∃U,(some gx,AObj.cells (cl (az c)++[ae 5 ay l,ae 1 n8 nets,.slice (some ⟨gl,0,none⟩) c.nodes.length c.nodes.length,.map (some gA)]) false)∈U/\(some gA,AObj.map (aY av ixV mA))∈U/\(∀e∈mA,bl e∈U)/\(∀m g,s.2.1[m]?=some (some g)->(some g,lN (s.2.2 m))∈U)/\Own vars h0 ((some gl,.cells (ah (s.2.1.map Pb)) false)::U) h')
   (λs=>[(12,.pointer (some ⟨gx,0,none⟩)),(71,ae 1 i64 o),(72,i64 o.length),(73,i64 s.1)]) (λs=>o.length-s.1) rfl ⟨(0,LY c.nodes.length none,λ_=>[]),⟨L1 _,Mw ..,λj m h=>absurd h (Mu _),_,BT (.head _),.head _,λe m=>.tail _ (MA _ (Qs (f:=bl) m)),λm g hm=>?_,O.perm vf.symm⟩,VLe.refl _ _,VLe.refl _ _,VLe.refl _ _,VLe.refl _ _,trivial⟩ ?_)
  .exfalso;rw[Mt] at hm
   split at hm <;> cases hm
  clear O;rintro⟨k,A,S⟩ base h ⟨hk,hAl,hdone,U,hU1,hU2,hU3,hU4,O⟩;dsimp only at hk hAl hdone hU4 O
  conv=>whnf
  refine CodeM.seq (CodeM.reg ?_);refine gH ?_;by_cases hlt:k<o.length
  .obtain⟨n,hn⟩:∃n,o[k]?=some n:=⟨_,LU hlt⟩;have hnl:n<c.nodes.length:=(hoall n).1 (LS hn);obtain⟨y,hy⟩:∃y,c.nodes[n]?=some y:=⟨_,LU hnl⟩;obtain⟨w,hw⟩:∃w,nets[n]?=some w:=⟨_,LU (by omega)⟩
   refine CodeM.seq (CodeM.cond ⟨true,congrArg L0 (by show ltN k o.length=true;rw[bj];simp;omega),λ_=>CodeM.skip ?_,(λe=>nomatch e)⟩);conv=>whnf
   refine CodeM.join (nn:=88) (σ:=Nat×SM) (λs h=>IsSet s.2 (Q n)/\Own vars h0 ((some gl,.cells (ah ((A.set n (some s.1)).map Pb)) false)::(some s.1,lN s.2)::U) h) (λ_=>[(12,.pointer (some ⟨gx,0,none⟩)),(71,ae 1 i64 o),(72,i64 o.length),(73,i64 k)]) rfl ?_ ?_
   .refine CodeM.block (CodeM.seq (CodeM.reg ?_));refine gH ?_;refine atF (W:=λ_=>True) ⟨n,hn,trivial⟩ λn' hn' _=>?_;rw[hn] at hn';cases hn';refine gH ?_
    have M:MachAt ⟨c,l,nets,gx,gl,gA,mA,A,S⟩ h:=⟨by
      have:=O.at (.tail _ hU1);unfold Mach.cells;dsimp only
      rw[hAl];exact this,O.at (.head _),O.at (.tail _ hU2),λq m g hq=>O.at (.tail _ (by have:=hU3 q m;unfold bl at this;rw[hq] at this;exact this)),F.nn,λm g hm=>O.at (.tail _ (hU4 m g hm))⟩
    obtain⟨P1,P2,P3⟩:=hstep ⟨c,l,nets,gx,gl,gA,mA,A,S⟩ n y rfl rfl rfl F hy λhc m hm=>by
     obtain⟨b,hb,e⟩:=hbef k n y m hn hy hc hm;exact (hdone b m hb e).2
    have CL:=Fc M O.has hy (hins n y hy) (λk=>Mf (F.len k) (by omega)) (q:=Q) (ev:=EV ⟨c,l,nets,gx,gl,gA,mA,A,S⟩ n y) (λh1 h2 m hm=>by
     obtain⟨b,hb,e⟩:=hbef k n y m hn hy ⟨h1,h2⟩ hm;have hmb:m<c.nodes.length:=(hoall m).1 (LS e)
     exact⟨⟨by show m<nets.length;omega,(hdone b m hb e).1⟩,(hdone b m hb e).2⟩) hw (λh1 h2 i hi=>(P1 ⟨h1,h2⟩ i hi).1) (λh1 h2 i hi=>(P1 ⟨h1,h2⟩ i hi).2) (λi hi=>⟨(by obtain⟨f,hf,_⟩:=F.lt hi;exact⟨f,hf⟩),λh1 h2=>P2 i hi ⟨h1,h2⟩⟩) (F.nodup _)
    obtain⟨a0,ha0⟩:∃a0,A[n]?=some a0:=⟨_,LU (by omega)⟩;refine CodeM.Et (oc:=?oc) (f:=69) (us:=[.pointer (some ⟨gx,0,none⟩),i64 n]) 7 [(77,.pointer (some ⟨gx,0,none⟩)),(78,.pointer (some ⟨gx,0,none⟩)),(79,.pointer (some ⟨gx,6,none⟩)),(80,.slice (some ⟨gl,0,none⟩) c.nodes.length c.nodes.length),(81,i64 n),(82,.pointer (some ⟨gx,0,none⟩)),(83,i64 n),(85,.pointer (some ⟨gl,0+n*1,none⟩))] rfl (by kernel_rfl) (by kernel_rfl) ?hc (by kernel_rfl) ?h1 CL ?_ ?_ ?_
    case hc=>exact rfl
    case h1=>kernel_rfl
    .exact⟨.inr ⟨77,rfl,.inl (by kernel_rfl)⟩,.inr ⟨78,rfl,.inl (by kernel_rfl)⟩,.inr ⟨79,rfl,.inl (by kernel_rfl)⟩,.inr ⟨80,rfl,.inr (bw (g:=gx) (off:=6) (by kernel_rfl) (O.at (.tail _ hU1)) rfl (by kernel_rfl))⟩,.inr ⟨81,rfl,.inl (by kernel_rfl)⟩,.inr ⟨82,rfl,.inl (by kernel_rfl)⟩,.inr ⟨83,rfl,.inl (by kernel_rfl)⟩,.inl rfl,.inr ⟨85,rfl,.inl (GV (sp:=none) (kk:=.i64) gl 0 1 c.nodes.length c.nodes.length n rfl rfl (by kernel_rfl) (by kernel_rfl) hnl (by kernel_rfl))⟩,trivial⟩
    .rintro v h2 ⟨g,D,rfl,sD,O2⟩;exact⟨.inr ⟨77,rfl,.inl (by kernel_rfl)⟩,.inr ⟨78,rfl,.inl (by kernel_rfl)⟩,.inr ⟨79,rfl,.inl (by kernel_rfl)⟩,.inr ⟨80,rfl,.inr (bw (g:=gx) (off:=6) (by kernel_rfl) ((uX O O2).at (.tail _ (.tail _ hU1))) rfl (by kernel_rfl))⟩,.inr ⟨81,rfl,.inl (by kernel_rfl)⟩,.inr ⟨82,rfl,.inl (by kernel_rfl)⟩,.inr ⟨83,rfl,.inl (by kernel_rfl)⟩,.inl rfl,.inr ⟨85,rfl,.inl (GV (sp:=none) (kk:=.i64) gl 0 1 c.nodes.length c.nodes.length n rfl rfl (by kernel_rfl) (by kernel_rfl) hnl (by kernel_rfl))⟩,trivial⟩
    .rintro v h2 ⟨g,D,rfl,sD,O2⟩;have O:=(uX O O2).perm (Ry _ _ _)
     conv=>whnf
     refine gH ?_;refine O.stE 1 (lv:=[.map (some g)]) (.head _) ha0 (some g) (λh O=>?_) (ha:=by kernel_rfl) (hx:=by kernel_rfl);refine gH ?_;exact⟨(g,D),⟨sD.congr P3,O⟩,IM (by kernel_rfl),IM (by kernel_rfl),IM (by kernel_rfl),IM (by kernel_rfl),trivial⟩
   .clear O;rintro⟨g,D⟩ base h ⟨sD,O⟩;dsimp only at sD O
    conv=>whnf
    refine CodeM.reg ?_;refine gH ?_;refine aJ (a:=k) (b:=1) (W:=True) ⟨by omega,trivial⟩ λ_=>?_;refine gH ?_;refine⟨(k+1,A.set n (some g),λm=>if m=n then D else S m),by show o.length-(k+1)<o.length-k;omega,⟨hlt,by simp[hAl],λj m hj hm=>?_,(some g,lN D)::U,.tail _ hU1,.tail _ hU2,λe m=>.tail _ (hU3 e m),λm g' hm=>?_,O⟩,VLe.refl _ _,VLe.refl _ _,VLe.refl _ _,VLe.refl _ _,trivial⟩
    .dsimp only;by_cases c1:m=n
     .subst c1;rw[if_pos rfl];exact⟨⟨g,by rw[Mp,if_pos rfl,if_pos (by omega)]⟩,sD⟩
     .rw[if_neg c1]
      have hj2:j<k:=by
       by_cases c2:j=k
       .subst c2;rw[hn] at hm;cases hm;exact absurd rfl c1
       .omega
      obtain⟨⟨g2,e2⟩,q⟩:=hdone j m hj2 hm;exact⟨⟨g2,by rw[Mp,if_neg (NU c1)];exact e2⟩,q⟩
    .dsimp only at hm ⊢;by_cases c1:m=n
     .subst c1;rw[Mp,if_pos rfl,if_pos (by omega)] at hm
      cases hm
      rw[if_pos rfl];exact .head _
     .rw[Mp,if_neg (NU c1)] at hm;rw[if_neg c1];exact .tail _ (hU4 m g' hm)
  .obtain rfl:k=o.length:=by omega
   refine CodeM.seq (CodeM.cond ⟨false,congrArg L0 (by show ltN o.length o.length=false;rw[bj];simp),(λe=>nomatch e),λ_=>CodeM.exit ?_⟩);refine gXM ?_
   have M:MachAt ⟨c,l,nets,gx,gl,gA,mA,A,S⟩ h:=⟨by
     have:=O.at (.tail _ hU1);unfold Mach.cells;dsimp only
     rw[hAl];exact this,O.at (.head _),O.at (.tail _ hU2),λq m g hq=>O.at (.tail _ (by have:=hU3 q m;unfold bl at this;rw[hq] at this;exact this)),F.nn,λm g hm=>O.at (.tail _ (hU4 m g hm))⟩
   exact⟨⟨c,l,nets,gx,gl,gA,mA,A,S⟩,rfl,rfl,rfl,rfl,F,M,λn hn=>by
    obtain⟨j,hj⟩:=M1 ((hoall n).2 hn)
    exact hdone j n (LX.1 hj).1 hj,_,O⟩
theorem Sol.bin{c:Circ}(P:Plz c){p:Pat}(F:Full c p){nt:Nat->Nat->Nat}{pn:Nat->Nat->Nat->Nat}{t:List Nat}(T:Sol c p nt pn t)(h1:∀i v,v<=1->nt i v<=1)(h2:∀m j v,v<=1->pn m j v<=1):∀i,t.getD i 0<=1:=by
 have C:=P.cir
 have key:∀n i,i<n->t.getD i 0<=1:=by
  intro n
  induction n with
  |zero=>intro i h;omega
  |succ n ih =>
   intro i hi;by_cases q:i<c.nodes.length
   .obtain⟨x,hx⟩:=aA q;rw[T.val i x hx];refine h1 _ _ ?_
    cases hc:cw x.kind with
    |true =>
     rw[eJ hc];have hc':=of_decide_eq_true hc;have:=P.kinds i x hx;unfold fN;rw[if_neg (by omega),if_neg (by omega)];refine tK hc'.1 (by omega) λv hv=>?_;unfold cO at hv;rw[Qp] at hv;obtain⟨a,ha,rfl⟩:=hv;exact h2 _ _ _ (ih _ (by have:=nQ C hx hc (Nw ha);omega))
    |false =>
     rw[da hc]
     have k2:∀(l:List Nat) (j:Nat),(∀v∈l,v<=1)->l.getD j 0<=1:=by
      intro l j h;by_cases q:j<l.length
      .exact h _ (iu q)
      .rw[Mh,Mk (by omega)];exact L1 _
     unfold zx;split
     .exact k2 _ _ F.inp
     split
     .exact k2 _ _ F.state
     .exact L1 _
   .rw[Mh,Mk (by have:=T.len;omega)];exact L1 _
 exact λi=>key (i+1) i (ML i)
theorem Ao{c:Circ}(C:Cir c){p:Pat}(hp:PatOk c p){f:Flt}(S:StuckOk c f):Sol c p (ntF f) (pnF f) (jV c p f):=nK C hp (C5 S.value) (CX S.value)
theorem GB{c:Circ}(P:Plz c){p:Pat}(F:Full c p){f:Flt}(S:StuckOk c f):∀i,(jV c p f).getD i 0<=1:=by
 have hv:=S.value;refine (Ao P.cir F.pat S).bin P F (λi v h=>?_) λm j v h=>?_
 .unfold ntF jG idN;split
  .show (if i=f.line.node then f.value else v)<=1
   split <;> omega
  .exact h
 .unfold pnF ij idP;split
  .exact h
  .show (if m=f.line.node/\LQ j=f.line.pin then f.value else v)<=1
   split <;> omega
theorem La{c:Circ}(C:Cir c){p:Pat}(hp:PatOk c p){f:Flt}(S:StuckOk c f):∀i,i<f.line.node->(jV c p f).getD i 0=(cn c p).getD i 0:=by
 have T:=Ao C hp S;have V:=kJ C hp
 have key:∀n i,i<n->i<f.line.node->(jV c p f).getD i 0=(cn c p).getD i 0:=by
  intro n
  induction n with
  |zero=>intro i h;omega
  |succ n ih =>
   intro i hi hn;by_cases q:i<c.nodes.length
   .obtain⟨x,hx⟩:=aA q;rw[T.val i x hx,V.val i x hx]
    have e1:∀v,ntF f i v=idN i v:=λv=>by
     unfold ntF jG idN;split
     .exact if_neg (by omega)
     .rfl
    rw[e1];congr 1
    cases hc:cw x.kind with
    |false=>rw[da hc,da hc]
    |true =>
     rw[eJ hc,eJ hc];congr 1;unfold cO;apply MH;intro j;rw[Nz,Nz]
     cases hj:x.ins[j]? with
     |none=>rfl
     |some m =>
      have hm:=nQ C hx hc (LS hj)
      show some (pnF f i j _)=some (idP i j _)
      rw[ih m (by omega) (by omega)];unfold pnF ij idP;split
      .rfl
      .exact congrArg some (if_neg λq=>by have:=q.1;omega)
   .rw[Mh,Mk (by have:=T.len;omega),Mh,Mk (by have:=V.len;omega)]
 exact λi hi=>key (i+1) i (ML i) hi
structure N2 where
 a:Nat
 b:Nat
deriving DecidableEq
structure Rul where
 pin:Nat
 out:Nat
structure Sus where
 fault:Nat
 both:Nat
 missed:Nat
 extra:Nat
deriving DecidableEq
set_option maxHeartbeats 8000000
def kT(p0:(List Nat))(p1:Nat)(K:Int->Prop):Prop :=
 aw (α:=Unit) (λk1=>aF (S:=Nat) (λv2 nx3=>((ltN v2 p0.length)=true->∃x4,p0[v2]?=some x4/\((eqN p1 x4)=true->K (LQ v2))/\((eqN p1 x4)=false->v2+1<2^63/\nx3 (v2+1)))/\((ltN v2 p0.length)=false->k1 ())) 0) (λ_=>K (Mj 0))
theorem vy{p0:(List Nat)}{p1:Nat}{K:Int->Prop}(hm:kT p0 p1 K){h0:Heap}(hB:aH vars h0):∃r,K r/\al Tryz.prog NG 136 ⟨[(ae 1 i64) p0,i64 p1]⟩ h0 (z64 r) h0:=by
 unfold kT at hm
 refine fw Tryz.func136 hB (enc:=z64) (λr=>aq.flat rfl) λO=>?_;conv=>whnf
 apply Cs;conv=>whnf
 apply Cs;refine gH ?_;refine jn hm 19 [] (λs=>s) (λ_ h=>Own vars h0 [] h) (λ_=>[]) (λhm=>?_) ?_
 .refine gX ?_;refine lw 19 [0,1,7] (σ:=Nat) (λs=>s) (λv2 h=>Own vars h0 [] h) (λv2=>[(8,(i64 v2))]) 0 hm O ?_;clear hm;rintro v2 nx3 base h hm O;refine gX ?_;refine br hm (λhm=>?_) λhm=>?_
  .refine gX ?_;refine atF hm λx4 hx4 hm=>?_;refine gX ?_;refine br hm (λhm=>?_) λhm=>?_
   .refine gX ?_;exact fe hm O
   .refine gX ?_;refine aJ hm λhm=>?_;refine gH ?_;exact jx (v2+1) hm O
  .refine gX ?_;exact jx () hm O
 .clear hm;rintro _ base h hm O;refine gX ?_;exact fe hm O
def fu(p0:(List Nat))(p1:Nat)(K:Bool->Prop):Prop :=
 kT p0 p1 (λr1=>K (!ltI r1 (LQ 0)))
theorem sn{p0:(List Nat)}{p1:Nat}{K:Bool->Prop}(hm:fu p0 p1 K){h0:Heap}(hB:aH vars h0):∃r,K r/\al Tryz.prog NG 85 ⟨[(ae 1 i64) p0,i64 p1]⟩ h0 (L0 r) h0:=by
 unfold fu at hm
 refine fw Tryz.func85 hB (enc:=L0) (λr=>aq.flat rfl) λO=>?_;conv=>whnf
 refine gX ?_;refine ca (vy hm O.has) λr1 hm=>?_;refine gX ?_;exact fe hm O
def fy(p0:Circ)(K:((List (List LnZ))×(List Nat))->Prop):Prop :=
 kN p0 (λr1=>8*p0.nodes.length<=2^48/\p0.nodes.length<2^63/\aw (α:=(List Nat)) (λk5=>aF (S:=((List Nat)×Nat)) (λ(v6,v7) nx8=>((ltN v7 r1.length)=true->∃x9,r1[v7]?=some x9/\v7<p0.nodes.length/\∃x10,v6[v7]?=some x10/\v7+1<2^63/\nx8 ((v6.set v7 x9.length),(v7+1)))/\((ltN v7 r1.length)=false->k5 v6)) ((LY p0.nodes.length (0:Nat)),0)) (λv4=>aw (α:=(List Nat)) (λk12=>aF (S:=((List Nat)×Nat)) (λ(v13,v14) nx15=>((ltN v14 p0.outs.length)=true->∃x16,p0.outs[v14]?=some x16/\x16<p0.nodes.length/\∃x17,v13[x16]?=some x17/\x17+1<2^63/\x16<p0.nodes.length/\∃x18,v13[x16]?=some x18/\v14+1<2^63/\nx15 ((v13.set x16 (x17+1)),(v14+1)))/\((ltN v14 p0.outs.length)=false->k12 v13)) (v4,0)) (λv11=>p0.nodes.length=v11.length/\K (r1,v11))))
theorem sv{p0:Circ}{K:((List (List LnZ))×(List Nat))->Prop}(hm:fy p0 K){h0:Heap}(hB:aH vars h0):∃r,K r/\al Tryz.prog NG 84 ⟨[az p0]⟩ h0 ((λ(r:((List (List LnZ))×(List Nat)))=>MD ⟨[(ae 1 (ae 2 av)) (r.1),(ae 1 i64) (r.2)]⟩) r) h0:=by
 unfold fy at hm
 refine fw Tryz.func84 hB (enc:=(λ(r:((List (List LnZ))×(List Nat)))=>MD ⟨[(ae 1 (ae 2 av)) (r.1),(ae 1 i64) (r.2)]⟩)) (λr=>aq.tup (ag.cons (cg (λ_=>ag.cons (cg (λ_=>pC _)) ag.nil)) (ag.cons (cg (λ_=>ag.cons (aq.flat rfl) ag.nil)) (ag.nil)))) λO=>?_;conv=>whnf
 refine gX ?_;refine fz ?_;refine gX ?_;refine ca (om hm O.has) λr1 hm=>?_;refine gX ?_;refine O.mkL (enc:=i64) 8 1 0 hm λg2 h O hm=>?_;refine gH ?_;refine jn hm 45 [1,4,5] (λs=>s) (λv4 h=>Own vars h0 [(sG g2 i64 v4)] h) (λv4=>[]) (λhm=>?_) ?_
 .refine gX ?_;refine lw 45 [1,4,5,16,17] (σ:=((List Nat)×Nat)) (λs=>s) (λ(v6,v7) h=>Own vars h0 [(sG g2 i64 v6)] h) (λ(v6,v7)=>[(18,(i64 v7))]) ((LY p0.nodes.length (0:Nat)),0) hm O ?_;clear hm;rintro⟨v6,v7⟩ nx8 base h hm O;refine gX ?_;refine br hm (λhm=>?_) λhm=>?_
  .refine gX ?_;refine atF hm λx9 hx9 hm=>?_;refine gX ?_;refine ix 1 hm λx10 hx10 hm=>?_;refine gH ?_;refine O.stE 1 (.head _) hx10 x9.length λh O=>?_;refine gX ?_;refine aJ hm λhm=>?_;refine gH ?_;exact jx ((v6.set v7 x9.length),(v7+1)) hm O
  .refine gX ?_;exact jx v6 hm O
 .clear hm;rintro v4 base h hm O
  conv=>whnf
  refine jn hm 45 [4,5] (λs=>s) (λv11 h=>Own vars h0 [(sG g2 i64 v11)] h) (λv11=>[]) (λhm=>?_) ?_
  .refine gX ?_;refine lw 45 [4,5,30,31] (σ:=((List Nat)×Nat)) (λs=>s) (λ(v13,v14) h=>Own vars h0 [(sG g2 i64 v13)] h) (λ(v13,v14)=>[(32,(i64 v14))]) (v4,0) hm O ?_;clear hm;rintro⟨v13,v14⟩ nx15 base h hm O;refine gX ?_;refine br hm (λhm=>?_) λhm=>?_
   .refine gX ?_;refine atF hm λx16 hx16 hm=>?_;refine gX ?_;refine ix 1 hm λx17 hx17 hm=>?_;refine gH ?_;refine ldE (s:=1) (i:=0) O.i0 hx17 ?_;refine gH ?_;refine aJ hm λhm=>?_;refine gH ?_;refine ix 1 hm λx18 hx18 hm=>?_;refine gH ?_;refine O.stE 1 (.head _) hx18 (x17+1) λh O=>?_;refine gX ?_;refine aJ hm λhm=>?_;refine gH ?_;exact jx ((v13.set x16 (x17+1)),(v14+1)) hm O
   .refine gX ?_;exact jx v13 hm O
  .clear hm;rintro v11 base h hm O;refine gX ?_;obtain⟨hn19,hm⟩:=hm;exact⟨(r1,v11),hm,O.ext,λh2 F=>VLe.tup (LLe.cons (VLe.refl _ _) (LLe.cons (O.jC F (LV _) (.head _) (λ_=>rfl) hn19) (LLe.nil _)))⟩
def fB(p0:Circ)(K:Nat->Prop):Prop :=
 cm p0 (λr1=>((neN r1.2 0)=true->K r1.2)/\((neN r1.2 0)=false->cz p0 ([12,13]:(List Nat)) (λr2=>((ltN 0 r2.length)=true->K 7)/\((ltN 0 r2.length)=false->K 0))))
theorem su{p0:Circ}{K:Nat->Prop}(hm:fB p0 K){h0:Heap}(hB:aH vars h0):∃r,K r/\al Tryz.prog NG 32 ⟨[az p0]⟩ h0 (i64 r) h0:=by
 unfold fB at hm
 refine fw Tryz.func32 hB (enc:=i64) (λr=>aq.flat rfl) λO=>?_;conv=>whnf
 refine gX ?_;refine fz ?_;refine gX ?_;refine ca (fM hm O.has) λr1 hm=>?_;refine gX ?_;refine br hm (λhm=>?_) λhm=>?_
 .refine gX ?_;exact fe hm O
 .refine gX ?_;refine fz ?_;refine gH ?_;refine ca (eV hm O.has) λr2 hm=>?_;refine gX ?_;refine br hm (λhm=>?_) λhm=>?_
  .refine gX ?_;exact fe hm O
  .refine gX ?_;exact fe hm O
def fO(p0:(List Nat))(K:Int->Prop):Prop :=
 aw (α:=Unit) (λk1=>aF (S:=Nat) (λv2 nx3=>((ltN v2 p0.length)=true->∃x4,p0[v2]?=some x4/\dE x4 (λr5=>((!r5)=true->K (LQ v2))/\((!r5)=false->v2+1<2^63/\nx3 (v2+1))))/\((ltN v2 p0.length)=false->k1 ())) 0) (λ_=>K (Mj 0))
theorem pR{p0:(List Nat)}{K:Int->Prop}(hm:fO p0 K){h0:Heap}(hB:aH vars h0):∃r,K r/\al Tryz.prog NG 124 ⟨[(ae 1 n8) p0,(.func (.func 76) ⟨[]⟩ ⟨[]⟩)]⟩ h0 (z64 r) h0:=by
 unfold fO at hm
 refine fw Tryz.func124 hB (enc:=z64) (λr=>aq.flat rfl) λO=>?_;conv=>whnf
 apply Cs;conv=>whnf
 apply Cs;refine gH ?_;refine jn hm 19 [] (λs=>s) (λ_ h=>Own vars h0 [] h) (λ_=>[]) (λhm=>?_) ?_
 .refine gX ?_;refine lw 19 [0,1,7] (σ:=Nat) (λs=>s) (λv2 h=>Own vars h0 [] h) (λv2=>[(8,(i64 v2))]) 0 hm O ?_;clear hm;rintro v2 nx3 base h hm O;refine gX ?_;refine br hm (λhm=>?_) λhm=>?_
  .refine gX ?_;refine atF hm λx4 hx4 hm=>?_;refine gH ?_;refine fg Tryz.func76 ?_;refine gX ?_;refine ca (jT hm O.has) λr5 hm=>?_;refine gX ?_;refine br hm (λhm=>?_) λhm=>?_
   .refine gX ?_;exact fe hm O
   .refine gX ?_;refine aJ hm λhm=>?_;refine gH ?_;exact jx (v2+1) hm O
  .refine gX ?_;exact jx () hm O
 .clear hm;rintro _ base h hm O;refine gX ?_;exact fe hm O
def dy(p0:(List Nat))(K:Bool->Prop):Prop :=
 fO p0 (λr1=>K (!ltI r1 (LQ 0)))
theorem lk{p0:(List Nat)}{K:Bool->Prop}(hm:dy p0 K){h0:Heap}(hB:aH vars h0):∃r,K r/\al Tryz.prog NG 78 ⟨[(ae 1 n8) p0,(.func (.func 76) ⟨[]⟩ ⟨[]⟩)]⟩ h0 (L0 r) h0:=by
 unfold dy at hm
 refine fw Tryz.func78 hB (enc:=L0) (λr=>aq.flat rfl) λO=>?_;conv=>whnf
 refine gX ?_;refine ca (pR hm O.has) λr1 hm=>?_;refine gX ?_;exact fe hm O
def fR(p0:Circ)(p1:Pat)(K:Nat->Prop):Prop :=
 ee p0 p1 (λr1=>((neN r1 0)=true->K r1)/\((neN r1 0)=false->aw (α:=Bool) (λk3=>dy p1.inp (λr4=>(r4=true->k3 true)/\(r4=false->dy p1.state (λr5=>k3 r5)))) (λv2=>(v2=true->K 1)/\(v2=false->K 0))))
theorem tQ{p0:Circ}{p1:Pat}{K:Nat->Prop}(hm:fR p0 p1 K){h0:Heap}(hB:aH vars h0):∃r,K r/\al Tryz.prog NG 34 ⟨[az p0,aE p1]⟩ h0 (i64 r) h0:=by
 unfold fR at hm
 refine fw Tryz.func34 hB (enc:=i64) (λr=>aq.flat rfl) λO=>?_;conv=>whnf
 refine gX ?_;refine fz ?_;refine gH ?_;refine fz ?_;refine gX ?_;refine ca (kD hm O.has) λr1 hm=>?_;refine gX ?_;refine br hm (λhm=>?_) λhm=>?_
 .refine gX ?_;exact fe hm O
 .apply Cs;conv=>whnf
  apply Cs;conv=>whnf
  apply Cs;refine gH ?_
  apply Cs;conv=>whnf
  refine jn hm 23 [] (λs=>s) (λv2 h=>Own vars h0 [] h) (λv2=>[(22,(.bool v2))]) (λhm=>?_) ?_
  .refine gX ?_;refine ca (lk hm O.has) λr4 hm=>?_;refine gH ?_;refine br hm (λhm=>?_) λhm=>?_
   .refine gX ?_;exact jx true hm O
   .refine gX ?_;refine ca (lk hm O.has) λr5 hm=>?_;refine gH ?_;exact jx r5 hm O
  .clear hm;rintro v2 base h hm O;refine gX ?_;refine br hm (λhm=>?_) λhm=>?_
   .refine gX ?_;exact fe hm O
   .refine gX ?_;exact fe hm O
def dP(p0:Circ)(p1:(List Nat))(p2:Nat)(p3:Nat)(K:Bool->Prop):Prop :=
 aw (α:=(List Nat)) (λk5=>∃x6,p0.nodes[p2]?=some x6/\aF (S:=((List Nat)×Nat)) (λ(v8,v9) nx11=>((ltN v9 x6.ins.length)=true->∃x12,x6.ins[v9]?=some x12/\∃x13,p1[x12]?=some x13/\aw (α:=Nat) (λk16=>((eqN v9 p3)=true->cY x13 (λr17=>k16 r17))/\((eqN v9 p3)=false->k16 x13)) (λv14=>(v8.length+([v14]:(List Nat)).length)*1<=2^47/\v9+1<2^63/\nx11 ((v8++([v14]:(List Nat))),(v9+1))))/\((ltN v9 x6.ins.length)=false->k5 v8)) (([]:List Nat),0)) (λv3=>∃x20,p0.nodes[p2]?=some x20/\bL x20.kind v3 (λr21=>∃x22,p1[p2]?=some x22/\K (neN r21 x22)))
theorem pS{p0:Circ}{p1:(List Nat)}{p2:Nat}{p3:Nat}{K:Bool->Prop}(hm:dP p0 p1 p2 p3 K){h0:Heap}(hB:aH vars h0):∃r,K r/\al Tryz.prog NG 139 ⟨[az p0,(ae 1 n8) p1,i64 p2,i64 p3]⟩ h0 (L0 r) h0:=by
 unfold dP at hm
 refine fw Tryz.func139 hB (enc:=L0) (λr=>aq.flat rfl) λO=>?_;conv=>whnf
 refine gX ?_;refine fz ?_;refine gH ?_
 apply Cs;conv=>whnf
 apply Cs;refine gH ?_;have O:=O.aZ (.cells (ah ((([]:List Nat)).map n8)) false);refine jn (σ:=(List Nat)×Option Nat) hm 52 [1,2,4] (λs=>s.1) (λ(v3,a2) h=>(a2=none->v3=[])/\Own vars h0 [(sM a2 n8 v3)] h) (λ(v3,a2)=>[(9,(ak 1 a2 (v3.map n8)))]) (λhm=>?_) ?_
 .refine gX ?_;refine atF hm λx6 hx6 hm=>?_;refine gX ?_;refine lw 52 [1,2,3,4,18,19] (σ:=((List Nat)×Nat)×Option Nat) (λs=>s.1) (λ((v8,v9),a7) h=>(a7=none->v8=[])/\Own vars h0 [(sM a7 n8 v8)] h) (λ((v8,v9),a7)=>[(9,(ak 1 a7 (v8.map n8))),(20,(i64 v9))]) ((([]:List Nat),0),none) hm ⟨(λ_=>rfl),O⟩ ?_;clear hm;rintro⟨⟨v8,v9⟩,a7⟩ nx11 base h hm ⟨ha10,O⟩;refine gX ?_;refine br hm (λhm=>?_) λhm=>?_
  .refine gX ?_;refine atF hm λx12 hx12 hm=>?_;refine gX ?_;refine atF hm λx13 hx13 hm=>?_;refine gH ?_;refine jn hm 52 [1,2,3,4,9,18,19,20] (λs=>s) (λv14 h=>(a7=none->v8=[])/\Own vars h0 [(sM a7 n8 v8)] h) (λv14=>[(12,(n8 v14))]) (λhm=>?_) ?_
   .refine gX ?_;refine br hm (λhm=>?_) λhm=>?_
    .refine gX ?_;refine ca (dC hm O.has) λr17 hm=>?_;refine gH ?_;exact jx r17 hm ⟨ha10,O⟩
    .refine gX ?_;exact jx x13 hm ⟨ha10,O⟩
   .clear hm;rintro v14 base h hm ⟨ha15,O⟩;refine gX ?_;refine fz ?_;refine gH ?_;refine O.apL (enc:=n8) (l:=v8) (new:=([v14]:(List Nat))) 1 (.head _) ha15 hm λa18 h ha19 O hm=>?_;refine gX ?_;refine aJ hm λhm=>?_;refine gH ?_;exact jx (((v8++([v14]:(List Nat))),(v9+1)),a18) hm ⟨ha19,O⟩
  .refine gX ?_;exact jx (v8,a7) hm ⟨ha10,O⟩
 .clear hm;rintro⟨v3,a2⟩ base h hm ⟨ha4,O⟩;refine gX ?_;refine dF ?_;refine gX ?_;refine atF hm λx20 hx20 hm=>?_;refine gH ?_;refine al.Ew (λ_ hb=>iC hm hb) (λ_=>ly rfl) sL O.has (λh2 F=>(LLe.cons (VLe.refl _ _) (LLe.cons (O.jP F (L1 _) (.head _) ha4 (λ_=>rfl)) (LLe.nil _)))) (by kernel_rfl) (λr21 hm'=>?_);replace hm:=hm';refine gH ?_;refine⟨.inl (Ext.refl _),?_⟩;refine gH ?_;refine atF hm λx22 hx22 hm=>?_;refine gX ?_;exact fe hm O
def eQ(p0:Circ)(p1:(List Nat))(p2:(List Nat))(p3:Nat)(K:(List LnZ)->Prop):Prop :=
 aw (α:=(List LnZ)) (λk9=>aF (S:=((List LnZ)×(List Nat))) (λ(v12,v16) nx19=>((ltN 0 v16.length)=true->1<=v16.length/\v16.length<2^63/\∃x20,v16[(v16.length-1)]?=some x20/\1<=v16.length/\v16.length<2^63/\(v16.length-1)<=v16.length/\∃x22,p0.nodes[x20]?=some x22/\((eqN x22.kind 14)=true->nx19 (v12,(v16.take (v16.length-1))))/\((eqN x22.kind 14)=false->∃x23,p0.nodes[x20]?=some x23/\aF (S:=((List LnZ)×(List Nat)×Nat)) (λ(v26,v30,v31) nx34=>((ltN v31 x23.ins.length)=true->aw (α:=((List LnZ)×(List Nat))) (λk44=>∃x45,x23.ins[v31]?=some x45/\dP p0 p1 x20 v31 (λr46=>((!r46)=true->k44 (v26,v30))/\((!r46)=false->(v26.length+([(⟨x20,(LQ v31)⟩:LnZ)]:(List LnZ)).length)*16<=2^47/\∃x51,p2[x45]?=some x51/\((eqN x51 1)=true->((v26++([(⟨x20,(LQ v31)⟩:LnZ)]:(List LnZ))).length+([(⟨x45,(Mj 0)⟩:LnZ)]:(List LnZ)).length)*16<=2^47/\(v30.length+([x45]:(List Nat)).length)*8<=2^47/\k44 (((v26++([(⟨x20,(LQ v31)⟩:LnZ)]:(List LnZ)))++([(⟨x45,(Mj 0)⟩:LnZ)]:(List LnZ))),(v30++([x45]:(List Nat)))))/\((eqN x51 1)=false->k44 ((v26++([(⟨x20,(LQ v31)⟩:LnZ)]:(List LnZ))),v30))))) (λ(v37,v41)=>v31+1<2^63/\nx34 (v37,v41,(v31+1))))/\((ltN v31 x23.ins.length)=false->nx19 (v26,v30))) (v12,(v16.take (v16.length-1)),0)))/\((ltN 0 v16.length)=false->k9 v12)) (([(⟨p3,(Mj 0)⟩:LnZ)]:(List LnZ)),([p3]:(List Nat)))) (λv8=>0<v8.length/\K v8)
theorem sb{p0:Circ}{p1:(List Nat)}{p2:(List Nat)}{p3:Nat}{K:(List LnZ)->Prop}(hm:eQ p0 p1 p2 p3 K){h0:Heap}(hB:aH vars h0):∃v h',al Tryz.prog NG 88 ⟨[az p0,(ae 1 n8) p1,(ae 1 i64) p2,i64 p3]⟩ h0 v h'/\mz vars h0 K (λ(r:(List LnZ)) a=>ak 2 a (r.map av)) (λ(r:(List LnZ))=>r) av false v h':=by
 unfold eQ at hm
 refine fg Tryz.func88 (Q:=mz vars h0 K (λ(r:(List LnZ)) a=>ak 2 a (r.map av)) (λ(r:(List LnZ))=>r) av false) ?_;have O:=Own.start hB;conv=>whnf
 refine gX ?_;refine fz ?_;refine gX ?_;have O:=O.aZ (.cells (ah ((([]:List LnZ)).map av)) false);refine O.sW (l:=([(⟨p3,(Mj 0)⟩:LnZ)]:(List LnZ))) (enc:=av) (s:=2) (z:=(.agg ⟨[(i64 0),(i64 0)]⟩)) rfl rfl (by kernel_rfl) (by kernel_rfl) rfl rfl rfl rfl (λ_=>rfl) λg2 h O=>?_;refine gX ?_;refine O.sW (l:=([p3]:(List Nat))) (enc:=i64) (s:=1) (z:=(i64 0)) rfl rfl (by kernel_rfl) (by kernel_rfl) rfl rfl rfl rfl (λ_=>rfl) λg4 h O=>?_;refine gH ?_
 apply Cs;conv=>whnf
 apply Cs;conv=>whnf
 refine jn (σ:=(List LnZ)×(Nat×Bool)) hm 80 [] (λs=>s.1) (λ(v8,(a6,a7)) h=>Own vars h0 [(sG a6 av v8)] h) (λ(v8,(a6,a7))=>[(9,(oI 2 a7 a6 ((v8.map av).length)))]) (λhm=>?_) ?_
 .refine gX ?_;refine lw 80 [1,2,4] (σ:=((List LnZ)×(List Nat))×(Nat×Bool×Option Nat×Option Nat×(List Nat))) (λs=>s.1) (λ((v12,v16),(a10,a11,a13,a14,a15)) h=>(a13=none->v16++a15=[])/\(a14=none\/a14=some 1)/\Own vars h0 [(sG a10 av v12),(sM a13 i64 (v16++a15))] h) (λ((v12,v16),(a10,a11,a13,a14,a15))=>[(9,(oI 2 a11 a10 ((v12.map av).length))),(10,(stV i64 a13 a14 v16 a15))]) ((([(⟨p3,(Mj 0)⟩:LnZ)]:(List LnZ)),([p3]:(List Nat))),(g2,false,(some g4),none,([]:(List Nat)))) hm ⟨jo,(.inl rfl),(O.sel [1,0] (by decide))⟩ ?_;clear hm;rintro⟨⟨v12,v16⟩,⟨a10,a11,a13,a14,a15⟩⟩ nx19 base h hm ⟨ha17,ht18,O⟩;refine gX ?_;refine br hm (λhm=>?_) λhm=>?_
  .refine gX ?_;refine vt hm λhm=>?_;refine gH ?_;obtain⟨x20,hx20,hm⟩:=hm;have h9:=hm;obtain⟨g21,rfl⟩:=Kd ha17 hx20;replace hm:=h9;refine cb (s:=1) (j:=(v16.length-1)) rfl rfl rfl rfl (ai hx20) ?_;refine gH ?_;replace hx20:=K5 (J:=a15) hx20;refine ldE (s:=1) (i:=0) O.i1 hx20 ?_;refine gX ?_;refine vt hm λhm=>?_;refine gH ?_;refine K3 (enc:=i64) (l:=v16) (J:=a15) (s:=1) (k:=(v16.length-1)) rfl rfl rfl ht18 rfl hm.1 ?_;refine gX ?_;simp only[sM] at O;rw[LN (enc:=i64) v16 a15 (v16.length-1)] at O;replace hm:=hm.2;refine atF hm λx22 hx22 hm=>?_;refine gX ?_;refine br hm (λhm=>?_) λhm=>?_
   .refine gX ?_;exact jx ((v12,(v16.take (v16.length-1))),(a10,a11,(some g21),a14,(v16.drop (v16.length-1)++a15))) hm ⟨jo,ht18,O⟩
   .refine gX ?_;refine atF hm λx23 hx23 hm=>?_;refine gX ?_;refine lw 80 [1,2,4,11,45,46] (σ:=((List LnZ)×(List Nat)×Nat)×(Nat×Bool×Option Nat×Option Nat×(List Nat))) (λs=>s.1) (λ((v26,v30,v31),(a24,a25,a27,a28,a29)) h=>(a27=none->v30++a29=[])/\(a28=none\/a28=some 1)/\Own vars h0 [(sG a24 av v26),(sM a27 i64 (v30++a29))] h) (λ((v26,v30,v31),(a24,a25,a27,a28,a29))=>[(9,(oI 2 a25 a24 ((v26.map av).length))),(10,(stV i64 a27 a28 v30 a29)),(47,(i64 v31))]) ((v12,(v16.take (v16.length-1)),0),(a10,a11,(some g21),a14,(v16.drop (v16.length-1)++a15))) hm ⟨jo,ht18,O⟩ ?_;clear hm;rintro⟨⟨v26,v30,v31⟩,⟨a24,a25,a27,a28,a29⟩⟩ nx34 base h hm ⟨ha32,ht33,O⟩;refine gX ?_;refine br hm (λhm=>?_) λhm=>?_
    .apply Cs;conv=>whnf
     refine jn (σ:=((List LnZ)×(List Nat))×(Nat×Bool×Option Nat×Option Nat×(List Nat))) hm 80 [1,2,4,11,45,46,47] (λs=>s.1) (λ((v37,v41),(a35,a36,a38,a39,a40)) h=>(a38=none->v41++a40=[])/\(a39=none\/a39=some 1)/\Own vars h0 [(sG a35 av v37),(sM a38 i64 (v41++a40))] h) (λ((v37,v41),(a35,a36,a38,a39,a40))=>[(9,(oI 2 a36 a35 ((v37.map av).length))),(10,(stV i64 a38 a39 v41 a40))]) (λhm=>?_) ?_
     .refine gX ?_;refine atF hm λx45 hx45 hm=>?_;refine gX ?_;refine ca (pS hm O.has) λr46 hm=>?_;refine gX ?_;refine br hm (λhm=>?_) λhm=>?_
      .refine gX ?_;exact jx ((v26,v30),(a24,a25,a27,a28,a29)) hm ⟨ha32,ht33,O⟩
      .refine gX ?_;refine fz ?_;refine gH ?_;refine O.apS (enc:=av) (l:=v26) (new:=([(⟨x20,(LQ v31)⟩:LnZ)]:(List LnZ))) 2 (.head _) rfl hm λg49 a50 h O hm=>?_;refine gX ?_;refine atF hm λx51 hx51 hm=>?_;refine gX ?_;refine br hm (λhm=>?_) λhm=>?_
       .refine gX ?_;refine fz ?_;refine gH ?_;refine O.apS (enc:=av) (l:=(v26++([(⟨x20,(LQ v31)⟩:LnZ)]:(List LnZ)))) (new:=([(⟨x45,(Mj 0)⟩:LnZ)]:(List LnZ))) 2 (.head _) rfl hm λg54 a55 h O hm=>?_;refine gH ?_;refine fz ?_;refine gH ?_;refine O.J2 (enc:=i64) (l:=v30) (J:=a29) (new:=([x45]:(List Nat))) (s:=1) (b:=8) (.tail _ (.head _)) ha32 ht33 rfl rfl rfl rfl rfl rfl rfl rfl (YOk.fl rfl) (λ_=>rfl) (λ_=>rfl) (by decide) hm.1 λa56 a57 a58 h ha59 ht60 O=>?_;refine gH ?_;replace hm:=hm.2;exact jx ((((v26++([(⟨x20,(LQ v31)⟩:LnZ)]:(List LnZ)))++([(⟨x45,(Mj 0)⟩:LnZ)]:(List LnZ))),(v30++([x45]:(List Nat)))),(g54,a55,a56,a57,a58)) hm ⟨ha59,ht60,O⟩
       .refine gX ?_;exact jx (((v26++([(⟨x20,(LQ v31)⟩:LnZ)]:(List LnZ))),v30),(g49,a50,a27,a28,a29)) hm ⟨ha32,ht33,O⟩
     .clear hm;rintro⟨⟨v37,v41⟩,⟨a35,a36,a38,a39,a40⟩⟩ base h hm ⟨ha42,ht43,O⟩;refine gX ?_;refine aJ hm λhm=>?_;refine gH ?_;exact jx ((v37,v41,(v31+1)),(a35,a36,a38,a39,a40)) hm ⟨ha42,ht43,O⟩
    .refine gX ?_;exact jx ((v26,v30),(a24,a25,a27,a28,a29)) hm ⟨ha32,ht33,O⟩
  .refine gX ?_;exact jx (v12,(a10,a11)) hm (O.sel [0] (by decide))
 .clear hm;rintro⟨v8,⟨a6,a7⟩⟩ base h hm O;refine gX ?_;obtain⟨hp61,hm⟩:=hm;exact⟨v8,some a6,hm,O.Jg (.head _) (λ_=>rfl) rfl hp61,(λe=>nomatch e),IV hp61,O.sel [0] (by decide)⟩
theorem sB{p0:Circ}{p1:(List Nat)}{p2:(List Nat)}{p3:Nat}{K:(List LnZ)->Prop}(hm:eQ p0 p1 p2 p3 K){h0:Heap}(hB:aH vars h0):∃r,K r/\al Tryz.prog NG 88 ⟨[az p0,(ae 1 n8) p1,(ae 1 i64) p2,i64 p3]⟩ h0 ((ae 2 av) r) h0 :=
 J8 (sb hm hB) (fk Tryz.func88) (λr=>cg (λ_=>pC _)) (λr a h1 h3 O F ha h2=>O.jP F (LV _) (.head _) ha (λ_=>rfl))
def cV(p0:Circ)(p1:Pat)(K:(List LnZ)->Prop):Prop :=
 dw p0 p1 (λr2=>fy p0 (λr5=>aw (α:=(List LnZ)) (λk10=>aF (S:=((List LnZ)×Nat)) (λ(v12,v13) nx15=>((ltN v13 p0.nodes.length)=true->aw (α:=(List LnZ)) (λk19=>fu p0.outs v13 (λr20=>aw (α:=Bool) (λk23=>aw (α:=Bool) (λk26=>((!r20)=true->∃x27,r5.2[v13]?=some x27/\k26 (ltN 1 x27))/\((!r20)=false->k26 false)) (λv24=>(v24=true->∃x28,r2.2.1[v13]?=some x28/\cY x28 (λr29=>dY p0 (⟨0,(⟨v13,(Mj 0)⟩:LnZ),r29,0⟩:Flt) p1 (λr30=>k23 r30.1)))/\(v24=false->k23 r20))) (λv21=>aw (α:=((List LnZ)×Bool)) (λk35=>∃x36,r5.1[v13]?=some x36/\aF (S:=((List LnZ)×Bool×Nat)) (λ(v38,v39,v40) nx42=>((ltN v40 x36.length)=true->aw (α:=((List LnZ)×Bool)) (λk47=>∃x48,x36[v40]?=some x48/\∃x51,p0.nodes[x48.node]?=some x51/\((eqN x51.kind 14)=true->(v38.length+([x48]:(List LnZ)).length)*16<=2^47/\k47 ((v38++([x48]:(List LnZ))),true))/\((eqN x51.kind 14)=false->k47 (v38,v39))) (λ(v44,v45)=>v40+1<2^63/\nx42 (v44,v45,(v40+1))))/\((ltN v40 x36.length)=false->k35 (v38,v39))) (v12,v21,0)) (λ(v32,v33)=>(v33=true->eQ p0 r2.2.1 r5.2 v13 (λr54=>(v32.length+r54.length)*16<=2^47/\k19 (v32++r54)))/\(v33=false->k19 v32))))) (λv17=>v13+1<2^63/\nx15 (v17,(v13+1))))/\((ltN v13 p0.nodes.length)=false->k10 v12)) (([]:List LnZ),0)) (λv8=>K v8)))
theorem oe{p0:Circ}{p1:Pat}{K:(List LnZ)->Prop}(hm:cV p0 p1 K){h0:Heap}(hB:aH vars h0):∃v h',al Tryz.prog NG 36 ⟨[az p0,aE p1]⟩ h0 v h'/\mz vars h0 K (λ(r:(List LnZ)) a=>ak 2 a (r.map av)) (λ(r:(List LnZ))=>r) av false v h':=by
 unfold cV at hm
 refine fg Tryz.func36 (Q:=mz vars h0 K (λ(r:(List LnZ)) a=>ak 2 a (r.map av)) (λ(r:(List LnZ))=>r) av false) ?_;have O:=Own.start hB;conv=>whnf
 refine gX ?_;refine fz ?_;refine gH ?_;refine fz ?_;refine gX ?_;have O:=O.aZ (.cells (ah ((([]:List LnZ)).map av)) false);refine ca (kf hm O.has) λr2 hm=>?_;refine gH ?_;refine O.new (aj (l:=[nS,nS]) rfl rfl rfl) λg3 h O=>?_;refine gH ?_;refine O.stC 2 (.head _) [((ae 1 n8) r2.1.out),((ae 1 n8) r2.1.next)] λh O=>?_;refine gX ?_;refine ca (sv hm O.has) λr5 hm=>?_;refine gH ?_
 apply Cs;conv=>whnf
 apply Cs;refine gH ?_;have O:=O.aZ (.cells (ah ((([]:List LnZ)).map av)) false);refine jn (σ:=(List LnZ)×Option Nat) hm 92 [] (λs=>s.1) (λ(v8,a7) h=>(a7=none->v8=[])/\Own vars h0 [(sM a7 av v8)] h) (λ(v8,a7)=>[(10,(ak 2 a7 (v8.map av)))]) (λhm=>?_) ?_
 .refine gX ?_;refine lw 92 [2,3,6,8,9,29] (σ:=((List LnZ)×Nat)×Option Nat) (λs=>s.1) (λ((v12,v13),a11) h=>(a11=none->v12=[])/\Own vars h0 [(sM a11 av v12)] h) (λ((v12,v13),a11)=>[(10,(ak 2 a11 (v12.map av))),(30,(i64 v13))]) ((([]:List LnZ),0),none) hm ⟨(λ_=>rfl),(O.sel [0] (by decide))⟩ ?_;clear hm;rintro⟨⟨v12,v13⟩,a11⟩ nx15 base h hm ⟨ha14,O⟩;refine gX ?_;refine br hm (λhm=>?_) λhm=>?_
  .apply Cs;conv=>whnf
   refine jn (σ:=(List LnZ)×Option Nat) hm 92 [2,3,6,8,9,29,30] (λs=>s.1) (λ(v17,a16) h=>(a16=none->v17=[])/\Own vars h0 [(sM a16 av v17)] h) (λ(v17,a16)=>[(10,(ak 2 a16 (v17.map av)))]) (λhm=>?_) ?_
   .refine gX ?_;refine ca (sn hm O.has) λr20 hm=>?_;refine gH ?_;refine jn hm 92 [2,3,6,8,9,10,11,29,30] (λs=>s) (λv21 h=>(a11=none->v12=[])/\Own vars h0 [(sM a11 av v12)] h) (λv21=>[(12,(.bool v21))]) (λhm=>?_) ?_
    .refine jn hm 92 [2,3,6,8,9,10,11,12,29,30] (λs=>s) (λv24 h=>(a11=none->v12=[])/\Own vars h0 [(sM a11 av v12)] h) (λv24=>[(45,(.bool v24))]) (λhm=>?_) ?_
     .refine gX ?_;refine br hm (λhm=>?_) λhm=>?_
      .refine gX ?_;refine atF hm λx27 hx27 hm=>?_;refine gH ?_;exact jx (ltN 1 x27) hm ⟨ha14,O⟩
      .refine gX ?_;exact jx false hm ⟨ha14,O⟩
     .clear hm;rintro v24 base h hm ⟨ha25,O⟩;refine gX ?_;refine br hm (λhm=>?_) λhm=>?_
      .refine gX ?_;refine dF ?_;refine gX ?_;refine atF hm λx28 hx28 hm=>?_;refine gH ?_;refine ca (dC hm O.has) λr29 hm=>?_;refine gH ?_;refine⟨.inl (Ext.refl _),?_⟩;refine gH ?_;refine dF ?_;refine gX ?_;refine ca (pW hm O.has) λr30 hm=>?_;refine gH ?_;refine⟨.inl (Ext.refl _),?_⟩;refine gH ?_;exact jx r30.1 hm ⟨ha25,O⟩
      .refine gX ?_;exact jx r20 hm ⟨ha25,O⟩
    .clear hm;rintro v21 base h hm ⟨ha22,O⟩
     conv=>whnf
     refine jn (σ:=((List LnZ)×Bool)×Option Nat) hm 92 [2,3,6,8,9,11,29,30] (λs=>s.1) (λ((v32,v33),a31) h=>(a31=none->v32=[])/\Own vars h0 [(sM a31 av v32)] h) (λ((v32,v33),a31)=>[(10,(ak 2 a31 (v32.map av))),(12,(.bool v33))]) (λhm=>?_) ?_
     .refine gX ?_;refine atF hm λx36 hx36 hm=>?_;refine gX ?_;refine lw 92 [2,3,6,8,9,11,29,30,63,64] (σ:=((List LnZ)×Bool×Nat)×Option Nat) (λs=>s.1) (λ((v38,v39,v40),a37) h=>(a37=none->v38=[])/\Own vars h0 [(sM a37 av v38)] h) (λ((v38,v39,v40),a37)=>[(10,(ak 2 a37 (v38.map av))),(12,(.bool v39)),(65,(i64 v40))]) ((v12,v21,0),a11) hm ⟨ha22,O⟩ ?_;clear hm;rintro⟨⟨v38,v39,v40⟩,a37⟩ nx42 base h hm ⟨ha41,O⟩;refine gX ?_;refine br hm (λhm=>?_) λhm=>?_
      .apply Cs;conv=>whnf
       refine jn (σ:=((List LnZ)×Bool)×Option Nat) hm 92 [2,3,6,8,9,11,29,30,63,64,65] (λs=>s.1) (λ((v44,v45),a43) h=>(a43=none->v44=[])/\Own vars h0 [(sM a43 av v44)] h) (λ((v44,v45),a43)=>[(10,(ak 2 a43 (v44.map av))),(12,(.bool v45))]) (λhm=>?_) ?_
       .refine gX ?_;refine atF hm λx48 hx48 hm=>?_;refine gH ?_;refine O.new (aj (l:=[(i64 0),(i64 0)]) rfl rfl rfl) λg49 h O=>?_;refine gH ?_;refine O.stC 2 (.head _) [(i64 x48.node),(z64 x48.pin)] λh O=>?_;refine gX ?_;refine atF hm λx51 hx51 hm=>?_;refine gX ?_;refine br hm (λhm=>?_) λhm=>?_
        .refine gX ?_;refine ldA O.i0 ?_;refine gH ?_;refine fz ?_;refine gH ?_;refine O.apL (enc:=av) (l:=v38) (new:=([x48]:(List LnZ))) 2 (.tail _ (.head _)) ha41 hm λa52 h ha53 O hm=>?_;refine gX ?_;exact jx (((v38++([x48]:(List LnZ))),true),a52) hm ⟨ha53,(O.sel [1] (by decide))⟩
        .refine gX ?_;exact jx ((v38,v39),a37) hm ⟨ha41,(O.sel [1] (by decide))⟩
       .clear hm;rintro⟨⟨v44,v45⟩,a43⟩ base h hm ⟨ha46,O⟩;refine gX ?_;refine aJ hm λhm=>?_;refine gH ?_;exact jx ((v44,v45,(v40+1)),a43) hm ⟨ha46,O⟩
      .refine gX ?_;exact jx ((v38,v39),a37) hm ⟨ha41,O⟩
     .clear hm;rintro⟨⟨v32,v33⟩,a31⟩ base h hm ⟨ha34,O⟩;refine gX ?_;refine br hm (λhm=>?_) λhm=>?_
      .refine gX ?_;refine ca (sB hm O.has) λr54 hm=>?_;refine gH ?_;refine O.apL (enc:=av) (l:=v32) (new:=r54) 2 (.head _) ha34 hm λa55 h ha56 O hm=>?_;refine gH ?_;exact jx ((v32++r54),a55) hm ⟨ha56,O⟩
      .refine gX ?_;exact jx (v32,a31) hm ⟨ha34,O⟩
   .clear hm;rintro⟨v17,a16⟩ base h hm ⟨ha18,O⟩;refine gX ?_;refine aJ hm λhm=>?_;refine gH ?_;exact jx ((v17,(v13+1)),a16) hm ⟨ha18,O⟩
  .refine gX ?_;exact jx (v12,a11) hm ⟨ha14,O⟩
 .clear hm;rintro⟨v8,a7⟩ base h hm ⟨ha9,O⟩;refine gX ?_;exact⟨v8,a7,hm,VLe.refl _ _,ha9,(λe=>nomatch e),O.sel [0] (by decide)⟩
theorem oP{p0:Circ}{p1:Pat}{K:(List LnZ)->Prop}(hm:cV p0 p1 K){h0:Heap}(hB:aH vars h0):∃r,K r/\al Tryz.prog NG 36 ⟨[az p0,aE p1]⟩ h0 ((ae 2 av) r) h0 :=
 J8 (oe hm hB) (fk Tryz.func36) (λr=>cg (λ_=>pC _)) (λr a h1 h3 O F ha h2=>O.jP F (LV _) (.head _) ha (λ_=>rfl))
def cW(p0:Circ)(p1:(List Flt))(p2:Pat)(K:((List Bool)×Nat)->Prop):Prop :=
 fB p0 (λr1=>((neN r1 0)=true->K ([],r1))/\((neN r1 0)=false->((ltN 65536 p1.length)=true->K ([],3))/\((ltN 65536 p1.length)=false->aw (α:=Unit) (λk2=>aF (S:=Nat) (λv3 nx4=>((ltN v3 p1.length)=true->∃x5,p1[v3]?=some x5/\cG p0 x5 (λr8=>((neN r8 0)=true->K ([],r8))/\((neN r8 0)=false->((neN x5.model 0)=true->K ([],7))/\((neN x5.model 0)=false->v3+1<2^63/\nx4 (v3+1)))))/\((ltN v3 p1.length)=false->k2 ())) 0) (λ_=>fR p0 p2 (λr9=>((neN r9 0)=true->K ([],r9))/\((neN r9 0)=false->dw p0 p2 (λr10=>aw (α:=(List (LnZ×Bool))) (λk16=>cV p0 p2 (λr17=>aF (S:=((List (LnZ×Bool))×Nat)) (λ(v18,v19) nx20=>((ltN v19 r17.length)=true->∃x21,r17[v19]?=some x21/\v19+1<2^63/\nx20 ((gQ v18 x21 true),(v19+1)))/\((ltN v19 r17.length)=false->k16 v18)) (([]:List (LnZ×Bool)),0))) (λv15=>1*p1.length<=2^48/\p1.length<2^63/\aw (α:=(List Bool)) (λk27=>aF (S:=((List Bool)×Nat)) (λ(v28,v29) nx30=>((ltN v29 p1.length)=true->aw (α:=(List Bool)) (λk32=>∃x33,p1[v29]?=some x33/\aw (α:=Nat) (λk37=>((!ltI x33.line.pin (LQ 0))=true->∃x38,p0.nodes[x33.line.node]?=some x38/\∃j40:Nat,x33.line.pin=LQ j40/\∃x39,x38.ins[j40]?=some x39/\k37 x39)/\((!ltI x33.line.pin (LQ 0))=false->k37 x33.line.node)) (λv36=>(((bY v15 x33.line).getD false)=true->∃x41,r10.2.1[v36]?=some x41/\v29<p1.length/\∃x42,v28[v29]?=some x42/\k32 (v28.set v29 (neN x41 x33.value)))/\(((bY v15 x33.line).getD false)=false->v29<p1.length/\∃x43,v28[v29]?=some x43/\k32 (v28.set v29 false)))) (λv31=>v29+1<2^63/\nx30 (v31,(v29+1))))/\((ltN v29 p1.length)=false->k27 v28)) ((LY p1.length (false:Bool)),0)) (λv26=>p1.length=v26.length/\K (v26,0))))))))))
theorem od{p0:Circ}{p1:(List Flt)}{p2:Pat}{K:((List Bool)×Nat)->Prop}(hm:cW p0 p1 p2 K){h0:Heap}(hB:aH vars h0):∃v h',al Tryz.prog NG 11 ⟨[az p0,(ae 5 ay) p1,aE p2]⟩ h0 v h'/\mz vars h0 K (λ(r:((List Bool)×Nat)) a=>MD ⟨[ib a (r.1.map L0),i64 (r.2)]⟩) (λ(r:((List Bool)×Nat))=>r.1) L0 false v h':=by
 unfold cW at hm
 refine fg Tryz.func11 (Q:=mz vars h0 K (λ(r:((List Bool)×Nat)) a=>MD ⟨[ib a (r.1.map L0),i64 (r.2)]⟩) (λ(r:((List Bool)×Nat))=>r.1) L0 false) ?_;have O:=Own.start hB;conv=>whnf
 refine gX ?_;refine fz ?_;refine gH ?_;refine fz ?_;refine gX ?_;refine ca (su hm O.has) λr1 hm=>?_;refine gX ?_;refine br hm (λhm=>?_) λhm=>?_
 .refine gX ?_;have O:=O.aZ (.cells (ah (([]:(List Bool)).map L0)) false);exact⟨([],r1),none,hm,VLe.refl _ _,(λ_=>rfl),(λ_ _=>rfl),O.sel [0] (by decide)⟩
 .refine gX ?_;refine br hm (λhm=>?_) λhm=>?_
  .refine gX ?_;have O:=O.aZ (.cells (ah (([]:(List Bool)).map L0)) false);exact⟨([],3),none,hm,VLe.refl _ _,(λ_=>rfl),(λ_ _=>rfl),O.sel [0] (by decide)⟩
  .apply Cs;conv=>whnf
   refine jn hm 118 [1,3,5] (λs=>s) (λ_ h=>Own vars h0 [] h) (λ_=>[]) (λhm=>?_) ?_
   .refine gX ?_;refine lw 118 [1,3,5,31,32] (σ:=Nat) (λs=>s) (λv3 h=>Own vars h0 [] h) (λv3=>[(33,(i64 v3))]) 0 hm O ?_;clear hm;rintro v3 nx4 base h hm O;refine gX ?_;refine br hm (λhm=>?_) λhm=>?_
    .refine gX ?_;refine atF hm λx5 hx5 hm=>?_;refine gH ?_;refine O.new (aj (l:=[(n8 0),(i64 0),(i64 0),(n8 0),(i64 0)]) rfl rfl rfl) λg6 h O=>?_;refine gH ?_;refine O.stC 5 (.head _) [(n8 x5.model),(i64 x5.line.node),(z64 x5.line.pin),(n8 x5.value),(i64 x5.other)] λh O=>?_;refine gX ?_;refine ldA O.i0 ?_;refine gH ?_;refine ca (fJ hm O.has) λr8 hm=>?_;refine gX ?_;refine br hm (λhm=>?_) λhm=>?_
     .refine gX ?_;have O:=O.aZ (.cells (ah (([]:(List Bool)).map L0)) false);exact⟨([],r8),none,hm,VLe.refl _ _,(λ_=>rfl),(λ_ _=>rfl),O.sel [0] (by decide)⟩
     .refine gX ?_;refine br hm (λhm=>?_) λhm=>?_
      .refine gX ?_;have O:=O.aZ (.cells (ah (([]:(List Bool)).map L0)) false);exact⟨([],7),none,hm,VLe.refl _ _,(λ_=>rfl),(λ_ _=>rfl),O.sel [0] (by decide)⟩
      .refine gX ?_;refine aJ hm λhm=>?_;refine gH ?_;exact jx (v3+1) hm (O.sel [] (by decide))
    .refine gX ?_;exact jx () hm O
   .clear hm;rintro _ base h hm O;refine gX ?_;refine ca (tQ hm O.has) λr9 hm=>?_;refine gX ?_;refine br hm (λhm=>?_) λhm=>?_
    .refine gX ?_;have O:=O.aZ (.cells (ah (([]:(List Bool)).map L0)) false);exact⟨([],r9),none,hm,VLe.refl _ _,(λ_=>rfl),(λ_ _=>rfl),O.sel [0] (by decide)⟩
    .refine gX ?_;refine ca (kf hm O.has) λr10 hm=>?_;refine gH ?_;refine O.new (aj (l:=[nS,nS]) rfl rfl rfl) λg11 h O=>?_;refine gH ?_;refine O.stC 2 (.head _) [((ae 1 n8) r10.1.out),((ae 1 n8) r10.1.next)] λh O=>?_;refine gX ?_;refine O.new ((rfl:ew _ _ _=some (.map (aY av L0 ([]:List (LnZ×Bool))),λg=>.map (some g)))) λg13 h O=>?_;refine gH ?_;refine jn hm 118 [1,3,14,16] (λs=>s) (λv15 h=>Own vars h0 [((some g13),.map (aY av L0 v15))] h) (λv15=>[]) (λhm=>?_) ?_
     .refine gX ?_;refine ca (oP hm O.has) λr17 hm=>?_;refine gX ?_;refine lw 118 [1,3,14,16,63,64] (σ:=((List (LnZ×Bool))×Nat)) (λs=>s) (λ(v18,v19) h=>Own vars h0 [((some g13),.map (aY av L0 v18))] h) (λ(v18,v19)=>[(65,(i64 v19))]) (([]:List (LnZ×Bool)),0) hm (O.sel [0] (by decide)) ?_;clear hm;rintro⟨v18,v19⟩ nx20 base h hm O;refine gX ?_;refine br hm (λhm=>?_) λhm=>?_
      .refine gX ?_;refine atF hm λx21 hx21 hm=>?_;refine gH ?_;refine O.new (aj (l:=[(i64 0),(i64 0)]) rfl rfl rfl) λg22 h O=>?_;refine gH ?_;refine O.stC 2 (.head _) [(i64 x21.node),(z64 x21.pin)] λh O=>?_;refine gX ?_;refine ldA O.i0 ?_;refine gH ?_;refine O.nv (ek:=av) (ev:=L0) (m:=v18) (k:=x21) (v:=true) (.tail _ (.head _)) rfl rfl (by kernel_rfl) (jB rfl) rfl rfl rfl λh O=>?_;refine gX ?_;refine aJ hm λhm=>?_;refine gH ?_;exact jx ((gQ v18 x21 true),(v19+1)) hm (O.sel [1] (by decide))
      .refine gX ?_;exact jx v18 hm O
     .clear hm;rintro v15 base h hm O;refine gX ?_;refine O.mkL (enc:=L0) 1 1 false hm λg24 h O hm=>?_;refine gH ?_;refine jn hm 118 [19] (λs=>s) (λv26 h=>Own vars h0 [(sG g24 L0 v26)] h) (λv26=>[]) (λhm=>?_) ?_
      .refine gX ?_;refine lw 118 [3,14,16,19,75,76] (σ:=((List Bool)×Nat)) (λs=>s) (λ(v28,v29) h=>Own vars h0 [((some g13),.map (aY av L0 v15)),(sG g24 L0 v28)] h) (λ(v28,v29)=>[(77,(i64 v29))]) ((LY p1.length (false:Bool)),0) hm (O.sel [1,0] (by decide)) ?_;clear hm;rintro⟨v28,v29⟩ nx30 base h hm O;refine gX ?_;refine br hm (λhm=>?_) λhm=>?_
       .apply Cs;conv=>whnf
        refine jn hm 118 [3,14,16,19,75,76,77] (λs=>s) (λv31 h=>Own vars h0 [((some g13),.map (aY av L0 v15)),(sG g24 L0 v31)] h) (λv31=>[]) (λhm=>?_) ?_
        .refine gX ?_;refine atF hm λx33 hx33 hm=>?_;refine gH ?_;refine O.new (aj (l:=[(n8 0),(i64 0),(i64 0),(n8 0),(i64 0)]) rfl rfl rfl) λg34 h O=>?_;refine gH ?_;refine O.stC 5 (.head _) [(n8 x33.model),(i64 x33.line.node),(z64 x33.line.pin),(n8 x33.value),(i64 x33.other)] λh O=>?_;refine gH ?_
         apply Cs;conv=>whnf
         apply Cs;refine gH ?_;refine jn hm 118 [3,14,16,19,20,21,75,76,77] (λs=>s) (λv36 h=>Own vars h0 [((some g13),.map (aY av L0 v15)),(sG g24 L0 v28),(sC g34 [(n8 x33.model),(i64 x33.line.node),(z64 x33.line.pin),(n8 x33.value),(i64 x33.other)])] h) (λv36=>[(22,(i64 v36))]) (λhm=>?_) ?_
         .refine gX ?_;refine br hm (λhm=>?_) λhm=>?_
          .refine gX ?_;refine dF ?_;refine gX ?_;refine atF hm λx38 hx38 hm=>?_;refine gH ?_;refine dF ?_;refine gX ?_;obtain⟨j40,hz,x39,hx39,hm⟩:=hm;refine Jw (s:=1) (enc:=i64) (j:=j40) rfl rfl rfl (congrArg (Value.int .i64) hz) hx39 ?_;refine gH ?_;exact jx x39 hm (O.sel [1,2,0] (by decide))
          .refine gX ?_;exact jx x33.line.node hm (O.sel [1,2,0] (by decide))
         .clear hm;rintro v36 base h hm O;refine gX ?_;refine ldA O.i2 ?_;refine gH ?_
          first|refine⟨.inr (.inr (aM rfl O.i2 rfl rfl (lbE rfl) rfl)),?_⟩|refine⟨.inr (.inl (by kernel_rfl)),?_⟩
          refine gX ?_;refine⟨_,iD (ek:=av) (ev:=L0) (m:=v15) (k:=x33.line) (z:=false) rfl rfl rfl (by kernel_rfl) (by kernel_rfl) (jB rfl) O.i0 rfl rfl,?_⟩;refine gH ?_;refine br hm (λhm=>?_) λhm=>?_
          .refine gX ?_;refine atF hm λx41 hx41 hm=>?_;refine gH ?_;refine ix 1 hm λx42 hx42 hm=>?_;refine gH ?_;refine O.stE 1 (.tail _ (.head _)) hx42 (neN x41 x33.value) λh O=>?_;refine gH ?_;exact jx (v28.set v29 (neN x41 x33.value)) hm (O.sel [0,1] (by decide))
          .refine gX ?_;refine ix 1 hm λx43 hx43 hm=>?_;refine gH ?_;refine O.stE 1 (.tail _ (.head _)) hx43 false λh O=>?_;refine gH ?_;exact jx (v28.set v29 false) hm (O.sel [0,1] (by decide))
        .clear hm;rintro v31 base h hm O;refine gX ?_;refine aJ hm λhm=>?_;refine gH ?_;exact jx (v31,(v29+1)) hm O
       .refine gX ?_;exact jx v28 hm (O.sel [1] (by decide))
      .clear hm;rintro v26 base h hm O;refine gX ?_;obtain⟨hn44,hm⟩:=hm;exact⟨(v26,0),some g24,hm,VLe.of_eq (congrArg (λz=>MD ⟨[z,(i64 0)]⟩) (Jz (l:=v26) (enc:=L0) (g:=g24) hn44)),(λe=>nomatch e),(λe=>nomatch e),O.sel [0] (by decide)⟩
theorem oM{p0:Circ}{p1:(List Flt)}{p2:Pat}{K:((List Bool)×Nat)->Prop}(hm:cW p0 p1 p2 K){h0:Heap}(hB:aH vars h0):∃r,K r/\al Tryz.prog NG 11 ⟨[az p0,(ae 5 ay) p1,aE p2]⟩ h0 ((λ(r:((List Bool)×Nat))=>MD ⟨[(ae 1 L0) (r.1),i64 (r.2)]⟩) r) h0 :=
 J8 (od hm hB) (fk Tryz.func11) (λr=>aq.tup (ag.cons (cg (λ_=>ag.cons (aq.flat rfl) ag.nil)) (ag.cons (aq.flat rfl) (ag.nil)))) (λr a h1 h3 O F ha h2=>VLe.tup (LLe.cons (O.rn F (LV _) (.head _) ha (λ_=>rfl)) (LLe.cons (VLe.refl _ _) (LLe.nil _))))
def cA(p0:Circ)(p1:Nat)(K:Pat->Prop):Prop :=
 aw (α:=((List Nat)×Nat)) (λk13=>aF (S:=((List Nat)×Nat×Nat)) (λ(v15,v16,v17) nx19=>((ltN v17 p0.nodes.length)=true->aw (α:=((List Nat)×Nat)) (λk24=>∃x25,p0.nodes[v17]?=some x25/\((eqN x25.kind 0)=true->0<64/\(v16%64)<=63/\(v15.length+([(((p1/2^(v16%64))%2^1)%256)]:(List Nat)).length)*1<=2^47/\v16+1<2^64/\k24 ((v15++([(((p1/2^(v16%64))%2^1)%256)]:(List Nat))),(v16+1)))/\((eqN x25.kind 0)=false->k24 (v15,v16))) (λ(v21,v22)=>v17+1<2^63/\nx19 (v21,v22,(v17+1))))/\((ltN v17 p0.nodes.length)=false->k13 (v15,v16))) (([]:List Nat),0,0)) (λ(v10,v11)=>aw (α:=(List Nat)) (λk32=>aF (S:=((List Nat)×Nat×Nat)) (λ(v34,v35,v36) nx39=>((ltN v36 p0.nodes.length)=true->aw (α:=((List Nat)×Nat)) (λk45=>∃x46,p0.nodes[v36]?=some x46/\((eqN x46.kind 14)=true->0<64/\(v35%64)<=63/\(v34.length+([(((p1/2^(v35%64))%2^1)%256)]:(List Nat)).length)*1<=2^47/\v35+1<2^64/\k45 ((v34++([(((p1/2^(v35%64))%2^1)%256)]:(List Nat))),(v35+1)))/\((eqN x46.kind 14)=false->k45 (v34,v35))) (λ(v41,v42)=>v36+1<2^63/\nx39 (v41,v42,(v36+1))))/\((ltN v36 p0.nodes.length)=false->k32 v34)) (([]:List Nat),v11,0)) (λv29=>K (⟨v10,v29⟩:Pat)))
theorem mB{p0:Circ}{p1:Nat}{K:Pat->Prop}(hm:cA p0 p1 K){h0:Heap}(hB:aH vars h0):∃r,K r/\al Tryz.prog NG 7 ⟨[az p0,n64 p1]⟩ h0 (aE r) h0:=by
 unfold cA at hm
 refine fw Tryz.func7 hB (enc:=aE) (λr=>Gm _) λO=>?_;conv=>whnf
 refine gX ?_;refine fz ?_;refine gH ?_;have O:=O.aZ (.cells (ah ((([]:List Nat)).map n8)) false);have O:=O.aZ (.cells (ah ((([]:List Nat)).map n8)) false);refine O.new (aj (l:=[nS,nS]) rfl rfl rfl) λg1 h O=>?_;refine gH ?_;refine gX ?_;have O:=O.aZ (.cells (ah ((([]:List Nat)).map n8)) false);have O:=O.aZ (.cells (ah ((([]:List Nat)).map n8)) false);refine O.new (aj (l:=[nS,nS]) rfl rfl rfl) λg5 h O=>?_;refine gH ?_
 apply Cs;conv=>whnf
 apply Cs;refine gH ?_;refine jn (σ:=((List Nat)×Nat)×Option Nat) hm 64 [1,2,4,5] (λs=>s.1) (λ((v10,v11),a9) h=>(a9=none->v10=[])/\Own vars h0 [(sC g1 [(ak 1 none (([]:List Nat).map n8)),(ak 1 none (([]:List Nat).map n8))]),(sM none n8 ([]:List Nat)),(sM none n8 ([]:List Nat)),(sC g5 [(ak 1 a9 (v10.map n8)),(ak 1 none (([]:List Nat).map n8))]),(sM a9 n8 v10),(sM none n8 ([]:List Nat))] h) (λ((v10,v11),a9)=>[(6,(n64 v11))]) (λhm=>?_) ?_
 .refine gX ?_;refine lw 64 [1,2,4,5] (σ:=((List Nat)×Nat×Nat)×Option Nat) (λs=>s.1) (λ((v15,v16,v17),a14) h=>(a14=none->v15=[])/\Own vars h0 [(sC g1 [(ak 1 none (([]:List Nat).map n8)),(ak 1 none (([]:List Nat).map n8))]),(sM none n8 ([]:List Nat)),(sM none n8 ([]:List Nat)),(sC g5 [(ak 1 a14 (v15.map n8)),(ak 1 none (([]:List Nat).map n8))]),(sM a14 n8 v15),(sM none n8 ([]:List Nat))] h) (λ((v15,v16,v17),a14)=>[(6,(n64 v16)),(7,(i64 v17))]) ((([]:List Nat),0,0),none) hm ⟨(λ_=>rfl),(O.sel [3,5,4,0,2,1] (by decide))⟩ ?_;clear hm;rintro⟨⟨v15,v16,v17⟩,a14⟩ nx19 base h hm ⟨ha18,O⟩;refine gX ?_;refine br hm (λhm=>?_) λhm=>?_
  .apply Cs;conv=>whnf
   refine jn (σ:=((List Nat)×Nat)×Option Nat) hm 64 [1,2,4,5,7] (λs=>s.1) (λ((v21,v22),a20) h=>(a20=none->v21=[])/\Own vars h0 [(sC g1 [(ak 1 none (([]:List Nat).map n8)),(ak 1 none (([]:List Nat).map n8))]),(sM none n8 ([]:List Nat)),(sM none n8 ([]:List Nat)),(sC g5 [(ak 1 a20 (v21.map n8)),(ak 1 none (([]:List Nat).map n8))]),(sM a20 n8 v21),(sM none n8 ([]:List Nat))] h) (λ((v21,v22),a20)=>[(6,(n64 v22))]) (λhm=>?_) ?_
   .refine gX ?_;refine atF hm λx25 hx25 hm=>?_;refine gX ?_;refine br hm (λhm=>?_) λhm=>?_
    .refine gX ?_;refine ldO O.i3 ?_;refine gH ?_;refine AF hm λhm=>?_;refine gH ?_;refine CF hm λhm=>?_;refine gH ?_;refine Ag 1 1 ?_;refine gH ?_;refine aCw ?_;refine gH ?_;refine fz ?_;refine gH ?_;refine O.apL (enc:=n8) (l:=v15) (new:=([(((p1/2^(v16%64))%2^1)%256)]:(List Nat))) 1 (.tail _ (.tail _ (.tail _ (.tail _ (.head _))))) ha18 hm λa26 h ha27 O hm=>?_;refine gH ?_;refine O.stC 1 (.tail _ (.tail _ (.tail _ (.head _)))) [(ak 1 a26 ((v15++([(((p1/2^(v16%64))%2^1)%256)]:(List Nat))).map n8)),(ak 1 none (([]:List Nat).map n8))] λh O=>?_;refine gX ?_;refine⟨_,zu (a:=v16) (b:=1) rfl rfl hm.1,?_⟩;refine gH ?_;replace hm:=hm.2;exact jx (((v15++([(((p1/2^(v16%64))%2^1)%256)]:(List Nat))),(v16+1)),a26) hm ⟨ha27,O⟩
    .refine gX ?_;exact jx ((v15,v16),a14) hm ⟨ha18,O⟩
   .clear hm;rintro⟨⟨v21,v22⟩,a20⟩ base h hm ⟨ha23,O⟩;refine gX ?_;refine aJ hm λhm=>?_;refine gH ?_;exact jx ((v21,v22,(v17+1)),a20) hm ⟨ha23,O⟩
  .refine gX ?_;exact jx ((v15,v16),a14) hm ⟨ha18,O⟩
 .clear hm;rintro⟨⟨v10,v11⟩,a9⟩ base h hm ⟨ha12,O⟩
  conv=>whnf
  refine jn (σ:=(List Nat)×Option Nat) hm 64 [4,5] (λs=>s.1) (λ(v29,a28) h=>(a9=none->v10=[])/\(a28=none->v29=[])/\Own vars h0 [(sC g1 [(ak 1 none (([]:List Nat).map n8)),(ak 1 none (([]:List Nat).map n8))]),(sM none n8 ([]:List Nat)),(sM none n8 ([]:List Nat)),(sC g5 [(ak 1 a9 (v10.map n8)),(ak 1 a28 (v29.map n8))]),(sM a9 n8 v10),(sM a28 n8 v29)] h) (λ(v29,a28)=>[]) (λhm=>?_) ?_
  .refine gX ?_;refine lw 64 [1,2,4,5] (σ:=((List Nat)×Nat×Nat)×Option Nat) (λs=>s.1) (λ((v34,v35,v36),a33) h=>(a9=none->v10=[])/\(a33=none->v34=[])/\Own vars h0 [(sC g1 [(ak 1 none (([]:List Nat).map n8)),(ak 1 none (([]:List Nat).map n8))]),(sM none n8 ([]:List Nat)),(sM none n8 ([]:List Nat)),(sC g5 [(ak 1 a9 (v10.map n8)),(ak 1 a33 (v34.map n8))]),(sM a9 n8 v10),(sM a33 n8 v34)] h) (λ((v34,v35,v36),a33)=>[(6,(n64 v35)),(8,(i64 v36))]) ((([]:List Nat),v11,0),none) hm ⟨ha12,(λ_=>rfl),O⟩ ?_;clear hm;rintro⟨⟨v34,v35,v36⟩,a33⟩ nx39 base h hm ⟨ha37,ha38,O⟩;refine gX ?_;refine br hm (λhm=>?_) λhm=>?_
   .apply Cs;conv=>whnf
    refine jn (σ:=((List Nat)×Nat)×Option Nat) hm 64 [1,2,4,5,8] (λs=>s.1) (λ((v41,v42),a40) h=>(a9=none->v10=[])/\(a40=none->v41=[])/\Own vars h0 [(sC g1 [(ak 1 none (([]:List Nat).map n8)),(ak 1 none (([]:List Nat).map n8))]),(sM none n8 ([]:List Nat)),(sM none n8 ([]:List Nat)),(sC g5 [(ak 1 a9 (v10.map n8)),(ak 1 a40 (v41.map n8))]),(sM a9 n8 v10),(sM a40 n8 v41)] h) (λ((v41,v42),a40)=>[(6,(n64 v42))]) (λhm=>?_) ?_
    .refine gX ?_;refine atF hm λx46 hx46 hm=>?_;refine gX ?_;refine br hm (λhm=>?_) λhm=>?_
     .refine gX ?_;refine ldO O.i3 ?_;refine gH ?_;refine AF hm λhm=>?_;refine gH ?_;refine CF hm λhm=>?_;refine gH ?_;refine Ag 1 1 ?_;refine gH ?_;refine aCw ?_;refine gH ?_;refine fz ?_;refine gH ?_;refine O.apL (enc:=n8) (l:=v34) (new:=([(((p1/2^(v35%64))%2^1)%256)]:(List Nat))) 1 (.tail _ (.tail _ (.tail _ (.tail _ (.tail _ (.head _)))))) ha38 hm λa47 h ha48 O hm=>?_;refine gH ?_;refine O.stC 1 (.tail _ (.tail _ (.tail _ (.head _)))) [(ak 1 a9 (v10.map n8)),(ak 1 a47 ((v34++([(((p1/2^(v35%64))%2^1)%256)]:(List Nat))).map n8))] λh O=>?_;refine gX ?_;refine⟨_,zu (a:=v35) (b:=1) rfl rfl hm.1,?_⟩;refine gH ?_;replace hm:=hm.2;exact jx (((v34++([(((p1/2^(v35%64))%2^1)%256)]:(List Nat))),(v35+1)),a47) hm ⟨ha37,ha48,O⟩
     .refine gX ?_;exact jx ((v34,v35),a33) hm ⟨ha37,ha38,O⟩
    .clear hm;rintro⟨⟨v41,v42⟩,a40⟩ base h hm ⟨ha43,ha44,O⟩;refine gX ?_;refine aJ hm λhm=>?_;refine gH ?_;exact jx ((v41,v42,(v36+1)),a40) hm ⟨ha43,ha44,O⟩
   .refine gX ?_;exact jx (v34,a33) hm ⟨ha37,ha38,O⟩
  .clear hm;rintro⟨v29,a28⟩ base h hm ⟨ha30,ha31,O⟩;refine gX ?_;refine ldA O.i3 ?_;refine gH ?_;refine O.stC 2 (.head _) [(ak 1 a9 (v10.map n8)),(ak 1 a28 (v29.map n8))] λh O=>?_;refine gX ?_
   refine⟨_,aI rfl rfl O.i0 rfl rfl (lbE rfl) rfl,?_⟩;conv=>whnf
   exact⟨(⟨v10,v29⟩:Pat),hm,O.ext,λh2 F=>VLe.agg (LLe.cons (O.jP F (LV _) (.tail _ (.tail _ (.tail _ (.tail _ (.head _))))) ha30 (λ_=>rfl)) (LLe.cons (O.jP F (LV _) (.tail _ (.tail _ (.tail _ (.tail _ (.tail _ (.head _)))))) ha31 (λ_=>rfl)) (LLe.nil _)))⟩
theorem zQ{l:List Nat}{x:Nat}{K:Bool->Prop}(hl:l.length<2^60)(h:K (l.contains x)):fu l x K:=by
 unfold fu kT
 have hc:l.contains x=l.any λv=>x==v:=by rw[List.contains_eq_any_beq]
 rw[hc] at h;refine I7 (l:=l) (p:=λv=>x==v) (K:=λr=>K (!ltI r (LQ 0))) hl ?_ ?_ (λi e=>?_) (λe=>?_)
 .intro k i nx y hy a b;exact⟨λ_=>⟨y,hy,λe=>a (by simpa using cJ.1 e),λe=>b (by simpa using cF.1 e)⟩,λe=>absurd (ai hy) (by have:=bC.1 e;omega)⟩
 .intro k i nx hi hk;exact⟨λe=>absurd (aX.1 e) (by omega),λ_=>hk⟩
 .rw[G8];rw[BA.1 i e] at h;exact h
 .rw[BA.2 e] at h;exact h
theorem lQ{c:Circ}{m k j:Nat}:(⟨k,j⟩:Ln)∈bW c m↔(ct c k)[j]?=some m:=by
 unfold bW;rw[N8];constructor
 .rintro⟨⟨y,i⟩,h1,h2⟩;have h1:=OA.1 h1;unfold bR at h2;obtain⟨⟨a,b⟩,h3,h4⟩:=MP.1 h2;obtain⟨h5,h6⟩:=Nc.1 h3;have h7:=OA.1 h5;clear h5;dsimp only at h1 h4 h7 h6
  cases h4
  have h6:a=m:=by simpa using h6
  subst h6;rw[bk h1];exact h7
 .intro h;obtain⟨x,hx,hj⟩:=lB h;refine⟨⟨x,k⟩,OA.2 hx,?_⟩;unfold bR;exact MP.2 ⟨⟨m,j⟩,Nc.2 ⟨OA.2 hj,by simp⟩,rfl⟩
theorem E0(c:Circ)(m:Nat):(bW c m).Nodup:=by
 unfold bW;refine List.pairwise_flatMap.2 ⟨λp _=>?_,?_⟩
 .unfold bR;refine OU.2 (Ql _ ?_);refine Nv.2 λi j h1 h2 h3=>?_;simp only[RG];intro e;have:=congrArg Ln.pin e;simp only at this;omega
 .refine Nv.2 λi j h1 h2 h3=>?_;simp only[RG];intro x hx y hy e;unfold bR at hx hy;obtain⟨a,_,rfl⟩:=MP.1 hx;obtain⟨b,_,rfl⟩:=MP.1 hy;have:=congrArg Ln.node e;simp only at this;omega
def manyN(c:Circ)(m:Nat):Nat:=(bW c m).length+c.outs.count m
def xy(c:Circ):List Nat:=(Ma c.nodes.length).map (manyN c)
theorem wT{c:Circ}{m k j:Nat}(h:manyN c m=1)(hp:(ct c k)[j]?=some m):One c m k j:=by
 have hm:=lQ.2 hp;have hl:=NO hm;unfold manyN at h;refine⟨hp,λk' j' hp'=>?_,λho=>?_⟩
 .obtain⟨a,ha⟩:=P5.1 (show (bW c m).length=1 by omega);have h1:=lQ.2 hp';rw[ha,Mm] at hm h1;rw[<- hm] at h1;exact⟨congrArg Ln.node h1,congrArg Ln.pin h1⟩
 .have:=QJ.2 ho;omega
theorem xU{c:Circ}{m:Nat}(h:manyN c m=0):(∀k j:Nat,(ct c k)[j]?≠some m)/\m ∉ c.outs:=by
 unfold manyN at h;refine⟨λk j q=>?_,λq=>?_⟩
 .have:=NO (lQ.2 q);omega
 .have:=QJ.2 q;omega
theorem BU{c:Circ}{x:Nat}(h:x<c.nodes.length):(Ee c)[x]?=some ((bW c x).map Ln.toZ):=by
 unfold Ee;rw[L7,xB h];rfl
theorem Bz(c:Circ):(Ee c).length=c.nodes.length:=by unfold Ee pX;simp
theorem tI{c:Circ}{x:Nat}(h:x<c.nodes.length):(xy c)[x]?=some (manyN c x):=by
 unfold xy;rw[L7,M7 h];rfl
theorem Hl{l m:List Nat}(h1:l.length=m.length)(h:∀i,i<l.length->l.getD i 0=m.getD i 0):l=m:=by
 refine NY h1 λi a b=>?_;have:=h i a;rw[Mh,LU a,Mh,LU b] at this;exact this
theorem BY{c:Circ}(C:Cir c){K:List (List LnZ)×List Nat->Prop}(h:K (Ee c,xy c)):fy c K:=by
 have hlen:=C.len;have hol:=C.good.outsLen;unfold fy;refine⟨C.good.fanOk,by omega,by omega,?_⟩;refine aB (λs=>s.2<=c.nodes.length/\s.1.length=c.nodes.length/\∀i,i<s.2->s.1.getD i 0=(bW c i).length) (λs=>c.nodes.length-s.2) (λt=>t.length=c.nodes.length/\∀i,i<c.nodes.length->t.getD i 0=(bW c i).length) ?_ ⟨L1 _,by simp,λi hi=>absurd hi (Mu _)⟩ ?_
 .rintro k ⟨t,i⟩ nx ⟨hi,hl,hv⟩ hnx hk;dsimp only at hi hl hv;refine⟨λq=>?_,λq=>hk _ ⟨hl,λi' hi'=>hv i' ?_⟩⟩
  .have q:i<c.nodes.length:=by have:=aX.1 q;rwa [Bz] at this
   refine⟨_,BU q,q,_,kG hl q,by omega,hnx _ ⟨q,by simp[hl],λi' hi'=>?_⟩ (by dsimp only;omega)⟩;dsimp only;rw[bm (by omega)];by_cases e:i=i'
   .subst e;rw[if_pos rfl,LZ]
   .rw[if_neg e];exact hv i' (by dsimp only at hi';omega)
  .have q:c.nodes.length<=i:=by have:=bC.1 q;rwa [Bz] at this
   omega
 rintro t ⟨hl,hv⟩;refine aB (λs=>s.2<=c.outs.length/\s.1.length=c.nodes.length/\∀i,i<c.nodes.length->s.1.getD i 0=(bW c i).length+(c.outs.take s.2).count i) (λs=>c.outs.length-s.2) (λt=>t=xy c) ?_ ⟨L1 _,hl,λi hi=>by simpa using hv i hi⟩ ?_
 .rintro k ⟨t,i⟩ nx ⟨hi,hl,hv⟩ hnx hk;dsimp only at hi hl hv;refine⟨λq=>?_,λq=>hk _ ?_⟩
  .have q:i<c.outs.length:=aX.1 q;obtain⟨o,ho⟩:=aA q;have hon:o<c.nodes.length:=C.good.outs o (LS ho);have b1:(bW c o).length<=1000:=ze C.good hon;have b2:(c.outs.take i).count o<=16:=Mf List.count_le_length (by rw[L8];omega);have:=hv o hon;refine⟨o,ho,hon,_,kG hl hon,by omega,hon,_,kG hl hon,by omega,hnx _ ⟨q,by simp[hl],λi' hi'=>?_⟩ (by dsimp only;omega)⟩;dsimp only;rw[bm (by omega),lS ho,List.count_append,List.count_singleton];by_cases e:o=i'
   .subst e;rw[if_pos rfl,this];simp;omega
   .rw[if_neg e,hv i' hi'];simp[e]
  .have q:c.outs.length<=i:=bC.1 q;refine Hl (by unfold xy;simp[hl]) λi' hi'=>?_;rw[Mc q] at hv;rw[hl] at hi';rw[hv i' hi',Mh,tI hi'];rfl
 .rintro _ rfl;exact⟨by unfold xy;simp,h⟩
theorem Eg{c:Circ}(P:Plz c){K:Nat->Prop}(h:K 0):fB c K:=by
 have C:=P.cir;have hlen:=C.len;unfold fB;refine rX C ⟨(λq=>absurd rfl (dm.1 q)),λ_=>AW (by omega) (by decide) ⟨λq=>?_,λ_=>h⟩⟩
 have:ofN c [12,13]=[]:=by
  refine Qf.2 λi m=>?_;unfold ofN at m;obtain⟨h1,h2⟩:=Nc.1 m;have h1:=Mx.1 h1;obtain⟨x,hx⟩:=aA h1;have e:(c.nodes.map Node.kind).getD i 0=x.kind:=dk hx;rw[e] at h2;have:=P.kinds i x hx;simp at h2;omega
 rw[this] at q;exact absurd (aX.1 q) (Mu _)
theorem BJ{l:List Nat}{K:Bool->Prop}(hl:l.length<2^60)(hv:∀v∈l,v<=1)(h:K false):dy l K:=by
 unfold dy fO;refine mj (l:=l) ?_ ?_ h
 .intro k i nx x hx hi hn;have hv:=hv x (LS hx);refine⟨λ_=>⟨x,hx,xi ?_⟩,λq=>?_⟩
  .rw[decide_eq_true hv];exact⟨(λe=>by cases e),λ_=>⟨by omega,hn⟩⟩
  .have:=bC.1 q;omega
 .intro k i nx hi hk;refine⟨λq=>?_,λ_=>hk⟩;have:=aX.1 q;omega
theorem HJ{c:Circ}(C:Cir c){p:Pat}(F:Full c p){K:Nat->Prop}(h:K 0):fR c p K:=by
 have hlen:=C.len;have l1:=cD c [0];have l2:=cD c [14];have h1:=F.pat.inp;have h2:=F.pat.state;unfold fR;refine ng C F.pat ⟨(λq=>absurd rfl (dm.1 q)),λ_=>?_⟩;exact cQ (a:=false) (λG=>BJ (by omega) F.inp ⟨(λe=>by cases e),λ_=>BJ (by omega) F.state G⟩) ⟨(λe=>by cases e),λ_=>h⟩
def tJ(t ins:List Nat)(j:Nat):List Nat:=ins.mapIdx λi y=>if i=j then gz (t.getD y 0) else t.getD y 0
def pP(c:Circ)(t:List Nat)(k j:Nat):Bool:=neN (fN (kd c k) (tJ t (ct c k) j)) (t.getD k 0)
def ky(c:Circ)(p:Pat)(m:Nat):Bool:=xF c p m (gz ((cn c p).getD m 0))
def wM(c:Circ)(p:Pat)(k j:Nat):Bool:=EF c p k j (gz ((cn c p).getD ((ct c k).getD j 0) 0))
def lZ(c:Circ)(l:LnZ):Nat:=if l.pin<0 then l.node else (ct c l.node).getD l.pin.toNat 0
theorem Ea(c:Circ)(m:Nat):lZ c ⟨m,Mj 0⟩=m:=by
 unfold lZ;dsimp only;rw[if_pos (show Mj 0<0 by decide)]
theorem yC(c:Circ)(k j:Nat):lZ c ⟨k,LQ j⟩=(ct c k).getD j 0:=by
 have h:¬ (LQ j<0):=Rg.2 (MN j);unfold lZ;dsimp only;rw[if_neg h];rfl
def py(c:Circ)(p:Pat)(l:LnZ):Bool:=jf c p ⟨0,l,gz ((cn c p).getD (lZ c l) 0),0⟩
theorem yM(c:Circ)(p:Pat)(m:Nat):py c p ⟨m,Mj 0⟩=ky c p m:=by
 unfold py;rw[zl];rfl
theorem sV(c:Circ)(p:Pat)(k j:Nat):py c p ⟨k,LQ j⟩=wM c p k j:=by
 unfold py;rw[Dd];rw[yC];rfl
theorem GH{t:List Nat}{k j y:Nat}{x:Node}(hj:x.ins[j]?=some y):cO (ij k (LQ j) (gz (t.getD y 0))) t k x=tJ t x.ins j:=by
 unfold cO tJ;refine NY (by simp) λa b d=>?_;simp only[OB];unfold ij
 have ha:a<x.ins.length:=by simpa using b
 by_cases e:a=j
 .subst e;rw[LU ha] at hj
  cases hj
  rw[if_pos ⟨rfl,rfl⟩,if_pos rfl]
 .rw[if_neg e,if_neg];rintro⟨_,q⟩;exact e (QX q)
theorem getD_eq{l:List Nat}{j y:Nat}(h:l[j]?=some y):l.getD j 0=y:=by rw[Mh,h];rfl
theorem kx{v:Nat}(h:v<=1):gz v=1-v:=by unfold gz;rw[if_pos h]
theorem tf(v:Nat):gz v<=3:=by unfold gz;split <;> omega
theorem Kz{c:Circ}(P:Plz c){p:Pat}(F:Full c p){k j:Nat}{x:Node}(hx:c.nodes[k]?=some x)(hc:cw x.kind=true):fN x.kind (tJ (cn c p) x.ins j)<=1:=by
 have hc':=of_decide_eq_true hc;have:=P.kinds k x hx;unfold fN;rw[if_neg (by omega),if_neg (by omega)];refine tK hc'.1 (by omega) λv hv=>?_;unfold tJ at hv;rw[Qp] at hv;obtain⟨a,ha,rfl⟩:=hv;have:=qb P F x.ins[a];split
 .rw[kx this];omega
 .exact this
theorem nH{c:Circ}(P:Plz c){p:Pat}(F:Full c p){k j y:Nat}{x:Node}(hx:c.nodes[k]?=some x)(hc:cw x.kind=true)(hj:x.ins[j]?=some y):wM c p k j=(pP c (cn c p) k j&&ky c p k):=by
 have C:=P.cir;have hp:=F.pat
 have e1:(ct c k).getD j 0=y:=by rw[bk hx];exact getD_eq hj
 have hu:=Kz P F (j:=j) hx hc;have hv:=qb P F k;unfold wM ky pP;rw[e1,Bs C hp (tf _) hx hc,GH hj,dk hx,bk hx];by_cases e:fN x.kind (tJ (cn c p) x.ins j)=(cn c p).getD k 0
 .rw[e,th C hp,qS.2 rfl];rfl
 .have:fN x.kind (tJ (cn c p) x.ins j)=gz ((cn c p).getD k 0):=by rw[kx hv];omega
  rw[dm.2 e,this,OX]
theorem De{v:Nat}(h:v<=1):Con v (gz v):=by rw[kx h];exact⟨h,by omega,by omega⟩
theorem EA{c:Circ}(P:Plz c){p:Pat}(F:Full c p){k j:Nat}{x:Node}(hx:c.nodes[k]?=some x)(hk:x.kind=14)(hj:j<x.ins.length):wM c p k j=true:=by
 have C:=P.cir;obtain⟨y,hy,_,hd,hl⟩:=nB C (c:=c) (s:=k) (bK.2 ⟨ai hx,by rw[dk hx];exact hk⟩);rw[hx] at hy;cases hy
 have j0:j=0:=by omega
 subst j0;have hv:=qb P F (dOf c k);have e:(ct c k).getD 0 0=dOf c k:=rfl;unfold wM;rw[e,qK C F.pat (tf _) hx hk,decide_eq_true_eq,kx hv];exact⟨by omega,by omega,by omega⟩
theorem Ec{c:Circ}(P:Plz c){p:Pat}(F:Full c p){m:Nat}(h:m∈c.outs):ky c p m=true :=
 Io P.cir F.pat (tf _) (P.cir.good.outs m h) h (De (qb P F m))
theorem DW{c:Circ}(P:Plz c){p:Pat}(F:Full c p){k j m:Nat}(hk:kd c k=14)(h:(ct c k)[j]?=some m):ky c p m=true:=by
 have C:=P.cir;obtain⟨x,hx,hj⟩:=lB h;have hs:k∈ofN c [14]:=bK.2 ⟨ai hx,hk⟩;obtain⟨y,hy,_,hd,hl⟩:=nB C hs;rw[hx] at hy;cases hy
 have j0:j=0:=by have:=ai hj;omega
 subst j0;rw[hd] at h
 cases h
 exact EH C F.pat (tf _) hs (De (qb P F _))
theorem xZ{c:Circ}(P:Plz c){p:Pat}(F:Full c p){m k j:Nat}(h:One c m k j)(hm:m<c.nodes.length):ky c p m=wM c p k j:=by
 unfold ky wM;rw[getD_eq h.pin];exact I5 P.cir F.pat (tf _) h hm
theorem CH{c:Circ}(P:Plz c){p:Pat}(F:Full c p){m:Nat}(h:manyN c m=0)(hm:m<c.nodes.length):ky c p m=false :=
 F6 P.cir F.pat (tf _) hm (xU h).1 (xU h).2
theorem rZ{c:Circ}(P:Plz c){k j m:Nat}{x:Node}(hx:c.nodes[k]?=some x)(hj:x.ins[j]?=some m)(hk:x.kind≠14):cw x.kind=true:=by
 refine decide_eq_true ?_;have:=P.cir.kinds k x hx;by_cases e:x.kind=0
 .have ha:=(P.cir.good.node k x hx).arity;rw[e] at ha
  have:hiZ 0=0:=by decide
  have q:=ha.2;rw[this] at q;have:=ai hj;simp only[L4] at q;omega
 .omega
inductive Rch (c:Circ) (t:List Nat) (s:Nat):Nat->Prop
 |base:Rch c t s s
 |step {k j m:Nat} {x:Node}:Rch c t s k->c.nodes[k]?=some x->cw x.kind=true->x.ins[j]?=some m->pP c t k j=true->manyN c m=1->Rch c t s m
def iN(c:Circ)(p:Pat)(n:Nat):Bool:=(c.outs.contains n||(decide (1<manyN c n)&&ky c p n))||(bW c n).any λl=>kd c l.node==14
def InW(c:Circ)(t:List Nat)(s:Nat)(l:LnZ):Prop:=Rch c t s l.node/\(l.pin=Mj 0\/∃j x,l.pin=LQ j/\c.nodes[l.node]?=some x/\cw x.kind=true/\j<x.ins.length/\pP c t l.node j=true)
theorem Rch.le{c:Circ}(C:Cir c){t:List Nat}{s m:Nat}(h:Rch c t s m):m<=s:=by
 induction h with
 |base=>exact LV _
 |step _ hx hc hj _ _ ih=>have:=nQ C hx hc (LS hj);omega
theorem Rch.lt{c:Circ}(C:Cir c){t:List Nat}{s m:Nat}(hs:s<c.nodes.length)(h:Rch c t s m):m<c.nodes.length:=Nat.lt_of_le_of_lt (h.le C) hs
theorem yn{c:Circ}{p:Pat}{k j m:Nat}{x:Node}(hx:c.nodes[k]?=some x)(hc:cw x.kind=true)(hj:x.ins[j]?=some m)(h1:manyN c m=1):iN c p m=false:=by
 have o:=wT h1 (by rw[bk hx];exact hj);unfold iN
 have a1:c.outs.contains m=false:=by
  rw[P7];intro q;exact o.outs (Ok.1 q)
 have a2:(bW c m).any (λl=>kd c l.node==14)=false:=by
  rw[List.any_eq_false];rintro⟨a,b⟩ hm q
  have q:kd c a=14:=by simpa using q
  obtain⟨rfl,rfl⟩:=o.only a b (lQ.1 hm);rw[dk hx] at q;have:=of_decide_eq_true hc;omega
 rw[a1,a2,h1];rfl
theorem Rch.uniq{c:Circ}{p:Pat}{t:List Nat}{s s' m:Nat}(hs:iN c p s=true)(hs':iN c p s'=true)(h:Rch c t s m):Rch c t s' m->s=s':=by
 induction h with
 |base =>
  intro h'
  cases h' with
  |base=>rfl
  |step _ hx hc hj _ h1=>rw[yn hx hc hj h1] at hs;cases hs
 |step hr hx hc hj _ h1 ih =>
  intro h'
  cases h' with
  |base=>rw[yn hx hc hj h1] at hs';cases hs'
  |step hr' hx' hc' hj' _ _ =>
   have o:=wT h1 (by rw[bk hx];exact hj);have:=(o.only _ _ (by rw[bk hx'];exact hj')).1;subst this;exact ih hr'
theorem Ca{c:Circ}(P:Plz c){p:Pat}(F:Full c p){s:Nat}(h:iN c p s=true):ky c p s=true:=by
 unfold iN at h;rw[NX,NX,L9] at h
 rcases h with (h|h) | h
 .exact Ec P F (Ok.1 h)
 .exact h.2
 .obtain⟨⟨a,b⟩,hm,q⟩:=O9.1 h;exact DW P F (by simpa using q) (lQ.1 hm)
theorem Rch.Ly{c:Circ}(P:Plz c){p:Pat}(F:Full c p){s m:Nat}(hs:ky c p s=true)(h:Rch c (cn c p) s m):ky c p m=true:=by
 induction h with
 |base=>exact hs
 |step hr hx hc hj hg h1 ih =>
  have o:=wT h1 (by rw[bk hx];exact hj);have hm:=(P.cir.good.node _ _ hx).ins _ (LS hj);rw[xZ P F o hm,nH P F hx hc hj,hg,ih];rfl
theorem vx{c:Circ}(P:Plz c){p:Pat}(F:Full c p):∀n m,m<c.nodes.length->c.nodes.length-m<=n->ky c p m=true->∃s,s<c.nodes.length/\iN c p s=true/\Rch c (cn c p) s m:=by
 have C:=P.cir;intro n
 induction n with
 |zero=>intro m h1 h2;omega
 |succ n ih =>
  intro m hm hn hcr;by_cases hs:iN c p m=true
  .exact⟨m,hm,hs,.base⟩
  have hs0:=hs;unfold iN at hs;rw[NX,NX,L9,not_or,not_or] at hs;obtain⟨⟨a1,a2⟩,a3⟩:=hs;have h1:¬ 1<manyN c m:=λq=>a2 ⟨decide_eq_true q,hcr⟩
  have h0:manyN c m≠0:=λq=>by rw[CH P F q hm] at hcr;cases hcr
  have h1:manyN c m=1:=by omega
  have ho:m ∉ c.outs:=λq=>a1 (Ok.2 q)
  have hf:(bW c m).length=1:=by
   unfold manyN at h1;rw[List.count_eq_zero.2 ho] at h1;exact h1
  obtain⟨⟨k,j⟩,hl⟩:=P5.1 hf
  have hmem:(⟨k,j⟩:Ln)∈bW c m:=by rw[hl];exact .head _
  have hpin:=lQ.1 hmem;obtain⟨x,hx,hj⟩:=lB hpin;have hk:x.kind≠14:=λq=>a3 (O9.2 ⟨_,hmem,by rw[dk hx,q];rfl⟩);have hc:=rZ P hx hj hk;have o:=wT h1 hpin;have:=nQ C hx hc (LS hj);rw[xZ P F o hm,nH P F hx hc hj,L9] at hcr;obtain⟨s,hsn,hss,hr⟩:=ih k (ai hx) (by omega) hcr.2;exact⟨s,hsn,hss,hr.step hx hc hj hcr.1 h1⟩
def wV(c:Circ)(p:Pat)(m:Nat)(l:LnZ):Prop:=(l∈(bW c m).map Ln.toZ/\kd c l.node=14)\/(iN c p m=true/\InW c (cn c p) m l)
theorem pD{c:Circ}{m:Nat}{l:LnZ}:l∈(bW c m).map Ln.toZ ↔ ∃j,l.pin=LQ j/\(ct c l.node)[j]?=some m:=by
 rw[MP];constructor
 .rintro⟨⟨a,b⟩,h,rfl⟩;exact⟨b,rfl,lQ.1 h⟩
 .rintro⟨j,h1,h2⟩;refine⟨⟨l.node,j⟩,lQ.2 h2,?_⟩;obtain⟨a,b⟩:=l;dsimp only at h1;subst h1;rfl
theorem yb{c:Circ}{p:Pat}{m m':Nat}{l:LnZ}(h:wV c p m l)(h':wV c p m' l):m=m':=by
 have mix:∀{a b:Nat},(l∈(bW c a).map Ln.toZ/\kd c l.node=14)->InW c (cn c p) b l->False:=by
  rintro a b ⟨h1,h2⟩ ⟨_,h3⟩;obtain⟨j,e,_⟩:=pD.1 h1
  rcases h3 with h3|⟨j',x,h3,hx,hc,_⟩
  .rw[e] at h3;cases h3
  .rw[dk hx] at h2;have:=of_decide_eq_true hc;omega
 rcases h with⟨h1,h2⟩|⟨h1,h2⟩ <;> rcases h' with⟨h3,h4⟩|⟨h3,h4⟩
 .obtain⟨j,e,g⟩:=pD.1 h1;obtain⟨j',e',g'⟩:=pD.1 h3;rw[e] at e'
  cases e'
  rw[g] at g';exact Ni g'
 .exact (mix ⟨h1,h2⟩ h4).elim
 .exact (mix ⟨h3,h4⟩ h2).elim
 .exact Rch.uniq h1 h3 h2.1 h4.1
theorem F7{c:Circ}(P:Plz c){p:Pat}(_F:Full c p){s:Nat}{l:LnZ}(hs:s<c.nodes.length)(h:InW c (cn c p) s l):l∈fH c:=by
 obtain⟨h1,h2⟩:=h;refine iq.2 ⟨h1.lt P.cir hs,?_⟩
 rcases h2 with h2|⟨j,x,h2,hx,_,hj,_⟩
 .exact .inl h2
 .exact .inr ⟨j,h2,by rw[bk hx];exact hj⟩
theorem yz{c:Circ}(P:Plz c){p:Pat}(F:Full c p){l:LnZ}:(∃m,m<c.nodes.length/\wV c p m l)↔l∈fH c/\py c p l=true:=by
 have C:=P.cir;constructor
 .rintro⟨m,hm,h⟩
  rcases h with⟨h1,h2⟩|⟨h1,h2⟩
  .obtain⟨j,e,g⟩:=pD.1 h1;obtain⟨x,hx,hj⟩:=lB g;rw[dk hx] at h2;have hl:=ai hj;refine⟨iq.2 ⟨ai hx,.inr ⟨j,e,by rw[bk hx];exact hl⟩⟩,?_⟩;obtain⟨a,b⟩:=l;dsimp only at e;subst e;rw[sV];exact EA P F hx h2 hl
  .refine⟨F7 P F hm h2,?_⟩;obtain⟨h3,h4⟩:=h2;have hcr:=Rch.Ly P F (Ca P F h1) h3;obtain⟨a,b⟩:=l;dsimp only at h3 h4 hcr
   rcases h4 with rfl|⟨j,x,rfl,hx,hc,hj,hg⟩
   .rw[yM];exact hcr
   .obtain⟨y,hy⟩:=aA hj;rw[sV,nH P F hx hc hy,hg,hcr];rfl
 .rintro⟨h1,h2⟩;obtain⟨h3,h4⟩:=iq.1 h1;obtain⟨a,b⟩:=l;dsimp only at h3 h4
  rcases h4 with rfl|⟨j,rfl,hj⟩
  .rw[yM] at h2;obtain⟨s,hs,hss,hr⟩:=vx P F _ a h3 (LV _) h2;exact⟨s,hs,.inr ⟨hss,hr,.inl rfl⟩⟩
  .obtain⟨x,hx⟩:=aA h3;rw[bk hx] at hj;obtain⟨y,hy⟩:=aA hj;by_cases hk:x.kind=14
   .have hyn:=(C.good.node a x hx).ins y (LS hy);exact⟨y,hyn,.inl ⟨pD.2 ⟨j,rfl,by rw[bk hx];exact hy⟩,by rw[dk hx];exact hk⟩⟩
   .have hc:=rZ P hx hy hk;rw[sV,nH P F hx hc hy,L9] at h2;obtain⟨s,hs,hss,hr⟩:=vx P F _ a h3 (LV _) h2.2;exact⟨s,hs,.inr ⟨hss,hr,.inr ⟨j,x,rfl,hx,hc,hj,h2.1⟩⟩⟩
def Bj(c:Circ)(p:Pat)(l:List Flt)(n i:Nat):Prop:=∃f,l[i]?=some f/\(jV c p f).getD n 0≠(cn c p).getD n 0
def evM(x:Mach)(n:Nat)(y:Node)(i:Nat):Nat:=fN y.kind (inB x n i y)
theorem vd{c:Circ}(C:Cir c){n:Nat}{y:Node}(hy:c.nodes[n]?=some y)(h:vC y.kind):cw y.kind=true:=by
 have:=C.kinds n y hy;have h1:=h.1;have h2:=h.2;exact decide_eq_true ⟨by omega,by omega⟩
section
variable {c:Circ} {p:Pat} {l:List Flt} {x:Mach}
theorem Ho(P:Plz c)(F:Full c p)(hl:∀f∈l,StuckOk c f)(xc:x.c=c)(xl:x.l=l)(xn:x.nets=cn c p){n i:Nat}{y:Node}{f:Flt}(hy:c.nodes[n]?=some y)(hf:l[i]?=some f)(hS:∀m∈y.ins,IsSet (x.S m) (Bj c p l m)):inB x n i y=cO (pnF f) (jV c p f) n y:=by
 have S:=hl f (LS hf);have hv:=S.value;unfold inB cO;apply MH;intro j;rw[Nz,Nz]
 cases hj:y.ins[j]? with
 |none=>rfl
 |some m =>
  have vb:=qb P F m;have ub:=GB P F S m
  show some (if chB x n j i=true then gz (x.nets.getD m 0) else x.nets.getD m 0)=some (pnF f n j ((jV c p f).getD m 0))
  congr 1;rw[xn];unfold chB;rw[xc,xl];simp only[hy,hj,hf];by_cases e:f.line=⟨n,LQ j⟩
  .have e1:f.line.node=n:=by rw[e]
   have e2:f.line.pin=LQ j:=by rw[e]
   have r:pnF f n j ((jV c p f).getD m 0)=f.value:=by
    unfold pnF ij;rw[if_neg (by rw[e2];simp only[L4];omega)];exact if_pos ⟨e1.symm,e2.symm⟩
   rw[if_pos e,r,xn];by_cases q:f.value=(cn c p).getD m 0
   .rw[if_neg (by simp[q]),q]
   .rw[if_pos (decide_eq_true q),kx vb];omega
  .have r:pnF f n j ((jV c p f).getD m 0)=(jV c p f).getD m 0:=by
    unfold pnF ij idP;split
    .rfl
    .refine if_neg λq=>e ?_
     cases hq:f.line with
     |mk a b=>rw[hq] at q;rw[q.1,q.2]
   rw[if_neg e,r];have g:=(hS m (LS hj)).get i;by_cases q:(jV c p f).getD m 0=(cn c p).getD m 0
   .have:¬ Bj c p l m i:=by
     rintro⟨f2,h2,h3⟩;rw[hf] at h2;cases h2;exact h3 q
    rw[if_neg λw=>this (g.1 w),q]
   .rw[if_pos (g.2 ⟨f,hf,q⟩),kx vb];omega
theorem Jn(P:Plz c)(F:Full c p)(hl:∀f∈l,StuckOk c f):Cd c l (cn c p) (Bj c p l) evM:=by
 intro x n y xc xl xn FL hy hS;have C:=P.cir
 have stem:∀i∈bS x.mA (nU n),vC y.kind->¬ jv x (Bj c p l) n y y.ins.length i:=by
  intro i hi hk hs;obtain⟨f,hf,he⟩:=FL.lt hi;have S:=hl f (LS hf)
  rcases hs with⟨j,hj,m,hm,f2,h2,h3⟩|⟨j,hj,h⟩
  .rw[hf] at h2;cases h2;have:=nQ C hy (vd C hy hk) (LS hm);exact h3 (La C F.pat S m (by rw[he];exact this))
  .obtain⟨f2,h2,h3⟩:=FL.lt h;rw[hf] at h2;cases h2;rw[he] at h3
   cases h3
 refine⟨λhk i hi=>⟨?_,?_⟩,stem,λi=>⟨?_,?_⟩⟩
 .rcases hi with⟨j,hj,m,hm,f,hf,_⟩|⟨j,hj,h⟩
  .exact⟨f,hf⟩
  .obtain⟨f,hf,_⟩:=FL.lt h;exact⟨f,hf⟩
 .exact evalNode C hy (vd C hy hk) (by unfold inB;simp) rfl
 .rintro (⟨k0,k14,hs,hne⟩|⟨hi,f,hf,hne⟩)
  .have hf:∃f,l[i]?=some f:=by
    rcases hs with⟨j,hj,m,hm,f,hf,_⟩|⟨j,hj,h⟩
    .exact⟨f,hf⟩
    .obtain⟨f,hf,_⟩:=FL.lt h;exact⟨f,hf⟩
   obtain⟨f,hf⟩:=hf;have S:=hl f (LS hf);have T:=Ao C F.pat S;refine⟨f,hf,?_⟩;rw[T.val n y hy,eJ (vd C hy ⟨k0,k14⟩),<- Ho P F hl xc xl xn hy hf (hS ⟨k0,k14⟩)];rw[xn] at hne
   have e:∀v,ntF f n v=v:=λv=>by
    unfold ntF jG idN;split
    .rename_i hp;refine if_neg λq=>?_;refine stem i ?_ ⟨k0,k14⟩ hs;rw[FL.at_,Nc];refine⟨Mx.2 (LX.1 hf).1,?_⟩;rw[hf];have h1:=S.pin1;refine decide_eq_true ?_
     cases hq:f.line with
     |mk a b =>
      rw[hq] at hp q h1;dsimp only at hp q h1
      have:b=Mj 0:=by omega
      rw[this,q]
    .rfl
   rw[e];exact hne
  .rw[xl] at hf;rw[xn] at hne;obtain⟨f2,hf2,he⟩:=FL.lt hi;rw[hf] at hf2;cases hf2;have S:=hl f (LS hf);have T:=Ao C F.pat S;refine⟨f,hf,?_⟩;rw[T.val n y hy]
   have e:∀v,ntF f n v=f.value:=λv=>by
    unfold ntF jG;rw[he,if_pos (show (Mj 0)<0 by decide)];exact if_pos rfl
   rw[e];exact hne
 .rintro⟨f,hf,hne⟩;have S:=hl f (LS hf);have T:=Ao C F.pat S;have V:=kJ C F.pat;have h1:=S.pin1;by_cases hst:f.line.pin<0/\f.line.node=n
  .refine .inr ⟨?_,f,by rw[xl];exact hf,?_⟩
   .rw[FL.at_,Nc];refine⟨Mx.2 (LX.1 hf).1,?_⟩;rw[hf];refine decide_eq_true ?_
    cases hq:f.line with
    |mk a b =>
     rw[hq] at hst h1;dsimp only at hst h1
     have:b=Mj 0:=by omega
     rw[this,hst.2]
   .rw[T.val n y hy] at hne;rw[xn]
    have e:∀v,ntF f n v=f.value:=λv=>by
     unfold ntF jG;rw[if_pos hst.1];exact if_pos hst.2.symm
    rw[e] at hne;exact hne
  .have e:∀v,ntF f n v=v:=λv=>by
    unfold ntF jG idN;split
    .rename_i hp;exact if_neg λq=>hst ⟨hp,q.symm⟩
    .rfl
   rw[T.val n y hy,e] at hne
   cases hc:cw y.kind with
   |false =>
    rw[V.val n y hy,da hc,da hc] at hne;exact absurd rfl hne
   |true =>
    have hc':=of_decide_eq_true hc;have hk:vC y.kind:=⟨by omega,by omega⟩;rw[eJ hc,<- Ho P F hl xc xl xn hy hf (hS hk)] at hne;refine .inl ⟨hk.1,hk.2,?_,by rw[xn];exact hne⟩;refine Classical.byContradiction λhs=>hne ?_
    have hch:∀j m,y.ins[j]?=some m->chB x n j i=false:=by
     intro j m hj;unfold chB;rw[xc,xl];simp only[hy,hj,hf];have hjl:=(LX.1 hj).1;by_cases q:f.line=⟨n,LQ j⟩
     .exfalso;refine hs (.inr ⟨j,hjl,?_⟩);rw[FL.at_,Nc];refine⟨Mx.2 (LX.1 hf).1,?_⟩;rw[hf];exact decide_eq_true q
     .rw[if_neg q]
      cases hg:(bY (x.S m) i).getD false with
      |false=>rfl
      |true=>exact absurd (.inl ⟨j,hjl,m,hj,((hS hk m (LS hj)).get i).1 hg⟩) hs
    rw[V.val n y hy,eJ hc]
    show fN y.kind (inB x n i y)=fN y.kind (cO idP (cn c p) n y)
    congr 1;unfold inB cO;apply MH;intro j;rw[Nz,Nz]
    cases hj:y.ins[j]? with
    |none=>rfl
    |some m =>
     show some (if chB x n j i=true then gz (x.nets.getD m 0) else x.nets.getD m 0)=some ((cn c p).getD m 0)
     rw[hch j m hj,xn];rfl
end
theorem fwM{f:FuncId}{fn:Func}{c:Code}(hf:Tryz.prog.funcs[f]?=some fn){vs:Array Value}{h:Heap}(hB:aH vars h){R:Type}{enc:R->Value}(hp:∀r,aq (enc r)){r0:R}
  (hk:Own vars h [] h->CodeM Tryz.prog NG c (cM fn.ntmps vs) h λx e1 h1=>match x with
   |.exit _=>False
   |_=>mu Tryz.prog e1 h1 fn.results.toList λvs=>∃r,r=r0/\Ext h h1/\∀h2,Frozen h.size h1 h2->VLe h2 (sQ vs) (enc r))
  (hb:fn.body=some c:=by exact rfl) (hs:Nat.ble vs.size fn.ntmps=true:=by exact rfl):al Tryz.prog NG f vs h (enc r0) h:=by
 refine fnM hM hf hb (hP _ _ rfl hf) (Mq hs) hB (hp r0) λO=>(hk O).mono ?_;intro x e1 h1 k
 cases x with
 |exit id=>exact k.elim
 |normal=>exact pE (λvs q=>by obtain⟨r,rfl,q⟩:=q;exact q) k
 |ret=>exact pE (λvs q=>by obtain⟨r,rfl,q⟩:=q;exact q) k
structure FailZ where
 test:Int
 next:Bool
 index:Int
deriving DecidableEq
set_option maxHeartbeats 8000000
def D4(c:Circ)(Q:Nat->Nat->Prop)(k i:Nat):Prop:=∃j,j<k/\∃n,c.outs[j]?=some n/\Q n i
def stP(x:Mach)(Q:Nat->Nat->Prop)(st:List Nat)(k i:Nat):Prop:=∃j,j<k/\∃n y,st[j]?=some n/\x.c.nodes[n]?=some y/\jv x Q n y y.ins.length i/\chB x n 0 i=true
def qo(D:SM):List Nat:=(D.map P6).mergeSort
theorem xR{c:Circ}{l:List Flt}{p:Pat}{nets st:List Nat}{Q:Nat->Nat->Prop}{EV:Mach->Nat->Node->Nat->Nat}{r0:List Nat}{h0:Heap}(hB:aH vars h0)(hck:cE c l p (· = 0))(hrun:dw c p (λr=>r.2=(nets,0)))(hord:bz c (λr=>∃o,r=(o,0)/\JQ c o))(hl:l.length<=65536)(hc:c.nodes.length<=16)
  (hnets:nets.length=c.nodes.length) (hins:∀(n:Nat) (y:Node),c.nodes[n]?=some y->y.ins.length<=16) (hstep:Cd c l nets Q EV)
  (hst:bA c (· = st)) (hst2:∀n∈st,∃y m,c.nodes[n]?=some y/\y.ins[0]?=some m/\∀m∈y.ins,m<c.nodes.length) (hstl:st.length<=16) (hou:∀n∈c.outs,n<c.nodes.length) (houl:c.outs.length<=2^40) (hQ:∀n i,Q n i->∃f,l[i]?=some f)
  (hfin:∀(x:Mach) (D:SM),x.c=c->x.l=l->x.nets=nets->LinesOk l l.length x.mA->(∀n,n<c.nodes.length->IsSet (x.S n) (Q n))->IsSet D (λi=>D4 c Q c.outs.length i\/stP x Q st st.length i)->qo D=r0)
  (hsort:∀{h:Heap} {g:Nat} {D:SM},aH vars h->h.get g=some (lN D)->(∀e∈D,e.1<65536)->(D.map P6).Nodup->al Tryz.prog NG 31 ⟨[.map (some g)]⟩ h (ae 1 i64 (qo D)) h) :
  al Tryz.prog NG 10 ⟨[az c,ae 5 ay l,aE p]⟩ h0 ((λ(r:List Nat)=>MD ⟨[ae 1 i64 r,i64 0]⟩) r0) h0:=by
 refine fwM Tryz.func10 hB (enc:=λ(r:List Nat)=>MD ⟨[ae 1 i64 r,i64 0]⟩) (λr=>aq.tup (ag.cons (cg λ_=>ag.cons (aq.flat rfl) ag.nil) (ag.cons (aq.flat rfl) ag.nil))) λO=>?_
 conv=>whnf
 refine CodeM.seq (CodeM.reg ?_);refine gH ?_;refine fz ?_;refine gH ?_;refine fz ?_;refine gH ?_
 conv=>whnf
 refine CodeM.seq (CodeM.mid 3 rfl rfl ?_);refine gH ?_;refine MidQ.call rfl (Cf O.has hck hrun hord hl hc hnets hins hstep) ?_;rintro v hb ⟨x,rfl,xc,xl,xn,F,M,hS,L,Ob⟩;have hext:=Ob.ext;have O:=Own.start Ob.has;clear Ob
 conv=>whnf
 refine gH ?_
 conv=>whnf
 refine CodeM.seq (CodeM.seq (CodeM.reg ?_));refine gH ?_
 refine CodeM.cond ⟨false,rfl,(λe=>nomatch e),λ_=>CodeM.skip ?_⟩;conv=>whnf
 refine CodeM.seq (CodeM.reg ?_);refine gH ?_;refine O.new ((rfl:ew _ _ _=some (.map (aY i64 L0 ([]:SM)),λg=>.map (some g)))) λgd h O=>?_;refine gH ?_
 conv=>whnf
 refine CodeM.seq (CodeM.seq (CodeM.reg ?_));refine gH ?_
 refine CodeM.block (CodeM.loop (nn:=68) (σ:=Nat×SM) (λs h'=>s.1<=c.outs.length/\IsSet s.2 (D4 c Q s.1)/\Own vars hb [(some gd,lN s.2)] h')
  (λs=>[(3,FP (az c)),(8,.pointer (some ⟨x.gx,0,none⟩)),(10,.map (some gd)),(28,ae 1 i64 c.outs),(29,i64 c.outs.length),(30,i64 s.1)]) (λs=>c.outs.length-s.1) rfl ⟨(0,[]),⟨L1 _,IsSet.nil.congr λi=>⟨False.elim,λ⟨j,hj,_⟩=>absurd hj (Mu _)⟩,O⟩,VLe.refl _ _,VLe.refl _ _,VLe.refl _ _,VLe.refl _ _,VLe.refl _ _,VLe.refl _ _,trivial⟩ ?_)
 clear O;rintro⟨j,d⟩ base h' ⟨hj,sd,O⟩;dsimp only at hj sd O
 conv=>whnf
 refine CodeM.seq (CodeM.reg ?_);refine gH ?_;by_cases hlt:j<c.outs.length
 .obtain⟨n,hn⟩:∃n,c.outs[j]?=some n:=⟨_,LU hlt⟩;have hnl:=hou n (LS hn);obtain⟨⟨g,hg⟩,sT⟩:=hS n hnl
  refine CodeM.seq (CodeM.cond ⟨true,congrArg L0 (by show ltN j c.outs.length=true;rw[bj];simp;omega),λ_=>CodeM.skip ?_,(λe=>nomatch e)⟩);conv=>whnf
  refine CodeM.seq (CodeM.block (CodeM.seq (CodeM.reg ?_)));refine gH ?_;refine atF (W:=λ_=>True) ⟨n,hn,trivial⟩ λn' hn' _=>?_;rw[hn] at hn';cases hn';refine gH ?_;refine CodeM.Ju rfl rfl ?_;refine gH ?_;refine ldO (O.ext.get M.box) ?_;refine gH ?_;refine ix (l:=x.A) (W:=λ_=>True) 1 ⟨(LX.1 hg).1,some g,hg,trivial⟩ λ_ _ _=>?_;refine gH ?_;refine ldE (s:=1) (i:=0) (O.ext.get M.lists) hg ?_;refine gH ?_;refine⟨_,⟨_⟩,_,kl rfl,yA O (M.sets n g hg) sd sT,?_⟩;rintro v h' ⟨rfl,d',sd',O⟩
  conv=>whnf
  refine CodeM.reg ?_;refine gH ?_;refine aJ (a:=j) (b:=1) (W:=True) ⟨by omega,trivial⟩ λ_=>?_;refine gH ?_;refine⟨(j+1,d'),by show c.outs.length-(j+1)<c.outs.length-j;omega,⟨hlt,sd'.congr λi=>?_,O⟩,VLe.refl _ _,VLe.refl _ _,VLe.refl _ _,VLe.refl _ _,VLe.refl _ _,VLe.refl _ _,trivial⟩;constructor
  .rintro (⟨k,hk,r⟩|q)
   · exact⟨k,by omega,r⟩
   · exact⟨j,by omega,n,hn,q⟩
  .rintro⟨k,hk,n2,e,q⟩;by_cases ek:k=j
   · subst ek;rw[hn] at e;cases e;exact .inr q
   · exact .inl ⟨k,by omega,n2,e,q⟩
 .obtain rfl:j=c.outs.length:=by omega
  refine CodeM.seq (CodeM.cond ⟨false,congrArg L0 (by show ltN c.outs.length c.outs.length=false;rw[bj];simp),(λe=>nomatch e),λ_=>CodeM.exit ?_⟩);conv=>whnf
  refine CodeM.seq (CodeM.seq (CodeM.reg ?_));refine gH ?_;refine ca (cu hst O.has) λr3 hr=>?_;obtain rfl:st=r3:=hr.symm;refine gH ?_
  refine CodeM.block (CodeM.loop (nn:=68) (σ:=Nat×SM) (λs h'=>s.1<=st.length/\IsSet s.2 (λi=>D4 c Q c.outs.length i\/stP x Q st s.1 i)/\Own vars hb [(some gd,lN s.2)] h')
   (λs=>[(8,.pointer (some ⟨x.gx,0,none⟩)),(10,.map (some gd)),(45,ae 1 i64 st),(46,i64 st.length),(47,i64 s.1)]) (λs=>st.length-s.1) rfl ⟨(0,d),⟨L1 _,sd.congr λi=>⟨.inl,λq=>q.elim id λ⟨j,hj,_⟩=>absurd hj (Mu _)⟩,O⟩,VLe.refl _ _,VLe.refl _ _,VLe.refl _ _,VLe.refl _ _,VLe.refl _ _,trivial⟩ ?_)
  clear O sd;rintro⟨k,d⟩ base h' ⟨hk,sd,O⟩;dsimp only at hk sd O
  conv=>whnf
  refine CodeM.seq (CodeM.reg ?_);refine gH ?_;by_cases hlt:k<st.length
  .obtain⟨n,hn⟩:∃n,st[k]?=some n:=⟨_,LU hlt⟩;obtain⟨y,m0,hy,hm0,hinl⟩:=hst2 n (LS hn)
   have hyx:x.c.nodes[n]?=some y:=by rw[xc];exact hy
   have hm0l:=hinl m0 (LS hm0);obtain⟨⟨g0,hg0⟩,_⟩:=hS m0 hm0l
   refine CodeM.seq (CodeM.cond ⟨true,congrArg L0 (by show ltN k st.length=true;rw[bj];simp;omega),λ_=>CodeM.skip ?_,(λe=>nomatch e)⟩);conv=>whnf
   refine CodeM.seq (CodeM.block (CodeM.seq (CodeM.reg ?_)));refine gH ?_;refine atF (W:=λ_=>True) ⟨n,hn,trivial⟩ λn' hn' _=>?_;rw[hn] at hn';cases hn';refine gH ?_;refine CodeM.seq (CodeM.mid 2 rfl rfl ?_);refine gH ?_;refine MidQ.call rfl (yP (q:=Q) (M.ext O.ext) O.has hyx (hins n y hy) (λq=>Mf (F.len q) (by omega)) (λm hm=>hS m (hinl m hm))) ?_;rintro v h2 ⟨g,D,rfl,sD,O2⟩;have O:=uX O O2
   conv=>whnf
   refine gH ?_;refine O.JN (ek:=i64) (ev:=L0) (m:=D) O.i0 λg31 h O=>?_;refine gH ?_
   have hm:Hv (S:=SM) D (λe d nx=>(chB x n 0 e.1=true->nx (gQ d e.1 true))/\(chB x n 0 e.1=false->nx d)) d (λd=>IsSet d (λi=>D4 c Q c.outs.length i\/stP x Q st (k+1) i)):=by
     refine qN (λseen d=>IsSet d (λi=>(D4 c Q c.outs.length i\/stP x Q st k i)\/((∃j∈seen,∃e,D[j]?=some e/\e.1=i)/\chB x n 0 i=true))) (sd.congr λi=>by simp) (λseen d I nd hall=>I.congr λi=>?_) λseen d i e next I hy2 hi hn=>⟨λc=>hn _ ((I.put e.1).congr λk=>?_),λc=>hn _ (I.congr λk=>?_)⟩
     · constructor
       · rintro ((q|⟨a,ha,r⟩) | ⟨⟨j,hj,e,he,rfl⟩,c2⟩)
         .exact .inl q
         .exact .inr ⟨a,by omega,r⟩
         .exact .inr ⟨k,by omega,n,y,hn,hyx,(sD.has _).1 (jw (b:=e.2) (LS he)),c2⟩
       · rintro (q|⟨a,ha,n2,y2,e1,e2,e3,e4⟩)
         .exact .inl (.inl q)
         .by_cases ea:a=k
          .subst ea;rw[hn] at e1;cases e1;rw[hyx] at e2;cases e2;have:=(sD.has i).2 e3
           cases hg:bY D i with
           |none=>exact absurd hg this
           |some b =>
            obtain⟨j,hj⟩:=M1 (nh hg);exact .inr ⟨⟨j,(hall j).2 (LX.1 hj).1,_,hj,rfl⟩,e4⟩
          .exact .inl (.inr ⟨a,by omega,n2,y2,e1,e2,e3,e4⟩)
     · constructor
       · rintro (rfl|q|⟨⟨j,hj,z,hz,rfl⟩,c2⟩)
         .exact .inr ⟨⟨i,by simp,e,hy2,rfl⟩,c⟩
         .exact .inl q
         .exact .inr ⟨⟨j,MA _ hj,z,hz,rfl⟩,c2⟩
       · rintro (q|⟨⟨j,hj,z,hz,rfl⟩,c2⟩)
         .exact .inr (.inl q)
         .rcases MB.1 hj with hj|hj
          .exact .inr (.inr ⟨⟨j,hj,z,hz,rfl⟩,c2⟩)
          .rw[Mm.1 hj,hy2] at hz
           cases hz
           exact .inl rfl
     · constructor
       · rintro (q|⟨⟨j,hj,z,hz,rfl⟩,c2⟩)
         .exact .inl q
         .exact .inr ⟨⟨j,MA _ hj,z,hz,rfl⟩,c2⟩
       · rintro (q|⟨⟨j,hj,z,hz,rfl⟩,c2⟩)
         .exact .inl q
         .rcases MB.1 hj with hj|hj
          .exact .inr ⟨⟨j,hj,z,hz,rfl⟩,c2⟩
          .rw[Mm.1 hj,hy2] at hz
           cases hz
           rw[c] at c2;cases c2
   refine CodeM.block ?_;refine mpM 68 [8,10,14,45,46,47,54] (σ:=SM) (λs=>s) (es:=D) (ent:=λp=>(i64 p.1,L0 p.2)) (λd seen h=>Own vars hb [(some g31,.rng g seen D.length),(some g,lN D),(some gd,lN d)] h) (λ_=>[]) d hm O (by rintro d seen h q;have O:=q;exact O.at (.head _)) (by rintro d seen h q;have O:=q;exact O.at (.tail _ (.head _))) (by rintro d seen i h q;have O:=q;exact O.upd (.head _) (Upd.upd _ (Heap.ai (O.at (.head _))))) ?_ ?_
   .clear hm;rintro d seen base h hm O;refine gXM ?_;refine bf ?_;refine gXM ?_;refine aJ (a:=k) (b:=1) (W:=True) ⟨by omega,trivial⟩ λ_=>?_;refine gXM ?_;exact⟨(k+1,d),by show st.length-(k+1)<st.length-k;omega,⟨hlt,hm,O.sel [2] (by decide)⟩,VLe.refl _ _,VLe.refl _ _,VLe.refl _ _,VLe.refl _ _,VLe.refl _ _,trivial⟩
   .clear hm;rintro d seen i e nx base h hy2 hm O;have hD:jv x Q n y y.ins.length e.1:=(sD.has _).1 (jw (b:=e.2) (LS hy2))
    obtain⟨f,hf⟩:∃f,x.l[e.1]?=some f:=by
      rw[xl]
      rcases hD with⟨_,_,m,_,hq⟩|⟨_,_,hq⟩
      · exact hQ m e.1 hq
      · obtain⟨f,hf,_⟩:=F.lt hq;exact⟨f,hf⟩
    refine gXM ?_
    refine bt ?_;conv=>whnf
    refine CodeM.skip ?_;conv=>whnf
    refine CodeM.block (CodeM.seq (CodeM.reg ?_));refine gH ?_;refine Gq (ek:=i64) (ev:=L0) (m:=D) O (.head _) O.i1 rfl hy2 ?_;refine gH ?_;refine CodeM.seq (CodeM.reg ?_);refine gH ?_;refine⟨_,_,rA (M.ext O.ext) O.has hyx hm0 hf (by rw[xn];omega) hg0,?_⟩;refine gH ?_
    cases hcb:chB x n 0 e.1 with
    | true =>
      refine CodeM.cond ⟨true,rfl,λ_=>CodeM.reg ?_,(λe=>nomatch e)⟩;refine gH ?_;refine O.nv (ek:=i64) (ev:=L0) (m:=d) (k:=e.1) (v:=true) (.tail _ (.tail _ (.head _))) rfl rfl (by kernel_rfl) gT rfl rfl rfl λh O=>?_;refine gH ?_;exact jx (gQ d e.1 true) (hm.1 hcb) O
    | false =>
      refine CodeM.cond ⟨false,rfl,(λe=>nomatch e),λ_=>CodeM.skip ?_⟩;conv=>whnf
      exact jx d (hm.2 hcb) O
  .obtain rfl:k=st.length:=by omega
   refine CodeM.seq (CodeM.cond ⟨false,congrArg L0 (by show ltN st.length st.length=false;rw[bj];simp),(λe=>nomatch e),λ_=>CodeM.exit ?_⟩);refine gXM ?_
   have hlow:∀e∈d,e.1<65536:=λe he=>by
     have hQl:∀n,Q n e.1->e.1<65536:=λn q=>by
       obtain⟨f,hf⟩:=hQ n e.1 q;have:=(LX.1 hf).1;omega
     have hm:bY d e.1≠none:=jw (b:=e.2) he
     rcases (sd.has e.1).1 hm with⟨_,_,_,_,q⟩|⟨_,_,_,_,_,_,q,_⟩
     · exact hQl _ q
     · rcases q with⟨_,_,_,_,q⟩|⟨_,_,q⟩
       · exact hQl _ q
       · obtain⟨f,hf,_⟩:=F.lt q;have:=(LX.1 hf).1;omega
   refine⟨_,_,hsort O.has O.i0 hlow sd.nd,?_⟩;refine gXM ?_;refine⟨_,hfin x d xc xl xn F (λn hn=>(hS n hn).2) sd,hext.trans O.ext,λh2 F=>VLe.refl _ _⟩
theorem Dj{a b:Nat}(ha:a<=1)(hb:b<=1):Con a b↔b≠a:=⟨λh e=>h.2.2 e.symm,λh=>⟨ha,hb,λe=>h e.symm⟩⟩
theorem Dl{a:Nat}(ha:a<=1):min a 2=a:=by omega
theorem D2{c:Circ}{p:Pat}{l:List Flt}{x:Mach}(P:Plz c)(F:Full c p)(hl:∀f∈l,StuckOk c f)(xc:x.c=c)(xl:x.l=l)(xn:x.nets=cn c p)(FL:LinesOk l l.length x.mA)(hS:∀n,n<c.nodes.length->IsSet (x.S n) (Bj c p l n))(i:Nat) :
  (D4 c (Bj c p l) c.outs.length i\/stP x (Bj c p l) (ofN c [14]) (ofN c [14]).length i) ↔ ∃f,l[i]?=some f/\jf c p f=true:=by
 have C:=P.cir
 have ch:∀(s:Nat) (y:Node) (m:Nat) (f:Flt),c.nodes[s]?=some y->y.ins[0]?=some m->l[i]?=some f->(chB x s 0 i=true↔pnF f s 0 ((jV c p f).getD m 0)≠(cn c p).getD m 0):=by
  intro s y m f hy hm hf;have S:=hl f (LS hf);have hml:=(C.good.node s y hy).ins m (LS hm);unfold chB;rw[xc,xl];simp only[hy,hm,hf];by_cases e:f.line=⟨s,LQ 0⟩
  .have e1:f.line.node=s:=by rw[e]
   have e2:f.line.pin=LQ 0:=by rw[e]
   have r:pnF f s 0 ((jV c p f).getD m 0)=f.value:=by
    unfold pnF ij;rw[if_neg (by rw[e2];decide)];exact if_pos ⟨e1.symm,e2.symm⟩
   rw[if_pos e,r,xn];exact decide_eq_true_iff
  .have r:pnF f s 0 ((jV c p f).getD m 0)=(jV c p f).getD m 0:=by
    unfold pnF ij idP;split
    .rfl
    .refine if_neg λq=>e ?_
     cases hq:f.line with
     |mk a b=>rw[hq] at q;rw[q.1,q.2]
   rw[if_neg e,r,(hS m hml).get i];constructor
   .rintro⟨f2,h2,h3⟩;rw[hf] at h2;cases h2;exact h3
   .exact λh=>⟨f,hf,h⟩
 have dff:∀s,s∈ofN c [14]->∃y m,c.nodes[s]?=some y/\y.ins[0]?=some m/\dOf c s=m:=by
  intro s hs;obtain⟨h1,h2⟩:=bK.1 hs;obtain⟨y,hy⟩:=aA h1;rw[dk hy] at h2;have ha:=(C.good.node s y hy).arity;rw[h2] at ha
  have:y.ins.length=1:=by
   have a1:1<=y.ins.length:=ha.1;have a2:(y.ins.length:Int)<=1:=ha.2;omega
  obtain⟨m,hm⟩:=aA (show 0<y.ins.length by omega);exact⟨y,m,hy,hm,by unfold dOf;rw[sS hy,Mh,hm];rfl⟩
 constructor
 .rintro (⟨j,hj,n,hn,f,hf,hne⟩|⟨j,hj,s,y,hs,hy,hsome,hch⟩)
  .have S:=hl f (LS hf);exact⟨f,hf,Af.2 (.inl ⟨n,LS hn,(Dj (qb P F n) (GB P F S n)).2 hne⟩)⟩
  .obtain⟨y2,m,hy2,hm,hd⟩:=dff s (LS hs);rw[xc,hy2] at hy;cases hy
   have hf:∃f,l[i]?=some f:=by
    rcases hsome with⟨_,_,_,_,f,hf,_⟩|⟨_,_,h⟩
    .exact⟨f,hf⟩
    .obtain⟨f,hf,_⟩:=FL.lt h;exact⟨f,hf⟩
   obtain⟨f,hf⟩:=hf;have S:=hl f (LS hf);have q:=(ch s y m f hy2 hm hf).1 hch;have hv:=S.value
   have b2:pnF f s 0 ((jV c p f).getD m 0)<=1:=by
    have:=GB P F S m;unfold pnF ij idP;split
    .exact this
    .show (if _ then f.value else _)<=1
     split <;> omega
   have b1:=qb P F m;refine⟨f,hf,Af.2 (.inr ⟨s,LS hs,?_⟩)⟩;rw[hd,Dl b1,Dl b2];exact (Dj b1 b2).2 q
 .rintro⟨f,hf,hd⟩;have S:=hl f (LS hf)
  rcases Af.1 hd with⟨o,ho,hc⟩|⟨s,hs,hc⟩
  .obtain⟨j,hj⟩:=M1 ho;exact .inl ⟨j,(LX.1 hj).1,o,hj,f,hf,λe=>hc.2.2 e.symm⟩
  .obtain⟨y,m,hy,hm,hdm⟩:=dff s hs;obtain⟨j,hj⟩:=M1 hs;rw[hdm] at hc
   have hch:chB x s 0 i=true:=(ch s y m f hy hm hf).2 λe=>by
    rw[e] at hc;exact jY _ hc
   refine .inr ⟨j,(LX.1 hj).1,s,y,hj,by rw[xc];exact hy,?_,hch⟩;have h0:=(LX.1 hm).1;have hml:=(C.good.node s y hy).ins m (LS hm);unfold chB at hch;rw[xc,xl] at hch;simp only[hy,hm,hf] at hch;by_cases e:f.line=⟨s,LQ 0⟩
   .refine .inr ⟨0,h0,?_⟩;rw[FL.at_,Nc];refine⟨Mx.2 (LX.1 hf).1,?_⟩;rw[hf];exact decide_eq_true e
   .rw[if_neg e] at hch;exact .inl ⟨0,h0,m,hm,((hS m hml).get i).1 hch⟩
end Go.Proofs.YtglgdkineobbeaaGreatDoor
