/- Parts of the proof. -/
import Derived.Test.YtglgdkineobbeaaGreatDoorTn25
import Derived.KernelRfl
import Derived.ChangeArms
import Derived.Laws.Strings
open Array renaming all->SG
open Go.DataW renaming trod->OJ
open Go.Value.int renaming injEq->N5
open Int renaming ofNat->LQ
open List renaming range->Ma,replicate->LY
namespace Go.Abs
def wP:Value->Bool
 |.agg ⟨l⟩=>l.all aR
 |v=>aR v
def wX:Value->Bool
 |.tuple ⟨l⟩=>l.all wP
 |v=>wP v
theorem yJ{v:Value}(h:wP v=true):plain v=true:=by
 cases v <;> try exact h
 rename_i cs;obtain⟨l⟩:=cs
 show SG _ _=true
 rw[<- Px];exact h
theorem ly{v:Value}(h:wX v=true):oR v=true:=by
 have one:wP v=true->plain v=true:=yJ
 cases v with
 |tuple vs =>
  obtain⟨l⟩:=vs
  show SG _ _=true
  rw[<- Px];have h:l.all wP=true:=h;exact Md.2 λx m=>yJ (Md.1 h x m)
 |_=>exact one h
theorem aq.wX{v:Value}(h:wX v=true):aq v:=aq.flat (ly h)
def ag(l:List Value):Prop:=∀x∈l,aq x
theorem ag.nil:ag []:=λ_ m=>by cases m
theorem ag.cons{x:Value}{l:List Value}(a:aq x)(b:ag l):ag (x::l):=λy m=>by
 rcases MF.1 m with rfl|m
 .exact a
 .exact b y m
theorem ag.append{a b:List Value}(p:ag a)(q:ag b):ag (a++b):=λy m=>by
 rcases MB.1 m with m|m
 .exact p y m
 .exact q y m
theorem aq.undef:aq undef:=aq.flat (by kernel_rfl)
theorem ag.getD{l:List Value}(p:ag l)(i:Nat):aq (l.getD i Go.undef):=by
 rw[List.getD]
 cases e:l[i]? with
 |none=>exact aq.undef
 |some v=>exact p v (LS e)
theorem ag.Jb{a:Array Value}(p:ag a.toList)(i:Nat):aq (a.getD i Go.undef):=by
 rw[<- fE];exact p.getD i
theorem aq.agg{l:List Value}(p:ag l):aq (.agg ⟨l⟩):=λι ι' v' hf r=>by
 cases r with
 |agg _ a' h1 h2=>exact .agg _ a' h1 λi=>p.Jb (a:=⟨l⟩) i ι ι' _ hf (h2 i)
theorem aq.tup{l:List Value}(p:ag l):aq (.tuple ⟨l⟩):=λι ι' v' hf r=>by
 cases r with
 |tuple _ a' h1 h2=>exact .tuple _ a' h1 λi=>p.Jb (a:=⟨l⟩) i ι ι' _ hf (h2 i)
 |unit=>exact .unit
theorem aq.func{f:Fn}{l m:List Value}(p:ag l)(q:ag m):aq (.func f ⟨l⟩ ⟨m⟩):=λι ι' v' hf r=>by
 cases r with
 |func _ _ _ a' b' h1 h2 h3 h4=>exact .func f _ _ a' b' h1 h2 (λi=>p.Jb (a:=⟨l⟩) i ι ι' _ hf (h3 i)) (λi=>q.Jb (a:=⟨m⟩) i ι ι' _ hf (h4 i))
theorem aq.fl{s:Nat}{es:List Value}(p:ag (ah es)):aq (FL s es):=λι ι' v' hf r=>by
 cases r with
 |flNil _=>exact .flNil s
 |flEmpty _ a cap=>exact .flEmpty s a cap
 |fl _ _ b o cap C h0 h1 h2 h3 h4 h5=>exact .fl s es b o cap C (hf _ _ h0) h1 h2 h3 h4 λi hi=>p.getD i ι ι' _ hf (h5 i hi)
theorem aq.fp{v:Value}(p:ag (cl v)):aq (FP v):=λι ι' v' hf r=>by
 cases r with
 |fp _ b o C h0 h1 h2=>exact .fp v b o C (hf _ _ h0) h1 λi hi=>p.getD i ι ι' _ hf (h2 i hi)
theorem aq.list{α:Type}{enc:α->Value}{s:Nat}{l:List α}(p:∀a,ag (cl (enc a))):aq (FL s (l.map enc)):=aq.fl λx m=>by
 simp only[ah,N8,MP] at m;obtain⟨_,⟨a,_,rfl⟩,m⟩:=m;exact p a x m
section
variable {P:Program} {N:Nat}
theorem J4(hM:P.follows .mixedOrders=true){c:Code}{nn:Nat}(hok:codeOk N nn c=true){α S:Type}(l:List α)(I:List α->S->Heap->Prop)(env:Nat->S->List (Nat×Value)){e:Env}{h:Heap}{K:X->Env->Heap->Prop}(hn:e.n=nn)
  (s0:S) (start:I [] s0 h) (hs:lj (env 0 s0) e)
  (round:∀d x r s base h,l=d++x::r->I d s h->eI (dJ (env d.length s)) λt=>CodeS P N c ⟨nn,t,base⟩ h λy e1 h1=>match y with
   |.normal=>∃s',I (d++[x]) s' h1/\lj (env (d.length+1) s') e1
   |.exit id=>K (.exit id) e1 h1
   |.ret=>K .ret e1 h1)
  (fin:∀s base h,I l s h->eI (dJ (env l.length s)) λt=>CodeS P N c ⟨nn,t,base⟩ h λy e1 h1=>match y with
   |.normal=>False
   |.exit id=>K (.exit id) e1 h1
   |.ret=>K .ret e1 h1):vY P N c e h K:=by
 refine lM hM hok (σ:=List α×List α×S) (λq h=>q.1++q.2.1=l/\I q.1 q.2.2 h) (λq=>env q.1.length q.2.2) (λq=>q.2.1.length) hn ⟨([],l,s0),⟨rfl,start⟩,hs⟩ ?_;rintro⟨d,r,s⟩ base h ⟨hl,hI⟩
 cases r with
 |nil =>
  simp only[MZ] at hl;subst hl;rw[bQ];refine⟨λa b=>?_⟩;obtain⟨x,e1,h1,c1,hk⟩:=((bQ _ _).1 (fin s base h hI)).spec a b;refine⟨x,e1,h1,c1,?_⟩
  cases x with
  |normal=>exact hk.elim
  |exit id=>exact hk
  |ret=>exact hk
 |cons x r =>
  rw[bQ];refine⟨λa b=>?_⟩;obtain⟨y,e1,h1,c1,hk⟩:=((bQ _ _).1 (round d x r s base h hl.symm hI)).spec a b;refine⟨y,e1,h1,c1,?_⟩
  cases y with
  |normal =>
   obtain⟨s',i1,i2⟩:=hk;exact⟨(d++[x],r,s'),by simp,⟨by simpa using hl,i1⟩,by simpa using i2⟩
  |exit id=>exact hk
  |ret=>exact hk
theorem J6(hM:P.follows .mixedOrders=true){c:Code}{nn:Nat}(hok:codeOk N nn c=true){S:Type}(n:Nat)(I:Nat->S->Heap->Prop)(env:Nat->S->List (Nat×Value)){e:Env}{h:Heap}{K:X->Env->Heap->Prop}(hn:e.n=nn)
  (s0:S) (start:I 0 s0 h) (hs:lj (env 0 s0) e)
  (round:∀i s base h,i<n->I i s h->eI (dJ (env i s)) λt=>CodeS P N c ⟨nn,t,base⟩ h λy e1 h1=>match y with
   |.normal=>∃s',I (i+1) s' h1/\lj (env (i+1) s') e1
   |.exit id=>K (.exit id) e1 h1
   |.ret=>K .ret e1 h1)
  (fin:∀s base h,I n s h->eI (dJ (env n s)) λt=>CodeS P N c ⟨nn,t,base⟩ h λy e1 h1=>match y with
   |.normal=>False
   |.exit id=>K (.exit id) e1 h1
   |.ret=>K .ret e1 h1):vY P N c e h K:=by
 have hr:∀(d:List Nat) (x:Nat) (r:List Nat),Ma n=d++x::r->d.length=x/\x<n:=by
  intro d x r e
  have h1:(Ma n)[d.length]?=some x:=by rw[e];simp
  have h2:d.length<n:=by
   have:=(LX.1 h1).1;simpa using this
  rw[M7 h2] at h1
  cases h1
  exact⟨rfl,h2⟩
 refine J4 hM hok (Ma n) (λd s h=>I d.length s h) env hn s0 start hs ?_ ?_
 .intro d x r s base h hl hI;obtain⟨e1,e2⟩:=hr d x r hl;have:=round d.length s base h (by omega) hI;simpa using this
 .intro s base h hI;rw[M4] at hI ⊢;exact fin s base h hI
end
theorem Lr{P:Program}{ρ:Operand->Value}{d:Option Tmp}{ty:TypeId}{pos:String}{af:Array Edge}{gd:Option (Nat×Bool)}{t:TypeId}{x i:Operand}{v:Value}{K:Value->Prop}
 (h:aC P ρ { dst:=d,op:=.indexAddr t x i,type:=ty,pos:=pos,after:=af,guard:=gd }=some v) (k:K v):∃v,aC P ρ { dst:=d,op:=.indexAddr t x i,type:=ty,pos:=pos,after:=af,guard:=gd }=some v/\K v:=⟨v,h,k⟩
theorem JS(n:Nat):ltI (LQ n) (LQ n)=false:=by rw[fG];simp
theorem Kf{a b:Nat}(h:a<b):ltI (LQ a) (LQ b)=true:=by rw[fG];simpa using h
end Go.Abs

namespace Go.Abs
open Go.ChangeShapes
def Co(P:Program):Nat->TypeId->Bool
 |0,_=>false
 |d+1,t=>match P.underlying t with
  |some (.int _)=>true
  |some (.array n e)=>P.cellsOf t==n*P.cellsOf e&&Co P d e
  |some (.struct fs)=>P.cellsOf t==fs.size&&(Ma fs.size).all λi=>match fs[i]? with
   |some f=>f.offset==i&&P.cellsOf f.type==1&&Co P d f.type
   |none=>false
  |_=>false
theorem qE{H:Type}{enc:TypeId×Value->H}{P:Program}{w:World}{base:Nat}{spare:Nat->Bool}{held:Bool}:∀(d:Nat) (t:TypeId) (fuel:Nat) (cs:List Value) (x:DataW H×List MemPlace),Co P d t=true ->
  OJ enc P w base spare held fuel t cs=some x->flat x.1=some cs
 |0,_,_,_,_,h,_=>by simp[Co] at h
 |d+1,t,fuel,cs,x,h,ht=>by
  unfold Co at h;split at h
  .rename_i k hu;obtain⟨n,rfl,rfl,_⟩:=DataW.trod_int hu ht;simp[flat]
  .rename_i n e hu;simp only[L9,beq_iff_eq] at h;obtain⟨xs,m,rfl,rfl,h1,h2,h3⟩:=DataW.trod_array hu ht;simp only[flat];refine kR (c:=P.cellsOf e) xs cs (by rw[h1,h2,h.1]) λi y hy=>?_
   have hi:i<n:=by rw[<- h2];exact (LX.1 hy).1
   exact qE d e m _ y h.2 ((h3 i hi).trans hy)
  .rename_i fs hu;simp only[L9,beq_iff_eq] at h;obtain⟨xs,m,rfl,rfl,h1,h2,h3⟩:=DataW.trod_struct hu ht;simp only[flat];refine kR (c:=1) xs cs (by rw[h1,h2,h.1,PQ]) λi y hy=>?_
   have hi:i<fs.size:=by rw[<- h2];exact (LX.1 hy).1
   have hf:=Md.1 h.2 i (Mx.2 hi);have hfs:fs[i]?=some fs[i]:=Me hi;rw[hfs] at hf;simp only[L9,beq_iff_eq] at hf;have:=(h3 i _ hfs).trans hy;rw[hf.1.1,hf.1.2] at this;rw[PQ];exact qE d _ m _ y hf.2 this
  .cases h
theorem Bh{P:Program}{n:String}{g:Nat}{t:TypeId}{dt:DataW Unit}{cs:Array Value}{W:World}{enc:TypeId×Value->Unit}{base:Nat}{spare:Nat->Bool}{held:Bool}{fuel depth:Nat}{p:List MemPlace}{vs:List Value}
  (hg:P.globalNamed n=some g) (hv:W.var? P n=some cs) (hd:OJ enc P W base spare held fuel t cs.toList=some (dt,p)) (ha:Co P depth t=true) (hf:flat dt=some vs) (i:Nat) :
  W.cell? ⟨g,i,none⟩=vs[i]?:=by
 have:=qE depth t fuel cs.toList _ ha hd;rw[hf] at this;simp only[LR] at this;rw[World.var?_cell hg hv i,this];simp
end Go.Abs

namespace Go.Abs
variable {P:Program} {ρ:Operand->Value} {d:Option Tmp} {ty:TypeId} {pos:String} {af:Array Edge} {gd:Option (Nat×Bool)} {h:Heap}
theorem tH{z:Value}{s:Nat}(hs:z.cells.size=s)(hpos:0<s)(n:Nat):(jW z.cells (n*s)).toList=ah (LY n z):=by
 have hz:∀x∈LY n z,(cl x).length=s:=λx hx=>by
  rw[(List.mem_replicate.1 hx).2];simpa[cl] using hs
 apply MH;intro i;rw[ah,mc hpos _ hz i];by_cases hi:i<n*s
 .have h1:i/s<n:=by rw[Rl hpos];exact hi
  have h2:i%s<z.cells.size:=by rw[hs];exact NV _ hpos
  rw[Mt,if_pos h1,Oo];simp only[jW,Qb,L7,Array.toList_range,M7 hi,MI,cl,hs];rw[getElem!_pos z.cells (i%s) h2,Nt,Me h2]
 .have h1:¬ i/s<n:=by rw[Rl hpos];exact hi
  rw[Mt,if_neg h1,Option.bind_none,Mk];rw[NF,sP];omega
theorem yS{t e:TypeId}{x y:Operand}{n b s:Nat}{z:Value}(hu:P.underlying t=some (.slice e))(hs:bb P e=some s)(hb:kH P e=some b)(hz:zeroOf P e=some z)(hz1:z.cells.size=s)(hpos:0<s)(hp:z.cells.all aR=true)
  (hx:ρ x=.int .i64 (LQ n)) (hy:ρ y=.int .i64 (LQ n)) (hn:b*n<=2^48) (hn2:n<2^63) :
  ew P ρ { dst:=d,op:=.makeSlice t x y,type:=ty,pos:=pos,after:=af,guard:=gd }=some (.cells (ah (LY n z)) false,λg=>.slice (some ⟨g,0,none⟩) n n):=by
 unfold ew;simp only[hu,hx,hy,hs,hb,hz]
 have c:0<=LQ n/\LQ n<=LQ n/\(b:Int)*LQ n<=2^48/\LQ n<2^63/\z.cells.all aR=true:=by
  refine⟨MN n,Int.le_refl _,?_,?_,hp⟩
  .have:((b*n:Nat):Int)<=((2^48:Nat):Int):=Pf.2 hn;simpa using this
  .have:((n:Nat):Int)<((2^63:Nat):Int):=RZ.2 hn2;simpa using this
 rw[if_pos c];have:(LQ n).toNat=n:=rfl;rw[this,tH hz1 hpos]
theorem Jo{t yt:TypeId}{x y:Operand}{k:IntKind}{a b:Nat}(hx:ρ x=.int k (LQ a))(hy:ρ y=.int k (LQ b))(hb:0<b) :
  aC P ρ { dst:=d,op:=.binOp .rem t x y yt,type:=ty,pos:=pos,after:=af,guard:=gd }=some (.int k (LQ (a%b))):=by
 have hp:(Op.binOp .rem t x y yt).operands.all (λx=>plain (ρ x))=true:=by simp[Op.operands,hx,hy,plain,aR]
 have hpl:plain (.int k (LQ (a%b)))=true:=rfl
 have this:cq P (execOp ρ { dst:=d,op:=.binOp .rem t x y yt,type:=ty,pos:=pos,after:=af,guard:=gd })=some (.value (.int k (LQ (a%b)))):=by
  have hne:¬ LQ b=0:=by simp only[L4];omega
  simp only[execOp,dQ,hx,hy,binOp,eqGuard,ne_eq,not_true_eq_false,if_false,Op.intDiv,hne];rfl
 have that:bx P ρ { dst:=d,op:=.binOp .rem t x y yt,type:=ty,pos:=pos,after:=af,guard:=gd }=some (.int k (LQ (a%b))):=by
  unfold bx;rw[if_pos hp,this];simp only[hpl,if_true]
 unfold aC;simp only[hx,hy,quick,fF,if_pos];exact that
theorem FX{t yt:TypeId}{x y:Operand}{a b:Nat}(hx:ρ x=.int .u8 (LQ a))(hy:ρ y=.int .u8 (LQ b))(hb:a+b<256) :
  aC P ρ { dst:=d,op:=.binOp .add t x y yt,type:=ty,pos:=pos,after:=af,guard:=gd }=some (.int .u8 (LQ (a+b))):=by
 refine zO hx hy ?_;simp only[fF,LR,N5,true_and];rw[IntWalk.u8_in _ (by simp only[L4];omega)];rfl
end Go.Abs
