/-
  AbsXp, AbsVw, AbsZ: parts of the proof.
-/
import Derived.Test.YtgiedjgdlckahaaGreatDoorTk25
import Derived.KernelRfl
import Derived.ChangeArms
import Derived.Laws.Strings
namespace Go.Abs
def tS:Value->Bool
 |.agg ⟨l⟩=>l.all aJ
 |v=>aJ v
def tH:Value->Bool
 |.tuple ⟨l⟩=>l.all tS
 |v=>tS v
theorem wx {v:Value} (h:tS v=true):plain v=true:=by
 cases v <;> try exact h
 rename_i cs;obtain⟨l⟩:=cs
 show Array.all _ _=true
 rw[<- Array.all_toList];exact h
theorem EY {v:Value} (h:tH v=true):jm v=true:=by
 have one:tS v=true->plain v=true:=wx
 cases v with
 |tuple vs =>
  obtain⟨l⟩:=vs
  show Array.all _ _=true
  rw[<- Array.all_toList];have h:l.all tS=true:=h;exact List.all_eq_true.2 fun x m=>wx (List.all_eq_true.1 h x m)
 |_=>exact one h
theorem PureV.tH {v:Value} (h:tH v=true):PureV v:=PureV.flat (EY h)
def AllPure (l:List Value):Prop:=∀ x∈l,PureV x
theorem AllPure.nil:AllPure []:=fun _ m=>by cases m
theorem AllPure.cons {x:Value}{l:List Value} (a:PureV x) (b:AllPure l):AllPure (x::l):=fun y m=>by
 rcases List.mem_cons.1 m with rfl|m
 ·exact a
 ·exact b y m
theorem AllPure.append {a b:List Value} (p:AllPure a) (q:AllPure b):AllPure (a++b):=fun y m=>by
 rcases List.mem_append.1 m with m|m
 ·exact p y m
 ·exact q y m
theorem PureV.undef:PureV undef:=PureV.flat (by kernel_rfl)
theorem AllPure.getD {l:List Value} (p:AllPure l) (i:Nat):PureV (l.getD i Go.undef):=by
 rw[List.getD]
 cases e:l[i]? with
 |none=>exact PureV.undef
 |some v=>exact p v (List.mem_of_getElem? e)
theorem AllPure.GQ {a:Array Value} (p:AllPure a.toList) (i:Nat):PureV (a.getD i Go.undef):=by
 rw[<- dW];exact p.getD i
theorem PureV.agg {l:List Value} (p:AllPure l):PureV (.agg ⟨l⟩):=fun ι ι' v' hf r=>by
 cases r with
 |agg _ a' h1 h2=>exact .agg _ a' h1 fun i=>p.GQ (a:=⟨l⟩) i ι ι' _ hf (h2 i)
theorem PureV.tup {l:List Value} (p:AllPure l):PureV (.tuple ⟨l⟩):=fun ι ι' v' hf r=>by
 cases r with
 |tuple _ a' h1 h2=>exact .tuple _ a' h1 fun i=>p.GQ (a:=⟨l⟩) i ι ι' _ hf (h2 i)
 |unit=>exact .unit
theorem PureV.func {f:Fn}{l m:List Value} (p:AllPure l) (q:AllPure m):PureV (.func f ⟨l⟩ ⟨m⟩):=fun ι ι' v' hf r=>by
 cases r with
 |func _ _ _ a' b' h1 h2 h3 h4=>exact .func f _ _ a' b' h1 h2 (fun i=>p.GQ (a:=⟨l⟩) i ι ι' _ hf (h3 i)) (fun i=>q.GQ (a:=⟨m⟩) i ι ι' _ hf (h4 i))
theorem PureV.fl {s:Nat}{es:List Value} (p:AllPure (flatC es)):PureV (FL s es):=fun ι ι' v' hf r=>by
 cases r with
 |flNil _=>exact .flNil s
 |flEmpty _ a cap=>exact .flEmpty s a cap
 |fl _ _ b o cap C h0 h1 h2 h3 h4 h5=>exact .fl s es b o cap C (hf _ _ h0) h1 h2 h3 h4 fun i hi=>p.getD i ι ι' _ hf (h5 i hi)
theorem PureV.fp {v:Value} (p:AllPure (cl v)):PureV (FP v):=fun ι ι' v' hf r=>by
 cases r with
 |fp _ b o C h0 h1 h2=>exact .fp v b o C (hf _ _ h0) h1 fun i hi=>p.getD i ι ι' _ hf (h2 i hi)
theorem PureV.list {α:Type}{enc:α->Value}{s:Nat}{l:List α} (p:∀ a,AllPure (cl (enc a))):PureV (FL s (l.map enc)):=PureV.fl fun x m=>by
 simp only[flatC,List.mem_flatMap,List.mem_map] at m;obtain⟨_,⟨a,_,rfl⟩,m⟩:=m;exact p a x m
section
variable {P:Program} {N:Nat}
theorem IM (hM:P.follows .mixedOrders=true) {c:Code}{nn:Nat} (hok:codeOk N nn c=true) {α S:Type} (l:List α) (I:List α->S->Heap->Prop) (env:Nat->S->List (Nat×Value)) {e:Env}{h:Heap}{K:X->Env->Heap->Prop} (hn:e.n=nn)
  (s0:S) (start:I [] s0 h) (hs:jQ (env 0 s0) e)
  (round:∀ d x r s base h,l=d++x::r->I d s h->ff (eA (env d.length s)) fun t=>CodeS P N c ⟨nn,t,base⟩ h fun y e1 h1=>match y with
   |.normal=>∃ s',I (d++[x]) s' h1/\jQ (env (d.length+1) s') e1
   |.exit id=>K (.exit id) e1 h1
   |.ret=>K .ret e1 h1)
  (fin:∀ s base h,I l s h->ff (eA (env l.length s)) fun t=>CodeS P N c ⟨nn,t,base⟩ h fun y e1 h1=>match y with
   |.normal=>False
   |.exit id=>K (.exit id) e1 h1
   |.ret=>K .ret e1 h1):tZ P N c e h K:=by
 refine ib hM hok (σ:=List α×List α×S) (fun q h=>q.1++q.2.1=l/\I q.1 q.2.2 h) (fun q=>env q.1.length q.2.2) (fun q=>q.2.1.length) hn ⟨([],l,s0),⟨rfl,start⟩,hs⟩ ?_;rintro⟨d,r,s⟩ base h ⟨hl,hI⟩
 cases r with
 |nil =>
  simp only[List.append_nil] at hl;subst hl;rw[cr];refine⟨fun a b=>?_⟩;obtain⟨x,e1,h1,c1,hk⟩:=((cr _ _).1 (fin s base h hI)).spec a b;refine⟨x,e1,h1,c1,?_⟩
  cases x with
  |normal=>exact hk.elim
  |exit id=>exact hk
  |ret=>exact hk
 |cons x r =>
  rw[cr];refine⟨fun a b=>?_⟩;obtain⟨y,e1,h1,c1,hk⟩:=((cr _ _).1 (round d x r s base h hl.symm hI)).spec a b;refine⟨y,e1,h1,c1,?_⟩
  cases y with
  |normal =>
   obtain⟨s',i1,i2⟩:=hk;exact⟨(d++[x],r,s'),by simp,⟨by simpa using hl,i1⟩,by simpa using i2⟩
  |exit id=>exact hk
  |ret=>exact hk
theorem Ir (hM:P.follows .mixedOrders=true) {c:Code}{nn:Nat} (hok:codeOk N nn c=true) {S:Type} (n:Nat) (I:Nat->S->Heap->Prop) (env:Nat->S->List (Nat×Value)) {e:Env}{h:Heap}{K:X->Env->Heap->Prop} (hn:e.n=nn)
  (s0:S) (start:I 0 s0 h) (hs:jQ (env 0 s0) e)
  (round:∀ i s base h,i<n->I i s h->ff (eA (env i s)) fun t=>CodeS P N c ⟨nn,t,base⟩ h fun y e1 h1=>match y with
   |.normal=>∃ s',I (i+1) s' h1/\jQ (env (i+1) s') e1
   |.exit id=>K (.exit id) e1 h1
   |.ret=>K .ret e1 h1)
  (fin:∀ s base h,I n s h->ff (eA (env n s)) fun t=>CodeS P N c ⟨nn,t,base⟩ h fun y e1 h1=>match y with
   |.normal=>False
   |.exit id=>K (.exit id) e1 h1
   |.ret=>K .ret e1 h1):tZ P N c e h K:=by
 have hr:∀ (d:List Nat) (x:Nat) (r:List Nat),List.range n=d++x::r->d.length=x/\x<n:=by
  intro d x r e
  have h1:(List.range n)[d.length]?=some x:=by rw[e];simp
  have h2:d.length<n:=by
   have:=(List.getElem?_eq_some_iff.1 h1).1;simpa using this
  rw[List.getElem?_range h2] at h1
  cases h1
  exact⟨rfl,h2⟩
 refine IM hM hok (List.range n) (fun d s h=>I d.length s h) env hn s0 start hs ?_ ?_
 ·intro d x r s base h hl hI;obtain⟨e1,e2⟩:=hr d x r hl;have:=round d.length s base h (by omega) hI;simpa using this
 ·intro s base h hI;rw[List.length_range] at hI ⊢;exact fin s base h hI
end
theorem nA {P:Program}{ρ:Operand->Value}{d:Option Tmp}{ty:TypeId}{pos:String}{af:Array Edge}{gd:Option (Nat×Bool)}{t:TypeId}{x i:Operand}{v:Value}{K:Value->Prop}
 (h:aq P ρ { dst:=d,op:=.indexAddr t x i,type:=ty,pos:=pos,after:=af,guard:=gd }=some v) (k:K v):∃ v,aq P ρ { dst:=d,op:=.indexAddr t x i,type:=ty,pos:=pos,after:=af,guard:=gd }=some v/\K v:=⟨v,h,k⟩
theorem Ix (n:Nat):ltI (Int.ofNat n) (Int.ofNat n)=false:=by rw[cX];simp
theorem Is {a b:Nat} (h:a<b):ltI (Int.ofNat a) (Int.ofNat b)=true:=by rw[cX];simpa using h
end Go.Abs

namespace Go.Abs
open Go.ChangeShapes
def Bj (P:Program):Nat->TypeId->Bool
 |0,_=>false
 |d+1,t=>match P.underlying t with
  |some (.int _)=>true
  |some (.array n e)=>P.cellsOf t==n*P.cellsOf e&&Bj P d e
  |some (.struct fs)=>P.cellsOf t==fs.size&&(List.range fs.size).all fun i=>match fs[i]? with
   |some f=>f.offset==i&&P.cellsOf f.type==1&&Bj P d f.type
   |none=>false
  |_=>false
theorem oO {H:Type}{enc:TypeId×Value->H}{P:Program}{w:World}{base:Nat}{spare:Nat->Bool}{held:Bool}:∀ (d:Nat) (t:TypeId) (fuel:Nat) (cs:List Value) (x:DataW H×List MemPlace),Bj P d t=true ->
  DataW.trod enc P w base spare held fuel t cs=some x->flat x.1=some cs
 |0,_,_,_,_,h,_=>by simp[Bj] at h
 |d+1,t,fuel,cs,x,h,ht=>by
  unfold Bj at h;split at h
  ·rename_i k hu;obtain⟨n,rfl,rfl,_⟩:=DataW.trod_int hu ht;simp[flat]
  ·rename_i n e hu;simp only[Bool.and_eq_true,beq_iff_eq] at h;obtain⟨xs,m,rfl,rfl,h1,h2,h3⟩:=DataW.trod_array hu ht;simp only[flat];refine jy (c:=P.cellsOf e) xs cs (by rw[h1,h2,h.1]) fun i y hy=>?_
   have hi:i<n:=by rw[<- h2];exact (List.getElem?_eq_some_iff.1 hy).1
   exact oO d e m _ y h.2 ((h3 i hi).trans hy)
  ·rename_i fs hu;simp only[Bool.and_eq_true,beq_iff_eq] at h;obtain⟨xs,m,rfl,rfl,h1,h2,h3⟩:=DataW.trod_struct hu ht;simp only[flat];refine jy (c:=1) xs cs (by rw[h1,h2,h.1,Nat.mul_one]) fun i y hy=>?_
   have hi:i<fs.size:=by rw[<- h2];exact (List.getElem?_eq_some_iff.1 hy).1
   have hf:=List.all_eq_true.1 h.2 i (List.mem_range.2 hi);have hfs:fs[i]?=some fs[i]:=Array.getElem?_eq_getElem hi;rw[hfs] at hf;simp only[Bool.and_eq_true,beq_iff_eq] at hf;have:=(h3 i _ hfs).trans hy;rw[hf.1.1,hf.1.2] at this;rw[Nat.mul_one];exact oO d _ m _ y hf.2 this
  ·cases h
theorem zj {P:Program}{n:String}{g:Nat}{t:TypeId}{dt:DataW Unit}{cs:Array Value}{W:World}{enc:TypeId×Value->Unit}{base:Nat}{spare:Nat->Bool}{held:Bool}{fuel depth:Nat}{p:List MemPlace}{vs:List Value}
  (hg:P.globalNamed n=some g) (hv:W.var? P n=some cs) (hd:DataW.trod enc P W base spare held fuel t cs.toList=some (dt,p)) (ha:Bj P depth t=true) (hf:flat dt=some vs) (i:Nat) :
  W.cell? ⟨g,i,none⟩=vs[i]?:=by
 have:=oO depth t fuel cs.toList _ ha hd;rw[hf] at this;simp only[Option.some.injEq] at this;rw[World.var?_cell hg hv i,this];simp
end Go.Abs

namespace Go.Abs
variable {P:Program} {ρ:Operand->Value} {d:Option Tmp} {ty:TypeId} {pos:String} {af:Array Edge} {gd:Option (Nat×Bool)} {h:Heap}
theorem wP {z:Value}{s:Nat} (hs:z.cells.size=s) (hpos:0<s) (n:Nat):(iw z.cells (n*s)).toList=flatC (List.replicate n z):=by
 have hz:∀ x∈List.replicate n z,(cl x).length=s:=fun x hx=>by
  rw[(List.mem_replicate.1 hx).2];simpa[cl] using hs
 apply List.ext_getElem?;intro i;rw[flatC,kB hpos _ hz i];by_cases hi:i<n*s
 ·have h1:i/s<n:=by rw[Nat.div_lt_iff_lt_mul hpos];exact hi
  have h2:i%s<z.cells.size:=by rw[hs];exact Nat.mod_lt _ hpos
  rw[List.getElem?_replicate,if_pos h1,Option.bind_some];simp only[iw,Array.toList_map,List.getElem?_map,Array.toList_range,List.getElem?_range hi,Option.map_some,cl,hs];rw[getElem!_pos z.cells (i%s) h2,Array.getElem?_toList,Array.getElem?_eq_getElem h2]
 ·have h1:¬ i/s<n:=by rw[Nat.div_lt_iff_lt_mul hpos];exact hi
  rw[List.getElem?_replicate,if_neg h1,Option.bind_none,List.getElem?_eq_none];rw[Array.length_toList,qL];omega
theorem vS {t e:TypeId}{x y:Operand}{n b s:Nat}{z:Value} (hu:P.underlying t=some (.slice e)) (hs:aQ P e=some s) (hb:kJ P e=some b) (hz:zeroOf P e=some z) (hz1:z.cells.size=s) (hpos:0<s) (hp:z.cells.all aJ=true)
  (hx:ρ x=.int .i64 (Int.ofNat n)) (hy:ρ y=.int .i64 (Int.ofNat n)) (hn:b*n<=2 ^ 48) (hn2:n<2 ^ 63) :
  anew P ρ { dst:=d,op:=.makeSlice t x y,type:=ty,pos:=pos,after:=af,guard:=gd }=some (.cells (flatC (List.replicate n z)) false,fun g=>.slice (some ⟨g,0,none⟩) n n):=by
 unfold anew;simp only[hu,hx,hy,hs,hb,hz]
 have c:0<=Int.ofNat n/\Int.ofNat n<=Int.ofNat n/\(b:Int)*Int.ofNat n<=2 ^ 48/\Int.ofNat n<2 ^ 63/\z.cells.all aJ=true:=by
  refine⟨Int.natCast_nonneg n,Int.le_refl _,?_,?_,hp⟩
  ·have:((b*n:Nat):Int)<=((2 ^ 48:Nat):Int):=Int.ofNat_le.2 hn;simpa using this
  ·have:((n:Nat):Int)<((2 ^ 63:Nat):Int):=Int.ofNat_lt.2 hn2;simpa using this
 rw[if_pos c];have:(Int.ofNat n).toNat=n:=rfl;rw[this,wP hz1 hpos]
theorem vv {t yt:TypeId}{x y:Operand}{k:IntKind}{a b:Nat} (hx:ρ x=.int k (Int.ofNat a)) (hy:ρ y=.int k (Int.ofNat b)) (hb:0<b) :
  aq P ρ { dst:=d,op:=.binOp .rem t x y yt,type:=ty,pos:=pos,after:=af,guard:=gd }=some (.int k (Int.ofNat (a%b))):=by
 have hp:(Op.binOp .rem t x y yt).operands.all (fun x=>plain (ρ x))=true:=by simp[Op.operands,hx,hy,plain,aJ]
 have hpl:plain (.int k (Int.ofNat (a%b)))=true:=rfl
 have this:bK P (execOp ρ { dst:=d,op:=.binOp .rem t x y yt,type:=ty,pos:=pos,after:=af,guard:=gd })=some (.value (.int k (Int.ofNat (a%b)))):=by
  have hne:¬ Int.ofNat b=0:=by simp only[Int.ofNat_eq_natCast];omega
  simp only[execOp,dE,hx,hy,binOp,eqGuard,ne_eq,not_true_eq_false,if_false,Op.intDiv,hne];rfl
 have that:aW P ρ { dst:=d,op:=.binOp .rem t x y yt,type:=ty,pos:=pos,after:=af,guard:=gd }=some (.int k (Int.ofNat (a%b))):=by
  unfold aW;rw[if_pos hp,this];simp only[hpl,if_true]
 unfold aq;simp only[hx,hy,quick,dK,if_pos];exact that
theorem qw {t yt:TypeId}{x y:Operand}{a b:Nat} (hx:ρ x=.int .u8 (Int.ofNat a)) (hy:ρ y=.int .u8 (Int.ofNat b)) (hb:a+b<256) :
  aq P ρ { dst:=d,op:=.binOp .add t x y yt,type:=ty,pos:=pos,after:=af,guard:=gd }=some (.int .u8 (Int.ofNat (a+b))):=by
 refine vr hx hy ?_;simp only[dK,Option.some.injEq,Value.int.injEq,true_and];rw[IntWalk.u8_in _ (by simp only[Int.ofNat_eq_natCast];omega)];rfl
end Go.Abs
