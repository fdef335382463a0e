/-
  AbsXp: parts of the proof.
-/
import Derived.Test.YteceaohcjmbfbaaGreatDoorSe28
import Derived.KernelRfl
namespace Go.Abs
def rn:Value->Bool
 |.agg ⟨l⟩=>l.all aI
 |v=>aI v
def qe:Value->Bool
 |.tuple ⟨l⟩=>l.all rn
 |v=>rn v
theorem sL {v:Value} (h:rn v=true):plain v=true:=by
 cases v <;> try exact h
 rename_i cs
 obtain⟨l⟩:=cs
 show Array.all _ _=true
 rw[<- Array.all_toList]
 exact h
theorem js {v:Value} (h:qe v=true):eM v=true:=by
 have one:rn v=true->plain v=true:=sL
 cases v with
 |tuple vs =>
  obtain⟨l⟩:=vs
  show Array.all _ _=true
  rw[<- Array.all_toList]
  have h:l.all rn=true:=h
  exact List.all_eq_true.2 fun x m=>sL (List.all_eq_true.1 h x m)
 |_=>exact one h
theorem PureV.qe {v:Value} (h:qe v=true):PureV v:=PureV.flat (js h)
def aj (l:List Value):Prop:=∀ x∈l,PureV x
theorem aj.nil:aj []:=fun _ m=>by cases m
theorem aj.cons {x:Value}{l:List Value} (a:PureV x) (b:aj l):aj (x::l):=fun y m=>by
 rcases List.mem_cons.1 m with rfl|m
 ·exact a
 ·exact b y m
theorem aj.append {a b:List Value} (p:aj a) (q:aj b):aj (a++b):=fun y m=>by
 rcases List.mem_append.1 m with m|m
 ·exact p y m
 ·exact q y m
theorem PureV.undef:PureV undef:=PureV.flat (by kernel_rfl)
theorem aj.getD {l:List Value} (p:aj l) (i:Nat):PureV (l.getD i Go.undef):=by
 rw[List.getD]
 cases e:l[i]? with
 |none=>exact PureV.undef
 |some v=>exact p v (List.mem_of_getElem? e)
theorem aj.AZ {a:Array Value} (p:aj a.toList) (i:Nat):PureV (a.getD i Go.undef):=by
 rw[<- dA];exact p.getD i
theorem PureV.agg {l:List Value} (p:aj l):PureV (.agg ⟨l⟩):=fun ι ι' v' hf r=>by
 cases r with
 |agg _ a' h1 h2=>exact .agg _ a' h1 fun i=>p.AZ (a:=⟨l⟩) i ι ι' _ hf (h2 i)
theorem PureV.tup {l:List Value} (p:aj l):PureV (.tuple ⟨l⟩):=fun ι ι' v' hf r=>by
 cases r with
 |tuple _ a' h1 h2=>exact .tuple _ a' h1 fun i=>p.AZ (a:=⟨l⟩) i ι ι' _ hf (h2 i)
 |unit=>exact .unit
theorem PureV.func {f:Fn}{l m:List Value} (p:aj l) (q:aj m):PureV (.func f ⟨l⟩ ⟨m⟩):=fun ι ι' v' hf r=>by
 cases r with
 |func _ _ _ a' b' h1 h2 h3 h4=>exact .func f _ _ a' b' h1 h2 (fun i=>p.AZ (a:=⟨l⟩) i ι ι' _ hf (h3 i)) (fun i=>q.AZ (a:=⟨m⟩) i ι ι' _ hf (h4 i))
theorem PureV.fl {s:Nat}{es:List Value} (p:aj (flatC es)):PureV (FL s es):=fun ι ι' v' hf r=>by
 cases r with
 |flNil _=>exact .flNil s
 |flEmpty _ a cap=>exact .flEmpty s a cap
 |fl _ _ b o cap C h0 h1 h2 h3 h4 h5=>exact .fl s es b o cap C (hf _ _ h0) h1 h2 h3 h4 fun i hi=>p.getD i ι ι' _ hf (h5 i hi)
theorem PureV.fp {v:Value} (p:aj (cl v)):PureV (FP v):=fun ι ι' v' hf r=>by
 cases r with
 |fp _ b o C h0 h1 h2=>exact .fp v b o C (hf _ _ h0) h1 fun i hi=>p.getD i ι ι' _ hf (h2 i hi)
theorem PureV.fe:PureV FE:=fun ι ι' v' _ r=>by
 cases r with
 |fe a=>exact .fe a
theorem PureV.list {α:Type}{enc:α->Value}{s:Nat}{l:List α} (p:∀ a,aj (cl (enc a))):PureV (FL s (l.map enc)):=PureV.fl fun x m=>by
 simp only[flatC,List.mem_flatMap,List.mem_map] at m
 obtain⟨_,⟨a,_,rfl⟩,m⟩:=m
 exact p a x m
section
variable {P:Program} {N:Nat}
theorem BG (hM:P.follows .mixedOrders=true) {c:Code}{nn:Nat} (hok:codeOk N nn c=true) {α S:Type} (l:List α) (I:List α->S->Heap->Prop) (env:Nat->S->List (Nat×Value)) {e:Env}{h:Heap}{K:X->Env->Heap->Prop} (hn:e.n=nn)
  (s0:S) (start:I [] s0 h) (hs:jl (env 0 s0) e)
  (round:∀ d x r s base h,l=d++x::r->I d s h->cD (cu (env d.length s)) fun t=>CodeS P N c ⟨nn,t,base⟩ h fun y e1 h1=>match y with
   |.normal=>∃ s',I (d++[x]) s' h1/\jl (env (d.length+1) s') e1
   |.exit id=>K (.exit id) e1 h1
   |.ret=>K .ret e1 h1)
  (fin:∀ s base h,I l s h->cD (cu (env l.length s)) fun t=>CodeS P N c ⟨nn,t,base⟩ h fun y e1 h1=>match y with
   |.normal=>False
   |.exit id=>K (.exit id) e1 h1
   |.ret=>K .ret e1 h1):qA P N c e h K:=by
 refine Cp hM hok (σ:=List α×List α×S) (fun q h=>q.1++q.2.1=l/\I q.1 q.2.2 h) (fun q=>env q.1.length q.2.2) (fun q=>q.2.1.length) hn ⟨([],l,s0),⟨rfl,start⟩,hs⟩ ?_
 rintro⟨d,r,s⟩ base h ⟨hl,hI⟩
 cases r with
 |nil =>
  simp only[List.append_nil] at hl
  subst hl
  rw[aY]
  refine⟨fun a b=>?_⟩
  obtain⟨x,e1,h1,c1,hk⟩:=((aY _ _).1 (fin s base h hI)).spec a b
  refine⟨x,e1,h1,c1,?_⟩
  cases x with
  |normal=>exact hk.elim
  |exit id=>exact hk
  |ret=>exact hk
 |cons x r =>
  rw[aY]
  refine⟨fun a b=>?_⟩
  obtain⟨y,e1,h1,c1,hk⟩:=((aY _ _).1 (round d x r s base h hl.symm hI)).spec a b
  refine⟨y,e1,h1,c1,?_⟩
  cases y with
  |normal =>
   obtain⟨s',i1,i2⟩:=hk
   exact⟨(d++[x],r,s'),by simp,⟨by simpa using hl,i1⟩,by simpa using i2⟩
  |exit id=>exact hk
  |ret=>exact hk
theorem BT (hM:P.follows .mixedOrders=true) {c:Code}{nn:Nat} (hok:codeOk N nn c=true) {S:Type} (n:Nat) (I:Nat->S->Heap->Prop) (env:Nat->S->List (Nat×Value)) {e:Env}{h:Heap}{K:X->Env->Heap->Prop} (hn:e.n=nn)
  (s0:S) (start:I 0 s0 h) (hs:jl (env 0 s0) e)
  (round:∀ i s base h,i<n->I i s h->cD (cu (env i s)) fun t=>CodeS P N c ⟨nn,t,base⟩ h fun y e1 h1=>match y with
   |.normal=>∃ s',I (i+1) s' h1/\jl (env (i+1) s') e1
   |.exit id=>K (.exit id) e1 h1
   |.ret=>K .ret e1 h1)
  (fin:∀ s base h,I n s h->cD (cu (env n s)) fun t=>CodeS P N c ⟨nn,t,base⟩ h fun y e1 h1=>match y with
   |.normal=>False
   |.exit id=>K (.exit id) e1 h1
   |.ret=>K .ret e1 h1):qA P N c e h K:=by
 have hr:∀ (d:List Nat) (x:Nat) (r:List Nat),List.range n=d++x::r->d.length=x/\x<n:=by
  intro d x r e
  have h1:(List.range n)[d.length]?=some x:=by rw[e];simp
  have h2:d.length<n:=by
   have:=(List.getElem?_eq_some_iff.1 h1).1
   simpa using this
  rw[List.getElem?_range h2] at h1
  cases h1
  exact⟨rfl,h2⟩
 refine BG hM hok (List.range n) (fun d s h=>I d.length s h) env hn s0 start hs ?_ ?_
 ·intro d x r s base h hl hI
  obtain⟨e1,e2⟩:=hr d x r hl
  have:=round d.length s base h (by omega) hI
  simpa using this
 ·intro s base h hI
  rw[List.length_range] at hI ⊢
  exact fin s base h hI
end
theorem tp {P:Program}{ρ:Operand->Value}{d:Option Tmp}{ty:TypeId}{pos:String}{af:Array Edge}{gd:Option (Nat×Bool)}{t:TypeId}{x i:Operand}{v:Value}{K:Value->Prop}
 (h:aw P ρ { dst:=d,op:=.indexAddr t x i,type:=ty,pos:=pos,after:=af,guard:=gd }=some v) (k:K v):∃ v,aw P ρ { dst:=d,op:=.indexAddr t x i,type:=ty,pos:=pos,after:=af,guard:=gd }=some v/\K v:=⟨v,h,k⟩
theorem BW (n:Nat):ltI (Int.ofNat n) (Int.ofNat n)=false:=by rw[dB];simp
theorem BU {a b:Nat} (h:a<b):ltI (Int.ofNat a) (Int.ofNat b)=true:=by rw[dB];simpa using h
end Go.Abs
