/-
  AbsXp: parts of the proof.
-/
import Derived.Test.YtobphhjcadjfjaaDoorSg28
import Derived.KernelRfl
namespace Go.Abs
def pI:Value->Bool
 |.agg ⟨l⟩=>l.all aF
 |v=>aF v
def oe:Value->Bool
 |.tuple ⟨l⟩=>l.all pI
 |v=>pI v
theorem qM {v:Value} (h:pI v=true):plain v=true:=by
 cases v <;> try exact h
 rename_i cs
 obtain⟨l⟩:=cs
 show Array.all _ _=true
 rw[<- Array.all_toList]
 exact h
theorem xQ {v:Value} (h:oe v=true):fO v=true:=by
 have one:pI v=true->plain v=true:=qM
 cases v with
 |tuple vs =>
  obtain⟨l⟩:=vs
  show Array.all _ _=true
  rw[<- Array.all_toList]
  have h:l.all pI=true:=h
  exact List.all_eq_true.2 fun x m=>qM (List.all_eq_true.1 h x m)
 |_=>exact one h
theorem PureV.oe {v:Value} (h:oe v=true):PureV v:=PureV.flat (xQ h)
def ah (l:List Value):Prop:=∀ x∈l,PureV x
theorem ah.nil:ah []:=fun _ m=>by cases m
theorem ah.cons {x:Value}{l:List Value} (a:PureV x) (b:ah l):ah (x::l):=fun y m=>by
 rcases List.mem_cons.1 m with rfl|m
 ·exact a
 ·exact b y m
theorem PureV.undef:PureV undef:=PureV.flat (by kernel_rfl)
theorem ah.getD {l:List Value} (p:ah l) (i:Nat):PureV (l.getD i Go.undef):=by
 rw[List.getD]
 cases e:l[i]? with
 |none=>exact PureV.undef
 |some v=>exact p v (List.mem_of_getElem? e)
theorem ah.Bf {a:Array Value} (p:ah a.toList) (i:Nat):PureV (a.getD i Go.undef):=by
 rw[<- dW];exact p.getD i
theorem PureV.agg {l:List Value} (p:ah l):PureV (.agg ⟨l⟩):=fun ι ι' v' hf r=>by
 cases r with
 |agg _ a' h1 h2=>exact .agg _ a' h1 fun i=>p.Bf (a:=⟨l⟩) i ι ι' _ hf (h2 i)
theorem PureV.tup {l:List Value} (p:ah l):PureV (.tuple ⟨l⟩):=fun ι ι' v' hf r=>by
 cases r with
 |tuple _ a' h1 h2=>exact .tuple _ a' h1 fun i=>p.Bf (a:=⟨l⟩) i ι ι' _ hf (h2 i)
 |unit=>exact .unit
theorem PureV.fl {s:Nat}{es:List Value} (p:ah (flatC es)):PureV (FL s es):=fun ι ι' v' hf r=>by
 cases r with
 |flNil _=>exact .flNil s
 |flEmpty _ a cap=>exact .flEmpty s a cap
 |fl _ _ b o cap C h0 h1 h2 h3 h4 h5=>exact .fl s es b o cap C (hf _ _ h0) h1 h2 h3 h4 fun i hi=>p.getD i ι ι' _ hf (h5 i hi)
theorem PureV.list {α:Type}{enc:α->Value}{s:Nat}{l:List α} (p:∀ a,ah (cl (enc a))):PureV (FL s (l.map enc)):=PureV.fl fun x m=>by
 simp only[flatC,List.mem_flatMap,List.mem_map] at m
 obtain⟨_,⟨a,_,rfl⟩,m⟩:=m
 exact p a x m
section
variable {P:Program} {N:Nat}
theorem Ay (hM:P.follows .mixedOrders=true) {c:Code}{nn:Nat} (hok:codeOk N nn c=true) {α S:Type} (l:List α) (I:List α->S->Heap->Prop) (env:Nat->S->List (Nat×Value)) {e:Env}{h:Heap}{K:X->Env->Heap->Prop} (hn:e.n=nn)
  (s0:S) (start:I [] s0 h) (hs:fU (env 0 s0) e)
  (round:∀ d x r s base h,l=d++x::r->I d s h->dJ (dw (env d.length s)) fun t=>CodeS P N c ⟨nn,t,base⟩ h fun y e1 h1=>match y with
   |.normal=>∃ s',I (d++[x]) s' h1/\fU (env (d.length+1) s') e1
   |.exit id=>K (.exit id) e1 h1
   |.ret=>K .ret e1 h1)
  (fin:∀ s base h,I l s h->dJ (dw (env l.length s)) fun t=>CodeS P N c ⟨nn,t,base⟩ h fun y e1 h1=>match y with
   |.normal=>False
   |.exit id=>K (.exit id) e1 h1
   |.ret=>K .ret e1 h1):oJ P N c e h K:=by
 refine uU hM hok (σ:=List α×List α×S) (fun q h=>q.1++q.2.1=l/\I q.1 q.2.2 h) (fun q=>env q.1.length q.2.2) (fun q=>q.2.1.length) hn ⟨([],l,s0),⟨rfl,start⟩,hs⟩ ?_
 rintro⟨d,r,s⟩ base h ⟨hl,hI⟩
 cases r with
 |nil =>
  simp only[List.append_nil] at hl
  subst hl
  rw[bP]
  refine⟨fun a b=>?_⟩
  obtain⟨x,e1,h1,c1,hk⟩:=((bP _ _).1 (fin s base h hI)).spec a b
  refine⟨x,e1,h1,c1,?_⟩
  cases x with
  |normal=>exact hk.elim
  |exit id=>exact hk
  |ret=>exact hk
 |cons x r =>
  rw[bP]
  refine⟨fun a b=>?_⟩
  obtain⟨y,e1,h1,c1,hk⟩:=((bP _ _).1 (round d x r s base h hl.symm hI)).spec a b
  refine⟨y,e1,h1,c1,?_⟩
  cases y with
  |normal =>
   obtain⟨s',i1,i2⟩:=hk
   exact⟨(d++[x],r,s'),by simp,⟨by simpa using hl,i1⟩,by simpa using i2⟩
  |exit id=>exact hk
  |ret=>exact hk
theorem Ag (hM:P.follows .mixedOrders=true) {c:Code}{nn:Nat} (hok:codeOk N nn c=true) {S:Type} (n:Nat) (I:Nat->S->Heap->Prop) (env:Nat->S->List (Nat×Value)) {e:Env}{h:Heap}{K:X->Env->Heap->Prop} (hn:e.n=nn)
  (s0:S) (start:I 0 s0 h) (hs:fU (env 0 s0) e)
  (round:∀ i s base h,i<n->I i s h->dJ (dw (env i s)) fun t=>CodeS P N c ⟨nn,t,base⟩ h fun y e1 h1=>match y with
   |.normal=>∃ s',I (i+1) s' h1/\fU (env (i+1) s') e1
   |.exit id=>K (.exit id) e1 h1
   |.ret=>K .ret e1 h1)
  (fin:∀ s base h,I n s h->dJ (dw (env n s)) fun t=>CodeS P N c ⟨nn,t,base⟩ h fun y e1 h1=>match y with
   |.normal=>False
   |.exit id=>K (.exit id) e1 h1
   |.ret=>K .ret e1 h1):oJ P N c e h K:=by
 have hr:∀ (d:List Nat) (x:Nat) (r:List Nat),List.range n=d++x::r->d.length=x/\x<n:=by
  intro d x r e
  have h1:(List.range n)[d.length]?=some x:=by rw[e];simp
  have h2:d.length<n:=by
   have:=(List.getElem?_eq_some_iff.1 h1).1
   simpa using this
  rw[List.getElem?_range h2] at h1
  cases h1
  exact⟨rfl,h2⟩
 refine Ay hM hok (List.range n) (fun d s h=>I d.length s h) env hn s0 start hs ?_ ?_
 ·intro d x r s base h hl hI
  obtain⟨e1,e2⟩:=hr d x r hl
  have:=round d.length s base h (by omega) hI
  simpa using this
 ·intro s base h hI
  rw[List.length_range] at hI ⊢
  exact fin s base h hI
end
theorem jw {P:Program}{ρ:Operand->Value}{d:Option Tmp}{ty:TypeId}{pos:String}{af:Array Edge}{gd:Option (Nat×Bool)}{t:TypeId}{x i:Operand}{v:Value}{K:Value->Prop}
 (h:an P ρ { dst:=d,op:=.indexAddr t x i,type:=ty,pos:=pos,after:=af,guard:=gd }=some v) (k:K v):∃ v,an P ρ { dst:=d,op:=.indexAddr t x i,type:=ty,pos:=pos,after:=af,guard:=gd }=some v/\K v:=⟨v,h,k⟩
theorem Aq (n:Nat):ltI (Int.ofNat n) (Int.ofNat n)=false:=by rw[dc];simp
theorem AG {a b:Nat} (h:a<b):ltI (Int.ofNat a) (Int.ofNat b)=true:=by rw[dc];simpa using h
end Go.Abs
