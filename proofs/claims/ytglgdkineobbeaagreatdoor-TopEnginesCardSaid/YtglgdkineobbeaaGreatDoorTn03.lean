/- Parts of the proof. -/
import Derived.Test.YtglgdkineobbeaaGreatDoorTn02
import Derived.DeepKeys
open Go.Op renaming eqFields->R6,eqItems->Si,equalIn->OG
open Go.Result renaming andThen_ok->Mo
open Go.Sem renaming run_bind->Mv
namespace Go.Abs
def IW(a b:Option Bool):Option Bool :=
 match a,b with
 |some p,some q=>some (p&&q)
 |_,_=>none
def Fw (P:Program) (rec:TypeId->Value->Value->Option Bool) (xs ys:Array Value):List Field->Option Bool
 |[]=>some true
 |f :: r => if f.name = "_" then none else
  match partOf P f.type xs f.offset,partOf P f.type ys f.offset with
  |some a,some b=>IW (rec f.type a b) (Fw P rec xs ys r)
  |_,_=>none
def GS(P:Program)(rec:TypeId->Value->Value->Option Bool)(e:TypeId)(c:Nat)(xs ys:Array Value):List Nat->Option Bool
 |[]=>some true
 |i::r =>
  match partOf P e xs (i*c),partOf P e ys (i*c) with
  |some a,some b=>IW (rec e a b) (GS P rec e c xs ys r)
  |_,_=>none
def eqV(P:Program):Nat->TypeId->Value->Value->Option Bool
 |0,_,_,_=>none
 |d+1,t,x,y =>
  match P.underlying t,x,y with
  |some .bool,.bool a,.bool b=>some (a==b)
  |some (.int _),.int k a,.int k' b=>if k=k' then some (a==b) else none
  |some .string,.string a,.string b=>some (a==b)
  |some (.struct fs),.agg xs,.agg ys=>if P.stoodInHeld t then none else Fw P (eqV P d) xs ys fs.toList
  |some (.array n e),.agg xs,.agg ys=>match P.info? e with
   |some _=>GS P (eqV P d) e (P.cellsOf e) xs ys (List.range n)
   |none=>none
  |_,_,_=>none
theorem jS{P:Program}{t:TypeId}{cs:Array Value}{off:Nat}{v:Value}(h:partOf P t cs off=some v)(w:World):(part t cs off).run P w=.ok v w:=by
 unfold partOf at h
 cases ha:iz P t with
 |none=>simp[ha] at h
 |some b =>
  cases b with
  |true =>
   cases hs:bb P t with
   |none=>simp[ha,hs] at h
   |some n =>
    simp only[ha,hs] at h;split at h
    .cases h
     simp[part,iZ ha,bg hs]
    .cases h
  |false =>
   simp only[ha] at h;simp[part,iZ ha,h]
theorem yh{a b:Option Bool}{r:Bool}(h:IW a b=some r):∃p q,a=some p/\b=some q/\r=(p&&q):=by
 unfold IW at h;split at h
 .rename_i p q;exact⟨p,q,rfl,rfl,by simpa using h.symm⟩
 .cases h
theorem BD{P:Program}{rec:TypeId->Value->Value->Option Bool}{dd:Nat}(IH:∀t x y b,rec t x y=some b->∀w,(OG dd t x y).run P w=.ok b w)(xs ys:Array Value) :
  ∀(fs:List Field) (b:Bool),Fw P rec xs ys fs=some b->∀w,(R6 dd xs ys fs).run P w=.ok b w
 |[],b,h,w=>by
  simp only[Fw,LR] at h;subst h;simp[R6]
 |f::fs,b,h,w=>by
  unfold Fw at h;split at h
  .cases h
  .rename_i hn;split at h
   .rename_i x y h1 h2;obtain⟨p,q,e1,e2,rfl⟩:=yh h;have r1:=IH _ _ _ _ e1 w;have r2:=BD IH xs ys fs q e2 w;simp only[R6,hn,ne_eq,not_false_eq_true,if_true,Mv,jS h1,jS h2,r1,Mo]
    cases p
    .simp
    .simpa using r2
   .cases h
theorem A6{P:Program}{rec:TypeId->Value->Value->Option Bool}{dd:Nat}{e:TypeId}{c:Nat}(IH:∀t x y b,rec t x y=some b->∀w,(OG dd t x y).run P w=.ok b w)(xs ys:Array Value) :
  ∀(is:List Nat) (b:Bool),GS P rec e c xs ys is=some b->∀w,(Si dd e c xs ys is).run P w=.ok b w
 |[],b,h,w=>by
  simp only[GS,LR] at h;subst h;simp[Si]
 |i::is,b,h,w=>by
  unfold GS at h;split at h
  .rename_i x y h1 h2;obtain⟨p,q,e1,e2,rfl⟩:=yh h;have r1:=IH _ _ _ _ e1 w;have r2:=A6 IH xs ys is q e2 w;simp only[Si,Mv,jS h1,jS h2,r1,Mo]
   cases p
   .simp
   .simpa using r2
  .cases h
theorem zn{P:Program}(dd:Nat):∀(d:Nat) (t:TypeId) (x y:Value) (b:Bool),eqV P d t x y=some b->∀w,(OG (dd+d) t x y).run P w=.ok b w
 |0,_,_,_,_,h,_=>by simp[eqV] at h
 |d+1,t,x,y,b,h,w=>by
  have IH:=zn (P:=P) dd d;rw[show dd+(d+1)=(dd+d)+1 by omega];unfold eqV at h;split at h
  .rename_i hu;simp only[LR] at h;subst h;simp[OG,ax hu]
  .rename_i hu;split at h
   .rename_i hk;simp only[LR] at h;subst h hk;simp[OG,ax hu]
   .cases h
  .rename_i hu;simp only[LR] at h;subst h;simp[OG,ax hu]
  .rename_i fs xs ys hu;split at h
   .cases h
   .rename_i hp
    have hf:P.fieldsOf t=fs:=by simp[Program.fieldsOf,hu]
    rw[run_equalIn_struct (P:=P) w (dd+d) t xs ys (by rw[hf];exact hu) (by simpa using hp),hf];exact BD IH xs ys _ b h w
  .rename_i n e xs ys hu;split at h
   .rename_i i hi;rw[run_equalIn_array (P:=P) w (dd+d) xs ys hu hi];exact A6 IH xs ys _ b h w
   .cases h
  .cases h
end Go.Abs
