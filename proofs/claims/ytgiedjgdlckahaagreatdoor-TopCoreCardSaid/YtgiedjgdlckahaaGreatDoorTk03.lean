/-
  AbsCe: parts of the proof.
-/
import Derived.Test.YtgiedjgdlckahaaGreatDoorTk02
import Derived.DeepKeys
namespace Go.Abs
def Hd (a b:Option Bool):Option Bool :=
 match a,b with
 |some p,some q=>some (p&&q)
 |_,_=>none
def F2 (P:Program) (rec:TypeId->Value->Value->Option Bool) (xs ys:Array Value):List Field->Option Bool
 |[]=>some true
 |f :: r => if f.name = "_" then none else
  match partOf P f.type xs f.offset,partOf P f.type ys f.offset with
  |some a,some b=>Hd (rec f.type a b) (F2 P rec xs ys r)
  |_,_=>none
def FK (P:Program) (rec:TypeId->Value->Value->Option Bool) (e:TypeId) (c:Nat) (xs ys:Array Value):List Nat->Option Bool
 |[]=>some true
 |i::r =>
  match partOf P e xs (i*c),partOf P e ys (i*c) with
  |some a,some b=>Hd (rec e a b) (FK P rec e c xs ys r)
  |_,_=>none
def eqV (P:Program):Nat->TypeId->Value->Value->Option Bool
 |0,_,_,_=>none
 |d+1,t,x,y =>
  match P.underlying t,x,y with
  |some .bool,.bool a,.bool b=>some (a==b)
  |some (.int _),.int k a,.int k' b=>if k=k' then some (a==b) else none
  |some .string,.string a,.string b=>some (a==b)
  |some (.struct fs),.agg xs,.agg ys=>if P.stoodInHeld t then none else F2 P (eqV P d) xs ys fs.toList
  |some (.array n e),.agg xs,.agg ys=>match P.info? e with
   |some _=>FK P (eqV P d) e (P.cellsOf e) xs ys (List.range n)
   |none=>none
  |_,_,_=>none
theorem ir {P:Program}{t:TypeId}{cs:Array Value}{off:Nat}{v:Value} (h:partOf P t cs off=some v) (w:World):(part t cs off).run P w=.ok v w:=by
 unfold partOf at h
 cases ha:fB P t with
 |none=>simp[ha] at h
 |some b =>
  cases b with
  |true =>
   cases hs:aQ P t with
   |none=>simp[ha,hs] at h
   |some n =>
    simp only[ha,hs] at h;split at h
    ·cases h
     simp[part,fW ha,aR hs]
    ·cases h
  |false =>
   simp only[ha] at h;simp[part,fW ha,h]
theorem wG {a b:Option Bool}{r:Bool} (h:Hd a b=some r):∃ p q,a=some p/\b=some q/\r=(p&&q):=by
 unfold Hd at h;split at h
 ·rename_i p q;exact⟨p,q,rfl,rfl,by simpa using h.symm⟩
 ·cases h
theorem zD {P:Program}{rec:TypeId->Value->Value->Option Bool}{dd:Nat} (IH:∀ t x y b,rec t x y=some b->∀ w,(Op.equalIn dd t x y).run P w=.ok b w) (xs ys:Array Value) :
  ∀ (fs:List Field) (b:Bool),F2 P rec xs ys fs=some b->∀ w,(Op.eqFields dd xs ys fs).run P w=.ok b w
 |[],b,h,w=>by
  simp only[F2,Option.some.injEq] at h;subst h;simp[Op.eqFields]
 |f::fs,b,h,w=>by
  unfold F2 at h;split at h
  ·cases h
  ·rename_i hn;split at h
   ·rename_i x y h1 h2;obtain⟨p,q,e1,e2,rfl⟩:=wG h;have r1:=IH _ _ _ _ e1 w;have r2:=zD IH xs ys fs q e2 w;simp only[Op.eqFields,hn,ne_eq,not_false_eq_true,if_true,Sem.run_bind,ir h1,ir h2,r1,Result.andThen_ok]
    cases p
    ·simp
    ·simpa using r2
   ·cases h
theorem Aw {P:Program}{rec:TypeId->Value->Value->Option Bool}{dd:Nat}{e:TypeId}{c:Nat} (IH:∀ t x y b,rec t x y=some b->∀ w,(Op.equalIn dd t x y).run P w=.ok b w) (xs ys:Array Value) :
  ∀ (is:List Nat) (b:Bool),FK P rec e c xs ys is=some b->∀ w,(Op.eqItems dd e c xs ys is).run P w=.ok b w
 |[],b,h,w=>by
  simp only[FK,Option.some.injEq] at h;subst h;simp[Op.eqItems]
 |i::is,b,h,w=>by
  unfold FK at h;split at h
  ·rename_i x y h1 h2;obtain⟨p,q,e1,e2,rfl⟩:=wG h;have r1:=IH _ _ _ _ e1 w;have r2:=Aw IH xs ys is q e2 w;simp only[Op.eqItems,Sem.run_bind,ir h1,ir h2,r1,Result.andThen_ok]
   cases p
   ·simp
   ·simpa using r2
  ·cases h
theorem xE {P:Program} (dd:Nat):∀ (d:Nat) (t:TypeId) (x y:Value) (b:Bool),eqV P d t x y=some b->∀ w,(Op.equalIn (dd+d) t x y).run P w=.ok b w
 |0,_,_,_,_,h,_=>by simp[eqV] at h
 |d+1,t,x,y,b,h,w=>by
  have IH:=xE (P:=P) dd d;rw[show dd+(d+1)=(dd+d)+1 by omega];unfold eqV at h;split at h
  ·rename_i hu;simp only[Option.some.injEq] at h;subst h;simp[Op.equalIn,ak hu]
  ·rename_i hu;split at h
   ·rename_i hk;simp only[Option.some.injEq] at h;subst h hk;simp[Op.equalIn,ak hu]
   ·cases h
  ·rename_i hu;simp only[Option.some.injEq] at h;subst h;simp[Op.equalIn,ak hu]
  ·rename_i fs xs ys hu;split at h
   ·cases h
   ·rename_i hp
    have hf:P.fieldsOf t=fs:=by simp[Program.fieldsOf,hu]
    rw[run_equalIn_struct (P:=P) w (dd+d) t xs ys (by rw[hf];exact hu) (by simpa using hp),hf];exact zD IH xs ys _ b h w
  ·rename_i n e xs ys hu;split at h
   ·rename_i i hi;rw[run_equalIn_array (P:=P) w (dd+d) xs ys hu hi];exact Aw IH xs ys _ b h w
   ·cases h
  ·cases h
end Go.Abs
