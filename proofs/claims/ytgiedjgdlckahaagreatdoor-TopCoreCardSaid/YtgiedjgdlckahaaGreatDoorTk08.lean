/-
  AbsG: parts of the proof.
-/
import Derived.Test.YtgiedjgdlckahaaGreatDoorTk07
import Derived.Laws.World
import Derived.IntWalk
import Derived.Laws.BytesArg
namespace Go.Abs
def kT (P:Program) (h:Heap) (t:TypeId) (g off:Nat):Option Value :=
 match h.get g with
 |some (.cells cs _) =>
  match fB P t with
  |some true =>
   match aQ P t with
   |some n=>if off+n<=cs.length then some (.agg ((cs.drop off).take n).toArray) else none
   |none=>none
  |some false=>cs[off]?
  |none=>none
 |_=>none
theorem nB {N:Nat}{P:Program}{ι:Inj}{h:Heap}{w:World} (H:HRel N ι h w) {t:TypeId}{g off:Nat}{l:Loc}{v:Value} (hl:ι g=some l) (e:kT P h t g off=some v) :
  ∃ v',(loadVar t ⟨l.blk,l.base+off,none⟩).run P w=.ok v' w/\VRel ι v v':=by
 unfold kT at e
 cases hg:h.get g with
 |none=>simp[hg] at e
 |some ob =>
  cases ob <;> try (simp[hg] at e;done)
  rename_i cs ro;simp only[hg] at e
  cases hagg:fB P t with
  |none=>simp[hagg] at e
  |some b =>
   cases b with
   |false =>
    simp only[hagg] at e;obtain⟨v',q1,q2⟩:=H.cell hl hg e;exact⟨v',by simp[loadVar,fW hagg,q1],q2⟩
   |true =>
    cases hs:aQ P t with
    |none=>simp[hagg,hs] at e
    |some n =>
     simp only[hagg,hs] at e;split at e
     ·rename_i hle;simp only[Option.some.injEq] at e;subst e;obtain⟨vs,q1,q2⟩:=H.loadCells (P:=P) hl hg hle;exact⟨.agg vs,by simp[loadVar,fW hagg,aR hs,q1],.agg _ _ q2.1 q2.2⟩
     ·cases e
def lK:List Value->Option (List Int)
 |[]=>some []
 |.int .u8 n::r=>match lK r with
  |some l=>some (n::l)
  |none=>none
 |_::_=>none
theorem oV:∀ {cs:List Value}{xs:List Int},lK cs=some xs->cs=xs.map (Value.int .u8)
 |[],xs,h=>by simp only[lK,Option.some.injEq] at h;subst h;rfl
 |v::r,xs,h=>by
  unfold lK at h;split at h
  ·rename_i hv;cases hv
  ·rename_i n r' hv
   cases hv
   split at h
   ·rename_i l hl
    cases h
    rw[oV hl];rfl
   ·cases h
  ·cases h
def xp (P:Program) (t:TypeId) (v:Value):Option Value :=
 match fB P t with
 |some true=>match v with
  |.agg cs=>match aQ P t with
   |some n=>match Nat.beq cs.toList.length n with
    |true=>some (.agg cs)
    |false=>none
   |none=>none
  |_=>none
 |some false=>match v with
  |.agg _=>none
  |v=>some v
 |none=>none
theorem oi {P:Program}{ι:Inj}{w:World} (hfz:∀ b C,ι.fz b=some C->∃ ty fr,w.heap[b]?=some (.cells C ty fr)) {t:TypeId}{i:Nat}{u x' v:Value} (r:VRel ι (.iface i (.agg ⟨[u]⟩)) x') (e:xp P t u=some v) :
  ∃ a v',x'=.pointer (some a)/\(loadVar t a).run P w=.ok v' w/\VRel ι v v':=by
 cases r with
 |fp _ b o C h0 h1 h2 =>
  obtain⟨ty,fr,hb⟩:=hfz b C h0
  have cell:∀ j,o+j<C.size->w.cell? ⟨b,o+j,none⟩=some (C.getD (o+j) undef):=fun j hj=>by
   simp[World.cell?,hb,Array.getD_eq_getD_getElem?,Array.getElem?_eq_getElem hj]
  unfold xp at e;split at e
  ·rename_i ha;split at e
   ·rename_i cs;split at e
    ·rename_i n hs;split at e
     ·rename_i hn;have hn':cs.toList.length=n:=Nat.eq_of_beq_eq_true hn;simp only[Option.some.injEq] at e;subst e;have hcl:cl (.agg cs)=cs.toList:=rfl;rw[hcl,hn'] at h1 h2;refine⟨_,.agg ((List.range n).map fun j=>C.getD (o+j) undef).toArray,rfl,?_,?_⟩
      ·simp only[loadVar,fW ha,aR hs,Sem.run_bind,Result.andThen_ok,if_true];rw[run_loadCells w _ n (fun j=>C.getD (o+j) undef) (fun j hj=>by rw[cj];exact cell j (by omega))];rfl
      ·have:aS ι cs.toList ((List.range n).map fun j=>C.getD (o+j) undef):=by
        refine aS.lL (by simp[hn']) fun j x y e1 e2=>?_
        have hj:j<n:=by rw[<- hn'];exact (List.getElem?_eq_some_iff.1 e1).1
        simp only[List.getElem?_map,List.getElem?_range hj,Option.map_some,Option.some.injEq] at e2;subst e2;have:=h2 j hj;simpa[List.getD,e1] using this
       have:=this.array;exact .agg _ _ this.1 this.2
     ·cases e
    ·cases e
   ·cases e
  ·rename_i ha
   have key:cl u=[u]->∃ a v',Value.pointer (some ⟨b,o,none⟩)=.pointer (some a)/\(loadVar t a).run P w=.ok v' w/\VRel ι u v':=fun eu=>by
    rw[eu] at h1 h2;simp only[List.length_singleton] at h1 h2;have c0:=cell 0 (by omega);have h20:=h2 0 (by omega);simp only[Nat.add_zero] at c0 h20;refine⟨_,C.getD o undef,rfl,?_,by simpa[List.getD] using h20⟩;simp only[loadVar,fW ha,Sem.run_bind,Result.andThen_ok,Bool.false_eq_true,if_false,run_load,c0]
   split at e
   ·cases e
   ·rename_i hna;simp only[Option.some.injEq] at e;subst e;exact key (by cases u <;> first|rfl|exact absurd rfl (hna _))
  ·cases e
def jO (h:Heap):Value->Option Value
 |.iface _ (.tuple ⟨es⟩)=>match lK es with
  |some xs=>some (.string (strOfNums xs))
  |none=>none
 |.slice none _ _=>some (.string ByteArray.empty)
 |.slice (some ⟨g,off,_⟩) len _ =>
  match h.get g with
  |some (.cells cs _)=>match lK ((cs.drop off).take len) with
   |some xs=>if xs.length=len then some (.string (strOfNums xs)) else none
   |none=>none
  |_=>none
 |_=>none
def eR:TypeDesc->Bool
 |.int _ | .string | .bool=>true
 |_=>false
def Fc:Value->Value->Bool
 |.int j a,.int k b=>j==k&&a==b
 |.bool a,.bool b=>a==b
 |.string a,.string b=>a==b
 |_,_=>false
def qT:List Value->List Value->Bool
 |[],[]=>true
 |x::xs,y::ys=>Fc x y&&qT xs ys
 |_,_=>false
def Cg (P:Program) (rec:TypeId->Value->Bool) (cs:Array Value):List Field->Bool
 |[]=>true
 |f::r=>match partOf P f.type cs f.offset with
  |some x=>rec f.type x&&Cg P rec cs r
  |none=>false
def B4 (P:Program) (rec:TypeId->Value->Bool) (e:TypeId) (c:Nat) (cs:Array Value):List Nat->Bool
 |[]=>true
 |i::r=>match partOf P e cs (i*c) with
  |some x=>rec e x&&B4 P rec e c cs r
  |none=>false
def zT (P:Program):Nat->TypeId->Value->Bool
 |0,_,_=>false
 |d+1,t,v =>
  match P.underlying t,v with
  |some (.int _),_|some .string,_|some .bool,_=>true
  |some (.struct fs),.agg cs=>Cg P (zT P d) cs fs.toList
  |some (.array n e),.agg cs=>match aQ P e with
   |some c=>B4 P (zT P d) e c cs (List.range' 0 n)
   |none=>false
  |_,_=>false
def eM (P:Program) (kt:TypeId) (kd:TypeDesc) (k k':Value):Option Bool :=
 match eR kd with
 |true=>Instr.sameNow kd k k'
 |false=>match ma P kt k k' with
  |some true=>match k',k with
   |.agg a,.agg b=>match qT a.toList b.toList with
    |true=>some true
    |false=>none
   |_,_=>none
  |some false=>some false
  |none=>none
def lD (P:Program) (kt:TypeId) (kd:TypeDesc) (k:Value):Bool :=
 match eR kd with
 |true=>true
 |false=>plain k&&zT P 9 kt k
def nm (P:Program) (kt:TypeId) (kind:TypeDesc) (k:Value):List (Value×Value)->Nat->Option (Option (Nat×Value))
 |[],_=>some none
 |(k',v)::es,i =>
  match eM P kt kind k k' with
  |some true=>some (some (i,v))
  |some false=>nm P kt kind k es (i+1)
  |none=>none
def entriesOf (h:Heap):Value->Option (List (Value×Value))
 |.map none=>some []
 |.map (some g)=>match h.get g with
  |some (.map es)=>some es
  |_=>none
 |_=>none
def aT (P:Program) (ρ:Operand->Value) (o:Oper) (h:Heap):Option Value :=
 match o.op with
 |.load t a =>
  match ρ a with
  |.pointer (some ⟨g,off,none⟩)=>kT P h t g off
  |.iface _ (.agg ⟨[u]⟩)=>xp P t u
  |_=>none
 |.convert s t x =>
  match P.underlying s,P.underlying t with
  |some (.slice e),some .string=>match P.underlying e with
   |some (.int .u8)=>jO h (ρ x)
   |_=>none
  |_,_=>aW P ρ o
 |.lookup t x i commaOk =>
  match P.underlying t with
  |some (.map kt e) =>
   match P.underlying kt,zeroOf P e,entriesOf h (ρ x) with
   |some kd,some z,some es =>
    if lD P kt kd (ρ i)=true/\plain z=true then
     match nm P kt kd (ρ i) es 0 with
     |some (some (_,v))=>some (match commaOk with|true=>.tuple #[v,.bool true] | false=>v)
     |some none=>some (match commaOk with|true=>.tuple #[z,.bool false] | false=>z)
     |none=>none
    else none
   |_,_,_=>none
  |_=>none
 |_=>none
def cA (ρ:Operand->Value) (o:Oper):Bool :=
 match o.op with
 |.load _ a=>match ρ a with
  |.iface _ _=>true
  |_=>false
 |.convert _ _ x=>match ρ x with
  |.int _ _=>true
  |_=>false
 |_=>false
theorem qG {P:Program}{ι:Inj}{h:Heap}{w:World}{ρ ρ':Operand->Value}{o:Oper}{v:Value} (hfz:∀ b C,ι.fz b=some C->∃ ty fr,w.heap[b]?=some (.cells C ty fr)) (hρ:∀ x∈o.op.operands,VRel ι (ρ x) (ρ' x))
  (hf:cA ρ o=true) (e:aT P ρ o h=some v):∃ v',(execOp ρ' o).run P w=.ok (.value v') w/\VRel ι v v':=by
 obtain⟨dst,op,type,pos,after,guard⟩:=o
 cases op <;> try (simp[cA] at hf;done)
 case convert s t x =>
  simp only[cA] at hf
  simp only[aT] at e
  split at e
  ·split at e
   ·cases hx:ρ x <;> simp[hx] at hf
    rw[hx] at e
    simp[jO] at e
   ·cases e
  ·obtain⟨v',q1,q2⟩:=jX (by simp) hρ e
   exact⟨v',q1 w,q2⟩
 rename_i t a;have ha:=hρ a (by simp[Op.operands]);simp only[aT] at e;simp only[cA] at hf;generalize ea:ρ a=y0 at ha e hf;generalize ea':ρ' a=y at ha
 split at e <;> try (cases e;done)
 ·simp at hf
 ·obtain⟨ad,v',rfl,q1,q2⟩:=oi hfz ha e;exact⟨v',by simp[execOp,Instr.loadAt,Instr.sureAddr,ea',q1],q2⟩
theorem VRel.uP {ι:Inj}{z:Value}{b:Bool} (h:plain z=true):VRel ι (.tuple #[z,.bool b]) (.tuple #[z,.bool b]):=by
 have:=aS.cons (VRel.aN (ι:=ι) h) (aS.cons (VRel.bool b) (aS.nil ι));exact .tuple _ _ this.array.1 this.array.2
theorem Bi {ι:Inj}{kind:TypeDesc}{k k':Value}{b:Bool} (e:Instr.sameNow kind k k'=some b) {c c':Value} (r:VRel ι k c) (r':VRel ι k' c'):c=k/\c'=k':=by
 unfold Instr.sameNow at e;split at e
 ·exact⟨r.bH rfl,r'.bH rfl⟩
 ·exact⟨r.bH rfl,r'.bH rfl⟩
 ·exact⟨r.bH rfl,r'.bH rfl⟩
 ·cases e
theorem BJ:∀ {a b:Value} (n:Nat),Fc a b=true->Instr.sameBits n a b=true
 |.int _ _,.int _ _,n,h=>by cases n <;> exact h
 |.bool _,.bool _,n,h=>by cases n <;> exact h
 |.string a,.string b,n,h=>by cases n <;> exact h
theorem rS (n:Nat):∀ {xs ys:List Value},qT xs ys=true->xs.length=ys.length/\((xs.zip ys).all fun (x,y)=>Instr.sameBits n x y)=true
 |[],[],_=>⟨rfl,rfl⟩
 |[],_::_,h=>by cases h
 |_::_,[],h=>by cases h
 |x::xs,y::ys,h=>by
  unfold qT at h;rw[Bool.and_eq_true] at h;obtain⟨h1,h2⟩:=rS n h.2;refine⟨by simp[h1],?_⟩;rw[List.zip_cons_cons,List.all_cons,h2,Bool.and_true];exact BJ n h.1
theorem oc {kd:TypeDesc}{a b:Value} (h:Instr.sameNow kd b a=some true):Instr.sameBits 10000 a b=true:=by
 unfold Instr.sameNow at h;split at h
 ·split at h
  ·rename_i hk;subst hk;simp only[Option.some.injEq,beq_iff_eq] at h;subst h;simp[Instr.sameBits]
  ·cases h
 ·rename_i x y;simp only[Option.some.injEq] at h;obtain⟨x⟩:=x;obtain⟨y⟩:=y;have h':(x==y)=true:=h;rw[beq_iff_eq] at h';subst h'
  show (x==x)=true
  simp
 ·simp only[Option.some.injEq,beq_iff_eq] at h;subst h;simp[Instr.sameBits]
 ·cases h
theorem Al {P:Program}{t:TypeId}{x y:Value}{q:Bool} (h:ma P t x y=some q):plain x=true/\plain y=true/\∀ w,(Op.equal t x y).run P w=.ok q w:=by
 unfold ma at h;split at h
 ·rename_i xs ys;split at h
  ·rename_i hc;simp only[Bool.and_eq_true,Bool.not_eq_true'] at hc;exact⟨hc.1.1,hc.1.2,fun w=>xE 9936 64 t _ _ q h w⟩
  ·cases h
 ·cases h
theorem oj {P:Program}{ι:Inj}{kt:TypeId}{kd:TypeDesc}{k k':Value}{b:Bool} (e:eM P kt kd k k'=some b) {c c':Value} (r:VRel ι k c) (r':VRel ι k' c') :
  (eR kd=true->Instr.sameNow kd c c'=some b)/\(eR kd=false->∀ w,(Op.equal kt c c').run P w=.ok b w)/\(b=true->Instr.sameBits 10000 c' c=true):=by
 unfold eM at e
 cases hk:eR kd with
 |true =>
  rw[hk] at e;dsimp only at e;obtain⟨e1,e2⟩:=Bi e r r';subst e1 e2;refine⟨fun _=>e,(fun h=>by cases h),fun hb=>?_⟩;subst hb;exact oc e
 |false =>
  rw[hk] at e;dsimp only at e
  cases he:ma P kt k k' with
  |none=>rw[he] at e;cases e
  |some q =>
   obtain⟨p1,p2,p3⟩:=Al he;have h1:=r.bS p1;have h2:=r'.bS p2;subst h1 h2;rw[he] at e
   cases q with
   |false =>
    cases e
    exact⟨(fun h=>by cases h),fun _ w=>p3 w,(fun h=>by cases h)⟩
   |true =>
    dsimp only at e;split at e
    ·rename_i a b';split at e
     ·rename_i hs
      cases e
      refine⟨(fun h=>by cases h),fun _ w=>p3 w,fun _=>?_⟩;obtain⟨g1,g2⟩:=rS 9999 hs
      show Instr.sameBits (9999+1) (.agg _) (.agg _)=true
      unfold Instr.sameBits;rw[g2,Bool.and_true,beq_iff_eq];simpa using g1
     ·cases e
    ·cases e
def Gx (P:Program) (kt:TypeId) (kd:TypeDesc) (c:Value) (E:List MapEntry) (i:Nat) (r:Option (Nat×Value)):Prop :=
 (eR kd=true->Instr.findNow kd c E i=some r)/\(eR kd=false->∀ w,(Instr.findAsking kt c E i).run P w=.ok r w)
theorem kD {P:Program}{ι:Inj}{kt:TypeId}{kind:TypeDesc}{k c:Value} (rk:VRel ι k c):∀ (es:List (Value×Value)) (E:List MapEntry) (i:Nat),es.length=E.length ->
  (∀ (j:Nat) (k v:Value),es[j]?=some (k,v)->∃ m:MapEntry,E[j]?=some m/\VRel ι k m.key/\VRel ι v m.val)->∀ r,nm P kt kind k es i=some r ->
  match r with
  |some (n,v)=>∃ v',Gx P kt kind c E i (some (n,v'))/\VRel ι v v'/\i<=n/\∃ m,E[n-i]?=some m/\Instr.sameBits 10000 m.key c=true/\m.val=v'
  |none=>Gx P kt kind c E i none
 |[],[],i,_,_,r,h=>by
  simp only[nm,Option.some.injEq] at h;subst h;exact⟨fun _=>rfl,fun _ w=>by simp[Instr.findAsking]⟩
 |[],_::_,_,h,_,_,_=>by simp at h
 |_::_,[],_,h,_,_,_=>by simp at h
 |(k',v)::es,m::E,i,hl,hE,r,h=>by
  obtain⟨m',e,r1,r2⟩:=hE 0 k' v rfl;simp only[List.getElem?_cons_zero,Option.some.injEq] at e;subst e;unfold nm at h;split at h
  ·rename_i hs;simp only[Option.some.injEq] at h;subst h;obtain⟨g1,g2,g3⟩:=oj hs rk r1;refine⟨m.val,⟨fun hk=>?_,fun hk w=>?_⟩,r2,Nat.le_refl _,m,by simp,g3 rfl,rfl⟩
   ·unfold Instr.findNow;rw[g1 hk]
   ·simp[Instr.findAsking,g2 hk w]
  ·rename_i hs;obtain⟨g1,g2,_⟩:=oj hs rk r1;have ih:=kD rk es E (i+1) (by simpa using hl) (fun j k v q=>hE (j+1) k v (by simpa using q)) r h
   cases r with
   |none =>
    refine⟨fun hk=>?_,fun hk w=>?_⟩
    ·unfold Instr.findNow;rw[g1 hk];exact ih.1 hk
    ·simp[Instr.findAsking,g2 hk w,ih.2 hk w]
   |some p =>
    obtain⟨n,u⟩:=p;obtain⟨v',q1,q2,q3,m',q4,q5,q6⟩:=ih;refine⟨v',⟨fun hk=>?_,fun hk w=>?_⟩,q2,by omega,m',?_,q5,q6⟩
    ·unfold Instr.findNow;rw[g1 hk];exact q1.1 hk
    ·simp[Instr.findAsking,g2 hk w,q1.2 hk w]
    ·have:n-i=(n-(i+1))+1:=by omega
     rw[this,List.getElem?_cons_succ];exact q4
  ·cases h
theorem wA {P:Program}{b:Bool}{n:Nat}{rec:TypeId->Value->Bool} (IH:∀ t v,rec t v=true->∀ w,(Instr.checkKey b n t v).run P w=.ok () w) (cs:Array Value) :
  ∀ (fs:List Field),Cg P rec cs fs=true->∀ w,(forIn fs PUnit.unit (fun f _=>do
   if f.name ≠ "_" then Instr.checkKey b n f.type (← part f.type cs f.offset)
   pure (ForInStep.yield PUnit.unit)):Sem PUnit).run P w=.ok () w
 |[],_,w=>by simp
 |f::r,h,w=>by
  unfold Cg at h
  split at h
  ·rename_i x hx
   rw[Bool.and_eq_true] at h
   have ih:=wA IH cs r h.2 w
   by_cases hn : f.name = "_"
   ·simpa[hn] using ih
   ·simpa[hn,ir hx,IH _ _ h.1] using ih
  ·cases h
theorem xe {P:Program}{b:Bool}{n:Nat}{rec:TypeId->Value->Bool} (IH:∀ t v,rec t v=true->∀ w,(Instr.checkKey b n t v).run P w=.ok () w) (cs:Array Value) {e:TypeId}{c:Nat} (hc:aQ P e=some c) :
  ∀ (is:List Nat),B4 P rec e c cs is=true->∀ w,(forIn is PUnit.unit (fun i _=>do
   Instr.checkKey b n e (<- part e cs (i*(<- sizeOf e)))
   pure (ForInStep.yield PUnit.unit)):Sem PUnit).run P w=.ok () w
 |[],_,w=>by simp
 |i::r,h,w=>by
  unfold B4 at h;split at h
  ·rename_i x hx;rw[Bool.and_eq_true] at h;have ih:=xe IH cs hc r h.2 w;simpa[aR hc,ir hx,IH _ _ h.1] using ih
  ·cases h
theorem wm {P:Program}{b:Bool} (n:Nat):∀ (d:Nat) (t:TypeId) (v:Value),zT P d t v=true->∀ w,(Instr.checkKey b (n+d) t v).run P w=.ok () w
 |0,_,_,h,_=>by cases h
 |d+1,t,v,h,w=>by
  have IH:=wm (P:=P) (b:=b) n d;rw[show n+(d+1)=(n+d)+1 by omega];unfold zT at h;unfold Instr.checkKey;split at h
  ·rename_i hu;simp[ak hu]
  ·rename_i hu;simp[ak hu]
  ·rename_i hu;simp[ak hu]
  ·rename_i fs cs hu;have q:=wA IH cs fs.toList h w;simpa[ak hu] using q
  ·rename_i m e cs hu;split at h
   ·rename_i c hc;have q:=xe IH cs hc _ h w;simpa[ak hu,Std.Legacy.Range.forIn_eq_forIn_range',Std.Legacy.Range.size] using q
   ·cases h
  ·cases h
theorem run_checkKey {P:Program}{w:World}{b:Bool}{t:TypeId}{kd:TypeDesc}{v:Value} (hu:P.underlying t=some kd) (hk:lD P t kd v=true) {ι:Inj}{v':Value} (r:VRel ι v v'):(Instr.checkKey b 10000 t v').run P w=.ok () w:=by
 unfold lD at hk
 cases hq:eR kd with
 |true =>
  unfold Instr.checkKey;simp only[Sem.run_bind,ak hu,Result.andThen_ok]
  cases kd <;> simp[eR] at hq <;> simp
 |false =>
  rw[hq] at hk;simp only[Bool.and_eq_true] at hk;rw[r.bS hk.1];exact wm 9991 9 t v hk.2 w
theorem ya {kd:TypeDesc} (h:eR kd=false) {k:Value}{e:MapEntry}{E:List MapEntry}{i:Nat}:Instr.findNow kd k (e::E) i=none:=by
 unfold Instr.findNow
 have:Instr.sameNow kd k e.key=none:=by
  unfold Instr.sameNow;split
  ·cases h
  ·cases h
  ·cases h
  ·rfl
 rw[this]
theorem run_findKey {P:Program}{w:World}{t:TypeId}{kd:TypeDesc}{k:Value}{E:List MapEntry}{r:Option (Nat×Value)} (hu:P.underlying t=some kd) (hf:Gx P t kd k E 0 r):(Instr.findKey t k E).run P w=.ok r w:=by
 unfold Instr.findKey
 cases hk:eR kd with
 |true=>simp only[Sem.run_bind,ak hu,Result.andThen_ok,hf.1 hk,Sem.run_pure]
 |false =>
  have h2:=hf.2 hk w
  cases E with
  |nil =>
   have e:Instr.findNow kd k [] 0=some none:=rfl;simp only[Sem.run_bind,ak hu,Result.andThen_ok,e,Sem.run_pure];simpa[Instr.findAsking] using h2
  |cons e E=>simp only[Sem.run_bind,ak hu,Result.andThen_ok,ya hk,h2]
theorem zB {N:Nat}{P:Program}{ι:Inj}{h:Heap}{w:World} (H:HRel N ι h w) {s t e:TypeId} (hs:P.underlying s=some (.slice e)) (he:P.underlying e=some (.int .u8)) (ht:P.underlying t=some .string) {x x' v:Value} (r:VRel ι x x')
  (hv:jO h x=some v):(convert s t x').run P w=.ok v w/\plain v=true:=by
 have key:∀ (g off len cap':Nat) (l:Loc) (o:Nat),ι g=some l->(len≠0->o=l.base+off)->∀ cs ro,h.get g=some (.cells cs ro)->∀ xs,lK ((cs.drop off).take len)=some xs->xs.length=len ->
   (convert s t (.slice (some ⟨l.blk,o,none⟩) len cap')).run P w=.ok (.string (strOfNums xs)) w:=by
  intro g off len cap' l o hl ho cs ro hg xs hx hlen;refine run_convert_bytes_arg w s e hs he l.blk o len cap' xs hlen (fun i hi=>?_) t ht;have hm:=oV hx
  have hi':i<xs.length:=by omega
  have hc:cs[off+i]?=some (.int .u8 xs[i]):=by
   have:((cs.drop off).take len)[i]?=some (.int .u8 xs[i]):=by rw[hm];simp[hi']
   rw[List.getElem?_take,if_pos hi,List.getElem?_drop] at this;exact this
  obtain⟨v',q1,q2⟩:=H.cell hl hg hc;have hv':=q2.bH rfl;subst hv';have ho':=ho (by omega);subst ho';rw[Nat.add_assoc,q1];simp[List.getD,List.getElem?_eq_getElem hi']
 cases r <;> try (simp[jO] at hv;done)
 case sliceNil =>
  simp only[jO,Option.some.injEq] at hv
  subst hv
  exact⟨run_convert_bytes_nil w s e hs he 0 0 t ht,rfl⟩
 case slice g off len cap o l hl hle ho =>
  simp only[jO] at hv
  split at hv
  ·rename_i cs ro hg
   split at hv
   ·rename_i xs hx
    split at hv
    ·rename_i hlen
     simp only[Option.some.injEq] at hv
     subst hv
     exact⟨key g off len cap l o hl (fun _=>ho (by omega)) cs ro hg xs hx hlen,rfl⟩
    ·cases hv
   ·cases hv
  ·cases hv
 case sliceOpen g off sp len cap cap' o l hl hle hcap ho htot =>
  simp only[jO] at hv
  split at hv
  ·rename_i cs ro hg
   split at hv
   ·rename_i xs hx
    split at hv
    ·rename_i hlen
     simp only[Option.some.injEq] at hv
     subst hv
     exact⟨key g off len cap' l o hl (fun _=>ho (by omega)) cs ro hg xs hx hlen,rfl⟩
    ·cases hv
   ·cases hv
  ·cases hv
 case flNil s0 =>
  simp only[jO,lK,Option.some.injEq] at hv
  subst hv
  exact⟨run_convert_bytes_nil w s e hs he 0 0 t ht,rfl⟩
 case flEmpty s0 a cap =>
  simp only[jO,lK,Option.some.injEq] at hv
  subst hv
  refine⟨(?_:(convert s t (.slice (some a) 0 cap)).run P w=.ok (.string ByteArray.empty) w),rfl⟩
  rw[run_convert_bytes_string w s t e _ 0 cap hs he ht]
  simp[Conv.bytesToString,loadCells,loadCellsFrom]
 case fl s0 es b o cap C h0 h1 h2 h3 h4 h5 =>
  simp only[jO] at hv
  split at hv
  ·rename_i xs hx
   simp only[Option.some.injEq] at hv
   subst hv
   have hm:=oV hx
   have hlen:xs.length=es.length:=by rw[hm];simp
   obtain⟨ty,fr,hb⟩:=H.frz b C h0
   have hne:0<es.length:=List.length_pos_iff.2 h1
   have hget:∀ i (hi:i<xs.length),es[i]?=some (.int .u8 xs[i]):=fun i hi=>(congrArg (fun l=>l[i]?) hm).trans (by simp[hi])
   have hs1:s0=1:=by
    have hm0:es[0]?=some (.int .u8 xs[0]):=hget 0 (by omega);rw[<- h3 _ (List.mem_of_getElem? hm0)];rfl
   subst hs1
   refine⟨run_convert_bytes_arg w s e hs he b o es.length cap xs hlen (fun i hi=>?_) t ht,rfl⟩
   have hi':i<xs.length:=by omega
   have q:=h5 i (by omega)
   have e1:(flatC es)[i]?=some (.int .u8 xs[i]):=by
    have hu:es[i]?=some (.int .u8 xs[i]):=hget i hi';have:=vf h3 hu (i:=0) (by omega);rw[Nat.mul_one,Nat.add_zero] at this;rw[this];rfl
   rw[List.getD,e1] at q
   have q':=q.bH rfl
   have hlt:o+i<C.size:=by omega
   simp only[Option.getD_some] at q'
   rw[Array.getD_eq_getD_getElem?,Array.getElem?_eq_getElem hlt] at q'
   simp only[Option.getD_some] at q'
   simp[World.cell?,hb,Array.getElem?_eq_getElem hlt,q',List.getD,List.getElem?_eq_getElem hi']
  ·cases hv
theorem uT {P:Program}{ρ:Operand->Value}{o:Oper}{v:Value} (h:aW P ρ o=some v):plain v=true:=by
 unfold aW at h;split at h
 ·split at h
  ·split at h
   ·rename_i hp;cases h;exact hp
   ·cases h
  ·cases h
 ·cases h
theorem nv {N:Nat}{P:Program}{ι:Inj}{h:Heap}{w:World} (H:HRel N ι h w) {ρ ρ':Operand->Value}{o:Oper}{v:Value} (hρ:∀ x∈o.op.operands,VRel ι (ρ x) (ρ' x))
  (e:aT P ρ o h=some v):∃ v',(execOp ρ' o).run P w=.ok (.value v') w/\VRel ι v v':=by
 obtain⟨dst,op,type,pos,after,guard⟩:=o
 cases op with
 |load t a =>
  have ha:=hρ a (by simp[Op.operands]);simp only[aT] at e;generalize ea:ρ a=y0 at ha e;generalize ea':ρ' a=y at ha
  split at e <;> try (cases e;done)
  ·rename_i g off
   cases ha
   rename_i l hl;obtain⟨v',q1,q2⟩:=nB H hl e;exact⟨v',by simp[execOp,Instr.loadAt,Instr.sureAddr,ea',q1],q2⟩
  ·obtain⟨ad,v',rfl,q1,q2⟩:=oi H.frz ha e;exact⟨v',by simp[execOp,Instr.loadAt,Instr.sureAddr,ea',q1],q2⟩
 |convert s t x =>
  have hx:=hρ x (by simp[Op.operands])
  have FB:∀ {u},aW P ρ ⟨dst,.convert s t x,type,pos,after,guard⟩=some u->∃ v',(execOp ρ' ⟨dst,.convert s t x,type,pos,after,guard⟩).run P w=.ok (.value v') w/\VRel ι u v' :=
   fun hf=>let ⟨v',q1,q2⟩:=jX (by simp) hρ hf;⟨v',q1 w,q2⟩
  simp only[aT] at e;split at e
  ·rename_i el hs ht;split at e
   ·rename_i he;obtain⟨q1,q2⟩:=zB H hs he ht hx e;exact⟨v,by simp[execOp,q1],VRel.aN q2⟩
   ·cases e
  ·exact FB e
 |lookup t x i commaOk =>
  have hx:=hρ x (by simp[Op.operands]);have hi:=hρ i (by simp[Op.operands]);simp only[aT] at e
  cases hu:P.underlying t with
  |none=>simp[hu] at e
  |some dd =>
   cases dd <;> try (simp[hu] at e;done)
   rename_i kt el
   cases hk:P.underlying kt with
   |none=>simp[hu,hk] at e
   |some kd =>
    cases hz:zeroOf P el with
    |none=>simp[hu,hk,hz] at e
    |some z =>
     cases he:entriesOf h (ρ x) with
     |none=>simp[hu,hk,hz,he] at e
     |some es =>
      simp only[hu,hk,hz,he] at e;split at e
      ·rename_i hc;obtain⟨c1,c2⟩:=hc
       have hE:∃ E:Array MapEntry,((ρ' x=.map none/\E = #[])\/∃ r c,ρ' x=.map (some r)/\w.heap[r]?=some (.map E c))/\es.length=E.toList.length/\∀ (j:Nat) (k v:Value),es[j]?=some (k,v)->∃ m:MapEntry,E.toList[j]?=some m/\VRel ι k m.key/\VRel ι v m.val:=by
        generalize ex:ρ x=y0 at hx he;generalize ex':ρ' x=y1 at hx
        cases hx <;> try (simp[entriesOf] at he;done)
        ·simp only[entriesOf,Option.some.injEq] at he;subst he;exact⟨#[],.inl ⟨rfl,rfl⟩,rfl,by simp⟩
        ·rename_i g l hl;simp only[entriesOf] at he;split at he
         ·rename_i es' hg;simp only[Option.some.injEq] at he;subst he;obtain⟨E,c,k1,k2,k3,k4,_⟩:=H.obj g l _ hl hg;refine⟨E,.inr ⟨l.blk,c,rfl,k1⟩,by simp[k3],fun j k v q=>?_⟩;obtain⟨m,q1,q2,q3⟩:=k4 j k v q;exact⟨m,by simpa using q1,q2,q3⟩
         ·cases he
       obtain⟨E,q1,q2,q3⟩:=hE
       cases hf:nm P kt kd (ρ i) es 0 with
       |none=>simp[hf] at e
       |some r =>
        have fs:=kD hi es E.toList 0 q2 q3 r hf
        cases r with
        |none =>
         simp only[hf,Option.some.injEq] at e;subst e;refine⟨match commaOk with|true=>.tuple #[z,.bool false] | false=>z,?_,?_⟩
         ·rcases q1 with⟨q1,rfl⟩|⟨r,c,q1,k1⟩
          ·simp only[execOp,Instr.lookup,Sem.run_bind,ak hu,Result.andThen_ok,q1,Sem.run_pure,run_checkKey hk c1 hi,run_findKey hk fs,eH hz]
           cases commaOk <;> rfl
          ·have hg:(getObj r).run P w=.ok (.map E c) w:=by simp[getObj,Sem.run,k1]
           simp only[execOp,Instr.lookup,Sem.run_bind,ak hu,Result.andThen_ok,q1,hg,Sem.run_pure,run_checkKey hk c1 hi,run_findKey hk fs,eH hz]
           cases commaOk <;> rfl
         ·cases commaOk
          ·exact VRel.aN c2
          ·exact VRel.uP c2
        |some p =>
         obtain⟨n,v0⟩:=p;simp only[hf,Option.some.injEq] at e;subst e;obtain⟨v',f1,f2,_⟩:=fs;refine⟨match commaOk with|true=>.tuple #[v',.bool true] | false=>v',?_,?_⟩
         ·rcases q1 with⟨q1,rfl⟩|⟨r,c,q1,k1⟩
          ·simp only[execOp,Instr.lookup,Sem.run_bind,ak hu,Result.andThen_ok,q1,Sem.run_pure,run_checkKey hk c1 hi,run_findKey hk f1]
           cases commaOk <;> rfl
          ·have hg:(getObj r).run P w=.ok (.map E c) w:=by simp[getObj,Sem.run,k1]
           simp only[execOp,Instr.lookup,Sem.run_bind,ak hu,Result.andThen_ok,q1,hg,Sem.run_pure,run_checkKey hk c1 hi,run_findKey hk f1]
           cases commaOk <;> rfl
         ·cases commaOk
          ·exact f2
          ·have:=aS.cons f2 (aS.cons (VRel.bool true) (aS.nil ι));exact .tuple _ _ this.array.1 this.array.2
      ·cases e
 |_=>simp[aT] at e
theorem ly {α:Type} (f:Nat->α):(Array.range 0).map f = #[]:=Array.eq_empty_of_size_eq_zero (by simp)
def iw (zero:Array Value) (n:Nat):Array Value:=(Array.range n).map fun i=>zero[i%zero.size]!
theorem qL (z:Array Value) (n:Nat):(iw z n).size=n:=by simp[iw]
theorem lS {z:Array Value} (h:z.all aJ=true) (n:Nat):(iw z n).all aJ=true:=by
 rw[Array.all_eq_true_iff_forall_mem];intro v hv;simp only[iw,Array.mem_map] at hv;obtain⟨i,_,rfl⟩:=hv;rw[Array.getElem!_eq_getD,Array.getD_eq_getD_getElem?]
 cases e:z[i%z.size]? with
 |none=>rfl
 |some u=>exact (Array.all_eq_true_iff_forall_mem.1 h) u (Array.mem_of_getElem? e)
theorem Gt (v:Value) (n:Nat):(iw #[v] n).toList=List.replicate n v:=by
 apply List.ext_getElem
 ·simp[iw]
 ·intro i h1 h2;simp[iw,Nat.mod_one]
def anew (P:Program) (ρ:Operand->Value) (o:Oper):Option (AObj×(Nat->Value)) :=
 match o.op with
 |.alloc t =>
  match zeroOf P t with
  |some z=>if z.cells.all aJ then some (.cells z.cells.toList false,fun g=>.pointer (some ⟨g,0,none⟩)) else none
  |none=>none
 |.box _ x=>some (.cells (ρ x).cells.toList false,fun g=>.pointer (some ⟨g,0,none⟩))
 |.buildSlice t len ps =>
  match P.underlying t with
  |some (.slice e) =>
   match aQ P e,zeroOf P e with
   |some s,some z =>
    if z.cells.all aJ&&decide (0<len*s)&&decide (len*s<=2 ^ 24) then
     match Instr.fill (fun i=>some (i*s,s)) (iw z.cells (len*s)) (ps.toList.map fun p=>(p.1,ρ p.2)) with
     |some cells=>some (.cells cells.toList false,fun g=>.slice (some ⟨g,0,none⟩) len len)
     |none=>none
    else if len=0/\ps.size=0 then some (.cells [] false,fun g=>.slice (some ⟨g,0,none⟩) 0 0)
    else none
   |_,_=>none
  |_=>none
 |.makeSlice t l c =>
  match P.underlying t,ρ l,ρ c with
  |some (.slice e),.int _ l,.int _ c =>
   match aQ P e,kJ P e,zeroOf P e with
   |some s,some b,some z =>
    if 0<=l/\l<=c/\(b:Int)*c<=2 ^ 48/\c<2 ^ 63/\z.cells.all aJ=true then
     some (.cells (iw z.cells (c.toNat*s)).toList false,fun g=>.slice (some ⟨g,0,none⟩) l.toNat c.toNat)
    else none
   |_,_,_=>none
  |_,_,_=>none
 |.makeMap _ none=>some (.map [],fun g=>.map (some g))
 |.makeMap t (some r) =>
  match P.underlying t,ρ r with
  |some (.map ..),.int .. => some (.map [],fun g=>.map (some g))
  |_,_=>none
 |.range t x =>
  match P.underlying t,ρ x with
  |some .string,.string s=>some (.iter s 0,fun g=>.pointer (some ⟨g,0,none⟩))
  |_,_=>none
 |_=>none
theorem uQ {P:Program}{ρ:Operand->Value}{o:Oper}{ob:AObj}{f:Nat->Value} (e:anew P ρ o=some (ob,f)):∀ cs,ob≠.cells cs true:=by
 unfold anew at e
 repeat' (split at e)
 all_goals first
  |(cases e;done)
  |(simp only[Option.some.injEq,Prod.mk.injEq] at e
    obtain⟨rfl,_⟩:=e
    intro cs hc
    cases hc)
theorem ORel.row {ι:Inj}{xs ys:Array Value} (r:bm ι xs ys) (b:Nat) (t:TypeId):ORel ι ⟨b,0,ys.size⟩ (.cells xs.toList false) (some (.cells ys t)):=by
 refine⟨ys,t,(0,0),rfl,fun _=>rfl,rfl,by simp[r.1],fun i v e=>?_⟩;obtain⟨v',q1,q2⟩:=r.get (i:=i) (v:=v) (by simpa using e);exact⟨v',by simpa using q1,q2⟩
theorem wrap_i64 {n:Int} (h0:0<=n) (h1:n<2 ^ 63):IntKind.i64.wrap n=n:=by
 exact IntWalk.i64_in n (by omega)
theorem run_askRoom {P:Program} (n:Nat) (w:World):(askRoom n).run P w=.ok () w:=by
 unfold askRoom;split
 ·simp[mark,Sem.run]
 ·rfl
theorem vj {P:Program}{ι:Inj}{ρ ρ':Operand->Value}{o:Oper}{ob:AObj}{f:Nat->Value} (hρ:∀ x∈o.op.operands,VRel ι (ρ x) (ρ' x)) (e:anew P ρ o=some (ob,f)) (w:World) :
  ∃ o' tot v',(execOp ρ' o).run P w=.ok (.value v') (w.alloc o')/\∀ ι1 g,Inj.Le ι ι1->ι1 g=some ⟨w.heap.size,0,tot⟩ ->
   ORel ι1 ⟨w.heap.size,0,tot⟩ ob (some o')/\VRel ι1 (f g) v':=by
 obtain⟨dst,op,type,pos,after,guard⟩:=o
 cases op with
 |alloc t =>
  simp only[anew] at e
  cases hz:zeroOf P t with
  |none=>simp[hz] at e
  |some z =>
   simp only[hz] at e;split at e
   ·rename_i hp;simp only[Option.some.injEq,Prod.mk.injEq] at e;obtain⟨rfl,rfl⟩:=e;refine⟨.cells z.cells t,z.cells.size,.pointer (some ⟨w.heap.size,0,none⟩),?_,fun ι1 g _ hg=>⟨ORel.row (bm.aN hp) _ _,?_⟩⟩
    ·simp[execOp,Instr.alloc,eH hz,newVar,newRow]
    ·exact .ptr g 0 _ hg
   ·cases e
 |box t x =>
  have hx:=hρ x (by simp[Op.operands]);simp only[anew,Option.some.injEq,Prod.mk.injEq] at e;obtain⟨rfl,rfl⟩:=e;refine⟨.cells (ρ' x).cells t,(ρ' x).cells.size,.pointer (some ⟨w.heap.size,0,none⟩),?_,fun ι1 g hext hg=>⟨ORel.row (hx.cells.mono hext) _ _,?_⟩⟩
  ·simp[execOp,Instr.box,newVar,newRow]
  ·exact .ptr g 0 _ hg
 |buildSlice t len ps =>
  simp only[anew] at e
  cases hu:P.underlying t with
  |none=>simp[hu] at e
  |some d =>
   cases d <;> try (simp[hu] at e;done)
   rename_i el
   cases hs:aQ P el with
   |none=>simp[hu,hs] at e
   |some s =>
    cases hz:zeroOf P el with
    |none=>simp[hu,hs,hz] at e
    |some z =>
     simp only[hu,hs,hz] at e;split at e
     ·rename_i hp;simp only[Bool.and_eq_true,decide_eq_true_eq] at hp
      cases hf:Instr.fill (fun i=>some (i*s,s)) (iw z.cells (len*s)) (ps.toList.map fun p=>(p.1,ρ p.2)) with
      |none=>simp[hf] at e
      |some cells =>
       simp only[hf,Option.some.injEq,Prod.mk.injEq] at e;obtain⟨rfl,rfl⟩:=e;have hps:∀ p∈ps.toList,VRel ι (ρ p.2) (ρ' p.2):=fun p hp=>hρ p.2 (by simp only[Op.operands,List.mem_toArray,List.mem_map];exact⟨p,hp,rfl⟩);obtain⟨cells',q1,q2⟩:=nc ps.toList hps _ _ _ (bm.aN (lS hp.1.1 (len*s))) hf;refine⟨.cells cells' el,cells'.size,.slice (some ⟨w.heap.size,0,none⟩) len len,?_,fun ι1 g hext hg=>⟨ORel.row (q2.mono hext) _ _,?_⟩⟩
       ·have h1:¬ len*s>2 ^ 24:=by omega
        have h2:¬ len*s=0:=by omega
        have h3:(ps.map fun (x:Nat×Operand)=>(x.1,ρ' x.2)).toList=ps.toList.map fun p=>(p.1,ρ' p.2):=by simp
        have q1':Instr.fill (fun i=>some (i*s,s)) ((Array.range (len*s)).map (fun i=>z.cells[i%z.cells.size]!)) (ps.map fun (x:Nat×Operand)=>(x.1,ρ' x.2)).toList=some cells':=by rw[h3];exact q1
        simp only[execOp,Instr.buildSlice,Sem.run_bind,ak hu,Result.andThen_ok,aR hs,h1,h2,if_false,eH hz];simp only[Sem.run_pure,Result.andThen_ok,q1'];simp[newRow]
       ·exact .slice g 0 _ _ _ _ hg (Nat.le_refl _) (fun _=>rfl)
     ·split at e
      ·rename_i hc;obtain⟨h0,h1⟩:=hc;subst h0;simp only[Option.some.injEq,Prod.mk.injEq] at e;obtain⟨rfl,rfl⟩:=e;have hps:ps = #[]:=Array.eq_empty_of_size_eq_zero h1;subst hps;refine⟨.cells #[] el,0,.slice (some ⟨w.heap.size,0,none⟩) 0 0,?_,fun ι1 g hext hg=>⟨?_,?_⟩⟩
       ·simp[execOp,Instr.buildSlice,ak hu,aR hs,Instr.fill,newRow];rw[ly]
       ·exact⟨#[],el,(0,0),rfl,fun _=>rfl,rfl,by simp,by simp⟩
       ·exact .slice g 0 _ _ _ _ hg (Nat.le_refl _) (fun _=>rfl)
      ·cases e
 |makeSlice t l c =>
  have hl:=hρ l (by simp[Op.operands]);have hc:=hρ c (by simp[Op.operands]);simp only[anew] at e
  cases hu:P.underlying t with
  |none=>simp[hu] at e
  |some d =>
   cases d <;> try (simp[hu] at e;done)
   rename_i el;generalize el0:ρ l=y0 at hl e;generalize el1:ρ' l=y1 at hl;generalize ec0:ρ c=z0 at hc e;generalize ec1:ρ' c=z1 at hc
   cases hl <;> try (simp[hu] at e;done)
   rename_i k1 n
   cases hc <;> try (simp[hu] at e;done)
   rename_i k2 m
   cases hs:aQ P el with
   |none=>simp[hu,hs] at e
   |some s =>
    cases hb:kJ P el with
    |none=>simp[hu,hs,hb] at e
    |some b =>
     cases hz:zeroOf P el with
     |none=>simp[hu,hs,hb,hz] at e
     |some z =>
      simp only[hu,hs,hb,hz] at e;split at e
      ·rename_i hcond;obtain⟨c1,c2,c3,c4,c5⟩:=hcond;simp only[Option.some.injEq,Prod.mk.injEq] at e;obtain⟨rfl,rfl⟩:=e;refine⟨.cells (iw z.cells (m.toNat*s)) el,(iw z.cells (m.toNat*s)).size,.slice (some ⟨w.heap.size,0,none⟩) n.toNat m.toNat,?_,fun ι1 g hext hg=>⟨ORel.row (bm.aN (lS c5 _)) _ _,?_⟩⟩
       ·have w1:=wrap_i64 c1 (by omega:n<2 ^ 63);have w2:=wrap_i64 (by omega:0<=m) c4
        have hinfo:∃ i,P.info? el=some i/\i.bytes=b:=by
         unfold kJ at hb
         cases hi:P.info? el with
         |none=>simp[hi] at hb
         |some i=>exact⟨i,rfl,by simpa[hi] using hb⟩
        obtain⟨i,hi,rfl⟩:=hinfo
        have t1:¬ (m<0\/(i.bytes:Int)*m>2 ^ 48):=by omega
        have t2:¬ n<0:=by omega
        have t3:¬ n>m:=by omega
        simp only[execOp,Instr.makeSlice,el1,ec1,Sem.run_bind,ak hu,Result.andThen_ok,asInt,asIntOf,Sem.run_pure,typeInfo,run_program,hi,w1,w2];simp only[decide_eq_false (show ¬ m<0 by omega),decide_eq_false t2,decide_eq_false t3,decide_eq_false (show ¬ (i.bytes:Int)*m>2 ^ 48 by omega),Bool.or_self,Bool.false_or,Bool.false_eq_true,if_false];simp only[run_askRoom,aR hs,Sem.run_bind,Result.andThen_ok];by_cases q:m.toNat*s=0
        ·simp[q,newRow,iw];rw[ly,ly]
        ·simp[q,newRow,iw,eH hz]
       ·refine .slice g 0 _ _ _ _ hg (by omega) (fun _=>rfl)
      ·cases e
 |makeMap t r =>
  cases r with
  |some r =>
   have hr:=hρ r (by simp[Op.operands]);simp only[anew] at e;split at e
   ·rename_i k0 e0 ik n hu hs;simp only[Option.some.injEq,Prod.mk.injEq] at e;obtain⟨rfl,rfl⟩:=e;rw[hs] at hr;have hr':=hr.bH rfl;refine⟨.map #[] 0,0,.map (some w.heap.size),?_,fun ι1 g hext hg=>⟨⟨#[],0,rfl,rfl,rfl,by simp,rfl,by simp⟩,.map g _ hg⟩⟩;simp[execOp,Instr.makeMap,ak hu,hr',asInt,asIntOf]
   ·cases e
  |none =>
   simp only[anew,Option.some.injEq,Prod.mk.injEq] at e;obtain⟨rfl,rfl⟩:=e;refine⟨.map #[] 0,0,.map (some w.heap.size),?_,fun ι1 g hext hg=>⟨⟨#[],0,rfl,rfl,rfl,by simp,rfl,by simp⟩,.map g _ hg⟩⟩;simp[execOp,Instr.makeMap]
 |range t x =>
  have hx:=hρ x (by simp[Op.operands]);simp only[anew] at e;split at e
  ·rename_i s hu hs;simp only[Option.some.injEq,Prod.mk.injEq] at e;obtain⟨rfl,rfl⟩:=e;rw[hs] at hx;have hx':=hx.bH rfl;refine⟨.stringIter s 0,0,.pointer (some ⟨w.heap.size,0,none⟩),?_,fun ι1 g hext hg=>⟨⟨rfl,rfl⟩,.ptr g 0 _ hg⟩⟩;simp[execOp,Instr.range,hx',ak hu]
  ·cases e
 |_=>simp[anew] at e
end Go.Abs
