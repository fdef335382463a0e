/-
  AbsR: parts of the proof.
-/
import Derived.Test.YtlbeebglhebpjaaGreatDoorTt19
namespace Go.Abs
theorem HRel.congr {N:Nat}{ι:Inj}{h h':Heap}{w:World} (H:HRel N ι h w) (hs:h'.size=h.size) (hg:∀ g,h'.get g=h.get g):HRel N ι h' w :=
 ⟨fun g l e=>hs ▸ H.dom g l e,H.blk,H.glob,fun g l o e1 e2=>H.obj g l o e1 (by rw[<- hg];exact e2),fun g g' l l' e1 e2 hne hm hl=>H.apart g g' l l' e1 e2 hne (by obtain⟨o,q1,q2⟩:=hm;exact⟨o,by rw[<- hg];exact q1,q2⟩)
  (by obtain⟨o,q1,q2⟩:=hl;exact⟨o,by rw[<- hg];exact q1,q2⟩),H.frz,fun b C g l e0 e1 hm=>H.fzap b C g l e0 e1 (by obtain⟨o,q1,q2⟩:=hm;exact⟨o,by rw[<- hg];exact q1,q2⟩),
  fun g l cs e1 e2=>H.rofz g l cs e1 (by rw[<- hg];exact e2)⟩
theorem Heap.lk {h h':Heap} (hg:∀ g,h'.get g=h.get g) {g:Nat}:h'.mut g↔h.mut g:=by unfold Heap.mut;rw[hg]
theorem Heap.qZ {h h':Heap} (hg:∀ g,h'.get g=h.get g) {g:Nat}:h'.live g↔h.live g:=by unfold Heap.live;rw[hg]
theorem Step.congr {ι ι':Inj}{h1 h2 k1 k2:Heap}{w w':World} (s:Step ι h1 w ι' k1 w') (hs:h2.size=h1.size) (hg:∀ g,h2.get g=h1.get g) (ks:k2.size=k1.size) (kg:∀ g,k2.get g=k1.get g):Step ι h2 w ι' k2 w' where
 dom:=fun g l e=>hs ▸ s.dom g l e
 size:=by rw[hs,ks];exact s.size
 ext:=s.ext
 fresh:=fun g l e e'=>hs ▸ s.fresh g l e e'
 own:=fun g l e e'=>(s.own g l e e').imp id (fun ⟨g0,l0,q1,q2,q3⟩=>⟨g0,l0,q1,(Heap.lk hg).2 q2,q3⟩)
 keep:=fun g hlt hm=>(Heap.lk hg).2 (s.keep g (hs ▸ hlt) ((Heap.lk kg).1 hm))
 keepl:=fun g hlt hm=>(Heap.qZ hg).2 (s.keepl g (hs ▸ hlt) ((Heap.qZ kg).1 hm))
 wsize:=s.wsize
 frame:=fun b hb hn=>s.frame b hb (fun g l e hm=>hn g l e ((Heap.lk hg).2 hm))
 others:=fun g hlt e=>by rw[kg,hg];exact s.others g (hs ▸ hlt) e
 out:=s.out
 fzown:=s.fzown
theorem CallD.congr {P:Program}{N:Nat}{f:FuncId}{vs:Array Value}{h1 h2 k1 k2:Heap}{v:Value} (c:CallD P N f vs h1 v k1) (hs:h2.size=h1.size) (hg:∀ g,h2.get g=h1.get g) (ks:k2.size=k1.size) (kg:∀ g,k2.get g=k1.get g)
  (hk:k1=h1->k2=h2):CallD P N f vs h2 v k2:=by
 refine⟨by rw[hs,ks];exact c.1,fun ι w vs' H r=>?_⟩
 rcases c.2 ι w vs' (H.congr hs.symm (fun g=>(hg g).symm)) r with⟨q1,q2⟩|⟨v',q1,q2,q3⟩
 ·refine .inl ⟨q1,q2.mono ?_⟩
  rintro e w' ⟨ι',v',rfl,p1,p2,p3⟩
  exact⟨ι',v',rfl,p1,p2.congr ks kg,p3.congr hs hg ks kg⟩
 ·exact .inr ⟨v',q1,q2,hk q3⟩
def Heap.eJ (h:Heap) (x:Nat):Heap:={ h with low:=x }
structure LowOk (h h':Heap):Prop where
 low:h'.low<=h.low
 size:h.size<=h'.size
 get:∀ g,g<h'.low->g<h.size->h'.get g=h.get g
theorem LowOk.refl (h:Heap):LowOk h h:=⟨Nat.le_refl _,Nat.le_refl _,fun _ _ _=>rfl⟩
theorem LowOk.trans {h h1 h2:Heap} (a:LowOk h h1) (b:LowOk h1 h2):LowOk h h2 :=
 ⟨Nat.le_trans b.low a.low,Nat.le_trans a.size b.size,fun g h1 h2=>by rw[b.get g h1 (Nat.lt_of_lt_of_le h2 a.size),a.get g (Nat.lt_of_lt_of_le h1 b.low) h2]⟩
theorem LowOk.push (h:Heap) (o:AObj):LowOk h (h.push o) :=
 ⟨Nat.le_refl _,Nat.le_succ _,fun g _ hg=>by rw[Heap.aU,if_neg (by omega)]⟩
theorem LowOk.upd (h:Heap) (g:Nat) (o:AObj) (hg:g<h.size):LowOk h (h.upd g o) :=
 ⟨Nat.min_le_left _ _,Nat.le_refl _,fun k hk _=>by
  have:k<min h.low g:=hk
  rw[Heap.bn _ _ _ _ hg,if_neg (by omega)]⟩
theorem nk {h h':Heap}{s b n len cap:Nat}{z v:Value}{new:List Value}{base:Option Addr} (e:bU h h.size s b z n new base len cap=some (v,h')):LowOk h h':=by
 unfold bU at e
 split at e
 ·split at e
  ·cases e;exact .refl _
  ·cases e
 ·split at e
  ·split at e
   ·split at e
    ·rename_i hg
     split at e
     ·cases e;exact .upd _ _ _ (Heap.ak hg)
     ·cases e
    ·cases e
   ·cases e
  ·split at e
   ·split at e
    ·cases e;exact .push _ _
    ·split at e
     ·split at e
      ·cases e;exact .push _ _
      ·cases e
     ·cases e
    ·split at e
     ·rename_i hg
      split at e
      ·cases e;exact (LowOk.upd _ _ _ (Heap.ak hg)).trans (.push _ _)
      ·cases e
     ·cases e
   ·cases e
theorem xA {h h':Heap}{n len:Nat}{v:Value}{new:List Value}{base:Option Addr} (e:lZ h n new base len=some (v,h')):LowOk h h':=by
 unfold lZ at e
 split at e
 ·cases e;exact .refl _
 ·split at e
  ·cases e
  ·split at e
   ·rename_i hg
    split at e
    ·cases e;exact .upd _ _ _ (Heap.ak hg)
    ·cases e
   ·cases e
theorem uV {h h':Heap}{len:Nat}{v:Value}{new:List Value}{base:Option Addr} (e:iQ h new base len=some (v,h')):LowOk h h':=by
 unfold iQ at e
 split at e
 ·cases e;exact .refl _
 ·split at e
  ·cases e
  ·split at e
   ·rename_i hg
    split at e
    ·cases e;exact .upd _ _ _ (Heap.ak hg)
    ·cases e
   ·cases e
theorem vq {P:Program}{h h':Heap}{ρ:Operand->Value}{o:Oper}{v:Value} (e:ct P ρ o h=some (v,h')):LowOk h h':=by
 unfold ct ec at e
 split at e
 ·split at e
  ·split at e
   ·rename_i hg
    split at e
    ·cases e;exact .upd _ _ _ (Heap.ak hg)
    ·cases e
   ·cases e
  ·cases e
 ·split at e
  ·split at e
   ·split at e
    ·split at e
     ·split at e
      ·cases e
      ·exact nk e
     ·cases e
    ·cases e
   ·cases e
  ·split at e
   ·split at e
    ·split at e
     ·split at e
      ·cases e;exact .refl _
      ·cases e
     ·cases e
    ·cases e
   ·cases e
  ·split at e
   ·split at e
    ·split at e
     ·split at e
      ·cases e;exact .refl _
      ·split at e
       ·cases e
       ·exact nk e
     ·cases e
    ·cases e
   ·cases e
  ·split at e
   ·split at e
    ·split at e
     ·exact xA e
     ·cases e
    ·cases e
   ·cases e
  ·split at e
   ·split at e
    ·split at e
     ·exact uV e
     ·cases e
    ·cases e
   ·cases e
  ·cases e
 ·unfold tJ at e
  split at e
  ·split at e
   ·rename_i hg
    split at e
    ·cases e;exact .upd _ _ _ (Heap.ak hg)
    ·cases e;exact .refl _
   ·cases e
  ·cases e
 ·split at e
  ·split at e
   ·split at e
    ·unfold uO at e
     split at e
     ·split at e
      ·rename_i hg
       split at e
       ·cases e;exact .upd _ _ _ (Heap.ak hg)
       ·cases e;exact .upd _ _ _ (Heap.ak hg)
       ·cases e
      ·cases e
     ·cases e
    ·cases e
   ·cases e
  ·cases e
 ·cases e
def B2:Value->Value->Bool
 |.bool a,.bool b=>a==b
 |.int j a,.int k b=>decide (j=k)&&decide (a=b)
 |.pointer a,.pointer b=>decide (a=b)
 |.slice a n c,.slice b m d=>decide (a=b)&&decide (n=m)&&decide (c=d)
 |.map a,.map b=>decide (a=b)
 |.nilFunc,.nilFunc=>true
 |.nilIface,.nilIface=>true
 |.string a,.string b=>a.data.toList==b.data.toList
 |_,_=>false
def oN (f:Value->Value->Bool):List Value->List Value->Bool
 |[],[]=>true
 |a::l,b::r=>f a b&&oN f l r
 |_,_=>false
def Dx (f:Value->Value->Bool):Value->Value->Bool
 |.agg ⟨a⟩,.agg ⟨b⟩=>oN f a b
 |.tuple ⟨a⟩,.tuple ⟨b⟩=>oN f a b
 |.iface s a,.iface t b=>decide (s=t)&&f a b
 |a,b=>B2 a b
def Cp:Nat->Value->Value->Bool
 |0=>B2
 |n+1=>Dx (Cp n)
def veq (a b:Value):Bool:=Cp 12 a b
theorem Bl {a b:ByteArray} (h:(a.data.toList==b.data.toList)=true):a=b:=by
 obtain⟨a⟩:=a
 obtain⟨b⟩:=b
 have:=eq_of_beq h
 exact congrArg ByteArray.mk (Array.ext' this)
theorem xN {a b:Value} (h:B2 a b=true):a=b:=by
 by_cases hs:(∃ x,a=.string x)/\∃ y,b=.string y
 ·obtain⟨⟨x,rfl⟩,y,rfl⟩:=hs
  exact congrArg Value.string (Bl h)
 ·cases a <;> cases b <;> simp[B2] at h <;> simp_all
theorem nu {f:Value->Value->Bool} (hf:∀ a b,f a b=true->a=b):∀ {a b:List Value},oN f a b=true->a=b
 |[],[],_=>rfl
 |_::_,[],h=>by simp[oN] at h
 |[],_::_,h=>by simp[oN] at h
 |a::l,b::r,h=>by
  simp only[oN,Bool.and_eq_true] at h
  rw[hf _ _ h.1,nu hf h.2]
theorem BZ {f:Value->Value->Bool} (hf:∀ a b,f a b=true->a=b) {a b:Value} (h:Dx f a b=true):a=b:=by
 unfold Dx at h
 split at h
 ·rw[nu hf h]
 ·rw[nu hf h]
 ·simp only[Bool.and_eq_true,decide_eq_true_eq] at h
  rw[h.1,hf _ _ h.2]
 ·exact xN h
theorem uA:∀ (n:Nat) (a b:Value),Cp n a b=true->a=b
 |0,_,_,h=>xN h
 |n+1,_,_,h=>BZ (uA n) h
theorem wO {a b:Value} (h:veq a b=true):a=b:=uA 12 a b h
inductive X where
 |normal|exit (id:Nat) | ret
def X.toExit:X->Exit
 |.normal=>.normal
 |.exit id=>.exit id
 |.ret=>.ret
abbrev pd:=FuncId->Array Value->Heap->Option (Value×Heap)
def iq (P:Program) (call:pd) (ops:Array Oper):List Oper->Env->Heap->Option (Env×Heap)
 |[],e,h=>some (e,h)
 |o::r,e,h =>
  match Region.wanted o (ayielded ops e) with
  |false=>iq P call ops r (e.put o.dst undef) h
  |true =>
   match cls o.op with
   |.pure=>match av P e.eval o with
    |some v=>iq P call ops r (e.put o.dst v) h
    |none=>match rH P e.eval o h with
     |some v=>iq P call ops r (e.put o.dst v) h
     |none=>none
   |.read=>match aJ P e.eval o h with
    |some v=>iq P call ops r (e.put o.dst v) h
    |none=>none
   |.new=>match anew P e.eval o with
    |some (ob,f)=>iq P call ops r (e.put o.dst (f h.size)) (h.push ob)
    |none=>none
   |.eff=>match ct P e.eval o h with
    |some (v,h1)=>iq P call ops r (e.put o.dst v) h1
    |none=>none
   |.call=>match dn e.eval o.op with
    |some (f,vs)=>match call f vs h with
     |some (v,h1)=>iq P call ops r (e.put o.dst v) h1
     |none=>none
    |none=>none
def wY (P:Program) (ops:Array Oper) (h0:Heap) (k:Nat) (o:Oper) (e:Env) (v:Value):Bool :=
 match plain v with
 |true=>true
 |false=>match fP ops k with
  |true=>true
  |false=>match aJ P e.eval o h0 with
   |some u=>veq u v
   |none=>false
def xJ:Option AObj->Option AObj->Bool
 |none,none=>true
 |some (.cells a p),some (.cells b q)=>(p==q)&&oN (Cp 12) a b
 |_,_=>false
theorem vF {a b:Option AObj} (h:xJ a b=true):a=b:=by
 unfold xJ at h
 split at h
 ·rfl
 ·rename_i x p y q
  simp only[Bool.and_eq_true,beq_iff_eq] at h
  rw[h.1,nu (uA 12) h.2]
 ·cases h
def xo (ops:Array Oper) (k:Nat) (e:Env) (h h1:Heap):Bool :=
 pO ops k ((List.range k).filter fun i=>match ops[i]? with
  |some x=>match x.op with
   |.load _ (.tmp a)=>match e.get a with
    |.pointer (some ⟨g,_,none⟩)=>xJ (h1.get g) (h.get g)
    |_=>true
   |_=>false
  |none=>false)
def zX (o:Oper) (e:Env) (h h1:Heap):Bool :=
 match o.op with
 |.store _ x _=>match e.eval x with
  |.pointer (some ⟨g,_,none⟩)=>xJ (h1.get g) (h.get g)
  |_=>false
 |_=>false
theorem yM {P:Program}{o:Oper}{e:Env}{h h1:Heap}{v:Value} (hv:ct P e.eval o h=some (v,h1)) (q:zX o e h h1=true):Ext h h1:=by
 unfold zX at q
 split at q
 ·rename_i t x y ho
  split at q
  ·rename_i g off hx
   unfold ct ec at hv
   simp only[ho,hx] at hv
   have hq:=vF q
   split at hv
   ·rename_i cs hg
    split at hv
    ·simp only[Option.some.injEq,Prod.mk.injEq] at hv
     obtain⟨_,rfl⟩:=hv
     refine⟨by rw[Heap.yq];exact Nat.le_refl _,fun k hk=>?_⟩
     by_cases c:k=g
     ·subst c;exact hq
     ·rw[Heap.bn _ _ _ _ (Heap.ak hg),if_neg c]
    ·cases hv
   ·cases hv
  ·cases q
 ·cases q
theorem oO {ops:Array Oper}{k:Nat}{e:Env}{h h1:Heap} (q:xo ops k e h h1=true):km ops k e h h1:=by
 refine⟨_,q,fun i hi x t a hx ho g off hg=>?_⟩
 have:=(List.mem_filter.1 hi).2
 rw[hx] at this
 simp only[ho,hg] at this
 exact vF this
def fm (P:Program) (call:pd) (ops:Array Oper) (h0:Heap):List Oper->Nat->Env->Heap->Option (Env×Heap)
 |[],_,e,h=>some (e,h)
 |o::r,k,e,h =>
  match Region.wanted o (ayielded ops e) with
  |false=>fm P call ops h0 r (k+1) (e.put o.dst undef) h
  |true =>
   match cls o.op with
   |.pure=>match av P e.eval o with
    |some v=>fm P call ops h0 r (k+1) (e.put o.dst v) h
    |none=>none
   |.read=>match aJ P e.eval o h with
    |some v =>
     match wY P ops h0 k o e v with
     |true=>fm P call ops h0 r (k+1) (e.put o.dst v) h
     |false=>none
    |none=>none
   |.new=>match anew P e.eval o with
    |some (ob,f)=>fm P call ops h0 r (k+1) (e.put o.dst (f h.size)) (h.push ob)
    |none=>none
   |.eff=>match ct P e.eval o h with
    |some (v,h1)=>match cQ ops k||(zX o e h h1||xo ops k e h h1) with
     |true=>fm P call ops h0 r (k+1) (e.put o.dst v) h1
     |false=>none
    |none=>none
   |.call=>match dn e.eval o.op with
    |some (f,vs)=>match call f vs (h.eJ h.size) with
     |some (v,h1)=>match decide (h.size<=h1.low) with
      |true=>fm P call ops h0 r (k+1) (e.put o.dst v) (h1.eJ h.low)
      |false=>match cQ ops k||xo ops k e h h1 with
       |true=>fm P call ops h0 r (k+1) (e.put o.dst v) (h1.eJ (min h.low h1.low))
       |false=>none
     |none=>none
    |none=>none
def iter:Nat->(Env->Heap->Option (X×Env×Heap))->Env->Heap->Option (X×Env×Heap)
 |0,_,_,_=>none
 |n+1,f,e,h =>
  match f e h with
  |some (.normal,e1,h1)=>iter n f e1 h1
  |r=>r
def bG (P:Program) (call:pd) (n:Nat):Code->Env->Heap->Option (X×Env×Heap)
 |.skip,e,h=>some (.normal,e,h)
 |.label _,e,h=>some (.normal,e,h)
 |.exit id,e,h=>some (.exit id,e,h)
 |.ret,e,h=>some (.ret,e,h)
 |.region _ ops false,e,h=>match iq P call ops ops.toList e h with
  |some (e1,h1)=>some (.normal,e1,h1)
  |none=>none
 |.region _ ops true,e,h=>match fm P call ops h ops.toList 0 e h with
  |some (e1,h1)=>some (.normal,e1,h1)
  |none=>none
 |.seq a b,e,h=>match bG P call n a e h with
  |some (.normal,e1,h1)=>bG P call n b e1 h1
  |r=>r
 |.cond c a b,e,h=>match e.eval c with
  |.bool true=>bG P call n a e h
  |.bool false=>bG P call n b e h
  |_=>none
 |.block id c,e,h=>match bG P call n c e h with
  |some (.exit id',e1,h1)=>if id'=id then some (.normal,e1,h1) else some (.exit id',e1,h1)
  |r=>r
 |.loop c,e,h=>iter n (bG P call n c) e h
 |.scope c,e,h=>bG P call n c e h
 |_,_,_=>none
def jY (P:Program) (bad:List FuncId) (orc:FuncId->Array Value->Heap->Option Value):Nat->pd
 |0,_,_,_=>none
 |n+1,f,vs,h =>
  match orc f vs h with
  |some v=>some (v,h)
  |none =>
   match (if bad.contains f then none else P.funcs[f]?) with
   |none=>none
   |some fn =>
    match fn.body with
    |none=>none
    |some c =>
     if vs.size<=fn.ntmps then
      match bG P (jY P bad orc n) n c (bZ fn.ntmps vs) h with
      |some (.normal,e1,h1)=>match iy P fn e1 h1 with
       |some v=>some (v,h1)
       |none=>none
      |some (.ret,e1,h1)=>match iy P fn e1 h1 with
       |some v=>some (v,h1)
       |none=>none
      |_=>none
     else none
def codeOk (N n:Nat):Code->Bool
 |.region _ ops d=>gC N n ops&&(!d||cV ops)
 |.seq a b=>codeOk N n a&&codeOk N n b
 |.cond c a b=>okOpd N n c&&codeOk N n a&&codeOk N n b
 |.block _ c=>codeOk N n c
 |.loop c=>codeOk N n c
 |.scope c=>codeOk N n c
 |_=>true
def fY (N:Nat) (fn:Func):Bool :=
 match fn.body with
 |some c => codeOk N fn.ntmps c && !(fn.name == "runtime.NumGoroutine")
 |none=>true
section
variable {P:Program} {N:Nat}
def tL (P:Program) (N:Nat) (call:pd):Prop:=∀ f vs h v h',call f vs h=some (v,h')->CallD P N f vs h v h'/\LowOk h h'
theorem OpD.pure {o:Oper}{e:Env}{h:Heap}{v:Value} (hc:cls o.op=.pure) (hv:av P e.eval o=some v):OpD P N o e h v h:=by
 unfold OpD;rw[hc];exact⟨hv,rfl⟩
theorem OpD.read {o:Oper}{e:Env}{h:Heap}{v:Value} (hc:cls o.op=.read) (hv:aJ P e.eval o h=some v):OpD P N o e h v h:=by
 unfold OpD;rw[hc];exact⟨hv,rfl⟩
theorem OpD.new {o:Oper}{e:Env}{h:Heap}{ob:AObj}{f:Nat->Value} (hc:cls o.op=.new) (hv:anew P e.eval o=some (ob,f)):OpD P N o e h (f h.size) (h.push ob):=by
 unfold OpD;rw[hc];exact⟨ob,f,hv,rfl,rfl⟩
theorem OpD.eff {o:Oper}{e:Env}{h h':Heap}{v:Value} (hc:cls o.op=.eff) (hv:ct P e.eval o h=some (v,h')):OpD P N o e h v h':=by
 unfold OpD;rw[hc];exact hv
theorem OpD.call {o:Oper}{e:Env}{h h':Heap}{v:Value}{f:FuncId}{vs:Array Value} (hc:cls o.op=.call) (hv:dn e.eval o.op=some (f,vs)) (hd:CallD P N f vs h v h'):OpD P N o e h v h':=by
 unfold OpD;rw[hc];exact⟨f,vs,hv,hd⟩
theorem cI {call:pd} (hc:tL P N call) {ops:Array Oper}:∀ (l:List Oper) (e:Env) (h:Heap) (e1:Env) (h1:Heap),iq P call ops l e h=some (e1,h1)->RegD P N ops l e h e1 h1/\LowOk h h1
 |[],e,h,e1,h1,hr=>by
  simp only[iq,Option.some.injEq,Prod.mk.injEq] at hr
  obtain⟨rfl,rfl⟩:=hr
  exact⟨⟨rfl,rfl⟩,.refl _⟩
 |o::l,e,h,e1,h1,hr=>by
  unfold iq at hr
  unfold RegD
  cases hw:Region.wanted o (ayielded ops e) with
  |false =>
   simp only[hw] at hr
   rw[if_neg (by simp)]
   exact cI hc l _ _ _ _ hr
  |true =>
   simp only[hw] at hr
   rw[if_pos rfl]
   cases hcl:cls o.op with
   |pure =>
    simp only[hcl] at hr
    split at hr
    ·rename_i v hv
     obtain⟨q1,q2⟩:=cI hc l _ _ _ _ hr
     exact⟨⟨v,h,.inl (OpD.pure hcl hv),q1⟩,q2⟩
    ·split at hr
     ·rename_i v hv
      obtain⟨q1,q2⟩:=cI hc l _ _ _ _ hr
      exact⟨⟨v,h,.inr (.inl ⟨hv,rfl⟩),q1⟩,q2⟩
     ·cases hr
   |read =>
    simp only[hcl] at hr
    split at hr
    ·rename_i v hv
     obtain⟨q1,q2⟩:=cI hc l _ _ _ _ hr
     exact⟨⟨v,h,.inl (OpD.read hcl hv),q1⟩,q2⟩
    ·cases hr
   |new =>
    simp only[hcl] at hr
    split at hr
    ·rename_i ob f hv
     obtain⟨q1,q2⟩:=cI hc l _ _ _ _ hr
     exact⟨⟨_,_,.inl (OpD.new hcl hv),q1⟩,(LowOk.push _ _).trans q2⟩
    ·cases hr
   |eff =>
    simp only[hcl] at hr
    split at hr
    ·rename_i v h2 hv
     obtain⟨q1,q2⟩:=cI hc l _ _ _ _ hr
     exact⟨⟨v,h2,.inl (OpD.eff hcl hv),q1⟩,(vq hv).trans q2⟩
    ·cases hr
   |call =>
    simp only[hcl] at hr
    split at hr
    ·rename_i f vs hv
     split at hr
     ·rename_i v h2 hcall
      obtain⟨q1,q2⟩:=cI hc l _ _ _ _ hr
      obtain⟨c1,c2⟩:=hc _ _ _ _ _ hcall
      exact⟨⟨v,h2,.inl (OpD.call hcl hv c1),q1⟩,c2.trans q2⟩
     ·cases hr
    ·cases hr
theorem qq {h h1:Heap} (q:LowOk (h.eJ h.size) h1) (hl:h.size<=h1.low) (x:Nat):Ext h (h1.eJ x) :=
 ⟨q.size,fun g hg=>q.get g (Nat.lt_of_lt_of_le hg hl) hg⟩
theorem Bq {h h1:Heap} (q:LowOk (h.eJ h.size) h1):LowOk h (h1.eJ (min h.low h1.low)) :=
 ⟨Nat.min_le_left _ _,q.size,fun g h1' h2=>q.get g (Nat.lt_of_lt_of_le h1' (Nat.min_le_right _ _)) h2⟩
theorem yO {h h1:Heap} (q:LowOk (h.eJ h.size) h1) (hl:h.size<=h1.low):LowOk h (h1.eJ h.low) :=
 ⟨Nat.le_refl _,q.size,fun g _ h2=>q.get g (Nat.lt_of_lt_of_le h2 hl) h2⟩
theorem wv {ops:Array Oper}{h0:Heap}{k:Nat}{o:Oper}{e:Env}{v:Value} (h:wY P ops h0 k o e v=true):fP ops k=true\/plain v=true\/aJ P e.eval o h0=some v:=by
 unfold wY at h
 split at h
 ·rename_i h1;exact .inr (.inl h1)
 ·split at h
  ·rename_i h1;exact .inl h1
  ·split at h
   ·rename_i u hu;rw[hu,wO h];exact .inr (.inr rfl)
   ·cases h
theorem cp {call:pd} (hc:tL P N call) {ops:Array Oper}{h0:Heap}:∀ (l:List Oper) (k:Nat) (e:Env) (h:Heap) (e1:Env) (h1:Heap),fm P call ops h0 l k e h=some (e1,h1)->RegF P N ops h0 false l k e h e1 h1/\LowOk h h1
 |[],k,e,h,e1,h1,hr=>by
  simp only[fm,Option.some.injEq,Prod.mk.injEq] at hr
  obtain⟨rfl,rfl⟩:=hr
  exact⟨⟨rfl,rfl⟩,.refl _⟩
 |o::l,k,e,h,e1,h1,hr=>by
  unfold fm at hr
  unfold RegF
  cases hw:Region.wanted o (ayielded ops e) with
  |false =>
   simp only[hw] at hr
   rw[if_neg (by simp)]
   exact cp hc l _ _ _ _ _ hr
  |true =>
   simp only[hw] at hr
   rw[if_pos rfl]
   cases hcl:cls o.op with
   |pure =>
    simp only[hcl] at hr
    split at hr
    ·rename_i v hv
     obtain⟨q1,q2⟩:=cp hc l _ _ _ _ _ hr
     exact⟨⟨v,h,⟨OpD.pure hcl hv,by simp[isChain,hcl],by simp[cn,hcl]⟩,q1⟩,q2⟩
    ·cases hr
   |read =>
    simp only[hcl] at hr
    split at hr
    ·rename_i v hv
     split at hr
     ·rename_i hcond
      obtain⟨q1,q2⟩:=cp hc l _ _ _ _ _ hr
      exact⟨⟨v,h,⟨OpD.read hcl hv,by simp[isChain,hcl],fun _=>⟨(fun e=>nomatch e),.inr (wv hcond)⟩⟩,q1⟩,q2⟩
     ·cases hr
    ·cases hr
   |new =>
    simp only[hcl] at hr
    split at hr
    ·rename_i ob f hv
     obtain⟨q1,q2⟩:=cp hc l _ _ _ _ _ hr
     exact⟨⟨_,_,⟨OpD.new hcl hv,by simp[isChain,hcl],by simp[cn,hcl]⟩,q1⟩,(LowOk.push _ _).trans q2⟩
    ·cases hr
   |eff =>
    simp only[hcl] at hr
    split at hr
    ·rename_i v h2 hv
     split at hr
     ·rename_i hcond
      have hcond':false=true\/cQ ops k=true\/Ext h h2\/km ops k e h h2:=by
       rcases Bool.or_eq_true_iff.1 hcond with q|q
       ·exact .inr (.inl q)
       ·rcases Bool.or_eq_true_iff.1 q with q|q
        ·exact .inr (.inr (.inl (yM hv q)))
        ·exact .inr (.inr (.inr (oO q)))
      obtain⟨q1,q2⟩:=cp hc l _ _ _ _ _ hr
      exact⟨⟨v,_,⟨OpD.eff hcl hv,fun _=>hcond',by simp[cn,hcl]⟩,q1⟩,(vq hv).trans q2⟩
     ·cases hr
    ·cases hr
   |call =>
    simp only[hcl] at hr
    split at hr
    ·rename_i f vs hv
     split at hr
     ·rename_i v h2 hcall
      obtain⟨c1,hlow⟩:=hc _ _ _ _ _ hcall
      split at hr
      ·rename_i hcond
       have hcond:=of_decide_eq_true hcond
       obtain⟨q1,q2⟩:=cp hc l _ _ _ _ _ hr
       have c2:CallD P N f vs h v (h2.eJ h.low):=c1.congr rfl (fun _=>rfl) rfl (fun _=>rfl) (fun he=>by rw[he];rfl)
       exact⟨⟨v,_,⟨OpD.call hcl hv c2,fun _=>.inr (.inr (.inl (qq hlow hcond _))),by simp[cn,hcl]⟩,q1⟩,(yO hlow hcond).trans q2⟩
      ·split at hr
       ·rename_i hcond
        have hcond':false=true\/cQ ops k=true\/Ext h (h2.eJ (min h.low h2.low))\/km ops k e h (h2.eJ (min h.low h2.low)):=by
         rcases Bool.or_eq_true_iff.1 hcond with q|q
         ·exact .inr (.inl q)
         ·exact .inr (.inr (.inr (oO (h1:=h2.eJ (min h.low h2.low)) q)))
        obtain⟨q1,q2⟩:=cp hc l _ _ _ _ _ hr
        have c2:CallD P N f vs h v (h2.eJ (min h.low h2.low)):=c1.congr rfl (fun _=>rfl) rfl (fun _=>rfl) (fun he=>by
         exfalso
         rename_i hlt _
         have:=of_decide_eq_false hlt
         rw[he] at this
         exact this (Nat.le_refl _))
        exact⟨⟨v,_,⟨OpD.call hcl hv c2,fun _=>hcond',by simp[cn,hcl]⟩,q1⟩,(Bq hlow).trans q2⟩
       ·cases hr
     ·cases hr
    ·cases hr
theorem re {f:Env->Heap->Option (X×Env×Heap)}{c:Code}{nn:Nat} (hf:∀ e h x e1 h1,e.n=nn->f e h=some (x,e1,h1)->CodeD P N c e h x.toExit e1 h1/\LowOk h h1):∀ (n:Nat) (e:Env) (h:Heap) (x:X) (e1:Env) (h1:Heap),e.n=nn ->
  iter n f e h=some (x,e1,h1)->(∃ k,fR P N c k e h x.toExit e1 h1)/\LowOk h h1
 |0,_,_,_,_,_,_,hr=>by simp[iter] at hr
 |n+1,e,h,x,e1,h1,hn,hr=>by
  unfold iter at hr
  split at hr
  ·rename_i e2 h2 hq
   obtain⟨c1,l1⟩:=hf _ _ _ _ _ hn hq
   obtain⟨⟨k,c2⟩,l2⟩:=re hf n e2 h2 x e1 h1 (c1.1.2.trans hn) hr
   exact⟨⟨k+1,fR.more c1 c2⟩,l1.trans l2⟩
  ·rename_i hne
   obtain⟨c1,l1⟩:=hf _ _ _ _ _ hn hr
   refine⟨⟨1,fR.last c1 ?_⟩,l1⟩
   cases x with
   |normal=>exact absurd hr (hne e1 h1)
   |exit id=>simp[X.toExit]
   |ret=>simp[X.toExit]
theorem lU {call:pd} (hc:tL P N call) (hM:P.follows .mixedOrders=true) (n:Nat) {nn:Nat}:∀ (c:Code),codeOk N nn c=true->∀ (e:Env) (h:Heap) (x:X) (e1:Env) (h1:Heap),e.n=nn ->
  bG P call n c e h=some (x,e1,h1)->CodeD P N c e h x.toExit e1 h1/\LowOk h h1:=by
 intro c
 induction c with
 |skip =>
  intro _ e h x e1 h1 _ hr
  simp only[bG,Option.some.injEq,Prod.mk.injEq] at hr
  obtain⟨rfl,rfl,rfl⟩:=hr
  exact⟨CodeD.skip,.refl _⟩
 |label l =>
  intro _ e h x e1 h1 _ hr
  simp only[bG,Option.some.injEq,Prod.mk.injEq] at hr
  obtain⟨rfl,rfl,rfl⟩:=hr
  exact⟨CodeD.label,.refl _⟩
 |exit id =>
  intro _ e h x e1 h1 _ hr
  simp only[bG,Option.some.injEq,Prod.mk.injEq] at hr
  obtain⟨rfl,rfl,rfl⟩:=hr
  exact⟨CodeD.exit,.refl _⟩
 |ret =>
  intro _ e h x e1 h1 _ hr
  simp only[bG,Option.some.injEq,Prod.mk.injEq] at hr
  obtain⟨rfl,rfl,rfl⟩:=hr
  exact⟨CodeD.ret,.refl _⟩
 |region id ops d =>
  intro hok e h x e1 h1 hn hr
  simp only[codeOk,Bool.and_eq_true] at hok
  subst hn
  cases d with
  |false =>
   simp only[bG] at hr
   split at hr
   ·rename_i e2 h2 hq
    simp only[Option.some.injEq,Prod.mk.injEq] at hr
    obtain⟨rfl,rfl,rfl⟩:=hr
    obtain⟨q1,q2⟩:=cI hc _ _ _ _ _ hq
    exact⟨CodeD.region hok.1 q1,q2⟩
   ·cases hr
  |true =>
   simp only[bG] at hr
   split at hr
   ·rename_i e2 h2 hq
    simp only[Option.some.injEq,Prod.mk.injEq] at hr
    obtain⟨rfl,rfl,rfl⟩:=hr
    obtain⟨q1,q2⟩:=cp hc _ _ _ _ _ _ hq
    exact⟨CodeD.lN hM (by simpa using hok.2) hok.1 q1,q2⟩
   ·cases hr
 |seq a b iha ihb =>
  intro hok e h x e1 h1 hn hr
  simp only[codeOk,Bool.and_eq_true] at hok
  simp only[bG] at hr
  split at hr
  ·rename_i e2 h2 hq
   obtain⟨c1,l1⟩:=iha hok.1 _ _ _ _ _ hn hq
   obtain⟨c2,l2⟩:=ihb hok.2 _ _ _ _ _ (c1.1.2.trans hn) hr
   exact⟨CodeD.seq c1 c2,l1.trans l2⟩
  ·rename_i hne
   obtain⟨c1,l1⟩:=iha hok.1 _ _ _ _ _ hn hr
   refine⟨CodeD.kS c1 ?_,l1⟩
   cases x with
   |normal=>exact absurd hr (hne e1 h1)
   |exit id=>simp[X.toExit]
   |ret=>simp[X.toExit]
 |cond c a b iha ihb =>
  intro hok e h x e1 h1 hn hr
  simp only[codeOk,Bool.and_eq_true] at hok
  simp only[bG] at hr
  split at hr
  ·rename_i hq
   obtain⟨c1,l1⟩:=iha hok.1.2 _ _ _ _ _ hn hr
   exact⟨CodeD.cond (by rw[hn];exact hok.1.1) hq c1,l1⟩
  ·rename_i hq
   obtain⟨c1,l1⟩:=ihb hok.2 _ _ _ _ _ hn hr
   exact⟨CodeD.cond (by rw[hn];exact hok.1.1) hq c1,l1⟩
  ·cases hr
 |block id c ih =>
  intro hok e h x e1 h1 hn hr
  simp only[codeOk] at hok
  simp only[bG] at hr
  split at hr
  ·rename_i id' e2 h2 hq
   obtain⟨c1,l1⟩:=ih hok _ _ _ _ _ hn hq
   split at hr
   ·rename_i he
    subst he
    simp only[Option.some.injEq,Prod.mk.injEq] at hr
    obtain⟨rfl,rfl,rfl⟩:=hr
    exact⟨CodeD.qN c1,l1⟩
   ·rename_i he
    simp only[Option.some.injEq,Prod.mk.injEq] at hr
    obtain⟨rfl,rfl,rfl⟩:=hr
    exact⟨CodeD.block c1 (by simp only[X.toExit];intro q;cases q;exact he rfl),l1⟩
  ·rename_i hne
   obtain⟨c1,l1⟩:=ih hok _ _ _ _ _ hn hr
   refine⟨CodeD.block c1 ?_,l1⟩
   cases x with
   |normal=>simp[X.toExit]
   |exit id'=>exact absurd hr (hne id' e1 h1)
   |ret=>simp[X.toExit]
 |loop c ih =>
  intro hok e h x e1 h1 hn hr
  simp only[codeOk] at hok
  simp only[bG] at hr
  obtain⟨⟨k,q1⟩,q2⟩:=re (fun e h x e1 h1 hn hq=>ih hok e h x e1 h1 hn hq) n e h x e1 h1 hn hr
  exact⟨CodeD.loop q1,q2⟩
 |scope c ih =>
  intro hok e h x e1 h1 hn hr
  simp only[codeOk] at hok
  simp only[bG] at hr
  obtain⟨c1,l1⟩:=ih hok _ _ _ _ _ hn hr
  exact⟨CodeD.scope c1 (by intro l;cases x <;> simp[X.toExit]),l1⟩
 |goto l=>intro _ e h x e1 h1 _ hr;simp[bG] at hr
 |rangeFunc f ps a b _ _=>intro _ e h x e1 h1 _ hr;simp[bG] at hr
 |refuse w=>intro _ e h x e1 h1 _ hr;simp[bG] at hr
theorem jH {f:FuncId}{fn:Func}{c:Code} (hf:P.funcs[f]?=some fn) (hb:fn.body=some c) (ho:fY N fn=true):fnOk P f=true/\codeOk N fn.ntmps c=true:=by
 unfold fY at ho
 simp only[hb,Bool.and_eq_true] at ho
 refine⟨?_,ho.1⟩
 unfold fnOk
 simp only[hf,hb,Option.isSome_some,Bool.true_and]
 exact ho.2
theorem gM (hM:P.follows .mixedOrders=true) {bad:List FuncId} (hP:∀ (f:FuncId) (fn:Func),bad.contains f=false->P.funcs[f]?=some fn->fY N fn=true)
  {orc:FuncId->Array Value->Heap->Option Value} (ho:∀ f vs h v,orc f vs h=some v->CallD P N f vs h v h) :
  ∀ n,tL P N (jY P bad orc n)
 |0=>by intro f vs h v h' hr;simp[jY] at hr
 |n+1=>by
  intro f vs h v h' hr
  have ih:=gM hM hP ho n
  unfold jY at hr
  split at hr
  ·rename_i v0 hv
   simp only[Option.some.injEq,Prod.mk.injEq] at hr
   obtain⟨rfl,rfl⟩:=hr
   exact⟨ho _ _ _ _ hv,.refl _⟩
  ·split at hr
   ·cases hr
   ·rename_i fn hf0
    split at hf0
    ·cases hf0
    rename_i hbad;have hf:=hf0
    split at hr
    ·cases hr
    ·rename_i c hb
     obtain⟨ok1,ok2⟩:=jH hf hb (hP f fn (by simpa using hbad) hf)
     split at hr
     ·rename_i hs
      split at hr
      ·rename_i e1 h1 hq
       obtain⟨c1,l1⟩:=lU ih hM n c ok2 _ _ _ _ _ (eP _ _) hq
       split at hr
       ·rename_i v0 hv
        simp only[Option.some.injEq,Prod.mk.injEq] at hr
        obtain⟨rfl,rfl⟩:=hr
        exact⟨CallD.body hf hb ok1 hs (.inl rfl) c1 hv,l1⟩
       ·cases hr
      ·rename_i e1 h1 hq
       obtain⟨c1,l1⟩:=lU ih hM n c ok2 _ _ _ _ _ (eP _ _) hq
       split at hr
       ·rename_i v0 hv
        simp only[Option.some.injEq,Prod.mk.injEq] at hr
        obtain⟨rfl,rfl⟩:=hr
        exact⟨CallD.body hf hb ok1 hs (.inr rfl) c1 hv,l1⟩
       ·cases hr
      ·cases hr
     ·cases hr
end
end Go.Abs
