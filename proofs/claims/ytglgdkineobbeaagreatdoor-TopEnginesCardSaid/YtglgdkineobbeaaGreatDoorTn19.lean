/- Parts of the proof. -/
import Derived.Test.YtglgdkineobbeaaGreatDoorTn18
open ByteArray renaming mk->RY
open Go.Region renaming wanted->Mz
namespace Go.Abs
theorem HRel.congr{N:Nat}{ι:Inj}{h h':Heap}{w:World}(H:HRel N ι h w)(hs:h'.size=h.size)(hg:∀g,h'.get g=h.get g):HRel N ι h' w :=
 ⟨λg l e=>hs ▸ H.dom g l e,H.blk,H.glob,λg l o e1 e2=>H.obj g l o e1 (by rw[<- hg];exact e2),λg g' l l' e1 e2 hne hm hl=>H.apart g g' l l' e1 e2 hne (by obtain⟨o,q1,q2⟩:=hm;exact⟨o,by rw[<- hg];exact q1,q2⟩)
  (by obtain⟨o,q1,q2⟩:=hl;exact⟨o,by rw[<- hg];exact q1,q2⟩),H.frz,λb C g l e0 e1 hm=>H.fzap b C g l e0 e1 (by obtain⟨o,q1,q2⟩:=hm;exact⟨o,by rw[<- hg];exact q1,q2⟩),
  λg l cs e1 e2=>H.rofz g l cs e1 (by rw[<- hg];exact e2)⟩
theorem Heap.pL{h h':Heap}(hg:∀g,h'.get g=h.get g){g:Nat}:h'.mut g↔h.mut g:=by unfold Heap.mut;rw[hg]
theorem Heap.vR{h h':Heap}(hg:∀g,h'.get g=h.get g){g:Nat}:h'.live g↔h.live g:=by unfold Heap.live;rw[hg]
theorem Step.congr{N:Nat}{ι ι':Inj}{h1 h2 k1 k2:Heap}{w w':World}(s:Step N ι h1 w ι' k1 w')(hs:h2.size=h1.size)(hg:∀g,h2.get g=h1.get g)(ks:k2.size=k1.size)(kg:∀g,k2.get g=k1.get g):Step N ι h2 w ι' k2 w' where
 dom:=λg l e=>hs ▸ s.dom g l e
 size:=by rw[hs,ks];exact s.size
 ext:=s.ext
 fresh:=λg l e e'=>hs ▸ s.fresh g l e e'
 own:=λg l e e'=>(s.own g l e e').imp id (λ⟨g0,l0,q1,q2,q3⟩=>⟨g0,l0,q1,(Heap.pL hg).2 q2,q3⟩)
 keep:=λg hlt hm=>(Heap.pL hg).2 (s.keep g (hs ▸ hlt) ((Heap.pL kg).1 hm))
 keepl:=λg hlt hm=>(Heap.vR hg).2 (s.keepl g (hs ▸ hlt) ((Heap.vR kg).1 hm))
 wsize:=s.wsize
 frame:=λb hb hn=>s.frame b hb (λg l e hm=>hn g l e ((Heap.pL hg).2 hm))
 others:=λg hlt e=>by rw[kg,hg];exact s.others g (hs ▸ hlt) e
 out:=s.out
 fzown:=s.fzown
theorem al.congr{P:Program}{N:Nat}{f:FuncId}{vs:Array Value}{h1 h2 k1 k2:Heap}{v:Value}(c:al P N f vs h1 v k1)(hs:h2.size=h1.size)(hg:∀g,h2.get g=h1.get g)(ks:k2.size=k1.size)(kg:∀g,k2.get g=k1.get g)
  (hk:k1=h1->k2=h2):al P N f vs h2 v k2:=by
 refine⟨by rw[hs,ks];exact c.1,λι w vs' H r=>?_⟩
 rcases c.2 ι w vs' (H.congr hs.symm (λg=>(hg g).symm)) r with⟨q1,q2⟩|⟨v',q1,q2,q3⟩
 .refine .inl ⟨q1,q2.mono ?_⟩;rintro e w' ⟨ι',v',rfl,p1,p2,p3⟩;exact⟨ι',v',rfl,p1,p2.congr ks kg,p3.congr hs hg ks kg⟩
 .exact .inr ⟨v',q1,q2,hk q3⟩
def Heap.iI(h:Heap)(x:Nat):Heap:={ h with low:=x }
structure LowOk (h h':Heap):Prop where
 low:h'.low<=h.low
 size:h.size<=h'.size
 get:∀g,g<h'.low->g<h.size->h'.get g=h.get g
theorem LowOk.refl(h:Heap):LowOk h h:=⟨LV _,LV _,λ_ _ _=>rfl⟩
theorem LowOk.trans{h h1 h2:Heap}(a:LowOk h h1)(b:LowOk h1 h2):LowOk h h2 :=
 ⟨Mf b.low a.low,Mf a.size b.size,λg h1 h2=>by rw[b.get g h1 (Mr h2 a.size),a.get g (Mr h1 b.low) h2]⟩
theorem LowOk.push(h:Heap)(o:AObj):LowOk h (h.push o) :=
 ⟨LV _,NB _,λg _ hg=>by rw[Heap.bq,if_neg (by omega)]⟩
theorem LowOk.upd(h:Heap)(g:Nat)(o:AObj)(hg:g<h.size):LowOk h (h.upd g o) :=
 ⟨NW _ _,LV _,λk hk _=>by
  have:k<min h.low g:=hk
  rw[Heap.cc _ _ _ _ hg,if_neg (by omega)]⟩
theorem rN{h h':Heap}{s b n len cap:Nat}{z v:Value}{new:List Value}{base:Option Addr}(e:dI h h.size s b z n new base len cap=some (v,h')):LowOk h h':=by
 unfold dI at e;split at e
 .split at e
  .cases e;exact .refl _
  .cases e
 .split at e
  .split at e
   .split at e
    .rename_i hg;split at e
     .cases e;exact .upd _ _ _ (Heap.ai hg)
     .cases e
    .cases e
   .cases e
  .split at e
   .split at e
    .cases e;exact .push _ _
    .split at e
     .split at e
      .cases e;exact .push _ _
      .cases e
     .cases e
    .split at e
     .rename_i hg;split at e
      .cases e;exact (LowOk.upd _ _ _ (Heap.ai hg)).trans (.push _ _)
      .cases e
     .cases e
   .cases e
theorem CO{h h':Heap}{n len:Nat}{v:Value}{new:List Value}{base:Option Addr}(e:pj h n new base len=some (v,h')):LowOk h h':=by
 unfold pj at e;split at e
 .cases e;exact .refl _
 .split at e
  .cases e
  .split at e
   .rename_i hg;split at e
    .cases e;exact .upd _ _ _ (Heap.ai hg)
    .cases e
   .cases e
theorem An{h h':Heap}{len:Nat}{v:Value}{new:List Value}{base:Option Addr}(e:lX h new base len=some (v,h')):LowOk h h':=by
 unfold lX at e;split at e
 .cases e;exact .refl _
 .split at e
  .cases e
  .split at e
   .rename_i hg;split at e
    .cases e;exact .upd _ _ _ (Heap.ai hg)
    .cases e
   .cases e
theorem Bb{P:Program}{h h':Heap}{ρ:Operand->Value}{o:Oper}{v:Value}(e:cZ P ρ o h=some (v,h')):LowOk h h':=by
 unfold cZ fa at e;split at e
 .split at e
  .split at e
   .rename_i hg;split at e
    .cases e;exact .upd _ _ _ (Heap.ai hg)
    .cases e
   .cases e
  .cases e
 .split at e
  .split at e
   .split at e
    .split at e
     .split at e
      .cases e
      .exact rN e
     .cases e
    .cases e
   .cases e
  .split at e
   .split at e
    .split at e
     .split at e
      .cases e;exact .refl _
      .cases e
     .cases e
    .cases e
   .cases e
  .split at e
   .split at e
    .split at e
     .split at e
      .cases e;exact .refl _
      .split at e
       .cases e
       .exact rN e
     .cases e
    .cases e
   .cases e
  .split at e
   .split at e
    .split at e
     .exact CO e
     .cases e
    .cases e
   .cases e
  .split at e
   .split at e
    .split at e
     .exact An e
     .cases e
    .cases e
   .cases e
  .cases e
 .unfold zP at e;split at e
  .split at e
   .rename_i hg;split at e
    .cases e;exact .upd _ _ _ (Heap.ai hg)
    .cases e;exact .refl _
   .cases e
  .cases e
 .split at e
  .split at e
   .split at e
    .unfold A0 at e;split at e
     .split at e
      .rename_i hg;split at e
       .cases e;exact .upd _ _ _ (Heap.ai hg)
       .cases e;exact .upd _ _ _ (Heap.ai hg)
       .cases e
      .cases e
     .cases e
    .cases e
   .cases e
  .cases e
 .split at e
  .split at e
   .split at e
    .split at e
     .unfold yr at e;split at e
      .split at e
       .rename_i hg;split at e
        .cases e;exact .upd _ _ _ (Heap.ai hg)
        .cases e;exact .upd _ _ _ (Heap.ai hg)
        .cases e
       .cases e
      .cases e
     .cases e
    .cases e
   .cases e
  .cases e
 .unfold xr at e;split at e
  .split at e
   .split at e
    .rename_i hg;split at e
     .cases e;exact .upd _ _ _ (Heap.ai hg)
     .cases e
    .cases e
   .cases e
  .cases e
 .cases e
def Il:Value->Value->Bool
 |.bool a,.bool b=>a==b
 |.int j a,.int k b=>decide (j=k)&&decide (a=b)
 |.pointer a,.pointer b=>decide (a=b)
 |.slice a n c,.slice b m d=>decide (a=b)&&decide (n=m)&&decide (c=d)
 |.map a,.map b=>decide (a=b)
 |.nilFunc,.nilFunc=>true
 |.nilIface,.nilIface=>true
 |.string a,.string b=>a.data.toList==b.data.toList
 |_,_=>false
def uq(f:Value->Value->Bool):List Value->List Value->Bool
 |[],[]=>true
 |a::l,b::r=>f a b&&uq f l r
 |_,_=>false
def Ke(f:Value->Value->Bool):Value->Value->Bool
 |.agg ⟨a⟩,.agg ⟨b⟩=>uq f a b
 |.tuple ⟨a⟩,.tuple ⟨b⟩=>uq f a b
 |.iface s a,.iface t b=>decide (s=t)&&f a b
 |a,b=>Il a b
def I8:Nat->Value->Value->Bool
 |0=>Il
 |n+1=>Ke (I8 n)
def veq(a b:Value):Bool:=I8 12 a b
theorem Gd{a b:ByteArray}(h:(a.data.toList==b.data.toList)=true):a=b:=by
 obtain⟨a⟩:=a;obtain⟨b⟩:=b;have:=eq_of_beq h;exact congrArg RY (On this)
theorem DO{a b:Value}(h:Il a b=true):a=b:=by
 by_cases hs:(∃x,a=.string x)/\∃y,b=.string y
 .obtain⟨⟨x,rfl⟩,y,rfl⟩:=hs;exact congrArg Value.string (Gd h)
 .cases a <;> cases b <;> simp[Il] at h <;> simp_all
theorem sk{f:Value->Value->Bool}(hf:∀a b,f a b=true->a=b):∀{a b:List Value},uq f a b=true->a=b
 |[],[],_=>rfl
 |_::_,[],h=>by simp[uq] at h
 |[],_::_,h=>by simp[uq] at h
 |a::l,b::r,h=>by
  simp only[uq,L9] at h;rw[hf _ _ h.1,sk hf h.2]
theorem IG{f:Value->Value->Bool}(hf:∀a b,f a b=true->a=b){a b:Value}(h:Ke f a b=true):a=b:=by
 unfold Ke at h;split at h
 .rw[sk hf h]
 .rw[sk hf h]
 .simp only[L9,decide_eq_true_eq] at h;rw[h.1,hf _ _ h.2]
 .exact DO h
theorem zU:∀(n:Nat) (a b:Value),I8 n a b=true->a=b
 |0,_,_,h=>DO h
 |n+1,_,_,h=>IG (zU n) h
theorem Cv{a b:Value}(h:veq a b=true):a=b:=zU 12 a b h
inductive X where
 |normal|exit (id:Nat) | ret
def X.bN:X->Exit
 |.normal=>.normal
 |.exit id=>.exit id
 |.ret=>.ret
abbrev ux:=FuncId->Array Value->Heap->Option (Value×Heap)
def lE(P:Program)(call:ux)(ops:Array Oper):List Oper->Env->Heap->Option (Env×Heap)
 |[],e,h=>some (e,h)
 |o::r,e,h =>
  match Mz o (aQ ops e) with
  |false=>lE P call ops r (e.put o.dst undef) h
  |true =>
   match cls o.op with
   |.pure=>match aC P e.eval o with
    |some v=>lE P call ops r (e.put o.dst v) h
    |none=>match qF P e.eval o h with
     |some v=>lE P call ops r (e.put o.dst v) h
     |none=>none
   |.read=>match bp P e.eval o h with
    |some v=>lE P call ops r (e.put o.dst v) h
    |none=>none
   |.new=>match ew P e.eval o with
    |some (ob,f)=>lE P call ops r (e.put o.dst (f h.size)) (h.push ob)
    |none=>none
   |.eff=>match cZ P e.eval o h with
    |some (v,h1)=>lE P call ops r (e.put o.dst v) h1
    |none=>none
   |.call=>match fq e.eval o.op with
    |some (f,vs)=>match call f vs h with
     |some (v,h1)=>lE P call ops r (e.put o.dst v) h1
     |none=>none
    |none=>none
def B9(P:Program)(ops:Array Oper)(h0:Heap)(k:Nat)(o:Oper)(e:Env)(v:Value):Bool :=
 match plain v with
 |true=>true
 |false=>match jk ops k with
  |true=>true
  |false=>match bp P e.eval o h0 with
   |some u=>veq u v
   |none=>false
def Dv:Option AObj->Option AObj->Bool
 |none,none=>true
 |some (.cells a p),some (.cells b q)=>(p==q)&&uq (I8 12) a b
 |_,_=>false
theorem A9{a b:Option AObj}(h:Dv a b=true):a=b:=by
 unfold Dv at h;split at h
 .rfl
 .rename_i x p y q;simp only[L9,beq_iff_eq] at h;rw[h.1,sk (zU 12) h.2]
 .cases h
def CG(ops:Array Oper)(k:Nat)(e:Env)(h h1:Heap):Bool :=
 uY ops k ((List.range k).filter λi=>match ops[i]? with
  |some x=>match x.op with
   |.load _ (.tmp a)=>match e.get a with
    |.pointer (some ⟨g,_,none⟩)=>Dv (h1.get g) (h.get g)
    |_=>true
   |_=>false
  |none=>false)
def HV(o:Oper)(e:Env)(h h1:Heap):Bool :=
 match o.op with
 |.store _ x _=>match e.eval x with
  |.pointer (some ⟨g,_,none⟩)=>Dv (h1.get g) (h.get g)
  |_=>false
 |_=>false
theorem EU{P:Program}{o:Oper}{e:Env}{h h1:Heap}{v:Value}(hv:cZ P e.eval o h=some (v,h1))(q:HV o e h h1=true):Ext h h1:=by
 unfold HV at q;split at q
 .rename_i t x y ho;split at q
  .rename_i g off hx;unfold cZ fa at hv;simp only[ho,hx] at hv;have hq:=A9 q;split at hv
   .rename_i cs hg;split at hv
    .simp only[LR,Mn] at hv;obtain⟨_,rfl⟩:=hv;refine⟨by rw[Heap.Di];exact LV _,λk hk=>?_⟩;by_cases c:k=g
     .subst c;exact hq
     .rw[Heap.cc _ _ _ _ (Heap.ai hg),if_neg c]
    .cases hv
   .cases hv
  .cases q
 .cases q
theorem uE{ops:Array Oper}{k:Nat}{e:Env}{h h1:Heap}(q:CG ops k e h h1=true):oT ops k e h h1:=by
 refine⟨_,q,λi hi x t a hx ho g off hg=>?_⟩;have:=(Nc.1 hi).2;rw[hx] at this;simp only[ho,hg] at this;exact A9 this
def jE(P:Program)(call:ux)(ops:Array Oper)(h0:Heap):List Oper->Nat->Env->Heap->Option (Env×Heap)
 |[],_,e,h=>some (e,h)
 |o::r,k,e,h =>
  match Mz o (aQ ops e) with
  |false=>jE P call ops h0 r (k+1) (e.put o.dst undef) h
  |true =>
   match cls o.op with
   |.pure=>match aC P e.eval o with
    |some v=>jE P call ops h0 r (k+1) (e.put o.dst v) h
    |none=>none
   |.read=>match bp P e.eval o h with
    |some v =>
     match B9 P ops h0 k o e v with
     |true=>jE P call ops h0 r (k+1) (e.put o.dst v) h
     |false=>none
    |none=>none
   |.new=>match ew P e.eval o with
    |some (ob,f)=>jE P call ops h0 r (k+1) (e.put o.dst (f h.size)) (h.push ob)
    |none=>none
   |.eff=>match cZ P e.eval o h with
    |some (v,h1)=>match eO ops k||(HV o e h h1||CG ops k e h h1) with
     |true=>jE P call ops h0 r (k+1) (e.put o.dst v) h1
     |false=>none
    |none=>none
   |.call=>match fq e.eval o.op with
    |some (f,vs)=>match call f vs (h.iI h.size) with
     |some (v,h1)=>match decide (h.size<=h1.low) with
      |true=>jE P call ops h0 r (k+1) (e.put o.dst v) (h1.iI h.low)
      |false=>match eO ops k||CG ops k e h h1 with
       |true=>jE P call ops h0 r (k+1) (e.put o.dst v) (h1.iI (min h.low h1.low))
       |false=>none
     |none=>none
    |none=>none
def iter:Nat->(Env->Heap->Option (X×Env×Heap))->Env->Heap->Option (X×Env×Heap)
 |0,_,_,_=>none
 |n+1,f,e,h =>
  match f e h with
  |some (.normal,e1,h1)=>iter n f e1 h1
  |r=>r
def cx(P:Program)(call:ux)(n:Nat):Code->Env->Heap->Option (X×Env×Heap)
 |.skip,e,h=>some (.normal,e,h)
 |.label _,e,h=>some (.normal,e,h)
 |.exit id,e,h=>some (.exit id,e,h)
 |.ret,e,h=>some (.ret,e,h)
 |.region _ ops false,e,h=>match lE P call ops ops.toList e h with
  |some (e1,h1)=>some (.normal,e1,h1)
  |none=>none
 |.region _ ops true,e,h=>match jE P call ops h ops.toList 0 e h with
  |some (e1,h1)=>some (.normal,e1,h1)
  |none=>none
 |.seq a b,e,h=>match cx P call n a e h with
  |some (.normal,e1,h1)=>cx P call n b e1 h1
  |r=>r
 |.cond c a b,e,h=>match e.eval c with
  |.bool true=>cx P call n a e h
  |.bool false=>cx P call n b e h
  |_=>none
 |.block id c,e,h=>match cx P call n c e h with
  |some (.exit id',e1,h1)=>if id'=id then some (.normal,e1,h1) else some (.exit id',e1,h1)
  |r=>r
 |.loop c,e,h=>iter n (cx P call n c) e h
 |.scope c,e,h=>cx P call n c e h
 |_,_,_=>none
def km(P:Program)(bad:List FuncId)(orc:FuncId->Array Value->Heap->Option Value):Nat->ux
 |0,_,_,_=>none
 |n+1,f,vs,h =>
  match orc f vs h with
  |some v=>some (v,h)
  |none =>
   match (if bad.contains f then none else P.funcs[f]?) with
   |none=>none
   |some fn =>
    match fn.body with
    |none=>none
    |some c =>
     if vs.size<=fn.ntmps then
      match cx P (km P bad orc n) n c (cM fn.ntmps vs) h with
      |some (.normal,e1,h1)=>match lG P fn e1 h1 with
       |some v=>some (v,h1)
       |none=>none
      |some (.ret,e1,h1)=>match lG P fn e1 h1 with
       |some v=>some (v,h1)
       |none=>none
      |_=>none
     else none
def codeOk(N n:Nat):Code->Bool
 |.region _ ops d=>jI N n ops&&(!d||fS ops)
 |.seq a b=>codeOk N n a&&codeOk N n b
 |.cond c a b=>lY N n c&&codeOk N n a&&codeOk N n b
 |.block _ c=>codeOk N n c
 |.loop c=>codeOk N n c
 |.scope c=>codeOk N n c
 |_=>true
def jO(N:Nat)(fn:Func):Bool :=
 match fn.body with
 |some c => codeOk N fn.ntmps c && !(fn.name == "runtime.NumGoroutine")
 |none=>true
section
variable {P:Program} {N:Nat}
def yW(P:Program)(N:Nat)(call:ux):Prop:=∀f vs h v h',call f vs h=some (v,h')->al P N f vs h v h'/\LowOk h h'
theorem OpD.pure{o:Oper}{e:Env}{h:Heap}{v:Value}(hc:cls o.op=.pure)(hv:aC P e.eval o=some v):OpD P N o e h v h:=by
 unfold OpD;rw[hc];exact⟨hv,rfl⟩
theorem OpD.read{o:Oper}{e:Env}{h:Heap}{v:Value}(hc:cls o.op=.read)(hv:bp P e.eval o h=some v):OpD P N o e h v h:=by
 unfold OpD;rw[hc];exact⟨hv,rfl⟩
theorem OpD.new{o:Oper}{e:Env}{h:Heap}{ob:AObj}{f:Nat->Value}(hc:cls o.op=.new)(hv:ew P e.eval o=some (ob,f)):OpD P N o e h (f h.size) (h.push ob):=by
 unfold OpD;rw[hc];exact⟨ob,f,hv,rfl,rfl⟩
theorem OpD.eff{o:Oper}{e:Env}{h h':Heap}{v:Value}(hc:cls o.op=.eff)(hv:cZ P e.eval o h=some (v,h')):OpD P N o e h v h':=by
 unfold OpD;rw[hc];exact hv
theorem OpD.call{o:Oper}{e:Env}{h h':Heap}{v:Value}{f:FuncId}{vs:Array Value}(hc:cls o.op=.call)(hv:fq e.eval o.op=some (f,vs))(hd:al P N f vs h v h'):OpD P N o e h v h':=by
 unfold OpD;rw[hc];exact⟨f,vs,hv,hd⟩
theorem dX{call:ux}(hc:yW P N call){ops:Array Oper}:∀(l:List Oper) (e:Env) (h:Heap) (e1:Env) (h1:Heap),lE P call ops l e h=some (e1,h1)->lK P N ops l e h e1 h1/\LowOk h h1
 |[],e,h,e1,h1,hr=>by
  simp only[lE,LR,Mn] at hr;obtain⟨rfl,rfl⟩:=hr;exact⟨⟨rfl,rfl⟩,.refl _⟩
 |o::l,e,h,e1,h1,hr=>by
  unfold lE at hr;unfold lK
  cases hw:Mz o (aQ ops e) with
  |false =>
   simp only[hw] at hr;rw[if_neg (by simp)];exact dX hc l _ _ _ _ hr
  |true =>
   simp only[hw] at hr;rw[if_pos rfl]
   cases hcl:cls o.op with
   |pure =>
    simp only[hcl] at hr;split at hr
    .rename_i v hv;obtain⟨q1,q2⟩:=dX hc l _ _ _ _ hr;exact⟨⟨v,h,.inl (OpD.pure hcl hv),q1⟩,q2⟩
    .split at hr
     .rename_i v hv;obtain⟨q1,q2⟩:=dX hc l _ _ _ _ hr;exact⟨⟨v,h,.inr (.inl ⟨hv,rfl⟩),q1⟩,q2⟩
     .cases hr
   |read =>
    simp only[hcl] at hr;split at hr
    .rename_i v hv;obtain⟨q1,q2⟩:=dX hc l _ _ _ _ hr;exact⟨⟨v,h,.inl (OpD.read hcl hv),q1⟩,q2⟩
    .cases hr
   |new =>
    simp only[hcl] at hr;split at hr
    .rename_i ob f hv;obtain⟨q1,q2⟩:=dX hc l _ _ _ _ hr;exact⟨⟨_,_,.inl (OpD.new hcl hv),q1⟩,(LowOk.push _ _).trans q2⟩
    .cases hr
   |eff =>
    simp only[hcl] at hr;split at hr
    .rename_i v h2 hv;obtain⟨q1,q2⟩:=dX hc l _ _ _ _ hr;exact⟨⟨v,h2,.inl (OpD.eff hcl hv),q1⟩,(Bb hv).trans q2⟩
    .cases hr
   |call =>
    simp only[hcl] at hr;split at hr
    .rename_i f vs hv;split at hr
     .rename_i v h2 hcall;obtain⟨q1,q2⟩:=dX hc l _ _ _ _ hr;obtain⟨c1,c2⟩:=hc _ _ _ _ _ hcall;exact⟨⟨v,h2,.inl (OpD.call hcl hv c1),q1⟩,c2.trans q2⟩
     .cases hr
    .cases hr
theorem xb{h h1:Heap}(q:LowOk (h.iI h.size) h1)(hl:h.size<=h1.low)(x:Nat):Ext h (h1.iI x) :=
 ⟨q.size,λg hg=>q.get g (Mr hg hl) hg⟩
theorem F3{h h1:Heap}(q:LowOk (h.iI h.size) h1):LowOk h (h1.iI (min h.low h1.low)) :=
 ⟨NW _ _,q.size,λg h1' h2=>q.get g (Mr h1' (O8 _ _)) h2⟩
theorem Fg{h h1:Heap}(q:LowOk (h.iI h.size) h1)(hl:h.size<=h1.low):LowOk h (h1.iI h.low) :=
 ⟨LV _,q.size,λg _ h2=>q.get g (Mr h2 hl) h2⟩
theorem Bd{ops:Array Oper}{h0:Heap}{k:Nat}{o:Oper}{e:Env}{v:Value}(h:B9 P ops h0 k o e v=true):jk ops k=true\/plain v=true\/bp P e.eval o h0=some v:=by
 unfold B9 at h;split at h
 .rename_i h1;exact .inr (.inl h1)
 .split at h
  .rename_i h1;exact .inl h1
  .split at h
   .rename_i u hu;rw[hu,Cv h];exact .inr (.inr rfl)
   .cases h
theorem dv{call:ux}(hc:yW P N call){ops:Array Oper}{h0:Heap}:∀(l:List Oper) (k:Nat) (e:Env) (h:Heap) (e1:Env) (h1:Heap),jE P call ops h0 l k e h=some (e1,h1)->jR P N ops h0 false l k e h e1 h1/\LowOk h h1
 |[],k,e,h,e1,h1,hr=>by
  simp only[jE,LR,Mn] at hr;obtain⟨rfl,rfl⟩:=hr;exact⟨⟨rfl,rfl⟩,.refl _⟩
 |o::l,k,e,h,e1,h1,hr=>by
  unfold jE at hr;unfold jR
  cases hw:Mz o (aQ ops e) with
  |false =>
   simp only[hw] at hr;rw[if_neg (by simp)];exact dv hc l _ _ _ _ _ hr
  |true =>
   simp only[hw] at hr;rw[if_pos rfl]
   cases hcl:cls o.op with
   |pure =>
    simp only[hcl] at hr;split at hr
    .rename_i v hv;obtain⟨q1,q2⟩:=dv hc l _ _ _ _ _ hr;exact⟨⟨v,h,⟨OpD.pure hcl hv,by simp[aW,hcl],by simp[dp,hcl]⟩,q1⟩,q2⟩
    .cases hr
   |read =>
    simp only[hcl] at hr;split at hr
    .rename_i v hv;split at hr
     .rename_i hcond;obtain⟨q1,q2⟩:=dv hc l _ _ _ _ _ hr;exact⟨⟨v,h,⟨OpD.read hcl hv,by simp[aW,hcl],λ_=>⟨(λe=>nomatch e),.inr (Bd hcond)⟩⟩,q1⟩,q2⟩
     .cases hr
    .cases hr
   |new =>
    simp only[hcl] at hr;split at hr
    .rename_i ob f hv;obtain⟨q1,q2⟩:=dv hc l _ _ _ _ _ hr;exact⟨⟨_,_,⟨OpD.new hcl hv,by simp[aW,hcl],by simp[dp,hcl]⟩,q1⟩,(LowOk.push _ _).trans q2⟩
    .cases hr
   |eff =>
    simp only[hcl] at hr;split at hr
    .rename_i v h2 hv;split at hr
     .rename_i hcond
      have hcond':false=true\/eO ops k=true\/Ext h h2\/oT ops k e h h2:=by
       rcases PC.1 hcond with q|q
       .exact .inr (.inl q)
       .rcases PC.1 q with q|q
        .exact .inr (.inr (.inl (EU hv q)))
        .exact .inr (.inr (.inr (uE q)))
      obtain⟨q1,q2⟩:=dv hc l _ _ _ _ _ hr;exact⟨⟨v,_,⟨OpD.eff hcl hv,λ_=>hcond',by simp[dp,hcl]⟩,q1⟩,(Bb hv).trans q2⟩
     .cases hr
    .cases hr
   |call =>
    simp only[hcl] at hr;split at hr
    .rename_i f vs hv;split at hr
     .rename_i v h2 hcall;obtain⟨c1,hlow⟩:=hc _ _ _ _ _ hcall;split at hr
      .rename_i hcond;have hcond:=of_decide_eq_true hcond;obtain⟨q1,q2⟩:=dv hc l _ _ _ _ _ hr;have c2:al P N f vs h v (h2.iI h.low):=c1.congr rfl (λ_=>rfl) rfl (λ_=>rfl) (λhe=>by rw[he];rfl);exact⟨⟨v,_,⟨OpD.call hcl hv c2,λ_=>.inr (.inr (.inl (xb hlow hcond _))),by simp[dp,hcl]⟩,q1⟩,(Fg hlow hcond).trans q2⟩
      .split at hr
       .rename_i hcond
        have hcond':false=true\/eO ops k=true\/Ext h (h2.iI (min h.low h2.low))\/oT ops k e h (h2.iI (min h.low h2.low)):=by
         rcases PC.1 hcond with q|q
         .exact .inr (.inl q)
         .exact .inr (.inr (.inr (uE (h1:=h2.iI (min h.low h2.low)) q)))
        obtain⟨q1,q2⟩:=dv hc l _ _ _ _ _ hr
        have c2:al P N f vs h v (h2.iI (min h.low h2.low)):=c1.congr rfl (λ_=>rfl) rfl (λ_=>rfl) (λhe=>by
         exfalso;rename_i hlt _;have:=of_decide_eq_false hlt;rw[he] at this
         exact this (LV _))
        exact⟨⟨v,_,⟨OpD.call hcl hv c2,λ_=>hcond',by simp[dp,hcl]⟩,q1⟩,(F3 hlow).trans q2⟩
       .cases hr
     .cases hr
    .cases hr
theorem wF{f:Env->Heap->Option (X×Env×Heap)}{c:Code}{nn:Nat}(hf:∀e h x e1 h1,e.n=nn->f e h=some (x,e1,h1)->aN P N c e h x.bN e1 h1/\LowOk h h1):∀(n:Nat) (e:Env) (h:Heap) (x:X) (e1:Env) (h1:Heap),e.n=nn ->
  iter n f e h=some (x,e1,h1)->(∃k,jJ P N c k e h x.bN e1 h1)/\LowOk h h1
 |0,_,_,_,_,_,_,hr=>by simp[iter] at hr
 |n+1,e,h,x,e1,h1,hn,hr=>by
  unfold iter at hr;split at hr
  .rename_i e2 h2 hq;obtain⟨c1,l1⟩:=hf _ _ _ _ _ hn hq;obtain⟨⟨k,c2⟩,l2⟩:=wF hf n e2 h2 x e1 h1 (c1.1.2.trans hn) hr;exact⟨⟨k+1,jJ.more c1 c2⟩,l1.trans l2⟩
  .rename_i hne;obtain⟨c1,l1⟩:=hf _ _ _ _ _ hn hr;refine⟨⟨1,jJ.last c1 ?_⟩,l1⟩
   cases x with
   |normal=>exact absurd hr (hne e1 h1)
   |exit id=>simp[X.bN]
   |ret=>simp[X.bN]
theorem qp{call:ux}(hc:yW P N call)(hM:P.follows .mixedOrders=true)(n:Nat){nn:Nat}:∀(c:Code),codeOk N nn c=true->∀(e:Env) (h:Heap) (x:X) (e1:Env) (h1:Heap),e.n=nn ->
  cx P call n c e h=some (x,e1,h1)->aN P N c e h x.bN e1 h1/\LowOk h h1:=by
 intro c
 induction c with
 |skip =>
  intro _ e h x e1 h1 _ hr;simp only[cx,LR,Mn] at hr;obtain⟨rfl,rfl,rfl⟩:=hr;exact⟨aN.skip,.refl _⟩
 |label l =>
  intro _ e h x e1 h1 _ hr;simp only[cx,LR,Mn] at hr;obtain⟨rfl,rfl,rfl⟩:=hr;exact⟨aN.label,.refl _⟩
 |exit id =>
  intro _ e h x e1 h1 _ hr;simp only[cx,LR,Mn] at hr;obtain⟨rfl,rfl,rfl⟩:=hr;exact⟨aN.exit,.refl _⟩
 |ret =>
  intro _ e h x e1 h1 _ hr;simp only[cx,LR,Mn] at hr;obtain⟨rfl,rfl,rfl⟩:=hr;exact⟨aN.ret,.refl _⟩
 |region id ops d =>
  intro hok e h x e1 h1 hn hr;simp only[codeOk,L9] at hok;subst hn
  cases d with
  |false =>
   simp only[cx] at hr;split at hr
   .rename_i e2 h2 hq;simp only[LR,Mn] at hr;obtain⟨rfl,rfl,rfl⟩:=hr;obtain⟨q1,q2⟩:=dX hc _ _ _ _ _ hq;exact⟨aN.region hok.1 q1,q2⟩
   .cases hr
  |true =>
   simp only[cx] at hr;split at hr
   .rename_i e2 h2 hq;simp only[LR,Mn] at hr;obtain⟨rfl,rfl,rfl⟩:=hr;obtain⟨q1,q2⟩:=dv hc _ _ _ _ _ _ hq;exact⟨aN.mV hM (by simpa using hok.2) hok.1 q1,q2⟩
   .cases hr
 |seq a b iha ihb =>
  intro hok e h x e1 h1 hn hr;simp only[codeOk,L9] at hok;simp only[cx] at hr;split at hr
  .rename_i e2 h2 hq;obtain⟨c1,l1⟩:=iha hok.1 _ _ _ _ _ hn hq;obtain⟨c2,l2⟩:=ihb hok.2 _ _ _ _ _ (c1.1.2.trans hn) hr;exact⟨aN.seq c1 c2,l1.trans l2⟩
  .rename_i hne;obtain⟨c1,l1⟩:=iha hok.1 _ _ _ _ _ hn hr;refine⟨aN.oV c1 ?_,l1⟩
   cases x with
   |normal=>exact absurd hr (hne e1 h1)
   |exit id=>simp[X.bN]
   |ret=>simp[X.bN]
 |cond c a b iha ihb =>
  intro hok e h x e1 h1 hn hr;simp only[codeOk,L9] at hok;simp only[cx] at hr;split at hr
  .rename_i hq;obtain⟨c1,l1⟩:=iha hok.1.2 _ _ _ _ _ hn hr;exact⟨aN.cond (by rw[hn];exact hok.1.1) hq c1,l1⟩
  .rename_i hq;obtain⟨c1,l1⟩:=ihb hok.2 _ _ _ _ _ hn hr;exact⟨aN.cond (by rw[hn];exact hok.1.1) hq c1,l1⟩
  .cases hr
 |block id c ih =>
  intro hok e h x e1 h1 hn hr;simp only[codeOk] at hok;simp only[cx] at hr;split at hr
  .rename_i id' e2 h2 hq;obtain⟨c1,l1⟩:=ih hok _ _ _ _ _ hn hq;split at hr
   .rename_i he;subst he;simp only[LR,Mn] at hr;obtain⟨rfl,rfl,rfl⟩:=hr;exact⟨aN.vL c1,l1⟩
   .rename_i he;simp only[LR,Mn] at hr;obtain⟨rfl,rfl,rfl⟩:=hr;exact⟨aN.block c1 (by simp only[X.bN];intro q;cases q;exact he rfl),l1⟩
  .rename_i hne;obtain⟨c1,l1⟩:=ih hok _ _ _ _ _ hn hr;refine⟨aN.block c1 ?_,l1⟩
   cases x with
   |normal=>simp[X.bN]
   |exit id'=>exact absurd hr (hne id' e1 h1)
   |ret=>simp[X.bN]
 |loop c ih =>
  intro hok e h x e1 h1 hn hr;simp only[codeOk] at hok;simp only[cx] at hr;obtain⟨⟨k,q1⟩,q2⟩:=wF (λe h x e1 h1 hn hq=>ih hok e h x e1 h1 hn hq) n e h x e1 h1 hn hr;exact⟨aN.loop q1,q2⟩
 |scope c ih =>
  intro hok e h x e1 h1 hn hr;simp only[codeOk] at hok;simp only[cx] at hr;obtain⟨c1,l1⟩:=ih hok _ _ _ _ _ hn hr;exact⟨aN.scope c1 (by intro l;cases x <;> simp[X.bN]),l1⟩
 |goto l=>intro _ e h x e1 h1 _ hr;simp[cx] at hr
 |rangeFunc f ps a b _ _=>intro _ e h x e1 h1 _ hr;simp[cx] at hr
 |refuse w=>intro _ e h x e1 h1 _ hr;simp[cx] at hr
theorem nw{f:FuncId}{fn:Func}{c:Code}(hf:P.funcs[f]?=some fn)(hb:fn.body=some c)(ho:jO N fn=true):lp P f=true/\codeOk N fn.ntmps c=true:=by
 unfold jO at ho;simp only[hb,L9] at ho;refine⟨?_,ho.1⟩;unfold lp;simp only[hf,hb,Option.isSome_some,OX];exact ho.2
theorem kp(hM:P.follows .mixedOrders=true){bad:List FuncId}(hP:∀(f:FuncId) (fn:Func),bad.contains f=false->P.funcs[f]?=some fn->jO N fn=true)
  {orc:FuncId->Array Value->Heap->Option Value} (ho:∀f vs h v,orc f vs h=some v->al P N f vs h v h) :
  ∀n,yW P N (km P bad orc n)
 |0=>by intro f vs h v h' hr;simp[km] at hr
 |n+1=>by
  intro f vs h v h' hr;have ih:=kp hM hP ho n;unfold km at hr;split at hr
  .rename_i v0 hv;simp only[LR,Mn] at hr;obtain⟨rfl,rfl⟩:=hr;exact⟨ho _ _ _ _ hv,.refl _⟩
  .split at hr
   .cases hr
   .rename_i fn hf0;split at hf0
    .cases hf0
    rename_i hbad;have hf:=hf0;split at hr
    .cases hr
    .rename_i c hb;obtain⟨ok1,ok2⟩:=nw hf hb (hP f fn (by simpa using hbad) hf);split at hr
     .rename_i hs;split at hr
      .rename_i e1 h1 hq;obtain⟨c1,l1⟩:=qp ih hM n c ok2 _ _ _ _ _ (iS _ _) hq;split at hr
       .rename_i v0 hv;simp only[LR,Mn] at hr;obtain⟨rfl,rfl⟩:=hr;exact⟨al.body hf hb ok1 hs (.inl rfl) c1 hv,l1⟩
       .cases hr
      .rename_i e1 h1 hq;obtain⟨c1,l1⟩:=qp ih hM n c ok2 _ _ _ _ _ (iS _ _) hq;split at hr
       .rename_i v0 hv;simp only[LR,Mn] at hr;obtain⟨rfl,rfl⟩:=hr;exact⟨al.body hf hb ok1 hs (.inr rfl) c1 hv,l1⟩
       .cases hr
      .cases hr
     .cases hr
end
end Go.Abs
