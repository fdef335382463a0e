/-
  AbsR: parts of the proof.
-/
import Derived.Test.YtgiedjgdlckahaaGreatDoorTk18
namespace Go.Abs
theorem HRel.congr {N:Nat}{ι:Inj}{h h':Heap}{w:World} (H:HRel N ι h w) (hs:h'.size=h.size) (hg:∀ g,h'.get g=h.get g):HRel N ι h' w :=
 ⟨fun g l e=>hs ▸ H.dom g l e,H.blk,H.glob,fun g l o e1 e2=>H.obj g l o e1 (by rw[<- hg];exact e2),fun g g' l l' e1 e2 hne hm hl=>H.apart g g' l l' e1 e2 hne (by obtain⟨o,q1,q2⟩:=hm;exact⟨o,by rw[<- hg];exact q1,q2⟩)
  (by obtain⟨o,q1,q2⟩:=hl;exact⟨o,by rw[<- hg];exact q1,q2⟩),H.frz,fun b C g l e0 e1 hm=>H.fzap b C g l e0 e1 (by obtain⟨o,q1,q2⟩:=hm;exact⟨o,by rw[<- hg];exact q1,q2⟩),
  fun g l cs e1 e2=>H.rofz g l cs e1 (by rw[<- hg];exact e2)⟩
theorem Heap.nG {h h':Heap} (hg:∀ g,h'.get g=h.get g) {g:Nat}:h'.mut g↔h.mut g:=by unfold Heap.mut;rw[hg]
theorem Heap.tK {h h':Heap} (hg:∀ g,h'.get g=h.get g) {g:Nat}:h'.live g↔h.live g:=by unfold Heap.live;rw[hg]
theorem Step.congr {ι ι':Inj}{h1 h2 k1 k2:Heap}{w w':World} (s:Step ι h1 w ι' k1 w') (hs:h2.size=h1.size) (hg:∀ g,h2.get g=h1.get g) (ks:k2.size=k1.size) (kg:∀ g,k2.get g=k1.get g):Step ι h2 w ι' k2 w' where
 dom:=fun g l e=>hs ▸ s.dom g l e
 size:=by rw[hs,ks];exact s.size
 ext:=s.ext
 fresh:=fun g l e e'=>hs ▸ s.fresh g l e e'
 own:=fun g l e e'=>(s.own g l e e').imp id (fun ⟨g0,l0,q1,q2,q3⟩=>⟨g0,l0,q1,(Heap.nG hg).2 q2,q3⟩)
 keep:=fun g hlt hm=>(Heap.nG hg).2 (s.keep g (hs ▸ hlt) ((Heap.nG kg).1 hm))
 keepl:=fun g hlt hm=>(Heap.tK hg).2 (s.keepl g (hs ▸ hlt) ((Heap.tK kg).1 hm))
 wsize:=s.wsize
 frame:=fun b hb hn=>s.frame b hb (fun g l e hm=>hn g l e ((Heap.nG hg).2 hm))
 others:=fun g hlt e=>by rw[kg,hg];exact s.others g (hs ▸ hlt) e
 out:=s.out
 fzown:=s.fzown
theorem CallD.congr {P:Program}{N:Nat}{f:FuncId}{vs:Array Value}{h1 h2 k1 k2:Heap}{v:Value} (c:CallD P N f vs h1 v k1) (hs:h2.size=h1.size) (hg:∀ g,h2.get g=h1.get g) (ks:k2.size=k1.size) (kg:∀ g,k2.get g=k1.get g)
  (hk:k1=h1->k2=h2):CallD P N f vs h2 v k2:=by
 refine⟨by rw[hs,ks];exact c.1,fun ι w vs' H r=>?_⟩
 rcases c.2 ι w vs' (H.congr hs.symm (fun g=>(hg g).symm)) r with⟨q1,q2⟩|⟨v',q1,q2,q3⟩
 ·refine .inl ⟨q1,q2.mono ?_⟩;rintro e w' ⟨ι',v',rfl,p1,p2,p3⟩;exact⟨ι',v',rfl,p1,p2.congr ks kg,p3.congr hs hg ks kg⟩
 ·exact .inr ⟨v',q1,q2,hk q3⟩
def Heap.fG (h:Heap) (x:Nat):Heap:={ h with low:=x }
structure LowOk (h h':Heap):Prop where
 low:h'.low<=h.low
 size:h.size<=h'.size
 get:∀ g,g<h'.low->g<h.size->h'.get g=h.get g
theorem LowOk.refl (h:Heap):LowOk h h:=⟨Nat.le_refl _,Nat.le_refl _,fun _ _ _=>rfl⟩
theorem LowOk.trans {h h1 h2:Heap} (a:LowOk h h1) (b:LowOk h1 h2):LowOk h h2 :=
 ⟨Nat.le_trans b.low a.low,Nat.le_trans a.size b.size,fun g h1 h2=>by rw[b.get g h1 (Nat.lt_of_lt_of_le h2 a.size),a.get g (Nat.lt_of_lt_of_le h1 b.low) h2]⟩
theorem LowOk.push (h:Heap) (o:AObj):LowOk h (h.push o) :=
 ⟨Nat.le_refl _,Nat.le_succ _,fun g _ hg=>by rw[Heap.bc,if_neg (by omega)]⟩
theorem LowOk.upd (h:Heap) (g:Nat) (o:AObj) (hg:g<h.size):LowOk h (h.upd g o) :=
 ⟨Nat.min_le_left _ _,Nat.le_refl _,fun k hk _=>by
  have:k<min h.low g:=hk
  rw[Heap.bF _ _ _ _ hg,if_neg (by omega)]⟩
theorem pW {h h':Heap}{s b n len cap:Nat}{z v:Value}{new:List Value}{base:Option Addr} (e:de h h.size s b z n new base len cap=some (v,h')):LowOk h h':=by
 unfold de at e;split at e
 ·split at e
  ·cases e;exact .refl _
  ·cases e
 ·split at e
  ·split at e
   ·split at e
    ·rename_i hg;split at e
     ·cases e;exact .upd _ _ _ (Heap.ag hg)
     ·cases e
    ·cases e
   ·cases e
  ·split at e
   ·split at e
    ·cases e;exact .push _ _
    ·split at e
     ·split at e
      ·cases e;exact .push _ _
      ·cases e
     ·cases e
    ·split at e
     ·rename_i hg;split at e
      ·cases e;exact (LowOk.upd _ _ _ (Heap.ag hg)).trans (.push _ _)
      ·cases e
     ·cases e
   ·cases e
theorem BG {h h':Heap}{n len:Nat}{v:Value}{new:List Value}{base:Option Addr} (e:mF h n new base len=some (v,h')):LowOk h h':=by
 unfold mF at e;split at e
 ·cases e;exact .refl _
 ·split at e
  ·cases e
  ·split at e
   ·rename_i hg;split at e
    ·cases e;exact .upd _ _ _ (Heap.ag hg)
    ·cases e
   ·cases e
theorem zH {h h':Heap}{len:Nat}{v:Value}{new:List Value}{base:Option Addr} (e:kr h new base len=some (v,h')):LowOk h h':=by
 unfold kr at e;split at e
 ·cases e;exact .refl _
 ·split at e
  ·cases e
  ·split at e
   ·rename_i hg;split at e
    ·cases e;exact .upd _ _ _ (Heap.ag hg)
    ·cases e
   ·cases e
theorem Ar {P:Program}{h h':Heap}{ρ:Operand->Value}{o:Oper}{v:Value} (e:dp P ρ o h=some (v,h')):LowOk h h':=by
 unfold dp fO at e;split at e
 ·split at e
  ·split at e
   ·rename_i hg;split at e
    ·cases e;exact .upd _ _ _ (Heap.ag hg)
    ·cases e
   ·cases e
  ·cases e
 ·split at e
  ·split at e
   ·split at e
    ·split at e
     ·split at e
      ·cases e
      ·exact pW e
     ·cases e
    ·cases e
   ·cases e
  ·split at e
   ·split at e
    ·split at e
     ·split at e
      ·cases e;exact .refl _
      ·cases e
     ·cases e
    ·cases e
   ·cases e
  ·split at e
   ·split at e
    ·split at e
     ·split at e
      ·cases e;exact .refl _
      ·split at e
       ·cases e
       ·exact pW e
     ·cases e
    ·cases e
   ·cases e
  ·split at e
   ·split at e
    ·split at e
     ·exact BG e
     ·cases e
    ·cases e
   ·cases e
  ·split at e
   ·split at e
    ·split at e
     ·exact zH e
     ·cases e
    ·cases e
   ·cases e
  ·cases e
 ·unfold xz at e;split at e
  ·split at e
   ·rename_i hg;split at e
    ·cases e;exact .upd _ _ _ (Heap.ag hg)
    ·cases e;exact .refl _
   ·cases e
  ·cases e
 ·split at e
  ·split at e
   ·split at e
    ·unfold An at e;split at e
     ·split at e
      ·rename_i hg;split at e
       ·cases e;exact .upd _ _ _ (Heap.ag hg)
       ·cases e;exact .upd _ _ _ (Heap.ag hg)
       ·cases e
      ·cases e
     ·cases e
    ·cases e
   ·cases e
  ·cases e
 ·cases e
def HR:Value->Value->Bool
 |.bool a,.bool b=>a==b
 |.int j a,.int k b=>decide (j=k)&&decide (a=b)
 |.pointer a,.pointer b=>decide (a=b)
 |.slice a n c,.slice b m d=>decide (a=b)&&decide (n=m)&&decide (c=d)
 |.map a,.map b=>decide (a=b)
 |.nilFunc,.nilFunc=>true
 |.nilIface,.nilIface=>true
 |.string a,.string b=>a.data.toList==b.data.toList
 |_,_=>false
def rW (f:Value->Value->Bool):List Value->List Value->Bool
 |[],[]=>true
 |a::l,b::r=>f a b&&rW f l r
 |_,_=>false
def Ip (f:Value->Value->Bool):Value->Value->Bool
 |.agg ⟨a⟩,.agg ⟨b⟩=>rW f a b
 |.tuple ⟨a⟩,.tuple ⟨b⟩=>rW f a b
 |.iface s a,.iface t b=>decide (s=t)&&f a b
 |a,b=>HR a b
def GH:Nat->Value->Value->Bool
 |0=>HR
 |n+1=>Ip (GH n)
def veq (a b:Value):Bool:=GH 12 a b
theorem EU {a b:ByteArray} (h:(a.data.toList==b.data.toList)=true):a=b:=by
 obtain⟨a⟩:=a;obtain⟨b⟩:=b;have:=eq_of_beq h;exact congrArg ByteArray.mk (Array.ext' this)
theorem Cm {a b:Value} (h:HR a b=true):a=b:=by
 by_cases hs:(∃ x,a=.string x)/\∃ y,b=.string y
 ·obtain⟨⟨x,rfl⟩,y,rfl⟩:=hs;exact congrArg Value.string (EU h)
 ·cases a <;> cases b <;> simp[HR] at h <;> simp_all
theorem pH {f:Value->Value->Bool} (hf:∀ a b,f a b=true->a=b):∀ {a b:List Value},rW f a b=true->a=b
 |[],[],_=>rfl
 |_::_,[],h=>by simp[rW] at h
 |[],_::_,h=>by simp[rW] at h
 |a::l,b::r,h=>by
  simp only[rW,Bool.and_eq_true] at h;rw[hf _ _ h.1,pH hf h.2]
theorem Hb {f:Value->Value->Bool} (hf:∀ a b,f a b=true->a=b) {a b:Value} (h:Ip f a b=true):a=b:=by
 unfold Ip at h;split at h
 ·rw[pH hf h]
 ·rw[pH hf h]
 ·simp only[Bool.and_eq_true,decide_eq_true_eq] at h;rw[h.1,hf _ _ h.2]
 ·exact Cm h
theorem xy:∀ (n:Nat) (a b:Value),GH n a b=true->a=b
 |0,_,_,h=>Cm h
 |n+1,_,_,h=>Hb (xy n) h
theorem AR {a b:Value} (h:veq a b=true):a=b:=xy 12 a b h
inductive X where
 |normal|exit (id:Nat) | ret
def X.toExit:X->Exit
 |.normal=>.normal
 |.exit id=>.exit id
 |.ret=>.ret
abbrev rU:=FuncId->Array Value->Heap->Option (Value×Heap)
def kc (P:Program) (call:rU) (ops:Array Oper):List Oper->Env->Heap->Option (Env×Heap)
 |[],e,h=>some (e,h)
 |o::r,e,h =>
  match Region.wanted o (ayielded ops e) with
  |false=>kc P call ops r (e.put o.dst undef) h
  |true =>
   match cls o.op with
   |.pure=>match aq P e.eval o with
    |some v=>kc P call ops r (e.put o.dst v) h
    |none=>match vk P e.eval o h with
     |some v=>kc P call ops r (e.put o.dst v) h
     |none=>none
   |.read=>match aT P e.eval o h with
    |some v=>kc P call ops r (e.put o.dst v) h
    |none=>none
   |.new=>match anew P e.eval o with
    |some (ob,f)=>kc P call ops r (e.put o.dst (f h.size)) (h.push ob)
    |none=>none
   |.eff=>match dp P e.eval o h with
    |some (v,h1)=>kc P call ops r (e.put o.dst v) h1
    |none=>none
   |.call=>match js e.eval o.op with
    |some (f,vs)=>match call f vs h with
     |some (v,h1)=>kc P call ops r (e.put o.dst v) h1
     |none=>none
    |none=>none
def BF (P:Program) (ops:Array Oper) (h0:Heap) (k:Nat) (o:Oper) (e:Env) (v:Value):Bool :=
 match plain v with
 |true=>true
 |false=>match gN ops k with
  |true=>true
  |false=>match aT P e.eval o h0 with
   |some u=>veq u v
   |none=>false
def Ce:Option AObj->Option AObj->Bool
 |none,none=>true
 |some (.cells a p),some (.cells b q)=>(p==q)&&rW (GH 12) a b
 |_,_=>false
theorem yK {a b:Option AObj} (h:Ce a b=true):a=b:=by
 unfold Ce at h;split at h
 ·rfl
 ·rename_i x p y q;simp only[Bool.and_eq_true,beq_iff_eq] at h;rw[h.1,pH (xy 12) h.2]
 ·cases h
def A0 (ops:Array Oper) (k:Nat) (e:Env) (h h1:Heap):Bool :=
 sV ops k ((List.range k).filter fun i=>match ops[i]? with
  |some x=>match x.op with
   |.load _ (.tmp a)=>match e.get a with
    |.pointer (some ⟨g,_,none⟩)=>Ce (h1.get g) (h.get g)
    |_=>true
   |_=>false
  |none=>false)
def FZ (o:Oper) (e:Env) (h h1:Heap):Bool :=
 match o.op with
 |.store _ x _=>match e.eval x with
  |.pointer (some ⟨g,_,none⟩)=>Ce (h1.get g) (h.get g)
  |_=>false
 |_=>false
theorem CI {P:Program}{o:Oper}{e:Env}{h h1:Heap}{v:Value} (hv:dp P e.eval o h=some (v,h1)) (q:FZ o e h h1=true):Ext h h1:=by
 unfold FZ at q;split at q
 ·rename_i t x y ho;split at q
  ·rename_i g off hx;unfold dp fO at hv;simp only[ho,hx] at hv;have hq:=yK q;split at hv
   ·rename_i cs hg;split at hv
    ·simp only[Option.some.injEq,Prod.mk.injEq] at hv;obtain⟨_,rfl⟩:=hv;refine⟨by rw[Heap.Cr];exact Nat.le_refl _,fun k hk=>?_⟩;by_cases c:k=g
     ·subst c;exact hq
     ·rw[Heap.bF _ _ _ _ (Heap.ag hg),if_neg c]
    ·cases hv
   ·cases hv
  ·cases q
 ·cases q
theorem rO {ops:Array Oper}{k:Nat}{e:Env}{h h1:Heap} (q:A0 ops k e h h1=true):mW ops k e h h1:=by
 refine⟨_,q,fun i hi x t a hx ho g off hg=>?_⟩;have:=(List.mem_filter.1 hi).2;rw[hx] at this;simp only[ho,hg] at this;exact yK this
def gz (P:Program) (call:rU) (ops:Array Oper) (h0:Heap):List Oper->Nat->Env->Heap->Option (Env×Heap)
 |[],_,e,h=>some (e,h)
 |o::r,k,e,h =>
  match Region.wanted o (ayielded ops e) with
  |false=>gz P call ops h0 r (k+1) (e.put o.dst undef) h
  |true =>
   match cls o.op with
   |.pure=>match aq P e.eval o with
    |some v=>gz P call ops h0 r (k+1) (e.put o.dst v) h
    |none=>none
   |.read=>match aT P e.eval o h with
    |some v =>
     match BF P ops h0 k o e v with
     |true=>gz P call ops h0 r (k+1) (e.put o.dst v) h
     |false=>none
    |none=>none
   |.new=>match anew P e.eval o with
    |some (ob,f)=>gz P call ops h0 r (k+1) (e.put o.dst (f h.size)) (h.push ob)
    |none=>none
   |.eff=>match dp P e.eval o h with
    |some (v,h1)=>match dD ops k||(FZ o e h h1||A0 ops k e h h1) with
     |true=>gz P call ops h0 r (k+1) (e.put o.dst v) h1
     |false=>none
    |none=>none
   |.call=>match js e.eval o.op with
    |some (f,vs)=>match call f vs (h.fG h.size) with
     |some (v,h1)=>match decide (h.size<=h1.low) with
      |true=>gz P call ops h0 r (k+1) (e.put o.dst v) (h1.fG h.low)
      |false=>match dD ops k||A0 ops k e h h1 with
       |true=>gz P call ops h0 r (k+1) (e.put o.dst v) (h1.fG (min h.low h1.low))
       |false=>none
     |none=>none
    |none=>none
def iter:Nat->(Env->Heap->Option (X×Env×Heap))->Env->Heap->Option (X×Env×Heap)
 |0,_,_,_=>none
 |n+1,f,e,h =>
  match f e h with
  |some (.normal,e1,h1)=>iter n f e1 h1
  |r=>r
def bW (P:Program) (call:rU) (n:Nat):Code->Env->Heap->Option (X×Env×Heap)
 |.skip,e,h=>some (.normal,e,h)
 |.label _,e,h=>some (.normal,e,h)
 |.exit id,e,h=>some (.exit id,e,h)
 |.ret,e,h=>some (.ret,e,h)
 |.region _ ops false,e,h=>match kc P call ops ops.toList e h with
  |some (e1,h1)=>some (.normal,e1,h1)
  |none=>none
 |.region _ ops true,e,h=>match gz P call ops h ops.toList 0 e h with
  |some (e1,h1)=>some (.normal,e1,h1)
  |none=>none
 |.seq a b,e,h=>match bW P call n a e h with
  |some (.normal,e1,h1)=>bW P call n b e1 h1
  |r=>r
 |.cond c a b,e,h=>match e.eval c with
  |.bool true=>bW P call n a e h
  |.bool false=>bW P call n b e h
  |_=>none
 |.block id c,e,h=>match bW P call n c e h with
  |some (.exit id',e1,h1)=>if id'=id then some (.normal,e1,h1) else some (.exit id',e1,h1)
  |r=>r
 |.loop c,e,h=>iter n (bW P call n c) e h
 |.scope c,e,h=>bW P call n c e h
 |_,_,_=>none
def je (P:Program) (bad:List FuncId) (orc:FuncId->Array Value->Heap->Option Value):Nat->rU
 |0,_,_,_=>none
 |n+1,f,vs,h =>
  match orc f vs h with
  |some v=>some (v,h)
  |none =>
   match (if bad.contains f then none else P.funcs[f]?) with
   |none=>none
   |some fn =>
    match fn.body with
    |none=>none
    |some c =>
     if vs.size<=fn.ntmps then
      match bW P (je P bad orc n) n c (dN fn.ntmps vs) h with
      |some (.normal,e1,h1)=>match ke P fn e1 h1 with
       |some v=>some (v,h1)
       |none=>none
      |some (.ret,e1,h1)=>match ke P fn e1 h1 with
       |some v=>some (v,h1)
       |none=>none
      |_=>none
     else none
def codeOk (N n:Nat):Code->Bool
 |.region _ ops d=>jN N n ops&&(!d||eE ops)
 |.seq a b=>codeOk N n a&&codeOk N n b
 |.cond c a b=>okOpd N n c&&codeOk N n a&&codeOk N n b
 |.block _ c=>codeOk N n c
 |.loop c=>codeOk N n c
 |.scope c=>codeOk N n c
 |_=>true
def jU (N:Nat) (fn:Func):Bool :=
 match fn.body with
 |some c => codeOk N fn.ntmps c && !(fn.name == "runtime.NumGoroutine")
 |none=>true
section
variable {P:Program} {N:Nat}
def xY (P:Program) (N:Nat) (call:rU):Prop:=∀ f vs h v h',call f vs h=some (v,h')->CallD P N f vs h v h'/\LowOk h h'
theorem OpD.pure {o:Oper}{e:Env}{h:Heap}{v:Value} (hc:cls o.op=.pure) (hv:aq P e.eval o=some v):OpD P N o e h v h:=by
 unfold OpD;rw[hc];exact⟨hv,rfl⟩
theorem OpD.read {o:Oper}{e:Env}{h:Heap}{v:Value} (hc:cls o.op=.read) (hv:aT P e.eval o h=some v):OpD P N o e h v h:=by
 unfold OpD;rw[hc];exact⟨hv,rfl⟩
theorem OpD.new {o:Oper}{e:Env}{h:Heap}{ob:AObj}{f:Nat->Value} (hc:cls o.op=.new) (hv:anew P e.eval o=some (ob,f)):OpD P N o e h (f h.size) (h.push ob):=by
 unfold OpD;rw[hc];exact⟨ob,f,hv,rfl,rfl⟩
theorem OpD.eff {o:Oper}{e:Env}{h h':Heap}{v:Value} (hc:cls o.op=.eff) (hv:dp P e.eval o h=some (v,h')):OpD P N o e h v h':=by
 unfold OpD;rw[hc];exact hv
theorem OpD.call {o:Oper}{e:Env}{h h':Heap}{v:Value}{f:FuncId}{vs:Array Value} (hc:cls o.op=.call) (hv:js e.eval o.op=some (f,vs)) (hd:CallD P N f vs h v h'):OpD P N o e h v h':=by
 unfold OpD;rw[hc];exact⟨f,vs,hv,hd⟩
theorem dh {call:rU} (hc:xY P N call) {ops:Array Oper}:∀ (l:List Oper) (e:Env) (h:Heap) (e1:Env) (h1:Heap),kc P call ops l e h=some (e1,h1)->RegD P N ops l e h e1 h1/\LowOk h h1
 |[],e,h,e1,h1,hr=>by
  simp only[kc,Option.some.injEq,Prod.mk.injEq] at hr;obtain⟨rfl,rfl⟩:=hr;exact⟨⟨rfl,rfl⟩,.refl _⟩
 |o::l,e,h,e1,h1,hr=>by
  unfold kc at hr;unfold RegD
  cases hw:Region.wanted o (ayielded ops e) with
  |false =>
   simp only[hw] at hr;rw[if_neg (by simp)];exact dh hc l _ _ _ _ hr
  |true =>
   simp only[hw] at hr;rw[if_pos rfl]
   cases hcl:cls o.op with
   |pure =>
    simp only[hcl] at hr;split at hr
    ·rename_i v hv;obtain⟨q1,q2⟩:=dh hc l _ _ _ _ hr;exact⟨⟨v,h,.inl (OpD.pure hcl hv),q1⟩,q2⟩
    ·split at hr
     ·rename_i v hv;obtain⟨q1,q2⟩:=dh hc l _ _ _ _ hr;exact⟨⟨v,h,.inr (.inl ⟨hv,rfl⟩),q1⟩,q2⟩
     ·cases hr
   |read =>
    simp only[hcl] at hr;split at hr
    ·rename_i v hv;obtain⟨q1,q2⟩:=dh hc l _ _ _ _ hr;exact⟨⟨v,h,.inl (OpD.read hcl hv),q1⟩,q2⟩
    ·cases hr
   |new =>
    simp only[hcl] at hr;split at hr
    ·rename_i ob f hv;obtain⟨q1,q2⟩:=dh hc l _ _ _ _ hr;exact⟨⟨_,_,.inl (OpD.new hcl hv),q1⟩,(LowOk.push _ _).trans q2⟩
    ·cases hr
   |eff =>
    simp only[hcl] at hr;split at hr
    ·rename_i v h2 hv;obtain⟨q1,q2⟩:=dh hc l _ _ _ _ hr;exact⟨⟨v,h2,.inl (OpD.eff hcl hv),q1⟩,(Ar hv).trans q2⟩
    ·cases hr
   |call =>
    simp only[hcl] at hr;split at hr
    ·rename_i f vs hv;split at hr
     ·rename_i v h2 hcall;obtain⟨q1,q2⟩:=dh hc l _ _ _ _ hr;obtain⟨c1,c2⟩:=hc _ _ _ _ _ hcall;exact⟨⟨v,h2,.inl (OpD.call hcl hv c1),q1⟩,c2.trans q2⟩
     ·cases hr
    ·cases hr
theorem tU {h h1:Heap} (q:LowOk (h.fG h.size) h1) (hl:h.size<=h1.low) (x:Nat):Ext h (h1.fG x) :=
 ⟨q.size,fun g hg=>q.get g (Nat.lt_of_lt_of_le hg hl) hg⟩
theorem Gl {h h1:Heap} (q:LowOk (h.fG h.size) h1):LowOk h (h1.fG (min h.low h1.low)) :=
 ⟨Nat.min_le_left _ _,q.size,fun g h1' h2=>q.get g (Nat.lt_of_lt_of_le h1' (Nat.min_le_right _ _)) h2⟩
theorem DG {h h1:Heap} (q:LowOk (h.fG h.size) h1) (hl:h.size<=h1.low):LowOk h (h1.fG h.low) :=
 ⟨Nat.le_refl _,q.size,fun g _ h2=>q.get g (Nat.lt_of_lt_of_le h2 hl) h2⟩
theorem zR {ops:Array Oper}{h0:Heap}{k:Nat}{o:Oper}{e:Env}{v:Value} (h:BF P ops h0 k o e v=true):gN ops k=true\/plain v=true\/aT P e.eval o h0=some v:=by
 unfold BF at h;split at h
 ·rename_i h1;exact .inr (.inl h1)
 ·split at h
  ·rename_i h1;exact .inl h1
  ·split at h
   ·rename_i u hu;rw[hu,AR h];exact .inr (.inr rfl)
   ·cases h
theorem cI {call:rU} (hc:xY P N call) {ops:Array Oper}{h0:Heap}:∀ (l:List Oper) (k:Nat) (e:Env) (h:Heap) (e1:Env) (h1:Heap),gz P call ops h0 l k e h=some (e1,h1)->RegF P N ops h0 false l k e h e1 h1/\LowOk h h1
 |[],k,e,h,e1,h1,hr=>by
  simp only[gz,Option.some.injEq,Prod.mk.injEq] at hr;obtain⟨rfl,rfl⟩:=hr;exact⟨⟨rfl,rfl⟩,.refl _⟩
 |o::l,k,e,h,e1,h1,hr=>by
  unfold gz at hr;unfold RegF
  cases hw:Region.wanted o (ayielded ops e) with
  |false =>
   simp only[hw] at hr;rw[if_neg (by simp)];exact cI hc l _ _ _ _ _ hr
  |true =>
   simp only[hw] at hr;rw[if_pos rfl]
   cases hcl:cls o.op with
   |pure =>
    simp only[hcl] at hr;split at hr
    ·rename_i v hv;obtain⟨q1,q2⟩:=cI hc l _ _ _ _ _ hr;exact⟨⟨v,h,⟨OpD.pure hcl hv,by simp[isChain,hcl],by simp[cG,hcl]⟩,q1⟩,q2⟩
    ·cases hr
   |read =>
    simp only[hcl] at hr;split at hr
    ·rename_i v hv;split at hr
     ·rename_i hcond;obtain⟨q1,q2⟩:=cI hc l _ _ _ _ _ hr;exact⟨⟨v,h,⟨OpD.read hcl hv,by simp[isChain,hcl],fun _=>⟨(fun e=>nomatch e),.inr (zR hcond)⟩⟩,q1⟩,q2⟩
     ·cases hr
    ·cases hr
   |new =>
    simp only[hcl] at hr;split at hr
    ·rename_i ob f hv;obtain⟨q1,q2⟩:=cI hc l _ _ _ _ _ hr;exact⟨⟨_,_,⟨OpD.new hcl hv,by simp[isChain,hcl],by simp[cG,hcl]⟩,q1⟩,(LowOk.push _ _).trans q2⟩
    ·cases hr
   |eff =>
    simp only[hcl] at hr;split at hr
    ·rename_i v h2 hv;split at hr
     ·rename_i hcond
      have hcond':false=true\/dD ops k=true\/Ext h h2\/mW ops k e h h2:=by
       rcases Bool.or_eq_true_iff.1 hcond with q|q
       ·exact .inr (.inl q)
       ·rcases Bool.or_eq_true_iff.1 q with q|q
        ·exact .inr (.inr (.inl (CI hv q)))
        ·exact .inr (.inr (.inr (rO q)))
      obtain⟨q1,q2⟩:=cI hc l _ _ _ _ _ hr;exact⟨⟨v,_,⟨OpD.eff hcl hv,fun _=>hcond',by simp[cG,hcl]⟩,q1⟩,(Ar hv).trans q2⟩
     ·cases hr
    ·cases hr
   |call =>
    simp only[hcl] at hr;split at hr
    ·rename_i f vs hv;split at hr
     ·rename_i v h2 hcall;obtain⟨c1,hlow⟩:=hc _ _ _ _ _ hcall;split at hr
      ·rename_i hcond;have hcond:=of_decide_eq_true hcond;obtain⟨q1,q2⟩:=cI hc l _ _ _ _ _ hr;have c2:CallD P N f vs h v (h2.fG h.low):=c1.congr rfl (fun _=>rfl) rfl (fun _=>rfl) (fun he=>by rw[he];rfl);exact⟨⟨v,_,⟨OpD.call hcl hv c2,fun _=>.inr (.inr (.inl (tU hlow hcond _))),by simp[cG,hcl]⟩,q1⟩,(DG hlow hcond).trans q2⟩
      ·split at hr
       ·rename_i hcond
        have hcond':false=true\/dD ops k=true\/Ext h (h2.fG (min h.low h2.low))\/mW ops k e h (h2.fG (min h.low h2.low)):=by
         rcases Bool.or_eq_true_iff.1 hcond with q|q
         ·exact .inr (.inl q)
         ·exact .inr (.inr (.inr (rO (h1:=h2.fG (min h.low h2.low)) q)))
        obtain⟨q1,q2⟩:=cI hc l _ _ _ _ _ hr
        have c2:CallD P N f vs h v (h2.fG (min h.low h2.low)):=c1.congr rfl (fun _=>rfl) rfl (fun _=>rfl) (fun he=>by
         exfalso;rename_i hlt _;have:=of_decide_eq_false hlt;rw[he] at this
         exact this (Nat.le_refl _))
        exact⟨⟨v,_,⟨OpD.call hcl hv c2,fun _=>hcond',by simp[cG,hcl]⟩,q1⟩,(Gl hlow).trans q2⟩
       ·cases hr
     ·cases hr
    ·cases hr
theorem vc {f:Env->Heap->Option (X×Env×Heap)}{c:Code}{nn:Nat} (hf:∀ e h x e1 h1,e.n=nn->f e h=some (x,e1,h1)->CodeD P N c e h x.toExit e1 h1/\LowOk h h1):∀ (n:Nat) (e:Env) (h:Heap) (x:X) (e1:Env) (h1:Heap),e.n=nn ->
  iter n f e h=some (x,e1,h1)->(∃ k,ic P N c k e h x.toExit e1 h1)/\LowOk h h1
 |0,_,_,_,_,_,_,hr=>by simp[iter] at hr
 |n+1,e,h,x,e1,h1,hn,hr=>by
  unfold iter at hr;split at hr
  ·rename_i e2 h2 hq;obtain⟨c1,l1⟩:=hf _ _ _ _ _ hn hq;obtain⟨⟨k,c2⟩,l2⟩:=vc hf n e2 h2 x e1 h1 (c1.1.2.trans hn) hr;exact⟨⟨k+1,ic.more c1 c2⟩,l1.trans l2⟩
  ·rename_i hne;obtain⟨c1,l1⟩:=hf _ _ _ _ _ hn hr;refine⟨⟨1,ic.last c1 ?_⟩,l1⟩
   cases x with
   |normal=>exact absurd hr (hne e1 h1)
   |exit id=>simp[X.toExit]
   |ret=>simp[X.toExit]
theorem ou {call:rU} (hc:xY P N call) (hM:P.follows .mixedOrders=true) (n:Nat) {nn:Nat}:∀ (c:Code),codeOk N nn c=true->∀ (e:Env) (h:Heap) (x:X) (e1:Env) (h1:Heap),e.n=nn ->
  bW P call n c e h=some (x,e1,h1)->CodeD P N c e h x.toExit e1 h1/\LowOk h h1:=by
 intro c
 induction c with
 |skip =>
  intro _ e h x e1 h1 _ hr;simp only[bW,Option.some.injEq,Prod.mk.injEq] at hr;obtain⟨rfl,rfl,rfl⟩:=hr;exact⟨CodeD.skip,.refl _⟩
 |label l =>
  intro _ e h x e1 h1 _ hr;simp only[bW,Option.some.injEq,Prod.mk.injEq] at hr;obtain⟨rfl,rfl,rfl⟩:=hr;exact⟨CodeD.label,.refl _⟩
 |exit id =>
  intro _ e h x e1 h1 _ hr;simp only[bW,Option.some.injEq,Prod.mk.injEq] at hr;obtain⟨rfl,rfl,rfl⟩:=hr;exact⟨CodeD.exit,.refl _⟩
 |ret =>
  intro _ e h x e1 h1 _ hr;simp only[bW,Option.some.injEq,Prod.mk.injEq] at hr;obtain⟨rfl,rfl,rfl⟩:=hr;exact⟨CodeD.ret,.refl _⟩
 |region id ops d =>
  intro hok e h x e1 h1 hn hr;simp only[codeOk,Bool.and_eq_true] at hok;subst hn
  cases d with
  |false =>
   simp only[bW] at hr;split at hr
   ·rename_i e2 h2 hq;simp only[Option.some.injEq,Prod.mk.injEq] at hr;obtain⟨rfl,rfl,rfl⟩:=hr;obtain⟨q1,q2⟩:=dh hc _ _ _ _ _ hq;exact⟨CodeD.region hok.1 q1,q2⟩
   ·cases hr
  |true =>
   simp only[bW] at hr;split at hr
   ·rename_i e2 h2 hq;simp only[Option.some.injEq,Prod.mk.injEq] at hr;obtain⟨rfl,rfl,rfl⟩:=hr;obtain⟨q1,q2⟩:=cI hc _ _ _ _ _ _ hq;exact⟨CodeD.rH hM (by simpa using hok.2) hok.1 q1,q2⟩
   ·cases hr
 |seq a b iha ihb =>
  intro hok e h x e1 h1 hn hr;simp only[codeOk,Bool.and_eq_true] at hok;simp only[bW] at hr;split at hr
  ·rename_i e2 h2 hq;obtain⟨c1,l1⟩:=iha hok.1 _ _ _ _ _ hn hq;obtain⟨c2,l2⟩:=ihb hok.2 _ _ _ _ _ (c1.1.2.trans hn) hr;exact⟨CodeD.seq c1 c2,l1.trans l2⟩
  ·rename_i hne;obtain⟨c1,l1⟩:=iha hok.1 _ _ _ _ _ hn hr;refine⟨CodeD.mO c1 ?_,l1⟩
   cases x with
   |normal=>exact absurd hr (hne e1 h1)
   |exit id=>simp[X.toExit]
   |ret=>simp[X.toExit]
 |cond c a b iha ihb =>
  intro hok e h x e1 h1 hn hr;simp only[codeOk,Bool.and_eq_true] at hok;simp only[bW] at hr;split at hr
  ·rename_i hq;obtain⟨c1,l1⟩:=iha hok.1.2 _ _ _ _ _ hn hr;exact⟨CodeD.cond (by rw[hn];exact hok.1.1) hq c1,l1⟩
  ·rename_i hq;obtain⟨c1,l1⟩:=ihb hok.2 _ _ _ _ _ hn hr;exact⟨CodeD.cond (by rw[hn];exact hok.1.1) hq c1,l1⟩
  ·cases hr
 |block id c ih =>
  intro hok e h x e1 h1 hn hr;simp only[codeOk] at hok;simp only[bW] at hr;split at hr
  ·rename_i id' e2 h2 hq;obtain⟨c1,l1⟩:=ih hok _ _ _ _ _ hn hq;split at hr
   ·rename_i he;subst he;simp only[Option.some.injEq,Prod.mk.injEq] at hr;obtain⟨rfl,rfl,rfl⟩:=hr;exact⟨CodeD.tB c1,l1⟩
   ·rename_i he;simp only[Option.some.injEq,Prod.mk.injEq] at hr;obtain⟨rfl,rfl,rfl⟩:=hr;exact⟨CodeD.block c1 (by simp only[X.toExit];intro q;cases q;exact he rfl),l1⟩
  ·rename_i hne;obtain⟨c1,l1⟩:=ih hok _ _ _ _ _ hn hr;refine⟨CodeD.block c1 ?_,l1⟩
   cases x with
   |normal=>simp[X.toExit]
   |exit id'=>exact absurd hr (hne id' e1 h1)
   |ret=>simp[X.toExit]
 |loop c ih =>
  intro hok e h x e1 h1 hn hr;simp only[codeOk] at hok;simp only[bW] at hr;obtain⟨⟨k,q1⟩,q2⟩:=vc (fun e h x e1 h1 hn hq=>ih hok e h x e1 h1 hn hq) n e h x e1 h1 hn hr;exact⟨CodeD.loop q1,q2⟩
 |scope c ih =>
  intro hok e h x e1 h1 hn hr;simp only[codeOk] at hok;simp only[bW] at hr;obtain⟨c1,l1⟩:=ih hok _ _ _ _ _ hn hr;exact⟨CodeD.scope c1 (by intro l;cases x <;> simp[X.toExit]),l1⟩
 |goto l=>intro _ e h x e1 h1 _ hr;simp[bW] at hr
 |rangeFunc f ps a b _ _=>intro _ e h x e1 h1 _ hr;simp[bW] at hr
 |refuse w=>intro _ e h x e1 h1 _ hr;simp[bW] at hr
theorem pR {f:FuncId}{fn:Func}{c:Code} (hf:P.funcs[f]?=some fn) (hb:fn.body=some c) (ho:jU N fn=true):fnOk P f=true/\codeOk N fn.ntmps c=true:=by
 unfold jU at ho;simp only[hb,Bool.and_eq_true] at ho;refine⟨?_,ho.1⟩;unfold fnOk;simp only[hf,hb,Option.isSome_some,Bool.true_and];exact ho.2
theorem iN (hM:P.follows .mixedOrders=true) {bad:List FuncId} (hP:∀ (f:FuncId) (fn:Func),bad.contains f=false->P.funcs[f]?=some fn->jU N fn=true)
  {orc:FuncId->Array Value->Heap->Option Value} (ho:∀ f vs h v,orc f vs h=some v->CallD P N f vs h v h) :
  ∀ n,xY P N (je P bad orc n)
 |0=>by intro f vs h v h' hr;simp[je] at hr
 |n+1=>by
  intro f vs h v h' hr;have ih:=iN hM hP ho n;unfold je at hr;split at hr
  ·rename_i v0 hv;simp only[Option.some.injEq,Prod.mk.injEq] at hr;obtain⟨rfl,rfl⟩:=hr;exact⟨ho _ _ _ _ hv,.refl _⟩
  ·split at hr
   ·cases hr
   ·rename_i fn hf0;split at hf0
    ·cases hf0
    rename_i hbad;have hf:=hf0;split at hr
    ·cases hr
    ·rename_i c hb;obtain⟨ok1,ok2⟩:=pR hf hb (hP f fn (by simpa using hbad) hf);split at hr
     ·rename_i hs;split at hr
      ·rename_i e1 h1 hq;obtain⟨c1,l1⟩:=ou ih hM n c ok2 _ _ _ _ _ (kR _ _) hq;split at hr
       ·rename_i v0 hv;simp only[Option.some.injEq,Prod.mk.injEq] at hr;obtain⟨rfl,rfl⟩:=hr;exact⟨CallD.body hf hb ok1 hs (.inl rfl) c1 hv,l1⟩
       ·cases hr
      ·rename_i e1 h1 hq;obtain⟨c1,l1⟩:=ou ih hM n c ok2 _ _ _ _ _ (kR _ _) hq;split at hr
       ·rename_i v0 hv;simp only[Option.some.injEq,Prod.mk.injEq] at hr;obtain⟨rfl,rfl⟩:=hr;exact⟨CallD.body hf hb ok1 hs (.inr rfl) c1 hv,l1⟩
       ·cases hr
      ·cases hr
     ·cases hr
end
end Go.Abs
