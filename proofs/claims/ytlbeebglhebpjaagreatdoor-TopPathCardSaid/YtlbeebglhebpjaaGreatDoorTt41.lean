/-
  AbsXg, AbsRh: parts of the proof.
-/
import Derived.Test.YtlbeebglhebpjaaGreatDoorTt40
import Derived.OrdersIn
namespace Go.Abs
structure BearsR (N:Nat) (h0 h:Heap):Prop where
 size:h0.size=N
 le:N<=h.size
 get:∀ g o,h0.get g=some o->∃ cs,o=.cells cs true/\h.get g=some o/\cs.all plain=true
section
variable {P:Program} {N:Nat}
theorem CallD.Ex {f:FuncId}{vs:Array Value}{r:Value}{h0 h:Heap} (c:CallD P N f vs h0 r h0) (hvs:∀ i:Nat,PureV (vs.getD i undef)) (hr:PureV r) (b:BearsR N h0 h) (all:∀ g,g<N->∃ o,h0.get g=some o):CallD P N f vs h r h:=by
 obtain⟨hN,hle,hb⟩:=b
 refine⟨Nat.le_refl _,fun ι w vs' H ra=>?_⟩
 have nomut:∀ g,¬ h0.mut g:=by
  rintro g ⟨o,e,m⟩
  obtain⟨cs,rfl,_⟩:=hb g o e
  cases m
 have hι:∀ g l,(cut ι N) g=some l->g<N/\ι g=some l:=fun g l e=>az.1 e
 have H0:HRel N (cut ι N) h0 w:=by
  refine⟨fun g l e=>hN ▸ (hι g l e).1,fun g l e=>H.blk g l (hι g l e).2,?_,?_,fun g g' l l' _ _ _ m _=>absurd m (nomut g),H.frz,fun b C g l _ _ m=>absurd m (nomut g),fun g l cs e1 e2=>?_⟩
  rotate_left 2
  ·obtain⟨cs',q,e3,_⟩:=hb g _ e2
   exact H.rofz g l cs (hι g l e1).2 e3
  ·intro g hg
   obtain⟨l,e1,e2⟩:=H.glob g hg
   exact⟨l,az.2 ⟨hg,e1⟩,e2⟩
  ·intro g l o e1 e2
   obtain⟨cs,rfl,e3,hp⟩:=hb g o e2
   obtain⟨C,ty,fr,k1,k2,k3,k4,k5⟩:=H.obj g l _ (hι g l e1).2 e3
   refine⟨C,ty,fr,k1,k2,k3,k4,fun i x hx=>?_⟩
   obtain⟨x',q1,q2⟩:=k5 i x hx
   have px:plain x=true:=List.all_eq_true.1 hp x (List.mem_of_getElem? hx)
   rw[q2.bo px] at q1
   exact⟨x,q1,VRel.aG px⟩
 have ra0:ARel (cut ι N) vs vs':=⟨ra.1,fun i=>hvs i ι (cut ι N) _ (fun _ _ e=>e) (ra.2 i)⟩
 rcases c.2 _ w vs' H0 ra0 with⟨ok,hc⟩|⟨v',e1,e2,_⟩
 ·refine .inl ⟨ok,hc.mono fun e w' q=>?_⟩
  obtain⟨ι',v',rfl,r',H',S⟩:=q
  have hf:∀ b,b<w.heap.size->w'.heap[b]?=w.heap[b]?:=fun b hb=>S.frame b hb fun g l _ m=>absurd m (nomut g)
  have fz:∀ b C,ι.fz b=some C->ι'.fz b=some C:=S.ext.fz
  refine⟨ι.with ι',v',rfl,hr ι' _ v' (fun _ _ e=>e) r',⟨H.dom,fun g l e=>Nat.lt_of_lt_of_le (H.blk g l e) S.wsize,H.glob,fun g l o q1 q2=>?_,H.apart,H'.frz,fun b C g l q0 q1 m=>?_,fun g l cs q1 q2=>?_⟩,?_⟩
  ·rw[hf _ (H.blk g l q1)]
   have le:Inj.Le ι (ι.with ι'):=⟨fun _ _ e=>e,fz⟩
   exact (H.obj g l o q1 q2).mono le
  ·cases q:ι.fz b with
   |some C'=>exact H.fzap b C' g l q q1 m
   |none =>
    rcases S.fzown b C q0 q with k|⟨g0,l0,k1,k2⟩
    ·have:=H.blk g l q1;omega
    ·obtain⟨k3,k4⟩:=hι g0 l0 k1
     obtain⟨o,k5⟩:=all g0 k3
     obtain⟨cs,rfl,k6,_⟩:=hb g0 o k5
     obtain⟨C',k7⟩:=H.rofz g0 l0 cs k4 k6
     rw[k2,q] at k7
     cases k7
  ·obtain⟨C,e⟩:=H.rofz g l cs q1 q2
   exact⟨C,fz _ _ e⟩
  ·exact⟨H.dom,Nat.le_refl _,⟨fun _ _ q=>q,fz⟩,fun g l q1 q2=>(by have q3:ι g=some l:=q1;rw[q2] at q3;cases q3),fun g l q1 q2=>(by have q3:ι g=some l:=q1;rw[q2] at q3;cases q3),fun _ _ m=>m,fun _ _ m=>m,S.wsize,fun b hb _=>hf b hb,fun _ _ _=>rfl,S.out,fun b C q1 q2=>by
    rcases S.fzown b C q1 q2 with k|⟨g0,l0,k1,k2⟩
    ·exact .inl k
    ·exact .inr ⟨g0,l0,(hι g0 l0 k1).2,k2⟩⟩
 ·exact .inr ⟨v',e1,hr (cut ι N) ι _ (fun _ _ e=>e) e2,rfl⟩
end
def yL (f:Value->Value->Bool):List Value->List Value->Bool
 |[],[]=>true
 |a::l,b::r=>f a b&&yL f l r
 |_,_=>false
def DX (b0:Nat) (h:Heap) (f:Value->Value->Bool) (a b:Value):Bool :=
 match a,b with
 |.tuple ⟨x⟩,.tuple ⟨y⟩=>yL f x y
 |.agg ⟨x⟩,.agg ⟨y⟩=>yL f x y
 |.slice none 0 0,.iface _ (.tuple ⟨[]⟩)=>true
 |.slice (some ⟨g,off,_⟩) n _,.iface s (.tuple ⟨es⟩)=>Nat.ble b0 g&&match h.get g with
  |some (.cells cs _)=>Nat.beq n es.length&&(es.all fun e=>Nat.beq (cl e).length s)&&Nat.ble (off+n*s) cs.length&&yL f ((cs.drop off).take (n*s)) (flatC es)
  |_=>false
 |x,y=>veq x y
def clo (b0:Nat) (h:Heap):Nat->Value->Value->Bool
 |0=>veq
 |n+1=>DX b0 h (clo b0 h n)
theorem pN {h2:Heap}{f:Value->Value->Bool} (hf:∀ a b,f a b=true->VLe h2 a b):∀ {xs ys:List Value},yL f xs ys=true->LLe h2 xs ys
 |[],[],_=>LLe.nil _
 |[],_::_,e=>by cases e
 |_::_,[],e=>by cases e
 |a::l,b::r,e=>by
  simp only[yL,Bool.and_eq_true] at e
  exact LLe.cons (hf _ _ e.1) (pN hf e.2)
theorem CU {b0:Nat}{h h2:Heap} (F:Frozen b0 h h2) {f:Value->Value->Bool} (hf:∀ a b,f a b=true->VLe h2 a b) {a b:Value} (e:DX b0 h f a b=true):VLe h2 a b:=by
 unfold DX at e
 split at e
 ·exact VLe.tup (pN hf e)
 ·exact VLe.agg (pN hf e)
 ·exact VLe.nil _ _
 ·rename_i g off sp n cap s es
  simp only[Bool.and_eq_true] at e
  obtain⟨e1,e2⟩:=e
  have hb:=Nat.le_of_ble_eq_true e1
  split at e2
  ·rename_i cs ro hg
   simp only[Bool.and_eq_true] at e2
   obtain⟨⟨⟨e3,e4⟩,e5⟩,e6⟩:=e2
   exact VLe.fl (F.at hb hg) (Nat.eq_of_beq_eq_true e3) (fun x m=>Nat.eq_of_beq_eq_true (List.all_eq_true.1 e4 x m)) (Nat.le_of_ble_eq_true e5) (pN hf e6)
  ·cases e2
 ·rw[wO e];exact VLe.refl _ _
theorem A6 {b0:Nat}{h h2:Heap} (F:Frozen b0 h h2):∀ (n:Nat) (a b:Value),clo b0 h n a b=true->VLe h2 a b
 |0,a,b,e=>by
  have:a=b:=wO e
  rw[this];exact VLe.refl _ _
 |n+1,a,b,e=>CU F (A6 F n) e
def tr (b0:Nat) (r:Value):Option (Value×Heap)->Bool
 |some (v,h)=>Nat.ble b0 h.low&&clo b0 h 12 v r
 |none=>false
theorem yC {b0:Nat}{r:Value}{x:Option (Value×Heap)} (e:tr b0 r x=true):∃ v h,x=some (v,h)/\b0<=h.low/\clo b0 h 12 v r=true:=by
 unfold tr at e
 split at e
 ·rename_i v h
  simp only[Bool.and_eq_true] at e
  exact⟨v,h,rfl,Nat.le_of_ble_eq_true e.1,e.2⟩
 ·cases e
theorem CallD.closed {P:Program}{N:Nat} (hM:P.follows .mixedOrders=true) {l:List AObj} (hN:l.length=N) (hP:∀ (f:FuncId) (fn:Func),([]:List FuncId).contains f=false->P.funcs[f]?=some fn->fY N fn=true) {orc:FuncId->Array Value->Heap->Option Value}
  (ho:∀ f vs h v,orc f vs h=some v->CallD P N f vs h v h) {n:Nat} {f:FuncId} {vs:Array Value} {r:Value} (e:tr N r (jY P [] orc n f vs (bQ l))=true) (hr:PureV r) (fok:fnOk P f=true):CallD P N f vs (bQ l) r (bQ l):=by
 subst hN
 obtain⟨v,h1,e1,e2,e3⟩:=yC e
 obtain⟨c,q⟩:=gM hM hP ho n _ _ _ _ _ e1
 have hs:((bQ l).eJ (bQ l).size)=bQ l:=rfl
 have hx:=qq (h:=bQ l) (h1:=h1) (by rw[hs];exact q) e2 h1.low
 have hx':Ext (bQ l) h1:=hx
 exact c.values hx' hr (fun h2 F=>A6 F 12 v r e3) fok
theorem ag.arr {l:List Value} (h:ag l) (i:Nat):PureV ((⟨l⟩:Array Value).getD i undef):=by
 rw[Array.getD_eq_getD_getElem?,List.getElem?_toArray]
 cases e:l[i]? with
 |none=>exact PureV.flat (v:=Go.undef) (by simp[Go.undef,jT])
 |some v=>exact h v (List.mem_of_getElem? e)
theorem FnV.closed {P:Program}{N:Nat} (hM:P.follows .mixedOrders=true) {l:List AObj} (hN:l.length=N) (hl:∀ o∈l,∃ cs,o=.cells cs true/\cs.all plain=true) (hP:∀ (f:FuncId) (fn:Func),([]:List FuncId).contains f=false->P.funcs[f]?=some fn->fY N fn=true) {orc:FuncId->Array Value->Heap->Option Value}
  (ho:∀ f vs h v,orc f vs h=some v->CallD P N f vs h v h) {n:Nat} {f:FuncId} {vs:List Value} {r:Value} (e:tr N r (jY P [] orc n f ⟨vs⟩ (bQ l))=true) (hvs:ag vs) (hr:PureV r) (fok:fnOk P f=true) (h0:0<N):FnV P N l f ⟨vs⟩ r:=by
 refine⟨hr,fun h hB=>(CallD.closed hM hN hP ho e hr fok).Ex hvs.arr hr ⟨hN,?_,fun g o q=>?_⟩ fun g hg=>?_⟩
 ·obtain⟨o,ho⟩:∃ o,l[N-1]?=some o:=⟨_,List.getElem?_eq_getElem (by omega)⟩
  have:=Heap.ak (hB _ _ ho)
  omega
 ·rw[cL] at q
  obtain⟨cs,rfl,hp⟩:=hl o (List.mem_of_getElem? q)
  exact⟨cs,rfl,hB _ _ q,hp⟩
 ·rw[<- hN] at hg
  exact⟨_,by rw[cL];exact List.getElem?_eq_getElem hg⟩
end Go.Abs

namespace Go.Abs
section
variable {P:Program} {N:Nat}
theorem zx {ops:Array Oper} (hnd:jB ops.toList=true) {r:Option Nat}{n:Nat}{Q:Exit->Act->World->Prop}{i:Nat}{K K':Act->World->Prop} (hK:∀ a w,K a w->K' a w) {a:Act}{w:World} (h:fb P ops Q i K a w):wpOpIn (rF r) n P ops Q i K' a w:=by
 refine wpOpIn_mono hK ?_
 unfold fb at h
 unfold wpOpIn
 cases e:ops[i]? with
 |none=>rw[e] at h;exact h
 |some o =>
  rw[e] at h
  simp only at h ⊢
  split
  ·rename_i hw
   rw[if_pos hw] at h
   refine⟨fun _ _=>trivial,?_⟩
   rw[Oper.semAt_eq _ _ _ (rI hnd (Array.mem_toList_iff.2 (Array.mem_of_getElem? e)))]
   exact yh h
  ·rename_i hw
   rw[if_neg hw] at h
   exact⟨fun _ _=>trivial,h⟩
theorem ym {ops:Array Oper} (hnd:jB ops.toList=true) {r:Option Nat}{n:Nat}{Q:Exit->Act->World->Prop}:∀ {fuel:Nat}{L:Array Bool}{a:Act}{w:World},wV P ops Q fuel L a w->wpAnyIn (rF r) n P .any ops Q fuel L a w
 |0,_,_,_,h=>h
 |_+1,_,_,_,h=>⟨h.1,fun i hi=>zx hnd (fun _ _=>ym hnd) (h.2 i hi)⟩
variable {r:Option Nat} {I:Inj->World->Prop}
theorem CodeY.draw (hM:P.follows .mixedOrders=true) {id:Nat}{l:List Oper}{e:Env}{h:Heap}{K:X->Env->Heap->Prop} (hok:gC N e.n ⟨l⟩=true) (hd:cV ⟨l⟩=true) (hnd:jB l=true) (hk:RegKS P N ⟨l⟩ h l 0 e h (K .normal)):CodeY P N r I [] (.region id ⟨l⟩ true) e h K:=by
 obtain⟨e1,h1,hr,hk⟩:=hk.spec
 refine⟨.normal,e1,h1,⟨hr.n,fun n ι w a _ H0 rr=>?_⟩,hk⟩
 obtain⟨E,H,V,T,rfl,rfl,rfl,rfl⟩:=hr.txt
 have H0':HRel N ι (H 0) { w with drawn:=w.drawn+1 }:=H0.same rfl
 have S0:Step ι (H 0) w ι (H 0) { w with drawn:=w.drawn+1 }:=Step.same H0 rfl ⟨rfl,rfl,rfl,Nat.le_succ _⟩
 refine wpIn_region_any hM (ym hnd (oJ T hd hok H0' (fun a' w' ι' q1 q2 q3=>⟨rfl,ι',ERelD.plain q1,q2,S0.trans q3⟩) l.length _ a _ ι 0 ?_ (nM H0' rr.toE)))
 unfold kE
 refine Nat.le_trans List.countP_le_length ?_
 simp
theorem lL {d:List Deferred}{ι:Inj}{e:Env}{a:Act} (q:ERelD d ι e a) {t:Nat} (ht:t<e.n) {g o n c:Nat}{sp:Option Nat} (hv:e.get t=.slice (some ⟨g,o,sp⟩) n c):∃ l,ι g=some l:=dZ q.rel ht hv
variable {B:List AObj} {h0 h:Heap} {L:List Slot} {d:List Deferred}
theorem CodeY.ghost (hI:Kept N I) {c:Code}{e:Env}{K:X->Env->Heap->Prop} (O:Own B h0 L h) {g gl:Nat}{cs cs2 cs2':List Value}{ro ro2:Bool}{f1 f2:Slot->List Slot} (A1:At (some g,.cells cs ro) L f1) (A2:At (some gl,.cells cs2 ro2) (f1 (some g,.cells cs true)) f2)
  {t1 t2 o1 n1 c1 o2 n2 c2:Nat} {sp1 sp2:Option Nat} (ht1:Nat.blt t1 e.n=true) (hv1:e.get t1=.slice (some ⟨g,o1,sp1⟩) n1 c1) (ht2:Nat.blt t2 e.n=true) (hv2:e.get t2=.slice (some ⟨gl,o2,sp2⟩) n2 c2)
  (le:∀ h2,h2.get g=some (.cells cs true)->LLe h2 cs2 cs2') (k:∀ h,Own B h0 (f2 (some gl,.cells cs2' ro2)) h->CodeY P N r I d c e h K):CodeY P N r I d c e h K:=by
 have hg:=O.at A1.mem
 have u1:=Upd.upd (.cells cs true) (Heap.ak hg)
 have O1:=O.upd A1 u1
 have hg2:=O1.at A2.mem
 have u2:=Upd.upd (.cells cs2' ro2) (Heap.ak hg2)
 have O2:=O1.upd A2 u2
 obtain⟨x,e1,h1,hc,hk⟩:=(k _ O2).spec
 refine⟨x,e1,h1,⟨⟨by have:=hc.1.1;rw[u2.size,u1.size] at this;exact this,hc.1.2⟩,fun n ι w a hi H q=>?_⟩,hk⟩
 obtain⟨l1,e1'⟩:=lL q (Nat.le_of_ble_eq_true ht1) hv1
 obtain⟨l2,e2'⟩:=lL q (Nat.le_of_ble_eq_true ht2) hv2
 obtain⟨ι2,H2,S2⟩:=fX H e1' hg
 have e2'':=S2.ext.at_ _ _ e2'
 have H3:=H2.fi hg2 (le _ u1.get)
 have S3:=Step.fi H2 e2'' hg2 (cs':=cs2')
 have hi3:=hI _ _ _ _ _ _ S3 (hI _ _ _ _ _ _ S2 hi)
 refine wpIn_mono (hc.2 n ι2 w a hi3 H3 (q.mono S2.ext)) ?_
 rintro x' a' w' ⟨rfl,ι',r',H',S⟩
 exact⟨rfl,ι',r',H',(S2.trans S3).trans S⟩
end
end Go.Abs
