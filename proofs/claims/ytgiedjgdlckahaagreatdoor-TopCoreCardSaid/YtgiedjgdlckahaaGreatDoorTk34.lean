/-
  AbsXw: parts of the proof.
-/
import Derived.Test.YtgiedjgdlckahaaGreatDoorTk33
namespace Go.Abs
theorem dF {A B C R:Prop} (r:R) (h:A\/B\/C:=by first|exact .inr (.inr rfl) | exact .inr (.inl (by kernel_rfl))):(A\/B\/C)/\R:=⟨h,r⟩
abbrev sC (g:Nat) (l:List Value):Slot:=(some g,.cells l false)
abbrev sR (g:Nat) (l:List Value):Slot:=(some g,.cells l true)
abbrev nS:Value:=.slice none 0 0
abbrev pG (g:Nat):Value:=.pointer (some ⟨g,0,none⟩)
def JF {α:Type} (s:Nat) (enc:α->Value) (l:List α):Value:=FN s (l.map enc)
section
variable {α:Type} {s:Nat} {enc:α->Value} {l:List α}
theorem VLe.toN {h:Heap}{v:Value} (hl:l≠[]) (a:VLe h v (ah s enc l)):VLe h v (JF s enc l):=fun N ι w v' H r=>by
 have q:=a N ι w v' H r
 obtain⟨x,xs,rfl⟩:∃ x xs,l=x::xs:=by
  cases l with
  |nil=>exact absurd rfl hl
  |cons x xs=>exact⟨x,xs,rfl⟩
 unfold ah FL at q
 cases q with
 |fl _ _ b o cap C h0 h1 h2 h3 h4 h5=>exact .fn s _ b o cap (by simp) (.fl s _ b o cap C h0 h1 h2 h3 h4 h5)
end
section
variable {P:Program} {N:Nat} {ρ:Operand->Value} {d:Option Tmp} {ty:TypeId} {pos:String} {af:Array Edge} {gd:Option (Nat×Bool)} {h:Heap}
theorem rd {o:Oper}{v:Value}{K:Value->Prop} (k:K v) (e:aT P ρ o h=some v:=by exact rfl):∃ v,aT P ρ o h=some v/\K v:=⟨v,e,k⟩
theorem ldO {t:TypeId}{a:Operand}{g off:Nat}{cs:List Value}{ro:Bool}{v:Value}{K:Value->Prop} (hg:h.get g=some (.cells cs ro)) (k:K v)
 (ha:ρ a=.pointer (some ⟨g,off,none⟩):=by exact rfl) (ht:fB P t=some false:=by exact rfl) (hv:cs[off]?=some v:=by exact rfl) :
 ∃ v,aT P ρ { dst:=d,op:=.load t a,type:=ty,pos:=pos,after:=af,guard:=gd } h=some v/\K v:=⟨v,bz ha hg ht hv,k⟩
theorem ldE {α:Type}{enc:α->Value}{l:List α}{x:α}{j:Nat}{t:TypeId}{a:Operand}{g:Nat}{ro:Bool}{v:Value}{K:Value->Prop}{s i:Nat} (hg:h.get g=some (.cells (flatC (l.map enc)) ro)) (hx:l[j]?=some x) (k:K v)
 (ha:ρ a=.pointer (some ⟨g,0+j*s+i,none⟩):=by exact rfl) (ht:fB P t=some false:=by exact rfl) (hs:∀ x:α,(cl (enc x)).length=s:=by exact fun _=>rfl) (hv:(cl (enc x))[i]?=some v:=by exact rfl) :
 ∃ v,aT P ρ { dst:=d,op:=.load t a,type:=ty,pos:=pos,after:=af,guard:=gd } h=some v/\K v:=⟨v,bz ha hg ht (fA hs hx hv),k⟩
theorem fz {o:Oper}{K:Value->Heap->Prop}{v:Value} (hk:K v h) (hv:anewF P ρ o=some v:=by exact rfl):NewG P ρ o h K:=NewG.frz hv hk
theorem lm {α:Type}{enc:α->Value}{s:Nat}{l:List α}{t e:TypeId}{x:Operand}{K:Value->Prop} (hk:K (.int .i64 (Int.ofNat l.length))) (hu:P.underlying t=some (.slice e):=by exact rfl) (hx:ρ x=FL s (l.map enc):=by exact rfl) :
 ∃ v,aq P ρ { dst:=d,op:=.call { callee:=.builtin .len,args := #[x],argTypes := #[t] },type:=ty,pos:=pos,after:=af,guard:=gd }=some v/\K v:=Kb hu hx hk
theorem lg {α:Type}{enc:α->Value}{t e:TypeId}{x:Operand}{l:List α}{b:Option Addr}{c:Nat}{K:Value->Prop} (hk:K (.int .i64 (Int.ofNat l.length))) (hu:P.underlying t=some (.slice e):=by exact rfl) (hx:ρ x=.slice b (l.map enc).length c:=by exact rfl) :
 ∃ v,aq P ρ { dst:=d,op:=.call { callee:=.builtin .len,args := #[x],argTypes := #[t] },type:=ty,pos:=pos,after:=af,guard:=gd }=some v/\K v:=Kc hu hx hk
theorem ls {t e:TypeId}{x:Operand}{b:Option Addr}{n c:Nat}{K:Value->Prop} (hk:K (.int .i64 (Int.ofNat n))) (hu:P.underlying t=some (.slice e):=by exact rfl) (hx:ρ x=.slice b n c:=by exact rfl) :
 ∃ v,aq P ρ { dst:=d,op:=.call { callee:=.builtin .len,args := #[x],argTypes := #[t] },type:=ty,pos:=pos,after:=af,guard:=gd }=some v/\K v:=Jh hu hx hk
theorem aH {t yt:TypeId}{x y:Operand}{a b:Nat}{W:Prop}{K:Value->Prop} (hm:a+b<2 ^ 63/\W) (k:W->K (.int .i64 (Int.ofNat (a+b)))) (hx:ρ x=.int .i64 (Int.ofNat a):=by exact rfl) (hy:ρ y=.int .i64 (Int.ofNat b):=by exact rfl) :
 ∃ v,aq P ρ { dst:=d,op:=.binOp .add t x y yt,type:=ty,pos:=pos,after:=af,guard:=gd }=some v/\K v:=⟨_,GA hx hy hm.1,k hm.2⟩
theorem nW {t yt:TypeId}{x y:Operand}{a b:Nat}{W:Prop}{K:Value->Prop} (hm:b<=a/\a<2 ^ 63/\W) (k:W->K (.int .i64 (Int.ofNat (a-b)))) (hx:ρ x=.int .i64 (Int.ofNat a):=by exact rfl) (hy:ρ y=.int .i64 (Int.ofNat b):=by exact rfl) :
 ∃ v,aq P ρ { dst:=d,op:=.binOp .sub t x y yt,type:=ty,pos:=pos,after:=af,guard:=gd }=some v/\K v:=⟨_,Kk hx hy hm.1 hm.2.1,k hm.2.2⟩
theorem Ig {t yt:TypeId}{x y:Operand}{a b:Nat}{W:Prop}{K:Value->Prop} (hm:b<=a/\a<256/\W) (k:W->K (.int .u8 (Int.ofNat (a-b)))) (hx:ρ x=.int .u8 (Int.ofNat a):=by exact rfl) (hy:ρ y=.int .u8 (Int.ofNat b):=by exact rfl) :
 ∃ v,aq P ρ { dst:=d,op:=.binOp .sub t x y yt,type:=ty,pos:=pos,after:=af,guard:=gd }=some v/\K v:=⟨_,IW hx hy hm.1 hm.2.1,k hm.2.2⟩
theorem E4 {t yt:TypeId}{x y:Operand}{a b:Nat}{W:Prop}{K:Value->Prop} (hm:a*b<2 ^ 63/\W) (k:W->K (.int .i64 (Int.ofNat (a*b)))) (hx:ρ x=.int .i64 (Int.ofNat a):=by exact rfl) (hy:ρ y=.int .i64 (Int.ofNat b):=by exact rfl) :
 ∃ v,aq P ρ { dst:=d,op:=.binOp .mul t x y yt,type:=ty,pos:=pos,after:=af,guard:=gd }=some v/\K v:=⟨_,Kg hx hy hm.1,k hm.2⟩
theorem CM {t yt:TypeId}{x y:Operand}{a b:Nat}{W:Prop}{K:Value->Prop} (hm:0<b/\a<2 ^ 63/\W) (k:W->K (.int .i64 (Int.ofNat (a/b)))) (hx:ρ x=.int .i64 (Int.ofNat a):=by exact rfl) (hy:ρ y=.int .i64 (Int.ofNat b):=by exact rfl) :
 ∃ v,aq P ρ { dst:=d,op:=.binOp .quo t x y yt,type:=ty,pos:=pos,after:=af,guard:=gd }=some v/\K v:=⟨_,J7 hx hy hm.1 hm.2.1,k hm.2.2⟩
theorem ri {t yt:TypeId}{x y:Operand}{kk:IntKind}{a b:Nat}{W:Prop}{K:Value->Prop} (hm:0<b/\W) (k:W->K (.int kk (Int.ofNat (a%b)))) (hx:ρ x=.int kk (Int.ofNat a):=by exact rfl) (hy:ρ y=.int kk (Int.ofNat b):=by exact rfl) :
 ∃ v,aq P ρ { dst:=d,op:=.binOp .rem t x y yt,type:=ty,pos:=pos,after:=af,guard:=gd }=some v/\K v:=⟨_,vv hx hy hm.1,k hm.2⟩
theorem aCv {s t:TypeId}{x:Operand}{kk k':IntKind}{a:Nat}{C W:Prop}{K:Value->Prop} (hm:C/\W) (hw:C->k'.wrap (Int.ofNat a)=Int.ofNat a) (k:W->K (.int k' (Int.ofNat a))) (hx:ρ x=.int kk (Int.ofNat a):=by exact rfl) (hs:P.underlying s=some (.int kk):=by exact rfl) (ht:P.underlying t=some (.int k'):=by exact rfl) :
 ∃ v,aT P ρ { dst:=d,op:=.convert s t x,type:=ty,pos:=pos,after:=af,guard:=gd } h=some v/\K v:=⟨_,iQ hs ht hx (hw hm.1),k hm.2⟩
theorem wI8 {a:Nat} (h:a<256):IntKind.i64.wrap (Int.ofNat a)=Int.ofNat a:=BY (Nat.lt_of_lt_of_le h (by decide))
theorem JP {a:Nat} (h:a<2 ^ 63):IntKind.u64.wrap (Int.ofNat a)=Int.ofNat a:=nD (Nat.lt_of_lt_of_le h (by decide))
theorem atF {α:Type}{enc:α->Value}{s j:Nat}{l:List α}{t e:TypeId}{x i:Operand}{kk:IntKind}{W:α->Prop}{K:Value->Prop} (hm:∃ x,l[j]?=some x/\W x) (k:∀ x,l[j]?=some x->W x->K (FP (enc x)))
  (hx:ρ x=FL s (l.map enc):=by exact rfl) (hi:ρ i=.int kk (Int.ofNat j):=by exact rfl) (hu:P.underlying t=some (.slice e):=by exact rfl) (hs:aQ P e=some s:=by exact rfl) :
  ∃ v,aq P ρ { dst:=d,op:=.indexAddr t x i,type:=ty,pos:=pos,after:=af,guard:=gd }=some v/\K v:=by
 obtain⟨x,h1,h2⟩:=hm;exact Jp hu hs hx hi h1 (k x h1 h2)
theorem ix {α:Type}{l:List α} (s:Nat) {g off n cap j:Nat}{sp:Option Nat}{t e:TypeId}{x i:Operand}{kk:IntKind}{W:α->Prop}{K:Value->Prop} (hm:j<n/\∃ x,l[j]?=some x/\W x) (k:∀ x,l[j]?=some x->W x->K (.pointer (some ⟨g,off+j*s,none⟩)))
  (hx:ρ x=.slice (some ⟨g,off,sp⟩) n cap:=by exact rfl) (hi:ρ i=.int kk (Int.ofNat j):=by exact rfl) (hu:P.underlying t=some (.slice e):=by exact rfl) (hs:aQ P e=some s:=by exact rfl) :
  ∃ v,aq P ρ { dst:=d,op:=.indexAddr t x i,type:=ty,pos:=pos,after:=af,guard:=gd }=some v/\K v:=by
 obtain⟨hj,x,h1,h2⟩:=hm;exact bb hu hs hx hi hj (k x h1 h2)
theorem br {b:Bool}{v:Value}{W1 W2 K1 K2:Prop} (hm:(b=true->W1)/\(b=false->W2)) (t:W1->K1) (f:W2->K2) (hv:v=.bool b:=by exact rfl):∃ b,v=.bool b/\(b=true->K1)/\(b=false->K2) :=
 ⟨b,hv,fun e=>t (hm.1 e),fun e=>f (hm.2 e)⟩
theorem ca {f:FuncId}{vs:Array Value}{R:Type}{enc:R->Value}{Q:R->Prop}{K:Value->Heap->Prop} (c:∃ r,Q r/\CallD P N f vs h (enc r) h) (k:∀ r,Q r->K (enc r) h):∃ v h',CallD P N f vs h v h'/\K v h':=by
 obtain⟨r,q,c⟩:=c;exact⟨_,_,c,k r q⟩
theorem caW {f:FuncId}{l l':List Value}{R:Type}{enc:R->Value}{Q:R->Prop}{K:Value->Heap->Prop} (c:∃ r,Q r/\CallD P N f ⟨l⟩ h (enc r) h) (a:LLe h l' l) (k:∀ r,Q r->K (enc r) h):∃ v h',CallD P N f ⟨l'⟩ h v h'/\K v h':=by
 obtain⟨r,q,c⟩:=c;exact⟨_,_,CallD.Jl c a,k r q⟩
theorem fe {B:List AObj}{h0:Heap}{L:List Slot}{R:Type}{Q V:R->Prop}{r:R} (hm:Q r) (O:Own B h0 L h) (hv:V r:=by exact fun _ _=>VLe.refl _ _):∃ r,Q r/\Ext h0 h/\V r:=⟨r,hm,O.ext,hv⟩
theorem ldA {t:TypeId}{a:Operand}{g off n:Nat}{cs l:List Value}{ro:Bool}{K:Value->Prop} (hg:h.get g=some (.cells cs ro)) (k:K (.agg ⟨l⟩))
 (ha:ρ a=.pointer (some ⟨g,off,none⟩):=by exact rfl) (ht:fB P t=some true:=by exact rfl) (hs:aQ P t=some n:=by exact rfl) (hle:Nat.ble (off+n) cs.length=true:=by exact rfl) (hv:(cs.drop off).take n=l:=by exact rfl) :
 ∃ v,aT P ρ { dst:=d,op:=.load t a,type:=ty,pos:=pos,after:=af,guard:=gd } h=some v/\K v:=⟨_,aI ha hg ht hs (Nat.le_of_ble_eq_true hle) hv,k⟩
theorem bt {v:Value}{K1 K2:Prop} (k:K1) (hv:v=.bool true:=by exact rfl):∃ b,v=.bool b/\(b=true->K1)/\(b=false->K2):=⟨true,hv,fun _=>k,fun e=>nomatch e⟩
theorem bf {v:Value}{K1 K2:Prop} (k:K2) (hv:v=.bool false:=by exact rfl):∃ b,v=.bool b/\(b=true->K1)/\(b=false->K2):=⟨false,hv,(fun e=>nomatch e),fun _=>k⟩
end
section
variable {P:Program} {N:Nat} {B:List AObj} {h0 h:Heap} {L:List Slot} {ρ:Operand->Value} {d:Option Tmp} {ty:TypeId} {pos:String} {af:Array Edge} {gd:Option (Nat×Bool)}
theorem Own.stE {α:Type}{enc:α->Value}{l:List α}{y:α}{j:Nat}{t:TypeId}{a x:Operand}{g:Nat}{lv:List Value}{f:Slot->List Slot}{K:Value->Heap->Prop} (O:Own B h0 L h) (s:Nat) (A:At (some g,.cells (flatC (l.map enc)) false) L f) (hy:l[j]?=some y) (nx:α)
  (k:∀ h1,Own B h0 (f (some g,.cells (flatC ((l.set j nx).map enc)) false)) h1->K undef h1)
  (ha:ρ a=.pointer (some ⟨g,0+j*s,none⟩):=by exact rfl) (hs:aQ P t=some s:=by exact rfl) (hx:cl (ρ x)=lv:=by exact rfl) (hc:lv=cl (enc nx):=by exact rfl) (hz:∀ x:α,(cl (enc x)).length=s:=by exact fun _=>rfl) (h1:lv.all Value.oneCell'=true:=by exact rfl) :
  ∃ (v:Value) (T:Heap->Prop),(∃ h',dp P ρ { dst:=d,op:=.store t a x,type:=ty,pos:=pos,after:=af,guard:=gd } h=some (v,h')/\T h')/\∀ h1,T h1->K v h1 :=
 O.store A ha hs hx (by rw[hc];exact hz nx) (cW (k:=0) hz (ag hy) (by omega)) h1 (AO hz (ag hy) hc) k
theorem Own.stC {t:TypeId}{a x:Operand}{g off:Nat}{cs l:List Value}{f:Slot->List Slot}{K:Value->Heap->Prop} (O:Own B h0 L h) (n:Nat) (A:At (some g,.cells cs false) L f) (cs':List Value) (k:∀ h1,Own B h0 (f (some g,.cells cs' false)) h1->K undef h1)
  (ha:ρ a=.pointer (some ⟨g,off,none⟩):=by exact rfl) (hs:aQ P t=some n:=by exact rfl) (hx:cl (ρ x)=l:=by exact rfl) (hl:l.length=n:=by exact rfl) (hle:Nat.ble (off+n) cs.length=true:=by exact rfl) (h1:l.all Value.oneCell'=true:=by exact rfl) (hcs:bp cs off l=cs':=by exact rfl) :
  ∃ (v:Value) (T:Heap->Prop),(∃ h',dp P ρ { dst:=d,op:=.store t a x,type:=ty,pos:=pos,after:=af,guard:=gd } h=some (v,h')/\T h')/\∀ h1,T h1->K v h1 :=
 O.store A ha hs hx hl (Nat.le_of_ble_eq_true hle) h1 hcs k
theorem Own.mkL {α:Type}{enc:α->Value}{t e:TypeId}{x y:Operand}{n:Nat}{W:Prop}{K:Value->Heap->Prop} (O:Own B h0 L h) (b s:Nat) (z:α) (hm:b*n<=2 ^ 48/\n<2 ^ 63/\W)
  (k:∀ g h1,Own B h0 ((some g,.cells (flatC ((List.replicate n z).map enc)) false)::L) h1->W->K (.slice (some ⟨g,0,none⟩) n n) h1)
  (hu:P.underlying t=some (.slice e):=by exact rfl) (hs:aQ P e=some s:=by exact rfl) (hb:kJ P e=some b:=by exact rfl) (hz:zeroOf P e=some (enc z):=by exact rfl) (hz1:(enc z).cells.size=s:=by exact rfl) (hpos:Nat.ble 1 s=true:=by exact rfl) (hp:(enc z).cells.all aJ=true:=by kernel_rfl)
  (hx:ρ x=.int .i64 (Int.ofNat n):=by exact rfl) (hy:ρ y=.int .i64 (Int.ofNat n):=by exact rfl) :
  NewG P ρ { dst:=d,op:=.makeSlice t x y,type:=ty,pos:=pos,after:=af,guard:=gd } h K :=
 O.JY hu hs hb hz hz1 (Nat.le_of_ble_eq_true hpos) hp hx hy hm.1 hm.2.1 fun g h1 O=>k g h1 O hm.2.2
theorem Own.apL {α:Type}{enc:α->Value}{l new:List α}{ts tx te:TypeId}{dx:TypeDesc}{x y:Operand}{b:Nat}{a:Option Nat}{z:Value}{W:Prop}{f:Slot->List Slot}{K:Value->Heap->Prop} (O:Own B h0 L h) (s:Nat) (A:At (a,.cells (flatC (l.map enc)) false) L f) (ha:a=none->l=[])
  (hm:(l.length+new.length)*b<=2 ^ 47/\W)
  (k:∀ a' h1,(a'=none->l++new=[])->Own B h0 (f (a',.cells (flatC ((l++new).map enc)) false)) h1->W->K (ae s a' ((l++new).map enc)) h1)
  (hts:P.underlying ts=some (.slice te):=by exact rfl) (htx:P.underlying tx=some dx:=by exact rfl) (hni:eB dx=true:=by exact rfl) (hs:aQ P te=some s:=by exact rfl) (hb:kJ P te=some b:=by exact rfl) (hz:zeroOf P te=some z:=by exact rfl) (hzs:z.cells.size=s:=by exact rfl)
  (hx:ρ x=ae s a (l.map enc):=by exact rfl) (hy:ρ y=FL s (new.map enc):=by exact rfl) (hsz:∀ x:α,(cl (enc x)).length=s:=by exact fun _=>rfl) (hone:∀ x:α,(cl (enc x)).all Value.oneCell'=true:=by exact fun _=>rfl) (hb0:Nat.ble 1 b=true:=by exact rfl) :
  ∃ (v:Value) (T:Heap->Prop),(∃ h',dp P ρ { dst:=d,op:=.call { callee:=.builtin .append,args := #[x,y],argTypes := #[ts,tx] },type:=ty,pos:=pos,after:=af,guard:=gd } h=some (v,h')/\T h')/\∀ h1,T h1->K v h1 :=
 O.gR A ha hts htx hni hs hb hz hzs hx (YOk.fl hy) hsz hone (Nat.le_of_ble_eq_true hb0) hm.1 fun a' h1 q O=>k a' h1 q O hm.2
end
def keep (e:Env) (ks:List Nat):List (Nat×Value):=ks.map fun k=>(k,e.get k)
def za (e:Env):List Nat->(List (Nat×Value)->Prop)->Prop
 |[],K=>K []
 |k::r,K=>ue (e.get k) fun v=>za e r fun l=>K ((k,v)::l)
theorem qX {e:Env}:∀ {ks:List Nat}{K:List (Nat×Value)->Prop},za e ks K↔K (keep e ks)
 |[],_=>Iff.rfl
 |k::r,K=>by
  unfold za;rw[oF,qX];exact Iff.rfl
section
variable {P:Program} {N:Nat}
theorem jx {σ:Type}{A B C:σ->Prop} (s:σ) (hm:A s) (i:B s) (hh:C s:=by (repeat(first|exact trivial|refine⟨VLe.refl _ _,?_⟩))):∃ s,A s/\B s/\C s:=⟨s,hm,i,hh⟩
theorem lw (nn:Nat) (ks:List Nat) {S σ:Type} (π:σ->S) {body:S->(S->Prop)->Prop} (I:σ->Heap->Prop) (env:σ->List (Nat×Value)) {c:Code}{e:Env}{h:Heap}{K:X->Env->Heap->Prop}
  (s0:σ) (hm:aF body (π s0)) (start:I s0 h)
  (round:∀ s next base h,body (π s) next->I s h->za e ks fun l=>ff (eA (l++env s)) fun t=>CodeS P N c ⟨nn,t,base⟩ h fun x e1 h1=>match x with
   |.normal=>∃ s',next (π s')/\I s' h1/\jL h1 (keep e ks++env s') e1
   |.exit id=>K (.exit id) e1 h1
   |.ret=>K .ret e1 h1)
  (hs:jL h (keep e ks++env s0) e:=by (repeat(first|exact trivial|refine⟨VLe.refl _ _,?_⟩)))
  (hn:e.n=nn:=by exact rfl) (hM:P.follows .mixedOrders=true:=by exact hM) (hok:codeOk N nn c=true:=by kernel_rfl):tZ P N c e h K :=
 I2 hM hok π I (fun s=>keep e ks++env s) hn s0 hm start hs fun s next base h a b=>qX.1 (round s next base h a b)
theorem jn {a b:Code}{α σ:Type}{first:(α->Prop)->Prop}{rest:α->Prop} (hm:an first rest) (nn:Nat) (ks:List Nat) (π:σ->α) (I:σ->Heap->Prop) (env:σ->List (Nat×Value)) {e:Env}{h:Heap}{K:X->Env->Heap->Prop}
  (hfirst:first rest->CodeS P N a e h fun x e1 h1=>match x with
   |.normal=>∃ s,rest (π s)/\I s h1/\jL h1 (keep e ks++env s) e1
   |.exit id=>K (.exit id) e1 h1
   |.ret=>K .ret e1 h1)
  (hrest:∀ s base h1,rest (π s)->I s h1->za e ks fun l=>ff (eA (l++env s)) fun t=>CodeS P N b ⟨nn,t,base⟩ h1 K) (hn:e.n=nn:=by exact rfl):CodeS P N (.seq a b) e h K :=
 CodeS.Iz hm π I (fun s=>keep e ks++env s) hn hfirst fun s base h1 x y=>qX.1 (hrest s base h1 x y)
end
theorem gH {A B:Prop} (a:A) (h:A->B:=by intro h;(conv=>whnf);(repeat((first|apply Hs|apply Hx|apply Hf|apply Hk | (refine rd ?_) | (refine⟨.inl rfl,?_⟩) | (refine lm ?_) | (refine ll ?_) | (refine lg ?_) | (refine ls ?_) | (refine ldO O.i0 ?_) | (refine ldO O.i1 ?_) | (refine ldO O.i2 ?_) | (refine⟨rfl,?_⟩) | (refine wJ rfl rfl ?_));(conv=>whnf)));exact h):B:=h a
theorem gX {A B:Prop} (a:A) (h:A->B:=by intro h;(conv=>whnf);(repeat((first|apply Cs|apply Hs|apply Hx|apply Hf|apply Hk | (refine rd ?_) | (refine⟨.inl rfl,?_⟩) | (refine lm ?_) | (refine ll ?_) | (refine lg ?_) | (refine ls ?_) | (refine ldO O.i0 ?_) | (refine ldO O.i1 ?_) | (refine ldO O.i2 ?_) | (refine⟨rfl,?_⟩) | (refine wJ rfl rfl ?_));(conv=>whnf)));exact h):B:=h a
section
variable {P:Program} {N:Nat} {ρ:Operand->Value} {d:Option Tmp} {ty:TypeId} {pos:String} {af:Array Edge} {gd:Option (Nat×Bool)} {h:Heap} {α:Type} {s:Nat} {enc:α->Value} {l:List α}
theorem nlN {t e yt:TypeId}{x:Operand}{K:Value->Prop} (k:K (.bool l.isEmpty)) (hx:ρ x=FN s (l.map enc):=by exact rfl) (hu:P.underlying t=some (.slice e):=by exact rfl) (hy:ρ (.const (.slice none 0 0))=.slice none 0 0:=by exact rfl) :
  ∃ v,aq P ρ { dst:=d,op:=.binOp .eql t x (.const (.slice none 0 0)) yt,type:=ty,pos:=pos,after:=af,guard:=gd }=some v/\K v:=by
 refine⟨_,?_,k⟩;unfold aq;simp only[hu,hx,hy]
 cases l <;> rfl
end
section
variable {P:Program} {N:Nat} {B:List AObj} {h0 h:Heap} {L:List Slot}
theorem Own.Jx {s:Slot}{h1:Heap} (O1:Own B h [s] h1) (O:Own B h0 L h):Own B h0 (s::L) h1:=by
 refine⟨O.base,O.ext.trans O1.ext,fun g o m=>?_,List.pairwise_cons.2 ⟨fun q m g e e'=>?_,O.apart⟩⟩
 ·rcases List.mem_cons.1 m with m|m
  ·have:=O1.get g o (m ▸ .head _);exact⟨Nat.le_trans O.ext.1 this.1,this.2⟩
  ·have:=O.get g o m;exact⟨this.1,O1.ext.get this.2⟩
 ·obtain⟨q1,q2⟩:=q;obtain⟨s1,s2⟩:=s;simp only at e e';subst e e';have k1:=(O1.get g s2 (.head _)).1;have k2:=Heap.ag (O.get g q2 m).2;omega
def qO (B:List AObj) (h0:Heap) {R α:Type} (K:R->Prop) (val:R->Option Nat->Value) (pr:R->List α) (enc:α->Value) (nn:Bool) (v:Value) (h':Heap):Prop :=
 ∃ (r:R) (a:Option Nat),K r/\VLe h' v (val r a)/\(a=none->pr r=[])/\(nn=true->pr r=[]->a=none)/\Own B h0 [(a,.cells (flatC ((pr r).map enc)) false)] h'
theorem CallD.Jc {f:FuncId}{vs:Array Value}{v v2:Value}{h':Heap} (c:CallD P N f vs h v h') (le:VLe h' v v2):CallD P N f vs h v2 h':=by
 refine⟨c.1,fun ι w vs' H ra=>?_⟩
 rcases c.2 ι w vs' H ra with⟨ok,hc⟩|⟨v',e1,e2,e3⟩
 ·exact .inl ⟨ok,hc.mono fun e' w' ⟨ι',v',q1,q2,q3,q4⟩=>⟨ι',v',q1,le _ _ _ _ q3 q2,q3,q4⟩⟩
 ·subst e3;exact .inr ⟨v',e1,le _ _ _ _ H e2,rfl⟩
theorem VLe.of_eq {h:Heap}{v v':Value} (e:v=v'):VLe h v v':=e ▸ VLe.refl h v
theorem Own.Hp {α:Type}{enc:α->Value}{l:List α}{s n g:Nat}{sp ro:Bool} (O:Own B h0 L h) (m:(some g,.cells (flatC (l.map enc)) ro)∈L) (hs:∀ x:α,(cl (enc x)).length=s) (hn:n=(l.map enc).length) (hpos:0<l.length):VLe h (wO s sp g n) (ae s (some g) (l.map enc)):=by
 cases sp with
 |true=>subst hn;exact VLe.refl _ _
 |false=>exact O.AV m hs (by rw[hn,List.length_map]) hpos
theorem YOk.fn {α:Type}{h:Heap}{s:Nat}{v:Value}{enc:α->Value}{new:List α} (hy:v=FN s (new.map enc)):YOk h s v enc new:=by
 subst hy;exact⟨(YOk.fl (h:=h) (s:=s) (enc:=enc) (new:=new) rfl).len,(YOk.fl (h:=h) (s:=s) (enc:=enc) (new:=new) rfl).first⟩
variable {R α:Type} {K:R->Prop} {val:R->Option Nat->Value} {pr:R->List α} {enc:α->Value} {nn:Bool}
theorem caO {f:FuncId}{vs:Array Value}{Q:Value->Heap->Prop} (c:∃ v h',CallD P N f vs h v h'/\qO B h K val pr enc nn v h') (O:Own B h0 L h)
  (k:∀ r a h1,Ext h h1->(a=none->pr r=[])->(nn=true->pr r=[]->a=none)->Own B h0 ((a,.cells (flatC ((pr r).map enc)) false)::L) h1->K r->Q (val r a) h1):∃ v h',CallD P N f vs h v h'/\Q v h':=by
 obtain⟨v,h',c,r,a,hK,le,h1,h2,O1⟩:=c;exact⟨_,_,c.Jc le,k r a h' O1.ext h1 h2 (O1.Jx O) hK⟩
theorem CallD.Jk {f:FuncId}{l l':List Value}{v:Value}{h':Heap} (c:CallD P N f ⟨l⟩ h v h') (a:LLe h l' l):CallD P N f ⟨l'⟩ h v h' :=
 ⟨c.1,fun ι w vs' H ra=>c.2 ι w vs' H (a.DI H ra)⟩
theorem J9 {f:FuncId}{l l':List Value}{Q:Value->Heap->Prop} (c:∃ v h',CallD P N f ⟨l⟩ h v h'/\qO B h K val pr enc nn v h') (a:LLe h l' l) (O:Own B h0 L h)
  (k:∀ r a h1,Ext h h1->(a=none->pr r=[])->(nn=true->pr r=[]->a=none)->Own B h0 ((a,.cells (flatC ((pr r).map enc)) false)::L) h1->K r->Q (val r a) h1):∃ v h',CallD P N f ⟨l'⟩ h v h'/\Q v h':=by
 obtain⟨v,h',c,o⟩:=c;exact caO ⟨v,h',c.Jk a,o⟩ O k
theorem JC {g n:Nat}{l:List α} (hn:n=l.length):Value.slice (some ⟨g,0,none⟩) n n=iW (some g) (l.map enc):=by
 subst hn;simp[iW]
theorem GF {l:List α}{g:Nat}{b:Bool} (hp:0<l.length):b=true->l=[]->some g=none:=fun _ e=>by subst e;exact absurd hp (Nat.lt_irrefl 0)
theorem A9 {s:Nat}{a:Option Nat}{l m:List Value} (h:l.length=m.length):ae s a l=ae s a m:=by unfold ae;rw[h]
def Km (P:Program) (N:Nat) (c:Code) (e:Env) (h:Heap) (K:X->Env->Heap->Prop):Prop:=∃ n x e1 h1,ic P N c n e h (X.toExit x) e1 h1/\K x e1 h1
end
end Go.Abs
