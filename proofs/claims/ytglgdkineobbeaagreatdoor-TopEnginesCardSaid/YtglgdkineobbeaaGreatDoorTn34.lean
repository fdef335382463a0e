/- Parts of the proof. -/
import Derived.Test.YtglgdkineobbeaaGreatDoorTn33
open Go.Value renaming oneCell'->MV
open Int renaming ofNat->LQ
open Nat renaming ble->NK
namespace Go.Abs
theorem dF{A B C R:Prop}(r:R)(h:A\/B\/C:=by first|exact .inr (.inr rfl) | exact .inr (.inl (by kernel_rfl))):(A\/B\/C)/\R:=⟨h,r⟩
abbrev sC(g:Nat)(l:List Value):Slot:=(some g,.cells l false)
abbrev sR(g:Nat)(l:List Value):Slot:=(some g,.cells l true)
abbrev sM{α:Type}(a:Option Nat)(f:α->Value)(l:List α):Slot:=(a,.cells (ah (l.map f)) false)
abbrev sG{α:Type}(g:Nat)(f:α->Value)(l:List α):Slot:=(some g,.cells (ah (l.map f)) false)
abbrev nS:Value:=.slice none 0 0
abbrev pG(g:Nat):Value:=.pointer (some ⟨g,0,none⟩)
def LP{α:Type}(s:Nat)(enc:α->Value)(l:List α):Value:=FN s (l.map enc)
section
variable {α:Type} {s:Nat} {enc:α->Value} {l:List α}
end
section
variable {P:Program} {N:Nat} {ρ:Operand->Value} {d:Option Tmp} {ty:TypeId} {pos:String} {af:Array Edge} {gd:Option (Nat×Bool)} {h:Heap}
theorem rd{o:Oper}{v:Value}{K:Value->Prop}(k:K v)(e:bp P ρ o h=some v:=by exact rfl):∃v,bp P ρ o h=some v/\K v:=⟨v,e,k⟩
theorem ldO{t:TypeId}{a:Operand}{g off:Nat}{cs:List Value}{ro:Bool}{v:Value}{K:Value->Prop}(hg:h.get g=some (.cells cs ro))(k:K v)
 (ha:ρ a=.pointer (some ⟨g,off,none⟩):=by exact rfl) (ht:iz P t=some false:=by exact rfl) (hv:cs[off]?=some v:=by exact rfl) :
 ∃v,bp P ρ { dst:=d,op:=.load t a,type:=ty,pos:=pos,after:=af,guard:=gd } h=some v/\K v:=⟨v,bw ha hg ht hv,k⟩
theorem ldE{α:Type}{enc:α->Value}{l:List α}{x:α}{j:Nat}{t:TypeId}{a:Operand}{g:Nat}{ro:Bool}{v:Value}{K:Value->Prop}{s i:Nat}(hg:h.get g=some (.cells (ah (l.map enc)) ro))(hx:l[j]?=some x)(k:K v)
 (ha:ρ a=.pointer (some ⟨g,0+j*s+i,none⟩):=by exact rfl) (ht:iz P t=some false:=by exact rfl) (hs:∀x:α,(cl (enc x)).length=s:=by exact λ_=>rfl) (hv:(cl (enc x))[i]?=some v:=by exact rfl) :
 ∃v,bp P ρ { dst:=d,op:=.load t a,type:=ty,pos:=pos,after:=af,guard:=gd } h=some v/\K v:=⟨v,bw ha hg ht (eK hs hx hv),k⟩
theorem fz{o:Oper}{K:Value->Heap->Prop}{v:Value}(hk:K v h)(hv:tX P ρ o=some v:=by exact rfl):NewG P ρ o h K:=NewG.frz hv hk
theorem lm{α:Type}{enc:α->Value}{s:Nat}{l:List α}{t e:TypeId}{x:Operand}{K:Value->Prop}(hk:K (.int .i64 (LQ l.length)))(hu:P.underlying t=some (.slice e):=by exact rfl)(hx:ρ x=FL s (l.map enc):=by exact rfl) :
 ∃v,aC P ρ { dst:=d,op:=.call { callee:=.builtin .len,args := #[x],argTypes := #[t] },type:=ty,pos:=pos,after:=af,guard:=gd }=some v/\K v:=LA hu hx hk
theorem lg{α:Type}{enc:α->Value}{t e:TypeId}{x:Operand}{l:List α}{b:Option Addr}{c:Nat}{K:Value->Prop}(hk:K (.int .i64 (LQ l.length)))(hu:P.underlying t=some (.slice e):=by exact rfl)(hx:ρ x=.slice b (l.map enc).length c:=by exact rfl) :
 ∃v,aC P ρ { dst:=d,op:=.call { callee:=.builtin .len,args := #[x],argTypes := #[t] },type:=ty,pos:=pos,after:=af,guard:=gd }=some v/\K v:=Lw hu hx hk
theorem ls{t e:TypeId}{x:Operand}{b:Option Addr}{n c:Nat}{K:Value->Prop}(hk:K (.int .i64 (LQ n)))(hu:P.underlying t=some (.slice e):=by exact rfl)(hx:ρ x=.slice b n c:=by exact rfl) :
 ∃v,aC P ρ { dst:=d,op:=.call { callee:=.builtin .len,args := #[x],argTypes := #[t] },type:=ty,pos:=pos,after:=af,guard:=gd }=some v/\K v:=KC hu hx hk
theorem aJ{t yt:TypeId}{x y:Operand}{a b:Nat}{W:Prop}{K:Value->Prop}(hm:a+b<2^63/\W)(k:W->K (.int .i64 (LQ (a+b))))(hx:ρ x=.int .i64 (LQ a):=by exact rfl)(hy:ρ y=.int .i64 (LQ b):=by exact rfl) :
 ∃v,aC P ρ { dst:=d,op:=.binOp .add t x y yt,type:=ty,pos:=pos,after:=af,guard:=gd }=some v/\K v:=⟨_,KA hx hy hm.1,k hm.2⟩
theorem vt{t yt:TypeId}{x y:Operand}{a b:Nat}{W:Prop}{K:Value->Prop}(hm:b<=a/\a<2^63/\W)(k:W->K (.int .i64 (LQ (a-b))))(hx:ρ x=.int .i64 (LQ a):=by exact rfl)(hy:ρ y=.int .i64 (LQ b):=by exact rfl) :
 ∃v,aC P ρ { dst:=d,op:=.binOp .sub t x y yt,type:=ty,pos:=pos,after:=af,guard:=gd }=some v/\K v:=⟨_,LH hx hy hm.1 hm.2.1,k hm.2.2⟩
theorem KG{t yt:TypeId}{x y:Operand}{a b:Nat}{W:Prop}{K:Value->Prop}(hm:b<=a/\a<256/\W)(k:W->K (.int .u8 (LQ (a-b))))(hx:ρ x=.int .u8 (LQ a):=by exact rfl)(hy:ρ y=.int .u8 (LQ b):=by exact rfl) :
 ∃v,aC P ρ { dst:=d,op:=.binOp .sub t x y yt,type:=ty,pos:=pos,after:=af,guard:=gd }=some v/\K v:=⟨_,JU hx hy hm.1 hm.2.1,k hm.2.2⟩
theorem IU{t yt:TypeId}{x y:Operand}{a b:Nat}{W:Prop}{K:Value->Prop}(hm:a*b<2^63/\W)(k:W->K (.int .i64 (LQ (a*b))))(hx:ρ x=.int .i64 (LQ a):=by exact rfl)(hy:ρ y=.int .i64 (LQ b):=by exact rfl) :
 ∃v,aC P ρ { dst:=d,op:=.binOp .mul t x y yt,type:=ty,pos:=pos,after:=af,guard:=gd }=some v/\K v:=⟨_,LL hx hy hm.1,k hm.2⟩
theorem Ff{t yt:TypeId}{x y:Operand}{a b:Nat}{W:Prop}{K:Value->Prop}(hm:0<b/\a<2^63/\W)(k:W->K (.int .i64 (LQ (a/b))))(hx:ρ x=.int .i64 (LQ a):=by exact rfl)(hy:ρ y=.int .i64 (LQ b):=by exact rfl) :
 ∃v,aC P ρ { dst:=d,op:=.binOp .quo t x y yt,type:=ty,pos:=pos,after:=af,guard:=gd }=some v/\K v:=⟨_,Lv hx hy hm.1 hm.2.1,k hm.2.2⟩
theorem AF{t yt:TypeId}{x y:Operand}{kk:IntKind}{a b:Nat}{W:Prop}{K:Value->Prop}(hm:0<b/\W)(k:W->K (.int kk (LQ (a%b))))(hx:ρ x=.int kk (LQ a):=by exact rfl)(hy:ρ y=.int kk (LQ b):=by exact rfl) :
 ∃v,aC P ρ { dst:=d,op:=.binOp .rem t x y yt,type:=ty,pos:=pos,after:=af,guard:=gd }=some v/\K v:=⟨_,Jo hx hy hm.1,k hm.2⟩
theorem aCv{s t:TypeId}{x:Operand}{kk k':IntKind}{a:Nat}{C W:Prop}{K:Value->Prop}(hm:C/\W)(hw:C->k'.wrap (LQ a)=LQ a)(k:W->K (.int k' (LQ a)))(hx:ρ x=.int kk (LQ a):=by exact rfl)(hs:P.underlying s=some (.int kk):=by exact rfl)(ht:P.underlying t=some (.int k'):=by exact rfl) :
 ∃v,bp P ρ { dst:=d,op:=.convert s t x,type:=ty,pos:=pos,after:=af,guard:=gd } h=some v/\K v:=⟨_,oB hs ht hx (hw hm.1),k hm.2⟩
theorem aCw{s t:TypeId}{x:Operand}{kk:IntKind}{a:Nat}{K:Value->Prop}(k:K (.int .u8 (LQ (a%256))))(hx:ρ x=.int kk (LQ a):=by exact rfl)(hs:P.underlying s=some (.int kk):=by exact rfl)(ht:P.underlying t=some (.int .u8):=by exact rfl) :
 ∃v,bp P ρ { dst:=d,op:=.convert s t x,type:=ty,pos:=pos,after:=af,guard:=gd } h=some v/\K v:=⟨_,DY hs ht hx rfl,k⟩
theorem wI8{a:Nat}(h:a<256):IntKind.i64.wrap (LQ a)=LQ a:=Dy (Mr h (by decide))
theorem KK{a:Nat}(h:a<2^63):IntKind.u64.wrap (LQ a)=LQ a:=pA (Mr h (by decide))
theorem atF{α:Type}{enc:α->Value}{s j:Nat}{l:List α}{t e:TypeId}{x i:Operand}{kk:IntKind}{W:α->Prop}{K:Value->Prop}(hm:∃x,l[j]?=some x/\W x)(k:∀x,l[j]?=some x->W x->K (FP (enc x)))
  (hx:ρ x=FL s (l.map enc):=by exact rfl) (hi:ρ i=.int kk (LQ j):=by exact rfl) (hu:P.underlying t=some (.slice e):=by exact rfl) (hs:bb P e=some s:=by exact rfl) :
  ∃v,aC P ρ { dst:=d,op:=.indexAddr t x i,type:=ty,pos:=pos,after:=af,guard:=gd }=some v/\K v:=by
 obtain⟨x,h1,h2⟩:=hm;exact Jw hu hs hx hi h1 (k x h1 h2)
theorem ix{α:Type}{l:List α}(s:Nat){g off n cap j:Nat}{sp:Option Nat}{t e:TypeId}{x i:Operand}{kk:IntKind}{W:α->Prop}{K:Value->Prop}(hm:j<n/\∃x,l[j]?=some x/\W x)(k:∀x,l[j]?=some x->W x->K (.pointer (some ⟨g,off+j*s,none⟩)))
  (hx:ρ x=.slice (some ⟨g,off,sp⟩) n cap:=by exact rfl) (hi:ρ i=.int kk (LQ j):=by exact rfl) (hu:P.underlying t=some (.slice e):=by exact rfl) (hs:bb P e=some s:=by exact rfl) :
  ∃v,aC P ρ { dst:=d,op:=.indexAddr t x i,type:=ty,pos:=pos,after:=af,guard:=gd }=some v/\K v:=by
 obtain⟨hj,x,h1,h2⟩:=hm;exact cb hu hs hx hi hj (k x h1 h2)
theorem br{b:Bool}{v:Value}{W1 W2 K1 K2:Prop}(hm:(b=true->W1)/\(b=false->W2))(t:W1->K1)(f:W2->K2)(hv:v=.bool b:=by exact rfl):∃b,v=.bool b/\(b=true->K1)/\(b=false->K2) :=
 ⟨b,hv,λe=>t (hm.1 e),λe=>f (hm.2 e)⟩
theorem ca{f:FuncId}{vs:Array Value}{R:Type}{enc:R->Value}{Q:R->Prop}{K:Value->Heap->Prop}(c:∃r,Q r/\al P N f vs h (enc r) h)(k:∀r,Q r->K (enc r) h):∃v h',al P N f vs h v h'/\K v h':=by
 obtain⟨r,q,c⟩:=c;exact⟨_,_,c,k r q⟩
theorem caW{f:FuncId}{l l':List Value}{R:Type}{enc:R->Value}{Q:R->Prop}{K:Value->Heap->Prop}(c:∃r,Q r/\al P N f ⟨l⟩ h (enc r) h)(a:LLe h l' l)(k:∀r,Q r->K (enc r) h):∃v h',al P N f ⟨l'⟩ h v h'/\K v h':=by
 obtain⟨r,q,c⟩:=c;exact⟨_,_,al.Lp c a,k r q⟩
theorem fe{B:List AObj}{h0:Heap}{L:List Slot}{R:Type}{Q V:R->Prop}{r:R}(hm:Q r)(O:Own B h0 L h)(hv:V r:=by exact λ_ _=>VLe.refl _ _):∃r,Q r/\Ext h0 h/\V r:=⟨r,hm,O.ext,hv⟩
theorem ldA{t:TypeId}{a:Operand}{g off n:Nat}{cs l:List Value}{ro:Bool}{K:Value->Prop}(hg:h.get g=some (.cells cs ro))(k:K (.agg ⟨l⟩))
 (ha:ρ a=.pointer (some ⟨g,off,none⟩):=by exact rfl) (ht:iz P t=some true:=by exact rfl) (hs:bb P t=some n:=by exact rfl) (hle:NK (off+n) cs.length=true:=by exact rfl) (hv:(cs.drop off).take n=l:=by exact rfl) :
 ∃v,bp P ρ { dst:=d,op:=.load t a,type:=ty,pos:=pos,after:=af,guard:=gd } h=some v/\K v:=⟨_,aM ha hg ht hs (Mq hle) hv,k⟩
theorem bt{v:Value}{K1 K2:Prop}(k:K1)(hv:v=.bool true:=by exact rfl):∃b,v=.bool b/\(b=true->K1)/\(b=false->K2):=⟨true,hv,λ_=>k,λe=>nomatch e⟩
theorem bf{v:Value}{K1 K2:Prop}(k:K2)(hv:v=.bool false:=by exact rfl):∃b,v=.bool b/\(b=true->K1)/\(b=false->K2):=⟨false,hv,(λe=>nomatch e),λ_=>k⟩
end
section
variable {P:Program} {N:Nat} {B:List AObj} {h0 h:Heap} {L:List Slot} {ρ:Operand->Value} {d:Option Tmp} {ty:TypeId} {pos:String} {af:Array Edge} {gd:Option (Nat×Bool)}
theorem Own.stE{α:Type}{enc:α->Value}{l:List α}{y:α}{j:Nat}{t:TypeId}{a x:Operand}{g:Nat}{lv:List Value}{f:Slot->List Slot}{K:Value->Heap->Prop}(O:Own B h0 L h)(s:Nat)(A:At (some g,.cells (ah (l.map enc)) false) L f)(hy:l[j]?=some y)(nx:α)
  (k:∀h1,Own B h0 (f (some g,.cells (ah ((l.set j nx).map enc)) false)) h1->K undef h1)
  (ha:ρ a=.pointer (some ⟨g,0+j*s,none⟩):=by exact rfl) (hs:bb P t=some s:=by exact rfl) (hx:cl (ρ x)=lv:=by exact rfl) (hc:lv=cl (enc nx):=by exact rfl) (hz:∀x:α,(cl (enc x)).length=s:=by exact λ_=>rfl) (h1:lv.all MV=true:=by exact rfl) :
  ∃(v:Value) (T:Heap->Prop),(∃h',cZ P ρ { dst:=d,op:=.store t a x,type:=ty,pos:=pos,after:=af,guard:=gd } h=some (v,h')/\T h')/\∀h1,T h1->K v h1 :=
 O.store A ha hs hx (by rw[hc];exact hz nx) (dR (k:=0) hz (ai hy) (by omega)) h1 (Cm hz (ai hy) hc) k
theorem Own.stC{t:TypeId}{a x:Operand}{g off:Nat}{cs l:List Value}{f:Slot->List Slot}{K:Value->Heap->Prop}(O:Own B h0 L h)(n:Nat)(A:At (some g,.cells cs false) L f)(cs':List Value)(k:∀h1,Own B h0 (f (some g,.cells cs' false)) h1->K undef h1)
  (ha:ρ a=.pointer (some ⟨g,off,none⟩):=by exact rfl) (hs:bb P t=some n:=by exact rfl) (hx:cl (ρ x)=l:=by exact rfl) (hl:l.length=n:=by exact rfl) (hle:NK (off+n) cs.length=true:=by exact rfl) (h1:l.all MV=true:=by exact rfl) (hcs:bJ cs off l=cs':=by exact rfl) :
  ∃(v:Value) (T:Heap->Prop),(∃h',cZ P ρ { dst:=d,op:=.store t a x,type:=ty,pos:=pos,after:=af,guard:=gd } h=some (v,h')/\T h')/\∀h1,T h1->K v h1 :=
 O.store A ha hs hx hl (Mq hle) h1 hcs k
theorem Own.mkL{α:Type}{enc:α->Value}{t e:TypeId}{x y:Operand}{n:Nat}{W:Prop}{K:Value->Heap->Prop}(O:Own B h0 L h)(b s:Nat)(z:α)(hm:b*n<=2^48/\n<2^63/\W)
  (k:∀g h1,Own B h0 ((some g,.cells (ah ((List.replicate n z).map enc)) false)::L) h1->W->K (.slice (some ⟨g,0,none⟩) n n) h1)
  (hu:P.underlying t=some (.slice e):=by exact rfl) (hs:bb P e=some s:=by exact rfl) (hb:kH P e=some b:=by exact rfl) (hz:zeroOf P e=some (enc z):=by exact rfl) (hz1:(enc z).cells.size=s:=by exact rfl) (hpos:NK 1 s=true:=by exact rfl) (hp:(enc z).cells.all aR=true:=by kernel_rfl)
  (hx:ρ x=.int .i64 (LQ n):=by exact rfl) (hy:ρ y=.int .i64 (LQ n):=by exact rfl) :
  NewG P ρ { dst:=d,op:=.makeSlice t x y,type:=ty,pos:=pos,after:=af,guard:=gd } h K :=
 O.KU hu hs hb hz hz1 (Mq hpos) hp hx hy hm.1 hm.2.1 λg h1 O=>k g h1 O hm.2.2
theorem Own.apL{α:Type}{enc:α->Value}{l new:List α}{ts tx te:TypeId}{dx:TypeDesc}{x y:Operand}{b:Nat}{a:Option Nat}{z:Value}{W:Prop}{f:Slot->List Slot}{K:Value->Heap->Prop}(O:Own B h0 L h)(s:Nat)(A:At (a,.cells (ah (l.map enc)) false) L f)(ha:a=none->l=[])
  (hm:(l.length+new.length)*b<=2^47/\W)
  (k:∀a' h1,(a'=none->l++new=[])->Own B h0 (f (a',.cells (ah ((l++new).map enc)) false)) h1->W->K (ak s a' ((l++new).map enc)) h1)
  (hts:P.underlying ts=some (.slice te):=by exact rfl) (htx:P.underlying tx=some dx:=by exact rfl) (hni:fh dx=true:=by exact rfl) (hs:bb P te=some s:=by exact rfl) (hb:kH P te=some b:=by exact rfl) (hz:zeroOf P te=some z:=by exact rfl) (hzs:z.cells.size=s:=by exact rfl)
  (hx:ρ x=ak s a (l.map enc):=by exact rfl) (hy:ρ y=FL s (new.map enc):=by exact rfl) (hsz:∀x:α,(cl (enc x)).length=s:=by exact λ_=>rfl) (hone:∀x:α,(cl (enc x)).all MV=true:=by exact λ_=>rfl) (hb0:NK 1 b=true:=by exact rfl) :
  ∃(v:Value) (T:Heap->Prop),(∃h',cZ P ρ { dst:=d,op:=.call { callee:=.builtin .append,args := #[x,y],argTypes := #[ts,tx] },type:=ty,pos:=pos,after:=af,guard:=gd } h=some (v,h')/\T h')/\∀h1,T h1->K v h1 :=
 O.fb A ha hts htx hni hs hb hz hzs hx (YOk.fl hy) hsz hone (Mq hb0) hm.1 λa' h1 q O=>k a' h1 q O hm.2
theorem Own.apS{α:Type}{enc:α->Value}{l new:List α}{ts tx te:TypeId}{dx:TypeDesc}{x y:Operand}{b g n:Nat}{sp:Bool}{z:Value}{W:Prop}{f:Slot->List Slot}{K:Value->Heap->Prop}(O:Own B h0 L h)(s:Nat)(A:At (some g,.cells (ah (l.map enc)) false) L f)(hn:n=(l.map enc).length)
  (hm:(l.length+new.length)*b<=2^47/\W)
  (k:∀g' sp' h1,Own B h0 (f (some g',.cells (ah ((l++new).map enc)) false)) h1->W->K (oI s sp' g' ((l++new).map enc).length) h1)
  (hts:P.underlying ts=some (.slice te):=by exact rfl) (htx:P.underlying tx=some dx:=by exact rfl) (hni:fh dx=true:=by exact rfl) (hs:bb P te=some s:=by exact rfl) (hb:kH P te=some b:=by exact rfl) (hz:zeroOf P te=some z:=by exact rfl) (hzs:z.cells.size=s:=by exact rfl)
  (hx:ρ x=oI s sp g n:=by exact rfl) (hy:ρ y=FL s (new.map enc):=by exact rfl) (hsz:∀x:α,(cl (enc x)).length=s:=by exact λ_=>rfl) (hone:∀x:α,(cl (enc x)).all MV=true:=by exact λ_=>rfl) (hb0:NK 1 b=true:=by exact rfl) :
  ∃(v:Value) (T:Heap->Prop),(∃h',cZ P ρ { dst:=d,op:=.call { callee:=.builtin .append,args := #[x,y],argTypes := #[ts,tx] },type:=ty,pos:=pos,after:=af,guard:=gd } h=some (v,h')/\T h')/\∀h1,T h1->K v h1 :=
 O.Iq A hts htx hni hs hb hz hzs hx hn (YOk.fl hy) hsz hone (Mq hb0) hm.1 λg' sp' h1 O=>k g' sp' h1 O hm.2
end
def keep(e:Env)(ks:List Nat):List (Nat×Value):=ks.map λk=>(k,e.get k)
def xe(e:Env):List Nat->(List (Nat×Value)->Prop)->Prop
 |[],K=>K []
 |k::r,K=>xo (e.get k) λv=>xe e r λl=>K ((k,v)::l)
theorem mH{e:Env}:∀{ks:List Nat}{K:List (Nat×Value)->Prop},xe e ks K↔K (keep e ks)
 |[],_=>O4
 |k::r,K=>by
  unfold xe;rw[nA,mH];exact O4
section
variable {P:Program} {N:Nat}
theorem jx{σ:Type}{A B C:σ->Prop}(s:σ)(hm:A s)(i:B s)(hh:C s:=by (repeat(first|exact trivial|refine⟨VLe.refl _ _,?_⟩))):∃s,A s/\B s/\C s:=⟨s,hm,i,hh⟩
theorem lw(nn:Nat)(ks:List Nat){S σ:Type}(π:σ->S){body:S->(S->Prop)->Prop}(I:σ->Heap->Prop)(env:σ->List (Nat×Value)){c:Code}{e:Env}{h:Heap}{K:X->Env->Heap->Prop}
  (s0:σ) (hm:aF body (π s0)) (start:I s0 h)
  (round:∀s next base h,body (π s) next->I s h->xe e ks λl=>eI (dJ (l++env s)) λt=>CodeS P N c ⟨nn,t,base⟩ h λx e1 h1=>match x with
   |.normal=>∃s',next (π s')/\I s' h1/\gG h1 (keep e ks++env s') e1
   |.exit id=>K (.exit id) e1 h1
   |.ret=>K .ret e1 h1)
  (hs:gG h (keep e ks++env s0) e:=by (repeat(first|exact trivial|refine⟨VLe.refl _ _,?_⟩)))
  (hn:e.n=nn:=by exact rfl) (hM:P.follows .mixedOrders=true:=by exact hM) (hok:codeOk N nn c=true:=by kernel_rfl):vY P N c e h K :=
 J5 hM hok π I (λs=>keep e ks++env s) hn s0 hm start hs λs next base h a b=>mH.1 (round s next base h a b)
theorem jn{a b:Code}{α σ:Type}{first:(α->Prop)->Prop}{rest:α->Prop}(hm:aw first rest)(nn:Nat)(ks:List Nat)(π:σ->α)(I:σ->Heap->Prop)(env:σ->List (Nat×Value)){e:Env}{h:Heap}{K:X->Env->Heap->Prop}
  (hfirst:first rest->CodeS P N a e h λx e1 h1=>match x with
   |.normal=>∃s,rest (π s)/\I s h1/\gG h1 (keep e ks++env s) e1
   |.exit id=>K (.exit id) e1 h1
   |.ret=>K .ret e1 h1)
  (hrest:∀s base h1,rest (π s)->I s h1->xe e ks λl=>eI (dJ (l++env s)) λt=>CodeS P N b ⟨nn,t,base⟩ h1 K) (hn:e.n=nn:=by exact rfl):CodeS P N (.seq a b) e h K :=
 CodeS.Kj hm π I (λs=>keep e ks++env s) hn hfirst λs base h1 x y=>mH.1 (hrest s base h1 x y)
end
theorem gH{A B:Prop}(a:A)(h:A->B:=by intro h;(conv=>whnf);(repeat((first|apply Hs|apply Hx|apply Hf|apply Hk | (refine rd ?_) | (refine⟨.inl rfl,?_⟩) | (refine lm ?_) | (refine ll ?_) | (refine lg ?_) | (refine ls ?_) | (refine ldO O.i0 ?_) | (refine ldO O.i1 ?_) | (refine ldO O.i2 ?_) | (refine⟨rfl,?_⟩) | (refine tS rfl rfl ?_));(conv=>whnf)));exact h):B:=h a
theorem gX{A B:Prop}(a:A)(h:A->B:=by intro h;(conv=>whnf);(repeat((first|apply Cs|apply Hs|apply Hx|apply Hf|apply Hk | (refine rd ?_) | (refine⟨.inl rfl,?_⟩) | (refine lm ?_) | (refine ll ?_) | (refine lg ?_) | (refine ls ?_) | (refine ldO O.i0 ?_) | (refine ldO O.i1 ?_) | (refine ldO O.i2 ?_) | (refine⟨rfl,?_⟩) | (refine tS rfl rfl ?_));(conv=>whnf)));exact h):B:=h a
section
variable {P:Program} {N:Nat} {ρ:Operand->Value} {d:Option Tmp} {ty:TypeId} {pos:String} {af:Array Edge} {gd:Option (Nat×Bool)} {h:Heap} {α:Type} {s:Nat} {enc:α->Value} {l:List α}
end
section
variable {P:Program} {N:Nat} {B:List AObj} {h0 h:Heap} {L:List Slot}
theorem Own.Lt{s:Slot}{h1:Heap}(O1:Own B h [s] h1)(O:Own B h0 L h):Own B h0 (s::L) h1:=by
 refine⟨O.base,O.ext.trans O1.ext,λg o m=>?_,MU.2 ⟨λq m g e e'=>?_,O.apart⟩⟩
 .rcases MF.1 m with m|m
  .have:=O1.get g o (m ▸ .head _);exact⟨Mf O.ext.1 this.1,this.2⟩
  .have:=O.get g o m;exact⟨this.1,O1.ext.get this.2⟩
 .obtain⟨q1,q2⟩:=q;obtain⟨s1,s2⟩:=s;simp only at e e';subst e e';have k1:=(O1.get g s2 (.head _)).1;have k2:=Heap.ai (O.get g q2 m).2;omega
def mz(B:List AObj)(h0:Heap){R α:Type}(K:R->Prop)(val:R->Option Nat->Value)(pr:R->List α)(enc:α->Value)(nn:Bool)(v:Value)(h':Heap):Prop :=
 ∃(r:R) (a:Option Nat),K r/\VLe h' v (val r a)/\(a=none->pr r=[])/\(nn=true->pr r=[]->a=none)/\Own B h0 [(a,.cells (ah ((pr r).map enc)) false)] h'
theorem al.Jr{f:FuncId}{vs:Array Value}{v v2:Value}{h':Heap}(c:al P N f vs h v h')(le:VLe h' v v2):al P N f vs h v2 h':=by
 refine⟨c.1,λι w vs' H ra=>?_⟩
 rcases c.2 ι w vs' H ra with⟨ok,hc⟩|⟨v',e1,e2,e3⟩
 .exact .inl ⟨ok,hc.mono λe' w' ⟨ι',v',q1,q2,q3,q4⟩=>⟨ι',v',q1,le _ _ _ _ q3 q2,q3,q4⟩⟩
 .subst e3;exact .inr ⟨v',e1,le _ _ _ _ H e2,rfl⟩
theorem VLe.of_eq{h:Heap}{v v':Value}(e:v=v'):VLe h v v':=e ▸ VLe.refl h v
theorem Own.Jg{α:Type}{enc:α->Value}{l:List α}{s n g:Nat}{sp ro:Bool}(O:Own B h0 L h)(m:(some g,.cells (ah (l.map enc)) ro)∈L)(hs:∀x:α,(cl (enc x)).length=s)(hn:n=(l.map enc).length)(hpos:0<l.length):VLe h (oI s sp g n) (ak s (some g) (l.map enc)):=by
 cases sp with
 |true=>subst hn;exact VLe.refl _ _
 |false=>exact O.C3 m hs (by rw[hn,LZ]) hpos
variable {R α:Type} {K:R->Prop} {val:R->Option Nat->Value} {pr:R->List α} {enc:α->Value} {nn:Bool}
theorem caO{f:FuncId}{vs:Array Value}{Q:Value->Heap->Prop}(c:∃v h',al P N f vs h v h'/\mz B h K val pr enc nn v h')(O:Own B h0 L h)
  (k:∀r a h1,Ext h h1->(a=none->pr r=[])->(nn=true->pr r=[]->a=none)->Own B h0 ((a,.cells (ah ((pr r).map enc)) false)::L) h1->K r->Q (val r a) h1):∃v h',al P N f vs h v h'/\Q v h':=by
 obtain⟨v,h',c,r,a,hK,le,h1,h2,O1⟩:=c;exact⟨_,_,c.Jr le,k r a h' O1.ext h1 h2 (O1.Lt O) hK⟩
theorem J8{f:FuncId}{vs:Array Value}(c:∃v h',al P N f vs h v h'/\mz B h K val pr enc nn v h')(fok:lp P f=true){encR:R->Value}(hp:∀r,aq (encR r))
  (hle:∀r a h1 h2,Own B h [(a,.cells (ah ((pr r).map enc)) false)] h1->Frozen h.size h1 h2->(a=none->pr r=[])->(nn=true->pr r=[]->a=none)->VLe h2 (val r a) (encR r)):∃r,K r/\al P N f vs h (encR r) h:=by
 obtain⟨v,h',c,r,a,hK,le,h1,h2,O1⟩:=c;exact⟨r,hK,(c.Jr le).values O1.ext (hp r) (λh3 F=>hle r a h' h3 O1 F h1 h2) fok⟩
theorem Jz{g n:Nat}{l:List α}(hn:n=l.length):Value.slice (some ⟨g,0,none⟩) n n=ib (some g) (l.map enc):=by
 subst hn;simp[ib]
theorem IV{l:List α}{g:Nat}{b:Bool}(hp:0<l.length):b=true->l=[]->some g=none:=λ_ e=>by subst e;exact absurd hp (Ot 0)
def LO(P:Program)(N:Nat)(c:Code)(e:Env)(h:Heap)(K:X->Env->Heap->Prop):Prop:=∃n x e1 h1,jJ P N c n e h (X.bN x) e1 h1/\K x e1 h1
end
end Go.Abs
namespace Go.Abs
section
variable {P:Program} {N:Nat} {B:List AObj} {h0 h:Heap} {L:List Slot}
theorem Own.Lx{f:FuncId}{l l':List Value}{K:Value->Heap->Prop}(O:Own B h0 L h){g:Nat}{cs:List Value}{ro:Bool}{fL:Slot->List Slot}(A:At (some g,.cells cs ro) L fL){i off n cap:Nat}{sp:Option Nat}
  (hi:l'[i]?=some (.slice (some ⟨g,off,sp⟩) n cap)) (fok:lp P f=true) (a:∀h2,h2.get g=some (.cells cs true)->LLe h2 l' l) (F:∀h2,Own B h0 (fL (some g,.cells cs true)) h2->∃v h',al P N f ⟨l⟩ h2 v h'/\K v h') :
  ∃v h',al P N f ⟨l'⟩ h v h'/\K v h':=by
 have hg:=O.at A.mem;have u:=Upd.upd (.cells cs true) (Heap.ai hg);have O1:=O.upd A u;obtain⟨v,h',c,hk⟩:=F _ O1;refine⟨v,h',⟨by have:=c.1;rw[u.size] at this;exact this,λι w vs' H ra=>?_⟩,hk⟩
 have hmap:∃l0,ι g=some l0:=by
  have:=ra.2 i;rw[<- fE] at this;simp only[List.getD,hi,NI] at this;generalize vs'.getD i undef=y at this
  cases this with
  |slice _ _ _ _ _ l0 q=>exact⟨l0,q⟩
  |sliceOpen _ _ _ _ _ _ _ l0 q=>exact⟨l0,q⟩
 obtain⟨l0,hl0⟩:=hmap;obtain⟨ι2,H2,S2⟩:=jQ H hl0 hg;have ra2:bB ι2 ⟨l⟩ vs':=(a _ u.get).E6 H2 (ra.mono S2.ext)
 rcases c.2 ι2 w vs' H2 ra2 with⟨ok,hc⟩|⟨v',e1,e2,_⟩
 .refine .inl ⟨ok,hc.mono λe' w' q=>?_⟩;obtain⟨ι',v',rfl,r',H',S⟩:=q;exact⟨ι',v',rfl,r',H',S2.trans S⟩
 .exfalso;have:=fj (w:=w) fok vs';rw[this] at e1
  cases e1
theorem Own.KB{α:Type}{enc':α->Value}{la:List α}{s g n cap:Nat}{sp:Option Nat}{f:FuncId}{l l':List Value}{K:Value->Heap->Prop}(O:Own B h0 L h){ro:Bool}{fL:Slot->List Slot}(A:At (some g,.cells (ah (la.map enc')) ro) L fL)(hn:n=la.length)(hs:∀x:α,(cl (enc' x)).length=s){i:Nat}
  (hi:l'[i]?=some (.slice (some ⟨g,0,sp⟩) n cap)) (fok:lp P f=true) (le:∀h2,VLe h2 (.slice (some ⟨g,0,sp⟩) n cap) (ae s enc' la)->LLe h2 l' l) (F:∀h2,Own B h0 (fL (some g,.cells (ah (la.map enc')) true)) h2->∃v h',al P N f ⟨l⟩ h2 v h'/\K v h') :
  ∃v h',al P N f ⟨l'⟩ h v h'/\K v h':=by
 refine O.Lx A hi fok (λh2 hg=>le h2 ?_) F;refine VLe.fl hg (by rw[LZ];exact hn) (bE hs la) (by rw[bn hs,hn];omega) ?_;rw[M0,hn,<- LZ (f:=enc'),<- bD (bE hs la),Ng];exact LLe.refl _ _
end
section
variable {α:Type} {enc:α->Value} {s:Nat} {l:List α} {j:Nat} {x:α}
end
section
variable {P:Program} {ρ:Operand->Value} {d:Option Tmp} {ty:TypeId} {pos:String} {af:Array Edge} {gd:Option (Nat×Bool)} {h:Heap}
end
section
variable {P:Program} {N:Nat} {ρ:Operand->Value} {d:Option Tmp} {ty:TypeId} {pos:String} {af:Array Edge} {gd:Option (Nat×Bool)} {h:Heap} {α:Type} {s:Nat} {enc:α->Value} {l:List α}
end
structure ValOk {R:Type} (val:R->Option Nat->Value):Prop where
 ren:∀r (ι ι':Inj) g g' l v',ι g=some l->ι' g'=some l->VRel ι (val r (some g)) v'->VRel ι' (val r (some g')) v'
 none:∀r (ι ι':Inj) v',VRel ι (val r none) v'->VRel ι' (val r none) v'
 at_:∀r (ι:Inj) g v',VRel ι (val r (some g)) v'->∃l,ι g=some l
section
variable {P:Program} {N:Nat} {B:List AObj} {h0 h:Heap} {L:List Slot}
end
section
variable {P:Program} {ρ:Operand->Value} {d:Option Tmp} {ty:TypeId} {pos:String} {af:Array Edge} {gd:Option (Nat×Bool)}
end
end Go.Abs
