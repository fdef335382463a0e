/-
  SoP, N2, P1, Orz, Sub, SrtP, Cmp, W2, All, P2, P3, P4, P5, F1, M1, P6: parts of the proof.
-/
import Derived.Test.YtgiedjgdlckahaaGreatDoorTk44
namespace Go.Proofs.YtgiedjgdlckahaaGreatDoor
open Go.Abs
set_option maxRecDepth 100000
def HL:Go.Shelf.Ren where
 f n:=match n with
  |6=>153
  |14=>207
  |15=>208
  |20=>237
  |21=>238
  |22=>239
  |23=>240
  |24=>241
  |25=>242
  |26=>243
  |27=>244
  |28=>245
  |29=>246
  |46=>270
  |47=>271
  |48=>272
  |49=>273
  |50=>274
  |57=>282
  |n=>n
 t n:=match n with
  |0=>0
  |3=>3
  |4=>4
  |5=>5
  |22=>175
  |24=>177
  |25=>256
  |39=>40
  |45=>324
  |46=>325
  |50=>249
  |53=>331
  |55=>28
  |66=>345
  |70=>349
  |76=>356
  |77=>89
  |n=>n
 g n:=n
theorem JE:Go.Proofs.SlLaysF0.n6 Tryz.prog HL where
 mixed:=by kernel_rfl
 f6:=⟨Tryz.f153.name,by kernel_rfl,by kernel_rfl⟩
 f14:=⟨Tryz.f207.name,by kernel_rfl,by kernel_rfl⟩
 f15:=by kernel_rfl
 f20:=⟨Tryz.f237.name,by kernel_rfl,by kernel_rfl⟩
 f21:=⟨Tryz.f238.name,by kernel_rfl,by kernel_rfl⟩
 f22:=⟨Tryz.f239.name,by kernel_rfl,by kernel_rfl⟩
 f23:=⟨Tryz.f240.name,by kernel_rfl,by kernel_rfl⟩
 f24:=⟨Tryz.f241.name,by kernel_rfl,by kernel_rfl⟩
 f25:=⟨Tryz.f242.name,by kernel_rfl,by kernel_rfl⟩
 f26:=⟨Tryz.f243.name,by kernel_rfl,by kernel_rfl⟩
 f27:=⟨Tryz.f244.name,by kernel_rfl,by kernel_rfl⟩
 f28:=by kernel_rfl
 f29:=by kernel_rfl
 f46:=⟨Tryz.f270.name,by kernel_rfl,by kernel_rfl⟩
 f47:=by kernel_rfl
 f48:=by kernel_rfl
 f49:=⟨Tryz.f273.name,by kernel_rfl,by kernel_rfl⟩
 f50:=⟨Tryz.f274.name,by kernel_rfl,by kernel_rfl⟩
 f57:=⟨Tryz.f282.name,by kernel_rfl,by kernel_rfl⟩
 t0:=by kernel_rfl
 a0:=fun w=>by kernel_rfl
 z0:=fun w=>by kernel_rfl
 v0:=fun w=>by kernel_rfl
 t3:=by kernel_rfl
 a3:=fun w=>by kernel_rfl
 z3:=fun w=>by kernel_rfl
 v3:=fun w=>by kernel_rfl
 t4:=by kernel_rfl
 a4:=fun w=>by kernel_rfl
 z4:=fun w=>by kernel_rfl
 v4:=fun w=>by kernel_rfl
 t5:=by kernel_rfl
 a5:=fun w=>by kernel_rfl
 z5:=fun w=>by kernel_rfl
 v5:=fun w=>by kernel_rfl
 t9:=by kernel_rfl
 a9:=fun w=>by kernel_rfl
 z9:=fun w=>by kernel_rfl
 v9:=fun w=>by kernel_rfl
 t22:=by kernel_rfl
 a22:=fun w=>by kernel_rfl
 z22:=fun w=>by kernel_rfl
 v22:=fun w=>by kernel_rfl
 t25:=by kernel_rfl
 a25:=fun w=>by kernel_rfl
 z25:=fun w=>by kernel_rfl
 v25:=fun w=>by kernel_rfl
 t39:=by kernel_rfl
 a39:=fun w=>by kernel_rfl
 z39:=fun w=>by kernel_rfl
 v39:=fun w=>by kernel_rfl
 t45:=by kernel_rfl
 a45:=fun w=>by kernel_rfl
 z45:=fun w=>by kernel_rfl
 v45:=fun w=>by kernel_rfl
 t46:=by kernel_rfl
 a46:=fun w=>by kernel_rfl
 z46:=fun w=>by kernel_rfl
 v46:=fun w=>by kernel_rfl
 t50:=by kernel_rfl
 a50:=fun w=>by kernel_rfl
 z50:=fun w=>by kernel_rfl
 v50:=fun w=>by kernel_rfl
 t53:=by kernel_rfl
 a53:=fun w=>by kernel_rfl
 z53:=fun w=>by kernel_rfl
 v53:=fun w=>by kernel_rfl
 t55:=by kernel_rfl
 a55:=fun w=>by kernel_rfl
 z55:=fun w=>by kernel_rfl
 v55:=fun w=>by kernel_rfl
 t66:=by kernel_rfl
 a66:=fun w=>by kernel_rfl
 z66:=fun w=>by kernel_rfl
 v66:=fun w=>by kernel_rfl
 t70:=by kernel_rfl
 a70:=fun w=>by kernel_rfl
 z70:=fun w=>by kernel_rfl
 v70:=fun w=>by kernel_rfl
 t76:=by kernel_rfl
 a76:=fun w=>by kernel_rfl
 z76:=fun w=>by kernel_rfl
 v76:=fun w=>by kernel_rfl
 t77:=by kernel_rfl
 a77:=fun w=>by kernel_rfl
 z77:=fun w=>by kernel_rfl
 v77:=fun w=>by kernel_rfl
theorem Hn:∀ w,(isAgg (HL.t 24)).run Tryz.prog w=.ok true w:=fun w=>by kernel_rfl
theorem G6:∀ w,(Go.sizeOf (HL.t 24)).run Tryz.prog w=.ok 2 w:=fun w=>by kernel_rfl
set_option maxHeartbeats 8000000
def ep (p0:(List Int)) (K:Int->Prop):Prop :=
 an (α:=Unit) (fun k1=>aF (S:=Nat) (fun v2 nx3=>((ltN v2 p0.length)=true->∃ x4,p0[v2]?=some x4/\((neZ x4 (Int.ofNat 0))=true->K x4)/\((neZ x4 (Int.ofNat 0))=false->v2+1<2 ^ 63/\nx3 (v2+1)))/\((ltN v2 p0.length)=false->k1 ())) 0) (fun _=>K (Int.ofNat 0))
theorem qu {p0:(List Int)}{K:Int->Prop} (hm:ep p0 K) {h0:Heap} (hB:HasB vars h0):∃ r,K r/\CallD Tryz.prog NG 155 ⟨[(ah 1 z64) p0]⟩ h0 (z64 r) h0:=by
 unfold ep at hm
 refine fw Tryz.func155 hB (enc:=z64) (fun r=>PureV.flat rfl) fun O=>?_;conv=>whnf
 apply Cs;conv=>whnf
 apply Cs;refine gH ?_
 apply Cs;conv=>whnf
 apply Cs;refine gH ?_;refine jn hm 18 [3] (fun s=>s) (fun _ h=>Own vars h0 [] h) (fun _=>[]) (fun hm=>?_) ?_
 ·refine gX ?_;refine lw 18 [3,6,7] (σ:=Nat) (fun s=>s) (fun v2 h=>Own vars h0 [] h) (fun v2=>[(8,(i64 v2))]) 0 hm O ?_;clear hm;rintro v2 nx3 base h hm O;refine gX ?_;refine br hm (fun hm=>?_) fun hm=>?_
  ·refine gX ?_;refine atF hm fun x4 hx4 hm=>?_;refine gX ?_;refine br hm (fun hm=>?_) fun hm=>?_
   ·refine gX ?_;exact fe hm O
   ·refine gX ?_;refine aH hm fun hm=>?_;refine gH ?_;exact jx (v2+1) hm O
  ·refine gX ?_;exact jx () hm O
 ·clear hm;rintro _ base h hm O;refine gX ?_;exact fe hm O
def fH (p0:N2) (p1:N2) (K:Int->Prop):Prop :=
 -(2 ^ 63)<=((Int.ofNat p0.a)-(Int.ofNat p1.a))/\((Int.ofNat p0.a)-(Int.ofNat p1.a))<2 ^ 63 /\ -(2 ^ 63)<=((Int.ofNat p0.b)-(Int.ofNat p1.b))/\((Int.ofNat p0.b)-(Int.ofNat p1.b))<2 ^ 63/\ep ([((Int.ofNat p0.a)-(Int.ofNat p1.a)),((Int.ofNat p0.b)-(Int.ofNat p1.b))]:(List Int)) (fun r1=>K r1)
theorem mU {p0:N2}{p1:N2}{K:Int->Prop} (hm:fH p0 p1 K) {h0:Heap} (hB:HasB vars h0):∃ r,K r/\CallD Tryz.prog NG 154 ⟨[aM p0,aM p1]⟩ h0 (z64 r) h0:=by
 unfold fH at hm
 refine fw Tryz.func154 hB (enc:=z64) (fun r=>PureV.flat rfl) fun O=>?_;conv=>whnf
 refine gX ?_;refine fz ?_;refine gH ?_;refine fz ?_;refine gX ?_;refine nA rfl ?_;refine gH ?_;refine nA rfl ?_;refine gH ?_;refine⟨_,Fw (a:=(Int.ofNat p0.a)) (b:=(Int.ofNat p1.a)) rfl rfl hm.1 hm.2.1,?_⟩;refine gH ?_;replace hm:=hm.2.2;refine nA rfl ?_;refine gH ?_;refine nA rfl ?_;refine gH ?_;refine⟨_,Fw (a:=(Int.ofNat p0.b)) (b:=(Int.ofNat p1.b)) rfl rfl hm.1 hm.2.1,?_⟩;refine gH ?_;replace hm:=hm.2.2;refine fz ?_;refine gH ?_;refine ca (qu hm O.has) fun r1 hm=>?_;refine gX ?_;exact fe hm O
theorem aO {a b:Nat}:ltN a b=true↔a<b:=by rw[aY];simp
theorem bk {a b:Nat}:ltN a b=false↔b<=a:=by rw[aY];simp
theorem dA {a b:Nat}:eqN a b=true↔a=b:=by rw[kI];simp
theorem cY {a b:Nat}:eqN a b=false ↔ ¬ a=b:=by rw[kI];simp
theorem fx {a b:Nat}:neN a b=true ↔ ¬ a=b:=by rw[EZ];simp
theorem yC {a b:Nat}:neN a b=false↔a=b:=by rw[EZ];simp
theorem rN {a b:Nat}:(!ltN a b)=true↔b<=a:=by rw[aY];simp
theorem wh {a b:Nat}:(!ltN a b)=false↔a<b:=by rw[aY];simp
theorem kW {α:Type}{first:(α->Prop)->Prop}{rest:α->Prop} (h:first rest):an first rest:=h
theorem av {α:Type}{l:List α}{i:Nat} (h:i<l.length):∃ x,l[i]?=some x:=⟨l[i],List.getElem?_eq_getElem h⟩
theorem fT {α:Type}{l:List α}{body:(Unit->Prop)->Nat->(Nat->Prop)->Prop}{rest:Unit->Prop}
  (step:∀ k i nx x,l[i]?=some x->i+1<=l.length->nx (i+1)->body k i nx)
  (fin:∀ k i nx,l.length<=i->k ()->body k i nx) (h:rest ()):an (fun k=>aF (fun i nx=>body k i nx) 0) rest:=by
 refine aA (fun i=>i<=l.length) (fun i=>l.length-i) (fun _=>True) ?_ (Nat.zero_le _) (fun _ _=>h);intro k i nx hi hn hk;by_cases c:i<l.length
 ·obtain⟨x,hx⟩:=av c;exact step k i nx x hx c (hn (i+1) c (by omega))
 ·exact fin k i nx (by omega) (hk () trivial)
def lu (v:Nat):Nat:=if v<=1 then 1-v else 2
def cV (low high:Nat):List Nat->Nat->Nat
 |[],out=>out
 |v::r,out=>if v=low then low else cV low high r (if v=high then out else 2)
def lN:List Nat->Nat->Nat
 |[],o=>o
 |v::r,o=>if v<=1 then lN r (o ^^^ v) else 2
def tX (s a b:Nat):Nat:=if s=0 then min a 2 else if s=1 then min b 2 else if a=b then min a 2 else 2
def zd (k:Nat) (l:List Nat):Nat :=
 if k=1 then 0 else if k=2 then 1 else if k=3 then min (l.getD 0 0) 2 else if k=4 then lu (l.getD 0 0)
 else if k=5 then cV 0 1 l 1 else if k=6 then lu (cV 0 1 l 1) else if k=7 then cV 1 0 l 0 else if k=8 then lu (cV 1 0 l 0)
 else if k=9 then lN l 0 else if k=10 then lu (lN l 0) else if k=11 then tX (l.getD 0 0) (l.getD 1 0) (l.getD 2 0) else 2
theorem qB {α:Type}{l:List α}{i:Nat}{x:α} (h:l[i]?=some x):l.drop i=x::l.drop (i+1):=by
 obtain⟨h1,rfl⟩:=List.getElem?_eq_some_iff.1 h;exact List.drop_eq_getElem_cons h1
def Arity (k n:Nat):Prop:=loN k<=n/\(Int.ofNat n<=hiZ k)
instance (k n:Nat):Decidable (Arity k n):=by unfold Arity;exact inferInstance
theorem sn {a b:Int}:ltI a b=false↔b<=a:=by rw[cX];simp
theorem BX {a b:Int}:ltI a b=true↔a<b:=by rw[cX];simp
theorem yT {k:Nat}{K:Nat×Int->Prop} (hk:k<256) (h:K (loN k,hiZ k)):gV k K:=⟨hk,h⟩
theorem xc {n:Nat} (h:Arity 3 n):n=1:=by
 obtain⟨h1,h2⟩:=h
 have e1:loN 3=1:=by decide
 have e2:hiZ 3=1:=by decide
 rw[e1] at h1;rw[e2] at h2;simp only[Int.ofNat_eq_natCast] at h2;omega
theorem wC {n:Nat} (h:Arity 4 n):n=1:=by
 obtain⟨h1,h2⟩:=h
 have e1:loN 4=1:=by decide
 have e2:hiZ 4=1:=by decide
 rw[e1] at h1;rw[e2] at h2;simp only[Int.ofNat_eq_natCast] at h2;omega
theorem getD_some {l:List Nat}{i:Nat} (h:i<l.length):l[i]?=some (l.getD i 0):=by
 rw[List.getD,List.getElem?_eq_getElem h];rfl
def orZ (a b:Int):Int:=if a≠0 then a else b
theorem JU {a b:Int}:neZ a b=true↔a≠b:=by rw[EK];simp
theorem Ia {a b:Int}:neZ a b=false↔a=b:=by rw[EK];simp
theorem Jm {a b:Int}{K:Int->Prop} (h:K (orZ a b)):ep [a,b] K:=by
 unfold ep;refine (show aF _ _ from⟨3,?_⟩);unfold orZ at h;refine⟨fun _=>⟨a,rfl,fun q=>?_,fun q=>⟨by decide,?_⟩⟩,fun q=>absurd (bk.1 q) (by simp)⟩
 ·rw[if_pos (show a≠0 from JU.1 q)] at h;exact h
 rw[if_neg (fun e:a≠0=>e (Ia.1 q))] at h;refine⟨fun _=>⟨b,rfl,fun _=>h,fun q=>⟨by decide,?_⟩⟩,fun q=>absurd (bk.1 q) (by simp)⟩;have e:b=0:=Ia.1 q;subst e;exact⟨fun q=>absurd (aO.1 q) (by simp),fun _=>h⟩
theorem GP {a b:Int}:orZ a b<0↔a<0\/a=0/\b<0:=by
 unfold orZ
 split <;> omega
theorem Cf {α:Type}{p:α->Prop}{β:Type} (f:α->β):∀ (l:List α) (h:∀ x∈l,p x),l.map f=(l.attachWith p h).map fun x=>f x.1
 |[],_=>rfl
 |a::l,h=>by
  show f a::l.map f=_::_
  rw[Cf f l fun x m=>h x (List.mem_cons_of_mem _ m)];simp[List.attachWith]
def n2B (x:N2):Prop:=x.a<2 ^ 62/\x.b<2 ^ 62
def AX (x y:N2):Int:=orZ (Int.ofNat x.a-Int.ofNat y.a) (Int.ofNat x.b-Int.ofNat y.b)
def AM (x y:N2):Prop:=¬ AX y x<0
theorem EV {a b:N2} (ha:n2B a) (hb:n2B b) {K:Int->Prop} (h:K (AX a b)):fH a b K:=by
 obtain⟨a1,a2⟩:=ha;obtain⟨b1,b2⟩:=hb;exact⟨by simp only[Int.ofNat_eq_natCast];omega,by simp only[Int.ofNat_eq_natCast];omega,by simp only[Int.ofNat_eq_natCast];omega,by simp only[Int.ofNat_eq_natCast];omega,Jm h⟩
theorem qd {x y:N2}:AX x y<0↔x.a<y.a\/x.a=y.a/\x.b<y.b:=by
 unfold AX;rw[GP];simp only[Int.ofNat_eq_natCast];omega
theorem ET {x y:N2}:AM x y↔x.a<y.a\/x.a=y.a/\x.b<=y.b:=by
 unfold AM;rw[qd];omega
theorem JI:Go.Sort.SWO (Go.Proofs.ltOf fun x y:{x:N2 // n2B x}=>AX x.1 y.1) where
 irrefl x:=by unfold Go.Proofs.ltOf;rw[decide_eq_false_iff_not,qd];omega
 trans x y z:=by unfold Go.Proofs.ltOf;simp only[decide_eq_true_eq,qd];omega
 ntrans x y z:=by unfold Go.Proofs.ltOf;simp only[decide_eq_false_iff_not,qd];omega
theorem IE {h0 h:Heap}{L:List Slot}{la:List N2}{f:Slot->List Slot}{a:Option Nat} (O:Own vars h0 L h) (A:At (a,.cells (flatC (la.map aM)) false) L f) (ha:a=none->la=[]) (hsz:la.length<4611686018427387904) (hb:∀ x∈la,n2B x) :
  ∃ (l':List N2) (h':Heap),l'.Perm la/\l'.Pairwise AM/\CallD Tryz.prog NG 153 ⟨[ae 2 a (la.map aM),.func (.func 154) #[] #[]]⟩ h (.tuple #[]) h'/\Own vars h0 (f (a,.cells (flatC (l'.map aM)) false)) h':=by
 have inh:Inhabited {x:N2 // n2B x}:=⟨⟨⟨0,0⟩,by unfold n2B;decide⟩⟩;have e:=Cf aM la hb
 have e1:(la.attachWith n2B hb).map Subtype.val=la:=by simp
 rw[e] at A ⊢;obtain⟨l',h',p1,p2,p3,p4⟩:=O.JK (ρ:=HL) (k:=2) (bO:=fun x:{x:N2 // n2B x}=>[i64 x.1.a,i64 x.1.b]) (enc:=fun x:{x:N2 // n2B x}=>aM x.1) (cf:=fun x y=>AX x.1 y.1) JE Hn G6 (fun _=>rfl) (fun _=>rfl)
  (fun x v m=>by simp only[List.mem_cons,List.not_mem_nil,or_false] at m;rcases m with rfl|rfl <;> rfl) (fun x v m=>by simp only[List.mem_cons,List.not_mem_nil,or_false] at m;rcases m with rfl|rfl <;> rfl)
  JI (by kernel_rfl) (Go.Proofs.enters_of Tryz.func154 (by kernel_rfl) rfl) Iy
  (fun x y h2 hb=>by obtain⟨r,rfl,c⟩:=mU (p0:=x.1) (p1:=y.1) (K:=fun r=>r=AX x.1 y.1) (EV x.2 y.2 rfl) hb;exact c) A (fun q=>by have:=ha q;subst this;rfl) (by rw[List.length_attachWith];exact hsz)
 refine⟨l'.map Subtype.val,h',?_,?_,p3,?_⟩
 ·have:=p1.map Subtype.val;rw[e1] at this;exact this
 ·exact List.pairwise_map.2 p2
 ·rw[List.map_map];exact p4
set_option maxHeartbeats 8000000
def jC (acc:List N2) (x:N2):List N2:=if acc.getLast?=some x then acc else acc++[x]
def fh (l:List N2):List N2:=l.foldl jC []
theorem qD (l:List N2) (x:N2):fh (l++[x])=jC (fh l) x:=by unfold fh;rw[List.foldl_append];rfl
theorem CL (l:List N2):(fh l).getLast?=l.getLast?:=by
 rcases List.eq_nil_or_concat l with rfl|⟨p,x,rfl⟩
 ·rfl
 ·rw[List.concat_eq_append,qD,List.getLast?_concat];unfold jC;split
  ·assumption
  ·exact List.getLast?_concat
theorem zl (l:List N2):(fh l).length<=l.length:=by
 have key:∀ (l acc:List N2),(l.foldl jC acc).length<=acc.length+l.length:=by
  intro l
  induction l with
  |nil=>intro acc;exact Nat.le_refl _
  |cons x l ih =>
   intro acc;rw[List.foldl_cons];have:=ih (jC acc x)
   have h2:(jC acc x).length<=acc.length+1:=by
    unfold jC;split
    ·omega
    ·rw[List.length_append];exact Nat.le_refl _
   rw[List.length_cons];omega
 have:=key l [];rw[List.length_nil,Nat.zero_add] at this;exact this
theorem nR {l:List N2}{i:Nat}{x y:N2} (hx:l[i]?=some x) (hy:l[i-1]?=some y) (hi:0<i):fh (l.take (i+1))=if y=x then fh (l.take i) else fh (l.take i)++[x]:=by
 obtain⟨h1,rfl⟩:=List.getElem?_eq_some_iff.1 hx;rw[List.take_succ_eq_append_getElem h1,qD];unfold jC;rw[CL]
 have:(l.take i).getLast?=some y:=by
  rw[List.getLast?_eq_getElem?,List.length_take,Nat.min_eq_left (by omega),List.getElem?_take,if_pos (by omega),hy]
 rw[this];by_cases c:y=l[i]
 ·rw[if_pos (by rw[c]),if_pos c]
 ·rw[if_neg (fun q=>c (Option.some.inj q)),if_neg c]
theorem FT {l:List N2}{i:Nat}{x:N2} (h:l[i]?=some x):l.take (i+1)=l.take i++[x]:=by
 obtain⟨h1,rfl⟩:=List.getElem?_eq_some_iff.1 h;exact List.take_succ_eq_append_getElem h1
theorem BN (x y:N2):(eqN x.a y.a&&(eqN x.b y.b&&true))=decide (x=y):=by
 rw[kI,kI];obtain⟨a,b⟩:=x;obtain⟨c,d⟩:=y;simp[N2.mk.injEq]
theorem tM {l:List N2}{a:Option Nat}{L:List Slot} (ha:a=none->l=[]) (hl:l.length<2 ^ 60) {h0 h:Heap} (O:Own vars h0 ((a,.cells (flatC (l.map aM)) false)::L) h) :
  ∃ v h',CallD Tryz.prog NG 157 ⟨[ae 2 a (l.map aM)]⟩ h v h'/\v=lZ 2 a (fh l).length l.length/\∃ z,Own vars h0 ((a,.cells (flatC ((fh l++z).map aM)) false)::L) h':=by
 refine fg Tryz.func157 (Q:=fun v h'=>v=lZ 2 a (fh l).length l.length/\∃ z,Own vars h0 ((a,.cells (flatC ((fh l++z).map aM)) false)::L) h') ?_;conv=>whnf
 have hgl:(l.map aM).length=l.length:=List.length_map ..
 have fin:fh l=l->(ae 2 a (l.map aM)=lZ 2 a (fh l).length l.length/\∃ z,Own vars h0 ((a,.cells (flatC ((fh l++z).map aM)) false)::L) h):=by
  intro e;rw[e];refine⟨?_,[],by rw[List.append_nil];exact O⟩;unfold ae lZ;rw[hgl]
 refine gX ?_;refine br (b:=ltN l.length 2) ⟨id,id⟩ (fun hlt=>?_) fun hge=>?_
 ·refine gX ?_;refine fin ?_;rw[aY] at hlt;simp at hlt
  match l,hlt with
  |[],_=>rfl
  |[x],_=>rfl
 ·rw[aY] at hge;simp at hge
  obtain⟨g,rfl⟩:∃ g,a=some g:=by
   cases a with
   |none=>have:=ha rfl;rw[this] at hge;simp at hge
   |some g=>exact⟨g,rfl⟩
  clear fin ha
  conv=>whnf
  apply Cs;conv=>whnf
  refine jn (α:=Unit) (first:=fun k=>k ()) (rest:=fun _=>True) (σ:=Unit) trivial 61 [0] (fun s=>s) (fun _ h=>fh l=l/\Own vars h0 ((some g,.cells (flatC (l.map aM)) false)::L) h) (fun _=>[]) (fun _=>?_) ?_
  ·refine gX ?_;refine ib hM (nn:=61) (by kernel_rfl) (σ:=Nat) (fun k h=>1<=k/\k<=l.length/\fh (l.take k)=l.take k/\Own vars h0 ((some g,.cells (flatC (l.map aM)) false)::L) h)
    (fun k=>[(0,ae 2 (some g) (l.map aM)),(3,i64 k)]) (fun k=>l.length-k) rfl ⟨1,⟨Nat.le_refl _,by omega,?_,O⟩,rfl,rfl,trivial⟩ ?_
   ·match l,hge with
    |x::y::r,_=>rfl
   clear O h;rintro k base h ⟨hk1,hk,hc,O⟩;conv=>whnf
   refine gX ?_;refine br (b:=ltN k l.length) ⟨id,id⟩ (fun hlt=>?_) fun hge=>?_
   ·rw[aY] at hlt;simp at hlt;obtain⟨x,hx⟩:∃ x,l[k]?=some x:=⟨_,List.getElem?_eq_getElem hlt⟩;obtain⟨y,hy⟩:∃ y,l[k-1]?=some y:=⟨_,List.getElem?_eq_getElem (show k-1<l.length by omega)⟩
    have hk2:k<(l.map aM).length:=by rw[hgl];exact hlt
    have hk3:k-1<(l.map aM).length:=by rw[hgl];omega
    refine gX ?_;refine ix (W:=fun _=>True) (l:=l) (j:=k) 2 ⟨hk2,_,hx,trivial⟩ fun _ _ _=>?_;refine gH ?_;refine⟨_,aI (l:=cl (aM x)) rfl O.i0 rfl rfl (cW (enc:=aM) (s:=2) (k:=0) (fun _=>rfl) (ag hx) (Nat.le_refl _)) (bX (enc:=aM) (s:=2) (fun _=>rfl) hx),?_⟩;refine gH ?_;refine⟨.inr (.inl (by kernel_rfl)),?_⟩;refine gH ?_;refine nW (a:=k) (b:=1) (W:=True) ⟨hk1,by omega,trivial⟩ fun _=>?_;refine gH ?_;refine ix (W:=fun _=>True) (l:=l) (j:=k-1) 2 ⟨hk3,_,hy,trivial⟩ fun _ _ _=>?_;refine gH ?_;refine⟨_,aI (l:=cl (aM y)) rfl O.i0 rfl rfl (cW (enc:=aM) (s:=2) (k:=0) (fun _=>rfl) (ag hy) (Nat.le_refl _)) (bX (enc:=aM) (s:=2) (fun _=>rfl) hy),?_⟩;refine gH ?_;refine⟨.inr (.inl (by kernel_rfl)),?_⟩;refine gH ?_;refine⟨.bool (eqN x.a y.a&&(eqN x.b y.b&&true)),by kernel_rfl,?_⟩;refine gX ?_;refine br (b:=(eqN x.a y.a&&(eqN x.b y.b&&true))) ⟨id,id⟩ (fun he=>?_) fun he=>?_
    ·rw[BN,decide_eq_true_eq] at he;subst he;have LD:∀ {l':List N2} {j:Nat} {v:N2},l'[j]?=some v->(0+j*2)+2<=(flatC (l'.map aM)).length:=fun hv=>(cW (enc:=aM) (s:=2) (k:=0) (fun _=>rfl) (ag hv) (Nat.le_refl _))
     have hb1:k<=(l.map aM).length:=by rw[hgl];omega
     refine gX ?_;refine qb k hb1 ?_;refine gH ?_
     conv=>whnf
     refine jn (α:=Unit) (first:=fun k=>k ()) (rest:=fun _=>True) (σ:=List N2×Nat) trivial 61 [0] (fun _=>()) (fun (l',k') h=>k'<=l.length/\l'.length=l.length/\l'.take k'=fh l/\Own vars h0 ((some g,.cells (flatC (l'.map aM)) false)::L) h) (fun (l',k')=>[(3,i64 k')]) (fun _=>?_) ?_
     ·refine gX ?_;refine ib hM (nn:=61) (by kernel_rfl) (σ:=List N2×Nat×Nat) (fun (l',k',m) h=>1<=m/\k+m<=l.length/\k'+1<=k+m/\1<=k'/\l'.length=l.length/\l'.take k'=fh (l.take (k+m))/\(∀ i,k+m-1<=i->l'[i]?=l[i]?)/\Own vars h0 ((some g,.cells (flatC (l'.map aM)) false)::L) h)
       (fun (l',k',m)=>[(0,ae 2 (some g) (l.map aM)),(3,i64 k'),(4,.slice (some ⟨g,0+k*2,some 2⟩) ((l.map aM).length-k) ((l.map aM).length-k)),(5,i64 m)]) (fun (_,_,m)=>l.length-(k+m)) rfl ⟨(l,k,1),⟨Nat.le_refl _,by omega,by omega,hk1,rfl,?_,fun _ _=>rfl,O⟩,rfl,rfl,rfl,rfl,trivial⟩ ?_
      ·rw[nR hx hy (by omega),if_pos rfl,hc]
      clear O h hc;rintro⟨l',k',m⟩ base h ⟨hm1,hkm,hk',hk'1,hl',hc,hsame,O⟩;conv=>whnf
      refine gX ?_;refine br (b:=ltN m ((l.map aM).length-k)) ⟨id,id⟩ (fun hlt2=>?_) fun hge2=>?_
      ·rw[aY,hgl] at hlt2;simp at hlt2;obtain⟨x2,hx2⟩:∃ v,l'[k+m]?=some v:=⟨_,List.getElem?_eq_getElem (by omega)⟩;obtain⟨y2,hy2⟩:∃ v,l'[k+(m-1)]?=some v:=⟨_,List.getElem?_eq_getElem (by omega)⟩;obtain⟨w2,hw2⟩:∃ v,l'[k']?=some v:=⟨_,List.getElem?_eq_getElem (by omega)⟩;have hx3:l[k+m]?=some x2:=(hsame _ (by omega)).symm.trans hx2
       have hy3:l[k+m-1]?=some y2:=by
        rw[<- hsame _ (by omega),show k+m-1=k+(m-1) by omega];exact hy2
       have ha1:m<(l.map aM).length-k:=by rw[hgl];exact hlt2
       have ha2:m-1<(l.map aM).length-k:=by omega
       have ha3:k'<(l.map aM).length:=by rw[hgl];omega
       refine gX ?_;refine ixW 2 (o:=k) (j:=m) ha1 ?_;refine gH ?_;refine⟨_,aI (l:=cl (aM x2)) rfl O.i0 rfl rfl (LD hx2) (bX (enc:=aM) (s:=2) (fun _=>rfl) hx2),?_⟩;refine gH ?_;refine⟨.inr (.inl (by kernel_rfl)),?_⟩;refine gH ?_;refine nW (a:=m) (b:=1) (W:=True) ⟨hm1,by omega,trivial⟩ fun _=>?_;refine gH ?_;refine ixW 2 (o:=k) (j:=m-1) ha2 ?_;refine gH ?_;refine⟨_,aI (l:=cl (aM y2)) rfl O.i0 rfl rfl (LD hy2) (bX (enc:=aM) (s:=2) (fun _=>rfl) hy2),?_⟩;refine gH ?_;refine⟨.inr (.inl (by kernel_rfl)),?_⟩;refine gH ?_;refine⟨.bool (!(eqN x2.a y2.a&&(eqN x2.b y2.b&&true))),by kernel_rfl,?_⟩;refine gX ?_;refine br (b:=(!(eqN x2.a y2.a&&(eqN x2.b y2.b&&true)))) ⟨id,id⟩ (fun he=>?_) fun he=>?_
       ·rw[BN,Bool.not_eq_true',decide_eq_false_iff_not] at he;refine gX ?_;refine ixW 2 (o:=k) (j:=m) ha1 ?_;refine gH ?_;refine⟨_,aI (l:=cl (aM x2)) rfl O.i0 rfl rfl (LD hx2) (bX (enc:=aM) (s:=2) (fun _=>rfl) hx2),?_⟩;refine gH ?_;refine ix (W:=fun _=>True) (l:=l') (j:=k') 2 ⟨ha3,_,hw2,trivial⟩ fun _ _ _=>?_;refine gH ?_;refine O.stE (enc:=aM) 2 (.head _) hw2 x2 fun h O=>?_;refine gX ?_;refine aH (a:=k') (b:=1) (W:=True) ⟨by omega,trivial⟩ fun _=>?_;refine gX ?_;refine aH (a:=m) (b:=1) (W:=True) ⟨by omega,trivial⟩ fun _=>?_;refine gH ?_;refine⟨(l'.set k' x2,k'+1,m+1),(show l.length-(k+(m+1))<l.length-(k+m) by omega),⟨by omega,(show k+(m+1)<=l.length by omega),(show k'+1+1<=k+(m+1) by omega),by omega,(List.length_set ..).trans hl',?_,fun i hi=>?_,O⟩,rfl,rfl,rfl,rfl,trivial⟩
        ·show (l'.set k' x2).take (k'+1)=fh (l.take (k+m+1))
         rw[nR hx3 hy3 (by omega),if_neg (fun q=>he q.symm),<- hc,FT (x:=x2) (List.getElem?_set_self (by omega)),List.take_set_of_le (Nat.le_refl _)]
        ·rw[List.getElem?_set_ne (by omega)];exact hsame i (by omega)
       ·rw[BN,Bool.not_eq_false',decide_eq_true_eq] at he;subst he;refine gX ?_;refine aH (a:=m) (b:=1) (W:=True) ⟨by omega,trivial⟩ fun _=>?_;refine gH ?_;refine⟨(l',k',m+1),(show l.length-(k+(m+1))<l.length-(k+m) by omega),⟨by omega,(show k+(m+1)<=l.length by omega),(show k'+1<=k+(m+1) by omega),by omega,hl',?_,fun i hi=>hsame i (by omega),O⟩,rfl,rfl,rfl,rfl,trivial⟩
        show l'.take k'=fh (l.take (k+m+1))
        rw[nR hx3 hy3 (by omega),if_pos rfl,hc]
      ·rw[aY,hgl] at hge2;simp at hge2;refine gX ?_;refine jx (l',k') trivial ⟨by omega,hl',?_,O⟩;rw[hc,List.take_of_length_le (by omega)]
     ·clear O hc;rintro⟨l',k'⟩ base h _ ⟨hk',hl',hc,O⟩
      have e1:k'=(fh l).length:=by rw[<- hc,List.length_take,hl',Nat.min_eq_left hk']
      have hb2:k'<=(l.map aM).length:=by rw[hgl];exact hk'
      refine gX ?_;refine qb k' hb2 ?_;refine gH ?_;refine O.Bp (enc:=aM) (l:=l') (z:=⟨0,0⟩) (s:=2) (o:=k') (n:=(l.map aM).length-k') (.head _) rfl (by kernel_rfl) rfl (by kernel_rfl) rfl rfl (fun _=>rfl) (by decide) (fun _=>rfl) (by rw[hgl,hl'];omega) fun h O=>?_;refine gX ?_;refine Bk k' hb2 ?_;refine gX ?_;rw[hc] at O;exact⟨by rw[e1,hgl];rfl,_,O⟩
    ·rw[BN,decide_eq_false_iff_not] at he;refine gX ?_;refine aH (a:=k) (b:=1) (W:=True) ⟨by omega,trivial⟩ fun _=>?_;refine gH ?_;refine⟨k+1,(show l.length-(k+1)<l.length-k by omega),⟨by omega,by omega,?_,O⟩,rfl,rfl,trivial⟩;rw[nR hx hy (by omega),if_neg (fun q=>he q.symm),hc,FT hx]
   ·rw[aY] at hge;simp at hge;refine gX ?_;refine jx () trivial ⟨?_,O⟩;rw[List.take_of_length_le hge] at hc;exact hc
  ·rintro⟨⟩ base h _ ⟨hc,O⟩;refine gX ?_;rw[hc];exact⟨by rw[hgl];rfl,[],by rw[List.append_nil];exact O⟩
set_option maxHeartbeats 8000000
def cq (p0:Circ) (p1:(List Flt)) (K:Nat->Prop):Prop :=
 ((ltN 65536 p1.length)=true->K 3)/\((ltN 65536 p1.length)=false->cb p0 (fun r1=>((neN r1.2 0)=true->K r1.2)/\((neN r1.2 0)=false->an (α:=Unit) (fun k2=>aF (S:=Nat) (fun v3 nx4=>((ltN v3 p1.length)=true->∃ x5,p1[v3]?=some x5/\faults_Check_wp p0 x5 (fun r8=>((neN r8 0)=true->K r8)/\((neN r8 0)=false->v3+1<2 ^ 63/\nx4 (v3+1))))/\((ltN v3 p1.length)=false->k2 ())) 0) (fun _=>K 0))))
theorem jd {p0:Circ}{p1:(List Flt)}{K:Nat->Prop} (hm:cq p0 p1 K) {h0:Heap} (hB:HasB vars h0):∃ r,K r/\CallD Tryz.prog NG 73 ⟨[ar p0,(ah 5 az) p1]⟩ h0 (i64 r) h0:=by
 unfold cq at hm
 refine fw Tryz.func73 hB (enc:=i64) (fun r=>PureV.flat rfl) fun O=>?_;conv=>whnf
 refine gX ?_;refine fz ?_;refine gX ?_;refine br hm (fun hm=>?_) fun hm=>?_
 ·refine gX ?_;exact fe hm O
 ·refine gX ?_;refine ca (gK hm O.has) fun r1 hm=>?_;refine gX ?_;refine br hm (fun hm=>?_) fun hm=>?_
  ·refine gX ?_;exact fe hm O
  ·apply Cs;conv=>whnf
   refine jn hm 34 [] (fun s=>s) (fun _ h=>Own vars h0 [] h) (fun _=>[]) (fun hm=>?_) ?_
   ·refine gX ?_;refine lw 34 [2,21,22] (σ:=Nat) (fun s=>s) (fun v3 h=>Own vars h0 [] h) (fun v3=>[(23,(i64 v3))]) 0 hm O ?_;clear hm;rintro v3 nx4 base h hm O;refine gX ?_;refine br hm (fun hm=>?_) fun hm=>?_
    ·refine gX ?_;refine atF hm fun x5 hx5 hm=>?_;refine gH ?_;refine O.new (ai (l:=[(n8 0),(i64 0),(i64 0),(n8 0),(i64 0)]) rfl rfl rfl) fun g6 h O=>?_;refine gH ?_;refine O.stC 5 (.head _) [(n8 x5.model),(i64 x5.line.node),(z64 x5.line.pin),(n8 x5.value),(i64 x5.other)] fun h O=>?_;refine gX ?_;refine ldA O.i0 ?_;refine gH ?_;refine ca (km hm O.has) fun r8 hm=>?_;refine gX ?_;refine br hm (fun hm=>?_) fun hm=>?_
     ·refine gX ?_;exact fe hm O
     ·refine gX ?_;refine aH hm fun hm=>?_;refine gH ?_;exact jx (v3+1) hm (O.sel [] (by decide))
    ·refine gX ?_;exact jx () hm O
   ·clear hm;rintro _ base h hm O;refine gX ?_;exact fe hm O
def bZ (np:Nat) (fs:List Nat) (ps:List Nat) (_R:List (List Nat)) (_os:List Nat) (cs:List (Nat×Nat)) (c:Circ) (K:((List Nat)×(List N2))->Prop):Prop :=
 an (α:=((List N2)×(List Nat))) (fun k13=>aF (S:=((List Nat)×(List N2)×Nat)) (fun (v15,v17,v18) nx23=>((ltN v18 c.nodes.length)=true->an (α:=((List Nat)×(List N2))) (fun k32=>∃ x33,c.nodes[v18]?=some x33/\bw x33.kind (fun r36=>((!r36.2)=true->k32 (v15,v17))/\((!r36.2)=false->r36.1.out<=1/\1<256/\bY np fs v15 v18 (Int.negSucc 0) (1-r36.1.out) (fun x39=>bV np fs v15 x39 (fun (x42,x43)=>((!((cv cs x43).isSome))=true->k32 (x42,v17))/\((!((cv cs x43).isSome))=false->aF (S:=((List Nat)×(List N2)×Nat)) (fun (v46,v48,v49) nx54=>((ltN v49 x33.ins.length)=true->an (α:=((List Nat)×(List N2))) (fun k63=>r36.1.pin<=1/\1<256/\bY np fs v46 v18 (Int.ofNat v49) (1-r36.1.pin) (fun x64=>bV np fs v46 x64 (fun (x67,x68)=>(((cv cs x68).isSome)=true->(v48.length+([(⟨((cv cs x68).getD 0),((cv cs x43).getD 0)⟩:N2)]:(List N2)).length)*16<=2 ^ 47/\k63 (x67,(v48++([(⟨((cv cs x68).getD 0),((cv cs x43).getD 0)⟩:N2)]:(List N2)))))/\(((cv cs x68).isSome)=false->k63 (x67,v48))))) (fun (v56,v58)=>v49+1<2 ^ 63/\nx54 (v56,v58,(v49+1))))/\((ltN v49 x33.ins.length)=false->k32 (v46,v48))) (x42,v17,0))))))) (fun (v25,v27)=>v18+1<2 ^ 63/\nx23 (v25,v27,(v18+1))))/\((ltN v18 c.nodes.length)=false->k13 (v17,v15))) (ps,([]:List N2),0)) (fun (v6,v8)=>v6.length<4611686018427387904/\(∀ x∈v6,n2B x)/\∀ x72:List N2,x72.Perm v6->x72.Pairwise AM->x72.length<2 ^ 60/\K (v8,(fh x72)))
theorem ig {np:Nat}{fs:List Nat}{ps:List Nat}{R:List (List Nat)}{os:List Nat}{cs:List (Nat×Nat)}{c:Circ}{gp:Nat}{gt:Nat}{ga:Option Nat}{gb:Nat}{ao:Option Nat}{af:Option Nat}{gm:Nat}{L:List Slot}{K:((List Nat)×(List N2))->Prop} (hm:bZ np fs ps R os cs c K) {h0 h:Heap} (ha0:ga=none->fs=[]) (ha1:ao=none->R=[]) (ha2:af=none->os=[]) (O:Own vars h0 (((some gp),.cells [(.pointer (some ⟨gt,0,none⟩)),(ae 1 ao (R.map (aV 1 i64))),(ae 1 af (os.map i64)),(.map (some gm))] false)::((some gt),.cells [(ae 1 ga (fs.map i64)),(.slice (some ⟨gb,0,none⟩) np np)] false)::(ga,.cells (flatC (fs.map i64)) false)::((some gb),.cells (flatC (ps.map i64)) false)::(ao,.cells (flatC (R.map (aV 1 i64))) false)::(af,.cells (flatC (os.map i64)) false)::((some gm),.map (bT i64 i64 cs))::L) h):∃ v h',CallD Tryz.prog NG 75 ⟨[(.pointer (some ⟨gp,0,none⟩)),(ar c)]⟩ h v h'/\∃ (w1:(List Nat)) (w2:(List N2)) (b0:Option Nat),K (w1,w2)/\v=((ah 2 aM) w2)/\(b0=none->fs=[])/\(ao=none->R=[])/\(af=none->os=[])/\Own vars h0 (((some gp),.cells [(.pointer (some ⟨gt,0,none⟩)),(ae 1 ao (R.map (aV 1 i64))),(ae 1 af (os.map i64)),(.map (some gm))] false)::((some gt),.cells [(ae 1 b0 (fs.map i64)),(.slice (some ⟨gb,0,none⟩) np np)] false)::(b0,.cells (flatC (fs.map i64)) false)::((some gb),.cells (flatC (w1.map i64)) false)::(ao,.cells (flatC (R.map (aV 1 i64))) false)::(af,.cells (flatC (os.map i64)) false)::((some gm),.map (bT i64 i64 cs))::L) h'/\True:=by
 unfold bZ at hm
 refine fg Tryz.func75 (Q:=fun v h'=>∃ (w1:(List Nat)) (w2:(List N2)) (b0:Option Nat),K (w1,w2)/\v=((ah 2 aM) w2)/\(b0=none->fs=[])/\(ao=none->R=[])/\(af=none->os=[])/\Own vars h0 (((some gp),.cells [(.pointer (some ⟨gt,0,none⟩)),(ae 1 ao (R.map (aV 1 i64))),(ae 1 af (os.map i64)),(.map (some gm))] false)::((some gt),.cells [(ae 1 b0 (fs.map i64)),(.slice (some ⟨gb,0,none⟩) np np)] false)::(b0,.cells (flatC (fs.map i64)) false)::((some gb),.cells (flatC (w1.map i64)) false)::(ao,.cells (flatC (R.map (aV 1 i64))) false)::(af,.cells (flatC (os.map i64)) false)::((some gm),.map (bT i64 i64 cs))::L) h'/\True) ?_;conv=>whnf
 refine gX ?_;refine fz ?_;refine gH ?_
 apply Cs;conv=>whnf
 apply Cs;refine gH ?_;have O:=O.bC (.cells (flatC ((([]:List N2)).map aM)) false);refine jn (σ:=((List N2)×(List Nat))×(Option Nat×Option Nat)) hm 98 [] (fun s=>s.1) (fun ((v6,v8),(a5,a7)) h=>(a5=none->v6=[])/\(a7=none->fs=[])/\(ao=none->R=[])/\(af=none->os=[])/\Own vars h0 ((a5,.cells (flatC (v6.map aM)) false)::((some gp),.cells [(.pointer (some ⟨gt,0,none⟩)),(ae 1 ao (R.map (aV 1 i64))),(ae 1 af (os.map i64)),(.map (some gm))] false)::((some gt),.cells [(ae 1 a7 (fs.map i64)),(.slice (some ⟨gb,0,none⟩) np np)] false)::(a7,.cells (flatC (fs.map i64)) false)::((some gb),.cells (flatC (v8.map i64)) false)::(ao,.cells (flatC (R.map (aV 1 i64))) false)::(af,.cells (flatC (os.map i64)) false)::((some gm),.map (bT i64 i64 cs))::L) h) (fun ((v6,v8),(a5,a7))=>[(5,(ae 2 a5 (v6.map aM)))]) (fun hm=>?_) ?_
 ·refine gX ?_;refine lw 98 [0,16,17] (σ:=((List Nat)×(List N2)×Nat)×(Option Nat×Option Nat)) (fun s=>s.1) (fun ((v15,v17,v18),(a14,a16)) h=>(a14=none->fs=[])/\(ao=none->R=[])/\(af=none->os=[])/\(a16=none->v17=[])/\Own vars h0 (((some gp),.cells [(.pointer (some ⟨gt,0,none⟩)),(ae 1 ao (R.map (aV 1 i64))),(ae 1 af (os.map i64)),(.map (some gm))] false)::((some gt),.cells [(ae 1 a14 (fs.map i64)),(.slice (some ⟨gb,0,none⟩) np np)] false)::(a14,.cells (flatC (fs.map i64)) false)::((some gb),.cells (flatC (v15.map i64)) false)::(ao,.cells (flatC (R.map (aV 1 i64))) false)::(af,.cells (flatC (os.map i64)) false)::((some gm),.map (bT i64 i64 cs))::(a16,.cells (flatC (v17.map aM)) false)::L) h) (fun ((v15,v17,v18),(a14,a16))=>[(5,(ae 2 a16 (v17.map aM))),(18,(i64 v18))]) ((ps,([]:List N2),0),(ga,none)) hm ⟨ha0,ha1,ha2,(fun _=>rfl),(Own.fY [(none,.cells (flatC (([]:List N2).map aM)) false),((some gp),.cells [(.pointer (some ⟨gt,0,none⟩)),(ae 1 ao (R.map (aV 1 i64))),(ae 1 af (os.map i64)),(.map (some gm))] false),((some gt),.cells [(ae 1 ga (fs.map i64)),(.slice (some ⟨gb,0,none⟩) np np)] false),(ga,.cells (flatC (fs.map i64)) false),((some gb),.cells (flatC (ps.map i64)) false),(ao,.cells (flatC (R.map (aV 1 i64))) false),(af,.cells (flatC (os.map i64)) false),((some gm),.map (bT i64 i64 cs))] O [1,2,3,4,5,6,7,0] (by decide))⟩ ?_;clear hm;rintro⟨⟨v15,v17,v18⟩,⟨a14,a16⟩⟩ nx23 base h hm ⟨ha19,ha20,ha21,ha22,O⟩;refine gX ?_;refine br hm (fun hm=>?_) fun hm=>?_
  ·apply Cs;conv=>whnf
   refine jn (σ:=((List Nat)×(List N2))×(Option Nat×Option Nat)) hm 98 [0,16,17,18] (fun s=>s.1) (fun ((v25,v27),(a24,a26)) h=>(a24=none->fs=[])/\(ao=none->R=[])/\(af=none->os=[])/\(a26=none->v27=[])/\Own vars h0 (((some gp),.cells [(.pointer (some ⟨gt,0,none⟩)),(ae 1 ao (R.map (aV 1 i64))),(ae 1 af (os.map i64)),(.map (some gm))] false)::((some gt),.cells [(ae 1 a24 (fs.map i64)),(.slice (some ⟨gb,0,none⟩) np np)] false)::(a24,.cells (flatC (fs.map i64)) false)::((some gb),.cells (flatC (v25.map i64)) false)::(ao,.cells (flatC (R.map (aV 1 i64))) false)::(af,.cells (flatC (os.map i64)) false)::((some gm),.map (bT i64 i64 cs))::(a26,.cells (flatC (v27.map aM)) false)::L) h) (fun ((v25,v27),(a24,a26))=>[(5,(ae 2 a26 (v27.map aM)))]) (fun hm=>?_) ?_
   ·refine gX ?_;refine atF hm fun x33 hx33 hm=>?_;refine gH ?_;refine O.new (ai (l:=[(n8 0),(.slice none 0 0),(i64 0),(i64 0)]) rfl rfl rfl) fun g34 h O=>?_;refine gH ?_;refine O.stC 4 (.head _) [(n8 x33.kind),((ah 1 i64) x33.ins),(i64 x33.mem),(i64 x33.bit)] fun h O=>?_;refine gX ?_;refine ca (fU hm O.has) fun r36 hm=>?_;refine gH ?_;refine O.new (ai (l:=[(n8 0),(n8 0)]) rfl rfl rfl) fun g37 h O=>?_;refine gH ?_;refine O.stC 2 (.head _) [(n8 r36.1.pin),(n8 r36.1.out)] fun h O=>?_;refine gX ?_;refine br hm (fun hm=>?_) fun hm=>?_
    ·refine gX ?_;exact jx ((v15,v17),(a14,a16)) hm ⟨ha19,ha20,ha21,ha22,(Own.fY [((some g37),.cells [(n8 r36.1.pin),(n8 r36.1.out)] false),((some g34),.cells [(n8 x33.kind),((ah 1 i64) x33.ins),(i64 x33.mem),(i64 x33.bit)] false),((some gp),.cells [(.pointer (some ⟨gt,0,none⟩)),(ae 1 ao (R.map (aV 1 i64))),(ae 1 af (os.map i64)),(.map (some gm))] false),((some gt),.cells [(ae 1 a14 (fs.map i64)),(.slice (some ⟨gb,0,none⟩) np np)] false),(a14,.cells (flatC (fs.map i64)) false),((some gb),.cells (flatC (v15.map i64)) false),(ao,.cells (flatC (R.map (aV 1 i64))) false),(af,.cells (flatC (os.map i64)) false),((some gm),.map (bT i64 i64 cs)),(a16,.cells (flatC (v17.map aM)) false)] O [2,3,4,5,6,7,8,9] (by decide))⟩
    ·conv=>whnf
     first|refine CodeS.kX ?_ | (apply Cs;(conv=>whnf);refine CodeS.kX ?_) | (apply Cs;(conv=>whnf);apply Cs;(conv=>whnf);refine CodeS.kX ?_)
     refine gX ?_
     first|refine⟨.inr (.inr (bz rfl O.i2 rfl rfl)),?_⟩|refine⟨.inr (.inl (by kernel_rfl)),?_⟩
     refine gX ?_
     first|refine⟨.inr (.inr (bz rfl O.i2 rfl rfl)),?_⟩|refine⟨.inr (.inl (by kernel_rfl)),?_⟩
     refine gX ?_
     first|refine⟨.inr (.inr (bz rfl O.i2 rfl rfl)),?_⟩|refine⟨.inr (.inl (by kernel_rfl)),?_⟩
     refine gX ?_;refine Ig hm fun hm=>?_;refine gH ?_;obtain⟨_,_,hcall,x39,a40,hm,rfl,ha41,O2,rfl⟩:=cM hm ha19 (Own.fY [((some g37),.cells [(n8 r36.1.pin),(n8 r36.1.out)] false),((some g34),.cells [(n8 x33.kind),((ah 1 i64) x33.ins),(i64 x33.mem),(i64 x33.bit)] false),((some gp),.cells [(.pointer (some ⟨gt,0,none⟩)),(ae 1 ao (R.map (aV 1 i64))),(ae 1 af (os.map i64)),(.map (some gm))] false),((some gt),.cells [(ae 1 a14 (fs.map i64)),(.slice (some ⟨gb,0,none⟩) np np)] false),(a14,.cells (flatC (fs.map i64)) false),((some gb),.cells (flatC (v15.map i64)) false),(ao,.cells (flatC (R.map (aV 1 i64))) false),(af,.cells (flatC (os.map i64)) false),((some gm),.map (bT i64 i64 cs)),(a16,.cells (flatC (v17.map aM)) false)] O [3,4,5,0,1,2,6,7,8,9] (by decide));have O:=O2;clear O2;refine⟨_,_,hcall,?_⟩;refine gH ?_;refine⟨.inr (.inl (Ext.refl _)),?_⟩;refine gH ?_;have Ok:=O;obtain⟨_,h,hcall,x42,x43,hm,rfl,ha44,O,_⟩:=dz hm ha41 O;refine⟨_,_,hcall,?_⟩;refine gH ?_;refine⟨.inr (.inr (wE (i:=3) (by kernel_rfl) rfl rfl Ok.i5 (O.at (.tail _ (.tail _ (.tail _ (.tail _ (.tail _ (.head _))))))))),?_⟩;refine gH ?_;clear Ok;refine⟨_,nP (ek:=i64) (ev:=i64) (m:=cs) (k:=x43) (z:=0) rfl rfl rfl rfl (by kernel_rfl) sX O.i8 rfl rfl,?_⟩;refine gH ?_;refine⟨.inr (.inl (by kernel_rfl)),?_⟩;refine gH ?_;refine gX ?_;refine br hm (fun hm=>?_) fun hm=>?_
     ·refine gX ?_;exact jx ((x42,v17),(a40,a16)) hm ⟨ha44,ha20,ha21,ha22,(Own.fY [((some gt),.cells [(ae 1 a40 (fs.map i64)),(.slice (some ⟨gb,0,none⟩) np np)] false),(a40,.cells (flatC (fs.map i64)) false),((some gb),.cells (flatC (x42.map i64)) false),((some g37),.cells [(n8 r36.1.pin),(n8 r36.1.out)] false),((some g34),.cells [(n8 x33.kind),((ah 1 i64) x33.ins),(i64 x33.mem),(i64 x33.bit)] false),((some gp),.cells [(.pointer (some ⟨gt,0,none⟩)),(ae 1 ao (R.map (aV 1 i64))),(ae 1 af (os.map i64)),(.map (some gm))] false),(ao,.cells (flatC (R.map (aV 1 i64))) false),(af,.cells (flatC (os.map i64)) false),((some gm),.map (bT i64 i64 cs)),(a16,.cells (flatC (v17.map aM)) false)] O [5,0,1,2,6,7,8,9] (by decide))⟩
     ·refine gX ?_;refine ldO O.i4 ?_;refine gX ?_;refine lw 98 [0,6,8,10,16,17,18,57] (σ:=((List Nat)×(List N2)×Nat)×(Option Nat×Option Nat)) (fun s=>s.1) (fun ((v46,v48,v49),(a45,a47)) h=>(a45=none->fs=[])/\(ao=none->R=[])/\(af=none->os=[])/\(a47=none->v48=[])/\Own vars h0 (((some gp),.cells [(.pointer (some ⟨gt,0,none⟩)),(ae 1 ao (R.map (aV 1 i64))),(ae 1 af (os.map i64)),(.map (some gm))] false)::((some gt),.cells [(ae 1 a45 (fs.map i64)),(.slice (some ⟨gb,0,none⟩) np np)] false)::(a45,.cells (flatC (fs.map i64)) false)::((some gb),.cells (flatC (v46.map i64)) false)::(ao,.cells (flatC (R.map (aV 1 i64))) false)::(af,.cells (flatC (os.map i64)) false)::((some gm),.map (bT i64 i64 cs))::(a47,.cells (flatC (v48.map aM)) false)::((some g37),.cells [(n8 r36.1.pin),(n8 r36.1.out)] false)::L) h) (fun ((v46,v48,v49),(a45,a47))=>[(5,(ae 2 a47 (v48.map aM))),(58,(i64 v49))]) ((x42,v17,0),(a40,a16)) hm ⟨ha44,ha20,ha21,ha22,(Own.fY [((some gt),.cells [(ae 1 a40 (fs.map i64)),(.slice (some ⟨gb,0,none⟩) np np)] false),(a40,.cells (flatC (fs.map i64)) false),((some gb),.cells (flatC (x42.map i64)) false),((some g37),.cells [(n8 r36.1.pin),(n8 r36.1.out)] false),((some g34),.cells [(n8 x33.kind),((ah 1 i64) x33.ins),(i64 x33.mem),(i64 x33.bit)] false),((some gp),.cells [(.pointer (some ⟨gt,0,none⟩)),(ae 1 ao (R.map (aV 1 i64))),(ae 1 af (os.map i64)),(.map (some gm))] false),(ao,.cells (flatC (R.map (aV 1 i64))) false),(af,.cells (flatC (os.map i64)) false),((some gm),.map (bT i64 i64 cs)),(a16,.cells (flatC (v17.map aM)) false)] O [5,0,1,2,6,7,8,9,3] (by decide))⟩ ?_;clear hm;rintro⟨⟨v46,v48,v49⟩,⟨a45,a47⟩⟩ nx54 base h hm ⟨ha50,ha51,ha52,ha53,O⟩;refine gX ?_;refine br hm (fun hm=>?_) fun hm=>?_
      ·apply Cs;conv=>whnf
       refine jn (σ:=((List Nat)×(List N2))×(Option Nat×Option Nat)) hm 98 [0,6,8,10,16,17,18,57,58] (fun s=>s.1) (fun ((v56,v58),(a55,a57)) h=>(a55=none->fs=[])/\(ao=none->R=[])/\(af=none->os=[])/\(a57=none->v58=[])/\Own vars h0 (((some gp),.cells [(.pointer (some ⟨gt,0,none⟩)),(ae 1 ao (R.map (aV 1 i64))),(ae 1 af (os.map i64)),(.map (some gm))] false)::((some gt),.cells [(ae 1 a55 (fs.map i64)),(.slice (some ⟨gb,0,none⟩) np np)] false)::(a55,.cells (flatC (fs.map i64)) false)::((some gb),.cells (flatC (v56.map i64)) false)::(ao,.cells (flatC (R.map (aV 1 i64))) false)::(af,.cells (flatC (os.map i64)) false)::((some gm),.map (bT i64 i64 cs))::(a57,.cells (flatC (v58.map aM)) false)::((some g37),.cells [(n8 r36.1.pin),(n8 r36.1.out)] false)::L) h) (fun ((v56,v58),(a55,a57))=>[(5,(ae 2 a57 (v58.map aM)))]) (fun hm=>?_) ?_
       ·conv=>whnf
        apply Cs;conv=>whnf
        apply Cs;conv=>whnf
        apply Cs;conv=>whnf
        refine gH ?_
        first|refine CodeS.kX ?_ | (apply Cs;(conv=>whnf);refine CodeS.kX ?_) | (apply Cs;(conv=>whnf);apply Cs;(conv=>whnf);refine CodeS.kX ?_)
        refine gX ?_
        first|refine⟨.inr (.inr (bz rfl O.i0 rfl rfl)),?_⟩|refine⟨.inr (.inl (by kernel_rfl)),?_⟩
        refine gX ?_
        first|refine⟨.inr (.inr (bz rfl O.i0 rfl rfl)),?_⟩|refine⟨.inr (.inl (by kernel_rfl)),?_⟩
        refine gX ?_
        first|refine⟨.inr (.inr (bz rfl O.i0 rfl rfl)),?_⟩|refine⟨.inr (.inl (by kernel_rfl)),?_⟩
        refine gX ?_;refine ldO O.i8 ?_;refine gH ?_;refine Ig hm fun hm=>?_;refine gH ?_;obtain⟨_,_,hcall,x64,a65,hm,rfl,ha66,O2,rfl⟩:=cM hm ha50 (Own.fY [((some gp),.cells [(.pointer (some ⟨gt,0,none⟩)),(ae 1 ao (R.map (aV 1 i64))),(ae 1 af (os.map i64)),(.map (some gm))] false),((some gt),.cells [(ae 1 a45 (fs.map i64)),(.slice (some ⟨gb,0,none⟩) np np)] false),(a45,.cells (flatC (fs.map i64)) false),((some gb),.cells (flatC (v46.map i64)) false),(ao,.cells (flatC (R.map (aV 1 i64))) false),(af,.cells (flatC (os.map i64)) false),((some gm),.map (bT i64 i64 cs)),(a47,.cells (flatC (v48.map aM)) false),((some g37),.cells [(n8 r36.1.pin),(n8 r36.1.out)] false)] O [1,2,3,0,4,5,6,7,8] (by decide));have O:=O2;clear O2;refine⟨_,_,hcall,?_⟩;refine gH ?_;refine⟨.inr (.inl (Ext.refl _)),?_⟩;refine gH ?_;have Ok:=O;obtain⟨_,h,hcall,x67,x68,hm,rfl,ha69,O,_⟩:=dz hm ha66 O;refine⟨_,_,hcall,?_⟩;refine gH ?_;refine⟨.inr (.inr (wE (i:=3) (by kernel_rfl) rfl rfl Ok.i3 (O.at (.tail _ (.tail _ (.tail _ (.head _))))))),?_⟩;refine gH ?_;clear Ok;refine⟨_,nP (ek:=i64) (ev:=i64) (m:=cs) (k:=x68) (z:=0) rfl rfl rfl rfl (by kernel_rfl) sX O.i6 rfl rfl,?_⟩;refine gH ?_;refine⟨.inr (.inl (by kernel_rfl)),?_⟩;refine gH ?_;refine gX ?_;refine br hm (fun hm=>?_) fun hm=>?_
        ·refine gX ?_;refine fz ?_;refine gH ?_;refine O.apL (enc:=aM) (l:=v48) (new:=([(⟨((cv cs x68).getD 0),((cv cs x43).getD 0)⟩:N2)]:(List N2))) 2 (.tail _ (.tail _ (.tail _ (.tail _ (.tail _ (.tail _ (.tail _ (.head _)))))))) ha53 hm fun a70 h ha71 O hm=>?_;refine gH ?_;exact jx ((x67,(v48++([(⟨((cv cs x68).getD 0),((cv cs x43).getD 0)⟩:N2)]:(List N2)))),(a65,a70)) hm ⟨ha69,ha51,ha52,ha71,(Own.fY [((some gt),.cells [(ae 1 a65 (fs.map i64)),(.slice (some ⟨gb,0,none⟩) np np)] false),(a65,.cells (flatC (fs.map i64)) false),((some gb),.cells (flatC (x67.map i64)) false),((some gp),.cells [(.pointer (some ⟨gt,0,none⟩)),(ae 1 ao (R.map (aV 1 i64))),(ae 1 af (os.map i64)),(.map (some gm))] false),(ao,.cells (flatC (R.map (aV 1 i64))) false),(af,.cells (flatC (os.map i64)) false),((some gm),.map (bT i64 i64 cs)),(a70,.cells (flatC ((v48++([(⟨((cv cs x68).getD 0),((cv cs x43).getD 0)⟩:N2)]:(List N2))).map aM)) false),((some g37),.cells [(n8 r36.1.pin),(n8 r36.1.out)] false)] O [3,0,1,2,4,5,6,7,8] (by decide))⟩
        ·refine gX ?_;exact jx ((x67,v48),(a65,a47)) hm ⟨ha69,ha51,ha52,ha53,(Own.fY [((some gt),.cells [(ae 1 a65 (fs.map i64)),(.slice (some ⟨gb,0,none⟩) np np)] false),(a65,.cells (flatC (fs.map i64)) false),((some gb),.cells (flatC (x67.map i64)) false),((some gp),.cells [(.pointer (some ⟨gt,0,none⟩)),(ae 1 ao (R.map (aV 1 i64))),(ae 1 af (os.map i64)),(.map (some gm))] false),(ao,.cells (flatC (R.map (aV 1 i64))) false),(af,.cells (flatC (os.map i64)) false),((some gm),.map (bT i64 i64 cs)),(a47,.cells (flatC (v48.map aM)) false),((some g37),.cells [(n8 r36.1.pin),(n8 r36.1.out)] false)] O [3,0,1,2,4,5,6,7,8] (by decide))⟩
       ·clear hm;rintro⟨⟨v56,v58⟩,⟨a55,a57⟩⟩ base h hm ⟨ha59,ha60,ha61,ha62,O⟩;refine gX ?_;refine aH hm fun hm=>?_;refine gH ?_;exact jx ((v56,v58,(v49+1)),(a55,a57)) hm ⟨ha59,ha60,ha61,ha62,O⟩
      ·refine gX ?_;exact jx ((v46,v48),(a45,a47)) hm ⟨ha50,ha51,ha52,ha53,(Own.fY [((some gp),.cells [(.pointer (some ⟨gt,0,none⟩)),(ae 1 ao (R.map (aV 1 i64))),(ae 1 af (os.map i64)),(.map (some gm))] false),((some gt),.cells [(ae 1 a45 (fs.map i64)),(.slice (some ⟨gb,0,none⟩) np np)] false),(a45,.cells (flatC (fs.map i64)) false),((some gb),.cells (flatC (v46.map i64)) false),(ao,.cells (flatC (R.map (aV 1 i64))) false),(af,.cells (flatC (os.map i64)) false),((some gm),.map (bT i64 i64 cs)),(a47,.cells (flatC (v48.map aM)) false),((some g37),.cells [(n8 r36.1.pin),(n8 r36.1.out)] false)] O [0,1,2,3,4,5,6,7] (by decide))⟩
   ·clear hm;rintro⟨⟨v25,v27⟩,⟨a24,a26⟩⟩ base h hm ⟨ha28,ha29,ha30,ha31,O⟩;refine gX ?_;refine aH hm fun hm=>?_;refine gH ?_;exact jx ((v25,v27,(v18+1)),(a24,a26)) hm ⟨ha28,ha29,ha30,ha31,O⟩
  ·refine gX ?_;exact jx ((v17,v15),(a16,a14)) hm ⟨ha22,ha19,ha20,ha21,(Own.fY [((some gp),.cells [(.pointer (some ⟨gt,0,none⟩)),(ae 1 ao (R.map (aV 1 i64))),(ae 1 af (os.map i64)),(.map (some gm))] false),((some gt),.cells [(ae 1 a14 (fs.map i64)),(.slice (some ⟨gb,0,none⟩) np np)] false),(a14,.cells (flatC (fs.map i64)) false),((some gb),.cells (flatC (v15.map i64)) false),(ao,.cells (flatC (R.map (aV 1 i64))) false),(af,.cells (flatC (os.map i64)) false),((some gm),.map (bT i64 i64 cs)),(a16,.cells (flatC (v17.map aM)) false)] O [7,0,1,2,3,4,5,6] (by decide))⟩
 ·clear hm;rintro⟨⟨v6,v8⟩,⟨a5,a7⟩⟩ base h hm ⟨ha9,ha10,ha11,ha12,O⟩;refine gX ?_;obtain⟨x72,h,hp73,hs74,hcall,O⟩:=IE O (.head _) ha9 hm.1 hm.2.1;refine⟨_,_,hcall,?_⟩;refine gH ?_;replace hm:=hm.2.2 x72 hp73 hs74
  have ha75:a5=none->x72=[]:=fun e=>by have:=ha9 e;rw[this] at hp73;exact hp73.eq_nil
  have he:(x72.map aM).length=(v6.map aM).length:=by simp[hp73.length_eq]
  (try rw[<- A9 (s:=2) (a:=a5) he]);(try rw[<- he]);refine gX ?_;obtain⟨_,h,hcall,rfl,z76,O⟩:=tM ha75 hm.1 O;refine⟨_,_,hcall,?_⟩;refine gH ?_;replace hm:=hm.2;refine fg Tryz.func156 ?_;refine gX ?_;refine Ff (s:=2) (n:=(fh x72).length) (m:=x72.length) (zl _) ?_;refine gH ?_
  apply Cs;conv=>whnf
  refine gH ?_;refine CodeS.Hy (l:=(fh x72)) (z:=z76) (s:=2) O (.head _) (fun e=>by rw[ha75 e];rfl) (fun _=>rfl) (t:=4) rfl rfl fun h O=>?_;refine gX ?_;exact⟨v8,(fh x72),a7,hm,rfl,ha10,ha11,ha12,(Own.fY [(a5,.cells (flatC ((fh x72++z76).map aM)) true),((some gp),.cells [(.pointer (some ⟨gt,0,none⟩)),(ae 1 ao (R.map (aV 1 i64))),(ae 1 af (os.map i64)),(.map (some gm))] false),((some gt),.cells [(ae 1 a7 (fs.map i64)),(.slice (some ⟨gb,0,none⟩) np np)] false),(a7,.cells (flatC (fs.map i64)) false),((some gb),.cells (flatC (v8.map i64)) false),(ao,.cells (flatC (R.map (aV 1 i64))) false),(af,.cells (flatC (os.map i64)) false),((some gm),.map (bT i64 i64 cs))] O [1,2,3,4,5,6,7] (by decide)),trivial⟩
def dg (p0:Circ) (p1:(List Flt)) (K:((List Nat)×Nat)->Prop):Prop :=
 cq p0 p1 (fun r1=>((neN r1 0)=true->K ([],r1))/\((neN r1 0)=false->bE p0 p1 (fun (x2,x3,x4,x5,x6,x7)=>1*x5.length<=2 ^ 48/\x5.length<2 ^ 63/\an (α:=((List Nat)×(List Bool))) (fun k33=>bZ x4 x2 x3 x5 x6 x7 p0 (fun (x34,x35)=>aF (S:=((List Bool)×Nat)) (fun (v40,v41) nx45=>((ltN v41 x35.length)=true->∃ x46,x35[v41]?=some x46/\x46.b<x5.length/\∃ x49,v40[x46.b]?=some x49/\v41+1<2 ^ 63/\nx45 ((v40.set x46.b true),(v41+1)))/\((ltN v41 x35.length)=false->k33 (x34,v40))) ((List.replicate x5.length (false:Bool)),0))) (fun (_v28,v29)=>an (α:=(List Nat)) (fun k54=>aF (S:=((List Nat)×Nat)) (fun (v56,v58) nx61=>((ltN v58 x5.length)=true->an (α:=(List Nat)) (fun k67=>∃ x68,x5[v58]?=some x68/\v58<x5.length/\∃ x70,v29[v58]?=some x70/\((!x70)=true->∃ x71,x68[0]?=some x71/\(v56.length+([x71]:(List Nat)).length)*8<=2 ^ 47/\k67 (v56++([x71]:(List Nat))))/\((!x70)=false->k67 v56)) (fun v63=>v58+1<2 ^ 63/\nx61 (v63,(v58+1))))/\((ltN v58 x5.length)=false->k54 v56)) (([]:List Nat),0)) (fun v52=>K (v52,0))))))
theorem nY {p0:Circ}{p1:(List Flt)}{K:((List Nat)×Nat)->Prop} (hm:dg p0 p1 K) {h0:Heap} (hB:HasB vars h0):∃ r,K r/\CallD Tryz.prog NG 22 ⟨[ar p0,(ah 5 az) p1]⟩ h0 ((fun (r:((List Nat)×Nat))=>Value.tuple ⟨[(aV 1 i64) (r.1),i64 (r.2)]⟩) r) h0:=by
 unfold dg at hm
 refine fw Tryz.func22 hB (enc:=(fun (r:((List Nat)×Nat))=>Value.tuple ⟨[(aV 1 i64) (r.1),i64 (r.2)]⟩)) (fun r=>PureV.tup (AllPure.cons (F5 (fun _=>AllPure.cons (PureV.flat rfl) AllPure.nil)) (AllPure.cons (PureV.flat rfl) (AllPure.nil)))) fun O=>?_;conv=>whnf
 refine gX ?_;refine fz ?_;refine gX ?_;refine ca (jd hm O.has) fun r1 hm=>?_;refine gX ?_;refine br hm (fun hm=>?_) fun hm=>?_
 ·refine gX ?_;exact⟨([],r1),hm,O.ext,fun h2 F=>VLe.tup (LLe.cons (VLe.HX _ _ _) (LLe.cons (VLe.refl _ _) (LLe.nil _)))⟩
 ·refine gX ?_;obtain⟨_,h,hcall,x2,x3,x4,x5,x6,x7,a8,a9,a10,a11,a12,a13,a14,hm,rfl,ha22,ha23,ha24,O,_⟩:=fq hm  O;refine⟨_,_,hcall,?_⟩;refine gX ?_;refine O.mkL (enc:=Value.bool) 1 1 false hm fun g25 h O hm=>?_;refine gH ?_;refine jn (σ:=((List Nat)×(List Bool))×Option Nat) hm 66 [7,8] (fun s=>s.1) (fun ((v28,v29),a27) h=>(a27=none->x2=[])/\(a12=none->x5=[])/\(a13=none->x6=[])/\Own vars h0 [(sC a8 [(pG a9),(ae 1 a12 (x5.map (aV 1 i64))),(ae 1 a13 (x6.map i64)),(.map (some a14))]),(sC a9 [(ae 1 a27 (x2.map i64)),(.slice (some ⟨a11,0,none⟩) x4 x4)]),(a27,.cells (flatC (x2.map i64)) false),(sC a11 (flatC (v28.map i64))),(a12,.cells (flatC (x5.map (aV 1 i64))) false),(a13,.cells (flatC (x6.map i64)) false),((some a14),.map (bT i64 i64 x7)),(sC g25 (flatC (v29.map Value.bool)))] h) (fun ((v28,v29),a27)=>[]) (fun hm=>?_) ?_
  ·refine gX ?_;obtain⟨_,h,hcall,x34,x35,a36,hm,rfl,ha37,ha38,ha39,O,_⟩:=ig hm ha22 ha23 ha24 (O.sel [1,2,3,4,5,6,7,0] (by decide));refine⟨_,_,hcall,?_⟩;refine gX ?_;refine lw 66 [7,8,31,32] (σ:=((List Bool)×Nat)) (fun s=>s) (fun (v40,v41) h=>(a36=none->x2=[])/\(a12=none->x5=[])/\(a13=none->x6=[])/\Own vars h0 [(sC a8 [(pG a9),(ae 1 a12 (x5.map (aV 1 i64))),(ae 1 a13 (x6.map i64)),(.map (some a14))]),(sC a9 [(ae 1 a36 (x2.map i64)),(.slice (some ⟨a11,0,none⟩) x4 x4)]),(a36,.cells (flatC (x2.map i64)) false),(sC a11 (flatC (x34.map i64))),(a12,.cells (flatC (x5.map (aV 1 i64))) false),(a13,.cells (flatC (x6.map i64)) false),((some a14),.map (bT i64 i64 x7)),(sC g25 (flatC (v40.map Value.bool)))] h) (fun (v40,v41)=>[(33,(i64 v41))]) ((List.replicate x5.length (false:Bool)),0) hm ⟨ha37,ha38,ha39,O⟩ ?_;clear hm;rintro⟨v40,v41⟩ nx45 base h hm ⟨ha42,ha43,ha44,O⟩;refine gX ?_;refine br hm (fun hm=>?_) fun hm=>?_
   ·refine gX ?_;refine atF hm fun x46 hx46 hm=>?_;refine gH ?_;refine O.new (ai (l:=[(i64 0),(i64 0)]) rfl rfl rfl) fun g47 h O=>?_;refine gH ?_;refine O.stC 2 (.head _) [(i64 x46.a),(i64 x46.b)] fun h O=>?_;refine gX ?_;refine nA rfl ?_;refine gH ?_;refine ix 1 hm fun x49 hx49 hm=>?_;refine gH ?_;refine O.stE 1 (.tail _ (.tail _ (.tail _ (.tail _ (.tail _ (.tail _ (.tail _ (.tail _ (.head _))))))))) hx49 true fun h O=>?_;refine gX ?_;refine aH hm fun hm=>?_;refine gH ?_;exact jx ((v40.set x46.b true),(v41+1)) hm ⟨ha42,ha43,ha44,(O.sel [1,2,3,4,5,6,7,8] (by decide))⟩
   ·refine gX ?_;exact jx ((x34,v40),a36) hm ⟨ha42,ha43,ha44,O⟩
  ·clear hm;rintro⟨⟨v28,v29⟩,a27⟩ base h hm ⟨ha30,ha31,ha32,O⟩
   conv=>whnf
   apply Cs;conv=>whnf
   apply Cs;refine gH ?_;have O:=O.bC (.cells (flatC ((([]:List Nat)).map i64)) false);refine jn (σ:=(List Nat)×Option Nat) hm 66 [] (fun s=>s.1) (fun (v52,a51) h=>(a51=none->v52=[])/\Own vars h0 [(a51,.cells (flatC (v52.map i64)) false)] h) (fun (v52,a51)=>[(11,(ae 1 a51 (v52.map i64)))]) (fun hm=>?_) ?_
   ·refine gX ?_;refine lw 66 [8,46] (σ:=((List Nat)×Nat)×(Option Nat×Option Nat)) (fun s=>s.1) (fun ((v56,v58),(a55,a57)) h=>(a55=none->v56=[])/\(a57=none->x5=[])/\Own vars h0 [(sC g25 (flatC (v29.map Value.bool))),(a55,.cells (flatC (v56.map i64)) false),(a57,.cells (flatC (x5.map (aV 1 i64))) false)] h) (fun ((v56,v58),(a55,a57))=>[(11,(ae 1 a55 (v56.map i64))),(45,(ae 1 a57 (x5.map (aV 1 i64)))),(47,(i64 v58))]) ((([]:List Nat),0),(none,a12)) hm ⟨(fun _=>rfl),ha31,(O.sel [8,0,5] (by decide))⟩ ?_;clear hm;rintro⟨⟨v56,v58⟩,⟨a55,a57⟩⟩ nx61 base h hm ⟨ha59,ha60,O⟩;refine gX ?_;refine br hm (fun hm=>?_) fun hm=>?_
    ·apply Cs;conv=>whnf
     refine jn (σ:=(List Nat)×(Option Nat×Option Nat)) hm 66 [8,46,47] (fun s=>s.1) (fun (v63,(a62,a64)) h=>(a62=none->v63=[])/\(a64=none->x5=[])/\Own vars h0 [(sC g25 (flatC (v29.map Value.bool))),(a62,.cells (flatC (v63.map i64)) false),(a64,.cells (flatC (x5.map (aV 1 i64))) false)] h) (fun (v63,(a62,a64))=>[(11,(ae 1 a62 (v63.map i64))),(45,(ae 1 a64 (x5.map (aV 1 i64))))]) (fun hm=>?_) ?_
     ·refine gX ?_;obtain⟨x68,hx68,hm⟩:=hm;have h9:=hm;obtain⟨g69,rfl⟩:=fP ha60 hx68;replace hm:=h9;refine bb (s:=1) (j:=v58) rfl rfl rfl rfl (by rw[List.length_map];exact ag hx68) ?_;refine gH ?_;refine ldE (s:=1) (i:=0) O.i2 hx68 ?_;refine gX ?_;refine ix 1 hm fun x70 hx70 hm=>?_;refine gH ?_;refine ldE (s:=1) (i:=0) O.i0 hx70 ?_;refine gX ?_;refine br hm (fun hm=>?_) fun hm=>?_
      ·refine gX ?_;refine atC hm fun x71 hx71 hm=>?_;refine gH ?_;refine fz ?_;refine gH ?_;refine O.apL (enc:=i64) (l:=v56) (new:=([x71]:(List Nat))) 1 (.tail _ (.head _)) ha59 hm fun a72 h ha73 O hm=>?_;refine gH ?_;exact jx ((v56++([x71]:(List Nat))),(a72,(some g69))) hm ⟨ha73,cE,O⟩
      ·refine gX ?_;exact jx (v56,(a55,(some g69))) hm ⟨ha59,cE,O⟩
     ·clear hm;rintro⟨v63,⟨a62,a64⟩⟩ base h hm ⟨ha65,ha66,O⟩;refine gX ?_;refine aH hm fun hm=>?_;refine gH ?_;exact jx ((v63,(v58+1)),(a62,a64)) hm ⟨ha65,ha66,O⟩
    ·refine gX ?_;exact jx (v56,a55) hm ⟨ha59,(O.sel [1] (by decide))⟩
   ·clear hm;rintro⟨v52,a51⟩ base h hm ⟨ha53,O⟩;refine gX ?_;refine fg Tryz.func76 ?_;refine gX ?_;refine ui (s:=1) (enc:=i64) (l:=v52) (n:=v52.length) (m:=v52.length) rfl rfl rfl rfl rfl rfl rfl ?_;refine gX ?_;exact⟨(v52,0),hm,O.ext,fun h2 F=>VLe.tup (LLe.cons (O.HY F (Nat.le_refl _) (.head _) ha53 (fun _=>rfl)) (LLe.cons (VLe.refl _ _) (LLe.nil _)))⟩
def bR (p0:Circ) (p1:(List Flt)) (p2:(List Int)) (K:((List Nat)×Nat)->Prop):Prop :=
 cq p0 p1 (fun r1=>((neN r1 0)=true->K ([],r1))/\((neN r1 0)=false->bE p0 p1 (fun (x2,x3,x4,x5,x6,x7)=>24*x5.length<=2 ^ 48/\x5.length<2 ^ 63/\an (α:=((List Nat)×(List (List Nat)))) (fun k35=>bZ x4 x2 x3 x5 x6 x7 p0 (fun (x36,x37)=>aF (S:=((List (List Nat))×Nat)) (fun (v42,v44) nx49=>((ltN v44 x37.length)=true->∃ x50,x37[v44]?=some x50/\x50.a<x5.length/\∃ x53,v42[x50.a]?=some x53/\(x53.length+([x50.b]:(List Nat)).length)*8<=2 ^ 47/\x50.a<x5.length/\v44+1<2 ^ 63/\nx49 ((v42.set x50.a (x53++([x50.b]:(List Nat)))),(v44+1)))/\((ltN v44 x37.length)=false->k35 (x36,v42))) ((List.replicate x5.length ([]:List Nat)),0))) (fun (_v28,v29)=>1*x5.length<=2 ^ 48/\x5.length<2 ^ 63/\an (α:=(List Nat)) (fun k77=>aF (S:=((List Nat)×Nat)) (fun (v82,v83) nx90=>((ltN v83 p2.length)=true->∃ x91,p2[v83]?=some x91/\an (α:=Bool) (fun k99=>((ltI x91 (Int.ofNat 0))=true->k99 true)/\((ltI x91 (Int.ofNat 0))=false->k99 (!ltI x91 (Int.ofNat p1.length)))) (fun v92=>(v92=true->K ([],1))/\(v92=false->∃ j101:Nat,x91=Int.ofNat j101/\∃ x100,x6[j101]?=some x100/\(v82.length+([x100]:(List Nat)).length)*8<=2 ^ 47/\v83+1<2 ^ 63/\nx90 ((v82++([x100]:(List Nat))),(v83+1)))))/\((ltN v83 p2.length)=false->k77 v82)) (([]:List Nat),0)) (fun v70=>an (α:=(List Bool)) (fun k112=>aF (S:=((List Bool)×(List Nat))) (fun (v113,v117) nx124=>((ltN 0 v117.length)=true->1<=v117.length/\v117.length<2 ^ 63/\∃ x125,v117[(v117.length-1)]?=some x125/\1<=v117.length/\v117.length<2 ^ 63/\(v117.length-1)<=v117.length/\x125<x5.length/\∃ x127,v113[x125]?=some x127/\((!x127)=true->x125<x5.length/\∃ x128,v113[x125]?=some x128/\x125<x5.length/\∃ x129,v29[x125]?=some x129/\((v117.take (v117.length-1)).length+x129.length)*8<=2 ^ 47/\nx124 ((v113.set x125 true),((v117.take (v117.length-1))++x129)))/\((!x127)=false->nx124 (v113,(v117.take (v117.length-1)))))/\((ltN 0 v117.length)=false->k112 v113)) ((List.replicate x5.length (false:Bool)),v70)) (fun v108=>an (α:=(List Nat)) (fun k143=>aF (S:=((List Nat)×Nat)) (fun (v145,v147) nx150=>((ltN v147 x6.length)=true->an (α:=(List Nat)) (fun k156=>∃ x157,x6[v147]?=some x157/\x157<x5.length/\∃ x159,v108[x157]?=some x159/\(x159=true->(v145.length+([v147]:(List Nat)).length)*8<=2 ^ 47/\k156 (v145++([v147]:(List Nat))))/\(x159=false->k156 v145)) (fun v152=>v147+1<2 ^ 63/\nx150 (v152,(v147+1))))/\((ltN v147 x6.length)=false->k143 v145)) (([]:List Nat),0)) (fun v141=>K (v141,0))))))))
theorem lR {p0:Circ}{p1:(List Flt)}{p2:(List Int)}{K:((List Nat)×Nat)->Prop} (hm:bR p0 p1 p2 K) {h0:Heap} (hB:HasB vars h0):∃ r,K r/\CallD Tryz.prog NG 25 ⟨[ar p0,(ah 5 az) p1,(ah 1 z64) p2]⟩ h0 ((fun (r:((List Nat)×Nat))=>Value.tuple ⟨[(aV 1 i64) (r.1),i64 (r.2)]⟩) r) h0:=by
 unfold bR at hm
 refine fw Tryz.func25 hB (enc:=(fun (r:((List Nat)×Nat))=>Value.tuple ⟨[(aV 1 i64) (r.1),i64 (r.2)]⟩)) (fun r=>PureV.tup (AllPure.cons (F5 (fun _=>AllPure.cons (PureV.flat rfl) AllPure.nil)) (AllPure.cons (PureV.flat rfl) (AllPure.nil)))) fun O=>?_;conv=>whnf
 refine gX ?_;refine fz ?_;refine gX ?_;refine ca (jd hm O.has) fun r1 hm=>?_;refine gX ?_;refine br hm (fun hm=>?_) fun hm=>?_
 ·refine gX ?_;exact⟨([],r1),hm,O.ext,fun h2 F=>VLe.tup (LLe.cons (VLe.HX _ _ _) (LLe.cons (VLe.refl _ _) (LLe.nil _)))⟩
 ·refine gX ?_;obtain⟨_,h,hcall,x2,x3,x4,x5,x6,x7,a8,a9,a10,a11,a12,a13,a14,hm,rfl,ha22,ha23,ha24,O,_⟩:=fq hm  O;refine⟨_,_,hcall,?_⟩;refine gX ?_;refine Own.vd (α:=Nat) (b:=24) (n:=x5.length) i64 1 O rfl rfl rfl rfl rfl rfl hm.1 hm.2.1 fun g25 h O=>?_;refine gH ?_;replace hm:=hm.2.2;refine jn (σ:=((List Nat)×(List (List Nat)))×(Option Nat×(List (Option Nat)))) hm 138 [1,2,9,10] (fun s=>s.1) (fun ((v28,v29),(a27,a30)) h=>(a27=none->x2=[])/\(a12=none->x5=[])/\(a13=none->x6=[])/\RowsOk a30 v29/\Own vars h0 ([(sC a8 [(pG a9),(ae 1 a12 (x5.map (aV 1 i64))),(ae 1 a13 (x6.map i64)),(.map (some a14))]),(sC a9 [(ae 1 a27 (x2.map i64)),(.slice (some ⟨a11,0,none⟩) x4 x4)]),(a27,.cells (flatC (x2.map i64)) false),(sC a11 (flatC (v28.map i64))),(a12,.cells (flatC (x5.map (aV 1 i64))) false),(a13,.cells (flatC (x6.map i64)) false),((some a14),.map (bT i64 i64 x7)),(sC g25 (aw 1 i64 a30 v29))]++(aC i64 a30 v29)) h) (fun ((v28,v29),(a27,a30))=>[]) (fun hm=>?_) ?_
  ·refine gX ?_;obtain⟨_,h,hcall,x36,x37,a38,hm,rfl,ha39,ha40,ha41,O,_⟩:=ig hm ha22 ha23 ha24 (Own.fY [(sC g25 (aw 1 i64 (List.replicate x5.length none) (List.replicate x5.length ([]:List Nat)))),(sC a8 [(pG a9),(ae 1 a12 (x5.map (aV 1 i64))),(ae 1 a13 (x6.map i64)),(.map (some a14))]),(sC a9 [(ae 1 a10 (x2.map i64)),(.slice (some ⟨a11,0,none⟩) x4 x4)]),(a10,.cells (flatC (x2.map i64)) false),(sC a11 (flatC (x3.map i64))),(a12,.cells (flatC (x5.map (aV 1 i64))) false),(a13,.cells (flatC (x6.map i64)) false),((some a14),.map (bT i64 i64 x7))] (L:=(aC i64 (List.replicate x5.length none) (List.replicate x5.length ([]:List Nat)))) O [1,2,3,4,5,6,7,0] (by decide));refine⟨_,_,hcall,?_⟩;refine gX ?_;refine lw 138 [1,2,9,10,38,39] (σ:=((List (List Nat))×Nat)×(List (Option Nat))) (fun s=>s.1) (fun ((v42,v44),a43) h=>(a38=none->x2=[])/\(a12=none->x5=[])/\(a13=none->x6=[])/\RowsOk a43 v42/\Own vars h0 ([(sC a8 [(pG a9),(ae 1 a12 (x5.map (aV 1 i64))),(ae 1 a13 (x6.map i64)),(.map (some a14))]),(sC a9 [(ae 1 a38 (x2.map i64)),(.slice (some ⟨a11,0,none⟩) x4 x4)]),(a38,.cells (flatC (x2.map i64)) false),(sC a11 (flatC (x36.map i64))),(a12,.cells (flatC (x5.map (aV 1 i64))) false),(a13,.cells (flatC (x6.map i64)) false),((some a14),.map (bT i64 i64 x7)),(sC g25 (aw 1 i64 a43 v42))]++(aC i64 a43 v42)) h) (fun ((v42,v44),a43)=>[(40,(i64 v44))]) (((List.replicate x5.length ([]:List Nat)),0),(List.replicate x5.length none)) hm ⟨ha39,ha40,ha41,(RowsOk.start x5.length),O⟩ ?_;clear hm;rintro⟨⟨v42,v44⟩,a43⟩ nx49 base h hm ⟨ha45,ha46,ha47,hr48,O⟩;refine gX ?_;refine br hm (fun hm=>?_) fun hm=>?_
   ·refine gX ?_;refine atF hm fun x50 hx50 hm=>?_;refine gH ?_;refine O.new (ai (l:=[(i64 0),(i64 0)]) rfl rfl rfl) fun g51 h O=>?_;refine gH ?_;refine O.stC 2 (.head _) [(i64 x50.a),(i64 x50.b)] fun h O=>?_;refine gH ?_
    conv=>whnf
    refine CodeS.kX ?_;refine gH ?_;refine nA rfl ?_;refine gH ?_;refine nA rfl ?_;refine gH ?_;refine bb (s:=1) (j:=x50.a) rfl rfl rfl rfl hm.1 ?_;refine gH ?_;replace hm:=hm.2;obtain⟨x53,hx53,hm⟩:=hm;obtain⟨a54,hA56,ha55,O⟩:=Own.focus (S:=[(sC g51 [(i64 x50.a),(i64 x50.b)]),(sC a8 [(pG a9),(ae 1 a12 (x5.map (aV 1 i64))),(ae 1 a13 (x6.map i64)),(.map (some a14))]),(sC a9 [(ae 1 a38 (x2.map i64)),(.slice (some ⟨a11,0,none⟩) x4 x4)]),(a38,.cells (flatC (x2.map i64)) false),(sC a11 (flatC (x36.map i64))),(a12,.cells (flatC (x5.map (aV 1 i64))) false),(a13,.cells (flatC (x6.map i64)) false),((some a14),.map (bT i64 i64 x7)),(sC g25 (aw 1 i64 a43 v42))]) hr48 O hx53;refine⟨_,nL O.i9 hA56 hx53 rfl rfl,?_⟩;refine gH ?_;refine⟨.inr (.inl (by kernel_rfl)),?_⟩;refine gH ?_;refine nA rfl ?_;refine gH ?_;refine O.dJ (l:=([x50.b]:(List Nat))) (enc:=i64) (s:=1) (z:=(i64 0)) rfl rfl (by kernel_rfl) (by kernel_rfl) rfl rfl rfl rfl (fun _=>rfl) fun g58 h O=>?_;refine gH ?_;have Ok:=O;refine O.gR (enc:=i64) (l:=x53) (new:=([x50.b]:(List Nat))) (s:=1) (b:=8) (.tail _ (.head _)) ha55.1 rfl rfl rfl rfl rfl rfl rfl rfl (YOk.own O.i0 rfl (fun _=>rfl) rfl) (fun _=>rfl) (fun _=>rfl) (by decide) hm.1 fun a60 h ha61 O=>?_;refine gH ?_;refine⟨.inr (.inr (wE (i:=2) (by kernel_rfl) rfl rfl Ok.i2 (O.at (.tail _ (.tail _ (.head _)))))),?_⟩;refine gH ?_;clear Ok;replace hm:=hm.2;refine bb (s:=1) (j:=x50.a) rfl rfl rfl rfl hm.1 ?_;refine gH ?_;replace hm:=hm.2;refine O.tW (s:=1) (enc:=i64) (j:=x50.a) (v:=(ae 1 a60 ((x53++([x50.b]:(List Nat))).map i64))) (.tail _ (.tail _ (.tail _ (.tail _ (.tail _ (.tail _ (.tail _ (.tail _ (.tail _ (.tail _ (.head _))))))))))) hr48 hx53 rfl rfl rfl rfl rfl fun h O=>?_;refine gH ?_;replace O:=(Own.fY [(sC g58 (flatC (([x50.b]:(List Nat)).map i64))),(a60,.cells (flatC ((x53++([x50.b]:(List Nat))).map i64)) false),(sC g51 [(i64 x50.a),(i64 x50.b)]),(sC a8 [(pG a9),(ae 1 a12 (x5.map (aV 1 i64))),(ae 1 a13 (x6.map i64)),(.map (some a14))]),(sC a9 [(ae 1 a38 (x2.map i64)),(.slice (some ⟨a11,0,none⟩) x4 x4)]),(a38,.cells (flatC (x2.map i64)) false),(sC a11 (flatC (x36.map i64))),(a12,.cells (flatC (x5.map (aV 1 i64))) false),(a13,.cells (flatC (x6.map i64)) false),((some a14),.map (bT i64 i64 x7)),(sC g25 ((aw 1 i64 a43 v42).set x50.a (ae 1 a60 ((x53++([x50.b]:(List Nat))).map i64))))] (L:=(aC i64 (a43.set x50.a none) v42)) O [1,0,2,3,4,5,6,7,8,9,10] (by decide));rw[<- iS] at O;have hr62:RowsOk (a43.set x50.a a60) (v42.set x50.a (x53++([x50.b]:(List Nat)))):=RowsOk.set hr48 ⟨ha61,fun e=>absurd e (by simp)⟩;replace O:=Own.nQ (S:=[(sC g58 (flatC (([x50.b]:(List Nat)).map i64))),(sC g51 [(i64 x50.a),(i64 x50.b)]),(sC a8 [(pG a9),(ae 1 a12 (x5.map (aV 1 i64))),(ae 1 a13 (x6.map i64)),(.map (some a14))]),(sC a9 [(ae 1 a38 (x2.map i64)),(.slice (some ⟨a11,0,none⟩) x4 x4)]),(a38,.cells (flatC (x2.map i64)) false),(sC a11 (flatC (x36.map i64))),(a12,.cells (flatC (x5.map (aV 1 i64))) false),(a13,.cells (flatC (x6.map i64)) false),((some a14),.map (bT i64 i64 x7)),(some g25,.cells (aw 1 i64 (a43.set x50.a a60) (v42.set x50.a (x53++([x50.b]:(List Nat))))) false)]) O hx53 hr48;refine gX ?_;refine aH hm fun hm=>?_;refine gH ?_;exact jx (((v42.set x50.a (x53++([x50.b]:(List Nat)))),(v44+1)),(a43.set x50.a a60)) hm ⟨ha45,ha46,ha47,hr62,(Own.fY [(sC g58 (flatC (([x50.b]:(List Nat)).map i64))),(sC g51 [(i64 x50.a),(i64 x50.b)]),(sC a8 [(pG a9),(ae 1 a12 (x5.map (aV 1 i64))),(ae 1 a13 (x6.map i64)),(.map (some a14))]),(sC a9 [(ae 1 a38 (x2.map i64)),(.slice (some ⟨a11,0,none⟩) x4 x4)]),(a38,.cells (flatC (x2.map i64)) false),(sC a11 (flatC (x36.map i64))),(a12,.cells (flatC (x5.map (aV 1 i64))) false),(a13,.cells (flatC (x6.map i64)) false),((some a14),.map (bT i64 i64 x7)),(sC g25 (aw 1 i64 (a43.set x50.a a60) (v42.set x50.a (x53++([x50.b]:(List Nat))))))] (L:=(aC i64 (a43.set x50.a a60) (v42.set x50.a (x53++([x50.b]:(List Nat)))))) O [2,3,4,5,6,7,8,9] (by decide))⟩
   ·refine gX ?_;exact jx ((x36,v42),(a38,a43)) hm ⟨ha45,ha46,ha47,hr48,O⟩
  ·clear hm;rintro⟨⟨v28,v29⟩,⟨a27,a30⟩⟩ base h hm ⟨ha31,ha32,ha33,hr34,O⟩;refine gX ?_;refine O.mkL (enc:=Value.bool) 1 1 false hm fun g63 h O hm=>?_;refine gH ?_
   apply Cs;conv=>whnf
   apply Cs;refine gH ?_;have O:=O.bC (.cells (flatC ((([]:List Nat)).map i64)) false);refine jn (σ:=(List Nat)×(Option Nat×Option Nat×Option Nat×(List Nat))) hm 138 [9,10,13] (fun s=>s.1) (fun (v70,(a66,a67,a68,a69)) h=>(a27=none->x2=[])/\(a12=none->x5=[])/\(a66=none->x6=[])/\RowsOk a30 v29/\(a67=none->v70++a69=[])/\(a68=none\/a68=some 1)/\Own vars h0 ([(sC a8 [(pG a9),(ae 1 a12 (x5.map (aV 1 i64))),(ae 1 a66 (x6.map i64)),(.map (some a14))]),(sC a9 [(ae 1 a27 (x2.map i64)),(.slice (some ⟨a11,0,none⟩) x4 x4)]),(a27,.cells (flatC (x2.map i64)) false),(sC a11 (flatC (v28.map i64))),(a12,.cells (flatC (x5.map (aV 1 i64))) false),(a66,.cells (flatC (x6.map i64)) false),((some a14),.map (bT i64 i64 x7)),(sC g25 (aw 1 i64 a30 v29)),(sC g63 (flatC ((List.replicate x5.length (false:Bool)).map Value.bool))),(a67,.cells (flatC ((v70++a69).map i64)) false)]++(aC i64 a30 v29)) h) (fun (v70,(a66,a67,a68,a69))=>[(14,(stV i64 a67 a68 v70 a69))]) (fun hm=>?_) ?_
   ·refine gX ?_;refine lw 138 [1,9,10,13,64,65] (σ:=((List Nat)×Nat)×(Option Nat×Option Nat×Option Nat×(List Nat))) (fun s=>s.1) (fun ((v82,v83),(a78,a79,a80,a81)) h=>(a27=none->x2=[])/\(a12=none->x5=[])/\(a78=none->x6=[])/\RowsOk a30 v29/\(a79=none->v82++a81=[])/\(a80=none\/a80=some 1)/\Own vars h0 ([(sC a8 [(pG a9),(ae 1 a12 (x5.map (aV 1 i64))),(ae 1 a78 (x6.map i64)),(.map (some a14))]),(sC a9 [(ae 1 a27 (x2.map i64)),(.slice (some ⟨a11,0,none⟩) x4 x4)]),(a27,.cells (flatC (x2.map i64)) false),(sC a11 (flatC (v28.map i64))),(a12,.cells (flatC (x5.map (aV 1 i64))) false),(a78,.cells (flatC (x6.map i64)) false),((some a14),.map (bT i64 i64 x7)),(sC g25 (aw 1 i64 a30 v29)),(sC g63 (flatC ((List.replicate x5.length (false:Bool)).map Value.bool))),(a79,.cells (flatC ((v82++a81).map i64)) false)]++(aC i64 a30 v29)) h) (fun ((v82,v83),(a78,a79,a80,a81))=>[(14,(stV i64 a79 a80 v82 a81)),(66,(i64 v83))]) ((([]:List Nat),0),(a13,none,none,([]:List Nat))) hm ⟨ha31,ha32,ha33,hr34,(fun _=>rfl),(.inl rfl),(Own.fY [(none,.cells (flatC ((([]:List Nat)++([]:List Nat)).map i64)) false),(sC g63 (flatC ((List.replicate x5.length (false:Bool)).map Value.bool))),(sC a8 [(pG a9),(ae 1 a12 (x5.map (aV 1 i64))),(ae 1 a13 (x6.map i64)),(.map (some a14))]),(sC a9 [(ae 1 a27 (x2.map i64)),(.slice (some ⟨a11,0,none⟩) x4 x4)]),(a27,.cells (flatC (x2.map i64)) false),(sC a11 (flatC (v28.map i64))),(a12,.cells (flatC (x5.map (aV 1 i64))) false),(a13,.cells (flatC (x6.map i64)) false),((some a14),.map (bT i64 i64 x7)),(sC g25 (aw 1 i64 a30 v29))] (L:=(aC i64 a30 v29)) O [2,3,4,5,6,7,8,9,1,0] (by decide))⟩ ?_;clear hm;rintro⟨⟨v82,v83⟩,⟨a78,a79,a80,a81⟩⟩ nx90 base h hm ⟨ha84,ha85,ha86,hr87,ha88,ht89,O⟩;refine gX ?_;refine br hm (fun hm=>?_) fun hm=>?_
    ·refine gX ?_;refine atF hm fun x91 hx91 hm=>?_;refine gH ?_
     apply Cs;conv=>whnf
     refine jn hm 138 [1,9,10,13,14,16,64,65,66] (fun s=>s) (fun v92 h=>(a27=none->x2=[])/\(a12=none->x5=[])/\(a78=none->x6=[])/\RowsOk a30 v29/\(a79=none->v82++a81=[])/\(a80=none\/a80=some 1)/\Own vars h0 ([(sC a8 [(pG a9),(ae 1 a12 (x5.map (aV 1 i64))),(ae 1 a78 (x6.map i64)),(.map (some a14))]),(sC a9 [(ae 1 a27 (x2.map i64)),(.slice (some ⟨a11,0,none⟩) x4 x4)]),(a27,.cells (flatC (x2.map i64)) false),(sC a11 (flatC (v28.map i64))),(a12,.cells (flatC (x5.map (aV 1 i64))) false),(a78,.cells (flatC (x6.map i64)) false),((some a14),.map (bT i64 i64 x7)),(sC g25 (aw 1 i64 a30 v29)),(sC g63 (flatC ((List.replicate x5.length (false:Bool)).map Value.bool))),(a79,.cells (flatC ((v82++a81).map i64)) false)]++(aC i64 a30 v29)) h) (fun v92=>[(77,(.bool v92))]) (fun hm=>?_) ?_
     ·refine gX ?_;refine br hm (fun hm=>?_) fun hm=>?_
      ·refine gX ?_;exact jx true hm ⟨ha84,ha85,ha86,hr87,ha88,ht89,O⟩
      ·refine gX ?_;exact jx (!ltI x91 (Int.ofNat p1.length)) hm ⟨ha84,ha85,ha86,hr87,ha88,ht89,O⟩
     ·clear hm;rintro v92 base h hm ⟨ha93,ha94,ha95,hr96,ha97,ht98,O⟩;refine gX ?_;refine br hm (fun hm=>?_) fun hm=>?_
      ·refine gX ?_;exact⟨([],1),hm,O.ext,fun h2 F=>VLe.tup (LLe.cons (VLe.HX _ _ _) (LLe.cons (VLe.refl _ _) (LLe.nil _)))⟩
      ·refine gX ?_;obtain⟨j101,hz,x100,hx100,hm⟩:=hm;have h9:=hm;obtain⟨g102,rfl⟩:=fP ha95 hx100;replace hm:=h9;refine bb (s:=1) (j:=j101) rfl rfl rfl (congrArg (Value.int .i64) hz) (by rw[List.length_map];exact ag hx100) ?_;refine gH ?_;refine ldE (s:=1) (i:=0) O.i5 hx100 ?_;refine gH ?_;refine fz ?_;refine gH ?_;refine O.A7 (enc:=i64) (l:=v82) (J:=a81) (new:=([x100]:(List Nat))) (s:=1) (b:=8) (.tail _ (.tail _ (.tail _ (.tail _ (.tail _ (.tail _ (.tail _ (.tail _ (.tail _ (.head _)))))))))) ha97 ht98 rfl rfl rfl rfl rfl rfl rfl rfl (YOk.fl rfl) (fun _=>rfl) (fun _=>rfl) (by decide) hm.1 fun a103 a104 a105 h ha106 ht107 O=>?_;refine gX ?_;replace hm:=hm.2;refine aH hm fun hm=>?_;refine gH ?_;exact jx (((v82++([x100]:(List Nat))),(v83+1)),((some g102),a103,a104,a105)) hm ⟨ha93,ha94,cE,hr96,ha106,ht107,O⟩
    ·refine gX ?_;exact jx (v82,(a78,a79,a80,a81)) hm ⟨ha84,ha85,ha86,hr87,ha88,ht89,O⟩
   ·clear hm;rintro⟨v70,⟨a66,a67,a68,a69⟩⟩ base h hm ⟨ha71,ha72,ha73,hr74,ha75,ht76,O⟩
    conv=>whnf
    refine jn hm 138 [9,13] (fun s=>s) (fun v108 h=>(a27=none->x2=[])/\(a12=none->x5=[])/\(a66=none->x6=[])/\Own vars h0 [(sC a8 [(pG a9),(ae 1 a12 (x5.map (aV 1 i64))),(ae 1 a66 (x6.map i64)),(.map (some a14))]),(sC a9 [(ae 1 a27 (x2.map i64)),(.slice (some ⟨a11,0,none⟩) x4 x4)]),(a27,.cells (flatC (x2.map i64)) false),(sC a11 (flatC (v28.map i64))),(a12,.cells (flatC (x5.map (aV 1 i64))) false),(a66,.cells (flatC (x6.map i64)) false),((some a14),.map (bT i64 i64 x7)),(sC g63 (flatC (v108.map Value.bool)))] h) (fun v108=>[]) (fun hm=>?_) ?_
    ·refine gX ?_;refine lw 138 [9,10,13] (σ:=((List Bool)×(List Nat))×(Option Nat×Option Nat×(List Nat))) (fun s=>s.1) (fun ((v113,v117),(a114,a115,a116)) h=>(a27=none->x2=[])/\(a12=none->x5=[])/\(a66=none->x6=[])/\RowsOk a30 v29/\(a114=none->v117++a116=[])/\(a115=none\/a115=some 1)/\Own vars h0 ([(sC a8 [(pG a9),(ae 1 a12 (x5.map (aV 1 i64))),(ae 1 a66 (x6.map i64)),(.map (some a14))]),(sC a9 [(ae 1 a27 (x2.map i64)),(.slice (some ⟨a11,0,none⟩) x4 x4)]),(a27,.cells (flatC (x2.map i64)) false),(sC a11 (flatC (v28.map i64))),(a12,.cells (flatC (x5.map (aV 1 i64))) false),(a66,.cells (flatC (x6.map i64)) false),((some a14),.map (bT i64 i64 x7)),(sC g25 (aw 1 i64 a30 v29)),(sC g63 (flatC (v113.map Value.bool))),(a114,.cells (flatC ((v117++a116).map i64)) false)]++(aC i64 a30 v29)) h) (fun ((v113,v117),(a114,a115,a116))=>[(14,(stV i64 a114 a115 v117 a116))]) (((List.replicate x5.length (false:Bool)),v70),(a67,a68,a69)) hm ⟨ha71,ha72,ha73,hr74,ha75,ht76,O⟩ ?_;clear hm;rintro⟨⟨v113,v117⟩,⟨a114,a115,a116⟩⟩ nx124 base h hm ⟨ha118,ha119,ha120,hr121,ha122,ht123,O⟩;refine gX ?_;refine br hm (fun hm=>?_) fun hm=>?_
     ·refine gX ?_;refine nW hm fun hm=>?_;refine gH ?_;obtain⟨x125,hx125,hm⟩:=hm;have h9:=hm;obtain⟨g126,rfl⟩:=Fe ha122 hx125;replace hm:=h9;refine bb (s:=1) (j:=(v117.length-1)) rfl rfl rfl rfl (ag hx125) ?_;refine gH ?_;replace hx125:=Ic (J:=a116) hx125;refine ldE (s:=1) (i:=0) O.i9 hx125 ?_;refine gX ?_;refine nW hm fun hm=>?_;refine gH ?_;refine Ih (enc:=i64) (l:=v117) (J:=a116) (s:=1) (k:=(v117.length-1)) rfl rfl rfl ht123 rfl hm.1 ?_;refine gX ?_;rw[Jw (enc:=i64) v117 a116 (v117.length-1)] at O;replace hm:=hm.2;refine ix 1 hm fun x127 hx127 hm=>?_;refine gH ?_;refine ldE (s:=1) (i:=0) O.i8 hx127 ?_;refine gX ?_;refine br hm (fun hm=>?_) fun hm=>?_
      ·refine gX ?_;refine ix 1 hm fun x128 hx128 hm=>?_;refine gH ?_;refine O.stE 1 (.tail _ (.tail _ (.tail _ (.tail _ (.tail _ (.tail _ (.tail _ (.tail _ (.head _))))))))) hx128 true fun h O=>?_;refine gX ?_;refine bb (s:=1) (j:=x125) rfl rfl rfl rfl hm.1 ?_;refine gH ?_;replace hm:=hm.2;obtain⟨x129,hx129,hm⟩:=hm;obtain⟨a130,hA132,ha131,O⟩:=Own.focus (S:=[(sC a8 [(pG a9),(ae 1 a12 (x5.map (aV 1 i64))),(ae 1 a66 (x6.map i64)),(.map (some a14))]),(sC a9 [(ae 1 a27 (x2.map i64)),(.slice (some ⟨a11,0,none⟩) x4 x4)]),(a27,.cells (flatC (x2.map i64)) false),(sC a11 (flatC (v28.map i64))),(a12,.cells (flatC (x5.map (aV 1 i64))) false),(a66,.cells (flatC (x6.map i64)) false),((some a14),.map (bT i64 i64 x7)),(sC g25 (aw 1 i64 a30 v29)),(sC g63 (flatC ((v113.set x125 true).map Value.bool))),(sC g126 (flatC (((v117.take (v117.length-1))++(v117.drop (v117.length-1)++a116)).map i64)))]) hr121 O hx129;refine⟨_,nL O.i8 hA132 hx129 rfl rfl,?_⟩;refine gH ?_;refine O.A7 (enc:=i64) (l:=(v117.take (v117.length-1))) (J:=(v117.drop (v117.length-1)++a116)) (new:=x129) (s:=1) (b:=8) (.tail _ (.tail _ (.tail _ (.tail _ (.tail _ (.tail _ (.tail _ (.tail _ (.tail _ (.tail _ (.head _))))))))))) cE ht123 rfl rfl rfl rfl rfl rfl rfl rfl (YOk.gr O (.head _) ha131.1 (fun _=>rfl) rfl) (fun _=>rfl) (fun _=>rfl) (by decide) hm.1 fun a134 a135 a136 h ha137 ht138 O=>?_;refine gH ?_;replace hm:=hm.2;replace O:=Own.nQ (S:=[(sC a8 [(pG a9),(ae 1 a12 (x5.map (aV 1 i64))),(ae 1 a66 (x6.map i64)),(.map (some a14))]),(sC a9 [(ae 1 a27 (x2.map i64)),(.slice (some ⟨a11,0,none⟩) x4 x4)]),(a27,.cells (flatC (x2.map i64)) false),(sC a11 (flatC (v28.map i64))),(a12,.cells (flatC (x5.map (aV 1 i64))) false),(a66,.cells (flatC (x6.map i64)) false),((some a14),.map (bT i64 i64 x7)),(sC g25 (aw 1 i64 a30 v29)),(sC g63 (flatC ((v113.set x125 true).map Value.bool))),(a134,.cells (flatC ((((v117.take (v117.length-1))++x129)++a136).map i64)) false)]) O hx129 hr121;rw[iJ hx129,mE hA132] at O;exact jx (((v113.set x125 true),((v117.take (v117.length-1))++x129)),(a134,a135,a136)) hm ⟨ha118,ha119,ha120,hr121,ha137,ht138,O⟩
      ·refine gX ?_;exact jx ((v113,(v117.take (v117.length-1))),((some g126),a115,(v117.drop (v117.length-1)++a116))) hm ⟨ha118,ha119,ha120,hr121,cE,ht123,O⟩
     ·refine gX ?_;exact jx v113 hm ⟨ha118,ha119,ha120,(Own.fst (Own.fY [(sC a8 [(pG a9),(ae 1 a12 (x5.map (aV 1 i64))),(ae 1 a66 (x6.map i64)),(.map (some a14))]),(sC a9 [(ae 1 a27 (x2.map i64)),(.slice (some ⟨a11,0,none⟩) x4 x4)]),(a27,.cells (flatC (x2.map i64)) false),(sC a11 (flatC (v28.map i64))),(a12,.cells (flatC (x5.map (aV 1 i64))) false),(a66,.cells (flatC (x6.map i64)) false),((some a14),.map (bT i64 i64 x7)),(sC g25 (aw 1 i64 a30 v29)),(sC g63 (flatC (v113.map Value.bool))),(a114,.cells (flatC ((v117++a116).map i64)) false)] (L:=(aC i64 a30 v29)) O [0,1,2,3,4,5,6,8] (by decide)))⟩
    ·clear hm;rintro v108 base h hm ⟨ha109,ha110,ha111,O⟩
     conv=>whnf
     apply Cs;conv=>whnf
     apply Cs;refine gH ?_;have O:=O.bC (.cells (flatC ((([]:List Nat)).map i64)) false);refine jn (σ:=(List Nat)×Option Nat) hm 138 [] (fun s=>s.1) (fun (v141,a140) h=>(a140=none->v141=[])/\Own vars h0 [(a140,.cells (flatC (v141.map i64)) false)] h) (fun (v141,a140)=>[(18,(ae 1 a140 (v141.map i64)))]) (fun hm=>?_) ?_
     ·refine gX ?_;refine lw 138 [13,121] (σ:=((List Nat)×Nat)×(Option Nat×Option Nat)) (fun s=>s.1) (fun ((v145,v147),(a144,a146)) h=>(a144=none->v145=[])/\(a146=none->x6=[])/\Own vars h0 [(sC g63 (flatC (v108.map Value.bool))),(a144,.cells (flatC (v145.map i64)) false),(a146,.cells (flatC (x6.map i64)) false)] h) (fun ((v145,v147),(a144,a146))=>[(18,(ae 1 a144 (v145.map i64))),(120,(ae 1 a146 (x6.map i64))),(122,(i64 v147))]) ((([]:List Nat),0),(none,a66)) hm ⟨(fun _=>rfl),ha111,(O.sel [8,0,6] (by decide))⟩ ?_;clear hm;rintro⟨⟨v145,v147⟩,⟨a144,a146⟩⟩ nx150 base h hm ⟨ha148,ha149,O⟩;refine gX ?_;refine br hm (fun hm=>?_) fun hm=>?_
      ·apply Cs;conv=>whnf
       refine jn (σ:=(List Nat)×(Option Nat×Option Nat)) hm 138 [13,121,122] (fun s=>s.1) (fun (v152,(a151,a153)) h=>(a151=none->v152=[])/\(a153=none->x6=[])/\Own vars h0 [(sC g63 (flatC (v108.map Value.bool))),(a151,.cells (flatC (v152.map i64)) false),(a153,.cells (flatC (x6.map i64)) false)] h) (fun (v152,(a151,a153))=>[(18,(ae 1 a151 (v152.map i64))),(120,(ae 1 a153 (x6.map i64)))]) (fun hm=>?_) ?_
       ·refine gX ?_;obtain⟨x157,hx157,hm⟩:=hm;have h9:=hm;obtain⟨g158,rfl⟩:=fP ha149 hx157;replace hm:=h9;refine bb (s:=1) (j:=v147) rfl rfl rfl rfl (by rw[List.length_map];exact ag hx157) ?_;refine gH ?_;refine ldE (s:=1) (i:=0) O.i2 hx157 ?_;refine gX ?_;refine ix 1 hm fun x159 hx159 hm=>?_;refine gH ?_;refine ldE (s:=1) (i:=0) O.i0 hx159 ?_;refine gX ?_;refine br hm (fun hm=>?_) fun hm=>?_
        ·refine gX ?_;refine fz ?_;refine gH ?_;refine O.apL (enc:=i64) (l:=v145) (new:=([v147]:(List Nat))) 1 (.tail _ (.head _)) ha148 hm fun a160 h ha161 O hm=>?_;refine gH ?_;exact jx ((v145++([v147]:(List Nat))),(a160,(some g158))) hm ⟨ha161,cE,O⟩
        ·refine gX ?_;exact jx (v145,(a144,(some g158))) hm ⟨ha148,cE,O⟩
       ·clear hm;rintro⟨v152,⟨a151,a153⟩⟩ base h hm ⟨ha154,ha155,O⟩;refine gX ?_;refine aH hm fun hm=>?_;refine gH ?_;exact jx ((v152,(v147+1)),(a151,a153)) hm ⟨ha154,ha155,O⟩
      ·refine gX ?_;exact jx (v145,a144) hm ⟨ha148,(O.sel [1] (by decide))⟩
     ·clear hm;rintro⟨v141,a140⟩ base h hm ⟨ha142,O⟩;refine gX ?_;refine fg Tryz.func76 ?_;refine gX ?_;refine ui (s:=1) (enc:=i64) (l:=v141) (n:=v141.length) (m:=v141.length) rfl rfl rfl rfl rfl rfl rfl ?_;refine gX ?_;exact⟨(v141,0),hm,O.ext,fun h2 F=>VLe.tup (LLe.cons (O.HY F (Nat.le_refl _) (.head _) ha142 (fun _=>rfl)) (LLe.cons (VLe.refl _ _) (LLe.nil _)))⟩
set_option maxHeartbeats 8000000
def mu (m:Nat) (ls:List LnZ):List Flt:=ls.flatMap fun x=>[⟨m,x,0,0⟩,⟨m,x,1,0⟩]
theorem xj {m:Nat}{ls:List LnZ}{k:Nat}{x:LnZ} (hx:ls[k]?=some x):mu m (ls.take (k+1))=mu m (ls.take k)++[⟨m,x,0,0⟩]++[⟨m,x,1,0⟩]:=by
 have:ls.take (k+1)=ls.take k++[x]:=by
  rw[List.take_add_one,hx];rfl
 rw[this];simp[mu]
theorem AB (m:Nat) (ls:List LnZ):(mu m ls).length=2*ls.length:=by
 induction ls with
 |nil=>rfl
 |cons x l ih=>simp[mu] at ih ⊢;omega
theorem vA {c:Circ}{m:Nat}{ls:List LnZ} (hl:cb c (fun r=>r=(ls,0))) (hm:m<2) (hn:2*ls.length<65536) :
  FnV Tryz.prog NG vars 15 ⟨[ar c,n8 m]⟩ (.tuple ⟨[ah 5 az (mu m ls),i64 0]⟩):=by
 refine fnT Tryz.func15 (by exact rfl) (fk Tryz.func15) (lbE rfl) (PureV.tup (AllPure.cons (cF (fun _=>nO _)) (AllPure.cons (PureV.flat rfl) (AllPure.nil)))) fun h0 O=>?_;refine CodeT.seq hM (by kernel_rfl) ?_;refine gX ?_;refine fz ?_;refine gH ?_;refine O.new (ai (l:=[nS]) rfl rfl rfl) fun g4 h O=>?_;refine gH ?_;refine O.new (ai (l:=[(i64 0)]) rfl rfl rfl) fun g5 h O=>?_;refine gH ?_;refine CodeT.seq hM (by kernel_rfl) ?_;refine gX ?_;refine ca (gK hl O.has) fun r1 hm1=>?_;subst hm1;refine gX ?_;refine CodeT.seq hM (by kernel_rfl) ?_;refine gX ?_;refine bf ?_;refine gX ?_;refine bf ?_ (congrArg Value.bool (by show ltN 3 m=false;rw[aY];simp;omega));refine gX ?_;refine CodeT.seq hM (by kernel_rfl) ?_;refine gX ?_;refine O.new (ai (l:=[nS]) rfl rfl rfl) fun g8 h O=>?_;refine gH ?_;refine CodeT.range hM (by kernel_rfl) ?_;refine gX ?_;refine fg Tryz.func51 ?_;refine gX ?_;refine fz ?_;refine gH ?_;refine fz ?_;refine gH ?_;refine fz ?_;refine gX ?_;have O:=O.bC (.cells (flatC (([]:List Flt).map az)) false);refine RangeT.mk' 112 [FP (n8 m),FP (ah 2 dC ls),FP (ar c)] (by exact rfl) (by exact rfl) (fk Tryz.func112) fun L D q I hI kept hq1 hq2 hq3 hq4 hq5=>?_;have yl:∀ (pre:List Flt) (a:Option Nat) (L':List Slot) (h:Heap) (x:Flt),(a=none->pre=[])->pre.length<65536->Own vars h0 ((a,.cells (flatC (pre.map az)) false)::(some g8,.cells [ae 5 a (pre.map az)] false)::L') h ->
   ∃ h',YC Tryz.prog NG I L [az x] h (.bool true) h'/\∃ a',(a'=none->pre++[x]=[])/\Own vars h0 ((a',.cells (flatC ((pre++[x]).map az)) false)::(some g8,.cells [ae 5 a' ((pre++[x]).map az)] false)::L') h':=by
  intro pre a L' h x ha hlen O;subst hI;refine IT hq1 hq4 hq5 (fun p m=>by cases m with|head=>exact (show (26:Nat)<36 by decide) | tail _ m=>cases m) rfl ?_;rw[hq2,hq3,JH];refine CodeY.cut (nn:=36) (fun h=>Own vars h0 ((a,.cells (flatC (pre.map az)) false)::(some g8,.cells [ae 5 a (pre.map az)] false)::L') h) [(8,.pointer (some ⟨g8,0,none⟩)),(26,az x)] rfl ⟨O,by rw[Env.dq];rfl,by rw[Env.dq];rfl,trivial⟩ ?_
  clear O;intro base O;conv=>whnf
  refine CodeY.reg kZ (by kernel_rfl) (by kernel_rfl) ?_;refine gH ?_;refine O.new (ai (l:=[(n8 0),(i64 0),(z64 0),(n8 0),(i64 0)]) rfl rfl rfl) fun g9 h O=>?_;refine gH ?_;refine O.stC 5 (.head _) [(n8 x.model),(i64 x.line.node),(z64 x.line.pin),(n8 x.value),(i64 x.other)] fun h O=>?_;refine gH ?_;refine CodeY.block (CodeY.seq kZ (CodeY.seq kZ (CodeY.reg kZ (by kernel_rfl) (by kernel_rfl) ?_)));refine gH ?_;refine CodeY.cond (by exact rfl) false (congrArg Value.bool (by show eqN pre.length 65536=false;rw[kI];simp;omega)) (CodeY.skip ?_);refine gX ?_;refine CodeY.reg kZ (by kernel_rfl) (by kernel_rfl) ?_;refine gH ?_;refine ldA O.i0 ?_;refine gH ?_;refine fz ?_;refine gH ?_;refine O.apL (b:=40) (W:=True) (enc:=az) (l:=pre) (new:=[x]) 5 (.tail _ (.head _)) ha ⟨by simp;omega,trivial⟩ fun a' h ha' O _=>?_;refine gH ?_;refine O.stC 1 (.tail _ (.tail _ (.head _))) [ae 5 a' ((pre++[x]).map az)] fun h O=>?_;refine gH ?_;exact⟨a',ha',O.tail⟩
 refine J6 Tryz.func112 (by exact rfl) (by exact rfl) (lbE rfl) ?_;refine CodeY.seq kept (CodeY.reg kept (by kernel_rfl) (by kernel_rfl) ?_);refine gH ?_;refine fz ?_;refine gH ?_;refine CodeY.seq kept (CodeY.seq kept (CodeY.reg kept (by kernel_rfl) (by kernel_rfl) ?_));refine gH ?_;refine CodeY.cond (by exact rfl) true (congrArg Value.bool (by show ltN m 2=true;rw[aY];simp;omega)) ?_;refine CodeY.seq kept (CodeY.seq kept (CodeY.reg kept (by kernel_rfl) (by kernel_rfl) ?_));refine gH ?_
 refine CodeY.block (CodeY.loop kept (nn:=64) (σ:=Nat) (fun k h=>k<=ls.length/\∃ a,(a=none->mu m (ls.take k)=[])/\Own vars h0 [(a,.cells (flatC ((mu m (ls.take k)).map az)) false),(some g8,.cells [ae 5 a ((mu m (ls.take k)).map az)] false),(some g5,.cells [i64 0] false),(some g4,.cells [.slice none 0 0] false)] h)
  (fun k=>[(1,FP (n8 m)),(4,FP (.func (.yield L) ⟨[]⟩ ⟨[]⟩)),(12,ah 2 dC ls),(13,i64 ls.length),(14,i64 k)]) (fun k=>ls.length-k) rfl ⟨0,⟨Nat.zero_le _,none,fun _=>rfl,O⟩,rfl,rfl,rfl,rfl,rfl,trivial⟩ ?_)
 clear O;rintro k base h ⟨hk,a,ha,O⟩;conv=>whnf
 refine CodeY.seq kept (CodeY.reg kept (by kernel_rfl) (by kernel_rfl) ?_);refine gH ?_;by_cases hlt:k<ls.length
 ·obtain⟨x,hx⟩:∃ x,ls[k]?=some x:=⟨_,List.getElem?_eq_getElem hlt⟩
  have hlen:(mu m (ls.take k)).length=2*k:=by rw[AB,List.length_take,Nat.min_eq_left hk]
  refine CodeY.seq kept (CodeY.cond (by exact rfl) true (congrArg Value.bool (by show ltN k ls.length=true;rw[aY];simp;omega)) (CodeY.skip ?_));refine gX ?_;refine CodeY.seq kept (CodeY.block (CodeY.seq kept (CodeY.reg kept (by kernel_rfl) (by kernel_rfl) ?_)));refine gH ?_;refine atF (W:=fun _=>True) ⟨x,hx,trivial⟩ fun x' hx' _=>?_
  obtain rfl:x=x':=by rw[hx] at hx';exact Option.some.inj hx'
  refine gH ?_;refine O.new (ai (l:=[(i64 0),(z64 0)]) rfl rfl rfl) fun g6 h O=>?_;refine gH ?_;refine O.stC 2 (.head _) [(i64 x.node),(z64 x.pin)] fun h O=>?_;refine gH ?_;refine CodeY.seq kept (CodeY.region kept (by kernel_rfl) (by kernel_rfl) (RegYS.IV 4 ?_));refine gH ?_;refine ldA O.i0 ?_;refine gH ?_;have O:=O.sel [1,2,0,3,4] (by decide);obtain⟨h1,y1,a1,ha1,O⟩:=yl (mu m (ls.take k)) a [(some g6,.cells [(i64 x.node),(z64 x.pin)] false),(some g5,.cells [i64 0] false),(some g4,.cells [.slice none 0 0] false)] h ⟨m,x,0,0⟩ ha (by omega) O;refine RegYS.yield (by exact rfl) (by exact rfl) (by exact rfl) (by exact rfl) y1 ?_;refine gH ?_;refine RegYS.IV 6 ?_;refine gH ?_;refine bf ?_;refine gH ?_;refine ldA O.i2 ?_;refine gH ?_;obtain⟨h2,y2,a2,ha2,O⟩:=yl _ a1 _ h1 ⟨m,x,1,0⟩ ha1 (by simp;omega) O;refine RegYS.yield (by exact rfl) (by exact rfl) (by exact rfl) (by exact rfl) y2 ?_;refine gH ?_;refine RegYS.IV 2 ?_;refine gH ?_;refine RegYS.nil ?_;refine gX ?_;refine CodeY.cond (by exact rfl) false (by exact rfl) (CodeY.skip ?_);refine gX ?_;refine CodeY.reg kept (by kernel_rfl) (by kernel_rfl) ?_;refine gH ?_;refine aH (a:=k) (b:=1) (W:=True) ⟨by omega,trivial⟩ fun _=>?_;refine gH ?_;refine⟨k+1,by omega,⟨hlt,a2,?_,?_⟩,rfl,rfl,rfl,rfl,rfl,trivial⟩
  ·rw[xj hx];exact ha2
  ·rw[xj hx];exact O.sel [0,1,3,4] (by decide)
 ·obtain rfl:k=ls.length:=by omega
  refine CodeY.seq kept (CodeY.cond (by exact rfl) false (congrArg Value.bool (by show ltN ls.length ls.length=false;rw[aY];simp)) (CodeY.exit ?_));refine gX ?_;rw[List.take_length] at O ha;refine CodeY.ret ?_;intro D';refine CodeY.seq wS (CodeY.reg wS (by kernel_rfl) (by kernel_rfl) ?_);refine gH ?_;refine fg Tryz.func52 ?_;refine gX ?_;refine ui (s:=5) (enc:=az) (l:=mu m ls) (n:=(mu m ls).length) (m:=(mu m ls).length) rfl rfl rfl rfl rfl rfl rfl ?_;refine gX ?_;refine O.stC 1 (.tail _ (.tail _ (.tail _ (.head _)))) [iW a ((mu m ls).map az)] fun h O=>?_;refine gH ?_;refine O.stC 1 (.tail _ (.tail _ (.head _))) [i64 0] fun h O=>?_;refine gH ?_
  refine CodeY.ret ?_;conv=>whnf
  refine⟨_,JX rfl rfl O.i3 rfl rfl,?_⟩;conv=>whnf
  refine⟨_,JX rfl rfl O.i2 rfl rfl,?_⟩;conv=>whnf
  exact⟨O.ext,fun h2 F=>VLe.tup (LLe.cons (O.B0 F (Nat.le_refl _) (.head _) ha (fun _=>rfl)) (LLe.cons (VLe.refl _ _) (LLe.nil _)))⟩
def iH (p0:Circ) (p1:Nat) (K:((List Flt)×Nat)->Prop):Prop :=
 ∃ ls:List LnZ,cb p0 (fun r=>r=(ls,0))/\p1<2/\2*ls.length<65536/\K (mu p1 ls,0)
theorem mh {p0:Circ}{p1:Nat}{K:((List Flt)×Nat)->Prop} (hm:iH p0 p1 K) {h0:Heap} (hB:HasB vars h0):∃ r,K r/\CallD Tryz.prog NG 15 ⟨[ar p0,n8 p1]⟩ h0 ((fun (r:((List Flt)×Nat))=>Value.tuple ⟨[(ah 5 az) (r.1),i64 (r.2)]⟩) r) h0:=by
 obtain⟨ls,h1,h2,h3,hk⟩:=hm;exact⟨_,hk,(vA h1 h2 h3).call h0 hB⟩
structure GoodN (c:Circ) (i:Nat) (x:Node):Prop where
 kind:x.kind<=15
 arity:Arity x.kind x.ins.length
 ins:∀ k∈x.ins,k<c.nodes.length
 bus:x.kind=13->∀ k∈x.ins,∃ y,c.nodes[k]?=some y/\y.kind=12
 mem:x.kind≠15->x.mem=0/\x.bit=0
 memb:x.kind=15->∃ m,c.mems[x.mem]?=some m/\x.bit<m.data.length
 acyc:1<=x.kind->x.kind<=13->∀ k∈x.ins,k<i
structure GoodM (c:Circ) (m:Memo):Prop where
 addr:1<=m.addr.length/\m.addr.length<=8
 data:1<=m.data.length/\m.data.length<=32
 addrs:∀ k∈m.addr,k<c.nodes.length
 datas:∀ k∈m.data,k<c.nodes.length
 write:m.write<c.nodes.length
structure Good (c:Circ):Prop where
 len:c.nodes.length<=16
 names:c.names.length=c.nodes.length
 namesOk:NamesOk c
 fanOk:FanOk c
 mems:∀ m∈c.mems,GoodM c m
 memsLen:c.mems.length<=16
 outs:∀ o∈c.outs,o<c.nodes.length
 outsLen:c.outs.length<=16
 node:∀ i x,c.nodes[i]?=some x->GoodN c i x
 pos:0<c.nodes.length
theorem J5 (k:Nat) (hk:k<=15):hiZ k<=16:=by
 have:∀ k,k<=15->hiZ k<=16:=by decide
 exact this k hk
theorem GoodN.few {c:Circ}{i:Nat}{x:Node} (g:GoodN c i x):x.ins.length<=16:=by
 have h1:=J5 _ g.kind;have h2:=g.arity.2;simp only[Int.ofNat_eq_natCast] at h2;omega
theorem lA {l:List Nat}{c:Circ}{K:Bool->Prop} (hl:∀ k∈l,k<c.nodes.length) (hn:l.length<2 ^ 60) (h:K false):cJ l c K:=by
 unfold cJ gh;refine fT (l:=l) ?_ ?_ h
 ·intro k i nx x hx hi hnx;have hx2:=hl x (List.mem_of_getElem? hx);exact⟨fun _=>⟨x,hx,fun h1=>absurd (aO.1 h1) (Nat.not_lt_zero _),fun _=>⟨fun h2=>absurd (rN.1 h2) (by omega),fun _=>⟨by omega,hnx⟩⟩⟩,fun h1=>absurd (bk.1 h1) (by omega)⟩
 ·intro k i nx hi hk;exact⟨fun h1=>absurd (aO.1 h1) (by omega),fun _=>hk⟩
theorem Da {l:List Nat}{c:Circ}{K:Bool->Prop} (hl:∀ k∈l,∃ y,c.nodes[k]?=some y/\y.kind=12) (hn:l.length<2 ^ 60) (h:K false):gP l c K:=by
 unfold gP iA;refine fT (l:=l) ?_ ?_ h
 ·intro k i nx x hx hi hnx;obtain⟨y,hy,hk⟩:=hl x (List.mem_of_getElem? hx);exact⟨fun _=>⟨x,hx,y,hy,fun h1=>absurd hk (fx.1 h1),fun _=>⟨by omega,hnx⟩⟩,fun h1=>absurd (bk.1 h1) (by omega)⟩
 ·intro k i nx hi hk;exact⟨fun h1=>absurd (aO.1 h1) (by omega),fun _=>hk⟩
theorem BO {k:Nat}{K:Bool->Prop} (h:K (decide (1<=k/\k<=13))):cL k K:=by
 unfold cL;by_cases c1:1<=k
 ·refine⟨fun _=>?_,fun q=>absurd (wh.1 q) (by omega)⟩
  have:(!ltN 13 k)=decide (1<=k/\k<=13):=by rw[Bool.eq_iff_iff,rN];simp[c1]
  rw[this];exact h
 ·refine⟨fun q=>absurd (rN.1 q) c1,fun _=>?_⟩;have:decide (1<=k/\k<=13)=false:=decide_eq_false (fun q=>c1 q.1);rw[this] at h;exact h
theorem Ja {c:Circ}{x:Node}{K:Bool->Prop} (h1:x.kind≠15->x.mem=0/\x.bit=0) (h2:x.kind=15->∃ m,c.mems[x.mem]?=some m/\x.bit<m.data.length) (h:K true):da c x K:=by
 unfold da;refine⟨fun q=>?_,fun q=>?_⟩
 ·obtain⟨a,b⟩:=h1 (fx.1 q);refine⟨fun _=>?_,fun q=>absurd a (cY.1 q)⟩;rw[dA.2 b];exact h
 ·obtain⟨m,a,b⟩:=h2 (yC.1 q);refine⟨fun _=>⟨fun _=>⟨fun _=>⟨m,a,?_⟩,fun q=>absurd (wh.1 q) (Nat.not_lt_zero _)⟩,fun q=>absurd (bk.1 q) (by have:=ag a;omega)⟩,fun q=>absurd (wh.1 q) (Nat.not_lt_zero _)⟩;rw[aO.2 b];exact h
theorem HH {c:Circ}{i:Nat}{x:Node}{K:Nat->Prop} (g:GoodN c i x) (h:K 0):dy c x K:=by
 have hf:=g.few;unfold dy;refine yT (by have:=g.kind;omega) ?_;refine⟨fun q=>absurd (aO.1 q) (by have:=g.kind;omega),fun _=>?_⟩;have e1:ltN x.ins.length (loN x.kind)=false:=bk.2 g.arity.1;have e2:ltI (hiZ x.kind) (Int.ofNat x.ins.length)=false:=sn.2 g.arity.2;refine kW ?_;refine⟨fun q=>absurd (q.symm.trans e1) (by decide),fun _=>?_⟩
 show (ltI (hiZ x.kind) (Int.ofNat x.ins.length)=true->_)/\_
 rw[e2];refine⟨(fun q=>by cases q),fun _=>lA g.ins (by omega) ⟨(fun q=>by cases q),fun _=>?_⟩⟩
 have last:(false=true->K 7)/\(false=false->da c x fun r8=>((!r8)=true->K 1)/\((!r8)=false->K 0)) :=
  ⟨(fun q=>by cases q),fun _=>Ja g.mem g.memb ⟨(fun q=>by cases q),fun _=>h⟩⟩
 exact⟨fun q=>Da (g.bus (dA.1 q)) (by omega) last,fun _=>last⟩
theorem Ew {c:Circ}{K:Nat->Prop} (g:NamesOk c) (h:K 0):fZ c K:=⟨g,h⟩
theorem DQ {c:Circ}{m:Memo}{K:Nat->Prop} (g:GoodM c m) (h:K 0):cT c m K:=by
 have h1:=g.addr;have h2:=g.data;unfold cT;refine kW ⟨fun q=>absurd (dA.1 q) (by omega),fun _=>⟨fun q=>absurd (aO.1 q) (by omega),fun _=>⟨fun q=>absurd (dA.1 q) (by omega),fun _=>?_⟩⟩⟩;rw[bk.2 h2.2];refine⟨(fun q=>by cases q),fun _=>kW (lA g.addrs (by omega) ⟨(fun q=>by cases q),fun _=>lA g.datas (by omega) ⟨(fun q=>by cases q),fun _=>⟨fun q=>absurd (aO.1 q) (Nat.not_lt_zero _),fun _=>?_⟩⟩⟩)⟩;rw[aO.2 g.write];exact⟨(fun q=>by cases q),fun _=>h⟩
theorem Fx {c:Circ}{K:Nat->Prop} (g:Good c) (h:K 0):di c K:=by
 have hlen:=g.len;have hol:=g.outsLen;unfold di;have e1:ltN 16384 c.nodes.length=false:=bk.2 (by omega);have e2:ltN 16 c.mems.length=false:=bk.2 g.memsLen;have e3:ltN 16384 c.outs.length=false:=bk.2 (by omega);refine kW ?_;refine⟨fun q=>absurd (q.symm.trans e1) (by decide),fun _=>⟨fun q=>absurd (q.symm.trans e2) (by decide),fun _=>?_⟩⟩
 show (ltN 16384 c.outs.length=true->_)/\_
 rw[e3];refine⟨(fun q=>by cases q),fun _=>⟨fun q=>absurd g.names (fx.1 q),fun _=>?_⟩⟩;refine fT (l:=c.nodes) ?_ ?_ ?_
 ·intro k i nx x hx hi hnx;exact⟨fun _=>⟨x,hx,HH (g.node i x hx) ⟨(fun q=>absurd rfl (fx.1 q)),fun _=>⟨by omega,hnx⟩⟩⟩,fun h1=>absurd (bk.1 h1) (by omega)⟩
 ·intro k i nx hi hk;exact⟨fun h1=>absurd (aO.1 h1) (by omega),fun _=>hk⟩
 ·refine Ew g.namesOk ⟨(fun q=>absurd rfl (fx.1 q)),fun _=>?_⟩;refine fT (l:=c.mems) ?_ ?_ ?_
  ·intro k i nx x hx hi hnx;have:=g.memsLen;exact⟨fun _=>⟨x,hx,DQ (g.mems x (List.mem_of_getElem? hx)) ⟨fun q=>absurd rfl (fx.1 q),fun _=>⟨by omega,hnx⟩⟩⟩,fun h1=>absurd (bk.1 h1) (by omega)⟩
  ·intro k i nx hi hk;exact⟨fun h1=>absurd (aO.1 h1) (by omega),fun _=>hk⟩
  ·exact lA g.outs (by omega) ⟨(fun q=>by cases q),fun _=>h⟩
def ofN (c:Circ) (ks:List Nat):List Nat:=(List.range c.nodes.length).filter fun i=>ks.contains ((c.nodes.map Node.kind).getD i 0)
theorem xn {l:List Nat}{k:Nat}{K:Bool->Prop} (hn:l.length<2 ^ 60) (h:K (l.contains k)):dV l k K:=by
 unfold dV jE;refine aA (fun i=>i<=l.length/\(l.take i).contains k=false) (fun i=>l.length-i) (fun _=>l.contains k=false) ?_ ⟨Nat.zero_le _,by simp⟩ (fun _ e=>by rw[e] at h;exact h);intro kk i nx ⟨hi,hI⟩ hnx hk;refine⟨fun q=>?_,fun q=>?_⟩
 ·have q:=aO.1 q;obtain⟨x,hx⟩:=av q;refine⟨x,hx,fun e=>?_,fun e=>⟨by omega,hnx (i+1) ⟨q,?_⟩ (by omega)⟩⟩
  ·have e:=dA.1 e
   have:l.contains k=true:=by simp;rw[e];exact List.mem_of_getElem? hx
   rw[this] at h
   have e2:(!ltI (Int.ofNat i) (Int.ofNat 0))=true:=by
    have:ltI (Int.ofNat i) (Int.ofNat 0)=false:=sn.2 (Int.natCast_nonneg i);rw[this];rfl
   show K (!ltI (Int.ofNat i) (Int.ofNat 0))
   rw[e2];exact h
  ·have e:=cY.1 e;obtain⟨h1,rfl⟩:=List.getElem?_eq_some_iff.1 hx;rw[List.take_succ_eq_append_getElem h1];simp only[List.contains_eq_mem,List.mem_append,List.mem_singleton,decide_eq_false_iff_not] at hI ⊢;intro q2
   rcases q2 with q2|q2
   ·exact hI q2
   ·exact e q2
 ·have q:=bk.1 q;rw[List.take_of_length_le q] at hI;exact hk () hI
theorem FQ {c:Circ}{ks:List Nat}{K:List Nat->Prop} (hc:c.nodes.length<2 ^ 40) (hn:ks.length<2 ^ 60) (h:K (ofN c ks)):cO c ks K:=by
 unfold cO;refine aA (fun s=>s.2<=c.nodes.length/\s.1=(List.range s.2).filter fun i=>ks.contains ((c.nodes.map Node.kind).getD i 0)) (fun s=>c.nodes.length-s.2) (fun a=>a=ofN c ks) ?_ ⟨Nat.zero_le _,rfl⟩ (fun a e=>by rw[e];exact h);rintro k ⟨o,i⟩ nx ⟨hi,hI⟩ hnx hk;simp only at hi hI;refine⟨fun q=>?_,fun q=>?_⟩
 ·have q:=aO.1 q;obtain⟨x,hx⟩:=av q
  have hkd:(c.nodes.map Node.kind).getD i 0=x.kind:=by rw[List.getD,List.getElem?_map,hx];rfl
  have hol:o.length<=i:=by rw[hI];exact Nat.le_trans (List.length_filter_le _ _) (by simp)
  refine⟨x,hx,xn hn ⟨fun e=>⟨by simp only[List.length_singleton];omega,by omega,hnx (o++[i],i+1) ⟨q,?_⟩ (by simp only;omega)⟩,fun e=>⟨by omega,hnx (o,i+1) ⟨q,?_⟩ (by simp only;omega)⟩⟩⟩
  ·show o++[i]=_
   rw[List.range_succ,List.filter_append,<- hI];simp only[List.filter_cons,hkd,e,if_true,List.filter_nil]
  ·show o=_
   rw[List.range_succ,List.filter_append,<- hI];simp only[List.filter_cons,hkd,e,List.filter_nil];simp
 ·have q:=bk.1 q
  have:i=c.nodes.length:=by omega
  subst this;exact hk o hI
def kd (c:Circ) (i:Nat):Nat:=(c.nodes.map Node.kind).getD i 0
def insOf (c:Circ) (i:Nat):List Nat:=(c.nodes.map Node.ins).getD i []
theorem ia {c:Circ}{i:Nat}{x:Node} (h:c.nodes[i]?=some x):kd c i=x.kind:=by unfold kd;rw[List.getD,List.getElem?_map,h];rfl
theorem tC {c:Circ}{i:Nat}{x:Node} (h:c.nodes[i]?=some x):insOf c i=x.ins:=by unfold insOf;rw[List.getD,List.getElem?_map,h];rfl
def isComb (k:Nat):Prop:=1<=k/\k<=13
instance (k:Nat):Decidable (isComb k):=by unfold isComb;exact inferInstance
theorem oY (x:Nat):∀ (l:List Nat) (s:Nat),((l.zipIdx s).filter fun p=>p.1==x).length=l.count x
 |[],_=>rfl
 |a::l,s=>by
  rw[List.zipIdx_cons,List.filter_cons,List.count_cons];by_cases c:a=x
  ·simp[c,oY x l (s+1)]
  ·simp[c,oY x l (s+1)]
theorem vL (x idx i:Nat) (ins:List Nat):(bD x idx ins).countP (fun l=>l.node==i)=if idx=i then ins.count x else 0:=by
 unfold bD;rw[List.countP_map];by_cases c:idx=i
 ·rw[if_pos c,<- oY x ins 0];subst c;rw[List.countP_eq_length.2 (by intro p _;simp)]
 ·rw[if_neg c];rw[List.countP_eq_zero];intro p _;simpa using c
def fanOf (c:Circ) (x:Nat):List Ln:=c.nodes.zipIdx.flatMap fun p=>bD x p.2 p.1.ins
theorem pQ (x i:Nat):∀ (ns:List Node) (s:Nat),((ns.zipIdx s).flatMap fun p=>bD x p.2 p.1.ins).countP (fun l=>l.node==i)=if s<=i then ((ns.map Node.ins).getD (i-s) []).count x else 0
 |[],s=>by simp
 |a::ns,s=>by
  rw[List.zipIdx_cons,List.flatMap_cons,List.countP_append,vL,pQ x i ns (s+1)];by_cases c:s=i
  ·subst c;rw[if_pos rfl,if_neg (by omega),if_pos (Nat.le_refl _),Nat.sub_self];rfl
  ·rw[if_neg c];by_cases q:s<=i
   ·rw[if_pos (by omega:s+1<=i),if_pos q]
    have:i-s=(i-(s+1))+1:=by omega
    rw[this,Nat.zero_add];rfl
   ·rw[if_neg (by omega:¬ s+1<=i),if_neg q]
theorem wN (c:Circ) (x i:Nat):(fanOf c x).countP (fun l=>l.node==i)=(insOf c i).count x:=by
 have:=pQ x i c.nodes 0;rw[if_pos (Nat.zero_le _),Nat.sub_zero] at this;exact this
theorem Bs {c:Circ}{x:Nat}{l:Ln} (h:l∈fanOf c x):l.node<c.nodes.length:=by
 unfold fanOf at h;rw[List.mem_flatMap] at h;obtain⟨p,h1,h2⟩:=h;unfold bD at h2;obtain⟨q,_,rfl⟩:=List.mem_map.1 h2;have:=List.mem_zipIdx h1;simp only;omega
theorem uZ {c:Circ}{x:Nat} (h:x<c.nodes.length):(oa c)[x]?=some (fanOf c x):=by
 unfold oa;rw[List.getElem?_map,List.getElem?_range h];rfl
structure LevOk (c:Circ) (lev:List Nat):Prop where
 len:lev.length=c.nodes.length
 up:∀ i x,c.nodes[i]?=some x->isComb x.kind->∀ k∈x.ins,lev.getD k 0<lev.getD i 0
theorem dB {l:List Nat}{i j v:Nat} (h:i<l.length):(l.set i v).getD j 0=if i=j then v else l.getD j 0:=by
 rw[List.getD,List.getD,List.getElem?_set];by_cases c:i=j
 ·subst c;simp[h]
 ·simp[c]
structure Kahn (c:Circ) (lev left R:List Nat) (d:Nat):Prop where
 levLen:lev.length=c.nodes.length
 leftLen:left.length=c.nodes.length
 dle:d<=R.length
 nodup:R.Nodup
 lt:∀ r∈R,r<c.nodes.length
 cnt:∀ i,i<c.nodes.length->left.getD i 0=if isComb (kd c i) then (insOf c i).countP (fun k=>decide (k ∉ R.take d)) else 0
 rdy:∀ i,i<c.nodes.length->(i∈R↔left.getD i 0=0)
 up:∀ i,i<c.nodes.length->isComb (kd c i)->∀ k∈insOf c i,k∈R.take d->lev.getD k 0<lev.getD i 0
 bnd:∀ i,lev.getD i 0<=d
structure KahnIn (c:Circ) (lev0 R0:List Nat) (d x:Nat) (lev left R:List Nat) (t:Nat):Prop where
 levLen:lev.length=c.nodes.length
 leftLen:left.length=c.nodes.length
 pre:∃ r,R=R0++r
 nodup:R.Nodup
 lt:∀ r∈R,r<c.nodes.length
 cnt:∀ i,i<c.nodes.length->left.getD i 0=if isComb (kd c i) then (insOf c i).countP (fun k=>decide (k ∉ R0.take d/\k≠x))+((fanOf c x).drop t).countP (fun l=>l.node==i) else 0
 rdy:∀ i,i<c.nodes.length->(i∈R↔left.getD i 0=0)
 up:∀ i,i<c.nodes.length->isComb (kd c i)->∀ k∈insOf c i,k∈R0.take d->lev.getD k 0<lev.getD i 0
 upx:∀ l∈(fanOf c x).take t,isComb (kd c l.node)->lev.getD x 0<lev.getD l.node 0
 bnd:∀ i,lev.getD i 0<=d+1
 bndx:lev.getD x 0<=d
theorem xT (l:List Nat) (p:Nat->Prop) [DecidablePred p] (x:Nat) (hx:¬ p x):l.countP (fun k=>decide (¬ p k))=l.countP (fun k=>decide (¬ p k/\k≠x))+l.count x:=by
 induction l with
 |nil=>rfl
 |cons a l ih =>
  rw[List.countP_cons,List.countP_cons,List.count_cons,ih];by_cases c:a=x
  ·subst c;simp[hx];omega
  ·by_cases q:p a
   ·simp[q,c]
   ·simp[q,c];omega
theorem Kahn.enter {c:Circ}{lev left R:List Nat}{d x:Nat} (K:Kahn c lev left R d) (hx:R[d]?=some x):KahnIn c lev R d x lev left R 0:=by
 have hxn:x ∉ R.take d:=by
  intro m;obtain⟨h1,rfl⟩:=List.getElem?_eq_some_iff.1 hx;obtain⟨j,hj,e⟩:=List.getElem_of_mem m;rw[List.length_take] at hj;rw[List.getElem_take] at e;exact List.pairwise_iff_getElem.1 K.nodup j d (by omega) h1 (by omega) e
 refine⟨K.levLen,K.leftLen,⟨[],by simp⟩,K.nodup,K.lt,fun i hi=>?_,K.rdy,K.up,(fun l m=>by simp at m),fun i=>Nat.le_succ_of_le (K.bnd i),K.bnd x⟩;rw[K.cnt i hi,List.drop_zero,wN];by_cases q:isComb (kd c i)
 ·rw[if_pos q,if_pos q];exact xT _ (fun k=>k∈R.take d) x (fun h=>hxn h)
 ·rw[if_neg q,if_neg q]
theorem vF {l:List Nat}{d x:Nat} (hx:l[d]?=some x):l.take (d+1)=l.take d++[x]:=by
 obtain⟨h1,rfl⟩:=List.getElem?_eq_some_iff.1 hx;exact List.take_succ_eq_append_getElem h1
theorem KahnIn.leave {c:Circ}{lev0 R0 lev left R:List Nat}{d x t:Nat} (hx:R0[d]?=some x) (K:KahnIn c lev0 R0 d x lev left R t) (ht:(fanOf c x).length<=t):Kahn c lev left R (d+1):=by
 have hd:d<R0.length:=(List.getElem?_eq_some_iff.1 hx).1;obtain⟨r,hr⟩:=K.pre
 have htk:R.take (d+1)=R0.take d++[x]:=by
  rw[hr,List.take_append_of_le_length (by omega),vF hx]
 refine⟨K.levLen,K.leftLen,by rw[hr,List.length_append];omega,K.nodup,K.lt,fun i hi=>?_,K.rdy,fun i hi q k hk m=>?_,K.bnd⟩
 ·rw[K.cnt i hi,List.drop_eq_nil_of_le ht];by_cases q:isComb (kd c i)
  ·rw[if_pos q,if_pos q];simp only[List.countP_nil,Nat.add_zero,htk];congr 1;funext k;simp
  ·rw[if_neg q,if_neg q]
 ·rw[htk,List.mem_append,List.mem_singleton] at m
  rcases m with m|rfl
  ·exact K.up i hi q k hk m
  ·have:0<(fanOf c k).countP (fun l=>l.node==i):=by
    rw[wN];exact List.count_pos_iff.2 hk
   obtain⟨l,m,e⟩:=List.countP_pos_iff.1 this
   have e:l.node=i:=by simpa using e
   have:=K.upx l (by rw[List.take_of_length_le ht];exact m) (by rw[e];exact q);rw[e] at this;exact this
theorem KahnIn.skip {c:Circ}{lev0 R0 lev left R:List Nat}{d x t:Nat}{l:Ln} (K:KahnIn c lev0 R0 d x lev left R t) (hl:(fanOf c x)[t]?=some l) (hc:¬ isComb (kd c l.node)):KahnIn c lev0 R0 d x lev left R (t+1):=by
 have hd:=qB hl;obtain⟨h1,hl2⟩:=List.getElem?_eq_some_iff.1 hl;refine⟨K.levLen,K.leftLen,K.pre,K.nodup,K.lt,fun i hi=>?_,K.rdy,K.up,fun l' m q=>?_,K.bnd,K.bndx⟩
 ·rw[K.cnt i hi];by_cases q:isComb (kd c i)
  ·rw[if_pos q,if_pos q,hd,List.countP_cons]
   have:(l.node==i)=false:=by
    rw[beq_eq_false_iff_ne];intro e;rw[e] at hc;exact hc q
   simp[this]
  ·rw[if_neg q,if_neg q]
 ·rw[List.take_succ_eq_append_getElem h1,hl2,List.mem_append,List.mem_singleton] at m
  rcases m with m|rfl
  ·exact K.upx l' m q
  ·exact absurd q hc
theorem KahnIn.pos {c:Circ}{lev0 R0 lev left R:List Nat}{d x t:Nat}{l:Ln} (K:KahnIn c lev0 R0 d x lev left R t) (hl:(fanOf c x)[t]?=some l) (hc:isComb (kd c l.node)):1<=left.getD l.node 0:=by
 rw[K.cnt _ (Bs (List.mem_of_getElem? hl)),if_pos hc,qB hl,List.countP_cons];simp;omega
theorem KahnIn.step {c:Circ}{lev0 R0 lev left R:List Nat}{d x t:Nat}{l:Ln} (K:KahnIn c lev0 R0 d x lev left R t) (hl:(fanOf c x)[t]?=some l) (hc:isComb (kd c l.node)) (hx:R0[d]?=some x) {R':List Nat}
  (hR:(left.getD l.node 0-1=0/\R'=R++[l.node])\/(left.getD l.node 0-1≠0/\R'=R)) :
  KahnIn c lev0 R0 d x (lev.set l.node (max (lev.getD l.node 0) (lev.getD x 0+1))) (left.set l.node (left.getD l.node 0-1)) R' (t+1):=by
 have hd:=qB hl;obtain⟨h1,hl2⟩:=List.getElem?_eq_some_iff.1 hl;have hj:=Bs (List.mem_of_getElem? hl);have hpos:=K.pos hl hc
 have hjR:l.node ∉ R:=fun m=>by
  have:=(K.rdy _ hj).1 m;omega
 obtain⟨r,hr⟩:=K.pre
 have hxR:x∈R:=by rw[hr];exact List.mem_append_left _ (List.mem_of_getElem? hx)
 have hxne:l.node≠x:=fun e=>hjR (by rw[e];exact hxR)
 have hlev:∀ i,lev.getD i 0<=(lev.set l.node (max (lev.getD l.node 0) (lev.getD x 0+1))).getD i 0:=fun i=>by
  rw[dB (by rw[K.levLen];exact hj)];split
  ·rename_i e;subst e;exact Nat.le_max_left _ _
  ·exact Nat.le_refl _
 have hsame:∀ k,k∈R->(lev.set l.node (max (lev.getD l.node 0) (lev.getD x 0+1))).getD k 0=lev.getD k 0:=fun k m=>by
  rw[dB (by rw[K.levLen];exact hj),if_neg (fun e=>hjR (by rw[e];exact m))]
 refine⟨by rw[List.length_set];exact K.levLen,by rw[List.length_set];exact K.leftLen,?_,?_,?_,fun i hi=>?_,fun i hi=>?_,fun i hi q k hk m=>?_,fun l' m q=>?_,fun i=>?_,by rw[hsame x hxR];exact K.bndx⟩
 ·rcases hR with⟨_,rfl⟩|⟨_,rfl⟩
  ·exact⟨r++[l.node],by rw[hr,List.append_assoc]⟩
  ·exact⟨r,hr⟩
 ·rcases hR with⟨_,rfl⟩|⟨_,rfl⟩
  ·rw[List.nodup_append];exact⟨K.nodup,by simp,fun a ha b hb=>by rw[List.mem_singleton] at hb;subst hb;exact fun e=>hjR (e ▸ ha)⟩
  ·exact K.nodup
 ·rcases hR with⟨_,rfl⟩|⟨_,rfl⟩
  ·intro a m
   rcases List.mem_append.1 m with m|m
   ·exact K.lt a m
   ·rw[List.mem_singleton] at m;subst m;exact hj
  ·exact K.lt
 ·rw[dB (by rw[K.leftLen];exact hj)];have hK:=K.cnt i hi;rw[hd,List.countP_cons] at hK;by_cases e:l.node=i
  ·subst e;rw[if_pos rfl,if_pos hc];rw[if_pos hc] at hK
   have hb:(l.node==l.node)=true:=by simp
   rw[if_pos hb] at hK;omega
  ·rw[if_neg e,hK];have:(l.node==i)=false:=beq_eq_false_iff_ne.2 e;simp[this]
 ·rw[dB (by rw[K.leftLen];exact hj)];by_cases e:l.node=i
  ·subst e;rw[if_pos rfl]
   rcases hR with⟨h0,rfl⟩|⟨h0,rfl⟩
   ·exact⟨fun _=>h0,fun _=>by simp⟩
   ·exact⟨fun m=>absurd m hjR,fun q=>absurd q h0⟩
  ·rw[if_neg e,<- K.rdy i hi]
   rcases hR with⟨_,rfl⟩|⟨_,rfl⟩
   ·rw[List.mem_append,List.mem_singleton];exact⟨fun m=>m.resolve_right (fun q=>e q.symm),.inl⟩
   ·exact Iff.rfl
 ·have hkR:k∈R:=by rw[hr];exact List.mem_append_left _ (List.mem_of_mem_take m)
  rw[hsame k hkR];exact Nat.lt_of_lt_of_le (K.up i hi q k hk m) (hlev i)
 ·rw[List.take_succ_eq_append_getElem h1,hl2,List.mem_append,List.mem_singleton] at m;rw[hsame x hxR]
  rcases m with m|rfl
  ·exact Nat.lt_of_lt_of_le (K.upx l' m q) (hlev _)
  ·rw[dB (by rw[K.levLen];exact hj),if_pos rfl];omega
 ·rw[dB (by rw[K.levLen];exact hj)];have:=K.bnd i;have:=K.bndx;have:=K.bnd l.node
  split <;> omega
theorem lf:∀ {l m:List Nat},l.Nodup->(∀ x∈l,x∈m)->l.length<=m.length
 |[],_,_,_=>Nat.zero_le _
 |a::l,m,hn,hs=>by
  obtain⟨h1,h2⟩:=List.nodup_cons.1 hn;have ha:a∈m:=hs a (.head _);have:=lf (m:=m.erase a) h2 fun x hx=>(List.mem_erase_of_ne (fun e=>h1 (by rw[<- e];exact hx))).2 (hs x (.tail _ hx));rw[List.length_erase_of_mem ha] at this;have:=List.length_pos_of_mem ha;rw[List.length_cons];omega
theorem Kahn.all {c:Circ} (g:Good c) {lev left R:List Nat}{d:Nat} (K:Kahn c lev left R d) (hd:R.length<=d):d=c.nodes.length/\LevOk c lev:=by
 have hdR:R.take d=R:=List.take_of_length_le hd
 have mem:∀ i,i<c.nodes.length->i∈R:=by
  intro i
  induction i using Nat.strongRecOn with
  |_ i ih =>
   intro hi;rw[K.rdy i hi,K.cnt i hi];by_cases q:isComb (kd c i)
   ·rw[if_pos q,List.countP_eq_zero];intro k hk;obtain⟨x,hx⟩:=av hi;rw[tC hx] at hk;rw[ia hx] at q;have:=(g.node i x hx).acyc q.1 q.2 k hk;simp[hdR,ih k this (by omega)]
   ·rw[if_neg q]
 have h1:c.nodes.length<=R.length:=by
  have:(List.range c.nodes.length).length<=R.length:=lf List.nodup_range (fun i m=>mem i (List.mem_range.1 m));simpa using this
 have h2:R.length<=c.nodes.length:=by
  have:R.length<=(List.range c.nodes.length).length:=lf K.nodup (fun i m=>List.mem_range.2 (K.lt i m));simpa using this
 refine⟨by have:=K.dle;omega,K.levLen,fun i x hx q k hk=>?_⟩;have hi:=ag hx;refine K.up i hi (by rw[ia hx];exact q) k (by rw[tC hx];exact hk) ?_;rw[hdR];exact mem k ((g.node i x hx).ins k hk)
theorem Kahn.start {c:Circ}{left R:List Nat} (h1:left.length=c.nodes.length) (h2:∀ i,i<c.nodes.length->left.getD i 0=if isComb (kd c i) then (insOf c i).length else 0) (h3:R.Nodup) (h4:∀ i,i∈R↔i<c.nodes.length/\left.getD i 0=0):Kahn c (List.replicate c.nodes.length 0) left R 0:=by
 refine⟨by simp,h1,Nat.zero_le _,h3,fun r m=>((h4 r).1 m).1,fun i hi=>?_,fun i hi=>?_,fun i _ _ k _ m=>by simp at m,fun i=>?_⟩
 ·rw[h2 i hi];simp
 ·rw[h4 i];exact⟨fun h=>h.2,fun h=>⟨hi,h⟩⟩
 ·rw[List.getD,List.getElem?_replicate]
  split <;> simp
theorem CJ {c:Circ}{K:List (List Ln)->Prop} (g:FanOk c) (h:K (oa c)):fK c K:=⟨g,h⟩
theorem J8 {b:Bool} (h:(!b)=true):b=false:=by cases b;rfl;cases h
theorem Kd {b:Bool} (h:(!b)=false):b=true:=by cases b;cases h;rfl
structure Init (c:Circ) (left R:List Nat) (i:Nat):Prop where
 ile:i<=c.nodes.length
 len:left.length=c.nodes.length
 cnt:∀ j,j<c.nodes.length->left.getD j 0=if j<i/\isComb (kd c j) then (insOf c j).length else 0
 nodup:R.Nodup
 rdy:∀ j,j∈R↔j<i/\left.getD j 0=0
 rlen:R.length<=i
theorem Init.step {c:Circ}{left R:List Nat}{i:Nat}{x:Node} (I:Init c left R i) (hx:c.nodes[i]?=some x) {left' R':List Nat}
  (hl:left'=if isComb x.kind then left.set i x.ins.length else left) (hR:(left'.getD i 0=0/\R'=R++[i])\/(left'.getD i 0≠0/\R'=R)):Init c left' R' (i+1):=by
 have hi:=ag hx
 have hiR:i ∉ R:=fun m=>by have:=((I.rdy i).1 m).1;omega
 have hg:∀ j,left'.getD j 0=if j=i then (if isComb x.kind then x.ins.length else 0) else left.getD j 0:=fun j=>by
  have h0:=I.cnt i hi;rw[if_neg (by omega)] at h0;rw[hl];by_cases q:isComb x.kind
  ·rw[if_pos q,dB (by rw[I.len];exact hi),if_pos q];by_cases e:i=j
   ·rw[if_pos e,if_pos e.symm]
   ·rw[if_neg e,if_neg (fun q=>e q.symm)]
  ·rw[if_neg q,if_neg q];by_cases e:j=i
   ·rw[if_pos e,e,h0]
   ·rw[if_neg e]
 have hlen:left'.length=c.nodes.length:=by rw[hl];split <;> simp[I.len]
 have hmem:∀ j,j∈R'↔j∈R\/(j=i/\left'.getD i 0=0):=fun j=>by
  rcases hR with⟨h0,rfl⟩|⟨h0,rfl⟩
  ·rw[List.mem_append,List.mem_singleton];exact⟨fun h=>h.imp id fun e=>⟨e,h0⟩,fun h=>h.imp id fun e=>e.1⟩
  ·exact⟨.inl,fun h=>h.resolve_right (fun q=>h0 q.2)⟩
 refine⟨hi,hlen,fun j hj=>?_,?_,fun j=>?_,?_⟩
 ·rw[hg j];by_cases e:j=i
  ·subst e;rw[if_pos rfl,ia hx,tC hx];by_cases q:isComb x.kind
   ·rw[if_pos q,if_pos ⟨by omega,q⟩]
   ·rw[if_neg q,if_neg (fun h=>q h.2)]
  ·rw[if_neg e,I.cnt j hj];by_cases q:j<i/\isComb (kd c j)
   ·rw[if_pos q,if_pos ⟨by omega,q.2⟩]
   ·rw[if_neg q,if_neg (fun h=>q ⟨by omega,h.2⟩)]
 ·rcases hR with⟨_,rfl⟩|⟨_,rfl⟩
  ·rw[List.nodup_append];exact⟨I.nodup,by simp,fun a ha b hb=>by rw[List.mem_singleton] at hb;subst hb;exact fun e=>hiR (by rw[<- e];exact ha)⟩
  ·exact I.nodup
 ·rw[hmem,I.rdy j];constructor
  ·rintro (⟨h1,h2⟩|⟨rfl,h2⟩)
   ·refine⟨by omega,?_⟩;rw[hg j,if_neg (by omega)];exact h2
   ·exact⟨by omega,h2⟩
  ·rintro⟨h1,h2⟩;by_cases e:j=i
   ·subst e;exact .inr ⟨rfl,h2⟩
   ·rw[hg j,if_neg e] at h2;exact .inl ⟨by omega,h2⟩
 ·have:=I.rlen
  rcases hR with⟨_,rfl⟩|⟨_,rfl⟩
  ·rw[List.length_append,List.length_singleton];omega
  ·omega
theorem Kahn.rlen {c:Circ}{lev left R:List Nat}{d:Nat} (K:Kahn c lev left R d):R.length<=c.nodes.length:=by
 have:R.length<=(List.range c.nodes.length).length:=lf K.nodup (fun i m=>List.mem_range.2 (K.lt i m));simpa using this
theorem KahnIn.rlen {c:Circ}{lev0 R0 lev left R:List Nat}{d x t:Nat} (K:KahnIn c lev0 R0 d x lev left R t):R.length<=c.nodes.length:=by
 have:R.length<=(List.range c.nodes.length).length:=lf K.nodup (fun i m=>List.mem_range.2 (K.lt i m));simpa using this
theorem yq {l:List Nat}{n i:Nat} (hl:l.length=n) (hi:i<n):l[i]?=some (l.getD i 0):=getD_some (by omega)
theorem HP {c:Circ} (g:Good c) {x:Nat} (_hx:x<c.nodes.length):(fanOf c x).length<=1000:=by
 have hl:=g.len;unfold fanOf;rw[List.length_flatMap]
 have h1:∀ p∈c.nodes.zipIdx,(bD x p.2 p.1.ins).length<=16:=by
  intro p m;unfold bD;rw[List.length_map];refine Nat.le_trans (List.length_filter_le _ _) ?_;rw[List.length_zipIdx];have hm:=List.mem_zipIdx m
  have h3:p.2<c.nodes.length:=by omega
  have h4:c.nodes[p.2]?=some p.1:=by
   rw[hm.2.2,List.getElem?_eq_getElem h3];simp
  exact (g.node _ _ h4).few
 have h2:∀ (l:List (Node×Nat)),(∀ p∈l,(bD x p.2 p.1.ins).length<=16)->(l.map fun p=>(bD x p.2 p.1.ins).length).sum<=l.length*16:=by
  intro l
  induction l with
  |nil=>intro _;simp
  |cons a l ih =>
   intro h;have:=ih fun p m=>h p (.tail _ m);have:=h a (.head _);simp only[List.map_cons,List.sum_cons,List.length_cons];omega
 have:=h2 _ h1;rw[List.length_zipIdx] at this;omega
set_option maxHeartbeats 2000000 in
theorem xg {c:Circ}{K:List Nat×Nat->Prop} (g:Good c) (h:∀ lev,LevOk c lev->K (lev,0)):ck c K:=by
 have hlen:=g.len;unfold ck;refine Fx g ⟨fun q=>absurd rfl (fx.1 q),fun _=>⟨by omega,by omega,by omega,by omega,?_⟩⟩;refine aA (fun s=>Init c s.1 s.2.1 s.2.2) (fun s=>c.nodes.length-s.2.2) (fun a=>Init c a.1 a.2 c.nodes.length) ?_ ?_ ?_
 ·rintro k ⟨left,R,i⟩ nx I hnx hk;dsimp only at I;have hrl:=I.rlen;have hile:=I.ile;refine⟨fun q=>?_,fun q=>?_⟩
  ·have q:=aO.1 q;obtain⟨x,hx⟩:=av q;refine kW ⟨x,hx,kW (BO ?_)⟩
   have main:∀ left',left'=(if isComb x.kind then left.set i x.ins.length else left)->i<c.nodes.length/\∃ x31,left'[i]?=some x31/\(eqN x31 0=true->(R.length+([i]:List Nat).length)*8<=2 ^ 47/\i+1<2 ^ 63/\nx (left',R++[i],i+1))/\(eqN x31 0=false->i+1<2 ^ 63/\nx (left',R,i+1)):=by
    intro left' hl
    have hlen':left'.length=c.nodes.length:=by rw[hl];split <;> simp[I.len]
    refine⟨q,_,yq hlen' q,fun e=>⟨by simp only[List.length_singleton];omega,by omega,hnx (left',R++[i],i+1) (I.step hx hl (.inl ⟨dA.1 e,rfl⟩)) (by dsimp only;omega)⟩,fun e=>⟨by omega,hnx (left',R,i+1) (I.step hx hl (.inr ⟨cY.1 e,rfl⟩)) (by dsimp only;omega)⟩⟩
   refine⟨fun e=>⟨q,_,yq I.len q,main _ ?_⟩,fun e=>main _ ?_⟩
   ·rw[if_pos (show isComb x.kind from of_decide_eq_true e)]
   ·rw[if_neg (show ¬ isComb x.kind from of_decide_eq_false e)]
  ·have q:=bk.1 q
   have:i=c.nodes.length:=by omega
   subst this;exact hk (left,R) I
 ·refine⟨Nat.zero_le _,by simp,fun j hj=>?_,List.nodup_nil,fun j=>by simp,Nat.zero_le _⟩;dsimp only;rw[List.getD,List.getElem?_replicate,if_pos hj,if_neg (by omega)];rfl
 ·rintro⟨left0,R0⟩ I;dsimp only at I ⊢;refine CJ g.fanOk ?_;have K0:Kahn c (List.replicate c.nodes.length 0) left0 R0 0:=Kahn.start I.len (fun i hi=>by rw[I.cnt i hi];simp only[hi,true_and]) I.nodup I.rdy;refine aA (fun s=>Kahn c s.1 s.2.1 s.2.2.1 s.2.2.2) (fun s=>c.nodes.length-s.2.2.2) (fun a=>a.2=c.nodes.length/\LevOk c a.1) ?_ K0 ?_
  ·rintro k ⟨lev,left,R,d⟩ nx Kh hnx hk;dsimp only at Kh
   try dsimp only
   have hrl:=Kh.rlen;refine⟨fun q=>?_,fun q=>?_⟩
   ·have q:=aO.1 q
    try dsimp only at q
    obtain⟨x,hx⟩:=av q;have hxn:=Kh.lt x (List.mem_of_getElem? hx);have hfl:=HP g hxn;refine⟨x,hx,by omega,_,uZ hxn,fun e=>?_,fun e=>⟨_,uZ hxn,?_⟩⟩
    ·have e:=dA.1 e;exact hnx _ ((Kh.enter hx).leave hx (by omega)) (by dsimp only;omega)
    ·refine bo (fun s=>KahnIn c lev R d x s.1 s.2.1 s.2.2.1 s.2.2.2) (fun s=>(fanOf c x).length-s.2.2.2) ?_ (Kh.enter hx);rintro⟨lev1,left1,R1,t⟩ nx1 K1 hnx1;dsimp only at K1
     try dsimp only
     have hrl1:=K1.rlen;refine⟨fun q1=>?_,fun q1=>hnx (lev1,left1,R1,d+1) (K1.leave hx (bk.1 q1)) (by dsimp only;omega)⟩;have q1:=aO.1 q1
     try dsimp only at q1
     obtain⟨l,hl⟩:=av q1;have hj:=Bs (List.mem_of_getElem? hl);obtain⟨y,hy⟩:=av hj;have hky:=ia hy;refine kW ⟨l,hl,y,hy,BO ⟨fun e=>?_,fun e=>?_⟩⟩
     ·have e:¬ isComb (kd c l.node):=by rw[hky];exact of_decide_eq_false (J8 e)
      exact⟨by omega,hnx1 (lev1,left1,R1,t+1) (K1.skip hl e) (by dsimp only;omega)⟩
     ·have e:isComb (kd c l.node):=by rw[hky];exact of_decide_eq_true (Kd e)
      have hp:=K1.pos hl e;have hb:=K1.bndx;have hll:=yq K1.leftLen hj
      have hb2:left1.getD l.node 0<2 ^ 63:=by
       rw[K1.cnt _ hj,if_pos e];have h1:=List.countP_le_length (p:=fun k=>decide (k ∉ R.take d/\k≠x)) (l:=insOf c l.node);have h2:=List.countP_le_length (p:=fun l':Ln=>l'.node==l.node) (l:=(fanOf c x).drop t)
       have h3:(insOf c l.node).length<=16:=by rw[tC hy];exact (g.node _ _ hy).few
       rw[List.length_drop] at h2;omega
      refine⟨hj,_,yq K1.levLen hj,hxn,_,yq K1.levLen hxn,by omega,hj,_,yq K1.levLen hj,hj,_,hll,hp,hb2,hj,_,hll,hj,left1.getD l.node 0-1,?_,fun e2=>?_,fun e2=>?_⟩
      ·rw[List.getElem?_set_self (by rw[K1.leftLen];exact hj)]
      ·exact⟨by simp only[List.length_singleton];omega,by omega,hnx1 _ (K1.step hl e hx (.inl ⟨dA.1 e2,rfl⟩)) (by dsimp only;omega)⟩
      ·exact⟨by omega,hnx1 _ (K1.step hl e hx (.inr ⟨cY.1 e2,rfl⟩)) (by dsimp only;omega)⟩
   ·obtain⟨h1,h2⟩:=Kh.all g (bk.1 q);exact hk (lev,d) ⟨h1,h2⟩
  ·rintro⟨lev,d⟩ ⟨hd,hl⟩;dsimp only at hd hl ⊢;exact⟨fun q=>absurd (aO.1 q) (by omega),fun _=>⟨hl.len.symm,h lev hl⟩⟩
theorem zC {c:Circ}{K:Nat->Prop} (g:Good c) (h:K 0):cw c K:=by
 unfold cw;exact xg g fun _ _=>h
theorem A5 {a b:Nat}{K:Int->Prop} (h:K (if a<b then Int.negSucc 0 else if b<a then Int.ofNat 1 else Int.ofNat 0)):eD a b K:=by
 unfold eD gg;have e1:neN a a=false:=yC.2 rfl;have e2:neN b b=false:=yC.2 rfl;rw[e1,e2];refine⟨(fun q=>by cases q),fun _=>⟨(fun q=>by cases q),fun _=>⟨fun q=>?_,fun q=>⟨fun q2=>?_,fun q2=>?_⟩⟩⟩⟩
 ·rw[if_pos (aO.1 q)] at h;exact h
 ·have:=bk.1 q;rw[if_neg (by omega),if_pos (aO.1 q2)] at h;exact h
 ·have:=bk.1 q;have:=bk.1 q2;rw[if_neg (by omega),if_neg (by omega)] at h;exact h
theorem Hv {a b:Nat}:ltI (if a<b then Int.negSucc 0 else if b<a then Int.ofNat 1 else Int.ofNat 0) (Int.ofNat 0)=decide (a<b):=by
 by_cases c:a<b
 ·rw[if_pos c,decide_eq_true c];rfl
 ·rw[if_neg c,decide_eq_false c];by_cases q:b<a
  ·rw[if_pos q];rfl
  ·rw[if_neg q];rfl
structure Ins (lev data l:List Nat) (i j:Nat):Prop where
 perm:l.Perm data
 jle:j<=i
 ord:∀ p q,p<q->q<=i->q≠j->lev.getD (l.getD p 0) 0<=lev.getD (l.getD q 0) 0
theorem zO {l:List Nat}{i j k:Nat} (hi:i<l.length) (hj:j<l.length):((l.set i (l.getD j 0)).set j (l.getD i 0)).getD k 0=if k=j then l.getD i 0 else if k=i then l.getD j 0 else l.getD k 0:=by
 rw[dB (by simpa using hj)];by_cases c:j=k
 ·rw[if_pos c,if_pos c.symm]
 ·have c2:¬ k=j:=fun e=>c e.symm;rw[if_neg c,if_neg c2,dB hi];by_cases q:i=k
  ·rw[if_pos q,if_pos q.symm]
  ·have q2:¬ k=i:=fun e=>q e.symm;rw[if_neg q,if_neg q2]
theorem swap_perm {l:List Nat}{i j:Nat} (hi:i<l.length) (hj:j<l.length):((l.set i (l.getD j 0)).set j (l.getD i 0)).Perm l:=by
 have e1:l.getD j 0=l[j]:=by rw[List.getD,List.getElem?_eq_getElem hj];rfl
 have e2:l.getD i 0=l[i]:=by rw[List.getD,List.getElem?_eq_getElem hi];rfl
 rw[e1,e2];exact List.set_set_perm hi hj
theorem Ins.swap {lev data l:List Nat}{i j:Nat} (I:Ins lev data l i j) (hi:i<l.length) (hj:0<j) (h:lev.getD (l.getD j 0) 0<lev.getD (l.getD (j-1) 0) 0):Ins lev data ((l.set j (l.getD (j-1) 0)).set (j-1) (l.getD j 0)) i (j-1):=by
 have:=I.jle;refine⟨(swap_perm (by omega) (by omega)).trans I.perm,by omega,fun p q hpq hq hne=>?_⟩;rw[zO (by omega) (by omega),zO (by omega) (by omega),if_neg hne];by_cases c:q=j
 ·subst c;rw[if_pos rfl];by_cases e:p=q-1
  ·rw[if_pos e];omega
  ·rw[if_neg e,if_neg (by omega)];exact I.ord p (q-1) (by omega) (by omega) (by omega)
 ·rw[if_neg c];by_cases e:p=j-1
  ·rw[if_pos e];exact I.ord j q (by omega) hq c
  ·rw[if_neg e];by_cases e2:p=j
   ·rw[if_pos e2];exact I.ord (j-1) q (by omega) hq c
   ·rw[if_neg e2];exact I.ord p q hpq hq c
theorem Ins.fin {lev data l:List Nat}{i j:Nat} (I:Ins lev data l i j) (h:j=0\/lev.getD (l.getD (j-1) 0) 0<=lev.getD (l.getD j 0) 0):∀ p q,p<q->q<=i->lev.getD (l.getD p 0) 0<=lev.getD (l.getD q 0) 0:=by
 intro p q hpq hq;by_cases c:q=j
 ·subst c;have h:=h.resolve_left (by omega);by_cases e:p=q-1
  ·subst e;exact h
  ·exact Nat.le_trans (I.ord p (q-1) (by omega) (by omega) (by omega)) h
 ·exact I.ord p q hpq hq c
structure Sorted (lev data l:List Nat):Prop where
 perm:l.Perm data
 ord:∀ p q,p<q->q<l.length->lev.getD (l.getD p 0) 0<=lev.getD (l.getD q 0) 0
theorem I7 {data lev:List Nat}{K:List Nat->Prop} (hn:data.length<=16) (hlev:∀ x∈data,x<lev.length) (h:∀ l,Sorted lev data l->K l):fV data lev data.length 0 data.length K:=by
 unfold fV;refine⟨by omega,?_⟩;refine bo (fun s=>s.1.Perm data/\1<=s.2/\∀ p q,p<q->q<s.2->q<data.length->lev.getD (s.1.getD p 0) 0<=lev.getD (s.1.getD q 0) 0) (fun s=>data.length-s.2) ?_ ⟨List.Perm.refl _,by dsimp only;omega,fun p q h1 h2=>by dsimp only at h2;omega⟩;rintro⟨l,i⟩ nx ⟨hp,hi1,hord⟩ hnx;dsimp only at hp hi1 hord;have hl:=hp.length_eq;refine⟨fun q=>?_,fun q=>?_⟩
 ·have q:=aO.1 q
  try dsimp only at q
  refine aA (fun s=>Ins lev data s.1 i s.2) (fun s=>s.2) (fun a=>a.Perm data/\∀ p q,p<q->q<=i->lev.getD (a.getD p 0) 0<=lev.getD (a.getD q 0) 0) ?_ ?_ ?_
  ·rintro k ⟨m,j⟩ nx2 I hnx2 hk;dsimp only at I
   try dsimp only
   have hm:=I.perm.length_eq;have hji:=I.jle;have gm:∀ p,p<data.length->m[p]?=some (m.getD p 0):=fun p hp=>yq hm hp;have gl:∀ p,p<data.length->lev[m.getD p 0]?=some (lev.getD (m.getD p 0) 0):=fun p hp=>yq rfl (hlev _ (I.perm.mem_iff.1 (List.mem_of_getElem? (gm p hp))));refine kW ⟨fun c=>?_,fun c=>?_⟩
   ·have c:=aO.1 c;refine⟨by omega,_,gm j (by omega),by omega,by omega,by omega,_,gm (j-1) (by omega),_,gl j (by omega),_,gl (j-1) (by omega),A5 ?_⟩;rw[Hv];refine⟨fun e=>?_,fun e=>?_⟩
    ·have e:=of_decide_eq_true e;refine⟨by omega,by omega,by omega,by omega,by omega,_,gm (j-1) (by omega),by omega,_,gm j (by omega),by omega,_,gm j (by omega),by omega,?_⟩
     have hj2:j-1<(m.set j (m.getD (j-1) 0)).length:=by rw[List.length_set];omega
     exact⟨_,List.getElem?_eq_getElem hj2,by omega,by omega,hnx2 _ (I.swap (by omega) c e) (by dsimp only;omega)⟩
    ·have e:=of_decide_eq_false e;exact hk m ⟨I.perm,I.fin (.inr (by omega))⟩
   ·have c:=bk.1 c;exact⟨(fun q=>by cases q),fun _=>hk m ⟨I.perm,I.fin (.inl (by omega))⟩⟩
  ·refine⟨hp,Nat.le_refl _,fun p q2 h1 h2 h3=>hord p q2 h1 (by omega) (by omega)⟩
  ·rintro a ⟨ha,hb⟩;exact⟨by omega,hnx (a,i+1) ⟨ha,by dsimp only;omega,fun p q2 h1 h2 h3=>hb p q2 h1 (by dsimp only at h2;omega)⟩ (by dsimp only;omega)⟩
 ·have q:=bk.1 q;exact h l ⟨hp,fun p q2 h1 h2=>hord p q2 h1 (by omega) (by omega)⟩
theorem C3 {data lev:List Nat}{K:List Nat->Prop} (hn:data.length<=16) (hlev:∀ x∈data,x<lev.length) (h:∀ l,Sorted lev data l->K l):ez data lev data.length data.length K:=by
 unfold ez;refine aA (fun s=>s=(data,0,20)) (fun _=>0) (fun a=>a=(data,0)) ?_ rfl ?_
 ·rintro k s nx rfl _ hk;exact⟨fun q=>absurd (rN.1 q) (by omega),fun _=>hk _ rfl⟩
 ·rintro a rfl;refine I7 hn hlev fun l hl=>?_;refine bo (fun s=>s=20) (fun _=>0) ?_ rfl;rintro s nx rfl _;exact⟨fun q=>absurd (aO.1 q) (by omega),fun _=>h l hl⟩
structure OrdOk (c:Circ) (o:List Nat):Prop where
 perm:o.Perm (List.range c.nodes.length)
 before:∀ (a i:Nat) (x:Node) (k:Nat),o[a]?=some i->c.nodes[i]?=some x->isComb x.kind->k∈x.ins->∃ b,b<a/\o[b]?=some k
theorem IC {c:Circ} (g:Good c) {lev o:List Nat} (hl:LevOk c lev) (hs:Sorted lev (List.range c.nodes.length) o):OrdOk c o:=by
 refine⟨hs.perm,fun a i x k ha hx hc hk=>?_⟩;have hk2:k<c.nodes.length:=(g.node i x hx).ins k hk;have hko:k∈o:=hs.perm.mem_iff.2 (List.mem_range.2 hk2);obtain⟨b,hb,e⟩:=List.getElem_of_mem hko
 have hb2:o[b]?=some k:=by rw[List.getElem?_eq_getElem hb,e]
 refine⟨b,?_,hb2⟩;have hup:=hl.up i x hx hc k hk
 have ga:o.getD a 0=i:=by rw[List.getD,ha];rfl
 have gb:o.getD b 0=k:=by rw[List.getD,hb2];rfl
 rcases Nat.lt_trichotomy b a with q|q|q
 ·exact q
 ·subst q;rw[ha] at hb2;cases hb2;omega
 ·have:=hs.ord a b q hb;rw[ga,gb] at this;omega
theorem zh {c:Circ}{K:List Nat×Nat->Prop} (g:Good c) (h:∀ o,OrdOk c o->K (o,0)):dc c K:=by
 have hlen:=g.len;unfold dc;refine xg g fun lev hl=>⟨fun q=>absurd rfl (fx.1 q),fun _=>⟨by omega,by omega,?_⟩⟩;refine aA (fun s=>s.2<=c.nodes.length/\s.1.length=c.nodes.length/\∀ j,j<s.2->s.1[j]?=some j) (fun s=>c.nodes.length-s.2) (fun a=>a=List.range c.nodes.length) ?_ ⟨Nat.zero_le _,by simp,fun j hj=>absurd hj (Nat.not_lt_zero _)⟩ ?_
 ·rintro k ⟨l,i⟩ nx ⟨hi,h1,h2⟩ hnx hk;dsimp only at hi h1 h2;refine⟨fun q=>?_,fun q=>?_⟩
  ·have q:=aO.1 q
   try dsimp only at q
   refine⟨q,_,yq h1 q,by omega,hnx (l.set i i,i+1) ⟨q,by simp[h1],fun j hj=>?_⟩ (by dsimp only;omega)⟩;dsimp only at hj ⊢;rw[List.getElem?_set];by_cases e:i=j
   ·rw[if_pos e,if_pos (by omega),e]
   ·rw[if_neg e];exact h2 j (by omega)
  ·have q:=bk.1 q
   try dsimp only at q
   refine hk l (List.ext_getElem? fun j=>?_);by_cases e:j<c.nodes.length
   ·rw[h2 j (by omega),List.getElem?_range e]
   ·rw[List.getElem?_eq_none (by omega),List.getElem?_eq_none (by simp;omega)]
 ·rintro a rfl;unfold ko
  have e:(List.range c.nodes.length).length=c.nodes.length:=by simp
  have:=C3 (data:=List.range c.nodes.length) (lev:=lev) (K:=fun x1=>c.nodes.length=x1.length/\K (x1,0)) (by omega) (fun x m=>by rw[hl.len];exact List.mem_range.1 m) (fun l hs=>⟨by have:=hs.perm.length_eq;omega,h l (IC g hl hs)⟩);rw[e] at this;exact this
set_option maxHeartbeats 8000000
def iE (p0:Circ) (K:(List (List Ln))->Prop):Prop :=
 24*p0.nodes.length<=2 ^ 48/\p0.nodes.length<2 ^ 63/\an (α:=(List (List Ln))) (fun k6=>aF (S:=((List (List Ln))×Nat)) (fun (v7,v9) nx11=>((ltN v9 p0.nodes.length)=true->an (α:=(List (List Ln))) (fun k15=>∃ x16,p0.nodes[v9]?=some x16/\aF (S:=((List (List Ln))×Nat)) (fun (v19,v21) nx23=>((ltN v21 x16.ins.length)=true->an (α:=(List (List Ln))) (fun k27=>∃ x28,x16.ins[v21]?=some x28/\((ltN x28 0)=true->k27 v19)/\((ltN x28 0)=false->((!(!ltN x28 p0.nodes.length))=true->x28<p0.nodes.length/\∃ x29,v19[x28]?=some x29/\(x29.length+([(⟨v9,v21⟩:Ln)]:(List Ln)).length)*16<=2 ^ 47/\x28<p0.nodes.length/\k27 (v19.set x28 (x29++([(⟨v9,v21⟩:Ln)]:(List Ln)))))/\((!(!ltN x28 p0.nodes.length))=false->k27 v19))) (fun v24=>v21+1<2 ^ 63/\nx23 (v24,(v21+1))))/\((ltN v21 x16.ins.length)=false->k15 v19)) (v7,0)) (fun v12=>v9+1<2 ^ 63/\nx11 (v12,(v9+1))))/\((ltN v9 p0.nodes.length)=false->k6 v7)) ((List.replicate p0.nodes.length ([]:List Ln)),0)) (fun v3=>an (α:=(List (List Ln))) (fun k40=>aF (S:=((List (List Ln))×Nat)) (fun (v41,v43) nx45=>((ltN v43 p0.nodes.length)=true->v43<p0.nodes.length/\∃ x46,v41[v43]?=some x46/\v43<p0.nodes.length/\v43+1<2 ^ 63/\nx45 ((v41.set v43 x46),(v43+1)))/\((ltN v43 p0.nodes.length)=false->k40 v41)) (v3,0)) (fun v37=>p0.nodes.length=v37.length/\K v37))
theorem sD {p0:Circ}{K:(List (List Ln))->Prop} (hm:iE p0 K) {h0:Heap} (hB:HasB vars h0):∃ r,K r/\CallD Tryz.prog NG 163 ⟨[ar p0]⟩ h0 ((ah 1 (ah 2 cc)) r) h0:=by
 unfold iE at hm
 refine fw Tryz.func163 hB (enc:=(ah 1 (ah 2 cc))) (fun r=>cF (fun _=>AllPure.cons (cF (fun _=>yL _)) AllPure.nil)) fun O=>?_;conv=>whnf
 refine gX ?_;refine fz ?_;refine gX ?_;refine Own.vd (α:=Ln) (b:=24) (n:=p0.nodes.length) cc 2 O rfl rfl rfl rfl rfl rfl hm.1 hm.2.1 fun g1 h O=>?_;refine gX ?_;replace hm:=hm.2.2;refine fg Tryz.func213 ?_;refine gX ?_;refine fz ?_;refine gH ?_
 apply Cs;conv=>whnf
 apply Cs;refine gH ?_
 apply Cs;conv=>whnf
 refine gH ?_;refine jn (σ:=(List (List Ln))×(List (Option Nat))) hm 65 [3] (fun s=>s.1) (fun (v3,a4) h=>RowsOk a4 v3/\Own vars h0 ([((some g1),.cells (aw 2 cc a4 v3) false)]++(aC cc a4 v3)) h) (fun (v3,a4)=>[]) (fun hm=>?_) ?_
 ·refine gX ?_;refine lw 65 [3,4,18,19] (σ:=((List (List Ln))×Nat)×(List (Option Nat))) (fun s=>s.1) (fun ((v7,v9),a8) h=>RowsOk a8 v7/\Own vars h0 ([((some g1),.cells (aw 2 cc a8 v7) false)]++(aC cc a8 v7)) h) (fun ((v7,v9),a8)=>[(20,(i64 v9))]) (((List.replicate p0.nodes.length ([]:List Ln)),0),(List.replicate p0.nodes.length none)) hm ⟨(RowsOk.start p0.nodes.length),O⟩ ?_;clear hm;rintro⟨⟨v7,v9⟩,a8⟩ nx11 base h hm ⟨hr10,O⟩;refine gX ?_;refine br hm (fun hm=>?_) fun hm=>?_
  ·apply Cs;conv=>whnf
   refine jn (σ:=(List (List Ln))×(List (Option Nat))) hm 65 [3,4,18,19,20] (fun s=>s.1) (fun (v12,a13) h=>RowsOk a13 v12/\Own vars h0 ([((some g1),.cells (aw 2 cc a13 v12) false)]++(aC cc a13 v12)) h) (fun (v12,a13)=>[]) (fun hm=>?_) ?_
   ·refine gX ?_;refine atF hm fun x16 hx16 hm=>?_;refine gH ?_;refine O.new (ai (l:=[(n8 0),(.slice none 0 0),(i64 0),(i64 0)]) rfl rfl rfl) fun g17 h O=>?_;refine gH ?_;refine O.stC 4 (.head _) [(n8 x16.kind),((ah 1 i64) x16.ins),(i64 x16.mem),(i64 x16.bit)] fun h O=>?_;refine gX ?_;refine lw 65 [3,4,5,18,19,20,26,27] (σ:=((List (List Ln))×Nat)×(List (Option Nat))) (fun s=>s.1) (fun ((v19,v21),a20) h=>RowsOk a20 v19/\Own vars h0 ([((some g1),.cells (aw 2 cc a20 v19) false)]++(aC cc a20 v19)) h) (fun ((v19,v21),a20)=>[(28,(i64 v21))]) ((v7,0),a8) hm ⟨hr10,(Own.fY [((some g17),.cells [(n8 x16.kind),((ah 1 i64) x16.ins),(i64 x16.mem),(i64 x16.bit)] false),((some g1),.cells (aw 2 cc a8 v7) false)] (L:=(aC cc a8 v7)) O [1] (by decide))⟩ ?_;clear hm;rintro⟨⟨v19,v21⟩,a20⟩ nx23 base h hm ⟨hr22,O⟩;refine gX ?_;refine br hm (fun hm=>?_) fun hm=>?_
    ·apply Cs;conv=>whnf
     refine jn (σ:=(List (List Ln))×(List (Option Nat))) hm 65 [3,4,5,18,19,20,26,27,28] (fun s=>s.1) (fun (v24,a25) h=>RowsOk a25 v24/\Own vars h0 ([((some g1),.cells (aw 2 cc a25 v24) false)]++(aC cc a25 v24)) h) (fun (v24,a25)=>[]) (fun hm=>?_) ?_
     ·refine gX ?_;refine atF hm fun x28 hx28 hm=>?_;refine gX ?_;refine fg Tryz.func260 ?_;refine gX ?_;refine br hm (fun hm=>?_) fun hm=>?_
      ·refine gX ?_;refine bf ?_;refine gX ?_;exact jx (v19,a20) hm ⟨hr22,O⟩
      ·refine gX ?_;refine br hm (fun hm=>?_) fun hm=>?_
       ·refine gX ?_;refine bb (s:=1) (j:=x28) rfl rfl rfl rfl hm.1 ?_;refine gH ?_;replace hm:=hm.2;obtain⟨x29,hx29,hm⟩:=hm;obtain⟨a30,hA32,ha31,O⟩:=Own.focus (S:=[((some g1),.cells (aw 2 cc a20 v19) false)]) hr22 O hx29;refine⟨_,nL O.i1 hA32 hx29 rfl rfl,?_⟩;refine gH ?_;refine fz ?_;refine gH ?_;refine O.apL (enc:=cc) (l:=x29) (new:=([(⟨v9,v21⟩:Ln)]:(List Ln))) 2 (.head _) ha31.1 hm fun a34 h ha35 O hm=>?_;refine gH ?_;refine bb (s:=1) (j:=x28) rfl rfl rfl rfl hm.1 ?_;refine gH ?_;replace hm:=hm.2;refine O.tW (s:=2) (enc:=cc) (j:=x28) (v:=(ae 2 a34 ((x29++([(⟨v9,v21⟩:Ln)]:(List Ln))).map cc))) (.tail _ (.head _)) hr22 hx29 rfl rfl rfl rfl rfl fun h O=>?_;refine gH ?_;rw[<- iS] at O;have hr36:RowsOk (a20.set x28 a34) (v19.set x28 (x29++([(⟨v9,v21⟩:Ln)]:(List Ln)))):=RowsOk.set hr22 ⟨ha35,fun e=>absurd e (by simp)⟩;replace O:=Own.nQ (S:=[(some g1,.cells (aw 2 cc (a20.set x28 a34) (v19.set x28 (x29++([(⟨v9,v21⟩:Ln)]:(List Ln))))) false)]) O hx29 hr22;exact jx ((v19.set x28 (x29++([(⟨v9,v21⟩:Ln)]:(List Ln)))),(a20.set x28 a34)) hm ⟨hr36,O⟩
       ·refine gX ?_;exact jx (v19,a20) hm ⟨hr22,O⟩
     ·clear hm;rintro⟨v24,a25⟩ base h hm ⟨hr26,O⟩;refine gX ?_;refine aH hm fun hm=>?_;refine gH ?_;exact jx ((v24,(v21+1)),a25) hm ⟨hr26,O⟩
    ·refine gX ?_;exact jx (v19,a20) hm ⟨hr22,O⟩
   ·clear hm;rintro⟨v12,a13⟩ base h hm ⟨hr14,O⟩;refine gX ?_;refine aH hm fun hm=>?_;refine gH ?_;exact jx ((v12,(v9+1)),a13) hm ⟨hr14,O⟩
  ·refine gX ?_;exact jx (v7,a8) hm ⟨hr10,O⟩
 ·clear hm;rintro⟨v3,a4⟩ base h hm ⟨hr5,O⟩
  conv=>whnf
  refine jn (σ:=(List (List Ln))×(List (Option Nat))) hm 65 [3] (fun s=>s.1) (fun (v37,a38) h=>RowsOk a38 v37/\Own vars h0 ([((some g1),.cells (aw 2 cc a38 v37) false)]++(aC cc a38 v37)) h) (fun (v37,a38)=>[]) (fun hm=>?_) ?_
  ·refine gX ?_;refine lw 65 [3,51,52] (σ:=((List (List Ln))×Nat)×(List (Option Nat))) (fun s=>s.1) (fun ((v41,v43),a42) h=>RowsOk a42 v41/\Own vars h0 ([((some g1),.cells (aw 2 cc a42 v41) false)]++(aC cc a42 v41)) h) (fun ((v41,v43),a42)=>[(53,(i64 v43))]) ((v3,0),a4) hm ⟨hr5,O⟩ ?_;clear hm;rintro⟨⟨v41,v43⟩,a42⟩ nx45 base h hm ⟨hr44,O⟩;refine gX ?_;refine br hm (fun hm=>?_) fun hm=>?_
   ·refine gX ?_;refine bb (s:=1) (j:=v43) rfl rfl rfl rfl hm.1 ?_;refine gH ?_;replace hm:=hm.2;obtain⟨x46,hx46,hm⟩:=hm;obtain⟨a47,hA49,ha48,O⟩:=Own.focus (S:=[((some g1),.cells (aw 2 cc a42 v41) false)]) hr44 O hx46;refine⟨_,nL O.i1 hA49 hx46 rfl rfl,?_⟩;refine gX ?_;refine fg Tryz.func35 ?_;refine gX ?_;refine ui (s:=2) (enc:=cc) (l:=x46) (n:=x46.length) (m:=x46.length) rfl rfl rfl rfl rfl rfl rfl ?_;refine gX ?_;refine bb (s:=1) (j:=v43) rfl rfl rfl rfl hm.1 ?_;refine gH ?_;replace hm:=hm.2;refine O.tW (s:=2) (enc:=cc) (j:=v43) (v:=(iW a47 (x46.map cc))) (.tail _ (.head _)) hr44 hx46 rfl rfl rfl rfl rfl fun h O=>?_;refine gH ?_;refine CodeS.xF (cs':=(aw 2 cc a42 v41).set v43 (ae 2 a47 (x46.map cc))) O (.tail _ (.head _)) (t2:=3) rfl rfl (LLe.set (O.Gk (.head _) (fun _=>rfl) ha48)) fun h O=>?_;rw[<- iS] at O;have hr51:RowsOk (a42.set v43 a47) (v41.set v43 x46):=RowsOk.set hr44 ha48;replace O:=Own.nQ (S:=[(some g1,.cells (aw 2 cc (a42.set v43 a47) (v41.set v43 x46)) false)]) O hx46 hr44;refine gX ?_;refine aH hm fun hm=>?_;refine gH ?_;exact jx (((v41.set v43 x46),(v43+1)),(a42.set v43 a47)) hm ⟨hr51,O⟩
   ·refine gX ?_;exact jx (v41,a42) hm ⟨hr44,O⟩
  ·clear hm;rintro⟨v37,a38⟩ base h hm ⟨hr39,O⟩;refine gX ?_;obtain⟨hn52,hm⟩:=hm;exact⟨v37,hm,O.ext,fun h2 F=>Own.FW (L:=[((some g1),.cells (aw 2 cc a38 v37) false)]) O F (Nat.le_refl _) (.head _) hr39 (fun _=>rfl) hn52⟩
set_option maxHeartbeats 8000000
def jw (p0:Circ) (K:Nat->Prop):Prop :=
 an (α:=Unit) (fun k3=>aF (S:=((List (ByteArray×Bool))×Nat)) (fun (v4,v5) nx6=>((ltN v5 p0.names.length)=true->∃ x7,p0.names[v5]?=some x7/\an (α:=Bool) (fun k9=>jM x7 (fun r10=>((!r10)=true->k9 true)/\((!r10)=false->k9 ((cv v4 x7).getD false)))) (fun v8=>(v8=true->K 5)/\(v8=false->v5+1<2 ^ 63/\nx6 ((kh v4 x7 true),(v5+1)))))/\((ltN v5 p0.names.length)=false->k3 ())) (([]:List (ByteArray×Bool)),0)) (fun _=>K 0)
theorem mS {p0:Circ}{K:Nat->Prop} (hm:jw p0 K) {h0:Heap} (hB:HasB vars h0):∃ r,K r/\CallD Tryz.prog NG 211 ⟨[ar p0]⟩ h0 (i64 r) h0:=by
 unfold jw at hm
 refine fw Tryz.func211 hB (enc:=i64) (fun r=>PureV.flat rfl) fun O=>?_;conv=>whnf
 refine gX ?_;refine fz ?_;refine gX ?_;refine O.new ((rfl:anew _ _ _=some (.map (bT Value.string Value.bool ([]:List (ByteArray×Bool))),fun g=>.map (some g)))) fun g1 h O=>?_;refine gH ?_;refine jn hm 25 [] (fun s=>s) (fun _ h=>Own vars h0 [] h) (fun _=>[]) (fun hm=>?_) ?_
 ·refine gX ?_;refine lw 25 [3,8,9] (σ:=((List (ByteArray×Bool))×Nat)) (fun s=>s) (fun (v4,v5) h=>Own vars h0 [((some g1),.map (bT Value.string Value.bool v4))] h) (fun (v4,v5)=>[(10,(i64 v5))]) (([]:List (ByteArray×Bool)),0) hm O ?_;clear hm;rintro⟨v4,v5⟩ nx6 base h hm O;refine gX ?_;refine br hm (fun hm=>?_) fun hm=>?_
  ·refine gX ?_;refine atF hm fun x7 hx7 hm=>?_;refine gH ?_
   apply Cs;conv=>whnf
   refine jn hm 25 [3,5,8,9,10] (fun s=>s) (fun v8 h=>Own vars h0 [((some g1),.map (bT Value.string Value.bool v4))] h) (fun v8=>[(21,(.bool v8))]) (fun hm=>?_) ?_
   ·refine gX ?_;refine ca (nh hm O.has) fun r10 hm=>?_;refine gH ?_;refine br hm (fun hm=>?_) fun hm=>?_
    ·refine gX ?_;exact jx true hm O
    ·refine gX ?_;refine⟨_,GG (ek:=Value.string) (ev:=Value.bool) (m:=v4) (k:=x7) (z:=false) rfl rfl rfl rfl (by kernel_rfl) Cj O.i0 rfl rfl,?_⟩;refine gH ?_;exact jx ((cv v4 x7).getD false) hm O
   ·clear hm;rintro v8 base h hm O;refine gX ?_;refine br hm (fun hm=>?_) fun hm=>?_
    ·refine gX ?_;exact fe hm O
    ·refine gX ?_;refine O.Bd (ek:=Value.string) (ev:=Value.bool) (m:=v4) (k:=x7) (v:=true) (.head _) rfl rfl rfl Cj rfl rfl rfl fun h O=>?_;refine gX ?_;refine aH hm fun hm=>?_;refine gH ?_;exact jx ((kh v4 x7 true),(v5+1)) hm O
  ·refine gX ?_;exact jx () hm (O.sel [] (by decide))
 ·clear hm;rintro _ base h hm O;refine gX ?_;exact fe hm O
def kH (c:Circ) (i x:Nat):List Ln:=(c.nodes.zipIdx.take i).flatMap fun p=>bD x p.2 p.1.ins
theorem yr (x i:Nat) (l:List Nat) (a:Nat):bD x i (l++[a])=bD x i l++(if a=x then [⟨i,l.length⟩] else []):=by
 unfold bD;rw[List.zipIdx_append,List.filter_append,List.map_append];congr 1;by_cases c:a=x
 ·simp[c]
 ·simp[c]
theorem rY {c:Circ}{i x:Nat}{y:Node} (hy:c.nodes[i]?=some y):kH c (i+1) x=kH c i x++bD x i y.ins:=by
 have h:c.nodes.zipIdx[i]?=some (y,i):=by rw[List.getElem?_zipIdx,hy];simp
 unfold kH;obtain⟨h1,h2⟩:=List.getElem?_eq_some_iff.1 h;rw[List.take_succ_eq_append_getElem h1,h2,List.flatMap_append];simp
theorem sb (x i:Nat) (l:List Nat):(bD x i l).length<=l.length:=by
 unfold bD;rw[List.length_map];refine Nat.le_trans (List.length_filter_le _ _) ?_;simp
structure FanPre (c:Circ):Prop where
 len:c.nodes.length<=16
 ins:∀ (i:Nat) (x:Node),c.nodes[i]?=some x->(∀ k∈x.ins,k<c.nodes.length)/\x.ins.length<=16
theorem tp {c:Circ} (g:FanPre c) (x:Nat):∀ i,i<=c.nodes.length->(kH c i x).length<=i*16
 |0,_=>by simp[kH]
 |i+1,h=>by
  obtain⟨y,hy⟩:=av (l:=c.nodes) (i:=i) h;rw[rY hy,List.length_append];have:=tp g x i (by omega);have:=sb x i y.ins;have:=(g.ins i y hy).2;omega
def fi (c:Circ) (i t:Nat) (ins:List Nat):List (List Ln):=(List.range c.nodes.length).map fun x=>kH c i x++bD x i (ins.take t)
theorem oE {c:Circ}{i t x:Nat}{ins:List Nat} (hx:x<c.nodes.length):(fi c i t ins)[x]?=some (kH c i x++bD x i (ins.take t)):=by
 unfold fi;rw[List.getElem?_map,List.getElem?_range hx];rfl
theorem zQ {c:Circ}{i t y:Nat}{ins:List Nat} (hy:ins[t]?=some y):(fi c i t ins).set y (kH c i y++bD y i (ins.take t)++[⟨i,t⟩])=fi c i (t+1) ins:=by
 have ht:=ag hy;obtain⟨h1,h2⟩:=List.getElem?_eq_some_iff.1 hy
 have hs:∀ x,bD x i (ins.take (t+1))=bD x i (ins.take t)++(if y=x then [⟨i,t⟩] else []):=fun x=>by
  rw[List.take_succ_eq_append_getElem h1,h2,yr,List.length_take,Nat.min_eq_left (Nat.le_of_lt ht)]
 apply List.ext_getElem?;intro x;rw[List.getElem?_set]
 have hl:(fi c i t ins).length=c.nodes.length:=by unfold fi;simp
 by_cases c1:x<c.nodes.length
 ·rw[oE c1,oE c1,hs x];by_cases e:y=x
  ·subst e;rw[if_pos rfl,if_pos (by omega),if_pos rfl,List.append_assoc]
  ·rw[if_neg e,if_neg e,List.append_nil]
 ·have hn:∀ k,(fi c i k ins)[x]?=none:=fun k=>by
   refine List.getElem?_eq_none ?_;unfold fi;simp;omega
  rw[hn,hn];by_cases e:y=x
  ·rw[if_pos e,if_neg (by omega)]
  ·rw[if_neg e]
theorem vw {c:Circ}{K:List (List Ln)->Prop} (g:FanPre c) (h:K (oa c)):iE c K:=by
 have hlen:=g.len;unfold iE;refine⟨by omega,by omega,?_⟩;refine aA (fun s=>s.2<=c.nodes.length/\s.1=fi c s.2 0 []) (fun s=>c.nodes.length-s.2) (fun a=>a=oa c) ?_ ?_ ?_
 ·rintro k ⟨R,i⟩ nx ⟨hi,hR⟩ hnx hk;dsimp only at hi hR;subst hR;refine⟨fun q=>?_,fun q=>?_⟩
  ·have q:=aO.1 q
   try dsimp only at q
   obtain⟨y,hy⟩:=av q;obtain⟨g1,g2⟩:=g.ins i y hy;refine kW ⟨y,hy,?_⟩;refine bo (fun s=>s.2<=y.ins.length/\s.1=fi c i s.2 y.ins) (fun s=>y.ins.length-s.2) ?_ ⟨Nat.zero_le _,by unfold fi;simp⟩;rintro⟨R1,t⟩ nx1 ⟨ht,hR⟩ hnx1;dsimp only at ht hR;subst hR;refine⟨fun q1=>?_,fun q1=>?_⟩
   ·have q1:=aO.1 q1
    try dsimp only at q1
    obtain⟨z,hz⟩:=av q1;have hzn:=g1 z (List.mem_of_getElem? hz);have hb:=tp g z i hi;have hb2:=sb z i (y.ins.take t)
    have hb3:(y.ins.take t).length<=16:=by rw[List.length_take];omega
    refine kW ⟨z,hz,fun e=>absurd (aO.1 e) (Nat.not_lt_zero _),fun _=>⟨fun _=>?_,fun e=>?_⟩⟩
    ·refine⟨hzn,_,oE hzn,by simp only[List.length_append,List.length_singleton];omega,hzn,by omega,?_⟩;rw[zQ hz];exact hnx1 (fi c i (t+1) y.ins,t+1) ⟨q1,rfl⟩ (by dsimp only;omega)
    ·have e2:ltN z c.nodes.length=true:=aO.2 hzn;rw[e2] at e
     cases e
   ·have q1:=bk.1 q1
    try dsimp only at q1
    refine⟨by omega,hnx (fi c i t y.ins,i+1) ⟨q,?_⟩ (by dsimp only;omega)⟩;unfold fi;refine List.map_congr_left fun x _=>?_;rw[List.take_of_length_le q1,rY hy];simp[bD]
  ·have q:=bk.1 q
   try dsimp only at q
   have:i=c.nodes.length:=by omega
   subst this;refine hk _ ?_;unfold fi oa;refine List.map_congr_left fun x _=>?_;unfold kH;rw[List.take_of_length_le (by simp)];simp[bD]
 ·refine⟨Nat.zero_le _,?_⟩;unfold fi;apply List.ext_getElem?;intro x;rw[List.getElem?_replicate,List.getElem?_map];by_cases q:x<c.nodes.length
  ·rw[if_pos q,List.getElem?_range q];simp[kH,bD]
  ·rw[if_neg q,List.getElem?_eq_none (by simp;omega)];rfl
 ·rintro a rfl
  have hl:(oa c).length=c.nodes.length:=by unfold oa;simp
  refine aA (fun s=>s.2<=c.nodes.length/\s.1=oa c) (fun s=>c.nodes.length-s.2) (fun a=>a=oa c) ?_ ⟨Nat.zero_le _,rfl⟩ ?_
  ·rintro k ⟨R,i⟩ nx ⟨hi,hR⟩ hnx hk;dsimp only at hi hR;subst hR;refine⟨fun q=>?_,fun _=>hk _ rfl⟩;have q:=aO.1 q
   try dsimp only at q
   obtain⟨y,hy⟩:=av (l:=oa c) (i:=i) (by omega);refine⟨q,y,hy,q,by omega,hnx _ ⟨q,?_⟩ (by dsimp only;omega)⟩;obtain⟨h1,rfl⟩:=List.getElem?_eq_some_iff.1 hy;exact List.set_getElem_self h1
  ·rintro a rfl;exact⟨hl.symm,h⟩
theorem Ey {c:Circ} (g:FanPre c):FanOk c:=by
 refine FnV.sO (enc:=ah 1 (ah 2 cc)) (cF fun r=>AllPure.cons (cF fun l=>yL l) AllPure.nil) fun h hB=>?_;exact sD (K:=fun r=>r=oa c) (vw g rfl) hB
theorem BA:([0,1,2,3,4,5,6,7,8,9,10,11,12,13,14,15].all fun i=>isTrue (je Tryz.prog [] (ni Tryz.prog) 60 258 #[.string (lj i)] (bJ vars)))=true:=by kernel_rfl
theorem Ki {i:Nat} (hi:i<16):HC (lj i):=by
 have hm:i∈[0,1,2,3,4,5,6,7,8,9,10,11,12,13,14,15]:=by
  have:i=0\/i=1\/i=2\/i=3\/i=4\/i=5\/i=6\/i=7\/i=8\/i=9\/i=10\/i=11\/i=12\/i=13\/i=14\/i=15:=by omega
  simpa using this
 obtain⟨h',e⟩:=uF (List.all_eq_true.1 BA i hm);have c:=(iN hM hP (fun f vs h v e=>gS f vs h v e) 60 _ _ _ _ _ e).1;exact⟨PureV.tH rfl,fun h b=>c.lift (by kernel_rfl) rfl (pf (Cu b) (sI b))⟩
theorem DJ:∀ i,i<16->∀ j,j<16->lj i=lj j->i=j:=by decide +kernel
theorem Dr {l:List ByteArray}{x:ByteArray} (h:x ∉ l):cv (l.map fun s=>(s,true)) x=none:=by
 induction l with
 |nil=>rfl
 |cons a l ih =>
  simp only[List.mem_cons,not_or] at h;rw[List.map_cons,cv,if_neg h.1];exact ih h.2
theorem EF {l:List ByteArray}{x:ByteArray} (h:x ∉ l):kh (l.map fun s=>(s,true)) x true=(l++[x]).map fun s=>(s,true):=by
 induction l with
 |nil=>rfl
 |cons a l ih =>
  simp only[List.mem_cons,not_or] at h;rw[List.map_cons,kh,if_neg h.1,ih h.2];rfl
theorem pA {c:Circ}{K:Nat->Prop} (h1:∀ s∈c.names,HC s) (h2:c.names.Nodup) (h3:c.names.length<2 ^ 60) (h:K 0):jw c K:=by
 unfold jw;refine aA (fun s=>s.2<=c.names.length/\s.1=(c.names.take s.2).map fun s=>(s,true)) (fun s=>c.names.length-s.2) (fun _=>True) ?_ ⟨Nat.zero_le _,by simp⟩ (fun _ _=>h);rintro k ⟨m,i⟩ nx ⟨hi,hR⟩ hnx hk;dsimp only at hi hR;subst hR;refine⟨fun q=>?_,fun _=>hk () trivial⟩;have q:=aO.1 q
 try dsimp only at q
 obtain⟨x,hx⟩:=av q;obtain⟨l1,l2⟩:=List.getElem?_eq_some_iff.1 hx
 have hnot:x ∉ c.names.take i:=fun mm=>by
  obtain⟨j,hj,e⟩:=List.getElem_of_mem mm;rw[List.length_take] at hj;rw[List.getElem_take] at e;exact List.pairwise_iff_getElem.1 h2 j i (by omega) l1 (by omega) (e.trans l2.symm)
 refine⟨x,hx,kW ⟨h1 x (List.mem_of_getElem? hx),(fun e=>by cases e),fun _=>?_⟩⟩;rw[Dr hnot];refine⟨(fun e=>by cases e),fun _=>⟨by omega,hnx _ ⟨q,?_⟩ (by dsimp only;omega)⟩⟩;dsimp only;rw[EF hnot,List.take_succ_eq_append_getElem l1,l2]
theorem FA {c:Circ}{n:Nat} (hn:n<=16) (hc:c.names=(List.range n).map lj):NamesOk c:=by
 refine FnV.sO (enc:=i64) (PureV.flat rfl) fun h hB=>?_;refine mS (K:=fun r=>r=0) (pA ?_ ?_ ?_ rfl) hB
 ·intro s m;rw[hc] at m;obtain⟨i,hi,rfl⟩:=List.mem_map.1 m;exact Ki (by have:=List.mem_range.1 hi;omega)
 ·rw[hc];unfold List.Nodup;rw[List.pairwise_map];refine List.Pairwise.imp_of_mem ?_ (List.nodup_range (n:=n));intro a b ha hb hne e;exact hne (DJ a (by have:=List.mem_range.1 ha;omega) b (by have:=List.mem_range.1 hb;omega) e)
 ·rw[hc];simp;omega
end Go.Proofs.YtgiedjgdlckahaaGreatDoor
