/-
  SoP, N2, Orz, Sub, SrtP, Cmp, W2, Co3, Co4, Co6, All, Carg, Carg7, Case: parts of the proof.
-/
import Derived.Test.YtobphhjcadjfjaaGreatDoorSd50
namespace Go.Proofs.YtobphhjcadjfjaaGreatDoor
open Go.Abs
set_option maxRecDepth 100000
def Dh:Go.Shelf.Ren where
 f n:=match n with
  |6=>41
  |14=>77
  |15=>78
  |20=>105
  |21=>106
  |22=>107
  |23=>108
  |24=>109
  |25=>110
  |26=>111
  |27=>112
  |28=>113
  |29=>114
  |46=>127
  |47=>128
  |48=>129
  |49=>130
  |50=>131
  |57=>140
  |n=>n
 t n:=match n with
  |0=>0
  |3=>3
  |4=>4
  |5=>5
  |22=>57
  |24=>60
  |25=>125
  |39=>168
  |45=>185
  |46=>186
  |50=>107
  |53=>192
  |55=>194
  |66=>202
  |70=>206
  |76=>215
  |77=>180
  |n=>n
 g n:=n
theorem EN:Go.Proofs.SlLaysF0.n6 Tryz.prog Dh where
 mixed:=by kernel_rfl
 f6:=⟨Tryz.f41.name,by kernel_rfl,by kernel_rfl⟩
 f14:=⟨Tryz.f77.name,by kernel_rfl,by kernel_rfl⟩
 f15:=by kernel_rfl
 f20:=⟨Tryz.f105.name,by kernel_rfl,by kernel_rfl⟩
 f21:=⟨Tryz.f106.name,by kernel_rfl,by kernel_rfl⟩
 f22:=⟨Tryz.f107.name,by kernel_rfl,by kernel_rfl⟩
 f23:=⟨Tryz.f108.name,by kernel_rfl,by kernel_rfl⟩
 f24:=⟨Tryz.f109.name,by kernel_rfl,by kernel_rfl⟩
 f25:=⟨Tryz.f110.name,by kernel_rfl,by kernel_rfl⟩
 f26:=⟨Tryz.f111.name,by kernel_rfl,by kernel_rfl⟩
 f27:=⟨Tryz.f112.name,by kernel_rfl,by kernel_rfl⟩
 f28:=by kernel_rfl
 f29:=by kernel_rfl
 f46:=⟨Tryz.f127.name,by kernel_rfl,by kernel_rfl⟩
 f47:=by kernel_rfl
 f48:=by kernel_rfl
 f49:=⟨Tryz.f130.name,by kernel_rfl,by kernel_rfl⟩
 f50:=⟨Tryz.f131.name,by kernel_rfl,by kernel_rfl⟩
 f57:=⟨Tryz.f140.name,by kernel_rfl,by kernel_rfl⟩
 t0:=by kernel_rfl
 a0:=fun w=>by kernel_rfl
 z0:=fun w=>by kernel_rfl
 v0:=fun w=>by kernel_rfl
 t3:=by kernel_rfl
 a3:=fun w=>by kernel_rfl
 z3:=fun w=>by kernel_rfl
 v3:=fun w=>by kernel_rfl
 t4:=by kernel_rfl
 a4:=fun w=>by kernel_rfl
 z4:=fun w=>by kernel_rfl
 v4:=fun w=>by kernel_rfl
 t5:=by kernel_rfl
 a5:=fun w=>by kernel_rfl
 z5:=fun w=>by kernel_rfl
 v5:=fun w=>by kernel_rfl
 t9:=by kernel_rfl
 a9:=fun w=>by kernel_rfl
 z9:=fun w=>by kernel_rfl
 v9:=fun w=>by kernel_rfl
 t22:=by kernel_rfl
 a22:=fun w=>by kernel_rfl
 z22:=fun w=>by kernel_rfl
 v22:=fun w=>by kernel_rfl
 t25:=by kernel_rfl
 a25:=fun w=>by kernel_rfl
 z25:=fun w=>by kernel_rfl
 v25:=fun w=>by kernel_rfl
 t39:=by kernel_rfl
 a39:=fun w=>by kernel_rfl
 z39:=fun w=>by kernel_rfl
 v39:=fun w=>by kernel_rfl
 t45:=by kernel_rfl
 a45:=fun w=>by kernel_rfl
 z45:=fun w=>by kernel_rfl
 v45:=fun w=>by kernel_rfl
 t46:=by kernel_rfl
 a46:=fun w=>by kernel_rfl
 z46:=fun w=>by kernel_rfl
 v46:=fun w=>by kernel_rfl
 t50:=by kernel_rfl
 a50:=fun w=>by kernel_rfl
 z50:=fun w=>by kernel_rfl
 v50:=fun w=>by kernel_rfl
 t53:=by kernel_rfl
 a53:=fun w=>by kernel_rfl
 z53:=fun w=>by kernel_rfl
 v53:=fun w=>by kernel_rfl
 t55:=by kernel_rfl
 a55:=fun w=>by kernel_rfl
 z55:=fun w=>by kernel_rfl
 v55:=fun w=>by kernel_rfl
 t66:=by kernel_rfl
 a66:=fun w=>by kernel_rfl
 z66:=fun w=>by kernel_rfl
 v66:=fun w=>by kernel_rfl
 t70:=by kernel_rfl
 a70:=fun w=>by kernel_rfl
 z70:=fun w=>by kernel_rfl
 v70:=fun w=>by kernel_rfl
 t76:=by kernel_rfl
 a76:=fun w=>by kernel_rfl
 z76:=fun w=>by kernel_rfl
 v76:=fun w=>by kernel_rfl
 t77:=by kernel_rfl
 a77:=fun w=>by kernel_rfl
 z77:=fun w=>by kernel_rfl
 v77:=fun w=>by kernel_rfl
theorem CR:∀ w,(isAgg (Dh.t 24)).run Tryz.prog w=.ok true w:=fun w=>by kernel_rfl
theorem DC:∀ w,(Go.sizeOf (Dh.t 24)).run Tryz.prog w=.ok 2 w:=fun w=>by kernel_rfl
set_option maxHeartbeats 8000000
def eE (p0:(List Int)) (K:Int->Prop):Prop :=
 an (α:=Unit) (fun k1=>au (S:=Nat) (fun v2 nx3=>((ltN v2 p0.length)=true->∃ x4,p0[v2]?=some x4/\((neZ x4 (Int.ofNat 0))=true->K x4)/\((neZ x4 (Int.ofNat 0))=false->v2+1<2 ^ 63/\nx3 (v2+1)))/\((ltN v2 p0.length)=false->k1 ())) 0) (fun _=>K (Int.ofNat 0))
theorem pI {p0:(List Int)}{K:Int->Prop} (hm:eE p0 K) {h0:Heap} (hB:HasB vars h0):∃ r,K r/\CallD Tryz.prog NG 43 ⟨[(ah 1 z64) p0]⟩ h0 (z64 r) h0:=by
 unfold eE at hm
 refine fw Tryz.func43 hB (enc:=z64) (fun r=>PureV.flat rfl) fun O=>?_;conv=>whnf
 apply Cs;conv=>whnf
 apply Cs;refine gH ?_
 apply Cs;conv=>whnf
 apply Cs;refine gH ?_
 refine jn hm 18 [3] (fun s=>s) (fun _ h=>Own vars h0 [] h) (fun _=>[]) (fun hm=>?_) ?_
 ·refine gX ?_
  refine lw 18 [3,6,7] (σ:=Nat) (fun s=>s) (fun v2 h=>Own vars h0 [] h) (fun v2=>[(8,(i64 v2))]) 0 hm O ?_
  clear hm;rintro v2 nx3 base h hm O
  refine gX ?_
  refine br hm (fun hm=>?_) fun hm=>?_
  ·refine gX ?_
   refine atF hm fun x4 hx4 hm=>?_;refine gX ?_
   refine br hm (fun hm=>?_) fun hm=>?_
   ·refine gX ?_
    exact fe hm O
   ·refine gX ?_
    refine aL hm fun hm=>?_;refine gH ?_
    exact jx (v2+1) hm O
  ·refine gX ?_
   exact jx () hm O
 ·clear hm;rintro _ base h hm O
  refine gX ?_
  exact fe hm O
def ft (p0:N2) (p1:N2) (K:Int->Prop):Prop :=
 -(2 ^ 63)<=((Int.ofNat p0.a)-(Int.ofNat p1.a))/\((Int.ofNat p0.a)-(Int.ofNat p1.a))<2 ^ 63 /\ -(2 ^ 63)<=((Int.ofNat p0.b)-(Int.ofNat p1.b))/\((Int.ofNat p0.b)-(Int.ofNat p1.b))<2 ^ 63/\eE ([((Int.ofNat p0.a)-(Int.ofNat p1.a)),((Int.ofNat p0.b)-(Int.ofNat p1.b))]:(List Int)) (fun r1=>K r1)
theorem mg {p0:N2}{p1:N2}{K:Int->Prop} (hm:ft p0 p1 K) {h0:Heap} (hB:HasB vars h0):∃ r,K r/\CallD Tryz.prog NG 42 ⟨[aK p0,aK p1]⟩ h0 (z64 r) h0:=by
 unfold ft at hm
 refine fw Tryz.func42 hB (enc:=z64) (fun r=>PureV.flat rfl) fun O=>?_;conv=>whnf
 refine gX ?_
 refine fz ?_;refine gH ?_
 refine fz ?_;refine gX ?_
 refine lU rfl ?_;refine gH ?_
 refine lU rfl ?_;refine gH ?_
 refine⟨_,zq (a:=(Int.ofNat p0.a)) (b:=(Int.ofNat p1.a)) rfl rfl hm.1 hm.2.1,?_⟩;refine gH ?_
 replace hm:=hm.2.2
 refine lU rfl ?_;refine gH ?_
 refine lU rfl ?_;refine gH ?_
 refine⟨_,zq (a:=(Int.ofNat p0.b)) (b:=(Int.ofNat p1.b)) rfl rfl hm.1 hm.2.1,?_⟩;refine gH ?_
 replace hm:=hm.2.2
 refine fz ?_;refine gH ?_
 refine ca (pI hm O.has) fun r1 hm=>?_;refine gX ?_
 exact fe hm O
def orZ (a b:Int):Int:=if a≠0 then a else b
theorem EW {a b:Int}:neZ a b=true↔a≠b:=by rw[BK];simp
theorem DP {a b:Int}:neZ a b=false↔a=b:=by rw[BK];simp
theorem Fg {a b:Int}{K:Int->Prop} (h:K (orZ a b)):eE [a,b] K:=by
 unfold eE
 refine (show au _ _ from⟨3,?_⟩)
 unfold orZ at h
 refine⟨fun _=>⟨a,rfl,fun q=>?_,fun q=>⟨by decide,?_⟩⟩,fun q=>absurd (bg.1 q) (by simp)⟩
 ·rw[if_pos (show a≠0 from EW.1 q)] at h;exact h
 rw[if_neg (fun e:a≠0=>e (DP.1 q))] at h
 refine⟨fun _=>⟨b,rfl,fun _=>h,fun q=>⟨by decide,?_⟩⟩,fun q=>absurd (bg.1 q) (by simp)⟩
 have e:b=0:=DP.1 q
 subst e
 exact⟨fun q=>absurd (aV.1 q) (by simp),fun _=>h⟩
theorem C8 {a b:Int}:orZ a b<0↔a<0\/a=0/\b<0:=by
 unfold orZ
 split <;> omega
theorem zL {α:Type}{p:α->Prop}{β:Type} (f:α->β):∀ (l:List α) (h:∀ x∈l,p x),l.map f=(l.attachWith p h).map fun x=>f x.1
 |[],_=>rfl
 |a::l,h=>by
  show f a::l.map f=_::_
  rw[zL f l fun x m=>h x (List.mem_cons_of_mem _ m)]
  simp[List.attachWith]
def n2B (x:N2):Prop:=x.a<2 ^ 62/\x.b<2 ^ 62
def yJ (x y:N2):Int:=orZ (Int.ofNat x.a-Int.ofNat y.a) (Int.ofNat x.b-Int.ofNat y.b)
def yR (x y:N2):Prop:=¬ yJ y x<0
theorem AY {a b:N2} (ha:n2B a) (hb:n2B b) {K:Int->Prop} (h:K (yJ a b)):ft a b K:=by
 obtain⟨a1,a2⟩:=ha
 obtain⟨b1,b2⟩:=hb
 exact⟨by simp only[Int.ofNat_eq_natCast];omega,by simp only[Int.ofNat_eq_natCast];omega,by simp only[Int.ofNat_eq_natCast];omega,by simp only[Int.ofNat_eq_natCast];omega,Fg h⟩
theorem oT {x y:N2}:yJ x y<0↔x.a<y.a\/x.a=y.a/\x.b<y.b:=by
 unfold yJ;rw[C8];simp only[Int.ofNat_eq_natCast];omega
theorem Ch {x y:N2}:yR x y↔x.a<y.a\/x.a=y.a/\x.b<=y.b:=by
 unfold yR;rw[oT];omega
theorem EU:Go.Sort.SWO (Go.Proofs.ltOf fun x y:{x:N2 // n2B x}=>yJ x.1 y.1) where
 irrefl x:=by unfold Go.Proofs.ltOf;rw[decide_eq_false_iff_not,oT];omega
 trans x y z:=by unfold Go.Proofs.ltOf;simp only[decide_eq_true_eq,oT];omega
 ntrans x y z:=by unfold Go.Proofs.ltOf;simp only[decide_eq_false_iff_not,oT];omega
theorem Eh {h0 h:Heap}{L:List Slot}{la:List N2}{f:Slot->List Slot}{a:Option Nat} (O:Own vars h0 L h) (A:At (a,.cells (flatC (la.map aK)) false) L f) (ha:a=none->la=[]) (hsz:la.length<4611686018427387904) (hb:∀ x∈la,n2B x) :
  ∃ (l':List N2) (h':Heap),l'.Perm la/\l'.Pairwise yR/\CallD Tryz.prog NG 41 ⟨[ag 2 a (la.map aK),.func (.func 42) #[] #[]]⟩ h (.tuple #[]) h'/\Own vars h0 (f (a,.cells (flatC (l'.map aK)) false)) h':=by
 have inh:Inhabited {x:N2 // n2B x}:=⟨⟨⟨0,0⟩,by unfold n2B;decide⟩⟩
 have e:=zL aK la hb
 have e1:(la.attachWith n2B hb).map Subtype.val=la:=by simp
 rw[e] at A ⊢
 obtain⟨l',h',p1,p2,p3,p4⟩:=O.Fk (ρ:=Dh) (k:=2) (bH:=fun x:{x:N2 // n2B x}=>[i64 x.1.a,i64 x.1.b]) (enc:=fun x:{x:N2 // n2B x}=>aK x.1) (cf:=fun x y=>yJ x.1 y.1) EN CR DC (fun _=>rfl) (fun _=>rfl)
  (fun x v m=>by simp only[List.mem_cons,List.not_mem_nil,or_false] at m;rcases m with rfl|rfl <;> rfl) (fun x v m=>by simp only[List.mem_cons,List.not_mem_nil,or_false] at m;rcases m with rfl|rfl <;> rfl)
  EU (by kernel_rfl) (Go.Proofs.enters_of Tryz.func42 (by kernel_rfl) rfl) sJ
  (fun x y h2 hb=>by obtain⟨r,rfl,c⟩:=mg (p0:=x.1) (p1:=y.1) (K:=fun r=>r=yJ x.1 y.1) (AY x.2 y.2 rfl) hb;exact c) A (fun q=>by have:=ha q;subst this;rfl) (by rw[List.length_attachWith];exact hsz)
 refine⟨l'.map Subtype.val,h',?_,?_,p3,?_⟩
 ·have:=p1.map Subtype.val
  rw[e1] at this
  exact this
 ·exact List.pairwise_map.2 p2
 ·rw[List.map_map]
  exact p4
set_option maxHeartbeats 8000000
def iE (acc:List N2) (x:N2):List N2:=if acc.getLast?=some x then acc else acc++[x]
def eV (l:List N2):List N2:=l.foldl iE []
theorem py (l:List N2) (x:N2):eV (l++[x])=iE (eV l) x:=by unfold eV;rw[List.foldl_append];rfl
theorem Ag (l:List N2):(eV l).getLast?=l.getLast?:=by
 rcases List.eq_nil_or_concat l with rfl|⟨p,x,rfl⟩
 ·rfl
 ·rw[List.concat_eq_append,py,List.getLast?_concat]
  unfold iE
  split
  ·assumption
  ·exact List.getLast?_concat
theorem wT (l:List N2):(eV l).length<=l.length:=by
 have key:∀ (l acc:List N2),(l.foldl iE acc).length<=acc.length+l.length:=by
  intro l
  induction l with
  |nil=>intro acc;exact Nat.le_refl _
  |cons x l ih =>
   intro acc
   rw[List.foldl_cons]
   have:=ih (iE acc x)
   have h2:(iE acc x).length<=acc.length+1:=by
    unfold iE
    split
    ·omega
    ·rw[List.length_append];exact Nat.le_refl _
   rw[List.length_cons];omega
 have:=key l []
 rw[List.length_nil,Nat.zero_add] at this
 exact this
theorem mM {l:List N2}{i:Nat}{x y:N2} (hx:l[i]?=some x) (hy:l[i-1]?=some y) (hi:0<i):eV (l.take (i+1))=if y=x then eV (l.take i) else eV (l.take i)++[x]:=by
 obtain⟨h1,rfl⟩:=List.getElem?_eq_some_iff.1 hx
 rw[List.take_succ_eq_append_getElem h1,py]
 unfold iE
 rw[Ag]
 have:(l.take i).getLast?=some y:=by
  rw[List.getLast?_eq_getElem?,List.length_take,Nat.min_eq_left (by omega),List.getElem?_take,if_pos (by omega),hy]
 rw[this]
 by_cases c:y=l[i]
 ·rw[if_pos (by rw[c]),if_pos c]
 ·rw[if_neg (fun q=>c (Option.some.inj q)),if_neg c]
theorem CE {l:List N2}{i:Nat}{x:N2} (h:l[i]?=some x):l.take (i+1)=l.take i++[x]:=by
 obtain⟨h1,rfl⟩:=List.getElem?_eq_some_iff.1 h
 exact List.take_succ_eq_append_getElem h1
theorem zI (x y:N2):(eqN x.a y.a&&(eqN x.b y.b&&true))=decide (x=y):=by
 rw[oe,oe]
 obtain⟨a,b⟩:=x
 obtain⟨c,d⟩:=y
 simp[N2.mk.injEq]
theorem sW {l:List N2}{a:Option Nat}{L:List Slot} (ha:a=none->l=[]) (hl:l.length<2 ^ 60) {h0 h:Heap} (O:Own vars h0 ((a,.cells (flatC (l.map aK)) false)::L) h) :
  ∃ v h',CallD Tryz.prog NG 45 ⟨[ag 2 a (l.map aK)]⟩ h v h'/\v=rS 2 a (eV l).length l.length/\∃ z,Own vars h0 ((a,.cells (flatC ((eV l++z).map aK)) false)::L) h':=by
 refine fg Tryz.func45 (Q:=fun v h'=>v=rS 2 a (eV l).length l.length/\∃ z,Own vars h0 ((a,.cells (flatC ((eV l++z).map aK)) false)::L) h') ?_;conv=>whnf
 have hgl:(l.map aK).length=l.length:=List.length_map ..
 have fin:eV l=l->(ag 2 a (l.map aK)=rS 2 a (eV l).length l.length/\∃ z,Own vars h0 ((a,.cells (flatC ((eV l++z).map aK)) false)::L) h):=by
  intro e
  rw[e]
  refine⟨?_,[],by rw[List.append_nil];exact O⟩
  unfold ag rS
  rw[hgl]
 refine gX ?_
 refine br (b:=ltN l.length 2) ⟨id,id⟩ (fun hlt=>?_) fun hge=>?_
 ·refine gX ?_
  refine fin ?_
  rw[eU] at hlt
  simp at hlt
  match l,hlt with
  |[],_=>rfl
  |[x],_=>rfl
 ·rw[eU] at hge
  simp at hge
  obtain⟨g,rfl⟩:∃ g,a=some g:=by
   cases a with
   |none=>have:=ha rfl;rw[this] at hge;simp at hge
   |some g=>exact⟨g,rfl⟩
  clear fin ha
  conv=>whnf
  apply Cs;conv=>whnf
  refine jn (α:=Unit) (first:=fun k=>k ()) (rest:=fun _=>True) (σ:=Unit) trivial 61 [0] (fun s=>s) (fun _ h=>eV l=l/\Own vars h0 ((some g,.cells (flatC (l.map aK)) false)::L) h) (fun _=>[]) (fun _=>?_) ?_
  ·refine gX ?_
   refine zy hM (nn:=61) (by kernel_rfl) (σ:=Nat) (fun k h=>1<=k/\k<=l.length/\eV (l.take k)=l.take k/\Own vars h0 ((some g,.cells (flatC (l.map aK)) false)::L) h)
    (fun k=>[(0,ag 2 (some g) (l.map aK)),(3,i64 k)]) (fun k=>l.length-k) rfl ⟨1,⟨Nat.le_refl _,by omega,?_,O⟩,rfl,rfl,trivial⟩ ?_
   ·match l,hge with
    |x::y::r,_=>rfl
   clear O h;rintro k base h ⟨hk1,hk,hc,O⟩;conv=>whnf
   refine gX ?_
   refine br (b:=ltN k l.length) ⟨id,id⟩ (fun hlt=>?_) fun hge=>?_
   ·rw[eU] at hlt
    simp at hlt
    obtain⟨x,hx⟩:∃ x,l[k]?=some x:=⟨_,List.getElem?_eq_getElem hlt⟩
    obtain⟨y,hy⟩:∃ y,l[k-1]?=some y:=⟨_,List.getElem?_eq_getElem (show k-1<l.length by omega)⟩
    have hk2:k<(l.map aK).length:=by rw[hgl];exact hlt
    have hk3:k-1<(l.map aK).length:=by rw[hgl];omega
    refine gX ?_
    refine ix (W:=fun _=>True) (l:=l) (j:=k) 2 ⟨hk2,_,hx,trivial⟩ fun _ _ _=>?_;refine gH ?_
    refine⟨_,bd (l:=cl (aK x)) rfl (O.at (.head _)) rfl rfl (uk (enc:=aK) (s:=2) (k:=0) (fun _=>rfl) (aj hx) (Nat.le_refl _)) (tn (enc:=aK) (s:=2) (fun _=>rfl) hx),?_⟩;refine gH ?_
    refine⟨.inr (.inl (by kernel_rfl)),?_⟩;refine gH ?_
    refine pP (a:=k) (b:=1) (W:=True) ⟨hk1,by omega,trivial⟩ fun _=>?_;refine gH ?_
    refine ix (W:=fun _=>True) (l:=l) (j:=k-1) 2 ⟨hk3,_,hy,trivial⟩ fun _ _ _=>?_;refine gH ?_
    refine⟨_,bd (l:=cl (aK y)) rfl (O.at (.head _)) rfl rfl (uk (enc:=aK) (s:=2) (k:=0) (fun _=>rfl) (aj hy) (Nat.le_refl _)) (tn (enc:=aK) (s:=2) (fun _=>rfl) hy),?_⟩;refine gH ?_
    refine⟨.inr (.inl (by kernel_rfl)),?_⟩;refine gH ?_
    refine⟨.bool (eqN x.a y.a&&(eqN x.b y.b&&true)),by kernel_rfl,?_⟩;refine gX ?_
    refine br (b:=(eqN x.a y.a&&(eqN x.b y.b&&true))) ⟨id,id⟩ (fun he=>?_) fun he=>?_
    ·rw[zI,decide_eq_true_eq] at he
     subst he
     have LD:∀ {l':List N2} {j:Nat} {v:N2},l'[j]?=some v->(0+j*2)+2<=(flatC (l'.map aK)).length:=fun hv=>(uk (enc:=aK) (s:=2) (k:=0) (fun _=>rfl) (aj hv) (Nat.le_refl _))
     have hb1:k<=(l.map aK).length:=by rw[hgl];omega
     refine gX ?_
     refine wC k hb1 ?_;refine gH ?_
     conv=>whnf
     refine jn (α:=Unit) (first:=fun k=>k ()) (rest:=fun _=>True) (σ:=List N2×Nat) trivial 61 [0] (fun _=>()) (fun (l',k') h=>k'<=l.length/\l'.length=l.length/\l'.take k'=eV l/\Own vars h0 ((some g,.cells (flatC (l'.map aK)) false)::L) h) (fun (l',k')=>[(3,i64 k')]) (fun _=>?_) ?_
     ·refine gX ?_
      refine zy hM (nn:=61) (by kernel_rfl) (σ:=List N2×Nat×Nat) (fun (l',k',m) h=>1<=m/\k+m<=l.length/\k'+1<=k+m/\1<=k'/\l'.length=l.length/\l'.take k'=eV (l.take (k+m))/\(∀ i,k+m-1<=i->l'[i]?=l[i]?)/\Own vars h0 ((some g,.cells (flatC (l'.map aK)) false)::L) h)
       (fun (l',k',m)=>[(0,ag 2 (some g) (l.map aK)),(3,i64 k'),(4,.slice (some ⟨g,0+k*2,some 2⟩) ((l.map aK).length-k) ((l.map aK).length-k)),(5,i64 m)]) (fun (_,_,m)=>l.length-(k+m)) rfl ⟨(l,k,1),⟨Nat.le_refl _,by omega,by omega,hk1,rfl,?_,fun _ _=>rfl,O⟩,rfl,rfl,rfl,rfl,trivial⟩ ?_
      ·rw[mM hx hy (by omega),if_pos rfl,hc]
      clear O h hc;rintro⟨l',k',m⟩ base h ⟨hm1,hkm,hk',hk'1,hl',hc,hsame,O⟩;conv=>whnf
      refine gX ?_
      refine br (b:=ltN m ((l.map aK).length-k)) ⟨id,id⟩ (fun hlt2=>?_) fun hge2=>?_
      ·rw[eU,hgl] at hlt2
       simp at hlt2
       obtain⟨x2,hx2⟩:∃ v,l'[k+m]?=some v:=⟨_,List.getElem?_eq_getElem (by omega)⟩
       obtain⟨y2,hy2⟩:∃ v,l'[k+(m-1)]?=some v:=⟨_,List.getElem?_eq_getElem (by omega)⟩
       obtain⟨w2,hw2⟩:∃ v,l'[k']?=some v:=⟨_,List.getElem?_eq_getElem (by omega)⟩
       have hx3:l[k+m]?=some x2:=(hsame _ (by omega)).symm.trans hx2
       have hy3:l[k+m-1]?=some y2:=by
        rw[<- hsame _ (by omega),show k+m-1=k+(m-1) by omega];exact hy2
       have ha1:m<(l.map aK).length-k:=by rw[hgl];exact hlt2
       have ha2:m-1<(l.map aK).length-k:=by omega
       have ha3:k'<(l.map aK).length:=by rw[hgl];omega
       refine gX ?_
       refine ixW 2 (o:=k) (j:=m) ha1 ?_;refine gH ?_
       refine⟨_,bd (l:=cl (aK x2)) rfl (O.at (.head _)) rfl rfl (LD hx2) (tn (enc:=aK) (s:=2) (fun _=>rfl) hx2),?_⟩;refine gH ?_
       refine⟨.inr (.inl (by kernel_rfl)),?_⟩;refine gH ?_
       refine pP (a:=m) (b:=1) (W:=True) ⟨hm1,by omega,trivial⟩ fun _=>?_;refine gH ?_
       refine ixW 2 (o:=k) (j:=m-1) ha2 ?_;refine gH ?_
       refine⟨_,bd (l:=cl (aK y2)) rfl (O.at (.head _)) rfl rfl (LD hy2) (tn (enc:=aK) (s:=2) (fun _=>rfl) hy2),?_⟩;refine gH ?_
       refine⟨.inr (.inl (by kernel_rfl)),?_⟩;refine gH ?_
       refine⟨.bool (!(eqN x2.a y2.a&&(eqN x2.b y2.b&&true))),by kernel_rfl,?_⟩;refine gX ?_
       refine br (b:=(!(eqN x2.a y2.a&&(eqN x2.b y2.b&&true)))) ⟨id,id⟩ (fun he=>?_) fun he=>?_
       ·rw[zI,Bool.not_eq_true',decide_eq_false_iff_not] at he
        refine gX ?_
        refine ixW 2 (o:=k) (j:=m) ha1 ?_;refine gH ?_
        refine⟨_,bd (l:=cl (aK x2)) rfl (O.at (.head _)) rfl rfl (LD hx2) (tn (enc:=aK) (s:=2) (fun _=>rfl) hx2),?_⟩;refine gH ?_
        refine ix (W:=fun _=>True) (l:=l') (j:=k') 2 ⟨ha3,_,hw2,trivial⟩ fun _ _ _=>?_;refine gH ?_
        refine O.stE (enc:=aK) 2 (.head _) hw2 x2 fun h O=>?_;refine gX ?_
        refine aL (a:=k') (b:=1) (W:=True) ⟨by omega,trivial⟩ fun _=>?_;refine gX ?_
        refine aL (a:=m) (b:=1) (W:=True) ⟨by omega,trivial⟩ fun _=>?_;refine gH ?_
        refine⟨(l'.set k' x2,k'+1,m+1),(show l.length-(k+(m+1))<l.length-(k+m) by omega),⟨by omega,(show k+(m+1)<=l.length by omega),(show k'+1+1<=k+(m+1) by omega),by omega,(List.length_set ..).trans hl',?_,fun i hi=>?_,O⟩,rfl,rfl,rfl,rfl,trivial⟩
        ·show (l'.set k' x2).take (k'+1)=eV (l.take (k+m+1))
         rw[mM hx3 hy3 (by omega),if_neg (fun q=>he q.symm),<- hc,CE (x:=x2) (List.getElem?_set_self (by omega)),List.take_set_of_le (Nat.le_refl _)]
        ·rw[List.getElem?_set_ne (by omega)]
         exact hsame i (by omega)
       ·rw[zI,Bool.not_eq_false',decide_eq_true_eq] at he
        subst he
        refine gX ?_
        refine aL (a:=m) (b:=1) (W:=True) ⟨by omega,trivial⟩ fun _=>?_;refine gH ?_
        refine⟨(l',k',m+1),(show l.length-(k+(m+1))<l.length-(k+m) by omega),⟨by omega,(show k+(m+1)<=l.length by omega),(show k'+1<=k+(m+1) by omega),by omega,hl',?_,fun i hi=>hsame i (by omega),O⟩,rfl,rfl,rfl,rfl,trivial⟩
        show l'.take k'=eV (l.take (k+m+1))
        rw[mM hx3 hy3 (by omega),if_pos rfl,hc]
      ·rw[eU,hgl] at hge2
       simp at hge2
       refine gX ?_
       refine jx (l',k') trivial ⟨by omega,hl',?_,O⟩
       rw[hc,List.take_of_length_le (by omega)]
     ·clear O hc;rintro⟨l',k'⟩ base h _ ⟨hk',hl',hc,O⟩
      have e1:k'=(eV l).length:=by rw[<- hc,List.length_take,hl',Nat.min_eq_left hk']
      have hb2:k'<=(l.map aK).length:=by rw[hgl];exact hk'
      refine gX ?_
      refine wC k' hb2 ?_;refine gH ?_
      refine O.Ev (enc:=aK) (l:=l') (z:=⟨0,0⟩) (s:=2) (o:=k') (n:=(l.map aK).length-k') (.head _) rfl (by kernel_rfl) rfl (by kernel_rfl) rfl rfl (fun _=>rfl) (by decide) (fun _=>rfl) (by rw[hgl,hl'];omega) fun h O=>?_;refine gX ?_
      refine EI k' hb2 ?_;refine gX ?_
      rw[hc] at O
      exact⟨by rw[e1,hgl];rfl,_,O⟩
    ·rw[zI,decide_eq_false_iff_not] at he
     refine gX ?_
     refine aL (a:=k) (b:=1) (W:=True) ⟨by omega,trivial⟩ fun _=>?_;refine gH ?_
     refine⟨k+1,(show l.length-(k+1)<l.length-k by omega),⟨by omega,by omega,?_,O⟩,rfl,rfl,trivial⟩
     rw[mM hx hy (by omega),if_neg (fun q=>he q.symm),hc,CE hx]
   ·rw[eU] at hge
    simp at hge
    refine gX ?_
    refine jx () trivial ⟨?_,O⟩
    rw[List.take_of_length_le hge] at hc
    exact hc
  ·rintro⟨⟩ base h _ ⟨hc,O⟩
   refine gX ?_
   rw[hc]
   exact⟨by rw[hgl];rfl,[],by rw[List.append_nil];exact O⟩
set_option maxHeartbeats 8000000
def bz (p0:Circ) (p1:(List Flt)) (K:Nat->Prop):Prop :=
 ((ltN 65536 p1.length)=true->K 3)/\((ltN 65536 p1.length)=false->cu p0 (fun r1=>((neN r1.2 0)=true->K r1.2)/\((neN r1.2 0)=false->an (α:=Unit) (fun k2=>au (S:=Nat) (fun v3 nx4=>((ltN v3 p1.length)=true->∃ x5,p1[v3]?=some x5/\faults_Check_wp p0 x5 (fun r8=>((neN r8 0)=true->K r8)/\((neN r8 0)=false->v3+1<2 ^ 63/\nx4 (v3+1))))/\((ltN v3 p1.length)=false->k2 ())) 0) (fun _=>K 0))))
theorem dc {p0:Circ}{p1:(List Flt)}{K:Nat->Prop} (hm:bz p0 p1 K) {h0:Heap} (hB:HasB vars h0):∃ r,K r/\CallD Tryz.prog NG 20 ⟨[aB p0,(ah 5 az) p1]⟩ h0 (i64 r) h0:=by
 unfold bz at hm
 refine fw Tryz.func20 hB (enc:=i64) (fun r=>PureV.flat rfl) fun O=>?_;conv=>whnf
 refine gX ?_
 refine fz ?_;refine gX ?_
 refine br hm (fun hm=>?_) fun hm=>?_
 ·refine gX ?_
  exact fe hm O
 ·refine gX ?_
  refine ca (jK hm O.has) fun r1 hm=>?_;refine gX ?_
  refine br hm (fun hm=>?_) fun hm=>?_
  ·refine gX ?_
   exact fe hm O
  ·apply Cs;conv=>whnf
   refine jn hm 34 [] (fun s=>s) (fun _ h=>Own vars h0 [] h) (fun _=>[]) (fun hm=>?_) ?_
   ·refine gX ?_
    refine lw 34 [2,21,22] (σ:=Nat) (fun s=>s) (fun v3 h=>Own vars h0 [] h) (fun v3=>[(23,(i64 v3))]) 0 hm O ?_
    clear hm;rintro v3 nx4 base h hm O
    refine gX ?_
    refine br hm (fun hm=>?_) fun hm=>?_
    ·refine gX ?_
     refine atF hm fun x5 hx5 hm=>?_;refine gH ?_
     refine O.new (ak (l:=[(n8 0),(i64 0),(i64 0),(n8 0),(i64 0)]) rfl rfl rfl) fun g6 h O=>?_;refine gH ?_
     refine O.stC 5 (.head _) [(n8 x5.model),(i64 x5.line.node),(z64 x5.line.pin),(n8 x5.value),(i64 x5.other)] fun h O=>?_;refine gX ?_
     refine ldA (O.at (.head _)) ?_;refine gH ?_
     refine ca (jw hm O.has) fun r8 hm=>?_;refine gX ?_
     refine br hm (fun hm=>?_) fun hm=>?_
     ·refine gX ?_
      exact fe hm O
     ·refine gX ?_
      refine aL hm fun hm=>?_;refine gH ?_
      exact jx (v3+1) hm (O.sel [] (by decide))
    ·refine gX ?_
     exact jx () hm O
   ·clear hm;rintro _ base h hm O
    refine gX ?_
    exact fe hm O
def cp (p0:Circ) (p1:(List Flt)) (K:((List (List Nat))×Nat)->Prop):Prop :=
 bz p0 p1 (fun r1=>((neN r1 0)=true->K ([],r1))/\((neN r1 0)=false->aY p0 p1 (fun (_,_,_,x5,_,_)=>K (x5,0))))
theorem kP {p0:Circ}{p1:(List Flt)}{K:((List (List Nat))×Nat)->Prop} (hm:cp p0 p1 K) {h0:Heap} (hB:HasB vars h0):∃ r,K r/\CallD Tryz.prog NG 9 ⟨[aB p0,(ah 5 az) p1]⟩ h0 ((fun (r:((List (List Nat))×Nat))=>Value.tuple ⟨[(aR 1 (aR 1 i64)) (r.1),i64 (r.2)]⟩) r) h0:=by
 unfold cp at hm
 refine fw Tryz.func9 hB (enc:=(fun (r:((List (List Nat))×Nat))=>Value.tuple ⟨[(aR 1 (aR 1 i64)) (r.1),i64 (r.2)]⟩)) (fun r=>PureV.tup (ai.cons (uT (fun _=>ai.cons (uT (fun _=>ai.cons (PureV.flat rfl) ai.nil)) ai.nil)) (ai.cons (PureV.flat rfl) (ai.nil)))) fun O=>?_;conv=>whnf
 refine gX ?_
 refine fz ?_;refine gX ?_
 refine ca (dc hm O.has) fun r1 hm=>?_;refine gX ?_
 refine br hm (fun hm=>?_) fun hm=>?_
 ·refine gX ?_
  exact⟨([],r1),hm,O.ext,fun h2 F=>VLe.tup (LLe.cons (VLe.A5 _ _ _) (LLe.cons (VLe.refl _ _) (LLe.nil _)))⟩
 ·refine gX ?_
  obtain⟨_,h,hcall,x2,x3,x4,x5,x6,x7,a8,a9,a10,a11,a12,a13,a14,hm,rfl,ha22,ha23,ha24,O,_⟩:=ck hm  O
  refine⟨_,_,hcall,?_⟩;refine gH ?_
  refine fg Tryz.func21 ?_;refine gX ?_
  refine ij (s:=1) (enc:=(aR 1 i64)) (l:=x5) (n:=x5.length) (m:=x5.length) rfl rfl rfl rfl rfl rfl rfl ?_;refine gX ?_
  exact⟨(x5,0),hm,O.ext,fun h2 F=>VLe.tup (LLe.cons (O.B2 F (Nat.le_refl _) (.tail _ (.tail _ (.tail _ (.tail _ (.head _))))) ha23 (fun _=>rfl)) (LLe.cons (VLe.refl _ _) (LLe.nil _)))⟩
def bE (np:Nat) (fs:List Nat) (ps:List Nat) (_:List (List Nat)) (_:List Nat) (cs:List (Nat×Nat)) (c:Circ) (K:((List Nat)×(List N2))->Prop):Prop :=
 an (α:=((List N2)×(List Nat))) (fun k13=>au (S:=((List Nat)×(List N2)×Nat)) (fun (v15,v17,v18) nx23=>((ltN v18 c.nodes.length)=true->an (α:=((List Nat)×(List N2))) (fun k32=>∃ x33,c.nodes[v18]?=some x33/\bm x33.kind (fun r36=>((!r36.2)=true->k32 (v15,v17))/\((!r36.2)=false->r36.1.out<=1/\1<256/\bV np fs v15 v18 (Int.negSucc 0) (1-r36.1.out) (fun x39=>bQ np fs v15 x39 (fun (x42,x43)=>((!((cq cs x43).isSome))=true->k32 (x42,v17))/\((!((cq cs x43).isSome))=false->au (S:=((List Nat)×(List N2)×Nat)) (fun (v46,v48,v49) nx54=>((ltN v49 x33.ins.length)=true->an (α:=((List Nat)×(List N2))) (fun k63=>r36.1.pin<=1/\1<256/\bV np fs v46 v18 (Int.ofNat v49) (1-r36.1.pin) (fun x64=>bQ np fs v46 x64 (fun (x67,x68)=>(((cq cs x68).isSome)=true->(v48.length+([(⟨((cq cs x68).getD 0),((cq cs x43).getD 0)⟩:N2)]:(List N2)).length)*16<=2 ^ 47/\k63 (x67,(v48++([(⟨((cq cs x68).getD 0),((cq cs x43).getD 0)⟩:N2)]:(List N2)))))/\(((cq cs x68).isSome)=false->k63 (x67,v48))))) (fun (v56,v58)=>v49+1<2 ^ 63/\nx54 (v56,v58,(v49+1))))/\((ltN v49 x33.ins.length)=false->k32 (v46,v48))) (x42,v17,0))))))) (fun (v25,v27)=>v18+1<2 ^ 63/\nx23 (v25,v27,(v18+1))))/\((ltN v18 c.nodes.length)=false->k13 (v17,v15))) (ps,([]:List N2),0)) (fun (v6,v8)=>v6.length<4611686018427387904/\(∀ x∈v6,n2B x)/\∀ x72:List N2,x72.Perm v6->x72.Pairwise yR->x72.length<2 ^ 60/\K (v8,(eV x72)))
theorem dO {np:Nat}{fs:List Nat}{ps:List Nat}{R:List (List Nat)}{os:List Nat}{cs:List (Nat×Nat)}{c:Circ}{gp:Nat}{gt:Nat}{ga:Option Nat}{gb:Nat}{ao:Option Nat}{af:Option Nat}{gm:Nat}{L:List Slot}{K:((List Nat)×(List N2))->Prop} (hm:bE np fs ps R os cs c K) {h0 h:Heap} (ha0:ga=none->fs=[]) (ha1:ao=none->R=[]) (ha2:af=none->os=[]) (O:Own vars h0 (((some gp),.cells [(.pointer (some ⟨gt,0,none⟩)),(ag 1 ao (R.map (aR 1 i64))),(ag 1 af (os.map i64)),(.map (some gm))] false)::((some gt),.cells [(ag 1 ga (fs.map i64)),(.slice (some ⟨gb,0,none⟩) np np)] false)::(ga,.cells (flatC (fs.map i64)) false)::((some gb),.cells (flatC (ps.map i64)) false)::(ao,.cells (flatC (R.map (aR 1 i64))) false)::(af,.cells (flatC (os.map i64)) false)::((some gm),.map (bN i64 i64 cs))::L) h):∃ v h',CallD Tryz.prog NG 26 ⟨[(.pointer (some ⟨gp,0,none⟩)),(aB c)]⟩ h v h'/\∃ (w1:(List Nat)) (w2:(List N2)) (b0:Option Nat),K (w1,w2)/\v=((ah 2 aK) w2)/\(b0=none->fs=[])/\(ao=none->R=[])/\(af=none->os=[])/\Own vars h0 (((some gp),.cells [(.pointer (some ⟨gt,0,none⟩)),(ag 1 ao (R.map (aR 1 i64))),(ag 1 af (os.map i64)),(.map (some gm))] false)::((some gt),.cells [(ag 1 b0 (fs.map i64)),(.slice (some ⟨gb,0,none⟩) np np)] false)::(b0,.cells (flatC (fs.map i64)) false)::((some gb),.cells (flatC (w1.map i64)) false)::(ao,.cells (flatC (R.map (aR 1 i64))) false)::(af,.cells (flatC (os.map i64)) false)::((some gm),.map (bN i64 i64 cs))::L) h'/\True:=by
 unfold bE at hm
 refine fg Tryz.func26 (Q:=fun v h'=>∃ (w1:(List Nat)) (w2:(List N2)) (b0:Option Nat),K (w1,w2)/\v=((ah 2 aK) w2)/\(b0=none->fs=[])/\(ao=none->R=[])/\(af=none->os=[])/\Own vars h0 (((some gp),.cells [(.pointer (some ⟨gt,0,none⟩)),(ag 1 ao (R.map (aR 1 i64))),(ag 1 af (os.map i64)),(.map (some gm))] false)::((some gt),.cells [(ag 1 b0 (fs.map i64)),(.slice (some ⟨gb,0,none⟩) np np)] false)::(b0,.cells (flatC (fs.map i64)) false)::((some gb),.cells (flatC (w1.map i64)) false)::(ao,.cells (flatC (R.map (aR 1 i64))) false)::(af,.cells (flatC (os.map i64)) false)::((some gm),.map (bN i64 i64 cs))::L) h'/\True) ?_;conv=>whnf
 refine gX ?_
 refine fz ?_;refine gH ?_
 apply Cs;conv=>whnf
 apply Cs;refine gH ?_
 have O:=O.aN (.cells (flatC ((([]:List N2)).map aK)) false)
 refine jn (σ:=((List N2)×(List Nat))×(Option Nat×Option Nat)) hm 98 [] (fun s=>s.1) (fun ((v6,v8),(a5,a7)) h=>(a5=none->v6=[])/\(a7=none->fs=[])/\(ao=none->R=[])/\(af=none->os=[])/\Own vars h0 ((a5,.cells (flatC (v6.map aK)) false)::((some gp),.cells [(.pointer (some ⟨gt,0,none⟩)),(ag 1 ao (R.map (aR 1 i64))),(ag 1 af (os.map i64)),(.map (some gm))] false)::((some gt),.cells [(ag 1 a7 (fs.map i64)),(.slice (some ⟨gb,0,none⟩) np np)] false)::(a7,.cells (flatC (fs.map i64)) false)::((some gb),.cells (flatC (v8.map i64)) false)::(ao,.cells (flatC (R.map (aR 1 i64))) false)::(af,.cells (flatC (os.map i64)) false)::((some gm),.map (bN i64 i64 cs))::L) h) (fun ((v6,v8),(a5,a7))=>[(5,(ag 2 a5 (v6.map aK)))]) (fun hm=>?_) ?_
 ·refine gX ?_
  refine lw 98 [0,16,17] (σ:=((List Nat)×(List N2)×Nat)×(Option Nat×Option Nat)) (fun s=>s.1) (fun ((v15,v17,v18),(a14,a16)) h=>(a14=none->fs=[])/\(ao=none->R=[])/\(af=none->os=[])/\(a16=none->v17=[])/\Own vars h0 (((some gp),.cells [(.pointer (some ⟨gt,0,none⟩)),(ag 1 ao (R.map (aR 1 i64))),(ag 1 af (os.map i64)),(.map (some gm))] false)::((some gt),.cells [(ag 1 a14 (fs.map i64)),(.slice (some ⟨gb,0,none⟩) np np)] false)::(a14,.cells (flatC (fs.map i64)) false)::((some gb),.cells (flatC (v15.map i64)) false)::(ao,.cells (flatC (R.map (aR 1 i64))) false)::(af,.cells (flatC (os.map i64)) false)::((some gm),.map (bN i64 i64 cs))::(a16,.cells (flatC (v17.map aK)) false)::L) h) (fun ((v15,v17,v18),(a14,a16))=>[(5,(ag 2 a16 (v17.map aK))),(18,(i64 v18))]) ((ps,([]:List N2),0),(ga,none)) hm ⟨ha0,ha1,ha2,(fun _=>rfl),(Own.gG [(none,.cells (flatC (([]:List N2).map aK)) false),((some gp),.cells [(.pointer (some ⟨gt,0,none⟩)),(ag 1 ao (R.map (aR 1 i64))),(ag 1 af (os.map i64)),(.map (some gm))] false),((some gt),.cells [(ag 1 ga (fs.map i64)),(.slice (some ⟨gb,0,none⟩) np np)] false),(ga,.cells (flatC (fs.map i64)) false),((some gb),.cells (flatC (ps.map i64)) false),(ao,.cells (flatC (R.map (aR 1 i64))) false),(af,.cells (flatC (os.map i64)) false),((some gm),.map (bN i64 i64 cs))] O [1,2,3,4,5,6,7,0] (by decide))⟩ ?_
  clear hm;rintro⟨⟨v15,v17,v18⟩,⟨a14,a16⟩⟩ nx23 base h hm ⟨ha19,ha20,ha21,ha22,O⟩
  refine gX ?_
  refine br hm (fun hm=>?_) fun hm=>?_
  ·apply Cs;conv=>whnf
   refine jn (σ:=((List Nat)×(List N2))×(Option Nat×Option Nat)) hm 98 [0,16,17,18] (fun s=>s.1) (fun ((v25,v27),(a24,a26)) h=>(a24=none->fs=[])/\(ao=none->R=[])/\(af=none->os=[])/\(a26=none->v27=[])/\Own vars h0 (((some gp),.cells [(.pointer (some ⟨gt,0,none⟩)),(ag 1 ao (R.map (aR 1 i64))),(ag 1 af (os.map i64)),(.map (some gm))] false)::((some gt),.cells [(ag 1 a24 (fs.map i64)),(.slice (some ⟨gb,0,none⟩) np np)] false)::(a24,.cells (flatC (fs.map i64)) false)::((some gb),.cells (flatC (v25.map i64)) false)::(ao,.cells (flatC (R.map (aR 1 i64))) false)::(af,.cells (flatC (os.map i64)) false)::((some gm),.map (bN i64 i64 cs))::(a26,.cells (flatC (v27.map aK)) false)::L) h) (fun ((v25,v27),(a24,a26))=>[(5,(ag 2 a26 (v27.map aK)))]) (fun hm=>?_) ?_
   ·refine gX ?_
    refine atF hm fun x33 hx33 hm=>?_;refine gH ?_
    refine O.new (ak (l:=[(n8 0),(.slice none 0 0),(i64 0),(i64 0)]) rfl rfl rfl) fun g34 h O=>?_;refine gH ?_
    refine O.stC 4 (.head _) [(n8 x33.kind),((ah 1 i64) x33.ins),(i64 x33.mem),(i64 x33.bit)] fun h O=>?_;refine gX ?_
    refine ca (fD hm O.has) fun r36 hm=>?_;refine gH ?_
    refine O.new (ak (l:=[(n8 0),(n8 0)]) rfl rfl rfl) fun g37 h O=>?_;refine gH ?_
    refine O.stC 2 (.head _) [(n8 r36.1.pin),(n8 r36.1.out)] fun h O=>?_;refine gX ?_
    refine br hm (fun hm=>?_) fun hm=>?_
    ·refine gX ?_
     exact jx ((v15,v17),(a14,a16)) hm ⟨ha19,ha20,ha21,ha22,(Own.gG [((some g37),.cells [(n8 r36.1.pin),(n8 r36.1.out)] false),((some g34),.cells [(n8 x33.kind),((ah 1 i64) x33.ins),(i64 x33.mem),(i64 x33.bit)] false),((some gp),.cells [(.pointer (some ⟨gt,0,none⟩)),(ag 1 ao (R.map (aR 1 i64))),(ag 1 af (os.map i64)),(.map (some gm))] false),((some gt),.cells [(ag 1 a14 (fs.map i64)),(.slice (some ⟨gb,0,none⟩) np np)] false),(a14,.cells (flatC (fs.map i64)) false),((some gb),.cells (flatC (v15.map i64)) false),(ao,.cells (flatC (R.map (aR 1 i64))) false),(af,.cells (flatC (os.map i64)) false),((some gm),.map (bN i64 i64 cs)),(a16,.cells (flatC (v17.map aK)) false)] O [2,3,4,5,6,7,8,9] (by decide))⟩
    ·conv=>whnf
     first|refine CodeS.oA ?_ | (apply Cs;(conv=>whnf);refine CodeS.oA ?_) | (apply Cs;(conv=>whnf);apply Cs;(conv=>whnf);refine CodeS.oA ?_)
     refine gX ?_
     first|refine⟨.inr (.inr (ae rfl (O.at (.tail _ (.tail _ (.head _)))) rfl rfl)),?_⟩|refine⟨.inr (.inl (by kernel_rfl)),?_⟩
     refine gX ?_
     first|refine⟨.inr (.inr (ae rfl (O.at (.tail _ (.tail _ (.head _)))) rfl rfl)),?_⟩|refine⟨.inr (.inl (by kernel_rfl)),?_⟩
     refine gX ?_
     first|refine⟨.inr (.inr (ae rfl (O.at (.tail _ (.tail _ (.head _)))) rfl rfl)),?_⟩|refine⟨.inr (.inl (by kernel_rfl)),?_⟩
     refine gX ?_
     refine A9 hm fun hm=>?_;refine gH ?_
     obtain⟨_,_,hcall,x39,a40,hm,rfl,ha41,O2,rfl⟩:=cJ hm ha19 (Own.gG [((some g37),.cells [(n8 r36.1.pin),(n8 r36.1.out)] false),((some g34),.cells [(n8 x33.kind),((ah 1 i64) x33.ins),(i64 x33.mem),(i64 x33.bit)] false),((some gp),.cells [(.pointer (some ⟨gt,0,none⟩)),(ag 1 ao (R.map (aR 1 i64))),(ag 1 af (os.map i64)),(.map (some gm))] false),((some gt),.cells [(ag 1 a14 (fs.map i64)),(.slice (some ⟨gb,0,none⟩) np np)] false),(a14,.cells (flatC (fs.map i64)) false),((some gb),.cells (flatC (v15.map i64)) false),(ao,.cells (flatC (R.map (aR 1 i64))) false),(af,.cells (flatC (os.map i64)) false),((some gm),.map (bN i64 i64 cs)),(a16,.cells (flatC (v17.map aK)) false)] O [3,4,5,0,1,2,6,7,8,9] (by decide))
     have O:=O2;clear O2
     refine⟨_,_,hcall,?_⟩;refine gH ?_
     refine⟨.inr (.inl (Ext.refl _)),?_⟩;refine gH ?_
     have Ok:=O
     obtain⟨_,h,hcall,x42,x43,hm,rfl,ha44,O,_⟩:=dz hm ha41 O
     refine⟨_,_,hcall,?_⟩;refine gH ?_
     refine⟨.inr (.inr (uF (i:=3) (by kernel_rfl) rfl rfl (Ok.at (.tail _ (.tail _ (.tail _ (.tail _ (.tail _ (.head _))))))) (O.at (.tail _ (.tail _ (.tail _ (.tail _ (.tail _ (.head _))))))))),?_⟩;refine gH ?_
     clear Ok
     refine⟨_,mN (ek:=i64) (ev:=i64) (m:=cs) (k:=x43) (z:=0) rfl rfl rfl rfl (by kernel_rfl) re (O.at (.tail _ (.tail _ (.tail _ (.tail _ (.tail _ (.tail _ (.tail _ (.tail _ (.head _)))))))))) rfl rfl,?_⟩;refine gH ?_
     refine⟨.inr (.inl (by kernel_rfl)),?_⟩;refine gH ?_
     refine gX ?_
     refine br hm (fun hm=>?_) fun hm=>?_
     ·refine gX ?_
      exact jx ((x42,v17),(a40,a16)) hm ⟨ha44,ha20,ha21,ha22,(Own.gG [((some gt),.cells [(ag 1 a40 (fs.map i64)),(.slice (some ⟨gb,0,none⟩) np np)] false),(a40,.cells (flatC (fs.map i64)) false),((some gb),.cells (flatC (x42.map i64)) false),((some g37),.cells [(n8 r36.1.pin),(n8 r36.1.out)] false),((some g34),.cells [(n8 x33.kind),((ah 1 i64) x33.ins),(i64 x33.mem),(i64 x33.bit)] false),((some gp),.cells [(.pointer (some ⟨gt,0,none⟩)),(ag 1 ao (R.map (aR 1 i64))),(ag 1 af (os.map i64)),(.map (some gm))] false),(ao,.cells (flatC (R.map (aR 1 i64))) false),(af,.cells (flatC (os.map i64)) false),((some gm),.map (bN i64 i64 cs)),(a16,.cells (flatC (v17.map aK)) false)] O [5,0,1,2,6,7,8,9] (by decide))⟩
     ·refine gX ?_
      refine ldO (O.at (.tail _ (.tail _ (.tail _ (.tail _ (.head _)))))) ?_;refine gX ?_
      refine lw 98 [0,6,8,10,16,17,18,57] (σ:=((List Nat)×(List N2)×Nat)×(Option Nat×Option Nat)) (fun s=>s.1) (fun ((v46,v48,v49),(a45,a47)) h=>(a45=none->fs=[])/\(ao=none->R=[])/\(af=none->os=[])/\(a47=none->v48=[])/\Own vars h0 (((some gp),.cells [(.pointer (some ⟨gt,0,none⟩)),(ag 1 ao (R.map (aR 1 i64))),(ag 1 af (os.map i64)),(.map (some gm))] false)::((some gt),.cells [(ag 1 a45 (fs.map i64)),(.slice (some ⟨gb,0,none⟩) np np)] false)::(a45,.cells (flatC (fs.map i64)) false)::((some gb),.cells (flatC (v46.map i64)) false)::(ao,.cells (flatC (R.map (aR 1 i64))) false)::(af,.cells (flatC (os.map i64)) false)::((some gm),.map (bN i64 i64 cs))::(a47,.cells (flatC (v48.map aK)) false)::((some g37),.cells [(n8 r36.1.pin),(n8 r36.1.out)] false)::L) h) (fun ((v46,v48,v49),(a45,a47))=>[(5,(ag 2 a47 (v48.map aK))),(58,(i64 v49))]) ((x42,v17,0),(a40,a16)) hm ⟨ha44,ha20,ha21,ha22,(Own.gG [((some gt),.cells [(ag 1 a40 (fs.map i64)),(.slice (some ⟨gb,0,none⟩) np np)] false),(a40,.cells (flatC (fs.map i64)) false),((some gb),.cells (flatC (x42.map i64)) false),((some g37),.cells [(n8 r36.1.pin),(n8 r36.1.out)] false),((some g34),.cells [(n8 x33.kind),((ah 1 i64) x33.ins),(i64 x33.mem),(i64 x33.bit)] false),((some gp),.cells [(.pointer (some ⟨gt,0,none⟩)),(ag 1 ao (R.map (aR 1 i64))),(ag 1 af (os.map i64)),(.map (some gm))] false),(ao,.cells (flatC (R.map (aR 1 i64))) false),(af,.cells (flatC (os.map i64)) false),((some gm),.map (bN i64 i64 cs)),(a16,.cells (flatC (v17.map aK)) false)] O [5,0,1,2,6,7,8,9,3] (by decide))⟩ ?_
      clear hm;rintro⟨⟨v46,v48,v49⟩,⟨a45,a47⟩⟩ nx54 base h hm ⟨ha50,ha51,ha52,ha53,O⟩
      refine gX ?_
      refine br hm (fun hm=>?_) fun hm=>?_
      ·apply Cs;conv=>whnf
       refine jn (σ:=((List Nat)×(List N2))×(Option Nat×Option Nat)) hm 98 [0,6,8,10,16,17,18,57,58] (fun s=>s.1) (fun ((v56,v58),(a55,a57)) h=>(a55=none->fs=[])/\(ao=none->R=[])/\(af=none->os=[])/\(a57=none->v58=[])/\Own vars h0 (((some gp),.cells [(.pointer (some ⟨gt,0,none⟩)),(ag 1 ao (R.map (aR 1 i64))),(ag 1 af (os.map i64)),(.map (some gm))] false)::((some gt),.cells [(ag 1 a55 (fs.map i64)),(.slice (some ⟨gb,0,none⟩) np np)] false)::(a55,.cells (flatC (fs.map i64)) false)::((some gb),.cells (flatC (v56.map i64)) false)::(ao,.cells (flatC (R.map (aR 1 i64))) false)::(af,.cells (flatC (os.map i64)) false)::((some gm),.map (bN i64 i64 cs))::(a57,.cells (flatC (v58.map aK)) false)::((some g37),.cells [(n8 r36.1.pin),(n8 r36.1.out)] false)::L) h) (fun ((v56,v58),(a55,a57))=>[(5,(ag 2 a57 (v58.map aK)))]) (fun hm=>?_) ?_
       ·conv=>whnf
        apply Cs;conv=>whnf
        apply Cs;conv=>whnf
        apply Cs;conv=>whnf
        refine gH ?_
        first|refine CodeS.oA ?_ | (apply Cs;(conv=>whnf);refine CodeS.oA ?_) | (apply Cs;(conv=>whnf);apply Cs;(conv=>whnf);refine CodeS.oA ?_)
        refine gX ?_
        first|refine⟨.inr (.inr (ae rfl (O.at (.head _)) rfl rfl)),?_⟩|refine⟨.inr (.inl (by kernel_rfl)),?_⟩
        refine gX ?_
        first|refine⟨.inr (.inr (ae rfl (O.at (.head _)) rfl rfl)),?_⟩|refine⟨.inr (.inl (by kernel_rfl)),?_⟩
        refine gX ?_
        first|refine⟨.inr (.inr (ae rfl (O.at (.head _)) rfl rfl)),?_⟩|refine⟨.inr (.inl (by kernel_rfl)),?_⟩
        refine gX ?_
        refine ldO (O.at (.tail _ (.tail _ (.tail _ (.tail _ (.tail _ (.tail _ (.tail _ (.tail _ (.head _)))))))))) ?_;refine gH ?_
        refine A9 hm fun hm=>?_;refine gH ?_
        obtain⟨_,_,hcall,x64,a65,hm,rfl,ha66,O2,rfl⟩:=cJ hm ha50 (Own.gG [((some gp),.cells [(.pointer (some ⟨gt,0,none⟩)),(ag 1 ao (R.map (aR 1 i64))),(ag 1 af (os.map i64)),(.map (some gm))] false),((some gt),.cells [(ag 1 a45 (fs.map i64)),(.slice (some ⟨gb,0,none⟩) np np)] false),(a45,.cells (flatC (fs.map i64)) false),((some gb),.cells (flatC (v46.map i64)) false),(ao,.cells (flatC (R.map (aR 1 i64))) false),(af,.cells (flatC (os.map i64)) false),((some gm),.map (bN i64 i64 cs)),(a47,.cells (flatC (v48.map aK)) false),((some g37),.cells [(n8 r36.1.pin),(n8 r36.1.out)] false)] O [1,2,3,0,4,5,6,7,8] (by decide))
        have O:=O2;clear O2
        refine⟨_,_,hcall,?_⟩;refine gH ?_
        refine⟨.inr (.inl (Ext.refl _)),?_⟩;refine gH ?_
        have Ok:=O
        obtain⟨_,h,hcall,x67,x68,hm,rfl,ha69,O,_⟩:=dz hm ha66 O
        refine⟨_,_,hcall,?_⟩;refine gH ?_
        refine⟨.inr (.inr (uF (i:=3) (by kernel_rfl) rfl rfl (Ok.at (.tail _ (.tail _ (.tail _ (.head _))))) (O.at (.tail _ (.tail _ (.tail _ (.head _))))))),?_⟩;refine gH ?_
        clear Ok
        refine⟨_,mN (ek:=i64) (ev:=i64) (m:=cs) (k:=x68) (z:=0) rfl rfl rfl rfl (by kernel_rfl) re (O.at (.tail _ (.tail _ (.tail _ (.tail _ (.tail _ (.tail _ (.head _)))))))) rfl rfl,?_⟩;refine gH ?_
        refine⟨.inr (.inl (by kernel_rfl)),?_⟩;refine gH ?_
        refine gX ?_
        refine br hm (fun hm=>?_) fun hm=>?_
        ·refine gX ?_
         refine fz ?_;refine gH ?_
         refine O.apL (enc:=aK) (l:=v48) (new:=([(⟨((cq cs x68).getD 0),((cq cs x43).getD 0)⟩:N2)]:(List N2))) 2 (.tail _ (.tail _ (.tail _ (.tail _ (.tail _ (.tail _ (.tail _ (.head _)))))))) ha53 hm fun a70 h ha71 O hm=>?_;refine gH ?_
         exact jx ((x67,(v48++([(⟨((cq cs x68).getD 0),((cq cs x43).getD 0)⟩:N2)]:(List N2)))),(a65,a70)) hm ⟨ha69,ha51,ha52,ha71,(Own.gG [((some gt),.cells [(ag 1 a65 (fs.map i64)),(.slice (some ⟨gb,0,none⟩) np np)] false),(a65,.cells (flatC (fs.map i64)) false),((some gb),.cells (flatC (x67.map i64)) false),((some gp),.cells [(.pointer (some ⟨gt,0,none⟩)),(ag 1 ao (R.map (aR 1 i64))),(ag 1 af (os.map i64)),(.map (some gm))] false),(ao,.cells (flatC (R.map (aR 1 i64))) false),(af,.cells (flatC (os.map i64)) false),((some gm),.map (bN i64 i64 cs)),(a70,.cells (flatC ((v48++([(⟨((cq cs x68).getD 0),((cq cs x43).getD 0)⟩:N2)]:(List N2))).map aK)) false),((some g37),.cells [(n8 r36.1.pin),(n8 r36.1.out)] false)] O [3,0,1,2,4,5,6,7,8] (by decide))⟩
        ·refine gX ?_
         exact jx ((x67,v48),(a65,a47)) hm ⟨ha69,ha51,ha52,ha53,(Own.gG [((some gt),.cells [(ag 1 a65 (fs.map i64)),(.slice (some ⟨gb,0,none⟩) np np)] false),(a65,.cells (flatC (fs.map i64)) false),((some gb),.cells (flatC (x67.map i64)) false),((some gp),.cells [(.pointer (some ⟨gt,0,none⟩)),(ag 1 ao (R.map (aR 1 i64))),(ag 1 af (os.map i64)),(.map (some gm))] false),(ao,.cells (flatC (R.map (aR 1 i64))) false),(af,.cells (flatC (os.map i64)) false),((some gm),.map (bN i64 i64 cs)),(a47,.cells (flatC (v48.map aK)) false),((some g37),.cells [(n8 r36.1.pin),(n8 r36.1.out)] false)] O [3,0,1,2,4,5,6,7,8] (by decide))⟩
       ·clear hm;rintro⟨⟨v56,v58⟩,⟨a55,a57⟩⟩ base h hm ⟨ha59,ha60,ha61,ha62,O⟩
        refine gX ?_
        refine aL hm fun hm=>?_;refine gH ?_
        exact jx ((v56,v58,(v49+1)),(a55,a57)) hm ⟨ha59,ha60,ha61,ha62,O⟩
      ·refine gX ?_
       exact jx ((v46,v48),(a45,a47)) hm ⟨ha50,ha51,ha52,ha53,(Own.gG [((some gp),.cells [(.pointer (some ⟨gt,0,none⟩)),(ag 1 ao (R.map (aR 1 i64))),(ag 1 af (os.map i64)),(.map (some gm))] false),((some gt),.cells [(ag 1 a45 (fs.map i64)),(.slice (some ⟨gb,0,none⟩) np np)] false),(a45,.cells (flatC (fs.map i64)) false),((some gb),.cells (flatC (v46.map i64)) false),(ao,.cells (flatC (R.map (aR 1 i64))) false),(af,.cells (flatC (os.map i64)) false),((some gm),.map (bN i64 i64 cs)),(a47,.cells (flatC (v48.map aK)) false),((some g37),.cells [(n8 r36.1.pin),(n8 r36.1.out)] false)] O [0,1,2,3,4,5,6,7] (by decide))⟩
   ·clear hm;rintro⟨⟨v25,v27⟩,⟨a24,a26⟩⟩ base h hm ⟨ha28,ha29,ha30,ha31,O⟩
    refine gX ?_
    refine aL hm fun hm=>?_;refine gH ?_
    exact jx ((v25,v27,(v18+1)),(a24,a26)) hm ⟨ha28,ha29,ha30,ha31,O⟩
  ·refine gX ?_
   exact jx ((v17,v15),(a16,a14)) hm ⟨ha22,ha19,ha20,ha21,(Own.gG [((some gp),.cells [(.pointer (some ⟨gt,0,none⟩)),(ag 1 ao (R.map (aR 1 i64))),(ag 1 af (os.map i64)),(.map (some gm))] false),((some gt),.cells [(ag 1 a14 (fs.map i64)),(.slice (some ⟨gb,0,none⟩) np np)] false),(a14,.cells (flatC (fs.map i64)) false),((some gb),.cells (flatC (v15.map i64)) false),(ao,.cells (flatC (R.map (aR 1 i64))) false),(af,.cells (flatC (os.map i64)) false),((some gm),.map (bN i64 i64 cs)),(a16,.cells (flatC (v17.map aK)) false)] O [7,0,1,2,3,4,5,6] (by decide))⟩
 ·clear hm;rintro⟨⟨v6,v8⟩,⟨a5,a7⟩⟩ base h hm ⟨ha9,ha10,ha11,ha12,O⟩
  refine gX ?_
  obtain⟨x72,h,hp73,hs74,hcall,O⟩:=Eh O (.head _) ha9 hm.1 hm.2.1
  refine⟨_,_,hcall,?_⟩;refine gH ?_
  replace hm:=hm.2.2 x72 hp73 hs74
  have ha75:a5=none->x72=[]:=fun e=>by have:=ha9 e;rw[this] at hp73;exact hp73.eq_nil
  have he:(x72.map aK).length=(v6.map aK).length:=by simp[hp73.length_eq]
  (try rw[<- yh (s:=2) (a:=a5) he]);(try rw[<- he])
  refine gX ?_
  obtain⟨_,h,hcall,rfl,z76,O⟩:=sW ha75 hm.1 O
  refine⟨_,_,hcall,?_⟩;refine gH ?_
  replace hm:=hm.2
  refine fg Tryz.func44 ?_;refine gX ?_
  refine Ek (s:=2) (n:=(eV x72).length) (m:=x72.length) (wT _) ?_;refine gH ?_
  apply Cs;conv=>whnf
  refine gH ?_
  refine CodeS.Dl (l:=(eV x72)) (z:=z76) (s:=2) O (.head _) (fun e=>by rw[ha75 e];rfl) (fun _=>rfl) (t:=4) rfl rfl fun h O=>?_;refine gX ?_
  exact⟨v8,(eV x72),a7,hm,rfl,ha10,ha11,ha12,(Own.gG [(a5,.cells (flatC ((eV x72++z76).map aK)) true),((some gp),.cells [(.pointer (some ⟨gt,0,none⟩)),(ag 1 ao (R.map (aR 1 i64))),(ag 1 af (os.map i64)),(.map (some gm))] false),((some gt),.cells [(ag 1 a7 (fs.map i64)),(.slice (some ⟨gb,0,none⟩) np np)] false),(a7,.cells (flatC (fs.map i64)) false),((some gb),.cells (flatC (v8.map i64)) false),(ao,.cells (flatC (R.map (aR 1 i64))) false),(af,.cells (flatC (os.map i64)) false),((some gm),.map (bN i64 i64 cs))] O [1,2,3,4,5,6,7] (by decide)),trivial⟩
def bJ (p0:Circ) (p1:(List Flt)) (K:((List N2)×Nat)->Prop):Prop :=
 bz p0 p1 (fun r1=>((neN r1 0)=true->K ([],r1))/\((neN r1 0)=false->aY p0 p1 (fun (x2,x3,x4,x5,x6,x7)=>bE x4 x2 x3 x5 x6 x7 p0 (fun (_,x26)=>K (x26,0)))))
theorem jr {p0:Circ}{p1:(List Flt)}{K:((List N2)×Nat)->Prop} (hm:bJ p0 p1 K) {h0:Heap} (hB:HasB vars h0):∃ r,K r/\CallD Tryz.prog NG 12 ⟨[aB p0,(ah 5 az) p1]⟩ h0 ((fun (r:((List N2)×Nat))=>Value.tuple ⟨[(ah 2 aK) (r.1),i64 (r.2)]⟩) r) h0:=by
 unfold bJ at hm
 refine fw Tryz.func12 hB (enc:=(fun (r:((List N2)×Nat))=>Value.tuple ⟨[(ah 2 aK) (r.1),i64 (r.2)]⟩)) (fun r=>PureV.tup (ai.cons (ee (fun _=>A8 _)) (ai.cons (PureV.flat rfl) (ai.nil)))) fun O=>?_;conv=>whnf
 refine gX ?_
 refine fz ?_;refine gX ?_
 refine ca (dc hm O.has) fun r1 hm=>?_;refine gX ?_
 refine br hm (fun hm=>?_) fun hm=>?_
 ·refine gX ?_
  exact⟨([],r1),hm,O.ext,fun h2 F=>VLe.tup (LLe.cons (VLe.nil _ _) (LLe.cons (VLe.refl _ _) (LLe.nil _)))⟩
 ·apply Cs;conv=>whnf
  apply Cs;conv=>whnf
  refine CodeS.jD ?_;refine gH ?_
  obtain⟨_,h,hcall,x2,x3,x4,x5,x6,x7,a8,a9,a10,a11,a12,a13,a14,hm,rfl,ha22,ha23,ha24,O,_⟩:=ck hm  O
  refine⟨_,_,hcall,?_⟩;refine gH ?_
  obtain⟨_,h,hcall,x25,x26,a27,hm,rfl,ha28,ha29,ha30,O,_⟩:=dO hm ha22 ha23 ha24 O
  refine⟨_,_,hcall,?_⟩;refine gX ?_
  exact⟨(x26,0),hm,O.ext,fun h2 F=>VLe.tup (LLe.cons (VLe.refl _ _) (LLe.cons (VLe.refl _ _) (LLe.nil _)))⟩
def cX (p0:Circ) (p1:(List Flt)) (K:((List Nat)×Nat)->Prop):Prop :=
 bz p0 p1 (fun r1=>((neN r1 0)=true->K ([],r1))/\((neN r1 0)=false->aY p0 p1 (fun (x2,x3,x4,x5,x6,x7)=>1*x5.length<=2 ^ 48/\x5.length<2 ^ 63/\an (α:=((List Nat)×(List Bool))) (fun k33=>bE x4 x2 x3 x5 x6 x7 p0 (fun (x34,x35)=>au (S:=((List Bool)×Nat)) (fun (v40,v41) nx45=>((ltN v41 x35.length)=true->∃ x46,x35[v41]?=some x46/\x46.b<x5.length/\∃ x49,v40[x46.b]?=some x49/\v41+1<2 ^ 63/\nx45 ((v40.set x46.b true),(v41+1)))/\((ltN v41 x35.length)=false->k33 (x34,v40))) ((List.replicate x5.length (false:Bool)),0))) (fun (_,v29)=>an (α:=(List Nat)) (fun k54=>au (S:=((List Nat)×Nat)) (fun (v56,v58) nx61=>((ltN v58 x5.length)=true->an (α:=(List Nat)) (fun k67=>∃ x68,x5[v58]?=some x68/\v58<x5.length/\∃ x70,v29[v58]?=some x70/\((!x70)=true->∃ x71,x68[0]?=some x71/\(v56.length+([x71]:(List Nat)).length)*8<=2 ^ 47/\k67 (v56++([x71]:(List Nat))))/\((!x70)=false->k67 v56)) (fun v63=>v58+1<2 ^ 63/\nx61 (v63,(v58+1))))/\((ltN v58 x5.length)=false->k54 v56)) (([]:List Nat),0)) (fun v52=>K (v52,0))))))
theorem mY {p0:Circ}{p1:(List Flt)}{K:((List Nat)×Nat)->Prop} (hm:cX p0 p1 K) {h0:Heap} (hB:HasB vars h0):∃ r,K r/\CallD Tryz.prog NG 13 ⟨[aB p0,(ah 5 az) p1]⟩ h0 ((fun (r:((List Nat)×Nat))=>Value.tuple ⟨[(aR 1 i64) (r.1),i64 (r.2)]⟩) r) h0:=by
 unfold cX at hm
 refine fw Tryz.func13 hB (enc:=(fun (r:((List Nat)×Nat))=>Value.tuple ⟨[(aR 1 i64) (r.1),i64 (r.2)]⟩)) (fun r=>PureV.tup (ai.cons (uT (fun _=>ai.cons (PureV.flat rfl) ai.nil)) (ai.cons (PureV.flat rfl) (ai.nil)))) fun O=>?_;conv=>whnf
 refine gX ?_
 refine fz ?_;refine gX ?_
 refine ca (dc hm O.has) fun r1 hm=>?_;refine gX ?_
 refine br hm (fun hm=>?_) fun hm=>?_
 ·refine gX ?_
  exact⟨([],r1),hm,O.ext,fun h2 F=>VLe.tup (LLe.cons (VLe.A5 _ _ _) (LLe.cons (VLe.refl _ _) (LLe.nil _)))⟩
 ·refine gX ?_
  obtain⟨_,h,hcall,x2,x3,x4,x5,x6,x7,a8,a9,a10,a11,a12,a13,a14,hm,rfl,ha22,ha23,ha24,O,_⟩:=ck hm  O
  refine⟨_,_,hcall,?_⟩;refine gX ?_
  refine O.mkL (enc:=Value.bool) 1 1 false hm fun g25 h O hm=>?_;refine gH ?_
  refine jn (σ:=((List Nat)×(List Bool))×Option Nat) hm 66 [7,8] (fun s=>s.1) (fun ((v28,v29),a27) h=>(a27=none->x2=[])/\(a12=none->x5=[])/\(a13=none->x6=[])/\Own vars h0 [(sC a8 [(pG a9),(ag 1 a12 (x5.map (aR 1 i64))),(ag 1 a13 (x6.map i64)),(.map (some a14))]),(sC a9 [(ag 1 a27 (x2.map i64)),(.slice (some ⟨a11,0,none⟩) x4 x4)]),(a27,.cells (flatC (x2.map i64)) false),(sC a11 (flatC (v28.map i64))),(a12,.cells (flatC (x5.map (aR 1 i64))) false),(a13,.cells (flatC (x6.map i64)) false),((some a14),.map (bN i64 i64 x7)),(sC g25 (flatC (v29.map Value.bool)))] h) (fun ((v28,v29),a27)=>[]) (fun hm=>?_) ?_
  ·refine gX ?_
   obtain⟨_,h,hcall,x34,x35,a36,hm,rfl,ha37,ha38,ha39,O,_⟩:=dO hm ha22 ha23 ha24 (O.sel [1,2,3,4,5,6,7,0] (by decide))
   refine⟨_,_,hcall,?_⟩;refine gX ?_
   refine lw 66 [7,8,31,32] (σ:=((List Bool)×Nat)) (fun s=>s) (fun (v40,v41) h=>(a36=none->x2=[])/\(a12=none->x5=[])/\(a13=none->x6=[])/\Own vars h0 [(sC a8 [(pG a9),(ag 1 a12 (x5.map (aR 1 i64))),(ag 1 a13 (x6.map i64)),(.map (some a14))]),(sC a9 [(ag 1 a36 (x2.map i64)),(.slice (some ⟨a11,0,none⟩) x4 x4)]),(a36,.cells (flatC (x2.map i64)) false),(sC a11 (flatC (x34.map i64))),(a12,.cells (flatC (x5.map (aR 1 i64))) false),(a13,.cells (flatC (x6.map i64)) false),((some a14),.map (bN i64 i64 x7)),(sC g25 (flatC (v40.map Value.bool)))] h) (fun (v40,v41)=>[(33,(i64 v41))]) ((List.replicate x5.length (false:Bool)),0) hm ⟨ha37,ha38,ha39,O⟩ ?_
   clear hm;rintro⟨v40,v41⟩ nx45 base h hm ⟨ha42,ha43,ha44,O⟩
   refine gX ?_
   refine br hm (fun hm=>?_) fun hm=>?_
   ·refine gX ?_
    refine atF hm fun x46 hx46 hm=>?_;refine gH ?_
    refine O.new (ak (l:=[(i64 0),(i64 0)]) rfl rfl rfl) fun g47 h O=>?_;refine gH ?_
    refine O.stC 2 (.head _) [(i64 x46.a),(i64 x46.b)] fun h O=>?_;refine gX ?_
    refine lU rfl ?_;refine gH ?_
    refine ix 1 hm fun x49 hx49 hm=>?_;refine gH ?_
    refine O.stE 1 (.tail _ (.tail _ (.tail _ (.tail _ (.tail _ (.tail _ (.tail _ (.tail _ (.head _))))))))) hx49 true fun h O=>?_;refine gX ?_
    refine aL hm fun hm=>?_;refine gH ?_
    exact jx ((v40.set x46.b true),(v41+1)) hm ⟨ha42,ha43,ha44,(O.sel [1,2,3,4,5,6,7,8] (by decide))⟩
   ·refine gX ?_
    exact jx ((x34,v40),a36) hm ⟨ha42,ha43,ha44,O⟩
  ·clear hm;rintro⟨⟨v28,v29⟩,a27⟩ base h hm ⟨ha30,ha31,ha32,O⟩
   conv=>whnf
   apply Cs;conv=>whnf
   apply Cs;refine gH ?_
   have O:=O.aN (.cells (flatC ((([]:List Nat)).map i64)) false)
   refine jn (σ:=(List Nat)×Option Nat) hm 66 [] (fun s=>s.1) (fun (v52,a51) h=>(a51=none->v52=[])/\Own vars h0 [(a51,.cells (flatC (v52.map i64)) false)] h) (fun (v52,a51)=>[(11,(ag 1 a51 (v52.map i64)))]) (fun hm=>?_) ?_
   ·refine gX ?_
    refine lw 66 [8,46] (σ:=((List Nat)×Nat)×(Option Nat×Option Nat)) (fun s=>s.1) (fun ((v56,v58),(a55,a57)) h=>(a55=none->v56=[])/\(a57=none->x5=[])/\Own vars h0 [(sC g25 (flatC (v29.map Value.bool))),(a55,.cells (flatC (v56.map i64)) false),(a57,.cells (flatC (x5.map (aR 1 i64))) false)] h) (fun ((v56,v58),(a55,a57))=>[(11,(ag 1 a55 (v56.map i64))),(45,(ag 1 a57 (x5.map (aR 1 i64)))),(47,(i64 v58))]) ((([]:List Nat),0),(none,a12)) hm ⟨(fun _=>rfl),ha31,(O.sel [8,0,5] (by decide))⟩ ?_
    clear hm;rintro⟨⟨v56,v58⟩,⟨a55,a57⟩⟩ nx61 base h hm ⟨ha59,ha60,O⟩
    refine gX ?_
    refine br hm (fun hm=>?_) fun hm=>?_
    ·apply Cs;conv=>whnf
     refine jn (σ:=(List Nat)×(Option Nat×Option Nat)) hm 66 [8,46,47] (fun s=>s.1) (fun (v63,(a62,a64)) h=>(a62=none->v63=[])/\(a64=none->x5=[])/\Own vars h0 [(sC g25 (flatC (v29.map Value.bool))),(a62,.cells (flatC (v63.map i64)) false),(a64,.cells (flatC (x5.map (aR 1 i64))) false)] h) (fun (v63,(a62,a64))=>[(11,(ag 1 a62 (v63.map i64))),(45,(ag 1 a64 (x5.map (aR 1 i64))))]) (fun hm=>?_) ?_
     ·refine gX ?_
      obtain⟨x68,hx68,hm⟩:=hm
      have h9:=hm
      obtain⟨g69,rfl⟩:=dM ha60 hx68
      replace hm:=h9
      refine cE (s:=1) (j:=v58) rfl rfl rfl rfl (by rw[List.length_map];exact aj hx68) ?_;refine gH ?_
      refine ldE (s:=1) (i:=0) (O.at (.tail _ (.tail _ (.head _)))) hx68 ?_;refine gX ?_
      refine ix 1 hm fun x70 hx70 hm=>?_;refine gH ?_
      refine ldE (s:=1) (i:=0) (O.at (.head _)) hx70 ?_;refine gX ?_
      refine br hm (fun hm=>?_) fun hm=>?_
      ·refine gX ?_
       refine atC hm fun x71 hx71 hm=>?_;refine gH ?_
       refine fz ?_;refine gH ?_
       refine O.apL (enc:=i64) (l:=v56) (new:=([x71]:(List Nat))) 1 (.tail _ (.head _)) ha59 hm fun a72 h ha73 O hm=>?_;refine gH ?_
       exact jx ((v56++([x71]:(List Nat))),(a72,(some g69))) hm ⟨ha73,cz,O⟩
      ·refine gX ?_
       exact jx (v56,(a55,(some g69))) hm ⟨ha59,cz,O⟩
     ·clear hm;rintro⟨v63,⟨a62,a64⟩⟩ base h hm ⟨ha65,ha66,O⟩
      refine gX ?_
      refine aL hm fun hm=>?_;refine gH ?_
      exact jx ((v63,(v58+1)),(a62,a64)) hm ⟨ha65,ha66,O⟩
    ·refine gX ?_
     exact jx (v56,a55) hm ⟨ha59,(O.sel [1] (by decide))⟩
   ·clear hm;rintro⟨v52,a51⟩ base h hm ⟨ha53,O⟩
    refine gX ?_
    refine fg Tryz.func27 ?_;refine gX ?_
    refine ij (s:=1) (enc:=i64) (l:=v52) (n:=v52.length) (m:=v52.length) rfl rfl rfl rfl rfl rfl rfl ?_;refine gX ?_
    exact⟨(v52,0),hm,O.ext,fun h2 F=>VLe.tup (LLe.cons (O.B2 F (Nat.le_refl _) (.head _) ha53 (fun _=>rfl)) (LLe.cons (VLe.refl _ _) (LLe.nil _)))⟩
def aX (p0:Circ) (p1:(List Flt)) (p2:(List Int)) (K:((List Nat)×Nat)->Prop):Prop :=
 bz p0 p1 (fun r1=>((neN r1 0)=true->K ([],r1))/\((neN r1 0)=false->aY p0 p1 (fun (x2,x3,x4,x5,x6,x7)=>24*x5.length<=2 ^ 48/\x5.length<2 ^ 63/\an (α:=((List Nat)×(List (List Nat)))) (fun k35=>bE x4 x2 x3 x5 x6 x7 p0 (fun (x36,x37)=>au (S:=((List (List Nat))×Nat)) (fun (v42,v44) nx49=>((ltN v44 x37.length)=true->∃ x50,x37[v44]?=some x50/\x50.a<x5.length/\∃ x53,v42[x50.a]?=some x53/\(x53.length+([x50.b]:(List Nat)).length)*8<=2 ^ 47/\x50.a<x5.length/\v44+1<2 ^ 63/\nx49 ((v42.set x50.a (x53++([x50.b]:(List Nat)))),(v44+1)))/\((ltN v44 x37.length)=false->k35 (x36,v42))) ((List.replicate x5.length ([]:List Nat)),0))) (fun (_,v29)=>1*x5.length<=2 ^ 48/\x5.length<2 ^ 63/\an (α:=(List Nat)) (fun k77=>au (S:=((List Nat)×Nat)) (fun (v82,v83) nx90=>((ltN v83 p2.length)=true->∃ x91,p2[v83]?=some x91/\an (α:=Bool) (fun k99=>((ltI x91 (Int.ofNat 0))=true->k99 true)/\((ltI x91 (Int.ofNat 0))=false->k99 (!ltI x91 (Int.ofNat p1.length)))) (fun v92=>(v92=true->K ([],1))/\(v92=false->∃ j101:Nat,x91=Int.ofNat j101/\∃ x100,x6[j101]?=some x100/\(v82.length+([x100]:(List Nat)).length)*8<=2 ^ 47/\v83+1<2 ^ 63/\nx90 ((v82++([x100]:(List Nat))),(v83+1)))))/\((ltN v83 p2.length)=false->k77 v82)) (([]:List Nat),0)) (fun v70=>an (α:=(List Bool)) (fun k112=>au (S:=((List Bool)×(List Nat))) (fun (v113,v117) nx124=>((ltN 0 v117.length)=true->1<=v117.length/\v117.length<2 ^ 63/\∃ x125,v117[(v117.length-1)]?=some x125/\1<=v117.length/\v117.length<2 ^ 63/\(v117.length-1)<=v117.length/\x125<x5.length/\∃ x127,v113[x125]?=some x127/\((!x127)=true->x125<x5.length/\∃ x128,v113[x125]?=some x128/\x125<x5.length/\∃ x129,v29[x125]?=some x129/\((v117.take (v117.length-1)).length+x129.length)*8<=2 ^ 47/\nx124 ((v113.set x125 true),((v117.take (v117.length-1))++x129)))/\((!x127)=false->nx124 (v113,(v117.take (v117.length-1)))))/\((ltN 0 v117.length)=false->k112 v113)) ((List.replicate x5.length (false:Bool)),v70)) (fun v108=>an (α:=(List Nat)) (fun k143=>au (S:=((List Nat)×Nat)) (fun (v145,v147) nx150=>((ltN v147 x6.length)=true->an (α:=(List Nat)) (fun k156=>∃ x157,x6[v147]?=some x157/\x157<x5.length/\∃ x159,v108[x157]?=some x159/\(x159=true->(v145.length+([v147]:(List Nat)).length)*8<=2 ^ 47/\k156 (v145++([v147]:(List Nat))))/\(x159=false->k156 v145)) (fun v152=>v147+1<2 ^ 63/\nx150 (v152,(v147+1))))/\((ltN v147 x6.length)=false->k143 v145)) (([]:List Nat),0)) (fun v141=>K (v141,0))))))))
theorem fM {p0:Circ}{p1:(List Flt)}{p2:(List Int)}{K:((List Nat)×Nat)->Prop} (hm:aX p0 p1 p2 K) {h0:Heap} (hB:HasB vars h0):∃ r,K r/\CallD Tryz.prog NG 14 ⟨[aB p0,(ah 5 az) p1,(ah 1 z64) p2]⟩ h0 ((fun (r:((List Nat)×Nat))=>Value.tuple ⟨[(aR 1 i64) (r.1),i64 (r.2)]⟩) r) h0:=by
 unfold aX at hm
 refine fw Tryz.func14 hB (enc:=(fun (r:((List Nat)×Nat))=>Value.tuple ⟨[(aR 1 i64) (r.1),i64 (r.2)]⟩)) (fun r=>PureV.tup (ai.cons (uT (fun _=>ai.cons (PureV.flat rfl) ai.nil)) (ai.cons (PureV.flat rfl) (ai.nil)))) fun O=>?_;conv=>whnf
 refine gX ?_
 refine fz ?_;refine gX ?_
 refine ca (dc hm O.has) fun r1 hm=>?_;refine gX ?_
 refine br hm (fun hm=>?_) fun hm=>?_
 ·refine gX ?_
  exact⟨([],r1),hm,O.ext,fun h2 F=>VLe.tup (LLe.cons (VLe.A5 _ _ _) (LLe.cons (VLe.refl _ _) (LLe.nil _)))⟩
 ·refine gX ?_
  obtain⟨_,h,hcall,x2,x3,x4,x5,x6,x7,a8,a9,a10,a11,a12,a13,a14,hm,rfl,ha22,ha23,ha24,O,_⟩:=ck hm  O
  refine⟨_,_,hcall,?_⟩;refine gX ?_
  refine Own.xf (α:=Nat) (b:=24) (n:=x5.length) i64 1 O rfl rfl rfl rfl rfl rfl hm.1 hm.2.1 fun g25 h O=>?_;refine gH ?_
  replace hm:=hm.2.2
  refine jn (σ:=((List Nat)×(List (List Nat)))×(Option Nat×(List (Option Nat)))) hm 138 [1,2,9,10] (fun s=>s.1) (fun ((v28,v29),(a27,a30)) h=>(a27=none->x2=[])/\(a12=none->x5=[])/\(a13=none->x6=[])/\RowsOk a30 v29/\Own vars h0 ([(sC a8 [(pG a9),(ag 1 a12 (x5.map (aR 1 i64))),(ag 1 a13 (x6.map i64)),(.map (some a14))]),(sC a9 [(ag 1 a27 (x2.map i64)),(.slice (some ⟨a11,0,none⟩) x4 x4)]),(a27,.cells (flatC (x2.map i64)) false),(sC a11 (flatC (v28.map i64))),(a12,.cells (flatC (x5.map (aR 1 i64))) false),(a13,.cells (flatC (x6.map i64)) false),((some a14),.map (bN i64 i64 x7)),(sC g25 (aJ 1 i64 a30 v29))]++(aF i64 a30 v29)) h) (fun ((v28,v29),(a27,a30))=>[]) (fun hm=>?_) ?_
  ·refine gX ?_
   obtain⟨_,h,hcall,x36,x37,a38,hm,rfl,ha39,ha40,ha41,O,_⟩:=dO hm ha22 ha23 ha24 (Own.gG [(sC g25 (aJ 1 i64 (List.replicate x5.length none) (List.replicate x5.length ([]:List Nat)))),(sC a8 [(pG a9),(ag 1 a12 (x5.map (aR 1 i64))),(ag 1 a13 (x6.map i64)),(.map (some a14))]),(sC a9 [(ag 1 a10 (x2.map i64)),(.slice (some ⟨a11,0,none⟩) x4 x4)]),(a10,.cells (flatC (x2.map i64)) false),(sC a11 (flatC (x3.map i64))),(a12,.cells (flatC (x5.map (aR 1 i64))) false),(a13,.cells (flatC (x6.map i64)) false),((some a14),.map (bN i64 i64 x7))] (L:=(aF i64 (List.replicate x5.length none) (List.replicate x5.length ([]:List Nat)))) O [1,2,3,4,5,6,7,0] (by decide))
   refine⟨_,_,hcall,?_⟩;refine gX ?_
   refine lw 138 [1,2,9,10,38,39] (σ:=((List (List Nat))×Nat)×(List (Option Nat))) (fun s=>s.1) (fun ((v42,v44),a43) h=>(a38=none->x2=[])/\(a12=none->x5=[])/\(a13=none->x6=[])/\RowsOk a43 v42/\Own vars h0 ([(sC a8 [(pG a9),(ag 1 a12 (x5.map (aR 1 i64))),(ag 1 a13 (x6.map i64)),(.map (some a14))]),(sC a9 [(ag 1 a38 (x2.map i64)),(.slice (some ⟨a11,0,none⟩) x4 x4)]),(a38,.cells (flatC (x2.map i64)) false),(sC a11 (flatC (x36.map i64))),(a12,.cells (flatC (x5.map (aR 1 i64))) false),(a13,.cells (flatC (x6.map i64)) false),((some a14),.map (bN i64 i64 x7)),(sC g25 (aJ 1 i64 a43 v42))]++(aF i64 a43 v42)) h) (fun ((v42,v44),a43)=>[(40,(i64 v44))]) (((List.replicate x5.length ([]:List Nat)),0),(List.replicate x5.length none)) hm ⟨ha39,ha40,ha41,(RowsOk.start x5.length),O⟩ ?_
   clear hm;rintro⟨⟨v42,v44⟩,a43⟩ nx49 base h hm ⟨ha45,ha46,ha47,hr48,O⟩
   refine gX ?_
   refine br hm (fun hm=>?_) fun hm=>?_
   ·refine gX ?_
    refine atF hm fun x50 hx50 hm=>?_;refine gH ?_
    refine O.new (ak (l:=[(i64 0),(i64 0)]) rfl rfl rfl) fun g51 h O=>?_;refine gH ?_
    refine O.stC 2 (.head _) [(i64 x50.a),(i64 x50.b)] fun h O=>?_;refine gH ?_
    conv=>whnf
    refine CodeS.oA ?_;refine gH ?_
    refine lU rfl ?_;refine gH ?_
    refine lU rfl ?_;refine gH ?_
    refine cE (s:=1) (j:=x50.a) rfl rfl rfl rfl hm.1 ?_;refine gH ?_
    replace hm:=hm.2
    obtain⟨x53,hx53,hm⟩:=hm
    obtain⟨a54,hA56,ha55,O⟩:=Own.focus (S:=[(sC g51 [(i64 x50.a),(i64 x50.b)]),(sC a8 [(pG a9),(ag 1 a12 (x5.map (aR 1 i64))),(ag 1 a13 (x6.map i64)),(.map (some a14))]),(sC a9 [(ag 1 a38 (x2.map i64)),(.slice (some ⟨a11,0,none⟩) x4 x4)]),(a38,.cells (flatC (x2.map i64)) false),(sC a11 (flatC (x36.map i64))),(a12,.cells (flatC (x5.map (aR 1 i64))) false),(a13,.cells (flatC (x6.map i64)) false),((some a14),.map (bN i64 i64 x7)),(sC g25 (aJ 1 i64 a43 v42))]) hr48 O hx53
    refine⟨_,rj (O.at (.tail _ (.tail _ (.tail _ (.tail _ (.tail _ (.tail _ (.tail _ (.tail _ (.tail _ (.head _))))))))))) hA56 hx53 rfl rfl,?_⟩;refine gH ?_
    refine⟨.inr (.inl (by kernel_rfl)),?_⟩;refine gH ?_
    refine lU rfl ?_;refine gH ?_
    refine O.bT (l:=([x50.b]:(List Nat))) (enc:=i64) (s:=1) (z:=(i64 0)) rfl rfl (by kernel_rfl) (by kernel_rfl) rfl rfl rfl rfl (fun _=>rfl) fun g58 h O=>?_;refine gH ?_
    have Ok:=O
    refine O.ct (enc:=i64) (l:=x53) (new:=([x50.b]:(List Nat))) (s:=1) (b:=8) (.tail _ (.head _)) ha55.1 rfl rfl rfl rfl rfl rfl rfl rfl (YOk.own (O.at (.head _)) rfl (fun _=>rfl) rfl) (fun _=>rfl) (fun _=>rfl) (by decide) hm.1 fun a60 h ha61 O=>?_;refine gH ?_
    refine⟨.inr (.inr (uF (i:=2) (by kernel_rfl) rfl rfl (Ok.at (.tail _ (.tail _ (.head _)))) (O.at (.tail _ (.tail _ (.head _)))))),?_⟩;refine gH ?_
    clear Ok
    replace hm:=hm.2
    refine cE (s:=1) (j:=x50.a) rfl rfl rfl rfl hm.1 ?_;refine gH ?_
    replace hm:=hm.2
    refine O.sK (s:=1) (enc:=i64) (j:=x50.a) (v:=(ag 1 a60 ((x53++([x50.b]:(List Nat))).map i64))) (.tail _ (.tail _ (.tail _ (.tail _ (.tail _ (.tail _ (.tail _ (.tail _ (.tail _ (.tail _ (.head _))))))))))) hr48 hx53 rfl rfl rfl rfl rfl fun h O=>?_;refine gH ?_
    replace O:=(Own.gG [(sC g58 (flatC (([x50.b]:(List Nat)).map i64))),(a60,.cells (flatC ((x53++([x50.b]:(List Nat))).map i64)) false),(sC g51 [(i64 x50.a),(i64 x50.b)]),(sC a8 [(pG a9),(ag 1 a12 (x5.map (aR 1 i64))),(ag 1 a13 (x6.map i64)),(.map (some a14))]),(sC a9 [(ag 1 a38 (x2.map i64)),(.slice (some ⟨a11,0,none⟩) x4 x4)]),(a38,.cells (flatC (x2.map i64)) false),(sC a11 (flatC (x36.map i64))),(a12,.cells (flatC (x5.map (aR 1 i64))) false),(a13,.cells (flatC (x6.map i64)) false),((some a14),.map (bN i64 i64 x7)),(sC g25 ((aJ 1 i64 a43 v42).set x50.a (ag 1 a60 ((x53++([x50.b]:(List Nat))).map i64))))] (L:=(aF i64 (a43.set x50.a none) v42)) O [1,0,2,3,4,5,6,7,8,9,10] (by decide))
    rw[<- lP] at O
    have hr62:RowsOk (a43.set x50.a a60) (v42.set x50.a (x53++([x50.b]:(List Nat)))):=RowsOk.set hr48 ⟨ha61,fun e=>absurd e (by simp)⟩
    replace O:=Own.ri (S:=[(sC g58 (flatC (([x50.b]:(List Nat)).map i64))),(sC g51 [(i64 x50.a),(i64 x50.b)]),(sC a8 [(pG a9),(ag 1 a12 (x5.map (aR 1 i64))),(ag 1 a13 (x6.map i64)),(.map (some a14))]),(sC a9 [(ag 1 a38 (x2.map i64)),(.slice (some ⟨a11,0,none⟩) x4 x4)]),(a38,.cells (flatC (x2.map i64)) false),(sC a11 (flatC (x36.map i64))),(a12,.cells (flatC (x5.map (aR 1 i64))) false),(a13,.cells (flatC (x6.map i64)) false),((some a14),.map (bN i64 i64 x7)),(some g25,.cells (aJ 1 i64 (a43.set x50.a a60) (v42.set x50.a (x53++([x50.b]:(List Nat))))) false)]) O hx53 hr48
    refine gX ?_
    refine aL hm fun hm=>?_;refine gH ?_
    exact jx (((v42.set x50.a (x53++([x50.b]:(List Nat)))),(v44+1)),(a43.set x50.a a60)) hm ⟨ha45,ha46,ha47,hr62,(Own.gG [(sC g58 (flatC (([x50.b]:(List Nat)).map i64))),(sC g51 [(i64 x50.a),(i64 x50.b)]),(sC a8 [(pG a9),(ag 1 a12 (x5.map (aR 1 i64))),(ag 1 a13 (x6.map i64)),(.map (some a14))]),(sC a9 [(ag 1 a38 (x2.map i64)),(.slice (some ⟨a11,0,none⟩) x4 x4)]),(a38,.cells (flatC (x2.map i64)) false),(sC a11 (flatC (x36.map i64))),(a12,.cells (flatC (x5.map (aR 1 i64))) false),(a13,.cells (flatC (x6.map i64)) false),((some a14),.map (bN i64 i64 x7)),(sC g25 (aJ 1 i64 (a43.set x50.a a60) (v42.set x50.a (x53++([x50.b]:(List Nat))))))] (L:=(aF i64 (a43.set x50.a a60) (v42.set x50.a (x53++([x50.b]:(List Nat)))))) O [2,3,4,5,6,7,8,9] (by decide))⟩
   ·refine gX ?_
    exact jx ((x36,v42),(a38,a43)) hm ⟨ha45,ha46,ha47,hr48,O⟩
  ·clear hm;rintro⟨⟨v28,v29⟩,⟨a27,a30⟩⟩ base h hm ⟨ha31,ha32,ha33,hr34,O⟩
   refine gX ?_
   refine O.mkL (enc:=Value.bool) 1 1 false hm fun g63 h O hm=>?_;refine gH ?_
   apply Cs;conv=>whnf
   apply Cs;refine gH ?_
   have O:=O.aN (.cells (flatC ((([]:List Nat)).map i64)) false)
   refine jn (σ:=(List Nat)×(Option Nat×Option Nat×Option Nat×(List Nat))) hm 138 [9,10,13] (fun s=>s.1) (fun (v70,(a66,a67,a68,a69)) h=>(a27=none->x2=[])/\(a12=none->x5=[])/\(a66=none->x6=[])/\RowsOk a30 v29/\(a67=none->v70++a69=[])/\(a68=none\/a68=some 1)/\Own vars h0 ([(sC a8 [(pG a9),(ag 1 a12 (x5.map (aR 1 i64))),(ag 1 a66 (x6.map i64)),(.map (some a14))]),(sC a9 [(ag 1 a27 (x2.map i64)),(.slice (some ⟨a11,0,none⟩) x4 x4)]),(a27,.cells (flatC (x2.map i64)) false),(sC a11 (flatC (v28.map i64))),(a12,.cells (flatC (x5.map (aR 1 i64))) false),(a66,.cells (flatC (x6.map i64)) false),((some a14),.map (bN i64 i64 x7)),(sC g25 (aJ 1 i64 a30 v29)),(sC g63 (flatC ((List.replicate x5.length (false:Bool)).map Value.bool))),(a67,.cells (flatC ((v70++a69).map i64)) false)]++(aF i64 a30 v29)) h) (fun (v70,(a66,a67,a68,a69))=>[(14,(stV i64 a67 a68 v70 a69))]) (fun hm=>?_) ?_
   ·refine gX ?_
    refine lw 138 [1,9,10,13,64,65] (σ:=((List Nat)×Nat)×(Option Nat×Option Nat×Option Nat×(List Nat))) (fun s=>s.1) (fun ((v82,v83),(a78,a79,a80,a81)) h=>(a27=none->x2=[])/\(a12=none->x5=[])/\(a78=none->x6=[])/\RowsOk a30 v29/\(a79=none->v82++a81=[])/\(a80=none\/a80=some 1)/\Own vars h0 ([(sC a8 [(pG a9),(ag 1 a12 (x5.map (aR 1 i64))),(ag 1 a78 (x6.map i64)),(.map (some a14))]),(sC a9 [(ag 1 a27 (x2.map i64)),(.slice (some ⟨a11,0,none⟩) x4 x4)]),(a27,.cells (flatC (x2.map i64)) false),(sC a11 (flatC (v28.map i64))),(a12,.cells (flatC (x5.map (aR 1 i64))) false),(a78,.cells (flatC (x6.map i64)) false),((some a14),.map (bN i64 i64 x7)),(sC g25 (aJ 1 i64 a30 v29)),(sC g63 (flatC ((List.replicate x5.length (false:Bool)).map Value.bool))),(a79,.cells (flatC ((v82++a81).map i64)) false)]++(aF i64 a30 v29)) h) (fun ((v82,v83),(a78,a79,a80,a81))=>[(14,(stV i64 a79 a80 v82 a81)),(66,(i64 v83))]) ((([]:List Nat),0),(a13,none,none,([]:List Nat))) hm ⟨ha31,ha32,ha33,hr34,(fun _=>rfl),(.inl rfl),(Own.gG [(none,.cells (flatC ((([]:List Nat)++([]:List Nat)).map i64)) false),(sC g63 (flatC ((List.replicate x5.length (false:Bool)).map Value.bool))),(sC a8 [(pG a9),(ag 1 a12 (x5.map (aR 1 i64))),(ag 1 a13 (x6.map i64)),(.map (some a14))]),(sC a9 [(ag 1 a27 (x2.map i64)),(.slice (some ⟨a11,0,none⟩) x4 x4)]),(a27,.cells (flatC (x2.map i64)) false),(sC a11 (flatC (v28.map i64))),(a12,.cells (flatC (x5.map (aR 1 i64))) false),(a13,.cells (flatC (x6.map i64)) false),((some a14),.map (bN i64 i64 x7)),(sC g25 (aJ 1 i64 a30 v29))] (L:=(aF i64 a30 v29)) O [2,3,4,5,6,7,8,9,1,0] (by decide))⟩ ?_
    clear hm;rintro⟨⟨v82,v83⟩,⟨a78,a79,a80,a81⟩⟩ nx90 base h hm ⟨ha84,ha85,ha86,hr87,ha88,ht89,O⟩
    refine gX ?_
    refine br hm (fun hm=>?_) fun hm=>?_
    ·refine gX ?_
     refine atF hm fun x91 hx91 hm=>?_;refine gH ?_
     apply Cs;conv=>whnf
     refine jn hm 138 [1,9,10,13,14,16,64,65,66] (fun s=>s) (fun v92 h=>(a27=none->x2=[])/\(a12=none->x5=[])/\(a78=none->x6=[])/\RowsOk a30 v29/\(a79=none->v82++a81=[])/\(a80=none\/a80=some 1)/\Own vars h0 ([(sC a8 [(pG a9),(ag 1 a12 (x5.map (aR 1 i64))),(ag 1 a78 (x6.map i64)),(.map (some a14))]),(sC a9 [(ag 1 a27 (x2.map i64)),(.slice (some ⟨a11,0,none⟩) x4 x4)]),(a27,.cells (flatC (x2.map i64)) false),(sC a11 (flatC (v28.map i64))),(a12,.cells (flatC (x5.map (aR 1 i64))) false),(a78,.cells (flatC (x6.map i64)) false),((some a14),.map (bN i64 i64 x7)),(sC g25 (aJ 1 i64 a30 v29)),(sC g63 (flatC ((List.replicate x5.length (false:Bool)).map Value.bool))),(a79,.cells (flatC ((v82++a81).map i64)) false)]++(aF i64 a30 v29)) h) (fun v92=>[(77,(.bool v92))]) (fun hm=>?_) ?_
     ·refine gX ?_
      refine br hm (fun hm=>?_) fun hm=>?_
      ·refine gX ?_
       exact jx true hm ⟨ha84,ha85,ha86,hr87,ha88,ht89,O⟩
      ·refine gX ?_
       exact jx (!ltI x91 (Int.ofNat p1.length)) hm ⟨ha84,ha85,ha86,hr87,ha88,ht89,O⟩
     ·clear hm;rintro v92 base h hm ⟨ha93,ha94,ha95,hr96,ha97,ht98,O⟩
      refine gX ?_
      refine br hm (fun hm=>?_) fun hm=>?_
      ·refine gX ?_
       exact⟨([],1),hm,O.ext,fun h2 F=>VLe.tup (LLe.cons (VLe.A5 _ _ _) (LLe.cons (VLe.refl _ _) (LLe.nil _)))⟩
      ·refine gX ?_
       obtain⟨j101,hz,x100,hx100,hm⟩:=hm
       have h9:=hm
       obtain⟨g102,rfl⟩:=dM ha95 hx100
       replace hm:=h9
       refine cE (s:=1) (j:=j101) rfl rfl rfl (congrArg (Value.int .i64) hz) (by rw[List.length_map];exact aj hx100) ?_;refine gH ?_
       refine ldE (s:=1) (i:=0) (O.at (.tail _ (.tail _ (.tail _ (.tail _ (.tail _ (.head _))))))) hx100 ?_;refine gH ?_
       refine fz ?_;refine gH ?_
       refine O.yq (enc:=i64) (l:=v82) (J:=a81) (new:=([x100]:(List Nat))) (s:=1) (b:=8) (.tail _ (.tail _ (.tail _ (.tail _ (.tail _ (.tail _ (.tail _ (.tail _ (.tail _ (.head _)))))))))) ha97 ht98 rfl rfl rfl rfl rfl rfl rfl rfl (YOk.fl rfl) (fun _=>rfl) (fun _=>rfl) (by decide) hm.1 fun a103 a104 a105 h ha106 ht107 O=>?_;refine gX ?_
       replace hm:=hm.2
       refine aL hm fun hm=>?_;refine gH ?_
       exact jx (((v82++([x100]:(List Nat))),(v83+1)),((some g102),a103,a104,a105)) hm ⟨ha93,ha94,cz,hr96,ha106,ht107,O⟩
    ·refine gX ?_
     exact jx (v82,(a78,a79,a80,a81)) hm ⟨ha84,ha85,ha86,hr87,ha88,ht89,O⟩
   ·clear hm;rintro⟨v70,⟨a66,a67,a68,a69⟩⟩ base h hm ⟨ha71,ha72,ha73,hr74,ha75,ht76,O⟩
    conv=>whnf
    refine jn hm 138 [9,13] (fun s=>s) (fun v108 h=>(a27=none->x2=[])/\(a12=none->x5=[])/\(a66=none->x6=[])/\Own vars h0 [(sC a8 [(pG a9),(ag 1 a12 (x5.map (aR 1 i64))),(ag 1 a66 (x6.map i64)),(.map (some a14))]),(sC a9 [(ag 1 a27 (x2.map i64)),(.slice (some ⟨a11,0,none⟩) x4 x4)]),(a27,.cells (flatC (x2.map i64)) false),(sC a11 (flatC (v28.map i64))),(a12,.cells (flatC (x5.map (aR 1 i64))) false),(a66,.cells (flatC (x6.map i64)) false),((some a14),.map (bN i64 i64 x7)),(sC g63 (flatC (v108.map Value.bool)))] h) (fun v108=>[]) (fun hm=>?_) ?_
    ·refine gX ?_
     refine lw 138 [9,10,13] (σ:=((List Bool)×(List Nat))×(Option Nat×Option Nat×(List Nat))) (fun s=>s.1) (fun ((v113,v117),(a114,a115,a116)) h=>(a27=none->x2=[])/\(a12=none->x5=[])/\(a66=none->x6=[])/\RowsOk a30 v29/\(a114=none->v117++a116=[])/\(a115=none\/a115=some 1)/\Own vars h0 ([(sC a8 [(pG a9),(ag 1 a12 (x5.map (aR 1 i64))),(ag 1 a66 (x6.map i64)),(.map (some a14))]),(sC a9 [(ag 1 a27 (x2.map i64)),(.slice (some ⟨a11,0,none⟩) x4 x4)]),(a27,.cells (flatC (x2.map i64)) false),(sC a11 (flatC (v28.map i64))),(a12,.cells (flatC (x5.map (aR 1 i64))) false),(a66,.cells (flatC (x6.map i64)) false),((some a14),.map (bN i64 i64 x7)),(sC g25 (aJ 1 i64 a30 v29)),(sC g63 (flatC (v113.map Value.bool))),(a114,.cells (flatC ((v117++a116).map i64)) false)]++(aF i64 a30 v29)) h) (fun ((v113,v117),(a114,a115,a116))=>[(14,(stV i64 a114 a115 v117 a116))]) (((List.replicate x5.length (false:Bool)),v70),(a67,a68,a69)) hm ⟨ha71,ha72,ha73,hr74,ha75,ht76,O⟩ ?_
     clear hm;rintro⟨⟨v113,v117⟩,⟨a114,a115,a116⟩⟩ nx124 base h hm ⟨ha118,ha119,ha120,hr121,ha122,ht123,O⟩
     refine gX ?_
     refine br hm (fun hm=>?_) fun hm=>?_
     ·refine gX ?_
      refine pP hm fun hm=>?_;refine gH ?_
      obtain⟨x125,hx125,hm⟩:=hm
      have h9:=hm
      obtain⟨g126,rfl⟩:=Cm ha122 hx125
      replace hm:=h9
      refine cE (s:=1) (j:=(v117.length-1)) rfl rfl rfl rfl (aj hx125) ?_;refine gH ?_
      replace hx125:=DZ (J:=a116) hx125
      refine ldE (s:=1) (i:=0) (O.at (.tail _ (.tail _ (.tail _ (.tail _ (.tail _ (.tail _ (.tail _ (.tail _ (.tail _ (.head _))))))))))) hx125 ?_;refine gX ?_
      refine pP hm fun hm=>?_;refine gH ?_
      refine DX (enc:=i64) (l:=v117) (J:=a116) (s:=1) (k:=(v117.length-1)) rfl rfl rfl ht123 rfl hm.1 ?_;refine gX ?_
      rw[EO (enc:=i64) v117 a116 (v117.length-1)] at O
      replace hm:=hm.2
      refine ix 1 hm fun x127 hx127 hm=>?_;refine gH ?_
      refine ldE (s:=1) (i:=0) (O.at (.tail _ (.tail _ (.tail _ (.tail _ (.tail _ (.tail _ (.tail _ (.tail _ (.head _)))))))))) hx127 ?_;refine gX ?_
      refine br hm (fun hm=>?_) fun hm=>?_
      ·refine gX ?_
       refine ix 1 hm fun x128 hx128 hm=>?_;refine gH ?_
       refine O.stE 1 (.tail _ (.tail _ (.tail _ (.tail _ (.tail _ (.tail _ (.tail _ (.tail _ (.head _))))))))) hx128 true fun h O=>?_;refine gX ?_
       refine cE (s:=1) (j:=x125) rfl rfl rfl rfl hm.1 ?_;refine gH ?_
       replace hm:=hm.2
       obtain⟨x129,hx129,hm⟩:=hm
       obtain⟨a130,hA132,ha131,O⟩:=Own.focus (S:=[(sC a8 [(pG a9),(ag 1 a12 (x5.map (aR 1 i64))),(ag 1 a66 (x6.map i64)),(.map (some a14))]),(sC a9 [(ag 1 a27 (x2.map i64)),(.slice (some ⟨a11,0,none⟩) x4 x4)]),(a27,.cells (flatC (x2.map i64)) false),(sC a11 (flatC (v28.map i64))),(a12,.cells (flatC (x5.map (aR 1 i64))) false),(a66,.cells (flatC (x6.map i64)) false),((some a14),.map (bN i64 i64 x7)),(sC g25 (aJ 1 i64 a30 v29)),(sC g63 (flatC ((v113.set x125 true).map Value.bool))),(sC g126 (flatC (((v117.take (v117.length-1))++(v117.drop (v117.length-1)++a116)).map i64)))]) hr121 O hx129
       refine⟨_,rj (O.at (.tail _ (.tail _ (.tail _ (.tail _ (.tail _ (.tail _ (.tail _ (.tail _ (.head _)))))))))) hA132 hx129 rfl rfl,?_⟩;refine gH ?_
       refine O.yq (enc:=i64) (l:=(v117.take (v117.length-1))) (J:=(v117.drop (v117.length-1)++a116)) (new:=x129) (s:=1) (b:=8) (.tail _ (.tail _ (.tail _ (.tail _ (.tail _ (.tail _ (.tail _ (.tail _ (.tail _ (.tail _ (.head _))))))))))) cz ht123 rfl rfl rfl rfl rfl rfl rfl rfl (YOk.gr O (.head _) ha131.1 (fun _=>rfl) rfl) (fun _=>rfl) (fun _=>rfl) (by decide) hm.1 fun a134 a135 a136 h ha137 ht138 O=>?_;refine gH ?_
       replace hm:=hm.2
       replace O:=Own.ri (S:=[(sC a8 [(pG a9),(ag 1 a12 (x5.map (aR 1 i64))),(ag 1 a66 (x6.map i64)),(.map (some a14))]),(sC a9 [(ag 1 a27 (x2.map i64)),(.slice (some ⟨a11,0,none⟩) x4 x4)]),(a27,.cells (flatC (x2.map i64)) false),(sC a11 (flatC (v28.map i64))),(a12,.cells (flatC (x5.map (aR 1 i64))) false),(a66,.cells (flatC (x6.map i64)) false),((some a14),.map (bN i64 i64 x7)),(sC g25 (aJ 1 i64 a30 v29)),(sC g63 (flatC ((v113.set x125 true).map Value.bool))),(a134,.cells (flatC ((((v117.take (v117.length-1))++x129)++a136).map i64)) false)]) O hx129 hr121
       rw[ia hx129,wV hA132] at O
       exact jx (((v113.set x125 true),((v117.take (v117.length-1))++x129)),(a134,a135,a136)) hm ⟨ha118,ha119,ha120,hr121,ha137,ht138,O⟩
      ·refine gX ?_
       exact jx ((v113,(v117.take (v117.length-1))),((some g126),a115,(v117.drop (v117.length-1)++a116))) hm ⟨ha118,ha119,ha120,hr121,cz,ht123,O⟩
     ·refine gX ?_
      exact jx v113 hm ⟨ha118,ha119,ha120,(Own.fst (Own.gG [(sC a8 [(pG a9),(ag 1 a12 (x5.map (aR 1 i64))),(ag 1 a66 (x6.map i64)),(.map (some a14))]),(sC a9 [(ag 1 a27 (x2.map i64)),(.slice (some ⟨a11,0,none⟩) x4 x4)]),(a27,.cells (flatC (x2.map i64)) false),(sC a11 (flatC (v28.map i64))),(a12,.cells (flatC (x5.map (aR 1 i64))) false),(a66,.cells (flatC (x6.map i64)) false),((some a14),.map (bN i64 i64 x7)),(sC g25 (aJ 1 i64 a30 v29)),(sC g63 (flatC (v113.map Value.bool))),(a114,.cells (flatC ((v117++a116).map i64)) false)] (L:=(aF i64 a30 v29)) O [0,1,2,3,4,5,6,8] (by decide)))⟩
    ·clear hm;rintro v108 base h hm ⟨ha109,ha110,ha111,O⟩
     conv=>whnf
     apply Cs;conv=>whnf
     apply Cs;refine gH ?_
     have O:=O.aN (.cells (flatC ((([]:List Nat)).map i64)) false)
     refine jn (σ:=(List Nat)×Option Nat) hm 138 [] (fun s=>s.1) (fun (v141,a140) h=>(a140=none->v141=[])/\Own vars h0 [(a140,.cells (flatC (v141.map i64)) false)] h) (fun (v141,a140)=>[(18,(ag 1 a140 (v141.map i64)))]) (fun hm=>?_) ?_
     ·refine gX ?_
      refine lw 138 [13,121] (σ:=((List Nat)×Nat)×(Option Nat×Option Nat)) (fun s=>s.1) (fun ((v145,v147),(a144,a146)) h=>(a144=none->v145=[])/\(a146=none->x6=[])/\Own vars h0 [(sC g63 (flatC (v108.map Value.bool))),(a144,.cells (flatC (v145.map i64)) false),(a146,.cells (flatC (x6.map i64)) false)] h) (fun ((v145,v147),(a144,a146))=>[(18,(ag 1 a144 (v145.map i64))),(120,(ag 1 a146 (x6.map i64))),(122,(i64 v147))]) ((([]:List Nat),0),(none,a66)) hm ⟨(fun _=>rfl),ha111,(O.sel [8,0,6] (by decide))⟩ ?_
      clear hm;rintro⟨⟨v145,v147⟩,⟨a144,a146⟩⟩ nx150 base h hm ⟨ha148,ha149,O⟩
      refine gX ?_
      refine br hm (fun hm=>?_) fun hm=>?_
      ·apply Cs;conv=>whnf
       refine jn (σ:=(List Nat)×(Option Nat×Option Nat)) hm 138 [13,121,122] (fun s=>s.1) (fun (v152,(a151,a153)) h=>(a151=none->v152=[])/\(a153=none->x6=[])/\Own vars h0 [(sC g63 (flatC (v108.map Value.bool))),(a151,.cells (flatC (v152.map i64)) false),(a153,.cells (flatC (x6.map i64)) false)] h) (fun (v152,(a151,a153))=>[(18,(ag 1 a151 (v152.map i64))),(120,(ag 1 a153 (x6.map i64)))]) (fun hm=>?_) ?_
       ·refine gX ?_
        obtain⟨x157,hx157,hm⟩:=hm
        have h9:=hm
        obtain⟨g158,rfl⟩:=dM ha149 hx157
        replace hm:=h9
        refine cE (s:=1) (j:=v147) rfl rfl rfl rfl (by rw[List.length_map];exact aj hx157) ?_;refine gH ?_
        refine ldE (s:=1) (i:=0) (O.at (.tail _ (.tail _ (.head _)))) hx157 ?_;refine gX ?_
        refine ix 1 hm fun x159 hx159 hm=>?_;refine gH ?_
        refine ldE (s:=1) (i:=0) (O.at (.head _)) hx159 ?_;refine gX ?_
        refine br hm (fun hm=>?_) fun hm=>?_
        ·refine gX ?_
         refine fz ?_;refine gH ?_
         refine O.apL (enc:=i64) (l:=v145) (new:=([v147]:(List Nat))) 1 (.tail _ (.head _)) ha148 hm fun a160 h ha161 O hm=>?_;refine gH ?_
         exact jx ((v145++([v147]:(List Nat))),(a160,(some g158))) hm ⟨ha161,cz,O⟩
        ·refine gX ?_
         exact jx (v145,(a144,(some g158))) hm ⟨ha148,cz,O⟩
       ·clear hm;rintro⟨v152,⟨a151,a153⟩⟩ base h hm ⟨ha154,ha155,O⟩
        refine gX ?_
        refine aL hm fun hm=>?_;refine gH ?_
        exact jx ((v152,(v147+1)),(a151,a153)) hm ⟨ha154,ha155,O⟩
      ·refine gX ?_
       exact jx (v145,a144) hm ⟨ha148,(O.sel [1] (by decide))⟩
     ·clear hm;rintro⟨v141,a140⟩ base h hm ⟨ha142,O⟩
      refine gX ?_
      refine fg Tryz.func27 ?_;refine gX ?_
      refine ij (s:=1) (enc:=i64) (l:=v141) (n:=v141.length) (m:=v141.length) rfl rfl rfl rfl rfl rfl rfl ?_;refine gX ?_
      exact⟨(v141,0),hm,O.ext,fun h2 F=>VLe.tup (LLe.cons (O.B2 F (Nat.le_refl _) (.head _) ha142 (fun _=>rfl)) (LLe.cons (VLe.refl _ _) (LLe.nil _)))⟩
def D4 (f:Flt):Si:=⟨f.line.node,(f.line.pin+1).toNat,f.value⟩
theorem BH (s:Si):D4 (fltS s)=s:=by
 obtain⟨n,p,v⟩:=s
 unfold D4 fltS
 have:(Int.ofNat p-1+1).toNat=p:=by simp only[Int.ofNat_eq_natCast];omega
 dsimp only
 rw[this]
def dP (c:Circ) (f:Flt):Flt:=if f.model=0 then fltS (clsN c (D4 f)) else f
theorem ow (c:Circ) (s:Si):dP c (fltS s)=fltS (clsN c s):=by
 unfold dP
 rw[if_pos (by rfl),BH]
theorem xO {c:Circ}{f:Flt} (h:f.model≠0):dP c f=f:=if_neg h
def lB (c:Circ) (acc:List Flt) (f:Flt):List Flt:=if dP c f∈acc then acc else acc++[dP c f]
def ksF (c:Circ) (l:List Flt):List Flt:=l.foldl (lB c) []
theorem iq (c:Circ) (l:List Flt) (f:Flt):ksF c (l++[f])=lB c (ksF c l) f:=by unfold ksF;rw[List.foldl_append];rfl
theorem mJ {α:Type}{P:List α->Prop} (h0:P []) (h1:∀ p x,P p->P (p++[x])) (l:List α):P l:=by
 have key:∀ n (l:List α),l.length=n->P l:=by
  intro n
  induction n with
  |zero=>intro l h;rw[List.length_eq_zero_iff.1 h];exact h0
  |succ n ih =>
   intro l h
   rcases List.eq_nil_or_concat l with rfl|⟨p,x,rfl⟩
   ·exact h0
   ·rw[List.concat_eq_append] at h ⊢
    refine h1 p x (ih p ?_)
    rw[List.length_append,List.length_singleton] at h;omega
 exact key _ l rfl
theorem iN {c:Circ}{l:List Flt}{k:Flt}:k∈ksF c l ↔ ∃ f∈l,dP c f=k:=by
 refine mJ (P:=fun l=>k∈ksF c l ↔ ∃ f∈l,dP c f=k) ?_ ?_ l
 ·unfold ksF;simp
 ·intro p x ih
  rw[iq]
  unfold lB
  split
  ·rename_i h
   rw[ih]
   constructor
   ·rintro⟨f,m,e⟩
    exact⟨f,List.mem_append_left _ m,e⟩
   ·rintro⟨f,m,e⟩
    rcases bb.1 m with m|rfl
    ·exact⟨f,m,e⟩
    ·rw[e] at h;exact ih.1 h
  ·rw[bb,ih]
   constructor
   ·rintro (⟨f,m,e⟩|rfl)
    ·exact⟨f,List.mem_append_left _ m,e⟩
    ·exact⟨x,bb.2 (.inr rfl),rfl⟩
   ·rintro⟨f,m,e⟩
    rcases bb.1 m with m|rfl
    ·exact .inl ⟨f,m,e⟩
    ·exact .inr e.symm
theorem tX (c:Circ) (l:List Flt):(ksF c l).Nodup:=by
 refine mJ (P:=fun l=>(ksF c l).Nodup) List.nodup_nil ?_ l
 intro p x ih
 rw[iq]
 unfold lB
 split
 ·exact ih
 ·rename_i h
  refine List.nodup_append.2 ⟨ih,by simp,?_⟩
  intro a ha b hb
  rw[List.mem_singleton] at hb
  rintro rfl
  subst hb
  exact h ha
theorem uK (c:Circ) (l:List Flt):(ksF c l).length<=l.length:=by
 refine mJ (P:=fun l=>(ksF c l).length<=l.length) (Nat.le_refl _) ?_ l
 intro p x ih
 rw[iq,List.length_append,List.length_singleton]
 unfold lB
 split
 ·omega
 ·rw[List.length_append,List.length_singleton];omega
def dL (c:Circ) (l:List Flt) (f:Flt):Nat:=(ksF c l).idxOf (dP c f)
def osN (c:Circ) (l:List Flt):List Nat:=l.map (dL c l)
def lk (c:Circ) (l:List Flt) (k:Flt):List Nat:=(List.range l.length).filter fun m=>decide ((l[m]?).map (dP c)=some k)
def RN (c:Circ) (l:List Flt):List (List Nat):=(ksF c l).map (lk c l)
theorem vy (c:Circ) (l:List Flt):(RN c l).length=(ksF c l).length:=List.length_map ..
theorem mH (c:Circ) (p:List Flt) (x k:Flt):lk c (p++[x]) k=lk c p k++if dP c x=k then [p.length] else []:=by
 unfold lk
 rw[List.length_append,List.length_singleton,List.range_succ,List.filter_append]
 congr 1
 ·refine List.filter_congr fun m hm=>?_
  rw[List.getElem?_append_left (List.mem_range.1 hm)]
 ·have e:(p++[x])[p.length]?=some x:=by simp
  by_cases h:dP c x=k
  ·rw[if_pos h];simp[h]
  ·rw[if_neg h];simp[h]
theorem zV {c:Circ}{p:List Flt}{k:Flt} (h:k ∉ ksF c p):lk c p k=[]:=by
 unfold lk
 rw[List.filter_eq_nil_iff]
 intro m _ q
 rw[decide_eq_true_eq] at q
 obtain⟨f,hf,e⟩:=Option.map_eq_some_iff.1 q
 exact h (iN.2 ⟨f,List.mem_of_getElem? hf,e⟩)
theorem sI {c:Circ}{l:List Flt}{k:Flt}{m:Nat}:m∈lk c l k ↔ ∃ f,l[m]?=some f/\dP c f=k:=by
 unfold lk
 rw[List.mem_filter,List.mem_range,decide_eq_true_eq,Option.map_eq_some_iff]
 constructor
 ·rintro⟨_,f,h⟩;exact⟨f,h⟩
 ·rintro⟨f,h⟩;exact⟨aj h.1,f,h⟩
theorem Cf (c:Circ) (l:List Flt) (k:Flt):(lk c l k).length<=l.length:=by
 unfold lk
 exact Nat.le_trans (List.length_filter_le _ _) (by rw[List.length_range];exact Nat.le_refl _)
theorem mP {l:List Flt}{k:Flt} (h:k∈l):l[l.idxOf k]?=some k:=by
 rw[List.getElem?_eq_getElem (List.idxOf_lt_length_iff.2 h),List.getElem_idxOf]
theorem BT {l:List Flt} (nd:l.Nodup) {j:Nat}{k:Flt} (h:l[j]?=some k):l.idxOf k=j:=by
 obtain⟨h1,rfl⟩:=List.getElem?_eq_some_iff.1 h
 have h3:=List.idxOf_lt_length_iff.2 (List.getElem_mem h1)
 have h4:l[l.idxOf l[j]]=l[j]:=List.getElem_idxOf h3
 rcases Nat.lt_trichotomy (l.idxOf l[j]) j with q|q|q
 ·exact absurd h4 (List.pairwise_iff_getElem.1 nd _ _ h3 h1 q)
 ·exact q
 ·exact absurd h4.symm (List.pairwise_iff_getElem.1 nd _ _ h1 h3 q)
def ixO (ks:List Flt) (k:Flt):Option Nat:=if k∈ks then some (ks.idxOf k) else none
theorem zw {ks:List Flt}{k:Flt} (h:k ∉ ks):ixO (ks++[k]) k=some ks.length:=by
 unfold ixO
 rw[if_pos (bb.2 (.inr rfl)),List.idxOf_append,if_neg h]
 simp
theorem rh {ks:List Flt}{k k':Flt} (h:k'≠k):ixO (ks++[k]) k'=ixO ks k':=by
 unfold ixO
 by_cases m:k'∈ks
 ·rw[if_pos (bb.2 (.inl m)),if_pos m,List.idxOf_append,if_pos m]
 ·rw[if_neg (fun q=>(bb.1 q).elim m h),if_neg m]
theorem oI {ks:List Flt}{k:Flt} (h:k∈ks):ixO ks k=some (ks.idxOf k):=if_pos h
theorem xG {ks:List Flt}{k:Flt} (h:k ∉ ks):ixO ks k=none:=if_neg h
theorem kx {c:Circ}{p:List Flt}{x f:Flt} (hf:f∈p++[x]):dL c (p++[x]) f=if dP c f∈ksF c p then (ksF c p).idxOf (dP c f) else (ksF c p).length:=by
 unfold dL
 rw[iq]
 unfold lB
 by_cases h:dP c f∈ksF c p
 ·rw[if_pos h]
  split
  ·rfl
  ·rw[List.idxOf_append,if_pos h]
 ·rw[if_neg h]
  have e:dP c f=dP c x:=by
   rcases bb.1 hf with m|rfl
   ·exact absurd (iN.2 ⟨f,m,rfl⟩) h
   ·rfl
  rw[e] at h ⊢
  rw[if_neg h,List.idxOf_append,if_neg h]
  simp
theorem Bt (c:Circ) (p:List Flt) (x:Flt):osN c (p++[x])=osN c p++[dL c (p++[x]) x]:=by
 unfold osN
 rw[List.map_append]
 congr 1
 refine List.map_congr_left fun f hf=>?_
 rw[kx (List.mem_append_left _ hf),if_pos (iN.2 ⟨f,hf,rfl⟩)]
 rfl
theorem Ex {c:Circ}{p:List Flt}{x:Flt} (h:dP c x∈ksF c p):RN c (p++[x])=(RN c p).set ((ksF c p).idxOf (dP c x)) (lk c p (dP c x)++[p.length]):=by
 unfold RN
 rw[iq]
 unfold lB
 rw[if_pos h]
 apply List.ext_getElem?
 intro j
 rw[List.getElem?_map,List.getElem?_set,List.length_map]
 by_cases e:(ksF c p).idxOf (dP c x)=j
 ·subst e
  rw[if_pos rfl,if_pos (List.idxOf_lt_length_iff.2 h),mP h]
  simp only[Option.map_some]
  rw[mH,if_pos rfl]
 ·rw[if_neg e,List.getElem?_map]
  cases hj:(ksF c p)[j]? with
  |none=>rfl
  |some k =>
   simp only[Option.map_some]
   rw[mH,if_neg,List.append_nil]
   rintro rfl
   exact e (BT (tX c p) hj)
theorem Ei {c:Circ}{p:List Flt}{x:Flt} (h:dP c x ∉ ksF c p):RN c (p++[x])=RN c p++[[p.length]]:=by
 unfold RN
 rw[iq]
 unfold lB
 rw[if_neg h,List.map_append]
 congr 1
 ·refine List.map_congr_left fun k hk=>?_
  rw[mH,if_neg,List.append_nil]
  rintro rfl
  exact h hk
 ·rw[List.map_cons,List.map_nil,mH,if_pos rfl,zV h];rfl
def CsOk (c:Circ) (ks:List Flt) (ps:List Nat) (cs:List (Nat×Nat)):Prop:=∀ s,VS c s->∀ r,Rt ps (iL c s) r->cq cs r=ixO ks (fltS (clsN c s))
def EX (ks:List Flt) (ot:List (Flt×Nat)):Prop:=∀ f:Flt,f.model≠0->cq ot f=ixO ks f
theorem CsOk.same {c:Circ}{ks:List Flt}{ps qs:List Nat}{cs:List (Nat×Nat)} (F:Fo ps) (h:CsOk c ks ps cs) (g:SameR ps qs):CsOk c ks qs cs:=fun s hs r hr=>h s hs r (g.back F hr)
theorem xy {c:Circ} (C:Cir c) {ps:List Nat} (U:EdgeI c (edgesN c) ps) {a b:Si} (ha:VS c a) (hb:VS c b) {r s:Nat} (h1:Rt ps (iL c a) r) (h2:Rt ps (iL c b) s):r=s↔clsN c a=clsN c b :=
 (U.cn a b r s ha hb h1 h2).trans (Ew C)
theorem CsOk.new {c:Circ} (C:Cir c) {ks:List Flt}{ps:List Nat}{cs:List (Nat×Nat)} (U:EdgeI c (edgesN c) ps) (h:CsOk c ks ps cs) {a:Si} (ha:VS c a) {r:Nat} (hr:Rt ps (iL c a) r) (hn:fltS (clsN c a) ∉ ks) :
  CsOk c (ks++[fltS (clsN c a)]) ps (jt cs r ks.length):=by
 intro s hs r' hr'
 rw[xg]
 by_cases e:r'=r
 ·rw[if_pos e,(xy C U hs ha hr' hr).1 e,zw hn]
 ·rw[if_neg e,rh,h s hs r' hr']
  intro q
  exact e ((xy C U hs ha hr' hr).2 (vg q))
structure PartO (c:Circ) (l:List Flt) (ps:List Nat) (cs:List (Nat×Nat)):Prop where
 edge:EdgeI c (edgesN c) ps
 cs:CsOk c (ksF c l) ps cs
theorem iM {c:Circ} (C:Cir c) {l:List Flt} (hl:l.length<=65536) (hs:∀ f∈l,f.model=0->StuckOk c f) {K:List Nat×List Nat×Nat×List (List Nat)×List Nat×List (Nat×Nat)->Prop}
  (h:∀ ps cs,PartO c l ps cs->K (fsN c,ps,npN c,RN c l,osN c l,cs)):aY c l K:=by
 unfold aY
 refine AQ C fun ps0 U0=>?_
 refine aD (fun (s:EZ)=>s.2.2.2.2.2<=l.length/\EdgeI c (edgesN c) s.1/\s.2.1=RN c (l.take s.2.2.2.2.2)/\s.2.2.1=osN c (l.take s.2.2.2.2.2)/\CsOk c (ksF c (l.take s.2.2.2.2.2)) s.1 s.2.2.2.1/\EX (ksF c (l.take s.2.2.2.2.2)) s.2.2.2.2.1)
  (fun s=>l.length-s.2.2.2.2.2) (fun s=>∃ ps cs,PartO c l ps cs/\s=(ps,RN c l,osN c l,cs)) ?_ ⟨Nat.zero_le _,U0,rfl,rfl,(fun s _ r _=>rfl),fun f _=>rfl⟩ ?_
 ·rintro k ⟨ps,R,os,cs,ot,i⟩ nx ⟨hi,U,hR,hos,hcs,hot⟩ hnx hk
  dsimp only at hi U hR hos hcs hot
  refine⟨fun q=>?_,fun q=>hk _ ?_⟩
  ·have q:i<l.length:=aV.1 q
   obtain⟨f,hf⟩:=aA q
   have hp1:(l.take i).length=i:=by rw[List.length_take];omega
   have htk:l.take (i+1)=l.take i++[f]:=nm hf
   have hks:(ksF c (l.take i)).length=R.length:=by rw[hR,vy]
   have hRl:R.length<=i:=by rw[<- hks];exact Nat.le_trans (uK _ _) (Nat.le_of_eq hp1)
   refine⟨f,hf,?_⟩
   refine fb (fun s=>EdgeI c (edgesN c) s.1/\CsOk c (ksF c (l.take (i+1))) s.1 s.2.1/\EX (ksF c (l.take (i+1))) s.2.2.1/\s.2.2.2.2=decide (dP c f∈ksF c (l.take i))/\(dP c f∈ksF c (l.take i)->s.2.2.2.1=(ksF c (l.take i)).idxOf (dP c f))) ?_ ?_
   ·intro k2 hk2
    have old:dP c f∈ksF c (l.take i)->ksF c (l.take (i+1))=ksF c (l.take i):=fun m=>by
     rw[htk,iq];exact if_pos m
    have new:dP c f ∉ ksF c (l.take i)->ksF c (l.take (i+1))=ksF c (l.take i)++[dP c f]:=fun m=>by
     rw[htk,iq];exact if_neg m
    refine⟨fun qm=>?_,fun qm=>?_⟩
    ·have qm:f.model=0:=bO.1 qm
     obtain⟨s,hv,rfl⟩:=D1 (hs f (List.mem_of_getElem? hf) qm)
     obtain⟨r,hr⟩:=U.fo (iL c s) (U.len ▸ kQ hv)
     rw[ow] at old new hk2
     refine rQ C hv (s:=s) (by unfold fltS;simp only[Int.ofNat_eq_natCast];omega) (pb U.len hr fun qs hq=>?_)
     dsimp only
     have Uq:=U.same hq
     have hcq:=hcs.same U.fo hq
     have hget:=hcs s hv r hr
     have hrq:=hq.rt _ _ hr
     by_cases m:fltS (clsN c s)∈ksF c (l.take i)
     ·rw[hget,oI m]
      refine⟨(fun e=>by cases e),fun _=>hk2 _ ⟨Uq,by rw[old m];exact hcq,by rw[old m];exact hot,(decide_eq_true m).symm,fun _=>rfl⟩⟩
     ·rw[hget,xG m]
      refine⟨fun _=>hk2 _ ⟨Uq,?_,?_,(decide_eq_false m).symm,fun q=>absurd q m⟩,(fun e=>by cases e)⟩
      ·rw[new m,<- hks]
       exact hcq.new C Uq hv hrq m
      ·rw[new m]
       intro f' hf'
       rw[rh]
       ·exact hot f' hf'
       ·rintro rfl
        exact hf' rfl
    ·have qm:f.model≠0:=cx.1 qm
     rw[xO qm] at old new hk2
     have hget:=hot f qm
     by_cases m:f∈ksF c (l.take i)
     ·rw[hget,oI m]
      refine⟨(fun e=>by cases e),fun _=>hk2 _ ⟨U,by rw[old m];exact hcs,by rw[old m];exact hot,(decide_eq_true m).symm,fun _=>rfl⟩⟩
     ·rw[hget,xG m]
      refine⟨fun _=>hk2 _ ⟨U,?_,?_,(decide_eq_false m).symm,fun q=>absurd q m⟩,(fun e=>by cases e)⟩
      ·rw[new m]
       intro s hs r hr
       rw[rh]
       ·exact hcs s hs r hr
       ·intro e
        exact qm (by rw[<- e];rfl)
      ·rw[new m,<- hks]
       intro f' hf'
       rw[xg]
       by_cases e:f'=f
       ·rw[if_pos e,e,zw m]
       ·rw[if_neg e,rh e]
        exact hot f' hf'
   ·rintro⟨ps2,cs2,ot2,at2,is2⟩ ⟨U2,hcs2,hot2,his,hat⟩
    dsimp only at U2 hcs2 hot2 his hat
    subst his
    refine fb (fun s=>s.2=dL c (l.take (i+1)) f/\s.1=if dP c f∈ksF c (l.take i) then R else R++[[]]) ?_ ?_
    ·intro k3 hk3
     by_cases m:dP c f∈ksF c (l.take i)
     ·rw[decide_eq_true m]
      refine⟨(fun e=>by cases e),fun _=>hk3 _ ⟨?_,(if_pos m).symm⟩⟩
      rw[htk,kx (bb.2 (.inr rfl)),if_pos m]
      exact hat m
     ·rw[decide_eq_false m]
      refine⟨fun _=>⟨by omega,hk3 _ ⟨?_,(if_neg m).symm⟩⟩,(fun e=>by cases e)⟩
      rw[htk,kx (bb.2 (.inr rfl)),if_neg m]
      exact hks.symm
    ·rintro⟨R3,at3⟩ ⟨rfl,hR3⟩
     dsimp only at hR3
     have hosl:os.length=i:=by rw[hos];unfold osN;rw[List.length_map,hp1]
     have key:∃ r,R3[dL c (l.take (i+1)) f]?=some r/\r.length<=i/\R3.set (dL c (l.take (i+1)) f) (r++[i])=RN c (l.take (i+1)):=by
      rw[htk,kx (bb.2 (.inr rfl))]
      by_cases m:dP c f∈ksF c (l.take i)
      ·rw[if_pos m] at hR3 ⊢
       subst hR3
       refine⟨lk c (l.take i) (dP c f),?_,Nat.le_trans (Cf _ _ _) (Nat.le_of_eq hp1),?_⟩
       ·rw[hR];unfold RN
        rw[List.getElem?_map,mP m];rfl
       ·rw[Ex m,hp1,hR]
      ·rw[if_neg m] at hR3 ⊢
       rw[hks]
       subst hR3
       refine⟨[],by simp,Nat.zero_le _,?_⟩
       rw[Ei m,hp1,<- hR]
       simp
     obtain⟨r,hr1,hr2,hr3⟩:=key
     refine⟨r,hr1,by omega,by omega,by omega,hnx _ ⟨q,U2,hr3,?_,hcs2,hot2⟩ (by dsimp only;omega)⟩
     dsimp only
     rw[htk,Bt,<- hos]
  ·have q:l.length<=i:=bg.1 q
   obtain rfl:i=l.length:=by omega
   rw[List.take_length] at hR hos hcs
   exact⟨ps,cs,⟨U,hcs⟩,by rw[hR,hos]⟩
 ·rintro _ ⟨ps,cs,hP,rfl⟩
  refine⟨fun r hr=>?_,?_,h ps cs hP⟩
  ·obtain⟨k,hk,rfl⟩:=List.mem_map.1 hr
   obtain⟨f,hf,e⟩:=iN.1 hk
   obtain⟨j,hj⟩:=List.mem_iff_getElem?.1 hf
   intro q
   have:j∈lk c l k:=sI.2 ⟨f,hj,e⟩
   rw[q] at this
   cases this
  ·rw[vy]
   have:=uK c l
   omega
theorem mF {c:Circ} (C:Cir c) {l:List Flt} (hl:l.length<=65536) (hs:∀ f∈l,∀ K:Nat->Prop,K 0->faults_Check_wp c f K) {K:Nat->Prop} (h:K 0):bz c l K:=by
 unfold bz
 refine⟨fun q=>?_,fun _=>wU C ⟨(fun q=>absurd rfl (dR.1 q)),fun _=>?_⟩⟩
 ·have:=aV.1 q;omega
 ·refine ec (l:=l) ?_ ?_ h
  ·intro k i nx x hx hi hn
   refine⟨fun _=>⟨x,hx,hs x (List.mem_of_getElem? hx) _ ⟨(fun q=>absurd rfl (dR.1 q)),fun _=>⟨by omega,hn⟩⟩⟩,fun q=>?_⟩
   have:=bg.1 q;omega
  ·intro k i nx hi hk
   refine⟨fun q=>?_,fun _=>hk⟩
   have:=aV.1 q;omega
def n2Lt (x y:N2):Prop:=x.a<y.a\/x.a=y.a/\x.b<y.b
theorem Fe {x y:N2} (h:x≠y):x.a≠y.a\/x.b≠y.b:=by
 by_cases h1:x.a=y.a
 ·right
  intro h2
  obtain⟨a,b⟩:=x
  obtain⟨a',b'⟩:=y
  dsimp only at h1 h2
  exact h (by rw[h1,h2])
 ·exact .inl h1
theorem wv {l:List N2} (h:l.Pairwise yR):(eV l).Pairwise n2Lt/\∀ x,x∈eV l↔x∈l:=by
 revert h
 refine mJ (P:=fun l=>l.Pairwise yR->(eV l).Pairwise n2Lt/\∀ x,x∈eV l↔x∈l) ?_ ?_ l
 ·intro _
  exact⟨List.Pairwise.nil,fun x=>Iff.rfl⟩
 ·intro p x ih h
  obtain⟨h1,_,h3⟩:=List.pairwise_append.1 h
  obtain⟨i1,i2⟩:=ih h1
  have hle:∀ y∈eV p,yR y x:=fun y m=>h3 y ((i2 y).1 m) x (List.mem_singleton.2 rfl)
  rw[py]
  unfold iE
  split
  ·rename_i e
   refine⟨i1,fun y=>?_⟩
   rw[i2,bb]
   constructor
   ·exact .inl
   ·rintro (m|rfl)
    ·exact m
    ·exact (i2 y).1 (List.mem_of_getLast? e)
  ·rename_i e
   refine⟨List.pairwise_append.2 ⟨i1,List.pairwise_singleton _ _,fun y hy z hz=>?_⟩,fun y=>by rw[bb,bb,i2]⟩
   rw[List.mem_singleton] at hz
   subst hz
   rcases List.eq_nil_or_concat (eV p) with q|⟨q,w,hq⟩
   ·rw[q] at hy;cases hy
   ·rw[List.concat_eq_append] at hq
    have hw:w≠z:=by
     rintro rfl
     rw[hq,List.getLast?_concat] at e
     exact e rfl
    have hwz:=Ch.1 (hle w (by rw[hq];exact bb.2 (.inr rfl)))
    have hne:=Fe hw
    rw[hq] at hy i1
    rcases bb.1 hy with m|rfl
    ·have:n2Lt y w:=(List.pairwise_append.1 i1).2.2 y m w (List.mem_singleton.2 rfl)
     unfold n2Lt at this ⊢
     omega
    ·unfold n2Lt
     omega
def steerR (k:Nat):Option Rul:=if k=5 then some ⟨0,0⟩ else if k=6 then some ⟨0,1⟩ else if k=7 then some ⟨1,1⟩ else if k=8 then some ⟨1,0⟩ else none
theorem wW {k:Nat}{r:Rul} (h:steerR k=some r):r.pin<=1/\r.out<=1:=by
 unfold steerR at h
 split at h
 ·cases h;decide
 split at h
 ·cases h;decide
 split at h
 ·cases h;decide
 split at h
 ·cases h;decide
 ·cases h
theorem vq {k:Nat}{K:Rul×Bool->Prop} (h1:∀ r,steerR k=some r->K (r,true)) (h2:steerR k=none->K (⟨0,0⟩,false)):bm k K:=by
 refine qP (fun q=>h1 _ ?_) (fun q=>h1 _ ?_) (fun q=>h1 _ ?_) (fun q=>h1 _ ?_) fun q5 q6 q7 q8=>h2 ?_
 ·subst q;rfl
 ·subst q;rfl
 ·subst q;rfl
 ·subst q;rfl
 ·unfold steerR
  rw[if_neg q5,if_neg q6,if_neg q7,if_neg q8]
def domPin (n j:Nat) (r:Rul):Si:=⟨n,j+1,1-r.pin⟩
def domOut (n:Nat) (r:Rul):Si:=⟨n,0,1-r.out⟩
def lx (c:Circ) (ks:List Flt) (n b:Nat) (r:Rul) (j:Nat):List N2:=match ixO ks (fltS (clsN c (domPin n j r))) with
 |some a=>[⟨a,b⟩]
 |none=>[]
def kB (c:Circ) (ks:List Flt) (n b:Nat) (r:Rul) (t:Nat):List N2:=(List.range t).flatMap (lx c ks n b r)
def iH (c:Circ) (ks:List Flt) (n:Nat):List N2:=match steerR (kd c n) with
 |none=>[]
 |some r=>match ixO ks (fltS (clsN c (domOut n r))) with
  |none=>[]
  |some b=>kB c ks n b r (insOf c n).length
def domRaw (c:Circ) (ks:List Flt) (i:Nat):List N2:=(List.range i).flatMap (iH c ks)
theorem ju (c:Circ) (ks:List Flt) (i:Nat):domRaw c ks (i+1)=domRaw c ks i++iH c ks i:=by
 unfold domRaw
 rw[List.range_succ,List.flatMap_append]
 simp
theorem mv (c:Circ) (ks:List Flt) (n b:Nat) (r:Rul) (t:Nat):kB c ks n b r (t+1)=kB c ks n b r t++lx c ks n b r t:=by
 unfold kB
 rw[List.range_succ,List.flatMap_append]
 simp
theorem yp (c:Circ) (ks:List Flt) (n b:Nat) (r:Rul) (j:Nat):(lx c ks n b r j).length<=1:=by
 unfold lx
 split <;> simp
theorem nM (c:Circ) (ks:List Flt) (n b:Nat) (r:Rul):∀ t,(kB c ks n b r t).length<=t
 |0=>Nat.le_refl _
 |t+1=>by
  rw[mv,List.length_append]
  have:=nM c ks n b r t
  have:=yp c ks n b r t
  omega
theorem kM {c:Circ} (C:Cir c) (ks:List Flt):∀ i,i<=c.nodes.length->(domRaw c ks i).length<=i*16
 |0,_=>Nat.le_refl _
 |i+1,h=>by
  have:=kM C ks i (by omega)
  rw[ju,List.length_append]
  obtain⟨x,hx⟩:=aA (show i<c.nodes.length from h)
  have hf:=(C.good.node i x hx).few
  have:(iH c ks i).length<=16:=by
   unfold iH
   split
   ·exact Nat.zero_le _
   ·split
    ·exact Nat.zero_le _
    ·rename_i r _ _ b _
     have:=nM c ks i b r (insOf c i).length
     rw[bK hx] at this ⊢
     omega
  omega
theorem zn {ks:List Flt}{k:Flt}{a:Nat}:ixO ks k=some a↔k∈ks/\ks.idxOf k=a:=by
 unfold ixO
 by_cases m:k∈ks
 ·rw[if_pos m]
  simp[m]
 ·rw[if_neg m]
  simp[m]
theorem vA {c:Circ}{ks:List Flt}{i:Nat}{x:N2}:x∈domRaw c ks i ↔ ∃ n r j,n<i/\steerR (kd c n)=some r/\j<(insOf c n).length/\fltS (clsN c (domPin n j r))∈ks/\fltS (clsN c (domOut n r))∈ks/\x=⟨ks.idxOf (fltS (clsN c (domPin n j r))),ks.idxOf (fltS (clsN c (domOut n r)))⟩:=by
 unfold domRaw
 rw[List.mem_flatMap]
 constructor
 ·rintro⟨n,hn,m⟩
  unfold iH at m
  split at m
  ·cases m
  ·rename_i r hr
   split at m
   ·cases m
   ·rename_i b hb
    obtain⟨j,hj,m⟩:=List.mem_flatMap.1 m
    unfold lx at m
    split at m
    ·rename_i a ha
     obtain⟨a1,a2⟩:=zn.1 ha
     obtain⟨b1,b2⟩:=zn.1 hb
     rw[List.mem_singleton] at m
     exact⟨n,r,j,List.mem_range.1 hn,hr,List.mem_range.1 hj,a1,b1,by rw[m,a2,b2]⟩
    ·cases m
 ·rintro⟨n,r,j,hn,hr,hj,h1,h2,rfl⟩
  refine⟨n,List.mem_range.2 hn,?_⟩
  unfold iH
  rw[hr]
  dsimp only
  rw[oI h2]
  refine List.mem_flatMap.2 ⟨j,List.mem_range.2 hj,?_⟩
  unfold lx
  rw[oI h1]
  exact List.mem_singleton.2 rfl
structure DomOk (c:Circ) (ks:List Flt) (r:List N2):Prop where
 sorted:r.Pairwise n2Lt
 mem:∀ x,x∈r↔x∈domRaw c ks c.nodes.length
 len:r.length<=256
theorem DomOk.lt {c:Circ}{ks:List Flt}{r:List N2} (D:DomOk c ks r) {x:N2} (h:x∈r):x.a<ks.length/\x.b<ks.length:=by
 obtain⟨n,r,j,_,_,_,h1,h2,rfl⟩:=vA.1 ((D.mem x).1 h)
 exact⟨List.idxOf_lt_length_iff.2 h1,List.idxOf_lt_length_iff.2 h2⟩
theorem xu {c:Circ}{n j:Nat}{r:Rul} (hn:n<c.nodes.length) (hj:j<(insOf c n).length):VS c (domPin n j r):=⟨hn,hj,by unfold domPin;dsimp only;omega⟩
theorem xM {c:Circ}{n:Nat}{r:Rul} (hn:n<c.nodes.length):VS c (domOut n r):=⟨hn,Nat.zero_le _,by unfold domOut;dsimp only;omega⟩
theorem jO {c:Circ} (C:Cir c) {ks:List Flt} (hk:ks.length<=65536) {ps:List Nat} (U:EdgeI c (edgesN c) ps) {cs:List (Nat×Nat)} (hcs:CsOk c ks ps cs) {R:List (List Nat)}{os:List Nat}{K:List Nat×List N2->Prop}
  (h:∀ qs r,DomOk c ks r->K (qs,r)):bE (npN c) (fsN c) ps R os cs c K:=by
 have hlen:=C.len
 unfold bE
 refine aD (fun s=>s.2.2<=c.nodes.length/\SameR ps s.1/\s.2.1=domRaw c ks s.2.2) (fun s=>c.nodes.length-s.2.2) (fun s=>s.1=domRaw c ks c.nodes.length) ?_ ⟨Nat.zero_le _,SameR.refl ps,rfl⟩ ?_
 ·rintro k ⟨qs,out,i⟩ nx ⟨hi,hS,ho⟩ hnx hk2
  dsimp only at hi hS ho
  refine⟨fun q=>?_,fun q=>hk2 _ ?_⟩
  ·have q:i<c.nodes.length:=aV.1 q
   obtain⟨x,hx⟩:=aA q
   have hfew:=(C.good.node i x hx).few
   have hol:out.length<=i*16:=by rw[ho];exact kM C ks i hi
   refine fb (fun s=>SameR ps s.1/\s.2=domRaw c ks (i+1)) (fun k3 hk3=>⟨x,hx,?_⟩) fun s hs=>⟨by omega,hnx _ ⟨q,hs.1,hs.2⟩ (by dsimp only;omega)⟩
   have U1:=U.same hS
   refine vq (fun r hr=>⟨fun e=>(by cases e),fun _=>?_⟩) fun hr=>⟨fun _=>hk3 _ ⟨hS,?_⟩,fun e=>(by cases e)⟩
   ·have hrle:=wW hr
    have hr':steerR (kd c i)=some r:=by rw[fE hx];exact hr
    have v1:=xM (c:=c) (r:=r) q
    obtain⟨rt,hrt⟩:=U1.fo (iL c (domOut i r)) (U1.len ▸ kQ v1)
    refine⟨hrle.2,by decide,rQ C v1 (s:=domOut i r) (by rfl) (pb U1.len hrt fun ws hw=>?_)⟩
    dsimp only
    have hS2:=hS.trans hw
    have hget:=hcs.same U.fo hS (domOut i r) v1 rt hrt
    have hnode:iH c ks i=match ixO ks (fltS (clsN c (domOut i r))) with|none=>[] | some b=>kB c ks i b r (insOf c i).length:=by
     unfold iH
     rw[hr']
    rw[hget]
    cases hb:ixO ks (fltS (clsN c (domOut i r))) with
    |none =>
     rw[hb] at hnode
     refine⟨fun _=>hk3 _ ⟨hS2,?_⟩,fun e=>(by cases e)⟩
     dsimp only
     rw[ju,hnode,List.append_nil,ho]
    |some b =>
     rw[hb] at hnode
     dsimp only at hnode
     refine⟨fun e=>(by cases e),fun _=>?_⟩
     refine aW (fun s=>s.2.2<=x.ins.length/\SameR ps s.1/\s.2.1=domRaw c ks i++kB c ks i b r s.2.2) (fun s=>x.ins.length-s.2.2) ?_ ⟨Nat.zero_le _,hS2,by rw[ho];simp[kB]⟩
     rintro⟨ws,out,j⟩ nx4 ⟨hj,hS4,ho4⟩ hnx4
     dsimp only at hj hS4 ho4
     refine⟨fun q4=>?_,fun q4=>hk3 _ ⟨hS4,?_⟩⟩
     ·have q4:j<x.ins.length:=aV.1 q4
      have hol4:out.length<=512:=by
       rw[ho4,List.length_append]
       have:=kM C ks i hi
       have:=nM c ks i b r j
       omega
      have v2:VS c (domPin i j r):=xu q (by rw[bK hx];exact q4)
      have U4:=U.same hS4
      obtain⟨rt4,hrt4⟩:=U4.fo (iL c (domPin i j r)) (U4.len ▸ kQ v2)
      refine fb (fun s=>SameR ps s.1/\s.2=domRaw c ks i++kB c ks i b r (j+1)) (fun k5 hk5=>⟨hrle.1,by decide,rQ C v2 (s:=domPin i j r) (by unfold domPin;simp only[Int.ofNat_eq_natCast];omega) (pb U4.len hrt4 fun ys hy=>?_)⟩) fun s hs=>⟨by dsimp only;omega,hnx4 _ ⟨q4,hs.1,hs.2⟩ (by dsimp only;omega)⟩
      dsimp only
      have hget4:=hcs.same U.fo hS4 (domPin i j r) v2 rt4 hrt4
      rw[hget4]
      cases ha:ixO ks (fltS (clsN c (domPin i j r))) with
      |none =>
       refine⟨fun e=>(by cases e),fun _=>hk5 _ ⟨hS4.trans hy,?_⟩⟩
       dsimp only
       rw[mv,ho4]
       unfold lx
       rw[ha,List.append_nil]
      |some a =>
       refine⟨fun _=>⟨by rw[List.length_singleton];omega,hk5 _ ⟨hS4.trans hy,?_⟩⟩,fun e=>(by cases e)⟩
       dsimp only[Option.getD]
       rw[mv,ho4]
       unfold lx
       rw[ha,List.append_assoc]
     ·have q4:x.ins.length<=j:=bg.1 q4
      obtain rfl:j=x.ins.length:=by omega
      dsimp only
      rw[ju,hnode,bK hx]
      exact ho4
   ·have hr':steerR (kd c i)=none:=by rw[fE hx];exact hr
    dsimp only
    rw[ju,ho]
    unfold iH
    rw[hr',List.append_nil]
  ·have q:c.nodes.length<=i:=bg.1 q
   obtain rfl:i=c.nodes.length:=by omega
   exact ho
 ·rintro⟨out,qs⟩ ho
  dsimp only at ho ⊢
  subst ho
  have hl:=kM C ks _ (Nat.le_refl _)
  refine⟨by omega,fun x m=>?_,fun l hp hs=>⟨by rw[hp.length_eq];omega,h _ _ ?_⟩⟩
  ·obtain⟨n,r,j,_,_,_,h1,h2,rfl⟩:=vA.1 m
   have:=List.idxOf_lt_length_iff.2 h1
   have:=List.idxOf_lt_length_iff.2 h2
   exact⟨by dsimp only;omega,by dsimp only;omega⟩
  ·obtain⟨s1,s2⟩:=wv hs
   refine⟨s1,fun x=>(s2 x).trans hp.mem_iff,?_⟩
   have:=wT l
   have:=hp.length_eq
   omega
structure ListOk (c:Circ) (l:List Flt):Prop where
 len:l.length<=65536
 stuck:∀ f∈l,f.model=0->StuckOk c f
 check:∀ f∈l,∀ K:Nat->Prop,K 0->faults_Check_wp c f K
theorem yB {c:Circ} (C:Cir c) {l:List Flt} (hl:ListOk c l) {K:List (List Nat)×Nat->Prop} (h:K (RN c l,0)):cp c l K:=by
 unfold cp
 exact mF C hl.len hl.check ⟨(fun q=>absurd rfl (dR.1 q)),fun _=>iM C hl.len hl.stuck fun _ _ _=>h⟩
theorem yu {c:Circ}{l:List Flt} (hl:ListOk c l):(ksF c l).length<=65536:=Nat.le_trans (uK _ _) hl.len
theorem tz {c:Circ} (C:Cir c) {l:List Flt} (hl:ListOk c l) {K:List N2×Nat->Prop} (h:∀ r,DomOk c (ksF c l) r->K (r,0)):bJ c l K:=by
 unfold bJ
 exact mF C hl.len hl.check ⟨(fun q=>absurd rfl (dR.1 q)),fun _=>iM C hl.len hl.stuck fun ps cs P=>jO C (yu hl) P.edge P.cs fun _ r hr=>h r hr⟩
theorem pO:∀ {r s:List N2},r.Pairwise n2Lt->s.Pairwise n2Lt->(∀ x,x∈r↔x∈s)->r=s
 |[],[],_,_,_=>rfl
 |[],b::s,_,_,h=>by have:=(h b).2 (List.mem_cons_self ..);cases this
 |a::r,[],_,_,h=>by have:=(h a).1 (List.mem_cons_self ..);cases this
 |a::r,b::s,h1,h2,h=>by
  obtain⟨a1,a2⟩:=List.pairwise_cons.1 h1
  obtain⟨b1,b2⟩:=List.pairwise_cons.1 h2
  have e:a=b:=by
   rcases List.mem_cons.1 ((h a).1 (List.mem_cons_self ..)) with q|q
   ·exact q
   ·rcases List.mem_cons.1 ((h b).2 (List.mem_cons_self ..)) with q2|q2
    ·exact q2.symm
    ·have:=b1 a q
     have:=a1 b q2
     unfold n2Lt at *
     omega
  subst e
  refine congrArg (a :: ·) (pO a2 b2 fun x=>?_)
  have:=h x
  rw[List.mem_cons,List.mem_cons] at this
  constructor
  ·intro m
   rcases this.1 (.inr m) with q|q
   ·subst q
    have:=a1 x m
    unfold n2Lt at this;omega
   ·exact q
  ·intro m
   rcases this.2 (.inr m) with q|q
   ·subst q
    have:=b1 x m
    unfold n2Lt at this;omega
   ·exact q
theorem DomOk.eq {c:Circ}{ks:List Flt}{r s:List N2} (h:DomOk c ks r) (g:DomOk c ks s):r=s:=pO h.sorted g.sorted fun x=>(h.mem x).trans (g.mem x).symm
def mn (r:List N2) (i:Nat):Bool:=r.any fun x=>x.b==i
def kz (c:Circ) (l:List Flt) (r:List N2) (i:Nat):List Nat:=if mn r i=true then [] else [((RN c l).getD i []).getD 0 0]
def jl (c:Circ) (l:List Flt) (r:List N2) (i:Nat):List Nat:=(List.range i).flatMap (kz c l r)
theorem lC (c:Circ) (l:List Flt) (r:List N2) (i:Nat):jl c l r (i+1)=jl c l r i++kz c l r i:=by
 unfold jl
 rw[List.range_succ,List.flatMap_append]
 simp
theorem tl (c:Circ) (l:List Flt) (r:List N2):∀ i,(jl c l r i).length<=i
 |0=>Nat.le_refl _
 |i+1=>by
  rw[lC,List.length_append]
  have:=tl c l r i
  have:(kz c l r i).length<=1:=by unfold kz;split <;> simp
  omega
theorem CA {c:Circ}{l:List Flt}{i:Nat} (h:i<(ksF c l).length):∃ k x t,(ksF c l)[i]?=some k/\(RN c l)[i]?=some (x::t)/\lk c l k=x::t:=by
 obtain⟨k,hk⟩:=aA h
 have hr:(RN c l)[i]?=some (lk c l k):=by unfold RN;rw[List.getElem?_map,hk];rfl
 obtain⟨f,hf,e⟩:=iN.1 (List.mem_of_getElem? hk)
 obtain⟨j,hj⟩:=List.mem_iff_getElem?.1 hf
 have m:j∈lk c l k:=sI.2 ⟨f,hj,e⟩
 cases hrow:lk c l k with
 |nil=>rw[hrow] at m;cases m
 |cons x t=>exact⟨k,x,t,hk,by rw[hr,hrow],hrow⟩
theorem Du {c:Circ} (C:Cir c) {l:List Flt} (hl:ListOk c l) {K:List Nat×Nat->Prop} (h:∀ r,DomOk c (ksF c l) r->K (jl c l r (ksF c l).length,0)):cX c l K:=by
 have hlen:=hl.len
 have hks:=yu hl
 have hRl:=vy c l
 unfold cX
 refine mF C hl.len hl.check ⟨(fun q=>absurd rfl (dR.1 q)),fun _=>iM C hl.len hl.stuck fun ps cs P=>⟨by omega,by omega,?_⟩⟩
 refine fb (fun s=>∃ r,DomOk c (ksF c l) r/\s.2.length=(ksF c l).length/\∀ i,i<(ksF c l).length->s.2[i]?=some (mn r i)) (fun k hk=>jO C hks P.edge P.cs fun qs r hr=>?_) ?_
 ·refine aW (fun s=>s.2<=r.length/\s.1.length=(ksF c l).length/\∀ i,i<(ksF c l).length->s.1[i]?=some (mn (r.take s.2) i)) (fun s=>r.length-s.2) ?_ ⟨Nat.zero_le _,by rw[List.length_replicate];exact hRl,fun i hi=>?_⟩
  ·rintro⟨bs,t⟩ nx ⟨ht,hb1,hb2⟩ hnx
   dsimp only at ht hb1 hb2
   refine⟨fun q=>?_,fun q=>hk _ ⟨r,hr,hb1,?_⟩⟩
   ·have q:t<r.length:=aV.1 q
    obtain⟨x,hx⟩:=aA q
    have hlt:=hr.lt (List.mem_of_getElem? hx)
    have:=hr.len
    refine⟨x,hx,by rw[hRl];exact hlt.2,_,hb2 x.b hlt.2,by omega,hnx _ ⟨q,(List.length_set ..).trans hb1,fun i hi=>?_⟩ (by dsimp only;omega)⟩
    dsimp only
    rw[List.getElem?_set,nm hx]
    unfold mn
    rw[List.any_append]
    by_cases e:x.b=i
    ·subst e
     rw[if_pos rfl,if_pos (by omega)]
     simp
    ·rw[if_neg e,hb2 i hi]
     unfold mn
     simp[e]
   ·have q:r.length<=t:=bg.1 q
    rw[List.take_of_length_le q] at hb2
    exact hb2
  ·rw[hRl,List.getElem?_replicate,if_pos hi];rfl
 ·rintro⟨qs,bs⟩ ⟨r,hr,hb1,hb2⟩
  dsimp only at hb1 hb2
  refine aD (fun s=>s.2<=(ksF c l).length/\s.1=jl c l r s.2) (fun s=>(ksF c l).length-s.2) (fun s=>s=jl c l r (ksF c l).length) ?_ ⟨Nat.zero_le _,rfl⟩ (fun _ e=>e ▸ h r hr)
  rintro k ⟨out,i⟩ nx ⟨hi,ho⟩ hnx hk
  dsimp only at hi ho
  refine⟨fun q=>?_,fun q=>hk _ ?_⟩
  ·have q:i<(ksF c l).length:=hRl ▸ aV.1 q
   obtain⟨ky,x,t,_,hrow,_⟩:=CA q
   have hol:out.length<=i:=by rw[ho];exact tl c l r i
   have hone:kz c l r i=if mn r i=true then [] else [x]:=by
    have e:(RN c l).getD i []=x::t:=by rw[List.getD,hrow];rfl
    unfold kz
    rw[e];rfl
   refine fb (fun s=>s=jl c l r (i+1)) (fun k2 hk2=>⟨_,hrow,by omega,_,hb2 i q,fun e=>⟨x,rfl,by rw[List.length_singleton];omega,hk2 _ ?_⟩,fun e=>hk2 _ ?_⟩) fun s hs=>⟨by omega,hnx _ ⟨q,hs⟩ (by dsimp only;omega)⟩
   ·have e:mn r i=false:=by simpa using e
    rw[lC,hone,e,ho];rfl
   ·have e:mn r i=true:=by simpa using e
    rw[lC,hone,e,ho]
    simp
  ·have q:(RN c l).length<=i:=bg.1 q
   obtain rfl:i=(ksF c l).length:=by omega
   exact ho
def Be (a b:Nat):Prop:=a=2\/a=b
inductive BeL:List Nat->List Nat->Prop
 |nil:BeL [] []
 |cons {a b:Nat} {l m:List Nat}:Be a b->BeL l m->BeL (a::l) (b::m)
theorem Be.refl (a:Nat):Be a a:=.inr rfl
theorem BeL.getD:∀ {l m:List Nat},BeL l m->∀ i,Be (l.getD i 0) (m.getD i 0)
 |_,_,.nil,_=>.refl _
 |_,_,.cons h _,0=>h
 |_,_,.cons _ h,i+1=>by
  rw[List.getD_cons_succ,List.getD_cons_succ]
  exact BeL.getD h i
theorem BeL.eq:∀ {l m:List Nat},BeL l m->2 ∉ l->l=m
 |_,_,.nil,_=>rfl
 |_,_,.cons h r,n=>by
  rw[List.mem_cons,not_or] at n
  rcases h with h|h
  ·exact absurd h.symm n.1
  ·rw[h,BeL.eq r n.2]
theorem BeL.EY {f g:Nat->Nat->Nat}:∀ (ins:List Nat) (s:Nat),(∀ j k,ins[j]?=some k->Be (f (s+j) k) (g (s+j) k))->BeL (ins.mapIdx fun j k=>f (s+j) k) (ins.mapIdx fun j k=>g (s+j) k)
 |[],_,_=>.nil
 |k::ins,s,h=>by
  rw[List.mapIdx_cons,List.mapIdx_cons]
  refine .cons (h 0 k rfl) ?_
  have:=BeL.EY (f:=f) (g:=g) ins (s+1) fun j k' hk=>by
   have:=h (j+1) k' (by rw[List.getElem?_cons_succ];exact hk)
   rw[show s+1+j=s+(j+1) by omega]
   exact this
  have e:∀ q:Nat->Nat->Nat,(ins.mapIdx fun j k=>q (s+1+j) k)=ins.mapIdx fun j k=>q (s+(j+1)) k:=fun q=>by
   congr 1
   funext j k
   rw[show s+1+j=s+(j+1) by omega]
  rw[e f,e g] at this
  exact this
theorem ta {a b:Nat} (h:Be a b):Be (min a 2) (min b 2):=by
 rcases h with rfl|rfl
 ·exact .inl rfl
 ·exact .refl _
theorem uM {a b:Nat} (h:Be a b):Be (na a) (na b):=by
 rcases h with rfl|rfl
 ·exact .inl rfl
 ·exact .refl _
theorem uO {low high:Nat}:∀ (l:List Nat) (o:Nat),dp low high l o=low\/dp low high l o=o\/dp low high l o=2
 |[],o=>.inr (.inl rfl)
 |v::l,o=>by
  rw[dp]
  split
  ·exact .inl rfl
  ·split
   ·exact uO l o
   ·rcases uO (low:=low) (high:=high) l 2 with h|h|h
    ·exact .inl h
    ·exact .inr (.inr h)
    ·exact .inr (.inr h)
theorem mI {low high:Nat}:∀ {l:List Nat},low ∉ l->∀ o,dp low high l o=o\/dp low high l o=2
 |[],_,o=>.inl rfl
 |v::l,h,o=>by
  rw[List.mem_cons,not_or] at h
  rw[dp,if_neg (fun e=>h.1 e.symm)]
  split
  ·exact mI h.2 o
  ·rcases mI (low:=low) (high:=high) h.2 2 with q|q
   ·exact .inr q
   ·exact .inr q
theorem pz {low high:Nat} (h1:low<=1) (h2:high<=1):∀ {l m:List Nat},BeL l m->∀ {o p:Nat},Be o p->Be (dp low high l o) (dp low high m p)
 |_,_,.nil,_,_,h=>h
 |a::l,b::m,.cons h r,o,p,ho=>by
  rcases h with rfl|rfl
  ·rw[dp,if_neg (by omega),if_neg (by omega)]
   rw[dp]
   split
   ·rcases uO (low:=low) (high:=high) l 2 with q|q|q
    ·rw[q];exact .refl _
    ·exact .inl q
    ·exact .inl q
   ·exact pz h1 h2 r (.inl rfl)
  ·rw[dp,dp]
   split
   ·exact .refl _
   ·refine pz h1 h2 r ?_
    split
    ·exact ho
    ·exact .refl _
theorem yQ:∀ {l m:List Nat},BeL l m->∀ o,Be (mS l o) (mS m o)
 |_,_,.nil,_=>.refl _
 |a::l,b::m,.cons h r,o=>by
  rcases h with rfl|rfl
  ·rw[mS,if_neg (by omega)];exact .inl rfl
  ·rw[mS,mS]
   split
   ·exact yQ r _
   ·exact .refl _
theorem EA {s s' a a' b b':Nat} (hs:Be s s') (ha:Be a a') (hb:Be b b'):Be (yn s a b) (yn s' a' b'):=by
 unfold yn
 rcases hs with rfl|rfl
 ·rw[if_neg (by omega),if_neg (by omega)]
  by_cases e:a=b
  ·rw[if_pos e]
   subst e
   by_cases q:a=2
   ·subst q;exact .inl rfl
   ·have e1:a=a':=ha.resolve_left q
    have e2:a=b':=hb.resolve_left q
    subst e1 e2
    split
    ·exact .refl _
    ·split
     ·exact .refl _
     ·rw[if_pos rfl];exact .refl _
  ·rw[if_neg e];exact .inl rfl
 ·split
  ·exact ta ha
  ·split
   ·exact ta hb
   ·by_cases e:a=b
    ·rw[if_pos e]
     subst e
     by_cases q:a=2
     ·subst q;exact .inl rfl
     ·have e1:a=a':=ha.resolve_left q
      have e2:a=b':=hb.resolve_left q
      subst e1 e2
      rw[if_pos rfl];exact .refl _
    ·rw[if_neg e];exact .inl rfl
theorem Ee {e e' d d':Nat} (he:Be e e') (hd:Be d d'):Be (xW e d) (xW e' d'):=by
 unfold xW
 rcases he with rfl|rfl
 ·exact .inl rfl
 ·split
  ·exact .refl _
  ·split
   ·exact ta hd
   ·exact .refl _
theorem CN {l:List Nat} (h:2∈l):xm l=2:=by
 unfold xm
 split
 ·rename_i e
  unfold Dz at e
  have:=List.findIdx?_eq_none_iff.1 e 2 h
  simp at this
 ·rw[if_pos]
  rw[Bool.or_eq_true]
  right
  rw[List.any_eq_true]
  exact⟨2,h,rfl⟩
theorem Eg {l m:List Nat} (h:BeL l m):Be (xm l) (xm m):=by
 by_cases q:2∈l
 ·rw[CN q];exact .inl rfl
 ·rw[h.eq q];exact .refl _
theorem yE (k:Nat) {l m:List Nat} (h:BeL l m):Be (iB k l) (iB k m):=by
 by_cases k12:k=12
 ·subst k12;exact Ee (h.getD 0) (h.getD 1)
 by_cases k13:k=13
 ·subst k13;exact Eg h
 by_cases k1:k=1
 ·subst k1;exact .refl _
 by_cases k2:k=2
 ·subst k2;exact .refl _
 by_cases k3:k=3
 ·subst k3;exact ta (h.getD 0)
 by_cases k4:k=4
 ·subst k4;exact uM (h.getD 0)
 by_cases k5:k=5
 ·subst k5;exact pz (by decide) (by decide) h (.refl _)
 by_cases k6:k=6
 ·subst k6;exact uM (pz (by decide) (by decide) h (.refl _))
 by_cases k7:k=7
 ·subst k7;exact pz (by decide) (by decide) h (.refl _)
 by_cases k8:k=8
 ·subst k8;exact uM (pz (by decide) (by decide) h (.refl _))
 by_cases k9:k=9
 ·subst k9;exact yQ h _
 by_cases k10:k=10
 ·subst k10;exact uM (yQ h _)
 by_cases k11:k=11
 ·subst k11;exact EA (h.getD 0) (h.getD 1) (h.getD 2)
 have e:∀ q,iB k q=2:=fun q=>by
  unfold iB ur
  rw[if_neg k12,if_neg k13,if_neg k1,if_neg k2,if_neg k3,if_neg k4,if_neg k5,if_neg k6,if_neg k7,if_neg k8,if_neg k9,if_neg k10,if_neg k11]
 rw[e,e];exact .refl _
theorem ym {k:Nat}{r:Rul} (h:steerR k=some r):5<=k/\k<=8:=by
 unfold steerR at h
 split at h
 ·omega
 split at h
 ·omega
 split at h
 ·omega
 split at h
 ·omega
 ·cases h
theorem uv {k:Nat}{r:Rul} (h:steerR k=some r) {l:List Nat} (m:r.pin∈l):iB k l=r.out:=by
 unfold steerR at h
 split at h
 ·rename_i q;subst q;cases h
  show dp 0 1 l 1=0
  exact gA m
 split at h
 ·rename_i q;subst q;cases h
  show na (dp 0 1 l 1)=1
  rw[gA m];rfl
 split at h
 ·rename_i q;subst q;cases h
  show dp 1 0 l 0=1
  exact gA m
 split at h
 ·rename_i q;subst q;cases h
  show na (dp 1 0 l 0)=0
  rw[gA m];rfl
 ·cases h
theorem BP {k:Nat}{r:Rul} (h:steerR k=some r) {l:List Nat} (m:r.pin ∉ l):Be (iB k l) (1-r.out):=by
 unfold steerR at h
 split at h
 ·rename_i q;subst q;cases h
  show Be (dp 0 1 l 1) 1
  rcases mI (high:=1) m 1 with q|q
  ·exact .inr q
  ·exact .inl q
 split at h
 ·rename_i q;subst q;cases h
  show Be (na (dp 0 1 l 1)) 0
  rcases mI (high:=1) m 1 with q|q
  ·rw[q];exact .inr rfl
  ·rw[q];exact .inl rfl
 split at h
 ·rename_i q;subst q;cases h
  show Be (dp 1 0 l 0) 0
  rcases mI (high:=0) m 0 with q|q
  ·exact .inr q
  ·exact .inl q
 split at h
 ·rename_i q;subst q;cases h
  show Be (na (dp 1 0 l 0)) 1
  rcases mI (high:=0) m 0 with q|q
  ·rw[q];exact .inr rfl
  ·rw[q];exact .inl rfl
 ·cases h
theorem Bg {v a b:Nat} (h:Con v a) (g:Be a b):Con v b:=by
 rcases g with rfl|rfl
 ·exact absurd h.2.1 (by decide)
 ·exact h
theorem DN {c:Circ} (C:Cir c) {p:Pat} (hp:PatOk c p) {n j:Nat}{r:Rul} (hn:n<c.nodes.length) (hj:j<(insOf c n).length) (hr:steerR (kd c n)=some r) (hd:gK c p (fltS (domPin n j r))=true):gK c p (fltS (domOut n r))=true:=by
 obtain⟨x,hx⟩:=aA hn
 rw[fE hx] at hr
 rw[bK hx] at hj
 have hle:=wW hr
 have hk:=ym hr
 have hcomb:combB x.kind=true:=decide_eq_true (by omega)
 obtain⟨y0,hy0⟩:=aA hj
 have hpl:∀ m q v,v<=3->gT n (Int.ofNat j) (1-r.pin) m q v<=3:=kO (by omega)
 have T:=lL C hp og hpl
 obtain⟨t,ht⟩:∃ t,sol c p idN (gT n (Int.ofNat j) (1-r.pin))=t:=⟨_,rfl⟩
 rw[ht] at T
 have hother:∀ i (y:Node),i≠n->cG (gT n (Int.ofNat j) (1-r.pin)) t i y=cG idP t i y:=by
   intro i y q
   unfold cG
   congr 1
   funext q2 k
   rw[iV,if_neg (fun e=>q e.1)];rfl
 have hdffn:∀ s∈ofN c [14],s≠n:=by
   rintro s hs rfl
   have:=xt hs
   rw[fE hx] at this
   omega
 have hvf:lD c p (fltS (domPin n j r))=t:=by
   unfold lD domPin
   rw[vS,oz];exact ht
 have hTn:t.getD n 0=iB x.kind (cG (gT n (Int.ofNat j) (1-r.pin)) t n x):=by
   have:=T.val n x hx
   rw[this]
   show baseV _ _ _ _ _ _=_
   exact gP hcomb
 by_cases m:r.pin∈cG (gT n (Int.ofNat j) (1-r.pin)) t n x
 ·
   have hS:Sol c p idN idP t:=by
    refine⟨T.len,fun i y hy=>?_,T.le⟩
    by_cases q:i=n
    ·subst q
     rw[hx] at hy;cases hy
     show _=baseV _ _ _ _ _ _
     rw[gP hcomb,hTn,uv hr m]
     symm
     refine uv hr ?_
     obtain⟨q,hq⟩:=List.mem_iff_getElem?.1 m
     unfold cG at hq ⊢
     rw[List.getElem?_mapIdx] at hq
     obtain⟨k,hk1,hk2⟩:=Option.map_eq_some_iff.1 hq
     rw[iV] at hk2
     split at hk2
     ·omega
     ·refine List.mem_iff_getElem?.2 ⟨q,?_⟩
      rw[List.getElem?_mapIdx,hk1,<- hk2];rfl
    ·rw[T.val i y hy]
     show baseV _ _ _ _ _ _=baseV _ _ _ _ _ _
     unfold baseV
     rw[hother i y q]
   have e:=hS.is C hp og mc
   have:gK c p (fltS (domPin n j r))=false:=by
    rw[Bool.eq_false_iff]
    intro h
    rw[uY,hvf] at h
    unfold wG at h
    rw[<- e] at h
    rcases h with⟨o,_,h⟩|⟨s,hs,h⟩
    ·exact zf _ h
    ·unfold domPin at h
     rw[oz,iV,if_neg (fun q=>hdffn s hs q.1)] at h
     exact zf _ h
   rw[this] at hd
   cases hd
 ·
   have G:=lL C hp (mK (a:=n) (w:=1-r.out) (by omega)) mc
   obtain⟨g,hg⟩:∃ g,sol c p (kl n (1-r.out)) idP=g:=⟨_,rfl⟩
   rw[hg] at G
   have hvg:lD c p (fltS (domOut n r))=g:=by
    unfold lD domOut
    rw[uW,vH];exact hg
   have hB:∀ k i,i<k->Be (t.getD i 0) (g.getD i 0):=by
    intro k
    induction k with
    |zero=>intro i h;omega
    |succ k ih =>
     intro i hik
     by_cases hi:i<c.nodes.length
     ·obtain⟨y,hy⟩:=aA hi
      rw[G.val i y hy]
      by_cases q:i=n
      ·subst q
       rw[hx] at hy;cases hy
       unfold kl
       rw[if_pos rfl,hTn]
       exact BP hr m
      ·unfold kl
       rw[if_neg q,T.val i y hy]
       show Be (baseV _ _ _ _ _ _) (baseV _ _ _ _ _ _)
       by_cases hc:combB y.kind=true
       ·rw[gP hc,gP hc,hother i y q]
        refine yE _ ?_
        unfold cG
        have:=BeL.EY (f:=fun q k=>idP i q (t.getD k 0)) (g:=fun q k=>idP i q (g.getD k 0)) y.ins 0 fun q k hk=>?_
        ·simpa using this
        ·show Be (t.getD k 0) (g.getD k 0)
         have hkk:=of_decide_eq_true hc
         have:=(C.good.node i y hy).acyc (by omega) (by omega) k (List.mem_of_getElem? hk)
         exact ih k (by omega)
       ·have hc:combB y.kind=false:=by simpa using hc
        rw[iJ hc,iJ hc];exact .refl _
     ·have e1:t.getD i 0=0:=by rw[List.getD,List.getElem?_eq_none (by rw[T.len];omega)];rfl
      have e2:g.getD i 0=0:=by rw[List.getD,List.getElem?_eq_none (by rw[G.len];omega)];rfl
      rw[e1,e2];exact .refl _
   rw[uY,hvf] at hd
   rw[uY,hvg]
   rcases hd with⟨o,ho,h⟩|⟨s,hs,h⟩
   ·exact .inl ⟨o,ho,Bg h (hB _ o (Nat.lt_succ_self _))⟩
   ·refine .inr ⟨s,hs,?_⟩
    unfold domPin at h
    rw[oz,iV,if_neg (fun q=>hdffn s hs q.1)] at h
    exact Bg h (ta (hB _ _ (Nat.lt_succ_self _)))
set_option maxHeartbeats 8000000
def lq (m:Nat) (ls:List LnZ):List Flt:=ls.flatMap fun x=>[⟨m,x,0,0⟩,⟨m,x,1,0⟩]
theorem uu {m:Nat}{ls:List LnZ}{k:Nat}{x:LnZ} (hx:ls[k]?=some x):lq m (ls.take (k+1))=lq m (ls.take k)++[⟨m,x,0,0⟩]++[⟨m,x,1,0⟩]:=by
 have:ls.take (k+1)=ls.take k++[x]:=by
  rw[List.take_add_one,hx];rfl
 rw[this]
 simp[lq]
theorem xb (m:Nat) (ls:List LnZ):(lq m ls).length=2*ls.length:=by
 induction ls with
 |nil=>rfl
 |cons x l ih=>simp[lq] at ih ⊢;omega
theorem tB {c:Circ}{m:Nat}{ls:List LnZ} (hl:cu c (fun r=>r=(ls,0))) (hm:m<2) (hn:2*ls.length<65536) :
  FnV Tryz.prog NG vars 17 ⟨[aB c,n8 m]⟩ (.tuple ⟨[ah 5 az (lq m ls),i64 0]⟩):=by
 refine fnT Tryz.func17 (by exact rfl) (fk Tryz.func17) (lbE rfl) (PureV.tup (ai.cons (ee (fun _=>pj _)) (ai.cons (PureV.flat rfl) (ai.nil)))) fun h0 O=>?_
 refine CodeT.seq hM (by kernel_rfl) ?_;refine gX ?_
 refine fz ?_;refine gH ?_
 (first|refine O.new (ak (l:=[nS]) rfl rfl rfl) fun g4 h O=>?_|refine O.dA (ak (l:=[nS]) rfl rfl rfl) fun g4 h O=>?_);refine gH ?_
 (first|refine O.new (ak (l:=[(i64 0)]) rfl rfl rfl) fun g5 h O=>?_|refine O.dA (ak (l:=[(i64 0)]) rfl rfl rfl) fun g5 h O=>?_);refine gH ?_
 refine CodeT.seq hM (by kernel_rfl) ?_;refine gX ?_
 refine ca (jK hl O.has) fun r1 hm1=>?_;subst hm1;refine gX ?_
 refine CodeT.seq hM (by kernel_rfl) ?_;refine gX ?_
 refine bf ?_;refine gX ?_
 refine bf ?_ (congrArg Value.bool (by show ltN 3 m=false;rw[eU];simp;omega));refine gX ?_
 refine CodeT.seq hM (by kernel_rfl) ?_;refine gX ?_
 (first|refine O.new (ak (l:=[nS]) rfl rfl rfl) fun g8 h O=>?_|refine O.dA (ak (l:=[nS]) rfl rfl rfl) fun g8 h O=>?_);refine gH ?_
 refine CodeT.range hM (by kernel_rfl) ?_;refine gX ?_
 refine fg Tryz.func30 ?_;refine gX ?_
 refine fz ?_;refine gH ?_
 refine fz ?_;refine gH ?_
 refine fz ?_;refine gX ?_
 have O:=O.aN (.cells (flatC (([]:List Flt).map az)) false)
 refine RangeT.mk' 50 [FP (n8 m),FP (ah 2 aw ls),FP (aB c)] (by exact rfl) (by exact rfl) (fk Tryz.func50) fun L D q I hI kept hq1 hq2 hq3 hq4 hq5=>?_
 have yl:∀ (pre:List Flt) (a:Option Nat) (L':List Slot) (h:Heap) (x:Flt),(a=none->pre=[])->pre.length<65536->Own vars h0 ((a,.cells (flatC (pre.map az)) false)::(some g8,.cells [ag 5 a (pre.map az)] false)::L') h ->
   ∃ h',YC Tryz.prog NG I L (az x) h (.bool true) h'/\∃ a',(a'=none->pre++[x]=[])/\Own vars h0 ((a',.cells (flatC ((pre++[x]).map az)) false)::(some g8,.cells [ag 5 a' ((pre++[x]).map az)] false)::L') h':=by
  intro pre a L' h x ha hlen O
  subst hI
  refine Es hq1 hq4 hq5 (show (26:Nat)<36 by decide) ?_
  rw[hq2,hq3]
  refine CodeY.cut (nn:=36) (fun h=>Own vars h0 ((a,.cells (flatC (pre.map az)) false)::(some g8,.cells [ag 5 a (pre.map az)] false)::L') h) [(8,.pointer (some ⟨g8,0,none⟩)),(26,az x)] rfl ⟨O,by rw[Env.de];rfl,by rw[Env.de];rfl,trivial⟩ ?_
  clear O;intro base O;conv=>whnf
  refine CodeY.reg jZ (by kernel_rfl) (by kernel_rfl) ?_;refine gH ?_
  (first|refine O.new (ak (l:=[(n8 0),(i64 0),(z64 0),(n8 0),(i64 0)]) rfl rfl rfl) fun g9 h O=>?_|refine O.dA (ak (l:=[(n8 0),(i64 0),(z64 0),(n8 0),(i64 0)]) rfl rfl rfl) fun g9 h O=>?_);refine gH ?_
  refine O.stC 5 (.head _) [(n8 x.model),(i64 x.line.node),(z64 x.line.pin),(n8 x.value),(i64 x.other)] fun h O=>?_;refine gH ?_
  refine CodeY.block (CodeY.seq jZ (CodeY.seq jZ (CodeY.reg jZ (by kernel_rfl) (by kernel_rfl) ?_)));refine gH ?_
  refine CodeY.cond (by exact rfl) false (congrArg Value.bool (by show eqN pre.length 65536=false;rw[oe];simp;omega)) (CodeY.skip ?_);refine gX ?_
  refine CodeY.reg jZ (by kernel_rfl) (by kernel_rfl) ?_;refine gH ?_
  refine ldA (O.at (.head _)) ?_;refine gH ?_
  refine fz ?_;refine gH ?_
  refine O.apL (b:=40) (W:=True) (enc:=az) (l:=pre) (new:=[x]) 5 (.tail _ (.head _)) ha ⟨by simp;omega,trivial⟩ fun a' h ha' O _=>?_;refine gH ?_
  refine O.stC 1 (.tail _ (.tail _ (.head _))) [ag 5 a' ((pre++[x]).map az)] fun h O=>?_;refine gH ?_
  exact⟨a',ha',O.tail⟩
 refine E3 Tryz.func50 (by exact rfl) (by exact rfl) (lbE rfl) ?_
 refine CodeY.seq kept (CodeY.reg kept (by kernel_rfl) (by kernel_rfl) ?_);refine gH ?_
 refine fz ?_;refine gH ?_
 refine CodeY.seq kept (CodeY.seq kept (CodeY.reg kept (by kernel_rfl) (by kernel_rfl) ?_));refine gH ?_
 refine CodeY.cond (by exact rfl) true (congrArg Value.bool (by show ltN m 2=true;rw[eU];simp;omega)) ?_
 refine CodeY.seq kept (CodeY.seq kept (CodeY.reg kept (by kernel_rfl) (by kernel_rfl) ?_));refine gH ?_
 refine CodeY.block (CodeY.loop kept (nn:=64) (σ:=Nat) (fun k h=>k<=ls.length/\∃ a,(a=none->lq m (ls.take k)=[])/\Own vars h0 [(a,.cells (flatC ((lq m (ls.take k)).map az)) false),(some g8,.cells [ag 5 a ((lq m (ls.take k)).map az)] false),(some g5,.cells [i64 0] false),(some g4,.cells [.slice none 0 0] false)] h)
  (fun k=>[(1,FP (n8 m)),(4,FP (.func (.yield L) ⟨[]⟩ ⟨[]⟩)),(12,ah 2 aw ls),(13,i64 ls.length),(14,i64 k)]) (fun k=>ls.length-k) rfl ⟨0,⟨Nat.zero_le _,none,fun _=>rfl,O⟩,rfl,rfl,rfl,rfl,rfl,trivial⟩ ?_)
 clear O;rintro k base h ⟨hk,a,ha,O⟩;conv=>whnf
 refine CodeY.seq kept (CodeY.reg kept (by kernel_rfl) (by kernel_rfl) ?_);refine gH ?_
 by_cases hlt:k<ls.length
 ·obtain⟨x,hx⟩:∃ x,ls[k]?=some x:=⟨_,List.getElem?_eq_getElem hlt⟩
  have hlen:(lq m (ls.take k)).length=2*k:=by rw[xb,List.length_take,Nat.min_eq_left hk]
  refine CodeY.seq kept (CodeY.cond (by exact rfl) true (congrArg Value.bool (by show ltN k ls.length=true;rw[eU];simp;omega)) (CodeY.skip ?_));refine gX ?_
  refine CodeY.seq kept (CodeY.block (CodeY.seq kept (CodeY.reg kept (by kernel_rfl) (by kernel_rfl) ?_)));refine gH ?_
  refine atF (W:=fun _=>True) ⟨x,hx,trivial⟩ fun x' hx' _=>?_
  obtain rfl:x=x':=by rw[hx] at hx';exact Option.some.inj hx'
  refine gH ?_
  (first|refine O.new (ak (l:=[(i64 0),(z64 0)]) rfl rfl rfl) fun g6 h O=>?_|refine O.dA (ak (l:=[(i64 0),(z64 0)]) rfl rfl rfl) fun g6 h O=>?_);refine gH ?_
  refine O.stC 2 (.head _) [(i64 x.node),(z64 x.pin)] fun h O=>?_;refine gH ?_
  refine CodeY.seq kept (CodeY.region kept (by kernel_rfl) (by kernel_rfl) (RegYS.EH 4 ?_));refine gH ?_
  refine ldA (O.at (.head _)) ?_;refine gH ?_
  have O:=O.sel [1,2,0,3,4] (by decide)
  obtain⟨h1,y1,a1,ha1,O⟩:=yl (lq m (ls.take k)) a [(some g6,.cells [(i64 x.node),(z64 x.pin)] false),(some g5,.cells [i64 0] false),(some g4,.cells [.slice none 0 0] false)] h ⟨m,x,0,0⟩ ha (by omega) O
  refine RegYS.yield (by exact rfl) (by exact rfl) (by exact rfl) y1 ?_;refine gH ?_
  refine RegYS.EH 6 ?_;refine gH ?_
  refine bf ?_;refine gH ?_
  refine ldA (O.at (.tail _ (.tail _ (.head _)))) ?_;refine gH ?_
  obtain⟨h2,y2,a2,ha2,O⟩:=yl _ a1 _ h1 ⟨m,x,1,0⟩ ha1 (by simp;omega) O
  refine RegYS.yield (by exact rfl) (by exact rfl) (by exact rfl) y2 ?_;refine gH ?_
  refine RegYS.EH 2 ?_;refine gH ?_
  refine RegYS.nil ?_;refine gX ?_
  refine CodeY.cond (by exact rfl) false (by exact rfl) (CodeY.skip ?_);refine gX ?_
  refine CodeY.reg kept (by kernel_rfl) (by kernel_rfl) ?_;refine gH ?_
  refine aL (a:=k) (b:=1) (W:=True) ⟨by omega,trivial⟩ fun _=>?_;refine gH ?_
  refine⟨k+1,by omega,⟨hlt,a2,?_,?_⟩,rfl,rfl,rfl,rfl,rfl,trivial⟩
  ·rw[uu hx];exact ha2
  ·rw[uu hx];exact O.sel [0,1,3,4] (by decide)
 ·obtain rfl:k=ls.length:=by omega
  refine CodeY.seq kept (CodeY.cond (by exact rfl) false (congrArg Value.bool (by show ltN ls.length ls.length=false;rw[eU];simp)) (CodeY.exit ?_));refine gX ?_
  rw[List.take_length] at O ha
  refine CodeY.ret ?_
  intro D'
  refine CodeY.seq tZ (CodeY.reg tZ (by kernel_rfl) (by kernel_rfl) ?_);refine gH ?_
  refine fg Tryz.func31 ?_;refine gX ?_
  refine ij (s:=5) (enc:=az) (l:=lq m ls) (n:=(lq m ls).length) (m:=(lq m ls).length) rfl rfl rfl rfl rfl rfl rfl ?_;refine gX ?_
  refine O.stC 1 (.tail _ (.tail _ (.tail _ (.head _)))) [dK a ((lq m ls).map az)] fun h O=>?_;refine gH ?_
  refine O.stC 1 (.tail _ (.tail _ (.head _))) [i64 0] fun h O=>?_;refine gH ?_
  refine CodeY.ret ?_;conv=>whnf
  refine⟨_,EV rfl rfl (O.at (.tail _ (.tail _ (.tail _ (.head _))))) rfl rfl,?_⟩;conv=>whnf
  refine⟨_,EV rfl rfl (O.at (.tail _ (.tail _ (.head _)))) rfl rfl,?_⟩;conv=>whnf
  exact⟨O.ext,fun h2 F=>VLe.tup (LLe.cons (O.jY F (Nat.le_refl _) (.head _) ha (fun _=>rfl)) (LLe.cons (VLe.refl _ _) (LLe.nil _)))⟩
def hG (p0:Circ) (p1:Nat) (K:((List Flt)×Nat)->Prop):Prop :=
 ∃ ls:List LnZ,cu p0 (fun r=>r=(ls,0))/\p1<2/\2*ls.length<65536/\K (lq p1 ls,0)
theorem lb {p0:Circ}{p1:Nat}{K:((List Flt)×Nat)->Prop} (hm:hG p0 p1 K) {h0:Heap} (hB:HasB vars h0):∃ r,K r/\CallD Tryz.prog NG 17 ⟨[aB p0,n8 p1]⟩ h0 ((fun (r:((List Flt)×Nat))=>Value.tuple ⟨[(ah 5 az) (r.1),i64 (r.2)]⟩) r) h0:=by
 obtain⟨ls,h1,h2,h3,hk⟩:=hm
 exact⟨_,hk,(tB h1 h2 h3).call h0 hB⟩
def shB:Sh:=.int .u8
def shG:Sh:=.pair shB (.pair (.pair shB (.pair shB (.pair shB .unit))) .unit)
def shC:Sh:=.pair shB (.pair shB (.pair (.pair shB (.pair shB .unit)) (.pair .bool (.pair .bool (.pair (.pair shB (.pair shB (.pair shB (.pair shB .unit)))) (.pair (.slice shG) (.pair (.slice shB) .unit)))))))
theorem eO {a:Int} (w:shB.wf a):∃ n:Nat,n<256/\a=Int.ofNat n:=by
 have h:=BX w
 exact⟨a.toNat,by omega,by simp;omega⟩
theorem vo {α β:Type}{f:α->Value}{g:β->Value}{p:β->Prop}:∀ (l:List α),(∀ x∈l,∃ y,p y/\f x=g y)->∃ m:List β,(∀ y∈m,p y)/\l.map f=m.map g/\m.length=l.length
 |[],_=>⟨[],(fun _ h=>by cases h),rfl,rfl⟩
 |x::l,h=>by
  obtain⟨y,h1,h2⟩:=h x (by simp)
  obtain⟨m,h3,h4,h5⟩:=vo l fun z hz=>h z (by simp[hz])
  refine⟨y::m,fun z hz=>?_,by simp[h2,h4],by simp[h5]⟩
  rcases List.mem_cons.1 hz with rfl|hz
  ·exact h1
  ·exact h3 z hz
theorem pF {l:List Int} (w:(Sh.slice shB).wf l):∃ m:List Nat,(∀ v∈m,v<256)/\(Sh.slice shB).bc l=[ah 1 n8 m]:=by
 obtain⟨_,w2⟩:=w
 obtain⟨m,h1,h2,_⟩:=vo (f:=fun x=>elV shB.one (shB.bc x)) (g:=n8) (p:=(· < 256)) l fun x hx=>by
  obtain⟨n,q1,rfl⟩:=eO (w2 x hx)
  exact⟨n,q1,rfl⟩
 refine⟨m,h1,?_⟩
 ·show [FL 1 (l.map fun x=>elV shB.one (shB.bc x))]=_
  rw[h2];rfl
theorem zT {l:List shG.Den} (w:(Sh.slice shG).wf l):∃ m:List GData,(∀ v∈m,GOk v)/\(Sh.slice shG).bc l=[FL 4 (m.map yH)]:=by
 obtain⟨_,w2⟩:=w
 obtain⟨m,h1,h2,_⟩:=vo (f:=fun x=>elV shG.one (shG.bc x)) (g:=yH) (p:=GOk) l fun x hx=>by
  obtain⟨k,⟨a,b,d,u⟩,u2⟩:=x
  obtain⟨w1,⟨wa,wb,wd,_⟩,_⟩:=w2 _ hx
  obtain⟨k,q1,rfl⟩:=eO w1
  obtain⟨a,q2,rfl⟩:=eO wa
  obtain⟨b,q3,rfl⟩:=eO wb
  obtain⟨d,q4,rfl⟩:=eO wd
  exact⟨⟨k,a,b,d⟩,⟨q1,q2,q3,q4⟩,rfl⟩
 refine⟨m,h1,?_⟩
 ·show [FL 4 (l.map fun x=>elV shG.one (shG.bc x))]=_
  rw[h2]
theorem Fi {x:shC.Den} (w:shC.wf x):∃ y:CData,CB y/\elV (!true) (shC.bc x)=bH y:=by
 obtain⟨i,f,⟨d0,d1,u1⟩,bu,me,⟨p0,p1,p2,p3,u2⟩,gs,os,u3⟩:=x
 obtain⟨wi,wf,⟨wd0,wd1,_⟩,_,_,⟨wp0,wp1,wp2,wp3,_⟩,wg,wo,_⟩:=w
 obtain⟨i,qi,rfl⟩:=eO wi
 obtain⟨f,qf,rfl⟩:=eO wf
 obtain⟨d0,qd0,rfl⟩:=eO wd0
 obtain⟨d1,qd1,rfl⟩:=eO wd1
 obtain⟨p0,qp0,rfl⟩:=eO wp0
 obtain⟨p1,qp1,rfl⟩:=eO wp1
 obtain⟨p2,qp2,rfl⟩:=eO wp2
 obtain⟨p3,qp3,rfl⟩:=eO wp3
 obtain⟨g,g1,g3⟩:=zT wg
 obtain⟨o,o1,o3⟩:=pF wo
 refine⟨⟨i,f,d0,d1,bu,me,p0,p1,p2,p3,g,o⟩,⟨qi,qf,qd0,qd1,qp0,qp1,qp2,qp3,g1,o1⟩,?_⟩
 show Value.agg ⟨[n8 i,n8 f,n8 d0,n8 d1,.bool bu,.bool me,n8 p0,n8 p1,n8 p2,n8 p3]++((Sh.slice shG).bc gs++((Sh.slice shB).bc os++[]))⟩=_
 rw[g3,o3]
 rfl
def DY:Sh:=.int .i64
structure FB (z:FData):Prop where
 model:z.model<256
 node:z.node<256
 pin:z.pin<256
 other:z.other<256
structure PData where
 inp:List Nat
 state:List Nat
def De (x:PData):Value:=.agg ⟨[ah 1 n8 x.inp,ah 1 n8 x.state]⟩
structure PB (z:PData):Prop where
 inp:∀ v∈z.inp,v<256
 state:∀ v∈z.state,v<256
structure CaseD where
 c:CData
 f:List FData
 p:List PData
structure CaseB (x:CaseD):Prop where
 c:CB x.c
 f:∀ z∈x.f,FB z
 p:∀ z∈x.p,PB z
def shP:Sh:=.pair (.slice shB) (.pair (.slice shB) .unit)
end Go.Proofs.YtobphhjcadjfjaaGreatDoor
