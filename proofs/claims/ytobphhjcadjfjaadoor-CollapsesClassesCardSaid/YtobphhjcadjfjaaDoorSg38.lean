/-
  AbsXy: parts of the proof.
-/
import Derived.Test.YtobphhjcadjfjaaDoorSg37
namespace Go.Abs
variable {P:Program} {ρ:Operand->Value} {d:Option Tmp} {ty:TypeId} {pos:String} {af:Array Edge} {gd:Option (Nat×Bool)}
theorem AT {t yt:TypeId}{x y:Operand}{a b:Int} (hx:ρ x=.int .i64 a) (hy:ρ y=.int .i64 b) (h1 : -(2 ^ 63)<=a+b) (h2:a+b<2 ^ 63) :
  an P ρ { dst:=d,op:=.binOp .add t x y yt,type:=ty,pos:=pos,after:=af,guard:=gd }=some (.int .i64 (a+b)):=by
 refine tM hx hy ?_
 simp only[fj,Option.some.injEq,Value.int.injEq,true_and]
 rw[IntWalk.i64_in _ (by omega)]
theorem uv {P:Program}{kt:TypeId}{kd:TypeDesc}{k k':Value}{b:Bool}{xs ys:List Value} (hk:dC kd=false) (he:jf P kt k k'=some b) (hy:k=.agg ⟨ys⟩) (hx:k'=.agg ⟨xs⟩) (h1:b=true->mV xs ys=true):dE P kt kd k k'=some b:=by
 subst hx hy
 unfold dE
 rw[hk]
 dsimp only
 rw[he]
 cases b with
 |false=>rfl
 |true =>
  dsimp only
  rw[h1 rfl]
def stV {α:Type} (_enc:α->Value) (a t:Option Nat) (l J:List α):Value:=.slice (a.map fun g=>⟨g,0,t⟩) l.length (l++J).length
variable {N:Nat} {B:List AObj} {h0 h:Heap} {L:List Slot}
theorem Own.yf {a:Option Nat}{o:AObj}{f:Slot->List Slot} (O:Own B h0 L h) (A:At (a,o) L f) (o':AObj) (hd:Heap) (hsz':hd.size=h.size) (hget:∀ k,h0.size<=k->a≠some k->hd.get k=h.get k) (hext:Ext h0 hd):Own B h0 (f (some h.size,o')) (hd.push o'):=by
 refine⟨O.base,hext.trans ⟨Nat.le_succ _,fun g hg=>by rw[Heap.aV,if_neg (by omega)]⟩,fun k x m=>?_,A.apart O.apart fun x m hx=>?_⟩
 ·have key:∀ {L:List Slot} {f:Slot->List Slot},At (a,o) L f->L.Pairwise Apart->(some k,x)∈f (some h.size,o')->(k=h.size/\x=o')\/(a≠some k/\(some k,x)∈L):=by
   intro L f a
   induction a with
   |head L =>
    intro ha m
    rcases List.mem_cons.1 m with m|m
    ·cases m;exact .inl ⟨rfl,rfl⟩
    ·exact .inr ⟨fun e=>(List.pairwise_cons.1 ha).1 _ m k e rfl,.tail _ m⟩
   |tail r a ih =>
    intro ha m
    have hap:=(List.pairwise_cons.1 ha).1 _ a.mem
    rcases List.mem_cons.1 m with m|m
    ·refine .inr ⟨fun e=>?_,by rw[m];exact .head _⟩
     subst m
     exact hap k rfl e
    ·rcases ih (List.pairwise_cons.1 ha).2 m with q|⟨q1,q2⟩
     ·exact .inl q
     ·exact .inr ⟨q1,.tail _ q2⟩
  rcases key A O.apart m with⟨rfl,rfl⟩|⟨q1,q2⟩
  ·exact⟨O.ext.1,by rw[Heap.aV,if_pos hsz'.symm]⟩
  ·obtain⟨r1,r2⟩:=O.get k x q2
   have:=Heap.ag r2
   exact⟨r1,by rw[Heap.aV,if_neg (by omega),hget k r1 q1];exact r2⟩
 ·by_cases q:x.1=some h.size
  ·exfalso
   obtain⟨x1,x2⟩:=x
   simp only at q
   subst q
   have:=Heap.ag (O.get _ _ m).2
   omega
  ·refine .inl ⟨fun g e e'=>?_,fun g e e'=>?_⟩
   ·cases e;exact q e'
   ·cases e';exact q e
theorem Own.uA {α:Type}{enc:α->Value}{l new J:List α}{ts tx te:TypeId}{dx:TypeDesc}{x y:Operand}{s b:Nat}{a t:Option Nat}{z:Value}{f:Slot->List Slot}{K:Value->Heap->Prop} (O:Own B h0 L h) (A:At (a,.cells (flatC ((l++J).map enc)) false) L f) (ha:a=none->l++J=[]) (ht:t=none\/t=some s)
  (hts:P.underlying ts=some (.slice te)) (htx:P.underlying tx=some dx) (hni:dG dx=true) (hs:aL P te=some s) (hb:iS P te=some b) (hz:zeroOf P te=some z) (hzs:z.cells.size=s)
  (hx:ρ x=stV enc a t l J) (hy:YOk h s (ρ y) enc new) (hsz:∀ x:α,(cl (enc x)).length=s) (hone:∀ x:α,(cl (enc x)).all Value.oneCell'=true)
  (hb0:0<b) (hlim:(l.length+new.length)*b<=2 ^ 47)
  (k:∀ a' t' J' h1,(a'=none->(l++new)++J'=[])->(t'=none\/t'=some s)->Own B h0 (f (a',.cells (flatC (((l++new)++J').map enc)) false)) h1->K (stV enc a' t' (l++new) J') h1) :
  ∃ (v:Value) (T:Heap->Prop),(∃ h',da P ρ { dst:=d,op:=.call { callee:=.builtin .append,args := #[x,y],argTypes := #[ts,tx] },type:=ty,pos:=pos,after:=af,guard:=gd } h=some (v,h')/\T h')/\∀ h1,T h1->K v h1:=by
 have hy0:=hy.len
 have hf0:=hy.first
 unfold da eZ
 simp only[List.map_cons,List.map_nil,hx,stV,hts,htx,hni,if_true,hs,hb,hz,hy0,hf0]
 unfold cE
 by_cases hm0:new.length=0
 ·have hn:new=[]:=List.eq_nil_of_length_eq_zero hm0
  subst hn
  rw[if_pos (show ([]:List α).length=0 from rfl),if_pos ⟨by simp[flatC],by rw[List.length_append];omega⟩]
  refine⟨_,fun h1=>h1=h,⟨h,rfl,rfl⟩,fun h1 e=>?_⟩
  subst e
  have:=k a t J h1 (by rw[List.append_nil];exact ha) ht (by rw[List.append_nil,A.same];exact O)
  rw[List.append_nil] at this
  exact this
 rw[if_neg hm0]
 by_cases hroom:l.length+new.length<=(l++J).length
 ·rw[if_pos hroom]
  cases a with
  |none =>
   have:=ha rfl
   rw[this] at hroom
   simp only[List.length_nil] at hroom
   omega
  |some g =>
   obtain⟨hgs,hgg⟩:=O.get g _ A.mem
   simp only[Option.map_some,hgg]
   have hle:0+l.length*s+(flatC (new.map enc)).length<=(flatC ((l++J).map enc)).length:=by
    rw[bk hsz,bk hsz]
    have:(l.length+new.length)*s<=(l++J).length*s:=Nat.mul_le_mul_right s hroom
    rw[Nat.add_mul] at this
    omega
   rw[if_pos ⟨hle,tJ hone _⟩,pv hsz (l++J) l.length new hroom]
   have e1:(l++J).take l.length++(new++(l++J).drop (l.length+new.length))=(l++new)++J.drop new.length:=by
    rw[List.take_left,List.append_assoc]
    congr 2
    rw[List.drop_append]
    have:l.drop (l.length+new.length)=[]:=List.drop_eq_nil_of_le (by omega)
    rw[this,List.nil_append,Nat.add_sub_cancel_left]
   rw[e1]
   have u:=Upd.upd (h:=h) (g:=g) (.cells (flatC (((l++new)++J.drop new.length).map enc)) false) (Heap.ag hgg)
   refine⟨_,fun h1=>Own B h0 (f (some g,.cells (flatC (((l++new)++J.drop new.length).map enc)) false)) h1,⟨_,rfl,O.upd A u⟩,fun h1 q=>?_⟩
   have:=k (some g) t (J.drop new.length) h1 (fun e=>by cases e) ht q
   have e2:((l++new)++J.drop new.length).length=(l++J).length:=by
    rw[List.length_append] at hroom
    simp only[List.length_append,List.length_drop]
    omega
   unfold stV at this
   rw[e2,List.length_append] at this
   exact this
 ·have hlen:(flatC (new.map enc)).length=new.length*s:=bk hsz new
  rw[if_neg hroom,if_pos ⟨hb0,hlim,hzs,hlen,tJ hone _⟩]
  have e3:((flatC ((l++J).map enc)).drop 0).take (l.length*s)=flatC (l.map enc):=by
   rw[List.drop_zero,List.map_append,bG,List.take_append_of_le_length (by rw[bk hsz];exact Nat.le_refl _),<- bk hsz l,List.take_length]
  have e4:flatC (l.map enc)++flatC (new.map enc)=flatC (((l++new)++[]).map enc):=by
   rw[List.append_nil,List.map_append,bG]
  have hcs:0+l.length*s<=(flatC ((l++J).map enc)).length:=by
   rw[bk hsz,List.length_append,Nat.zero_add]
   exact Nat.mul_le_mul_right s (by omega)
  refine⟨.slice (some ⟨h.size,0,some s⟩) (l.length+new.length) (l.length+new.length),fun h1=>Own B h0 (f (some h.size,.cells (flatC (((l++new)++[]).map enc)) false)) h1,?_,fun h1 q=>?_⟩
  ·cases a with
   |none =>
    have q:=ha rfl
    have hl:l=[]:=(List.append_eq_nil_iff.1 q).1
    have hJ:J=[]:=(List.append_eq_nil_iff.1 q).2
    subst hl hJ
    refine⟨_,rfl,?_⟩
    have:=O.yf A (.cells (flatC (([]++new++[]).map enc)) false) h rfl (fun _ _ _=>rfl) O.ext
    simpa using this
   |some g =>
    obtain⟨hgs,hgg⟩:=O.get g _ A.mem
    have hlt:=Heap.ag hgg
    rcases ht with rfl|rfl
    ·simp only[Option.map_some,hgg]
     rw[if_pos hcs,e3,e4]
     exact⟨_,rfl,O.yf A _ h rfl (fun _ _ _=>rfl) O.ext⟩
    ·simp only[Option.map_some,hgg]
     rw[if_pos ⟨hcs,trivial⟩,e3,e4]
     exact⟨_,rfl,O.yf A _ (h.upd g .dead) rfl (fun k _ hne=>by rw[Heap.bz _ _ _ _ hlt,if_neg (fun e=>hne (by rw[e]))]) ⟨O.ext.1,fun k hk=>by rw[Heap.bz _ _ _ _ hlt,if_neg (by omega)];exact O.ext.2 k hk⟩⟩
  ·have:=k (some h.size) (some s) [] h1 (fun e=>by cases e) (.inr rfl) q
   unfold stV at this
   rw[List.append_nil,List.length_append] at this
   exact this
theorem zY {α:Type}{enc:α->Value}{l J:List α}{g:Nat}{tg:Option Nat}{t e:TypeId}{x hi:Operand}{s k:Nat}{ki:IntKind}{K:Value->Prop} (hu:P.underlying t=some (.slice e)) (hs:aL P e=some s) (hx:ρ x=stV enc (some g) tg l J) (ht:tg=none\/tg=some s) (hhi:ρ hi=.int ki (Int.ofNat k)) (hk:k<=l.length)
  (kk:K (stV enc (some g) tg (l.take k) (l.drop k++J))):∃ v,an P ρ { dst:=d,op:=.slice t x none (some hi) none,type:=ty,pos:=pos,after:=af,guard:=gd }=some v/\K v:=by
 refine⟨_,?_,kk⟩
 have e1:((l.take k)++(l.drop k++J)).length=(l++J).length:=by rw[<- List.append_assoc,List.take_append_drop]
 unfold stV
 rw[e1,List.length_take,Nat.min_eq_left hk]
 have hb:bnd (.int ki (Int.ofNat k)) (l++J).length=some k:=if_pos ⟨Int.natCast_nonneg _,Int.ofNat_le.2 (by rw[List.length_append];omega)⟩
 have hbn:eJ l.length (l++J).length none (some (.int ki (Int.ofNat k))) none=some (0,k,(l++J).length):=by
  show (match bnd (.int ki (Int.ofNat k)) (l++J).length with|none=>none|some h=>some (0,h,(l++J).length))=_
  rw[hb]
 unfold an
 simp only[hu,hx,stV,Option.map_some,hs,Option.map_none,hhi,hbn]
 rcases ht with rfl|rfl <;> simp
theorem Bj {α:Type}{enc:α->Value} (l J:List α) (k:Nat):flatC ((l++J).map enc)=flatC (((l.take k)++(l.drop k++J)).map enc):=by rw[<- List.append_assoc,List.take_append_drop]
theorem zX {α:Type}{l J:List α}{i:Nat}{x:α} (h:l[i]?=some x):(l++J)[i]?=some x:=by
 rw[List.getElem?_append_left (ag h)];exact h
theorem yi {α:Type}{l J:List α}{a:Option Nat} (ha:a=none->l++J=[]) {i:Nat}{x:α} (h:l[i]?=some x):∃ g,a=some g:=by
 cases a with
 |none =>
  have:=ha rfl
  rw[(List.append_eq_nil_iff.1 this).1] at h
  cases h
 |some g=>exact⟨g,rfl⟩
end Go.Abs
