/- Parts of the proof. -/
import Derived.Test.YtglgdkineobbeaaGreatDoorTn09
open Go.Builtin renaming firstCells->MS,growBy->PX,lenOf->Pl,nextslicecap->Pq
open Go.Utf8 renaming decode->QP
open Go.Value renaming int->O5,oneCell'->MV
open Int renaming ofNat->LQ
open Nat renaming beq->NZ,min->Rz
namespace Go.Abs
def bT(h:Heap)(size n:Nat):Value->Option (List Value)
 |.slice none _ _=>some []
 |.slice (some ⟨g,off,_⟩) _ _ =>
  match h.get g with
  |some (.cells cs _)=>if off+n*size<=cs.length then some ((cs.drop off).take (n*size)) else none
  |_=>none
 |.string s=>some ((s.extract 0 n).data.toList.map λb=>.int .u8 b.toNat)
 |.iface s (.tuple ⟨es⟩)=>match es with
  |[]=>some []
  |_::_=>match NZ s size with
   |true=>some (ah (es.take n))
   |false=>none
 |.iface _ (.bool _)=>some []
 |.iface s (.iface _ (.tuple ⟨es⟩))=>match es with
  |[]=>some []
  |_::_=>match NZ s size with
   |true=>some (ah (es.take n))
   |false=>none
 |_=>none
def lenOf:Value->Option Nat
 |.slice _ n _=>some n
 |.string s=>some s.size
 |.iface _ (.tuple ⟨es⟩)=>some es.length
 |.iface _ (.bool _)=>some 0
 |.iface _ (.iface _ (.tuple ⟨es⟩))=>some es.length
 |_=>none
def dI(h:Heap)(sz:Nat)(s b:Nat)(z:Value)(n:Nat)(new:List Value)(base:Option Addr)(len cap:Nat):Option (Value×Heap) :=
 if n=0 then (if new=[]/\len<=cap then some (.slice base len cap,h) else none)
 else if len+n<=cap then
  match base with
  |some ⟨g,off,sp⟩ =>
   match h.get g with
   |some (.cells cs false) =>
    if (off+len*s+new.length<=cs.length\/(sp=some s/\off+len*s<=cs.length/\new.length=n*s))/\new.all MV=true then
     some (.slice (some ⟨g,off,sp⟩) (len+n) cap,h.upd g (.cells (bJ cs (off+len*s) new) false))
    else none
   |_=>none
  |none=>none
 else if 0<b/\(len+n)*b<=2^47/\z.cells.size=s/\new.length=n*s/\new.all MV=true then
  match base with
  |none=>some (.slice (some ⟨sz,0,some s⟩) (len+n) (len+n),h.push (.cells new false))
  |some ⟨g,off,none⟩ =>
   match h.get g with
   |some (.cells cs _) =>
    if off+len*s<=cs.length then
     some (.slice (some ⟨sz,0,some s⟩) (len+n) (len+n),h.push (.cells ((cs.drop off).take (len*s)++new) false))
    else none
   |_=>none
  |some ⟨g,off,some s'⟩ =>
   match h.get g with
   |some (.cells cs false) =>
    if off+len*s<=cs.length/\s'=s then
     some (.slice (some ⟨sz,0,some s⟩) (len+n) (len+n),(h.upd g .dead).push (.cells ((cs.drop off).take (len*s)++new) false))
    else none
   |_=>none
 else none
def pj(h:Heap)(n:Nat)(new:List Value)(base:Option Addr)(len:Nat):Option (Value×Heap) :=
 if new=[] then some (goInt n,h) else
 match base with
 |none=>none
 |some ⟨g,off,_⟩ =>
  match h.get g with
  |some (.cells cs false) =>
   if off+new.length<=cs.length/\new.all MV=true/\0<len then
    some (goInt n,h.upd g (.cells (bJ cs off new) false))
   else none
  |_=>none
def lX(h:Heap)(new:List Value)(base:Option Addr)(len:Nat):Option (Value×Heap) :=
 if len=0 then some (.tuple #[],h) else
 match base with
 |none=>none
 |some ⟨g,off,_⟩ =>
  match h.get g with
  |some (.cells cs false) =>
   if off+new.length<=cs.length/\new.all MV=true then
    some (.tuple #[],h.upd g (.cells (bJ cs off new) false))
   else none
  |_=>none
def fh:TypeDesc->Bool
 |.int _=>false
 |_=>true
def zP(h:Heap)(x:Value):Option (Value×Heap) :=
 match x with
 |.pointer (some ⟨g,0,none⟩) =>
  match h.get g with
  |some (.iter s pos) =>
   if pos<s.size then some (.tuple #[.bool true,goInt pos,.int .i32 (QP s pos).1],h.upd g (.iter s (pos+(QP s pos).2)))
   else some (.tuple #[.bool false],h)
  |_=>none
 |_=>none
def A0(P:Program)(h:Heap)(kt:TypeId)(kd:TypeDesc)(m k v:Value):Option (Value×Heap) :=
 match m with
 |.map (some g) =>
  match h.get g with
  |some (.map es) =>
   match mQ P kt kd k es 0 with
   |some (some (i,_))=>some (undef,h.upd g (.map (es.set i (k,v))))
   |some none=>some (undef,h.upd g (.map (es++[(k,v)])))
   |none=>none
  |_=>none
 |_=>none
def yr(P:Program)(h:Heap)(kt:TypeId)(kd:TypeDesc)(z m k:Value):Option (Value×Heap) :=
 match m with
 |.map (some g) =>
  match h.get g with
  |some (.map es) =>
   match mQ P kt kd k es 0 with
   |some (some (i,v))=>some (.tuple #[v,.int .i64 (LQ i)],h.upd g (.map (es.set i (k,v))))
   |some none=>some (.tuple #[z,.int .i64 (LQ es.length)],h.upd g (.map (es++[(k,z)])))
   |none=>none
  |_=>none
 |_=>none
def xr(h:Heap)(m s v:Value):Option (Value×Heap) :=
 match m with
 |.map (some g) =>
  match s with
  |.int .i64 (.ofNat i) =>
   match h.get g with
   |some (.map es) =>
    match es[i]? with
    |some (k,_)=>some (undef,h.upd g (.map (es.set i (k,v))))
    |none=>none
   |_=>none
  |_=>none
 |_=>none
def fa(P:Program)(ρ:Operand->Value)(o:Oper)(h:Heap)(sz:Nat):Option (Value×Heap) :=
 match o.op with
 |.store t a x =>
  match ρ a with
  |.pointer (some ⟨g,off,none⟩) =>
   match h.get g with
   |some (.cells cs false) =>
    if bb P t=some (ρ x).cells.toList.length/\off+(ρ x).cells.toList.length<=cs.length/\(ρ x).cells.toList.all MV=true then
     some (undef,h.upd g (.cells (bJ cs off (ρ x).cells.toList) false))
    else none
   |_=>none
  |_=>none
 |.call { callee:=.builtin b,argTypes,args } =>
  match b,argTypes.toList,args.toList.map ρ with
  |.append,[ts,tx],[.slice base len cap,x] =>
   match P.underlying ts,P.underlying tx with
   |some (.slice e),some d =>
    if fh d then
     match bb P e,kH P e,zeroOf P e,lenOf x with
     |some s,some b,some z,some n =>
      match bT h s n x with
      |none=>none
      |some new=>dI h sz s b z n new base len cap
     |_,_,_,_=>none
    else none
   |_,_=>none
  |.append,[ts,tx],[.iface i (.tuple es),x] =>
   match P.underlying ts,P.underlying tx with
   |some (.slice e),some d =>
    if fh d then
     match bb P e,lenOf x with
     |some _,some n=>match n with
      |0=>some (.iface i (.tuple es),h)
      |_+1=>none
     |_,_=>none
    else none
   |_,_=>none
  |.append,[ts,tx],[.iface i (.bool u),x] =>
   match P.underlying ts,P.underlying tx with
   |some (.slice e),some d =>
    if fh d then
     match bb P e,kH P e,zeroOf P e,lenOf x with
     |some s,some b,some z,some n =>
      match n with
      |0=>some (.iface i (.bool u),h)
      |n+1=>match bT h s (n+1) x with
       |none=>none
       |some new=>dI h sz s b z (n+1) new none 0 0
     |_,_,_,_=>none
    else none
   |_,_=>none
  |.copy,[td,_],[.slice base len _,x] =>
   match P.underlying td with
   |some (.slice e) =>
    match bb P e,lenOf x with
    |some s,some n =>
     match bT h s (Rz n len) x with
     |some new=>pj h (Rz n len) new base len
     |none=>none
    |_,_=>none
   |_=>none
  |.clear,[td],[.slice base len _] =>
   match P.underlying td with
   |some (.slice e) =>
    match zeroOf P e with
    |some z=>if z.cells.all aR=true then lX h (jW z.cells (len*z.cells.size)).toList base len else none
    |none=>none
   |_=>none
  |_,_,_=>none
 |.next x true=>zP h (ρ x)
 |.mapUpdate t m k v =>
  match P.underlying t with
  |some (.map kt _) =>
   match P.underlying kt with
   |some kd=>if ke P kt kd (ρ k) then A0 P h kt kd (ρ m) (ρ k) (ρ v) else none
   |none=>none
  |_=>none
 |.mapEntry t m k =>
  match P.underlying t with
  |some (.map kt el) =>
   match P.underlying kt with
   |some kd=>match zeroOf P el with
    |some z=>if ke P kt kd (ρ k)=true/\plain z=true then yr P h kt kd z (ρ m) (ρ k) else none
    |none=>none
   |none=>none
  |_=>none
 |.entryStore _ m s v=>xr h (ρ m) (ρ s) (ρ v)
 |_=>none
def cZ(P:Program)(ρ:Operand->Value)(o:Oper)(h:Heap):Option (Value×Heap):=fa P ρ o h h.size
section
variable {N:Nat} {P:Program} {ι:Inj} {h:Heap} {w:World}
theorem mK{x x':Value}(r:VRel ι x x'){n:Nat}(e:lenOf x=some n):(Pl x').run P w=.ok n w:=by
 cases r <;> simp[lenOf] at e <;> subst e <;> simp[Pl]
theorem ba.bytes(bs:List UInt8):ba ι (bs.map λb=>O5 .u8 b.toNat) (bs.map λb=>O5 .u8 b.toNat) :=
 ba.nf rfl λi v v' e e'=>by
  rw[e] at e';cases e';simp only[L7] at e
  cases q:bs[i]? with
  |none=>simp[q] at e
  |some b=>simp[q] at e;subst e;exact .int _ _
theorem rz(H:HRel N ι h w){x x':Value}(r:VRel ι x x'){s n:Nat}{new:List Value}(e:bT h s n x=some new)(hn:∀m,lenOf x=some m->n<=m)(hfn:∀s j es,x≠.iface s (.iface j (.tuple ⟨es⟩))) :
  ∃new',(MS s n x').run P w=.ok new' w/\ba ι new new'.toList:=by
 cases r <;> try (simp[bT] at e;done)
 case fnNil s0=>exact absurd rfl (hfn _ _ _)
 case fn s0 es b o cap hne hr=>exact absurd rfl (hfn _ _ _)
 case fcNil s0=>exact absurd rfl (hfn _ _ _)
 case fcEmpty s0 a=>exact absurd rfl (hfn _ _ _)
 case fc s0 es b o hne hr=>exact absurd rfl (hfn _ _ _)
 case flNil s0 =>
  simp only[bT,LR] at e
  subst e
  exact⟨#[],by simp[MS],ba.nil ι⟩
 case flEmpty s0 a cap =>
  have hn0:n=0:=by have:=hn 0 rfl;omega
  subst hn0
  simp only[bT,LR] at e
  subst e
  exact⟨#[],by simp[MS,loadCells,loadCellsFrom],ba.nil ι⟩
 case fe a =>
  have hn0:n=0:=by have:=hn 0 rfl;omega
  subst hn0
  simp only[bT,LR] at e
  subst e
  exact⟨#[],by simp[MS,loadCells,loadCellsFrom],ba.nil ι⟩
 case fl s0 es b o cap C h0 h1 h2 h3 h4 h5 =>
  simp only[bT] at e
  split at e
  .exact absurd rfl h1
  split at e
  .rename_i hb
   have hss:s0=s:=M6 hb
   subst hss
   simp only[LR] at e
   subst e
   rename_i e0 es0 _
   generalize hes:e0::es0=es at *
   have hn':n<=es.length:=hn _ rfl
   obtain⟨ty,fr,hbk⟩:=H.frz b C h0
   have hmul:n*s0<=es.length*s0:=MY _ hn'
   refine⟨_,by simp only[MS];exact run_loadCells w _ (n*s0) (λj=>C.getD (o+j) undef) (λj hj=>by
    rw[cP]
    have:o+j<C.size:=by omega
    simp[World.cell?,hbk,LW,Me this]),?_⟩
   rw[qL h3]
   refine ba.nf (by rw[L8,bD h3,LZ,M4,Nb hmul]) λj u v e1 e2=>?_
   rw[MX] at e1
   split at e1
   .rename_i hj
    simp only[L7,M7 hj,MI,LR] at e2
    subst e2
    have:=h5 j (by omega)
    simpa[List.getD,e1] using this
   .cases e1
  .cases e
 case sliceNil =>
  simp only[bT,LR] at e
  subst e
  exact⟨#[],by simp[MS],ba.nil ι⟩
 case str b =>
  simp only[bT,LR] at e
  subst e
  refine⟨_,by simp only[MS,Sem.run_pure];rfl,?_⟩
  simp only[Qb]
  exact ba.bytes _
 case slice g off len cap o l hl hle ho =>
  simp only[bT] at e
  cases hg:h.get g with
  |none=>simp[hg] at e
  |some ob =>
   cases ob <;> try (simp[hg] at e;done)
   rename_i cs ro;simp only[hg] at e;split at e
   .rename_i hc;simp only[LR] at e;subst e;have hnl:=hn len rfl;by_cases q:n*s=0
    .refine⟨#[],by simp[MS,q,loadCells,loadCellsFrom],?_⟩;rw[q];simpa using ba.nil ι
    .have hn0:n≠0:=by intro z;subst z;simp at q
     have:=ho (by omega);subst this;obtain⟨vs,q1,q2⟩:=H.loadCells (P:=P) hl hg hc;refine⟨vs,by simp only[MS];exact q1,?_⟩;have:=q2.list;simpa using this
   .cases e
 case sliceOpen g off sp len cap cap' o l hl hle hcap ho htot =>
  simp only[bT] at e
  cases hg:h.get g with
  |none=>simp[hg] at e
  |some ob =>
   cases ob <;> try (simp[hg] at e;done)
   rename_i cs ro;simp only[hg] at e;split at e
   .rename_i hc;simp only[LR] at e;subst e;have hnl:=hn len rfl;by_cases q:n*s=0
    .refine⟨#[],by simp[MS,q,loadCells,loadCellsFrom],?_⟩;rw[q];simpa using ba.nil ι
    .have hn0:n≠0:=by intro z;subst z;simp at q
     have:=ho (by omega);subst this;obtain⟨vs,q1,q2⟩:=H.loadCells (P:=P) hl hg hc;refine⟨vs,by simp only[MS];exact q1,?_⟩;have:=q2.list;simpa using this
   .cases e
theorem iY(H:HRel N ι h w){x x':Value}(r:VRel ι x x'){s n:Nat}{new:List Value}(e:bT h s n x=some new)(hn:∀m,lenOf x=some m->n<=m) :
  ∃new',(MS s n x').run P w=.ok new' w/\ba ι new new'.toList:=by
 by_cases q:∃s j es,x=.iface s (.iface j (.tuple ⟨es⟩))
 .obtain⟨s0,j,es,rfl⟩:=q;exact rz H r.H6 e hn (by intro s j es e;cases e)
 .exact rz H r e hn (λs j es e=>q ⟨s,j,es,e⟩)
theorem yw(newLen:Nat):∀(r c:Nat),c<=newLen->PX newLen r c<=newLen+(newLen+768)/4
 |0,c,h=>by unfold PX;omega
 |r+1,c,h=>by
  unfold PX;split
  .omega
  .by_cases q:c+(c+768)/4<=newLen
   .exact yw newLen r _ q
   .cases r with
    |zero=>unfold PX;omega
    |succ r =>
     unfold PX;rw[if_pos (by omega)];omega
theorem nextslicecap_le(need cap:Nat)(h:cap<need):Pq need cap<=2*need:=by
 unfold Pq;split
 .omega
 .split
  .omega
  .have:=yw need 4 cap (by omega);omega
end
end Go.Abs
