/-
  AbsH: parts of the proof.
-/
import Derived.Test.YtgiedjgdlckahaaGreatDoorTk09
namespace Go.Abs
def firstOf (h:Heap) (size n:Nat):Value->Option (List Value)
 |.slice none _ _=>some []
 |.slice (some ⟨g,off,_⟩) _ _ =>
  match h.get g with
  |some (.cells cs _)=>if off+n*size<=cs.length then some ((cs.drop off).take (n*size)) else none
  |_=>none
 |.string s=>some ((s.extract 0 n).data.toList.map fun b=>.int .u8 b.toNat)
 |.iface s (.tuple ⟨es⟩)=>match es with
  |[]=>some []
  |_::_=>match Nat.beq s size with
   |true=>some (flatC (es.take n))
   |false=>none
 |.iface _ (.bool _)=>some []
 |.iface s (.iface _ (.tuple ⟨es⟩))=>match es with
  |[]=>some []
  |_::_=>match Nat.beq s size with
   |true=>some (flatC (es.take n))
   |false=>none
 |_=>none
def lenOf:Value->Option Nat
 |.slice _ n _=>some n
 |.string s=>some s.size
 |.iface _ (.tuple ⟨es⟩)=>some es.length
 |.iface _ (.bool _)=>some 0
 |.iface _ (.iface _ (.tuple ⟨es⟩))=>some es.length
 |_=>none
def de (h:Heap) (sz:Nat) (s b:Nat) (z:Value) (n:Nat) (new:List Value) (base:Option Addr) (len cap:Nat):Option (Value×Heap) :=
 if n=0 then (if new=[]/\len<=cap then some (.slice base len cap,h) else none)
 else if len+n<=cap then
  match base with
  |some ⟨g,off,sp⟩ =>
   match h.get g with
   |some (.cells cs false) =>
    if (off+len*s+new.length<=cs.length\/(sp=some s/\off+len*s<=cs.length/\new.length=n*s))/\new.all Value.oneCell'=true then
     some (.slice (some ⟨g,off,sp⟩) (len+n) cap,h.upd g (.cells (bp cs (off+len*s) new) false))
    else none
   |_=>none
  |none=>none
 else if 0<b/\(len+n)*b<=2 ^ 47/\z.cells.size=s/\new.length=n*s/\new.all Value.oneCell'=true then
  match base with
  |none=>some (.slice (some ⟨sz,0,some s⟩) (len+n) (len+n),h.push (.cells new false))
  |some ⟨g,off,none⟩ =>
   match h.get g with
   |some (.cells cs _) =>
    if off+len*s<=cs.length then
     some (.slice (some ⟨sz,0,some s⟩) (len+n) (len+n),h.push (.cells ((cs.drop off).take (len*s)++new) false))
    else none
   |_=>none
  |some ⟨g,off,some s'⟩ =>
   match h.get g with
   |some (.cells cs false) =>
    if off+len*s<=cs.length/\s'=s then
     some (.slice (some ⟨sz,0,some s⟩) (len+n) (len+n),(h.upd g .dead).push (.cells ((cs.drop off).take (len*s)++new) false))
    else none
   |_=>none
 else none
def mF (h:Heap) (n:Nat) (new:List Value) (base:Option Addr) (len:Nat):Option (Value×Heap) :=
 if new=[] then some (goInt n,h) else
 match base with
 |none=>none
 |some ⟨g,off,_⟩ =>
  match h.get g with
  |some (.cells cs false) =>
   if off+new.length<=cs.length/\new.all Value.oneCell'=true/\0<len then
    some (goInt n,h.upd g (.cells (bp cs off new) false))
   else none
  |_=>none
def kr (h:Heap) (new:List Value) (base:Option Addr) (len:Nat):Option (Value×Heap) :=
 if len=0 then some (.tuple #[],h) else
 match base with
 |none=>none
 |some ⟨g,off,_⟩ =>
  match h.get g with
  |some (.cells cs false) =>
   if off+new.length<=cs.length/\new.all Value.oneCell'=true then
    some (.tuple #[],h.upd g (.cells (bp cs off new) false))
   else none
  |_=>none
def eB:TypeDesc->Bool
 |.int _=>false
 |_=>true
def xz (h:Heap) (x:Value):Option (Value×Heap) :=
 match x with
 |.pointer (some ⟨g,0,none⟩) =>
  match h.get g with
  |some (.iter s pos) =>
   if pos<s.size then some (.tuple #[.bool true,goInt pos,.int .i32 (Utf8.decode s pos).1],h.upd g (.iter s (pos+(Utf8.decode s pos).2)))
   else some (.tuple #[.bool false],h)
  |_=>none
 |_=>none
def An (P:Program) (h:Heap) (kt:TypeId) (kd:TypeDesc) (m k v:Value):Option (Value×Heap) :=
 match m with
 |.map (some g) =>
  match h.get g with
  |some (.map es) =>
   match nm P kt kd k es 0 with
   |some (some (i,_))=>some (undef,h.upd g (.map (es.set i (k,v))))
   |some none=>some (undef,h.upd g (.map (es++[(k,v)])))
   |none=>none
  |_=>none
 |_=>none
def fO (P:Program) (ρ:Operand->Value) (o:Oper) (h:Heap) (sz:Nat):Option (Value×Heap) :=
 match o.op with
 |.store t a x =>
  match ρ a with
  |.pointer (some ⟨g,off,none⟩) =>
   match h.get g with
   |some (.cells cs false) =>
    if aQ P t=some (ρ x).cells.toList.length/\off+(ρ x).cells.toList.length<=cs.length/\(ρ x).cells.toList.all Value.oneCell'=true then
     some (undef,h.upd g (.cells (bp cs off (ρ x).cells.toList) false))
    else none
   |_=>none
  |_=>none
 |.call { callee:=.builtin b,argTypes,args } =>
  match b,argTypes.toList,args.toList.map ρ with
  |.append,[ts,tx],[.slice base len cap,x] =>
   match P.underlying ts,P.underlying tx with
   |some (.slice e),some d =>
    if eB d then
     match aQ P e,kJ P e,zeroOf P e,lenOf x with
     |some s,some b,some z,some n =>
      match firstOf h s n x with
      |none=>none
      |some new=>de h sz s b z n new base len cap
     |_,_,_,_=>none
    else none
   |_,_=>none
  |.append,[ts,tx],[.iface i (.tuple es),x] =>
   match P.underlying ts,P.underlying tx with
   |some (.slice e),some d =>
    if eB d then
     match aQ P e,lenOf x with
     |some _,some n=>match n with
      |0=>some (.iface i (.tuple es),h)
      |_+1=>none
     |_,_=>none
    else none
   |_,_=>none
  |.append,[ts,tx],[.iface i (.bool u),x] =>
   match P.underlying ts,P.underlying tx with
   |some (.slice e),some d =>
    if eB d then
     match aQ P e,kJ P e,zeroOf P e,lenOf x with
     |some s,some b,some z,some n =>
      match n with
      |0=>some (.iface i (.bool u),h)
      |n+1=>match firstOf h s (n+1) x with
       |none=>none
       |some new=>de h sz s b z (n+1) new none 0 0
     |_,_,_,_=>none
    else none
   |_,_=>none
  |.copy,[td,_],[.slice base len _,x] =>
   match P.underlying td with
   |some (.slice e) =>
    match aQ P e,lenOf x with
    |some s,some n =>
     match firstOf h s (Nat.min n len) x with
     |some new=>mF h (Nat.min n len) new base len
     |none=>none
    |_,_=>none
   |_=>none
  |.clear,[td],[.slice base len _] =>
   match P.underlying td with
   |some (.slice e) =>
    match zeroOf P e with
    |some z=>if z.cells.all aJ=true then kr h (iw z.cells (len*z.cells.size)).toList base len else none
    |none=>none
   |_=>none
  |_,_,_=>none
 |.next x true=>xz h (ρ x)
 |.mapUpdate t m k v =>
  match P.underlying t with
  |some (.map kt _) =>
   match P.underlying kt with
   |some kd=>if lD P kt kd (ρ k) then An P h kt kd (ρ m) (ρ k) (ρ v) else none
   |none=>none
  |_=>none
 |_=>none
def dp (P:Program) (ρ:Operand->Value) (o:Oper) (h:Heap):Option (Value×Heap):=fO P ρ o h h.size
section
variable {N:Nat} {P:Program} {ι:Inj} {h:Heap} {w:World}
theorem lb {x x':Value} (r:VRel ι x x') {n:Nat} (e:lenOf x=some n):(Builtin.lenOf x').run P w=.ok n w:=by
 cases r <;> simp[lenOf] at e <;> subst e <;> simp[Builtin.lenOf]
theorem aS.bytes (bs:List UInt8):aS ι (bs.map fun b=>Value.int .u8 b.toNat) (bs.map fun b=>Value.int .u8 b.toNat) :=
 aS.lL rfl fun i v v' e e'=>by
  rw[e] at e';cases e';simp only[List.getElem?_map] at e
  cases q:bs[i]? with
  |none=>simp[q] at e
  |some b=>simp[q] at e;subst e;exact .int _ _
theorem qo (H:HRel N ι h w) {x x':Value} (r:VRel ι x x') {s n:Nat}{new:List Value} (e:firstOf h s n x=some new) (hn:∀ m,lenOf x=some m->n<=m) (hfn:∀ s j es,x≠.iface s (.iface j (.tuple ⟨es⟩))) :
  ∃ new',(Builtin.firstCells s n x').run P w=.ok new' w/\aS ι new new'.toList:=by
 cases r <;> try (simp[firstOf] at e;done)
 case fnNil s0=>exact absurd rfl (hfn _ _ _)
 case fn s0 es b o cap hne hr=>exact absurd rfl (hfn _ _ _)
 case fcNil s0=>exact absurd rfl (hfn _ _ _)
 case fcEmpty s0 a=>exact absurd rfl (hfn _ _ _)
 case fc s0 es b o hne hr=>exact absurd rfl (hfn _ _ _)
 case flNil s0 =>
  simp only[firstOf,Option.some.injEq] at e
  subst e
  exact⟨#[],by simp[Builtin.firstCells],aS.nil ι⟩
 case flEmpty s0 a cap =>
  have hn0:n=0:=by have:=hn 0 rfl;omega
  subst hn0
  simp only[firstOf,Option.some.injEq] at e
  subst e
  exact⟨#[],by simp[Builtin.firstCells,loadCells,loadCellsFrom],aS.nil ι⟩
 case fe a =>
  have hn0:n=0:=by have:=hn 0 rfl;omega
  subst hn0
  simp only[firstOf,Option.some.injEq] at e
  subst e
  exact⟨#[],by simp[Builtin.firstCells,loadCells,loadCellsFrom],aS.nil ι⟩
 case fl s0 es b o cap C h0 h1 h2 h3 h4 h5 =>
  simp only[firstOf] at e
  split at e
  ·exact absurd rfl h1
  split at e
  ·rename_i hb
   have hss:s0=s:=Nat.eq_of_beq_eq_true hb
   subst hss
   simp only[Option.some.injEq] at e
   subst e
   rename_i e0 es0 _
   generalize hes:e0::es0=es at *
   have hn':n<=es.length:=hn _ rfl
   obtain⟨ty,fr,hbk⟩:=H.frz b C h0
   have hmul:n*s0<=es.length*s0:=Nat.mul_le_mul_right _ hn'
   refine⟨_,by simp only[Builtin.firstCells];exact run_loadCells w _ (n*s0) (fun j=>C.getD (o+j) undef) (fun j hj=>by
    rw[cj]
    have:o+j<C.size:=by omega
    simp[World.cell?,hbk,Array.getD_eq_getD_getElem?,Array.getElem?_eq_getElem this]),?_⟩
   rw[py h3]
   refine aS.lL (by rw[List.length_take,ba h3,List.length_map,List.length_range,Nat.min_eq_left hmul]) fun j u v e1 e2=>?_
   rw[List.getElem?_take] at e1
   split at e1
   ·rename_i hj
    simp only[List.getElem?_map,List.getElem?_range hj,Option.map_some,Option.some.injEq] at e2
    subst e2
    have:=h5 j (by omega)
    simpa[List.getD,e1] using this
   ·cases e1
  ·cases e
 case sliceNil =>
  simp only[firstOf,Option.some.injEq] at e
  subst e
  exact⟨#[],by simp[Builtin.firstCells],aS.nil ι⟩
 case str b =>
  simp only[firstOf,Option.some.injEq] at e
  subst e
  refine⟨_,by simp only[Builtin.firstCells,Sem.run_pure];rfl,?_⟩
  simp only[Array.toList_map]
  exact aS.bytes _
 case slice g off len cap o l hl hle ho =>
  simp only[firstOf] at e
  cases hg:h.get g with
  |none=>simp[hg] at e
  |some ob =>
   cases ob <;> try (simp[hg] at e;done)
   rename_i cs ro;simp only[hg] at e;split at e
   ·rename_i hc;simp only[Option.some.injEq] at e;subst e;have hnl:=hn len rfl;by_cases q:n*s=0
    ·refine⟨#[],by simp[Builtin.firstCells,q,loadCells,loadCellsFrom],?_⟩;rw[q];simpa using aS.nil ι
    ·have hn0:n≠0:=by intro z;subst z;simp at q
     have:=ho (by omega);subst this;obtain⟨vs,q1,q2⟩:=H.loadCells (P:=P) hl hg hc;refine⟨vs,by simp only[Builtin.firstCells];exact q1,?_⟩;have:=q2.list;simpa using this
   ·cases e
 case sliceOpen g off sp len cap cap' o l hl hle hcap ho htot =>
  simp only[firstOf] at e
  cases hg:h.get g with
  |none=>simp[hg] at e
  |some ob =>
   cases ob <;> try (simp[hg] at e;done)
   rename_i cs ro;simp only[hg] at e;split at e
   ·rename_i hc;simp only[Option.some.injEq] at e;subst e;have hnl:=hn len rfl;by_cases q:n*s=0
    ·refine⟨#[],by simp[Builtin.firstCells,q,loadCells,loadCellsFrom],?_⟩;rw[q];simpa using aS.nil ι
    ·have hn0:n≠0:=by intro z;subst z;simp at q
     have:=ho (by omega);subst this;obtain⟨vs,q1,q2⟩:=H.loadCells (P:=P) hl hg hc;refine⟨vs,by simp only[Builtin.firstCells];exact q1,?_⟩;have:=q2.list;simpa using this
   ·cases e
theorem fX (H:HRel N ι h w) {x x':Value} (r:VRel ι x x') {s n:Nat}{new:List Value} (e:firstOf h s n x=some new) (hn:∀ m,lenOf x=some m->n<=m) :
  ∃ new',(Builtin.firstCells s n x').run P w=.ok new' w/\aS ι new new'.toList:=by
 by_cases q:∃ s j es,x=.iface s (.iface j (.tuple ⟨es⟩))
 ·obtain⟨s0,j,es,rfl⟩:=q;exact qo H r.ER e hn (by intro s j es e;cases e)
 ·exact qo H r e hn (fun s j es e=>q ⟨s,j,es,e⟩)
theorem xa (newLen:Nat):∀ (r c:Nat),c<=newLen->Builtin.growBy newLen r c<=newLen+(newLen+768)/4
 |0,c,h=>by unfold Builtin.growBy;omega
 |r+1,c,h=>by
  unfold Builtin.growBy;split
  ·omega
  ·by_cases q:c+(c+768)/4<=newLen
   ·exact xa newLen r _ q
   ·cases r with
    |zero=>unfold Builtin.growBy;omega
    |succ r =>
     unfold Builtin.growBy;rw[if_pos (by omega)];omega
theorem nextslicecap_le (need cap:Nat) (h:cap<need):Builtin.nextslicecap need cap<=2*need:=by
 unfold Builtin.nextslicecap;split
 ·omega
 ·split
  ·omega
  ·have:=xa need 4 cap (by omega);omega
end
end Go.Abs
