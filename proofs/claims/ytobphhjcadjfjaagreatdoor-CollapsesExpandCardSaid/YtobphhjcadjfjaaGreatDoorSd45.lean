/-
  Base, Logic, Logic3, Door, Uf, Fl1, Circ1, Man1, Circ2, Circ3, Circ4, Man2, Short, N1: parts of the proof.
-/
import Derived.Test.YtobphhjcadjfjaaGreatDoorSd44
import Derived.Test.YtobphhjcadjfjaaGreatDoorProg
import Derived.KernelRfl
import Derived.Test.YtobphhjcadjfjaaGreatDoorTie
import Derived.LaidMore
import Derived.Stop.Joined
import Derived.ChangeAt
import Derived.SevenTiedAt
namespace Go.Proofs.YtobphhjcadjfjaaGreatDoor
open Go.Abs
set_option maxRecDepth 100000
abbrev NG:Nat:=2
def u8 (a:Int):Value:=.int .u8 a
theorem hM:Tryz.prog.follows .mixedOrders=true:=by kernel_rfl
theorem Fc:Tryz.prog.funcs.toList.all (kT 2)=true:=by kernel_rfl
theorem hP (f:FuncId) (fn:Func) (_:([]:List FuncId).contains f=false) (h:Tryz.prog.funcs[f]?=some fn):kT 2 fn=true:=by
 have:=List.all_eq_true.1 Fc fn (by
  have:=Array.mem_of_getElem? h
  simpa using this)
 exact this
def i2 (a b:Int):List Value:=[.int .i64 a,.int .i64 b]
def sx:List Value:=i2 0 0++i2 0 0++i2 0 0++i2 1 1++i2 1 1++i2 2 16++i2 2 16++i2 2 16++i2 2 16++i2 2 16++i2 2 16++i2 3 3++i2 2 2++i2 1 16++i2 1 1++i2 0 0
def vars:List AObj:=[.cells sx true,.dead]
def isTrue:Option (Value×Heap)->Bool
 |some (.bool true,_)=>true
 |_=>false
theorem rH {x:Option (Value×Heap)} (h:isTrue x=true):∃ h',x=some (.bool true,h'):=by
 unfold isTrue at h
 split at h
 ·exact⟨_,rfl⟩
 ·cases h
def bare:List AObj:=List.replicate NG .dead
noncomputable def wx (l:List AObj) (f:FuncId) (vs:Array Value):Option Value:=(qF Tryz.prog [] (po Tryz.prog) 60 f vs (eX l)).map (·.1)
theorem xk {l:List AObj}{f:FuncId}{vs:Array Value}{v:Value} (e:wx l f vs=some v):∃ h',CallD Tryz.prog NG f vs (eX l) v h':=by
 unfold wx at e
 cases q:qF Tryz.prog [] (po Tryz.prog) 60 f vs (eX l) with
 |none=>simp[q] at e
 |some r =>
  obtain⟨v',h'⟩:=r
  simp[q] at e
  subst e
  exact⟨h',(jI hM hP (fun f vs h v e=>kL f vs h v e) 60 _ _ _ _ _ q).1⟩
theorem xS {h:Heap} (hs:NG<=h.size):Bears NG (eX bare) h:=by
 refine⟨rfl,hs,fun g o e=>.inl ?_⟩
 rw[dU] at e
 have:=List.mem_of_getElem? e
 simp only[bare,List.mem_replicate] at this
 exact this.2
theorem DB {f:FuncId}{vs:Array Value}{v:Value}{h:Heap} (e:wx bare f vs=some v) (h1:vs.all plain=true) (h2:iD v=true):CallD Tryz.prog NG f vs h v h:=by
 obtain⟨h',c⟩:=xk e
 exact CallD.sized fun hs=>c.lift h1 h2 (xS hs)
variable {h:Heap}
def B7 (h:Heap):Prop:=h.get 0=some (.cells sx true)
theorem BD {g:Nat}{o:AObj} (e:vars[g]?=some o):o=.dead\/(g=0/\o=.cells sx true):=by
 match g,e with
 |0,e=>simp only[vars,List.getElem?_cons_zero,Option.some.injEq] at e;exact .inr ⟨rfl,e.symm⟩
 |1,e=>simp only[vars,List.getElem?_cons_succ,List.getElem?_cons_zero,Option.some.injEq] at e;exact .inl e.symm
theorem nz {h:Heap} (hs:NG<=h.size) (v:B7 h):Bears NG (eX vars) h:=by
 refine⟨rfl,hs,fun g o e=>?_⟩
 rw[dU] at e
 rcases BD e with rfl|⟨rfl,rfl⟩
 ·exact .inl rfl
 ·exact .inr ⟨_,rfl,v,by kernel_rfl⟩
theorem DJ {f:FuncId}{vs:Array Value}{v:Value}{h:Heap} (hv:B7 h) (e:wx vars f vs=some v) (h1:vs.all plain=true) (h2:iD v=true):CallD Tryz.prog NG f vs h v h:=by
 obtain⟨h',c⟩:=xk e
 exact CallD.sized fun hs=>c.lift h1 h2 (nz hs hv)
theorem kinds {k:Int} (h:0<=k):k=0\/k=1\/k=2\/k=3\/k=4\/k=5\/k=6\/k=7\/k=8\/k=9\/k=10\/k=11\/k=12\/k=13\/k=14\/k=15\/∃ n:Nat,k=Int.ofNat (n+16):=by
 by_cases c:k<16
 ·omega
 ·iterate 16 refine .inr ?_
  exact⟨(k-16).toNat,by simp only[Int.ofNat_eq_natCast];omega⟩
def loL (k:Int):Int:=if k<16 then ([0,0,0,1,1,2,2,2,2,2,2,3,2,1,1,0]:List Int).getD k.toNat 0 else 0
def hiL (k:Int):Int:=if k<16 then ([0,0,0,1,1,16,16,16,16,16,16,3,2,16,1,0]:List Int).getD k.toNat 0 else -1
theorem zc (n:Nat):loL (Int.ofNat (n+16))=0:=by unfold loL;rw[if_neg (by simp only[Int.ofNat_eq_natCast];omega)]
theorem CJ (n:Nat):hiL (Int.ofNat (n+16)) = -1:=by unfold hiL;rw[if_neg (by simp only[Int.ofNat_eq_natCast];omega)]
theorem CC {k:Int} (hk:0<=k) (hk2:k<256) {h:Heap} (hv:B7 h):CallD Tryz.prog NG 91 #[u8 k] h (.tuple #[.int .i64 (loL k),.int .i64 (hiL k)]) h:=by
 rcases kinds hk with rfl|rfl|rfl|rfl|rfl|rfl|rfl|rfl|rfl|rfl|rfl|rfl|rfl|rfl|rfl|rfl|⟨n,rfl⟩
 iterate 16 exact DJ hv (by kernel_rfl) (by kernel_rfl) (by kernel_rfl)
 rw[zc,CJ]
 refine fnP hM Tryz.func91 rfl (hP _ _ rfl Tryz.func91) (lbE rfl) (by kernel_rfl) ?_;(conv=>whnf);repeat(first|apply Cs|apply Rs|apply Rx);conv=>whnf
 refine⟨_,iw rfl rfl rfl (IntWalk.i64_in _ (by omega)),?_⟩
 ((conv=>whnf);repeat(first|apply Cs|apply Rs|apply Rx);conv=>whnf)
 refine⟨true,rfl,fun _=>?_,fun hc=>by cases hc⟩
 ((conv=>whnf);repeat(first|apply Cs|apply Rs|apply Rx);conv=>whnf)
 exact⟨rfl,Ext.refl _⟩
variable {h:Heap} {a:Option Addr} {n cap:Nat} {l:List Int}
theorem dC {a b:Int} (h:ltI a b=true):a<b:=by rw[dn] at h;simpa using h
theorem dB {a b:Int} (h:ltI a b=false):b<=a:=by rw[dn] at h;simpa using h
end Go.Proofs.YtobphhjcadjfjaaGreatDoor

namespace Go.Proofs.YtobphhjcadjfjaaGreatDoor
open Go.Abs Go.ChangeShapes Go.RowKit Go.ChangeAt
set_option maxRecDepth 100000
theorem own:ownKnob Tryz.prog.godebug=none:=by kernel_rfl
theorem laidOut:laidOutB Tryz.prog=true:=by kernel_rfl
def laid : List (String × DataW Unit) := [("probecard/logic.fanins", Rows.laid_probecard_logic_fanins)]
theorem zH : Tryz.prog.globalNamed "probecard/logic.fanins" = some 0 := by kernel_rfl
theorem Cq (os:Os) (args:Array Value):laidMetH Tryz.prog laid ((World.doorLaid Tryz.prog 400 os).forCall (fun _ _=>0) ⟨#[],args,[]⟩).memory :=
 laidMetH_of_parts3 (fuel:=8) (laidMet_of_run' 8 (by kernel_rfl) (by kernel_rfl)) (by kernel_rfl) (by kernel_rfl)
theorem AO:zZ Tryz.prog 5 (((Tryz.prog.globals[0]?).map (·.type)).getD 0)=true:=by kernel_rfl
theorem yT:flat (H:=Unit) Rows.laid_probecard_logic_fanins=some sx:=by kernel_rfl
theorem Ds {W:World} (h:laidMetH Tryz.prog laid W) (i:Nat):W.cell? ⟨0,i,none⟩=sx[i]?:=by
 rw[MakeChecks.laidMetH_plain _ _ _ (by kernel_rfl)] at h
 obtain⟨ps,⟨g0,t0,cs0,f0,p0,q0,hg0,ht0,hv0,hd0,_⟩,_,_⟩:=h
 have ht:t0=(((Tryz.prog.globals[0]?).map (·.type)).getD 0):=by
  obtain rfl:=Option.some.inj (zH.symm.trans hg0)
  rw[ht0];rfl
 subst ht
 obtain rfl:=Option.some.inj (zH.symm.trans hg0)
 exact yI hg0 hv0 hd0 AO yT i
theorem block {W:World} (h:W.ShapedOpen Tryz.prog) (g:Nat) (hg:g<Tryz.prog.globals.size) (hb:(((begin Tryz.prog (fun _ _=>0) default).world.heap[g]?).bind Obj.row?).isSome=true):∃ C ty fr,W.heap[g]?=some (.cells C ty fr):=by
 obtain⟨⟨zero,t⟩,e⟩:=Option.isSome_iff_exists.1 hb
 obtain⟨cs,h1,_⟩:=h.1 g zero t hg e
 exact⟨cs,t,_,h1⟩
theorem start {W:World} (hsh:W.ShapedOpen Tryz.prog) (hl:laidMetH Tryz.prog laid W):∃ l0 l1:Abs.Loc,HRel 2 (jo [l0,l1] W) (eX vars) W:=by
 obtain⟨C0,ty0,fr0,h0⟩:=block hsh 0 (of_decide_eq_true (by kernel_rfl)) (by kernel_rfl)
 obtain⟨C1,ty1,fr1,h1⟩:=block hsh 1 (of_decide_eq_true (by kernel_rfl)) (by kernel_rfl)
 have lt:∀ (g:Nat) (C:Array Value) (ty:TypeId) (fr:Nat×Nat),W.heap[g]?=some (.cells C ty fr)->g<W.heap.size:=fun g C ty fr e=>(Array.getElem?_eq_some_iff.1 e).1
 refine⟨⟨0,0,C0.size⟩,⟨1,0,C1.size⟩,HRel.start vars [_,_] rfl ?_ ?_ ?_ ?_⟩
 ·intro g hg
  match g,hg with
  |0,_=>exact⟨_,rfl,rfl,rfl⟩
  |1,_=>exact⟨_,rfl,rfl,rfl⟩
 ·intro l hl
  simp only[List.mem_cons,List.not_mem_nil,or_false] at hl
  rcases hl with rfl|rfl
  ·exact lt _ _ _ _ h0
  ·exact lt _ _ _ _ h1
 ·intro g l o e1 e2
  match g,e1,e2 with
  |0,e1,e2 =>
   simp only[List.getElem?_cons_zero,Option.some.injEq] at e1
   simp only[vars,List.getElem?_cons_zero,Option.some.injEq] at e2
   subst e1 e2
   exact ORel.A7 h0 (fun i _=>Ds hl i) (by kernel_rfl)
  |1,e1,e2 =>
   simp only[vars,List.getElem?_cons_zero,List.getElem?_cons_succ,Option.some.injEq] at e2
   subst e2
   trivial
  |g+2,e1,e2=>simp at e1
 ·intro o ho
  simp only[vars,List.mem_cons,List.not_mem_nil,or_false] at ho
  rcases ho with rfl|rfl <;> rfl
theorem CV {H:Type}{enc:TypeId×Value->H}{f:FuncId}{fn:Func}{c:Code}{d:Nat} (L:List (Sh×Bool)) (hfn:Tryz.prog.funcs[f]?=some fn) (hb:fn.body=some c) (hp:so Tryz.prog d fn.params.toList L)
  (call:∀ x:AM L,wfL L x->FnV Tryz.prog NG vars f ⟨Ct L x⟩ (.bool true))
  (W:World) (base:Nat) (args:Array Value) (hsh:W.ShapedOpen Tryz.prog) (_:args.size=fn.params.size)
  (hval:∀ (j:Nat) t v,fn.params[j]?=some t->args[j]?=some v->Value.okWide Tryz.prog W .any base t v) (hl:laidMetH Tryz.prog laid W)
  (hA:∃ (ds:List (DataW H)) (p:List MemPlace),DataW.TrodAll enc Tryz.prog W 0 (fun _=>true) true fn.params.toList args.toList ds p) :
  Calls Tryz.prog f args W fun e W'=>e=.returned (.bool true)/\Below W.heap.size W W':=by
 obtain⟨ds,p,hA⟩:=hA
 obtain⟨l0,l1,H⟩:=start hsh hl
 obtain⟨x,hw,r⟩:=tY (ι:=jo [l0,l1] W) (fun b C ty fr e=>by simp only[jo,e]) fn.params.toList L hp args.toList ds p hA (fun j t v e1 e2=>hval j t v (by simpa using e1) (by simpa using e2))
 refine wO hfn hb ((call x hw).call _ fun i o e=>by rw[dU];exact e) rfl H ?_ ?_
 ·intro o ho
  simp only[vars,List.mem_cons,List.not_mem_nil,or_false] at ho
  rcases ho with rfl|rfl <;> rfl
 ·have:=aU.array r
  simpa using this
theorem BX {n:Int} (h:(Lit.int .u8 n).wf=true):0<=n/\n<256:=by
 simp[Lit.wf,IntKind.min,IntKind.max,IntKind.signed,IntKind.bits] at h
 omega
def RtN (ps:List Nat):Nat->Nat->Nat->Prop
 |0,i,r=>ps[i]?=some i/\i=r
 |n+1,i,r=>∃ j,ps[i]?=some j/\j≠i/\RtN ps n j r
theorem RtN.uniq {ps:List Nat}:∀ {n i r m s},RtN ps n i r->RtN ps m i s->n=m/\r=s
 |0,i,r,0,s,h,g=>⟨rfl,h.2.symm.trans g.2⟩
 |0,i,r,m+1,s,h,g=>by
  obtain⟨j,g1,g2,_⟩:=g
  rw[h.1] at g1;exact absurd (Option.some.inj g1).symm g2
 |n+1,i,r,0,s,h,g=>by
  obtain⟨j,g1,g2,_⟩:=h
  rw[g.1] at g1;exact absurd (Option.some.inj g1).symm g2
 |n+1,i,r,m+1,s,h,g=>by
  obtain⟨j,h1,_,h3⟩:=h
  obtain⟨k,g1,_,g3⟩:=g
  rw[h1] at g1;cases g1
  obtain⟨rfl,rfl⟩:=RtN.uniq h3 g3
  exact⟨rfl,rfl⟩
theorem RtN.root {ps:List Nat}:∀ {n i r},RtN ps n i r->ps[r]?=some r
 |0,_,_,h=>h.2 ▸ h.1
 |_+1,_,_,⟨_,_,_,h⟩=>RtN.root h
theorem RtN.wj {ps:List Nat}{i j k:Nat} (hi:ps[i]?=some j) (hj:ps[j]?=some k) (hne:j≠i):∀ {n x r},RtN ps n x r->∃ m,m<=n/\RtN (ps.set i k) m x r:=by
 have hlt:i<ps.length:=(List.getElem?_eq_some_iff.1 hi).1
 intro n
 induction n using Nat.strongRecOn with
 |_ n ih =>
  intro x r h
  match n,h with
  |0,h =>
   refine⟨0,Nat.le_refl _,?_,h.2⟩
   rw[List.getElem?_set_ne,h.1]
   rintro rfl
   rw[h.1] at hi;exact hne (Option.some.inj hi).symm
  |n+1,⟨y,h1,h2,h3⟩ =>
   by_cases c:i=x
   ·subst c
    rw[hi] at h1;cases h1
    match n,h3 with
    |0,h3 =>
     rw[h3.1] at hj;cases hj
     obtain⟨m,_,hm⟩:=ih 0 (by omega) h3
     obtain⟨rfl,e⟩:m=0/\r=r:=by
      refine⟨?_,rfl⟩
      omega
     exact⟨1,by omega,j,by rw[List.getElem?_set_self hlt],hne,hm⟩
    |n+1,⟨k',g1,g2,g3⟩ =>
     rw[hj] at g1;cases g1
     have hk:k≠i:=by
      rintro rfl
      have:=(RtN.uniq g3 (show RtN ps (n+2) k r from⟨j,hi,hne,k,hj,g2,g3⟩)).1
      omega
     obtain⟨m,hm1,hm⟩:=ih n (by omega) g3
     exact⟨m+1,by omega,k,by rw[List.getElem?_set_self hlt],hk,hm⟩
   ·obtain⟨m,hm1,hm⟩:=ih n (by omega) h3
    exact⟨m+1,by omega,y,by rw[List.getElem?_set_ne c,h1],h2,hm⟩
def Rt (ps:List Nat) (i r:Nat):Prop:=∃ n,RtN ps n i r
theorem Rt.uniq {ps:List Nat}{i r s:Nat} (h:Rt ps i r) (g:Rt ps i s):r=s:=by
 obtain⟨n,h⟩:=h
 obtain⟨m,g⟩:=g
 exact (RtN.uniq h g).2
theorem Rt.root {ps:List Nat}{i r:Nat} (h:Rt ps i r):ps[r]?=some r:=by
 obtain⟨n,h⟩:=h
 exact h.root
theorem Rt.self {ps:List Nat}{r:Nat} (h:ps[r]?=some r):Rt ps r r:=⟨0,h,rfl⟩
theorem Rt.lt {ps:List Nat}{i r:Nat} (h:Rt ps i r):r<ps.length:=(List.getElem?_eq_some_iff.1 h.root).1
theorem Rt.lt1 {ps:List Nat}{i r:Nat}:Rt ps i r->i<ps.length
 |⟨0,h⟩=>(List.getElem?_eq_some_iff.1 h.1).1
 |⟨_+1,_,h,_⟩=>(List.getElem?_eq_some_iff.1 h).1
def Fo (ps:List Nat):Prop:=∀ i,i<ps.length->∃ r,Rt ps i r
structure SameR (ps qs:List Nat):Prop where
 len:qs.length=ps.length
 rt:∀ i r,Rt ps i r->Rt qs i r
theorem SameR.refl (ps:List Nat):SameR ps ps:=⟨rfl,fun _ _ h=>h⟩
theorem SameR.trans {a b d:List Nat} (h:SameR a b) (g:SameR b d):SameR a d:=⟨g.len.trans h.len,fun i r q=>g.rt i r (h.rt i r q)⟩
theorem SameR.fo {ps qs:List Nat} (h:SameR ps qs) (F:Fo ps):Fo qs:=fun i hi=>by
 obtain⟨r,hr⟩:=F i (h.len ▸ hi)
 exact⟨r,h.rt i r hr⟩
theorem SameR.back {ps qs:List Nat} (h:SameR ps qs) (F:Fo ps) {i r:Nat} (g:Rt qs i r):Rt ps i r:=by
 obtain⟨s,hs⟩:=F i (h.len ▸ g.lt1)
 have:=(h.rt i s hs).uniq g
 exact this ▸ hs
theorem SameR.wj {ps:List Nat}{i j k:Nat} (hi:ps[i]?=some j) (hj:ps[j]?=some k) (hne:j≠i):SameR ps (ps.set i k) :=
 ⟨List.length_set ..,fun x r ⟨n,h⟩=>by
  obtain⟨m,_,hm⟩:=RtN.wj hi hj hne h
  exact⟨m,hm⟩⟩
theorem RtN.link {ps:List Nat}{a b:Nat} (ha:ps[a]?=some a) (hb:ps[b]?=some b) (hne:a≠b):∀ {n i r},RtN ps n i r->Rt (ps.set a b) i (if r=a then b else r)
 |0,i,r,h=>by
  obtain⟨h1,rfl⟩:=h
  have hl:a<ps.length:=(List.getElem?_eq_some_iff.1 ha).1
  by_cases c:i=a
  ·subst c
   rw[if_pos rfl]
   exact⟨1,b,by rw[List.getElem?_set_self hl],fun e=>hne e.symm,by rw[List.getElem?_set_ne hne,hb],rfl⟩
  ·rw[if_neg c]
   exact Rt.self (by rw[List.getElem?_set_ne (fun e=>c e.symm),h1])
 |n+1,i,r,⟨j,h1,h2,h3⟩=>by
  obtain⟨m,hm⟩:=RtN.link ha hb hne h3
  have c:a≠i:=by
   rintro rfl
   rw[ha] at h1;exact h2 (Option.some.inj h1).symm
  exact⟨m+1,j,by rw[List.getElem?_set_ne c,h1],h2,hm⟩
theorem Rt.link {ps:List Nat}{a b:Nat} (ha:ps[a]?=some a) (hb:ps[b]?=some b) {i r:Nat} (h:Rt ps i r):Rt (ps.set a b) i (if r=a then b else r):=by
 by_cases c:a=b
 ·subst c
  have hl:a<ps.length:=(List.getElem?_eq_some_iff.1 ha).1
  have e:ps.set a a=ps:=by
   apply List.ext_getElem?
   intro j
   by_cases q:a=j
   ·subst q;rw[List.getElem?_set_self hl,ha]
   ·rw[List.getElem?_set_ne q]
  rw[e]
  split
  ·rename_i q;exact q ▸ h
  ·exact h
 ·obtain⟨n,h⟩:=h
  exact h.link ha hb c
inductive Cn {α:Type} (E:α->α->Prop):α->α->Prop
 |refl (a:α):Cn E a a
 |fwd {a b d:α}:E a b->Cn E b d->Cn E a d
 |bwd {a b d:α}:E b a->Cn E b d->Cn E a d
theorem Cn.trans {α:Type}{E:α->α->Prop}{a b d:α} (h:Cn E a b) (g:Cn E b d):Cn E a d:=by
 induction h with
 |refl=>exact g
 |fwd e _ ih=>exact .fwd e (ih g)
 |bwd e _ ih=>exact .bwd e (ih g)
theorem Cn.one {α:Type}{E:α->α->Prop}{a b:α} (h:E a b):Cn E a b:=.fwd h (.refl _)
theorem Cn.symm {α:Type}{E:α->α->Prop}{a b:α} (h:Cn E a b):Cn E b a:=by
 induction h with
 |refl=>exact .refl _
 |fwd e _ ih=>exact ih.trans (.bwd e (.refl _))
 |bwd e _ ih=>exact ih.trans (.fwd e (.refl _))
theorem Cn.mono {α:Type}{E F:α->α->Prop} (hE:∀ a b,E a b->F a b) {a b:α} (h:Cn E a b):Cn F a b:=by
 induction h with
 |refl=>exact .refl _
 |fwd e _ ih=>exact .fwd (hE _ _ e) ih
 |bwd e _ ih=>exact .bwd (hE _ _ e) ih
theorem Cn.inv {α β:Type}{E:α->α->Prop}{f:α->β} (hE:∀ a b,E a b->f a=f b) {a b:α} (h:Cn E a b):f a=f b:=by
 induction h with
 |refl=>rfl
 |fwd e _ ih=>exact (hE _ _ e).trans ih
 |bwd e _ ih=>exact (hE _ _ e).symm.trans ih
theorem Cn.add {α:Type}{E:α->α->Prop}{x y a b:α} (h:Cn (fun u v=>E u v\/u=x/\v=y) a b):Cn E a b\/(Cn E a x\/Cn E a y)/\(Cn E b x\/Cn E b y):=by
 induction h with
 |refl=>exact .inl (.refl _)
 |fwd e _ ih =>
  rcases e with e|⟨rfl,rfl⟩
  ·rcases ih with ih|⟨h1,h2⟩
   ·exact .inl (.fwd e ih)
   ·exact .inr ⟨h1.imp (.fwd e) (.fwd e),h2⟩
  ·rcases ih with ih|⟨h1,h2⟩
   ·exact .inr ⟨.inl (.refl _),.inr ih.symm⟩
   ·exact .inr ⟨.inl (.refl _),h2⟩
 |bwd e _ ih =>
  rcases e with e|⟨rfl,rfl⟩
  ·rcases ih with ih|⟨h1,h2⟩
   ·exact .inl (.bwd e ih)
   ·exact .inr ⟨h1.imp (.bwd e) (.bwd e),h2⟩
  ·rcases ih with ih|⟨h1,h2⟩
   ·exact .inr ⟨.inr (.refl _),.inl ih.symm⟩
   ·exact .inr ⟨.inr (.refl _),h2⟩
structure UfI {α:Type} (V:α->Prop) (num:α->Nat) (E:α->α->Prop) (ps:List Nat) (np:Nat):Prop where
 len:ps.length=np
 fo:Fo ps
 lt:∀ a,V a->num a<np
 cn:∀ a b r s,V a->V b->Rt ps (num a) r->Rt ps (num b) s->(r=s↔Cn E a b)
theorem UfI.same {α:Type}{V:α->Prop}{num:α->Nat}{E:α->α->Prop}{ps qs:List Nat}{np:Nat} (U:UfI V num E ps np) (h:SameR ps qs):UfI V num E qs np :=
 ⟨h.len.trans U.len,h.fo U.fo,U.lt,fun a b r s ha hb h1 h2=>U.cn a b r s ha hb (h.back U.fo h1) (h.back U.fo h2)⟩
theorem UfI.join {α:Type}{V:α->Prop}{num:α->Nat}{E:α->α->Prop}{ps:List Nat}{np:Nat} (U:UfI V num E ps np) {x y:α} (hx:V x) (hy:V y) {rx ry:Nat} (h1:Rt ps (num x) rx) (h2:Rt ps (num y) ry) :
  UfI V num (fun u v=>E u v\/u=x/\v=y) (ps.set rx ry) np:=by
 have R:=@Rt.link ps rx ry h1.root h2.root
 refine⟨(List.length_set ..).trans U.len,fun i hi=>?_,U.lt,fun a b r s ha hb g1 g2=>?_⟩
 ·rw[List.length_set] at hi
  obtain⟨r,hr⟩:=U.fo i hi
  exact⟨_,R hr⟩
 ·obtain⟨r0,hr0⟩:=U.fo (num a) (U.len ▸ U.lt a ha)
  obtain⟨s0,hs0⟩:=U.fo (num b) (U.len ▸ U.lt b hb)
  have e1:=g1.uniq (R hr0)
  have e2:=g2.uniq (R hs0)
  have hE:∀ u v,Cn E u v->Cn (fun u v=>E u v\/u=x/\v=y) u v:=fun u v h=>h.mono fun _ _ h=>.inl h
  have hxy:Cn (fun u v=>E u v\/u=x/\v=y) x y:=.one (.inr ⟨rfl,rfl⟩)
  have ax:=U.cn a x r0 rx ha hx hr0 h1
  have ay:=U.cn a y r0 ry ha hy hr0 h2
  have bx:=U.cn b x s0 rx hb hx hs0 h1
  have by_:=U.cn b y s0 ry hb hy hs0 h2
  have ab:=U.cn a b r0 s0 ha hb hr0 hs0
  constructor
  ·intro e
   rw[e1,e2] at e
   by_cases c1:r0=rx
   ·by_cases c2:s0=rx
    ·exact hE _ _ (ab.1 (c1.trans c2.symm))
    ·rw[if_pos c1,if_neg c2] at e
     exact (hE _ _ (ax.1 c1)).trans (hxy.trans (hE _ _ (by_.1 e.symm)).symm)
   ·by_cases c2:s0=rx
    ·rw[if_neg c1,if_pos c2] at e
     exact (hE _ _ (ay.1 e)).trans (hxy.symm.trans (hE _ _ (bx.1 c2)).symm)
    ·rw[if_neg c1,if_neg c2] at e
     exact hE _ _ (ab.1 e)
  ·intro h
   rw[e1,e2]
   rcases h.add with h|⟨h1,h2⟩
   ·rw[ab.2 h]
   ·have key:∀ (z z0:Nat),(z=rx\/z=ry)->(if z=rx then ry else z)=ry:=by
     intro z _ h
     rcases h with rfl|rfl
     ·rw[if_pos rfl]
     ·split <;> rfl
    rw[key r0 0 (h1.imp ax.2 ay.2),key s0 0 (h2.imp bx.2 by_.2)]
def kJ {α:Type} (down:α->Option α):Nat->α->α
 |0,a=>a
 |n+1,a=>match down a with|some b=>kJ down n b|none=>a
theorem vL {α:Type}{down:α->Option α}:∀ n a,Cn (fun u v=>down u=some v) a (kJ down n a)
 |0,a=>.refl _
 |n+1,a=>by
  rw[kJ]
  cases h:down a with
  |none=>exact .refl _
  |some b=>exact .fwd h (vL n b)
theorem tK {α:Type}{down:α->Option α}{μ:α->Nat} (hμ:∀ a b,down a=some b->μ b<μ a):∀ n a m,μ a<=n->μ a<=m->kJ down n a=kJ down m a
 |0,a,m,h,_=>by
  have:down a=none:=by
   cases e:down a with
   |none=>rfl
   |some b=>have:=hμ a b e;omega
  cases m with
  |zero=>rfl
  |succ m=>rw[kJ,kJ,this]
 |n+1,a,0,_,h=>by
  have:down a=none:=by
   cases e:down a with
   |none=>rfl
   |some b=>have:=hμ a b e;omega
  rw[kJ,kJ,this]
 |n+1,a,m+1,h1,h2=>by
  rw[kJ,kJ]
  cases e:down a with
  |none=>rfl
  |some b=>have:=hμ a b e;exact tK hμ n b m (by omega) (by omega)
theorem Ap {α:Type}{down:α->Option α}{μ:α->Nat} (hμ:∀ a b,down a=some b->μ b<μ a) {N:Nat}{a b:α} (hN:μ a<=N) (h:down a=some b):kJ down N a=kJ down N b:=by
 have:=hμ a b h
 cases N with
 |zero=>omega
 |succ N =>
  rw[kJ,h]
  exact tK hμ N b (N+1) (by omega) (by omega)
theorem ED {α:Type}{down:α->Option α}{μ:α->Nat} (hμ:∀ a b,down a=some b->μ b<μ a) {N:Nat} (hN:∀ a,μ a<=N) {a b:α}:Cn (fun u v=>down u=some v) a b↔kJ down N a=kJ down N b:=by
 constructor
 ·exact Cn.inv fun u v h=>Ap hμ (hN u) h
 ·intro e
  have h1:=vL (down:=down) N a
  rw[e] at h1
  exact h1.trans (vL N b).symm
theorem qZ (n:Nat) (h:n<256):IntKind.i64.wrap (Int.ofNat n)=Int.ofNat n:=IntWalk.i64_in _ (by simp only[Int.ofNat_eq_natCast];omega)
theorem sJ:∀ o∈vars,o.fz=o:=by
 intro o m
 simp only[vars,List.mem_cons,List.not_mem_nil,or_false] at m
 rcases m with rfl|rfl <;> rfl
theorem rn {h:Heap} (b:HasB vars h):B7 h:=b 0 _ rfl
theorem zP {h:Heap} (b:HasB vars h):NG<=h.size:=Heap.aj (b 1 _ rfl)
theorem Fq {f:FuncId}{vs:Array Value}{r:Value} (hr:rI r=true) (c:∀ h,B7 h->CallD Tryz.prog NG f vs h r h):FnV Tryz.prog NG vars f vs r:=⟨PureV.rI hr,fun h b=>c h (rn b)⟩
structure Node where
 kind:Nat
 ins:List Nat
 mem:Nat
 bit:Nat
structure Memo where
 addr:List Nat
 data:List Nat
 write:Nat
structure Circ where
 nodes:List Node
 names:List ByteArray
 mems:List Memo
 outs:List Nat
def al (x:Node):Value:=.agg ⟨[u8 (Int.ofNat x.kind),FL 1 (x.ins.map i64),i64 x.mem,i64 x.bit]⟩
def av (m:Memo):Value:=.agg ⟨[FL 1 (m.addr.map i64),FL 1 (m.data.map i64),i64 m.write]⟩
def aB (c:Circ):Value:=.agg ⟨[FL 4 (c.nodes.map al),FL 1 (c.names.map .string),FL 3 (c.mems.map av),FL 1 (c.outs.map i64)]⟩
theorem kv (l:List Nat):PureV (FL 1 (l.map i64)):=PureV.list fun _=>ai.cons (PureV.flat rfl) ai.nil
theorem Af (x:Node):PureV (al x):=PureV.agg (ai.cons (PureV.flat rfl) (ai.cons (kv _) (ai.cons (PureV.flat rfl) (ai.cons (PureV.flat rfl) ai.nil))))
theorem yN (x:Node):ai (cl (al x)):=ai.cons (PureV.flat rfl) (ai.cons (kv _) (ai.cons (PureV.flat rfl) (ai.cons (PureV.flat rfl) ai.nil)))
theorem zY (m:Memo):ai (cl (av m)):=ai.cons (kv _) (ai.cons (kv _) (ai.cons (PureV.flat rfl) ai.nil))
theorem yg (c:Circ):ai (cl (aB c)) :=
 ai.cons (PureV.list yN) (ai.cons (PureV.list fun _=>ai.cons (PureV.flat rfl) ai.nil) (ai.cons (PureV.list zY) (ai.cons (kv _) ai.nil)))
theorem mQ (c:Circ):PureV (aB c):=PureV.agg (yg c)
structure GData where
 kind:Nat
 a:Nat
 b:Nat
 d:Nat
structure CData where
 inp:Nat
 dffs:Nat
 data0:Nat
 data1:Nat
 bus:Bool
 mem:Bool
 port0:Nat
 port1:Nat
 port2:Nat
 port3:Nat
 gates:List GData
 outs:List Nat
def yH (g:GData):Value:=.agg ⟨[u8 (Int.ofNat g.kind),u8 (Int.ofNat g.a),u8 (Int.ofNat g.b),u8 (Int.ofNat g.d)]⟩
def bH (x:CData):Value:=.agg ⟨[n8 x.inp,n8 x.dffs,n8 x.data0,n8 x.data1,.bool x.bus,.bool x.mem,n8 x.port0,n8 x.port1,n8 x.port2,n8 x.port3,FL 4 (x.gates.map yH),FL 1 (x.outs.map n8)]⟩
structure GOk (g:GData):Prop where
 kind:g.kind<256
 a:g.a<256
 b:g.b<256
 d:g.d<256
structure COk (x:CData):Prop where
 inp:x.inp<256
 dffs:x.dffs<256
 data0:x.data0<256
 data1:x.data1<256
 port0:x.port0<256
 port1:x.port1<256
 port2:x.port2<256
 port3:x.port3<256
 gates:∀ g∈x.gates,GOk g
 outs:∀ o∈x.outs,o<256
 gatesLen:x.gates.length<2 ^ 62
 outsLen:x.outs.length<2 ^ 62
def loN (k:Nat):Nat:=(loL (Int.ofNat k)).toNat
def hiZ (k:Nat):Int:=hiL (Int.ofNat k)
theorem Eu (k:Nat):Int.ofNat (loN k)=loL (Int.ofNat k):=by
 unfold loN
 have:0<=loL (Int.ofNat k):=by
  rcases kinds (k:=Int.ofNat k) (Int.natCast_nonneg k) with h|h|h|h|h|h|h|h|h|h|h|h|h|h|h|h|⟨n,h⟩ <;> rw[h]
  iterate 16 decide
  rw[zc];decide
 exact Int.toNat_of_nonneg this
def fW (k:Nat) (K:Nat×Int->Prop):Prop:=k<256/\K (loN k,hiZ k)
theorem kb {k:Nat}{K:Nat×Int->Prop} (hm:fW k K) {h0:Heap} (hB:HasB vars h0):∃ r,K r/\CallD Tryz.prog NG 91 ⟨[n8 k]⟩ h0 ((fun r=>Value.tuple ⟨[i64 r.1,z64 r.2]⟩) r) h0:=by
 refine⟨_,hm.2,?_⟩
 have:=CC (k:=Int.ofNat k) (Int.natCast_nonneg k) (by have:=hm.1;simp only[Int.ofNat_eq_natCast];omega) (rn hB)
 rw[<- Eu] at this
 exact this
structure Ln where
 node:Nat
 pin:Nat
def bW (x:Ln):Value:=.agg ⟨[i64 x.node,i64 x.pin]⟩
theorem wk (x:Ln):ai (cl (bW x)):=ai.cons (PureV.flat rfl) (ai.cons (PureV.flat rfl) ai.nil)
def NamesOk (c:Circ):Prop:=FnV Tryz.prog NG vars 133 ⟨[aB c]⟩ (i64 0)
def fV (c:Circ) (K:Nat->Prop):Prop:=NamesOk c/\K 0
theorem mR {c:Circ}{K:Nat->Prop} (hm:fV c K) {h0:Heap} (hB:HasB vars h0):∃ r,K r/\CallD Tryz.prog NG 133 ⟨[aB c]⟩ h0 (i64 r) h0:=FnV.walk hm.1 hm.2 hB
def bB (n i:Nat) (ins:List Nat):List Ln:=(ins.zipIdx.filter fun p=>p.1==n).map fun p=>⟨i,p.2⟩
def mV (c:Circ):List (List Ln):=(List.range c.nodes.length).map fun n=>c.nodes.zipIdx.flatMap fun p=>bB n p.2 p.1.ins
def FanOk (c:Circ):Prop:=FnV Tryz.prog NG vars 57 ⟨[aB c]⟩ (ah 1 (ah 2 bW) (mV c))
def fA (c:Circ) (K:List (List Ln)->Prop):Prop:=FanOk c/\K (mV c)
theorem ic {c:Circ}{K:List (List Ln)->Prop} (hm:fA c K) {h0:Heap} (hB:HasB vars h0):∃ r,K r/\CallD Tryz.prog NG 57 ⟨[aB c]⟩ h0 ((ah 1 (ah 2 bW)) r) h0:=FnV.walk hm.1 hm.2 hB
def CT (s:ByteArray):Prop:=FnV Tryz.prog NG vars 143 ⟨[.string s]⟩ (.bool true)
def jm (s:ByteArray) (K:Bool->Prop):Prop:=CT s/\K true
theorem mi {s:ByteArray}{K:Bool->Prop} (hm:jm s K) {h0:Heap} (hB:HasB vars h0):∃ r,K r/\CallD Tryz.prog NG 143 ⟨[Value.string s]⟩ h0 (Value.bool r) h0:=FnV.walk (enc:=Value.bool) hm.1 hm.2 hB
theorem dW (l:List Nat):∀ e∈l.map i64,(cl e).length=1:=by
 intro e m
 obtain⟨a,_,rfl⟩:=List.mem_map.1 m
 rfl
theorem sN:∀ l:List Nat,flatC (l.map i64)=l.map i64
 |[]=>rfl
 |a::l=>by rw[List.map_cons,fu,sN l];rfl
def cO (ks:List Nat):Nat->List Nat
 |0=>[]
 |i+1=>if ks.getD i 0=12 then cO ks i++[i] else cO ks i
def iA (bus:Bool) (g:GData) (ks:List Nat):Node :=
 if (if bus then g.kind%13 else g.kind%9)<6 then ⟨5+(if bus then g.kind%13 else g.kind%9),if 128<=g.kind then [g.a%ks.length,g.b%ks.length,g.d%ks.length] else [g.a%ks.length,g.b%ks.length],0,0⟩
 else if (if bus then g.kind%13 else g.kind%9)=6 then ⟨4,[g.a%ks.length],0,0⟩
 else if (if bus then g.kind%13 else g.kind%9)=7 then ⟨11,[g.a%ks.length,g.b%ks.length,g.d%ks.length],0,0⟩
 else if (if bus then g.kind%13 else g.kind%9)=9\/(if bus then g.kind%13 else g.kind%9)=10 then ⟨12,[g.a%ks.length,g.b%ks.length],0,0⟩
 else if 10<(if bus then g.kind%13 else g.kind%9)/\0<(cO ks ks.length).length then
  ⟨13,if 1<(cO ks ks.length).length then [(cO ks ks.length).getD (g.a%(cO ks ks.length).length) 0,(cO ks ks.length).getD ((g.a%(cO ks ks.length).length+1)%(cO ks ks.length).length) 0] else [(cO ks ks.length).getD (g.a%(cO ks ks.length).length) 0],0,0⟩
 else if 240<g.kind then ⟨1+g.a%2,[],0,0⟩
 else ⟨3,[g.a%ks.length],0,0⟩
theorem ti (ks:List Nat):∀ i,(cO ks i).length<=i
 |0=>Nat.le_refl 0
 |i+1=>by
  have:=ti ks i
  unfold cO
  split
  ·simp;omega
  ·omega
set_option maxHeartbeats 8000000 in
theorem BL {x:CData}{g:GData} (hg:GOk g) {ks:List Nat} (hn:0<ks.length) (hn2:ks.length<=1000) {gn:Nat}{sp:Option Nat}{cap:Nat}{cs:List Value}{ro:Bool}{h0:Heap} (hB:HasB vars h0)
   (hgn:h0.get gn=some (.cells cs ro)) (hcs:∀ i,i<ks.length->cs[0+i*4]?=some (n8 (ks.getD i 0))) :
   CallD Tryz.prog NG 46 #[bH x,yH g,.slice (some ⟨gn,0,sp⟩) ks.length cap] h0 (al (iA x.bus g ks)) h0:=by
 obtain⟨kind,a,b,d⟩:=g
 obtain⟨inp,dffs,data0,data1,bus,mem,p0,p1,p2,p3,gates,outs⟩:=x
 obtain⟨hk,ha,hb,hd⟩:=hg
 simp only at hk ha hb hd
 have hnode:∀ k ins,al ⟨k,ins,0,0⟩=al ⟨k,ins,0,0⟩:=fun _ _=>rfl
 unfold iA
 simp only
 refine fnH hM Tryz.func46 rfl (hP _ _ rfl Tryz.func46) (lbE rfl) (hB) (Af _) fun O=>?_;(conv=>whnf);repeat(first|apply Cs|apply Rs|apply Rx);conv=>whnf
 refine NewG.frz rfl ?_;(conv=>whnf);repeat(first|apply Cs|apply Rs|apply Rx);conv=>whnf
 refine NewG.frz rfl ?_;(conv=>whnf);repeat(first|apply Cs|apply Rs|apply Rx);conv=>whnf
 refine O.new (ak (l:=[u8 0,.slice none 0 0,i64 0,i64 0]) rfl rfl rfl) fun g6 h O=>?_;(conv=>whnf);repeat(first|apply Cs|apply Rs|apply Rx);conv=>whnf
 ((conv=>whnf);repeat(first|apply Cs|apply Rs|apply Rx);conv=>whnf);repeat((first|refine⟨_,(rfl:aS _ _ _ _=some _),?_⟩|refine lU rfl ?_|refine⟨_,iw rfl rfl rfl (qZ _ (by omega)),?_⟩|refine⟨_,tq rfl rfl (by omega),?_⟩|refine⟨.inl rfl,?_⟩);((conv=>whnf);repeat(first|apply Cs|apply Rs|apply Rx);conv=>whnf))
 refine D3 hM (by kernel_rfl) (nn:=158) ks.length (fun i (a:Option Nat) h'=>(a=none->cO ks i=[])/\Own vars h0 [(a,.cells (flatC ((cO ks i).map i64)) false),(some g6,.cells [u8 0,.slice none 0 0,i64 0,i64 0] false)] h')
   (fun i t=>[(2,.slice (some ⟨gn,0,sp⟩) ks.length cap),(3,FP (bH ⟨inp,dffs,data0,data1,bus,mem,p0,p1,p2,p3,gates,outs⟩)),(4,FP (yH ⟨kind,a,b,d⟩)),(6,.pointer (some ⟨g6,0,none⟩)),(7,i64 ks.length),(8,i64 (a%ks.length)),(9,i64 (b%ks.length)),(10,i64 (d%ks.length)),(11,ag 1 t ((cO ks i).map i64)),(12,i64 i)])
   rfl none ⟨fun _=>rfl,O.aN _⟩ ⟨rfl,rfl,rfl,rfl,rfl,rfl,rfl,rfl,rfl,rfl,trivial⟩ ?_ ?_
 · rintro i t base h1 hi ⟨ht,O⟩
   have hle:=ti ks i
   ((conv=>whnf);repeat(first|apply Cs|apply Rs|apply Rx);conv=>whnf)
   refine⟨_,rfl,fun _=>?_,(fun hx=>nomatch (hx.symm.trans (En hi)))⟩;(conv=>whnf);repeat(first|apply Cs|apply Rs|apply Rx);conv=>whnf
   refine cE (s:=4) rfl rfl rfl rfl hi ?_;(conv=>whnf);repeat(first|apply Cs|apply Rs|apply Rx);conv=>whnf
   refine⟨_,ae rfl (O.ext.get hgn) rfl (hcs i hi),?_⟩;(conv=>whnf);repeat(first|apply Cs|apply Rs|apply Rx);conv=>whnf
   refine⟨_,rfl,fun hc=>?_,fun hc=>?_⟩
   · have hk12:ks.getD i 0=12:=by have:=eq_of_beq hc;simp only[Int.ofNat_eq_natCast] at this;omega
     have hts:cO ks (i+1)=cO ks i++[i]:=by rw[cO,if_pos hk12]
     have hv:(cO ks i).map i64++[i64 i]=(cO ks (i+1)).map i64:=by rw[hts,List.map_append];rfl
     ((conv=>whnf);repeat(first|apply Cs|apply Rs|apply Rx);conv=>whnf)
     refine NewG.frz rfl ?_;(conv=>whnf);repeat(first|apply Cs|apply Rs|apply Rx);conv=>whnf
     refine O.append (s:=1) (b:=8) (m:=1) (new:=[i64 i]) (.head _) (fun e=>by rw[ht e];rfl) rfl rfl rfl rfl rfl rfl rfl rfl rfl rfl rfl (by rw[hv];exact dW _) rfl (by decide) (by rw[List.length_map];omega) (hv) fun t' h ha O=>?_;(conv=>whnf);repeat(first|apply Cs|apply Rs|apply Rx);conv=>whnf
     refine⟨_,CQ (b:=1) rfl rfl (by omega),?_⟩;(conv=>whnf);repeat(first|apply Cs|apply Rs|apply Rx);conv=>whnf
     exact⟨t',⟨fun e=>by have:=ha e;simpa using this,O⟩,rfl,rfl,rfl,rfl,rfl,rfl,rfl,rfl,rfl,rfl,trivial⟩
   · have hk12:¬ ks.getD i 0=12:=fun e=>by rw[e] at hc;cases hc
     have hts:cO ks (i+1)=cO ks i:=by rw[cO,if_neg hk12]
     ((conv=>whnf);repeat(first|apply Cs|apply Rs|apply Rx);conv=>whnf)
     refine⟨_,CQ (b:=1) rfl rfl (by omega),?_⟩;(conv=>whnf);repeat(first|apply Cs|apply Rs|apply Rx);conv=>whnf
     exact⟨t,by rw[hts];exact⟨ht,O⟩,rfl,rfl,rfl,rfl,rfl,rfl,rfl,rfl,by rw[hts];rfl,rfl,trivial⟩
 · rintro t base h1 ⟨ht,O⟩
   have hle:=ti ks ks.length
   generalize cO ks ks.length=T at ht O hle
   ((conv=>whnf);repeat(first|apply Cs|apply Rs|apply Rx);conv=>whnf)
   refine⟨_,rfl,(fun hx=>nomatch (hx.symm.trans (Ej ks.length))),fun _=>?_⟩;(conv=>whnf);repeat(first|apply Cs|apply Rs|apply Rx);conv=>whnf
   have hU8:∀ n:Nat,n<256->IntKind.u8.wrap (Int.ofNat n)=Int.ofNat n:=fun n hn=>IntWalk.u8_in _ (by simp only[Int.ofNat_eq_natCast];omega)
   cases bus with
   | true =>
     ((conv=>whnf);repeat(first|apply Cs|apply Rs|apply Rx);conv=>whnf);repeat((first|refine⟨true,rfl,fun _=>?_,(fun hc=>nomatch hc)⟩|refine⟨_,(rfl:aS _ _ _ _=some _),?_⟩|refine⟨_,iw rfl rfl rfl (qZ _ (by omega)),?_⟩|refine⟨_,tq (b:=9) rfl rfl (by decide),?_⟩|refine⟨_,tq (b:=13) rfl rfl (by decide),?_⟩);((conv=>whnf);repeat(first|apply Cs|apply Rs|apply Rx);conv=>whnf))
     simp only[if_true]
     generalize hkk:kind%13=kk
     have hk13:kk<13:=by omega
     refine⟨_,rfl,fun hc=>?_,fun hc=>?_⟩
     · have h6:kk<6:=(by have:=dC (hc);first|omega | (simp only[Int.ofNat_eq_natCast] at this;omega))
       rw[if_pos h6]
       ((conv=>whnf);repeat(first|apply Cs|apply Rs|apply Rx);conv=>whnf)
       refine⟨_,iw rfl rfl rfl (hU8 kk (by omega)),?_⟩;(conv=>whnf);repeat(first|apply Cs|apply Rs|apply Rx);conv=>whnf
       refine⟨_,qd (a:=5) rfl rfl (by omega),?_⟩;(conv=>whnf);repeat(first|apply Cs|apply Rs|apply Rx);conv=>whnf
       refine O.new (nV (vs:=[i64 (a%ks.length),i64 (b%ks.length)]) (s:=1) (z:=i64 0) rfl rfl (by kernel_rfl) (by kernel_rfl) rfl rfl rfl rfl (dW [a%ks.length,b%ks.length])) fun gi h O=>?_;(conv=>whnf);repeat(first|apply Cs|apply Rs|apply Rx);conv=>whnf
       refine O.new (ak (l:=[u8 0,.slice none 0 0,i64 0,i64 0]) rfl rfl rfl) fun gv h O=>?_;(conv=>whnf);repeat(first|apply Cs|apply Rs|apply Rx);conv=>whnf
       ((conv=>whnf);repeat(first|apply Cs|apply Rs|apply Rx);conv=>whnf);repeat((first|refine⟨_,(rfl:aS _ _ _ _=some _),?_⟩|refine O.store (.head _) rfl rfl rfl rfl (lbE rfl) rfl rfl fun h O=>?_);((conv=>whnf);repeat(first|apply Cs|apply Rs|apply Rx);conv=>whnf))
       refine⟨_,rfl,fun hc=>?_,fun hc=>?_⟩
       · have h128:128<=kind:=by
           have hc:(!ltI (Int.ofNat kind) 128)=true:=hc
           rw[dn] at hc
           simp at hc
           omega
         rw[if_pos h128]
         ((conv=>whnf);repeat(first|apply Cs|apply Rs|apply Rx);conv=>whnf);repeat(refine⟨_,ae rfl (O.at (.head _)) rfl rfl,?_⟩;((conv=>whnf);repeat(first|apply Cs|apply Rs|apply Rx);conv=>whnf))
         refine NewG.frz rfl ?_;(conv=>whnf);repeat(first|apply Cs|apply Rs|apply Rx);conv=>whnf
         refine O.vv (s:=1) (b:=8) (m:=1) (n:=2) (new:=[i64 (d%ks.length)]) (O.at (.tail _ (.head _))) rfl rfl rfl rfl rfl rfl rfl rfl rfl rfl rfl rfl (by decide) rfl (by decide) (by decide) rfl fun gj h O=>?_;(conv=>whnf);repeat(first|apply Cs|apply Rs|apply Rx);conv=>whnf
         ((conv=>whnf);repeat(first|apply Cs|apply Rs|apply Rx);conv=>whnf);repeat((first|refine⟨_,bd rfl (O.at (.tail _ (.head _))) rfl rfl (lbE rfl) rfl,?_⟩|refine O.store (.tail _ (.head _)) rfl rfl rfl rfl (lbE rfl) rfl rfl fun h O=>?_|refine O.store (.tail _ (.tail _ (.tail _ (.tail _ (.head _))))) rfl rfl rfl rfl (lbE rfl) rfl rfl fun h O=>?_);((conv=>whnf);repeat(first|apply Cs|apply Rs|apply Rx);conv=>whnf))
         refine⟨_,aH rfl rfl (O.at (.tail _ (.tail _ (.tail _ (.tail _ (.head _)))))) rfl rfl (lbE rfl) rfl,?_⟩;(conv=>whnf);repeat(first|apply Cs|apply Rs|apply Rx);conv=>whnf
         refine⟨O.ext,fun h2 F=>VLe.agg (LLe.cons (VLe.refl _ _) (LLe.cons (O.flat (es:=[a%ks.length,b%ks.length,d%ks.length].map i64) F (Nat.le_refl _) (.head _) rfl rfl (dW _)) (LLe.refl _ _)))⟩
       · have h128:¬ 128<=kind:=by
           have hc:(!ltI (Int.ofNat kind) 128)=false:=hc
           rw[dn] at hc
           simp at hc
           omega
         rw[if_neg h128]
         ((conv=>whnf);repeat(first|apply Cs|apply Rs|apply Rx);conv=>whnf);repeat((first|refine⟨_,bd rfl (O.at (.head _)) rfl rfl (lbE rfl) rfl,?_⟩|refine O.store (.tail _ (.tail _ (.tail _ (.head _)))) rfl rfl rfl rfl (lbE rfl) rfl rfl fun h O=>?_);((conv=>whnf);repeat(first|apply Cs|apply Rs|apply Rx);conv=>whnf))
         refine⟨_,aH rfl rfl (O.at (.tail _ (.tail _ (.tail _ (.head _))))) rfl rfl (lbE rfl) rfl,?_⟩;(conv=>whnf);repeat(first|apply Cs|apply Rs|apply Rx);conv=>whnf
         refine⟨O.ext,fun h2 F=>VLe.agg (LLe.cons (VLe.refl _ _) (LLe.cons (O.flat (es:=[a%ks.length,b%ks.length].map i64) F (Nat.le_refl _) (.tail _ (.head _)) rfl rfl (dW _)) (LLe.refl _ _)))⟩
     · have h6:¬ kk<6:=(by have:=dB (hc);first|omega | (simp only[Int.ofNat_eq_natCast] at this;omega))
       have eqN:∀ c:Nat,(Int.ofNat kk==(Int.ofNat c))=decide (kk=c):=fun c=>by
         rw[Bool.eq_iff_iff];simp only[Int.ofNat_eq_natCast,beq_iff_eq,decide_eq_true_eq];omega
       rw[if_neg h6]
       ((conv=>whnf);repeat(first|apply Cs|apply Rs|apply Rx);conv=>whnf)
       refine⟨_,rfl,fun hc=>?_,fun hc=>?_⟩
       · rw[if_pos (of_decide_eq_true ((eqN 6).symm.trans hc))]
         ((conv=>whnf);repeat(first|apply Cs|apply Rs|apply Rx);conv=>whnf);repeat((first|refine O.store (.tail _ (.head _)) rfl rfl rfl rfl (lbE rfl) rfl rfl fun h O=>?_|refine NewG.frz rfl ?_);((conv=>whnf);repeat(first|apply Cs|apply Rs|apply Rx);conv=>whnf))
         refine⟨_,aH rfl rfl (O.at (.tail _ (.head _))) rfl rfl (lbE rfl) rfl,?_⟩;(conv=>whnf);repeat(first|apply Cs|apply Rs|apply Rx);conv=>whnf
         exact O.ret
       rw[if_neg (of_decide_eq_false ((eqN 6).symm.trans hc))]
       ((conv=>whnf);repeat(first|apply Cs|apply Rs|apply Rx);conv=>whnf)
       refine⟨_,rfl,fun hc=>?_,fun hc=>?_⟩
       · rw[if_pos (of_decide_eq_true ((eqN 7).symm.trans hc))]
         ((conv=>whnf);repeat(first|apply Cs|apply Rs|apply Rx);conv=>whnf);repeat((first|refine O.store (.tail _ (.head _)) rfl rfl rfl rfl (lbE rfl) rfl rfl fun h O=>?_|refine NewG.frz rfl ?_);((conv=>whnf);repeat(first|apply Cs|apply Rs|apply Rx);conv=>whnf))
         refine⟨_,aH rfl rfl (O.at (.tail _ (.head _))) rfl rfl (lbE rfl) rfl,?_⟩;(conv=>whnf);repeat(first|apply Cs|apply Rs|apply Rx);conv=>whnf
         exact O.ret
       rw[if_neg (of_decide_eq_false ((eqN 7).symm.trans hc))]
       ((conv=>whnf);repeat(first|apply Cs|apply Rs|apply Rx);conv=>whnf)
       refine⟨_,rfl,fun hc=>?_,fun hc=>?_⟩
       · rw[if_pos (.inl (of_decide_eq_true ((eqN 9).symm.trans hc)))]
         rw[hc]
         ((conv=>whnf);repeat(first|apply Cs|apply Rs|apply Rx);conv=>whnf);repeat((first|refine⟨true,rfl,fun _=>?_,(fun hc=>nomatch hc)⟩|refine O.store (.tail _ (.head _)) rfl rfl rfl rfl (lbE rfl) rfl rfl fun h O=>?_|refine NewG.frz rfl ?_);((conv=>whnf);repeat(first|apply Cs|apply Rs|apply Rx);conv=>whnf))
         refine⟨_,aH rfl rfl (O.at (.tail _ (.head _))) rfl rfl (lbE rfl) rfl,?_⟩;(conv=>whnf);repeat(first|apply Cs|apply Rs|apply Rx);conv=>whnf
         exact O.ret
       have h9:¬ kk=9:=of_decide_eq_false ((eqN 9).symm.trans hc)
       rw[hc]
       ((conv=>whnf);repeat(first|apply Cs|apply Rs|apply Rx);conv=>whnf)
       refine⟨_,rfl,fun hc=>?_,fun hc=>?_⟩
       · rw[if_pos (.inr (of_decide_eq_true ((eqN 10).symm.trans hc)))]
         ((conv=>whnf);repeat(first|apply Cs|apply Rs|apply Rx);conv=>whnf);repeat((first|refine O.store (.tail _ (.head _)) rfl rfl rfl rfl (lbE rfl) rfl rfl fun h O=>?_|refine NewG.frz rfl ?_);((conv=>whnf);repeat(first|apply Cs|apply Rs|apply Rx);conv=>whnf))
         refine⟨_,aH rfl rfl (O.at (.tail _ (.head _))) rfl rfl (lbE rfl) rfl,?_⟩;(conv=>whnf);repeat(first|apply Cs|apply Rs|apply Rx);conv=>whnf
         exact O.ret
       rw[if_neg (fun h=>h.elim h9 (of_decide_eq_false ((eqN 10).symm.trans hc)))]
       ((conv=>whnf);repeat(first|apply Cs|apply Rs|apply Rx);conv=>whnf)
       refine⟨_,rfl,fun hc=>?_,fun hc=>?_⟩
       · have h10:10<kk:=(by have:=dC (hc);first|omega | (simp only[Int.ofNat_eq_natCast] at this;omega))
         rw[hc]
         ((conv=>whnf);repeat(first|apply Cs|apply Rs|apply Rx);conv=>whnf)
         rw[List.length_map]
         refine⟨_,rfl,fun hc=>?_,fun hc=>?_⟩
         · have hT:0<T.length:=(by have:=dC (hc);first|omega | (simp only[Int.ofNat_eq_natCast] at this;omega))
           rw[if_pos ⟨h10,hT⟩]
           obtain⟨gt,rfl⟩:∃ gt,t=some gt:=by
             cases t with
             |none=>rw[ht rfl] at hT;simp at hT
             |some g=>exact⟨g,rfl⟩
           rw[sN] at O
           have hTg:∀ i,i<T.length->(T.map i64)[0+i*1]?=some (i64 (T.getD i 0)):=fun i hi=>by
             rw[Nat.zero_add,Nat.mul_one,List.getElem?_map,List.getElem?_eq_getElem hi,List.getD,List.getElem?_eq_getElem hi];rfl
           ((conv=>whnf);repeat(first|apply Cs|apply Rs|apply Rx);conv=>whnf);repeat((first|refine⟨_,(rfl:aS _ _ _ _=some _),?_⟩|refine lU rfl ?_|refine⟨_,iw rfl rfl rfl (qZ _ (by omega)),?_⟩);((conv=>whnf);repeat(first|apply Cs|apply Rs|apply Rx);conv=>whnf))
           rw[List.length_map]
           refine⟨_,tq (b:=T.length) rfl rfl hT,?_⟩;(conv=>whnf);repeat(first|apply Cs|apply Rs|apply Rx);conv=>whnf
           have hmod:=Nat.mod_lt a hT
           refine cE (s:=1) rfl rfl rfl rfl (by rw[List.length_map];exact hmod) ?_;(conv=>whnf);repeat(first|apply Cs|apply Rs|apply Rx);conv=>whnf
           refine⟨_,ae rfl (O.at (.head _)) rfl (hTg _ hmod),?_⟩;(conv=>whnf);repeat(first|apply Cs|apply Rs|apply Rx);conv=>whnf
           refine O.new (nV (vs:=[i64 (T.getD (a%T.length) 0)]) (s:=1) (z:=i64 0) rfl rfl (by kernel_rfl) (by kernel_rfl) rfl rfl rfl rfl (dW [T.getD (a%T.length) 0])) fun gi h O=>?_;(conv=>whnf);repeat(first|apply Cs|apply Rs|apply Rx);conv=>whnf
           refine O.new (ak (l:=[u8 0,.slice none 0 0,i64 0,i64 0]) rfl rfl rfl) fun gv h O=>?_;(conv=>whnf);repeat(first|apply Cs|apply Rs|apply Rx);conv=>whnf
           ((conv=>whnf);repeat(first|apply Cs|apply Rs|apply Rx);conv=>whnf);repeat(refine O.store (.head _) rfl rfl rfl rfl (lbE rfl) rfl rfl fun h O=>?_;((conv=>whnf);repeat(first|apply Cs|apply Rs|apply Rx);conv=>whnf))
           rw[List.length_map]
           refine⟨_,rfl,fun hc=>?_,fun hc=>?_⟩
           · have hT1:1<T.length:=(by have:=dC (hc);first|omega | (simp only[Int.ofNat_eq_natCast] at this;omega))
             rw[if_pos hT1]
             have hmod2:=Nat.mod_lt (a%T.length+1) hT
             have hk63:a%T.length+1<2 ^ 63:=by omega
             ((conv=>whnf);repeat(first|apply Cs|apply Rs|apply Rx);conv=>whnf);repeat((first|refine⟨_,ae rfl (O.at (.head _)) rfl rfl,?_⟩|refine⟨_,CQ (b:=1) rfl rfl (by omega),?_⟩|refine⟨.inr (.inr (ae rfl (O.at (.head _)) rfl rfl)),?_⟩);((conv=>whnf);repeat(first|apply Cs|apply Rs|apply Rx);conv=>whnf))
             rw[List.length_map]
             refine⟨_,tq (b:=T.length) rfl rfl hT,?_⟩;(conv=>whnf);repeat(first|apply Cs|apply Rs|apply Rx);conv=>whnf
             refine cE (s:=1) rfl rfl rfl rfl (hmod2) ?_;(conv=>whnf);repeat(first|apply Cs|apply Rs|apply Rx);conv=>whnf
             refine⟨_,ae rfl (O.at (.tail _ (.tail _ (.head _)))) rfl (hTg _ hmod2),?_⟩;(conv=>whnf);repeat(first|apply Cs|apply Rs|apply Rx);conv=>whnf
             refine⟨.inl rfl,?_⟩;(conv=>whnf);repeat(first|apply Cs|apply Rs|apply Rx);conv=>whnf
             refine O.dA (nV (vs:=[i64 (T.getD ((a%T.length+1)%T.length) 0)]) (s:=1) (z:=i64 0) rfl rfl (by kernel_rfl) (by kernel_rfl) rfl rfl rfl rfl (dW [T.getD ((a%T.length+1)%T.length) 0])) fun gy h O=>?_;(conv=>whnf);repeat(first|apply Cs|apply Rs|apply Rx);conv=>whnf
             refine O.vv (s:=1) (b:=8) (m:=1) (n:=1) (new:=[i64 (T.getD ((a%T.length+1)%T.length) 0)]) (O.at (.tail _ (.tail _ (.head _)))) rfl rfl rfl rfl rfl rfl rfl rfl rfl rfl (qI (O.at (.head _)) rfl) rfl (by decide) rfl (by decide) (by decide) rfl fun gj h O=>?_;(conv=>whnf);repeat(first|apply Cs|apply Rs|apply Rx);conv=>whnf
             ((conv=>whnf);repeat(first|apply Cs|apply Rs|apply Rx);conv=>whnf);repeat((first|refine⟨_,bd rfl (O.at (.tail _ (.tail _ (.head _)))) rfl rfl (lbE rfl) rfl,?_⟩|refine⟨.inl rfl,?_⟩|refine O.store (.tail _ (.tail _ (.head _))) rfl rfl rfl rfl (lbE rfl) rfl rfl fun h O=>?_|refine O.store (.tail _ (.tail _ (.tail _ (.tail _ (.tail _ (.head _)))))) rfl rfl rfl rfl (lbE rfl) rfl rfl fun h O=>?_);((conv=>whnf);repeat(first|apply Cs|apply Rs|apply Rx);conv=>whnf))
             refine⟨_,aH rfl rfl (O.at (.tail _ (.tail _ (.tail _ (.tail _ (.tail _ (.head _))))))) rfl rfl (lbE rfl) rfl,?_⟩;(conv=>whnf);repeat(first|apply Cs|apply Rs|apply Rx);conv=>whnf
             refine⟨O.ext,fun h2 F=>VLe.agg (LLe.cons (VLe.refl _ _) (LLe.cons (O.flat (es:=[T.getD (a%T.length) 0,T.getD ((a%T.length+1)%T.length) 0].map i64) F (Nat.le_refl _) (.head _) rfl rfl (dW _)) (LLe.refl _ _)))⟩
           · have hT1:¬ 1<T.length:=(by have:=dB (hc);first|omega | (simp only[Int.ofNat_eq_natCast] at this;omega))
             rw[if_neg hT1]
             ((conv=>whnf);repeat(first|apply Cs|apply Rs|apply Rx);conv=>whnf);repeat((first|refine⟨_,bd rfl (O.at (.head _)) rfl rfl (lbE rfl) rfl,?_⟩|refine O.store (.tail _ (.tail _ (.tail _ (.head _)))) rfl rfl rfl rfl (lbE rfl) rfl rfl fun h O=>?_);((conv=>whnf);repeat(first|apply Cs|apply Rs|apply Rx);conv=>whnf))
             refine⟨_,aH rfl rfl (O.at (.tail _ (.tail _ (.tail _ (.head _))))) rfl rfl (lbE rfl) rfl,?_⟩;(conv=>whnf);repeat(first|apply Cs|apply Rs|apply Rx);conv=>whnf
             refine⟨O.ext,fun h2 F=>VLe.agg (LLe.cons (VLe.refl _ _) (LLe.cons (O.flat (es:=[T.getD (a%T.length) 0].map i64) F (Nat.le_refl _) (.tail _ (.head _)) rfl rfl (dW _)) (LLe.refl _ _)))⟩
         · have hno:¬ (10<kk/\0<T.length):=fun h=>absurd h.2 (by have:=dB (hc);first|omega | (simp only[Int.ofNat_eq_natCast] at this;omega))
           rw[if_neg hno]
           ((conv=>whnf);repeat(first|apply Cs|apply Rs|apply Rx);conv=>whnf);repeat(refine⟨_,(rfl:aS _ _ _ _=some _),?_⟩;((conv=>whnf);repeat(first|apply Cs|apply Rs|apply Rx);conv=>whnf))
           refine⟨_,rfl,fun hc=>?_,fun hc=>?_⟩
           · have h240:240<kind:=(by have:=dC (hc);first|omega | (simp only[Int.ofNat_eq_natCast] at this;omega))
             rw[if_pos h240]
             ((conv=>whnf);repeat(first|apply Cs|apply Rs|apply Rx);conv=>whnf);repeat((first|refine⟨_,(rfl:aS _ _ _ _=some _),?_⟩|refine lU rfl ?_|refine⟨_,tq (b:=2) rfl rfl (by decide),?_⟩);((conv=>whnf);repeat(first|apply Cs|apply Rs|apply Rx);conv=>whnf))
             refine⟨_,qd (a:=1) rfl rfl (by omega),?_⟩;(conv=>whnf);repeat(first|apply Cs|apply Rs|apply Rx);conv=>whnf
             ((conv=>whnf);repeat(first|apply Cs|apply Rs|apply Rx);conv=>whnf);repeat(refine O.store (.tail _ (.head _)) rfl rfl rfl rfl (lbE rfl) rfl rfl fun h O=>?_;((conv=>whnf);repeat(first|apply Cs|apply Rs|apply Rx);conv=>whnf))
             refine⟨_,aH rfl rfl (O.at (.tail _ (.head _))) rfl rfl (lbE rfl) rfl,?_⟩;(conv=>whnf);repeat(first|apply Cs|apply Rs|apply Rx);conv=>whnf
             exact⟨O.ext,fun h2 F=>VLe.agg (LLe.cons (VLe.refl _ _) (LLe.cons (VLe.nil _ _) (LLe.refl _ _)))⟩
           · have h240:¬ 240<kind:=(by have:=dB (hc);first|omega | (simp only[Int.ofNat_eq_natCast] at this;omega))
             rw[if_neg h240]
             ((conv=>whnf);repeat(first|apply Cs|apply Rs|apply Rx);conv=>whnf);repeat((first|refine O.store (.tail _ (.head _)) rfl rfl rfl rfl (lbE rfl) rfl rfl fun h O=>?_|refine NewG.frz rfl ?_);((conv=>whnf);repeat(first|apply Cs|apply Rs|apply Rx);conv=>whnf))
             refine⟨_,aH rfl rfl (O.at (.tail _ (.head _))) rfl rfl (lbE rfl) rfl,?_⟩;(conv=>whnf);repeat(first|apply Cs|apply Rs|apply Rx);conv=>whnf
             exact O.ret
       · have hno:¬ (10<kk/\0<T.length):=fun h=>absurd h.1 (by have:=dB (hc);first|omega | (simp only[Int.ofNat_eq_natCast] at this;omega))
         rw[hc]
         ((conv=>whnf);repeat(first|apply Cs|apply Rs|apply Rx);conv=>whnf)
         refine⟨false,rfl,(fun hc=>nomatch hc),fun _=>?_⟩;(conv=>whnf);repeat(first|apply Cs|apply Rs|apply Rx);conv=>whnf
         rw[if_neg hno]
         ((conv=>whnf);repeat(first|apply Cs|apply Rs|apply Rx);conv=>whnf);repeat(refine⟨_,(rfl:aS _ _ _ _=some _),?_⟩;((conv=>whnf);repeat(first|apply Cs|apply Rs|apply Rx);conv=>whnf))
         refine⟨_,rfl,fun hc=>?_,fun hc=>?_⟩
         · have h240:240<kind:=(by have:=dC (hc);first|omega | (simp only[Int.ofNat_eq_natCast] at this;omega))
           rw[if_pos h240]
           ((conv=>whnf);repeat(first|apply Cs|apply Rs|apply Rx);conv=>whnf);repeat((first|refine⟨_,(rfl:aS _ _ _ _=some _),?_⟩|refine lU rfl ?_|refine⟨_,tq (b:=2) rfl rfl (by decide),?_⟩);((conv=>whnf);repeat(first|apply Cs|apply Rs|apply Rx);conv=>whnf))
           refine⟨_,qd (a:=1) rfl rfl (by omega),?_⟩;(conv=>whnf);repeat(first|apply Cs|apply Rs|apply Rx);conv=>whnf
           ((conv=>whnf);repeat(first|apply Cs|apply Rs|apply Rx);conv=>whnf);repeat(refine O.store (.tail _ (.head _)) rfl rfl rfl rfl (lbE rfl) rfl rfl fun h O=>?_;((conv=>whnf);repeat(first|apply Cs|apply Rs|apply Rx);conv=>whnf))
           refine⟨_,aH rfl rfl (O.at (.tail _ (.head _))) rfl rfl (lbE rfl) rfl,?_⟩;(conv=>whnf);repeat(first|apply Cs|apply Rs|apply Rx);conv=>whnf
           exact⟨O.ext,fun h2 F=>VLe.agg (LLe.cons (VLe.refl _ _) (LLe.cons (VLe.nil _ _) (LLe.refl _ _)))⟩
         · have h240:¬ 240<kind:=(by have:=dB (hc);first|omega | (simp only[Int.ofNat_eq_natCast] at this;omega))
           rw[if_neg h240]
           ((conv=>whnf);repeat(first|apply Cs|apply Rs|apply Rx);conv=>whnf);repeat((first|refine O.store (.tail _ (.head _)) rfl rfl rfl rfl (lbE rfl) rfl rfl fun h O=>?_|refine NewG.frz rfl ?_);((conv=>whnf);repeat(first|apply Cs|apply Rs|apply Rx);conv=>whnf))
           refine⟨_,aH rfl rfl (O.at (.tail _ (.head _))) rfl rfl (lbE rfl) rfl,?_⟩;(conv=>whnf);repeat(first|apply Cs|apply Rs|apply Rx);conv=>whnf
           exact O.ret
   | false =>
     ((conv=>whnf);repeat(first|apply Cs|apply Rs|apply Rx);conv=>whnf);repeat((first|refine⟨false,rfl,(fun hc=>nomatch hc),fun _=>?_⟩|refine⟨_,(rfl:aS _ _ _ _=some _),?_⟩|refine⟨_,iw rfl rfl rfl (qZ _ (by omega)),?_⟩|refine⟨_,tq (b:=9) rfl rfl (by decide),?_⟩);((conv=>whnf);repeat(first|apply Cs|apply Rs|apply Rx);conv=>whnf))
     simp only[Bool.false_eq_true,if_false]
     generalize hkk:kind%9=kk
     have hk13:kk<9:=by omega
     refine⟨_,rfl,fun hc=>?_,fun hc=>?_⟩
     · have h6:kk<6:=(by have:=dC (hc);first|omega | (simp only[Int.ofNat_eq_natCast] at this;omega))
       rw[if_pos h6]
       ((conv=>whnf);repeat(first|apply Cs|apply Rs|apply Rx);conv=>whnf)
       refine⟨_,iw rfl rfl rfl (hU8 kk (by omega)),?_⟩;(conv=>whnf);repeat(first|apply Cs|apply Rs|apply Rx);conv=>whnf
       refine⟨_,qd (a:=5) rfl rfl (by omega),?_⟩;(conv=>whnf);repeat(first|apply Cs|apply Rs|apply Rx);conv=>whnf
       refine O.new (nV (vs:=[i64 (a%ks.length),i64 (b%ks.length)]) (s:=1) (z:=i64 0) rfl rfl (by kernel_rfl) (by kernel_rfl) rfl rfl rfl rfl (dW [a%ks.length,b%ks.length])) fun gi h O=>?_;(conv=>whnf);repeat(first|apply Cs|apply Rs|apply Rx);conv=>whnf
       refine O.new (ak (l:=[u8 0,.slice none 0 0,i64 0,i64 0]) rfl rfl rfl) fun gv h O=>?_;(conv=>whnf);repeat(first|apply Cs|apply Rs|apply Rx);conv=>whnf
       ((conv=>whnf);repeat(first|apply Cs|apply Rs|apply Rx);conv=>whnf);repeat((first|refine⟨_,(rfl:aS _ _ _ _=some _),?_⟩|refine O.store (.head _) rfl rfl rfl rfl (lbE rfl) rfl rfl fun h O=>?_);((conv=>whnf);repeat(first|apply Cs|apply Rs|apply Rx);conv=>whnf))
       refine⟨_,rfl,fun hc=>?_,fun hc=>?_⟩
       · have h128:128<=kind:=by
           have hc:(!ltI (Int.ofNat kind) 128)=true:=hc
           rw[dn] at hc
           simp at hc
           omega
         rw[if_pos h128]
         ((conv=>whnf);repeat(first|apply Cs|apply Rs|apply Rx);conv=>whnf);repeat(refine⟨_,ae rfl (O.at (.head _)) rfl rfl,?_⟩;((conv=>whnf);repeat(first|apply Cs|apply Rs|apply Rx);conv=>whnf))
         refine NewG.frz rfl ?_;(conv=>whnf);repeat(first|apply Cs|apply Rs|apply Rx);conv=>whnf
         refine O.vv (s:=1) (b:=8) (m:=1) (n:=2) (new:=[i64 (d%ks.length)]) (O.at (.tail _ (.head _))) rfl rfl rfl rfl rfl rfl rfl rfl rfl rfl rfl rfl (by decide) rfl (by decide) (by decide) rfl fun gj h O=>?_;(conv=>whnf);repeat(first|apply Cs|apply Rs|apply Rx);conv=>whnf
         ((conv=>whnf);repeat(first|apply Cs|apply Rs|apply Rx);conv=>whnf);repeat((first|refine⟨_,bd rfl (O.at (.tail _ (.head _))) rfl rfl (lbE rfl) rfl,?_⟩|refine O.store (.tail _ (.head _)) rfl rfl rfl rfl (lbE rfl) rfl rfl fun h O=>?_|refine O.store (.tail _ (.tail _ (.tail _ (.tail _ (.head _))))) rfl rfl rfl rfl (lbE rfl) rfl rfl fun h O=>?_);((conv=>whnf);repeat(first|apply Cs|apply Rs|apply Rx);conv=>whnf))
         refine⟨_,aH rfl rfl (O.at (.tail _ (.tail _ (.tail _ (.tail _ (.head _)))))) rfl rfl (lbE rfl) rfl,?_⟩;(conv=>whnf);repeat(first|apply Cs|apply Rs|apply Rx);conv=>whnf
         refine⟨O.ext,fun h2 F=>VLe.agg (LLe.cons (VLe.refl _ _) (LLe.cons (O.flat (es:=[a%ks.length,b%ks.length,d%ks.length].map i64) F (Nat.le_refl _) (.head _) rfl rfl (dW _)) (LLe.refl _ _)))⟩
       · have h128:¬ 128<=kind:=by
           have hc:(!ltI (Int.ofNat kind) 128)=false:=hc
           rw[dn] at hc
           simp at hc
           omega
         rw[if_neg h128]
         ((conv=>whnf);repeat(first|apply Cs|apply Rs|apply Rx);conv=>whnf);repeat((first|refine⟨_,bd rfl (O.at (.head _)) rfl rfl (lbE rfl) rfl,?_⟩|refine O.store (.tail _ (.tail _ (.tail _ (.head _)))) rfl rfl rfl rfl (lbE rfl) rfl rfl fun h O=>?_);((conv=>whnf);repeat(first|apply Cs|apply Rs|apply Rx);conv=>whnf))
         refine⟨_,aH rfl rfl (O.at (.tail _ (.tail _ (.tail _ (.head _))))) rfl rfl (lbE rfl) rfl,?_⟩;(conv=>whnf);repeat(first|apply Cs|apply Rs|apply Rx);conv=>whnf
         refine⟨O.ext,fun h2 F=>VLe.agg (LLe.cons (VLe.refl _ _) (LLe.cons (O.flat (es:=[a%ks.length,b%ks.length].map i64) F (Nat.le_refl _) (.tail _ (.head _)) rfl rfl (dW _)) (LLe.refl _ _)))⟩
     · have h6:¬ kk<6:=(by have:=dB (hc);first|omega | (simp only[Int.ofNat_eq_natCast] at this;omega))
       have eqN:∀ c:Nat,(Int.ofNat kk==(Int.ofNat c))=decide (kk=c):=fun c=>by
         rw[Bool.eq_iff_iff];simp only[Int.ofNat_eq_natCast,beq_iff_eq,decide_eq_true_eq];omega
       rw[if_neg h6]
       ((conv=>whnf);repeat(first|apply Cs|apply Rs|apply Rx);conv=>whnf)
       refine⟨_,rfl,fun hc=>?_,fun hc=>?_⟩
       · rw[if_pos (of_decide_eq_true ((eqN 6).symm.trans hc))]
         ((conv=>whnf);repeat(first|apply Cs|apply Rs|apply Rx);conv=>whnf);repeat((first|refine O.store (.tail _ (.head _)) rfl rfl rfl rfl (lbE rfl) rfl rfl fun h O=>?_|refine NewG.frz rfl ?_);((conv=>whnf);repeat(first|apply Cs|apply Rs|apply Rx);conv=>whnf))
         refine⟨_,aH rfl rfl (O.at (.tail _ (.head _))) rfl rfl (lbE rfl) rfl,?_⟩;(conv=>whnf);repeat(first|apply Cs|apply Rs|apply Rx);conv=>whnf
         exact O.ret
       rw[if_neg (of_decide_eq_false ((eqN 6).symm.trans hc))]
       ((conv=>whnf);repeat(first|apply Cs|apply Rs|apply Rx);conv=>whnf)
       refine⟨_,rfl,fun hc=>?_,fun hc=>?_⟩
       · rw[if_pos (of_decide_eq_true ((eqN 7).symm.trans hc))]
         ((conv=>whnf);repeat(first|apply Cs|apply Rs|apply Rx);conv=>whnf);repeat((first|refine O.store (.tail _ (.head _)) rfl rfl rfl rfl (lbE rfl) rfl rfl fun h O=>?_|refine NewG.frz rfl ?_);((conv=>whnf);repeat(first|apply Cs|apply Rs|apply Rx);conv=>whnf))
         refine⟨_,aH rfl rfl (O.at (.tail _ (.head _))) rfl rfl (lbE rfl) rfl,?_⟩;(conv=>whnf);repeat(first|apply Cs|apply Rs|apply Rx);conv=>whnf
         exact O.ret
       rw[if_neg (of_decide_eq_false ((eqN 7).symm.trans hc))]
       ((conv=>whnf);repeat(first|apply Cs|apply Rs|apply Rx);conv=>whnf)
       refine⟨_,rfl,fun hc=>?_,fun hc=>?_⟩
       · rw[if_pos (.inl (of_decide_eq_true ((eqN 9).symm.trans hc)))]
         rw[hc]
         ((conv=>whnf);repeat(first|apply Cs|apply Rs|apply Rx);conv=>whnf);repeat((first|refine⟨true,rfl,fun _=>?_,(fun hc=>nomatch hc)⟩|refine O.store (.tail _ (.head _)) rfl rfl rfl rfl (lbE rfl) rfl rfl fun h O=>?_|refine NewG.frz rfl ?_);((conv=>whnf);repeat(first|apply Cs|apply Rs|apply Rx);conv=>whnf))
         refine⟨_,aH rfl rfl (O.at (.tail _ (.head _))) rfl rfl (lbE rfl) rfl,?_⟩;(conv=>whnf);repeat(first|apply Cs|apply Rs|apply Rx);conv=>whnf
         exact O.ret
       have h9:¬ kk=9:=of_decide_eq_false ((eqN 9).symm.trans hc)
       rw[hc]
       ((conv=>whnf);repeat(first|apply Cs|apply Rs|apply Rx);conv=>whnf)
       refine⟨_,rfl,fun hc=>?_,fun hc=>?_⟩
       · rw[if_pos (.inr (of_decide_eq_true ((eqN 10).symm.trans hc)))]
         ((conv=>whnf);repeat(first|apply Cs|apply Rs|apply Rx);conv=>whnf);repeat((first|refine O.store (.tail _ (.head _)) rfl rfl rfl rfl (lbE rfl) rfl rfl fun h O=>?_|refine NewG.frz rfl ?_);((conv=>whnf);repeat(first|apply Cs|apply Rs|apply Rx);conv=>whnf))
         refine⟨_,aH rfl rfl (O.at (.tail _ (.head _))) rfl rfl (lbE rfl) rfl,?_⟩;(conv=>whnf);repeat(first|apply Cs|apply Rs|apply Rx);conv=>whnf
         exact O.ret
       rw[if_neg (fun h=>h.elim h9 (of_decide_eq_false ((eqN 10).symm.trans hc)))]
       ((conv=>whnf);repeat(first|apply Cs|apply Rs|apply Rx);conv=>whnf)
       refine⟨_,rfl,fun hc=>?_,fun hc=>?_⟩
       · have h10:10<kk:=(by have:=dC (hc);first|omega | (simp only[Int.ofNat_eq_natCast] at this;omega))
         exact absurd h10 (by omega)
       · have hno:¬ (10<kk/\0<T.length):=fun h=>absurd h.1 (by have:=dB (hc);first|omega | (simp only[Int.ofNat_eq_natCast] at this;omega))
         rw[hc]
         ((conv=>whnf);repeat(first|apply Cs|apply Rs|apply Rx);conv=>whnf)
         refine⟨false,rfl,(fun hc=>nomatch hc),fun _=>?_⟩;(conv=>whnf);repeat(first|apply Cs|apply Rs|apply Rx);conv=>whnf
         rw[if_neg hno]
         ((conv=>whnf);repeat(first|apply Cs|apply Rs|apply Rx);conv=>whnf);repeat(refine⟨_,(rfl:aS _ _ _ _=some _),?_⟩;((conv=>whnf);repeat(first|apply Cs|apply Rs|apply Rx);conv=>whnf))
         refine⟨_,rfl,fun hc=>?_,fun hc=>?_⟩
         · have h240:240<kind:=(by have:=dC (hc);first|omega | (simp only[Int.ofNat_eq_natCast] at this;omega))
           rw[if_pos h240]
           ((conv=>whnf);repeat(first|apply Cs|apply Rs|apply Rx);conv=>whnf);repeat((first|refine⟨_,(rfl:aS _ _ _ _=some _),?_⟩|refine lU rfl ?_|refine⟨_,tq (b:=2) rfl rfl (by decide),?_⟩);((conv=>whnf);repeat(first|apply Cs|apply Rs|apply Rx);conv=>whnf))
           refine⟨_,qd (a:=1) rfl rfl (by omega),?_⟩;(conv=>whnf);repeat(first|apply Cs|apply Rs|apply Rx);conv=>whnf
           ((conv=>whnf);repeat(first|apply Cs|apply Rs|apply Rx);conv=>whnf);repeat(refine O.store (.tail _ (.head _)) rfl rfl rfl rfl (lbE rfl) rfl rfl fun h O=>?_;((conv=>whnf);repeat(first|apply Cs|apply Rs|apply Rx);conv=>whnf))
           refine⟨_,aH rfl rfl (O.at (.tail _ (.head _))) rfl rfl (lbE rfl) rfl,?_⟩;(conv=>whnf);repeat(first|apply Cs|apply Rs|apply Rx);conv=>whnf
           exact⟨O.ext,fun h2 F=>VLe.agg (LLe.cons (VLe.refl _ _) (LLe.cons (VLe.nil _ _) (LLe.refl _ _)))⟩
         · have h240:¬ 240<kind:=(by have:=dB (hc);first|omega | (simp only[Int.ofNat_eq_natCast] at this;omega))
           rw[if_neg h240]
           ((conv=>whnf);repeat(first|apply Cs|apply Rs|apply Rx);conv=>whnf);repeat((first|refine O.store (.tail _ (.head _)) rfl rfl rfl rfl (lbE rfl) rfl rfl fun h O=>?_|refine NewG.frz rfl ?_);((conv=>whnf);repeat(first|apply Cs|apply Rs|apply Rx);conv=>whnf))
           refine⟨_,aH rfl rfl (O.at (.tail _ (.head _))) rfl rfl (lbE rfl) rfl,?_⟩;(conv=>whnf);repeat(first|apply Cs|apply Rs|apply Rx);conv=>whnf
           exact O.ret
def kp (i:Nat):ByteArray:=⟨#[110,UInt8.ofNat (48+i/10),UInt8.ofNat (48+i%10)]⟩
theorem Az:([0,1,2,3,4,5,6,7,8,9,10,11,12,13,14,15].all fun i=>match wx bare 47 #[.int .i64 (Int.ofNat i)] with
 |some (.string s)=>decide (s=kp i)
 |_=>false)=true:=by kernel_rfl
theorem CW {i:Nat} (hi:i<16):FnV Tryz.prog NG vars 47 #[i64 i] (.string (kp i)):=by
 refine Fq rfl fun h _=>?_
 have hm:i∈[0,1,2,3,4,5,6,7,8,9,10,11,12,13,14,15]:=by
  have:i=0\/i=1\/i=2\/i=3\/i=4\/i=5\/i=6\/i=7\/i=8\/i=9\/i=10\/i=11\/i=12\/i=13\/i=14\/i=15:=by omega
  simpa using this
 have:=List.all_eq_true.1 Az i hm
 split at this
 ·rename_i s hs
  rw[of_decide_eq_true this] at hs
  exact DB hs (by kernel_rfl) rfl
 ·cases this
def gR:Node:=⟨0,[],0,0⟩
def oY (d:Nat):Node:=⟨14,[d],0,0⟩
def Av (b:Nat):Node:=⟨15,[],0,b⟩
def gh (inp dffs:Nat) (mem:Bool):List Node:=List.replicate (inp%4+1) gR++List.replicate (dffs%3) (oY 0)++(if mem then [Av 0,Av 1] else [])
def ez (bus:Bool) (gs:List GData) (base:List Node):Nat->List Node
 |0=>base
 |i+1=>match gs[i]? with
  |some g=>ez bus gs base i++[iA bus g ((ez bus gs base i).map Node.kind)]
  |none=>ez bus gs base i
def cD (x:CData):List Node:=ez x.bus x.gates (gh x.inp x.dffs x.mem) (min x.gates.length 8)
def mX (first:Nat) (d:Nat->Nat):Nat->List Node->List Node
 |0,ns=>ns
 |i+1,ns=>(mX first d i ns).set (first+i) (oY (d i))
def nh (x:CData) (n j:Nat):Nat:=(if j=0 then x.data0 else x.data1)%n
def gB (x:CData):Circ :=
 let n:=(cD x).length
 ⟨mX (x.inp%4+1) (nh x n) (x.dffs%3) (cD x),(List.range n).map kp,if x.mem then [⟨[x.port0%n],[x.port1%n,x.port2%n],x.port3%n⟩] else [],(x.outs.take 3).map (· % n)++[n-1]⟩
theorem vm:∀ (l:List Node),∀ e∈l.map al,(cl e).length=4:=by
 intro l e m
 obtain⟨a,_,rfl⟩:=List.mem_map.1 m
 rfl
theorem Ay {l:List Node}{i:Nat} (hi:i<l.length):(flatC (l.map al))[0+i*4]?=some (n8 ((l.map Node.kind).getD i 0)):=by
 have hu:(l.map al)[i]?=some (al l[i]):=by rw[List.getElem?_map,List.getElem?_eq_getElem hi];rfl
 have:=sG (vm l) hu (i:=0) (by decide)
 rw[Nat.add_zero] at this
 rw[Nat.zero_add,this,List.getD,List.getElem?_map,List.getElem?_eq_getElem hi]
 rfl
theorem fL (inp dffs:Nat) (mem:Bool):(gh inp dffs mem).length=inp%4+1+dffs%3+(if mem then 2 else 0):=by
 unfold gh
 cases mem <;> simp <;> omega
theorem fh (bus:Bool) (gs:List GData) (base:List Node):∀ i,i<=gs.length->(ez bus gs base i).length=base.length+i
 |0,_=>rfl
 |i+1,h=>by
  have hg:gs[i]?=some gs[i]:=List.getElem?_eq_getElem (by omega)
  simp only[ez,hg,List.length_append,fh bus gs base i (by omega),List.length_singleton]
  omega
theorem lu {bus:Bool}{gs:List GData}{base:List Node}{i:Nat}{g:GData} (hg:gs[i]?=some g):ez bus gs base (i+1)=ez bus gs base i++[iA bus g ((ez bus gs base i).map Node.kind)]:=by
 simp only[ez,hg]
theorem oj (bus:Bool) (gs:List GData) (base:List Node) {j:Nat} (hj:j<base.length):∀ i,i<=gs.length->(ez bus gs base i)[j]?=base[j]?
 |0,_=>rfl
 |i+1,h=>by
  have hg:gs[i]?=some gs[i]:=List.getElem?_eq_getElem (by omega)
  rw[lu hg,List.getElem?_append_left (by rw[fh _ _ _ _ (by omega)];omega)]
  exact oj bus gs base hj i (by omega)
theorem ir (x:CData):(cD x).length=x.inp%4+1+x.dffs%3+(if x.mem then 2 else 0)+min x.gates.length 8:=by
 unfold cD
 rw[fh _ _ _ _ (Nat.min_le_left _ _),fL]
theorem zv (x:CData):(cD x).length<=16:=by
 rw[ir]
 have h1:=Nat.mod_lt x.inp (show 0<4 by decide)
 have h2:=Nat.mod_lt x.dffs (show 0<3 by decide)
 split <;> omega
theorem BW (x:CData):0<(cD x).length:=by rw[ir];omega
theorem Ar {inp dffs:Nat}{mem:Bool}{i:Nat} (hi:i<dffs%3):(gh inp dffs mem)[inp%4+1+i]?=some (oY 0):=by
 unfold gh
 rw[List.append_assoc,List.getElem?_append_right (by simp),List.length_replicate,List.getElem?_append_left (by simp;omega),List.getElem?_replicate,if_pos (by omega)]
theorem wu {x:CData}{i:Nat} (hi:i<x.dffs%3):(cD x)[x.inp%4+1+i]?=some (oY 0):=by
 unfold cD
 rw[oj _ _ _ (by rw[fL];split <;> omega) _ (Nat.min_le_left _ _)]
 exact Ar hi
inductive PL (h:Heap):List Value->List Value->Prop
 |nil:PL h [] []
 |cons {a b:Value} {l m:List Value}:LLe h (cl a) (cl b)->PL h l m->PL h (a::l) (b::m)
theorem CX {x:CData}{g:GData} (hg:GOk g) {N:List Node} (hn:0<N.length) (hn2:N.length<=1000) {gn:Nat}{sp:Option Nat}{cap:Nat}{ro:Bool}{h0:Heap} (hB:HasB vars h0) (hgn:h0.get gn=some (.cells (flatC (N.map al)) ro)) :
  CallD Tryz.prog NG 46 #[bH x,yH g,.slice (some ⟨gn,0,sp⟩) (N.map al).length cap] h0 (al (iA x.bus g (N.map Node.kind))) h0:=by
 have:=BL (x:=x) hg (ks:=N.map Node.kind) (by rw[List.length_map];exact hn) (by rw[List.length_map];exact hn2) (sp:=sp) (cap:=cap) hB hgn fun i hi=>Ay (by rw[List.length_map] at hi;exact hi)
 rw[List.length_map] at this
 rw[List.length_map]
 exact this
def gY (i:Nat) (K:ByteArray->Prop):Prop:=i<16/\K (kp i)
theorem kY {i:Nat}{K:ByteArray->Prop} (hm:gY i K) {h0:Heap} (hB:HasB vars h0):∃ r,K r/\CallD Tryz.prog NG 47 ⟨[i64 i]⟩ h0 (Value.string r) h0:=FnV.walk (CW hm.1) hm.2 hB
structure Asg where
 net:Nat
 value:Nat
structure U2 where
 a:Nat
 b:Nat
theorem fw {f:FuncId}{fn:Func}{c:Code} (hf:Tryz.prog.funcs[f]?=some fn) {vs:Array Value}{h:Heap} (hB:HasB vars h) {R:Type}{enc:R->Value} (hp:∀ r,PureV (enc r)) {K:R->Prop}
  (hk:Own vars h [] h->CodeS Tryz.prog NG c (dG fn.ntmps vs) h fun x e1 h1=>match x with
   |.exit _=>False
   |_=>pT Tryz.prog e1 h1 fn.results.toList fun vs=>∃ r,K r/\Ext h h1/\∀ h2,Frozen h.size h1 h2->VLe h2 (vD vs) (enc r))
  (hb:fn.body=some c:=by exact rfl) (hs:Nat.ble vs.size fn.ntmps=true:=by exact rfl):∃ r,K r/\CallD Tryz.prog NG f vs h (enc r) h :=
 fnW hM hf hb (hP _ _ rfl hf) (Nat.le_of_ble_eq_true hs) hB hp hk
theorem fg {f:FuncId}{fn:Func}{c:Code} (hf:Tryz.prog.funcs[f]?=some fn) {vs:Array Value}{h:Heap}{Q:Value->Heap->Prop}
  (hk:CodeS Tryz.prog NG c (dG fn.ntmps vs) h fun x e1 h1=>match x with
   |.exit _=>False
   |_=>pT Tryz.prog e1 h1 fn.results.toList fun vs=>Q (vD vs) h1)
  (hb:fn.body=some c:=by exact rfl) (hs:Nat.ble vs.size fn.ntmps=true:=by exact rfl):∃ v h',CallD Tryz.prog NG f vs h v h'/\Q v h' :=
 fnG hM hf hb (hP _ _ rfl hf) (Nat.le_of_ble_eq_true hs) hk
theorem fk {f:FuncId}{fn:Func}{c:Code} (hf:Tryz.prog.funcs[f]?=some fn) (hb:fn.body=some c:=by exact rfl):fnOk Tryz.prog f=true:=(oH hf hb (hP _ _ rfl hf)).1
set_option maxHeartbeats 8000000
def iT (p0:(List Nat)) (p1:Nat) (K:Int->Prop):Prop :=
 an (α:=Unit) (fun k1=>au (S:=Nat) (fun v2 nx3=>((ltN v2 p0.length)=true->∃ x4,p0[v2]?=some x4/\((eqN p1 x4)=true->K (Int.ofNat v2))/\((eqN p1 x4)=false->v2+1<2 ^ 63/\nx3 (v2+1)))/\((ltN v2 p0.length)=false->k1 ())) 0) (fun _=>K (Int.negSucc 0))
theorem sh {p0:(List Nat)}{p1:Nat}{K:Int->Prop} (hm:iT p0 p1 K) {h0:Heap} (hB:HasB vars h0):∃ r,K r/\CallD Tryz.prog NG 147 ⟨[(ah 1 n8) p0,n8 p1]⟩ h0 (z64 r) h0:=by
 unfold iT at hm
 refine fw Tryz.func147 hB (enc:=z64) (fun r=>PureV.flat rfl) fun O=>?_;conv=>whnf
 apply Cs;conv=>whnf
 apply Cs;refine gH ?_
 refine jn hm 19 [] (fun s=>s) (fun _ h=>Own vars h0 [] h) (fun _=>[]) (fun hm=>?_) ?_
 ·refine gX ?_
  refine lw 19 [0,1,7] (σ:=Nat) (fun s=>s) (fun v2 h=>Own vars h0 [] h) (fun v2=>[(8,(i64 v2))]) 0 hm O ?_
  clear hm;rintro v2 nx3 base h hm O
  refine gX ?_
  refine br hm (fun hm=>?_) fun hm=>?_
  ·refine gX ?_
   refine atF hm fun x4 hx4 hm=>?_;refine gX ?_
   refine br hm (fun hm=>?_) fun hm=>?_
   ·refine gX ?_
    exact fe hm O
   ·refine gX ?_
    refine aL hm fun hm=>?_;refine gH ?_
    exact jx (v2+1) hm O
  ·refine gX ?_
   exact jx () hm O
 ·clear hm;rintro _ base h hm O
  refine gX ?_
  exact fe hm O
def cR (p0:(List Nat)) (p1:Nat) (K:Bool->Prop):Prop :=
 iT p0 p1 (fun r1=>K (!ltI r1 (Int.ofNat 0)))
theorem jG {p0:(List Nat)}{p1:Nat}{K:Bool->Prop} (hm:cR p0 p1 K) {h0:Heap} (hB:HasB vars h0):∃ r,K r/\CallD Tryz.prog NG 139 ⟨[(ah 1 n8) p0,n8 p1]⟩ h0 (Value.bool r) h0:=by
 unfold cR at hm
 refine fw Tryz.func139 hB (enc:=Value.bool) (fun r=>PureV.flat rfl) fun O=>?_;conv=>whnf
 refine gX ?_
 refine ca (sh hm O.has) fun r1 hm=>?_;refine gX ?_
 exact fe hm O
def dq (p0:Nat) (K:Nat->Prop):Prop :=
 ((ltN 3 p0)=true->K 2)/\((ltN 3 p0)=false->K p0)
theorem ku {p0:Nat}{K:Nat->Prop} (hm:dq p0 K) {h0:Heap} (hB:HasB vars h0):∃ r,K r/\CallD Tryz.prog NG 124 ⟨[n8 p0]⟩ h0 (n8 r) h0:=by
 unfold dq at hm
 refine fw Tryz.func124 hB (enc:=n8) (fun r=>PureV.flat rfl) fun O=>?_;conv=>whnf
 refine gX ?_
 refine br hm (fun hm=>?_) fun hm=>?_
 ·refine gX ?_
  exact fe hm O
 ·refine gX ?_
  exact fe hm O
def gE (p0:(List Nat)) (K:Int->Prop):Prop :=
 an (α:=Unit) (fun k1=>au (S:=Nat) (fun v2 nx3=>((ltN v2 p0.length)=true->∃ x4,p0[v2]?=some x4/\dq x4 (fun r5=>((eqN r5 2)=true->K (Int.ofNat v2))/\((eqN r5 2)=false->v2+1<2 ^ 63/\nx3 (v2+1))))/\((ltN v2 p0.length)=false->k1 ())) 0) (fun _=>K (Int.negSucc 0))
theorem pB {p0:(List Nat)}{K:Int->Prop} (hm:gE p0 K) {h0:Heap} (hB:HasB vars h0):∃ r,K r/\CallD Tryz.prog NG 120 ⟨[(ah 1 n8) p0,(.func (.func 123) ⟨[]⟩ ⟨[]⟩)]⟩ h0 (z64 r) h0:=by
 unfold gE at hm
 refine fw Tryz.func120 hB (enc:=z64) (fun r=>PureV.flat rfl) fun O=>?_;conv=>whnf
 apply Cs;conv=>whnf
 apply Cs;refine gH ?_
 refine jn hm 19 [] (fun s=>s) (fun _ h=>Own vars h0 [] h) (fun _=>[]) (fun hm=>?_) ?_
 ·refine gX ?_
  refine lw 19 [0,1,7] (σ:=Nat) (fun s=>s) (fun v2 h=>Own vars h0 [] h) (fun v2=>[(8,(i64 v2))]) 0 hm O ?_
  clear hm;rintro v2 nx3 base h hm O
  refine gX ?_
  refine br hm (fun hm=>?_) fun hm=>?_
  ·refine gX ?_
   refine atF hm fun x4 hx4 hm=>?_;refine gH ?_
   refine fg Tryz.func123 ?_;refine gX ?_
   refine ca (ku hm O.has) fun r5 hm=>?_;refine gX ?_
   refine br hm (fun hm=>?_) fun hm=>?_
   ·refine gX ?_
    exact fe hm O
   ·refine gX ?_
    refine aL hm fun hm=>?_;refine gH ?_
    exact jx (v2+1) hm O
  ·refine gX ?_
   exact jx () hm O
 ·clear hm;rintro _ base h hm O
  refine gX ?_
  exact fe hm O
def ff (p0:(List Nat)) (K:Bool->Prop):Prop :=
 gE p0 (fun r1=>K (!ltI r1 (Int.ofNat 0)))
theorem qU {p0:(List Nat)}{K:Bool->Prop} (hm:ff p0 K) {h0:Heap} (hB:HasB vars h0):∃ r,K r/\CallD Tryz.prog NG 89 ⟨[(ah 1 n8) p0,(.func (.func 123) ⟨[]⟩ ⟨[]⟩)]⟩ h0 (Value.bool r) h0:=by
 unfold ff at hm
 refine fw Tryz.func89 hB (enc:=Value.bool) (fun r=>PureV.flat rfl) fun O=>?_;conv=>whnf
 refine gX ?_
 refine ca (pB hm O.has) fun r1 hm=>?_;refine gX ?_
 exact fe hm O
def gD (p0:(List Nat)) (K:Int->Prop):Prop :=
 an (α:=Unit) (fun k1=>au (S:=Nat) (fun v2 nx3=>((ltN v2 p0.length)=true->∃ x4,p0[v2]?=some x4/\((neN x4 3)=true->K (Int.ofNat v2))/\((neN x4 3)=false->v2+1<2 ^ 63/\nx3 (v2+1)))/\((ltN v2 p0.length)=false->k1 ())) 0) (fun _=>K (Int.negSucc 0))
theorem rB {p0:(List Nat)}{K:Int->Prop} (hm:gD p0 K) {h0:Heap} (hB:HasB vars h0):∃ r,K r/\CallD Tryz.prog NG 120 ⟨[(ah 1 n8) p0,(.func (.func 125) ⟨[]⟩ ⟨[]⟩)]⟩ h0 (z64 r) h0:=by
 unfold gD at hm
 refine fw Tryz.func120 hB (enc:=z64) (fun r=>PureV.flat rfl) fun O=>?_;conv=>whnf
 apply Cs;conv=>whnf
 apply Cs;refine gH ?_
 refine jn hm 19 [] (fun s=>s) (fun _ h=>Own vars h0 [] h) (fun _=>[]) (fun hm=>?_) ?_
 ·refine gX ?_
  refine lw 19 [0,1,7] (σ:=Nat) (fun s=>s) (fun v2 h=>Own vars h0 [] h) (fun v2=>[(8,(i64 v2))]) 0 hm O ?_
  clear hm;rintro v2 nx3 base h hm O
  refine gX ?_
  refine br hm (fun hm=>?_) fun hm=>?_
  ·refine gX ?_
   refine atF hm fun x4 hx4 hm=>?_;refine gH ?_
   refine fg Tryz.func125 ?_;refine gX ?_
   refine br hm (fun hm=>?_) fun hm=>?_
   ·refine gX ?_
    exact fe hm O
   ·refine gX ?_
    refine aL hm fun hm=>?_;refine gH ?_
    exact jx (v2+1) hm O
  ·refine gX ?_
   exact jx () hm O
 ·clear hm;rintro _ base h hm O
  refine gX ?_
  exact fe hm O
def dm (p0:Nat) (K:Bool->Prop):Prop :=
 K (!ltN 1 p0)
theorem kq {p0:Nat}{K:Bool->Prop} (hm:dm p0 K) {h0:Heap} (hB:HasB vars h0):∃ r,K r/\CallD Tryz.prog NG 121 ⟨[n8 p0]⟩ h0 (Value.bool r) h0:=by
 unfold dm at hm
 refine fw Tryz.func121 hB (enc:=Value.bool) (fun r=>PureV.flat rfl) fun O=>?_;conv=>whnf
 refine gX ?_
 exact fe hm O
def cY (p0:Nat) (K:Nat->Prop):Prop :=
 dm p0 (fun r1=>(r1=true->p0<=1/\1<256/\K (1-p0))/\(r1=false->K 2))
theorem fQ {p0:Nat}{K:Nat->Prop} (hm:cY p0 K) {h0:Heap} (hB:HasB vars h0):∃ r,K r/\CallD Tryz.prog NG 93 ⟨[n8 p0]⟩ h0 (n8 r) h0:=by
 unfold cY at hm
 refine fw Tryz.func93 hB (enc:=n8) (fun r=>PureV.flat rfl) fun O=>?_;conv=>whnf
 refine gX ?_
 refine ca (kq hm O.has) fun r1 hm=>?_;refine gX ?_
 refine br hm (fun hm=>?_) fun hm=>?_
 ·refine gX ?_
  refine A9 hm fun hm=>?_;refine gX ?_
  exact fe hm O
 ·refine gX ?_
  exact fe hm O
def bG (p0:Nat) (K:Nat->Prop):Prop :=
 K (min p0 2)
theorem cT {p0:Nat}{K:Nat->Prop} (hm:bG p0 K) {h0:Heap} (hB:HasB vars h0):∃ r,K r/\CallD Tryz.prog NG 92 ⟨[n8 p0]⟩ h0 (n8 r) h0:=by
 unfold bG at hm
 refine fw Tryz.func92 hB (enc:=n8) (fun r=>PureV.flat rfl) fun O=>?_;conv=>whnf
 refine gX ?_
 refine⟨_,E1 (a:=p0) (b:=2) rfl rfl,?_⟩;refine gX ?_
 exact fe hm O
def cI (p0:(List Nat)) (p1:Nat) (p2:Nat) (K:Nat->Prop):Prop :=
 an (α:=Nat) (fun k2=>au (S:=(Nat×Nat)) (fun (v3,v4) nx5=>((ltN v4 p0.length)=true->an (α:=Nat) (fun k7=>∃ x8,p0[v4]?=some x8/\((eqN x8 p1)=true->K p1)/\((eqN x8 p1)=false->((neN x8 p2)=true->k7 2)/\((neN x8 p2)=false->k7 v3))) (fun v6=>v4+1<2 ^ 63/\nx5 (v6,(v4+1))))/\((ltN v4 p0.length)=false->k2 v3)) (p2,0)) (fun v1=>K v1)
theorem jk {p0:(List Nat)}{p1:Nat}{p2:Nat}{K:Nat->Prop} (hm:cI p0 p1 p2 K) {h0:Heap} (hB:HasB vars h0):∃ r,K r/\CallD Tryz.prog NG 122 ⟨[(ah 1 n8) p0,n8 p1,n8 p2]⟩ h0 (n8 r) h0:=by
 unfold cI at hm
 refine fw Tryz.func122 hB (enc:=n8) (fun r=>PureV.flat rfl) fun O=>?_;conv=>whnf
 apply Cs;conv=>whnf
 apply Cs;refine gH ?_
 apply Cs;conv=>whnf
 apply Cs;refine gH ?_
 refine jn hm 28 [] (fun s=>s) (fun v1 h=>Own vars h0 [] h) (fun v1=>[(7,(n8 v1))]) (fun hm=>?_) ?_
 ·refine gX ?_
  refine lw 28 [1,2,11,12] (σ:=(Nat×Nat)) (fun s=>s) (fun (v3,v4) h=>Own vars h0 [] h) (fun (v3,v4)=>[(7,(n8 v3)),(13,(i64 v4))]) (p2,0) hm O ?_
  clear hm;rintro⟨v3,v4⟩ nx5 base h hm O
  refine gX ?_
  refine br hm (fun hm=>?_) fun hm=>?_
  ·apply Cs;conv=>whnf
   refine jn hm 28 [1,2,11,12,13] (fun s=>s) (fun v6 h=>Own vars h0 [] h) (fun v6=>[(7,(n8 v6))]) (fun hm=>?_) ?_
   ·refine gX ?_
    refine atF hm fun x8 hx8 hm=>?_;refine gX ?_
    refine br hm (fun hm=>?_) fun hm=>?_
    ·refine gX ?_
     exact fe hm O
    ·refine gX ?_
     refine br hm (fun hm=>?_) fun hm=>?_
     ·refine gX ?_
      exact jx 2 hm O
     ·refine gX ?_
      exact jx v3 hm O
   ·clear hm;rintro v6 base h hm O
    refine gX ?_
    refine aL hm fun hm=>?_;refine gH ?_
    exact jx (v6,(v4+1)) hm O
  ·refine gX ?_
   exact jx v3 hm O
 ·clear hm;rintro v1 base h hm O
  refine gX ?_
  exact fe hm O
def iF (p0:(List Nat)) (K:Nat->Prop):Prop :=
 cI p0 0 1 (fun r1=>K r1)
theorem lW {p0:(List Nat)}{K:Nat->Prop} (hm:iF p0 K) {h0:Heap} (hB:HasB vars h0):∃ r,K r/\CallD Tryz.prog NG 94 ⟨[(ah 1 n8) p0]⟩ h0 (n8 r) h0:=by
 unfold iF at hm
 refine fw Tryz.func94 hB (enc:=n8) (fun r=>PureV.flat rfl) fun O=>?_;conv=>whnf
 refine gX ?_
 refine ca (jk hm O.has) fun r1 hm=>?_;refine gX ?_
 exact fe hm O
def jA (p0:(List Nat)) (K:Nat->Prop):Prop :=
 cI p0 1 0 (fun r1=>K r1)
theorem ng {p0:(List Nat)}{K:Nat->Prop} (hm:jA p0 K) {h0:Heap} (hB:HasB vars h0):∃ r,K r/\CallD Tryz.prog NG 95 ⟨[(ah 1 n8) p0]⟩ h0 (n8 r) h0:=by
 unfold jA at hm
 refine fw Tryz.func95 hB (enc:=n8) (fun r=>PureV.flat rfl) fun O=>?_;conv=>whnf
 refine gX ?_
 refine ca (jk hm O.has) fun r1 hm=>?_;refine gX ?_
 exact fe hm O
def eP (p0:(List Nat)) (K:Nat->Prop):Prop :=
 an (α:=Nat) (fun k2=>au (S:=(Nat×Nat)) (fun (v3,v4) nx5=>((ltN v4 p0.length)=true->∃ x6,p0[v4]?=some x6/\dm x6 (fun r7=>((!r7)=true->K 2)/\((!r7)=false->v3<256/\x6<256/\v4+1<2 ^ 63/\nx5 ((v3 ^^^ x6),(v4+1)))))/\((ltN v4 p0.length)=false->k2 v3)) (0,0)) (fun v1=>K v1)
theorem lI {p0:(List Nat)}{K:Nat->Prop} (hm:eP p0 K) {h0:Heap} (hB:HasB vars h0):∃ r,K r/\CallD Tryz.prog NG 96 ⟨[(ah 1 n8) p0]⟩ h0 (n8 r) h0:=by
 unfold eP at hm
 refine fw Tryz.func96 hB (enc:=n8) (fun r=>PureV.flat rfl) fun O=>?_;conv=>whnf
 apply Cs;conv=>whnf
 apply Cs;refine gH ?_
 apply Cs;conv=>whnf
 apply Cs;refine gH ?_
 refine jn hm 20 [] (fun s=>s) (fun v1 h=>Own vars h0 [] h) (fun v1=>[(3,(n8 v1))]) (fun hm=>?_) ?_
 ·refine gX ?_
  refine lw 20 [6,7] (σ:=(Nat×Nat)) (fun s=>s) (fun (v3,v4) h=>Own vars h0 [] h) (fun (v3,v4)=>[(3,(n8 v3)),(8,(i64 v4))]) (0,0) hm O ?_
  clear hm;rintro⟨v3,v4⟩ nx5 base h hm O
  refine gX ?_
  refine br hm (fun hm=>?_) fun hm=>?_
  ·refine gX ?_
   refine atF hm fun x6 hx6 hm=>?_;refine gX ?_
   refine ca (kq hm O.has) fun r7 hm=>?_;refine gX ?_
   refine br hm (fun hm=>?_) fun hm=>?_
   ·refine gX ?_
    exact fe hm O
   ·refine gX ?_
    refine⟨_,Ef (a:=v3) (b:=x6) rfl rfl hm.1 hm.2.1,?_⟩;refine gX ?_
    replace hm:=hm.2.2
    refine aL hm fun hm=>?_;refine gH ?_
    exact jx ((v3 ^^^ x6),(v4+1)) hm O
  ·refine gX ?_
   exact jx v3 hm O
 ·clear hm;rintro v1 base h hm O
  refine gX ?_
  exact fe hm O
def gF (p0:Nat) (p1:Nat) (p2:Nat) (K:Nat->Prop):Prop :=
 ((eqN p0 0)=true->bG p1 (fun r1=>K r1))/\((eqN p0 0)=false->((eqN p0 1)=true->bG p2 (fun r2=>K r2))/\((eqN p0 1)=false->((eqN p1 p2)=true->bG p1 (fun r3=>K r3))/\((eqN p1 p2)=false->K 2)))
theorem sf {p0:Nat}{p1:Nat}{p2:Nat}{K:Nat->Prop} (hm:gF p0 p1 p2 K) {h0:Heap} (hB:HasB vars h0):∃ r,K r/\CallD Tryz.prog NG 97 ⟨[n8 p0,n8 p1,n8 p2]⟩ h0 (n8 r) h0:=by
 unfold gF at hm
 refine fw Tryz.func97 hB (enc:=n8) (fun r=>PureV.flat rfl) fun O=>?_;conv=>whnf
 refine gX ?_
 refine br hm (fun hm=>?_) fun hm=>?_
 ·refine gX ?_
  refine ca (cT hm O.has) fun r1 hm=>?_;refine gX ?_
  exact fe hm O
 ·refine gX ?_
  refine br hm (fun hm=>?_) fun hm=>?_
  ·refine gX ?_
   refine ca (cT hm O.has) fun r2 hm=>?_;refine gX ?_
   exact fe hm O
  ·refine gX ?_
   refine br hm (fun hm=>?_) fun hm=>?_
   ·refine gX ?_
    refine ca (cT hm O.has) fun r3 hm=>?_;refine gX ?_
    exact fe hm O
   ·refine gX ?_
    exact fe hm O
def gq (p0:Nat) (p1:Nat) (K:Nat->Prop):Prop :=
 ((eqN p0 0)=true->K 3)/\((eqN p0 0)=false->((eqN p0 1)=true->bG p1 (fun r1=>K r1))/\((eqN p0 1)=false->K 2))
theorem sQ {p0:Nat}{p1:Nat}{K:Nat->Prop} (hm:gq p0 p1 K) {h0:Heap} (hB:HasB vars h0):∃ r,K r/\CallD Tryz.prog NG 98 ⟨[n8 p0,n8 p1]⟩ h0 (n8 r) h0:=by
 unfold gq at hm
 refine fw Tryz.func98 hB (enc:=n8) (fun r=>PureV.flat rfl) fun O=>?_;conv=>whnf
 refine gX ?_
 refine br hm (fun hm=>?_) fun hm=>?_
 ·refine gX ?_
  exact fe hm O
 ·refine gX ?_
  refine br hm (fun hm=>?_) fun hm=>?_
  ·refine gX ?_
   refine ca (cT hm O.has) fun r1 hm=>?_;refine gX ?_
   exact fe hm O
  ·refine gX ?_
   exact fe hm O
def dQ (p0:(List Nat)) (K:Bool->Prop):Prop :=
 cR p0 0 (fun r1=>(r1=true->cR p0 1 (fun r2=>K r2))/\(r1=false->K false))
theorem nc {p0:(List Nat)}{K:Bool->Prop} (hm:dQ p0 K) {h0:Heap} (hB:HasB vars h0):∃ r,K r/\CallD Tryz.prog NG 126 ⟨[(ah 1 n8) p0]⟩ h0 (Value.bool r) h0:=by
 unfold dQ at hm
 refine fw Tryz.func126 hB (enc:=Value.bool) (fun r=>PureV.flat rfl) fun O=>?_;conv=>whnf
 refine gX ?_
 refine ca (jG hm O.has) fun r1 hm=>?_;refine gH ?_
 refine br hm (fun hm=>?_) fun hm=>?_
 ·refine gX ?_
  refine ca (jG hm O.has) fun r2 hm=>?_;refine gX ?_
  exact fe hm O
 ·refine gX ?_
  exact fe hm O
def fY (p0:(List Nat)) (K:Nat->Prop):Prop :=
 gD p0 (fun r1=>((ltI r1 (Int.ofNat 0))=true->K 3)/\((ltI r1 (Int.ofNat 0))=false->an (α:=Bool) (fun k3=>dQ p0 (fun r4=>(r4=true->k3 true)/\(r4=false->ff p0 (fun r5=>k3 r5)))) (fun v2=>(v2=true->K 2)/\(v2=false->∃ j7:Nat,r1=Int.ofNat j7/\∃ x6,p0[j7]?=some x6/\K x6))))
theorem rU {p0:(List Nat)}{K:Nat->Prop} (hm:fY p0 K) {h0:Heap} (hB:HasB vars h0):∃ r,K r/\CallD Tryz.prog NG 99 ⟨[(ah 1 n8) p0]⟩ h0 (n8 r) h0:=by
 unfold fY at hm
 refine fw Tryz.func99 hB (enc:=n8) (fun r=>PureV.flat rfl) fun O=>?_;conv=>whnf
 refine gX ?_
 refine ca (rB hm O.has) fun r1 hm=>?_;refine gX ?_
 refine br hm (fun hm=>?_) fun hm=>?_
 ·refine gX ?_
  exact fe hm O
 ·refine jn hm 24 [0,5] (fun s=>s) (fun v2 h=>Own vars h0 [] h) (fun v2=>[(12,(.bool v2))]) (fun hm=>?_) ?_
  ·refine gX ?_
   refine ca (nc hm O.has) fun r4 hm=>?_;refine gH ?_
   refine br hm (fun hm=>?_) fun hm=>?_
   ·refine gX ?_
    exact jx true hm O
   ·refine gX ?_
    refine ca (qU hm O.has) fun r5 hm=>?_;refine gH ?_
    exact jx r5 hm O
  ·clear hm;rintro v2 base h hm O
   refine gX ?_
   refine br hm (fun hm=>?_) fun hm=>?_
   ·refine gX ?_
    exact fe hm O
   ·refine gX ?_
    obtain⟨j7,hz,x6,hx6,hm⟩:=hm
    refine DS (s:=1) (enc:=n8) (j:=j7) rfl rfl rfl (congrArg (Value.int .i64) hz) hx6 ?_;refine gX ?_
    exact fe hm O
def bA (p0:Nat) (p1:(List Nat)) (K:Nat->Prop):Prop :=
 fW p0 (fun r1=>an (α:=Bool) (fun k3=>((ltN p1.length r1.1)=true->k3 true)/\((ltN p1.length r1.1)=false->k3 (ltI r1.2 (Int.ofNat p1.length)))) (fun v2=>(v2=true->K 2)/\(v2=false->((eqN p0 1)=true->K 0)/\((eqN p0 1)=false->((eqN p0 2)=true->K 1)/\((eqN p0 2)=false->((eqN p0 3)=true->∃ x4,p1[0]?=some x4/\bG x4 (fun r5=>K r5))/\((eqN p0 3)=false->((eqN p0 4)=true->∃ x6,p1[0]?=some x6/\cY x6 (fun r7=>K r7))/\((eqN p0 4)=false->((eqN p0 5)=true->iF p1 (fun r8=>K r8))/\((eqN p0 5)=false->((eqN p0 6)=true->iF p1 (fun r9=>cY r9 (fun r10=>K r10)))/\((eqN p0 6)=false->((eqN p0 7)=true->jA p1 (fun r11=>K r11))/\((eqN p0 7)=false->((eqN p0 8)=true->jA p1 (fun r12=>cY r12 (fun r13=>K r13)))/\((eqN p0 8)=false->((eqN p0 9)=true->eP p1 (fun r14=>K r14))/\((eqN p0 9)=false->((eqN p0 10)=true->eP p1 (fun r15=>cY r15 (fun r16=>K r16)))/\((eqN p0 10)=false->((eqN p0 11)=true->∃ x17,p1[0]?=some x17/\∃ x18,p1[1]?=some x18/\∃ x19,p1[2]?=some x19/\gF x17 x18 x19 (fun r20=>K r20))/\((eqN p0 11)=false->((eqN p0 12)=true->∃ x21,p1[0]?=some x21/\∃ x22,p1[1]?=some x22/\gq x21 x22 (fun r23=>K r23))/\((eqN p0 12)=false->((eqN p0 13)=true->fY p1 (fun r24=>K r24))/\((eqN p0 13)=false->K 2))))))))))))))))
theorem fq {p0:Nat}{p1:(List Nat)}{K:Nat->Prop} (hm:bA p0 p1 K) {h0:Heap} (hB:HasB vars h0):∃ r,K r/\CallD Tryz.prog NG 63 ⟨[n8 p0,(ah 1 n8) p1]⟩ h0 (n8 r) h0:=by
 unfold bA at hm
 refine fw Tryz.func63 hB (enc:=n8) (fun r=>PureV.flat rfl) fun O=>?_;conv=>whnf
 refine gX ?_
 refine ca (kb hm O.has) fun r1 hm=>?_;refine gH ?_
 refine jn hm 91 [0,1] (fun s=>s) (fun v2 h=>Own vars h0 [] h) (fun v2=>[(21,(.bool v2))]) (fun hm=>?_) ?_
 ·refine gX ?_
  refine br hm (fun hm=>?_) fun hm=>?_
  ·refine gX ?_
   exact jx true hm O
  ·refine gX ?_
   exact jx (ltI r1.2 (Int.ofNat p1.length)) hm O
 ·clear hm;rintro v2 base h hm O
  refine gX ?_
  refine br hm (fun hm=>?_) fun hm=>?_
  ·refine gX ?_
   exact fe hm O
  ·refine gX ?_
   refine br hm (fun hm=>?_) fun hm=>?_
   ·refine gX ?_
    exact fe hm O
   ·refine gX ?_
    refine br hm (fun hm=>?_) fun hm=>?_
    ·refine gX ?_
     exact fe hm O
    ·refine gX ?_
     refine br hm (fun hm=>?_) fun hm=>?_
     ·refine gX ?_
      refine atF hm fun x4 hx4 hm=>?_;refine gH ?_
      refine ca (cT hm O.has) fun r5 hm=>?_;refine gX ?_
      exact fe hm O
     ·refine gX ?_
      refine br hm (fun hm=>?_) fun hm=>?_
      ·refine gX ?_
       refine atF hm fun x6 hx6 hm=>?_;refine gH ?_
       refine ca (fQ hm O.has) fun r7 hm=>?_;refine gX ?_
       exact fe hm O
      ·refine gX ?_
       refine br hm (fun hm=>?_) fun hm=>?_
       ·refine gX ?_
        refine ca (lW hm O.has) fun r8 hm=>?_;refine gX ?_
        exact fe hm O
       ·refine gX ?_
        refine br hm (fun hm=>?_) fun hm=>?_
        ·refine gX ?_
         refine ca (lW hm O.has) fun r9 hm=>?_;refine gH ?_
         refine ca (fQ hm O.has) fun r10 hm=>?_;refine gX ?_
         exact fe hm O
        ·refine gX ?_
         refine br hm (fun hm=>?_) fun hm=>?_
         ·refine gX ?_
          refine ca (ng hm O.has) fun r11 hm=>?_;refine gX ?_
          exact fe hm O
         ·refine gX ?_
          refine br hm (fun hm=>?_) fun hm=>?_
          ·refine gX ?_
           refine ca (ng hm O.has) fun r12 hm=>?_;refine gH ?_
           refine ca (fQ hm O.has) fun r13 hm=>?_;refine gX ?_
           exact fe hm O
          ·refine gX ?_
           refine br hm (fun hm=>?_) fun hm=>?_
           ·refine gX ?_
            refine ca (lI hm O.has) fun r14 hm=>?_;refine gX ?_
            exact fe hm O
           ·refine gX ?_
            refine br hm (fun hm=>?_) fun hm=>?_
            ·refine gX ?_
             refine ca (lI hm O.has) fun r15 hm=>?_;refine gH ?_
             refine ca (fQ hm O.has) fun r16 hm=>?_;refine gX ?_
             exact fe hm O
            ·refine gX ?_
             refine br hm (fun hm=>?_) fun hm=>?_
             ·refine gX ?_
              refine atF hm fun x17 hx17 hm=>?_;refine gH ?_
              refine atF hm fun x18 hx18 hm=>?_;refine gH ?_
              refine atF hm fun x19 hx19 hm=>?_;refine gH ?_
              refine ca (sf hm O.has) fun r20 hm=>?_;refine gH ?_
              refine⟨.inl (Ext.refl _),?_⟩;refine gH ?_
              refine gX ?_
              exact fe hm O
             ·refine gX ?_
              refine br hm (fun hm=>?_) fun hm=>?_
              ·refine gX ?_
               refine atF hm fun x21 hx21 hm=>?_;refine gH ?_
               refine atF hm fun x22 hx22 hm=>?_;refine gH ?_
               refine ca (sQ hm O.has) fun r23 hm=>?_;refine gH ?_
               refine⟨.inl (Ext.refl _),?_⟩;refine gH ?_
               refine gX ?_
               exact fe hm O
              ·refine gX ?_
               refine br hm (fun hm=>?_) fun hm=>?_
               ·refine gX ?_
                refine ca (rU hm O.has) fun r24 hm=>?_;refine gX ?_
                exact fe hm O
               ·refine gX ?_
                exact fe hm O
def iI (p0:(List Nat)) (p1:Nat) (K:Int->Prop):Prop :=
 an (α:=Unit) (fun k1=>au (S:=Nat) (fun v2 nx3=>((ltN v2 p0.length)=true->∃ x4,p0[v2]?=some x4/\((eqN p1 x4)=true->K (Int.ofNat v2))/\((eqN p1 x4)=false->v2+1<2 ^ 63/\nx3 (v2+1)))/\((ltN v2 p0.length)=false->k1 ())) 0) (fun _=>K (Int.negSucc 0))
theorem rJ {p0:(List Nat)}{p1:Nat}{K:Int->Prop} (hm:iI p0 p1 K) {h0:Heap} (hB:HasB vars h0):∃ r,K r/\CallD Tryz.prog NG 138 ⟨[(ah 1 n8) p0,n8 p1]⟩ h0 (z64 r) h0:=by
 unfold iI at hm
 refine fw Tryz.func138 hB (enc:=z64) (fun r=>PureV.flat rfl) fun O=>?_;conv=>whnf
 apply Cs;conv=>whnf
 apply Cs;refine gH ?_
 refine jn hm 19 [] (fun s=>s) (fun _ h=>Own vars h0 [] h) (fun _=>[]) (fun hm=>?_) ?_
 ·refine gX ?_
  refine lw 19 [0,1,7] (σ:=Nat) (fun s=>s) (fun v2 h=>Own vars h0 [] h) (fun v2=>[(8,(i64 v2))]) 0 hm O ?_
  clear hm;rintro v2 nx3 base h hm O
  refine gX ?_
  refine br hm (fun hm=>?_) fun hm=>?_
  ·refine gX ?_
   refine atF hm fun x4 hx4 hm=>?_;refine gX ?_
   refine br hm (fun hm=>?_) fun hm=>?_
   ·refine gX ?_
    exact fe hm O
   ·refine gX ?_
    refine aL hm fun hm=>?_;refine gH ?_
    exact jx (v2+1) hm O
  ·refine gX ?_
   exact jx () hm O
 ·clear hm;rintro _ base h hm O
  refine gX ?_
  exact fe hm O
def dJ (p0:(List Nat)) (p1:Nat) (K:Bool->Prop):Prop :=
 iI p0 p1 (fun r1=>K (!ltI r1 (Int.ofNat 0)))
theorem oy {p0:(List Nat)}{p1:Nat}{K:Bool->Prop} (hm:dJ p0 p1 K) {h0:Heap} (hB:HasB vars h0):∃ r,K r/\CallD Tryz.prog NG 119 ⟨[(ah 1 n8) p0,n8 p1]⟩ h0 (Value.bool r) h0:=by
 unfold dJ at hm
 refine fw Tryz.func119 hB (enc:=Value.bool) (fun r=>PureV.flat rfl) fun O=>?_;conv=>whnf
 refine gX ?_
 refine ca (rJ hm O.has) fun r1 hm=>?_;refine gX ?_
 exact fe hm O
def gC (p0:(List Nat)) (c:Circ) (K:Int->Prop):Prop :=
 an (α:=Unit) (fun k1=>au (S:=Nat) (fun v2 nx3=>((ltN v2 p0.length)=true->∃ x4,p0[v2]?=some x4/\((ltN x4 0)=true->K (Int.ofNat v2))/\((ltN x4 0)=false->((!ltN x4 c.nodes.length)=true->K (Int.ofNat v2))/\((!ltN x4 c.nodes.length)=false->v2+1<2 ^ 63/\nx3 (v2+1))))/\((ltN v2 p0.length)=false->k1 ())) 0) (fun _=>K (Int.negSucc 0))
theorem pS {p0:(List Nat)}{c:Circ}{K:Int->Prop} (hm:gC p0 c K) {h0:Heap} (hB:HasB vars h0):∃ r,K r/\CallD Tryz.prog NG 145 ⟨[(ah 1 i64) p0,(.func (.func 115) ⟨[]⟩ ⟨[(FP (aB c))]⟩)]⟩ h0 (z64 r) h0:=by
 unfold gC at hm
 refine fw Tryz.func145 hB (enc:=z64) (fun r=>PureV.flat rfl) fun O=>?_;conv=>whnf
 apply Cs;conv=>whnf
 apply Cs;refine gH ?_
 refine jn hm 19 [] (fun s=>s) (fun _ h=>Own vars h0 [] h) (fun _=>[]) (fun hm=>?_) ?_
 ·refine gX ?_
  refine lw 19 [0,1,7] (σ:=Nat) (fun s=>s) (fun v2 h=>Own vars h0 [] h) (fun v2=>[(8,(i64 v2))]) 0 hm O ?_
  clear hm;rintro v2 nx3 base h hm O
  refine gX ?_
  refine br hm (fun hm=>?_) fun hm=>?_
  ·refine gX ?_
   refine atF hm fun x4 hx4 hm=>?_;refine gH ?_
   refine fg Tryz.func115 ?_;refine gX ?_
   refine br hm (fun hm=>?_) fun hm=>?_
   ·refine gX ?_
    refine bt ?_;refine gX ?_
    exact fe hm O
   ·refine gX ?_
    refine br hm (fun hm=>?_) fun hm=>?_
    ·refine gX ?_
     exact fe hm O
    ·refine gX ?_
     refine aL hm fun hm=>?_;refine gH ?_
     exact jx (v2+1) hm O
  ·refine gX ?_
   exact jx () hm O
 ·clear hm;rintro _ base h hm O
  refine gX ?_
  exact fe hm O
def cF (p0:(List Nat)) (c:Circ) (K:Bool->Prop):Prop :=
 gC p0 c (fun r1=>K (!ltI r1 (Int.ofNat 0)))
theorem fm {p0:(List Nat)}{c:Circ}{K:Bool->Prop} (hm:cF p0 c K) {h0:Heap} (hB:HasB vars h0):∃ r,K r/\CallD Tryz.prog NG 135 ⟨[(ah 1 i64) p0,(.func (.func 115) ⟨[]⟩ ⟨[(FP (aB c))]⟩)]⟩ h0 (Value.bool r) h0:=by
 unfold cF at hm
 refine fw Tryz.func135 hB (enc:=Value.bool) (fun r=>PureV.flat rfl) fun O=>?_;conv=>whnf
 refine gX ?_
 refine ca (pS hm O.has) fun r1 hm=>?_;refine gX ?_
 exact fe hm O
def gZ (p0:(List Nat)) (c:Circ) (K:Int->Prop):Prop :=
 an (α:=Unit) (fun k1=>au (S:=Nat) (fun v2 nx3=>((ltN v2 p0.length)=true->∃ x4,p0[v2]?=some x4/\∃ x5,c.nodes[x4]?=some x5/\((neN x5.kind 12)=true->K (Int.ofNat v2))/\((neN x5.kind 12)=false->v2+1<2 ^ 63/\nx3 (v2+1)))/\((ltN v2 p0.length)=false->k1 ())) 0) (fun _=>K (Int.negSucc 0))
theorem qS {p0:(List Nat)}{c:Circ}{K:Int->Prop} (hm:gZ p0 c K) {h0:Heap} (hB:HasB vars h0):∃ r,K r/\CallD Tryz.prog NG 145 ⟨[(ah 1 i64) p0,(.func (.func 141) ⟨[]⟩ ⟨[(FP (aB c))]⟩)]⟩ h0 (z64 r) h0:=by
 unfold gZ at hm
 refine fw Tryz.func145 hB (enc:=z64) (fun r=>PureV.flat rfl) fun O=>?_;conv=>whnf
 apply Cs;conv=>whnf
 apply Cs;refine gH ?_
 refine jn hm 19 [] (fun s=>s) (fun _ h=>Own vars h0 [] h) (fun _=>[]) (fun hm=>?_) ?_
 ·refine gX ?_
  refine lw 19 [0,1,7] (σ:=Nat) (fun s=>s) (fun v2 h=>Own vars h0 [] h) (fun v2=>[(8,(i64 v2))]) 0 hm O ?_
  clear hm;rintro v2 nx3 base h hm O
  refine gX ?_
  refine br hm (fun hm=>?_) fun hm=>?_
  ·refine gX ?_
   refine atF hm fun x4 hx4 hm=>?_;refine gH ?_
   refine fg Tryz.func141 ?_;refine gX ?_
   refine atF hm fun x5 hx5 hm=>?_;refine gX ?_
   refine br hm (fun hm=>?_) fun hm=>?_
   ·refine gX ?_
    exact fe hm O
   ·refine gX ?_
    refine aL hm fun hm=>?_;refine gH ?_
    exact jx (v2+1) hm O
  ·refine gX ?_
   exact jx () hm O
 ·clear hm;rintro _ base h hm O
  refine gX ?_
  exact fe hm O
def fP (p0:(List Nat)) (c:Circ) (K:Bool->Prop):Prop :=
 gZ p0 c (fun r1=>K (!ltI r1 (Int.ofNat 0)))
theorem si {p0:(List Nat)}{c:Circ}{K:Bool->Prop} (hm:fP p0 c K) {h0:Heap} (hB:HasB vars h0):∃ r,K r/\CallD Tryz.prog NG 135 ⟨[(ah 1 i64) p0,(.func (.func 141) ⟨[]⟩ ⟨[(FP (aB c))]⟩)]⟩ h0 (Value.bool r) h0:=by
 unfold fP at hm
 refine fw Tryz.func135 hB (enc:=Value.bool) (fun r=>PureV.flat rfl) fun O=>?_;conv=>whnf
 refine gX ?_
 refine ca (qS hm O.has) fun r1 hm=>?_;refine gX ?_
 exact fe hm O
def cg (p0:Nat) (K:Bool->Prop):Prop :=
 ((!ltN p0 1)=true->K (!ltN 13 p0))/\((!ltN p0 1)=false->K false)
theorem fB {p0:Nat}{K:Bool->Prop} (hm:cg p0 K) {h0:Heap} (hB:HasB vars h0):∃ r,K r/\CallD Tryz.prog NG 62 ⟨[n8 p0]⟩ h0 (Value.bool r) h0:=by
 unfold cg at hm
 refine fw Tryz.func62 hB (enc:=Value.bool) (fun r=>PureV.flat rfl) fun O=>?_;conv=>whnf
 refine gX ?_
 refine br hm (fun hm=>?_) fun hm=>?_
 ·refine gX ?_
  exact fe hm O
 ·refine gX ?_
  exact fe hm O
def cS (p0:Circ) (p1:Node) (K:Bool->Prop):Prop :=
 ((neN p1.kind 15)=true->((eqN p1.mem 0)=true->K (eqN p1.bit 0))/\((eqN p1.mem 0)=false->K false))/\((neN p1.kind 15)=false->((!ltN p1.mem 0)=true->((ltN p1.mem p0.mems.length)=true->((!ltN p1.bit 0)=true->∃ x1,p0.mems[p1.mem]?=some x1/\K (ltN p1.bit x1.data.length))/\((!ltN p1.bit 0)=false->K false))/\((ltN p1.mem p0.mems.length)=false->K false))/\((!ltN p1.mem 0)=false->K false))
theorem pd {p0:Circ}{p1:Node}{K:Bool->Prop} (hm:cS p0 p1 K) {h0:Heap} (hB:HasB vars h0):∃ r,K r/\CallD Tryz.prog NG 142 ⟨[aB p0,al p1]⟩ h0 (Value.bool r) h0:=by
 unfold cS at hm
 refine fw Tryz.func142 hB (enc:=Value.bool) (fun r=>PureV.flat rfl) fun O=>?_;conv=>whnf
 refine gX ?_
 refine fz ?_;refine gH ?_
 refine fz ?_;refine gX ?_
 refine br hm (fun hm=>?_) fun hm=>?_
 ·refine gX ?_
  refine br hm (fun hm=>?_) fun hm=>?_
  ·refine gX ?_
   exact fe hm O
  ·refine gX ?_
   exact fe hm O
 ·refine gX ?_
  refine br hm (fun hm=>?_) fun hm=>?_
  ·refine gX ?_
   refine dF ?_
   refine gX ?_
   refine br hm (fun hm=>?_) fun hm=>?_
   ·refine gX ?_
    refine br hm (fun hm=>?_) fun hm=>?_
    ·refine gX ?_
     refine dF ?_
     refine gX ?_
     refine atF hm fun x1 hx1 hm=>?_;refine gH ?_
     refine dF ?_
     refine gX ?_
     exact fe hm O
    ·refine gX ?_
     exact fe hm O
   ·refine gX ?_
    refine bf ?_;refine gX ?_
    exact fe hm O
  ·refine gX ?_
   refine bf ?_;refine gH ?_
   refine bf ?_;refine gX ?_
   exact fe hm O
def dr (p0:Circ) (p1:Node) (K:Nat->Prop):Prop :=
 fW p1.kind (fun r1=>((ltN 15 p1.kind)=true->K 7)/\((ltN 15 p1.kind)=false->an (α:=Bool) (fun k3=>((ltN p1.ins.length r1.1)=true->k3 true)/\((ltN p1.ins.length r1.1)=false->k3 (ltI r1.2 (Int.ofNat p1.ins.length)))) (fun v2=>(v2=true->K 8)/\(v2=false->cF p1.ins p0 (fun r4=>(r4=true->K 1)/\(r4=false->an (α:=Bool) (fun k6=>((eqN p1.kind 13)=true->fP p1.ins p0 (fun r7=>k6 r7))/\((eqN p1.kind 13)=false->k6 false)) (fun v5=>(v5=true->K 7)/\(v5=false->cS p0 p1 (fun r8=>((!r8)=true->K 1)/\((!r8)=false->K 0))))))))))
theorem oi {p0:Circ}{p1:Node}{K:Nat->Prop} (hm:dr p0 p1 K) {h0:Heap} (hB:HasB vars h0):∃ r,K r/\CallD Tryz.prog NG 132 ⟨[aB p0,al p1]⟩ h0 (i64 r) h0:=by
 unfold dr at hm
 refine fw Tryz.func132 hB (enc:=i64) (fun r=>PureV.flat rfl) fun O=>?_;conv=>whnf
 refine gX ?_
 refine fz ?_;refine gH ?_
 refine fz ?_;refine gX ?_
 refine ca (kb hm O.has) fun r1 hm=>?_;refine gX ?_
 refine br hm (fun hm=>?_) fun hm=>?_
 ·refine gX ?_
  exact fe hm O
 ·refine jn hm 53 [2,3,7] (fun s=>s) (fun v2 h=>Own vars h0 [] h) (fun v2=>[(19,(.bool v2))]) (fun hm=>?_) ?_
  ·refine gX ?_
   refine br hm (fun hm=>?_) fun hm=>?_
   ·refine gX ?_
    exact jx true hm O
   ·refine gX ?_
    exact jx (ltI r1.2 (Int.ofNat p1.ins.length)) hm O
  ·clear hm;rintro v2 base h hm O
   refine gX ?_
   refine br hm (fun hm=>?_) fun hm=>?_
   ·refine gX ?_
    exact fe hm O
   ·refine gX ?_
    refine dF ?_
    refine gX ?_
    refine dF ?_
    refine gX ?_
    refine fg Tryz.func82 ?_;refine gX ?_
    refine fz ?_;refine gX ?_
    refine⟨.inl (Ext.refl _),?_⟩;refine gH ?_
    refine ca (fm hm O.has) fun r4 hm=>?_;refine gH ?_
    refine⟨.inl (Ext.refl _),?_⟩;refine gH ?_
    refine gX ?_
    refine br hm (fun hm=>?_) fun hm=>?_
    ·refine gX ?_
     exact fe hm O
    ·refine jn hm 53 [2,3] (fun s=>s) (fun v5 h=>Own vars h0 [] h) (fun v5=>[(38,(.bool v5))]) (fun hm=>?_) ?_
     ·refine gX ?_
      refine br hm (fun hm=>?_) fun hm=>?_
      ·refine gX ?_
       refine ca (si hm O.has) fun r7 hm=>?_;refine gH ?_
       exact jx r7 hm O
      ·refine gX ?_
       exact jx false hm O
     ·clear hm;rintro v5 base h hm O
      refine gX ?_
      refine br hm (fun hm=>?_) fun hm=>?_
      ·refine gX ?_
       exact fe hm O
      ·refine gX ?_
       refine ca (pd hm O.has) fun r8 hm=>?_;refine gX ?_
       refine br hm (fun hm=>?_) fun hm=>?_
       ·refine gX ?_
        exact fe hm O
       ·refine gX ?_
        exact fe hm O
def cL (p0:Circ) (p1:Memo) (K:Nat->Prop):Prop :=
 an (α:=Bool) (fun k2=>((eqN p1.addr.length 0)=true->k2 true)/\((eqN p1.addr.length 0)=false->((ltN 8 p1.addr.length)=true->k2 true)/\((ltN 8 p1.addr.length)=false->((eqN p1.data.length 0)=true->k2 true)/\((eqN p1.data.length 0)=false->k2 (ltN 32 p1.data.length))))) (fun v1=>(v1=true->K 8)/\(v1=false->an (α:=Bool) (fun k4=>cF p1.addr p0 (fun r5=>(r5=true->k4 true)/\(r5=false->cF p1.data p0 (fun r6=>(r6=true->k4 true)/\(r6=false->((ltN p1.write 0)=true->k4 true)/\((ltN p1.write 0)=false->k4 (!ltN p1.write p0.nodes.length))))))) (fun v3=>(v3=true->K 1)/\(v3=false->K 0))))
theorem ly {p0:Circ}{p1:Memo}{K:Nat->Prop} (hm:cL p0 p1 K) {h0:Heap} (hB:HasB vars h0):∃ r,K r/\CallD Tryz.prog NG 134 ⟨[aB p0,av p1]⟩ h0 (i64 r) h0:=by
 unfold cL at hm
 refine fw Tryz.func134 hB (enc:=i64) (fun r=>PureV.flat rfl) fun O=>?_;conv=>whnf
 refine gX ?_
 refine fz ?_;refine gH ?_
 refine fz ?_;refine gX ?_
 refine fg Tryz.func82 ?_;refine gX ?_
 refine fz ?_;refine gH ?_
 apply Cs;conv=>whnf
 apply Cs;refine gH ?_
 apply Cs;conv=>whnf
 refine gH ?_
 apply Cs;conv=>whnf
 apply Cs;conv=>whnf
 refine jn hm 37 [3,6] (fun s=>s) (fun v1 h=>Own vars h0 [] h) (fun v1=>[(9,(.bool v1))]) (fun hm=>?_) ?_
 ·refine gX ?_
  refine fg Tryz.func144 ?_;refine gX ?_
  refine br hm (fun hm=>?_) fun hm=>?_
  ·refine gX ?_
   refine bt ?_;refine gH ?_
   exact jx true hm O
  ·refine gX ?_
   refine br hm (fun hm=>?_) fun hm=>?_
   ·refine gX ?_
    exact jx true hm O
   ·refine gX ?_
    refine fg Tryz.func144 ?_;refine gX ?_
    refine br hm (fun hm=>?_) fun hm=>?_
    ·refine gX ?_
     exact jx true hm O
    ·refine gX ?_
     exact jx (ltN 32 p1.data.length) hm O
 ·clear hm;rintro v1 base h hm O
  refine gX ?_
  refine br hm (fun hm=>?_) fun hm=>?_
  ·refine gX ?_
   exact fe hm O
  ·refine jn hm 37 [] (fun s=>s) (fun v3 h=>Own vars h0 [] h) (fun v3=>[(20,(.bool v3))]) (fun hm=>?_) ?_
   ·refine gX ?_
    refine ca (fm hm O.has) fun r5 hm=>?_;refine gH ?_
    refine br hm (fun hm=>?_) fun hm=>?_
    ·refine gX ?_
     refine bt ?_;refine gH ?_
     exact jx true hm O
    ·refine gX ?_
     refine ca (fm hm O.has) fun r6 hm=>?_;refine gH ?_
     refine br hm (fun hm=>?_) fun hm=>?_
     ·refine gX ?_
      exact jx true hm O
     ·refine gX ?_
      refine fg Tryz.func115 ?_;refine gX ?_
      refine br hm (fun hm=>?_) fun hm=>?_
      ·refine gX ?_
       exact jx true hm O
      ·refine gX ?_
       exact jx (!ltN p1.write p0.nodes.length) hm O
   ·clear hm;rintro v3 base h hm O
    refine gX ?_
    refine br hm (fun hm=>?_) fun hm=>?_
    ·refine gX ?_
     exact fe hm O
    ·refine gX ?_
     exact fe hm O
def cZ (p0:Circ) (K:Nat->Prop):Prop :=
 an (α:=Bool) (fun k2=>((ltN 16384 p0.nodes.length)=true->k2 true)/\((ltN 16384 p0.nodes.length)=false->((ltN 16 p0.mems.length)=true->k2 true)/\((ltN 16 p0.mems.length)=false->k2 (ltN 16384 p0.outs.length)))) (fun v1=>(v1=true->K 3)/\(v1=false->((neN p0.names.length p0.nodes.length)=true->K 8)/\((neN p0.names.length p0.nodes.length)=false->an (α:=Unit) (fun k3=>au (S:=Nat) (fun v4 nx5=>((ltN v4 p0.nodes.length)=true->∃ x6,p0.nodes[v4]?=some x6/\dr p0 x6 (fun r9=>((neN r9 0)=true->K r9)/\((neN r9 0)=false->v4+1<2 ^ 63/\nx5 (v4+1))))/\((ltN v4 p0.nodes.length)=false->k3 ())) 0) (fun _=>fV p0 (fun r10=>((neN r10 0)=true->K r10)/\((neN r10 0)=false->an (α:=Unit) (fun k11=>au (S:=Nat) (fun v12 nx13=>((ltN v12 p0.mems.length)=true->∃ x14,p0.mems[v12]?=some x14/\cL p0 x14 (fun r17=>((neN r17 0)=true->K r17)/\((neN r17 0)=false->v12+1<2 ^ 63/\nx13 (v12+1))))/\((ltN v12 p0.mems.length)=false->k11 ())) 0) (fun _=>cF p0.outs p0 (fun r18=>(r18=true->K 1)/\(r18=false->K 0)))))))))
theorem mU {p0:Circ}{K:Nat->Prop} (hm:cZ p0 K) {h0:Heap} (hB:HasB vars h0):∃ r,K r/\CallD Tryz.prog NG 116 ⟨[aB p0]⟩ h0 (i64 r) h0:=by
 unfold cZ at hm
 refine fw Tryz.func116 hB (enc:=i64) (fun r=>PureV.flat rfl) fun O=>?_;conv=>whnf
 refine gX ?_
 refine fz ?_;refine gH ?_
 apply Cs;conv=>whnf
 apply Cs;conv=>whnf
 refine jn hm 73 [1] (fun s=>s) (fun v1 h=>Own vars h0 [] h) (fun v1=>[(10,(.bool v1))]) (fun hm=>?_) ?_
 ·refine gX ?_
  refine br hm (fun hm=>?_) fun hm=>?_
  ·refine gX ?_
   refine bt ?_;refine gH ?_
   exact jx true hm O
  ·refine gX ?_
   refine br hm (fun hm=>?_) fun hm=>?_
   ·refine gX ?_
    exact jx true hm O
   ·refine gX ?_
    exact jx (ltN 16384 p0.outs.length) hm O
 ·clear hm;rintro v1 base h hm O
  refine gX ?_
  refine br hm (fun hm=>?_) fun hm=>?_
  ·refine gX ?_
   exact fe hm O
  ·refine gX ?_
   refine br hm (fun hm=>?_) fun hm=>?_
   ·refine gX ?_
    exact fe hm O
   ·apply Cs;conv=>whnf
    refine jn hm 73 [1] (fun s=>s) (fun _ h=>Own vars h0 [] h) (fun _=>[]) (fun hm=>?_) ?_
    ·refine gX ?_
     refine lw 73 [1,36,37] (σ:=Nat) (fun s=>s) (fun v4 h=>Own vars h0 [] h) (fun v4=>[(38,(i64 v4))]) 0 hm O ?_
     clear hm;rintro v4 nx5 base h hm O
     refine gX ?_
     refine br hm (fun hm=>?_) fun hm=>?_
     ·refine gX ?_
      refine atF hm fun x6 hx6 hm=>?_;refine gH ?_
      refine O.new (ak (l:=[(n8 0),nS,(i64 0),(i64 0)]) rfl rfl rfl) fun g7 h O=>?_;refine gH ?_
      refine O.stC 4 (.head _) [(n8 x6.kind),((ah 1 i64) x6.ins),(i64 x6.mem),(i64 x6.bit)] fun h O=>?_;refine gX ?_
      refine ldA (O.at (.head _)) ?_;refine gH ?_
      refine ca (oi hm O.has) fun r9 hm=>?_;refine gX ?_
      refine br hm (fun hm=>?_) fun hm=>?_
      ·refine gX ?_
       exact fe hm O
      ·refine gX ?_
       refine aL hm fun hm=>?_;refine gH ?_
       exact jx (v4+1) hm (O.sel [] (by decide))
     ·refine gX ?_
      exact jx () hm O
    ·clear hm;rintro _ base h hm O
     refine gX ?_
     refine ca (mR hm O.has) fun r10 hm=>?_;refine gX ?_
     refine br hm (fun hm=>?_) fun hm=>?_
     ·refine gX ?_
      exact fe hm O
     ·apply Cs;conv=>whnf
      refine jn hm 73 [1] (fun s=>s) (fun _ h=>Own vars h0 [] h) (fun _=>[]) (fun hm=>?_) ?_
      ·refine gX ?_
       refine lw 73 [1,55,56] (σ:=Nat) (fun s=>s) (fun v12 h=>Own vars h0 [] h) (fun v12=>[(57,(i64 v12))]) 0 hm O ?_
       clear hm;rintro v12 nx13 base h hm O
       refine gX ?_
       refine br hm (fun hm=>?_) fun hm=>?_
       ·refine gX ?_
        refine atF hm fun x14 hx14 hm=>?_;refine gH ?_
        refine O.new (ak (l:=[nS,nS,(i64 0)]) rfl rfl rfl) fun g15 h O=>?_;refine gH ?_
        refine O.stC 3 (.head _) [((ah 1 i64) x14.addr),((ah 1 i64) x14.data),(i64 x14.write)] fun h O=>?_;refine gX ?_
        refine ldA (O.at (.head _)) ?_;refine gH ?_
        refine ca (ly hm O.has) fun r17 hm=>?_;refine gX ?_
        refine br hm (fun hm=>?_) fun hm=>?_
        ·refine gX ?_
         exact fe hm O
        ·refine gX ?_
         refine aL hm fun hm=>?_;refine gH ?_
         exact jx (v12+1) hm (O.sel [] (by decide))
       ·refine gX ?_
        exact jx () hm O
      ·clear hm;rintro _ base h hm O
       refine gX ?_
       refine dF ?_
       refine gX ?_
       refine dF ?_
       refine gX ?_
       refine fg Tryz.func82 ?_;refine gX ?_
       refine fz ?_;refine gX ?_
       refine⟨.inl (Ext.refl _),?_⟩;refine gH ?_
       refine ca (fm hm O.has) fun r18 hm=>?_;refine gH ?_
       refine⟨.inl (Ext.refl _),?_⟩;refine gH ?_
       refine gX ?_
       refine br hm (fun hm=>?_) fun hm=>?_
       ·refine gX ?_
        exact fe hm O
       ·refine gX ?_
        exact fe hm O
def cM (p0:Circ) (p1:(List Nat)) (K:(List Nat)->Prop):Prop :=
 an (α:=(List Nat)) (fun k5=>au (S:=((List Nat)×Nat)) (fun (v7,v8) nx10=>((ltN v8 p0.nodes.length)=true->an (α:=(List Nat)) (fun k14=>∃ x15,p0.nodes[v8]?=some x15/\dJ p1 x15.kind (fun r18=>(r18=true->(v7.length+([v8]:(List Nat)).length)*8<=2 ^ 47/\k14 (v7++([v8]:(List Nat))))/\(r18=false->k14 v7))) (fun v12=>v8+1<2 ^ 63/\nx10 (v12,(v8+1))))/\((ltN v8 p0.nodes.length)=false->k5 v7)) (([]:List Nat),0)) (fun v3=>K v3)
theorem gL {p0:Circ}{p1:(List Nat)}{K:(List Nat)->Prop} (hm:cM p0 p1 K) {h0:Heap} (hB:HasB vars h0):∃ r,K r/\CallD Tryz.prog NG 88 ⟨[aB p0,(ah 1 n8) p1]⟩ h0 ((ah 1 i64) r) h0:=by
 unfold cM at hm
 refine fw Tryz.func88 hB (enc:=(ah 1 i64)) (fun r=>ee (fun _=>ai.cons (PureV.flat rfl) ai.nil)) fun O=>?_;conv=>whnf
 refine gX ?_
 refine fz ?_;refine gH ?_
 apply Cs;conv=>whnf
 apply Cs;refine gH ?_
 have O:=O.aN (.cells (flatC ((([]:List Nat)).map i64)) false)
 refine jn (σ:=(List Nat)×Option Nat) hm 27 [] (fun s=>s.1) (fun (v3,a2) h=>(a2=none->v3=[])/\Own vars h0 [(a2,.cells (flatC (v3.map i64)) false)] h) (fun (v3,a2)=>[(5,(ag 1 a2 (v3.map i64)))]) (fun hm=>?_) ?_
 ·refine gX ?_
  refine lw 27 [1,9,10] (σ:=((List Nat)×Nat)×Option Nat) (fun s=>s.1) (fun ((v7,v8),a6) h=>(a6=none->v7=[])/\Own vars h0 [(a6,.cells (flatC (v7.map i64)) false)] h) (fun ((v7,v8),a6)=>[(5,(ag 1 a6 (v7.map i64))),(11,(i64 v8))]) ((([]:List Nat),0),none) hm ⟨(fun _=>rfl),O⟩ ?_
  clear hm;rintro⟨⟨v7,v8⟩,a6⟩ nx10 base h hm ⟨ha9,O⟩
  refine gX ?_
  refine br hm (fun hm=>?_) fun hm=>?_
  ·apply Cs;conv=>whnf
   refine jn (σ:=(List Nat)×Option Nat) hm 27 [1,9,10,11] (fun s=>s.1) (fun (v12,a11) h=>(a11=none->v12=[])/\Own vars h0 [(a11,.cells (flatC (v12.map i64)) false)] h) (fun (v12,a11)=>[(5,(ag 1 a11 (v12.map i64)))]) (fun hm=>?_) ?_
   ·refine gX ?_
    refine atF hm fun x15 hx15 hm=>?_;refine gH ?_
    refine O.new (ak (l:=[(n8 0),nS,(i64 0),(i64 0)]) rfl rfl rfl) fun g16 h O=>?_;refine gH ?_
    refine O.stC 4 (.head _) [(n8 x15.kind),((ah 1 i64) x15.ins),(i64 x15.mem),(i64 x15.bit)] fun h O=>?_;refine gX ?_
    refine ca (oy hm O.has) fun r18 hm=>?_;refine gX ?_
    refine br hm (fun hm=>?_) fun hm=>?_
    ·refine gX ?_
     refine fz ?_;refine gH ?_
     refine O.apL (enc:=i64) (l:=v7) (new:=([v8]:(List Nat))) 1 (.tail _ (.head _)) ha9 hm fun a19 h ha20 O hm=>?_;refine gH ?_
     exact jx ((v7++([v8]:(List Nat))),a19) hm ⟨ha20,(O.sel [1] (by decide))⟩
    ·refine gX ?_
     exact jx (v7,a6) hm ⟨ha9,(O.sel [1] (by decide))⟩
   ·clear hm;rintro⟨v12,a11⟩ base h hm ⟨ha13,O⟩
    refine gX ?_
    refine aL hm fun hm=>?_;refine gH ?_
    exact jx ((v12,(v8+1)),a11) hm ⟨ha13,O⟩
  ·refine gX ?_
   exact jx (v7,a6) hm ⟨ha9,O⟩
 ·clear hm;rintro⟨v3,a2⟩ base h hm ⟨ha4,O⟩
  refine gX ?_
  refine fg Tryz.func27 ?_;refine gX ?_
  refine ij (s:=1) (enc:=i64) (l:=v3) (n:=v3.length) (m:=v3.length) rfl rfl rfl rfl rfl rfl rfl ?_;refine gX ?_
  exact⟨v3,hm,O.ext,fun h2 F=>O.jY F (Nat.le_refl _) (.head _) ha4 (fun _=>rfl)⟩
def cd (p0:Circ) (K:((List Nat)×Nat)->Prop):Prop :=
 cZ p0 (fun r1=>((neN r1 0)=true->K ([],r1))/\((neN r1 0)=false->8*p0.nodes.length<=2 ^ 48/\p0.nodes.length<2 ^ 63/\8*p0.nodes.length<=2 ^ 48/\p0.nodes.length<2 ^ 63/\an (α:=((List Nat)×(List Nat))) (fun k11=>au (S:=((List Nat)×(List Nat)×Nat)) (fun (v12,v14,v15) nx17=>((ltN v15 p0.nodes.length)=true->an (α:=((List Nat)×(List Nat))) (fun k22=>∃ x23,p0.nodes[v15]?=some x23/\an (α:=(List Nat)) (fun k28=>cg x23.kind (fun r29=>(r29=true->v15<p0.nodes.length/\∃ x30,v12[v15]?=some x30/\k28 (v12.set v15 x23.ins.length))/\(r29=false->k28 v12))) (fun v26=>v15<p0.nodes.length/\∃ x31,v26[v15]?=some x31/\((eqN x31 0)=true->(v14.length+([v15]:(List Nat)).length)*8<=2 ^ 47/\k22 (v26,(v14++([v15]:(List Nat)))))/\((eqN x31 0)=false->k22 (v26,v14)))) (fun (v18,v20)=>v15+1<2 ^ 63/\nx17 (v18,v20,(v15+1))))/\((ltN v15 p0.nodes.length)=false->k11 (v12,v14))) ((List.replicate p0.nodes.length (0:Nat)),([]:List Nat),0)) (fun (v7,v9)=>fA p0 (fun r34=>an (α:=((List Nat)×Nat)) (fun k37=>au (S:=((List Nat)×(List Nat)×(List Nat)×Nat)) (fun (v38,v39,v41,v42) nx44=>((ltN v42 v41.length)=true->∃ x45,v41[v42]?=some x45/\v42+1<2 ^ 63/\∃ x47,r34[x45]?=some x47/\((eqN x47.length 0)=true->nx44 (v38,v39,v41,(v42+1)))/\((eqN x47.length 0)=false->∃ x48,r34[x45]?=some x48/\au (S:=((List Nat)×(List Nat)×(List Nat)×Nat)) (fun (v49,v50,v52,v53) nx55=>((ltN v53 x48.length)=true->an (α:=((List Nat)×(List Nat)×(List Nat))) (fun k61=>∃ x62,x48[v53]?=some x62/\∃ x65,p0.nodes[x62.node]?=some x65/\cg x65.kind (fun r66=>((!r66)=true->k61 (v49,v50,v52))/\((!r66)=false->x62.node<p0.nodes.length/\∃ x67,v49[x62.node]?=some x67/\x45<p0.nodes.length/\∃ x68,v49[x45]?=some x68/\x68+1<2 ^ 63/\x62.node<p0.nodes.length/\∃ x69,v49[x62.node]?=some x69/\x62.node<p0.nodes.length/\∃ x70,v50[x62.node]?=some x70/\1<=x70/\x70<2 ^ 63/\x62.node<p0.nodes.length/\∃ x71,v50[x62.node]?=some x71/\x62.node<p0.nodes.length/\∃ x72,(v50.set x62.node (x70-1))[x62.node]?=some x72/\((eqN x72 0)=true->(v52.length+([x62.node]:(List Nat)).length)*8<=2 ^ 47/\k61 ((v49.set x62.node (max x67 (x68+1))),(v50.set x62.node (x70-1)),(v52++([x62.node]:(List Nat)))))/\((eqN x72 0)=false->k61 ((v49.set x62.node (max x67 (x68+1))),(v50.set x62.node (x70-1)),v52))))) (fun (v56,v57,v59)=>v53+1<2 ^ 63/\nx55 (v56,v57,v59,(v53+1))))/\((ltN v53 x48.length)=false->nx44 (v49,v50,v52,(v42+1)))) (v38,v39,v41,0)))/\((ltN v42 v41.length)=false->k37 (v38,v42))) ((List.replicate p0.nodes.length (0:Nat)),v7,v9,0)) (fun (v35,v36)=>((ltN v36 p0.nodes.length)=true->K ([],6))/\((ltN v36 p0.nodes.length)=false->p0.nodes.length=v35.length/\K (v35,0)))))))
theorem im {p0:Circ}{K:((List Nat)×Nat)->Prop} (hm:cd p0 K) {h0:Heap} (hB:HasB vars h0):∃ r,K r/\CallD Tryz.prog NG 84 ⟨[aB p0]⟩ h0 ((fun (r:((List Nat)×Nat))=>Value.tuple ⟨[(ah 1 i64) (r.1),i64 (r.2)]⟩) r) h0:=by
 unfold cd at hm
 refine fw Tryz.func84 hB (enc:=(fun (r:((List Nat)×Nat))=>Value.tuple ⟨[(ah 1 i64) (r.1),i64 (r.2)]⟩)) (fun r=>PureV.tup (ai.cons (ee (fun _=>ai.cons (PureV.flat rfl) ai.nil)) (ai.cons (PureV.flat rfl) (ai.nil)))) fun O=>?_;conv=>whnf
 refine gX ?_
 refine fz ?_;refine gX ?_
 refine ca (mU hm O.has) fun r1 hm=>?_;refine gX ?_
 refine br hm (fun hm=>?_) fun hm=>?_
 ·refine gX ?_
  exact⟨([],r1),hm,O.ext,fun h2 F=>VLe.tup (LLe.cons (VLe.nil _ _) (LLe.cons (VLe.refl _ _) (LLe.nil _)))⟩
 ·refine gX ?_
  refine O.mkL (enc:=i64) 8 1 0 hm fun g2 h O hm=>?_;refine gX ?_
  refine O.mkL (enc:=i64) 8 1 0 hm fun g4 h O hm=>?_;refine gH ?_
  apply Cs;conv=>whnf
  apply Cs;refine gH ?_
  have O:=O.aN (.cells (flatC ((([]:List Nat)).map i64)) false)
  refine jn (σ:=((List Nat)×(List Nat))×Option Nat) hm 131 [1,5,6] (fun s=>s.1) (fun ((v7,v9),a8) h=>(a8=none->v9=[])/\Own vars h0 [(sC g2 (flatC ((List.replicate p0.nodes.length (0:Nat)).map i64))),(sC g4 (flatC (v7.map i64))),(a8,.cells (flatC (v9.map i64)) false)] h) (fun ((v7,v9),a8)=>[(7,(ag 1 a8 (v9.map i64)))]) (fun hm=>?_) ?_
  ·refine gX ?_
   refine lw 131 [1,5,6,29,30] (σ:=((List Nat)×(List Nat)×Nat)×Option Nat) (fun s=>s.1) (fun ((v12,v14,v15),a13) h=>(a13=none->v14=[])/\Own vars h0 [(sC g2 (flatC ((List.replicate p0.nodes.length (0:Nat)).map i64))),(sC g4 (flatC (v12.map i64))),(a13,.cells (flatC (v14.map i64)) false)] h) (fun ((v12,v14,v15),a13)=>[(7,(ag 1 a13 (v14.map i64))),(31,(i64 v15))]) (((List.replicate p0.nodes.length (0:Nat)),([]:List Nat),0),none) hm ⟨(fun _=>rfl),(O.sel [2,1,0] (by decide))⟩ ?_
   clear hm;rintro⟨⟨v12,v14,v15⟩,a13⟩ nx17 base h hm ⟨ha16,O⟩
   refine gX ?_
   refine br hm (fun hm=>?_) fun hm=>?_
   ·apply Cs;conv=>whnf
    refine jn (σ:=((List Nat)×(List Nat))×Option Nat) hm 131 [1,5,6,29,30,31] (fun s=>s.1) (fun ((v18,v20),a19) h=>(a19=none->v20=[])/\Own vars h0 [(sC g2 (flatC ((List.replicate p0.nodes.length (0:Nat)).map i64))),(sC g4 (flatC (v18.map i64))),(a19,.cells (flatC (v20.map i64)) false)] h) (fun ((v18,v20),a19)=>[(7,(ag 1 a19 (v20.map i64)))]) (fun hm=>?_) ?_
    ·refine gX ?_
     refine atF hm fun x23 hx23 hm=>?_;refine gH ?_
     refine O.new (ak (l:=[(n8 0),nS,(i64 0),(i64 0)]) rfl rfl rfl) fun g24 h O=>?_;refine gH ?_
     refine O.stC 4 (.head _) [(n8 x23.kind),((ah 1 i64) x23.ins),(i64 x23.mem),(i64 x23.bit)] fun h O=>?_;refine gH ?_
     refine jn hm 131 [1,5,6,7,8,29,30,31] (fun s=>s) (fun v26 h=>(a13=none->v14=[])/\Own vars h0 [(sC g2 (flatC ((List.replicate p0.nodes.length (0:Nat)).map i64))),(sC g4 (flatC (v26.map i64))),(a13,.cells (flatC (v14.map i64)) false)] h) (fun v26=>[]) (fun hm=>?_) ?_
     ·refine gX ?_
      refine ca (fB hm O.has) fun r29 hm=>?_;refine gX ?_
      refine br hm (fun hm=>?_) fun hm=>?_
      ·refine gX ?_
       refine ix 1 hm fun x30 hx30 hm=>?_;refine gH ?_
       refine O.stE 1 (.tail _ (.tail _ (.head _))) hx30 x23.ins.length fun h O=>?_;refine gH ?_
       exact jx (v12.set v15 x23.ins.length) hm ⟨ha16,(O.sel [1,2,3] (by decide))⟩
      ·refine gX ?_
       exact jx v12 hm ⟨ha16,(O.sel [1,2,3] (by decide))⟩
     ·clear hm;rintro v26 base h hm ⟨ha27,O⟩
      refine gX ?_
      refine ix 1 hm fun x31 hx31 hm=>?_;refine gH ?_
      refine ldE (s:=1) (i:=0) (O.at (.tail _ (.head _))) hx31 ?_;refine gX ?_
      refine br hm (fun hm=>?_) fun hm=>?_
      ·refine gX ?_
       refine fz ?_;refine gH ?_
       refine O.apL (enc:=i64) (l:=v14) (new:=([v15]:(List Nat))) 1 (.tail _ (.tail _ (.head _))) ha27 hm fun a32 h ha33 O hm=>?_;refine gH ?_
       exact jx ((v26,(v14++([v15]:(List Nat)))),a32) hm ⟨ha33,O⟩
      ·refine gX ?_
       exact jx ((v26,v14),a13) hm ⟨ha27,O⟩
    ·clear hm;rintro⟨⟨v18,v20⟩,a19⟩ base h hm ⟨ha21,O⟩
     refine gX ?_
     refine aL hm fun hm=>?_;refine gH ?_
     exact jx ((v18,v20,(v15+1)),a19) hm ⟨ha21,O⟩
   ·refine gX ?_
    exact jx ((v12,v14),a13) hm ⟨ha16,O⟩
  ·clear hm;rintro⟨⟨v7,v9⟩,a8⟩ base h hm ⟨ha10,O⟩
   refine gX ?_
   refine ca (ic hm O.has) fun r34 hm=>?_;refine gH ?_
   apply Cs;conv=>whnf
   apply Cs;refine gH ?_
   apply Cs;conv=>whnf
   apply Cs;conv=>whnf
   refine jn hm 131 [1,5] (fun s=>s) (fun (v35,v36) h=>Own vars h0 [(sC g2 (flatC (v35.map i64)))] h) (fun (v35,v36)=>[(11,(i64 v36))]) (fun hm=>?_) ?_
   ·refine gX ?_
    refine lw 131 [1,5,6,10] (σ:=((List Nat)×(List Nat)×(List Nat)×Nat)×Option Nat) (fun s=>s.1) (fun ((v38,v39,v41,v42),a40) h=>(a40=none->v41=[])/\Own vars h0 [(sC g2 (flatC (v38.map i64))),(sC g4 (flatC (v39.map i64))),(a40,.cells (flatC (v41.map i64)) false)] h) (fun ((v38,v39,v41,v42),a40)=>[(7,(ag 1 a40 (v41.map i64))),(11,(i64 v42))]) (((List.replicate p0.nodes.length (0:Nat)),v7,v9,0),a8) hm ⟨ha10,O⟩ ?_
    clear hm;rintro⟨⟨v38,v39,v41,v42⟩,a40⟩ nx44 base h hm ⟨ha43,O⟩
    refine gX ?_
    refine br hm (fun hm=>?_) fun hm=>?_
    ·refine gX ?_
     obtain⟨x45,hx45,hm⟩:=hm
     have h9:=hm
     obtain⟨g46,rfl⟩:=dM ha43 hx45
     replace hm:=h9
     refine cE (s:=1) (j:=v42) rfl rfl rfl rfl (by rw[List.length_map];exact aj hx45) ?_;refine gH ?_
     refine ldE (s:=1) (i:=0) (O.at (.tail _ (.tail _ (.head _)))) hx45 ?_;refine gX ?_
     refine aL hm fun hm=>?_;refine gX ?_
     refine atF hm fun x47 hx47 hm=>?_;refine gX ?_
     refine br hm (fun hm=>?_) fun hm=>?_
     ·refine gX ?_
      exact jx ((v38,v39,v41,(v42+1)),(some g46)) hm ⟨cz,O⟩
     ·refine gX ?_
      refine atF hm fun x48 hx48 hm=>?_;refine gX ?_
      refine lw 131 [1,5,6,10,11,12,76,77] (σ:=((List Nat)×(List Nat)×(List Nat)×Nat)×Option Nat) (fun s=>s.1) (fun ((v49,v50,v52,v53),a51) h=>(a51=none->v52=[])/\Own vars h0 [(sC g2 (flatC (v49.map i64))),(sC g4 (flatC (v50.map i64))),(a51,.cells (flatC (v52.map i64)) false)] h) (fun ((v49,v50,v52,v53),a51)=>[(7,(ag 1 a51 (v52.map i64))),(78,(i64 v53))]) ((v38,v39,v41,0),(some g46)) hm ⟨cz,O⟩ ?_
      clear hm;rintro⟨⟨v49,v50,v52,v53⟩,a51⟩ nx55 base h hm ⟨ha54,O⟩
      refine gX ?_
      refine br hm (fun hm=>?_) fun hm=>?_
      ·apply Cs;conv=>whnf
       refine jn (σ:=((List Nat)×(List Nat)×(List Nat))×Option Nat) hm 131 [1,5,6,10,11,12,76,77,78] (fun s=>s.1) (fun ((v56,v57,v59),a58) h=>(a58=none->v59=[])/\Own vars h0 [(sC g2 (flatC (v56.map i64))),(sC g4 (flatC (v57.map i64))),(a58,.cells (flatC (v59.map i64)) false)] h) (fun ((v56,v57,v59),a58)=>[(7,(ag 1 a58 (v59.map i64)))]) (fun hm=>?_) ?_
       ·refine gX ?_
        refine atF hm fun x62 hx62 hm=>?_;refine gH ?_
        refine O.new (ak (l:=[(i64 0),(i64 0)]) rfl rfl rfl) fun g63 h O=>?_;refine gH ?_
        refine O.stC 2 (.head _) [(i64 x62.node),(i64 x62.pin)] fun h O=>?_;refine gX ?_
        refine atF hm fun x65 hx65 hm=>?_;refine gH ?_
        refine ca (fB hm O.has) fun r66 hm=>?_;refine gX ?_
        refine br hm (fun hm=>?_) fun hm=>?_
        ·refine gX ?_
         exact jx ((v49,v50,v52),a51) hm ⟨ha54,(O.sel [1,2,3] (by decide))⟩
        ·refine gX ?_
         refine ix 1 hm fun x67 hx67 hm=>?_;refine gH ?_
         refine⟨_,ae rfl (O.at (.tail _ (.head _))) rfl (bC (enc:=i64) (s:=1) (k:=0) (fun _=>rfl) hx67 rfl),?_⟩;refine gH ?_
         refine ix 1 hm fun x68 hx68 hm=>?_;refine gH ?_
         refine⟨_,ae rfl (O.at (.tail _ (.head _))) rfl (bC (enc:=i64) (s:=1) (k:=0) (fun _=>rfl) hx68 rfl),?_⟩;refine gH ?_
         refine aL hm fun hm=>?_;refine gH ?_
         refine⟨_,FD (a:=x67) (b:=(x68+1)) rfl rfl,?_⟩;refine gH ?_
         refine ix 1 hm fun x69 hx69 hm=>?_;refine gH ?_
         refine O.stE 1 (.tail _ (.head _)) hx69 (max x67 (x68+1)) fun h O=>?_;refine gH ?_
         refine gX ?_
         refine ix 1 hm fun x70 hx70 hm=>?_;refine gH ?_
         refine ldE (s:=1) (i:=0) (O.at (.tail _ (.tail _ (.head _)))) hx70 ?_;refine gH ?_
         refine pP hm fun hm=>?_;refine gH ?_
         refine ix 1 hm fun x71 hx71 hm=>?_;refine gH ?_
         refine O.stE 1 (.tail _ (.tail _ (.head _))) hx71 (x70-1) fun h O=>?_;refine gX ?_
         refine ix 1 hm fun x72 hx72 hm=>?_;refine gH ?_
         refine ldE (s:=1) (i:=0) (O.at (.tail _ (.tail _ (.head _)))) hx72 ?_;refine gX ?_
         refine br hm (fun hm=>?_) fun hm=>?_
         ·refine gX ?_
          refine fz ?_;refine gH ?_
          refine O.apL (enc:=i64) (l:=v52) (new:=([x62.node]:(List Nat))) 1 (.tail _ (.tail _ (.tail _ (.head _)))) ha54 hm fun a73 h ha74 O hm=>?_;refine gH ?_
          exact jx (((v49.set x62.node (max x67 (x68+1))),(v50.set x62.node (x70-1)),(v52++([x62.node]:(List Nat)))),a73) hm ⟨ha74,(O.sel [1,2,3] (by decide))⟩
         ·refine gX ?_
          exact jx (((v49.set x62.node (max x67 (x68+1))),(v50.set x62.node (x70-1)),v52),a51) hm ⟨ha54,(O.sel [1,2,3] (by decide))⟩
       ·clear hm;rintro⟨⟨v56,v57,v59⟩,a58⟩ base h hm ⟨ha60,O⟩
        refine gX ?_
        refine aL hm fun hm=>?_;refine gH ?_
        exact jx ((v56,v57,v59,(v53+1)),a58) hm ⟨ha60,O⟩
      ·refine gX ?_
       exact jx ((v49,v50,v52,(v42+1)),a51) hm ⟨ha54,O⟩
    ·refine gX ?_
     exact jx (v38,v42) hm (O.sel [0] (by decide))
   ·clear hm;rintro⟨v35,v36⟩ base h hm O
    refine gX ?_
    refine br hm (fun hm=>?_) fun hm=>?_
    ·refine gX ?_
     exact⟨([],6),hm,O.ext,fun h2 F=>VLe.tup (LLe.cons (VLe.nil _ _) (LLe.cons (VLe.refl _ _) (LLe.nil _)))⟩
    ·refine gX ?_
     obtain⟨hn75,hm⟩:=hm
     exact⟨(v35,0),hm,O.ext,fun h2 F=>VLe.tup (LLe.cons (O.jC F (Nat.le_refl _) (.head _) (fun _=>rfl) hn75) (LLe.cons (VLe.refl _ _) (LLe.nil _)))⟩
def cW (p0:Circ) (K:Nat->Prop):Prop :=
 cd p0 (fun r1=>K r1.2)
theorem nb {p0:Circ}{K:Nat->Prop} (hm:cW p0 K) {h0:Heap} (hB:HasB vars h0):∃ r,K r/\CallD Tryz.prog NG 79 ⟨[aB p0]⟩ h0 (i64 r) h0:=by
 unfold cW at hm
 refine fw Tryz.func79 hB (enc:=i64) (fun r=>PureV.flat rfl) fun O=>?_;conv=>whnf
 refine gX ?_
 refine fz ?_;refine gX ?_
 refine ca (im hm O.has) fun r1 hm=>?_;refine gX ?_
 exact fe hm O
def fX (p0:Nat) (K:Bool->Prop):Prop :=
 K (neN p0 p0)
theorem mh {p0:Nat}{K:Bool->Prop} (hm:fX p0 K) {h0:Heap} (hB:HasB vars h0):∃ r,K r/\CallD Tryz.prog NG 118 ⟨[i64 p0]⟩ h0 (Value.bool r) h0:=by
 unfold fX at hm
 refine fw Tryz.func118 hB (enc:=Value.bool) (fun r=>PureV.flat rfl) fun O=>?_;conv=>whnf
 refine gX ?_
 exact fe hm O
def dZ (p0:Nat) (p1:Nat) (K:Int->Prop):Prop :=
 fX p0 (fun r1=>fX p1 (fun r2=>(r1=true->(r2=true->K (Int.ofNat 0))/\(r2=false->K (Int.negSucc 0)))/\(r1=false->(r2=true->K (Int.ofNat 1))/\(r2=false->((ltN p0 p1)=true->K (Int.negSucc 0))/\((ltN p0 p1)=false->((ltN p1 p0)=true->K (Int.ofNat 1))/\((ltN p1 p0)=false->K (Int.ofNat 0)))))))
theorem pK {p0:Nat}{p1:Nat}{K:Int->Prop} (hm:dZ p0 p1 K) {h0:Heap} (hB:HasB vars h0):∃ r,K r/\CallD Tryz.prog NG 87 ⟨[i64 p0,i64 p1]⟩ h0 (z64 r) h0:=by
 unfold dZ at hm
 refine fw Tryz.func87 hB (enc:=z64) (fun r=>PureV.flat rfl) fun O=>?_;conv=>whnf
 refine gX ?_
 refine ca (mh hm O.has) fun r1 hm=>?_;refine gX ?_
 refine ca (mh hm O.has) fun r2 hm=>?_;refine gX ?_
 refine br hm (fun hm=>?_) fun hm=>?_
 ·refine gX ?_
  refine br hm (fun hm=>?_) fun hm=>?_
  ·refine gX ?_
   exact fe hm O
  ·refine gX ?_
   exact fe hm O
 ·refine gX ?_
  refine br hm (fun hm=>?_) fun hm=>?_
  ·refine gX ?_
   exact fe hm O
  ·refine gX ?_
   refine br hm (fun hm=>?_) fun hm=>?_
   ·refine gX ?_
    exact fe hm O
   ·refine gX ?_
    refine br hm (fun hm=>?_) fun hm=>?_
    ·refine gX ?_
     exact fe hm O
    ·refine gX ?_
     exact fe hm O
def fG (data:List Nat) (lev:List Nat) (nd:Nat) (a:Nat) (b:Nat) (K:(List Nat)->Prop):Prop :=
 a+1<2 ^ 63/\au (S:=((List Nat)×Nat)) (fun (v1,v2) nx3=>((ltN v2 b)=true->an (α:=(List Nat)) (fun k5=>au (S:=((List Nat)×Nat)) (fun (v6,v7) nx8=>an (α:=Bool) (fun k10=>((ltN a v7)=true->v7<nd/\∃ x11,v6[v7]?=some x11/\1<=v7/\v7<2 ^ 63/\(v7-1)<nd/\∃ x12,v6[(v7-1)]?=some x12/\∃ x13,lev[x11]?=some x13/\∃ x14,lev[x12]?=some x14/\dZ x13 x14 (fun r15=>k10 (ltI r15 (Int.ofNat 0))))/\((ltN a v7)=false->k10 false)) (fun v9=>(v9=true->1<=v7/\v7<2 ^ 63/\1<=v7/\v7<2 ^ 63/\(v7-1)<nd/\∃ x16,v6[(v7-1)]?=some x16/\v7<nd/\∃ x17,v6[v7]?=some x17/\v7<nd/\∃ x18,v6[v7]?=some x18/\(v7-1)<nd/\∃ x19,(v6.set v7 x16)[(v7-1)]?=some x19/\1<=v7/\v7<2 ^ 63/\nx8 (((v6.set v7 x16).set (v7-1) x17),(v7-1)))/\(v9=false->k5 v6))) (v1,v2)) (fun v4=>v2+1<2 ^ 63/\nx3 (v4,(v2+1))))/\((ltN v2 b)=false->K v1)) (data,(a+1))
theorem nj {data:List Nat}{lev:List Nat}{nd:Nat}{a:Nat}{b:Nat}{gd:Nat}{gl:Nat}{L:List Slot}{K:(List Nat)->Prop} (hm:fG data lev nd a b K) {h0 h:Heap}  (O:Own vars h0 (((some gd),.cells (flatC (data.map i64)) false)::((some gl),.cells [((ah 1 i64) lev)] false)::L) h):∃ v h',CallD Tryz.prog NG 136 ⟨[(.slice (some ⟨gd,0,none⟩) nd nd),(i64 a),(i64 b),(.func (.func 86) ⟨[]⟩ ⟨[(.pointer (some ⟨gl,0,none⟩))]⟩)]⟩ h v h'/\∃ (w0:(List Nat)),K w0/\v=.tuple ⟨[]⟩/\Own vars h0 (((some gd),.cells (flatC (w0.map i64)) false)::((some gl),.cells [((ah 1 i64) lev)] false)::L) h'/\True:=by
 unfold fG at hm
 refine fg Tryz.func136 (Q:=fun v h'=>∃ (w0:(List Nat)),K w0/\v=.tuple ⟨[]⟩/\Own vars h0 (((some gd),.cells (flatC (w0.map i64)) false)::((some gl),.cells [((ah 1 i64) lev)] false)::L) h'/\True) ?_;conv=>whnf
 refine gX ?_
 refine aL hm fun hm=>?_;refine gX ?_
 refine lw 53 [0,1,2,3] (σ:=((List Nat)×Nat)) (fun s=>s) (fun (v1,v2) h=>Own vars h0 (((some gd),.cells (flatC (v1.map i64)) false)::((some gl),.cells [((ah 1 i64) lev)] false)::L) h) (fun (v1,v2)=>[(8,(i64 v2))]) (data,(a+1)) hm O ?_
 clear hm;rintro⟨v1,v2⟩ nx3 base h hm O
 refine gX ?_
 refine br hm (fun hm=>?_) fun hm=>?_
 ·apply Cs;conv=>whnf
  refine jn hm 53 [0,1,2,3,8] (fun s=>s) (fun v4 h=>Own vars h0 (((some gd),.cells (flatC (v4.map i64)) false)::((some gl),.cells [((ah 1 i64) lev)] false)::L) h) (fun v4=>[]) (fun hm=>?_) ?_
  ·refine gX ?_
   refine lw 53 [0,1,2,3,8] (σ:=((List Nat)×Nat)) (fun s=>s) (fun (v6,v7) h=>Own vars h0 (((some gd),.cells (flatC (v6.map i64)) false)::((some gl),.cells [((ah 1 i64) lev)] false)::L) h) (fun (v6,v7)=>[(9,(i64 v7))]) (v1,v2) hm O ?_
   clear hm;rintro⟨v6,v7⟩ nx8 base h hm O
   conv=>whnf
   apply Cs;conv=>whnf
   refine jn hm 53 [0,1,2,3,8,9] (fun s=>s) (fun v9 h=>Own vars h0 (((some gd),.cells (flatC (v6.map i64)) false)::((some gl),.cells [((ah 1 i64) lev)] false)::L) h) (fun v9=>[(34,(.bool v9))]) (fun hm=>?_) ?_
   ·refine gX ?_
    refine br hm (fun hm=>?_) fun hm=>?_
    ·refine gX ?_
     refine ix 1 hm fun x11 hx11 hm=>?_;refine gH ?_
     refine⟨_,ae rfl (O.at (.head _)) rfl (bC (enc:=i64) (s:=1) (k:=0) (fun _=>rfl) hx11 rfl),?_⟩;refine gH ?_
     refine pP hm fun hm=>?_;refine gH ?_
     refine ix 1 hm fun x12 hx12 hm=>?_;refine gH ?_
     refine⟨_,ae rfl (O.at (.head _)) rfl (bC (enc:=i64) (s:=1) (k:=0) (fun _=>rfl) hx12 rfl),?_⟩;refine gH ?_
     refine fg Tryz.func86 ?_;refine gX ?_
     first|refine⟨.inr (.inr (ae rfl (O.at (.tail _ (.head _))) rfl rfl)),?_⟩|refine⟨.inr (.inl (by kernel_rfl)),?_⟩
     refine gX ?_
     refine atF hm fun x13 hx13 hm=>?_;refine gH ?_
     first|refine⟨.inr (.inr (ae rfl (O.at (.tail _ (.head _))) rfl rfl)),?_⟩|refine⟨.inr (.inl (by kernel_rfl)),?_⟩
     refine gX ?_
     refine atF hm fun x14 hx14 hm=>?_;refine gH ?_
     refine ca (pK hm O.has) fun r15 hm=>?_;refine gH ?_
     refine⟨.inl (Ext.refl _),?_⟩;refine gH ?_
     refine gX ?_
     refine⟨.inl (Ext.refl _),?_⟩;refine gH ?_
     exact jx (ltI r15 (Int.ofNat 0)) hm O
    ·refine gX ?_
     exact jx false hm O
   ·clear hm;rintro v9 base h hm O
    refine gX ?_
    refine br hm (fun hm=>?_) fun hm=>?_
    ·refine gX ?_
     refine pP hm fun hm=>?_;refine gH ?_
     refine pP hm fun hm=>?_;refine gH ?_
     refine ix 1 hm fun x16 hx16 hm=>?_;refine gH ?_
     refine⟨_,ae rfl (O.at (.head _)) rfl (bC (enc:=i64) (s:=1) (k:=0) (fun _=>rfl) hx16 rfl),?_⟩;refine gH ?_
     refine ix 1 hm fun x17 hx17 hm=>?_;refine gH ?_
     refine⟨_,ae rfl (O.at (.head _)) rfl (bC (enc:=i64) (s:=1) (k:=0) (fun _=>rfl) hx17 rfl),?_⟩;refine gH ?_
     refine ix 1 hm fun x18 hx18 hm=>?_;refine gH ?_
     refine O.stE 1 (.head _) hx18 x16 fun h O=>?_;refine gH ?_
     refine ix 1 hm fun x19 hx19 hm=>?_;refine gH ?_
     refine O.stE 1 (.head _) hx19 x17 fun h O=>?_;refine gH ?_
     refine gX ?_
     refine pP hm fun hm=>?_;refine gH ?_
     exact jx (((v6.set v7 x16).set (v7-1) x17),(v7-1)) hm O
    ·refine gX ?_
     exact jx v6 hm O
  ·clear hm;rintro v4 base h hm O
   refine gX ?_
   refine aL hm fun hm=>?_;refine gH ?_
   exact jx (v4,(v2+1)) hm O
 ·refine gX ?_
  exact⟨v1,hm,rfl,O,trivial⟩
def eF (data:List Nat) (lev:List Nat) (nd:Nat) (n:Nat) (K:(List Nat)->Prop):Prop :=
 an (α:=((List Nat)×Nat)) (fun k3=>au (S:=((List Nat)×Nat×Nat)) (fun (v4,v5,v6) nx7=>((!ltN n v6)=true->fG v4 lev nd v5 v6 (fun x8=>v6+20<2 ^ 63/\nx7 (x8,v6,(v6+20))))/\((!ltN n v6)=false->k3 (v4,v5))) (data,0,20)) (fun (v1,v2)=>fG v1 lev nd v2 n (fun x9=>au (S:=Nat) (fun v10 nx11=>((ltN v10 n)=true->2*v10<2 ^ 63/\an (α:=Unit) (fun k12=>au (S:=Unit) (fun _ _nx13=>((!ltN n (2*v10))=true->0+v10<2 ^ 63/\False)/\((!ltN n (2*v10))=false->k12 ())) ()) (fun _=>an (α:=Unit) (fun k14=>0+v10<2 ^ 63/\((ltN (0+v10) n)=true->False)/\((ltN (0+v10) n)=false->k14 ())) (fun _=>v10*2<2 ^ 63/\nx11 (v10*2))))/\((ltN v10 n)=false->K x9)) 20))
theorem pV {data:List Nat}{lev:List Nat}{nd:Nat}{n:Nat}{gd:Nat}{gl:Nat}{L:List Slot}{K:(List Nat)->Prop} (hm:eF data lev nd n K) {h0 h:Heap}  (O:Own vars h0 (((some gd),.cells (flatC (data.map i64)) false)::((some gl),.cells [((ah 1 i64) lev)] false)::L) h):∃ v h',CallD Tryz.prog NG 117 ⟨[(.slice (some ⟨gd,0,none⟩) nd nd),(i64 n),(.func (.func 86) ⟨[]⟩ ⟨[(.pointer (some ⟨gl,0,none⟩))]⟩)]⟩ h v h'/\∃ (w0:(List Nat)),K w0/\v=.tuple ⟨[]⟩/\Own vars h0 (((some gd),.cells (flatC (w0.map i64)) false)::((some gl),.cells [((ah 1 i64) lev)] false)::L) h'/\True:=by
 unfold eF at hm
 refine fg Tryz.func117 (Q:=fun v h'=>∃ (w0:(List Nat)),K w0/\v=.tuple ⟨[]⟩/\Own vars h0 (((some gd),.cells (flatC (w0.map i64)) false)::((some gl),.cells [((ah 1 i64) lev)] false)::L) h'/\True) ?_;conv=>whnf
 apply Cs;conv=>whnf
 apply Cs;refine gH ?_
 apply Cs;conv=>whnf
 apply Cs;refine gH ?_
 refine jn hm 63 [0,1,2,6] (fun s=>s) (fun (v1,v2) h=>Own vars h0 (((some gd),.cells (flatC (v1.map i64)) false)::((some gl),.cells [((ah 1 i64) lev)] false)::L) h) (fun (v1,v2)=>[(7,(i64 v2))]) (fun hm=>?_) ?_
 ·refine gX ?_
  refine lw 63 [0,1,2,6] (σ:=((List Nat)×Nat×Nat)) (fun s=>s) (fun (v4,v5,v6) h=>Own vars h0 (((some gd),.cells (flatC (v4.map i64)) false)::((some gl),.cells [((ah 1 i64) lev)] false)::L) h) (fun (v4,v5,v6)=>[(7,(i64 v5)),(8,(i64 v6))]) (data,0,20) hm O ?_
  clear hm;rintro⟨v4,v5,v6⟩ nx7 base h hm O
  refine gX ?_
  refine br hm (fun hm=>?_) fun hm=>?_
  ·refine gX ?_
   obtain⟨_,h,hcall,x8,hm,rfl,O,_⟩:=nj hm  O
   refine⟨_,_,hcall,?_⟩;refine gX ?_
   refine aL hm fun hm=>?_;refine gH ?_
   exact jx (x8,v6,(v6+20)) hm O
  ·refine gX ?_
   exact jx (v4,v5) hm O
 ·clear hm;rintro⟨v1,v2⟩ base h hm O
  refine gX ?_
  obtain⟨_,h,hcall,x9,hm,rfl,O,_⟩:=nj hm  O
  refine⟨_,_,hcall,?_⟩;refine gX ?_
  refine lw 63 [0,1,2] (σ:=Nat) (fun s=>s) (fun v10 h=>Own vars h0 (((some gd),.cells (flatC (x9.map i64)) false)::((some gl),.cells [((ah 1 i64) lev)] false)::L) h) (fun v10=>[(6,(i64 v10))]) 20 hm O ?_
  clear hm;rintro v10 nx11 base h hm O
  refine gX ?_
  refine br hm (fun hm=>?_) fun hm=>?_
  ·refine gX ?_
   refine DD hm fun hm=>?_;refine gH ?_
   refine jn hm 63 [0,1,2,6] (fun s=>s) (fun _ h=>Own vars h0 (((some gd),.cells (flatC (x9.map i64)) false)::((some gl),.cells [((ah 1 i64) lev)] false)::L) h) (fun _=>[(7,(i64 0))]) (fun hm=>?_) ?_
   ·refine gX ?_
    refine lw 63 [0,1,2,6] (σ:=Unit) (fun s=>s) (fun _ h=>Own vars h0 (((some gd),.cells (flatC (x9.map i64)) false)::((some gl),.cells [((ah 1 i64) lev)] false)::L) h) (fun _=>[(7,(i64 0)),(8,(i64 (2*v10)))]) () hm O ?_
    clear hm;rintro _ nx13 base h hm O
    refine gX ?_
    refine br hm (fun hm=>?_) fun hm=>?_
    ·refine gX ?_
     refine aL hm fun hm=>?_;refine gH ?_
     exact False.elim hm
    ·refine gX ?_
     exact jx () hm O
   ·clear hm;rintro _ base h hm O
    conv=>whnf
    refine jn hm 63 [0,1,2,6] (fun s=>s) (fun _ h=>Own vars h0 (((some gd),.cells (flatC (x9.map i64)) false)::((some gl),.cells [((ah 1 i64) lev)] false)::L) h) (fun _=>[]) (fun hm=>?_) ?_
    ·refine gX ?_
     refine aL hm fun hm=>?_;refine gX ?_
     refine br hm (fun hm=>?_) fun hm=>?_
     ·refine gX ?_
      exact False.elim hm
     ·refine gX ?_
      exact jx () hm O
    ·clear hm;rintro _ base h hm O
     refine gX ?_
     refine DD hm fun hm=>?_;refine gH ?_
     exact jx (v10*2) hm O
  ·refine gX ?_
   exact⟨x9,hm,rfl,O,trivial⟩
def jz (data:List Nat) (lev:List Nat) (nd:Nat) (K:(List Nat)->Prop):Prop :=
 eF data lev nd nd (fun x1=>K x1)
theorem tG {data:List Nat}{lev:List Nat}{nd:Nat}{gd:Nat}{gl:Nat}{L:List Slot}{K:(List Nat)->Prop} (hm:jz data lev nd K) {h0 h:Heap}  (O:Own vars h0 (((some gd),.cells (flatC (data.map i64)) false)::((some gl),.cells [((ah 1 i64) lev)] false)::L) h):∃ v h',CallD Tryz.prog NG 85 ⟨[(.slice (some ⟨gd,0,none⟩) nd nd),(.func (.func 86) ⟨[]⟩ ⟨[(.pointer (some ⟨gl,0,none⟩))]⟩)]⟩ h v h'/\∃ (w0:(List Nat)),K w0/\v=.tuple ⟨[]⟩/\Own vars h0 (((some gd),.cells (flatC (w0.map i64)) false)::((some gl),.cells [((ah 1 i64) lev)] false)::L) h'/\True:=by
 unfold jz at hm
 refine fg Tryz.func85 (Q:=fun v h'=>∃ (w0:(List Nat)),K w0/\v=.tuple ⟨[]⟩/\Own vars h0 (((some gd),.cells (flatC (w0.map i64)) false)::((some gl),.cells [((ah 1 i64) lev)] false)::L) h'/\True) ?_;conv=>whnf
 refine gX ?_
 obtain⟨_,h,hcall,x1,hm,rfl,O,_⟩:=pV hm  O
 refine⟨_,_,hcall,?_⟩;refine gH ?_
 exact⟨x1,hm,rfl,O,trivial⟩
def bn (p0:Circ) (K:((List Nat)×Nat)->Prop):Prop :=
 cd p0 (fun r1=>((neN r1.2 0)=true->K ([],r1.2))/\((neN r1.2 0)=false->8*p0.nodes.length<=2 ^ 48/\p0.nodes.length<2 ^ 63/\an (α:=(List Nat)) (fun k7=>au (S:=((List Nat)×Nat)) (fun (v8,v9) nx10=>((ltN v9 p0.nodes.length)=true->v9<p0.nodes.length/\∃ x11,v8[v9]?=some x11/\v9+1<2 ^ 63/\nx10 ((v8.set v9 v9),(v9+1)))/\((ltN v9 p0.nodes.length)=false->k7 v8)) ((List.replicate p0.nodes.length (0:Nat)),0)) (fun v6=>jz v6 r1.1 p0.nodes.length (fun x12=>p0.nodes.length=x12.length/\K (x12,0)))))
theorem dj {p0:Circ}{K:((List Nat)×Nat)->Prop} (hm:bn p0 K) {h0:Heap} (hB:HasB vars h0):∃ r,K r/\CallD Tryz.prog NG 59 ⟨[aB p0]⟩ h0 ((fun (r:((List Nat)×Nat))=>Value.tuple ⟨[(ah 1 i64) (r.1),i64 (r.2)]⟩) r) h0:=by
 unfold bn at hm
 refine fw Tryz.func59 hB (enc:=(fun (r:((List Nat)×Nat))=>Value.tuple ⟨[(ah 1 i64) (r.1),i64 (r.2)]⟩)) (fun r=>PureV.tup (ai.cons (ee (fun _=>ai.cons (PureV.flat rfl) ai.nil)) (ai.cons (PureV.flat rfl) (ai.nil)))) fun O=>?_;conv=>whnf
 refine gX ?_
 refine fz ?_;refine gX ?_
 refine ca (im hm O.has) fun r1 hm=>?_;refine gH ?_
 refine O.new (ak (l:=[nS]) rfl rfl rfl) fun g2 h O=>?_;refine gH ?_
 refine O.stC 1 (.head _) [((ah 1 i64) r1.1)] fun h O=>?_;refine gX ?_
 refine br hm (fun hm=>?_) fun hm=>?_
 ·refine gX ?_
  exact⟨([],r1.2),hm,O.ext,fun h2 F=>VLe.tup (LLe.cons (VLe.nil _ _) (LLe.cons (VLe.refl _ _) (LLe.nil _)))⟩
 ·refine gX ?_
  refine O.mkL (enc:=i64) 8 1 0 hm fun g4 h O hm=>?_;refine gH ?_
  refine jn hm 34 [4,6] (fun s=>s) (fun v6 h=>Own vars h0 [(sC g2 [((ah 1 i64) r1.1)]),(sC g4 (flatC (v6.map i64)))] h) (fun v6=>[]) (fun hm=>?_) ?_
  ·refine gX ?_
   refine lw 34 [4,6,21] (σ:=((List Nat)×Nat)) (fun s=>s) (fun (v8,v9) h=>Own vars h0 [(sC g2 [((ah 1 i64) r1.1)]),(sC g4 (flatC (v8.map i64)))] h) (fun (v8,v9)=>[(22,(i64 v9))]) ((List.replicate p0.nodes.length (0:Nat)),0) hm (O.sel [1,0] (by decide)) ?_
   clear hm;rintro⟨v8,v9⟩ nx10 base h hm O
   refine gX ?_
   refine br hm (fun hm=>?_) fun hm=>?_
   ·refine gX ?_
    refine ix 1 hm fun x11 hx11 hm=>?_;refine gH ?_
    refine O.stE 1 (.tail _ (.head _)) hx11 v9 fun h O=>?_;refine gX ?_
    refine aL hm fun hm=>?_;refine gH ?_
    exact jx ((v8.set v9 v9),(v9+1)) hm O
   ·refine gX ?_
    exact jx v8 hm O
  ·clear hm;rintro v6 base h hm O
   refine gX ?_
   obtain⟨_,h,hcall,x12,hm,rfl,O,_⟩:=tG hm  (O.sel [1,0] (by decide))
   refine⟨_,_,hcall,?_⟩;refine gX ?_
   obtain⟨hn13,hm⟩:=hm
   exact⟨(x12,0),hm,O.ext,fun h2 F=>VLe.tup (LLe.cons (O.jC F (Nat.le_refl _) (.head _) (fun _=>rfl) hn13) (LLe.cons (VLe.refl _ _) (LLe.nil _)))⟩
end Go.Proofs.YtobphhjcadjfjaaGreatDoor
