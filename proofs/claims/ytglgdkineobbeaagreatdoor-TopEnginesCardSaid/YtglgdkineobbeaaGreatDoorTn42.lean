/- Parts of the proof. -/
import Derived.Test.YtglgdkineobbeaaGreatDoorTn41
namespace Go.Abs
section
variable {P:Program} {N:Nat} {B:List AObj} {h0 h:Heap} {L:List Slot}
theorem CodeM.reg{id:Nat}{l:List Oper}{e:Env}{K:X->Env->Heap->Prop}(hk:RegS P N ⟨l⟩ l 0 e h (K .normal)):CodeM P N (.region id ⟨l⟩ false) e h K:=CodeM.ofS (CodeS.step hk)
theorem CodeM.draw{id:Nat}{l:List Oper}{e:Env}{K:X->Env->Heap->Prop}(hk:RegKS P N ⟨l⟩ h l 0 e h (K .normal)):CodeM P N (.region id ⟨l⟩ true) e h K:=CodeM.ofS (CodeS.sc hk)
theorem CodeM.skip{e:Env}{K:X->Env->Heap->Prop}(hk:K .normal e h):CodeM P N .skip e h K:=CodeM.ofS (CodeS.step hk)
theorem CodeM.exit{id:Nat}{e:Env}{K:X->Env->Heap->Prop}(hk:K (.exit id) e h):CodeM P N (.exit id) e h K:=CodeM.ofS (CodeS.step hk)
theorem CodeM.Ju{id:Nat}{l:List Oper}{o:Oper}{e:Env}{K:X->Env->Heap->Prop}(ho:l.getLast?=some o)(hg:o.guard.isNone=true)(hk:RegS P N ⟨l⟩ l.dropLast 0 e h (FW P N o K)):CodeM P N (.region id ⟨l⟩ false) e h K:=by
 have e1:l=l.dropLast++[o]:=by
  obtain⟨hne,h2⟩:=Pz.1 ho;rw[h2];simp
 rw[e1] at hk ⊢;simp only[List.dropLast_concat] at hk;exact CodeM.GO hg hk
end
end Go.Abs
open Go.Call renaming operands->NQ
open Go.Op renaming operands->Mi
open List renaming range->Ma,range'->PO
namespace Go.Abs
section
variable {P:Program} {N:Nat} {B:List AObj} {h0 h:Heap} {L:List Slot}
structure MidQ (P:Program) (N:Nat) (o:Oper) (e:Env) (h:Heap) (K2:Env->Heap->Prop):Prop where
 spec:ig N e.n o=true->∀ι a w,HRel N ι h w->ERel ι e a->∀(K:Act->World->Prop) (Q:Exit->Act->World->Prop),
  (∀ι' a' w' e2 h2,K2 e2 h2->e2.n=e.n->h.size<=h2.size->ERel ι' e2 a'->HRel N ι' h2 w'->Step N ι h w ι' h2 w'->K a' w')->o.wp P a w K Q
theorem MidQ.call{o:Oper}{e:Env}{K2:Env->Heap->Prop}{f:FuncId}{l:List Value}{R:Value->Heap->Prop}(h1:ko e.eval o.op=some (f,l))(c:CallM P N f ⟨l⟩ h R)(k:∀v h2,R v h2->K2 (e.put o.dst v) h2):MidQ P N o e h K2 :=
 ⟨λhok _ι _a _w H r _K _Q hK=>sy H (fT H r hok) (kl h1) c λι' _v' _v h' w' k0 k1 k2 k3 k4 =>
  hK ι' _ w' _ h' (k _ _ k0) (Env.er ..) k1 ((r.mono k4.ext).put (jU hok) k2) k3 k4⟩
theorem CodeM.mid(k:Nat){id:Nat}{l:List Oper}{o:Oper}{e:Env}{K:X->Env->Heap->Prop}(ho:l[k]?=some o)(hg:o.guard.isNone=true)
  (hk:RegS P N ⟨l⟩ (l.take k) 0 e h λe1 h1=>MidQ P N o e1 h1 λe2 h2=>RegS P N ⟨l⟩ (l.drop (k+1)) (k+1) e2 h2 (K .normal)):CodeM P N (.region id ⟨l⟩ false) e h K:=⟨λhM hok ι w a H r=>by
 simp only[codeOk,L9] at hok;obtain⟨e1,h1,hd,hq⟩:=hk.spec;have hlt:k<l.length:=(LX.1 ho).1;refine wp_region ?_
 show wpOps P _ _ (Ma l.length) a w
 have hr:Ma l.length=PO 0 (l.take k).length++(k::PO (k+1) (l.drop (k+1)).length):=by
  rw[OS,L8,Nb (MG hlt),No]
  have:l.length=k+(1+(l.length-(k+1))):=by omega
  rw[this,<- Rr,<- Rr];simp[List.range'_one];omega
 rw[hr];have hoko:=(Md.1 hok.1) o (LS ho);refine jM (l.take k) 0 (λj x hx=>?_) ι e a h w e1 h1 hok.1 hd H r λι' a' w' r1 r2 r3=>?_
 .rw[MX] at hx;split at hx
  .simpa using hx
  .cases hx
 .rw[wpOps_cons];unfold wpOp
  have ho':(⟨l⟩:Array Oper)[k]?=some o:=by simpa using ho
  simp only[ho'];rw[if_pos (fQ hg _)];refine .inl (hq.spec (by rw[hd.n];exact hoko) ι' a' w' r2 r1 _ _ λι2 a2 w2 e2 h2 q q1 q2 q3 q4 q5=>?_);obtain⟨e3,h3,hd3,hq3⟩:=q.spec
  have:=jM (rest:=[]) (ops:=⟨l⟩) (Q:=xE N ι e.n h w K) (l.drop (k+1)) (k+1) (λj x hx=>by
   rw[Nq] at hx
   simpa using hx) ι2 e2 a2 h2 w2 e3 h3 (by rw[q1,hd.n];exact hok.1) hd3 q4 q3 λι4 a4 w4 s1 s2 s3=>?_
  .rw[MZ] at this;exact this
  .have hs1:=hd.size;have hs3:=hd3.size
   exact⟨.normal,e3,h3,rfl,hq3,by rw[hd3.n,q1,hd.n],by omega,ι4,s1,s2,(r3.trans q5).trans s3⟩⟩
theorem MidQ.IN{κ ν:Type}[DecidableEq κ]{ek:κ->Value}{ev:ν->Value}{m:List (κ×ν)}{k:κ}{g:Nat}{t t2 kt et:TypeId}{kd:TypeDesc}{x y:Operand}{d:Option Tmp}{ty:TypeId}{pos:String}{af:Array Edge}{gd:Option (Nat×Bool)}{e:Env}{K2:Env->Heap->Prop}
  (hu:P.underlying t=some (.map kt et)) (hkd:P.underlying kt=some kd) (hkk:ke P kt kd (ek k)=true) (hs:∀a b,fo P kt kd (ek a) (ek b)=some (decide (a=b))) (hg:h.get g=some (.map (aY ek ev m))) (hx:e.eval x=.map (some g)) (hy:e.eval y=ek k) (hn:bY m k=none)
  (hK2:K2 (e.put d (.tuple #[])) h):MidQ P N { dst:=d,op:=.call { callee:=.builtin .delete,args := #[x,y],argTypes := #[t,t2] },type:=ty,pos:=pos,after:=af,guard:=gd } e h K2:=by
 refine⟨λhok ι a w H r K Q hK=>?_⟩;have hρ:=fT H r hok;have hm:=hρ x (by simp[Mi,NQ]);have hk:=hρ y (by simp[Mi,NQ]);rw[hx] at hm;rw[hy] at hk;generalize ex':a.eval x=x' at hm;generalize ey':a.eval y=y' at hk
 cases hm
 rename_i l hl;obtain⟨E,c,k1,k2,k3,k4,k5,k6⟩:=H.obj g l _ hl hg
 have q3:∀(j:Nat) (k v:Value),(aY ek ev m)[j]?=some (k,v)->∃m:MapEntry,E.toList[j]?=some m/\VRel ι k m.key/\VRel ι v m.val:=λj k v q=>by
  obtain⟨m,q1,q2,q3⟩:=k4 j k v q;exact⟨m,by simpa using q1,q2,q3⟩
 have hf:mQ P kt kd (ek k) (aY ek ev m) 0=some none:=by
  rw[ld hs]
  have:bU m k 0=none:=by
   cases hj:bU m k 0 with
   |none=>rfl
   |some q =>
    have:=iP k m 0;rw[hj,hn] at this;cases this
  rw[this];rfl
 have f1:=fY hk (aY ek ev m) E.toList 0 (by simp[k3]) q3 _ hf;have hlt:l.blk<w.heap.size:=H.blk g l hl
 have hw:{ w with heap:=w.heap.setIfInBounds l.blk (.map E c) }=w:=by
  have e1:w.heap.setIfInBounds l.blk (.map E c)=w.heap:=by
   apply Q0
   .simp
   .intro i h1 h2;rw[OC (by simpa using h1)];by_cases e:l.blk=i
    .subst e;rw[if_pos rfl];rw[Me h2] at k1;exact (Ni k1).symm
    .rw[if_neg e]
  rw[e1]
 have hex:(execOp a.eval { dst:=d,op:=.call { callee:=.builtin .delete,args := #[x,y],argTypes := #[t,t2] },type:=ty,pos:=pos,after:=af,guard:=gd }).run P w=.ok (.value (.tuple #[])) w:=by
  simp[execOp,resolve,invoke,builtin,Builtin.delete_,ex',ey',ax hu,getObj,setObj,Sem.run,k1,run_checkKey hkd hkk hk,run_findKey hkd f1];exact hw
 unfold Oper.wp;rw[hex];exact hK ι _ w _ h hK2 (Env.er ..) (LV _) (r.put (jU hok) (VRel.nothing ι)) H (Step.refl w H.dom)
end
end Go.Abs
