/- Parts of the proof. -/
import Derived.Test.YtglgdkineobbeaaGreatDoorTn06
open Go.Builtin renaming len_->PV
open Go.Call renaming operands->NQ
open Go.Instr renaming fieldAt->Sq,indexAt->PF,slice->PN,sliceAt->OV,sureAddr->Ov
open Go.Op renaming equal->PE,equalIn->OG,operands->Mi
open Go.Result renaming andThen_ok->Mo
open Go.Sem renaming run_bind->Mv,run_pure->MO
open Int renaming ofNat->LQ
open Nat renaming beq->NZ
namespace Go.Abs
theorem bB.map{ι:Inj}{ρ ρ':Operand->Value}(xs:Array Operand)(h:∀x∈xs,VRel ι (ρ x) (ρ' x)):bB ι (xs.map ρ) (xs.map ρ'):=by
 rw[bB.iK];refine ba.nf (by simp) λi v v' e e'=>?_;simp only[Qb,L7] at e e'
 cases q:xs.toList[i]? with
 |none=>simp[q] at e
 |some x =>
  simp[q] at e e';subst e e';exact h x (by simpa using LS q)
theorem CT(a b:Int):(!decide (b<a))=decide (a<=b):=by
 by_cases c:a<=b
 .simp[c]
 .simp[c];omega
theorem Bc{ι:Inj}{k:IntKind}{a b:Int}{l:List Value}(h:ba ι [.int k a,.int k b] l):l=[.int k a,.int k b]:=by
 obtain⟨x,e1,r1⟩:=h.get (i:=0) rfl;obtain⟨y,e2,r2⟩:=h.get (i:=1) rfl;have hx:=r1.bZ rfl;have hy:=r2.bZ rfl;subst hx hy;have hl:=h.1
 match l,hl,e1,e2 with
 |[p,q],_,e1,e2=>simp at e1 e2;simp[e1,e2]
theorem Ad{P:Program}{op:BinOp}{k:IntKind}{a b:Int}{v:Value}(h:fF op k a b=some v)(t:TypeId)(x y:Operand)(w:World) :
  ((do eqGuard op t x y (.int k a) (.int k b);binOp op t (.int k a) (.int k b)):Sem Value).run P w=.ok v w/\plain v=true:=by
 cases op <;> simp only[fF,LR,reduceCtorEq] at h <;> subst h <;> refine⟨?_,rfl⟩ <;> simp[eqGuard,binOp,Op.intArith,Op.intCmp,fG,CT]
theorem uu{P:Program}{op:BinOp}{t:TypeId}{a b v:Value}(h:quick (P.underlying t) op a b=some v)(x y:Operand)(w:World) :
  ((do eqGuard op t x y a b;binOp op t a b):Sem Value).run P w=.ok v w/\plain v=true/\plain a=true/\plain b=true:=by
 unfold quick at h;split at h
 .rename_i k a' k' b';split at h
  · rename_i hk;subst hk;obtain⟨q1,q2⟩:=Ad h t x y w;exact⟨q1,q2,rfl,rfl⟩
  · cases h
 .rename_i a' b'
  have eqrun:∀(d:Nat),P.underlying t=some .bool->(OG (d+1) t (.bool a') (.bool b')).run P w=.ok (a'==b') w:=by
    intro d hu;simp[OG,ax hu]
  split at h
  · rename_i hu
    cases h
    have:=eqrun 9999 hu;have h':(PE t (.bool a') (.bool b')).run P w=.ok (a'==b') w:=this;refine⟨?_,rfl,rfl,rfl⟩;simp[eqGuard,binOp,h']
  · rename_i hu
    cases h
    have:=eqrun 9999 hu;have h':(PE t (.bool a') (.bool b')).run P w=.ok (a'==b') w:=this;refine⟨?_,rfl,rfl,rfl⟩;simp[eqGuard,binOp,h']
  · cases h
 .cases h
theorem ur{P:Program}{t:TypeId}{a b:Value}{r:Bool}(h:nW P t a b=some r)(x y:Operand)(w:World) :
  plain a=true/\plain b=true/\((do eqGuard .eql t x y a b;binOp .eql t a b):Sem Value).run P w=.ok (.bool r) w/\((do eqGuard .neq t x y a b;binOp .neq t a b):Sem Value).run P w=.ok (.bool !r) w:=by
 unfold nW at h;split at h
 .rename_i xs ys;split at h
  .rename_i hc;simp only[L9,Ox] at hc;have he:(PE t (.agg xs) (.agg ys)).run P w=.ok r w:=zn 9936 64 t _ _ r h w
   refine⟨hc.1.1,hc.1.2,?_,?_⟩ <;> simp[eqGuard,binOp,he,hc.2]
  .cases h
 .cases h
set_option maxHeartbeats 1000000 in
theorem pd {P:Program}{ι:Inj}{ρ ρ':Operand->Value}{o:Oper}{v:Value} (hρ:∀x∈o.op.operands,VRel ι (ρ x) (ρ' x)) (h:aC P ρ o=some v) :
  ∃v',(∀w,(execOp ρ' o).run P w=.ok (.value v') w)/\VRel ι v v':=by
 obtain⟨dst,op,type,pos,after,guard⟩:=o
 have FB:∀{u},(∀cs b,op≠.select cs b)->bx P ρ ⟨dst,op,type,pos,after,guard⟩=some u->∃v',(∀w,(execOp ρ' ⟨dst,op,type,pos,after,guard⟩).run P w=.ok (.value v') w)/\VRel ι u v' :=
  λhs hf=>lx hs hρ hf
 cases op with
 |move x =>
  simp only[aC,LR] at h;subst h;exact⟨ρ' x,λw=>by simp[execOp],hρ x (by simp[Mi])⟩
 |assign x =>
  simp only[aC,LR] at h;subst h;exact⟨ρ' x,λw=>by simp[execOp],hρ x (by simp[Mi])⟩
 |pick c a b =>
  have hc:=hρ c (by simp[Mi]);have ha:=hρ a (by simp[Mi]);have hb:=hρ b (by simp[Mi]);simp only[aC] at h
  cases e:ρ c with
  |bool t =>
   rw[e] at hc h;have e':ρ' c=.bool t:=hc.bZ rfl
   cases t <;> simp only[LR] at h <;> subst h
   .exact⟨ρ' b,λw=>by simp[execOp,e',asBool],hb⟩
   .exact⟨ρ' a,λw=>by simp[execOp,e',asBool],ha⟩
  |_=>simp[e] at h
 |nilCheck x =>
  have hx:=hρ x (by simp[Mi]);simp only[aC] at h
  cases e:ρ x with
  |pointer a =>
   cases a with
   |none=>simp[e] at h
   |some a =>
    rw[e] at hx;simp only[e,LR] at h;subst h;generalize e':ρ' x=y at hx
    cases hx with
    |ptr g off l hl=>exact⟨_,λw=>by simp[execOp,e'],.ptr g off l hl⟩
  |func f a b =>
   cases f with
   |func f =>
    rw[e] at hx;simp only[e,LR] at h;subst h;generalize e':ρ' x=y at hx
    cases hx with
    |func _ _ _ a' b' h1 h2 h3 h4=>exact⟨_,λw=>by simp[execOp,e'],.func _ _ _ _ _ h1 h2 h3 h4⟩
   |_=>simp[e] at h
  |iface i u =>
   rw[e] at hx;simp only[e] at h
   cases u <;> try (simp at h;done)
   rename_i cs;obtain⟨l⟩:=cs
   match l,h,hx with
   |[],h,hx=>simp at h
   |_::_::_,h,hx=>simp at h
   |[u],h,hx =>
    simp only[LR] at h;subst h;generalize e':ρ' x=y at hx;have hx':=hx;obtain⟨b,o,rfl⟩:=hx.vJ;exact⟨_,λw=>by simp[execOp,e'],hx'⟩
  |_=>simp[e] at h
 |makeFunc fn first captured =>
  simp only[aC,LR] at h;subst h
  have h1:=bB.map first (λx hx=>hρ x (by simp[Mi,hx]))
  have h2:=bB.map captured (λx hx=>hρ x (by simp[Mi,hx]));exact⟨_,λw=>by simp[execOp,Instr.makeFunc],.func _ _ _ _ _ h1.1 h2.1 h1.2 h2.2⟩
 |extract t i =>
  have hx:=hρ t (by simp[Mi]);simp only[aC] at h
  cases e:ρ t with
  |tuple vs =>
   rw[e] at hx;simp only[e] at h;generalize e':ρ' t=y at hx
   cases hx with
   |unit=>simp at h
   |tuple _ a' h1 h2 =>
    obtain⟨v',q1,q2⟩:=bB.get ⟨h1,h2⟩ h;exact⟨v',λw=>by simp[execOp,Instr.extract,e',q1],q2⟩
  |_=>simp[e] at h
 |field t x i =>
  have hx:=hρ x (by simp[Mi]);simp only[aC] at h
  cases hu:P.underlying t with
  |none=>simp[hu] at h
  |some d =>
   cases d <;> try (simp[hu] at h;done)
   rename_i fs
   cases e:ρ x <;> try (simp[hu,e] at h;done)
   rename_i cs;rw[e] at hx;simp only[hu,e] at h;generalize e':ρ' x=y at hx
   cases hx with
   |agg _ a' h1 h2 =>
    cases hf:fs[i]? with
    |none=>simp[hf] at h
    |some f =>
     simp only[hf] at h;obtain⟨v',q1,q2⟩:=sr ⟨h1,h2⟩ h;exact⟨v',λw=>by simp[execOp,Instr.field,e',ax hu,hf,asAgg,q1],q2⟩
 |fieldAddr t x i =>
  have hx:=hρ x (by simp[Mi]);simp only[aC] at h;generalize e:ρ x=y0 at hx h;generalize e':ρ' x=y at hx
  split at h <;> try (cases h;done)
  .rename_i fs g off hu
   cases hx
   rename_i l hl
   cases hf:fs[i]? with
   |none=>simp[hf] at h
   |some f =>
    simp only[hf] at h
    cases hs:bb P f.type with
    |none=>simp[hs] at h
    |some n =>
     cases n with
     |zero=>simp[hs] at h
     |succ n =>
      simp only[hs,LR] at h;subst h;refine⟨_,λw=>(by simp[execOp,Sq,e',ax hu,hf,Ov,fieldPlace,bg hs,cP];rfl),?_⟩;rw[Nm];exact .ptr g (off+f.offset) l hl
  .rename_i fs j cs hu;have hj:=hx;obtain⟨b,o,rfl⟩:=hx.vJ
   have hj0:j=0:=by cases hj;rfl
   subst hj0
   cases hf:fs[i]? with
   |none=>simp[hf] at h
   |some f =>
    simp only[hf] at h
    cases hs:bb P f.type with
    |none=>simp[hs] at h
    |some n =>
     cases n with
     |zero=>simp[hs] at h
     |succ n =>
      simp only[hs] at h;exact⟨_,λw=>(by simp[execOp,Sq,e',ax hu,hf,Ov,fieldPlace,bg hs,cP]),sw hj h⟩
 |index t x i =>
  have hx:=hρ x (by simp[Mi]);have hi:=hρ i (by simp[Mi]);simp only[aC] at h
  cases hu:P.underlying t with
  |none=>simp[hu] at h
  |some d =>
   cases d <;> try (simp[hu] at h;done)
   case string=>simp only[hu] at h;exact FB (by simp) h
   case array n e =>
    generalize ex:ρ x=y0 at hx h
    generalize ex':ρ' x=y at hx
    generalize ei:ρ i=i0 at hi h
    generalize ei':ρ' i=i1 at hi
    cases hx <;> try (simp[hu] at h;done)
    rename_i cs cs' h1 h2
    cases hi <;> try (simp[hu] at h;done)
    rename_i k z
    simp only[hu] at h
    cases hs:bb P e with
    |none=>simp[hs] at h
    |some s =>
     simp only[hs] at h;split at h
     .rename_i hc;obtain⟨v',q1,q2⟩:=sr ⟨h1,h2⟩ h;exact⟨v',λw=>by simp[execOp,Instr.index,ex',ei',asIntOf,ax hu,hc,bg hs,q1],q2⟩
     .cases h
 |indexAddr t x i =>
  have hx:=hρ x (by simp[Mi]);have hi:=hρ i (by simp[Mi]);simp only[aC] at h;generalize ex:ρ x=y0 at hx h;generalize ex':ρ' x=y at hx;generalize ei:ρ i=i0 at hi h;generalize ei':ρ' i=i1 at hi
  split at h <;> try (cases h;done)
  .rename_i n e g off k z hu
   cases hx
   rename_i l hl
   cases hi
   cases hs:bb P e with
   |none=>simp[hs] at h
   |some s =>
    simp only[hs] at h;split at h
    .rename_i hc;simp only[LR] at h;subst h;refine⟨_,λw=>(by simp[execOp,PF,ex',ei',asIntOf,ax hu,hc,bg hs,Ov,cP];rfl),?_⟩;rw[Nm];exact .ptr g _ l hl
    .cases h
  .rename_i e g off sp len cap k z hu
   cases hi
   cases hs:bb P e with
   |none=>simp[hs] at h
   |some s =>
    simp only[hs] at h;split at h
    .rename_i hc;simp only[LR] at h;subst h
     cases hx with
     |slice g off len cap oo l hl hle ho =>
      have ho':=ho (by omega);subst ho';refine⟨_,λw=>(by simp[execOp,PF,ex',ei',asIntOf,ax hu,hc,bg hs,cP];rfl),?_⟩;rw[Nm];exact .ptr g _ l hl
     |sliceOpen g off sp len cap cap' oo l hl hle hcap ho htot =>
      have ho':=ho (by omega);subst ho';refine⟨_,λw=>(by simp[execOp,PF,ex',ei',asIntOf,ax hu,hc,bg hs,cP];rfl),?_⟩;rw[Nm];exact .ptr g _ l hl
    .cases h
  .rename_i e s' es kk k hu
   cases hi
   cases hs:bb P e with
   |none=>simp[hs] at h
   |some s =>
    simp only[hs] at h
    cases hb:NZ s s' with
    |false=>simp[hb] at h
    |true =>
     have hss:s=s':=M6 hb;subst hss
     cases hk:es[k]? with
     |none=>simp[hk] at h
     |some u =>
      simp only[hb,hk,LR] at h;subst h;obtain⟨b,o,cap,rfl,rp⟩:=hx.JK hk;have hkl:k<es.length:=(LX.1 hk).1;have hc:0<=(LQ k)/\(LQ k)<(es.length:Int):=⟨MN k,by simpa using hkl⟩;refine⟨_,λw=>(by simp only[execOp,PF,ex',ei',asIntOf,ax hu,Mv,MO,Mo,hc,bg hs,and_self,if_true,cP];rfl),rp⟩
  .rename_i e s' jj es kk k hu;replace hx:=hx.H6
   cases hi
   cases hs:bb P e with
   |none=>simp[hs] at h
   |some s =>
    simp only[hs] at h
    cases hb:NZ s s' with
    |false=>simp[hb] at h
    |true =>
     have hss:s=s':=M6 hb;subst hss
     cases hk:es[k]? with
     |none=>simp[hk] at h
     |some u =>
      simp only[hb,hk,LR] at h;subst h;obtain⟨b,o,cap,rfl,rp⟩:=hx.JK hk;have hkl:k<es.length:=(LX.1 hk).1;have hc:0<=(LQ k)/\(LQ k)<(es.length:Int):=⟨MN k,by simpa using hkl⟩;refine⟨_,λw=>(by simp only[execOp,PF,ex',ei',asIntOf,ax hu,Mv,MO,Mo,hc,bg hs,and_self,if_true,cP];rfl),rp⟩
  .rename_i n e j cs kk k hu;have hj:=hx;obtain⟨b,o,rfl⟩:=hx.vJ
   have hj0:j=0:=by cases hj;rfl
   subst hj0
   cases hi
   cases hs:bb P e with
   |none=>simp[hs] at h
   |some s =>
    simp only[hs] at h
    cases hb:Nat.ble (k+1) n with
    |false=>simp[hb] at h
    |true =>
     simp only[hb] at h;have hkn:k<n:=Mq hb;have hc:0<=(LQ k)/\(LQ k)<(n:Int):=⟨MN k,by simpa using hkn⟩;refine⟨_,λw=>(by simp only[execOp,PF,ex',ei',asIntOf,ax hu,Mv,MO,Mo,hc,bg hs,Ov,and_self,if_true,cP];rfl),sw hj h⟩
 |slice t x lo hi mx =>
  have hx:=hρ x (by simp[Mi]);simp only[aC] at h
  cases hu:P.underlying t with
  |none=>simp[hu] at h
  |some d =>
   have slo:∀q,lo=some q->VRel ι (ρ q) (ρ' q):=λq hq=>hρ q (by simp[Mi,hq]);have shi:∀q,hi=some q->VRel ι (ρ q) (ρ' q):=λq hq=>hρ q (by simp[Mi,hq]);have smx:∀q,mx=some q->VRel ι (ρ q) (ρ' q):=λq hq=>hρ q (by simp[Mi,hq])
   have same:∀{len cap:Nat} {r:Nat×Nat×Nat},il len cap (lo.map ρ) (hi.map ρ) (mx.map ρ)=some r->lo.map ρ'=lo.map ρ/\hi.map ρ'=hi.map ρ/\mx.map ρ'=mx.map ρ:=by
    intro len cap r e;obtain⟨a,b,c⟩:=ET e;exact⟨xt slo (λq hq=>a _ (by simp[hq])),xt shi (λq hq=>b _ (by simp[hq])),xt smx (λq hq=>c _ (by simp[hq]))⟩
   generalize ex:ρ x=y0 at hx h;generalize ex':ρ' x=y at hx
   cases d <;> try (simp[hu] at h;done)
   case string =>
    rw[hu] at h
    cases y0 <;> exact FB (by simp) h
   case array n e =>
    rw[hu] at h
    cases hx <;> try (simp at h;done)
    rename_i g off l hl
    simp only at h
    cases hs:bb P e with
    |none=>simp[hs] at h
    |some s =>
     cases hb:il n n (lo.map ρ) (hi.map ρ) (mx.map ρ) with
     |none=>simp[hs,hb] at h
     |some r =>
      obtain⟨a,b,c⟩:=r;simp only[hs,hb,LR] at h;subst h;obtain⟨s1,s2,s3⟩:=same hb;obtain⟨b1,b2,b3⟩:=rJ (LV n) hb;refine⟨_,λw=>(by simp[execOp,OV,ex',ax hu,Ov,s1,s2,s3,kj false hb,bg hs,cP];rfl),?_⟩;by_cases q:c=a
      .subst q;simp only[if_true];exact .slice g _ _ _ _ l hl (by omega) (by omega)
      .simp only[q,if_false];exact .slice g _ _ _ _ l hl (by omega) (by omega)
   case slice e =>
    rw[hu] at h
    have key:∀(i:Nat) (es:List Value),y0=.iface i (.tuple ⟨es⟩)->∃v',(∀w,(execOp ρ' ⟨dst,.slice t x lo hi mx,type,pos,after,guard⟩).run P w=.ok (.value v') w)/\VRel ι v v':=by
     intro s' es ey;subst ey;simp only at h
     cases hs:bb P e with
     |none=>simp[hs] at h
     |some s =>
      cases hb:il es.length es.length (lo.map ρ) (hi.map ρ) (mx.map ρ) with
      |none=>simp[hs,hb] at h
      |some r =>
       obtain⟨a,b,c⟩:=r;simp only[hs,hb] at h
       cases hss:NZ s s' with
       |false=>simp[hss] at h
       |true =>
       have hss':s=s':=M6 hss;subst hss';simp only[hss] at h;obtain⟨s1,s2,s3⟩:=same hb;obtain⟨b1,b2,b3⟩:=rJ (LV _) hb;obtain⟨aa,cap',rfl,hcap⟩:=hx.rD
       cases aa with
       |none =>
        have hes:es=[]/\cap'=0:=by
         generalize hz:es.length=z at hx
         cases hx
         exact⟨M3 hz,rfl⟩
        obtain⟨rfl,rfl⟩:=hes
        have e1:b-a=0:=by simp at b3;omega
        have e2:c-a=0:=by simp at b3;omega
        have hv:v=FL s []:=by
         rw[e1,QB] at h
         cases mx with
         |none=>simpa using h.symm
         |some q =>
          simp only at h;split at h
          .rename_i heq;cases heq
          .simpa using h.symm
        rw[hv];simp only[N4] at hb;refine⟨_,λw=>(by simp[execOp,OV,PN,ex',ax hu,s1,s2,s3,kj true hb,bg hs,e1,e2]),.flNil s⟩
       |some ad =>
        cases mx with
        |none =>
         simp only[LR] at h;subst h;obtain⟨c1,c2⟩:=AT hcap (by simpa using hb);subst c1;refine⟨_,λw=>(by simp[execOp,OV,PN,ex',ax hu,s1,s2,kj true c2,bg hs];rfl),?_⟩;by_cases q:cap'=a
         .subst q;simp only[if_true];exact hx.nJ b1 (by omega) (by omega) (λhne=>by omega)
         .simp only[q,if_false];exact hx.nJ b1 (by omega) (by omega) (λhne=>rfl)
        |some mq =>
         have c2:=sm hcap (by simpa using hb)
         have s3':ρ' mq=ρ mq:=by simpa using s3
         simp only at h
         have fin:v=FE/\a=c\/v=FL s ((es.drop a).take (b-a)):=by
          cases hbc:NZ a c with
          |false=>rw[hbc] at h;exact .inr (by simpa using h.symm)
          |true =>
           rw[hbc] at h
           cases es with
           |nil=>exact .inr (by simpa using h.symm)
           |cons e0 es0=>exact .inl ⟨by simpa using h.symm,M6 hbc⟩
         refine⟨_,λw=>(by simp[execOp,OV,PN,ex',ax hu,s1,s2,s3',kj true c2,bg hs];rfl),?_⟩
         rcases fin with⟨rfl,rfl⟩|rfl
         .have e1:b-a=0:=by omega
          rw[e1,Nx];simp only[if_true];exact .fe _
         .by_cases q:c=a
          .subst q;simp only[if_true];exact hx.nJ b1 (by omega) (by omega) (λhne=>by omega)
          .simp only[q,if_false];exact hx.nJ b1 (by omega) (by omega) (λhne=>rfl)
    have kiface:∀(i:Nat) (u:Value),y0=.iface i u->∃v',(∀w,(execOp ρ' ⟨dst,.slice t x lo hi mx,type,pos,after,guard⟩).run P w=.ok (.value v') w)/\VRel ι v v':=by
     intro i u eu
     cases u <;> first | (rename_i ts;obtain⟨es⟩:=ts;exact key i es eu) | (rw[eu] at h;simp at h;done)
    cases hx <;> try (simp at h;done)
    all_goals try exact kiface _ _ rfl
    case sliceNil =>
     simp only at h
     cases hs:bb P e with
     |none=>simp[hs] at h
     |some s =>
      cases hb:il 0 0 (lo.map ρ) (hi.map ρ) (mx.map ρ) with
      |none=>simp[hs,hb] at h
      |some r =>
       obtain⟨a,b,c⟩:=r;simp only[hs,hb,LR] at h;subst h;obtain⟨s1,s2,s3⟩:=same hb;obtain⟨b1,b2,b3⟩:=rJ (LV 0) hb
       have e1:b-a=0:=by omega
       have e2:c-a=0:=by omega
       rw[e1,e2];refine⟨_,λw=>(by simp[execOp,OV,PN,ex',ax hu,s1,s2,s3,kj true hb,bg hs,e1,e2]),.sliceNil⟩
    case slice g off len cap oo l hl hle ho =>
     simp only at h
     cases hs:bb P e with
     |none=>simp[hs] at h
     |some s =>
      cases hb:il len cap (lo.map ρ) (hi.map ρ) (mx.map ρ) with
      |none=>simp[hs,hb] at h
      |some r =>
       obtain⟨a,b,c⟩:=r;simp only[hs,hb,LR] at h;subst h;obtain⟨s1,s2,s3⟩:=same hb;obtain⟨b1,b2,b3⟩:=rJ hle hb;refine⟨_,λw=>(by simp[execOp,OV,PN,ex',ax hu,s1,s2,s3,kj true hb,bg hs,cP];rfl),?_⟩;by_cases q:c=a
       .subst q;simp only[if_true];exact .slice g _ _ _ _ l hl (by omega) (by omega)
       .have:=ho (by omega);simp only[q,if_false];exact .slice g _ _ _ _ l hl (by omega) (by omega)
    case sliceOpen g off sp len cap cap' oo l hl hle hcap ho htot =>
     simp only at h
     cases hs:bb P e with
     |none=>simp[hs] at h
     |some s =>
      cases hb:il len cap (lo.map ρ) (hi.map ρ) (mx.map ρ) with
      |none=>simp[hs,hb] at h
      |some r =>
       obtain⟨a,b,c⟩:=r;simp only[hs,hb] at h;obtain⟨s1,s2,s3⟩:=same hb;obtain⟨b1,b2,b3⟩:=rJ hle hb
       cases mx with
       |none =>
        simp only at h;split at h
        .rename_i hz;subst hz;simp only[LR] at h;subst h;obtain⟨c1,c2⟩:=AT hcap (by simpa using hb);subst c1;refine⟨_,λw=>(by simp[execOp,OV,PN,ex',ax hu,s1,s2,kj true c2,bg hs,cP];rfl),?_⟩;by_cases q:cap'=a
         .subst q;simp only[if_true];refine .sliceOpen g _ _ _ _ _ _ l hl (by omega) (by omega) (by omega) ?_;rw[Nx,Q7];omega
         .simp only[q,if_false];refine .sliceOpen g _ _ _ _ _ _ l hl (by omega) (by omega) (λhne=>by have:=ho (by omega);omega) ?_;rw[Nat.sub_mul];have:a*sp<=cap'*sp:=MY _ (by omega);omega
        .cases h
       |some mq =>
        simp only[LR] at h;subst h;have c2:=sm hcap (by simpa using hb)
        have s3':ρ' mq=ρ mq:=by simpa using s3
        refine⟨_,λw=>(by simp[execOp,OV,PN,ex',ax hu,s1,s2,s3',kj true c2,bg hs,cP];rfl),?_⟩;by_cases q:c=a
        .subst q;simp only[if_true];exact .slice g _ _ _ _ l hl (by omega) (by omega)
        .have:=ho (by omega);simp only[q,if_false];exact .slice g _ _ _ _ l hl (by omega) (by omega)
 |build t ps =>
  simp only[aC] at h
  cases hz:zeroOf P t with
  |none=>simp[hz] at h
  |some z =>
   simp only[hz] at h;split at h
   .rename_i hp
    cases hb:P.built t (ps.toList.map λp=>(p.1,ρ p.2)) with
    |none=>simp[hb] at h
    |some cells =>
     simp only[hb,MI,LR] at h;subst h;have hps:∀p∈ps.toList,VRel ι (ρ p.2) (ρ' p.2):=λp hp=>hρ p.2 (by simp only[Mi,Q4,MP];exact⟨p,hp,rfl⟩);obtain⟨cells',q1,q2⟩:=Ex (λz' hz'=>by rw[hz] at hz';cases hz';exact hp) hps hb;refine⟨.agg cells',λw=>?_,.agg _ _ q2.1 q2.2⟩
     have e:(ps.map λ(x:Nat×Operand)=>(x.1,ρ' x.2)).toList=ps.toList.map λp=>(p.1,ρ' p.2):=by simp
     have:=run_build w t (ps.map λ(x:Nat×Operand)=>(x.1,ρ' x.2)) cells' (by rw[e];exact q1);simp only[execOp,Mv];rw[this];simp
   .cases h
 |binOp op t x y yt =>
  have hx:=hρ x (by simp[Mi]);have hy:=hρ y (by simp[Mi]);simp only[aC] at h
  cases hq:quick (P.underlying t) op (ρ x) (ρ y) with
  |some v0 =>
   simp only[hq,LR] at h;subst h;obtain⟨_,q2,q3,q4⟩:=uu hq x y (default:World);refine⟨v0,λw=>?_,VRel.aU q2⟩;have hx':=hx.cv q3;have hy':=hy.cv q4;have:=(uu hq x y w).1;simp only[execOp,hx',hy'];rw[Mv,this];simp
  |none =>
  simp only[hq] at h
  cases hu:P.underlying t with
  |none=>cases op <;> simp only[hu] at h <;> exact FB (by simp) h
  |some d =>
   cases op <;> simp only[hu] at h <;> try exact FB (by simp) h
   .cases hn:nT d (ρ x) (ρ y) with
    |none =>
     simp only[hn] at h
     cases hg:nW P t (ρ x) (ρ y) with
     |none=>simp only[hg] at h;exact FB (by simp) h
     |some b =>
      simp only[hg,LR] at h;subst h;refine⟨.bool b,λw=>?_,.bool b⟩;obtain⟨p1,p2,q,_⟩:=ur hg x y w;simp only[execOp,hx.cv p1,hy.cv p2];rw[Mv,q];simp
    |some b =>
     simp only[hn,LR] at h;subst h;refine⟨.bool b,λw=>?_,.bool b⟩;have:=(uw hu hx hy hn x y w).1;simp only[execOp];rw[Mv,this];simp
   .cases hn:nT d (ρ x) (ρ y) with
    |none =>
     simp only[hn] at h
     cases hg:nW P t (ρ x) (ρ y) with
     |none=>simp only[hg] at h;exact FB (by simp) h
     |some b =>
      simp only[hg,LR] at h;subst h;refine⟨.bool !b,λw=>?_,.bool _⟩;obtain⟨p1,p2,_,q⟩:=ur hg x y w;simp only[execOp,hx.cv p1,hy.cv p2];rw[Mv,q];simp
    |some b =>
     simp only[hn,LR] at h;subst h;refine⟨.bool !b,λw=>?_,.bool !b⟩;have:=(uw hu hx hy hn x y w).2;simp only[execOp];rw[Mv,this];simp
 |unOp op t x =>
  have hx:=hρ x (by simp[Mi]);simp only[aC] at h;split at h
  .rename_i b hb
   cases h
   rw[hb] at hx;have hx':ρ' x=.bool b:=hx.bZ rfl;exact⟨_,λw=>by simp[execOp,hx',Op.unary],.bool _⟩
  .exact FB (by simp) h
 |convert s t x=>exact FB (by simp) h
 |call c =>
  obtain⟨callee,args,argTypes⟩:=c
  cases callee with
  |builtin b =>
   cases b <;> try (simp[aC] at h;done)
   case len =>
    have hargs:ba ι (args.toList.map ρ) (args.toList.map ρ'):=by
     have:=(bB.map args (λx hx=>hρ x (by simp[Mi,NQ,hx]))).list;simpa using this
    simp only[aC] at h
    cases hu:(argTypes[0]?).bind P.underlying with
    |none=>simp[hu] at h
    |some d =>
     cases ha:argTypes[0]? with
     |none=>simp[ha] at hu
     |some t0 =>
      have hu':P.underlying t0=some d:=by simpa[ha] using hu
      cases d <;> try (simp[hu] at h;done)
      case string =>
       simp only[hu] at h
       exact FB (by simp) h
      case array n e =>
       simp only[hu] at h
       cases hl:args.toList.map ρ with
       |nil=>simp[hl] at h
       |cons u r =>
        cases r with
        |cons _ _=>simp[hl] at h
        |nil =>
        simp only[hl,LR] at h;subst h
        have:∃x0,args[0]?=some x0:=by
         have:args.toList.length=1:=by have:=congrArg List.length hl;simpa using this
         have:args.size=1:=by simpa using this
         exact⟨args[0],Me (by omega)⟩
        obtain⟨x0,hx0⟩:=this;exact⟨_,λw=>by simp[execOp,resolve,invoke,builtin,PV,goInt,ha,hx0,ax hu'],.int _ _⟩
      case slice e =>
       simp only[hu] at h
       split at h <;> try (cases h;done)
       all_goals first | (rename_i hd _;cases hd;done) | (rename_i hd;cases hd;done) | skip
       all_goals
        rename_i hl
        simp only[LR] at h
        subst h
        rw[hl] at hargs
        have hl1:=hargs.1
        have h0:=hargs.2 0
        cases hargs':args.toList.map ρ' with
        |nil=>rw[hargs'] at hl1;simp at hl1
        |cons v' rest =>
         rw[hargs'] at h0;simp at h0
         have ex:args.toList.head?.map ρ'=some v':=by rw[<- Rn,hargs'];rfl
         have ex0:(args[0]?).map ρ'=some v':=by
          rw[<- ex]
          cases args with
          |mk l=>cases l <;> simp
         have ex1:(args.map ρ')[0]?=some v':=by simpa using ex0
         first
          |(obtain⟨a0,cap0,rfl,_⟩:=h0.rD
            exact⟨_,λw=>by simp[execOp,resolve,invoke,builtin,PV,goInt,ha,ex0,ax hu'],.int _ _⟩)
          |(obtain⟨a0,cap0,rfl,_⟩:=h0.H6.rD
            exact⟨_,λw=>by simp[execOp,resolve,invoke,builtin,PV,goInt,ha,ex0,ax hu'],.int _ _⟩)
          |(cases h0 <;> exact⟨_,λw=>by simp[execOp,resolve,invoke,builtin,PV,goInt,ha,ex0,ax hu'],.int _ _⟩)
   case cap =>
    have hargs:ba ι (args.toList.map ρ) (args.toList.map ρ'):=by
     have:=(bB.map args (λx hx=>hρ x (by simp[Mi,NQ,hx]))).list;simpa using this
    simp only[aC] at h
    cases hu:(argTypes[0]?).bind P.underlying with
    |none=>simp[hu] at h
    |some d =>
     cases ha:argTypes[0]? with
     |none=>simp[ha] at hu
     |some t0 =>
      have hu':P.underlying t0=some d:=by simpa[ha] using hu
      cases d <;> try (simp[hu] at h;done)
      case slice e =>
       simp only[hu] at h
       split at h <;> try (cases h;done)
       all_goals
        rename_i hd hl
        simp only[LR] at h
        subst h
        rw[hl] at hargs
        have hl1:=hargs.1
        have h0:=hargs.2 0
        cases hargs':args.toList.map ρ' with
        |nil=>rw[hargs'] at hl1;simp at hl1
        |cons v' rest =>
         rw[hargs'] at h0;simp at h0
         have ex:args.toList.head?.map ρ'=some v':=by rw[<- Rn,hargs'];rfl
         have ex0:(args[0]?).map ρ'=some v':=by
          rw[<- ex]
          cases args with
          |mk l=>cases l <;> simp
         cases h0 <;> exact⟨_,λw=>by simp[execOp,resolve,invoke,builtin,Builtin.cap_,goInt,ha,ex0,ax hu'],.int _ _⟩
   case min =>
    have hargs:ba ι (args.toList.map ρ) (args.toList.map ρ'):=by
     have:=(bB.map args (λx hx=>hρ x (by simp[Mi,NQ,hx]))).list;simpa using this
    simp only[aC] at h
    split at h
    .rename_i k a k' b hl
     split at h
     .rename_i hk
      subst hk
      cases h
      rw[hl] at hargs
      have hl2:args.toList.map ρ'=[.int k a,.int k b]:=by
       exact Bc hargs
      refine⟨_,λw=>by simp[execOp,resolve,invoke,builtin,Builtin.min_,Builtin.min2,hl2];rfl,?_⟩
      have:(if b<a then b else a)=(match ltI b a with|true=>b|false=>a):=by
       rw[fG]
       by_cases c:b<a <;> simp[c]
      rw[this]
      exact .int _ _
     .cases h
    .exact FB (by simp) h
   case max =>
    have hargs:ba ι (args.toList.map ρ) (args.toList.map ρ'):=by
     have:=(bB.map args (λx hx=>hρ x (by simp[Mi,NQ,hx]))).list;simpa using this
    simp only[aC] at h
    split at h
    .rename_i k a k' b hl
     split at h
     .rename_i hk
      subst hk
      cases h
      rw[hl] at hargs
      have hl2:args.toList.map ρ'=[.int k a,.int k b]:=by
       exact Bc hargs
      refine⟨_,λw=>by simp[execOp,resolve,invoke,builtin,Builtin.max_,Builtin.max2,hl2];rfl,?_⟩
      have:(if b>a then b else a)=(match ltI a b with|true=>b|false=>a):=by
       rw[fG]
       by_cases c:b>a <;> simp[c]
      rw[this]
      exact .int _ _
     .cases h
    .exact FB (by simp) h
  |value f=>simp[aC] at h
  |invoke r m=>simp[aC] at h
 |_=>simp[aC] at h
end Go.Abs
