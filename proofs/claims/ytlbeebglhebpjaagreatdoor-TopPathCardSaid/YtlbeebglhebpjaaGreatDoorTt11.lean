/-
  AbsI: parts of the proof.
-/
import Derived.Test.YtlbeebglhebpjaaGreatDoorTt10
import Derived.Laws.NewFold
namespace Go.Abs
section
variable {N:Nat} {P:Program} {ι:Inj} {h:Heap} {w:World}
theorem run_append_room {ts tx ty e:TypeId}{d:TypeDesc}{s n len cap:Nat}{base:Option Addr}{x:Value}{new:Array Value}{w1:World} (hu:P.underlying ts=some (.slice e)) (hx:P.underlying tx=some d)
  (hd:cO d=true) (hs:aF P e=some s) (hl:(Builtin.lenOf x).run P w=.ok n w) (hf:(Builtin.firstCells s n x).run P w=.ok new w) (hc:len+n<=cap)
  (hst:∀ a,base=some a->(storeCells (a.add (len*s)) new.toList).run P w=.ok () w1) (hb:base=none->w1=w) :
  (Builtin.append_ #[ts,tx] ty #[.slice base len cap,x]).run P w=.ok (.slice base (len+n) cap) w1:=by
 cases base with
 |none =>
  have:=hb rfl
  subst this
  cases d <;> try (simp[cO] at hd;done)
  all_goals
   simp only[Builtin.append_,List.getElem?_toArray,List.getElem?_cons_zero,List.getElem?_cons_succ,Sem.run_bind,aq hu,aq hx,Result.andThen_ok,aI hs,Sem.run_pure,hl,hc,if_true,Bool.false_eq_true,if_false,Bool.not_false,hf]
 |some a =>
  have:=hst a rfl
  cases d <;> try (simp[cO] at hd;done)
  all_goals
   simp only[Builtin.append_,List.getElem?_toArray,List.getElem?_cons_zero,List.getElem?_cons_succ,Sem.run_bind,aq hu,aq hx,Result.andThen_ok,aI hs,Sem.run_pure,hl,hc,if_true,Bool.false_eq_true,if_false,Bool.not_false,hf,this]
theorem run_append_grow {ts tx ty e:TypeId}{d:TypeDesc}{s b n len cap:Nat}{base:Option Addr}{x z:Value}{new old:Array Value} (hu:P.underlying ts=some (.slice e)) (hx:P.underlying tx=some d)
  (hd:cO d=true) (hs:aF P e=some s) (hb:gf P e=some b) (hz:zeroOf P e=some z) (hl:(Builtin.lenOf x).run P w=.ok n w)  (hf1:(Builtin.firstCells s n x).run P w.drew=.ok new w.drew) (ho:(Builtin.firstCells s len (.slice base len cap)).run P w.drew=.ok old w.drew) (hc:¬ len+n<=cap) (hroom:(len+n)*b<=2 ^ 47)
  (hmax:((len+n:Nat):Int)<=IntKind.i64.max) :
  ∃ c,len+n<=c/\(Builtin.append_ #[ts,tx] ty #[.slice base len cap,x]).run P w=.ok (.slice (some ⟨w.heap.size,0,none⟩) (len+n) c) (w.drew.alloc (.cells (old++new++Builtin.zeroCells z.cells (c-(len+n))) e)):=by
 have hinfo:∃ i,P.info? e=some i/\i.bytes=b:=by
  unfold gf at hb
  cases hi:P.info? e with
  |none=>simp[hi] at hb
  |some i=>exact⟨i,rfl,by simpa[hi] using hb⟩
 obtain⟨i,hi,rfl⟩:=hinfo
 have h1:¬ (((len+n:Nat):Int)>IntKind.i64.max/\i.bytes=0):=by omega
 have h2:¬ (Builtin.nextslicecap (len+n) cap*i.bytes>2 ^ 48):=by
  have:=nextslicecap_le (len+n) cap (by omega)
  have:Builtin.nextslicecap (len+n) cap*i.bytes<=2*(len+n)*i.bytes:=Nat.mul_le_mul_right _ this
  have:2*(len+n)*i.bytes=2*((len+n)*i.bytes):=Nat.mul_assoc ..
  omega
 refine⟨(Question.appendCap (len+n) cap e).cut (w.tape w.drawn (.appendCap (len+n) cap e)),?_,?_⟩
 ·simp[Question.cut]
 ·have hfo:(Question.appendCap (len+n) cap e).forced=false:=rfl
  have hch:(choose (Question.appendCap (len+n) cap e)).run P w=.ok ((Question.appendCap (len+n) cap e).cut (w.tape w.drawn (.appendCap (len+n) cap e))) w.drew:=by
   rw[run_choose_drew,hfo];simp
  generalize (Question.appendCap (len+n) cap e).cut (w.tape w.drawn (.appendCap (len+n) cap e))=c at hch ⊢
  have hsz:w.drew.heap.size=w.heap.size:=rfl
  cases d <;> try (simp[cO] at hd;done)
  all_goals
   simp only[Builtin.append_,List.getElem?_toArray,List.getElem?_cons_zero,List.getElem?_cons_succ,Sem.run_bind,aq hu,aq hx,Result.andThen_ok,aI hs,Sem.run_pure,hl,hc,if_false,Bool.false_eq_true,typeInfo,run_program,hi,h1,h2,false_or,hch,run_askRoom,ho,hf1,Bool.not_false,if_true,dG hz,newRow,run_newObj_alloc,hsz]
end
end Go.Abs
