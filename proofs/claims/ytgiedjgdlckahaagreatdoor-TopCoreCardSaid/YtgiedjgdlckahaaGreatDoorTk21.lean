/-
  AbsV: parts of the proof.
-/
import Derived.Test.YtgiedjgdlckahaaGreatDoorTk20
import Derived.Handed
import Derived.OpenShut
import Derived.Below
import Derived.Carry
import Derived.ProofKit
namespace Go.Abs
open Go.ChangeShapes Go.RowKit
theorem kj {H:Type}{enc:TypeId×Value->H}{a:Assume}{C:Checked}{os:Os}{f:FuncId}{fn:Func}{s:ChangeSpec}{conds:List PathCond}{apart fresh handsOn again:Bool}{X:World->Array Value->Prop}
  (hX:∀ (w w':World) (args:Array Value),w.heap=w'.heap->X w args->X w' args)
  (own:ownKnob C.prog.godebug=none) (started:os.Started) (noInit:C.prog.inits.idxOf? f=none) (hfn:C.prog.funcs[f]?=some fn)
  (witness:∃ (w:World) (tape:Tape) (i:Input),w.os=os/\(w.forCall tape i).Shaped C.prog/\i.vars=[]/\Input.okWide C.prog (w.forCall tape i) .any w.heap.size f i /\
   ((s.pre enc C.prog fn conds apart (w.forCall tape i).memory i.args/\X (w.forCall tape i).memory i.args)/\sizedMet enc C.prog fn (OpenSpec.ofChange s) apart (w.forCall tape i).memory i.args)/\a.holds C.prog (lone (Frame.enter C.prog f i.args .normal) [] (w.forCall tape i)))
  (contract:∀ (W:World) (base:Nat) (args:Array Value) (ds gs:List (DataW H)) (before:List MemPlace),
   W.ShapedOpen C.prog ->
   (∀ (j:Nat) t v,fn.params[j]?=some t->args[j]?=some v->Value.okWide C.prog W .any base t v) ->
   DataW.Whole enc C.prog fn.params.toList s.vars apart W args.toList ds gs before ->
   X W args ->
   Calls C.prog f args W fun e W'=>∃ v,e=.returned v/\s.post enc C.prog fn apart fresh handsOn again W args v W') :
  ReturnsInHanded a C os f .any (fun w args=>(s.pre enc C.prog fn conds apart w args/\X w args)/\sizedMet enc C.prog fn (OpenSpec.ofChange s) apart w args) (s.post enc C.prog fn apart fresh handsOn again):=by
 refine returnsInHanded_of_calls own started noInit witness ?_;intro w tape i _ hsh _ hok hpre hholds;obtain⟨_,_,_,fn',hfn',_,_,_,_,hval⟩:=hok;have e:fn'=fn:=Option.some.inj (hfn'.symm.trans hfn);subst e;obtain⟨⟨⟨ds,gs,before,hw,hc⟩,hx⟩,hz⟩:=hpre;have hw':=DataW.Whole.of_heap (w':=w.forCall tape i) (by rfl) hw;refine (contract (w.forCall tape i) w.heap.size i.args ds gs before hsh hval hw' (hX _ _ _ (by rfl) hx)).mono fun e W' ⟨v,he,hp⟩=>?_;subst he;exact ChangeSpec.post_blind hp
theorem oh {H:Type}{enc:TypeId×Value->H}{P:Program} (hl:laidOutB P=true) {W W':World} (hb:Below W.heap.size W W') :
  ∀ {ts:List TypeId} {vs:List Value} {ds:List (DataW H)} {p:List MemPlace},ts.all (fun t=>P.readableRec t&&decide (t<P.types.size))=true->DataW.TrodAll enc P W 0 (fun _=>true) true ts vs ds p ->
   DataW.TrodAll enc P W' 0 (fun b=>decide (b<W.heap.size)) true ts vs ds p
 |[],vs,ds,p,_,h=>by
  obtain⟨rfl,rfl,rfl⟩:=trodAll_nil h;exact trodAll_mk0
 |t::ts,vs,ds,p,hts,h=>by
  simp only[List.all_cons,Bool.and_eq_true,decide_eq_true_eq] at hts;obtain⟨v,vs',d,ds',p1,p2,rfl,rfl,rfl,h1,h2⟩:=trodAll_cons h
  have lt:∀ x∈p1,x.block<W.heap.size:=by obtain⟨m,hm⟩:=h1;exact DataW.trod_lt m _ _ _ hm
  exact trodAll_cons_mk (Below.trod hl hts.1.1 hts.1.2 h1 hb lt) (oh hl hb hts.2 h2)
theorem mN {H:Type}{enc:TypeId×Value->H}{P:Program}{W:World}{b:Nat}{sp:Nat->Bool}{ho:Bool}:∀ {ts:List TypeId}{vs:List Value}{ds:List (DataW H)}{p:List MemPlace},DataW.TrodAll enc P W b sp ho ts vs ds p->vs.length=ts.length/\ds.length=ts.length
 |[],vs,ds,p,h=>by
  obtain⟨rfl,rfl,rfl⟩:=trodAll_nil h;exact⟨rfl,rfl⟩
 |t::ts,vs,ds,p,h=>by
  obtain⟨v,vs',d,ds',p1,p2,rfl,rfl,rfl,h1,h2⟩:=trodAll_cons h;have:=mN h2;simp[this.1,this.2]
theorem En {H:Type}{enc:TypeId×Value->H}{C:Checked}{os:Os}{f:FuncId}{fn:Func}{s:ChangeSpec}{conds:List PathCond}{X:World->Array Value->Prop}
  (hX:∀ (w w':World) (args:Array Value),w.heap=w'.heap->X w args->X w' args)
  (own:ownKnob C.prog.godebug=none) (started:os.Started) (noInit:C.prog.inits.idxOf? f=none) (hfn:C.prog.funcs[f]?=some fn)
  (witness:∃ (w:World) (tape:Tape) (i:Input),w.os=os/\(w.forCall tape i).Shaped C.prog/\i.vars=[]/\Input.okWide C.prog (w.forCall tape i) .any w.heap.size f i /\
   ((s.pre enc C.prog fn conds false (w.forCall tape i).memory i.args/\X (w.forCall tape i).memory i.args)/\sizedMet enc C.prog fn (OpenSpec.ofChange s) false (w.forCall tape i).memory i.args) /\
   ({}:Assume).holds C.prog (lone (Frame.enter C.prog f i.args .normal) [] (w.forCall tape i)))
  (laidOut:laidOutB C.prog=true) (hv:s.vars=[])
  (hs:∀ ds:List (DataW H),ds.length=fn.params.toList.length->s.fn H ds={ results:=[.lit (.bool true)],args:=ds })
  (hts:fn.params.toList.all (fun t=>C.prog.readableRec t&&decide (t<C.prog.types.size))=true) {tb:TypeId} (hres:fn.resultTypes = #[tb]) (hub:C.prog.underlying tb=some .bool)
  (run:∀ (W:World) (base:Nat) (args:Array Value),W.ShapedOpen C.prog->args.size=fn.params.size ->
   (∀ (j:Nat) t v,fn.params[j]?=some t->args[j]?=some v->Value.okWide C.prog W .any base t v)->X W args ->
   (∃ (ds:List (DataW H)) (p:List MemPlace),DataW.TrodAll enc C.prog W 0 (fun _=>true) true fn.params.toList args.toList ds p) ->
   Calls C.prog f args W fun e W'=>e=.returned (.bool true)/\Below W.heap.size W W') :
  ReturnsInHanded {} C os f .any (fun w args=>(s.pre enc C.prog fn conds false w args/\X w args)/\sizedMet enc C.prog fn (OpenSpec.ofChange s) false w args) (s.post enc C.prog fn false true false false):=by
 refine kj hX own started noInit hfn witness ?_;intro W base args ds gs before hsh hval hW hx;have hW':=hW;obtain⟨p,q,hA,hV,rfl,hfz,hnd⟩:=hW;rw[hv] at hV;obtain⟨rfl,rfl⟩:=trodVars_none hV;have hlen:=mN hA;refine (run W base args hsh (by simpa using hlen.1) hval hx ⟨_,_,hA⟩).mono fun e W' ⟨he,bel⟩=>?_;subst he
 have e1:s.fn H (ds++[])={ results:=[.lit (.bool true)],args:=ds }:=by rw[List.append_nil];exact hs ds hlen.2
 refine⟨_,rfl,ds,[],_,[],p,[],hW',?_,?_,?_,bel.frame _,fun h=>by cases h⟩
 ·rw[e1,hres];exact trodAll_mk1 (shut_bool hub _)
 ·rw[e1];exact oh laidOut bel hts hA
 ·rw[e1,hv];rfl
def jS (locs:List Loc) (W:World):Inj:=⟨fun g:Nat=>locs[g]?,fun b=>match W.heap[b]? with
 |some (.cells C _ _)=>some C
 |_=>none⟩
theorem HRel.start {N:Nat}{W:World} (objs:List AObj) (locs:List Loc) (hlen:locs.length=objs.length) (glob:∀ g:Nat,g<N->∃ l,locs[g]?=some l/\l.blk=g/\l.base=0)
  (blk:∀ l∈locs,l.blk<W.heap.size) (obj:∀ (g:Nat) l o,locs[g]?=some l->objs[g]?=some o->ORel (jS locs W) l o W.heap[l.blk]?) (ro:∀ o∈objs,o.mut=false) :
  HRel N (jS locs W) (bJ objs) W where
 dom:=fun g l e=>by
  show g<objs.length
  rw[<- hlen];exact (List.getElem?_eq_some_iff.1 e).1
 blk:=fun g l e=>blk l (List.mem_of_getElem? e)
 glob:=glob
 obj:=fun g l o e1 e2=>by
  rw[dm] at e2;exact obj g l o e1 e2
 apart:=fun g g' l l' _ _ _ m _=>by
  obtain⟨o,e,m⟩:=m;rw[dm] at e;rw[ro o (List.mem_of_getElem? e)] at m
  cases m
 frz:=fun b C e=>by
  simp only[jS] at e;split at e
  ·rename_i ty fr q
   cases e
   exact⟨_,_,q⟩
  ·cases e
 fzap:=fun b C g l _ _ m=>by
  obtain⟨o,e,m⟩:=m;rw[dm] at e;rw[ro o (List.mem_of_getElem? e)] at m
  cases m
 rofz:=fun g l cs e1 e2=>by
  rw[dm] at e2;obtain⟨C,ty,fr,q,_⟩:=obj g l _ e1 e2;exact⟨C,by simp only[jS,q]⟩
theorem yP {P:Program}{N:Nat}{f:FuncId}{fn:Func}{c:Code} (hfn:P.funcs[f]?=some fn) (hb:fn.body=some c) {vs vs':Array Value}{v:Value}{objs:List AObj}{h':Heap}{ι:Inj}{W:World}
  (hc:CallD P N f vs (bJ objs) v h') (hp:plain v=true) (H:HRel N ι (bJ objs) W) (ro:∀ o∈objs,o.mut=false) (r:bm ι vs vs') :
  Calls P f vs' W fun e W'=>e=.returned v/\Below W.heap.size W W':=by
 rcases hc.2 ι W vs' H r with⟨_,h⟩|⟨v',h,_⟩
 ·refine h.mono fun e W' ⟨ι',v',he,rv,_,S⟩=>⟨?_,?_⟩
  ·rw[he,rv.bS hp]
  ·refine⟨S.out.2.1,S.out.2.2.1,S.out.1,S.wsize,fun k hk=>S.frame k hk fun g l _ m=>?_⟩;obtain⟨o,e,m⟩:=m;rw[dm] at e;rw[ro o (List.mem_of_getElem? e)] at m
   cases m
 ·exfalso;unfold callFunc at h;simp[hfn,hb] at h
  split at h <;> cases h
mutual
def flat {H:Type}:DataW H->Option (List Value)
 |.lit (.int k n)=>some [.int k n]
 |.lit (.string b)=>some [.string ⟨b.toArray⟩]
 |.agg ds=>gA ds
 |_=>none
def gA {H:Type}:List (DataW H)->Option (List Value)
 |[]=>some []
 |d::ds=>match flat d,gA ds with
  |some a,some b=>some (a++b)
  |_,_=>none
end
def CE (P:Program):Nat->TypeId->Bool
 |0,_=>false
 |d+1,t=>match P.underlying t with
  |some (.int _)=>true
  |some .string=>true
  |some (.array n e)=>P.cellsOf t==n*P.cellsOf e&&CE P d e
  |_=>false
theorem jy {H:Type}{c:Nat}:∀ (xs:List (DataW H×List MemPlace)) (cs:List Value),cs.length=xs.length*c->(∀ (i:Nat) (x:DataW H×List MemPlace),xs[i]?=some x->flat x.1=some ((cs.drop (i*c)).take c)) ->
  gA (xs.map (·.1))=some cs
 |[],cs,h,_=>by
  have:cs=[]:=List.length_eq_zero_iff.1 (by simpa using h);subst this;simp[gA]
 |x::xs,cs,h,hx=>by
  have h0:=hx 0 x rfl
  have hr:=jy (c:=c) xs (cs.drop c) (by simp only[List.length_drop,h,List.length_cons,Nat.add_mul];omega) fun i y hy=>by
   have:=hx (i+1) y (by simpa using hy);rw[this,List.drop_drop,Nat.add_mul,Nat.one_mul,Nat.add_comm c]
  simp only[Nat.zero_mul,List.drop_zero] at h0;simp only[List.map_cons,gA,h0,hr,List.take_append_drop]
theorem wX {H:Type}{enc:TypeId×Value->H}{P:Program}{w:World}{base:Nat}{spare:Nat->Bool}{held:Bool}:∀ (d:Nat) (t:TypeId) (fuel:Nat) (cs:List Value) (x:DataW H×List MemPlace),CE P d t=true ->
  DataW.trod enc P w base spare held fuel t cs=some x->flat x.1=some cs
 |0,_,_,_,_,h,_=>by simp[CE] at h
 |d+1,t,fuel,cs,x,h,ht=>by
  unfold CE at h;split at h
  ·rename_i k hu;obtain⟨n,rfl,rfl,_⟩:=DataW.trod_int hu ht;simp[flat]
  ·rename_i hu;obtain⟨s,rfl,rfl,_⟩:=DataW.trod_string hu ht;simp[flat]
  ·rename_i n e hu;simp only[Bool.and_eq_true,beq_iff_eq] at h;obtain⟨xs,m,rfl,rfl,h1,h2,h3⟩:=DataW.trod_array hu ht;simp only[flat];refine jy (c:=P.cellsOf e) xs cs (by rw[h1,h2,h.1]) fun i y hy=>?_
   have hi:i<n:=by rw[<- h2];exact (List.getElem?_eq_some_iff.1 hy).1
   exact wX d e m _ y h.2 ((h3 i hi).trans hy)
  ·cases h
theorem A6 {P:Program}{n:String}{g:Nat}{t:TypeId}{dt:DataW Unit}{cs:Array Value}{W:World}{enc:TypeId×Value->Unit}{base:Nat}{spare:Nat->Bool}{held:Bool}{fuel depth:Nat}{p:List MemPlace}{vs:List Value}
  (hg:P.globalNamed n=some g) (hv:W.var? P n=some cs) (hd:DataW.trod enc P W base spare held fuel t cs.toList=some (dt,p)) (ha:CE P depth t=true) (hf:flat dt=some vs) (i:Nat) :
  W.cell? ⟨g,i,none⟩=vs[i]?:=by
 have:=wX depth t fuel cs.toList _ ha hd;rw[hf] at this;simp only[Option.some.injEq] at this;rw[World.var?_cell hg hv i,this];simp
theorem ORel.uu {ι:Inj}{W:World}{b:Nat}{vs:List Value}{C:Array Value}{ty:TypeId}{fr:Nat×Nat} (hb:W.heap[b]?=some (.cells C ty fr)) (hc:∀ i,i<vs.length->W.cell? ⟨b,i,none⟩=vs[i]?) (hp:vs.all plain=true) :
  ORel ι ⟨b,0,C.size⟩ (.cells vs true) W.heap[b]?:=by
 have hc':∀ i,i<vs.length->C[i]?=vs[i]?:=fun i hi=>by
  have:=hc i hi;simpa[World.cell?,hb] using this
 refine⟨C,ty,fr,hb,by simp,rfl,?_,fun i v hv=>⟨v,?_,VRel.aN (List.all_eq_true.1 hp v (List.mem_of_getElem? hv))⟩⟩
 ·rcases Nat.eq_zero_or_pos vs.length with h0|h0
  ·simp[h0]
  ·have:=hc' (vs.length-1) (by omega);rw[List.getElem?_eq_getElem (by omega)] at this;have:=(Array.getElem?_eq_some_iff.1 this).1;simp only[Nat.zero_add];omega
 ·have hi:i<vs.length:=(List.getElem?_eq_some_iff.1 hv).1;simp only[Nat.zero_add];rw[hc' i hi,hv]
end Go.Abs
