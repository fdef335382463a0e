/- Parts of the proof. -/
import Derived.Test.YtglgdkineobbeaaGreatDoorTn20
import Derived.Handed
import Derived.OpenShut
import Derived.Below
import Derived.Carry
import Derived.ProofKit
open Go.DataW renaming TrodAll->PH,trod->OJ
open Go.DataW.Whole renaming of_heap->SF
open Go.Frame renaming enter->SC
open Go.Input renaming okWide->Sw
open Go.OpenSpec renaming ofChange->Pp
open Go.Value renaming okWide->PZ
namespace Go.Abs
open Go.ChangeShapes Go.RowKit
theorem lO{H:Type}{enc:TypeId×Value->H}{a:Assume}{C:Checked}{os:Os}{f:FuncId}{fn:Func}{s:ChangeSpec}{conds:List PathCond}{apart fresh handsOn again:Bool}{X:World->Array Value->Prop}
  (hX:∀(w w':World) (args:Array Value),w.heap=w'.heap->X w args->X w' args)
  (own:ownKnob C.prog.godebug=none) (started:os.Started) (noInit:C.prog.inits.idxOf? f=none) (hfn:C.prog.funcs[f]?=some fn)
  (witness:∃(w:World) (tape:Tape) (i:Input),w.os=os/\(w.forCall tape i).Shaped C.prog/\i.vars=[]/\Sw C.prog (w.forCall tape i) .any w.heap.size f i /\
   ((s.pre enc C.prog fn conds apart (w.forCall tape i).memory i.args/\X (w.forCall tape i).memory i.args)/\sizedMet enc C.prog fn (Pp s) apart (w.forCall tape i).memory i.args)/\a.holds C.prog (lone (SC C.prog f i.args .normal) [] (w.forCall tape i)))
  (contract:∀(W:World) (base:Nat) (args:Array Value) (ds gs:List (DataW H)) (before:List MemPlace),
   W.ShapedOpen C.prog ->
   (∀(j:Nat) t v,fn.params[j]?=some t->args[j]?=some v->PZ C.prog W .any base t v) ->
   DataW.Whole enc C.prog fn.params.toList s.vars apart W args.toList ds gs before ->
   X W args ->
   Calls C.prog f args W λe W'=>∃v,e=.returned v/\s.post enc C.prog fn apart fresh handsOn again W args v W') :
  ReturnsInHanded a C os f .any (λw args=>(s.pre enc C.prog fn conds apart w args/\X w args)/\sizedMet enc C.prog fn (Pp s) apart w args) (s.post enc C.prog fn apart fresh handsOn again):=by
 refine returnsInHanded_of_calls own started noInit witness ?_;intro w tape i _ hsh _ hok hpre hholds;obtain⟨_,_,_,fn',hfn',_,_,_,_,hval⟩:=hok;have e:fn'=fn:=Ni (hfn'.symm.trans hfn);subst e;obtain⟨⟨⟨ds,gs,before,hw,hc⟩,hx⟩,hz⟩:=hpre;have hw':=SF (w':=w.forCall tape i) (by rfl) hw;refine (contract (w.forCall tape i) w.heap.size i.args ds gs before hsh hval hw' (hX _ _ _ (by rfl) hx)).mono λe W' ⟨v,he,hp⟩=>?_;subst he;exact ChangeSpec.post_blind hp
theorem qg{H:Type}{enc:TypeId×Value->H}{P:Program}(hl:laidOutB P=true){W W':World}(hb:Below W.heap.size W W') :
  ∀{ts:List TypeId} {vs:List Value} {ds:List (DataW H)} {p:List MemPlace},ts.all (λt=>P.readableRec t&&decide (t<P.types.size))=true->PH enc P W 0 (λ_=>true) true ts vs ds p ->
   PH enc P W' 0 (λb=>decide (b<W.heap.size)) true ts vs ds p
 |[],vs,ds,p,_,h=>by
  obtain⟨rfl,rfl,rfl⟩:=trodAll_nil h;exact trodAll_mk0
 |t::ts,vs,ds,p,hts,h=>by
  simp only[List.all_cons,L9,decide_eq_true_eq] at hts;obtain⟨v,vs',d,ds',p1,p2,rfl,rfl,rfl,h1,h2⟩:=trodAll_cons h
  have lt:∀x∈p1,x.block<W.heap.size:=by obtain⟨m,hm⟩:=h1;exact DataW.trod_lt m _ _ _ hm
  exact trodAll_cons_mk (Below.trod hl hts.1.1 hts.1.2 h1 hb lt) (qg hl hb hts.2 h2)
theorem pa{H:Type}{enc:TypeId×Value->H}{P:Program}{W:World}{b:Nat}{sp:Nat->Bool}{ho:Bool}:∀{ts:List TypeId}{vs:List Value}{ds:List (DataW H)}{p:List MemPlace},PH enc P W b sp ho ts vs ds p->vs.length=ts.length/\ds.length=ts.length
 |[],vs,ds,p,h=>by
  obtain⟨rfl,rfl,rfl⟩:=trodAll_nil h;exact⟨rfl,rfl⟩
 |t::ts,vs,ds,p,h=>by
  obtain⟨v,vs',d,ds',p1,p2,rfl,rfl,rfl,h1,h2⟩:=trodAll_cons h;have:=pa h2;simp[this.1,this.2]
theorem Gg{H:Type}{enc:TypeId×Value->H}{C:Checked}{os:Os}{f:FuncId}{fn:Func}{s:ChangeSpec}{conds:List PathCond}{X:World->Array Value->Prop}
  (hX:∀(w w':World) (args:Array Value),w.heap=w'.heap->X w args->X w' args)
  (own:ownKnob C.prog.godebug=none) (started:os.Started) (noInit:C.prog.inits.idxOf? f=none) (hfn:C.prog.funcs[f]?=some fn)
  (witness:∃(w:World) (tape:Tape) (i:Input),w.os=os/\(w.forCall tape i).Shaped C.prog/\i.vars=[]/\Sw C.prog (w.forCall tape i) .any w.heap.size f i /\
   ((s.pre enc C.prog fn conds false (w.forCall tape i).memory i.args/\X (w.forCall tape i).memory i.args)/\sizedMet enc C.prog fn (Pp s) false (w.forCall tape i).memory i.args) /\
   ({}:Assume).holds C.prog (lone (SC C.prog f i.args .normal) [] (w.forCall tape i)))
  (laidOut:laidOutB C.prog=true) (hv:s.vars=[])
  (hs:∀ds:List (DataW H),ds.length=fn.params.toList.length->s.fn H ds={ results:=[.lit (.bool true)],args:=ds })
  (hts:fn.params.toList.all (λt=>C.prog.readableRec t&&decide (t<C.prog.types.size))=true) {tb:TypeId} (hres:fn.resultTypes = #[tb]) (hub:C.prog.underlying tb=some .bool)
  (run:∀(W:World) (base:Nat) (args:Array Value),W.ShapedOpen C.prog->args.size=fn.params.size ->
   (∀(j:Nat) t v,fn.params[j]?=some t->args[j]?=some v->PZ C.prog W .any base t v)->X W args ->
   (∃(ds:List (DataW H)) (p:List MemPlace),PH enc C.prog W 0 (λ_=>true) true fn.params.toList args.toList ds p) ->
   Calls C.prog f args W λe W'=>e=.returned (.bool true)/\Below W.heap.size W W') :
  ReturnsInHanded {} C os f .any (λw args=>(s.pre enc C.prog fn conds false w args/\X w args)/\sizedMet enc C.prog fn (Pp s) false w args) (s.post enc C.prog fn false true false false):=by
 refine lO hX own started noInit hfn witness ?_;intro W base args ds gs before hsh hval hW hx;have hW':=hW;obtain⟨p,q,hA,hV,rfl,hfz,hnd⟩:=hW;rw[hv] at hV;obtain⟨rfl,rfl⟩:=trodVars_none hV;have hlen:=pa hA;refine (run W base args hsh (by simpa using hlen.1) hval hx ⟨_,_,hA⟩).mono λe W' ⟨he,bel⟩=>?_;subst he
 have e1:s.fn H (ds++[])={ results:=[.lit (.bool true)],args:=ds }:=by rw[MZ];exact hs ds hlen.2
 refine⟨_,rfl,ds,[],_,[],p,[],hW',?_,?_,?_,bel.frame _,λh=>by cases h⟩
 .rw[e1,hres];exact trodAll_mk1 (shut_bool hub _)
 .rw[e1];exact qg laidOut bel hts hA
 .rw[e1,hv];rfl
def lH(locs:List Loc)(W:World):Inj:=⟨λg:Nat=>locs[g]?,λb=>match W.heap[b]? with
 |some (.cells C _ _)=>some C
 |_=>none⟩
theorem HRel.start{N:Nat}{W:World}(objs:List AObj)(locs:List Loc)(hlen:locs.length=objs.length)(glob:∀g:Nat,g<N->∃l,locs[g]?=some l/\l.blk=g/\l.base=0)
  (blk:∀l∈locs,l.blk<W.heap.size) (obj:∀(g:Nat) l o,locs[g]?=some l->objs[g]?=some o->iL (lH locs W) l o W.heap[l.blk]?) (ro:∀o∈objs,o.mut=false) :
  HRel N (lH locs W) (cj objs) W where
 dom:=λg l e=>by
  show g<objs.length
  rw[<- hlen];exact (LX.1 e).1
 blk:=λg l e=>blk l (LS e)
 glob:=glob
 obj:=λg l o e1 e2=>by
  rw[eh] at e2;exact obj g l o e1 e2
 apart:=λg g' l l' _ _ _ m _=>by
  obtain⟨o,e,m⟩:=m;rw[eh] at e;rw[ro o (LS e)] at m
  cases m
 frz:=λb C e=>by
  simp only[lH] at e;split at e
  .rename_i ty fr q
   cases e
   exact⟨_,_,q⟩
  .cases e
 fzap:=λb C g l _ _ m=>by
  obtain⟨o,e,m⟩:=m;rw[eh] at e;rw[ro o (LS e)] at m
  cases m
 rofz:=λg l cs e1 e2=>by
  rw[eh] at e2;obtain⟨C,ty,fr,q,_⟩:=obj g l _ e1 e2;exact⟨C,by simp only[lH,q]⟩
theorem BS{P:Program}{N:Nat}{f:FuncId}{fn:Func}{c:Code}(hfn:P.funcs[f]?=some fn)(hb:fn.body=some c){vs vs':Array Value}{v:Value}{objs:List AObj}{h':Heap}{ι:Inj}{W:World}
  (hc:al P N f vs (cj objs) v h') (hp:plain v=true) (H:HRel N ι (cj objs) W) (ro:∀o∈objs,o.mut=false) (r:bB ι vs vs') :
  Calls P f vs' W λe W'=>e=.returned v/\Below W.heap.size W W':=by
 rcases hc.2 ι W vs' H r with⟨_,h⟩|⟨v',h,_⟩
 .refine h.mono λe W' ⟨ι',v',he,rv,_,S⟩=>⟨?_,?_⟩
  .rw[he,rv.cv hp]
  .refine⟨S.out.2.1,S.out.2.2.1,S.out.1,S.wsize,λk hk=>S.frame k hk λg l _ m=>?_⟩;obtain⟨o,e,m⟩:=m;rw[eh] at e;rw[ro o (LS e)] at m
   cases m
 .exfalso;unfold callFunc at h;simp[hfn,hb] at h
  split at h <;> cases h
mutual
def flat {H:Type}:DataW H->Option (List Value)
 |.lit (.int k n)=>some [.int k n]
 |.lit (.string b)=>some [.string ⟨b.toArray⟩]
 |.agg ds=>jC ds
 |_=>none
def jC {H:Type}:List (DataW H)->Option (List Value)
 |[]=>some []
 |d::ds=>match flat d,jC ds with
  |some a,some b=>some (a++b)
  |_,_=>none
end
def E1(P:Program):Nat->TypeId->Bool
 |0,_=>false
 |d+1,t=>match P.underlying t with
  |some (.int _)=>true
  |some .string=>true
  |some (.array n e)=>P.cellsOf t==n*P.cellsOf e&&E1 P d e
  |_=>false
theorem kR{H:Type}{c:Nat}:∀(xs:List (DataW H×List MemPlace)) (cs:List Value),cs.length=xs.length*c->(∀(i:Nat) (x:DataW H×List MemPlace),xs[i]?=some x->flat x.1=some ((cs.drop (i*c)).take c)) ->
  jC (xs.map (·.1))=some cs
 |[],cs,h,_=>by
  have:cs=[]:=O7.1 (by simpa using h);subst this;simp[jC]
 |x::xs,cs,h,hx=>by
  have h0:=hx 0 x rfl
  have hr:=kR (c:=c) xs (cs.drop c) (by simp only[No,h,M8,Nk];omega) λi y hy=>by
   have:=hx (i+1) y (by simpa using hy);rw[this,QC,Nk,Oh,OQ c]
  simp only[Q7,M0] at h0;simp only[MM,jC,h0,hr,Na]
theorem yD{H:Type}{enc:TypeId×Value->H}{P:Program}{w:World}{base:Nat}{spare:Nat->Bool}{held:Bool}:∀(d:Nat) (t:TypeId) (fuel:Nat) (cs:List Value) (x:DataW H×List MemPlace),E1 P d t=true ->
  OJ enc P w base spare held fuel t cs=some x->flat x.1=some cs
 |0,_,_,_,_,h,_=>by simp[E1] at h
 |d+1,t,fuel,cs,x,h,ht=>by
  unfold E1 at h;split at h
  .rename_i k hu;obtain⟨n,rfl,rfl,_⟩:=DataW.trod_int hu ht;simp[flat]
  .rename_i hu;obtain⟨s,rfl,rfl,_⟩:=DataW.trod_string hu ht;simp[flat]
  .rename_i n e hu;simp only[L9,beq_iff_eq] at h;obtain⟨xs,m,rfl,rfl,h1,h2,h3⟩:=DataW.trod_array hu ht;simp only[flat];refine kR (c:=P.cellsOf e) xs cs (by rw[h1,h2,h.1]) λi y hy=>?_
   have hi:i<n:=by rw[<- h2];exact (LX.1 hy).1
   exact yD d e m _ y h.2 ((h3 i hi).trans hy)
  .cases h
theorem CV{P:Program}{n:String}{g:Nat}{t:TypeId}{dt:DataW Unit}{cs:Array Value}{W:World}{enc:TypeId×Value->Unit}{base:Nat}{spare:Nat->Bool}{held:Bool}{fuel depth:Nat}{p:List MemPlace}{vs:List Value}
  (hg:P.globalNamed n=some g) (hv:W.var? P n=some cs) (hd:OJ enc P W base spare held fuel t cs.toList=some (dt,p)) (ha:E1 P depth t=true) (hf:flat dt=some vs) (i:Nat) :
  W.cell? ⟨g,i,none⟩=vs[i]?:=by
 have:=yD depth t fuel cs.toList _ ha hd;rw[hf] at this;simp only[LR] at this;rw[World.var?_cell hg hv i,this];simp
theorem iL.vq{ι:Inj}{W:World}{b:Nat}{vs:List Value}{C:Array Value}{ty:TypeId}{fr:Nat×Nat}(hb:W.heap[b]?=some (.cells C ty fr))(hc:∀i,i<vs.length->W.cell? ⟨b,i,none⟩=vs[i]?)(hp:vs.all plain=true) :
  iL ι ⟨b,0,C.size⟩ (.cells vs true) W.heap[b]?:=by
 have hc':∀i,i<vs.length->C[i]?=vs[i]?:=λi hi=>by
  have:=hc i hi;simpa[World.cell?,hb] using this
 refine⟨C,ty,fr,hb,by simp,rfl,?_,λi v hv=>⟨v,?_,VRel.aU (Md.1 hp v (LS hv))⟩⟩
 .rcases Nat.eq_zero_or_pos vs.length with h0|h0
  .simp[h0]
  .have:=hc' (vs.length-1) (by omega);rw[LU (by omega)] at this;have:=(L3.1 this).1;simp only[Nu];omega
 .have hi:i<vs.length:=(LX.1 hv).1;simp only[Nu];rw[hc' i hi,hv]
end Go.Abs
