/- Parts of the proof. -/
import Derived.Test.YtglgdkineobbeaaGreatDoorTn10
import Derived.Laws.NewFold
open Go.Builtin renaming append_->Oz,firstCells->MS,lenOf->Pl,nextslicecap->Pq,zeroCells->Od
open Go.IntKind renaming i64->Pd
open Go.Question renaming appendCap->Pe
open Go.Result renaming andThen_ok->Mo
open Go.Sem renaming run_bind->Mv,run_pure->MO
open List.cons renaming injEq->R9
namespace Go.Abs
section
variable {N:Nat} {P:Program} {ι:Inj} {h:Heap} {w:World}
theorem run_append_room{ts tx ty e:TypeId}{d:TypeDesc}{s n len cap:Nat}{base:Option Addr}{x:Value}{new:Array Value}{w1:World}(hu:P.underlying ts=some (.slice e))(hx:P.underlying tx=some d)
  (hd:fh d=true) (hs:bb P e=some s) (hl:(Pl x).run P w=.ok n w) (hf:(MS s n x).run P w=.ok new w) (hc:len+n<=cap)
  (hst:∀a,base=some a->(storeCells (a.add (len*s)) new.toList).run P w=.ok () w1) (hb:base=none->w1=w) :
  (Oz #[ts,tx] ty #[.slice base len cap,x]).run P w=.ok (.slice base (len+n) cap) w1:=by
 cases base with
 |none =>
  have:=hb rfl;subst this
  cases d <;> try (simp[fh] at hd;done)
  all_goals
   simp only[Oz,MR,My,M9,Mv,ax hu,ax hx,Mo,bg hs,MO,hl,hc,if_true,Nr,if_false,QD,hf]
 |some a =>
  have:=hst a rfl
  cases d <;> try (simp[fh] at hd;done)
  all_goals
   simp only[Oz,MR,My,M9,Mv,ax hu,ax hx,Mo,bg hs,MO,hl,hc,if_true,Nr,if_false,QD,hf,this]
theorem run_append_grow{ts tx ty e:TypeId}{d:TypeDesc}{s b n len cap:Nat}{base:Option Addr}{x z:Value}{new old:Array Value}(hu:P.underlying ts=some (.slice e))(hx:P.underlying tx=some d)
  (hd:fh d=true) (hs:bb P e=some s) (hb:kH P e=some b) (hz:zeroOf P e=some z) (hl:(Pl x).run P w=.ok n w)  (hf1:(MS s n x).run P w.drew=.ok new w.drew) (ho:(MS s len (.slice base len cap)).run P w.drew=.ok old w.drew) (hc:¬ len+n<=cap) (hroom:(len+n)*b<=2^47)
  (hmax:((len+n:Nat):Int)<=Pd.max) :
  ∃c,len+n<=c/\(Oz #[ts,tx] ty #[.slice base len cap,x]).run P w=.ok (.slice (some ⟨w.heap.size,0,none⟩) (len+n) c) (w.drew.alloc (.cells (old++new++Od z.cells (c-(len+n))) e)):=by
 have hinfo:∃i,P.info? e=some i/\i.bytes=b:=by
  unfold kH at hb
  cases hi:P.info? e with
  |none=>simp[hi] at hb
  |some i=>exact⟨i,rfl,by simpa[hi] using hb⟩
 obtain⟨i,hi,rfl⟩:=hinfo
 have h1:¬ (((len+n:Nat):Int)>Pd.max/\i.bytes=0):=by omega
 have h2:¬ (Pq (len+n) cap*i.bytes>2^48):=by
  have:=nextslicecap_le (len+n) cap (by omega);have:Pq (len+n) cap*i.bytes<=2*(len+n)*i.bytes:=MY _ this;have:2*(len+n)*i.bytes=2*((len+n)*i.bytes):=Nat.mul_assoc ..;omega
 refine⟨(Pe (len+n) cap e).cut (w.tape w.drawn (.appendCap (len+n) cap e)),?_,?_⟩
 .simp[Question.cut]
 .have hfo:(Pe (len+n) cap e).forced=false:=rfl
  have hch:(choose (Pe (len+n) cap e)).run P w=.ok ((Pe (len+n) cap e).cut (w.tape w.drawn (.appendCap (len+n) cap e))) w.drew:=by
   rw[run_choose_drew,hfo];simp
  generalize (Pe (len+n) cap e).cut (w.tape w.drawn (.appendCap (len+n) cap e))=c at hch ⊢;have hsz:w.drew.heap.size=w.heap.size:=rfl
  cases d <;> try (simp[fh] at hd;done)
  all_goals
   simp only[Oz,MR,My,M9,Mv,ax hu,ax hx,Mo,bg hs,MO,hl,hc,if_false,Nr,typeInfo,run_program,hi,h1,h2,false_or,hch,run_askRoom,ho,hf1,QD,if_true,fi hz,newRow,run_newObj_alloc,hsz]
end
end Go.Abs

namespace Go.Abs
section
variable {N:Nat} {P:Program} {ι:Inj} {h:Heap} {w:World}
theorem ba.tA{xs ys:List Value}(r:ba ι xs ys)(e:xs=[]):ys=[]:=by
 subst e;exact M3 r.1.symm
theorem grown(H:HRel N ι h w){cs:List Value}{old new rest:Array Value}{ty:TypeId}{len c s:Nat}(ho:ba ι cs (old++new).toList)(hlen:cs.length=len*s)(hrest:rest.size=(c-len)*s)(hc:len<=c) :
  let w':=w.drew.alloc (.cells (old++new++rest) ty)
  ∃ι',VRel ι' (.slice (some ⟨h.size,0,some s⟩) len len) (.slice (some ⟨w.heap.size,0,none⟩) len c)/\HRel N ι' (h.push (.cells cs false)) w'/\Step N ι h w ι' (h.push (.cells cs false)) w':=by
 intro w';have H':HRel N ι h w.drew:=H.same rfl
 have hsz:(old++new++rest).size=c*s:=by
  have:=ho.1;simp only[NF] at this;rw[Array.size_append,<- this,hlen,hrest,<- Nk];congr 1;omega
 have n:=HRel.new H' (o:=.cells cs false) (l:=⟨w.heap.size,0,c*s⟩) (w':=w') rfl (ON ..) (λb hb=>by
   have:b<w.heap.size:=hb
   show (w.heap.push _)[b]?=w.heap[b]?
   rw[ME]
   have:¬ b=w.heap.size:=by omega
   simp[this]) ?_ ⟨rfl,rfl,rfl,λ_=>LV _⟩
 .refine⟨_,?_,n.1,(Step.same H (w':=w.drew) rfl ⟨rfl,rfl,rfl,λ_=>NB _⟩).trans n.2⟩;refine .sliceOpen h.size 0 s len len c 0 ⟨w.heap.size,0,c*s⟩ (by simp[Inj.add]) (LV _) hc (λ_=>rfl) (by show 0+c*s<=c*s;omega)
 .refine⟨old++new++rest,ty,(0,0),?_,λ_=>rfl,hsz,?_,?_⟩
  .show (w.heap.push _)[w.heap.size]?=_
   rw[ME];simp
  .simp only[Nu];rw[hsz,hlen];exact MY _ hc
  .intro i v e;obtain⟨v',q1,q2⟩:=ho.get e;refine⟨v',?_,q2.mono (Inj.ml H'.ft)⟩
   have hi:i<(old++new).size:=by
    have:=(LX.1 q1).1;simpa using this
   rw[Nu,OI hi,<- Nt];exact q1
theorem jq(z:Array Value)(n:Nat):(Od z n).size=n*z.size:=by simp[Od]
theorem taken(H:HRel N ι h w){g:Nat}{l:Loc}{cs:List Value}(e:ι g=some l)(hg:h.get g=some (.cells cs false)){off len n s cap' o:Nat}{new new':List Value}(hr:ba ι new new')(hn:new.length=n*s)
  (ho:len≠0->o=l.base+off) (hoff:off+len*s<=cs.length) (hcap:len+n<=cap') (htot:o+cap'*s<=l.tot) (h1:∀v∈new,v.oneCell'=true) :
  ∃w' ι',(storeCells ((⟨l.blk,o,none⟩:Addr).add (len*s)) new').run P w=.ok () w'/\VRel ι' (.slice (some ⟨h.size,0,some s⟩) (len+n) (len+n)) (.slice (some ⟨l.blk,o,none⟩) (len+n) cap') /\
   HRel N ι' ((h.upd g .dead).push (.cells ((cs.drop off).take (len*s)++new) false)) w'/\Step N ι h w ι' ((h.upd g .dead).push (.cells ((cs.drop off).take (len*s)++new) false)) w':=by
 obtain⟨C,ty,fr,k1,k2,k3,k4,k5⟩:=H.obj g l _ e hg;have hfr:=k2 rfl;subst hfr;have hl:=hr.1
 have one:∀v∈new',v.oneCell'=true:=by
  intro v hv;obtain⟨j,hj⟩:=M1 hv
  have hlt:j<new.length:=by have:=(LX.1 hj).1;omega
  obtain⟨u,hu,r⟩:=hr.get (LU hlt);rw[hj] at hu;cases hu;rw[r.DG];exact h1 _ (Nw hlt)
 have hmul:(len+n)*s<=cap'*s:=MY _ hcap;rw[Nk] at hmul;have run:=run_storeCells_at P l.blk (o+len*s) ty new' 0 C w k1 (by omega) one;rw[cP];have m:h.mut g:=⟨_,hg,rfl⟩;have tk:=HRel.HP H e m (o:=.cells ((cs.drop off).take (len*s)++new) false) (l:=⟨l.blk,o,l.tot⟩) rfl
  (w':=w.setRow l.blk (C.toList.take (o+len*s+0)++new'++C.toList.drop (o+len*s+0+new'.length)).toArray) (by simp) (λb hb=>setRow_other w l.blk b _ hb) ?_ ⟨rfl,rfl,rfl,λ_=>LV _⟩
 .refine⟨_,_,run,?_,tk.1,tk.2⟩;exact .sliceOpen h.size 0 s _ _ _ _ ⟨l.blk,o,l.tot⟩ (by simp[Inj.add]) (LV _) hcap (λ_=>rfl) htot
 .simp only;rw[setRow_heap w l.blk C _ ty (0,0) k1];refine⟨_,ty,(0,0),rfl,λ_=>rfl,?_,?_,?_⟩
  .simp;omega
  .simp;omega
  .intro j v hj;simp only[OP,MR];by_cases c1:j<len*s
   .have hlen0:len≠0:=by intro q;subst q;simp at c1
    have ho':=ho hlen0;subst ho';rw[Mb (by simp;omega),MX,if_pos c1,Nq] at hj;obtain⟨v',h6,h7⟩:=k5 _ v hj;refine⟨v',?_,h7.mono (Inj.ml H.ft)⟩;rw[MC,Mb (by simp;omega),MX,if_pos (by omega)];simp only[Nt];rw[<- h6];congr 1;omega
   .have hj2:j<len*s+new.length:=by
     have:=(LX.1 hj).1;simp at this;omega
    rw[Mg (by simp;omega)] at hj;obtain⟨v',h6,h7⟩:=hr.get hj;refine⟨v',?_,h7.mono (Inj.ml H.ft)⟩;rw[MC,Mg (by simp;omega),Mb (by simp;omega)];rw[<- h6];congr 1;simp;omega
theorem rO{args:Array Operand}{ρ ρ':Operand->Value}(hρ:∀x∈args,VRel ι (ρ x) (ρ' x)){a b:Value}(h:args.toList.map ρ=[a,b]):∃a' b',args.map ρ' = #[a',b']/\VRel ι a a'/\VRel ι b b':=by
 match hargs:args.toList,h with
 |[x,y],h =>
  simp only[MM,ND,R9,and_true] at h;obtain⟨rfl,rfl⟩:=h;refine⟨ρ' x,ρ' y,?_,hρ x (by rw[<- Nl,hargs];simp),hρ y (by rw[<- Nl,hargs];simp)⟩;apply On;simp[hargs]
theorem F4{args:Array Operand}{ρ ρ':Operand->Value}(hρ:∀x∈args,VRel ι (ρ x) (ρ' x)){a:Value}(h:args.toList.map ρ=[a]):∃a',args.map ρ' = #[a']/\VRel ι a a':=by
 match hargs:args.toList,h with
 |[x],h =>
  simp only[MM,ND,R9,and_true] at h;subst h;refine⟨ρ' x,?_,hρ x (by rw[<- Nl,hargs];simp)⟩;apply On;simp[hargs]
theorem le_max{n b:Nat}(hb:0<b)(h:n*b<=2^47):(n:Int)<=Pd.max:=by
 have:n<=n*b:=Nat.le_mul_of_pos_right _ hb;have e:Pd.max=9223372036854775807:=rfl;rw[e];omega
end
end Go.Abs
