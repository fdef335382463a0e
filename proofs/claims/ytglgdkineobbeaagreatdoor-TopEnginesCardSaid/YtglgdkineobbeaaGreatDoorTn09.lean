/- Parts of the proof. -/
import Derived.Test.YtglgdkineobbeaaGreatDoorTn08
open Go.Instr renaming buildSlice->Qc,fill->Oc
open Go.Op renaming operands->Mi
open Go.Result renaming andThen_ok->Mo
open Nat renaming beq->NZ,ble->NK
namespace Go.Abs
def parts:Nat->List Value->List (Nat×Value)
 |_,[]=>[]
 |i,v::r=>(i,v)::parts (i+1) r
theorem qJ(s:Nat):∀(vs:List Value) (i:Nat) (cs:Array Value) (a:List Value),(∀v∈vs,(cl v).length=s)->a.length=i*s->∀r:List Value,r.length=vs.length*s->cs=(a++r).toArray ->
  Oc (λi=>some (i*s,s)) cs (parts i vs)=some (a++ah vs).toArray
 |[],i,cs,a,_,_,r,hr,hcs=>by
  have:r=[]:=O7.1 (by simpa using hr);subst this hcs;simp[parts,Oc,ah]
 |v::vs,i,cs,a,hv,ha,r,hr,hcs=>by
  have hvs:v.cells.size=s:=by have:=hv v (by simp);simpa[cl] using this
  have hr':r.length=vs.length*s+s:=by rw[hr,M8,Nk,Oh]
  have hsz:cs.size=i*s+(vs.length*s+s):=by rw[hcs];simp[ha,hr']
  have key:(v.cells.zipIdx.foldl (λcs (x:Value×Nat)=>cs.setIfInBounds (i*s+x.2) x.1) cs)=(a++(cl v++r.drop s)).toArray:=by
   rw[hcs];have:∀(l:List Value) (n:Nat) (p q:List Value),l.length<=q.length->p.length=i*s+n ->
     ((l.zipIdx n).foldl (λ(cs:Array Value) (x:Value×Nat)=>cs.setIfInBounds (i*s+x.2) x.1) (p++q).toArray)=(p++(l++q.drop l.length)).toArray:=by
    intro l
    induction l with
    |nil=>intro n p q _ _;simp
    |cons x l ih =>
     intro n p q hle hp
     obtain⟨y,q',rfl⟩:∃y q',q=y::q':=by
       cases q with
       |nil=>simp at hle
       |cons y q'=>exact⟨y,q',rfl⟩
     simp only[Pw,N3]
     have e:(p++y::q').toArray.setIfInBounds (i*s+n) x=((p++[x])++q').toArray:=by
       rw[<- hp];simp
     rw[e,ih (n+1) (p++[x]) q' (by simpa using hle) (by simp[hp];omega)];simp
   have h2:=this v.cells.toList 0 a r (by rw[NF,hvs,hr'];omega) (by omega);rw[<- PJ,PB];rw[h2];simp[cl,hvs]
  unfold parts Oc;simp only
  have c':(decide (v.cells.size≠s)||decide (i*s+v.cells.size>cs.size))=false:=by
   simp[hvs,hsz]
  rw[c'];simp only[Nr,if_false];rw[key];have:=qJ s vs (i+1) ((a++cl v)++r.drop s).toArray (a++cl v) (λu m=>hv u (by simp[m])) (by simp[cl,hvs,ha,Nk]) (r.drop s) (by rw[No,hr'];omega) rfl;simp only[MC] at this ⊢;rw[this];simp[ah]
def pg(ρ:Operand->Value):Nat->List (Nat×Operand)->Option (List Value)
 |_,[]=>some []
 |i,(j,x)::r=>match NZ i j with
  |true=>match pg ρ (i+1) r with
   |some l=>some (ρ x::l)
   |none=>none
  |false=>none
def DA(s:Nat):List Value->Bool
 |[]=>true
 |v::r=>match NZ (cl v).length s with
  |true=>DA s r
  |false=>false
theorem oJ{ρ:Operand->Value}:∀{l:List (Nat×Operand)}{i:Nat}{es:List Value},pg ρ i l=some es->l.map (λp=>(p.1,ρ p.2))=parts i es
 |[],i,es,h=>by simp only[pg,LR] at h;subst h;rfl
 |(j,x)::r,i,es,h=>by
  unfold pg at h;split at h
  .rename_i hb;split at h
   .rename_i l hl;simp only[LR] at h;subst h;rw[MM,oJ hl,M6 hb];rfl
   .cases h
  .cases h
theorem yL{s:Nat}:∀{l:List Value},DA s l=true->∀v∈l,(cl v).length=s
 |[],_,v,m=>by cases m
 |u::r,h,v,m=>by
  unfold DA at h;split at h
  .rename_i hb
   rcases MF.1 m with rfl|m
   .exact M6 hb
   .exact yL h v m
  .cases h
def tX(P:Program)(ρ:Operand->Value)(o:Oper):Option Value :=
 match o.op with
 |.box _ x=>some (FP (ρ x))
 |.buildSlice t len ps =>
  match P.underlying t with
  |some (.slice e) =>
   match bb P e,zeroOf P e with
   |some s,some z =>
    match len with
    |0=>match ps.toList with
     |[]=>some FE
     |_::_=>none
    |len'+1 =>
     match pg ρ 0 ps.toList with
     |some es =>
      match NZ es.length (len'+1),DA s es,NK 1 s,NK ((len'+1)*s) (2^24),z.cells.toList.all aR with
      |true,true,true,true,true=>some (FL s es)
      |_,_,_,_,_=>none
     |none=>none
   |_,_=>none
  |_=>none
 |_=>none
theorem VRel.Ls{ι:Inj}{v v':Value}{b:Nat}(r:VRel ι v v')(hf:ι.fz b=some v'.cells):VRel ι (FP v) (.pointer (some ⟨b,0,none⟩)):=by
 have hc:=r.cells;refine .fp v b 0 _ hf (by have:=hc.1;simp only[cl,NF];omega) λi _=>?_;have:=hc.2 i;rw[<- fE] at this;simpa[cl] using this
theorem VRel.Lc{ι:Inj}{s b:Nat}{es:List Value}{C:Array Value}(hne:es≠[])(hs:∀e∈es,(cl e).length=s)(r:bB ι (ah es).toArray C)(hf:ι.fz b=some C):VRel ι (FL s es) (.slice (some ⟨b,0,none⟩) es.length es.length):=by
 have hl:=r.1;simp only[PW,bD hs] at hl;refine .fl s es b 0 _ C hf hne (LV _) hs (by omega) λi _=>?_;have:=r.2 i;rw[<- fE] at this;simpa using this
theorem HRel.ti{N:Nat}{ι:Inj}{h:Heap}{w:World}(H:HRel N ι h w){C:Array Value}{ty:TypeId} :
  HRel N (ι.frozen w.heap.size C) h (w.alloc (.cells C ty))/\Step N ι h w (ι.frozen w.heap.size C) h (w.alloc (.cells C ty)):=by
 have old:∀b,b<w.heap.size->(w.alloc (.cells C ty)).heap[b]?=w.heap[b]?:=λb hb=>by
  show (w.heap.push _)[b]?=w.heap[b]?
  rw[ME]
  have:¬ b=w.heap.size:=by omega
  simp[this]
 have new:(w.alloc (.cells C ty)).heap[w.heap.size]?=some (.cells C ty):=by
  show (w.heap.push _)[w.heap.size]?=_
  rw[ME];simp
 have size:(w.alloc (.cells C ty)).heap.size=w.heap.size+1:=ON ..
 have fblk:∀b C,ι.fz b=some C->b<w.heap.size:=λb C e=>by
  obtain⟨ty,fr,e⟩:=H.frz b C e;exact (L3.1 e).1
 have fget:∀b,(ι.frozen w.heap.size C).fz b=if b=w.heap.size then some C else ι.fz b:=λb=>rfl
 have le:Inj.Le ι (ι.frozen w.heap.size C):=⟨λ_ _ e=>e,λb C' e=>by
  rw[fget,if_neg (by have:=fblk b C' e;omega)];exact e⟩
 refine⟨⟨H.dom,λg l e=>by rw[size];have:=H.blk g l e;omega,H.glob,λg l o e1 e2=>?_,H.apart,λb C' e=>?_,λb C' g l e1 e2 m=>?_,λg l cs e1 e2=>?_⟩,?_⟩
 .rw[old _ (H.blk g l e1)];exact (H.obj g l o e1 e2).mono le
 .rw[fget] at e;by_cases q:b=w.heap.size
  .rw[if_pos q] at e;cases e;rw[q,new];exact⟨_,_,rfl⟩
  .rw[if_neg q] at e;rw[old b (fblk b C' e)];exact H.frz b C' e
 .rw[fget] at e1;by_cases q:b=w.heap.size
  .have:=H.blk g l e2;omega
  .rw[if_neg q] at e1;exact H.fzap b C' g l e1 e2 m
 .obtain⟨C',e⟩:=H.rofz g l cs e1 e2;exact⟨C',le.fz _ _ e⟩
 .refine⟨H.dom,LV _,le,λg l e e'=>?_,λg l e e'=>?_,λ_ _ m=>m,λ_ _ m=>m,by rw[size];omega,λb hb _=>old b hb,λ_ _ _=>rfl,⟨rfl,rfl,rfl,λ_=>LV _⟩,λb C' e e'=>?_⟩
  .have e2:ι g=some l:=e;rw[e'] at e2;cases e2
  .have e2:ι g=some l:=e;rw[e'] at e2;cases e2
  .rw[fget] at e;by_cases q:b=w.heap.size
   .exact .inl (by omega)
   .rw[if_neg q,e'] at e;cases e
theorem AO{N:Nat}{P:Program}{ι:Inj}{h:Heap}{w:World}(H:HRel N ι h w){ρ ρ':Operand->Value}{o:Oper}{v:Value}(hρ:∀x∈o.op.operands,VRel ι (ρ x) (ρ' x))(e:tX P ρ o=some v) :
  ∃v' w' ι',(execOp ρ' o).run P w=.ok (.value v') w'/\VRel ι' v v'/\HRel N ι' h w'/\Step N ι h w ι' h w':=by
 obtain⟨dst,op,type,pos,after,guard⟩:=o
 cases op <;> try (simp[tX] at e;done)
 case box t x =>
  have hx:=hρ x (by simp[Mi])
  simp only[tX,LR] at e
  subst e
  have F:=H.ti (C:=(ρ' x).cells) (ty:=t)
  refine⟨.pointer (some ⟨w.heap.size,0,none⟩),_,_,?_,VRel.Ls (hx.mono F.2.ext) ?_,F.1,F.2⟩
  .simp[execOp,Instr.box,newVar,newRow]
  .show (if w.heap.size=w.heap.size then _ else _)=_
   rw[if_pos rfl]
 case buildSlice t len ps =>
  simp only[tX] at e
  cases hu:P.underlying t with
  |none=>simp[hu] at e
  |some d =>
   cases d <;> try (simp[hu] at e;done)
   rename_i el
   cases hs:bb P el with
   |none=>simp[hu,hs] at e
   |some s =>
    cases hz:zeroOf P el with
    |none=>simp[hu,hs,hz] at e
    |some z =>
     simp only[hu,hs,hz] at e
     cases len with
     |zero =>
      simp only at e;split at e
      .rename_i hl;simp only[LR] at e;subst e;have hps:ps = #[]:=On (by simpa using hl);subst hps;have F:=H.ti (C := #[]) (ty:=el);refine⟨.slice (some ⟨w.heap.size,0,none⟩) 0 0,_,_,?_,.fe _,F.1,F.2⟩;simp[execOp,Qc,ax hu,bg hs,Oc,newRow];rw[nm]
      .cases e
     |succ len =>
      simp only at e;split at e
      .rename_i es he;split at e
       .rename_i b1 b2 b3 b4 b5;simp only[LR] at e;subst e;have hlen:es.length=len+1:=M6 b1;have hsz:=yL b2;have hs1:1<=s:=Mq b3;have hmx:(len+1)*s<=2^24:=Mq b4
        have hpl:z.cells.all aR=true:=by
         rw[<- Px];exact b5
        have hp:=oJ he;have hfill:=qJ s es 0 (jW z.cells ((len+1)*s)) [] hsz (by simp) (jW z.cells ((len+1)*s)).toList (by rw[NF,sP,hlen]) (by simp);rw[<- hp,OO] at hfill;have hps:∀p∈ps.toList,VRel ι (ρ p.2) (ρ' p.2):=λp hp=>hρ p.2 (by simp only[Mi,Q4,MP];exact⟨p,hp,rfl⟩);obtain⟨cells',q1,q2⟩:=pb ps.toList hps _ _ _ (bB.aU (nq hpl ((len+1)*s))) hfill;have F:=H.ti (C:=cells') (ty:=el)
        have hne:es≠[]:=by intro e;rw[e] at hlen;simp at hlen
        have hr:=VRel.Lc hne hsz (q2.mono F.2.ext) (b:=w.heap.size) (by show (if w.heap.size=w.heap.size then _ else _)=_;rw[if_pos rfl]);rw[hlen] at hr;refine⟨.slice (some ⟨w.heap.size,0,none⟩) (len+1) (len+1),_,_,?_,hr,F.1,F.2⟩;have hpos:0<(len+1)*s:=Nat.mul_pos (Qw _) hs1
        have h1:¬ (len+1)*s>2^24:=by omega
        have h2:¬ (len+1)*s=0:=by omega
        have h3:(ps.map λ(x:Nat×Operand)=>(x.1,ρ' x.2)).toList=ps.toList.map λp=>(p.1,ρ' p.2):=by simp
        have q1':Oc (λi=>some (i*s,s)) ((Array.range ((len+1)*s)).map (λi=>z.cells[i%z.cells.size]!)) (ps.map λ(x:Nat×Operand)=>(x.1,ρ' x.2)).toList=some cells':=by rw[h3];exact q1
        simp only[execOp,Qc,Sem.run_bind,ax hu,Mo,bg hs,h1,h2,if_false,fi hz];simp only[Sem.run_pure,Mo,q1'];simp[newRow]
       .cases e
      .cases e
end Go.Abs
