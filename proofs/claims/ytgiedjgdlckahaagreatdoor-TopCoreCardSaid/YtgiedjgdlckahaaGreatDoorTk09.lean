/-
  AbsGf: parts of the proof.
-/
import Derived.Test.YtgiedjgdlckahaaGreatDoorTk08
namespace Go.Abs
def parts:Nat->List Value->List (Nat×Value)
 |_,[]=>[]
 |i,v::r=>(i,v)::parts (i+1) r
theorem pk (s:Nat):∀ (vs:List Value) (i:Nat) (cs:Array Value) (a:List Value),(∀ v∈vs,(cl v).length=s)->a.length=i*s->∀ r:List Value,r.length=vs.length*s->cs=(a++r).toArray ->
  Instr.fill (fun i=>some (i*s,s)) cs (parts i vs)=some (a++flatC vs).toArray
 |[],i,cs,a,_,_,r,hr,hcs=>by
  have:r=[]:=List.length_eq_zero_iff.1 (by simpa using hr);subst this hcs;simp[parts,Instr.fill,flatC]
 |v::vs,i,cs,a,hv,ha,r,hr,hcs=>by
  have hvs:v.cells.size=s:=by have:=hv v (by simp);simpa[cl] using this
  have hr':r.length=vs.length*s+s:=by rw[hr,List.length_cons,Nat.add_mul,Nat.one_mul]
  have hsz:cs.size=i*s+(vs.length*s+s):=by rw[hcs];simp[ha,hr']
  have key:(v.cells.zipIdx.foldl (fun cs (x:Value×Nat)=>cs.setIfInBounds (i*s+x.2) x.1) cs)=(a++(cl v++r.drop s)).toArray:=by
   rw[hcs];have:∀ (l:List Value) (n:Nat) (p q:List Value),l.length<=q.length->p.length=i*s+n ->
     ((l.zipIdx n).foldl (fun (cs:Array Value) (x:Value×Nat)=>cs.setIfInBounds (i*s+x.2) x.1) (p++q).toArray)=(p++(l++q.drop l.length)).toArray:=by
    intro l
    induction l with
    |nil=>intro n p q _ _;simp
    |cons x l ih =>
     intro n p q hle hp
     obtain⟨y,q',rfl⟩:∃ y q',q=y::q':=by
       cases q with
       |nil=>simp at hle
       |cons y q'=>exact⟨y,q',rfl⟩
     simp only[List.zipIdx_cons,List.foldl_cons]
     have e:(p++y::q').toArray.setIfInBounds (i*s+n) x=((p++[x])++q').toArray:=by
       rw[<- hp];simp
     rw[e,ih (n+1) (p++[x]) q' (by simpa using hle) (by simp[hp];omega)];simp
   have h2:=this v.cells.toList 0 a r (by rw[Array.length_toList,hvs,hr'];omega) (by omega);rw[<- Array.foldl_toList,Array.toList_zipIdx];rw[h2];simp[cl,hvs]
  unfold parts Instr.fill;simp only
  have c':(decide (v.cells.size≠s)||decide (i*s+v.cells.size>cs.size))=false:=by
   simp[hvs,hsz]
  rw[c'];simp only[Bool.false_eq_true,if_false];rw[key];have:=pk s vs (i+1) ((a++cl v)++r.drop s).toArray (a++cl v) (fun u m=>hv u (by simp[m])) (by simp[cl,hvs,ha,Nat.add_mul]) (r.drop s) (by rw[List.length_drop,hr'];omega) rfl;simp only[List.append_assoc] at this ⊢;rw[this];simp[flatC]
def nj (ρ:Operand->Value):Nat->List (Nat×Operand)->Option (List Value)
 |_,[]=>some []
 |i,(j,x)::r=>match Nat.beq i j with
  |true=>match nj ρ (i+1) r with
   |some l=>some (ρ x::l)
   |none=>none
  |false=>none
def Cv (s:Nat):List Value->Bool
 |[]=>true
 |v::r=>match Nat.beq (cl v).length s with
  |true=>Cv s r
  |false=>false
theorem mZ {ρ:Operand->Value}:∀ {l:List (Nat×Operand)}{i:Nat}{es:List Value},nj ρ i l=some es->l.map (fun p=>(p.1,ρ p.2))=parts i es
 |[],i,es,h=>by simp only[nj,Option.some.injEq] at h;subst h;rfl
 |(j,x)::r,i,es,h=>by
  unfold nj at h;split at h
  ·rename_i hb;split at h
   ·rename_i l hl;simp only[Option.some.injEq] at h;subst h;rw[List.map_cons,mZ hl,Nat.eq_of_beq_eq_true hb];rfl
   ·cases h
  ·cases h
theorem vN {s:Nat}:∀ {l:List Value},Cv s l=true->∀ v∈l,(cl v).length=s
 |[],_,v,m=>by cases m
 |u::r,h,v,m=>by
  unfold Cv at h;split at h
  ·rename_i hb
   rcases List.mem_cons.1 m with rfl|m
   ·exact Nat.eq_of_beq_eq_true hb
   ·exact vN h v m
  ·cases h
def anewF (P:Program) (ρ:Operand->Value) (o:Oper):Option Value :=
 match o.op with
 |.box _ x=>some (FP (ρ x))
 |.buildSlice t len ps =>
  match P.underlying t with
  |some (.slice e) =>
   match aQ P e,zeroOf P e with
   |some s,some z =>
    match len with
    |0=>match ps.toList with
     |[]=>some FE
     |_::_=>none
    |len'+1 =>
     match nj ρ 0 ps.toList with
     |some es =>
      match Nat.beq es.length (len'+1),Cv s es,Nat.ble 1 s,Nat.ble ((len'+1)*s) (2 ^ 24),z.cells.toList.all aJ with
      |true,true,true,true,true=>some (FL s es)
      |_,_,_,_,_=>none
     |none=>none
   |_,_=>none
  |_=>none
 |_=>none
theorem VRel.J4 {ι:Inj}{v v':Value}{b:Nat} (r:VRel ι v v') (hf:ι.fz b=some v'.cells):VRel ι (FP v) (.pointer (some ⟨b,0,none⟩)):=by
 have hc:=r.cells;refine .fp v b 0 _ hf (by have:=hc.1;simp only[cl,Array.length_toList];omega) fun i _=>?_;have:=hc.2 i;rw[<- dW] at this;simpa[cl] using this
theorem VRel.Jz {ι:Inj}{s b:Nat}{es:List Value}{C:Array Value} (hne:es≠[]) (hs:∀ e∈es,(cl e).length=s) (r:bm ι (flatC es).toArray C) (hf:ι.fz b=some C):VRel ι (FL s es) (.slice (some ⟨b,0,none⟩) es.length es.length):=by
 have hl:=r.1;simp only[List.size_toArray,ba hs] at hl;refine .fl s es b 0 _ C hf hne (Nat.le_refl _) hs (by omega) fun i _=>?_;have:=r.2 i;rw[<- dW] at this;simpa using this
theorem HRel.qU {N:Nat}{ι:Inj}{h:Heap}{w:World} (H:HRel N ι h w) {C:Array Value}{ty:TypeId} :
  HRel N (ι.frozen w.heap.size C) h (w.alloc (.cells C ty))/\Step ι h w (ι.frozen w.heap.size C) h (w.alloc (.cells C ty)):=by
 have old:∀ b,b<w.heap.size->(w.alloc (.cells C ty)).heap[b]?=w.heap[b]?:=fun b hb=>by
  show (w.heap.push _)[b]?=w.heap[b]?
  rw[Array.getElem?_push]
  have:¬ b=w.heap.size:=by omega
  simp[this]
 have new:(w.alloc (.cells C ty)).heap[w.heap.size]?=some (.cells C ty):=by
  show (w.heap.push _)[w.heap.size]?=_
  rw[Array.getElem?_push];simp
 have size:(w.alloc (.cells C ty)).heap.size=w.heap.size+1:=Array.size_push ..
 have fblk:∀ b C,ι.fz b=some C->b<w.heap.size:=fun b C e=>by
  obtain⟨ty,fr,e⟩:=H.frz b C e;exact (Array.getElem?_eq_some_iff.1 e).1
 have fget:∀ b,(ι.frozen w.heap.size C).fz b=if b=w.heap.size then some C else ι.fz b:=fun b=>rfl
 have le:Inj.Le ι (ι.frozen w.heap.size C):=⟨fun _ _ e=>e,fun b C' e=>by
  rw[fget,if_neg (by have:=fblk b C' e;omega)];exact e⟩
 refine⟨⟨H.dom,fun g l e=>by rw[size];have:=H.blk g l e;omega,H.glob,fun g l o e1 e2=>?_,H.apart,fun b C' e=>?_,fun b C' g l e1 e2 m=>?_,fun g l cs e1 e2=>?_⟩,?_⟩
 ·rw[old _ (H.blk g l e1)];exact (H.obj g l o e1 e2).mono le
 ·rw[fget] at e;by_cases q:b=w.heap.size
  ·rw[if_pos q] at e;cases e;rw[q,new];exact⟨_,_,rfl⟩
  ·rw[if_neg q] at e;rw[old b (fblk b C' e)];exact H.frz b C' e
 ·rw[fget] at e1;by_cases q:b=w.heap.size
  ·have:=H.blk g l e2;omega
  ·rw[if_neg q] at e1;exact H.fzap b C' g l e1 e2 m
 ·obtain⟨C',e⟩:=H.rofz g l cs e1 e2;exact⟨C',le.fz _ _ e⟩
 ·refine⟨H.dom,Nat.le_refl _,le,fun g l e e'=>?_,fun g l e e'=>?_,fun _ _ m=>m,fun _ _ m=>m,by rw[size];omega,fun b hb _=>old b hb,fun _ _ _=>rfl,⟨rfl,rfl,rfl,Nat.le_refl _⟩,fun b C' e e'=>?_⟩
  ·have e2:ι g=some l:=e;rw[e'] at e2;cases e2
  ·have e2:ι g=some l:=e;rw[e'] at e2;cases e2
  ·rw[fget] at e;by_cases q:b=w.heap.size
   ·exact .inl (by omega)
   ·rw[if_neg q,e'] at e;cases e
theorem zi {N:Nat}{P:Program}{ι:Inj}{h:Heap}{w:World} (H:HRel N ι h w) {ρ ρ':Operand->Value}{o:Oper}{v:Value} (hρ:∀ x∈o.op.operands,VRel ι (ρ x) (ρ' x)) (e:anewF P ρ o=some v) :
  ∃ v' w' ι',(execOp ρ' o).run P w=.ok (.value v') w'/\VRel ι' v v'/\HRel N ι' h w'/\Step ι h w ι' h w':=by
 obtain⟨dst,op,type,pos,after,guard⟩:=o
 cases op <;> try (simp[anewF] at e;done)
 case box t x =>
  have hx:=hρ x (by simp[Op.operands])
  simp only[anewF,Option.some.injEq] at e
  subst e
  have F:=H.qU (C:=(ρ' x).cells) (ty:=t)
  refine⟨.pointer (some ⟨w.heap.size,0,none⟩),_,_,?_,VRel.J4 (hx.mono F.2.ext) ?_,F.1,F.2⟩
  ·simp[execOp,Instr.box,newVar,newRow]
  ·show (if w.heap.size=w.heap.size then _ else _)=_
   rw[if_pos rfl]
 case buildSlice t len ps =>
  simp only[anewF] at e
  cases hu:P.underlying t with
  |none=>simp[hu] at e
  |some d =>
   cases d <;> try (simp[hu] at e;done)
   rename_i el
   cases hs:aQ P el with
   |none=>simp[hu,hs] at e
   |some s =>
    cases hz:zeroOf P el with
    |none=>simp[hu,hs,hz] at e
    |some z =>
     simp only[hu,hs,hz] at e
     cases len with
     |zero =>
      simp only at e;split at e
      ·rename_i hl;simp only[Option.some.injEq] at e;subst e;have hps:ps = #[]:=Array.ext' (by simpa using hl);subst hps;have F:=H.qU (C := #[]) (ty:=el);refine⟨.slice (some ⟨w.heap.size,0,none⟩) 0 0,_,_,?_,.fe _,F.1,F.2⟩;simp[execOp,Instr.buildSlice,ak hu,aR hs,Instr.fill,newRow];rw[ly]
      ·cases e
     |succ len =>
      simp only at e;split at e
      ·rename_i es he;split at e
       ·rename_i b1 b2 b3 b4 b5;simp only[Option.some.injEq] at e;subst e;have hlen:es.length=len+1:=Nat.eq_of_beq_eq_true b1;have hsz:=vN b2;have hs1:1<=s:=Nat.le_of_ble_eq_true b3;have hmx:(len+1)*s<=2 ^ 24:=Nat.le_of_ble_eq_true b4
        have hpl:z.cells.all aJ=true:=by
         rw[<- Array.all_toList];exact b5
        have hp:=mZ he;have hfill:=pk s es 0 (iw z.cells ((len+1)*s)) [] hsz (by simp) (iw z.cells ((len+1)*s)).toList (by rw[Array.length_toList,qL,hlen]) (by simp);rw[<- hp,List.nil_append] at hfill;have hps:∀ p∈ps.toList,VRel ι (ρ p.2) (ρ' p.2):=fun p hp=>hρ p.2 (by simp only[Op.operands,List.mem_toArray,List.mem_map];exact⟨p,hp,rfl⟩);obtain⟨cells',q1,q2⟩:=nc ps.toList hps _ _ _ (bm.aN (lS hpl ((len+1)*s))) hfill;have F:=H.qU (C:=cells') (ty:=el)
        have hne:es≠[]:=by intro e;rw[e] at hlen;simp at hlen
        have hr:=VRel.Jz hne hsz (q2.mono F.2.ext) (b:=w.heap.size) (by show (if w.heap.size=w.heap.size then _ else _)=_;rw[if_pos rfl]);rw[hlen] at hr;refine⟨.slice (some ⟨w.heap.size,0,none⟩) (len+1) (len+1),_,_,?_,hr,F.1,F.2⟩;have hpos:0<(len+1)*s:=Nat.mul_pos (Nat.succ_pos _) hs1
        have h1:¬ (len+1)*s>2 ^ 24:=by omega
        have h2:¬ (len+1)*s=0:=by omega
        have h3:(ps.map fun (x:Nat×Operand)=>(x.1,ρ' x.2)).toList=ps.toList.map fun p=>(p.1,ρ' p.2):=by simp
        have q1':Instr.fill (fun i=>some (i*s,s)) ((Array.range ((len+1)*s)).map (fun i=>z.cells[i%z.cells.size]!)) (ps.map fun (x:Nat×Operand)=>(x.1,ρ' x.2)).toList=some cells':=by rw[h3];exact q1
        simp only[execOp,Instr.buildSlice,Sem.run_bind,ak hu,Result.andThen_ok,aR hs,h1,h2,if_false,eH hz];simp only[Sem.run_pure,Result.andThen_ok,q1'];simp[newRow]
       ·cases e
      ·cases e
end Go.Abs
