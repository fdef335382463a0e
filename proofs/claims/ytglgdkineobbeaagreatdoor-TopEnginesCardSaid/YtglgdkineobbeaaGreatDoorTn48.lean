/- Parts of the proof. -/
import Derived.Test.YtglgdkineobbeaaGreatDoorTn47
open False renaming elim->Nn
open Go.Value renaming bool->L0,string->L5,tuple->MD
open Int renaming negSucc->Mj,ofNat->LQ
open List renaming map->Sn,range->Ma,replicate->LY
open List.Pairwise renaming imp_of_mem->Su
namespace Go.Proofs.YtglgdkineobbeaaGreatDoor
open Go.Abs
set_option maxRecDepth 100000
def mv(c:Circ)(i x:Nat):List Ln:=(c.nodes.zipIdx.take i).flatMap λp=>bR x p.2 p.1.ins
theorem zi(x i:Nat)(l:List Nat)(a:Nat):bR x i (l++[a])=bR x i l++(if a=x then [⟨i,l.length⟩] else []):=by
 unfold bR;rw[List.zipIdx_append,Ns,MT];congr 1;by_cases c:a=x
 .simp[c]
 .simp[c]
theorem uc{c:Circ}{i x:Nat}{y:Node}(hy:c.nodes[i]?=some y):mv c (i+1) x=mv c i x++bR x i y.ins:=by
 have h:c.nodes.zipIdx[i]?=some (y,i):=by rw[List.getElem?_zipIdx,hy];simp
 unfold mv;obtain⟨h1,h2⟩:=LX.1 h;rw[MK h1,h2,RF];simp
theorem uv(x i:Nat)(l:List Nat):(bR x i l).length<=l.length:=by
 unfold bR;rw[LZ];refine Mf (Nf _ _) ?_;simp
structure FanPre (c:Circ):Prop where
 len:c.nodes.length<=16
 ins:∀(i:Nat) (x:Node),c.nodes[i]?=some x->(∀k∈x.ins,k<c.nodes.length)/\x.ins.length<=16
theorem vO{c:Circ}(g:FanPre c)(x:Nat):∀i,i<=c.nodes.length->(mv c i x).length<=i*16
 |0,_=>by simp[mv]
 |i+1,h=>by
  obtain⟨y,hy⟩:=aA (l:=c.nodes) (i:=i) h;rw[uc hy,Ml];have:=vO g x i (by omega);have:=uv x i y.ins;have:=(g.ins i y hy).2;omega
def ic(c:Circ)(i t:Nat)(ins:List Nat):List (List Ln):=(Ma c.nodes.length).map λx=>mv c i x++bR x i (ins.take t)
theorem qW{c:Circ}{i t x:Nat}{ins:List Nat}(hx:x<c.nodes.length):(ic c i t ins)[x]?=some (mv c i x++bR x i (ins.take t)):=by
 unfold ic;rw[L7,M7 hx];rfl
theorem AS{c:Circ}{i t y:Nat}{ins:List Nat}(hy:ins[t]?=some y):(ic c i t ins).set y (mv c i y++bR y i (ins.take t)++[⟨i,t⟩])=ic c i (t+1) ins:=by
 have ht:=ai hy;obtain⟨h1,h2⟩:=LX.1 hy
 have hs:∀x,bR x i (ins.take (t+1))=bR x i (ins.take t)++(if y=x then [⟨i,t⟩] else []):=λx=>by
  rw[MK h1,h2,zi,L8,Nb (MG ht)]
 apply MH;intro x;rw[Mp]
 have hl:(ic c i t ins).length=c.nodes.length:=by unfold ic;simp
 by_cases c1:x<c.nodes.length
 .rw[qW c1,qW c1,hs x];by_cases e:y=x
  .subst e;rw[if_pos rfl,if_pos (by omega),if_pos rfl,MC]
  .rw[if_neg e,if_neg e,MZ]
 .have hn:∀k,(ic c i k ins)[x]?=none:=λk=>by
   refine Mk ?_;unfold ic;simp;omega
  rw[hn,hn];by_cases e:y=x
  .rw[if_pos e,if_neg (by omega)]
  .rw[if_neg e]
theorem xD{c:Circ}{K:List (List Ln)->Prop}(g:FanPre c)(h:K (pX c)):jX c K:=by
 have hlen:=g.len;unfold jX;refine⟨by omega,by omega,?_⟩;refine aB (λs=>s.2<=c.nodes.length/\s.1=ic c s.2 0 []) (λs=>c.nodes.length-s.2) (λa=>a=pX c) ?_ ?_ ?_
 .rintro k ⟨R,i⟩ nx ⟨hi,hR⟩ hnx hk;dsimp only at hi hR;subst hR;refine⟨λq=>?_,λq=>?_⟩
  .have q:=aX.1 q
   try dsimp only at q
   obtain⟨y,hy⟩:=aA q;obtain⟨g1,g2⟩:=g.ins i y hy;refine iV ⟨y,hy,?_⟩;refine bM (λs=>s.2<=y.ins.length/\s.1=ic c i s.2 y.ins) (λs=>y.ins.length-s.2) ?_ ⟨L1 _,by unfold ic;simp⟩;rintro⟨R1,t⟩ nx1 ⟨ht,hR⟩ hnx1;dsimp only at ht hR;subst hR;refine⟨λq1=>?_,λq1=>?_⟩
   .have q1:=aX.1 q1
    try dsimp only at q1
    obtain⟨z,hz⟩:=aA q1;have hzn:=g1 z (LS hz);have hb:=vO g z i hi;have hb2:=uv z i (y.ins.take t)
    have hb3:(y.ins.take t).length<=16:=by rw[L8];omega
    refine iV ⟨z,hz,λe=>absurd (aX.1 e) (Mu _),λ_=>⟨λ_=>?_,λe=>?_⟩⟩
    .refine⟨hzn,_,qW hzn,by simp only[Ml,L6];omega,hzn,by omega,?_⟩;rw[AS hz];exact hnx1 (ic c i (t+1) y.ins,t+1) ⟨q1,rfl⟩ (by dsimp only;omega)
    .have e2:ltN z c.nodes.length=true:=aX.2 hzn;rw[e2] at e
     cases e
   .have q1:=bC.1 q1
    try dsimp only at q1
    refine⟨by omega,hnx (ic c i t y.ins,i+1) ⟨q,?_⟩ (by dsimp only;omega)⟩;unfold ic;refine Og λx _=>?_;rw[Mc q1,uc hy];simp[bR]
  .have q:=bC.1 q
   try dsimp only at q
   have:i=c.nodes.length:=by omega
   subst this;refine hk _ ?_;unfold ic pX;refine Og λx _=>?_;unfold mv;rw[Mc (by simp)];simp[bR]
 .refine⟨L1 _,?_⟩;unfold ic;apply MH;intro x;rw[Mt,L7];by_cases q:x<c.nodes.length
  .rw[if_pos q,M7 q];simp[mv,bR]
  .rw[if_neg q,Mk (by simp;omega)];rfl
 .rintro a rfl
  have hl:(pX c).length=c.nodes.length:=by unfold pX;simp
  refine aB (λs=>s.2<=c.nodes.length/\s.1=pX c) (λs=>c.nodes.length-s.2) (λa=>a=pX c) ?_ ⟨L1 _,rfl⟩ ?_
  .rintro k ⟨R,i⟩ nx ⟨hi,hR⟩ hnx hk;dsimp only at hi hR;subst hR;refine⟨λq=>?_,λ_=>hk _ rfl⟩;have q:=aX.1 q
   try dsimp only at q
   obtain⟨y,hy⟩:=aA (l:=pX c) (i:=i) (by omega);refine⟨q,y,hy,q,by omega,hnx _ ⟨q,?_⟩ (by dsimp only;omega)⟩;obtain⟨h1,rfl⟩:=LX.1 hy;exact P9 h1
  .rintro a rfl;exact⟨hl.symm,h⟩
theorem HD{c:Circ}(g:FanPre c):xY c:=by
 refine FnV.uV (enc:=ae 1 (ae 2 cI)) (cg λr=>ag.cons (cg λl=>BG l) ag.nil) λh hB=>?_;exact uR (K:=λr=>r=pX c) (xD g rfl) hB
theorem Ci:([0,1,2,3,4,5,6,7,8,9,10,11,12,13,14,15].all λi=>isTrue (km Tryz.prog [] (pe Tryz.prog) 60 202 #[.string (nc i)] (cj vars)))=true:=by kernel_rfl
theorem LG{i:Nat}(hi:i<16):Iv (nc i):=by
 have hm:i∈[0,1,2,3,4,5,6,7,8,9,10,11,12,13,14,15]:=by
  have:i=0\/i=1\/i=2\/i=3\/i=4\/i=5\/i=6\/i=7\/i=8\/i=9\/i=10\/i=11\/i=12\/i=13\/i=14\/i=15:=by omega
  simpa using this
 obtain⟨h',e⟩:=xf (Md.1 Ci i hm);have c:=(kp hM hP (λf vs h v e=>jy f vs h v e) 60 _ _ _ _ _ e).1;exact⟨aq.wX rfl,λh b=>c.lift (by kernel_rfl) rfl (ri (DE b) (ve b))⟩
theorem E5:∀i,i<16->∀j,j<16->nc i=nc j->i=j:=by decide +kernel
theorem D9{l:List ByteArray}{x:ByteArray}(h:x ∉ l):bY (l.map λs=>(s,true)) x=none:=by
 induction l with
 |nil=>rfl
 |cons a l ih =>
  simp only[MF,not_or] at h;rw[MM,bY,if_neg h.1];exact ih h.2
theorem lIs{l:List ByteArray}{x:ByteArray}(h:x ∉ l):gQ (l.map λs=>(s,true)) x true=(l++[x]).map λs=>(s,true):=by
 induction l with
 |nil=>rfl
 |cons a l ih =>
  simp only[MF,not_or] at h;rw[MM,gQ,if_neg h.1,ih h.2];rfl
theorem rP{c:Circ}{K:Nat->Prop}(h1:∀s∈c.names,Iv s)(h2:c.names.Nodup)(h3:c.names.length<2^60)(h:K 0):kS c K:=by
 unfold kS;refine aB (λs=>s.2<=c.names.length/\s.1=(c.names.take s.2).map λs=>(s,true)) (λs=>c.names.length-s.2) (λ_=>True) ?_ ⟨L1 _,by simp⟩ (λ_ _=>h);rintro k ⟨m,i⟩ nx ⟨hi,hR⟩ hnx hk;dsimp only at hi hR;subst hR;refine⟨λq=>?_,λ_=>hk () trivial⟩;have q:=aX.1 q
 try dsimp only at q
 obtain⟨x,hx⟩:=aA q;obtain⟨l1,l2⟩:=LX.1 hx
 have hnot:x ∉ c.names.take i:=λmm=>by
  obtain⟨j,hj,e⟩:=NH mm;rw[L8] at hj;rw[List.getElem_take] at e;exact Nv.1 h2 j i (by omega) l1 (by omega) (e.trans l2.symm)
 refine⟨x,hx,iV ⟨h1 x (LS hx),(λe=>by cases e),λ_=>?_⟩⟩;rw[D9 hnot];refine⟨(λe=>by cases e),λ_=>⟨by omega,hnx _ ⟨q,?_⟩ (by dsimp only;omega)⟩⟩;dsimp only;rw[lIs hnot,MK l1,l2]
theorem GW{c:Circ}{n:Nat}(hn:n<=16)(hc:c.names=(Ma n).map nc):rY c:=by
 refine FnV.uV (enc:=i64) (aq.flat rfl) λh hB=>?_;refine oK (K:=λr=>r=0) (rP ?_ ?_ ?_ rfl) hB
 .intro s m;rw[hc] at m;obtain⟨i,hi,rfl⟩:=MP.1 m;exact LG (by have:=Mx.1 hi;omega)
 .rw[hc];unfold List.Nodup;rw[OU];refine Su ?_ (Oq (n:=n));intro a b ha hb hne e;exact hne (E5 a (by have:=Mx.1 ha;omega) b (by have:=Mx.1 hb;omega) e)
 .rw[hc];simp;omega
set_option maxHeartbeats 8000000
def kr(p0:CData)(K:Circ->Prop):Prop :=
 aw (α:=(List Node)) (λk11=>aF (S:=((List Node)×Nat)) (λ(v13,v14) nx16=>0<4/\(p0.inp%4)<256/\((!ltN (p0.inp%4) v14)=true->(v13.length+([(⟨0,([]:(List Nat)),0,0⟩:Node)]:(List Node)).length)*48<=2^47/\v14+1<2^63/\nx16 ((v13++([(⟨0,([]:(List Nat)),0,0⟩:Node)]:(List Node))),(v14+1)))/\((!ltN (p0.inp%4) v14)=false->k11 v13)) (([]:List Node),0)) (λv9=>0<3/\(p0.dffs%3)<256/\aw (α:=(List Node)) (λk22=>aF (S:=((List Node)×Nat)) (λ(v24,v25) nx27=>((ltN v25 (p0.dffs%3))=true->(v24.length+([(⟨14,([0]:(List Nat)),0,0⟩:Node)]:(List Node)).length)*48<=2^47/\v25+1<2^63/\nx27 ((v24++([(⟨14,([0]:(List Nat)),0,0⟩:Node)]:(List Node))),(v25+1)))/\((ltN v25 (p0.dffs%3))=false->k22 v24)) (v9,0)) (λv20=>aw (α:=Unit) (λk31=>(p0.mem=true->False)/\(p0.mem=false->k31 ())) (λ_=>aw (α:=(List Node)) (λk35=>aF (S:=((List Node)×Nat)) (λ(v37,v38) nx40=>aw (α:=Bool) (λk43=>((ltN v38 p0.gates.length)=true->k43 (ltN v38 8))/\((ltN v38 p0.gates.length)=false->k43 false)) (λv41=>(v41=true->∃x44,p0.gates[v38]?=some x44/\p0.bus=false/\GOk x44/\0<v37.length/\v37.length<=1000/\(v37.length+([(jh p0.bus x44 (v37.map Node.kind))]:(List Node)).length)*48<=2^47/\v38+1<2^63/\nx40 ((v37++([(jh p0.bus x44 (v37.map Node.kind))]:(List Node))),(v38+1)))/\(v41=false->k35 v37))) (v20,0)) (λv33=>aw (α:=(List Node)) (λk53=>aF (S:=((List Node)×Nat)) (λ(v55,v56) nx58=>((ltN v56 (p0.dffs%3))=true->v9.length+v56<2^63/\v56<2/\(v56=0->p0.data0<256/\0<v33.length/\∃x61,v55[(v9.length+v56)]?=some x61/\v56+1<2^63/\nx58 ((v55.set (v9.length+v56) { x61 with ins:=([(p0.data0%v33.length)]:(List Nat)) }),(v56+1)))/\(v56=1->p0.data1<256/\0<v33.length/\∃x65,v55[(v9.length+v56)]?=some x65/\v56+1<2^63/\nx58 ((v55.set (v9.length+v56) { x65 with ins:=([(p0.data1%v33.length)]:(List Nat)) }),(v56+1))))/\((ltN v56 (p0.dffs%3))=false->k53 v55)) (v33,0)) (λv51=>aw (α:=Unit) (λk68=>(p0.mem=true->False)/\(p0.mem=false->k68 ())) (λ_=>aw (α:=(List ByteArray)) (λk73=>aF (S:=((List ByteArray)×Nat)) (λ(v75,v76) nx79=>((ltN v76 v33.length)=true->my v76 (λr80=>(v75.length+([r80]:(List ByteArray)).length)*16<=2^47/\v76+1<2^63/\nx79 ((v75++([r80]:(List ByteArray))),(v76+1))))/\((ltN v76 v33.length)=false->k73 v75)) (([]:List ByteArray),0)) (λv70=>aw (α:=(List Nat)) (λk90=>aF (S:=((List Nat)×Nat)) (λ(v92,v93) nx97=>aw (α:=Bool) (λk102=>((ltN v93 p0.outs.length)=true->k102 (ltN v93 3))/\((ltN v93 p0.outs.length)=false->k102 false)) (λv98=>(v98=true->∃x103,p0.outs[v93]?=some x103/\x103<256/\0<v33.length/\(v92.length+([(x103%v33.length)]:(List Nat)).length)*8<=2^47/\v93+1<2^63/\nx97 ((v92++([(x103%v33.length)]:(List Nat))),(v93+1)))/\(v98=false->k90 v92))) (([]:List Nat),0)) (λv86=>1<=v33.length/\v33.length<2^63/\(v86.length+([(v33.length-1)]:(List Nat)).length)*8<=2^47/\K (⟨v51,v70,[],(v86++([(v33.length-1)]:(List Nat)))⟩:Circ)))))))))
theorem xH{p0:CData}{K:Circ->Prop}(hm:kr p0 K){h0:Heap}(hB:aH vars h0):∃r,K r/\al Tryz.prog NG 41 ⟨[Ac p0]⟩ h0 (az r) h0:=by
 unfold kr at hm
 refine fw Tryz.func41 hB (enc:=az) (λr=>mZ _) λO=>?_;conv=>whnf
 refine gX ?_;refine fz ?_;refine gH ?_;refine O.new (aj (l:=[nS,nS,nS,nS]) rfl rfl rfl) λg1 h O=>?_;refine gH ?_;refine gX ?_;have O:=O.aZ (.cells (ah ((([]:List Node)).map au)) false);have O:=O.aZ (.cells (ah ((([]:List ByteArray)).map L5)) false);have O:=O.aZ (.cells (ah ((([]:List Nat)).map i64)) false);refine O.new (aj (l:=[nS,nS,nS,nS]) rfl rfl rfl) λg3 h O=>?_;refine gH ?_;refine jn (σ:=(List Node)×Option Nat) hm 178 [1,2,3] (λs=>s.1) (λ(v9,a8) h=>(a8=none->v9=[])/\Own vars h0 [(sC g1 [nS,nS,nS,nS]),(sC g3 [(ak 4 a8 (v9.map au)),(ak 1 none (([]:List ByteArray).map L5)),nS,(ak 1 none (([]:List Nat).map i64))]),(sM a8 au v9),(sM none L5 ([]:List ByteArray)),(sM none i64 ([]:List Nat))] h) (λ(v9,a8)=>[]) (λhm=>?_) ?_
 .refine gX ?_;refine lw 178 [1,2,3] (σ:=((List Node)×Nat)×Option Nat) (λs=>s.1) (λ((v13,v14),a12) h=>(a12=none->v13=[])/\Own vars h0 [(sC g1 [nS,nS,nS,nS]),(sC g3 [(ak 4 a12 (v13.map au)),(ak 1 none (([]:List ByteArray).map L5)),nS,(ak 1 none (([]:List Nat).map i64))]),(sM a12 au v13),(sM none L5 ([]:List ByteArray)),(sM none i64 ([]:List Nat))] h) (λ((v13,v14),a12)=>[(4,(i64 v14))]) ((([]:List Node),0),none) hm ⟨(λ_=>rfl),(O.sel [4,0,3,2,1] (by decide))⟩ ?_;clear hm;rintro⟨⟨v13,v14⟩,a12⟩ nx16 base h hm ⟨ha15,O⟩;refine gX ?_;refine AF hm λhm=>?_;refine gH ?_;refine aCv hm wI8 λhm=>?_;refine gX ?_;refine br hm (λhm=>?_) λhm=>?_
  .refine gX ?_;refine NewG.frzW rfl (VLe.els (s:=4) (es':=([(⟨0,([]:(List Nat)),0,0⟩:Node)]).map au) rfl (bE (enc:=au) (s:=4) (λ_=>rfl) _) (LLe.cons (VLe.refl _ _) (LLe.cons (VLe.nil _ _) (LLe.cons (VLe.refl _ _) (LLe.cons (VLe.refl _ _) (LLe.nil _)))))) ?_;refine gH ?_;refine O.apL (enc:=au) (l:=v13) (new:=([(⟨0,([]:(List Nat)),0,0⟩:Node)]:(List Node))) 4 (.tail _ (.tail _ (.head _))) ha15 hm λa17 h ha18 O hm=>?_;refine gH ?_;refine O.stC 1 (.tail _ (.head _)) [(ak 4 a17 ((v13++([(⟨0,([]:(List Nat)),0,0⟩:Node)]:(List Node))).map au)),(ak 1 none (([]:List ByteArray).map L5)),nS,(ak 1 none (([]:List Nat).map i64))] λh O=>?_;refine gX ?_;refine aJ hm λhm=>?_;refine gH ?_;exact jx (((v13++([(⟨0,([]:(List Nat)),0,0⟩:Node)]:(List Node))),(v14+1)),a17) hm ⟨ha18,O⟩
  .refine gX ?_;exact jx (v13,a12) hm ⟨ha15,O⟩
 .clear hm;rintro⟨v9,a8⟩ base h hm ⟨ha10,O⟩;refine gX ?_;refine AF hm λhm=>?_;refine gH ?_;refine aCv hm wI8 λhm=>?_;refine gH ?_;refine jn (σ:=(List Node)×Option Nat) hm 178 [1,2,3,5,6] (λs=>s.1) (λ(v20,a19) h=>(a19=none->v20=[])/\Own vars h0 [(sC g1 [nS,nS,nS,nS]),(sC g3 [(ak 4 a19 (v20.map au)),(ak 1 none (([]:List ByteArray).map L5)),nS,(ak 1 none (([]:List Nat).map i64))]),(sM a19 au v20),(sM none L5 ([]:List ByteArray)),(sM none i64 ([]:List Nat))] h) (λ(v20,a19)=>[]) (λhm=>?_) ?_
  .refine gX ?_;refine lw 178 [1,2,3,5,6] (σ:=((List Node)×Nat)×Option Nat) (λs=>s.1) (λ((v24,v25),a23) h=>(a23=none->v24=[])/\Own vars h0 [(sC g1 [nS,nS,nS,nS]),(sC g3 [(ak 4 a23 (v24.map au)),(ak 1 none (([]:List ByteArray).map L5)),nS,(ak 1 none (([]:List Nat).map i64))]),(sM a23 au v24),(sM none L5 ([]:List ByteArray)),(sM none i64 ([]:List Nat))] h) (λ((v24,v25),a23)=>[(7,(i64 v25))]) ((v9,0),a8) hm ⟨ha10,O⟩ ?_;clear hm;rintro⟨⟨v24,v25⟩,a23⟩ nx27 base h hm ⟨ha26,O⟩;refine gX ?_;refine br hm (λhm=>?_) λhm=>?_
   .refine gX ?_;refine fz ?_;refine gH ?_;refine fz ?_;refine gH ?_;refine O.apL (enc:=au) (l:=v24) (new:=([(⟨14,([0]:(List Nat)),0,0⟩:Node)]:(List Node))) 4 (.tail _ (.tail _ (.head _))) ha26 hm λa28 h ha29 O hm=>?_;refine gH ?_;refine O.stC 1 (.tail _ (.head _)) [(ak 4 a28 ((v24++([(⟨14,([0]:(List Nat)),0,0⟩:Node)]:(List Node))).map au)),(ak 1 none (([]:List ByteArray).map L5)),nS,(ak 1 none (([]:List Nat).map i64))] λh O=>?_;refine gX ?_;refine aJ hm λhm=>?_;refine gH ?_;exact jx (((v24++([(⟨14,([0]:(List Nat)),0,0⟩:Node)]:(List Node))),(v25+1)),a28) hm ⟨ha29,O⟩
   .refine gX ?_;exact jx (v24,a23) hm ⟨ha26,O⟩
  .clear hm;rintro⟨v20,a19⟩ base h hm ⟨ha21,O⟩
   conv=>whnf
   refine jn hm 178 [1,2,3,5,6] (λs=>s) (λ_ h=>(a19=none->v20=[])/\Own vars h0 [(sC g1 [nS,nS,nS,nS]),(sC g3 [(ak 4 a19 (v20.map au)),(ak 1 none (([]:List ByteArray).map L5)),nS,(ak 1 none (([]:List Nat).map i64))]),(sM a19 au v20),(sM none L5 ([]:List ByteArray)),(sM none i64 ([]:List Nat))] h) (λ_=>[]) (λhm=>?_) ?_
   .refine gX ?_;refine br hm (λhm=>?_) λhm=>?_
    .refine gX ?_;exact Nn hm
    .refine gX ?_;exact jx () hm ⟨ha21,O⟩
   .clear hm;rintro _ base h hm ⟨ha30,O⟩
    conv=>whnf
    refine jn (σ:=(List Node)×Option Nat) hm 178 [1,2,3,5,6] (λs=>s.1) (λ(v33,a32) h=>(a32=none->v33=[])/\Own vars h0 [(sC g1 [nS,nS,nS,nS]),(sC g3 [(ak 4 a32 (v33.map au)),(ak 1 none (([]:List ByteArray).map L5)),nS,(ak 1 none (([]:List Nat).map i64))]),(sM a32 au v33),(sM none L5 ([]:List ByteArray)),(sM none i64 ([]:List Nat))] h) (λ(v33,a32)=>[]) (λhm=>?_) ?_
    .refine gX ?_;refine lw 178 [1,2,3,5,6] (σ:=((List Node)×Nat)×Option Nat) (λs=>s.1) (λ((v37,v38),a36) h=>(a36=none->v37=[])/\Own vars h0 [(sC g1 [nS,nS,nS,nS]),(sC g3 [(ak 4 a36 (v37.map au)),(ak 1 none (([]:List ByteArray).map L5)),nS,(ak 1 none (([]:List Nat).map i64))]),(sM a36 au v37),(sM none L5 ([]:List ByteArray)),(sM none i64 ([]:List Nat))] h) (λ((v37,v38),a36)=>[(8,(i64 v38))]) ((v20,0),a19) hm ⟨ha30,O⟩ ?_;clear hm;rintro⟨⟨v37,v38⟩,a36⟩ nx40 base h hm ⟨ha39,O⟩
     conv=>whnf
     apply Cs;conv=>whnf
     refine jn hm 178 [1,2,3,5,6,8] (λs=>s) (λv41 h=>(a36=none->v37=[])/\Own vars h0 [(sC g1 [nS,nS,nS,nS]),(sC g3 [(ak 4 a36 (v37.map au)),(ak 1 none (([]:List ByteArray).map L5)),nS,(ak 1 none (([]:List Nat).map i64))]),(sM a36 au v37),(sM none L5 ([]:List ByteArray)),(sM none i64 ([]:List Nat))] h) (λv41=>[(63,(.bool v41))]) (λhm=>?_) ?_
     .refine gX ?_;refine br hm (λhm=>?_) λhm=>?_
      .refine gX ?_;exact jx (ltN v38 8) hm ⟨ha39,O⟩
      .refine gX ?_;exact jx false hm ⟨ha39,O⟩
     .clear hm;rintro v41 base h hm ⟨ha42,O⟩;refine gX ?_;refine br hm (λhm=>?_) λhm=>?_
      .refine gX ?_
       first|refine⟨.inr (.inr (bw rfl O.i1 rfl rfl)),?_⟩|refine⟨.inr (.inl (by kernel_rfl)),?_⟩
       refine gX ?_;refine dF ?_;refine gX ?_;refine dF ?_;refine gX ?_;refine atF hm λx44 hx44 hm=>?_;refine gH ?_;refine dF ?_;refine gX ?_
       first|refine⟨.inr (.inr (bw rfl O.i1 rfl rfl)),?_⟩|refine⟨.inr (.inl (by kernel_rfl)),?_⟩
       refine gX ?_;obtain⟨hbus,hgk,hn1,hn2,hm⟩:=hm;have h9:=hm;obtain⟨g45,rfl⟩:=G1 ha42 hn1;replace hm:=h9;refine⟨_,_,IT (x:=p0) hbus hgk hn1 hn2 O.has O.i2,?_⟩;refine gH ?_;refine⟨.inl (Ext.refl _),?_⟩;refine gH ?_;refine O.eA (l:=([(jh p0.bus x44 (v37.map Node.kind))]:(List Node))) (enc:=au) (s:=4) (z:=(.agg ⟨[(n8 0),nS,(i64 0),(i64 0)]⟩)) rfl rfl (by kernel_rfl) (by kernel_rfl) rfl rfl rfl rfl (λ_=>rfl) λg46 h O=>?_;refine gH ?_;refine O.fb (enc:=au) (l:=v37) (new:=([(jh p0.bus x44 (v37.map Node.kind))]:(List Node))) (s:=4) (b:=48) (.tail _ (.tail _ (.tail _ (.head _)))) jo rfl rfl rfl rfl rfl rfl rfl rfl (YOk.own O.i0 rfl (λ_=>rfl) rfl) (λ_=>rfl) (λ_=>rfl) (by decide) hm.1 λa48 h ha49 O=>?_;refine gH ?_;replace hm:=hm.2;refine O.stC 1 (.tail _ (.tail _ (.head _))) [(ak 4 a48 ((v37++([(jh p0.bus x44 (v37.map Node.kind))]:(List Node))).map au)),(ak 1 none (([]:List ByteArray).map L5)),nS,(ak 1 none (([]:List Nat).map i64))] λh O=>?_;refine gH ?_;refine gX ?_;refine aJ hm λhm=>?_;refine gH ?_;exact jx (((v37++([(jh p0.bus x44 (v37.map Node.kind))]:(List Node))),(v38+1)),a48) hm ⟨ha49,(O.sel [1,2,3,4,5] (by decide))⟩
      .refine gX ?_;exact jx (v37,a36) hm ⟨ha42,O⟩
    .clear hm;rintro⟨v33,a32⟩ base h hm ⟨ha34,O⟩
     conv=>whnf
     apply Cs;conv=>whnf
     apply Cs;refine gH ?_;refine jn (σ:=(List Node)×Option Nat) hm 178 [1,2,3,9] (λs=>s.1) (λ(v51,a50) h=>(a50=none->v51=[])/\Own vars h0 [(sC g1 [nS,nS,nS,nS]),(sC g3 [(ak 4 a50 (v51.map au)),(ak 1 none (([]:List ByteArray).map L5)),nS,(ak 1 none (([]:List Nat).map i64))]),(sM a50 au v51),(sM none L5 ([]:List ByteArray)),(sM none i64 ([]:List Nat))] h) (λ(v51,a50)=>[]) (λhm=>?_) ?_
     .refine gX ?_;refine lw 178 [1,2,3,5,6,9] (σ:=((List Node)×Nat)×Option Nat) (λs=>s.1) (λ((v55,v56),a54) h=>(a54=none->v55=[])/\Own vars h0 [(sC g1 [nS,nS,nS,nS]),(sC g3 [(ak 4 a54 (v55.map au)),(ak 1 none (([]:List ByteArray).map L5)),nS,(ak 1 none (([]:List Nat).map i64))]),(sM a54 au v55),(sM none L5 ([]:List ByteArray)),(sM none i64 ([]:List Nat))] h) (λ((v55,v56),a54)=>[(10,(i64 v56))]) ((v33,0),a32) hm ⟨ha34,O⟩ ?_;clear hm;rintro⟨⟨v55,v56⟩,a54⟩ nx58 base h hm ⟨ha57,O⟩;refine gX ?_;refine br hm (λhm=>?_) λhm=>?_
      .refine gX ?_
       first|refine⟨.inr (.inr (bw rfl O.i1 rfl rfl)),?_⟩|refine⟨.inr (.inl (by kernel_rfl)),?_⟩
       refine gX ?_;refine aJ hm λhm=>?_;refine gH ?_
       have hq:v56=0\/v56=1:=by have:=hm.1;omega
       replace hm:=hm.2
       rcases hq with hq|hq
       .replace hm:=hm.1 hq;refine JE (s:=1) (j:=v56) (q:=0) rfl rfl rfl rfl hq rfl rfl ?_;refine gH ?_;refine aCv hm wI8 λhm=>?_;refine gH ?_;refine AF hm λhm=>?_;refine gH ?_;refine O.eA (l:=([(p0.data0%v33.length)]:(List Nat))) (enc:=i64) (s:=1) (z:=(i64 0)) rfl rfl (by kernel_rfl) (by kernel_rfl) rfl rfl rfl rfl (λ_=>rfl) λg59 h O=>?_;refine gH ?_;obtain⟨x61,hx61,hm⟩:=hm;have h9:=hm;obtain⟨g62,rfl⟩:=lb ha57 hx61;replace hm:=h9;refine cb (s:=4) (j:=(v9.length+v56)) rfl rfl rfl rfl (by rw[LZ];exact ai hx61) ?_;refine gH ?_;refine O.store (n:=1) (cs':=(bJ (ah (v55.map au)) (0+(v9.length+v56)*4+1) [(.slice (some ⟨g59,0,none⟩) 1 1)])) (.tail _ (.tail _ (.tail _ (.head _)))) rfl rfl rfl rfl (dR (enc:=au) (s:=4) (k:=1) (n:=1) (λ_=>rfl) (ai hx61) (lbE rfl)) rfl rfl λh O=>?_;refine gH ?_;refine CodeS.ghost (cs2':=ah ((v55.set (v9.length+v56) { x61 with ins:=([(p0.data0%v33.length)]:(List Nat)) }).map au)) O (.head _) (.tail _ (.tail _ (.tail _ (.head _)))) (t1:=100) (t2:=89) rfl rfl rfl rfl (λh2 hq=>uA (enc:=au) (s:=4) (λ_=>rfl) hx61 (x:={ x61 with ins:=([(p0.data0%v33.length)]:(List Nat)) }) (k:=1) (v':=(ae 1 i64) ([(p0.data0%v33.length)]:(List Nat))) (lbE rfl) rfl (VLe.flM hq rfl (λ_=>rfl))) λh O=>?_
        try rw[yp (enc:=au) (l:=v55) (j:=(v9.length+v56)) (x:={ x61 with ins:=([(p0.data0%v33.length)]:(List Nat)) })] at O
        refine gX ?_;refine aJ hm λhm=>?_;refine gH ?_;exact jx (((v55.set (v9.length+v56) { x61 with ins:=([(p0.data0%v33.length)]:(List Nat)) }),(v56+1)),(some g62)) hm ⟨jo,(O.sel [1,2,3,4,5] (by decide))⟩
       .replace hm:=hm.2 hq;refine JE (s:=1) (j:=v56) (q:=1) rfl rfl rfl rfl hq rfl rfl ?_;refine gH ?_;refine aCv hm wI8 λhm=>?_;refine gH ?_;refine AF hm λhm=>?_;refine gH ?_;refine O.eA (l:=([(p0.data1%v33.length)]:(List Nat))) (enc:=i64) (s:=1) (z:=(i64 0)) rfl rfl (by kernel_rfl) (by kernel_rfl) rfl rfl rfl rfl (λ_=>rfl) λg63 h O=>?_;refine gH ?_;obtain⟨x65,hx65,hm⟩:=hm;have h9:=hm;obtain⟨g66,rfl⟩:=lb ha57 hx65;replace hm:=h9;refine cb (s:=4) (j:=(v9.length+v56)) rfl rfl rfl rfl (by rw[LZ];exact ai hx65) ?_;refine gH ?_;refine O.store (n:=1) (cs':=(bJ (ah (v55.map au)) (0+(v9.length+v56)*4+1) [(.slice (some ⟨g63,0,none⟩) 1 1)])) (.tail _ (.tail _ (.tail _ (.head _)))) rfl rfl rfl rfl (dR (enc:=au) (s:=4) (k:=1) (n:=1) (λ_=>rfl) (ai hx65) (lbE rfl)) rfl rfl λh O=>?_;refine gH ?_;refine CodeS.ghost (cs2':=ah ((v55.set (v9.length+v56) { x65 with ins:=([(p0.data1%v33.length)]:(List Nat)) }).map au)) O (.head _) (.tail _ (.tail _ (.tail _ (.head _)))) (t1:=100) (t2:=89) rfl rfl rfl rfl (λh2 hq=>uA (enc:=au) (s:=4) (λ_=>rfl) hx65 (x:={ x65 with ins:=([(p0.data1%v33.length)]:(List Nat)) }) (k:=1) (v':=(ae 1 i64) ([(p0.data1%v33.length)]:(List Nat))) (lbE rfl) rfl (VLe.flM hq rfl (λ_=>rfl))) λh O=>?_
        try rw[yp (enc:=au) (l:=v55) (j:=(v9.length+v56)) (x:={ x65 with ins:=([(p0.data1%v33.length)]:(List Nat)) })] at O
        refine gX ?_;refine aJ hm λhm=>?_;refine gH ?_;exact jx (((v55.set (v9.length+v56) { x65 with ins:=([(p0.data1%v33.length)]:(List Nat)) }),(v56+1)),(some g66)) hm ⟨jo,(O.sel [1,2,3,4,5] (by decide))⟩
      .refine gX ?_;exact jx (v55,a54) hm ⟨ha57,O⟩
     .clear hm;rintro⟨v51,a50⟩ base h hm ⟨ha52,O⟩
      conv=>whnf
      refine jn hm 178 [1,2,3,9] (λs=>s) (λ_ h=>(a50=none->v51=[])/\Own vars h0 [(sC g1 [nS,nS,nS,nS]),(sC g3 [(ak 4 a50 (v51.map au)),(ak 1 none (([]:List ByteArray).map L5)),nS,(ak 1 none (([]:List Nat).map i64))]),(sM a50 au v51),(sM none L5 ([]:List ByteArray)),(sM none i64 ([]:List Nat))] h) (λ_=>[]) (λhm=>?_) ?_
      .refine gX ?_;refine br hm (λhm=>?_) λhm=>?_
       .refine gX ?_;exact Nn hm
       .refine gX ?_;exact jx () hm ⟨ha52,O⟩
      .clear hm;rintro _ base h hm ⟨ha67,O⟩
       conv=>whnf
       refine jn (σ:=(List ByteArray)×Option Nat) hm 178 [1,2,3,9] (λs=>s.1) (λ(v70,a69) h=>(a50=none->v51=[])/\(a69=none->v70=[])/\Own vars h0 [(sC g1 [nS,nS,nS,nS]),(sC g3 [(ak 4 a50 (v51.map au)),(ak 1 a69 (v70.map L5)),nS,(ak 1 none (([]:List Nat).map i64))]),(sM a50 au v51),(sM a69 L5 v70),(sM none i64 ([]:List Nat))] h) (λ(v70,a69)=>[]) (λhm=>?_) ?_
       .refine gX ?_;refine lw 178 [1,2,3,9] (σ:=((List ByteArray)×Nat)×Option Nat) (λs=>s.1) (λ((v75,v76),a74) h=>(a50=none->v51=[])/\(a74=none->v75=[])/\Own vars h0 [(sC g1 [nS,nS,nS,nS]),(sC g3 [(ak 4 a50 (v51.map au)),(ak 1 a74 (v75.map L5)),nS,(ak 1 none (([]:List Nat).map i64))]),(sM a50 au v51),(sM a74 L5 v75),(sM none i64 ([]:List Nat))] h) (λ((v75,v76),a74)=>[(11,(i64 v76))]) ((([]:List ByteArray),0),none) hm ⟨ha67,(λ_=>rfl),O⟩ ?_;clear hm;rintro⟨⟨v75,v76⟩,a74⟩ nx79 base h hm ⟨ha77,ha78,O⟩;refine gX ?_;refine br hm (λhm=>?_) λhm=>?_
        .refine gX ?_
         first|refine⟨.inr (.inr (bw rfl O.i1 rfl rfl)),?_⟩|refine⟨.inr (.inl (by kernel_rfl)),?_⟩
         refine gX ?_;refine ca (uO hm O.has) λr80 hm=>?_;refine gH ?_;refine⟨.inl (Ext.refl _),?_⟩;refine gH ?_;refine O.eA (l:=([r80]:(List ByteArray))) (enc:=L5) (s:=1) (z:=(.string (⟨#[]⟩:ByteArray))) rfl rfl (by kernel_rfl) (by kernel_rfl) rfl rfl rfl rfl (λ_=>rfl) λg81 h O=>?_;refine gH ?_;refine O.fb (enc:=L5) (l:=v75) (new:=([r80]:(List ByteArray))) (s:=1) (b:=16) (.tail _ (.tail _ (.tail _ (.tail _ (.head _))))) ha78 rfl rfl rfl rfl rfl rfl rfl rfl (YOk.own O.i0 rfl (λ_=>rfl) rfl) (λ_=>rfl) (λ_=>rfl) (by decide) hm.1 λa83 h ha84 O=>?_;refine gH ?_;replace hm:=hm.2;refine O.stC 1 (.tail _ (.tail _ (.head _))) [(ak 4 a50 (v51.map au)),(ak 1 a83 ((v75++([r80]:(List ByteArray))).map L5)),nS,(ak 1 none (([]:List Nat).map i64))] λh O=>?_;refine gH ?_;refine gX ?_;refine aJ hm λhm=>?_;refine gH ?_;exact jx (((v75++([r80]:(List ByteArray))),(v76+1)),a83) hm ⟨ha77,ha84,(O.sel [1,2,3,4,5] (by decide))⟩
        .refine gX ?_;exact jx (v75,a74) hm ⟨ha77,ha78,O⟩
       .clear hm;rintro⟨v70,a69⟩ base h hm ⟨ha71,ha72,O⟩
        conv=>whnf
        refine jn (σ:=(List Nat)×Option Nat) hm 178 [2,3,9] (λs=>s.1) (λ(v86,a85) h=>(a50=none->v51=[])/\(a69=none->v70=[])/\(a85=none->v86=[])/\Own vars h0 [(sC g1 [nS,nS,nS,nS]),(sC g3 [(ak 4 a50 (v51.map au)),(ak 1 a69 (v70.map L5)),nS,(ak 1 a85 (v86.map i64))]),(sM a50 au v51),(sM a69 L5 v70),(sM a85 i64 v86)] h) (λ(v86,a85)=>[]) (λhm=>?_) ?_
        .refine gX ?_;refine lw 178 [1,2,3,9] (σ:=((List Nat)×Nat)×Option Nat) (λs=>s.1) (λ((v92,v93),a91) h=>(a50=none->v51=[])/\(a69=none->v70=[])/\(a91=none->v92=[])/\Own vars h0 [(sC g1 [nS,nS,nS,nS]),(sC g3 [(ak 4 a50 (v51.map au)),(ak 1 a69 (v70.map L5)),nS,(ak 1 a91 (v92.map i64))]),(sM a50 au v51),(sM a69 L5 v70),(sM a91 i64 v92)] h) (λ((v92,v93),a91)=>[(12,(i64 v93))]) ((([]:List Nat),0),none) hm ⟨ha71,ha72,(λ_=>rfl),O⟩ ?_;clear hm;rintro⟨⟨v92,v93⟩,a91⟩ nx97 base h hm ⟨ha94,ha95,ha96,O⟩
         conv=>whnf
         apply Cs;conv=>whnf
         refine jn hm 178 [1,2,3,9,12] (λs=>s) (λv98 h=>(a50=none->v51=[])/\(a69=none->v70=[])/\(a91=none->v92=[])/\Own vars h0 [(sC g1 [nS,nS,nS,nS]),(sC g3 [(ak 4 a50 (v51.map au)),(ak 1 a69 (v70.map L5)),nS,(ak 1 a91 (v92.map i64))]),(sM a50 au v51),(sM a69 L5 v70),(sM a91 i64 v92)] h) (λv98=>[(154,(.bool v98))]) (λhm=>?_) ?_
         .refine gX ?_;refine br hm (λhm=>?_) λhm=>?_
          .refine gX ?_;exact jx (ltN v93 3) hm ⟨ha94,ha95,ha96,O⟩
          .refine gX ?_;exact jx false hm ⟨ha94,ha95,ha96,O⟩
         .clear hm;rintro v98 base h hm ⟨ha99,ha100,ha101,O⟩;refine gX ?_;refine br hm (λhm=>?_) λhm=>?_
          .refine gX ?_
           first|refine⟨.inr (.inr (bw rfl O.i1 rfl rfl)),?_⟩|refine⟨.inr (.inl (by kernel_rfl)),?_⟩
           refine gX ?_;refine dF ?_;refine gX ?_;refine atF hm λx103 hx103 hm=>?_;refine gH ?_;refine aCv hm wI8 λhm=>?_;refine gH ?_;refine AF hm λhm=>?_;refine gH ?_;refine O.eA (l:=([(x103%v33.length)]:(List Nat))) (enc:=i64) (s:=1) (z:=(i64 0)) rfl rfl (by kernel_rfl) (by kernel_rfl) rfl rfl rfl rfl (λ_=>rfl) λg104 h O=>?_;refine gH ?_;refine O.fb (enc:=i64) (l:=v92) (new:=([(x103%v33.length)]:(List Nat))) (s:=1) (b:=8) (.tail _ (.tail _ (.tail _ (.tail _ (.tail _ (.head _)))))) ha101 rfl rfl rfl rfl rfl rfl rfl rfl (YOk.own O.i0 rfl (λ_=>rfl) rfl) (λ_=>rfl) (λ_=>rfl) (by decide) hm.1 λa106 h ha107 O=>?_;refine gH ?_;replace hm:=hm.2;refine O.stC 1 (.tail _ (.tail _ (.head _))) [(ak 4 a50 (v51.map au)),(ak 1 a69 (v70.map L5)),nS,(ak 1 a106 ((v92++([(x103%v33.length)]:(List Nat))).map i64))] λh O=>?_;refine gH ?_;refine gX ?_;refine aJ hm λhm=>?_;refine gH ?_;exact jx (((v92++([(x103%v33.length)]:(List Nat))),(v93+1)),a106) hm ⟨ha99,ha100,ha107,(O.sel [1,2,3,4,5] (by decide))⟩
          .refine gX ?_;exact jx (v92,a91) hm ⟨ha99,ha100,ha101,O⟩
        .clear hm;rintro⟨v86,a85⟩ base h hm ⟨ha87,ha88,ha89,O⟩;refine gX ?_;refine vt hm λhm=>?_;refine gH ?_;refine fz ?_;refine gH ?_;refine O.apL (enc:=i64) (l:=v86) (new:=([(v33.length-1)]:(List Nat))) 1 (.tail _ (.tail _ (.tail _ (.tail _ (.head _))))) ha89 hm λa108 h ha109 O hm=>?_;refine gH ?_;refine O.stC 1 (.tail _ (.head _)) [(ak 4 a50 (v51.map au)),(ak 1 a69 (v70.map L5)),nS,(ak 1 a108 ((v86++([(v33.length-1)]:(List Nat))).map i64))] λh O=>?_;refine gX ?_;refine ldA O.i1 ?_;refine gH ?_;refine O.stC 4 (.head _) [(ak 4 a50 (v51.map au)),(ak 1 a69 (v70.map L5)),nS,(ak 1 a108 ((v86++([(v33.length-1)]:(List Nat))).map i64))] λh O=>?_;refine gX ?_
         refine⟨_,aI rfl rfl O.i0 rfl rfl (lbE rfl) rfl,?_⟩;conv=>whnf
         exact⟨(⟨v51,v70,[],(v86++([(v33.length-1)]:(List Nat)))⟩:Circ),hm,O.ext,λh2 F=>VLe.agg (LLe.cons (O.jP F (LV _) (.tail _ (.tail _ (.head _))) ha87 (λ_=>rfl)) (LLe.cons (O.jP F (LV _) (.tail _ (.tail _ (.tail _ (.head _)))) ha88 (λ_=>rfl)) (LLe.cons (VLe.nil _ _) (LLe.cons (O.jP F (LV _) (.tail _ (.tail _ (.tail _ (.tail _ (.head _))))) ha109 (λ_=>rfl)) (LLe.nil _)))))⟩
theorem je{first:Nat}{d:Nat->Nat}{ns:List Node}:∀i,(rh first d i ns).length=ns.length
 |0=>rfl
 |i+1=>by rw[rh,Nj,je i]
theorem wB{first:Nat}{d:Nat->Nat}{ns:List Node}{j:Nat}:∀{i},first+i<=j->(rh first d i ns)[j]?=ns[j]?
 |0,_=>rfl
 |i+1,h=>by
  rw[rh,Pv (by omega)];exact wB (by omega)
theorem sK(x:CData):0<(dr x).length:=by
 rw[mg];omega
theorem JF{α:Type}{a:α}{first:(α->Prop)->Prop}{rest:α->Prop}(h1:rest a->first rest)(h2:rest a):aw first rest:=h1 h2
structure CB (x:CData):Prop where
 inp:x.inp<256
 dffs:x.dffs<256
 data0:x.data0<256
 data1:x.data1<256
 port0:x.port0<256
 port1:x.port1<256
 port2:x.port2<256
 port3:x.port3<256
 gates:∀g∈x.gates,GOk g
 outs:∀o∈x.outs,o<256
theorem Ce{n:Nat}(hn:n<=16){rest:List ByteArray->Prop}(h:rest ((Ma n).map nc)) :
  aw (α:=(List ByteArray)) (λk=>aF (S:=((List ByteArray)×Nat)) (λ(v,i) nx=>((ltN i n)=true->my i (λr=>(v.length+([r]:(List ByteArray)).length)*16<=2^47/\i+1<2^63/\nx ((v++([r]:(List ByteArray))),(i+1))))/\((ltN i n)=false->k v)) (([]:List ByteArray),0)) rest:=by
 refine aB (λs=>s.2<=n/\s.1=(Ma s.2).map nc) (λs=>n-s.2) (λa=>a=(Ma n).map nc) ?_ ⟨L1 _,rfl⟩ (λa e=>by rw[e];exact h);rintro k ⟨l,i⟩ nx ⟨hi,hl⟩ hnx hk;dsimp only at hi hl;subst hl;refine⟨λq=>?_,λq=>?_⟩
 .have q:=aX.1 q
  try dsimp only at q
  refine⟨by omega,by simp only[LZ,M4,L6];omega,by omega,hnx _ ⟨by dsimp only;omega,?_⟩ (by dsimp only;omega)⟩;dsimp only;rw[N6,MT];rfl
 .have q:=bC.1 q
  try dsimp only at q
  have:i=n:=by omega
  subst this;exact hk _ rfl
theorem Fa{n:Nat}(hpos:0<n){outs:List Nat}(ho:∀o∈outs,o<256){rest:List Nat->Prop}(h:rest ((outs.take 3).map (· % n))) :
  aw (α:=(List Nat)) (λk=>aF (S:=((List Nat)×Nat)) (λ(v,i) nx=>aw (α:=Bool) (λk2=>((ltN i outs.length)=true->k2 (ltN i 3))/\((ltN i outs.length)=false->k2 false)) (λw=>(w=true->∃x,outs[i]?=some x/\x<256/\0<n/\(v.length+([(x%n)]:(List Nat)).length)*8<=2^47/\i+1<2^63/\nx ((v++([(x%n)]:(List Nat))),(i+1)))/\(w=false->k v))) (([]:List Nat),0)) rest:=by
 refine aB (λs=>s.2<=min outs.length 3/\s.1=(outs.take s.2).map (· % n)) (λs=>min outs.length 3-s.2) (λa=>a=(outs.take 3).map (· % n)) ?_ ⟨L1 _,by simp⟩ (λa e=>by rw[e];exact h);rintro k ⟨l,i⟩ nx ⟨hi,hl⟩ hnx hk;dsimp only at hi hl;subst hl;have hi3:i<=3:=Mf hi (O8 _ _);have hil:i<=outs.length:=Mf hi (NW _ _)
 have hlen:((outs.take i).map (· % n)).length=i:=by rw[LZ,L8];omega
 have stop:¬ (i<outs.length/\i<3)->k ((outs.take i).map (· % n)):=λq=>by
  refine hk _ ?_;by_cases c:i=3
  .rw[c]
  .rw[Mc (by omega),Mc (by omega)]
 refine iV ⟨λq=>⟨λq2=>?_,λq2=>stop λe=>absurd e.2 (by have:=bC.1 q2;omega)⟩,λq=>⟨(λe=>by cases e),λ_=>stop λe=>absurd e.1 (by have:=bC.1 q;(try dsimp only at this);omega)⟩⟩;have q:=aX.1 q;have q2:=aX.1 q2
 try dsimp only at q q2
 obtain⟨o,hoo⟩:=aA q;obtain⟨l1,l2⟩:=LX.1 hoo;refine⟨o,hoo,ho _ (LS hoo),hpos,by rw[hlen];simp only[L6];omega,by omega,hnx _ ⟨by dsimp only;omega,?_⟩ (by dsimp only;omega)⟩;dsimp only;rw[MK l1,l2,MT];rfl
theorem Cp{x:CData}{K:Circ->Prop}(hx:CB x)(hmem:x.mem=false)(hbus:x.bus=false)(h:K (iW x)):kr x K:=by
 have h4:=NV x.inp (show 0<4 by decide);have h3:=NV x.dffs (show 0<3 by decide);have hpos:=sK x;have hle:=Dg x
 have hbase:(kI x.inp x.dffs x.mem).length<=8:=by rw[jr];split <;> omega
 have hbase1:0<(kI x.inp x.dffs x.mem).length:=by rw[jr];omega
 unfold kr;refine aB (λs=>s.2<=x.inp%4+1/\s.1=LY s.2 kF) (λs=>x.inp%4+1-s.2) (λa=>a=LY (x.inp%4+1) kF) ?_ ⟨L1 _,rfl⟩ ?_
 .rintro k ⟨l,i⟩ nx ⟨hi,hl⟩ hnx hk;dsimp only at hi hl;subst hl;refine⟨by decide,by omega,λq=>?_,λq=>?_⟩
  .have q:=rl.1 q
   try dsimp only at q
   refine⟨by simp only[Mw,L6];omega,by omega,hnx _ ⟨by dsimp only;omega,?_⟩ (by dsimp only;omega)⟩;dsimp only;rw[Rv];rfl
  .have q:=yG.1 q
   try dsimp only at q
   have:i=x.inp%4+1:=by omega
   subst this;exact hk _ rfl
 rintro a rfl;refine⟨by decide,by omega,?_⟩;refine aB (λs=>s.2<=x.dffs%3/\s.1=LY (x.inp%4+1) kF++LY s.2 (sA 0)) (λs=>x.dffs%3-s.2) (λa=>a=LY (x.inp%4+1) kF++LY (x.dffs%3) (sA 0)) ?_ ⟨L1 _,by simp⟩ ?_
 .rintro k ⟨l,i⟩ nx ⟨hi,hl⟩ hnx hk;dsimp only at hi hl;subst hl;refine⟨λq=>?_,λq=>?_⟩
  .have q:=aX.1 q
   try dsimp only at q
   refine⟨by simp only[Ml,Mw,L6];omega,by omega,hnx _ ⟨by dsimp only;omega,?_⟩ (by dsimp only;omega)⟩;dsimp only;rw[Rv (n:=i),<- MC];rfl
  .have q:=bC.1 q
   try dsimp only at q
   have:i=x.dffs%3:=by omega
   subst this;exact hk _ rfl
 rintro a rfl;refine JF (a:=()) (λF=>⟨(λq=>by rw[hmem] at q;cases q),λ_=>F⟩) ?_;rw[show LY (x.inp%4+1) kF++LY (x.dffs%3) (sA 0)=kI x.inp x.dffs x.mem by unfold kI;rw[hmem];simp];refine aB (λs=>s.2<=min x.gates.length 8/\s.1=fX x.bus x.gates (kI x.inp x.dffs x.mem) s.2) (λs=>min x.gates.length 8-s.2) (λa=>a=dr x) ?_ ⟨L1 _,rfl⟩ ?_
 .rintro k ⟨l,i⟩ nx ⟨hi,hl⟩ hnx hk;dsimp only at hi hl;subst hl;have hgl:i<=x.gates.length:=Mf hi (NW _ _);have hN:=iv x.bus x.gates (kI x.inp x.dffs x.mem) i hgl;have hi8:i<=8:=Mf hi (O8 _ _)
  have stop:¬ (i<x.gates.length/\i<8)->k (fX x.bus x.gates (kI x.inp x.dffs x.mem) i):=λq=>by
   have:i=min x.gates.length 8:=by omega
   exact hk _ (by rw[this];rfl)
  refine iV ⟨λq=>⟨λq2=>?_,λq2=>stop λe=>absurd e.2 (by have:=bC.1 q2;omega)⟩,λq=>⟨(λe=>by cases e),λ_=>stop λe=>absurd e.1 (by have:=bC.1 q;(try dsimp only at this);omega)⟩⟩;have q:=aX.1 q;have q2:=aX.1 q2
  try dsimp only at q q2
  obtain⟨gd,hg⟩:=aA q;refine⟨gd,hg,hbus,hx.gates _ (LS hg),by omega,by omega,by simp only[L6];omega,by omega,hnx _ ⟨by dsimp only;omega,?_⟩ (by dsimp only;omega)⟩;dsimp only;rw[ov hg]
 rintro a rfl;have hfirst:(LY (x.inp%4+1) kF).length=x.inp%4+1:=Mw;refine aB (λs=>s.2<=x.dffs%3/\s.1=rh (x.inp%4+1) (rm x (dr x).length) s.2 (dr x)) (λs=>x.dffs%3-s.2) (λa=>a=rh (x.inp%4+1) (rm x (dr x).length) (x.dffs%3) (dr x)) ?_ ⟨L1 _,rfl⟩ ?_
 .rintro k ⟨l,i⟩ nx ⟨hi,hl⟩ hnx hk;dsimp only at hi hl;subst hl;refine⟨λq=>?_,λq=>?_⟩
  .have q:=aX.1 q
   try dsimp only at q
   have hget:(rh (x.inp%4+1) (rm x (dr x).length) i (dr x))[(LY (x.inp%4+1) kF).length+i]?=some (sA 0):=by
    rw[hfirst,wB (LV _)];exact GF q
   have step:∀d,d=rm x (dr x).length i->nx ((rh (x.inp%4+1) (rm x (dr x).length) i (dr x)).set ((LY (x.inp%4+1) kF).length+i) { sA 0 with ins:=[d] },i+1):=λd e=>by
    refine hnx _ ⟨by dsimp only;omega,?_⟩ (by dsimp only;omega);dsimp only;rw[hfirst,e];rfl
   refine⟨by omega,by omega,λe=>⟨hx.data0,hpos,_,hget,by omega,step _ ?_⟩,λe=>⟨hx.data1,hpos,_,hget,by omega,step _ ?_⟩⟩
   .unfold rm;rw[if_pos e]
   .unfold rm;rw[if_neg (by omega)]
  .have q:=bC.1 q
   try dsimp only at q
   have:i=x.dffs%3:=by omega
   subst this;exact hk _ rfl
 rintro a rfl
 have hol:((x.outs.take 3).map (· % (dr x).length)).length<=3:=by rw[LZ,L8];omega
 unfold iW at h;refine JF (a:=()) (λF=>⟨(λq=>by rw[hmem] at q;cases q),λ_=>F⟩) ?_;refine Ce hle (Fa hpos hx.outs ⟨hpos,by omega,by simp only[L6];omega,?_⟩);rw[hmem] at h;exact h
def shB:Sh:=.int .u8
def shG:Sh:=.pair shB (.pair (.pair shB (.pair shB (.pair shB .unit))) .unit)
def shC:Sh:=.pair shB (.pair shB (.pair (.pair shB (.pair shB .unit)) (.pair .bool (.pair .bool (.pair (.pair shB (.pair shB (.pair shB (.pair shB .unit)))) (.pair (.slice shG) (.pair (.slice shB) .unit)))))))
theorem gR{a:Int}(w:shB.wf a):∃n:Nat,n<256/\a=LQ n:=by
 have h:=G9 w;exact⟨a.toNat,by omega,by simp;omega⟩
theorem vh{α β:Type}{f:α->Value}{g:β->Value}{p:β->Prop}:∀(l:List α),(∀x∈l,∃y,p y/\f x=g y)->∃m:List β,(∀y∈m,p y)/\l.map f=m.map g/\m.length=l.length
 |[],_=>⟨[],(λ_ h=>by cases h),rfl,rfl⟩
 |x::l,h=>by
  obtain⟨y,h1,h2⟩:=h x (by simp);obtain⟨m,h3,h4,h5⟩:=vh l λz hz=>h z (by simp[hz]);refine⟨y::m,λz hz=>?_,by simp[h2,h4],by simp[h5]⟩
  rcases MF.1 hz with rfl|hz
  .exact h1
  .exact h3 z hz
theorem Fo{l:List Int}(w:(Sh.slice shB).wf l):∃m:List Nat,(∀v∈m,v<256)/\(Sh.slice shB).bI l=[ae 1 n8 m]:=by
 obtain⟨_,w2⟩:=w
 obtain⟨m,h1,h2,_⟩:=vh (f:=λx=>elV shB.one (shB.bI x)) (g:=n8) (p:=(· < 256)) l λx hx=>by
  obtain⟨n,q1,rfl⟩:=gR (w2 x hx);exact⟨n,q1,rfl⟩
 refine⟨m,h1,?_⟩
 .show [FL 1 (l.map λx=>elV shB.one (shB.bI x))]=_
  rw[h2];rfl
theorem D8{l:List shG.Den}(w:(Sh.slice shG).wf l):∃m:List GData,(∀v∈m,GOk v)/\(Sh.slice shG).bI l=[FL 4 (m.map BN)]:=by
 obtain⟨_,w2⟩:=w
 obtain⟨m,h1,h2,_⟩:=vh (f:=λx=>elV shG.one (shG.bI x)) (g:=BN) (p:=GOk) l λx hx=>by
  obtain⟨k,⟨a,b,d,u⟩,u2⟩:=x;obtain⟨w1,⟨wa,wb,wd,_⟩,_⟩:=w2 _ hx;obtain⟨k,q1,rfl⟩:=gR w1;obtain⟨a,q2,rfl⟩:=gR wa;obtain⟨b,q3,rfl⟩:=gR wb;obtain⟨d,q4,rfl⟩:=gR wd;exact⟨⟨k,a,b,d⟩,⟨q1,q2,q3,q4⟩,rfl⟩
 refine⟨m,h1,?_⟩
 .show [FL 4 (l.map λx=>elV shG.one (shG.bI x))]=_
  rw[h2]
theorem Lm{x:shC.Den}(w:shC.wf x):∃y:CData,CB y/\elV (!true) (shC.bI x)=Ac y:=by
 obtain⟨i,f,⟨d0,d1,u1⟩,bu,me,⟨p0,p1,p2,p3,u2⟩,gs,os,u3⟩:=x;obtain⟨wi,wf,⟨wd0,wd1,_⟩,_,_,⟨wp0,wp1,wp2,wp3,_⟩,wg,wo,_⟩:=w;obtain⟨i,qi,rfl⟩:=gR wi;obtain⟨f,qf,rfl⟩:=gR wf;obtain⟨d0,qd0,rfl⟩:=gR wd0;obtain⟨d1,qd1,rfl⟩:=gR wd1;obtain⟨p0,qp0,rfl⟩:=gR wp0;obtain⟨p1,qp1,rfl⟩:=gR wp1;obtain⟨p2,qp2,rfl⟩:=gR wp2;obtain⟨p3,qp3,rfl⟩:=gR wp3;obtain⟨g,g1,g3⟩:=D8 wg;obtain⟨o,o1,o3⟩:=Fo wo;refine⟨⟨i,f,d0,d1,bu,me,p0,p1,p2,p3,g,o⟩,⟨qi,qf,qd0,qd1,qp0,qp1,qp2,qp3,g1,o1⟩,?_⟩
 show Value.agg ⟨[n8 i,n8 f,n8 d0,n8 d1,.bool bu,.bool me,n8 p0,n8 p1,n8 p2,n8 p3]++((Sh.slice shG).bI gs++((Sh.slice shB).bI os++[]))⟩=_
 rw[g3,o3];rfl
structure Pat where
 inp:List Nat
 state:List Nat
def aE(x:Pat):Value:=.agg ⟨[ae 1 n8 x.inp,ae 1 n8 x.state]⟩
theorem nL(l:List Nat):aq (ae 1 n8 l):=cg λ_=>ag.cons (aq.flat rfl) ag.nil
theorem yF(x:Pat):ag (cl (aE x)):=ag.cons (nL _) (ag.cons (nL _) ag.nil)
theorem Gm(x:Pat):aq (aE x):=aq.agg (yF x)
structure Rsp where
 out:List Nat
 next:List Nat
def jD(x:Rsp):Value:=.agg ⟨[ae 1 n8 x.out,ae 1 n8 x.next]⟩
theorem Es(x:Rsp):ag (cl (jD x)):=ag.cons (nL _) (ag.cons (nL _) ag.nil)
theorem si(x:Rsp):aq (jD x):=aq.agg (Es x)
structure SRun where
 circ:Circ
 nets:List Nat
def GY(x:SRun):Value:=.agg ⟨[FL 4 (x.circ.nodes.map au),FL 1 (x.circ.names.map .string),FL 3 (x.circ.mems.map bc),FL 1 (x.circ.outs.map i64),ae 1 n8 x.nets]⟩
structure LnZ where
 node:Nat
 pin:Int
deriving DecidableEq
def av(x:LnZ):Value:=.agg ⟨[i64 x.node,z64 x.pin]⟩
theorem pC(x:LnZ):ag (cl (av x)):=ag.cons (aq.flat rfl) (ag.cons (aq.flat rfl) ag.nil)
structure Flt where
 model:Nat
 line:LnZ
 value:Nat
 other:Nat
deriving DecidableEq
def ay(x:Flt):Value:=.agg ⟨[n8 x.model,i64 x.line.node,z64 x.line.pin,n8 x.value,i64 x.other]⟩
theorem pN(x:Flt):ag (cl (ay x)):=ag.cons (aq.flat rfl) (ag.cons (aq.flat rfl) (ag.cons (aq.flat rfl) (ag.cons (aq.flat rfl) (ag.cons (aq.flat rfl) ag.nil))))
theorem FZ(x:Flt):aq (ay x):=aq.agg (pN x)
structure LnI where
 node:Int
 pin:Int
deriving DecidableEq
structure FData where
 model:Nat
 node:Nat
 pin:Nat
 other:Nat
 one:Bool
def Ln.toZ(x:Ln):LnZ:=⟨x.node,LQ x.pin⟩
theorem Fe(l:List Ln):ae 2 av (l.map Ln.toZ)=ae 2 cI l:=by
 unfold ae;rw[NT];rfl
theorem CE(l:List (List Ln)):ae 1 (ae 2 av) (l.map (Sn Ln.toZ))=ae 1 (ae 2 cI) l:=by
 show FL 1 _=FL 1 _
 rw[NT];congr 1;exact Og λx _=>Fe x
def Ee(c:Circ):List (List LnZ):=(pX c).map (Sn Ln.toZ)
def kN(c:Circ)(K:List (List LnZ)->Prop):Prop:=xY c/\K (Ee c)
theorem om{c:Circ}{K:List (List LnZ)->Prop}(hm:kN c K){h0:Heap}(hB:aH vars h0):∃r,K r/\al Tryz.prog NG 135 ⟨[az c]⟩ h0 ((ae 1 (ae 2 av)) r) h0:=by
 obtain⟨r,k,h⟩:=kn (K:=λr=>K (r.map (Sn Ln.toZ))) hm hB;refine⟨_,k,?_⟩;rw[CE];exact h
def rT:Sh:=.int .u64
theorem Kv{a:Int}(w:rT.wf a):∃n:Nat,n<2^64/\a=LQ n:=by
 have h:(Lit.int .u64 a).wf=true:=w;simp[Lit.wf,IntKind.min,IntKind.max,IntKind.signed,IntKind.bits] at h;exact⟨a.toNat,by omega,by simp;omega⟩
structure FB (z:FData):Prop where
 model:z.model<256
 node:z.node<256
 pin:z.pin<256
 other:z.other<256
set_option maxHeartbeats 8000000
def cN(p0:CData)(K:Circ->Prop):Prop :=
 kr (⟨p0.inp,p0.dffs,p0.data0,p0.data1,p0.bus,false,p0.port0,p0.port1,p0.port2,p0.port3,p0.gates,p0.outs⟩:CData) (λr5=>K r5)
theorem kU{p0:CData}{K:Circ->Prop}(hm:cN p0 K){h0:Heap}(hB:aH vars h0):∃r,K r/\al Tryz.prog NG 14 ⟨[Ac p0]⟩ h0 (az r) h0:=by
 unfold cN at hm
 refine fw Tryz.func14 hB (enc:=az) (λr=>mZ _) λO=>?_;conv=>whnf
 refine gX ?_;refine O.new (sh rfl) λg1 h O=>?_;refine gH ?_;refine O.new (aj (l:=[(.slice none 0 0),(.slice none 0 0),(.slice none 0 0),(.slice none 0 0)]) rfl rfl rfl) λg3 h O=>?_;refine gH ?_;refine gX ?_;refine O.stC 1 (.tail _ (.head _)) [(n8 p0.inp),(n8 p0.dffs),(n8 p0.data0),(n8 p0.data1),(.bool p0.bus),(.bool false),(n8 p0.port0),(n8 p0.port1),(n8 p0.port2),(n8 p0.port3),((ae 4 BN) p0.gates),((ae 1 n8) p0.outs)] λh O=>?_;refine gX ?_;refine ldA O.i1 ?_;refine gH ?_;refine ca (xH hm O.has) λr5 hm=>?_;refine gH ?_;refine O.stC 4 (.head _) [((ae 4 au) r5.nodes),((ae 1 L5) r5.names),((ae 3 bc) r5.mems),((ae 1 i64) r5.outs)] λh O=>?_;refine gX ?_
 refine⟨_,aI rfl rfl O.i0 rfl rfl (lbE rfl) rfl,?_⟩;conv=>whnf
 exact fe hm O
def dg(p0:CData)(K:Circ->Prop):Prop :=
 cN (⟨p0.inp,p0.dffs,p0.data0,p0.data1,false,p0.mem,p0.port0,p0.port1,p0.port2,p0.port3,p0.gates,p0.outs⟩:CData) (λr5=>K r5)
theorem lP{p0:CData}{K:Circ->Prop}(hm:dg p0 K){h0:Heap}(hB:aH vars h0):∃r,K r/\al Tryz.prog NG 5 ⟨[Ac p0]⟩ h0 (az r) h0:=by
 unfold dg at hm
 refine fw Tryz.func5 hB (enc:=az) (λr=>mZ _) λO=>?_;conv=>whnf
 refine gX ?_;refine O.new (sh rfl) λg1 h O=>?_;refine gH ?_;refine O.new (aj (l:=[(.slice none 0 0),(.slice none 0 0),(.slice none 0 0),(.slice none 0 0)]) rfl rfl rfl) λg3 h O=>?_;refine gH ?_;refine gX ?_;refine O.stC 1 (.tail _ (.head _)) [(n8 p0.inp),(n8 p0.dffs),(n8 p0.data0),(n8 p0.data1),(.bool false),(.bool p0.mem),(n8 p0.port0),(n8 p0.port1),(n8 p0.port2),(n8 p0.port3),((ae 4 BN) p0.gates),((ae 1 n8) p0.outs)] λh O=>?_;refine gX ?_;refine ldA O.i1 ?_;refine gH ?_;refine ca (kU hm O.has) λr5 hm=>?_;refine gH ?_;refine O.stC 4 (.head _) [((ae 4 au) r5.nodes),((ae 1 L5) r5.names),((ae 3 bc) r5.mems),((ae 1 i64) r5.outs)] λh O=>?_;refine gX ?_
 refine⟨_,aI rfl rfl O.i0 rfl rfl (lbE rfl) rfl,?_⟩;conv=>whnf
 exact fe hm O
def bV(p0:Circ)(K:(List Nat)->Prop):Prop :=
 cz p0 ([0]:(List Nat)) (λr1=>K r1)
theorem dV{p0:Circ}{K:(List Nat)->Prop}(hm:bV p0 K){h0:Heap}(hB:aH vars h0):∃r,K r/\al Tryz.prog NG 56 ⟨[az p0]⟩ h0 ((ae 1 i64) r) h0:=by
 unfold bV at hm
 refine fw Tryz.func56 hB (enc:=(ae 1 i64)) (λr=>cg (λ_=>ag.cons (aq.flat rfl) ag.nil)) λO=>?_;conv=>whnf
 refine gX ?_;refine fz ?_;refine gX ?_;refine fz ?_;refine gH ?_;refine ca (eV hm O.has) λr1 hm=>?_;refine gX ?_;exact fe hm O
def bA(p0:Circ)(K:(List Nat)->Prop):Prop :=
 cz p0 ([14]:(List Nat)) (λr1=>K r1)
theorem cu{p0:Circ}{K:(List Nat)->Prop}(hm:bA p0 K){h0:Heap}(hB:aH vars h0):∃r,K r/\al Tryz.prog NG 28 ⟨[az p0]⟩ h0 ((ae 1 i64) r) h0:=by
 unfold bA at hm
 refine fw Tryz.func28 hB (enc:=(ae 1 i64)) (λr=>cg (λ_=>ag.cons (aq.flat rfl) ag.nil)) λO=>?_;conv=>whnf
 refine gX ?_;refine fz ?_;refine gX ?_;refine fz ?_;refine gH ?_;refine ca (eV hm O.has) λr1 hm=>?_;refine gX ?_;exact fe hm O
def gO(p0:(List Nat))(K:Int->Prop):Prop :=
 aw (α:=Unit) (λk1=>aF (S:=Nat) (λv2 nx3=>((ltN v2 p0.length)=true->∃x4,p0[v2]?=some x4/\((ltN 3 x4)=true->K (LQ v2))/\((ltN 3 x4)=false->v2+1<2^63/\nx3 (v2+1)))/\((ltN v2 p0.length)=false->k1 ())) 0) (λ_=>K (Mj 0))
theorem qC{p0:(List Nat)}{K:Int->Prop}(hm:gO p0 K){h0:Heap}(hB:aH vars h0):∃r,K r/\al Tryz.prog NG 124 ⟨[(ae 1 n8) p0,(.func (.func 125) ⟨[]⟩ ⟨[]⟩)]⟩ h0 (z64 r) h0:=by
 unfold gO at hm
 refine fw Tryz.func124 hB (enc:=z64) (λr=>aq.flat rfl) λO=>?_;conv=>whnf
 apply Cs;conv=>whnf
 apply Cs;refine gH ?_;refine jn hm 19 [] (λs=>s) (λ_ h=>Own vars h0 [] h) (λ_=>[]) (λhm=>?_) ?_
 .refine gX ?_;refine lw 19 [0,1,7] (σ:=Nat) (λs=>s) (λv2 h=>Own vars h0 [] h) (λv2=>[(8,(i64 v2))]) 0 hm O ?_;clear hm;rintro v2 nx3 base h hm O;refine gX ?_;refine br hm (λhm=>?_) λhm=>?_
  .refine gX ?_;refine atF hm λx4 hx4 hm=>?_;refine gH ?_;refine fg Tryz.func125 ?_;refine gX ?_;refine br hm (λhm=>?_) λhm=>?_
   .refine gX ?_;exact fe hm O
   .refine gX ?_;refine aJ hm λhm=>?_;refine gH ?_;exact jx (v2+1) hm O
  .refine gX ?_;exact jx () hm O
 .clear hm;rintro _ base h hm O;refine gX ?_;exact fe hm O
def dO(p0:(List Nat))(K:Bool->Prop):Prop :=
 gO p0 (λr1=>K (!ltI r1 (LQ 0)))
theorem lT{p0:(List Nat)}{K:Bool->Prop}(hm:dO p0 K){h0:Heap}(hB:aH vars h0):∃r,K r/\al Tryz.prog NG 78 ⟨[(ae 1 n8) p0,(.func (.func 125) ⟨[]⟩ ⟨[]⟩)]⟩ h0 (L0 r) h0:=by
 unfold dO at hm
 refine fw Tryz.func78 hB (enc:=L0) (λr=>aq.flat rfl) λO=>?_;conv=>whnf
 refine gX ?_;refine ca (qC hm O.has) λr1 hm=>?_;refine gX ?_;exact fe hm O
def hZ(p0:SRun)(p1:Nat)(K:Nat->Prop):Prop :=
 aw (α:=Bool) (λk2=>((ltN p1 0)=true->k2 true)/\((ltN p1 0)=false->k2 (!ltN p1 p0.nets.length))) (λv1=>(v1=true->K 2)/\(v1=false->∃x3,p0.nets[p1]?=some x3/\gI x3 (λr4=>K r4)))
theorem pw{p0:SRun}{p1:Nat}{K:Nat->Prop}(hm:hZ p0 p1 K){h0:Heap}(hB:aH vars h0):∃r,K r/\al Tryz.prog NG 133 ⟨[GY p0,i64 p1]⟩ h0 (n8 r) h0:=by
 unfold hZ at hm
 refine fw Tryz.func133 hB (enc:=n8) (λr=>aq.flat rfl) λO=>?_;conv=>whnf
 refine gX ?_;refine fz ?_;refine gH ?_
 apply Cs;conv=>whnf
 refine jn hm 20 [1,2] (λs=>s) (λv1 h=>Own vars h0 [] h) (λv1=>[(13,(.bool v1))]) (λhm=>?_) ?_
 .refine gX ?_;refine br hm (λhm=>?_) λhm=>?_
  .refine gX ?_;exact jx true hm O
  .refine gX ?_;exact jx (!ltN p1 p0.nets.length) hm O
 .clear hm;rintro v1 base h hm O;refine gX ?_;refine br hm (λhm=>?_) λhm=>?_
  .refine gX ?_;exact fe hm O
  .refine gX ?_;refine atF hm λx3 hx3 hm=>?_;refine gH ?_;refine ca (tM hm O.has) λr4 hm=>?_;refine gX ?_;exact fe hm O
def gu(p0:SRun)(K:Rsp->Prop):Prop :=
 aw (α:=(List Nat)) (λk12=>aF (S:=((List Nat)×Nat)) (λ(v14,v15) nx17=>((ltN v15 p0.circ.outs.length)=true->∃x18,p0.circ.outs[v15]?=some x18/\hZ p0 x18 (λr19=>(v14.length+([r19]:(List Nat)).length)*1<=2^47/\v15+1<2^63/\nx17 ((v14++([r19]:(List Nat))),(v15+1))))/\((ltN v15 p0.circ.outs.length)=false->k12 v14)) (([]:List Nat),0)) (λv10=>aw (α:=(List Nat)) (λk28=>bA p0.circ (λr29=>aF (S:=((List Nat)×Nat)) (λ(v31,v32) nx35=>((ltN v32 r29.length)=true->∃x36,r29[v32]?=some x36/\aw (α:=Nat) (λk40=>∃x41,p0.circ.nodes[x36]?=some x41/\((eqN x41.ins.length 1)=true->∃x42,x41.ins[0]?=some x42/\hZ p0 x42 (λr43=>db r43 (λr44=>k40 r44)))/\((eqN x41.ins.length 1)=false->k40 2)) (λv37=>(v31.length+([v37]:(List Nat)).length)*1<=2^47/\v32+1<2^63/\nx35 ((v31++([v37]:(List Nat))),(v32+1))))/\((ltN v32 r29.length)=false->k28 v31)) (([]:List Nat),0))) (λv25=>K (⟨v10,v25⟩:Rsp)))
theorem ta{p0:SRun}{K:Rsp->Prop}(hm:gu p0 K){h0:Heap}(hB:aH vars h0):∃r,K r/\al Tryz.prog NG 83 ⟨[GY p0]⟩ h0 (jD r) h0:=by
 unfold gu at hm
 refine fw Tryz.func83 hB (enc:=jD) (λr=>si _) λO=>?_;conv=>whnf
 refine gX ?_;refine fz ?_;refine gH ?_;have O:=O.aZ (.cells (ah ((([]:List Nat)).map n8)) false);have O:=O.aZ (.cells (ah ((([]:List Nat)).map n8)) false);refine O.new (aj (l:=[nS,nS]) rfl rfl rfl) λg1 h O=>?_;refine gH ?_;refine gX ?_;have O:=O.aZ (.cells (ah ((([]:List Nat)).map n8)) false);have O:=O.aZ (.cells (ah ((([]:List Nat)).map n8)) false);refine O.new (aj (l:=[nS,nS]) rfl rfl rfl) λg5 h O=>?_;refine gH ?_;refine jn (σ:=(List Nat)×Option Nat) hm 65 [1,2,3] (λs=>s.1) (λ(v10,a9) h=>(a9=none->v10=[])/\Own vars h0 [(sC g1 [(ak 1 none (([]:List Nat).map n8)),(ak 1 none (([]:List Nat).map n8))]),(sM none n8 ([]:List Nat)),(sM none n8 ([]:List Nat)),(sC g5 [(ak 1 a9 (v10.map n8)),(ak 1 none (([]:List Nat).map n8))]),(sM a9 n8 v10),(sM none n8 ([]:List Nat))] h) (λ(v10,a9)=>[]) (λhm=>?_) ?_
 .refine gX ?_;refine lw 65 [1,2,3,12,13] (σ:=((List Nat)×Nat)×Option Nat) (λs=>s.1) (λ((v14,v15),a13) h=>(a13=none->v14=[])/\Own vars h0 [(sC g1 [(ak 1 none (([]:List Nat).map n8)),(ak 1 none (([]:List Nat).map n8))]),(sM none n8 ([]:List Nat)),(sM none n8 ([]:List Nat)),(sC g5 [(ak 1 a13 (v14.map n8)),(ak 1 none (([]:List Nat).map n8))]),(sM a13 n8 v14),(sM none n8 ([]:List Nat))] h) (λ((v14,v15),a13)=>[(14,(i64 v15))]) ((([]:List Nat),0),none) hm ⟨(λ_=>rfl),(O.sel [3,5,4,0,2,1] (by decide))⟩ ?_;clear hm;rintro⟨⟨v14,v15⟩,a13⟩ nx17 base h hm ⟨ha16,O⟩;refine gX ?_;refine br hm (λhm=>?_) λhm=>?_
  .refine gX ?_;refine atF hm λx18 hx18 hm=>?_;refine gX ?_;refine ldO O.i3 ?_;refine gH ?_
   first|refine⟨.inr (.inr (bw rfl O.i3 rfl rfl)),?_⟩|refine⟨.inr (.inl (by kernel_rfl)),?_⟩
   refine gX ?_;refine dF ?_;refine gX ?_;refine ca (pw hm O.has) λr19 hm=>?_;refine gH ?_;refine⟨.inl (Ext.refl _),?_⟩;refine gH ?_;refine O.eA (l:=([r19]:(List Nat))) (enc:=n8) (s:=1) (z:=(n8 0)) rfl rfl (by kernel_rfl) (by kernel_rfl) rfl rfl rfl rfl (λ_=>rfl) λg20 h O=>?_;refine gH ?_;refine O.fb (enc:=n8) (l:=v14) (new:=([r19]:(List Nat))) (s:=1) (b:=1) (.tail _ (.tail _ (.tail _ (.tail _ (.tail _ (.head _)))))) ha16 rfl rfl rfl rfl rfl rfl rfl rfl (YOk.own O.i0 rfl (λ_=>rfl) rfl) (λ_=>rfl) (λ_=>rfl) (by decide) hm.1 λa22 h ha23 O=>?_;refine gH ?_;replace hm:=hm.2;refine O.stC 1 (.tail _ (.tail _ (.tail _ (.tail _ (.head _))))) [(ak 1 a22 ((v14++([r19]:(List Nat))).map n8)),(ak 1 none (([]:List Nat).map n8))] λh O=>?_;refine gH ?_;refine gX ?_;refine aJ hm λhm=>?_;refine gH ?_;exact jx (((v14++([r19]:(List Nat))),(v15+1)),a22) hm ⟨ha23,(O.sel [1,2,3,4,5,6] (by decide))⟩
  .refine gX ?_;exact jx (v14,a13) hm ⟨ha16,O⟩
 .clear hm;rintro⟨v10,a9⟩ base h hm ⟨ha11,O⟩
  conv=>whnf
  refine jn (σ:=(List Nat)×Option Nat) hm 65 [2,3] (λs=>s.1) (λ(v25,a24) h=>(a9=none->v10=[])/\(a24=none->v25=[])/\Own vars h0 [(sC g1 [(ak 1 none (([]:List Nat).map n8)),(ak 1 none (([]:List Nat).map n8))]),(sM none n8 ([]:List Nat)),(sM none n8 ([]:List Nat)),(sC g5 [(ak 1 a9 (v10.map n8)),(ak 1 a24 (v25.map n8))]),(sM a9 n8 v10),(sM a24 n8 v25)] h) (λ(v25,a24)=>[]) (λhm=>?_) ?_
  .refine gX ?_;refine ca (cu hm O.has) λr29 hm=>?_;refine gX ?_;refine lw 65 [1,2,3,29,30] (σ:=((List Nat)×Nat)×Option Nat) (λs=>s.1) (λ((v31,v32),a30) h=>(a9=none->v10=[])/\(a30=none->v31=[])/\Own vars h0 [(sC g1 [(ak 1 none (([]:List Nat).map n8)),(ak 1 none (([]:List Nat).map n8))]),(sM none n8 ([]:List Nat)),(sM none n8 ([]:List Nat)),(sC g5 [(ak 1 a9 (v10.map n8)),(ak 1 a30 (v31.map n8))]),(sM a9 n8 v10),(sM a30 n8 v31)] h) (λ((v31,v32),a30)=>[(31,(i64 v32))]) ((([]:List Nat),0),none) hm ⟨ha11,(λ_=>rfl),O⟩ ?_;clear hm;rintro⟨⟨v31,v32⟩,a30⟩ nx35 base h hm ⟨ha33,ha34,O⟩;refine gX ?_;refine br hm (λhm=>?_) λhm=>?_
   .refine gX ?_;refine atF hm λx36 hx36 hm=>?_;refine gH ?_
    apply Cs;conv=>whnf
    apply Cs;refine gH ?_;refine jn hm 65 [1,2,3,29,30,31] (λs=>s) (λv37 h=>(a9=none->v10=[])/\(a30=none->v31=[])/\Own vars h0 [(sC g1 [(ak 1 none (([]:List Nat).map n8)),(ak 1 none (([]:List Nat).map n8))]),(sM none n8 ([]:List Nat)),(sM none n8 ([]:List Nat)),(sC g5 [(ak 1 a9 (v10.map n8)),(ak 1 a30 (v31.map n8))]),(sM a9 n8 v10),(sM a30 n8 v31)] h) (λv37=>[(8,(n8 v37))]) (λhm=>?_) ?_
    .refine gX ?_;refine atF hm λx41 hx41 hm=>?_;refine gX ?_;refine br hm (λhm=>?_) λhm=>?_
     .refine gX ?_;refine dF ?_;refine gX ?_;refine atF hm λx42 hx42 hm=>?_;refine gH ?_;refine ca (pw hm O.has) λr43 hm=>?_;refine gH ?_;refine⟨.inl (Ext.refl _),?_⟩;refine gH ?_;refine ca (fC hm O.has) λr44 hm=>?_;refine gH ?_;refine⟨.inl (Ext.refl _),?_⟩;refine gH ?_;exact jx r44 hm ⟨ha33,ha34,O⟩
     .refine gX ?_;exact jx 2 hm ⟨ha33,ha34,O⟩
    .clear hm;rintro v37 base h hm ⟨ha38,ha39,O⟩;refine gX ?_;refine ldO O.i3 ?_;refine gH ?_;refine fz ?_;refine gH ?_;refine O.apL (enc:=n8) (l:=v31) (new:=([v37]:(List Nat))) 1 (.tail _ (.tail _ (.tail _ (.tail _ (.tail _ (.head _)))))) ha39 hm λa45 h ha46 O hm=>?_;refine gH ?_;refine O.stC 1 (.tail _ (.tail _ (.tail _ (.head _)))) [(ak 1 a9 (v10.map n8)),(ak 1 a45 ((v31++([v37]:(List Nat))).map n8))] λh O=>?_;refine gX ?_;refine aJ hm λhm=>?_;refine gH ?_;exact jx (((v31++([v37]:(List Nat))),(v32+1)),a45) hm ⟨ha38,ha46,O⟩
   .refine gX ?_;exact jx (v31,a30) hm ⟨ha33,ha34,O⟩
  .clear hm;rintro⟨v25,a24⟩ base h hm ⟨ha26,ha27,O⟩;refine gX ?_;refine ldO O.i3 ?_;refine gH ?_
   first|refine⟨.inr (.inr (bw rfl O.i3 rfl rfl)),?_⟩|refine⟨.inr (.inl (by kernel_rfl)),?_⟩
   refine gX ?_;refine fg Tryz.func134 ?_;refine gX ?_;refine so (s:=1) (enc:=n8) (l:=v10) (n:=v10.length) (m:=v10.length) rfl rfl rfl rfl rfl rfl rfl ?_;refine gX ?_;refine⟨.inl (Ext.refl _),?_⟩;refine gH ?_;refine ldO O.i3 ?_;refine gH ?_
   first|refine⟨.inr (.inr (bw rfl O.i3 rfl rfl)),?_⟩|refine⟨.inr (.inl (by kernel_rfl)),?_⟩
   refine gX ?_;refine fg Tryz.func134 ?_;refine gX ?_;refine so (s:=1) (enc:=n8) (l:=v25) (n:=v25.length) (m:=v25.length) rfl rfl rfl rfl rfl rfl rfl ?_;refine gX ?_;refine⟨.inl (Ext.refl _),?_⟩;refine gH ?_;refine O.stC 2 (.head _) [(ib a9 (v10.map n8)),(ib a24 (v25.map n8))] λh O=>?_;refine gH ?_;refine gX ?_
   refine⟨_,aI rfl rfl O.i0 rfl rfl (lbE rfl) rfl,?_⟩;conv=>whnf
   exact⟨(⟨v10,v25⟩:Rsp),hm,O.ext,λh2 F=>VLe.agg (LLe.cons (O.rn F (LV _) (.tail _ (.tail _ (.tail _ (.tail _ (.head _))))) ha26 (λ_=>rfl)) (LLe.cons (O.rn F (LV _) (.tail _ (.tail _ (.tail _ (.tail _ (.tail _ (.head _)))))) ha27 (λ_=>rfl)) (LLe.nil _)))⟩
def gJ(p0:Circ)(p1:Pat)(K:Nat->Prop):Prop :=
 aw (α:=Bool) (λk2=>((ltN 0 p0.mems.length)=true->k2 true)/\((ltN 0 p0.mems.length)=false->cz p0 ([15]:(List Nat)) (λr3=>k2 (ltN 0 r3.length)))) (λv1=>(v1=true->K 7)/\(v1=false->aw (α:=Bool) (λk5=>bV p0 (λr6=>((neN p1.inp.length r6.length)=true->k5 true)/\((neN p1.inp.length r6.length)=false->bA p0 (λr7=>k5 (neN p1.state.length r7.length))))) (λv4=>(v4=true->K 8)/\(v4=false->aw (α:=Bool) (λk9=>dO p1.inp (λr10=>(r10=true->k9 true)/\(r10=false->dO p1.state (λr11=>k9 r11)))) (λv8=>(v8=true->K 1)/\(v8=false->K 0))))))
theorem pk{p0:Circ}{p1:Pat}{K:Nat->Prop}(hm:gJ p0 p1 K){h0:Heap}(hB:aH vars h0):∃r,K r/\al Tryz.prog NG 79 ⟨[az p0,aE p1]⟩ h0 (i64 r) h0:=by
 unfold gJ at hm
 refine fw Tryz.func79 hB (enc:=i64) (λr=>aq.flat rfl) λO=>?_;conv=>whnf
 refine gX ?_;refine fz ?_;refine gH ?_;refine fz ?_;refine gH ?_
 apply Cs;conv=>whnf
 apply Cs;conv=>whnf
 refine jn hm 43 [2,3] (λs=>s) (λv1 h=>Own vars h0 [] h) (λv1=>[(5,(.bool v1))]) (λhm=>?_) ?_
 .refine gX ?_;refine br hm (λhm=>?_) λhm=>?_
  .refine gX ?_;exact jx true hm O
  .refine gX ?_;refine fz ?_;refine gH ?_;refine ca (eV hm O.has) λr3 hm=>?_;refine gH ?_;exact jx (ltN 0 r3.length) hm O
 .clear hm;rintro v1 base h hm O;refine gX ?_;refine br hm (λhm=>?_) λhm=>?_
  .refine gX ?_;exact fe hm O
  .refine jn hm 43 [3] (λs=>s) (λv4 h=>Own vars h0 [] h) (λv4=>[(17,(.bool v4))]) (λhm=>?_) ?_
   .refine gX ?_;refine dF ?_;refine gX ?_;refine dF ?_;refine gX ?_;refine ca (dV hm O.has) λr6 hm=>?_;refine gH ?_;refine⟨.inl (Ext.refl _),?_⟩;refine gH ?_;refine br hm (λhm=>?_) λhm=>?_
    .refine gX ?_;exact jx true hm O
    .refine gX ?_;refine dF ?_;refine gX ?_;refine dF ?_;refine gX ?_;refine ca (cu hm O.has) λr7 hm=>?_;refine gH ?_;refine⟨.inl (Ext.refl _),?_⟩;refine gH ?_;exact jx (neN p1.state.length r7.length) hm O
   .clear hm;rintro v4 base h hm O;refine gX ?_;refine br hm (λhm=>?_) λhm=>?_
    .refine gX ?_;exact fe hm O
    .refine jn hm 43 [] (λs=>s) (λv8 h=>Own vars h0 [] h) (λv8=>[(34,(.bool v8))]) (λhm=>?_) ?_
     .refine gX ?_;refine ca (lT hm O.has) λr10 hm=>?_;refine gH ?_;refine br hm (λhm=>?_) λhm=>?_
      .refine gX ?_;exact jx true hm O
      .refine gX ?_;refine ca (lT hm O.has) λr11 hm=>?_;refine gH ?_;exact jx r11 hm O
     .clear hm;rintro v8 base h hm O;refine gX ?_;refine br hm (λhm=>?_) λhm=>?_
      .refine gX ?_;exact fe hm O
      .refine gX ?_;exact fe hm O
def dw(p0:Circ)(p1:Pat)(K:(Rsp×(List Nat)×Nat)->Prop):Prop :=
 bz p0 (λr5=>aw (α:=Nat) (λk7=>((eqN r5.2 0)=true->gJ p0 p1 (λr8=>k7 r8))/\((eqN r5.2 0)=false->k7 r5.2)) (λv6=>((neN v6 0)=true->K ((⟨[],[]⟩:Rsp),[],v6))/\((neN v6 0)=false->1*p0.nodes.length<=2^48/\p0.nodes.length<2^63/\aw (α:=(List Nat)) (λk21=>bV p0 (λr22=>aF (S:=((List Nat)×Nat)) (λ(v23,v24) nx25=>((ltN v24 r22.length)=true->∃x26,r22[v24]?=some x26/\∃x27,p1.inp[v24]?=some x27/\x26<p0.nodes.length/\∃x28,v23[x26]?=some x28/\v24+1<2^63/\nx25 ((v23.set x26 x27),(v24+1)))/\((ltN v24 r22.length)=false->k21 v23)) ((LY p0.nodes.length (0:Nat)),0))) (λv20=>bA p0 (λr29=>aF (S:=((List Nat)×Nat)) (λ(v30,v31) nx32=>((ltN v31 r29.length)=true->∃x33,r29[v31]?=some x33/\∃x34,p1.state[v31]?=some x34/\x33<p0.nodes.length/\∃x35,v30[x33]?=some x35/\v31+1<2^63/\nx32 ((v30.set x33 x34),(v31+1)))/\((ltN v31 r29.length)=false->aw (α:=(List Nat)) (λk39=>aF (S:=((List Nat)×(List Nat)×Nat×Nat)) (λ(v40,v41,v42,v43) nx44=>((ltN v43 r5.1.length)=true->aw (α:=((List Nat)×(List Nat)×Nat)) (λk48=>∃x49,r5.1[v43]?=some x49/\∃x50,p0.nodes[x49]?=some x50/\cX x50.kind (λr54=>((!r54)=true->k48 (v40,v41,v42))/\((!r54)=false->0<=16/\aw (α:=((List Nat)×Nat)) (λk57=>aF (S:=((List Nat)×Nat×Nat)) (λ(v58,v59,v60) nx61=>((ltN v60 x50.ins.length)=true->∃x62,x50.ins[v60]?=some x62/\x62<p0.nodes.length/\∃x63,v40[x62]?=some x63/\(v59+1)<=16/\(v59+1)<=v58.length/\v60+1<2^63/\nx61 ((v58.take v59++(([x63]:(List Nat))++v58.drop (v59+1))),(v59+1),(v60+1)))/\((ltN v60 x50.ins.length)=false->k57 (v58,v59))) (v41,0,0)) (λ(v55,v56)=>v56<=v55.length/\bL x50.kind (v55.take v56) (λr64=>x49<p0.nodes.length/\∃x66,v40[x49]?=some x66/\k48 ((v40.set x49 r64),v55,v56)))))) (λ(v45,v46,v47)=>v43+1<2^63/\nx44 (v45,v46,v47,(v43+1))))/\((ltN v43 r5.1.length)=false->k39 v40)) (v30,(LY 16 (0:Nat)),0,0)) (λv38=>p0.nodes.length=v38.length/\gu (⟨p0,v38⟩:SRun) (λr68=>K (r68,v38,0))))) (v20,0))))))
theorem kf{p0:Circ}{p1:Pat}{K:(Rsp×(List Nat)×Nat)->Prop}(hm:dw p0 p1 K){h0:Heap}(hB:aH vars h0):∃r,K r/\al Tryz.prog NG 35 ⟨[az p0,aE p1]⟩ h0 ((λ(r:(Rsp×(List Nat)×Nat))=>MD ⟨[jD (r.1),(ae 1 n8) (r.2.1),i64 (r.2.2)]⟩) r) h0:=by
 unfold dw at hm
 refine fw Tryz.func35 hB (enc:=(λ(r:(Rsp×(List Nat)×Nat))=>MD ⟨[jD (r.1),(ae 1 n8) (r.2.1),i64 (r.2.2)]⟩)) (λr=>aq.tup (ag.cons (si _) (ag.cons (cg (λ_=>ag.cons (aq.flat rfl) ag.nil)) (ag.cons (aq.flat rfl) (ag.nil))))) λO=>?_;conv=>whnf
 refine gX ?_;refine fz ?_;refine gH ?_;refine fz ?_;refine gH ?_;have O:=O.aZ (.cells (ah ((([]:List Nat)).map n8)) false);have O:=O.aZ (.cells (ah ((([]:List Nat)).map n8)) false);refine O.new (aj (l:=[nS,nS]) rfl rfl rfl) λg1 h O=>?_;refine gH ?_;refine gX ?_;refine ca (eG hm O.has) λr5 hm=>?_;refine gH ?_;refine jn hm 87 [2,3,4,7] (λs=>s) (λv6 h=>Own vars h0 [(sC g1 [(ak 1 none (([]:List Nat).map n8)),(ak 1 none (([]:List Nat).map n8))]),(sM none n8 ([]:List Nat)),(sM none n8 ([]:List Nat))] h) (λv6=>[(8,(i64 v6))]) (λhm=>?_) ?_
 .refine gX ?_;refine br hm (λhm=>?_) λhm=>?_
  .refine gX ?_;refine ca (pk hm O.has) λr8 hm=>?_;refine gH ?_;exact jx r8 hm (O.sel [0,2,1] (by decide))
  .refine gX ?_;exact jx r5.2 hm (O.sel [0,2,1] (by decide))
 .clear hm;rintro v6 base h hm O;refine gX ?_;refine br hm (λhm=>?_) λhm=>?_
  .refine gX ?_;refine O.stC 2 (.head _) [nS,nS] λh O=>?_;refine gX ?_
   refine⟨_,aI rfl rfl O.i0 rfl rfl (lbE rfl) rfl,?_⟩;conv=>whnf
   exact⟨((⟨[],[]⟩:Rsp),[],v6),hm,O.ext,λh2 F=>VLe.tup (LLe.cons (VLe.agg (LLe.cons (VLe.nil _ _) (LLe.cons (VLe.nil _ _) (LLe.nil _)))) (LLe.cons (VLe.nil _ _) (LLe.cons (VLe.refl _ _) (LLe.nil _))))⟩
  .refine gX ?_;refine dF ?_;refine gX ?_;refine dF ?_;refine gX ?_;refine O.xa (enc:=n8) (z:=0) (b:=1) (s:=1) (n:=p0.nodes.length) rfl rfl rfl rfl rfl (by decide) (by kernel_rfl) rfl rfl hm.1 hm.2.1 λg9 h O=>?_;refine gH ?_;replace hm:=hm.2.2;have O:=O.aZ (.cells (ah ((([]:List Node)).map au)) false);have O:=O.aZ (.cells (ah ((([]:List ByteArray)).map L5)) false);have O:=O.aZ (.cells (ah ((([]:List Memo)).map bc)) false);have O:=O.aZ (.cells (ah ((([]:List Nat)).map i64)) false);have O:=O.aZ (.cells (ah ((([]:List Nat)).map n8)) false);refine O.oN (aj (l:=[nS,nS,nS,nS,nS]) rfl rfl rfl) λg11 h O=>?_;refine gH ?_;refine O.stC 5 (.head _) [((ae 4 au) p0.nodes),((ae 1 L5) p0.names),((ae 3 bc) p0.mems),((ae 1 i64) p0.outs),(.slice (some ⟨g9,0,none⟩) p0.nodes.length p0.nodes.length)] λh O=>?_;refine gH ?_;refine gX ?_;refine ldA O.i0 ?_;refine gH ?_;refine fg Tryz.func80 ?_;refine gX ?_;refine O.new (sh rfl) λg18 h O=>?_;refine gH ?_;refine fz ?_;refine gH ?_;refine jn hm 46 [2,3] (λs=>s) (λv20 h=>Own vars h0 [(sC g18 [((ae 4 au) p0.nodes),((ae 1 L5) p0.names),((ae 3 bc) p0.mems),((ae 1 i64) p0.outs),(.slice (some ⟨g9,0,none⟩) p0.nodes.length p0.nodes.length)]),(sG g9 n8 v20),(sC g1 [(ak 1 none (([]:List Nat).map n8)),(ak 1 none (([]:List Nat).map n8))]),(sM none n8 ([]:List Nat)),(sM none n8 ([]:List Nat)),(sC g11 [((ae 4 au) p0.nodes),((ae 1 L5) p0.names),((ae 3 bc) p0.mems),((ae 1 i64) p0.outs),(.slice (some ⟨g9,0,none⟩) p0.nodes.length p0.nodes.length)])] h) (λv20=>[]) (λhm=>?_) ?_
   .refine gX ?_;refine ldA O.i0 ?_;refine gH ?_;refine ca (dV hm O.has) λr22 hm=>?_;refine gX ?_;refine lw 46 [2,3,10,11] (σ:=((List Nat)×Nat)) (λs=>s) (λ(v23,v24) h=>Own vars h0 [(sC g18 [((ae 4 au) p0.nodes),((ae 1 L5) p0.names),((ae 3 bc) p0.mems),((ae 1 i64) p0.outs),(.slice (some ⟨g9,0,none⟩) p0.nodes.length p0.nodes.length)]),(sG g9 n8 v23),(sC g1 [(ak 1 none (([]:List Nat).map n8)),(ak 1 none (([]:List Nat).map n8))]),(sM none n8 ([]:List Nat)),(sM none n8 ([]:List Nat)),(sC g11 [((ae 4 au) p0.nodes),((ae 1 L5) p0.names),((ae 3 bc) p0.mems),((ae 1 i64) p0.outs),(.slice (some ⟨g9,0,none⟩) p0.nodes.length p0.nodes.length)])] h) (λ(v23,v24)=>[(12,(i64 v24))]) ((LY p0.nodes.length (0:Nat)),0) hm (O.sel [0,7,8,9,10,1] (by decide)) ?_;clear hm;rintro⟨v23,v24⟩ nx25 base h hm O;refine gX ?_;refine br hm (λhm=>?_) λhm=>?_
    .refine gX ?_;refine atF hm λx26 hx26 hm=>?_;refine gX ?_
     first|refine⟨.inr (.inr (bw rfl O.i0 rfl rfl)),?_⟩|refine⟨.inr (.inl (by kernel_rfl)),?_⟩
     refine gX ?_;refine dF ?_;refine gX ?_;refine atF hm λx27 hx27 hm=>?_;refine gH ?_;refine ix 1 hm λx28 hx28 hm=>?_;refine gH ?_;refine O.stE 1 (.tail _ (.head _)) hx28 x27 λh O=>?_;refine gH ?_;refine gX ?_;refine aJ hm λhm=>?_;refine gH ?_;exact jx ((v23.set x26 x27),(v24+1)) hm O
    .refine gX ?_;exact jx v23 hm O
   .clear hm;rintro v20 base h hm O;refine gX ?_;refine ldA O.i0 ?_;refine gH ?_;refine ca (cu hm O.has) λr29 hm=>?_;refine gX ?_;refine lw 46 [2,3,29,30] (σ:=((List Nat)×Nat)) (λs=>s) (λ(v30,v31) h=>Own vars h0 [(sC g18 [((ae 4 au) p0.nodes),((ae 1 L5) p0.names),((ae 3 bc) p0.mems),((ae 1 i64) p0.outs),(.slice (some ⟨g9,0,none⟩) p0.nodes.length p0.nodes.length)]),(sG g9 n8 v30),(sC g1 [(ak 1 none (([]:List Nat).map n8)),(ak 1 none (([]:List Nat).map n8))]),(sM none n8 ([]:List Nat)),(sM none n8 ([]:List Nat)),(sC g11 [((ae 4 au) p0.nodes),((ae 1 L5) p0.names),((ae 3 bc) p0.mems),((ae 1 i64) p0.outs),(.slice (some ⟨g9,0,none⟩) p0.nodes.length p0.nodes.length)])] h) (λ(v30,v31)=>[(31,(i64 v31))]) (v20,0) hm O ?_;clear hm;rintro⟨v30,v31⟩ nx32 base h hm O;refine gX ?_;refine br hm (λhm=>?_) λhm=>?_
    .refine gX ?_;refine atF hm λx33 hx33 hm=>?_;refine gX ?_
     first|refine⟨.inr (.inr (bw rfl O.i0 rfl rfl)),?_⟩|refine⟨.inr (.inl (by kernel_rfl)),?_⟩
     refine gX ?_;refine dF ?_;refine gX ?_;refine atF hm λx34 hx34 hm=>?_;refine gH ?_;refine ix 1 hm λx35 hx35 hm=>?_;refine gH ?_;refine O.stE 1 (.tail _ (.head _)) hx35 x34 λh O=>?_;refine gH ?_;refine gX ?_;refine aJ hm λhm=>?_;refine gH ?_;exact jx ((v30.set x33 x34),(v31+1)) hm O
    .refine gX ?_;refine O.KO (enc:=n8) (z:=0) (b:=1) (s:=1) (m:=0) (n:=16) rfl rfl rfl rfl rfl (by decide) (by kernel_rfl) rfl rfl (by decide) (by decide) (by decide) λg36 h O=>?_;refine gH ?_;refine jn hm 87 [4,9] (λs=>s) (λv38 h=>Own vars h0 [(sC g1 [(ak 1 none (([]:List Nat).map n8)),(ak 1 none (([]:List Nat).map n8))]),(sM none n8 ([]:List Nat)),(sM none n8 ([]:List Nat)),(sC g11 [((ae 4 au) p0.nodes),((ae 1 L5) p0.names),((ae 3 bc) p0.mems),((ae 1 i64) p0.outs),(.slice (some ⟨g9,0,none⟩) p0.nodes.length p0.nodes.length)]),(sG g9 n8 v38)] h) (λv38=>[]) (λhm=>?_) ?_
     .refine gX ?_;refine lw 87 [4,9,40,41] (σ:=((List Nat)×(List Nat)×Nat×Nat)) (λs=>s) (λ(v40,v41,v42,v43) h=>Own vars h0 [(sC g1 [(ak 1 none (([]:List Nat).map n8)),(ak 1 none (([]:List Nat).map n8))]),(sM none n8 ([]:List Nat)),(sM none n8 ([]:List Nat)),(sC g11 [((ae 4 au) p0.nodes),((ae 1 L5) p0.names),((ae 3 bc) p0.mems),((ae 1 i64) p0.outs),(.slice (some ⟨g9,0,none⟩) p0.nodes.length p0.nodes.length)]),(sG g9 n8 v40),(sG g36 n8 v41)] h) (λ(v40,v41,v42,v43)=>[(10,(.slice (some ⟨g36,0,none⟩) v42 16)),(42,(i64 v43))]) (v30,(LY 16 (0:Nat)),0,0) hm (O.sel [3,4,5,6,2,0] (by decide)) ?_;clear hm;rintro⟨v40,v41,v42,v43⟩ nx44 base h hm O;refine gX ?_;refine br hm (λhm=>?_) λhm=>?_
      .apply Cs;conv=>whnf
       refine jn hm 87 [4,9,40,41,42] (λs=>s) (λ(v45,v46,v47) h=>Own vars h0 [(sC g1 [(ak 1 none (([]:List Nat).map n8)),(ak 1 none (([]:List Nat).map n8))]),(sM none n8 ([]:List Nat)),(sM none n8 ([]:List Nat)),(sC g11 [((ae 4 au) p0.nodes),((ae 1 L5) p0.names),((ae 3 bc) p0.mems),((ae 1 i64) p0.outs),(.slice (some ⟨g9,0,none⟩) p0.nodes.length p0.nodes.length)]),(sG g9 n8 v45),(sG g36 n8 v46)] h) (λ(v45,v46,v47)=>[(10,(.slice (some ⟨g36,0,none⟩) v47 16))]) (λhm=>?_) ?_
       .refine gX ?_;refine atF hm λx49 hx49 hm=>?_;refine gX ?_;refine ldO O.i3 ?_;refine gH ?_;refine atF hm λx50 hx50 hm=>?_;refine gH ?_;have O:=O.aZ (.cells (ah ((([]:List Nat)).map i64)) false);refine O.new (aj (l:=[(n8 0),nS,(i64 0),(i64 0)]) rfl rfl rfl) λg51 h O=>?_;refine gH ?_;refine O.stC 4 (.head _) [(n8 x50.kind),((ae 1 i64) x50.ins),(i64 x50.mem),(i64 x50.bit)] λh O=>?_;refine gX ?_;refine ca (iE hm O.has) λr54 hm=>?_;refine gX ?_;refine br hm (λhm=>?_) λhm=>?_
        .refine gX ?_;exact jx (v40,v41,v42) hm (O.sel [2,3,4,5,6,7] (by decide))
        .refine gX ?_;refine Jp (s:=1) (m:=0) rfl rfl rfl rfl hm.1 ?_;refine gH ?_;replace hm:=hm.2;refine jn hm 87 [4,9,12,13,40,41,42] (λs=>s) (λ(v55,v56) h=>Own vars h0 [(sC g1 [(ak 1 none (([]:List Nat).map n8)),(ak 1 none (([]:List Nat).map n8))]),(sM none n8 ([]:List Nat)),(sM none n8 ([]:List Nat)),(sC g11 [((ae 4 au) p0.nodes),((ae 1 L5) p0.names),((ae 3 bc) p0.mems),((ae 1 i64) p0.outs),(.slice (some ⟨g9,0,none⟩) p0.nodes.length p0.nodes.length)]),(sG g9 n8 v40),(sG g36 n8 v55),(sC g51 [(n8 x50.kind),((ae 1 i64) x50.ins),(i64 x50.mem),(i64 x50.bit)])] h) (λ(v55,v56)=>[(10,(.slice (some ⟨g36,0,none⟩) v56 16))]) (λhm=>?_) ?_
         .refine gX ?_;refine lw 87 [4,9,12,13,40,41,42,59,60] (σ:=((List Nat)×Nat×Nat)) (λs=>s) (λ(v58,v59,v60) h=>Own vars h0 [(sC g1 [(ak 1 none (([]:List Nat).map n8)),(ak 1 none (([]:List Nat).map n8))]),(sM none n8 ([]:List Nat)),(sM none n8 ([]:List Nat)),(sC g11 [((ae 4 au) p0.nodes),((ae 1 L5) p0.names),((ae 3 bc) p0.mems),((ae 1 i64) p0.outs),(.slice (some ⟨g9,0,none⟩) p0.nodes.length p0.nodes.length)]),(sG g9 n8 v40),(sG g36 n8 v58),(sC g51 [(n8 x50.kind),((ae 1 i64) x50.ins),(i64 x50.mem),(i64 x50.bit)])] h) (λ(v58,v59,v60)=>[(10,(.slice (some ⟨g36,0,none⟩) v59 16)),(61,(i64 v60))]) (v41,0,0) hm (O.sel [2,3,4,5,6,7,0] (by decide)) ?_;clear hm;rintro⟨v58,v59,v60⟩ nx61 base h hm O;refine gX ?_;refine br hm (λhm=>?_) λhm=>?_
          .refine gX ?_;refine atF hm λx62 hx62 hm=>?_;refine gX ?_;refine ldO O.i3 ?_;refine gH ?_;refine ix 1 hm λx63 hx63 hm=>?_;refine gH ?_;refine ldE (s:=1) (i:=0) O.i4 hx63 ?_;refine gH ?_;refine fz ?_;refine gH ?_;refine O.I2 (enc:=n8) (l:=v58) (new:=([x63]:(List Nat))) (s:=1) (b:=1) (.tail _ (.tail _ (.tail _ (.tail _ (.tail _ (.head _)))))) rfl rfl rfl rfl rfl rfl rfl (YOk.fl rfl) (λ_=>rfl) (λ_=>rfl) (Nat.zero_lt_succ _) hm.1 hm.2.1 λh O=>?_;refine gX ?_;replace hm:=hm.2.2;refine aJ hm λhm=>?_;refine gH ?_;exact jx ((v58.take v59++(([x63]:(List Nat))++v58.drop (v59+1))),(v59+1),(v60+1)) hm O
          .refine gX ?_;exact jx (v58,v59) hm O
         .clear hm;rintro⟨v55,v56⟩ base h hm O;refine gX ?_;refine ldO O.i3 ?_;refine gH ?_
          first|refine⟨.inr (.inr (bw rfl O.i3 rfl rfl)),?_⟩|refine⟨.inr (.inl (by kernel_rfl)),?_⟩
          refine gX ?_;refine ldO O.i6 ?_;refine gH ?_;obtain⟨hn65,hm⟩:=hm;refine al.Ew (λ_ hb=>iC hm hb) (λ_=>ly rfl) sL O.has (λh2 F=>(LLe.cons (VLe.refl _ _) (LLe.cons (O.Lb F (L1 _) (.tail _ (.tail _ (.tail _ (.tail _ (.tail _ (.head _)))))) (λ_=>rfl) hn65) (LLe.nil _)))) (by kernel_rfl) (λr64 hm'=>?_);replace hm:=hm';refine gH ?_;refine⟨.inl (Ext.refl _),?_⟩;refine gH ?_;refine ix 1 hm λx66 hx66 hm=>?_;refine gH ?_;refine O.stE 1 (.tail _ (.tail _ (.tail _ (.tail _ (.head _))))) hx66 r64 λh O=>?_;refine gH ?_;exact jx ((v40.set x49 r64),v55,v56) hm (O.sel [0,1,2,3,4,5] (by decide))
       .clear hm;rintro⟨v45,v46,v47⟩ base h hm O;refine gX ?_;refine aJ hm λhm=>?_;refine gH ?_;exact jx (v45,v46,v47,(v43+1)) hm O
      .refine gX ?_;exact jx v40 hm (O.sel [0,1,2,3,4] (by decide))
     .clear hm;rintro v38 base h hm O
      conv=>whnf
      apply Cs;conv=>whnf
      obtain⟨hn67,hm⟩:=hm
      refine CodeS.HK (cs2':=[((ae 4 au) p0.nodes),((ae 1 L5) p0.names),((ae 3 bc) p0.mems),((ae 1 i64) p0.outs),((ae 1 n8) v38)]) (v:=(.agg ⟨[((ae 4 au) p0.nodes),((ae 1 L5) p0.names),((ae 3 bc) p0.mems),((ae 1 i64) p0.outs),((ae 1 n8) v38)]⟩)) O (.tail _ (.tail _ (.tail _ (.tail _ (.head _))))) (.tail _ (.tail _ (.tail _ (.head _)))) (j:=4) (t2:=9) rfl rfl rfl rfl (λh2 q=>(LLe.cons (VLe.refl _ _) (LLe.cons (VLe.refl _ _) (LLe.cons (VLe.refl _ _) (LLe.cons (VLe.refl _ _) (LLe.cons (VLe.flM q hn67 (λ_=>rfl)) (LLe.nil _))))))) λh O=>?_;conv=>whnf
      refine CodeS.mV ?_;refine gH ?_;refine ca (ta hm O.has) λr68 hm=>?_;refine gH ?_;refine O.stC 2 (.head _) [((ae 1 n8) r68.out),((ae 1 n8) r68.next)] λh O=>?_;refine gX ?_
      refine⟨_,aI rfl rfl O.i0 rfl rfl (lbE rfl) rfl,?_⟩;conv=>whnf
      exact⟨(r68,v38,0),hm,O.ext,λh2 F=>VLe.tup (LLe.cons (VLe.refl _ _) (LLe.cons (VLe.refl _ _) (LLe.cons (VLe.refl _ _) (LLe.nil _))))⟩
def ee(p0:Circ)(p1:Pat)(K:Nat->Prop):Prop :=
 dh p0 (λr1=>((neN r1 0)=true->K r1)/\((neN r1 0)=false->gJ p0 p1 (λr2=>K r2)))
theorem kD{p0:Circ}{p1:Pat}{K:Nat->Prop}(hm:ee p0 p1 K){h0:Heap}(hB:aH vars h0):∃r,K r/\al Tryz.prog NG 54 ⟨[az p0,aE p1]⟩ h0 (i64 r) h0:=by
 unfold ee at hm
 refine fw Tryz.func54 hB (enc:=i64) (λr=>aq.flat rfl) λO=>?_;conv=>whnf
 refine gX ?_;refine fz ?_;refine gH ?_;refine fz ?_;refine gX ?_;refine ca (kM hm O.has) λr1 hm=>?_;refine gX ?_;refine br hm (λhm=>?_) λhm=>?_
 .refine gX ?_;exact fe hm O
 .refine gX ?_;refine ca (pk hm O.has) λr2 hm=>?_;refine gX ?_;exact fe hm O
set_option maxHeartbeats 8000000
def dM(p0:Circ)(K:Nat->Prop):Prop :=
 dh p0 (λr1=>((neN r1 0)=true->K r1)/\((neN r1 0)=false->((ltN 0 p0.mems.length)=true->K 7)/\((ltN 0 p0.mems.length)=false->K 0)))
theorem lV{p0:Circ}{K:Nat->Prop}(hm:dM p0 K){h0:Heap}(hB:aH vars h0):∃r,K r/\al Tryz.prog NG 42 ⟨[az p0]⟩ h0 (i64 r) h0:=by
 unfold dM at hm
 refine fw Tryz.func42 hB (enc:=i64) (λr=>aq.flat rfl) λO=>?_;conv=>whnf
 refine gX ?_;refine fz ?_;refine gX ?_;refine ca (kM hm O.has) λr1 hm=>?_;refine gX ?_;refine br hm (λhm=>?_) λhm=>?_
 .refine gX ?_;exact fe hm O
 .refine gX ?_;refine br hm (λhm=>?_) λhm=>?_
  .refine gX ?_;exact fe hm O
  .refine gX ?_;exact fe hm O
def gf(p0:Circ)(p1:LnZ)(K:Bool->Prop):Prop :=
 ((!ltN p1.node 0)=true->((ltN p1.node p0.nodes.length)=true->((!ltI p1.pin (Mj 0))=true->∃x1,p0.nodes[p1.node]?=some x1/\K (ltI p1.pin (LQ x1.ins.length)))/\((!ltI p1.pin (Mj 0))=false->K false))/\((ltN p1.node p0.nodes.length)=false->K false))/\((!ltN p1.node 0)=false->K false)
theorem tc{p0:Circ}{p1:LnZ}{K:Bool->Prop}(hm:gf p0 p1 K){h0:Heap}(hB:aH vars h0):∃r,K r/\al Tryz.prog NG 74 ⟨[az p0,av p1]⟩ h0 (L0 r) h0:=by
 unfold gf at hm
 refine fw Tryz.func74 hB (enc:=L0) (λr=>aq.flat rfl) λO=>?_;conv=>whnf
 refine gX ?_;refine fz ?_;refine gH ?_;refine fz ?_;refine gX ?_;refine br hm (λhm=>?_) λhm=>?_
 .refine gX ?_;refine dF ?_;refine gX ?_;refine br hm (λhm=>?_) λhm=>?_
  .refine gX ?_;refine br hm (λhm=>?_) λhm=>?_
   .refine gX ?_;refine dF ?_;refine gX ?_;refine atF hm λx1 hx1 hm=>?_;refine gH ?_;refine dF ?_;refine gX ?_;exact fe hm O
   .refine gX ?_;exact fe hm O
  .refine gX ?_;refine bf ?_;refine gX ?_;exact fe hm O
 .refine gX ?_;refine bf ?_;refine gH ?_;refine bf ?_;refine gX ?_;exact fe hm O
def cG(p0:Circ)(p1:Flt)(K:Nat->Prop):Prop :=
 dM p0 (λr1=>((neN r1 0)=true->K r1)/\((neN r1 0)=false->aw (α:=Bool) (λk3=>((ltN 3 p1.model)=true->k3 true)/\((ltN 3 p1.model)=false->((ltN 1 p1.value)=true->k3 true)/\((ltN 1 p1.value)=false->gf p0 p1.line (λr4=>k3 (!r4))))) (λv2=>(v2=true->K 1)/\(v2=false->((!ltN p1.model 2)=true->False)/\((!ltN p1.model 2)=false->((neN p1.other 0)=true->K 1)/\((neN p1.other 0)=false->K 0))))))
theorem fJ{p0:Circ}{p1:Flt}{K:Nat->Prop}(hm:cG p0 p1 K){h0:Heap}(hB:aH vars h0):∃r,K r/\al Tryz.prog NG 33 ⟨[az p0,ay p1]⟩ h0 (i64 r) h0:=by
 unfold cG at hm
 refine fw Tryz.func33 hB (enc:=i64) (λr=>aq.flat rfl) λO=>?_;conv=>whnf
 refine gX ?_;refine fz ?_;refine gH ?_;refine fz ?_;refine gX ?_;refine ca (lV hm O.has) λr1 hm=>?_;refine gX ?_;refine br hm (λhm=>?_) λhm=>?_
 .refine gX ?_;exact fe hm O
 .apply Cs;conv=>whnf
  apply Cs;conv=>whnf
  apply Cs;conv=>whnf
  refine jn hm 38 [2,3] (λs=>s) (λv2 h=>Own vars h0 [] h) (λv2=>[(11,(.bool v2))]) (λhm=>?_) ?_
  .refine gX ?_;refine br hm (λhm=>?_) λhm=>?_
   .refine gX ?_;refine bt ?_;refine gH ?_;exact jx true hm O
   .refine gX ?_;refine br hm (λhm=>?_) λhm=>?_
    .refine gX ?_;exact jx true hm O
    .refine gX ?_;refine ca (tc hm O.has) λr4 hm=>?_;refine gH ?_;exact jx (!r4) hm O
  .clear hm;rintro v2 base h hm O;refine gX ?_;refine br hm (λhm=>?_) λhm=>?_
   .refine gX ?_;exact fe hm O
   .refine gX ?_;refine br hm (λhm=>?_) λhm=>?_
    .refine gX ?_;exact Nn hm
    .refine gX ?_;refine br hm (λhm=>?_) λhm=>?_
     .refine gX ?_;exact fe hm O
     .refine gX ?_;exact fe hm O
def cm(p0:Circ)(K:((List LnZ)×Nat)->Prop):Prop :=
 dM p0 (λr1=>((neN r1 0)=true->K ([],r1))/\((neN r1 0)=false->aw (α:=(List LnZ)) (λk6=>aF (S:=((List LnZ)×Nat)) (λ(v8,v9) nx11=>((ltN v9 p0.nodes.length)=true->aw (α:=(List LnZ)) (λk15=>∃x16,p0.nodes[v9]?=some x16/\x16.ins.length+1<2^63/\aF (S:=((List LnZ)×Nat)) (λ(v20,v21) nx23=>((ltN v21 (x16.ins.length+1))=true -> -(2^63)<=((LQ v21)-(LQ 1))/\((LQ v21)-(LQ 1))<2^63/\(v20.length+([(⟨v9,((LQ v21)-(LQ 1))⟩:LnZ)]:(List LnZ)).length)*16<=2^47/\v21+1<2^63/\nx23 ((v20++([(⟨v9,((LQ v21)-(LQ 1))⟩:LnZ)]:(List LnZ))),(v21+1)))/\((ltN v21 (x16.ins.length+1))=false->k15 v20)) (v8,0)) (λv13=>v9+1<2^63/\nx11 (v13,(v9+1))))/\((ltN v9 p0.nodes.length)=false->k6 v8)) (([]:List LnZ),0)) (λv4=>K (v4,0))))
theorem fM{p0:Circ}{K:((List LnZ)×Nat)->Prop}(hm:cm p0 K){h0:Heap}(hB:aH vars h0):∃r,K r/\al Tryz.prog NG 15 ⟨[az p0]⟩ h0 ((λ(r:((List LnZ)×Nat))=>MD ⟨[(ae 2 av) (r.1),i64 (r.2)]⟩) r) h0:=by
 unfold cm at hm
 refine fw Tryz.func15 hB (enc:=(λ(r:((List LnZ)×Nat))=>MD ⟨[(ae 2 av) (r.1),i64 (r.2)]⟩)) (λr=>aq.tup (ag.cons (cg (λ_=>pC _)) (ag.cons (aq.flat rfl) (ag.nil)))) λO=>?_;conv=>whnf
 refine gX ?_;refine fz ?_;refine gX ?_;refine ca (lV hm O.has) λr1 hm=>?_;refine gX ?_;refine br hm (λhm=>?_) λhm=>?_
 .refine gX ?_;exact⟨([],r1),hm,O.ext,λh2 F=>VLe.tup (LLe.cons (VLe.nil _ _) (LLe.cons (VLe.refl _ _) (LLe.nil _)))⟩
 .apply Cs;conv=>whnf
  apply Cs;conv=>whnf
  apply Cs;refine gH ?_;have O:=O.aZ (.cells (ah ((([]:List LnZ)).map av)) false);refine jn (σ:=(List LnZ)×Option Nat) hm 40 [] (λs=>s.1) (λ(v4,a3) h=>(a3=none->v4=[])/\Own vars h0 [(sM a3 av v4)] h) (λ(v4,a3)=>[(5,(ak 2 a3 (v4.map av)))]) (λhm=>?_) ?_
  .refine gX ?_;refine lw 40 [15,16] (σ:=((List LnZ)×Nat)×Option Nat) (λs=>s.1) (λ((v8,v9),a7) h=>(a7=none->v8=[])/\Own vars h0 [(sM a7 av v8)] h) (λ((v8,v9),a7)=>[(5,(ak 2 a7 (v8.map av))),(17,(i64 v9))]) ((([]:List LnZ),0),none) hm ⟨(λ_=>rfl),O⟩ ?_;clear hm;rintro⟨⟨v8,v9⟩,a7⟩ nx11 base h hm ⟨ha10,O⟩;refine gX ?_;refine br hm (λhm=>?_) λhm=>?_
   .apply Cs;conv=>whnf
    refine jn (σ:=(List LnZ)×Option Nat) hm 40 [15,16,17] (λs=>s.1) (λ(v13,a12) h=>(a12=none->v13=[])/\Own vars h0 [(sM a12 av v13)] h) (λ(v13,a12)=>[(5,(ak 2 a12 (v13.map av)))]) (λhm=>?_) ?_
    .refine gX ?_;refine atF hm λx16 hx16 hm=>?_;refine gH ?_;refine O.new (aj (l:=[(n8 0),nS,(i64 0),(i64 0)]) rfl rfl rfl) λg17 h O=>?_;refine gH ?_;refine O.stC 4 (.head _) [(n8 x16.kind),((ae 1 i64) x16.ins),(i64 x16.mem),(i64 x16.bit)] λh O=>?_;refine gX ?_;refine aJ hm λhm=>?_;refine gX ?_;refine lw 40 [6,15,16,17,25] (σ:=((List LnZ)×Nat)×Option Nat) (λs=>s.1) (λ((v20,v21),a19) h=>(a19=none->v20=[])/\Own vars h0 [(sM a19 av v20)] h) (λ((v20,v21),a19)=>[(5,(ak 2 a19 (v20.map av))),(26,(i64 v21))]) ((v8,0),a7) hm ⟨ha10,(O.sel [1] (by decide))⟩ ?_;clear hm;rintro⟨⟨v20,v21⟩,a19⟩ nx23 base h hm ⟨ha22,O⟩;refine gX ?_;refine br hm (λhm=>?_) λhm=>?_
     .refine gX ?_;refine⟨_,KQ (a:=(LQ v21)) (b:=(LQ 1)) rfl rfl hm.1 hm.2.1,?_⟩;refine gH ?_;replace hm:=hm.2.2;refine fz ?_;refine gH ?_;refine O.apL (enc:=av) (l:=v20) (new:=([(⟨v9,((LQ v21)-(LQ 1))⟩:LnZ)]:(List LnZ))) 2 (.head _) ha22 hm λa24 h ha25 O hm=>?_;refine gX ?_;refine aJ hm λhm=>?_;refine gH ?_;exact jx (((v20++([(⟨v9,((LQ v21)-(LQ 1))⟩:LnZ)]:(List LnZ))),(v21+1)),a24) hm ⟨ha25,O⟩
     .refine gX ?_;exact jx (v20,a19) hm ⟨ha22,O⟩
    .clear hm;rintro⟨v13,a12⟩ base h hm ⟨ha14,O⟩;refine gX ?_;refine aJ hm λhm=>?_;refine gH ?_;exact jx ((v13,(v9+1)),a12) hm ⟨ha14,O⟩
   .refine gX ?_;exact jx (v8,a7) hm ⟨ha10,O⟩
  .clear hm;rintro⟨v4,a3⟩ base h hm ⟨ha5,O⟩;refine gX ?_;refine fg Tryz.func43 ?_;refine gX ?_;refine so (s:=2) (enc:=av) (l:=v4) (n:=v4.length) (m:=v4.length) rfl rfl rfl rfl rfl rfl rfl ?_;refine gX ?_;exact⟨(v4,0),hm,O.ext,λh2 F=>VLe.tup (LLe.cons (O.rn F (LV _) (.head _) ha5 (λ_=>rfl)) (LLe.cons (VLe.refl _ _) (LLe.nil _)))⟩
set_option maxHeartbeats 8000000
structure Wd where
 one:Nat
 zero:Nat
deriving DecidableEq
def an(x:Wd):Value:=.agg ⟨[n64 x.one,n64 x.zero]⟩
theorem lz(x:Wd):ag (cl (an x)):=ag.cons (aq.flat rfl) (ag.cons (aq.flat rfl) ag.nil)
theorem eE(x:Wd):aq (an x):=aq.agg (lz x)
def po:Nat:=2^64-1
def ja(v:Nat):Wd:=⟨if v=1\/v=3 then po else 0,if v=0\/v=3 then po else 0⟩
theorem B7:∀o∈vars,∃cs,o=.cells cs true/\cs.all plain=true:=λo m=>by
 obtain⟨i,hi⟩:=M1 m;exact qV hi
theorem EM:oW NG (an (ja 0)) (km Tryz.prog [] (λ_ _ _=>none) 60 59 ⟨[n8 0]⟩ (cj vars))=true:=by kernel_rfl
theorem Eo:oW NG (an (ja 1)) (km Tryz.prog [] (λ_ _ _=>none) 60 59 ⟨[n8 1]⟩ (cj vars))=true:=by kernel_rfl
theorem E3:oW NG (an (ja 2)) (km Tryz.prog [] (λ_ _ _=>none) 60 59 ⟨[n8 2]⟩ (cj vars))=true:=by kernel_rfl
theorem Eu:oW NG (an (ja 3)) (km Tryz.prog [] (λ_ _ _=>none) 60 59 ⟨[n8 3]⟩ (cj vars))=true:=by kernel_rfl
theorem I0{v:Nat}(h:v<=3):FnV Tryz.prog NG vars 59 ⟨[n8 v]⟩ (an (ja v)):=by
 have key:∀v:Nat,oW NG (an (ja v)) (km Tryz.prog [] (λ_ _ _=>none) 60 59 ⟨[n8 v]⟩ (cj vars))=true->FnV Tryz.prog NG vars 59 ⟨[n8 v]⟩ (an (ja v)):=λv e =>
  FnV.closed hM rfl B7 hP (λ_ _ _ _ e=>by cases e) e (ag.cons (aq.flat rfl) ag.nil) (eE _) (by kernel_rfl) (by decide)
 have:v=0\/v=1\/v=2\/v=3:=by omega
 rcases this with rfl|rfl|rfl|rfl
 .exact key 0 EM
 .exact key 1 Eo
 .exact key 2 E3
 .exact key 3 Eu
def cf(v:Nat)(K:Wd->Prop):Prop:=v<=3/\K (ja v)
theorem bX{p0:Nat}{K:Wd->Prop}(hm:cf p0 K){h0:Heap}(hB:aH vars h0):∃r,K r/\al Tryz.prog NG 59 ⟨[n8 p0]⟩ h0 (an r) h0:=(I0 hm.1).walk hm.2 hB
set_option maxHeartbeats 8000000
def iF(p0:Wd)(K:Wd->Prop):Prop :=
 K (⟨(bF p0.one (aK p0.one p0.zero)),(bF p0.zero (aK p0.one p0.zero))⟩:Wd)
theorem pf{p0:Wd}{K:Wd->Prop}(hm:iF p0 K){h0:Heap}(hB:aH vars h0):∃r,K r/\al Tryz.prog NG 110 ⟨[an p0]⟩ h0 (an r) h0:=by
 unfold iF at hm
 refine fw Tryz.func110 hB (enc:=an) (λr=>eE _) λO=>?_;conv=>whnf
 refine gX ?_;refine fz ?_;refine gH ?_;refine O.new (aj (l:=[(n64 0),(n64 0)]) rfl rfl rfl) λg1 h O=>?_;refine gH ?_;refine gX ?_;refine jt (a:=p0.one) (b:=p0.zero) ?_;refine gX ?_;refine oH (a:=p0.one) (b:=(aK p0.one p0.zero)) ?_;refine gH ?_;refine oH (a:=p0.zero) (b:=(aK p0.one p0.zero)) ?_;refine gH ?_;refine O.stC 2 (.head _) [(n64 (bF p0.one (aK p0.one p0.zero))),(n64 (bF p0.zero (aK p0.one p0.zero)))] λh O=>?_;refine gX ?_
 refine⟨_,aI rfl rfl O.i0 rfl rfl (lbE rfl) rfl,?_⟩;conv=>whnf
 exact fe hm O
def df(p0:Wd)(K:Wd->Prop):Prop :=
 K (⟨p0.zero,p0.one⟩:Wd)
theorem eD{p0:Wd}{K:Wd->Prop}(hm:df p0 K){h0:Heap}(hB:aH vars h0):∃r,K r/\al Tryz.prog NG 111 ⟨[an p0]⟩ h0 (an r) h0:=by
 unfold df at hm
 refine fw Tryz.func111 hB (enc:=an) (λr=>eE _) λO=>?_;conv=>whnf
 refine gX ?_;refine fz ?_;refine gH ?_;refine O.new (aj (l:=[(n64 0),(n64 0)]) rfl rfl rfl) λg1 h O=>?_;refine gH ?_;refine gX ?_;refine O.stC 2 (.head _) [(n64 p0.zero),(n64 p0.one)] λh O=>?_;refine gX ?_
 refine⟨_,aI rfl rfl O.i0 rfl rfl (lbE rfl) rfl,?_⟩;conv=>whnf
 exact fe hm O
def jl(p0:(List Wd))(K:Wd->Prop):Prop :=
 cf 1 (λr3=>aw (α:=(Nat×Nat)) (λk8=>aF (S:=(Nat×Nat×Nat)) (λ(v9,v10,v11) nx12=>((ltN v11 p0.length)=true->∃x13,p0[v11]?=some x13/\v11+1<2^63/\nx12 ((aK v9 x13.one),(dK v10 x13.zero),(v11+1)))/\((ltN v11 p0.length)=false->k8 (v9,v10))) (r3.one,r3.zero,0)) (λ(v6,v7)=>K (⟨v6,v7⟩:Wd)))
theorem oD{p0:(List Wd)}{K:Wd->Prop}(hm:jl p0 K){h0:Heap}(hB:aH vars h0):∃r,K r/\al Tryz.prog NG 112 ⟨[(ae 2 an) p0]⟩ h0 (an r) h0:=by
 unfold jl at hm
 refine fw Tryz.func112 hB (enc:=an) (λr=>eE _) λO=>?_;conv=>whnf
 refine gX ?_;refine O.new (aj (l:=[(n64 0),(n64 0)]) rfl rfl rfl) λg1 h O=>?_;refine gH ?_;refine gX ?_;refine ca (bX hm O.has) λr3 hm=>?_;refine gH ?_;refine O.new (aj (l:=[(n64 0),(n64 0)]) rfl rfl rfl) λg4 h O=>?_;refine gH ?_;refine O.stC 2 (.head _) [(n64 r3.one),(n64 r3.zero)] λh O=>?_;refine gH ?_;refine jn hm 26 [2,3] (λs=>s) (λ(v6,v7) h=>Own vars h0 [(sC g1 [(n64 0),(n64 0)]),(sC g4 [(n64 v6),(n64 v7)])] h) (λ(v6,v7)=>[]) (λhm=>?_) ?_
 .refine gX ?_;refine lw 26 [2,3,7,8] (σ:=(Nat×Nat×Nat)) (λs=>s) (λ(v9,v10,v11) h=>Own vars h0 [(sC g1 [(n64 0),(n64 0)]),(sC g4 [(n64 v9),(n64 v10)])] h) (λ(v9,v10,v11)=>[(9,(i64 v11))]) (r3.one,r3.zero,0) hm (O.sel [1,0] (by decide)) ?_;clear hm;rintro⟨v9,v10,v11⟩ nx12 base h hm O;refine gX ?_;refine br hm (λhm=>?_) λhm=>?_
  .refine gX ?_;refine atF hm λx13 hx13 hm=>?_;refine gH ?_;refine O.new (aj (l:=[(n64 0),(n64 0)]) rfl rfl rfl) λg14 h O=>?_;refine gH ?_;refine O.stC 2 (.head _) [(n64 x13.one),(n64 x13.zero)] λh O=>?_;refine gX ?_;refine jt (a:=v9) (b:=x13.one) ?_;refine gH ?_;refine uL (a:=v10) (b:=x13.zero) ?_;refine gH ?_;refine O.stC 2 (.tail _ (.tail _ (.head _))) [(n64 (aK v9 x13.one)),(n64 (dK v10 x13.zero))] λh O=>?_;refine gX ?_;refine aJ hm λhm=>?_;refine gH ?_;exact jx ((aK v9 x13.one),(dK v10 x13.zero),(v11+1)) hm (O.sel [1,2] (by decide))
  .refine gX ?_;exact jx (v9,v10) hm O
 .clear hm;rintro⟨v6,v7⟩ base h hm O;refine gX ?_;refine ldA O.i1 ?_;refine gH ?_;refine O.stC 2 (.head _) [(n64 v6),(n64 v7)] λh O=>?_;refine gX ?_
  refine⟨_,aI rfl rfl O.i0 rfl rfl (lbE rfl) rfl,?_⟩;conv=>whnf
  exact fe hm O
def ku(p0:(List Wd))(K:Wd->Prop):Prop :=
 cf 0 (λr3=>aw (α:=(Nat×Nat)) (λk8=>aF (S:=(Nat×Nat×Nat)) (λ(v9,v10,v11) nx12=>((ltN v11 p0.length)=true->∃x13,p0[v11]?=some x13/\v11+1<2^63/\nx12 ((dK v9 x13.one),(aK v10 x13.zero),(v11+1)))/\((ltN v11 p0.length)=false->k8 (v9,v10))) (r3.one,r3.zero,0)) (λ(v6,v7)=>K (⟨v6,v7⟩:Wd)))
theorem qm{p0:(List Wd)}{K:Wd->Prop}(hm:ku p0 K){h0:Heap}(hB:aH vars h0):∃r,K r/\al Tryz.prog NG 113 ⟨[(ae 2 an) p0]⟩ h0 (an r) h0:=by
 unfold ku at hm
 refine fw Tryz.func113 hB (enc:=an) (λr=>eE _) λO=>?_;conv=>whnf
 refine gX ?_;refine O.new (aj (l:=[(n64 0),(n64 0)]) rfl rfl rfl) λg1 h O=>?_;refine gH ?_;refine gX ?_;refine ca (bX hm O.has) λr3 hm=>?_;refine gH ?_;refine O.new (aj (l:=[(n64 0),(n64 0)]) rfl rfl rfl) λg4 h O=>?_;refine gH ?_;refine O.stC 2 (.head _) [(n64 r3.one),(n64 r3.zero)] λh O=>?_;refine gH ?_;refine jn hm 26 [2,3] (λs=>s) (λ(v6,v7) h=>Own vars h0 [(sC g1 [(n64 0),(n64 0)]),(sC g4 [(n64 v6),(n64 v7)])] h) (λ(v6,v7)=>[]) (λhm=>?_) ?_
 .refine gX ?_;refine lw 26 [2,3,7,8] (σ:=(Nat×Nat×Nat)) (λs=>s) (λ(v9,v10,v11) h=>Own vars h0 [(sC g1 [(n64 0),(n64 0)]),(sC g4 [(n64 v9),(n64 v10)])] h) (λ(v9,v10,v11)=>[(9,(i64 v11))]) (r3.one,r3.zero,0) hm (O.sel [1,0] (by decide)) ?_;clear hm;rintro⟨v9,v10,v11⟩ nx12 base h hm O;refine gX ?_;refine br hm (λhm=>?_) λhm=>?_
  .refine gX ?_;refine atF hm λx13 hx13 hm=>?_;refine gH ?_;refine O.new (aj (l:=[(n64 0),(n64 0)]) rfl rfl rfl) λg14 h O=>?_;refine gH ?_;refine O.stC 2 (.head _) [(n64 x13.one),(n64 x13.zero)] λh O=>?_;refine gX ?_;refine uL (a:=v9) (b:=x13.one) ?_;refine gH ?_;refine jt (a:=v10) (b:=x13.zero) ?_;refine gH ?_;refine O.stC 2 (.tail _ (.tail _ (.head _))) [(n64 (dK v9 x13.one)),(n64 (aK v10 x13.zero))] λh O=>?_;refine gX ?_;refine aJ hm λhm=>?_;refine gH ?_;exact jx ((dK v9 x13.one),(aK v10 x13.zero),(v11+1)) hm (O.sel [1,2] (by decide))
  .refine gX ?_;exact jx (v9,v10) hm O
 .clear hm;rintro⟨v6,v7⟩ base h hm O;refine gX ?_;refine ldA O.i1 ?_;refine gH ?_;refine O.stC 2 (.head _) [(n64 v6),(n64 v7)] λh O=>?_;refine gX ?_
  refine⟨_,aI rfl rfl O.i0 rfl rfl (lbE rfl) rfl,?_⟩;conv=>whnf
  exact fe hm O
def jA(p0:(List Wd))(K:Wd->Prop):Prop :=
 cf 0 (λr3=>aw (α:=(Nat×Nat)) (λk8=>aF (S:=(Nat×Nat×Nat)) (λ(v9,v10,v11) nx12=>((ltN v11 p0.length)=true->∃x13,p0[v11]?=some x13/\v11+1<2^63/\nx12 ((dK (aK v9 x13.zero) (aK v10 x13.one)),(dK (aK v9 x13.one) (aK v10 x13.zero)),(v11+1)))/\((ltN v11 p0.length)=false->k8 (v9,v10))) (r3.one,r3.zero,0)) (λ(v6,v7)=>K (⟨v6,v7⟩:Wd)))
theorem ou{p0:(List Wd)}{K:Wd->Prop}(hm:jA p0 K){h0:Heap}(hB:aH vars h0):∃r,K r/\al Tryz.prog NG 114 ⟨[(ae 2 an) p0]⟩ h0 (an r) h0:=by
 unfold jA at hm
 refine fw Tryz.func114 hB (enc:=an) (λr=>eE _) λO=>?_;conv=>whnf
 refine gX ?_;refine O.new (aj (l:=[(n64 0),(n64 0)]) rfl rfl rfl) λg1 h O=>?_;refine gH ?_;refine gX ?_;refine ca (bX hm O.has) λr3 hm=>?_;refine gH ?_;refine O.new (aj (l:=[(n64 0),(n64 0)]) rfl rfl rfl) λg4 h O=>?_;refine gH ?_;refine O.stC 2 (.head _) [(n64 r3.one),(n64 r3.zero)] λh O=>?_;refine gH ?_;refine jn hm 38 [2,3] (λs=>s) (λ(v6,v7) h=>Own vars h0 [(sC g1 [(n64 0),(n64 0)]),(sC g4 [(n64 v6),(n64 v7)])] h) (λ(v6,v7)=>[]) (λhm=>?_) ?_
 .refine gX ?_;refine lw 38 [2,3,7,8] (σ:=(Nat×Nat×Nat)) (λs=>s) (λ(v9,v10,v11) h=>Own vars h0 [(sC g1 [(n64 0),(n64 0)]),(sC g4 [(n64 v9),(n64 v10)])] h) (λ(v9,v10,v11)=>[(9,(i64 v11))]) (r3.one,r3.zero,0) hm (O.sel [1,0] (by decide)) ?_;clear hm;rintro⟨v9,v10,v11⟩ nx12 base h hm O;refine gX ?_;refine br hm (λhm=>?_) λhm=>?_
  .refine gX ?_;refine atF hm λx13 hx13 hm=>?_;refine gH ?_;refine O.new (aj (l:=[(n64 0),(n64 0)]) rfl rfl rfl) λg14 h O=>?_;refine gH ?_;refine O.stC 2 (.head _) [(n64 x13.one),(n64 x13.zero)] λh O=>?_;refine gX ?_;refine jt (a:=v9) (b:=x13.zero) ?_;refine gH ?_;refine jt (a:=v10) (b:=x13.one) ?_;refine gH ?_;refine uL (a:=(aK v9 x13.zero)) (b:=(aK v10 x13.one)) ?_;refine gH ?_;refine jt (a:=v9) (b:=x13.one) ?_;refine gH ?_;refine jt (a:=v10) (b:=x13.zero) ?_;refine gH ?_;refine uL (a:=(aK v9 x13.one)) (b:=(aK v10 x13.zero)) ?_;refine gH ?_;refine O.stC 2 (.tail _ (.tail _ (.head _))) [(n64 (dK (aK v9 x13.zero) (aK v10 x13.one))),(n64 (dK (aK v9 x13.one) (aK v10 x13.zero)))] λh O=>?_;refine gX ?_;refine aJ hm λhm=>?_;refine gH ?_;exact jx ((dK (aK v9 x13.zero) (aK v10 x13.one)),(dK (aK v9 x13.one) (aK v10 x13.zero)),(v11+1)) hm (O.sel [1,2] (by decide))
  .refine gX ?_;exact jx (v9,v10) hm O
 .clear hm;rintro⟨v6,v7⟩ base h hm O;refine gX ?_;refine ldA O.i1 ?_;refine gH ?_;refine O.stC 2 (.head _) [(n64 v6),(n64 v7)] λh O=>?_;refine gX ?_
  refine⟨_,aI rfl rfl O.i0 rfl rfl (lbE rfl) rfl,?_⟩;conv=>whnf
  exact fe hm O
def nO(p0:Wd)(p1:Wd)(p2:Wd)(K:Wd->Prop):Prop :=
 K (⟨(dK (dK (aK p0.zero p1.one) (aK p0.one p2.one)) (aK p1.one p2.one)),(dK (dK (aK p0.zero p1.zero) (aK p0.one p2.zero)) (aK p1.zero p2.zero))⟩:Wd)
theorem xA{p0:Wd}{p1:Wd}{p2:Wd}{K:Wd->Prop}(hm:nO p0 p1 p2 K){h0:Heap}(hB:aH vars h0):∃r,K r/\al Tryz.prog NG 115 ⟨[an p0,an p1,an p2]⟩ h0 (an r) h0:=by
 unfold nO at hm
 refine fw Tryz.func115 hB (enc:=an) (λr=>eE _) λO=>?_;conv=>whnf
 refine gX ?_;refine fz ?_;refine gH ?_;refine fz ?_;refine gH ?_;refine fz ?_;refine gH ?_;refine O.new (aj (l:=[(n64 0),(n64 0)]) rfl rfl rfl) λg1 h O=>?_;refine gH ?_;refine gX ?_;refine jt (a:=p0.zero) (b:=p1.one) ?_;refine gH ?_;refine jt (a:=p0.one) (b:=p2.one) ?_;refine gH ?_;refine uL (a:=(aK p0.zero p1.one)) (b:=(aK p0.one p2.one)) ?_;refine gH ?_;refine jt (a:=p1.one) (b:=p2.one) ?_;refine gH ?_;refine uL (a:=(dK (aK p0.zero p1.one) (aK p0.one p2.one))) (b:=(aK p1.one p2.one)) ?_;refine gH ?_;refine jt (a:=p0.zero) (b:=p1.zero) ?_;refine gH ?_;refine jt (a:=p0.one) (b:=p2.zero) ?_;refine gH ?_;refine uL (a:=(aK p0.zero p1.zero)) (b:=(aK p0.one p2.zero)) ?_;refine gH ?_;refine jt (a:=p1.zero) (b:=p2.zero) ?_;refine gH ?_;refine uL (a:=(dK (aK p0.zero p1.zero) (aK p0.one p2.zero))) (b:=(aK p1.zero p2.zero)) ?_;refine gH ?_;refine O.stC 2 (.head _) [(n64 (dK (dK (aK p0.zero p1.one) (aK p0.one p2.one)) (aK p1.one p2.one))),(n64 (dK (dK (aK p0.zero p1.zero) (aK p0.one p2.zero)) (aK p1.zero p2.zero)))] λh O=>?_;refine gX ?_
 refine⟨_,aI rfl rfl O.i0 rfl rfl (lbE rfl) rfl,?_⟩;conv=>whnf
 exact fe hm O
def ir(p0:Nat)(p1:(List Wd))(K:Wd->Prop):Prop :=
 gD p0 (λr3=>aw (α:=Bool) (λk5=>((ltN p1.length r3.1)=true->k5 true)/\((ltN p1.length r3.1)=false->k5 (ltI r3.2 (LQ p1.length)))) (λv4=>(v4=true->cf 2 (λr6=>K r6))/\(v4=false->((eqN p0 13)=true->False)/\((eqN p0 13)=false->16*p1.length<=2^48/\p1.length<2^63/\aw (α:=(List Wd)) (λk10=>aF (S:=((List Wd)×Nat)) (λ(v11,v12) nx13=>((ltN v12 p1.length)=true->∃x14,p1[v12]?=some x14/\iF x14 (λr17=>v12<p1.length/\∃x18,v11[v12]?=some x18/\v12+1<2^63/\nx13 ((v11.set v12 r17),(v12+1))))/\((ltN v12 p1.length)=false->k10 v11)) ((LY p1.length ((⟨0,0⟩:Wd):Wd)),0)) (λv9=>((eqN p0 1)=true->cf 0 (λr19=>K r19))/\((eqN p0 1)=false->((eqN p0 2)=true->cf 1 (λr20=>K r20))/\((eqN p0 2)=false->((eqN p0 3)=true->0<p1.length/\∃x21,v9[0]?=some x21/\K x21)/\((eqN p0 3)=false->((eqN p0 4)=true->0<p1.length/\∃x22,v9[0]?=some x22/\df x22 (λr23=>K r23))/\((eqN p0 4)=false->((eqN p0 5)=true->p1.length=v9.length/\jl v9 (λr24=>K r24))/\((eqN p0 5)=false->((eqN p0 6)=true->p1.length=v9.length/\jl v9 (λr26=>df r26 (λr28=>K r28)))/\((eqN p0 6)=false->((eqN p0 7)=true->p1.length=v9.length/\ku v9 (λr29=>K r29))/\((eqN p0 7)=false->((eqN p0 8)=true->p1.length=v9.length/\ku v9 (λr31=>df r31 (λr33=>K r33)))/\((eqN p0 8)=false->((eqN p0 9)=true->p1.length=v9.length/\jA v9 (λr34=>K r34))/\((eqN p0 9)=false->((eqN p0 10)=true->p1.length=v9.length/\jA v9 (λr36=>df r36 (λr38=>K r38)))/\((eqN p0 10)=false->((eqN p0 11)=true->0<p1.length/\∃x39,v9[0]?=some x39/\1<p1.length/\∃x40,v9[1]?=some x40/\2<p1.length/\∃x41,v9[2]?=some x41/\nO x39 x40 x41 (λr42=>K r42))/\((eqN p0 11)=false->((eqN p0 12)=true->False)/\((eqN p0 12)=false->cf 2 (λr43=>K r43))))))))))))))))))
theorem uN{p0:Nat}{p1:(List Wd)}{K:Wd->Prop}(hm:ir p0 p1 K){h0:Heap}(hB:aH vars h0):∃r,K r/\al Tryz.prog NG 60 ⟨[n8 p0,(ae 2 an) p1]⟩ h0 (an r) h0:=by
 unfold ir at hm
 refine fw Tryz.func60 hB (enc:=an) (λr=>eE _) λO=>?_;conv=>whnf
 refine gX ?_;refine O.new (aj (l:=[(n64 0),(n64 0)]) rfl rfl rfl) λg1 h O=>?_;refine gH ?_;refine gX ?_;refine ca (jL hm O.has) λr3 hm=>?_;refine gH ?_;refine jn hm 113 [0,1,4] (λs=>s) (λv4 h=>Own vars h0 [(sC g1 [(n64 0),(n64 0)])] h) (λv4=>[(24,(.bool v4))]) (λhm=>?_) ?_
 .refine gX ?_;refine br hm (λhm=>?_) λhm=>?_
  .refine gX ?_;exact jx true hm O
  .refine gX ?_;exact jx (ltI r3.2 (LQ p1.length)) hm O
 .clear hm;rintro v4 base h hm O;refine gX ?_;refine br hm (λhm=>?_) λhm=>?_
  .refine gX ?_;refine ca (bX hm O.has) λr6 hm=>?_;refine gH ?_;refine O.stC 2 (.head _) [(n64 r6.one),(n64 r6.zero)] λh O=>?_;refine gX ?_
   refine⟨_,aI rfl rfl O.i0 rfl rfl (lbE rfl) rfl,?_⟩;conv=>whnf
   exact fe hm O
  .refine gX ?_;refine br hm (λhm=>?_) λhm=>?_
   .refine gX ?_;exact Nn hm
   .refine gX ?_;refine O.mkL (enc:=an) 16 2 (⟨0,0⟩:Wd) hm λg7 h O hm=>?_;refine gH ?_;refine jn hm 113 [0,4,7] (λs=>s) (λv9 h=>Own vars h0 [(sC g1 [(n64 0),(n64 0)]),(sG g7 an v9)] h) (λv9=>[]) (λhm=>?_) ?_
    .refine gX ?_;refine lw 113 [0,4,7,33,34] (σ:=((List Wd)×Nat)) (λs=>s) (λ(v11,v12) h=>Own vars h0 [(sC g1 [(n64 0),(n64 0)]),(sG g7 an v11)] h) (λ(v11,v12)=>[(35,(i64 v12))]) ((LY p1.length ((⟨0,0⟩:Wd):Wd)),0) hm (O.sel [1,0] (by decide)) ?_;clear hm;rintro⟨v11,v12⟩ nx13 base h hm O;refine gX ?_;refine br hm (λhm=>?_) λhm=>?_
     .refine gX ?_;refine atF hm λx14 hx14 hm=>?_;refine gH ?_;refine O.new (aj (l:=[(n64 0),(n64 0)]) rfl rfl rfl) λg15 h O=>?_;refine gH ?_;refine O.stC 2 (.head _) [(n64 x14.one),(n64 x14.zero)] λh O=>?_;refine gX ?_;refine ldA O.i0 ?_;refine gH ?_;refine ca (pf hm O.has) λr17 hm=>?_;refine gH ?_;refine ix 2 hm λx18 hx18 hm=>?_;refine gH ?_;refine O.stE 2 (.tail _ (.tail _ (.head _))) hx18 r17 λh O=>?_;refine gX ?_;refine aJ hm λhm=>?_;refine gH ?_;exact jx ((v11.set v12 r17),(v12+1)) hm (O.sel [1,2] (by decide))
     .refine gX ?_;exact jx v11 hm O
    .clear hm;rintro v9 base h hm O;refine gX ?_;refine br hm (λhm=>?_) λhm=>?_
     .refine gX ?_;refine ca (bX hm O.has) λr19 hm=>?_;refine gH ?_;refine O.stC 2 (.head _) [(n64 r19.one),(n64 r19.zero)] λh O=>?_;refine gX ?_
      refine⟨_,aI rfl rfl O.i0 rfl rfl (lbE rfl) rfl,?_⟩;conv=>whnf
      exact fe hm O
     .refine gX ?_;refine br hm (λhm=>?_) λhm=>?_
      .refine gX ?_;refine ca (bX hm O.has) λr20 hm=>?_;refine gH ?_;refine O.stC 2 (.head _) [(n64 r20.one),(n64 r20.zero)] λh O=>?_;refine gX ?_
       refine⟨_,aI rfl rfl O.i0 rfl rfl (lbE rfl) rfl,?_⟩;conv=>whnf
       exact fe hm O
      .refine gX ?_;refine br hm (λhm=>?_) λhm=>?_
       .refine gX ?_;refine ix 2 hm λx21 hx21 hm=>?_;refine gH ?_;refine⟨_,aM (l:=cl (an x21)) rfl O.i1 rfl rfl (dR (enc:=an) (s:=2) (k:=0) (λ_=>rfl) (ai hx21) (LV _)) (de (enc:=an) (s:=2) (λ_=>rfl) hx21),?_⟩;refine gH ?_;refine O.stC 2 (.head _) [(n64 x21.one),(n64 x21.zero)] λh O=>?_;refine gX ?_
        refine⟨_,aI rfl rfl O.i0 rfl rfl (lbE rfl) rfl,?_⟩;conv=>whnf
        exact fe hm O
       .refine gX ?_;refine br hm (λhm=>?_) λhm=>?_
        .refine gX ?_;refine ix 2 hm λx22 hx22 hm=>?_;refine gH ?_;refine⟨_,aM (l:=cl (an x22)) rfl O.i1 rfl rfl (dR (enc:=an) (s:=2) (k:=0) (λ_=>rfl) (ai hx22) (LV _)) (de (enc:=an) (s:=2) (λ_=>rfl) hx22),?_⟩;refine gH ?_;refine ca (eD hm O.has) λr23 hm=>?_;refine gH ?_;refine O.stC 2 (.head _) [(n64 r23.one),(n64 r23.zero)] λh O=>?_;refine gX ?_
         refine⟨_,aI rfl rfl O.i0 rfl rfl (lbE rfl) rfl,?_⟩;conv=>whnf
         exact fe hm O
        .refine gX ?_;refine br hm (λhm=>?_) λhm=>?_
         .refine gX ?_;obtain⟨hn25,hm⟩:=hm;refine O.Ey (λ_ hb=>oD hm hb) (.tail _ (.head _)) hn25 (λ_=>rfl) (i:=0) rfl (by kernel_rfl) (λh2 q=>(LLe.cons (q) (LLe.nil _))) (λr24 h hm' O=>?_);replace hm:=hm';refine gH ?_;refine O.stC 2 (.head _) [(n64 r24.one),(n64 r24.zero)] λh O=>?_;refine gX ?_
          refine⟨_,aI rfl rfl O.i0 rfl rfl (lbE rfl) rfl,?_⟩;conv=>whnf
          exact fe hm O
         .refine gX ?_;refine br hm (λhm=>?_) λhm=>?_
          .refine gX ?_;obtain⟨hn27,hm⟩:=hm;refine O.Ey (λ_ hb=>oD hm hb) (.tail _ (.head _)) hn27 (λ_=>rfl) (i:=0) rfl (by kernel_rfl) (λh2 q=>(LLe.cons (q) (LLe.nil _))) (λr26 h hm' O=>?_);replace hm:=hm';refine gH ?_;refine ca (eD hm O.has) λr28 hm=>?_;refine gH ?_;refine O.stC 2 (.head _) [(n64 r28.one),(n64 r28.zero)] λh O=>?_;refine gX ?_
           refine⟨_,aI rfl rfl O.i0 rfl rfl (lbE rfl) rfl,?_⟩;conv=>whnf
           exact fe hm O
          .refine gX ?_;refine br hm (λhm=>?_) λhm=>?_
           .refine gX ?_;obtain⟨hn30,hm⟩:=hm;refine O.Ey (λ_ hb=>qm hm hb) (.tail _ (.head _)) hn30 (λ_=>rfl) (i:=0) rfl (by kernel_rfl) (λh2 q=>(LLe.cons (q) (LLe.nil _))) (λr29 h hm' O=>?_);replace hm:=hm';refine gH ?_;refine O.stC 2 (.head _) [(n64 r29.one),(n64 r29.zero)] λh O=>?_;refine gX ?_
            refine⟨_,aI rfl rfl O.i0 rfl rfl (lbE rfl) rfl,?_⟩;conv=>whnf
            exact fe hm O
           .refine gX ?_;refine br hm (λhm=>?_) λhm=>?_
            .refine gX ?_;obtain⟨hn32,hm⟩:=hm;refine O.Ey (λ_ hb=>qm hm hb) (.tail _ (.head _)) hn32 (λ_=>rfl) (i:=0) rfl (by kernel_rfl) (λh2 q=>(LLe.cons (q) (LLe.nil _))) (λr31 h hm' O=>?_);replace hm:=hm';refine gH ?_;refine ca (eD hm O.has) λr33 hm=>?_;refine gH ?_;refine O.stC 2 (.head _) [(n64 r33.one),(n64 r33.zero)] λh O=>?_;refine gX ?_
             refine⟨_,aI rfl rfl O.i0 rfl rfl (lbE rfl) rfl,?_⟩;conv=>whnf
             exact fe hm O
            .refine gX ?_;refine br hm (λhm=>?_) λhm=>?_
             .refine gX ?_;obtain⟨hn35,hm⟩:=hm;refine O.Ey (λ_ hb=>ou hm hb) (.tail _ (.head _)) hn35 (λ_=>rfl) (i:=0) rfl (by kernel_rfl) (λh2 q=>(LLe.cons (q) (LLe.nil _))) (λr34 h hm' O=>?_);replace hm:=hm';refine gH ?_;refine O.stC 2 (.head _) [(n64 r34.one),(n64 r34.zero)] λh O=>?_;refine gX ?_
              refine⟨_,aI rfl rfl O.i0 rfl rfl (lbE rfl) rfl,?_⟩;conv=>whnf
              exact fe hm O
             .refine gX ?_;refine br hm (λhm=>?_) λhm=>?_
              .refine gX ?_;obtain⟨hn37,hm⟩:=hm;refine O.Ey (λ_ hb=>ou hm hb) (.tail _ (.head _)) hn37 (λ_=>rfl) (i:=0) rfl (by kernel_rfl) (λh2 q=>(LLe.cons (q) (LLe.nil _))) (λr36 h hm' O=>?_);replace hm:=hm';refine gH ?_;refine ca (eD hm O.has) λr38 hm=>?_;refine gH ?_;refine O.stC 2 (.head _) [(n64 r38.one),(n64 r38.zero)] λh O=>?_;refine gX ?_
               refine⟨_,aI rfl rfl O.i0 rfl rfl (lbE rfl) rfl,?_⟩;conv=>whnf
               exact fe hm O
              .refine gX ?_;refine br hm (λhm=>?_) λhm=>?_
               .refine gX ?_;refine ix 2 hm λx39 hx39 hm=>?_;refine gH ?_;refine⟨_,aM (l:=cl (an x39)) rfl O.i1 rfl rfl (dR (enc:=an) (s:=2) (k:=0) (λ_=>rfl) (ai hx39) (LV _)) (de (enc:=an) (s:=2) (λ_=>rfl) hx39),?_⟩;refine gH ?_
                first|refine⟨.inr (.inr (aM (l:=cl (an x39)) rfl O.i1 rfl rfl (dR (enc:=an) (s:=2) (k:=0) (λ_=>rfl) (ai hx39) (LV _)) (de (enc:=an) (s:=2) (λ_=>rfl) hx39))),?_⟩|refine⟨.inr (.inl (by kernel_rfl)),?_⟩
                refine gX ?_;refine ix 2 hm λx40 hx40 hm=>?_;refine gH ?_;refine⟨_,aM (l:=cl (an x40)) rfl O.i1 rfl rfl (dR (enc:=an) (s:=2) (k:=0) (λ_=>rfl) (ai hx40) (LV _)) (de (enc:=an) (s:=2) (λ_=>rfl) hx40),?_⟩;refine gH ?_
                first|refine⟨.inr (.inr (aM (l:=cl (an x40)) rfl O.i1 rfl rfl (dR (enc:=an) (s:=2) (k:=0) (λ_=>rfl) (ai hx40) (LV _)) (de (enc:=an) (s:=2) (λ_=>rfl) hx40))),?_⟩|refine⟨.inr (.inl (by kernel_rfl)),?_⟩
                refine gX ?_;refine ix 2 hm λx41 hx41 hm=>?_;refine gH ?_;refine⟨_,aM (l:=cl (an x41)) rfl O.i1 rfl rfl (dR (enc:=an) (s:=2) (k:=0) (λ_=>rfl) (ai hx41) (LV _)) (de (enc:=an) (s:=2) (λ_=>rfl) hx41),?_⟩;refine gH ?_
                first|refine⟨.inr (.inr (aM (l:=cl (an x41)) rfl O.i1 rfl rfl (dR (enc:=an) (s:=2) (k:=0) (λ_=>rfl) (ai hx41) (LV _)) (de (enc:=an) (s:=2) (λ_=>rfl) hx41))),?_⟩|refine⟨.inr (.inl (by kernel_rfl)),?_⟩
                refine gX ?_;refine ca (xA hm O.has) λr42 hm=>?_;refine gH ?_;refine⟨.inl (Ext.refl _),?_⟩;refine gH ?_;refine O.stC 2 (.head _) [(n64 r42.one),(n64 r42.zero)] λh O=>?_;refine gH ?_;refine gX ?_
                refine⟨_,aI rfl rfl O.i0 rfl rfl (lbE rfl) rfl,?_⟩;conv=>whnf
                exact fe hm O
               .refine gX ?_;refine br hm (λhm=>?_) λhm=>?_
                .refine gX ?_;exact Nn hm
                .refine gX ?_;refine ca (bX hm O.has) λr43 hm=>?_;refine gH ?_;refine O.stC 2 (.head _) [(n64 r43.one),(n64 r43.zero)] λh O=>?_;refine gX ?_
                 refine⟨_,aI rfl rfl O.i0 rfl rfl (lbE rfl) rfl,?_⟩;conv=>whnf
                 exact fe hm O
def cU(p0:Wd)(p1:Nat)(p2:Nat)(K:Wd->Prop):Prop :=
 p1<=63/\cf p2 (λr3=>K (⟨(dK (bF p0.one (cH 1 p1)) (aK r3.one (cH 1 p1))),(dK (bF p0.zero (cH 1 p1)) (aK r3.zero (cH 1 p1)))⟩:Wd))
theorem gh{p0:Wd}{p1:Nat}{p2:Nat}{K:Wd->Prop}(hm:cU p0 p1 p2 K){h0:Heap}(hB:aH vars h0):∃r,K r/\al Tryz.prog NG 65 ⟨[an p0,i64 p1,n8 p2]⟩ h0 (an r) h0:=by
 unfold cU at hm
 refine fw Tryz.func65 hB (enc:=an) (λr=>eE _) λO=>?_;conv=>whnf
 refine gX ?_;refine fz ?_;refine gH ?_;refine O.new (aj (l:=[(n64 0),(n64 0)]) rfl rfl rfl) λg1 h O=>?_;refine gH ?_;refine gX ?_;refine JD (a:=1) (b:=p1) hm λhm=>?_;refine gX ?_;refine ca (bX hm O.has) λr3 hm=>?_;refine gH ?_;refine O.new (aj (l:=[(n64 0),(n64 0)]) rfl rfl rfl) λg4 h O=>?_;refine gH ?_;refine O.stC 2 (.head _) [(n64 r3.one),(n64 r3.zero)] λh O=>?_;refine gX ?_;refine oH (a:=p0.one) (b:=(cH 1 p1)) ?_;refine gH ?_;refine jt (a:=r3.one) (b:=(cH 1 p1)) ?_;refine gH ?_;refine uL (a:=(bF p0.one (cH 1 p1))) (b:=(aK r3.one (cH 1 p1))) ?_;refine gH ?_;refine oH (a:=p0.zero) (b:=(cH 1 p1)) ?_;refine gH ?_;refine jt (a:=r3.zero) (b:=(cH 1 p1)) ?_;refine gH ?_;refine uL (a:=(bF p0.zero (cH 1 p1))) (b:=(aK r3.zero (cH 1 p1))) ?_;refine gH ?_;refine O.stC 2 (.tail _ (.head _)) [(n64 (dK (bF p0.one (cH 1 p1)) (aK r3.one (cH 1 p1)))),(n64 (dK (bF p0.zero (cH 1 p1)) (aK r3.zero (cH 1 p1))))] λh O=>?_;refine gX ?_
 refine⟨_,aI rfl rfl O.i1 rfl rfl (lbE rfl) rfl,?_⟩;conv=>whnf
 exact fe hm O
def bP(p0:(List Wd))(p1:(List Wd))(K:Nat->Prop):Prop :=
 aw (α:=Nat) (λk2=>aF (S:=(Nat×Nat)) (λ(v3,v4) nx5=>((ltN v4 p0.length)=true->∃x6,p0[v4]?=some x6/\∃x7,p1[v4]?=some x7/\v4+1<2^63/\nx5 ((dK v3 (dK (bF (aK (bF x6.one x6.zero) x7.zero) x7.one) (bF (aK (bF x6.zero x6.one) x7.one) x7.zero))),(v4+1)))/\((ltN v4 p0.length)=false->k2 v3)) (0,0)) (λv1=>K v1)
theorem jb{p0:(List Wd)}{p1:(List Wd)}{K:Nat->Prop}(hm:bP p0 p1 K){h0:Heap}(hB:aH vars h0):∃r,K r/\al Tryz.prog NG 25 ⟨[(ae 2 an) p0,(ae 2 an) p1]⟩ h0 (n64 r) h0:=by
 unfold bP at hm
 refine fw Tryz.func25 hB (enc:=n64) (λr=>aq.flat rfl) λO=>?_;conv=>whnf
 apply Cs;conv=>whnf
 apply Cs;refine gH ?_;refine jn hm 48 [] (λs=>s) (λv1 h=>Own vars h0 [] h) (λv1=>[(4,(n64 v1))]) (λhm=>?_) ?_
 .refine gX ?_;refine lw 48 [0,1,9] (σ:=(Nat×Nat)) (λs=>s) (λ(v3,v4) h=>Own vars h0 [] h) (λ(v3,v4)=>[(4,(n64 v3)),(10,(i64 v4))]) (0,0) hm O ?_;clear hm;rintro⟨v3,v4⟩ nx5 base h hm O;refine gX ?_;refine br hm (λhm=>?_) λhm=>?_
  .apply Cs;conv=>whnf
   apply Cs;conv=>whnf
   apply Cs;conv=>whnf
   apply Cs;conv=>whnf
   apply Cs;refine gH ?_
   apply Cs;conv=>whnf
   refine CodeS.mV ?_;refine gH ?_;refine atF hm λx6 hx6 hm=>?_;refine gH ?_;refine atF hm λx7 hx7 hm=>?_;refine gH ?_;refine O.oN (aj (l:=[(n64 0),(n64 0)]) rfl rfl rfl) λg8 h O=>?_;refine gH ?_;refine O.oN (aj (l:=[(n64 0),(n64 0)]) rfl rfl rfl) λg10 h O=>?_;refine gH ?_;refine O.stC 2 (.tail _ (.head _)) [(n64 x6.one),(n64 x6.zero)] λh O=>?_;refine gH ?_;refine O.stC 2 (.head _) [(n64 x7.one),(n64 x7.zero)] λh O=>?_;refine gX ?_;refine oH (a:=x6.one) (b:=x6.zero) ?_;refine gH ?_;refine jt (a:=(bF x6.one x6.zero)) (b:=x7.zero) ?_;refine gH ?_;refine oH (a:=(aK (bF x6.one x6.zero) x7.zero)) (b:=x7.one) ?_;refine gH ?_;refine oH (a:=x6.zero) (b:=x6.one) ?_;refine gH ?_;refine jt (a:=(bF x6.zero x6.one)) (b:=x7.one) ?_;refine gH ?_;refine oH (a:=(aK (bF x6.zero x6.one) x7.one)) (b:=x7.zero) ?_;refine gH ?_;refine uL (a:=(bF (aK (bF x6.one x6.zero) x7.zero) x7.one)) (b:=(bF (aK (bF x6.zero x6.one) x7.one) x7.zero)) ?_;refine gH ?_;refine uL (a:=v3) (b:=(dK (bF (aK (bF x6.one x6.zero) x7.zero) x7.one) (bF (aK (bF x6.zero x6.one) x7.one) x7.zero))) ?_;refine gX ?_;refine aJ hm λhm=>?_;refine gH ?_;exact jx ((dK v3 (dK (bF (aK (bF x6.one x6.zero) x7.zero) x7.one) (bF (aK (bF x6.zero x6.one) x7.one) x7.zero))),(v4+1)) hm (O.sel [] (by decide))
  .refine gX ?_;exact jx v3 hm O
 .clear hm;rintro v1 base h hm O;refine gX ?_;exact fe hm O
def cr(p0:Circ)(p1:(List Flt))(p2:(List Pat))(K:Nat->Prop):Prop :=
 aw (α:=Bool) (λk2=>((ltN 65536 p1.length)=true->k2 true)/\((ltN 65536 p1.length)=false->k2 (ltN 4096 p2.length))) (λv1=>(v1=true->K 3)/\(v1=false->cm p0 (λr3=>((neN r3.2 0)=true->K r3.2)/\((neN r3.2 0)=false->aw (α:=Unit) (λk4=>aF (S:=Nat) (λv5 nx6=>((ltN v5 p1.length)=true->∃x7,p1[v5]?=some x7/\cG p0 x7 (λr10=>((neN r10 0)=true->K r10)/\((neN r10 0)=false->((eqN x7.model 1)=true->K 7)/\((eqN x7.model 1)=false->v5+1<2^63/\nx6 (v5+1)))))/\((ltN v5 p1.length)=false->k4 ())) 0) (λ_=>aw (α:=Unit) (λk11=>aF (S:=Nat) (λv12 nx13=>((ltN v12 p2.length)=true->∃x14,p2[v12]?=some x14/\ee p0 x14 (λr17=>((neN r17 0)=true->K r17)/\((neN r17 0)=false->v12+1<2^63/\nx13 (v12+1))))/\((ltN v12 p2.length)=false->k11 ())) 0) (λ_=>K 0))))))
theorem gE{p0:Circ}{p1:(List Flt)}{p2:(List Pat)}{K:Nat->Prop}(hm:cr p0 p1 p2 K){h0:Heap}(hB:aH vars h0):∃r,K r/\al Tryz.prog NG 20 ⟨[az p0,(ae 5 ay) p1,(ae 2 aE) p2]⟩ h0 (i64 r) h0:=by
 unfold cr at hm
 refine fw Tryz.func20 hB (enc:=i64) (λr=>aq.flat rfl) λO=>?_;conv=>whnf
 refine gX ?_;refine fz ?_;refine gH ?_
 apply Cs;conv=>whnf
 refine jn hm 60 [1,2,3] (λs=>s) (λv1 h=>Own vars h0 [] h) (λv1=>[(22,(.bool v1))]) (λhm=>?_) ?_
 .refine gX ?_;refine br hm (λhm=>?_) λhm=>?_
  .refine gX ?_;exact jx true hm O
  .refine gX ?_;exact jx (ltN 4096 p2.length) hm O
 .clear hm;rintro v1 base h hm O;refine gX ?_;refine br hm (λhm=>?_) λhm=>?_
  .refine gX ?_;exact fe hm O
  .refine gX ?_;refine ca (fM hm O.has) λr3 hm=>?_;refine gX ?_;refine br hm (λhm=>?_) λhm=>?_
   .refine gX ?_;exact fe hm O
   .apply Cs;conv=>whnf
    refine jn hm 60 [2,3] (λs=>s) (λ_ h=>Own vars h0 [] h) (λ_=>[]) (λhm=>?_) ?_
    .refine gX ?_;refine lw 60 [2,3,31,32] (σ:=Nat) (λs=>s) (λv5 h=>Own vars h0 [] h) (λv5=>[(33,(i64 v5))]) 0 hm O ?_;clear hm;rintro v5 nx6 base h hm O;refine gX ?_;refine br hm (λhm=>?_) λhm=>?_
     .refine gX ?_;refine atF hm λx7 hx7 hm=>?_;refine gH ?_;refine O.new (aj (l:=[(n8 0),(i64 0),(z64 0),(n8 0),(i64 0)]) rfl rfl rfl) λg8 h O=>?_;refine gH ?_;refine O.stC 5 (.head _) [(n8 x7.model),(i64 x7.line.node),(z64 x7.line.pin),(n8 x7.value),(i64 x7.other)] λh O=>?_;refine gX ?_;refine ldA O.i0 ?_;refine gH ?_;refine ca (fJ hm O.has) λr10 hm=>?_;refine gX ?_;refine br hm (λhm=>?_) λhm=>?_
      .refine gX ?_;exact fe hm O
      .refine gX ?_;refine br hm (λhm=>?_) λhm=>?_
       .refine gX ?_;exact fe hm O
       .refine gX ?_;refine aJ hm λhm=>?_;refine gH ?_;exact jx (v5+1) hm (O.sel [] (by decide))
     .refine gX ?_;exact jx () hm O
    .clear hm;rintro _ base h hm O
     conv=>whnf
     refine jn hm 60 [] (λs=>s) (λ_ h=>Own vars h0 [] h) (λ_=>[]) (λhm=>?_) ?_
     .refine gX ?_;refine lw 60 [3,47,48] (σ:=Nat) (λs=>s) (λv12 h=>Own vars h0 [] h) (λv12=>[(49,(i64 v12))]) 0 hm O ?_;clear hm;rintro v12 nx13 base h hm O;refine gX ?_;refine br hm (λhm=>?_) λhm=>?_
      .refine gX ?_;refine atF hm λx14 hx14 hm=>?_;refine gH ?_;refine O.new (aj (l:=[nS,nS]) rfl rfl rfl) λg15 h O=>?_;refine gH ?_;refine O.stC 2 (.head _) [((ae 1 n8) x14.inp),((ae 1 n8) x14.state)] λh O=>?_;refine gX ?_;refine ldA O.i0 ?_;refine gH ?_;refine ca (kD hm O.has) λr17 hm=>?_;refine gX ?_;refine br hm (λhm=>?_) λhm=>?_
       .refine gX ?_;exact fe hm O
       .refine gX ?_;refine aJ hm λhm=>?_;refine gH ?_;exact jx (v12+1) hm (O.sel [] (by decide))
      .refine gX ?_;exact jx () hm O
     .clear hm;rintro _ base h hm O;refine gX ?_;exact fe hm O
set_option maxHeartbeats 8000000
def yQ(p0:Nat)(p1:Wd)(K:Wd->Prop):Prop :=
 K p1
theorem Be{p0:Nat}{p1:Wd}{K:Wd->Prop}(hm:yQ p0 p1 K){h0:Heap}(hB:aH vars h0):∃r,K r/\al Tryz.prog NG 57 ⟨[i64 p0,an p1]⟩ h0 (an r) h0:=by
 unfold yQ at hm
 refine fw Tryz.func57 hB (enc:=an) (λr=>eE _) λO=>?_;conv=>whnf
 refine gX ?_;refine fz ?_;refine gH ?_;refine O.new (aj (l:=[(n64 0),(n64 0)]) rfl rfl rfl) λg1 h O=>?_;refine gH ?_;refine gX ?_;refine O.stC 2 (.head _) [(n64 p1.one),(n64 p1.zero)] λh O=>?_;refine gX ?_
 refine⟨_,aI rfl rfl O.i0 rfl rfl (lbE rfl) rfl,?_⟩;conv=>whnf
 exact fe hm O
def yV(p0:Nat)(p1:Nat)(p2:Wd)(K:Wd->Prop):Prop :=
 K p2
theorem Am{p0:Nat}{p1:Nat}{p2:Wd}{K:Wd->Prop}(hm:yV p0 p1 p2 K){h0:Heap}(hB:aH vars h0):∃r,K r/\al Tryz.prog NG 58 ⟨[i64 p0,i64 p1,an p2]⟩ h0 (an r) h0:=by
 unfold yV at hm
 refine fw Tryz.func58 hB (enc:=an) (λr=>eE _) λO=>?_;conv=>whnf
 refine gX ?_;refine fz ?_;refine gH ?_;refine O.new (aj (l:=[(n64 0),(n64 0)]) rfl rfl rfl) λg1 h O=>?_;refine gH ?_;refine gX ?_;refine O.stC 2 (.head _) [(n64 p2.one),(n64 p2.zero)] λh O=>?_;refine gX ?_
 refine⟨_,aI rfl rfl O.i0 rfl rfl (lbE rfl) rfl,?_⟩;conv=>whnf
 exact fe hm O
def tB(p0:Nat)(p1:Nat)(p2:Wd)(f:Flt)(x:Wd)(K:Wd->Prop):Prop :=
 aw (α:=Bool) (λk4=>((eqN p0 f.line.node)=true->k4 (eqZ (LQ p1) f.line.pin))/\((eqN p0 f.line.node)=false->k4 false)) (λv3=>(v3=true->K x)/\(v3=false->K p2))
theorem Bn{p0:Nat}{p1:Nat}{p2:Wd}{f:Flt}{x:Wd}{K:Wd->Prop}(hm:tB p0 p1 p2 f x K){h0:Heap}(hB:aH vars h0):∃r,K r/\al Tryz.prog NG 169 ⟨[i64 p0,i64 p1,an p2,FP (ay f),FP (an x)]⟩ h0 (an r) h0:=by
 unfold tB at hm
 refine fw Tryz.func169 hB (enc:=an) (λr=>eE _) λO=>?_;conv=>whnf
 refine gX ?_;refine fz ?_;refine gH ?_;refine O.new (aj (l:=[(n64 0),(n64 0)]) rfl rfl rfl) λg1 h O=>?_;refine gH ?_
 apply Cs;conv=>whnf
 refine jn hm 23 [4,7,8] (λs=>s) (λv3 h=>Own vars h0 [(sC g1 [(n64 0),(n64 0)])] h) (λv3=>[(20,(.bool v3))]) (λhm=>?_) ?_
 .refine gX ?_;refine br hm (λhm=>?_) λhm=>?_
  .refine gX ?_;exact jx (eqZ (LQ p1) f.line.pin) hm O
  .refine gX ?_;exact jx false hm O
 .clear hm;rintro v3 base h hm O;refine gX ?_;refine br hm (λhm=>?_) λhm=>?_
  .refine gX ?_;refine O.stC 2 (.head _) [(n64 x.one),(n64 x.zero)] λh O=>?_;refine gX ?_
   refine⟨_,aI rfl rfl O.i0 rfl rfl (lbE rfl) rfl,?_⟩;conv=>whnf
   exact fe hm O
  .refine gX ?_;refine O.stC 2 (.head _) [(n64 p2.one),(n64 p2.zero)] λh O=>?_;refine gX ?_
   refine⟨_,aI rfl rfl O.i0 rfl rfl (lbE rfl) rfl,?_⟩;conv=>whnf
   exact fe hm O
def tj(p0:Nat)(p1:Wd)(f:Flt)(x:Wd)(K:Wd->Prop):Prop :=
 aw (α:=Bool) (λk4=>((eqN p0 f.line.node)=true->k4 true)/\((eqN p0 f.line.node)=false->((eqN f.model 2)=true->k4 (eqN p0 f.other))/\((eqN f.model 2)=false->k4 false))) (λv3=>(v3=true->K x)/\(v3=false->K p1))
theorem Br{p0:Nat}{p1:Wd}{f:Flt}{x:Wd}{K:Wd->Prop}(hm:tj p0 p1 f x K){h0:Heap}(hB:aH vars h0):∃r,K r/\al Tryz.prog NG 170 ⟨[i64 p0,an p1,FP (ay f),FP (an x)]⟩ h0 (an r) h0:=by
 unfold tj at hm
 refine fw Tryz.func170 hB (enc:=an) (λr=>eE _) λO=>?_;conv=>whnf
 refine gX ?_;refine fz ?_;refine gH ?_;refine O.new (aj (l:=[(n64 0),(n64 0)]) rfl rfl rfl) λg1 h O=>?_;refine gH ?_
 apply Cs;conv=>whnf
 refine jn hm 25 [3,5,6] (λs=>s) (λv3 h=>Own vars h0 [(sC g1 [(n64 0),(n64 0)])] h) (λv3=>[(22,(.bool v3))]) (λhm=>?_) ?_
 .refine gX ?_;refine br hm (λhm=>?_) λhm=>?_
  .refine gX ?_;exact jx true hm O
  .refine gX ?_;refine br hm (λhm=>?_) λhm=>?_
   .refine gX ?_;exact jx (eqN p0 f.other) hm O
   .refine gX ?_;exact jx false hm O
 .clear hm;rintro v3 base h hm O;refine gX ?_;refine br hm (λhm=>?_) λhm=>?_
  .refine gX ?_;refine O.stC 2 (.head _) [(n64 x.one),(n64 x.zero)] λh O=>?_;refine gX ?_
   refine⟨_,aI rfl rfl O.i0 rfl rfl (lbE rfl) rfl,?_⟩;conv=>whnf
   exact fe hm O
  .refine gX ?_;refine O.stC 2 (.head _) [(n64 p1.one),(n64 p1.zero)] λh O=>?_;refine gX ?_
   refine⟨_,aI rfl rfl O.i0 rfl rfl (lbE rfl) rfl,?_⟩;conv=>whnf
   exact fe hm O
theorem fK{α:Type}{first:(α->Prop)->Prop}{rest:α->Prop}(P:α->Prop)(h1:∀k,(∀a,P a->k a)->first k)(h2:∀a,P a->rest a):aw first rest:=h1 rest h2
theorem cQ{α:Type}{a:α}{first:(α->Prop)->Prop}{rest:α->Prop}(h1:rest a->first rest)(h2:rest a):aw first rest:=h1 h2
def KI(e d:Nat):Nat:=if e=0 then 3 else if e=1 then min d 2 else 2
def zo(v:Nat):Nat:=if 3<v then 2 else v
def LM(l:List Nat):Option Nat:=l.findIdx? λv=>v != 3
def KE(l:List Nat):Nat:=match LM l with
 |none=>3
 |some i=>if (l.contains 0&&l.contains 1)||l.any (λv=>zo v==2) then 2 else l.getD i 0
def fN(k:Nat)(l:List Nat):Nat:=if k=12 then KI (l.getD 0 0) (l.getD 1 0) else if k=13 then KE l else uC k l
theorem G8(i:Nat):(!ltI (LQ i) (LQ 0))=true:=by
 have:ltI (LQ i) (LQ 0)=false:=xm.2 (MN i);rw[this];rfl
theorem I7{l:List Nat}{p:Nat->Bool}{K:Int->Prop}{body:(Unit->Prop)->Nat->(Nat->Prop)->Prop}(hl:l.length<2^60)
  (step:∀k i nx x,l[i]?=some x->(p x=true->K (LQ i))->(p x=false->i+1<2^63/\nx (i+1))->body k i nx) (fin:∀k i nx,l.length<=i->k ()->body k i nx)
  (h1:∀i,l.findIdx? p=some i->K (LQ i)) (h2:l.findIdx? p=none->K (Mj 0)):aw (λk1=>aF (λv2 nx3=>body k1 v2 nx3) 0) (λ_:Unit=>K (Mj 0)):=by
 refine aB (λi=>i<=l.length/\∀j x,j<i->l[j]?=some x->p x=false) (λi=>l.length-i) (λ_=>l.findIdx? p=none) ?_ ⟨L1 _,λj x h=>absurd h (Mu _)⟩ (λ_ e=>h2 e);intro k i nx ⟨hi,hI⟩ hnx hk;by_cases c:i<l.length
 .obtain⟨x,hx⟩:=aA c;refine step k i nx x hx (λe=>h1 i ?_) (λe=>⟨by omega,hnx (i+1) ⟨c,λj y hj hy=>?_⟩ (by omega)⟩)
  .rw[OL];obtain⟨q1,q2⟩:=LX.1 hx;refine⟨q1,by rw[q2];exact e,λj hj=>?_⟩;have:=hI j _ hj (LU (by omega));simp[this]
  .by_cases q:j=i
   .subst q;rw[hx] at hy;cases hy;exact e
   .exact hI j y (by omega) hy
 .refine fin k i nx (by omega) (hk () ?_);rw[QN];intro x m;obtain⟨j,hj,rfl⟩:=NH m;exact hI j _ (by omega) (LU hj)
theorem FT{v:Nat}{K:Nat->Prop}(h:K (zo v)):gI v K:=by
 unfold gI;unfold zo at h;refine⟨λe=>?_,λe=>?_⟩
 .rw[if_pos (aX.1 e)] at h;exact h
 .rw[if_neg (Nat.not_lt.2 (bC.1 e))] at h;exact h
theorem BA{l:List Nat}{p:Nat->Bool}:(∀i,l.findIdx? p=some i->l.any p=true)/\(l.findIdx? p=none->l.any p=false):=by
 refine⟨λi h=>?_,λh=>?_⟩
 .rw[OL] at h;obtain⟨h1,h2,_⟩:=h;exact O9.2 ⟨_,Nw h1,h2⟩
 .rw[QN] at h
  exact List.any_eq_false.2 λx m=>by simp[h x m]
theorem pJ{n:Nat}(h:eL 14 n):n=1:=by
 obtain⟨h1,h2⟩:=h
 have e1:loN 14=1:=by decide
 have e2:hiZ 14=1:=by decide
 rw[e1] at h1;rw[e2] at h2;simp only[L4] at h2;omega
theorem FI{k:Nat}{l:List Nat}{K:Nat->Prop}(hk0:1<=k)(hk:k<12)(ha:eL k l.length)(hl:l.length<2^60)(h:K (fN k l)):bL k l K:=by
 unfold fN at h;rw[if_neg (by omega),if_neg (by omega)] at h;exact Im hk0 hk ha hl h
theorem Hb(k:Nat)(l:List Nat):uC k l<=2:=by
 have hn:∀v,gz v<=2:=λv=>by unfold gz;split <;> omega
 have hx:∀(l:List Nat) (o:Nat),o<=1->mD l o<=2:=by
  intro l
  induction l with
  |nil=>intro o ho;unfold mD;omega
  |cons v r ih =>
   intro o ho;unfold mD;split
   .refine ih _ ?_
    have q1:o=0\/o=1:=by omega
    have q2:v=0\/v=1:=by omega
    rcases q1 with rfl|rfl <;> rcases q2 with rfl|rfl <;> decide
   .omega
 have hd:∀(low high:Nat) (l:List Nat) (o:Nat),low<=2->o<=2->jH low high l o<=2:=by
  intro low high l
  induction l with
  |nil=>intro o h1 h2;exact h2
  |cons v r ih =>
   intro o h1 h2;unfold jH;split
   .exact h1
   .refine ih _ h1 ?_;split
    .exact h2
    .omega
 unfold uC
 repeat' split
 all_goals first|omega|exact hn _|exact hd _ _ _ _ (by decide) (by decide) | exact hx _ _ (by decide) | (unfold vU;repeat' split) <;> omega
theorem Ba(k:Nat){l:List Nat}(hl:∀v∈l,v<=3):fN k l<=3:=by
 unfold fN;split
 .unfold KI;repeat' split
  all_goals omega
 split
 .unfold KE;split
  .omega
  .split
   .omega
   .rename_i i hi _;obtain⟨h1,h2,_⟩:=OL.1 hi;rw[List.getD,LU h1];exact hl _ (Nw h1)
 .have:=Hb k l;omega
structure CloN where
 fn:FuncId
 caps:List Value
 F:Nat->Wd->Wd
 pure:ag caps
 ok:∀(n:Nat) (w:Wd) {h:Heap},aH vars h->al Tryz.prog NG fn ⟨i64 n::an w::caps⟩ h (an (F n w)) h
def fP(x:CloN):Value:=.func (.func x.fn) ⟨[]⟩ ⟨x.caps⟩
structure CloP where
 fn:FuncId
 caps:List Value
 F:Nat->Nat->Wd->Wd
 pure:ag caps
 ok:∀(n j:Nat) (w:Wd) {h:Heap},aH vars h->al Tryz.prog NG fn ⟨i64 n::i64 j::an w::caps⟩ h (an (F n j w)) h
def ff(x:CloP):Value:=.func (.func x.fn) ⟨[]⟩ ⟨x.caps⟩
theorem D3(x:CloN):aq (fP x):=aq.func ag.nil x.pure
theorem DX(x:CloP):aq (ff x):=aq.func ag.nil x.pure
structure Eng where
 circ:Circ
 order:List Nat
 ins:List Nat
 state:List Nat
 net:CloN
 pin:CloP
def eg(x:Eng):Value:=.agg ⟨cl (az x.circ)++[ae 1 i64 x.order,ae 1 i64 x.ins,ae 1 i64 x.state,fP x.net,ff x.pin]⟩
theorem tN(l:List Nat):aq (ae 1 i64 l):=cg λ_=>ag.cons (aq.flat rfl) ag.nil
theorem Ez(x:Eng):ag (cl (eg x)):=(vn x.circ).append (ag.cons (tN _) (ag.cons (tN _) (ag.cons (tN _) (ag.cons (D3 _) (ag.cons (DX _) ag.nil)))))
theorem Bv(x:Eng):aq (eg x):=aq.agg (Ez x)
theorem pB{f:FuncId}{vs:Array Value}{r:Wd}{h:Heap}(w:∃q,r=q/\al Tryz.prog NG f vs h (an q) h):al Tryz.prog NG f vs h (an r) h:=by
 obtain⟨q,rfl,c⟩:=w;exact c
def G3:CloN where
 fn:=57
 caps:=[]
 F:=λ_ w=>w
 pure:=ag.nil
 ok:=λn w _ hB=>pB (Be (p0:=n) (p1:=w) rfl hB)
def G7:CloP where
 fn:=58
 caps:=[]
 F:=λ_ _ w=>w
 pure:=ag.nil
 ok:=λn j w _ hB=>pB (Am (p0:=n) (p1:=j) (p2:=w) rfl hB)
def F5(f:Flt)(x:Wd):Nat->Nat->Wd->Wd:=λn j w=>if n=f.line.node/\LQ j=f.line.pin then x else w
def FU(f:Flt)(x:Wd):Nat->Wd->Wd:=λn w=>if n=f.line.node\/(f.model=2/\n=f.other) then x else w
theorem Dk(f:Flt)(x:Wd):ag [FP (ay f),FP (an x)]:=ag.cons (aq.fp (pN f)) (ag.cons (aq.fp (lz x)) ag.nil)
def Jx(f:Flt)(x:Wd):CloP where
 fn:=169
 caps:=[FP (ay f),FP (an x)]
 F:=F5 f x
 pure:=Dk f x
 ok:=λn j w _ hB=>pB (Bn (p0:=n) (p1:=j) (p2:=w) (f:=f) (x:=x) (by
  unfold tB
  refine fK (λb=>b=decide (n=f.line.node/\LQ j=f.line.pin)) (λk hk=>⟨λq=>hk _ ?_,λq=>hk _ ?_⟩) λb hb=>⟨λq=>?_,λq=>?_⟩
  .have q:=cJ.1 q
   rw[MW,Hd]
   simp[q]
  .have q:=cF.1 q
   simp[q]
  .rw[q] at hb
   exact if_pos (of_decide_eq_true hb.symm)
  .rw[q] at hb
   exact if_neg (of_decide_eq_false hb.symm)) hB)
def Jt(f:Flt)(x:Wd):CloN where
 fn:=170
 caps:=[FP (ay f),FP (an x)]
 F:=FU f x
 pure:=Dk f x
 ok:=λn w _ hB=>pB (Br (p0:=n) (p1:=w) (f:=f) (x:=x) (by
  unfold tj
  refine fK (λb=>b=decide (n=f.line.node\/(f.model=2/\n=f.other))) (λk hk=>⟨λq=>hk _ ?_,λq=>⟨λq2=>hk _ ?_,λq2=>hk _ ?_⟩⟩) λb hb=>⟨λq=>?_,λq=>?_⟩
  .have q:=cJ.1 q
   simp[q]
  .have q:=cF.1 q
   have q2:=cJ.1 q2
   rw[MW,cJ]
   simp[q,q2]
  .have q:=cF.1 q
   have q2:=cF.1 q2
   simp[q,q2]
  .rw[q] at hb
   exact if_pos (of_decide_eq_true hb.symm)
  .rw[q] at hb
   exact if_neg (of_decide_eq_false hb.symm)) hB)
end Go.Proofs.YtglgdkineobbeaaGreatDoor
