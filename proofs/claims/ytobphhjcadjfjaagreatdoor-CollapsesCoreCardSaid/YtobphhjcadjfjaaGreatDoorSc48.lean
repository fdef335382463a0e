/-
  Ln2, W0, P1, P2, U1, P3, P4, P5, F1, M1, P6, P7, P8: parts of the proof.
-/
import Derived.Test.YtobphhjcadjfjaaGreatDoorSc47
namespace Go.Proofs.YtobphhjcadjfjaaGreatDoor
open Go.Abs
set_option maxRecDepth 100000
structure N2 where
 a:Nat
 b:Nat
deriving DecidableEq
def aK (x:N2):Value:=.agg ⟨[i64 x.a,i64 x.b]⟩
theorem BT (x:N2):ai (cl (aK x)):=ai.cons (PureV.flat rfl) (ai.cons (PureV.flat rfl) ai.nil)
structure Rul where
 pin:Nat
 out:Nat
def pD (x:Rul):Value:=.agg ⟨[n8 x.pin,n8 x.out]⟩
theorem uh (x:Rul):ai (cl (pD x)):=ai.cons (PureV.flat rfl) (ai.cons (PureV.flat rfl) ai.nil)
theorem BM (x:Rul):PureV (pD x):=PureV.agg (uh x)
structure Sus where
 fault:Nat
 both:Nat
 missed:Nat
 extra:Nat
deriving DecidableEq
set_option maxHeartbeats 80000000
def ee (c:Circ) (K:((List Nat)×(List Nat)×Nat)->Prop):Prop :=
 an (α:=((List Nat)×Nat)) (fun k10=>ar (S:=((List Nat)×Nat×Nat)) (fun (v12,v13,v14) nx16=>((ltN v14 c.nodes.length)=true->∃ x17,c.nodes[v14]?=some x17/\(v12.length+([v13]:(List Nat)).length)*8<=2 ^ 47/\x17.ins.length+1<2 ^ 63/\2*(x17.ins.length+1)<2 ^ 63/\v13+(2*(x17.ins.length+1))<2 ^ 63/\v14+1<2 ^ 63/\nx16 ((v12++([v13]:(List Nat))),(v13+(2*(x17.ins.length+1))),(v14+1)))/\((ltN v14 c.nodes.length)=false->k10 (v12,v13))) (([]:List Nat),0,0)) (fun (v7,v8)=>8*v8<=2 ^ 48/\v8<2 ^ 63/\an (α:=(List Nat)) (fun k27=>ar (S:=((List Nat)×Nat)) (fun (v28,v29) nx31=>((ltN v29 v8)=true->v29<v8/\∃ x32,v28[v29]?=some x32/\v29+1<2 ^ 63/\nx31 ((v28.set v29 v29),(v29+1)))/\((ltN v29 v8)=false->k27 v28)) ((List.replicate v8 (0:Nat)),0)) (fun v25=>K (v7,v25,v8)))
theorem pH {c:Circ}  {L:List Slot}{K:((List Nat)×(List Nat)×Nat)->Prop} (hm:ee c K) {h0 h:Heap}  (O:Own vars h0 (L) h):∃ v h',CallD Tryz.prog NG 54 ⟨[(aB c)]⟩ h v h'/\∃ (w2:(List Nat)) (w4:(List Nat)) (w5:Nat) (b0:Nat) (b1:Option Nat) (b3:Nat),K (w2,w4,w5)/\v=(.pointer (some ⟨b0,0,none⟩))/\(b1=none->w2=[])/\Own vars h0 (((some b0),.cells [(ag 1 b1 (w2.map i64)),(.slice (some ⟨b3,0,none⟩) w5 w5)] false)::(b1,.cells (flatC (w2.map i64)) false)::((some b3),.cells (flatC (w4.map i64)) false)::L) h'/\True:=by
 unfold ee at hm
 refine fg Tryz.func54 (Q:=fun v h'=>∃ (w2:(List Nat)) (w4:(List Nat)) (w5:Nat) (b0:Nat) (b1:Option Nat) (b3:Nat),K (w2,w4,w5)/\v=(.pointer (some ⟨b0,0,none⟩))/\(b1=none->w2=[])/\Own vars h0 (((some b0),.cells [(ag 1 b1 (w2.map i64)),(.slice (some ⟨b3,0,none⟩) w5 w5)] false)::(b1,.cells (flatC (w2.map i64)) false)::((some b3),.cells (flatC (w4.map i64)) false)::L) h'/\True) ?_;conv=>whnf
 refine gX ?_
 refine fz ?_;refine gX ?_
 have O:=O.aM (.cells (flatC ((([]:List Nat)).map i64)) false)
 have O:=O.aM (.cells (flatC ((([]:List Nat)).map i64)) false)
 (first|refine O.new (nJ rfl) fun g2 h O=>?_|refine O.dy (nJ rfl) fun g2 h O=>?_);refine gH ?_
 apply Cs;conv=>whnf
 apply Cs;refine gH ?_
 refine jn (σ:=((List Nat)×Nat)×Option Nat) hm 57 [3] (fun s=>s.1) (fun ((v7,v8),a6) h=>(a6=none->v7=[])/\Own vars h0 (((some g2),.cells [(ag 1 a6 (v7.map i64)),(ag 1 none (([]:List Nat).map i64))] false)::(a6,.cells (flatC (v7.map i64)) false)::(none,.cells (flatC (([]:List Nat).map i64)) false)::L) h) (fun ((v7,v8),a6)=>[(4,(i64 v8))]) (fun hm=>?_) ?_
 ·refine gX ?_
  refine lw 57 [3,11,12] (σ:=((List Nat)×Nat×Nat)×Option Nat) (fun s=>s.1) (fun ((v12,v13,v14),a11) h=>(a11=none->v12=[])/\Own vars h0 (((some g2),.cells [(ag 1 a11 (v12.map i64)),(ag 1 none (([]:List Nat).map i64))] false)::(a11,.cells (flatC (v12.map i64)) false)::(none,.cells (flatC (([]:List Nat).map i64)) false)::L) h) (fun ((v12,v13,v14),a11)=>[(4,(i64 v13)),(13,(i64 v14))]) ((([]:List Nat),0,0),none) hm ⟨(fun _=>rfl),(Own.gK [((some g2),.cells [(ag 1 none (([]:List Nat).map i64)),(ag 1 none (([]:List Nat).map i64))] false),(none,.cells (flatC (([]:List Nat).map i64)) false),(none,.cells (flatC (([]:List Nat).map i64)) false)] O [0,2,1] (by decide))⟩ ?_
  clear hm;rintro⟨⟨v12,v13,v14⟩,a11⟩ nx16 base h hm ⟨ha15,O⟩
  refine gX ?_
  refine br hm (fun hm=>?_) fun hm=>?_
  ·refine gX ?_
   refine atF hm fun x17 hx17 hm=>?_;refine gH ?_
   have O:=O.aM (.cells (flatC ((([]:List Nat)).map i64)) false)
   (first|refine O.new (ak (l:=[(n8 0),(.slice none 0 0),(i64 0),(i64 0)]) rfl rfl rfl) fun g18 h O=>?_|refine O.dy (ak (l:=[(n8 0),(.slice none 0 0),(i64 0),(i64 0)]) rfl rfl rfl) fun g18 h O=>?_);refine gH ?_
   refine O.stC 4 (.head _) [(n8 x17.kind),((ah 1 i64) x17.ins),(i64 x17.mem),(i64 x17.bit)] fun h O=>?_;refine gX ?_
   refine fz ?_;refine gH ?_
   refine O.apL (enc:=i64) (l:=v12) (new:=([v13]:(List Nat))) 1 (.tail _ (.tail _ (.tail _ (.head _)))) ha15 hm fun a21 h ha22 O hm=>?_;refine gH ?_
   refine O.stC 1 (.tail _ (.tail _ (.head _))) [(ag 1 a21 ((v12++([v13]:(List Nat))).map i64)),(ag 1 none (([]:List Nat).map i64))] fun h O=>?_;refine gX ?_
   refine aL hm fun hm=>?_;refine gH ?_
   refine C3 hm fun hm=>?_;refine gH ?_
   refine aL hm fun hm=>?_;refine gX ?_
   refine aL hm fun hm=>?_;refine gH ?_
   exact jx (((v12++([v13]:(List Nat))),(v13+(2*(x17.ins.length+1))),(v14+1)),a21) hm ⟨ha22,(Own.gK [((some g18),.cells [(n8 x17.kind),((ah 1 i64) x17.ins),(i64 x17.mem),(i64 x17.bit)] false),(none,.cells (flatC (([]:List Nat).map i64)) false),((some g2),.cells [(ag 1 a21 ((v12++([v13]:(List Nat))).map i64)),(ag 1 none (([]:List Nat).map i64))] false),(a21,.cells (flatC ((v12++([v13]:(List Nat))).map i64)) false),(none,.cells (flatC (([]:List Nat).map i64)) false)] O [2,3,4] (by decide))⟩
  ·refine gX ?_
   exact jx ((v12,v13),a11) hm ⟨ha15,O⟩
 ·clear hm;rintro⟨⟨v7,v8⟩,a6⟩ base h hm ⟨ha9,O⟩
  refine gX ?_
  refine O.mkL (enc:=i64) 8 1 0 hm fun g23 h O hm=>?_;refine gH ?_
  refine O.stC 1 (.tail _ (.head _)) [(ag 1 a6 (v7.map i64)),(.slice (some ⟨g23,0,none⟩) v8 v8)] fun h O=>?_;refine gH ?_
  refine jn hm 57 [3] (fun s=>s) (fun v25 h=>(a6=none->v7=[])/\Own vars h0 (((some g2),.cells [(ag 1 a6 (v7.map i64)),(.slice (some ⟨g23,0,none⟩) v8 v8)] false)::(a6,.cells (flatC (v7.map i64)) false)::((some g23),.cells (flatC (v25.map i64)) false)::L) h) (fun v25=>[]) (fun hm=>?_) ?_
  ·refine gX ?_
   refine lw 57 [3,44] (σ:=((List Nat)×Nat)) (fun s=>s) (fun (v28,v29) h=>(a6=none->v7=[])/\Own vars h0 (((some g2),.cells [(ag 1 a6 (v7.map i64)),(.slice (some ⟨g23,0,none⟩) v8 v8)] false)::(a6,.cells (flatC (v7.map i64)) false)::((some g23),.cells (flatC (v28.map i64)) false)::L) h) (fun (v28,v29)=>[(45,(i64 v29))]) ((List.replicate v8 (0:Nat)),0) hm ⟨ha9,(Own.gK [((some g23),.cells (flatC ((List.replicate v8 (0:Nat)).map i64)) false),((some g2),.cells [(ag 1 a6 (v7.map i64)),(.slice (some ⟨g23,0,none⟩) v8 v8)] false),(a6,.cells (flatC (v7.map i64)) false),(none,.cells (flatC (([]:List Nat).map i64)) false)] O [1,2,0] (by decide))⟩ ?_
   clear hm;rintro⟨v28,v29⟩ nx31 base h hm ⟨ha30,O⟩
   refine gX ?_
   refine br hm (fun hm=>?_) fun hm=>?_
   ·refine gX ?_
    refine ix 1 hm fun x32 hx32 hm=>?_;refine gH ?_
    refine O.stE 1 (.tail _ (.tail _ (.head _))) hx32 v29 fun h O=>?_;refine gX ?_
    refine aL hm fun hm=>?_;refine gH ?_
    exact jx ((v28.set v29 v29),(v29+1)) hm ⟨ha30,O⟩
   ·refine gX ?_
    exact jx v28 hm ⟨ha30,O⟩
  ·clear hm;rintro v25 base h hm ⟨ha26,O⟩
   refine gX ?_
   exact⟨v7,v25,v8,g2,a6,g23,hm,rfl,ha26,O,trivial⟩
def bU (np:Nat) (_:List Nat) (ps:List Nat) (i:Nat) (K:((List Nat)×Nat)->Prop):Prop :=
 an (α:=(Nat×(List Nat))) (fun k5=>ar (S:=((List Nat)×Nat)) (fun (v6,v7) nx9=>v7<np/\∃ x10,v6[v7]?=some x10/\((neN x10 v7)=true->v7<np/\∃ x11,v6[v7]?=some x11/\x11<np/\∃ x12,v6[x11]?=some x12/\v7<np/\∃ x13,v6[v7]?=some x13/\v7<np/\∃ x14,(v6.set v7 x12)[v7]?=some x14/\nx9 ((v6.set v7 x12),x14))/\((neN x10 v7)=false->k5 (v7,v6))) (ps,i)) (fun (v2,v3)=>K (v3,v2))
theorem dj {np:Nat}{fs:List Nat}{ps:List Nat}{i:Nat}{gt:Nat}{ga:Option Nat}{gb:Nat}{L:List Slot}{K:((List Nat)×Nat)->Prop} (hm:bU np fs ps i K) {h0 h:Heap} (ha0:ga=none->fs=[]) (O:Own vars h0 (((some gt),.cells [(ag 1 ga (fs.map i64)),(.slice (some ⟨gb,0,none⟩) np np)] false)::(ga,.cells (flatC (fs.map i64)) false)::((some gb),.cells (flatC (ps.map i64)) false)::L) h):∃ v h',CallD Tryz.prog NG 34 ⟨[(.pointer (some ⟨gt,0,none⟩)),(i64 i)]⟩ h v h'/\∃ (w0:(List Nat)) (w1:Nat),K (w0,w1)/\v=(i64 w1)/\(ga=none->fs=[])/\Own vars h0 (((some gt),.cells [(ag 1 ga (fs.map i64)),(.slice (some ⟨gb,0,none⟩) np np)] false)::(ga,.cells (flatC (fs.map i64)) false)::((some gb),.cells (flatC (w0.map i64)) false)::L) h'/\True:=by
 unfold bU at hm
 refine fg Tryz.func34 (Q:=fun v h'=>∃ (w0:(List Nat)) (w1:Nat),K (w0,w1)/\v=(i64 w1)/\(ga=none->fs=[])/\Own vars h0 (((some gt),.cells [(ag 1 ga (fs.map i64)),(.slice (some ⟨gb,0,none⟩) np np)] false)::(ga,.cells (flatC (fs.map i64)) false)::((some gb),.cells (flatC (w0.map i64)) false)::L) h'/\True) ?_;conv=>whnf
 apply Cs;conv=>whnf
 apply Cs;refine gH ?_
 refine jn hm 41 [] (fun s=>s) (fun (v2,v3) h=>(ga=none->fs=[])/\Own vars h0 (((some gt),.cells [(ag 1 ga (fs.map i64)),(.slice (some ⟨gb,0,none⟩) np np)] false)::(ga,.cells (flatC (fs.map i64)) false)::((some gb),.cells (flatC (v3.map i64)) false)::L) h) (fun (v2,v3)=>[(1,(i64 v2))]) (fun hm=>?_) ?_
 ·refine gX ?_
  refine lw 41 [0] (σ:=((List Nat)×Nat)) (fun s=>s) (fun (v6,v7) h=>(ga=none->fs=[])/\Own vars h0 (((some gt),.cells [(ag 1 ga (fs.map i64)),(.slice (some ⟨gb,0,none⟩) np np)] false)::(ga,.cells (flatC (fs.map i64)) false)::((some gb),.cells (flatC (v6.map i64)) false)::L) h) (fun (v6,v7)=>[(1,(i64 v7))]) (ps,i) hm ⟨ha0,O⟩ ?_
  clear hm;rintro⟨v6,v7⟩ nx9 base h hm ⟨ha8,O⟩
  refine gX ?_
  refine ix 1 hm fun x10 hx10 hm=>?_;refine gH ?_
  refine ldE (s:=1) (i:=0) (O.at (.tail _ (.tail _ (.head _)))) hx10 ?_;refine gX ?_
  refine br hm (fun hm=>?_) fun hm=>?_
  ·refine gX ?_
   first|refine⟨.inr (.inr (ae rfl (O.at (.head _)) rfl rfl)),?_⟩|refine⟨.inr (.inl (by kernel_rfl)),?_⟩
   refine gX ?_
   first|refine⟨.inr (.inr (ae rfl (O.at (.head _)) rfl rfl)),?_⟩|refine⟨.inr (.inl (by kernel_rfl)),?_⟩
   refine gX ?_
   first|refine⟨.inr (.inr (ae rfl (O.at (.head _)) rfl rfl)),?_⟩|refine⟨.inr (.inl (by kernel_rfl)),?_⟩
   refine gX ?_
   refine ix 1 hm fun x11 hx11 hm=>?_;refine gH ?_
   refine⟨_,ae rfl (O.at (.tail _ (.tail _ (.head _)))) rfl (bC (enc:=i64) (s:=1) (k:=0) (fun _=>rfl) hx11 rfl),?_⟩;refine gH ?_
   refine ix 1 hm fun x12 hx12 hm=>?_;refine gH ?_
   refine⟨_,ae rfl (O.at (.tail _ (.tail _ (.head _)))) rfl (bC (enc:=i64) (s:=1) (k:=0) (fun _=>rfl) hx12 rfl),?_⟩;refine gH ?_
   refine ix 1 hm fun x13 hx13 hm=>?_;refine gH ?_
   refine O.stE 1 (.tail _ (.tail _ (.head _))) hx13 x12 fun h O=>?_;refine gH ?_
   (first|refine⟨.inr (.inr (ae rfl (O.at (.head _)) rfl rfl)),?_⟩|refine⟨.inr (.inr (ae rfl (O.at (.tail _ (.head _))) rfl rfl)),?_⟩|refine⟨.inr (.inr (ae rfl (O.at (.tail _ (.tail _ (.head _)))) rfl rfl)),?_⟩|refine⟨.inr (.inr (ae rfl (O.at (.tail _ (.tail _ (.tail _ (.head _))))) rfl rfl)),?_⟩|refine⟨.inr (.inr (ae rfl (O.at (.tail _ (.tail _ (.tail _ (.tail _ (.head _)))))) rfl rfl)),?_⟩|refine⟨.inr (.inr (ae rfl (O.at (.tail _ (.tail _ (.tail _ (.tail _ (.tail _ (.head _))))))) rfl rfl)),?_⟩|refine⟨.inr (.inr (ae rfl (O.at (.tail _ (.tail _ (.tail _ (.tail _ (.tail _ (.tail _ (.head _)))))))) rfl rfl)),?_⟩|refine⟨.inl (Ext.refl _),?_⟩|refine⟨.inr (.inr rfl),?_⟩|refine⟨.inr (by kernel_rfl),?_⟩|refine⟨.inl (by kernel_rfl),?_⟩|refine id ?_);refine gH ?_
   refine gX ?_
   refine ix 1 hm fun x14 hx14 hm=>?_;refine gH ?_
   refine ldE (s:=1) (i:=0) (O.at (.tail _ (.tail _ (.head _)))) hx14 ?_;refine gH ?_
   exact jx ((v6.set v7 x12),x14) hm ⟨ha8,O⟩
  ·refine gX ?_
   exact jx (v7,v6) hm ⟨ha8,O⟩
 ·clear hm;rintro⟨v2,v3⟩ base h hm ⟨ha4,O⟩
  refine gX ?_
  exact⟨v3,v2,hm,rfl,ha4,O,trivial⟩
def bQ (_:Nat) (fs:List Nat) (_:List Nat) (node:Nat) (pin:Int) (vl:Nat) (K:Nat->Prop):Prop :=
 ∃ x2,fs[node]?=some x2/\∃ j4:Nat,(pin+(Int.ofNat 1))=Int.ofNat j4/\j4<2 ^ 63/\2*j4<2 ^ 63/\x2+(2*j4)<2 ^ 63/\vl<256/\(x2+(2*j4))+vl<2 ^ 63/\K ((x2+(2*j4))+vl)
theorem cO {np:Nat}{fs:List Nat}{ps:List Nat}{node:Nat}{pin:Int}{vl:Nat}{gt:Nat}{ga:Option Nat}{gb:Nat}{L:List Slot}{K:Nat->Prop} (hm:bQ np fs ps node pin vl K) {h0 h:Heap} (ha0:ga=none->fs=[]) (O:Own vars h0 (((some gt),.cells [(ag 1 ga (fs.map i64)),(.slice (some ⟨gb,0,none⟩) np np)] false)::(ga,.cells (flatC (fs.map i64)) false)::((some gb),.cells (flatC (ps.map i64)) false)::L) h):∃ v h',CallD Tryz.prog NG 35 ⟨[(.pointer (some ⟨gt,0,none⟩)),(i64 node),(z64 pin),(n8 vl)]⟩ h v h'/\∃ (w1:Nat) (b0:Option Nat),K w1/\v=(i64 w1)/\(b0=none->fs=[])/\Own vars h0 (((some gt),.cells [(ag 1 b0 (fs.map i64)),(.slice (some ⟨gb,0,none⟩) np np)] false)::(b0,.cells (flatC (fs.map i64)) false)::((some gb),.cells (flatC (ps.map i64)) false)::L) h'/\h'=h:=by
 unfold bQ at hm
 refine fg Tryz.func35 (Q:=fun v h'=>∃ (w1:Nat) (b0:Option Nat),K w1/\v=(i64 w1)/\(b0=none->fs=[])/\Own vars h0 (((some gt),.cells [(ag 1 b0 (fs.map i64)),(.slice (some ⟨gb,0,none⟩) np np)] false)::(b0,.cells (flatC (fs.map i64)) false)::((some gb),.cells (flatC (ps.map i64)) false)::L) h'/\h'=h) ?_;conv=>whnf
 refine gX ?_
 obtain⟨x2,hx2,hm⟩:=hm
 have h9:=hm
 obtain⟨g3,rfl⟩:=dL ha0 hx2
 replace hm:=h9
 refine cF (s:=1) (j:=node) rfl rfl rfl rfl (by rw[List.length_map];exact aj hx2) ?_;refine gH ?_
 refine ldE (s:=1) (i:=0) (O.at (.tail _ (.head _))) hx2 ?_;refine gH ?_
 obtain⟨j4,hz,hm⟩:=hm
 refine⟨_,E1 (a:=pin) (b:=(Int.ofNat 1)) rfl rfl hz hm.1,?_⟩;refine gH ?_
 replace hm:=hm.2
 refine C3 hm fun hm=>?_;refine gH ?_
 refine aL hm fun hm=>?_;refine gH ?_
 refine aCv hm wI8 fun hm=>?_;refine gH ?_
 refine aL hm fun hm=>?_;refine gX ?_
 exact⟨((x2+(2*j4))+vl),(some g3),hm,rfl,cz,O,rfl⟩
def dw (np:Nat) (fs:List Nat) (ps:List Nat) (i:Nat) (j:Nat) (K:(List Nat)->Prop):Prop :=
 bU np fs ps i (fun (x2,x3)=>bU np fs x2 j (fun (x5,x6)=>x3<np/\∃ x8,x5[x3]?=some x8/\K (x5.set x3 x6)))
theorem jY {np:Nat}{fs:List Nat}{ps:List Nat}{i:Nat}{j:Nat}{gt:Nat}{ga:Option Nat}{gb:Nat}{L:List Slot}{K:(List Nat)->Prop} (hm:dw np fs ps i j K) {h0 h:Heap} (ha0:ga=none->fs=[]) (O:Own vars h0 (((some gt),.cells [(ag 1 ga (fs.map i64)),(.slice (some ⟨gb,0,none⟩) np np)] false)::(ga,.cells (flatC (fs.map i64)) false)::((some gb),.cells (flatC (ps.map i64)) false)::L) h):∃ v h',CallD Tryz.prog NG 56 ⟨[(.pointer (some ⟨gt,0,none⟩)),(i64 i),(i64 j)]⟩ h v h'/\∃ (w0:(List Nat)),K w0/\v=.tuple ⟨[]⟩/\(ga=none->fs=[])/\Own vars h0 (((some gt),.cells [(ag 1 ga (fs.map i64)),(.slice (some ⟨gb,0,none⟩) np np)] false)::(ga,.cells (flatC (fs.map i64)) false)::((some gb),.cells (flatC (w0.map i64)) false)::L) h'/\True:=by
 unfold dw at hm
 refine fg Tryz.func56 (Q:=fun v h'=>∃ (w0:(List Nat)),K w0/\v=.tuple ⟨[]⟩/\(ga=none->fs=[])/\Own vars h0 (((some gt),.cells [(ag 1 ga (fs.map i64)),(.slice (some ⟨gb,0,none⟩) np np)] false)::(ga,.cells (flatC (fs.map i64)) false)::((some gb),.cells (flatC (w0.map i64)) false)::L) h'/\True) ?_;conv=>whnf
 refine CodeS.pa ?_
 refine gX ?_
 refine⟨.inr (.inr (ae rfl (O.at (.head _)) rfl rfl)),?_⟩;refine gX ?_
 have Ok:=O
 obtain⟨_,h,hcall,x2,x3,hm,rfl,ha4,O,_⟩:=dj hm ha0 O
 refine⟨_,_,hcall,?_⟩;refine gH ?_
 refine⟨.inr (.inr (uw (i:=3) (by kernel_rfl) rfl rfl (Ok.at (.head _)) (O.at (.head _)))),?_⟩;refine gH ?_
 clear Ok;have Ok:=O
 obtain⟨_,h,hcall,x5,x6,hm,rfl,ha7,O,_⟩:=dj hm ha4 O
 refine⟨_,_,hcall,?_⟩;refine gH ?_
 refine⟨.inr (.inr (uw (i:=3) (by kernel_rfl) rfl rfl (Ok.at (.head _)) (O.at (.head _)))),?_⟩;refine gH ?_
 clear Ok
 refine ix 1 hm fun x8 hx8 hm=>?_;refine gH ?_
 refine O.stE 1 (.tail _ (.tail _ (.head _))) hx8 x6 fun h O=>?_;refine gH ?_
 exact⟨(x5.set x3 x6),hm,rfl,ha7,O,trivial⟩
def bl (p0:Nat) (K:(Rul×Bool)->Prop):Prop :=
 ((eqN p0 5)=true->K ((⟨0,0⟩:Rul),true))/\((eqN p0 5)=false->((eqN p0 6)=true->K ((⟨0,1⟩:Rul),true))/\((eqN p0 6)=false->((eqN p0 7)=true->K ((⟨1,1⟩:Rul),true))/\((eqN p0 7)=false->((eqN p0 8)=true->K ((⟨1,0⟩:Rul),true))/\((eqN p0 8)=false->K ((⟨0,0⟩:Rul),false)))))
theorem fG {p0:Nat}{K:(Rul×Bool)->Prop} (hm:bl p0 K) {h0:Heap} (hB:HasB vars h0):∃ r,K r/\CallD Tryz.prog NG 40 ⟨[n8 p0]⟩ h0 ((fun (r:(Rul×Bool))=>Value.tuple ⟨[pD (r.1),Value.bool (r.2)]⟩) r) h0:=by
 unfold bl at hm
 refine fw Tryz.func40 hB (enc:=(fun (r:(Rul×Bool))=>Value.tuple ⟨[pD (r.1),Value.bool (r.2)]⟩)) (fun r=>PureV.tup (ai.cons (BM _) (ai.cons (PureV.flat rfl) (ai.nil)))) fun O=>?_;conv=>whnf
 refine gX ?_
 (first|refine O.new (ak (l:=[(n8 0),(n8 0)]) rfl rfl rfl) fun g1 h O=>?_|refine O.dy (ak (l:=[(n8 0),(n8 0)]) rfl rfl rfl) fun g1 h O=>?_);refine gH ?_
 refine gX ?_
 refine br hm (fun hm=>?_) fun hm=>?_
 ·refine gX ?_
  refine O.stC 2 (.head _) [(n8 0),(n8 0)] fun h O=>?_;refine gX ?_
  refine⟨_,aH rfl rfl (O.at (.head _)) rfl rfl (lbE rfl) rfl,?_⟩;conv=>whnf
  exact⟨((⟨0,0⟩:Rul),true),hm,O.ext,fun h2 F=>VLe.tup (LLe.cons (VLe.refl _ _) (LLe.cons (VLe.refl _ _) (LLe.nil _)))⟩
 ·refine gX ?_
  refine br hm (fun hm=>?_) fun hm=>?_
  ·refine gX ?_
   refine O.stC 2 (.head _) [(n8 0),(n8 1)] fun h O=>?_;refine gX ?_
   refine⟨_,aH rfl rfl (O.at (.head _)) rfl rfl (lbE rfl) rfl,?_⟩;conv=>whnf
   exact⟨((⟨0,1⟩:Rul),true),hm,O.ext,fun h2 F=>VLe.tup (LLe.cons (VLe.refl _ _) (LLe.cons (VLe.refl _ _) (LLe.nil _)))⟩
  ·refine gX ?_
   refine br hm (fun hm=>?_) fun hm=>?_
   ·refine gX ?_
    refine O.stC 2 (.head _) [(n8 1),(n8 1)] fun h O=>?_;refine gX ?_
    refine⟨_,aH rfl rfl (O.at (.head _)) rfl rfl (lbE rfl) rfl,?_⟩;conv=>whnf
    exact⟨((⟨1,1⟩:Rul),true),hm,O.ext,fun h2 F=>VLe.tup (LLe.cons (VLe.refl _ _) (LLe.cons (VLe.refl _ _) (LLe.nil _)))⟩
   ·refine gX ?_
    refine br hm (fun hm=>?_) fun hm=>?_
    ·refine gX ?_
     refine O.stC 2 (.head _) [(n8 1),(n8 0)] fun h O=>?_;refine gX ?_
     refine⟨_,aH rfl rfl (O.at (.head _)) rfl rfl (lbE rfl) rfl,?_⟩;conv=>whnf
     exact⟨((⟨1,0⟩:Rul),true),hm,O.ext,fun h2 F=>VLe.tup (LLe.cons (VLe.refl _ _) (LLe.cons (VLe.refl _ _) (LLe.nil _)))⟩
    ·refine gX ?_
     refine O.stC 2 (.head _) [(n8 0),(n8 0)] fun h O=>?_;refine gX ?_
     refine⟨_,aH rfl rfl (O.at (.head _)) rfl rfl (lbE rfl) rfl,?_⟩;conv=>whnf
     exact⟨((⟨0,0⟩:Rul),false),hm,O.ext,fun h2 F=>VLe.tup (LLe.cons (VLe.refl _ _) (LLe.cons (VLe.refl _ _) (LLe.nil _)))⟩
def cL (p0:Node) (K:(List Rul)->Prop):Prop :=
 an (α:=Unit) (fun k1=>((eqN p0.kind 3)=true->K ([(⟨0,0⟩:Rul),(⟨1,1⟩:Rul)]:(List Rul)))/\((eqN p0.kind 3)=false->((eqN p0.kind 13)=true->((eqN p0.ins.length 1)=true->K ([(⟨0,0⟩:Rul),(⟨1,1⟩:Rul)]:(List Rul)))/\((eqN p0.ins.length 1)=false->k1 ()))/\((eqN p0.kind 13)=false->((eqN p0.kind 4)=true->K ([(⟨0,1⟩:Rul),(⟨1,0⟩:Rul)]:(List Rul)))/\((eqN p0.kind 4)=false->k1 ())))) (fun _=>bl p0.kind (fun r2=>(r2.2=true->K ([(⟨r2.1.pin,r2.1.out⟩:Rul)]:(List Rul)))/\(r2.2=false->K ([]))))
theorem lS {p0:Node}{K:(List Rul)->Prop} (hm:cL p0 K) {h0:Heap} (hB:HasB vars h0):∃ r,K r/\CallD Tryz.prog NG 55 ⟨[al p0]⟩ h0 ((ah 2 pD) r) h0:=by
 unfold cL at hm
 refine fw Tryz.func55 hB (enc:=(ah 2 pD)) (fun r=>eF (fun _=>uh _)) fun O=>?_;conv=>whnf
 refine gX ?_
 refine fz ?_;refine gH ?_
 refine jn hm 39 [1] (fun s=>s) (fun _ h=>Own vars h0 [] h) (fun _=>[]) (fun hm=>?_) ?_
 ·refine gX ?_
  refine br hm (fun hm=>?_) fun hm=>?_
  ·refine gX ?_
   refine fz ?_;refine gX ?_
   exact fe hm O
  ·refine gX ?_
   refine br hm (fun hm=>?_) fun hm=>?_
   ·refine gX ?_
    refine br hm (fun hm=>?_) fun hm=>?_
    ·refine gX ?_
     refine fz ?_;refine gX ?_
     exact fe hm O
    ·refine gX ?_
     exact jx () hm O
   ·refine gX ?_
    refine br hm (fun hm=>?_) fun hm=>?_
    ·refine gX ?_
     refine fz ?_;refine gX ?_
     exact fe hm O
    ·refine gX ?_
     exact jx () hm O
 ·clear hm;rintro _ base h hm O
  refine gX ?_
  refine ca (fG hm O.has) fun r2 hm=>?_;refine gH ?_
  (first|refine O.new (ak (l:=[(n8 0),(n8 0)]) rfl rfl rfl) fun g3 h O=>?_|refine O.dy (ak (l:=[(n8 0),(n8 0)]) rfl rfl rfl) fun g3 h O=>?_);refine gH ?_
  refine O.stC 2 (.head _) [(n8 r2.1.pin),(n8 r2.1.out)] fun h O=>?_;refine gX ?_
  refine br hm (fun hm=>?_) fun hm=>?_
  ·refine gX ?_
   refine fz ?_;refine gX ?_
   exact fe hm O
  ·refine gX ?_
   exact⟨[],hm,O.ext,fun h2 F=>VLe.nil _ _⟩
def gu (p0:(List Nat)) (p1:Nat) (K:Int->Prop):Prop :=
 an (α:=Unit) (fun k1=>ar (S:=Nat) (fun v2 nx3=>((ltN v2 p0.length)=true->∃ x4,p0[v2]?=some x4/\((eqN p1 x4)=true->K (Int.ofNat v2))/\((eqN p1 x4)=false->v2+1<2 ^ 63/\nx3 (v2+1)))/\((ltN v2 p0.length)=false->k1 ())) 0) (fun _=>K (Int.negSucc 0))
theorem sP {p0:(List Nat)}{p1:Nat}{K:Int->Prop} (hm:gu p0 p1 K) {h0:Heap} (hB:HasB vars h0):∃ r,K r/\CallD Tryz.prog NG 83 ⟨[(ah 1 i64) p0,i64 p1]⟩ h0 (z64 r) h0:=by
 unfold gu at hm
 refine fw Tryz.func83 hB (enc:=z64) (fun r=>PureV.flat rfl) fun O=>?_;conv=>whnf
 apply Cs;conv=>whnf
 apply Cs;refine gH ?_
 refine jn hm 19 [] (fun s=>s) (fun _ h=>Own vars h0 [] h) (fun _=>[]) (fun hm=>?_) ?_
 ·refine gX ?_
  refine lw 19 [0,1,7] (σ:=Nat) (fun s=>s) (fun v2 h=>Own vars h0 [] h) (fun v2=>[(8,(i64 v2))]) 0 hm O ?_
  clear hm;rintro v2 nx3 base h hm O
  refine gX ?_
  refine br hm (fun hm=>?_) fun hm=>?_
  ·refine gX ?_
   refine atF hm fun x4 hx4 hm=>?_;refine gX ?_
   refine br hm (fun hm=>?_) fun hm=>?_
   ·refine gX ?_
    exact fe hm O
   ·refine gX ?_
    refine aL hm fun hm=>?_;refine gH ?_
    exact jx (v2+1) hm O
  ·refine gX ?_
   exact jx () hm O
 ·clear hm;rintro _ base h hm O
  refine gX ?_
  exact fe hm O
def dI (p0:(List Nat)) (p1:Nat) (K:Bool->Prop):Prop :=
 gu p0 p1 (fun r1=>K (!ltI r1 (Int.ofNat 0)))
theorem oT {p0:(List Nat)}{p1:Nat}{K:Bool->Prop} (hm:dI p0 p1 K) {h0:Heap} (hB:HasB vars h0):∃ r,K r/\CallD Tryz.prog NG 58 ⟨[(ah 1 i64) p0,i64 p1]⟩ h0 (Value.bool r) h0:=by
 unfold dI at hm
 refine fw Tryz.func58 hB (enc:=Value.bool) (fun r=>PureV.flat rfl) fun O=>?_;conv=>whnf
 refine gX ?_
 refine ca (sP hm O.has) fun r1 hm=>?_;refine gX ?_
 exact fe hm O
def dr (c:Circ) (K:((List Nat)×(List Nat)×Nat)->Prop):Prop :=
 ee c (fun (x2,x3,x4)=>an (α:=(List Nat)) (fun k15=>ar (S:=((List Nat)×Nat)) (fun (v17,v18) nx20=>((ltN v18 c.nodes.length)=true->an (α:=(List Nat)) (fun k24=>∃ x25,c.nodes[v18]?=some x25/\cL x25 (fun r28=>ar (S:=((List Nat)×Nat)) (fun (v30,v31) nx33=>((ltN v31 r28.length)=true->an (α:=(List Nat)) (fun k37=>∃ x38,r28[v31]?=some x38/\ar (S:=((List Nat)×Nat)) (fun (v42,v43) nx45=>((ltN v43 x25.ins.length)=true->bQ x4 x2 v42 v18 (Int.ofNat v43) x38.pin (fun x46=>bQ x4 x2 v42 v18 (Int.negSucc 0) x38.out (fun x49=>dw x4 x2 v42 x46 x49 (fun x52=>v43+1<2 ^ 63/\nx45 (x52,(v43+1))))))/\((ltN v43 x25.ins.length)=false->k37 v42)) (v30,0)) (fun v35=>v31+1<2 ^ 63/\nx33 (v35,(v31+1))))/\((ltN v31 r28.length)=false->k24 v30)) (v17,0))) (fun v22=>v18+1<2 ^ 63/\nx20 (v22,(v18+1))))/\((ltN v18 c.nodes.length)=false->k15 v17)) (x3,0)) (fun v13=>an (α:=(List Nat)) (fun k57=>iE c (fun r58=>ar (S:=((List Nat)×Nat)) (fun (v60,v61) nx63=>((ltN v61 r58.length)=true->an (α:=(List Nat)) (fun k67=>∃ x68,r58[v61]?=some x68/\an (α:=Bool) (fun k71=>((eqN x68.length 1)=true->dI c.outs v61 (fun r72=>k71 (!r72)))/\((eqN x68.length 1)=false->k71 false)) (fun v69=>(v69=true->ar (S:=((List Nat)×Nat)) (fun (v74,v75) nx77=>((!ltN 1 v75)=true->bQ x4 x2 v74 v61 (Int.negSucc 0) v75 (fun x78=>∃ x81,x68[0]?=some x81/\∃ x82,x68[0]?=some x82/\bQ x4 x2 v74 x81.node x82.pin v75 (fun x83=>dw x4 x2 v74 x78 x83 (fun x86=>v75+1<256/\nx77 (x86,(v75+1))))))/\((!ltN 1 v75)=false->k67 v74)) (v60,0))/\(v69=false->k67 v60))) (fun v65=>v61+1<2 ^ 63/\nx63 (v65,(v61+1))))/\((ltN v61 r58.length)=false->k57 v60)) (v13,0))) (fun v55=>K (x2,v55,x4))))
theorem ou {c:Circ}  {L:List Slot}{K:((List Nat)×(List Nat)×Nat)->Prop} (hm:dr c K) {h0 h:Heap}  (O:Own vars h0 (L) h):∃ v h',CallD Tryz.prog NG 33 ⟨[(aB c)]⟩ h v h'/\∃ (w2:(List Nat)) (w4:(List Nat)) (w5:Nat) (b0:Nat) (b1:Option Nat) (b3:Nat),K (w2,w4,w5)/\v=(.pointer (some ⟨b0,0,none⟩))/\(b1=none->w2=[])/\Own vars h0 (((some b0),.cells [(ag 1 b1 (w2.map i64)),(.slice (some ⟨b3,0,none⟩) w5 w5)] false)::(b1,.cells (flatC (w2.map i64)) false)::((some b3),.cells (flatC (w4.map i64)) false)::L) h'/\True:=by
 unfold dr at hm
 refine fg Tryz.func33 (Q:=fun v h'=>∃ (w2:(List Nat)) (w4:(List Nat)) (w5:Nat) (b0:Nat) (b1:Option Nat) (b3:Nat),K (w2,w4,w5)/\v=(.pointer (some ⟨b0,0,none⟩))/\(b1=none->w2=[])/\Own vars h0 (((some b0),.cells [(ag 1 b1 (w2.map i64)),(.slice (some ⟨b3,0,none⟩) w5 w5)] false)::(b1,.cells (flatC (w2.map i64)) false)::((some b3),.cells (flatC (w4.map i64)) false)::L) h'/\True) ?_;conv=>whnf
 refine gX ?_
 refine fz ?_;refine gX ?_
 obtain⟨_,h,hcall,x2,x3,x4,a5,a6,a7,hm,rfl,ha11,O,_⟩:=pH hm  O
 refine⟨_,_,hcall,?_⟩;refine gH ?_
 refine jn (σ:=(List Nat)×Option Nat) hm 92 [1,3] (fun s=>s.1) (fun (v13,a12) h=>(a12=none->x2=[])/\Own vars h0 (((some a5),.cells [(ag 1 a12 (x2.map i64)),(.slice (some ⟨a7,0,none⟩) x4 x4)] false)::(a12,.cells (flatC (x2.map i64)) false)::((some a7),.cells (flatC (v13.map i64)) false)::L) h) (fun (v13,a12)=>[]) (fun hm=>?_) ?_
 ·refine gX ?_
  refine lw 92 [1,3,15,16] (σ:=((List Nat)×Nat)×Option Nat) (fun s=>s.1) (fun ((v17,v18),a16) h=>(a16=none->x2=[])/\Own vars h0 (((some a5),.cells [(ag 1 a16 (x2.map i64)),(.slice (some ⟨a7,0,none⟩) x4 x4)] false)::(a16,.cells (flatC (x2.map i64)) false)::((some a7),.cells (flatC (v17.map i64)) false)::L) h) (fun ((v17,v18),a16)=>[(17,(i64 v18))]) ((x3,0),a6) hm ⟨ha11,O⟩ ?_
  clear hm;rintro⟨⟨v17,v18⟩,a16⟩ nx20 base h hm ⟨ha19,O⟩
  refine gX ?_
  refine br hm (fun hm=>?_) fun hm=>?_
  ·apply Cs;conv=>whnf
   refine jn (σ:=(List Nat)×Option Nat) hm 92 [1,3,15,16,17] (fun s=>s.1) (fun (v22,a21) h=>(a21=none->x2=[])/\Own vars h0 (((some a5),.cells [(ag 1 a21 (x2.map i64)),(.slice (some ⟨a7,0,none⟩) x4 x4)] false)::(a21,.cells (flatC (x2.map i64)) false)::((some a7),.cells (flatC (v22.map i64)) false)::L) h) (fun (v22,a21)=>[]) (fun hm=>?_) ?_
   ·refine gX ?_
    refine atF hm fun x25 hx25 hm=>?_;refine gH ?_
    (first|refine O.new (ak (l:=[(n8 0),(.slice none 0 0),(i64 0),(i64 0)]) rfl rfl rfl) fun g26 h O=>?_|refine O.dy (ak (l:=[(n8 0),(.slice none 0 0),(i64 0),(i64 0)]) rfl rfl rfl) fun g26 h O=>?_);refine gH ?_
    refine O.stC 4 (.head _) [(n8 x25.kind),((ah 1 i64) x25.ins),(i64 x25.mem),(i64 x25.bit)] fun h O=>?_;refine gX ?_
    refine ldA (O.at (.head _)) ?_;refine gH ?_
    refine ca (lS hm O.has) fun r28 hm=>?_;refine gX ?_
    refine lw 92 [1,3,4,5,15,16,17,23,24] (σ:=((List Nat)×Nat)×Option Nat) (fun s=>s.1) (fun ((v30,v31),a29) h=>(a29=none->x2=[])/\Own vars h0 (((some a5),.cells [(ag 1 a29 (x2.map i64)),(.slice (some ⟨a7,0,none⟩) x4 x4)] false)::(a29,.cells (flatC (x2.map i64)) false)::((some a7),.cells (flatC (v30.map i64)) false)::((some g26),.cells [(n8 x25.kind),((ah 1 i64) x25.ins),(i64 x25.mem),(i64 x25.bit)] false)::L) h) (fun ((v30,v31),a29)=>[(25,(i64 v31))]) ((v17,0),a16) hm ⟨ha19,(Own.gK [((some g26),.cells [(n8 x25.kind),((ah 1 i64) x25.ins),(i64 x25.mem),(i64 x25.bit)] false),((some a5),.cells [(ag 1 a16 (x2.map i64)),(.slice (some ⟨a7,0,none⟩) x4 x4)] false),(a16,.cells (flatC (x2.map i64)) false),((some a7),.cells (flatC (v17.map i64)) false)] O [1,2,3,0] (by decide))⟩ ?_
    clear hm;rintro⟨⟨v30,v31⟩,a29⟩ nx33 base h hm ⟨ha32,O⟩
    refine gX ?_
    refine br hm (fun hm=>?_) fun hm=>?_
    ·apply Cs;conv=>whnf
     refine jn (σ:=(List Nat)×Option Nat) hm 92 [1,3,4,5,15,16,17,23,24,25] (fun s=>s.1) (fun (v35,a34) h=>(a34=none->x2=[])/\Own vars h0 (((some a5),.cells [(ag 1 a34 (x2.map i64)),(.slice (some ⟨a7,0,none⟩) x4 x4)] false)::(a34,.cells (flatC (x2.map i64)) false)::((some a7),.cells (flatC (v35.map i64)) false)::((some g26),.cells [(n8 x25.kind),((ah 1 i64) x25.ins),(i64 x25.mem),(i64 x25.bit)] false)::L) h) (fun (v35,a34)=>[]) (fun hm=>?_) ?_
     ·refine gX ?_
      refine atF hm fun x38 hx38 hm=>?_;refine gH ?_
      (first|refine O.new (ak (l:=[(n8 0),(n8 0)]) rfl rfl rfl) fun g39 h O=>?_|refine O.dy (ak (l:=[(n8 0),(n8 0)]) rfl rfl rfl) fun g39 h O=>?_);refine gH ?_
      refine O.stC 2 (.head _) [(n8 x38.pin),(n8 x38.out)] fun h O=>?_;refine gX ?_
      refine ldO (O.at (.tail _ (.tail _ (.tail _ (.tail _ (.head _)))))) ?_;refine gX ?_
      refine lw 92 [1,3,4,5,7,15,16,17,23,24,25,31] (σ:=((List Nat)×Nat)×Option Nat) (fun s=>s.1) (fun ((v42,v43),a41) h=>(a41=none->x2=[])/\Own vars h0 (((some a5),.cells [(ag 1 a41 (x2.map i64)),(.slice (some ⟨a7,0,none⟩) x4 x4)] false)::(a41,.cells (flatC (x2.map i64)) false)::((some a7),.cells (flatC (v42.map i64)) false)::((some g26),.cells [(n8 x25.kind),((ah 1 i64) x25.ins),(i64 x25.mem),(i64 x25.bit)] false)::((some g39),.cells [(n8 x38.pin),(n8 x38.out)] false)::L) h) (fun ((v42,v43),a41)=>[(32,(i64 v43))]) ((v30,0),a29) hm ⟨ha32,(Own.gK [((some g39),.cells [(n8 x38.pin),(n8 x38.out)] false),((some a5),.cells [(ag 1 a29 (x2.map i64)),(.slice (some ⟨a7,0,none⟩) x4 x4)] false),(a29,.cells (flatC (x2.map i64)) false),((some a7),.cells (flatC (v30.map i64)) false),((some g26),.cells [(n8 x25.kind),((ah 1 i64) x25.ins),(i64 x25.mem),(i64 x25.bit)] false)] O [1,2,3,4,0] (by decide))⟩ ?_
      clear hm;rintro⟨⟨v42,v43⟩,a41⟩ nx45 base h hm ⟨ha44,O⟩
      refine gX ?_
      refine br hm (fun hm=>?_) fun hm=>?_
      ·refine gX ?_
       refine ldO (O.at (.tail _ (.tail _ (.tail _ (.tail _ (.head _)))))) ?_;refine gH ?_
       obtain⟨_,_,hcall,x46,a47,hm,rfl,ha48,O2,rfl⟩:=cO hm ha44 O
       have O:=O2;clear O2
       refine⟨_,_,hcall,?_⟩;refine gH ?_
       refine⟨.inl (Ext.refl _),?_⟩;refine gH ?_
       refine ldO (O.at (.tail _ (.tail _ (.tail _ (.tail _ (.head _)))))) ?_;refine gH ?_
       obtain⟨_,_,hcall,x49,a50,hm,rfl,ha51,O2,rfl⟩:=cO hm ha48 O
       have O:=O2;clear O2
       refine⟨_,_,hcall,?_⟩;refine gH ?_
       refine⟨.inl (Ext.refl _),?_⟩;refine gH ?_
       obtain⟨_,h,hcall,x52,hm,rfl,ha53,O,_⟩:=jY hm ha51 O
       refine⟨_,_,hcall,?_⟩;refine gH ?_
       refine⟨.inr (by kernel_rfl),?_⟩;refine gH ?_
       refine gX ?_
       refine aL hm fun hm=>?_;refine gH ?_
       exact jx ((x52,(v43+1)),a50) hm ⟨ha53,O⟩
      ·refine gX ?_
       exact jx (v42,a41) hm ⟨ha44,(Own.gK [((some a5),.cells [(ag 1 a41 (x2.map i64)),(.slice (some ⟨a7,0,none⟩) x4 x4)] false),(a41,.cells (flatC (x2.map i64)) false),((some a7),.cells (flatC (v42.map i64)) false),((some g26),.cells [(n8 x25.kind),((ah 1 i64) x25.ins),(i64 x25.mem),(i64 x25.bit)] false),((some g39),.cells [(n8 x38.pin),(n8 x38.out)] false)] O [0,1,2,3] (by decide))⟩
     ·clear hm;rintro⟨v35,a34⟩ base h hm ⟨ha36,O⟩
      refine gX ?_
      refine aL hm fun hm=>?_;refine gH ?_
      exact jx ((v35,(v31+1)),a34) hm ⟨ha36,O⟩
    ·refine gX ?_
     exact jx (v30,a29) hm ⟨ha32,(Own.gK [((some a5),.cells [(ag 1 a29 (x2.map i64)),(.slice (some ⟨a7,0,none⟩) x4 x4)] false),(a29,.cells (flatC (x2.map i64)) false),((some a7),.cells (flatC (v30.map i64)) false),((some g26),.cells [(n8 x25.kind),((ah 1 i64) x25.ins),(i64 x25.mem),(i64 x25.bit)] false)] O [0,1,2] (by decide))⟩
   ·clear hm;rintro⟨v22,a21⟩ base h hm ⟨ha23,O⟩
    refine gX ?_
    refine aL hm fun hm=>?_;refine gH ?_
    exact jx ((v22,(v18+1)),a21) hm ⟨ha23,O⟩
  ·refine gX ?_
   exact jx (v17,a16) hm ⟨ha19,O⟩
 ·clear hm;rintro⟨v13,a12⟩ base h hm ⟨ha14,O⟩
  conv=>whnf
  refine jn (σ:=(List Nat)×Option Nat) hm 92 [3] (fun s=>s.1) (fun (v55,a54) h=>(a54=none->x2=[])/\Own vars h0 (((some a5),.cells [(ag 1 a54 (x2.map i64)),(.slice (some ⟨a7,0,none⟩) x4 x4)] false)::(a54,.cells (flatC (x2.map i64)) false)::((some a7),.cells (flatC (v55.map i64)) false)::L) h) (fun (v55,a54)=>[]) (fun hm=>?_) ?_
  ·refine gX ?_
   refine ca (ln hm O.has) fun r58 hm=>?_;refine gX ?_
   refine lw 92 [1,3,52,53] (σ:=((List Nat)×Nat)×Option Nat) (fun s=>s.1) (fun ((v60,v61),a59) h=>(a59=none->x2=[])/\Own vars h0 (((some a5),.cells [(ag 1 a59 (x2.map i64)),(.slice (some ⟨a7,0,none⟩) x4 x4)] false)::(a59,.cells (flatC (x2.map i64)) false)::((some a7),.cells (flatC (v60.map i64)) false)::L) h) (fun ((v60,v61),a59)=>[(54,(i64 v61))]) ((v13,0),a12) hm ⟨ha14,O⟩ ?_
   clear hm;rintro⟨⟨v60,v61⟩,a59⟩ nx63 base h hm ⟨ha62,O⟩
   refine gX ?_
   refine br hm (fun hm=>?_) fun hm=>?_
   ·apply Cs;conv=>whnf
    refine jn (σ:=(List Nat)×Option Nat) hm 92 [1,3,52,53,54] (fun s=>s.1) (fun (v65,a64) h=>(a64=none->x2=[])/\Own vars h0 (((some a5),.cells [(ag 1 a64 (x2.map i64)),(.slice (some ⟨a7,0,none⟩) x4 x4)] false)::(a64,.cells (flatC (x2.map i64)) false)::((some a7),.cells (flatC (v65.map i64)) false)::L) h) (fun (v65,a64)=>[]) (fun hm=>?_) ?_
    ·refine gX ?_
     refine atF hm fun x68 hx68 hm=>?_;refine gH ?_
     refine jn hm 92 [1,3,9,10,52,53,54] (fun s=>s) (fun v69 h=>(a59=none->x2=[])/\Own vars h0 (((some a5),.cells [(ag 1 a59 (x2.map i64)),(.slice (some ⟨a7,0,none⟩) x4 x4)] false)::(a59,.cells (flatC (x2.map i64)) false)::((some a7),.cells (flatC (v60.map i64)) false)::L) h) (fun v69=>[(68,(.bool v69))]) (fun hm=>?_) ?_
     ·refine gX ?_
      refine br hm (fun hm=>?_) fun hm=>?_
      ·refine gX ?_
       refine ca (oT hm O.has) fun r72 hm=>?_;refine gH ?_
       exact jx (!r72) hm ⟨ha62,O⟩
      ·refine gX ?_
       exact jx false hm ⟨ha62,O⟩
     ·clear hm;rintro v69 base h hm ⟨ha70,O⟩
      refine gX ?_
      refine br hm (fun hm=>?_) fun hm=>?_
      ·refine gX ?_
       refine lw 92 [1,3,9,10,52,53,54] (σ:=((List Nat)×Nat)×Option Nat) (fun s=>s.1) (fun ((v74,v75),a73) h=>(a73=none->x2=[])/\Own vars h0 (((some a5),.cells [(ag 1 a73 (x2.map i64)),(.slice (some ⟨a7,0,none⟩) x4 x4)] false)::(a73,.cells (flatC (x2.map i64)) false)::((some a7),.cells (flatC (v74.map i64)) false)::L) h) (fun ((v74,v75),a73)=>[(11,(n8 v75))]) ((v60,0),a59) hm ⟨ha70,O⟩ ?_
       clear hm;rintro⟨⟨v74,v75⟩,a73⟩ nx77 base h hm ⟨ha76,O⟩
       refine gX ?_
       refine br hm (fun hm=>?_) fun hm=>?_
       ·refine gX ?_
        obtain⟨_,_,hcall,x78,a79,hm,rfl,ha80,O2,rfl⟩:=cO hm ha76 O
        have O:=O2;clear O2
        refine⟨_,_,hcall,?_⟩;refine gH ?_
        refine⟨.inl (Ext.refl _),?_⟩;refine gH ?_
        refine atF hm fun x81 hx81 hm=>?_;refine gH ?_
        refine atF hm fun x82 hx82 hm=>?_;refine gH ?_
        obtain⟨_,_,hcall,x83,a84,hm,rfl,ha85,O2,rfl⟩:=cO hm ha80 O
        have O:=O2;clear O2
        refine⟨_,_,hcall,?_⟩;refine gH ?_
        refine⟨.inl (Ext.refl _),?_⟩;refine gH ?_
        obtain⟨_,h,hcall,x86,hm,rfl,ha87,O,_⟩:=jY hm ha85 O
        refine⟨_,_,hcall,?_⟩;refine gH ?_
        refine⟨.inr (by kernel_rfl),?_⟩;refine gH ?_
        refine gX ?_
        refine⟨_,ph (a:=v75) (b:=1) rfl rfl hm.1,?_⟩;refine gH ?_
        replace hm:=hm.2
        exact jx ((x86,(v75+1)),a84) hm ⟨ha87,O⟩
       ·refine gX ?_
        exact jx (v74,a73) hm ⟨ha76,O⟩
      ·refine gX ?_
       exact jx (v60,a59) hm ⟨ha70,O⟩
    ·clear hm;rintro⟨v65,a64⟩ base h hm ⟨ha66,O⟩
     refine gX ?_
     refine aL hm fun hm=>?_;refine gH ?_
     exact jx ((v65,(v61+1)),a64) hm ⟨ha66,O⟩
   ·refine gX ?_
    exact jx (v60,a59) hm ⟨ha62,O⟩
  ·clear hm;rintro⟨v55,a54⟩ base h hm ⟨ha56,O⟩
   refine gX ?_
   exact⟨x2,v55,x4,a5,a54,a7,hm,rfl,ha56,O,trivial⟩
theorem aT {a b:Nat}:ltN a b=true↔a<b:=by rw[eY];simp
theorem bb {a b:Nat}:ltN a b=false↔b<=a:=by rw[eY];simp
theorem bP {a b:Nat}:eqN a b=true↔a=b:=by rw[nD];simp
theorem cD {a b:Nat}:eqN a b=false ↔ ¬ a=b:=by rw[nD];simp
theorem dQ {a b:Nat}:neN a b=true ↔ ¬ a=b:=by rw[uZ];simp
theorem oC {a b:Nat}:neN a b=false↔a=b:=by rw[uZ];simp
theorem mj {a b:Nat}:(!ltN a b)=true↔b<=a:=by rw[eY];simp
theorem oN {a b:Nat}:(!ltN a b)=false↔a<b:=by rw[eY];simp
theorem dT {α:Type}{first:(α->Prop)->Prop}{rest:α->Prop} (h:first rest):an first rest:=h
theorem aC {α:Type}{l:List α}{i:Nat} (h:i<l.length):∃ x,l[i]?=some x:=⟨l[i],List.getElem?_eq_getElem h⟩
theorem eI {α:Type}{l:List α}{body:(Unit->Prop)->Nat->(Nat->Prop)->Prop}{rest:Unit->Prop}
  (step:∀ k i nx x,l[i]?=some x->i+1<=l.length->nx (i+1)->body k i nx)
  (fin:∀ k i nx,l.length<=i->k ()->body k i nx) (h:rest ()):an (fun k=>ar (fun i nx=>body k i nx) 0) rest:=by
 refine aA (fun i=>i<=l.length) (fun i=>l.length-i) (fun _=>True) ?_ (Nat.zero_le _) (fun _ _=>h)
 intro k i nx hi hn hk
 by_cases c:i<l.length
 ·obtain⟨x,hx⟩:=aC c
  exact step k i nx x hx c (hn (i+1) c (by omega))
 ·exact fin k i nx (by omega) (hk () trivial)
def mW (v:Nat):Nat:=if v<=1 then 1-v else 2
def dq (low high:Nat):List Nat->Nat->Nat
 |[],out=>out
 |v::r,out=>if v=low then low else dq low high r (if v=high then out else 2)
def nb:List Nat->Nat->Nat
 |[],o=>o
 |v::r,o=>if v<=1 then nb r (o ^^^ v) else 2
def xR (s a b:Nat):Nat:=if s=0 then min a 2 else if s=1 then min b 2 else if a=b then min a 2 else 2
def uQ (k:Nat) (l:List Nat):Nat :=
 if k=1 then 0 else if k=2 then 1 else if k=3 then min (l.getD 0 0) 2 else if k=4 then mW (l.getD 0 0)
 else if k=5 then dq 0 1 l 1 else if k=6 then mW (dq 0 1 l 1) else if k=7 then dq 1 0 l 0 else if k=8 then mW (dq 1 0 l 0)
 else if k=9 then nb l 0 else if k=10 then mW (nb l 0) else if k=11 then xR (l.getD 0 0) (l.getD 1 0) (l.getD 2 0) else 2
theorem xp {p:Nat}{K:Bool->Prop} (h:K (decide (p<=1))):dp p K:=by
 unfold dp
 have:(!ltN 1 p)=decide (p<=1):=by
  rw[Bool.eq_iff_iff,mj];simp
 rw[this];exact h
theorem vU {p:Nat}{K:Nat->Prop} (h:K (mW p)):db p K:=by
 unfold db
 refine xp ?_
 unfold mW at h
 by_cases c:p<=1
 ·rw[if_pos c] at h
  exact⟨fun _=>⟨c,by decide,h⟩,fun hc=>absurd c (of_decide_eq_false hc)⟩
 ·rw[if_neg c] at h
  exact⟨fun hc=>absurd (of_decide_eq_true hc) c,fun _=>h⟩
theorem ka {α:Type}{l:List α}{i:Nat}{x:α} (h:l[i]?=some x):l.drop i=x::l.drop (i+1):=by
 obtain⟨h1,rfl⟩:=List.getElem?_eq_some_iff.1 h
 exact List.drop_eq_getElem_cons h1
theorem kZ {l:List Nat}{low high:Nat}{K:Nat->Prop} (hl:l.length<2 ^ 60) (h:K (dq low high l high)):cJ l low high K:=by
 unfold cJ
 refine aA (fun s=>s.2<=l.length/\dq low high (l.drop s.2) s.1=dq low high l high) (fun s=>l.length-s.2) (fun a=>a=dq low high l high) ?_ ⟨Nat.zero_le _,rfl⟩ (fun a e=>by rw[e];exact h)
 rintro k ⟨o,i⟩ nx ⟨hi,hI⟩ hn hk
 refine⟨fun hc=>?_,fun hc=>?_⟩
 ·have hc:=aT.1 hc
  obtain⟨x,hx⟩:=aC hc
  simp only[ka hx,dq] at hI
  have next:∀ o',dq low high (l.drop (i+1)) o'=dq low high l high->i+1<2 ^ 63/\nx (o',i+1):=fun o' e=>⟨by omega,hn (o',i+1) ⟨hc,e⟩ (by simp only;omega)⟩
  refine⟨x,hx,fun h1=>?_,fun h1=>⟨fun h2=>?_,fun h2=>?_⟩⟩
  ·have h1:=bP.1 h1
   rw[if_pos h1] at hI
   rw[<- hI] at h
   exact h
  ·rw[if_neg (cD.1 h1),if_neg (dQ.1 h2)] at hI
   exact next 2 hI
  ·rw[if_neg (cD.1 h1),if_pos (oC.1 h2)] at hI
   exact next o hI
 ·have hc:=bb.1 hc
  rw[List.drop_eq_nil_of_le hc] at hI
  exact hk o hI
theorem AX {l:List Nat}{K:Nat->Prop} (hl:l.length<2 ^ 60) (h:K (nb l 0)):eQ l K:=by
 unfold eQ
 refine aA (fun s=>s.2<=l.length/\s.1<=1/\nb (l.drop s.2) s.1=nb l 0) (fun s=>l.length-s.2) (fun a=>a=nb l 0) ?_ ⟨Nat.zero_le _,by decide,rfl⟩ (fun a e=>by rw[e];exact h)
 rintro k ⟨o,i⟩ nx ⟨hi,ho,hI⟩ hn hk
 refine⟨fun hc=>?_,fun hc=>?_⟩
 ·have hc:=aT.1 hc
  obtain⟨x,hx⟩:=aC hc
  simp only[ka hx,nb] at hI
  refine⟨x,hx,xp ⟨fun h1=>?_,fun h1=>?_⟩⟩
  ·have h1:¬ x<=1:=by simpa using h1
   rw[if_neg h1] at hI
   rw[<- hI] at h;exact h
  ·have h1:x<=1:=by simpa using h1
   rw[if_pos h1] at hI
   simp only at ho
   refine⟨by omega,by omega,by omega,hn (o ^^^ x,i+1) ⟨hc,?_,hI⟩ (by simp only;omega)⟩
   have q1:o=0\/o=1:=by omega
   have q2:x=0\/x=1:=by omega
   rcases q1 with rfl|rfl <;> rcases q2 with rfl|rfl <;> simp
 ·have hc:=bb.1 hc
  rw[List.drop_eq_nil_of_le hc] at hI
  exact hk o hI
def Arity (k n:Nat):Prop:=loN k<=n/\(Int.ofNat n<=hiZ k)
instance (k n:Nat):Decidable (Arity k n):=by unfold Arity;exact inferInstance
theorem qG {a b:Int}:ltI a b=false↔b<=a:=by rw[dz];simp
theorem zD {a b:Int}:ltI a b=true↔a<b:=by rw[dz];simp
theorem th {k:Nat}{K:Nat×Int->Prop} (hk:k<256) (h:K (loN k,hiZ k)):gJ k K:=⟨hk,h⟩
theorem uN {n:Nat} (h:Arity 3 n):n=1:=by
 obtain⟨h1,h2⟩:=h
 have e1:loN 3=1:=by decide
 have e2:hiZ 3=1:=by decide
 rw[e1] at h1;rw[e2] at h2
 simp only[Int.ofNat_eq_natCast] at h2;omega
theorem tW {n:Nat} (h:Arity 4 n):n=1:=by
 obtain⟨h1,h2⟩:=h
 have e1:loN 4=1:=by decide
 have e2:hiZ 4=1:=by decide
 rw[e1] at h1;rw[e2] at h2
 simp only[Int.ofNat_eq_natCast] at h2;omega
theorem zN {n:Nat} (h:Arity 11 n):n=3:=by
 obtain⟨h1,h2⟩:=h
 have e1:loN 11=3:=by decide
 have e2:hiZ 11=3:=by decide
 rw[e1] at h1;rw[e2] at h2
 simp only[Int.ofNat_eq_natCast] at h2;omega
theorem D7 {s a b:Nat}{K:Nat->Prop} (h:K (xR s a b)):fO s a b K:=by
 unfold fO bI
 unfold xR at h
 refine⟨fun h1=>?_,fun h1=>⟨fun h2=>?_,fun h2=>⟨fun h3=>?_,fun h3=>?_⟩⟩⟩
 ·rw[if_pos (bP.1 h1)] at h;exact h
 ·rw[if_neg (cD.1 h1),if_pos (bP.1 h2)] at h;exact h
 ·rw[if_neg (cD.1 h1),if_neg (cD.1 h2),if_pos (bP.1 h3)] at h;exact h
 ·rw[if_neg (cD.1 h1),if_neg (cD.1 h2),if_neg (cD.1 h3)] at h;exact h
theorem getD_some {l:List Nat}{i:Nat} (h:i<l.length):l[i]?=some (l.getD i 0):=by
 rw[List.getD,List.getElem?_eq_getElem h];rfl
theorem CR {k:Nat}{l:List Nat}{K:Nat->Prop} (hk0:1<=k) (hk:k<12) (ha:Arity k l.length) (hl:l.length<2 ^ 60) (h:K (uQ k l)):bA k l K:=by
 unfold bA
 refine th (by omega) ?_
 refine dT ?_
 refine⟨fun h1=>?_,fun h1=>?_⟩
 ·have:=aT.1 h1;have:=ha.1;simp only at *;omega
 ·have e:ltI (hiZ k) (Int.ofNat l.length)=false:=qG.2 ha.2
  show (ltI (hiZ k) (Int.ofNat l.length)=true->_)/\_
  rw[e]
  refine⟨(fun hc=>by cases hc),fun _=>?_⟩
  unfold uQ at h
  refine⟨fun c=>?_,fun c1=>⟨fun c=>?_,fun c2=>⟨fun c=>?_,fun c3=>⟨fun c=>?_,fun c4=>⟨fun c=>?_,fun c5=>⟨fun c=>?_,fun c6=>⟨fun c=>?_,fun c7=>⟨fun c=>?_,fun c8=>⟨fun c=>?_,fun c9=>⟨fun c=>?_,fun c10=>⟨fun c=>?_,fun c11=>?_⟩⟩⟩⟩⟩⟩⟩⟩⟩⟩⟩
  ·have c:=bP.1 c;subst c;exact h
  ·have c:=bP.1 c;subst c;exact h
  ·have c:=bP.1 c;subst c
   exact⟨_,getD_some (by rw[uN ha];decide),h⟩
  ·have c:=bP.1 c;subst c
   exact⟨_,getD_some (by rw[tW ha];decide),vU h⟩
  ·have c:=bP.1 c;subst c;exact kZ hl h
  ·have c:=bP.1 c;subst c;exact kZ hl (vU h)
  ·have c:=bP.1 c;subst c;exact kZ hl h
  ·have c:=bP.1 c;subst c;exact kZ hl (vU h)
  ·have c:=bP.1 c;subst c;exact AX hl h
  ·have c:=bP.1 c;subst c;exact AX hl (vU h)
  ·have c:=bP.1 c;subst c
   have:=zN ha
   exact⟨_,getD_some (by omega),_,getD_some (by omega),_,getD_some (by omega),D7 h⟩
  ·exfalso
   have a1:=cD.1 c1;have a2:=cD.1 c2;have a3:=cD.1 c3;have a4:=cD.1 c4;have a5:=cD.1 c5;have a6:=cD.1 c6;have a7:=cD.1 c7;have a8:=cD.1 c8;have a9:=cD.1 c9;have a10:=cD.1 c10;have a11:=cD.1 c11
   omega
structure GoodN (c:Circ) (i:Nat) (x:Node):Prop where
 kind:x.kind<=15
 arity:Arity x.kind x.ins.length
 ins:∀ k∈x.ins,k<c.nodes.length
 bus:x.kind=13->∀ k∈x.ins,∃ y,c.nodes[k]?=some y/\y.kind=12
 mem:x.kind≠15->x.mem=0/\x.bit=0
 memb:x.kind=15->∃ m,c.mems[x.mem]?=some m/\x.bit<m.data.length
 acyc:1<=x.kind->x.kind<=13->∀ k∈x.ins,k<i
structure GoodM (c:Circ) (m:Memo):Prop where
 addr:1<=m.addr.length/\m.addr.length<=8
 data:1<=m.data.length/\m.data.length<=32
 addrs:∀ k∈m.addr,k<c.nodes.length
 datas:∀ k∈m.data,k<c.nodes.length
 write:m.write<c.nodes.length
structure Good (c:Circ):Prop where
 len:c.nodes.length<=16
 names:c.names.length=c.nodes.length
 namesOk:NamesOk c
 fanOk:FanOk c
 mems:∀ m∈c.mems,GoodM c m
 memsLen:c.mems.length<=16
 outs:∀ o∈c.outs,o<c.nodes.length
 outsLen:c.outs.length<=16
 node:∀ i x,c.nodes[i]?=some x->GoodN c i x
 pos:0<c.nodes.length
theorem E7 (k:Nat) (hk:k<=15):hiZ k<=16:=by
 have:∀ k,k<=15->hiZ k<=16:=by decide
 exact this k hk
theorem GoodN.few {c:Circ}{i:Nat}{x:Node} (g:GoodN c i x):x.ins.length<=16:=by
 have h1:=E7 _ g.kind
 have h2:=g.arity.2
 simp only[Int.ofNat_eq_natCast] at h2
 omega
theorem kW {l:List Nat}{c:Circ}{K:Bool->Prop} (hl:∀ k∈l,k<c.nodes.length) (hn:l.length<2 ^ 60) (h:K false):cH l c K:=by
 unfold cH gA
 refine eI (l:=l) ?_ ?_ h
 ·intro k i nx x hx hi hnx
  have hx2:=hl x (List.mem_of_getElem? hx)
  exact⟨fun _=>⟨x,hx,fun h1=>absurd (aT.1 h1) (Nat.not_lt_zero _),fun _=>⟨fun h2=>absurd (mj.1 h2) (by omega),fun _=>⟨by omega,hnx⟩⟩⟩,fun h1=>absurd (bb.1 h1) (by omega)⟩
 ·intro k i nx hi hk
  exact⟨fun h1=>absurd (aT.1 h1) (by omega),fun _=>hk⟩
theorem An {l:List Nat}{c:Circ}{K:Bool->Prop} (hl:∀ k∈l,∃ y,c.nodes[k]?=some y/\y.kind=12) (hn:l.length<2 ^ 60) (h:K false):gG l c K:=by
 unfold gG gY
 refine eI (l:=l) ?_ ?_ h
 ·intro k i nx x hx hi hnx
  obtain⟨y,hy,hk⟩:=hl x (List.mem_of_getElem? hx)
  exact⟨fun _=>⟨x,hx,y,hy,fun h1=>absurd hk (dQ.1 h1),fun _=>⟨by omega,hnx⟩⟩,fun h1=>absurd (bb.1 h1) (by omega)⟩
 ·intro k i nx hi hk
  exact⟨fun h1=>absurd (aT.1 h1) (by omega),fun _=>hk⟩
theorem vg {k:Nat}{K:Bool->Prop} (h:K (decide (1<=k/\k<=13))):cj k K:=by
 unfold cj
 by_cases c1:1<=k
 ·refine⟨fun _=>?_,fun q=>absurd (oN.1 q) (by omega)⟩
  have:(!ltN 13 k)=decide (1<=k/\k<=13):=by rw[Bool.eq_iff_iff,mj];simp[c1]
  rw[this];exact h
 ·refine⟨fun q=>absurd (mj.1 q) c1,fun _=>?_⟩
  have:decide (1<=k/\k<=13)=false:=decide_eq_false (fun q=>c1 q.1)
  rw[this] at h;exact h
theorem Ef {c:Circ}{x:Node}{K:Bool->Prop} (h1:x.kind≠15->x.mem=0/\x.bit=0) (h2:x.kind=15->∃ m,c.mems[x.mem]?=some m/\x.bit<m.data.length) (h:K true):cU c x K:=by
 unfold cU
 refine⟨fun q=>?_,fun q=>?_⟩
 ·obtain⟨a,b⟩:=h1 (dQ.1 q)
  refine⟨fun _=>?_,fun q=>absurd a (cD.1 q)⟩
  rw[bP.2 b];exact h
 ·obtain⟨m,a,b⟩:=h2 (oC.1 q)
  refine⟨fun _=>⟨fun _=>⟨fun _=>⟨m,a,?_⟩,fun q=>absurd (oN.1 q) (Nat.not_lt_zero _)⟩,fun q=>absurd (bb.1 q) (by have:=aj a;omega)⟩,fun q=>absurd (oN.1 q) (Nat.not_lt_zero _)⟩
  rw[aT.2 b];exact h
theorem Dv {c:Circ}{i:Nat}{x:Node}{K:Nat->Prop} (g:GoodN c i x) (h:K 0):dn c x K:=by
 have hf:=g.few
 unfold dn
 refine th (by have:=g.kind;omega) ?_
 refine⟨fun q=>absurd (aT.1 q) (by have:=g.kind;omega),fun _=>?_⟩
 have e1:ltN x.ins.length (loN x.kind)=false:=bb.2 g.arity.1
 have e2:ltI (hiZ x.kind) (Int.ofNat x.ins.length)=false:=qG.2 g.arity.2
 refine dT ?_
 refine⟨fun q=>absurd (q.symm.trans e1) (by decide),fun _=>?_⟩
 show (ltI (hiZ x.kind) (Int.ofNat x.ins.length)=true->_)/\_
 rw[e2]
 refine⟨(fun q=>by cases q),fun _=>kW g.ins (by omega) ⟨(fun q=>by cases q),fun _=>?_⟩⟩
 have last:(false=true->K 7)/\(false=false->cU c x fun r8=>((!r8)=true->K 1)/\((!r8)=false->K 0)) :=
  ⟨(fun q=>by cases q),fun _=>Ef g.mem g.memb ⟨(fun q=>by cases q),fun _=>h⟩⟩
 exact⟨fun q=>An (g.bus (bP.1 q)) (by omega) last,fun _=>last⟩
theorem A9 {c:Circ}{K:Nat->Prop} (g:NamesOk c) (h:K 0):gI c K:=⟨g,h⟩
theorem Aa {c:Circ}{m:Memo}{K:Nat->Prop} (g:GoodM c m) (h:K 0):cM c m K:=by
 have h1:=g.addr
 have h2:=g.data
 unfold cM
 refine dT ⟨fun q=>absurd (bP.1 q) (by omega),fun _=>⟨fun q=>absurd (aT.1 q) (by omega),fun _=>⟨fun q=>absurd (bP.1 q) (by omega),fun _=>?_⟩⟩⟩
 rw[bb.2 h2.2]
 refine⟨(fun q=>by cases q),fun _=>dT (kW g.addrs (by omega) ⟨(fun q=>by cases q),fun _=>kW g.datas (by omega) ⟨(fun q=>by cases q),fun _=>⟨fun q=>absurd (aT.1 q) (Nat.not_lt_zero _),fun _=>?_⟩⟩⟩)⟩
 rw[aT.2 g.write]
 exact⟨(fun q=>by cases q),fun _=>h⟩
theorem BS {c:Circ}{K:Nat->Prop} (g:Good c) (h:K 0):dc c K:=by
 have hlen:=g.len
 have hol:=g.outsLen
 unfold dc
 have e1:ltN 16384 c.nodes.length=false:=bb.2 (by omega)
 have e2:ltN 16 c.mems.length=false:=bb.2 g.memsLen
 have e3:ltN 16384 c.outs.length=false:=bb.2 (by omega)
 refine dT ?_
 refine⟨fun q=>absurd (q.symm.trans e1) (by decide),fun _=>⟨fun q=>absurd (q.symm.trans e2) (by decide),fun _=>?_⟩⟩
 show (ltN 16384 c.outs.length=true->_)/\_
 rw[e3]
 refine⟨(fun q=>by cases q),fun _=>⟨fun q=>absurd g.names (dQ.1 q),fun _=>?_⟩⟩
 refine eI (l:=c.nodes) ?_ ?_ ?_
 ·intro k i nx x hx hi hnx
  exact⟨fun _=>⟨x,hx,Dv (g.node i x hx) ⟨(fun q=>absurd rfl (dQ.1 q)),fun _=>⟨by omega,hnx⟩⟩⟩,fun h1=>absurd (bb.1 h1) (by omega)⟩
 ·intro k i nx hi hk
  exact⟨fun h1=>absurd (aT.1 h1) (by omega),fun _=>hk⟩
 ·refine A9 g.namesOk ⟨(fun q=>absurd rfl (dQ.1 q)),fun _=>?_⟩
  refine eI (l:=c.mems) ?_ ?_ ?_
  ·intro k i nx x hx hi hnx
   have:=g.memsLen
   exact⟨fun _=>⟨x,hx,Aa (g.mems x (List.mem_of_getElem? hx)) ⟨fun q=>absurd rfl (dQ.1 q),fun _=>⟨by omega,hnx⟩⟩⟩,fun h1=>absurd (bb.1 h1) (by omega)⟩
  ·intro k i nx hi hk
   exact⟨fun h1=>absurd (aT.1 h1) (by omega),fun _=>hk⟩
  ·exact kW g.outs (by omega) ⟨(fun q=>by cases q),fun _=>h⟩
def ofN (c:Circ) (ks:List Nat):List Nat:=(List.range c.nodes.length).filter fun i=>ks.contains ((c.nodes.map Node.kind).getD i 0)
theorem vS {l:List Nat}{k:Nat}{K:Bool->Prop} (hn:l.length<2 ^ 60) (h:K (l.contains k)):dK l k K:=by
 unfold dK ja
 refine aA (fun i=>i<=l.length/\(l.take i).contains k=false) (fun i=>l.length-i) (fun _=>l.contains k=false) ?_ ⟨Nat.zero_le _,by simp⟩ (fun _ e=>by rw[e] at h;exact h)
 intro kk i nx ⟨hi,hI⟩ hnx hk
 refine⟨fun q=>?_,fun q=>?_⟩
 ·have q:=aT.1 q
  obtain⟨x,hx⟩:=aC q
  refine⟨x,hx,fun e=>?_,fun e=>⟨by omega,hnx (i+1) ⟨q,?_⟩ (by omega)⟩⟩
  ·have e:=bP.1 e
   have:l.contains k=true:=by simp;rw[e];exact List.mem_of_getElem? hx
   rw[this] at h
   have e2:(!ltI (Int.ofNat i) (Int.ofNat 0))=true:=by
    have:ltI (Int.ofNat i) (Int.ofNat 0)=false:=qG.2 (Int.natCast_nonneg i)
    rw[this];rfl
   show K (!ltI (Int.ofNat i) (Int.ofNat 0))
   rw[e2];exact h
  ·have e:=cD.1 e
   obtain⟨h1,rfl⟩:=List.getElem?_eq_some_iff.1 hx
   rw[List.take_succ_eq_append_getElem h1]
   simp only[List.contains_eq_mem,List.mem_append,List.mem_singleton,decide_eq_false_iff_not] at hI ⊢
   intro q2
   rcases q2 with q2|q2
   ·exact hI q2
   ·exact e q2
 ·have q:=bb.1 q
  rw[List.take_of_length_le q] at hI
  exact hk () hI
theorem Bs {c:Circ}{ks:List Nat}{K:List Nat->Prop} (hc:c.nodes.length<2 ^ 40) (hn:ks.length<2 ^ 60) (h:K (ofN c ks)):cN c ks K:=by
 unfold cN
 refine aA (fun s=>s.2<=c.nodes.length/\s.1=(List.range s.2).filter fun i=>ks.contains ((c.nodes.map Node.kind).getD i 0)) (fun s=>c.nodes.length-s.2) (fun a=>a=ofN c ks) ?_ ⟨Nat.zero_le _,rfl⟩ (fun a e=>by rw[e];exact h)
 rintro k ⟨o,i⟩ nx ⟨hi,hI⟩ hnx hk
 simp only at hi hI
 refine⟨fun q=>?_,fun q=>?_⟩
 ·have q:=aT.1 q
  obtain⟨x,hx⟩:=aC q
  have hkd:(c.nodes.map Node.kind).getD i 0=x.kind:=by rw[List.getD,List.getElem?_map,hx];rfl
  have hol:o.length<=i:=by rw[hI];exact Nat.le_trans (List.length_filter_le _ _) (by simp)
  refine⟨x,hx,vS hn ⟨fun e=>⟨by simp only[List.length_singleton];omega,by omega,hnx (o++[i],i+1) ⟨q,?_⟩ (by simp only;omega)⟩,fun e=>⟨by omega,hnx (o,i+1) ⟨q,?_⟩ (by simp only;omega)⟩⟩⟩
  ·show o++[i]=_
   rw[List.range_succ,List.filter_append,<- hI]
   simp only[List.filter_cons,hkd,e,if_true,List.filter_nil]
  ·show o=_
   rw[List.range_succ,List.filter_append,<- hI]
   simp only[List.filter_cons,hkd,e,List.filter_nil]
   simp
 ·have q:=bb.1 q
  have:i=c.nodes.length:=by omega
  subst this
  exact hk o hI
theorem fX {α:Type}{first:(α->Prop)->Prop}{rest:α->Prop} (P:α->Prop) (h1:∀ k,(∀ a,P a->k a)->first k) (h2:∀ a,P a->rest a):an first rest:=h1 rest h2
theorem dE {α:Type}{a:α}{first:(α->Prop)->Prop}{rest:α->Prop} (h1:rest a->first rest) (h2:rest a):an first rest:=h1 h2
def xP (e d:Nat):Nat:=if e=0 then 3 else if e=1 then min d 2 else 2
def nP (v:Nat):Nat:=if 3<v then 2 else v
def C2 (l:List Nat):Option Nat:=l.findIdx? fun v=>v != 3
def xi (l:List Nat):Nat:=match C2 l with
 |none=>3
 |some i=>if (l.contains 0&&l.contains 1)||l.any (fun v=>nP v==2) then 2 else l.getD i 0
def iC (k:Nat) (l:List Nat):Nat:=if k=12 then xP (l.getD 0 0) (l.getD 1 0) else if k=13 then xi l else uQ k l
theorem Ew {e d:Nat}{K:Nat->Prop} (h:K (xP e d)):gC e d K:=by
 unfold gC bI
 unfold xP at h
 refine⟨fun h1=>?_,fun h1=>⟨fun h2=>?_,fun h2=>?_⟩⟩
 ·rw[if_pos (bP.1 h1)] at h;exact h
 ·rw[if_neg (cD.1 h1),if_pos (bP.1 h2)] at h;exact h
 ·rw[if_neg (cD.1 h1),if_neg (cD.1 h2)] at h;exact h
theorem tc (i:Nat):(!ltI (Int.ofNat i) (Int.ofNat 0))=true:=by
 have:ltI (Int.ofNat i) (Int.ofNat 0)=false:=qG.2 (Int.natCast_nonneg i)
 rw[this];rfl
theorem vc {l:List Nat}{p:Nat->Bool}{K:Int->Prop}{body:(Unit->Prop)->Nat->(Nat->Prop)->Prop} (hl:l.length<2 ^ 60)
  (step:∀ k i nx x,l[i]?=some x->(p x=true->K (Int.ofNat i))->(p x=false->i+1<2 ^ 63/\nx (i+1))->body k i nx) (fin:∀ k i nx,l.length<=i->k ()->body k i nx)
  (h1:∀ i,l.findIdx? p=some i->K (Int.ofNat i)) (h2:l.findIdx? p=none->K (Int.negSucc 0)):an (fun k1=>ar (fun v2 nx3=>body k1 v2 nx3) 0) (fun _:Unit=>K (Int.negSucc 0)):=by
 refine aA (fun i=>i<=l.length/\∀ j x,j<i->l[j]?=some x->p x=false) (fun i=>l.length-i) (fun _=>l.findIdx? p=none) ?_ ⟨Nat.zero_le _,fun j x h=>absurd h (Nat.not_lt_zero _)⟩ (fun _ e=>h2 e)
 intro k i nx ⟨hi,hI⟩ hnx hk
 by_cases c:i<l.length
 ·obtain⟨x,hx⟩:=aC c
  refine step k i nx x hx (fun e=>h1 i ?_) (fun e=>⟨by omega,hnx (i+1) ⟨c,fun j y hj hy=>?_⟩ (by omega)⟩)
  ·rw[List.findIdx?_eq_some_iff_getElem]
   obtain⟨q1,q2⟩:=List.getElem?_eq_some_iff.1 hx
   refine⟨q1,by rw[q2];exact e,fun j hj=>?_⟩
   have:=hI j _ hj (List.getElem?_eq_getElem (by omega))
   simp[this]
  ·by_cases q:j=i
   ·subst q;rw[hx] at hy;cases hy;exact e
   ·exact hI j y (by omega) hy
 ·refine fin k i nx (by omega) (hk () ?_)
  rw[List.findIdx?_eq_none_iff]
  intro x m
  obtain⟨j,hj,rfl⟩:=List.getElem_of_mem m
  exact hI j _ (by omega) (List.getElem?_eq_getElem hj)
theorem Ax {l:List Nat}{K:Int->Prop} (hl:l.length<2 ^ 60) (h1:∀ i,C2 l=some i->K (Int.ofNat i)) (h2:C2 l=none->K (Int.negSucc 0)):gB l K:=by
 unfold gB
 refine vc (l:=l) (p:=fun v=>v != 3) hl ?_ ?_ h1 h2
 ·intro k i nx x hx a b
  exact⟨fun _=>⟨x,hx,fun e=>a (by simpa using dQ.1 e),fun e=>b (by simpa using oC.1 e)⟩,fun e=>absurd (aj hx) (by have:=bb.1 e;omega)⟩
 ·intro k i nx hi hk
  exact⟨fun e=>absurd (aT.1 e) (by omega),fun _=>hk⟩
theorem wm {v:Nat}{K:Nat->Prop} (h:K (nP v)):dv v K:=by
 unfold dv
 unfold nP at h
 refine⟨fun e=>?_,fun e=>?_⟩
 ·rw[if_pos (aT.1 e)] at h;exact h
 ·rw[if_neg (Nat.not_lt.2 (bb.1 e))] at h;exact h
theorem ox {l:List Nat}{p:Nat->Bool}:(∀ i,l.findIdx? p=some i->l.any p=true)/\(l.findIdx? p=none->l.any p=false):=by
 refine⟨fun i h=>?_,fun h=>?_⟩
 ·rw[List.findIdx?_eq_some_iff_getElem] at h
  obtain⟨h1,h2,_⟩:=h
  exact List.any_eq_true.2 ⟨_,List.getElem_mem h1,h2⟩
 ·rw[List.findIdx?_eq_none_iff] at h
  exact List.any_eq_false.2 fun x m=>by simp[h x m]
theorem sa {l:List Nat}{K:Bool->Prop} (hl:l.length<2 ^ 60) (h:K (l.any fun v=>nP v==2)):fi l K:=by
 unfold fi gD
 refine vc (l:=l) (p:=fun v=>nP v==2) (K:=fun r=>K (!ltI r (Int.ofNat 0))) hl ?_ ?_ (fun i e=>?_) (fun e=>?_)
 ·intro k i nx x hx a b
  exact⟨fun _=>⟨x,hx,wm ⟨fun e=>a (by simpa using bP.1 e),fun e=>b (by simpa using cD.1 e)⟩⟩,fun e=>absurd (aj hx) (by have:=bb.1 e;omega)⟩
 ·intro k i nx hi hk
  exact⟨fun e=>absurd (aT.1 e) (by omega),fun _=>hk⟩
 ·rw[tc]
  rw[ox.1 i e] at h;exact h
 ·rw[ox.2 e] at h;exact h
theorem oE {l:List Nat}{x:Nat}{K:Bool->Prop} (hl:l.length<2 ^ 60) (h:K (l.contains x)):cT l x K:=by
 unfold cT iI
 have hc:l.contains x=l.any fun v=>x==v:=by
  rw[List.contains_eq_any_beq]
 rw[hc] at h
 refine vc (l:=l) (p:=fun v=>x==v) (K:=fun r=>K (!ltI r (Int.ofNat 0))) hl ?_ ?_ (fun i e=>?_) (fun e=>?_)
 ·intro k i nx y hy a b
  exact⟨fun _=>⟨y,hy,fun e=>a (by simpa using bP.1 e),fun e=>b (by simpa using cD.1 e)⟩,fun e=>absurd (aj hy) (by have:=bb.1 e;omega)⟩
 ·intro k i nx hi hk
  exact⟨fun e=>absurd (aT.1 e) (by omega),fun _=>hk⟩
 ·rw[tc]
  rw[ox.1 i e] at h;exact h
 ·rw[ox.2 e] at h;exact h
theorem Eu {l:List Nat}{K:Nat->Prop} (hl:l.length<2 ^ 60) (h:K (xi l)):gq l K:=by
 unfold gq
 unfold xi at h
 refine Ax hl (fun i e=>?_) (fun e=>?_)
 ·rw[e] at h
  dsimp only at h
  refine⟨fun q=>absurd (zD.1 q) (by simp only[Int.ofNat_eq_natCast];omega),fun _=>?_⟩
  have hi:i<l.length:=(List.findIdx?_eq_some_iff_getElem.1 e).1
  refine fX (fun b=>b=((l.contains 0&&l.contains 1)||l.any fun v=>nP v==2)) (fun k hk=>?_) ?_
  ·unfold dO
   refine oE hl ⟨fun e0=>oE hl ⟨fun e1=>hk _ ?_,fun e1=>sa hl (hk _ ?_)⟩,fun e0=>⟨(fun e=>by cases e),fun _=>sa hl (hk _ ?_)⟩⟩
   ·rw[e0,e1];rfl
   ·rw[e0,e1];rfl
   ·rw[e0];rfl
  ·rintro b rfl
   refine⟨fun q=>?_,fun q=>⟨i,rfl,_,getD_some hi,?_⟩⟩
   ·rw[if_pos q] at h;exact h
   ·rw[if_neg (by rw[q];decide)] at h;exact h
 ·rw[e] at h
  exact⟨fun _=>h,fun q=>by cases q⟩
theorem Am {n:Nat} (h:Arity 12 n):n=2:=by
 obtain⟨h1,h2⟩:=h
 have e1:loN 12=2:=by decide
 have e2:hiZ 12=2:=by decide
 rw[e1] at h1;rw[e2] at h2
 simp only[Int.ofNat_eq_natCast] at h2;omega
theorem qa {n:Nat} (h:Arity 14 n):n=1:=by
 obtain⟨h1,h2⟩:=h
 have e1:loN 14=1:=by decide
 have e2:hiZ 14=1:=by decide
 rw[e1] at h1;rw[e2] at h2
 simp only[Int.ofNat_eq_natCast] at h2;omega
theorem BC {k:Nat}{l:List Nat}{K:Nat->Prop} (hk0:1<=k) (hk:k<14) (ha:Arity k l.length) (hl:l.length<2 ^ 60) (h:K (iC k l)):bA k l K:=by
 by_cases h12:k<12
 ·unfold iC at h
  rw[if_neg (by omega),if_neg (by omega)] at h
  exact CR hk0 h12 ha hl h
 unfold bA
 refine th (by omega) ?_
 refine dT ?_
 refine⟨fun h1=>?_,fun h1=>?_⟩
 ·have:=aT.1 h1;have:=ha.1;simp only at *;omega
 ·have e:ltI (hiZ k) (Int.ofNat l.length)=false:=qG.2 ha.2
  show (ltI (hiZ k) (Int.ofNat l.length)=true->_)/\_
  rw[e]
  refine⟨(fun hc=>by cases hc),fun _=>?_⟩
  unfold iC at h
  refine⟨fun c=>absurd (bP.1 c) (by omega),fun _=>⟨fun c=>absurd (bP.1 c) (by omega),fun _=>⟨fun c=>absurd (bP.1 c) (by omega),fun _=>⟨fun c=>absurd (bP.1 c) (by omega),fun _=>⟨fun c=>absurd (bP.1 c) (by omega),fun _=>⟨fun c=>absurd (bP.1 c) (by omega),fun _=>⟨fun c=>absurd (bP.1 c) (by omega),fun _=>⟨fun c=>absurd (bP.1 c) (by omega),fun _=>⟨fun c=>absurd (bP.1 c) (by omega),fun _=>⟨fun c=>absurd (bP.1 c) (by omega),fun _=>⟨fun c=>absurd (bP.1 c) (by omega),fun _=>⟨fun c=>?_,fun c1=>⟨fun c=>?_,fun c2=>?_⟩⟩⟩⟩⟩⟩⟩⟩⟩⟩⟩⟩⟩
  ·have c:=bP.1 c;subst c
   have:=Am ha
   exact⟨_,getD_some (by omega),_,getD_some (by omega),Ew h⟩
  ·have c:=bP.1 c;subst c
   exact Eu hl h
  ·have a1:=cD.1 c1;have a2:=cD.1 c2;omega
theorem Cr (k:Nat) (l:List Nat):uQ k l<=2:=by
 have hn:∀ v,mW v<=2:=fun v=>by unfold mW;split <;> omega
 have hx:∀ (l:List Nat) (o:Nat),o<=1->nb l o<=2:=by
  intro l
  induction l with
  |nil=>intro o ho;unfold nb;omega
  |cons v r ih =>
   intro o ho
   unfold nb
   split
   ·refine ih _ ?_
    have q1:o=0\/o=1:=by omega
    have q2:v=0\/v=1:=by omega
    rcases q1 with rfl|rfl <;> rcases q2 with rfl|rfl <;> decide
   ·omega
 have hd:∀ (low high:Nat) (l:List Nat) (o:Nat),low<=2->o<=2->dq low high l o<=2:=by
  intro low high l
  induction l with
  |nil=>intro o h1 h2;exact h2
  |cons v r ih =>
   intro o h1 h2
   unfold dq
   split
   ·exact h1
   ·refine ih _ h1 ?_
    split
    ·exact h2
    ·omega
 unfold uQ
 repeat' split
 all_goals first|omega|exact hn _|exact hd _ _ _ _ (by decide) (by decide) | exact hx _ _ (by decide) | (unfold xR;repeat' split) <;> omega
theorem Bg (k:Nat) {l:List Nat} (hl:∀ v∈l,v<=3):iC k l<=3:=by
 unfold iC
 split
 ·unfold xP;repeat' split
  all_goals omega
 split
 ·unfold xi
  split
  ·omega
  ·split
   ·omega
   ·rename_i i hi _
    obtain⟨h1,h2,_⟩:=List.findIdx?_eq_some_iff_getElem.1 hi
    rw[List.getD,List.getElem?_eq_getElem h1]
    exact hl _ (List.getElem_mem h1)
 ·have:=Cr k l;omega
def kd (c:Circ) (i:Nat):Nat:=(c.nodes.map Node.kind).getD i 0
def insOf (c:Circ) (i:Nat):List Nat:=(c.nodes.map Node.ins).getD i []
theorem fE {c:Circ}{i:Nat}{x:Node} (h:c.nodes[i]?=some x):kd c i=x.kind:=by unfold kd;rw[List.getD,List.getElem?_map,h];rfl
theorem vY {c:Circ}{i:Nat}{x:Node} (h:c.nodes[i]?=some x):insOf c i=x.ins:=by unfold insOf;rw[List.getD,List.getElem?_map,h];rfl
def isComb (k:Nat):Prop:=1<=k/\k<=13
instance (k:Nat):Decidable (isComb k):=by unfold isComb;exact inferInstance
theorem nH (x:Nat):∀ (l:List Nat) (s:Nat),((l.zipIdx s).filter fun p=>p.1==x).length=l.count x
 |[],_=>rfl
 |a::l,s=>by
  rw[List.zipIdx_cons,List.filter_cons,List.count_cons]
  by_cases c:a=x
  ·simp[c,nH x l (s+1)]
  ·simp[c,nH x l (s+1)]
theorem tK (x idx i:Nat) (ins:List Nat):(bB x idx ins).countP (fun l=>l.node==i)=if idx=i then ins.count x else 0:=by
 unfold bB
 rw[List.countP_map]
 by_cases c:idx=i
 ·rw[if_pos c,<- nH x ins 0]
  subst c
  rw[List.countP_eq_length.2 (by intro p _;simp)]
 ·rw[if_neg c]
  rw[List.countP_eq_zero]
  intro p _
  simpa using c
def fanOf (c:Circ) (x:Nat):List Ln:=c.nodes.zipIdx.flatMap fun p=>bB x p.2 p.1.ins
theorem oY (x i:Nat):∀ (ns:List Node) (s:Nat),((ns.zipIdx s).flatMap fun p=>bB x p.2 p.1.ins).countP (fun l=>l.node==i)=if s<=i then ((ns.map Node.ins).getD (i-s) []).count x else 0
 |[],s=>by simp
 |a::ns,s=>by
  rw[List.zipIdx_cons,List.flatMap_cons,List.countP_append,tK,oY x i ns (s+1)]
  by_cases c:s=i
  ·subst c
   rw[if_pos rfl,if_neg (by omega),if_pos (Nat.le_refl _),Nat.sub_self]
   rfl
  ·rw[if_neg c]
   by_cases q:s<=i
   ·rw[if_pos (by omega:s+1<=i),if_pos q]
    have:i-s=(i-(s+1))+1:=by omega
    rw[this,Nat.zero_add]
    rfl
   ·rw[if_neg (by omega:¬ s+1<=i),if_neg q]
theorem uz (c:Circ) (x i:Nat):(fanOf c x).countP (fun l=>l.node==i)=(insOf c i).count x:=by
 have:=oY x i c.nodes 0
 rw[if_pos (Nat.zero_le _),Nat.sub_zero] at this
 exact this
theorem xO {c:Circ}{x:Nat}{l:Ln} (h:l∈fanOf c x):l.node<c.nodes.length:=by
 unfold fanOf at h
 rw[List.mem_flatMap] at h
 obtain⟨p,h1,h2⟩:=h
 unfold bB at h2
 obtain⟨q,_,rfl⟩:=List.mem_map.1 h2
 have:=List.mem_zipIdx h1
 simp only
 omega
theorem su {c:Circ}{x:Nat} (h:x<c.nodes.length):(mR c)[x]?=some (fanOf c x):=by
 unfold mR
 rw[List.getElem?_map,List.getElem?_range h]
 rfl
structure LevOk (c:Circ) (lev:List Nat):Prop where
 len:lev.length=c.nodes.length
 up:∀ i x,c.nodes[i]?=some x->isComb x.kind->∀ k∈x.ins,lev.getD k 0<lev.getD i 0
theorem cA {l:List Nat}{i j v:Nat} (h:i<l.length):(l.set i v).getD j 0=if i=j then v else l.getD j 0:=by
 rw[List.getD,List.getD,List.getElem?_set]
 by_cases c:i=j
 ·subst c;simp[h]
 ·simp[c]
structure Kahn (c:Circ) (lev left R:List Nat) (d:Nat):Prop where
 levLen:lev.length=c.nodes.length
 leftLen:left.length=c.nodes.length
 dle:d<=R.length
 nodup:R.Nodup
 lt:∀ r∈R,r<c.nodes.length
 cnt:∀ i,i<c.nodes.length->left.getD i 0=if isComb (kd c i) then (insOf c i).countP (fun k=>decide (k ∉ R.take d)) else 0
 rdy:∀ i,i<c.nodes.length->(i∈R↔left.getD i 0=0)
 up:∀ i,i<c.nodes.length->isComb (kd c i)->∀ k∈insOf c i,k∈R.take d->lev.getD k 0<lev.getD i 0
 bnd:∀ i,lev.getD i 0<=d
structure KahnIn (c:Circ) (lev0 R0:List Nat) (d x:Nat) (lev left R:List Nat) (t:Nat):Prop where
 levLen:lev.length=c.nodes.length
 leftLen:left.length=c.nodes.length
 pre:∃ r,R=R0++r
 nodup:R.Nodup
 lt:∀ r∈R,r<c.nodes.length
 cnt:∀ i,i<c.nodes.length->left.getD i 0=if isComb (kd c i) then (insOf c i).countP (fun k=>decide (k ∉ R0.take d/\k≠x))+((fanOf c x).drop t).countP (fun l=>l.node==i) else 0
 rdy:∀ i,i<c.nodes.length->(i∈R↔left.getD i 0=0)
 up:∀ i,i<c.nodes.length->isComb (kd c i)->∀ k∈insOf c i,k∈R0.take d->lev.getD k 0<lev.getD i 0
 upx:∀ l∈(fanOf c x).take t,isComb (kd c l.node)->lev.getD x 0<lev.getD l.node 0
 bnd:∀ i,lev.getD i 0<=d+1
 bndx:lev.getD x 0<=d
theorem vk (l:List Nat) (p:Nat->Prop) [DecidablePred p] (x:Nat) (hx:¬ p x):l.countP (fun k=>decide (¬ p k))=l.countP (fun k=>decide (¬ p k/\k≠x))+l.count x:=by
 induction l with
 |nil=>rfl
 |cons a l ih =>
  rw[List.countP_cons,List.countP_cons,List.count_cons,ih]
  by_cases c:a=x
  ·subst c
   simp[hx]
   omega
  ·by_cases q:p a
   ·simp[q,c]
   ·simp[q,c]
    omega
theorem Kahn.enter {c:Circ}{lev left R:List Nat}{d x:Nat} (K:Kahn c lev left R d) (hx:R[d]?=some x):KahnIn c lev R d x lev left R 0:=by
 have hxn:x ∉ R.take d:=by
  intro m
  obtain⟨h1,rfl⟩:=List.getElem?_eq_some_iff.1 hx
  obtain⟨j,hj,e⟩:=List.getElem_of_mem m
  rw[List.length_take] at hj
  rw[List.getElem_take] at e
  exact List.pairwise_iff_getElem.1 K.nodup j d (by omega) h1 (by omega) e
 refine⟨K.levLen,K.leftLen,⟨[],by simp⟩,K.nodup,K.lt,fun i hi=>?_,K.rdy,K.up,(fun l m=>by simp at m),fun i=>Nat.le_succ_of_le (K.bnd i),K.bnd x⟩
 rw[K.cnt i hi,List.drop_zero,uz]
 by_cases q:isComb (kd c i)
 ·rw[if_pos q,if_pos q]
  exact vk _ (fun k=>k∈R.take d) x (fun h=>hxn h)
 ·rw[if_neg q,if_neg q]
theorem dM {l:List Nat}{d x:Nat} (hx:l[d]?=some x):l.take (d+1)=l.take d++[x]:=by
 obtain⟨h1,rfl⟩:=List.getElem?_eq_some_iff.1 hx
 exact List.take_succ_eq_append_getElem h1
theorem KahnIn.leave {c:Circ}{lev0 R0 lev left R:List Nat}{d x t:Nat} (hx:R0[d]?=some x) (K:KahnIn c lev0 R0 d x lev left R t) (ht:(fanOf c x).length<=t):Kahn c lev left R (d+1):=by
 have hd:d<R0.length:=(List.getElem?_eq_some_iff.1 hx).1
 obtain⟨r,hr⟩:=K.pre
 have htk:R.take (d+1)=R0.take d++[x]:=by
  rw[hr,List.take_append_of_le_length (by omega),dM hx]
 refine⟨K.levLen,K.leftLen,by rw[hr,List.length_append];omega,K.nodup,K.lt,fun i hi=>?_,K.rdy,fun i hi q k hk m=>?_,K.bnd⟩
 ·rw[K.cnt i hi,List.drop_eq_nil_of_le ht]
  by_cases q:isComb (kd c i)
  ·rw[if_pos q,if_pos q]
   simp only[List.countP_nil,Nat.add_zero,htk]
   congr 1
   funext k
   simp
  ·rw[if_neg q,if_neg q]
 ·rw[htk,List.mem_append,List.mem_singleton] at m
  rcases m with m|rfl
  ·exact K.up i hi q k hk m
  ·have:0<(fanOf c k).countP (fun l=>l.node==i):=by
    rw[uz]
    exact List.count_pos_iff.2 hk
   obtain⟨l,m,e⟩:=List.countP_pos_iff.1 this
   have e:l.node=i:=by simpa using e
   have:=K.upx l (by rw[List.take_of_length_le ht];exact m) (by rw[e];exact q)
   rw[e] at this
   exact this
theorem KahnIn.skip {c:Circ}{lev0 R0 lev left R:List Nat}{d x t:Nat}{l:Ln} (K:KahnIn c lev0 R0 d x lev left R t) (hl:(fanOf c x)[t]?=some l) (hc:¬ isComb (kd c l.node)):KahnIn c lev0 R0 d x lev left R (t+1):=by
 have hd:=ka hl
 obtain⟨h1,hl2⟩:=List.getElem?_eq_some_iff.1 hl
 refine⟨K.levLen,K.leftLen,K.pre,K.nodup,K.lt,fun i hi=>?_,K.rdy,K.up,fun l' m q=>?_,K.bnd,K.bndx⟩
 ·rw[K.cnt i hi]
  by_cases q:isComb (kd c i)
  ·rw[if_pos q,if_pos q,hd,List.countP_cons]
   have:(l.node==i)=false:=by
    rw[beq_eq_false_iff_ne]
    intro e;rw[e] at hc;exact hc q
   simp[this]
  ·rw[if_neg q,if_neg q]
 ·rw[List.take_succ_eq_append_getElem h1,hl2,List.mem_append,List.mem_singleton] at m
  rcases m with m|rfl
  ·exact K.upx l' m q
  ·exact absurd q hc
theorem KahnIn.pos {c:Circ}{lev0 R0 lev left R:List Nat}{d x t:Nat}{l:Ln} (K:KahnIn c lev0 R0 d x lev left R t) (hl:(fanOf c x)[t]?=some l) (hc:isComb (kd c l.node)):1<=left.getD l.node 0:=by
 rw[K.cnt _ (xO (List.mem_of_getElem? hl)),if_pos hc,ka hl,List.countP_cons]
 simp
 omega
theorem KahnIn.step {c:Circ}{lev0 R0 lev left R:List Nat}{d x t:Nat}{l:Ln} (K:KahnIn c lev0 R0 d x lev left R t) (hl:(fanOf c x)[t]?=some l) (hc:isComb (kd c l.node)) (hx:R0[d]?=some x) {R':List Nat}
  (hR:(left.getD l.node 0-1=0/\R'=R++[l.node])\/(left.getD l.node 0-1≠0/\R'=R)) :
  KahnIn c lev0 R0 d x (lev.set l.node (max (lev.getD l.node 0) (lev.getD x 0+1))) (left.set l.node (left.getD l.node 0-1)) R' (t+1):=by
 have hd:=ka hl
 obtain⟨h1,hl2⟩:=List.getElem?_eq_some_iff.1 hl
 have hj:=xO (List.mem_of_getElem? hl)
 have hpos:=K.pos hl hc
 have hjR:l.node ∉ R:=fun m=>by
  have:=(K.rdy _ hj).1 m
  omega
 obtain⟨r,hr⟩:=K.pre
 have hxR:x∈R:=by rw[hr];exact List.mem_append_left _ (List.mem_of_getElem? hx)
 have hxne:l.node≠x:=fun e=>hjR (by rw[e];exact hxR)
 have hlev:∀ i,lev.getD i 0<=(lev.set l.node (max (lev.getD l.node 0) (lev.getD x 0+1))).getD i 0:=fun i=>by
  rw[cA (by rw[K.levLen];exact hj)]
  split
  ·rename_i e;subst e;exact Nat.le_max_left _ _
  ·exact Nat.le_refl _
 have hsame:∀ k,k∈R->(lev.set l.node (max (lev.getD l.node 0) (lev.getD x 0+1))).getD k 0=lev.getD k 0:=fun k m=>by
  rw[cA (by rw[K.levLen];exact hj),if_neg (fun e=>hjR (by rw[e];exact m))]
 refine⟨by rw[List.length_set];exact K.levLen,by rw[List.length_set];exact K.leftLen,?_,?_,?_,fun i hi=>?_,fun i hi=>?_,fun i hi q k hk m=>?_,fun l' m q=>?_,fun i=>?_,by rw[hsame x hxR];exact K.bndx⟩
 ·rcases hR with⟨_,rfl⟩|⟨_,rfl⟩
  ·exact⟨r++[l.node],by rw[hr,List.append_assoc]⟩
  ·exact⟨r,hr⟩
 ·rcases hR with⟨_,rfl⟩|⟨_,rfl⟩
  ·rw[List.nodup_append]
   exact⟨K.nodup,by simp,fun a ha b hb=>by rw[List.mem_singleton] at hb;subst hb;exact fun e=>hjR (e ▸ ha)⟩
  ·exact K.nodup
 ·rcases hR with⟨_,rfl⟩|⟨_,rfl⟩
  ·intro a m
   rcases List.mem_append.1 m with m|m
   ·exact K.lt a m
   ·rw[List.mem_singleton] at m;subst m;exact hj
  ·exact K.lt
 ·rw[cA (by rw[K.leftLen];exact hj)]
  have hK:=K.cnt i hi
  rw[hd,List.countP_cons] at hK
  by_cases e:l.node=i
  ·subst e
   rw[if_pos rfl,if_pos hc]
   rw[if_pos hc] at hK
   have hb:(l.node==l.node)=true:=by simp
   rw[if_pos hb] at hK
   omega
  ·rw[if_neg e,hK]
   have:(l.node==i)=false:=beq_eq_false_iff_ne.2 e
   simp[this]
 ·rw[cA (by rw[K.leftLen];exact hj)]
  by_cases e:l.node=i
  ·subst e
   rw[if_pos rfl]
   rcases hR with⟨h0,rfl⟩|⟨h0,rfl⟩
   ·exact⟨fun _=>h0,fun _=>by simp⟩
   ·exact⟨fun m=>absurd m hjR,fun q=>absurd q h0⟩
  ·rw[if_neg e,<- K.rdy i hi]
   rcases hR with⟨_,rfl⟩|⟨_,rfl⟩
   ·rw[List.mem_append,List.mem_singleton]
    exact⟨fun m=>m.resolve_right (fun q=>e q.symm),.inl⟩
   ·exact Iff.rfl
 ·have hkR:k∈R:=by rw[hr];exact List.mem_append_left _ (List.mem_of_mem_take m)
  rw[hsame k hkR]
  exact Nat.lt_of_lt_of_le (K.up i hi q k hk m) (hlev i)
 ·rw[List.take_succ_eq_append_getElem h1,hl2,List.mem_append,List.mem_singleton] at m
  rw[hsame x hxR]
  rcases m with m|rfl
  ·exact Nat.lt_of_lt_of_le (K.upx l' m q) (hlev _)
  ·rw[cA (by rw[K.levLen];exact hj),if_pos rfl]
   omega
 ·rw[cA (by rw[K.levLen];exact hj)]
  have:=K.bnd i
  have:=K.bndx
  have:=K.bnd l.node
  split <;> omega
theorem kr:∀ {l m:List Nat},l.Nodup->(∀ x∈l,x∈m)->l.length<=m.length
 |[],_,_,_=>Nat.zero_le _
 |a::l,m,hn,hs=>by
  obtain⟨h1,h2⟩:=List.nodup_cons.1 hn
  have ha:a∈m:=hs a (.head _)
  have:=kr (m:=m.erase a) h2 fun x hx=>(List.mem_erase_of_ne (fun e=>h1 (by rw[<- e];exact hx))).2 (hs x (.tail _ hx))
  rw[List.length_erase_of_mem ha] at this
  have:=List.length_pos_of_mem ha
  rw[List.length_cons]
  omega
theorem Kahn.all {c:Circ} (g:Good c) {lev left R:List Nat}{d:Nat} (K:Kahn c lev left R d) (hd:R.length<=d):d=c.nodes.length/\LevOk c lev:=by
 have hdR:R.take d=R:=List.take_of_length_le hd
 have mem:∀ i,i<c.nodes.length->i∈R:=by
  intro i
  induction i using Nat.strongRecOn with
  |_ i ih =>
   intro hi
   rw[K.rdy i hi,K.cnt i hi]
   by_cases q:isComb (kd c i)
   ·rw[if_pos q,List.countP_eq_zero]
    intro k hk
    obtain⟨x,hx⟩:=aC hi
    rw[vY hx] at hk
    rw[fE hx] at q
    have:=(g.node i x hx).acyc q.1 q.2 k hk
    simp[hdR,ih k this (by omega)]
   ·rw[if_neg q]
 have h1:c.nodes.length<=R.length:=by
  have:(List.range c.nodes.length).length<=R.length:=kr List.nodup_range (fun i m=>mem i (List.mem_range.1 m))
  simpa using this
 have h2:R.length<=c.nodes.length:=by
  have:R.length<=(List.range c.nodes.length).length:=kr K.nodup (fun i m=>List.mem_range.2 (K.lt i m))
  simpa using this
 refine⟨by have:=K.dle;omega,K.levLen,fun i x hx q k hk=>?_⟩
 have hi:=aj hx
 refine K.up i hi (by rw[fE hx];exact q) k (by rw[vY hx];exact hk) ?_
 rw[hdR]
 exact mem k ((g.node i x hx).ins k hk)
theorem Kahn.start {c:Circ}{left R:List Nat} (h1:left.length=c.nodes.length) (h2:∀ i,i<c.nodes.length->left.getD i 0=if isComb (kd c i) then (insOf c i).length else 0) (h3:R.Nodup) (h4:∀ i,i∈R↔i<c.nodes.length/\left.getD i 0=0):Kahn c (List.replicate c.nodes.length 0) left R 0:=by
 refine⟨by simp,h1,Nat.zero_le _,h3,fun r m=>((h4 r).1 m).1,fun i hi=>?_,fun i hi=>?_,fun i _ _ k _ m=>by simp at m,fun i=>?_⟩
 ·rw[h2 i hi]
  simp
 ·rw[h4 i]
  exact⟨fun h=>h.2,fun h=>⟨hi,h⟩⟩
 ·rw[List.getD,List.getElem?_replicate]
  split <;> simp
theorem zL {c:Circ}{K:List (List Ln)->Prop} (g:FanOk c) (h:K (mR c)):fB c K:=⟨g,h⟩
theorem Fu {b:Bool} (h:(!b)=true):b=false:=by cases b;rfl;cases h
theorem Fs {b:Bool} (h:(!b)=false):b=true:=by cases b;cases h;rfl
structure Init (c:Circ) (left R:List Nat) (i:Nat):Prop where
 ile:i<=c.nodes.length
 len:left.length=c.nodes.length
 cnt:∀ j,j<c.nodes.length->left.getD j 0=if j<i/\isComb (kd c j) then (insOf c j).length else 0
 nodup:R.Nodup
 rdy:∀ j,j∈R↔j<i/\left.getD j 0=0
 rlen:R.length<=i
theorem Init.step {c:Circ}{left R:List Nat}{i:Nat}{x:Node} (I:Init c left R i) (hx:c.nodes[i]?=some x) {left' R':List Nat}
  (hl:left'=if isComb x.kind then left.set i x.ins.length else left) (hR:(left'.getD i 0=0/\R'=R++[i])\/(left'.getD i 0≠0/\R'=R)):Init c left' R' (i+1):=by
 have hi:=aj hx
 have hiR:i ∉ R:=fun m=>by have:=((I.rdy i).1 m).1;omega
 have hg:∀ j,left'.getD j 0=if j=i then (if isComb x.kind then x.ins.length else 0) else left.getD j 0:=fun j=>by
  have h0:=I.cnt i hi
  rw[if_neg (by omega)] at h0
  rw[hl]
  by_cases q:isComb x.kind
  ·rw[if_pos q,cA (by rw[I.len];exact hi),if_pos q]
   by_cases e:i=j
   ·rw[if_pos e,if_pos e.symm]
   ·rw[if_neg e,if_neg (fun q=>e q.symm)]
  ·rw[if_neg q,if_neg q]
   by_cases e:j=i
   ·rw[if_pos e,e,h0]
   ·rw[if_neg e]
 have hlen:left'.length=c.nodes.length:=by rw[hl];split <;> simp[I.len]
 have hmem:∀ j,j∈R'↔j∈R\/(j=i/\left'.getD i 0=0):=fun j=>by
  rcases hR with⟨h0,rfl⟩|⟨h0,rfl⟩
  ·rw[List.mem_append,List.mem_singleton]
   exact⟨fun h=>h.imp id fun e=>⟨e,h0⟩,fun h=>h.imp id fun e=>e.1⟩
  ·exact⟨.inl,fun h=>h.resolve_right (fun q=>h0 q.2)⟩
 refine⟨hi,hlen,fun j hj=>?_,?_,fun j=>?_,?_⟩
 ·rw[hg j]
  by_cases e:j=i
  ·subst e
   rw[if_pos rfl,fE hx,vY hx]
   by_cases q:isComb x.kind
   ·rw[if_pos q,if_pos ⟨by omega,q⟩]
   ·rw[if_neg q,if_neg (fun h=>q h.2)]
  ·rw[if_neg e,I.cnt j hj]
   by_cases q:j<i/\isComb (kd c j)
   ·rw[if_pos q,if_pos ⟨by omega,q.2⟩]
   ·rw[if_neg q,if_neg (fun h=>q ⟨by omega,h.2⟩)]
 ·rcases hR with⟨_,rfl⟩|⟨_,rfl⟩
  ·rw[List.nodup_append]
   exact⟨I.nodup,by simp,fun a ha b hb=>by rw[List.mem_singleton] at hb;subst hb;exact fun e=>hiR (by rw[<- e];exact ha)⟩
  ·exact I.nodup
 ·rw[hmem,I.rdy j]
  constructor
  ·rintro (⟨h1,h2⟩|⟨rfl,h2⟩)
   ·refine⟨by omega,?_⟩
    rw[hg j,if_neg (by omega)];exact h2
   ·exact⟨by omega,h2⟩
  ·rintro⟨h1,h2⟩
   by_cases e:j=i
   ·subst e;exact .inr ⟨rfl,h2⟩
   ·rw[hg j,if_neg e] at h2
    exact .inl ⟨by omega,h2⟩
 ·have:=I.rlen
  rcases hR with⟨_,rfl⟩|⟨_,rfl⟩
  ·rw[List.length_append,List.length_singleton];omega
  ·omega
theorem Kahn.rlen {c:Circ}{lev left R:List Nat}{d:Nat} (K:Kahn c lev left R d):R.length<=c.nodes.length:=by
 have:R.length<=(List.range c.nodes.length).length:=kr K.nodup (fun i m=>List.mem_range.2 (K.lt i m))
 simpa using this
theorem KahnIn.rlen {c:Circ}{lev0 R0 lev left R:List Nat}{d x t:Nat} (K:KahnIn c lev0 R0 d x lev left R t):R.length<=c.nodes.length:=by
 have:R.length<=(List.range c.nodes.length).length:=kr K.nodup (fun i m=>List.mem_range.2 (K.lt i m))
 simpa using this
theorem jP {l:List Nat}{n i:Nat} (hl:l.length=n) (hi:i<n):l[i]?=some (l.getD i 0):=getD_some (by omega)
theorem DD {c:Circ} (g:Good c) {x:Nat} (_hx:x<c.nodes.length):(fanOf c x).length<=1000:=by
 have hl:=g.len
 unfold fanOf
 rw[List.length_flatMap]
 have h1:∀ p∈c.nodes.zipIdx,(bB x p.2 p.1.ins).length<=16:=by
  intro p m
  unfold bB
  rw[List.length_map]
  refine Nat.le_trans (List.length_filter_le _ _) ?_
  rw[List.length_zipIdx]
  have hm:=List.mem_zipIdx m
  have h3:p.2<c.nodes.length:=by omega
  have h4:c.nodes[p.2]?=some p.1:=by
   rw[hm.2.2,List.getElem?_eq_getElem h3]
   simp
  exact (g.node _ _ h4).few
 have h2:∀ (l:List (Node×Nat)),(∀ p∈l,(bB x p.2 p.1.ins).length<=16)->(l.map fun p=>(bB x p.2 p.1.ins).length).sum<=l.length*16:=by
  intro l
  induction l with
  |nil=>intro _;simp
  |cons a l ih =>
   intro h
   have:=ih fun p m=>h p (.tail _ m)
   have:=h a (.head _)
   simp only[List.map_cons,List.sum_cons,List.length_cons]
   omega
 have:=h2 _ h1
 rw[List.length_zipIdx] at this
 omega
set_option maxHeartbeats 2000000 in
theorem uH {c:Circ}{K:List Nat×Nat->Prop} (g:Good c) (h:∀ lev,LevOk c lev->K (lev,0)):cp c K:=by
 have hlen:=g.len
 unfold cp
 refine BS g ⟨fun q=>absurd rfl (dQ.1 q),fun _=>⟨by omega,by omega,by omega,by omega,?_⟩⟩
 refine aA (fun s=>Init c s.1 s.2.1 s.2.2) (fun s=>c.nodes.length-s.2.2) (fun a=>Init c a.1 a.2 c.nodes.length) ?_ ?_ ?_
 ·rintro k ⟨left,R,i⟩ nx I hnx hk
  dsimp only at I
  have hrl:=I.rlen
  have hile:=I.ile
  refine⟨fun q=>?_,fun q=>?_⟩
  ·have q:=aT.1 q
   obtain⟨x,hx⟩:=aC q
   refine dT ⟨x,hx,dT (vg ?_)⟩
   have main:∀ left',left'=(if isComb x.kind then left.set i x.ins.length else left)->i<c.nodes.length/\∃ x31,left'[i]?=some x31/\(eqN x31 0=true->(R.length+([i]:List Nat).length)*8<=2 ^ 47/\i+1<2 ^ 63/\nx (left',R++[i],i+1))/\(eqN x31 0=false->i+1<2 ^ 63/\nx (left',R,i+1)):=by
    intro left' hl
    have hlen':left'.length=c.nodes.length:=by rw[hl];split <;> simp[I.len]
    refine⟨q,_,jP hlen' q,fun e=>⟨by simp only[List.length_singleton];omega,by omega,hnx (left',R++[i],i+1) (I.step hx hl (.inl ⟨bP.1 e,rfl⟩)) (by dsimp only;omega)⟩,fun e=>⟨by omega,hnx (left',R,i+1) (I.step hx hl (.inr ⟨cD.1 e,rfl⟩)) (by dsimp only;omega)⟩⟩
   refine⟨fun e=>⟨q,_,jP I.len q,main _ ?_⟩,fun e=>main _ ?_⟩
   ·rw[if_pos (show isComb x.kind from of_decide_eq_true e)]
   ·rw[if_neg (show ¬ isComb x.kind from of_decide_eq_false e)]
  ·have q:=bb.1 q
   have:i=c.nodes.length:=by omega
   subst this
   exact hk (left,R) I
 ·refine⟨Nat.zero_le _,by simp,fun j hj=>?_,List.nodup_nil,fun j=>by simp,Nat.zero_le _⟩
  dsimp only
  rw[List.getD,List.getElem?_replicate,if_pos hj,if_neg (by omega)]
  rfl
 ·rintro⟨left0,R0⟩ I
  dsimp only at I ⊢
  refine zL g.fanOk ?_
  have K0:Kahn c (List.replicate c.nodes.length 0) left0 R0 0:=Kahn.start I.len (fun i hi=>by rw[I.cnt i hi];simp only[hi,true_and]) I.nodup I.rdy
  refine aA (fun s=>Kahn c s.1 s.2.1 s.2.2.1 s.2.2.2) (fun s=>c.nodes.length-s.2.2.2) (fun a=>a.2=c.nodes.length/\LevOk c a.1) ?_ K0 ?_
  ·rintro k ⟨lev,left,R,d⟩ nx Kh hnx hk
   dsimp only at Kh
   try dsimp only
   have hrl:=Kh.rlen
   refine⟨fun q=>?_,fun q=>?_⟩
   ·have q:=aT.1 q
    try dsimp only at q
    obtain⟨x,hx⟩:=aC q
    have hxn:=Kh.lt x (List.mem_of_getElem? hx)
    have hfl:=DD g hxn
    refine⟨x,hx,by omega,_,su hxn,fun e=>?_,fun e=>⟨_,su hxn,?_⟩⟩
    ·have e:=bP.1 e
     exact hnx _ ((Kh.enter hx).leave hx (by omega)) (by dsimp only;omega)
    ·refine aW (fun s=>KahnIn c lev R d x s.1 s.2.1 s.2.2.1 s.2.2.2) (fun s=>(fanOf c x).length-s.2.2.2) ?_ (Kh.enter hx)
     rintro⟨lev1,left1,R1,t⟩ nx1 K1 hnx1
     dsimp only at K1
     try dsimp only
     have hrl1:=K1.rlen
     refine⟨fun q1=>?_,fun q1=>hnx (lev1,left1,R1,d+1) (K1.leave hx (bb.1 q1)) (by dsimp only;omega)⟩
     have q1:=aT.1 q1
     try dsimp only at q1
     obtain⟨l,hl⟩:=aC q1
     have hj:=xO (List.mem_of_getElem? hl)
     obtain⟨y,hy⟩:=aC hj
     have hky:=fE hy
     refine dT ⟨l,hl,y,hy,vg ⟨fun e=>?_,fun e=>?_⟩⟩
     ·have e:¬ isComb (kd c l.node):=by rw[hky];exact of_decide_eq_false (Fu e)
      exact⟨by omega,hnx1 (lev1,left1,R1,t+1) (K1.skip hl e) (by dsimp only;omega)⟩
     ·have e:isComb (kd c l.node):=by rw[hky];exact of_decide_eq_true (Fs e)
      have hp:=K1.pos hl e
      have hb:=K1.bndx
      have hll:=jP K1.leftLen hj
      have hb2:left1.getD l.node 0<2 ^ 63:=by
       rw[K1.cnt _ hj,if_pos e]
       have h1:=List.countP_le_length (p:=fun k=>decide (k ∉ R.take d/\k≠x)) (l:=insOf c l.node)
       have h2:=List.countP_le_length (p:=fun l':Ln=>l'.node==l.node) (l:=(fanOf c x).drop t)
       have h3:(insOf c l.node).length<=16:=by rw[vY hy];exact (g.node _ _ hy).few
       rw[List.length_drop] at h2
       omega
      refine⟨hj,_,jP K1.levLen hj,hxn,_,jP K1.levLen hxn,by omega,hj,_,jP K1.levLen hj,hj,_,hll,hp,hb2,hj,_,hll,hj,left1.getD l.node 0-1,?_,fun e2=>?_,fun e2=>?_⟩
      ·rw[List.getElem?_set_self (by rw[K1.leftLen];exact hj)]
      ·exact⟨by simp only[List.length_singleton];omega,by omega,hnx1 _ (K1.step hl e hx (.inl ⟨bP.1 e2,rfl⟩)) (by dsimp only;omega)⟩
      ·exact⟨by omega,hnx1 _ (K1.step hl e hx (.inr ⟨cD.1 e2,rfl⟩)) (by dsimp only;omega)⟩
   ·obtain⟨h1,h2⟩:=Kh.all g (bb.1 q)
    exact hk (lev,d) ⟨h1,h2⟩
  ·rintro⟨lev,d⟩ ⟨hd,hl⟩
   dsimp only at hd hl ⊢
   exact⟨fun q=>absurd (aT.1 q) (by omega),fun _=>⟨hl.len.symm,h lev hl⟩⟩
theorem Bp {c:Circ}{K:Nat->Prop} (g:Good c) (h:K 0):cZ c K:=by
 unfold cZ
 exact uH g fun _ _=>h
theorem xT {a b:Nat}{K:Int->Prop} (h:K (if a<b then Int.negSucc 0 else if b<a then Int.ofNat 1 else Int.ofNat 0)):dW a b K:=by
 unfold dW gk
 have e1:neN a a=false:=oC.2 rfl
 have e2:neN b b=false:=oC.2 rfl
 rw[e1,e2]
 refine⟨(fun q=>by cases q),fun _=>⟨(fun q=>by cases q),fun _=>⟨fun q=>?_,fun q=>⟨fun q2=>?_,fun q2=>?_⟩⟩⟩⟩
 ·rw[if_pos (aT.1 q)] at h;exact h
 ·have:=bb.1 q
  rw[if_neg (by omega),if_pos (aT.1 q2)] at h;exact h
 ·have:=bb.1 q
  have:=bb.1 q2
  rw[if_neg (by omega),if_neg (by omega)] at h;exact h
theorem Di {a b:Nat}:ltI (if a<b then Int.negSucc 0 else if b<a then Int.ofNat 1 else Int.ofNat 0) (Int.ofNat 0)=decide (a<b):=by
 by_cases c:a<b
 ·rw[if_pos c,decide_eq_true c];rfl
 ·rw[if_neg c,decide_eq_false c]
  by_cases q:b<a
  ·rw[if_pos q];rfl
  ·rw[if_neg q];rfl
structure Ins (lev data l:List Nat) (i j:Nat):Prop where
 perm:l.Perm data
 jle:j<=i
 ord:∀ p q,p<q->q<=i->q≠j->lev.getD (l.getD p 0) 0<=lev.getD (l.getD q 0) 0
theorem wQ {l:List Nat}{i j k:Nat} (hi:i<l.length) (hj:j<l.length):((l.set i (l.getD j 0)).set j (l.getD i 0)).getD k 0=if k=j then l.getD i 0 else if k=i then l.getD j 0 else l.getD k 0:=by
 rw[cA (by simpa using hj)]
 by_cases c:j=k
 ·rw[if_pos c,if_pos c.symm]
 ·have c2:¬ k=j:=fun e=>c e.symm
  rw[if_neg c,if_neg c2,cA hi]
  by_cases q:i=k
  ·rw[if_pos q,if_pos q.symm]
  ·have q2:¬ k=i:=fun e=>q e.symm
   rw[if_neg q,if_neg q2]
theorem swap_perm {l:List Nat}{i j:Nat} (hi:i<l.length) (hj:j<l.length):((l.set i (l.getD j 0)).set j (l.getD i 0)).Perm l:=by
 have e1:l.getD j 0=l[j]:=by rw[List.getD,List.getElem?_eq_getElem hj];rfl
 have e2:l.getD i 0=l[i]:=by rw[List.getD,List.getElem?_eq_getElem hi];rfl
 rw[e1,e2]
 exact List.set_set_perm hi hj
theorem Ins.swap {lev data l:List Nat}{i j:Nat} (I:Ins lev data l i j) (hi:i<l.length) (hj:0<j) (h:lev.getD (l.getD j 0) 0<lev.getD (l.getD (j-1) 0) 0):Ins lev data ((l.set j (l.getD (j-1) 0)).set (j-1) (l.getD j 0)) i (j-1):=by
 have:=I.jle
 refine⟨(swap_perm (by omega) (by omega)).trans I.perm,by omega,fun p q hpq hq hne=>?_⟩
 rw[wQ (by omega) (by omega),wQ (by omega) (by omega),if_neg hne]
 by_cases c:q=j
 ·subst c
  rw[if_pos rfl]
  by_cases e:p=q-1
  ·rw[if_pos e];omega
  ·rw[if_neg e,if_neg (by omega)]
   exact I.ord p (q-1) (by omega) (by omega) (by omega)
 ·rw[if_neg c]
  by_cases e:p=j-1
  ·rw[if_pos e]
   exact I.ord j q (by omega) hq c
  ·rw[if_neg e]
   by_cases e2:p=j
   ·rw[if_pos e2]
    exact I.ord (j-1) q (by omega) hq c
   ·rw[if_neg e2]
    exact I.ord p q hpq hq c
theorem Ins.fin {lev data l:List Nat}{i j:Nat} (I:Ins lev data l i j) (h:j=0\/lev.getD (l.getD (j-1) 0) 0<=lev.getD (l.getD j 0) 0):∀ p q,p<q->q<=i->lev.getD (l.getD p 0) 0<=lev.getD (l.getD q 0) 0:=by
 intro p q hpq hq
 by_cases c:q=j
 ·subst c
  have h:=h.resolve_left (by omega)
  by_cases e:p=q-1
  ·subst e;exact h
  ·exact Nat.le_trans (I.ord p (q-1) (by omega) (by omega) (by omega)) h
 ·exact I.ord p q hpq hq c
structure Sorted (lev data l:List Nat):Prop where
 perm:l.Perm data
 ord:∀ p q,p<q->q<l.length->lev.getD (l.getD p 0) 0<=lev.getD (l.getD q 0) 0
theorem D3 {data lev:List Nat}{K:List Nat->Prop} (hn:data.length<=16) (hlev:∀ x∈data,x<lev.length) (h:∀ l,Sorted lev data l->K l):fK data lev data.length 0 data.length K:=by
 unfold fK
 refine⟨by omega,?_⟩
 refine aW (fun s=>s.1.Perm data/\1<=s.2/\∀ p q,p<q->q<s.2->q<data.length->lev.getD (s.1.getD p 0) 0<=lev.getD (s.1.getD q 0) 0) (fun s=>data.length-s.2) ?_ ⟨List.Perm.refl _,by dsimp only;omega,fun p q h1 h2=>by dsimp only at h2;omega⟩
 rintro⟨l,i⟩ nx ⟨hp,hi1,hord⟩ hnx
 dsimp only at hp hi1 hord
 have hl:=hp.length_eq
 refine⟨fun q=>?_,fun q=>?_⟩
 ·have q:=aT.1 q
  try dsimp only at q
  refine aA (fun s=>Ins lev data s.1 i s.2) (fun s=>s.2) (fun a=>a.Perm data/\∀ p q,p<q->q<=i->lev.getD (a.getD p 0) 0<=lev.getD (a.getD q 0) 0) ?_ ?_ ?_
  ·rintro k ⟨m,j⟩ nx2 I hnx2 hk
   dsimp only at I
   try dsimp only
   have hm:=I.perm.length_eq
   have hji:=I.jle
   have gm:∀ p,p<data.length->m[p]?=some (m.getD p 0):=fun p hp=>jP hm hp
   have gl:∀ p,p<data.length->lev[m.getD p 0]?=some (lev.getD (m.getD p 0) 0):=fun p hp=>jP rfl (hlev _ (I.perm.mem_iff.1 (List.mem_of_getElem? (gm p hp))))
   refine dT ⟨fun c=>?_,fun c=>?_⟩
   ·have c:=aT.1 c
    refine⟨by omega,_,gm j (by omega),by omega,by omega,by omega,_,gm (j-1) (by omega),_,gl j (by omega),_,gl (j-1) (by omega),xT ?_⟩
    rw[Di]
    refine⟨fun e=>?_,fun e=>?_⟩
    ·have e:=of_decide_eq_true e
     refine⟨by omega,by omega,by omega,by omega,by omega,_,gm (j-1) (by omega),by omega,_,gm j (by omega),by omega,_,gm j (by omega),by omega,?_⟩
     have hj2:j-1<(m.set j (m.getD (j-1) 0)).length:=by rw[List.length_set];omega
     exact⟨_,List.getElem?_eq_getElem hj2,by omega,by omega,hnx2 _ (I.swap (by omega) c e) (by dsimp only;omega)⟩
    ·have e:=of_decide_eq_false e
     exact hk m ⟨I.perm,I.fin (.inr (by omega))⟩
   ·have c:=bb.1 c
    exact⟨(fun q=>by cases q),fun _=>hk m ⟨I.perm,I.fin (.inl (by omega))⟩⟩
  ·refine⟨hp,Nat.le_refl _,fun p q2 h1 h2 h3=>hord p q2 h1 (by omega) (by omega)⟩
  ·rintro a ⟨ha,hb⟩
   exact⟨by omega,hnx (a,i+1) ⟨ha,by dsimp only;omega,fun p q2 h1 h2 h3=>hb p q2 h1 (by dsimp only at h2;omega)⟩ (by dsimp only;omega)⟩
 ·have q:=bb.1 q
  exact h l ⟨hp,fun p q2 h1 h2=>hord p q2 h1 (by omega) (by omega)⟩
theorem Av {data lev:List Nat}{K:List Nat->Prop} (hn:data.length<=16) (hlev:∀ x∈data,x<lev.length) (h:∀ l,Sorted lev data l->K l):dY data lev data.length data.length K:=by
 unfold dY
 refine aA (fun s=>s=(data,0,20)) (fun _=>0) (fun a=>a=(data,0)) ?_ rfl ?_
 ·rintro k s nx rfl _ hk
  exact⟨fun q=>absurd (mj.1 q) (by omega),fun _=>hk _ rfl⟩
 ·rintro a rfl
  refine D3 hn hlev fun l hl=>?_
  refine aW (fun s=>s=20) (fun _=>0) ?_ rfl
  rintro s nx rfl _
  exact⟨fun q=>absurd (aT.1 q) (by omega),fun _=>h l hl⟩
structure OrdOk (c:Circ) (o:List Nat):Prop where
 perm:o.Perm (List.range c.nodes.length)
 before:∀ (a i:Nat) (x:Node) (k:Nat),o[a]?=some i->c.nodes[i]?=some x->isComb x.kind->k∈x.ins->∃ b,b<a/\o[b]?=some k
theorem Ec {c:Circ} (g:Good c) {lev o:List Nat} (hl:LevOk c lev) (hs:Sorted lev (List.range c.nodes.length) o):OrdOk c o:=by
 refine⟨hs.perm,fun a i x k ha hx hc hk=>?_⟩
 have hk2:k<c.nodes.length:=(g.node i x hx).ins k hk
 have hko:k∈o:=hs.perm.mem_iff.2 (List.mem_range.2 hk2)
 obtain⟨b,hb,e⟩:=List.getElem_of_mem hko
 have hb2:o[b]?=some k:=by rw[List.getElem?_eq_getElem hb,e]
 refine⟨b,?_,hb2⟩
 have hup:=hl.up i x hx hc k hk
 have ga:o.getD a 0=i:=by rw[List.getD,ha];rfl
 have gb:o.getD b 0=k:=by rw[List.getD,hb2];rfl
 rcases Nat.lt_trichotomy b a with q|q|q
 ·exact q
 ·subst q;rw[ha] at hb2;cases hb2;omega
 ·have:=hs.ord a b q hb
  rw[ga,gb] at this
  omega
theorem xq {c:Circ}{K:List Nat×Nat->Prop} (g:Good c) (h:∀ o,OrdOk c o->K (o,0)):bn c K:=by
 have hlen:=g.len
 unfold bn
 refine uH g fun lev hl=>⟨fun q=>absurd rfl (dQ.1 q),fun _=>⟨by omega,by omega,?_⟩⟩
 refine aA (fun s=>s.2<=c.nodes.length/\s.1.length=c.nodes.length/\∀ j,j<s.2->s.1[j]?=some j) (fun s=>c.nodes.length-s.2) (fun a=>a=List.range c.nodes.length) ?_ ⟨Nat.zero_le _,by simp,fun j hj=>absurd hj (Nat.not_lt_zero _)⟩ ?_
 ·rintro k ⟨l,i⟩ nx ⟨hi,h1,h2⟩ hnx hk
  dsimp only at hi h1 h2
  refine⟨fun q=>?_,fun q=>?_⟩
  ·have q:=aT.1 q
   try dsimp only at q
   refine⟨q,_,jP h1 q,by omega,hnx (l.set i i,i+1) ⟨q,by simp[h1],fun j hj=>?_⟩ (by dsimp only;omega)⟩
   dsimp only at hj ⊢
   rw[List.getElem?_set]
   by_cases e:i=j
   ·rw[if_pos e,if_pos (by omega),e]
   ·rw[if_neg e];exact h2 j (by omega)
  ·have q:=bb.1 q
   try dsimp only at q
   refine hk l (List.ext_getElem? fun j=>?_)
   by_cases e:j<c.nodes.length
   ·rw[h2 j (by omega),List.getElem?_range e]
   ·rw[List.getElem?_eq_none (by omega),List.getElem?_eq_none (by simp;omega)]
 ·rintro a rfl
  unfold jB
  have e:(List.range c.nodes.length).length=c.nodes.length:=by simp
  have:=Av (data:=List.range c.nodes.length) (lev:=lev) (K:=fun x1=>c.nodes.length=x1.length/\K (x1,0)) (by omega) (fun x m=>by rw[hl.len];exact List.mem_range.1 m) (fun l hs=>⟨by have:=hs.perm.length_eq;omega,h l (Ec g hl hs)⟩)
  rw[e] at this
  exact this
set_option maxHeartbeats 8000000
def gZ (p0:Circ) (K:(List (List Ln))->Prop):Prop :=
 24*p0.nodes.length<=2 ^ 48/\p0.nodes.length<2 ^ 63/\an (α:=(List (List Ln))) (fun k6=>ar (S:=((List (List Ln))×Nat)) (fun (v7,v9) nx11=>((ltN v9 p0.nodes.length)=true->an (α:=(List (List Ln))) (fun k15=>∃ x16,p0.nodes[v9]?=some x16/\ar (S:=((List (List Ln))×Nat)) (fun (v19,v21) nx23=>((ltN v21 x16.ins.length)=true->an (α:=(List (List Ln))) (fun k27=>∃ x28,x16.ins[v21]?=some x28/\((ltN x28 0)=true->k27 v19)/\((ltN x28 0)=false->((!(!ltN x28 p0.nodes.length))=true->x28<p0.nodes.length/\∃ x29,v19[x28]?=some x29/\(x29.length+([(⟨v9,v21⟩:Ln)]:(List Ln)).length)*16<=2 ^ 47/\x28<p0.nodes.length/\k27 (v19.set x28 (x29++([(⟨v9,v21⟩:Ln)]:(List Ln)))))/\((!(!ltN x28 p0.nodes.length))=false->k27 v19))) (fun v24=>v21+1<2 ^ 63/\nx23 (v24,(v21+1))))/\((ltN v21 x16.ins.length)=false->k15 v19)) (v7,0)) (fun v12=>v9+1<2 ^ 63/\nx11 (v12,(v9+1))))/\((ltN v9 p0.nodes.length)=false->k6 v7)) ((List.replicate p0.nodes.length ([]:List Ln)),0)) (fun v3=>an (α:=(List (List Ln))) (fun k40=>ar (S:=((List (List Ln))×Nat)) (fun (v41,v43) nx45=>((ltN v43 p0.nodes.length)=true->v43<p0.nodes.length/\∃ x46,v41[v43]?=some x46/\v43<p0.nodes.length/\v43+1<2 ^ 63/\nx45 ((v41.set v43 x46),(v43+1)))/\((ltN v43 p0.nodes.length)=false->k40 v41)) (v3,0)) (fun v37=>p0.nodes.length=v37.length/\K v37))
theorem qZ {p0:Circ}{K:(List (List Ln))->Prop} (hm:gZ p0 K) {h0:Heap} (hB:HasB vars h0):∃ r,K r/\CallD Tryz.prog NG 57 ⟨[aB p0]⟩ h0 ((ah 1 (ah 2 bY)) r) h0:=by
 unfold gZ at hm
 refine fw Tryz.func57 hB (enc:=(ah 1 (ah 2 bY))) (fun r=>eF (fun _=>ai.cons (eF (fun _=>wK _)) ai.nil)) fun O=>?_;conv=>whnf
 refine gX ?_
 refine fz ?_;refine gX ?_
 refine Own.wV (α:=Ln) (b:=24) (n:=p0.nodes.length) bY 2 O rfl rfl rfl rfl rfl rfl hm.1 hm.2.1 fun g1 h O=>?_;refine gX ?_
 replace hm:=hm.2.2
 refine fg Tryz.func82 ?_;refine gX ?_
 refine fz ?_;refine gH ?_
 apply Cs;conv=>whnf
 apply Cs;refine gH ?_
 apply Cs;conv=>whnf
 refine gH ?_
 refine jn (σ:=(List (List Ln))×(List (Option Nat))) hm 65 [3] (fun s=>s.1) (fun (v3,a4) h=>RowsOk a4 v3/\Own vars h0 ([((some g1),.cells (aJ 2 bY a4 v3) false)]++(aD bY a4 v3)) h) (fun (v3,a4)=>[]) (fun hm=>?_) ?_
 ·refine gX ?_
  refine lw 65 [3,4,18,19] (σ:=((List (List Ln))×Nat)×(List (Option Nat))) (fun s=>s.1) (fun ((v7,v9),a8) h=>RowsOk a8 v7/\Own vars h0 ([((some g1),.cells (aJ 2 bY a8 v7) false)]++(aD bY a8 v7)) h) (fun ((v7,v9),a8)=>[(20,(i64 v9))]) (((List.replicate p0.nodes.length ([]:List Ln)),0),(List.replicate p0.nodes.length none)) hm ⟨(RowsOk.start p0.nodes.length),O⟩ ?_
  clear hm;rintro⟨⟨v7,v9⟩,a8⟩ nx11 base h hm ⟨hr10,O⟩
  refine gX ?_
  refine br hm (fun hm=>?_) fun hm=>?_
  ·apply Cs;conv=>whnf
   refine jn (σ:=(List (List Ln))×(List (Option Nat))) hm 65 [3,4,18,19,20] (fun s=>s.1) (fun (v12,a13) h=>RowsOk a13 v12/\Own vars h0 ([((some g1),.cells (aJ 2 bY a13 v12) false)]++(aD bY a13 v12)) h) (fun (v12,a13)=>[]) (fun hm=>?_) ?_
   ·refine gX ?_
    refine atF hm fun x16 hx16 hm=>?_;refine gH ?_
    refine O.new (ak (l:=[(n8 0),(.slice none 0 0),(i64 0),(i64 0)]) rfl rfl rfl) fun g17 h O=>?_;refine gH ?_
    refine O.stC 4 (.head _) [(n8 x16.kind),((ah 1 i64) x16.ins),(i64 x16.mem),(i64 x16.bit)] fun h O=>?_;refine gX ?_
    refine lw 65 [3,4,5,18,19,20,26,27] (σ:=((List (List Ln))×Nat)×(List (Option Nat))) (fun s=>s.1) (fun ((v19,v21),a20) h=>RowsOk a20 v19/\Own vars h0 ([((some g1),.cells (aJ 2 bY a20 v19) false)]++(aD bY a20 v19)) h) (fun ((v19,v21),a20)=>[(28,(i64 v21))]) ((v7,0),a8) hm ⟨hr10,(Own.gK [((some g17),.cells [(n8 x16.kind),((ah 1 i64) x16.ins),(i64 x16.mem),(i64 x16.bit)] false),((some g1),.cells (aJ 2 bY a8 v7) false)] (L:=(aD bY a8 v7)) O [1] (by decide))⟩ ?_
    clear hm;rintro⟨⟨v19,v21⟩,a20⟩ nx23 base h hm ⟨hr22,O⟩
    refine gX ?_
    refine br hm (fun hm=>?_) fun hm=>?_
    ·apply Cs;conv=>whnf
     refine jn (σ:=(List (List Ln))×(List (Option Nat))) hm 65 [3,4,5,18,19,20,26,27,28] (fun s=>s.1) (fun (v24,a25) h=>RowsOk a25 v24/\Own vars h0 ([((some g1),.cells (aJ 2 bY a25 v24) false)]++(aD bY a25 v24)) h) (fun (v24,a25)=>[]) (fun hm=>?_) ?_
     ·refine gX ?_
      refine atF hm fun x28 hx28 hm=>?_;refine gX ?_
      refine fg Tryz.func115 ?_;refine gX ?_
      refine br hm (fun hm=>?_) fun hm=>?_
      ·refine gX ?_
       refine bf ?_;refine gX ?_
       exact jx (v19,a20) hm ⟨hr22,O⟩
      ·refine gX ?_
       refine br hm (fun hm=>?_) fun hm=>?_
       ·refine gX ?_
        refine cF (s:=1) (j:=x28) rfl rfl rfl rfl hm.1 ?_;refine gH ?_
        replace hm:=hm.2
        obtain⟨x29,hx29,hm⟩:=hm
        obtain⟨a30,hA32,ha31,O⟩:=Own.focus (S:=[((some g1),.cells (aJ 2 bY a20 v19) false)]) hr22 O hx29
        refine⟨_,rz (O.at (.tail _ (.head _))) hA32 hx29 rfl rfl,?_⟩;refine gH ?_
        refine fz ?_;refine gH ?_
        refine O.apL (enc:=bY) (l:=x29) (new:=([(⟨v9,v21⟩:Ln)]:(List Ln))) 2 (.head _) ha31.1 hm fun a34 h ha35 O hm=>?_;refine gH ?_
        refine cF (s:=1) (j:=x28) rfl rfl rfl rfl hm.1 ?_;refine gH ?_
        replace hm:=hm.2
        refine O.rL (s:=2) (enc:=bY) (j:=x28) (v:=(ag 2 a34 ((x29++([(⟨v9,v21⟩:Ln)]:(List Ln))).map bY))) (.tail _ (.head _)) hr22 hx29 rfl rfl rfl rfl rfl fun h O=>?_;refine gH ?_
        rw[<- lD] at O
        have hr36:RowsOk (a20.set x28 a34) (v19.set x28 (x29++([(⟨v9,v21⟩:Ln)]:(List Ln)))):=RowsOk.set hr22 ⟨ha35,fun e=>absurd e (by simp)⟩
        replace O:=Own.rq (S:=[(some g1,.cells (aJ 2 bY (a20.set x28 a34) (v19.set x28 (x29++([(⟨v9,v21⟩:Ln)]:(List Ln))))) false)]) O hx29 hr22
        exact jx ((v19.set x28 (x29++([(⟨v9,v21⟩:Ln)]:(List Ln)))),(a20.set x28 a34)) hm ⟨hr36,O⟩
       ·refine gX ?_
        exact jx (v19,a20) hm ⟨hr22,O⟩
     ·clear hm;rintro⟨v24,a25⟩ base h hm ⟨hr26,O⟩
      refine gX ?_
      refine aL hm fun hm=>?_;refine gH ?_
      exact jx ((v24,(v21+1)),a25) hm ⟨hr26,O⟩
    ·refine gX ?_
     exact jx (v19,a20) hm ⟨hr22,O⟩
   ·clear hm;rintro⟨v12,a13⟩ base h hm ⟨hr14,O⟩
    refine gX ?_
    refine aL hm fun hm=>?_;refine gH ?_
    exact jx ((v12,(v9+1)),a13) hm ⟨hr14,O⟩
  ·refine gX ?_
   exact jx (v7,a8) hm ⟨hr10,O⟩
 ·clear hm;rintro⟨v3,a4⟩ base h hm ⟨hr5,O⟩
  conv=>whnf
  refine jn (σ:=(List (List Ln))×(List (Option Nat))) hm 65 [3] (fun s=>s.1) (fun (v37,a38) h=>RowsOk a38 v37/\Own vars h0 ([((some g1),.cells (aJ 2 bY a38 v37) false)]++(aD bY a38 v37)) h) (fun (v37,a38)=>[]) (fun hm=>?_) ?_
  ·refine gX ?_
   refine lw 65 [3,51,52] (σ:=((List (List Ln))×Nat)×(List (Option Nat))) (fun s=>s.1) (fun ((v41,v43),a42) h=>RowsOk a42 v41/\Own vars h0 ([((some g1),.cells (aJ 2 bY a42 v41) false)]++(aD bY a42 v41)) h) (fun ((v41,v43),a42)=>[(53,(i64 v43))]) ((v3,0),a4) hm ⟨hr5,O⟩ ?_
   clear hm;rintro⟨⟨v41,v43⟩,a42⟩ nx45 base h hm ⟨hr44,O⟩
   refine gX ?_
   refine br hm (fun hm=>?_) fun hm=>?_
   ·refine gX ?_
    refine cF (s:=1) (j:=v43) rfl rfl rfl rfl hm.1 ?_;refine gH ?_
    replace hm:=hm.2
    obtain⟨x46,hx46,hm⟩:=hm
    obtain⟨a47,hA49,ha48,O⟩:=Own.focus (S:=[((some g1),.cells (aJ 2 bY a42 v41) false)]) hr44 O hx46
    refine⟨_,rz (O.at (.tail _ (.head _))) hA49 hx46 rfl rfl,?_⟩;refine gX ?_
    refine fg Tryz.func49 ?_;refine gX ?_
    refine iq (s:=2) (enc:=bY) (l:=x46) (n:=x46.length) (m:=x46.length) rfl rfl rfl rfl rfl rfl rfl ?_;refine gX ?_
    refine cF (s:=1) (j:=v43) rfl rfl rfl rfl hm.1 ?_;refine gH ?_
    replace hm:=hm.2
    refine O.rL (s:=2) (enc:=bY) (j:=v43) (v:=(dJ a47 (x46.map bY))) (.tail _ (.head _)) hr44 hx46 rfl rfl rfl rfl rfl fun h O=>?_;refine gH ?_
    refine CodeS.CT (cs':=(aJ 2 bY a42 v41).set v43 (ag 2 a47 (x46.map bY))) O (.tail _ (.head _)) (t2:=3) rfl rfl (LLe.set (O.Ba (.head _) (fun _=>rfl) ha48)) fun h O=>?_
    rw[<- lD] at O
    have hr51:RowsOk (a42.set v43 a47) (v41.set v43 x46):=RowsOk.set hr44 ha48
    replace O:=Own.rq (S:=[(some g1,.cells (aJ 2 bY (a42.set v43 a47) (v41.set v43 x46)) false)]) O hx46 hr44
    refine gX ?_
    refine aL hm fun hm=>?_;refine gH ?_
    exact jx (((v41.set v43 x46),(v43+1)),(a42.set v43 a47)) hm ⟨hr51,O⟩
   ·refine gX ?_
    exact jx (v41,a42) hm ⟨hr44,O⟩
  ·clear hm;rintro⟨v37,a38⟩ base h hm ⟨hr39,O⟩
   refine gX ?_
   obtain⟨hn52,hm⟩:=hm
   exact⟨v37,hm,O.ext,fun h2 F=>Own.Es (L:=[((some g1),.cells (aJ 2 bY a38 v37) false)]) O F (Nat.le_refl _) (.head _) hr39 (fun _=>rfl) hn52⟩
set_option maxHeartbeats 8000000
def iG (p0:Circ) (K:Nat->Prop):Prop :=
 an (α:=Unit) (fun k3=>ar (S:=((List (ByteArray×Bool))×Nat)) (fun (v4,v5) nx6=>((ltN v5 p0.names.length)=true->∃ x7,p0.names[v5]?=some x7/\an (α:=Bool) (fun k9=>ju x7 (fun r10=>((!r10)=true->k9 true)/\((!r10)=false->k9 ((cc v4 x7).getD false)))) (fun v8=>(v8=true->K 5)/\(v8=false->v5+1<2 ^ 63/\nx6 ((iQ v4 x7 true),(v5+1)))))/\((ltN v5 p0.names.length)=false->k3 ())) (([]:List (ByteArray×Bool)),0)) (fun _=>K 0)
theorem mr {p0:Circ}{K:Nat->Prop} (hm:iG p0 K) {h0:Heap} (hB:HasB vars h0):∃ r,K r/\CallD Tryz.prog NG 133 ⟨[aB p0]⟩ h0 (i64 r) h0:=by
 unfold iG at hm
 refine fw Tryz.func133 hB (enc:=i64) (fun r=>PureV.flat rfl) fun O=>?_;conv=>whnf
 refine gX ?_
 refine fz ?_;refine gX ?_
 refine O.new ((rfl:anew _ _ _=some (.map (bF Value.string Value.bool ([]:List (ByteArray×Bool))),fun g=>.map (some g)))) fun g1 h O=>?_;refine gH ?_
 refine jn hm 25 [] (fun s=>s) (fun _ h=>Own vars h0 [] h) (fun _=>[]) (fun hm=>?_) ?_
 ·refine gX ?_
  refine lw 25 [3,8,9] (σ:=((List (ByteArray×Bool))×Nat)) (fun s=>s) (fun (v4,v5) h=>Own vars h0 [((some g1),.map (bF Value.string Value.bool v4))] h) (fun (v4,v5)=>[(10,(i64 v5))]) (([]:List (ByteArray×Bool)),0) hm O ?_
  clear hm;rintro⟨v4,v5⟩ nx6 base h hm O
  refine gX ?_
  refine br hm (fun hm=>?_) fun hm=>?_
  ·refine gX ?_
   refine atF hm fun x7 hx7 hm=>?_;refine gH ?_
   apply Cs;conv=>whnf
   refine jn hm 25 [3,5,8,9,10] (fun s=>s) (fun v8 h=>Own vars h0 [((some g1),.map (bF Value.string Value.bool v4))] h) (fun v8=>[(21,(.bool v8))]) (fun hm=>?_) ?_
   ·refine gX ?_
    refine ca (lB hm O.has) fun r10 hm=>?_;refine gH ?_
    refine br hm (fun hm=>?_) fun hm=>?_
    ·refine gX ?_
     exact jx true hm O
    ·refine gX ?_
     refine⟨_,zF (ek:=Value.string) (ev:=Value.bool) (m:=v4) (k:=x7) (z:=false) rfl rfl rfl rfl (by kernel_rfl) zk (O.at (.head _)) rfl rfl,?_⟩;refine gH ?_
     exact jx ((cc v4 x7).getD false) hm O
   ·clear hm;rintro v8 base h hm O
    refine gX ?_
    refine br hm (fun hm=>?_) fun hm=>?_
    ·refine gX ?_
     exact fe hm O
    ·refine gX ?_
     refine O.vd (ek:=Value.string) (ev:=Value.bool) (m:=v4) (k:=x7) (v:=true) (.head _) rfl rfl rfl zk rfl rfl rfl fun h O=>?_;refine gX ?_
     refine aL hm fun hm=>?_;refine gH ?_
     exact jx ((iQ v4 x7 true),(v5+1)) hm O
  ·refine gX ?_
   exact jx () hm (O.sel [] (by decide))
 ·clear hm;rintro _ base h hm O
  refine gX ?_
  exact fe hm O
def jR (c:Circ) (i x:Nat):List Ln:=(c.nodes.zipIdx.take i).flatMap fun p=>bB x p.2 p.1.ins
theorem uX (x i:Nat) (l:List Nat) (a:Nat):bB x i (l++[a])=bB x i l++(if a=x then [⟨i,l.length⟩] else []):=by
 unfold bB
 rw[List.zipIdx_append,List.filter_append,List.map_append]
 congr 1
 by_cases c:a=x
 ·simp[c]
 ·simp[c]
theorem qt {c:Circ}{i x:Nat}{y:Node} (hy:c.nodes[i]?=some y):jR c (i+1) x=jR c i x++bB x i y.ins:=by
 have h:c.nodes.zipIdx[i]?=some (y,i):=by rw[List.getElem?_zipIdx,hy];simp
 unfold jR
 obtain⟨h1,h2⟩:=List.getElem?_eq_some_iff.1 h
 rw[List.take_succ_eq_append_getElem h1,h2,List.flatMap_append]
 simp
theorem qw (x i:Nat) (l:List Nat):(bB x i l).length<=l.length:=by
 unfold bB
 rw[List.length_map]
 refine Nat.le_trans (List.length_filter_le _ _) ?_
 simp
structure FanPre (c:Circ):Prop where
 len:c.nodes.length<=16
 ins:∀ (i:Nat) (x:Node),c.nodes[i]?=some x->(∀ k∈x.ins,k<c.nodes.length)/\x.ins.length<=16
theorem sI {c:Circ} (g:FanPre c) (x:Nat):∀ i,i<=c.nodes.length->(jR c i x).length<=i*16
 |0,_=>by simp[jR]
 |i+1,h=>by
  obtain⟨y,hy⟩:=aC (l:=c.nodes) (i:=i) h
  rw[qt hy,List.length_append]
  have:=sI g x i (by omega)
  have:=qw x i y.ins
  have:=(g.ins i y hy).2
  omega
def eV (c:Circ) (i t:Nat) (ins:List Nat):List (List Ln):=(List.range c.nodes.length).map fun x=>jR c i x++bB x i (ins.take t)
theorem nF {c:Circ}{i t x:Nat}{ins:List Nat} (hx:x<c.nodes.length):(eV c i t ins)[x]?=some (jR c i x++bB x i (ins.take t)):=by
 unfold eV
 rw[List.getElem?_map,List.getElem?_range hx]
 rfl
theorem xG {c:Circ}{i t y:Nat}{ins:List Nat} (hy:ins[t]?=some y):(eV c i t ins).set y (jR c i y++bB y i (ins.take t)++[⟨i,t⟩])=eV c i (t+1) ins:=by
 have ht:=aj hy
 obtain⟨h1,h2⟩:=List.getElem?_eq_some_iff.1 hy
 have hs:∀ x,bB x i (ins.take (t+1))=bB x i (ins.take t)++(if y=x then [⟨i,t⟩] else []):=fun x=>by
  rw[List.take_succ_eq_append_getElem h1,h2,uX,List.length_take,Nat.min_eq_left (Nat.le_of_lt ht)]
 apply List.ext_getElem?
 intro x
 rw[List.getElem?_set]
 have hl:(eV c i t ins).length=c.nodes.length:=by unfold eV;simp
 by_cases c1:x<c.nodes.length
 ·rw[nF c1,nF c1,hs x]
  by_cases e:y=x
  ·subst e
   rw[if_pos rfl,if_pos (by omega),if_pos rfl,List.append_assoc]
  ·rw[if_neg e,if_neg e,List.append_nil]
 ·have hn:∀ k,(eV c i k ins)[x]?=none:=fun k=>by
   refine List.getElem?_eq_none ?_
   unfold eV;simp;omega
  rw[hn,hn]
  by_cases e:y=x
  ·rw[if_pos e,if_neg (by omega)]
  ·rw[if_neg e]
theorem tJ {c:Circ}{K:List (List Ln)->Prop} (g:FanPre c) (h:K (mR c)):gZ c K:=by
 have hlen:=g.len
 unfold gZ
 refine⟨by omega,by omega,?_⟩
 refine aA (fun s=>s.2<=c.nodes.length/\s.1=eV c s.2 0 []) (fun s=>c.nodes.length-s.2) (fun a=>a=mR c) ?_ ?_ ?_
 ·rintro k ⟨R,i⟩ nx ⟨hi,hR⟩ hnx hk
  dsimp only at hi hR
  subst hR
  refine⟨fun q=>?_,fun q=>?_⟩
  ·have q:=aT.1 q
   try dsimp only at q
   obtain⟨y,hy⟩:=aC q
   obtain⟨g1,g2⟩:=g.ins i y hy
   refine dT ⟨y,hy,?_⟩
   refine aW (fun s=>s.2<=y.ins.length/\s.1=eV c i s.2 y.ins) (fun s=>y.ins.length-s.2) ?_ ⟨Nat.zero_le _,by unfold eV;simp⟩
   rintro⟨R1,t⟩ nx1 ⟨ht,hR⟩ hnx1
   dsimp only at ht hR
   subst hR
   refine⟨fun q1=>?_,fun q1=>?_⟩
   ·have q1:=aT.1 q1
    try dsimp only at q1
    obtain⟨z,hz⟩:=aC q1
    have hzn:=g1 z (List.mem_of_getElem? hz)
    have hb:=sI g z i hi
    have hb2:=qw z i (y.ins.take t)
    have hb3:(y.ins.take t).length<=16:=by rw[List.length_take];omega
    refine dT ⟨z,hz,fun e=>absurd (aT.1 e) (Nat.not_lt_zero _),fun _=>⟨fun _=>?_,fun e=>?_⟩⟩
    ·refine⟨hzn,_,nF hzn,by simp only[List.length_append,List.length_singleton];omega,hzn,by omega,?_⟩
     rw[xG hz]
     exact hnx1 (eV c i (t+1) y.ins,t+1) ⟨q1,rfl⟩ (by dsimp only;omega)
    ·have e2:ltN z c.nodes.length=true:=aT.2 hzn
     rw[e2] at e
     cases e
   ·have q1:=bb.1 q1
    try dsimp only at q1
    refine⟨by omega,hnx (eV c i t y.ins,i+1) ⟨q,?_⟩ (by dsimp only;omega)⟩
    unfold eV
    refine List.map_congr_left fun x _=>?_
    rw[List.take_of_length_le q1,qt hy]
    simp[bB]
  ·have q:=bb.1 q
   try dsimp only at q
   have:i=c.nodes.length:=by omega
   subst this
   refine hk _ ?_
   unfold eV mR
   refine List.map_congr_left fun x _=>?_
   unfold jR
   rw[List.take_of_length_le (by simp)]
   simp[bB]
 ·refine⟨Nat.zero_le _,?_⟩
  unfold eV
  apply List.ext_getElem?
  intro x
  rw[List.getElem?_replicate,List.getElem?_map]
  by_cases q:x<c.nodes.length
  ·rw[if_pos q,List.getElem?_range q]
   simp[jR,bB]
  ·rw[if_neg q,List.getElem?_eq_none (by simp;omega)]
   rfl
 ·rintro a rfl
  have hl:(mR c).length=c.nodes.length:=by unfold mR;simp
  refine aA (fun s=>s.2<=c.nodes.length/\s.1=mR c) (fun s=>c.nodes.length-s.2) (fun a=>a=mR c) ?_ ⟨Nat.zero_le _,rfl⟩ ?_
  ·rintro k ⟨R,i⟩ nx ⟨hi,hR⟩ hnx hk
   dsimp only at hi hR
   subst hR
   refine⟨fun q=>?_,fun _=>hk _ rfl⟩
   have q:=aT.1 q
   try dsimp only at q
   obtain⟨y,hy⟩:=aC (l:=mR c) (i:=i) (by omega)
   refine⟨q,y,hy,q,by omega,hnx _ ⟨q,?_⟩ (by dsimp only;omega)⟩
   obtain⟨h1,rfl⟩:=List.getElem?_eq_some_iff.1 hy
   exact List.set_getElem_self h1
  ·rintro a rfl
   exact⟨hl.symm,h⟩
theorem BB {c:Circ} (g:FanPre c):FanOk c:=by
 refine FnV.rl (enc:=ah 1 (ah 2 bY)) (eF fun r=>ai.cons (eF fun l=>wK l) ai.nil) fun h hB=>?_
 exact qZ (K:=fun r=>r=mR c) (tJ g rfl) hB
theorem yQ:([0,1,2,3,4,5,6,7,8,9,10,11,12,13,14,15].all fun i=>isTrue (qx Tryz.prog [] (pz Tryz.prog) 60 143 #[.string (ke i)] (eZ vars)))=true:=by kernel_rfl
theorem Fk {i:Nat} (hi:i<16):Dx (ke i):=by
 have hm:i∈[0,1,2,3,4,5,6,7,8,9,10,11,12,13,14,15]:=by
  have:i=0\/i=1\/i=2\/i=3\/i=4\/i=5\/i=6\/i=7\/i=8\/i=9\/i=10\/i=11\/i=12\/i=13\/i=14\/i=15:=by omega
  simpa using this
 obtain⟨h',e⟩:=tn (List.all_eq_true.1 yQ i hm)
 have c:=(jA hM hP (fun f vs h v e=>kL f vs h v e) 60 _ _ _ _ _ e).1
 exact⟨PureV.tm rfl,fun h b=>c.lift (by kernel_rfl) rfl (oi (zx b) (rC b))⟩
theorem AH:∀ i,i<16->∀ j,j<16->ke i=ke j->i=j:=by decide +kernel
theorem AM {l:List ByteArray}{x:ByteArray} (h:x ∉ l):cc (l.map fun s=>(s,true)) x=none:=by
 induction l with
 |nil=>rfl
 |cons a l ih =>
  simp only[List.mem_cons,not_or] at h
  rw[List.map_cons,cc,if_neg h.1]
  exact ih h.2
theorem B7 {l:List ByteArray}{x:ByteArray} (h:x ∉ l):iQ (l.map fun s=>(s,true)) x true=(l++[x]).map fun s=>(s,true):=by
 induction l with
 |nil=>rfl
 |cons a l ih =>
  simp only[List.mem_cons,not_or] at h
  rw[List.map_cons,iQ,if_neg h.1,ih h.2]
  rfl
theorem oB {c:Circ}{K:Nat->Prop} (h1:∀ s∈c.names,Dx s) (h2:c.names.Nodup) (h3:c.names.length<2 ^ 60) (h:K 0):iG c K:=by
 unfold iG
 refine aA (fun s=>s.2<=c.names.length/\s.1=(c.names.take s.2).map fun s=>(s,true)) (fun s=>c.names.length-s.2) (fun _=>True) ?_ ⟨Nat.zero_le _,by simp⟩ (fun _ _=>h)
 rintro k ⟨m,i⟩ nx ⟨hi,hR⟩ hnx hk
 dsimp only at hi hR
 subst hR
 refine⟨fun q=>?_,fun _=>hk () trivial⟩
 have q:=aT.1 q
 try dsimp only at q
 obtain⟨x,hx⟩:=aC q
 obtain⟨l1,l2⟩:=List.getElem?_eq_some_iff.1 hx
 have hnot:x ∉ c.names.take i:=fun mm=>by
  obtain⟨j,hj,e⟩:=List.getElem_of_mem mm
  rw[List.length_take] at hj
  rw[List.getElem_take] at e
  exact List.pairwise_iff_getElem.1 h2 j i (by omega) l1 (by omega) (e.trans l2.symm)
 refine⟨x,hx,dT ⟨h1 x (List.mem_of_getElem? hx),(fun e=>by cases e),fun _=>?_⟩⟩
 rw[AM hnot]
 refine⟨(fun e=>by cases e),fun _=>⟨by omega,hnx _ ⟨q,?_⟩ (by dsimp only;omega)⟩⟩
 dsimp only
 rw[B7 hnot,List.take_succ_eq_append_getElem l1,l2]
theorem Cj {c:Circ}{n:Nat} (hn:n<=16) (hc:c.names=(List.range n).map ke):NamesOk c:=by
 refine FnV.rl (enc:=i64) (PureV.flat rfl) fun h hB=>?_
 refine mr (K:=fun r=>r=0) (oB ?_ ?_ ?_ rfl) hB
 ·intro s m
  rw[hc] at m
  obtain⟨i,hi,rfl⟩:=List.mem_map.1 m
  exact Fk (by have:=List.mem_range.1 hi;omega)
 ·rw[hc]
  unfold List.Nodup
  rw[List.pairwise_map]
  refine List.Pairwise.imp_of_mem ?_ (List.nodup_range (n:=n))
  intro a b ha hb hne e
  exact hne (AH a (by have:=List.mem_range.1 ha;omega) b (by have:=List.mem_range.1 hb;omega) e)
 ·rw[hc];simp;omega
theorem iu {first:Nat}{d:Nat->Nat}{ns:List Node}:∀ i,(mY first d i ns).length=ns.length
 |0=>rfl
 |i+1=>by rw[mY,List.length_set,iu i]
theorem oQ {first:Nat}{d:Nat->Nat}{ns:List Node}{j:Nat}:∀ {i},first+i<=j->(mY first d i ns)[j]?=ns[j]?
 |0,_=>rfl
 |i+1,h=>by
  rw[mY,List.getElem?_set_ne (by omega)]
  exact oQ (by omega)
theorem pX (x:CData):0<(cC x).length:=by
 rw[iv];omega
theorem E9 {α:Type}{a:α}{first:(α->Prop)->Prop}{rest:α->Prop} (h1:rest a->first rest) (h2:rest a):an first rest:=h1 h2
structure CB (x:CData):Prop where
 inp:x.inp<256
 dffs:x.dffs<256
 data0:x.data0<256
 data1:x.data1<256
 port0:x.port0<256
 port1:x.port1<256
 port2:x.port2<256
 port3:x.port3<256
 gates:∀ g∈x.gates,GOk g
 outs:∀ o∈x.outs,o<256
theorem sT {n:Nat} (hn:n<=16) {rest:List ByteArray->Prop} (h:rest ((List.range n).map ke)) :
  an (α:=(List ByteArray)) (fun k=>ar (S:=((List ByteArray)×Nat)) (fun (v,i) nx=>((ltN i n)=true->hZ i (fun r=>(v.length+([r]:(List ByteArray)).length)*16<=2 ^ 47/\i+1<2 ^ 63/\nx ((v++([r]:(List ByteArray))),(i+1))))/\((ltN i n)=false->k v)) (([]:List ByteArray),0)) rest:=by
 refine aA (fun s=>s.2<=n/\s.1=(List.range s.2).map ke) (fun s=>n-s.2) (fun a=>a=(List.range n).map ke) ?_ ⟨Nat.zero_le _,rfl⟩ (fun a e=>by rw[e];exact h)
 rintro k ⟨l,i⟩ nx ⟨hi,hl⟩ hnx hk
 dsimp only at hi hl
 subst hl
 refine⟨fun q=>?_,fun q=>?_⟩
 ·have q:=aT.1 q
  try dsimp only at q
  refine⟨by omega,by simp only[List.length_map,List.length_range,List.length_singleton];omega,by omega,hnx _ ⟨by dsimp only;omega,?_⟩ (by dsimp only;omega)⟩
  dsimp only
  rw[List.range_succ,List.map_append];rfl
 ·have q:=bb.1 q
  try dsimp only at q
  have:i=n:=by omega
  subst this
  exact hk _ rfl
theorem uA {n:Nat} (hpos:0<n) {outs:List Nat} (ho:∀ o∈outs,o<256) {rest:List Nat->Prop} (h:rest ((outs.take 3).map (· % n))) :
  an (α:=(List Nat)) (fun k=>ar (S:=((List Nat)×Nat)) (fun (v,i) nx=>an (α:=Bool) (fun k2=>((ltN i outs.length)=true->k2 (ltN i 3))/\((ltN i outs.length)=false->k2 false)) (fun w=>(w=true->∃ x,outs[i]?=some x/\x<256/\0<n/\(v.length+([(x%n)]:(List Nat)).length)*8<=2 ^ 47/\i+1<2 ^ 63/\nx ((v++([(x%n)]:(List Nat))),(i+1)))/\(w=false->k v))) (([]:List Nat),0)) rest:=by
 refine aA (fun s=>s.2<=min outs.length 3/\s.1=(outs.take s.2).map (· % n)) (fun s=>min outs.length 3-s.2) (fun a=>a=(outs.take 3).map (· % n)) ?_ ⟨Nat.zero_le _,by simp⟩ (fun a e=>by rw[e];exact h)
 rintro k ⟨l,i⟩ nx ⟨hi,hl⟩ hnx hk
 dsimp only at hi hl
 subst hl
 have hi3:i<=3:=Nat.le_trans hi (Nat.min_le_right _ _)
 have hil:i<=outs.length:=Nat.le_trans hi (Nat.min_le_left _ _)
 have hlen:((outs.take i).map (· % n)).length=i:=by rw[List.length_map,List.length_take];omega
 have stop:¬ (i<outs.length/\i<3)->k ((outs.take i).map (· % n)):=fun q=>by
  refine hk _ ?_
  by_cases c:i=3
  ·rw[c]
  ·rw[List.take_of_length_le (by omega),List.take_of_length_le (by omega)]
 refine dT ⟨fun q=>⟨fun q2=>?_,fun q2=>stop fun e=>absurd e.2 (by have:=bb.1 q2;omega)⟩,fun q=>⟨(fun e=>by cases e),fun _=>stop fun e=>absurd e.1 (by have:=bb.1 q;(try dsimp only at this);omega)⟩⟩
 have q:=aT.1 q
 have q2:=aT.1 q2
 try dsimp only at q q2
 obtain⟨o,hoo⟩:=aC q
 obtain⟨l1,l2⟩:=List.getElem?_eq_some_iff.1 hoo
 refine⟨o,hoo,ho _ (List.mem_of_getElem? hoo),hpos,by rw[hlen];simp only[List.length_singleton];omega,by omega,hnx _ ⟨by dsimp only;omega,?_⟩ (by dsimp only;omega)⟩
 dsimp only
 rw[List.take_succ_eq_append_getElem l1,l2,List.map_append];rfl
theorem xZ {x:CData}{K:Circ->Prop} (hx:CB x) (h:K (gf x)):ir x K:=by
 have h4:=Nat.mod_lt x.inp (show 0<4 by decide)
 have h3:=Nat.mod_lt x.dffs (show 0<3 by decide)
 have hpos:=pX x
 have hle:=yX x
 have hbase:(fU x.inp x.dffs x.mem).length<=8:=by rw[fZ];split <;> omega
 have hbase1:0<(fU x.inp x.dffs x.mem).length:=by rw[fZ];omega
 unfold ir
 refine aA (fun s=>s.2<=x.inp%4+1/\s.1=List.replicate s.2 gQ) (fun s=>x.inp%4+1-s.2) (fun a=>a=List.replicate (x.inp%4+1) gQ) ?_ ⟨Nat.zero_le _,rfl⟩ ?_
 ·rintro k ⟨l,i⟩ nx ⟨hi,hl⟩ hnx hk
  dsimp only at hi hl
  subst hl
  refine⟨by decide,by omega,fun q=>?_,fun q=>?_⟩
  ·have q:=mj.1 q
   try dsimp only at q
   refine⟨by simp only[List.length_replicate,List.length_singleton];omega,by omega,hnx _ ⟨by dsimp only;omega,?_⟩ (by dsimp only;omega)⟩
   dsimp only
   rw[List.replicate_succ'];rfl
  ·have q:=oN.1 q
   try dsimp only at q
   have:i=x.inp%4+1:=by omega
   subst this
   exact hk _ rfl
 rintro a rfl
 refine⟨by decide,by omega,?_⟩
 refine aA (fun s=>s.2<=x.dffs%3/\s.1=List.replicate (x.inp%4+1) gQ++List.replicate s.2 (pc 0)) (fun s=>x.dffs%3-s.2) (fun a=>a=List.replicate (x.inp%4+1) gQ++List.replicate (x.dffs%3) (pc 0)) ?_ ⟨Nat.zero_le _,by simp⟩ ?_
 ·rintro k ⟨l,i⟩ nx ⟨hi,hl⟩ hnx hk
  dsimp only at hi hl
  subst hl
  refine⟨fun q=>?_,fun q=>?_⟩
  ·have q:=aT.1 q
   try dsimp only at q
   refine⟨by simp only[List.length_append,List.length_replicate,List.length_singleton];omega,by omega,hnx _ ⟨by dsimp only;omega,?_⟩ (by dsimp only;omega)⟩
   dsimp only
   rw[List.replicate_succ' (n:=i),<- List.append_assoc];rfl
  ·have q:=bb.1 q
   try dsimp only at q
   have:i=x.dffs%3:=by omega
   subst this
   exact hk _ rfl
 rintro a rfl
 refine E9 (a:=fU x.inp x.dffs x.mem) (fun F=>⟨fun q=>?_,fun q=>?_⟩) ?_
 ·refine⟨by simp only[List.length_append,List.length_replicate,List.length_cons,List.length_nil];omega,?_⟩
  rw[show fU x.inp x.dffs x.mem=List.replicate (x.inp%4+1) gQ++List.replicate (x.dffs%3) (pc 0)++[AF 0,AF 1] by unfold fU;rw[q];rfl] at F
  exact F
 ·rw[show fU x.inp x.dffs x.mem=List.replicate (x.inp%4+1) gQ++List.replicate (x.dffs%3) (pc 0) by unfold fU;rw[q];simp] at F
  exact F
 refine aA (fun s=>s.2<=min x.gates.length 8/\s.1=dX x.bus x.gates (fU x.inp x.dffs x.mem) s.2) (fun s=>min x.gates.length 8-s.2) (fun a=>a=cC x) ?_ ⟨Nat.zero_le _,rfl⟩ ?_
 ·rintro k ⟨l,i⟩ nx ⟨hi,hl⟩ hnx hk
  dsimp only at hi hl
  subst hl
  have hgl:i<=x.gates.length:=Nat.le_trans hi (Nat.min_le_left _ _)
  have hN:=fj x.bus x.gates (fU x.inp x.dffs x.mem) i hgl
  have hi8:i<=8:=Nat.le_trans hi (Nat.min_le_right _ _)
  have stop:¬ (i<x.gates.length/\i<8)->k (dX x.bus x.gates (fU x.inp x.dffs x.mem) i):=fun q=>by
   have:i=min x.gates.length 8:=by omega
   exact hk _ (by rw[this];rfl)
  refine dT ⟨fun q=>⟨fun q2=>?_,fun q2=>stop fun e=>absurd e.2 (by have:=bb.1 q2;omega)⟩,fun q=>⟨(fun e=>by cases e),fun _=>stop fun e=>absurd e.1 (by have:=bb.1 q;(try dsimp only at this);omega)⟩⟩
  have q:=aT.1 q
  have q2:=aT.1 q2
  try dsimp only at q q2
  obtain⟨gd,hg⟩:=aC q
  refine⟨gd,hg,hx.gates _ (List.mem_of_getElem? hg),by omega,by omega,by simp only[List.length_singleton];omega,by omega,hnx _ ⟨by dsimp only;omega,?_⟩ (by dsimp only;omega)⟩
  dsimp only
  rw[lZ hg]
 rintro a rfl
 have hfirst:(List.replicate (x.inp%4+1) gQ).length=x.inp%4+1:=List.length_replicate
 refine aA (fun s=>s.2<=x.dffs%3/\s.1=mY (x.inp%4+1) (nv x (cC x).length) s.2 (cC x)) (fun s=>x.dffs%3-s.2) (fun a=>a=mY (x.inp%4+1) (nv x (cC x).length) (x.dffs%3) (cC x)) ?_ ⟨Nat.zero_le _,rfl⟩ ?_
 ·rintro k ⟨l,i⟩ nx ⟨hi,hl⟩ hnx hk
  dsimp only at hi hl
  subst hl
  refine⟨fun q=>?_,fun q=>?_⟩
  ·have q:=aT.1 q
   try dsimp only at q
   have hget:(mY (x.inp%4+1) (nv x (cC x).length) i (cC x))[(List.replicate (x.inp%4+1) gQ).length+i]?=some (pc 0):=by
    rw[hfirst,oQ (Nat.le_refl _)]
    exact xI q
   have step:∀ d,d=nv x (cC x).length i->nx ((mY (x.inp%4+1) (nv x (cC x).length) i (cC x)).set ((List.replicate (x.inp%4+1) gQ).length+i) { pc 0 with ins:=[d] },i+1):=fun d e=>by
    refine hnx _ ⟨by dsimp only;omega,?_⟩ (by dsimp only;omega)
    dsimp only
    rw[hfirst,e]
    rfl
   refine⟨by omega,by omega,fun e=>⟨hx.data0,hpos,_,hget,by omega,step _ ?_⟩,fun e=>⟨hx.data1,hpos,_,hget,by omega,step _ ?_⟩⟩
   ·unfold nv;rw[if_pos e]
   ·unfold nv;rw[if_neg (by omega)]
  ·have q:=bb.1 q
   try dsimp only at q
   have:i=x.dffs%3:=by omega
   subst this
   exact hk _ rfl
 rintro a rfl
 have hol:((x.outs.take 3).map (· % (cC x).length)).length<=3:=by rw[List.length_map,List.length_take];omega
 unfold gf at h
 refine⟨fun q=>⟨hx.port0,hpos,hx.port1,hpos,hx.port2,hpos,hx.port3,hpos,sT hle (uA hpos hx.outs ⟨hpos,by omega,by simp only[List.length_singleton];omega,rfl,rfl,rfl,rfl,?_⟩)⟩,fun q=>sT hle (uA hpos hx.outs ⟨hpos,by omega,by simp only[List.length_singleton];omega,?_⟩)⟩
 ·rw[q] at h;exact h
 ·rw[q] at h;exact h
structure GK (ks:List Nat) (x:Node):Prop where
 kind1:1<=x.kind
 kind:x.kind<=13
 arity:Arity x.kind x.ins.length
 ins:∀ k∈x.ins,k<ks.length
 bus:x.kind=13->∀ k∈x.ins,ks.getD k 0=12
 mem:x.mem=0
 bit:x.bit=0
theorem mI (ks:List Nat):∀ (i:Nat) (t:Nat),t∈cK ks i->t<i/\ks.getD t 0=12
 |0,t,h=>by unfold cK at h;cases h
 |i+1,t,h=>by
  unfold cK at h
  split at h
  ·rename_i e
   rcases List.mem_append.1 h with h|h
   ·have:=mI ks i t h;exact⟨by omega,this.2⟩
   ·rw[List.mem_singleton] at h;subst h;exact⟨by omega,e⟩
  ·have:=mI ks i t h;exact⟨by omega,this.2⟩
theorem jV {l:List Nat}{i:Nat} (h:i<l.length):l.getD i 0∈l:=by
 rw[List.getD,List.getElem?_eq_getElem h]
 exact List.getElem_mem h
theorem rW:∀ kk,kk<6->Arity (5+kk) 2/\Arity (5+kk) 3:=by decide
theorem xo (bus:Bool) (g:GData) {ks:List Nat} (hn:0<ks.length):GK ks (iA bus g ks):=by
 have ha:=Nat.mod_lt g.a hn
 have hb:=Nat.mod_lt g.b hn
 have hd:=Nat.mod_lt g.d hn
 have hkk:(if bus then g.kind%13 else g.kind%9)<13:=by
  split
  ·exact Nat.mod_lt _ (by decide)
  ·exact Nat.lt_trans (Nat.mod_lt _ (by decide)) (by decide)
 unfold iA
 generalize (if bus then g.kind%13 else g.kind%9)=kk at hkk
 by_cases c1:kk<6
 ·rw[if_pos c1]
  by_cases c2:128<=g.kind
  ·rw[if_pos c2]
   refine⟨by dsimp only;omega,by dsimp only;omega,?_,?_,fun e=>by dsimp only at e;omega,rfl,rfl⟩
   ·exact (rW kk c1).2
   ·intro k m
    simp only[List.mem_cons,List.not_mem_nil,or_false] at m
    rcases m with rfl|rfl|rfl <;> assumption
  ·rw[if_neg c2]
   refine⟨by dsimp only;omega,by dsimp only;omega,?_,?_,fun e=>by dsimp only at e;omega,rfl,rfl⟩
   ·exact (rW kk c1).1
   ·intro k m
    simp only[List.mem_cons,List.not_mem_nil,or_false] at m
    rcases m with rfl|rfl <;> assumption
 rw[if_neg c1]
 by_cases c2:kk=6
 ·rw[if_pos c2]
  exact⟨(by decide:1<=4),(by decide:4<=13),(by decide:Arity 4 1),fun k m=>by simp only[List.mem_cons,List.not_mem_nil,or_false] at m;subst m;exact ha,(fun e=>by cases e),rfl,rfl⟩
 rw[if_neg c2]
 by_cases c3:kk=7
 ·rw[if_pos c3]
  refine⟨(by decide:1<=11),(by decide:11<=13),(by decide:Arity 11 3),fun k m=>?_,(fun e=>by cases e),rfl,rfl⟩
  simp only[List.mem_cons,List.not_mem_nil,or_false] at m
  rcases m with rfl|rfl|rfl <;> assumption
 rw[if_neg c3]
 by_cases c4:kk=9\/kk=10
 ·rw[if_pos c4]
  refine⟨(by decide:1<=12),(by decide:12<=13),(by decide:Arity 12 2),fun k m=>?_,(fun e=>by cases e),rfl,rfl⟩
  simp only[List.mem_cons,List.not_mem_nil,or_false] at m
  rcases m with rfl|rfl <;> assumption
 rw[if_neg c4]
 by_cases c5:10<kk/\0<(cK ks ks.length).length
 ·rw[if_pos c5]
  have h1:=mI ks ks.length _ (jV (Nat.mod_lt g.a c5.2))
  have h2:=mI ks ks.length _ (jV (Nat.mod_lt (g.a%(cK ks ks.length).length+1) c5.2))
  by_cases c6:1<(cK ks ks.length).length
  ·rw[if_pos c6]
   refine⟨(by decide:1<=13),(by decide:13<=13),(by decide:Arity 13 2),fun k m=>?_,fun _ k m=>?_,rfl,rfl⟩ <;>
   ·simp only[List.mem_cons,List.not_mem_nil,or_false] at m
    rcases m with rfl|rfl
    ·first|exact h1.1|exact h1.2
    ·first|exact h2.1|exact h2.2
  ·rw[if_neg c6]
   refine⟨(by decide:1<=13),(by decide:13<=13),(by decide:Arity 13 1),fun k m=>?_,fun _ k m=>?_,rfl,rfl⟩ <;>
   ·simp only[List.mem_cons,List.not_mem_nil,or_false] at m
    subst m
    first|exact h1.1|exact h1.2
 rw[if_neg c5]
 by_cases c7:240<g.kind
 ·rw[if_pos c7]
  have:g.a%2=0\/g.a%2=1:=by omega
  rcases this with e|e <;> rw[e]
  ·exact⟨(by decide:1<=1),(by decide:1<=13),(by decide:Arity 1 0),(fun k m=>by cases m),(fun _ k m=>by cases m),rfl,rfl⟩
  ·exact⟨(by decide:1<=2),(by decide:2<=13),(by decide:Arity 2 0),(fun k m=>by cases m),(fun _ k m=>by cases m),rfl,rfl⟩
 ·rw[if_neg c7]
  exact⟨(by decide:1<=3),(by decide:3<=13),(by decide:Arity 3 1),fun k m=>by simp only[List.mem_cons,List.not_mem_nil,or_false] at m;subst m;exact ha,(fun e=>by cases e),rfl,rfl⟩
theorem qI (bus:Bool) (gs:List GData) (base:List Node) (hb:0<base.length):∀ m,m<=gs.length->∀ (i:Nat) (y:Node),(dX bus gs base m)[i]?=some y ->
  (i<base.length/\base[i]?=some y)\/(base.length<=i/\∃ g,y=iA bus g (((dX bus gs base m).take i).map Node.kind))
 |0,_,i,y,h=>.inl ⟨aj h,h⟩
 |m+1,hm,i,y,h=>by
  have hg:gs[m]?=some gs[m]:=List.getElem?_eq_getElem (by omega)
  have hl:=fj bus gs base m (by omega)
  rw[lZ hg] at h ⊢
  by_cases c:i<(dX bus gs base m).length
  ·rw[List.getElem?_append_left c] at h
   rcases qI bus gs base hb m (by omega) i y h with q|⟨q1,g,q2⟩
   ·exact .inl q
   ·refine .inr ⟨q1,g,?_⟩
    rw[List.take_append_of_le_length (by omega)]
    exact q2
  ·have hi:i=(dX bus gs base m).length:=by
    have:=aj h
    rw[List.length_append,List.length_singleton] at this
    omega
   subst hi
   rw[List.getElem?_append_right (Nat.le_refl _),Nat.sub_self] at h
   cases h
   refine .inr ⟨by omega,gs[m],?_⟩
   rw[List.take_left']
   rfl
theorem vH {first:Nat}{d:Nat->Nat}{ns:List Node}{j:Nat}:∀ {m},j<m->first+m<=ns.length->(mY first d m ns)[first+j]?=some (pc (d j))
 |m+1,h,hl=>by
  rw[mY,List.getElem?_set]
  by_cases c:m=j
  ·subst c
   rw[if_pos rfl,if_pos (by rw[iu];omega)]
  ·rw[if_neg (by omega)]
   exact vH (by omega) (by omega)
theorem sQ {first:Nat}{d:Nat->Nat}{ns:List Node}{j:Nat} (h:j<first):∀ m,(mY first d m ns)[j]?=ns[j]?
 |0=>rfl
 |m+1=>by rw[mY,List.getElem?_set_ne (by omega)];exact sQ h m
def Ez (x:CData) (_i:Nat) (y:Node):Prop:=x.mem=true/\(y=AF 0\/y=AF 1)
theorem ti {x:CData}{i:Nat}{y:Node} (h:(gf x).nodes[i]?=some y) :
  (i<x.inp%4+1/\y=gQ)\/(x.inp%4+1<=i/\i<x.inp%4+1+x.dffs%3/\∃ d,d<(cC x).length/\y=pc d)\/Ez x i y \/
  (x.inp%4+1+x.dffs%3<=i/\(cC x)[i]?=some y/\∃ g,y=iA x.bus g (((cC x).take i).map Node.kind)):=by
 have h:(mY (x.inp%4+1) (nv x (cC x).length) (x.dffs%3) (cC x))[i]?=some y:=h
 have hbl:=fZ x.inp x.dffs x.mem
 have hrl:=iv x
 have hbase:∀ i,i<x.inp%4+1->(fU x.inp x.dffs x.mem)[i]?=some gQ:=fun i hi=>by
  unfold fU
  rw[List.append_assoc,List.getElem?_append_left (by rw[List.length_replicate];exact hi),List.getElem?_replicate,if_pos hi]
 by_cases c1:i<x.inp%4+1
 ·rw[sQ c1] at h
  unfold cC at h
  rw[nT _ _ _ (by omega) _ (Nat.min_le_left _ _),hbase i c1] at h
  cases h
  exact .inl ⟨c1,rfl⟩
 ·by_cases c2:i<x.inp%4+1+x.dffs%3
  ·have e:i=x.inp%4+1+(i-(x.inp%4+1)):=by omega
   rw[e,vH (by omega) (by omega)] at h
   cases h
   exact .inr (.inl ⟨by omega,c2,_,Nat.mod_lt _ (pX x),rfl⟩)
  ·rw[oQ (by omega)] at h
   rcases qI x.bus x.gates (fU x.inp x.dffs x.mem) (by omega) _ (Nat.min_le_left _ 8) i y h with⟨q,e⟩|⟨_,g,q⟩
   ·refine .inr (.inr (.inl ?_))
    unfold fU at e
    rw[List.getElem?_append_right (by simp only[List.length_append,List.length_replicate];omega)] at e
    cases hm:x.mem
    ·rw[hm] at e;simp at e
    ·rw[hm] at e
     simp only[if_true] at e
     refine⟨hm,?_⟩
     have hme:=List.mem_of_getElem? e
     simpa using hme
   ·exact .inr (.inr (.inr ⟨by omega,h,g,q⟩))
theorem Ai {x:CData} (hm:x.mem=false) {i:Nat}{y:Node} (h:(gf x).nodes[i]?=some y) :
  (i<x.inp%4+1/\y=gQ)\/(x.inp%4+1<=i/\i<x.inp%4+1+x.dffs%3/\∃ d,d<(cC x).length/\y=pc d) \/
  (x.inp%4+1+x.dffs%3<=i/\(cC x)[i]?=some y/\∃ g,y=iA x.bus g (((cC x).take i).map Node.kind)):=by
 rcases ti h with q|q|q|q
 ·exact .inl q
 ·exact .inr (.inl q)
 ·have:=q.1;rw[hm] at this;cases this
 ·exact .inr (.inr q)
theorem xV (x:CData) (k:Nat):(((gf x).nodes).map Node.kind).getD k 0=((cC x).map Node.kind).getD k 0:=by
 have hrl:=iv x
 show ((mY (x.inp%4+1) (nv x (cC x).length) (x.dffs%3) (cC x)).map Node.kind).getD k 0=_
 rw[List.getD,List.getD,List.getElem?_map,List.getElem?_map]
 by_cases c1:k<x.inp%4+1
 ·rw[sQ c1]
 ·by_cases c2:k<x.inp%4+1+x.dffs%3
  ·have e:k=x.inp%4+1+(k-(x.inp%4+1)):=by omega
   rw[e,vH (by omega) (by omega),xI (by omega)]
   rfl
  ·rw[oQ (by omega)]
theorem mG (x:CData):(gf x).mems=if x.mem then [⟨[x.port0%(cC x).length],[x.port1%(cC x).length,x.port2%(cC x).length],x.port3%(cC x).length⟩] else []:=rfl
theorem yH (x:CData):Good (gf x):=by
 have hle:=yX x
 have hpos:=pX x
 have hn:(gf x).nodes.length=(cC x).length:=iu _
 have node:∀ (i:Nat) (y:Node),(gf x).nodes[i]?=some y->GoodN (gf x) i y:=by
  intro i y h
  have hi:=aj h
  rw[hn] at hi
  rcases ti h with⟨_,rfl⟩|⟨_,_,d,hd,rfl⟩|⟨hm,e⟩|⟨h1,h2,g,hg⟩
  ·exact⟨(by decide:0<=15),(by decide:Arity 0 0),(fun k m=>by cases m),(fun e=>by cases e),fun _=>⟨rfl,rfl⟩,(fun e=>by cases e),fun e=>absurd e (by decide:¬ 1<=0)⟩
  ·refine⟨(by decide:14<=15),(by decide:Arity 14 1),fun k m=>?_,(fun e=>by cases e),fun _=>⟨rfl,rfl⟩,(fun e=>by cases e),fun _ e=>absurd e (by decide:¬ 14<=13)⟩
   have:k=d:=by simpa[pc] using m
   rw[hn,this];exact hd
  ·have em:=mG x
   rw[hm] at em
   simp only[if_true] at em
   rcases e with rfl|rfl
   ·exact⟨(by decide:15<=15),(by decide:Arity 15 0),(fun k m=>by cases m),(fun e=>by cases e),fun e=>absurd rfl e,fun _=>⟨_,(by rw[em];rfl),by show (0:Nat)<2;decide⟩,fun _ e=>absurd e (by decide:¬ 15<=13)⟩
   ·exact⟨(by decide:15<=15),(by decide:Arity 15 0),(fun k m=>by cases m),(fun e=>by cases e),fun e=>absurd rfl e,fun _=>⟨_,(by rw[em];rfl),by show (1:Nat)<2;decide⟩,fun _ e=>absurd e (by decide:¬ 15<=13)⟩
  ·have hks:(((cC x).take i).map Node.kind).length=i:=by rw[List.length_map,List.length_take];omega
   have G:=xo x.bus g (ks:=((cC x).take i).map Node.kind) (by omega)
   rw[<- hg] at G
   have lt:∀ k∈y.ins,k<i:=fun k m=>by have:=G.ins k m;omega
   refine⟨by have:=G.kind;omega,G.arity,fun k m=>by have:=lt k m;omega,fun e k m=>?_,fun _=>⟨G.mem,G.bit⟩,fun e=>by have:=G.kind;omega,fun _ _=>lt⟩
   have hk:=lt k m
   have hk2:k<(gf x).nodes.length:=by omega
   refine⟨_,List.getElem?_eq_getElem hk2,?_⟩
   have e1:=xV x k
   rw[List.getD,List.getElem?_map,List.getElem?_eq_getElem hk2] at e1
   have e2:=G.bus e k m
   rw[List.getD,List.getElem?_map,List.getElem?_take,if_pos hk] at e2
   rw[List.getD,List.getElem?_map,e2] at e1
   exact e1
 refine⟨by omega,by show ((List.range (cC x).length).map ke).length=_;rw[hn];simp,Cj (n:=(cC x).length) (by omega) rfl,BB ⟨by omega,fun i y h=>⟨(node i y h).ins,(node i y h).few⟩⟩,?_,?_,?_,?_,node,by rw[hn];exact hpos⟩
 ·intro m hme
  rw[mG] at hme
  split at hme
  ·rw[List.mem_singleton] at hme
   subst hme
   have lt:∀ a,a%(cC x).length<(gf x).nodes.length:=fun a=>by rw[hn];exact Nat.mod_lt _ hpos
   exact⟨(by decide:1<=1/\1<=8),(by decide:1<=2/\2<=32),fun k m=>by rw[List.mem_singleton.1 m];exact lt _,fun k m=>by simp only[List.mem_cons,List.not_mem_nil,or_false] at m;rcases m with rfl|rfl <;> exact lt _,lt _⟩
  ·cases hme
 ·rw[mG];split <;> simp
 ·intro o m
  have m:o∈(x.outs.take 3).map (· % (cC x).length)++[(cC x).length-1]:=m
  rw[hn]
  rcases List.mem_append.1 m with m|m
  ·obtain⟨q,_,rfl⟩:=List.mem_map.1 m
   exact Nat.mod_lt _ hpos
  ·rw[List.mem_singleton] at m;omega
 ·show ((x.outs.take 3).map (· % (cC x).length)++[(cC x).length-1]).length<=16
  rw[List.length_append,List.length_map,List.length_take,List.length_singleton];omega
theorem zZ {x:CData} (_:x.mem=false):Good (gf x):=yH x
end Go.Proofs.YtobphhjcadjfjaaGreatDoor
