/- Parts of the proof. -/
import Derived.Test.YtglgdkineobbeaaGreatDoorTn51
import Derived.Shelf.SlIterI.Sorted
import Derived.Sort.EveryDepth
import Derived.Shelf.Sort.AssemblyIn
import Derived.Shelf.Slices.In.SortNone
open BitVec renaming toNat_ofNat->Pg
open False renaming elim->Nn
open Go.DataW renaming nil->QA
open Go.Fence renaming wide->N7
open Go.Lit renaming int->Rb
open Go.Maps renaming size->R5
open Go.Proofs renaming enters_of->RH
open Go.Proofs.SlLaysZI renaming n6->Sz,n7->SA
open Go.Shelf renaming Ren->Sx
open Go.Value renaming bool->L0,string->L5,tuple->MD
open Go.Value.int renaming injEq->N5
open Go.WideElems renaming rd->Sf,rg->Qq
open Go.WideShapes renaming sorted_perm->So
open Int renaming ofNat->LQ
open List renaming getD->Mh,length->QO,map_const'->Sg,range->Ma,replicate->LY
open Nat renaming reduceAdd->RL,reduceSub->RM
open Prod renaming fst->P6
namespace Go.Proofs.YtglgdkineobbeaaGreatDoor
open Go.Abs
set_option maxRecDepth 100000
theorem Gi{D:SM}{p:Nat->Bool}{n:Nat}(s:IsSet D (λi=>i<n/\p i=true)):qo D=(Ma n).filter p:=by
 refine QY (le:=λa b=>a<=b) (λa b _ _ h1 h2=>Nat.le_antisymm h1 h2) ?_ ?_ ?_
 .have:=PS (le:=λa b:Nat=>decide (a<=b)) (λa b c h1 h2=>by simp at *;omega) (λa b=>by simp;omega) (D.map P6);exact this.imp λh=>of_decide_eq_true h
 .exact ((List.pairwise_lt_range).sublist Qt).imp λh=>MG h
 .refine (Qu _ _).trans ((List.perm_ext_iff_of_nodup s.nd ((Oq).sublist Qt)).2 λa=>?_);rw[Nc,Mx,<- s.has a];constructor
  .intro h;obtain⟨⟨a1,b⟩,hm,rfl⟩:=MP.1 h;exact jw hm
  .intro h
   cases hg:bY D a with
   |none=>exact absurd hg h
   |some b=>exact MP.2 ⟨_,nh hg,rfl⟩
def FA(c:Circ)(l:List Flt)(p:Pat):List Nat:=(Ma l.length).filter λi=>match l[i]? with|some f=>jf c p f|none=>false
def Jq:Prop:=∀{h:Heap}{g:Nat}{D:SM},aH vars h->h.get g=some (lN D)->(∀e∈D,e.1<65536)->(D.map P6).Nodup->al Tryz.prog NG 31 ⟨[.map (some g)]⟩ h (ae 1 i64 (qo D)) h
theorem za{c:Circ}(P:Plz c){p:Pat}(F:Full c p){l:List Flt}(hl:l.length<=1000)(hf:∀f∈l,StuckOk c f)(hsort:Jq){h0:Heap}(hB:aH vars h0) :
  al Tryz.prog NG 10 ⟨[az c,ae 5 ay l,aE p]⟩ h0 (MD ⟨[ae 1 i64 (FA c l p),i64 0]⟩) h0:=by
 have C:=P.cir;have hlen:=C.len;have V:=kJ C F.pat;have hs14:=cD c [14]
 have hord:bz c (λr=>∃o,r=(o,0)/\JQ c o):=mS C.good λo ho=>⟨o,rfl,λn=>by rw[ho.perm.mem_iff,Mx],by have:=ho.perm.length_eq;rw[M4] at this;omega,
  λa n y m ha hy hk hm=>ho.before a n y m ha hy (by have:=of_decide_eq_true (vd C hy hk);exact this) hm⟩
 refine xR (nets:=cn c p) (st:=ofN c [14]) (Q:=Bj c p l) (EV:=evM) (r0:=FA c l p) hB (El P F hl hf rfl) (uZ C F.pat rfl) hord (by omega) hlen V.len (λn y hy=>(C.good.node n y hy).few) (Jn P F hf) (iU (by omega) rfl) (λn hn=>?_) (by omega) C.good.outs (by have:=C.good.outsLen;omega) (λn i ⟨f,h1,_⟩=>⟨f,h1⟩) (λx D xc xl xn FL hS sD=>?_) hsort
 .obtain⟨h1,h2⟩:=bK.1 hn;obtain⟨y,hy⟩:=aA h1;rw[dk hy] at h2;have ha:=(C.good.node n y hy).arity;rw[h2] at ha;have a1:1<=y.ins.length:=ha.1;obtain⟨m,hm⟩:=aA (show 0<y.ins.length by omega);exact⟨y,m,hy,hm,(C.good.node n y hy).ins⟩
 .refine Gi (sD.congr λi=>(D2 P F hf xc xl xn FL hS i).trans ?_);constructor
  .rintro⟨f,h1,h2⟩;refine⟨(LX.1 h1).1,?_⟩;rw[h1];exact h2
  .rintro⟨h1,h2⟩;have hf2:=LU h1;rw[hf2] at h2;exact⟨_,hf2,h2⟩
def Jk:Sx where
 f n:=match n with
  |6=>72
  |7=>73
  |8=>121
  |9=>122
  |10=>123
  |11=>157
  |n=>n
 t n:=match n with
  |0=>0
  |3=>4
  |4=>4
  |23=>99
  |24=>33
  |26=>3
  |27=>159
  |28=>160
  |33=>142
  |n=>n
 g n:=n
theorem IQ:Sz Tryz.prog Jk where
 mixed:=by kernel_rfl
 f6:=⟨Tryz.f72.name,by kernel_rfl,by kernel_rfl⟩
 f8:=⟨Tryz.f121.name,by kernel_rfl,by kernel_rfl⟩
 f11:=⟨Tryz.f157.name,by kernel_rfl,by kernel_rfl⟩
 t0:=by kernel_rfl
 a0:=λw=>by kernel_rfl
 z0:=λw=>by kernel_rfl
 v0:=λw=>by kernel_rfl
 t24:=by kernel_rfl
 a24:=λw=>by kernel_rfl
 z24:=λw=>by kernel_rfl
 v24:=λw=>by kernel_rfl
 t26:=by kernel_rfl
 a26:=λw=>by kernel_rfl
 z26:=λw=>by kernel_rfl
 v26:=λw=>by kernel_rfl
 t28:=by kernel_rfl
 a28:=λw=>by kernel_rfl
 z28:=λw=>by kernel_rfl
 v28:=λw=>by kernel_rfl
 i26:=by kernel_rfl
theorem Jv:SA Tryz.prog Jk where
 mixed:=by kernel_rfl
 f7:=⟨Tryz.f73.name,by kernel_rfl,by kernel_rfl⟩
 f10:=⟨Tryz.f123.name,by kernel_rfl,by kernel_rfl⟩
 t0:=by kernel_rfl
 a0:=λw=>by kernel_rfl
 z0:=λw=>by kernel_rfl
 v0:=λw=>by kernel_rfl
 t4:=by kernel_rfl
 a4:=λw=>by kernel_rfl
 z4:=λw=>by kernel_rfl
 v4:=λw=>by kernel_rfl
 t23:=by kernel_rfl
 a23:=λw=>by kernel_rfl
 z23:=λw=>by kernel_rfl
 v23:=λw=>by kernel_rfl
 t26:=by kernel_rfl
 a26:=λw=>by kernel_rfl
 z26:=λw=>by kernel_rfl
 v26:=λw=>by kernel_rfl
 t27:=by kernel_rfl
 a27:=λw=>by kernel_rfl
 z27:=λw=>by kernel_rfl
 v27:=λw=>by kernel_rfl
 t28:=by kernel_rfl
 a28:=λw=>by kernel_rfl
 z28:=λw=>by kernel_rfl
 v28:=λw=>by kernel_rfl
 t33:=by kernel_rfl
 a33:=λw=>by kernel_rfl
 z33:=λw=>by kernel_rfl
 v33:=λw=>by kernel_rfl
def LC:Sx where
 f n:=match n with
  |125=>159
  |128=>188
  |129=>189
  |189=>122
  |215=>154
  |216=>185
  |257=>158
  |294=>179
  |295=>180
  |296=>181
  |297=>182
  |298=>183
  |299=>184
  |300=>186
  |301=>187
  |328=>205
  |329=>206
  |330=>207
  |331=>208
  |332=>209
  |343=>219
  |n=>n
 t n:=match n with
  |0=>0
  |3=>3
  |4=>4
  |5=>5
  |9=>9
  |28=>33
  |46=>81
  |51=>263
  |53=>47
  |131=>183
  |182=>274
  |183=>275
  |218=>289
  |222=>293
  |228=>299
  |229=>204
  |n=>n
 g n:=n
theorem JB:Go.Proofs.Lays.n189 Tryz.prog LC where
 mixed:=by kernel_rfl
 f125:=by kernel_rfl
 f128:=by kernel_rfl
 f129:=by kernel_rfl
 f189:=by kernel_rfl
 f215:=by kernel_rfl
 f216:=by kernel_rfl
 f257:=by kernel_rfl
 f294:=by kernel_rfl
 f295:=by kernel_rfl
 f296:=by kernel_rfl
 f297:=by kernel_rfl
 f298:=by kernel_rfl
 f299:=by kernel_rfl
 f300:=by kernel_rfl
 f301:=by kernel_rfl
 f328:=by kernel_rfl
 f329:=by kernel_rfl
 f330:=by kernel_rfl
 f331:=by kernel_rfl
 f332:=by kernel_rfl
 f343:=by kernel_rfl
 t0:=by kernel_rfl
 a0:=λw=>by kernel_rfl
 z0:=λw=>by kernel_rfl
 v0:=λw=>by kernel_rfl
 t3:=by kernel_rfl
 a3:=λw=>by kernel_rfl
 z3:=λw=>by kernel_rfl
 v3:=λw=>by kernel_rfl
 t4:=by kernel_rfl
 a4:=λw=>by kernel_rfl
 z4:=λw=>by kernel_rfl
 v4:=λw=>by kernel_rfl
 t5:=by kernel_rfl
 a5:=λw=>by kernel_rfl
 z5:=λw=>by kernel_rfl
 v5:=λw=>by kernel_rfl
 t9:=by kernel_rfl
 a9:=λw=>by kernel_rfl
 z9:=λw=>by kernel_rfl
 v9:=λw=>by kernel_rfl
 t28:=by kernel_rfl
 a28:=λw=>by kernel_rfl
 z28:=λw=>by kernel_rfl
 v28:=λw=>by kernel_rfl
 t46:=by kernel_rfl
 a46:=λw=>by kernel_rfl
 z46:=λw=>by kernel_rfl
 v46:=λw=>by kernel_rfl
 t51:=by kernel_rfl
 a51:=λw=>by kernel_rfl
 z51:=λw=>by kernel_rfl
 v51:=λw=>by kernel_rfl
 t53:=by kernel_rfl
 a53:=λw=>by kernel_rfl
 z53:=λw=>by kernel_rfl
 v53:=λw=>by kernel_rfl
 t131:=by kernel_rfl
 a131:=λw=>by kernel_rfl
 z131:=λw=>by kernel_rfl
 v131:=λw=>by kernel_rfl
 t182:=by kernel_rfl
 a182:=λw=>by kernel_rfl
 z182:=λw=>by kernel_rfl
 v182:=λw=>by kernel_rfl
 t183:=by kernel_rfl
 a183:=λw=>by kernel_rfl
 z183:=λw=>by kernel_rfl
 v183:=λw=>by kernel_rfl
 t218:=by kernel_rfl
 a218:=λw=>by kernel_rfl
 z218:=λw=>by kernel_rfl
 v218:=λw=>by kernel_rfl
 t222:=by kernel_rfl
 a222:=λw=>by kernel_rfl
 z222:=λw=>by kernel_rfl
 v222:=λw=>by kernel_rfl
 t228:=by kernel_rfl
 a228:=λw=>by kernel_rfl
 z228:=λw=>by kernel_rfl
 v228:=λw=>by kernel_rfl
 t229:=by kernel_rfl
 a229:=λw=>by kernel_rfl
 z229:=λw=>by kernel_rfl
 v229:=λw=>by kernel_rfl
end Go.Proofs.YtglgdkineobbeaaGreatDoor

namespace Go.Proofs.YtglgdkineobbeaaGreatDoor
open Go Go.Abs Go.RowKit Go.Maps Go.Sort Go.Shelf
set_option maxRecDepth 100000
set_option maxHeartbeats 4000000
theorem J1(m:Nat):AnyZI.SortsIn Tryz.prog Jk N7 m :=
 ⟨λblk off cap ss W hH hblk hsz=>callsIn_wide.2 (Go.calls_of_every_depth λD=>Go.Proofs.AnyS.slices_Sort_int_in JB D blk off cap ss W hH hblk hsz),
  λp cap W=>callsIn_wide.2 (Go.Proofs.Any.slices_Sort_int_none JB p cap W)⟩
theorem KW{gb n cap:Nat}(h:n<=cap)(W:World):CallsIn N7 5 Tryz.prog 71 #[.slice (some ⟨gb,0,none⟩) n cap] W λe w'=>e=.returned (.slice (some ⟨gb,0,none⟩) n n)/\w'=W:=by
 refine callsIn_of_wp Tryz.func71 rfl trivial ?_ rfl;simp only[Tryz.ntmps71,PW,M8,N4,RL,RM,Qm,Qn,QR,Qv,OO,Qd];gi_wp2;go_ret;exact⟨rfl,rfl⟩
theorem Ki(W:World):CallsIn N7 5 Tryz.prog 71 #[.slice none 0 0] W λe w'=>e=.returned (.slice none 0 0)/\w'=W:=by
 refine callsIn_of_wp Tryz.func71 rfl trivial ?_ rfl;simp only[Tryz.ntmps71,PW,M8,N4,RL,RM,Qm,Qn,QR,Qv,OO,Qd];gi_wp2;go_ret;exact⟨rfl,rfl⟩
def Kg(w w':World)(v:Value)(xs:List Value):Prop :=
 (xs=[]/\v=.slice none 0 0)\/∃gb cap cur,v=.slice (some ⟨gb,0,none⟩) xs.length xs.length/\w.heap.size<=gb/\w'.heap[gb]?=some (.cells cur 3 (0,0))/\xs.length<=cap/\cur.size=cap/\cur.toList.take xs.length=xs
theorem AB{H:Type}(b nn:Nat)(D0:DataW H)(R:Value->Option (DataW H×List MemPlace))(w:World)(hown:w.ownsMap Tryz.prog 3 R b nn D0)(hmax:R5 D0<=maxLen)(hbytes:R5 D0*8<=140737488355328) :
  Calls Tryz.prog 31 #[.map (some b)] w λe w'=>∃(v:Value) (ss:List Int),e=.returned v/\ss.Perm (intKeys D0)/\Kg w w' v ((ss.mergeSort (λx y=>decide (x<=y))).map encZ)/\Below w.heap.size w w':=by
 refine (callsIn_wide (n:=6)).1 ?_;have hbl:=hown.lt
 have hseq:SeqGives N7 2 Tryz.prog 123 #[.pointer (some ⟨w.heap.size,0,none⟩)] encZ (λss=>ss.Perm (intKeys D0)) (R5 D0) (w.alloc (.cells #[.map (some b)] 99)) :=
  AnyZI.keys_gives (ρ:=Jk) { Jv with } N7 _ trivial rfl (by omega) w.heap.size b nn D0 _ (by simp) (by simp) (by
   obtain⟨es,clock,hb,Ft,hs,hD⟩:=hown
   exact⟨es,clock,(Below.heap_alloc _ _ b hbl).trans hb,Ft,hs,hD⟩)
 have cK:∀mb W,CallsIn N7 5 Tryz.prog 73 #[.map mb] W λe w'=>e=.returned (.func (.func 123) #[] #[.pointer (some ⟨W.heap.size,0,none⟩)])/\w'=W.alloc (.cells #[.map mb] 99):=λmb W=>AnyZI.keys_in Jv N7 5 trivial rfl mb W;have cS:=AnyZI.sorted_in IQ N7 5 trivial trivial trivial trivial rfl (by omega) (J1 _) (RH Tryz.func122 (by kernel_rfl) rfl) 123 #[.pointer (some ⟨w.heap.size,0,none⟩)] trivial (RH Tryz.func123 (by kernel_rfl) rfl) _ _ hmax hbytes _ hseq;change CallsIn _ _ Tryz.prog 72 _ _ _ at cS;have hfK:N7.fn 73:=trivial;have hfS:N7.fn 72:=trivial;have hfC:N7.fn 71:=trivial;refine callsIn_of_wp Tryz.func31 rfl trivial ?_ rfl;simp only[Tryz.ntmps31,PW,M8,N4,RL,RM,Qm,Qn,QR,Qv,OO,Qd]
 gi_wp2_with (first
  |(gi_at_call 73;refine (cK _ _).mono ?_;rintro e w' ⟨rfl,rfl⟩)
  |(gi_at_call 72;refine cS.mono ?_;rintro e w' ⟨v,ss,rfl,hS,hrow,hnil,hb⟩))
 have hgrow:Below w.heap.size w w':=((Below.refl _ w).alloc (LV _) _).trans (hb.mono (by simp))
 rcases hrow.2 with⟨rfl,hz⟩|⟨gb,cap,cur,rfl,hbase,hgb,r1,r2,r3,r4⟩
 .obtain rfl:ss=[]:=hnil.1 rfl;refine (Ki w').mono ?_;rintro e w2 ⟨rfl,rfl⟩;gi_wp2;go_ret;exact⟨_,[],rfl,hS,.inl ⟨by simp,rfl⟩,hgrow⟩
 .refine (KW r1 w').mono ?_;rintro e w2 ⟨rfl,rfl⟩;gi_wp2;go_ret
  have hlen:((ss.mergeSort (λx y=>decide (x<=y))).map encZ).length=ss.length:=by rw[LZ,List.length_mergeSort]
  exact⟨_,ss,rfl,hS,.inr ⟨gb,cap,cur,by rw[hlen];rfl,by have:=hbase;simp at this;omega,hgb,by rw[hlen];exact r1,by omega,by rw[hlen];simpa using r4⟩,hgrow⟩
theorem BM{D:SM}{ss:List Int}(h:ss.Perm (D.map λp=>LQ p.1)):(ss.mergeSort (λx y=>decide (x<=y))).map encZ=(qo D).map i64:=by
 have e:ss.mergeSort (λx y=>decide (x<=y))=(qo D).map LQ:=by
  refine QY (le:=λa b=>a<=b) (λa b _ _ h1 h2=>Int.le_antisymm h1 h2) ?_ ?_ ?_
  .have:=PS (le:=λa b:Int=>decide (a<=b)) (λa b c h1 h2=>by simp at *;omega) (λa b=>by simp;omega) ss;exact this.imp λh=>of_decide_eq_true h
  .have:=PS (le:=λa b:Nat=>decide (a<=b)) (λa b c h1 h2=>by simp at *;omega) (λa b=>by simp;omega) (D.map P6);refine OU.2 (this.imp λh=>?_);have:=of_decide_eq_true h;simp only[L4];omega
  .refine (Qu _ _).trans (h.trans ?_);have:=((Qu (D.map P6) (λa b=>decide (a<=b))).symm).map LQ;rw[NT] at this;exact this
 rw[e,NT];rfl
theorem HL{ι:Inj}{h:Heap}{w:World}{g:Nat}{l:Abs.Loc}{D:SM}(H:HRel NG ι h w)(hl:ι g=some l)(hg:h.get g=some (lN D))(hnd:(D.map P6).Nodup)(hlow:∀e∈D,e.1<65536) :
  ∃D0:DataW Unit,w.ownsMap Tryz.prog 3 (λ_=>some (.nil,[])) l.blk 65536 D0/\R5 D0<=65536/\(intKeys D0).Perm (D.map λp=>LQ p.1):=by
 obtain⟨E,c,hb,hbase,hsz,hE,hc,hborn⟩:=H.obj g l _ hl hg
 have hlen:D.length<=65536:=by
  have:=kZ (m:=Ma 65536) hnd λx hx=>by
   obtain⟨e,he,rfl⟩:=MP.1 hx;exact Mx.2 (hlow e he)
  simpa using this
 have hsz2:E.size=D.length:=by rw[hsz];unfold aY;rw[LZ]
 have hkey:E.toList.map (·.key)=D.map λp=>i64 p.1:=by
  refine MH λi=>?_;rw[L7,L7,Nt]
  cases hd:D[i]? with
  |none =>
   have:E[i]?=none:=Ny (by rw[hsz2];exact PA.1 hd);rw[this];rfl
  |some p =>
   obtain⟨m,hm,rk,_⟩:=hE i (i64 p.1) (.bool p.2) (by unfold aY;rw[L7,hd];rfl);rw[hm];exact congrArg some (rk.rK rfl)
 have hrd:∀x∈E.toList,∃k:Nat,x.key=i64 k/\Sf Tryz.prog 3 (λ_=>some ((QA:DataW Unit),([]:List MemPlace))) x=some (.int .i64 (LQ k),.nil):=λx hx=>by
  have:x.key∈E.toList.map (·.key):=MP.2 ⟨x,hx,rfl⟩;rw[hkey] at this;obtain⟨p,hp,e⟩:=MP.1 this;refine⟨p.1,e.symm,?_⟩
  have hw:(Rb .i64 (LQ p.1)).wf=true:=by
   have:=hlow p hp;simp only[Lit.wf,IntKind.min,IntKind.max,IntKind.signed,IntKind.bits];simp;omega
  unfold Sf;rw[<- e]
  have hu:Tryz.prog.underlying 3=some (.int .i64):=by kernel_rfl
  simp only[keyOf,hu,mapKey,i64,hw,and_self,if_true,Oo,MI]
 have hrg:E.toList.map (Qq Tryz.prog 3 (λ_=>some ((QA:DataW Unit),([]:List MemPlace))))=D.map λp=>(Rb .i64 (LQ p.1),QA):=by
  have:E.toList.map (Qq Tryz.prog 3 (λ_=>some ((QA:DataW Unit),([]:List MemPlace))))=(E.toList.map (·.key)).map λv=>match v with | .int _ a=>(Rb .i64 a,(QA:DataW Unit)) | _=>(Lit.bool false,.nil):=by
   rw[NT];refine Og λx hx=>?_;obtain⟨k,e1,e2⟩:=hrd x hx;unfold Qq;rw[e2]
   show _=(match x.key with | .int _ a=>(Rb .i64 a,(QA:DataW Unit)) | _=>(Lit.bool false,.nil))
   rw[e1];rfl
  rw[this,hkey,NT];rfl
 have hrange:E.toList.map (·.born)=Ma E.size:=by
  refine MH λi=>?_;rw[L7,Nt]
  cases he:E[i]? with
  |none=>rw[Mk (by rw[M4];exact Array.getElem?_eq_none_iff.1 he)];rfl
  |some m=>rw[M7 (L3.1 he).1,<- hborn i m he];rfl
 refine⟨_,⟨E,c,hb,⟨by rw[hsz2];exact Mf hlen (by decide),⟨λx hx=>?_,?_,?_⟩,λx hx=>?_⟩,by rw[hsz2];exact hlen,rfl⟩,?_,?_⟩
 .have:x.born∈E.toList.map (·.born):=MP.2 ⟨x,hx,rfl⟩;rw[hrange] at this;rw[hc];exact Mx.1 this
 .rw[hrange];exact Oq
 .rw[hkey];refine OU.2 ((OU.1 hnd).imp λ{a b} hne e=>hne ?_);simp only[i64,N5,L4] at e;omega
 .obtain⟨k,_,q⟩:=hrd x hx;exact⟨_,q⟩
 .exact Mf (RT (length_sorted _)) (by rw[LZ,NF,hsz2];exact hlen)
 .show ((List.foldr DataW.insert [] (E.toList.map (Qq Tryz.prog 3 (λ_=>some ((QA:DataW Unit),([]:List MemPlace)))))).map λp=>Go.intOf p.1).Perm _
  refine ((So _).map _).trans ?_;rw[hrg,NT];exact Rq _
theorem GR(h:Heap)(o:AObj):Ext h (h.push o):=⟨NB _,λg hg=>by rw[Heap.bq,if_neg (by omega)]⟩
theorem Ej:Jq:=by
 intro h g D hB hg hlow hnd;refine vu (N:=NG) (cg λ_=>ag.cons (aq.flat rfl) ag.nil) (fk Tryz.func31) λι w vs' H ra=>?_;obtain⟨vl⟩:=vs'
 obtain⟨m',rfl⟩:∃m',vl=[m']:=by
  have:=ra.1
  match vl,this with
  |[a],_=>exact⟨a,rfl⟩
 have r0:VRel ι (.map (some g)) m':=ra.2 0
 cases r0 with
 |map _ l hl =>
  obtain⟨D0,hown,hsz,hperm⟩:=HL H hl hg hnd hlow;refine (AB l.blk 65536 D0 _ w hown (Mf hsz (by decide)) (by omega)).mono ?_;rintro e w' ⟨v,ss,rfl,hS,hrow,hb⟩;rw[BM (hS.trans hperm)] at hrow
  rcases hrow with⟨e0,rfl⟩|⟨gb,cap,cur,rfl,hge,hgb,hle,hcs,htk⟩
  .rw[List.map_eq_nil_iff.1 e0];exact⟨ι,_,h,.slice none 0 0,rfl,.sliceNil,H.grow hb.size (λb q=>hb.block b q),Step.grow H.dom hb.size (λb q=>hb.block b q) ⟨hb.output,hb.os,hb.tape,λz=>absurd z (by decide)⟩,Ext.refl h,λh2 F=>VLe.nil h2 1⟩
  .rw[LZ] at hle htk ⊢;have hlt:=(L3.1 hgb).1
   have hr:iL (ι.add h.size ⟨gb,0,cap⟩) ⟨gb,0,cap⟩ (.cells (ah ((qo D).map i64)) false) w'.heap[gb]?:=by
    rw[vK];refine⟨cur,_,(0,0),hgb,λ_=>rfl,hcs,by show 0+_<=_;rw[LZ];omega,λi v hv=>?_⟩
    have hi:i<(qo D).length:=by have:=(LX.1 hv).1;rwa [LZ] at this
    refine⟨v,?_,?_⟩
    .show cur[0+i]?=_
     rw[Nu,<- hv,<- htk,MX,if_pos hi,Nt]
    .rw[L7,LU hi] at hv
     cases hv
     exact VRel.mY rfl
   obtain⟨H',S'⟩:=H.newAt (l:=⟨gb,0,cap⟩) hge hlt hb.size (λb q=>hb.block b q) hr ⟨hb.output,hb.os,hb.tape,λz=>absurd z (by decide)⟩;refine⟨_,_,_,.slice (some ⟨h.size,0,none⟩) (qo D).length (qo D).length,rfl,VRel.slice h.size 0 _ _ 0 ⟨gb,0,cap⟩ (by simp[Inj.add]) (LV _) (λ_=>rfl),H',S',GR h _,λh2 F=>?_⟩;exact VLe.flM (F.at (LV _) (by rw[Heap.bq,if_pos rfl])) rfl λ_=>rfl
def ju(c:Circ)(l:List Flt)(p:Pat)(K:List Nat×Nat->Prop):Prop:=Plz c/\Full c p/\l.length<=1000/\(∀f∈l,StuckOk c f)/\K (FA c l p,0)
theorem mn{p0:Circ}{p1:List Flt}{p2:Pat}{K:List Nat×Nat->Prop}(hm:ju p0 p1 p2 K){h0:Heap}(hB:aH vars h0):∃r,K r/\al Tryz.prog NG 10 ⟨[az p0,(ae 5 ay) p1,aE p2]⟩ h0 ((λ(r:List Nat×Nat)=>MD ⟨[(ae 1 i64) (r.1),i64 (r.2)]⟩) r) h0:=by
 obtain⟨P,F,h1,h2,hk⟩:=hm;exact⟨(FA p0 p1 p2,0),hk,za P F h1 h2 Ej hB⟩
set_option maxHeartbeats 8000000
theorem GN{gN gP:Nat}{mN:NM}{mP:PM}{a b c:Slot}{B:List AObj}{h0 h:Heap}{S:List Slot}(O:Own B h0 (fI gN gP mN mP (a::b::c::S)) h):Own B h0 S h:=by
 rw[sF] at O;have O1:=O.sub (λ_ m=>Nd _ m) (Pt.1 O.apart).2.1;exact O1.tail.tail.tail
def Kn(x:Eng)(l:List Flt)(good:List Wd)(mN:NM)(mP:PM)(g11 g7 g8:Nat):EngA:=⟨x.circ,x.order,x.ins,x.state,Ld l good mN g11 g7,KX l good mP g11 g8⟩
def Ha(x:Eng)(l:List Flt)(good:List Wd)(K:EngA->Prop):Prop:=l.length<=64/\(∀f∈l,f.model=0/\f.value<=3)/\∀(mN:NM) (mP:PM) (g11 g7 g8:Nat),FiledOk l l.length mN mP->K (Kn x l good mN mP g11 g7 g8)
def dn(p0:Circ)(p1:(List Flt))(p2:Pat)(K:((List Bool)×Nat)->Prop):Prop :=
 cr p0 p1 ([p2]:(List Pat)) (λr1=>((neN r1 0)=true->K ([],r1))/\((neN r1 0)=false->cp p0 (λr2=>dZ p2.inp (λr5=>dZ p2.state (λr6=>bh r2 r5 r6 (λr7=>1*p1.length<=2^48/\p1.length<2^63/\aw (α:=(List Bool)) (λk11=>aF (S:=((List Bool)×Nat)) (λ(v12,v13) nx14=>((ltN v13 p1.length)=true->aw (α:=(List Bool)) (λk16=>v13+64<2^63/\v13<=(min (v13+64) p1.length)/\(min (v13+64) p1.length)<=p1.length/\Ha r2 ((p1.take (min (v13+64) p1.length)).drop v13) r7.1 (λr17=>jd r17 r5 r6 (λr18=>bP r7.2 r18.2 (λr19=>aF (S:=((List Bool)×Nat)) (λ(v20,v21) nx22=>((ltN v21 (((p1.take (min (v13+64) p1.length)).drop v13).length))=true->v13+v21<2^63/\v21<=63/\(v13+v21)<p1.length/\∃x23,v20[(v13+v21)]?=some x23/\v21+1<2^63/\nx22 ((v20.set (v13+v21) (eqN ((r19/2^v21)%2^1) 1)),(v21+1)))/\((ltN v21 (((p1.take (min (v13+64) p1.length)).drop v13).length))=false->k16 v20)) (v12,0))))) (λv15=>v13+64<2^63/\nx14 (v15,(v13+64))))/\((ltN v13 p1.length)=false->k11 v12)) ((LY p1.length (false:Bool)),0)) (λv10=>p1.length=v10.length/\K (v10,0))))))))
theorem oh{p0:Circ}{p1:(List Flt)}{p2:Pat}{K:((List Bool)×Nat)->Prop}(hm:dn p0 p1 p2 K){h0:Heap}(hB:aH vars h0):∃r,K r/\al Tryz.prog NG 9 ⟨[az p0,(ae 5 ay) p1,aE p2]⟩ h0 ((λ(r:((List Bool)×Nat))=>MD ⟨[(ae 1 L0) (r.1),i64 (r.2)]⟩) r) h0:=by
 unfold dn at hm
 refine fw Tryz.func9 hB (enc:=(λ(r:((List Bool)×Nat))=>MD ⟨[(ae 1 L0) (r.1),i64 (r.2)]⟩)) (λr=>aq.tup (ag.cons (cg (λ_=>ag.cons (aq.flat rfl) ag.nil)) (ag.cons (aq.flat rfl) (ag.nil)))) λO=>?_;conv=>whnf
 refine gX ?_;refine fz ?_;refine gH ?_;refine fz ?_;refine gX ?_;refine fz ?_;refine gH ?_;refine ca (gE hm O.has) λr1 hm=>?_;refine gX ?_;refine br hm (λhm=>?_) λhm=>?_
 .refine gX ?_;exact⟨([],r1),hm,O.ext,λh2 F=>VLe.tup (LLe.cons (VLe.nil _ _) (LLe.cons (VLe.refl _ _) (LLe.nil _)))⟩
 .refine gX ?_;refine ca (fV hm O.has) λr2 hm=>?_;refine gH ?_;refine O.new (aj (l:=[nS,nS,nS,nS,nS,nS,nS,.nilFunc,.nilFunc]) rfl rfl rfl) λg3 h O=>?_;refine gH ?_;refine O.stC 9 (.head _) [((ae 4 au) r2.circ.nodes),((ae 1 L5) r2.circ.names),((ae 3 bc) r2.circ.mems),((ae 1 i64) r2.circ.outs),((ae 1 i64) r2.order),((ae 1 i64) r2.ins),((ae 1 i64) r2.state),(fP r2.net),(ff r2.pin)] λh O=>?_;refine gX ?_;refine dF ?_;refine gX ?_;refine ca (kK hm O.has) λr5 hm=>?_;refine gH ?_;refine⟨.inl (Ext.refl _),?_⟩;refine gH ?_;refine dF ?_;refine gX ?_;refine ca (kK hm O.has) λr6 hm=>?_;refine gH ?_;refine⟨.inl (Ext.refl _),?_⟩;refine gH ?_;refine gX ?_;refine ldA O.i0 ?_;refine gH ?_;refine ca (dL hm O.has) λr7 hm=>?_;refine gX ?_;refine O.mkL (enc:=L0) 1 1 false hm λg8 h O hm=>?_;refine gH ?_;refine jn hm 91 [14] (λs=>s) (λv10 h=>Own vars h0 [(sG g8 L0 v10)] h) (λv10=>[]) (λhm=>?_) ?_
  .refine gX ?_;refine lw 91 [1,9,10,11,12,13,14] (σ:=((List Bool)×Nat)) (λs=>s) (λ(v12,v13) h=>Own vars h0 [(sC g3 [((ae 4 au) r2.circ.nodes),((ae 1 L5) r2.circ.names),((ae 3 bc) r2.circ.mems),((ae 1 i64) r2.circ.outs),((ae 1 i64) r2.order),((ae 1 i64) r2.ins),((ae 1 i64) r2.state),(fP r2.net),(ff r2.pin)]),(sG g8 L0 v12)] h) (λ(v12,v13)=>[(15,(i64 v13))]) ((LY p1.length (false:Bool)),0) hm (O.sel [1,0] (by decide)) ?_;clear hm;rintro⟨v12,v13⟩ nx14 base h hm O;refine gX ?_;refine br hm (λhm=>?_) λhm=>?_
   .apply Cs;conv=>whnf
    refine jn hm 91 [1,9,10,11,12,13,14,15] (λs=>s) (λv15 h=>Own vars h0 [(sC g3 [((ae 4 au) r2.circ.nodes),((ae 1 L5) r2.circ.names),((ae 3 bc) r2.circ.mems),((ae 1 i64) r2.circ.outs),((ae 1 i64) r2.order),((ae 1 i64) r2.ins),((ae 1 i64) r2.state),(fP r2.net),(ff r2.pin)]),(sG g8 L0 v15)] h) (λv15=>[]) (λhm=>?_) ?_
    .refine gX ?_;refine aJ hm λhm=>?_;refine gH ?_;refine⟨_,H5 (a:=(v13+64)) (b:=p1.length) rfl rfl,?_⟩;refine gH ?_;refine HF (s:=5) (enc:=ay) (l:=p1) (i:=v13) (j:=(min (v13+64) p1.length)) hm.1 hm.2.1 ?_;refine gX ?_;replace hm:=hm.2.2;refine ldA O.i0 ?_;refine gH ?_;obtain⟨hl6,hvv,hk⟩:=hm;obtain⟨u,h',cd,gN,gP,k7,k8,g11,mN,mP,rfl,F,O'⟩:=G0 (x:=r2) (l:=(p1.take (min (v13+64) p1.length)).drop v13) (good:=r7.1) hl6 (λf m=>(hvv f m).1) O;refine⟨_,_,cd,?_⟩;refine gH ?_;have hm:=hk mN mP g11 k7 k8 F;have O:=GN O';refine ca (qk (p0:=Kn r2 ((p1.take (min (v13+64) p1.length)).drop v13) r7.1 mN mP g11 k7 k8) hm O.has (IF hl6 hvv F O') (Jm hl6 hvv F O')) λr18 hm=>?_;refine gX ?_;refine ca (jb hm O.has) λr19 hm=>?_;refine gX ?_;refine lw 91 [1,9,10,11,12,13,14,15,19,75] (σ:=((List Bool)×Nat)) (λs=>s) (λ(v20,v21) h=>Own vars h0 [(sC g3 [((ae 4 au) r2.circ.nodes),((ae 1 L5) r2.circ.names),((ae 3 bc) r2.circ.mems),((ae 1 i64) r2.circ.outs),((ae 1 i64) r2.order),((ae 1 i64) r2.ins),((ae 1 i64) r2.state),(fP r2.net),(ff r2.pin)]),(sG g8 L0 v20)] h) (λ(v20,v21)=>[(76,(i64 v21))]) (v12,0) hm O ?_;clear hm;rintro⟨v20,v21⟩ nx22 base h hm O;refine gX ?_;refine br hm (λhm=>?_) λhm=>?_
     .refine gX ?_;refine aJ hm λhm=>?_;refine gH ?_;refine JG hm λhm=>?_;refine gH ?_;refine Ag 1 1 ?_;refine gH ?_;refine ix 1 hm λx23 hx23 hm=>?_;refine gH ?_;refine O.stE 1 (.tail _ (.head _)) hx23 (eqN ((r19/2^v21)%2^1) 1) λh O=>?_;refine gX ?_;refine aJ hm λhm=>?_;refine gH ?_;exact jx ((v20.set (v13+v21) (eqN ((r19/2^v21)%2^1) 1)),(v21+1)) hm O
     .refine gX ?_;exact jx v20 hm O
    .clear hm;rintro v15 base h hm O;refine gX ?_;refine aJ hm λhm=>?_;refine gH ?_;exact jx (v15,(v13+64)) hm O
   .refine gX ?_;exact jx v12 hm (O.sel [1] (by decide))
  .clear hm;rintro v10 base h hm O;refine gX ?_;obtain⟨hn24,hm⟩:=hm;exact⟨(v10,0),hm,O.ext,λh2 F=>VLe.tup (LLe.cons (O.jC F (LV _) (.head _) (λ_=>rfl) hn24) (LLe.cons (VLe.refl _ _) (LLe.nil _)))⟩
def ntL(l:List Flt)(i:Nat):Nat->Nat->Nat:=match l[i]? with|some f=>ntF f|none=>idN
def pnL(l:List Flt)(i:Nat):Nat->Nat->Nat->Nat:=match l[i]? with|some f=>pnF f|none=>idP
theorem Ia{c:Circ}{o:List Nat}(ho:OrdOk c o){l:List Flt}(hl:l.length<=64)(hS:∀f∈l,StuckOk c f){good:List Wd}{mN:NM}{mP:PM}{g11 g7 g8:Nat}(F:FiledOk l l.length mN mP):EngOkA c (Kn ⟨c,o,ofN c [0],ofN c [14],G3,G7⟩ l good mN mP g11 g7 g8) l.length (ntL l) (pnL l):=by
 have hv:∀f∈l,f.value<=3:=λf m=>by have:=(hS f m).value;omega
 refine⟨rfl,ho,rfl,rfl,hl,λi hi n w=>?_,λi hi n j w=>?_⟩
 .obtain⟨f,hf⟩:=aA hi
  show aD (atE l w (bS mN n)) i=ntL l i n (aD w i)
  have e:ntL l i=ntF f:=by unfold ntL;rw[hf]
  rw[vI hl hv hf,e]
  have hm:i∈bS mN n↔f.line.pin<0/\f.line.node=n:=by
   rw[F.net,Nc,hf];simp[hi]
  unfold ntF jG idN;by_cases c1:f.line.pin<0
  .rw[if_pos c1];by_cases c2:n=f.line.node
   .rw[if_pos c2,if_pos (hm.2 ⟨c1,c2.symm⟩)]
   .rw[if_neg c2,if_neg λq=>c2 (hm.1 q).2.symm]
  .rw[if_neg c1,if_neg λq=>c1 (hm.1 q).1]
 .obtain⟨f,hf⟩:=aA hi
  show aD (atE l w (bS mP ⟨n,LQ j⟩)) i=pnL l i n j (aD w i)
  have e:pnL l i=pnF f:=by unfold pnL;rw[hf]
  rw[vI hl hv hf,e]
  have hm:i∈bS mP ⟨n,LQ j⟩↔0<=f.line.pin/\f.line=⟨n,LQ j⟩:=by
   rw[F.pin,Nc,hf];simp[hi]
  unfold pnF ij idP;by_cases c1:f.line.pin<0
  .rw[if_pos c1,if_neg λq=>by have:=(hm.1 q).1;omega]
  .rw[if_neg c1];by_cases c2:n=f.line.node/\LQ j=f.line.pin
   .rw[if_pos c2,if_pos (hm.2 ⟨by omega,?_⟩)];obtain⟨h1,h2⟩:=c2
    cases hq:f.line with
    |mk a b=>rw[hq] at h1 h2;rw[h1,h2]
   .rw[if_neg c2,if_neg λq=>c2 ?_];have:=(hm.1 q).2;rw[this];exact⟨rfl,rfl⟩
theorem Av{l:List Nat}(hl:l.length<=16)(hv:∀v∈l,v<=3){K:List Wd->Prop}(h:K (l.map ja)):dZ l K:=by
 refine aB (λs=>s.2<=l.length/\s.1=(l.map ja).take s.2) (λs=>l.length-s.2) (λr=>r=l.map ja) ?_ ⟨L1 _,rfl⟩ λr hr=>by rw[hr];exact h
 rintro k ⟨r,j⟩ nx ⟨hj,hr⟩ hnx hk;dsimp only at hj hr;refine⟨λc=>?_,λc=>hk _ ?_⟩
 .have c:j<l.length:=aX.1 c;obtain⟨v,hvj⟩:=aA c;refine⟨v,hvj,hv v (LS hvj),by rw[hr,L8,LZ,L6];omega,by omega,hnx _ ⟨c,?_⟩ (by dsimp only;omega)⟩;dsimp only;rw[hr,NA,L7,hvj];rfl
 .have c:l.length<=j:=bC.1 c;rw[hr,Mc (by rw[LZ];exact c)]
theorem nM{l:List Nat}(hv:∀v∈l,v<=3){i:Nat}(hi:i<64)(q:Nat)(w:Wd)(hw:(l.map ja)[q]?=some w):aD w i=l.getD q 0:=by
 rw[L7] at hw
 cases hq:l[q]? with
 |none=>rw[hq] at hw;cases hw
 |some v =>
  rw[hq] at hw;cases hw;rw[hU (hv v (LS hq)) hi,Mh,hq];rfl
theorem Ko{r i:Nat}:eqN ((r/2^i)%2^1) 1=r.testBit i:=by
 rw[P8]
 show eqN (r/2^i%2) 1=_
 rw[MW,cJ];simp
theorem EE{c:Circ}(C:Cir c){l:List Flt}{p:Pat}(hl:∀f∈l,StuckOk c f)(hp:PatOk c p)(h1:l.length<=65536){K:List Bool×Nat->Prop}(h:K (l.map (jf c p),0)):dn c l p K:=by
 have hlen:=C.len;have hi:=cD c [0];have hs:=cD c [14];have hol:=C.good.outsLen;unfold dn;refine qX C hl (λq m=>by rw[Mm.1 m];exact hp) h1 (by simp) ⟨λq=>absurd rfl (dm.1 q),λ_=>?_⟩;refine mS C.good λo ho=>kY (by omega) (iU (by omega) ?_);dsimp only;have A1:p.inp.length=(ofN c [0]).length:=hp.inp;have A2:p.state.length=(ofN c [14]).length:=hp.state;refine Av (by omega) hp.inpv (Av (by omega) hp.statev ?_);refine zX C (AG ho (LV 64)) (p:=λ_=>p) (λ_ _=>hp) (by rw[LZ];exact A1) (by rw[LZ];exact A2) (λi hi q w hw=>nM hp.inpv hi q w hw) (λi hi q w hw=>nM hp.statev hi q w hw) λnets seen hn hS hsl hseen=>?_;refine⟨by omega,by omega,?_⟩;refine aB (λs=>s.1.length=l.length/\∀j,j<s.2->j<l.length->s.1[j]?=(l.map (jf c p))[j]?) (λs=>l.length+64-s.2) (λr=>r=l.map (jf c p)) ?_ ⟨Mw ..,λj hj=>absurd hj (Mu _)⟩ λr hr=>⟨by rw[hr,LZ],by rw[hr];exact h⟩;rintro k ⟨out,fr⟩ nx ⟨ho1,ho2⟩ hnx hk;dsimp only at ho1 ho2;refine⟨λq=>?_,λq=>hk _ ?_⟩;rotate_left
 .have q:l.length<=fr:=bC.1 q
  show out=_
  apply MH;intro j;by_cases hj:j<l.length
  .exact ho2 j (by omega) hj
  .rw[Mk (by omega),Mk (by rw[LZ];omega)]
 have q:fr<l.length:=aX.1 q
 have hpl:((l.take (min (fr+64) l.length)).drop fr).length=min (fr+64) l.length-fr:=by rw[No,L8];omega
 have hpg:∀i,i<min (fr+64) l.length-fr->((l.take (min (fr+64) l.length)).drop fr)[i]?=l[fr+i]?:=λi hi=>by rw[Nq,MX,if_pos (by omega)]
 generalize hpt:(l.take (min (fr+64) l.length)).drop fr=part at hpl hpg;have hsub:∀f∈part,StuckOk c f:=λf m=>hl f (OR (Qh (by rw[hpt];exact m)));refine fK (λr:List Bool=>r.length=l.length/\∀j,j<fr+64->j<l.length->r[j]?=(l.map (jf c p))[j]?) (λk2 hk2=>⟨by omega,by omega,O8 _ _,?_⟩) λr hr=>⟨by omega,hnx _ hr (by dsimp only;omega)⟩;refine⟨by omega,λf m=>⟨(hsub f m).model,by have:=(hsub f m).value;omega⟩,λmN mP g11 g7 g8 F=>?_⟩
 have h64:part.length<=64:=by omega
 refine DS C (Ia ho h64 hsub F) (p:=λ_=>p) (λ_ _=>hp) (by rw[LZ];exact A1) (by rw[LZ];exact A2) (λi hi q w hw=>nM hp.inpv (by omega) q w hw) (λi hi q w hw=>nM hp.statev (by omega) q w hw) λnets2 seen2 hn2 hS2 hsl2 hseen2=>?_;refine rC (by dsimp only;omega) (by dsimp only;omega) λr hr=>?_
 have key:∀(i:Nat) (f:Flt),part[i]?=some f->r.testBit i=jf c p f:=λi f hf=>by
  have hi:=ai hf
  have e1:ntL part i=ntF f:=by unfold ntL;rw[hf]
  have e2:pnL part i=pnF f:=by unfold pnL;rw[hf]
  have U:=hS2 i hi;have V:=hseen2 i hi;rw[e1,e2] at U;rw[e2] at V;rw[hr i (by omega)];dsimp only;rw[hseen i (by omega),V];exact AA C hp (hsub f (LS hf)) (hS i (by omega)) U
 refine bM (λs=>s.1.length=l.length/\s.2<=part.length/\∀j,j<fr+s.2->j<l.length->s.1[j]?=(l.map (jf c p))[j]?) (λs=>part.length-s.2) ?_ ⟨ho1,L1 _,ho2⟩;rintro⟨out,i⟩ nx2 ⟨hl2,hi2,hI⟩ hnx2;dsimp only at hl2 hi2 hI;refine⟨λq2=>?_,λq2=>hk2 _ ⟨hl2,λj h1 h2=>?_⟩⟩
 .have q2:i<part.length:=aX.1 q2;obtain⟨f,hf⟩:=aA q2;have hf2:=hf;rw[hpg i (by omega)] at hf2;obtain⟨x,hx⟩:=aA (show fr+i<out.length by omega);refine⟨by omega,by omega,by omega,x,hx,by omega,hnx2 _ ⟨by simp[hl2],q2,λj h1 h2=>?_⟩ (by dsimp only;omega)⟩;dsimp only at h1 ⊢;rw[Ko,key i f hf,Mp];by_cases e:fr+i=j
  .subst e;rw[if_pos rfl,if_pos (by omega),L7,hf2];rfl
  .rw[if_neg e];exact hI j (by omega) h2
 .have q2:part.length<=i:=bC.1 q2;exact hI j (by omega) h2
end Go.Proofs.YtglgdkineobbeaaGreatDoor

namespace Go.Abs
section
variable {P:Program} {ρ:Operand->Value} {d:Option Tmp} {ty:TypeId} {pos:String} {af:Array Edge} {gd:Option (Nat×Bool)} {t yt:TypeId} {x y:Operand} {K:Value->Prop}
theorem AE{a b:Nat}(h:a*b<2^64)(k:K (.int .u64 (LQ (a*b))))(hx:ρ x=.int .u64 (LQ a):=by exact rfl)(hy:ρ y=.int .u64 (LQ b):=by exact rfl) :
  ∃v,aC P ρ { dst:=d,op:=.binOp .mul t x y yt,type:=ty,pos:=pos,after:=af,guard:=gd }=some v/\K v:=by
 refine⟨_,zO hx hy ?_,k⟩;simp only[fF,LR,N5,true_and]
 have e:LQ a*LQ b=LQ (a*b):=by simp
 rw[e];exact pA h
theorem Dx{a b:Nat}(h:a+b<2^64)(k:K (.int .u64 (LQ (a+b))))(hx:ρ x=.int .u64 (LQ a):=by exact rfl)(hy:ρ y=.int .u64 (LQ b):=by exact rfl) :
 ∃v,aC P ρ { dst:=d,op:=.binOp .add t x y yt,type:=ty,pos:=pos,after:=af,guard:=gd }=some v/\K v:=⟨_,zu hx hy h,k⟩
theorem CP{a:Nat}(h:a<2^32)(k:K (.int .u64 (LQ a)))(hx:ρ x=.int .u64 (LQ a):=by exact rfl)(hy:ρ y=.int .u64 (LQ 4294967295):=by exact rfl) :
  ∃v,aC P ρ { dst:=d,op:=.binOp .and t x y yt,type:=ty,pos:=pos,after:=af,guard:=gd }=some v/\K v:=by
 refine jt (a:=a) (b:=4294967295) ?_ hx hy
 have e:aK a 4294967295=a:=by
  unfold aK;rw[show (4294967295:Nat)=2^32-1 by decide,BitVec.toNat_and,Pg,Pg,Om (by omega:a<2^64),Om (by decide:2^32-1<2^64),Qe];exact Om h
 rw[e];exact k
theorem wD{a:Nat}(h:a<2^32)(k:K (.int .u64 (LQ 0)))(hx:ρ x=.int .u64 (LQ a):=by exact rfl)(hy:ρ y=.int .u64 (LQ 32):=by exact rfl) :
  ∃v,aC P ρ { dst:=d,op:=.binOp .shr t x y yt,type:=ty,pos:=pos,after:=af,guard:=gd }=some v/\K v:=by
 refine CF (a:=a) (b:=32) (W:=True) ⟨by decide,trivial⟩ (λ_=>?_) hx hy;rw[Q1 h];exact k
end
end Go.Abs
namespace Go.Proofs.YtglgdkineobbeaaGreatDoor
open Go.Abs
set_option maxRecDepth 100000
structure Ldg where
 first:List Int
 count:List Nat
 tests:Nat
def tT(x:Ldg):Value:=.agg ⟨[ae 1 z64 x.first,ae 1 i64 x.count,i64 x.tests]⟩
theorem D6(x:Ldg):ag (cl (tT x)):=ag.cons (cg λ_=>ag.cons (aq.flat rfl) ag.nil) (ag.cons (cg λ_=>ag.cons (aq.flat rfl) ag.nil) (ag.cons (aq.flat rfl) ag.nil))
theorem BK(x:Ldg):aq (tT x):=aq.agg (D6 x)
theorem Da{y:Nat}(hy:y<2^32){h0:Heap}(hB:aH vars h0):∃r:Nat×Nat,r=(0,y)/\al Tryz.prog NG 172 ⟨[n64 1,n64 y]⟩ h0 ((λ(r:(Nat×Nat))=>MD ⟨[n64 (r.1),n64 (r.2)]⟩) r) h0:=by
 refine fw Tryz.func172 hB (enc:=λ(r:(Nat×Nat))=>MD ⟨[n64 (r.1),n64 (r.2)]⟩) (λr=>aq.tup (ag.cons (aq.flat rfl) (ag.cons (aq.flat rfl) ag.nil))) λO=>?_;conv=>whnf
 refine gX ?_;refine CP (a:=1) (by decide) ?_;refine gX ?_;refine wD (a:=1) (by decide) ?_;refine gX ?_;refine CP (a:=y) hy ?_;refine gX ?_;refine wD (a:=y) hy ?_;refine gX ?_;refine AE (a:=1) (b:=y) (by omega) ?_;refine gX ?_;refine AE (a:=0) (b:=y) (by omega) ?_;refine gX ?_;refine wD (a:=1*y) (by omega) ?_;refine gX ?_;refine Dx (a:=0*y) (b:=0) (by omega) ?_;refine gX ?_;refine CP (a:=0*y+0) (by omega) ?_;refine gX ?_;refine wD (a:=0*y+0) (by omega) ?_;refine gX ?_;refine AE (a:=1) (b:=0) (by omega) ?_;refine gX ?_;refine Dx (a:=0*y+0) (b:=1*0) (by omega) ?_;refine gX ?_;refine AE (a:=0) (b:=0) (by omega) ?_;refine gX ?_;refine Dx (a:=0*0) (b:=0) (by omega) ?_;refine gX ?_;refine wD (a:=0*y+0+1*0) (by omega) ?_;refine gX ?_;refine Dx (a:=0*0+0) (b:=0) (by omega) ?_;refine gX ?_;refine AE (a:=1) (b:=y) (by omega) ?_;refine gX ?_;exact⟨(0*0+0+0,1*y),by rw[Oh],O.ext,λ_ _=>VLe.refl _ _⟩
def sj(x y:Nat)(K:Nat×Nat->Prop):Prop:=x=1/\y<2^32/\K (0,y)
theorem wA{x y:Nat}{K:Nat×Nat->Prop}(hm:sj x y K){h0:Heap}(hB:aH vars h0):∃r,K r/\al Tryz.prog NG 151 ⟨[n64 x,n64 y]⟩ h0 ((λ(r:(Nat×Nat))=>MD ⟨[n64 (r.1),n64 (r.2)]⟩) r) h0:=by
 obtain⟨rfl,hy,hk⟩:=hm
 refine fw Tryz.func151 hB (enc:=λ(r:(Nat×Nat))=>MD ⟨[n64 (r.1),n64 (r.2)]⟩) (λr=>aq.tup (ag.cons (aq.flat rfl) (ag.cons (aq.flat rfl) ag.nil))) λO=>?_;conv=>whnf
 refine gX ?_;refine bf ?_;refine gX ?_;refine ca (Da hy O.has) λr hr=>?_;subst hr;refine gX ?_;exact⟨(0,y),hk,O.ext,λ_ _=>VLe.refl _ _⟩
set_option maxHeartbeats 8000000
def iB(p0:(List (List Nat)))(p1:Nat)(p2:Nat)(K:Bool->Prop):Prop :=
 aw (α:=Bool) (λk2=>((ltN p1 0)=true->k2 true)/\((ltN p1 0)=false->((!ltN p1 p0.length)=true->k2 true)/\((!ltN p1 p0.length)=false->((ltN p2 0)=true->k2 true)/\((ltN p2 0)=false->0<64/\p2<2^63/\∃x3,p0[p1]?=some x3/\k2 (!ltN (p2/64) x3.length))))) (λv1=>(v1=true->K false)/\(v1=false->∃x4,p0[p1]?=some x4/\0<64/\p2<2^63/\∃x5,x4[(p2/64)]?=some x5/\0<64/\(p2%64)<=63/\K (eqN ((x5/2^(p2%64))%2^1) 1)))
theorem se{p0:(List (List Nat))}{p1:Nat}{p2:Nat}{K:Bool->Prop}(hm:iB p0 p1 p2 K){h0:Heap}(hB:aH vars h0):∃r,K r/\al Tryz.prog NG 51 ⟨[(ae 1 (ae 1 n64)) p0,i64 p1,i64 p2]⟩ h0 (L0 r) h0:=by
 unfold iB at hm
 refine fw Tryz.func51 hB (enc:=L0) (λr=>aq.flat rfl) λO=>?_;conv=>whnf
 apply Cs;conv=>whnf
 apply Cs;refine gH ?_
 apply Cs;conv=>whnf
 refine jn hm 42 [0,1,2] (λs=>s) (λv1 h=>Own vars h0 [] h) (λv1=>[(28,(.bool v1))]) (λhm=>?_) ?_
 .refine gX ?_;refine br hm (λhm=>?_) λhm=>?_
  .refine gX ?_;refine bt ?_;refine gH ?_;refine bt ?_;refine gH ?_;exact jx true hm O
  .refine gX ?_;refine br hm (λhm=>?_) λhm=>?_
   .refine gX ?_;refine bt ?_;refine gH ?_;exact jx true hm O
   .refine gX ?_;refine br hm (λhm=>?_) λhm=>?_
    .refine gX ?_;exact jx true hm O
    .refine gX ?_;refine Ff hm λhm=>?_;refine gH ?_;refine atF hm λx3 hx3 hm=>?_;refine gH ?_;exact jx (!ltN (p2/64) x3.length) hm O
 .clear hm;rintro v1 base h hm O;refine gX ?_;refine br hm (λhm=>?_) λhm=>?_
  .refine gX ?_;exact fe hm O
  .refine gX ?_;refine atF hm λx4 hx4 hm=>?_;refine gH ?_;refine Ff hm λhm=>?_;refine gH ?_;refine atF hm λx5 hx5 hm=>?_;refine gH ?_;refine AF hm λhm=>?_;refine gH ?_;refine JG hm λhm=>?_;refine gH ?_;refine Ag 1 1 ?_;refine gX ?_;exact fe hm O
def kc(p0:(List Int))(p1:Nat)(K:(List Int)->Prop):Prop :=
 aw (α:=Unit) (λk1=>((ltN p1 0)=true->False)/\((ltN p1 0)=false->k1 ())) (λ_=>p0.length<2^63/\p1<2^63/\sj p0.length p1 (λr2=>aw (α:=Unit) (λk3=>aw (α:=Bool) (λk5=>((ltN 0 r2.1)=true->k5 true)/\((ltN 0 r2.1)=false->k5 (ltN 9223372036854775807 r2.2))) (λv4=>(v4=true->False)/\(v4=false->k3 ()))) (λ_=>r2.2<2^63/\8*r2.2<=2^48/\r2.2<2^63/\0+r2.2<=(LY r2.2 (0:Int)).length/\aw (α:=(List Int)) (λk9=>aF (S:=((List Int)×Nat)) (λ(v10,v11) nx12=>((ltN v11 r2.2)=true->v11<=r2.2/\v11<=r2.2/\v11+(r2.2-v11)<=v10.length/\v11<=v10.length/\v11+(min (r2.2-v11) (v10.take v11).length)<2^63/\nx12 ((nX v10 v11 (r2.2-v11) (v10.take v11)),(v11+(min (r2.2-v11) (v10.take v11).length))))/\((ltN v11 r2.2)=false->k9 v10)) ((nX (LY r2.2 (0:Int)) 0 r2.2 p0),(min r2.2 p0.length))) (λv8=>r2.2=v8.length/\K v8))))
theorem tL{p0:(List Int)}{p1:Nat}{K:(List Int)->Prop}(hm:kc p0 p1 K){h0:Heap}(hB:aH vars h0):∃v h',al Tryz.prog NG 101 ⟨[(ae 1 z64) p0,i64 p1]⟩ h0 v h'/\mz vars h0 K (λ(r:(List Int)) a=>ib a (r.map z64)) (λ(r:(List Int))=>r) z64 false v h':=by
 unfold kc at hm
 refine fg Tryz.func101 (Q:=mz vars h0 K (λ(r:(List Int)) a=>ib a (r.map z64)) (λ(r:(List Int))=>r) z64 false) ?_;have O:=Own.start hB;conv=>whnf
 apply Cs;conv=>whnf
 apply Cs;refine gH ?_;refine jn hm 48 [0,1] (λs=>s) (λ_ h=>Own vars h0 [] h) (λ_=>[]) (λhm=>?_) ?_
 .refine gX ?_;refine br hm (λhm=>?_) λhm=>?_
  .refine gX ?_;exact Nn hm
  .refine gX ?_;exact jx () hm O
 .clear hm;rintro _ base h hm O;refine gX ?_;refine aCv hm KK λhm=>?_;refine gH ?_;refine aCv hm KK λhm=>?_;refine gH ?_;refine ca (wA hm O.has) λr2 hm=>?_;refine gH ?_;refine jn hm 48 [0,6] (λs=>s) (λ_ h=>Own vars h0 [] h) (λ_=>[]) (λhm=>?_) ?_
  .refine jn hm 48 [0,6] (λs=>s) (λv4 h=>Own vars h0 [] h) (λv4=>[(26,(.bool v4))]) (λhm=>?_) ?_
   .refine gX ?_;refine br hm (λhm=>?_) λhm=>?_
    .refine gX ?_;exact jx true hm O
    .refine gX ?_;exact jx (ltN 9223372036854775807 r2.2) hm O
   .clear hm;rintro v4 base h hm O;refine gX ?_;refine br hm (λhm=>?_) λhm=>?_
    .refine gX ?_;exact Nn hm
    .refine gX ?_;exact jx () hm O
  .clear hm;rintro _ base h hm O;refine gX ?_;refine aCv hm Dy λhm=>?_;refine gH ?_;refine O.mkL (enc:=z64) 8 1 0 hm λg6 h O hm=>?_;refine gX ?_;refine O.JI (enc:=z64) (l:=(LY r2.2 (0:Int))) (src:=p0) (s:=1) (o:=0) (.head _) rfl rfl (by decide) rfl (SrcOk.fl rfl) (λ_=>rfl) (by decide) (λ_=>rfl) hm.1 λh O=>?_;refine gH ?_;replace hm:=hm.2;refine jn hm 48 [7] (λs=>s) (λv8 h=>Own vars h0 [(sG g6 z64 v8)] h) (λv8=>[]) (λhm=>?_) ?_
   .refine gX ?_;refine lw 48 [7] (σ:=((List Int)×Nat)) (λs=>s) (λ(v10,v11) h=>Own vars h0 [(sG g6 z64 v10)] h) (λ(v10,v11)=>[(8,(i64 v11))]) ((nX (LY r2.2 (0:Int)) 0 r2.2 p0),(min r2.2 p0.length)) hm O ?_;clear hm;rintro⟨v10,v11⟩ nx12 base h hm O;refine gX ?_;refine br hm (λhm=>?_) λhm=>?_
    .refine gX ?_;refine Iu (s:=1) (m:=v11) rfl rfl rfl rfl hm.1 ?_;refine gH ?_;replace hm:=hm.2;refine Jp (s:=1) (m:=v11) rfl rfl rfl rfl hm.1 ?_;refine gH ?_;replace hm:=hm.2;refine O.JI (enc:=z64) (l:=v10) (src:=(v10.take v11)) (s:=1) (o:=v11) (.head _) rfl rfl rfl rfl (SrcOk.LI O.i0 rfl (λ_=>rfl) hm.2.1) (λ_=>rfl) (by decide) (λ_=>rfl) hm.1 λh O=>?_;refine gH ?_;replace hm:=hm.2.2;refine aJ hm λhm=>?_;refine gH ?_;exact jx ((nX v10 v11 (r2.2-v11) (v10.take v11)),(v11+(min (r2.2-v11) (v10.take v11).length))) hm O
    .refine gX ?_;exact jx v10 hm O
   .clear hm;rintro v8 base h hm O;refine gX ?_;obtain⟨hn13,hm⟩:=hm;exact⟨v8,some g6,hm,VLe.of_eq (Jz (l:=v8) (enc:=z64) (g:=g6) hn13),(λe=>nomatch e),(λe=>nomatch e),O.sel [0] (by decide)⟩
def recAt(hit:Nat->Bool)(most:Nat):Nat->Int×Nat
 |0=>(-1,0)
 |i+1=>if (recAt hit most i).2<most/\hit i=true then (if (recAt hit most i).2=0 then LQ i else (recAt hit most i).1,(recAt hit most i).2+1) else recAt hit most i
theorem ec(hit:Nat->Bool)(most i:Nat):recAt hit most (i+1)=if (recAt hit most i).2<most/\hit i=true then (if (recAt hit most i).2=0 then LQ i else (recAt hit most i).1,(recAt hit most i).2+1) else recAt hit most i:=rfl
theorem rI(hit:Nat->Bool)(most:Nat):∀i,(recAt hit most i).2<=i
 |0=>LV _
 |i+1=>by
  have:=rI hit most i;rw[ec];split
  .dsimp only;omega
  .omega
theorem um{f g:Nat->Bool}(most:Nat):∀n,(∀i,i<n->f i=g i)->recAt f most n=recAt g most n
 |0,_=>rfl
 |n+1,h=>by
  have ih:=um most n λi hi=>h i (by omega);rw[ec,ec,ih,h n (ML n)]
theorem nP{hit:Nat->Bool}{most:Nat}(hm:0<most):∀n,((recAt hit most n).2=0/\(recAt hit most n).1 = -1/\∀i,i<n->hit i=false)\/(0<(recAt hit most n).2/\∃j,j<n/\hit j=true/\(recAt hit most n).1=LQ j/\∀i,i<j->hit i=false)
 |0=>.inl ⟨rfl,rfl,λi hi=>absurd hi (Mu i)⟩
 |n+1=>by
  rcases nP hm n with⟨h1,h2,h3⟩|⟨h1,j,h2,h3,h4,h5⟩
  .by_cases c:hit n=true
   .refine .inr ?_;rw[ec]
    have hlt:(recAt hit most n).2<most:=by rw[h1];exact hm
    rw[if_pos ⟨hlt,c⟩,if_pos h1];exact⟨Qw _,n,ML n,c,rfl,h3⟩
   .refine .inl ?_;rw[ec];rw[if_neg (λq=>c q.2)];refine⟨h1,h2,λi hi=>?_⟩;by_cases e:i=n
    .subst e;simpa using c
    .exact h3 i (by omega)
  .refine .inr ?_;rw[ec];split
   .rw[if_neg (by omega)];exact⟨Qw _,j,by omega,h3,h4,h5⟩
   .exact⟨h1,j,by omega,h3,h4,h5⟩
def zT(c:Circ)(ts:List Pat)(f:Flt)(i:Nat):Bool:=jf c (ts.getD i ⟨[],[]⟩) f
def cB(c:Circ)(l:List Flt)(ts:List Pat)(most:Nat):Ldg:=⟨l.map λf=>(recAt (zT c ts f) most ts.length).1,l.map λf=>(recAt (zT c ts f) most ts.length).2,ts.length⟩
theorem DD{c:Circ}{ts:List Pat}{f:Flt}{v most:Nat}(h:rU c ts f v)(h64:ts.length<=64):recAt v.testBit most ts.length=recAt (zT c ts f) most ts.length :=
 um most _ λi hi=>by rw[h i (by omega),decide_eq_true hi,OX];rfl
def nZ(c:Circ)(l:List Flt)(ts:List Pat)(most:Nat)(K:Ldg->Prop):Prop :=
 Cir c/\(∀f∈l,StuckOk c f)/\(∀p∈ts,PatOk c p)/\0<l.length/\l.length<=65536/\ts.length<=64/\0<most/\most<2^62/\K (cB c l ts most)
def Kl:Flt:=⟨0,⟨0,0⟩,0,0⟩
def gq{α:Type}(xs:List α)(d:α)(i:Nat):List α:=xs.take i++LY (xs.length-i) d
theorem yT{α:Type}{xs:List α}{d:α}{i:Nat}(h:i<=xs.length):(gq xs d i).length=xs.length:=by
 unfold gq;rw[Ml,L8,Mw];omega
theorem qx{α:Type}(xs:List α)(d:α):gq xs d 0=LY xs.length d:=by unfold gq;rfl
theorem sI{α:Type}(xs:List α)(d:α):gq xs d xs.length=xs:=by unfold gq;rw[Ng,Nx];simp
theorem tu{α:Type}{xs:List α}{d:α}{i:Nat}(h:i<xs.length):(gq xs d i)[i]?=some d:=by
 unfold gq;rw[Mg (by rw[L8];omega),L8,Nb (by omega),Nx,Mt,if_pos (by omega)]
theorem sH{α:Type}{xs:List α}{d x:α}{i:Nat}(h:xs[i]?=some x):(gq xs d i).set i x=gq xs d (i+1):=by
 have hi:=ai h;unfold gq;apply MH;intro j;rw[Mp];by_cases e:i=j
 .subst e;rw[if_pos rfl,if_pos (by rw[Ml,L8,Mw];omega),Mb (by rw[L8];omega),MX,if_pos (by omega),h]
 .rw[if_neg e];by_cases c:j<i
  .rw[Mb (by rw[L8];omega),Mb (by rw[L8];omega),MX,MX,if_pos c,if_pos (by omega)]
  .rw[Mg (by rw[L8];omega),Mg (by rw[L8];omega),L8,L8,Mt,Mt];by_cases c2:j<xs.length
   .rw[if_pos (by omega),if_pos (by omega)]
   .rw[if_neg (by omega),if_neg (by omega)]
set_option maxHeartbeats 8000000
theorem IC{n:Nat}(hn:n<=65536){v:Int}{K:List Int->Prop}(h:K (LY n v)):kc [v] n K:=by
 unfold kc;refine cQ (a:=()) (λg=>⟨λq=>absurd (aX.1 q) (Mu _),λ_=>g⟩) ⟨by rw[L6];omega,by omega,rfl,by omega,?_⟩;refine cQ (a:=()) (λg=>cQ (a:=false) (λg2=>⟨λq=>absurd (aX.1 q) (Ot 0),λ_=>?_⟩) ⟨(λq=>by cases q),λ_=>g⟩) ?_
 .have e:ltN 9223372036854775807 n=false:=bC.2 (by omega);exact (congrArg _ e).mpr g2
 refine⟨by show n<_;omega,by show 8*n<=_;omega,by show n<_;omega,by show 0+n<=(LY n (0:Int)).length;simp,?_⟩;refine aB (λs=>s.1.length=n/\s.2<=n/\(0<n->0<s.2)/\s.1.take s.2=LY s.2 v) (λs=>n-s.2) (λr=>r=LY n v) ?_ ⟨?_,?_,?_,?_⟩ ?_
 .rintro k ⟨l,i⟩ nx ⟨hl,hi,hp,ht⟩ hnx hk;dsimp only at hl hi hp ht;refine⟨λq=>?_,λq=>hk _ ?_⟩
  .have q:i<n:=aX.1 q;have hi0:=hp (by omega)
   have htl:(l.take i).length=i:=by rw[L8];omega
   dsimp only;rw[htl];refine⟨by omega,by omega,by omega,by omega,by omega,hnx _ ⟨?_,?_,?_,?_⟩ ?_⟩
   .dsimp only;unfold nX;rw[htl];simp only[Ml,L8,No];omega
   .dsimp only;omega
   .intro _;dsimp only;omega
   .dsimp only;unfold nX;rw[htl,ht];rw[<- MC,N0 (by simp only[Ml,L8,Mw];omega)];rw[Mc (by simp only[Ml,L8,Mw];omega)];rw[List.take_replicate,List.replicate_append_replicate];congr 1;omega
   .dsimp only;omega
  .have q:n<=i:=bC.1 q
   have:i=n:=by omega
   subst this;rw[Mc (by omega)] at ht;exact ht
 .dsimp only;unfold nX;simp only[Ml,L8,No,Mw,L6];omega
 .dsimp only;omega
 .intro h0;dsimp only;rw[L6];omega
 .dsimp only;unfold nX
  cases n with
  |zero=>rfl
  |succ n =>
   have:min (n+1) [v].length=1:=by rw[L6];omega
   rw[this];rfl
 .rintro _ rfl;exact⟨by simp,h⟩
theorem Fk{n m:Nat}(hp:0<n)(hn:n<=65536){h0 h:Heap}{S:List Slot}(O:Own vars h0 S h) :
  ∃u h',al Tryz.prog NG 47 ⟨[i64 n,i64 m]⟩ h u h'/\∃gF gC:Nat,u=.agg ⟨[.slice (some ⟨gF,0,none⟩) n n,.slice (some ⟨gC,0,none⟩) n n,i64 m]⟩/\Own vars h0 ((some gF,.cells (ah ((LY n (-1:Int)).map z64)) false)::(some gC,.cells (ah ((LY n 0).map i64)) false)::S) h':=by
 refine fg Tryz.func47 ?_;conv=>whnf
 refine gX ?_;refine O.new (aj (l:=[.slice none 0 0,.slice none 0 0,i64 0]) rfl rfl rfl) λg4 h O=>?_;refine gH ?_
 apply Cs;conv=>whnf
 apply Cs;refine gH ?_;refine O.eA (l:=([-1]:List Int)) (enc:=z64) (s:=1) (z:=z64 0) rfl rfl (by kernel_rfl) (by kernel_rfl) rfl rfl rfl rfl (λ_=>rfl) λgb h O=>?_;refine gH ?_;refine O.KB (la:=([-1]:List Int)) (enc':=z64) (.head _) rfl (λ_=>rfl) (i:=0) (l:=[ae 1 z64 [-1],i64 n]) rfl (fk Tryz.func101) (λh2 q=>LLe.cons q (LLe.cons (VLe.refl _ _) (LLe.nil _))) λh O=>?_;refine caO (tL (K:=λr=>r=LY n (-1)) (IC (v := -1) hn rfl) O.has) O λr a h ex ha _ O hr=>?_;subst hr
 have ev:ib a ((LY n (-1:Int)).map z64)=.slice (a.map λg=>⟨g,0,none⟩) n n:=by unfold ib;simp
 dsimp only;rw[ev]
 obtain⟨gF,rfl⟩:∃g,a=some g:=by
  cases a with
  |some g=>exact⟨g,rfl⟩
  |none =>
   have:=congrArg QO (ha rfl);rw[Mw] at this;exact absurd this (by simp;omega)
 refine gH ?_;refine⟨.inr (by kernel_rfl),?_⟩;refine gH ?_;refine O.xa (enc:=i64) (z:=0) (b:=8) (s:=1) (n:=n) rfl rfl rfl rfl rfl (by decide) (by kernel_rfl) rfl rfl (by omega) (by omega) λgC h O=>?_;refine gH ?_;refine O.stC 3 (.tail _ (.tail _ (.tail _ (.head _)))) [.slice (some ⟨gF,0,none⟩) n n,.slice (some ⟨gC,0,none⟩) n n,i64 m] λh O=>?_;refine⟨.inl (by kernel_rfl),?_⟩;refine gX ?_;refine⟨_,aI rfl rfl O.i3 rfl rfl (lbE rfl) rfl,?_⟩;exact⟨gF,gC,rfl,O.Gc [_,_,_,_] [1,0] (by decide)⟩
theorem FQ{r:List (List Nat)}{k i v:Nat}(hr:r[k]?=some [v])(hi:i<64){K:Bool->Prop}(h:K (v.testBit i)):iB r k i K:=by
 unfold iB;have hk:=ai hr
 have e0:i/64=0:=by omega
 have e1:i%64=i:=by omega
 refine cQ (a:=false) (λg=>⟨λq=>absurd (aX.1 q) (Mu _),λ_=>⟨λq=>?_,λ_=>⟨λq=>absurd (aX.1 q) (Mu _),λ_=>⟨by decide,by omega,[v],hr,?_⟩⟩⟩⟩) ⟨(λq=>by cases q),λ_=>⟨[v],hr,by decide,by omega,v,by rw[e0];rfl,by decide,by omega,?_⟩⟩
 .have:=aX.2 hk;rw[this] at q;cases q
 .have e:(!ltN (i/64) [v].length)=false:=by rw[e0];rfl
  rw[e];exact g
 .rw[e1]
  have:eqN (v/2^i%2^1) 1=v.testBit i:=by rw[P8,oL]
  rw[this];exact h
theorem H8{r:List (List Nat)}{k i v:Nat}(hr:r[k]?=some [v])(hi:i<64){h0 h:Heap}{S:List Slot}{gt gk:Nat}(O:Own vars h0 S h)(mt:(some gt,.cells [ae 1 (ae 1 n64) r] false)∈S)(mk:(some gk,.cells [i64 k] false)∈S) :
  ∃u h',al Tryz.prog NG 50 ⟨[i64 i,.pointer (some ⟨gt,0,none⟩),.pointer (some ⟨gk,0,none⟩)]⟩ h u h'/\u=.bool (v.testBit i)/\h'=h:=by
 refine fg Tryz.func50 ?_;conv=>whnf
 refine gX ?_;refine ldO (O.at mt) ?_;refine gH ?_;refine ldO (O.at mk) ?_;refine gH ?_;refine ca (se (K:=λb=>b=v.testBit i) (FQ hr hi rfl) O.has) λb hb=>?_;refine gX ?_;exact⟨congrArg L0 hb,rfl⟩
theorem AY{r:List (List Nat)}{k v n fault most N T:Nat}(hr:r[k]?=some [v])(hn:n<=64)(hmost:most<2^62){F:List Int}{C:List Nat}(hF:F[fault]?=some (-1))(hC:C[fault]?=some 0)(hFN:N=F.length)(hCN:N=C.length){h0 h:Heap}{S:List Slot}{gt gk gx gF gC:Nat}
  (mt:(some gt,.cells [ae 1 (ae 1 n64) r] false)∈S) (mk:(some gk,.cells [i64 k] false)∈S) (mx:(some gx,.cells [.slice (some ⟨gF,0,none⟩) N N,.slice (some ⟨gC,0,none⟩) N N,i64 T] false)∈S)
  (O:Own vars h0 ((some gF,.cells (ah (F.map z64)) false)::(some gC,.cells (ah (C.map i64)) false)::S) h) :
  ∃u h',al Tryz.prog NG 49 ⟨[.pointer (some ⟨gx,0,none⟩),i64 fault,i64 0,i64 n,i64 most,.func (.func 50) ⟨[]⟩ ⟨[.pointer (some ⟨gt,0,none⟩),.pointer (some ⟨gk,0,none⟩)]⟩]⟩ h u h'/\u=.tuple ⟨[]⟩ /\
   Own vars h0 ((some gF,.cells (ah ((F.set fault (recAt v.testBit most n).1).map z64)) false)::(some gC,.cells (ah ((C.set fault (recAt v.testBit most n).2).map i64)) false)::S) h':=by
 have hFl:=ai hF;refine fg Tryz.func49 ?_;refine gX ?_;refine lM hM (nn:=58) (by kernel_rfl) (σ:=Nat) (λi h=>i<=n/\Own vars h0 ((some gF,.cells (ah ((F.set fault (recAt v.testBit most i).1).map z64)) false)::(some gC,.cells (ah ((C.set fault (recAt v.testBit most i).2).map i64)) false)::S) h)
  (λi=>[(0,.pointer (some ⟨gx,0,none⟩)),(1,i64 fault),(2,i64 0),(4,i64 most),(5,.func (.func 50) ⟨[]⟩ ⟨[.pointer (some ⟨gt,0,none⟩),.pointer (some ⟨gk,0,none⟩)]⟩),(13,i64 n),(14,i64 i)]) (λi=>n-i) rfl ⟨0,⟨L1 _,?_⟩,rfl,rfl,rfl,rfl,rfl,rfl,rfl,trivial⟩ ?_
 .have e1:F.set fault (recAt v.testBit most 0).1=F:=uz hF;have e2:C.set fault (recAt v.testBit most 0).2=C:=uz hC;rw[e1,e2];exact O
 clear O;rintro i base h ⟨hi,O⟩;obtain⟨⟨a,b⟩,hs⟩:∃s,recAt v.testBit most i=s:=⟨_,rfl⟩;have hb:=rI v.testBit most i;rw[hs] at O hb;dsimp only at O hb;have hFj:(F.set fault a)[fault]?=some a:=OD hFl;have hCj:(C.set fault b)[fault]?=some b:=OD (by omega);refine gX ?_;by_cases hlt:i<n
 .refine bt ?_ (congrArg L0 (by show ltN i n=true;rw[bj];simp;omega));refine gX ?_;refine ldO (O.at (.tail _ (.tail _ mx))) ?_;refine gH ?_;refine cb (s:=1) (j:=fault) rfl rfl rfl rfl (by omega) ?_;refine gH ?_;refine ldE (s:=1) (i:=0) O.i1 hCj ?_;refine gH ?_;by_cases hlm:b<most
  .refine bt ?_ (congrArg L0 (by show ltN b most=true;rw[bj];simp;omega));refine gH ?_;obtain⟨u,h',cd,rfl,rfl⟩:=H8 hr (by omega:i<64) O (.tail _ (.tail _ mt)) (.tail _ (.tail _ mk));refine⟨_,_,cd,?_⟩;refine gX ?_
   have hsucc:v.testBit i=true->recAt v.testBit most (i+1)=(if b=0 then LQ i else a,b+1):=λht=>by
    rw[ec,hs,if_pos ⟨hlm,ht⟩]
   have hsame:v.testBit i=false->recAt v.testBit most (i+1)=(a,b):=λht=>by
    rw[ec,hs,if_neg (λq=>by rw[ht] at q;cases q.2)]
   refine br (b:=v.testBit i) ⟨id,id⟩ (λht=>?_) λhf=>?_
   .refine gX ?_;refine ldO (O.at (.tail _ (.tail _ mx))) ?_;refine gH ?_;refine cb (s:=1) (j:=fault) rfl rfl rfl rfl (by omega) ?_;refine gH ?_;refine ldE (s:=1) (i:=0) O.i1 hCj ?_;refine gX ?_;by_cases hb0:b=0
    .refine bt ?_ (congrArg L0 (by show eqN b 0=true;rw[oL];simp;omega));refine gX ?_;refine ldO (O.at (.tail _ (.tail _ mx))) ?_;refine gH ?_;refine aJ (a:=0) (b:=i) (W:=True) ⟨by omega,trivial⟩ λ_=>?_;refine gH ?_;refine cb (s:=1) (j:=fault) rfl rfl rfl rfl (by omega) ?_;refine gH ?_;refine O.stE (enc:=z64) 1 (.head _) hFj (LQ (0+i)) λh O=>?_;refine gX ?_;refine ldO (O.at (.tail _ (.tail _ mx))) ?_;refine gH ?_;refine cb (s:=1) (j:=fault) rfl rfl rfl rfl (by omega) ?_;refine gH ?_;refine ldE (s:=1) (i:=0) O.i1 hCj ?_;refine gH ?_;refine aJ (a:=b) (b:=1) (W:=True) ⟨by omega,trivial⟩ λ_=>?_;refine gH ?_;refine cb (s:=1) (j:=fault) rfl rfl rfl rfl (by omega) ?_;refine gH ?_;refine O.stE (enc:=i64) 1 (.tail _ (.head _)) hCj (b+1) λh O=>?_;refine gX ?_;refine aJ (a:=i) (b:=1) (W:=True) ⟨by omega,trivial⟩ λ_=>?_;refine gX ?_;refine⟨i+1,by show n-(i+1)<n-i;omega,⟨hlt,?_⟩,rfl,rfl,rfl,rfl,rfl,rfl,rfl,trivial⟩;rw[hsucc ht,if_pos hb0];rw[Rf,Rf,Nu] at O;exact O
    .refine bf ?_ (congrArg L0 (by show eqN b 0=false;rw[oL];simp;omega));refine gX ?_;refine ldO (O.at (.tail _ (.tail _ mx))) ?_;refine gH ?_;refine cb (s:=1) (j:=fault) rfl rfl rfl rfl (by omega) ?_;refine gH ?_;refine ldE (s:=1) (i:=0) O.i1 hCj ?_;refine gH ?_;refine aJ (a:=b) (b:=1) (W:=True) ⟨by omega,trivial⟩ λ_=>?_;refine gH ?_;refine cb (s:=1) (j:=fault) rfl rfl rfl rfl (by omega) ?_;refine gH ?_;refine O.stE (enc:=i64) 1 (.tail _ (.head _)) hCj (b+1) λh O=>?_;refine gX ?_;refine aJ (a:=i) (b:=1) (W:=True) ⟨by omega,trivial⟩ λ_=>?_;refine gX ?_;refine⟨i+1,by show n-(i+1)<n-i;omega,⟨hlt,?_⟩,rfl,rfl,rfl,rfl,rfl,rfl,rfl,trivial⟩;rw[hsucc ht,if_neg hb0];rw[Rf] at O;exact O
   .refine gX ?_;refine aJ (a:=i) (b:=1) (W:=True) ⟨by omega,trivial⟩ λ_=>?_;refine gX ?_;refine⟨i+1,by show n-(i+1)<n-i;omega,⟨hlt,?_⟩,rfl,rfl,rfl,rfl,rfl,rfl,rfl,trivial⟩;rw[hsame hf];exact O
  .refine bf ?_ (congrArg L0 (by show ltN b most=false;rw[bj];simp;omega));refine gX ?_
   have hsame:recAt v.testBit most (i+1)=(a,b):=by
    rw[ec,hs,if_neg (λq=>hlm q.1)]
   refine bf ?_;refine gX ?_;refine aJ (a:=i) (b:=1) (W:=True) ⟨by omega,trivial⟩ λ_=>?_;refine gX ?_;refine⟨i+1,by show n-(i+1)<n-i;omega,⟨hlt,?_⟩,rfl,rfl,rfl,rfl,rfl,rfl,rfl,trivial⟩;rw[hsame];exact O
 .refine bf ?_ (congrArg L0 (by show ltN i n=false;rw[bj];simp;omega));refine gX ?_
  have:i=n:=by omega
  subst this;rw[hs];exact O
set_option maxHeartbeats 8000000
theorem zq{l:List Int}{p:Int->Bool}{i:Nat}{x:Int}(hx:l[i]?=some x)(hpx:p x=true)(hq:∀y∈l.take i,p y=false):(l.take (i+1)).filter (λx => !p x)=l.take i:=by
 rw[lS hx,Ns]
 have:(l.take i).filter (λx => !p x)=l.take i:=RI.2 λy m=>by simp[hq y m]
 rw[this];simp[hpx]
theorem Bu{h0 h:Heap}{S:List Slot}{g:Nat}{l:List Int}{gx most:Nat}{p:Int->Bool}(hl:l.length<2^60)(O:Own vars h0 ((some g,.cells (ah (l.map z64)) false)::S) h)
  (hp:∀x∈l,al Tryz.prog NG 53 ⟨[z64 x,.pointer (some ⟨gx,0,none⟩),FP (i64 most)]⟩ h (.bool (p x)) h) :
  ∃u h',al Tryz.prog NG 102 ⟨[ak 1 (some g) (l.map z64),.func (.func 53) ⟨[]⟩ ⟨[.pointer (some ⟨gx,0,none⟩),FP (i64 most)]⟩]⟩ h u h'/\h'=h/\((u=z64 (-1)/\∀x∈l,p x=false)\/∃i x,u=i64 i/\l[i]?=some x/\p x=true/\∀y∈l.take i,p y=false):=by
 have hgl:(l.map z64).length=l.length:=LZ ..;refine fg Tryz.func102 ?_;refine gX ?_;refine lM hM (nn:=19) (by kernel_rfl) (σ:=Nat) (λi h2=>i<=l.length/\h2=h/\∀y∈l.take i,p y=false)
  (λi=>[(0,ak 1 (some g) (l.map z64)),(1,.func (.func 53) ⟨[]⟩ ⟨[.pointer (some ⟨gx,0,none⟩),FP (i64 most)]⟩),(7,i64 l.length),(8,i64 i)]) (λi=>l.length-i) rfl ⟨0,⟨L1 _,rfl,(λy m=>by cases m)⟩,rfl,rfl,rfl,rfl,trivial⟩ ?_
 rintro i base h2 ⟨hi,rfl,hq⟩;refine gX ?_;by_cases hlt:i<l.length
 .refine bt ?_ (congrArg L0 (by show ltN i l.length=true;rw[bj];simp;omega));refine gX ?_;obtain⟨x,hx⟩:∃x,l[i]?=some x:=⟨_,LU hlt⟩;refine cb (s:=1) (j:=i) rfl rfl rfl rfl (by omega) ?_;refine gH ?_;refine ldE (s:=1) (i:=0) O.i0 hx ?_;refine gH ?_;refine⟨_,_,hp x (LS hx),?_⟩;refine gX ?_;refine br (b:=p x) ⟨id,id⟩ (λht=>?_) λhf=>?_
  .refine gX ?_;exact .inr ⟨i,x,rfl,hx,ht,hq⟩
  .refine gX ?_;refine aJ (a:=i) (b:=1) (W:=True) ⟨by omega,trivial⟩ λ_=>?_;refine gX ?_;refine⟨i+1,by show l.length-(i+1)<l.length-i;omega,⟨hlt,rfl,λy m=>?_⟩,rfl,rfl,rfl,rfl,trivial⟩;rw[lS hx] at m
   rcases MB.1 m with m|m
   .exact hq y m
   .rw[Mm.1 m];exact hf
 .refine bf ?_ (congrArg L0 (by show ltN i l.length=false;rw[bj];simp;omega));refine gX ?_
  have:i=l.length:=by omega
  subst this;rw[Mc (LV _)] at hq;exact .inl ⟨rfl,hq⟩
theorem zA{h0 h:Heap}{S:List Slot}{g:Nat}{l:List Int}{gx most:Nat}{p:Int->Bool}(hl:l.length<2^60)(O:Own vars h0 ((some g,.cells (ah (l.map z64)) false)::S) h)
  (hp:∀x∈l,∀(l':List Int) h,l'.length=l.length->Own vars h0 ((some g,.cells (ah (l'.map z64)) false)::S) h->al Tryz.prog NG 53 ⟨[z64 x,.pointer (some ⟨gx,0,none⟩),FP (i64 most)]⟩ h (.bool (p x)) h) :
  ∃u h',al Tryz.prog NG 52 ⟨[ak 1 (some g) (l.map z64),.func (.func 53) ⟨[]⟩ ⟨[.pointer (some ⟨gx,0,none⟩),FP (i64 most)]⟩]⟩ h u h'/\u=FJ 1 (some g) (l.filter λx => !p x).length l.length /\
   ∃z:List Int,(l.filter (λx => !p x)++z).length=l.length/\Own vars h0 ((some g,.cells (ah ((l.filter (λx => !p x)++z).map z64)) false)::S) h':=by
 have hgl:(l.map z64).length=l.length:=LZ ..;refine fg Tryz.func52 ?_;refine gX ?_;obtain⟨u,h2,cd,rfl,hcase⟩:=Bu hl O λx m=>hp x m l h rfl O;refine⟨_,_,cd,?_⟩
 rcases hcase with⟨rfl,hall⟩|⟨i,x,rfl,hx,hpx,hbef⟩
 .refine gX ?_;refine bt ?_;refine gX ?_
  have e:l.filter (λx => !p x)=l:=RI.2 λy m=>by simp[hall y m]
  rw[e];refine⟨?_,[],by simp,by rw[MZ];exact O⟩;rw[hgl];rfl
 .have hxi:=ai hx;refine gX ?_;refine bf ?_;refine gX ?_;refine aJ (a:=i) (b:=1) (W:=True) ⟨by omega,trivial⟩ λ_=>?_;refine gX ?_;refine lM hM (nn:=42) (by kernel_rfl) (σ:=List Int×Nat×Nat) (λs h=>s.1.length=l.length/\s.2.1<s.2.2/\s.2.2<=l.length/\s.1.take s.2.1=(l.take s.2.2).filter (λx => !p x)/\(∀m,s.2.2<=m->s.1[m]?=l[m]?)/\Own vars h0 ((some g,.cells (ah (s.1.map z64)) false)::S) h)
   (λs=>[(0,ak 1 (some g) (l.map z64)),(1,.func (.func 53) ⟨[]⟩ ⟨[.pointer (some ⟨gx,0,none⟩),FP (i64 most)]⟩),(5,i64 s.2.1),(6,i64 s.2.2)]) (λs=>l.length-s.2.2) rfl ⟨(l,i,i+1),⟨rfl,ML i,hxi,(zq hx hpx hbef).symm,λ_ _=>rfl,O⟩,rfl,rfl,rfl,rfl,trivial⟩ ?_
  clear O;rintro⟨l',k,j⟩ base h ⟨hl',hkj,hj,ht,hs,O⟩;dsimp only at hl' hkj hj ht hs O;refine gX ?_;by_cases hlt:j<l.length
  .refine bt ?_ (congrArg L0 (by show ltN j l.length=true;rw[bj];simp;omega));refine gX ?_;obtain⟨y,hy⟩:∃y,l[j]?=some y:=⟨_,LU hlt⟩;have hy':l'[j]?=some y:=(hs j (LV _)).trans hy;refine cb (s:=1) (j:=j) rfl rfl rfl rfl (by omega) ?_;refine gH ?_;refine ldE (s:=1) (i:=0) O.i0 hy' ?_;refine gX ?_;refine⟨_,_,hp y (LS hy) l' h hl' O,?_⟩;refine gX ?_;refine br (b := !p y) ⟨id,id⟩ (λhy1=>?_) λhy1=>?_
   .refine gX ?_;obtain⟨w,hw⟩:∃w,l'[k]?=some w:=⟨_,LU (by omega)⟩;refine cb (s:=1) (j:=k) rfl rfl rfl rfl (by omega) ?_;refine gH ?_;refine O.stE (enc:=z64) 1 (.head _) hw y λh O=>?_;refine gX ?_;refine aJ (a:=k) (b:=1) (W:=True) ⟨by omega,trivial⟩ λ_=>?_;refine gX ?_;refine aJ (a:=j) (b:=1) (W:=True) ⟨by omega,trivial⟩ λ_=>?_;refine gH ?_;refine⟨(l'.set k y,k+1,j+1),(show l.length-(j+1)<l.length-j by omega),⟨(Nj ..).trans hl',by dsimp only;omega,by dsimp only;omega,?_,λm hm=>?_,O⟩,rfl,rfl,rfl,rfl,trivial⟩
    .show (l'.set k y).take (k+1)=(l.take (j+1)).filter (λx => !p x)
     rw[lS hy,Ns,<- ht,lS (OD (ai hw)),List.take_set_of_le (LV _)];simp[hy1]
    .dsimp only at hm ⊢;rw[Pv (by omega)];exact hs m (by omega)
   .refine gX ?_;refine aJ (a:=j) (b:=1) (W:=True) ⟨by omega,trivial⟩ λ_=>?_;refine gH ?_;refine⟨(l',k,j+1),(show l.length-(j+1)<l.length-j by omega),⟨hl',by dsimp only;omega,by dsimp only;omega,?_,λm hm=>hs m (by dsimp only at hm;omega),O⟩,rfl,rfl,rfl,rfl,trivial⟩
    show l'.take k=(l.take (j+1)).filter (λx => !p x)
    rw[lS hy,Ns,<- ht];simp[hy1]
  .refine bf ?_ (congrArg L0 (by show ltN j l.length=false;rw[bj];simp;omega));refine gX ?_
   have hkl:k<=(l.map z64).length:=by rw[hgl];omega
   have hfl:(l.filter (λx => !p x))=l'.take k:=by rw[ht,Mc (by omega)]
   have hkn:(l.filter (λx => !p x)).length=k:=by rw[hfl,L8];omega
   refine HS k hkl ?_;refine gH ?_;refine O.Km (enc:=z64) (l:=l') (z:=0) (s:=1) (o:=k) (n:=(l.map z64).length-k) (.head _) rfl (by kernel_rfl) rfl (by kernel_rfl) rfl rfl (λ_=>rfl) (by decide) (λ_=>rfl) (by rw[hgl,hl'];omega) λh O=>?_;refine gX ?_;refine Kx k hkl ?_;refine gX ?_;rw[<- hfl] at O;refine⟨by rw[hkn,hgl];rfl,_,?_,O⟩;rw[hfl];simp only[Ml,L8,Mw,No];omega
set_option maxHeartbeats 8000000
theorem Gf{l:List Flt}{R:List Nat}{n gL:Nat}(hrl:R.length=n)(hR:∀i,i<n->R[i]?=some i)(hn:n=l.length)(h1:l.length<=65536){h0 h:Heap}{S:List Slot}(O:Own vars h0 S h)(mL:(some gL,.cells (ah (R.map i64)) false)∈S) :
  ∃u h',al Tryz.prog NG 48 ⟨[ae 5 ay l,ak 1 (some gL) (R.map i64)]⟩ h u h'/\∃go,u=.slice (some ⟨go,0,none⟩) n n/\Own vars h0 ((some go,.cells (ah (l.map ay)) false)::S) h':=by
 have hgl:(R.map i64).length=n:=by rw[LZ];exact hrl
 refine fg Tryz.func48 ?_;refine gX ?_;refine O.mkL (enc:=ay) (n:=R.length) (W:=True) 40 5 Kl ⟨by rw[hrl];omega,by rw[hrl];omega,trivial⟩ λgo h O _=>?_;refine gX ?_;refine lM hM (nn:=27) (by kernel_rfl) (σ:=Nat) (λi h=>i<=n/\Own vars h0 ((some go,.cells (ah ((gq l Kl i).map ay)) false)::S) h)
  (λi=>[(0,ae 5 ay l),(5,.slice (some ⟨go,0,none⟩) R.length R.length),(11,ak 1 (some gL) (R.map i64)),(12,i64 R.length),(13,i64 i)]) (λi=>n-i) rfl ⟨0,⟨L1 _,?_⟩,rfl,rfl,rfl,rfl,rfl,trivial⟩ ?_
 .rw[qx,<- hn,<- hrl];exact O
 clear O h;rintro i base h ⟨hi,O⟩;refine gX ?_;by_cases hlt:i<n
 .refine bt ?_ (congrArg L0 (by show ltN i R.length=true;rw[hrl,bj];simp;omega));refine gX ?_;have hr:=hR i hlt;obtain⟨f,hf⟩:∃f,l[i]?=some f:=⟨_,LU (by omega)⟩;refine cb (s:=1) (j:=i) rfl rfl rfl rfl (by omega) ?_;refine gH ?_;refine ldE (s:=1) (i:=0) (O.at (.tail _ mL)) hr ?_;refine gX ?_;refine atF (W:=λ_=>True) ⟨f,hf,trivial⟩ λf' hf' _=>?_;rw[hf] at hf';cases hf';refine gH ?_;have hgo:=tu (d:=Kl) (show i<l.length by omega);refine cb (s:=5) (j:=i) rfl rfl rfl rfl (by omega) ?_;refine gH ?_;refine O.stE 5 (.head _) hgo f λh O=>?_;refine gX ?_;rw[sH hf] at O;refine aJ (a:=i) (b:=1) (W:=True) ⟨by omega,trivial⟩ λ_=>?_;refine gX ?_;exact⟨i+1,by show n-(i+1)<n-i;omega,⟨hlt,O⟩,rfl,rfl,rfl,rfl,rfl,trivial⟩
 .refine bf ?_ (congrArg L0 (by show ltN i R.length=false;rw[hrl,bj];simp;omega));refine gX ?_
  have:i=l.length:=by omega
  subst this;rw[sI] at O;exact⟨go,by rw[hrl];rfl,O⟩
theorem Li{α:Type}{enc:α->Value}{s g cap:Nat}{sp:Option Nat}{l:List α}{h2:Heap}(hs:∀x:α,(cl (enc x)).length=s)(hg:h2.get g=some (.cells (ah (l.map enc)) true)):VLe h2 (.slice (some ⟨g,0,sp⟩) l.length cap) (ae s enc l):=by
 refine VLe.fl hg (by rw[LZ]) (bE hs l) (by rw[bn hs];omega) ?_;rw[M0,<- LZ (f:=enc),<- bD (bE hs l),Ng];exact LLe.refl _ _
theorem B8{gx gF gC N T most i:Nat}{C:List Nat}(hi:i<C.length)(hN:N=C.length){h0 h:Heap}{S:List Slot}(mx:(some gx,.cells [.slice (some ⟨gF,0,none⟩) N N,.slice (some ⟨gC,0,none⟩) N N,i64 T] false)∈S)(mC:(some gC,.cells (ah (C.map i64)) false)∈S)(O:Own vars h0 S h) :
  al Tryz.prog NG 53 ⟨[z64 (LQ i),.pointer (some ⟨gx,0,none⟩),FP (i64 most)]⟩ h (.bool (eqN (C.getD i 0) most)) h:=by
 obtain⟨u,h',c,rfl,rfl⟩:∃u h',al Tryz.prog NG 53 ⟨[z64 (LQ i),.pointer (some ⟨gx,0,none⟩),FP (i64 most)]⟩ h u h'/\u=.bool (eqN (C.getD i 0) most)/\h'=h:=by
  refine fg Tryz.func53 ?_;refine gX ?_;refine ldO (O.at mx) ?_;refine gH ?_;refine⟨.inr (.inl (by kernel_rfl)),?_⟩;refine gH ?_;refine cb (s:=1) (j:=i) rfl rfl rfl rfl (by omega) ?_;refine gH ?_
  have hx:C[i]?=some (C.getD i 0):=by rw[Mh,LU hi];rfl
  refine ldE (s:=1) (i:=0) (O.at mC) hx ?_;(conv=>whnf);(repeat((first|apply Cs|apply Hx | (refine rd ?_) | (refine⟨.inl rfl,?_⟩) | (refine⟨rfl,?_⟩));(conv=>whnf)))
 exact c
theorem rB{c:Circ}{l:List Flt}{ts:List Pat}{most:Nat}{K:Ldg->Prop}(hm:nZ c l ts most K){h0:Heap}(hB:aH vars h0):∃r,K r/\al Tryz.prog NG 19 ⟨[az c,ae 5 ay l,ae 2 aE ts,i64 most]⟩ h0 (tT r) h0:=by
 obtain⟨C,hl,hts,hl0,h1,h2,hm0,hm1,hk⟩:=hm
 refine fw Tryz.func19 hB (enc:=tT) (λr=>BK _) λO=>?_;conv=>whnf
 refine gX ?_;refine fz ?_;refine gH ?_;refine fz ?_;refine gH ?_;refine O.new (aj (l:=[.slice none 0 0,.slice none 0 0,i64 0]) rfl rfl rfl) λg8 h O=>?_;refine gH ?_;refine gX ?_;obtain⟨u,h',cd,gF,gC,rfl,O⟩:=Fk (n:=l.length) (m:=ts.length) hl0 h1 O;refine⟨_,_,cd,?_⟩;refine gH ?_;refine O.new (aj (l:=[.slice none 0 0,.slice none 0 0,i64 0]) rfl rfl rfl) λg9 h O=>?_;refine gH ?_;refine O.stC 3 (.head _) [.slice (some ⟨gF,0,none⟩) l.length l.length,.slice (some ⟨gC,0,none⟩) l.length l.length,i64 ts.length] λh O=>?_;refine gX ?_;have O:=O.aZ (.cells (ah (([]:List Nat).map i64)) false);refine lM hM (nn:=81) (by kernel_rfl) (σ:=Nat×Option Nat) (λs h=>s.1<=l.length/\(s.2=none->s.1=0)/\Own vars h0 ((s.2,.cells (ah ((Ma s.1).map i64)) false)::[(some g9,.cells [.slice (some ⟨gF,0,none⟩) l.length l.length,.slice (some ⟨gC,0,none⟩) l.length l.length,i64 ts.length] false),(some gF,.cells (ah ((LY l.length (-1:Int)).map z64)) false),(some gC,.cells (ah ((LY l.length 0).map i64)) false),(some g8,.cells [.slice none 0 0,.slice none 0 0,i64 0] false)]) h)
  (λs=>[(1,ae 5 ay l),(2,ae 2 aE ts),(4,FP (az c)),(7,FP (i64 most)),(8,.pointer (some ⟨g8,0,none⟩)),(9,.pointer (some ⟨g9,0,none⟩)),(10,ak 1 s.2 ((Ma s.1).map i64)),(25,i64 l.length),(26,i64 s.1)]) (λs=>l.length-s.1) rfl ⟨(0,none),⟨L1 _,λ_=>rfl,O⟩,rfl,rfl,rfl,rfl,rfl,rfl,rfl,rfl,rfl,trivial⟩ ?_
 clear O;rintro⟨i,aL⟩ base h ⟨hi,ha,O⟩;dsimp only at hi ha O;refine gX ?_;by_cases hlt:i<l.length
 .refine bt ?_ (congrArg L0 (by show ltN i l.length=true;rw[bj];simp;omega));refine gX ?_;refine fz ?_;refine gH ?_;refine O.apL (enc:=i64) (b:=8) (l:=Ma i) (new:=([i]:List Nat)) (W:=True) 1 (.head _) (λq=>by rw[ha q];rfl) ⟨by rw[M4,L6];omega,trivial⟩ λaL h haL O _=>?_;refine gX ?_;refine aJ (a:=i) (b:=1) (W:=True) ⟨by omega,trivial⟩ λ_=>?_;refine gX ?_;rw[<- N6] at haL O;refine⟨(i+1,aL),by show l.length-(i+1)<l.length-i;omega,⟨hlt,λq=>?_,O⟩,rfl,rfl,rfl,rfl,rfl,rfl,?_,rfl,rfl,trivial⟩
  .have:=congrArg QO (haL q);rw[M4] at this;exact absurd this (Nat.succ_ne_zero i)
  .show ak 1 aL _=_
   rw[N6]
 .refine bf ?_ (congrArg L0 (by show ltN i l.length=false;rw[bj];simp;omega));refine gX ?_
  have:i=l.length:=by omega
  subst this
  obtain⟨gL,rfl⟩:∃g,aL=some g:=by
   cases aL with
   |some g=>exact⟨g,rfl⟩
   |none=>exact absurd (ha rfl) (by omega)
  clear ha hlt hi;refine aJ (a:=ts.length) (b:=64) (W:=True) ⟨by omega,trivial⟩ λ_=>?_;refine gH ?_;refine vt (a:=ts.length+64) (b:=1) (W:=True) ⟨by omega,by omega,trivial⟩ λ_=>?_;refine gH ?_;refine Ff (a:=ts.length+64-1) (b:=64) (W:=True) ⟨by decide,by omega,trivial⟩ λ_=>?_;refine gX ?_
  refine lM hM (nn:=81) (by kernel_rfl) (σ:=Nat×Value) (λs h=>(s.1=0/\s.2=ak 1 (some gL) ((Ma l.length).map i64)/\Own vars h0 [(some gL,.cells (ah ((Ma l.length).map i64)) false),(some g9,.cells [.slice (some ⟨gF,0,none⟩) l.length l.length,.slice (some ⟨gC,0,none⟩) l.length l.length,i64 ts.length] false),(some gF,.cells (ah ((LY l.length (-1:Int)).map z64)) false),(some gC,.cells (ah ((LY l.length 0).map i64)) false),(some g8,.cells [.slice none 0 0,.slice none 0 0,i64 0] false)] h) \/
    (s.1=1/\0<ts.length/\(∃n m,s.2=FJ 1 (some gL) n m)/\Own vars h0 [(some g9,.cells [.slice (some ⟨gF,0,none⟩) l.length l.length,.slice (some ⟨gC,0,none⟩) l.length l.length,i64 ts.length] false),(some gF,.cells (ah ((cB c l ts most).first.map z64)) false),(some gC,.cells (ah ((cB c l ts most).count.map i64)) false),(some g8,.cells [.slice none 0 0,.slice none 0 0,i64 0] false)] h))
   (λs=>[(1,ae 5 ay l),(2,ae 2 aE ts),(4,FP (az c)),(7,FP (i64 most)),(8,.pointer (some ⟨g8,0,none⟩)),(9,.pointer (some ⟨g9,0,none⟩)),(10,s.2),(38,i64 ((ts.length+64-1)/64)),(39,i64 s.1)]) (λs=>1-s.1) rfl ⟨(0,_),.inl ⟨rfl,rfl,O⟩,rfl,rfl,rfl,rfl,rfl,rfl,rfl,rfl,rfl,trivial⟩ ?_
  clear O;rintro⟨b,lv⟩ base h (⟨hb,hlv,O⟩|⟨hb,hp,⟨n,m,hlv⟩,O⟩)
  .dsimp only at hb hlv;subst hb hlv;refine gX ?_;by_cases ht:0<ts.length
   .have hq:(ts.length+64-1)/64=1:=by omega
    refine bt ?_ (congrArg L0 (by show ltN 0 ((ts.length+64-1)/64)=true;rw[hq];rfl));refine gX ?_;refine IU (a:=0) (b:=64) (W:=True) ⟨by decide,trivial⟩ λ_=>?_;refine gX ?_;refine aJ (a:=0*64) (b:=64) (W:=True) ⟨by decide,trivial⟩ λ_=>?_;refine gH ?_;refine⟨_,H5 (a:=0*64+64) (b:=ts.length) rfl rfl,?_⟩;refine gH ?_;refine HF (s:=2) (enc:=aE) (l:=ts) (i:=0*64) (j:=min (0*64+64) ts.length) (by omega) (O8 _ _) ?_
    have hdt:List.drop (0*64) (List.take (min (0*64+64) ts.length) ts)=ts:=by rw[Q7,M0,Mc (by omega)]
    rw[hdt];refine gH ?_
    apply Cs;conv=>whnf
    refine CodeS.mV ?_;refine gH ?_;have hrR:(Ma l.length).length=l.length:=M4;obtain⟨u,h,cd,go,rfl,O⟩:=Gf (l:=l) (R:=Ma l.length) hrR (λi hi=>M7 hi) rfl h1 O (.head _);refine⟨_,_,cd,?_⟩;refine gH ?_;refine O.Ky (λ_ hb=>gp (p0:=c) (p1:=l) (p2:=ts) (K:=λr=>r.2=0/\r.1.length=l.length/\∀(k:Nat) (f:Flt),l[k]?=some f->∃v,r.1[k]?=some [v]/\rU c ts f v) ?_ hb) (.head _) (i:=1) rfl (fk Tryz.func46) (λh2 hg=>LLe.cons (VLe.refl _ _) (LLe.cons (Li (λ_=>rfl) hg) (LLe.cons (VLe.refl _ _) (LLe.nil _)))) λr h hQ O=>?_
    .exact⟨C,hl,hts,h1,h2,λr e1 e2=>⟨rfl,e1,e2 ht⟩⟩
    obtain⟨rr,r2⟩:=r;obtain⟨rfl,hr1,hr2⟩:=hQ;dsimp only at hr1 hr2;refine gH ?_;refine O.oN (aj (l:=[.slice none 0 0]) rfl rfl rfl) λgt h O=>?_;refine gH ?_;refine O.stC 1 (.head _) [ae 1 (ae 1 n64) rr] λh O=>?_;refine gX ?_;have O:=O.sel [4,5,0,2,3,6] (by decide)
    have hXFl:(cB c l ts most).first.length=l.length:=by unfold cB;simp
    have hXCl:(cB c l ts most).count.length=l.length:=by unfold cB;simp
    refine lM hM (nn:=81) (by kernel_rfl) (σ:=Nat) (λj h=>j<=l.length/\Own vars h0 [(some gF,.cells (ah ((gq (cB c l ts most).first (-1) j).map z64)) false),(some gC,.cells (ah ((gq (cB c l ts most).count 0 j).map i64)) false),(some gt,.cells [ae 1 (ae 1 n64) rr] false),(some gL,.cells (ah ((Ma l.length).map i64)) false),(some g9,.cells [.slice (some ⟨gF,0,none⟩) l.length l.length,.slice (some ⟨gC,0,none⟩) l.length l.length,i64 ts.length] false),(some g8,.cells [.slice none 0 0,.slice none 0 0,i64 0] false)] h)
     (λj=>[(1,ae 5 ay l),(2,ae 2 aE ts),(4,FP (az c)),(7,FP (i64 most)),(8,.pointer (some ⟨g8,0,none⟩)),(9,.pointer (some ⟨g9,0,none⟩)),(10,ak 1 (some gL) ((Ma l.length).map i64)),(13,i64 (0*64)),(14,ae 2 aE ts),(15,.pointer (some ⟨gt,0,none⟩)),(38,i64 ((ts.length+64-1)/64)),(39,i64 0),(61,ak 1 (some gL) ((Ma l.length).map i64)),(62,i64 (Ma l.length).length),(63,i64 j)]) (λj=>l.length-j) rfl ⟨0,⟨L1 _,?_⟩,rfl,rfl,rfl,rfl,rfl,rfl,rfl,rfl,rfl,rfl,rfl,rfl,rfl,rfl,rfl,trivial⟩ ?_
    .rw[qx,qx,hXFl,hXCl];exact O
    clear O;rintro j base h ⟨hj,O⟩;refine gX ?_;by_cases hlt:j<l.length
    .refine bt ?_ (congrArg L0 (by show ltN j (Ma l.length).length=true;rw[hrR,bj];simp;omega));refine gX ?_;have hrj:(Ma l.length)[j]?=some j:=M7 hlt;obtain⟨f,hf⟩:∃f,l[j]?=some f:=⟨_,LU hlt⟩;obtain⟨v,hv,hit⟩:=hr2 j f hf
     have hgl:((Ma l.length).map i64).length=l.length:=by rw[LZ,hrR]
     refine cb (s:=1) (j:=j) rfl rfl rfl rfl (by omega) ?_;refine gH ?_;refine ldE (s:=1) (i:=0) O.i3 hrj ?_;refine gH ?_;refine O.new (aj (l:=[i64 0]) rfl rfl rfl) λgk h O=>?_;refine gH ?_;refine O.stC 1 (.head _) [i64 j] λh O=>?_;refine gX ?_;have O:=O.sel [1,2,0,3,4,5,6] (by decide)
     have hXF:(cB c l ts most).first[j]?=some (recAt v.testBit most ts.length).1:=by
      rw[DD hit h2];unfold cB;rw[L7,hf];rfl
     have hXC:(cB c l ts most).count[j]?=some (recAt v.testBit most ts.length).2:=by
      rw[DD hit h2];unfold cB;rw[L7,hf];rfl
     obtain⟨u,h,cd,rfl,O⟩:=AY (n:=ts.length) (fault:=j) (N:=l.length) (T:=ts.length) (gx:=g9) hv h2 hm1 (tu (by omega)) (tu (by omega)) (by rw[yT (by omega),hXFl]) (by rw[yT (by omega),hXCl]) (.tail _ (.head _)) (.head _) (.tail _ (.tail _ (.tail _ (.head _)))) O;rw[sH hXF,sH hXC] at O;refine⟨_,_,cd,?_⟩;refine gX ?_;refine aJ (a:=j) (b:=1) (W:=True) ⟨by omega,trivial⟩ λ_=>?_;refine gX ?_;exact⟨j+1,by show l.length-(j+1)<l.length-j;omega,⟨hlt,O.sel [0,1,3,4,5,6] (by decide)⟩,rfl,rfl,rfl,rfl,rfl,rfl,rfl,rfl,rfl,rfl,rfl,rfl,rfl,rfl,rfl,trivial⟩
    .refine bf ?_ (congrArg L0 (by show ltN j (Ma l.length).length=false;rw[hrR,bj];simp;omega));refine gX ?_
     have:j=l.length:=by omega
     subst this
     have eF:gq (cB c l ts most).first (-1) l.length=(cB c l ts most).first:=by rw[<- hXFl];exact sI _ _
     have eC:gq (cB c l ts most).count 0 l.length=(cB c l ts most).count:=by rw[<- hXCl];exact sI _ _
     rw[eF,eC] at O;have O:=O.sel [3,4,0,1,5] (by decide)
     have eZ:((Ma l.length).map LQ).map z64=(Ma l.length).map i64:=by rw[NT];rfl
     have hZl:((Ma l.length).map LQ).length=l.length:=by rw[LZ,hrR]
     obtain⟨u,h,cd,hu,z,hz,O⟩:=zA (gx:=g9) (most:=most) (g:=gL) (l:=(Ma l.length).map LQ) (p:=λv=>eqN ((cB c l ts most).count.getD v.toNat 0) most) (by omega) (by rw[eZ];exact O) λx hx l' h _ O=>by
      obtain⟨i,hi,rfl⟩:=MP.1 hx;exact B8 (C:=(cB c l ts most).count) (by rw[hXCl];exact Mx.1 hi) hXCl.symm (.tail _ (.head _)) (.tail _ (.tail _ (.tail _ (.head _)))) O
     rw[eZ] at cd;subst hu;refine⟨_,_,cd,?_⟩;refine gX ?_;refine aJ (a:=0) (b:=1) (W:=True) ⟨by decide,trivial⟩ λ_=>?_;refine gX ?_;exact⟨(1,_),by show 1-1<1-0;decide,.inr ⟨rfl,ht,⟨_,_,rfl⟩,O.tail⟩,rfl,rfl,rfl,rfl,rfl,rfl,rfl,rfl,rfl,trivial⟩
   .have hq:(ts.length+64-1)/64=0:=by omega
    refine bf ?_ (congrArg L0 (by show ltN 0 ((ts.length+64-1)/64)=false;rw[hq];rfl));refine gX ?_
    have e0:ts.length=0:=by omega
    have eF:LY l.length (-1:Int)=(cB c l ts most).first:=by
     unfold cB;dsimp only;rw[e0];exact (Sg ..).symm
    have eC:LY l.length 0=(cB c l ts most).count:=by
     unfold cB;dsimp only;rw[e0];exact (Sg ..).symm
    rw[eF,eC] at O;have O:=O.tail
    have hXFl:(cB c l ts most).first.length=l.length:=by unfold cB;simp
    have hXCl:(cB c l ts most).count.length=l.length:=by unfold cB;simp
    refine ldA O.i0 ?_;refine gH ?_;refine O.stC 3 (.tail _ (.tail _ (.tail _ (.head _)))) [.slice (some ⟨gF,0,none⟩) l.length l.length,.slice (some ⟨gC,0,none⟩) l.length l.length,i64 ts.length] λh O=>?_;refine gX ?_;refine⟨_,aI rfl rfl O.i3 rfl rfl (lbE rfl) rfl,?_⟩;exact⟨cB c l ts most,hk,O.ext,λh2 F=>VLe.agg (LLe.cons (O.jC F (LV _) (.tail _ (.head _)) (λ_=>rfl) hXFl.symm) (LLe.cons (O.jC F (LV _) (.tail _ (.tail _ (.head _))) (λ_=>rfl) hXCl.symm) (LLe.cons (VLe.refl _ _) (LLe.nil _))))⟩
  .dsimp only at hb hlv;subst hb hlv;refine gX ?_
   have hq:(ts.length+64-1)/64=1:=by omega
   refine bf ?_ (congrArg L0 (by show ltN 1 ((ts.length+64-1)/64)=false;rw[hq];rfl));refine gX ?_
   have hXFl:(cB c l ts most).first.length=l.length:=by unfold cB;simp
   have hXCl:(cB c l ts most).count.length=l.length:=by unfold cB;simp
   refine ldA O.i0 ?_;refine gH ?_;refine O.stC 3 (.tail _ (.tail _ (.tail _ (.head _)))) [.slice (some ⟨gF,0,none⟩) l.length l.length,.slice (some ⟨gC,0,none⟩) l.length l.length,i64 ts.length] λh O=>?_;refine gX ?_;refine⟨_,aI rfl rfl O.i3 rfl rfl (lbE rfl) rfl,?_⟩;exact⟨cB c l ts most,hk,O.ext,λh2 F=>VLe.agg (LLe.cons (O.jC F (LV _) (.tail _ (.head _)) (λ_=>rfl) hXFl.symm) (LLe.cons (O.jC F (LV _) (.tail _ (.tail _ (.head _))) (λ_=>rfl) hXCl.symm) (LLe.cons (VLe.refl _ _) (LLe.nil _))))⟩
set_option maxHeartbeats 8000000
def eT(p0:Circ)(p1:(List Flt))(p2:(List Pat))(K:Nat->Prop):Prop :=
 ((ltN 4096 p2.length)=true->K 3)/\((ltN 4096 p2.length)=false->iJ p0 p1 ([]:(List Pat)) (λr1=>aw (α:=Bool) (λk3=>((neN r1.2 0)=true->k3 true)/\((neN r1.2 0)=false->k3 (eqN p2.length 0))) (λv2=>(v2=true->K r1.2)/\(v2=false->iJ p0 ([]:(List Flt)) p2 (λr4=>K r4.2)))))
theorem qT{p0:Circ}{p1:(List Flt)}{p2:(List Pat)}{K:Nat->Prop}(hm:eT p0 p1 p2 K){h0:Heap}(hB:aH vars h0):∃r,K r/\al Tryz.prog NG 18 ⟨[az p0,(ae 5 ay) p1,(ae 2 aE) p2]⟩ h0 (i64 r) h0:=by
 unfold eT at hm
 refine fw Tryz.func18 hB (enc:=i64) (λr=>aq.flat rfl) λO=>?_;conv=>whnf
 refine gX ?_;refine fz ?_;refine gX ?_;refine br hm (λhm=>?_) λhm=>?_
 .refine gX ?_;exact fe hm O
 .refine gX ?_;refine caW (gp hm O.has) (LLe.cons (VLe.refl _ _) (LLe.cons (VLe.refl _ _) (LLe.cons (VLe.nil _ _) (LLe.nil _)))) λr1 hm=>?_;refine gH ?_
  apply Cs;conv=>whnf
  refine jn hm 33 [2,3,8] (λs=>s) (λv2 h=>Own vars h0 [] h) (λv2=>[(24,(.bool v2))]) (λhm=>?_) ?_
  .refine gX ?_;refine br hm (λhm=>?_) λhm=>?_
   .refine gX ?_;exact jx true hm O
   .refine gX ?_;exact jx (eqN p2.length 0) hm O
  .clear hm;rintro v2 base h hm O;refine gX ?_;refine br hm (λhm=>?_) λhm=>?_
   .refine gX ?_;exact fe hm O
   .refine gX ?_;refine caW (gp hm O.has) (LLe.cons (VLe.refl _ _) (LLe.cons (VLe.nil _ _) (LLe.cons (VLe.refl _ _) (LLe.nil _)))) λr4 hm=>?_;refine gX ?_;exact fe hm O
def iy(p0:Circ)(p1:(List Flt))(p2:(List Pat))(K:(Ldg×Nat)->Prop):Prop :=
 eT p0 p1 p2 (λr3=>((neN r3 0)=true->K ((⟨[],[],0⟩:Ldg),r3))/\((neN r3 0)=false->p2.length+1<2^63/\nZ p0 p1 p2 (p2.length+1) (λr4=>K (r4,0))))
theorem uK{p0:Circ}{p1:(List Flt)}{p2:(List Pat)}{K:(Ldg×Nat)->Prop}(hm:iy p0 p1 p2 K){h0:Heap}(hB:aH vars h0):∃r,K r/\al Tryz.prog NG 8 ⟨[az p0,(ae 5 ay) p1,(ae 2 aE) p2]⟩ h0 ((λ(r:(Ldg×Nat))=>MD ⟨[tT (r.1),i64 (r.2)]⟩) r) h0:=by
 unfold iy at hm
 refine fw Tryz.func8 hB (enc:=(λ(r:(Ldg×Nat))=>MD ⟨[tT (r.1),i64 (r.2)]⟩)) (λr=>aq.tup (ag.cons (BK _) (ag.cons (aq.flat rfl) (ag.nil)))) λO=>?_;conv=>whnf
 refine gX ?_;refine fz ?_;refine gH ?_;refine O.new (aj (l:=[(.slice none 0 0),(.slice none 0 0),(i64 0)]) rfl rfl rfl) λg1 h O=>?_;refine gH ?_;refine gX ?_;refine ca (qT hm O.has) λr3 hm=>?_;refine gX ?_;refine br hm (λhm=>?_) λhm=>?_
 .refine gX ?_;refine O.stC 3 (.head _) [(.slice none 0 0),(.slice none 0 0),(i64 0)] λh O=>?_;refine gX ?_
  refine⟨_,aI rfl rfl O.i0 rfl rfl (lbE rfl) rfl,?_⟩;conv=>whnf
  exact⟨((⟨[],[],0⟩:Ldg),r3),hm,O.ext,λh2 F=>VLe.tup (LLe.cons (VLe.agg (LLe.cons (VLe.nil _ _) (LLe.cons (VLe.nil _ _) (LLe.cons (VLe.refl _ _) (LLe.nil _))))) (LLe.cons (VLe.refl _ _) (LLe.nil _)))⟩
 .refine gX ?_;refine aJ hm λhm=>?_;refine gH ?_;refine ca (rB hm O.has) λr4 hm=>?_;refine gH ?_;refine O.stC 3 (.head _) [((ae 1 z64) r4.first),((ae 1 i64) r4.count),(i64 r4.tests)] λh O=>?_;refine gX ?_
  refine⟨_,aI rfl rfl O.i0 rfl rfl (lbE rfl) rfl,?_⟩;conv=>whnf
  exact⟨(r4,0),hm,O.ext,λh2 F=>VLe.tup (LLe.cons (VLe.refl _ _) (LLe.cons (VLe.refl _ _) (LLe.nil _)))⟩
theorem D1{c:Circ}(C:Cir c){l:List Flt}{ts:List Pat}(hl:∀f∈l,StuckOk c f)(hts:∀p∈ts,PatOk c p)(h1:l.length<=65536)(h2:ts.length<=64){K:Nat->Prop}(h:K 0):eT c l ts K:=by
 unfold eT;refine⟨λq=>by have:=aX.1 q;omega,λ_=>⟨C,hl,(λp m=>by cases m),h1,(by decide),λr _ _=>?_⟩⟩;refine cQ (a:=eqN ts.length 0) (λG=>⟨λq=>absurd rfl (dm.1 q),λ_=>G⟩) ⟨λ_=>h,λ_=>⟨C,(λp m=>by cases m),hts,(by decide),h2,λr _ _=>h⟩⟩
theorem Ep{c:Circ}(C:Cir c){l:List Flt}{ts:List Pat}(hl:∀f∈l,StuckOk c f)(hts:∀p∈ts,PatOk c p)(h0:0<l.length)(h1:l.length<=65536)(h2:ts.length<=64){K:Ldg×Nat->Prop}(h:K (cB c l ts (ts.length+1),0)):iy c l ts K:=by
 unfold iy;exact D1 C hl hts h1 h2 ⟨λq=>absurd rfl (dm.1 q),λ_=>⟨by omega,C,hl,hts,h0,h1,h2,by omega,by omega,h⟩⟩
set_option maxHeartbeats 8000000
def nN(m:Nat)(ls:List LnZ):List Flt:=ls.flatMap λx=>[⟨m,x,0,0⟩,⟨m,x,1,0⟩]
theorem yd{m:Nat}{ls:List LnZ}{k:Nat}{x:LnZ}(hx:ls[k]?=some x):nN m (ls.take (k+1))=nN m (ls.take k)++[⟨m,x,0,0⟩]++[⟨m,x,1,0⟩]:=by
 have:ls.take (k+1)=ls.take k++[x]:=by
  rw[NA,hx];rfl
 rw[this];simp[nN]
theorem Bo(m:Nat)(ls:List LnZ):(nN m ls).length=2*ls.length:=by
 induction ls with
 |nil=>rfl
 |cons x l ih=>simp[nN] at ih ⊢;omega
theorem xJ{c:Circ}{m:Nat}{ls:List LnZ}(hl:cm c (λr=>r=(ls,0)))(hm:m<2)(hn:2*ls.length<65536) :
  FnV Tryz.prog NG vars 6 ⟨[az c,n8 m]⟩ (.tuple ⟨[ae 5 ay (nN m ls),i64 0]⟩):=by
 refine fnT Tryz.func6 (by exact rfl) (fk Tryz.func6) (lbE rfl) (aq.tup (ag.cons (cg (λ_=>pN _)) (ag.cons (aq.flat rfl) (ag.nil)))) λh0 O=>?_;refine CodeT.seq hM (by kernel_rfl) ?_;refine gX ?_;refine fz ?_;refine gH ?_;refine O.new (aj (l:=[nS]) rfl rfl rfl) λg4 h O=>?_;refine gH ?_;refine O.new (aj (l:=[(i64 0)]) rfl rfl rfl) λg5 h O=>?_;refine gH ?_;refine CodeT.seq hM (by kernel_rfl) ?_;refine gX ?_;refine ca (fM hl O.has) λr1 hm1=>?_;subst hm1;refine gX ?_;refine CodeT.seq hM (by kernel_rfl) ?_;refine gX ?_;refine bf ?_;refine gX ?_;refine bf ?_ (congrArg L0 (by show ltN 3 m=false;rw[bj];simp;omega));refine gX ?_;refine CodeT.seq hM (by kernel_rfl) ?_;refine gX ?_;refine O.new (aj (l:=[nS]) rfl rfl rfl) λg8 h O=>?_;refine gH ?_;refine CodeT.range hM (by kernel_rfl) ?_;refine gX ?_;refine fg Tryz.func16 ?_;refine gX ?_;refine fz ?_;refine gH ?_;refine fz ?_;refine gH ?_;refine fz ?_;refine gX ?_;have O:=O.aZ (.cells (ah (([]:List Flt).map ay)) false);refine RangeT.mk' 44 [FP (n8 m),FP (ae 2 av ls),FP (az c)] (by exact rfl) (by exact rfl) (fk Tryz.func44) λL D q I hI kept hq1 hq2 hq3 hq4 hq5=>?_;have yl:∀(pre:List Flt) (a:Option Nat) (L':List Slot) (h:Heap) (x:Flt),(a=none->pre=[])->pre.length<65536->Own vars h0 ((sM a ay pre)::(some g8,.cells [ak 5 a (pre.map ay)] false)::L') h ->
   ∃h',YC Tryz.prog NG I L [ay x] h (.bool true) h'/\∃a',(a'=none->pre++[x]=[])/\Own vars h0 ((a',.cells (ah ((pre++[x]).map ay)) false)::(some g8,.cells [ak 5 a' ((pre++[x]).map ay)] false)::L') h':=by
  intro pre a L' h x ha hlen O;subst hI;refine JP hq1 hq4 hq5 (λp m=>by cases m with|head=>exact (show (26:Nat)<36 by decide) | tail _ m=>cases m) rfl ?_;rw[hq2,hq3,KP];refine CodeY.cut (nn:=36) (λh=>Own vars h0 ((sM a ay pre)::(some g8,.cells [ak 5 a (pre.map ay)] false)::L') h) [(8,.pointer (some ⟨g8,0,none⟩)),(26,ay x)] rfl ⟨O,by rw[Env.dq];rfl,by rw[Env.dq];rfl,trivial⟩ ?_
  clear O;intro base O;conv=>whnf
  refine CodeY.reg mU (by kernel_rfl) (by kernel_rfl) ?_;refine gH ?_;refine O.new (aj (l:=[(n8 0),(i64 0),(z64 0),(n8 0),(i64 0)]) rfl rfl rfl) λg9 h O=>?_;refine gH ?_;refine O.stC 5 (.head _) [(n8 x.model),(i64 x.line.node),(z64 x.line.pin),(n8 x.value),(i64 x.other)] λh O=>?_;refine gH ?_;refine CodeY.block (CodeY.seq mU (CodeY.seq mU (CodeY.reg mU (by kernel_rfl) (by kernel_rfl) ?_)));refine gH ?_;refine CodeY.cond (by exact rfl) false (congrArg L0 (by show eqN pre.length 65536=false;rw[oL];simp;omega)) (CodeY.skip ?_);refine gX ?_;refine CodeY.reg mU (by kernel_rfl) (by kernel_rfl) ?_;refine gH ?_;refine ldA O.i0 ?_;refine gH ?_;refine fz ?_;refine gH ?_;refine O.apL (b:=40) (W:=True) (enc:=ay) (l:=pre) (new:=[x]) 5 (.tail _ (.head _)) ha ⟨by simp;omega,trivial⟩ λa' h ha' O _=>?_;refine gH ?_;refine O.stC 1 (.tail _ (.tail _ (.head _))) [ak 5 a' ((pre++[x]).map ay)] λh O=>?_;refine gH ?_;exact⟨a',ha',O.tail⟩
 refine Lj Tryz.func44 (by exact rfl) (by exact rfl) (lbE rfl) ?_;refine CodeY.seq kept (CodeY.reg kept (by kernel_rfl) (by kernel_rfl) ?_);refine gH ?_;refine fz ?_;refine gH ?_;refine CodeY.seq kept (CodeY.seq kept (CodeY.reg kept (by kernel_rfl) (by kernel_rfl) ?_));refine gH ?_;refine CodeY.cond (by exact rfl) true (congrArg L0 (by show ltN m 2=true;rw[bj];simp;omega)) ?_;refine CodeY.seq kept (CodeY.seq kept (CodeY.reg kept (by kernel_rfl) (by kernel_rfl) ?_));refine gH ?_
 refine CodeY.block (CodeY.loop kept (nn:=64) (σ:=Nat) (λk h=>k<=ls.length/\∃a,(a=none->nN m (ls.take k)=[])/\Own vars h0 [(sM a ay (nN m (ls.take k))),(some g8,.cells [ak 5 a ((nN m (ls.take k)).map ay)] false),(some g5,.cells [i64 0] false),(some g4,.cells [.slice none 0 0] false)] h)
  (λk=>[(1,FP (n8 m)),(4,FP (.func (.yield L) ⟨[]⟩ ⟨[]⟩)),(12,ae 2 av ls),(13,i64 ls.length),(14,i64 k)]) (λk=>ls.length-k) rfl ⟨0,⟨L1 _,none,λ_=>rfl,O⟩,rfl,rfl,rfl,rfl,rfl,trivial⟩ ?_)
 clear O;rintro k base h ⟨hk,a,ha,O⟩;conv=>whnf
 refine CodeY.seq kept (CodeY.reg kept (by kernel_rfl) (by kernel_rfl) ?_);refine gH ?_;by_cases hlt:k<ls.length
 .obtain⟨x,hx⟩:∃x,ls[k]?=some x:=⟨_,LU hlt⟩
  have hlen:(nN m (ls.take k)).length=2*k:=by rw[Bo,L8,Nb hk]
  refine CodeY.seq kept (CodeY.cond (by exact rfl) true (congrArg L0 (by show ltN k ls.length=true;rw[bj];simp;omega)) (CodeY.skip ?_));refine gX ?_;refine CodeY.seq kept (CodeY.block (CodeY.seq kept (CodeY.reg kept (by kernel_rfl) (by kernel_rfl) ?_)));refine gH ?_;refine atF (W:=λ_=>True) ⟨x,hx,trivial⟩ λx' hx' _=>?_
  obtain rfl:x=x':=by rw[hx] at hx';exact Ni hx'
  refine gH ?_;refine O.new (aj (l:=[(i64 0),(z64 0)]) rfl rfl rfl) λg6 h O=>?_;refine gH ?_;refine O.stC 2 (.head _) [(i64 x.node),(z64 x.pin)] λh O=>?_;refine gH ?_;refine CodeY.seq kept (CodeY.region kept (by kernel_rfl) (by kernel_rfl) (RegYS.Kk 4 ?_));refine gH ?_;refine ldA O.i0 ?_;refine gH ?_;have O:=O.sel [1,2,0,3,4] (by decide);obtain⟨h1,y1,a1,ha1,O⟩:=yl (nN m (ls.take k)) a [(some g6,.cells [(i64 x.node),(z64 x.pin)] false),(some g5,.cells [i64 0] false),(some g4,.cells [.slice none 0 0] false)] h ⟨m,x,0,0⟩ ha (by omega) O;refine RegYS.yield (by exact rfl) (by exact rfl) (by exact rfl) (by exact rfl) y1 ?_;refine gH ?_;refine RegYS.Kk 6 ?_;refine gH ?_;refine bf ?_;refine gH ?_;refine ldA O.i2 ?_;refine gH ?_;obtain⟨h2,y2,a2,ha2,O⟩:=yl _ a1 _ h1 ⟨m,x,1,0⟩ ha1 (by simp;omega) O;refine RegYS.yield (by exact rfl) (by exact rfl) (by exact rfl) (by exact rfl) y2 ?_;refine gH ?_;refine RegYS.Kk 2 ?_;refine gH ?_;refine RegYS.nil ?_;refine gX ?_;refine CodeY.cond (by exact rfl) false (by exact rfl) (CodeY.skip ?_);refine gX ?_;refine CodeY.reg kept (by kernel_rfl) (by kernel_rfl) ?_;refine gH ?_;refine aJ (a:=k) (b:=1) (W:=True) ⟨by omega,trivial⟩ λ_=>?_;refine gH ?_;refine⟨k+1,by omega,⟨hlt,a2,?_,?_⟩,rfl,rfl,rfl,rfl,rfl,trivial⟩
  .rw[yd hx];exact ha2
  .rw[yd hx];exact O.sel [0,1,3,4] (by decide)
 .obtain rfl:k=ls.length:=by omega
  refine CodeY.seq kept (CodeY.cond (by exact rfl) false (congrArg L0 (by show ltN ls.length ls.length=false;rw[bj];simp)) (CodeY.exit ?_));refine gX ?_;rw[Ng] at O ha;refine CodeY.ret ?_;intro D';refine CodeY.seq yx (CodeY.reg yx (by kernel_rfl) (by kernel_rfl) ?_);refine gH ?_;refine fg Tryz.func17 ?_;refine gX ?_;refine so (s:=5) (enc:=ay) (l:=nN m ls) (n:=(nN m ls).length) (m:=(nN m ls).length) rfl rfl rfl rfl rfl rfl rfl ?_;refine gX ?_;refine O.stC 1 (.tail _ (.tail _ (.tail _ (.head _)))) [ib a ((nN m ls).map ay)] λh O=>?_;refine gH ?_;refine O.stC 1 (.tail _ (.tail _ (.head _))) [i64 0] λh O=>?_;refine gH ?_
  refine CodeY.ret ?_;conv=>whnf
  refine⟨_,KM rfl rfl O.i3 rfl rfl,?_⟩;conv=>whnf
  refine⟨_,KM rfl rfl O.i2 rfl rfl,?_⟩;conv=>whnf
  exact⟨O.ext,λh2 F=>VLe.tup (LLe.cons (O.rn F (LV _) (.head _) ha (λ_=>rfl)) (LLe.cons (VLe.refl _ _) (LLe.nil _)))⟩
def kb(p0:Circ)(p1:Nat)(K:((List Flt)×Nat)->Prop):Prop :=
 ∃ls:List LnZ,cm p0 (λr=>r=(ls,0))/\p1<2/\2*ls.length<65536/\K (nN p1 ls,0)
theorem nV{p0:Circ}{p1:Nat}{K:((List Flt)×Nat)->Prop}(hm:kb p0 p1 K){h0:Heap}(hB:aH vars h0):∃r,K r/\al Tryz.prog NG 6 ⟨[az p0,n8 p1]⟩ h0 ((λ(r:((List Flt)×Nat))=>MD ⟨[(ae 5 ay) (r.1),i64 (r.2)]⟩) r) h0:=by
 obtain⟨ls,h1,h2,h3,hk⟩:=hm;exact⟨_,hk,(xJ h1 h2 h3).call h0 hB⟩
def we(c:Circ):List Flt:=nN 0 (fH c)
theorem lL{c:Circ}(C:Cir c):(fH c).length<=272:=by
 have:=pc C _ (LV _);have:=C.len;unfold fH;omega
theorem FK{c:Circ}(C:Cir c):(we c).length<=544:=by
 have:=lL C;unfold we;rw[Bo];omega
theorem DC{c:Circ}(C:Cir c){K:List Flt×Nat->Prop}(h:K (we c,0)):kb c 0 K:=by
 have:=lL C;exact⟨fH c,rX C rfl,by decide,by omega,h⟩
end Go.Proofs.YtglgdkineobbeaaGreatDoor
