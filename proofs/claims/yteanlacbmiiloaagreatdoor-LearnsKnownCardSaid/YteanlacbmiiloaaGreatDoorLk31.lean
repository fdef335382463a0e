/-
  Logic, Logic2, Logic3, Door: parts of the proof.
-/
import Derived.Test.YteanlacbmiiloaaGreatDoorLk30
import Derived.Test.YteanlacbmiiloaaGreatDoorTie
import Derived.LaidMore
import Derived.Stop.Joined
import Derived.ChangeAt
import Derived.SevenTiedAt
namespace Go.Proofs.YteanlacbmiiloaaGreatDoor
open Go.Abs
set_option maxRecDepth 100000
theorem cls5_cases {a:Int} (h:0≤a):a=0∨a=1∨a=2∨a=3∨∃ n:Nat,a=Int.ofNat (n+4):=by
 obtain⟨m,rfl⟩:=Int.eq_ofNat_of_zero_le h
 match m with
 |0=>exact .inl rfl
 |1=>exact .inr (.inl rfl)
 |2=>exact .inr (.inr (.inl rfl))
 |3=>exact .inr (.inr (.inr (.inl rfl)))
 |n+4=>exact .inr (.inr (.inr (.inr ⟨n,rfl⟩)))
def cleanL (a:Int):Int:=if 3<a then 2 else a
def readL (a:Int):Int:=if 2<a then 2 else a
def knownL (a:Int):Bool:=decide (a≤1)
def notL (a:Int):Int:=if a≤1 then 1-a else 2
def muxL (s a b:Int):Int:=if s=0 then readL a else if s=1 then readL b else if a=b then readL a else 2
def triL (e d:Int):Int:=if e=0 then 3 else if e=1 then readL d else 2
def bare:List AObj:=List.replicate NG .dead
noncomputable def runAt (l:List AObj) (f:FuncId) (vs:Array Value):Option Value:=(runFn Tryz.prog [] (orcExt Tryz.prog) 60 f vs (heapOf l)).map (·.1)
theorem of_runAt {l:List AObj}{f:FuncId}{vs:Array Value}{v:Value} (e:runAt l f vs=some v):∃ h',CallD Tryz.prog NG f vs (heapOf l) v h':=by
 unfold runAt at e
 cases q:runFn Tryz.prog [] (orcExt Tryz.prog) 60 f vs (heapOf l) with
 |none=>simp[q] at e
 |some r =>
  obtain⟨v',h'⟩:=r
  simp[q] at e
  subst e
  exact⟨h',(runFn_sound hM hP (fun f vs h v e=>orcExt_sound f vs h v e) 60 _ _ _ _ _ q).1⟩
theorem bears_bare {h:Heap} (hs:NG≤h.size):Bears NG (heapOf bare) h:=by
 refine⟨rfl,hs,fun g o e=>.inl ?_⟩
 rw[heapOf_get] at e
 have:=List.mem_of_getElem? e
 simp only[bare,List.mem_replicate] at this
 exact this.2
theorem of_bare {f:FuncId}{vs:Array Value}{v:Value}{h:Heap} (e:runAt bare f vs=some v) (h1:vs.all plain=true) (h2:flatV v=true):CallD Tryz.prog NG f vs h v h:=by
 obtain⟨h',c⟩:=of_runAt e
 exact CallD.sized fun hs=>c.lift h1 h2 (bears_bare hs)
variable {h:Heap}
theorem clean_ok {a:Int} (ha:0≤a):CallD Tryz.prog NG 69 #[u8 a] h (u8 (cleanL a)) h:=by
 rcases cls5_cases ha with rfl|rfl|rfl|rfl|⟨n,rfl⟩
 iterate 4 exact of_bare (by kernel_rfl) (by kernel_rfl) (by kernel_rfl)
 have:cleanL (Int.ofNat (n+4))=2:=by unfold cleanL;rw[if_pos (by simp only[Int.ofNat_eq_natCast];omega)]
 rw[this]
 exact of_bare (by kernel_rfl) (by kernel_rfl) (by kernel_rfl)
theorem read_ok {a:Int} (ha:0≤a):CallD Tryz.prog NG 68 #[u8 a] h (u8 (readL a)) h:=by
 rcases cls5_cases ha with rfl|rfl|rfl|rfl|⟨n,rfl⟩
 iterate 4 exact of_bare (by kernel_rfl) (by kernel_rfl) (by kernel_rfl)
 have:readL (Int.ofNat (n+4))=2:=by unfold readL;rw[if_pos (by simp only[Int.ofNat_eq_natCast];omega)]
 rw[this]
 exact of_bare (by kernel_rfl) (by kernel_rfl) (by kernel_rfl)
theorem known_ok {a:Int} (ha:0≤a):CallD Tryz.prog NG 40 #[u8 a] h (.bool (knownL a)) h:=by
 rcases cls5_cases ha with rfl|rfl|rfl|rfl|⟨n,rfl⟩
 iterate 4 exact of_bare (by kernel_rfl) (by kernel_rfl) (by kernel_rfl)
 have:knownL (Int.ofNat (n+4))=false:=by unfold knownL;simp only[Int.ofNat_eq_natCast,decide_eq_false_iff_not];omega
 rw[this]
 exact of_bare (by kernel_rfl) (by kernel_rfl) (by kernel_rfl)
theorem not_ok {a:Int} (ha:0≤a):CallD Tryz.prog NG 83 #[u8 a] h (u8 (notL a)) h:=by
 rcases cls5_cases ha with rfl|rfl|rfl|rfl|⟨n,rfl⟩
 iterate 4 exact of_bare (by kernel_rfl) (by kernel_rfl) (by kernel_rfl)
 have:notL (Int.ofNat (n+4))=2:=by unfold notL;rw[if_neg (by simp only[Int.ofNat_eq_natCast];omega)]
 rw[this]
 exact of_bare (by kernel_rfl) (by kernel_rfl) (by kernel_rfl)
theorem readL_nonneg {a:Int} (ha:0≤a):0≤readL a:=by unfold readL;split <;> omega
theorem notL_nonneg {a:Int}:0≤notL a:=by unfold notL;split <;> omega
theorem mux_ok {s a b:Int} (ha:0≤a) (hb:0≤b):CallD Tryz.prog NG 87 #[u8 s,u8 a,u8 b] h (u8 (muxL s a b)) h:=by
 unfold muxL
 refine fnP hM Tryz.func87 rfl (hP _ _ rfl Tryz.func87) (lbE rfl) (by kernel_rfl) ?_;(conv=>whnf);repeat(first|apply Cs|apply Rs|apply Rx);conv=>whnf
 refine⟨_,rfl,fun hc=>?_,fun hc=>?_⟩
 · rw[beq_iff_eq] at hc
   rw[if_pos hc]
   ((conv=>whnf);repeat(first|apply Cs|apply Rs|apply Rx);conv=>whnf)
   refine⟨_,_,read_ok ha,?_⟩
   ((conv=>whnf);repeat(first|apply Cs|apply Rs|apply Rx);conv=>whnf)
   exact⟨rfl,Ext.refl _⟩
 rw[beq_eq_false_iff_ne] at hc
 rw[if_neg hc]
 ((conv=>whnf);repeat(first|apply Cs|apply Rs|apply Rx);conv=>whnf)
 refine⟨_,rfl,fun hc=>?_,fun hc=>?_⟩
 · rw[beq_iff_eq] at hc
   rw[if_pos hc]
   ((conv=>whnf);repeat(first|apply Cs|apply Rs|apply Rx);conv=>whnf)
   refine⟨_,_,read_ok hb,?_⟩
   ((conv=>whnf);repeat(first|apply Cs|apply Rs|apply Rx);conv=>whnf)
   exact⟨rfl,Ext.refl _⟩
 rw[beq_eq_false_iff_ne] at hc
 rw[if_neg hc]
 ((conv=>whnf);repeat(first|apply Cs|apply Rs|apply Rx);conv=>whnf)
 refine⟨_,rfl,fun hc=>?_,fun hc=>?_⟩
 · rw[beq_iff_eq] at hc
   rw[if_pos hc]
   ((conv=>whnf);repeat(first|apply Cs|apply Rs|apply Rx);conv=>whnf)
   refine⟨_,_,read_ok ha,?_⟩
   ((conv=>whnf);repeat(first|apply Cs|apply Rs|apply Rx);conv=>whnf)
   exact⟨rfl,Ext.refl _⟩
 rw[beq_eq_false_iff_ne] at hc
 rw[if_neg hc]
 ((conv=>whnf);repeat(first|apply Cs|apply Rs|apply Rx);conv=>whnf)
 exact⟨rfl,Ext.refl _⟩
theorem tri_ok {e d:Int} (hd:0≤d):CallD Tryz.prog NG 88 #[u8 e,u8 d] h (u8 (triL e d)) h:=by
 unfold triL
 refine fnP hM Tryz.func88 rfl (hP _ _ rfl Tryz.func88) (lbE rfl) (by kernel_rfl) ?_;(conv=>whnf);repeat(first|apply Cs|apply Rs|apply Rx);conv=>whnf
 refine⟨_,rfl,fun hc=>?_,fun hc=>?_⟩
 · rw[beq_iff_eq] at hc
   rw[if_pos hc]
   ((conv=>whnf);repeat(first|apply Cs|apply Rs|apply Rx);conv=>whnf)
   exact⟨rfl,Ext.refl _⟩
 rw[beq_eq_false_iff_ne] at hc
 rw[if_neg hc]
 ((conv=>whnf);repeat(first|apply Cs|apply Rs|apply Rx);conv=>whnf)
 refine⟨_,rfl,fun hc=>?_,fun hc=>?_⟩
 · rw[beq_iff_eq] at hc
   rw[if_pos hc]
   ((conv=>whnf);repeat(first|apply Cs|apply Rs|apply Rx);conv=>whnf)
   refine⟨_,_,read_ok hd,?_⟩
   ((conv=>whnf);repeat(first|apply Cs|apply Rs|apply Rx);conv=>whnf)
   exact⟨rfl,Ext.refl _⟩
 rw[beq_eq_false_iff_ne] at hc
 rw[if_neg hc]
 ((conv=>whnf);repeat(first|apply Cs|apply Rs|apply Rx);conv=>whnf)
 exact⟨rfl,Ext.refl _⟩
def vals (l:List Int):List Value:=l.map u8
def idxI:Option Nat→Int
 |some i=>Int.ofNat i
 |none => -1
theorem drop_cons {α:Type}{l:List α}{i:Nat} (h:i<l.length):l.drop i=l[i]::l.drop (i+1):=(List.getElem_cons_drop h).symm
theorem sl_len {h:Heap}{a:Option Addr}{n cap:Nat}{l:List Int} (hs:Sl h 1 (.slice a n cap) (vals l)):n=l.length:=by
 have:=hs.len;simpa[vals] using this
theorem vals_get {l:List Int}{i:Nat} (h:i<l.length):(vals l)[i]?=some (u8 l[i]):=by simp[vals,h]
theorem idx_found {l:List Int}{p:Int→Bool}{i:Nat} (hi:i<l.length) (hp:p l[i]=true) (hI:∀ j (hj:j<l.length),j<i→p l[j]=false):l.findIdx? p=some i:=by
 rw[List.findIdx?_eq_some_iff_getElem]
 exact⟨hi,hp,fun j hj=>by rw[hI j (by omega) hj];simp⟩
theorem idx_none {l:List Int}{p:Int→Bool} (hI:∀ j (hj:j<l.length),j<l.length→p l[j]=false):l.findIdx? p=none:=by
 rw[List.findIdx?_eq_none_iff]
 intro x hx
 obtain⟨j,hj,rfl⟩:=List.getElem_of_mem hx
 exact hI j hj hj
theorem idx_next {l:List Int}{p:Int→Bool}{i:Nat} (hi:i<l.length) (hp:p l[i]=false) (hI:∀ j (hj:j<l.length),j<i→p l[j]=false):∀ j (hj:j<l.length),j<i+1→p l[j]=false:=by
 intro j hj hlt
 by_cases e:j=i
 ·subst e;exact hp
 ·exact hI j hj (by omega)
theorem idxI_some (i:Nat):ltI (idxI (some i)) 0=false:=by
 rw[ltI_eq];exact decide_eq_false (show ¬ ((i:Int)<0) by omega)
theorem idxI_neg {l:List Int}{p:Int→Bool}:(!ltI (idxI (l.findIdx? p)) 0)=l.any p:=by
 cases e:l.findIdx? p with
 |none =>
  rw[List.findIdx?_eq_none_iff] at e
  symm
  rw[show (!ltI (idxI none) 0)=false from rfl,List.any_eq_false]
  intro x hx;rw[e x hx];simp
 |some i =>
  rw[List.findIdx?_eq_some_iff_getElem] at e
  obtain⟨h1,h2,_⟩:=e
  symm
  rw[idxI_some,Bool.not_false,List.any_eq_true]
  exact⟨_,List.getElem_mem h1,h2⟩
variable {h:Heap} {a:Option Addr} {n cap:Nat} {l:List Int}
theorem indexFunc_ok (hs:Sl h 1 (.slice a n cap) (vals l)) (hl:∀ x∈l,0≤x) (hn:l.length<2 ^ 62) {f:FuncId}{p:Int→Bool} (hp:∀ x,0≤x→CallD Tryz.prog NG f #[u8 x] h (.bool (p x)) h) :
   CallD Tryz.prog NG 100 #[.slice a n cap,.func (.func f) #[] #[]] h (.int .i64 (idxI (l.findIdx? p))) h:=by
 obtain rfl:=sl_len hs
 refine fnP hM Tryz.func100 rfl (hP _ _ rfl Tryz.func100) (lbE rfl) (by kernel_rfl) ?_;(conv=>whnf);repeat(first|apply Cs|apply Rs|apply Rx);conv=>whnf
 refine loopG (σ:=Nat) (nn:=19) hM (by kernel_rfl) (fun i h1=>h1=h∧i≤l.length∧∀ j (hj:j<l.length),j<i→p l[j]=false)
   (fun i=>[(0,.slice a l.length cap),(1,.func (.func f) #[] #[]),(7,.int .i64 (Int.ofNat l.length)),(8,.int .i64 (Int.ofNat i))]) (fun i=>l.length-i) rfl
   ⟨0,⟨rfl,Nat.zero_le _,fun j _ hj=>by omega⟩,rfl,rfl,rfl,rfl,trivial⟩ ?_
 rintro i base h1 ⟨rfl,hi,hI⟩
 ((conv=>whnf);repeat(first|apply Cs|apply Rs|apply Rx);conv=>whnf)
 refine⟨_,rfl,fun hc=>?_,fun hc=>?_⟩
 · replace hc:=lt_of_ltI hc
   ((conv=>whnf);repeat(first|apply Cs|apply Rs|apply Rx);conv=>whnf)
   refine hs.indexK rfl rfl rfl rfl (j:=i) (vals_get hc) fun g off cs ro hg he=>?_
   ((conv=>whnf);repeat(first|apply Cs|apply Rs|apply Rx);conv=>whnf)
   refine⟨_,he.loadK hg (i:=0) rfl rfl rfl,?_⟩
   ((conv=>whnf);repeat(first|apply Cs|apply Rs|apply Rx);conv=>whnf)
   refine⟨_,_,hp _ (hl _ (List.getElem_mem hc)),?_⟩
   ((conv=>whnf);repeat(first|apply Cs|apply Rs|apply Rx);conv=>whnf)
   refine⟨_,rfl,fun hv=>?_,fun hv=>?_⟩
   · ((conv=>whnf);repeat(first|apply Cs|apply Rs|apply Rx);conv=>whnf)
     rw[idx_found hc hv hI]
     exact⟨rfl,Ext.refl _⟩
   · ((conv=>whnf);repeat(first|apply Cs|apply Rs|apply Rx);conv=>whnf)
     refine⟨_,addK (b:=1) rfl rfl (by omega),?_⟩;(conv=>whnf);repeat(first|apply Cs|apply Rs|apply Rx);conv=>whnf
     exact⟨i+1,by omega,⟨rfl,hc,idx_next hc hv hI⟩,rfl,rfl,rfl,rfl,trivial⟩
 · replace hc:=ge_of_ltI hc
   obtain rfl:i=l.length:=by omega
   ((conv=>whnf);repeat(first|apply Cs|apply Rs|apply Rx);conv=>whnf)
   rw[idx_none hI]
   exact⟨rfl,Ext.refl _⟩
theorem index_ok (hs:Sl h 1 (.slice a n cap) (vals l)) (hn:l.length<2 ^ 62) (x:Int) :
   CallD Tryz.prog NG 127 #[.slice a n cap,u8 x] h (.int .i64 (idxI (l.findIdx? fun y=>x==y))) h:=by
 obtain rfl:=sl_len hs
 refine fnP hM Tryz.func127 rfl (hP _ _ rfl Tryz.func127) (lbE rfl) (by kernel_rfl) ?_;(conv=>whnf);repeat(first|apply Cs|apply Rs|apply Rx);conv=>whnf
 refine loopG (σ:=Nat) (nn:=19) hM (by kernel_rfl) (fun i h1=>h1=h∧i≤l.length∧∀ j (hj:j<l.length),j<i→(fun y=>x==y) l[j]=false)
   (fun i=>[(0,.slice a l.length cap),(1,u8 x),(7,.int .i64 (Int.ofNat l.length)),(8,.int .i64 (Int.ofNat i))]) (fun i=>l.length-i) rfl
   ⟨0,⟨rfl,Nat.zero_le _,fun j _ hj=>by omega⟩,rfl,rfl,rfl,rfl,trivial⟩ ?_
 rintro i base h1 ⟨rfl,hi,hI⟩
 ((conv=>whnf);repeat(first|apply Cs|apply Rs|apply Rx);conv=>whnf)
 refine⟨_,rfl,fun hc=>?_,fun hc=>?_⟩
 · replace hc:=lt_of_ltI hc
   ((conv=>whnf);repeat(first|apply Cs|apply Rs|apply Rx);conv=>whnf)
   refine hs.indexK rfl rfl rfl rfl (j:=i) (vals_get hc) fun g off cs ro hg he=>?_
   ((conv=>whnf);repeat(first|apply Cs|apply Rs|apply Rx);conv=>whnf)
   refine⟨_,he.loadK hg (i:=0) rfl rfl rfl,?_⟩
   ((conv=>whnf);repeat(first|apply Cs|apply Rs|apply Rx);conv=>whnf)
   refine⟨_,rfl,fun hv=>?_,fun hv=>?_⟩
   · ((conv=>whnf);repeat(first|apply Cs|apply Rs|apply Rx);conv=>whnf)
     rw[idx_found hc hv hI]
     exact⟨rfl,Ext.refl _⟩
   · ((conv=>whnf);repeat(first|apply Cs|apply Rs|apply Rx);conv=>whnf)
     refine⟨_,addK (b:=1) rfl rfl (by omega),?_⟩;(conv=>whnf);repeat(first|apply Cs|apply Rs|apply Rx);conv=>whnf
     exact⟨i+1,by omega,⟨rfl,hc,idx_next hc hv hI⟩,rfl,rfl,rfl,rfl,trivial⟩
 · replace hc:=ge_of_ltI hc
   obtain rfl:i=l.length:=by omega
   ((conv=>whnf);repeat(first|apply Cs|apply Rs|apply Rx);conv=>whnf)
   rw[idx_none hI]
   exact⟨rfl,Ext.refl _⟩
theorem contains_ok (hs:Sl h 1 (.slice a n cap) (vals l)) (hn:l.length<2 ^ 62) (x:Int) :
   CallD Tryz.prog NG 125 #[.slice a n cap,u8 x] h (.bool (l.any fun y=>x==y)) h:=by
 rw[← idxI_neg]
 refine fnP hM Tryz.func125 rfl (hP _ _ rfl Tryz.func125) (lbE rfl) (by kernel_rfl) ?_;(conv=>whnf);repeat(first|apply Cs|apply Rs|apply Rx);conv=>whnf
 refine⟨_,_,index_ok hs hn x,?_⟩
 ((conv=>whnf);repeat(first|apply Cs|apply Rs|apply Rx);conv=>whnf)
 exact⟨rfl,Ext.refl _⟩
theorem containsFunc_ok (hs:Sl h 1 (.slice a n cap) (vals l)) (hl:∀ x∈l,0≤x) (hn:l.length<2 ^ 62) {f:FuncId}{p:Int→Bool} (hp:∀ x,0≤x→CallD Tryz.prog NG f #[u8 x] h (.bool (p x)) h) :
   CallD Tryz.prog NG 70 #[.slice a n cap,.func (.func f) #[] #[]] h (.bool (l.any p)) h:=by
 rw[← idxI_neg]
 refine fnP hM Tryz.func70 rfl (hP _ _ rfl Tryz.func70) (lbE rfl) (by kernel_rfl) ?_;(conv=>whnf);repeat(first|apply Cs|apply Rs|apply Rx);conv=>whnf
 refine⟨_,_,indexFunc_ok hs hl hn hp,?_⟩
 ((conv=>whnf);repeat(first|apply Cs|apply Rs|apply Rx);conv=>whnf)
 exact⟨rfl,Ext.refl _⟩
def conflictL (l:List Int):Bool:=(l.any fun y=>0==y)&&(l.any fun y=>1==y)
theorem conflict_ok (hs:Sl h 1 (.slice a n cap) (vals l)) (hn:l.length<2 ^ 62) :
   CallD Tryz.prog NG 111 #[.slice a n cap] h (.bool (conflictL l)) h:=by
 unfold conflictL
 refine fnP hM Tryz.func111 rfl (hP _ _ rfl Tryz.func111) (lbE rfl) (by kernel_rfl) ?_;(conv=>whnf);repeat(first|apply Cs|apply Rs|apply Rx);conv=>whnf
 refine⟨_,_,contains_ok hs hn 0,?_⟩
 ((conv=>whnf);repeat(first|apply Cs|apply Rs|apply Rx);conv=>whnf)
 refine⟨_,rfl,fun hc=>?_,fun hc=>?_⟩
 · rw[hc]
   ((conv=>whnf);repeat(first|apply Cs|apply Rs|apply Rx);conv=>whnf)
   refine⟨_,_,contains_ok hs hn 1,?_⟩
   ((conv=>whnf);repeat(first|apply Cs|apply Rs|apply Rx);conv=>whnf)
   exact⟨rfl,Ext.refl _⟩
 · rw[hc]
   ((conv=>whnf);repeat(first|apply Cs|apply Rs|apply Rx);conv=>whnf)
   exact⟨rfl,Ext.refl _⟩
def busL (l:List Int):Int :=
 match l.findIdx? fun v=>v != 3 with
 |none=>3
 |some i=>if (conflictL l||l.any fun v=>cleanL v==2)=true then 2 else l.getD i 0
theorem bus1_ok (x:Int) (hx:0≤x):CallD Tryz.prog NG 109 #[u8 x] h (.bool (cleanL x==2)) h:=by
 refine fnP hM Tryz.func109 rfl (hP _ _ rfl Tryz.func109) (lbE rfl) (by kernel_rfl) ?_;(conv=>whnf);repeat(first|apply Cs|apply Rs|apply Rx);conv=>whnf
 refine⟨_,_,clean_ok hx,?_⟩
 ((conv=>whnf);repeat(first|apply Cs|apply Rs|apply Rx);conv=>whnf)
 exact⟨rfl,Ext.refl _⟩
theorem bus2_ok (x:Int) (_:0≤x):CallD Tryz.prog NG 110 #[u8 x] h (.bool (x != 3)) h:=by
 refine fnP hM Tryz.func110 rfl (hP _ _ rfl Tryz.func110) (lbE rfl) (by kernel_rfl) ?_;(conv=>whnf);repeat(first|apply Cs|apply Rs|apply Rx);conv=>whnf
 exact⟨rfl,Ext.refl _⟩
theorem bus_ok (hs:Sl h 1 (.slice a n cap) (vals l)) (hl:∀ x∈l,0≤x) (hn:l.length<2 ^ 62) :
   CallD Tryz.prog NG 89 #[.slice a n cap] h (u8 (busL l)) h:=by
 obtain rfl:=sl_len hs
 unfold busL
 refine fnP hM Tryz.func89 rfl (hP _ _ rfl Tryz.func89) (lbE rfl) (by kernel_rfl) ?_;(conv=>whnf);repeat(first|apply Cs|apply Rs|apply Rx);conv=>whnf
 refine⟨_,_,indexFunc_ok hs hl hn (p:=fun v=>v != 3) bus2_ok,?_⟩
 ((conv=>whnf);repeat(first|apply Cs|apply Rs|apply Rx);conv=>whnf)
 cases e:l.findIdx? (fun v=>v != 3) with
 | none =>
   ((conv=>whnf);repeat(first|apply Cs|apply Rs|apply Rx);conv=>whnf)
   refine⟨true,rfl,fun _=>?_,fun hc=>by cases hc⟩
   ((conv=>whnf);repeat(first|apply Cs|apply Rs|apply Rx);conv=>whnf)
   exact⟨rfl,Ext.refl _⟩
 | some i =>
   have hi:i<l.length:=by
     rw[List.findIdx?_eq_some_iff_getElem] at e
     exact e.1
   ((conv=>whnf);repeat(first|apply Cs|apply Rs|apply Rx);conv=>whnf)
   refine⟨_,rfl,fun hc=>?_,fun hc=>?_⟩
   · rw[idxI_some] at hc;cases hc
   ((conv=>whnf);repeat(first|apply Cs|apply Rs|apply Rx);conv=>whnf)
   refine⟨_,_,conflict_ok hs hn,?_⟩
   ((conv=>whnf);repeat(first|apply Cs|apply Rs|apply Rx);conv=>whnf)
   refine⟨_,rfl,fun hc=>?_,fun hc=>?_⟩
   · rw[hc]
     ((conv=>whnf);repeat(first|apply Cs|apply Rs|apply Rx);conv=>whnf)
     refine⟨true,rfl,fun _=>?_,fun hc=>by cases hc⟩
     ((conv=>whnf);repeat(first|apply Cs|apply Rs|apply Rx);conv=>whnf)
     exact⟨rfl,Ext.refl _⟩
   rw[hc]
   ((conv=>whnf);repeat(first|apply Cs|apply Rs|apply Rx);conv=>whnf)
   refine⟨_,_,containsFunc_ok hs hl hn (p:=fun v=>cleanL v==2) bus1_ok,?_⟩
   ((conv=>whnf);repeat(first|apply Cs|apply Rs|apply Rx);conv=>whnf)
   refine⟨_,rfl,fun hc=>?_,fun hc=>?_⟩
   · rw[hc]
     ((conv=>whnf);repeat(first|apply Cs|apply Rs|apply Rx);conv=>whnf)
     exact⟨rfl,Ext.refl _⟩
   rw[hc]
   ((conv=>whnf);repeat(first|apply Cs|apply Rs|apply Rx);conv=>whnf)
   refine hs.indexK rfl rfl rfl rfl (j:=i) (vals_get hi) fun g off cs ro hg he=>?_
   ((conv=>whnf);repeat(first|apply Cs|apply Rs|apply Rx);conv=>whnf)
   refine⟨_,he.loadK hg (i:=0) rfl rfl rfl,?_⟩
   ((conv=>whnf);repeat(first|apply Cs|apply Rs|apply Rx);conv=>whnf)
   refine⟨?_,Ext.refl _⟩
   show u8 l[i]=u8 (l.getD i 0)
   rw[List.getD_eq_getElem?_getD,List.getElem?_eq_getElem hi]
   rfl
def Vars (h:Heap):Prop:=h.get 0=some (.cells fanins true)
theorem Vars.ext {h h1:Heap} (v:Vars h) (e:Ext h h1):Vars h1:=e.get v
theorem vars_get {g:Nat}{o:AObj} (e:vars[g]?=some o):o=.dead∨(g=0∧o=.cells fanins true):=by
 match g,e with
 |0,e=>simp only[vars,List.getElem?_cons_zero,Option.some.injEq] at e;exact .inr ⟨rfl,e.symm⟩
 |1,e=>simp only[vars,List.getElem?_cons_succ,List.getElem?_cons_zero,Option.some.injEq] at e;exact .inl e.symm
theorem bears_vars {h:Heap} (hs:NG≤h.size) (v:Vars h):Bears NG (heapOf vars) h:=by
 refine⟨rfl,hs,fun g o e=>?_⟩
 rw[heapOf_get] at e
 rcases vars_get e with rfl|⟨rfl,rfl⟩
 ·exact .inl rfl
 ·exact .inr ⟨_,rfl,v,by kernel_rfl⟩
theorem of_vars {f:FuncId}{vs:Array Value}{v:Value}{h:Heap} (hv:Vars h) (e:runAt vars f vs=some v) (h1:vs.all plain=true) (h2:flatV v=true):CallD Tryz.prog NG f vs h v h:=by
 obtain⟨h',c⟩:=of_runAt e
 exact CallD.sized fun hs=>c.lift h1 h2 (bears_vars hs hv)
theorem kinds {k:Int} (h:0≤k):k=0∨k=1∨k=2∨k=3∨k=4∨k=5∨k=6∨k=7∨k=8∨k=9∨k=10∨k=11∨k=12∨k=13∨k=14∨k=15∨∃ n:Nat,k=Int.ofNat (n+16):=by
 by_cases c:k<16
 ·omega
 ·iterate 16 refine .inr ?_
  exact⟨(k-16).toNat,by simp only[Int.ofNat_eq_natCast];omega⟩
def loL (k:Int):Int:=if k<16 then ([0,0,0,1,1,2,2,2,2,2,2,3,2,1,1,0]:List Int).getD k.toNat 0 else 0
def hiL (k:Int):Int:=if k<16 then ([0,0,0,1,1,16,16,16,16,16,16,3,2,16,1,0]:List Int).getD k.toNat 0 else -1
theorem loL_big (n:Nat):loL (Int.ofNat (n+16))=0:=by unfold loL;rw[if_neg (by simp only[Int.ofNat_eq_natCast];omega)]
theorem hiL_big (n:Nat):hiL (Int.ofNat (n+16)) = -1:=by unfold hiL;rw[if_neg (by simp only[Int.ofNat_eq_natCast];omega)]
theorem fanin_ok {k:Int} (hk:0≤k) (hk2:k<256) {h:Heap} (hv:Vars h):CallD Tryz.prog NG 67 #[u8 k] h (.tuple #[.int .i64 (loL k),.int .i64 (hiL k)]) h:=by
 rcases kinds hk with rfl|rfl|rfl|rfl|rfl|rfl|rfl|rfl|rfl|rfl|rfl|rfl|rfl|rfl|rfl|rfl|⟨n,rfl⟩
 iterate 16 exact of_vars hv (by kernel_rfl) (by kernel_rfl) (by kernel_rfl)
 rw[loL_big,hiL_big]
 refine fnP hM Tryz.func67 rfl (hP _ _ rfl Tryz.func67) (lbE rfl) (by kernel_rfl) ?_;(conv=>whnf);repeat(first|apply Cs|apply Rs|apply Rx);conv=>whnf
 refine⟨_,convIntK rfl rfl rfl (IntWalk.i64_in _ (by omega)),?_⟩
 ((conv=>whnf);repeat(first|apply Cs|apply Rs|apply Rx);conv=>whnf)
 refine⟨true,rfl,fun _=>?_,fun hc=>by cases hc⟩
 ((conv=>whnf);repeat(first|apply Cs|apply Rs|apply Rx);conv=>whnf)
 exact⟨rfl,Ext.refl _⟩
def controlL (k:Int):Int:=if k=5∨k=6 then 0 else if k=7∨k=8 then 1 else 2
def controlB (k:Int):Bool:=decide (k=5∨k=6∨k=7∨k=8)
def invertsL (k:Int):Bool:=decide (k=4∨k=6∨k=8∨k=10)
theorem control_ok {k:Int} (hk:0≤k) {h:Heap}:CallD Tryz.prog NG 123 #[u8 k] h (.tuple #[u8 (controlL k),.bool (controlB k)]) h:=by
 rcases kinds hk with rfl|rfl|rfl|rfl|rfl|rfl|rfl|rfl|rfl|rfl|rfl|rfl|rfl|rfl|rfl|rfl|⟨n,rfl⟩
 iterate 16 exact of_bare (by kernel_rfl) (by kernel_rfl) (by kernel_rfl)
 have h1:controlL (Int.ofNat (n+16))=2:=by unfold controlL;rw[if_neg (by simp only[Int.ofNat_eq_natCast];omega),if_neg (by simp only[Int.ofNat_eq_natCast];omega)]
 have h2:controlB (Int.ofNat (n+16))=false:=by unfold controlB;exact decide_eq_false (by simp only[Int.ofNat_eq_natCast];omega)
 rw[h1,h2]
 exact of_bare (by kernel_rfl) (by kernel_rfl) (by kernel_rfl)
theorem inverts_ok {k:Int} (hk:0≤k) {h:Heap}:CallD Tryz.prog NG 139 #[u8 k] h (.bool (invertsL k)) h:=by
 rcases kinds hk with rfl|rfl|rfl|rfl|rfl|rfl|rfl|rfl|rfl|rfl|rfl|rfl|rfl|rfl|rfl|rfl|⟨n,rfl⟩
 iterate 16 exact of_bare (by kernel_rfl) (by kernel_rfl) (by kernel_rfl)
 have h2:invertsL (Int.ofNat (n+16))=false:=by unfold invertsL;exact decide_eq_false (by simp only[Int.ofNat_eq_natCast];omega)
 rw[h2]
 exact of_bare (by kernel_rfl) (by kernel_rfl) (by kernel_rfl)
variable {h:Heap} {a:Option Addr} {n cap:Nat} {l:List Int}
def decidedGo (low high:Int):List Int→Int→Int
 |[],out=>out
 |v::r,out=>if v=low then low else decidedGo low high r (if v=high then out else 2)
theorem decided_ok (hs:Sl h 1 (.slice a n cap) (vals l)) (low high:Int) (hn:l.length<2 ^ 62) :
   CallD Tryz.prog NG 108 #[.slice a n cap,u8 low,u8 high] h (u8 (decidedGo low high l high)) h:=by
 obtain rfl:=sl_len hs
 refine fnP hM Tryz.func108 rfl (hP _ _ rfl Tryz.func108) (lbE rfl) (by kernel_rfl) ?_;(conv=>whnf);repeat(first|apply Cs|apply Rs|apply Rx);conv=>whnf
 refine loopG (σ:=Nat×Int) (nn:=28) hM (by kernel_rfl) (fun (i,out) h1=>h1=h∧i≤l.length∧decidedGo low high (l.drop i) out=decidedGo low high l high)
   (fun (i,out)=>[(1,u8 low),(2,u8 high),(7,u8 out),(11,.slice a l.length cap),(12,.int .i64 (Int.ofNat l.length)),(13,.int .i64 (Int.ofNat i))]) (fun (i,_)=>l.length-i) rfl
   ⟨(0,high),⟨rfl,Nat.zero_le _,rfl⟩,rfl,rfl,rfl,rfl,rfl,rfl,trivial⟩ ?_
 rintro⟨i,out⟩ base h1 ⟨rfl,hi,hI⟩
 ((conv=>whnf);repeat(first|apply Cs|apply Rs|apply Rx);conv=>whnf)
 refine⟨_,rfl,fun hc=>?_,fun hc=>?_⟩
 · replace hc:=lt_of_ltI hc
   ((conv=>whnf);repeat(first|apply Cs|apply Rs|apply Rx);conv=>whnf)
   refine hs.indexK rfl rfl rfl rfl (j:=i) (vals_get hc) fun g off cs ro hg he=>?_
   ((conv=>whnf);repeat(first|apply Cs|apply Rs|apply Rx);conv=>whnf)
   refine⟨_,he.loadK hg (i:=0) rfl rfl rfl,?_⟩
   ((conv=>whnf);repeat(first|apply Cs|apply Rs|apply Rx);conv=>whnf)
   rw[drop_cons hc,decidedGo] at hI
   refine⟨_,rfl,fun hv=>?_,fun hv=>?_⟩
   · ((conv=>whnf);repeat(first|apply Cs|apply Rs|apply Rx);conv=>whnf)
     rw[beq_iff_eq] at hv
     rw[if_pos hv] at hI
     exact⟨congrArg u8 hI,Ext.refl _⟩
   · ((conv=>whnf);repeat(first|apply Cs|apply Rs|apply Rx);conv=>whnf)
     rw[beq_eq_false_iff_ne] at hv
     rw[if_neg hv] at hI
     refine⟨_,rfl,fun hw=>?_,fun hw=>?_⟩
     · ((conv=>whnf);repeat(first|apply Cs|apply Rs|apply Rx);conv=>whnf)
       rw[bne_iff_ne] at hw
       rw[if_neg hw] at hI
       refine⟨_,addK (b:=1) rfl rfl (by omega),?_⟩;(conv=>whnf);repeat(first|apply Cs|apply Rs|apply Rx);conv=>whnf
       exact⟨(i+1,2),by simp only;omega,⟨rfl,hc,hI⟩,rfl,rfl,rfl,rfl,rfl,rfl,trivial⟩
     · ((conv=>whnf);repeat(first|apply Cs|apply Rs|apply Rx);conv=>whnf)
       rw[bne_eq_false_iff_eq] at hw
       rw[if_pos hw] at hI
       refine⟨_,addK (b:=1) rfl rfl (by omega),?_⟩;(conv=>whnf);repeat(first|apply Cs|apply Rs|apply Rx);conv=>whnf
       exact⟨(i+1,out),by simp only;omega,⟨rfl,hc,hI⟩,rfl,rfl,rfl,rfl,rfl,rfl,trivial⟩
 · replace hc:=ge_of_ltI hc
   ((conv=>whnf);repeat(first|apply Cs|apply Rs|apply Rx);conv=>whnf)
   have:l.drop i=[]:=List.drop_eq_nil_of_le hc
   simp only[this,decidedGo] at hI
   exact⟨congrArg u8 hI,Ext.refl _⟩
def andL (l:List Int):Int:=decidedGo 0 1 l 1
def orL (l:List Int):Int:=decidedGo 1 0 l 0
theorem and_ok (hs:Sl h 1 (.slice a n cap) (vals l)) (hn:l.length<2 ^ 62):CallD Tryz.prog NG 84 #[.slice a n cap] h (u8 (andL l)) h:=by
 refine fnP hM Tryz.func84 rfl (hP _ _ rfl Tryz.func84) (lbE rfl) (by kernel_rfl) ?_;(conv=>whnf);repeat(first|apply Cs|apply Rs|apply Rx);conv=>whnf
 refine⟨_,_,decided_ok hs 0 1 hn,?_⟩
 ((conv=>whnf);repeat(first|apply Cs|apply Rs|apply Rx);conv=>whnf)
 exact⟨rfl,Ext.refl _⟩
theorem or_ok (hs:Sl h 1 (.slice a n cap) (vals l)) (hn:l.length<2 ^ 62):CallD Tryz.prog NG 85 #[.slice a n cap] h (u8 (orL l)) h:=by
 refine fnP hM Tryz.func85 rfl (hP _ _ rfl Tryz.func85) (lbE rfl) (by kernel_rfl) ?_;(conv=>whnf);repeat(first|apply Cs|apply Rs|apply Rx);conv=>whnf
 refine⟨_,_,decided_ok hs 1 0 hn,?_⟩
 ((conv=>whnf);repeat(first|apply Cs|apply Rs|apply Rx);conv=>whnf)
 exact⟨rfl,Ext.refl _⟩
def xor1 (a b:Int):Int:=if a=b then 0 else 1
def xorGo:List Int→Int→Int
 |[],out=>out
 |v::r,out=>if v≤1 then xorGo r (xor1 out v) else 2
def xorL (l:List Int):Int:=xorGo l 0
theorem xor1_bit {a b:Int}:xor1 a b=0∨xor1 a b=1:=by unfold xor1;split <;> simp
theorem xorK {ρ:Operand→Value}{d:Option Tmp}{ty:TypeId}{pos:String}{af:Array Edge}{gd:Option (Nat×Bool)}{t yt:TypeId}{x y:Operand}{a b:Int} (hx:ρ x=u8 a) (hy:ρ y=u8 b) (ha:a=0∨a=1) (hb:b=0∨b=1) :
  apure Tryz.prog ρ { dst:=d,op:=.binOp .xor t x y yt,type:=ty,pos:=pos,after:=af,guard:=gd }=some (u8 (xor1 a b)):=by
 rcases ha with rfl|rfl <;> rcases hb with rfl|rfl <;>
 ·refine bitsK (.inr (.inr (.inl rfl))) hx hy ?_
  kernel_rfl
theorem xor_ok (hs:Sl h 1 (.slice a n cap) (vals l)) (hl:∀ x∈l,0≤x) (hn:l.length<2 ^ 62):CallD Tryz.prog NG 86 #[.slice a n cap] h (u8 (xorL l)) h:=by
 obtain rfl:=sl_len hs
 refine fnP hM Tryz.func86 rfl (hP _ _ rfl Tryz.func86) (lbE rfl) (by kernel_rfl) ?_;(conv=>whnf);repeat(first|apply Cs|apply Rs|apply Rx);conv=>whnf
 refine loopG (σ:=Nat×Int) (nn:=20) hM (by kernel_rfl) (fun (i,out) h1=>h1=h∧i≤l.length∧(out=0∨out=1)∧xorGo (l.drop i) out=xorL l)
   (fun (i,out)=>[(3,u8 out),(6,.slice a l.length cap),(7,.int .i64 (Int.ofNat l.length)),(8,.int .i64 (Int.ofNat i))]) (fun (i,_)=>l.length-i) rfl
   ⟨(0,0),⟨rfl,Nat.zero_le _,.inl rfl,rfl⟩,rfl,rfl,rfl,rfl,trivial⟩ ?_
 rintro⟨i,out⟩ base h1 ⟨rfl,hi,ho,hI⟩
 ((conv=>whnf);repeat(first|apply Cs|apply Rs|apply Rx);conv=>whnf)
 refine⟨_,rfl,fun hc=>?_,fun hc=>?_⟩
 · replace hc:=lt_of_ltI hc
   have h0:=hl _ (List.getElem_mem hc)
   ((conv=>whnf);repeat(first|apply Cs|apply Rs|apply Rx);conv=>whnf)
   refine hs.indexK rfl rfl rfl rfl (j:=i) (vals_get hc) fun g off cs ro hg he=>?_
   ((conv=>whnf);repeat(first|apply Cs|apply Rs|apply Rx);conv=>whnf)
   refine⟨_,he.loadK hg (i:=0) rfl rfl rfl,?_⟩
   ((conv=>whnf);repeat(first|apply Cs|apply Rs|apply Rx);conv=>whnf)
   rw[drop_cons hc,xorGo] at hI
   refine⟨_,_,known_ok h0,?_⟩
   ((conv=>whnf);repeat(first|apply Cs|apply Rs|apply Rx);conv=>whnf)
   refine⟨_,rfl,fun hv=>?_,fun hv=>?_⟩
   · ((conv=>whnf);repeat(first|apply Cs|apply Rs|apply Rx);conv=>whnf)
     simp only[knownL,Bool.not_eq_true',decide_eq_false_iff_not] at hv
     rw[if_neg hv] at hI
     exact⟨congrArg u8 hI,Ext.refl _⟩
   · ((conv=>whnf);repeat(first|apply Cs|apply Rs|apply Rx);conv=>whnf)
     simp only[knownL,Bool.not_eq_false',decide_eq_true_eq] at hv
     rw[if_pos hv] at hI
     refine⟨_,xorK rfl rfl ho (by omega),?_⟩
     ((conv=>whnf);repeat(first|apply Cs|apply Rs|apply Rx);conv=>whnf)
     refine⟨_,addK (b:=1) rfl rfl (by omega),?_⟩;(conv=>whnf);repeat(first|apply Cs|apply Rs|apply Rx);conv=>whnf
     exact⟨(i+1,xor1 out l[i]),by simp only;omega,⟨rfl,hc,xor1_bit,hI⟩,rfl,rfl,rfl,rfl,trivial⟩
 · replace hc:=ge_of_ltI hc
   ((conv=>whnf);repeat(first|apply Cs|apply Rs|apply Rx);conv=>whnf)
   have:l.drop i=[]:=List.drop_eq_nil_of_le hc
   simp only[this,xorGo] at hI
   exact⟨congrArg u8 hI,Ext.refl _⟩
def evalL (k:Int) (l:List Int):Int :=
 if (l.length:Int)<loL k then 2
 else if hiL k<l.length then 2
 else if k=1 then 0
 else if k=2 then 1
 else if k=3 then readL (l.getD 0 0)
 else if k=4 then notL (l.getD 0 0)
 else if k=5 then andL l
 else if k=6 then notL (andL l)
 else if k=7 then orL l
 else if k=8 then notL (orL l)
 else if k=9 then xorL l
 else if k=10 then notL (xorL l)
 else if k=11 then muxL (l.getD 0 0) (l.getD 1 0) (l.getD 2 0)
 else if k=12 then triL (l.getD 0 0) (l.getD 1 0)
 else if k=13 then busL l
 else 2
theorem decidedGo_nonneg {low high:Int} (hlow:0≤low):∀ (l:List Int) (o:Int),0≤o→0≤decidedGo low high l o
 |[],_,ho=>ho
 |v::r,o,ho=>by
  unfold decidedGo
  split
  ·exact hlow
  ·exact decidedGo_nonneg hlow r _ (by split <;> omega)
theorem andL_nonneg (l:List Int):0≤andL l:=decidedGo_nonneg (by decide) l _ (by decide)
theorem orL_nonneg (l:List Int):0≤orL l:=decidedGo_nonneg (by decide) l _ (by decide)
theorem xorGo_nonneg:∀ (l:List Int) (o:Int),0≤o→0≤xorGo l o
 |[],_,ho=>ho
 |v::r,o,ho=>by
  unfold xorGo
  split
  ·exact xorGo_nonneg r _ (by unfold xor1;split <;> omega)
  ·omega
theorem xorL_nonneg (l:List Int):0≤xorL l:=xorGo_nonneg l _ (by decide)
theorem getD_nonneg {l:List Int} (hl:∀ x∈l,0≤x) (i:Nat):0≤l.getD i 0:=by
 rw[List.getD_eq_getElem?_getD]
 cases e:l[i]? with
 |none=>exact Int.le_refl _
 |some x=>exact hl x (List.mem_of_getElem? e)
theorem vals_getD {l:List Int}{i:Nat} (h:i<l.length):(vals l)[i]?=some (u8 (l.getD i 0)):=by
 rw[vals_get h,List.getD_eq_getElem?_getD,List.getElem?_eq_getElem h];rfl
theorem lt_of_ltI' {a b:Int} (h:ltI a b=true):a<b:=by rw[ltI_eq] at h;simpa using h
theorem ge_of_ltI' {a b:Int} (h:ltI a b=false):b≤a:=by rw[ltI_eq] at h;simpa using h
theorem eval_ok {k:Int} (hk:0≤k) (hk2:k<256) (hv:Vars h) (hs:Sl h 1 (.slice a n cap) (vals l)) (hl:∀ x∈l,0≤x) (hn:l.length<2 ^ 62):CallD Tryz.prog NG 52 #[u8 k,.slice a n cap] h (u8 (evalL k l)) h:=by
 obtain rfl:=sl_len hs
 unfold evalL
 refine fnP hM Tryz.func52 rfl (hP _ _ rfl Tryz.func52) (lbE rfl) (by kernel_rfl) ?_;(conv=>whnf);repeat(first|apply Cs|apply Rs|apply Rx);conv=>whnf
 refine⟨_,_,fanin_ok hk hk2 hv,?_⟩
 ((conv=>whnf);repeat(first|apply Cs|apply Rs|apply Rx);conv=>whnf)
 refine⟨_,rfl,fun hc=>?_,fun hc=>?_⟩
 · replace hc:=lt_of_ltI' hc
   rw[if_pos hc]
   have hc':ltI (l.length:Int) (loL k)=true:=by rw[ltI_eq];simpa using hc
   simp only[hc']
   ((conv=>whnf);repeat(first|apply Cs|apply Rs|apply Rx);conv=>whnf)
   refine⟨true,rfl,fun _=>?_,fun hc=>by cases hc⟩
   ((conv=>whnf);repeat(first|apply Cs|apply Rs|apply Rx);conv=>whnf)
   exact⟨rfl,Ext.refl _⟩
 have hc':=hc
 replace hc:=ge_of_ltI' hc
 rw[if_neg (by omega)]
 simp only[hc']
 ((conv=>whnf);repeat(first|apply Cs|apply Rs|apply Rx);conv=>whnf)
 refine⟨_,rfl,fun hc=>?_,fun hc=>?_⟩
 · replace hc:=lt_of_ltI' hc
   rw[if_pos hc]
   ((conv=>whnf);repeat(first|apply Cs|apply Rs|apply Rx);conv=>whnf)
   exact⟨rfl,Ext.refl _⟩
 have hd:=ge_of_ltI' hc
 rw[if_neg (by omega)]
 clear hc
 ((conv=>whnf);repeat(first|apply Cs|apply Rs|apply Rx);conv=>whnf)
 have key:∀ x y:Int,(x==y)=true→x=y:=fun x y h=>by simpa using h
 have key':∀ x y:Int,(x==y)=false→¬ x=y:=fun x y h=>by simpa using h
 refine⟨_,rfl,fun hc=>?_,fun hc=>?_⟩
 · rw[if_pos (key _ _ hc)]
   ((conv=>whnf);repeat(first|apply Cs|apply Rs|apply Rx);conv=>whnf)
   exact⟨rfl,Ext.refl _⟩
 rw[if_neg (key' _ _ hc)]
 ((conv=>whnf);repeat(first|apply Cs|apply Rs|apply Rx);conv=>whnf)
 refine⟨_,rfl,fun hc=>?_,fun hc=>?_⟩
 · rw[if_pos (key _ _ hc)]
   ((conv=>whnf);repeat(first|apply Cs|apply Rs|apply Rx);conv=>whnf)
   exact⟨rfl,Ext.refl _⟩
 rw[if_neg (key' _ _ hc)]
 ((conv=>whnf);repeat(first|apply Cs|apply Rs|apply Rx);conv=>whnf)
 refine⟨_,rfl,fun hc=>?_,fun hc=>?_⟩
 · obtain rfl:=key _ _ hc
   rw[if_pos rfl]
   have h0:0<l.length:=by have:loL 3=1:=rfl;omega
   ((conv=>whnf);repeat(first|apply Cs|apply Rs|apply Rx);conv=>whnf)
   refine hs.indexK rfl rfl rfl rfl (j:=0) (vals_getD h0) fun g off cs ro hg he=>?_
   ((conv=>whnf);repeat(first|apply Cs|apply Rs|apply Rx);conv=>whnf)
   refine⟨_,he.loadK hg (i:=0) rfl rfl rfl,?_⟩
   ((conv=>whnf);repeat(first|apply Cs|apply Rs|apply Rx);conv=>whnf)
   refine⟨_,_,read_ok (getD_nonneg hl 0),?_⟩
   ((conv=>whnf);repeat(first|apply Cs|apply Rs|apply Rx);conv=>whnf)
   exact⟨rfl,Ext.refl _⟩
 rw[if_neg (key' _ _ hc)]
 ((conv=>whnf);repeat(first|apply Cs|apply Rs|apply Rx);conv=>whnf)
 refine⟨_,rfl,fun hc=>?_,fun hc=>?_⟩
 · obtain rfl:=key _ _ hc
   rw[if_pos rfl]
   have h0:0<l.length:=by have:loL 4=1:=rfl;omega
   ((conv=>whnf);repeat(first|apply Cs|apply Rs|apply Rx);conv=>whnf)
   refine hs.indexK rfl rfl rfl rfl (j:=0) (vals_getD h0) fun g off cs ro hg he=>?_
   ((conv=>whnf);repeat(first|apply Cs|apply Rs|apply Rx);conv=>whnf)
   refine⟨_,he.loadK hg (i:=0) rfl rfl rfl,?_⟩
   ((conv=>whnf);repeat(first|apply Cs|apply Rs|apply Rx);conv=>whnf)
   refine⟨_,_,not_ok (getD_nonneg hl 0),?_⟩
   ((conv=>whnf);repeat(first|apply Cs|apply Rs|apply Rx);conv=>whnf)
   exact⟨rfl,Ext.refl _⟩
 rw[if_neg (key' _ _ hc)]
 ((conv=>whnf);repeat(first|apply Cs|apply Rs|apply Rx);conv=>whnf)
 refine⟨_,rfl,fun hc=>?_,fun hc=>?_⟩
 · rw[if_pos (key _ _ hc)]
   ((conv=>whnf);repeat(first|apply Cs|apply Rs|apply Rx);conv=>whnf)
   refine⟨_,_,and_ok hs hn,?_⟩
   ((conv=>whnf);repeat(first|apply Cs|apply Rs|apply Rx);conv=>whnf)
   exact⟨rfl,Ext.refl _⟩
 rw[if_neg (key' _ _ hc)]
 ((conv=>whnf);repeat(first|apply Cs|apply Rs|apply Rx);conv=>whnf)
 refine⟨_,rfl,fun hc=>?_,fun hc=>?_⟩
 · rw[if_pos (key _ _ hc)]
   ((conv=>whnf);repeat(first|apply Cs|apply Rs|apply Rx);conv=>whnf)
   refine⟨_,_,and_ok hs hn,?_⟩
   ((conv=>whnf);repeat(first|apply Cs|apply Rs|apply Rx);conv=>whnf)
   refine⟨_,_,not_ok (andL_nonneg l),?_⟩
   ((conv=>whnf);repeat(first|apply Cs|apply Rs|apply Rx);conv=>whnf)
   exact⟨rfl,Ext.refl _⟩
 rw[if_neg (key' _ _ hc)]
 ((conv=>whnf);repeat(first|apply Cs|apply Rs|apply Rx);conv=>whnf)
 refine⟨_,rfl,fun hc=>?_,fun hc=>?_⟩
 · rw[if_pos (key _ _ hc)]
   ((conv=>whnf);repeat(first|apply Cs|apply Rs|apply Rx);conv=>whnf)
   refine⟨_,_,or_ok hs hn,?_⟩
   ((conv=>whnf);repeat(first|apply Cs|apply Rs|apply Rx);conv=>whnf)
   exact⟨rfl,Ext.refl _⟩
 rw[if_neg (key' _ _ hc)]
 ((conv=>whnf);repeat(first|apply Cs|apply Rs|apply Rx);conv=>whnf)
 refine⟨_,rfl,fun hc=>?_,fun hc=>?_⟩
 · rw[if_pos (key _ _ hc)]
   ((conv=>whnf);repeat(first|apply Cs|apply Rs|apply Rx);conv=>whnf)
   refine⟨_,_,or_ok hs hn,?_⟩
   ((conv=>whnf);repeat(first|apply Cs|apply Rs|apply Rx);conv=>whnf)
   refine⟨_,_,not_ok (orL_nonneg l),?_⟩
   ((conv=>whnf);repeat(first|apply Cs|apply Rs|apply Rx);conv=>whnf)
   exact⟨rfl,Ext.refl _⟩
 rw[if_neg (key' _ _ hc)]
 ((conv=>whnf);repeat(first|apply Cs|apply Rs|apply Rx);conv=>whnf)
 refine⟨_,rfl,fun hc=>?_,fun hc=>?_⟩
 · rw[if_pos (key _ _ hc)]
   ((conv=>whnf);repeat(first|apply Cs|apply Rs|apply Rx);conv=>whnf)
   refine⟨_,_,xor_ok hs hl hn,?_⟩
   ((conv=>whnf);repeat(first|apply Cs|apply Rs|apply Rx);conv=>whnf)
   exact⟨rfl,Ext.refl _⟩
 rw[if_neg (key' _ _ hc)]
 ((conv=>whnf);repeat(first|apply Cs|apply Rs|apply Rx);conv=>whnf)
 refine⟨_,rfl,fun hc=>?_,fun hc=>?_⟩
 · rw[if_pos (key _ _ hc)]
   ((conv=>whnf);repeat(first|apply Cs|apply Rs|apply Rx);conv=>whnf)
   refine⟨_,_,xor_ok hs hl hn,?_⟩
   ((conv=>whnf);repeat(first|apply Cs|apply Rs|apply Rx);conv=>whnf)
   refine⟨_,_,not_ok (xorL_nonneg l),?_⟩
   ((conv=>whnf);repeat(first|apply Cs|apply Rs|apply Rx);conv=>whnf)
   exact⟨rfl,Ext.refl _⟩
 rw[if_neg (key' _ _ hc)]
 ((conv=>whnf);repeat(first|apply Cs|apply Rs|apply Rx);conv=>whnf)
 refine⟨_,rfl,fun hc=>?_,fun hc=>?_⟩
 · obtain rfl:=key _ _ hc
   rw[if_pos rfl]
   have h0:2<l.length:=by have:loL 11=3:=rfl;omega
   ((conv=>whnf);repeat(first|apply Cs|apply Rs|apply Rx);conv=>whnf)
   refine hs.indexK rfl rfl rfl rfl (j:=0) (vals_getD (by omega)) fun g0 off0 cs0 ro0 hg0 he0=>?_
   ((conv=>whnf);repeat(first|apply Cs|apply Rs|apply Rx);conv=>whnf)
   refine⟨_,he0.loadK hg0 (i:=0) rfl rfl rfl,?_⟩
   ((conv=>whnf);repeat(first|apply Cs|apply Rs|apply Rx);conv=>whnf)
   refine⟨.inl rfl,?_⟩
   ((conv=>whnf);repeat(first|apply Cs|apply Rs|apply Rx);conv=>whnf)
   refine hs.indexK rfl rfl rfl rfl (j:=1) (vals_getD (by omega)) fun g1 off1 cs1 ro1 hg1 he1=>?_
   ((conv=>whnf);repeat(first|apply Cs|apply Rs|apply Rx);conv=>whnf)
   refine⟨_,he1.loadK hg1 (i:=0) rfl rfl rfl,?_⟩
   ((conv=>whnf);repeat(first|apply Cs|apply Rs|apply Rx);conv=>whnf)
   refine⟨.inl rfl,?_⟩
   ((conv=>whnf);repeat(first|apply Cs|apply Rs|apply Rx);conv=>whnf)
   refine hs.indexK rfl rfl rfl rfl (j:=2) (vals_getD (by omega)) fun g2 off2 cs2 ro2 hg2 he2=>?_
   ((conv=>whnf);repeat(first|apply Cs|apply Rs|apply Rx);conv=>whnf)
   refine⟨_,he2.loadK hg2 (i:=0) rfl rfl rfl,?_⟩
   ((conv=>whnf);repeat(first|apply Cs|apply Rs|apply Rx);conv=>whnf)
   refine⟨.inl rfl,?_⟩
   ((conv=>whnf);repeat(first|apply Cs|apply Rs|apply Rx);conv=>whnf)
   refine⟨_,_,mux_ok (getD_nonneg hl 1) (getD_nonneg hl 2),?_⟩
   ((conv=>whnf);repeat(first|apply Cs|apply Rs|apply Rx);conv=>whnf)
   refine⟨.inl (Ext.refl _),?_⟩
   ((conv=>whnf);repeat(first|apply Cs|apply Rs|apply Rx);conv=>whnf)
   exact⟨rfl,Ext.refl _⟩
 rw[if_neg (key' _ _ hc)]
 ((conv=>whnf);repeat(first|apply Cs|apply Rs|apply Rx);conv=>whnf)
 refine⟨_,rfl,fun hc=>?_,fun hc=>?_⟩
 · obtain rfl:=key _ _ hc
   rw[if_pos rfl]
   have h0:1<l.length:=by have:loL 12=2:=rfl;omega
   ((conv=>whnf);repeat(first|apply Cs|apply Rs|apply Rx);conv=>whnf)
   refine hs.indexK rfl rfl rfl rfl (j:=0) (vals_getD (by omega)) fun g0 off0 cs0 ro0 hg0 he0=>?_
   ((conv=>whnf);repeat(first|apply Cs|apply Rs|apply Rx);conv=>whnf)
   refine⟨_,he0.loadK hg0 (i:=0) rfl rfl rfl,?_⟩
   ((conv=>whnf);repeat(first|apply Cs|apply Rs|apply Rx);conv=>whnf)
   refine⟨.inl rfl,?_⟩
   ((conv=>whnf);repeat(first|apply Cs|apply Rs|apply Rx);conv=>whnf)
   refine hs.indexK rfl rfl rfl rfl (j:=1) (vals_getD (by omega)) fun g1 off1 cs1 ro1 hg1 he1=>?_
   ((conv=>whnf);repeat(first|apply Cs|apply Rs|apply Rx);conv=>whnf)
   refine⟨_,he1.loadK hg1 (i:=0) rfl rfl rfl,?_⟩
   ((conv=>whnf);repeat(first|apply Cs|apply Rs|apply Rx);conv=>whnf)
   refine⟨.inl rfl,?_⟩
   ((conv=>whnf);repeat(first|apply Cs|apply Rs|apply Rx);conv=>whnf)
   refine⟨_,_,tri_ok (getD_nonneg hl 1),?_⟩
   ((conv=>whnf);repeat(first|apply Cs|apply Rs|apply Rx);conv=>whnf)
   refine⟨.inl (Ext.refl _),?_⟩
   ((conv=>whnf);repeat(first|apply Cs|apply Rs|apply Rx);conv=>whnf)
   exact⟨rfl,Ext.refl _⟩
 rw[if_neg (key' _ _ hc)]
 ((conv=>whnf);repeat(first|apply Cs|apply Rs|apply Rx);conv=>whnf)
 refine⟨_,rfl,fun hc=>?_,fun hc=>?_⟩
 · rw[if_pos (key _ _ hc)]
   ((conv=>whnf);repeat(first|apply Cs|apply Rs|apply Rx);conv=>whnf)
   refine⟨_,_,bus_ok hs hl hn,?_⟩
   ((conv=>whnf);repeat(first|apply Cs|apply Rs|apply Rx);conv=>whnf)
   exact⟨rfl,Ext.refl _⟩
 rw[if_neg (key' _ _ hc)]
 ((conv=>whnf);repeat(first|apply Cs|apply Rs|apply Rx);conv=>whnf)
 exact⟨rfl,Ext.refl _⟩
end Go.Proofs.YteanlacbmiiloaaGreatDoor

namespace Go.Proofs.YteanlacbmiiloaaGreatDoor
open Go.Abs Go.ChangeShapes Go.RowKit Go.ChangeAt
set_option maxRecDepth 100000
theorem own:ownKnob Tryz.prog.godebug=none:=by kernel_rfl
theorem laidOut:laidOutB Tryz.prog=true:=by kernel_rfl
def laid : List (String × DataW Unit) := [("probecard/logic.fanins", Rows.laid_probecard_logic_fanins)]
theorem gFanins : Tryz.prog.globalNamed "probecard/logic.fanins" = some 0 := by kernel_rfl
theorem door_met (os:Os) (args:Array Value):laidMetH Tryz.prog laid ((World.doorLaid Tryz.prog 400 os).forCall (fun _ _=>0) ⟨#[],args,[]⟩).memory :=
 laidMetH_of_parts3 (fuel:=8) (laidMet_of_run' 8 (by kernel_rfl) (by kernel_rfl)) (by kernel_rfl) (by kernel_rfl)
theorem arrFanins:arrB Tryz.prog 5 (((Tryz.prog.globals[0]?).map (·.type)).getD 0)=true:=by kernel_rfl
theorem flatFanins:flat (H:=Unit) Rows.laid_probecard_logic_fanins=some fanins:=by kernel_rfl
theorem of_laid {W:World} (h:laidMetH Tryz.prog laid W) (i:Nat):W.cell? ⟨0,i,none⟩=fanins[i]?:=by
 rw[MakeChecks.laidMetH_plain _ _ _ (by kernel_rfl)] at h
 obtain⟨ps,⟨g0,t0,cs0,f0,p0,q0,hg0,ht0,hv0,hd0,_⟩,_,_⟩:=h
 have ht:t0=(((Tryz.prog.globals[0]?).map (·.type)).getD 0):=by
  obtain rfl:=Option.some.inj (gFanins.symm.trans hg0)
  rw[ht0];rfl
 subst ht
 obtain rfl:=Option.some.inj (gFanins.symm.trans hg0)
 exact laid_cells hg0 hv0 hd0 arrFanins flatFanins i
theorem block {W:World} (h:W.ShapedOpen Tryz.prog) (g:Nat) (hg:g<Tryz.prog.globals.size) (hb:(((begin Tryz.prog (fun _ _=>0) default).world.heap[g]?).bind Obj.row?).isSome=true):∃ C ty fr,W.heap[g]?=some (.cells C ty fr):=by
 obtain⟨⟨zero,t⟩,e⟩:=Option.isSome_iff_exists.1 hb
 obtain⟨cs,h1,_⟩:=h.1 g zero t hg e
 exact⟨cs,t,_,h1⟩
theorem start {W:World} (hsh:W.ShapedOpen Tryz.prog) (hl:laidMetH Tryz.prog laid W):∃ l0 l1:Abs.Loc,HRel 2 (startInj [l0,l1] W) (heapOf vars) W:=by
 obtain⟨C0,ty0,fr0,h0⟩:=block hsh 0 (of_decide_eq_true (by kernel_rfl)) (by kernel_rfl)
 obtain⟨C1,ty1,fr1,h1⟩:=block hsh 1 (of_decide_eq_true (by kernel_rfl)) (by kernel_rfl)
 have lt:∀ (g:Nat) (C:Array Value) (ty:TypeId) (fr:Nat×Nat),W.heap[g]?=some (.cells C ty fr)→g<W.heap.size:=fun g C ty fr e=>(Array.getElem?_eq_some_iff.1 e).1
 refine⟨⟨0,0,C0.size⟩,⟨1,0,C1.size⟩,HRel.start vars [_,_] rfl ?_ ?_ ?_ ?_⟩
 ·intro g hg
  match g,hg with
  |0,_=>exact⟨_,rfl,rfl,rfl⟩
  |1,_=>exact⟨_,rfl,rfl,rfl⟩
 ·intro l hl
  simp only[List.mem_cons,List.not_mem_nil,or_false] at hl
  rcases hl with rfl|rfl
  ·exact lt _ _ _ _ h0
  ·exact lt _ _ _ _ h1
 ·intro g l o e1 e2
  match g,e1,e2 with
  |0,e1,e2 =>
   simp only[List.getElem?_cons_zero,Option.some.injEq] at e1
   simp only[vars,List.getElem?_cons_zero,Option.some.injEq] at e2
   subst e1 e2
   exact ORel.of_cells h0 (fun i _=>of_laid hl i) (by kernel_rfl)
  |1,e1,e2 =>
   simp only[vars,List.getElem?_cons_zero,List.getElem?_cons_succ,Option.some.injEq] at e2
   subst e2
   trivial
  |g+2,e1,e2=>simp at e1
 ·intro o ho
  simp only[vars,List.mem_cons,List.not_mem_nil,or_false] at ho
  rcases ho with rfl|rfl <;> rfl
theorem law_run {H:Type}{enc:TypeId×Value→H}{f:FuncId}{fn:Func}{c:Code}{d:Nat} (L:List (Sh×Bool)) (hfn:Tryz.prog.funcs[f]?=some fn) (hb:fn.body=some c) (hp:paramsOk Tryz.prog d fn.params.toList L)
  (call:∀ x:DenL L,wfL L x→FnV Tryz.prog NG vars f ⟨argL L x⟩ (.bool true))
  (W:World) (base:Nat) (args:Array Value) (hsh:W.ShapedOpen Tryz.prog) (_:args.size=fn.params.size)
  (hval:∀ (j:Nat) t v,fn.params[j]?=some t→args[j]?=some v→Value.okWide Tryz.prog W .any base t v) (hl:laidMetH Tryz.prog laid W)
  (hA:∃ (ds:List (DataW H)) (p:List MemPlace),DataW.TrodAll enc Tryz.prog W 0 (fun _=>true) true fn.params.toList args.toList ds p) :
  Calls Tryz.prog f args W fun e W'=>e=.returned (.bool true)∧Below W.heap.size W W':=by
 obtain⟨ds,p,hA⟩:=hA
 obtain⟨l0,l1,H⟩:=start hsh hl
 obtain⟨x,hw,r⟩:=args_vals (ι:=startInj [l0,l1] W) (fun b C ty fr e=>by simp only[startInj,e]) fn.params.toList L hp args.toList ds p hA (fun j t v e1 e2=>hval j t v (by simpa using e1) (by simpa using e2))
 refine run_of_call hfn hb ((call x hw).call _ fun i o e=>by rw[heapOf_get];exact e) rfl H ?_ ?_
 ·intro o ho
  simp only[vars,List.mem_cons,List.not_mem_nil,or_false] at ho
  rcases ho with rfl|rfl <;> rfl
 ·have:=LRel.array r
  simpa using this
end Go.Proofs.YteanlacbmiiloaaGreatDoor
