/-
  U1, P8, S2, U2, U3: parts of the proof.
-/
import Derived.Test.YtmhbhclfojmjdaaGreatDoorTh43
namespace Go.Proofs.YtmhbhclfojmjdaaGreatDoor
open Go.Abs
set_option maxRecDepth 100000
theorem joinP {α:Type}{first:(α->Prop)->Prop}{rest:α->Prop} (P:α->Prop) (h1:∀ k,(∀ a,P a->k a)->first k) (h2:∀ a,P a->rest a):joinW first rest:=h1 rest h2
theorem joinB' {α:Type}{a:α}{first:(α->Prop)->Prop}{rest:α->Prop} (h1:rest a->first rest) (h2:rest a):joinW first rest:=h1 h2
def triN (e d:Nat):Nat:=if e=0 then 3 else if e=1 then min d 2 else 2
def cleanN (v:Nat):Nat:=if 3<v then 2 else v
def drvN (l:List Nat):Option Nat:=l.findIdx? fun v=>v != 3
def busN (l:List Nat):Nat:=match drvN l with
 |none=>3
 |some i=>if (l.contains 0&&l.contains 1)||l.any (fun v=>cleanN v==2) then 2 else l.getD i 0
def evalG (k:Nat) (l:List Nat):Nat:=if k=12 then triN (l.getD 0 0) (l.getD 1 0) else if k=13 then busN l else evalN k l
theorem tri_vc {e d:Nat}{K:Nat->Prop} (h:K (triN e d)):logic_Tri_wp e d K:=by
 unfold logic_Tri_wp logic_Read_wp
 unfold triN at h
 refine⟨fun h1=>?_,fun h1=>⟨fun h2=>?_,fun h2=>?_⟩⟩
 ·rw[if_pos (eq_t.1 h1)] at h;exact h
 ·rw[if_neg (eq_f.1 h1),if_pos (eq_t.1 h2)] at h;exact h
 ·rw[if_neg (eq_f.1 h1),if_neg (eq_f.1 h2)] at h;exact h
theorem nonneg_t (i:Nat):(!ltI (Int.ofNat i) (Int.ofNat 0))=true:=by
 have:ltI (Int.ofNat i) (Int.ofNat 0)=false:=ltZ_f.2 (Int.natCast_nonneg i)
 rw[this];rfl
theorem find_vc {l:List Nat}{p:Nat->Bool}{K:Int->Prop}{body:(Unit->Prop)->Nat->(Nat->Prop)->Prop} (hl:l.length<2 ^ 60)
  (step:∀ k i nx x,l[i]?=some x->(p x=true->K (Int.ofNat i))->(p x=false->i+1<2 ^ 63/\nx (i+1))->body k i nx) (fin:∀ k i nx,l.length<=i->k ()->body k i nx)
  (h1:∀ i,l.findIdx? p=some i->K (Int.ofNat i)) (h2:l.findIdx? p=none->K (Int.negSucc 0)):joinW (fun k1=>loopW (fun v2 nx3=>body k1 v2 nx3) 0) (fun _:Unit=>K (Int.negSucc 0)):=by
 refine joinLoop (fun i=>i<=l.length/\∀ j x,j<i->l[j]?=some x->p x=false) (fun i=>l.length-i) (fun _=>l.findIdx? p=none) ?_ ⟨Nat.zero_le _,fun j x h=>absurd h (Nat.not_lt_zero _)⟩ (fun _ e=>h2 e)
 intro k i nx ⟨hi,hI⟩ hnx hk
 by_cases c:i<l.length
 ·obtain⟨x,hx⟩:=get_lt c
  refine step k i nx x hx (fun e=>h1 i ?_) (fun e=>⟨by omega,hnx (i+1) ⟨c,fun j y hj hy=>?_⟩ (by omega)⟩)
  ·rw[List.findIdx?_eq_some_iff_getElem]
   obtain⟨q1,q2⟩:=List.getElem?_eq_some_iff.1 hx
   refine⟨q1,by rw[q2];exact e,fun j hj=>?_⟩
   have:=hI j _ hj (List.getElem?_eq_getElem (by omega))
   simp[this]
  ·by_cases q:j=i
   ·subst q;rw[hx] at hy;cases hy;exact e
   ·exact hI j y (by omega) hy
 ·refine fin k i nx (by omega) (hk () ?_)
  rw[List.findIdx?_eq_none_iff]
  intro x m
  obtain⟨j,hj,rfl⟩:=List.getElem_of_mem m
  exact hI j _ (by omega) (List.getElem?_eq_getElem hj)
theorem driven_vc {l:List Nat}{K:Int->Prop} (hl:l.length<2 ^ 60) (h1:∀ i,drvN l=some i->K (Int.ofNat i)) (h2:drvN l=none->K (Int.negSucc 0)):if_driven_wp l K:=by
 unfold if_driven_wp
 refine find_vc (l:=l) (p:=fun v=>v != 3) hl ?_ ?_ h1 h2
 ·intro k i nx x hx a b
  exact⟨fun _=>⟨x,hx,fun e=>a (by simpa using ne_t.1 e),fun e=>b (by simpa using ne_f.1 e)⟩,fun e=>absurd (lt_of_get hx) (by have:=lt_f.1 e;omega)⟩
 ·intro k i nx hi hk
  exact⟨fun e=>absurd (lt_t.1 e) (by omega),fun _=>hk⟩
theorem clean_vc {v:Nat}{K:Nat->Prop} (h:K (cleanN v)):logic_Clean_wp v K:=by
 unfold logic_Clean_wp
 unfold cleanN at h
 refine⟨fun e=>?_,fun e=>?_⟩
 ·rw[if_pos (lt_t.1 e)] at h;exact h
 ·rw[if_neg (Nat.not_lt.2 (lt_f.1 e))] at h;exact h
theorem any_find {l:List Nat}{p:Nat->Bool}:(∀ i,l.findIdx? p=some i->l.any p=true)/\(l.findIdx? p=none->l.any p=false):=by
 refine⟨fun i h=>?_,fun h=>?_⟩
 ·rw[List.findIdx?_eq_some_iff_getElem] at h
  obtain⟨h1,h2,_⟩:=h
  exact List.any_eq_true.2 ⟨_,List.getElem_mem h1,h2⟩
 ·rw[List.findIdx?_eq_none_iff] at h
  exact List.any_eq_false.2 fun x m=>by simp[h x m]
theorem unknown_vc {l:List Nat}{K:Bool->Prop} (hl:l.length<2 ^ 60) (h:K (l.any fun v=>cleanN v==2)):cf_unknown_wp l K:=by
 unfold cf_unknown_wp cf_unknownI_wp
 refine find_vc (l:=l) (p:=fun v=>cleanN v==2) (K:=fun r=>K (!ltI r (Int.ofNat 0))) hl ?_ ?_ (fun i e=>?_) (fun e=>?_)
 ·intro k i nx x hx a b
  exact⟨fun _=>⟨x,hx,clean_vc ⟨fun e=>a (by simpa using eq_t.1 e),fun e=>b (by simpa using eq_f.1 e)⟩⟩,fun e=>absurd (lt_of_get hx) (by have:=lt_f.1 e;omega)⟩
 ·intro k i nx hi hk
  exact⟨fun e=>absurd (lt_t.1 e) (by omega),fun _=>hk⟩
 ·rw[nonneg_t]
  rw[any_find.1 i e] at h;exact h
 ·rw[any_find.2 e] at h;exact h
theorem containsV_vc {l:List Nat}{x:Nat}{K:Bool->Prop} (hl:l.length<2 ^ 60) (h:K (l.contains x)):sl_ContainsV_wp l x K:=by
 unfold sl_ContainsV_wp sl_IndexV_wp
 have hc:l.contains x=l.any fun v=>x==v:=by
  rw[List.contains_eq_any_beq]
 rw[hc] at h
 refine find_vc (l:=l) (p:=fun v=>x==v) (K:=fun r=>K (!ltI r (Int.ofNat 0))) hl ?_ ?_ (fun i e=>?_) (fun e=>?_)
 ·intro k i nx y hy a b
  exact⟨fun _=>⟨y,hy,fun e=>a (by simpa using eq_t.1 e),fun e=>b (by simpa using eq_f.1 e)⟩,fun e=>absurd (lt_of_get hy) (by have:=lt_f.1 e;omega)⟩
 ·intro k i nx hi hk
  exact⟨fun e=>absurd (lt_t.1 e) (by omega),fun _=>hk⟩
 ·rw[nonneg_t]
  rw[any_find.1 i e] at h;exact h
 ·rw[any_find.2 e] at h;exact h
theorem bus_vc {l:List Nat}{K:Nat->Prop} (hl:l.length<2 ^ 60) (h:K (busN l)):logic_Bus_wp l K:=by
 unfold logic_Bus_wp
 unfold busN at h
 refine driven_vc hl (fun i e=>?_) (fun e=>?_)
 ·rw[e] at h
  dsimp only at h
  refine⟨fun q=>absurd (ltZ_t.1 q) (by simp only[Int.ofNat_eq_natCast];omega),fun _=>?_⟩
  have hi:i<l.length:=(List.findIdx?_eq_some_iff_getElem.1 e).1
  refine joinP (fun b=>b=((l.contains 0&&l.contains 1)||l.any fun v=>cleanN v==2)) (fun k hk=>?_) ?_
  ·unfold logic_Conflict_wp
   refine containsV_vc hl ⟨fun e0=>containsV_vc hl ⟨fun e1=>hk _ ?_,fun e1=>unknown_vc hl (hk _ ?_)⟩,fun e0=>⟨(fun e=>by cases e),fun _=>unknown_vc hl (hk _ ?_)⟩⟩
   ·rw[e0,e1];rfl
   ·rw[e0,e1];rfl
   ·rw[e0];rfl
  ·rintro b rfl
   refine⟨fun q=>?_,fun q=>⟨i,rfl,_,getD_some hi,?_⟩⟩
   ·rw[if_pos q] at h;exact h
   ·rw[if_neg (by rw[q];decide)] at h;exact h
 ·rw[e] at h
  exact⟨fun _=>h,fun q=>by cases q⟩
theorem arity_tri {n:Nat} (h:Arity 12 n):n=2:=by
 obtain⟨h1,h2⟩:=h
 have e1:loN 12=2:=by decide
 have e2:hiZ 12=2:=by decide
 rw[e1] at h1;rw[e2] at h2
 simp only[Int.ofNat_eq_natCast] at h2;omega
theorem arity_dff {n:Nat} (h:Arity 14 n):n=1:=by
 obtain⟨h1,h2⟩:=h
 have e1:loN 14=1:=by decide
 have e2:hiZ 14=1:=by decide
 rw[e1] at h1;rw[e2] at h2
 simp only[Int.ofNat_eq_natCast] at h2;omega
theorem evalG_vc {k:Nat}{l:List Nat}{K:Nat->Prop} (hk0:1<=k) (hk:k<14) (ha:Arity k l.length) (hl:l.length<2 ^ 60) (h:K (evalG k l)):logic_Eval_wp k l K:=by
 by_cases h12:k<12
 ·unfold evalG at h
  rw[if_neg (by omega),if_neg (by omega)] at h
  exact eval_vc hk0 h12 ha hl h
 unfold logic_Eval_wp
 refine fanin_vc (by omega) ?_
 refine joinI ?_
 refine⟨fun h1=>?_,fun h1=>?_⟩
 ·have:=lt_t.1 h1;have:=ha.1;simp only at *;omega
 ·have e:ltI (hiZ k) (Int.ofNat l.length)=false:=ltZ_f.2 ha.2
  show (ltI (hiZ k) (Int.ofNat l.length)=true->_)/\_
  rw[e]
  refine⟨(fun hc=>by cases hc),fun _=>?_⟩
  unfold evalG at h
  refine⟨fun c=>absurd (eq_t.1 c) (by omega),fun _=>⟨fun c=>absurd (eq_t.1 c) (by omega),fun _=>⟨fun c=>absurd (eq_t.1 c) (by omega),fun _=>⟨fun c=>absurd (eq_t.1 c) (by omega),fun _=>⟨fun c=>absurd (eq_t.1 c) (by omega),fun _=>⟨fun c=>absurd (eq_t.1 c) (by omega),fun _=>⟨fun c=>absurd (eq_t.1 c) (by omega),fun _=>⟨fun c=>absurd (eq_t.1 c) (by omega),fun _=>⟨fun c=>absurd (eq_t.1 c) (by omega),fun _=>⟨fun c=>absurd (eq_t.1 c) (by omega),fun _=>⟨fun c=>absurd (eq_t.1 c) (by omega),fun _=>⟨fun c=>?_,fun c1=>⟨fun c=>?_,fun c2=>?_⟩⟩⟩⟩⟩⟩⟩⟩⟩⟩⟩⟩⟩
  ·have c:=eq_t.1 c;subst c
   have:=arity_tri ha
   exact⟨_,getD_some (by omega),_,getD_some (by omega),tri_vc h⟩
  ·have c:=eq_t.1 c;subst c
   exact bus_vc hl h
  ·have a1:=eq_f.1 c1;have a2:=eq_f.1 c2;omega
theorem evalN_le (k:Nat) (l:List Nat):evalN k l<=2:=by
 have hn:∀ v,notN v<=2:=fun v=>by unfold notN;split <;> omega
 have hx:∀ (l:List Nat) (o:Nat),o<=1->xorN l o<=2:=by
  intro l
  induction l with
  |nil=>intro o ho;unfold xorN;omega
  |cons v r ih =>
   intro o ho
   unfold xorN
   split
   ·refine ih _ ?_
    have q1:o=0\/o=1:=by omega
    have q2:v=0\/v=1:=by omega
    rcases q1 with rfl|rfl <;> rcases q2 with rfl|rfl <;> decide
   ·omega
 have hd:∀ (low high:Nat) (l:List Nat) (o:Nat),low<=2->o<=2->decN low high l o<=2:=by
  intro low high l
  induction l with
  |nil=>intro o h1 h2;exact h2
  |cons v r ih =>
   intro o h1 h2
   unfold decN
   split
   ·exact h1
   ·refine ih _ h1 ?_
    split
    ·exact h2
    ·omega
 unfold evalN
 repeat' split
 all_goals first|omega|exact hn _|exact hd _ _ _ _ (by decide) (by decide) | exact hx _ _ (by decide) | (unfold muxN;repeat' split) <;> omega
theorem evalG_le (k:Nat) {l:List Nat} (hl:∀ v∈l,v<=3):evalG k l<=3:=by
 unfold evalG
 split
 ·unfold triN;repeat' split
  all_goals omega
 split
 ·unfold busN
  split
  ·omega
  ·split
   ·omega
   ·rename_i i hi _
    obtain⟨h1,h2,_⟩:=List.findIdx?_eq_some_iff_getElem.1 hi
    rw[List.getD,List.getElem?_eq_getElem h1]
    exact hl _ (List.getElem_mem h1)
 ·have:=evalN_le k l;omega
structure GK (ks:List Nat) (x:Node):Prop where
 kind1:1<=x.kind
 kind:x.kind<=13
 arity:Arity x.kind x.ins.length
 ins:∀ k∈x.ins,k<ks.length
 bus:x.kind=13->∀ k∈x.ins,ks.getD k 0=12
 mem:x.mem=0
 bit:x.bit=0
theorem trisK_mem (ks:List Nat):∀ (i:Nat) (t:Nat),t∈trisK ks i->t<i/\ks.getD t 0=12
 |0,t,h=>by unfold trisK at h;cases h
 |i+1,t,h=>by
  unfold trisK at h
  split at h
  ·rename_i e
   rcases List.mem_append.1 h with h|h
   ·have:=trisK_mem ks i t h;exact⟨by omega,this.2⟩
   ·rw[List.mem_singleton] at h;subst h;exact⟨by omega,e⟩
  ·have:=trisK_mem ks i t h;exact⟨by omega,this.2⟩
theorem getD_mem {l:List Nat}{i:Nat} (h:i<l.length):l.getD i 0∈l:=by
 rw[List.getD,List.getElem?_eq_getElem h]
 exact List.getElem_mem h
theorem arity_gate:∀ kk,kk<6->Arity (5+kk) 2/\Arity (5+kk) 3:=by decide
theorem gateK_ok (bus:Bool) (g:GData) {ks:List Nat} (hn:0<ks.length):GK ks (gateK bus g ks):=by
 have ha:=Nat.mod_lt g.a hn
 have hb:=Nat.mod_lt g.b hn
 have hd:=Nat.mod_lt g.d hn
 have hkk:(if bus then g.kind%13 else g.kind%9)<13:=by
  split
  ·exact Nat.mod_lt _ (by decide)
  ·exact Nat.lt_trans (Nat.mod_lt _ (by decide)) (by decide)
 unfold gateK
 generalize (if bus then g.kind%13 else g.kind%9)=kk at hkk
 by_cases c1:kk<6
 ·rw[if_pos c1]
  by_cases c2:128<=g.kind
  ·rw[if_pos c2]
   refine⟨by dsimp only;omega,by dsimp only;omega,?_,?_,fun e=>by dsimp only at e;omega,rfl,rfl⟩
   ·exact (arity_gate kk c1).2
   ·intro k m
    simp only[List.mem_cons,List.not_mem_nil,or_false] at m
    rcases m with rfl|rfl|rfl <;> assumption
  ·rw[if_neg c2]
   refine⟨by dsimp only;omega,by dsimp only;omega,?_,?_,fun e=>by dsimp only at e;omega,rfl,rfl⟩
   ·exact (arity_gate kk c1).1
   ·intro k m
    simp only[List.mem_cons,List.not_mem_nil,or_false] at m
    rcases m with rfl|rfl <;> assumption
 rw[if_neg c1]
 by_cases c2:kk=6
 ·rw[if_pos c2]
  exact⟨(by decide:1<=4),(by decide:4<=13),(by decide:Arity 4 1),fun k m=>by simp only[List.mem_cons,List.not_mem_nil,or_false] at m;subst m;exact ha,(fun e=>by cases e),rfl,rfl⟩
 rw[if_neg c2]
 by_cases c3:kk=7
 ·rw[if_pos c3]
  refine⟨(by decide:1<=11),(by decide:11<=13),(by decide:Arity 11 3),fun k m=>?_,(fun e=>by cases e),rfl,rfl⟩
  simp only[List.mem_cons,List.not_mem_nil,or_false] at m
  rcases m with rfl|rfl|rfl <;> assumption
 rw[if_neg c3]
 by_cases c4:kk=9\/kk=10
 ·rw[if_pos c4]
  refine⟨(by decide:1<=12),(by decide:12<=13),(by decide:Arity 12 2),fun k m=>?_,(fun e=>by cases e),rfl,rfl⟩
  simp only[List.mem_cons,List.not_mem_nil,or_false] at m
  rcases m with rfl|rfl <;> assumption
 rw[if_neg c4]
 by_cases c5:10<kk/\0<(trisK ks ks.length).length
 ·rw[if_pos c5]
  have h1:=trisK_mem ks ks.length _ (getD_mem (Nat.mod_lt g.a c5.2))
  have h2:=trisK_mem ks ks.length _ (getD_mem (Nat.mod_lt (g.a%(trisK ks ks.length).length+1) c5.2))
  by_cases c6:1<(trisK ks ks.length).length
  ·rw[if_pos c6]
   refine⟨(by decide:1<=13),(by decide:13<=13),(by decide:Arity 13 2),fun k m=>?_,fun _ k m=>?_,rfl,rfl⟩ <;>
   ·simp only[List.mem_cons,List.not_mem_nil,or_false] at m
    rcases m with rfl|rfl
    ·first|exact h1.1|exact h1.2
    ·first|exact h2.1|exact h2.2
  ·rw[if_neg c6]
   refine⟨(by decide:1<=13),(by decide:13<=13),(by decide:Arity 13 1),fun k m=>?_,fun _ k m=>?_,rfl,rfl⟩ <;>
   ·simp only[List.mem_cons,List.not_mem_nil,or_false] at m
    subst m
    first|exact h1.1|exact h1.2
 rw[if_neg c5]
 by_cases c7:240<g.kind
 ·rw[if_pos c7]
  have:g.a%2=0\/g.a%2=1:=by omega
  rcases this with e|e <;> rw[e]
  ·exact⟨(by decide:1<=1),(by decide:1<=13),(by decide:Arity 1 0),(fun k m=>by cases m),(fun _ k m=>by cases m),rfl,rfl⟩
  ·exact⟨(by decide:1<=2),(by decide:2<=13),(by decide:Arity 2 0),(fun k m=>by cases m),(fun _ k m=>by cases m),rfl,rfl⟩
 ·rw[if_neg c7]
  exact⟨(by decide:1<=3),(by decide:3<=13),(by decide:Arity 3 1),fun k m=>by simp only[List.mem_cons,List.not_mem_nil,or_false] at m;subst m;exact ha,(fun e=>by cases e),rfl,rfl⟩
theorem gateK_plain (g:GData) (ks:List Nat):(gateK false g ks).kind≠12/\(gateK false g ks).kind≠13:=by
 have hkk:=Nat.mod_lt g.kind (show 0<9 by decide)
 unfold gateK
 simp only[Bool.false_eq_true,if_false]
 generalize g.kind%9=kk at hkk
 by_cases c1:kk<6
 ·rw[if_pos c1];dsimp only;omega
 rw[if_neg c1]
 by_cases c2:kk=6
 ·rw[if_pos c2];exact (by decide:4≠12/\4≠13)
 rw[if_neg c2]
 by_cases c3:kk=7
 ·rw[if_pos c3];exact (by decide:11≠12/\11≠13)
 rw[if_neg c3,if_neg (by omega),if_neg (by omega)]
 by_cases c7:240<g.kind
 ·rw[if_pos c7];dsimp only;omega
 ·rw[if_neg c7];exact (by decide:3≠12/\3≠13)
theorem gatesN_node (bus:Bool) (gs:List GData) (base:List Node) (hb:0<base.length):∀ m,m<=gs.length->∀ (i:Nat) (y:Node),(gatesN bus gs base m)[i]?=some y ->
  (i<base.length/\base[i]?=some y)\/(base.length<=i/\∃ g,y=gateK bus g (((gatesN bus gs base m).take i).map Node.kind))
 |0,_,i,y,h=>.inl ⟨lt_of_get h,h⟩
 |m+1,hm,i,y,h=>by
  have hg:gs[m]?=some gs[m]:=List.getElem?_eq_getElem (by omega)
  have hl:=gatesN_length bus gs base m (by omega)
  rw[gatesN_succ hg] at h ⊢
  by_cases c:i<(gatesN bus gs base m).length
  ·rw[List.getElem?_append_left c] at h
   rcases gatesN_node bus gs base hb m (by omega) i y h with q|⟨q1,g,q2⟩
   ·exact .inl q
   ·refine .inr ⟨q1,g,?_⟩
    rw[List.take_append_of_le_length (by omega)]
    exact q2
  ·have hi:i=(gatesN bus gs base m).length:=by
    have:=lt_of_get h
    rw[List.length_append,List.length_singleton] at this
    omega
   subst hi
   rw[List.getElem?_append_right (Nat.le_refl _),Nat.sub_self] at h
   cases h
   refine .inr ⟨by omega,gs[m],?_⟩
   rw[List.take_left']
   rfl
theorem updN_at {first:Nat}{d:Nat->Nat}{ns:List Node}{j:Nat}:∀ {m},j<m->first+m<=ns.length->(updN first d m ns)[first+j]?=some (dffN (d j))
 |m+1,h,hl=>by
  rw[updN,List.getElem?_set]
  by_cases c:m=j
  ·subst c
   rw[if_pos rfl,if_pos (by rw[updN_length];omega)]
  ·rw[if_neg (by omega)]
   exact updN_at (by omega) (by omega)
theorem updN_low {first:Nat}{d:Nat->Nat}{ns:List Node}{j:Nat} (h:j<first):∀ m,(updN first d m ns)[j]?=ns[j]?
 |0=>rfl
 |m+1=>by rw[updN,List.getElem?_set_ne (by omega)];exact updN_low h m
def isMemN (x:CData) (_i:Nat) (y:Node):Prop:=x.mem=true/\(y=memN 0\/y=memN 1)
theorem circ_node' {x:CData}{i:Nat}{y:Node} (h:(circN x).nodes[i]?=some y) :
  (i<x.inp%4+1/\y=inputN)\/(x.inp%4+1<=i/\i<x.inp%4+1+x.dffs%3/\∃ d,d<(rawN x).length/\y=dffN d)\/isMemN x i y \/
  (x.inp%4+1+x.dffs%3<=i/\(rawN x)[i]?=some y/\∃ g,y=gateK x.bus g (((rawN x).take i).map Node.kind)):=by
 have h:(updN (x.inp%4+1) (dataN x (rawN x).length) (x.dffs%3) (rawN x))[i]?=some y:=h
 have hbl:=baseN_length x.inp x.dffs x.mem
 have hrl:=rawN_length x
 have hbase:∀ i,i<x.inp%4+1->(baseN x.inp x.dffs x.mem)[i]?=some inputN:=fun i hi=>by
  unfold baseN
  rw[List.append_assoc,List.getElem?_append_left (by rw[List.length_replicate];exact hi),List.getElem?_replicate,if_pos hi]
 by_cases c1:i<x.inp%4+1
 ·rw[updN_low c1] at h
  unfold rawN at h
  rw[gatesN_get _ _ _ (by omega) _ (Nat.min_le_left _ _),hbase i c1] at h
  cases h
  exact .inl ⟨c1,rfl⟩
 ·by_cases c2:i<x.inp%4+1+x.dffs%3
  ·have e:i=x.inp%4+1+(i-(x.inp%4+1)):=by omega
   rw[e,updN_at (by omega) (by omega)] at h
   cases h
   exact .inr (.inl ⟨by omega,c2,_,Nat.mod_lt _ (rawN_pos' x),rfl⟩)
  ·rw[updN_get (by omega)] at h
   rcases gatesN_node x.bus x.gates (baseN x.inp x.dffs x.mem) (by omega) _ (Nat.min_le_left _ 8) i y h with⟨q,e⟩|⟨_,g,q⟩
   ·refine .inr (.inr (.inl ?_))
    unfold baseN at e
    rw[List.getElem?_append_right (by simp only[List.length_append,List.length_replicate];omega)] at e
    cases hm:x.mem
    ·rw[hm] at e;simp at e
    ·rw[hm] at e
     simp only[if_true] at e
     refine⟨hm,?_⟩
     have hme:=List.mem_of_getElem? e
     simpa using hme
   ·exact .inr (.inr (.inr ⟨by omega,h,g,q⟩))
theorem circ_node {x:CData} (hm:x.mem=false) {i:Nat}{y:Node} (h:(circN x).nodes[i]?=some y) :
  (i<x.inp%4+1/\y=inputN)\/(x.inp%4+1<=i/\i<x.inp%4+1+x.dffs%3/\∃ d,d<(rawN x).length/\y=dffN d) \/
  (x.inp%4+1+x.dffs%3<=i/\(rawN x)[i]?=some y/\∃ g,y=gateK x.bus g (((rawN x).take i).map Node.kind)):=by
 rcases circ_node' h with q|q|q|q
 ·exact .inl q
 ·exact .inr (.inl q)
 ·have:=q.1;rw[hm] at this;cases this
 ·exact .inr (.inr q)
theorem circ_kinds (x:CData) (k:Nat):(((circN x).nodes).map Node.kind).getD k 0=((rawN x).map Node.kind).getD k 0:=by
 have hrl:=rawN_length x
 show ((updN (x.inp%4+1) (dataN x (rawN x).length) (x.dffs%3) (rawN x)).map Node.kind).getD k 0=_
 rw[List.getD,List.getD,List.getElem?_map,List.getElem?_map]
 by_cases c1:k<x.inp%4+1
 ·rw[updN_low c1]
 ·by_cases c2:k<x.inp%4+1+x.dffs%3
  ·have e:k=x.inp%4+1+(k-(x.inp%4+1)):=by omega
   rw[e,updN_at (by omega) (by omega),rawN_dff (by omega)]
   rfl
  ·rw[updN_get (by omega)]
theorem circ_mems (x:CData):(circN x).mems=if x.mem then [⟨[x.port0%(rawN x).length],[x.port1%(rawN x).length,x.port2%(rawN x).length],x.port3%(rawN x).length⟩] else []:=rfl
theorem good_circ' (x:CData):Good (circN x):=by
 have hle:=rawN_le x
 have hpos:=rawN_pos' x
 have hn:(circN x).nodes.length=(rawN x).length:=updN_length _
 have node:∀ (i:Nat) (y:Node),(circN x).nodes[i]?=some y->GoodN (circN x) i y:=by
  intro i y h
  have hi:=lt_of_get h
  rw[hn] at hi
  rcases circ_node' h with⟨_,rfl⟩|⟨_,_,d,hd,rfl⟩|⟨hm,e⟩|⟨h1,h2,g,hg⟩
  ·exact⟨(by decide:0<=15),(by decide:Arity 0 0),(fun k m=>by cases m),(fun e=>by cases e),fun _=>⟨rfl,rfl⟩,(fun e=>by cases e),fun e=>absurd e (by decide:¬ 1<=0)⟩
  ·refine⟨(by decide:14<=15),(by decide:Arity 14 1),fun k m=>?_,(fun e=>by cases e),fun _=>⟨rfl,rfl⟩,(fun e=>by cases e),fun _ e=>absurd e (by decide:¬ 14<=13)⟩
   have:k=d:=by simpa[dffN] using m
   rw[hn,this];exact hd
  ·have em:=circ_mems x
   rw[hm] at em
   simp only[if_true] at em
   rcases e with rfl|rfl
   ·exact⟨(by decide:15<=15),(by decide:Arity 15 0),(fun k m=>by cases m),(fun e=>by cases e),fun e=>absurd rfl e,fun _=>⟨_,(by rw[em];rfl),by show (0:Nat)<2;decide⟩,fun _ e=>absurd e (by decide:¬ 15<=13)⟩
   ·exact⟨(by decide:15<=15),(by decide:Arity 15 0),(fun k m=>by cases m),(fun e=>by cases e),fun e=>absurd rfl e,fun _=>⟨_,(by rw[em];rfl),by show (1:Nat)<2;decide⟩,fun _ e=>absurd e (by decide:¬ 15<=13)⟩
  ·have hks:(((rawN x).take i).map Node.kind).length=i:=by rw[List.length_map,List.length_take];omega
   have G:=gateK_ok x.bus g (ks:=((rawN x).take i).map Node.kind) (by omega)
   rw[<- hg] at G
   have lt:∀ k∈y.ins,k<i:=fun k m=>by have:=G.ins k m;omega
   refine⟨by have:=G.kind;omega,G.arity,fun k m=>by have:=lt k m;omega,fun e k m=>?_,fun _=>⟨G.mem,G.bit⟩,fun e=>by have:=G.kind;omega,fun _ _=>lt⟩
   have hk:=lt k m
   have hk2:k<(circN x).nodes.length:=by omega
   refine⟨_,List.getElem?_eq_getElem hk2,?_⟩
   have e1:=circ_kinds x k
   rw[List.getD,List.getElem?_map,List.getElem?_eq_getElem hk2] at e1
   have e2:=G.bus e k m
   rw[List.getD,List.getElem?_map,List.getElem?_take,if_pos hk] at e2
   rw[List.getD,List.getElem?_map,e2] at e1
   exact e1
 refine⟨by omega,by show ((List.range (rawN x).length).map nameB).length=_;rw[hn];simp,names_ok (n:=(rawN x).length) (by omega) rfl,fan_ok ⟨by omega,fun i y h=>⟨(node i y h).ins,(node i y h).few⟩⟩,?_,?_,?_,?_,node,by rw[hn];exact hpos⟩
 ·intro m hme
  rw[circ_mems] at hme
  split at hme
  ·rw[List.mem_singleton] at hme
   subst hme
   have lt:∀ a,a%(rawN x).length<(circN x).nodes.length:=fun a=>by rw[hn];exact Nat.mod_lt _ hpos
   exact⟨(by decide:1<=1/\1<=8),(by decide:1<=2/\2<=32),fun k m=>by rw[List.mem_singleton.1 m];exact lt _,fun k m=>by simp only[List.mem_cons,List.not_mem_nil,or_false] at m;rcases m with rfl|rfl <;> exact lt _,lt _⟩
  ·cases hme
 ·rw[circ_mems];split <;> simp
 ·intro o m
  have m:o∈(x.outs.take 3).map (· % (rawN x).length)++[(rawN x).length-1]:=m
  rw[hn]
  rcases List.mem_append.1 m with m|m
  ·obtain⟨q,_,rfl⟩:=List.mem_map.1 m
   exact Nat.mod_lt _ hpos
  ·rw[List.mem_singleton] at m;omega
 ·show ((x.outs.take 3).map (· % (rawN x).length)++[(rawN x).length-1]).length<=16
  rw[List.length_append,List.length_map,List.length_take,List.length_singleton];omega
theorem good_circ {x:CData} (_:x.mem=false):Good (circN x):=good_circ' x
theorem plain_circ {x:CData} (hm:x.mem=false) (hb:x.bus=false):∀ (i:Nat) (y:Node),(circN x).nodes[i]?=some y->y.kind≠12/\y.kind≠13/\y.kind≠15:=by
 intro i y h
 rcases circ_node hm h with⟨_,rfl⟩|⟨_,_,d,hd,rfl⟩|⟨h1,_,g,hg⟩
 ·decide
 ·exact⟨by show (14:Nat)≠12;decide,by show (14:Nat)≠13;decide,by show (14:Nat)≠15;decide⟩
 ·rw[hb] at hg
  have:=gateK_plain g (((rawN x).take i).map Node.kind)
  have hi:=lt_of_get h
  have hn:(circN x).nodes.length=(rawN x).length:=updN_length _
  have q:=gateK_ok false g (ks:=((rawN x).take i).map Node.kind) (by rw[List.length_map,List.length_take];omega)
  rw[<- hg] at this q
  exact⟨this.1,this.2,by have:=q.kind;omega⟩
set_option maxHeartbeats 8000000
def probecardlaw12_Circuit_wp (p0:CData) (K:Circ->Prop):Prop :=
 law03_Of_wp (⟨p0.inp,p0.dffs,p0.data0,p0.data1,p0.bus,false,p0.port0,p0.port1,p0.port2,p0.port3,p0.gates,p0.outs⟩:CData) (fun r5=>K r5)
theorem probecardlaw12_Circuit_walk {p0:CData}{K:Circ->Prop} (hm:probecardlaw12_Circuit_wp p0 K) {h0:Heap} (hB:HasB vars h0):∃ r,K r/\CallD Tryz.prog NG 19 ⟨[encC p0]⟩ h0 (encCirc r) h0:=by
 unfold probecardlaw12_Circuit_wp at hm
 refine fw Tryz.func19 hB (enc:=encCirc) (fun r=>pure_circ _) fun O=>?_;conv=>whnf
 refine gX ?_
 (first|refine O.new (boxK rfl) fun g1 h O=>?_|refine O.newX (boxK rfl) fun g1 h O=>?_);refine gH ?_
 (first|refine O.new (anew_alloc (l:=[(.slice none 0 0),(.slice none 0 0),(.slice none 0 0),(.slice none 0 0)]) rfl rfl rfl) fun g3 h O=>?_|refine O.newX (anew_alloc (l:=[(.slice none 0 0),(.slice none 0 0),(.slice none 0 0),(.slice none 0 0)]) rfl rfl rfl) fun g3 h O=>?_);refine gH ?_
 refine gX ?_
 refine O.stC 1 (.tail _ (.head _)) [(n8 p0.inp),(n8 p0.dffs),(n8 p0.data0),(n8 p0.data1),(.bool p0.bus),(.bool false),(n8 p0.port0),(n8 p0.port1),(n8 p0.port2),(n8 p0.port3),((encL 4 encG) p0.gates),((encL 1 n8) p0.outs)] fun h O=>?_;refine gX ?_
 refine ldA (O.at (.tail _ (.head _))) ?_;refine gH ?_
 refine ca (law03_Of_walk hm O.has) fun r5 hm=>?_;refine gH ?_
 refine O.stC 4 (.head _) [((encL 4 encNode) r5.nodes),((encL 1 Value.string) r5.names),((encL 3 encMem) r5.mems),((encL 1 i64) r5.outs)] fun h O=>?_;refine gX ?_
 refine⟨_,resAggK rfl rfl (O.at (.head _)) rfl rfl (lbE rfl) rfl,?_⟩;conv=>whnf
 exact fe hm O
def probecardlaw12_Plain_wp (p0:CData) (K:Circ->Prop):Prop :=
 probecardlaw12_Circuit_wp (⟨p0.inp,p0.dffs,p0.data0,p0.data1,false,p0.mem,p0.port0,p0.port1,p0.port2,p0.port3,p0.gates,p0.outs⟩:CData) (fun r5=>K r5)
theorem probecardlaw12_Plain_walk {p0:CData}{K:Circ->Prop} (hm:probecardlaw12_Plain_wp p0 K) {h0:Heap} (hB:HasB vars h0):∃ r,K r/\CallD Tryz.prog NG 8 ⟨[encC p0]⟩ h0 (encCirc r) h0:=by
 unfold probecardlaw12_Plain_wp at hm
 refine fw Tryz.func8 hB (enc:=encCirc) (fun r=>pure_circ _) fun O=>?_;conv=>whnf
 refine gX ?_
 (first|refine O.new (boxK rfl) fun g1 h O=>?_|refine O.newX (boxK rfl) fun g1 h O=>?_);refine gH ?_
 (first|refine O.new (anew_alloc (l:=[(.slice none 0 0),(.slice none 0 0),(.slice none 0 0),(.slice none 0 0)]) rfl rfl rfl) fun g3 h O=>?_|refine O.newX (anew_alloc (l:=[(.slice none 0 0),(.slice none 0 0),(.slice none 0 0),(.slice none 0 0)]) rfl rfl rfl) fun g3 h O=>?_);refine gH ?_
 refine gX ?_
 refine O.stC 1 (.tail _ (.head _)) [(n8 p0.inp),(n8 p0.dffs),(n8 p0.data0),(n8 p0.data1),(.bool false),(.bool p0.mem),(n8 p0.port0),(n8 p0.port1),(n8 p0.port2),(n8 p0.port3),((encL 4 encG) p0.gates),((encL 1 n8) p0.outs)] fun h O=>?_;refine gX ?_
 refine ldA (O.at (.tail _ (.head _))) ?_;refine gH ?_
 refine ca (probecardlaw12_Circuit_walk hm O.has) fun r5 hm=>?_;refine gH ?_
 refine O.stC 4 (.head _) [((encL 4 encNode) r5.nodes),((encL 1 Value.string) r5.names),((encL 3 encMem) r5.mems),((encL 1 i64) r5.outs)] fun h O=>?_;refine gX ?_
 refine⟨_,resAggK rfl rfl (O.at (.head _)) rfl rfl (lbE rfl) rfl,?_⟩;conv=>whnf
 exact fe hm O
def netlists_Inputs_wp (p0:Circ) (K:(List Nat)->Prop):Prop :=
 netlists_Of_wp p0 ([0]:(List Nat)) (fun r1=>K r1)
theorem netlists_Inputs_walk {p0:Circ}{K:(List Nat)->Prop} (hm:netlists_Inputs_wp p0 K) {h0:Heap} (hB:HasB vars h0):∃ r,K r/\CallD Tryz.prog NG 66 ⟨[encCirc p0]⟩ h0 ((encL 1 i64) r) h0:=by
 unfold netlists_Inputs_wp at hm
 refine fw Tryz.func66 hB (enc:=(encL 1 i64)) (fun r=>pureL (fun _=>AllPure.cons (PureV.flat rfl) AllPure.nil)) fun O=>?_;conv=>whnf
 refine gX ?_
 refine fz ?_;refine gX ?_
 refine fz ?_;refine gH ?_
 refine ca (netlists_Of_walk hm O.has) fun r1 hm=>?_;refine gX ?_
 exact fe hm O
def netlists_States_wp (p0:Circ) (K:(List Nat)->Prop):Prop :=
 netlists_Of_wp p0 ([14]:(List Nat)) (fun r1=>K r1)
theorem netlists_States_walk {p0:Circ}{K:(List Nat)->Prop} (hm:netlists_States_wp p0 K) {h0:Heap} (hB:HasB vars h0):∃ r,K r/\CallD Tryz.prog NG 67 ⟨[encCirc p0]⟩ h0 ((encL 1 i64) r) h0:=by
 unfold netlists_States_wp at hm
 refine fw Tryz.func67 hB (enc:=(encL 1 i64)) (fun r=>pureL (fun _=>AllPure.cons (PureV.flat rfl) AllPure.nil)) fun O=>?_;conv=>whnf
 refine gX ?_
 refine fz ?_;refine gX ?_
 refine fz ?_;refine gH ?_
 refine ca (netlists_Of_walk hm O.has) fun r1 hm=>?_;refine gX ?_
 exact fe hm O
def cf_simsAboveI_wp (p0:(List Nat)) (K:Int->Prop):Prop :=
 joinW (α:=Unit) (fun k1=>loopW (S:=Nat) (fun v2 nx3=>((ltN v2 p0.length)=true->∃ x4,p0[v2]?=some x4/\((ltN 3 x4)=true->K (Int.ofNat v2))/\((ltN 3 x4)=false->v2+1<2 ^ 63/\nx3 (v2+1)))/\((ltN v2 p0.length)=false->k1 ())) 0) (fun _=>K (Int.negSucc 0))
theorem cf_simsAboveI_walk {p0:(List Nat)}{K:Int->Prop} (hm:cf_simsAboveI_wp p0 K) {h0:Heap} (hB:HasB vars h0):∃ r,K r/\CallD Tryz.prog NG 78 ⟨[(encL 1 n8) p0,(.func (.func 68) ⟨[]⟩ ⟨[]⟩)]⟩ h0 (z64 r) h0:=by
 unfold cf_simsAboveI_wp at hm
 refine fw Tryz.func78 hB (enc:=z64) (fun r=>PureV.flat rfl) fun O=>?_;conv=>whnf
 apply Cs;conv=>whnf
 apply Cs;refine gH ?_
 refine jn hm 19 [] (fun s=>s) (fun _ h=>Own vars h0 [] h) (fun _=>[]) (fun hm=>?_) ?_
 ·refine gX ?_
  refine lw 19 [0,1,7] (σ:=Nat) (fun s=>s) (fun v2 h=>Own vars h0 [] h) (fun v2=>[(8,(i64 v2))]) 0 hm O ?_
  clear hm;rintro v2 nx3 base h hm O
  refine gX ?_
  refine br hm (fun hm=>?_) fun hm=>?_
  ·refine gX ?_
   refine atF hm fun x4 hx4 hm=>?_;refine gH ?_
   refine fg Tryz.func68 ?_;refine gX ?_
   refine br hm (fun hm=>?_) fun hm=>?_
   ·refine gX ?_
    exact fe hm O
   ·refine gX ?_
    refine aAdd hm fun hm=>?_;refine gH ?_
    exact jx (v2+1) hm O
  ·refine gX ?_
   exact jx () hm O
 ·clear hm;rintro _ base h hm O
  refine gX ?_
  exact fe hm O
def cf_simsAbove_wp (p0:(List Nat)) (K:Bool->Prop):Prop :=
 cf_simsAboveI_wp p0 (fun r1=>K (!ltI r1 (Int.ofNat 0)))
theorem cf_simsAbove_walk {p0:(List Nat)}{K:Bool->Prop} (hm:cf_simsAbove_wp p0 K) {h0:Heap} (hB:HasB vars h0):∃ r,K r/\CallD Tryz.prog NG 56 ⟨[(encL 1 n8) p0,(.func (.func 68) ⟨[]⟩ ⟨[]⟩)]⟩ h0 (Value.bool r) h0:=by
 unfold cf_simsAbove_wp at hm
 refine fw Tryz.func56 hB (enc:=Value.bool) (fun r=>PureV.flat rfl) fun O=>?_;conv=>whnf
 refine gX ?_
 refine ca (cf_simsAboveI_walk hm O.has) fun r1 hm=>?_;refine gX ?_
 exact fe hm O
def run_value_wp (p0:SRun) (p1:Nat) (K:Nat->Prop):Prop :=
 joinW (α:=Bool) (fun k2=>((ltN p1 0)=true->k2 true)/\((ltN p1 0)=false->k2 (!ltN p1 p0.nets.length))) (fun v1=>(v1=true->K 2)/\(v1=false->∃ x3,p0.nets[p1]?=some x3/\logic_Clean_wp x3 (fun r4=>K r4)))
theorem run_value_walk {p0:SRun}{p1:Nat}{K:Nat->Prop} (hm:run_value_wp p0 p1 K) {h0:Heap} (hB:HasB vars h0):∃ r,K r/\CallD Tryz.prog NG 69 ⟨[encRun p0,i64 p1]⟩ h0 (n8 r) h0:=by
 unfold run_value_wp at hm
 refine fw Tryz.func69 hB (enc:=n8) (fun r=>PureV.flat rfl) fun O=>?_;conv=>whnf
 refine gX ?_
 refine fz ?_;refine gH ?_
 apply Cs;conv=>whnf
 refine jn hm 20 [1,2] (fun s=>s) (fun v1 h=>Own vars h0 [] h) (fun v1=>[(13,(.bool v1))]) (fun hm=>?_) ?_
 ·refine gX ?_
  refine br hm (fun hm=>?_) fun hm=>?_
  ·refine gX ?_
   exact jx true hm O
  ·refine gX ?_
   exact jx (!ltN p1 p0.nets.length) hm O
 ·clear hm;rintro v1 base h hm O
  refine gX ?_
  refine br hm (fun hm=>?_) fun hm=>?_
  ·refine gX ?_
   exact fe hm O
  ·refine gX ?_
   refine atF hm fun x3 hx3 hm=>?_;refine gH ?_
   refine ca (logic_Clean_walk hm O.has) fun r4 hm=>?_;refine gX ?_
   exact fe hm O
def run_observe_wp (p0:SRun) (K:Rsp->Prop):Prop :=
 joinW (α:=(List Nat)) (fun k12=>loopW (S:=((List Nat)×Nat)) (fun (v14,v15) nx17=>((ltN v15 p0.circ.outs.length)=true->∃ x18,p0.circ.outs[v15]?=some x18/\run_value_wp p0 x18 (fun r19=>(v14.length+([r19]:(List Nat)).length)*1<=2 ^ 47/\v15+1<2 ^ 63/\nx17 ((v14++([r19]:(List Nat))),(v15+1))))/\((ltN v15 p0.circ.outs.length)=false->k12 v14)) (([]:List Nat),0)) (fun v10=>joinW (α:=(List Nat)) (fun k28=>netlists_States_wp p0.circ (fun r29=>loopW (S:=((List Nat)×Nat)) (fun (v31,v32) nx35=>((ltN v32 r29.length)=true->∃ x36,r29[v32]?=some x36/\joinW (α:=Nat) (fun k40=>∃ x41,p0.circ.nodes[x36]?=some x41/\((eqN x41.ins.length 1)=true->∃ x42,x41.ins[0]?=some x42/\run_value_wp p0 x42 (fun r43=>logic_Read_wp r43 (fun r44=>k40 r44)))/\((eqN x41.ins.length 1)=false->k40 2)) (fun v37=>(v31.length+([v37]:(List Nat)).length)*1<=2 ^ 47/\v32+1<2 ^ 63/\nx35 ((v31++([v37]:(List Nat))),(v32+1))))/\((ltN v32 r29.length)=false->k28 v31)) (([]:List Nat),0))) (fun v25=>K (⟨v10,v25⟩:Rsp)))
theorem run_observe_walk {p0:SRun}{K:Rsp->Prop} (hm:run_observe_wp p0 K) {h0:Heap} (hB:HasB vars h0):∃ r,K r/\CallD Tryz.prog NG 34 ⟨[encRun p0]⟩ h0 (encRsp r) h0:=by
 unfold run_observe_wp at hm
 refine fw Tryz.func34 hB (enc:=encRsp) (fun r=>pure_rsp _) fun O=>?_;conv=>whnf
 refine gX ?_
 refine fz ?_;refine gH ?_
 have O:=O.addNil (.cells (flatC ((([]:List Nat)).map n8)) false)
 have O:=O.addNil (.cells (flatC ((([]:List Nat)).map n8)) false)
 (first|refine O.new (anew_alloc (l:=[(.slice none 0 0),(.slice none 0 0)]) rfl rfl rfl) fun g1 h O=>?_|refine O.newX (anew_alloc (l:=[(.slice none 0 0),(.slice none 0 0)]) rfl rfl rfl) fun g1 h O=>?_);refine gH ?_
 refine gX ?_
 have O:=O.addNil (.cells (flatC ((([]:List Nat)).map n8)) false)
 have O:=O.addNil (.cells (flatC ((([]:List Nat)).map n8)) false)
 (first|refine O.new (anew_alloc (l:=[(.slice none 0 0),(.slice none 0 0)]) rfl rfl rfl) fun g5 h O=>?_|refine O.newX (anew_alloc (l:=[(.slice none 0 0),(.slice none 0 0)]) rfl rfl rfl) fun g5 h O=>?_);refine gH ?_
 refine jn (σ:=(List Nat)×Option Nat) hm 65 [1,2,3] (fun s=>s.1) (fun (v10,a9) h=>(a9=none->v10=[])/\Own vars h0 [((some g1),.cells [(growV 1 none (([]:List Nat).map n8)),(growV 1 none (([]:List Nat).map n8))] false),(none,.cells (flatC (([]:List Nat).map n8)) false),(none,.cells (flatC (([]:List Nat).map n8)) false),((some g5),.cells [(growV 1 a9 (v10.map n8)),(growV 1 none (([]:List Nat).map n8))] false),(a9,.cells (flatC (v10.map n8)) false),(none,.cells (flatC (([]:List Nat).map n8)) false)] h) (fun (v10,a9)=>[]) (fun hm=>?_) ?_
 ·refine gX ?_
  refine lw 65 [1,2,3,12,13] (σ:=((List Nat)×Nat)×Option Nat) (fun s=>s.1) (fun ((v14,v15),a13) h=>(a13=none->v14=[])/\Own vars h0 [((some g1),.cells [(growV 1 none (([]:List Nat).map n8)),(growV 1 none (([]:List Nat).map n8))] false),(none,.cells (flatC (([]:List Nat).map n8)) false),(none,.cells (flatC (([]:List Nat).map n8)) false),((some g5),.cells [(growV 1 a13 (v14.map n8)),(growV 1 none (([]:List Nat).map n8))] false),(a13,.cells (flatC (v14.map n8)) false),(none,.cells (flatC (([]:List Nat).map n8)) false)] h) (fun ((v14,v15),a13)=>[(14,(i64 v15))]) ((([]:List Nat),0),none) hm ⟨(fun _=>rfl),(O.sel [3,5,4,0,2,1] (by decide))⟩ ?_
  clear hm;rintro⟨⟨v14,v15⟩,a13⟩ nx17 base h hm ⟨ha16,O⟩
  refine gX ?_
  refine br hm (fun hm=>?_) fun hm=>?_
  ·refine gX ?_
   refine atF hm fun x18 hx18 hm=>?_;refine gX ?_
   refine ldO (O.at (.tail _ (.tail _ (.tail _ (.head _))))) ?_;refine gH ?_
   first|refine⟨.inr (.inr (loadK rfl (O.at (.tail _ (.tail _ (.tail _ (.head _))))) rfl rfl)),?_⟩|refine⟨.inr (.inl (by kernel_rfl)),?_⟩
   refine gX ?_
   first|refine⟨.inr (.inr (rfl)),?_⟩|refine⟨.inr (.inl (by kernel_rfl)),?_⟩
   refine gX ?_
   refine ca (run_value_walk hm O.has) fun r19 hm=>?_;refine gH ?_
   (first|refine⟨.inr (.inr (loadK rfl (O.at (.head _)) rfl rfl)),?_⟩|refine⟨.inr (.inr (loadK rfl (O.at (.tail _ (.head _))) rfl rfl)),?_⟩|refine⟨.inr (.inr (loadK rfl (O.at (.tail _ (.tail _ (.head _)))) rfl rfl)),?_⟩|refine⟨.inr (.inr (loadK rfl (O.at (.tail _ (.tail _ (.tail _ (.head _))))) rfl rfl)),?_⟩|refine⟨.inr (.inr (loadK rfl (O.at (.tail _ (.tail _ (.tail _ (.tail _ (.head _)))))) rfl rfl)),?_⟩|refine⟨.inr (.inr (loadK rfl (O.at (.tail _ (.tail _ (.tail _ (.tail _ (.tail _ (.head _))))))) rfl rfl)),?_⟩|refine⟨.inr (.inr (loadK rfl (O.at (.tail _ (.tail _ (.tail _ (.tail _ (.tail _ (.tail _ (.head _)))))))) rfl rfl)),?_⟩|refine⟨.inl (Ext.refl _),?_⟩|refine⟨.inr (.inr rfl),?_⟩|refine⟨.inr (by kernel_rfl),?_⟩|refine⟨.inl (by kernel_rfl),?_⟩|refine id ?_);refine gH ?_
   refine O.buildLX (l:=([r19]:(List Nat))) (enc:=n8) (s:=1) (z:=(n8 0)) rfl rfl (by kernel_rfl) (by kernel_rfl) rfl rfl rfl rfl (fun _=>rfl) fun g20 h O=>?_;refine gH ?_
   refine O.appendL (enc:=n8) (l:=v14) (new:=([r19]:(List Nat))) (s:=1) (b:=1) (.tail _ (.tail _ (.tail _ (.tail _ (.tail _ (.head _)))))) ha16 rfl rfl rfl rfl rfl rfl rfl rfl (YOk.own (O.at (.head _)) rfl (fun _=>rfl) rfl) (fun _=>rfl) (fun _=>rfl) (by decide) hm.1 fun a22 h ha23 O=>?_;refine gH ?_
   (first|refine⟨.inr (.inr (loadK rfl (O.at (.head _)) rfl rfl)),?_⟩|refine⟨.inr (.inr (loadK rfl (O.at (.tail _ (.head _))) rfl rfl)),?_⟩|refine⟨.inr (.inr (loadK rfl (O.at (.tail _ (.tail _ (.head _)))) rfl rfl)),?_⟩|refine⟨.inr (.inr (loadK rfl (O.at (.tail _ (.tail _ (.tail _ (.head _))))) rfl rfl)),?_⟩|refine⟨.inr (.inr (loadK rfl (O.at (.tail _ (.tail _ (.tail _ (.tail _ (.head _)))))) rfl rfl)),?_⟩|refine⟨.inr (.inr (loadK rfl (O.at (.tail _ (.tail _ (.tail _ (.tail _ (.tail _ (.head _))))))) rfl rfl)),?_⟩|refine⟨.inr (.inr (loadK rfl (O.at (.tail _ (.tail _ (.tail _ (.tail _ (.tail _ (.tail _ (.head _)))))))) rfl rfl)),?_⟩|refine⟨.inl (Ext.refl _),?_⟩|refine⟨.inr (.inr rfl),?_⟩|refine⟨.inr (by kernel_rfl),?_⟩|refine⟨.inl (by kernel_rfl),?_⟩|refine id ?_);refine gH ?_
   replace hm:=hm.2
   refine O.stC 1 (.tail _ (.tail _ (.tail _ (.tail _ (.head _))))) [(growV 1 a22 ((v14++([r19]:(List Nat))).map n8)),(growV 1 none (([]:List Nat).map n8))] fun h O=>?_;refine gH ?_
   (first|refine⟨.inr (.inr (loadK rfl (O.at (.head _)) rfl rfl)),?_⟩|refine⟨.inr (.inr (loadK rfl (O.at (.tail _ (.head _))) rfl rfl)),?_⟩|refine⟨.inr (.inr (loadK rfl (O.at (.tail _ (.tail _ (.head _)))) rfl rfl)),?_⟩|refine⟨.inr (.inr (loadK rfl (O.at (.tail _ (.tail _ (.tail _ (.head _))))) rfl rfl)),?_⟩|refine⟨.inr (.inr (loadK rfl (O.at (.tail _ (.tail _ (.tail _ (.tail _ (.head _)))))) rfl rfl)),?_⟩|refine⟨.inr (.inr (loadK rfl (O.at (.tail _ (.tail _ (.tail _ (.tail _ (.tail _ (.head _))))))) rfl rfl)),?_⟩|refine⟨.inr (.inr (loadK rfl (O.at (.tail _ (.tail _ (.tail _ (.tail _ (.tail _ (.tail _ (.head _)))))))) rfl rfl)),?_⟩|refine⟨.inl (Ext.refl _),?_⟩|refine⟨.inr (.inr rfl),?_⟩|refine⟨.inr (by kernel_rfl),?_⟩|refine⟨.inl (by kernel_rfl),?_⟩|refine id ?_);refine gH ?_
   refine gX ?_
   refine aAdd hm fun hm=>?_;refine gH ?_
   exact jx (((v14++([r19]:(List Nat))),(v15+1)),a22) hm ⟨ha23,(O.sel [1,2,3,4,5,6] (by decide))⟩
  ·refine gX ?_
   exact jx (v14,a13) hm ⟨ha16,O⟩
 ·clear hm;rintro⟨v10,a9⟩ base h hm ⟨ha11,O⟩
  conv=>whnf
  refine jn (σ:=(List Nat)×Option Nat) hm 65 [2,3] (fun s=>s.1) (fun (v25,a24) h=>(a9=none->v10=[])/\(a24=none->v25=[])/\Own vars h0 [((some g1),.cells [(growV 1 none (([]:List Nat).map n8)),(growV 1 none (([]:List Nat).map n8))] false),(none,.cells (flatC (([]:List Nat).map n8)) false),(none,.cells (flatC (([]:List Nat).map n8)) false),((some g5),.cells [(growV 1 a9 (v10.map n8)),(growV 1 a24 (v25.map n8))] false),(a9,.cells (flatC (v10.map n8)) false),(a24,.cells (flatC (v25.map n8)) false)] h) (fun (v25,a24)=>[]) (fun hm=>?_) ?_
  ·refine gX ?_
   refine ca (netlists_States_walk hm O.has) fun r29 hm=>?_;refine gX ?_
   refine lw 65 [1,2,3,29,30] (σ:=((List Nat)×Nat)×Option Nat) (fun s=>s.1) (fun ((v31,v32),a30) h=>(a9=none->v10=[])/\(a30=none->v31=[])/\Own vars h0 [((some g1),.cells [(growV 1 none (([]:List Nat).map n8)),(growV 1 none (([]:List Nat).map n8))] false),(none,.cells (flatC (([]:List Nat).map n8)) false),(none,.cells (flatC (([]:List Nat).map n8)) false),((some g5),.cells [(growV 1 a9 (v10.map n8)),(growV 1 a30 (v31.map n8))] false),(a9,.cells (flatC (v10.map n8)) false),(a30,.cells (flatC (v31.map n8)) false)] h) (fun ((v31,v32),a30)=>[(31,(i64 v32))]) ((([]:List Nat),0),none) hm ⟨ha11,(fun _=>rfl),O⟩ ?_
   clear hm;rintro⟨⟨v31,v32⟩,a30⟩ nx35 base h hm ⟨ha33,ha34,O⟩
   refine gX ?_
   refine br hm (fun hm=>?_) fun hm=>?_
   ·refine gX ?_
    refine atF hm fun x36 hx36 hm=>?_;refine gH ?_
    apply Cs;conv=>whnf
    apply Cs;refine gH ?_
    refine jn hm 65 [1,2,3,29,30,31] (fun s=>s) (fun v37 h=>(a9=none->v10=[])/\(a30=none->v31=[])/\Own vars h0 [((some g1),.cells [(growV 1 none (([]:List Nat).map n8)),(growV 1 none (([]:List Nat).map n8))] false),(none,.cells (flatC (([]:List Nat).map n8)) false),(none,.cells (flatC (([]:List Nat).map n8)) false),((some g5),.cells [(growV 1 a9 (v10.map n8)),(growV 1 a30 (v31.map n8))] false),(a9,.cells (flatC (v10.map n8)) false),(a30,.cells (flatC (v31.map n8)) false)] h) (fun v37=>[(8,(n8 v37))]) (fun hm=>?_) ?_
    ·refine gX ?_
     refine atF hm fun x41 hx41 hm=>?_;refine gX ?_
     refine br hm (fun hm=>?_) fun hm=>?_
     ·refine gX ?_
      first|refine⟨.inr (.inr (rfl)),?_⟩|refine⟨.inr (.inl (by kernel_rfl)),?_⟩
      refine gX ?_
      refine atF hm fun x42 hx42 hm=>?_;refine gH ?_
      refine ca (run_value_walk hm O.has) fun r43 hm=>?_;refine gH ?_
      (first|refine⟨.inr (.inr (loadK rfl (O.at (.head _)) rfl rfl)),?_⟩|refine⟨.inr (.inr (loadK rfl (O.at (.tail _ (.head _))) rfl rfl)),?_⟩|refine⟨.inr (.inr (loadK rfl (O.at (.tail _ (.tail _ (.head _)))) rfl rfl)),?_⟩|refine⟨.inr (.inr (loadK rfl (O.at (.tail _ (.tail _ (.tail _ (.head _))))) rfl rfl)),?_⟩|refine⟨.inr (.inr (loadK rfl (O.at (.tail _ (.tail _ (.tail _ (.tail _ (.head _)))))) rfl rfl)),?_⟩|refine⟨.inr (.inr (loadK rfl (O.at (.tail _ (.tail _ (.tail _ (.tail _ (.tail _ (.head _))))))) rfl rfl)),?_⟩|refine⟨.inr (.inr (loadK rfl (O.at (.tail _ (.tail _ (.tail _ (.tail _ (.tail _ (.tail _ (.head _)))))))) rfl rfl)),?_⟩|refine⟨.inl (Ext.refl _),?_⟩|refine⟨.inr (.inr rfl),?_⟩|refine⟨.inr (by kernel_rfl),?_⟩|refine⟨.inl (by kernel_rfl),?_⟩|refine id ?_);refine gH ?_
      refine ca (logic_Read_walk hm O.has) fun r44 hm=>?_;refine gH ?_
      (first|refine⟨.inr (.inr (loadK rfl (O.at (.head _)) rfl rfl)),?_⟩|refine⟨.inr (.inr (loadK rfl (O.at (.tail _ (.head _))) rfl rfl)),?_⟩|refine⟨.inr (.inr (loadK rfl (O.at (.tail _ (.tail _ (.head _)))) rfl rfl)),?_⟩|refine⟨.inr (.inr (loadK rfl (O.at (.tail _ (.tail _ (.tail _ (.head _))))) rfl rfl)),?_⟩|refine⟨.inr (.inr (loadK rfl (O.at (.tail _ (.tail _ (.tail _ (.tail _ (.head _)))))) rfl rfl)),?_⟩|refine⟨.inr (.inr (loadK rfl (O.at (.tail _ (.tail _ (.tail _ (.tail _ (.tail _ (.head _))))))) rfl rfl)),?_⟩|refine⟨.inr (.inr (loadK rfl (O.at (.tail _ (.tail _ (.tail _ (.tail _ (.tail _ (.tail _ (.head _)))))))) rfl rfl)),?_⟩|refine⟨.inl (Ext.refl _),?_⟩|refine⟨.inr (.inr rfl),?_⟩|refine⟨.inr (by kernel_rfl),?_⟩|refine⟨.inl (by kernel_rfl),?_⟩|refine id ?_);refine gH ?_
      exact jx r44 hm ⟨ha33,ha34,O⟩
     ·refine gX ?_
      exact jx 2 hm ⟨ha33,ha34,O⟩
    ·clear hm;rintro v37 base h hm ⟨ha38,ha39,O⟩
     refine gX ?_
     refine ldO (O.at (.tail _ (.tail _ (.tail _ (.head _))))) ?_;refine gH ?_
     refine fz ?_;refine gH ?_
     refine O.apL (enc:=n8) (l:=v31) (new:=([v37]:(List Nat))) 1 (.tail _ (.tail _ (.tail _ (.tail _ (.tail _ (.head _)))))) ha39 hm fun a45 h ha46 O hm=>?_;refine gH ?_
     refine O.stC 1 (.tail _ (.tail _ (.tail _ (.head _)))) [(growV 1 a9 (v10.map n8)),(growV 1 a45 ((v31++([v37]:(List Nat))).map n8))] fun h O=>?_;refine gX ?_
     refine aAdd hm fun hm=>?_;refine gH ?_
     exact jx (((v31++([v37]:(List Nat))),(v32+1)),a45) hm ⟨ha38,ha46,O⟩
   ·refine gX ?_
    exact jx (v31,a30) hm ⟨ha33,ha34,O⟩
  ·clear hm;rintro⟨v25,a24⟩ base h hm ⟨ha26,ha27,O⟩
   refine gX ?_
   refine ldO (O.at (.tail _ (.tail _ (.tail _ (.head _))))) ?_;refine gH ?_
   first|refine⟨.inr (.inr (loadK rfl (O.at (.tail _ (.tail _ (.tail _ (.head _))))) rfl rfl)),?_⟩|refine⟨.inr (.inl (by kernel_rfl)),?_⟩
   refine gX ?_
   refine fg Tryz.func70 ?_;refine gX ?_
   refine clipK (s:=1) (enc:=n8) (l:=v10) (n:=v10.length) (m:=v10.length) rfl rfl rfl rfl rfl rfl rfl ?_;refine gX ?_
   (first|refine⟨.inr (.inr (loadK rfl (O.at (.head _)) rfl rfl)),?_⟩|refine⟨.inr (.inr (loadK rfl (O.at (.tail _ (.head _))) rfl rfl)),?_⟩|refine⟨.inr (.inr (loadK rfl (O.at (.tail _ (.tail _ (.head _)))) rfl rfl)),?_⟩|refine⟨.inr (.inr (loadK rfl (O.at (.tail _ (.tail _ (.tail _ (.head _))))) rfl rfl)),?_⟩|refine⟨.inr (.inr (loadK rfl (O.at (.tail _ (.tail _ (.tail _ (.tail _ (.head _)))))) rfl rfl)),?_⟩|refine⟨.inr (.inr (loadK rfl (O.at (.tail _ (.tail _ (.tail _ (.tail _ (.tail _ (.head _))))))) rfl rfl)),?_⟩|refine⟨.inr (.inr (loadK rfl (O.at (.tail _ (.tail _ (.tail _ (.tail _ (.tail _ (.tail _ (.head _)))))))) rfl rfl)),?_⟩|refine⟨.inl (Ext.refl _),?_⟩|refine⟨.inr (.inr rfl),?_⟩|refine⟨.inr (by kernel_rfl),?_⟩|refine⟨.inl (by kernel_rfl),?_⟩|refine id ?_);refine gH ?_
   refine ldO (O.at (.tail _ (.tail _ (.tail _ (.head _))))) ?_;refine gH ?_
   first|refine⟨.inr (.inr (loadK rfl (O.at (.tail _ (.tail _ (.tail _ (.head _))))) rfl rfl)),?_⟩|refine⟨.inr (.inl (by kernel_rfl)),?_⟩
   refine gX ?_
   refine fg Tryz.func70 ?_;refine gX ?_
   refine clipK (s:=1) (enc:=n8) (l:=v25) (n:=v25.length) (m:=v25.length) rfl rfl rfl rfl rfl rfl rfl ?_;refine gX ?_
   (first|refine⟨.inr (.inr (loadK rfl (O.at (.head _)) rfl rfl)),?_⟩|refine⟨.inr (.inr (loadK rfl (O.at (.tail _ (.head _))) rfl rfl)),?_⟩|refine⟨.inr (.inr (loadK rfl (O.at (.tail _ (.tail _ (.head _)))) rfl rfl)),?_⟩|refine⟨.inr (.inr (loadK rfl (O.at (.tail _ (.tail _ (.tail _ (.head _))))) rfl rfl)),?_⟩|refine⟨.inr (.inr (loadK rfl (O.at (.tail _ (.tail _ (.tail _ (.tail _ (.head _)))))) rfl rfl)),?_⟩|refine⟨.inr (.inr (loadK rfl (O.at (.tail _ (.tail _ (.tail _ (.tail _ (.tail _ (.head _))))))) rfl rfl)),?_⟩|refine⟨.inr (.inr (loadK rfl (O.at (.tail _ (.tail _ (.tail _ (.tail _ (.tail _ (.tail _ (.head _)))))))) rfl rfl)),?_⟩|refine⟨.inl (Ext.refl _),?_⟩|refine⟨.inr (.inr rfl),?_⟩|refine⟨.inr (by kernel_rfl),?_⟩|refine⟨.inl (by kernel_rfl),?_⟩|refine id ?_);refine gH ?_
   refine O.stC 2 (.head _) [(clipV a9 (v10.map n8)),(clipV a24 (v25.map n8))] fun h O=>?_;refine gH ?_
   (first|refine⟨.inr (.inr (loadK rfl (O.at (.head _)) rfl rfl)),?_⟩|refine⟨.inr (.inr (loadK rfl (O.at (.tail _ (.head _))) rfl rfl)),?_⟩|refine⟨.inr (.inr (loadK rfl (O.at (.tail _ (.tail _ (.head _)))) rfl rfl)),?_⟩|refine⟨.inr (.inr (loadK rfl (O.at (.tail _ (.tail _ (.tail _ (.head _))))) rfl rfl)),?_⟩|refine⟨.inr (.inr (loadK rfl (O.at (.tail _ (.tail _ (.tail _ (.tail _ (.head _)))))) rfl rfl)),?_⟩|refine⟨.inr (.inr (loadK rfl (O.at (.tail _ (.tail _ (.tail _ (.tail _ (.tail _ (.head _))))))) rfl rfl)),?_⟩|refine⟨.inr (.inr (loadK rfl (O.at (.tail _ (.tail _ (.tail _ (.tail _ (.tail _ (.tail _ (.head _)))))))) rfl rfl)),?_⟩|refine⟨.inl (Ext.refl _),?_⟩|refine⟨.inr (.inr rfl),?_⟩|refine⟨.inr (by kernel_rfl),?_⟩|refine⟨.inl (by kernel_rfl),?_⟩|refine id ?_);refine gH ?_
   refine gX ?_
   refine⟨_,resAggK rfl rfl (O.at (.head _)) rfl rfl (lbE rfl) rfl,?_⟩;conv=>whnf
   exact⟨(⟨v10,v25⟩:Rsp),hm,O.ext,fun h2 F=>VLe.agg (LLe.cons (O.clipL F (Nat.le_refl _) (.tail _ (.tail _ (.tail _ (.tail _ (.head _))))) ha26 (fun _=>rfl)) (LLe.cons (O.clipL F (Nat.le_refl _) (.tail _ (.tail _ (.tail _ (.tail _ (.tail _ (.head _)))))) ha27 (fun _=>rfl)) (LLe.nil _)))⟩
def sims_fits_wp (p0:Circ) (p1:Pat) (K:Nat->Prop):Prop :=
 joinW (α:=Bool) (fun k2=>((ltN 0 p0.mems.length)=true->k2 true)/\((ltN 0 p0.mems.length)=false->netlists_Of_wp p0 ([15]:(List Nat)) (fun r3=>k2 (ltN 0 r3.length)))) (fun v1=>(v1=true->K 7)/\(v1=false->joinW (α:=Bool) (fun k5=>netlists_Inputs_wp p0 (fun r6=>((neN p1.inp.length r6.length)=true->k5 true)/\((neN p1.inp.length r6.length)=false->netlists_States_wp p0 (fun r7=>k5 (neN p1.state.length r7.length))))) (fun v4=>(v4=true->K 8)/\(v4=false->joinW (α:=Bool) (fun k9=>cf_simsAbove_wp p1.inp (fun r10=>(r10=true->k9 true)/\(r10=false->cf_simsAbove_wp p1.state (fun r11=>k9 r11)))) (fun v8=>(v8=true->K 1)/\(v8=false->K 0))))))
theorem sims_fits_walk {p0:Circ}{p1:Pat}{K:Nat->Prop} (hm:sims_fits_wp p0 p1 K) {h0:Heap} (hB:HasB vars h0):∃ r,K r/\CallD Tryz.prog NG 31 ⟨[encCirc p0,encPat p1]⟩ h0 (i64 r) h0:=by
 unfold sims_fits_wp at hm
 refine fw Tryz.func31 hB (enc:=i64) (fun r=>PureV.flat rfl) fun O=>?_;conv=>whnf
 refine gX ?_
 refine fz ?_;refine gH ?_
 refine fz ?_;refine gH ?_
 apply Cs;conv=>whnf
 apply Cs;conv=>whnf
 refine jn hm 43 [2,3] (fun s=>s) (fun v1 h=>Own vars h0 [] h) (fun v1=>[(5,(.bool v1))]) (fun hm=>?_) ?_
 ·refine gX ?_
  refine br hm (fun hm=>?_) fun hm=>?_
  ·refine gX ?_
   exact jx true hm O
  ·refine gX ?_
   refine fz ?_;refine gH ?_
   refine ca (netlists_Of_walk hm O.has) fun r3 hm=>?_;refine gH ?_
   exact jx (ltN 0 r3.length) hm O
 ·clear hm;rintro v1 base h hm O
  refine gX ?_
  refine br hm (fun hm=>?_) fun hm=>?_
  ·refine gX ?_
   exact fe hm O
  ·refine jn hm 43 [3] (fun s=>s) (fun v4 h=>Own vars h0 [] h) (fun v4=>[(17,(.bool v4))]) (fun hm=>?_) ?_
   ·refine gX ?_
    first|refine⟨.inr (.inr (rfl)),?_⟩|refine⟨.inr (.inl (by kernel_rfl)),?_⟩
    refine gX ?_
    first|refine⟨.inr (.inr (rfl)),?_⟩|refine⟨.inr (.inl (by kernel_rfl)),?_⟩
    refine gX ?_
    refine ca (netlists_Inputs_walk hm O.has) fun r6 hm=>?_;refine gH ?_
    (first|refine⟨.inr (.inr (loadK rfl (O.at (.head _)) rfl rfl)),?_⟩|refine⟨.inr (.inr (loadK rfl (O.at (.tail _ (.head _))) rfl rfl)),?_⟩|refine⟨.inr (.inr (loadK rfl (O.at (.tail _ (.tail _ (.head _)))) rfl rfl)),?_⟩|refine⟨.inr (.inr (loadK rfl (O.at (.tail _ (.tail _ (.tail _ (.head _))))) rfl rfl)),?_⟩|refine⟨.inr (.inr (loadK rfl (O.at (.tail _ (.tail _ (.tail _ (.tail _ (.head _)))))) rfl rfl)),?_⟩|refine⟨.inr (.inr (loadK rfl (O.at (.tail _ (.tail _ (.tail _ (.tail _ (.tail _ (.head _))))))) rfl rfl)),?_⟩|refine⟨.inr (.inr (loadK rfl (O.at (.tail _ (.tail _ (.tail _ (.tail _ (.tail _ (.tail _ (.head _)))))))) rfl rfl)),?_⟩|refine⟨.inl (Ext.refl _),?_⟩|refine⟨.inr (.inr rfl),?_⟩|refine⟨.inr (by kernel_rfl),?_⟩|refine⟨.inl (by kernel_rfl),?_⟩|refine id ?_);refine gH ?_
    refine br hm (fun hm=>?_) fun hm=>?_
    ·refine gX ?_
     exact jx true hm O
    ·refine gX ?_
     first|refine⟨.inr (.inr (rfl)),?_⟩|refine⟨.inr (.inl (by kernel_rfl)),?_⟩
     refine gX ?_
     first|refine⟨.inr (.inr (rfl)),?_⟩|refine⟨.inr (.inl (by kernel_rfl)),?_⟩
     refine gX ?_
     refine ca (netlists_States_walk hm O.has) fun r7 hm=>?_;refine gH ?_
     (first|refine⟨.inr (.inr (loadK rfl (O.at (.head _)) rfl rfl)),?_⟩|refine⟨.inr (.inr (loadK rfl (O.at (.tail _ (.head _))) rfl rfl)),?_⟩|refine⟨.inr (.inr (loadK rfl (O.at (.tail _ (.tail _ (.head _)))) rfl rfl)),?_⟩|refine⟨.inr (.inr (loadK rfl (O.at (.tail _ (.tail _ (.tail _ (.head _))))) rfl rfl)),?_⟩|refine⟨.inr (.inr (loadK rfl (O.at (.tail _ (.tail _ (.tail _ (.tail _ (.head _)))))) rfl rfl)),?_⟩|refine⟨.inr (.inr (loadK rfl (O.at (.tail _ (.tail _ (.tail _ (.tail _ (.tail _ (.head _))))))) rfl rfl)),?_⟩|refine⟨.inr (.inr (loadK rfl (O.at (.tail _ (.tail _ (.tail _ (.tail _ (.tail _ (.tail _ (.head _)))))))) rfl rfl)),?_⟩|refine⟨.inl (Ext.refl _),?_⟩|refine⟨.inr (.inr rfl),?_⟩|refine⟨.inr (by kernel_rfl),?_⟩|refine⟨.inl (by kernel_rfl),?_⟩|refine id ?_);refine gH ?_
     exact jx (neN p1.state.length r7.length) hm O
   ·clear hm;rintro v4 base h hm O
    refine gX ?_
    refine br hm (fun hm=>?_) fun hm=>?_
    ·refine gX ?_
     exact fe hm O
    ·refine jn hm 43 [] (fun s=>s) (fun v8 h=>Own vars h0 [] h) (fun v8=>[(34,(.bool v8))]) (fun hm=>?_) ?_
     ·refine gX ?_
      refine ca (cf_simsAbove_walk hm O.has) fun r10 hm=>?_;refine gH ?_
      refine br hm (fun hm=>?_) fun hm=>?_
      ·refine gX ?_
       exact jx true hm O
      ·refine gX ?_
       refine ca (cf_simsAbove_walk hm O.has) fun r11 hm=>?_;refine gH ?_
       exact jx r11 hm O
     ·clear hm;rintro v8 base h hm O
      refine gX ?_
      refine br hm (fun hm=>?_) fun hm=>?_
      ·refine gX ?_
       exact fe hm O
      ·refine gX ?_
       exact fe hm O
def sims_Run_wp (p0:Circ) (p1:Pat) (K:(Rsp×(List Nat)×Nat)->Prop):Prop :=
 netlists_Order_wp p0 (fun r5=>joinW (α:=Nat) (fun k7=>((eqN r5.2 0)=true->sims_fits_wp p0 p1 (fun r8=>k7 r8))/\((eqN r5.2 0)=false->k7 r5.2)) (fun v6=>((neN v6 0)=true->K ((⟨[],[]⟩:Rsp),[],v6))/\((neN v6 0)=false->1*p0.nodes.length<=2 ^ 48/\p0.nodes.length<2 ^ 63/\joinW (α:=(List Nat)) (fun k21=>netlists_Inputs_wp p0 (fun r22=>loopW (S:=((List Nat)×Nat)) (fun (v23,v24) nx25=>((ltN v24 r22.length)=true->∃ x26,r22[v24]?=some x26/\∃ x27,p1.inp[v24]?=some x27/\x26<p0.nodes.length/\∃ x28,v23[x26]?=some x28/\v24+1<2 ^ 63/\nx25 ((v23.set x26 x27),(v24+1)))/\((ltN v24 r22.length)=false->k21 v23)) ((List.replicate p0.nodes.length (0:Nat)),0))) (fun v20=>netlists_States_wp p0 (fun r29=>loopW (S:=((List Nat)×Nat)) (fun (v30,v31) nx32=>((ltN v31 r29.length)=true->∃ x33,r29[v31]?=some x33/\∃ x34,p1.state[v31]?=some x34/\x33<p0.nodes.length/\∃ x35,v30[x33]?=some x35/\v31+1<2 ^ 63/\nx32 ((v30.set x33 x34),(v31+1)))/\((ltN v31 r29.length)=false->joinW (α:=(List Nat)) (fun k39=>loopW (S:=((List Nat)×(List Nat)×Nat×Nat)) (fun (v40,v41,v42,v43) nx44=>((ltN v43 r5.1.length)=true->joinW (α:=((List Nat)×(List Nat)×Nat)) (fun k48=>∃ x49,r5.1[v43]?=some x49/\∃ x50,p0.nodes[x49]?=some x50/\netlists_Comb_wp x50.kind (fun r54=>((!r54)=true->k48 (v40,v41,v42))/\((!r54)=false->0<=16/\joinW (α:=((List Nat)×Nat)) (fun k57=>loopW (S:=((List Nat)×Nat×Nat)) (fun (v58,v59,v60) nx61=>((ltN v60 x50.ins.length)=true->∃ x62,x50.ins[v60]?=some x62/\x62<p0.nodes.length/\∃ x63,v40[x62]?=some x63/\(v59+1)<=16/\(v59+1)<=v58.length/\v60+1<2 ^ 63/\nx61 ((v58.take v59++(([x63]:(List Nat))++v58.drop (v59+1))),(v59+1),(v60+1)))/\((ltN v60 x50.ins.length)=false->k57 (v58,v59))) (v41,0,0)) (fun (v55,v56)=>v56<=v55.length/\logic_Eval_wp x50.kind (v55.take v56) (fun r64=>x49<p0.nodes.length/\∃ x66,v40[x49]?=some x66/\k48 ((v40.set x49 r64),v55,v56)))))) (fun (v45,v46,v47)=>v43+1<2 ^ 63/\nx44 (v45,v46,v47,(v43+1))))/\((ltN v43 r5.1.length)=false->k39 v40)) (v30,(List.replicate 16 (0:Nat)),0,0)) (fun v38=>p0.nodes.length=v38.length/\run_observe_wp (⟨p0,v38⟩:SRun) (fun r68=>K (r68,v38,0))))) (v20,0))))))
theorem sims_Run_walk {p0:Circ}{p1:Pat}{K:(Rsp×(List Nat)×Nat)->Prop} (hm:sims_Run_wp p0 p1 K) {h0:Heap} (hB:HasB vars h0):∃ r,K r/\CallD Tryz.prog NG 12 ⟨[encCirc p0,encPat p1]⟩ h0 ((fun (r:(Rsp×(List Nat)×Nat))=>Value.tuple ⟨[encRsp (r.1),(encL 1 n8) (r.2.1),i64 (r.2.2)]⟩) r) h0:=by
 unfold sims_Run_wp at hm
 refine fw Tryz.func12 hB (enc:=(fun (r:(Rsp×(List Nat)×Nat))=>Value.tuple ⟨[encRsp (r.1),(encL 1 n8) (r.2.1),i64 (r.2.2)]⟩)) (fun r=>PureV.tup (AllPure.cons (pure_rsp _) (AllPure.cons (pureL (fun _=>AllPure.cons (PureV.flat rfl) AllPure.nil)) (AllPure.cons (PureV.flat rfl) (AllPure.nil))))) fun O=>?_;conv=>whnf
 refine gX ?_
 refine fz ?_;refine gH ?_
 refine fz ?_;refine gH ?_
 have O:=O.addNil (.cells (flatC ((([]:List Nat)).map n8)) false)
 have O:=O.addNil (.cells (flatC ((([]:List Nat)).map n8)) false)
 (first|refine O.new (anew_alloc (l:=[(.slice none 0 0),(.slice none 0 0)]) rfl rfl rfl) fun g1 h O=>?_|refine O.newX (anew_alloc (l:=[(.slice none 0 0),(.slice none 0 0)]) rfl rfl rfl) fun g1 h O=>?_);refine gH ?_
 refine gX ?_
 refine ca (netlists_Order_walk hm O.has) fun r5 hm=>?_;refine gH ?_
 refine jn hm 87 [2,3,4,7] (fun s=>s) (fun v6 h=>Own vars h0 [((some g1),.cells [(growV 1 none (([]:List Nat).map n8)),(growV 1 none (([]:List Nat).map n8))] false),(none,.cells (flatC (([]:List Nat).map n8)) false),(none,.cells (flatC (([]:List Nat).map n8)) false)] h) (fun v6=>[(8,(i64 v6))]) (fun hm=>?_) ?_
 ·refine gX ?_
  refine br hm (fun hm=>?_) fun hm=>?_
  ·refine gX ?_
   refine ca (sims_fits_walk hm O.has) fun r8 hm=>?_;refine gH ?_
   exact jx r8 hm (O.sel [0,2,1] (by decide))
  ·refine gX ?_
   exact jx r5.2 hm (O.sel [0,2,1] (by decide))
 ·clear hm;rintro v6 base h hm O
  refine gX ?_
  refine br hm (fun hm=>?_) fun hm=>?_
  ·refine gX ?_
   refine O.stC 2 (.head _) [(.slice none 0 0),(.slice none 0 0)] fun h O=>?_;refine gX ?_
   refine⟨_,resAggK rfl rfl (O.at (.head _)) rfl rfl (lbE rfl) rfl,?_⟩;conv=>whnf
   exact⟨((⟨[],[]⟩:Rsp),[],v6),hm,O.ext,fun h2 F=>VLe.tup (LLe.cons (VLe.agg (LLe.cons (VLe.nil _ _) (LLe.cons (VLe.nil _ _) (LLe.nil _)))) (LLe.cons (VLe.nil _ _) (LLe.cons (VLe.refl _ _) (LLe.nil _))))⟩
  ·refine gX ?_
   first|refine⟨.inr (.inr (rfl)),?_⟩|refine⟨.inr (.inl (by kernel_rfl)),?_⟩
   refine gX ?_
   first|refine⟨.inr (.inr (rfl)),?_⟩|refine⟨.inr (.inl (by kernel_rfl)),?_⟩
   refine gX ?_
   refine O.makeLX (enc:=n8) (z:=0) (b:=1) (s:=1) (n:=p0.nodes.length) rfl rfl rfl rfl rfl (by decide) (by kernel_rfl) rfl rfl hm.1 hm.2.1 fun g9 h O=>?_;refine gH ?_
   replace hm:=hm.2.2
   have O:=O.addNil (.cells (flatC ((([]:List Node)).map encNode)) false)
   have O:=O.addNil (.cells (flatC ((([]:List ByteArray)).map Value.string)) false)
   have O:=O.addNil (.cells (flatC ((([]:List Memo)).map encMem)) false)
   have O:=O.addNil (.cells (flatC ((([]:List Nat)).map i64)) false)
   have O:=O.addNil (.cells (flatC ((([]:List Nat)).map n8)) false)
   (first|refine O.new (anew_alloc (l:=[(.slice none 0 0),(.slice none 0 0),(.slice none 0 0),(.slice none 0 0),(.slice none 0 0)]) rfl rfl rfl) fun g11 h O=>?_|refine O.newX (anew_alloc (l:=[(.slice none 0 0),(.slice none 0 0),(.slice none 0 0),(.slice none 0 0),(.slice none 0 0)]) rfl rfl rfl) fun g11 h O=>?_);refine gH ?_
   refine O.stC 5 (.head _) [((encL 4 encNode) p0.nodes),((encL 1 Value.string) p0.names),((encL 3 encMem) p0.mems),((encL 1 i64) p0.outs),(.slice (some ⟨g9,0,none⟩) p0.nodes.length p0.nodes.length)] fun h O=>?_;refine gH ?_
   (first|refine⟨.inr (.inr (loadK rfl (O.at (.head _)) rfl rfl)),?_⟩|refine⟨.inr (.inr (loadK rfl (O.at (.tail _ (.head _))) rfl rfl)),?_⟩|refine⟨.inr (.inr (loadK rfl (O.at (.tail _ (.tail _ (.head _)))) rfl rfl)),?_⟩|refine⟨.inr (.inr (loadK rfl (O.at (.tail _ (.tail _ (.tail _ (.head _))))) rfl rfl)),?_⟩|refine⟨.inr (.inr (loadK rfl (O.at (.tail _ (.tail _ (.tail _ (.tail _ (.head _)))))) rfl rfl)),?_⟩|refine⟨.inr (.inr (loadK rfl (O.at (.tail _ (.tail _ (.tail _ (.tail _ (.tail _ (.head _))))))) rfl rfl)),?_⟩|refine⟨.inr (.inr (loadK rfl (O.at (.tail _ (.tail _ (.tail _ (.tail _ (.tail _ (.tail _ (.head _)))))))) rfl rfl)),?_⟩|refine⟨.inl (Ext.refl _),?_⟩|refine⟨.inr (.inr rfl),?_⟩|refine⟨.inr (by kernel_rfl),?_⟩|refine⟨.inl (by kernel_rfl),?_⟩|refine id ?_);refine gH ?_
   refine gX ?_
   refine ldA (O.at (.head _)) ?_;refine gH ?_
   refine fg Tryz.func32 ?_;refine gX ?_
   (first|refine O.new (boxK rfl) fun g18 h O=>?_|refine O.newX (boxK rfl) fun g18 h O=>?_);refine gH ?_
   refine fz ?_;refine gH ?_
   refine jn hm 46 [2,3] (fun s=>s) (fun v20 h=>Own vars h0 [((some g18),.cells [((encL 4 encNode) p0.nodes),((encL 1 Value.string) p0.names),((encL 3 encMem) p0.mems),((encL 1 i64) p0.outs),(.slice (some ⟨g9,0,none⟩) p0.nodes.length p0.nodes.length)] false),((some g9),.cells (flatC (v20.map n8)) false),((some g1),.cells [(growV 1 none (([]:List Nat).map n8)),(growV 1 none (([]:List Nat).map n8))] false),(none,.cells (flatC (([]:List Nat).map n8)) false),(none,.cells (flatC (([]:List Nat).map n8)) false),((some g11),.cells [((encL 4 encNode) p0.nodes),((encL 1 Value.string) p0.names),((encL 3 encMem) p0.mems),((encL 1 i64) p0.outs),(.slice (some ⟨g9,0,none⟩) p0.nodes.length p0.nodes.length)] false)] h) (fun v20=>[]) (fun hm=>?_) ?_
   ·refine gX ?_
    refine ldA (O.at (.head _)) ?_;refine gH ?_
    refine ca (netlists_Inputs_walk hm O.has) fun r22 hm=>?_;refine gX ?_
    refine lw 46 [2,3,10,11] (σ:=((List Nat)×Nat)) (fun s=>s) (fun (v23,v24) h=>Own vars h0 [((some g18),.cells [((encL 4 encNode) p0.nodes),((encL 1 Value.string) p0.names),((encL 3 encMem) p0.mems),((encL 1 i64) p0.outs),(.slice (some ⟨g9,0,none⟩) p0.nodes.length p0.nodes.length)] false),((some g9),.cells (flatC (v23.map n8)) false),((some g1),.cells [(growV 1 none (([]:List Nat).map n8)),(growV 1 none (([]:List Nat).map n8))] false),(none,.cells (flatC (([]:List Nat).map n8)) false),(none,.cells (flatC (([]:List Nat).map n8)) false),((some g11),.cells [((encL 4 encNode) p0.nodes),((encL 1 Value.string) p0.names),((encL 3 encMem) p0.mems),((encL 1 i64) p0.outs),(.slice (some ⟨g9,0,none⟩) p0.nodes.length p0.nodes.length)] false)] h) (fun (v23,v24)=>[(12,(i64 v24))]) ((List.replicate p0.nodes.length (0:Nat)),0) hm (O.sel [0,7,8,9,10,1] (by decide)) ?_
    clear hm;rintro⟨v23,v24⟩ nx25 base h hm O
    refine gX ?_
    refine br hm (fun hm=>?_) fun hm=>?_
    ·refine gX ?_
     refine atF hm fun x26 hx26 hm=>?_;refine gX ?_
     first|refine⟨.inr (.inr (loadK rfl (O.at (.head _)) rfl rfl)),?_⟩|refine⟨.inr (.inl (by kernel_rfl)),?_⟩
     refine gX ?_
     first|refine⟨.inr (.inr (rfl)),?_⟩|refine⟨.inr (.inl (by kernel_rfl)),?_⟩
     refine gX ?_
     refine atF hm fun x27 hx27 hm=>?_;refine gH ?_
     refine ix 1 hm fun x28 hx28 hm=>?_;refine gH ?_
     refine O.stE 1 (.tail _ (.head _)) hx28 x27 fun h O=>?_;refine gH ?_
     (first|refine⟨.inr (.inr (loadK rfl (O.at (.head _)) rfl rfl)),?_⟩|refine⟨.inr (.inr (loadK rfl (O.at (.tail _ (.head _))) rfl rfl)),?_⟩|refine⟨.inr (.inr (loadK rfl (O.at (.tail _ (.tail _ (.head _)))) rfl rfl)),?_⟩|refine⟨.inr (.inr (loadK rfl (O.at (.tail _ (.tail _ (.tail _ (.head _))))) rfl rfl)),?_⟩|refine⟨.inr (.inr (loadK rfl (O.at (.tail _ (.tail _ (.tail _ (.tail _ (.head _)))))) rfl rfl)),?_⟩|refine⟨.inr (.inr (loadK rfl (O.at (.tail _ (.tail _ (.tail _ (.tail _ (.tail _ (.head _))))))) rfl rfl)),?_⟩|refine⟨.inr (.inr (loadK rfl (O.at (.tail _ (.tail _ (.tail _ (.tail _ (.tail _ (.tail _ (.head _)))))))) rfl rfl)),?_⟩|refine⟨.inl (Ext.refl _),?_⟩|refine⟨.inr (.inr rfl),?_⟩|refine⟨.inr (by kernel_rfl),?_⟩|refine⟨.inl (by kernel_rfl),?_⟩|refine id ?_);refine gH ?_
     refine gX ?_
     refine aAdd hm fun hm=>?_;refine gH ?_
     exact jx ((v23.set x26 x27),(v24+1)) hm O
    ·refine gX ?_
     exact jx v23 hm O
   ·clear hm;rintro v20 base h hm O
    refine gX ?_
    refine ldA (O.at (.head _)) ?_;refine gH ?_
    refine ca (netlists_States_walk hm O.has) fun r29 hm=>?_;refine gX ?_
    refine lw 46 [2,3,29,30] (σ:=((List Nat)×Nat)) (fun s=>s) (fun (v30,v31) h=>Own vars h0 [((some g18),.cells [((encL 4 encNode) p0.nodes),((encL 1 Value.string) p0.names),((encL 3 encMem) p0.mems),((encL 1 i64) p0.outs),(.slice (some ⟨g9,0,none⟩) p0.nodes.length p0.nodes.length)] false),((some g9),.cells (flatC (v30.map n8)) false),((some g1),.cells [(growV 1 none (([]:List Nat).map n8)),(growV 1 none (([]:List Nat).map n8))] false),(none,.cells (flatC (([]:List Nat).map n8)) false),(none,.cells (flatC (([]:List Nat).map n8)) false),((some g11),.cells [((encL 4 encNode) p0.nodes),((encL 1 Value.string) p0.names),((encL 3 encMem) p0.mems),((encL 1 i64) p0.outs),(.slice (some ⟨g9,0,none⟩) p0.nodes.length p0.nodes.length)] false)] h) (fun (v30,v31)=>[(31,(i64 v31))]) (v20,0) hm O ?_
    clear hm;rintro⟨v30,v31⟩ nx32 base h hm O
    refine gX ?_
    refine br hm (fun hm=>?_) fun hm=>?_
    ·refine gX ?_
     refine atF hm fun x33 hx33 hm=>?_;refine gX ?_
     first|refine⟨.inr (.inr (loadK rfl (O.at (.head _)) rfl rfl)),?_⟩|refine⟨.inr (.inl (by kernel_rfl)),?_⟩
     refine gX ?_
     first|refine⟨.inr (.inr (rfl)),?_⟩|refine⟨.inr (.inl (by kernel_rfl)),?_⟩
     refine gX ?_
     refine atF hm fun x34 hx34 hm=>?_;refine gH ?_
     refine ix 1 hm fun x35 hx35 hm=>?_;refine gH ?_
     refine O.stE 1 (.tail _ (.head _)) hx35 x34 fun h O=>?_;refine gH ?_
     (first|refine⟨.inr (.inr (loadK rfl (O.at (.head _)) rfl rfl)),?_⟩|refine⟨.inr (.inr (loadK rfl (O.at (.tail _ (.head _))) rfl rfl)),?_⟩|refine⟨.inr (.inr (loadK rfl (O.at (.tail _ (.tail _ (.head _)))) rfl rfl)),?_⟩|refine⟨.inr (.inr (loadK rfl (O.at (.tail _ (.tail _ (.tail _ (.head _))))) rfl rfl)),?_⟩|refine⟨.inr (.inr (loadK rfl (O.at (.tail _ (.tail _ (.tail _ (.tail _ (.head _)))))) rfl rfl)),?_⟩|refine⟨.inr (.inr (loadK rfl (O.at (.tail _ (.tail _ (.tail _ (.tail _ (.tail _ (.head _))))))) rfl rfl)),?_⟩|refine⟨.inr (.inr (loadK rfl (O.at (.tail _ (.tail _ (.tail _ (.tail _ (.tail _ (.tail _ (.head _)))))))) rfl rfl)),?_⟩|refine⟨.inl (Ext.refl _),?_⟩|refine⟨.inr (.inr rfl),?_⟩|refine⟨.inr (by kernel_rfl),?_⟩|refine⟨.inl (by kernel_rfl),?_⟩|refine id ?_);refine gH ?_
     refine gX ?_
     refine aAdd hm fun hm=>?_;refine gH ?_
     exact jx ((v30.set x33 x34),(v31+1)) hm O
    ·refine gX ?_
     refine O.makeW (enc:=n8) (z:=0) (b:=1) (s:=1) (m:=0) (n:=16) rfl rfl rfl rfl rfl (by decide) (by kernel_rfl) rfl rfl (by decide) (by decide) (by decide) fun g36 h O=>?_;refine gH ?_
     refine jn hm 87 [4,9] (fun s=>s) (fun v38 h=>Own vars h0 [((some g1),.cells [(growV 1 none (([]:List Nat).map n8)),(growV 1 none (([]:List Nat).map n8))] false),(none,.cells (flatC (([]:List Nat).map n8)) false),(none,.cells (flatC (([]:List Nat).map n8)) false),((some g11),.cells [((encL 4 encNode) p0.nodes),((encL 1 Value.string) p0.names),((encL 3 encMem) p0.mems),((encL 1 i64) p0.outs),(.slice (some ⟨g9,0,none⟩) p0.nodes.length p0.nodes.length)] false),((some g9),.cells (flatC (v38.map n8)) false)] h) (fun v38=>[]) (fun hm=>?_) ?_
     ·refine gX ?_
      refine lw 87 [4,9,40,41] (σ:=((List Nat)×(List Nat)×Nat×Nat)) (fun s=>s) (fun (v40,v41,v42,v43) h=>Own vars h0 [((some g1),.cells [(growV 1 none (([]:List Nat).map n8)),(growV 1 none (([]:List Nat).map n8))] false),(none,.cells (flatC (([]:List Nat).map n8)) false),(none,.cells (flatC (([]:List Nat).map n8)) false),((some g11),.cells [((encL 4 encNode) p0.nodes),((encL 1 Value.string) p0.names),((encL 3 encMem) p0.mems),((encL 1 i64) p0.outs),(.slice (some ⟨g9,0,none⟩) p0.nodes.length p0.nodes.length)] false),((some g9),.cells (flatC (v40.map n8)) false),((some g36),.cells (flatC (v41.map n8)) false)] h) (fun (v40,v41,v42,v43)=>[(10,(.slice (some ⟨g36,0,none⟩) v42 16)),(42,(i64 v43))]) (v30,(List.replicate 16 (0:Nat)),0,0) hm (O.sel [3,4,5,6,2,0] (by decide)) ?_
      clear hm;rintro⟨v40,v41,v42,v43⟩ nx44 base h hm O
      refine gX ?_
      refine br hm (fun hm=>?_) fun hm=>?_
      ·apply Cs;conv=>whnf
       refine jn hm 87 [4,9,40,41,42] (fun s=>s) (fun (v45,v46,v47) h=>Own vars h0 [((some g1),.cells [(growV 1 none (([]:List Nat).map n8)),(growV 1 none (([]:List Nat).map n8))] false),(none,.cells (flatC (([]:List Nat).map n8)) false),(none,.cells (flatC (([]:List Nat).map n8)) false),((some g11),.cells [((encL 4 encNode) p0.nodes),((encL 1 Value.string) p0.names),((encL 3 encMem) p0.mems),((encL 1 i64) p0.outs),(.slice (some ⟨g9,0,none⟩) p0.nodes.length p0.nodes.length)] false),((some g9),.cells (flatC (v45.map n8)) false),((some g36),.cells (flatC (v46.map n8)) false)] h) (fun (v45,v46,v47)=>[(10,(.slice (some ⟨g36,0,none⟩) v47 16))]) (fun hm=>?_) ?_
       ·refine gX ?_
        refine atF hm fun x49 hx49 hm=>?_;refine gX ?_
        refine ldO (O.at (.tail _ (.tail _ (.tail _ (.head _))))) ?_;refine gH ?_
        refine atF hm fun x50 hx50 hm=>?_;refine gH ?_
        have O:=O.addNil (.cells (flatC ((([]:List Nat)).map i64)) false)
        (first|refine O.new (anew_alloc (l:=[(n8 0),(.slice none 0 0),(i64 0),(i64 0)]) rfl rfl rfl) fun g51 h O=>?_|refine O.newX (anew_alloc (l:=[(n8 0),(.slice none 0 0),(i64 0),(i64 0)]) rfl rfl rfl) fun g51 h O=>?_);refine gH ?_
        refine O.stC 4 (.head _) [(n8 x50.kind),((encL 1 i64) x50.ins),(i64 x50.mem),(i64 x50.bit)] fun h O=>?_;refine gX ?_
        refine ca (netlists_Comb_walk hm O.has) fun r54 hm=>?_;refine gX ?_
        refine br hm (fun hm=>?_) fun hm=>?_
        ·refine gX ?_
         exact jx (v40,v41,v42) hm (O.sel [2,3,4,5,6,7] (by decide))
        ·refine gX ?_
         refine winTo (s:=1) (m:=0) rfl rfl rfl rfl hm.1 ?_;refine gH ?_
         replace hm:=hm.2
         refine jn hm 87 [4,9,12,13,40,41,42] (fun s=>s) (fun (v55,v56) h=>Own vars h0 [((some g1),.cells [(growV 1 none (([]:List Nat).map n8)),(growV 1 none (([]:List Nat).map n8))] false),(none,.cells (flatC (([]:List Nat).map n8)) false),(none,.cells (flatC (([]:List Nat).map n8)) false),((some g11),.cells [((encL 4 encNode) p0.nodes),((encL 1 Value.string) p0.names),((encL 3 encMem) p0.mems),((encL 1 i64) p0.outs),(.slice (some ⟨g9,0,none⟩) p0.nodes.length p0.nodes.length)] false),((some g9),.cells (flatC (v40.map n8)) false),((some g36),.cells (flatC (v55.map n8)) false),((some g51),.cells [(n8 x50.kind),((encL 1 i64) x50.ins),(i64 x50.mem),(i64 x50.bit)] false)] h) (fun (v55,v56)=>[(10,(.slice (some ⟨g36,0,none⟩) v56 16))]) (fun hm=>?_) ?_
         ·refine gX ?_
          refine lw 87 [4,9,12,13,40,41,42,59,60] (σ:=((List Nat)×Nat×Nat)) (fun s=>s) (fun (v58,v59,v60) h=>Own vars h0 [((some g1),.cells [(growV 1 none (([]:List Nat).map n8)),(growV 1 none (([]:List Nat).map n8))] false),(none,.cells (flatC (([]:List Nat).map n8)) false),(none,.cells (flatC (([]:List Nat).map n8)) false),((some g11),.cells [((encL 4 encNode) p0.nodes),((encL 1 Value.string) p0.names),((encL 3 encMem) p0.mems),((encL 1 i64) p0.outs),(.slice (some ⟨g9,0,none⟩) p0.nodes.length p0.nodes.length)] false),((some g9),.cells (flatC (v40.map n8)) false),((some g36),.cells (flatC (v58.map n8)) false),((some g51),.cells [(n8 x50.kind),((encL 1 i64) x50.ins),(i64 x50.mem),(i64 x50.bit)] false)] h) (fun (v58,v59,v60)=>[(10,(.slice (some ⟨g36,0,none⟩) v59 16)),(61,(i64 v60))]) (v41,0,0) hm (O.sel [2,3,4,5,6,7,0] (by decide)) ?_
          clear hm;rintro⟨v58,v59,v60⟩ nx61 base h hm O
          refine gX ?_
          refine br hm (fun hm=>?_) fun hm=>?_
          ·refine gX ?_
           refine atF hm fun x62 hx62 hm=>?_;refine gX ?_
           refine ldO (O.at (.tail _ (.tail _ (.tail _ (.head _))))) ?_;refine gH ?_
           refine ix 1 hm fun x63 hx63 hm=>?_;refine gH ?_
           refine ldE (s:=1) (i:=0) (O.at (.tail _ (.tail _ (.tail _ (.tail _ (.head _)))))) hx63 ?_;refine gH ?_
           refine fz ?_;refine gH ?_
           refine O.appendR (enc:=n8) (l:=v58) (new:=([x63]:(List Nat))) (s:=1) (b:=1) (.tail _ (.tail _ (.tail _ (.tail _ (.tail _ (.head _)))))) rfl rfl rfl rfl rfl rfl rfl (YOk.fl rfl) (fun _=>rfl) (fun _=>rfl) (Nat.zero_lt_succ _) hm.1 hm.2.1 fun h O=>?_;refine gX ?_
           replace hm:=hm.2.2
           refine aAdd hm fun hm=>?_;refine gH ?_
           exact jx ((v58.take v59++(([x63]:(List Nat))++v58.drop (v59+1))),(v59+1),(v60+1)) hm O
          ·refine gX ?_
           exact jx (v58,v59) hm O
         ·clear hm;rintro⟨v55,v56⟩ base h hm O
          refine gX ?_
          refine ldO (O.at (.tail _ (.tail _ (.tail _ (.head _))))) ?_;refine gH ?_
          first|refine⟨.inr (.inr (loadK rfl (O.at (.tail _ (.tail _ (.tail _ (.head _))))) rfl rfl)),?_⟩|refine⟨.inr (.inl (by kernel_rfl)),?_⟩
          refine gX ?_
          refine ldO (O.at (.tail _ (.tail _ (.tail _ (.tail _ (.tail _ (.tail _ (.head _)))))))) ?_;refine gH ?_
          obtain⟨hn65,hm⟩:=hm
          refine CallD.useB (fun _ hb=>logic_Eval_walk hm hb) (fun _=>flatB_ok rfl) fzVars O.has (fun h2 F=>(LLe.cons (VLe.refl _ _) (LLe.cons (O.flatW F (Nat.zero_le _) (.tail _ (.tail _ (.tail _ (.tail _ (.tail _ (.head _)))))) (fun _=>rfl) hn65) (LLe.nil _)))) (by kernel_rfl) (fun r64 hm'=>?_);replace hm:=hm';refine gH ?_
          (first|refine⟨.inr (.inr (loadK rfl (O.at (.head _)) rfl rfl)),?_⟩|refine⟨.inr (.inr (loadK rfl (O.at (.tail _ (.head _))) rfl rfl)),?_⟩|refine⟨.inr (.inr (loadK rfl (O.at (.tail _ (.tail _ (.head _)))) rfl rfl)),?_⟩|refine⟨.inr (.inr (loadK rfl (O.at (.tail _ (.tail _ (.tail _ (.head _))))) rfl rfl)),?_⟩|refine⟨.inr (.inr (loadK rfl (O.at (.tail _ (.tail _ (.tail _ (.tail _ (.head _)))))) rfl rfl)),?_⟩|refine⟨.inr (.inr (loadK rfl (O.at (.tail _ (.tail _ (.tail _ (.tail _ (.tail _ (.head _))))))) rfl rfl)),?_⟩|refine⟨.inr (.inr (loadK rfl (O.at (.tail _ (.tail _ (.tail _ (.tail _ (.tail _ (.tail _ (.head _)))))))) rfl rfl)),?_⟩|refine⟨.inl (Ext.refl _),?_⟩|refine⟨.inr (.inr rfl),?_⟩|refine⟨.inr (by kernel_rfl),?_⟩|refine⟨.inl (by kernel_rfl),?_⟩|refine id ?_);refine gH ?_
          refine ix 1 hm fun x66 hx66 hm=>?_;refine gH ?_
          refine O.stE 1 (.tail _ (.tail _ (.tail _ (.tail _ (.head _))))) hx66 r64 fun h O=>?_;refine gH ?_
          (first|refine⟨.inr (.inr (loadK rfl (O.at (.head _)) rfl rfl)),?_⟩|refine⟨.inr (.inr (loadK rfl (O.at (.tail _ (.head _))) rfl rfl)),?_⟩|refine⟨.inr (.inr (loadK rfl (O.at (.tail _ (.tail _ (.head _)))) rfl rfl)),?_⟩|refine⟨.inr (.inr (loadK rfl (O.at (.tail _ (.tail _ (.tail _ (.head _))))) rfl rfl)),?_⟩|refine⟨.inr (.inr (loadK rfl (O.at (.tail _ (.tail _ (.tail _ (.tail _ (.head _)))))) rfl rfl)),?_⟩|refine⟨.inr (.inr (loadK rfl (O.at (.tail _ (.tail _ (.tail _ (.tail _ (.tail _ (.head _))))))) rfl rfl)),?_⟩|refine⟨.inr (.inr (loadK rfl (O.at (.tail _ (.tail _ (.tail _ (.tail _ (.tail _ (.tail _ (.head _)))))))) rfl rfl)),?_⟩|refine⟨.inl (Ext.refl _),?_⟩|refine⟨.inr (.inr rfl),?_⟩|refine⟨.inr (by kernel_rfl),?_⟩|refine⟨.inl (by kernel_rfl),?_⟩|refine id ?_);refine gH ?_
          exact jx ((v40.set x49 r64),v55,v56) hm (O.sel [0,1,2,3,4,5] (by decide))
       ·clear hm;rintro⟨v45,v46,v47⟩ base h hm O
        refine gX ?_
        refine aAdd hm fun hm=>?_;refine gH ?_
        exact jx (v45,v46,v47,(v43+1)) hm O
      ·refine gX ?_
       exact jx v40 hm (O.sel [0,1,2,3,4] (by decide))
     ·clear hm;rintro v38 base h hm O
      conv=>whnf
      apply Cs;conv=>whnf
      obtain⟨hn67,hm⟩:=hm
      refine CodeS.freezeFP (cs2':=[((encL 4 encNode) p0.nodes),((encL 1 Value.string) p0.names),((encL 3 encMem) p0.mems),((encL 1 i64) p0.outs),((encL 1 n8) v38)]) (v:=(.agg ⟨[((encL 4 encNode) p0.nodes),((encL 1 Value.string) p0.names),((encL 3 encMem) p0.mems),((encL 1 i64) p0.outs),((encL 1 n8) v38)]⟩)) O (.tail _ (.tail _ (.tail _ (.tail _ (.head _))))) (.tail _ (.tail _ (.tail _ (.head _)))) (j:=4) (t2:=9) rfl rfl rfl rfl (fun h2 q=>(LLe.cons (VLe.refl _ _) (LLe.cons (VLe.refl _ _) (LLe.cons (VLe.refl _ _) (LLe.cons (VLe.refl _ _) (LLe.cons (VLe.flM q hn67 (fun _=>rfl)) (LLe.nil _))))))) fun h O=>?_;conv=>whnf
      refine CodeS.drawF ?_;refine gH ?_
      refine ca (run_observe_walk hm O.has) fun r68 hm=>?_;refine gH ?_
      refine O.stC 2 (.head _) [((encL 1 n8) r68.out),((encL 1 n8) r68.next)] fun h O=>?_;refine gX ?_
      refine⟨_,resAggK rfl rfl (O.at (.head _)) rfl rfl (lbE rfl) rfl,?_⟩;conv=>whnf
      exact⟨(r68,v38,0),hm,O.ext,fun h2 F=>VLe.tup (LLe.cons (VLe.refl _ _) (LLe.cons (VLe.refl _ _) (LLe.cons (VLe.refl _ _) (LLe.nil _))))⟩
def sims_Check_wp (p0:Circ) (p1:Pat) (K:Nat->Prop):Prop :=
 netlists_Check_wp p0 (fun r1=>((neN r1 0)=true->K r1)/\((neN r1 0)=false->sims_fits_wp p0 p1 (fun r2=>K r2)))
theorem sims_Check_walk {p0:Circ}{p1:Pat}{K:Nat->Prop} (hm:sims_Check_wp p0 p1 K) {h0:Heap} (hB:HasB vars h0):∃ r,K r/\CallD Tryz.prog NG 54 ⟨[encCirc p0,encPat p1]⟩ h0 (i64 r) h0:=by
 unfold sims_Check_wp at hm
 refine fw Tryz.func54 hB (enc:=i64) (fun r=>PureV.flat rfl) fun O=>?_;conv=>whnf
 refine gX ?_
 refine fz ?_;refine gH ?_
 refine fz ?_;refine gX ?_
 refine ca (netlists_Check_walk hm O.has) fun r1 hm=>?_;refine gX ?_
 refine br hm (fun hm=>?_) fun hm=>?_
 ·refine gX ?_
  exact fe hm O
 ·refine gX ?_
  refine ca (sims_fits_walk hm O.has) fun r2 hm=>?_;refine gX ?_
  exact fe hm O
theorem inputs_vc {c:Circ}{K:List Nat->Prop} (hc:c.nodes.length<2 ^ 40) (h:K (ofN c [0])):netlists_Inputs_wp c K:=of_vc hc (by decide) h
theorem states_vc {c:Circ}{K:List Nat->Prop} (hc:c.nodes.length<2 ^ 40) (h:K (ofN c [14])):netlists_States_wp c K:=of_vc hc (by decide) h
theorem ofN_mem {c:Circ}{k f:Nat}:f∈ofN c [k]↔f<c.nodes.length/\kd c f=k:=by
 unfold ofN kd
 rw[List.mem_filter,List.mem_range]
 simp only[List.contains_cons,List.contains_nil,Bool.or_false,beq_iff_eq]
theorem ofN_len (c:Circ) (ks:List Nat):(ofN c ks).length<=c.nodes.length:=by
 unfold ofN;exact Nat.le_trans (List.length_filter_le _ _) (by simp)
theorem ofN_nodup (c:Circ) (ks:List Nat):(ofN c ks).Nodup:=List.Pairwise.filter _ List.nodup_range
structure Cir (c:Circ):Prop where
 good:Good c
 mems:c.mems=[]
 kinds:∀ (i:Nat) (x:Node),c.nodes[i]?=some x->x.kind<=14
theorem Cir.len {c:Circ} (C:Cir c):c.nodes.length<=16:=C.good.len
theorem ord_inj {c:Circ}{o:List Nat} (h:OrdOk c o) {a b m:Nat} (h1:o[a]?=some m) (h2:o[b]?=some m):a=b:=by
 have hn:o.Nodup:=h.perm.nodup_iff.2 List.nodup_range
 obtain⟨q1,q2⟩:=List.getElem?_eq_some_iff.1 h1
 obtain⟨q3,q4⟩:=List.getElem?_eq_some_iff.1 h2
 rcases Nat.lt_trichotomy a b with q|q|q
 ·exact absurd (q2.trans q4.symm) (List.pairwise_iff_getElem.1 hn a b q1 q3 q)
 ·exact q
 ·exact absurd (q4.trans q2.symm) (List.pairwise_iff_getElem.1 hn b a q3 q1 q)
structure PatOk (c:Circ) (p:Pat):Prop where
 inp:p.inp.length=(ofN c [0]).length
 state:p.state.length=(ofN c [14]).length
 inpv:∀ v∈p.inp,v<=3
 statev:∀ v∈p.state,v<=3
theorem simsAbove_vc {l:List Nat}{K:Bool->Prop} (hl:l.length<2 ^ 60) (hv:∀ v∈l,v<=3) (h:K false):cf_simsAbove_wp l K:=by
 unfold cf_simsAbove_wp cf_simsAboveI_wp
 refine search_none (l:=l) ?_ ?_ h
 ·intro k i nx x hx hi hn
  have hv:=hv x (List.mem_of_getElem? hx)
  refine⟨fun _=>⟨x,hx,fun q=>?_,fun _=>⟨by omega,hn⟩⟩,fun q=>?_⟩
  ·have:=lt_t.1 q;omega
  ·have:=lt_f.1 q;omega
 ·intro k i nx hi hk
  refine⟨fun q=>?_,fun _=>hk⟩
  have:=lt_t.1 q;omega
theorem Cir.noMem {c:Circ} (C:Cir c):ofN c [15]=[]:=by
 refine List.eq_nil_iff_forall_not_mem.2 fun i m=>?_
 obtain⟨h1,h2⟩:=ofN_mem.1 m
 obtain⟨y,hy⟩:=get_lt h1
 rw[kd_eq hy] at h2
 have:=C.kinds i y hy
 omega
theorem fits_vc {c:Circ} (C:Cir c) {pt:Pat} (hp:PatOk c pt) {K:Nat->Prop} (h:K 0):sims_fits_wp c pt K:=by
 have hlen:=C.len
 have l1:=ofN_len c [0]
 have l2:=ofN_len c [14]
 have h1:=hp.inp
 have h2:=hp.state
 unfold sims_fits_wp
 refine joinB' (a:=false) (fun F=>⟨fun q=>?_,fun _=>of_vc (by omega) (by decide) ?_⟩) ⟨(fun e=>by cases e),fun _=>?_⟩
 ·rw[C.mems] at q;exact absurd (lt_t.1 q) (by simp)
 ·rw[C.noMem];exact F
 refine joinB' (a:=false) (fun F=>inputs_vc (by omega) ⟨fun q=>absurd h1 (ne_t.1 q),fun _=>states_vc (by omega) ?_⟩) ⟨(fun e=>by cases e),fun _=>?_⟩
 ·rw[ne_f.2 h2];exact F
 refine joinB' (a:=false) (fun F=>simsAbove_vc (by omega) hp.inpv ⟨(fun e=>by cases e),fun _=>simsAbove_vc (by omega) hp.statev F⟩) ⟨(fun e=>by cases e),fun _=>h⟩
def combB (k:Nat):Bool:=decide (1<=k/\k<=13)
def readV (pn:Nat->Nat->Nat->Nat) (t:List Nat) (m:Nat) (x:Node):List Nat:=x.ins.mapIdx fun j k=>pn m j (t.getD k 0)
def srcV (c:Circ) (p:Pat) (i:Nat):Nat:=if kd c i=0 then p.inp.getD ((ofN c [0]).idxOf i) 0 else if kd c i=14 then p.state.getD ((ofN c [14]).idxOf i) 0 else 0
def baseV (c:Circ) (p:Pat) (pn:Nat->Nat->Nat->Nat) (t:List Nat) (m:Nat) (x:Node):Nat:=if combB x.kind=true then evalG x.kind (readV pn t m x) else srcV c p m
structure Sol (c:Circ) (p:Pat) (nt:Nat->Nat->Nat) (pn:Nat->Nat->Nat->Nat) (t:List Nat):Prop where
 len:t.length=c.nodes.length
 val:∀ i x,c.nodes[i]?=some x->t.getD i 0=nt i (baseV c p pn t i x)
 le:∀ i,t.getD i 0<=3
theorem readV_len {pn:Nat->Nat->Nat->Nat}{t:List Nat}{m:Nat}{x:Node}:(readV pn t m x).length=x.ins.length:=by unfold readV;simp
theorem readV_get {pn:Nat->Nat->Nat->Nat}{t:List Nat}{m j y:Nat}{x:Node} (h:x.ins[j]?=some y):(readV pn t m x)[j]?=some (pn m j (t.getD y 0)):=by
 unfold readV;rw[List.getElem?_mapIdx,h];rfl
theorem readV_congr {pn:Nat->Nat->Nat->Nat}{t u:List Nat}{m:Nat}{x:Node} (h:∀ k∈x.ins,t.getD k 0=u.getD k 0):readV pn t m x=readV pn u m x:=by
 unfold readV
 refine List.ext_getElem (by simp) fun i a b=>?_
 simp only[List.getElem_mapIdx]
 rw[h _ (List.getElem_mem _)]
theorem readV_le {pn:Nat->Nat->Nat->Nat} (hp:∀ m j v,v<=3->pn m j v<=3) {t:List Nat} (ht:∀ i,t.getD i 0<=3) {m:Nat}{x:Node}:∀ v∈readV pn t m x,v<=3:=by
 intro v h
 unfold readV at h
 rw[List.mem_mapIdx] at h
 obtain⟨i,hi,rfl⟩:=h
 exact hp _ _ _ (ht _)
theorem Sol.eq {c:Circ} (C:Cir c) {p:Pat}{nt:Nat->Nat->Nat}{pn:Nat->Nat->Nat->Nat}{t u:List Nat} (T:Sol c p nt pn t) (U:Sol c p nt pn u):t=u:=by
 have key:∀ n i,i<n->t.getD i 0=u.getD i 0:=by
  intro n
  induction n with
  |zero=>intro i h;omega
  |succ n ih =>
   intro i hi
   by_cases q:i<c.nodes.length
   ·obtain⟨x,hx⟩:=get_lt q
    rw[T.val i x hx,U.val i x hx]
    congr 1
    unfold baseV
    split
    ·rename_i hc
     have hc:=of_decide_eq_true hc
     rw[readV_congr fun k m=>ih k ?_]
     have:=(C.good.node i x hx).acyc hc.1 hc.2 k m
     omega
    ·rfl
   ·rw[List.getD,List.getD,List.getElem?_eq_none (by rw[T.len];omega),List.getElem?_eq_none (by rw[U.len];omega)]
 refine List.ext_getElem (T.len.trans U.len.symm) fun i a b=>?_
 have:=key (i+1) i (by omega)
 rw[List.getD,List.getElem?_eq_getElem a,List.getD,List.getElem?_eq_getElem b] at this
 exact this
theorem load_vc {n:Nat}{ixs vs:List Nat} (_hn:n<=16) (_hix:ixs.length<=n) (hl:vs.length=ixs.length) (_hb:∀ f∈ixs,f<n) (nd:ixs.Nodup) {t0:List Nat} (ht0:t0.length=n) {rest:List Nat->Prop}{body:List Nat×Nat->(List Nat×Nat->Prop)->Prop}
  (hbody:∀ t i nx,t.length=n->(∀ f v,i<ixs.length->ixs[i]?=some f->vs[i]?=some v->f<n->nx (t.set f v,i+1))->(ixs.length<=i->rest t)->body (t,i) nx)
  (h:∀ t,t.length=n->(∀ j f,ixs[j]?=some f->t.getD f 0=vs.getD j 0)->(∀ f,f ∉ ixs->t.getD f 0=t0.getD f 0)->rest t):loopW body (t0,0):=by
 refine loopW_intro (fun s=>s.2<=ixs.length/\s.1.length=n/\(∀ j f,j<s.2->ixs[j]?=some f->s.1.getD f 0=vs.getD j 0)/\∀ f,f ∉ ixs.take s.2->s.1.getD f 0=t0.getD f 0) (fun s=>ixs.length-s.2) ?_ ⟨Nat.zero_le _,ht0,(fun j f hj=>absurd hj (Nat.not_lt_zero _)),fun _ _=>rfl⟩
 rintro⟨t,i⟩ nx ⟨hi,h1,h2,h3⟩ hnx
 dsimp only at hi h1 h2 h3
 refine hbody t i nx h1 (fun f v q hf hv hfn=>?_) (fun q=>?_)
 ·obtain⟨e1,e2⟩:=List.getElem?_eq_some_iff.1 hf
  have ev:v=vs.getD i 0:=by rw[List.getD,hv];rfl
  subst ev
  refine hnx _ ⟨q,by simp[h1],fun j g hj hg=>?_,fun g hg=>?_⟩ (by dsimp only;omega)
  ·dsimp only at hj ⊢
   rw[getD_set (by omega)]
   by_cases e:f=g
   ·subst e
    have:j=i:=by
     obtain⟨e3,e4⟩:=List.getElem?_eq_some_iff.1 hg
     rcases Nat.lt_trichotomy j i with w|w|w
     ·exact absurd (e4.trans e2.symm) (List.pairwise_iff_getElem.1 nd j i e3 e1 w)
     ·exact w
     ·omega
    subst this
    rw[if_pos rfl]
   ·rw[if_neg e]
    refine h2 j g ?_ hg
    by_cases e3:j=i
    ·subst e3;rw[hf] at hg;cases hg;exact absurd rfl e
    ·omega
  ·dsimp only at hg ⊢
   rw[List.take_succ_eq_append_getElem e1,List.mem_append,List.mem_singleton,e2] at hg
   rw[getD_set (by omega),if_neg (fun e=>hg (.inr e.symm))]
   exact h3 g fun m=>hg (.inl m)
 ·rw[List.take_of_length_le q] at h3
  exact h t h1 (fun j f hj=>h2 j f (by have:=lt_of_get hj;omega) hj) h3
theorem loadStep {n:Nat}{ixs vs t:List Nat}{i:Nat}{rest:Prop}{nx:List Nat×Nat->Prop} (hn:n<=16) (hix:ixs.length<=n) (hl:vs.length=ixs.length) (hb:∀ f∈ixs,f<n) (ht:t.length=n) (h1:∀ f v,i<ixs.length->ixs[i]?=some f->vs[i]?=some v->f<n->nx (t.set f v,i+1)) (h2:ixs.length<=i->rest) :
  ((ltN i ixs.length)=true->∃ x35,ixs[i]?=some x35/\∃ x36,vs[i]?=some x36/\x35<n/\∃ x37,t[x35]?=some x37/\i+1<2 ^ 63/\nx ((t.set x35 x36),(i+1)))/\((ltN i ixs.length)=false->rest):=by
 refine⟨fun q=>?_,fun q=>h2 (lt_f.1 q)⟩
 have q:i<ixs.length:=lt_t.1 q
 obtain⟨f,hf⟩:=get_lt q
 have hfn:=hb f (List.mem_of_getElem? hf)
 have hv:=getD_some (l:=vs) (i:=i) (by omega)
 exact⟨f,hf,_,hv,hfn,_,getN ht hfn,by omega,h1 f _ q hf hv hfn⟩
theorem idx_of {l:List Nat} (nd:l.Nodup) {j f:Nat} (h:l[j]?=some f):l.idxOf f=j:=by
 obtain⟨h1,rfl⟩:=List.getElem?_eq_some_iff.1 h
 exact nd.idxOf_getElem j h1
theorem loads_vc {c:Circ} (C:Cir c) {p:Pat} (hp:PatOk c p) {t1 t2:List Nat} (_l2:t2.length=c.nodes.length) (h1:∀ j f,(ofN c [0])[j]?=some f->t1.getD f 0=p.inp.getD j 0) (h2:∀ j f,(ofN c [14])[j]?=some f->t2.getD f 0=p.state.getD j 0) (h3:∀ f,f ∉ ofN c [14]->t2.getD f 0=t1.getD f 0) :
  ∀ i x,c.nodes[i]?=some x->combB x.kind=false->t2.getD i 0=srcV c p i/\t2.getD i 0<=3:=by
 intro i x hx hc
 have hc:=of_decide_eq_false hc
 have hk:=C.kinds i x hx
 have hi:=lt_of_get hx
 have e:=kd_eq hx
 unfold srcV
 by_cases k0:x.kind=0
 ·have m:i∈ofN c [0]:=ofN_mem.2 ⟨hi,by rw[e];exact k0⟩
  obtain⟨j,hj,ej⟩:=List.getElem_of_mem m
  have hj':(ofN c [0])[j]?=some i:=by rw[List.getElem?_eq_getElem hj,ej]
  have hn:i ∉ ofN c [14]:=fun q=>by have:=(ofN_mem.1 q).2;omega
  rw[h3 i hn,h1 j i hj',if_pos (by rw[e];exact k0),idx_of (ofN_nodup c [0]) hj']
  exact⟨rfl,hp.inpv _ (getD_mem (by rw[hp.inp];exact hj))⟩
 ·have k14:x.kind=14:=by omega
  have m:i∈ofN c [14]:=ofN_mem.2 ⟨hi,by rw[e];exact k14⟩
  obtain⟨j,hj,ej⟩:=List.getElem_of_mem m
  have hj':(ofN c [14])[j]?=some i:=by rw[List.getElem?_eq_getElem hj,ej]
  rw[h2 j i hj',if_neg (by rw[e];exact k0),if_pos (by rw[e];exact k14),idx_of (ofN_nodup c [14]) hj']
  exact⟨rfl,hp.statev _ (getD_mem (by rw[hp.state];exact hj))⟩
structure RunS (c:Circ) (p:Pat) (nt:Nat->Nat->Nat) (pn:Nat->Nat->Nat->Nat) (o t:List Nat) (i:Nat):Prop where
 len:t.length=c.nodes.length
 done:∀ j m x,j<i->o[j]?=some m->c.nodes[m]?=some x->t.getD m 0=nt m (baseV c p pn t m x)
 todo:∀ j m x,i<=j->o[j]?=some m->c.nodes[m]?=some x->combB x.kind=false->t.getD m 0=srcV c p m
 le:∀ i,t.getD i 0<=3
theorem RunS.step {c:Circ}{p:Pat}{nt:Nat->Nat->Nat}{pn:Nat->Nat->Nat->Nat}{o t:List Nat} (ho:OrdOk c o) {i m:Nat}{x:Node} (T:RunS c p nt pn o t i) (hm:o[i]?=some m) (hx:c.nodes[m]?=some x) (hle:nt m (baseV c p pn t m x)<=3):RunS c p nt pn o (t.set m (nt m (baseV c p pn t m x))) (i+1):=by
 have hml:m<t.length:=by rw[T.len];exact lt_of_get hx
 have same:∀ (j m':Nat) (x':Node),j<=i->o[j]?=some m'->c.nodes[m']?=some x'->baseV c p pn (t.set m (nt m (baseV c p pn t m x))) m' x'=baseV c p pn t m' x':=by
  intro j m' x' hj h1 h2
  unfold baseV
  split
  ·rename_i hc
   have hc:=of_decide_eq_true hc
   rw[readV_congr fun k hk=>?_]
   rw[getD_set hml,if_neg]
   rintro rfl
   obtain⟨b',hb,hb2⟩:=ho.before j m' x' m h1 h2 hc hk
   have:=ord_inj ho hb2 hm
   omega
  ·rfl
 refine⟨by rw[List.length_set];exact T.len,fun j m' x' hj h1 h2=>?_,fun j m' x' hj h1 h2 h3=>?_,fun k=>?_⟩
 ·rw[same j m' x' (by omega) h1 h2,getD_set hml]
  by_cases e:m=m'
  ·subst e
   rw[if_pos rfl]
   rw[hx] at h2;cases h2
   rfl
  ·rw[if_neg e]
   refine T.done j m' x' ?_ h1 h2
   by_cases e2:j=i
   ·subst e2;rw[hm] at h1;cases h1;exact absurd rfl e
   ·omega
 ·rw[getD_set hml,if_neg]
  ·exact T.todo j m' x' (by omega) h1 h2 h3
  ·rintro rfl
   have:=ord_inj ho hm h1
   omega
 ·rw[getD_set hml]
  split
  ·exact hle
  ·exact T.le k
theorem RunS.skip {c:Circ}{p:Pat}{nt:Nat->Nat->Nat}{pn:Nat->Nat->Nat->Nat}{o t:List Nat}{i m:Nat}{x:Node} (T:RunS c p nt pn o t i) (hm:o[i]?=some m) (hx:c.nodes[m]?=some x) (he:t.getD m 0=nt m (baseV c p pn t m x)):RunS c p nt pn o t (i+1):=by
 refine⟨T.len,fun j m' x' hj h1 h2=>?_,fun j m' x' hj=>T.todo j m' x' (by omega),T.le⟩
 by_cases e:j=i
 ·subst e
  rw[hm] at h1;cases h1
  rw[hx] at h2;cases h2
  exact he
 ·exact T.done j m' x' (by omega) h1 h2
theorem RunS.sol {c:Circ}{p:Pat}{nt:Nat->Nat->Nat}{pn:Nat->Nat->Nat->Nat}{o t:List Nat} (ho:OrdOk c o) (T:RunS c p nt pn o t o.length):Sol c p nt pn t:=by
 refine⟨T.len,fun i x hx=>?_,T.le⟩
 have hm:i∈o:=ho.perm.mem_iff.2 (List.mem_range.2 (lt_of_get hx))
 obtain⟨j,hj,e⟩:=List.getElem_of_mem hm
 exact T.done j i x hj (by rw[List.getElem?_eq_getElem hj,e]) hx
def rspV (c:Circ) (pn:Nat->Nat->Nat->Nat) (t:List Nat):Rsp:=⟨c.outs.map fun o=>t.getD o 0,(ofN c [14]).map fun s=>min (pn s 0 (t.getD ((insOf c s).getD 0 0) 0)) 2⟩
def idN:Nat->Nat->Nat:=fun _ v=>v
def idP:Nat->Nat->Nat->Nat:=fun _ _ v=>v
theorem value_vc {r:SRun}{n:Nat} (hn:n<r.nets.length) (hv:r.nets.getD n 0<=3) {K:Nat->Prop} (h:K (r.nets.getD n 0)):run_value_wp r n K:=by
 unfold run_value_wp
 refine joinB' (a:=false) (fun F=>⟨fun q=>absurd (lt_t.1 q) (Nat.not_lt_zero _),fun _=>?_⟩) ⟨(fun e=>by cases e),fun _=>⟨_,getD_some hn,clean_vc ?_⟩⟩
 ·rw[show (!ltN n r.nets.length)=false from nlt_f.2 hn];exact F
 ·unfold cleanN;rw[if_neg (by omega)];exact h
theorem insOf_eq {c:Circ}{i:Nat}{x:Node} (h:c.nodes[i]?=some x):insOf c i=x.ins:=by unfold insOf;rw[List.getD,List.getElem?_map,h];rfl
theorem observe_vc {c:Circ} (C:Cir c) {t:List Nat} (ht:t.length=c.nodes.length) (hle:∀ i,t.getD i 0<=3) {K:Rsp->Prop} (h:K (rspV c idP t)):run_observe_wp ⟨c,t⟩ K:=by
 have hlen:=C.len
 have hol:=C.good.outsLen
 have l2:=ofN_len c [14]
 unfold run_observe_wp
 refine joinLoop (fun s=>s.2<=c.outs.length/\s.1=(c.outs.take s.2).map fun o=>t.getD o 0) (fun s=>c.outs.length-s.2) (fun a=>a=c.outs.map fun o=>t.getD o 0) ?_ ⟨Nat.zero_le _,rfl⟩ ?_
 ·rintro k ⟨l,i⟩ nx ⟨hi,hl⟩ hnx hk
  dsimp only at hi hl
  refine⟨fun q=>?_,fun q=>hk _ ?_⟩
  ·have q:i<c.outs.length:=lt_t.1 q
   obtain⟨o,ho⟩:=get_lt q
   obtain⟨e1,e2⟩:=List.getElem?_eq_some_iff.1 ho
   have hon:o<t.length:=by rw[ht];exact C.good.outs o (List.mem_of_getElem? ho)
   refine⟨o,ho,value_vc (r:=⟨c,t⟩) hon (hle o) ⟨by rw[hl];simp only[List.length_map,List.length_take,List.length_singleton];omega,by omega,hnx _ ⟨q,?_⟩ (by dsimp only;omega)⟩⟩
   dsimp only
   rw[hl,List.take_succ_eq_append_getElem e1,List.map_append,e2]
   rfl
  ·have q:c.outs.length<=i:=lt_f.1 q
   rw[hl,List.take_of_length_le q]
 rintro _ rfl
 refine joinI (states_vc (show c.nodes.length<2 ^ 40 by omega) ?_)
 refine loopW_intro (fun s=>s.2<=(ofN c [14]).length/\s.1=((ofN c [14]).take s.2).map fun s=>min (t.getD ((insOf c s).getD 0 0) 0) 2) (fun s=>(ofN c [14]).length-s.2) ?_ ⟨Nat.zero_le _,rfl⟩
 rintro⟨l,i⟩ nx ⟨hi,hl⟩ hnx
 dsimp only at hi hl
 refine⟨fun q=>?_,fun q=>?_⟩
 ·have q:i<(ofN c [14]).length:=lt_t.1 q
  obtain⟨f,hf⟩:=get_lt q
  obtain⟨e1,e2⟩:=List.getElem?_eq_some_iff.1 hf
  obtain⟨hfn,hfk⟩:=ofN_mem.1 (List.mem_of_getElem? hf)
  obtain⟨x,hx⟩:=get_lt hfn
  rw[kd_eq hx] at hfk
  have hg:=C.good.node f x hx
  have ha:x.ins.length=1:=by have:=hg.arity;rw[hfk] at this;exact arity_dff this
  have hd:=hg.ins (x.ins.getD 0 0) (getD_mem (by omega))
  refine⟨f,hf,joinI ⟨x,hx,fun _=>⟨_,getD_some (by omega),value_vc (r:=⟨c,t⟩) (by rw[ht];exact hd) (hle _) ?_⟩,fun e=>absurd ha (eq_f.1 e)⟩⟩
  unfold logic_Read_wp
  refine⟨by rw[hl];simp only[List.length_map,List.length_take,List.length_singleton];omega,by omega,hnx _ ⟨q,?_⟩ (by dsimp only;omega)⟩
  dsimp only
  rw[hl,List.take_succ_eq_append_getElem e1,List.map_append,e2]
  simp only[List.map_cons,List.map_nil,insOf_eq hx]
 ·have q:(ofN c [14]).length<=i:=lt_f.1 q
  rw[hl,List.take_of_length_le q]
  exact h
def solL (c:Circ) (p:Pat) (nt:Nat->Nat->Nat) (pn:Nat->Nat->Nat->Nat):Nat->List Nat
 |0=>[]
 |i+1=>solL c p nt pn i++[match c.nodes[i]? with|some x=>nt i (baseV c p pn (solL c p nt pn i) i x) | none=>0]
def sol (c:Circ) (p:Pat) (nt:Nat->Nat->Nat) (pn:Nat->Nat->Nat->Nat):List Nat:=solL c p nt pn c.nodes.length
theorem solL_len {c:Circ}{p:Pat}{nt:Nat->Nat->Nat}{pn:Nat->Nat->Nat->Nat}:∀ n,(solL c p nt pn n).length=n
 |0=>rfl
 |n+1=>by rw[solL,List.length_append,solL_len n];rfl
theorem solL_get {c:Circ}{p:Pat}{nt:Nat->Nat->Nat}{pn:Nat->Nat->Nat->Nat}{i:Nat}:∀ {n},i<n->(solL c p nt pn n).getD i 0=(solL c p nt pn (i+1)).getD i 0:=by
 intro n
 induction n with
 |zero=>intro h;omega
 |succ n ih =>
  intro h
  by_cases e:i=n
  ·subst e;rfl
  ·rw[<- ih (by omega)]
   rw[solL,List.getD,List.getD,List.getElem?_append_left (by rw[solL_len];omega)]
theorem solL_last {c:Circ}{p:Pat}{nt:Nat->Nat->Nat}{pn:Nat->Nat->Nat->Nat}{i:Nat}{x:Node} (hx:c.nodes[i]?=some x):(solL c p nt pn (i+1)).getD i 0=nt i (baseV c p pn (solL c p nt pn i) i x):=by
 rw[solL,List.getD,List.getElem?_append_right (by rw[solL_len];omega),solL_len,Nat.sub_self,hx]
 rfl
theorem srcV_le {c:Circ}{p:Pat} (hp:PatOk c p) (i:Nat):srcV c p i<=3:=by
 unfold srcV
 have key:∀ (l:List Nat) (j:Nat),(∀ v∈l,v<=3)->l.getD j 0<=3:=by
  intro l j h
  by_cases q:j<l.length
  ·exact h _ (getD_mem q)
  ·rw[List.getD,List.getElem?_eq_none (by omega)];exact Nat.zero_le _
 split
 ·exact key _ _ hp.inpv
 split
 ·exact key _ _ hp.statev
 ·omega
theorem baseV_le {c:Circ}{p:Pat} (hp:PatOk c p) {pn:Nat->Nat->Nat->Nat} (h2:∀ m j v,v<=3->pn m j v<=3) {t:List Nat} (ht:∀ i,t.getD i 0<=3) (i:Nat) (x:Node):baseV c p pn t i x<=3:=by
 unfold baseV
 split
 ·exact evalG_le _ (readV_le h2 ht)
 ·exact srcV_le hp i
theorem solL_le {c:Circ}{p:Pat} (hp:PatOk c p) {nt:Nat->Nat->Nat}{pn:Nat->Nat->Nat->Nat} (h1:∀ i v,v<=3->nt i v<=3) (h2:∀ m j v,v<=3->pn m j v<=3):∀ n i,(solL c p nt pn n).getD i 0<=3
 |0,i=>by rw[solL];simp
 |n+1,i=>by
  by_cases q:i<n
  ·rw[solL,List.getD,List.getElem?_append_left (by rw[solL_len];omega)]
   exact solL_le hp h1 h2 n i
  by_cases e:i=n
  ·subst e
   cases hx:c.nodes[i]? with
   |none =>
    rw[solL,List.getD,List.getElem?_append_right (by rw[solL_len];omega),solL_len,Nat.sub_self,hx]
    exact Nat.zero_le _
   |some x =>
    rw[solL_last hx]
    exact h1 _ _ (baseV_le hp h2 (solL_le hp h1 h2 i) _ _)
  ·rw[List.getD,List.getElem?_eq_none (by rw[solL_len];omega)]
   exact Nat.zero_le _
theorem sol_ok {c:Circ} (C:Cir c) {p:Pat} (hp:PatOk c p) {nt:Nat->Nat->Nat}{pn:Nat->Nat->Nat->Nat} (h1:∀ i v,v<=3->nt i v<=3) (h2:∀ m j v,v<=3->pn m j v<=3):Sol c p nt pn (sol c p nt pn):=by
 refine⟨solL_len _,fun i x hx=>?_,solL_le hp h1 h2 _⟩
 have hi:=lt_of_get hx
 unfold sol
 rw[solL_get hi,solL_last hx]
 congr 1
 unfold baseV
 split
 ·rename_i hc
  have hc:=of_decide_eq_true hc
  congr 1
  refine readV_congr fun k hk=>?_
  have:=(C.good.node i x hx).acyc hc.1 hc.2 k hk
  rw[solL_get this,<- solL_get (n:=c.nodes.length) (by omega)]
 ·rfl
theorem Sol.is {c:Circ} (C:Cir c) {p:Pat} (hp:PatOk c p) {nt:Nat->Nat->Nat}{pn:Nat->Nat->Nat->Nat} (h1:∀ i v,v<=3->nt i v<=3) (h2:∀ m j v,v<=3->pn m j v<=3) {t:List Nat} (T:Sol c p nt pn t):t=sol c p nt pn:=T.eq C (sol_ok C hp h1 h2)
theorem evalNode {c:Circ} (C:Cir c) {m:Nat}{x:Node} (hx:c.nodes[m]?=some x) (hc:combB x.kind=true) {l:List Nat} (hl:l.length=x.ins.length) {K:Nat->Prop} (h:K (evalG x.kind l)):logic_Eval_wp x.kind l K:=by
 have hc:=of_decide_eq_true hc
 have g:=C.good.node m x hx
 have:=g.few
 exact evalG_vc hc.1 (by omega) (by rw[hl];exact g.arity) (by omega) h
theorem start_le {c:Circ} (C:Cir c) {p:Pat}{t1 t2:List Nat} (hp:PatOk c p) (l2:t2.length=c.nodes.length) (h1:∀ j f,(ofN c [0])[j]?=some f->t1.getD f 0=p.inp.getD j 0) (h0:∀ f,f ∉ ofN c [0]->t1.getD f 0=(List.replicate c.nodes.length 0).getD f 0)
  (h2:∀ j f,(ofN c [14])[j]?=some f->t2.getD f 0=p.state.getD j 0) (h3:∀ f,f ∉ ofN c [14]->t2.getD f 0=t1.getD f 0) (nt:Nat->Nat->Nat) (pn:Nat->Nat->Nat->Nat) (o:List Nat):RunS c p nt pn o t2 0:=by
 have key:=loads_vc C hp l2 h1 h2 h3
 refine⟨l2,fun j m x hj=>absurd hj (Nat.not_lt_zero _),fun j m x _ _ hx hc=>(key m x hx hc).1,fun i=>?_⟩
 by_cases q:i<c.nodes.length
 ·obtain⟨x,hx⟩:=get_lt q
  cases hc:combB x.kind with
  |false=>exact (key i x hx hc).2
  |true =>
   have hc:=of_decide_eq_true hc
   have e:=kd_eq hx
   rw[h3 i (fun m=>by have:=(ofN_mem.1 m).2;omega),h0 i (fun m=>by have:=(ofN_mem.1 m).2;omega)]
   rw[List.getD,List.getElem?_replicate]
   split <;> decide
 ·rw[List.getD,List.getElem?_eq_none (by omega)];exact Nat.zero_le _
theorem noncomb_base {c:Circ}{p:Pat}{pn:Nat->Nat->Nat->Nat}{t:List Nat}{m:Nat}{x:Node} (hc:combB x.kind=false):baseV c p pn t m x=srcV c p m:=by unfold baseV;rw[hc];rfl
theorem comb_base {c:Circ}{p:Pat}{pn:Nat->Nat->Nat->Nat}{t:List Nat}{m:Nat}{x:Node} (hc:combB x.kind=true):baseV c p pn t m x=evalG x.kind (readV pn t m x):=by unfold baseV;rw[hc];rfl
theorem run_vc {c:Circ} (C:Cir c) {p:Pat} (hp:PatOk c p) {K:Rsp×List Nat×Nat->Prop} (h:K (rspV c idP (sol c p idN idP),sol c p idN idP,0)):sims_Run_wp c p K:=by
 have hlen:=C.len
 have l0:=ofN_len c [0]
 have l2:=ofN_len c [14]
 have hid1:∀ i v,v<=3->idN i v<=3:=fun _ _ h=>h
 have hid2:∀ m j v,v<=3->idP m j v<=3:=fun _ _ _ h=>h
 unfold sims_Run_wp
 refine order_vc C.good fun o ho=>?_
 refine joinB' (a:=0) (fun F=>⟨fun _=>fits_vc C hp F,fun q=>by cases q⟩) ?_
 refine⟨(fun q=>by cases q),fun _=>⟨by omega,by omega,?_⟩⟩
 refine joinI (inputs_vc (by omega) (load_vc (n:=c.nodes.length) hlen l0 hp.inp (fun f m=>(ofN_mem.1 m).1) (ofN_nodup c [0]) List.length_replicate (fun t i nx ht h1 h2=>loadStep hlen l0 hp.inp (fun f m=>(ofN_mem.1 m).1) ht h1 h2) ?_))
 intro t1 e1 h1 h0
 refine states_vc (by omega) (load_vc (n:=c.nodes.length) hlen l2 hp.state (fun f m=>(ofN_mem.1 m).1) (ofN_nodup c [14]) e1 (fun t i nx ht h1 h2=>loadStep hlen l2 hp.state (fun f m=>(ofN_mem.1 m).1) ht h1 h2) ?_)
 intro t2 e2 h2 h3
 have hol:o.length=c.nodes.length:=by have:=ho.perm.length_eq;simpa using this
 refine joinLoop (fun s=>s.2.2.2<=o.length/\s.2.1.length=16/\RunS c p idN idP o s.1 s.2.2.2) (fun s=>o.length-s.2.2.2) (fun t=>t=sol c p idN idP) ?_ ⟨Nat.zero_le _,by simp,start_le C hp e2 h1 h0 h2 h3 _ _ _⟩ ?_
 ·rintro k ⟨t,b,n,i⟩ nx ⟨hi,hb,T⟩ hnx hk
  dsimp only at hi hb T
  refine⟨fun q=>?_,fun q=>hk t ?_⟩
  ·have q:i<o.length:=lt_t.1 q
   obtain⟨m,hm⟩:=get_lt q
   have hmn:m<c.nodes.length:=List.mem_range.1 (ho.perm.mem_iff.1 (List.mem_of_getElem? hm))
   obtain⟨x,hx⟩:=get_lt hmn
   have g:=C.good.node m x hx
   have hfew:=g.few
   refine joinP (fun s=>s.2.1.length=16/\RunS c p idN idP o s.1 (i+1)) (fun k' hk'=>?_) ?_
   ·refine⟨m,hm,x,hx,comb_vc ?_⟩
    cases hc:combB x.kind with
    |false =>
     have hc':=of_decide_eq_false hc
     rw[decide_eq_false hc']
     refine⟨fun _=>hk' _ ⟨hb,T.skip hm hx ?_⟩,fun e=>by cases e⟩
     rw[noncomb_base hc,T.todo i m x (Nat.le_refl _) hm hx hc]
     rfl
    |true =>
     have hc':=of_decide_eq_true hc
     rw[decide_eq_true hc']
     refine⟨(fun e=>by cases e),fun _=>⟨by decide,?_⟩⟩
     refine joinLoop (fun s=>s.2.2<=x.ins.length/\s.1.length=16/\s.2.1=s.2.2/\s.1.take s.2.2=(readV idP t m x).take s.2.2) (fun s=>x.ins.length-s.2.2) (fun s=>s.1.length=16/\s.2<=16/\s.1.take s.2=readV idP t m x) ?_ ⟨Nat.zero_le _,hb,rfl,rfl⟩ ?_
     ·rintro k2 ⟨b,n,j⟩ nx2 ⟨hj,hb,hn,ht⟩ hnx2 hk2
      dsimp only at hj hb hn ht
      subst hn
      refine⟨fun q=>?_,fun q=>hk2 _ ?_⟩
      ·have q:n<x.ins.length:=lt_t.1 q
       obtain⟨y,hy⟩:=get_lt q
       have hyn:=g.ins y (List.mem_of_getElem? hy)
       refine⟨y,hy,hyn,_,getN T.len hyn,by omega,by omega,by omega,hnx2 _ ⟨q,?_,rfl,?_⟩ (by dsimp only;omega)⟩
       ·simp only[List.length_append,List.length_take,List.length_drop,List.length_cons,List.length_nil];omega
       ·dsimp only
        have hv:=readV_get (pn:=idP) (t:=t) (m:=m) hy
        have hl:(b.take n).length=n:=by rw[List.length_take];omega
        rw[List.take_append,hl,show n+1-n=1 from by omega,List.take_of_length_le (by omega),take_succ_get hv,ht]
        rfl
      ·have q:x.ins.length<=n:=lt_f.1 q
       refine⟨hb,by dsimp only;omega,?_⟩
       dsimp only
       rw[ht,List.take_of_length_le (by rw[readV_len];exact q)]
     ·rintro⟨b,n⟩ ⟨hb,hn,ht⟩
      dsimp only at hb hn ht
      refine⟨by omega,?_⟩
      rw[ht]
      refine evalNode C hx hc readV_len ?_
      refine⟨hmn,_,getN T.len hmn,hk' _ ⟨hb,?_⟩⟩
      have:=T.step ho hm hx (by exact baseV_le hp hid2 T.le _ _)
      rw[comb_base hc] at this
      exact this
   ·rintro⟨t',b',n'⟩ ⟨hb',T'⟩
    exact⟨by omega,hnx _ ⟨q,hb',T'⟩ (by dsimp only;omega)⟩
  ·have q:o.length<=i:=lt_f.1 q
   have e:i=o.length:=by omega
   subst e
   exact (T.sol ho).is C hp hid1 hid2
 ·rintro _ rfl
  have S:=sol_ok C hp hid1 hid2
  exact⟨S.len.symm,observe_vc C S.len S.le h⟩
theorem injLoads {c:Circ} (C:Cir c) {p:Pat} (hp:PatOk c p) {rest:List Nat->List Nat->List Nat×Nat->Prop}
  (h:∀ t o,OrdOk c o->(∀ nt pn,RunS c p nt pn o t 0)->rest (ofN c [14]) t (o,0)) :
  1*c.nodes.length<=2 ^ 48/\c.nodes.length<2 ^ 63/\netlists_States_wp c (fun r414=>joinW (α:=(List Nat)) (fun k416=>netlists_Inputs_wp c (fun r417=>loopW (S:=((List Nat)×Nat)) (fun (v418,v419) nx420=>((ltN v419 r417.length)=true->∃ x421,r417[v419]?=some x421/\∃ x422,p.inp[v419]?=some x422/\x421<c.nodes.length/\∃ x423,v418[x421]?=some x423/\v419+1<2 ^ 63/\nx420 ((v418.set x421 x422),(v419+1)))/\((ltN v419 r417.length)=false->k416 v418)) ((List.replicate c.nodes.length (0:Nat)),0))) (fun v415=>joinW (α:=(List Nat)) (fun k425=>loopW (S:=((List Nat)×Nat)) (fun (v426,v427) nx428=>((ltN v427 r414.length)=true->∃ x429,r414[v427]?=some x429/\∃ x430,p.state[v427]?=some x430/\x429<c.nodes.length/\∃ x431,v426[x429]?=some x431/\v427+1<2 ^ 63/\nx428 ((v426.set x429 x430),(v427+1)))/\((ltN v427 r414.length)=false->k425 v426)) (v415,0)) (fun v424=>netlists_Order_wp c (fun r432=>rest r414 v424 r432)))):=by
 have hlen:=C.len
 have l0:=ofN_len c [0]
 have l2:=ofN_len c [14]
 refine⟨by omega,by omega,states_vc (by omega) (joinI (inputs_vc (by omega) (load_vc (n:=c.nodes.length) hlen l0 hp.inp (fun f m=>(ofN_mem.1 m).1) (ofN_nodup c [0]) List.length_replicate (fun t i nx ht h1 h2=>loadStep hlen l0 hp.inp (fun f m=>(ofN_mem.1 m).1) ht h1 h2) ?_)))⟩
 intro t1 e1 h1 h0
 refine joinI (load_vc (n:=c.nodes.length) hlen l2 hp.state (fun f m=>(ofN_mem.1 m).1) (ofN_nodup c [14]) e1 (fun t i nx ht h1 h2=>loadStep hlen l2 hp.state (fun f m=>(ofN_mem.1 m).1) ht h1 h2) ?_)
 intro t2 e2 h2 h3
 exact order_vc C.good fun o ho=>h t2 o ho fun nt pn=>start_le C hp e2 h1 h0 h2 h3 nt pn o
theorem injNode {c:Circ} (C:Cir c) {p:Pat}{nt:Nat->Nat->Nat}{pn:Nat->Nat->Nat->Nat}{o t:List Nat}{i m:Nat}{x:Node} (T:RunS c p nt pn o t i) (hm:o[i]?=some m) (hx:c.nodes[m]?=some x) {RD:(List Nat->Prop)->Prop} (hrd:∀ k,k (readV pn t m x)->RD k) {rest:List Nat->Prop}
  (h:∀ t1,t1.length=c.nodes.length->t1.getD m 0=baseV c p pn t m x->(∀ v,t1.set m v=t.set m v)->rest t1) :
  joinW (α:=(List Nat)) (fun k440=>∃ x441,c.nodes[m]?=some x441/\joinW (α:=Bool) (fun k443=>((neN x441.kind 0)=true->k443 (neN x441.kind 14))/\((neN x441.kind 0)=false->k443 false)) (fun v442=>(v442=true->∃ x444,c.nodes[m]?=some x444/\joinW (α:=(List Nat)) RD (fun v448=>logic_Eval_wp x444.kind v448 (fun r463=>m<c.nodes.length/\∃ x464,t[m]?=some x464/\k440 (t.set m r463))))/\(v442=false->k440 t))) rest:=by
 have hmn:=lt_of_get hx
 have hk:=C.kinds m x hx
 have e:(neN x.kind 0&&neN x.kind 14)=combB x.kind:=by
  rw[neN_eq,neN_eq]
  unfold combB
  rw[Bool.eq_iff_iff]
  simp only[Bool.and_eq_true,decide_eq_true_eq,Bool.not_eq_true',decide_eq_false_iff_not]
  omega
 refine joinI ⟨x,hx,joinB' (a:=combB x.kind) (fun F=>⟨fun q=>?_,fun q=>?_⟩) ⟨fun q=>⟨x,hx,joinI (hrd _ (evalNode C hx q readV_len ⟨hmn,_,getN T.len hmn,?_⟩))⟩,fun q=>?_⟩⟩
 ·rw[q,Bool.true_and] at e;rw[e];exact F
 ·rw[q,Bool.false_and] at e;rw[<- e] at F;exact F
 ·refine h _ (by rw[List.length_set];exact T.len) ?_ fun v=>by rw[List.set_set]
  rw[getD_set (by rw[T.len];exact hmn),if_pos rfl,comb_base q]
 ·refine h t T.len ?_ fun _=>rfl
  rw[noncomb_base q]
  exact T.todo i m x (Nat.le_refl _) hm hx q
theorem rdA {c:Circ} (C:Cir c) {t:List Nat} (ht:t.length=c.nodes.length) {m:Nat}{x:Node} (hx:c.nodes[m]?=some x) (k:List Nat->Prop) (h:k (readV idP t m x)) :
  ∃ x451,c.nodes[m]?=some x451/\loopW (S:=((List Nat)×Nat)) (fun (v453,v454) nx456=>((ltN v454 x451.ins.length)=true->∃ x457,x451.ins[v454]?=some x457/\x457<c.nodes.length/\∃ x458,t[x457]?=some x458/\(v453.length+([x458]:(List Nat)).length)*1<=2 ^ 47/\v454+1<2 ^ 63/\nx456 ((v453++([x458]:(List Nat))),(v454+1)))/\((ltN v454 x451.ins.length)=false->k v453)) (([]:List Nat),0):=by
 have g:=C.good.node m x hx
 have hfew:=g.few
 refine⟨x,hx,loopW_intro (fun s=>s.2<=x.ins.length/\s.1=(readV idP t m x).take s.2) (fun s=>x.ins.length-s.2) ?_ ⟨Nat.zero_le _,rfl⟩⟩
 rintro⟨l,j⟩ nx ⟨hj,hl⟩ hnx
 dsimp only at hj hl
 refine⟨fun q=>?_,fun q=>?_⟩
 ·have q:j<x.ins.length:=lt_t.1 q
  obtain⟨y,hy⟩:=get_lt q
  have hyn:=g.ins y (List.mem_of_getElem? hy)
  refine⟨y,hy,hyn,_,getN ht hyn,?_,by omega,hnx _ ⟨q,?_⟩ (by dsimp only;omega)⟩
  ·rw[hl];simp only[List.length_take,List.length_cons,List.length_nil,readV_len];omega
  ·dsimp only
   rw[hl,take_succ_get (readV_get (pn:=idP) (t:=t) (m:=m) hy)]
   rfl
 ·have q:x.ins.length<=j:=lt_f.1 q
  rw[hl,List.take_of_length_le (by rw[readV_len];exact q)]
  exact h
def pinF (a:Nat) (pin:Int) (w:Nat):Nat->Nat->Nat->Nat:=fun m j v=>if m=a/\Int.ofNat j=pin then w else v
def netF (a w:Nat):Nat->Nat->Nat:=fun m v=>if m=a then w else v
theorem rdB {c:Circ} (C:Cir c) {t:List Nat} (ht:t.length=c.nodes.length) {m a w:Nat}{pin:Int}{x:Node} (hx:c.nodes[m]?=some x) (k:List Nat->Prop) (h:k (readV (pinF a pin w) t m x)) :
  ∃ x571,c.nodes[m]?=some x571/\loopW (S:=((List Nat)×Nat)) (fun (v573,v574) nx576=>((ltN v574 x571.ins.length)=true->∃ x577,x571.ins[v574]?=some x577/\x577<c.nodes.length/\∃ x578,t[x577]?=some x578/\joinW (α:=Bool) (fun k581=>((eqN m a)=true->k581 (eqZ (Int.ofNat v574) pin))/\((eqN m a)=false->k581 false)) (fun v579=>(v579=true->(v573.length+([w]:(List Nat)).length)*1<=2 ^ 47/\v574+1<2 ^ 63/\nx576 ((v573++([w]:(List Nat))),(v574+1)))/\(v579=false->(v573.length+([x578]:(List Nat)).length)*1<=2 ^ 47/\v574+1<2 ^ 63/\nx576 ((v573++([x578]:(List Nat))),(v574+1)))))/\((ltN v574 x571.ins.length)=false->k v573)) (([]:List Nat),0):=by
 have g:=C.good.node m x hx
 have hfew:=g.few
 refine⟨x,hx,loopW_intro (fun s=>s.2<=x.ins.length/\s.1=(readV (pinF a pin w) t m x).take s.2) (fun s=>x.ins.length-s.2) ?_ ⟨Nat.zero_le _,rfl⟩⟩
 rintro⟨l,j⟩ nx ⟨hj,hl⟩ hnx
 dsimp only at hj hl
 refine⟨fun q=>?_,fun q=>?_⟩
 ·have q:j<x.ins.length:=lt_t.1 q
  obtain⟨y,hy⟩:=get_lt q
  have hyn:=g.ins y (List.mem_of_getElem? hy)
  have hv:=readV_get (pn:=pinF a pin w) (t:=t) (m:=m) hy
  have hll:l.length<=16:=by rw[hl];simp only[List.length_take,readV_len];omega
  have go:∀ v,v=pinF a pin w m j (t.getD y 0)->nx (l++[v],j+1):=fun v e=>hnx _ ⟨q,by dsimp only;rw[hl,take_succ_get hv,e]⟩ (by dsimp only;omega)
  refine⟨y,hy,hyn,_,getN ht hyn,joinB' (a:=decide (m=a/\Int.ofNat j=pin)) (fun F=>⟨fun q=>?_,fun q=>?_⟩) ⟨fun q=>⟨by simp only[List.length_cons,List.length_nil];omega,by omega,go _ ?_⟩,fun q=>⟨by simp only[List.length_cons,List.length_nil];omega,by omega,go _ ?_⟩⟩⟩
  ·have e:eqZ (Int.ofNat j) pin=decide (m=a/\Int.ofNat j=pin):=by
    rw[eqZ_eq]
    simp[eq_t.1 q]
   rw[e];exact F
  ·rw[decide_eq_false (fun e=>eq_f.1 q e.1)] at F;exact F
  ·unfold pinF;rw[if_pos (of_decide_eq_true q)]
  ·unfold pinF;rw[if_neg (of_decide_eq_false q)]
 ·have q:x.ins.length<=j:=lt_f.1 q
  rw[hl,List.take_of_length_le (by rw[readV_len];exact q)]
  exact h
theorem outs_vc {c:Circ} (C:Cir c) {t:List Nat} (ht:t.length=c.nodes.length) {rest:List Nat->Prop} (h:rest (c.outs.map fun o=>t.getD o 0)) :
  joinW (α:=(List Nat)) (fun k475=>loopW (S:=((List Nat)×Nat)) (fun (v477,v478) nx480=>((ltN v478 c.outs.length)=true->∃ x481,c.outs[v478]?=some x481/\x481<c.nodes.length/\∃ x482,t[x481]?=some x482/\(v477.length+([x482]:(List Nat)).length)*1<=2 ^ 47/\v478+1<2 ^ 63/\nx480 ((v477++([x482]:(List Nat))),(v478+1)))/\((ltN v478 c.outs.length)=false->k475 v477)) (([]:List Nat),0)) rest:=by
 have hol:=C.good.outsLen
 refine joinLoop (fun s=>s.2<=c.outs.length/\s.1=(c.outs.take s.2).map fun o=>t.getD o 0) (fun s=>c.outs.length-s.2) (fun a=>a=c.outs.map fun o=>t.getD o 0) ?_ ⟨Nat.zero_le _,rfl⟩ (fun _ e=>e ▸ h)
 rintro k ⟨l,i⟩ nx ⟨hi,hl⟩ hnx hk
 dsimp only at hi hl
 refine⟨fun q=>?_,fun q=>hk _ ?_⟩
 ·have q:i<c.outs.length:=lt_t.1 q
  obtain⟨o,ho⟩:=get_lt q
  have hon:o<c.nodes.length:=C.good.outs o (List.mem_of_getElem? ho)
  refine⟨o,ho,hon,_,getN ht hon,by rw[hl];simp only[List.length_map,List.length_take,List.length_singleton];omega,by omega,hnx _ ⟨q,?_⟩ (by dsimp only;omega)⟩
  dsimp only
  rw[hl,take_succ_get ho,List.map_append]
  rfl
 ·have q:c.outs.length<=i:=lt_f.1 q
  rw[hl,List.take_of_length_le q]
theorem nexts_vc {c:Circ} (C:Cir c) {pn:Nat->Nat->Nat->Nat} (h2:∀ m j v,v<=3->pn m j v<=3) {t:List Nat} (hle:∀ i,t.getD i 0<=3) {RD:Nat->(List Nat->Prop)->Prop} (hrd:∀ m x,c.nodes[m]?=some x->∀ k,k (readV pn t m x)->RD m k) {rest:List Nat->Prop} (h:rest ((ofN c [14]).map fun s=>min (pn s 0 (t.getD ((insOf c s).getD 0 0) 0)) 2)) :
  joinW (α:=(List Nat)) (fun k491=>loopW (S:=((List Nat)×Nat)) (fun (v493,v494) nx497=>((ltN v494 (ofN c [14]).length)=true->∃ x498,(ofN c [14])[v494]?=some x498/\joinW (α:=(List Nat)) (RD x498) (fun v502=>∃ x521,v502[0]?=some x521/\joinW (α:=Nat) (fun k526=>((eqN x521 3)=true->k526 2)/\((eqN x521 3)=false->k526 x521)) (fun v523=>(v493.length+([v523]:(List Nat)).length)*1<=2 ^ 47/\v494+1<2 ^ 63/\nx497 ((v493++([v523]:(List Nat))),(v494+1)))))/\((ltN v494 (ofN c [14]).length)=false->k491 v493)) (([]:List Nat),0)) rest:=by
 have hlen:=C.len
 have l2:=ofN_len c [14]
 refine joinLoop (fun s=>s.2<=(ofN c [14]).length/\s.1=((ofN c [14]).take s.2).map fun s=>min (pn s 0 (t.getD ((insOf c s).getD 0 0) 0)) 2) (fun s=>(ofN c [14]).length-s.2) (fun a=>a=(ofN c [14]).map fun s=>min (pn s 0 (t.getD ((insOf c s).getD 0 0) 0)) 2) ?_ ⟨Nat.zero_le _,rfl⟩ (fun _ e=>e ▸ h)
 rintro k ⟨l,i⟩ nx ⟨hi,hl⟩ hnx hk
 dsimp only at hi hl
 refine⟨fun q=>?_,fun q=>hk _ ?_⟩
 ·have q:i<(ofN c [14]).length:=lt_t.1 q
  obtain⟨f,hf⟩:=get_lt q
  obtain⟨hfn,hfk⟩:=ofN_mem.1 (List.mem_of_getElem? hf)
  obtain⟨x,hx⟩:=get_lt hfn
  rw[kd_eq hx] at hfk
  have hg:=C.good.node f x hx
  have ha:x.ins.length=1:=by have:=hg.arity;rw[hfk] at this;exact arity_dff this
  have hy:x.ins[0]?=some (x.ins.getD 0 0):=getD_some (by omega)
  have hv:=h2 f 0 _ (hle (x.ins.getD 0 0))
  refine⟨f,hf,joinI (hrd f x hx _ ⟨_,readV_get hy,?_⟩)⟩
  refine joinB' (a:=min (pn f 0 (t.getD (x.ins.getD 0 0) 0)) 2) (fun F=>⟨fun q=>?_,fun q=>?_⟩) ⟨by rw[hl];simp only[List.length_map,List.length_take,List.length_singleton];omega,by omega,hnx _ ⟨q,?_⟩ (by dsimp only;omega)⟩
  ·rw[eq_t.1 q] at F;exact F
  ·have:=eq_f.1 q
   rw[Nat.min_eq_left (by omega)] at F;exact F
  ·dsimp only
   rw[hl,take_succ_get hf,List.map_append]
   simp only[List.map_cons,List.map_nil,insOf_eq hx]
 ·have q:(ofN c [14]).length<=i:=lt_f.1 q
  rw[hl,List.take_of_length_le q]
end Go.Proofs.YtmhbhclfojmjdaaGreatDoor
