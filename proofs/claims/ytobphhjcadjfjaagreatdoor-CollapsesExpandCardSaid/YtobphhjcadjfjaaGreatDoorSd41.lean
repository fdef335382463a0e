/-
  AbsXd: parts of the proof.
-/
import Derived.Test.YtobphhjcadjfjaaGreatDoorSd40
namespace Go.Abs
theorem CodeS.zj {P:Program}{N:Nat}{h:Heap}{c:Code}{e:Env}{K:X->Env->Heap->Prop}{t:Nat}{v:Value} (ht:Nat.blt t e.n=true) (le:VLe h (e.get t) v)
  (k:ln e (some t) v fun e=>CodeS P N c e h K):CodeS P N c e h K:=by
 refine⟨fun hM hok=>?_⟩
 obtain⟨x,e1,h1,hc,hk⟩:=(dY.1 k).spec hM (by rw[Env.eC];exact hok)
 refine⟨x,e1,h1,⟨⟨hc.1.1,by rw[hc.1.2,Env.eC]⟩,fun ι w a H r=>?_⟩,hk⟩
 have r5:ERel ι (e.put (some t) v) a:=⟨r.defers,by rw[Env.eC];exact r.size,fun j hj=>by
  rw[Env.eC] at hj
  have:=r.get j hj
  show VRel ι ((e.set t v).get j) _
  rw[Env.de]
  by_cases q:j=t
  ·subst q
   rw[if_pos rfl]
   exact le N ι w _ H this
  ·rw[if_neg q];exact this⟩
 exact hc.2 ι w a H r5
theorem CodeS.Dq {P:Program}{N:Nat}{B:List AObj}{h0 h:Heap}{L:List Slot}{c:Code}{e:Env}{K:X->Env->Heap->Prop}{α:Type}{enc:α->Value}{l:List α}{s:Nat}{a:Option Nat}{ro:Bool}{f:Slot->List Slot}
  (O:Own B h0 L h) (A:At (a,.cells (flatC (l.map enc)) ro) L f) (ha:a=none->l=[]) (hs:∀ x:α,(cl (enc x)).length=s) {t:Nat} (ht:Nat.blt t e.n=true) (hv:e.get t=ag s a (l.map enc))
  (k:∀ h,Own B h0 (f (a,.cells (flatC (l.map enc)) true)) h->ln e (some t) (ah s enc l) fun e=>CodeS P N c e h K):CodeS P N c e h K:=by
 cases a with
 |none =>
  have e1:=ha rfl
  subst e1
  refine .zj ht ?_ (k _ (O.zh A))
  rw[hv]
  exact VLe.nil _ _
 |some g =>
  have hg:=O.at A.mem
  have u:=Upd.upd (.cells (flatC (l.map enc)) true) (Heap.aj hg)
  have O1:=O.upd A u
  have k1:CodeS P N c e (h.upd g (.cells (flatC (l.map enc)) true)) K:=by
   refine .zj ht ?_ (k _ O1)
   rw[hv]
   exact VLe.flM u.get (by rw[List.length_map]) hs
  refine⟨fun hM hok=>?_⟩
  obtain⟨x,e1,h1,hc,hk⟩:=k1.spec hM hok
  refine⟨x,e1,h1,⟨⟨by have:=hc.1.1;rw[u.size] at this;exact this,hc.1.2⟩,fun ι w a H r=>?_⟩,hk⟩
  obtain⟨l1,e1'⟩:=fZ r (Nat.le_of_ble_eq_true ht) hv
  obtain⟨ι2,H2,S2⟩:=gN H e1' hg
  refine wp_mono (hc.2 ι2 w a H2 (r.mono S2.ext)) ?_
  rintro x' a' w' ⟨rfl,ι',r',H',S⟩
  exact⟨rfl,ι',r',H',S2.trans S⟩
end Go.Abs
