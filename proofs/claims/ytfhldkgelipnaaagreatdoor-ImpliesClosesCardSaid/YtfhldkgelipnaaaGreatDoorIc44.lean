/-
  Pg, Ph: parts of the proof.
-/
import Derived.Test.YtfhldkgelipnaaaGreatDoorIc43
namespace Go.Proofs.YtfhldkgelipnaaaGreatDoor
open Go.Abs
set_option maxRecDepth 100000
def givenN (n:Nat) (l:List U2):List Asg:=l.map fun u=>⟨u.a%n,u.b%2⟩
theorem given_vc {n:Nat}{l:List U2} (hn:0<n) (hl:∀ u∈l,u.a<256) (hlen:l.length≤6) {K:List Asg→Prop} (h:K (givenN n l)):probecardlaw24_Given_wp n l K:=by
 unfold probecardlaw24_Given_wp
 refine joinLoop (fun s=>s.2≤l.length∧s.1=givenN n (l.take s.2)) (fun s=>l.length-s.2) (fun a=>a=givenN n l) ?_ ⟨Nat.zero_le _,by simp[givenN]⟩ (fun a e=>by rw[e];exact h)
 rintro k ⟨o,i⟩ nx ⟨hi,hI⟩ hnx hk
 dsimp only at hi hI
 refine joinI ⟨fun q=>⟨fun _=>?_,fun e=>?_⟩,fun q=>⟨(fun e=>by cases e),fun _=>?_⟩⟩
 ·have q:=lt_t.1 q
  (try dsimp only at q)
  obtain⟨u,hu⟩:=get_lt q
  obtain⟨l1,l2⟩:=List.getElem?_eq_some_iff.1 hu
  refine⟨u,hu,hl u (List.mem_of_getElem? hu),hn,u,hu,by decide,by rw[hI];simp only[givenN,List.length_map,List.length_take,List.length_singleton];omega,by omega,hnx _ ⟨q,?_⟩ (by dsimp only;omega)⟩
  dsimp only
  rw[hI,List.take_succ_eq_append_getElem l1,l2]
  unfold givenN
  rw[List.map_append]
  rfl
 ·exact absurd (lt_f.1 e) (by omega)
 ·have q:=lt_f.1 q
  (try dsimp only at q)
  exact hk o (by rw[hI,List.take_of_length_le q])
theorem given_ok {n:Nat}{l:List U2} (hn:0<n):∀ a∈givenN n l,a.net<n∧a.value≤1:=by
 intro a m
 obtain⟨u,_,rfl⟩:=List.mem_map.1 m
 refine⟨Nat.mod_lt _ hn,?_⟩
 have:=Nat.mod_lt u.b (show 0<2 by decide)
 dsimp only
 omega
theorem gateK_few (bus:Bool) (g:GData) (ks:List Nat):(gateK bus g ks).ins.length≤3:=by
 unfold gateK
 generalize (if bus then g.kind%13 else g.kind%9)=kk
 repeat' split
 all_goals simp only
 all_goals first | (simp;done) | (split <;> simp)
theorem circ_few3 {x:CData} (hm:x.mem=false):Few3 (circN x):=by
 intro i y h
 rcases circ_node hm h with⟨_,rfl⟩|⟨_,_,d,_,rfl⟩|⟨_,_,g,rfl⟩
 ·exact Nat.zero_le _
 ·show (1:Nat)≤3;decide
 ·exact gateK_few _ _ _
theorem circ_pos (x:CData):0<(circN (plainC x)).nodes.length:=by
 have h1:(circN (plainC x)).nodes.length=(rawN (plainC x)).length:=updN_length _
 rw[h1];exact rawN_pos _
inductive CloseR (c:Circ) (given:List Asg):List Nat×Bool×Nat→Prop
 |ok (v:List Nat) (C:CloseOk c given v):CloseR c given (v,true,0)
 |no (h:∀ t,¬ CW c given t):CloseR c given ([],false,0)
theorem close_res {c:Circ} (p:Pln c) (f3:Few3 c) {given:List Asg} (hg:∀ a∈given,a.net<c.nodes.length∧a.value≤1) (hl:given.length<2 ^ 60) {K:List Nat×Bool×Nat→Prop}
  (h:∀ r,CloseR c given r→K r):implies_Close_wp c given K :=
 close_vc p f3 hg hl (fun v C=>h _ (.ok v C)) (fun n=>h _ (.no n))
theorem CloseR.err {c:Circ}{given:List Asg}{r:List Nat×Bool×Nat} (R:CloseR c given r):r.2.2=0:=by cases R <;> rfl
theorem CloseR.yes {c:Circ}{given:List Asg}{r:List Nat×Bool×Nat} (R:CloseR c given r) (h:r.2.1=true):CloseOk c given r.1:=by
 cases R with
 |ok v C=>exact C
 |no _=>cases h
theorem CloseR.not {c:Circ}{given:List Asg}{r:List Nat×Bool×Nat} (R:CloseR c given r) (h:r.2.1=false):r.1=[]∧∀ t,¬ CW c given t:=by
 cases R with
 |ok v C=>cases h
 |no q=>exact⟨rfl,q⟩
end Go.Proofs.YtfhldkgelipnaaaGreatDoor
