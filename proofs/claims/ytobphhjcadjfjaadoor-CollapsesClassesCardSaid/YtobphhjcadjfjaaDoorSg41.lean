/-
  AbsXd: parts of the proof.
-/
import Derived.Test.YtobphhjcadjfjaaDoorSg40
namespace Go.Abs
theorem CodeS.zU {P:Program}{N:Nat}{h:Heap}{c:Code}{e:Env}{K:X->Env->Heap->Prop}{t:Nat}{v:Value} (ht:Nat.blt t e.n=true) (le:VLe h (e.get t) v)
  (k:ma e (some t) v fun e=>CodeS P N c e h K):CodeS P N c e h K:=by
 refine⟨fun hM hok=>?_⟩
 obtain⟨x,e1,h1,hc,hk⟩:=(eC.1 k).spec hM (by rw[Env.gh];exact hok)
 refine⟨x,e1,h1,⟨⟨hc.1.1,by rw[hc.1.2,Env.gh]⟩,fun ι w a H r=>?_⟩,hk⟩
 have r5:ERel ι (e.put (some t) v) a:=⟨r.defers,by rw[Env.gh];exact r.size,fun j hj=>by
  rw[Env.gh] at hj
  have:=r.get j hj
  show VRel ι ((e.set t v).get j) _
  rw[Env.cS]
  by_cases q:j=t
  ·subst q
   rw[if_pos rfl]
   exact le N ι w _ H this
  ·rw[if_neg q];exact this⟩
 exact hc.2 ι w a H r5
end Go.Abs
