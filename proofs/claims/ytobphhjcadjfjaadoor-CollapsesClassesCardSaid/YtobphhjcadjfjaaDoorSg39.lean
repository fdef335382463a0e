/-
  AbsXz: parts of the proof.
-/
import Derived.Test.YtobphhjcadjfjaaDoorSg38
namespace Go.Abs
def aJ {α:Type} (s:Nat) (enc:α->Value) (l:List α):Value:=FC s (l.map enc)
section
variable {α:Type} {s:Nat} {enc:α->Value} {l:List α}
theorem rA (p:∀ a,ah (cl (enc a))):PureV (aJ s enc l):=fun ι ι' v' hf r=>by
 cases hl:l.map enc with
 |nil =>
  unfold aJ FC at r ⊢
  rw[hl] at r ⊢
  cases r with
  |fcNil _=>exact .fcNil s
  |fcEmpty _ a=>exact .fcEmpty s a
  |fc _ _ _ _ hne _=>exact absurd rfl hne
 |cons x xs =>
  unfold aJ FC at r ⊢
  rw[hl] at r ⊢
  cases r with
  |fc _ _ b o hne h =>
   refine .fc s _ b o hne ?_
   have:=(PureV.list (s:=s) (l:=l) p) ι ι' _ hf (by unfold FL;rw[hl];exact h)
   unfold FL at this
   rw[hl] at this
   exact this
theorem VLe.wX (h:Heap) (s:Nat) (enc:α->Value):VLe h (.slice none 0 0) (aJ s enc ([]:List α)):=fun _ _ _ _ _ r=>by
 cases r
 exact .fcNil s
theorem VLe.toC {h:Heap}{g o n:Nat} (a:VLe h (.slice (some ⟨g,o,none⟩) n n) (aw s enc l)) (hn:n=(l.map enc).length):VLe h (.slice (some ⟨g,o,none⟩) n n) (aJ s enc l):=fun N ι w v' H r=>by
 have q:=a N ι w v' H r
 cases r with
 |slice _ _ _ _ o' lc hι _ _ =>
  cases e:l with
  |nil =>
   subst e
   rw[hn]
   exact .fcEmpty s _
  |cons x xs =>
   rw[hn] at q ⊢
   rw[<- e]
   exact .fc s _ _ _ (by rw[e];simp) q
theorem Own.yy {B:List AObj}{h0:Heap}{L:List Slot}{h h2:Heap}{b:Nat}{a:Option Nat}{ro:Bool} (O:Own B h0 L h) (F:Frozen b h h2) (hb:b<=h0.size) (m:(a,.cells (flatC (l.map enc)) ro)∈L) (ha:a=none->l=[]) (hs:∀ x:α,(cl (enc x)).length=s):VLe h2 (ju a (l.map enc)) (aJ s enc l):=by
 have q:=O.yp F hb m ha hs
 cases a with
 |none=>rw[ha rfl];exact VLe.wX _ _ _
 |some g=>exact VLe.toC q rfl
end
section
variable {P:Program} {ρ:Operand->Value} {d:Option Tmp} {ty:TypeId} {pos:String} {af:Array Edge} {gd:Option (Nat×Bool)}
variable {α:Type} {s:Nat} {enc:α->Value} {l:List α}
theorem lmC {t e:TypeId}{x:Operand}{K:Value->Prop} (hk:K (.int .i64 (Int.ofNat l.length))) (hx:ρ x=FC s (l.map enc):=by exact rfl) (hu:P.underlying t=some (.slice e):=by exact rfl) :
  ∃ v,an P ρ { dst:=d,op:=.call { callee:=.builtin .len,args := #[x],argTypes := #[t] },type:=ty,pos:=pos,after:=af,guard:=gd }=some v/\K v:=by
 refine⟨_,?_,hk⟩
 unfold an
 have e2:(#[t][0]?).bind P.underlying=some (.slice e):=hu
 simp only[e2,List.map_cons,List.map_nil,hx,FC,List.length_map]
 rfl
theorem cpC {t e:TypeId}{x:Operand}{K:Value->Prop} (hk:K (.int .i64 (Int.ofNat l.length))) (hx:ρ x=FC s (l.map enc):=by exact rfl) (hu:P.underlying t=some (.slice e):=by exact rfl) :
  ∃ v,an P ρ { dst:=d,op:=.call { callee:=.builtin .cap,args := #[x],argTypes := #[t] },type:=ty,pos:=pos,after:=af,guard:=gd }=some v/\K v:=by
 refine⟨_,?_,hk⟩
 unfold an
 have e2:(#[t][0]?).bind P.underlying=some (.slice e):=hu
 simp only[e2,List.map_cons,List.map_nil,hx,FC,List.length_map]
 rfl
theorem atC {j:Nat}{t e:TypeId}{x i:Operand}{kk:IntKind}{W:α->Prop}{K:Value->Prop} (hm:∃ x,l[j]?=some x/\W x) (k:∀ x,l[j]?=some x->W x->K (FP (enc x)))
  (hx:ρ x=FC s (l.map enc):=by exact rfl) (hi:ρ i=.int kk (Int.ofNat j):=by exact rfl) (hu:P.underlying t=some (.slice e):=by exact rfl) (hs:aL P e=some s:=by exact rfl) :
  ∃ v,an P ρ { dst:=d,op:=.indexAddr t x i,type:=ty,pos:=pos,after:=af,guard:=gd }=some v/\K v:=by
 obtain⟨y,h1,h2⟩:=hm
 refine⟨_,?_,k y h1 h2⟩
 unfold an
 have hb:Nat.beq s s=true:=Nat.beq_refl s
 simp only[hu,hx,hi,hs,FC,hb,get_map (enc:=enc) h1]
end
section
variable {P:Program} {N:Nat} {B:List AObj} {h0 h:Heap} {L:List Slot}
end
end Go.Abs
