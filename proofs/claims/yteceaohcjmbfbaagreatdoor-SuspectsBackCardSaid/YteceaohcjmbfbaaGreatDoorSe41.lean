/-
  AbsXn: parts of the proof.
-/
import Derived.Test.YteceaohcjmbfbaaGreatDoorSe40
namespace Go.Abs
def A7 {α S:Type} (es:List α) (body:α->S->(S->Prop)->Prop) (k:S->Prop):Nat->List Nat->S->Prop
 |0,_,_=>False
 |n+1,seen,s=>((∀ i,i<es.length->i∈seen)->k s)/\∀ i x,es[i]?=some x->i ∉ seen->body x s (A7 es body k n (seen++[i]))
def yN {α S:Type} (es:List α) (body:α->S->(S->Prop)->Prop) (s:S) (k:S->Prop):Prop:=∃ n,A7 es body k n [] s
theorem oH:∀ (n:Nat) (l:List Nat),l.Nodup->(∀ i∈l,i<n)->l.length<=n
 |0,l,_,h=>by
  cases l with
  |nil=>simp
  |cons a l=>exact absurd (h a (.head _)) (Nat.not_lt_zero _)
 |n+1,l,nd,h=>by
  have h1:=oH n (l.erase n) (nd.erase n) (fun i hi=>by
   have h2:=h i (List.mem_of_mem_erase hi)
   have h3:i≠n:=fun e=>by subst e;exact (List.Nodup.not_mem_erase nd) hi
   omega)
  rw[List.length_erase] at h1
  split at h1 <;> omega
theorem qa {α S:Type}{es:List α}{body:α->S->(S->Prop)->Prop}{s0:S}{k:S->Prop} (I:List Nat->S->Prop) (h0:I [] s0) (hk:∀ seen s,I seen s->seen.Nodup->(∀ i,i∈seen↔i<es.length)->k s)
  (step:∀ seen s i x (next:S->Prop),I seen s->es[i]?=some x->i ∉ seen->(∀ s',I (seen++[i]) s'->next s')->body x s next):yN es body s0 k:=by
 have key:∀ n seen s,I seen s->seen.Nodup->(∀ i∈seen,i<es.length)->es.length<n+seen.length->A7 es body k n seen s:=by
  intro n
  induction n with
  |zero =>
   intro seen s _ nd hb hl
   have:=oH es.length seen nd hb
   omega
  |succ n ih =>
   intro seen s hI nd hb hl
   refine⟨fun hall=>hk seen s hI nd fun i=>⟨hb i,hall i⟩,fun i x hx hi=>step seen s i x _ hI hx hi fun s' hs'=>?_⟩
   have hlt:i<es.length:=(List.getElem?_eq_some_iff.1 hx).1
   refine ih (seen++[i]) s' hs' ?_ (fun j hj=>?_) (by simp;omega)
   ·rw[List.nodup_append]
    exact⟨nd,by simp,fun a ha b hb'=>by rw[List.mem_singleton.1 hb'];exact fun e=>hi (e ▸ ha)⟩
   ·rcases List.mem_append.1 hj with hj|hj
    ·exact hb j hj
    ·rw[List.mem_singleton.1 hj];exact hlt
 exact⟨es.length+1,key _ [] s0 h0 .nil (fun i hi=>by cases hi) (by simp)⟩
section
variable {P:Program} {N:Nat}
def xB (P:Program) (N:Nat) (c:Code) (e:Env) (h:Heap) (K:X->Env->Heap->Prop):Prop :=
 match c with
 |.skip=>K .normal e h
 |.label _=>K .normal e h
 |.exit id=>K (.exit id) e h
 |.ret=>K .ret e h
 |.region _ ops d=>match ops,d with
  |⟨l⟩,false=>RegS P N ⟨l⟩ l 0 e h (K .normal)
  |⟨l⟩,true=>RegXS P N ⟨l⟩ h l 0 e h (K .normal)
 |.seq a b=>CodeM P N a e h fun x e h=>match x with
  |.normal=>CodeM P N b e h K
  |.exit id=>K (.exit id) e h
  |.ret=>K .ret e h
 |.cond c a b=>∃ t,e.eval c=.bool t/\(t=true->CodeM P N a e h K)/\(t=false->CodeM P N b e h K)
 |.block id c=>CodeM P N c e h fun x e h=>match x with
  |.normal=>K .normal e h
  |.exit id'=>match Nat.beq id' id with
   |true=>K .normal e h
   |false=>K (.exit id') e h
  |.ret=>K .ret e h
 |_=>False
def AA:Code->Bool
 |.loop _=>false
 |_=>true
theorem Ms {c:Code}{e:Env}{h:Heap}{K:X->Env->Heap->Prop} (_nl:AA c=true) (hk:xB P N c e h K):CodeM P N c e h K:=by
 cases c with
 |skip=>exact CodeM.ofS (CodeS.step hk)
 |label l=>exact CodeM.ofS (CodeS.step hk)
 |exit id=>exact CodeM.ofS (CodeS.step hk)
 |ret=>exact CodeM.ofS (CodeS.step hk)
 |region id ops d=>exact CodeM.ofS (CodeS.step hk)
 |seq a b=>exact CodeM.seq hk
 |cond c a b=>exact CodeM.cond hk
 |block id c=>exact CodeM.block hk
 |loop c=>exact hk.elim
 |scope c=>exact hk.elim
 |goto l=>exact hk.elim
 |rangeFunc f ps a b=>exact hk.elim
 |refuse w=>exact hk.elim
theorem gXM {A B:Prop} (a:A) (h:A->B:=by intro h;(conv=>whnf);(repeat((first | (refine Ms (by exact rfl) ?_) | apply Cs|apply Hs|apply Hx|apply Hf | (refine rd ?_) | (refine⟨.inl rfl,?_⟩) | (refine⟨.inr rfl,?_⟩) | (refine lm ?_) | (refine ll ?_) | (refine lg ?_) | (refine ls ?_) | (refine ldO (O.at (.head _)) ?_) | (refine ldO (O.at (.tail _ (.head _))) ?_) | (refine ldO (O.at (.tail _ (.tail _ (.head _)))) ?_) | (refine⟨rfl,?_⟩) | (refine nV rfl rfl ?_));(conv=>whnf)));exact h):B:=h a
theorem lwM (nn:Nat) (ks:List Nat) {S σ:Type} (π:σ->S) {body:S->(S->Prop)->Prop} (I:σ->Heap->Prop) (env:σ->List (Nat×Value)) {c:Code}{e:Env}{h:Heap}{K:X->Env->Heap->Prop}
  (s0:σ) (hm:av body (π s0)) (start:I s0 h)
  (round:∀ s next base h,body (π s) next->I s h->nI e ks fun l=>cD (cu (l++env s)) fun t=>CodeM P N c ⟨nn,t,base⟩ h fun x e1 h1=>match x with
   |.normal=>∃ s',next (π s')/\I s' h1/\dc h1 (keep e ks++env s') e1
   |.exit id=>K (.exit id) e1 h1
   |.ret=>K .ret e1 h1)
  (hs:dc h (keep e ks++env s0) e:=by (repeat(first|exact trivial|refine⟨VLe.refl _ _,?_⟩)))
  (hn:e.n=nn:=by exact rfl):CodeM P N (.loop c) e h K:=by
 obtain⟨n,hm⟩:=hm
 refine CodeM.loop (σ:=Nat×σ) (fun q h=>vw body q.1 (π q.2)/\I q.2 h) (fun q=>keep e ks++env q.2) (fun q=>q.1) hn ⟨(n,s0),⟨hm,start⟩,hs⟩ ?_
 rintro⟨n,s⟩ base h ⟨hm,hI⟩
 cases n with
 |zero=>exact False.elim hm
 |succ n =>
  rw[aY]
  refine ((aY _ _).1 (gg.1 (round s _ base h hm hI))).mono ?_
  intro x e1 h1 k
  cases x with
  |normal =>
   obtain⟨s',m',i,hh⟩:=k
   exact⟨(n,s'),Nat.lt_succ_self n,⟨m',i⟩,hh⟩
  |exit id=>exact k
  |ret=>exact k
theorem mpM (nn:Nat) (ks:List Nat) {α S σ:Type} (π:σ->S) {es:List α}{ent:α->Value×Value}{body:α->S->(S->Prop)->Prop}{kk:S->Prop} (I:σ->List Nat->Heap->Prop) (env:σ->List (Nat×Value)) {id:Nat}{rest:List Oper}{x:Operand}{d1:Tmp}{ty:TypeId}{pos:String}{af:Array Edge}{c2:Code}{e:Env}{h:Heap}{K:X->Env->Heap->Prop}{g0 g n:Nat}
  (s0:σ) (hm:yN es body (π s0) kk) (start:I s0 [] h)
  (hI0:∀ s seen h,I s seen h->h.get g0=some (.rng g seen n)) (hIg:∀ s seen h,I s seen h->h.get g=some (.map (es.map ent))) (hIu:∀ s seen i h,I s seen h->I s (seen++[i]) (h.upd g0 (.rng g (seen++[i]) n)))
  (hdone:∀ s seen base h,kk (π s)->I s seen h->nI e ks fun l=>cD (cu (l++env s)) fun t=>RegS P N ⟨{ dst:=some d1,op:=.next x false,type:=ty,pos:=pos,after:=af,guard:=none }::rest⟩ rest 1 ((⟨nn,t,base⟩:Env).put (some d1) (.tuple #[.bool false])) h fun e1 h1=>CodeM P N c2 e1 h1 fun x e1 h1=>match x with
   |.normal=>False
   |.exit id=>K (.exit id) e1 h1
   |.ret=>K .ret e1 h1)
  (hstep:∀ s seen i y next base h,es[i]?=some y->body y (π s) next->I s (seen++[i]) h->nI e ks fun l=>cD (cu (l++env s)) fun t=>RegS P N ⟨{ dst:=some d1,op:=.next x false,type:=ty,pos:=pos,after:=af,guard:=none }::rest⟩ rest 1 ((⟨nn,t,base⟩:Env).put (some d1) (.tuple #[.bool true,(ent y).1,(ent y).2])) h fun e1 h1=>CodeM P N c2 e1 h1 fun x e1 h1=>match x with
   |.normal=>∃ s',next (π s')/\I s' (seen++[i]) h1/\dc h1 (keep e ks++env s') e1
   |.exit id=>K (.exit id) e1 h1
   |.ret=>K .ret e1 h1)
  (hx:∀ s base,(⟨nn,cu (keep e ks++env s),base⟩:Env).eval x=.pointer (some ⟨g0,0,none⟩):=by exact fun _ _=>rfl)
  (hes:es.length=n:=by exact rfl)
  (hs:dc h (keep e ks++env s0) e:=by (repeat(first|exact trivial|refine⟨VLe.refl _ _,?_⟩)))
  (hn:e.n=nn:=by exact rfl):CodeM P N (.loop (.seq (.region id ⟨{ dst:=some d1,op:=.next x false,type:=ty,pos:=pos,after:=af,guard:=none }::rest⟩ false) c2)) e h K:=by
 obtain⟨m,hm⟩:=hm
 refine CodeM.loop (σ:=Nat×List Nat×σ) (fun q h=>A7 es body kk q.1 q.2.1 (π q.2.2)/\I q.2.2 q.2.1 h) (fun q=>keep e ks++env q.2.2) (fun q=>q.1) hn ⟨(m,[],s0),⟨hm,start⟩,hs⟩ ?_
 rintro⟨m,seen,s⟩ base h ⟨hm,hI⟩
 cases m with
 |zero=>exact False.elim hm
 |succ m =>
  dsimp only at hm hI ⊢
  obtain⟨md,ms⟩:=hm
  rw[aY]
  refine CodeM.seq (CodeM.next (hx s base) (hI0 s seen h hI) (hIg s seen h hI) (by rw[List.length_map];exact hes) (fun hall=>?_) (fun i k v he hi=>?_))
  ·obtain⟨e2,h2,hr,q⟩:=((aY _ _).1 (gg.1 (hdone s seen base h (md fun i hi=>hall i (by omega)) hI))).spec
   refine⟨e2,h2,hr,q.mono ?_⟩
   intro x e1 h1 k
   cases x with
   |normal=>exact k.elim
   |exit id=>exact k
   |ret=>exact k
  ·rw[List.getElem?_map] at he
   cases hy:es[i]? with
   |none=>rw[hy] at he;cases he
   |some y =>
    rw[hy] at he
    simp only[Option.map_some,Option.some.injEq] at he
    have e1:k=(ent y).1:=by rw[he]
    have e2:v=(ent y).2:=by rw[he]
    rw[e1,e2]
    obtain⟨e2,h2,hr,q⟩:=((aY _ _).1 (gg.1 (hstep s seen i y _ base _ hy (ms i y hy hi) (hIu s seen i h hI)))).spec
    refine⟨e2,h2,hr,q.mono ?_⟩
    intro x e1 h1 k
    cases x with
    |normal =>
     obtain⟨s',k1,k2,k3⟩:=k
     exact⟨(m,seen++[i],s'),Nat.lt_succ_self m,⟨k1,k2⟩,k3⟩
    |exit id=>exact k
    |ret=>exact k
theorem jnM {a b:Code}{α σ:Type}{first:(α->Prop)->Prop}{rest:α->Prop} (hm:an first rest) (nn:Nat) (ks:List Nat) (π:σ->α) (I:σ->Heap->Prop) (env:σ->List (Nat×Value)) {e:Env}{h:Heap}{K:X->Env->Heap->Prop}
  (hfirst:first rest->CodeM P N a e h fun x e1 h1=>match x with
   |.normal=>∃ s,rest (π s)/\I s h1/\dc h1 (keep e ks++env s) e1
   |.exit id=>K (.exit id) e1 h1
   |.ret=>K .ret e1 h1)
  (hrest:∀ s base h1,rest (π s)->I s h1->nI e ks fun l=>cD (cu (l++env s)) fun t=>CodeM P N b ⟨nn,t,base⟩ h1 K) (hn:e.n=nn:=by exact rfl):CodeM P N (.seq a b) e h K:=by
 refine CodeM.join (σ:={ s:σ // rest (π s) }) (fun s h=>I s.1 h) (fun s=>keep e ks++env s.1) hn ((hfirst hm).mono ?_) fun s base h1 i=>gg.1 (hrest s.1 base h1 s.2 i)
 intro x e1 h1 k
 cases x with
 |normal =>
  obtain⟨s,k1,k2,k3⟩:=k
  exact⟨⟨s,k1⟩,k2,k3⟩
 |exit id=>exact k
 |ret=>exact k
end
section
variable {P:Program} {N:Nat} {B:List AObj} {h0 h:Heap} {L:List Slot} {ρ:Operand->Value} {d:Option Tmp} {ty:TypeId} {pos:String} {af:Array Edge} {gd:Option (Nat×Bool)}
variable {κ ν:Type} {ek:κ->Value} {ev:ν->Value}
theorem Own.rng {t kt et:TypeId}{x:Operand}{g:Nat}{m:List (κ×ν)}{K:Value->Heap->Prop} (O:Own B h0 L h) (hg:(some g,.map (bO ek ev m))∈L) (k:∀ g0 h1,Own B h0 ((some g0,.rng g [] m.length)::L) h1->K (.pointer (some ⟨g0,0,none⟩)) h1)
  (hx:ρ x=.map (some g):=by exact rfl) (hu:P.underlying t=some (.map kt et):=by exact rfl):NewG P ρ { dst:=d,op:=.range t x,type:=ty,pos:=pos,after:=af,guard:=gd } h K:=by
 refine .rng (ob:=.rng g [] m.length) ?_ fun h1 n=>k h.size h1 (O.push n)
 unfold arange
 simp only[hu,hx,O.at hg]
 simp[bO]
theorem Cn {α:Type}{enc:α->Value}{z:α}{h:Heap} (n:Nat) (h1:cl (enc z)=[enc z]) (le:VLe h (.slice none 0 0) (enc z)):LLe h (flatC ((List.replicate n ()).map fun _=>Value.slice none 0 0)) (flatC ((List.replicate n z).map enc)):=by
 have e1:∀ v:Value,cl v=[v]->flatC (List.replicate n v)=List.replicate n v:=fun v hv=>by
  induction n with
  |zero=>rfl
  |succ n ih=>rw[List.replicate_succ,show flatC (v::List.replicate n v)=cl v++flatC (List.replicate n v) from rfl,hv,ih];rfl
 rw[List.map_replicate,List.map_replicate,e1 _ rfl,e1 _ h1]
 refine⟨by simp,fun i=>?_⟩
 simp only[List.getD,List.getElem?_replicate]
 split
 ·exact le
 ·exact VLe.refl _ _
theorem CC {α:Type} (h:Heap) (n s:Nat) (enc:α->Value):LLe h (flatC ((List.replicate n ()).map fun _=>Value.slice none 0 0)) (flatC ((List.replicate n ([]:List α)).map (ag s enc))):=Cn n rfl (VLe.nil _ _)
theorem Own.Cy {t kt et:TypeId}{x:Operand}{g:Nat}{m:List (κ×ν)}{K:Value->Heap->Prop} (O:Own B h0 L h) (hg:h.get g=some (.map (bO ek ev m))) (k:∀ g0 h1,Own B h0 ((some g0,.rng g [] m.length)::L) h1->K (.pointer (some ⟨g0,0,none⟩)) h1)
  (hx:ρ x=.map (some g):=by exact rfl) (hu:P.underlying t=some (.map kt et):=by exact rfl):NewG P ρ { dst:=d,op:=.range t x,type:=ty,pos:=pos,after:=af,guard:=gd } h K:=by
 refine .rng (ob:=.rng g [] m.length) ?_ fun h1 n=>k h.size h1 (O.push n)
 unfold arange
 simp only[hu,hx,hg]
 simp[bO]
theorem Bj {x:Operand}{g0 g n i:Nat}{seen:List Nat}{m:List (κ×ν)}{y:κ×ν}{K:Value->Prop} (O:Own B h0 L h) (h1:(some g0,.rng g (seen++[i]) n)∈L) (h2:h.get g=some (.map (bO ek ev m))) (hn:m.length=n) (hy:m[i]?=some y) (k:K (.tuple #[ek y.1,ev y.2]))
  (hx:ρ x=.pointer (some ⟨g0,0,none⟩):=by exact rfl):∃ v,(aw P ρ { dst:=d,op:=.entry x,type:=ty,pos:=pos,after:=af,guard:=gd }=some v\/jQ P ρ { dst:=d,op:=.entry x,type:=ty,pos:=pos,after:=af,guard:=gd } h=some v)/\K v:=by
 refine⟨_,.inr ?_,k⟩
 unfold jQ
 have e1:(bO ek ev m)[i]?=some (ek y.1,ev y.2):=by unfold bO;rw[List.getElem?_map,hy];rfl
 have e2:(bO ek ev m).length=n:=by rw[<- hn];simp[bO]
 simp only[hx,O.at h1,h2,List.getLast?_append,List.getLast?_singleton,Option.some_or,e1,e2,if_true]
theorem vI {t kt et:TypeId}{x:Operand}{g:Nat}{m:List (κ×ν)}{K:Value->Prop} (h1:h.get g=some (.map (bO ek ev m))) (k:K (.int .i64 (Int.ofNat m.length)))
  (hx:ρ x=.map (some g):=by exact rfl) (hu:P.underlying t=some (.map kt et):=by exact rfl) :
  ∃ v,(aw P ρ { dst:=d,op:=.call { callee:=.builtin .len,args := #[x],argTypes := #[t] },type:=ty,pos:=pos,after:=af,guard:=gd }=some v\/jQ P ρ { dst:=d,op:=.call { callee:=.builtin .len,args := #[x],argTypes := #[t] },type:=ty,pos:=pos,after:=af,guard:=gd } h=some v)/\K v:=by
 refine⟨_,.inr ?_,k⟩
 unfold jQ
 have e2:(#[t][0]?).bind P.underlying=some (.map kt et):=hu
 simp only[e2,List.map_cons,List.map_nil,hx,h1]
 simp[bO,goInt]
end
theorem lp {P:Program}{e:Env}{h:Heap}:∀ {l:List ResultVar}{K K':List Value->Prop},(∀ vs,K vs->K' vs)->kp P e h l K->kp P e h l K'
 |[],_,_,m,hk=>m _ hk
 |.tmp t::r,K,K',m,hk=>by
  unfold kp at hk ⊢
  split at hk
  ·rename_i hb
   rw[jJ] at hk ⊢
   exact lp (fun vs q=>m _ q) hk
  ·exact hk.elim
 |.cell a t::r,K,K',m,hk=>by
  unfold kp at hk ⊢
  obtain⟨v,hv,hk⟩:=hk
  exact⟨v,hv,lp (fun vs q=>m _ q) hk⟩
theorem YOk.fc {α:Type}{h:Heap}{s:Nat}{v:Value}{enc:α->Value}{new:List α} (hy:v=FC s (new.map enc)):YOk h s v enc new:=by
 subst hy
 refine⟨?_,?_⟩
 ·show some (new.map enc).length=_
  rw[List.length_map]
 ·exact (YOk.fl (h:=h) (s:=s) (enc:=enc) (new:=new) rfl).first
theorem CodeS.Bk {P:Program}{N:Nat}{h:Heap}{c:Code}{e:Env}{K:X->Env->Heap->Prop}{t:Nat}{v:Value} (ht:Nat.blt t e.n=true) (le:VLe h (e.get t) v)
  (k:mL e (some t) v fun e=>CodeS P N c e h K):CodeS P N c e h K:=by
 refine⟨fun hM hok=>?_⟩
 obtain⟨x,e1,h1,hc,hk⟩:=(fO.1 k).spec hM (by rw[Env.eJ];exact hok)
 refine⟨x,e1,h1,⟨⟨hc.1.1,by rw[hc.1.2,Env.eJ]⟩,fun ι w a H r=>?_⟩,hk⟩
 have r5:ERel ι (e.put (some t) v) a:=⟨r.defers,by rw[Env.eJ];exact r.size,fun j hj=>by
  rw[Env.eJ] at hj
  have:=r.get j hj
  show VRel ι ((e.set t v).get j) _
  rw[Env.dG]
  by_cases q:j=t
  ·subst q
   rw[if_pos rfl]
   exact le N ι w _ H this
  ·rw[if_neg q];exact this⟩
 exact hc.2 ι w a H r5
theorem CodeS.AH {P:Program}{N:Nat}{B:List AObj}{h0 h:Heap}{L:List Slot}{c:Code}{e:Env}{K:X->Env->Heap->Prop}{α:Type}{enc:α->Value}{l:List α}{s:Nat}{a:Option Nat}{ro:Bool}{f:Slot->List Slot}
  (O:Own B h0 L h) (A:At (a,.cells (flatC (l.map enc)) ro) L f) (ha:a=none->l=[]) (hs:∀ x:α,(cl (enc x)).length=s) {t:Nat} (ht:Nat.blt t e.n=true) (hv:e.get t=ah s a (l.map enc))
  (k:∀ h,Own B h0 (f (a,.cells (flatC (l.map enc)) true)) h->mL e (some t) (ag s enc l) fun e=>CodeS P N c e h K):CodeS P N c e h K:=by
 cases a with
 |none =>
  have e1:=ha rfl
  subst e1
  refine .Bk ht ?_ (k _ (O.A5 A))
  rw[hv]
  exact VLe.nil _ _
 |some g =>
  have hg:=O.at A.mem
  have u:=Upd.upd (.cells (flatC (l.map enc)) true) (Heap.ak hg)
  have O1:=O.upd A u
  have k1:CodeS P N c e (h.upd g (.cells (flatC (l.map enc)) true)) K:=by
   refine .Bk ht ?_ (k _ O1)
   rw[hv]
   exact VLe.flM u.get (by rw[List.length_map]) hs
  refine⟨fun hM hok=>?_⟩
  obtain⟨x,e1,h1,hc,hk⟩:=k1.spec hM hok
  refine⟨x,e1,h1,⟨⟨by have:=hc.1.1;rw[u.size] at this;exact this,hc.1.2⟩,fun ι w a H r=>?_⟩,hk⟩
  obtain⟨l1,e1'⟩:=gY r (Nat.le_of_ble_eq_true ht) hv
  obtain⟨ι2,H2,S2⟩:=iL H e1' hg
  refine wp_mono (hc.2 ι2 w a H2 (r.mono S2.ext)) ?_
  rintro x' a' w' ⟨rfl,ι',r',H',S⟩
  exact⟨rfl,ι',r',H',S2.trans S⟩
end Go.Abs
