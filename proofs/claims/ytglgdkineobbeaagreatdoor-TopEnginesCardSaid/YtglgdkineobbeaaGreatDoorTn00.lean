/- Parts of the proof. -/
import Derived.Calls
import Derived.Orders
import Derived.LoopN
import Derived.Laws.Cells
import Derived.Laws.CopyRow
namespace Go.Abs
theorem MJ:type_of% @Array.all_eq_true_iff_forall_mem:=@Array.all_eq_true_iff_forall_mem
theorem Px:type_of% @Array.all_toList:=@Array.all_toList
theorem NJ:type_of% @Array.eq_empty_of_size_eq_zero:=@Array.eq_empty_of_size_eq_zero
theorem Q0:type_of% @Array.ext:=@Array.ext
theorem On:type_of% @Array.ext':=@Array.ext'
theorem PJ:type_of% @Array.foldl_toList:=@Array.foldl_toList
theorem LW:type_of% @Array.getD_eq_getD_getElem?:=@Array.getD_eq_getD_getElem?
theorem OI:type_of% @Array.getElem?_append_left:=@Array.getElem?_append_left
theorem Po:type_of% @Array.getElem?_append_right:=@Array.getElem?_append_right
theorem Me:type_of% @Array.getElem?_eq_getElem:=@Array.getElem?_eq_getElem
theorem Ny:type_of% @Array.getElem?_eq_none:=@Array.getElem?_eq_none
theorem L3:type_of% @Array.getElem?_eq_some_iff:=@Array.getElem?_eq_some_iff
theorem NC:type_of% @Array.getElem?_modify:=@Array.getElem?_modify
theorem ME:type_of% @Array.getElem?_push:=@Array.getElem?_push
theorem NR:type_of% @Array.getElem?_replicate:=@Array.getElem?_replicate
theorem NP:type_of% @Array.getElem?_setIfInBounds:=@Array.getElem?_setIfInBounds
theorem Nt:type_of% @Array.getElem?_toList:=@Array.getElem?_toList
theorem PT:type_of% @Array.getElem_mem:=@Array.getElem_mem
theorem QI:type_of% @Array.getElem_push:=@Array.getElem_push
theorem OC:type_of% @Array.getElem_setIfInBounds:=@Array.getElem_setIfInBounds
theorem NF:type_of% @Array.length_toList:=@Array.length_toList
theorem M5:type_of% @Array.mem_of_getElem?:=@Array.mem_of_getElem?
theorem Nl:type_of% @Array.mem_toList_iff:=@Array.mem_toList_iff
theorem Qm:type_of% @Array.replicate_succ:=@Array.replicate_succ
theorem Qn:type_of% @Array.replicate_zero:=@Array.replicate_zero
theorem ON:type_of% @Array.size_push:=@Array.size_push
theorem OY:type_of% @Array.size_setIfInBounds:=@Array.size_setIfInBounds
theorem OZ:type_of% @Array.toList_append:=@Array.toList_append
theorem Qb:type_of% @Array.toList_map:=@Array.toList_map
theorem PB:type_of% @Array.toList_zipIdx:=@Array.toList_zipIdx
theorem L9:type_of% @Bool.and_eq_true:=@Bool.and_eq_true
theorem PG:type_of% @Bool.and_true:=@Bool.and_true
theorem P7:type_of% @Bool.eq_false_iff:=@Bool.eq_false_iff
theorem MW:type_of% @Bool.eq_iff_iff:=@Bool.eq_iff_iff
theorem QL:type_of% @Bool.false_and:=@Bool.false_and
theorem Nr:type_of% @Bool.false_eq_true:=@Bool.false_eq_true
theorem Qg:type_of% @Bool.false_or:=@Bool.false_or
theorem Ox:type_of% @Bool.not_eq_true':=@Bool.not_eq_true'
theorem QD:type_of% @Bool.not_false:=@Bool.not_false
theorem QT:type_of% @Bool.not_true:=@Bool.not_true
theorem NX:type_of% @Bool.or_eq_true:=@Bool.or_eq_true
theorem PC:type_of% @Bool.or_eq_true_iff:=@Bool.or_eq_true_iff
theorem RK:type_of% @Bool.or_false:=@Bool.or_false
theorem OX:type_of% @Bool.true_and:=@Bool.true_and
theorem O4:type_of% @Iff.rfl:=@Iff.rfl
theorem QH:type_of% @Int.fdiv_eq_ediv_of_nonneg:=@Int.fdiv_eq_ediv_of_nonneg
theorem MN:type_of% @Int.natCast_nonneg:=@Int.natCast_nonneg
theorem Rg:type_of% @Int.not_lt:=@Int.not_lt
theorem QX:type_of% @Int.ofNat.inj:=@Int.ofNat.inj
theorem L4:type_of% @Int.ofNat_eq_natCast:=@Int.ofNat_eq_natCast
theorem Pf:type_of% @Int.ofNat_le:=@Int.ofNat_le
theorem RZ:type_of% @Int.ofNat_lt:=@Int.ofNat_lt
theorem Ql:type_of% @List.Pairwise.filter:=@List.Pairwise.filter
theorem QY:type_of% @List.Perm.eq_of_pairwise:=@List.Perm.eq_of_pairwise
theorem Rq:type_of% @List.Perm.refl:=@List.Perm.refl
theorem Md:type_of% @List.all_eq_true:=@List.all_eq_true
theorem Rk:type_of% @List.any_append:=@List.any_append
theorem O9:type_of% @List.any_eq_true:=@List.any_eq_true
theorem MC:type_of% @List.append_assoc:=@List.append_assoc
theorem P0:type_of% @List.append_eq_nil_iff:=@List.append_eq_nil_iff
theorem MZ:type_of% @List.append_nil:=@List.append_nil
theorem Qv:type_of% @List.append_toArray:=@List.append_toArray
theorem Qd:type_of% @List.cons_append:=@List.cons_append
theorem Ok:type_of% @List.contains_iff_mem:=@List.contains_iff_mem
theorem Py:type_of% @List.countP_cons:=@List.countP_cons
theorem RE:type_of% @List.countP_eq_zero:=@List.countP_eq_zero
theorem Pm:type_of% @List.countP_le_length:=@List.countP_le_length
theorem RC:type_of% @List.countP_pos_iff:=@List.countP_pos_iff
theorem QJ:type_of% @List.count_pos_iff:=@List.count_pos_iff
theorem Q2:type_of% @List.drop_append:=@List.drop_append
theorem QC:type_of% @List.drop_drop:=@List.drop_drop
theorem NL:type_of% @List.drop_eq_nil_of_le:=@List.drop_eq_nil_of_le
theorem Ri:type_of% @List.drop_left':=@List.drop_left'
theorem M0:type_of% @List.drop_zero:=@List.drop_zero
theorem Qf:type_of% @List.eq_nil_iff_forall_not_mem:=@List.eq_nil_iff_forall_not_mem
theorem M3:type_of% @List.eq_nil_of_length_eq_zero:=@List.eq_nil_of_length_eq_zero
theorem NY:type_of% @List.ext_getElem:=@List.ext_getElem
theorem MH:type_of% @List.ext_getElem?:=@List.ext_getElem?
theorem QM:type_of% @List.extract_eq_take_drop:=@List.extract_eq_take_drop
theorem Ns:type_of% @List.filter_append:=@List.filter_append
theorem Pa:type_of% @List.filter_cons:=@List.filter_cons
theorem RI:type_of% @List.filter_eq_self:=@List.filter_eq_self
theorem Qt:type_of% @List.filter_sublist:=@List.filter_sublist
theorem QN:type_of% @List.findIdx?_eq_none_iff:=@List.findIdx?_eq_none_iff
theorem OL:type_of% @List.findIdx?_eq_some_iff_getElem:=@List.findIdx?_eq_some_iff_getElem
theorem RF:type_of% @List.flatMap_append:=@List.flatMap_append
theorem PU:type_of% @List.flatMap_cons:=@List.flatMap_cons
theorem P4:type_of% @List.foldl_append:=@List.foldl_append
theorem N3:type_of% @List.foldl_cons:=@List.foldl_cons
theorem Of:type_of% @List.getD_eq_getElem?_getD:=@List.getD_eq_getElem?_getD
theorem Mb:type_of% @List.getElem?_append_left:=@List.getElem?_append_left
theorem Mg:type_of% @List.getElem?_append_right:=@List.getElem?_append_right
theorem M9:type_of% @List.getElem?_cons_succ:=@List.getElem?_cons_succ
theorem My:type_of% @List.getElem?_cons_zero:=@List.getElem?_cons_zero
theorem Nq:type_of% @List.getElem?_drop:=@List.getElem?_drop
theorem LU:type_of% @List.getElem?_eq_getElem:=@List.getElem?_eq_getElem
theorem Mk:type_of% @List.getElem?_eq_none:=@List.getElem?_eq_none
theorem PA:type_of% @List.getElem?_eq_none_iff:=@List.getElem?_eq_none_iff
theorem LX:type_of% @List.getElem?_eq_some_iff:=@List.getElem?_eq_some_iff
theorem L7:type_of% @List.getElem?_map:=@List.getElem?_map
theorem Nz:type_of% @List.getElem?_mapIdx:=@List.getElem?_mapIdx
theorem M1:type_of% @List.getElem?_of_mem:=@List.getElem?_of_mem
theorem M7:type_of% @List.getElem?_range:=@List.getElem?_range
theorem Mt:type_of% @List.getElem?_replicate:=@List.getElem?_replicate
theorem Mp:type_of% @List.getElem?_set:=@List.getElem?_set
theorem Pv:type_of% @List.getElem?_set_ne:=@List.getElem?_set_ne
theorem OD:type_of% @List.getElem?_set_self:=@List.getElem?_set_self
theorem MX:type_of% @List.getElem?_take:=@List.getElem?_take
theorem MR:type_of% @List.getElem?_toArray:=@List.getElem?_toArray
theorem Ol:type_of% @List.getElem?_zipWith:=@List.getElem?_zipWith
theorem Rc:type_of% @List.getElem_cons_drop:=@List.getElem_cons_drop
theorem OB:type_of% @List.getElem_mapIdx:=@List.getElem_mapIdx
theorem Nw:type_of% @List.getElem_mem:=@List.getElem_mem
theorem NH:type_of% @List.getElem_of_mem:=@List.getElem_of_mem
theorem RG:type_of% @List.getElem_zipIdx:=@List.getElem_zipIdx
theorem Pz:type_of% @List.getLast?_eq_some_iff:=@List.getLast?_eq_some_iff
theorem Rn:type_of% @List.head?_map:=@List.head?_map
theorem Ml:type_of% @List.length_append:=@List.length_append
theorem M8:type_of% @List.length_cons:=@List.length_cons
theorem No:type_of% @List.length_drop:=@List.length_drop
theorem P5:type_of% @List.length_eq_one_iff:=@List.length_eq_one_iff
theorem O7:type_of% @List.length_eq_zero_iff:=@List.length_eq_zero_iff
theorem QW:type_of% @List.length_erase_of_mem:=@List.length_erase_of_mem
theorem Nf:type_of% @List.length_filter_le:=@List.length_filter_le
theorem LZ:type_of% @List.length_map:=@List.length_map
theorem N4:type_of% @List.length_nil:=@List.length_nil
theorem RA:type_of% @List.length_pos_iff:=@List.length_pos_iff
theorem NO:type_of% @List.length_pos_of_mem:=@List.length_pos_of_mem
theorem M4:type_of% @List.length_range:=@List.length_range
theorem Mw:type_of% @List.length_replicate:=@List.length_replicate
theorem Nj:type_of% @List.length_set:=@List.length_set
theorem L6:type_of% @List.length_singleton:=@List.length_singleton
theorem L8:type_of% @List.length_take:=@List.length_take
theorem PD:type_of% @List.length_zipWith:=@List.length_zipWith
theorem MT:type_of% @List.map_append:=@List.map_append
theorem Og:type_of% @List.map_congr_left:=@List.map_congr_left
theorem MM:type_of% @List.map_cons:=@List.map_cons
theorem NT:type_of% @List.map_map:=@List.map_map
theorem ND:type_of% @List.map_nil:=@List.map_nil
theorem OK:type_of% @List.map_replicate:=@List.map_replicate
theorem Qy:type_of% @List.map_set:=@List.map_set
theorem MB:type_of% @List.mem_append:=@List.mem_append
theorem MA:type_of% @List.mem_append_left:=@List.mem_append_left
theorem Nd:type_of% @List.mem_append_right:=@List.mem_append_right
theorem MF:type_of% @List.mem_cons:=@List.mem_cons
theorem Ru:type_of% @List.mem_erase_of_ne:=@List.mem_erase_of_ne
theorem Nc:type_of% @List.mem_filter:=@List.mem_filter
theorem N8:type_of% @List.mem_flatMap:=@List.mem_flatMap
theorem MP:type_of% @List.mem_map:=@List.mem_map
theorem Qp:type_of% @List.mem_mapIdx:=@List.mem_mapIdx
theorem Qs:type_of% @List.mem_map_of_mem:=@List.mem_map_of_mem
theorem LS:type_of% @List.mem_of_getElem?:=@List.mem_of_getElem?
theorem Qh:type_of% @List.mem_of_mem_drop:=@List.mem_of_mem_drop
theorem OR:type_of% @List.mem_of_mem_take:=@List.mem_of_mem_take
theorem OM:type_of% @List.mem_or_eq_of_mem_set:=@List.mem_or_eq_of_mem_set
theorem Mx:type_of% @List.mem_range:=@List.mem_range
theorem Mm:type_of% @List.mem_singleton:=@List.mem_singleton
theorem Q4:type_of% @List.mem_toArray:=@List.mem_toArray
theorem OA:type_of% @List.mem_zipIdx_iff_getElem?:=@List.mem_zipIdx_iff_getElem?
theorem Qu:type_of% @List.mergeSort_perm:=@List.mergeSort_perm
theorem OO:type_of% @List.nil_append:=@List.nil_append
theorem Oy:type_of% @List.nodup_append:=@List.nodup_append
theorem Rj:type_of% @List.nodup_cons:=@List.nodup_cons
theorem Oq:type_of% @List.nodup_range:=@List.nodup_range
theorem Np:type_of% @List.not_mem_nil:=@List.not_mem_nil
theorem Pt:type_of% @List.pairwise_append:=@List.pairwise_append
theorem MU:type_of% @List.pairwise_cons:=@List.pairwise_cons
theorem Nv:type_of% @List.pairwise_iff_getElem:=@List.pairwise_iff_getElem
theorem OU:type_of% @List.pairwise_map:=@List.pairwise_map
theorem PS:type_of% @List.pairwise_mergeSort:=@List.pairwise_mergeSort
theorem Pc:type_of% @List.pairwise_singleton:=@List.pairwise_singleton
theorem Qa:type_of% @List.perm_append_comm:=@List.perm_append_comm
theorem OE:type_of% @List.perm_middle:=@List.perm_middle
theorem QR:type_of% @List.push_toArray:=@List.push_toArray
theorem Rr:type_of% @List.range'_append_1:=@List.range'_append_1
theorem Q5:type_of% @List.range'_succ:=@List.range'_succ
theorem OS:type_of% @List.range_eq_range':=@List.range_eq_range'
theorem N6:type_of% @List.range_succ:=@List.range_succ
theorem Rh:type_of% @List.range_succ_eq_map:=@List.range_succ_eq_map
theorem Qr:type_of% @List.replicate_succ:=@List.replicate_succ
theorem Rv:type_of% @List.replicate_succ':=@List.replicate_succ'
theorem Rm:type_of% @List.set_append_right:=@List.set_append_right
theorem QG:type_of% @List.set_cons_succ:=@List.set_cons_succ
theorem Oa:type_of% @List.set_eq_take_append_cons_drop:=@List.set_eq_take_append_cons_drop
theorem P9:type_of% @List.set_getElem_self:=@List.set_getElem_self
theorem Rf:type_of% @List.set_set:=@List.set_set
theorem PW:type_of% @List.size_toArray:=@List.size_toArray
theorem NA:type_of% @List.take_add_one:=@List.take_add_one
theorem Q3:type_of% @List.take_append:=@List.take_append
theorem Na:type_of% @List.take_append_drop:=@List.take_append_drop
theorem N0:type_of% @List.take_append_of_le_length:=@List.take_append_of_le_length
theorem Qo:type_of% @List.take_left':=@List.take_left'
theorem Ng:type_of% @List.take_length:=@List.take_length
theorem Mc:type_of% @List.take_of_length_le:=@List.take_of_length_le
theorem MK:type_of% @List.take_succ_eq_append_getElem:=@List.take_succ_eq_append_getElem
theorem QB:type_of% @List.take_zero:=@List.take_zero
theorem Pw:type_of% @List.zipIdx_cons:=@List.zipIdx_cons
theorem Nm:type_of% @Nat.add_assoc:=@Nat.add_assoc
theorem OQ:type_of% @Nat.add_comm:=@Nat.add_comm
theorem Nk:type_of% @Nat.add_mul:=@Nat.add_mul
theorem Q6:type_of% @Nat.add_sub_cancel_left:=@Nat.add_sub_cancel_left
theorem OP:type_of% @Nat.add_zero:=@Nat.add_zero
theorem Qe:type_of% @Nat.and_two_pow_sub_one_eq_mod:=@Nat.and_two_pow_sub_one_eq_mod
theorem Ra:type_of% @Nat.beq_refl:=@Nat.beq_refl
theorem Q1:type_of% @Nat.div_eq_of_lt:=@Nat.div_eq_of_lt
theorem Rl:type_of% @Nat.div_lt_iff_lt_mul:=@Nat.div_lt_iff_lt_mul
theorem M6:type_of% @Nat.eq_of_beq_eq_true:=@Nat.eq_of_beq_eq_true
theorem Mq:type_of% @Nat.le_of_ble_eq_true:=@Nat.le_of_ble_eq_true
theorem RT:type_of% @Nat.le_of_eq:=@Nat.le_of_eq
theorem MG:type_of% @Nat.le_of_lt:=@Nat.le_of_lt
theorem QZ:type_of% @Nat.le_of_not_lt:=@Nat.le_of_not_lt
theorem LV:type_of% @Nat.le_refl:=@Nat.le_refl
theorem NB:type_of% @Nat.le_succ:=@Nat.le_succ
theorem QQ:type_of% @Nat.le_succ_of_le:=@Nat.le_succ_of_le
theorem Mf:type_of% @Nat.le_trans:=@Nat.le_trans
theorem Ot:type_of% @Nat.lt_irrefl:=@Nat.lt_irrefl
theorem Mr:type_of% @Nat.lt_of_lt_of_le:=@Nat.lt_of_lt_of_le
theorem Oe:type_of% @Nat.lt_or_ge:=@Nat.lt_or_ge
theorem ML:type_of% @Nat.lt_succ_self:=@Nat.lt_succ_self
theorem RX:type_of% @Nat.lt_trans:=@Nat.lt_trans
theorem OT:type_of% @Nat.lt_trichotomy:=@Nat.lt_trichotomy
theorem Nb:type_of% @Nat.min_eq_left:=@Nat.min_eq_left
theorem NW:type_of% @Nat.min_le_left:=@Nat.min_le_left
theorem O8:type_of% @Nat.min_le_right:=@Nat.min_le_right
theorem R2:type_of% @Nat.min_self:=@Nat.min_self
theorem Om:type_of% @Nat.mod_eq_of_lt:=@Nat.mod_eq_of_lt
theorem NV:type_of% @Nat.mod_lt:=@Nat.mod_lt
theorem RU:type_of% @Nat.mul_comm:=@Nat.mul_comm
theorem MY:type_of% @Nat.mul_le_mul_right:=@Nat.mul_le_mul_right
theorem PQ:type_of% @Nat.mul_one:=@Nat.mul_one
theorem Q9:type_of% @Nat.ne_of_beq_eq_false:=@Nat.ne_of_beq_eq_false
theorem Mu:type_of% @Nat.not_lt_zero:=@Nat.not_lt_zero
theorem Oh:type_of% @Nat.one_mul:=@Nat.one_mul
theorem Qk:type_of% @Nat.pow_lt_pow_right:=@Nat.pow_lt_pow_right
theorem Nx:type_of% @Nat.sub_self:=@Nat.sub_self
theorem Ou:type_of% @Nat.sub_zero:=@Nat.sub_zero
theorem Qw:type_of% @Nat.succ_pos:=@Nat.succ_pos
theorem P8:type_of% @Nat.testBit_eq_decide_div_mod_eq:=@Nat.testBit_eq_decide_div_mod_eq
theorem RB:type_of% @Nat.testBit_two_pow:=@Nat.testBit_two_pow
theorem Qz:type_of% @Nat.testBit_two_pow_sub_one:=@Nat.testBit_two_pow_sub_one
theorem Nu:type_of% @Nat.zero_add:=@Nat.zero_add
theorem L1:type_of% @Nat.zero_le:=@Nat.zero_le
theorem Q7:type_of% @Nat.zero_mul:=@Nat.zero_mul
theorem NU:type_of% @Ne.symm:=@Ne.symm
theorem PR:type_of% @Option.bind_eq_some_iff:=@Option.bind_eq_some_iff
theorem Oo:type_of% @Option.bind_some:=@Option.bind_some
theorem NI:type_of% @Option.getD_some:=@Option.getD_some
theorem QV:type_of% @Option.isSome_iff_exists:=@Option.isSome_iff_exists
theorem Oi:type_of% @Option.map_none:=@Option.map_none
theorem MI:type_of% @Option.map_some:=@Option.map_some
theorem Ni:type_of% @Option.some.inj:=@Option.some.inj
theorem LR:type_of% @Option.some.injEq:=@Option.some.injEq
theorem QK:type_of% @Option.toList_some:=@Option.toList_some
theorem Mn:type_of% @Prod.mk.injEq:=@Prod.mk.injEq
theorem lbE{n m:Nat}(h:Nat.ble n m=true):n≤m:=Mq h
inductive Tr (α:Type) where
 |nil
 |node (l:Tr α) (v:Option α) (r:Tr α)
def Tr.get{α:Type}:Tr α->Nat->Option α
 |.nil,_=>none
 |.node l v r,n=>if n=0 then v else if n%2=1 then l.get (n/2) else r.get (n/2-1)
def Tr.vw{α:Type}:Nat->Tr α->Nat->α->Tr α
 |0,t,_,_=>t
 |f+1,.nil,n,x =>
  if n=0 then .node .nil (some x) .nil
  else if n%2=1 then .node (Tr.vw f .nil (n/2) x) none .nil else .node .nil none (Tr.vw f .nil (n/2-1) x)
 |f+1,.node l v r,n,x =>
  if n=0 then .node l (some x) r
  else if n%2=1 then .node (Tr.vw f l (n/2) x) v r else .node l v (Tr.vw f r (n/2-1) x)
def Tr.set{α:Type}(t:Tr α)(n:Nat)(x:α):Tr α:=Tr.vw (n+1) t n x
theorem Tr.oU{α:Type}:∀(f:Nat) (t:Tr α) (n:Nat) (x:α) (m:Nat),n<f->(Tr.vw f t n x).get m=if m=n then some x else t.get m
 |0,_,_,_,_,h=>by omega
 |f+1,.nil,n,x,m,h=>by
  unfold Tr.vw;by_cases hn:n=0
  .subst hn;by_cases hm:m=0
   .simp[Tr.get,hm]
   .simp[Tr.get,hm]
  .simp only[hn,if_false];by_cases ho:n%2=1
   .simp only[ho,if_true];unfold Tr.get;by_cases hm:m=0
    .have:¬ m=n:=by omega
     simp[hm];omega
    .simp only[hm,if_false];by_cases hmo:m%2=1
     .simp only[hmo,if_true];rw[Tr.oU f .nil (n/2) x (m/2) (by omega)];by_cases e:m=n
      .subst e;simp
      .have:¬ m/2=n/2:=by omega
       simp[e,this,Tr.get]
     .have e:¬ m=n:=by intro e;subst e;exact hmo ho
      simp[hmo,e,Tr.get]
   .simp only[ho,if_false];unfold Tr.get;by_cases hm:m=0
    .simp[hm];omega
    .simp only[hm,if_false];by_cases hmo:m%2=1
     .have e:¬ m=n:=by intro e;subst e;exact ho hmo
      simp[hmo,e,Tr.get]
     .simp only[hmo,if_false];rw[Tr.oU f .nil (n/2-1) x (m/2-1) (by omega)];by_cases e:m=n
      .subst e;simp
      .have:¬ m/2-1=n/2-1:=by omega
       simp[e,this,Tr.get]
 |f+1,.node l v r,n,x,m,h=>by
  unfold Tr.vw;by_cases hn:n=0
  .subst hn;by_cases hm:m=0
   .simp[Tr.get,hm]
   .simp[Tr.get,hm]
  .simp only[hn,if_false];by_cases ho:n%2=1
   .simp only[ho,if_true];unfold Tr.get;by_cases hm:m=0
    .have:¬ 0=n:=by omega
     simp[hm,this]
    .simp only[hm,if_false];by_cases hmo:m%2=1
     .simp only[hmo,if_true];rw[Tr.oU f l (n/2) x (m/2) (by omega)];by_cases e:m=n
      .subst e;simp
      .have:¬ m/2=n/2:=by omega
       simp[e,this]
     .have e:¬ m=n:=by intro e;subst e;exact hmo ho
      simp[hmo,e]
   .simp only[ho,if_false];unfold Tr.get;by_cases hm:m=0
    .have:¬ 0=n:=by omega
     simp[hm,this]
    .simp only[hm,if_false];by_cases hmo:m%2=1
     .have e:¬ m=n:=by intro e;subst e;exact ho hmo
      simp[hmo,e]
     .simp only[hmo,if_false];rw[Tr.oU f r (n/2-1) x (m/2-1) (by omega)];by_cases e:m=n
      .subst e;simp
      .have:¬ m/2-1=n/2-1:=by omega
       simp[e,this]
theorem Tr.dq{α:Type}(t:Tr α)(n:Nat)(x:α)(m:Nat):(t.set n x).get m=if m=n then some x else t.get m :=
 Tr.oU (n+1) t n x m (ML n)
structure Env where
 n:Nat
 t:Tr Value
 base:Nat->Value
def Env.get(e:Env)(i:Nat):Value :=
 match e.t.get i with
 |some v=>v
 |none=>e.base i
def Env.set(e:Env)(i:Nat)(v:Value):Env:={ n:=e.n,t:=e.t.set i v,base:=e.base }
def Env.put(e:Env)(d:Option Tmp)(v:Value):Env :=
 match d with
 |some i=>e.set i v
 |none=>e
theorem Env.dq(e:Env)(i:Nat)(v:Value)(j:Nat):(e.set i v).get j=if j=i then v else e.get j:=by
 unfold Env.get Env.set;simp only[Tr.dq];by_cases c:j=i
 .simp[c]
 .simp[c]
inductive AObj where
 |cells (cs:List Value) (ro:Bool)
 |map (es:List (Value×Value))
 |iter (s:ByteArray) (pos:Nat)
  |rng (g:Nat) (seen:List Nat) (n:Nat)
 |dead
structure Heap where
 size:Nat
 t:Tr AObj
 low:Nat
def Heap.get(h:Heap)(g:Nat):Option AObj:=if g<h.size then h.t.get g else none
def Heap.push(h:Heap)(o:AObj):Heap :=
 match h with
 |⟨n,t,l⟩=>⟨n+1,t.set n o,l⟩
def Heap.upd(h:Heap)(g:Nat)(o:AObj):Heap :=
 match h with
 |⟨n,t,l⟩=>⟨n,t.set g o,min l g⟩
theorem Heap.Gr(h:Heap)(o:AObj):h.push o={ size:=h.size+1,t:=h.t.set h.size o,low:=h.low }:=rfl
theorem Heap.Di(h:Heap)(g:Nat)(o:AObj):h.upd g o={ size:=h.size,t:=h.t.set g o,low:=min h.low g }:=rfl
theorem Heap.bq(h:Heap)(o:AObj)(g:Nat):(h.push o).get g=if g=h.size then some o else h.get g:=by
 rw[Heap.Gr];unfold Heap.get;simp only[Tr.dq];by_cases e:g=h.size
 .simp[e]
 .by_cases l:g<h.size
  .have:g<h.size+1:=by omega
   simp[e,l,this]
  .have:¬ g<h.size+1:=by omega
   simp[e,l,this]
theorem Heap.cc(h:Heap)(g:Nat)(o:AObj)(k:Nat)(hg:g<h.size):(h.upd g o).get k=if k=g then some o else h.get k:=by
 rw[Heap.Di];unfold Heap.get;simp only[Tr.dq];by_cases e:k=g
 .simp[e,hg]
 .simp[e]
theorem Heap.ai{h:Heap}{g:Nat}{o:AObj}(e:h.get g=some o):g<h.size:=by
 unfold Heap.get at e;by_cases l:g<h.size
 .exact l
 .simp[l] at e
def AObj.mut:AObj->Bool
 |.cells _ ro => !ro
 |.map _=>true
 |.iter _ _=>true
 |.rng .. => true
 |.dead=>false
def AObj.live:AObj->Bool
 |.dead=>false
 |_=>true
def Heap.mut(h:Heap)(g:Nat):Prop:=∃o,h.get g=some o/\o.mut=true
def Heap.live(h:Heap)(g:Nat):Prop:=∃o,h.get g=some o/\o.live=true
theorem Heap.mut.live{h:Heap}{g:Nat}(m:h.mut g):h.live g:=by
 obtain⟨o,h1,h2⟩:=m;exact⟨o,h1,by cases o <;> simp_all [AObj.mut,AObj.live]⟩
structure Loc where
 blk:Nat
 base:Nat
 tot:Nat
structure Inj where
 at_:Nat->Option Loc
 fz:Nat->Option (Array Value)
instance:CoeFun Inj (λ_=>Nat->Option Loc):=⟨Inj.at_⟩
structure Inj.Le (ι ι':Inj):Prop where
 at_:∀g l,ι g=some l->ι' g=some l
 fz:∀b C,ι.fz b=some C->ι'.fz b=some C
theorem Inj.Le.refl(ι:Inj):Inj.Le ι ι:=⟨λ_ _ e=>e,λ_ _ e=>e⟩
theorem Inj.Le.trans{ι ι' ι'':Inj}(a:Inj.Le ι ι')(b:Inj.Le ι' ι''):Inj.Le ι ι'':=⟨λg l e=>b.at_ g l (a.at_ g l e),λg l e=>b.fz g l (a.fz g l e)⟩
def cl(v:Value):List Value:=v.cells.toList
def ah(l:List Value):List Value:=l.flatMap cl
def FL(s:Nat)(es:List Value):Value:=.iface s (.tuple ⟨es⟩)
def FP(v:Value):Value:=.iface 0 (.agg #[v])
def FN(s:Nat)(es:List Value):Value:=.iface s (.iface 0 (.tuple ⟨es⟩))
def FC(s:Nat)(es:List Value):Value:=.iface s (.iface 1 (.tuple ⟨es⟩))
def FE:Value:=.iface 0 (.bool false)
inductive VRel (ι:Inj):Value->Value->Prop
 |bool (b:Bool):VRel ι (.bool b) (.bool b)
 |int (k:IntKind) (n:Int):VRel ι (.int k n) (.int k n)
 |str (s:ByteArray):VRel ι (.string s) (.string s)
 |ptrNil:VRel ι (.pointer none) (.pointer none)
 |ptr (g off:Nat) (l:Loc):ι g=some l->VRel ι (.pointer (some ⟨g,off,none⟩)) (.pointer (some ⟨l.blk,l.base+off,none⟩))
 |sliceNil:VRel ι (.slice none 0 0) (.slice none 0 0)
 |slice (g off len cap o:Nat) (l:Loc):ι g=some l->len<=cap->(cap≠0->o=l.base+off) ->
  VRel ι (.slice (some ⟨g,off,none⟩) len cap) (.slice (some ⟨l.blk,o,none⟩) len cap)
 |sliceOpen (g off s len cap cap' o:Nat) (l:Loc):ι g=some l->len<=cap->cap<=cap'->(cap≠0->o=l.base+off)->o+cap'*s<=l.tot ->
  VRel ι (.slice (some ⟨g,off,some s⟩) len cap) (.slice (some ⟨l.blk,o,none⟩) len cap')
 |mapNil:VRel ι (.map none) (.map none)
 |map (g:Nat) (l:Loc):ι g=some l->VRel ι (.map (some g)) (.map (some l.blk))
 |func (f:Fn) (a b a' b':Array Value):a.size=a'.size->b.size=b'.size->(∀i:Nat,VRel ι (a.getD i undef) (a'.getD i undef)) ->
  (∀i:Nat,VRel ι (b.getD i undef) (b'.getD i undef))->VRel ι (.func f a b) (.func f a' b')
 |nilFunc:VRel ι .nilFunc .nilFunc
 |nilIface:VRel ι .nilIface .nilIface
 |flNil (s:Nat):VRel ι (.iface s (.tuple ⟨[]⟩)) (.slice none 0 0)
 |flEmpty (s:Nat) (a:Addr) (cap:Nat):VRel ι (.iface s (.tuple ⟨[]⟩)) (.slice (some a) 0 cap)
 |fl (s:Nat) (es:List Value) (b o cap:Nat) (C:Array Value):ι.fz b=some C->es≠[]->es.length<=cap->(∀e∈es,(cl e).length=s)->o+es.length*s<=C.size ->
  (∀i,i<es.length*s->VRel ι ((ah es).getD i undef) (C.getD (o+i) undef))->VRel ι (.iface s (.tuple ⟨es⟩)) (.slice (some ⟨b,o,none⟩) es.length cap)
 |fnNil (s:Nat):VRel ι (.iface s (.iface 0 (.tuple ⟨[]⟩))) (.slice none 0 0)
 |fn (s:Nat) (es:List Value) (b o cap:Nat):es≠[]->VRel ι (.iface s (.tuple ⟨es⟩)) (.slice (some ⟨b,o,none⟩) es.length cap)->VRel ι (.iface s (.iface 0 (.tuple ⟨es⟩))) (.slice (some ⟨b,o,none⟩) es.length cap)
 |fcNil (s:Nat):VRel ι (.iface s (.iface 1 (.tuple ⟨[]⟩))) (.slice none 0 0)
 |fcEmpty (s:Nat) (a:Addr):VRel ι (.iface s (.iface 1 (.tuple ⟨[]⟩))) (.slice (some a) 0 0)
 |fc (s:Nat) (es:List Value) (b o:Nat):es≠[]->VRel ι (.iface s (.tuple ⟨es⟩)) (.slice (some ⟨b,o,none⟩) es.length es.length)->VRel ι (.iface s (.iface 1 (.tuple ⟨es⟩))) (.slice (some ⟨b,o,none⟩) es.length es.length)
 |fp (v:Value) (b o:Nat) (C:Array Value):ι.fz b=some C->o+(cl v).length<=C.size->(∀i,i<(cl v).length->VRel ι ((cl v).getD i undef) (C.getD (o+i) undef)) ->
  VRel ι (.iface 0 (.agg #[v])) (.pointer (some ⟨b,o,none⟩))
 |fe (a:Addr):VRel ι (.iface 0 (.bool false)) (.slice (some a) 0 0)
 |agg (a a':Array Value):a.size=a'.size->(∀i:Nat,VRel ι (a.getD i undef) (a'.getD i undef))->VRel ι (.agg a) (.agg a')
 |unit:VRel ι (.tuple #[]) (.tuple #[])
 |tuple (a a':Array Value):a.size=a'.size->(∀i:Nat,VRel ι (a.getD i undef) (a'.getD i undef))->VRel ι (.tuple a) (.tuple a')
theorem VRel.nothing(ι:Inj):VRel ι Go.undef Go.undef:=.unit
theorem VRel.mono{ι ι':Inj}(h:Inj.Le ι ι'){v v':Value}(r:VRel ι v v'):VRel ι' v v':=by
 induction r with
 |bool b=>exact .bool b
 |int k n=>exact .int k n
 |str s=>exact .str s
 |ptrNil=>exact .ptrNil
 |ptr g off l hl=>exact .ptr g off l (h.at_ _ _ hl)
 |sliceNil=>exact .sliceNil
 |slice g off len cap o l hl h1 h2=>exact .slice g off len cap o l (h.at_ _ _ hl) h1 h2
 |sliceOpen g off s len cap cap' o l hl h1 h2 h3 h4=>exact .sliceOpen g off s len cap cap' o l (h.at_ _ _ hl) h1 h2 h3 h4
 |mapNil=>exact .mapNil
 |map g l hl=>exact .map g l (h.at_ _ _ hl)
 |fnNil s=>exact .fnNil s
 |fn s es b o cap hne _ ih=>exact .fn s es b o cap hne ih
 |flNil s=>exact .flNil s
 |flEmpty s a cap=>exact .flEmpty s a cap
 |fcNil s=>exact .fcNil s
 |fcEmpty s a=>exact .fcEmpty s a
 |fc s es b o hne _ ih=>exact .fc s es b o hne ih
 |fl s es b o cap C h0 h1 h2 h3 h4 _ ih=>exact .fl s es b o cap C (h.fz _ _ h0) h1 h2 h3 h4 ih
 |fp v b o C h0 h1 _ ih=>exact .fp v b o C (h.fz _ _ h0) h1 ih
 |fe a=>exact .fe a
 |func f a b a' b' h1 h2 _ _ i1 i2=>exact .func f a b a' b' h1 h2 i1 i2
 |nilFunc=>exact .nilFunc
 |nilIface=>exact .nilIface
 |agg a a' h1 _ i1=>exact .agg a a' h1 i1
 |unit=>exact .unit
 |tuple a a' h1 _ i1=>exact .tuple a a' h1 i1
theorem VRel.DG{ι:Inj}{v v':Value}(r:VRel ι v v'):v'.oneCell'=v.oneCell':=by
 cases r <;> rfl
def iL(ι:Inj)(l:Loc):AObj->Option Obj->Prop
 |.cells cs ro,x=>∃C ty fr,x=some (.cells C ty fr)/\(ro=false->fr=(0,0))/\C.size=l.tot/\l.base+cs.length<=C.size /\
  ∀(i:Nat) (v:Value),cs[i]?=some v->∃v',C[l.base+i]?=some v'/\VRel ι v v'
 |.map es,x=>∃(E:Array MapEntry) (c:Nat),x=some (.map E c)/\l.base=0/\E.size=es.length /\
  (∀(i:Nat) (k v:Value),es[i]?=some (k,v)->∃m:MapEntry,E[i]?=some m/\VRel ι k m.key/\VRel ι v m.val)/\c=E.size/\∀(i:Nat) (m:MapEntry),E[i]?=some m->m.born=i
 |.iter s pos,x=>x=some (.stringIter s pos)/\l.base=0
 |.rng g seen n,x=>∃lg,ι g=some lg/\x=some (.mapIter (some lg.blk) n ⟨seen⟩ n)/\l.base=0
 |.dead,_=>True
theorem iL.mono{ι ι':Inj}(h:Inj.Le ι ι'){l:Loc}{o:AObj}{x:Option Obj}(r:iL ι l o x):iL ι' l o x:=by
 cases o with
 |cells cs ro =>
  obtain⟨C,ty,fr,h1,h2,h3,h4,h5⟩:=r;exact⟨C,ty,fr,h1,h2,h3,h4,λi v e=>let ⟨v',e',r⟩:=h5 i v e;⟨v',e',r.mono h⟩⟩
 |map es =>
  obtain⟨E,c,h1,h2,h3,h4,h5⟩:=r;exact⟨E,c,h1,h2,h3,λi k v e=>let ⟨m,e',r1,r2⟩:=h4 i k v e;⟨m,e',r1.mono h,r2.mono h⟩,h5⟩
 |iter s pos=>exact r
 |rng g seen n =>
  obtain⟨lg,h1,h2⟩:=r;exact⟨lg,h.at_ _ _ h1,h2⟩
 |dead=>trivial
structure HRel (N:Nat) (ι:Inj) (h:Heap) (w:World):Prop where
 dom:∀g l,ι g=some l->g<h.size
 blk:∀g l,ι g=some l->l.blk<w.heap.size
 glob:∀g,g<N->∃l,ι g=some l/\l.blk=g/\l.base=0
 obj:∀g l o,ι g=some l->h.get g=some o->iL ι l o w.heap[l.blk]?
 apart:∀g g' l l',ι g=some l->ι g'=some l'->g≠g'->h.mut g->h.live g'->l.blk≠l'.blk
 frz:∀b C,ι.fz b=some C->∃ty fr,w.heap[b]?=some (.cells C ty fr)
 fzap:∀b C g l,ι.fz b=some C->ι g=some l->h.mut g->l.blk≠b
 rofz:∀g l cs,ι g=some l->h.get g=some (.cells cs true)->∃C,ι.fz l.blk=some C
structure Step (N:Nat) (ι:Inj) (h:Heap) (w:World) (ι':Inj) (h':Heap) (w':World):Prop where
 dom:∀g l,ι g=some l->g<h.size
 size:h.size<=h'.size
 ext:Inj.Le ι ι'
 fresh:∀g l,ι' g=some l->ι g=none->h.size<=g
 own:∀g l,ι' g=some l->ι g=none->w.heap.size<=l.blk\/∃g0 l0,ι g0=some l0/\h.mut g0/\l0.blk=l.blk
 keep:∀g,g<h.size->h'.mut g->h.mut g
 keepl:∀g,g<h.size->h'.live g->h.live g
 wsize:w.heap.size<=w'.heap.size
 frame:∀b,b<w.heap.size->(∀g l,ι g=some l->h.mut g->l.blk≠b)->w'.heap[b]?=w.heap[b]?
 others:∀g,g<h.size->ι g=none->h'.get g=h.get g
 out:w'.output=w.output/\w'.os=w.os/\w'.tape=w.tape/\(N=0->w.drawn<=w'.drawn)
 fzown:∀b C,ι'.fz b=some C->ι.fz b=none->w.heap.size<=b\/∃g0 l0,ι g0=some l0/\l0.blk=b
theorem Step.refl{N:Nat}{ι:Inj}{h:Heap}(w:World)(dom:∀g l,ι g=some l->g<h.size):Step N ι h w ι h w where
 dom:=dom
 size:=LV _
 ext:=Inj.Le.refl ι
 fresh:=λg l e e'=>by rw[e'] at e;cases e
 own:=λg l e e'=>by rw[e'] at e;cases e
 keep:=λ_ _ m=>m
 keepl:=λ_ _ m=>m
 wsize:=LV _
 frame:=λ_ _ _=>rfl
 others:=λ_ _ _=>rfl
 out:=⟨rfl,rfl,rfl,λ_=>LV _⟩
 fzown:=λb C e e'=>by rw[e'] at e;cases e
theorem Step.AQ{N:Nat}{ι ι₁:Inj}{h h₁:Heap}{w w₁:World}(s:Step N ι h w ι₁ h₁ w₁){g:Nat}{l:Loc}(e:ι₁ g=some l)(m:h₁.mut g) :
  w.heap.size<=l.blk\/∃g0 l0,ι g0=some l0/\h.mut g0/\l0.blk=l.blk:=by
 cases e0:ι g with
 |none=>exact s.own g l e e0
 |some l0 =>
  have:=s.ext.at_ g l0 e0;rw[e] at this
  cases this
  exact .inr ⟨g,l,e0,s.keep g (s.dom g l e0) m,rfl⟩
theorem Step.trans{N:Nat}{ι ι₁ ι₂:Inj}{h h₁ h₂:Heap}{w w₁ w₂:World}(s:Step N ι h w ι₁ h₁ w₁)(t:Step N ι₁ h₁ w₁ ι₂ h₂ w₂):Step N ι h w ι₂ h₂ w₂ where
 dom:=s.dom
 size:=Mf s.size t.size
 ext:=s.ext.trans t.ext
 fresh:=λg l e e'=>by
  cases e1:ι₁ g with
  |none=>exact Mf s.size (t.fresh g l e e1)
  |some l1=>exact s.fresh g l1 e1 e'
 own:=λg l e e'=>by
  cases e1:ι₁ g with
  |none =>
   rcases t.own g l e e1 with h1|⟨g0,l0,h1,h2,h3⟩
   .exact .inl (Mf s.wsize h1)
   .rcases s.AQ h1 h2 with h4|⟨g1,l1,h4,h5,h6⟩
    .exact .inl (h3 ▸ h4)
    .exact .inr ⟨g1,l1,h4,h5,h6.trans h3⟩
  |some l1 =>
   have:=t.ext.at_ g l1 e1;rw[e] at this
   cases this
   exact s.own g l e1 e'
 keep:=λg hg m=>s.keep g hg (t.keep g (Mr hg s.size) m)
 keepl:=λg hg m=>s.keepl g hg (t.keepl g (Mr hg s.size) m)
 wsize:=Mf s.wsize t.wsize
 frame:=λb hb hn=>by
  rw[t.frame b (Mr hb s.wsize) (λg l e m=>?_),s.frame b hb hn]
  rcases s.AQ e m with h1|⟨g0,l0,h1,h2,h3⟩
  .omega
  .exact h3 ▸ hn g0 l0 h1 h2
 others:=λg hg e=>by
  have e1:ι₁ g=none:=by
   cases q:ι₁ g with
   |none=>rfl
   |some l=>have:=s.fresh g l q e;omega
  rw[t.others g (Mr hg s.size) e1,s.others g hg e]
 out:=⟨t.out.1.trans s.out.1,t.out.2.1.trans s.out.2.1,t.out.2.2.1.trans s.out.2.2.1,λz=>Mf (s.out.2.2.2 z) (t.out.2.2.2 z)⟩
 fzown:=λb C e e'=>by
  cases e1:ι₁.fz b with
  |some C1=>exact s.fzown b C1 e1 e'
  |none =>
   rcases t.fzown b C e e1 with h1|⟨g0,l0,h1,h2⟩
   .exact .inl (Mf s.wsize h1)
   .cases e2:ι g0 with
    |some l1 =>
     have:=s.ext.at_ g0 l1 e2;rw[h1] at this
     cases this
     exact .inr ⟨g0,l0,e2,h2⟩
    |none =>
     rcases s.own g0 l0 h1 e2 with h3|⟨g1,l1,h3,_,h4⟩
     .exact .inl (h2 ▸ h3)
     .exact .inr ⟨g1,l1,h3,h4.trans h2⟩
end Go.Abs
