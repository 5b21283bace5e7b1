/-
  Contracts and lemmas that the card needs, part 1.
-/
import Derived.WalkKit
import Derived.Deep.Quiet
import Derived.Laws.Append
import Derived.Laws.Slices
import Derived.Laws.AppendOwn
import Derived.Laws.BytesString
import Derived.Laws.StructEq
import Derived.Carry
import Derived.Lib.AppendZerosOnto
theorem Wa.{u}:type_of% @List.getElem?_eq_some_iff.{u}:=@List.getElem?_eq_some_iff
theorem Wb.{u}:type_of% @List.getElem?_append_left.{u}:=@List.getElem?_append_left
theorem Wc.{u}:type_of% @List.getElem?_eq_getElem.{u}:=@List.getElem?_eq_getElem
theorem Wd.{u}:type_of% @List.getElem?_set_ne.{u}:=@List.getElem?_set_ne
theorem We:type_of% @Nat.zero_le:=@Nat.zero_le
theorem Wf.{u,v}:type_of% @Option.map_eq_some_iff.{u,v}:=@Option.map_eq_some_iff
theorem Wg.{u}:type_of% @List.getElem?_append_right.{u}:=@List.getElem?_append_right
theorem Wh.{u}:type_of% @List.getElem?_set_self.{u}:=@List.getElem?_set_self
theorem Wi.{u}:type_of% @List.take_of_length_le.{u}:=@List.take_of_length_le
theorem Wj.{u,v}:type_of% @List.length_map.{u,v}:=@List.length_map
theorem Wl.{u,v}:type_of% @List.getElem?_map.{u,v}:=@List.getElem?_map
theorem Wm.{u}:type_of% @List.getElem_mem.{u}:=@List.getElem_mem
theorem Wn.{u}:type_of% @List.length_append.{u}:=@List.length_append
theorem Wo:type_of% @Nat.le_refl:=@Nat.le_refl
theorem Wp.{u}:type_of% @List.append_assoc.{u}:=@List.append_assoc
theorem Wq.{u}:type_of% @List.mem_of_getElem?.{u}:=@List.mem_of_getElem?
theorem Wr:type_of% @Bool.and_eq_true:=@Bool.and_eq_true
theorem Ws.{u}:type_of% @List.mem_append.{u}:=@List.mem_append
theorem Wt.{u}:type_of% @List.mem_singleton.{u}:=@List.mem_singleton
theorem Wu.{u}:type_of% @List.all_eq_true.{u}:=@List.all_eq_true
theorem Wv.{u}:type_of% @List.getD_eq_getElem?_getD.{u}:=@List.getD_eq_getElem?_getD
theorem Ww.{u,v}:type_of% @List.mem_map.{u,v}:=@List.mem_map
theorem Wx:type_of% @decide_eq_true_eq:=@decide_eq_true_eq
theorem Wy.{u}:type_of% @List.length_set.{u}:=@List.length_set
theorem Wz.{u}:type_of% @if_pos.{u}:=@if_pos
theorem WA.{u}:type_of% @List.getElem?_of_mem.{u}:=@List.getElem?_of_mem
theorem WB.{u}:type_of% @if_neg.{u}:=@if_neg
theorem WC.{u}:type_of% @List.length_cons.{u}:=@List.length_cons
theorem WD.{u}:type_of% @List.length_take.{u}:=@List.length_take
theorem WE.{u}:type_of% @List.mem_cons.{u}:=@List.mem_cons
theorem WF.{u,v}:type_of% @List.map_append.{u,v}:=@List.map_append
theorem WG.{u}:type_of% @List.nodup_append.{u}:=@List.nodup_append
theorem WH.{u,v}:type_of% @List.getElem?_mapIdx.{u,v}:=@List.getElem?_mapIdx
theorem WI.{u}:type_of% @List.append_nil.{u}:=@List.append_nil
theorem WJ.{u,v}:type_of% @List.map_cons.{u,v}:=@List.map_cons
theorem WK.{u,v}:type_of% @List.map_eq_nil_iff.{u,v}:=@List.map_eq_nil_iff
theorem WL.{u}:type_of% @List.length_nil.{u}:=@List.length_nil
theorem WM.{u}:type_of% @List.mem_filter.{u}:=@List.mem_filter
theorem WN:type_of% @Nat.lt_of_lt_of_le:=@Nat.lt_of_lt_of_le
theorem WO.{u}:type_of% @Option.some.injEq.{u}:=@Option.some.injEq
theorem WP:type_of% @Nat.add_sub_cancel_left:=@Nat.add_sub_cancel_left
theorem WQ.{u}:type_of% @List.take_add_one.{u}:=@List.take_add_one
theorem WR.{u}:type_of% @List.nodup_cons.{u}:=@List.nodup_cons
theorem WS.{u}:type_of% @List.getElem?_eq_none.{u}:=@List.getElem?_eq_none
theorem WT.{u}:type_of% @List.ext_getElem?.{u}:=@List.ext_getElem?
theorem WU.{u}:type_of% @Array.getElem?_eq_some_iff.{u}:=@Array.getElem?_eq_some_iff
theorem WV:type_of% @Nat.zero_add:=@Nat.zero_add
theorem WW.{u}:type_of% @Array.getElem?_eq_getElem.{u}:=@Array.getElem?_eq_getElem
theorem WX.{u}:type_of% @List.flatten_cons.{u}:=@List.flatten_cons
theorem WY.{u,v}:type_of% @List.map_congr_left.{u,v}:=@List.map_congr_left
theorem WZ.{u}:type_of% @List.getElem?_drop.{u}:=@List.getElem?_drop
theorem Xa.{u}:type_of% @List.drop_eq_getElem_cons.{u}:=@List.drop_eq_getElem_cons
theorem Xb.{u}:type_of% @List.mem_cons_of_mem.{u}:=@List.mem_cons_of_mem
theorem Xc.{u,v}:type_of% @Prod.mk.injEq.{u,v}:=@Prod.mk.injEq
theorem Xd:type_of% @Nat.sub_self:=@Nat.sub_self
theorem Xe.{u}:type_of% @List.findIdx?_eq_some_iff_getElem.{u}:=@List.findIdx?_eq_some_iff_getElem
theorem Xf.{u}:type_of% @List.length_singleton.{u}:=@List.length_singleton
theorem Xg.{u}:type_of% @Array.getD_eq_getD_getElem?.{u}:=@Array.getD_eq_getD_getElem?
theorem Xh:type_of% @Nat.lt_or_ge:=@Nat.lt_or_ge
theorem Xi.{u}:type_of% @List.getElem?_replicate.{u}:=@List.getElem?_replicate
theorem Xj.{u}:type_of% @List.nil_append.{u}:=@List.nil_append
theorem Xk.{u}:type_of% @List.length_filter_le.{u}:=@List.length_filter_le
theorem Xl.{u}:type_of% @List.set_getElem_self.{u}:=@List.set_getElem_self
theorem Xm.{u}:type_of% @List.take_length.{u}:=@List.take_length
theorem Xn:type_of% @List.mem_range:=@List.mem_range
theorem Xo.{u}:type_of% @List.getElem?_take.{u}:=@List.getElem?_take
theorem Xp.{u}:type_of% @List.mem_of_mem_take.{u}:=@List.mem_of_mem_take
theorem Xq:type_of% @List.length_range:=@List.length_range
theorem Xr.{u}:type_of% @List.eq_nil_of_length_eq_zero.{u}:=@List.eq_nil_of_length_eq_zero
theorem Xs.{u}:type_of% @List.length_replicate.{u}:=@List.length_replicate
theorem Xt.{u}:type_of% @List.cons_append.{u}:=@List.cons_append
theorem Xu.{u}:type_of% @List.getElem?_set.{u}:=@List.getElem?_set
theorem Xv.{u}:type_of% @Array.getElem?_push.{u}:=@Array.getElem?_push
theorem Xw:type_of% @Nat.le_trans:=@Nat.le_trans
theorem Xx.{u,v}:type_of% @Option.map_some.{u,v}:=@Option.map_some
theorem Xy.{u}:type_of% @List.set_append_right.{u}:=@List.set_append_right
theorem Xz:type_of% @Nat.add_mul:=@Nat.add_mul
theorem XA:type_of% @Bool.or_eq_true:=@Bool.or_eq_true
theorem XB.{u}:type_of% @Array.getElem?_setIfInBounds_ne.{u}:=@Array.getElem?_setIfInBounds_ne
theorem XC.{u}:type_of% @List.sum_cons.{u}:=@List.sum_cons
theorem XD.{u}:type_of% @List.findIdx?_eq_none_iff.{u}:=@List.findIdx?_eq_none_iff
theorem XE.{u}:type_of% @Array.getElem?_modify.{u}:=@Array.getElem?_modify
theorem XF:type_of% @Int.toNat_natCast:=@Int.toNat_natCast
theorem XG.{u,v}:type_of% @Option.bind_eq_some_iff.{u,v}:=@Option.bind_eq_some_iff
theorem XH.{u}:type_of% @List.take_append_drop.{u}:=@List.take_append_drop
theorem XI.{u}:type_of% @List.getElem?_append.{u}:=@List.getElem?_append
theorem XJ:type_of% @Nat.mul_le_mul_right:=@Nat.mul_le_mul_right
theorem XK:type_of% @Nat.min_eq_left:=@Nat.min_eq_left
theorem XL.{u}:type_of% @List.mem_replicate.{u}:=@List.mem_replicate
theorem XM:type_of% @Int.tmod_eq_emod_of_nonneg:=@Int.tmod_eq_emod_of_nonneg
theorem XN.{u,v}:type_of% @List.length_mapIdx.{u,v}:=@List.length_mapIdx
theorem XP.{u}:type_of% @List.getElem?_cons_zero.{u}:=@List.getElem?_cons_zero
theorem XQ.{u}:type_of% @List.length_eq_zero_iff.{u}:=@List.length_eq_zero_iff
theorem XR:type_of% @Nat.add_assoc:=@Nat.add_assoc
theorem XS.{u}:type_of% @List.flatten_append.{u}:=@List.flatten_append
theorem XT.{u}:type_of% @List.replicate_succ.{u}:=@List.replicate_succ
theorem XU.{u}:type_of% @List.mem_or_eq_of_mem_set.{u}:=@List.mem_or_eq_of_mem_set
theorem XV.{u}:type_of% @List.mem_take_iff_getElem.{u}:=@List.mem_take_iff_getElem
theorem XW.{u}:type_of% @List.mem_zipIdx_iff_getElem?.{u}:=@List.mem_zipIdx_iff_getElem?
theorem XX.{u,v}:type_of% @List.map_take.{u,v}:=@List.map_take
theorem XY.{u}:type_of% @List.set_cons_zero.{u}:=@List.set_cons_zero
theorem XZ.{u}:type_of% @Array.getElem?_toList.{u}:=@Array.getElem?_toList
theorem Ya.{u}:type_of% @List.getElem?_cons_succ.{u}:=@List.getElem?_cons_succ
theorem Yb.{u}:type_of% @Option.getD_some.{u}:=@Option.getD_some
theorem Yc.{u}:type_of% @List.take_zero.{u}:=@List.take_zero
theorem Yd.{u}:type_of% @List.pairwise_iff_getElem.{u}:=@List.pairwise_iff_getElem
theorem Ye:type_of% @Bool.false_eq_true:=@Bool.false_eq_true
theorem Yf.{u}:type_of% @List.set_set.{u}:=@List.set_set
theorem Yg:type_of% @Bool.eq_iff_iff:=@Bool.eq_iff_iff
theorem Yh.{u}:type_of% @List.cons.injEq.{u}:=@List.cons.injEq
theorem Yi.{u}:type_of% @List.contains_iff_mem.{u}:=@List.contains_iff_mem
theorem Yj.{u}:type_of% @List.mem_cons_self.{u}:=@List.mem_cons_self
theorem Yk.{u}:type_of% @List.nodup_nil.{u}:=@List.nodup_nil
theorem Yl.{u}:type_of% @List.filter_append.{u}:=@List.filter_append
theorem Ym.{u,v}:type_of% @List.map_set.{u,v}:=@List.map_set
theorem Yn.{u}:type_of% @List.length_eq_one_iff.{u}:=@List.length_eq_one_iff
theorem Yo.{u,v}:type_of% @List.getElem?_zip_eq_some.{u,v}:=@List.getElem?_zip_eq_some
theorem Yp.{u}:type_of% @List.all_eq_false.{u}:=@List.all_eq_false
theorem Yq:type_of% @Nat.add_zero:=@Nat.add_zero
theorem Yr.{u}:type_of% @Array.getElem?_eq_none.{u}:=@Array.getElem?_eq_none
theorem Ys.{u}:type_of% @List.nodup_iff_pairwise_ne.{u}:=@List.nodup_iff_pairwise_ne
theorem Yt.{u}:type_of% @List.mem_flatten.{u}:=@List.mem_flatten
theorem Yu.{u,v,w}:type_of% @List.map_map.{u,v,w}:=@List.map_map
theorem Yw:type_of% @Bool.and_false:=@Bool.and_false
theorem Yx:type_of% @Bool.not_eq_true':=@Bool.not_eq_true'
theorem Yy.{u,v}:type_of% @List.foldl_cons.{u,v}:=@List.foldl_cons
theorem Yz:type_of% @List.range_succ:=@List.range_succ
theorem YA.{u}:type_of% @Array.length_toList.{u}:=@Array.length_toList
theorem YB.{u}:type_of% @List.getElem_of_mem.{u}:=@List.getElem_of_mem
theorem YC.{u,v}:type_of% @Option.bind_some.{u,v}:=@Option.bind_some
theorem YD:type_of% @Nat.lt_trichotomy:=@Nat.lt_trichotomy
theorem YE.{u}:type_of% @List.mem_of_mem_drop.{u}:=@List.mem_of_mem_drop
theorem YF:type_of% @Nat.mul_comm:=@Nat.mul_comm
theorem YG.{u}:type_of% @List.filter_congr.{u}:=@List.filter_congr
theorem YH.{u}:type_of% @List.set_eq_of_length_le.{u}:=@List.set_eq_of_length_le
theorem YI.{u}:type_of% @List.getElem?_take_of_lt.{u}:=@List.getElem?_take_of_lt
theorem YJ:type_of% @List.getElem?_range:=@List.getElem?_range
theorem YK:type_of% @Nat.lt_succ_self:=@Nat.lt_succ_self
theorem YL.{u}:type_of% @List.set_cons_succ.{u}:=@List.set_cons_succ
theorem YM.{u}:type_of% @List.mem_append_right.{u}:=@List.mem_append_right
theorem YN.{u,v}:type_of% @List.pairwise_map.{u,v}:=@List.pairwise_map
theorem YP.{u}:type_of% @Array.getElem?_append_left.{u}:=@Array.getElem?_append_left
theorem YQ:type_of% @List.range_eq_range':=@List.range_eq_range'
theorem YR.{u}:type_of% @List.mem_reverse.{u}:=@List.mem_reverse
theorem YS.{u}:type_of% @List.length_pos_iff.{u}:=@List.length_pos_iff
theorem YT.{u}:type_of% @Option.isSome_iff_exists.{u}:=@Option.isSome_iff_exists
theorem YU.{u}:type_of% @Array.setIfInBounds_comm.{u}:=@Array.setIfInBounds_comm
theorem YV.{u}:type_of% @List.sum_append.{u}:=@List.sum_append
theorem YW.{u,v}:type_of% @List.filter_map.{u,v}:=@List.filter_map
theorem YX.{u,v}:type_of% @List.length_zip.{u,v}:=@List.length_zip
theorem YY:type_of% @Nat.eq_zero_or_pos:=@Nat.eq_zero_or_pos
theorem YZ.{u}:type_of% @List.zipIdx_append.{u}:=@List.zipIdx_append
theorem Za.{u}:type_of% @List.getElem_idxOf.{u}:=@List.getElem_idxOf
theorem Zb:type_of% @Nat.one_mul:=@Nat.one_mul
theorem Zc.{u}:type_of% @List.all_eq_not_any_not.{u}:=@List.all_eq_not_any_not
theorem Zd.{u,v,w}:type_of% @List.mapM_cons.{u,v,w}:=@List.mapM_cons
theorem Ze.{u}:type_of% @List.drop_of_length_le.{u}:=@List.drop_of_length_le
theorem Zf.{u,v}:type_of% @List.foldl_append.{u,v}:=@List.foldl_append
theorem Zg.{u,v}:type_of% @List.flatMap_cons.{u,v}:=@List.flatMap_cons
theorem Zh.{u}:type_of% @List.drop_zero.{u}:=@List.drop_zero
theorem Zi.{u}:type_of% @List.not_mem_nil.{u}:=@List.not_mem_nil
theorem Zj.{u,v}:type_of% @List.map_flatten.{u,v}:=@List.map_flatten
theorem Zk.{u}:type_of% @List.filter_cons.{u}:=@List.filter_cons
theorem Zl:type_of% @List.nodup_range:=@List.nodup_range
theorem Zm:type_of% @Bool.not_eq_true:=@Bool.not_eq_true
theorem Zn:type_of% @Nat.le_add_right:=@Nat.le_add_right
theorem Zo.{u}:type_of% @List.mem_append_left.{u}:=@List.mem_append_left
theorem Zp.{u}:type_of% @List.mem_iff_getElem.{u}:=@List.mem_iff_getElem
theorem Zq.{u}:type_of% @List.set_append_left.{u}:=@List.set_append_left
theorem Zr:type_of% @Nat.div_add_mod:=@Nat.div_add_mod
theorem Zs:type_of% @Nat.not_lt_zero:=@Nat.not_lt_zero
theorem Zt.{u}:type_of% @List.take_succ_cons.{u}:=@List.take_succ_cons
theorem Zu.{u}:type_of% @List.reverse_append.{u}:=@List.reverse_append
theorem Zv.{u}:type_of% @List.length_reverse.{u}:=@List.length_reverse
theorem Zw.{u,v}:type_of% @List.mem_map_of_mem.{u,v}:=@List.mem_map_of_mem
theorem Zx:type_of% @Nat.pos_of_ne_zero:=@Nat.pos_of_ne_zero
theorem Zy:type_of% @Nat.mod_lt:=@Nat.mod_lt
theorem Zz.{u}:type_of% @List.pairwise_cons.{u}:=@List.pairwise_cons
theorem ZA.{u}:type_of% @List.append_of_mem.{u}:=@List.append_of_mem
theorem ZB:type_of% @Int.natCast_nonneg:=@Int.natCast_nonneg
theorem ZC.{u,v}:type_of% @List.zip_cons_cons.{u,v}:=@List.zip_cons_cons
theorem ZD.{u}:type_of% @Array.size_append.{u}:=@Array.size_append
theorem ZE.{u}:type_of% @List.size_toArray.{u}:=@List.size_toArray
theorem ZF.{u}:type_of% @List.reverse_cons.{u}:=@List.reverse_cons
theorem ZG.{u}:type_of% @List.zipIdx_cons.{u}:=@List.zipIdx_cons
theorem ZH.{u}:type_of% @List.length_drop.{u}:=@List.length_drop
theorem ZI.{u,v}:type_of% @List.mem_flatMap.{u,v}:=@List.mem_flatMap
theorem ZJ:type_of% @Int.ediv_le_self:=@Int.ediv_le_self
theorem ZK:type_of% @Nat.sub_zero:=@Nat.sub_zero
theorem ZL:type_of% @Nat.zero_mul:=@Nat.zero_mul
theorem ZM.{u,v}:type_of% @List.map_nil.{u,v}:=@List.map_nil
theorem ZN:type_of% @Nat.mul_ne_zero:=@Nat.mul_ne_zero
theorem ZO:type_of% @Int.ediv_nonneg:=@Int.ediv_nonneg
theorem ZP.{u}:type_of% @List.take_left'.{u}:=@List.take_left'
theorem ZQ.{u}:type_of% @List.find?_cons.{u}:=@List.find?_cons
theorem ZR:type_of% @Bool.false_and:=@Bool.false_and
theorem ZS.{u,v}:type_of% @List.foldl_nil.{u,v}:=@List.foldl_nil
theorem ZT:type_of% @Bool.false_or:=@Bool.false_or
theorem ZU:type_of% @Bool.true_and:=@Bool.true_and
theorem ZV.{u,v}:type_of% @List.map_drop.{u,v}:=@List.map_drop
namespace Go.Aw
def _root_.Go.Value.oneC:Value->Bool
 | .agg _| .tuple _=>false
 |_=>true
inductive PV where
 |bool (b:Bool)
 |int (k:IntKind) (n:Int)
 |str (s:List UInt8)
 |lst (sz:Nat) (es:List (List PV))
 |tbl (ks:List PV) (vs:List (List PV))
 |pair (a b:Int)
def dp:PV->Nat
 | .int _ _=>0
 | .str _=>1
 | .bool _=>2
 | .lst _ _=>3
 | .tbl _ _=>4
 | .pair _ _=>5
def oB:PV->Option Value
 | .bool b=>some (.bool b)
 | .int k n=>some (.int k n)
 | .str s=>some (.string ⟨⟨s⟩⟩)
 | .pair a b=>some (.agg #[.int .i64 a,.int .i64 b])
 |_=>none
def Ez(n:Nat)(f:Nat->Value):Value:=if n=1 then f 0 else .agg ((List.range n).map f).toArray
instance:Inhabited PV:=⟨.bool false⟩
inductive PRel (W:World) (S:Nat->Prop):PV->Value->Prop where
 |bool (b:Bool):PRel W S (.bool b) (.bool b)
 |int (k:IntKind) (n:Int):PRel W S (.int k n) (.int k n)
 |str (s:List UInt8):PRel W S (.str s) (.string ⟨⟨s⟩⟩)
 |lst0 (sz:Nat) (a:Option Addr) (cap:Nat):PRel W S (.lst sz []) (.slice a 0 cap)
 |lst (sz:Nat) (es:List (List PV)) (b off cap:Nat) (vs:Nat->Value):S b->(∀e∈es,e.length=sz)->es.length<=cap->
   (∀j c,es.flatten[j]?=some c->W.cell? ⟨b,off+j,none⟩=some (vs j))->
   (∀j c,es.flatten[j]?=some c->PRel W S c (vs j))->PRel W S (.lst sz es) (.slice (some ⟨b,off,none⟩) es.length cap)
 |tbl (ks:List PV) (vs:List (List PV)) (b clock:Nat) (ents:Array MapEntry) (cv:Nat->Nat->Value):S b->W.heap[b]?=some (.map ents clock)->vs.length=ks.length->
   (∀(j:Nat) (k:PV) (cs:List PV),ks[j]?=some k->vs[j]?=some cs->∃(i:Nat) (e:MapEntry),ents[i]?=some e/\oB k=some e.key/\e.val=Ez cs.length (cv j))->
   (∀(i:Nat) (e:MapEntry),ents[i]?=some e->∃k∈ks,oB k=some e.key)->
   (∀(i i':Nat) (e e':MapEntry),ents[i]?=some e->ents[i']?=some e'->e.key=e'.key->i=i')->
   (∀(j i:Nat) (cs:List PV) (c:PV),vs[j]?=some cs->cs[i]?=some c->PRel W S c (cv j i))->PRel W S (.tbl ks vs) (.map (some b))
theorem aJ{W W':World}{b:Nat}(h:W'.heap[b]?=W.heap[b]?)(off:Nat):W'.cell? ⟨b,off,none⟩=W.cell? ⟨b,off,none⟩:=by simp only[World.cell?,h]
theorem PRel.mono{W W':World}{S S':Nat->Prop}(hS:∀b,S b->S' b/\W'.heap[b]?=W.heap[b]?){pv:PV}{v:Value}(h:PRel W S pv v):PRel W' S' pv v:=by
 induction h with
 |bool b=>exact .bool b
 |int k n=>exact .int k n
 |str s=>exact .str s
 |lst0 sz a cap=>exact .lst0 sz a cap
 |lst sz es b off cap vs hb hsz hcap hc _ ih=>exact .lst sz es b off cap vs (hS b hb).1 hsz hcap (λj c hj=>by rw[aJ (hS b hb).2];exact hc j c hj) ih
 |tbl ks vs b clock ents cv hb hm hl h1 h2 h3 _ ih=>exact .tbl ks vs b clock ents cv (hS b hb).1 (by rw[(hS b hb).2];exact hm) hl h1 h2 h3 ih
theorem PRel.oneCell{W:World}{S:Nat->Prop}{pv:PV}{v:Value}(h:PRel W S pv v):v.oneC=true:=by cases h<;>rfl
inductive AV where
 |p (v:PV)
 |agg (cs:List AV)
 |tup (cs:List AV)
 |ptr (id esz i off:Nat)
 |sl (id esz off len:Nat)
 |eptr (e:List PV) (off:Nat)
 |gp (g off:Nat)
 |fn (f:Fn) (caps:List AV)
 |nils|nilp|nilf|nilm|nili
 |ifc (t:TypeId) (v:PV)
 |mp (id:Nat)
 |it (id:Nat)
 |any
instance:Inhabited AV:=⟨.any⟩
def AV.isCell:AV->Bool
 | .agg _| .tup _| .any=>false
 |_=>true
def AV.cells:AV->List AV
 | .agg cs=>cs
 |v=>[v]
inductive AO where
 |row (sz:Nat) (es:List (List AV))
 |mp (es:List (PV × AV))
 |sit (s:List UInt8) (pos:Nat)
 |dead
def AO.live:AO->Prop
 | .dead=>False
 |_=>True
def Live(h:List AO)(id:Nat):Prop:=∃o,h[id]?=some o/\o.live
theorem bc{h:List AO}{id sz:Nat}{es:List (List AV)}(e:h[id]?=some (.row sz es)):Live h id:=⟨_,e,trivial⟩
theorem rq{h:List AO}{id:Nat}{es:List (PV × AV)}(e:h[id]?=some (.mp es)):Live h id:=⟨_,e,trivial⟩
theorem AF{h:List AO}{id:Nat}{s:List UInt8}{pos:Nat}(e:h[id]?=some (.sit s pos)):Live h id:=⟨_,e,trivial⟩
theorem aN{id:Nat}:¬Live [] id:=λ⟨o,e,_⟩=>by simp at e
theorem Live.lt{h:List AO}{id:Nat}(l:Live h id):id<h.length:=by
 obtain⟨o,e,_⟩:=l;exact(Wa.1 e).1
def MRel(R:AV->Value->Prop)(es:List (PV × AV))(ents:Array MapEntry)(clock:Nat):Prop:=
 ents.size=es.length/\(∀(j:Nat) (k:PV) (a:AV),es[j]?=some (k,a)->∃e,ents[j]?=some e/\oB k=some e.key/\R a e.val)/\
 (∀(j:Nat) (e:MapEntry),ents[j]?=some e->e.born<clock)/\∀(i j:Nat) (e e':MapEntry),ents[i]?=some e->ents[j]?=some e'->e.born=e'.born->i=j
theorem MRel.mono{R R':AV->Value->Prop}{es:List (PV × AV)}{ents:Array MapEntry}{clock:Nat}(hr:∀a v,R a v->R' a v)(h:MRel R es ents clock):MRel R' es ents clock:=
 ⟨h.1,λj k a e=>by obtain⟨x,h1,h2,h3⟩:=h.2.1 j k a e;exact⟨x,h1,h2,hr _ _ h3⟩,h.2.2⟩
def ORel(R:AV->Value->Prop):AO->Option Obj->Prop
 | .mp es,x=>∃ents clock,x=some (.map ents clock)/\MRel R es ents clock
 | .sit s pos,x=>x=some (.stringIter ⟨⟨s⟩⟩ pos)
 |_,_=>True
theorem ORel.mono{R R':AV->Value->Prop}(hr:∀a v,R a v->R' a v):∀{o:AO} {x:Option Obj},ORel R o x->ORel R' o x
 | .mp _,_,⟨ents,clock,h1,h2⟩=>⟨ents,clock,h1,h2.mono hr⟩
 | .sit _ _,_,h=>h
 | .row _ _,_,_=>trivial
 | .dead,_,_=>trivial
abbrev Place:=Nat->Nat × Nat
inductive VRel (W:World) (S:Nat->Prop) (φ:Place) (n:Nat):AV->Value->Prop where
 |p (pv:PV) (x:Value):PRel W S pv x->VRel W S φ n (.p pv) x
 |agg (cs:List AV) (vs:Array Value):vs.size=cs.length->(∀(j:Nat) (c:AV) (v:Value),cs[j]?=some c->vs[j]?=some v->VRel W S φ n c v)->VRel W S φ n (.agg cs) (.agg vs)
 |tup (cs:List AV) (vs:Array Value):vs.size=cs.length->(∀(j:Nat) (c:AV) (v:Value),cs[j]?=some c->vs[j]?=some v->VRel W S φ n c v)->VRel W S φ n (.tup cs) (.tuple vs)
 |ptr (id esz i off:Nat):id<n->VRel W S φ n (.ptr id esz i off) (.pointer (some ⟨(φ id).1,(φ id).2+(i*esz+off),none⟩))
 |sl (id esz off len cap:Nat) (ba:Option Addr):id<n->len<=cap->(0<cap->ba=some ⟨(φ id).1,(φ id).2+off*esz,none⟩)->
   (∀c t fr,W.heap[(φ id).1]?=some (.cells c t fr)->(φ id).2+(off+cap)*esz<=c.size)->VRel W S φ n (.sl id esz off len) (.slice ba len cap)
 |eptr (e:List PV) (off b o:Nat):S b->(∀j c,e[j]?=some c->∃v,W.cell? ⟨b,o+j,none⟩=some v/\PRel W S c v)->
   VRel W S φ n (.eptr e off) (.pointer (some ⟨b,o+off,none⟩))
 |gp (g off:Nat):VRel W S φ n (.gp g off) (.pointer (some ⟨g,off,none⟩))
 |fn (f:Fn) (caps:List AV) (vs:Array Value):vs.size=caps.length->(∀(j:Nat) (c:AV) (v:Value),caps[j]?=some c->vs[j]?=some v->VRel W S φ n c v)->VRel W S φ n (.fn f caps) (.func f #[] vs)
 |nils:VRel W S φ n .nils (.slice none 0 0)
 |nilp:VRel W S φ n .nilp (.pointer none)
 |nilf:VRel W S φ n .nilf .nilFunc
 |nilm:VRel W S φ n .nilm (.map none)
 |nili:VRel W S φ n .nili .nilIface
 |ifc (t:TypeId) (pv:PV) (x:Value):PRel W S pv x->VRel W S φ n (.ifc t pv) (.iface t x)
 |mp (id:Nat):id<n->VRel W S φ n (.mp id) (.map (some (φ id).1))
 |it (id:Nat):id<n->VRel W S φ n (.it id) (.pointer (some ⟨(φ id).1,0,none⟩))
 |any (x:Value):VRel W S φ n .any x
theorem VRel.oneCell{W:World}{S:Nat->Prop}{φ:Place}{n:Nat}{av:AV}{x:Value}(hv:VRel W S φ n av x)(hc:av.isCell=true):x.oneC=true:=by cases hv<;>first|rfl|assumption|(exact PRel.oneCell (by assumption))|(simp[AV.isCell] at hc)
structure Kept (W:World) (S:Nat->Prop) (φ:Place) (n:Nat) (W':World) (S':Nat->Prop) (φ':Place) (n':Nat):Prop where
 pure:∀b,S b->S' b/\W'.heap[b]?=W.heap[b]?
 len:n<=n'
 same:∀id,id<n->φ' id=φ id
 blk:∀id,id<n->∀c' t' fr',W'.heap[(φ id).1]?=some (.cells c' t' fr')->∃c t fr,W.heap[(φ id).1]?=some (.cells c t fr)/\c.size=c'.size
theorem VRel.kept{W W':World}{S S':Nat->Prop}{φ φ':Place}{n n':Nat}(K:Kept W S φ n W' S' φ' n'){av:AV}{x:Value}(hv:VRel W S φ n av x):
 VRel W' S' φ' n' av x:=by
 induction hv with
 |p pv x hp=>exact .p pv x (hp.mono K.pure)
 |agg cs vs hs _ ih=>exact .agg cs vs hs ih
 |tup cs vs hs _ ih=>exact .tup cs vs hs ih
 |ptr id esz i off hid=>rw[←K.same id hid];exact .ptr id esz i off (WN hid K.len)
 |sl id esz off len cap ba hid hl hb hc=>
  refine .sl id esz off len cap ba (WN hid K.len) hl (λh=>by rw[K.same id hid];exact hb h) λc t fr e=>?_;rw[K.same id hid] at e⊢;obtain⟨c0,t0,fr0,e0,es⟩:=K.blk id hid c t fr e;rw[←es];exact hc _ _ _ e0
 |eptr e off b o hb hc=>
  refine .eptr e off b o (K.pure b hb).1 λj c hj=>?_;obtain⟨v,h1,h2⟩:=hc j c hj;exact⟨v,by rw[aJ (K.pure b hb).2];exact h1,h2.mono K.pure⟩
 |gp g off=>exact .gp g off
 |fn f caps vs hs _ ih=>exact .fn f caps vs hs ih
 |nils=>exact .nils
 |nilp=>exact .nilp
 |nilf=>exact .nilf
 |nilm=>exact .nilm
 |nili=>exact .nili
 |ifc t pv x hp=>exact .ifc t pv x (hp.mono K.pure)
 |mp id hid=>rw[←K.same id hid];exact .mp id (WN hid K.len)
 |it id hid=>rw[←K.same id hid];exact .it id (WN hid K.len)
 |any x=>exact .any x
abbrev aw:=Nat->Option (List PV)
structure HRel (G:aw) (W:World) (S:Nat->Prop) (φ:Place) (h:List AO):Prop where
 obj:∀(id sz:Nat) (es:List (List AV)),h[id]?=some (.row sz es)->∃c t fr,W.heap[(φ id).1]?=some (.cells c t fr)/\(∀j,j<c.size->¬(fr.1<=j/\j<fr.2))/\
  (∀e∈es,e.length=sz)/\(φ id).2+es.length*sz<=c.size/\
  ∀(j:Nat) (a:AV),es.flatten[j]?=some a->a.isCell=true/\∃v,c[(φ id).2+j]?=some v/\VRel W S φ h.length a v
 oobj:∀(id:Nat) (o:AO),h[id]?=some o->o.live->ORel (VRel W S φ h.length) o W.heap[(φ id).1]?
 inj:∀id id',Live h id->Live h id'->(φ id).1=(φ id').1->id=id'
 sep:∀b,S b->b<W.heap.size/\∀id,Live h id->(φ id).1≠b
 bnd:∀id,id<h.length->(φ id).1<W.heap.size
 glob:∀g cs,G g=some cs->S g/\∀j c,cs[j]?=some c->∃v,W.cell? ⟨g,j,none⟩=some v/\PRel W S c v
structure Keep (W:World) (S:Nat->Prop) (φ:Place) (h:List AO) (W':World) (S':Nat->Prop) (φ':Place) (h':List AO):Prop extends Kept W S φ h.length W' S' φ' h'.length where
 os:W'.os=W.os
 tape:W'.tape=W.tape
 output:W'.output=W.output
 size:W.heap.size<=W'.heap.size
 out:∀b,b<W.heap.size->(∀id,Live h id->(φ id).1≠b)->W'.heap[b]?=W.heap[b]?
 img:∀id,Live h' id->W.heap.size<=(φ' id).1\/∃id2,Live h id2/\(φ id2).1=(φ' id).1
 newS:∀b,S' b->S b\/W.heap.size<=b\/∃id,Live h id/\(φ id).1=b
theorem Keep.refl{G:aw}{W:World}{S:Nat->Prop}{φ:Place}{h:List AO}(_H:HRel G W S φ h):Keep W S φ h W S φ h where
 pure:=λb hb=>⟨hb,rfl⟩
 len:=Wo _
 same:=λ_ _=>rfl
 blk:=λ_ _ c t fr e=>⟨c,t,fr,e,rfl⟩
 os:=rfl
 tape:=rfl
 output:=rfl
 size:=Wo _
 out:=λ_ _ _=>rfl
 img:=λid hid=> .inr ⟨id,hid,rfl⟩
 newS:=λ_ hb=> .inl hb
theorem Keep.trans{W0 W1 W2:World}{S0 S1 S2:Nat->Prop}{φ0 φ1 φ2:Place}{h0 h1 h2:List AO}
 (a:Keep W0 S0 φ0 h0 W1 S1 φ1 h1)(b:Keep W1 S1 φ1 h1 W2 S2 φ2 h2):Keep W0 S0 φ0 h0 W2 S2 φ2 h2 where
 pure:=λx hx=>⟨(b.pure x (a.pure x hx).1).1,(b.pure x (a.pure x hx).1).2.trans (a.pure x hx).2⟩
 len:=Xw a.len b.len
 same:=λid hid=>(b.same id (WN hid a.len)).trans (a.same id hid)
 blk:=λid hid c t fr e=>by
  have h1:=b.blk id (WN hid a.len) c t fr (by rw[a.same id hid];exact e);rw[a.same id hid] at h1;obtain⟨c1,t1,fr1,e1,s1⟩:=h1;obtain⟨c0,t0,fr0,e0,s0⟩:=a.blk id hid c1 t1 fr1 e1;exact⟨c0,t0,fr0,e0,s0.trans s1⟩
 os:=b.os.trans a.os
 tape:=b.tape.trans a.tape
 output:=b.output.trans a.output
 size:=Xw a.size b.size
 out:=λx hx hn=>by
  refine(b.out x (WN hx a.size) λid hid he=>?_).trans (a.out x hx hn);rcases a.img id hid with h'|⟨id2,h',e⟩
  ·omega
  ·exact hn id2 h' (e.trans he)
 img:=λid hid=>by
  rcases b.img id hid with h'|⟨id2,h',e⟩
  ·exact .inl (Xw a.size h')
  ·rcases a.img id2 h' with h''|⟨id3,h'',e'⟩
   ·exact .inl (by omega)
   ·exact .inr ⟨id3,h'',e'.trans e⟩
 newS:=λx hx=>by
  rcases b.newS x hx with h'|h'|⟨id,h',e⟩
  ·exact a.newS x h'
  ·exact .inr (.inl (Xw a.size h'))
  ·rcases a.img id h' with h''|⟨id3,h'',e'⟩
   ·exact .inr (.inl (by omega))
   ·exact .inr (.inr ⟨id3,h'',e'.trans e⟩)
end Go.Aw
namespace Go.Aw
inductive AOp where
 |t (n:Nat)
 |c (v:AV)
def AOp.ev(ts:List AV):AOp->AV
 | .t n=>ts.getD n .any
 | .c v=>v
def cv1:Value->Option AV
 | .bool b=>some (.p (.bool b))
 | .int k n=>some (.p (.int k n))
 | .string s=>some (.p (.str s.data.toList))
 | .slice none 0 0=>some .nils
 | .pointer none=>some .nilp
 | .nilFunc=>some .nilf
 | .map none=>some .nilm
 | .nilIface=>some .nili
 |_=>none
def cvs:List Value->Option (List AV)
 |[]=>some []
 |v::r=>match cv1 v,cvs r with
  |some a,some l=>some (a::l)
  |_,_=>none
def cv:Value->Option AV
 | .agg cs=>(cvs cs.toList).map .agg
 |v=>cv1 v
def cop:Operand->Option AOp
 | .tmp t=>some (.t t)
 | .const v=>(cv v).map .c
 | .global g=>some (.c (.gp g 0))
 | .func f=>some (.c (.fn (.func f) []))
structure TRel (W:World) (S:Nat->Prop) (φ:Place) (n:Nat) (ts:List AV) (tmps:Array Value):Prop where
 size:tmps.size=ts.length
 get:∀i v,ts[i]?=some v->VRel W S φ n v (tmps.getD i undef)
section
variable {W:World} {S:Nat->Prop} {φ:Place} {n:Nat}
theorem Kx{v:Value}{a:AV}(e:cv1 v=some a):VRel W S φ n a v:=by
 unfold cv1 at e;split at e<;>first|(cases e;done)|skip
 all_goals (cases e)
 ·exact .p _ _ (.bool _)
 ·exact .p _ _ (.int _ _)
 ·exact .p _ _ (.str _)
 ·exact .nils
 ·exact .nilp
 ·exact .nilf
 ·exact .nilm
 ·exact .nili
theorem JI:∀{l:List Value} {as:List AV},cvs l=some as->l.length=as.length/\∀(j:Nat) (a:AV) (v:Value),as[j]?=some a->l[j]?=some v->VRel W S φ n a v
 |[],as,e=>by cases e;exact⟨rfl,λj a v h1=>by simp at h1⟩
 |x::r,as,e=>by
  unfold cvs at e;split at e
  ·rename_i a l h1 h2;cases e;obtain⟨e1,e2⟩:=JI h2;refine⟨by simp[e1],λj b v g1 g2=>?_⟩;cases j with
   |zero=>simp at g1 g2;subst g1;subst g2;exact Kx h1
   |succ j=>simp at g1 g2;exact e2 j b v g1 g2
  ·cases e
theorem HZ{v:Value}{a:AV}(e:cv v=some a):VRel W S φ n a v:=by
 unfold cv at e;split at e
 ·rename_i cs;rw[Wf] at e;obtain⟨l,e1,rfl⟩:=e;obtain⟨e2,e3⟩:=JI e1;exact .agg l cs (by simpa using e2) λj c v h1 h2=>e3 j c v h1 (by simpa using h2)
 ·exact Kx e
theorem ay{o:Operand}{x:AOp}(e:cop o=some x){ts:List AV}{a:Act}(T:TRel W S φ n ts a.tmps):VRel W S φ n (x.ev ts) (a.eval o):=by
 cases o with
 |tmp t=>
  cases e;simp only[AOp.ev,Act.eval,Wv];cases h1:ts[t]? with
  |none=>exact .any _
  |some v=>exact T.get t v h1
 |const v=>
  simp only[cop,Wf] at e;obtain⟨v',e,rfl⟩:=e;exact HZ e
 |global g=>cases e;exact .gp g 0
 |func f=>cases e;exact .fn _ [] #[] rfl λj c v h1=>by simp at h1
theorem TRel.put{ts:List AV}{a:Act}(T:TRel W S φ n ts a.tmps){v:AV}{x:Value}(hv:VRel W S φ n v x)(d:Option Nat):
 TRel W S φ n (match d with|some d=>ts.set d v|none=>ts) (a.put d x).tmps:=by
 cases d with
 |none=>exact T
 |some d=>
  refine⟨by simpa[Act.put] using T.size,λi u hi=>?_⟩;simp only[Act.put];rw[Xu] at hi;have hs:=T.size;split at hi
  ·rename_i hd;split at hi
   ·rename_i hl;cases hi;subst hd;simpa[Xg,hs,hl] using hv
   ·cases hi
  ·rename_i hd;have:=T.get i u hi;simpa[Xg,XB hd] using this
end
theorem TRel.kept{W W':World}{S S':Nat->Prop}{φ φ':Place}{n n':Nat}{ts:List AV}{tmps:Array Value}(T:TRel W S φ n ts tmps)(K:Kept W S φ n W' S' φ' n'):
 TRel W' S' φ' n' ts tmps:=⟨T.size,λi v hi=>(T.get i v hi).kept K⟩
inductive NV:Next->Value->Prop where
 |value (v:Value):NV (.value v) v
 |skip:NV .skip undef
def Yld(P:Program)(G:aw)(o:Oper)(ts:List AV)(h:List AO)(av:AV)(h':List AO):Prop:=
 ∀(W:World) (S:Nat->Prop) (φ:Place) (a:Act),HRel G W S φ h->TRel W S φ h.length ts a.tmps->
  ∃n v W' S' φ',(execOp a.eval o).run P W= .ok n W'/\NV n v/\VRel W' S' φ' h'.length av v/\HRel G W' S' φ' h'/\Keep W S φ h W' S' φ' h'
theorem Yld.of_same{P:Program}{G:aw}{o:Oper}{ts:List AV}{h:List AO}{av:AV}
 (H:∀(W:World) (S:Nat->Prop) (φ:Place) (a:Act),HRel G W S φ h->TRel W S φ h.length ts a.tmps->∃v,(execOp a.eval o).run P W= .ok (.value v) W/\VRel W S φ h.length av v):
 Yld P G o ts h av h:=λW S φ a hr ht=>by
 obtain⟨v,h1,h2⟩:=H W S φ a hr ht;exact⟨_,v,W,S,φ,h1,.value v,h2,hr,Keep.refl hr⟩
end Go.Aw
namespace Go.Aw
def wr(c:Array Value)(off:Nat):List Value->Array Value
 |[]=>c
 |v::r=>wr (c.setIfInBounds off v) (off+1) r
theorem fO(c:Array Value)(off:Nat)(l:List Value):(wr c off l).size=c.size:=by
 induction l generalizing c off with
 |nil=>rfl
 |cons v r ih=>simp[wr,ih]
theorem AR(c:Array Value)(off:Nat)(l:List Value)(h:off+l.length<=c.size)(j:Nat):
 (wr c off l)[j]?=if off<=j/\j<off+l.length then l[j-off]? else c[j]?:=by
 induction l generalizing c off with
 |nil=>simp[wr];intro h1 h2;omega
 |cons v r ih=>
  simp only[WC] at h;rw[wr,ih _ _ (by simp;omega)];simp only[WC]
  by_cases h1:off+1<=j/\j<off+1+r.length
  ·rw[Wz h1,Wz (by omega),show j-off=(j-(off+1))+1 by omega,Ya]
  ·rw[WB h1]
   by_cases h2:j=off
   ·subst h2;rw[Wz (by omega),Xd,XP,Array.getElem?_setIfInBounds_self];simp;omega
   ·rw[WB (by omega),XB (Ne.symm h2)]
structure BlockSet (W W':World) (b:Nat) (c:Array Value) (t:TypeId) (fr:Nat × Nat):Prop where
 at_b:W'.heap[b]?=some (.cells c t fr)
 other:∀b',b'≠b->W'.heap[b']?=W.heap[b']?
 size:W'.heap.size=W.heap.size
 os:W'.os=W.os
 tape:W'.tape=W.tape
 output:W'.output=W.output
theorem Dl{W:World}{b off:Nat}{c:Array Value}{t:TypeId}{fr:Nat × Nat}(h:W.heap[b]?=some (.cells c t fr))(v:Value):
 BlockSet W (W.setCell ⟨b,off,none⟩ v) b (c.setIfInBounds off v) t fr where
 at_b:=by simp[World.setCell,XE,h]
 other:=λb' hb=>by simp[World.setCell,XE,Ne.symm hb]
 size:=by simp[World.setCell]
 os:=rfl
 tape:=rfl
 output:=rfl
theorem kF{P:Program}(l:List Value):∀(W:World) (b off i:Nat) (c:Array Value) (t:TypeId) (fr:Nat × Nat),W.heap[b]?=some (.cells c t fr)->
 (∀j,j<c.size->¬(fr.1<=j/\j<fr.2))->off+i+l.length<=c.size->(∀v∈l,v.oneC=true)->
 ∃W',(storeCells ⟨b,off,none⟩ l i).run P W= .ok () W'/\BlockSet W W' b (wr c (off+i) l) t fr:=by
 induction l with
 |nil=>intro W b off i c t fr h _ _ _;exact⟨W,by simp[storeCells],⟨h,λ_ _=>rfl,rfl,rfl,rfl,rfl⟩⟩
 |cons v r ih=>
  intro W b off i c t fr h hf hl hv;simp only[WC] at hl;have hoff:off+i<c.size:=by omega
  have hadd:(⟨b,off,none⟩:Addr).add i=⟨b,off+i,none⟩:=by unfold Addr.add;split<;>simp_all
  have hcell:W.cell? ⟨b,off+i,none⟩=some c[off+i]:=by simp[World.cell?,h,hoff]
  have hfz:W.frozen? ⟨b,off+i,none⟩=false:=by
   have:=hf _ hoff;simp only[World.frozen?,h];simpa using this
  have h1:=Dl (W:=W) (off:=off+i) h v;obtain⟨W',hrun,hB⟩:=ih (W.setCell ⟨b,off+i,none⟩ v) b off (i+1) _ t fr h1.at_b (λj hj=>hf j (by simpa using hj)) (by simp;omega) (λu hu=>hv u (Xb _ hu));refine⟨W',?_,⟨?_,λb' hb=>(hB.other b' hb).trans (h1.other b' hb),hB.size.trans h1.size,hB.os,hB.tape,hB.output⟩⟩
  ·have h1c:=hv v (Yj ..);simp only[storeCells,hadd];cases v<;>first|(simp[Value.oneC] at h1c;done)|(simp[store,Sem.run,hcell,hfz];exact hrun)
  ·rw[hB.at_b];simp[wr,XR]
theorem aZ{α:Type}{sz:Nat}:∀{es:List (List α)},(∀e∈es,e.length=sz)->∀i j,j<sz->es.flatten[i*sz+j]?=(es[i]?).bind (·[j]?)
 |[],_,i,j,_=>by simp
 |e::r,h,i,j,hj=>by
  have he:=h e (Yj ..);have ih:=aZ (es:=r) (λx hx=>h x (Xb _ hx));cases i with
  |zero=>simp[XI,he,hj]
  |succ i=>
   have:(i+1)*sz+j=e.length+(i*sz+j):=(by rw[he,Xz];omega);rw[this,WX,Wg (by omega),WP,ih i j hj];simp
theorem aK{α:Type}{sz:Nat}:∀{es:List (List α)},(∀e∈es,e.length=sz)->es.flatten.length=es.length*sz
 |[],_=>by simp
 |e::r,h=>by
  have he:=h e (Yj ..);have ih:=aK (es:=r) (λx hx=>h x (Xb _ hx));simp[ih,he,Xz];omega
section
variable {G:aw} {W:World} {S:Nat->Prop} {φ:Place} {h:List AO}
def upd(φ:Place)(id:Nat)(B:Nat × Nat):Place:=λi=>if i=id then B else φ i
theorem HRel.lt(H:HRel G W S φ h){id:Nat}{o:AO}(e:h[id]?=some o):id<h.length:=(Wa.1 e).1
theorem HRel.update(H:HRel G W S φ h){W':World}{id sz:Nat}{es es':List (List AV)}{c c0:Array Value}{t t0:TypeId}{fr fr0:Nat × Nat}
 (hid:h[id]?=some (.row sz es))(h0:W.heap[(φ id).1]?=some (.cells c0 t0 fr0))(hcs:c.size=c0.size)(B:BlockSet W W' (φ id).1 c t fr)
 (hfr:∀j,j<c.size->¬(fr.1<=j/\j<fr.2))(hsz:∀e∈es',e.length=sz)(hfit:(φ id).2+es'.length*sz<=c.size)
 (hc:∀(j:Nat) (a:AV),es'.flatten[j]?=some a->a.isCell=true/\∃v,c[(φ id).2+j]?=some v/\VRel W S φ h.length a v):
 HRel G W' S φ (h.set id (.row sz es'))/\Keep W S φ h W' S φ (h.set id (.row sz es')):=by
 have hidl:id<h.length:=H.lt hid
 have hget:∀{i o},(h.set id (AO.row sz es'))[i]?=some o->(i=id/\o= .row sz es')\/(i≠id/\h[i]?=some o):=λ{i o} e=>by
  by_cases hi:i=id
  ·subst hi;rw[Wh hidl] at e;cases e;exact .inl ⟨rfl,rfl⟩
  ·rw[Wd (Ne.symm hi)] at e;exact .inr ⟨hi,e⟩
 have hlive:∀{i},Live (h.set id (AO.row sz es')) i->Live h i:=λ⟨o,e,l⟩=>by
  rcases hget e with⟨rfl,_⟩|⟨_,e'⟩
  ·exact bc hid
  ·exact⟨_,e',l⟩
 have K:Kept W S φ h.length W' S φ (h.set id (AO.row sz es')).length:=
  {pure:=λb hb'=>⟨hb',B.other b λe=>(H.sep b hb').2 _ (bc hid) e.symm⟩
   len:=by simp
   same:=λ_ _=>rfl
   blk:=λi hi c' t' fr' e=>by
    by_cases hb:(φ i).1=(φ id).1
    ·rw[hb,B.at_b] at e;cases e;exact⟨c0,t0,fr0,by rw[hb];exact h0,hcs.symm⟩
    ·rw[B.other _ hb] at e;exact⟨c',t',fr',e,rfl⟩}
 refine⟨?_,{K with os:=B.os,tape:=B.tape,output:=B.output,size:=by rw[B.size];exact Wo _,out:=λb hb' hn=>B.other b (λe=>hn id (bc hid) e.symm),img:=?_,newS:=λb hb'=> .inl hb'}⟩
 ·refine⟨λi s es1 e=>?_,λi o1 e lo=>?_,λi i' e1 e2 he=>H.inj _ _ (hlive e1) (hlive e2) he,λb hb'=>⟨by have:=(H.sep b hb').1;rw[B.size];exact this,λi e he=>(H.sep b hb').2 _ (hlive e) he⟩,λi hi=>by rw[B.size];exact H.bnd i (by simpa using hi),λg cs hg=>?_⟩
  ·rcases hget e with⟨rfl,e'⟩|⟨hi,e'⟩
   ·cases e';refine⟨c,t,fr,B.at_b,hfr,hsz,hfit,λj a hj=>?_⟩;obtain⟨b1,v,b2,b3⟩:=hc j a hj;exact⟨b1,v,b2,b3.kept K⟩
   ·obtain⟨c1,t1,fr1,a1,a2,a3,a4,a5⟩:=H.obj i s es1 e';refine⟨c1,t1,fr1,by rw[B.other _ (λhe=>hi (H.inj _ _ (bc e') (bc hid) he))];exact a1,a2,a3,a4,λj a hj=>?_⟩;obtain⟨b1,v,b2,b3⟩:=a5 j a hj;exact⟨b1,v,b2,b3.kept K⟩
  ·rcases hget e with⟨rfl,e'⟩|⟨hi,e'⟩
   ·cases e';trivial
   ·rw[B.other _ (λhe=>hi (H.inj _ _ ⟨_,e',lo⟩ (bc hid) he))];exact(H.oobj i o1 e' lo).mono λa v r=>r.kept K
  ·obtain⟨g1,g2⟩:=H.glob g cs hg;refine⟨g1,λj c' hj=>?_⟩;obtain⟨v,k1,k2⟩:=g2 j c' hj;exact⟨v,by rw[aJ (K.pure g g1).2];exact k1,k2.mono K.pure⟩
 ·intro i e;exact .inr ⟨i,hlive e,rfl⟩
theorem HRel.push(H:HRel G W S φ h){W':World}{d:Option Nat}{B:Nat × Nat}{sz:Nat}{es:List (List AV)}{c:Array Value}{t:TypeId}{fr:Nat × Nat}
 (hB:W.heap.size<=B.1\/∃id sz0 es0 c0 t0 fr0,d=some id/\h[id]?=some (.row sz0 es0)/\B.1=(φ id).1/\W.heap[B.1]?=some (.cells c0 t0 fr0)/\c0.size=c.size)
 (hb:W'.heap[B.1]?=some (.cells c t fr))(ho:∀b,b<W.heap.size->b≠B.1->W'.heap[b]?=W.heap[b]?)(hs:W.heap.size<=W'.heap.size)
 (h1:W'.os=W.os)(h2:W'.tape=W.tape)(h3:W'.output=W.output)
 (hfr:∀j,j<c.size->¬(fr.1<=j/\j<fr.2))(hsz:∀e∈es,e.length=sz)(hfit:B.2+es.length*sz<=c.size)
 (hc:∀(j:Nat) (a:AV),es.flatten[j]?=some a->a.isCell=true/\∃v,c[B.2+j]?=some v/\VRel W S φ h.length a v)
 {h':List AO}(hh:h'=(match d with|some id=>h.set id .dead|none=>h)++[.row sz es]):
 HRel G W' S (upd φ h.length B) h'/\Keep W S φ h W' S (upd φ h.length B) h':=by
 have hlen:h'.length=h.length+1:=by subst hh;cases d<;>simp
 have hlast:h'[h.length]?=some (.row sz es):=by subst hh;cases d<;>simp
 have hget:∀{i o},o.live->h'[i]?=some o->(i=h.length/\o= .row sz es)\/(i<h.length/\h[i]?=some o/\∀id,d=some id->i≠id):=λ{i o} ol e=>by
  rcases YD i h.length with hi|hi|hi
  ·refine .inr ⟨hi,?_⟩;subst hh;cases d with
   |none=>simp only at e;rw[Wb hi] at e;exact⟨e,λ_ h=>by cases h⟩
   |some id=>
    simp only at e;rw[Wb (by simpa using hi)] at e
    by_cases hid:i=id
    ·subst hid;rw[Wh hi] at e;cases e;exact ol.elim
    ·rw[Wd (Ne.symm hid)] at e;exact⟨e,λ_ h=>by cases h;exact hid⟩
  ·subst hi;rw[hlast] at e;cases e;exact .inl ⟨rfl,rfl⟩
  ·rw[WS (by omega)] at e;cases e
 have hφ:∀{i},i<h.length->upd φ h.length B i=φ i:=λhi=>by simp only[upd];rw[WB (by omega)]
 have hφn:upd φ h.length B h.length=B:=by simp[upd]
 have hne:∀{i},i<h.length->Live h i->(∀id,d=some id->i≠id)->(φ i).1≠B.1:=λhi e hd he=>by
  rcases hB with hB|⟨id,sz0,es0,c0,t0,fr0,e1,e2,e3,_⟩
  ·have:=H.bnd _ hi;omega
  ·exact hd id e1 (H.inj _ _ e (bc e2) (he.trans e3))
 have hS:∀{b},S b->b≠B.1:=λhb' he=>by
  rcases hB with hB|⟨id,sz0,es0,c0,t0,fr0,e1,e2,e3,_⟩
  ·have:=(H.sep _ hb').1;omega
  ·exact(H.sep _ hb').2 _ (bc e2) (he.trans e3).symm
 have K:Kept W S φ h.length W' S (upd φ h.length B) h'.length:=
  {pure:=λb hb'=>⟨hb',ho b (H.sep b hb').1 (hS hb')⟩
   len:=by omega
   same:=λid hid=>hφ hid
   blk:=λi hi c' t' fr' e=>by
    by_cases hb':(φ i).1=B.1
    ·rcases hB with hB|⟨id,sz0,es0,c0,t0,fr0,e1,e2,e3,e4,e5⟩
     ·have:=H.bnd _ hi;omega
     ·rw[hb',hb] at e;cases e;exact⟨c0,t0,fr0,by rw[hb'];exact e4,e5⟩
    ·rw[ho _ (H.bnd _ hi) hb'] at e;exact⟨c',t',fr',e,rfl⟩}
 refine⟨?_,{K with os:=h1,tape:=h2,output:=h3,size:=hs,out:=λb hb' hn=>ho b hb' λhe=>?_,img:=?_,newS:=λb hb'=> .inl hb'}⟩
 ·refine⟨λi s es1 e=>?_,λi o1 e lo=>?_,λi i' ⟨o1,e1,l1⟩ ⟨o2,e2,l2⟩ he=>?_,λb hb'=>⟨WN (H.sep b hb').1 hs,λi ⟨o1,e,l1⟩ he=>?_⟩,λi hi=>?_,λg cs hg=>?_⟩
  ·rcases hget (o:= .row s es1) trivial e with⟨rfl,eo⟩|⟨hi,e',hd⟩
   ·cases eo;refine⟨c,t,fr,by rw[hφn];exact hb,hfr,hsz,by rw[hφn];exact hfit,λj a hj=>?_⟩;obtain⟨b1,v,b2,b3⟩:=hc j a hj;exact⟨b1,v,by rw[hφn];exact b2,b3.kept K⟩
   ·obtain⟨c1,t1,fr1,a1,a2,a3,a4,a5⟩:=H.obj i s es1 e';refine⟨c1,t1,fr1,by rw[hφ hi,ho _ (H.bnd _ hi) (hne hi (bc e') hd)];exact a1,a2,a3,by rw[hφ hi];exact a4,λj a hj=>?_⟩;obtain⟨b1,v,b2,b3⟩:=a5 j a hj;exact⟨b1,v,by rw[hφ hi];exact b2,b3.kept K⟩
  ·rcases hget lo e with⟨rfl,eo⟩|⟨hi,e',hd⟩
   ·cases eo;trivial
   ·rw[hφ hi,ho _ (H.bnd _ hi) (hne hi ⟨_,e',lo⟩ hd)];exact(H.oobj i o1 e' lo).mono λa v r=>r.kept K
  ·rcases hget l1 e1 with⟨rfl,_⟩|⟨hi,e1',hd⟩<;>rcases hget l2 e2 with⟨rfl,_⟩|⟨hi',e2',hd'⟩
   ·rfl
   ·rw[hφn,hφ hi'] at he;exact(hne hi' ⟨_,e2',l2⟩ hd' he.symm).elim
   ·rw[hφn,hφ hi] at he;exact(hne hi ⟨_,e1',l1⟩ hd he).elim
   ·rw[hφ hi,hφ hi'] at he;exact H.inj _ _ ⟨_,e1',l1⟩ ⟨_,e2',l2⟩ he
  ·rcases hget l1 e with⟨rfl,_⟩|⟨hi,e',hd⟩
   ·rw[hφn] at he;exact hS hb' he.symm
   ·rw[hφ hi] at he;exact(H.sep b hb').2 _ ⟨_,e',l1⟩ he
  ·rcases Xh i h.length with hi'|hi'
   ·rw[hφ hi'];exact WN (H.bnd _ hi') hs
   ·have:i=h.length:=(by omega);subst this;rw[hφn];exact(WU.1 hb).1
  ·obtain⟨g1,g2⟩:=H.glob g cs hg;refine⟨g1,λj c' hj=>?_⟩;obtain⟨v,k1,k2⟩:=g2 j c' hj;exact⟨v,by rw[aJ (K.pure g g1).2];exact k1,k2.mono K.pure⟩
 ·rcases hB with hB|⟨id,sz0,es0,c0,t0,fr0,e1,e2,e3,_⟩
  ·omega
  ·exact hn id (bc e2) (e3.symm.trans he.symm)
 ·intro i ⟨o,e,l⟩;rcases hget l e with⟨rfl,_⟩|⟨hi,e',_⟩
  ·rw[hφn];rcases hB with hB|⟨id,sz0,es0,c0,t0,fr0,e1,e2,e3,_⟩
   ·exact .inl hB
   ·exact .inr ⟨id,bc e2,e3.symm⟩
  ·exact .inr ⟨i,⟨_,e',l⟩,by rw[hφ hi]⟩
end
end Go.Aw
namespace Go.Aw
inductive AI where
 |mov (x:AOp)
 |nilck (x:AOp)
 |not (x:AOp)
 |neg (x:AOp)
 |bin (op:BinOp) (x y:AOp)
 |bins (op:BinOp) (x y:AOp)
 |beq (ne:Bool) (x y:AOp)
 |pnil (kd:Nat) (ne:Bool) (x:AOp)
 |conv (k:IntKind) (x:AOp)
 |fldv (off:Nat) (sz:Option Nat) (x:AOp)
 |ext (i:Nat) (x:AOp)
 |fldA (off:Nat) (x:AOp)
 |idxS (esz:Nat) (x i:AOp)
 |idxA (n esz:Nat) (x i:AOp)
 |idxStr (x i:AOp)
 |len (s:Bool) (x:AOp)
 |mx (x y:AOp)
 |mn (x y:AOp)
 |ld (sz:Option Nat) (x:AOp)
 |st (n:Nat) (x y:AOp)
 |box (n:Nat) (x:AOp)
 |alloc (z:List AV)
 |bld (z:List AV) (parts:List (Nat × Nat × AOp))
 |bsl (esz:Nat) (z:List AV) (len:Nat) (parts:List (Nat × Nat × AOp))
 |mks (esz bytes:Nat) (z:List AV) (l c:AOp)
 |slS (esz:Nat) (x:AOp) (lo hi:Option AOp)
 |slStr (x:AOp) (lo hi:Option AOp)
 |slA (n esz:Nat) (x:AOp) (lo hi:Option AOp)
 |app (esz bytes:Nat) (s x:AOp)
 |mkf (f:Fn) (caps:List AOp)
 |strB (x:AOp)
 |pick (c a b:AOp)
 |call (f:FuncId) (args:List AOp)
 |callv (g:AOp) (args:List AOp)
 |qcall (f:FuncId) (args:List AOp)
 |qcallv (g:AOp) (args:List AOp)
 |bslP (esz:Nat) (z:List AV) (len:Nat) (parts:List (Nat × Nat × AOp))
 |pcall (f:FuncId) (args:List AOp)
 |chk (sz:Option Nat) (n d:Nat)
 |bad
 |idxV (m esz:Nat) (r:Option Nat) (x i:AOp)
 |snil (ne:Bool) (x:AOp)
 |copy (esz:Nat) (d x:AOp)
 |btos (x:AOp)
 |mkm
 |appz (esz bytes:Nat) (z:List AV) (s n:AOp)
 |lk (kd:Nat) (z:AV) (comma:Bool) (m k:AOp)
 |mup (kd:Nat) (m k v:AOp)
 |lk2 (z:AV) (comma:Bool) (m k:AOp)
 |mup2 (m k v:AOp)
 |rngS (x:AOp)
 |nxtS (x:AOp)
 |aeq (ks:List Nat) (ne:Bool) (x y:AOp)
def nf(G:aw)(h:List AO):AV->Option (List AV × Nat)
 | .ptr id esz i off=>match h[id]? with
   |some (.row sz es)=>if sz=esz then(es[i]?).map (·,off) else none
   |_=>none
 | .eptr e off=>some (e.map .p,off)
 | .gp g off=>(G g).map λcs=>(cs.map .p,off)
 |_=>none
def elems(h:List AO)(esz:Nat):AV->Option (List (List AV))
 | .p (.lst sz es)=>if sz=esz then some (es.map (·.map .p)) else none
 | .nils=>some []
 | .sl id sz off len=>match h[id]? with
   |some (.row sz' es)=>if sz'=esz/\sz=esz/\off+len<=es.length then some ((es.drop off).take len) else none
   |_=>none
 |_=>none
def lenOf:AV->Option Nat
 | .p (.lst _ es)=>some es.length
 | .p (.str s)=>some s.length
 | .nils=>some 0
 | .sl _ _ _ len=>some len
 |_=>none
def PD(op:BinOp)(k:IntKind)(a b:Int):Option PV:=
 match op with
 | .add=>some (.int k (k.wrap (a+b)))
 | .sub=>some (.int k (k.wrap (a-b)))
 | .mul=>some (.int k (k.wrap (a*b)))
 | .quo=>if b≠0 then some (.int k (k.wrap (a.tdiv b))) else none
 | .rem=>if b≠0 then some (.int k (a.tmod b)) else none
 | .eql=>some (.bool (decide (a=b)))
 | .neq=>some (.bool (!decide (a=b)))
 | .lss=>some (.bool (decide (a<b)))
 | .leq=>some (.bool (decide (a<=b)))
 | .gtr=>some (.bool (decide (b<a)))
 | .geq=>some (.bool (decide (b<=a)))
 | .and=>some (.int k (k.wrap (BitVec.ofInt k.bits a&&& BitVec.ofInt k.bits b).toNat))
 | .or=>some (.int k (k.wrap (BitVec.ofInt k.bits a|||BitVec.ofInt k.bits b).toNat))
 | .xor=>some (.int k (k.wrap (BitVec.ofInt k.bits a^^^BitVec.ofInt k.bits b).toNat))
 | .andNot=>some (.int k (k.wrap (BitVec.ofInt k.bits a&&& ~~~(BitVec.ofInt k.bits b)).toNat))
 |_=>none
def shB(op:BinOp)(k:IntKind)(a b:Int):Option PV:=
 match op with
 | .shl=>if 0<=b then some (.int k (k.wrap (a*2^min b.toNat k.bits))) else none
 | .shr=>if 0<=b then some (.int k (a.fdiv (2^min b.toNat k.bits))) else none
 |_=>none
def NM(op:BinOp)(a b:List UInt8):Option PV:=
 match op with
 | .add=>if a.length+b.length<=9223372036854775807 then some (.str (a++b)) else none
 | .eql=>some (.bool (decide (a=b)))
 | .neq=>some (.bool (!decide (a=b)))
 |_=>none
def uE(f:PV->PV->Option PV):AV->AV->Option AV
 | .p x,.p y=>(f x y).map .p
 |_,_=>none
def Od(op:BinOp):PV->PV->Option PV
 | .int k a,.int k' b=>match op with
   | .shl=>shB .shl k a b
   | .shr=>shB .shr k a b
   |op=>if k=k' then PD op k a b else none
 |_,_=>none
def Iw(op:BinOp):PV->PV->Option PV
 | .str a,.str b=>NM op a b
 |_,_=>none
def Pv(ne:Bool):PV->PV->Option PV
 | .bool a,.bool b=>some (.bool (if ne then !decide (a=b) else decide (a=b)))
 |_,_=>none
def Rx:PV->PV->Option PV
 | .int k a,.int _ b=>some (.int k (if b>a then b else a))
 |_,_=>none
def Sw:PV->PV->Option PV
 | .int k a,.int _ b=>some (.int k (if b<a then b else a))
 |_,_=>none
def NO:AV->Option Bool
 | .nilp| .nilf| .nilm=>some true
 | .ptr .. | .eptr .. | .gp .. | .fn .. =>some false
 |_=>none
def un(ai:AI)(x:AV):Option AV:=
 match ai,x with
 | .mov _,x=>some x
 | .nilck _,x=>match NO x with|some false=>some x|_=>none
 | .not _,.p (.bool b)=>some (.p (.bool (!b)))
 | .neg _,.p (.int k n)=>some (.p (.int k (k.wrap (0-n))))
 | .conv k _,.p (.int _ n)=>some (.p (.int k (k.wrap n)))
 | .ext i _,.tup cs=>cs[i]?
 | .fldA off _,.ptr id g i o=>some (.ptr id g i (o+off))
 | .fldA off _,.eptr e o=>some (.eptr e (o+off))
 | .fldA off _,.gp g o=>some (.gp g (o+off))
 | .len true _,.p (.str s)=>some (.p (.int .i64 s.length))
 | .len false _,.p (.lst _ es)=>some (.p (.int .i64 es.length))
 | .len false _,.nils=>some (.p (.int .i64 0))
 | .len false _,.sl _ _ _ n=>some (.p (.int .i64 n))
 |_,_=>none
def EL:Nat->AV->Option Bool
 |0,.nilp=>some true
 |0,.ptr .. |0,.eptr .. |0,.gp .. =>some false
 |1,.nilf=>some true
 |1,.fn .. =>some false
 |2,.nilm=>some true
 |_,_=>none
def iZ(cs:List AV)(off:Nat):Option Nat->Option AV
 |none=>match cs[off]? with
  |some v=>if v.isCell then some v else none
  |none=>none
 |some n=>if off+n<=cs.length then some (.agg ((cs.drop off).take n)) else none
def eS(e:List AV)(off:Nat)(ys:List AV):List AV:=e.take off++ys++e.drop (off+ys.length)
def om(ts:List AV):List AV->List (Nat × Nat × AOp)->Option (List AV)
 |cs,[]=>some cs
 |cs,(off,sz,y)::r=>
  if(y.ev ts).cells.length=sz/\(y.ev ts).cells.all AV.isCell=true/\off+sz<=cs.length then om ts (eS cs off (y.ev ts).cells) r else none
def lo?(ts:List AV):Option AOp->Option Nat
 |none=>some 0
 |some x=>match x.ev ts with
  | .p (.int _ n)=>if 0<=n then some n.toNat else none
  |_=>none
def hi?(ts:List AV)(d:Nat):Option AOp->Option Nat
 |none=>some d
 |some x=>match x.ev ts with
  | .p (.int _ n)=>if 0<=n then some n.toNat else none
  |_=>none
def Ss(esz l h:Nat):AV->Option AV
 | .p (.lst sz es)=>if sz=esz/\l<=h/\h<=es.length then some (.p (.lst sz ((es.take h).drop l))) else none
 | .nils=>if l=0/\h=0 then some .nils else none
 | .sl id sz off len=>if sz=esz/\l<=h/\h<=len then some (.sl id sz (off+l) (h-l)) else none
 |_=>none
def OX(l h:Nat):AV->Option AV
 | .p (.str s)=>if l<=h/\h<=s.length then some (.p (.str ((s.take h).drop l))) else none
 |_=>none
def cC{α:Type}(esz:Nat)(cs:List α):Nat->Nat->List (List α)
 |_,0=>[]
 |off,n+1=>(cs.drop off).take esz::cC esz cs (off+esz) n
def Kr:List (List PV)->Option (List UInt8)
 |[]=>some []
 |[.int .u8 n]::r=>(Kr r).map (UInt8.ofNat n.toNat:: ·)
 |_=>none
def rm:List AV->Option (List PV)
 |[]=>some []
 | .p v::r=>(rm r).map (v:: ·)
 | .nils::r=>(rm r).map (.lst 0 []:: ·)
 |_=>none
theorem tr:∀{l:List AV} {r:List PV},rm l=some r->l.length=r.length/\∀(j:Nat) (c:PV),r[j]?=some c->l[j]?=some (.p c)\/(l[j]?=some .nils/\c= .lst 0 [])
 |[],r,h=>by cases h;exact⟨rfl,λj c e=>by simp at e⟩
 |a::l,r,h=>by
  cases a<;>simp only[rm] at h<;>first|(cases h;done)|skip
  all_goals
   rw[Wf] at h;obtain⟨r',h1,rfl⟩:=h;obtain⟨k1,k2⟩:=tr h1;refine⟨by simp[k1],λj c e=>?_⟩;cases j with
   |zero=>simp at e;subst e;simp
   |succ j=>simp at e;simpa using k2 j c e
def AS:List (List AV)->Option (List UInt8)
 |[]=>some []
 |[.p (.int .u8 n)]::r=>(AS r).map (UInt8.ofNat n.toNat:: ·)
 |_=>none
def keq:PV->PV->Option Bool
 | .int k a,.int k' b=>if k=k' then some (decide (a=b)) else none
 | .str a,.str b=>some (decide (a=b))
 | .bool a,.bool b=>some (decide (a=b))
 | .pair a b,.pair c d=>some (decide (a=c)&&decide (b=d))
 |_,_=>none
def Am:List PV->AV
 |[c]=> .p c
 |cs=> .agg (cs.map .p)
def PI(ks:List PV)(vs:List (List PV)):List (PV × AV):=List.zipWith (λk cs=>(k,Am cs)) ks vs
def bU(k:PV):List (PV × AV)->Option (Option AV)
 |[]=>some none
 |(k',v)::r=>match keq k k' with
  |some true=>some (some v)
  |some false=>bU k r
  |none=>none
def dC(k:PV)(v:AV):List (PV × AV)->Option (List (PV × AV))
 |[]=>some [(k,v)]
 |(k',v')::r=>match keq k k' with
  |some true=>some ((k',v)::r)
  |some false=>(dC k v r).map ((k',v'):: ·)
  |none=>none
def jr:List Nat->List AV->List AV->Option Bool
 |[],[],[]=>some true
 |k::ks,.p a::r,.p b::r'=>if dp a=k then match keq a b,jr ks r r' with
  |some x,some y=>some (x&&y)
  |_,_=>none
  else none
 |_,_,_=>none
def ev(G:aw)(ts:List AV)(h:List AO):AI->Option (AV × List AO)
 | .bin op x y=>(uE (Od op) (x.ev ts) (y.ev ts)).map (·,h)
 | .bins op x y=>(uE (Iw op) (x.ev ts) (y.ev ts)).map (·,h)
 | .beq ne x y=>(uE (Pv ne) (x.ev ts) (y.ev ts)).map (·,h)
 | .mx x y=>(uE Rx (x.ev ts) (y.ev ts)).map (·,h)
 | .mn x y=>(uE Sw (x.ev ts) (y.ev ts)).map (·,h)
 | .pnil kd ne x=>(EL kd (x.ev ts)).map λb=>(.p (.bool (if ne then !b else b)),h)
 | .fldv off sz x=>match x.ev ts with
   | .agg cs=>(iZ cs off sz).map (·,h)
   |_=>none
 | .idxS esz x i=>match x.ev ts,i.ev ts with
   | .p (.lst sz es),.p (.int _ n)=>if sz=esz/\0<=n then(es[n.toNat]?).map λe=>(.eptr e 0,h) else none
   | .sl id sz off len,.p (.int _ n)=>if sz=esz/\0<=n/\n<len then some (.ptr id esz (off+n.toNat) 0,h) else none
   |_,_=>none
 | .idxA n esz x i=>match x.ev ts,i.ev ts with
   | .ptr id g j off,.p (.int _ m)=>if 0<=m/\m<n then some (.ptr id g j (off+m.toNat*esz),h) else none
   | .eptr e off,.p (.int _ m)=>if 0<=m/\m<n then some (.eptr e (off+m.toNat*esz),h) else none
   | .gp g off,.p (.int _ m)=>if 0<=m/\m<n then some (.gp g (off+m.toNat*esz),h) else none
   |_,_=>none
 | .idxV m esz r x i=>match x.ev ts,i.ev ts with
   | .agg cs,.p (.int _ n)=>if 0<=n/\n<m then(iZ cs (n.toNat*esz) r).map (·,h) else none
   |_,_=>none
 | .idxStr x i=>match x.ev ts,i.ev ts with
   | .p (.str s),.p (.int _ n)=>if 0<=n then(s[n.toNat]?).map λb=>(.p (.int .u8 b.toNat),h) else none
   |_,_=>none
 | .ld sz x=>match nf G h (x.ev ts) with
   |some (cs,off)=>(iZ cs off sz).map (·,h)
   |none=>none
 | .st n x y=>match x.ev ts with
   | .ptr id esz i off=>match h[id]? with
     |some (.row sz es)=>match es[i]? with
      |some e=>if sz=esz/\(y.ev ts).cells.length=n/\(y.ev ts).cells.all AV.isCell=true/\off+n<=e.length then
        some (.any,h.set id (.row sz (es.set i (eS e off (y.ev ts).cells)))) else none
      |none=>none
     |_=>none
   |_=>none
 | .box n x=>if(x.ev ts).cells.length=n/\(x.ev ts).cells.all AV.isCell=true then some (.ptr h.length n 0 0,h++[.row n [(x.ev ts).cells]]) else none
 | .alloc z=>some (.ptr h.length z.length 0 0,h++[.row z.length [z]])
 | .bld z parts=>(om ts z parts).map λcs=>(.agg cs,h)
 | .bsl esz z len parts=>(om ts (List.replicate len z).flatten parts).map λcs=>(.sl h.length esz 0 len,h++[.row esz (cC esz cs 0 len)])
 | .bslP esz z len parts=>((om ts (List.replicate len z).flatten parts).bind rm).map λcs=>(.p (.lst esz (cC esz cs 0 len)),h)
 | .mks esz bytes z l c=>match l.ev ts,c.ev ts with
   | .p (.int _ n),.p (.int _ m)=>if 0<=n/\n<=m/\bytes*m<=281474976710656/\m<=281474976710656 then
      some (.sl h.length esz 0 n.toNat,h++[.row esz (List.replicate n.toNat z)]) else none
   |_,_=>none
 | .slS esz x lo hi=>match lenOf (x.ev ts) with
   |some d=>match lo? ts lo,hi? ts d hi with
    |some l,some m=>(Ss esz l m (x.ev ts)).map (·,h)
    |_,_=>none
   |none=>none
 | .slStr x lo hi=>match lenOf (x.ev ts) with
   |some d=>match lo? ts lo,hi? ts d hi with
    |some l,some m=>(OX l m (x.ev ts)).map (·,h)
    |_,_=>none
   |none=>none
 | .slA n esz x lo hi=>match x.ev ts,lo? ts lo,hi? ts n hi with
   | .gp g off,some l,some m=>match G g with
     |some cs=>if l<=m/\m<=n/\off+n*esz<=cs.length then some (.p (.lst esz (((cC esz cs off n).take m).drop l)),h) else none
     |none=>none
   | .eptr e off,some l,some m=>if l<=m/\m<=n/\off+n*esz<=e.length then some (.p (.lst esz (((cC esz e off n).take m).drop l)),h) else none
   | .ptr id sz i off,some l,some m=>match h[id]? with
     |some (.row sz' es)=>if sz'=sz/\esz=1/\l=0/\m=n/\i<es.length/\off+n<=sz then some (.sl id 1 (i*sz+off) n,h) else none
     |_=>none
   |_,_,_=>none
 | .app esz bytes s x=>match elems h esz (x.ev ts) with
   |none=>none
   |some xs=>match s.ev ts with
    | .nils=>if xs.length*bytes<=140737488355328/\xs.length<=140737488355328 then
       if xs=[] then some (.nils,h) else some (.sl h.length esz 0 xs.length,h++[.row esz xs]) else none
    | .sl id sz off len=>match h[id]? with
      |some (.row sz' es)=>if sz'=esz/\sz=esz/\off+len<=es.length/\(len+xs.length)*bytes<=140737488355328/\len+xs.length<=140737488355328 then
        some (.sl h.length esz 0 (len+xs.length),h.set id .dead++[.row esz ((es.drop off).take len++xs)]) else none
      |_=>none
    |_=>none
 | .appz esz bytes z s n=>match n.ev ts with
   | .p (.int _ k)=>if 0<k/\k<=65536/\bytes<=65536 then match s.ev ts with
     | .nils=>some (.sl h.length esz 0 k.toNat,h++[.row esz (List.replicate k.toNat z)])
     | .sl id sz off len=>match h[id]? with
       |some (.row sz' es)=>if sz'=esz/\sz=esz/\off+len<=es.length/\(len+k.toNat)*bytes<=140737488355328/\len+k.toNat<=140737488355328 then
         some (.sl h.length esz 0 (len+k.toNat),h.set id .dead++[.row esz ((es.drop off).take len++List.replicate k.toNat z)]) else none
       |_=>none
     |_=>none
     else none
   |_=>none
 | .mkf f caps=>some (.fn f (caps.map (·.ev ts)),h)
 | .pick c x y=>match c.ev ts with
   | .p (.bool b)=>some (if b then x.ev ts else y.ev ts,h)
   |_=>none
 | .strB x=>match x.ev ts with
   | .p (.int _ n)=>if 0<=n/\n<128 then some (.p (.str [UInt8.ofNat n.toNat]),h) else none
   |_=>none
 | .copy esz d x=>match elems h esz (x.ev ts) with
   |none=>none
   |some xs=>match d.ev ts with
    | .nils=>some (.p (.int .i64 0),h)
    | .sl id sz off len=>match h[id]? with
      |some (.row sz' es)=>if sz'=esz/\sz=esz/\off+len<=es.length then
        some (.p (.int .i64 (min xs.length len:Nat)),h.set id (.row esz (es.take off++xs.take len++es.drop (off+min xs.length len)))) else none
      |_=>none
    |_=>none
 | .btos x=>match elems h 1 (x.ev ts) with
   |some xs=>(AS xs).map λl=>(.p (.str l),h)
   |none=>none
 | .mkm=>some (.mp h.length,h++[.mp []])
 | .lk kd z comma m k=>match k.ev ts with
   | .p kv=>if dp kv=kd then match m.ev ts with
     | .mp id=>match h[id]? with
       |some (.mp es)=>(bU kv es).map λr=>(if comma then .tup [r.getD z,.p (.bool r.isSome)] else r.getD z,h)
       |_=>none
     | .nilm=>some (if comma then .tup [z,.p (.bool false)] else z,h)
     | .p (.tbl ks vs)=>if(ks.all λk'=>(keq kv k').isSome)=true then(bU kv (PI ks vs)).map λr=>(if comma then .tup [r.getD z,.p (.bool r.isSome)] else r.getD z,h) else none
     |_=>none
     else none
   |_=>none
 | .mup kd m k v=>match k.ev ts with
   | .p kv=>if dp kv=kd then match m.ev ts with
     | .mp id=>match h[id]? with
       |some (.mp es)=>(dC kv (v.ev ts) es).map λes'=>(.any,h.set id (.mp es'))
       |_=>none
     |_=>none
     else none
   |_=>none
 | .lk2 z comma m k=>match k.ev ts with
   | .agg [.p (.int .i64 a),.p (.int .i64 b)]=>match m.ev ts with
     | .mp id=>match h[id]? with
       |some (.mp es)=>(bU (.pair a b) es).map λr=>(if comma then .tup [r.getD z,.p (.bool r.isSome)] else r.getD z,h)
       |_=>none
     |_=>none
   |_=>none
 | .mup2 m k v=>match k.ev ts with
   | .agg [.p (.int .i64 a),.p (.int .i64 b)]=>match m.ev ts with
     | .mp id=>match h[id]? with
       |some (.mp es)=>(dC (.pair a b) (v.ev ts) es).map λes'=>(.any,h.set id (.mp es'))
       |_=>none
     |_=>none
   |_=>none
 | .rngS x=>match x.ev ts with
   | .p (.str s)=>some (.it h.length,h++[.sit s 0])
   |_=>none
 | .nxtS x=>match x.ev ts with
   | .it id=>match h[id]? with
     |some (.sit s pos)=>if pos<s.length then
       some (.tup [.p (.bool true),.p (.int .i64 pos),.p (.int .i32 (Utf8.decode ⟨⟨s⟩⟩ pos).1)],h.set id (.sit s (pos+(Utf8.decode ⟨⟨s⟩⟩ pos).2)))
       else some (.tup [.p (.bool false)],h)
     |_=>none
   |_=>none
 | .aeq ks ne x y=>match x.ev ts,y.ev ts with
   | .agg cs,.agg ds=>(jr ks cs ds).map λb=>(.p (.bool (if ne then !b else b)),h)
   |_,_=>none
 | .mov x=>(un (.mov x) (x.ev ts)).map (·,h)
 | .nilck x=>(un (.nilck x) (x.ev ts)).map (·,h)
 | .not x=>(un (.not x) (x.ev ts)).map (·,h)
 | .neg x=>(un (.neg x) (x.ev ts)).map (·,h)
 | .conv k x=>(un (.conv k x) (x.ev ts)).map (·,h)
 | .ext i x=>(un (.ext i x) (x.ev ts)).map (·,h)
 | .fldA off x=>(un (.fldA off x) (x.ev ts)).map (·,h)
 | .len s x=>(un (.len s x) (x.ev ts)).map (·,h)
 |_=>none
def AI.ops:AI->List AOp
 | .mov x| .nilck x| .not x| .neg x| .pnil _ _ x| .conv _ x| .fldv _ _ x| .ext _ x| .fldA _ x| .len _ x| .ld _ x| .box _ x| .strB x| .snil _ x| .btos x| .rngS x| .nxtS x=>[x]
 | .bin _ x y| .bins _ x y| .beq _ x y| .idxS _ x y| .idxA _ _ x y| .idxStr x y| .idxV _ _ _ x y| .mx x y| .mn x y| .st _ x y| .mks _ _ _ x y| .app _ _ x y| .appz _ _ _ x y| .copy _ x y| .lk _ _ _ x y| .lk2 _ _ x y| .aeq _ _ x y=>[x,y]
 | .alloc _| .bad| .mkm=>[]
 | .mup _ x y z=>[x,y,z]
 | .mup2 x y z=>[x,y,z]
 | .bld _ ps| .bsl _ _ _ ps| .bslP _ _ _ ps=>ps.map (·.2.2)
 | .slS _ x l h| .slStr x l h| .slA _ _ x l h=>x::(l.toList++h.toList)
 | .mkf _ cs| .call _ cs| .qcall _ cs| .pcall _ cs=>cs
 | .chk _ n d=>[.t n,.t d]
 | .pick x y z=>[x,y,z]
 | .callv x cs| .qcallv x cs=>x::cs
def AI.silent:AI->Bool
 | .mov _| .nilck _| .not _| .neg _| .pnil .. | .conv .. | .fldv .. | .ext .. | .fldA .. | .len .. | .strB _| .bin .. | .bins .. | .beq .. | .idxS .. | .idxA .. | .idxStr .. | .idxV .. | .mx .. | .mn ..
 | .bld .. | .bslP .. | .slS .. | .slStr .. | .mkf .. | .pick .. | .aeq .. =>true
 |_=>false
def AI.quiet:AI->Bool
 | .ld .. | .lk .. | .lk2 .. | .btos .. | .slA .. | .qcall .. | .qcallv .. | .pcall .. =>true
 |ai=>ai.silent
theorem zg{ts ts':List AV}:∀(ps:List (Nat × Nat × AOp)) (cs:List AV),(∀x∈ps.map (·.2.2),x.ev ts'=x.ev ts)->om ts' cs ps=om ts cs ps
 |[],_,_=>rfl
 |(off,sz,y)::r,cs,h=>by
  have h1:=h y (by simp);simp only[om,h1];split
  ·exact zg r _ λx hx=>h x (by simp at hx⊢;exact .inr hx)
  ·rfl
theorem MF{ts ts':List AV}{x:Option AOp}(h:∀y∈x.toList,y.ev ts'=y.ev ts):lo? ts' x=lo? ts x:=by
 cases x with
 |none=>rfl
 |some y=>simp only[lo?,h y (by simp)]
theorem OF{ts ts':List AV}{d:Nat}{x:Option AOp}(h:∀y∈x.toList,y.ev ts'=y.ev ts):hi? ts' d x=hi? ts d x:=by
 cases x with
 |none=>rfl
 |some y=>simp only[hi?,h y (by simp)]
theorem dz{G:aw}{ts ts':List AV}{hp:List AO}{ai:AI}(h:∀x∈ai.ops,x.ev ts'=x.ev ts):ev G ts' hp ai=ev G ts hp ai:=by
 cases ai<;>simp only[AI.ops,WE,Zi,or_false,forall_eq,Ws,or_imp,forall_and] at h<;>first
  |(simp only[ev,un,h];done)
  |rfl
  |(simp only[ev,zg _ _ h];done)
  |(simp only[ev,h.1,MF h.2.1,OF h.2.2];done)
  |(simp only[ev];rw[WY h])
theorem ro{G:aw}{ts:List AV}{hp:List AO}{ai:AI}(h:ai.silent=true):ev G ts hp ai=(ev G ts [] ai).map λx=>(x.1,hp):=by
 cases ai<;>first|(simp[AI.silent] at h;done)|skip
 all_goals (simp only[ev];repeat' split)
 all_goals first|rfl|(simp;done)|(simp[Option.map_map,Function.comp_def];done)|skip
end Go.Aw
namespace Go.Aw
section
variable {P:Program} {G:aw} {o:Oper} {ts:List AV} {h h':List AO} {av:AV}
theorem KD{x:Operand}{x':AOp}(ho:o.op= .move x\/o.op= .assign x)(hx:cop x=some x')(he:ev G ts h (.mov x')=some (av,h')):Yld P G o ts h av h':=by
 simp only[ev,un,Xx,WO,Xc] at he;obtain⟨rfl,rfl⟩:=he;refine Yld.of_same λW S φ a H T=>⟨a.eval x,?_,ay hx T⟩;rcases ho with ho|ho<;>simp[execOp,ho]
theorem lN{W:World}{S:Nat->Prop}{φ:Place}{hp:Nat}{pv:PV}{x:Value}(h:VRel W S φ hp (.p pv) x):PRel W S pv x:=by cases h;assumption
theorem bS{W:World}{S:Nat->Prop}{φ:Place}{hp:Nat}{k:IntKind}{n:Int}{x:Value}(h:VRel W S φ hp (.p (.int k n)) x):x= .int k n:=by cases lN h;rfl
theorem jK{W:World}{S:Nat->Prop}{φ:Place}{hp:Nat}{b:Bool}{x:Value}(h:VRel W S φ hp (.p (.bool b)) x):x= .bool b:=by cases lN h;rfl
theorem Pt{W:World}{S:Nat->Prop}{φ:Place}{hp:Nat}{l:List UInt8}{x:Value}(h:VRel W S φ hp (.p (.str l)) x):x= .string ⟨⟨l⟩⟩:=by cases lN h;rfl
theorem Mv{x:Operand}{x':AOp}(ho:o.op= .nilCheck x)(hx:cop x=some x')(he:ev G ts h (.nilck x')=some (av,h')):Yld P G o ts h av h':=by
 simp only[ev,un,Wf,Xc] at he;obtain⟨v,h1,rfl,rfl⟩:=he;refine Yld.of_same λW S φ a H T=>?_;have hr:=ay hx T;generalize hy:a.eval x=y at hr
 have run:y≠ .pointer none->y≠ .nilIface->y≠ .nilFunc->(∀f g c,y= .func f g c->g=#[])->(execOp a.eval o).run P W= .ok (.value y) W:=by
  intro k2 k3 k4 k5;simp only[execOp,ho,hy];split
  ·simp_all
  ·simp_all
  ·simp_all
  ·rename_i nm g c _;have:=k5 _ _ _ rfl;subst this;simp
  ·rfl
 generalize x'.ev ts=u at h1 hr;cases hr<;>simp[NO] at h1<;>subst h1
 ·exact⟨_,run (by simp) (by simp) (by simp) (by simp),.ptr _ _ _ _ (by assumption)⟩
 ·exact⟨_,run (by simp) (by simp) (by simp) (by simp),.eptr _ _ _ _ (by assumption) (by assumption)⟩
 ·exact⟨_,run (by simp) (by simp) (by simp) (by simp),.gp _ _⟩
 ·exact⟨_,run (by simp) (by simp) (by simp) (by rintro f g c e;cases e;rfl),.fn _ _ _ (by assumption) (by assumption)⟩
theorem QY{x:Operand}{x':AOp}{t:TypeId}(ho:o.op= .unOp .not t x)(hx:cop x=some x')(he:ev G ts h (.not x')=some (av,h')):Yld P G o ts h av h':=by
 simp only[ev,Wf,Xc] at he;obtain⟨v,h1,rfl,rfl⟩:=he;refine Yld.of_same λW S φ a H T=>?_;have hr:=ay hx T;generalize x'.ev ts=u at h1 hr;unfold un at h1;split at h1<;>first|contradiction|skip
 cases h1;exact⟨_,by simp[execOp,ho,jK hr,Op.unary],.p _ _ (.bool _)⟩
theorem PP{x:Operand}{x':AOp}{t:TypeId}(ho:o.op= .unOp .neg t x)(hx:cop x=some x')(he:ev G ts h (.neg x')=some (av,h')):Yld P G o ts h av h':=by
 simp only[ev,Wf,Xc] at he;obtain⟨v,h1,rfl,rfl⟩:=he;refine Yld.of_same λW S φ a H T=>?_;have hr:=ay hx T;generalize x'.ev ts=u at h1 hr;unfold un at h1;split at h1<;>first|contradiction|skip
 cases h1;exact⟨_,by simp[execOp,ho,bS hr,Op.unary,Op.intArith],.p _ _ (.int _ _)⟩
theorem Nl{x:Operand}{x':AOp}{s d:TypeId}{k0 k:IntKind}(ho:o.op= .convert s d x)(hs:P.underlying s=some (.int k0))(hd:P.underlying d=some (.int k))(hx:cop x=some x')
 (he:ev G ts h (.conv k x')=some (av,h')):Yld P G o ts h av h':=by
 simp only[ev,Wf,Xc] at he;obtain⟨v,h1,rfl,rfl⟩:=he;refine Yld.of_same λW S φ a H T=>?_;have hr:=ay hx T;generalize x'.ev ts=u at h1 hr;unfold un at h1;split at h1<;>first|contradiction|skip
 rename_i e1;cases e1;cases h1;exact⟨_,by simp[execOp,ho,bS hr,convert,run_underlying hs,run_underlying hd,Conv.intToInt],.p _ _ (.int _ _)⟩
theorem QX{x:Operand}{x':AOp}{i:Nat}(ho:o.op= .extract x i)(hx:cop x=some x')(he:ev G ts h (.ext i x')=some (av,h')):Yld P G o ts h av h':=by
 simp only[ev,Wf,Xc] at he;obtain⟨v,h1,rfl,rfl⟩:=he;refine Yld.of_same λW S φ a H T=>?_;have hr:=ay hx T;generalize x'.ev ts=u at h1 hr;generalize hy:a.eval x=y at hr;unfold un at h1;split at h1<;>first|contradiction|skip
 rename_i cs heq;cases heq;cases hr with
 |tup _ vs hs hc=>
  have hi:i<cs.length:=(Wa.1 h1).1;have hv:vs[i]?=some vs[i]:=WW (by omega);exact⟨vs[i],by simp[execOp,ho,hy,Instr.extract,hv],hc i _ _ h1 hv⟩
theorem Cg{W:World}{a:Addr}{f:Field}{i:TypeInfo}(hi:P.info? f.type=some i)(hz:i.size≠0):(fieldPlace a f).run P W= .ok (a.add f.offset) W:=by simp[fieldPlace,sizeOf,typeInfo,hi,hz]
theorem fJ(b off n:Nat):(⟨b,off,none⟩:Addr).add n=⟨b,off+n,none⟩:=by unfold Addr.add;split<;>simp_all
theorem MX{x:Operand}{x':AOp}{s:TypeId}{f:Nat}{fs:Array Field}{fl:Field}{i:TypeInfo}(ho:o.op= .fieldAddr s x f)(hs:P.underlying s=some (.struct fs))(hf:fs[f]?=some fl)
 (hi:P.info? fl.type=some i)(hz:i.size≠0)(hx:cop x=some x')(he:ev G ts h (.fldA fl.offset x')=some (av,h')):Yld P G o ts h av h':=by
 simp only[ev,Wf,Xc] at he;obtain⟨v,h1,rfl,rfl⟩:=he;refine Yld.of_same λW S φ a H T=>?_;have hr:=ay hx T;generalize x'.ev ts=u at h1 hr;generalize hy:a.eval x=y at hr
 have run:∀b off,y= .pointer (some ⟨b,off,none⟩)->(execOp a.eval o).run P W= .ok (.value (.pointer (some ⟨b,off+fl.offset,none⟩))) W:=λb off e=>by simp[execOp,ho,hy,e,Instr.fieldAt,run_underlying hs,hf,Instr.sureAddr,Cg hi hz,fJ]
 cases hr<;>simp[un] at h1<;>subst h1
 ·exact⟨_,run _ _ rfl,by rw[XR,XR];exact .ptr _ _ _ _ (by assumption)⟩
 ·exact⟨_,run _ _ rfl,by rw[XR];exact .eptr _ _ _ _ (by assumption) (by assumption)⟩
 ·exact⟨_,run _ _ rfl,.gp _ _⟩
end
end Go.Aw
namespace Go.Aw
section
variable {P:Program} {G:aw} {o:Oper} {ts:List AV} {h h':List AO} {av:AV}
theorem Ix{f:PV->PV->Option PV}{a b v:AV}(h:uE f a b=some v):∃x y z,a= .p x/\b= .p y/\f x y=some z/\v= .p z:=by
 unfold uE at h;split at h
 ·rename_i x y;rw[Wf] at h;obtain⟨z,h1,rfl⟩:=h;exact⟨x,y,z,rfl,rfl,h1,rfl⟩
 ·cases h
theorem jD{α:Type}[BEq α][LawfulBEq α][DecidableEq α](a b:α):(a==b)=decide (a=b):=by rw[Yg];simp
theorem oH{f:PV->PV->Option PV}{x y:Operand}{x' y':AOp}(hx:cop x=some x')(hy:cop y=some y')(he:(uE f (x'.ev ts) (y'.ev ts)).map (·,h)=some (av,h'))
 (H:∀(W:World) (S:Nat->Prop) (a:Act) (p q z:PV),PRel W S p (a.eval x)->PRel W S q (a.eval y)->f p q=some z->∃v,(execOp a.eval o).run P W= .ok (.value v) W/\PRel W S z v):Yld P G o ts h av h':=by
 simp only[Wf,Xc] at he;obtain⟨v,h1,rfl,rfl⟩:=he;obtain⟨p,q,z,e1,e2,e3,rfl⟩:=Ix h1;refine Yld.of_same λW S φ a _ T=>?_;have hrx:=ay hx T;have hry:=ay hy T;rw[e1] at hrx;rw[e2] at hry;obtain⟨v,k1,k2⟩:=H W S a p q z (lN hrx) (lN hry) e3;exact⟨v,k1,.p _ _ k2⟩
theorem PS{op:BinOp}{t u:TypeId}{x y:Operand}{x' y':AOp}(ho:o.op= .binOp op t x y u)(hx:cop x=some x')(hy:cop y=some y')
 (he:ev G ts h (.bin op x' y')=some (av,h')):Yld P G o ts h av h':=by
 refine oH hx hy he λW S a p q z hp hq e3=>?_;unfold Od at e3;split at e3<;>first|contradiction|skip
 rename_i k n k' m;generalize hvx:a.eval x=vx at hp;generalize hvy:a.eval y=vy at hq;cases hp;cases hq;split at e3
 ·simp only[shB] at e3;split at e3<;>first|(cases e3;done)|skip
  rename_i h0;cases e3;exact⟨.int _ _,by simp[execOp,ho,hvx,hvy,eqGuard,binOp,Op.shift,show¬m<0 by omega],.int _ _⟩
 ·simp only[shB] at e3;split at e3<;>first|(cases e3;done)|skip
  rename_i h0;cases e3;exact⟨.int _ _,by simp[execOp,ho,hvx,hvy,eqGuard,binOp,Op.shift,show¬m<0 by omega],.int _ _⟩
 ·rename_i n1 n2;split at e3
  ·rename_i hk;subst hk
   by_cases hop:op= .andNot
   ·subst hop;simp only[PD,WO] at e3;subst e3;exact⟨.int _ _,by simp only[execOp,ho,hvx,hvy];simp[eqGuard,binOp,Op.intBits],.int _ _⟩
   cases op<;>simp[PD] at e3<;>first
    |(exact absurd rfl hop)
    |(subst e3;exact⟨.int _ _,by simp[execOp,ho,hvx,hvy,eqGuard,binOp,Op.intArith,Op.intCmp]<;>rfl,.int _ _⟩)
    |(subst e3;exact⟨.bool _,by simp[execOp,ho,hvx,hvy,eqGuard,binOp,Op.intCmp]<;>rfl,.bool _⟩)
    |(obtain⟨h0,rfl⟩:=e3;exact⟨.int _ _,by simp[execOp,ho,hvx,hvy,eqGuard,binOp,Op.intDiv,h0]<;>rfl,.int _ _⟩)
    |(subst e3;exact⟨.int _ _,by simp[execOp,ho,hvx,hvy,eqGuard,binOp,Op.intBits],.int _ _⟩)
  ·cases e3
theorem NL{op:BinOp}{t u:TypeId}{x y:Operand}{x' y':AOp}(ho:o.op= .binOp op t x y u)(hx:cop x=some x')(hy:cop y=some y')
 (he:ev G ts h (.bins op x' y')=some (av,h')):Yld P G o ts h av h':=by
 refine oH hx hy he λW S a p q z hp hq e3=>?_;unfold Iw at e3;split at e3<;>first|contradiction|skip
 rename_i l m;generalize hvx:a.eval x=vx at hp;generalize hvy:a.eval y=vy at hq;cases hp;cases hq;cases op<;>simp[NM] at e3
 ·obtain⟨h0,rfl⟩:=e3
  have h1:¬((((⟨⟨l⟩⟩:ByteArray).size+(⟨⟨m⟩⟩:ByteArray).size:Nat):Int)>IntKind.i64.max):=by
   have e:IntKind.i64.max=9223372036854775807:=(by decide);rw[e];have:(⟨⟨l⟩⟩:ByteArray).size=l.length:=rfl;have:(⟨⟨m⟩⟩:ByteArray).size=m.length:=rfl;omega
  refine⟨.string ⟨⟨l++m⟩⟩,?_,.str _⟩;simp only[execOp,ho,hvx,hvy,eqGuard,binOp,Op.stringOp,WB h1]
  have:(⟨⟨l⟩⟩:ByteArray)++⟨⟨m⟩⟩=⟨⟨l++m⟩⟩:=by
   apply ByteArray.ext;simp[ByteArray.data_append]
  rw[this];rfl
 ·subst e3;exact⟨_,by simp[execOp,ho,hvx,hvy,eqGuard,binOp,Op.stringOp,ByteArray.toList_eq,jD],.bool _⟩
 ·subst e3;exact⟨_,by simp[execOp,ho,hvx,hvy,eqGuard,binOp,Op.stringOp,ByteArray.toList_eq,jD],.bool _⟩
theorem oR{t:TypeId}(ht:P.underlying t=some .bool)(a b:Bool)(w:World):(Op.equal t (.bool a) (.bool b)).run P w= .ok (decide (a=b)) w:=by
 have:∀d,(Op.equalIn (d+1) t (.bool a) (.bool b)).run P w= .ok (decide (a=b)) w:=λd=>by simp[Op.equalIn,run_underlying ht,jD]
 exact this 9999
theorem Kb{ne:Bool}{t u:TypeId}{x y:Operand}{x' y':AOp}(ho:o.op= .binOp (if ne then .neq else .eql) t x y u)(ht:P.underlying t=some .bool)(hx:cop x=some x')(hy:cop y=some y')
 (he:ev G ts h (.beq ne x' y')=some (av,h')):Yld P G o ts h av h':=by
 refine oH hx hy he λW S a p q z hp hq e3=>?_;unfold Pv at e3;split at e3<;>first|contradiction|skip
 rename_i l m;generalize hvx:a.eval x=vx at hp;generalize hvy:a.eval y=vy at hq;cases hp;cases hq;cases ne<;>simp at e3 ho<;>subst e3
 ·exact⟨.bool _,by simp[execOp,ho,hvx,hvy,eqGuard,binOp,oR ht]<;>rfl,.bool _⟩
 ·exact⟨.bool _,by simp[execOp,ho,hvx,hvy,eqGuard,binOp,oR ht]<;>rfl,.bool _⟩
theorem RZ{x y:Operand}{x' y':AOp}{c:Call}(ho:o.op= .call c)(hc:c.callee= .builtin .max)(ha:c.args=#[x,y])(hx:cop x=some x')(hy:cop y=some y')
 (he:ev G ts h (.mx x' y')=some (av,h')):Yld P G o ts h av h':=by
 refine oH hx hy he λW S a p q z hp hq e3=>?_;unfold Rx at e3;split at e3<;>first|contradiction|skip
 cases e3;generalize hvx:a.eval x=vx at hp;generalize hvy:a.eval y=vy at hq;cases hp;cases hq;exact⟨_,by simp[execOp,ho,hc,ha,hvx,hvy,resolve,invoke,builtin,Builtin.max_,Builtin.max2],.int _ _⟩
theorem RP{x y:Operand}{x' y':AOp}{c:Call}(ho:o.op= .call c)(hc:c.callee= .builtin .min)(ha:c.args=#[x,y])(hx:cop x=some x')(hy:cop y=some y')
 (he:ev G ts h (.mn x' y')=some (av,h')):Yld P G o ts h av h':=by
 refine oH hx hy he λW S a p q z hp hq e3=>?_;unfold Sw at e3;split at e3<;>first|contradiction|skip
 cases e3;generalize hvx:a.eval x=vx at hp;generalize hvy:a.eval y=vy at hq;cases hp;cases hq;exact⟨_,by simp[execOp,ho,hc,ha,hvx,hvy,resolve,invoke,builtin,Builtin.min_,Builtin.min2],.int _ _⟩
theorem Dm{t e:TypeId}(ht:P.underlying t=some (.pointer e))(b:Option Addr)(w:World):
 (Op.equal t (.pointer none) (.pointer b)).run P w= .ok b.isNone w/\(Op.equal t (.pointer b) (.pointer none)).run P w= .ok b.isNone w:=by
 have h1:∀d,(Op.equalIn (d+1) t (.pointer none) (.pointer b)).run P w= .ok b.isNone w:=λd=>by simp[Op.equalIn,run_underlying ht]
 have h2:∀d,(Op.equalIn (d+1) t (.pointer b) (.pointer none)).run P w= .ok b.isNone w:=λd=>by cases b<;>simp[Op.equalIn,run_underlying ht]
 exact⟨h1 9999,h2 9999⟩
theorem Ey{t e:TypeId}(ht:P.underlying t=some (.slice e))(b:Option Addr)(l c:Nat)(w:World):
 (Op.equal t (.slice none 0 0) (.slice b l c)).run P w= .ok b.isNone w/\(Op.equal t (.slice b l c) (.slice none 0 0)).run P w= .ok b.isNone w:=by
 have h1:∀d,(Op.equalIn (d+1) t (.slice none 0 0) (.slice b l c)).run P w= .ok b.isNone w:=λd=>by simp[Op.equalIn,run_underlying ht]
 have h2:∀d,(Op.equalIn (d+1) t (.slice b l c) (.slice none 0 0)).run P w= .ok b.isNone w:=λd=>by cases b<;>simp[Op.equalIn,run_underlying ht]
 exact⟨h1 9999,h2 9999⟩
theorem MT{ne:Bool}{t u e:TypeId}{x y z:Operand}(ho:o.op= .binOp (if ne then .neq else .eql) t x y u)(hxy:(x=z/\y= .const (.slice none 0 0))\/(x= .const (.slice none 0 0)/\y=z))
 (ht:P.underlying t=some (.slice e)){b:Option Addr}{l c:Nat}{a:Act}(hv:a.eval z= .slice b l c)(W:World):
 (execOp a.eval o).run P W= .ok (.value (.bool (if ne then !b.isNone else b.isNone))) W:=by
 obtain⟨k1,k2⟩:=Ey ht b l c W;have hn:a.eval (.const (.slice none 0 0))= .slice none 0 0:=rfl;rcases hxy with⟨rfl,rfl⟩|⟨rfl,rfl⟩<;>cases ne<;>simp only[ho,execOp,hv,hn]<;>cases b<;>simp_all [eqGuard,binOp]
theorem tM{t:TypeId}{ps rs:Array TypeId}{v:Bool}(ht:P.underlying t=some (.func ps rs v))(f:Fn)(c g:Array Value)(w:World):
 (Op.equal t .nilFunc .nilFunc).run P w= .ok true w/\(Op.equal t .nilFunc (.func f c g)).run P w= .ok false w/\(Op.equal t (.func f c g) .nilFunc).run P w= .ok false w:=by
 have h1:∀d,(Op.equalIn (d+1) t .nilFunc .nilFunc).run P w= .ok true w:=λd=>by simp[Op.equalIn,run_underlying ht]
 have h2:∀d,(Op.equalIn (d+1) t .nilFunc (.func f c g)).run P w= .ok false w:=λd=>by simp[Op.equalIn,run_underlying ht]
 have h3:∀d,(Op.equalIn (d+1) t (.func f c g) .nilFunc).run P w= .ok false w:=λd=>by simp[Op.equalIn,run_underlying ht]
 exact⟨h1 9999,h2 9999,h3 9999⟩
theorem tR{kd:Nat}{ne:Bool}{t u e:TypeId}{x y z:Operand}{nl:Value}{x':AOp}(ho:o.op= .binOp (if ne then .neq else .eql) t x y u)
 (hxy:(x=z/\y= .const nl)\/(x= .const nl/\y=z))
 (ht:(kd=0/\P.underlying t=some (.pointer e)/\nl= .pointer none)\/(∃ps rs v,kd=1/\P.underlying t=some (.func ps rs v)/\nl= .nilFunc))(hx:cop z=some x')
 (he:ev G ts h (.pnil kd ne x')=some (av,h')):Yld P G o ts h av h':=by
 simp only[ev,Wf,Xc] at he;obtain⟨b,h1,rfl,rfl⟩:=he;refine Yld.of_same λW S φ a _ T=>?_;have hr:=ay hx T;generalize hvx:a.eval z=vx at hr;generalize x'.ev ts=ax at h1 hr;have hn:a.eval (.const nl)=nl:=rfl;refine⟨.bool (if ne then !b else b),?_,.p _ _ (.bool _)⟩;rcases ht with⟨rfl,ht,rfl⟩|⟨ps,rs,v,rfl,ht,rfl⟩
 ·have key:∀q,vx= .pointer q->q.isNone=b->(execOp a.eval o).run P W= .ok (.value (.bool (if ne then !b else b))) W:=λq hq hb=>by
   subst hq;obtain⟨k1,k2⟩:=Dm ht q W;rcases hxy with⟨rfl,rfl⟩|⟨rfl,rfl⟩<;>cases ne<;>simp only[ho,execOp,hvx,hn]<;>cases q<;>simp_all [eqGuard,binOp]
  cases hr<;>simp[EL] at h1<;>subst h1
  ·exact key _ rfl rfl
  ·exact key _ rfl rfl
  ·exact key _ rfl rfl
  ·exact key _ rfl rfl
 ·cases hr<;>simp[EL] at h1<;>subst h1
  ·rename_i f caps vs _ _;obtain⟨k1,k2,k3⟩:=tM ht f #[] vs W;rcases hxy with⟨rfl,rfl⟩|⟨rfl,rfl⟩<;>cases ne<;>simp[ho,execOp,hvx,hn,eqGuard,binOp,k2,k3]
  ·obtain⟨k1,k2,k3⟩:=tM ht (.func 0) #[] #[] W;rcases hxy with⟨rfl,rfl⟩|⟨rfl,rfl⟩<;>cases ne<;>simp[ho,execOp,hvx,hn,eqGuard,binOp,k1]
theorem Ky{b:Bool}{x:Operand}{x':AOp}{c:Call}{t e:TypeId}(ho:o.op= .call c)(hc:c.callee= .builtin .len)(ha:c.args=#[x])(hat:c.argTypes=#[t])
 (ht:P.underlying t=some (if b then .string else .slice e))(hx:cop x=some x')(he:ev G ts h (.len b x')=some (av,h')):Yld P G o ts h av h':=by
 simp only[ev,Wf,Xc] at he;obtain⟨v,h1,rfl,rfl⟩:=he;refine Yld.of_same λW S φ a _ T=>?_;have hr:=ay hx T;generalize hvx:a.eval x=vx at hr;generalize hax:x'.ev ts=ax at h1 hr;cases b
 ·have run:∀ad n cap,vx= .slice ad n cap->(execOp a.eval o).run P W= .ok (.value (.int .i64 n)) W:=λad n cap e1=>by
   subst e1;simp[execOp,ho,hc,ha,hat,hvx,resolve,invoke,builtin,Builtin.len_,run_underlying ht,goInt]
  cases hr<;>simp[un] at h1
  ·rename_i pv hp;cases hp<;>simp at h1<;>subst h1
   ·exact⟨_,run _ _ _ rfl,.p _ _ (.int _ _)⟩
   ·exact⟨_,run _ _ _ rfl,.p _ _ (.int _ _)⟩
  ·subst h1;exact⟨_,run _ _ _ rfl,.p _ _ (.int _ _)⟩
  ·subst h1;exact⟨_,run _ _ _ rfl,.p _ _ (.int _ _)⟩
 ·cases hr<;>simp[un] at h1;rename_i pv hp;cases hp<;>simp at h1;rename_i l;subst h1;have hsz:(⟨⟨l⟩⟩:ByteArray).size=l.length:=rfl;exact⟨_,by simp[execOp,ho,hc,ha,hat,hvx,resolve,invoke,builtin,Builtin.len_,run_underlying ht,goInt,hsz],.p _ _ (.int _ _)⟩
end
end Go.Aw
namespace Go.Aw
def su(P:Program)(t:TypeId):Option (Option Nat):=
 match P.underlying t,P.info? t with
 |some (.struct _),some i=>some (some i.size)
 |some (.array _ _),some i=>some (some i.size)
 |some _,some i=>if i.size=1 then some none else none
 |_,_=>none
section
variable {P:Program} {G:aw} {o:Oper} {ts:List AV} {h h':List AO} {av:AV}
theorem vq{t:TypeId}{r:Option Nat}(h:su P t=some r)(W:World):(isAgg t).run P W= .ok r.isSome W/\∀n,r=some n->(sizeOf t).run P W= .ok n W:=by
 unfold su at h;split at h<;>first|(cases h;done)|skip
 ·rename_i fs i h1 h2;cases h;exact⟨by simp[isAgg,run_underlying h1],λn e=>by cases e;simp[sizeOf,typeInfo,h2]⟩
 ·rename_i k e i h1 h2;cases h;exact⟨by simp[isAgg,run_underlying h1],λn e=>by cases e;simp[sizeOf,typeInfo,h2]⟩
 ·rename_i d i hn1 hn2 h1 h2;split at h
  ·cases h;refine⟨?_,λn e=>by cases e⟩;cases d<;>first|(exact(hn1 _ rfl).elim)|(exact(hn2 _ _ rfl).elim)|(simp[isAgg,run_underlying h1])
  ·cases h
theorem Bp{W:World}{S:Nat->Prop}{φ:Place}{n:Nat}{cs:List AV}{vs:Array Value}{off:Nat}{r:Option Nat}{v:AV}{t:TypeId}(hr:su P t=some r)
 (hs:cs.length<=vs.size)(hc:∀(j:Nat) (c:AV) (v:Value),cs[j]?=some c->vs[j]?=some v->VRel W S φ n c v)(he:iZ cs off r=some v):
 ∃x,(part t vs off).run P W= .ok x W/\VRel W S φ n v x:=by
 obtain⟨h1,h2⟩:=vq hr W;unfold iZ at he;split at he
 ·split at he
  ·rename_i c hcc;split at he
   ·cases he;have hi:off<cs.length:=(Wa.1 hcc).1;have hv:vs[off]?=some vs[off]:=WW (by omega);exact⟨vs[off],by simp[part,h1,hv],hc off _ _ hcc hv⟩
   ·cases he
  ·cases he
 ·rename_i m;split at he
  ·rename_i hm;cases he;refine⟨.agg (vs.extract off (off+m)),by simp[part,h1,h2 m rfl],.agg _ _ (by simp;omega) λj c x e1 e2=>?_⟩;rw[Xo] at e1;split at e1
   ·rename_i hj;rw[WZ] at e1;rw[Array.getElem?_extract] at e2;split at e2
    ·exact hc _ _ _ e1 e2
    ·cases e2
   ·cases e1
  ·cases he
theorem Ni{t:TypeId}{x:Operand}{x':AOp}{f:Nat}{fs:Array Field}{fl:Field}{r:Option Nat}(ho:o.op= .field t x f)(ht:P.underlying t=some (.struct fs))(hf:fs[f]?=some fl)
 (hr:su P fl.type=some r)(hx:cop x=some x')(he:ev G ts h (.fldv fl.offset r x')=some (av,h')):Yld P G o ts h av h':=by
 simp only[ev] at he;split at he<;>first|(cases he;done)|skip
 rename_i cs e1;simp only[Wf,Xc] at he;obtain⟨v,h1,rfl,rfl⟩:=he;refine Yld.of_same λW S φ a H T=>?_;have hrx:=ay hx T;rw[e1] at hrx;generalize hvx:a.eval x=vx at hrx;cases hrx with
 |agg _ vs hs hc=>
  obtain⟨y,k1,k2⟩:=Bp (P:=P) hr (by omega) hc h1;exact⟨y,by simp[execOp,ho,hvx,Instr.field,run_underlying ht,hf,asAgg,k1],k2⟩
theorem Pd{t e:TypeId}{m:Nat}{x i:Operand}{x' i':AOp}{ei:TypeInfo}{r:Option Nat}(ho:o.op= .index t x i)(ht:P.underlying t=some (.array m e))(hei:P.info? e=some ei)(hr:su P e=some r)(hx:cop x=some x')(hi:cop i=some i')
 (he:ev G ts h (.idxV m ei.size r x' i')=some (av,h')):Yld P G o ts h av h':=by
 simp only[ev] at he;split at he<;>first|(cases he;done)|skip
 rename_i cs k n e1 e2;split at he<;>first|(cases he;done)|skip
 rename_i hn;simp only[Wf,Xc] at he;obtain⟨v,h1,rfl,rfl⟩:=he;refine Yld.of_same λW S φ a H T=>?_;have hrx:=ay hx T;have hri:=ay hi T;rw[e1] at hrx;rw[e2] at hri;generalize hvx:a.eval x=vx at hrx;cases hrx with
 |agg _ vs hs hc=>
  obtain⟨y,k1,k2⟩:=Bp (P:=P) hr (by omega) hc h1;exact⟨y,by simp[execOp,ho,hvx,bS hri,Instr.index,asIntOf,run_underlying ht,sizeOf,typeInfo,hei,hn,k1],k2⟩
theorem Om{t e:TypeId}{x i:Operand}{x' i':AOp}{ei:TypeInfo}(ho:o.op= .indexAddr t x i)(ht:P.underlying t=some (.slice e))(hei:P.info? e=some ei)(hx:cop x=some x')(hi:cop i=some i')
 (he:ev G ts h (.idxS ei.size x' i')=some (av,h')):Yld P G o ts h av h':=by
 refine λW S φ a H T=>?_;have hrx:=ay hx T;have hri:=ay hi T;generalize hvx:a.eval x=vx at hrx;generalize hvi:a.eval i=vi at hri
 have run:∀(k:IntKind) (n:Int) (len cap:Nat) (ad:Addr),vi= .int k n->vx= .slice (some ad) len cap->0<=n->n<len->
  (execOp a.eval o).run P W= .ok (.value (.pointer (some (ad.add (n.toNat*ei.size))))) W:=λk n len cap ad e1 e2 h1 h2=>by
  subst e1;subst e2;simp[execOp,ho,hvx,hvi,Instr.indexAt,asIntOf,run_underlying ht,sizeOf,typeInfo,hei,h1,h2]
 have fin:∀(av':AV) (x:Value),(execOp a.eval o).run P W= .ok (.value x) W->VRel W S φ h.length av' x->av'=av->h=h'->
  ∃n v W' S' φ',(execOp a.eval o).run P W= .ok n W'/\NV n v/\VRel W' S' φ' h'.length av v/\HRel G W' S' φ' h'/\Keep W S φ h W' S' φ' h':=λav' x r1 r2 r3 r4=>by
  subst r3;subst r4;exact⟨_,_,W,S,φ,r1,.value _,r2,H,Keep.refl H⟩
 simp only[ev] at he;split at he<;>first|(cases he;done)|skip
 ·rename_i sz es k n e1 e2;rw[e1] at hrx;rw[e2] at hri;split at he<;>first|(cases he;done)|skip
  rename_i hn;obtain⟨rfl,hn⟩:=hn;simp only[Wf,Xc] at he;obtain⟨e',hee,he1,he2⟩:=he;have hlt:=(Wa.1 hee).1;have hp:=lN hrx;cases hp with
  |lst0=>simp at hlt
  |lst _ _ b off cap vs hb hsz hcap hcc hcr=>
   refine fin (.eptr e' 0) _ (run k n _ _ _ (bS hri) rfl hn (by omega)) ?_ he1 he2;rw[fJ]
   exact .eptr e' 0 b (off+n.toNat*ei.size) hb λj c hj=>by
    have hj':j<ei.size:=(by rw[←hsz e' (Wq hee)];exact(Wa.1 hj).1);have hfl:=aZ hsz n.toNat j hj';rw[hee] at hfl;simp only[YC,hj] at hfl;exact⟨_,by rw[XR];exact hcc _ _ hfl,hcr _ _ hfl⟩
 ·rename_i id sz off len k n e1 e2;rw[e1] at hrx;rw[e2] at hri;split at he
  ·rename_i hn;cases he;obtain⟨hs,hn1,hn2⟩:=hn;subst hs;cases hrx with
   |sl _ _ _ _ cap ba hid hl hb hc=>
    rw[hb (by omega)] at hvx;refine fin (.ptr id ei.size (off+n.toNat) 0) _ (run k n _ _ _ (bS hri) (by rw[hb (by omega)]) hn1 hn2) ?_ rfl rfl;rw[fJ,show(φ id).2+off*ei.size+n.toNat*ei.size=(φ id).2+((off+n.toNat)*ei.size+0) by rw[Xz];omega];exact .ptr _ _ _ _ hid
  ·cases he
theorem ML{W:World}{S:Nat->Prop}{φ:Place}(H:HRel G W S φ h){ax:AV}{x:Value}{cs:List AV}{off:Nat}(hr:VRel W S φ h.length ax x)(he:nf G h ax=some (cs,off)):
 ∃b o',x= .pointer (some ⟨b,o'+off,none⟩)/\∀(j:Nat) (c:AV),cs[j]?=some c->∃v,W.cell? ⟨b,o'+j,none⟩=some v/\VRel W S φ h.length c v:=by
 cases hr<;>simp only[nf] at he<;>first|(cases he;done)|skip
 ·rename_i id esz i o' hid;split at he<;>first|(cases he;done)|skip
  rename_i sz es hrow;split at he<;>first|(cases he;done)|skip
  rename_i hs;subst hs;simp only[Wf,Xc] at he;obtain⟨e',h1,rfl,rfl⟩:=he;obtain⟨c,t,fr,k1,k2,k3,k4,k5⟩:=H.obj id sz es hrow;refine⟨(φ id).1,(φ id).2+i*sz,by rw[XR],λj c' hj=>?_⟩;have hj':j<sz:=by rw[←k3 e' (Wq h1)];exact(Wa.1 hj).1
  have hfl:=aZ k3 i j hj';rw[h1] at hfl;simp only[YC,hj] at hfl;obtain⟨_,v,v1,v2⟩:=k5 _ _ hfl;exact⟨v,by simp only[World.cell?,k1];simp[XR,v1],v2⟩
 ·rename_i e off' b o' hb hc;simp only[WO,Xc] at he;obtain⟨rfl,rfl⟩:=he;refine⟨b,o',rfl,λj c hj=>?_⟩;simp only[Wl,Wf] at hj;obtain⟨c',hj,rfl⟩:=hj;obtain⟨v,v1,v2⟩:=hc j c' hj;exact⟨v,v1,.p _ _ v2⟩
 ·rename_i g off';simp only[Wf,Xc] at he;obtain⟨gs,h1,rfl,rfl⟩:=he;refine⟨g,0,by simp,λj c hj=>?_⟩;simp only[Wl,Wf] at hj;obtain⟨c',hj,rfl⟩:=hj;obtain⟨v,v1,v2⟩:=(H.glob g gs h1).2 j c' hj;exact⟨v,by simpa using v1,.p _ _ v2⟩
theorem zn{W:World}{S:Nat->Prop}{φ:Place}{n b o':Nat}{cs:List AV}
 (hc:∀(j:Nat) (c:AV),cs[j]?=some c->∃v,W.cell? ⟨b,o'+j,none⟩=some v/\VRel W S φ n c v):
 ∃vs:List Value,vs.length=cs.length/\(∀(j:Nat) (v:Value),vs[j]?=some v->W.cell? ⟨b,o'+j,none⟩=some v)/\
  ∀(j:Nat) (c:AV) (v:Value),cs[j]?=some c->vs[j]?=some v->VRel W S φ n c v:=by
 induction cs generalizing o' with
 |nil=>exact⟨[],rfl,λj v h=>by simp at h,λj c v h=>by simp at h⟩
 |cons c r ih=>
  obtain⟨v,h1,h2⟩:=hc 0 c rfl
  obtain⟨vs,k1,k2,k3⟩:=ih (o':=o'+1) λj c' hj=>by
   have:=hc (j+1) c' (by simpa using hj);rwa[show o'+(j+1)=o'+1+j by omega] at this
  refine⟨v::vs,by simp[k1],λj x hj=>?_,λj c' x hj hx=>?_⟩
  ·cases j with
   |zero=>simp at hj;subst hj;exact h1
   |succ j=>simp at hj;have:=k2 j x hj;rwa[show o'+1+j=o'+(j+1) by omega] at this
  ·cases j with
   |zero=>simp at hj hx;subst hj;subst hx;exact h2
   |succ j=>simp at hj hx;exact k3 j c' x hj hx
theorem Sf{t:TypeId}{x:Operand}{x':AOp}{r:Option Nat}(ho:o.op= .load t x)(hr:su P t=some r)(hx:cop x=some x')
 (he:ev G ts h (.ld r x')=some (av,h')):Yld P G o ts h av h':=by
 simp only[ev] at he;split at he<;>first|(cases he;done)|skip
 rename_i cs off e1;simp only[Wf,Xc] at he;obtain⟨v,h1,rfl,rfl⟩:=he;refine Yld.of_same λW S φ a H T=>?_;have hrx:=ay hx T;generalize hvx:a.eval x=vx at hrx;obtain⟨b,o',rfl,hc⟩:=ML H hrx e1;obtain⟨hA,hz⟩:=vq hr W;unfold iZ at h1;split at h1
 ·split at h1
  ·rename_i c hcc;split at h1
   ·cases h1;obtain⟨y,k1,k2⟩:=hc off _ hcc;exact⟨y,by simp[execOp,ho,hvx,Instr.loadAt,Instr.sureAddr,loadVar,hA,load,Sem.run,k1],k2⟩
   ·cases h1
  ·cases h1
 ·rename_i m;split at h1
  ·rename_i hm;cases h1
   obtain⟨vs,q1,q2,q3⟩:=zn (W:=W) (S:=S) (φ:=φ) (n:=h.length) (b:=b) (o':=o'+off) (cs:=(cs.drop off).take m) λj c hj=>by
    rw[Xo] at hj;split at hj
    ·rw[WZ] at hj;have:=hc (off+j) c hj;rwa[←XR] at this
    ·cases hj
   have hlen:vs.length=m:=(by rw[q1];simp;omega);refine⟨.agg vs.toArray,?_,.agg _ _ (by simp[q1]) λj c v e1 e2=>q3 j c v e1 (by simpa using e2)⟩;have hl:=run_loadCells_list (P:=P) W ⟨b,o'+off,none⟩ vs λj v hj=>(by rw[fJ];exact q2 j v hj);rw[hlen] at hl;simp[execOp,ho,hvx,Instr.loadAt,Instr.sureAddr,loadVar,hA,hz m rfl,hl]
  ·cases h1
theorem QN{fn:Fn}{caps:Array Operand}{cs':List AOp}(ho:o.op= .makeFunc fn #[] caps)(hx:caps.toList.mapM cop=some cs')
 (he:ev G ts h (.mkf fn cs')=some (av,h')):Yld P G o ts h av h':=by
 simp only[ev,WO,Xc] at he;obtain⟨rfl,rfl⟩:=he;refine Yld.of_same λW S φ a H T=>⟨.func fn #[] (caps.map a.eval),by simp[execOp,ho,Instr.makeFunc],?_⟩
 have key:∀(l:List Operand) (l':List AOp),l.mapM cop=some l'->l.length=l'.length/\∀(j:Nat) (c:AV) (v:Value),(l'.map (·.ev ts))[j]?=some c->(l.map a.eval)[j]?=some v->VRel W S φ h.length c v:=by
  intro l
  induction l with
  |nil=>intro l' e;simp at e;subst e;exact⟨rfl,λj c v h=>by simp at h⟩
  |cons y r ih=>
   intro l' e;simp only[Zd] at e;cases hy:cop y with
   |none=>rw[hy] at e;cases e
   |some y'=>
    cases hr:r.mapM cop with
    |none=>rw[hy,hr] at e;cases e
    |some r'=>
     rw[hy,hr] at e;cases e;obtain⟨i1,i2⟩:=ih r' hr;refine⟨by simp[i1],λj c v h1 h2=>?_⟩;cases j with
     |zero=>simp at h1 h2;subst h1;subst h2;exact ay hy T
     |succ j=>simp at h1 h2;exact i2 j c v (by simpa using h1) (by simpa using h2)
 obtain⟨k1,k2⟩:=key _ _ hx;exact .fn _ _ _ (by simp[←k1]) λj c v h1 h2=>k2 j c v h1 (by simpa using h2)
end
end Go.Aw
namespace Go.Aw
def FR:Option Operand->Option (Option AOp)
 |none=>some none
 |some x=>(cop x).map some
section
variable {P:Program} {G:aw} {o:Oper} {ts:List AV} {h h':List AO} {av:AV}
theorem Rz{W:World}{S:Nat->Prop}{φ:Place}{n:Nat}{a:Act}(T:TRel W S φ n ts a.tmps){x:Option Operand}{x':Option AOp}{l:Nat}(hx:FR x=some x')(he:lo? ts x'=some l):
 (x=none/\l=0)\/∃y k m,x=some y/\a.eval y= .int k m/\0<=m/\l=m.toNat:=by
 cases x with
 |none=>cases hx;simp[lo?] at he;exact .inl ⟨rfl,he.symm⟩
 |some y=>
  simp only[FR,Wf] at hx;obtain⟨y',h1,rfl⟩:=hx;have hr:=ay h1 T;simp only[lo?] at he;split at he<;>first|(cases he;done)|skip
  rename_i k m e1;split at he<;>first|(cases he;done)|skip
  rename_i h0;cases he;rw[e1] at hr;exact .inr ⟨y,k,m,rfl,bS hr,h0,rfl⟩
theorem SA{W:World}{S:Nat->Prop}{φ:Place}{n:Nat}{a:Act}(T:TRel W S φ n ts a.tmps){x:Option Operand}{x':Option AOp}{d l:Nat}(hx:FR x=some x')(he:hi? ts d x'=some l):
 (x=none/\l=d)\/∃y k m,x=some y/\a.eval y= .int k m/\0<=m/\l=m.toNat:=by
 cases x with
 |none=>cases hx;simp[hi?] at he;exact .inl ⟨rfl,he.symm⟩
 |some y=>
  simp only[FR,Wf] at hx;obtain⟨y',h1,rfl⟩:=hx;have hr:=ay h1 T;simp only[hi?] at he;split at he<;>first|(cases he;done)|skip
  rename_i k m e1;split at he<;>first|(cases he;done)|skip
  rename_i h0;cases he;rw[e1] at hr;exact .inr ⟨y,k,m,rfl,bS hr,h0,rfl⟩
theorem ID{a:Act}{x y:Option Operand}{l m d cap:Nat}(isS:Bool)(h1:(x=none/\l=0)\/∃y k m,x=some y/\a.eval y= .int k m/\0<=m/\l=m.toNat)
 (h2:(y=none/\m=d)\/∃z k n,y=some z/\a.eval z= .int k n/\0<=n/\m=n.toNat)(hlm:l<=m)(hmc:m<=cap)(W:World):
 (Instr.sliceBounds isS d cap (x.map a.eval) (y.map a.eval) none).run P W= .ok (l,m,cap) W:=by
 rcases h2 with⟨rfl,rfl⟩|⟨z,k2,n,rfl,e2,n0,rfl⟩
 ·rcases h1 with⟨rfl,rfl⟩|⟨z,k1,n1,rfl,e1,n10,rfl⟩
  ·simp[Instr.sliceBounds]
  ·have:n1<=(m:Int):=by omega
   simp[Instr.sliceBounds,Instr.sliceBound,asIntOf,e1,n10,this]
 ·have q:n<=(cap:Int):=by omega
  rcases h1 with⟨rfl,rfl⟩|⟨z',k1,n1,rfl,e1,n10,rfl⟩
  ·simp[Instr.sliceBounds,Instr.sliceBound,asIntOf,e2,n0,q]
  ·have q2:n1<=max n 0:=by omega
   simp[Instr.sliceBounds,Instr.sliceBound,asIntOf,e1,n10,e2,n0,q,q2]
theorem ng{α:Type}{sz:Nat}{es:List (List α)}(hs:∀e∈es,e.length=sz)(l:Nat):(es.drop l).flatten=es.flatten.drop (l*sz):=by
 induction es generalizing l with
 |nil=>simp
 |cons e r ih=>
  have he:=hs e (Yj ..);have ih':=ih (λx hx=>hs x (Xb _ hx));cases l with
  |zero=>simp
  |succ l=>
   rw[List.drop_succ_cons,ih' l,WX,Xz,List.drop_append];simp only[Zb,he];rw[show List.drop (l*sz+sz) e=[] from List.drop_eq_nil_of_le (by omega),Nat.add_sub_cancel,Xj]
theorem jE{α:Type}{sz:Nat}{es:List (List α)}(hs:∀e∈es,e.length=sz)(l:Nat):(es.take l).flatten=es.flatten.take (l*sz):=by
 induction es generalizing l with
 |nil=>simp
 |cons e r ih=>
  have he:=hs e (Yj ..);have ih':=ih (λx hx=>hs x (Xb _ hx));cases l with
  |zero=>simp
  |succ l=>
   rw[Zt,WX,ih' l,WX,Xz,List.take_append];simp only[Zb,he];rw[show List.take (l*sz+sz) e=e from Wi (by omega),Nat.add_sub_cancel]
theorem MP{W:World}{S:Nat->Prop}{sz:Nat}{es:List (List PV)}{x:Value}(h:PRel W S (.lst sz es) x){l m:Nat}(hlm:l<=m)(hm:m<=es.length):
 ∃ad cap,x= .slice ad es.length cap/\es.length<=cap/\PRel W S (.lst sz ((es.take m).drop l)) (.slice (if cap=l then ad else ad.map (·.add (l*sz))) (m-l) (cap-l)):=by
 cases h with
 |lst0 _ a cap=>
  refine⟨a,cap,rfl,We _,?_⟩;have:m=0:=by simpa using hm
  subst this;have:l=0:=by omega
  subst this;exact .lst0 _ _ _
 |lst _ _ b off cap vs hb hsz hcap hc hr=>
  refine⟨_,cap,rfl,hcap,?_⟩;rcases Xh l m with hlt|hge
  ·rw[WB (by omega),Xx,fJ];have hlen:((es.take m).drop l).length=m-l:=by simp;omega
   rw[←hlen];have hall:∀e∈(es.take m).drop l,e.length=sz:=λe he=>hsz e (Xp (YE he))
   have key:∀(j:Nat) (c:PV),((es.take m).drop l).flatten[j]?=some c->es.flatten[l*sz+j]?=some c:=λj c hj=>by
    rw[ng (λe he=>hsz e (Xp he)),jE hsz,WZ,Xo] at hj;split at hj
    ·exact hj
    ·cases hj
   exact .lst _ _ b (off+l*sz) (cap-l) (λj=>vs (l*sz+j)) hb hall (by omega) (λj c hj=>by rw[XR];exact hc _ _ (key j c hj)) (λj c hj=>hr _ _ (key j c hj))
  ·have:m-l=0:=by omega
   rw[this,List.drop_eq_nil_of_le (by simp;omega)];exact .lst0 _ _ _
theorem Qo{t e:TypeId}{x:Operand}{lo hi:Option Operand}{x':AOp}{lo' hi':Option AOp}{ei:TypeInfo}(ho:o.op= .slice t x lo hi none)(ht:P.underlying t=some (.slice e))(hei:P.info? e=some ei)
 (hx:cop x=some x')(hlo:FR lo=some lo')(hhi:FR hi=some hi')(he:ev G ts h (.slS ei.size x' lo' hi')=some (av,h')):Yld P G o ts h av h':=by
 simp only[ev] at he;split at he<;>first|(cases he;done)|skip
 rename_i d hd;split at he<;>first|(cases he;done)|skip
 rename_i l m hl hm;simp only[Wf,Xc] at he;obtain⟨v,h1,rfl,rfl⟩:=he;refine Yld.of_same λW S φ a H T=>?_;have hrx:=ay hx T;have kl:=Rz T hlo hl;have km:=SA T hhi hm;generalize hvx:a.eval x=vx at hrx;generalize x'.ev ts=ax at hd h1 hrx
 have run:∀(ad:Option Addr) (cap:Nat),vx= .slice ad d cap->l<=m->m<=cap->
  (execOp a.eval o).run P W= .ok (.value (.slice (if cap=l then ad else ad.map (·.add (l*ei.size))) (m-l) (cap-l))) W:=λad cap e1 q1 q2=>by
  subst e1;have:=ID (P:=P) (cap:=cap) true kl km q1 q2 W;simp[execOp,ho,hvx,Instr.sliceAt,Instr.slice,run_underlying ht,this,sizeOf,typeInfo,hei]
 unfold Ss at h1;split at h1<;>first|(cases h1;done)|skip
 ·rename_i sz es;split at h1<;>first|(cases h1;done)|skip
  rename_i hlm;cases h1;obtain⟨rfl,q1,q2⟩:=hlm;obtain⟨ad,cap,rfl,hcap,hr⟩:=MP (lN hrx) q1 q2;cases hd;exact⟨_,run _ _ rfl q1 (by omega),.p _ _ hr⟩
 ·split at h1<;>first|(cases h1;done)|skip
  rename_i hlm;cases h1;obtain⟨rfl,rfl⟩:=hlm;cases hrx;cases hd;exact⟨_,run none 0 rfl (Wo _) (Wo _),.nils⟩
 ·rename_i id sz off len;split at h1<;>first|(cases h1;done)|skip
  rename_i hlm;cases h1;obtain⟨rfl,q1,q2⟩:=hlm;cases hrx with
  |sl _ _ _ _ cap ba hid hle hb hc=>
   cases hd;refine⟨_,run _ _ rfl q1 (by omega),.sl _ _ _ _ _ _ hid (by omega) (λhp=>?_) λc t fr hcc=>?_⟩
   ·rw[WB (by omega),hb (by omega),Xx,fJ,XR,←Xz]
   ·have:=hc c t fr hcc;rw[show off+l+(cap-l)=off+cap by omega];exact this
end
end Go.Aw
namespace Go.Aw
def Ptw(W:World)(S:Nat->Prop)(φ:Place)(n:Nat)(cs:List AV)(vs:List Value):Prop:=
 vs.length=cs.length/\∀(j:Nat) (c:AV) (v:Value),cs[j]?=some c->vs[j]?=some v->VRel W S φ n c v
section
variable {W:World} {S:Nat->Prop} {φ:Place} {n:Nat}
theorem rC{av:AV}{x:Value}(h:VRel W S φ n av x)(hc:av.cells.all AV.isCell=true):Ptw W S φ n av.cells x.cells.toList/\∀v∈x.cells.toList,v.oneC=true:=by
 by_cases ha:av.isCell=true
 ·have h1:=h.oneCell ha;have e1:x.cells=#[x]:=by cases x<;>first|rfl|(simp[Value.oneC] at h1)
  have e2:av.cells=[av]:=by cases av<;>first|rfl|(simp[AV.isCell] at ha)
  rw[e1,e2];refine⟨⟨rfl,λj c v h3 h4=>?_⟩,λv hv=>?_⟩
  ·cases j with
   |zero=>simp at h3 h4;subst h3;subst h4;exact h
   |succ j=>simp at h3
  ·simp at hv;subst hv;exact h1
 ·cases h with
  |agg cs vs hs hr=>
   refine⟨⟨by simpa[Value.cells,AV.cells] using hs,λj c v h1 h2=>hr j c v h1 (by simpa[Value.cells] using h2)⟩,λv hv=>?_⟩;simp only[Value.cells] at hv;obtain⟨j,hj⟩:=WA hv;have hl:j<cs.length:=(by rw[←hs];simpa using(Wa.1 hj).1);have hcj:=Wc hl;exact(hr j _ v hcj (by simpa using hj)).oneCell (Wu.1 hc _ (Wq hcj))
  |_=>first|(simp[AV.cells,AV.isCell] at hc;done)|(simp[AV.isCell] at ha;done)
theorem sP{e ys:List AV}{off:Nat}(h:off+ys.length<=e.length):(eS e off ys).length=e.length:=by simp[eS];omega
theorem AP{e ys:List AV}{off:Nat}(h:off+ys.length<=e.length)(j:Nat):(eS e off ys)[j]?=if off<=j/\j<off+ys.length then ys[j-off]? else e[j]?:=by
 have ho:(e.take off).length=off:=by rw[WD];omega
 unfold eS;rw[Wp,XI,XI,ho];split
 ·rw[Xo,Wz (by assumption),WB (by omega)]
 ·split
  ·rw[Wz (by omega)]
  ·rw[WB (by omega),WZ];congr 1;omega
theorem Jg{cs ys:List AV}{c:Array Value}{l:List Value}{off:Nat}(h:off+ys.length<=cs.length)(hc:Ptw W S φ n cs c.toList)(hy:Ptw W S φ n ys l):
 Ptw W S φ n (eS cs off ys) (wr c off l).toList:=by
 have e1:c.size=cs.length:=by simpa using hc.1
 have e2:l.length=ys.length:=hy.1;refine⟨by rw[sP h];simpa[fO] using e1,λj a v h1 h2=>?_⟩;rw[AP h] at h1;have h2':(wr c off l)[j]?=some v:=by simpa using h2
 rw[AR _ _ _ (by omega)] at h2';split at h1
 ·rw[Wz (by omega)] at h2';exact hy.2 _ _ _ h1 h2'
 ·rw[WB (by omega)] at h2';exact hc.2 _ _ _ h1 (by simpa using h2')
theorem NH(l:List Value):∀(c:Array Value) (off k:Nat),(l.zipIdx k).foldl (λcs (x:Value × Nat)=>cs.setIfInBounds (off+x.2) x.1) c=wr c (off+k) l:=by
 induction l with
 |nil=>intro c off k;rfl
 |cons v r ih=>intro c off k;simp only[ZG,Yy,wr];rw[ih];rfl
theorem LX(v:Value)(c:Array Value)(off:Nat):v.cells.zipIdx.foldl (λcs (c,j)=>cs.setIfInBounds (off+j) c) c=wr c off v.cells.toList:=by
 have:=NH v.cells.toList c off 0;rw[Yq] at this;rw[←this,←Array.foldl_toList,Array.toList_zipIdx]
def nh(place:Nat->Option (Nat × Nat)):List (Nat × Operand)->List (Nat × Nat × AOp)->Prop
 |[],[]=>True
 |(i,x)::r,(off,sz,y)::r'=>place i=some (off,sz)/\cop x=some y/\nh place r r'
 |_,_=>False
theorem oP{ts:List AV}{a:Act}(T:TRel W S φ n ts a.tmps)(place:Nat->Option (Nat × Nat)):∀(l:List (Nat × Operand)) (l':List (Nat × Nat × AOp)) (cs cs':List AV) (c:Array Value),
 nh place l l'->Ptw W S φ n cs c.toList->(∀v∈c.toList,v.oneC=true)->om ts cs l'=some cs'->
 ∃c',Instr.fill place c (l.map λ(i,x)=>(i,a.eval x))=some c'/\Ptw W S φ n cs' c'.toList/\(∀v∈c'.toList,v.oneC=true)/\cs'.length=cs.length
 |[],[],cs,cs',c,_,hp,h1,he=>by cases he;exact⟨c,rfl,hp,h1,rfl⟩
 |(i,x)::r,(off,sz,y)::r',cs,cs',c,hk,hp,h1,he=>by
  obtain⟨k1,k2,k3⟩:=hk;simp only[om] at he;split at he<;>first|(cases he;done)|skip
  rename_i hc;obtain⟨c1,c2,c3⟩:=hc;have hr:=ay k2 T;obtain⟨q1,q2⟩:=rC hr c2;have e1:(a.eval x).cells.size=sz:=by have:=q1.1;simp at this;omega
  have e2:c.size=cs.length:=by simpa using hp.1
  have hsp:=Jg (off:=off) (by omega) hp q1
  obtain⟨c',f1,f2,f3,f4⟩:=oP T place r r' _ cs' (wr c off (a.eval x).cells.toList) k3 hsp (λv hv=>by
   obtain⟨j,hj⟩:=WA hv;have hj':(wr c off (a.eval x).cells.toList)[j]?=some v:=(by simpa using hj);rw[AR _ _ _ (by simp;omega)] at hj';split at hj'
   ·exact q2 v (Wq hj')
   ·exact h1 v (Wq (by simpa using hj'))) he
  refine⟨c',?_,f2,f3,by rw[f4,sP (by omega)]⟩;simp only[WJ,Instr.fill,k1];rw[WB (by simp;omega),LX];exact f1
 |[],_::_,_,_,_,hk,_,_,_=>hk.elim
 |_::_,[],_,_,_,hk,_,_,_=>hk.elim
end
end Go.Aw
namespace Go.Aw
def fI(P:Program)(t:TypeId):Option (List AV):=
 match P.info? t with
 |some i=>match i.zero with
  |some z=>match cv z with
   |some a=>if a.cells.all AV.isCell=true/\a.cells.length=i.size then some a.cells else none
   |none=>none
  |none=>none
 |none=>none
section
variable {P:Program} {G:aw} {o:Oper} {ts:List AV} {h h':List AO} {av:AV}
theorem dE{t:TypeId}{z:List AV}(hz:fI P t=some z)(W:World)(S:Nat->Prop)(φ:Place)(n:Nat):
 ∃zv,(zeroValue t).run P W= .ok zv W/\Ptw W S φ n z zv.cells.toList/\(∀v∈zv.cells.toList,v.oneC=true)/\(∃i,P.info? t=some i/\i.size=z.length)/\z.all AV.isCell=true:=by
 unfold fI at hz;split at hz<;>first|(cases hz;done)|skip
 rename_i i hi;split at hz<;>first|(cases hz;done)|skip
 rename_i zv hzv;split at hz<;>first|(cases hz;done)|skip
 rename_i a ha;split at hz<;>first|(cases hz;done)|skip
 rename_i hc;cases hz;obtain⟨k1,k2⟩:=rC (HZ (W:=W) (S:=S) (φ:=φ) (n:=n) ha) hc.1;exact⟨zv,by simp[zeroValue,typeInfo,hi,hzv],k1,k2,⟨i,hi,hc.2.symm⟩,hc.1⟩
theorem mD{W:World}{S:Nat->Prop}{φ:Place}(H:HRel G W S φ h){es:List (List AV)}{sz:Nat}{c:Array Value}{t:TypeId}{l:List Value}(hsz:∀e∈es,e.length=sz)
 (hcell:es.flatten.all AV.isCell=true)(hp:Ptw W S φ h.length es.flatten l)(hl:∃r,c.toList=l++r)(W':World)(hW:W'.heap=(W.alloc (.cells c t)).heap)(h1:W'.os=W.os)(h2:W'.tape=W.tape)(h3:W'.output=W.output):
 HRel G W' S (upd φ h.length (W.heap.size,0)) (h++[.row sz es])/\Keep W S φ h W' S (upd φ h.length (W.heap.size,0)) (h++[.row sz es]):=by
 obtain⟨r,hr⟩:=hl;have hlen:=aK hsz
 refine H.push (d:=none) (B:=(W.heap.size,0)) (c:=c) (t:=t) (fr:=(0,0)) (sz:=sz) (es:=es) (.inl (Wo _)) (by rw[hW];show(W.heap.push _)[W.heap.size]?=_;simp) (λb hb _=>by rw[hW];show(W.heap.push _)[b]?=_;rw[Xv,WB (by omega)]) (by rw[hW];simp)
  h1 h2 h3 (by omega) hsz ?_ (λj a hj=>?_) rfl
 ·have e1:=hp.1;have:c.size=l.length+r.length:=by rw[←YA,hr,Wn]
  simp only[WV];omega
 ·have hjl:j<l.length:=by have:=(Wa.1 hj).1;rw[hp.1];exact this
  have hv:c[j]?=some l[j]:=by rw[←XZ,hr,Wb hjl,Wc hjl]
  exact⟨Wu.1 hcell a (Wq hj),l[j],by simpa using hv,hp.2 j a _ hj (Wc hjl)⟩
theorem PM{t:TypeId}{x:Operand}{x':AOp}{m:Nat}(ho:o.op= .box t x)(hx:cop x=some x')(he:ev G ts h (.box m x')=some (av,h')):Yld P G o ts h av h':=by
 simp only[ev] at he;split at he<;>first|(cases he;done)|skip
 rename_i hc;cases he;intro W S φ a H T;have hr:=ay hx T;obtain⟨k1,k2⟩:=rC hr hc.2;obtain⟨A,B⟩:=mD H (es:=[(x'.ev ts).cells]) (sz:=m) (c:=(a.eval x).cells) (t:=t) (l:=(a.eval x).cells.toList) (by simp[hc.1]) (by simpa using hc.2) (by simpa using k1) ⟨[],by simp⟩ (W.alloc (.cells (a.eval x).cells t)) rfl rfl rfl rfl;refine⟨.value (.pointer (some ⟨W.heap.size,0,none⟩)),_,_,S,_,?_,.value _,?_,A,B⟩
 ·simp[execOp,ho,Instr.box,newVar,newRow]
 ·have:=VRel.ptr (W:=W.alloc (.cells (a.eval x).cells t)) (S:=S) (φ:=upd φ h.length (W.heap.size,0)) (n:=(h++[AO.row m [(x'.ev ts).cells]]).length) h.length m 0 0 (by simp);simpa[upd] using this
theorem Lk{t:TypeId}{z:List AV}(ho:o.op= .alloc t)(hz:fI P t=some z)(he:ev G ts h (.alloc z)=some (av,h')):Yld P G o ts h av h':=by
 simp only[ev,WO,Xc] at he;obtain⟨rfl,rfl⟩:=he;intro W S φ a H T;obtain⟨zv,r1,r2,r3,⟨i,hi,his⟩,hcell⟩:=dE hz W S φ h.length;obtain⟨A,B⟩:=mD H (es:=[z]) (sz:=z.length) (c:=zv.cells) (t:=t) (l:=zv.cells.toList) (by simp) (by simpa using hcell) (by simpa using r2) ⟨[],by simp⟩ (W.alloc (.cells zv.cells t)) rfl rfl rfl rfl;refine⟨.value (.pointer (some ⟨W.heap.size,0,none⟩)),_,_,S,_,?_,.value _,?_,A,B⟩
 ·simp[execOp,ho,Instr.alloc,newVar,newRow,r1]
 ·have:=VRel.ptr (W:=W.alloc (.cells zv.cells t)) (S:=S) (φ:=upd φ h.length (W.heap.size,0)) (n:=(h++[AO.row z.length [z]]).length) h.length z.length 0 0 (by simp);simpa[upd] using this
theorem Pm{t:TypeId}{fs:Array Field}{parts:Array (Nat × Operand)}{parts':List (Nat × Nat × AOp)}{z:List AV}{places:Array (Nat × Nat)}(ho:o.op= .build t parts)(ht:P.underlying t=some (.struct fs))(hz:fI P t=some z)
 (hpl:fs.toList.mapM (λf=>(P.info? f.type).map λi=>(f.offset,i.size))=some places.toList)(hp:nh (places[·]?) parts.toList parts')
 (he:ev G ts h (.bld z parts')=some (av,h')):Yld P G o ts h av h':=by
 simp only[ev,Wf,Xc] at he;obtain⟨cs,h1,rfl,rfl⟩:=he;refine Yld.of_same λW S φ a H T=>?_;obtain⟨zv,r1,r2,r3,⟨i,hi,his⟩,hcell⟩:=dE hz W S φ h.length;obtain⟨c',f1,f2,f3,f4⟩:=oP T _ _ _ _ _ _ hp r2 r3 h1
 have hm:(fs.mapM λf=>(do pure (f.offset,←sizeOf f.type):Sem (Nat × Nat))).run P W= .ok places W:=by
  rw[Array.mapM_eq_mapM_toList]
  have key:∀(l:List Field) (r:List (Nat × Nat)),l.mapM (λf=>(P.info? f.type).map λi=>(f.offset,i.size))=some r->(l.mapM λf=>(do pure (f.offset,←sizeOf f.type):Sem (Nat × Nat))).run P W= .ok r W:=by
   intro l
   induction l with
   |nil=>intro r e;simp at e;subst e;simp
   |cons f l ih=>
    intro r e;simp only[Zd] at e⊢;cases hf:P.info? f.type with
    |none=>rw[hf] at e;cases e
    |some fi=>
     rw[hf] at e;cases hl:l.mapM (λf=>(P.info? f.type).map λi=>(f.offset,i.size)) with
     |none=>rw[hl] at e;cases e
     |some r'=>
      rw[hl] at e;cases e;have:=ih r' hl;simp[sizeOf,typeInfo,hf] at this⊢;simp[this]
  have:=key _ _ hpl;simp at this⊢;simp[this]
 refine⟨.agg c',?_,.agg _ _ (by simpa using f2.1) λj c v e1 e2=>f2.2 j c v e1 (by simpa using e2)⟩;have hm':(fs.mapM λf=>(Prod.mk f.offset<$>sizeOf f.type:Sem (Nat × Nat))).run P W= .ok places W:=by simpa using hm
 have f1':Instr.fill (λx=>places[x]?) zv.cells (parts.toList.map λx=>(x.1,a.eval x.2))=some c':=f1;simp[execOp,ho,Instr.build,run_underlying ht,r1,hm',f1']
theorem OB{t e:TypeId}{m:Nat}{parts:Array (Nat × Operand)}{parts':List (Nat × Nat × AOp)}{z:List AV}{ei:TypeInfo}(ho:o.op= .build t parts)(ht:P.underlying t=some (.array m e))(hz:fI P t=some z)
 (hei:P.info? e=some ei)(hp:nh (λi=>some (i*ei.size,ei.size)) parts.toList parts')
 (he:ev G ts h (.bld z parts')=some (av,h')):Yld P G o ts h av h':=by
 simp only[ev,Wf,Xc] at he;obtain⟨cs,h1,rfl,rfl⟩:=he;refine Yld.of_same λW S φ a H T=>?_;obtain⟨zv,r1,r2,r3,⟨i,hi,his⟩,hcell⟩:=dE hz W S φ h.length;obtain⟨c',f1,f2,f3,f4⟩:=oP T _ _ _ _ _ _ hp r2 r3 h1;refine⟨.agg c',?_,.agg _ _ (by simpa using f2.1) λj c v e1 e2=>f2.2 j c v e1 (by simpa using e2)⟩;have f1':Instr.fill (λi=>some (i*ei.size,ei.size)) zv.cells (parts.toList.map λx=>(x.1,a.eval x.2))=some c':=f1;simp[execOp,ho,Instr.build,run_underlying ht,r1,sizeOf,typeInfo,hei,f1']
theorem RG{t:TypeId}{x y:Operand}{x' y':AOp}{i:TypeInfo}(ho:o.op= .store t x y)(hi:P.info? t=some i)(hx:cop x=some x')(hy:cop y=some y')
 (he:ev G ts h (.st i.size x' y')=some (av,h')):Yld P G o ts h av h':=by
 simp only[ev] at he;split at he<;>first|(cases he;done)|skip
 rename_i id esz ix off e1;split at he<;>first|(cases he;done)|skip
 rename_i sz es hrow;split at he<;>first|(cases he;done)|skip
 rename_i e hee;split at he<;>first|(cases he;done)|skip
 rename_i hc;cases he;obtain⟨rfl,c1,c2,c3⟩:=hc;intro W S φ a H T;have hrx:=ay hx T;have hry:=ay hy T;rw[e1] at hrx;generalize hvx:a.eval x=vx at hrx;obtain⟨k1,k2⟩:=rC hry c2;obtain⟨c,t0,fr,o1,o2,o3,o4,o5⟩:=H.obj id sz es hrow;cases hrx with
 |ptr _ _ _ _ hid=>
  have hle:ix<es.length:=(Wa.1 hee).1;have hel:e.length=sz:=o3 e (Wq hee);have hys:(a.eval y).cells.size=i.size:=by have:=k1.1;simp at this;omega
  have hfit:(φ id).2+(ix*sz+off)+i.size<=c.size:=by
   have:(ix+1)*sz<=es.length*sz:=XJ _ hle;rw[Xz] at this;omega
  obtain⟨W',hrun,hB⟩:=kF (P:=P) (a.eval y).cells.toList W (φ id).1 ((φ id).2+(ix*sz+off)) 0 c t0 fr o1 o2 (by simp;omega) k2
  have hsz':∀e'∈es.set ix (eS e off (y'.ev ts).cells),e'.length=sz:=λe' he'=>by
   rcases XU he' with h'|h'
   ·exact o3 e' h'
   ·rw[h',sP (by omega)];exact hel
  obtain⟨A,B⟩:=H.update (W':=W') (es':=es.set ix (eS e off (y'.ev ts).cells)) hrow o1 (by rw[fO]) hB (by rw[fO];exact o2) hsz' (by rw[fO];simpa using o4) (λj u hj=>by
   have hjs:j<es.length*sz:=by
    have:=(Wa.1 hj).1;rw[aK hsz'] at this;simpa using this
   have hsp:0<sz:=Zx λh0=>(by subst h0;simp at hjs);have hdm:=Zr j sz;have hml:=Zy j hsp;have hjeq:j=j/sz*sz+j%sz:=(by rw[YF];exact hdm.symm);rw[hjeq,aZ hsz' _ _ hml] at hj;rw[AR _ _ _ (by simp;omega)]
   by_cases hq:j/sz=ix
   ·rw[hq,Wh hle] at hj;simp only[YC] at hj;rw[AP (by omega)] at hj;have hj2:j=ix*sz+j%sz:=(by rw[←hq];exact hjeq);split at hj
    ·rename_i hrange;rw[Wz (by simp;omega)];have hlt:j%sz-off<(a.eval y).cells.toList.length:=(by simp;omega);have hv:=Wc hlt;refine⟨Wu.1 c2 u (Wq hj),_,?_,k1.2 _ _ _ hj hv⟩;rw[←hv];congr 1;omega
    ·rename_i hrange;rw[WB (by simp;omega)];have:=o5 j u (by rw[hjeq,aZ o3 _ _ hml,hq,hee];exact hj);exact this
   ·rw[Wd (Ne.symm hq)] at hj
    have hne:¬((φ id).2+(ix*sz+off)+0<=(φ id).2+j/\(φ id).2+j<(φ id).2+(ix*sz+off)+0+(a.eval y).cells.toList.length):=by
     simp only[YA,hys];intro ⟨g1,g2⟩;have g3:ix*sz<=j:=(by omega);have g4:j<(ix+1)*sz:=(by rw[Xz];omega);exact hq (Nat.div_eq_of_lt_le g3 g4)
    rw[WB hne];exact o5 j u (by rw[hjeq,aZ o3 _ _ hml];exact hj))
  refine⟨.skip,undef,W',S,φ,?_,.skip,.any _,A,B⟩;simp[execOp,ho,hvx,Instr.storeAt,Instr.sureAddr,storeVar,hys,sizeOf,typeInfo,hi,hrun]
end
end Go.Aw
namespace Go.Aw
section
variable {P:Program} {G:aw} {o:Oper} {ts:List AV} {h h':List AO} {av:AV}
theorem Ch{α:Type}(esz:Nat)(cs:List α):∀(n off:Nat),(cC esz cs off n).length=n
 |0,_=>rfl
 |n+1,off=>by simp[cC,Ch esz cs n]
theorem pb{α:Type}(esz:Nat)(cs:List α):∀(n off:Nat),off+n*esz<=cs.length->∀e∈cC esz cs off n,e.length=esz
 |0,_,_,e,he=>by simp[cC] at he
 |n+1,off,hl,e,he=>by
  rw[Xz] at hl;simp only[cC,WE] at he;rcases he with rfl|he
  ·simp;omega
  ·exact pb esz cs n (off+esz) (by omega) e he
theorem pk{α:Type}(esz:Nat)(cs:List α):∀(n off:Nat),off+n*esz<=cs.length->(cC esz cs off n).flatten=(cs.drop off).take (n*esz)
 |0,_,_=>by simp[cC]
 |n+1,off,hl=>by
  rw[Xz] at hl;rw[cC,WX,pk esz cs n (off+esz) (by omega),Xz,Zb,Nat.add_comm (n*esz) esz,List.take_add,List.drop_drop]
theorem tZ{W:World}{S:Nat->Prop}{φ:Place}{n m s:Nat}{z:List AV}{zv:Array Value}(hz:Ptw W S φ n z zv.toList)(hs:s=z.length)(hp:m=0\/0<s):
 Ptw W S φ n (List.replicate m z).flatten (((Array.range (m*s)).map λi=>zv[i%zv.size]!).toList):=by
 subst hs;have e1:zv.size=z.length:=by simpa using hz.1
 have hall:∀e∈List.replicate m z,e.length=z.length:=λe he=>by rw[(XL.1 he).2]
 refine⟨by rw[aK hall];simp,λj c v h1 h2=>?_⟩;have hj:j<m*z.length:=by have:=(Wa.1 h1).1;rw[aK hall] at this;simpa using this
 have hsp:0<z.length:=by
  rcases hp with rfl|hp
  ·simp at hj
  ·exact hp
 have hml:=Zy j hsp;have hjeq:j=j/z.length*z.length+j%z.length:=by rw[YF];exact(Zr j _).symm
 rw[hjeq,aZ hall _ _ hml] at h1;have hdiv:j/z.length<m:=Nat.div_lt_of_lt_mul (by rw[YF];exact hj);rw[Xi,Wz hdiv] at h1;simp only[YC] at h1
 have h2':zv[j%zv.size]! =v:=by
  have:((Array.range (m*z.length)).map λi=>zv[i%zv.size]!)[j]?=some (zv[j%zv.size]!):=by simp[hj]
  rw[XZ,this] at h2;cases h2;rfl
 rw[e1] at h2';have hlt:j%z.length<zv.size:=by omega
 rw[getElem!_pos zv _ hlt] at h2';exact hz.2 _ c v h1 (by rw[XZ,WW hlt,h2'])
theorem Qj{t e:TypeId}{len:Nat}{parts:Array (Nat × Operand)}{parts':List (Nat × Nat × AOp)}{z:List AV}{ei:TypeInfo}(ho:o.op= .buildSlice t len parts)(ht:P.underlying t=some (.slice e))(hz:fI P e=some z)
 (hei:P.info? e=some ei)(hsmall:len*ei.size<=2^24)(hsp:0<ei.size)(hp:nh (λi=>some (i*ei.size,ei.size)) parts.toList parts')
 (he:ev G ts h (.bsl ei.size z len parts')=some (av,h')):Yld P G o ts h av h':=by
 simp only[ev,Wf,Xc] at he;obtain⟨cs,h1,rfl,rfl⟩:=he;intro W S φ a H T;obtain⟨zv,r1,r2,r3,⟨i,hi,his⟩,hcell⟩:=dE hz W S φ h.length;rw[hei] at hi;cases hi;have hrep:=tZ (m:=len) (s:=ei.size) r2 his (.inr hsp)
 have honeC:∀v∈((Array.range (len*ei.size)).map λi=>zv.cells[i%zv.cells.size]!).toList,v.oneC=true:=λv hv=>by
  simp at hv;obtain⟨q,hq,rfl⟩:=hv;have:0<zv.cells.size:=by have:=r2.1;simp at this;omega
  have hlt:=Zy q this;rw[getElem!_pos zv.cells _ hlt];exact r3 _ (by simp)
 obtain⟨c',f1,f2,f3,f4⟩:=oP T _ _ _ _ _ _ hp hrep honeC h1;have hlen:cs.length=len*ei.size:=by rw[f4,aK (sz:=z.length) (λe he=>by rw[(XL.1 he).2])];simp[his]
 have hflat:(cC ei.size cs 0 len).flatten=cs:=by rw[pk _ _ _ _ (by omega)];simp[←hlen]
 have hallc:cs.all AV.isCell=true:=by
  have key:∀(l:List (Nat × Nat × AOp)) (x y:List AV),x.all AV.isCell=true->om ts x l=some y->y.all AV.isCell=true:=by
   intro l
   induction l with
   |nil=>intro x y hx hy;cases hy;exact hx
   |cons q r ih=>
    intro x y hx hy;obtain⟨off,sz,yo⟩:=q;simp only[om] at hy;split at hy<;>first|(cases hy;done)|skip
    rename_i hc;refine ih _ _ ?_ hy;rw[Wu];intro u hu;simp only[eS,Ws] at hu;rcases hu with(hu|hu)|hu
    ·exact Wu.1 hx u (Xp hu)
    ·exact Wu.1 hc.2.1 u hu
    ·exact Wu.1 hx u (YE hu)
  refine key _ _ _ ?_ h1;rw[Wu];intro u hu;obtain⟨l,hl,hu⟩:=Yt.1 hu;rw[(XL.1 hl).2] at hu;exact Wu.1 hcell u hu
 obtain⟨A,B⟩:=mD H (es:=cC ei.size cs 0 len) (sz:=ei.size) (c:=c') (t:=e) (l:=c'.toList) (pb _ _ _ _ (by omega)) (by rw[hflat];exact hallc) (by rw[hflat];exact f2) ⟨[],by simp⟩ (W.alloc (.cells c' e)) rfl rfl rfl rfl;refine⟨.value (.slice (some ⟨W.heap.size,0,none⟩) len len),_,_,S,_,?_,.value _,?_,A,B⟩
 ·have hf:Instr.fill (λi=>some (i*ei.size,ei.size)) ((Array.range (len*ei.size)).map λi=>zv.cells[i%zv.cells.size]!) (parts.toList.map λx=>(x.1,a.eval x.2))=some c':=f1;have hb:¬(16777216<len*ei.size):=by omega
  by_cases h0:len=0
  ·subst h0;have hr0:Array.range 0=#[]:=rfl;simp[hr0] at hf;simp[hr0,execOp,ho,Instr.buildSlice,run_underlying ht,sizeOf,typeInfo,hei,hf,newRow]
  ·have h0':¬(ei.size=0):=by omega
   have hne:len*ei.size≠0:=ZN h0 h0';simp[execOp,ho,Instr.buildSlice,run_underlying ht,sizeOf,typeInfo,hei,hb,r1,hf,newRow]
   first|done|exact λhc=>absurd hc hne
 ·have hc':c'.size=len*ei.size:=by have:=f2.1;simp at this;omega
  have:=VRel.sl (W:=W.alloc (.cells c' e)) (S:=S) (φ:=upd φ h.length (W.heap.size,0)) (n:=(h++[AO.row ei.size (cC ei.size cs 0 len)]).length) h.length ei.size 0 len len (some ⟨W.heap.size,0,none⟩) (by simp) (Wo _)
   (λ_=>by simp[upd]) (λc t fr hc=>by
     have:(W.alloc (.cells c' e)).heap[W.heap.size]?=some (.cells c' e):=(by show(W.heap.push _)[W.heap.size]?=_;simp);simp only[upd,if_true] at hc⊢;rw[this] at hc;cases hc;simp[hc'])
  exact this
theorem IU{W:World}{S:Nat->Prop}{φ:Place}(H:HRel G W S φ h)(o:Obj):HRel G (W.alloc o) S φ h/\Keep W S φ h (W.alloc o) S φ h:=by
 have hold:∀b,b<W.heap.size->(W.alloc o).heap[b]?=W.heap[b]?:=λb hb=>by
  show(W.heap.push _)[b]?=_;rw[Xv,WB (by omega)]
 have hs:W.heap.size<=(W.alloc o).heap.size:=by show _<=(W.heap.push _).size;simp
 have hlt:∀{id:Nat} {o:AO},h[id]?=some o->id<h.length:=λe=>(Wa.1 e).1
 have K:Kept W S φ h.length (W.alloc o) S φ h.length:=
  {pure:=λb hb=>⟨hb,hold b (H.sep b hb).1⟩
   len:=Wo _
   same:=λ_ _=>rfl
   blk:=λi hi c t fr e=>⟨c,t,fr,by rw[←hold _ (H.bnd i hi)];exact e,rfl⟩}
 refine⟨⟨λid sz es e=>?_,λid o1 e lo=>?_,H.inj,λb hb=>⟨WN (H.sep b hb).1 hs,(H.sep b hb).2⟩,λid hid=>WN (H.bnd id hid) hs,λg cs hg=>?_⟩,{K with os:=rfl,tape:=rfl,output:=rfl,size:=hs,out:=λb hb _=>hold b hb,img:=λid e=> .inr ⟨id,e,rfl⟩,newS:=λb hb=> .inl hb}⟩
 ·obtain⟨c,t,fr,a1,a2,a3,a4,a5⟩:=H.obj id sz es e;refine⟨c,t,fr,by rw[hold _ (H.bnd id (hlt e))];exact a1,a2,a3,a4,λj u hj=>?_⟩;obtain⟨b1,v,b2,b3⟩:=a5 j u hj;exact⟨b1,v,b2,b3.kept K⟩
 ·rw[hold _ (H.bnd id (hlt e))];exact(H.oobj id o1 e lo).mono λa v r=>r.kept K
 ·obtain⟨g1,g2⟩:=H.glob g cs hg;refine⟨g1,λj c hj=>?_⟩;obtain⟨v,k1,k2⟩:=g2 j c hj;exact⟨v,by rw[aJ (hold g (H.sep g g1).1)];exact k1,k2.mono K.pure⟩
theorem Iu{W:World}{S:Nat->Prop}{φ:Place}(H:HRel G W S φ h)(o:Obj):
 HRel G (W.alloc o) (λb=>S b\/b=W.heap.size) φ h/\Keep W S φ h (W.alloc o) (λb=>S b\/b=W.heap.size) φ h:=by
 have hold:∀b,b<W.heap.size->(W.alloc o).heap[b]?=W.heap[b]?:=λb hb=>by
  show(W.heap.push _)[b]?=_;rw[Xv,WB (by omega)]
 have hs:W.heap.size<=(W.alloc o).heap.size:=by show _<=(W.heap.push _).size;simp
 have hlt:∀{id:Nat} {o:AO},h[id]?=some o->id<h.length:=λe=>(Wa.1 e).1
 have K:Kept W S φ h.length (W.alloc o) (λb=>S b\/b=W.heap.size) φ h.length:=
  {pure:=λb hb=>⟨.inl hb,hold b (H.sep b hb).1⟩
   len:=Wo _
   same:=λ_ _=>rfl
   blk:=λi hi c t fr e=>⟨c,t,fr,by rw[←hold _ (H.bnd i hi)];exact e,rfl⟩}
 refine⟨⟨λid sz es e=>?_,λid o1 e lo=>?_,H.inj,λb hb=>?_,λid hid=>WN (H.bnd id hid) hs,λg cs hg=>?_⟩,{K with os:=rfl,tape:=rfl,output:=rfl,size:=hs,out:=λb hb _=>hold b hb,img:=λid e=> .inr ⟨id,e,rfl⟩,newS:=λb hb=>by rcases hb with hb|hb;exact .inl hb;exact .inr (.inl (by omega))}⟩
 ·obtain⟨c,t,fr,a1,a2,a3,a4,a5⟩:=H.obj id sz es e;refine⟨c,t,fr,by rw[hold _ (H.bnd id (hlt e))];exact a1,a2,a3,a4,λj u hj=>?_⟩;obtain⟨b1,v,b2,b3⟩:=a5 j u hj;exact⟨b1,v,b2,b3.kept K⟩
 ·rw[hold _ (H.bnd id (hlt e))];exact(H.oobj id o1 e lo).mono λa v r=>r.kept K
 ·rcases hb with hb|rfl
  ·exact⟨WN (H.sep b hb).1 hs,(H.sep b hb).2⟩
  ·refine⟨by show _<(W.heap.push _).size;simp,λid e he=>?_⟩;have:=H.bnd id e.lt;omega
 ·obtain⟨g1,g2⟩:=H.glob g cs hg;refine⟨.inl g1,λj c hj=>?_⟩;obtain⟨v,k1,k2⟩:=g2 j c hj;exact⟨v,by rw[aJ (hold g (H.sep g g1).1)];exact k1,k2.mono K.pure⟩
theorem Pc{t e:TypeId}{len:Nat}{parts:Array (Nat × Operand)}{parts':List (Nat × Nat × AOp)}{z:List AV}{ei:TypeInfo}(ho:o.op= .buildSlice t len parts)(ht:P.underlying t=some (.slice e))(hz:fI P e=some z)
 (hei:P.info? e=some ei)(hsmall:len*ei.size<=2^24)(hsp:0<ei.size)(hp:nh (λi=>some (i*ei.size,ei.size)) parts.toList parts')
 (he:ev G ts h (.bslP ei.size z len parts')=some (av,h')):Yld P G o ts h av h':=by
 simp only[ev,Wf,XG,Xc] at he;obtain⟨pvs,⟨cs,h1,hpv⟩,rfl,rfl⟩:=he;obtain⟨hcl,hcs⟩:=tr hpv;intro W S φ a H T;obtain⟨zv,r1,r2,r3,⟨i,hi,his⟩,hcell⟩:=dE hz W S φ h.length;rw[hei] at hi;cases hi;have hrep:=tZ (m:=len) (s:=ei.size) r2 his (.inr hsp)
 have honeC:∀v∈((Array.range (len*ei.size)).map λi=>zv.cells[i%zv.cells.size]!).toList,v.oneC=true:=λv hv=>by
  simp at hv;obtain⟨q,hq,rfl⟩:=hv;have:0<zv.cells.size:=by have:=r2.1;simp at this;omega
  have hlt:=Zy q this;rw[getElem!_pos zv.cells _ hlt];exact r3 _ (by simp)
 obtain⟨c',f1,f2,f3,f4⟩:=oP T _ _ _ _ _ _ hp hrep honeC h1;have hlen:cs.length=len*ei.size:=by rw[f4,aK (sz:=z.length) (λe he=>by rw[(XL.1 he).2])];simp[his]
 obtain⟨A,B⟩:=Iu H (.cells c' e);have hpl:pvs.length=len*ei.size:=by rw[←hcl];exact hlen
 have hchl:(cC ei.size pvs 0 len).length=len:=Ch _ _ _ _;have hchf:(cC ei.size pvs 0 len).flatten=pvs:=by rw[pk _ _ _ _ (by omega)];simp[←hpl]
 refine⟨.value (.slice (some ⟨W.heap.size,0,none⟩) len len),_,_,_,_,?_,.value _,?_,A,B⟩
 ·have hf:Instr.fill (λi=>some (i*ei.size,ei.size)) ((Array.range (len*ei.size)).map λi=>zv.cells[i%zv.cells.size]!) (parts.toList.map λx=>(x.1,a.eval x.2))=some c':=f1;have hb:¬(16777216<len*ei.size):=by omega
  by_cases h0:len=0
  ·subst h0;have hr0:Array.range 0=#[]:=rfl;simp[hr0] at hf;simp[hr0,execOp,ho,Instr.buildSlice,run_underlying ht,sizeOf,typeInfo,hei,hf,newRow]
  ·have h0':¬(ei.size=0):=by omega
   have hne:len*ei.size≠0:=ZN h0 h0';simp[execOp,ho,Instr.buildSlice,run_underlying ht,sizeOf,typeInfo,hei,hb,r1,hf,newRow]
   first|done|exact λhc=>absurd hc hne
 ·have hat:(W.alloc (.cells c' e)).heap[W.heap.size]?=some (.cells c' e):=by show(W.heap.push _)[W.heap.size]?=_;simp
  have hcell':∀(j:Nat) (c:PV),pvs[j]?=some c->∃v,(W.alloc (.cells c' e)).cell? ⟨W.heap.size,0+j,none⟩=some v/\PRel W S c v:=λj c hj=>by
   have hlt:j<c'.toList.length:=by
    have:=(Wa.1 hj).1;rw[f2.1];omega
   have hp:PRel W S c c'.toList[j]:=by
    rcases hcs j c hj with hj2|⟨hj2,rfl⟩
    ·have:=f2.2 j _ _ hj2 (Wc hlt);cases this with|p _ _ hp=>exact hp
    ·have:=f2.2 j _ _ hj2 (Wc hlt);generalize c'.toList[j]=y at this;cases this;exact .lst0 _ _ _
   refine⟨c'.toList[j],?_,?_⟩
   ·simp only[World.cell?,hat,WV];simp at hlt;simp[hlt]
   ·exact hp
  cases len with
  |zero=>exact .p _ _ (.lst0 _ _ _)
  |succ len=>
   have:=PRel.lst (W:=W.alloc (.cells c' e)) (S:=λb=>S b\/b=W.heap.size) ei.size (cC ei.size pvs 0 (len+1)) W.heap.size 0 (len+1) (λj=>((W.alloc (.cells c' e)).cell? ⟨W.heap.size,0+j,none⟩).getD default) (.inr rfl) (pb _ _ _ _ (by omega)) (by omega)
    (λj c hj=>by rw[hchf] at hj;obtain⟨v,h3,h4⟩:=hcell' j c hj;rw[h3];rfl) (λj c hj=>by rw[hchf] at hj;obtain⟨v,h3,h4⟩:=hcell' j c hj;rw[h3];exact h4.mono B.toKept.pure)
   rw[hchl] at this;exact .p _ _ this
theorem Qn{t e:TypeId}{l c:Operand}{l' c':AOp}{z:List AV}{ei:TypeInfo}(ho:o.op= .makeSlice t l c)(ht:P.underlying t=some (.slice e))(hz:fI P e=some z)
 (hei:P.info? e=some ei)(hsp:0<ei.size)(hl:cop l=some l')(hc:cop c=some c')
 (he:ev G ts h (.mks ei.size ei.bytes z l' c')=some (av,h')):Yld P G o ts h av h':=by
 simp only[ev] at he;split at he<;>first|(cases he;done)|skip
 rename_i k n k2 m e1 e2;split at he<;>first|(cases he;done)|skip
 rename_i hb;cases he;obtain⟨b1,b2,b3,b4⟩:=hb;intro W S φ a H T;have hrl:=ay hl T;have hrc:=ay hc T;rw[e1] at hrl;rw[e2] at hrc;obtain⟨zv,r1,r2,r3,⟨i,hi,his⟩,hcell⟩:=dE hz W S φ h.length;rw[hei] at hi;cases hi;have hrep:=tZ (m:=n.toNat) (s:=ei.size) r2 his (.inr hsp);have hrepc:=tZ (m:=m.toNat) (s:=ei.size) r2 his (.inr hsp);have hall:∀x∈List.replicate n.toNat z,x.length=ei.size:=λx hx=>by rw[(XL.1 hx).2];exact his.symm
 have hle:n.toNat*ei.size<=m.toNat*ei.size:=XJ _ (by omega)
 let C:=(Array.range (m.toNat*ei.size)).map λi=>zv.cells[i%zv.cells.size]!
 let L:=(Array.range (n.toNat*ei.size)).map λi=>zv.cells[i%zv.cells.size]!
 have hCL:C.toList=L.toList++C.toList.drop (n.toNat*ei.size):=by
  have:L.toList=C.toList.take (n.toNat*ei.size):=by
   apply WT;intro j;rw[Xo];simp only[C,L,XZ,Array.getElem?_map,Array.getElem?_range];split
   ·rw[Wz (by omega)]
   ·rfl
  rw[this,XH]
 obtain⟨A,B⟩:=mD H (es:=List.replicate n.toNat z) (sz:=ei.size) (c:=C) (t:=e) (l:=L.toList) hall (by
  rw[Wu];intro u hu;obtain⟨l,hl,hu⟩:=Yt.1 hu;rw[(XL.1 hl).2] at hu;exact Wu.1 hcell u hu) hrep ⟨_,hCL⟩ (W.alloc (.cells C e)) rfl rfl rfl rfl
 refine⟨.value (.slice (some ⟨W.heap.size,0,none⟩) n.toNat m.toNat),_,_,S,_,?_,.value _,?_,A,B⟩
 ·have w1:IntKind.i64.wrap n=n:=IntWalk.i64_in n (by omega);have w2:IntKind.i64.wrap m=m:=IntWalk.i64_in m (by omega);have q1:¬(m<0):=by omega
  have q2:¬(281474976710656<(ei.bytes:Int)*m):=by omega
  have q3:¬(n<0):=by omega
  have q4:¬(m<n):=by omega
  have hz':¬(ei.size=0):=by omega
  by_cases hm0:m=0
  ·have:C=#[]:=by simp[C,hm0]
   subst hm0;simp[execOp,ho,Instr.makeSlice,run_underlying ht,asInt,asIntOf,bS hrl,bS hrc,w1,w2,typeInfo,hei,q1,q3,q4,sizeOf,newRow,this,show Array.range 0=#[] from rfl]
  ·have hm1:¬(m<=0):=by omega
   simp[execOp,ho,Instr.makeSlice,run_underlying ht,asInt,asIntOf,bS hrl,bS hrc,w1,w2,typeInfo,hei,q1,q2,q3,q4,sizeOf,r1,newRow,C];exact λhc=>absurd hc (ZN (by omega) hz')
 ·have hC:C.size=m.toNat*ei.size:=by simp[C]
  exact VRel.sl (W:=W.alloc (.cells C e)) (S:=S) (φ:=upd φ h.length (W.heap.size,0)) (n:=(h++[AO.row ei.size (List.replicate n.toNat z)]).length) h.length ei.size 0 n.toNat m.toNat (some ⟨W.heap.size,0,none⟩) (by simp) (by omega)
   (λ_=>by simp[upd]) (λc t fr hc=>by
     have:(W.alloc (.cells C e)).heap[W.heap.size]?=some (.cells C e):=(by show(W.heap.push _)[W.heap.size]?=_;simp);simp only[upd,if_true] at hc⊢;rw[this] at hc;cases hc;simp[hC])
end
end Go.Aw
namespace Go.Aw
section
variable {P:Program} {G:aw} {o:Oper} {ts:List AV} {h h':List AO} {av:AV}
theorem lp{α:Type}(f:Nat->α){m j:Nat}(hj:j<m):((List.range m).map f)[j]?=some (f j):=by simp[hj]
theorem rk{W:World}{S:Nat->Prop}{φ:Place}(H:HRel G W S φ h){esz:Nat}{ax:AV}{x:Value}{xs:List (List AV)}(hr:VRel W S φ h.length ax x)(he:elems h esz ax=some xs):
 ∃ad cap news,x= .slice ad xs.length cap/\(xs.length=0\/∃b off,ad=some ⟨b,off,none⟩/\∀(j:Nat) (v:Value),news[j]?=some v->W.cell? ⟨b,off+j,none⟩=some v)/\
  Ptw W S φ h.length xs.flatten news/\(∀e∈xs,e.length=esz)/\xs.flatten.all AV.isCell=true/\∀v∈news,v.oneC=true:=by
 unfold elems at he;split at he<;>first|(cases he;done)|skip
 ·rename_i sz es;split at he<;>first|(cases he;done)|skip
  rename_i hs;subst hs;cases he;cases lN hr with
  |lst0 _ a cap=>exact⟨a,cap,[],rfl,.inl rfl,⟨rfl,λj c v h1=>by simp at h1⟩,λe he=>by simp at he,rfl,λv hv=>by simp at hv⟩
  |lst _ _ b off cap vs hb hsz hcap hc hp=>
   have hfl:(es.map (·.map AV.p)).flatten=es.flatten.map AV.p:=by rw[Zj]
   refine⟨_,cap,(List.range es.flatten.length).map vs,by simp,.inr ⟨b,off,rfl,λj v hj=>?_⟩,⟨by rw[hfl,Wj,Wj,Xq],λj c v h1 h2=>?_⟩,λe he=>?_,?_,λv hv=>?_⟩
   ·have hl:j<es.flatten.length:=(by have:=(Wa.1 hj).1;rwa[Wj,Xq] at this);have:vs j=v:=(by rw[lp vs hl] at hj;exact Option.some.inj hj);rw[←this];exact hc j _ (Wc hl)
   ·rw[hfl,Wl,Wf] at h1;obtain⟨c',h1,rfl⟩:=h1;have hl:=(Wa.1 h1).1;have:vs j=v:=(by rw[lp vs hl] at h2;exact Option.some.inj h2);rw[←this];exact .p _ _ (hp j c' h1)
   ·obtain⟨e',he',rfl⟩:=Ww.1 he;simpa using hsz e' he'
   ·rw[hfl,Wu];intro u hu;obtain⟨q,_,rfl⟩:=Ww.1 hu;rfl
   ·obtain⟨j,hj⟩:=WA hv;have hl:j<es.flatten.length:=(by have:=(Wa.1 hj).1;rwa[Wj,Xq] at this);have:vs j=v:=(by rw[lp vs hl] at hj;exact Option.some.inj hj);rw[←this];exact(hp j _ (Wc hl)).oneCell
 ·cases he;cases hr;exact⟨none,0,[],rfl,.inl rfl,⟨rfl,λj c v h1=>by simp at h1⟩,λe he=>by simp at he,rfl,λv hv=>by simp at hv⟩
 ·rename_i id sz off len;split at he<;>first|(cases he;done)|skip
  rename_i sz' es hrow;split at he<;>first|(cases he;done)|skip
  rename_i hs;cases he;obtain⟨rfl,rfl,hle⟩:=hs;obtain⟨c,t,fr,o1,o2,o3,o4,o5⟩:=H.obj id sz es hrow;cases hr with
  |sl _ _ _ _ cap ba hid hl hb hc=>
   have hall:∀e∈(es.drop off).take len,e.length=sz:=λe he=>o3 e (YE (Xp he));have hlen:((es.drop off).take len).length=len:=by simp;omega
   have hfl:((es.drop off).take len).flatten=(es.flatten.drop (off*sz)).take (len*sz):=by rw[jE (λe he=>o3 e (YE he)),ng o3]
   have key:∀(j:Nat) (a:AV),((es.drop off).take len).flatten[j]?=some a->es.flatten[off*sz+j]?=some a/\j<len*sz:=λj a hj=>by
    rw[hfl,Xo] at hj;split at hj
    ·rw[WZ] at hj;exact⟨hj,by assumption⟩
    ·cases hj
   rw[hlen]
   have hbnd:(φ id).2+(off+len)*sz<=c.size:=by
    have:(off+len)*sz<=es.length*sz:=XJ _ hle;omega
   rw[Xz] at hbnd;refine⟨ba,cap,(c.toList.drop ((φ id).2+off*sz)).take (len*sz),rfl,?_,⟨?_,λj a v h1 h2=>?_⟩,hall,?_,λv hv=>?_⟩
   ·rcases YY len with h0|h0
    ·exact .inl h0
    ·refine .inr ⟨_,_,hb (by omega),λj v hj=>?_⟩;rw[Xo] at hj;split at hj
     ·rw[WZ] at hj;simp only[World.cell?,o1];simpa using hj
     ·cases hj
   ·rw[hfl,WD,WD,ZH,ZH,aK o3,YA];have:off*sz+len*sz<=es.length*sz:=(by rw[←Xz];exact XJ _ hle);omega
   ·obtain⟨k1,k2⟩:=key j a h1;obtain⟨_,v',v1,v2⟩:=o5 _ _ k1;rw[Xo,Wz k2,WZ] at h2;have:c[(φ id).2+(off*sz+j)]?=some v:=(by rw[←XR];simpa using h2);rw[v1] at this;cases this;exact v2
   ·rw[Wu];intro u hu;obtain⟨j,hj⟩:=WA hu;exact(o5 _ _ (key j u hj).1).1
   ·obtain⟨j,hj⟩:=WA hv;rw[Xo] at hj;split at hj
    ·rename_i hlt;rw[WZ] at hj
     have hl:j<((es.drop off).take len).flatten.length:=by rw[aK hall,hlen];exact hlt
     obtain⟨k1,_⟩:=key j _ (Wc hl);obtain⟨q1,v',v1,v2⟩:=o5 _ _ k1;have:c[(φ id).2+(off*sz+j)]?=some v:=(by rw[←XR];simpa using hj);rw[v1] at this;cases this;exact v2.oneCell q1
    ·cases hj
theorem pZ{W:World}{size:Nat}{ad:Option Addr}{n cap:Nat}{news:List Value}(hl:news.length=n*size)
 (hc:n=0\/∃b off,ad=some ⟨b,off,none⟩/\∀(j:Nat) (v:Value),news[j]?=some v->W.cell? ⟨b,off+j,none⟩=some v):
 (Builtin.firstCells size n (.slice ad n cap)).run P W= .ok news.toArray W:=by
 rcases hc with rfl|⟨b,off,rfl,hc⟩
 ·have:news=[]:=Xr (by simpa using hl);subst this;cases ad with
  |none=>simp[Builtin.firstCells]
  |some a=>simp[Builtin.firstCells,loadCells,loadCellsFrom]
 ·exact run_firstCells_some W size n _ n cap news hl λj v hj=>by rw[fJ];exact hc j v hj
theorem Py{c:Call}{t e:TypeId}{s x:Operand}{s' x':AOp}{ei:TypeInfo}{z:List AV}(ho:o.op= .call c)(hc:c.callee= .builtin .append)(ha:c.args=#[s,x])(hat:c.argTypes=#[t,t])
 (ht:P.underlying t=some (.slice e))(hei:P.info? e=some ei)(hz:fI P e=some z)(hs:cop s=some s')(hx:cop x=some x')
 (he:ev G ts h (.app ei.size ei.bytes s' x')=some (av,h')):Yld P G o ts h av h':=by
 simp only[ev] at he;split at he<;>first|(cases he;done)|skip
 rename_i xs hxs;intro W S φ a H T;have hrs:=ay hs T;have hrx:=ay hx T;obtain⟨zv,z1,z2,z3,⟨i,hi,his⟩,hcell⟩:=dE hz W S φ h.length;rw[hei] at hi;cases hi;generalize hvs:a.eval s=vs at hrs;generalize hvx:a.eval x=vx at hrx;obtain⟨ad,cap,news,rfl,n1,n2,n3,n4,n5⟩:=rk H hrx hxs;have hnl:news.length=xs.length*ei.size:=by rw[n2.1,aK n3]
 have hzr:ei.zero=some zv:=by
  cases hz0:ei.zero with
  |none=>simp[zeroValue,typeInfo,hei,hz0,unsupported] at z1
  |some q=>simp[zeroValue,typeInfo,hei,hz0] at z1;rw[z1]
 split at he<;>first|(cases he;done)|skip
 ·rename_i e1;rw[e1] at hrs;cases hrs;split at he<;>first|(cases he;done)|skip
  rename_i hb;split at he
  ·rename_i hnil;cases he;subst hnil;refine⟨.value (.slice none 0 0),_,W,S,φ,?_,.value _,.nils,H,Keep.refl H⟩;have hf:=pZ (P:=P) (W:=W) (cap:=cap) hnl n1;simp only[WL] at hf hvx;simp[execOp,ho,hc,ha,hat,hvs,hvx,resolve,invoke,builtin,Builtin.append_,run_underlying ht,sizeOf,typeInfo,hei,Builtin.lenOf,hf]
  ·rename_i hnil;cases he;have hpos:0<xs.length:=Zx λh0=>hnil (Xr h0);rcases n1 with h0|⟨b,off,rfl,n1⟩
   ·omega
   have hrun:=run_append_nil (P:=P) W t o.type e ei zv ht hei hzr ⟨b,off,none⟩ xs.length cap news hnl (λj v hj=>by rw[fJ];exact n1 j v hj) hpos (by omega) (by omega)
   obtain⟨A,B⟩:=mD H (es:=xs) (sz:=ei.size) (c:=news.toArray++Builtin.zeroCells zv.cells (grownCap W xs.length 0 e-xs.length)) (t:=e) (l:=news) n3 n4 n2 ⟨_,by simp;rfl⟩
    (W.drew.alloc (.cells (news.toArray++Builtin.zeroCells zv.cells (grownCap W xs.length 0 e-xs.length)) e)) rfl rfl rfl rfl
   refine⟨.value (.slice (some ⟨W.heap.size,0,none⟩) xs.length (grownCap W xs.length 0 e)),_,_,S,_,?_,.value _,?_,A,B⟩
   ·simp[execOp,ho,hc,ha,hat,hvs,hvx,resolve,invoke,builtin,hrun]
   ·have hcap:=grownCap_ge W xs.length 0 e
    exact VRel.sl (φ:=upd φ h.length (W.heap.size,0)) h.length ei.size 0 xs.length (grownCap W xs.length 0 e) (some ⟨W.heap.size,0,none⟩) (by simp) hcap
     (λ_=>by simp[upd]) (λc t fr hcc=>by
       simp only[upd,if_true] at hcc⊢
       have:(W.drew.alloc (.cells (news.toArray++Builtin.zeroCells zv.cells (grownCap W xs.length 0 e-xs.length)) e)).heap[W.heap.size]?=some (.cells (news.toArray++Builtin.zeroCells zv.cells (grownCap W xs.length 0 e-xs.length)) e):=by show(W.heap.push _)[W.heap.size]?=_;simp
       rw[this] at hcc;cases hcc;have hzs:zv.cells.size=ei.size:=(by have:=z2.1;simp at this;omega);simp only[ZD,ZE,hnl,Builtin.zeroCells,Array.size_map,Array.size_range,hzs,WV];rw[←Xz];exact XJ _ (by omega))
 ·rename_i id sz off len e1;rw[e1] at hrs;split at he<;>first|(cases he;done)|skip
  rename_i sz' es hrow;split at he<;>first|(cases he;done)|skip
  rename_i hb;cases he;obtain⟨rfl,rfl,hle,hb1,hb2⟩:=hb;obtain⟨c0,t0,fr0,o1,o2,o3,o4,o5⟩:=H.obj id ei.size es hrow;have hres:elems h ei.size (.sl id ei.size off len)=some ((es.drop off).take len):=by simp[elems,hrow,hle]
  obtain⟨ado,capo,olds,q0,q1,q2,q3,q4,q5⟩:=rk H hrs hres;have hlen:((es.drop off).take len).length=len:=by simp;omega
  rw[hlen] at q0 q1;have hol:olds.length=len*ei.size:=by rw[q2.1,aK q3,hlen]
  cases hrs with
  |sl _ _ _ _ cap' ba hid hl hb hcc=>
   cases q0
   have hall:∀e∈(es.drop off).take len++xs,e.length=ei.size:=λe he=>by
    rcases Ws.1 he with he|he
    ·exact q3 e he
    ·exact n3 e he
   have hcl:((es.drop off).take len++xs).flatten.all AV.isCell=true:=by rw[XS,List.all_append,q4,n4];rfl
   have hptw:Ptw W S φ h.length ((es.drop off).take len++xs).flatten (olds++news):=by
    refine⟨by rw[XS,Wn,Wn,q2.1,n2.1],λj c v h1 h2=>?_⟩;rw[XS,XI] at h1;rw[XI] at h2;split at h1
    ·rename_i hj;rw[Wz (by rw[q2.1];exact hj)] at h2;exact q2.2 _ _ _ h1 h2
    ·rename_i hj;rw[WB (by rw[q2.1];exact hj),q2.1] at h2;exact n2.2 _ _ _ h1 h2
   by_cases hfit:len+xs.length<=capo
   ·
    have hroom:=hcc c0 t0 fr0 o1
    have hnfit:(φ id).2+off*ei.size+(len+xs.length)*ei.size<=c0.size:=by
     have:(off+(len+xs.length))*ei.size<=(off+capo)*ei.size:=XJ _ (by omega);rw[Xz] at this;omega
    have hnfit':(φ id).2+off*ei.size+len*ei.size+xs.length*ei.size<=c0.size:=(by rw[Xz] at hnfit;omega);obtain⟨W',hrun,hB⟩:=kF (P:=P) news W (φ id).1 ((φ id).2+off*ei.size+len*ei.size) 0 c0 t0 fr0 o1 o2 (by rw[hnl];omega) n5
    obtain⟨A,B⟩:=H.push (W':=W') (d:=some id) (B:=((φ id).1,(φ id).2+off*ei.size)) (sz:=ei.size) (es:=(es.drop off).take len++xs) (c:=wr c0 ((φ id).2+off*ei.size+len*ei.size+0) news) (t:=t0) (fr:=fr0)
     (.inr ⟨id,ei.size,es,c0,t0,fr0,rfl,hrow,rfl,o1,by rw[fO]⟩) hB.at_b (λb _ hne=>hB.other b hne) (by rw[hB.size];exact Wo _) hB.os hB.tape hB.output (by rw[fO];exact o2) hall
     (by rw[fO,Wn,hlen];exact hnfit) (λj u hj=>by
       have hjl:=(Wa.1 hj).1;rw[aK hall,Wn,hlen] at hjl;rw[AR _ _ _ (by rw[hnl];omega)];refine⟨Wu.1 hcl u (Wq hj),?_⟩;have hjo:j<(olds++news).length:=(by rw[Wn,hol,hnl,←Xz];exact hjl);have hv:=Wc hjo;refine⟨_,?_,hptw.2 _ _ _ hj hv⟩;rw[←hv];have hjl':=hjl;rw[Xz] at hjl'
       by_cases hw:j<len*ei.size
       ·have hjol:j<olds.length:=(by rw[hol];exact hw);rw[Wb hjol,WB (by omega)];rcases q1 with h0|⟨b,off',k1,k2⟩
        ·subst h0;simp at hw
        ·have:=k2 j _ (Wc hjol);have hlp:0<len:=Zx λh0=>(by subst h0;simp at hw);rw[hb (by omega)] at k1;cases k1;simp only[World.cell?,o1] at this;rw[Wc hjol];simpa using this
       ·rw[Wg (by omega),Wz (by omega),hol];congr 1;omega) rfl
    refine⟨.value (.slice ado (len+xs.length) capo),_,W',S,_,?_,.value _,?_,A,B⟩
    ·have hf:=pZ (P:=P) (W:=W) (cap:=cap) hnl n1;rcases YY capo with h0|h0
     ·have hx0:xs.length=0:=(by omega);have hl0:len=0:=(by omega);have hn0:news=[]:=Xr (by rw[hnl,hx0];simp);subst hn0;have hW:W'=W:=(by simpa[storeCells,Sem.run] using hrun.symm);rw[hW];cases ado with
      |none=>simp[execOp,ho,hc,ha,hat,hvs,hvx,resolve,invoke,builtin,Builtin.append_,run_underlying ht,sizeOf,typeInfo,hei,Builtin.lenOf,hf,hfit]
      |some bb=>simp[execOp,ho,hc,ha,hat,hvs,hvx,resolve,invoke,builtin,Builtin.append_,run_underlying ht,sizeOf,typeInfo,hei,Builtin.lenOf,hf,hfit,storeCells]
     ·rw[hb h0] at hvs⊢;simp[execOp,ho,hc,ha,hat,hvs,hvx,resolve,invoke,builtin,Builtin.append_,run_underlying ht,sizeOf,typeInfo,hei,Builtin.lenOf,hf,hfit,fJ,hrun]
    ·refine VRel.sl h.length ei.size 0 (len+xs.length) capo ado (by simp) hfit (λhp=>by rw[hb hp];simp[upd]) (λc t fr hc'=>?_);simp only[upd,if_true] at hc'⊢;rw[hB.at_b] at hc';cases hc';rw[fO,WV];rw[Xz] at hroom;omega
   ·
    have hpos:0<xs.length:=(by omega);rcases n1 with h0|⟨b,offx,rfl,n1⟩
    ·omega
    have h63:((len+xs.length:Nat):Int)<=9223372036854775807:=(by omega);have hcap:=grownCap_ge W (len+xs.length) capo e;have hfits:Builtin.nextslicecap (len+xs.length) capo*ei.bytes<=281474976710656:=growslice_fits (by omega) (by omega);have hf:=pZ (P:=P) (W:=W.drew) (cap:=cap) hnl (.inr ⟨b,offx,rfl,n1⟩);have hfo:=pZ (P:=P) (W:=W.drew) (size:=ei.size) (ad:=ado) (n:=len) (cap:=capo) (news:=olds) hol q1;have hn:¬(len+xs.length<=capo):=hfit;have h63':¬(9223372036854775807<((len:Int)+(xs.length:Int))):=(by omega);have h48':¬(281474976710656<Builtin.nextslicecap (len+xs.length) capo*ei.bytes):=by omega
    obtain⟨A,B⟩:=H.push (W':=W.drew.alloc (.cells (olds.toArray++(news.toArray++Builtin.zeroCells zv.cells (grownCap W (len+xs.length) capo e-(len+xs.length)))) e)) (d:=some id) (B:=(W.heap.size,0)) (sz:=ei.size) (es:=(es.drop off).take len++xs)
     (c:=olds.toArray++(news.toArray++Builtin.zeroCells zv.cells (grownCap W (len+xs.length) capo e-(len+xs.length)))) (t:=e) (fr:=(0,0)) (.inl (Wo _)) (by show(W.heap.push _)[W.heap.size]?=_;simp)
     (λb' hb' _=>by show(W.heap.push _)[b']?=_;rw[Xv,WB (by omega)]) (by simp) rfl rfl rfl (by omega) hall
     (by simp only[WV,Wn,hlen,ZD,ZE,hol,hnl,Xz];omega) (λj u hj=>by
       have hjl:=(Wa.1 hj).1;rw[aK hall,Wn,hlen] at hjl;refine⟨Wu.1 hcl u (Wq hj),?_⟩;have hjo:j<(olds++news).length:=(by rw[Wn,hol,hnl,←Xz];exact hjl);have hv:=Wc hjo;refine⟨_,?_,hptw.2 _ _ _ hj hv⟩;rw[←hv,WV,←Array.append_assoc,YP (by simpa using hjo)];simp) rfl
    refine⟨.value (.slice (some ⟨W.heap.size,0,none⟩) (len+xs.length) (grownCap W (len+xs.length) capo e)),_,_,S,_,?_,.value _,?_,A,B⟩
    ·simp[execOp,ho,hc,ha,hat,hvs,hvx,resolve,invoke,builtin,Builtin.append_,run_underlying ht,sizeOf,typeInfo,zeroValue,hei,hzr,Builtin.lenOf,hn,h63',h48',Question.forced,hf,hfo,newRow,grownCap]
    ·refine VRel.sl h.length ei.size 0 (len+xs.length) (grownCap W (len+xs.length) capo e) _ (by simp) hcap (λhp=>by simp[upd]) (λc t fr hc'=>?_);simp only[upd,if_true] at hc'⊢
     have:(W.drew.alloc (.cells (olds.toArray++(news.toArray++Builtin.zeroCells zv.cells (grownCap W (len+xs.length) capo e-(len+xs.length)))) e)).heap[W.heap.size]?=some (.cells (olds.toArray++(news.toArray++Builtin.zeroCells zv.cells (grownCap W (len+xs.length) capo e-(len+xs.length)))) e):=by show(W.heap.push _)[W.heap.size]?=_;simp
     rw[this] at hc';cases hc';have hzs:zv.cells.size=ei.size:=(by have:=z2.1;simp at this;omega);simp only[ZD,ZE,hol,hnl,Builtin.zeroCells,Array.size_map,Array.size_range,hzs,WV,←Xz];exact XJ _ (by omega)
end
end Go.Aw
namespace Go.Aw
section
variable {P:Program} {G:aw} {o:Oper} {ts:List AV} {h h':List AO} {av:AV}
theorem sG{W:World}{size:Nat}{ad:Option Addr}{m n cap:Nat}{news:List Value}(hl:news.length=m*size)
 (hc:m=0\/∃b off,ad=some ⟨b,off,none⟩/\∀(j:Nat) (v:Value),news[j]?=some v->W.cell? ⟨b,off+j,none⟩=some v):
 (Builtin.firstCells size m (.slice ad n cap)).run P W= .ok news.toArray W:=by
 rcases hc with rfl|⟨b,off,rfl,hc⟩
 ·have:news=[]:=Xr (by simpa using hl);subst this;cases ad with
  |none=>simp[Builtin.firstCells]
  |some a=>simp[Builtin.firstCells,loadCells,loadCellsFrom]
 ·have:=run_firstCells_some (P:=P) W size m ⟨b,off,none⟩ m cap news hl λj v hj=>by rw[fJ];exact hc j v hj
  simpa[Builtin.firstCells] using this
theorem Pk{c:Call}{t u e:TypeId}{d x:Operand}{d' x':AOp}{ei:TypeInfo}(ho:o.op= .call c)(hc:c.callee= .builtin .copy)(ha:c.args=#[d,x])(hat:c.argTypes=#[t,u])
 (ht:P.underlying t=some (.slice e))(hei:P.info? e=some ei)(hd:cop d=some d')(hx:cop x=some x')
 (he:ev G ts h (.copy ei.size d' x')=some (av,h')):Yld P G o ts h av h':=by
 simp only[ev] at he;split at he<;>first|(cases he;done)|skip
 rename_i xs hxs;intro W S φ a H T;have hrd:=ay hd T;have hrx:=ay hx T;generalize hvd:a.eval d=vd at hrd;generalize hvx:a.eval x=vx at hrx;obtain⟨ad,cap,news,rfl,n1,n2,n3,n4,n5⟩:=rk H hrx hxs;have hnl:news.length=xs.length*ei.size:=by rw[n2.1,aK n3]
 have run0:∀(ba:Option Addr) (len cap' m:Nat),vd= .slice ba len cap'->min xs.length len=0->(execOp a.eval o).run P W= .ok (.value (.int .i64 0)) W:=λba len cap' m hv hm=>by
  have hf:(Builtin.firstCells ei.size 0 (.slice ad xs.length cap)).run P W= .ok #[] W:=sG (news:=[]) (by simp) (.inl rfl);subst hv;have hm':Nat.min xs.length len=0:=hm;cases ba with
  |none=>simp[execOp,ho,hc,ha,hat,hvd,hvx,resolve,invoke,builtin,Builtin.copy_,run_underlying ht,sizeOf,typeInfo,hei,Builtin.lenOf,hm',hf,goInt]
  |some b=>simp[execOp,ho,hc,ha,hat,hvd,hvx,resolve,invoke,builtin,Builtin.copy_,run_underlying ht,sizeOf,typeInfo,hei,Builtin.lenOf,hm',hf,goInt,storeCells]
 split at he<;>first|(cases he;done)|skip
 ·rename_i e1;rw[e1] at hrd;cases hrd;cases he;exact⟨_,_,W,S,φ,run0 none 0 0 0 rfl (by simp),.value _,.p _ _ (.int _ _),H,Keep.refl H⟩
 ·rename_i id sz off len e1;rw[e1] at hrd;split at he<;>first|(cases he;done)|skip
  rename_i sz' es hrow;split at he<;>first|(cases he;done)|skip
  rename_i hb;cases he;obtain⟨rfl,rfl,hle⟩:=hb;obtain⟨c0,t0,fr0,o1,o2,o3,o4,o5⟩:=H.obj id ei.size es hrow;cases hrd with
  |sl _ _ _ _ cap' ba hid hl hba hcc=>
   by_cases hm:min xs.length len=0
   ·have e0:es.take off++xs.take len++es.drop (off+min xs.length len)=es:=by
     have:xs.take len=[]:=Xr (by rw[WD];omega);rw[this,hm];simp
    rw[e0,show h.set id (.row ei.size es)=h from by
     obtain⟨hi,e⟩:=Wa.1 hrow;rw[←e];simp]
    exact⟨_,_,W,S,φ,run0 ba len cap' 0 rfl hm,.value _,by rw[hm];exact .p _ _ (.int _ _),H,Keep.refl H⟩
   ·generalize hM:min xs.length len=M at*
    have hMl:M<=len:=(by omega);have hXl:(xs.take len).length=M:=(by rw[WD];omega);have hX3:∀e∈xs.take len,e.length=ei.size:=λe he=>n3 e (Xp he);have hXf:(xs.take len).flatten=xs.flatten.take (len*ei.size):=jE n3 len
    have hNl:(news.take (len*ei.size)).length=M*ei.size:=by
     rw[WD,hnl,←hM];rcases Nat.le_total len xs.length with hq|hq
     ·rw[XK (XJ _ hq),Nat.min_eq_right hq]
     ·rw[Nat.min_eq_right (XJ _ hq),XK hq]
    rw[hba (by omega)] at hvd;have hoM:off*ei.size+M*ei.size<=es.length*ei.size:=(by rw[←Xz];exact XJ _ (by omega));obtain⟨W',hrun,hB⟩:=kF (P:=P) (news.take (len*ei.size)) W (φ id).1 ((φ id).2+off*ei.size) 0 c0 t0 fr0 o1 o2 (by rw[hNl];omega) (λv hv=>n5 v (Xp hv))
    have hf:=sG (P:=P) (W:=W) (size:=ei.size) (ad:=ad) (m:=M) (n:=xs.length) (cap:=cap) (news:=news.take (len*ei.size)) hNl (by
     rcases n1 with h0|⟨b,of',k1,k2⟩
     ·omega
     ·exact .inr ⟨b,of',k1,λj v hj=>by
       rw[Xo] at hj;split at hj
       ·exact k2 j v hj
       ·cases hj⟩)
    have hall:∀e∈es.take off++xs.take len++es.drop (off+M),e.length=ei.size:=λe he=>by
     rcases Ws.1 he with he|he
     ·rcases Ws.1 he with he|he
      ·exact o3 e (Xp he)
      ·exact hX3 e he
     ·exact o3 e (YE he)
    have hlen:(es.take off++xs.take len++es.drop (off+M)).length=es.length:=by simp[hXl];omega
    have hfl:(es.take off++xs.take len++es.drop (off+M)).flatten=es.flatten.take (off*ei.size)++(xs.take len).flatten++es.flatten.drop ((off+M)*ei.size):=by rw[XS,XS,jE o3,ng o3]
    have hesl:=aK o3
    obtain⟨A,B⟩:=H.update (W':=W') (es':=es.take off++xs.take len++es.drop (off+M)) hrow o1 (by rw[fO]) hB (by rw[fO];exact o2) hall (by rw[fO,hlen];exact o4) (λj u hj=>by
     rw[AR _ _ _ (by rw[hNl];omega),hNl];rw[hfl,Wp,XI] at hj;have htk:(es.flatten.take (off*ei.size)).length=off*ei.size:=(by rw[WD,hesl];omega);have hXfl:(xs.take len).flatten.length=M*ei.size:=(by rw[aK hX3,hXl]);rw[htk] at hj;split at hj
     ·rename_i hjl;rw[Xo,Wz hjl] at hj;rw[WB (by omega)];exact o5 j u hj
     ·rename_i hjl;rw[XI,hXfl] at hj;split at hj
      ·rename_i hj2;rw[Wz (by omega)];rw[hXf,Xo] at hj;split at hj
       ·rename_i hj3
        have hlt:j-off*ei.size<news.length:=by
         have:=(Wa.1 hj).1;rw[n2.1];exact this
        refine⟨Wu.1 n4 u (Wq hj),news[j-off*ei.size],?_,n2.2 _ _ _ hj (Wc hlt)⟩;rw[Xo,Wz (by omega),←Wc hlt];congr 1;omega
       ·cases hj
      ·rename_i hj2;rw[WB (by omega)];rw[WZ,Xz,show off*ei.size+M*ei.size+(j-off*ei.size-M*ei.size)=j by omega] at hj;exact o5 j u hj)
    refine⟨.value (.int .i64 M),_,W',S,φ,?_,.value _,.p _ _ (.int _ _),A,B⟩;have hM':Nat.min xs.length len=M:=hM;rw[Yq] at*
    simp[execOp,ho,hc,ha,hat,hvd,hvx,resolve,invoke,builtin,Builtin.copy_,run_underlying ht,sizeOf,typeInfo,hei,Builtin.lenOf,hM',hf,goInt,hrun]
theorem vQ:∀{xs:List (List AV)} {l:List UInt8},AS xs=some l->∃ns:List Int,xs=ns.map (λn=>[AV.p (.int .u8 n)])/\l=ns.map λn=>UInt8.ofNat n.toNat
 |[],l,h=>by cases h;exact⟨[],rfl,rfl⟩
 |x::r,l,h=>by
  unfold AS at h;split at h<;>first|(cases h;done)|skip
  ·rename_i e;cases e
  ·rename_i n r' e;cases e;rw[Wf] at h;obtain⟨l',h1,rfl⟩:=h;obtain⟨ns,rfl,rfl⟩:=vQ h1;exact⟨n::ns,rfl,rfl⟩
theorem IW(ns:List Int):∀s:ByteArray,ns.foldl (λr n=>r.push (UInt8.ofNat n.toNat)) s=⟨s.data++(ns.map λn=>UInt8.ofNat n.toNat).toArray⟩:=by
 induction ns with
 |nil=>intro s;simp
 |cons n r ih=>intro s;rw[Yy,ih];simp[ByteArray.push]
theorem uy:∀ns:List Int,(ns.map (λn=>[AV.p (.int .u8 n)])).flatten=ns.map λn=>AV.p (.int .u8 n)
 |[]=>rfl
 |n::r=>by simp[←uy r]
theorem Nm{x:Operand}{x':AOp}{s d e:TypeId}(ho:o.op= .convert s d x)(hs:P.underlying s=some (.slice e))(hee:P.underlying e=some (.int .u8))(hd:P.underlying d=some .string)(hx:cop x=some x')
 (he:ev G ts h (.btos x')=some (av,h')):Yld P G o ts h av h':=by
 simp only[ev] at he;split at he<;>first|(cases he;done)|skip
 rename_i xs hxs;rw[Wf] at he;obtain⟨l,hl,he⟩:=he;cases he;refine .of_same λW S φ a H T=>?_;have hrx:=ay hx T;generalize hvx:a.eval x=vx at hrx;obtain⟨ad,cap,news,rfl,n1,n2,n3,n4,n5⟩:=rk H hrx hxs;obtain⟨ns,rfl,rfl⟩:=vQ hl;rw[uy] at n2
 have hnews:news=ns.map (Value.int .u8):=by
  refine WT λj=>?_;have hlen:=n2.1;simp only[Wj] at hlen;rw[Wl];cases hj:ns[j]? with
  |none=>rw[List.getElem?_eq_none_iff] at hj;simp;omega
  |some n=>
   have hjl:=(Wa.1 hj).1;have:=n2.2 j (.p (.int .u8 n)) _ (by rw[Wl,hj];rfl) (Wc (by omega:j<news.length));rw[Wc (by omega),bS this];rfl
 have hconv:=run_convert_bytes_string (P:=P) W s d e ad (ns.map λn=>[AV.p (.int .u8 n)]).length cap hs hee hd;cases ad with
 |none=>
  have:ns=[]:=by
   rcases n1 with h0|⟨b,off,k,_⟩
   ·simpa using h0
   ·cases k
  subst this;refine⟨.string ⟨⟨[]⟩⟩,?_,.p _ _ (.str _)⟩;simp only[execOp,ho,hvx];simp only[Sem.run_bind,hconv,Conv.bytesToString];rfl
 |some b=>
  have hlc:(loadCells b (ns.map λn=>[AV.p (.int .u8 n)]).length).run P W= .ok (ns.map (Value.int .u8)).toArray W:=by
   rw[←hnews];have:=sG (P:=P) (W:=W) (size:=1) (ad:=some b) (m:=(ns.map λn=>[AV.p (.int .u8 n)]).length) (n:=0) (cap:=0) (news:=news) (by rw[hnews];simp) n1;simpa[Builtin.firstCells] using this
  have h2:=run_bytesToString (P:=P) W b (ns.map λn=>[AV.p (.int .u8 n)]).length cap ns hlc;refine⟨.string ⟨⟨ns.map λn=>UInt8.ofNat n.toNat⟩⟩,?_,.p _ _ (.str _)⟩;rw[IW] at h2;simp only[execOp,ho,hvx];simp only[Sem.run_bind,hconv,h2];rw[show(ByteArray.empty).data++(ns.map λn=>UInt8.ofNat n.toNat).toArray=⟨ns.map λn=>UInt8.ofNat n.toNat⟩ from by simp[ByteArray.empty,ByteArray.emptyWithCapacity];rfl];rfl
theorem Mr{W:World}{S:Nat->Prop}{φ:Place}(H:HRel G W S φ h){ob:Obj}{ao:AO}(hr:∀sz es,ao≠ .row sz es)(hc:∀c t fr,ob≠ .cells c t fr)(ho:∀R,ORel R ao (some ob)):
 HRel G (W.alloc ob) S (upd φ h.length (W.heap.size,0)) (h++[ao])/\Keep W S φ h (W.alloc ob) S (upd φ h.length (W.heap.size,0)) (h++[ao]):=by
 have hold:∀b,b<W.heap.size->(W.alloc ob).heap[b]?=W.heap[b]?:=λb hb=>by
  show(W.heap.push _)[b]?=_;rw[Xv,WB (by omega)]
 have hnew:(W.alloc ob).heap[W.heap.size]?=some ob:=by show(W.heap.push _)[W.heap.size]?=_;simp
 have hs:W.heap.size<(W.alloc ob).heap.size:=by show _<(W.heap.push _).size;simp
 have hφ:∀{i},i<h.length->upd φ h.length (W.heap.size,0) i=φ i:=λhi=>by simp only[upd];rw[WB (by omega)]
 have hφn:upd φ h.length (W.heap.size,0) h.length=(W.heap.size,0):=by simp[upd]
 have hget:∀{i o},(h++[ao])[i]?=some o->(i=h.length/\o=ao)\/(i<h.length/\h[i]?=some o):=λ{i o} e=>by
  rcases YD i h.length with hi|hi|hi
  ·rw[Wb hi] at e;exact .inr ⟨hi,e⟩
  ·subst hi;simp at e;exact .inl ⟨rfl,e.symm⟩
  ·rw[WS (by simp;omega)] at e;cases e
 have K:Kept W S φ h.length (W.alloc ob) S (upd φ h.length (W.heap.size,0)) (h++[ao]).length:=
  {pure:=λb hb=>⟨hb,hold b (H.sep b hb).1⟩
   len:=by simp
   same:=λid hid=>hφ hid
   blk:=λi hi c t fr e=>⟨c,t,fr,by rw[←hold _ (H.bnd i hi)];exact e,rfl⟩}
 refine⟨⟨λid sz es e=>?_,λid o e lo=>?_,λid id' ⟨o1,e1,l1⟩ ⟨o2,e2,l2⟩ he=>?_,λb hb=>⟨WN (H.sep b hb).1 (Nat.le_of_lt hs),λid ⟨o,e,l⟩ he=>?_⟩,λid hid=>?_,λg cs hg=>?_⟩,
  {K with os:=rfl,tape:=rfl,output:=rfl,size:=Nat.le_of_lt hs,out:=λb hb _=>hold b hb,img:=λid ⟨o,e,l⟩=>?_,newS:=λb hb=> .inl hb}⟩
 ·rcases hget e with⟨rfl,e'⟩|⟨hi,e'⟩
  ·exact(hr _ _ e'.symm).elim
  ·obtain⟨c,t,fr,a1,a2,a3,a4,a5⟩:=H.obj id sz es e';refine⟨c,t,fr,by rw[hφ hi,hold _ (H.bnd id hi)];exact a1,a2,a3,by rw[hφ hi];exact a4,λj u hj=>?_⟩;obtain⟨b1,v,b2,b3⟩:=a5 j u hj;exact⟨b1,v,by rw[hφ hi];exact b2,b3.kept K⟩
 ·rcases hget e with⟨rfl,rfl⟩|⟨hi,e'⟩
  ·rw[hφn,hnew];exact ho _
  ·rw[hφ hi,hold _ (H.bnd id hi)];exact(H.oobj id o e' lo).mono λa v r=>r.kept K
 ·rcases hget e1 with⟨rfl,_⟩|⟨hi,e1'⟩<;>rcases hget e2 with⟨rfl,_⟩|⟨hi',e2'⟩
  ·rfl
  ·rw[hφn,hφ hi'] at he;have:=H.bnd _ hi';simp only at he;omega
  ·rw[hφn,hφ hi] at he;have:=H.bnd _ hi;simp only at he;omega
  ·rw[hφ hi,hφ hi'] at he;exact H.inj _ _ ⟨_,e1',l1⟩ ⟨_,e2',l2⟩ he
 ·rcases hget e with⟨rfl,_⟩|⟨hi,e'⟩
  ·rw[hφn] at he;have:=(H.sep b hb).1;simp only at he;omega
  ·rw[hφ hi] at he;exact(H.sep b hb).2 _ ⟨_,e',l⟩ he
 ·rcases Xh id h.length with hi|hi
  ·rw[hφ hi];exact Nat.lt_trans (H.bnd _ hi) hs
  ·have:id=h.length:=by simp at hid;omega
   subst this;rw[hφn];exact hs
 ·obtain⟨g1,g2⟩:=H.glob g cs hg;refine⟨g1,λj c hj=>?_⟩;obtain⟨v,k1,k2⟩:=g2 j c hj;exact⟨v,by rw[aJ (K.pure g g1).2];exact k1,k2.mono K.pure⟩
 ·rcases hget e with⟨rfl,_⟩|⟨hi,e'⟩
  ·rw[hφn];exact .inl (Wo _)
  ·rw[hφ hi];exact .inr ⟨id,⟨_,e',l⟩,rfl⟩
def World.withObj(W:World)(b:Nat)(ob:Obj):World:={W with heap:=W.heap.setIfInBounds b ob}
theorem Ak{W:World}{S:Nat->Prop}{φ:Place}(H:HRel G W S φ h){id:Nat}{ob:Obj}{ao ao':AO}(hid:h[id]?=some ao)(lo:ao.live)(hr:∀sz es,ao'≠ .row sz es)(lo':ao'.live)(hc:∀c t fr,ob≠ .cells c t fr)
 (ho:ORel (VRel W S φ h.length) ao' (some ob)):
 HRel G (World.withObj W (φ id).1 ob) S φ (h.set id ao')/\Keep W S φ h (World.withObj W (φ id).1 ob) S φ (h.set id ao'):=by
 have hidl:id<h.length:=H.lt hid;have hlv:Live h id:=⟨_,hid,lo⟩;have hb:=H.bnd id hidl;have hat:(World.withObj W (φ id).1 ob).heap[(φ id).1]?=some ob:=by simp[World.withObj,hb]
 have hoth:∀b,b≠(φ id).1->(World.withObj W (φ id).1 ob).heap[b]?=W.heap[b]?:=λb hb=>by simp[World.withObj,XB (Ne.symm hb)]
 have hsz:(World.withObj W (φ id).1 ob).heap.size=W.heap.size:=by simp[World.withObj]
 have hget:∀{i o},(h.set id ao')[i]?=some o->(i=id/\o=ao')\/(i≠id/\h[i]?=some o):=λ{i o} e=>by
  by_cases hi:i=id
  ·subst hi;rw[Wh hidl] at e;cases e;exact .inl ⟨rfl,rfl⟩
  ·rw[Wd (Ne.symm hi)] at e;exact .inr ⟨hi,e⟩
 have hlive:∀{i},Live (h.set id ao') i->Live h i:=λ⟨o,e,l⟩=>by
  rcases hget e with⟨rfl,_⟩|⟨_,e'⟩
  ·exact hlv
  ·exact⟨_,e',l⟩
 have K:Kept W S φ h.length (World.withObj W (φ id).1 ob) S φ (h.set id ao').length:=
  {pure:=λb hb'=>⟨hb',hoth b λe=>(H.sep b hb').2 _ hlv e.symm⟩
   len:=by simp
   same:=λ_ _=>rfl
   blk:=λi hi c' t' fr' e=>by
    by_cases hb:(φ i).1=(φ id).1
    ·rw[hb,hat] at e;cases e;exact(hc _ _ _ rfl).elim
    ·rw[hoth _ hb] at e;exact⟨c',t',fr',e,rfl⟩}
 refine⟨⟨λi s es1 e=>?_,λi o1 e l1=>?_,λi i' e1 e2 he=>H.inj _ _ (hlive e1) (hlive e2) he,λb hb'=>⟨by have:=(H.sep b hb').1;rw[hsz];exact this,λi e he=>(H.sep b hb').2 _ (hlive e) he⟩,λi hi=>by rw[hsz];exact H.bnd i (by simpa using hi),λg cs hg=>?_⟩,
  {K with os:=rfl,tape:=rfl,output:=rfl,size:=by rw[hsz];exact Wo _,out:=λb hb' hn=>hoth b (λe=>hn id hlv e.symm),img:=λi e=> .inr ⟨i,hlive e,rfl⟩,newS:=λb hb'=> .inl hb'}⟩
 ·rcases hget e with⟨rfl,e'⟩|⟨hi,e'⟩
  ·exact(hr _ _ e'.symm).elim
  ·obtain⟨c1,t1,fr1,a1,a2,a3,a4,a5⟩:=H.obj i s es1 e';refine⟨c1,t1,fr1,by rw[hoth _ (λhe=>hi (H.inj _ _ (bc e') hlv he))];exact a1,a2,a3,a4,λj a hj=>?_⟩;obtain⟨b1,v,b2,b3⟩:=a5 j a hj;exact⟨b1,v,b2,b3.kept K⟩
 ·rcases hget e with⟨rfl,rfl⟩|⟨hi,e'⟩
  ·rw[hat];exact ho.mono λa v r=>r.kept K
  ·rw[hoth _ (λhe=>hi (H.inj _ _ ⟨_,e',l1⟩ hlv he))];exact(H.oobj i o1 e' l1).mono λa v r=>r.kept K
 ·obtain⟨g1,g2⟩:=H.glob g cs hg;refine⟨g1,λj c' hj=>?_⟩;obtain⟨v,k1,k2⟩:=g2 j c' hj;exact⟨v,by rw[aJ (K.pure g g1).2];exact k1,k2.mono K.pure⟩
theorem PH{t:TypeId}(ho:o.op= .makeMap t none)(he:ev G ts h .mkm=some (av,h')):Yld P G o ts h av h':=by
 cases he;intro W S φ a H T;obtain⟨A,B⟩:=Mr H (ob:= .map #[] 0) (ao:= .mp []) (λ_ _ e=>by cases e) (λ_ _ _ e=>by cases e) (λR=>⟨#[],0,rfl,rfl,λj k a e=>by simp at e,λj e h=>by simp at h,λi j e e' h=>by simp at h⟩);refine⟨.value (.map (some W.heap.size)),_,_,S,_,?_,.value _,?_,A,B⟩
 ·simp[execOp,ho,Instr.makeMap]
 ·have:=VRel.mp (W:=W.alloc (.map #[] 0)) (S:=S) (φ:=upd φ h.length (W.heap.size,0)) (n:=(h++[AO.mp []]).length) h.length (by simp);simpa[upd] using this
def je:TypeDesc->Option Nat
 | .int _=>some 0
 | .string=>some 1
 | .bool=>some 2
 |_=>none
theorem oF{kind:TypeDesc}{kv k':PV}{b:Bool}{v v':Value}(hk:je kind=some (dp kv))(h:keq kv k'=some b)(hv:oB kv=some v)(hv':oB k'=some v'):Instr.sameNow kind v v'=some b/\(b=true->v=v'):=by
 cases kv<;>cases k'<;>simp only[keq] at h<;>first|(cases h;done)|skip
 ·cases hv;cases hv';cases h;cases kind<;>simp[je,dp] at hk;refine⟨?_,λh=>by simp at h;rw[h]⟩;simp only[Instr.sameNow];exact congrArg some (jD _ _)
 ·rename_i k1 n1 k2 n2;split at h<;>first|(cases h;done)|skip
  rename_i e;cases hv;cases hv';cases h;subst e;cases kind<;>simp[je,dp] at hk;refine⟨by simp[Instr.sameNow,jD],λh=>by simp at h;rw[h]⟩
 ·rename_i s1 s2;cases hv;cases hv';cases h;cases kind<;>simp[je,dp] at hk;refine⟨?_,λh=>by simp at h;rw[h]⟩;simp only[Instr.sameNow];congr 1;rw[Yg,beq_toListBytes,ByteArray.toList_eq,ByteArray.toList_eq];simp
 ·cases kind<;>simp[je,dp] at hk
theorem BK{kind:TypeDesc}{kv:PV}{v:Value}(hk:je kind=some (dp kv))(hv:oB kv=some v){R:AV->Value->Prop}:∀(es:List (PV × AV)) (el:List MapEntry) (i:Nat),el.length=es.length->
 (∀(j:Nat) (k:PV) (a:AV),es[j]?=some (k,a)->∃e,el[j]?=some e/\oB k=some e.key/\R a e.val)->
 (∀r,bU kv es=some r->(r=none/\Instr.findNow kind v el i=some none/\∀w,dC kv w es=some (es++[(kv,w)]))\/
   ∃j k a e,r=some a/\es[j]?=some (k,a)/\el[j]?=some e/\e.key=v/\R a e.val/\Instr.findNow kind v el i=some (some (i+j,e.val))/\∀w,dC kv w es=some (es.set j (k,w)))/\
 (bU kv es=none->∀w,dC kv w es=none)
 |[],el,i,hl,_=>by
  have:el=[]:=Xr hl;subst this;exact⟨λr h=>by cases h;exact .inl ⟨rfl,rfl,λw=>rfl⟩,λh=>by cases h⟩
 |(k',a')::es,el,i,hl,hr=>by
  match el,hl with
  |e::el,hl=>
   obtain⟨e0,h1,h2,h3⟩:=hr 0 k' a' rfl;cases h1;cases hq:keq kv k' with
   |none=>exact⟨λr h=>by simp[bU,hq] at h,λ_ w=>by simp[dC,hq]⟩
   |some b=>
    obtain⟨q1,q2⟩:=oF hk hq hv h2;cases b with
    |true=>
     refine⟨λr h=> .inr ⟨0,k',a',e,?_,rfl,rfl,(q2 rfl).symm,h3,by simp[Instr.findNow,q1],λw=>by simp[dC,hq]⟩,λh=>by simp[bU,hq] at h⟩;simp[bU,hq] at h;exact h.symm
    |false=>
     obtain⟨ih1,ih2⟩:=BK hk hv es el (i+1) (by simpa using hl) (λj k a h=>hr (j+1) k a h);refine⟨λr h=>?_,λh w=>by simp only[bU,hq] at h;simp[dC,hq,ih2 h w]⟩;simp only[bU,hq] at h;rcases ih1 r h with⟨g1,g2,g3⟩|⟨j,k,a,e1,g1,g2,g3,g4,g5,g6,g7⟩
     ·exact .inl ⟨g1,by simp[Instr.findNow,q1,g2],λw=>by simp[dC,hq,g3]⟩
     ·exact .inr ⟨j+1,k,a,e1,g1,g2,g3,g4,g5,by simp[Instr.findNow,q1,g6];omega,λw=>by simp[dC,hq,g7]⟩
theorem FI{kv:PV}:∀(ks:List PV) (vs:List (List PV)) (r:Option AV),vs.length=ks.length->(ks.all λk'=>(keq kv k').isSome)=true->bU kv (PI ks vs)=some r->
 (r=none/\∀k∈ks,keq kv k=some false)\/∃(j:Nat) (k:PV) (cs:List PV),ks[j]?=some k/\vs[j]?=some cs/\keq kv k=some true/\r=some (Am cs)
 |[],vs,r,hl,_,h=>by
  have:vs=[]:=Xr hl;subst this;simp[PI,bU] at h;exact .inl ⟨h.symm,λk hk=>by cases hk⟩
 |k::ks,[],r,hl,_,h=>by simp at hl
 |k::ks,cs::vs,r,hl,ha,h=>by
  rw[List.all_cons,Wr] at ha;simp only[PI,List.zipWith_cons_cons,bU] at h;cases hq:keq kv k with
  |none=>rw[hq] at ha;simp at ha
  |some b=>
   rw[hq] at h;cases b with
   |true=>
    simp only[WO] at h;exact .inr ⟨0,k,cs,rfl,rfl,hq,h.symm⟩
   |false=>
    rcases FI ks vs r (by simpa using hl) ha.2 h with⟨h1,h2⟩|⟨j,k',cs',h1,h2,h3,h4⟩
    ·exact .inl ⟨h1,λx hx=>by
      rcases WE.1 hx with rfl|hx
      ·exact hq
      ·exact h2 x hx⟩
    ·exact .inr ⟨j+1,k',cs',h1,h2,h3,h4⟩
theorem KM{kind:TypeDesc}{v:Value}:∀(el:List MapEntry) (s:Nat),(∀e∈el,Instr.sameNow kind v e.key=some false)->Instr.findNow kind v el s=some none
 |[],s,_=>rfl
 |e::el,s,h=>by simp[Instr.findNow,h e (by simp),KM el (s+1) λx hx=>h x (by simp[hx])]
theorem FV{kind:TypeDesc}{v:Value}:∀(el:List MapEntry) (s i:Nat) (e:MapEntry),el[i]?=some e->Instr.sameNow kind v e.key=some true->(∀i' e',i'≠i->el[i']?=some e'->Instr.sameNow kind v e'.key=some false)->Instr.findNow kind v el s=some (some (s+i,e.val))
 |[],s,i,e,h,_,_=>by simp at h
 |x::el,s,0,e,h,h1,_=>by
  simp at h;subst h;simp[Instr.findNow,h1]
 |x::el,s,i+1,e,h,h1,h2=>by
  have h0:=h2 0 x (by omega) rfl;have ih:=FV el (s+1) i e (by simpa using h) h1 λi' e' hi he=>h2 (i'+1) e' (by omega) (by simpa using he);simp[Instr.findNow,h0,ih];omega
theorem GM{W:World}{S:Nat->Prop}{φ:Place}{n:Nat}{cs:List PV}{f:Nat->Value}(h:∀(i:Nat) (c:PV),cs[i]?=some c->PRel W S c (f i)):VRel W S φ n (Am cs) (Ez cs.length f):=by
 have gen:∀cs:List PV,cs.length≠1->(∀(i:Nat) (c:PV),cs[i]?=some c->PRel W S c (f i))->VRel W S φ n (.agg (cs.map .p)) (Ez cs.length f):=λcs hl h=>by
  rw[Ez,WB hl];refine .agg _ _ (by simp) λj c v e1 e2=>?_;rw[Wl,Wf] at e1;obtain⟨x,hx,rfl⟩:=e1;have hj:=(Wa.1 hx).1;have e3:f j=v:=by simpa[hj] using e2
  subst e3;exact .p _ _ (h j x hx)
 match cs,h with
 |[c],h=>exact .p _ _ (h 0 c rfl)
 |[],h=>exact gen [] (by simp) h
 |a::b::r,h=>exact gen (a::b::r) (by simp) h
theorem ru{W:World}{kt:TypeId}{kind:TypeDesc}{kd:Nat}(hu:P.underlying kt=some kind)(hk:je kind=some kd)(b:Bool)(v:Value):(Instr.checkKey b 10000 kt v).run P W= .ok () W:=by
 have key:∀n,(Instr.checkKey b (n+1) kt v).run P W= .ok () W:=λn=>by cases kind<;>simp[je] at hk<;>simp[Instr.checkKey,run_underlying hu]
 exact key 9999
theorem Fq{W:World}{S:Nat->Prop}{φ:Place}{n:Nat}{kv:PV}{x:Value}{kind:TypeDesc}(hk:je kind=some (dp kv))(h:VRel W S φ n (.p kv) x):oB kv=some x:=by
 cases lN h with
 |bool b=>rfl
 |int k n=>rfl
 |str s=>rfl
 |lst0 sz a c=>cases kind<;>simp[je,dp] at hk
 |lst sz es b off cap vs _ _ _ _ _=>cases kind<;>simp[je,dp] at hk
 |tbl ks vs b clock ents cv _ _ _ _ _ _ _=>cases kind<;>simp[je,dp] at hk
def Bx(P:Program)(t:TypeId):Option AV:=
 match P.info? t with
 |some i=>i.zero.bind cv
 |none=>none
theorem AQ{t:TypeId}{z:AV}(hz:Bx P t=some z)(W:World)(S:Nat->Prop)(φ:Place)(n:Nat):∃zv,(zeroValue t).run P W= .ok zv W/\VRel W S φ n z zv:=by
 unfold Bx at hz;split at hz<;>first|(cases hz;done)|skip
 rename_i i hi;rw[XG] at hz;obtain⟨zv,h1,h2⟩:=hz;exact⟨zv,by simp[zeroValue,typeInfo,hi,h1],HZ h2⟩
theorem RH{t kt et:TypeId}{kind:TypeDesc}{kd:Nat}{z:AV}{m k:Operand}{m' k':AOp}{comma:Bool}(ho:o.op= .lookup t m k comma)(ht:P.underlying t=some (.map kt et))(hkt:P.underlying kt=some kind)(hkd:je kind=some kd)
 (hz:Bx P et=some z)(hm:cop m=some m')(hk:cop k=some k')(he:ev G ts h (.lk kd z comma m' k')=some (av,h')):Yld P G o ts h av h':=by
 simp only[ev] at he;split at he<;>first|(cases he;done)|skip
 rename_i kv ek;split at he<;>first|(cases he;done)|skip
 rename_i hkk;subst hkk
 suffices hs:∀(W:World) (S:Nat->Prop) (φ:Place) (a:Act),HRel G W S φ h->TRel W S φ h.length ts a.tmps->∃v b r,(Instr.lookup t (a.eval m) (a.eval k) comma).run P W= .ok (if comma then .tuple #[v,.bool b] else v) W/\h'=h/\
  VRel W S φ h.length r v/\av=(if comma then .tup [r,.p (.bool b)] else r) by
  intro W S φ a H T;obtain⟨v,b,r,h1,rfl,h3,rfl⟩:=hs W S φ a H T;refine⟨.value (if comma then .tuple #[v,.bool b] else v),_,W,S,φ,?_,.value _,?_,H,Keep.refl H⟩
  ·simp[execOp,ho,h1]
  ·cases comma with
   |false=>exact h3
   |true=>
    refine .tup _ _ rfl λj c x e1 e2=>?_
    match j,e1,e2 with
    |0,e1,e2=>cases e1;cases e2;exact h3
    |1,e1,e2=>cases e1;cases e2;exact .p _ _ (.bool _)
    |j+2,e1,e2=>simp at e1
 intro W S φ a H T;have hrk:=ay hk T;have hrm:=ay hm T;rw[ek] at hrk;have hkey:=Fq hkd hrk;obtain⟨zv,z1,z2⟩:=AQ hz W S φ h.length;generalize a.eval k=vk at*
 generalize a.eval m=vm at*
 split at he<;>first|(cases he;done)|skip
 ·rename_i id em;rw[em] at hrm;split at he<;>first|(cases he;done)|skip
  rename_i es hes;rw[Wf] at he;obtain⟨r,hr,he⟩:=he;cases he;obtain⟨ents,clock,a1,a2⟩:=H.oobj id _ hes trivial;cases hrm with
  |mp _ hid=>
   have hg:(getObj (φ id).1).run P W= .ok (.map ents clock) W:=MapKept.run_getObj_map a1;have hck:=ru (P:=P) (W:=W) hkt hkd;rcases(BK hkd hkey es ents.toList 0 (by simpa using a2.1) (λj k a e=>by simpa using a2.2.1 j k a e)).1 r hr with⟨rfl,g2,_⟩|⟨j,k0,a0,e0,rfl,g2,g3,g4,g5,g6,_⟩
   ·refine⟨zv,false,z,?_,rfl,z2,by cases comma<;>rfl⟩;cases comma<;>simp[Instr.lookup,run_underlying ht,hg,hck,Instr.findKey,run_underlying hkt,g2,z1]
   ·refine⟨e0.val,true,a0,?_,rfl,g5,by cases comma<;>rfl⟩;cases comma<;>simp[Instr.lookup,run_underlying ht,hg,hck,Instr.findKey,run_underlying hkt,g6]
 ·rename_i em;rw[em] at hrm;cases hrm;cases he;have hck:=ru (P:=P) (W:=W) hkt hkd;refine⟨zv,false,z,?_,rfl,z2,by cases comma<;>rfl⟩;cases comma<;>simp[Instr.lookup,run_underlying ht,hck,Instr.findKey,run_underlying hkt,Instr.findNow,z1]
 ·rename_i ks vs em;rw[em] at hrm;split at he<;>first|(cases he;done)|skip
  rename_i hall;rw[Wf] at he;obtain⟨r,hr,he⟩:=he;cases he;cases lN hrm with
  |tbl _ _ b clock ents cv hb hmp hl h1 h2 h3 h4=>
   have hg:(getObj b).run P W= .ok (.map ents clock) W:=MapKept.run_getObj_map hmp;have hck:=ru (P:=P) (W:=W) hkt hkd
   have hcmp:∀(i:Nat) (e:MapEntry),ents[i]?=some e->∃k b,k∈ks/\oB k=some e.key/\keq kv k=some b/\Instr.sameNow kind vk e.key=some b/\(b=true->vk=e.key):=λi e he=>by
    obtain⟨k,hk1,hk2⟩:=h2 i e he;have:=Wu.1 hall k hk1;cases hq:keq kv k with
    |none=>rw[hq] at this;cases this
    |some b=>
     obtain⟨q1,q2⟩:=oF hkd hq hkey hk2;exact⟨k,b,hk1,hk2,hq,q1,q2⟩
   rcases FI ks vs r hl hall hr with⟨rfl,g2⟩|⟨j,k,cs,g1,g2,g3,rfl⟩
   ·have hf:Instr.findNow kind vk ents.toList 0=some none:=KM _ _ λe he=>by
     obtain⟨i,hi⟩:=WA he;obtain⟨k,b,k1,k2,k3,k4,_⟩:=hcmp i e (by simpa using hi);rw[g2 k k1] at k3;cases k3;exact k4
    refine⟨zv,false,z,?_,rfl,z2,by cases comma<;>rfl⟩;cases comma<;>simp[Instr.lookup,run_underlying ht,hg,hck,Instr.findKey,run_underlying hkt,hf,z1]
   ·obtain⟨i,e,e1,e2,e3⟩:=h1 j k cs g1 g2;obtain⟨q1,q2⟩:=oF hkd g3 hkey e2
    have hf:Instr.findNow kind vk ents.toList 0=some (some (0+i,e.val)):=FV _ _ _ _ (by simpa using e1) q1 λi' e' hne he=>by
     obtain⟨k',b,k1,k2,k3,k4,k5⟩:=hcmp i' e' (by simpa using he);cases b with
     |false=>exact k4
     |true=>exact absurd (h3 i' i e' e (by simpa using he) e1 (by rw[←k5 rfl,←q2 rfl])) hne
    refine⟨e.val,true,Am cs,?_,rfl,by rw[e3];exact GM λi c hc=>h4 j i cs c g2 hc,by cases comma<;>rfl⟩;cases comma<;>simp[Instr.lookup,run_underlying ht,hg,hck,Instr.findKey,run_underlying hkt,hf]
theorem uq{kv:PV}{v:Value}(h:oB kv=some v)(n:Nat):Instr.sameBits (n+1) v v=true:=by
 cases kv<;>simp[oB] at h<;>subst h<;>simp only[Instr.sameBits]
 ·simp
 ·simp
 ·rw[beq_toListBytes];simp
 ·simp[Instr.sameBits]
theorem Kz{t kt et:TypeId}{kind:TypeDesc}{kd:Nat}{m k x:Operand}{m' k' x':AOp}(ho:o.op= .mapUpdate t m k x\/o.op= .insert t m k x)(ht:P.underlying t=some (.map kt et))(hkt:P.underlying kt=some kind)(hkd:je kind=some kd)
 (hm:cop m=some m')(hk:cop k=some k')(hx:cop x=some x')(he:ev G ts h (.mup kd m' k' x')=some (av,h')):Yld P G o ts h av h':=by
 simp only[ev] at he;split at he<;>first|(cases he;done)|skip
 rename_i kv ek;split at he<;>first|(cases he;done)|skip
 rename_i hkk;subst hkk;split at he<;>first|(cases he;done)|skip
 rename_i id em;split at he<;>first|(cases he;done)|skip
 rename_i es hes;rw[Wf] at he;obtain⟨es',hes',he⟩:=he;cases he;intro W S φ a H T;have hrk:=ay hk T;have hrm:=ay hm T;have hrx:=ay hx T;rw[ek] at hrk;rw[em] at hrm;have hkey:=Fq hkd hrk
 have hrun:∀W',(Instr.mapUpdate t (a.eval m) (a.eval k) (a.eval x)).run P W= .ok () W'->(execOp a.eval o).run P W= .ok .skip W':=λW' e=>by rcases ho with ho|ho<;>simp[execOp,ho,e]
 generalize a.eval k=vk at*
 generalize a.eval m=vm at*
 generalize a.eval x=vx at*
 obtain⟨ents,clock,a1,a2,a3,a4,a5⟩:=H.oobj id _ hes trivial;cases hrm with
 |mp _ hid=>
  have hg:(getObj (φ id).1).run P W= .ok (.map ents clock) W:=MapKept.run_getObj_map a1;have hck:=ru (P:=P) (W:=W) hkt hkd;have hset:∀ob,(setObj (φ id).1 ob).run P W= .ok () (World.withObj W (φ id).1 ob):=λob=>by simp[setObj,Sem.run,a1,World.withObj]
  obtain⟨f1,f2⟩:=BK hkd hkey es ents.toList 0 (by simpa using a2) (λj k a e=>by simpa using a3 j k a e);cases hq:bU kv es with
  |none=>rw[f2 hq] at hes';cases hes'
  |some r=>
   rcases f1 r hq with⟨rfl,g2,g3⟩|⟨j,k0,a0,e0,rfl,g2,g3,g4,g5,g6,g7⟩
   ·rw[g3] at hes';cases hes'
    obtain⟨A,B⟩:=Ak H (ob:= .map (ents.push {key:=vk,val:=vx,born:=clock}) (clock+1)) (ao':= .mp (es++[(kv,x'.ev ts)])) hes trivial (λ_ _ e=>by cases e) trivial (λ_ _ _ e=>by cases e)
     ⟨_,_,rfl,by simp[a2],(λj k a e=>by
       rcases YD j es.length with hj|hj|hj
       ·rw[Wb hj] at e;obtain⟨e1,h1,h2,h3⟩:=a3 j k a e;exact⟨e1,by rw[Xv,WB (by omega)];exact h1,h2,h3⟩
       ·subst hj;simp at e;obtain⟨rfl,rfl⟩:=e;exact⟨{key:=vk,val:=vx,born:=clock},by rw[Xv,Wz a2.symm],hkey,hrx⟩
       ·rw[WS (by simp;omega)] at e;cases e),(λj e h1=>by
       rw[Xv] at h1;split at h1
       ·cases h1;simp
       ·have:=a4 j e h1;omega),(λi j e e' h1 h2 hb=>by
       rw[Xv] at h1 h2;split at h1<;>split at h2
       ·omega
       ·cases h1;have:=a4 j e' h2;simp at hb;omega
       ·cases h2;have:=a4 i e h1;simp at hb;omega
       ·exact a5 i j e e' h1 h2 hb)⟩
    refine⟨_,_,_,S,φ,hrun _ ?_,.skip,.any _,A,B⟩;simp[Instr.mapUpdate,run_underlying ht,hg,hck,Instr.findKey,run_underlying hkt,g2,hset]
   ·rw[g7] at hes';cases hes';have hjl:j<es.length:=(Wa.1 g2).1;have g3':ents[j]?=some e0:=by simpa using g3
    obtain⟨A,B⟩:=Ak H (ob:= .map (ents.modify j λe=>{e with key:=vk,val:=vx}) clock) (ao':= .mp (es.set j (k0,x'.ev ts))) hes trivial (λ_ _ e=>by cases e) trivial (λ_ _ _ e=>by cases e)
     ⟨_,_,rfl,by simp[a2],(λi k a e=>by
       by_cases hi:i=j
       ·subst hi;rw[Wh hjl] at e;cases e;refine⟨{e0 with key:=vk,val:=vx},by simp[XE,g3'],?_,hrx⟩;obtain⟨e1,h1,h2,h3⟩:=a3 i _ _ g2;rw[g3'] at h1;cases h1;rw[h2,g4]
       ·rw[Wd (Ne.symm hi)] at e;obtain⟨e1,h1,h2,h3⟩:=a3 i k a e;exact⟨e1,by rw[XE,WB (Ne.symm hi)];exact h1,h2,h3⟩),(λi e h1=>by
       rw[XE] at h1;split at h1
       ·rw[Wf] at h1;obtain⟨e1,h1,rfl⟩:=h1;exact a4 i e1 h1
       ·exact a4 i e h1),(λi i' e e' h1 h2 hb=>by
       rw[XE] at h1 h2
       have q1:∃d,ents[i]?=some d/\d.born=e.born:=by
        split at h1
        ·rw[Wf] at h1;obtain⟨d,h1,rfl⟩:=h1;exact⟨d,h1,rfl⟩
        ·exact⟨e,h1,rfl⟩
       have q2:∃d,ents[i']?=some d/\d.born=e'.born:=by
        split at h2
        ·rw[Wf] at h2;obtain⟨d,h2,rfl⟩:=h2;exact⟨d,h2,rfl⟩
        ·exact⟨e',h2,rfl⟩
       obtain⟨d1,c1,c2⟩:=q1;obtain⟨d2,c3,c4⟩:=q2;exact a5 i i' d1 d2 c1 c3 (by rw[c2,c4,hb]))⟩
    refine⟨_,_,_,S,φ,hrun _ ?_,.skip,.any _,A,B⟩;have hsb:Instr.sameBits 10000 vk vk=true:=uq hkey 9999;simp[Instr.mapUpdate,run_underlying ht,hg,hck,Instr.findKey,run_underlying hkt,g6,g3',Instr.keyThatStays,g4,hsb,hset]
theorem rx{W:World}{et:TypeId}(he:P.underlying et=some (.int .i64)){xs:Array Value}{off:Nat}{v:Value}(hx:xs[off]?=some v):(part et xs off).run P W= .ok v W:=by simp[part,isAgg,run_underlying he,hx]
theorem oX{W:World}{kt et:TypeId}(hu:P.underlying kt=some (.array 2 et))(he:P.underlying et=some (.int .i64)){ei:TypeInfo}(hi:P.info? et=some ei)(h1:ei.size=1)(em:Bool)(a b:Int):
 (Instr.checkKey em 10000 kt (.agg #[.int .i64 a,.int .i64 b])).run P W= .ok () W:=by
 have c0:∀n v,(Instr.checkKey em (n+1) et v).run P W= .ok () W:=λn v=>by simp[Instr.checkKey,run_underlying he]
 have key:∀n,(Instr.checkKey em (n+1+1) kt (.agg #[.int .i64 a,.int .i64 b])).run P W= .ok () W:=λn=>by
  have c:=c0 n;have hs:(sizeOf et).run P W= .ok 1 W:=by simp[sizeOf,typeInfo,hi,h1]
  have p0:=rx (W:=W) he (xs:=#[.int .i64 a,.int .i64 b]) (off:=0) rfl;have p1:=rx (W:=W) he (xs:=#[.int .i64 a,.int .i64 b]) (off:=1) rfl;rw[Instr.checkKey];simp only[Sem.run_bind,run_underlying hu,Result.andThen_ok];simp only[Std.Legacy.Range.forIn_eq_forIn_range',Std.Legacy.Range.size,ZK,Nat.add_one_sub_one,Nat.div_one];rw[show List.range' 0 2=[0,1] from rfl];simp only[List.forIn_cons,List.forIn_nil,Sem.run_bind,hs,Result.andThen_ok,Sem.run_pure,ZL,Zb,p0,p1,c]
 exact key 9998
theorem Gb{W:World}{kt et:TypeId}(hu:P.underlying kt=some (.array 2 et))(he:P.underlying et=some (.int .i64)){ei:TypeInfo}(hi:P.info? et=some ei)(h1:ei.size=1)(a b c d:Int):
 (Op.equal kt (.agg #[.int .i64 a,.int .i64 b]) (.agg #[.int .i64 c,.int .i64 d])).run P W= .ok (decide (a=c)&&decide (b=d)) W:=by
 have e0:∀(n:Nat) (x y:Int),(Op.equalIn (n+1) et (.int .i64 x) (.int .i64 y)).run P W= .ok (decide (x=y)) W:=λn x y=>by simp[Op.equalIn,run_underlying he,jD]
 have key:∀n,(Op.equalIn (n+1+1) kt (.agg #[.int .i64 a,.int .i64 b]) (.agg #[.int .i64 c,.int .i64 d])).run P W= .ok (decide (a=c)&&decide (b=d)) W:=λn=>by
  have e:=e0 n;have hs:(sizeOf et).run P W= .ok 1 W:=by simp[sizeOf,typeInfo,hi,h1]
  have p0:=rx (W:=W) he (xs:=#[.int .i64 a,.int .i64 b]) (off:=0) rfl;have p1:=rx (W:=W) he (xs:=#[.int .i64 a,.int .i64 b]) (off:=1) rfl;have q0:=rx (W:=W) he (xs:=#[.int .i64 c,.int .i64 d]) (off:=0) rfl;have q1:=rx (W:=W) he (xs:=#[.int .i64 c,.int .i64 d]) (off:=1) rfl;rw[Op.equalIn];simp only[Sem.run_bind,run_underlying hu,Result.andThen_ok];simp only[Std.Legacy.Range.forIn_eq_forIn_range',Std.Legacy.Range.size,ZK,Nat.add_one_sub_one,Nat.div_one];rw[show List.range' 0 2=[0,1] from rfl];simp only[List.forIn_cons,List.forIn_nil,Sem.run_bind,hs,Result.andThen_ok,ZL,Zb,p0,q0]
  by_cases h:a=c
  ·subst h
   by_cases h':b=d
   ·simp[h',q1,e]
   ·simp[h',p1,q1,e]
  ·simp[h,e]
 exact key 9998
theorem uO{W:World}{kt et:TypeId}(hu:P.underlying kt=some (.array 2 et))(he:P.underlying et=some (.int .i64)){ei:TypeInfo}(hi:P.info? et=some ei)(h1:ei.size=1)(a b:Int){R:AV->Value->Prop}:∀(es:List (PV × AV)) (el:List MapEntry) (i:Nat),el.length=es.length->
 (∀(j:Nat) (k:PV) (a:AV),es[j]?=some (k,a)->∃e,el[j]?=some e/\oB k=some e.key/\R a e.val)->
 (∀r,bU (.pair a b) es=some r->(r=none/\(Instr.findAsking kt (.agg #[.int .i64 a,.int .i64 b]) el i).run P W= .ok none W/\∀w,dC (.pair a b) w es=some (es++[(.pair a b,w)]))\/
   ∃j k a0 e,r=some a0/\es[j]?=some (k,a0)/\el[j]?=some e/\e.key= .agg #[.int .i64 a,.int .i64 b]/\R a0 e.val/\(Instr.findAsking kt (.agg #[.int .i64 a,.int .i64 b]) el i).run P W= .ok (some (i+j,e.val)) W/\∀w,dC (.pair a b) w es=some (es.set j (k,w)))/\
 (bU (.pair a b) es=none->∀w,dC (.pair a b) w es=none)
 |[],el,i,hl,_=>by
  have:el=[]:=Xr hl;subst this;exact⟨λr h=>by cases h;exact .inl ⟨rfl,by simp[Instr.findAsking],λw=>rfl⟩,λh=>by cases h⟩
 |(k',a')::es,el,i,hl,hr=>by
  match el,hl with
  |e::el,hl=>
   obtain⟨e0,h1',h2,h3⟩:=hr 0 k' a' rfl;cases h1';cases k' with
   |pair c d=>
    simp only[oB,WO] at h2;have hrun:=Gb (W:=W) hu he hi h1 a b c d;rw[h2] at hrun
    by_cases hq:a=c/\b=d
    ·obtain⟨rfl,rfl⟩:=hq;simp only[decide_true,Bool.and_self] at hrun;refine⟨λr h=> .inr ⟨0,.pair a b,a',e,?_,rfl,rfl,h2.symm,h3,by simp[Instr.findAsking,hrun],λw=>by simp[dC,keq]⟩,λh=>by simp[bU,keq] at h⟩;simp[bU,keq] at h;exact h.symm
    ·have hf:(decide (a=c)&&decide (b=d))=false:=by
      by_cases h5:a=c
      ·have:¬b=d:=λh6=>hq ⟨h5,h6⟩;simp[this]
      ·simp[h5]
     rw[hf] at hrun;obtain⟨ih1,ih2⟩:=uO (W:=W) hu he hi h1 a b es el (i+1) (by simpa using hl) (λj k a h=>hr (j+1) k a h);refine⟨λr h=>?_,λh w=>by simp only[bU,keq,hf] at h;simp[dC,keq,hf,ih2 h w]⟩;simp only[bU,keq,hf] at h;rcases ih1 r h with⟨g1,g2,g3⟩|⟨j,k,a1,e1,g1,g2,g3,g4,g5,g6,g7⟩
     ·exact .inl ⟨g1,by simp[Instr.findAsking,hrun,g2],λw=>by simp[dC,keq,hf,g3]⟩
     ·exact .inr ⟨j+1,k,a1,e1,g1,g2,g3,g4,g5,by simp[Instr.findAsking,hrun,g6];omega,λw=>by simp[dC,keq,hf,g7]⟩
   |_=>exact⟨λr h=>by simp[bU,keq] at h,λ_ w=>by simp[dC,keq]⟩
theorem lh{W:World}{kt et:TypeId}(hu:P.underlying kt=some (.array 2 et))(x:Value)(es:List MapEntry):(Instr.findKey kt x es).run P W=(Instr.findAsking kt x es).run P W:=by
 cases es with
 |nil=>simp[Instr.findKey,run_underlying hu,Instr.findNow,Instr.findAsking]
 |cons e es=>simp[Instr.findKey,run_underlying hu,Instr.findNow,Instr.sameNow]
theorem Bf{W:World}{S:Nat->Prop}{φ:Place}{n:Nat}{a b:Int}{x:Value}(h:VRel W S φ n (.agg [.p (.int .i64 a),.p (.int .i64 b)]) x):x= .agg #[.int .i64 a,.int .i64 b]:=by
 cases h with
 |agg cs c hl hr=>
  have h0:∃v,c[0]?=some v:=⟨c[0]'(by simp at hl;omega),by simp[show 0<c.size by simp at hl;omega]⟩;have h1:∃v,c[1]?=some v:=⟨c[1]'(by simp at hl;omega),by simp[show 1<c.size by simp at hl;omega]⟩;obtain⟨v,hv⟩:=h0;obtain⟨w,hw⟩:=h1;have q0:=bS (hr 0 _ v rfl hv);have q1:=bS (hr 1 _ w rfl hw);congr 1;refine Array.ext (by simpa using hl) λi i1 i2=>?_
  match i,i2 with
  |0,_=>
   have:c[0]=v:=(by simpa[WW i1] using hv);simp[this,q0]
  |1,_=>
   have:c[1]=w:=(by simpa[WW i1] using hw);simp[this,q1]
theorem Qa{t kt et vt:TypeId}{z:AV}{m k:Operand}{m' k':AOp}{comma:Bool}(ho:o.op= .lookup t m k comma)(ht:P.underlying t=some (.map kt vt))(hu:P.underlying kt=some (.array 2 et))(hee:P.underlying et=some (.int .i64)){ei:TypeInfo}(hi:P.info? et=some ei)(h1:ei.size=1)
 (hz:Bx P vt=some z)(hm:cop m=some m')(hk:cop k=some k')(he:ev G ts h (.lk2 z comma m' k')=some (av,h')):Yld P G o ts h av h':=by
 simp only[ev] at he;split at he<;>first|(cases he;done)|skip
 rename_i ka kb ek;split at he<;>first|(cases he;done)|skip
 rename_i id em;split at he<;>first|(cases he;done)|skip
 rename_i es hes;rw[Wf] at he;obtain⟨r,hr,he⟩:=he;cases he;intro W S φ a H T;have hrk:=ay hk T;have hrm:=ay hm T;rw[ek] at hrk;rw[em] at hrm;have hkey:=Bf hrk;obtain⟨zv,z1,z2⟩:=AQ hz W S φ h.length;obtain⟨ents,clock,a1,a2⟩:=H.oobj id _ hes trivial
 have hvm:a.eval m= .map (some (φ id).1):=by
  generalize a.eval m=vm at hrm;cases hrm;rfl
 have hg:(getObj (φ id).1).run P W= .ok (.map ents clock) W:=MapKept.run_getObj_map a1;have hck:=oX (P:=P) (W:=W) hu hee hi h1
 suffices hs:∃v b rr,(Instr.lookup t (a.eval m) (a.eval k) comma).run P W= .ok (if comma then .tuple #[v,.bool b] else v) W/\VRel W S φ h.length rr v/\(if comma then AV.tup [r.getD z,.p (.bool r.isSome)] else r.getD z)=(if comma then .tup [rr,.p (.bool b)] else rr) by
  obtain⟨v,b,rr,q1,q2,q3⟩:=hs;rw[q3];refine⟨.value (if comma then .tuple #[v,.bool b] else v),_,W,S,φ,by simp[execOp,ho,q1],.value _,?_,H,Keep.refl H⟩;cases comma with
  |false=>exact q2
  |true=>
   refine .tup _ _ rfl λj c x e1 e2=>?_
   match j,e1,e2 with
   |0,e1,e2=>cases e1;cases e2;exact q2
   |1,e1,e2=>cases e1;cases e2;exact .p _ _ (.bool _)
   |j+2,e1,e2=>simp at e1
 rw[hvm,hkey];rcases(uO (W:=W) hu hee hi h1 ka kb es ents.toList 0 (by simpa using a2.1) (λj k a e=>by simpa using a2.2.1 j k a e)).1 r hr with⟨rfl,g2,_⟩|⟨j,k0,a0,e0,rfl,g2,g3,g4,g5,g6,_⟩
 ·refine⟨zv,false,z,?_,z2,by cases comma<;>rfl⟩;cases comma<;>simp[Instr.lookup,run_underlying ht,hg,hck,lh hu,g2,z1]
 ·refine⟨e0.val,true,a0,?_,g5,by cases comma<;>rfl⟩;cases comma<;>simp[Instr.lookup,run_underlying ht,hg,hck,lh hu,g6]
theorem FT{t kt et vt:TypeId}{m k x:Operand}{m' k' x':AOp}(ho:o.op= .mapUpdate t m k x\/o.op= .insert t m k x)(ht:P.underlying t=some (.map kt vt))(hu:P.underlying kt=some (.array 2 et))(hee:P.underlying et=some (.int .i64)){ei:TypeInfo}(hi:P.info? et=some ei)(h1:ei.size=1)
 (hm:cop m=some m')(hk:cop k=some k')(hx:cop x=some x')(he:ev G ts h (.mup2 m' k' x')=some (av,h')):Yld P G o ts h av h':=by
 simp only[ev] at he;split at he<;>first|(cases he;done)|skip
 rename_i ka kb ek;split at he<;>first|(cases he;done)|skip
 rename_i id em;split at he<;>first|(cases he;done)|skip
 rename_i es hes;rw[Wf] at he;obtain⟨es',hes',he⟩:=he;cases he;intro W S φ a H T;have hrk:=ay hk T;have hrm:=ay hm T;have hrx:=ay hx T;rw[ek] at hrk;rw[em] at hrm;have hkey:oB (.pair ka kb)=some (a.eval k):=by rw[Bf hrk];rfl
 have hkq:=Bf hrk
 have hrun:∀W',(Instr.mapUpdate t (a.eval m) (a.eval k) (a.eval x)).run P W= .ok () W'->(execOp a.eval o).run P W= .ok .skip W':=λW' e=>by rcases ho with ho|ho<;>simp[execOp,ho,e]
 generalize a.eval k=vk at*
 generalize a.eval m=vm at*
 generalize a.eval x=vx at*
 obtain⟨ents,clock,a1,a2,a3,a4,a5⟩:=H.oobj id _ hes trivial;cases hrm with
 |mp _ hid=>
  have hg:(getObj (φ id).1).run P W= .ok (.map ents clock) W:=MapKept.run_getObj_map a1;have hck:(Instr.checkKey false 10000 kt vk).run P W= .ok () W:=by rw[hkq];exact oX (P:=P) (W:=W) hu hee hi h1 false ka kb
  have hset:∀ob,(setObj (φ id).1 ob).run P W= .ok () (World.withObj W (φ id).1 ob):=λob=>by simp[setObj,Sem.run,a1,World.withObj]
  obtain⟨f1,f2⟩:=uO (W:=W) hu hee hi h1 ka kb es ents.toList 0 (by simpa using a2) (λj k a e=>by simpa using a3 j k a e);rw[←hkq] at f1;cases hq:bU (.pair ka kb) es with
  |none=>rw[f2 hq] at hes';cases hes'
  |some r=>
   rcases f1 r hq with⟨rfl,g2,g3⟩|⟨j,k0,a0,e0,rfl,g2,g3,g4,g5,g6,g7⟩
   ·rw[g3] at hes';cases hes'
    obtain⟨A,B⟩:=Ak H (ob:= .map (ents.push {key:=vk,val:=vx,born:=clock}) (clock+1)) (ao':= .mp (es++[(.pair ka kb,x'.ev ts)])) hes trivial (λ_ _ e=>by cases e) trivial (λ_ _ _ e=>by cases e)
     ⟨_,_,rfl,by simp[a2],(λj k a e=>by
       rcases YD j es.length with hj|hj|hj
       ·rw[Wb hj] at e;obtain⟨e1,h1,h2,h3⟩:=a3 j k a e;exact⟨e1,by rw[Xv,WB (by omega)];exact h1,h2,h3⟩
       ·subst hj;simp at e;obtain⟨rfl,rfl⟩:=e;exact⟨{key:=vk,val:=vx,born:=clock},by rw[Xv,Wz a2.symm],hkey,hrx⟩
       ·rw[WS (by simp;omega)] at e;cases e),(λj e h1=>by
       rw[Xv] at h1;split at h1
       ·cases h1;simp
       ·have:=a4 j e h1;omega),(λi j e e' h1 h2 hb=>by
       rw[Xv] at h1 h2;split at h1<;>split at h2
       ·omega
       ·cases h1;have:=a4 j e' h2;simp at hb;omega
       ·cases h2;have:=a4 i e h1;simp at hb;omega
       ·exact a5 i j e e' h1 h2 hb)⟩
    refine⟨_,_,_,S,φ,hrun _ ?_,.skip,.any _,A,B⟩;simp[Instr.mapUpdate,run_underlying ht,hg,hck,lh hu,g2,hset]
   ·rw[g7] at hes';cases hes';have hjl:j<es.length:=(Wa.1 g2).1;have g3':ents[j]?=some e0:=by simpa using g3
    obtain⟨A,B⟩:=Ak H (ob:= .map (ents.modify j λe=>{e with key:=vk,val:=vx}) clock) (ao':= .mp (es.set j (k0,x'.ev ts))) hes trivial (λ_ _ e=>by cases e) trivial (λ_ _ _ e=>by cases e)
     ⟨_,_,rfl,by simp[a2],(λi k a e=>by
       by_cases hi:i=j
       ·subst hi;rw[Wh hjl] at e;cases e;refine⟨{e0 with key:=vk,val:=vx},by simp[XE,g3'],?_,hrx⟩;obtain⟨e1,h1,h2,h3⟩:=a3 i _ _ g2;rw[g3'] at h1;cases h1;rw[h2,g4]
       ·rw[Wd (Ne.symm hi)] at e;obtain⟨e1,h1,h2,h3⟩:=a3 i k a e;exact⟨e1,by rw[XE,WB (Ne.symm hi)];exact h1,h2,h3⟩),(λi e h1=>by
       rw[XE] at h1;split at h1
       ·rw[Wf] at h1;obtain⟨e1,h1,rfl⟩:=h1;exact a4 i e1 h1
       ·exact a4 i e h1),(λi i' e e' h1 h2 hb=>by
       rw[XE] at h1 h2
       have q1:∃d,ents[i]?=some d/\d.born=e.born:=by
        split at h1
        ·rw[Wf] at h1;obtain⟨d,h1,rfl⟩:=h1;exact⟨d,h1,rfl⟩
        ·exact⟨e,h1,rfl⟩
       have q2:∃d,ents[i']?=some d/\d.born=e'.born:=by
        split at h2
        ·rw[Wf] at h2;obtain⟨d,h2,rfl⟩:=h2;exact⟨d,h2,rfl⟩
        ·exact⟨e',h2,rfl⟩
       obtain⟨d1,c1,c2⟩:=q1;obtain⟨d2,c3,c4⟩:=q2;exact a5 i i' d1 d2 c1 c3 (by rw[c2,c4,hb]))⟩
    refine⟨_,_,_,S,φ,hrun _ ?_,.skip,.any _,A,B⟩;have hsb:Instr.sameBits 10000 vk vk=true:=uq hkey 9999;simp[Instr.mapUpdate,run_underlying ht,hg,hck,lh hu,g6,g3',Instr.keyThatStays,g4,hsb,hset]
end
end Go.Aw
namespace Go.Aw
section
variable {P:Program} {G:aw} {o:Oper} {ts:List AV} {h h':List AO} {av:AV}
end
end Go.Aw
