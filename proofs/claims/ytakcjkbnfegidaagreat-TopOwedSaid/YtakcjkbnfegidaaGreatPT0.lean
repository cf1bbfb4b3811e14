/- Parts of the proof: short words for facts that a tactic finds. -/
import Derived.OrdersIn
import Derived.RangeFuncLeaves
import Derived.WalkKit
import Derived.Below
import Derived.OwnWalk
import Derived.ArgAppend
import Derived.Carry
import Derived.Maps.AppendAt
import Derived.LoopTactic
import Derived.RegionTactic
import Derived.Deep.RegionWith
import Derived.StillTailTactics
import Derived.Deep.Draws
import Derived.Sort.Grow
import Derived.Shelf.SlSortCmp.QuietGrown
import Derived.Laws.Rows
import Derived.Shelf.SlSortCmp.WholeK
import Derived.Shelf.Lay
import Derived.Ground.SlsfProg
import Derived.Ground.NamesProg
import Derived.Laws.BitsAllLaws
import Derived.Laws.BitsLemmas
import Derived.Laws.Tables
import Derived.MapKept
import Derived.RangeFuncRecord
import Derived.OpenShut
import Derived.SizedLaws
import Derived.ChangeKeysEq
import Derived.Laws.StructEq
import Derived.Laws.AppendOwn
import Derived.RecoverIn
import Derived.Maps.RangeRun
import Derived.Laws.Cover3
import Derived.Laws.IdiomCopy
import Derived.Lib.AppendZerosOnto
import Derived.Laws.IdiomStrings
import Derived.Laws.BytesArg
import Derived.Scope
import Derived.ChangeSame
import Derived.ProofKit
import Derived.LaidMore
import Derived.Deep.DeepHandedRow
import Derived.Stop.LaidErr
import Derived.Test.YtakcjkbnfegidaaGreatProg
set_option linter.all false
namespace Go.Proofs.YtakcjkbnfegidaaGreat
open Go Go.RowKit Classical
theorem Y{p:Prop}(h:p:=by omega):p:=h
theorem Z{p:Prop}(h:p:=by kernel_rfl):p:=h
theorem Yd{p:Prop}(h:p:=by decide):p:=h
theorem Ys{p:Prop}(h:p:=by simp[Value.oneCell']):p:=h
theorem Yl{a b:Nat}(h:Nat.ble a b=true:=by rfl):a<=b:=Nat.le_of_ble_eq_true h
theorem Yt:True:=trivial
theorem Yg{p:Prop}(h:p:=by grind -verbose):p:=h
theorem Yz{p:Prop}(h:p:=by simp_all):p:=h
theorem Yn{p:Prop}(h:p:=by rw[Int.natCast_add];rfl):p:=h
theorem gx{α:Type}(l:List α)(k:Nat)(h:k<l.length:=by omega):∃y,l[k]? =some y:=⟨_,List.getElem?_eq_getElem h⟩
theorem U{α:Sort _}{a:α}:a=a:=rfl
abbrev aW:=List Value
abbrev aX:=List Int
abbrev bZ:=Option Addr
abbrev aY:Value:=.slice none 0 0
abbrev aB(a:bZ)(n c:Nat):Value:=.slice a n c
abbrev aL(g:Nat):bZ:=some ⟨g,0,none⟩
abbrev aso:=@if_neg
abbrev asp:=@if_pos
abbrev asq:=@List.mem_of_getElem?
abbrev asr:=@List.getElem?_eq_some_iff
abbrev ass:=@List.mem_cons_self
abbrev ast:=@List.mem_cons_of_mem
abbrev asu:=@List.length_append
abbrev asv:=@Bool.and_eq_true
abbrev asw:=@List.getElem?_eq_getElem
abbrev asx:=@List.take_of_length_le
abbrev asy:=@decide_eq_true_eq
abbrev asz:=@List.length_map
abbrev asA:=@Int.natCast_add
abbrev asB:=@Nat.le_of_ble_eq_true
abbrev asC:=@List.getD_eq_getElem?_getD
abbrev asD:=@List.take_add_one
abbrev asE:=@decide_eq_true
abbrev asF:=@List.length_take
abbrev asG:=@decide_eq_false
abbrev asH:=@List.all_eq_true
abbrev asI:=@Sem.run_bind
abbrev asJ:=@Result.andThen_ok
abbrev asK:=@List.map_append
abbrev asL:=@List.eq_nil_of_length_eq_zero
abbrev asM:=@List.mem_cons
abbrev asN:=@Nat.le_refl
abbrev asO:=@Int.le_refl
abbrev asP:=@List.mem_singleton
abbrev asQ:=@List.map_cons
abbrev asR:=@List.getElem?_append_left
abbrev asS:=@List.mem_map
abbrev asT:=@List.append_nil
abbrev asU:=@List.length_set
abbrev asV:=@Array.getElem?_eq_some_iff
abbrev asW:=@List.mem_of_mem_take
abbrev asX:=@run_underlying
abbrev asY:=@List.getElem?_append_right
abbrev asZ:=@decide_eq_false_iff_not
abbrev as0:=@List.mem_range
abbrev as1:=@List.getElem?_eq_none
abbrev as2:=@List.length_cons
abbrev as3:=@List.length_range
abbrev as4:=@Calls.grown_of
abbrev as5:=@List.append_assoc
abbrev as6:=@List.getElem?_map
abbrev as7:=@List.flatMap_append
abbrev as8:=@List.drop_eq_nil_of_le
abbrev as9:=@Nat.zero_add
abbrev ata:=@List.flatMap_cons
abbrev atb:=@Bool.not_eq_false'
abbrev atc:=@Nat.zero_le
abbrev atd:=@Int.mul_le_mul_of_nonneg_left
abbrev ate:=@Array.getD_eq_getD_getElem?
abbrev atf:=@List.mem_append
abbrev atg:=@List.take_zero
abbrev ath:=@List.getElem?_of_mem
abbrev ati:=@Int.mul_le_mul_of_nonneg_right
abbrev atj:=@Bool.not_eq_true'
abbrev atk:=@List.take_append_drop
abbrev atl:=@Bool.eq_false_iff
abbrev atm:=@Prod.mk.injEq
abbrev atn:=@List.range_succ
abbrev ato:=@List.pairwise_iff_getElem
abbrev atp:=@List.filter_append
abbrev atq:=@Int.mul_nonneg
abbrev atr:=@Sem.run_pure
abbrev ats:=@List.not_mem_nil
abbrev att:=@of_decide_eq_true
abbrev atu:=@List.sum_cons
abbrev atv:=@List.all_cons
abbrev atw:=@List.nodup_iff_pairwise_ne
abbrev atx:=@Nat.eq_of_beq_eq_true
abbrev aty:=@List.getElem?_take
abbrev atz:=@List.length_replicate
abbrev atA:=@Bool.and_false
abbrev atB:=@List.drop_eq_getElem_cons
abbrev atC:=@List.cons_append
abbrev atD:=@Nat.eq_zero_or_pos
abbrev atE:=@List.pairwise_cons
abbrev atF:=@List.take_succ_cons
abbrev atG:=@List.ext_getElem?
abbrev atH:=@List.pairwise_append
abbrev atI:=@Nat.le_trans
abbrev atJ:=@Int.add_zero
abbrev atK:=@Nat.mul_le_mul
abbrev atM:=@List.length_drop
abbrev atN:=@List.pairwise_map
abbrev atO:=@List.mem_append_left
abbrev atP:=@Array.getElem?_eq_getElem
abbrev atQ:=@MapKept.run_getObj_map
abbrev atS:=@List.sum_append
abbrev atT:=@List.filter_cons
abbrev atU:=@List.getElem?_range
abbrev atV:=@List.mem_append_right
abbrev atW:=@Option.some.injEq
abbrev atX:=@Int.add_mul
abbrev atY:=@List.pairwise_singleton
abbrev atZ:=@Array.getElem?_append_left
abbrev at0:=@wpIn_mono
abbrev at1:=@List.map_congr_left
abbrev at3:=@List.drop_zero
abbrev at4:=@Int.natCast_mul
abbrev at5:=@Array.size_push
abbrev at6:=@List.mem_filter
abbrev at7:=@List.getElem?_replicate
abbrev at8:=@List.ext_getElem
abbrev at9:=@Array.getElem?_setIfInBounds_ne
abbrev aua:=@Nat.mul_one
abbrev aub:=@MapKept.run_setObj_map
abbrev auc:=@List.getElem?_set
abbrev aud:=@List.foldl_append
abbrev aue:=@Int.ediv_nonneg
abbrev auf:=@Option.isSome_iff_exists
abbrev aug:=@Nat.sub_self
abbrev auh:=@List.take_length
abbrev aui:=@Bool.true_and
abbrev auj:=@rounds_succ
abbrev auk:=@List.size_toArray
abbrev aul:=@List.foldl_cons
abbrev aum:=@List.length_reverse
abbrev aun:=@Nat.add_mul
abbrev auo:=@List.map_map
abbrev aup:=@Nat.sub_zero
abbrev auq:=@List.getElem?_set_self
abbrev aur:=@or_false
abbrev aus:=@List.mem_filterMap
abbrev aut:=@Nat.shiftRight_eq_div_pow
abbrev auu:=@List.getElem?_zip_eq_some
abbrev auv:=@Int.mul_pos
abbrev auw:=@Nat.beq_refl
abbrev auy:=@List.nil_append
abbrev auz:=@List.getElem?_modify
abbrev auA:=@List.filter_cons_of_pos
abbrev auB:=@List.drop_succ_cons
abbrev auC:=@List.dropWhile_cons
abbrev auD:=@decide_eq_decide
abbrev auE:=@Option.getD_some
abbrev auF:=@List.mem_flatMap
abbrev auG:=@Nat.lt_or_ge
abbrev auH:=@Nat.lt_of_lt_of_le
abbrev auI:=@Array.extract_eq_self_of_le
abbrev auJ:=@Int.le_trans
abbrev auK:=@Nat.add_sub_cancel
abbrev auL:=@List.zip_cons_cons
abbrev auM:=@if_true
abbrev auN:=@List.length_filter_le
abbrev auO:=@List.nodup_cons
abbrev auP:=@List.filterMap_append
abbrev auQ:=@List.length_singleton
abbrev auR:=@Int.tmod_eq_emod_of_nonneg
abbrev auS:=@List.Pairwise.nil
abbrev auT:=@List.take_sublist
abbrev auU:=@wp_region_still_tail
abbrev auV:=@List.mem_or_eq_of_mem_set
abbrev auW:=@List.set_eq_take_append_cons_drop
abbrev auX:=@List.findIdx?_eq_some_iff_getElem
abbrev auY:=@List.any_eq_true
abbrev auZ:=@getElem!_pos
abbrev au0:=@List.getElem_mem
abbrev au1:=@List.map_nil
abbrev au2:=@List.flatMap_nil
abbrev au3:=@Int.mul_ediv_cancel_left
abbrev au4:=@Array.getElem?_replicate
abbrev au5:=@callsIn_of_wp_marks
abbrev au6:=@List.replicate_succ
abbrev au7:=@List.takeWhile_cons
abbrev au8:=@List.filter_cons_of_neg
abbrev au9:=@List.getElem?_drop
abbrev ava:=@Nat.min_eq_left
abbrev avb:=@Nat.and_two_pow_sub_one_eq_mod
abbrev avc:=@Array.getElem?_eq_none
abbrev avd:=@List.take_append_of_le_length
abbrev ave:=@Int.toNat_natCast
abbrev avf:=@Array.getElem?_toList
abbrev avg:=@Array.getElem?_modify
abbrev avh:=@List.getElem?_toArray
abbrev avi:=@callsIn_wide
abbrev avj:=@Int.lt_ediv_add_one_mul_self
abbrev avk:=@List.set_append_right
abbrev avl:=@Bool.false_and
abbrev avm:=@mem_ready
abbrev avn:=@enters_of
abbrev avo:=@Array.getElem_toList
abbrev avp:=@List.Pairwise.filter
abbrev avq:=@forall_eq_or_imp
abbrev avr:=@Int.le_of_mul_le_mul_right
abbrev avs:=@Int.fdiv_eq_ediv_of_nonneg
abbrev avt:=@List.filterMap_cons
abbrev avu:=@Bool.or_eq_true
abbrev avv:=@Array.setIfInBounds_comm
abbrev avw:=@Nat.lt_of_le_of_lt
abbrev avx:=@Nat.succ_mul
abbrev avy:=@Bool.false_eq_true
abbrev avz:=@of_decide_eq_false
abbrev avA:=@Int.le_of_lt
abbrev avB:=@beq_iff_eq
abbrev avC:=@Int.mul_le_mul
abbrev avD:=@List.nodup_append
abbrev avE:=@List.pairwise_lt_range
abbrev avF:=@Int.le_ediv_iff_mul_le
abbrev avG:=@List.any_cons
abbrev avH:=@Nat.add_assoc
abbrev avI:=@Addr.mk.injEq
abbrev avJ:=@Bool.and_true
abbrev avK:=@List.mem_reverse
abbrev avL:=@List.flatten_replicate_singleton
abbrev avM:=@List.countP_cons
abbrev avN:=@Int.ediv_lt_of_lt_mul
abbrev avO:=@List.getElem?_reverse
abbrev avP:=@Bool.and_eq_false_iff
abbrev avQ:=@List.Pairwise.sublist
abbrev avR:=@ready_mono
abbrev avS:=@wpIn_cond_split
abbrev avT:=@Array.toArray_toList
abbrev avU:=@World.alloc_heap_new
abbrev avV:=@Int.zero_add
abbrev avW:=@Nat.zero_mul
abbrev avX:=@List.map_set
abbrev avY:=@cell_grown
abbrev avZ:=@List.all_append
abbrev av0:=@List.getElem?_set_ne
abbrev av1:=@List.take_set_of_le
abbrev av2:=@beq_eq_false_iff_ne
abbrev av3:=@List.length_flatMap
abbrev av4:=@List.nodup_nil
abbrev av5:=@List.countP_eq_length_filter
abbrev av6:=@List.drop_drop
abbrev av7:=@wpStill_nil
abbrev av8:=@Int.tmod_lt_of_pos
abbrev av9:=@Int.lt_tmod_of_pos
abbrev awa:=@Int.emod_lt_of_pos
abbrev awc:=@Int.mul_lt_mul_of_pos_right
abbrev awe:=@List.map_replicate
abbrev awf:=@List.set_cons_zero
abbrev awg:=@List.filterMap_nil
abbrev awh:=@forall_eq
abbrev awi:=@Int.sub_add_cancel
abbrev awj:=@Bool.not_true
abbrev awk:=@Int.mul_assoc
abbrev awm:=@List.reverse_perm
abbrev awn:=@Nat.lt_trichotomy
abbrev awo:=@Classical.not_not
abbrev awp:=@List.Pairwise.imp
abbrev awq:=@CallsIn.mono
abbrev awr:=@wpIn_seq
abbrev aws:=@if_false
abbrev awt:=@Int.zero_mul
abbrev awu:=@Nat.le_add_right
abbrev awv:=@List.map_id'
abbrev aww:=@List.of_mem_zip
abbrev awx:=@Option.some.inj
abbrev awy:=@Int.emod_nonneg
abbrev awz:=@Option.map_some
abbrev awA:=@Bool.eq_iff_iff
abbrev awB:=@Oper.semAt_none
abbrev awC:=@List.length_nil
abbrev awD:=@List.any_append
abbrev awE:=@List.find?_cons
abbrev awG:=@List.filter_nil
structure Hold (p:Prop):Prop where un:p
variable{A B:Prop}
def s_1(q:B)(f:Hold B->A:=by
 intro qQ;refine bR (.take 0 (.take 1 (.take 2 (.take 3 (.take 4 (.take 5 (.take 6 (.take 7 (.take 8 (.take 9 (.take 10 (.take 11 (.take 12 (.take 13 (.take 14 (.take 15 (.take 16 (.take 17 (.take 18 (.take 19 (.take 20 (.take 21 (.take 22 (.take 23 (.take 24 (.take 25 (.take 26 (.take 27 (.take 28 (.take 29 (.take 30 (.take 31 (.take 32 (.take 33 (.DF 34 (.take 35 (.take 36 (.take 37 .done)))))))))))))))))))))))))))))))))))))) [] (λy=>ax u2 y) mx Z (.refl _ _) ?_;refine go ?_;exact qQ.un):A:=f ⟨q⟩
def s_3(q:B)(f:Hold B->A:=by
 intro qQ;have xx:=((i1.ae.trans i2.ae).trans i3.ae);have z0:=xx.size;have y1:=i1.au;have q1:=i1.size;have y2:=i2.au;have q2:=i2.size;have y3:=i3.au;have q3:=i3.size;refine hY [.slice (some (ad bh 0)) n1 n1,.slice (some (ad ba 0)) n2 n2,.slice (some (ad bm 0)) n1 n1] Z<|jR (vs:=[.slice (some (ad bh 0)) n1 n1,.slice (some (ad ba 0)) n2 n2,.slice (some (ad bm 0)) n1 n1]) (B6.ae xx) rfl Yl Ys (λu4 b4 k4 z4=>?_);revert xx z0 y1 q1 y2 q2 y3 q3 u4 b4 k4 z4;exact qQ.un):A:=f ⟨q⟩
def s_4(q:B)(f:Hold B->A:=by
 intro qQ;have hm:Tryz.prog.follows .mixedOrders=true:=Z;obtain⟨W1,hW1⟩:∃W1,W1=(W.alloc (Obj.cells #[Value.int IntKind.i64 x0,Value.int IntKind.i64 x1,Value.int IntKind.i64 x2,Value.int IntKind.i64 x3,Value.int IntKind.i64 x4] 65)).alloc (Obj.cells #[Value.int IntKind.i64 y0,Value.int IntKind.i64 y1,Value.int IntKind.i64 y2,Value.int IntKind.i64 y3,Value.int IntKind.i64 y4] 65):=⟨_,rfl⟩;rw[<-hW1];have B0:aP W1 W.heap.size 65 [.int .i64 x0,.int .i64 x1,.int .i64 x2,.int .i64 x3,.int .i64 x4]:=by rw[hW1];exact(aP.new W 65 [.int .i64 x0,.int .i64 x1,.int .i64 x2,.int .i64 x3,.int .i64 x4]).ae (aj.alloc _ _ _)
 have B1:aP W1 (W.heap.size+1) 65 [.int .i64 y0,.int .i64 y1,.int .i64 y2,.int .i64 y3,.int .i64 y4]:=by rw[hW1];have:=aP.new (W.alloc (Obj.cells #[Value.int IntKind.i64 x0,Value.int IntKind.i64 x1,Value.int IntKind.i64 x2,Value.int IntKind.i64 x3,Value.int IntKind.i64 x4] 65)) 65 [.int .i64 y0,.int .i64 y1,.int .i64 y2,.int .i64 y3,.int .i64 y4];rwa [show(W.alloc (Obj.cells #[Value.int IntKind.i64 x0,Value.int IntKind.i64 x1,Value.int IntKind.i64 x2,Value.int IntKind.i64 x3,Value.int IntKind.i64 x4] 65)).heap.size=W.heap.size+1 from at5 ..] at this
 have hsz1:W1.heap.size=W.heap.size+2:=by rw[hW1];show((W.heap.push _).push _).size=_;rw[at5,at5]
 have hrel:∀o,∃q os',({W1 with drawn:=W1.drawn+1}:World).alloc o=grow (W.drewN q) os':=λo=>⟨1,#[(Obj.cells #[Value.int IntKind.i64 x0,Value.int IntKind.i64 x1,Value.int IntKind.i64 x2,Value.int IntKind.i64 x3,Value.int IntKind.i64 x4] 65),(Obj.cells #[Value.int IntKind.i64 y0,Value.int IntKind.i64 y1,Value.int IntKind.i64 y2,Value.int IntKind.i64 y3,Value.int IntKind.i64 y4] 65),o],by rw[hW1];show({heap:=((W.heap.push _).push _).push o,tape:=W.tape,drawn:=W.drawn+1,os:=W.os,output:=W.output}:World)={heap:=W.heap++_,tape:=W.tape,drawn:=W.drawn+1,os:=W.os,output:=W.output};congr 1⟩
 revert hm W1 hW1 B0 B1 hsz1 hrel;exact qQ.un):A:=f ⟨q⟩
def s_5(q:B)(f:Hold B->A:=by
 intro qQ;have hm:Tryz.prog.follows .mixedOrders=true:=Z;obtain⟨W1,hW1⟩:∃W1,W1=(W.alloc (Obj.cells #[Value.int IntKind.i64 x0,Value.int IntKind.i64 x1,Value.int IntKind.i64 x2,Value.bool x3] 114)).alloc (Obj.cells #[Value.int IntKind.i64 y0,Value.int IntKind.i64 y1,Value.int IntKind.i64 y2,Value.bool y3] 114):=⟨_,rfl⟩;rw[<-hW1];have B0:aP W1 W.heap.size 114 [.int .i64 x0,.int .i64 x1,.int .i64 x2,.bool x3]:=by rw[hW1];exact(aP.new W 114 [.int .i64 x0,.int .i64 x1,.int .i64 x2,.bool x3]).ae (aj.alloc _ _ _)
 have B1:aP W1 (W.heap.size+1) 114 [.int .i64 y0,.int .i64 y1,.int .i64 y2,.bool y3]:=by rw[hW1];have:=aP.new (W.alloc (Obj.cells #[Value.int IntKind.i64 x0,Value.int IntKind.i64 x1,Value.int IntKind.i64 x2,Value.bool x3] 114)) 114 [.int .i64 y0,.int .i64 y1,.int .i64 y2,.bool y3];rwa [show(W.alloc (Obj.cells #[Value.int IntKind.i64 x0,Value.int IntKind.i64 x1,Value.int IntKind.i64 x2,Value.bool x3] 114)).heap.size=W.heap.size+1 from at5 ..] at this
 have hsz1:W1.heap.size=W.heap.size+2:=by rw[hW1];show((W.heap.push _).push _).size=_;rw[at5,at5]
 have hrel:∀o,∃q os',({W1 with drawn:=W1.drawn+1}:World).alloc o=grow (W.drewN q) os':=λo=>⟨1,#[(Obj.cells #[Value.int IntKind.i64 x0,Value.int IntKind.i64 x1,Value.int IntKind.i64 x2,Value.bool x3] 114),(Obj.cells #[Value.int IntKind.i64 y0,Value.int IntKind.i64 y1,Value.int IntKind.i64 y2,Value.bool y3] 114),o],by rw[hW1];show({heap:=((W.heap.push _).push _).push o,tape:=W.tape,drawn:=W.drawn+1,os:=W.os,output:=W.output}:World)={heap:=W.heap++_,tape:=W.tape,drawn:=W.drawn+1,os:=W.os,output:=W.output};congr 1⟩
 refine auU 10 hm Z ?_;revert hm W1 hW1 B0 B1 hsz1 hrel;exact qQ.un):A:=f ⟨q⟩
def s_7(q:B)(f:Hold B->A:=by
 intro qQ;have fx0:∀n os,(grow (V0.drewN n) os).cell? ⟨W.heap.size,0,none⟩=some (.int .i64 x0):=λn os=>(K0.ar n os).fx 0 _ rfl;have fy0:∀n os,(grow (V0.drewN n) os).cell? ⟨W.heap.size+1,0,none⟩=some (.int .i64 y0):=λn os=>(K0.ar n os).fy 0 _ rfl;have fx1:∀n os,(grow (V0.drewN n) os).cell? ⟨W.heap.size,1,none⟩=some (.int .i64 x1):=λn os=>(K0.ar n os).fx 1 _ rfl;have fy1:∀n os,(grow (V0.drewN n) os).cell? ⟨W.heap.size+1,1,none⟩=some (.int .i64 y1):=λn os=>(K0.ar n os).fy 1 _ rfl;have fx2:∀n os,(grow (V0.drewN n) os).cell? ⟨W.heap.size,2,none⟩=some (.int .i64 x2):=λn os=>(K0.ar n os).fx 2 _ rfl;have fy2:∀n os,(grow (V0.drewN n) os).cell? ⟨W.heap.size+1,2,none⟩=some (.int .i64 y2):=λn os=>(K0.ar n os).fy 2 _ rfl;revert fx0 fy0 fx1 fy1 fx2 fy2;exact qQ.un):A:=f ⟨q⟩
def s_8(q:B)(f:Hold B->A:=by
 intro qQ;have fx0:∀n os,(grow (V1.drewN n) os).cell? ⟨W.heap.size,0,none⟩=some (.int .i64 x0):=λn os=>(K1.ar n os).fx 0 _ rfl;have fy0:∀n os,(grow (V1.drewN n) os).cell? ⟨W.heap.size+1,0,none⟩=some (.int .i64 y0):=λn os=>(K1.ar n os).fy 0 _ rfl;have fx1:∀n os,(grow (V1.drewN n) os).cell? ⟨W.heap.size,1,none⟩=some (.int .i64 x1):=λn os=>(K1.ar n os).fx 1 _ rfl;have fy1:∀n os,(grow (V1.drewN n) os).cell? ⟨W.heap.size+1,1,none⟩=some (.int .i64 y1):=λn os=>(K1.ar n os).fy 1 _ rfl;have fx2:∀n os,(grow (V1.drewN n) os).cell? ⟨W.heap.size,2,none⟩=some (.int .i64 x2):=λn os=>(K1.ar n os).fx 2 _ rfl;have fy2:∀n os,(grow (V1.drewN n) os).cell? ⟨W.heap.size+1,2,none⟩=some (.int .i64 y2):=λn os=>(K1.ar n os).fy 2 _ rfl;revert fx0 fy0 fx1 fy1 fx2 fy2;exact qQ.un):A:=f ⟨q⟩
def s_9(q:B)(f:Hold B->A:=by
 intro qQ;have fx0:∀n os,(grow (V2.drewN n) os).cell? ⟨W.heap.size,0,none⟩=some (.int .i64 x0):=λn os=>(K2.ar n os).fx 0 _ rfl;have fy0:∀n os,(grow (V2.drewN n) os).cell? ⟨W.heap.size+1,0,none⟩=some (.int .i64 y0):=λn os=>(K2.ar n os).fy 0 _ rfl;have fx1:∀n os,(grow (V2.drewN n) os).cell? ⟨W.heap.size,1,none⟩=some (.int .i64 x1):=λn os=>(K2.ar n os).fx 1 _ rfl;have fy1:∀n os,(grow (V2.drewN n) os).cell? ⟨W.heap.size+1,1,none⟩=some (.int .i64 y1):=λn os=>(K2.ar n os).fy 1 _ rfl;have fx2:∀n os,(grow (V2.drewN n) os).cell? ⟨W.heap.size,2,none⟩=some (.int .i64 x2):=λn os=>(K2.ar n os).fx 2 _ rfl;have fy2:∀n os,(grow (V2.drewN n) os).cell? ⟨W.heap.size+1,2,none⟩=some (.int .i64 y2):=λn os=>(K2.ar n os).fy 2 _ rfl;revert fx0 fy0 fx1 fy1 fx2 fy2;exact qQ.un):A:=f ⟨q⟩
def Ul(q:B)(f:Hold B->A:=by
 intro qQ;obtain⟨W2,hW2⟩:∃W2,W2=({W1 with drawn:=W1.drawn+1}:World):=⟨_,rfl⟩;rw[<-hW2];have f0:W2.cell? ⟨W.heap.size,0,none⟩=some (.int .i64 x0):=by rw[hW2];exact B0.ai rfl
 have f1:W2.cell? ⟨W.heap.size,1,none⟩=some (.int .i64 x1):=by rw[hW2];exact B0.ai rfl
 have f2:W2.cell? ⟨W.heap.size,2,none⟩=some (.int .i64 x2):=by rw[hW2];exact B0.ai rfl
 revert W2 hW2 f0 f1 f2;exact qQ.un):A:=f ⟨q⟩
def aoQ(q:B)(f:Hold B->A:=by
 intro qQ;have fx0:∀n os,(grow (V3.drewN n) os).cell? ⟨W.heap.size,0,none⟩=some (.int .i64 x0):=λn os=>(K3.ar n os).fx 0 _ rfl;have fy0:∀n os,(grow (V3.drewN n) os).cell? ⟨W.heap.size+1,0,none⟩=some (.int .i64 y0):=λn os=>(K3.ar n os).fy 0 _ rfl;have fx1:∀n os,(grow (V3.drewN n) os).cell? ⟨W.heap.size,1,none⟩=some (.int .i64 x1):=λn os=>(K3.ar n os).fx 1 _ rfl;have fy1:∀n os,(grow (V3.drewN n) os).cell? ⟨W.heap.size+1,1,none⟩=some (.int .i64 y1):=λn os=>(K3.ar n os).fy 1 _ rfl;have fx2:∀n os,(grow (V3.drewN n) os).cell? ⟨W.heap.size,2,none⟩=some (.int .i64 x2):=λn os=>(K3.ar n os).fx 2 _ rfl;have fy2:∀n os,(grow (V3.drewN n) os).cell? ⟨W.heap.size+1,2,none⟩=some (.int .i64 y2):=λn os=>(K3.ar n os).fy 2 _ rfl;have fx3:∀n os,(grow (V3.drewN n) os).cell? ⟨W.heap.size,3,none⟩=some (.int .i64 x3):=λn os=>(K3.ar n os).fx 3 _ rfl;have fy3:∀n os,(grow (V3.drewN n) os).cell? ⟨W.heap.size+1,3,none⟩=some (.int .i64 y3):=λn os=>(K3.ar n os).fy 3 _ rfl;have fx4:∀n os,(grow (V3.drewN n) os).cell? ⟨W.heap.size,4,none⟩=some (.int .i64 x4):=λn os=>(K3.ar n os).fx 4 _ rfl;have fy4:∀n os,(grow (V3.drewN n) os).cell? ⟨W.heap.size+1,4,none⟩=some (.int .i64 y4):=λn os=>(K3.ar n os).fy 4 _ rfl;revert fx0 fy0 fx1 fy1 fx2 fy2 fx3 fy3 fx4 fy4;exact qQ.un):A:=f ⟨q⟩
def Um(q:B)(f:Hold B->A:=by
 intro qQ;have g0:W2.cell? ⟨W.heap.size+1,0,none⟩=some (.int .i64 y0):=by rw[hW2];exact B1.ai rfl
 have g1:W2.cell? ⟨W.heap.size+1,1,none⟩=some (.int .i64 y1):=by rw[hW2];exact B1.ai rfl
 have g2:W2.cell? ⟨W.heap.size+1,2,none⟩=some (.int .i64 y2):=by rw[hW2];exact B1.ai rfl
 revert g0 g1 g2;exact qQ.un):A:=f ⟨q⟩
def Xa(q:B)(f:Hold B->A:=by
 intro qQ;have hlt:j<n:=Y;obtain⟨m,hm⟩:∃m,ms[j]? =some m:=⟨ms[j]'Y,asw Y⟩;have hcm:cur[j]? =some m:=by
  have h1:(cur.drop j)[0]? =cur[j]? :=by rw[au9];rfl
  have h2:(ms.drop j)[0]? =ms[j]? :=by rw[au9];rfl
  rw[<-h1,hc2,h2,hm]
 have htk:ms.take (j+1)=ms.take j++[m]:=by rw[asD,hm];rfl
 refine idx j rfl hlt ?_;revert hlt m hm hcm htk;exact qQ.un):A:=f ⟨q⟩
def aro(q:B)(f:Hold B->A:=by
 intro qQ;have q7:=q6.ae x6b;have o7:=o6.ag x6b;have l7:=l6.ah x6b Yt;refine go ?_;refine lit [.agg (DS d cm).c.toArray] (λgg v12 hq=>?_);refine iI (o7.ag hq.ae) (hq.src (sz:=6) rfl) Y (λA10 c10 v13 o13 k13 hA=>?_);have q13:=(q7.ae hq.ae).ah k13 (λe=>(nn5 b10 e).1 rfl);refine st1 q13 rfl (λv14 q14 k14=>?_);have xs12:=(x6b.trans hq.ae).size;have nn14:∀g,A10=some (ad g 0)->g≠b10/\(A'=some (ad g 0)\/w6.heap.size<=g):=λg hg=>by
  rcases hA with e|e|e
  .exact nn5 g (e▸hg)
  .rw[e] at hg;cases hg
  .rw[e] at hg;injection hg with hg;injection hg with hg;exact⟨Y,.inr Y⟩
 have nn15:∀g,A10=some (ad g 0)->g≠u4.heap.size+1:=λg hg=>by
  rcases(nn14 g hg).2 with e|e
  .have:=oB g e;omega
  .omega
 have l14:=((l7.ah hq.ae Yt).ah k13 (λe=>nn5' _ e rfl)).ah k14 Y;have o14:=o13.bY k14 (λg hg=>(nn14 g hg).1) (o13.ae.ag k14 λb hb _=>Y);refine eQ _ l14 (λv15 k15 l15=>?_);have o15:=o14.bY k15 nn15 (o14.ae.ag k15 λb hb _=>Y);have ka:aj (λx=>x≠b10/\x≠u4.heap.size+1/\A0≠some (ad x 0)) v v15:=((((kv6.cU λ_ _ hh=>hh.2.1).ag (x6b.trans hq.ae) λ_ _ _=>Yt).ag k13 λ_ _ hh=>hh.2.2).ag k14 λ_ _ hh=>hh.1).ag k15 λ_ _ hh=>hh.2.1;revert q7 o7 l7 gg v12 hq A10 c10 v13 o13 k13 hA q13 v14 q14 k14 xs12 nn14 nn15 l14 o14 v15 k15 l15 o15 ka;exact qQ.un):A:=f ⟨q⟩
def arp(q:B)(f:Hold B->A:=by
 intro qQ;have he:e x.fI=none:=by
  have:=hR x.fI;cases he:e x.fI with
  |none=>rfl
  |some y=>
   rw[he] at this;obtain⟨z,A7,n7,c7,h1,-⟩:=this;rw[h1] at hv;cases hv
 have kE:mq d e x=false:=by unfold mq;rw[aso Y,aso Y,aso Y,asp q4,he]
 refine alloc (λb9 u1 a1=>?_);refine fg a1.aS (λu2 B9 k2 z2=>?_);have e9:=a1.au;revert he kE b9 u1 a1 u2 B9 k2 z2 e9;exact qQ.un):A:=f ⟨q⟩
def aoR(q:B)(f:Hold B->A:=by
 intro qQ;refine an ?_;have au:∀k,k<m->∃s,ss[k]? =some s/\ss.take (k+1)=ss.take k++[s]/\(ss.map sv.v)[k]? =some s.v:=λk hk=>by have h:=asw (show k<ss.length from Y);exact⟨_,h,by rw[asD,h];rfl,by rw[as6,h];rfl⟩
 have MY:∀k,GZ (ss.take k)<=800000:=λk=>by
  have h:=Nb (ss:=ss.take k) (B:=100000) λs hs'=>(hs s (asW hs')).2.1;have:(ss.take k).length<=8:=by rw[asF];omega
  have:(ss.take k).length*100000<=8*100000:=Nat.mul_le_mul_right _ this;omega
 refine aM (λk:Nat=>[(11,iv (k:Int)),(3,iv ((GZ (ss.take k):Nat):Int))]) (λk u=>k<=m/\u=w) (λk _=>m-k) 0 ⟨rfl,rfl,Yt⟩ ⟨Y,rfl⟩ rfl ?_;revert au MY;exact qQ.un):A:=f ⟨q⟩
def arq(q:B)(f:Hold B->A:=by
 intro qQ;have kE:mq d e x=(decide (y.1≠4)&&decide (y.2<=x.aN)):=by unfold mq;rw[aso Y,aso Y,aso Y,asp q4,hy]
 refine alloc (λb9 u1 a1=>?_);refine fg a1.aS (λu2 B9 k2 z2=>?_);have e9:=a1.au;have xu2:=a1.ae.ag k2 λb hb _ e=>Y;have B5u:=B5.ae xu2;refine go ?_;revert kE b9 u1 a1 u2 B9 k2 z2 e9 xu2 B5u;exact qQ.un):A:=f ⟨q⟩
def ars(q:B)(f:Hold B->A:=by
 intro qQ;have F2:=E2.ah k8 Y;have kv8:aj (λb=>b≠b2/\b≠b3) v2 v8:=(((k25.cU (D':=λb=>b≠b2/\b≠b3) λb _ h=>h.1).ag k6 λb _ h=>h.2).ag k7 λb _ h=>h.1).ag k8 λb _ h=>h.2;have hD8:v8.heap[w17.heap.size]? =some (.deferred (some [])):=(((ax.any (D:=λb=>b≠b2/\b≠b3) x12).trans kv8).aS _ (asV.1 hDv).1 ⟨Y,Y⟩).trans hDv;refine oN hD8 ?_;have k9':=aj.putObj v8 w17.heap.size (.deferred none);refine da _ (bU (bF.aS (F2.ah k9' Y)) rfl)<|da _ (bj ((F3.ah k9' Y).ai rfl)) ?_;have xf:ax w v8:=(xwv.trans x12).ag kv8 λb hb _=>⟨Y,Y⟩;revert F2 kv8 hD8 k9' xf;exact qQ.un):A:=f ⟨q⟩
def adE(q:B)(f:Hold B->A:=by
 intro qQ;refine xM [iv x.up,iv ((h:Int)-x.bD)] (λv hv=>by rw[hv];exact .aS (B12)) rfl ?_;refine xM [iv x.up,iv ((h:Int)-x.bD)] (λv hv=>by rw[hv];exact .aS (B12)) rfl ?_;refine dh (kv:=dE) (x.up,(h:Int)-x.bD) (.bool ub) (λv hv=>by rw[hv];exact⟨_,(MU).g,by rw[hub];exact hfU _⟩) ?_;exact qQ.un):A:=f ⟨q⟩
def aoS(q:B)(f:Hold B->A:=by
 intro qQ;refine bR (.take 0 (.take 1 (.take 2 (.take 3 (.take 4 (.take 5 (.take 6 (.take 7 (.take 8 (.take 9 (.take 10 (.take 11 (.take 12 (.take 13 (.take 14 (.take 15 (.take 16 (.take 17 (.take 18 (.take 19 (.take 20 (.take 21 (.take 22 (.take 23 (.take 24 (.take 25 (.take 26 (.take 27 (.take 28 (.take 29 (.take 30 (.take 31 (.take 32 (.take 33 (.take 34 (.take 35 (.take 36 (.take 37 (.take 38 (.take 39 (.take 40 (.take 41 (.DF 42 (.take 43 (.take 44 (.take 45 .done)))))))))))))))))))))))))))))))))))))))))))))) [] (λz=>ax u2 z) mx Z (.refl _ _) ?_;refine go ?_;exact qQ.un):A:=f ⟨q⟩
def aoT(q:B)(f:Hold B->A:=by
 intro qQ;have hcl:((p.take j++x::p.drop j)++ms.drop (i+2)).length=n:=by rw[asu,asu,as2,asF,atM,hrl];omega
 have hxj:((p.take j++x::p.drop j)++ms.drop (i+2))[j]? =some x:=by rw[as5,asY (by rw[asF];omega),asF,show j-min j p.length=0 from Y];rfl
 refine bR (.take 0 (.take 1 (.take 2 (.take 3 (.take 4 (.take 5 (.take 6 (.take 7 (.take 8 (.take 9 (.take 10 (.take 11 (.take 12 (.take 13 (.UJ (.DF 14 (.take 15 (.take 16 .done)))))))))))))))))) [14,15,16] (λz=>z=u1) mx Z rfl ?_;revert hcl hxj;exact qQ.un):A:=f ⟨q⟩
def adF(q:B)(f:Hold B->A:=by
 intro qQ;obtain⟨i,hi,hs⟩:=(gu (P:=prog) (t:=114) (n:=4) Z).2;have aE:∀w,(isAgg 114).run prog w=.ok true w:=λw=>iF (P:=prog) (t:=114) (n:=4) Z w;have zE:∀w,(Go.sizeOf 114).run prog w=.ok 4 w:=λw=>by have:=run_sizeOf (P:=prog) hi w;rw[hs] at this;exact this
 revert i hi hs aE zE;exact qQ.un):A:=f ⟨q⟩
def adG(q:B)(f:Hold B->A:=by
 intro qQ;obtain⟨i,hi,hs⟩:=(gu (P:=prog) (t:=65) (n:=5) Z).2;have aE:∀w,(isAgg 65).run prog w=.ok true w:=λw=>iF (P:=prog) (t:=65) (n:=5) Z w;have zE:∀w,(Go.sizeOf 65).run prog w=.ok 5 w:=λw=>by have:=run_sizeOf (P:=prog) hi w;rw[hs] at this;exact this
 revert i hi hs aE zE;exact qQ.un):A:=f ⟨q⟩
def Un(q:B)(f:Hold B->A:=by
 intro qQ;refine go ?_;refine next (k+1) ⟨Yn,Yt⟩ ⟨Y,xw.trans x2,?_⟩ Y;exact qQ.un):A:=f ⟨q⟩
def aoU(q:B)(f:Hold B->A:=by
 intro qQ;refine bR (.take 0 (.take 1 (.take 2 (.take 3 (.take 4 (.take 5 (.take 6 (.take 7 (.take 8 (.take 9 (.take 10 (.take 11 (.take 12 (.take 13 (.take 14 (.UJ (.DF 15 (.take 16 (.DF 17 .done))))))))))))))))))) [15,16,17] (λz=>z=u2) mx Z rfl ?_;refine go ?_;refine idx j' Y Y ?_;refine fj _ (cZ hK hb2 hyj) rfl ?_;refine idx (j'+1) rfl Y ?_;refine fj _ (cZ hK hb2 hxj) rfl ?_;refine idx (j'+1) rfl Y ?_;refine gv (λ_=>True) Yt ?_;exact qQ.un):A:=f ⟨q⟩
def aoV(q:B)(f:Hold B->A:=by
 intro qQ;have fx3:∀n os,(grow (V0.drewN n) os).cell? ⟨W.heap.size,3,none⟩=some (.int .i64 x3):=λn os=>(K0.ar n os).fx 3 _ rfl;have fy3:∀n os,(grow (V0.drewN n) os).cell? ⟨W.heap.size+1,3,none⟩=some (.int .i64 y3):=λn os=>(K0.ar n os).fy 3 _ rfl;have fx4:∀n os,(grow (V0.drewN n) os).cell? ⟨W.heap.size,4,none⟩=some (.int .i64 x4):=λn os=>(K0.ar n os).fx 4 _ rfl;have fy4:∀n os,(grow (V0.drewN n) os).cell? ⟨W.heap.size+1,4,none⟩=some (.int .i64 y4):=λn os=>(K0.ar n os).fy 4 _ rfl;revert fx3 fy3 fx4 fy4;exact qQ.un):A:=f ⟨q⟩
def aoW(q:B)(f:Hold B->A:=by
 intro qQ;have fx3:∀n os,(grow (V1.drewN n) os).cell? ⟨W.heap.size,3,none⟩=some (.int .i64 x3):=λn os=>(K1.ar n os).fx 3 _ rfl;have fy3:∀n os,(grow (V1.drewN n) os).cell? ⟨W.heap.size+1,3,none⟩=some (.int .i64 y3):=λn os=>(K1.ar n os).fy 3 _ rfl;have fx4:∀n os,(grow (V1.drewN n) os).cell? ⟨W.heap.size,4,none⟩=some (.int .i64 x4):=λn os=>(K1.ar n os).fx 4 _ rfl;have fy4:∀n os,(grow (V1.drewN n) os).cell? ⟨W.heap.size+1,4,none⟩=some (.int .i64 y4):=λn os=>(K1.ar n os).fy 4 _ rfl;revert fx3 fy3 fx4 fy4;exact qQ.un):A:=f ⟨q⟩
def aoX(q:B)(f:Hold B->A:=by
 intro qQ;have fx3:∀n os,(grow (V2.drewN n) os).cell? ⟨W.heap.size,3,none⟩=some (.int .i64 x3):=λn os=>(K2.ar n os).fx 3 _ rfl;have fy3:∀n os,(grow (V2.drewN n) os).cell? ⟨W.heap.size+1,3,none⟩=some (.int .i64 y3):=λn os=>(K2.ar n os).fy 3 _ rfl;have fx4:∀n os,(grow (V2.drewN n) os).cell? ⟨W.heap.size,4,none⟩=some (.int .i64 x4):=λn os=>(K2.ar n os).fx 4 _ rfl;have fy4:∀n os,(grow (V2.drewN n) os).cell? ⟨W.heap.size+1,4,none⟩=some (.int .i64 y4):=λn os=>(K2.ar n os).fy 4 _ rfl;revert fx3 fy3 fx4 fy4;exact qQ.un):A:=f ⟨q⟩
def aoY(q:B)(f:Hold B->A:=by
 intro qQ;obtain⟨y,hy⟩:∃y,p[j']? =some y:=⟨p[j']'Y,asw Y⟩;have hyj:((p.take (j'+1)++x::p.drop (j'+1))++ms.drop (i+2))[j']? =some y:=by rw[as5,asR (by rw[asF];omega),aty,asp Y,hy]
 refine idx (j'+1) rfl Y ?_;refine fj _ (cZ hK hb1 hxj) rfl ?_;refine go ?_;refine idx j' Y Y ?_;refine fj _ (cZ hK hb1 hyj) rfl ?_;refine gv (λ_=>True) Yt ?_;revert y hy hyj;exact qQ.un):A:=f ⟨q⟩
def aoZ(q:B)(f:Hold B->A:=by
 intro qQ;refine an ?_;refine aM (λk:Nat=>[(8,iv (k:Int))]) (λk w'=>k<=n/\ax w w'/\(ms.take k).filter di=ms.take k) (λk _=>n-k) 0 ⟨rfl,Yt⟩ ⟨Y,.refl _ _,rfl⟩ rfl ?_;exact qQ.un):A:=f ⟨q⟩
def art(q:B)(f:Hold B->A:=by
 intro qQ;have hds:d'.size=s.length:=by have:=hp.1;simpa using this
 have hperm:d'.toList.Perm s:=by have:=hp.2.2;rw[auI Y,auI (by simp)] at this;simpa using this
 have kq:=Cc (enc:=enc) (K:=K) (w:=w0) (g:=g) (n:=m) (d:=d') (os:=os);refine⟨_,rfl,rfl,d'.toList,hperm,?_,Om hK (w:=w0) hb hds,⟨rfl,rfl,rfl,kq.size,kq.aS⟩⟩;rw[ato];revert hds hperm kq;exact qQ.un):A:=f ⟨q⟩
def ao0(q:B)(f:Hold B->A:=by
 intro qQ;obtain⟨rest,hb0,hbl,-⟩:=jH.aS h.own;refine HC (λ(j i:Nat) (_:Unit)=>[(6,iv (j:Int)),(5,iv (i:Int))]) (λj i _ w'=>i<j/\j<=n/\aj (λb=>b≠g) w1 w'/\∃cur:List Cm,cur.length=n/\aP w' g 65 (cur.flatMap bM++rest)/\cur.take i=(ms.take j).filter di/\cur.drop j=ms.drop j) (λj _ _ _=>n-j) (k+1) k () ⟨Yn,rfl,Yt⟩ ⟨Y,Y,.refl _ _,ms,Y,hb0.ae x1,hk.symm,rfl⟩ rfl ?_;revert rest hb0 hbl;exact qQ.un):A:=f ⟨q⟩
def ao1(q:B)(f:Hold B->A:=by
 intro qQ;refine go ?_;refine cN (λh=>absurd Y h) (λ_=>?_);refine go ?_;refine cN (λh=>absurd Y h) (λ_=>?_);exact qQ.un):A:=f ⟨q⟩
def ao2(q:B)(f:Hold B->A:=by
 intro qQ;refine go ?_;refine fj [.string x.d.name,iv x.d.aG,iv x.d.cap,iv x.d.bH,.slice A1 n1 c1,.slice A2 n2 c2,.slice A3 n3 c3,.slice A4 n4 c4,.slice A5 n5 c5,.slice A6 n6 c6] (bF.app (ys:=[iv x.every,.slice G1 m1 e1,.slice G2 m2 e2,.slice G3 m3 e3,.slice G4 m4 e4,.slice G5 m5 e5,.slice G6 m6 e6,.slice G7 m7 e7,.slice G8 m8 e8]) (.aS B1)).1 rfl ?_;exact qQ.un):A:=f ⟨q⟩
def Uo(q:B)(f:Hold B->A:=by
 intro qQ;refine go ?_;refine alloc (λb6 u1 a1=>?_);refine fg a1.aS (λu2 B6 k2 z2=>?_);have e6:=a1.au;have xu2:=a1.ae.ag k2 λb hb _ e=>Y;revert b6 u1 a1 u2 B6 k2 z2 e6 xu2;exact qQ.un):A:=f ⟨q⟩
def ao3(q:B)(f:Hold B->A:=by
 intro qQ;have k77:=k76.ag k7' λ_ _ h=>h.1;have l7':=l6.ah k7' Y;have q87:=q86.ah k7' Y;have own7:=own6.bY k7' (λgg hg=>by have:=hE gg hg;omega) (own6.ae.ag k7' λb hb _=>Y);have kc7:=kc6.ag k7' (λ_ _ h=>Y);revert k77 l7' q87 own7 kc7;exact qQ.un):A:=f ⟨q⟩
def aru(q:B)(f:Hold B->A:=by
 intro qQ;obtain⟨s,h1,h2,h3⟩:=au k2 Y;have b1:=MY k2;obtain⟨s1,s2,s3⟩:=hs s (asq h1);refine go ?_;refine ld _ ((hb.ae o.ae).ai (by rw[as9,aua];exact h3)) ?_;refine iI o (s1.OC o.ae) Y (λA' c' y2 o2 kk hA=>?_) (h1:=s3);refine go ?_;refine qN (k2+1) A' (n+s.2.1) c' ⟨Yn,rfl,Yt⟩ ⟨Y,by rw[h2,Fi,hn],?_⟩ Y;rw[h2,as7,ata,au2,asT];revert s h1 h2 h3 b1 s1 s2 s3 A' c' y2 o2 kk hA;exact qQ.un):A:=f ⟨q⟩
def ao4(q:B)(f:Hold B->A:=by
 intro qQ;refine bC ?_;refine ld (.slice (some (ad ab ao)) na ca) (B3u.ai rfl) ?_;refine idx k rfl Y ?_;refine ld (iv a) (hac 0 _ rfl) ?_;refine bC ?_;refine ld (.slice (some (ad qb qo)) nq cq) (B3u.ai rfl) ?_;refine idx k rfl Y ?_;refine ld (iv q) (hqc 0 _ rfl) ?_;refine eD (n:=acc+q) Y ?_;exact qQ.un):A:=f ⟨q⟩
def ao5(q:B)(f:Hold B->A:=by
 intro qQ;refine alloc (λt v1' h1''=>?_);refine fg h1''.aS (λw3 tb s2 zs=>?_);have t1:=h1''.au;have hgl2:=hb2.lt;have x23:ax w2 w3:=h1''.ae.ag s2 λb hb _ e=>Y;have htg:t≠g:=Y;revert t v1' h1'' w3 tb s2 zs t1 hgl2 x23 htg;exact qQ.un):A:=f ⟨q⟩
def Xb(q:B)(f:Hold B->A:=by
 intro qQ;have hf5:=I.f.2.2.1;refine cA rfl ?_;rw[<-aT hf5];refine ld (iv (n1:Int)) ((B5.ae I.ae).ai rfl) ?_;revert hf5;exact qQ.un):A:=f ⟨q⟩
def adH(q:B)(f:Hold B->A:=by
 intro qQ;obtain⟨r,hr⟩:∃r,r=(if cx x0 y0≠0 then cx x0 y0 else cx x1 y1):=⟨_,rfl⟩;obtain⟨c0,hc0⟩:∃c,c=cx x0 y0:=⟨_,rfl⟩;obtain⟨c1,hc1⟩:∃c,c=cx x1 y1:=⟨_,rfl⟩;revert r hr c0 hc0 c1 hc1;exact qQ.un):A:=f ⟨q⟩
def Xc(q:B)(f:Hold B->A:=by
 intro qQ;refine ret ?_;refine da _ (bU (bF.aS C8) rfl) ?_;exact qQ.un):A:=f ⟨q⟩
def adI(q:B)(f:Hold B->A:=by
 intro qQ;have htk:s.take (k+1)=s.take k++[m]:=by rw[asD,hm];rfl
 have hm0:=h0 m (asq hm);refine idx k rfl hlt ?_;refine go ?_;refine alloc (λq u1 a1=>?_);revert htk hm0 q u1 a1;exact qQ.un):A:=f ⟨q⟩
def ao6(q:B)(f:Hold B->A:=by
 intro qQ;obtain⟨rest,hb0,hbl,-⟩:=jH.aS (h.ag xw).own;refine go ?_;refine fj _ (cZ hK hb0 hx) rfl ?_;have htk:ms.take (k+1)=ms.take k++[m]:=by rw[asD,hx];rfl
 revert rest hb0 hbl htk;exact qQ.un):A:=f ⟨q⟩
def Px(q:B)(f:Hold B->A:=by
 intro qQ;have hf4:=I.f.2.1;refine cA rfl ?_;rw[<-aT hf4];refine go ?_;revert hf4;exact qQ.un):A:=f ⟨q⟩
def ao7(q:B)(f:Hold B->A:=by
 intro qQ;have h1:=gA (a:=x.aH) (b:=y.aH);have h2:=gA (a:=x.cC) (b:=y.cC);have h3:=gA (a:=x.right) (b:=y.right);have h4:=gA (a:=x.aO) (b:=y.aO);have h5:=nN (a:=x.aH) (b:=y.aH);have h6:=nN (a:=x.cC) (b:=y.cC);have h7:=nN (a:=x.right) (b:=y.right);have h8:=nN (a:=x.aO) (b:=y.aO);revert h1 h2 h3 h4 h5 h6 h7 h8;exact qQ.un):A:=f ⟨q⟩
def ao8(q:B)(f:Hold B->A:=by
 intro qQ;have x13:ax u1 u3:=q2.ae.ag k3 λb hb _ e=>Y;have kub:aj (λb=>b≠it) y u3:=ku1.ag x13 λ_ _ _=>Yt;have xy13:ax u u3:=own.ae.ag kub λb hb _=>Y;have own3:bu u u3 B m cm 114 4 (os.flatMap Od.c):=own.bY kub (λg hg=>hBit g hg) xy13;have E3:=Eu1.ah x13 Yt;have I3:=Iu1.ah x13 Yt;revert x13 kub xy13 own3 E3 I3;exact qQ.un):A:=f ⟨q⟩
def arv(q:B)(f:Hold B->A:=by
 intro qQ;refine go ?_;refine XJ (kv:=fY) x.fI Mu (λu4 M4 k4 s4=>?_);refine go ?_;refine next (k+1) ⟨Yn,Yt⟩ ⟨Y,ku2.trans k4,_,_,_,_,M4,λq=>?_,hi,λe=>absurd e Y,λj hj=>⟨x,by rw[show j=k from Y];exact hxk',rfl,rfl⟩⟩ Y;revert u4 M4 k4 s4 q;exact qQ.un):A:=f ⟨q⟩
def arw(q:B)(f:Hold B->A:=by
 intro qQ;rw[show(k:Int)-1=(k1:Int) from Y];refine idx k1 rfl Y ?_;refine tM _ hcp rfl Yt (.refl _ _) ?_;refine tM _ (.aS B7) rfl Yt (.refl _ _) ?_;refine aJ (acw (x:=y) (y:=x) (KR _ x32)) ?_;rintro _ u3 ⟨rfl,x3'⟩;refine bN x3' ?_;have hlt:=La y x;revert u3 x3' hlt;exact qQ.un):A:=f ⟨q⟩
def adJ(q:B)(f:Hold B->A:=by
 intro qQ;rw[show(k:Int)-1=(k1:Int) from Y];refine idx k1 rfl Y ?_;exact qQ.un):A:=f ⟨q⟩
def arx(q:B)(f:Hold B->A:=by
 intro qQ;have b1:=MY k;have b2:=(hs s (asq h1)).2.1;refine go ?_;refine ld _ (hb.ai (by rw[as9,aua];exact h3)) ?_;refine go ?_;refine cD (λq=>absurd q Y) (λq=>?_);refine go ?_;refine next (k+1) ⟨Yn,?_,Yt⟩ ⟨Y,rfl⟩ Y;revert b1 b2 q;exact qQ.un):A:=f ⟨q⟩
def ao9(q:B)(f:Hold B->A:=by
 intro qQ;have e:l.flatMap enc++rest=(l.take i).flatMap enc++((l.drop i).flatMap enc++rest):=by rw[<-as5,<-as7,atk]
 have hl:((l.take i).flatMap enc).length=i*K:=by rw[bz hK,asF,ava h]
 revert e hl;exact qQ.un):A:=f ⟨q⟩
def adK(q:B)(f:Hold B->A:=by
 intro qQ;have hr0:c0≠0->r=c0:=by intro e0;rw[hr,asp e0]
 have hr1:c0=0->r=c1:=by intro e0;rw[hr,aso (by simp[e0])]
 have k0:=λW=>eI x0 y0 W;revert hr0 hr1 k0;exact qQ.un):A:=f ⟨q⟩
def apa(q:B)(f:Hold B->A:=by
 intro qQ;have zu:=own.ae.size;have liu:it<y.heap.size:=(asV.1 Iu).1;have hBit:∀g,B=some (ad g 0)->g≠it:=by rintro g rfl rfl;obtain⟨rest,Bg,-⟩:=own.own.aS;have h1:y.heap[g]? =some (.cells _ _ _):=Bg;have h2:y.heap[g]? =some _:=Iu;rw[h1] at h2;cases h2
 revert zu liu hBit;exact qQ.un):A:=f ⟨q⟩
def apb(q:B)(f:Hold B->A:=by
 intro qQ;have hpl:p.length=i+1:=by rw[hp,oF,asF];omega
 have hdr:ms.drop (i+1)=x::ms.drop (i+2):=by rw[atB hxl];have:=(asr.1 hx).2;rw[this]
 have hrl:(ms.drop (i+2)).length=n-(i+2):=by rw[atM];omega
 revert hpl hdr hrl;exact qQ.un):A:=f ⟨q⟩
def adL(q:B)(f:Hold B->A:=by
 intro qQ;refine cE (λ_=>?_) (λe=>absurd rfl e);refine aQ _ rfl ⟨A,n,c,rfl,?_,asN _,ax.any x1,.inl rfl⟩;exact qQ.un):A:=f ⟨q⟩
def apc(q:B)(f:Hold B->A:=by
 intro qQ;refine go ?_;refine pb (iv p.aO) (λy hy=>hy.1.ai (B8.ai rfl) (show b8≠g from Y)) ?_;refine hY [iv x.right,iv p.aO] Z ?_;refine dh (kv:=dE) (x.right,p.aO) (iv V0) (λy hy=>hy.2) ?_;refine go ?_;exact qQ.un):A:=f ⟨q⟩
def apd(q:B)(f:Hold B->A:=by
 intro qQ;refine av7 ?_;have hn:=aP.new W2 3 [.int .i64 c0,.int .i64 c1];have kk:=abB c0 c1 r hr0 hr1 W2.heap.size (W2.alloc (Obj.cells #[.int .i64 c0,.int .i64 c1] 3)) (hn.ai rfl) (hn.ai rfl);have hrel:=hrel (Obj.cells #[.int .i64 c0,.int .i64 c1] 3);revert hn kk hrel;exact qQ.un):A:=f ⟨q⟩
def adM(q:B)(f:Hold B->A:=by
 intro qQ;refine go ?_;refine st B4 Yl rfl (λw5 B5 k5 z5=>?_);have x5:=x4.ag k5 λb hb _ e=>Y;refine go ?_;refine st B5 Yl rfl (λw6 B6 k6 z6=>?_);have x6:=x5.ag k6 λb hb _ e=>Y;revert w5 B5 k5 z5 x5 w6 B6 k6 z6 x6;exact qQ.un):A:=f ⟨q⟩
def ape(q:B)(f:Hold B->A:=by
 intro qQ;have g3:W2.cell? ⟨W.heap.size+1,3,none⟩=some (.int .i64 y3):=by rw[hW2];exact B1.ai rfl
 have g4:W2.cell? ⟨W.heap.size+1,4,none⟩=some (.int .i64 y4):=by rw[hW2];exact B1.ai rfl
 have hsz:W2.heap.size=W.heap.size+2:=by rw[hW2];exact hsz1
 revert g3 g4 hsz;exact qQ.un):A:=f ⟨q⟩
def apf(q:B)(f:Hold B->A:=by
 intro qQ;refine go ?_;refine fj _ (bF.app (ys:=[iv x.every,.slice G1 m1 e1,.slice G2 m2 e2,.slice G3 m3 e3,.slice G4 m4 e4,.slice G5 m5 e5,.slice G6 m6 e6,.slice G7 m7 e7,.slice G8 m8 e8]) (.aS B2)).1 rfl ?_;exact qQ.un):A:=f ⟨q⟩
def ary(q:B)(f:Hold B->A:=by
 intro qQ;have h1:(eqGuard .eql t xo yo (.slice A n c) (.slice none 0 0)).run P w=.ok () w:=rfl;have h2:binOp .eql t (.slice A n c) (.slice none 0 0)=(do pure (.bool (<-Op.equal t (.slice A n c) (.slice none 0 0)))):=rfl;rw[asI,h1,h2];revert h1 h2;exact qQ.un):A:=f ⟨q⟩
def apg(q:B)(f:Hold B->A:=by
 intro qQ;rw[avi];have hlays:CmpLays P fn caps enc K cf g 0 s.toArray.size w0:=λm os dk _ x y=>hc _ (by have q:=Cc (enc:=enc) (K:=K) (w:=w0) (g:=g) (n:=m) (d:=dk) (os:=os);exact⟨q.os,q.tape,q.output,q.size,q.aS⟩) x y
 revert hlays;exact qQ.un):A:=f ⟨q⟩
def adN(q:B)(f:Hold B->A:=by
 intro qQ;obtain⟨y,hy⟩:=gx l k;have hdk:l.drop k=y::l.drop (k+1):=by rw[atB Y];rw[(asr.1 hy).2]
 revert y hy hdk;exact qQ.un):A:=f ⟨q⟩
def arz(q:B)(f:Hold B->A:=by
 intro qQ;refine fj _ (.aS B6) rfl ?_;refine jR (vs:=[.slice none 0 0,.slice none 0 0,.slice none 0 0]) B6 rfl Yl Ys (λv5 C5 k5 z5=>?_);refine ret ?_;refine da _ (bU (bF.aS C5) rfl) ?_;revert v5 C5 k5 z5;exact qQ.un):A:=f ⟨q⟩
def adO(q:B)(f:Hold B->A:=by
 intro qQ;refine bC ?_;refine pb _ (λu hu=>hu.ai (B3.ai rfl) (show b3≠b6 from Y)) ?_;refine an ?_;exact qQ.un):A:=f ⟨q⟩
def aph(q:B)(f:Hold B->A:=by
 intro qQ;refine st1 B10 rfl (λw4 B4 k4=>?_);refine ret ?_;refine da _ (bj (B4.ai rfl)) ?_;revert w4 B4 k4;exact qQ.un):A:=f ⟨q⟩
def arA(q:B)(f:Hold B->A:=by
 intro qQ;have hsh:=att hsh.symm;have ea:bL (zG s.free (bV x.d s.bJ s.aI (pM x s.aI))) i=dC m (bL (bV x.d s.bJ s.aI (pM x s.aI)) i) i:=by rw[Lz (by rw[eN];exact hi),Lr hm]
 revert hsh ea;exact qQ.un):A:=f ⟨q⟩
def Up(q:B)(f:Hold B->A:=by
 intro qQ;refine go ?_;refine alloc (λq w6 h6=>?_);refine fg h6.aS (λw7 hb7 k7 z7=>?_);have z6:=h6.au;revert q w6 h6 w7 hb7 k7 z7 z6;exact qQ.un):A:=f ⟨q⟩
def Py(q:B)(f:Hold B->A:=by
 intro qQ;refine go ?_;refine alloc (λb7 u1 a1=>?_);refine fg a1.aS (λu2 B7 k2 z2=>?_);revert b7 u1 a1 u2 B7 k2 z2;exact qQ.un):A:=f ⟨q⟩
def api(q:B)(f:Hold B->A:=by
 intro qQ;obtain⟨ub,hub⟩:∃b,b=U (x.up,(h:Int)-x.bD):=⟨_,rfl⟩;refine bR (.take 0 (.take 1 (.take 2 (.take 3 (.take 4 (.take 5 (.take 6 (.take 7 (.take 8 (.UJ (.DF 9 .done))))))))))) [9] (λz=>z=u2) mx Z rfl ?_;revert ub hub;exact qQ.un):A:=f ⟨q⟩
def apj(q:B)(f:Hold B->A:=by
 intro qQ;refine bR (.take 0 (.take 1 (.take 2 (.take 3 (.take 4 (.take 5 (.DF 6 (.take 7 (.take 8 (.take 9 (.take 10 .done))))))))))) [] (λz=>ax w10 z) mx Z (.refl _ _) ?_;refine go ?_;exact qQ.un):A:=f ⟨q⟩
def arB(q:B)(f:Hold B->A:=by
 intro qQ;refine an ?_;refine aM (λk:Nat=>[(9,iv (k:Int)),(0,iv ((l.take k).foldl min n))]) (λk u=>k<=m/\w=u) (λk _=>m-k) 0 ⟨rfl,rfl,Yt⟩ ⟨Y,rfl⟩ rfl ?_;exact qQ.un):A:=f ⟨q⟩
def apk(q:B)(f:Hold B->A:=by
 intro qQ;have h2:=avj (x.d.aG+x.every-1) (show 0<x.every from Y);have h3:0<=(x.d.aG+x.every-1)/x.every:=aue Y Y;have h4:(fz x:Int)=(x.d.aG+x.every-1)/x.every:=by unfold fz;omega
 revert h2 h3 h4;exact qQ.un):A:=f ⟨q⟩
def Uq(q:B)(f:Hold B->A:=by
 intro qQ;refine gv (λ_=>True) Yt ?_;refine wj (v:=iv (V0+x.aC)) MS (λu8 M8 k8 zs8=>?_);revert u8 M8 k8 zs8;exact qQ.un):A:=f ⟨q⟩
def Ur(q:B)(f:Hold B->A:=by
 intro qQ;refine fu _ (B23.ai rfl) Yt (.refl _ _) ?_;refine idx au rfl hatm ?_;refine bC ?_;exact qQ.un):A:=f ⟨q⟩
def Zh(q:B)(f:Hold B->A:=by
 intro qQ;have v48:F 48=.slice (some (ad gI 0)) n1 n1:=v48;have v52:F 52=.slice (some (ad gE 0)) n1 n1:=v52;have v56:F 56=.slice (some (ad gS 0)) n1 n1:=v56;have v60:F 60=.slice (some (ad gT 0)) n2 n2:=v60;have v64:F 64=.slice (some (ad gL 0)) n1 n1:=v64;revert v48 v52 v56 v60 v64;exact qQ.un):A:=f ⟨q⟩
def Zi(q:B)(f:Hold B->A:=by
 intro qQ;refine kL (λ_=>?_) (λh=>Bool.noConfusion h);refine go ?_;exact qQ.un):A:=f ⟨q⟩
def Zj(q:B)(f:Hold B->A:=by
 intro qQ;refine uo mx Z ?_;refine go ?_;refine ld _ ((h5.ae x1).ai rfl) ?_;refine go ?_;refine idx x.aO.toNat Y Y ?_;refine go ?_;refine ld _ ((h6.ae x1).ai rfl) ?_;exact qQ.un):A:=f ⟨q⟩
def Zk(q:B)(f:Hold B->A:=by
 intro qQ;have hk:=(asr.1 h).1;have e:l=l.take k++x::l.drop (k+1):=by have:=(asr.1 h).2;rw[<-this,<-atB hk,atk]
 revert hk e;exact qQ.un):A:=f ⟨q⟩
def Zl(q:B)(f:Hold B->A:=by
 intro qQ;have ha':a<d'.size:=by simpa using ha
 have hb'':b<d'.size:=by simpa using hb'
 have h1:=hso a b (atc _) hab Y;revert ha' hb'' h1;exact qQ.un):A:=f ⟨q⟩
def Zm(q:B)(f:Hold B->A:=by
 intro qQ;have f3:W2.cell? ⟨W.heap.size,3,none⟩=some (.int .i64 x3):=by rw[hW2];exact B0.ai rfl
 have f4:W2.cell? ⟨W.heap.size,4,none⟩=some (.int .i64 x4):=by rw[hW2];exact B0.ai rfl
 revert f3 f4;exact qQ.un):A:=f ⟨q⟩
def Zn(q:B)(f:Hold B->A:=by
 intro qQ;refine box (λb2 w1 h1=>?_);have B2:aP w1 b2 31 [.string d.name,iv d.aG,iv d.cap,iv d.bH,.slice A1 n1 c1,.slice A2 n2 c2,.slice A3 n3 c3,.slice A4 n4 c4,.slice A5 n5 c5,.slice A6 n6 c6]:=h1.aS;revert b2 w1 h1 B2;exact qQ.un):A:=f ⟨q⟩
def Zo(q:B)(f:Hold B->A:=by
 intro qQ;refine bN x3 ?_;have B7:=B7.ae x3;refine go ?_;refine kV (kv:=fY) x.no (v:=.agg (x.cc A7 n7 c7).toArray) (M2.ah x3 Yt) (λu4 M4 k4 s4=>?_);have x04:=((xu.trans (ax.any xu2)).trans (ax.any x3)).trans k4;revert B7 u4 M4 k4 s4 x04;exact qQ.un):A:=f ⟨q⟩
def Us(q:B)(f:Hold B->A:=by
 intro qQ;refine bN ⟨k7,_,MS.g.g,VH hV0⟩ ?_;refine gv (λ_=>True) Yt ?_;exact qQ.un):A:=f ⟨q⟩
def Zp(q:B)(f:Hold B->A:=by
 intro qQ;refine bC ?_;refine fu (.map (some g)) (B3.ai rfl) n3 (.refl _ _) ?_;refine bC ?_;refine fu (iv x.aZ) (B5.ai rfl) n5 (.refl _ _) ?_;exact qQ.un):A:=f ⟨q⟩
def Zq(q:B)(f:Hold B->A:=by
 intro qQ;have x46:=h5.ae.ag k6 λb hb _ e=>Y;have x36:=x4.trans x46;refine fj _ (.aS (B1.ae x36)) rfl ?_;refine aJ (JJ ((hx3.ae x36).ar λb hb _=>hb) few) ?_;revert x46 x36;exact qQ.un):A:=f ⟨q⟩
def Zr(q:B)(f:Hold B->A:=by
 intro qQ;have hbc:builtin .delete #[t,kt] ty cst #[.map (some g),kv a]=(do pure (.value (<-Builtin.delete_ #[t,kt] ty #[.map (some g),kv a]))):=rfl;rw[hbc,asI];revert hbc;exact qQ.un):A:=f ⟨q⟩
def apl(q:B)(f:Hold B->A:=by
 intro qQ;refine conv (k:=.u64) ?_;obtain⟨y,hy⟩:∃y,y=IntKind.u64.wrap n:=⟨_,rfl⟩;rw[<-hy];refine arW ?_;obtain⟨x,hx⟩:∃x,x=IntKind.u64.wrap (0-y):=⟨_,rfl⟩;rw[<-hx];revert y hy x hx;exact qQ.un):A:=f ⟨q⟩
def NC(q:B)(f:Hold B->A:=by
 intro qQ;refine qV (λg w1 hg hw1=>?_);have x01:ax w w1:=by rw[hw1];exact aj.alloc _ _ _
 revert g w1 hg hw1 x01;exact qQ.un):A:=f ⟨q⟩
def Zs(q:B)(f:Hold B->A:=by
 intro qQ;refine bC ?_;refine fu _ (B2.ai rfl) Yt (.refl _ _) ?_;refine bC ?_;refine fu _ (B3.ai rfl) Yt (.refl _ _) ?_;exact qQ.un):A:=f ⟨q⟩
def Zt(q:B)(f:Hold B->A:=by
 intro qQ;refine go ?_;refine next j' ⟨congrArg (Value.int .i64) Y,Yt⟩ ⟨Y,((k1.ae x2).trans k3).trans k4,?_,b4⟩ Y;exact qQ.un):A:=f ⟨q⟩
def ND(q:B)(f:Hold B->A:=by
 intro qQ;have e1:=h1.au;have e2:=h2.au;have s1:=h1.size;have s2:=h2.size;revert e1 e2 s1 s2;exact qQ.un):A:=f ⟨q⟩
def Ut(q:B)(f:Hold B->A:=by
 intro qQ;refine st1 B8 rfl (λw5 B5 k5=>?_);refine ret ?_;refine da _ (bj (B5.ai rfl)) ?_;revert w5 B5 k5;exact qQ.un):A:=f ⟨q⟩
def Zu(q:B)(f:Hold B->A:=by
 intro qQ;refine bC ?_;refine fu _ (B3.ai rfl) n3 (.refl _ _) ?_;refine bC ?_;refine fu _ (B5.ai rfl) n5 (.refl _ _) ?_;exact qQ.un):A:=f ⟨q⟩
def Zv(q:B)(f:Hold B->A:=by
 intro qQ;have g3:W2.cell? ⟨W.heap.size+1,3,none⟩=some (.bool y3):=by rw[hW2];exact B1.ai rfl
 have hsz:W2.heap.size=W.heap.size+2:=by rw[hW2];exact hsz1
 revert g3 hsz;exact qQ.un):A:=f ⟨q⟩
def Uw(q:B)(f:Hold B->A:=by
 intro qQ;refine bC ?_;refine fu _ (B6.ai rfl) Yt (.refl _ _) ?_;exact qQ.un):A:=f ⟨q⟩
def apm(q:B)(f:Hold B->A:=by
 intro qQ;have he:EY x=false:=by unfold EY;refine asG λh=>?_;simp[h] at b
 refine kL (λh=>Bool.noConfusion h) (λ_=>?_);revert he;exact qQ.un):A:=f ⟨q⟩
def Ux(q:B)(f:Hold B->A:=by
 intro qQ;refine idx k rfl Y ?_;refine ld (iv l) (hlc 0 _ rfl) ?_;exact qQ.un):A:=f ⟨q⟩
def Zw(q:B)(f:Hold B->A:=by
 intro qQ;have x1:ax w w1:=by rw[hw1];exact aj.alloc _ _ _
 have M1:dw fY w1 g (λ_=>none):=by rw[hw1,hg];exact dw.new fY w
 have lg:w.heap.size<=g:=Y;revert x1 M1 lg;exact qQ.un):A:=f ⟨q⟩
def apn(q:B)(f:Hold B->A:=by
 intro qQ;have he:EY x=true:=by simp at b;unfold EY;exact asE Y
 refine kL (λ_=>?_) (λh=>Bool.noConfusion h);revert he;exact qQ.un):A:=f ⟨q⟩
def Zx(q:B)(f:Hold B->A:=by
 intro qQ;refine go ?_;refine pb (iv x.aC) (λv hv=>hv.1.ai (B5.ai rfl) (show b5≠g from Y)) ?_;refine go ?_;exact qQ.un):A:=f ⟨q⟩
def Uy(q:B)(f:Hold B->A:=by
 intro qQ;refine amP (kv:=dE) rfl Eu1 he Iu1 ?_;rw[hek,hev];have hlt:=Il he hns;revert hlt;exact qQ.un):A:=f ⟨q⟩
def Zy(q:B)(f:Hold B->A:=by
 intro qQ;have q88:=q87.ah k8' Y;refine bN ⟨B48.ai rfl,q88.ai rfl⟩<|st1 q88 rfl (λu9 q89 k9=>?_);have B49:=B48.ah k9 Y;refine bN ⟨B49.ai rfl,q89.ai rfl⟩ ?_;revert q88 u9 q89 k9 B49;exact qQ.un):A:=f ⟨q⟩
variable{p:Prop}
def g_0(h:p:=by
 have nw2:nwJ z4 Ad Ad:=.inl rfl;have zb5:=kA.size;have qz5:=qz.ah kA (tyD _ _ _ _ _ _ _ _ oz qz Yd);have oa2:∀g,Ad=some (ad g 0)->(Ad=some (ad g 0)\/z4.heap.size<=g):=λg hg=>by exact Y5
 refine aJ (MR oz2 Gd.abZ (by have:=Gd.an hd00;have:=oz2.own.an;rw[bz (K:=5) (λ_=>rfl)] at this;omega)) ?_;rintro _ z6 ⟨Az3,nz3,cz3,rfl,oz3,-,kz3,hA3⟩;have qz6:=qz5.ah kz3 (tyD _ _ _ _ _ _ _ _ oz2 qz5 Yd);refine st1 qz6 rfl (λz7 qz7 kz7=>?_);have zb6:=kz3.size;have na2:∀b,b<z4.heap.size->Ad≠some (ad b 0)->Ad≠some (ad b 0):=λb hb hh e=>by
  rcases oa2 b e with e2|e2
  .exact hh e2
  .omega
 exact Y0):p:=h
def g_1(h:p:=by
 rintro rv z ⟨k5,l5,Ad,nd,cd,q5,o5,nn5⟩;subst hRL;rw[auh] at o5;have adlb:∀g,Ad=some (ad g 0)->g≠u5.heap.size+1:=λg hg=>by exact Uj
 refine dL _ l5 (by simp) (λv7 k6=>?_);have q6:=q5.ah k6 Y;have xw7:ax w v7:=o5.ae.ag k6 λb hb _=>Y;have o6:=o5.bY k6 adlb xw7;have hm6:Marks w7.heap.size (Xi u5::ds) v6:=Marks.add hmk (xu5.trans x6) xu5.size Y hD6;have kk6:aj (λx=>x≠b10/\x≠u5.heap.size+1/\A9≠some (ad x 0)) v6 v7:=k5.ag k6 λ_ _ hh=>hh.2.1;have hm7:=hm6.ah kk6 λb hb1 hb2 hb3=>⟨λe=>(by
  have h1:v6.heap[b]? =some (.cells _ _ _):=e▸(B10.ae x6);rw[h1] at hb3;cases hb3),λe=>(by
  have h1:v6.heap[b]? =some (.loop _):=e▸hl6;rw[h1] at hb3;cases hb3),λe=>(by
  obtain⟨cs,hbk⟩:=(o9w.ag x6).PB.cells e;have h1:v6.heap[b]? =some (.cells _ _ _):=hbk;rw[h1] at hb3;cases hb3)⟩
 have n9o:∀b,b<u1.heap.size->A9≠some (ad b 0):=λb hb e=>by have:=o9lt _ e;omega
 have GE:uz d (λ_=>True) a.aH (pE (mV js a.aH) (r.take k)):=GI.exc λy hy=>hjv _ y hy;have hel:=GE.PF.an hd00;obtain⟨X,hX⟩:∃X,X=pE (mV js a.aH) (r.take k):=⟨_,rfl⟩;rw[<-hX] at o6 hel;have hnd:nd=X.length:=by have:=o6.own.an;rw[bz (K:=5) (λ_=>rfl)] at this;omega
 have kuv:aj (λx=>x<u.heap.size) u v7:=(ax.any (xu5.trans x6)).ag kk6 λb hb hh=>⟨Y,Y,n9o b Y⟩;have C4z:=C4.ah kuv (by have:=C4.lt;omega);have hsz:=hs.ah kuv λb hb _=>hb;have hBlt:∀g,B=some (ad g 0)->g<u.heap.size:=λg hg=>by
  rcases oR.form with⟨e,-⟩|⟨g',e,h1',h2',-⟩
  .rw[e] at hg;cases hg
  .exact Dx
 have oRz:bu w v7 B m cm 65 5 (R.flatMap bM):=oR.bY kuv (λg hg=>hBlt g hg) xw7;have hB10:B≠some (ad b10 0):=λe=>by have:=hBlt _ e;omega
 have hB4:B≠some (ad b4 0):=λe=>by have:=hBn _ e;omega
 have yv:=kuv.size;refine bR (oP [2,7] [7] [0,1,3,4,5,2,6,7]) [7] (λq=>aj (λb=>B≠some (ad b 0)) v7 q) mx Z (.refl _ _)<|fu (.slice Ad nd cd) (q6.ai rfl) hB10 (.refl _ _)<|fu (.slice (some (ad bb oo)) n' c') (C4z.ai rfl) hB4 (.refl _ _)<|Km (a:=uQ) k n' hsz hnc' rfl rfl hkn (asN _) rfl λA11 h11=>acu<|iI oRz o6.own.src Y (λB' e' v8 o8 k8 hA8=>?_) (h1:=lR);refine bN k8<|gv (λ_=>True) Yt ?_;have C48:=C4z.ah k8 hB4;refine st1 C48 rfl λv9 C49 k9=>go ?_;have xv8:ax w v8:=o8.ae;have xv9:ax w v9:=xv8.ag k9 λb hb _=>Y;have hB'n:∀g,B'=some (ad g 0)->w7.heap.size<=g:=λg hg=>by
  rcases hA8 with e|e|e
  .exact hBn g (e▸hg)
  .rw[e] at hg;cases hg
  .exact Dx
 have o9':=o8.bY k9 (λg hg e=>by have:=hB'n g hg;omega) xv9;have kuv9:aj (λx=>x<w7.heap.size/\x≠b4) w7 v9:=((ku.cU λb _ hh=>hh.2).ag kuv λb hb hh=>Y).ag k8 (λb hb hh e=>by have:=hBn b e;omega) |>.then k9 λb hb hh=>hh.2;have hsv:bS uQ (λb=>b<w.heap.size) v9 (some (ad bb oo)) n' r:=(hsz.ah k8 λb hb hh e=>by have:=hBn b e;omega).ah k9 λb hb hh=>Y;have hrk:(r.take n').drop k=r.drop k:=by rw[asx Y]
 have hs11:=h11 _ _ hsv;rw[hrk] at hs11;have hdl:(r.drop k).length=r.length-k:=atM;refine Xq (r.drop k) (.slice B' (m+nd) e') ⟨rfl,Yt⟩ ⟨kuv9.cU λb hb hh=>⟨hb,hh⟩,⟨A11,n'-k,c'-k,C49,hs11,Y⟩,(List.drop_sublist _ _).trans hsub,⟨B',m+nd,e',R++X,rfl,by rw[as7];exact o9',hB'n,?_,?_⟩,(hm7.ah k8 λb hb1 hb2 hb3 e=>?_).ah k9 λb hb1 _ _=>Y⟩ (by rw[hdl];omega)
 .rw[as5,<-hR];congr 1;have e1:CC js r.length r=X++CC js r'.length (r.drop k):=by rw[hX,<-hdw,<-ht,hr];rfl
  rw[e1];congr 1;have hr1:r.length=r'.length+1:=by rw[hr];rfl
  exact Fc (asN _) Y
 .rw[asu,hdl];omega
 .obtain⟨cs,hbk⟩:=oRz.PB.cells e;have h1:v7.heap[b]? =some (.cells _ _ _):=hbk;rw[h1] at hb3;cases hb3):p:=h
def g_2(h:p:=by
 refine cE (λq4=>?_) (λq4=>?_)
 .refine go ?_;refine Kz (kv:=fY) x.fI (f x.fI) (λu hu=>by subst hu;exact⟨f,M,rfl⟩) (λv hv=>?_) (λhv=>?_)
  .obtain⟨y,hy,z,A7,n7,c7,hz,hz1,hz2⟩:∃y,e x.fI=some y/\∃(z:dz) (A7:bZ) (n7 c7:Nat),v=.agg (z.cc A7 n7 c7).toArray/\z.kind=y.1/\z.aN=y.2:=by
    have:=hR x.fI;cases he:e x.fI with
    |none=>rw[he] at this;rw[this] at hv;cases hv
    |some y=>
     rw[he] at this;obtain⟨z,A7,n7,c7,h1,h2,h3⟩:=this;rw[h1] at hv;injection hv with hv;exact⟨y,rfl,z,A7,n7,c7,hv.symm,h2,h3⟩
   subst hz;refine arq ?_;intro kE b9 u1 a1 u2 B9 k2 z2 e9 xu2 B5u;refine cN (λr1=>?_) (λr1=>?_)
   .refine go ?_;refine cD (λr2=>?_) (λr2=>?_)
    .exact aQ _ rfl ⟨by rw[fE,kE,asE Y,asE Y];rfl,x03.trans xu2⟩
    .exact aQ (.bool false) rfl ⟨by rw[fE,kE,asG (show¬y.2<=x.aN from Y),atA],x03.trans xu2⟩
   .exact aQ (.bool false) rfl ⟨by rw[fE,kE,asG (show¬y.1≠4 from Y),avl],x03.trans xu2⟩
  .refine arp ?_;intro he kE b9 u1 a1 u2 B9 k2 z2 e9;exact aQ (.bool false) rfl ⟨by rw[fE,kE],x03.trans (a1.ae.ag k2 λb hb _ e=>Y)⟩
 .exact aQ (.bool false) rfl ⟨by rw[fE];unfold mq;rw[aso q1,aso q2,aso q3,aso q4],x03⟩):p:=h
def g_3(h:p:=by
 refine dh (kv:=fY) x.kind (.func (.func 321) #[] #[]) (λz' hz=>by subst hz;exact⟨fk,MKz,by rw[hk,f3];rfl⟩)<|go<|aJ (Wi oz hjx.1 hk GIm.PF (λq=>Yt) Y) ?_;rintro _ z5 ⟨Az2,nz2,cz2,rfl,oz2,kA,nw2⟩;have hdo:sf x (pE ((mV js a.aH).take mm) (r.take k))=RX x (pE ((mV js a.aH).take mm) (r.take k)):=by unfold sf;rw[aso Y,asp hk]
 rw[<-hdo] at oz2;have zb5:=kA.size;have qz5:=qz.ah kA (tyD _ _ _ _ _ _ _ _ oz qz Yd);have oa2:∀g,Az2=some (ad g 0)->(Ad=some (ad g 0)\/z4.heap.size<=g):=λg hg=>by exact Y5
 refine aJ (MR oz2 Gd.abZ (by have:=Gd.an hd00;have:=oz2.own.an;rw[bz (K:=5) (λ_=>rfl)] at this;omega)) ?_;rintro _ z6 ⟨Az3,nz3,cz3,rfl,oz3,-,kz3,hA3⟩;have qz6:=qz5.ah kz3 (tyD _ _ _ _ _ _ _ _ oz2 qz5 Yd);refine st1 qz6 rfl (λz7 qz7 kz7=>?_);have zb6:=kz3.size;have na2:∀b,b<z4.heap.size->Ad≠some (ad b 0)->Az2≠some (ad b 0):=λb hb hh e=>by
  rcases oa2 b e with e2|e2
  .exact hh e2
  .omega
 exact Y0):p:=h
def g_4(h:p:=by
 refine kL (λ_=>?_) (λh=>Bool.noConfusion h);refine bN (.refl _ _) ?_;have hab:a<x.no/\b<=x.aH:=Y;rw[asE hab,aui] at hi;have B4u:=B4.ae x42;have Mu:=M.ah xu2 Yt;have zu:=ku.size;have ku2:=ku.trans (ax.any xu2);refine go ?_;refine cD (λq0=>?_) (λq0=>?_)
 .rw[asp q0] at hi;refine go ?_;refine rz (Sw (hd0.ae (x04.trans x42))) ?_ ?_
  .rintro _ u3 ⟨rfl,hv,x3⟩;rw[hv,aui] at hi;refine go ?_;refine ld _ ((B7.ae x3).ai rfl) ?_;refine eD (n:=x.no+1) Y ?_;refine BX (kv:=fY) (x.no+1) (v:=.bool true) (Mu.ah x3 Yt) (λu4 M4 k4 s4=>?_);refine eD (n:=(k:Int)+1) Y ?_;refine next (k+1) ⟨Yn,Yt⟩ ⟨Y,(ku2.trans (ax.any x3)).trans k4,_,_,_,_,M4,λq=>?_,hi,λe=>absurd e Y,λj hj=>⟨x,by rw[show j=k from Y];exact hxk',rfl,rfl⟩⟩ Y;unfold dZ;by_cases e:q=x.no+1
   .rw[asp e,asp e];rfl
   .rw[aso e,aso e];exact hf q
  .rintro _ u3 ⟨hv,x3,rfl⟩;exactλF' hF'=>lQ (R:=λv w'=>v=iv (fC d xs)/\ax w w') (hF' 4 rfl) (B4.ae (x42.trans x3)) λw' k=>⟨by rw[bad (by rw[hi,hv];rfl)],fin (x42.trans x3) w' k⟩
 .rw[aso q0] at hi;refine go ?_;refine dh (kv:=fY) x.fI (.bool (o x.fI)) (λz hz=>by subst hz;exact⟨f,Mu.g,hf _⟩) ?_;cases ho:o x.fI with
  |false=>
   refine kL (λh=>Bool.noConfusion h) (λ_=>?_);exactλF' hF'=>lQ (R:=λv w'=>v=iv (fC d xs)/\ax w w') (hF' 4 rfl) (B4.ae (x42)) λw' k=>⟨by rw[bad (by rw[hi,ho];rfl)],fin (x42) w' k⟩
  |true=>
   refine go ?_;refine hY [iv x.no,iv x.aH,iv 0,iv 0,iv 0,iv 0,iv 0,iv 0,iv x.fI] Z ?_;refine Uz ((x.no == x.no)&&((x.aH == x.aH)&&((x.kind == 0)&&((x.aO == 0)&&((x.other == 0)&&((x.dq == 0)&&((x.to == 0)&&((x.n == 0)&&((x.fI == x.fI)&&true))))))))) Z (λb=>?_) (λb=>?_)
   .refine apn ?_;intro he;rw[ho,he,Bool.and_self,aui] at hi;refine arv ?_;intro u4 M4 k4 s4 q;unfold OB;by_cases e:q=x.fI
    .rw[asp e,asp e];rfl
    .rw[aso e,aso e];exact hf q
   .refine apm ?_;intro he;exactλF' hF'=>lQ (R:=λv w'=>v=iv (fC d xs)/\ax w w') (hF' 4 rfl) (B4.ae (x42)) λw' k=>⟨by rw[bad (by rw[hi,he,atA];rfl)],fin (x42) w' k⟩):p:=h
def g_5(h:p:=by
 have hjn':j=n:=Y;have hcsl:(cur.flatMap bM++rest).length=c*5:=by exact NA
 have hfin:cur.take i=ms.filter di:=by rw[hc1,hjn',asx Y]
 refine F5 i n rfl rfl Y Y Y<|clr hb2 Y (by rw[hcsl];omega) (λw3 cs' hb3 ht hl k3=>?_);have hfl:(ms.filter di).length=i:=by rw[<-hfin,asF];omega
 have ht:cs'.take (i*5)=(ms.filter di).flatMap bM:=by
  have e1:cs'.take (i*5)=(cur.flatMap bM++rest).take (i*5):=by rw[show i*5=0+i*5 from Y];exact ht
  rw[e1,ya hK _ _ _ Y,hfin]
 have hb4:aP w3 g 65 ((ms.filter di).flatMap bM++cs'.drop (i*5)):=by rw[<-ht,atk];exact hb3
 have xf:=xw0.ag k3 λb hb _ e=>Y;refine F5 0 i rfl rfl Y Y Y<|aQ (.slice (some (ad g (0+0*5))) (i-0) (c-0)) rfl ⟨some (ad g 0),i,c,by rw[show 0+0*5=0 from Y,aup,aup],⟨jH.iH hb4 (by rw[bz hK,hfl]) (by rw[<-ht,atk,hl,hcsl]) Y h.own.cap,xf,λg' hg'=>by injection hg' with hg';injection hg' with hg';omega⟩,Y,((ax.any x1).trans (k2.cU λb _ h e=>h (by rw[e]))).trans (k3.cU λb _ h e=>h (by rw[e])),.inl rfl⟩):p:=h
def PI(h:p:=by
 refine bN (.refl _ _) ?_;exact aQ _ rfl ⟨badX λhh=>(by unfold DX at hh;rw[hm1] at hh;omega),xu2⟩):p:=h
def g_7(h:p:=by
  have hk3 : k = 0 \/ k = 1 \/ k = 2 := Y
  rcases hk3 with rfl | rfl | rfl
  · skip
    go_wp2
    all_goals first
      | (have h : a0 ≠ 0 := (by have := ‹(a0 != 0) = true›; simpa using this); go_ret; refine ⟨congrArg Ending.returned ?_, rfl⟩; first | rfl | (show Value.int .i64 a0 = .int .i64 r; rw [hr0  h]))
      | (have h : a0 = 0 := by first | assumption | (have := ‹(a0 != 0) = false›; simpa using this)
         go_round
         case rel => exact ⟨1, Y, rfl, λ _ => h, Y⟩
         case measure => simp [Go.RowKit.intOf])
  · skip
    have z0 := z0 Y
    go_wp2
    all_goals first
      | (have h : a1 ≠ 0 := (by have := ‹(a1 != 0) = true›; simpa using this); go_ret; refine ⟨congrArg Ending.returned ?_, rfl⟩; first | rfl | (show Value.int .i64 a1 = .int .i64 r; rw [hr1 z0]))
      | (have h : a1 = 0 := by first | assumption | (have := ‹(a1 != 0) = false›; simpa using this)
         go_round
         case rel => exact ⟨2, Y, rfl, λ _ => z0, λ _ => h⟩
         case measure => simp [Go.RowKit.intOf])
  · skip
    have z0 := z0 Y
    have z1 := z1 Y
    go_wp2
    go_ret
    refine ⟨congrArg Ending.returned ?_, rfl⟩
    have e := (hr1 z0).trans z1
    first | rfl | (show Value.int .i64 0 = .int .i64 r; rw [e]) | (show Value.int .i64 0 = .int .i64 a1; rw [z1])):p:=h
def g_8(h:p:=by
 refine HF (λg2=>?_) (λg2=>?_)
 .exact uB
 .exact aQ (.bool true) rfl ⟨by rw[bO.2 Y],rfl⟩):p:=h
def g_9(h:p:=by
 simp only[atj] at q;refine go ?_;refine yN (j+1) i () ⟨Yn,rfl,Yt⟩ ⟨Y,Y,(k2.ae x23).ae x4,cur,hcl,(hb2.ae x23).ae x4,?_,?_⟩ Y
 .rw[htk,atp,<-hc1,au8 (by simp[q])];simp
 .rw[<-av6,<-av6,hc2]):p:=h
def an2(h:p:=by
 refine aro ?_;intro q7 o7 l7 gg v12 hq A10 c10 v13 o13 k13 hA q13 v14 q14 k14 xs12 nn14 nn15 l14 o14 v15 k15 l15 o15 ka;refine⟨rfl,⟨k5.ag ka λb hb hh=>⟨hh.1,hh.2.1,λe=>?_⟩,l15,A10,n0+1,c10,q14.ah k15 Y,?_,nn14⟩,ka.cU λb hb hh=>?_,o8.ah ka λg hg=>⟨?_,?_,hA8 g hg⟩⟩
 .rcases(nn5 b e).2 with e2|e2
  .exact hh.2.2 e2
  .omega
 .rw[htk,<-as5,asK,as7];exact o15
 .rcases hh with rfl|rfl|hh
  .exact Za
  .exact Za
  .exact⟨Y,Y,λe=>by have:=o5.new b e;omega⟩
 .have:=o8.new g hg;omega
 .have:=o8.new g hg;omega):p:=h
def an3(h:p:=by
 simp only[atb] at q;refine fj (bM m) (.aS (tb.ae x4)) rfl ?_;refine go ?_;have hcsl:(cur.flatMap bM++rest).length=c*5:=by exact NA
 refine jR ((hb2.ae x23).ae x4) rfl (by rw[hcsl];show _+5<=_;omega) Ys (λw5 b5 s5 zs5=>?_);refine go ?_;refine yN (j+1) (i+1) () ⟨Yn,Yn,Yt⟩ ⟨Y,Y,((k2.ae x23).ae x4).trans s5,cur.set i m,?_,?_,?_,?_⟩ Y
 .rw[asU];exact hcl
 .rw[<-mj hK Y];have:0+i*5=i*5:=Y;rw[this] at b5;exact b5
 .exact Y6
 .exact Ui):p:=h
def pQ(h:p:=by
 exact fin Yd (I.pure hrd.2 Yd Yd Yd hcc h27 rfl)):p:=h
def Dw(h:p:=by
 exact aQ _ rfl ⟨false,rfl,λh=>(by cases h),by first|exact x03|exact x23⟩):p:=h
def an4(h:p:=by
 have hno:gO d out=none:=by rw[<-hct,qF hh2,hstn]
 refine st1 q4 rfl (λz5 q4 kz5=>?_);refine st1 (q5.ah kz5 Y) rfl (λz6 q5 kz6=>?_);refine st1 ((q6.ah kz5 Y).ah kz6 Y) rfl (λz7 q6 kz7=>?_);have lz7:=((lz.ah kz5 Y).ah kz6 Y).ah kz7 Y;refine vM _ lz7 (λz8 kz8 lz8=>?_);exact .inr ⟨rfl,hno,_,lz8,by simp,rfl,((q4.ah kz6 Y).ah kz7 Y).ah kz8 Y,(q5.ah kz7 Y).ah kz8 Y,q6.ah kz8 Y,(((k64.ag kz5 λb _ hh=>hh.2.1).ag kz6 λb _ hh=>hh.2.2.1).ag kz7 λb _ hh=>hh.2.2.2.1).ag kz8 λb _ hh=>hh.2.2.2.2.2.1⟩):p:=h
def an5(h:p:=by
 refine aoZ ?_;rintro G k w' ⟨hk,xw,he⟩;refine cD (λhlt=>?_) (λhge=>?_)
 .obtain⟨m,hx⟩:=gx ms k;rcases(h.ag xw).form with⟨_,h0,_⟩|⟨g,rfl,hg0,hgl,hnc⟩
  .omega
  refine ao6 ?_;intro rest hb0 hbl htk;refine dt (hp m w' xw) (λw2 g x2=>?_) (λw2 g x2=>?_)
  .exact Uh
  .simp only[atb] at g;refine Un ?_;exact Uk
 .exact Zb):p:=h
def TK(h:p:=by
 refine vU (λh=>Bool.noConfusion h) λ_=>λF' hF'=>HW (R:=λv w'=>v=iv (cH d)/\ax w w') (hF' 2 rfl) qb λw' k=>⟨by rw[bad Y],fin (.refl _ _) w' k⟩):p:=h
def an6(h:p:=by
 have hh:∀q,q≠r->XA A' (S q).1:=λq hq2=>by
  rcases hA with e|e|⟨t,e,xt⟩
  .rw[e];exact h4 r q (λh=>hq2 h.symm)
  .rw[e];intro g h;cases h
  .intro g' h1 h2;rw[e] at h1;injection h1 with h1;injection h1 with h1;rcases(h3 q).form with⟨e2,-⟩|⟨g2,e2,-,hlt,-⟩
   .rw[e2] at h2;cases h2
   .rw[e2] at h2;injection h2 with h2;injection h2 with h2;have:=xt.size;omega
 by_cases e:q=r
 .simp only[asp e,aso (show¬q'=r fromλh=>hqq (by rw[e,h]))];exact hh q' (λh=>hqq (by rw[e,h]))
 .by_cases e':q'=r
  .simp only[aso e,asp e'];exact(hh q e).symm
  .simp only[aso e,aso e'];exact h4 q q' hqq):p:=h
def JQ(h:p:=by
 exact aQ (.bool false) rfl ⟨by unfold uw;rw[asG Y],x7⟩):p:=h
def an7(h:p:=by
 clear fk kx ky fx0 fy0 fx1 fy1 fx2 fy2 fx3 fy3 fx4 fy4;have K4:=K3.ar nq osq;have rl:=K4.rel 0 #[];clear K3;generalize grow (V3.drewN nq) osq=V4 at K4 rl|-;clear nq osq V3;clear k3;go_wp2
 .have h:c3≠0:=by have:=‹(c3 != 0)=true›;simpa using this
  go_ret;refine⟨congrArg Ending.returned ?_,rl⟩;have e:=hr3 z0 z1 z2 h;first|rfl|(show Value.int .i64 c3=.int .i64 r;rw[e])
 have z3:c3=0:=Yg;clear rl;have rl:=K4.rel 0 #[];rw[auj];go_wp2;go_ret;have e:=hz z0 z1 z2 z3;exact Y9):p:=h
def LO(h:p:=by
 refine aQ _ rfl ⟨⟨-1,rfl,?_⟩,xw⟩;rw[he,as8 (by have:=h.an;omega)];simp):p:=h
def Pv(h:p:=by
 rcases atf.1 he with h|h
 .exact hall e h
 .rw[asP] at h;rw[h,<-her];exact q):p:=h
def TM(h:p:=by
 unfold dZ;by_cases hab:b=a
 .subst hab;rw[asp rfl,asp rfl]
 .rw[aso (λe=>hab (hk.inj _ _ e).symm),aso hab,hf]):p:=h
def an8(h:p:=by
 refine arw ?_;intro u3 x3' hlt;unfold ltOf at hlt;refine cD (λp8=>?_) (λp8=>?_)
 .refine aQ (iv 220) rfl ⟨?_,xu2.trans x3'⟩;rw[e0,aso];intro hh;have:=hh.last hy (by rw[<-hk1];exact hx);rw[this,asy] at hlt;omega
 .rw[asE Y] at hlt;refine eD (n:=(k:Int)+1) Y ?_;exact next (k+1) ⟨Yn,Yt⟩ ⟨Y,x32.trans x3',pG.step hx hO hok (.inr ⟨y,by rw[hk1];exact hy,hlt.symm⟩)⟩ Y):p:=h
def WZ(h:p:=by
 go_wp2;go_ret;refine⟨rfl,0,#[Obj.cells #[Value.int .i64 x0,Value.int .i64 x1,Value.int .i64 x2,Value.int .i64 x3,Value.int .i64 x4] 65],?_⟩;rw[alloc_eq_grow];rfl):p:=h
def an9(h:p:=by
 intro L;induction L with
 |nil=>intro i _;simp[Instr.findAsking,gz]
 |cons x r ih=>
  intro i hx;obtain⟨q,hq⟩:=hx x ass;unfold Instr.findAsking gz;rw[hq,asI,heq q];by_cases hab:a=q
  .subst hab;simp
  .have h1:((a.1 == q.1)&&((a.2 == q.2)&&true))=false:=Yg;have h2:¬(dE q=dE a):=λe=>by simp at e;exact hab (Prod.ext e.1.symm e.2.symm)
   rw[h1,aso h2];simpa using ih (i+1) λy hy=>hx y (ast _ hy)):p:=h
def aoa(h:p:=by
 rintro _ u2 ⟨rfl,Bs,ks⟩;rw[hs2] at Bs;have hyl:(eE d l).length=m:=by rw[<-hs2,(cP os).length_eq,hm]
 have xF:ax w u2:=(xu.trans own.ae).ag ks λb hb _ e=>Y;refine ret ⟨some (ad g2 0),m,cm,rfl,⟨jH.iH Bs (by rw[bz (K:=4) (λ_=>rfl),hyl]) (by rw[asu,bz (K:=4) (λ_=>rfl)] at hBl|-;rw[hyl,hm];exact hBl) hc1 own.own.cap,xF,λg' hg'=>by injection hg' with hg';injection hg' with hg';omega⟩⟩):p:=h
def aob(h:p:=by
 refine arB ?_;rintro G k u ⟨hk,rfl⟩;refine cD (λhlt=>?_) (λhge=>?_)
 .have hlt:k<m:=Y;obtain⟨b,o,cs,x,rfl,hx,-,-,hc,rfl,-⟩:=hl.au hlt;have htk:l.take (k+1)=l.take k++[x]:=by rw[asD,hx];rfl
  refine idx k rfl hlt ?_;refine go ?_;exact next (k+1) ⟨Yn,by rw[htk,aud];rfl,Yt⟩ ⟨Y,rfl⟩ Y
 .exact aQ (iv ((l.take k).foldl min n)) rfl ⟨by rw[asx Y],rfl⟩):p:=h
def LP(h:p:=by
 rw[e'] at hg;injection hg with hg;injection hg with hg;omega):p:=h
def Ec(h:p:=by
 rw[bz (K:=5) (λ_=>rfl)] at this;omega):p:=h
def aoc(h:p:=by
 rw[asF,asF,ava Y,ava Y,atn,asK];congr 1
 .refine at1 λi hi=>?_;have:=as0.1 hi;unfold bL;rw[asC,asC,aty,aty,asp Y,asp Y]
 .unfold bL;rw[asQ,au1,asC,aty,asp Y,h];rfl):p:=h
def adp(h:p:=by
 refine go ?_;refine fg B8 (λwz C8 kz _=>?_);have C8:aP wz b8 60 D9:=C8;refine Xc ?_;exact⟨(x06).ag kz λb hb _=>Y,D9,by rw[ee]<;>rfl,rfl,rfl,λe0=>absurd ((ee).symm.trans e0) Yd⟩):p:=h
def aod(h:p:=by
 unfold ZI at hk;rw[lV] at hk;obtain⟨w2,h1,h2⟩:=hk;exact jv (R:=R) (λv _ h=>⟨v,rfl,h⟩) hg'.2.1 _ _ _ h1 h2):p:=h
def aoe(h:p:=by
 have sJ:=hJ3 _ _ ((g3.ae xE).ar Yd λb _ hb=>(by have:=xE.size;omega:b<(w10).heap.size));rw[at3,hjd] at sJ;refine aJ (Lh ((hd0.ae xE).ar λb _ hb=>by have:=xE.size;omega) (s12) (o12.le) sJ) ?_;rintro _ wz ⟨xz,A9,n9,c9,rfl,ho9⟩;refine bN xz<|ret ⟨xE.trans xz,A9,n9,c9,by rw[e3'];rfl,λe0=>?_⟩;rw[e3'] at e0;exact(ho9 e0).base xE):p:=h
def W3(h:p:=by
 have e1:=h1.au;have e2:=h2.au;have s1:=h1.size;exact aQ _ rfl ⟨b1,b2,rfl,h1.ae.trans h2.ae,h1.aS.ae h2.ae,h2.aS,Y,Y⟩):p:=h
def TN(h:p:=by
 refine aQ _ rfl ⟨⟨k,rfl,?_⟩,xw.trans x2⟩;simp only[atj] at g;rw[he,g];simp):p:=h
def adq(h:p:=by
 have h:c2≠0:=by have:=‹(c2 != 0)=true›;simpa using this
 go_ret;refine⟨congrArg Ending.returned ?_,rl⟩;have e:=hr2 z0 z1 h;first|rfl|(show Value.int .i64 c2=.int .i64 r;rw[e])):p:=h
def adr(h:p:=by
 have h:c1≠0:=by have:=‹(c1 != 0)=true›;simpa using this
 go_ret;refine⟨congrArg Ending.returned ?_,rl⟩;have e:=hr1 z0 h;first|rfl|(show Value.int .i64 c1=.int .i64 r;rw[e])):p:=h
def ads(h:p:=by
 have h:c0≠0:=by have:=‹(c0 != 0)=true›;simpa using this
 go_ret;refine⟨congrArg Ending.returned ?_,rl⟩;have e:=hr0 h;first|rfl|(show Value.int .i64 c0=.int .i64 r;rw[e])):p:=h
def aof(h:p:=by
 rintro _ u7 ⟨rfl,M7',k7'⟩;refine ao3 ?_;intro k77 l7' q87 own7 kc7;refine eQ _ l7' λu9 k9 l9=>⟨rfl,⟨k77.ag k9 (λ_ _ h=>h.2.2),l9,?_,E,ne,ce,lE,Y,hlE,q87.ah k9 Y,hE,?_⟩,kc7.ag k9 (λ_ _ h=>Y)⟩
 .rw[htk,yp,<-hbk,he];exact M7'.ah k9 Y
 .exact own7.bY k9 (λgg hg=>Yg) (own7.ae.ag k9 λb hb _=>Y)):p:=h
def aog(h:p:=by
 refine⟨by simp;omega,λt=>?_,rfl⟩;rw[xL];simp only[ate,asC];by_cases ht:t<args.length
 .rw[atZ (by simpa using ht)];simp
 .rw[Array.getElem?_append_right (by simp;omega),as1 Y];simp only[auk,au4];split<;>rfl):p:=h
def aoh(h:p:=by
 refine go<|cD (λp6=>?_) (λp6=>?_);rotate_left
 .refine kL (λh=>Bool.noConfusion h) λ_=>λ_ _=>⟨rfl,bad λh=>(by have:=fN.1 h;exact p6 (this.2.2.2.2.2.1 q3)),x3,rfl⟩
 refine kL (λ_=>?_) (λh=>Bool.noConfusion h);exact mD ⟨rfl,fN.2 ⟨p1,p2,p3,p4,p5,λ_=>p6,λq=>absurd q3 q⟩,x3⟩):p:=h
def LQ(h:p:=by
 rintro G _ u rfl;refine cD (λq=>Y) λ_=>ret ⟨rfl,rfl⟩):p:=h
def adt(h:p:=by
 by_cases e:a=k/\b=h
 .rw[asp e,asp (.inr ⟨e.2,Y⟩),e.1,e.2]
 .rw[aso e];by_cases q:b<h\/(b=h/\a<k)
  .rw[asp q,asp Y]
  .rw[aso q,aso Y]):p:=h
def aoi(h:p:=by
 unfold uS Instr.mapUpdate;have hkey:((L.toArray[n]?).map (·.key)).getD (kv a)=kv a:=by simp[hj,hy]
 simp only[asI,asX h1,asJ,atQ hb,hk.UA,hfn,hkey,Instr.keyThatStays,hk.bits,auM,atr,aub _ hb];rw[<-HO hj hy];simp):p:=h
def aoj(h:p:=by
 rw[asK,avD];refine⟨H.nd,by simp,λa ha b hb=>?_⟩;rw[asQ,au1,asP] at hb;subst hb;rintro rfl;obtain⟨h,hh,e2⟩:=asS.1 ha;obtain⟨e',he',hb',hk',-⟩:=(H.mem h).1 hh;have:=Sk hU he' he (by rw[hk',hk,e2]);subst this;exact hn hb'):p:=h
def W4(h:p:=by
 refine go ?_;exact aQ _ rfl ⟨bad (atl.2 λe=>by have:=cV.1 e;omega),h1.ae⟩):p:=h
def aok(h:p:=by
 rw[ke];obtain⟨hu,_⟩:=dF h.h;refine cW (x:=.bool A.isNone) (λw=>?_) ?_
 .refine ary ?_;intro h1 h2;simp only[asJ,asI,run_equal_slice_nil w t e A n c hu,atr]
 .cases A with
  |none=>exact k1 rfl
  |some a=>exact k2 (by simp)):p:=h
def LR(h:p:=by
 refine at8 (by simp) λi h1 h2=>by simp):p:=h
def TO(h:p:=by
 exact aQ (.bool false) rfl ⟨by unfold uw;rw[asG Y],x6⟩):p:=h
def TP(h:p:=by
 exact aQ (.bool false) rfl ⟨by unfold uw;rw[asG Y],x5⟩):p:=h
def TQ(h:p:=by
 exact aQ (.bool false) rfl ⟨by unfold uw;rw[asG Y],x4⟩):p:=h
def aol(h:p:=by
 refine go ?_;refine eA (hstep k x u5 hxk (hJ _ _ _ hj xu5) g hg (M.ah xu5 Yt)) ?_;rintro _ u6 ⟨rfl,j6,k6,M6⟩;refine go ?_;exact next (k+1) ⟨Yn,Yt⟩ ⟨Y,(B1.ae xu5).ah k6 hD1,(hdu.ae xu5).ah k6 λb _ h=>hDD b h,j6,M6⟩ Y):p:=h
def aom(h:p:=by
 refine go ?_;exact next (i+1) ⟨congrArg (Value.int .i64) Y,Yt⟩ ⟨.inl Y,f1,f2⟩ Y):p:=h
def W5(h:p:=by
 exact tK (.slice none 0 0) (iv 400) rfl rfl (.inl ⟨by rw[e];decide,by rw[e],own.ae⟩)):p:=h
def aon(h:p:=by
 refine⟨rfl,rfl,rfl,?_,λi hi hne=>?_⟩
 .show w.heap.size<=((w.heap.modify g _)++os).size;simp
 .show((w.heap.modify g _)++os)[i]? =w.heap[i]?;rw[atZ (by simpa using hi),avg,aso (λe=>hne e.symm)]):p:=h
def aoo(h:p:=by
 simp only[atb] at q;refine go ?_;refine next (k+1) ⟨Yn,Yt⟩ ⟨Y,xw.trans x2,λz hz=>?_⟩ Y;rw[asD,hy] at hz;rcases atf.1 hz with hz|hz
 .exact he z hz
 .rw[asP.1 hz];exact q):p:=h
def aop(h:p:=by
 refine aF func387 Z<|cD (λh=>?_) (λh=>?_)
 .refine apl ?_;intro y hy x hx;rw[pj] at hx hy;exact aQ (.int .u64 x) rfl ⟨by rw[show x=(n.natAbs:Int) from Y],rfl⟩
 .refine qP (n:=n.natAbs) Y Y<|aQ _ rfl ⟨rfl,rfl⟩):p:=h
def adu(h:p:=by
 rcases auG i listed.size with h'|h'
 .simp[h'] at h0 h1;rw[h0] at h1;cases h1
 .simp[avc h'] at h1):p:=h
def aoq(h:p:=by
 rw[hi];show(decide (last<x.no)&&(pA d e x&&lM d (ID e x) x.no (xs.drop (k+1))))=lM d (ID e x) x.no (xs.drop (k+1));have hno:0<=x.no:=by unfold pA at q;rw[asv] at q;exact(bO.1 q.1).1
 rw[q,asE Y];rfl):p:=h
def aor(h:p:=by
 subst e0;obtain⟨f,h1,h2⟩:=h _ hw;have:=yP (jI hm.h) hz.h (w:=w0) (show dw kv w0 g f from by obtain⟨L,c,hE,hf⟩:=h1;exact⟨L,c,⟨hE.au,hE.keys,hE.born⟩,hf⟩) a true;rw[gG,this,h2];exact⟨rfl,rfl⟩):p:=h
def aos(h:p:=by
 rw[show((0:Nat):Int)=0 from rfl,XT] at h;rw[e2];match k,h with
 |0,h=>injection h with h;injection h with _ h;subst h;show _=_;kernel_rfl
 |1,h=>injection h with h;injection h with _ h;subst h;show _=_;kernel_rfl
 |k+2,h=>cases h):p:=h
def aot(h:p:=by
 refine cD (λg=>?_) (λg=>?_)
 .exact aQ (.bool true) rfl ⟨by rw[<-tru ⟨⟨by show 1<=L;omega,g,by show 0<=c0;omega⟩,Y,Y,Y⟩],h1.ae⟩
 .exact aQ (.bool false) rfl ⟨by rw[<-fal λh=>g h.1.hi],h1.ae⟩):p:=h
def aou(h:p:=by
 have hlt:=(asV.1 hb).1;exact⟨⟨rfl,rfl,rfl,by simp[z],λb hb1 hne=>by show(w0.heap.setIfInBounds g _)[b]? =w0.heap[b]?;rw[at9 (λe=>hne e.symm)]⟩,by simp[z,hlt]⟩):p:=h
def aov(h:p:=by
 refine⟨SE (Q:=λ_ _=>True) hok hl4 (λ_ _=>Yt) gs gh,λy hy=>(hok.1 y (gs.mem hy)).2.2.2.1.1,?_⟩;exact(hok.2.sublist gs).imp_of_mem λ{a b} ha hb hab=>(wQ ((gh a ha).trans (gh b hb).symm)).1 hab):p:=h
def aow(h:p:=by
 rintro G2 k2 A n c y ⟨hk2,hn,o⟩;refine cD (λhlt=>?_) (λhge2=>?_)
 .refine aru ?_;intro s h1 h2 h3 b1 s1 s2 s3 A' c' y2 o2 kk hA;exact o2
 .rw[asx Y] at o;exact aQ _ rfl ⟨A,n,c,rfl,o⟩):p:=h
def W6(h:p:=by
 refine aQ _ rfl ⟨⟨-1,rfl,?_⟩,xw⟩;rw[he,as8 Y];simp):p:=h
def adv(h:p:=by
 unfold Op.equal;rw[show Op.maxDepth=(Op.maxDepth-1)+1 from rfl];rw[Op.equalIn,asI,asX hu];rfl):p:=h
def aox(h:p:=by
 have hx0:os=[]:=asL Y;subst hx0;have hm0:m=0:=hm;subst hm0;refine aJ R8 ?_;rintro _ u2 ⟨rfl,rfl⟩;refine ret ⟨none,0,0,rfl,?_⟩;rw[<-hs2];exact bu.nil (xu.trans own.ae)):p:=h
def adw(h:p:=by
 rw[as9,auy] at o2;exact aQ (.slice A' (0+n) c') rfl ⟨A',c',by rw[as9],o2⟩):p:=h
def aoy(h:p:=by
 refine kL (λh=>Bool.noConfusion h) (λ_=>?_);exactλF' hF'=>lQ (R:=λv w'=>v=iv (fC d xs)/\ax w w') (hF' 4 rfl) (B4.ae (x42)) λw' k=>⟨by rw[b2 Y],fin (x42) w' k⟩):p:=h
def adx(h:p:=by
 refine go ?_;exact next (k+1) ⟨Yn,Yt⟩ (skip (nop (by unfold Vw;rw[asG];omega))) Y):p:=h
def Pw(h:p:=by
 obtain⟨g,h1,h2⟩:=h;exact⟨g,h1,h2.ae k⟩):p:=h
def aoz(h:p:=by
 refine art ?_;intro hds hperm kq;intro a b ha hb' hab;refine Zl ?_;intro ha' hb'' h1;rw[auZ d' b hb'',auZ d' a ha'] at h1;rw[avo,avo];exact h1):p:=h
def aoA(h:p:=by
 rintro _ w1 ⟨rfl,hb,hk⟩;refine aM (λ_:Unit=>[(6,iv 20)]) (λ_ u=>w1=u) (λ_ _=>0) () ⟨rfl,Yt⟩ rfl rfl ?_;rintro G2 _ u rfl;refine cD (λq=>Y) λ_=>ret ⟨rfl,hb,hk⟩):p:=h
def aoB(h:p:=by
 refine kL (λh=>Bool.noConfusion h) λ_=>λ_ _=>⟨rfl,bad λh=>?_,x3,rfl⟩;have:=((fN.1 h).2.2.2.2.2.2 q3).2.2;rw[ey,ey'] at this;rcases this with q|q
 .exact p8 q
 .exact p9 q):p:=h
def W7(h:p:=by
 exact xk.put I (h15 Yd) Yd hq.ae ⟨g,rfl,hq.aS⟩):p:=h
def aoC(h:p:=by
 refine bN (.refl _ _) ?_;refine eD (n:=(k:Int)+1) Y ?_;exact next (k+1) ⟨Yn,Yt⟩ ⟨Y,x32,pG.step hx hO hok (.inl Y)⟩ Y):p:=h
def ari(h:p:=by
 exact aQ (.bool false) rfl ⟨by rw[fE];unfold mq;rw[aso q1,aso q2,asp q3,hb],x03⟩):p:=h
def ady(h:p:=by
 rcases atf.1 hy with h|h
 .exact hE.keys y h
 .simp at h;subst h;exact⟨a,rfl⟩):p:=h
def aoD(h:p:=by
 rw[show((0:Nat):Int)=0 from rfl,XT] at h;match k,h with
 |0,h=>injection h with h;injection h with h;cases h
 |1,h=>injection h with h;injection h with h;cases h
 |k+2,h=>cases h):p:=h
def aoE(h:p:=by
 refine amB x2<|cD (λq=>?_) (λq=>?_)
 .exact aQ (.bool true) rfl ⟨by rw[asE Y],x2⟩
 .exact aQ (.bool false) rfl ⟨by rw[asG Y],x2⟩):p:=h
def aoF(h:p:=by
 simp only[aso e];have o':=(h3 q).bY k (λb hb e2=>h4 r q (λh=>e h.symm) b e2 hb) o.ae;exact o'.bY k5 (λb hb e2=>xV o' M4 (by rw[<-e2];exact hb)) x):p:=h
def aoG(h:p:=by
 unfold uS Instr.mapUpdate;simp only[asI,asX h1,asJ,atQ hb,hk.UA,hfn,aub _ hb,atr];simp):p:=h
def W8(h:p:=by
 exact tK (iv 0) (iv 1) rfl rfl ⟨by rw[bad hv Y];rfl,x12⟩):p:=h
def W9(h:p:=by
 split at h
 .cases h
 .split at h
  .assumption
  .cases h):p:=h
def adz(h:p:=by
 exact next (k+1) ⟨Yn,Yt⟩ ⟨Y,rfl⟩ Y):p:=h
def aoH(h:p:=by
 refine eA st ?_;rintro _ u2 (⟨rfl,hj2,k2⟩|⟨rfl,hq⟩)
 .refine go ?_;exact next (k+1) ⟨Yn,Yt⟩ ⟨Y,hj2,k2⟩ Y
 .exact mD (.inr hq)):p:=h
def adA(h:p:=by
 rcases atD n with q|q
 .exact q
 .obtain⟨b,o,e,-⟩:=hs.2 q;cases e):p:=h
def adB(h:p:=by
 exact aQ (.bool false) rfl ⟨by rw[<-fal λh=>by have:=lhi h.1;omega],h1.ae⟩):p:=h
def aoI(h:p:=by
 obtain⟨F',hg',hd,hk⟩:=hq;have hk:=hk a'.tmps w' hg'.2.1 rfl;cases e with
 |normal=>exact⟨hd,u',rfl,hk⟩
 |ret=>exact⟨hd,u',rfl,hk⟩
 |_=>exact hk.elim):p:=h
def adC(h:p:=by
 exact aQ (.slice none 0 0) rfl ⟨none,0,rfl,by rw[hx];exact .nil (.refl _ _)⟩):p:=h
def aoJ(h:p:=by
 rcases H.og o ho with h1|⟨h1,h2⟩
 .exact .inl h1
 .refine .inr ⟨h1,?_⟩;rcases h2 with h2|⟨h2,h3⟩
  .exact .inl h2
  .exact .inr ⟨h2,Y⟩):p:=h
def aoK(h:p:=by
 rcases o.form with⟨e,-⟩|⟨g',e,h1,h2,-⟩
 .rw[e] at hg;cases hg
 .rw[e] at hg;injection hg with hg;injection hg with hg;subst hg;exact hD _ h1 h2):p:=h
def arj(h:p:=by
 exact aQ _ rfl ⟨by rw[fE];unfold mq;rw[aso q1,asp q2,hb];rfl,x03⟩):p:=h
def adD(h:p:=by
 unfold bL;rw[asC,at7];split<;>rfl):p:=h
def aoL(h:p:=by
 refine arz ?_;intro v5 C5 k5 z5;exact⟨x05.ag k5 λb hb _ e=>Y,.inl ⟨by rw[bad Y];decide,by rw[bad Y];rfl⟩⟩):p:=h
def aoM(h:p:=by
 go_wp2;go_ret;refine⟨rfl,0,#[Obj.cells #[Value.int .i64 x0,Value.int .i64 x1,Value.int .i64 x2,Value.bool x3] 114],?_⟩;rw[alloc_eq_grow];rfl):p:=h
def aoN(h:p:=by
 simp only[atb] at g;refine eD (by have:=h.le;omega)<|next (k+1) ⟨Yn,Yt⟩ ⟨Y,xw.trans x2,?_⟩ Y;rw[he,g];rfl):p:=h
def aoO(h:p:=by
 rcases atD k with q0|q0
 .rw[q0,hr,au7,asp (asE rfl),atg] at ht;cases ht
 .exact q0):p:=h
def TR(h:p:=by
 rw[e] at hg;injection hg with hg;injection hg with hg;exact .inr Y):p:=h
def XY(h:p:=by
 by_cases hi:i<l.length
 .exact H2 h hi
 .unfold bL;rw[asC,as1 Y];exact⟨asO _,Yd⟩):p:=h
def XZ(h:p:=by
 refine Zi ?_;exact mD ⟨rfl,fN.2 ⟨p1,p2,p3,p4,p5,λq=>absurd q q3,λ_=>⟨p6,p7,.inr (by rw[ey,ey'];exact p9)⟩⟩,x3⟩):p:=h
def X0(h:p:=by
 rcases o9.form with⟨e,-⟩|⟨g',e,h1',h2',-⟩
 .rw[e] at hg;cases hg
 .exact Dx):p:=h
def TU(h:p:=by
 show((W.heap.push _).push _).size=_;rw[at5,at5]):p:=h
def X1(h:p:=by
 unfold cJ;rw[awe];show List.replicate n (iv 0)=(List.replicate n [iv 0]).flatten;rw[avL]):p:=h
def X2(h:p:=by
 exact aQ _ rfl ⟨by rw[fE];unfold mq;rw[asp q1,hb];rfl,x03⟩):p:=h
def TW(h:p:=by
 exact aQ _ rfl ⟨by unfold GG;rw[asG Y];rfl,a1.ae⟩):p:=h
def X3(h:p:=by
 rw[asC,auc];by_cases h:i=j
 .exact Yg
 .rw[aso h,aso h,<-asC]):p:=h
def X4(h:p:=by
 have e:rQ d i=1:=by rw[e0,aso Y]
 exact xN (iv 0) (iv 0) (iv 1) rfl rfl rfl ⟨xx,.inl ⟨by rw[e];decide,by rw[e]⟩⟩):p:=h
def TX(h:p:=by
 refine aQ _ rfl ⟨?_,xu⟩;rw[e1,he,as8 Y];rfl):p:=h
def X5(h:p:=by
 by_cases hq:c0<c\/(c=c0/\i<=i0)
 .rw[Bw h hq] at h1|-;unfold xP;omega
 .rw[Kp h hq] at h1|-;unfold xP;omega):p:=h
def X6(h:p:=by
 by_cases hq:c<c0\/(c=c0/\i0<=i)
 .rw[FY h hq] at h1|-;unfold xP;omega
 .rw[Kq h hq] at h1|-;unfold xP;omega):p:=h
def X7(h:p:=by
 unfold Xe at hk;rw[lV] at hk;obtain⟨w2,h1,h2⟩:=hk;exact jv (R:=R) (λ_ _ h=>h) hg'.2.1 _ _ _ h1 h2):p:=h
def X8(h:p:=by
 show(bif xI j (writes c) then F j else F0 j)=F j;cases hb:xI j (writes c) with
 |true=>rfl
 |false=>exact(hf j hb).symm):p:=h
def X9(h:p:=by
 cases ok with
 |true=>exact mD ⟨rfl,rfl,rfl⟩
 |false=>
  refine mkI rfl Z<|abk rfl<|λ_ _=>⟨rfl,rfl,rfl,rfl⟩):p:=h
def Ny(h:p:=by
 rw[as6,atU h];rfl):p:=h
def Ya(h:p:=by
 have e1:=h1.au;have e2:=h2.au;have s1:=h1.size;exact ret ⟨b2,b3,rfl,h1.ae.trans h2.ae,h1.aS.ae h2.ae,h2.aS,Y,Y⟩):p:=h
def TY(h:p:=by
 by_cases q:b<h+1
 .rw[asp Y,asp Y]
 .rw[aso Y,aso Y]):p:=h
def Yb(h:p:=by
 simp only[asS,at6,as0,asy,atm];constructor
 .exact Yg
 .exact Yg):p:=h
def Yc(h:p:=by
 exfalso;have:xs=[]:=asL Y;rw[this] at hsm;rw[hsm] at smp;exact absurd smp Yd):p:=h
def Ye(h:p:=by
 apply aK.mono h;rintro v w' ⟨rfl,s',hp,hs',hb',k⟩;rw[uR CG MH hp hd hs'] at hb';exact⟨rfl,hb',k⟩):p:=h
def TZ(h:p:=by
 exact aQ (.bool false) rfl ⟨by rw[<-fal λh=>Y],h1.ae⟩):p:=h
def Yf(h:p:=by
 refine hfree k ok hk hki ?_ hno;by_cases hjk:j=k
 .subst hjk;exact hjun
 .rw[getD_set_ne true hjk] at hun;exact hun):p:=h
def Yh(h:p:=by
 refine Zi ?_;exact mD ⟨rfl,fN.2 ⟨p1,p2,p3,p4,p5,λq=>absurd q q3,λ_=>⟨p6,p7,.inl p8⟩⟩,x3⟩):p:=h
def T7(h:p:=by
 simp only[atb] at g;refine Un ?_;rw[he,g];rfl):p:=h
def Yi(h:p:=by
 rw[asw hj'];exact h.ai (by rw[asR hj',asw hj'])):p:=h
def Yj(h:p:=by
 by_cases e:q=(y.aZ,x.aH)
 .rw[asp e,asp e,e,<-hV0];rfl
 .rw[aso e,aso e,aso e];exact hfk q):p:=h
def Ua(h:p:=by
 exact xk.put I (h15 Yd) Yd (.refl _ _) rfl):p:=h
def Yk(h:p:=by
 refine ret ⟨rfl,?_,ku⟩;rw[asx Y,as8 Y,asT] at hb;exact hb):p:=h
def Nz(h:p:=by
 rw[e1,e2];unfold cJ;rw[awe]):p:=h
def Ub(h:p:=by
 refine aph ?_;intro w4 B4 k4;exact bad 1 (one Y) Yd w4 k4):p:=h
def Ym(h:p:=by
 rintro W cs ⟨a,b,c,d⟩ ⟨_,_,rfl,⟨rfl,-⟩,_,_,rfl,⟨rfl,-⟩,_,_,rfl,⟨rfl,-⟩,⟨rfl,-⟩⟩;rfl):p:=h
def Yo(h:p:=by
 rintro _ _ ⟨⟨k,rfl⟩,rfl⟩;apply aJ ab1;rintro _ w1 ⟨rfl,rfl⟩;exact ret ⟨rfl,rfl⟩):p:=h
def Uc(h:p:=by
 exact aQ _ rfl ⟨false,rfl,λh=>(by cases h),x23⟩):p:=h
def Yp(h:p:=by
 exact at0 (eP (r:=none) y hok2.2 _ _ _ w1 _ (.inl rfl) hg2 hk) λe a' w' hq=>N3 hq):p:=h
def Yq(h:p:=by
 exact ret ⟨x02,none,0,0,by rw[e0];rfl,λh0=>(by rw[e0] at h0;cases h0),λ_=>⟨rfl,rfl,rfl⟩⟩):p:=h
def Yr(h:p:=by
 exact atN.2 ((avp _ List.nodup_range).imp λh e=>h (by injection e))):p:=h
def Yu(h:p:=by
 refine go ?_;exact next (k2+1) ⟨Yn,Yt⟩ ⟨Y,rfl⟩ Y):p:=h
def Yv(h:p:=by
 refine go ?_;exact next (i+1) ⟨congrArg (Value.int .i64) Y,Yt⟩ ⟨.inl Y,k1,l2,hl2,hb2⟩ Y):p:=h
def Yw(h:p:=by
 obtain⟨⟨m,h1,h2⟩,h3,h4⟩:=h;exact⟨⟨m,h1.ah k Yt,h2⟩,λr=>(h3 r).ag k,h4⟩):p:=h
def Yx(h:p:=by
 show _=[iv cm.right,iv cm.aO,iv cm.aH,iv cm.aC,iv cm.cC,iv (Le d cm)];rw[hcut,hfi];rfl):p:=h
def Yy(h:p:=by
 rw[show(9999:Nat)=9998+1 from rfl];unfold Instr.checkKey;rw[asI,asX h.ue];rfl):p:=h
def YA(h:p:=by
 simp only[auF,as0,aus];constructor
 .exact Yg
 .exact Yg):p:=h
def YB(h:p:=by
 obtain⟨s,h1,h2,h3⟩:=au k Y;refine arx ?_;intro b1 b2 q;rw[h2,Fi,asA];rfl):p:=h
def Ud(h:p:=by
 unfold cJ at this;rw[asz] at this;omega):p:=h
def YC(h:p:=by
 refine st1 B10 rfl λw4 B4 k4=>ret<|da _ (bj (B4.ai rfl))<|bad 1 (one Y) Yd w4 k4):p:=h
def YD(h:p:=by
 unfold dX;rw[asp ⟨Z,Yd⟩];exact⟨⟨⟨Yd,Yd,Yd⟩,Yd,Yd⟩,Z⟩):p:=h
def YE(h:p:=by
 refine aQ (.bool false) rfl ⟨bad λh=>?_,x3⟩;have:=iff3.1 (iff2.1 h);simp[this] at b):p:=h
def YF(h:p:=by
 rw[ate,Array.getElem?_setIfInBounds_self_of_lt hrd.1] at e;cases e):p:=h
def YG(h:p:=by
 subst hji;exact hy.Ed hi Yt ⟨λhb=>hS (by rw[rh hiB] at hb;exact hb),H⟩):p:=h
def YH(h:p:=by
 exact cW (λw=>by rw[asI,g];simp[binOp,Op.shift,Int.not_lt.2 h.1]) h.2):p:=h
def YI(h:p:=by
 unfold dZ;by_cases e:q=r
 .simp only[asp e];rfl
 .simp only[aso e];exact hm q):p:=h
def YJ(h:p:=by
 exact xk.put I (h15 Yd) Yd hq.ae ⟨g,a,rfl,hq.aS,hb.ae hq.ae⟩):p:=h
def YK(h:p:=by
 rename_i hk;simp only[hk];cases want with
 |true=>simpa using h
 |false=>simpa using h):p:=h
def YL(h:p:=by
 have:=o.bY k5 (λb hb e2=>xV o M4 (by rw[<-e2];exact hb)) x;simpa using this):p:=h
def YM(h:p:=by
 refine s_1 ?_;exact aQ _ rfl ⟨bad λhk=>by have:=(hsn hk).1.2.2.2.1;omega,x2⟩):p:=h
def YN(h:p:=by
 obtain⟨c,hc,rfl⟩:=asS.1 hv;have:=h c (as0.1 hc);split<;>omega):p:=h
def YO(h:p:=by
 rw[as1 Y,as1 (by rw[aum];omega)]):p:=h
def YP(h:p:=by
 refine s_1 ?_;exact aQ _ rfl ⟨bad λhk=>by have:=(hsn hk).1.2.2.1;omega,x2⟩):p:=h
def Ue(h:p:=by
 exact⟨e',he',atO _ hb',r⟩):p:=h
def Uf(h:p:=by
 rw[bz (K:=4) (λ_=>rfl)] at this;omega):p:=h
def YQ(h:p:=by
 unfold dZ;rw[asp rfl];show(fk (y.aZ,x.aH)).getD (iv 0)=iv V0;rw[hfk,hV0]):p:=h
def YR(h:p:=by
 refine s_1 ?_;exact aQ _ rfl ⟨bad λhk=>by have:=(hsn hk).1.2.1;omega,x2⟩):p:=h
def YS(h:p:=by
 refine next (k+1) ⟨Yn,Yt⟩ ⟨Y,x7.trans x8,?_⟩ Y;rw[he,hq];rfl):p:=h
def YT(h:p:=by
 exact aQ _ rfl ⟨by unfold uH;rw[hok,hi];rfl,h1.ae.trans (x2.trans x3)⟩):p:=h
def Ug(h:p:=by
 by_cases h1:cH d=0
 .exact Yg
 .exact Yg):p:=h
def YU(h:p:=by
 refine s_1 ?_;exact aQ _ rfl ⟨bad λhk=>by have:=(hsn hk).1.1;omega,x2⟩):p:=h
def YV(h:p:=by
 exact ret ⟨x02,none,0,0,by rw[e0];rfl,λh0=>absurd (e0.symm.trans h0) q⟩):p:=h
def YW(h:p:=by
 rw[asQ,bK,as2,asA,atX];omega):p:=h
def YX(h:p:=by
 refine bN x3 ?_;exact aQ _ rfl ⟨bad λ_=>q,(xw.trans xu2).trans x3⟩):p:=h
def YY(h:p:=by
 unfold isAgg;rw[asI,asX hd];cases d<;>first|rfl|cases he):p:=h
def YZ(h:p:=by
 subst q;rw[hk] at h;injection h with h;injection h with _ h;exact absurd h e):p:=h
def Y0(h:p:=by
 have oa3:∀g,Az3=some (ad g 0)->A9=some (ad g 0)\/v6.heap.size<=g:=λg hg=>by
  rcases hA3 with e|e
  .rcases oa2 g (e▸hg) with e2|e2
   .exact nn5 g e2
   .exact .inr Y
  .rw[e] at hg;cases hg
 have lbn:∀B:bZ,(∀g,B=some (ad g 0)->A9=some (ad g 0)\/v6.heap.size<=g)->B≠some (ad (u5.heap.size+1) 0):=λB hB e=>by
  rcases hB _ e with e2|e2
  .have:=o9lt _ e2;omega
  .omega
 have b10n:∀B:bZ,(∀g,B=some (ad g 0)->A9=some (ad g 0)\/v6.heap.size<=g)->B≠some (ad b10 0):=λB hB e=>by
  rcases hB _ e with e2|e2
  .have:=o9lt _ e2;omega
  .omega
 have k47:aj (λx=>x≠b10/\Ad≠some (ad x 0)) z4 z7:=((kA.cU λ_ _ hh=>hh.2).ag kz3 λb hb hh=>na2 b hb hh.2).ag kz7 λ_ _ hh=>hh.1;have lz7:=lz.ah k47 ⟨Y,lbn Ad nn5⟩;refine eQ _ lz7 (λz8 kz8 lz8=>?_);have ka:aj (λx=>x≠b10/\x≠u5.heap.size+1/\Ad≠some (ad x 0)) z z8:=((kzz.cU λ_ _ hh=>hh.2.1).ag k47 λ_ _ hh=>⟨hh.1,hh.2.2⟩).ag kz8 λ_ _ hh=>hh.2.1;have xz7:ax w z7:=oz3.ae.ag kz7 λb hb _=>Y;have oz7:=oz3.bY kz7 (λg hg e=>b10n Az3 oa3 (by rw[hg,e])) xz7;have xz8:ax w z8:=xz7.ag kz8 λb hb _=>Y;refine⟨rfl,⟨k5.ag ka λb hb hh=>⟨hh.1,hh.2.1,λe=>?_⟩,lz8,Az3,nz3,cz3,qz7.ah kz8 Y,?_,oa3⟩,ka.cU λb hb hh=>?_⟩
 .rcases nn5 b e with e2|e2
  .exact hh.2.2 e2
  .omega
 .have hsn:(mV js a.aH).take (mm+1)=(mV js a.aH).take mm++[x]:=by rw[asD,hx];rfl
  rw[hsn,OS];exact oz7.bY kz8 (λg hg e=>lbn Az3 oa3 (by rw[hg,e])) xz8
 .rcases hh with rfl|rfl|hh
  .exact Zf
  .exact Zf
  .exact⟨Y,Y,λe=>by have:=o5.new b e;omega⟩):p:=h
def Y1(h:p:=by
 have MKz:=(MKu.ah (xu5.trans x6) Yt).ah k56 ⟨Y,Y,n9o gk Y⟩;refine go ?_;have hkk:x.kind=1\/x.kind=2\/x.kind=3\/x.kind=4:=Y;have tyB:∀y:Cm,y∈pE ((mV js a.aH).take mm) (r.take k)->0<=y.aC/\y.aC<=4398046511104:=λy hy=>GIm.PF.lit hy;rcases hkk with hk|hk|hk|hk
 .refine dh (kv:=fY) x.kind (.func (.func 320) #[] #[]) (λz' hz=>by subst hz;exact⟨fk,MKz,by rw[hk,f1];rfl⟩)<|go<|aJ (IZ oz tyB hxn Y) ?_;exact Ze
 .refine dh (kv:=fY) x.kind (.func (.func 320) #[] #[]) (λz' hz=>by subst hz;exact⟨fk,MKz,by rw[hk,f2];rfl⟩)<|go<|aJ (IZ oz tyB hxn Y) ?_;exact Ze
 .exact g_3
 .refine dh (kv:=fY) x.kind (.func (.func 322) #[] #[]) (λz' hz=>by subst hz;exact⟨fk,MKz,by rw[hk,f4];rfl⟩)<|go<|bW Wg (λz5 xfine=>?_);have hdo:sf x (pE ((mV js a.aH).take mm) (r.take k))=pE ((mV js a.aH).take mm) (r.take k):=by unfold sf;rw[aso Y,aso Y]
  have oz2:=oz.ag xfine;rw[<-hdo] at oz2;have kA:aj (λb=>Ad≠some (ad b 0)) z4 z5:=ax.any xfine;exact g_0):p:=h
def uB(h:p:=by
 exact aQ (.bool false) rfl ⟨by rw[FV.2 Y],rfl⟩):p:=h
def Uh(h:p:=by
 refine aQ _ rfl ⟨.inr ⟨k,rfl,Y,?_⟩,xw.trans x2⟩;simp only[atj] at g;rw[htk,atp,he,au8 (by simp[g])];simp):p:=h
def Dx(h:p:=by
 rw[e] at hg;injection hg with hg;injection hg with hg;omega):p:=h
def NA(h:p:=by
 rw[asu,bz hK,hcl,<-hbl,asu,bz hK];omega):p:=h
def Y2(h:p:=by
 refine go ?_;refine cE (λp4=>?_) (λp4=>?_);rotate_left
 .exact JQ
 refine go ?_;refine cE (λp5=>?_) (λp5=>?_);rotate_left
 .exact JQ
 exact aQ (.bool true) rfl ⟨by unfold uw;rw[asE Y],x7⟩):p:=h
def Y3(h:p:=by
 refine cE (λq2=>?_) (λq2=>?_)
 .exact arj
 refine cE (λq3=>?_) (λq3=>?_)
 .exact ari
 exact g_2):p:=h
def Y4(h:p:=by
 refine o7.own.rd (a:=cO) (fX hwI) (by rw[xa];exact hn7) (by have:=fp.f;omega) λg hg=>?_;rcases o7.form with⟨e',-⟩|⟨g',e',h1,h2,-⟩
 .rw[e'] at hg;cases hg
 .exact LP):p:=h
def Y5(h:p:=by
 rcases nw2 with e|e|⟨g',e,hg'⟩
 .exact .inl (e▸hg)
 .rw[e] at hg;cases hg
 .rw[e] at hg;injection hg with hg;injection hg with hg;exact .inr Y):p:=h
def Y6(h:p:=by
 rw[htk,atp,<-hc1,auA q];rw[asD,auq Y,av1 (asN _)];rfl):p:=h
def Ui(h:p:=by
 rw[List.drop_set_of_lt Y,<-av6,hc2,av6]):p:=h
def Y7(h:p:=by
 refine gv (λ_=>True) Yt ?_;refine go ?_;have hj1:j=0:=Y;subst hj1;obtain⟨f1,f2⟩:=fin u1 rfl (.refl _ _);exact aom):p:=h
def Uj(h:p:=by
 rcases nn5 g hg with e2|e2
 .have:=o9lt _ e2;omega
 .omega):p:=h
def Uk(h:p:=by
 rw[htk,atp,he,auA g];rfl):p:=h
def Y8(h:p:=by
 obtain⟨F',hg',hk⟩:=hq;cases e with
 |normal=>
  exact aod
 |ret=>
  exact aod
 |_=>exact hk.elim):p:=h
def Y9(h:p:=by
 refine⟨congrArg Ending.returned ?_,rl⟩;first|rfl|(show Value.int .i64 0=.int .i64 r;rw[e])):p:=h
def Za(h:p:=by
 refine⟨Y,Y,λe=>?_⟩;rcases(nn5 _ e).2 with e2|e2
 .have:=oB _ e2;omega
 .omega):p:=h
def Zb(h:p:=by
 refine aQ _ rfl ⟨.inl ⟨rfl,?_⟩,xw⟩;rw[asx Y] at he;exact he):p:=h
def Zc(h:p:=by
 rcases o.form with⟨e',-⟩|⟨g',e',-,h2,-⟩
 .rw[e'] at hg;cases hg
 .exact LP):p:=h
def Zd(h:p:=by
 obtain⟨f1,f2⟩:=fin u2 (by rw[hins2,hlt2,asG hyx];rfl) x2;exact aom):p:=h
def Ze(h:p:=by
 rintro _ z5 ⟨rfl,oz2,kA⟩;have hdo:sf x (pE ((mV js a.aH).take mm) (r.take k))=jY x.aO x.n (pE ((mV js a.aH).take mm) (r.take k)):=by unfold sf;rw[asp Y]
 rw[<-hdo] at oz2;exact g_0):p:=h
def Zf(h:p:=by
 refine⟨Y,Y,λe=>?_⟩;rcases nn5 _ e with e2|e2
 .have:=o9lt _ e2;omega
 .omega):p:=h
def Zg(h:p:=by
 refine go ?_;refine cE (λq1=>?_) (λq1=>?_)
 .exact X2
 exact Y3):p:=h
end Go.Proofs.YtakcjkbnfegidaaGreat
