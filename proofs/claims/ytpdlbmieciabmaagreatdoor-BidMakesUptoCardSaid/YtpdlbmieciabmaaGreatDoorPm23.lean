/-What is proved here:several parts. words,right lots and quality texts,by the reference's code. Conditions:the text is short,the numbers are ints. · equal lists of ints,lots,rebates,shares are found equal,by the reference's code. Conditions:there are few. -/
import Derived.Test.YtpdlbmieciabmaaGreatDoorPm15
import Derived.Test.YtpdlbmieciabmaaGreatDoorPm17
import Derived.Test.YtpdlbmieciabmaaGreatDoorPm18
import Derived.Test.YtpdlbmieciabmaaGreatDoorPm19
import Derived.Test.YtpdlbmieciabmaaGreatDoorPm22
import Derived.Deep.DeepCutAuto
import Derived.BigRegion
import Derived.Deep.Quiet
namespace Go.Proofs.YtpdlbmieciabmaaGreatDoor
open Go.RowKit Go.Shelf
set_option maxRecDepth 100000 in
set_option maxHeartbeats 1000000 in
theorem rword16_any(s:ByteArray)(hs:s.size≤4000000000)(w:World):Calls Tryz.prog 80 #[.string s] w fun e w' =>e= .returned (.bool (isWordL s.data.toList))∧w' =w:=by
 have hsl:=size_list s
 obtain⟨L,eL⟩:∃L,L=s.data.toList:=⟨_,rfl⟩
 rw[←eL] at hsl⊢
 have EL:=Lib.hid eL
 have HSL:=Lib.hid hsl
 clear eL hsl
 go_enter Tryz.func80,Tryz.ntmps80
 go_wp2_with fail
 go_loopw [3] (fun i wr=>∃k:Nat,i= .int .i64 k∧k≤s.size∧(L.take k).all isLet=true∧wr=w) (fun i _=>s.size-(intOf i).toNat)
 case atStart=>exact⟨0,rfl,Nat.zero_le _,by simp,rfl⟩
 case round=>
  obtain⟨k,rfl,hk,hall,rfl⟩:=hrel
  have HALL:=Lib.hid hall
  clear hall
  by_cases hlt:k<s.size
  ·obtain⟨c,hc⟩:∃c,s[k]=c:=⟨_,rfl⟩
   have hg:=str_get s k hlt
   rw[hc,←EL.out] at hg
   have HG:=Lib.hid hg
   have ik:(k:Int)<(s.size:Int):=by omega
   have k0:(0:Int)≤(k:Int):=by omega
   clear hg
   cases hl:isLet c with
   |true=>
    have h1:=of_decide_eq_true hl
    have d1:¬(c.toNat:Int)<97:=by omega
    have d2:¬(122:Int)<(c.toNat:Int):=by omega
    have wk:IntKind.i64.wrap ((k:Int)+1)=(k:Int)+1:=IntWalk.i64_in _ (by omega)
    have HNX:Hid ((L.take (k+1)).all isLet=true):=Lib.hid (by rw[List.take_add_one,HG.out,Option.toList_some,List.all_append,HALL.out,List.all_cons,hl];rfl)
    clear h1 hl
    go_wp2_with fail
    go_roundw
    case rel=>exact⟨k+1,by go_num,by omega,HNX.out,by first|rfl|trivial⟩
    case measure=>simp[intOf];omega
   |false=>
    have hf:isWordL L=false:=by
     unfold isWordL
     have h2:L.all isLet=false:=by
      rw[List.all_eq_false]
      exact⟨c,List.mem_of_getElem? HG.out,by rw[hl];decide⟩
     rw[h2,Bool.and_false]
    have h1:=of_decide_eq_false hl
    have HF:=Lib.hid hf
    clear hf hl
    by_cases d1:(c.toNat:Int)<97
    ·clear h1
     go_wp2_with fail
     go_ret
     exact⟨by rw[HF.out];rfl,rfl⟩
    ·have d2:(122:Int)<(c.toNat:Int):=by omega
     clear h1
     go_wp2_with fail
     go_ret
     exact⟨by rw[HF.out];rfl,rfl⟩
  ·obtain rfl:k=s.size:=by omega
   have ik:¬(s.size:Int)<(s.size:Int):=by omega
   have hall:=HALL.out
   rw[List.take_of_length_le (by rw[HSL.out];exact Nat.le_refl _)] at hall
   have hf:isWordL L=decide (0<s.size):=by
    unfold isWordL
    rw[hall,Bool.and_true]
    have h3:=HSL.out
    cases hL:L with
    |nil=>
     rw[hL,List.length_nil] at h3
     rw[h3]
     rfl
    |cons c l=>
     rw[hL,List.length_cons] at h3
     rw[h3]
     simp
   have HF:=Lib.hid hf
   clear hall hf
   go_wp2_with fail
   go_ret
   exact⟨by rw[HF.out];rfl,rfl⟩
set_option maxRecDepth 100000 in
set_option maxHeartbeats 1000000 in
theorem rright16_any(es:List En)(hn:∀e∈es,∀v∈e.values,v.name.size≤4000000000)(_hlen:es.length≤1000000000)(v:Value)(w:World)(h:EnSl w v es):Calls Tryz.prog 52 #[v] w fun e w' =>e= .returned (.bool (rightL es))∧w' =w:=by
 obtain⟨A,cap,rfl,hc1,hc2,hat⟩:=en_at h
 have HAT:=Lib.hid hat
 have HN:=Lib.hid hn
 clear hat h hn
 go_enter Tryz.func52,Tryz.ntmps52
 go_wp2_with fail
 go_loopw [3] (fun i wr=>∃k:Nat,i= .int .i64 k∧k≤es.length∧rightL (es.take k)=true∧wr=w) (fun i _=>es.length-(intOf i).toNat)
 case atStart=>exact⟨0,rfl,Nat.zero_le _,rfl,rfl⟩
 case round=>
  obtain⟨k,rfl,hk,hr,rfl⟩:=hrel
  have HR:=Lib.hid hr
  clear hr
  by_cases hlt:k<es.length
  ·obtain⟨x,hx⟩:∃x,es[k]? =some x:=⟨_,List.getElem?_eq_getElem hlt⟩
   obtain⟨g,o,u,rfl,hg,c0,c1,c2,c3,c4,hvs⟩:=HAT.out k x hx
   obtain⟨A2,cap2,rfl,hd1,hd2,hvat⟩:=vl_at hvs
   have HX:=Lib.hid hx
   have HV:=Lib.hid hvat
   have ik:(k:Int)<es.length:=by omega
   have k0:(0:Int)≤(k:Int):=by omega
   have hxm:=Lib.hid (List.mem_of_getElem? hx)
   have wk:IntKind.i64.wrap ((k:Int)+1)=(k:Int)+1:=IntWalk.i64_in _ (by omega)
   clear hx hvat hvs c0 c1 c2 c3
   go_wp2_with fail
   go_loopw [4] (fun i w2=>∃j:Nat,i= .int .i64 j∧j≤x.values.length∧((x.values.take j).all fun v=>goodN v.name.data.toList)=true∧w2=wr) (fun i _=>x.values.length-(intOf i).toNat)
   case atStart=>exact⟨0,rfl,Nat.zero_le _,rfl,rfl⟩
   case round=>
    obtain⟨j,rfl,hj,hr2,rfl⟩:=hrel
    have HR2:=Lib.hid hr2
    clear hr2
    by_cases hlj:j<x.values.length
    ·obtain⟨y,hy⟩:∃y,x.values[j]? =some y:=⟨_,List.getElem?_eq_getElem hlj⟩
     obtain⟨g2,o2,rfl,hg2,d0,d1⟩:=HV.out j y hy
     have ij:(j:Int)<x.values.length:=by omega
     have j0:(0:Int)≤(j:Int):=by omega
     have hyn:=HN.out x hxm.out y (List.mem_of_getElem? hy)
     have wj:IntKind.i64.wrap ((j:Int)+1)=(j:Int)+1:=IntWalk.i64_in _ (by omega)
     have HY:=Lib.hid hy
     clear hy d1
     go_wp2_with fail
     refine(rword16_any y.name hyn _).mono ?_
     rintro e w1 ⟨rfl,rfl⟩
     cases hw:isWordL y.name.data.toList with
     |false=>
      have hf:rightL es=false:=not_right hxm.out (List.mem_of_getElem? HY.out) (by unfold goodN;rw[hw];rfl)
      have HF:=Lib.hid hf
      clear hf hw
      go_wp2_with fail
      go_ret
      exact⟨by rw[HF.out];rfl,rfl⟩
     |true=>
      by_cases hl:y.name=lotB
      ·have hf:rightL es=false:=not_right hxm.out (List.mem_of_getElem? HY.out) (by unfold goodN;rw[lot_eq.1 hl];rfl)
       have HF:=Lib.hid hf
       have b1:=tx_litT (lot_eq.1 hl)
       unfold wLot at b1
       clear hf hw hl
       go_wp2_with fail
       go_ret
       exact⟨by rw[HF.out];rfl,rfl⟩
      ·have b1:=tx_litF (fun e=>hl (lot_eq.2 e))
       unfold wLot at b1
       have hgd:goodN y.name.data.toList=true:=by
        unfold goodN
        rw[hw,Bool.true_and]
        exact bne_iff_ne.2 (fun e=>hl (lot_eq.2 e))
       have HG:=Lib.hid (vals_take HY.out HR2.out hgd)
       clear hgd hw hl
       go_wp2_with fail
       go_roundw
       case rel=>exact⟨j+1,by go_num,by omega,HG.out,by first|rfl|trivial⟩
       case measure=>simp[intOf];omega
    ·obtain rfl:j=x.values.length:=by omega
     have ij:¬(x.values.length:Int)<x.values.length:=by omega
     have hall:=HR2.out
     rw[List.take_of_length_le (Nat.le_refl _)] at hall
     have HG:=Lib.hid (right_take HX.out HR.out hall)
     clear hall
     go_wp2_with fail
     go_roundw
     case rel=>exact⟨k+1,by go_num,by omega,HG.out,by first|rfl|trivial⟩
     case measure=>simp[intOf];omega
  ·obtain rfl:k=es.length:=by omega
   have ik:¬(es.length:Int)<es.length:=by omega
   have hall:=HR.out
   rw[List.take_of_length_le (Nat.le_refl _)] at hall
   have HF:=Lib.hid hall
   clear hall
   go_wp2_with fail
   go_ret
   exact⟨by rw[HF.out];rfl,rfl⟩
theorem lot_text(p:List UInt8)(n:Int):p++[108,111,116,32]++Lib.itoa n++[10]=p++lineOf (wLot,[n]):=by
 unfold lineOf lineL wordsN wLot
 simp
theorem val_text(p:List UInt8)(v:Vl):p++v.name.data.toList++[32]++Lib.itoa v.n++[10]=p++lineOf (vLine v):=by
 unfold lineOf lineL wordsN vLine
 simp
set_option maxRecDepth 100000 in
set_option maxHeartbeats 4000000 in
theorem rquality16_any(es:List En)(hin:∀e∈es,EnIn e)(hn:∀e∈es,∀v∈e.values,v.name.size≤4000000000)(hlen:es.length≤1000000000)(hl:rightL es=true→(textG (qLines es)).length≤100000000)(v:Value)(w:World)(h:EnSl w v es):Calls Tryz.prog 54 #[v] w (RetStr (qualL es) w):=by
 have hright:=rright16_any es hn hlen v w h
 obtain⟨A,cap,rfl,hc1,hc2,hat⟩:=en_at h
 have HAT:=Lib.hid hat
 have HIN:=Lib.hid hin
 clear hat h hin hn
 go_enter Tryz.func54,Tryz.ntmps54
 go_wp2_with fail
 refine hright.mono ?_
 rintro e w1 ⟨rfl,rfl⟩
 clear hright
 cases hr:rightL es with
 |false=>
  have hq:qualL es=[]:=by unfold qualL;rw[hr];rfl
  have HQ:=Lib.hid hq
  clear hr hq
  go_wp2_with fail
  go_ret
  exact RetStr.mk (by rw[HQ.out]) (Only.refl _ _)
 |true=>
  have hl:=hl hr
  have hq:qualL es=textG (qLines es):=by unfold qualL;rw[if_pos hr]
  have HQ:=Lib.hid hq
  have q1:(⟨#[108,111,116,32]⟩:ByteArray).size =4:=rfl
  have q2:(⟨#[32]⟩:ByteArray).size =1:=rfl
  have q3:(⟨#[10]⟩:ByteArray).size =1:=rfl
  clear hr hq
  go_wp2_with fail
  go_loopw [4,5] (fun v i wr=>∃(k:Nat) (s:ByteArray),v= .string s∧i= .int .i64 k∧k≤es.length∧s.data.toList=textG (qLines (es.take k))∧Only NoneOf w1 wr) (fun _ i _=>es.length-(intOf i).toNat)
  case atStart=>exact⟨0,⟨#[]⟩,rfl,rfl,Nat.zero_le _,rfl,Only.refl _ _⟩
  case round=>
   obtain⟨k,s,rfl,rfl,hk,hs,ho⟩:=hrel
   have HS:=Lib.hid hs
   have HO:=Lib.hid ho
   clear hs ho
   by_cases hlt:k<es.length
   ·obtain⟨x,hx⟩:∃x,es[k]? =some x:=⟨_,List.getElem?_eq_getElem hlt⟩
    obtain⟨g,o,u,rfl,hg,c0,c1,c2,c3,c4,hvs⟩:=HAT.out k x hx
    obtain⟨A2,cap2,rfl,hd1,hd2,hvat⟩:=vl_at hvs
    have d1:=HO.out.cell_some c1 (fun e=>e)
    have HC4:=Lib.hid c4
    have hxm:=List.mem_of_getElem? hx
    have HXI:=Lib.hid (HIN.out x hxm)
    have HXM:=Lib.hid hxm
    have HX:=Lib.hid hx
    have HV:=Lib.hid hvat
    have HQP:=Lib.hid (q_part_le hx)
    have hsz:s.size≤100000000:=by
     rw[size_list,HS.out]
     exact Nat.le_trans (q_take_le es k) hl
    have ik:(k:Int)<es.length:=by omega
    have k0:(0:Int)≤(k:Int):=by omega
    have wk:IntKind.i64.wrap ((k:Int)+1)=(k:Int)+1:=IntWalk.i64_in _ (by omega)
    have s1:s.size+4≤9223372036854775807:=by omega
    clear hx hvat hvs c0 c1 c2 c3 c4 hxm
    go_wp2_with fail
    refine(rdec16_any x.lot HXI.out.1 _).mono ?_
    rintro e w2 ⟨t,rfl,ht,ho2⟩
    have htz:t.size≤21:=by rw[size_list,ht];exact itoa_len HXI.out.1.1 HXI.out.1.2
    have HO2:=Lib.hid (HO.out.trans ho2)
    have s2:s.size+4+t.size≤9223372036854775807:=by omega
    have s3:s.size+4+t.size+1≤9223372036854775807:=by omega
    obtain⟨s4,e4⟩:∃s4:ByteArray,s4=s++⟨#[108,111,116,32]⟩++t++⟨#[10]⟩:=⟨_,rfl⟩
    have hs4:s4.data.toList=textG (qLines (es.take k))++lineOf (wLot,[x.lot]):=by
     rw[e4,←lot_text,←HS.out,←ht]
     simp
    have HS4:=Lib.hid hs4
    have HE4:=Lib.hid e4
    clear ht ho2 hs4 e4
    go_wp2_with fail
    rw[←HE4.out]
    go_loopw [4,6] (fun v i wr=>∃(j:Nat) (s:ByteArray),v= .string s∧i= .int .i64 j∧j≤x.values.length∧s.data.toList=textG (qLines (es.take k))++lineOf (wLot,[x.lot])++textG ((x.values.take j).map vLine)∧Only NoneOf w1 wr) (fun _ i _=>x.values.length-(intOf i).toNat)
    case atStart=>exact⟨0,s4,rfl,rfl,Nat.zero_le _,by rw[HS4.out];simp[textG],HO2.out⟩
    case round=>
     obtain⟨j,s,rfl,rfl,hj,hs,ho⟩:=hrel
     have HS5:=Lib.hid hs
     have HO5:=Lib.hid ho
     have d4:=ho.cell_some HC4.out (fun e=>e)
     clear hs ho d1
     by_cases hlj:j<x.values.length
     ·obtain⟨y,hy⟩:∃y,x.values[j]? =some y:=⟨_,List.getElem?_eq_getElem hlj⟩
      obtain⟨g2,o2,rfl,hg2,e0,e1⟩:=HV.out j y hy
      have hym:=List.mem_of_getElem? hy
      have HYI:=Lib.hid (HXI.out.2.2 y hym)
      have hyn:=name_le HXM.out hym
      have hsz:s.size≤100000000:=by
       rw[size_list,HS5.out]
       exact Nat.le_trans (HQP.out j) hl
      have HVT:=Lib.hid (v_text_snoc hy)
      have ij:(j:Int)<x.values.length:=by omega
      have j0:(0:Int)≤(j:Int):=by omega
      have wj:IntKind.i64.wrap ((j:Int)+1)=(j:Int)+1:=IntWalk.i64_in _ (by omega)
      obtain⟨td,etd⟩:∃t:ByteArray,t=⟨(Lib.itoa y.n).toArray⟩:=⟨_,rfl⟩
      have htz:td.size≤21:=by rw[size_list,etd];exact itoa_len HYI.out.1 HYI.out.2
      have s1:s.size+y.name.size≤9223372036854775807:=by omega
      have s2:s.size+y.name.size+1≤9223372036854775807:=by omega
      have s3:s.size+y.name.size+1+td.size≤9223372036854775807:=by omega
      have s5:s.size+y.name.size+1+td.size+1≤9223372036854775807:=by omega
      obtain⟨s6,e6⟩:∃s6:ByteArray,s6=s++y.name++⟨#[32]⟩++td++⟨#[10]⟩:=⟨_,rfl⟩
      have hs6:s6.data.toList=textG (qLines (es.take k))++lineOf (wLot,[x.lot])++textG ((x.values.take (j+1)).map vLine):=by
       rw[e6,HVT.out,←List.append_assoc,←val_text,←HS5.out,etd]
       simp
      have HS6:=Lib.hid hs6
      have HE6:=Lib.hid e6
      clear hy hs6 e6 hym
      go_upto_region 12 with(fail)
      obtain⟨ft,hfx⟩:=family (fun W=>Only NoneOf w1 W) (W0:=wr.drew) HO5.out.drew
      obtain⟨F,hI,hF0,hF,hFS⟩:=hfx
      have D1:Hid (∀q,Calls Tryz.prog 43 #[.int .i64 y.n] (F q) fun e w' =>e= .returned (.string td)∧∃z,w' =F z):=Lib.hid (fun q=>(rdec16_any y.n HYI.out (F q)).mono (fun e w' hh=>by
       obtain⟨t,rfl,ht,ho⟩:=hh
       exact⟨by rw[etd,bytes_of ht],(hF w').1 ((hFS q).trans ho)⟩))
      have L0:∀q,(F q).cell? ⟨g,o+k*5+4,none⟩=some (.slice (some ⟨g2,o2,none⟩) x.values.length cap2):=fun q=>(hFS q).cell_some HC4.out (fun e=>e)
      have L1:∀q,(F q).cell? ⟨g2,o2+j*2,none⟩=some (.string y.name):=fun q=>(hFS q).cell_some e0 (fun e=>e)
      have L2:∀q,(F q).cell? ⟨g2,o2+j*2+1,none⟩=some (.int .i64 y.n):=fun q=>(hFS q).cell_some e1 (fun e=>e)
      have HF:=Lib.hid hF
      have HF0:=Lib.hid hF0
      clear hF hF0 hFS etd d4 e0 e1
      refine wp_region_family F (by kernel_rfl) (by kernel_rfl) HF0.out ?_
      repeat(go_big_quiet_step (with_reducible exact D1.out _))
      refine wpQuiet_nil ?_
      intro w9 hw9
      have HO9:=Lib.hid ((HF.out w9).2 hw9)
      clear hw9
      go_wp2_with fail
      go_roundw
      case rel=>exact⟨j+1,s6,by rw[HE6.out],by go_num,by omega,HS6.out,HO9.out⟩
      case measure=>simp[intOf];omega
     ·obtain rfl:j=x.values.length:=by omega
      have ij:¬(x.values.length:Int)<x.values.length:=by omega
      have hall:=HS5.out
      rw[List.take_of_length_le (Nat.le_refl _),←q_text_snoc HX.out] at hall
      have HG:=Lib.hid hall
      clear hall
      go_wp2_with fail
      go_roundw
      case rel=>exact⟨k+1,s,rfl,by go_num,by omega,HG.out,HO5.out⟩
      case measure=>simp[intOf];omega
   ·obtain rfl:k=es.length:=by omega
    have ik:¬(es.length:Int)<es.length:=by omega
    have hall:=HS.out
    rw[List.take_of_length_le (Nat.le_refl _)] at hall
    have HG:=Lib.hid hall
    clear hall
    go_wp2_with fail
    go_ret
    exact RetStr.mk (by rw[HQ.out,HG.out]) HO.out
end Go.Proofs.YtpdlbmieciabmaaGreatDoor
namespace Go.Proofs.YtpdlbmieciabmaaGreatDoor
open Go.RowKit Go.Shelf
theorem in_at{w:World}{u:Value}{ns:List Int}(h:SlOf inC 1 w u ns):∃A cap,u= .slice A ns.length cap∧∀(j:Nat) (x:Int),ns[j]? =some x→∃g o,A=some ⟨g,o,none⟩∧g<w.heap.size∧w.cell? ⟨g,o+j,none⟩=some (.int .i64 x):=by
 obtain⟨A,cap,h1,_,_,h4⟩:=h
 refine⟨A,cap,h1,fun j x hx=> ?_⟩
 obtain⟨g,o,hA,hg,hr⟩:=h4 j x hx
 exact⟨g,o,hA,hg,by simpa using hr 0 _ rfl⟩
set_option maxRecDepth 100000 in
set_option maxHeartbeats 1000000 in
theorem ints_same(ns:List Int)(hl:ns.length≤1000000000)(v u:Value)(w:World)(h:SlOf inC 1 w v ns)(k:SlOf inC 1 w u ns):Calls Tryz.prog 13 #[v,u] w fun e w' =>e= .returned (.bool true)∧Only NoneOf w w' :=by
 obtain⟨A,cap,rfl,hA⟩:=in_at h
 obtain⟨B,bap,rfl,hB⟩:=in_at k
 have HA:=Lib.hid hA
 have HB:=Lib.hid hB
 clear hA hB h k
 go_enter Tryz.func13,Tryz.ntmps13
 go_wp2_with fail
 go_loopw [5] (fun i wr=>∃j:Nat,i= .int .i64 j∧j≤ns.length∧∃n,wr=w.drewN n) (fun i _=>ns.length-(intOf i).toNat)
 case atStart=>exact⟨0,rfl,Nat.zero_le _,0,rfl⟩
 case round=>
  obtain⟨j,rfl,hj,n0,rfl⟩:=hrel
  by_cases hlt:j<ns.length
  ·obtain⟨x,hx⟩:∃x,ns[j]? =some x:=⟨_,List.getElem?_eq_getElem hlt⟩
   obtain⟨g,o,rfl,hg,c0⟩:=HA.out j x hx
   obtain⟨g2,o2,rfl,hg2,d0⟩:=HB.out j x hx
   have ij:(j:Int)<ns.length:=by omega
   have j0:(0:Int)≤(j:Int):=by omega
   have wj:IntKind.i64.wrap ((j:Int)+1)=(j:Int)+1:=IntWalk.i64_in _ (by omega)
   clear hx
   go_upto_region 6 with(fail)
   go_quiet (fail)
   go_wp2_with fail
   go_roundw
   case rel=>exact⟨j+1,by go_num,by omega,_,rfl⟩
   case measure=>simp[intOf];omega
  ·obtain rfl:j=ns.length:=by omega
   have ij:¬(ns.length:Int)<ns.length:=by omega
   go_wp2_with fail
   go_ret
   exact⟨rfl,(Only.refl _ _).drewN _⟩
set_option maxRecDepth 100000 in
set_option maxHeartbeats 1000000 in
theorem shares_same(ps:List (Int×Int))(_hl:ps.length≤1000000000)(v u:Value)(w:World)(h:SlOf shC 2 w v ps)(k:SlOf shC 2 w u ps):Calls Tryz.prog 14 #[v,u] w fun e w' =>e= .returned (.bool true)∧Only NoneOf w w' :=by
 obtain⟨A,cap,rfl,hc1,hc2,hA⟩:=h
 obtain⟨B,bap,rfl,hb1,hb2,hB⟩:=k
 have HA:=Lib.hid hA
 have HB:=Lib.hid hB
 clear hA hB
 go_enter Tryz.func14,Tryz.ntmps14
 go_wp2_with fail
 go_loopw [5] (fun i wr=>∃j:Nat,i= .int .i64 j∧j≤ps.length∧∃n,wr=w.drewN n) (fun i _=>ps.length-(intOf i).toNat)
 case atStart=>exact⟨0,rfl,Nat.zero_le _,0,rfl⟩
 case round=>
  obtain⟨j,rfl,hj,n0,rfl⟩:=hrel
  by_cases hlt:j<ps.length
  ·obtain⟨x,hx⟩:∃x,ps[j]? =some x:=⟨_,List.getElem?_eq_getElem hlt⟩
   obtain⟨g,o,rfl,hg,hr⟩:=HA.out j x hx
   obtain⟨g2,o2,rfl,hg2,hr2⟩:=HB.out j x hx
   obtain⟨x0,x1⟩:=x
   have c0:w.cell? ⟨g,o+j*2,none⟩=some (.int .i64 x0):=hr 0 _ rfl
   have c1:w.cell? ⟨g,o+j*2+1,none⟩=some (.int .i64 x1):=hr 1 _ rfl
   have d0:w.cell? ⟨g2,o2+j*2,none⟩=some (.int .i64 x0):=hr2 0 _ rfl
   have d1:w.cell? ⟨g2,o2+j*2+1,none⟩=some (.int .i64 x1):=hr2 1 _ rfl
   have ij:(j:Int)<ps.length:=by omega
   have j0:(0:Int)≤(j:Int):=by omega
   have wj:IntKind.i64.wrap ((j:Int)+1)=(j:Int)+1:=IntWalk.i64_in _ (by omega)
   clear hx hr hr2
   go_upto_region 6 with(fail)
   go_quiet (fail)
   go_wp2_with fail
   go_roundw
   case rel=>exact⟨j+1,by go_num,by omega,_,rfl⟩
   case measure=>simp[intOf];omega
  ·obtain rfl:j=ps.length:=by omega
   have ij:¬(ps.length:Int)<ps.length:=by omega
   go_wp2_with fail
   go_ret
   exact⟨rfl,(Only.refl _ _).drewN _⟩
end Go.Proofs.YtpdlbmieciabmaaGreatDoor
