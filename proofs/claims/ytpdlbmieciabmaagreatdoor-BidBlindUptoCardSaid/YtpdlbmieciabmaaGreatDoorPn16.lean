/-What is proved here:several parts. a region that draws its order inside a round of a range over a function:one walk in the order of the text;no function of the program. No conditions. · whether a name is a word,by the bids' code and by the reference. No conditions but that the name is short. · whether a name is a word,and whether lots' values have words for names,by the bids' code. Conditions:there are few. -/
import Derived.Test.YtpdlbmieciabmaaGreatDoorPn01
import Derived.Test.YtpdlbmieciabmaaGreatDoorPn06
import Derived.Test.YtpdlbmieciabmaaGreatDoorPn12
import Derived.Test.YtpdlbmieciabmaaGreatDoorPn14
import Derived.OrdersIn
import Derived.RangeFuncCalls
import Derived.OwnWalkIn
import Derived.Shelf.GgClosure.StringsIndexFuncTop
import Derived.WalkSmall
namespace Go.Proofs.YtpdlbmieciabmaaGreatDoor
open Go.RowKit
section
variable {P:Program} {ops:Array Oper} {md:Region.Mode} {C:Array Bool→World→Prop}
theorem wpOpIn_of_fOp(rd n:Nat)(hdf:∀o∈ops,∀c,o.op≠.defer c){i:Nat}{L:Array Bool}{a:Act}{K:Act→Prop}{K' :Act→World→Prop}{Q' :Exit→Act→World→Prop}{w:World}(hd:downB md ops L=true)(hr:i∈Region.ready md ops L)(hC:C L w)
  (h:∀a w',C (L.setIfInBounds i true) w'→K a→K' a w') (hh:fOp P md ops C i K a):wpOpIn (Fence.wide.inRound rd) n P ops Q' i K' a w:=by
 unfold fOp at hh
 unfold wpOpIn
 split
 ·rename_i ho
  obtain⟨_,o,ho',_⟩:=mem_ready.1 hr
  rw[ho] at ho'
  cases ho'
 ·rename_i o ho
  simp only[ho] at hh
  split
  ·rename_i hw
   simp only[hw,if_true] at hh
   obtain⟨v,h1,h2⟩:=hh
   have h3:=h1 L w hd hr hC
   have hpl:∀c,o.op≠.defer c:=hdf o (Array.mem_of_getElem? ho)
   refine⟨fun f _=>trivial,?_⟩
   rw[Oper.semAt_plain _ _ _ hpl]
   unfold flagAt at h3
   generalize (execOp a.eval o).run P w=r at *
   cases r with
   |ok n w' =>
    cases n<;>simp only[flagUpon] at h3<;>simp only[Oper.uponIn]
    case value u=>
     obtain⟨e1,e2⟩:=h3
     rw[e2]
     exact h _ _ e1 h2
    case skip=>
     obtain⟨e1,e2⟩:=h3
     rw[←e2]
     exact h _ _ e1 h2
    case enter f args=>exact⟨(fun h=>by cases h),(CallsIn.inRound rd (callsIn_wide.2 h3)).mono fun e w'' ⟨he,hw''⟩=>by subst he;exact h _ _ hw'' h2⟩
   |halt x w' =>simp only[flagUpon] at h3
  ·rename_i hw
   simp only[hw] at hh
   exact⟨fun f _=>trivial,h _ _ (hh.1 L w hd hr hC) hh.2⟩
theorem wpAnyIn_of_flag(rd n:Nat)(hdf:∀o∈ops,∀c,o.op≠.defer c){Q:Act→Prop}{Q' :Exit→Act→World→Prop}(hQ:∀L a w,downB md ops L=true→Region.ready md ops L=[]→C L w→Q a→Q' .normal a w):∀(fuel:Nat) (listed:Array Bool) (a:Act) (w:World),downB md ops listed=true→C listed w→
  wpAnyF P md ops C Q fuel listed a→wpAnyIn (Fence.wide.inRound rd) n P md ops Q' fuel listed a w
 |0,_,_,_,hd,hw,h=>⟨h.1,hQ _ _ _ hd h.1 hw h.2⟩
 |fuel+1,_,_,_,hd,hw,h=>⟨fun h0=>hQ _ _ _ hd h0 hw (h.1 h0),fun i hi=>wpOpIn_of_fOp rd n hdf hd hi hw (fun a' w' hw' =>wpAnyIn_of_flag rd n hdf hQ fuel _ a' w' (down_set hd hi) hw') (h.2 i hi)⟩
def noDefer(ops:Array Oper):Bool:=ops.all fun o=>match o.op with| .defer _=>false|_=>true
theorem noDefer_spec{ops:Array Oper}(h:noDefer ops=true):∀o∈ops,∀c,o.op≠.defer c:=fun o ho c e=>by
 have h1:=Array.all_eq_true_iff_forall_mem.1 h o ho
 rw[e] at h1
 cases h1
theorem wpIn_region_flag(rd n:Nat){id:Nat}{Q:Exit→Act→World→Prop}{a:Act}{w:World}{l:List Oper}(C:Array Bool→World→Prop)(hm:P.follows .mixedOrders =true)(hB:Region.lexB .any l.toArray=true)(hF:fwdB .any l.toArray=true)(hdf:noDefer l.toArray=true)(h0:downB .any l.toArray (Array.replicate l.toArray.size false)=true)
  (hC:C (Array.replicate l.toArray.size false) w.drew)
  (h:wpFlag P .any l.toArray C (fun a' =>∀L w',(∀i,i<l.toArray.size→L.getD i false=true)→C L w'→Q .normal a' w') 0 l a):(Code.region id l.toArray true).wpIn (Fence.wide.inRound rd) n P Q a w:=by
 simp only[Region.lexB,Bool.and_eq_true] at hB
 refine wpIn_region_any hm (wpAnyIn_of_flag rd n (noDefer_spec hdf) (Q:=fun a' =>∀L w',(∀i,i<l.toArray.size→L.getD i false=true)→C L w'→Q .normal a' w') (fun L _ w' hd hr hw' h=>h L w' (all_done hF hd hr) hw') _ _ _ _ h0 hC ?_)
 have:=wpAnyF_lex (C:=C) (md:= .any) hB.1 l 0 (Array.replicate l.toArray.size false) a (by simp) (by simpa using hB.2) h
 simpa using this
def chainB(md:Region.Mode)(ops:Array Oper)(m:Nat):Bool:=(List.range m).all fun i=>(List.range (m+1)).any fun j=>decide (i<j)&&depB md ops j i
theorem chain_all{m:Nat}{L:Array Bool}(hc:chainB md ops m=true)(hd:downB md ops L=true)(hm:L.getD m false=true):∀k i,m-i=k→i≤m→L.getD i false=true:=by
 intro k
 induction k using Nat.strongRecOn with
 |ind k ih=>
  intro i hk hi
  by_cases e:i=m
  ·rw[e];exact hm
  ·unfold chainB at hc
   have h1:=List.all_eq_true.1 hc i (List.mem_range.2 (by omega))
   obtain⟨j,hj,h2⟩:=List.any_eq_true.1 h1
   simp only[Bool.and_eq_true,decide_eq_true_eq] at h2
   have hj2:=List.mem_range.1 hj
   exact down_dep hd (ih (m-j) (by omega) j rfl (by omega)) h2.2
def Tl(S T:World→Prop)(m:Nat)(L:Array Bool)(W:World):Prop:=(L.getD m false=false→S W)∧(L.getD m false=true→T W)
theorem Tl.start{S T:World→Prop}{m:Nat}(k:Nat){W:World}(h:S W):Tl S T m (Array.replicate k false) W:=⟨fun _=>h,fun e=>absurd ((getD_replicate_false' k m).symm.trans e) (by decide)⟩
theorem Tl.ahead{S T:World→Prop}{m i:Nat}{L:Array Bool}{W:World}(h:Tl S T m L W)(hc:chainB md ops m=true)(hd:downB md ops L=true)(hr:i∈Region.ready md ops L)(hi:i<m):S W∧∀W',S W'→Tl S T m (L.setIfInBounds i true) W' :=by
 have hf:L.getD m false=false:=by
  cases e:L.getD m false with
  |false=>rfl
  |true=>
   have h1:=chain_all hc hd e (m-i) i rfl (by omega)
   rw[ready_undone hr] at h1
   cases h1
 refine⟨h.1 hf,fun W' hW' =>⟨fun _=>hW',fun e=> ?_⟩⟩
 rw[set_other (show i≠m by omega),hf] at e
 cases e
theorem Tl.last{S T:World→Prop}{m:Nat}{L:Array Bool}{W:World}(h:Tl S T m L W)(hr:m∈Region.ready md ops L):S W∧∀W',T W'→Tl S T m (L.setIfInBounds m true) W' :=by
 refine⟨h.1 (ready_undone hr),fun W' hW' =>⟨fun e=> ?_,fun _=>hW'⟩⟩
 rw[set_same (ready_lt hr)] at e
 cases e
end
end Go.Proofs.YtpdlbmieciabmaaGreatDoor
namespace Go.Proofs.YtpdlbmieciabmaaGreatDoor
open Go.RowKit Go.Shelf
def noLet(r:Nat):Bool:=decide (r<97)||decide (122<r)
theorem decode_let(s:ByteArray)(i:Nat):noLet (Utf8.decode s i).1 = !isLet (s.get! i)∧(isLet (s.get! i)=true→(Utf8.decode s i).2 =1):=by
 have hb:=(s.get! i).toNat_lt
 have h0:s.get! (i+0)=s.get! i:=rfl
 unfold isLet
 by_cases hA:(s.get! i).toNat <128
 ·have e:Utf8.decode s i=((s.get! i).toNat,1):=by
   unfold Utf8.decode
   simp only[h0]
   rw[if_pos hA]
  rw[e]
  refine⟨?_,fun _=>rfl⟩
  unfold noLet
  by_cases h1:(s.get! i).toNat <97<;>by_cases h2:122<(s.get! i).toNat <;>simp[h1,h2]<;>omega
 ·have hn:¬(97≤(s.get! i).toNat∧(s.get! i).toNat≤122):=by omega
  refine⟨?_,fun h=>absurd (of_decide_eq_true h) hn⟩
  rw[decide_eq_false hn]
  have key:122<(Utf8.decode s i).1 :=by
   unfold Utf8.decode
   simp only[h0]
   rw[if_neg hA]
   have r0:(122:Nat)<Utf8.runeError:=by decide
   split
   ·split
    ·rename_i h;exact Nat.lt_of_lt_of_le (by omega) h
    ·exact r0
   ·split
    ·split
     ·rename_i h
      rw[Bool.and_eq_true] at h
      exact Nat.lt_of_lt_of_le (by omega) (of_decide_eq_true h.1)
     ·exact r0
    ·split
     ·split
      ·rename_i h
       rw[Bool.and_eq_true] at h
       exact Nat.lt_of_lt_of_le (by omega) (of_decide_eq_true h.1)
      ·exact r0
     ·exact r0
  unfold noLet
  rw[decide_eq_true key,Bool.or_true]
  rfl
theorem idx_let(s:ByteArray):∀(f pos:Nat),s.size≤pos+f→decide (0≤Lib.idxFuncFrom noLet true s f pos)= !(s.data.toList.drop pos).all isLet
 |0,pos,h=>by
  have e:s.data.toList.drop pos=[]:=List.drop_eq_nil_of_le (by rw[←size_list];omega)
  rw[e]
  rfl
 |f+1,pos,h=>by
  unfold Lib.idxFuncFrom
  by_cases hp:pos<s.size
  ·rw[if_pos hp]
   have hl:pos<s.data.toList.length:=by rw[←size_list];exact hp
   obtain⟨d1,d2⟩:=decode_let s pos
   have hg:s.get! pos=s.data.toList[pos]:=by
    show s.data[pos]! =_
    rw[getElem!_pos s.data pos hp,Array.getElem_toList]
   rw[List.drop_eq_getElem_cons hl,List.all_cons,←hg]
   cases hx:isLet (s.get! pos) with
   |true=>
    rw[hx] at d1
    rw[if_neg (by rw[d1];decide),d2 hx,idx_let s f (pos+1) (by omega),Bool.true_and]
   |false=>
    rw[hx] at d1
    rw[if_pos (by rw[d1];rfl),Bool.false_and]
    exact decide_eq_true (by omega)
  ·rw[if_neg hp]
   have e:s.data.toList.drop pos=[]:=List.drop_eq_nil_of_le (by rw[←size_list];omega)
   rw[e]
   rfl
end Go.Proofs.YtpdlbmieciabmaaGreatDoor
namespace Go.Proofs.YtpdlbmieciabmaaGreatDoor
open Go.RowKit Go.Shelf
theorem let_pred(w:World):PredAt Tryz.prog 93 #[] encR noLet w:=fun W r _=>by
 unfold FnGives
 by_cases h1:r<97<;>by_cases h2:122<r
 all_goals
  have z1:(r:Int)<97↔r<97:=by omega
  have z2:(122:Int)<(r:Int)↔122<r:=by omega
  go_enter Tryz.func93,Tryz.ntmps93
  go_wp2
  all_goals first|(exfalso;omega)|(go_ret;exact⟨by simp[noLet,h1,h2],0,rfl⟩)
theorem contains_let(s:ByteArray)(w:World):Calls Tryz.prog 92 #[.string s,.func (.func 93) #[] #[]] w fun e w' =>e= .returned (.bool (!s.data.toList.all isLet))∧Only NoneOf w w' :=
 (Tryz.strings_ContainsFunc 93 #[] (enters_of Tryz.func93 (by kernel_rfl) rfl) noLet s w (let_pred w)).mono fun e w' h=>by
  obtain⟨rfl,hb⟩:=h
  refine⟨?_,Only.of_below hb _⟩
  have e:decide (0≤Lib.idxFunc noLet true s)= !(s.data.toList.drop 0).all isLet:=idx_let s s.size 0 (by omega)
  rw[e,List.drop_zero]
theorem ba_nil{s:ByteArray}:s=⟨#[]⟩↔s.data.toList=[]:=⟨fun h=>by rw[h],fun h=>ba_ext h⟩
set_option maxRecDepth 100000 in
set_option maxHeartbeats 400000 in
theorem isword_any(s:ByteArray)(w:World):Calls Tryz.prog 61 #[.string s] w fun e w' =>e= .returned (.bool (isWordL s.data.toList))∧Only NoneOf w w' :=by
 by_cases h0:s=⟨#[]⟩
 ·subst h0
  go_enter Tryz.func61,Tryz.ntmps61
  go_wp2_with fail
  go_ret
  exact⟨rfl,Only.refl _ _⟩
 ·have b1:=tx_someF h0
  have hw:isWordL s.data.toList=s.data.toList.all isLet:=by
   unfold isWordL
   have h2:s.data.toList≠[]:=fun e=>h0 (ba_nil.2 e)
   cases hl:s.data.toList with
   |nil=>exact absurd hl h2
   |cons c l=>rfl
  rw[hw]
  clear h0 hw
  go_enter Tryz.func61,Tryz.ntmps61
  go_wp2_with fail
  refine(contains_let s w).mono ?_
  rintro e w1 ⟨rfl,ho⟩
  go_wp2_with fail
  go_ret
  exact⟨by simp,ho⟩
def lotB:ByteArray:=⟨#[108,111,116]⟩
theorem lot_eq{s:ByteArray}:s=lotB↔s.data.toList=wLot:=⟨fun h=>by rw[h];rfl,fun h=>ba_ext h⟩
theorem right_take{es:List En}{k:Nat}{e:En}(h:es[k]? =some e)(hr:rightL (es.take k)=true)(he:(e.values.all fun v=>goodN v.name.data.toList)=true):rightL (es.take (k+1))=true:=by
 unfold rightL at hr⊢
 rw[List.take_add_one,h,Option.toList_some,List.all_append,hr,List.all_cons,he]
 rfl
theorem vals_take{vs:List Vl}{j:Nat}{v:Vl}(h:vs[j]? =some v)(hr:((vs.take j).all fun v=>goodN v.name.data.toList)=true)(he:goodN v.name.data.toList=true):((vs.take (j+1)).all fun v=>goodN v.name.data.toList)=true:=by
 rw[List.take_add_one,h,Option.toList_some,List.all_append,hr,List.all_cons,he]
 rfl
theorem not_right{es:List En}{e:En}{v:Vl}(he:e∈es)(hv:v∈e.values)(h:goodN v.name.data.toList=false):rightL es=false:=by
 cases hr:rightL es with
 |false=>rfl
 |true=>rw[right_val hr he hv] at h;cases h
theorem vl_at{w:World}{v:Value}{vs:List Vl}(h:SlOf vlC 2 w v vs):∃A cap,v= .slice A vs.length cap∧vs.length≤cap∧cap≤9223372036854775807∧∀(j:Nat) (x:Vl),vs[j]? =some x→∃g o,A=some ⟨g,o,none⟩∧g<w.heap.size∧w.cell? ⟨g,o+j*2,none⟩=some (.string x.name)∧w.cell? ⟨g,o+j*2+1,none⟩=some (.int .i64 x.n):=by
 obtain⟨A,cap,h1,h2,h3,h4⟩:=h
 refine⟨A,cap,h1,h2,h3,fun j x hx=> ?_⟩
 obtain⟨g,o,hA,hg,hr⟩:=h4 j x hx
 exact⟨g,o,hA,hg,hr 0 _ rfl,hr 1 _ rfl⟩
theorem en_at{w:World}{v:Value}{es:List En}(h:EnSl w v es):∃A cap,v= .slice A es.length cap∧es.length≤cap∧cap≤9223372036854775807∧∀(i:Nat) (e:En),es[i]? =some e→∃g o u,A=some ⟨g,o,none⟩∧g<w.heap.size∧w.cell? ⟨g,o+i*5,none⟩=some (.int .i64 0)∧w.cell? ⟨g,o+i*5+1,none⟩=some (.int .i64 e.lot)∧w.cell? ⟨g,o+i*5+2,none⟩=some (.int .i64 0)∧w.cell? ⟨g,o+i*5+3,none⟩=some (.int .i64 e.price)∧w.cell? ⟨g,o+i*5+4,none⟩=some u∧SlOf vlC 2 w u e.values:=by
 obtain⟨A,n,cap,rfl⟩:∃A n cap,v= .slice A n cap:=by
  obtain⟨L,_,⟨A,cap,hv,_⟩,_⟩:=h
  exact⟨_,_,_,hv⟩
 obtain⟨rfl,h1,h2,h3⟩:=h.at_
 refine⟨A,cap,rfl,h1,h2,fun i e he=> ?_⟩
 obtain⟨g,o,c,hA,hg,hr,e1,e2,e3⟩:=h3 i e he
 refine⟨g,o,c.v,hA,hg,hr 0 _ rfl,?_,hr 2 _ rfl,?_,hr 4 _ rfl,e3⟩
 ·rw[←e1];exact hr 1 _ rfl
 ·rw[←e2];exact hr 3 _ rfl
set_option maxRecDepth 100000 in
set_option maxHeartbeats 1000000 in
theorem right_any(es:List En)(v:Value)(w:World)(h:EnSl w v es):Calls Tryz.prog 35 #[v] w fun e w' =>e= .returned (.bool (rightL es))∧Only NoneOf w w' :=by
 obtain⟨A,cap,rfl,hc1,hc2,hat⟩:=en_at h
 have HAT:=Lib.hid hat
 clear hat h
 go_enter Tryz.func35,Tryz.ntmps35
 go_wp2_with fail
 go_loopw [9] (fun i wr=>∃k:Nat,i= .int .i64 k∧k≤es.length∧rightL (es.take k)=true∧Only NoneOf w wr) (fun i _=>es.length-(intOf i).toNat)
 case atStart=>exact⟨0,rfl,Nat.zero_le _,rfl,Only.refl _ _⟩
 case round=>
  obtain⟨k,rfl,hk,hr,ho⟩:=hrel
  have HR:=Lib.hid hr
  have HO:=Lib.hid ho
  clear hr ho
  by_cases hlt:k<es.length
  ·obtain⟨x,hx⟩:∃x,es[k]? =some x:=⟨_,List.getElem?_eq_getElem hlt⟩
   obtain⟨g,o,u,rfl,hg,c0,c1,c2,c3,c4,hvs⟩:=HAT.out k x hx
   obtain⟨A2,cap2,rfl,hd1,hd2,hvat⟩:=vl_at hvs
   have d0:=HO.out.cell_some c0 (fun e=>e)
   have d1:=HO.out.cell_some c1 (fun e=>e)
   have d2:=HO.out.cell_some c2 (fun e=>e)
   have d3:=HO.out.cell_some c3 (fun e=>e)
   have d4:=HO.out.cell_some c4 (fun e=>e)
   have HX:=Lib.hid hx
   have HV:=Lib.hid hvat
   have ik:(k:Int)<es.length:=by omega
   have hxm:=Lib.hid (List.mem_of_getElem? hx)
   clear hx hvat hvs c0 c1 c2 c3 c4
   go_wp2_with fail
   go_loopw [16] (fun i wr=>∃j:Nat,i= .int .i64 j∧j≤x.values.length∧((x.values.take j).all fun v=>goodN v.name.data.toList)=true∧Only NoneOf w wr) (fun i _=>x.values.length-(intOf i).toNat)
   case atStart=>exact⟨0,rfl,Nat.zero_le _,rfl,HO.out.alloc _⟩
   case round=>
    obtain⟨j,rfl,hj,hr2,ho2⟩:=hrel
    have HR2:=Lib.hid hr2
    have HO2:=Lib.hid ho2
    clear hr2 ho2 d0 d1 d2 d3 d4
    by_cases hlj:j<x.values.length
    ·obtain⟨y,hy⟩:∃y,x.values[j]? =some y:=⟨_,List.getElem?_eq_getElem hlj⟩
     obtain⟨g2,o2,rfl,hg2,c0,c1⟩:=HV.out j y hy
     have d0:=HO2.out.cell_some c0 (fun e=>e)
     have d1:=HO2.out.cell_some c1 (fun e=>e)
     have ij:(j:Int)<x.values.length:=by omega
     have HY:=Lib.hid hy
     have hbn:=Blk.new wr 84 #[.string y.name,.int .i64 y.n]
     have HBN:=Lib.hid hbn
     clear hy c0 c1 hbn
     go_wp2_with fail
     refine(isword_any y.name _).mono ?_
     rintro e w1 ⟨rfl,ho1⟩
     have e0:=(HBN.out.only ho1 (fun e=>e)).cell 0
     simp only[List.getElem?_toArray,List.getElem?_cons_zero] at e0
     have HO3:=Lib.hid ((HO2.out.alloc _).trans ho1)
     clear ho1
     cases hw:isWordL y.name.data.toList with
     |false=>
      have hf:rightL es=false:=not_right hxm.out (List.mem_of_getElem? HY.out) (by unfold goodN;rw[hw];rfl)
      have HF:=Lib.hid hf
      clear hf hw
      go_wp2_with fail
      go_ret
      exact⟨by rw[HF.out];rfl,HO3.out⟩
     |true=>
      by_cases hl:y.name=lotB
      ·have hf:rightL es=false:=not_right hxm.out (List.mem_of_getElem? HY.out) (by unfold goodN;rw[lot_eq.1 hl];rfl)
       have HF:=Lib.hid hf
       have b1:=tx_litT (lot_eq.1 hl)
       unfold wLot at b1
       clear hf hw hl
       go_wp2_with fail
       go_ret
       exact⟨by rw[HF.out];rfl,HO3.out⟩
      ·have b1:=tx_litF (fun e=>hl (lot_eq.2 e))
       unfold wLot at b1
       have hgd:goodN y.name.data.toList=true:=by
        unfold goodN
        rw[hw,Bool.true_and]
        exact bne_iff_ne.2 (fun e=>hl (lot_eq.2 e))
       have HG:=Lib.hid (vals_take HY.out HR2.out hgd)
       clear hgd hw hl
       go_wp2_with fail
       go_roundw
       case rel=>exact⟨j+1,by go_num,by omega,HG.out,HO3.out⟩
       case measure=>simp[intOf];omega
    ·obtain rfl:j=x.values.length:=by omega
     have ij:¬(x.values.length:Int)<x.values.length:=by omega
     have hall:=HR2.out
     rw[List.take_of_length_le (Nat.le_refl _)] at hall
     have HG:=Lib.hid (right_take HX.out HR.out hall)
     clear hall
     go_wp2_with fail
     go_roundw
     case rel=>exact⟨k+1,by go_num,by omega,HG.out,HO2.out⟩
     case measure=>simp[intOf];omega
  ·obtain rfl:k=es.length:=by omega
   have ik:¬(es.length:Int)<es.length:=by omega
   have hall:=HR.out
   rw[List.take_of_length_le (Nat.le_refl _)] at hall
   have HF:=Lib.hid hall
   clear hall
   go_wp2_with fail
   go_ret
   exact⟨by rw[HF.out];rfl,HO.out⟩
end Go.Proofs.YtpdlbmieciabmaaGreatDoor
