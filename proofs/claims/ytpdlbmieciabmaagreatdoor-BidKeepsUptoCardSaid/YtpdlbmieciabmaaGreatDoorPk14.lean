/-What is proved here:several parts. the parts of a split:which numbers are below the order,the powers of a number by an iterator,products and sums in the field. Conditions:the numbers are in range. · a region that draws its order inside a round of a range over a function:one walk in the order of the text;no function of the program. No conditions. · whether a name is a word,by the bids' code and by the reference. No conditions but that the name is short. · whether a name is a word,and whether lots' values have words for names,by the bids' code. Conditions:there are few. -/
import Derived.Test.YtpdlbmieciabmaaGreatDoorPk01
import Derived.Test.YtpdlbmieciabmaaGreatDoorPk05
import Derived.Test.YtpdlbmieciabmaaGreatDoorPk07
import Derived.Test.YtpdlbmieciabmaaGreatDoorPk08
import Derived.Test.YtpdlbmieciabmaaGreatDoorPk10
import Derived.Test.YtpdlbmieciabmaaGreatDoorPk11
import Derived.Test.YtpdlbmieciabmaaGreatDoorPk12
import Derived.Test.YtpdlbmieciabmaaGreatDoorPk13
import Derived.OrdersIn
import Derived.RangeFuncCalls
import Derived.OwnWalkIn
import Derived.Shelf.GgClosure.StringsIndexFuncTop
import Derived.WalkSmall
namespace Go.Proofs.YtpdlbmieciabmaaGreatDoor
open Go.RowKit Go.Shelf
attribute [local go_sem] Oper.semAt_some
attribute [local go_sem ↓ high] aph_eq
theorem mulQ(a b:Nat)(ha:a≤9223372036854775807)(hb:b≤9223372036854775807)(w:World):Calls Tryz.prog 100 #[.int .i64 (a:Int),.int .i64 (b:Int),.int .i64 1152921504606845789] w fun e w' =>e= .returned (.int .i64 ((a*b%lagN:Nat):Int))∧∃k,w' =w.drewN k:=by
 have h:=fMul_any (a:Int) (b:Int) 1152921504606845789 (by omega) (by omega) (by omega) (by omega) (by omega) (by omega) w
 rwa [show(a:Int)*(b:Int)%1152921504606845789=((a*b%lagN:Nat):Int) by rw[Int.natCast_emod,Int.natCast_mul];rfl] at h
theorem addQ(a b:Nat)(ha:a≤9223372036854775807)(hb:b≤9223372036854775807)(w:World):Calls Tryz.prog 99 #[.int .i64 (a:Int),.int .i64 (b:Int),.int .i64 1152921504606845789] w fun e w' =>e= .returned (.int .i64 (((a+b)%lagN:Nat):Int))∧w' =w:=by
 have h:=fAdd_any (a:Int) (b:Int) 1152921504606845789 (by omega) (by omega) (by omega) (by omega) (by omega) (by omega) w
 rwa [show((a:Int)+(b:Int))%1152921504606845789=(((a+b)%lagN:Nat):Int) by rw[Int.natCast_emod,Int.natCast_add];rfl] at h
theorem rmulQ(a b:Nat)(ha:a≤9223372036854775807)(hb:b≤9223372036854775807)(w:World):Calls Tryz.prog 85 #[.int .i64 (a:Int),.int .i64 (b:Int),.int .i64 1152921504606845789] w fun e w' =>e= .returned (.int .i64 ((a*b%lagN:Nat):Int))∧w' =w:=by
 have h:=rmul_any (a:Int) (b:Int) 1152921504606845789 (by omega) (by omega) (by omega) (by omega) (by omega) (by omega) w
 rwa [show(a:Int)*(b:Int)%1152921504606845789=((a*b%lagN:Nat):Int) by rw[Int.natCast_emod,Int.natCast_mul];rfl] at h
theorem raddQ(a b:Nat)(ha:a≤9223372036854775807)(hb:b≤9223372036854775807)(w:World):Calls Tryz.prog 89 #[.int .i64 (a:Int),.int .i64 (b:Int),.int .i64 1152921504606845789] w fun e w' =>e= .returned (.int .i64 (((a+b)%lagN:Nat):Int))∧w' =w:=by
 have h:=radd_any (a:Int) (b:Int) 1152921504606845789 (by omega) (by omega) (by omega) (by omega) (by omega) (by omega) w
 rwa [show((a:Int)+(b:Int))%1152921504606845789=(((a+b)%lagN:Nat):Int) by rw[Int.natCast_emod,Int.natCast_add];rfl] at h
theorem powI_g(c:Nat):powI 4 c 2305843009213691579=gp c:=by
 have e:res 4 2305843009213691579=4:=rfl
 have e2:Int.toNat 2305843009213691579=P0:=rfl
 unfold powI gp pw
 rw[e,e2]
theorem powG(c:Nat)(hc:c≤9223372036854775807)(w:World):Calls Tryz.prog 97 #[.int .i64 4,.int .i64 (c:Int),.int .i64 2305843009213691579] w fun e w' =>e= .returned (.int .i64 ((gp c:Nat):Int))∧Only NoneOf w w' :=by
 have h:=fpow_any 4 c 2305843009213691579 (by omega) (by omega) hc (by omega) (by omega) w
 rwa [powI_g] at h
theorem rpowG(c:Nat)(hc:c≤9223372036854775807)(w:World):Calls Tryz.prog 86 #[.int .i64 4,.int .i64 (c:Int),.int .i64 2305843009213691579] w fun e w' =>e= .returned (.int .i64 ((gp c:Nat):Int))∧w' =w:=by
 have h:=rpow_any 4 c 2305843009213691579 (by omega) (by omega) hc (by omega) (by omega) w
 rwa [powI_g] at h
theorem below_any(n:Nat)(h:n<lagN)(w:World):Calls Tryz.prog 96 #[.int .i64 (n:Int)] w fun e w' =>e= .returned (.bool true)∧w' =w:=by
 have n0:(0:Int)≤(n:Int):=by omega
 have n1:(n:Int)<1152921504606845789:=by have h2:n<1152921504606845789:=h;omega
 clear h
 go_enter Tryz.func96,Tryz.ntmps96
 go_wp2_with fail
 go_ret
 exact⟨rfl,rfl⟩
def CfAt(w:World)(v:Value)(cs:List Nat):Prop:=∃A cap,v= .slice A cs.length cap∧∀(i c:Nat),cs[i]? =some c→∃g o,A=some ⟨g,o,none⟩∧g<w.heap.size∧w.cell? ⟨g,o+i,none⟩=some (.int .i64 (c:Int))
theorem CfAt.only{w w' :World}{v:Value}{cs:List Nat}(h:CfAt w v cs)(ho:Only NoneOf w w'):CfAt w' v cs:=by
 obtain⟨A,cap,e,h2⟩:=h
 refine⟨A,cap,e,fun i c hc=> ?_⟩
 obtain⟨g,o,e2,hg,h3⟩:=h2 i c hc
 exact⟨g,o,e2,Nat.lt_of_lt_of_le hg ho.size,ho.cell_some h3 (fun e=>e)⟩
set_option maxRecDepth 100000 in
theorem selected_any(cs:List Nat)(hc:∀c∈cs,c<lagN)(hl:cs.length≤1000)(v:Value)(w:World)(h:CfAt w v cs):Calls Tryz.prog 95 #[v,.func (.func 96) #[] #[]] w fun e w' =>∃y,e= .returned (.tuple #[y,.slice none 0 0])∧Only NoneOf w w' :=by
 obtain⟨A,cap,rfl,hat⟩:=h
 have HAT:=Lib.hid hat
 have HC:=Lib.hid hc
 clear hat hc
 go_enter Tryz.func95,Tryz.ntmps95
 go_wp2_with fail
 go_loopw [4,5,10] (fun y z i wr=>∃j:Nat,z= .slice none 0 0∧i= .int .i64 j∧j≤cs.length∧OwnOf 3 inC 1 wr w.heap.size y j ((cs.take j).map fun c:Nat=>(c:Int))∧Only NoneOf w wr) (fun _ _ i _=>cs.length-(intOf i).toNat)
 case atStart=>exact⟨0,rfl,rfl,Nat.zero_le _,OwnOf.nil _ _ _ _ _,Only.refl _ _⟩
 case round=>
  obtain⟨j,rfl,rfl,hj,hown,ho⟩:=hrel
  by_cases hlt:j<cs.length
  ·obtain⟨x,hx⟩:∃x,cs[j]? =some x:=⟨_,List.getElem?_eq_getElem hlt⟩
   obtain⟨g,o,rfl,hg,hr⟩:=HAT.out j x hx
   have c0:wr.cell? ⟨g,o+j,none⟩=some (.int .i64 (x:Int)):=ho.cell_some hr (fun e=>e)
   have hb:=fun W=>below_any x (HC.out x (List.mem_of_getElem? hx)) W
   have hen:(cs.take (j+1)).map (fun c:Nat=>(c:Int))=(cs.take j).map (fun c:Nat=>(c:Int))++[(x:Int)]:=by rw[List.take_add_one,hx,Option.toList_some,List.map_append];rfl
   have hlj:((cs.take j).map fun c:Nat=>(c:Int)).length =j:=by rw[List.length_map,List.length_take];omega
   have how2:OwnOf 3 inC 1 wr w.heap.size u4 ((cs.take j).map fun c:Nat=>(c:Int)).length ((cs.take j).map fun c:Nat=>(c:Int)):=by rw[hlj];exact hown
   obtain⟨A2,cap2,W2,hrun,hown2,ho2⟩:=run_append_int (wr.alloc (.cells #[.int .i64 (x:Int)] 3)) w.heap.size u4 _ (x:Int) (OwnOf.keep how2 ((Only.refl NoneOf _).alloc _) (fun _ _ e=>e)) (by rw[hlj];omega) (by have:=ho.size;simp;omega) wr.heap.size (Blk.new wr _ _) 38
   rw[hlj] at hrun hown2
   have hO2:Only NoneOf w W2:=only_base (ho.alloc _) (ts_base ho2) (Nat.le_refl _)
   have HEN:=Lib.hid hen
   have HB:=Lib.hid hb
   have HOWN2:=Lib.hid hown2
   have HO2:=Lib.hid hO2
   have ij:(j:Int)<(cs.length:Int):=by omega
   have j0:(0:Int)≤(j:Int):=by omega
   have wj:IntKind.i64.wrap ((j:Int)+1)=(j:Int)+1:=IntWalk.i64_in _ (by omega)
   clear hx hb hen hown how2 hown2 ho2 hO2 ho hr
   go_wp2_with fail
   refine(HB.out _).mono ?_
   rintro e w1 ⟨rfl,rfl⟩
   go_wp2_with fail
   go_roundw
   case rel=>exact⟨j+1,rfl,rfl,by omega,by rw[HEN.out];exact HOWN2.out,HO2.out⟩
   case measure=>simp[intOf];omega
  ·obtain rfl:j=cs.length:=by omega
   have ij:¬(cs.length:Int)<(cs.length:Int):=by omega
   have HO:=Lib.hid ho
   clear ho hown
   go_wp2_with fail
   go_ret2
   exact⟨⟨_,rfl⟩,HO.out⟩
theorem powers_any(x:Int)(w:World):Calls Tryz.prog 98 #[.int .i64 x] w fun e w' =>e= .returned (.func (.func 123) #[] #[.pointer (some ⟨w.heap.size,0,none⟩)])∧w' =w.alloc (.cells #[.int .i64 x] 3):=by
 go_enter Tryz.func98,Tryz.ntmps98
 go_wp2_with fail
 go_ret
 exact⟨rfl,rfl⟩
theorem keptA_lt{A:Nat}{W W' :World}(h:KeptA A W W')(hA:A<W.heap.size):A<W'.heap.size:=by
 rcases Nat.lt_or_ge A W'.heap.size with h1|h1
 ·exact h1
 ·have h2:W'.heap[A]? =W.heap[A]? :=h
  rw[Array.getElem?_eq_none h1,Array.getElem?_eq_getElem hA] at h2
  cases h2
theorem powS_lt(x k:Nat):x^k%lagN≤9223372036854775807:=by
 have h:x^k%lagN<lagN:=Nat.mod_lt _ (by decide)
 have h2:lagN=1152921504606845789:=rfl
 omega
set_option maxRecDepth 100000 in
set_option maxHeartbeats 1000000 in
theorem powers_ends(n A N x:Nat)(hN:N≤4611686018427387904)(hx:x≤9223372036854775807)(w:World)(hA:w.cell? ⟨A,0,none⟩=some (.int .i64 (x:Int))):
  SeqEnds Fence.wide n Tryz.prog 123 #[.pointer (some ⟨A,0,none⟩)] (fun k=> #[.int .i64 k,.int .i64 ((x^k%lagN:Nat):Int)]) (KeptA A) N w:=by
 intro l J Jx W hW hJ hJx hlt hY hj
 have hAw:=World.block_lt_of_cell? w _ hA
 have cA:=(hW.cell (p:=⟨A,0,none⟩) hAw).trans hA
 refine callsIn_of_wp Tryz.func123 rfl trivial ?_ rfl
 simp only[Tryz.ntmps123,List.size_toArray,List.length_cons,List.length_nil,Nat.reduceAdd,Nat.reduceSub,Array.replicate_succ,Array.replicate_zero,List.push_toArray,List.append_toArray,List.nil_append,List.cons_append]
 have HJ:=Lib.hid hJ
 have HLT:=Lib.hid hlt
 have HY:=Lib.hid hY
 have HJ0:=Lib.hid hj
 clear hJ hJx hlt hY hj hA
 gi_wp2
 gi_loopw [3,4] (fun v p wr=>∃k:Nat,v= .int .i64 k∧p= .int .i64 ((x^k%lagN:Nat):Int)∧J k wr∧KeptA A W wr∧A<wr.heap.size) (fun v _ _=>N-(intOf v).toNat)
 case atStart=>exact⟨0,rfl,rfl,HJ0.out,rfl,Nat.lt_of_lt_of_le hAw hW.size⟩
 case round=>
  obtain⟨k,rfl,rfl,hjk,hkp,hAr⟩:=hrel
  have hkN:=HLT.out k wr hjk
  obtain⟨fn,tmps,assign,body,hy,hR⟩:=HY.out k wr hjk
  obtain⟨p,ep⟩:∃p,p=x^k%lagN:=⟨_,rfl⟩
  rw[←ep] at hy⊢
  have hp:p≤9223372036854775807:=by rw[ep];exact powS_lt x k
  have EP:=Lib.hid ep
  have HR:=Lib.hid hR
  have HKP:=Lib.hid hkp
  clear hjk hR hkp ep
  gi_wp2
  refine⟨(fun h=>by cases h),HR.out.mono ?_⟩
  rintro e w4 (⟨rfl,hJ4,hk4⟩|⟨rfl,hJx4⟩)
  ·have hk5:=keptA_t HKP.out hk4
   have hA4:=keptA_lt hk4 hAr
   have c4:w4.cell? ⟨A,0,none⟩=some (.int .i64 (x:Int)):=(hk5.cell 0).trans cA
   have HK5:=Lib.hid hk5
   have HJ4:=Lib.hid hJ4
   have HA4:=Lib.hid hA4
   have k0:(0:Int)≤(k:Int):=by omega
   have k1:(k:Int)≤4611686018427387904:=by omega
   clear hk5 hJ4 hA4 hk4
   gi_wp2
   refine⟨trivial,(fun h=>by cases h),(callsIn_wide.2 (mulQ p x hp hx w4)).mono ?_⟩
   rintro e w5 ⟨rfl,q,rfl⟩
   have e1:p*x%lagN=x^(k+1)%lagN:=step_power EP.out
   rw[e1]
   have hJ5:J (k+1) (w4.drewN q):=HJ.out _ _ _ none HJ4.out (grown_of_only ((Only.refl NoneOf w4).drewN q)) (fun r e=>by cases e)
   have HJ5:=Lib.hid hJ5
   clear e1 hJ5
   gi_wp2
   go_roundw
   case rel=>exact⟨k+1,by go_num,rfl,HJ5.out,HK5.out,HA4.out⟩
   case measure=>simp[intOf];omega
  ·gi_wp2
   go_end0
   exact⟨⟨_,rfl⟩,_,hJx4⟩
end Go.Proofs.YtpdlbmieciabmaaGreatDoor
namespace Go.Proofs.YtpdlbmieciabmaaGreatDoor
open Go.RowKit
section
variable {P:Program} {ops:Array Oper} {md:Region.Mode} {C:Array Bool→World→Prop}
theorem wpOpIn_of_fOp(rd n:Nat)(hdf:∀o∈ops,∀c,o.op≠.defer c){i:Nat}{L:Array Bool}{a:Act}{K:Act→Prop}{K' :Act→World→Prop}{Q' :Exit→Act→World→Prop}{w:World}(hd:downB md ops L=true)(hr:i∈Region.ready md ops L)(hC:C L w)
  (h:∀a w',C (L.setIfInBounds i true) w'→K a→K' a w') (hh:fOp P md ops C i K a):wpOpIn (Fence.wide.inRound rd) n P ops Q' i K' a w:=by
 unfold fOp at hh
 unfold wpOpIn
 split
 ·rename_i ho
  obtain⟨_,o,ho',_⟩:=mem_ready.1 hr
  rw[ho] at ho'
  cases ho'
 ·rename_i o ho
  simp only[ho] at hh
  split
  ·rename_i hw
   simp only[hw,if_true] at hh
   obtain⟨v,h1,h2⟩:=hh
   have h3:=h1 L w hd hr hC
   have hpl:∀c,o.op≠.defer c:=hdf o (Array.mem_of_getElem? ho)
   refine⟨fun f _=>trivial,?_⟩
   rw[Oper.semAt_plain _ _ _ hpl]
   unfold flagAt at h3
   generalize (execOp a.eval o).run P w=r at *
   cases r with
   |ok n w' =>
    cases n<;>simp only[flagUpon] at h3<;>simp only[Oper.uponIn]
    case value u=>
     obtain⟨e1,e2⟩:=h3
     rw[e2]
     exact h _ _ e1 h2
    case skip=>
     obtain⟨e1,e2⟩:=h3
     rw[←e2]
     exact h _ _ e1 h2
    case enter f args=>exact⟨(fun h=>by cases h),(CallsIn.inRound rd (callsIn_wide.2 h3)).mono fun e w'' ⟨he,hw''⟩=>by subst he;exact h _ _ hw'' h2⟩
   |halt x w' =>simp only[flagUpon] at h3
  ·rename_i hw
   simp only[hw] at hh
   exact⟨fun f _=>trivial,h _ _ (hh.1 L w hd hr hC) hh.2⟩
theorem wpAnyIn_of_flag(rd n:Nat)(hdf:∀o∈ops,∀c,o.op≠.defer c){Q:Act→Prop}{Q' :Exit→Act→World→Prop}(hQ:∀L a w,downB md ops L=true→Region.ready md ops L=[]→C L w→Q a→Q' .normal a w):∀(fuel:Nat) (listed:Array Bool) (a:Act) (w:World),downB md ops listed=true→C listed w→
  wpAnyF P md ops C Q fuel listed a→wpAnyIn (Fence.wide.inRound rd) n P md ops Q' fuel listed a w
 |0,_,_,_,hd,hw,h=>⟨h.1,hQ _ _ _ hd h.1 hw h.2⟩
 |fuel+1,_,_,_,hd,hw,h=>⟨fun h0=>hQ _ _ _ hd h0 hw (h.1 h0),fun i hi=>wpOpIn_of_fOp rd n hdf hd hi hw (fun a' w' hw' =>wpAnyIn_of_flag rd n hdf hQ fuel _ a' w' (down_set hd hi) hw') (h.2 i hi)⟩
def noDefer(ops:Array Oper):Bool:=ops.all fun o=>match o.op with| .defer _=>false|_=>true
theorem noDefer_spec{ops:Array Oper}(h:noDefer ops=true):∀o∈ops,∀c,o.op≠.defer c:=fun o ho c e=>by
 have h1:=Array.all_eq_true_iff_forall_mem.1 h o ho
 rw[e] at h1
 cases h1
theorem wpIn_region_flag(rd n:Nat){id:Nat}{Q:Exit→Act→World→Prop}{a:Act}{w:World}{l:List Oper}(C:Array Bool→World→Prop)(hm:P.follows .mixedOrders =true)(hB:Region.lexB .any l.toArray=true)(hF:fwdB .any l.toArray=true)(hdf:noDefer l.toArray=true)(h0:downB .any l.toArray (Array.replicate l.toArray.size false)=true)
  (hC:C (Array.replicate l.toArray.size false) w.drew)
  (h:wpFlag P .any l.toArray C (fun a' =>∀L w',(∀i,i<l.toArray.size→L.getD i false=true)→C L w'→Q .normal a' w') 0 l a):(Code.region id l.toArray true).wpIn (Fence.wide.inRound rd) n P Q a w:=by
 simp only[Region.lexB,Bool.and_eq_true] at hB
 refine wpIn_region_any hm (wpAnyIn_of_flag rd n (noDefer_spec hdf) (Q:=fun a' =>∀L w',(∀i,i<l.toArray.size→L.getD i false=true)→C L w'→Q .normal a' w') (fun L _ w' hd hr hw' h=>h L w' (all_done hF hd hr) hw') _ _ _ _ h0 hC ?_)
 have:=wpAnyF_lex (C:=C) (md:= .any) hB.1 l 0 (Array.replicate l.toArray.size false) a (by simp) (by simpa using hB.2) h
 simpa using this
def chainB(md:Region.Mode)(ops:Array Oper)(m:Nat):Bool:=(List.range m).all fun i=>(List.range (m+1)).any fun j=>decide (i<j)&&depB md ops j i
theorem chain_all{m:Nat}{L:Array Bool}(hc:chainB md ops m=true)(hd:downB md ops L=true)(hm:L.getD m false=true):∀k i,m-i=k→i≤m→L.getD i false=true:=by
 intro k
 induction k using Nat.strongRecOn with
 |ind k ih=>
  intro i hk hi
  by_cases e:i=m
  ·rw[e];exact hm
  ·unfold chainB at hc
   have h1:=List.all_eq_true.1 hc i (List.mem_range.2 (by omega))
   obtain⟨j,hj,h2⟩:=List.any_eq_true.1 h1
   simp only[Bool.and_eq_true,decide_eq_true_eq] at h2
   have hj2:=List.mem_range.1 hj
   exact down_dep hd (ih (m-j) (by omega) j rfl (by omega)) h2.2
def Tl(S T:World→Prop)(m:Nat)(L:Array Bool)(W:World):Prop:=(L.getD m false=false→S W)∧(L.getD m false=true→T W)
theorem Tl.start{S T:World→Prop}{m:Nat}(k:Nat){W:World}(h:S W):Tl S T m (Array.replicate k false) W:=⟨fun _=>h,fun e=>absurd ((getD_replicate_false' k m).symm.trans e) (by decide)⟩
theorem Tl.ahead{S T:World→Prop}{m i:Nat}{L:Array Bool}{W:World}(h:Tl S T m L W)(hc:chainB md ops m=true)(hd:downB md ops L=true)(hr:i∈Region.ready md ops L)(hi:i<m):S W∧∀W',S W'→Tl S T m (L.setIfInBounds i true) W' :=by
 have hf:L.getD m false=false:=by
  cases e:L.getD m false with
  |false=>rfl
  |true=>
   have h1:=chain_all hc hd e (m-i) i rfl (by omega)
   rw[ready_undone hr] at h1
   cases h1
 refine⟨h.1 hf,fun W' hW' =>⟨fun _=>hW',fun e=> ?_⟩⟩
 rw[set_other (show i≠m by omega),hf] at e
 cases e
theorem Tl.last{S T:World→Prop}{m:Nat}{L:Array Bool}{W:World}(h:Tl S T m L W)(hr:m∈Region.ready md ops L):S W∧∀W',T W'→Tl S T m (L.setIfInBounds m true) W' :=by
 refine⟨h.1 (ready_undone hr),fun W' hW' =>⟨fun e=> ?_,fun _=>hW'⟩⟩
 rw[set_same (ready_lt hr)] at e
 cases e
end
end Go.Proofs.YtpdlbmieciabmaaGreatDoor
namespace Go.Proofs.YtpdlbmieciabmaaGreatDoor
open Go.RowKit Go.Shelf
def noLet(r:Nat):Bool:=decide (r<97)||decide (122<r)
theorem decode_let(s:ByteArray)(i:Nat):noLet (Utf8.decode s i).1 = !isLet (s.get! i)∧(isLet (s.get! i)=true→(Utf8.decode s i).2 =1):=by
 have hb:=(s.get! i).toNat_lt
 have h0:s.get! (i+0)=s.get! i:=rfl
 unfold isLet
 by_cases hA:(s.get! i).toNat <128
 ·have e:Utf8.decode s i=((s.get! i).toNat,1):=by
   unfold Utf8.decode
   simp only[h0]
   rw[if_pos hA]
  rw[e]
  refine⟨?_,fun _=>rfl⟩
  unfold noLet
  by_cases h1:(s.get! i).toNat <97<;>by_cases h2:122<(s.get! i).toNat <;>simp[h1,h2]<;>omega
 ·have hn:¬(97≤(s.get! i).toNat∧(s.get! i).toNat≤122):=by omega
  refine⟨?_,fun h=>absurd (of_decide_eq_true h) hn⟩
  rw[decide_eq_false hn]
  have key:122<(Utf8.decode s i).1 :=by
   unfold Utf8.decode
   simp only[h0]
   rw[if_neg hA]
   have r0:(122:Nat)<Utf8.runeError:=by decide
   split
   ·split
    ·rename_i h;exact Nat.lt_of_lt_of_le (by omega) h
    ·exact r0
   ·split
    ·split
     ·rename_i h
      rw[Bool.and_eq_true] at h
      exact Nat.lt_of_lt_of_le (by omega) (of_decide_eq_true h.1)
     ·exact r0
    ·split
     ·split
      ·rename_i h
       rw[Bool.and_eq_true] at h
       exact Nat.lt_of_lt_of_le (by omega) (of_decide_eq_true h.1)
      ·exact r0
     ·exact r0
  unfold noLet
  rw[decide_eq_true key,Bool.or_true]
  rfl
theorem idx_let(s:ByteArray):∀(f pos:Nat),s.size≤pos+f→decide (0≤Lib.idxFuncFrom noLet true s f pos)= !(s.data.toList.drop pos).all isLet
 |0,pos,h=>by
  have e:s.data.toList.drop pos=[]:=List.drop_eq_nil_of_le (by rw[←size_list];omega)
  rw[e]
  rfl
 |f+1,pos,h=>by
  unfold Lib.idxFuncFrom
  by_cases hp:pos<s.size
  ·rw[if_pos hp]
   have hl:pos<s.data.toList.length:=by rw[←size_list];exact hp
   obtain⟨d1,d2⟩:=decode_let s pos
   have hg:s.get! pos=s.data.toList[pos]:=by
    show s.data[pos]! =_
    rw[getElem!_pos s.data pos hp,Array.getElem_toList]
   rw[List.drop_eq_getElem_cons hl,List.all_cons,←hg]
   cases hx:isLet (s.get! pos) with
   |true=>
    rw[hx] at d1
    rw[if_neg (by rw[d1];decide),d2 hx,idx_let s f (pos+1) (by omega),Bool.true_and]
   |false=>
    rw[hx] at d1
    rw[if_pos (by rw[d1];rfl),Bool.false_and]
    exact decide_eq_true (by omega)
  ·rw[if_neg hp]
   have e:s.data.toList.drop pos=[]:=List.drop_eq_nil_of_le (by rw[←size_list];omega)
   rw[e]
   rfl
end Go.Proofs.YtpdlbmieciabmaaGreatDoor
namespace Go.Proofs.YtpdlbmieciabmaaGreatDoor
open Go.RowKit Go.Shelf
theorem let_pred(w:World):PredAt Tryz.prog 93 #[] encR noLet w:=fun W r _=>by
 unfold FnGives
 by_cases h1:r<97<;>by_cases h2:122<r
 all_goals
  have z1:(r:Int)<97↔r<97:=by omega
  have z2:(122:Int)<(r:Int)↔122<r:=by omega
  go_enter Tryz.func93,Tryz.ntmps93
  go_wp2
  all_goals first|(exfalso;omega)|(go_ret;exact⟨by simp[noLet,h1,h2],0,rfl⟩)
theorem contains_let(s:ByteArray)(w:World):Calls Tryz.prog 92 #[.string s,.func (.func 93) #[] #[]] w fun e w' =>e= .returned (.bool (!s.data.toList.all isLet))∧Only NoneOf w w' :=
 (Tryz.strings_ContainsFunc 93 #[] (enters_of Tryz.func93 (by kernel_rfl) rfl) noLet s w (let_pred w)).mono fun e w' h=>by
  obtain⟨rfl,hb⟩:=h
  refine⟨?_,Only.of_below hb _⟩
  have e:decide (0≤Lib.idxFunc noLet true s)= !(s.data.toList.drop 0).all isLet:=idx_let s s.size 0 (by omega)
  rw[e,List.drop_zero]
theorem ba_nil{s:ByteArray}:s=⟨#[]⟩↔s.data.toList=[]:=⟨fun h=>by rw[h],fun h=>ba_ext h⟩
set_option maxRecDepth 100000 in
set_option maxHeartbeats 400000 in
theorem isword_any(s:ByteArray)(w:World):Calls Tryz.prog 61 #[.string s] w fun e w' =>e= .returned (.bool (isWordL s.data.toList))∧Only NoneOf w w' :=by
 by_cases h0:s=⟨#[]⟩
 ·subst h0
  go_enter Tryz.func61,Tryz.ntmps61
  go_wp2_with fail
  go_ret
  exact⟨rfl,Only.refl _ _⟩
 ·have b1:=tx_someF h0
  have hw:isWordL s.data.toList=s.data.toList.all isLet:=by
   unfold isWordL
   have h2:s.data.toList≠[]:=fun e=>h0 (ba_nil.2 e)
   cases hl:s.data.toList with
   |nil=>exact absurd hl h2
   |cons c l=>rfl
  rw[hw]
  clear h0 hw
  go_enter Tryz.func61,Tryz.ntmps61
  go_wp2_with fail
  refine(contains_let s w).mono ?_
  rintro e w1 ⟨rfl,ho⟩
  go_wp2_with fail
  go_ret
  exact⟨by simp,ho⟩
def lotB:ByteArray:=⟨#[108,111,116]⟩
theorem lot_eq{s:ByteArray}:s=lotB↔s.data.toList=wLot:=⟨fun h=>by rw[h];rfl,fun h=>ba_ext h⟩
theorem right_take{es:List En}{k:Nat}{e:En}(h:es[k]? =some e)(hr:rightL (es.take k)=true)(he:(e.values.all fun v=>goodN v.name.data.toList)=true):rightL (es.take (k+1))=true:=by
 unfold rightL at hr⊢
 rw[List.take_add_one,h,Option.toList_some,List.all_append,hr,List.all_cons,he]
 rfl
theorem vals_take{vs:List Vl}{j:Nat}{v:Vl}(h:vs[j]? =some v)(hr:((vs.take j).all fun v=>goodN v.name.data.toList)=true)(he:goodN v.name.data.toList=true):((vs.take (j+1)).all fun v=>goodN v.name.data.toList)=true:=by
 rw[List.take_add_one,h,Option.toList_some,List.all_append,hr,List.all_cons,he]
 rfl
theorem not_right{es:List En}{e:En}{v:Vl}(he:e∈es)(hv:v∈e.values)(h:goodN v.name.data.toList=false):rightL es=false:=by
 cases hr:rightL es with
 |false=>rfl
 |true=>rw[right_val hr he hv] at h;cases h
theorem vl_at{w:World}{v:Value}{vs:List Vl}(h:SlOf vlC 2 w v vs):∃A cap,v= .slice A vs.length cap∧vs.length≤cap∧cap≤9223372036854775807∧∀(j:Nat) (x:Vl),vs[j]? =some x→∃g o,A=some ⟨g,o,none⟩∧g<w.heap.size∧w.cell? ⟨g,o+j*2,none⟩=some (.string x.name)∧w.cell? ⟨g,o+j*2+1,none⟩=some (.int .i64 x.n):=by
 obtain⟨A,cap,h1,h2,h3,h4⟩:=h
 refine⟨A,cap,h1,h2,h3,fun j x hx=> ?_⟩
 obtain⟨g,o,hA,hg,hr⟩:=h4 j x hx
 exact⟨g,o,hA,hg,hr 0 _ rfl,hr 1 _ rfl⟩
theorem en_at{w:World}{v:Value}{es:List En}(h:EnSl w v es):∃A cap,v= .slice A es.length cap∧es.length≤cap∧cap≤9223372036854775807∧∀(i:Nat) (e:En),es[i]? =some e→∃g o u,A=some ⟨g,o,none⟩∧g<w.heap.size∧w.cell? ⟨g,o+i*5,none⟩=some (.int .i64 0)∧w.cell? ⟨g,o+i*5+1,none⟩=some (.int .i64 e.lot)∧w.cell? ⟨g,o+i*5+2,none⟩=some (.int .i64 0)∧w.cell? ⟨g,o+i*5+3,none⟩=some (.int .i64 e.price)∧w.cell? ⟨g,o+i*5+4,none⟩=some u∧SlOf vlC 2 w u e.values:=by
 obtain⟨A,n,cap,rfl⟩:∃A n cap,v= .slice A n cap:=by
  obtain⟨L,_,⟨A,cap,hv,_⟩,_⟩:=h
  exact⟨_,_,_,hv⟩
 obtain⟨rfl,h1,h2,h3⟩:=h.at_
 refine⟨A,cap,rfl,h1,h2,fun i e he=> ?_⟩
 obtain⟨g,o,c,hA,hg,hr,e1,e2,e3⟩:=h3 i e he
 refine⟨g,o,c.v,hA,hg,hr 0 _ rfl,?_,hr 2 _ rfl,?_,hr 4 _ rfl,e3⟩
 ·rw[←e1];exact hr 1 _ rfl
 ·rw[←e2];exact hr 3 _ rfl
set_option maxRecDepth 100000 in
set_option maxHeartbeats 1000000 in
theorem right_any(es:List En)(v:Value)(w:World)(h:EnSl w v es):Calls Tryz.prog 35 #[v] w fun e w' =>e= .returned (.bool (rightL es))∧Only NoneOf w w' :=by
 obtain⟨A,cap,rfl,hc1,hc2,hat⟩:=en_at h
 have HAT:=Lib.hid hat
 clear hat h
 go_enter Tryz.func35,Tryz.ntmps35
 go_wp2_with fail
 go_loopw [9] (fun i wr=>∃k:Nat,i= .int .i64 k∧k≤es.length∧rightL (es.take k)=true∧Only NoneOf w wr) (fun i _=>es.length-(intOf i).toNat)
 case atStart=>exact⟨0,rfl,Nat.zero_le _,rfl,Only.refl _ _⟩
 case round=>
  obtain⟨k,rfl,hk,hr,ho⟩:=hrel
  have HR:=Lib.hid hr
  have HO:=Lib.hid ho
  clear hr ho
  by_cases hlt:k<es.length
  ·obtain⟨x,hx⟩:∃x,es[k]? =some x:=⟨_,List.getElem?_eq_getElem hlt⟩
   obtain⟨g,o,u,rfl,hg,c0,c1,c2,c3,c4,hvs⟩:=HAT.out k x hx
   obtain⟨A2,cap2,rfl,hd1,hd2,hvat⟩:=vl_at hvs
   have d0:=HO.out.cell_some c0 (fun e=>e)
   have d1:=HO.out.cell_some c1 (fun e=>e)
   have d2:=HO.out.cell_some c2 (fun e=>e)
   have d3:=HO.out.cell_some c3 (fun e=>e)
   have d4:=HO.out.cell_some c4 (fun e=>e)
   have HX:=Lib.hid hx
   have HV:=Lib.hid hvat
   have ik:(k:Int)<es.length:=by omega
   have hxm:=Lib.hid (List.mem_of_getElem? hx)
   clear hx hvat hvs c0 c1 c2 c3 c4
   go_wp2_with fail
   go_loopw [16] (fun i wr=>∃j:Nat,i= .int .i64 j∧j≤x.values.length∧((x.values.take j).all fun v=>goodN v.name.data.toList)=true∧Only NoneOf w wr) (fun i _=>x.values.length-(intOf i).toNat)
   case atStart=>exact⟨0,rfl,Nat.zero_le _,rfl,HO.out.alloc _⟩
   case round=>
    obtain⟨j,rfl,hj,hr2,ho2⟩:=hrel
    have HR2:=Lib.hid hr2
    have HO2:=Lib.hid ho2
    clear hr2 ho2 d0 d1 d2 d3 d4
    by_cases hlj:j<x.values.length
    ·obtain⟨y,hy⟩:∃y,x.values[j]? =some y:=⟨_,List.getElem?_eq_getElem hlj⟩
     obtain⟨g2,o2,rfl,hg2,c0,c1⟩:=HV.out j y hy
     have d0:=HO2.out.cell_some c0 (fun e=>e)
     have d1:=HO2.out.cell_some c1 (fun e=>e)
     have ij:(j:Int)<x.values.length:=by omega
     have HY:=Lib.hid hy
     have hbn:=Blk.new wr 84 #[.string y.name,.int .i64 y.n]
     have HBN:=Lib.hid hbn
     clear hy c0 c1 hbn
     go_wp2_with fail
     refine(isword_any y.name _).mono ?_
     rintro e w1 ⟨rfl,ho1⟩
     have e0:=(HBN.out.only ho1 (fun e=>e)).cell 0
     simp only[List.getElem?_toArray,List.getElem?_cons_zero] at e0
     have HO3:=Lib.hid ((HO2.out.alloc _).trans ho1)
     clear ho1
     cases hw:isWordL y.name.data.toList with
     |false=>
      have hf:rightL es=false:=not_right hxm.out (List.mem_of_getElem? HY.out) (by unfold goodN;rw[hw];rfl)
      have HF:=Lib.hid hf
      clear hf hw
      go_wp2_with fail
      go_ret
      exact⟨by rw[HF.out];rfl,HO3.out⟩
     |true=>
      by_cases hl:y.name=lotB
      ·have hf:rightL es=false:=not_right hxm.out (List.mem_of_getElem? HY.out) (by unfold goodN;rw[lot_eq.1 hl];rfl)
       have HF:=Lib.hid hf
       have b1:=tx_litT (lot_eq.1 hl)
       unfold wLot at b1
       clear hf hw hl
       go_wp2_with fail
       go_ret
       exact⟨by rw[HF.out];rfl,HO3.out⟩
      ·have b1:=tx_litF (fun e=>hl (lot_eq.2 e))
       unfold wLot at b1
       have hgd:goodN y.name.data.toList=true:=by
        unfold goodN
        rw[hw,Bool.true_and]
        exact bne_iff_ne.2 (fun e=>hl (lot_eq.2 e))
       have HG:=Lib.hid (vals_take HY.out HR2.out hgd)
       clear hgd hw hl
       go_wp2_with fail
       go_roundw
       case rel=>exact⟨j+1,by go_num,by omega,HG.out,HO3.out⟩
       case measure=>simp[intOf];omega
    ·obtain rfl:j=x.values.length:=by omega
     have ij:¬(x.values.length:Int)<x.values.length:=by omega
     have hall:=HR2.out
     rw[List.take_of_length_le (Nat.le_refl _)] at hall
     have HG:=Lib.hid (right_take HX.out HR.out hall)
     clear hall
     go_wp2_with fail
     go_roundw
     case rel=>exact⟨k+1,by go_num,by omega,HG.out,HO2.out⟩
     case measure=>simp[intOf];omega
  ·obtain rfl:k=es.length:=by omega
   have ik:¬(es.length:Int)<es.length:=by omega
   have hall:=HR.out
   rw[List.take_of_length_le (Nat.le_refl _)] at hall
   have HF:=Lib.hid hall
   clear hall
   go_wp2_with fail
   go_ret
   exact⟨by rw[HF.out];rfl,HO.out⟩
end Go.Proofs.YtpdlbmieciabmaaGreatDoor
