/-What is proved here:several parts. a bid made as the argument says. Conditions:the numbers are ints and bytes. · loads and stores of structs in a region that draws its order;no function of the program. No conditions. -/
import Derived.Test.YtpdlbmieciabmaaGreatDoorPm01
import Derived.Test.YtpdlbmieciabmaaGreatDoorPm03
import Derived.Test.YtpdlbmieciabmaaGreatDoorPm25
import Derived.Test.YtpdlbmieciabmaaGreatDoorPm26
import Derived.Test.YtpdlbmieciabmaaGreatDoorPm28
import Derived.Deep.MidRow
namespace Go.Proofs.YtpdlbmieciabmaaGreatDoor
open Go.RowKit Go.Shelf
def needOf(a:Nat):Int:=((a%16:Nat):Int)-1
def mdeO(n:Int)(s:ByteArray)(need off:Int)(o:Of)(wild:Bool):Mde:=mde n (sdT s).data.toList need off (mkEs wild o) (mkRs o)
theorem bmakeO(n:Int)(hn:In n)(s:ByteArray)(need off:Int)(o:Of)(hok:o.Ok)(wild:Bool)(v u:Value)(w:World)(h:EnSl w v (mkEs wild o))(hrb:RbSl w u (mkRs o))(ht:Tab w):Calls Tryz.prog 11 #[.int .i64 n,.string (sdT s),.int .i64 need,.int .i64 off,v,u] w (MkdE (mdeO n s need off o wild) w):=
 bmake_any n hn (sdT s) (by have:=sdT_size s;omega) need off (mkEs wild o) (mkRs o) (mkEs_in hok wild) (mkRs_in hok) (by have:=mkEs_text hok wild;omega) (by have:=qualL_len hok wild;omega) (by have:=mkPr_text hok wild;omega) v u w h hrb ht
set_option maxRecDepth 100000 in
set_option maxHeartbeats 4000000 in
theorem make_made(n:Int)(hn:In n)(s:ByteArray)(a b:Nat)(ha:a<256)(hb:b<256)(o:Of)(hok:o.Ok)(wild:Bool)(ov:Value)(w:World)(h:OfAt w ov o)(ht:Tab w):Calls Tryz.prog 27 #[.agg #[.int .i64 n,.string s,.int .u8 (a:Int),.int .u8 (b:Int)],ov,.bool wild] w (MkdE (mdeO n s (needOf a) (needOf b) o wild) w):=by
 have hov:=h
 obtain⟨ev,rv,rfl,_,_⟩:=h
 obtain⟨P,eP⟩:∃P,P=w.heap.size:=⟨_,rfl⟩
 obtain⟨R,eR⟩:∃R,R=w.heap.size+2:=⟨_,rfl⟩
 obtain⟨X,eX⟩:∃X,X=(w.alloc (.cells #[.int .i64 n,.string s,.int .u8 (a:Int),.int .u8 (b:Int)] tMd)).alloc (.cells #[ev,rv] tOf):=⟨_,rfl⟩
 obtain⟨Y,eY⟩:∃Y,Y=(X.alloc (.cells zB tBid)).alloc (.cells zS tShs):=⟨_,rfl⟩
 have hX:Only NoneOf w X:=by rw[eX];exact((Only.refl _ _).alloc _).alloc _
 have hY:Only NoneOf X Y:=by rw[eY];exact((Only.refl _ _).alloc _).alloc _
 have hs:X.heap.size=R:=by rw[eX,eR];simp
 have HP:=Lib.hid (show Blk X P tMd #[.int .i64 n,.string s,.int .u8 (a:Int),.int .u8 (b:Int)] by rw[eX,eP];exact(Blk.new w _ _).alloc _)
 have hO:Blk Y (P+1) tOf #[ev,rv]:=by
  refine Blk.only ?_ hY (fun e=>e)
  have h2:=Blk.new (w.alloc (.cells #[.int .i64 n,.string s,.int .u8 (a:Int),.int .u8 (b:Int)] tMd)) tOf #[ev,rv]
  rw[World.size_alloc,←eP,←eX] at h2
  exact h2
 have hA:Blk Y R tBid zB:=by rw[eY,←hs];exact(Blk.new X _ _).alloc _
 have hB:Blk Y (R+1) tShs zS:=by
  have h2:=Blk.new (X.alloc (.cells zB tBid)) tShs zS
  rw[World.size_alloc,hs,←eY] at h2
  exact h2
 have o0:=hO.cell 0
 have o1:=hO.cell 1
 have HOY:=Lib.hid (hov.only (hX.trans hY))
 have HXY:=Lib.hid hY
 have HWX:=Lib.hid hX
 have HT:=Lib.hid ht
 have HA:=Lib.hid hA
 have HB:=Lib.hid hB
 have HS:=Lib.hid hs
 have EY:=Lib.hid eY
 have EX:=Lib.hid eX
 have ER:=Lib.hid (show w.heap.size+1+1=R by rw[eR])
 have ER1:=Lib.hid (show w.heap.size+1+1+1=R+1 by rw[eR])
 have EP:=Lib.hid eP
 obtain⟨a16,ea⟩:∃x,x=a%16:=⟨_,rfl⟩
 obtain⟨b16,eb⟩:∃x,x=b%16:=⟨_,rfl⟩
 have en:needOf a=(a16:Int)-1:=by rw[ea];rfl
 have eo:needOf b=(b16:Int)-1:=by rw[eb];rfl
 have t1:(a:Int).tmod 16=(a16:Int):=by rw[Int.tmod_eq_emod_of_nonneg (by omega)];omega
 have t2:(b:Int).tmod 16=(b16:Int):=by rw[Int.tmod_eq_emod_of_nonneg (by omega)];omega
 have c1:IntKind.i64.wrap (a16:Int)=(a16:Int):=IntWalk.i64_in _ (by omega)
 have c2:IntKind.i64.wrap (b16:Int)=(b16:Int):=IntWalk.i64_in _ (by omega)
 have s1:IntKind.i64.wrap ((a16:Int)-1)=(a16:Int)-1:=IntWalk.i64_in _ (by omega)
 have s2:IntKind.i64.wrap ((b16:Int)-1)=(b16:Int)-1:=IntWalk.i64_in _ (by omega)
 have la:a16<16:=by omega
 have lb:b16<16:=by omega
 rw[en,eo]
 obtain⟨m,em⟩:∃m,m=mdeO n s ((a16:Int)-1) ((b16:Int)-1) o wild:=⟨_,rfl⟩
 rw[←em]
 have EM:=Lib.hid em
 clear hX hY hs hO hA hB eX eY eR eP hov ht en eo ea eb em
 go_enter Tryz.func27,Tryz.ntmps27
 go_upto_region 1 with(fail)
 rw[←EX.out]
 rw[←EY.out]
 rw[ER1.out]
 rw[ER.out]
 rw[←EP.out]
 go_wp2_with fail
 refine(make16_any o hok wild (.agg #[ev,rv]) Y HOY.out).mono ?_
 rintro e wA ⟨ev2,rv2,rfl,hen,hrb,ho2⟩
 obtain⟨EA,en,ek,rfl⟩:∃A n c,ev2= .slice A n c:=by
  obtain⟨A,c,e,_⟩:=hen.form
  exact⟨A,_,c,e⟩
 obtain⟨RA,rn,rk,rfl⟩:∃A n c,rv2= .slice A n c:=by
  obtain⟨A,c,e,_⟩:=hrb.form
  exact⟨A,_,c,e⟩
 have HD:=Lib.hid ((HXY.out.trans ho2).drew)
 have HAD:=Lib.hid (Blk.drew (HA.out.only ho2 (fun e=>e)))
 have HBD:=Lib.hid (Blk.drew (HB.out.only ho2 (fun e=>e)))
 have htA:=HT.out.none (HWX.out.trans (HXY.out.trans ho2))
 have HMK:Hid (∀W,Only NoneOf wA W→Calls Tryz.prog 11 #[.int .i64 n,.string (sdT s),.int .i64 ((a16:Int)-1),.int .i64 ((b16:Int)-1),.slice EA en ek,.slice RA rn rk] W (MkdE m W)):=Lib.hid (fun W hW=>by
  rw[EM.out]
  exact bmakeO n hn s _ _ o hok wild _ _ W (hen.sl.only hW) (hrb.sl.only hW) (htA.none hW))
 clear hen hrb ho2 htA
 go_upto_region 2 with(fail)
 refine wp_region_choice (MdQ X wA R [(0,.pointer (some ⟨P,0,none⟩)),(1,.int .i64 n),(2,.agg #[.int .i64 n,.string s,.int .u8 (a:Int),.int .u8 (b:Int)]),(3,.string (sdT s)),(4,.pointer (some ⟨P,2,none⟩)),(5,.int .u8 (a:Int)),(6,.int .u8 (a16:Int)),(7,.int .i64 (a16:Int)),(8,.int .i64 ((a16:Int)-1)),(9,.pointer (some ⟨P,3,none⟩)),(10,.int .u8 (b:Int)),(11,.int .u8 (b16:Int)),(12,.int .i64 (b16:Int)),(13,.int .i64 ((b16:Int)-1)),(14,.slice EA en ek),(15,.slice RA rn rk),(22,.int .i64 m.code)] (⟨16,17,18,19,20,21⟩:Jx) (m)) 37 (by kernel_rfl) (by kernel_rfl) (by kernel_rfl) (by kernel_rfl) (by simp) (MdQ.start _ _ HD.out ((Only.refl NoneOf wA).drew) (Nat.le_of_eq HS.out) HAD.out HBD.out) ?_ ?_
 have hdif:(⟨16,17,18,19,20,21⟩:Jx).Dif :=Jx.dif (by decide)
 refine⟨?_,?_,?_,?_,?_,?_,?_,?_,?_,?_,?_,?_,?_,?_,?_,?_,?_,?_,?_,?_,?_,?_,?_,trivial⟩
 ·intro vals L W ρ hdn hr hC hd ho hx
  have e:ρ (.tmp 3)= .pointer (some ⟨P,0,none⟩):=ho 3 (by kernel_rfl)
  simp[stepR,go_sem,e]
  exact hC.pure_ (by decide) (pv_only (by kernel_rfl) (k:=0) rfl)
 ·intro vals L W ρ hdn hr hC hd ho hx
  have e:ρ (.tmp 17)=_:=(hd 0 17 (by kernel_rfl) rfl).trans (hC.pure _ (List.mem_of_getElem? (i:=0) rfl) (ready_dep hr (j:=0) (by kernel_rfl)))
  have c:=(HP.out.only hC.only (fun e=>e)).cell 0
  simp[stepR,go_sem,e,c]
  exact hC.pure_ (by decide) (pv_only (by kernel_rfl) (k:=1) rfl)
 ·intro vals L W ρ hdn hr hC hd ho hx
  have e:ρ (.tmp 3)= .pointer (some ⟨P,0,none⟩):=ho 3 (by kernel_rfl)
  exact step_load rfl e (HP.out.only hC.only (fun e=>e)) Tryz.underlying23 rfl (by kernel_rfl) (hC.pure_ (by decide) (pv_only (by kernel_rfl) (k:=2) rfl))
 ·intro vals L W ρ hdn hr hC hd ho hx
  have e:ρ (.tmp 19)=_:=(hd 2 19 (by kernel_rfl) rfl).trans (hC.pure _ (List.mem_of_getElem? (i:=2) rfl) (ready_dep hr (j:=2) (by kernel_rfl)))
  have hf:ρ (.func 12)= .func (.func 12) #[] #[]:=hx _ (fun s e=>by cases e)
  simp[stepR,go_sem,e,hf]
  refine(seed16_any n s a b W).mono ?_
  rintro e9 W2 ⟨rfl,ho2⟩
  exact⟨_,rfl,(hC.none_ ho2).pure_ (by decide) (pv_only (by kernel_rfl) (k:=3) rfl)⟩
 ·intro vals L W ρ hdn hr hC hd ho hx
  have e:ρ (.tmp 3)= .pointer (some ⟨P,0,none⟩):=ho 3 (by kernel_rfl)
  simp[stepR,go_sem,e]
  exact hC.pure_ (by decide) (pv_only (by kernel_rfl) (k:=4) rfl)
 ·intro vals L W ρ hdn hr hC hd ho hx
  have e:ρ (.tmp 21)=_:=(hd 4 21 (by kernel_rfl) rfl).trans (hC.pure _ (List.mem_of_getElem? (i:=4) rfl) (ready_dep hr (j:=4) (by kernel_rfl)))
  have c:=(HP.out.only hC.only (fun e=>e)).cell 2
  simp[stepR,go_sem,e,c]
  exact hC.pure_ (by decide) (pv_only (by kernel_rfl) (k:=5) rfl)
 ·intro vals L W ρ hdn hr hC hd ho hx
  have e:ρ (.tmp 22)=_:=(hd 5 22 (by kernel_rfl) rfl).trans (hC.pure _ (List.mem_of_getElem? (i:=5) rfl) (ready_dep hr (j:=5) (by kernel_rfl)))
  have hk:ρ (.const (.int .u8 16))= .int .u8 16:=hx _ (fun s e=>by cases e)
  simp[stepR,go_sem,e,hk,t1]
  exact hC.pure_ (by decide) (pv_only (by kernel_rfl) (k:=6) rfl)
 ·intro vals L W ρ hdn hr hC hd ho hx
  have e:ρ (.tmp 23)=_:=(hd 6 23 (by kernel_rfl) rfl).trans (hC.pure _ (List.mem_of_getElem? (i:=6) rfl) (ready_dep hr (j:=6) (by kernel_rfl)))
  simp[stepR,go_sem,e,c1]
  exact hC.pure_ (by decide) (pv_only (by kernel_rfl) (k:=7) rfl)
 ·intro vals L W ρ hdn hr hC hd ho hx
  have e:ρ (.tmp 24)=_:=(hd 7 24 (by kernel_rfl) rfl).trans (hC.pure _ (List.mem_of_getElem? (i:=7) rfl) (ready_dep hr (j:=7) (by kernel_rfl)))
  have hk:ρ (.const (.int .i64 1))= .int .i64 1:=hx _ (fun s e=>by cases e)
  simp[stepR,go_sem,e,hk,s1]
  exact hC.pure_ (by decide) (pv_only (by kernel_rfl) (k:=8) rfl)
 ·intro vals L W ρ hdn hr hC hd ho hx
  have e:ρ (.tmp 3)= .pointer (some ⟨P,0,none⟩):=ho 3 (by kernel_rfl)
  simp[stepR,go_sem,e]
  exact hC.pure_ (by decide) (pv_only (by kernel_rfl) (k:=9) rfl)
 ·intro vals L W ρ hdn hr hC hd ho hx
  have e:ρ (.tmp 26)=_:=(hd 9 26 (by kernel_rfl) rfl).trans (hC.pure _ (List.mem_of_getElem? (i:=9) rfl) (ready_dep hr (j:=9) (by kernel_rfl)))
  have c:=(HP.out.only hC.only (fun e=>e)).cell 3
  simp[stepR,go_sem,e,c]
  exact hC.pure_ (by decide) (pv_only (by kernel_rfl) (k:=10) rfl)
 ·intro vals L W ρ hdn hr hC hd ho hx
  have e:ρ (.tmp 27)=_:=(hd 10 27 (by kernel_rfl) rfl).trans (hC.pure _ (List.mem_of_getElem? (i:=10) rfl) (ready_dep hr (j:=10) (by kernel_rfl)))
  have hk:ρ (.const (.int .u8 16))= .int .u8 16:=hx _ (fun s e=>by cases e)
  simp[stepR,go_sem,e,hk,t2]
  exact hC.pure_ (by decide) (pv_only (by kernel_rfl) (k:=11) rfl)
 ·intro vals L W ρ hdn hr hC hd ho hx
  have e:ρ (.tmp 28)=_:=(hd 11 28 (by kernel_rfl) rfl).trans (hC.pure _ (List.mem_of_getElem? (i:=11) rfl) (ready_dep hr (j:=11) (by kernel_rfl)))
  simp[stepR,go_sem,e,c2]
  exact hC.pure_ (by decide) (pv_only (by kernel_rfl) (k:=12) rfl)
 ·intro vals L W ρ hdn hr hC hd ho hx
  have e:ρ (.tmp 29)=_:=(hd 12 29 (by kernel_rfl) rfl).trans (hC.pure _ (List.mem_of_getElem? (i:=12) rfl) (ready_dep hr (j:=12) (by kernel_rfl)))
  have hk:ρ (.const (.int .i64 1))= .int .i64 1:=hx _ (fun s e=>by cases e)
  simp[stepR,go_sem,e,hk,s2]
  exact hC.pure_ (by decide) (pv_only (by kernel_rfl) (k:=13) rfl)
 ·intro vals L W ρ hdn hr hC hd ho hx
  have e:ρ (.tmp 9)= .slice EA en ek:=ho 9 (by kernel_rfl)
  simp[stepR,go_sem,e]
  exact hC.pure_ (by decide) (pv_only (by kernel_rfl) (k:=14) rfl)
 ·intro vals L W ρ hdn hr hC hd ho hx
  have e:ρ (.tmp 10)= .slice RA rn rk:=ho 10 (by kernel_rfl)
  simp[stepR,go_sem,e]
  exact hC.pure_ (by decide) (pv_only (by kernel_rfl) (k:=15) rfl)
 ·intro vals L W ρ hdn hr hC hd ho hx
  have e0:ρ (.tmp 18)=_:=(hd 1 18 (by kernel_rfl) rfl).trans (hC.pure _ (List.mem_of_getElem? (i:=1) rfl) (ready_dep hr (j:=1) (by kernel_rfl)))
  have e1:ρ (.tmp 20)=_:=(hd 3 20 (by kernel_rfl) rfl).trans (hC.pure _ (List.mem_of_getElem? (i:=3) rfl) (ready_dep hr (j:=3) (by kernel_rfl)))
  have e2:ρ (.tmp 25)=_:=(hd 8 25 (by kernel_rfl) rfl).trans (hC.pure _ (List.mem_of_getElem? (i:=8) rfl) (ready_dep hr (j:=8) (by kernel_rfl)))
  have e3:ρ (.tmp 30)=_:=(hd 13 30 (by kernel_rfl) rfl).trans (hC.pure _ (List.mem_of_getElem? (i:=13) rfl) (ready_dep hr (j:=13) (by kernel_rfl)))
  have e4:ρ (.tmp 31)=_:=(hd 14 31 (by kernel_rfl) rfl).trans (hC.pure _ (List.mem_of_getElem? (i:=14) rfl) (ready_dep hr (j:=14) (by kernel_rfl)))
  have e5:ρ (.tmp 32)=_:=(hd 15 32 (by kernel_rfl) rfl).trans (hC.pure _ (List.mem_of_getElem? (i:=15) rfl) (ready_dep hr (j:=15) (by kernel_rfl)))
  have hf:ρ (.func 11)= .func (.func 11) #[] #[]:=hx _ (fun s e=>by cases e)
  simp[stepR,go_sem,e0,e1,e2,e3,e4,e5,hf]
  refine(HMK.out W (hC.pre (undone2 hdn hr (k:=20) (j:=17) (by kernel_rfl) (by kernel_rfl)) (undone2 hdn hr (k:=21) (j:=18) (by kernel_rfl) (by kernel_rfl)))).mono ?_
  rintro e9 W2 ⟨bv,y0,y1,rfl,h1,h2,h3,ho2⟩
  exact⟨_,rfl,(hC.none_ ho2).call hdif (by kernel_rfl) (MdS.of_base hC.only.size h1 h2 h3) (undone1 hdn hr (k:=17) (by kernel_rfl)) (undone1 hdn hr (k:=18) (by kernel_rfl)) (undone1 hdn hr (k:=19) (by kernel_rfl))⟩
 ·intro vals L W ρ hdn hr hC hd ho hx
  have hv:=ready_dep hr (j:=16) (by kernel_rfl)
  have hM:=hv
  obtain⟨q9,p9,y9,z9,e2,_⟩:=hC.parts hM
  have e:ρ (.tmp 33)=_:=(hd 16 33 (by kernel_rfl) rfl).trans e2
  simp[stepR,go_sem,e]
  exact hC.part0 hdif (by kernel_rfl) e2 (undone1 hdn hr (k:=20) (by kernel_rfl))
 ·intro vals L W ρ hdn hr hC hd ho hx
  have hv:=ready_dep hr (j:=16) (by kernel_rfl)
  have hM:=hv
  obtain⟨q9,p9,y9,z9,e2,_⟩:=hC.parts hM
  have e:ρ (.tmp 33)=_:=(hd 16 33 (by kernel_rfl) rfl).trans e2
  simp[stepR,go_sem,e]
  exact hC.part1 hdif (by kernel_rfl) e2 (undone1 hdn hr (k:=21) (by kernel_rfl))
 ·intro vals L W ρ hdn hr hC hd ho hx
  have hv:=ready_dep hr (j:=16) (by kernel_rfl)
  have hM:=hv
  obtain⟨q9,p9,y9,z9,e2,_⟩:=hC.parts hM
  have e:ρ (.tmp 33)=_:=(hd 16 33 (by kernel_rfl) rfl).trans e2
  simp[stepR,go_sem,e]
  exact hC.part2 hdif (by kernel_rfl) e2
 ·intro vals L W ρ hdn hr hC hd ho hx
  have h0:=ready_dep hr (j:=17) (by kernel_rfl)
  have hM:=down_dep hdn h0 (j:=16) (by kernel_rfl)
  exact hC.doS hdif (by kernel_rfl) (ready_lt hr) (ready_undone hr) h0 hM rfl (ho 6 (by kernel_rfl)) (hd 17 34 (by kernel_rfl) rfl)
 ·intro vals L W ρ hdn hr hC hd ho hx
  have h0:=ready_dep hr (j:=18) (by kernel_rfl)
  have hM:=down_dep hdn h0 (j:=16) (by kernel_rfl)
  exact hC.doT hdif (by kernel_rfl) (ready_lt hr) (ready_undone hr) h0 hM rfl (ho 7 (by kernel_rfl)) (hd 18 35 (by kernel_rfl) rfl)
 ·intro vals L W ρ hdn hr hC hd ho hx
  have h2:=ready_dep hr (j:=19) (by kernel_rfl)
  have hM:=down_dep hdn h2 (j:=16) (by kernel_rfl)
  obtain⟨_,_,_,_,e2,_⟩:=hC.parts hM
  obtain⟨_,_,e3⟩:=hC.p2 h2
  rw[e2] at e3
  simp only[Value.tuple.injEq,Array.mk.injEq,List.cons.injEq] at e3
  have e:ρ (.tmp 36)= .int .i64 m.code:=(hd 19 36 (by kernel_rfl) rfl).trans e3.2.2.1.symm
  simp[stepR,go_sem,e]
  exact hC.pure_ (by decide) (pv_only (by kernel_rfl) (k:=16) rfl)
 intro vals L Z hall hC
 obtain⟨qv,pv,y0,y1,vC,hbA,hbB,hmd,hoZ⟩:=hC.all hall ⟨by decide,by decide,by decide,by decide,by decide,by decide⟩
 have vD:vals 22= .int .i64 m.code:=hC.pure _ (List.mem_of_getElem? (i:=16) rfl) (hall 22 (by decide))
 have hm:=hmd
 obtain⟨hbd,k1,k2⟩:=hmd
 have HBA:=Lib.hid hbA
 have HBB:=Lib.hid hbB
 have HFIN:Hid (MkdE m w (.returned (.tuple #[.agg #[.int .i64 m.bid.bidder,.string m.bid.qt,qv,.string m.bid.pt,pv],.agg #[y0,y1],.int .i64 m.code])) Z):=Lib.hid (by
  obtain⟨q9,p9,e9,j1,j2⟩:=hbd
  exact⟨_,_,_,rfl,⟨q9,p9,e9,own_base j1 HWX.out.size,own_base j2 HWX.out.size⟩,own_base k1 HWX.out.size,own_base k2 HWX.out.size,HWX.out.trans hoZ⟩)
 clear hC hall hbA hbB hm hbd k1 k2 hoZ
 simp only[finA,Nat.reduceAdd,Act.put,List.setIfInBounds_toArray,List.set_cons_succ,List.set_cons_zero]
 rw[vD]
 clear vC vD
 go_wp2_with fail
 exact bodyPost_ret (read_mk rfl rfl rfl rfl HBA.out HBB.out) rfl HFIN.out
end Go.Proofs.YtpdlbmieciabmaaGreatDoor
namespace Go.Proofs.YtpdlbmieciabmaaGreatDoor
open Go.RowKit
section
variable {P:Program} {o:Oper} {a:Act} {C:World→Prop} {w:World}
theorem flag_load{ty:TypeId}{x:Operand}{g:Nat}{cs:Array Value}{d:TypeDesc}(ho:o.op= .load ty x)(hx:a.eval x= .pointer (some ⟨g,0,none⟩))(hb:Blk w g ty cs)(hu:P.underlying ty=some d)(hd:d.isRow=true)(hi:(P.info? ty).map (·.size)=some cs.size)(h:C w):flagAt P o a C w (.agg cs):=by
 have hr:w.rangeAt g 0 cs.toList:=fun j v hj=>by rw[Nat.zero_add,hb.cell];simpa using hj
 unfold flagAt execOp
 simp only[ho,hx,Instr.loadAt,Instr.sureAddr,Sem.run_bind,Sem.run_pure,Result.andThen_ok,run_loadVar_mid w g 0 ty cs.toList d hr hu hd (by simpa using hi)]
 exact⟨h,rfl⟩
theorem flag_store{ty:TypeId}{x y:Operand}{g:Nat}{cs cs' :Array Value}(ho:o.op= .store ty x y)(hx:a.eval x= .pointer (some ⟨g,0,none⟩))(hy:a.eval y= .agg cs')(hb:Blk w g ty cs)(hz:cs'.size=cs.size)(hi:(P.info? ty).map (·.size)=some cs'.size)(h1:cs'.all (·.oneCell')=true)(h:∀w',Blk w' g ty cs'→Only (·=g) w w'→C w'):flagAt P o a C w undef:=by
 have ht:w.there g 0 cs'.size:=hb.there 0 _ (by rw[hz];omega)
 unfold flagAt execOp
 simp only[ho,hx,hy,Instr.storeAt,Instr.sureAddr,Sem.run_bind,Sem.run_pure,Result.andThen_ok,run_storeVar_mid w g 0 ty cs' ht hi h1]
 have hb2:Blk w g ty cs.toList.toArray:=by simpa using hb
 have h2:=hb2.filled cs'.toList (by simpa using hz)
 exact⟨h _ (by simpa using h2) (only_setCells (Only.refl (·=g) w) _ _ (.inl rfl) _),rfl⟩
end
end Go.Proofs.YtpdlbmieciabmaaGreatDoor
