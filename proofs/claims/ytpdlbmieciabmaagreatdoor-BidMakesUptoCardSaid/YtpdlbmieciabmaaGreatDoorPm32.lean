/-What is proved here:several parts. the law on bids that are made. Conditions:the numbers are ints and bytes. · what the listed variables give a call:the table of powers and the two errors;and a world that holds them. No conditions. -/
import Derived.Test.YtpdlbmieciabmaaGreatDoorPm03
import Derived.Test.YtpdlbmieciabmaaGreatDoorPm13
import Derived.Test.YtpdlbmieciabmaaGreatDoorPm29
import Derived.Test.YtpdlbmieciabmaaGreatDoorPm30
import Derived.Test.YtpdlbmieciabmaaGreatDoorPm31
import Derived.Test.YtpdlbmieciabmaaGreatDoorCards
import Derived.Test.YtpdlbmieciabmaaGreatDoorTie
import Derived.Deep.DeepHandedRow
import Derived.Lib.LaidTab
import Derived.LaidSub
import Derived.ChangeMaps5
import Derived.OpenShut
import Derived.RowKitTokens
import Derived.LaidLaws
import Derived.Stop.ErrReads
namespace Go.Proofs.YtpdlbmieciabmaaGreatDoor
open Go.RowKit Go.Shelf
theorem rmakeO(n:Int)(hn:In n)(s:ByteArray)(need off:Int)(o:Of)(hok:o.Ok)(wild:Bool)(v u:Value)(w:World)(h:EnSl w v (mkEs wild o))(hrb:RbSl w u (mkRs o)):Calls Tryz.prog 28 #[.int .i64 n,.string (sdT s),.int .i64 need,.int .i64 off,v,u] w (MkdE (mdeO n s need off o wild) w):=
 rmake_any16 n hn (sdT s) (by have:=sdT_size s;omega) need off (mkEs wild o) (mkRs o) (mkEs_in hok wild) (mkRs_in hok) (by have:=mkEs_text hok wild;omega) (by have:=qualL_len hok wild;omega) (by have:=mkPr_text hok wild;omega) (fun e he v hv=>by have:=(mkEs_mem he).2 v hv;omega) (by have:=mkEs_len wild o;omega) v u w h hrb
theorem mdeO_lens(n:Int)(s:ByteArray)(need off:Int)(o:Of)(wild:Bool):(mdeO n s need off o wild).bid.qc.length≤1000∧(mdeO n s need off o wild).bid.pc.length≤1000∧(mdeO n s need off o wild).s0.length≤1000∧(mdeO n s need off o wild).s1.length≤1000:=by
 unfold mdeO mde
 split
 ·exact⟨by show(0:Nat)≤_;omega,by show(0:Nat)≤_;omega,by show(0:Nat)≤_;omega,by show(0:Nat)≤_;omega⟩
 ·split
  ·exact⟨by show(0:Nat)≤_;omega,by show(0:Nat)≤_;omega,by show(0:Nat)≤_;omega,by show(0:Nat)≤_;omega⟩
  ·refine⟨?_,?_,?_,?_⟩
   ·show(cmL _).length≤_;rw[cmL_len,cfs_len];omega
   ·show(cmL _).length≤_;rw[cmL_len,cfs_len];omega
   ·show(shL _ _).length≤_;rw[shL_len];omega
   ·show(shL _ _).length≤_;rw[shL_len];omega
set_option maxRecDepth 100000 in
set_option maxHeartbeats 4000000 in
theorem bmakes_law(n:Int)(hn:In n)(s:ByteArray)(a b:Nat)(ha:a<256)(hb:b<256)(o:Of)(hok:o.Ok)(ov:Value)(w:World)(he:Env w)(h:OfAt w ov o):Calls Tryz.prog 6 #[.agg #[.int .i64 n,.string s,.int .u8 (a:Int),.int .u8 (b:Int)],ov] w (fun e w' =>e= .returned (.bool true)∧Only NoneOf w w'):=by
 have hov:=h
 obtain⟨ev,rv,rfl,_,_⟩:=h
 obtain⟨P,eP⟩:∃P,P=w.heap.size:=⟨_,rfl⟩
 obtain⟨X,eX⟩:∃X,X=(w.alloc (.cells #[.int .i64 n,.string s,.int .u8 (a:Int),.int .u8 (b:Int)] tMd)).alloc (.cells #[ev,rv] tOf):=⟨_,rfl⟩
 have hX:Only NoneOf w X:=by rw[eX];exact((Only.refl _ _).alloc _).alloc _
 have HP:=Lib.hid (show Blk X P tMd #[.int .i64 n,.string s,.int .u8 (a:Int),.int .u8 (b:Int)] by rw[eX,eP];exact(Blk.new w _ _).alloc _)
 have HO:=Lib.hid (show Blk X (P+1) tOf #[ev,rv] by
  have h2:=Blk.new (w.alloc (.cells #[.int .i64 n,.string s,.int .u8 (a:Int),.int .u8 (b:Int)] tMd)) tOf #[ev,rv]
  rw[World.size_alloc,←eP,←eX] at h2
  exact h2)
 have HOX:=Lib.hid (hov.only hX)
 have HWX:=Lib.hid hX
 have HE:=Lib.hid (he.none hX)
 have EX:=Lib.hid eX
 have EP:=Lib.hid eP
 obtain⟨a16,ea⟩:∃x,x=a%16:=⟨_,rfl⟩
 obtain⟨b16,eb⟩:∃x,x=b%16:=⟨_,rfl⟩
 have EN:=Lib.hid (show needOf a=(a16:Int)-1 by rw[ea];rfl)
 have EO:=Lib.hid (show needOf b=(b16:Int)-1 by rw[eb];rfl)
 have t1:(a:Int).tmod 16=(a16:Int):=by rw[Int.tmod_eq_emod_of_nonneg (by omega)];omega
 have t2:(b:Int).tmod 16=(b16:Int):=by rw[Int.tmod_eq_emod_of_nonneg (by omega)];omega
 have c1:IntKind.i64.wrap (a16:Int)=(a16:Int):=IntWalk.i64_in _ (by omega)
 have c2:IntKind.i64.wrap (b16:Int)=(b16:Int):=IntWalk.i64_in _ (by omega)
 have s1:IntKind.i64.wrap ((a16:Int)-1)=(a16:Int)-1:=IntWalk.i64_in _ (by omega)
 have s2:IntKind.i64.wrap ((b16:Int)-1)=(b16:Int)-1:=IntWalk.i64_in _ (by omega)
 clear hX eX eP hov he ea eb
 go_enter Tryz.func6,Tryz.ntmps6
 go_wp2_with fail
 rw[←EX.out]
 rw[←EP.out]
 refine(sanity16 X HE.out).mono ?_
 rintro e w1 ⟨rfl,ho1⟩
 obtain⟨Y,eY⟩:∃Y,Y=w1.alloc (.cells #[.bool false,.bool true] 4):=⟨_,rfl⟩
 obtain⟨B,eB⟩:∃B,B=w1.heap.size:=⟨_,rfl⟩
 have HB:=Lib.hid (show Blk Y B 4 #[.bool false,.bool true] by rw[eY,eB];exact Blk.new w1 _ _)
 have HXY:=Lib.hid (show Only NoneOf X Y by rw[eY];exact ho1.alloc _)
 have EY:=Lib.hid eY
 have EB:=Lib.hid eB
 clear ho1 eY eB
 go_wp2_with fail
 rw[←EY.out]
 rw[←EB.out]
 go_loopw [19] (fun i W=>∃k:Nat,i= .int .i64 k∧k≤2∧Only NoneOf Y W) (fun i _=>2-(intOf i).toNat)
 case atStart=>exact⟨0,rfl,Nat.zero_le _,Only.refl _ _⟩
 case round=>
  obtain⟨k,rfl,hk,hW⟩:=hrel
  have HW:=Lib.hid hW
  clear hW
  by_cases hlt:k<2
  ·obtain⟨wild,hwl⟩:∃q,(#[.bool false,.bool true]:Array Value)[k]? =some (.bool q):=by
    match k,hlt with
    |0,_=>exact⟨false,rfl⟩
    |1,_=>exact⟨true,rfl⟩
   have b0:wr.cell? ⟨B,k,none⟩=some (.bool wild):=HW.out.cell_some ((HB.out.cell k).trans hwl) (fun e=>e)
   have hPw:=HP.out.only (HXY.out.trans HW.out) (fun e=>e)
   have hOw:=HO.out.only (HXY.out.trans HW.out) (fun e=>e)
   have p0:=hPw.cell 0
   have p1:=hPw.cell 1
   have p2:=hPw.cell 2
   have p3:=hPw.cell 3
   have o0:=hOw.cell 0
   have o1:=hOw.cell 1
   obtain⟨m,em⟩:∃m,m=mdeO n s ((a16:Int)-1) ((b16:Int)-1) o wild:=⟨_,rfl⟩
   have hmk:=make_made n hn s a b ha hb o hok wild (.agg #[ev,rv]) wr (HOX.out.only (HXY.out.trans HW.out)) (HE.out.none (HXY.out.trans HW.out)).tab
   rw[EN.out,EO.out,←em] at hmk
   have HMD:=Lib.hid hmk
   have EM:=Lib.hid em
   have hlens:=mdeO_lens n s ((a16:Int)-1) ((b16:Int)-1) o wild
   rw[←em] at hlens
   have HLN:=Lib.hid hlens
   have HPw:=Lib.hid hPw
   have HOw:=Lib.hid hOw
   have ik:(k:Int)<2:=by omega
   have k0:(0:Int)≤(k:Int):=by omega
   have wk:IntKind.i64.wrap ((k:Int)+1)=(k:Int)+1:=IntWalk.i64_in _ (by omega)
   clear hwl hPw hOw hmk em hlens
   go_wp2_with fail
   refine HMD.out.mono ?_
   rintro e w2 ⟨bv,y0,y1,rfl,hbd,hy0,hy1,ho2⟩
   obtain⟨qv,pv,rfl,hq,hp⟩:=hbd
   obtain⟨A1,k1,rfl,_,_⟩:=own_form' hq
   obtain⟨A2,k2,rfl,_,_⟩:=own_form' hp
   obtain⟨A3,k3,rfl,_,_⟩:=own_form' hy0
   obtain⟨A4,k4,rfl,_,_⟩:=own_form' hy1
   obtain⟨E,eE⟩:∃E,E=w2.heap.size:=⟨_,rfl⟩
   obtain⟨Z,eZ⟩:∃Z,Z=(w2.alloc (.cells #[.int .i64 m.bid.bidder,.string m.bid.qt,.slice A1 m.bid.qc.length k1,.string m.bid.pt,.slice A2 m.bid.pc.length k2] tBid)).alloc (.cells #[.slice A3 m.s0.length k3,.slice A4 m.s1.length k4] tShs):=⟨_,rfl⟩
   have hZ:Only NoneOf w2 Z:=by rw[eZ];exact((Only.refl _ _).alloc _).alloc _
   have HD1:=Lib.hid (show Blk Z E tBid #[.int .i64 m.bid.bidder,.string m.bid.qt,.slice A1 m.bid.qc.length k1,.string m.bid.pt,.slice A2 m.bid.pc.length k2] by rw[eZ,eE];exact(Blk.new w2 _ _).alloc _)
   have HD2:=Lib.hid (show Blk Z (E+1) tShs #[.slice A3 m.s0.length k3,.slice A4 m.s1.length k4] by
    have h2:=Blk.new (w2.alloc (.cells #[.int .i64 m.bid.bidder,.string m.bid.qt,.slice A1 m.bid.qc.length k1,.string m.bid.pt,.slice A2 m.bid.pc.length k2] tBid)) tShs #[.slice A3 m.s0.length k3,.slice A4 m.s1.length k4]
    rw[World.size_alloc,←eE,←eZ] at h2
    exact h2)
   have HI1:Hid (BdIn Z (.agg #[.int .i64 m.bid.bidder,.string m.bid.qt,.slice A1 m.bid.qc.length k1,.string m.bid.pt,.slice A2 m.bid.pc.length k2]) m.bid):=Lib.hid ⟨_,_,rfl,(OwnOf.sl inC_len hq).only hZ,(OwnOf.sl inC_len hp).only hZ⟩
   have HI2:=Lib.hid ((OwnOf.sl shC_len hy0).only hZ)
   have HI3:=Lib.hid ((OwnOf.sl shC_len hy1).only hZ)
   have HWZ:=Lib.hid (ho2.trans hZ)
   have zo0:=((HOw.out.only (ho2.trans hZ) (fun e=>e)).cell 0)
   have zo1:=((HOw.out.only (ho2.trans hZ) (fun e=>e)).cell 1)
   have EZ:=Lib.hid eZ
   have EE:=Lib.hid eE
   rw[eZ] at zo0 zo1
   clear hq hp hy0 hy1 ho2 hZ eZ eE b0 p0 p1 p2 p3 o0 o1
   go_wp2_with fail
   rw[←EZ.out]
   rw[←EE.out]
   refine(make16_any o hok wild (.agg #[ev,rv]) Z (HOX.out.only ((HXY.out.trans HW.out).trans HWZ.out))).mono ?_
   rintro e V ⟨ev2,rv2,rfl,hen,hrb,ho3⟩
   obtain⟨EA,en,ek,rfl⟩:∃A n c,ev2= .slice A n c:=by
    obtain⟨A,c,e,_⟩:=hen.form
    exact⟨A,_,c,e⟩
   obtain⟨RA,rn,rk,rfl⟩:∃A n c,rv2= .slice A n c:=by
    obtain⟨A,c,e,_⟩:=hrb.form
    exact⟨A,_,c,e⟩
   have HMK:Hid (∀W,Only NoneOf V W→Calls Tryz.prog 28 #[.int .i64 n,.string (sdT s),.int .i64 ((a16:Int)-1),.int .i64 ((b16:Int)-1),.slice EA en ek,.slice RA rn rk] W (MkdE m W)):=Lib.hid (fun W hW=>by
    rw[EM.out]
    exact rmakeO n hn s _ _ o hok wild _ _ W (hen.sl.only hW) (hrb.sl.only hW))
   have HPV:=Lib.hid (HPw.out.only (HWZ.out.trans ho3) (fun e=>e))
   have HO3:=Lib.hid ho3
   clear hen hrb ho3 zo0 zo1
   go_upto_region 7 with(fail)
   go_cut [13,14,15] from 37 to 57 (fun p q c Z2=>∃gA gB qv pv y0 y1,p= .pointer (some ⟨gA,0,none⟩)∧q= .pointer (some ⟨gB,0,none⟩)∧c= .int .i64 m.code∧Blk Z2 gA tBid #[.int .i64 m.bid.bidder,.string m.bid.qt,qv,.string m.bid.pt,pv]∧Blk Z2 gB tShs #[y0,y1]∧MdS V.heap.size m (.agg #[.int .i64 m.bid.bidder,.string m.bid.qt,qv,.string m.bid.pt,pv]) y0 y1 Z2∧Only NoneOf V Z2)
   case first=>
    refine wp_region_choice (MdK V [(0,.pointer (some ⟨P,0,none⟩)),(1,.int .i64 n),(2,.agg #[.int .i64 n,.string s,.int .u8 (a:Int),.int .u8 (b:Int)]),(3,.string (sdT s)),(4,.pointer (some ⟨P,2,none⟩)),(5,.int .u8 (a:Int)),(6,.int .u8 (a16:Int)),(7,.int .i64 (a16:Int)),(8,.int .i64 ((a16:Int)-1)),(9,.pointer (some ⟨P,3,none⟩)),(10,.int .u8 (b:Int)),(11,.int .u8 (b16:Int)),(12,.int .i64 (b16:Int)),(13,.int .i64 ((b16:Int)-1)),(14,.slice EA en ek),(15,.slice RA rn rk),(25,.int .i64 m.code)] (⟨16,17,18,19,20,21,22,23,24⟩:Ix) (m)) 85 (by kernel_rfl) (by kernel_rfl) (by kernel_rfl) (by kernel_rfl) (by simp) (MdK.start _ _) ?_ ?_
    have hdif:(⟨16,17,18,19,20,21,22,23,24⟩:Ix).Dif :=Ix.dif (by decide)
    refine⟨?_,?_,?_,?_,?_,?_,?_,?_,?_,?_,?_,?_,?_,?_,?_,?_,?_,?_,?_,?_,?_,?_,?_,?_,?_,?_,trivial⟩
    ·intro vals L W ρ hdn hr hC hd ho hx
     have e:ρ (.tmp 2)= .pointer (some ⟨P,0,none⟩):=ho 2 (by kernel_rfl)
     simp[stepR,go_sem,e]
     exact hC.pure_ (by decide) (pv_only (by kernel_rfl) (k:=0) rfl) (ready_lt hr)
    ·intro vals L W ρ hdn hr hC hd ho hx
     have e:ρ (.tmp 38)=_:=(hd 0 38 (by kernel_rfl) rfl).trans (hC.pure _ (List.mem_of_getElem? (i:=0) rfl) (ready_dep hr (j:=0) (by kernel_rfl)))
     have c:=(HPV.out.only hC.only (fun e=>e)).cell 0
     simp[stepR,go_sem,e,c]
     exact hC.pure_ (by decide) (pv_only (by kernel_rfl) (k:=1) rfl) (ready_lt hr)
    ·intro vals L W ρ hdn hr hC hd ho hx
     have e:ρ (.tmp 2)= .pointer (some ⟨P,0,none⟩):=ho 2 (by kernel_rfl)
     exact step_load rfl e (HPV.out.only hC.only (fun e=>e)) Tryz.underlying23 rfl (by kernel_rfl) (hC.pure_ (by decide) (pv_only (by kernel_rfl) (k:=2) rfl) (ready_lt hr))
    ·intro vals L W ρ hdn hr hC hd ho hx
     have e:ρ (.tmp 40)=_:=(hd 2 40 (by kernel_rfl) rfl).trans (hC.pure _ (List.mem_of_getElem? (i:=2) rfl) (ready_dep hr (j:=2) (by kernel_rfl)))
     have hf:ρ (.func 12)= .func (.func 12) #[] #[]:=hx _ (fun s e=>by cases e)
     simp[stepR,go_sem,e,hf]
     refine(seed16_any n s a b W).mono ?_
     rintro e9 W2 ⟨rfl,ho2⟩
     exact⟨_,rfl,(hC.none_ ho2).pure_ (by decide) (pv_only (by kernel_rfl) (k:=3) rfl) (ready_lt hr)⟩
    ·intro vals L W ρ hdn hr hC hd ho hx
     have e:ρ (.tmp 2)= .pointer (some ⟨P,0,none⟩):=ho 2 (by kernel_rfl)
     simp[stepR,go_sem,e]
     exact hC.pure_ (by decide) (pv_only (by kernel_rfl) (k:=4) rfl) (ready_lt hr)
    ·intro vals L W ρ hdn hr hC hd ho hx
     have e:ρ (.tmp 42)=_:=(hd 4 42 (by kernel_rfl) rfl).trans (hC.pure _ (List.mem_of_getElem? (i:=4) rfl) (ready_dep hr (j:=4) (by kernel_rfl)))
     have c:=(HPV.out.only hC.only (fun e=>e)).cell 2
     simp[stepR,go_sem,e,c]
     exact hC.pure_ (by decide) (pv_only (by kernel_rfl) (k:=5) rfl) (ready_lt hr)
    ·intro vals L W ρ hdn hr hC hd ho hx
     have e:ρ (.tmp 43)=_:=(hd 5 43 (by kernel_rfl) rfl).trans (hC.pure _ (List.mem_of_getElem? (i:=5) rfl) (ready_dep hr (j:=5) (by kernel_rfl)))
     have hk:ρ (.const (.int .u8 16))= .int .u8 16:=hx _ (fun s e=>by cases e)
     simp[stepR,go_sem,e,hk,t1]
     exact hC.pure_ (by decide) (pv_only (by kernel_rfl) (k:=6) rfl) (ready_lt hr)
    ·intro vals L W ρ hdn hr hC hd ho hx
     have e:ρ (.tmp 44)=_:=(hd 6 44 (by kernel_rfl) rfl).trans (hC.pure _ (List.mem_of_getElem? (i:=6) rfl) (ready_dep hr (j:=6) (by kernel_rfl)))
     simp[stepR,go_sem,e,c1]
     exact hC.pure_ (by decide) (pv_only (by kernel_rfl) (k:=7) rfl) (ready_lt hr)
    ·intro vals L W ρ hdn hr hC hd ho hx
     have e:ρ (.tmp 45)=_:=(hd 7 45 (by kernel_rfl) rfl).trans (hC.pure _ (List.mem_of_getElem? (i:=7) rfl) (ready_dep hr (j:=7) (by kernel_rfl)))
     have hk:ρ (.const (.int .i64 1))= .int .i64 1:=hx _ (fun s e=>by cases e)
     simp[stepR,go_sem,e,hk,s1]
     exact hC.pure_ (by decide) (pv_only (by kernel_rfl) (k:=8) rfl) (ready_lt hr)
    ·intro vals L W ρ hdn hr hC hd ho hx
     have e:ρ (.tmp 2)= .pointer (some ⟨P,0,none⟩):=ho 2 (by kernel_rfl)
     simp[stepR,go_sem,e]
     exact hC.pure_ (by decide) (pv_only (by kernel_rfl) (k:=9) rfl) (ready_lt hr)
    ·intro vals L W ρ hdn hr hC hd ho hx
     have e:ρ (.tmp 47)=_:=(hd 9 47 (by kernel_rfl) rfl).trans (hC.pure _ (List.mem_of_getElem? (i:=9) rfl) (ready_dep hr (j:=9) (by kernel_rfl)))
     have c:=(HPV.out.only hC.only (fun e=>e)).cell 3
     simp[stepR,go_sem,e,c]
     exact hC.pure_ (by decide) (pv_only (by kernel_rfl) (k:=10) rfl) (ready_lt hr)
    ·intro vals L W ρ hdn hr hC hd ho hx
     have e:ρ (.tmp 48)=_:=(hd 10 48 (by kernel_rfl) rfl).trans (hC.pure _ (List.mem_of_getElem? (i:=10) rfl) (ready_dep hr (j:=10) (by kernel_rfl)))
     have hk:ρ (.const (.int .u8 16))= .int .u8 16:=hx _ (fun s e=>by cases e)
     simp[stepR,go_sem,e,hk,t2]
     exact hC.pure_ (by decide) (pv_only (by kernel_rfl) (k:=11) rfl) (ready_lt hr)
    ·intro vals L W ρ hdn hr hC hd ho hx
     have e:ρ (.tmp 49)=_:=(hd 11 49 (by kernel_rfl) rfl).trans (hC.pure _ (List.mem_of_getElem? (i:=11) rfl) (ready_dep hr (j:=11) (by kernel_rfl)))
     simp[stepR,go_sem,e,c2]
     exact hC.pure_ (by decide) (pv_only (by kernel_rfl) (k:=12) rfl) (ready_lt hr)
    ·intro vals L W ρ hdn hr hC hd ho hx
     have e:ρ (.tmp 50)=_:=(hd 12 50 (by kernel_rfl) rfl).trans (hC.pure _ (List.mem_of_getElem? (i:=12) rfl) (ready_dep hr (j:=12) (by kernel_rfl)))
     have hk:ρ (.const (.int .i64 1))= .int .i64 1:=hx _ (fun s e=>by cases e)
     simp[stepR,go_sem,e,hk,s2]
     exact hC.pure_ (by decide) (pv_only (by kernel_rfl) (k:=13) rfl) (ready_lt hr)
    ·intro vals L W ρ hdn hr hC hd ho hx
     have e:ρ (.tmp 11)= .slice EA en ek:=ho 11 (by kernel_rfl)
     simp[stepR,go_sem,e]
     exact hC.pure_ (by decide) (pv_only (by kernel_rfl) (k:=14) rfl) (ready_lt hr)
    ·intro vals L W ρ hdn hr hC hd ho hx
     have e:ρ (.tmp 12)= .slice RA rn rk:=ho 12 (by kernel_rfl)
     simp[stepR,go_sem,e]
     exact hC.pure_ (by decide) (pv_only (by kernel_rfl) (k:=15) rfl) (ready_lt hr)
    ·intro vals L W ρ hdn hr hC hd ho hx
     have e0:ρ (.tmp 39)=_:=(hd 1 39 (by kernel_rfl) rfl).trans (hC.pure _ (List.mem_of_getElem? (i:=1) rfl) (ready_dep hr (j:=1) (by kernel_rfl)))
     have e1:ρ (.tmp 41)=_:=(hd 3 41 (by kernel_rfl) rfl).trans (hC.pure _ (List.mem_of_getElem? (i:=3) rfl) (ready_dep hr (j:=3) (by kernel_rfl)))
     have e2:ρ (.tmp 46)=_:=(hd 8 46 (by kernel_rfl) rfl).trans (hC.pure _ (List.mem_of_getElem? (i:=8) rfl) (ready_dep hr (j:=8) (by kernel_rfl)))
     have e3:ρ (.tmp 51)=_:=(hd 13 51 (by kernel_rfl) rfl).trans (hC.pure _ (List.mem_of_getElem? (i:=13) rfl) (ready_dep hr (j:=13) (by kernel_rfl)))
     have e4:ρ (.tmp 52)=_:=(hd 14 52 (by kernel_rfl) rfl).trans (hC.pure _ (List.mem_of_getElem? (i:=14) rfl) (ready_dep hr (j:=14) (by kernel_rfl)))
     have e5:ρ (.tmp 53)=_:=(hd 15 53 (by kernel_rfl) rfl).trans (hC.pure _ (List.mem_of_getElem? (i:=15) rfl) (ready_dep hr (j:=15) (by kernel_rfl)))
     have hf:ρ (.func 28)= .func (.func 28) #[] #[]:=hx _ (fun s e=>by cases e)
     simp[stepR,go_sem,e0,e1,e2,e3,e4,e5,hf]
     refine(HMK.out W hC.only).mono ?_
     rintro e9 W2 ⟨bv,y0,y1,rfl,h1,h2,h3,ho2⟩
     exact⟨_,rfl,(hC.none_ ho2).call hdif (by kernel_rfl) (ready_lt hr) (MdS.of_base hC.only.size h1 h2 h3) (undone1 hdn hr (k:=17) (by kernel_rfl)) (undone2 hdn hr (k:=18) (j:=17) (by kernel_rfl) (by kernel_rfl)) (undone2 hdn hr (k:=19) (j:=17) (by kernel_rfl) (by kernel_rfl)) (undone2 hdn hr (k:=20) (j:=17) (by kernel_rfl) (by kernel_rfl))⟩
    ·intro vals L W ρ hdn hr hC hd ho hx
     have e:ρ (.tmp 54)=vals 16:=hd 16 54 (by kernel_rfl) rfl
     simp[stepR,go_sem,e]
     exact hC.copy_ hdif (by kernel_rfl) (ready_lt hr)
    ·intro vals L W ρ hdn hr hC hd ho hx
     have hv:=ready_dep hr (j:=17) (by kernel_rfl)
     have hM:=down_dep hdn hv (j:=16) (by kernel_rfl)
     obtain⟨q9,p9,y9,z9,e2,_⟩:=hC.parts hM
     have e:ρ (.tmp 37)=_:=((hd 17 37 (by kernel_rfl) rfl).trans (hC.copy hv)).trans e2
     simp[stepR,go_sem,e]
     exact hC.part0 hdif (by kernel_rfl) (ready_lt hr) e2 (undone1 hdn hr (k:=23) (by kernel_rfl))
    ·intro vals L W ρ hdn hr hC hd ho hx
     have hv:=ready_dep hr (j:=17) (by kernel_rfl)
     have hM:=down_dep hdn hv (j:=16) (by kernel_rfl)
     obtain⟨q9,p9,y9,z9,e2,_⟩:=hC.parts hM
     have e:ρ (.tmp 37)=_:=((hd 17 37 (by kernel_rfl) rfl).trans (hC.copy hv)).trans e2
     simp[stepR,go_sem,e]
     exact hC.part1 hdif (by kernel_rfl) (ready_lt hr) e2 (undone1 hdn hr (k:=24) (by kernel_rfl))
    ·intro vals L W ρ hdn hr hC hd ho hx
     have hv:=ready_dep hr (j:=17) (by kernel_rfl)
     have hM:=down_dep hdn hv (j:=16) (by kernel_rfl)
     obtain⟨q9,p9,y9,z9,e2,_⟩:=hC.parts hM
     have e:ρ (.tmp 37)=_:=((hd 17 37 (by kernel_rfl) rfl).trans (hC.copy hv)).trans e2
     simp[stepR,go_sem,e]
     exact hC.part2 hdif (by kernel_rfl) (ready_lt hr) e2
    ·intro vals L W ρ hdn hr hC hd ho hx
     exact hC.doA hdif (by kernel_rfl) (ready_lt hr) (undone1 hdn hr (k:=23) (by kernel_rfl)) (by simp[go_sem])
    ·intro vals L W ρ hdn hr hC hd ho hx
     exact hC.doB hdif (by kernel_rfl) (ready_lt hr) (undone1 hdn hr (k:=24) (by kernel_rfl)) (by simp[go_sem])
    ·intro vals L W ρ hdn hr hC hd ho hx
     have h0:=ready_dep hr (j:=18) (by kernel_rfl)
     have hM:=down_dep hdn (down_dep hdn h0 (j:=17) (by kernel_rfl)) (j:=16) (by kernel_rfl)
     exact hC.doS hdif (by kernel_rfl) (ready_lt hr) (ready_undone hr) (ready_dep hr (j:=21) (by kernel_rfl)) h0 hM rfl (hd 21 13 (by kernel_rfl) rfl) (hd 18 55 (by kernel_rfl) rfl)
    ·intro vals L W ρ hdn hr hC hd ho hx
     have h0:=ready_dep hr (j:=19) (by kernel_rfl)
     have hM:=down_dep hdn (down_dep hdn h0 (j:=17) (by kernel_rfl)) (j:=16) (by kernel_rfl)
     exact hC.doT hdif (by kernel_rfl) (ready_lt hr) (ready_undone hr) (ready_dep hr (j:=22) (by kernel_rfl)) h0 hM rfl (hd 22 14 (by kernel_rfl) rfl) (hd 19 56 (by kernel_rfl) rfl)
    ·intro vals L W ρ hdn hr hC hd ho hx
     have h2:=ready_dep hr (j:=20) (by kernel_rfl)
     have hM:=down_dep hdn (down_dep hdn h2 (j:=17) (by kernel_rfl)) (j:=16) (by kernel_rfl)
     obtain⟨_,_,_,_,e2,_⟩:=hC.parts hM
     obtain⟨_,_,e3⟩:=hC.p2 h2
     rw[e2] at e3
     simp only[Value.tuple.injEq,Array.mk.injEq,List.cons.injEq] at e3
     have e:ρ (.tmp 57)= .int .i64 m.code:=(hd 20 57 (by kernel_rfl) rfl).trans e3.2.2.1.symm
     simp[stepR,go_sem,e]
     exact hC.pure_ (by decide) (pv_only (by kernel_rfl) (k:=16) rfl) (ready_lt hr)
    intro vals L Z hall hC
    obtain⟨gA,gB,qv,pv,y0,y1,vA,vB,vC,hgA,hgB,hbA,hbB,hmd,hoZ⟩:=hC.all hall ⟨by decide,by decide,by decide,by decide,by decide,by decide,by decide,by decide⟩
    have vD:vals 25= .int .i64 m.code:=hC.pure _ (List.mem_of_getElem? (i:=16) rfl) (hall 25 (by decide))
    simp only[finA,Nat.reduceAdd,Act.put,List.setIfInBounds_toArray,List.set_cons_succ,List.set_cons_zero]
    rw[vA,vB,vD]
    clear vA vB vC vD
    go_wp2_with fail
    go_meet
    case rel=>exact⟨gA,gB,qv,pv,y0,y1,rfl,rfl,rfl,hbA,hbB,hmd,hoZ⟩
   case rest=>
    obtain⟨gA,gB,qv,pv,y0,y1,rfl,rfl,rfl,hbA,hbB,hmd,hoZ⟩:=hcut
    obtain⟨V2,rfl⟩:∃x,x=wc:=⟨_,rfl⟩
    obtain⟨⟨q9,p9,e9,j1,j2⟩,j3,j4⟩:=hmd
    have e9' :qv=q9∧pv=p9:=by
     simp only[Value.agg.injEq,Array.mk.injEq,List.cons.injEq,and_true,true_and] at e9
     exact e9
    obtain⟨rfl,rfl⟩:=e9'
    obtain⟨A5,k5,rfl,_,_⟩:=own_form' j1
    obtain⟨A6,k6,rfl,_,_⟩:=own_form' j2
    obtain⟨A7,k7,rfl,_,_⟩:=own_form' j3
    obtain⟨A8,k8,rfl,_,_⟩:=own_form' j4
    have hVV:=HO3.out.trans hoZ
    have hE:=HD1.out.only hVV (fun e=>e)
    have hF:=HD2.out.only hVV (fun e=>e)
    have e0:=hE.cell 0
    have e1:=hE.cell 1
    have e2:=hE.cell 2
    have e3:=hE.cell 3
    have e4:=hE.cell 4
    have g0:=hbA.cell 0
    have g1:=hbA.cell 1
    have g2:=hbA.cell 2
    have g3:=hbA.cell 3
    have g4:=hbA.cell 4
    have HI4:Hid (BdIn V2 (.agg #[.int .i64 m.bid.bidder,.string m.bid.qt,.slice A5 m.bid.qc.length k5,.string m.bid.pt,.slice A6 m.bid.pc.length k6]) m.bid):=Lib.hid ⟨_,_,rfl,OwnOf.sl inC_len j1,OwnOf.sl inC_len j2⟩
    have HI5:=Lib.hid (OwnOf.sl shC_len j3)
    have HI6:=Lib.hid (OwnOf.sl shC_len j4)
    have HVV:=Lib.hid hVV
    have HEE:=Lib.hid hE
    have HFF:=Lib.hid hF
    have HGA:=Lib.hid hbA
    have HGB:=Lib.hid hbB
    clear e9 j1 j2 j3 j4 hVV hE hF hbA hbB hoZ
    go_wp2_with fail
    refine(sbid_any m.bid (by have:=HLN.out.1;omega) (by have:=HLN.out.2.1;omega) _ _ V2 (HI1.out.only HVV.out) HI4.out).mono ?_
    rintro e v1 ⟨rfl,hv1⟩
    have HV1:=Lib.hid hv1
    have f0:=(HFF.out.only hv1 (fun e=>e)).cell 0
    have h0:=(HGB.out.only hv1 (fun e=>e)).cell 0
    clear hv1 e0 e1 e2 e3 e4 g0 g1 g2 g3 g4
    go_wp2_with fail
    refine(shares_same m.s0 (by have:=HLN.out.2.2.1;omega) _ _ v1 (HI2.out.only (HVV.out.trans HV1.out)) (HI5.out.only HV1.out)).mono ?_
    rintro e v2 ⟨rfl,hv2⟩
    have HV2:=Lib.hid (HV1.out.trans hv2)
    have f1:=(HFF.out.only HV2.out (fun e=>e)).cell 1
    have h1:=(HGB.out.only HV2.out (fun e=>e)).cell 1
    clear hv2 f0 h0
    go_wp2_with fail
    refine(shares_same m.s1 (by have:=HLN.out.2.2.2;omega) _ _ v2 (HI3.out.only (HVV.out.trans HV2.out)) (HI6.out.only HV2.out)).mono ?_
    rintro e v3 ⟨rfl,hv3⟩
    have HV3:=Lib.hid (HV2.out.trans hv3)
    clear hv3 f1 h1
    go_wp2_with fail
    go_roundw
    case rel=>exact⟨k+1,rfl,by omega,((HW.out.trans HWZ.out).trans HVV.out).trans HV3.out⟩
    case measure=>simp[intOf];omega
  ·obtain rfl:k=2:=by omega
   go_wp2_with fail
   go_ret
   exact⟨rfl,(HWX.out.trans HXY.out).trans HW.out⟩
end Go.Proofs.YtpdlbmieciabmaaGreatDoor
namespace Go.Proofs.YtpdlbmieciabmaaGreatDoor
open Go.ChangeShapes Go.WideShapes Go.ChangeAt Go.RowKit
theorem gPow:Tryz.prog.globalNamed pow10=some 3:=by kernel_rfl
theorem gPowType:(Tryz.prog.globals[3]?).map (·.type)=some 232:=by kernel_rfl
theorem cellsPow:Tryz.prog.cellsOf 232=20:=by kernel_rfl
theorem cellsU64:Tryz.prog.cellsOf 143=1:=by kernel_rfl
theorem gRange:Tryz.prog.globalNamed "strconv.ErrRange" =some 2:=by kernel_rfl
theorem gSyntax:Tryz.prog.globalNamed "strconv.ErrSyntax" =some 1:=by kernel_rfl
theorem gRangeType:(Tryz.prog.globals[2]?).map (·.type)=some 134:=by kernel_rfl
theorem gSyntaxType:(Tryz.prog.globals[1]?).map (·.type)=some 134:=by kernel_rfl
theorem cellsErr:Tryz.prog.cellsOf 239=1:=by kernel_rfl
theorem cellsStr:Tryz.prog.cellsOf 9=1:=by kernel_rfl
theorem starErr: "*" ++ "errors.errorString" = "*errors.errorString" :=by decide
theorem rowErr(u:TypeId)(h:Tryz.prog.typeName? 3 u=some "*errors.errorString"):u=237:=
 typeName_ptr_named (nm:= "errors.errorString") (by rw[starErr];kernel_rfl) (by kernel_rfl) (by decide) u (by rw[starErr];exact h)
def listed:List (String×DataW Unit):=[("math/bits.deBruijn32tab",Rows.laid_math_bits_deBruijn32tab),("math/bits.deBruijn64tab",Rows.laid_math_bits_deBruijn64tab),("internal/strconv.uint64pow10",Rows.laid_internal_strconv_uint64pow10),("unicode/utf8.acceptRanges",Rows.laid_unicode_utf8_acceptRanges),("strconv.ErrRange",Rows.laid_strconv_ErrRange),("strconv.ErrSyntax",Rows.laid_strconv_ErrSyntax),("unicode/utf8.first",Rows.laid_unicode_utf8_first)]
theorem table{W:World}(h:laidMetH Tryz.prog listed W):Tab W:=by
 have h1:=h.filter (fun x=>x.1==pow10)
 have h2:laidMetH Tryz.prog [(pow10,Lib.tabData .u64 Lib.pow10Tab)] W:=h1
 exact Lib.tabIs_of_head (rest:=[]) gPow gPowType Tryz.underlying232 Tryz.underlying143 cellsU64 cellsPow h2
set_option maxRecDepth 100000 in
theorem sentinels{W:World}(h:laidMetH Tryz.prog listed W):(∃tp p,W.var? Tryz.prog "strconv.ErrRange" =some #[.iface tp p])∧(∃tp p,W.var? Tryz.prog "strconv.ErrSyntax" =some #[.iface tp p]):=by
 have h1:=h.filter (fun x=>x.1== "strconv.ErrRange" ||x.1== "strconv.ErrSyntax")
 have h2:laidMet Tryz.prog [("strconv.ErrRange",Rows.laid_strconv_ErrRange),("strconv.ErrSyntax",Rows.laid_strconv_ErrSyntax)] W:=h1
 obtain⟨ps,⟨g0,t0,cs0,f0,p0,q0,hg0,ht0,hv0,hd0,⟨g1,t1,cs1,f1,p1,q1,hg1,ht1,hv1,hd1,hq1,e1⟩,e0⟩,hnd,hrows⟩:=h2
 obtain rfl:=Option.some.inj (gRange.symm.trans hg0)
 obtain rfl:=Option.some.inj (gSyntax.symm.trans hg1)
 obtain rfl:=Option.some.inj (gRangeType.symm.trans ht0)
 obtain rfl:=Option.some.inj (gSyntaxType.symm.trans ht1)
 have hq1' :q1=[]:=hq1
 subst hq1'
 subst e1
 subst e0
 obtain⟨l0⟩:=cs0
 obtain⟨l1⟩:=cs1
 have ok0:∀u v,l0=[.iface u v]→Value.okWide Tryz.prog W .any 0 u v:=fun u v e=>by
  subst e
  exact(hrows 2 0 (by simp[MemPlace.row])).2 u v (by simpa using World.var?_cell hg0 hv0 0)
 have ok1:∀u v,l1=[.iface u v]→Value.okWide Tryz.prog W .any 0 u v:=fun u v e=>by
  subst e
  exact(hrows 1 0 (by simp[MemPlace.row])).2 u v (by simpa using World.var?_cell hg1 hv1 0)
 obtain⟨a0,s0,rfl,_⟩:=errorString_of_trod Tryz.underlying134 rowErr Tryz.underlying237 Tryz.underlying239 rfl rfl Tryz.underlying9 cellsErr cellsStr hd0 ok0
 obtain⟨a1,s1,rfl,_⟩:=errorString_of_trod Tryz.underlying134 rowErr Tryz.underlying237 Tryz.underlying239 rfl rfl Tryz.underlying9 cellsErr cellsStr hd1 ok1
 exact⟨⟨_,_,hv0⟩,⟨_,_,hv1⟩⟩
theorem env_of{W:World}(h:laidMetH Tryz.prog listed W)(hs:W.ShapedOpen Tryz.prog):Env W:=⟨table h,(sentinels h).2,(sentinels h).1,hs⟩
def layCells(cs:Array Value):Obj→Obj
 | .cells _ t frozen=> .cells cs t frozen
 |o=>o
abbrev rangeS:ByteArray:=⟨#[118,97,108,117,101,32,111,117,116,32,111,102,32,114,97,110,103,101]⟩
abbrev syntaxS:ByteArray:=⟨#[105,110,118,97,108,105,100,32,115,121,110,116,97,120]⟩
noncomputable def low:Nat:=(World.holding Tryz.prog default ⟨#[],#[],[]⟩).heap.size
noncomputable def laidWorld(os:Os):World:=
 {World.holding Tryz.prog os ⟨#[.cells #[.string rangeS] 239,.cells #[.string syntaxS] 239],#[],[]⟩ with heap:=(((((((World.holding Tryz.prog os ⟨#[.cells #[.string rangeS] 239,.cells #[.string syntaxS] 239],#[],[]⟩).heap.modify 8 (layCells #[.int .u8 0,.int .u8 1,.int .u8 28,.int .u8 2,.int .u8 29,.int .u8 14,.int .u8 24,.int .u8 3,.int .u8 30,.int .u8 22,.int .u8 20,.int .u8 15,.int .u8 25,.int .u8 17,.int .u8 4,.int .u8 8,.int .u8 31,.int .u8 27,.int .u8 13,.int .u8 23,.int .u8 21,.int .u8 19,.int .u8 16,.int .u8 7,.int .u8 26,.int .u8 12,.int .u8 18,.int .u8 6,.int .u8 11,.int .u8 5,.int .u8 10,.int .u8 9])).modify 9 (layCells #[.int .u8 0,.int .u8 1,.int .u8 56,.int .u8 2,.int .u8 57,.int .u8 49,.int .u8 28,.int .u8 3,.int .u8 61,.int .u8 58,.int .u8 42,.int .u8 50,.int .u8 38,.int .u8 29,.int .u8 17,.int .u8 4,.int .u8 62,.int .u8 47,.int .u8 59,.int .u8 36,.int .u8 45,.int .u8 43,.int .u8 51,.int .u8 22,.int .u8 53,.int .u8 39,.int .u8 33,.int .u8 30,.int .u8 24,.int .u8 18,.int .u8 12,.int .u8 5,.int .u8 63,.int .u8 55,.int .u8 48,.int .u8 27,.int .u8 60,.int .u8 41,.int .u8 37,.int .u8 16,.int .u8 46,.int .u8 35,.int .u8 44,.int .u8 21,.int .u8 52,.int .u8 32,.int .u8 23,.int .u8 11,.int .u8 54,.int .u8 26,.int .u8 40,.int .u8 15,.int .u8 34,.int .u8 20,.int .u8 31,.int .u8 10,.int .u8 25,.int .u8 14,.int .u8 19,.int .u8 9,.int .u8 13,.int .u8 8,.int .u8 7,.int .u8 6])).modify 3 (layCells #[.int .u64 1,.int .u64 10,.int .u64 100,.int .u64 1000,.int .u64 10000,.int .u64 100000,.int .u64 1000000,.int .u64 10000000,.int .u64 100000000,.int .u64 1000000000,.int .u64 10000000000,.int .u64 100000000000,.int .u64 1000000000000,.int .u64 10000000000000,.int .u64 100000000000000,.int .u64 1000000000000000,.int .u64 10000000000000000,.int .u64 100000000000000000,.int .u64 1000000000000000000,.int .u64 10000000000000000000])).modify 2 (layCells #[.iface 237 (.pointer (some ⟨low,0,none⟩))])).modify 1 (layCells #[.iface 237 (.pointer (some ⟨low+1,0,none⟩))])).modify 7 (layCells #[.int .u8 128,.int .u8 191,.int .u8 160,.int .u8 191,.int .u8 128,.int .u8 159,.int .u8 144,.int .u8 191,.int .u8 128,.int .u8 143,.int .u8 0,.int .u8 0,.int .u8 0,.int .u8 0,.int .u8 0,.int .u8 0,.int .u8 0,.int .u8 0,.int .u8 0,.int .u8 0,.int .u8 0,.int .u8 0,.int .u8 0,.int .u8 0,.int .u8 0,.int .u8 0,.int .u8 0,.int .u8 0,.int .u8 0,.int .u8 0,.int .u8 0,.int .u8 0])).modify 6 (layCells (Go.Pinned.utf8FirstZ.map (fun(n:Nat)=>Value.int .u8 (n:Int))).toArray)}
end Go.Proofs.YtpdlbmieciabmaaGreatDoor
