/-What is proved here:several parts. blocks with room,whose shares and numbers are made zero. No conditions. · a bid's receipt is the hash of its text. Conditions:the texts and lists are short. · the law on texts of bids. Conditions:the numbers are ints,the lists and the text are short. · the law on what the functions on bids leave alone. Conditions:the numbers are ints and bytes. -/
import Derived.Test.YtpdlbmieciabmaaGreatDoorPk01
import Derived.Test.YtpdlbmieciabmaaGreatDoorPk02
import Derived.Test.YtpdlbmieciabmaaGreatDoorPk04
import Derived.Test.YtpdlbmieciabmaaGreatDoorPk06
import Derived.Test.YtpdlbmieciabmaaGreatDoorPk11
import Derived.Test.YtpdlbmieciabmaaGreatDoorPk12
import Derived.Test.YtpdlbmieciabmaaGreatDoorPk14
import Derived.Test.YtpdlbmieciabmaaGreatDoorPk16
import Derived.Test.YtpdlbmieciabmaaGreatDoorPk17
import Derived.Test.YtpdlbmieciabmaaGreatDoorPk18
import Derived.Test.YtpdlbmieciabmaaGreatDoorPk20
import Derived.Test.YtpdlbmieciabmaaGreatDoorPk21
import Derived.Test.YtpdlbmieciabmaaGreatDoorPk23
import Derived.Test.YtpdlbmieciabmaaGreatDoorPk25
import Derived.Test.YtpdlbmieciabmaaGreatDoorPk26
import Derived.Stop.BytesEq
import Derived.Laws.StructEq
import Derived.Deep.RegionLaw
import Derived.WalkSmall
import Derived.Deep.Quiet
import Derived.Deep.RegionHeld3
import Derived.BigRegion
import Derived.Deep.DeepCutAuto
import Derived.Deep.MidRow
namespace Go.Proofs.YtpdlbmieciabmaaGreatDoor
open Go.RowKit Go.Shelf
def Room(W:World)(g:Nat)(e:TypeId)(m:Nat):Prop:=∃cs:Array Value,Blk W g e cs∧m≤cs.size
theorem Room.there{W:World}{g:Nat}{e:TypeId}{m o n:Nat}(h:Room W g e m)(hn:o+n≤m):W.there g o n:=by
 obtain⟨cs,h1,h2⟩:=h
 exact h1.there o n (Nat.le_trans hn h2)
theorem Room.set{W:World}{g:Nat}{e:TypeId}{m:Nat}(h:Room W g e m)(o:Nat)(vs:List Value)(hn:o+vs.length≤m):Room (W.setCells g o vs) g e m:=by
 obtain⟨cs,h1,h2⟩:=h
 have h3:Blk W g e cs.toList.toArray:=by rw[Array.toArray_toList];exact h1
 have h4:cs.toList.length=cs.size:=Array.length_toList
 have h5:=setMany_eq vs cs.toList o (by omega)
 refine⟨_,Blk.setCells vs o h3,?_⟩
 rw[List.size_toArray,h5]
 simp only[List.length_append,List.length_take,List.length_drop]
 omega
theorem Room.keep{W W' :World}{g:Nat}{e:TypeId}{m:Nat}{S:Nat→Prop}(h:Room W g e m)(ho:Only S W W')(hS:¬S g):Room W' g e m:=by
 obtain⟨cs,h1,h2⟩:=h
 exact⟨cs,h1.only ho hS,h2⟩
theorem Room.of_own{W:World}{base g n cap size:Nat}{e:TypeId}{xs:List Value}(h:W.ownsRow base e size (.slice (some ⟨g,0,none⟩) n cap) n xs):Room W g e (n*size)∧base≤g:=by
 rcases h.2 with⟨h0,_⟩|⟨g',cap',cur,hv,hb,hh,hc,hx,hs,ht⟩
 ·simp at h0
 ·simp only[Value.slice.injEq,Option.some.injEq,Addr.mk.injEq,and_true,true_and] at hv
  obtain⟨rfl,rfl⟩:=hv
  exact⟨⟨cur,hh,by rw[hs];exact Nat.mul_le_mul_right _ hc⟩,hb⟩
def sh0:List Value:=[.int .i64 0,.int .i64 0]
def shSt(p v:Value):Sem Unit:=Instr.storeAt tSh p v
theorem shSt_eq(p v:Value):Instr.storeAt tSh p v=shSt p v:=rfl
def zbSh(parts:Array (Nat×Value)):Sem Value:=Instr.build tSh parts
theorem zbSh_eq(parts:Array (Nat×Value)):Instr.build tSh parts=zbSh parts:=rfl
theorem zbSh_run(W:World):(zbSh #[]).run Tryz.prog W= .ok (.agg sh0.toArray) W:=run_build (P:=Tryz.prog) W tSh _ _ (by kernel_rfl)
theorem sh_zero{W:World}{g n k:Nat}(h:Room W g tSh (n*2))(hk:k<n):(shSt (.pointer (some ⟨g,k*2,none⟩)) (.agg sh0.toArray)).run Tryz.prog W= .ok () (W.setCells g (k*2) sh0):=
 run_storeAt_mid (P:=Tryz.prog) W g (k*2) tSh sh0.toArray (h.there (show k*2+sh0.toArray.size≤n*2 from by have:sh0.toArray.size=2:=rfl;omega)) (by kernel_rfl) (by simp[sh0,Value.oneCell'])
theorem Room.ne{W:World}{g g' :Nat}{e t:TypeId}{m:Nat}{cs:Array Value}(h:Room W g e m)(hb:Blk W g' t cs)(ht:e≠t):g'≠g:=fun e2=>by
 subst e2
 obtain⟨c2,h1,_⟩:=h
 exact ht (Blk.ty h1 hb)
theorem Room.ne2{W:World}{g g' :Nat}{e t:TypeId}{m m' :Nat}(h:Room W g e m)(hb:Room W g' t m')(ht:e≠t):g'≠g:=by
 obtain⟨cs,h1,_⟩:=hb
 exact h.ne h1 ht
theorem Room.set1{W:World}{g:Nat}{e:TypeId}{m:Nat}(h:Room W g e m)(i:Nat)(u:Value):Room (W.setCell ⟨g,i,none⟩ u) g e m:=by
 obtain⟨cs,h1,h2⟩:=h
 exact⟨_,h1.set_ i u,by rw[Array.size_setIfInBounds];exact h2⟩
structure KpZ(base:Nat)(Z1:World)(gA:Nat)(bc:Array Value)(g0 g1 gP off k:Nat)(W:World):Prop where
 bid:Blk W gA tBid bc
 r0:Room W g0 tSh (off*2)
 r1:Room W g1 tSh (off*2)
 rp:Room W gP 3 k
 lo:base≤g0∧base≤g1∧base≤gP
 only:Only (Hi base) Z1 W
theorem Room.near{W:World}{g g' :Nat}{m m' :Nat}(h:Room W g' tSh m')(hg:Room W g tSh m)(o:Nat)(vs:List Value)(hn:o+vs.length≤m):Room (W.setCells g o vs) g' tSh m' :=by
 have ho:Only (fun i=>i=g) W (W.setCells g o vs):=only_setCells (S:=fun i=>i=g) (Only.refl _ _) g o (.inl rfl) vs
 by_cases e:g' =g
 ·subst e
  obtain⟨cs,h1,h2⟩:=h
  obtain⟨c2,h3,h4⟩:=hg
  have e2:cs=c2:=by
   have:=h1.symm.trans h3
   simp only[Option.some.injEq,Obj.cells.injEq] at this
   exact this.1
  subst e2
  obtain⟨c5,h5,h6⟩:=Room.set (W:=W) (g:=g') (e:=tSh) (m:=cs.size) ⟨cs,h1,Nat.le_refl _⟩ o vs (by omega)
  exact⟨c5,h5,by omega⟩
 ·exact h.keep ho e
theorem KpZ.sh{base:Nat}{Z1:World}{gA:Nat}{bc:Array Value}{g0 g1 gP off k g j:Nat}{W:World}(h:KpZ base Z1 gA bc g0 g1 gP off k W)(hg:g=g0∨g=g1)(hj:j<off):KpZ base Z1 gA bc g0 g1 gP off k (W.setCells g (j*2) sh0):=by
 have hr:Room W g tSh (off*2):=by rcases hg with rfl|rfl;exact h.r0;exact h.r1
 have hb:base≤g:=by rcases hg with rfl|rfl;exact h.lo.1;exact h.lo.2.1
 have ho:Only (fun i=>i=g) W (W.setCells g (j*2) sh0):=only_setCells (S:=fun i=>i=g) (Only.refl _ _) g _ (.inl rfl) _
 have hl:j*2+sh0.length≤off*2:=by have:sh0.length=2:=rfl;omega
 exact⟨h.bid.only ho (hr.ne h.bid (by decide)),h.r0.near hr _ _ hl,h.r1.near hr _ _ hl,h.rp.keep ho (hr.ne2 h.rp (by decide)),h.lo,only_setCells h.only g _ (.inl hb) _⟩
theorem KpZ.co{base:Nat}{Z1:World}{gA:Nat}{bc:Array Value}{g0 g1 gP off k:Nat}{W:World}(h:KpZ base Z1 gA bc g0 g1 gP off k W)(j:Nat):KpZ base Z1 gA bc g0 g1 gP off k (W.setCell ⟨gP,j,none⟩ (.int .i64 0)):=by
 have ho:Only (fun i=>i=gP) W (W.setCell ⟨gP,j,none⟩ (.int .i64 0)):=(Only.refl (fun i=>i=gP) W).setCell (p:=⟨gP,j,none⟩) (.inl rfl) _
 exact⟨h.bid.only ho (h.rp.ne h.bid (by decide)),h.r0.keep ho (h.rp.ne2 h.r0 (by decide)),h.r1.keep ho (h.rp.ne2 h.r1 (by decide)),h.rp.set1 _ _,h.lo,h.only.setCell (p:=⟨gP,j,none⟩) (.inl h.lo.2.2) _⟩
end Go.Proofs.YtpdlbmieciabmaaGreatDoor
namespace Go.Proofs.YtpdlbmieciabmaaGreatDoor
open Go.RowKit Go.Shelf
theorem encB_len{d:Bd}(h:d.Ok):(encB d).length≤22*(d.qc.length+d.pc.length)+2*(d.qt.size+d.pt.size)+100:=by
 have h1:=lineL_len wBid [d.bidder] (fun x hx=>by rw[List.mem_singleton.1 hx];exact h.id)
 have h2:=lineL_len wQuality d.qc h.qi
 have h3:=lineL_len (hexL d.qt.data.toList) [] (fun x hx=>by cases hx)
 have h4:=lineL_len wPrice d.pc h.pi
 have h5:=lineL_len (hexL d.pt.data.toList) [] (fun x hx=>by cases hx)
 rw[hexL_len,←size_list] at h3 h5
 have e1:wBid.length=3:=rfl
 have e2:wQuality.length=7:=rfl
 have e3:wPrice.length=5:=rfl
 simp only[List.length_singleton,List.length_nil] at h1 h3 h5
 unfold encB
 simp only[List.length_append]
 omega
end Go.Proofs.YtpdlbmieciabmaaGreatDoor
namespace Go.Proofs.YtpdlbmieciabmaaGreatDoor
open Go.RowKit Go.Shelf
theorem int_sl{w:World}{k:Nat}{A:Option Addr}{ns:List Int}(h:SlOf inC 1 w (.slice A ns.length k) ns):IntSl w A ns:=by
 cases ns with
 |nil=>exact .inl rfl
 |cons m ns=>
  obtain⟨A',cap,e,_,_,h4⟩:=h
  cases e
  obtain⟨g,o,rfl,hg,_⟩:=h4 0 m rfl
  refine .inr ⟨g,o,rfl,hg,fun j x hx=> ?_⟩
  obtain⟨g2,o2,e2,_,hr⟩:=h4 j x hx
  cases e2
  have:=hr 0 _ rfl
  simpa using this
theorem d_two{s:List UInt8}{a b:Bd}{c d:Int}(h:(c=0∧BRd s a)∨(c=11∧a=bd0∧∀x,¬BRd s x))(k:(d=0∧BRd s b)∨(d=11∧b=bd0∧∀x,¬BRd s x)):c=d∧a=b:=by
 rcases h with⟨rfl,h⟩|⟨rfl,rfl,h⟩<;>rcases k with⟨rfl,k⟩|⟨rfl,rfl,k⟩
 ·exact⟨rfl,h.inj k⟩
 ·exact(k _ h).elim
 ·exact(h _ k).elim
 ·exact⟨rfl,rfl⟩
end Go.Proofs.YtpdlbmieciabmaaGreatDoor
namespace Go.Proofs.YtpdlbmieciabmaaGreatDoor
open Go.RowKit Go.Shelf
attribute [local go_sem ↓ high] shSt_eq zbSh_eq
set_option maxRecDepth 100000 in
set_option maxHeartbeats 4000000 in
theorem bkeeps_law(n:Int)(hn:In n)(s:ByteArray)(a b:Nat)(ha:a<256)(hb:b<256)(o:Of)(hok:o.Ok)(ov:Value)(w:World)(he:Env w)(h:OfAt w ov o):Calls Tryz.prog 4 #[.agg #[.int .i64 n,.string s,.int .u8 (a:Int),.int .u8 (b:Int)],ov] w (fun e w' =>e= .returned (.bool true)∧Only NoneOf w w'):=by
 have hov:=h
 obtain⟨ev,rv,rfl,_,_⟩:=h
 obtain⟨P,eP⟩:∃P,P=w.heap.size:=⟨_,rfl⟩
 obtain⟨X,eX⟩:∃X,X=(w.alloc (.cells #[.int .i64 n,.string s,.int .u8 (a:Int),.int .u8 (b:Int)] tMd)).alloc (.cells #[ev,rv] tOf):=⟨_,rfl⟩
 have hX:Only NoneOf w X:=by rw[eX];exact((Only.refl _ _).alloc _).alloc _
 have HP:=Lib.hid (show Blk X P tMd #[.int .i64 n,.string s,.int .u8 (a:Int),.int .u8 (b:Int)] by rw[eX,eP];exact(Blk.new w _ _).alloc _)
 have HO:=Lib.hid (show Blk X (P+1) tOf #[ev,rv] by
  have h2:=Blk.new (w.alloc (.cells #[.int .i64 n,.string s,.int .u8 (a:Int),.int .u8 (b:Int)] tMd)) tOf #[ev,rv]
  rw[World.size_alloc,←eP,←eX] at h2
  exact h2)
 have HOX:=Lib.hid (hov.only hX)
 have HWX:=Lib.hid hX
 have HE:=Lib.hid (he.none hX)
 have EX:=Lib.hid eX
 have EP:=Lib.hid eP
 obtain⟨off,eoff⟩:∃x,x=1+b%13:=⟨_,rfl⟩
 obtain⟨k,ek⟩:∃x,x=1+a%off:=⟨_,rfl⟩
 have hoff:1≤off∧off≤13:=by omega
 have hk1:1≤k:=by omega
 have hko:k≤off:=by
  have:=Nat.mod_lt a (show 0<off by omega)
  omega
 have hgood:=fun W=>good_any16 n s a b ha hb W
 rw[←eoff,←ek] at hgood
 have HGD:=Lib.hid hgood
 obtain⟨es,ees⟩:∃es,es=mkEs false o:=⟨_,rfl⟩
 obtain⟨rs,ers⟩:∃rs,rs=mkRs o:=⟨_,rfl⟩
 have hin:∀e∈es,EnIn e:=by rw[ees];exact mkEs_in hok false
 have hrn:∀r∈rs,RbIn r:=by rw[ers];exact mkRs_in hok
 have hright:rightL es=true:=by rw[ees];exact mkEs_right o
 have hpl:(pricL es rs).length≤2000:=by rw[ees,ers];exact mkPr_text hok false
 have hql:(textG (qLines es)).length≤4000:=by rw[ees];exact mkEs_text hok false
 have hqq:(qualL es).length≤4000:=by rw[ees];exact qualL_len hok false
 have hes:es.length≤6:=by rw[ees];exact mkEs_len false o
 obtain⟨sd,esd⟩:∃sd,sd=(sdT s).data.toList :=⟨_,rfl⟩
 have hm1:=mde_good n sd k off hk1 hko hoff.2 es rs hright
 obtain⟨m1,em1⟩:∃m,m=mde n sd (k:Int) (off:Int) es rs:=⟨_,rfl⟩
 rw[←em1] at hm1
 have HM1:=Lib.hid hm1
 have MK1:Hid (∀v u W,EnSl W v es→RbSl W u rs→Tab W→Calls Tryz.prog 11 #[.int .i64 n,.string (sdT s),.int .i64 (k:Int),.int .i64 (off:Int),v,u] W (MkdE m1 W)):=Lib.hid (fun v u W h1 h2 h3=>by
  rw[em1,esd]
  exact bmake_any n hn (sdT s) (by have:=sdT_size s;omega) k off es rs hin hrn (by omega) (by omega) (by omega) v u W h1 h2 h3)
 have HIN:=Lib.hid hin
 have HRN:=Lib.hid hrn
 have HPL:=Lib.hid hpl
 have HES:=Lib.hid hes
 have HQQ:=Lib.hid hqq
 have HOFF:=Lib.hid hoff
 have HK1:=Lib.hid hk1
 have HKO:=Lib.hid hko
 have EES:=Lib.hid ees
 have ERS:=Lib.hid ers
 clear hX eX eP hov he eoff ek hgood hin hrn hright hpl hql hqq hm1 em1 esd ees ers
 go_enter Tryz.func4,Tryz.ntmps4
 go_wp2_with fail
 rw[←EX.out]
 rw[←EP.out]
 refine(sanity16 X HE.out).mono ?_
 rintro e w1 ⟨rfl,ho1⟩
 have HO1:=Lib.hid ho1
 have p0:=(HP.out.only ho1 (fun e=>e)).cell 0
 have p1:=(HP.out.only ho1 (fun e=>e)).cell 1
 have p2:=(HP.out.only ho1 (fun e=>e)).cell 2
 have p3:=(HP.out.only ho1 (fun e=>e)).cell 3
 clear ho1
 go_wp2_with fail
 refine(HGD.out w1).mono ?_
 rintro e w2 ⟨rfl,ho2⟩
 have HO2:=Lib.hid (HO1.out.trans ho2)
 have o0:=(HO.out.only HO2.out (fun e=>e)).cell 0
 have o1:=(HO.out.only HO2.out (fun e=>e)).cell 1
 clear ho2 p0 p1 p2 p3
 go_wp2_with fail
 refine(make16_any o hok false (.agg #[ev,rv]) w2 (HOX.out.only HO2.out)).mono ?_
 rintro e w3 ⟨ev2,rv2,rfl,hen,hrb,ho3⟩
 rw[←EES.out] at hen
 rw[←ERS.out] at hrb
 obtain⟨EA,ek,rfl,_,_⟩:=hen.form
 obtain⟨RA,rk,rfl,_,_⟩:=hrb.form
 have HEN:=Lib.hid hen.sl
 have HRB:=Lib.hid hrb.sl
 have HO3:=Lib.hid (HO2.out.trans ho3)
 have o0:=(HO.out.only HO3.out (fun e=>e)).cell 0
 have o1:=(HO.out.only HO3.out (fun e=>e)).cell 1
 clear hen hrb ho3
 go_wp2_with fail
 refine(make16_any o hok false (.agg #[ev,rv]) w3 (HOX.out.only HO3.out)).mono ?_
 rintro e w4 ⟨ev3,rv3,rfl,hen4,hrb4,ho4⟩
 rw[←EES.out] at hen4
 rw[←ERS.out] at hrb4
 obtain⟨OA,ok,rfl,_,_⟩:=hen4.form
 obtain⟨QA,qk,rfl,_,_⟩:=hrb4.form
 have HOW:=Lib.hid hen4.sl
 have HOR:=Lib.hid hrb4.sl
 have HO4:=Lib.hid (HO3.out.trans ho4)
 have HEN4:=Lib.hid (HEN.out.only ho4)
 have HRB4:=Lib.hid (HRB.out.only ho4)
 have HPV:=Lib.hid (HP.out.only HO4.out (fun e=>e))
 have HTV:=Lib.hid (HE.out.none HO4.out).tab
 have HMK1:Hid (∀W,Only NoneOf w4 W→Calls Tryz.prog 11 #[.int .i64 n,.string (sdT s),.int .i64 (k:Int),.int .i64 (off:Int),.slice EA es.length ek,.slice RA rs.length rk] W (MkdE m1 W)):=Lib.hid (fun W hW=>MK1.out _ _ W (HEN4.out.only hW) (HRB4.out.only hW) (HTV.out.none hW))
 clear hen4 hrb4 ho4 o0 o1
 go_upto_region 5 with(fail)
 go_cut [12,13,14] from 43 to 56 (fun p q c Z2=>∃gA gB qv pv y0 y1,p= .pointer (some ⟨gA,0,none⟩)∧q= .pointer (some ⟨gB,0,none⟩)∧c= .int .i64 m1.code∧Blk Z2 gA tBid #[.int .i64 m1.bid.bidder,.string m1.bid.qt,qv,.string m1.bid.pt,pv]∧Blk Z2 gB tShs #[y0,y1]∧MdS w4.heap.size m1 (.agg #[.int .i64 m1.bid.bidder,.string m1.bid.qt,qv,.string m1.bid.pt,pv]) y0 y1 Z2∧Only NoneOf w4 Z2)
 case first=>
  refine wp_region_choice (MdK w4 [(0,.pointer (some ⟨P,0,none⟩)),(1,.int .i64 n),(2,.agg #[.int .i64 n,.string s,.int .u8 (a:Int),.int .u8 (b:Int)]),(3,.string (sdT s)),(4,.int .i64 (k:Int)),(5,.int .i64 (off:Int)),(6,.slice EA es.length ek),(7,.slice RA rs.length rk),(17,.int .i64 m1.code)] (⟨8,9,10,11,12,13,14,15,16⟩:Ix) (m1)) 159 (by kernel_rfl) (by kernel_rfl) (by kernel_rfl) (by kernel_rfl) (by simp) (MdK.start _ _) ?_ ?_
  have hdif:(⟨8,9,10,11,12,13,14,15,16⟩:Ix).Dif :=Ix.dif (by decide)
  refine⟨?_,?_,?_,?_,?_,?_,?_,?_,?_,?_,?_,?_,?_,?_,?_,?_,?_,?_,trivial⟩
  ·intro vals L W ρ hdn hr hC hd ho hx
   have e:ρ (.tmp 2)= .pointer (some ⟨P,0,none⟩):=ho 2 (by kernel_rfl)
   simp[stepR,go_sem,e]
   exact hC.pure_ (by decide) (pv_only (by kernel_rfl) (k:=0) rfl) (ready_lt hr)
  ·intro vals L W ρ hdn hr hC hd ho hx
   have e:ρ (.tmp 44)=_:=(hd 0 44 (by kernel_rfl) rfl).trans (hC.pure _ (List.mem_of_getElem? (i:=0) rfl) (ready_dep hr (j:=0) (by kernel_rfl)))
   have c:=(HPV.out.only hC.only (fun e=>e)).cell 0
   simp[stepR,go_sem,e,c]
   exact hC.pure_ (by decide) (pv_only (by kernel_rfl) (k:=1) rfl) (ready_lt hr)
  ·intro vals L W ρ hdn hr hC hd ho hx
   have e:ρ (.tmp 2)= .pointer (some ⟨P,0,none⟩):=ho 2 (by kernel_rfl)
   exact step_load rfl e (HPV.out.only hC.only (fun e=>e)) Tryz.underlying23 rfl (by kernel_rfl) (hC.pure_ (by decide) (pv_only (by kernel_rfl) (k:=2) rfl) (ready_lt hr))
  ·intro vals L W ρ hdn hr hC hd ho hx
   have e:ρ (.tmp 46)=_:=(hd 2 46 (by kernel_rfl) rfl).trans (hC.pure _ (List.mem_of_getElem? (i:=2) rfl) (ready_dep hr (j:=2) (by kernel_rfl)))
   have hf:ρ (.func 12)= .func (.func 12) #[] #[]:=hx _ (fun s e=>by cases e)
   simp[stepR,go_sem,e,hf]
   refine(seed16_any n s a b W).mono ?_
   rintro e9 W2 ⟨rfl,ho2⟩
   exact⟨_,rfl,(hC.none_ ho2).pure_ (by decide) (pv_only (by kernel_rfl) (k:=3) rfl) (ready_lt hr)⟩
  ·intro vals L W ρ hdn hr hC hd ho hx
   have e:ρ (.tmp 6)= .int .i64 (k:Int):=ho 6 (by kernel_rfl)
   simp[stepR,go_sem,e]
   exact hC.pure_ (by decide) (pv_only (by kernel_rfl) (k:=4) rfl) (ready_lt hr)
  ·intro vals L W ρ hdn hr hC hd ho hx
   have e:ρ (.tmp 7)= .int .i64 (off:Int):=ho 7 (by kernel_rfl)
   simp[stepR,go_sem,e]
   exact hC.pure_ (by decide) (pv_only (by kernel_rfl) (k:=5) rfl) (ready_lt hr)
  ·intro vals L W ρ hdn hr hC hd ho hx
   have e:ρ (.tmp 8)= .slice EA es.length ek:=ho 8 (by kernel_rfl)
   simp[stepR,go_sem,e]
   exact hC.pure_ (by decide) (pv_only (by kernel_rfl) (k:=6) rfl) (ready_lt hr)
  ·intro vals L W ρ hdn hr hC hd ho hx
   have e:ρ (.tmp 9)= .slice RA rs.length rk:=ho 9 (by kernel_rfl)
   simp[stepR,go_sem,e]
   exact hC.pure_ (by decide) (pv_only (by kernel_rfl) (k:=7) rfl) (ready_lt hr)
  ·intro vals L W ρ hdn hr hC hd ho hx
   have e0:ρ (.tmp 45)=_:=(hd 1 45 (by kernel_rfl) rfl).trans (hC.pure _ (List.mem_of_getElem? (i:=1) rfl) (ready_dep hr (j:=1) (by kernel_rfl)))
   have e1:ρ (.tmp 47)=_:=(hd 3 47 (by kernel_rfl) rfl).trans (hC.pure _ (List.mem_of_getElem? (i:=3) rfl) (ready_dep hr (j:=3) (by kernel_rfl)))
   have e2:ρ (.tmp 48)=_:=(hd 4 48 (by kernel_rfl) rfl).trans (hC.pure _ (List.mem_of_getElem? (i:=4) rfl) (ready_dep hr (j:=4) (by kernel_rfl)))
   have e3:ρ (.tmp 49)=_:=(hd 5 49 (by kernel_rfl) rfl).trans (hC.pure _ (List.mem_of_getElem? (i:=5) rfl) (ready_dep hr (j:=5) (by kernel_rfl)))
   have e4:ρ (.tmp 50)=_:=(hd 6 50 (by kernel_rfl) rfl).trans (hC.pure _ (List.mem_of_getElem? (i:=6) rfl) (ready_dep hr (j:=6) (by kernel_rfl)))
   have e5:ρ (.tmp 51)=_:=(hd 7 51 (by kernel_rfl) rfl).trans (hC.pure _ (List.mem_of_getElem? (i:=7) rfl) (ready_dep hr (j:=7) (by kernel_rfl)))
   have hf:ρ (.func 11)= .func (.func 11) #[] #[]:=hx _ (fun s e=>by cases e)
   simp[stepR,go_sem,e0,e1,e2,e3,e4,e5,hf]
   refine(HMK1.out W hC.only).mono ?_
   rintro e9 W2 ⟨bv,y0,y1,rfl,h1,h2,h3,ho2⟩
   exact⟨_,rfl,(hC.none_ ho2).call hdif (by kernel_rfl) (ready_lt hr) (MdS.of_base hC.only.size h1 h2 h3) (undone1 hdn hr (k:=9) (by kernel_rfl)) (undone2 hdn hr (k:=10) (j:=9) (by kernel_rfl) (by kernel_rfl)) (undone2 hdn hr (k:=11) (j:=9) (by kernel_rfl) (by kernel_rfl)) (undone2 hdn hr (k:=12) (j:=9) (by kernel_rfl) (by kernel_rfl))⟩
  ·intro vals L W ρ hdn hr hC hd ho hx
   have e:ρ (.tmp 52)=vals 8:=hd 8 52 (by kernel_rfl) rfl
   simp[stepR,go_sem,e]
   exact hC.copy_ hdif (by kernel_rfl) (ready_lt hr)
  ·intro vals L W ρ hdn hr hC hd ho hx
   have hv:=ready_dep hr (j:=9) (by kernel_rfl)
   have hM:=down_dep hdn hv (j:=8) (by kernel_rfl)
   obtain⟨q9,p9,y9,z9,e2,_⟩:=hC.parts hM
   have e:ρ (.tmp 43)=_:=((hd 9 43 (by kernel_rfl) rfl).trans (hC.copy hv)).trans e2
   simp[stepR,go_sem,e]
   exact hC.part0 hdif (by kernel_rfl) (ready_lt hr) e2 (undone1 hdn hr (k:=15) (by kernel_rfl))
  ·intro vals L W ρ hdn hr hC hd ho hx
   have hv:=ready_dep hr (j:=9) (by kernel_rfl)
   have hM:=down_dep hdn hv (j:=8) (by kernel_rfl)
   obtain⟨q9,p9,y9,z9,e2,_⟩:=hC.parts hM
   have e:ρ (.tmp 43)=_:=((hd 9 43 (by kernel_rfl) rfl).trans (hC.copy hv)).trans e2
   simp[stepR,go_sem,e]
   exact hC.part1 hdif (by kernel_rfl) (ready_lt hr) e2 (undone1 hdn hr (k:=16) (by kernel_rfl))
  ·intro vals L W ρ hdn hr hC hd ho hx
   have hv:=ready_dep hr (j:=9) (by kernel_rfl)
   have hM:=down_dep hdn hv (j:=8) (by kernel_rfl)
   obtain⟨q9,p9,y9,z9,e2,_⟩:=hC.parts hM
   have e:ρ (.tmp 43)=_:=((hd 9 43 (by kernel_rfl) rfl).trans (hC.copy hv)).trans e2
   simp[stepR,go_sem,e]
   exact hC.part2 hdif (by kernel_rfl) (ready_lt hr) e2
  ·intro vals L W ρ hdn hr hC hd ho hx
   exact hC.doA hdif (by kernel_rfl) (ready_lt hr) (undone1 hdn hr (k:=15) (by kernel_rfl)) (by simp[go_sem])
  ·intro vals L W ρ hdn hr hC hd ho hx
   exact hC.doB hdif (by kernel_rfl) (ready_lt hr) (undone1 hdn hr (k:=16) (by kernel_rfl)) (by simp[go_sem])
  ·intro vals L W ρ hdn hr hC hd ho hx
   have h0:=ready_dep hr (j:=10) (by kernel_rfl)
   have hM:=down_dep hdn (down_dep hdn h0 (j:=9) (by kernel_rfl)) (j:=8) (by kernel_rfl)
   exact hC.doS hdif (by kernel_rfl) (ready_lt hr) (ready_undone hr) (ready_dep hr (j:=13) (by kernel_rfl)) h0 hM rfl (hd 13 12 (by kernel_rfl) rfl) (hd 10 53 (by kernel_rfl) rfl)
  ·intro vals L W ρ hdn hr hC hd ho hx
   have h0:=ready_dep hr (j:=11) (by kernel_rfl)
   have hM:=down_dep hdn (down_dep hdn h0 (j:=9) (by kernel_rfl)) (j:=8) (by kernel_rfl)
   exact hC.doT hdif (by kernel_rfl) (ready_lt hr) (ready_undone hr) (ready_dep hr (j:=14) (by kernel_rfl)) h0 hM rfl (hd 14 13 (by kernel_rfl) rfl) (hd 11 54 (by kernel_rfl) rfl)
  ·intro vals L W ρ hdn hr hC hd ho hx
   have h2:=ready_dep hr (j:=12) (by kernel_rfl)
   have hM:=down_dep hdn (down_dep hdn h2 (j:=9) (by kernel_rfl)) (j:=8) (by kernel_rfl)
   obtain⟨_,_,_,_,e2,_⟩:=hC.parts hM
   obtain⟨_,_,e3⟩:=hC.p2 h2
   rw[e2] at e3
   simp only[Value.tuple.injEq,Array.mk.injEq,List.cons.injEq] at e3
   have e:ρ (.tmp 55)= .int .i64 m1.code:=(hd 12 55 (by kernel_rfl) rfl).trans e3.2.2.1.symm
   simp[stepR,go_sem,e]
   exact hC.pure_ (by decide) (pv_only (by kernel_rfl) (k:=8) rfl) (ready_lt hr)
  intro vals L Z hall hC
  obtain⟨gA,gB,qv,pv,y0,y1,vA,vB,vC,hgA,hgB,hbA,hbB,hmd,hoZ⟩:=hC.all hall ⟨by decide,by decide,by decide,by decide,by decide,by decide,by decide,by decide⟩
  have vD:vals 17= .int .i64 m1.code:=hC.pure _ (List.mem_of_getElem? (i:=8) rfl) (hall 17 (by decide))
  simp only[finA,Nat.reduceAdd,Act.put,List.setIfInBounds_toArray,List.set_cons_succ,List.set_cons_zero]
  rw[vA,vB,vD]
  clear vA vB vC vD
  go_wp2_with fail
  go_meet
  case rel=>exact⟨gA,gB,qv,pv,y0,y1,rfl,rfl,rfl,hbA,hbB,hmd,hoZ⟩
 case rest=>
  obtain⟨gA1,gB1,qv1,pv1,y01,y11,rfl,rfl,rfl,hbA1,hbB1,hmd1,hoZ1⟩:=hcut
  obtain⟨Z1,rfl⟩:∃x,x=wc:=⟨_,rfl⟩
  obtain⟨⟨q91,p91,e91,j11,j21⟩,j31,j41⟩:=hmd1
  have e81:qv1=q91∧pv1=p91:=by
   simp only[Value.agg.injEq,Array.mk.injEq,List.cons.injEq,and_true,true_and] at e91
   exact e91
  obtain⟨rfl,rfl⟩:=e81
  obtain⟨A01,k01,rfl,_,_⟩:=own_form' j11
  obtain⟨A11,k11,rfl,_,_⟩:=own_form' j21
  obtain⟨A21,k21,rfl,_,_⟩:=own_form' j31
  obtain⟨A31,k31,rfl,_,_⟩:=own_form' j41
  have hl0:m1.s0.length=off:=by rw[HM1.out];exact shL_len _ _
  have hl1:m1.s1.length=off:=by rw[HM1.out];exact shL_len _ _
  have hlq:m1.bid.qc.length=k:=by rw[HM1.out];show(cmL _).length =_;rw[cmL_len,cfs_len]
  have hlp:m1.bid.pc.length=k:=by rw[HM1.out];show(cmL _).length =_;rw[cmL_len,cfs_len]
  rw[hlq,hlp] at hbA1
  rw[hl0,hl1] at hbB1
  rw[hlp] at j21
  rw[hl0] at j31
  rw[hl1] at j41
  obtain⟨g0,c0,e0,_⟩:=own_form j31 (by have:=HOFF.out;omega)
  obtain⟨g1,c1,e1,_⟩:=own_form j41 (by have:=HOFF.out;omega)
  obtain⟨gP,cP,eP2,_⟩:=own_form j21 (by have:=HK1.out;omega)
  rw[e0] at j31
  rw[e1] at j41
  rw[eP2] at j21
  rw[e0,e1] at hbB1
  rw[eP2] at hbA1
  obtain⟨bc,ebc⟩:∃x,x= #[Value.int .i64 m1.bid.bidder,.string m1.bid.qt,.slice A01 k k01,.string m1.bid.pt,.slice (some ⟨gP,0,none⟩) k cP]:=⟨_,rfl⟩
  have hz:KpZ w4.heap.size Z1 gA1 bc g0 g1 gP off k Z1:=⟨by rw[ebc];exact hbA1,(Room.of_own j31).1,(Room.of_own j41).1,by have:=(Room.of_own j21).1;rwa [Nat.mul_one] at this,⟨(Room.of_own j31).2,(Room.of_own j41).2,(Room.of_own j21).2⟩,Only.refl _ _⟩
  have HZ:=Lib.hid hz
  have HZ1:=Lib.hid hoZ1
  have EBC:=Lib.hid ebc
  have b0:=hbB1.cell 0
  have b1:=hbB1.cell 1
  clear hl0 hl1 hlq hlp j11 j21 j31 j41 e0 e1 eP2 hbA1 hbB1 hz hoZ1 ebc e91
  go_wp2_with fail
  go_loopw [57] (fun i W=>(i= .int .i64 0∨i= .int .i64 1∨i= .int .i64 2)∧KpZ w4.heap.size Z1 gA1 bc g0 g1 gP off k W) (fun i _=>2-(intOf i).toNat)
  case atStart=>exact⟨.inl rfl,HZ.out⟩
  case round=>
   obtain⟨hi,hK⟩:=hrel
   have HK:=Lib.hid hK
   clear hK b0 b1
   rcases hi with rfl|rfl|rfl
   ·have hix:∀W,(Instr.index tShs (.agg #[.slice (some ⟨g0,0,none⟩) off c0,.slice (some ⟨g1,0,none⟩) off c1]) (.int .i64 0)).run Tryz.prog W= .ok (.slice (some ⟨g0,0,none⟩) off c0) W:=fun W=>by kernel_rfl
    go_wp2_with fail
    go_loopw [62] (fun i W=>∃j:Nat,i= .int .i64 (j:Int)∧j≤off∧KpZ w4.heap.size Z1 gA1 bc g0 g1 gP off k W) (fun i _=>off-(intOf i).toNat)
    case atStart=>exact⟨0,rfl,Nat.zero_le _,HK.out⟩
    case round=>
     obtain⟨j,rfl,hj,hK⟩:=hrel
     have hof:=HOFF.out
     by_cases hlt:j<off
     ·have hst:=sh_zero hK.r0 hlt
      have hz:=zbSh_run wr
      have ij:(j:Int)<(off:Int):=by omega
      have j0:(0:Int)≤(j:Int):=by omega
      have wj:IntKind.i64.wrap ((j:Int)+1)=(j:Int)+1:=IntWalk.i64_in _ (by omega)
      have HK2:=Lib.hid (hK.sh (g:=g0) (.inl rfl) hlt)
      clear hK hof
      go_wp2_with fail
      go_roundw
      case rel=>exact⟨j+1,by go_num,by omega,HK2.out⟩
      case measure=>simp[intOf];omega
     ·obtain rfl:j=off:=by omega
      have ij:¬(j:Int)<(j:Int):=by omega
      have HK2:=Lib.hid hK
      clear hK hof
      go_wp2_with fail
      exact⟨⟨.inr (.inl rfl),HK2.out⟩,by simp[intOf]⟩
   ·have hix:∀W,(Instr.index tShs (.agg #[.slice (some ⟨g0,0,none⟩) off c0,.slice (some ⟨g1,0,none⟩) off c1]) (.int .i64 1)).run Tryz.prog W= .ok (.slice (some ⟨g1,0,none⟩) off c1) W:=fun W=>by kernel_rfl
    go_wp2_with fail
    go_loopw [62] (fun i W=>∃j:Nat,i= .int .i64 (j:Int)∧j≤off∧KpZ w4.heap.size Z1 gA1 bc g0 g1 gP off k W) (fun i _=>off-(intOf i).toNat)
    case atStart=>exact⟨0,rfl,Nat.zero_le _,HK.out⟩
    case round=>
     obtain⟨j,rfl,hj,hK⟩:=hrel
     have hof:=HOFF.out
     by_cases hlt:j<off
     ·have hst:=sh_zero hK.r1 hlt
      have hz:=zbSh_run wr
      have ij:(j:Int)<(off:Int):=by omega
      have j0:(0:Int)≤(j:Int):=by omega
      have wj:IntKind.i64.wrap ((j:Int)+1)=(j:Int)+1:=IntWalk.i64_in _ (by omega)
      have HK2:=Lib.hid (hK.sh (g:=g1) (.inr rfl) hlt)
      clear hK hof
      go_wp2_with fail
      go_roundw
      case rel=>exact⟨j+1,by go_num,by omega,HK2.out⟩
      case measure=>simp[intOf];omega
     ·obtain rfl:j=off:=by omega
      have ij:¬(j:Int)<(j:Int):=by omega
      have HK2:=Lib.hid hK
      clear hK hof
      go_wp2_with fail
      exact⟨⟨.inr (.inr rfl),HK2.out⟩,by simp[intOf]⟩
   ·have a4:wr.cell? ⟨gA1,4,none⟩=some (.slice (some ⟨gP,0,none⟩) k cP):=by
     have h:=HK.out.bid.cell 4
     rw[EBC.out] at h
     exact h
    go_wp2_with fail
    clear a4
    go_loopw [75] (fun i W=>∃j:Nat,i= .int .i64 (j:Int)∧j≤k∧KpZ w4.heap.size Z1 gA1 bc g0 g1 gP off k W) (fun i _=>k-(intOf i).toNat)
    case atStart=>exact⟨0,rfl,Nat.zero_le _,HK.out⟩
    case round=>
     obtain⟨j,rfl,hj,hK⟩:=hrel
     have hkk:k≤13:=by have:=HKO.out;have:=HOFF.out;omega
     by_cases hlt:j<k
     ·have a4:wr.cell? ⟨gA1,4,none⟩=some (.slice (some ⟨gP,0,none⟩) k cP):=by
       have h:=hK.bid.cell 4
       rw[EBC.out] at h
       exact h
      obtain⟨cz,hz1,hz2⟩:=hK.rp
      have p0:=hz1.cell j
      rw[Array.getElem?_eq_getElem (show j<cz.size by omega)] at p0
      have p1:=hz1.frozen j
      obtain⟨zv,ezv⟩:∃x,x=cz[j]'(show j<cz.size by omega):=⟨_,rfl⟩
      rw[←ezv] at p0
      have HK2:=Lib.hid (hK.co j)
      have ij:(j:Int)<(k:Int):=by omega
      have j0:(0:Int)≤(j:Int):=by omega
      have wj:IntKind.i64.wrap ((j:Int)+1)=(j:Int)+1:=IntWalk.i64_in _ (by omega)
      clear hK hz1 ezv hz2
      go_wp2_with fail
      go_roundw
      case rel=>exact⟨j+1,by go_num,by omega,HK2.out⟩
      case measure=>simp[intOf];omega
     ·obtain rfl:k=j:=by omega
      have ij:¬(k:Int)<(k:Int):=by omega
      have HK2:=Lib.hid hK
      clear hK
      obtain⟨V,rfl⟩:∃x,x=wr:=⟨_,rfl⟩
      have hlow:∀g,g<w4.heap.size→¬Hi w4.heap.size g:=fun g hg h=>by have h' :w4.heap.size≤g:=h;omega
      have h4v:Only (Hi w4.heap.size) w4 V:=(HZ1.out.mono (fun _ _ e=>e.elim)).trans HK2.out.only
      have hxv:Only NoneOf X V:=(HO4.out.trans HZ1.out).trans' HK2.out.only (fun i hi h=>by have h' :w4.heap.size≤i:=h;have:=HO4.out.size;have:=HZ1.out.size;omega)
      have HEV:=Lib.hid (HEN4.out.low h4v hlow)
      have HRV:=Lib.hid (HRB4.out.low h4v hlow)
      have HOV:=Lib.hid (HOW.out.low h4v hlow)
      have HQV:=Lib.hid (HOR.out.low h4v hlow)
      have HXV:=Lib.hid hxv
      have HPX:=Lib.hid (HP.out.only hxv (fun e=>e))
      have HTX:=Lib.hid (HE.out.none hxv).tab
      have HMK2:Hid (∀W,Only NoneOf V W→Calls Tryz.prog 11 #[.int .i64 n,.string (sdT s),.int .i64 (k:Int),.int .i64 (off:Int),.slice EA es.length ek,.slice RA rs.length rk] W (MkdE m1 W)):=Lib.hid (fun W hW=>MK1.out _ _ W (HEV.out.only hW) (HRV.out.only hW) (HTX.out.none hW))
      have HMK3:Hid (∀W,Only NoneOf V W→Calls Tryz.prog 11 #[.int .i64 n,.string (sdT s),.int .i64 (k:Int),.int .i64 (off:Int),.slice OA es.length ok,.slice QA rs.length qk] W (MkdE m1 W)):=Lib.hid (fun W hW=>MK1.out _ _ W (HOV.out.only hW) (HQV.out.only hW) (HTX.out.none hW))
      clear hlow h4v hxv HK2 HZ HK HMK1
      go_upto_region 20 with(fail)
      go_cut [19,20,21] from 84 to 97 (fun p q c Z2=>∃gA gB qv pv y0 y1,p= .pointer (some ⟨gA,0,none⟩)∧q= .pointer (some ⟨gB,0,none⟩)∧c= .int .i64 m1.code∧Blk Z2 gA tBid #[.int .i64 m1.bid.bidder,.string m1.bid.qt,qv,.string m1.bid.pt,pv]∧Blk Z2 gB tShs #[y0,y1]∧MdS V.heap.size m1 (.agg #[.int .i64 m1.bid.bidder,.string m1.bid.qt,qv,.string m1.bid.pt,pv]) y0 y1 Z2∧Only NoneOf V Z2)
      case first=>
       refine wp_region_choice (MdK V [(0,.pointer (some ⟨P,0,none⟩)),(1,.int .i64 n),(2,.agg #[.int .i64 n,.string s,.int .u8 (a:Int),.int .u8 (b:Int)]),(3,.string (sdT s)),(4,.int .i64 (k:Int)),(5,.int .i64 (off:Int)),(6,.slice EA es.length ek),(7,.slice RA rs.length rk),(17,.int .i64 m1.code)] (⟨8,9,10,11,12,13,14,15,16⟩:Ix) (m1)) 159 (by kernel_rfl) (by kernel_rfl) (by kernel_rfl) (by kernel_rfl) (by simp) (MdK.start _ _) ?_ ?_
       have hdif:(⟨8,9,10,11,12,13,14,15,16⟩:Ix).Dif :=Ix.dif (by decide)
       refine⟨?_,?_,?_,?_,?_,?_,?_,?_,?_,?_,?_,?_,?_,?_,?_,?_,?_,?_,trivial⟩
       ·intro vals L W ρ hdn hr hC hd ho hx
        have e:ρ (.tmp 2)= .pointer (some ⟨P,0,none⟩):=ho 2 (by kernel_rfl)
        simp[stepR,go_sem,e]
        exact hC.pure_ (by decide) (pv_only (by kernel_rfl) (k:=0) rfl) (ready_lt hr)
       ·intro vals L W ρ hdn hr hC hd ho hx
        have e:ρ (.tmp 85)=_:=(hd 0 85 (by kernel_rfl) rfl).trans (hC.pure _ (List.mem_of_getElem? (i:=0) rfl) (ready_dep hr (j:=0) (by kernel_rfl)))
        have c:=(HPX.out.only hC.only (fun e=>e)).cell 0
        simp[stepR,go_sem,e,c]
        exact hC.pure_ (by decide) (pv_only (by kernel_rfl) (k:=1) rfl) (ready_lt hr)
       ·intro vals L W ρ hdn hr hC hd ho hx
        have e:ρ (.tmp 2)= .pointer (some ⟨P,0,none⟩):=ho 2 (by kernel_rfl)
        exact step_load rfl e (HPX.out.only hC.only (fun e=>e)) Tryz.underlying23 rfl (by kernel_rfl) (hC.pure_ (by decide) (pv_only (by kernel_rfl) (k:=2) rfl) (ready_lt hr))
       ·intro vals L W ρ hdn hr hC hd ho hx
        have e:ρ (.tmp 87)=_:=(hd 2 87 (by kernel_rfl) rfl).trans (hC.pure _ (List.mem_of_getElem? (i:=2) rfl) (ready_dep hr (j:=2) (by kernel_rfl)))
        have hf:ρ (.func 12)= .func (.func 12) #[] #[]:=hx _ (fun s e=>by cases e)
        simp[stepR,go_sem,e,hf]
        refine(seed16_any n s a b W).mono ?_
        rintro e9 W2 ⟨rfl,ho2⟩
        exact⟨_,rfl,(hC.none_ ho2).pure_ (by decide) (pv_only (by kernel_rfl) (k:=3) rfl) (ready_lt hr)⟩
       ·intro vals L W ρ hdn hr hC hd ho hx
        have e:ρ (.tmp 6)= .int .i64 (k:Int):=ho 6 (by kernel_rfl)
        simp[stepR,go_sem,e]
        exact hC.pure_ (by decide) (pv_only (by kernel_rfl) (k:=4) rfl) (ready_lt hr)
       ·intro vals L W ρ hdn hr hC hd ho hx
        have e:ρ (.tmp 7)= .int .i64 (off:Int):=ho 7 (by kernel_rfl)
        simp[stepR,go_sem,e]
        exact hC.pure_ (by decide) (pv_only (by kernel_rfl) (k:=5) rfl) (ready_lt hr)
       ·intro vals L W ρ hdn hr hC hd ho hx
        have e:ρ (.tmp 8)= .slice EA es.length ek:=ho 8 (by kernel_rfl)
        simp[stepR,go_sem,e]
        exact hC.pure_ (by decide) (pv_only (by kernel_rfl) (k:=6) rfl) (ready_lt hr)
       ·intro vals L W ρ hdn hr hC hd ho hx
        have e:ρ (.tmp 9)= .slice RA rs.length rk:=ho 9 (by kernel_rfl)
        simp[stepR,go_sem,e]
        exact hC.pure_ (by decide) (pv_only (by kernel_rfl) (k:=7) rfl) (ready_lt hr)
       ·intro vals L W ρ hdn hr hC hd ho hx
        have e0:ρ (.tmp 86)=_:=(hd 1 86 (by kernel_rfl) rfl).trans (hC.pure _ (List.mem_of_getElem? (i:=1) rfl) (ready_dep hr (j:=1) (by kernel_rfl)))
        have e1:ρ (.tmp 88)=_:=(hd 3 88 (by kernel_rfl) rfl).trans (hC.pure _ (List.mem_of_getElem? (i:=3) rfl) (ready_dep hr (j:=3) (by kernel_rfl)))
        have e2:ρ (.tmp 89)=_:=(hd 4 89 (by kernel_rfl) rfl).trans (hC.pure _ (List.mem_of_getElem? (i:=4) rfl) (ready_dep hr (j:=4) (by kernel_rfl)))
        have e3:ρ (.tmp 90)=_:=(hd 5 90 (by kernel_rfl) rfl).trans (hC.pure _ (List.mem_of_getElem? (i:=5) rfl) (ready_dep hr (j:=5) (by kernel_rfl)))
        have e4:ρ (.tmp 91)=_:=(hd 6 91 (by kernel_rfl) rfl).trans (hC.pure _ (List.mem_of_getElem? (i:=6) rfl) (ready_dep hr (j:=6) (by kernel_rfl)))
        have e5:ρ (.tmp 92)=_:=(hd 7 92 (by kernel_rfl) rfl).trans (hC.pure _ (List.mem_of_getElem? (i:=7) rfl) (ready_dep hr (j:=7) (by kernel_rfl)))
        have hf:ρ (.func 11)= .func (.func 11) #[] #[]:=hx _ (fun s e=>by cases e)
        simp[stepR,go_sem,e0,e1,e2,e3,e4,e5,hf]
        refine(HMK2.out W hC.only).mono ?_
        rintro e9 W2 ⟨bv,y0,y1,rfl,h1,h2,h3,ho2⟩
        exact⟨_,rfl,(hC.none_ ho2).call hdif (by kernel_rfl) (ready_lt hr) (MdS.of_base hC.only.size h1 h2 h3) (undone1 hdn hr (k:=9) (by kernel_rfl)) (undone2 hdn hr (k:=10) (j:=9) (by kernel_rfl) (by kernel_rfl)) (undone2 hdn hr (k:=11) (j:=9) (by kernel_rfl) (by kernel_rfl)) (undone2 hdn hr (k:=12) (j:=9) (by kernel_rfl) (by kernel_rfl))⟩
       ·intro vals L W ρ hdn hr hC hd ho hx
        have e:ρ (.tmp 93)=vals 8:=hd 8 93 (by kernel_rfl) rfl
        simp[stepR,go_sem,e]
        exact hC.copy_ hdif (by kernel_rfl) (ready_lt hr)
       ·intro vals L W ρ hdn hr hC hd ho hx
        have hv:=ready_dep hr (j:=9) (by kernel_rfl)
        have hM:=down_dep hdn hv (j:=8) (by kernel_rfl)
        obtain⟨q9,p9,y9,z9,e2,_⟩:=hC.parts hM
        have e:ρ (.tmp 84)=_:=((hd 9 84 (by kernel_rfl) rfl).trans (hC.copy hv)).trans e2
        simp[stepR,go_sem,e]
        exact hC.part0 hdif (by kernel_rfl) (ready_lt hr) e2 (undone1 hdn hr (k:=15) (by kernel_rfl))
       ·intro vals L W ρ hdn hr hC hd ho hx
        have hv:=ready_dep hr (j:=9) (by kernel_rfl)
        have hM:=down_dep hdn hv (j:=8) (by kernel_rfl)
        obtain⟨q9,p9,y9,z9,e2,_⟩:=hC.parts hM
        have e:ρ (.tmp 84)=_:=((hd 9 84 (by kernel_rfl) rfl).trans (hC.copy hv)).trans e2
        simp[stepR,go_sem,e]
        exact hC.part1 hdif (by kernel_rfl) (ready_lt hr) e2 (undone1 hdn hr (k:=16) (by kernel_rfl))
       ·intro vals L W ρ hdn hr hC hd ho hx
        have hv:=ready_dep hr (j:=9) (by kernel_rfl)
        have hM:=down_dep hdn hv (j:=8) (by kernel_rfl)
        obtain⟨q9,p9,y9,z9,e2,_⟩:=hC.parts hM
        have e:ρ (.tmp 84)=_:=((hd 9 84 (by kernel_rfl) rfl).trans (hC.copy hv)).trans e2
        simp[stepR,go_sem,e]
        exact hC.part2 hdif (by kernel_rfl) (ready_lt hr) e2
       ·intro vals L W ρ hdn hr hC hd ho hx
        exact hC.doA hdif (by kernel_rfl) (ready_lt hr) (undone1 hdn hr (k:=15) (by kernel_rfl)) (by simp[go_sem])
       ·intro vals L W ρ hdn hr hC hd ho hx
        exact hC.doB hdif (by kernel_rfl) (ready_lt hr) (undone1 hdn hr (k:=16) (by kernel_rfl)) (by simp[go_sem])
       ·intro vals L W ρ hdn hr hC hd ho hx
        have h0:=ready_dep hr (j:=10) (by kernel_rfl)
        have hM:=down_dep hdn (down_dep hdn h0 (j:=9) (by kernel_rfl)) (j:=8) (by kernel_rfl)
        exact hC.doS hdif (by kernel_rfl) (ready_lt hr) (ready_undone hr) (ready_dep hr (j:=13) (by kernel_rfl)) h0 hM rfl (hd 13 19 (by kernel_rfl) rfl) (hd 10 94 (by kernel_rfl) rfl)
       ·intro vals L W ρ hdn hr hC hd ho hx
        have h0:=ready_dep hr (j:=11) (by kernel_rfl)
        have hM:=down_dep hdn (down_dep hdn h0 (j:=9) (by kernel_rfl)) (j:=8) (by kernel_rfl)
        exact hC.doT hdif (by kernel_rfl) (ready_lt hr) (ready_undone hr) (ready_dep hr (j:=14) (by kernel_rfl)) h0 hM rfl (hd 14 20 (by kernel_rfl) rfl) (hd 11 95 (by kernel_rfl) rfl)
       ·intro vals L W ρ hdn hr hC hd ho hx
        have h2:=ready_dep hr (j:=12) (by kernel_rfl)
        have hM:=down_dep hdn (down_dep hdn h2 (j:=9) (by kernel_rfl)) (j:=8) (by kernel_rfl)
        obtain⟨_,_,_,_,e2,_⟩:=hC.parts hM
        obtain⟨_,_,e3⟩:=hC.p2 h2
        rw[e2] at e3
        simp only[Value.tuple.injEq,Array.mk.injEq,List.cons.injEq] at e3
        have e:ρ (.tmp 96)= .int .i64 m1.code:=(hd 12 96 (by kernel_rfl) rfl).trans e3.2.2.1.symm
        simp[stepR,go_sem,e]
        exact hC.pure_ (by decide) (pv_only (by kernel_rfl) (k:=8) rfl) (ready_lt hr)
       intro vals L Z hall hC
       obtain⟨gA,gB,qv,pv,y0,y1,vA,vB,vC,hgA,hgB,hbA,hbB,hmd,hoZ⟩:=hC.all hall ⟨by decide,by decide,by decide,by decide,by decide,by decide,by decide,by decide⟩
       have vD:vals 17= .int .i64 m1.code:=hC.pure _ (List.mem_of_getElem? (i:=8) rfl) (hall 17 (by decide))
       simp only[finA,Nat.reduceAdd,Act.put,List.setIfInBounds_toArray,List.set_cons_succ,List.set_cons_zero]
       rw[vA,vB,vD]
       clear vA vB vC vD
       go_wp2_with fail
       go_meet
       case rel=>exact⟨gA,gB,qv,pv,y0,y1,rfl,rfl,rfl,hbA,hbB,hmd,hoZ⟩
      case rest=>
       obtain⟨gA2,gB2,qv2,pv2,y02,y12,rfl,rfl,rfl,hbA2,hbB2,hmd2,hoZ2⟩:=hcut
       obtain⟨Z2,rfl⟩:∃x,x=wc:=⟨_,rfl⟩
       obtain⟨⟨q92,p92,e92,j12,j22⟩,j32,j42⟩:=hmd2
       have e82:qv2=q92∧pv2=p92:=by
        simp only[Value.agg.injEq,Array.mk.injEq,List.cons.injEq,and_true,true_and] at e92
        exact e92
       obtain⟨rfl,rfl⟩:=e82
       obtain⟨A02,k02,rfl,_,_⟩:=own_form' j12
       obtain⟨A12,k12,rfl,_,_⟩:=own_form' j22
       obtain⟨A22,k22,rfl,_,_⟩:=own_form' j32
       obtain⟨A32,k32,rfl,_,_⟩:=own_form' j42
       have hc0:m1.code=0:=by rw[HM1.out]
       have hlq:m1.bid.qc.length=k:=by rw[HM1.out];show(cmL _).length =_;rw[cmL_len,cfs_len]
       have hlp:m1.bid.pc.length=k:=by rw[HM1.out];show(cmL _).length =_;rw[cmL_len,cfs_len]
       have hqs:m1.bid.qt.size≤5000:=by rw[HM1.out];show(boxT _ _).size≤_;rw[boxT_size];have:=HQQ.out;omega
       have hps:m1.bid.pt.size≤5000:=by rw[HM1.out];show(boxT _ _).size≤_;rw[boxT_size];have:=HPL.out;omega
       have hkk:k≤13:=by have:=HKO.out;have:=HOFF.out;omega
       have hbok:m1.bid.Ok:=by
        refine⟨by rw[HM1.out];exact hn,fun x hx=> ?_,fun x hx=> ?_,by omega,by omega,by omega,by omega⟩
        ·rw[HM1.out] at hx
         obtain⟨c,_,rfl⟩:=List.mem_map.1 (show x∈(cfs _ _).map _ from hx)
         have:=gp_bd c
         unfold In
         omega
        ·rw[HM1.out] at hx
         obtain⟨c,_,rfl⟩:=List.mem_map.1 (show x∈(cfs _ _).map _ from hx)
         have:=gp_bd c
         unfold In
         omega
       have hel:(encB m1.bid).length≤100000:=by have h:=encB_len hbok;omega
       have HBOK:=Lib.hid hbok
       have HEL:=Lib.hid hel
       have HLQ:=Lib.hid hlq
       have HLP:=Lib.hid hlp
       have HZ2:=Lib.hid hoZ2
       have HB2:=Lib.hid hbB2
       have HI2:=Lib.hid (int_sl (OwnOf.sl inC_len j12))
       have HI3:=Lib.hid (int_sl (OwnOf.sl inC_len j22))
       have HS2:=Lib.hid (OwnOf.sl shC_len j32)
       have HS3:=Lib.hid (OwnOf.sl shC_len j42)
       have u0:=hbA2.cell 0
       have u1:=hbA2.cell 1
       have u2:=hbA2.cell 2
       have u3:=hbA2.cell 3
       have u4:=hbA2.cell 4
       rw[hc0]
       clear hc0 hlq hlp hqs hps hkk hbok hel hoZ2 hbB2 hbA2 j12 j22 j32 j42 e92
       go_wp2_with fail
       refine(bencode_any m1.bid HBOK.out HI2.out HI3.out (HTX.out.none HZ2.out)).mono ?_
       rintro e w5 ⟨sE,rfl,hsE,ho5⟩
       have hsz:sE.size≤100000:=by rw[size_list,hsE];exact HEL.out
       have HSE:=Lib.hid hsE
       have HO5:=Lib.hid (HZ2.out.trans ho5)
       have HOZ5:=Lib.hid ho5
       clear hsE ho5 u0 u1 u2 u3 u4
       go_wp2_with fail
       refine(pdec_any sE (by omega) w5 (HE.out.none (HXV.out.trans HO5.out))).mono ?_
       rintro e w6 ⟨v6,code6,b6,rfl,hown6,hc6,ho6⟩
       have hBR:BRd sE.data.toList m1.bid:=⟨⟨HBOK.out.id,HBOK.out.qi,HBOK.out.pi⟩,HSE.out⟩
       obtain⟨rfl,rfl⟩:=d_two hc6 (.inl ⟨rfl,hBR⟩)
       obtain⟨qv6,pv6,rfl,hq6,hp6⟩:=hown6
       rw[HLQ.out] at hq6
       obtain⟨xg,xk,rfl,hxg,_,_⟩:=own_form hq6 (by have:=HK1.out;omega)
       obtain⟨yA,yk,rfl,_,_⟩:=own_form' hp6
       obtain⟨cz,hz1,hz2⟩:=(Room.of_own hq6).1
       rw[Nat.mul_one] at hz2
       have hk1:=HK1.out
       have e2:(w6.alloc (.cells #[.int .i64 m1.bid.bidder,.string m1.bid.qt,.slice (some ⟨xg,0,none⟩) k xk,.string m1.bid.pt,.slice yA m1.bid.pc.length yk] tBid)).cell? ⟨w6.heap.size,2,none⟩=some (.slice (some ⟨xg,0,none⟩) k xk):=(Blk.new w6 _ _).cell 2
       have p0:=(hz1.alloc (.cells #[.int .i64 m1.bid.bidder,.string m1.bid.qt,.slice (some ⟨xg,0,none⟩) k xk,.string m1.bid.pt,.slice yA m1.bid.pc.length yk] tBid)).cell 0
       rw[Array.getElem?_eq_getElem (show 0<cz.size by omega)] at p0
       have p1:=(hz1.alloc (.cells #[.int .i64 m1.bid.bidder,.string m1.bid.qt,.slice (some ⟨xg,0,none⟩) k xk,.string m1.bid.pt,.slice yA m1.bid.pc.length yk] tBid)).frozen 0
       obtain⟨zv,ezv⟩:∃x,x=cz[0]'(show 0<cz.size by omega):=⟨_,rfl⟩
       rw[←ezv] at p0
       have HXG:=Lib.hid hxg
       have HO6:=Lib.hid (HOZ5.out.trans ho6)
       have ik:(0:Int)<(k:Int):=by omega
       clear hq6 hp6 hc6 hBR ho6 hz1 hz2 ezv hxg hk1
       go_upto_region 25 with(fail)
       refine wp_gen (fun W=>Only NoneOf Z2 W) ((HO6.out.setCell (p:=⟨xg,0,none⟩) (.inr (by have:=HOZ5.out.size;have:=HXG.out;show Z2.heap.size≤xg;omega)) _).alloc _) ?_
       intro V5 hV5
       have HV5:=Lib.hid hV5
       have hx5:Only NoneOf X V5:=(HXV.out.trans HZ2.out).trans hV5
       have HPX5:=Lib.hid (HP.out.only hx5 (fun e=>e))
       have HX5:=Lib.hid hx5
       have HMK5:Hid (∀W,Only NoneOf V5 W→Calls Tryz.prog 11 #[.int .i64 n,.string (sdT s),.int .i64 (k:Int),.int .i64 (off:Int),.slice OA es.length ok,.slice QA rs.length qk] W (MkdE m1 W)):=Lib.hid (fun W hW=>HMK3.out W ((HZ2.out.trans HV5.out).trans hW))
       clear hV5 hx5 HMK2 HMK3 p0 p1 e2 ik
       go_cut [24,25,26] from 121 to 134 (fun p q c Z2=>∃gA gB qv pv y0 y1,p= .pointer (some ⟨gA,0,none⟩)∧q= .pointer (some ⟨gB,0,none⟩)∧c= .int .i64 m1.code∧Blk Z2 gA tBid #[.int .i64 m1.bid.bidder,.string m1.bid.qt,qv,.string m1.bid.pt,pv]∧Blk Z2 gB tShs #[y0,y1]∧MdS V5.heap.size m1 (.agg #[.int .i64 m1.bid.bidder,.string m1.bid.qt,qv,.string m1.bid.pt,pv]) y0 y1 Z2∧Only NoneOf V5 Z2)
       case first=>
        refine wp_region_choice (MdK V5 [(0,.pointer (some ⟨P,0,none⟩)),(1,.int .i64 n),(2,.agg #[.int .i64 n,.string s,.int .u8 (a:Int),.int .u8 (b:Int)]),(3,.string (sdT s)),(4,.int .i64 (k:Int)),(5,.int .i64 (off:Int)),(6,.slice OA es.length ok),(7,.slice QA rs.length qk),(17,.int .i64 m1.code)] (⟨8,9,10,11,12,13,14,15,16⟩:Ix) (m1)) 159 (by kernel_rfl) (by kernel_rfl) (by kernel_rfl) (by kernel_rfl) (by simp) (MdK.start _ _) ?_ ?_
        have hdif:(⟨8,9,10,11,12,13,14,15,16⟩:Ix).Dif :=Ix.dif (by decide)
        refine⟨?_,?_,?_,?_,?_,?_,?_,?_,?_,?_,?_,?_,?_,?_,?_,?_,?_,?_,trivial⟩
        ·intro vals L W ρ hdn hr hC hd ho hx
         have e:ρ (.tmp 2)= .pointer (some ⟨P,0,none⟩):=ho 2 (by kernel_rfl)
         simp[stepR,go_sem,e]
         exact hC.pure_ (by decide) (pv_only (by kernel_rfl) (k:=0) rfl) (ready_lt hr)
        ·intro vals L W ρ hdn hr hC hd ho hx
         have e:ρ (.tmp 122)=_:=(hd 0 122 (by kernel_rfl) rfl).trans (hC.pure _ (List.mem_of_getElem? (i:=0) rfl) (ready_dep hr (j:=0) (by kernel_rfl)))
         have c:=(HPX5.out.only hC.only (fun e=>e)).cell 0
         simp[stepR,go_sem,e,c]
         exact hC.pure_ (by decide) (pv_only (by kernel_rfl) (k:=1) rfl) (ready_lt hr)
        ·intro vals L W ρ hdn hr hC hd ho hx
         have e:ρ (.tmp 2)= .pointer (some ⟨P,0,none⟩):=ho 2 (by kernel_rfl)
         exact step_load rfl e (HPX5.out.only hC.only (fun e=>e)) Tryz.underlying23 rfl (by kernel_rfl) (hC.pure_ (by decide) (pv_only (by kernel_rfl) (k:=2) rfl) (ready_lt hr))
        ·intro vals L W ρ hdn hr hC hd ho hx
         have e:ρ (.tmp 124)=_:=(hd 2 124 (by kernel_rfl) rfl).trans (hC.pure _ (List.mem_of_getElem? (i:=2) rfl) (ready_dep hr (j:=2) (by kernel_rfl)))
         have hf:ρ (.func 12)= .func (.func 12) #[] #[]:=hx _ (fun s e=>by cases e)
         simp[stepR,go_sem,e,hf]
         refine(seed16_any n s a b W).mono ?_
         rintro e9 W2 ⟨rfl,ho2⟩
         exact⟨_,rfl,(hC.none_ ho2).pure_ (by decide) (pv_only (by kernel_rfl) (k:=3) rfl) (ready_lt hr)⟩
        ·intro vals L W ρ hdn hr hC hd ho hx
         have e:ρ (.tmp 6)= .int .i64 (k:Int):=ho 6 (by kernel_rfl)
         simp[stepR,go_sem,e]
         exact hC.pure_ (by decide) (pv_only (by kernel_rfl) (k:=4) rfl) (ready_lt hr)
        ·intro vals L W ρ hdn hr hC hd ho hx
         have e:ρ (.tmp 7)= .int .i64 (off:Int):=ho 7 (by kernel_rfl)
         simp[stepR,go_sem,e]
         exact hC.pure_ (by decide) (pv_only (by kernel_rfl) (k:=5) rfl) (ready_lt hr)
        ·intro vals L W ρ hdn hr hC hd ho hx
         have e:ρ (.tmp 10)= .slice OA es.length ok:=ho 10 (by kernel_rfl)
         simp[stepR,go_sem,e]
         exact hC.pure_ (by decide) (pv_only (by kernel_rfl) (k:=6) rfl) (ready_lt hr)
        ·intro vals L W ρ hdn hr hC hd ho hx
         have e:ρ (.tmp 11)= .slice QA rs.length qk:=ho 11 (by kernel_rfl)
         simp[stepR,go_sem,e]
         exact hC.pure_ (by decide) (pv_only (by kernel_rfl) (k:=7) rfl) (ready_lt hr)
        ·intro vals L W ρ hdn hr hC hd ho hx
         have e0:ρ (.tmp 123)=_:=(hd 1 123 (by kernel_rfl) rfl).trans (hC.pure _ (List.mem_of_getElem? (i:=1) rfl) (ready_dep hr (j:=1) (by kernel_rfl)))
         have e1:ρ (.tmp 125)=_:=(hd 3 125 (by kernel_rfl) rfl).trans (hC.pure _ (List.mem_of_getElem? (i:=3) rfl) (ready_dep hr (j:=3) (by kernel_rfl)))
         have e2:ρ (.tmp 126)=_:=(hd 4 126 (by kernel_rfl) rfl).trans (hC.pure _ (List.mem_of_getElem? (i:=4) rfl) (ready_dep hr (j:=4) (by kernel_rfl)))
         have e3:ρ (.tmp 127)=_:=(hd 5 127 (by kernel_rfl) rfl).trans (hC.pure _ (List.mem_of_getElem? (i:=5) rfl) (ready_dep hr (j:=5) (by kernel_rfl)))
         have e4:ρ (.tmp 128)=_:=(hd 6 128 (by kernel_rfl) rfl).trans (hC.pure _ (List.mem_of_getElem? (i:=6) rfl) (ready_dep hr (j:=6) (by kernel_rfl)))
         have e5:ρ (.tmp 129)=_:=(hd 7 129 (by kernel_rfl) rfl).trans (hC.pure _ (List.mem_of_getElem? (i:=7) rfl) (ready_dep hr (j:=7) (by kernel_rfl)))
         have hf:ρ (.func 11)= .func (.func 11) #[] #[]:=hx _ (fun s e=>by cases e)
         simp[stepR,go_sem,e0,e1,e2,e3,e4,e5,hf]
         refine(HMK5.out W hC.only).mono ?_
         rintro e9 W2 ⟨bv,y0,y1,rfl,h1,h2,h3,ho2⟩
         exact⟨_,rfl,(hC.none_ ho2).call hdif (by kernel_rfl) (ready_lt hr) (MdS.of_base hC.only.size h1 h2 h3) (undone1 hdn hr (k:=9) (by kernel_rfl)) (undone2 hdn hr (k:=10) (j:=9) (by kernel_rfl) (by kernel_rfl)) (undone2 hdn hr (k:=11) (j:=9) (by kernel_rfl) (by kernel_rfl)) (undone2 hdn hr (k:=12) (j:=9) (by kernel_rfl) (by kernel_rfl))⟩
        ·intro vals L W ρ hdn hr hC hd ho hx
         have e:ρ (.tmp 130)=vals 8:=hd 8 130 (by kernel_rfl) rfl
         simp[stepR,go_sem,e]
         exact hC.copy_ hdif (by kernel_rfl) (ready_lt hr)
        ·intro vals L W ρ hdn hr hC hd ho hx
         have hv:=ready_dep hr (j:=9) (by kernel_rfl)
         have hM:=down_dep hdn hv (j:=8) (by kernel_rfl)
         obtain⟨q9,p9,y9,z9,e2,_⟩:=hC.parts hM
         have e:ρ (.tmp 121)=_:=((hd 9 121 (by kernel_rfl) rfl).trans (hC.copy hv)).trans e2
         simp[stepR,go_sem,e]
         exact hC.part0 hdif (by kernel_rfl) (ready_lt hr) e2 (undone1 hdn hr (k:=15) (by kernel_rfl))
        ·intro vals L W ρ hdn hr hC hd ho hx
         have hv:=ready_dep hr (j:=9) (by kernel_rfl)
         have hM:=down_dep hdn hv (j:=8) (by kernel_rfl)
         obtain⟨q9,p9,y9,z9,e2,_⟩:=hC.parts hM
         have e:ρ (.tmp 121)=_:=((hd 9 121 (by kernel_rfl) rfl).trans (hC.copy hv)).trans e2
         simp[stepR,go_sem,e]
         exact hC.part1 hdif (by kernel_rfl) (ready_lt hr) e2 (undone1 hdn hr (k:=16) (by kernel_rfl))
        ·intro vals L W ρ hdn hr hC hd ho hx
         have hv:=ready_dep hr (j:=9) (by kernel_rfl)
         have hM:=down_dep hdn hv (j:=8) (by kernel_rfl)
         obtain⟨q9,p9,y9,z9,e2,_⟩:=hC.parts hM
         have e:ρ (.tmp 121)=_:=((hd 9 121 (by kernel_rfl) rfl).trans (hC.copy hv)).trans e2
         simp[stepR,go_sem,e]
         exact hC.part2 hdif (by kernel_rfl) (ready_lt hr) e2
        ·intro vals L W ρ hdn hr hC hd ho hx
         exact hC.doA hdif (by kernel_rfl) (ready_lt hr) (undone1 hdn hr (k:=15) (by kernel_rfl)) (by simp[go_sem])
        ·intro vals L W ρ hdn hr hC hd ho hx
         exact hC.doB hdif (by kernel_rfl) (ready_lt hr) (undone1 hdn hr (k:=16) (by kernel_rfl)) (by simp[go_sem])
        ·intro vals L W ρ hdn hr hC hd ho hx
         have h0:=ready_dep hr (j:=10) (by kernel_rfl)
         have hM:=down_dep hdn (down_dep hdn h0 (j:=9) (by kernel_rfl)) (j:=8) (by kernel_rfl)
         exact hC.doS hdif (by kernel_rfl) (ready_lt hr) (ready_undone hr) (ready_dep hr (j:=13) (by kernel_rfl)) h0 hM rfl (hd 13 24 (by kernel_rfl) rfl) (hd 10 131 (by kernel_rfl) rfl)
        ·intro vals L W ρ hdn hr hC hd ho hx
         have h0:=ready_dep hr (j:=11) (by kernel_rfl)
         have hM:=down_dep hdn (down_dep hdn h0 (j:=9) (by kernel_rfl)) (j:=8) (by kernel_rfl)
         exact hC.doT hdif (by kernel_rfl) (ready_lt hr) (ready_undone hr) (ready_dep hr (j:=14) (by kernel_rfl)) h0 hM rfl (hd 14 25 (by kernel_rfl) rfl) (hd 11 132 (by kernel_rfl) rfl)
        ·intro vals L W ρ hdn hr hC hd ho hx
         have h2:=ready_dep hr (j:=12) (by kernel_rfl)
         have hM:=down_dep hdn (down_dep hdn h2 (j:=9) (by kernel_rfl)) (j:=8) (by kernel_rfl)
         obtain⟨_,_,_,_,e2,_⟩:=hC.parts hM
         obtain⟨_,_,e3⟩:=hC.p2 h2
         rw[e2] at e3
         simp only[Value.tuple.injEq,Array.mk.injEq,List.cons.injEq] at e3
         have e:ρ (.tmp 133)= .int .i64 m1.code:=(hd 12 133 (by kernel_rfl) rfl).trans e3.2.2.1.symm
         simp[stepR,go_sem,e]
         exact hC.pure_ (by decide) (pv_only (by kernel_rfl) (k:=8) rfl) (ready_lt hr)
        intro vals L Z hall hC
        obtain⟨gA,gB,qv,pv,y0,y1,vA,vB,vC,hgA,hgB,hbA,hbB,hmd,hoZ⟩:=hC.all hall ⟨by decide,by decide,by decide,by decide,by decide,by decide,by decide,by decide⟩
        have vD:vals 17= .int .i64 m1.code:=hC.pure _ (List.mem_of_getElem? (i:=8) rfl) (hall 17 (by decide))
        simp only[finA,Nat.reduceAdd,Act.put,List.setIfInBounds_toArray,List.set_cons_succ,List.set_cons_zero]
        rw[vA,vB,vD]
        clear vA vB vC vD
        go_wp2_with fail
        go_meet
        case rel=>exact⟨gA,gB,qv,pv,y0,y1,rfl,rfl,rfl,hbA,hbB,hmd,hoZ⟩
       case rest=>
        obtain⟨gA3,gB3,qv3,pv3,y03,y13,rfl,rfl,rfl,hbA3,hbB3,hmd3,hoZ3⟩:=hcut
        obtain⟨Z3,rfl⟩:∃x,x=wc:=⟨_,rfl⟩
        obtain⟨⟨q93,p93,e93,j13,j23⟩,j33,j43⟩:=hmd3
        have e83:qv3=q93∧pv3=p93:=by
         simp only[Value.agg.injEq,Array.mk.injEq,List.cons.injEq,and_true,true_and] at e93
         exact e93
        obtain⟨rfl,rfl⟩:=e83
        obtain⟨A03,k03,rfl,_,_⟩:=own_form' j13
        obtain⟨A13,k13,rfl,_,_⟩:=own_form' j23
        obtain⟨A23,k23,rfl,_,_⟩:=own_form' j33
        obtain⟨A33,k33,rfl,_,_⟩:=own_form' j43
        have hl0:m1.s0.length≤1000:=by rw[HM1.out];show(shL _ _).length≤_;rw[shL_len];have:=HOFF.out;omega
        have hl1:m1.s1.length≤1000:=by rw[HM1.out];show(shL _ _).length≤_;rw[shL_len];have:=HOFF.out;omega
        have hlr:rs.length≤4:=by rw[ERS.out];exact mkRs_len o
        have HL0:=Lib.hid hl0
        have HL1:=Lib.hid hl1
        have HLR:=Lib.hid hlr
        have hve:Only NoneOf V Z3:=(HZ2.out.trans HV5.out).trans hoZ3
        have HVE:=Lib.hid hve
        have H23:=Lib.hid (HV5.out.trans hoZ3)
        have HS4:=Lib.hid (OwnOf.sl shC_len j33)
        have HS5:=Lib.hid (OwnOf.sl shC_len j43)
        have HB23:=Lib.hid (HB2.out.only H23.out (fun e=>e))
        have HB33:=Lib.hid hbB3
        clear hl0 hl1 hlr hve hoZ3 hbA3 hbB3 e93 j13 j23 j33 j43
        go_wp2_with fail
        refine(entries_same es (by have:=HES.out;omega) _ _ Z3 (HEV.out.only HVE.out) (HOV.out.only HVE.out)).mono ?_
        rintro e v1 ⟨rfl,hv1⟩
        have HV1:=Lib.hid hv1
        clear hv1
        go_wp2_with fail
        refine(rebates_same rs (by have:=HLR.out;omega) (fun r hr=>by have:=lots_le (es:=es) hr;have:=HPL.out;omega) _ _ v1 (HRV.out.only (HVE.out.trans HV1.out)) (HQV.out.only (HVE.out.trans HV1.out))).mono ?_
        rintro e v2 ⟨rfl,hv2⟩
        have HV2:=Lib.hid (HV1.out.trans hv2)
        have a0:=(HB23.out.only HV2.out (fun e=>e)).cell 0
        have b0:=(HB33.out.only HV2.out (fun e=>e)).cell 0
        clear hv2
        go_wp2_with fail
        refine(shares_same m1.s0 (by have:=HL0.out;omega) _ _ v2 ((HS2.out.only H23.out).only HV2.out) (HS4.out.only HV2.out)).mono ?_
        rintro e v3 ⟨rfl,hv3⟩
        have HV3:=Lib.hid (HV2.out.trans hv3)
        have a1:=(HB23.out.only HV3.out (fun e=>e)).cell 1
        have b1:=(HB33.out.only HV3.out (fun e=>e)).cell 1
        clear hv3 a0 b0
        go_wp2_with fail
        refine(shares_same m1.s1 (by have:=HL1.out;omega) _ _ v3 ((HS3.out.only H23.out).only HV3.out) (HS5.out.only HV3.out)).mono ?_
        rintro e v4 ⟨rfl,hv4⟩
        have HV4:=Lib.hid (HV3.out.trans hv4)
        clear hv4 a1 b1
        go_wp2_with fail
        go_ret
        exact⟨rfl,HWX.out.trans ((HXV.out.trans HVE.out).trans HV4.out)⟩
end Go.Proofs.YtpdlbmieciabmaaGreatDoor
