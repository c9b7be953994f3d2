/-What is proved here:the law on bids that differ in their prices alone. Conditions:the numbers are ints and bytes. -/
import Derived.Test.YtpdlbmieciabmaaGreatDoorPn01
import Derived.Test.YtpdlbmieciabmaaGreatDoorPn03
import Derived.Test.YtpdlbmieciabmaaGreatDoorPn12
import Derived.Test.YtpdlbmieciabmaaGreatDoorPn15
import Derived.Test.YtpdlbmieciabmaaGreatDoorPn17
import Derived.Test.YtpdlbmieciabmaaGreatDoorPn21
import Derived.Test.YtpdlbmieciabmaaGreatDoorPn22
import Derived.Test.YtpdlbmieciabmaaGreatDoorPn27
import Derived.Deep.MidRow
import Derived.Test.YtpdlbmieciabmaaGreatDoorShelf
import Derived.Deep.RegionLaw
namespace Go.Proofs.YtpdlbmieciabmaaGreatDoor
open Go.RowKit Go.Shelf
set_option maxRecDepth 100000 in
set_option maxHeartbeats 4000000 in
theorem bblind_law(n:Int)(hn:In n)(s:ByteArray)(a b:Nat)(ha:a<256)(hb:b<256)(o:Of)(hok:o.Ok)(ov:Value)(more:Int)(w:World)(he:Env w)(h:OfAt w ov o):Calls Tryz.prog 3 #[.agg #[.int .i64 n,.string s,.int .u8 (a:Int),.int .u8 (b:Int)],ov,.int .i64 more] w (fun e w' =>e= .returned (.bool true)∧Only NoneOf w w'):=by
 have hov:=h
 obtain⟨ev,rv,rfl,_,_⟩:=h
 obtain⟨P,eP⟩:∃P,P=w.heap.size:=⟨_,rfl⟩
 obtain⟨X,eX⟩:∃X,X=(w.alloc (.cells #[.int .i64 n,.string s,.int .u8 (a:Int),.int .u8 (b:Int)] tMd)).alloc (.cells #[ev,rv] tOf):=⟨_,rfl⟩
 have hX:Only NoneOf w X:=by rw[eX];exact((Only.refl _ _).alloc _).alloc _
 have HP:=Lib.hid (show Blk X P tMd #[.int .i64 n,.string s,.int .u8 (a:Int),.int .u8 (b:Int)] by rw[eX,eP];exact(Blk.new w _ _).alloc _)
 have HO:=Lib.hid (show Blk X (P+1) tOf #[ev,rv] by
  have h2:=Blk.new (w.alloc (.cells #[.int .i64 n,.string s,.int .u8 (a:Int),.int .u8 (b:Int)] tMd)) tOf #[ev,rv]
  rw[World.size_alloc,←eP,←eX] at h2
  exact h2)
 have HOX:=Lib.hid (hov.only hX)
 have HWX:=Lib.hid hX
 have HE:=Lib.hid (he.none hX)
 have EX:=Lib.hid eX
 have EP:=Lib.hid eP
 obtain⟨off,eoff⟩:∃x,x=1+b%13:=⟨_,rfl⟩
 obtain⟨k,ek⟩:∃x,x=1+a%off:=⟨_,rfl⟩
 have hoff:1≤off∧off≤13:=by omega
 have hk1:1≤k:=by omega
 have hko:k≤off:=by
  have:=Nat.mod_lt a (show 0<off by omega)
  omega
 have hgood:=fun W=>good_any16 n s a b ha hb W
 rw[←eoff,←ek] at hgood
 have HGD:=Lib.hid hgood
 obtain⟨es,ees⟩:∃es,es=mkEs false o:=⟨_,rfl⟩
 obtain⟨rs,ers⟩:∃rs,rs=mkRs o:=⟨_,rfl⟩
 have hin:∀e∈es,EnIn e:=by rw[ees];exact mkEs_in hok false
 have hrn:∀r∈rs,RbIn r:=by rw[ers];exact mkRs_in hok
 have hright:rightL es=true:=by rw[ees];exact mkEs_right o
 have hpl:(pricL es rs).length≤2000:=by rw[ees,ers];exact mkPr_text hok false
 have hql:(textG (qLines es)).length≤4000:=by rw[ees];exact mkEs_text hok false
 have hqq:(qualL es).length≤4000:=by rw[ees];exact qualL_len hok false
 have hes:es.length≤6:=by rw[ees];exact mkEs_len false o
 have hpl2:(pricL (es.map (upP more)) []).length≤2000:=pric_short (by rw[List.length_map];exact hes) (up_in hin)
 obtain⟨sd,esd⟩:∃sd,sd=(sdT s).data.toList :=⟨_,rfl⟩
 have hm1:=mde_good n sd k off hk1 hko hoff.2 es rs hright
 have hm2:=mde_good n sd k off hk1 hko hoff.2 (es.map (upP more)) [] (by rw[up_right];exact hright)
 rw[up_qual] at hm2
 obtain⟨m1,em1⟩:∃m,m=mde n sd (k:Int) (off:Int) es rs:=⟨_,rfl⟩
 obtain⟨m2,em2⟩:∃m,m=mde n sd (k:Int) (off:Int) (es.map (upP more)) []:=⟨_,rfl⟩
 rw[←em1] at hm1
 rw[←em2] at hm2
 have HM1:=Lib.hid hm1
 have HM2:=Lib.hid hm2
 have MK1:Hid (∀v u W,EnSl W v es→RbSl W u rs→Tab W→Calls Tryz.prog 11 #[.int .i64 n,.string (sdT s),.int .i64 (k:Int),.int .i64 (off:Int),v,u] W (MkdE m1 W)):=Lib.hid (fun v u W h1 h2 h3=>by
  rw[em1,esd]
  exact bmake_any n hn (sdT s) (by have:=sdT_size s;omega) k off es rs hin hrn (by omega) (by omega) (by omega) v u W h1 h2 h3)
 have MK2:Hid (∀v W,EnSl W v (es.map (upP more))→Tab W→Calls Tryz.prog 11 #[.int .i64 n,.string (sdT s),.int .i64 (k:Int),.int .i64 (off:Int),v,.slice none 0 0] W (MkdE m2 W)):=Lib.hid (fun v W h1 h3=>by
  rw[em2,esd]
  exact bmake_any n hn (sdT s) (by have:=sdT_size s;omega) k off (es.map (upP more)) [] (up_in hin) (fun r hr=>by cases hr) (by rw[up_lines];omega) (by rw[up_qual];omega) (by omega) v _ W h1 (RbSl.empty W) h3)
 have HIN:=Lib.hid hin
 have HRN:=Lib.hid hrn
 have HPL:=Lib.hid hpl
 have HPL2:=Lib.hid hpl2
 have HES:=Lib.hid hes
 have EES:=Lib.hid ees
 have ERS:=Lib.hid ers
 clear hX eX eP hov he eoff ek hgood hin hrn hright hpl hql hqq hpl2 hm1 hm2 em1 em2 esd ees ers
 go_enter Tryz.func3,Tryz.ntmps3
 go_wp2_with fail
 rw[←EX.out]
 rw[←EP.out]
 refine(sanity16 X HE.out).mono ?_
 rintro e w1 ⟨rfl,ho1⟩
 have HO1:=Lib.hid ho1
 have p0:=(HP.out.only ho1 (fun e=>e)).cell 0
 have p1:=(HP.out.only ho1 (fun e=>e)).cell 1
 have p2:=(HP.out.only ho1 (fun e=>e)).cell 2
 have p3:=(HP.out.only ho1 (fun e=>e)).cell 3
 clear ho1
 go_wp2_with fail
 refine(HGD.out w1).mono ?_
 rintro e w2 ⟨rfl,ho2⟩
 have HO2:=Lib.hid (HO1.out.trans ho2)
 have o0:=(HO.out.only HO2.out (fun e=>e)).cell 0
 have o1:=(HO.out.only HO2.out (fun e=>e)).cell 1
 clear ho2 p0 p1 p2 p3
 go_wp2_with fail
 refine(make16_any o hok false (.agg #[ev,rv]) w2 (HOX.out.only HO2.out)).mono ?_
 rintro e w3 ⟨ev2,rv2,rfl,hen,hrb,ho3⟩
 rw[←EES.out] at hen
 rw[←ERS.out] at hrb
 obtain⟨EA,ek,rfl,_,_⟩:=hen.form
 obtain⟨RA,rk,rfl,_,_⟩:=hrb.form
 have HEN:=Lib.hid hen.sl
 have HRB:=Lib.hid hrb.sl
 have HO3:=Lib.hid (HO2.out.trans ho3)
 have o0:=(HO.out.only HO3.out (fun e=>e)).cell 0
 have o1:=(HO.out.only HO3.out (fun e=>e)).cell 1
 clear hen hrb ho3
 go_wp2_with fail
 refine(make16_any o hok false (.agg #[ev,rv]) w3 (HOX.out.only HO3.out)).mono ?_
 rintro e w4 ⟨ev3,rv3,rfl,hen,hrb,ho4⟩
 rw[←EES.out] at hen
 obtain⟨OA,ok,rfl,_,_⟩:=hen.form
 obtain⟨L0,hL0⟩:=hen
 have HOW:=Lib.hid hL0
 have HO4:=Lib.hid (HO3.out.trans ho4)
 have HEN4:=Lib.hid (HEN.out.only ho4)
 have HRB4:=Lib.hid (HRB.out.only ho4)
 have HO34:=Lib.hid ho4
 clear hL0 hrb ho4 o0 o1
 go_wp2_with fail
 go_loopw [40] (fun i W=>∃j:Nat,i= .int .i64 j∧j≤es.length∧(∃L,EnOwnL W w3.heap.size (.slice OA es.length ok) es.length (upE more j es) L)∧Only (Hi w3.heap.size) w4 W) (fun i _=>es.length-(intOf i).toNat)
 case atStart=>exact⟨0,rfl,Nat.zero_le _,⟨L0,by rw[upE_zero];exact HOW.out⟩,Only.refl _ _⟩
 case round=>
  obtain⟨j,rfl,hj,⟨L,hL⟩,hlo⟩:=hrel
  have HL:=Lib.hid hL
  have HLO:=Lib.hid hlo
  clear hL hlo
  by_cases hlt:j<es.length
  ·have hes6:=HES.out
   obtain⟨e,hej⟩:∃e,es[j]? =some e:=⟨_,List.getElem?_eq_getElem hlt⟩
   have hue:=upE_at (more:=more) hej
   have hll:L.length=es.length:=by rw[HL.out.len,upE_len more j es (by omega)]
   obtain⟨c,hc⟩:∃c,L[j]? =some c:=⟨_,List.getElem?_eq_getElem (by omega)⟩
   obtain⟨A9,cap9,e9,hc1,hc2,hat⟩:=OwnOf.sl ecC_len (by rw[hll];exact HL.out.own)
   simp only[Value.slice.injEq] at e9
   obtain⟨rfl,_,rfl⟩:=e9
   obtain⟨g,of,rfl,hg,hr⟩:=hat j c hc
   have hof:of=0:=by
    rcases HL.out.own.2 with⟨h0,_⟩|⟨g2,cap2,cur,e2,_⟩
    ·cases h0
    ·cases e2;rfl
   subst hof
   have hp:=(HL.out.ent j c e hc hue).2.1
   have d3:wr.cell? ⟨g,j*5+3,none⟩=some (.int .i64 e.price):=by
    have h3:=hr 3 _ rfl
    rw[Nat.zero_add,hp] at h3
    exact h3
   obtain⟨cur,hcur⟩:=own_there HL.out.own (k:=g) rfl
   have f3:=hcur.frozen (j*5+3)
   obtain⟨x,ex⟩:∃x,x=IntKind.i64.wrap (e.price+more):=⟨_,rfl⟩
   have ex' :=ex.symm
   have hset:=HL.out.setP hc hue x
   have hgb:=(own_ge HL.out.own (g:=g) rfl).1
   have hup:(upE more j es).set j ⟨e.lot,x,e.values⟩=upE more (j+1) es:=by rw[ex];exact upE_set hej
   rw[hup] at hset
   have HSET:=Lib.hid hset
   have HLO2:=Lib.hid (HLO.out.setCell (p:=⟨g,j*5+3,none⟩) (.inl (show w3.heap.size≤g from hgb)) (.int .i64 x))
   have ij:(j:Int)<(es.length:Int):=by omega
   have j0:(0:Int)≤(j:Int):=by omega
   have wj:IntKind.i64.wrap ((j:Int)+1)=(j:Int)+1:=IntWalk.i64_in _ (by omega)
   clear hej hue hc hat hr hp hcur ex hset hup hll hc1 hc2 hgb hes6 hg
   go_wp2_with fail
   go_roundw
   case rel=>exact⟨j+1,rfl,by omega,⟨_,HSET.out⟩,HLO2.out⟩
   case measure=>simp[intOf];omega
  ·obtain rfl:j=es.length:=by omega
   obtain⟨V,rfl⟩:∃x,x=wr:=⟨_,rfl⟩
   have hown:=HL.out
   rw[upE_all] at hown
   have hlow:∀g,g<w3.heap.size→¬Hi w3.heap.size g:=fun g hg h=>by have h' :w3.heap.size≤g:=h;omega
   have hxv:Only NoneOf X V:=HO4.out.trans' HLO.out (fun i hi h=>by have h' :w3.heap.size≤i:=h;have:=HO3.out.size;omega)
   have h3v:Only (Hi w3.heap.size) w3 V:=(HO34.out.mono (fun _ _ e=>e.elim)).trans HLO.out
   have HEV:=Lib.hid (HEN.out.low h3v hlow)
   have HRV:=Lib.hid (HRB.out.low h3v hlow)
   have hle:(es.map (upP more)).length =es.length:=List.length_map _
   have HOWN:Hid (EnSl V (.slice OA es.length ok) (es.map (upP more))):=Lib.hid (EnOwn.sl ⟨L,by rw[hle];exact hown⟩)
   have HXV:=Lib.hid hxv
   have HPV:=Lib.hid (HP.out.only hxv (fun e=>e))
   have HTV:=Lib.hid (HE.out.none hxv).tab
   have HMK1:Hid (∀W,Only NoneOf V W→Calls Tryz.prog 11 #[.int .i64 n,.string (sdT s),.int .i64 (k:Int),.int .i64 (off:Int),.slice EA es.length ek,.slice RA rs.length rk] W (MkdE m1 W)):=Lib.hid (fun W hW=>MK1.out _ _ W (HEV.out.only hW) (HRV.out.only hW) (HTV.out.none hW))
   clear hown hlow hxv h3v HL HLO HOW
   go_upto_region 10 with(fail)
   go_cut [15,16,17] from 53 to 65 (fun p q c Z2=>∃gA gB qv pv y0 y1,p= .pointer (some ⟨gA,0,none⟩)∧q= .pointer (some ⟨gB,0,none⟩)∧c= .int .i64 m1.code∧Blk Z2 gA tBid #[.int .i64 m1.bid.bidder,.string m1.bid.qt,qv,.string m1.bid.pt,pv]∧Blk Z2 gB tShs #[y0,y1]∧MdS V.heap.size m1 (.agg #[.int .i64 m1.bid.bidder,.string m1.bid.qt,qv,.string m1.bid.pt,pv]) y0 y1 Z2∧Only NoneOf V Z2)
   case first=>
    refine wp_region_choice (MdK V [(0,.pointer (some ⟨P,0,none⟩)),(1,.int .i64 n),(2,.agg #[.int .i64 n,.string s,.int .u8 (a:Int),.int .u8 (b:Int)]),(3,.string (sdT s)),(4,.int .i64 (k:Int)),(5,.int .i64 (off:Int)),(6,.slice EA es.length ek),(7,.slice RA rs.length rk),(17,.int .i64 m1.code)] (⟨8,9,10,11,12,13,14,15,16⟩:Ix) (m1)) 136 (by kernel_rfl) (by kernel_rfl) (by kernel_rfl) (by kernel_rfl) (by simp) (MdK.start _ _) ?_ ?_
    have hdif:(⟨8,9,10,11,12,13,14,15,16⟩:Ix).Dif :=Ix.dif (by decide)
    refine⟨?_,?_,?_,?_,?_,?_,?_,?_,?_,?_,?_,?_,?_,?_,?_,?_,?_,?_,trivial⟩
    ·intro vals L W ρ hdn hr hC hd ho hx
     have e:ρ (.tmp 3)= .pointer (some ⟨P,0,none⟩):=ho 3 (by kernel_rfl)
     simp[stepR,go_sem,e]
     exact hC.pure_ (by decide) (pv_only (by kernel_rfl) (k:=0) rfl) (ready_lt hr)
    ·intro vals L W ρ hdn hr hC hd ho hx
     have e:ρ (.tmp 54)=_:=(hd 0 54 (by kernel_rfl) rfl).trans (hC.pure _ (List.mem_of_getElem? (i:=0) rfl) (ready_dep hr (j:=0) (by kernel_rfl)))
     have c:=(HPV.out.only hC.only (fun e=>e)).cell 0
     simp[stepR,go_sem,e,c]
     exact hC.pure_ (by decide) (pv_only (by kernel_rfl) (k:=1) rfl) (ready_lt hr)
    ·intro vals L W ρ hdn hr hC hd ho hx
     have e:ρ (.tmp 3)= .pointer (some ⟨P,0,none⟩):=ho 3 (by kernel_rfl)
     exact step_load rfl e (HPV.out.only hC.only (fun e=>e)) Tryz.underlying23 rfl (by kernel_rfl) (hC.pure_ (by decide) (pv_only (by kernel_rfl) (k:=2) rfl) (ready_lt hr))
    ·intro vals L W ρ hdn hr hC hd ho hx
     have e:ρ (.tmp 56)=_:=(hd 2 56 (by kernel_rfl) rfl).trans (hC.pure _ (List.mem_of_getElem? (i:=2) rfl) (ready_dep hr (j:=2) (by kernel_rfl)))
     have hf:ρ (.func 12)= .func (.func 12) #[] #[]:=hx _ (fun s e=>by cases e)
     simp[stepR,go_sem,e,hf]
     refine(seed16_any n s a b W).mono ?_
     rintro e9 W2 ⟨rfl,ho2⟩
     exact⟨_,rfl,(hC.none_ ho2).pure_ (by decide) (pv_only (by kernel_rfl) (k:=3) rfl) (ready_lt hr)⟩
    ·intro vals L W ρ hdn hr hC hd ho hx
     have e:ρ (.tmp 8)= .int .i64 (k:Int):=ho 8 (by kernel_rfl)
     simp[stepR,go_sem,e]
     exact hC.pure_ (by decide) (pv_only (by kernel_rfl) (k:=4) rfl) (ready_lt hr)
    ·intro vals L W ρ hdn hr hC hd ho hx
     have e:ρ (.tmp 9)= .int .i64 (off:Int):=ho 9 (by kernel_rfl)
     simp[stepR,go_sem,e]
     exact hC.pure_ (by decide) (pv_only (by kernel_rfl) (k:=5) rfl) (ready_lt hr)
    ·intro vals L W ρ hdn hr hC hd ho hx
     have e:ρ (.tmp 10)= .slice EA es.length ek:=ho 10 (by kernel_rfl)
     simp[stepR,go_sem,e]
     exact hC.pure_ (by decide) (pv_only (by kernel_rfl) (k:=6) rfl) (ready_lt hr)
    ·intro vals L W ρ hdn hr hC hd ho hx
     have e:ρ (.tmp 11)= .slice RA rs.length rk:=ho 11 (by kernel_rfl)
     simp[stepR,go_sem,e]
     exact hC.pure_ (by decide) (pv_only (by kernel_rfl) (k:=7) rfl) (ready_lt hr)
    ·intro vals L W ρ hdn hr hC hd ho hx
     have e0:ρ (.tmp 55)=_:=(hd 1 55 (by kernel_rfl) rfl).trans (hC.pure _ (List.mem_of_getElem? (i:=1) rfl) (ready_dep hr (j:=1) (by kernel_rfl)))
     have e1:ρ (.tmp 57)=_:=(hd 3 57 (by kernel_rfl) rfl).trans (hC.pure _ (List.mem_of_getElem? (i:=3) rfl) (ready_dep hr (j:=3) (by kernel_rfl)))
     have e2:ρ (.tmp 58)=_:=(hd 4 58 (by kernel_rfl) rfl).trans (hC.pure _ (List.mem_of_getElem? (i:=4) rfl) (ready_dep hr (j:=4) (by kernel_rfl)))
     have e3:ρ (.tmp 59)=_:=(hd 5 59 (by kernel_rfl) rfl).trans (hC.pure _ (List.mem_of_getElem? (i:=5) rfl) (ready_dep hr (j:=5) (by kernel_rfl)))
     have e4:ρ (.tmp 60)=_:=(hd 6 60 (by kernel_rfl) rfl).trans (hC.pure _ (List.mem_of_getElem? (i:=6) rfl) (ready_dep hr (j:=6) (by kernel_rfl)))
     have e5:ρ (.tmp 61)=_:=(hd 7 61 (by kernel_rfl) rfl).trans (hC.pure _ (List.mem_of_getElem? (i:=7) rfl) (ready_dep hr (j:=7) (by kernel_rfl)))
     have hf:ρ (.func 11)= .func (.func 11) #[] #[]:=hx _ (fun s e=>by cases e)
     simp[stepR,go_sem,e0,e1,e2,e3,e4,e5,hf]
     refine(HMK1.out W hC.only).mono ?_
     rintro e9 W2 ⟨bv,y0,y1,rfl,h1,h2,h3,ho2⟩
     exact⟨_,rfl,(hC.none_ ho2).call hdif (by kernel_rfl) (ready_lt hr) (MdS.of_base hC.only.size h1 h2 h3) (undone1 hdn hr (k:=9) (by kernel_rfl)) (undone2 hdn hr (k:=10) (j:=9) (by kernel_rfl) (by kernel_rfl)) (undone2 hdn hr (k:=11) (j:=9) (by kernel_rfl) (by kernel_rfl)) (undone2 hdn hr (k:=12) (j:=9) (by kernel_rfl) (by kernel_rfl))⟩
    ·intro vals L W ρ hdn hr hC hd ho hx
     have e:ρ (.tmp 62)=vals 8:=hd 8 62 (by kernel_rfl) rfl
     simp[stepR,go_sem,e]
     exact hC.copy_ hdif (by kernel_rfl) (ready_lt hr)
    ·intro vals L W ρ hdn hr hC hd ho hx
     have hv:=ready_dep hr (j:=9) (by kernel_rfl)
     have hM:=down_dep hdn hv (j:=8) (by kernel_rfl)
     obtain⟨q9,p9,y9,z9,e2,_⟩:=hC.parts hM
     have e:ρ (.tmp 53)=_:=((hd 9 53 (by kernel_rfl) rfl).trans (hC.copy hv)).trans e2
     simp[stepR,go_sem,e]
     exact hC.part0 hdif (by kernel_rfl) (ready_lt hr) e2 (undone1 hdn hr (k:=15) (by kernel_rfl))
    ·intro vals L W ρ hdn hr hC hd ho hx
     have hv:=ready_dep hr (j:=9) (by kernel_rfl)
     have hM:=down_dep hdn hv (j:=8) (by kernel_rfl)
     obtain⟨q9,p9,y9,z9,e2,_⟩:=hC.parts hM
     have e:ρ (.tmp 53)=_:=((hd 9 53 (by kernel_rfl) rfl).trans (hC.copy hv)).trans e2
     simp[stepR,go_sem,e]
     exact hC.part1 hdif (by kernel_rfl) (ready_lt hr) e2 (undone1 hdn hr (k:=16) (by kernel_rfl))
    ·intro vals L W ρ hdn hr hC hd ho hx
     have hv:=ready_dep hr (j:=9) (by kernel_rfl)
     have hM:=down_dep hdn hv (j:=8) (by kernel_rfl)
     obtain⟨q9,p9,y9,z9,e2,_⟩:=hC.parts hM
     have e:ρ (.tmp 53)=_:=((hd 9 53 (by kernel_rfl) rfl).trans (hC.copy hv)).trans e2
     simp[stepR,go_sem,e]
     exact hC.part2 hdif (by kernel_rfl) (ready_lt hr) e2
    ·intro vals L W ρ hdn hr hC hd ho hx
     exact hC.doA hdif (by kernel_rfl) (ready_lt hr) (undone1 hdn hr (k:=15) (by kernel_rfl)) (by simp[go_sem])
    ·intro vals L W ρ hdn hr hC hd ho hx
     exact hC.doB hdif (by kernel_rfl) (ready_lt hr) (undone1 hdn hr (k:=16) (by kernel_rfl)) (by simp[go_sem])
    ·intro vals L W ρ hdn hr hC hd ho hx
     have h0:=ready_dep hr (j:=10) (by kernel_rfl)
     have hM:=down_dep hdn (down_dep hdn h0 (j:=9) (by kernel_rfl)) (j:=8) (by kernel_rfl)
     exact hC.doS hdif (by kernel_rfl) (ready_lt hr) (ready_undone hr) (ready_dep hr (j:=13) (by kernel_rfl)) h0 hM rfl (hd 13 15 (by kernel_rfl) rfl) (hd 10 63 (by kernel_rfl) rfl)
    ·intro vals L W ρ hdn hr hC hd ho hx
     have h0:=ready_dep hr (j:=11) (by kernel_rfl)
     have hM:=down_dep hdn (down_dep hdn h0 (j:=9) (by kernel_rfl)) (j:=8) (by kernel_rfl)
     exact hC.doT hdif (by kernel_rfl) (ready_lt hr) (ready_undone hr) (ready_dep hr (j:=14) (by kernel_rfl)) h0 hM rfl (hd 14 16 (by kernel_rfl) rfl) (hd 11 64 (by kernel_rfl) rfl)
    ·intro vals L W ρ hdn hr hC hd ho hx
     have h2:=ready_dep hr (j:=12) (by kernel_rfl)
     have hM:=down_dep hdn (down_dep hdn h2 (j:=9) (by kernel_rfl)) (j:=8) (by kernel_rfl)
     obtain⟨_,_,_,_,e2,_⟩:=hC.parts hM
     obtain⟨_,_,e3⟩:=hC.p2 h2
     rw[e2] at e3
     simp only[Value.tuple.injEq,Array.mk.injEq,List.cons.injEq] at e3
     have e:ρ (.tmp 65)= .int .i64 m1.code:=(hd 12 65 (by kernel_rfl) rfl).trans e3.2.2.1.symm
     simp[stepR,go_sem,e]
     exact hC.pure_ (by decide) (pv_only (by kernel_rfl) (k:=8) rfl) (ready_lt hr)
    intro vals L Z hall hC
    obtain⟨gA,gB,qv,pv,y0,y1,vA,vB,vC,hgA,hgB,hbA,hbB,hmd,hoZ⟩:=hC.all hall ⟨by decide,by decide,by decide,by decide,by decide,by decide,by decide,by decide⟩
    have vD:vals 17= .int .i64 m1.code:=hC.pure _ (List.mem_of_getElem? (i:=8) rfl) (hall 17 (by decide))
    simp only[finA,Nat.reduceAdd,Act.put,List.setIfInBounds_toArray,List.set_cons_succ,List.set_cons_zero]
    rw[vA,vB,vD]
    clear vA vB vC vD
    go_wp2_with fail
    go_meet
    case rel=>exact⟨gA,gB,qv,pv,y0,y1,rfl,rfl,rfl,hbA,hbB,hmd,hoZ⟩
   case rest=>
    obtain⟨gA1,gB1,qv1,pv1,y01,y11,rfl,rfl,rfl,hbA1,hbB1,hmd1,hoZ1⟩:=hcut
    obtain⟨Z1,rfl⟩:∃x,x=wc:=⟨_,rfl⟩
    obtain⟨⟨q91,p91,e91,j11,j21⟩,j31,j41⟩:=hmd1
    have e81:qv1=q91∧pv1=p91:=by
     simp only[Value.agg.injEq,Array.mk.injEq,List.cons.injEq,and_true,true_and] at e91
     exact e91
    obtain⟨rfl,rfl⟩:=e81
    obtain⟨A01,k01,rfl,_,_⟩:=own_form' j11
    obtain⟨A11,k11,rfl,_,_⟩:=own_form' j21
    obtain⟨A21,k21,rfl,_,_⟩:=own_form' j31
    obtain⟨A31,k31,rfl,_,_⟩:=own_form' j41
    have HPZ1:=Lib.hid (HPV.out.only hoZ1 (fun e=>e))
    have HMK2:Hid (∀W,Only NoneOf Z1 W→Calls Tryz.prog 11 #[.int .i64 n,.string (sdT s),.int .i64 (k:Int),.int .i64 (off:Int),.slice OA es.length ok,.slice none 0 0] W (MkdE m2 W)):=Lib.hid (fun W hW=>MK2.out _ W (HOWN.out.only (hoZ1.trans hW)) (HTV.out.none (hoZ1.trans hW)))
    have HBA1:=Lib.hid hbA1
    have HBB1:=Lib.hid hbB1
    have HJ1:=Lib.hid (OwnOf.sl inC_len j11)
    have HJ3:=Lib.hid (OwnOf.sl shC_len j31)
    have HJ4:=Lib.hid (OwnOf.sl shC_len j41)
    have HVZ:=Lib.hid hoZ1
    clear hbA1 hbB1 e91 j11 j21 j31 j41 hoZ1
    go_upto_region 11 with(fail)
    go_cut [18,19,20] from 66 to 77 (fun p q c Z2=>∃gA gB qv pv y0 y1,p= .pointer (some ⟨gA,0,none⟩)∧q= .pointer (some ⟨gB,0,none⟩)∧c= .int .i64 m2.code∧Blk Z2 gA tBid #[.int .i64 m2.bid.bidder,.string m2.bid.qt,qv,.string m2.bid.pt,pv]∧Blk Z2 gB tShs #[y0,y1]∧MdS Z1.heap.size m2 (.agg #[.int .i64 m2.bid.bidder,.string m2.bid.qt,qv,.string m2.bid.pt,pv]) y0 y1 Z2∧Only NoneOf Z1 Z2)
    case first=>
     refine wp_region_choice (MdK Z1 [(0,.pointer (some ⟨P,0,none⟩)),(1,.int .i64 n),(2,.agg #[.int .i64 n,.string s,.int .u8 (a:Int),.int .u8 (b:Int)]),(3,.string (sdT s)),(4,.int .i64 (k:Int)),(5,.int .i64 (off:Int)),(6,.slice OA es.length ok),(16,.int .i64 m2.code)] (⟨7,8,9,10,11,12,13,14,15⟩:Ix) (m2)) 136 (by kernel_rfl) (by kernel_rfl) (by kernel_rfl) (by kernel_rfl) (by simp) (MdK.start _ _) ?_ ?_
     have hdif:(⟨7,8,9,10,11,12,13,14,15⟩:Ix).Dif :=Ix.dif (by decide)
     refine⟨?_,?_,?_,?_,?_,?_,?_,?_,?_,?_,?_,?_,?_,?_,?_,?_,?_,trivial⟩
     ·intro vals L W ρ hdn hr hC hd ho hx
      have e:ρ (.tmp 3)= .pointer (some ⟨P,0,none⟩):=ho 3 (by kernel_rfl)
      simp[stepR,go_sem,e]
      exact hC.pure_ (by decide) (pv_only (by kernel_rfl) (k:=0) rfl) (ready_lt hr)
     ·intro vals L W ρ hdn hr hC hd ho hx
      have e:ρ (.tmp 67)=_:=(hd 0 67 (by kernel_rfl) rfl).trans (hC.pure _ (List.mem_of_getElem? (i:=0) rfl) (ready_dep hr (j:=0) (by kernel_rfl)))
      have c:=(HPZ1.out.only hC.only (fun e=>e)).cell 0
      simp[stepR,go_sem,e,c]
      exact hC.pure_ (by decide) (pv_only (by kernel_rfl) (k:=1) rfl) (ready_lt hr)
     ·intro vals L W ρ hdn hr hC hd ho hx
      have e:ρ (.tmp 3)= .pointer (some ⟨P,0,none⟩):=ho 3 (by kernel_rfl)
      exact step_load rfl e (HPZ1.out.only hC.only (fun e=>e)) Tryz.underlying23 rfl (by kernel_rfl) (hC.pure_ (by decide) (pv_only (by kernel_rfl) (k:=2) rfl) (ready_lt hr))
     ·intro vals L W ρ hdn hr hC hd ho hx
      have e:ρ (.tmp 69)=_:=(hd 2 69 (by kernel_rfl) rfl).trans (hC.pure _ (List.mem_of_getElem? (i:=2) rfl) (ready_dep hr (j:=2) (by kernel_rfl)))
      have hf:ρ (.func 12)= .func (.func 12) #[] #[]:=hx _ (fun s e=>by cases e)
      simp[stepR,go_sem,e,hf]
      refine(seed16_any n s a b W).mono ?_
      rintro e9 W2 ⟨rfl,ho2⟩
      exact⟨_,rfl,(hC.none_ ho2).pure_ (by decide) (pv_only (by kernel_rfl) (k:=3) rfl) (ready_lt hr)⟩
     ·intro vals L W ρ hdn hr hC hd ho hx
      have e:ρ (.tmp 8)= .int .i64 (k:Int):=ho 8 (by kernel_rfl)
      simp[stepR,go_sem,e]
      exact hC.pure_ (by decide) (pv_only (by kernel_rfl) (k:=4) rfl) (ready_lt hr)
     ·intro vals L W ρ hdn hr hC hd ho hx
      have e:ρ (.tmp 9)= .int .i64 (off:Int):=ho 9 (by kernel_rfl)
      simp[stepR,go_sem,e]
      exact hC.pure_ (by decide) (pv_only (by kernel_rfl) (k:=5) rfl) (ready_lt hr)
     ·intro vals L W ρ hdn hr hC hd ho hx
      have e:ρ (.tmp 12)= .slice OA es.length ok:=ho 12 (by kernel_rfl)
      simp[stepR,go_sem,e]
      exact hC.pure_ (by decide) (pv_only (by kernel_rfl) (k:=6) rfl) (ready_lt hr)
     ·intro vals L W ρ hdn hr hC hd ho hx
      have e0:ρ (.tmp 68)=_:=(hd 1 68 (by kernel_rfl) rfl).trans (hC.pure _ (List.mem_of_getElem? (i:=1) rfl) (ready_dep hr (j:=1) (by kernel_rfl)))
      have e1:ρ (.tmp 70)=_:=(hd 3 70 (by kernel_rfl) rfl).trans (hC.pure _ (List.mem_of_getElem? (i:=3) rfl) (ready_dep hr (j:=3) (by kernel_rfl)))
      have e2:ρ (.tmp 71)=_:=(hd 4 71 (by kernel_rfl) rfl).trans (hC.pure _ (List.mem_of_getElem? (i:=4) rfl) (ready_dep hr (j:=4) (by kernel_rfl)))
      have e3:ρ (.tmp 72)=_:=(hd 5 72 (by kernel_rfl) rfl).trans (hC.pure _ (List.mem_of_getElem? (i:=5) rfl) (ready_dep hr (j:=5) (by kernel_rfl)))
      have e4:ρ (.tmp 73)=_:=(hd 6 73 (by kernel_rfl) rfl).trans (hC.pure _ (List.mem_of_getElem? (i:=6) rfl) (ready_dep hr (j:=6) (by kernel_rfl)))
      have c0:ρ (.const (.slice none 0 0))=_:=hx _ (fun s e=>by cases e)
      have hf:ρ (.func 11)= .func (.func 11) #[] #[]:=hx _ (fun s e=>by cases e)
      simp[stepR,go_sem,e0,e1,e2,e3,e4,c0,hf]
      refine(HMK2.out W hC.only).mono ?_
      rintro e9 W2 ⟨bv,y0,y1,rfl,h1,h2,h3,ho2⟩
      exact⟨_,rfl,(hC.none_ ho2).call hdif (by kernel_rfl) (ready_lt hr) (MdS.of_base hC.only.size h1 h2 h3) (undone1 hdn hr (k:=8) (by kernel_rfl)) (undone2 hdn hr (k:=9) (j:=8) (by kernel_rfl) (by kernel_rfl)) (undone2 hdn hr (k:=10) (j:=8) (by kernel_rfl) (by kernel_rfl)) (undone2 hdn hr (k:=11) (j:=8) (by kernel_rfl) (by kernel_rfl))⟩
     ·intro vals L W ρ hdn hr hC hd ho hx
      have e:ρ (.tmp 74)=vals 7:=hd 7 74 (by kernel_rfl) rfl
      simp[stepR,go_sem,e]
      exact hC.copy_ hdif (by kernel_rfl) (ready_lt hr)
     ·intro vals L W ρ hdn hr hC hd ho hx
      have hv:=ready_dep hr (j:=8) (by kernel_rfl)
      have hM:=down_dep hdn hv (j:=7) (by kernel_rfl)
      obtain⟨q9,p9,y9,z9,e2,_⟩:=hC.parts hM
      have e:ρ (.tmp 66)=_:=((hd 8 66 (by kernel_rfl) rfl).trans (hC.copy hv)).trans e2
      simp[stepR,go_sem,e]
      exact hC.part0 hdif (by kernel_rfl) (ready_lt hr) e2 (undone1 hdn hr (k:=14) (by kernel_rfl))
     ·intro vals L W ρ hdn hr hC hd ho hx
      have hv:=ready_dep hr (j:=8) (by kernel_rfl)
      have hM:=down_dep hdn hv (j:=7) (by kernel_rfl)
      obtain⟨q9,p9,y9,z9,e2,_⟩:=hC.parts hM
      have e:ρ (.tmp 66)=_:=((hd 8 66 (by kernel_rfl) rfl).trans (hC.copy hv)).trans e2
      simp[stepR,go_sem,e]
      exact hC.part1 hdif (by kernel_rfl) (ready_lt hr) e2 (undone1 hdn hr (k:=15) (by kernel_rfl))
     ·intro vals L W ρ hdn hr hC hd ho hx
      have hv:=ready_dep hr (j:=8) (by kernel_rfl)
      have hM:=down_dep hdn hv (j:=7) (by kernel_rfl)
      obtain⟨q9,p9,y9,z9,e2,_⟩:=hC.parts hM
      have e:ρ (.tmp 66)=_:=((hd 8 66 (by kernel_rfl) rfl).trans (hC.copy hv)).trans e2
      simp[stepR,go_sem,e]
      exact hC.part2 hdif (by kernel_rfl) (ready_lt hr) e2
     ·intro vals L W ρ hdn hr hC hd ho hx
      exact hC.doA hdif (by kernel_rfl) (ready_lt hr) (undone1 hdn hr (k:=14) (by kernel_rfl)) (by simp[go_sem])
     ·intro vals L W ρ hdn hr hC hd ho hx
      exact hC.doB hdif (by kernel_rfl) (ready_lt hr) (undone1 hdn hr (k:=15) (by kernel_rfl)) (by simp[go_sem])
     ·intro vals L W ρ hdn hr hC hd ho hx
      have h0:=ready_dep hr (j:=9) (by kernel_rfl)
      have hM:=down_dep hdn (down_dep hdn h0 (j:=8) (by kernel_rfl)) (j:=7) (by kernel_rfl)
      exact hC.doS hdif (by kernel_rfl) (ready_lt hr) (ready_undone hr) (ready_dep hr (j:=12) (by kernel_rfl)) h0 hM rfl (hd 12 18 (by kernel_rfl) rfl) (hd 9 75 (by kernel_rfl) rfl)
     ·intro vals L W ρ hdn hr hC hd ho hx
      have h0:=ready_dep hr (j:=10) (by kernel_rfl)
      have hM:=down_dep hdn (down_dep hdn h0 (j:=8) (by kernel_rfl)) (j:=7) (by kernel_rfl)
      exact hC.doT hdif (by kernel_rfl) (ready_lt hr) (ready_undone hr) (ready_dep hr (j:=13) (by kernel_rfl)) h0 hM rfl (hd 13 19 (by kernel_rfl) rfl) (hd 10 76 (by kernel_rfl) rfl)
     ·intro vals L W ρ hdn hr hC hd ho hx
      have h2:=ready_dep hr (j:=11) (by kernel_rfl)
      have hM:=down_dep hdn (down_dep hdn h2 (j:=8) (by kernel_rfl)) (j:=7) (by kernel_rfl)
      obtain⟨_,_,_,_,e2,_⟩:=hC.parts hM
      obtain⟨_,_,e3⟩:=hC.p2 h2
      rw[e2] at e3
      simp only[Value.tuple.injEq,Array.mk.injEq,List.cons.injEq] at e3
      have e:ρ (.tmp 77)= .int .i64 m2.code:=(hd 11 77 (by kernel_rfl) rfl).trans e3.2.2.1.symm
      simp[stepR,go_sem,e]
      exact hC.pure_ (by decide) (pv_only (by kernel_rfl) (k:=7) rfl) (ready_lt hr)
     intro vals L Z hall hC
     obtain⟨gA,gB,qv,pv,y0,y1,vA,vB,vC,hgA,hgB,hbA,hbB,hmd,hoZ⟩:=hC.all hall ⟨by decide,by decide,by decide,by decide,by decide,by decide,by decide,by decide⟩
     have vD:vals 16= .int .i64 m2.code:=hC.pure _ (List.mem_of_getElem? (i:=7) rfl) (hall 16 (by decide))
     simp only[finA,Nat.reduceAdd,Act.put,List.setIfInBounds_toArray,List.set_cons_succ,List.set_cons_zero]
     rw[vA,vB,vD]
     clear vA vB vC vD
     go_wp2_with fail
     go_meet
     case rel=>exact⟨gA,gB,qv,pv,y0,y1,rfl,rfl,rfl,hbA,hbB,hmd,hoZ⟩
    case rest=>
     obtain⟨gA2,gB2,qv2,pv2,y02,y12,rfl,rfl,rfl,hbA2,hbB2,hmd2,hoZ2⟩:=hcut
     obtain⟨Z2,rfl⟩:∃x,x=wc:=⟨_,rfl⟩
     obtain⟨⟨q92,p92,e92,j12,j22⟩,j32,j42⟩:=hmd2
     have e82:qv2=q92∧pv2=p92:=by
      simp only[Value.agg.injEq,Array.mk.injEq,List.cons.injEq,and_true,true_and] at e92
      exact e92
     obtain⟨rfl,rfl⟩:=e82
     obtain⟨A02,k02,rfl,_,_⟩:=own_form' j12
     obtain⟨A12,k12,rfl,_,_⟩:=own_form' j22
     obtain⟨A22,k22,rfl,_,_⟩:=own_form' j32
     obtain⟨A32,k32,rfl,_,_⟩:=own_form' j42
     have hc1:m1.code=0:=by rw[HM1.out]
     have hc2:m2.code=0:=by rw[HM2.out]
     have hqt:m2.bid.qt=m1.bid.qt:=by rw[HM1.out,HM2.out];rfl
     have hqc:m2.bid.qc=m1.bid.qc:=by rw[HM1.out,HM2.out];rfl
     have hs0:m2.s0=m1.s0:=by rw[HM1.out,HM2.out]
     have hs1:m2.s1=m1.s1:=by rw[HM1.out,HM2.out]
     have hl0:m1.s0.length≤1000:=by rw[HM1.out];show(shL _ _).length≤_;rw[shL_len];omega
     have hl1:m1.s1.length≤1000:=by rw[HM1.out];show(shL _ _).length≤_;rw[shL_len];omega
     have hlq:m1.bid.qc.length≤1000:=by rw[HM1.out];show(cmL _).length≤_;rw[cmL_len,cfs_len];omega
     have hpt:m1.bid.pt=m2.bid.pt↔pricL es rs=pricL (es.map (upP more)) []:=by
      rw[HM1.out,HM2.out]
      exact⟨fun e=>boxT_inj e,fun e=>by show boxT _ _=boxT _ _;rw[e]⟩
     have hA2:=HBA1.out.only hoZ2 (fun e=>e)
     have hB2:=HBB1.out.only hoZ2 (fun e=>e)
     have r1:=hA2.cell 1
     have r2:=hA2.cell 2
     have r3:=hA2.cell 3
     have u1:=hbA2.cell 1
     have u2:=hbA2.cell 2
     have u3:=hbA2.cell 3
     have cv0:=hB2.cell 0
     have cv1:=hB2.cell 1
     have x0:=hbB2.cell 0
     have x1:=hbB2.cell 1
     have i12:=OwnOf.sl inC_len j12
     have s32:=OwnOf.sl shC_len j32
     have s42:=OwnOf.sl shC_len j42
     rw[hqt] at u1
     rw[hqc] at u2 i12
     rw[hs0] at x0 s32
     rw[hs1] at x1 s42
     rw[hc1,hc2]
     obtain⟨qt,eqt⟩:∃x,x=m1.bid.qt:=⟨_,rfl⟩
     rw[←eqt] at r1 u1
     obtain⟨pa,epa⟩:∃x,x=m1.bid.pt:=⟨_,rfl⟩
     obtain⟨pb,epb⟩:∃x,x=m2.bid.pt:=⟨_,rfl⟩
     rw[←epa] at r3 hpt
     rw[←epb] at u3 hpt
     have b1:=tx_listT (rfl:qt=qt)
     have I1:=Lib.hid (HJ1.out.only hoZ2)
     have I2:=Lib.hid i12
     have S1:=Lib.hid (HJ3.out.only hoZ2)
     have S2:=Lib.hid s32
     have S3:=Lib.hid (HJ4.out.only hoZ2)
     have S4:=Lib.hid s42
     have HPT:=Lib.hid hpt
     have HLQ:=Lib.hid hlq
     have HL0:=Lib.hid hl0
     have HL1:=Lib.hid hl1
     have HVZ2:=Lib.hid (HVZ.out.trans hoZ2)
     have HA2:=Lib.hid hA2
     have HB2:=Lib.hid hB2
     have HU2:=Lib.hid hbA2
     have HW2:=Lib.hid hbB2
     rw[←epb] at HU2
     rw[←epa] at HA2
     clear hc1 hc2 hqt hqc hs0 hs1 hl0 hl1 hlq hpt hA2 hB2 i12 s32 s42 e92 j12 j22 j32 j42 hoZ2 hbA2 hbB2 eqt epa epb
     go_wp2_with fail
     refine(ints_same m1.bid.qc (by have:=HLQ.out;omega) _ _ Z2 I1.out I2.out).mono ?_
     rintro e v1 ⟨rfl,hv1⟩
     have HV1:=Lib.hid hv1
     have v0' :=hv1.cell_some cv0 (fun e=>e)
     have x0' :=hv1.cell_some x0 (fun e=>e)
     clear hv1
     go_wp2_with fail
     refine(shares_same m1.s0 (by have:=HL0.out;omega) _ _ v1 (S1.out.only HV1.out) (S2.out.only HV1.out)).mono ?_
     rintro e v2 ⟨rfl,hv2⟩
     have HV2:=Lib.hid (HV1.out.trans hv2)
     clear hv2 v0' x0'
     go_wp2_with fail
     refine(prices_any es rs HIN.out HRN.out (by have:=HPL.out;omega) _ _ v2 (HEV.out.only (HVZ2.out.trans HV2.out)) (HRV.out.only (HVZ2.out.trans HV2.out)) (HTV.out.none (HVZ2.out.trans HV2.out))).mono ?_
     rintro e v3 ⟨ta,rfl,hta,hv3⟩
     have HTA:=Lib.hid hta
     have HV3:=Lib.hid (HV2.out.trans hv3)
     clear hta hv3
     go_wp2_with fail
     refine(prices_any (es.map (upP more)) [] (up_in HIN.out) (fun r hr=>by cases hr) (by have:=HPL2.out;omega) _ _ v3 (HOWN.out.only (HVZ2.out.trans HV3.out)) (RbSl.empty _) (HTV.out.none (HVZ2.out.trans HV3.out))).mono ?_
     rintro e v4 ⟨tb,rfl,htb,hv4⟩
     have HV4:=Lib.hid (HV3.out.trans hv4)
     have hsm:pa=pb↔ta=tb:=by
      rw[HPT.out,←HTA.out,←htb]
      exact⟨fun h=>ba_ext h,fun h=>by rw[h]⟩
     have v1' :=HV4.out.cell_some cv1 (fun e=>e)
     have x1' :=HV4.out.cell_some x1 (fun e=>e)
     have HSM:=Lib.hid hsm
     clear htb hv4 hsm cv0 cv1 x0 x1 r1 r2 r3 u1 u2 u3
     by_cases hab:ta=tb
     ·have hpp:=HSM.out.2 hab
      subst hab
      subst hpp
      have b2:=tx_listT (rfl:ta=ta)
      have b3:=tx_listT (rfl:pa=pa)
      go_wp2_with fail
      refine(shares_same m1.s1 (by have:=HL1.out;omega) _ _ v4 (S3.out.only HV4.out) (S4.out.only HV4.out)).mono ?_
      rintro e v5 ⟨rfl,hv5⟩
      have r3:=(HA2.out.only (HV4.out.trans hv5) (fun e=>e)).cell 3
      have u3:=(HU2.out.only (HV4.out.trans hv5) (fun e=>e)).cell 3
      have HV5:=Lib.hid (HV4.out.trans hv5)
      clear hv5 v1' x1'
      go_wp2_with fail
      go_ret
      exact⟨rfl,(HWX.out.trans HXV.out).trans (HVZ2.out.trans HV5.out)⟩
     ·have hpp:¬pa=pb:=fun e=>hab (HSM.out.1 e)
      have b2:=tx_listF hab
      have b3:=tx_listF hpp
      go_wp2_with fail
      refine(shares_same m1.s1 (by have:=HL1.out;omega) _ _ v4 (S3.out.only HV4.out) (S4.out.only HV4.out)).mono ?_
      rintro e v5 ⟨rfl,hv5⟩
      have r3:=(HA2.out.only (HV4.out.trans hv5) (fun e=>e)).cell 3
      have u3:=(HU2.out.only (HV4.out.trans hv5) (fun e=>e)).cell 3
      have HV5:=Lib.hid (HV4.out.trans hv5)
      clear hv5 v1' x1'
      go_wp2_with fail
      go_ret
      exact⟨rfl,(HWX.out.trans HXV.out).trans (HVZ2.out.trans HV5.out)⟩
end Go.Proofs.YtpdlbmieciabmaaGreatDoor
