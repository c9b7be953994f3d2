/-What is proved here:several parts. bids made with their shares,by the reference. Conditions:the numbers are ints,the texts are short. · two bids of the same contents are the same,by the reference's code;a bid made of numbers and texts. Conditions:the lists are short. -/
import Derived.Test.YtpdlbmieciabmaaGreatDoorPm12
import Derived.Test.YtpdlbmieciabmaaGreatDoorPm14
import Derived.Test.YtpdlbmieciabmaaGreatDoorPm17
import Derived.Test.YtpdlbmieciabmaaGreatDoorPm23
import Derived.Test.YtpdlbmieciabmaaGreatDoorPm24
import Derived.Test.YtpdlbmieciabmaaGreatDoorPm29
import Derived.Test.YtpdlbmieciabmaaGreatDoorShelf
import Derived.Deep.RegionLaw
namespace Go.Proofs.YtpdlbmieciabmaaGreatDoor
open Go.RowKit Go.Shelf
structure MkH(w:World)(R:Nat)(W:World):Prop where
 f:MkF w R W
 loc:Blk W (R+2) tShs #[.slice none 0 0,.slice none 0 0]
theorem MkH.put0{w:World}{R:Nat}{W W' :World}(h:MkH w R W)(hb:Blk W' R tBid #[.int .i64 0,.string ⟨#[]⟩,.slice none 0 0,.string ⟨#[]⟩,.slice none 0 0])(ho:Only (·=R) W W'):MkH w R W' :=
 ⟨⟨hb,h.f.shs.only ho (by omega),h.f.only.trans' ho (fun i hi e=>by have:=h.f.new;have e' :i=R:=e;omega),h.f.new⟩,h.loc.only ho (by omega)⟩
theorem MkH.put1{w:World}{R:Nat}{W W' :World}(h:MkH w R W)(hb:Blk W' (R+1) tShs #[.slice none 0 0,.slice none 0 0])(ho:Only (·=R+1) W W'):MkH w R W' :=
 ⟨⟨h.f.bid.only ho (by omega),hb,h.f.only.trans' ho (fun i hi e=>by have:=h.f.new;have e' :i=R+1:=e;omega),h.f.new⟩,h.loc.only ho (by omega)⟩
abbrev RmC(R E G:Nat)(V:World)(c d p q:Array Value):Array Bool→World→Prop:=Fl4 (fun Y=>Blk Y E tBox p∧Blk Y G tBox q∧Blk Y (R+2) tShs d∧Only (fun k=>k=R∨k=R+1) V Y) (fun Y=>Blk Y R tBid #[.int .i64 0,.string ⟨#[]⟩,.slice none 0 0,.string ⟨#[]⟩,.slice none 0 0]) (fun Y=>Blk Y R tBid c) (fun Y=>Blk Y (R+1) tShs #[.slice none 0 0,.slice none 0 0]) (fun Y=>Blk Y (R+1) tShs d) 5 6
set_option maxRecDepth 100000 in
set_option maxHeartbeats 4000000 in
theorem rmake_any16(bidder:Int)(_hbd:In bidder)(seed:ByteArray)(hs:seed.size≤100000)(need off:Int)(es:List En)(rs:List Rb)(hin:∀e∈es,EnIn e)(hrn:∀r∈rs,RbIn r)(hql:(textG (qLines es)).length≤100000)(hqq:(qualL es).length≤100000)(hpl:(pricL es rs).length≤100000)(hnm:∀e∈es,∀v∈e.values,v.name.size≤4000000000)(hln:es.length≤1000000000)(v u:Value)(w:World)(h:EnSl w v es)(hrb:RbSl w u rs):Calls Tryz.prog 28 #[.int .i64 bidder,.string seed,.int .i64 need,.int .i64 off,v,u] w (MkdE (mde bidder seed.data.toList need off es rs) w):=by
 obtain⟨R,eR⟩:∃R,R=w.heap.size:=⟨_,rfl⟩
 obtain⟨X,eX⟩:∃X,X=((w.alloc (.cells #[.int .i64 0,.string ⟨#[]⟩,.slice none 0 0,.string ⟨#[]⟩,.slice none 0 0] tBid)).alloc (.cells #[.slice none 0 0,.slice none 0 0] tShs)).alloc (.cells #[.slice none 0 0,.slice none 0 0] tShs):=⟨_,rfl⟩
 have hF:MkF w R X∧Blk X (R+2) tShs #[.slice none 0 0,.slice none 0 0]:=by
  rw[eX,eR]
  have h2:=Blk.new (w.alloc (.cells #[.int .i64 0,.string ⟨#[]⟩,.slice none 0 0,.string ⟨#[]⟩,.slice none 0 0] tBid)) tShs #[.slice none 0 0,.slice none 0 0]
  have h3:=Blk.new ((w.alloc (.cells #[.int .i64 0,.string ⟨#[]⟩,.slice none 0 0,.string ⟨#[]⟩,.slice none 0 0] tBid)).alloc (.cells #[.slice none 0 0,.slice none 0 0] tShs)) tShs #[.slice none 0 0,.slice none 0 0]
  rw[World.size_alloc] at h2 h3
  rw[World.size_alloc] at h3
  exact⟨⟨((Blk.new w _ _).alloc _).alloc _,h2.alloc _,(((Only.refl _ _).alloc _).alloc _).alloc _,Nat.le_refl _⟩,h3⟩
 have HF:=Lib.hid hF.1
 have HL:=Lib.hid hF.2
 have HEN:=Lib.hid h
 have HRB:=Lib.hid hrb
 have EX:=Lib.hid eX
 have ER:=Lib.hid eR
 have HIN:=Lib.hid hin
 have HRN:=Lib.hid hrn
 have HQL:=Lib.hid hql
 have HQQ:=Lib.hid hqq
 have HPL:=Lib.hid hpl
 clear hF h hrb hin hrn hql hqq hpl
 have er1:R+1=w.heap.size+1:=by rw[eR]
 have ER1:=Lib.hid er1
 have er2:R+2=w.heap.size+2:=by rw[eR]
 have ER2:=Lib.hid er2
 clear eX eR er1 er2
 have HD:=Lib.hid (show MkH w R X.drew from⟨HF.out.none_ ((Only.refl NoneOf X).drew),Blk.drew HL.out⟩)
 go_enter Tryz.func28,Tryz.ntmps28
 go_upto_region 2 with(fail)
 rw[←EX.out]
 rw[←ER2.out]
 rw[←ER1.out]
 rw[←ER.out]
 by_cases c1:need<1
 ·have d1:decide (need<1)=true:=decide_eq_true c1
  go_upto_region 3 with(fail)
  refine wp_region_flag (fun _ Y=>MkH w R Y) (by kernel_rfl) (by kernel_rfl) (by kernel_rfl) (by kernel_rfl) HD.out ?_
  refine wpFlag_op (.agg #[.int .i64 0,.string ⟨#[]⟩,.slice none 0 0,.string ⟨#[]⟩,.slice none 0 0]) (by rfl) ?_ ?_
  ·intro L Y _ _ hC
   simp[flagAt,go_sem,flagUpon]
   exact hC
  simp only[Act.put,List.setIfInBounds_toArray,List.set_cons_succ,List.set_cons_zero]
  refine wpFlag_op (.agg #[.slice none 0 0,.slice none 0 0]) (by rfl) ?_ ?_
  ·intro L Y _ _ hC
   exact flag_load rfl rfl hC.loc Tryz.underlying44 rfl (by kernel_rfl) hC
  simp only[Act.put,List.setIfInBounds_toArray,List.set_cons_succ,List.set_cons_zero]
  refine wpFlag_op undef (by rfl) ?_ ?_
  ·intro L Y _ _ hC
   exact flag_store rfl rfl rfl hC.f.bid rfl (by kernel_rfl) (by kernel_rfl) (fun Y' hb ho=>hC.put0 hb ho)
  simp only[Act.put]
  refine wpFlag_op undef (by rfl) ?_ ?_
  ·intro L Y _ _ hC
   exact flag_store rfl rfl rfl hC.f.shs rfl (by kernel_rfl) (by kernel_rfl) (fun Y' hb ho=>hC.put1 hb ho)
  simp only[Act.put]
  refine wpFlag_op (.int .i64 1) (by rfl) ?_ ?_
  ·intro L Y _ _ hC
   simp[flagAt,go_sem,flagUpon]
   exact hC
  simp only[Act.put,List.setIfInBounds_toArray,List.set_cons_succ,List.set_cons_zero]
  unfold wpFlag
  intro L Y _ hC
  go_wp2_with fail
  exact bodyPost_ret (read_mk rfl rfl rfl rfl hC.f.bid hC.f.shs) rfl (mkd_err (by unfold mde;rw[if_pos (.inl c1)]) hC.f.only)
 have d1:decide (need<1)=false:=decide_eq_false c1
 by_cases c2:off<need
 ·have d2:decide (off<need)=true:=decide_eq_true c2
  go_upto_region 3 with(fail)
  refine wp_region_flag (fun _ Y=>MkH w R Y) (by kernel_rfl) (by kernel_rfl) (by kernel_rfl) (by kernel_rfl) HD.out ?_
  refine wpFlag_op (.agg #[.int .i64 0,.string ⟨#[]⟩,.slice none 0 0,.string ⟨#[]⟩,.slice none 0 0]) (by rfl) ?_ ?_
  ·intro L Y _ _ hC
   simp[flagAt,go_sem,flagUpon]
   exact hC
  simp only[Act.put,List.setIfInBounds_toArray,List.set_cons_succ,List.set_cons_zero]
  refine wpFlag_op (.agg #[.slice none 0 0,.slice none 0 0]) (by rfl) ?_ ?_
  ·intro L Y _ _ hC
   exact flag_load rfl rfl hC.loc Tryz.underlying44 rfl (by kernel_rfl) hC
  simp only[Act.put,List.setIfInBounds_toArray,List.set_cons_succ,List.set_cons_zero]
  refine wpFlag_op undef (by rfl) ?_ ?_
  ·intro L Y _ _ hC
   exact flag_store rfl rfl rfl hC.f.bid rfl (by kernel_rfl) (by kernel_rfl) (fun Y' hb ho=>hC.put0 hb ho)
  simp only[Act.put]
  refine wpFlag_op undef (by rfl) ?_ ?_
  ·intro L Y _ _ hC
   exact flag_store rfl rfl rfl hC.f.shs rfl (by kernel_rfl) (by kernel_rfl) (fun Y' hb ho=>hC.put1 hb ho)
  simp only[Act.put]
  refine wpFlag_op (.int .i64 1) (by rfl) ?_ ?_
  ·intro L Y _ _ hC
   simp[flagAt,go_sem,flagUpon]
   exact hC
  simp only[Act.put,List.setIfInBounds_toArray,List.set_cons_succ,List.set_cons_zero]
  unfold wpFlag
  intro L Y _ hC
  go_wp2_with fail
  exact bodyPost_ret (read_mk rfl rfl rfl rfl hC.f.bid hC.f.shs) rfl (mkd_err (by unfold mde;rw[if_pos (.inr (.inl c2))]) hC.f.only)
 have d2:decide (off<need)=false:=decide_eq_false c2
 by_cases c3:13<off
 ·have d3:decide (13<off)=true:=decide_eq_true c3
  go_upto_region 3 with(fail)
  refine wp_region_flag (fun _ Y=>MkH w R Y) (by kernel_rfl) (by kernel_rfl) (by kernel_rfl) (by kernel_rfl) HD.out ?_
  refine wpFlag_op (.agg #[.int .i64 0,.string ⟨#[]⟩,.slice none 0 0,.string ⟨#[]⟩,.slice none 0 0]) (by rfl) ?_ ?_
  ·intro L Y _ _ hC
   simp[flagAt,go_sem,flagUpon]
   exact hC
  simp only[Act.put,List.setIfInBounds_toArray,List.set_cons_succ,List.set_cons_zero]
  refine wpFlag_op (.agg #[.slice none 0 0,.slice none 0 0]) (by rfl) ?_ ?_
  ·intro L Y _ _ hC
   exact flag_load rfl rfl hC.loc Tryz.underlying44 rfl (by kernel_rfl) hC
  simp only[Act.put,List.setIfInBounds_toArray,List.set_cons_succ,List.set_cons_zero]
  refine wpFlag_op undef (by rfl) ?_ ?_
  ·intro L Y _ _ hC
   exact flag_store rfl rfl rfl hC.f.bid rfl (by kernel_rfl) (by kernel_rfl) (fun Y' hb ho=>hC.put0 hb ho)
  simp only[Act.put]
  refine wpFlag_op undef (by rfl) ?_ ?_
  ·intro L Y _ _ hC
   exact flag_store rfl rfl rfl hC.f.shs rfl (by kernel_rfl) (by kernel_rfl) (fun Y' hb ho=>hC.put1 hb ho)
  simp only[Act.put]
  refine wpFlag_op (.int .i64 1) (by rfl) ?_ ?_
  ·intro L Y _ _ hC
   simp[flagAt,go_sem,flagUpon]
   exact hC
  simp only[Act.put,List.setIfInBounds_toArray,List.set_cons_succ,List.set_cons_zero]
  unfold wpFlag
  intro L Y _ hC
  go_wp2_with fail
  exact bodyPost_ret (read_mk rfl rfl rfl rfl hC.f.bid hC.f.shs) rfl (mkd_err (by unfold mde;rw[if_pos (.inr (.inr c3))]) hC.f.only)
 have d3:decide (13<off)=false:=decide_eq_false c3
 go_wp2_with fail
 refine(rright16_any es hnm hln v X (HEN.out.only HF.out.only)).mono ?_
 rintro e w1 ⟨rfl,hw1⟩
 rw[hw1]
 clear hw1
 have hF1:=HF.out.none_ ((Only.refl NoneOf X).drew)
 have HF1:=Lib.hid HF.out
 have HFD:=Lib.hid hF1
 cases hr:rightL es with
 |false=>
  clear hF1
  go_upto_region 6 with(fail)
  refine wp_region_flag (fun _ Y=>MkH w R Y) (by kernel_rfl) (by kernel_rfl) (by kernel_rfl) (by kernel_rfl) HD.out ?_
  refine wpFlag_op (.agg #[.int .i64 0,.string ⟨#[]⟩,.slice none 0 0,.string ⟨#[]⟩,.slice none 0 0]) (by rfl) ?_ ?_
  ·intro L Y _ _ hC
   simp[flagAt,go_sem,flagUpon]
   exact hC
  simp only[Act.put,List.setIfInBounds_toArray,List.set_cons_succ,List.set_cons_zero]
  refine wpFlag_op (.agg #[.slice none 0 0,.slice none 0 0]) (by rfl) ?_ ?_
  ·intro L Y _ _ hC
   exact flag_load rfl rfl hC.loc Tryz.underlying44 rfl (by kernel_rfl) hC
  simp only[Act.put,List.setIfInBounds_toArray,List.set_cons_succ,List.set_cons_zero]
  refine wpFlag_op undef (by rfl) ?_ ?_
  ·intro L Y _ _ hC
   exact flag_store rfl rfl rfl hC.f.bid rfl (by kernel_rfl) (by kernel_rfl) (fun Y' hb ho=>hC.put0 hb ho)
  simp only[Act.put]
  refine wpFlag_op undef (by rfl) ?_ ?_
  ·intro L Y _ _ hC
   exact flag_store rfl rfl rfl hC.f.shs rfl (by kernel_rfl) (by kernel_rfl) (fun Y' hb ho=>hC.put1 hb ho)
  simp only[Act.put]
  refine wpFlag_op (.int .i64 11) (by rfl) ?_ ?_
  ·intro L Y _ _ hC
   simp[flagAt,go_sem,flagUpon]
   exact hC
  simp only[Act.put,List.setIfInBounds_toArray,List.set_cons_succ,List.set_cons_zero]
  unfold wpFlag
  intro L Y _ hC
  go_wp2_with fail
  exact bodyPost_ret (read_mk rfl rfl rfl rfl hC.f.bid hC.f.shs) rfl (mkd_err (by unfold mde;rw[if_neg (by omega),if_pos hr]) hC.f.only)
 |true=>
  clear hF1
  obtain⟨k,ek⟩:∃k:Nat,need=(k:Int):=⟨need.toNat,by omega⟩
  obtain⟨n,en⟩:∃n:Nat,off=(n:Int):=⟨off.toNat,by omega⟩
  subst ek en
  have hm:mde bidder seed.data.toList (k:Int) (n:Int) es rs=⟨0,mkBd bidder seed.data.toList k (qualL es) (pricL es rs),shL (cfs (seed.data.toList++[113]) k) n,shL (cfs (seed.data.toList++[112]) k) n⟩:=by
   unfold mde
   rw[if_neg (by omega),if_neg (by rw[hr];decide),Int.toNat_natCast,Int.toNat_natCast]
  have HM:=Lib.hid hm
  have hk1:1≤k:=by omega
  have hkn:k≤n:=by omega
  have hn13:n≤13:=by omega
  have m1:¬9223372036854775807<seed.size+1:=by omega
  have sq:(seed++⟨#[113]⟩:ByteArray).size≤1000000:=by rw[ByteArray.size_append];show seed.size+1≤_;omega
  have sp:(seed++⟨#[112]⟩:ByteArray).size≤1000000:=by rw[ByteArray.size_append];show seed.size+1≤_;omega
  have lq:(seed++⟨#[113]⟩:ByteArray).data.toList =seed.data.toList++[113]:=by rw[append_list]
  have lp:(seed++⟨#[112]⟩:ByteArray).data.toList =seed.data.toList++[112]:=by rw[append_list]
  have HSQ:=Lib.hid sq
  have HSP:=Lib.hid sp
  have HLQ:=Lib.hid lq
  have HLP:=Lib.hid lp
  clear sq sp lq lp hm d1 d2 d3 c1 c2 c3
  go_wp2_with fail
  refine(rquality16_any es HIN.out hnm hln (fun _=>by have:=HQL.out;omega) v X (HEN.out.only HF1.out.only)).mono ?_
  rintro e w2 ⟨qt,rfl,hqt,ho2⟩
  have hqs:qt.size≤1000000:=by rw[size_list,hqt];have:=HQQ.out;omega
  have HQT:=Lib.hid hqt
  have HF2:=Lib.hid (HF1.out.none_ ho2)
  have HL2:=Lib.hid (HL.out.only ho2 (fun e=>e))
  clear hqt ho2
  go_wp2_with fail
  refine(rbox_any _ qt HSQ.out hqs k n hk1 hkn hn13 w2).mono ?_
  rintro e w3 ⟨cq,aq,rfl,hcq,haq,ho3⟩
  rw[HLQ.out] at hcq haq⊢
  rw[HQT.out]
  obtain⟨A1,k1,rfl,_,_⟩:=own_form' hcq
  obtain⟨A2,k2,rfl,_,_⟩:=own_form' haq
  obtain⟨qb,eqb⟩:∃t,t=boxT (seed.data.toList++[113]) (qualL es):=⟨_,rfl⟩
  rw[←eqb]
  obtain⟨E,eE⟩:∃E,E=w3.heap.size:=⟨_,rfl⟩
  obtain⟨W4,eW4⟩:∃W4,W4=w3.alloc (.cells #[.string qb,.slice A1 k k1] tBox):=⟨_,rfl⟩
  have ho4:Only NoneOf w3 W4:=by rw[eW4];exact(Only.refl _ _).alloc _
  have HB4:=Lib.hid (show Blk W4 E tBox #[.string qb,.slice A1 k k1] by rw[eW4,eE];exact Blk.new w3 _ _)
  have HF4:=Lib.hid ((HF2.out.none_ ho3).none_ ho4)
  have HL4:=Lib.hid ((HL2.out.only ho3 (fun e=>e)).only ho4 (fun e=>e))
  have HCQ4:=Lib.hid (OwnOf.keep hcq ho4 (fun _ _ e=>e))
  have HAQ4:=Lib.hid (OwnOf.keep haq ho4 (fun _ _ e=>e))
  have EQB:=Lib.hid eqb
  have EE:=Lib.hid eE
  have EW4:=Lib.hid eW4
  have HO3:=Lib.hid ho3
  clear hcq haq eqb eE eW4 ho4 ho3
  go_wp2_with fail
  rw[←EW4.out]
  rw[←EE.out]
  refine(rprices16_any es rs HIN.out HRN.out (by have:=HPL.out;omega) v u W4 (HEN.out.only HF4.out.only) (HRB.out.only HF4.out.only)).mono ?_
  rintro e w5 ⟨pt,rfl,hpt,ho5⟩
  have hps:pt.size≤1000000:=by rw[size_list,hpt];have:=HPL.out;omega
  have HPT:=Lib.hid hpt
  have HO5:=Lib.hid ho5
  have HF5:=Lib.hid (HF4.out.none_ ho5)
  clear hpt ho5
  go_wp2_with fail
  refine(rbox_any _ pt HSP.out hps k n hk1 hkn hn13 w5).mono ?_
  rintro e w6 ⟨cp,ap,rfl,hcp,hap,ho6⟩
  rw[HLP.out] at hcp hap⊢
  rw[HPT.out]
  obtain⟨A3,k3,rfl,_,_⟩:=own_form' hcp
  obtain⟨A4,k4,rfl,_,_⟩:=own_form' hap
  obtain⟨pb,epb⟩:∃t,t=boxT (seed.data.toList++[112]) (pricL es rs):=⟨_,rfl⟩
  rw[←epb]
  obtain⟨W7,eW7⟩:∃W7,W7=w6.alloc (.cells #[.string pb,.slice A3 k k3] tBox):=⟨_,rfl⟩
  have ho7:Only NoneOf w6 W7:=by rw[eW7];exact(Only.refl _ _).alloc _
  have h57:Only NoneOf W4 W7:=(HO5.out.trans ho6).trans ho7
  have hL7:=HL4.out.only h57 (fun e=>e)
  have hB7:=HB4.out.only h57 (fun e=>e)
  have HX7:=Lib.hid (Blk.new w6 tBox #[.string pb,.slice A3 k k3])
  have l0:=hL7.cell 0
  have l1:=hL7.cell 1
  have m0:=hL7.frozen 0
  have m1' :=hL7.frozen 1
  obtain⟨V,eV⟩:∃V,V=((W7.setCell ⟨R+2,0,none⟩ (.slice A2 n k2)).setCell ⟨R+2,1,none⟩ (.slice A4 n k4)):=⟨_,rfl⟩
  have hV:Only (·=R+2) W7 V:=by
   rw[eV]
   have h1:Only (·=R+2) W7 (W7.setCell ⟨R+2,0,none⟩ (.slice A2 n k2)):=(Only.refl (·=R+2) W7).setCell (p:=⟨R+2,0,none⟩) (.inl rfl) _
   exact h1.setCell (p:=⟨R+2,1,none⟩) (.inl rfl) _
  have hVD:Only (·=R+2) W7 V.drew:=hV.drew
  have hLV:Blk V.drew (R+2) tShs #[.slice A2 n k2,.slice A4 n k4]:=by
   rw[eV]
   exact Blk.drew ((hL7.set_ 0 _).set_ 1 _)
  have hlow:R+2<w2.heap.size:=HL2.out.lt
  have hlow5:R+2<w5.heap.size:=Nat.lt_of_lt_of_le HL4.out.lt HO5.out.size
  have hE4:R+2<E:=by
   have h1:w2.heap.size≤E:=by rw[EE.out];exact HO3.out.size
   omega
  have hF7:MkF w R V.drew:=by
   have h0:=HF4.out.none_ h57
   exact⟨h0.bid.only hVD (by omega),h0.shs.only hVD (by omega),h0.only.trans' hVD (fun i hi e=>by have:=h0.new;have e' :i=R+2:=e;omega),h0.new⟩
  have hE7:=hB7.only hVD (by omega)
  have hX7:Blk V.drew w6.heap.size tBox #[.string pb,.slice A3 k k3]:=by
   refine Blk.only (w:=W7) (by rw[eW7];exact HX7.out) hVD (fun e=> ?_)
   have e' :w6.heap.size=R+2:=e
   have:=ho6.size
   omega
  have HCQ7:=Lib.hid (OwnOf.keep (OwnOf.keep HCQ4.out h57 (fun _ _ e=>e)) hVD (fun b hb e=>by have h1:=(own_ge HCQ4.out hb).1;have e' :b=R+2:=e;omega))
  have HAQ7:=Lib.hid (OwnOf.keep (OwnOf.keep HAQ4.out h57 (fun _ _ e=>e)) hVD (fun b hb e=>by have h1:=(own_ge HAQ4.out hb).1;have e' :b=R+2:=e;omega))
  have HCP7:=Lib.hid (OwnOf.keep (OwnOf.keep hcp ho7 (fun _ _ e=>e)) hVD (fun b hb e=>by have h1:=(own_ge hcp hb).1;have e' :b=R+2:=e;omega))
  have HAP7:=Lib.hid (OwnOf.keep (OwnOf.keep hap ho7 (fun _ _ e=>e)) hVD (fun b hb e=>by have h1:=(own_ge hap hb).1;have e' :b=R+2:=e;omega))
  have hfin:∀Z,Only (fun k=>k=R∨k=R+1) V.drew Z→MkdE ⟨0,mkBd bidder seed.data.toList k (qualL es) (pricL es rs),shL (cfs (seed.data.toList++[113]) k) n,shL (cfs (seed.data.toList++[112]) k) n⟩ w (.returned (.tuple #[.agg #[.int .i64 bidder,.string qb,.slice A1 k k1,.string pb,.slice A3 k k3],.agg #[.slice A2 n k2,.slice A4 n k4],.int .i64 0])) Z:=by
   intro Z g3
   refine⟨_,_,_,rfl,⟨.slice A1 k k1,.slice A3 k k3,by rw[EQB.out,epb];rfl,?_,?_⟩,?_,?_,?_⟩
   ·have e:(mkBd bidder seed.data.toList k (qualL es) (pricL es rs)).qc.length =k:=by show(cmL _).length =k;rw[cmL_len,cfs_len]
    rw[e]
    exact own_base (OwnOf.keep HCQ7.out g3 (fun b hb hs=>by have h1:=(own_ge HCQ7.out hb).1;have hs' :b=R∨b=R+1:=hs;omega)) HF2.out.only.size
   ·have e:(mkBd bidder seed.data.toList k (qualL es) (pricL es rs)).pc.length =k:=by show(cmL _).length =k;rw[cmL_len,cfs_len]
    rw[e]
    exact own_base (OwnOf.keep HCP7.out g3 (fun b hb hs=>by have h1:=(own_ge HCP7.out hb).1;have hs' :b=R∨b=R+1:=hs;omega)) HF5.out.only.size
   ·show OwnOf tSh shC 2 _ _ _ (shL (cfs (seed.data.toList++[113]) k) n).length _
    rw[shL_len]
    exact own_base (OwnOf.keep HAQ7.out g3 (fun b hb hs=>by have h1:=(own_ge HAQ7.out hb).1;have hs' :b=R∨b=R+1:=hs;omega)) HF2.out.only.size
   ·show OwnOf tSh shC 2 _ _ _ (shL (cfs (seed.data.toList++[112]) k) n).length _
    rw[shL_len]
    exact own_base (OwnOf.keep HAP7.out g3 (fun b hb hs=>by have h1:=(own_ge HAP7.out hb).1;have hs' :b=R∨b=R+1:=hs;omega)) HF5.out.only.size
   ·exact hF7.only.trans' g3 (fun i hi e=>by have:=hF7.new;have e' :i=R∨i=R+1:=e;omega)
  have HFIN:=Lib.hid hfin
  have EW7:=Lib.hid eW7
  have EV:=Lib.hid eV
  have EPB:=Lib.hid epb
  have hC0:RmC R E w6.heap.size V.drew #[.int .i64 bidder,.string qb,.slice A1 k k1,.string pb,.slice A3 k k3] #[.slice A2 n k2,.slice A4 n k4] #[.string qb,.slice A1 k k1] #[.string pb,.slice A3 k k3] (Array.replicate 8 false) V.drew:=Fl4.start 8 ⟨hE7,hX7,hLV,Only.refl _ _⟩ hF7.bid hF7.shs
  have HC0:=Lib.hid hC0
  have hord:R+2<E∧R+2<w6.heap.size:=⟨hE4,by have:=ho6.size;omega⟩
  clear hcp hap ho6 ho7 h57 hF7 hB7 hlow hlow5 hfin eW7 epb eV hV hVD hLV hE4 hE7 hX7 hL7 hC0
  go_upto_region 9 with(fail)
  rw[←EW7.out]
  go_upto_region 11 with(fail)
  rw[←EV.out]
  refine wp_region_flag (RmC R E w6.heap.size V.drew #[.int .i64 bidder,.string qb,.slice A1 k k1,.string pb,.slice A3 k k3] #[.slice A2 n k2,.slice A4 n k4] #[.string qb,.slice A1 k k1] #[.string pb,.slice A3 k k3]) (by kernel_rfl) (by kernel_rfl) (by kernel_rfl) (by kernel_rfl) HC0.out ?_
  refine wpFlag_op (.int .i64 bidder) (by rfl) ?_ ?_
  ·intro L Y _ _ hC
   simp[flagAt,go_sem,flagUpon]
   exact hC.same (by decide) (by decide)
  simp only[Act.put,List.setIfInBounds_toArray,List.set_cons_succ,List.set_cons_zero]
  refine wpFlag_op (.agg #[.string qb,.slice A1 k k1]) (by rfl) ?_ ?_
  ·intro L Y _ _ hC
   exact flag_load rfl rfl hC.1.1 Tryz.underlying40 rfl (by kernel_rfl) (hC.same (by decide) (by decide))
  simp only[Act.put,List.setIfInBounds_toArray,List.set_cons_succ,List.set_cons_zero]
  refine wpFlag_op (.agg #[.string pb,.slice A3 k k3]) (by rfl) ?_ ?_
  ·intro L Y _ _ hC
   exact flag_load rfl rfl hC.1.2.1 Tryz.underlying40 rfl (by kernel_rfl) (hC.same (by decide) (by decide))
  simp only[Act.put,List.setIfInBounds_toArray,List.set_cons_succ,List.set_cons_zero]
  refine wpFlag_op (.agg #[.int .i64 bidder,.string qb,.slice A1 k k1,.string pb,.slice A3 k k3]) (by rfl) ?_ ?_
  ·intro L Y _ _ hC
   simp[flagAt,go_sem,flagUpon]
   exact hC.same (by decide) (by decide)
  simp only[Act.put,List.setIfInBounds_toArray,List.set_cons_succ,List.set_cons_zero]
  refine wpFlag_op (.agg #[.slice A2 n k2,.slice A4 n k4]) (by rfl) ?_ ?_
  ·intro L Y _ _ hC
   exact flag_load rfl rfl hC.1.2.2.1 Tryz.underlying44 rfl (by kernel_rfl) (hC.same (by decide) (by decide))
  simp only[Act.put,List.setIfInBounds_toArray,List.set_cons_succ,List.set_cons_zero]
  refine wpFlag_op undef (by rfl) ?_ ?_
  ·intro L Y hdn hr hC
   exact flag_store rfl rfl rfl (hC.a1 (ready_undone hr)) rfl (by kernel_rfl) (by kernel_rfl) (fun Y' hb ho=>Fl4.put1 hC (by decide) (ready_lt hr) (fun h=>⟨h.1.only ho (by omega),h.2.1.only ho (by omega),h.2.2.1.only ho (by omega),h.2.2.2.trans (ho.mono (fun _ _ e=> .inl e))⟩) hb (fun h=>h.only ho (by omega)) (fun h=>h.only ho (by omega)))
  simp only[Act.put]
  refine wpFlag_op undef (by rfl) ?_ ?_
  ·intro L Y hdn hr hC
   exact flag_store rfl rfl rfl (hC.a2 (ready_undone hr)) rfl (by kernel_rfl) (by kernel_rfl) (fun Y' hb ho=>Fl4.put2 hC (by decide) (ready_lt hr) (fun h=>⟨h.1.only ho (by omega),h.2.1.only ho (by omega),h.2.2.1.only ho (by omega),h.2.2.2.trans (ho.mono (fun _ _ e=> .inr e))⟩) (fun h=>h.only ho (by omega)) (fun h=>h.only ho (by omega)) hb)
  simp only[Act.put]
  refine wpFlag_op (.int .i64 0) (by rfl) ?_ ?_
  ·intro L Y _ _ hC
   simp[flagAt,go_sem,flagUpon]
   exact hC.same (by decide) (by decide)
  simp only[Act.put,List.setIfInBounds_toArray,List.set_cons_succ,List.set_cons_zero]
  unfold wpFlag
  intro L Y hall hC
  obtain⟨h1,h2,h3⟩:=hC.all hall (by decide) (by decide)
  go_wp2_with fail
  exact bodyPost_ret (read_mk rfl rfl rfl rfl h2 h3) rfl (by rw[HM.out];exact HFIN.out _ h1.2.2.2)
end Go.Proofs.YtpdlbmieciabmaaGreatDoor
namespace Go.Proofs.YtpdlbmieciabmaaGreatDoor
open Go.RowKit Go.Shelf
def BdIn(w:World)(v:Value)(b:Bd):Prop:=∃qv pv,v= .agg #[.int .i64 b.bidder,.string b.qt,qv,.string b.pt,pv]∧SlOf inC 1 w qv b.qc∧SlOf inC 1 w pv b.pc
theorem BdIn.only{w w' :World}{v:Value}{b:Bd}(h:BdIn w v b)(ho:Only NoneOf w w'):BdIn w' v b:=by
 obtain⟨qv,pv,e,h1,h2⟩:=h
 exact⟨qv,pv,e,h1.only ho,h2.only ho⟩
set_option maxRecDepth 100000 in
set_option maxHeartbeats 1000000 in
theorem sbid_any(b:Bd)(hql:b.qc.length≤1000000000)(hpl:b.pc.length≤1000000000)(v u:Value)(w:World)(h:BdIn w v b)(k:BdIn w u b):Calls Tryz.prog 22 #[v,u] w fun e w' =>e= .returned (.bool true)∧Only NoneOf w w' :=by
 obtain⟨qv,pv,rfl,h1,h2⟩:=h
 obtain⟨rv,sv,rfl,h3,h4⟩:=k
 obtain⟨n,qt,qc,pt,pc⟩:=b
 obtain⟨A,eA⟩:∃A,A=w.heap.size:=⟨_,rfl⟩
 obtain⟨B,eB⟩:∃B,B=w.heap.size+1:=⟨_,rfl⟩
 obtain⟨X,eX⟩:∃X,X=(w.alloc (.cells #[.int .i64 n,.string qt,qv,.string pt,pv] tBid)).alloc (.cells #[.int .i64 n,.string qt,rv,.string pt,sv] tBid):=⟨_,rfl⟩
 have hX:Only NoneOf w X:=by rw[eX];exact((Only.refl _ _).alloc _).alloc _
 have hA:Blk X A tBid #[.int .i64 n,.string qt,qv,.string pt,pv]:=by rw[eX,eA];exact(Blk.new w _ _).alloc _
 have hB:Blk X B tBid #[.int .i64 n,.string qt,rv,.string pt,sv]:=by
  have h:=Blk.new (w.alloc (.cells #[.int .i64 n,.string qt,qv,.string pt,pv] tBid)) tBid #[.int .i64 n,.string qt,rv,.string pt,sv]
  rw[World.size_alloc,←eB,←eX] at h
  exact h
 have a2:=hA.cell 2
 have b2:=hB.cell 2
 have HA:=Lib.hid hA
 have HB:=Lib.hid hB
 have HX:=Lib.hid hX
 have H1:=Lib.hid (h1.only hX)
 have H2:=Lib.hid (h2.only hX)
 have H3:=Lib.hid (h3.only hX)
 have H4:=Lib.hid (h4.only hX)
 have EX:=Lib.hid eX
 have EA:=Lib.hid eA
 have EB:=Lib.hid eB
 rw[eX,eA] at a2
 rw[eX,eB] at b2
 clear hA hB hX h1 h2 h3 h4 eX eA eB
 go_enter Tryz.func22,Tryz.ntmps22
 go_wp2_with fail
 rw[←EX.out]
 rw[←EB.out,←EA.out]
 refine(ints_same qc hql qv rv X H1.out H3.out).mono ?_
 rintro e w1 ⟨rfl,ho1⟩
 have HO1:=Lib.hid ho1
 have a4:=ho1.cell_some (HA.out.cell 4) (fun e=>e)
 have b4:=ho1.cell_some (HB.out.cell 4) (fun e=>e)
 clear ho1 a2 b2
 go_wp2_with fail
 refine(ints_same pc hpl pv sv w1 (H2.out.only HO1.out) (H4.out.only HO1.out)).mono ?_
 rintro e w2 ⟨rfl,ho2⟩
 have HO2:=Lib.hid (HO1.out.trans ho2)
 have a0:=HO2.out.cell_some (HA.out.cell 0) (fun e=>e)
 have a1:=HO2.out.cell_some (HA.out.cell 1) (fun e=>e)
 have a3:=HO2.out.cell_some (HA.out.cell 3) (fun e=>e)
 have b0:=HO2.out.cell_some (HB.out.cell 0) (fun e=>e)
 have b1:=HO2.out.cell_some (HB.out.cell 1) (fun e=>e)
 have b3:=HO2.out.cell_some (HB.out.cell 3) (fun e=>e)
 clear ho2 a4 b4
 go_wp2_with fail
 go_ret
 exact⟨rfl,HX.out.trans HO2.out⟩
end Go.Proofs.YtpdlbmieciabmaaGreatDoor
