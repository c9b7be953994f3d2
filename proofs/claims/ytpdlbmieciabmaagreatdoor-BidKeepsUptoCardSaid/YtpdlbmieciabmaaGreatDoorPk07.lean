/-What is proved here:several parts. a number of two words divided by one word. Condition:the high word lies below the divisor. · the field's sums and products. Conditions:the modulus is positive. · a text hashed into the field. Conditions:the modulus is positive;the text is short. · the reference's sums and products in the field,texts hashed into it. Conditions:the modulus is positive;texts are short. -/
import Derived.Test.YtpdlbmieciabmaaGreatDoorPk03
import Derived.Test.YtpdlbmieciabmaaGreatDoorPk05
import Derived.Test.YtpdlbmieciabmaaGreatDoorPk06
import Derived.Deep.DeepCutAuto
import Derived.Deep.CutBlock
import Derived.Deep.RegionHeld3
import Derived.Deep.OwnRows
import Derived.Deep.RegionLaw
namespace Go.Proofs.YtpdlbmieciabmaaGreatDoor
open Go.RowKit Go.Shelf
set_option maxRecDepth 100000 in
set_option maxHeartbeats 2000000 in
theorem div64_any(hi lo y:Nat)(hh:hi<y)(hl:lo<18446744073709551616)(hy:y<18446744073709551616)(w:World):
  Calls Tryz.prog 168 #[.int .u64 hi,.int .u64 lo,.int .u64 y] w fun e w' =>e= .returned (.tuple #[.int .u64 (((hi*18446744073709551616+lo)/y:Nat):Int),.int .u64 (((hi*18446744073709551616+lo)%y:Nat):Int)])∧∃k,w' =w.drewN k:=by
 have y0:¬(y:Int)=0:=by omega
 have yh:¬(y:Int)≤(hi:Int):=by omega
 have hlq:(lo:Int)/(y:Int)=((lo/y:Nat):Int):=by simp
 have hlw:IntKind.u64.wrap ((lo/y:Nat):Int)=((lo/y:Nat):Int):=Mul64.wrapN _ (Nat.lt_of_le_of_lt (Nat.div_le_self _ _) hl)
 have HLQ:=Lib.hid hlq
 have HLW:=Lib.hid hlw
 clear hlq hlw
 go_enter Tryz.func168,Tryz.ntmps168
 go_wp2_with fail
 ·rename_i h0 _ _
  obtain rfl:hi=0:=by simpa using h0
  go_region
  go_wp2_with fail
  go_ret2
  refine⟨?_,1,rfl⟩
  rw[Nat.zero_mul,Nat.zero_add]
  show Ending.returned (.tuple #[.int .u64 (IntKind.u64.wrap ((lo:Int)/(y:Int))),.int .u64 ((lo:Int)%(y:Int))])=_
  rw[HLQ.out,HLW.out,Int.natCast_emod]
 ·clear HLQ HLW
  refine(Tryz.bits_LeadingZeros64 (y:Int) w (by omega) (by omega)).mono ?_
  rintro e w' ⟨rfl,hw⟩
  rw[hw]
  obtain⟨s,es,hs,hs2,hs3⟩:=norm_of y (by omega) hy
  obtain⟨c1,c2,c3,c4,c5⟩:=shifted hh hl hs hs2
  rw[Int.toNat_natCast,es]
  obtain⟨Y,eY⟩:∃Y,Y=y*2^s:=⟨_,rfl⟩
  obtain⟨H,eH⟩:∃H,H=hi*2^s:=⟨_,rfl⟩
  obtain⟨Lh,eLh⟩:∃Lh,Lh=lo/2^(64-s):=⟨_,rfl⟩
  obtain⟨L,eL⟩:∃L,L=lo*2^s%18446744073709551616:=⟨_,rfl⟩
  have p1:(y:Int)*2^s=(Y:Int):=by rw[eY];simp
  have p2:(hi:Int)*2^s=(H:Int):=by rw[eH];simp
  have p3:(lo:Int)/2^(64-s)=(Lh:Int):=by rw[eLh];simp
  have p4:(lo:Int)*2^s=((lo*2^s:Nat):Int):=by simp
  have q4:IntKind.u64.wrap ((lo:Int)*2^s)=(L:Int):=by rw[p4,Mul64.wrapM,eL]
  have hL:L<18446744073709551616:=by rw[eL];exact Nat.mod_lt _ (by omega)
  have hsw:IntKind.u64.wrap (s:Int)=(s:Int):=Mul64.wrapN _ (by omega)
  rw[←eY] at hs2 hs3 c5
  rw[←eH,←eLh] at c3 c4 c5
  rw[←eH] at c1
  rw[←eLh] at c2
  rw[←eL] at c4
  have e1:IntKind.u64.wrap ((y:Int)*2^s)=(Y:Int):=by rw[p1];exact Mul64.wrapN _ hs2
  have e2:IntKind.u64.wrap ((hi:Int)*2^s)=(H:Int):=by rw[p2];exact Mul64.wrapN _ c1
  have HC4:=Lib.hid c4
  have HEY:=Lib.hid eY
  have HE1:=Lib.hid e1
  have HE2:=Lib.hid e2
  have HP3:=Lib.hid p3
  have HQ4:=Lib.hid q4
  clear c4 eY eH eLh eL p1 p2 p4 e1 e2 p3 q4 es
  obtain⟨U,eU⟩:∃U,U=H+Lh:=⟨_,rfl⟩
  rw[←eU] at c3 HC4 c5
  obtain⟨A,eA⟩:∃A,A=Y/4294967296:=⟨_,rfl⟩
  obtain⟨B,eB⟩:∃B,B=Y%4294967296:=⟨_,rfl⟩
  obtain⟨D1,eD1⟩:∃D1,D1=L/4294967296:=⟨_,rfl⟩
  obtain⟨D0,eD0⟩:∃D0,D0=L%4294967296:=⟨_,rfl⟩
  have hYA:A*4294967296+B=Y:=by omega
  have hLD:D1*4294967296+D0=L:=by rw[eD1,eD0];exact Nat.div_add_mod' _ _
  have hA:2147483648≤A:=by omega
  have hB:B<4294967296:=by omega
  have hA2:A<4294967296:=by omega
  have hD1:D1<4294967296:=by omega
  have hD0:D0<4294967296:=by omega
  have hU:U<A*4294967296+B:=by omega
  have T0:=Trial.start hA hB hD1 hU
  obtain⟨q,eq⟩:∃q,q=U/A:=⟨_,rfl⟩
  obtain⟨r,er⟩:∃r,r=U%A:=⟨_,rfl⟩
  rw[←eq,←er] at T0
  have hqA:q*A≤U:=by have:=T0.sum;omega
  have hr:r<4294967296:=by have:=Nat.mod_lt U (show 0<A by omega);omega
  obtain⟨P,eP⟩:∃P,P=q*A:=⟨_,rfl⟩
  have hsum:=T0.sum
  rw[←eP] at hsum hqA
  have e3:(Y:Int)/4294967296=(A:Int):=by rw[eA];simp
  have e4:bits .and .u64 (Y:Int) 4294967295=(B:Int):=by rw[Mul64.maskN Y hs2,eB]
  have e5:bits .or .u64 (H:Int) (Lh:Int)=(U:Int):=by rw[bits_or_u64_nat H Lh c1 c2,c3]
  have e6:(L:Int)/4294967296=(D1:Int):=by rw[eD1];simp
  have e7:bits .and .u64 (L:Int) 4294967295=(D0:Int):=by rw[Mul64.maskN L hL,eD0]
  have e8:IntKind.u64.wrap ((U:Int)/(A:Int))=(q:Int):=by rw[←Int.natCast_ediv,←eq];exact Mul64.wrapN _ (by have:=T0.most;omega)
  have e9:IntKind.u64.wrap ((q:Int)*(A:Int))=(P:Int):=by rw[Mul64.mulN,←eP];exact Mul64.wrapN _ (by omega)
  have e10:IntKind.u64.wrap ((U:Int)-(P:Int))=(r:Int):=by rw[show(U:Int)-(P:Int)=(r:Int) by omega];exact Mul64.wrapN _ (by omega)
  have e11:¬(A:Int)=0:=by omega
  have HT0:=Lib.hid T0
  have HYA:=Lib.hid hYA
  have HLD:=Lib.hid hLD
  have HU:=Lib.hid hU
  have e1:=HE1.out
  have e2:=HE2.out
  have p3:=HP3.out
  have q4:=HQ4.out
  clear T0 hYA hLD c3 c5 c1 c2 hL eU eA eB eD1 eD0 eq er eP hsum hqA hU hs2 hs3 HE1 HE2 HP3 HQ4
  obtain⟨T,eT⟩:∃T,T=(U*4294967296+D1)/(A*4294967296+B):=⟨_,rfl⟩
  have ET:=Lib.hid eT
  clear eT
  go_upto_block 0 with fail
  go_cut [15] (fun v15 wx=>v15= .int .u64 (T:Int)∧wx=w)
  case first=>
   go_wp2_with fail
   go_loop [15,16] (fun v15 v16=>∃q r:Nat,v15= .int .u64 q∧v16= .int .u64 r∧Trial A B D1 U q r∧r<4294967296) (fun _ v=>(4294967296-intOf v).toNat)
   case atStart=>exact⟨q,r,rfl,rfl,HT0.out,by omega⟩
   case round=>
    obtain⟨q,r,rfl,rfl,hT,hr⟩:=hrel
    obtain⟨QB,eQB⟩:∃QB,QB=q*B:=⟨_,rfl⟩
    obtain⟨R,eR⟩:∃R,R=4294967296*r:=⟨_,rfl⟩
    obtain⟨RD,eRD⟩:∃RD,RD=R+D1:=⟨_,rfl⟩
    obtain⟨r2,er2⟩:∃r2,r2=r+A:=⟨_,rfl⟩
    have hAA:A<4294967296:=hA2
    have g1:IntKind.u64.wrap (4294967296*(r:Int))=(R:Int):=by rw[show(4294967296*(r:Int))=(R:Int) by omega];exact Mul64.wrapN _ (by omega)
    have g2:IntKind.u64.wrap ((R:Int)+(D1:Int))=(RD:Int):=by rw[show((R:Int)+(D1:Int))=(RD:Int) by omega];exact Mul64.wrapN _ (by omega)
    have g3:IntKind.u64.wrap ((r:Int)+(A:Int))=(r2:Int):=by rw[show((r:Int)+(A:Int))=(r2:Int) by omega];exact Mul64.wrapN _ (by omega)
    obtain⟨bq,hbq⟩:∃b,b=decide ((4294967296:Int)≤(q:Int)):=⟨_,rfl⟩
    have hd:=hbq.symm
    have HBQ:=Lib.hid hbq
    obtain⟨br,hbr⟩:∃b,b=decide ((4294967296:Int)≤(r2:Int)):=⟨_,rfl⟩
    have hd2:=hbr.symm
    have HBR:=Lib.hid hbr
    clear hbr
    have HQB:=Lib.hid eQB
    have HRD:=Lib.hid eRD
    have HR:=Lib.hid eR
    have HR2:=Lib.hid er2
    have HT:=Lib.hid hT
    clear hbq eQB eR eRD er2 hT
    iterate 14 (first|go_values|go_skip|go_guarded|go_step|go_upon|go_back)
    cases bq
    ·have hq:q<4294967296:=by have:=of_decide_eq_false HBQ.out.symm;omega
     have hQB:QB<18446744073709551616:=by
      have:=Nat.mul_le_mul (show q≤4294967295 by omega) (show B≤4294967295 by omega)
      rw[HQB.out];omega
     have g5:IntKind.u64.wrap ((q:Int)*(B:Int))=(QB:Int):=by rw[Mul64.mulN,←HQB.out];exact Mul64.wrapN _ hQB
     by_cases hlt:RD<QB
     ·have h2:=HT.out.less hD1 (by have:=HU.out;omega) (.inr (by rw[←HQB.out,←HR.out,←HRD.out];exact hlt))
      obtain⟨j,ej⟩:∃j,j=q-1:=⟨_,rfl⟩
      rw[←ej,←HR2.out] at h2
      have g4:IntKind.u64.wrap ((q:Int)-1)=(j:Int):=by rw[show((q:Int)-1)=(j:Int) by omega];exact Mul64.wrapN _ (by omega)
      have hlti:(RD:Int)<(QB:Int):=by omega
      have H2:=Lib.hid h2.2
      have HJ:=Lib.hid ej
      have HLT:=Lib.hid hlt
      clear h2 ej hlt
      go_wp2_with fail
      ·go_meet
       have hr2:4294967296≤r2:=by
        have h5:=HBR.out
        rw[‹br=true›] at h5
        have:=of_decide_eq_true h5.symm
        omega
       exact⟨by rw[ET.out,←H2.out.out (by omega) hB (by have:=HJ.out;have:=HT.out.most;omega) hr2],rfl⟩
      ·have hr2:r2<4294967296:=by
        have h5:=HBR.out
        rw[‹br=false›] at h5
        have:=of_decide_eq_false h5.symm
        omega
       exact⟨⟨j,r2,rfl,rfl,H2.out,hr2⟩,by have:=HR2.out;simp only[intOf];omega⟩
     ·have hlti:¬(RD:Int)<(QB:Int):=by omega
      have HLT:=Lib.hid hlt
      clear hlt
      go_wp2_with fail
      go_meet
      exact⟨by rw[ET.out,←HT.out.right (by omega) (by rw[←HQB.out,←HR.out,←HRD.out];exact Nat.le_of_not_lt HLT.out)],rfl⟩
    ·have hq:4294967296≤q:=by have:=of_decide_eq_true HBQ.out.symm;omega
     have h2:=HT.out.less hD1 (by have:=HU.out;omega) (.inl hq)
     obtain⟨j,ej⟩:∃j,j=q-1:=⟨_,rfl⟩
     rw[←ej,←HR2.out] at h2
     have g4:IntKind.u64.wrap ((q:Int)-1)=(j:Int):=by rw[show((q:Int)-1)=(j:Int) by omega];exact Mul64.wrapN _ (by have:=h2.2.most;omega)
     have H2:=Lib.hid h2.2
     have HJ:=Lib.hid ej
     have HQ:=Lib.hid hq
     clear h2 ej hq
     go_wp2_with fail
     ·go_meet
      have hr2:4294967296≤r2:=by
       have h5:=HBR.out
       rw[‹br=true›] at h5
       have:=of_decide_eq_true h5.symm
       omega
      exact⟨by rw[ET.out,←H2.out.out (by omega) hB (by have:=HJ.out;have:=HT.out.most;omega) hr2],rfl⟩
     ·have hr2:r2<4294967296:=by
       have h5:=HBR.out
       rw[‹br=false›] at h5
       have:=of_decide_eq_false h5.symm
       omega
      exact⟨⟨j,r2,rfl,rfl,H2.out,hr2⟩,by have:=HR2.out;simp only[intOf];omega⟩
  case rest=>
   obtain⟨rfl,hwx⟩:=hcut
   replace hwx:=hwx.symm
   subst hwx
   have hUY:U<Y:=by have:=HU.out;have:=HYA.out;omega
   have hY0:0<Y:=by omega
   have hYA:=HYA.out
   have hTlt:T<4294967296:=by rw[ET.out];exact digit_lt HU.out hD1
   have hTY:T=(U*4294967296+D1)/Y:=by rw[ET.out,hYA]
   have hY2:Y<18446744073709551616:=by omega
   obtain⟨V,eV⟩:∃V,V=(U*4294967296+D1)%Y:=⟨_,rfl⟩
   have hV:V<A*4294967296+B:=by rw[hYA,eV];exact Nat.mod_lt _ hY0
   obtain⟨X1,eX1⟩:∃X,X=U*4294967296%18446744073709551616:=⟨_,rfl⟩
   obtain⟨X2,eX2⟩:∃X,X=(U*4294967296+D1)%18446744073709551616:=⟨_,rfl⟩
   obtain⟨X3,eX3⟩:∃X,X=T*Y%18446744073709551616:=⟨_,rfl⟩
   have f1:IntKind.u64.wrap ((U:Int)*4294967296)=(X1:Int):=by rw[eX1,IntKind.wrap_u64];omega
   have f2:IntKind.u64.wrap ((X1:Int)+(D1:Int))=(X2:Int):=by rw[eX1,eX2,IntKind.wrap_u64];omega
   have f3:IntKind.u64.wrap ((T:Int)*(Y:Int))=(X3:Int):=by rw[eX3,Mul64.mulN,Mul64.wrapM]
   have f4:IntKind.u64.wrap ((X2:Int)-(X3:Int))=(V:Int):=by rw[eX2,eX3,eV];exact rest_of hTY hY0 hY2
   have T1:=Trial.start hA hB hD0 hV
   obtain⟨q2,eq2⟩:∃q,q=V/A:=⟨_,rfl⟩
   obtain⟨r3,er3⟩:∃r,r=V%A:=⟨_,rfl⟩
   rw[←eq2,←er3] at T1
   have hr3:r3<4294967296:=by have:=Nat.mod_lt V (show 0<A by omega);omega
   obtain⟨P2,eP2⟩:∃P,P=q2*A:=⟨_,rfl⟩
   have hsum2:=T1.sum
   have hmost2:=T1.most
   rw[←eP2] at hsum2
   have f5:IntKind.u64.wrap ((V:Int)/(A:Int))=(q2:Int):=by rw[←Int.natCast_ediv,←eq2];exact Mul64.wrapN _ (by omega)
   have f6:IntKind.u64.wrap ((q2:Int)*(A:Int))=(P2:Int):=by rw[Mul64.mulN,←eP2];exact Mul64.wrapN _ (by omega)
   have f7:IntKind.u64.wrap ((V:Int)-(P2:Int))=(r3:Int):=by rw[show(V:Int)-(P2:Int)=(r3:Int) by omega];exact Mul64.wrapN _ (by omega)
   obtain⟨T2,eT2⟩:∃T2,T2=(V*4294967296+D0)/(A*4294967296+B):=⟨_,rfl⟩
   have hT2lt:T2<4294967296:=by rw[eT2];exact digit_lt hV hD0
   have hT2Y:T2=(V*4294967296+D0)/Y:=by rw[eT2,hYA]
   obtain⟨QQ,eQQ⟩:∃Q,Q=T*4294967296+T2:=⟨_,rfl⟩
   obtain⟨RR,eRR⟩:∃R,R=(V*4294967296+D0)%Y:=⟨_,rfl⟩
   have hN:=HC4.out
   have hdig:=two_digits (U:=U) (D1:=D1) (D0:=D0) hY0
   rw[HLD.out,←hN,←hTY,←eV,←hT2Y,←eRR,←eQQ,HEY.out,Nat.mul_div_mul_right _ _ (Nat.two_pow_pos s),Nat.mul_mod_mul_right] at hdig
   have hRR:RR/2^s=(hi*18446744073709551616+lo)%y:=by rw[←hdig.2,Nat.mul_div_cancel _ (Nat.two_pow_pos s)]
   obtain⟨Z1,eZ1⟩:∃Z,Z=T*4294967296:=⟨_,rfl⟩
   obtain⟨W1,eW1⟩:∃X,X=V*4294967296%18446744073709551616:=⟨_,rfl⟩
   obtain⟨W2,eW2⟩:∃X,X=(V*4294967296+D0)%18446744073709551616:=⟨_,rfl⟩
   obtain⟨W3,eW3⟩:∃X,X=T2*Y%18446744073709551616:=⟨_,rfl⟩
   have k1:IntKind.u64.wrap ((T:Int)*4294967296)=(Z1:Int):=by rw[show(T:Int)*4294967296=(Z1:Int) by omega];exact Mul64.wrapN _ (by omega)
   have k2:IntKind.u64.wrap ((Z1:Int)+(T2:Int))=(QQ:Int):=by rw[show(Z1:Int)+(T2:Int)=(QQ:Int) by omega];exact Mul64.wrapN _ (by omega)
   have k3:IntKind.u64.wrap ((V:Int)*4294967296)=(W1:Int):=by rw[eW1,IntKind.wrap_u64];omega
   have k4:IntKind.u64.wrap ((W1:Int)+(D0:Int))=(W2:Int):=by rw[eW1,eW2,IntKind.wrap_u64];omega
   have k5:IntKind.u64.wrap ((T2:Int)*(Y:Int))=(W3:Int):=by rw[eW3,Mul64.mulN,Mul64.wrapM]
   have k6:IntKind.u64.wrap ((W2:Int)-(W3:Int))=(RR:Int):=by rw[eW2,eW3,eRR];exact rest_of hT2Y hY0 hY2
   obtain⟨M,eM⟩:∃M,M=(hi*18446744073709551616+lo)%y:=⟨_,rfl⟩
   have k7:(RR:Int)/2^s=(M:Int):=by rw[eM,←hRR];simp
   have hQ:(hi*18446744073709551616+lo)/y=QQ:=hdig.1
   have HV:=Lib.hid hV
   have HT1:=Lib.hid T1
   have HTT:=Lib.hid eT2
   have HQ:=Lib.hid hQ
   have HM:=Lib.hid eM
   clear hUY hY0 hYA hTY hY2 eV hV eX1 eX2 eX3 T1 eq2 er3 eP2 hsum2 eT2 hT2Y eQQ eRR hN hdig hRR eZ1 eW1 eW2 eW3 eM hQ
   go_upto_block 2 with fail
   go_cut [18] (fun v18 wx=>v18= .int .u64 (T2:Int)∧wx=w)
   case first=>
    go_wp2_with fail
    go_loop [18,16] (fun v18 v16=>∃q r:Nat,v18= .int .u64 q∧v16= .int .u64 r∧Trial A B D0 V q r∧r<4294967296) (fun _ v=>(4294967296-intOf v).toNat)
    case atStart=>exact⟨q2,r3,rfl,rfl,HT1.out,by omega⟩
    case round=>
     obtain⟨q,r,rfl,rfl,hT,hr⟩:=hrel
     obtain⟨QB,eQB⟩:∃QB,QB=q*B:=⟨_,rfl⟩
     obtain⟨R,eR⟩:∃R,R=4294967296*r:=⟨_,rfl⟩
     obtain⟨RD,eRD⟩:∃RD,RD=R+D0:=⟨_,rfl⟩
     obtain⟨r2,er2⟩:∃r2,r2=r+A:=⟨_,rfl⟩
     have hAA:A<4294967296:=hA2
     have g1:IntKind.u64.wrap (4294967296*(r:Int))=(R:Int):=by rw[show(4294967296*(r:Int))=(R:Int) by omega];exact Mul64.wrapN _ (by omega)
     have g2:IntKind.u64.wrap ((R:Int)+(D0:Int))=(RD:Int):=by rw[show((R:Int)+(D0:Int))=(RD:Int) by omega];exact Mul64.wrapN _ (by omega)
     have g3:IntKind.u64.wrap ((r:Int)+(A:Int))=(r2:Int):=by rw[show((r:Int)+(A:Int))=(r2:Int) by omega];exact Mul64.wrapN _ (by omega)
     obtain⟨bq,hbq⟩:∃b,b=decide ((4294967296:Int)≤(q:Int)):=⟨_,rfl⟩
     have hd:=hbq.symm
     have HBQ:=Lib.hid hbq
     obtain⟨br,hbr⟩:∃b,b=decide ((4294967296:Int)≤(r2:Int)):=⟨_,rfl⟩
     have hd2:=hbr.symm
     have HBR:=Lib.hid hbr
     clear hbr
     have HQB:=Lib.hid eQB
     have HRD:=Lib.hid eRD
     have HR:=Lib.hid eR
     have HR2:=Lib.hid er2
     have HT:=Lib.hid hT
     clear hbq eQB eR eRD er2 hT
     iterate 14 (first|go_values|go_skip|go_guarded|go_step|go_upon|go_back)
     cases bq
     ·have hq:q<4294967296:=by have:=of_decide_eq_false HBQ.out.symm;omega
      have hQB:QB<18446744073709551616:=by
       have:=Nat.mul_le_mul (show q≤4294967295 by omega) (show B≤4294967295 by omega)
       rw[HQB.out];omega
      have g5:IntKind.u64.wrap ((q:Int)*(B:Int))=(QB:Int):=by rw[Mul64.mulN,←HQB.out];exact Mul64.wrapN _ hQB
      by_cases hlt:RD<QB
      ·have h2:=HT.out.less hD0 (by have:=HV.out;omega) (.inr (by rw[←HQB.out,←HR.out,←HRD.out];exact hlt))
       obtain⟨j,ej⟩:∃j,j=q-1:=⟨_,rfl⟩
       rw[←ej,←HR2.out] at h2
       have g4:IntKind.u64.wrap ((q:Int)-1)=(j:Int):=by rw[show((q:Int)-1)=(j:Int) by omega];exact Mul64.wrapN _ (by omega)
       have hlti:(RD:Int)<(QB:Int):=by omega
       have H2:=Lib.hid h2.2
       have HJ:=Lib.hid ej
       have HLT:=Lib.hid hlt
       clear h2 ej hlt
       go_wp2_with fail
       ·go_meet
        have hr2:4294967296≤r2:=by
         have h5:=HBR.out
         rw[‹br=true›] at h5
         have:=of_decide_eq_true h5.symm
         omega
        exact⟨by rw[HTT.out,←H2.out.out (by omega) hB (by have:=HJ.out;have:=HT.out.most;omega) hr2],rfl⟩
       ·have hr2:r2<4294967296:=by
         have h5:=HBR.out
         rw[‹br=false›] at h5
         have:=of_decide_eq_false h5.symm
         omega
        exact⟨⟨j,r2,rfl,rfl,H2.out,hr2⟩,by have:=HR2.out;simp only[intOf];omega⟩
      ·have hlti:¬(RD:Int)<(QB:Int):=by omega
       have HLT:=Lib.hid hlt
       clear hlt
       go_wp2_with fail
       go_meet
       exact⟨by rw[HTT.out,←HT.out.right (by omega) (by rw[←HQB.out,←HR.out,←HRD.out];exact Nat.le_of_not_lt HLT.out)],rfl⟩
     ·have hq:4294967296≤q:=by have:=of_decide_eq_true HBQ.out.symm;omega
      have h2:=HT.out.less hD0 (by have:=HV.out;omega) (.inl hq)
      obtain⟨j,ej⟩:∃j,j=q-1:=⟨_,rfl⟩
      rw[←ej,←HR2.out] at h2
      have g4:IntKind.u64.wrap ((q:Int)-1)=(j:Int):=by rw[show((q:Int)-1)=(j:Int) by omega];exact Mul64.wrapN _ (by have:=h2.2.most;omega)
      have H2:=Lib.hid h2.2
      have HJ:=Lib.hid ej
      have HQ:=Lib.hid hq
      clear h2 ej hq
      go_wp2_with fail
      ·go_meet
       have hr2:4294967296≤r2:=by
        have h5:=HBR.out
        rw[‹br=true›] at h5
        have:=of_decide_eq_true h5.symm
        omega
       exact⟨by rw[HTT.out,←H2.out.out (by omega) hB (by have:=HJ.out;have:=HT.out.most;omega) hr2],rfl⟩
      ·have hr2:r2<4294967296:=by
        have h5:=HBR.out
        rw[‹br=false›] at h5
        have:=of_decide_eq_false h5.symm
        omega
       exact⟨⟨j,r2,rfl,rfl,H2.out,hr2⟩,by have:=HR2.out;simp only[intOf];omega⟩
   case rest=>
    obtain⟨rfl,hwx⟩:=hcut
    replace hwx:=hwx.symm
    subst hwx
    go_wp2_with fail
    go_ret2
    rw[HQ.out,←HM.out]
    exact⟨rfl,0,rfl⟩
end Go.Proofs.YtpdlbmieciabmaaGreatDoor
namespace Go.Proofs.YtpdlbmieciabmaaGreatDoor
open Go.RowKit Go.Shelf
theorem rem64_any(hi lo y:Nat)(hh:hi<18446744073709551616)(hl:lo<18446744073709551616)(hy0:0<y)(hy:y<18446744073709551616)(w:World):
  Calls Tryz.prog 147 #[.int .u64 hi,.int .u64 lo,.int .u64 y] w fun e w' =>e= .returned (.int .u64 (((hi*18446744073709551616+lo)%y:Nat):Int))∧∃k,w' =w.drewN k:=by
 obtain⟨m,em⟩:∃m,m=hi%y:=⟨_,rfl⟩
 have hm:m<y:=by rw[em];exact Nat.mod_lt _ hy0
 have e1:(hi:Int)%(y:Int)=(m:Int):=by rw[em];simp
 have e0:¬(y:Int)=0:=by omega
 have hres:(hi*18446744073709551616+lo)%y=(m*18446744073709551616+lo)%y:=by
  rw[em];simp[Nat.add_mod,Nat.mul_mod]
 rw[hres]
 have HM:=Lib.hid hm
 clear em hres hm
 go_enter Tryz.func147,Tryz.ntmps147
 go_wp2_with fail
 refine(div64_any m lo y HM.out hl hy w).mono ?_
 rintro e w1 ⟨rfl,k,hw⟩
 have HW:=Lib.hid hw
 clear hw
 go_wp2_with fail
 go_ret
 exact⟨rfl,k,HW.out⟩
theorem fmul_any(x y p:Nat)(hx:x<18446744073709551616)(hy:y<18446744073709551616)(hp0:0<p)(hp:p<18446744073709551616)(w:World):
  Calls Tryz.prog 122 #[.int .u64 x,.int .u64 y,.int .u64 p] w fun e w' =>e= .returned (.int .u64 ((x*y%p:Nat):Int))∧∃k,w' =w.drewN k:=by
 have h1:x*y/18446744073709551616<18446744073709551616:=by
  refine Nat.div_lt_of_lt_mul ?_
  exact Nat.mul_lt_mul'' hx hy
 have h2:x*y%18446744073709551616<18446744073709551616:=Nat.mod_lt _ (by omega)
 have h3:=Nat.div_add_mod' (x*y) 18446744073709551616
 obtain⟨H,eH⟩:∃H,H=x*y/18446744073709551616:=⟨_,rfl⟩
 obtain⟨L,eL⟩:∃L,L=x*y%18446744073709551616:=⟨_,rfl⟩
 have c:=Tryz.bits_Mul64 x y hx hy w
 rw[←eH,←eL] at h3 c
 rw[←eH] at h1
 rw[←eL] at h2
 have C:=Lib.hid c
 have H1:=Lib.hid h1
 have H2:=Lib.hid h2
 have H3:=Lib.hid h3
 clear eH eL c h1 h2 h3
 go_enter Tryz.func122,Tryz.ntmps122
 go_wp2_with fail
 refine C.out.mono ?_
 rintro e w' ⟨rfl,hw⟩
 rw[hw]
 go_wp2_with fail
 refine(rem64_any H L p H1.out H2.out hp0 hp w).mono ?_
 rintro e w1 ⟨rfl,k,hw1⟩
 have HW:=Lib.hid hw1
 rw[H3.out]
 clear hw1 hw
 go_wp2_with fail
 go_ret
 exact⟨rfl,k,HW.out⟩
theorem fadd_any(x y p:Nat)(hx:x<p)(hy:y<p)(hp:p<9223372036854775808)(w:World):
  Calls Tryz.prog 124 #[.int .u64 x,.int .u64 y,.int .u64 p] w fun e w' =>e= .returned (.int .u64 (((x+y)%p:Nat):Int))∧w' =w:=by
 obtain⟨s,es⟩:∃s,s=x+y:=⟨_,rfl⟩
 obtain⟨m,em⟩:∃m,m=s%p:=⟨_,rfl⟩
 have e1:IntKind.u64.wrap ((x:Int)+(y:Int))=(s:Int):=by rw[show(x:Int)+(y:Int)=(s:Int) by omega];exact Mul64.wrapN _ (by omega)
 have e2:(s:Int)%(p:Int)=(m:Int):=by rw[em];simp
 have e0:¬(p:Int)=0:=by omega
 rw[←es,←em]
 clear es em
 go_enter Tryz.func124,Tryz.ntmps124
 go_wp2_with fail
 go_ret
 exact⟨by show Ending.returned (.int .u64 ((s:Int)%(p:Int)))=_;rw[e2],rfl⟩
def res(a p:Int):Nat:=(a%p).toNat
theorem res_lt{a p:Int}(h:0<p):(res a p:Int)<p:=by
 unfold res
 have:=Int.emod_nonneg a (show p≠0 by omega)
 have:=Int.emod_lt_of_pos a h
 omega
theorem res_eq{a p:Int}(h:0<p):(res a p:Int)=a%p:=by
 unfold res
 have:=Int.emod_nonneg a (show p≠0 by omega)
 omega
theorem residue_any(a p:Int)(_h0: -9223372036854775808≤a)(_h1:a≤9223372036854775807)(hp0:0<p)(hp:p≤9223372036854775807)(w:World):
  Calls Tryz.prog 120 #[.int .i64 a,.int .i64 p] w fun e w' =>e= .returned (.int .u64 (res a p:Int))∧w' =w:=by
 obtain⟨m,em⟩:∃m,m=a.tmod p:=⟨_,rfl⟩
 have hm1: -p<m∧m<p:=by
  rw[em];exact⟨Int.lt_tmod_of_pos a hp0,Int.tmod_lt_of_pos a hp0⟩
 have hm2:(res a p:Int)=if m<0 then m+p else m:=by
  rw[res_eq hp0,em,Int.tmod_eq_emod]
  have:=Int.emod_nonneg a (show p≠0 by omega)
  have:=Int.emod_lt_of_pos a hp0
  have hab:(p.natAbs:Int)=p:=by omega
  split<;>split<;>omega
 have e1:IntKind.i64.wrap (a.tmod p)=m:=by rw[←em];exact IntWalk.i64_in _ (by omega)
 have e2:IntKind.i64.wrap m=m:=IntWalk.i64_in _ (by omega)
 have e0:¬p=0:=by omega
 obtain⟨g,eg⟩:∃g,g=(res a p:Int):=⟨_,rfl⟩
 rw[←eg] at hm2⊢
 have hg:0≤g:=by rw[eg];omega
 have em' :=em.symm
 clear eg em
 go_enter Tryz.func120,Tryz.ntmps120
 go_wp2_with fail
 ·go_ret
  exact⟨by rw[show g=m+p by rw[hm2];split<;>omega];rfl,rfl⟩
 ·go_ret
  exact⟨by rw[show g=m by rw[hm2];split<;>omega];rfl,rfl⟩
theorem fMul_any(a b p:Int)(h0: -9223372036854775808≤a)(h1:a≤9223372036854775807)(k0: -9223372036854775808≤b)(k1:b≤9223372036854775807)(hp0:0<p)(hp:p≤9223372036854775807)(w:World):
  Calls Tryz.prog 100 #[.int .i64 a,.int .i64 b,.int .i64 p] w fun e w' =>e= .returned (.int .i64 (a*b%p))∧∃k,w' =w.drewN k:=by
 obtain⟨P,rfl⟩:∃P:Nat,p=(P:Int):=⟨p.toNat,by omega⟩
 have hx:=res_lt (a:=a) hp0
 have hy:=res_lt (a:=b) hp0
 have ha:=residue_any a P h0 h1 hp0 hp
 have hb:=residue_any b P k0 k1 hp0 hp
 have hr:a*b%(P:Int)=((res a P*res b P%P:Nat):Int):=by
  rw[Int.natCast_emod,Int.natCast_mul,res_eq hp0,res_eq hp0,Int.mul_emod]
 rw[hr]
 obtain⟨x,ex⟩:∃x,x=res a P:=⟨_,rfl⟩
 obtain⟨y,ey⟩:∃y,y=res b P:=⟨_,rfl⟩
 rw[←ex] at hx ha⊢
 rw[←ey] at hy hb⊢
 have hm:x*y%P<P:=Nat.mod_lt _ (by omega)
 have hc:=fmul_any x y P (by omega) (by omega) (by omega) (by omega)
 obtain⟨m,em⟩:∃m,m=x*y%P:=⟨_,rfl⟩
 rw[←em] at hm hc⊢
 have HA:=Lib.hid ha
 have HB:=Lib.hid hb
 have HC:=Lib.hid hc
 have wp:IntKind.u64.wrap (P:Int)=(P:Int):=Mul64.wrapN _ (by omega)
 have wm:IntKind.i64.wrap (m:Int)=(m:Int):=IntWalk.i64_in _ (by omega)
 have hp1:¬(P:Int)<1:=by omega
 clear hr ex ey em ha hb hc
 go_enter Tryz.func100,Tryz.ntmps100
 go_wp2_with (go_at_call 120;first|(refine(HA.out _).mono ?_;rintro e w' ⟨rfl,hw⟩;rw[hw];clear hw HA)|(refine(HB.out _).mono ?_;rintro e w' ⟨rfl,hw⟩;rw[hw];clear hw HB))
 refine(HC.out w).mono ?_
 rintro e w1 ⟨rfl,k,hw1⟩
 have HW:=Lib.hid hw1
 clear hw1
 go_wp2_with fail
 go_ret
 exact⟨rfl,k,HW.out⟩
theorem fAdd_any(a b p:Int)(h0: -9223372036854775808≤a)(h1:a≤9223372036854775807)(k0: -9223372036854775808≤b)(k1:b≤9223372036854775807)(hp0:0<p)(hp:p≤9223372036854775807)(w:World):
  Calls Tryz.prog 99 #[.int .i64 a,.int .i64 b,.int .i64 p] w fun e w' =>e= .returned (.int .i64 ((a+b)%p))∧w' =w:=by
 obtain⟨P,rfl⟩:∃P:Nat,p=(P:Int):=⟨p.toNat,by omega⟩
 have hx:=res_lt (a:=a) hp0
 have hy:=res_lt (a:=b) hp0
 have ha:=residue_any a P h0 h1 hp0 hp
 have hb:=residue_any b P k0 k1 hp0 hp
 have hr:(a+b)%(P:Int)=(((res a P+res b P)%P:Nat):Int):=by
  rw[Int.natCast_emod,Int.natCast_add,res_eq hp0,res_eq hp0,Int.add_emod]
 rw[hr]
 obtain⟨x,ex⟩:∃x,x=res a P:=⟨_,rfl⟩
 obtain⟨y,ey⟩:∃y,y=res b P:=⟨_,rfl⟩
 rw[←ex] at hx ha⊢
 rw[←ey] at hy hb⊢
 have hm:(x+y)%P<P:=Nat.mod_lt _ (by omega)
 have hc:=fadd_any x y P (by omega) (by omega) (by omega)
 obtain⟨m,em⟩:∃m,m=(x+y)%P:=⟨_,rfl⟩
 rw[←em] at hm hc⊢
 have HA:=Lib.hid ha
 have HB:=Lib.hid hb
 have HC:=Lib.hid hc
 have wp:IntKind.u64.wrap (P:Int)=(P:Int):=Mul64.wrapN _ (by omega)
 have wm:IntKind.i64.wrap (m:Int)=(m:Int):=IntWalk.i64_in _ (by omega)
 have hp1:¬(P:Int)<1:=by omega
 clear hr ex ey em ha hb hc
 go_enter Tryz.func99,Tryz.ntmps99
 go_wp2_with (go_at_call 120;first|(refine(HA.out _).mono ?_;rintro e w' ⟨rfl,hw⟩;rw[hw];clear hw HA)|(refine(HB.out _).mono ?_;rintro e w' ⟨rfl,hw⟩;rw[hw];clear hw HB))
 refine(HC.out w).mono ?_
 rintro e w1 ⟨rfl,hw1⟩
 rw[hw1]
 clear hw1
 go_wp2_with fail
 go_ret
 exact⟨rfl,rfl⟩
end Go.Proofs.YtpdlbmieciabmaaGreatDoor
namespace Go.Proofs.YtpdlbmieciabmaaGreatDoor
open Go.RowKit Go.Shelf
def accF(p:Int)(l:List UInt8):Int:=l.foldl (fun acc b=>(acc*256%p+(b.toNat:Int))%p) 0
theorem accF_snoc(p:Int)(l:List UInt8)(b:UInt8):accF p (l++[b])=(accF p l*256%p+(b.toNat:Int))%p:=by simp[accF]
theorem accF_in(p:Int)(hp:0<p)(l:List UInt8):0≤accF p l∧accF p l<p:=by
 have gen:∀(l:List UInt8) (a:Int),0≤a∧a<p→0≤l.foldl (fun acc b=>(acc*256%p+(b.toNat:Int))%p) a∧l.foldl (fun acc b=>(acc*256%p+(b.toNat:Int))%p) a<p:=by
  intro l
  induction l with
  |nil=>intro a h;exact h
  |cons b r ih=>intro a _;exact ih _ ⟨Int.emod_nonneg _ (by omega),Int.emod_lt_of_pos _ hp⟩
 exact gen l 0 ⟨by omega,hp⟩
theorem only_drewN{S:Nat→Prop}{w w' :World}(h:Only S w w')(n:Nat):Only S w (w'.drewN n):=⟨h.os,h.tape,h.output,h.size,h.block⟩
def hashF(p:Int)(l:List UInt8):Int:=accF p (shaL l)
set_option maxRecDepth 100000 in
set_option maxHeartbeats 400000 in
theorem fHash_any(s:ByteArray)(p:Int)(hs:s.size≤35184372088832)(hp0:0<p)(hp:p≤9223372036854775807)(w:World):
  Calls Tryz.prog 94 #[.string s,.int .i64 p] w fun e w' =>e= .returned (.int .i64 (hashF p s.data.toList))∧Only NoneOf w w' :=by
 have hp1:¬p<1:=by omega
 go_enter Tryz.func94,Tryz.ntmps94
 go_wp2_with fail
 refine(sum_any s w hs).mono ?_
 rintro e w1 ⟨rfl,ho1⟩
 obtain⟨h,eh⟩:∃h,h=shaL s.data.toList:=⟨_,rfl⟩
 rw[←eh]
 have hl:h.length=32:=by rw[eh];exact shaL_len _
 have hres:hashF p s.data.toList=accF p h:=by rw[eh];rfl
 have HRES:=Lib.hid hres
 have hi41:(Tryz.prog.info? 68).map (·.size)=some (h.map bv).toArray.size :=by rw[List.size_toArray,List.length_map,hl];kernel_rfl
 have hone:(h.map bv).toArray.all (·.oneCell')=true:=all_oneCell_toArray (bvs_one _)
 have hthr:(w1.alloc (.cells (Array.replicate 32 (.int .u8 0)) 68)).there w1.heap.size 0 (h.map bv).toArray.size :=(Blk.new w1 _ _).there 0 _ (by rw[List.size_toArray,List.length_map,hl];simp)
 obtain⟨X,eX⟩:∃X,X=(w1.alloc (.cells (Array.replicate 32 (.int .u8 0)) 68)).setCells w1.heap.size 0 (h.map bv).toArray.toList :=⟨_,rfl⟩
 have hX:Only NoneOf w X:=by rw[eX];exact only_setCells ((Only.refl NoneOf w).trans (ho1.alloc _)) _ _ (.inr ho1.size) _
 have hblk:Blk X w1.heap.size 68 (h.map bv).toArray :=by rw[eX];simpa using(Blk.new w1 68 (Array.replicate 32 (.int .u8 0))).filled (h.map bv).toArray.toList (by simp[hl])
 have HI41:=Lib.hid hi41
 have HONE:=Lib.hid hone
 have HTH:=Lib.hid hthr
 have HL:=Lib.hid hl
 have HX:=Lib.hid hX
 have HB:=Lib.hid hblk
 have HEX:=Lib.hid eX
 obtain⟨B,eB⟩:∃B,B=w1.heap.size:=⟨_,rfl⟩
 clear eh hl hi41 hone hthr hX hblk ho1 eX hres
 have tok1:True:=trivial
 go_wp2_with (have _t:=tok1;refine wpList_store_mid rfl 68 (.tmp 5) (.tmp 11) rfl w1.heap.size 0 (h.map bv).toArray rfl rfl HTH.out HI41.out HONE.out ?_;clear tok1 _t)
 refine wp_world HEX.out ?_
 rw[←eB]
 rw[←eB] at HB
 clear HEX HTH eB
 go_wp2_with fail
 go_loopw [12,6] (fun v12 v6 wr=>∃k:Nat,v12= .int .i64 k∧k≤32∧v6= .int .i64 (accF p (h.take k))∧Blk wr B 68 (h.map bv).toArray∧Only NoneOf X wr) (fun v _ _=>32-(intOf v).toNat)
 case atStart=>exact⟨0,rfl,by omega,by simp[accF],HB.out,Only.refl _ _⟩
 case round=>
  obtain⟨k,rfl,hk,rfl,hb,ho⟩:=hrel
  by_cases hlt:k<32
  ·obtain⟨b,eb⟩:∃b,h[k]? =some b:=⟨_,List.getElem?_eq_getElem (by have:=HL.out;omega)⟩
   have hnext:accF p (h.take (k+1))=(accF p (h.take k)*256%p+(b.toNat:Int))%p:=by rw[List.take_add_one,eb,Option.toList_some,accF_snoc]
   have hin:=accF_in p hp0 (h.take k)
   have hin2:=accF_in p hp0 (h.take (k+1))
   obtain⟨c,ec⟩:∃c,c=accF p (h.take k):=⟨_,rfl⟩
   obtain⟨c2,ec2⟩:∃c2,c2=accF p (h.take (k+1)):=⟨_,rfl⟩
   rw[←ec] at hnext hin⊢
   rw[←ec2] at hnext hin2
   obtain⟨m,em⟩:∃m,m=c*256%p:=⟨_,rfl⟩
   have hm:0≤m∧m<p:=by rw[em];exact⟨Int.emod_nonneg _ (by omega),Int.emod_lt_of_pos _ hp0⟩
   have hb255:b.toNat<256:=b.toNat_lt
   obtain⟨bn,ebn⟩:∃bn,bn=b.toNat:=⟨_,rfl⟩
   have hmul:=fun W=>fMul_any c 256 p (by omega) (by omega) (by omega) (by omega) hp0 hp W
   rw[←em] at hnext hmul
   rw[←ebn] at hnext hb255
   have hadd:=fun W=>fAdd_any m (bn:Int) p (by omega) (by omega) (by omega) (by omega) hp0 hp W
   rw[←hnext] at hadd
   have hcell:wr.cell? ⟨B,k,none⟩=some (.int .u8 (bn:Int)):=by
    rw[hb.cell,List.getElem?_toArray,List.getElem?_map,eb,ebn];rfl
   have hbi:(bn:Int)<256:=by omega
   have k32:(k:Int)<32:=by omega
   have wbn:IntKind.i64.wrap (bn:Int)=(bn:Int):=IntWalk.i64_in _ (by omega)
   have k0:0≤(k:Int):=by omega
   have HMUL:=Lib.hid hmul
   have HADD:=Lib.hid hadd
   have HBB:=Lib.hid hb
   have HO:=Lib.hid ho
   have EC2:=Lib.hid ec2
   have HIN2:=Lib.hid hin2
   clear hnext hin hin2 ec ec2 em hm eb ebn hmul hadd hb ho
   go_wp2_with fail
   go_region_held3 (fun w' =>w'.cell? ⟨B,k,none⟩=some (.int .u8 (bn:Int))) (first|assumption|exact hcell|go_keep)
    (first
     |(go_at_call 100;refine(HMUL.out _).mono ?_;rintro e w9 ⟨rfl,n9,rfl⟩)
     |(go_at_call 99;refine(HADD.out _).mono ?_;rintro e w9 ⟨rfl,hw9⟩;rw[hw9];clear hw9))
   all_goals
    go_wp2_with fail
    go_roundw
    case rel=>exact⟨k+1,by go_num,by omega,by rw[EC2.out],HBB.out,only_drewN HO.out _⟩
    case measure=>simp[intOf];omega
  ·obtain rfl:k=32:=by omega
   have hall:h.take 32=h:=List.take_of_length_le (by rw[HL.out];exact Nat.le_refl _)
   have HO:=Lib.hid ho
   have HALL:=Lib.hid hall
   clear hall ho hb
   go_wp2_with fail
   go_ret
   exact⟨by rw[HRES.out];show Ending.returned (.int .i64 (accF p (h.take 32)))=_;rw[HALL.out],HX.out.trans HO.out⟩
end Go.Proofs.YtpdlbmieciabmaaGreatDoor
namespace Go.Proofs.YtpdlbmieciabmaaGreatDoor
open Go.RowKit Go.Shelf
theorem rresidue_any(a p:Int)(_h0: -9223372036854775808≤a)(_h1:a≤9223372036854775807)(hp0:0<p)(hp:p≤9223372036854775807)(w:World):
  Calls Tryz.prog 116 #[.int .i64 a,.int .i64 p] w fun e w' =>e= .returned (.int .i64 (a%p))∧w' =w:=by
 obtain⟨m,em⟩:∃m,m=a.tmod p:=⟨_,rfl⟩
 have hm1: -p<m∧m<p:=by
  rw[em];exact⟨Int.lt_tmod_of_pos a hp0,Int.tmod_lt_of_pos a hp0⟩
 have hm2:a%p=if m<0 then m+p else m:=by
  rw[em,Int.tmod_eq_emod]
  have:=Int.emod_nonneg a (show p≠0 by omega)
  have:=Int.emod_lt_of_pos a hp0
  have hab:(p.natAbs:Int)=p:=by omega
  split<;>split<;>omega
 have e1:IntKind.i64.wrap (a.tmod p)=m:=by rw[←em];exact IntWalk.i64_in _ (by omega)
 have e2:IntKind.i64.wrap m=m:=IntWalk.i64_in _ (by omega)
 have e0:¬p=0:=by omega
 obtain⟨g,eg⟩:∃g,g=a%p:=⟨_,rfl⟩
 rw[←eg] at hm2⊢
 have em' :=em.symm
 clear eg em
 go_enter Tryz.func116,Tryz.ntmps116
 go_wp2_with fail
 ·go_ret
  exact⟨ret_int (by rw[hm2];split<;>omega),rfl⟩
 ·go_ret
  exact⟨ret_int (by rw[hm2];split<;>omega),rfl⟩
theorem rsum11_any(a b p:Int)(ha:0≤a∧a<p)(hb:0≤b∧b<p)(hp:p≤9223372036854775807)(w:World):
  Calls Tryz.prog 117 #[.int .i64 a,.int .i64 b,.int .i64 p] w fun e w' =>e= .returned (.int .i64 ((a+b)%p))∧w' =w:=by
 obtain⟨g,eg⟩:∃g,g=(a+b)%p:=⟨_,rfl⟩
 have hg:g=if p-b≤a then a-(p-b) else a+b:=by
  rw[eg]
  split
  ·have:a+b=(a-(p-b))+p:=by omega
   rw[this,Int.add_emod_right,Int.emod_eq_of_lt (by omega) (by omega)]
  ·exact Int.emod_eq_of_lt (by omega) (by omega)
 rw[←eg]
 obtain⟨ha0,ha1⟩:=ha
 obtain⟨hb0,hb1⟩:=hb
 have HG:=Lib.hid hg
 clear eg hg
 by_cases h:p-b≤a
 ·go_enter Tryz.func117,Tryz.ntmps117
  go_wp2_with fail
  go_ret
  exact⟨ret_int (by rw[HG.out,if_pos h]),rfl⟩
 ·go_enter Tryz.func117,Tryz.ntmps117
  go_wp2_with fail
  go_ret
  exact⟨ret_int (by rw[HG.out,if_neg (by omega)]),rfl⟩
theorem mod_in{a p:Int}(h:0<p):0≤a%p∧a%p<p:=⟨Int.emod_nonneg _ (by omega),Int.emod_lt_of_pos _ h⟩
theorem radd_any(a b p:Int)(h0: -9223372036854775808≤a)(h1:a≤9223372036854775807)(k0: -9223372036854775808≤b)(k1:b≤9223372036854775807)(hp0:0<p)(hp:p≤9223372036854775807)(w:World):
  Calls Tryz.prog 89 #[.int .i64 a,.int .i64 b,.int .i64 p] w fun e w' =>e= .returned (.int .i64 ((a+b)%p))∧w' =w:=by
 have hs:=rsum11_any (a%p) (b%p) p (mod_in hp0) (mod_in hp0) hp
 rw[show(a%p+b%p)%p=(a+b)%p by rw[←Int.add_emod]] at hs
 have ha:=rresidue_any a p h0 h1 hp0 hp
 have hb:=rresidue_any b p k0 k1 hp0 hp
 obtain⟨x,ex⟩:∃x,x=a%p:=⟨_,rfl⟩
 obtain⟨y,ey⟩:∃y,y=b%p:=⟨_,rfl⟩
 obtain⟨z,ez⟩:∃z,z=(a+b)%p:=⟨_,rfl⟩
 rw[←ex] at ha hs
 rw[←ey] at hb hs
 rw[←ez] at hs⊢
 have HS:=Lib.hid hs
 have HA:=Lib.hid ha
 have HB:=Lib.hid hb
 have hp1:¬p<1:=by omega
 clear hs ha hb ex ey ez
 go_enter Tryz.func89,Tryz.ntmps89
 go_wp2_with fail
 refine(HA.out _).mono ?_
 rintro e w' ⟨rfl,hw⟩
 rw[hw]
 clear hw
 go_wp2_with fail
 refine(HB.out _).mono ?_
 rintro e w' ⟨rfl,hw⟩
 rw[hw]
 clear hw
 go_wp2_with fail
 refine(HS.out _).mono ?_
 rintro e w' ⟨rfl,hw⟩
 rw[hw]
 clear hw
 go_wp2_with fail
 go_ret
 exact⟨rfl,rfl⟩
def MulI(p g:Int)(x y o:Int):Prop:=0≤x∧x<p∧0≤y∧y<p∧0≤o∧o<p∧(o+x*y)%p=g
theorem mulI_odd{p g x y o:Int}(hp:0<p)(h:MulI p g x y o)(hy:y%2=1):MulI p g ((x+x)%p) (y/2) ((o+x)%p):=by
 obtain⟨x0,x1,y0,y1,o0,o1,e⟩:=h
 refine⟨(mod_in hp).1,(mod_in hp).2,by omega,by omega,(mod_in hp).1,(mod_in hp).2,?_⟩
 rw[←e,Int.add_emod,Int.mul_emod,Int.emod_emod,Int.emod_emod,←Int.mul_emod,←Int.add_emod]
 congr 1
 have:y=2*(y/2)+1:=by omega
 conv=>rhs;rw[this]
 rw[Int.mul_add,Int.mul_one,←Int.mul_assoc,Int.mul_comm x 2,←Int.two_mul]
 omega
theorem mulI_even{p g x y o:Int}(hp:0<p)(h:MulI p g x y o)(hy:y%2=0):MulI p g ((x+x)%p) (y/2) o:=by
 obtain⟨x0,x1,y0,y1,o0,o1,e⟩:=h
 refine⟨(mod_in hp).1,(mod_in hp).2,by omega,by omega,o0,o1,?_⟩
 rw[←e,Int.add_emod,Int.mul_emod,Int.emod_emod,←Int.mul_emod,←Int.add_emod]
 congr 1
 have:y=2*(y/2):=by omega
 conv=>rhs;rw[this]
 rw[←Int.mul_assoc,Int.mul_comm x 2,←Int.two_mul]
set_option maxHeartbeats 400000 in
theorem rmul_any(a b p:Int)(h0: -9223372036854775808≤a)(h1:a≤9223372036854775807)(k0: -9223372036854775808≤b)(k1:b≤9223372036854775807)(hp0:0<p)(hp:p≤9223372036854775807)(w:World):
  Calls Tryz.prog 85 #[.int .i64 a,.int .i64 b,.int .i64 p] w fun e w' =>e= .returned (.int .i64 (a*b%p))∧w' =w:=by
 have ha:=rresidue_any a p h0 h1 hp0 hp
 have hb:=rresidue_any b p k0 k1 hp0 hp
 obtain⟨x,ex⟩:∃x,x=a%p:=⟨_,rfl⟩
 obtain⟨y,ey⟩:∃y,y=b%p:=⟨_,rfl⟩
 obtain⟨g,eg⟩:∃g,g=a*b%p:=⟨_,rfl⟩
 have hI:MulI p g x y 0:=by
  refine⟨by rw[ex];exact(mod_in hp0).1,by rw[ex];exact(mod_in hp0).2,by rw[ey];exact(mod_in hp0).1,by rw[ey];exact(mod_in hp0).2,by omega,hp0,?_⟩
  rw[Int.zero_add,ex,ey,←Int.mul_emod,eg]
 rw[←ex] at ha
 rw[←ey] at hb
 rw[←eg]
 have HA:=Lib.hid ha
 have HB:=Lib.hid hb
 have HI:=Lib.hid hI
 have hp1:¬p<1:=by omega
 clear ha hb ex ey eg hI
 go_enter Tryz.func85,Tryz.ntmps85
 go_wp2_with fail
 refine(HA.out _).mono ?_
 rintro e w' ⟨rfl,hw⟩
 rw[hw]
 clear hw
 go_wp2_with fail
 refine(HB.out _).mono ?_
 rintro e w' ⟨rfl,hw⟩
 rw[hw]
 clear hw
 go_wp2_with fail
 go_loop [7,8,9] (fun x y o=>∃u v t:Int,x= .int .i64 u∧y= .int .i64 v∧o= .int .i64 t∧MulI p g u v t) (fun _ y _=>(intOf y).toNat)
 case atStart=>exact⟨x,y,0,rfl,rfl,rfl,HI.out⟩
 case round=>
  obtain⟨u,v,t,rfl,rfl,rfl,hM⟩:=hrel
  have HM:=Lib.hid hM
  obtain⟨u0,u1,v0,v1,t0,t1,e⟩:=hM
  by_cases hv:v=0
  ·subst hv
   have ht:t=g:=by
    rw[Int.mul_zero,Int.add_zero,Int.emod_eq_of_lt t0 t1] at e
    exact e
   clear e
   go_wp2_with fail
   go_ret
   exact⟨rfl,rfl⟩
  ·have hv2:0<v:=by omega
   have hdd:=rsum11_any u u p ⟨u0,u1⟩ ⟨u0,u1⟩ hp w
   have hss:=rsum11_any t u p ⟨t0,t1⟩ ⟨u0,u1⟩ hp w
   have HDD:=Lib.hid hdd
   have HSS:=Lib.hid hss
   clear e hdd hss
   by_cases ho:v%2=1
   ·go_wp2_with fail
    refine HSS.out.mono ?_
    rintro e w' ⟨rfl,hw⟩
    rw[hw]
    clear hw
    have HN:=Lib.hid (mulI_odd hp0 HM.out ho)
    go_wp2_with fail
    refine HDD.out.mono ?_
    rintro e w' ⟨rfl,hw⟩
    rw[hw]
    clear hw
    go_wp2_with fail
    go_round
    case rel=>exact⟨_,_,_,rfl,rfl,rfl,HN.out⟩
    case measure=>simp[intOf];omega
   ·have ho2:v%2=0:=by omega
    have HN:=Lib.hid (mulI_even hp0 HM.out ho2)
    clear ho
    go_wp2_with fail
    refine HDD.out.mono ?_
    rintro e w' ⟨rfl,hw⟩
    rw[hw]
    clear hw
    go_wp2_with fail
    go_round
    case rel=>exact⟨_,_,_,rfl,rfl,rfl,HN.out⟩
    case measure=>simp[intOf];omega
end Go.Proofs.YtpdlbmieciabmaaGreatDoor
