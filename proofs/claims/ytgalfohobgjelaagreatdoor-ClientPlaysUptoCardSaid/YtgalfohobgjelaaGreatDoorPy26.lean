/- What is proved here: a part of the proof that 'probitylaw31.ClientPlays' answers true. Conditions: each theorem's own. -/
import Derived.Test.YtgalfohobgjelaaGreatDoorPy23
import Derived.Test.YtgalfohobgjelaaGreatDoorPy25
set_option maxRecDepth 100000
set_option maxHeartbeats 8000000
namespace Go.Proofs.YtgalfohobgjelaaGreatDoor
section
open Go.RowKit Go.Shelf
structure RefK(w:World)(R:Nat)(cs:Array Value)(W:World):Prop where
 box:Blk W R tBid cs
 only:Only Ωa w W
theorem RefK.none_{w:World}{R:Nat}{cs:Array Value}{W W' :World}(h:RefK w R cs W)(ho:Only Ωa W W'):RefK w R cs W' :=⟨h.box.only ho (fun h=>h.elim),h.only.trans ho⟩
theorem ΩdU{l:List Int}{k:Nat}(h:∀x∈l,In x)(hl:l.length≤1000000):(ΩaC (l.take k)).length≤22000000:=by
 have:=Ωdw (l.take k) (fun x hx=>h x (ΩnY hx))
 rw[ΩnB] at this
 omega
theorem Ωev(d:Bd)(hd:d.Ok){qA pA:Option Addr}{qk pk:Nat}{w:World}(hq:Ωdv w qA d.qc)(hp:Ωdv w pA d.pc):
  Calls Tryz.prog 37 #[.agg (Ωae d qA pA qk pk)] w (Ωq (encB d) w):=by
 obtain⟨hid,hqi,hpi,hqt,hpt,hql,hpl⟩:=hd
 obtain⟨R,eR⟩:∃R,R=w.heap.size:=⟨_,rfl⟩
 have hk:RefK w R (Ωae d qA pA qk pk) (w.alloc (.cells (Ωae d qA pA qk pk) tBid)):=⟨by rw[eR];exact Blk.new w _ _,(Only.refl _ _).alloc _⟩
 have HK:=Θ hk
 have HQ:=Θ hq
 have HP:=Θ hp
 have HQI:=Θ hqi
 have HPI:=Θ hpi
 have HER:=Θ eR
 obtain⟨T1,eT1⟩:∃T,T=wBid++[32]++Lib.itoa d.bidder++[10]++ΩbP:=⟨_,rfl⟩
 obtain⟨T2,eT2⟩:∃T,T=T1++ΩaC d.qc++[10]++hexL d.qt.data.toList++[10]++Ωf6:=⟨_,rfl⟩
 have li:=ΩV hid.1 hid.2
 have lT1:T1.length≤33:=by
  rw[eT1]
  have q1:wBid.length=3:=rfl
  have q2:ΩbP.length=7:=rfl
  simp only[ΩnA,Ωoq]
  omega
 have lw1:=ΩdU (k:=d.qc.length) hqi hql
 rw[Ωok] at lw1
 have lT2:T2.length≤24001000:=by
  rw[eT2]
  have q3:Ωf6.length=5:=rfl
  simp only[ΩnA,Ωoq,ΩY,←Ωc]
  omega
 have HT1:=Θ eT1
 have HT2:=Θ eT2
 clear hk hq hp hqi hpi eR eT1 eT2
 go_enter Tryz.func37,Tryz.ntmps37
 go_wp2_with fail
 rw[←HER.out]
 refine(Ωe6 d.bidder hid _).mono ?_
 rintro e w1 ⟨t1,rfl,ht1,ho1⟩
 have K1:=Θ (HK.out.none_ ho1)
 have l1:t1.size≤21:=by rw[Ωc,ht1];exact li
 have a1:¬9223372036854775807<4+t1.size:=by omega
 have a2:¬9223372036854775807<4+t1.size+8:=by omega
 have HT:=Θ ht1
 clear ho1 ht1
 go_wp2_with fail
 go_loopw [3,4] (fun v i wr=>∃(k:Nat) (s:ByteArray),i= .int .i64 k∧v= .string s∧k≤d.qc.length∧s.data.toList=T1++ΩaC (d.qc.take k)∧RefK w R (Ωae d qA pA qk pk) wr) (fun _ i _=>d.qc.length-(intOf i).toNat)
 case atStart=>exact⟨0,_,rfl,rfl,by omega,by rw[HT1.out];simp[HT.out,ΩaC,wBid,ΩbP],K1.out⟩
 case round=>
  obtain⟨k,s,rfl,rfl,hk,hs,hK⟩:=hrel
  have hsz:s.size≤22000033:=by
   have:=ΩdU (k:=k) HQI.out hql
   rw[Ωc,hs,ΩnA];omega
  have c2:=hK.box.cell 2
  simp only[ΩnC,ΩnF,ΩnK] at c2
  have HS:=Θ hs
  have HKK:=Θ hK
  clear hs hK
  by_cases hlt:k<d.qc.length
  ·obtain⟨x,hx⟩:∃x,d.qc[k]? =some x:=⟨_,Ωnu hlt⟩
   have hxi:=HQI.out x (ΩnE hx)
   obtain⟨g,o,rfl,hc⟩:∃g o,qA=some ⟨g,o,none⟩∧wr.cell? ⟨g,o+k,none⟩=some (.int .i64 x):=by
    rcases HQ.out.none_ HKK.out.only with h|⟨g,o,e,_,hc⟩
    ·rw[h] at hlt;simp at hlt
    ·exact⟨g,o,e,hc k x hx⟩
   have hnx:ΩaC (d.qc.take (k+1))=ΩaC (d.qc.take k)++[32]++Lib.itoa x:=by rw[ΩnO,hx,ΩnS,ΩdV]
   have ik:(k:Int)<d.qc.length:=by omega
   have HNX:=Θ hnx
   have a3:¬9223372036854775807<s.size+1:=by omega
   clear hnx hx
   go_wp2_with fail
   refine(Ωe6 x hxi wr).mono ?_
   rintro e w3 ⟨t3,rfl,ht3,ho3⟩
   have K3:=Θ (HKK.out.none_ ho3)
   have l3:t3.size≤21:=by rw[Ωc,ht3];exact ΩV hxi.1 hxi.2
   have a4:¬9223372036854775807<s.size+1+t3.size:=by omega
   have HT3:=Θ ht3
   clear ho3 ht3
   go_wp2_with fail
   go_roundw
   case rel=>exact⟨k+1,_,by go_num,rfl,by omega,by rw[HNX.out];simp[HS.out,HT3.out],K3.out⟩
   case measure=>simp[intOf];omega
  ·have hall:d.qc.take k=d.qc:=ΩnI (by omega)
   have ik:¬(k:Int)<d.qc.length:=by omega
   have hs2:=HS.out
   rw[hall] at hs2
   have HS2:=Θ hs2
   have c1:=HKK.out.box.cell 1
   simp only[ΩnC,ΩnF,ΩnK] at c1
   have a3:¬9223372036854775807<s.size+1:=by omega
   clear hall hs2 HS
   go_wp2_with fail
   refine(Ωhv d.qt hqt wr).mono ?_
   rintro e w3 ⟨t3,rfl,ht3,ho3⟩
   have K3:=Θ (HKK.out.none_ ho3)
   have l3:t3.size≤2000000:=by rw[Ωc,ht3,ΩY,←Ωc];omega
   have a4:¬9223372036854775807<s.size+1+t3.size:=by omega
   have a5:¬9223372036854775807<s.size+1+t3.size+6:=by omega
   have HT3:=Θ ht3
   clear ho3 ht3 c1 c2
   go_wp2_with fail
   go_loopw [3,5] (fun v i wr=>∃(k:Nat) (s:ByteArray),i= .int .i64 k∧v= .string s∧k≤d.pc.length∧s.data.toList=T2++ΩaC (d.pc.take k)∧RefK w R (Ωae d qA pA qk pk) wr) (fun _ i _=>d.pc.length-(intOf i).toNat)
   case atStart=>exact⟨0,_,rfl,rfl,by omega,by rw[HT2.out];simp[HT3.out,HS2.out,ΩaC,Ωf6],K3.out⟩
   case round=>
    clear HKK K3 HS2 hsz a3 a4 a5 l3 HT3 ik K1 HK
    obtain⟨k,s,rfl,rfl,hk,hs,hK⟩:=hrel
    have hsz:s.size≤46001000:=by
     have:=ΩdU (k:=k) HPI.out hpl
     rw[Ωc,hs,ΩnA];omega
    have c4:=hK.box.cell 4
    simp only[ΩnC,ΩnF,ΩnK] at c4
    have HS:=Θ hs
    have HKK:=Θ hK
    have a3:¬9223372036854775807<s.size+1:=by omega
    clear hs hK
    by_cases hlt:k<d.pc.length
    ·obtain⟨x,hx⟩:∃x,d.pc[k]? =some x:=⟨_,Ωnu hlt⟩
     have hxi:=HPI.out x (ΩnE hx)
     obtain⟨g,o,rfl,hc⟩:∃g o,pA=some ⟨g,o,none⟩∧wr.cell? ⟨g,o+k,none⟩=some (.int .i64 x):=by
      rcases HP.out.none_ HKK.out.only with h|⟨g,o,e,_,hc⟩
      ·rw[h] at hlt;simp at hlt
      ·exact⟨g,o,e,hc k x hx⟩
     have hnx:ΩaC (d.pc.take (k+1))=ΩaC (d.pc.take k)++[32]++Lib.itoa x:=by rw[ΩnO,hx,ΩnS,ΩdV]
     have ik:(k:Int)<d.pc.length:=by omega
     have HNX:=Θ hnx
     clear hnx hx
     go_wp2_with fail
     refine(Ωe6 x hxi wr).mono ?_
     rintro e w3 ⟨t3,rfl,ht3,ho3⟩
     have K3:=Θ (HKK.out.none_ ho3)
     have l3:t3.size≤21:=by rw[Ωc,ht3];exact ΩV hxi.1 hxi.2
     have a4:¬9223372036854775807<s.size+1+t3.size:=by omega
     have HT3:=Θ ht3
     clear ho3 ht3
     go_wp2_with fail
     go_roundw
     case rel=>exact⟨k+1,_,by go_num,rfl,by omega,by rw[HNX.out];simp[HS.out,HT3.out],K3.out⟩
     case measure=>simp[intOf];omega
    ·have hall:d.pc.take k=d.pc:=ΩnI (by omega)
     have ik:¬(k:Int)<d.pc.length:=by omega
     have hs2:=HS.out
     rw[hall] at hs2
     have HS2:=Θ hs2
     have c3:=HKK.out.box.cell 3
     simp only[ΩnC,ΩnF,ΩnK] at c3
     clear hall hs2 HS
     go_wp2_with fail
     refine(Ωhv d.pt hpt wr).mono ?_
     rintro e w3 ⟨t3,rfl,ht3,ho3⟩
     have K3:=Θ (HKK.out.none_ ho3)
     have l3:t3.size≤2000000:=by rw[Ωc,ht3,ΩY,←Ωc];omega
     have a4:¬9223372036854775807<s.size+1+t3.size:=by omega
     have a5:¬9223372036854775807<s.size+1+t3.size+1:=by omega
     have HT3:=Θ ht3
     clear ho3 ht3 c3 c4
     go_wp2_with fail
     refine⟨rfl,_,results_tmp rfl _ _ _,?_⟩
     refine Ωq.mk ?_ K3.out.only
     have e2:=HS2.out
     have e3:=HT3.out
     simp only[ΩnP,ΩnQ,e2,e3]
     rw[HT2.out,HT1.out]
     have i1:ΩaC [d.bidder]=32::Lib.itoa d.bidder:=by simp[ΩaC]
     have i0:ΩaC []=[]:=rfl
     unfold encB Ωci
     rw[i1,i0]
     simp only[ΩoA,Ωn9,ΩoD,Ωox]
end
section
open Go.RowKit Go.Shelf
theorem Ωcs(n m:Int)(_hn:In n)(hm:0<m)(hm2:m≤2000000000000000000)(w:World):Calls Tryz.prog 16 #[.int .i64 n,.int .i64 m] w fun e w' =>e= .returned (.int .i64 (n%m))∧w' =w:=by
 obtain⟨r,er⟩:∃r,r=n.tmod m:=⟨_,rfl⟩
 have hr1: -m<r∧r<m:=by
  rw[er];exact⟨Int.lt_tmod_of_pos n hm,Int.tmod_lt_of_pos n hm⟩
 have hr2:n%m=if r<0 then r+m else r:=by
  rw[er,Int.tmod_eq_emod]
  have:=Ωoo n (show m≠0 by omega)
  have:=Ωod n hm
  have hab:(m.natAbs:Int)=m:=by omega
  split<;>split<;>omega
 have hr3:(r+m).tmod m=n%m:=by
  rw[Int.tmod_eq_emod_of_nonneg (by omega),hr2]
  split
  ·exact Int.emod_eq_of_lt (by omega) (by omega)
  ·rw[Int.add_emod_right];exact Int.emod_eq_of_lt (by omega) (by omega)
 have hr4:0≤n%m∧n%m<m:=⟨Ωoo n (by omega),Ωod n hm⟩
 obtain⟨g,eg⟩:∃g,g=n%m:=⟨_,rfl⟩
 rw[←eg] at hr3 hr4⊢
 have e1:IntKind.i64.wrap (n.tmod m)=r:=by rw[←er];exact ΩnH _ (by omega)
 have e2:IntKind.i64.wrap (r+m)=r+m:=ΩnH _ (by omega)
 have e3:IntKind.i64.wrap ((r+m).tmod m)=g:=by rw[hr3];exact ΩnH _ (by omega)
 have e4:IntKind.i64.wrap r=r:=ΩnH _ (by omega)
 have e5:IntKind.i64.wrap g=g:=ΩnH _ (by omega)
 have e0:¬m=0:=by omega
 have er' :=er.symm
 clear eg er hr2 hr1 hr4 hm hm2
 go_enter Tryz.func16,Tryz.ntmps16
 go_wp2_with fail
 exact⟨rfl,_,results_tmp rfl _ _ _,rfl,rfl⟩
theorem in4:In 4:=by unfold In;constructor<;>omega
theorem in60:In 60:=by unfold In;constructor<;>omega
theorem Ωj8(n:Int):(bidW n).Ok :=by
 refine⟨in60,fun x hx=> ?_,fun x hx=>by simp[bidW] at hx,by show 2≤1000000;omega,by show 0≤1000000;omega,by simp[bidW],by simp[bidW]⟩
 simp only[bidW,Ωou] at hx
 subst hx
 exact in4
theorem rbid31_any(n:Int)(hn:In n)(w:World):Calls Tryz.prog 31 #[.int .i64 n] w fun e w' =>∃A,e= .returned (.agg (Ωae (bidW n) A none 1 0))∧Ωdv w' A [4]∧Only Ωa w w' :=by
 have hmd:∀W,Calls Tryz.prog 16 #[.int .i64 n,.int .i64 4] W fun e w' =>e= .returned (.int .i64 (n%4))∧w' =W:=fun W=>Ωcs n 4 hn (by omega) (by omega) W
 obtain⟨q,eq⟩:∃q:Nat,q=(n%4).toNat :=⟨_,rfl⟩
 have hq:n%4=(q:Int):=by omega
 have hq4:q<4:=by omega
 rw[hq] at hmd
 obtain⟨c,ec⟩:∃c,c=UInt8.ofNat (97+q):=⟨_,rfl⟩
 have hc:(c.toNat:Int)=97+(q:Int):=by rw[ec];simp[UInt8.toNat_ofNat];omega
 have hqt:(bidW n).qt =⟨#[113]⟩++⟨#[c]⟩:=by
  show(⟨#[113,UInt8.ofNat (97+(n%4).toNat)]⟩:ByteArray)=_
  rw[←eq,←ec];rfl
 have w1:IntKind.i64.wrap (97+(q:Int))=(c.toNat:Int):=by rw[←hc];exact ΩnH _ (by have:=c.toNat_lt;omega)
 have w2:IntKind.u8.wrap (c.toNat:Int)=(c.toNat:Int):=by have:=c.toNat_lt;rw[IntKind.wrap_u8];omega
 have w3:(c.toNat:Int)%256=(c.toNat:Int):=by have:=c.toNat_lt;omega
 have L1:(⟨[c].toArray⟩:ByteArray).size =1:=rfl
 have HMD:=Θ hmd
 have HQT:=Θ hqt
 unfold Ωae
 rw[hqt]
 clear hmd hq eq hc ec hqt
 have tok:True:=trivial
 have hby:ΩI ((w.alloc (.cells #[.int .i64 0,.string ⟨#[]⟩,.slice none 0 0,.string ⟨#[]⟩,.slice none 0 0] tBid)).alloc (.cells #[.int .u8 (c.toNat:Int)] 5)) (w.heap.size+1) 0 [c]:=by
  have h:=Ωds (Blk.new (w.alloc (.cells #[.int .i64 0,.string ⟨#[]⟩,.slice none 0 0,.string ⟨#[]⟩,.slice none 0 0] tBid)) 5 ([c].map bv).toArray)
  rw[Ωnw] at h
  exact h
 have HBY:=Θ hby
 clear hby
 go_enter Tryz.func31,Tryz.ntmps31
 go_wp2_with fail
 refine(HMD.out _).mono ?_
 rintro e1 v1 ⟨rfl,rfl⟩
 go_wp2_with (have _t:=tok;refine Ωy rfl 22 9 5 (.tmp 7) rfl (w.heap.size+1) 0 1 1 rfl [c] rfl HBY.out Tryz.underlying22 Tryz.underlying5 Tryz.underlying9 ?_;clear tok _t)
 have hinf:(Tryz.prog.info? tBid).map (·.size)=some 5:=by kernel_rfl
 refine bodyPost_ret (v:= .agg #[.int .i64 60,.string ((⟨#[113]⟩:ByteArray)++⟨#[c]⟩),.slice (some ⟨w.heap.size+1+1,0,none⟩) 1 1,.string ⟨#[]⟩,.slice none 0 0]) (Ωn rfl rfl (((Blk.new w _ _).alloc _).alloc _) Tryz.underlying75 rfl (by simpa using hinf)) rfl ⟨some ⟨w.heap.size+1+1,0,none⟩,rfl,?_,(((Only.refl _ _).alloc _).alloc _).alloc _⟩
 refine .inr ⟨w.heap.size+1+1,0,rfl,by simp,fun j x hx=> ?_⟩
 match j,hx with
 |0,hx=>
  simp only[ΩnF,Option.some.injEq] at hx
  subst hx
  have h:=Blk.new ((w.alloc (.cells #[.int .i64 60,.string ((⟨#[113]⟩:ByteArray)++⟨#[c]⟩),.slice (some ⟨w.heap.size+1+1,0,none⟩) 1 1,.string ⟨#[]⟩,.slice none 0 0] tBid)).alloc (.cells #[.int .u8 (c.toNat:Int)] 5)) 3 #[.int .i64 4]
  rw[Ωnw,Ωnw] at h
  exact h.cell 0
end
section
open Go.RowKit Go.Shelf
attribute [local go_sem ↓ high] Ωcm
abbrev tWd:TypeId:=24
abbrev wdC(d:Wd)(kA:Option Addr)(kc:Nat):Array Value:= #[.int .u8 (d.off:Int),.slice kA d.kinds.length kc,.int .u8 (d.fork:Int)]
noncomputable def setI(d:Wd)(m:Nat):List Pers:=setB d.n++(List.range m).map (fun j=>bidder (60+j))
theorem setI_snoc(d:Wd)(m:Nat):setI d (m+1)=setI d m++[bidder (60+m)]:=by simp[setI,List.range_succ]
theorem setI_two(d:Wd):setI d 2=setW d:=by simp[setI,setW,List.range_succ]
theorem setI_len(d:Wd)(m:Nat):(setI d m).length =d.n+1+m:=by simp[setI,Ωh9]
structure StW(w:World)(R V:Nat)(d:Wd)(m:Nat)(pv:Value)(W:World):Prop where
 res:Blk W R tSu #[.slice none 0 0,.int .i64 0,.slice none 0 0,.slice none 0 0,.int .i64 0,.int .i64 0]
 st:Blk W V tSu #[pv,.int .i64 0,.slice none 0 0,.slice none 0 0,.int .i64 0,.int .i64 0]
 own:ΩT W w.heap.size pv (d.n+1+m) (setI d m)
 only:Only Ωa w W
theorem Ωhm(d:Wd)(hd:d.Ok)(kA:Option Addr)(kc:Nat)(w:World):Calls Tryz.prog 18 #[.agg (wdC d kA kc)] w fun e' w' =>∃pv,e' = .returned (setV pv)∧ΩT w' w.heap.size pv (setW d).length (setW d)∧Only Ωa w w' :=by
 obtain⟨ie,z,hie,hsz,hz,hzc,hby⟩:=Ωcr
 have ho:=hd.off
 have hno:nOff (1+(d.off:Int)%7)=d.n:=by unfold nOff Wd.n;omega
 have hsu:∀W,Calls Tryz.prog 44 #[.int .i64 (1+(d.off:Int)%7),.bool false] W fun e' w' =>∃pv,e' = .returned (setV pv)∧ΩT w' W.heap.size pv (d.n+1) (setB d.n)∧Only Ωa W w' :=fun W=>by
  have h:=setup_own (1+(d.off:Int)%7) ⟨by omega,by omega⟩ W
  rw[hno] at h
  exact h
 have HSU:=Θ hsu
 have HIE:=Θ hie
 have HSZ:=Θ hsz
 have HZ:=Θ hz
 have HZC:=Θ hzc
 have HBY:=Θ hby
 clear hsu hie hsz hz hzc hby hno
 obtain⟨R,eR⟩:∃R,R=w.heap.size+1:=⟨_,rfl⟩
 have HER:=Θ eR
 have hwR1:w.heap.size≤R:=by omega
 have hres0:Blk ((w.alloc (.cells (wdC d kA kc) tWd)).alloc (.cells #[.slice none 0 0,.int .i64 0,.slice none 0 0,.slice none 0 0,.int .i64 0,.int .i64 0] tSu)) R tSu #[.slice none 0 0,.int .i64 0,.slice none 0 0,.slice none 0 0,.int .i64 0,.int .i64 0]:=by
  have h:=Blk.new (w.alloc (.cells (wdC d kA kc) tWd)) tSu #[.slice none 0 0,.int .i64 0,.slice none 0 0,.slice none 0 0,.int .i64 0,.int .i64 0]
  rw[Ωnw,←eR] at h
  exact h
 have hon0:Only Ωa w ((w.alloc (.cells (wdC d kA kc) tWd)).alloc (.cells #[.slice none 0 0,.int .i64 0,.slice none 0 0,.slice none 0 0,.int .i64 0,.int .i64 0] tSu)):=((Only.refl _ _).alloc _).alloc _
 have HRES0:=Θ hres0
 have HON0:=Θ hon0
 clear eR hres0 hon0
 go_enter Tryz.func18,Tryz.ntmps18
 go_wp2_with fail
 refine(HSU.out _).mono ?_
 rintro e1 w1 ⟨pv0,rfl,hpo,hon⟩
 unfold setV
 obtain⟨pA0,pcap0,rfl,hcc0,hcm0⟩:=Ωt hpo
 rw[←HER.out]
 obtain⟨V,eV⟩:∃V,V=w1.heap.size:=⟨_,rfl⟩
 have hszw:w.heap.size+2≤w1.heap.size:=by have:=hon.size;simp at this;omega
 have hst0:Blk (w1.alloc (.cells #[.slice none 0 0,.int .i64 0,.slice none 0 0,.slice none 0 0,.int .i64 0,.int .i64 0] tSu)) V tSu #[.slice none 0 0,.int .i64 0,.slice none 0 0,.slice none 0 0,.int .i64 0,.int .i64 0]:=by rw[eV];exact Blk.new w1 _ _
 have hsr:=ΩfL (n:=d.n+1) (c:=pcap0) (A:=pA0) hst0 rfl
 obtain⟨X,eX⟩:∃X,X=(w1.alloc (.cells #[.slice none 0 0,.int .i64 0,.slice none 0 0,.slice none 0 0,.int .i64 0,.int .i64 0] tSu)).setCells V 0 [.slice pA0 (d.n+1) pcap0,.int .i64 0,.slice none 0 0,.slice none 0 0,.int .i64 0,.int .i64 0]:=⟨_,rfl⟩
 have hRV:R≠V:=by have:=HER.out;omega
 have hwV:w.heap.size≤V:=by omega
 have hX:StW w R V d 0 (.slice pA0 (d.n+1) pcap0) X:=by
  have hbase:(w1.alloc (.cells #[.slice none 0 0,.int .i64 0,.slice none 0 0,.slice none 0 0,.int .i64 0,.int .i64 0] tSu)).ownsRow w.heap.size 67 3 (.slice pA0 (d.n+1) pcap0) (d.n+1) ((setB d.n).flatMap Ωbx):=by
   have h:=World.ownsRow.alloc hpo (.cells #[.slice none 0 0,.int .i64 0,.slice none 0 0,.slice none 0 0,.int .i64 0,.int .i64 0] tSu)
   obtain⟨hl,h⟩:=h
   refine⟨hl,?_⟩
   rcases h with h|⟨g,cap,cur,e1,e2,r⟩
   ·exact .inl h
   ·exact .inr ⟨g,cap,cur,e1,by simp at e2;omega,r⟩
  have hvne:(Value.slice pA0 (d.n+1) pcap0).ownBlock≠some V:=Ωi hbase hst0 (by decide)
  refine⟨?_,?_,?_,?_⟩
  ·rw[eX]
   exact Blk.farCells hRV _ 0 ((HRES0.out.only hon (fun h=>h.elim)).alloc _)
  ·rw[eX];exact Ωj hst0 rfl
  ·rw[eX]
   have hi:setI d 0=setB d.n:=by simp[setI]
   unfold ΩT
   rw[hi]
   exact Ωe hbase (Ωb (S:=fun k=>k=V) (Only.refl _ _) V 0 (.inl rfl) _) (fun k hk e=>hvne (by rw[hk,e]))
  ·rw[eX];exact Ωb ((HON0.out.trans hon).alloc _) V 0 (.inr hwV) _
 rw[eV] at hsr
 have HX:=Θ hX
 have HEX:=Θ eX
 have HEV:=Θ eV
 clear hpo hon hX eX eV hst0 HSU HRES0 HON0 hcc0 hcm0
 go_upto_region 2 with(fail)
 clear hsr
 rw[←HEV.out,←HEX.out]
 refine Ωf (StW w R V d 0 (.slice pA0 (d.n+1) pcap0)) HX.out ?_
 intro Y hY
 have HY:=Θ hY
 clear hY HX
 go_wp2_with fail
 go_loopw [4] (fun i wr=>∃(m:Nat) (pv:Value),i= .int .i64 ((60+m:Nat):Int)∧m≤2∧StW w R V d m pv wr) (fun i _=>62-(intOf i).toNat)
 case atStart=>exact⟨0,_,rfl,by omega,HY.out⟩
 case round=>
  obtain⟨m,pv,rfl,hm2,hS⟩:=hrel
  obtain⟨k,ek⟩:∃k:Nat,k=60+m:=⟨_,rfl⟩
  rw[←ek]
  have hdn:d.n≤7:=by unfold Wd.n;omega
  obtain⟨N,eN⟩:∃N,N=d.n+1+m:=⟨_,rfl⟩
  have hN:N≤10:=by omega
  by_cases hlt:m<2
  ·have hle:(k:Int)<62:=by omega
   obtain⟨pk,epk⟩:∃x:Int,x=(pub (secI k):Int):=⟨_,rfl⟩
   have hpc:Ωbx (bidder k)=[.int .i64 (k:Int),.int .i64 4,.int .i64 pk]:=by rw[epk];rfl
   have hsec:∀W,Calls Tryz.prog 39 #[.int .i64 (k:Int)] W fun e' w' =>e' = .returned (.int .i64 (secI (k:Int)))∧w' =W:=fun W=>Ωcn (k:Int) (by omega) (by omega) W
   have hpub:∀W,Calls Tryz.prog 45 #[.int .i64 (secI (k:Int))] W fun e' w' =>e' = .returned (.int .i64 pk)∧w' =W:=fun W=>by rw[epk];exact ΩfN _ W
   have hcells:(setI d (m+1)).flatMap Ωbx=(setI d m).flatMap Ωbx++[.int .i64 (k:Int),.int .i64 4,.int .i64 pk]:=by
    rw[setI_snoc,Ωn2,ΩnW,List.flatMap_nil,Ωox,←ek,hpc]
   have c0:wr.cell? ⟨V,0,none⟩=some pv:=hS.st.cell 0
   have hSo:=hS.own
   rw[←eN] at hSo
   have HS:=Θ hS
   have HSO:=Θ hSo
   have HSEC:=Θ hsec
   have HPUB:=Θ hpub
   have HCELLS:=Θ hcells
   have hall:∀o,((wr.alloc o).drew).ownsRow w.heap.size 67 3 pv N ((setI d m).flatMap Ωbx):=fun o=>World.ownsRow.alloc HSO.out o
   have hne:pv.ownBlock≠some V:=Ωi HSO.out HS.out.st (by decide)
   have hneR:pv.ownBlock≠some R:=Ωi HSO.out HS.out.res (by decide)
   have hgr:∀o w1,(((wr.alloc o).drew).grownBy w1 pv.ownBlock)→Blk w1 V tSu #[pv,.int .i64 0,.slice none 0 0,.slice none 0 0,.int .i64 0,.int .i64 0]∧Blk w1 R tSu #[.slice none 0 0,.int .i64 0,.slice none 0 0,.slice none 0 0,.int .i64 0,.int .i64 0]∧Only Ωa w w1:=fun o w1 hg=>
    ⟨((HS.out.st.alloc o).drew).grown hg (Ne.symm hne),((HS.out.res.alloc o).drew).grown hg (Ne.symm hneR),((HS.out.only.alloc o).drew).grown hg (fun j e=> .inr (ΩJ HSO.out e).1)⟩
   have HALL:=Θ hall
   have HGR:=Θ hgr
   have HSZZ:=Θ HS.out.only.size
   have ca:∀o,(wr.alloc o).cell? ⟨V,0,none⟩=some pv:=fun o=>(HS.out.st.alloc o).cell 0
   have HEK:=Θ ek
   have HEN:=Θ eN
   have hk62:k≤62:=by omega
   have HM:=Θ hlt
   clear hS hSo hsec hpub hcells hpc hall hne hneR hgr epk ek eN hlt hm2
   go_upto_region 5 with(fail)
   go_region_law (first
    |(refine step_append_lies _ (by rfl) _ _ _ (by rfl) w.heap.size 67 ie z 3 24 Tryz.underlying46 HIE.out HZ.out HSZ.out HBY.out HZC.out (by omega) pv N ((setI d m).flatMap Ωbx) (by rfl) (HALL.out _) ⟨wr.heap.size,0,none⟩ 1 1 [.int .i64 (k:Int),.int .i64 4,.int .i64 pk] (by rfl) (by rfl) (World.news_of_block (cs:= #[.int .i64 (k:Int),.int .i64 4,.int .i64 pk]) (t:=67) (fr:=(0,0)) (heap_alloc_new wr _)) (by simp[Value.oneCell']) (by omega) (by rw[Ωg];omega) (by omega) (by have:=HSZZ.out;simp;omega) (wr.heap.size+1) (by simp) ?_;intro g cap w1 hown1 hgrow hat hlt1;have hb1:=HGR.out _ w1 hgrow;have hf1:=hb1.1.frozen 0;have hc1:=hb1.1.cell 0;simp only[ΩnC,ΩnF] at hc1)
    |(go_simp;go_at_call 39;refine(HSEC.out _).mono ?_;rintro e1 w3 ⟨rfl,rfl⟩)
    |(go_simp;go_at_call 45;refine(HPUB.out _).mono ?_;rintro e2 w2 ⟨rfl,rfl⟩))
   all_goals
    have hgne:(Value.slice (some ⟨g,0,none⟩) (N+1) cap).ownBlock≠some V:=Ωi hown1 hb1.1 (by decide)
    have hnew:StW w R V d (m+1) (.slice (some ⟨g,0,none⟩) (N+1) cap) (w1.setCell ⟨V,0,none⟩ (.slice (some ⟨g,0,none⟩) (N+1) cap)):=by
     refine⟨Blk.far (p:=⟨V,0,none⟩) hb1.2.1 hRV _,Blk.set_ hb1.1 0 _,?_,hb1.2.2.setCell (p:=⟨V,0,none⟩) (.inr hwV) _⟩
     unfold ΩT
     rw[HCELLS.out,show d.n+1+(m+1)=N+1 by have:=HEN.out;omega]
     exact Ωgv hown1 (p:=⟨V,0,none⟩) hgne _
    have HNEW:=Θ hnew
    clear hb1 hgne hnew hown1 hgrow hat hlt1 hf1 hc1 ca c0
    go_wp2_with fail
    go_roundw
    case rel=>exact⟨m+1,_,by have:=HEK.out;go_num,by have:=HM.out;omega,HNEW.out⟩
    case measure=>simp[intOf];omega
  ·obtain rfl:m=2:=by omega
   have hle:¬(k:Int)<62:=by omega
   have hown:=hS.own
   rw[←eN] at hown
   obtain⟨pA,pcap,rfl,_,_⟩:=Ωt hown
   have r0:=hS.res.cell 0
   have r1:=hS.res.cell 1
   have r2:=hS.res.cell 2
   have r3:=hS.res.cell 3
   have r4:=hS.res.cell 4
   have r5:=hS.res.cell 5
   have c0:=hS.st.cell 0
   have c1:=hS.st.cell 1
   have c2:=hS.st.cell 2
   have c3:=hS.st.cell 3
   have c4:=hS.st.cell 4
   have c5:=hS.st.cell 5
   simp only[ΩnC,ΩnF,ΩnK] at c0 c1 c2 c3 c4 c5 r0 r1 r2 r3 r4 r5
   have hinf:(Tryz.prog.info? tSu).map (·.size)=some 6:=by kernel_rfl
   have hb2:Blk (wr.setCells R 0 [.slice pA N pcap,.int .i64 0,.slice none 0 0,.slice none 0 0,.int .i64 0,.int .i64 0]) R tSu #[.slice pA N pcap,.int .i64 0,.slice none 0 0,.slice none 0 0,.int .i64 0,.int .i64 0]:=Ωj hS.res rfl
   have hst:=ΩfL (n:=N) (c:=pcap) (A:=pA) hS.res rfl
   have ho2:Only Ωa w (wr.setCells R 0 [.slice pA N pcap,.int .i64 0,.slice none 0 0,.slice none 0 0,.int .i64 0,.int .i64 0]):=Ωb hS.only R 0 (.inr hwR1) _
   have hsl2:ΩT (wr.setCells R 0 [.slice pA N pcap,.int .i64 0,.slice none 0 0,.slice none 0 0,.int .i64 0,.int .i64 0]) w.heap.size (.slice pA N pcap) (setW d).length (setW d):=by
    have h1:=Ωi hown hS.res (by decide)
    have h2:ΩT (wr.setCells R 0 [.slice pA N pcap,.int .i64 0,.slice none 0 0,.slice none 0 0,.int .i64 0,.int .i64 0]) w.heap.size (.slice pA N pcap) N (setI d 2):=
     Ωe hown (Ωb (S:=fun k=>k=R) (Only.refl _ _) R 0 (.inl rfl) _) (fun k hk e=>h1 (by rw[hk,e]))
    rw[←setI_two]
    rw[setI_len,←eN];exact h2
   have HB2:=Θ hb2
   have HO2:=Θ ho2
   have HSL:=Θ hsl2
   have HI:=Θ hinf
   clear hS hsl2 hb2 ho2 hinf hown eN hlt hm2
   go_wp2_with fail
   refine bodyPost_ret (v:= .agg #[.slice pA N pcap,.int .i64 0,.slice none 0 0,.slice none 0 0,.int .i64 0,.int .i64 0]) (Ωn rfl rfl HB2.out Tryz.underlying50 rfl (by simpa using HI.out)) rfl ⟨_,rfl,HSL.out,HO2.out⟩
theorem wsetup_any(d:Wd)(hd:d.Ok)(kA:Option Addr)(kc:Nat)(w:World):Calls Tryz.prog 18 #[.agg (wdC d kA kc)] w fun e' w' =>∃pv,e' = .returned (setV pv)∧Ωa6 w' pv (setW d)∧Only Ωa w w' :=
 (Ωhm d hd kA kc w).mono (fun _ _ ⟨pv,h1,h2,h3⟩=>⟨pv,h1,ΩT.sl h2,h3⟩)
end
section
open Go.RowKit Go.Shelf
attribute [local go_sem ↓ high] Ω2
def Ωlk(w:World)(base:Nat)(v:Value)(n:Nat)(L:List ByteArray):Prop:=w.ownsRow base 9 1 v n (L.map (fun x=>Value.string x))
theorem Ωlk.sl{w:World}{base:Nat}{v:Value}{L:List ByteArray}(h:Ωlk w base v L.length L):StSl w v L:=by
 obtain⟨A,cap,rfl,h1,h2⟩:=Ωt h
 refine⟨A,cap,rfl,h1,h2,fun i s hs=> ?_⟩
 have hlt:i<L.length:=(Ωnx.1 hs).1
 obtain⟨g,c,e,_,_,_,_⟩:=Ωcd h (by omega)
 simp only[Value.slice.injEq,true_and] at e
 obtain⟨rfl,rfl⟩:=e
 refine⟨g,0,rfl,?_⟩
 have h3:=World.ownsRow.cells h rfl i (.string s) (by rw[Ωn0,hs];rfl)
 rw[ΩoK,ΩnR] at h3
 rw[ΩnR]
 exact h3
theorem leavesE_len(l:List Ev):(Ωdf l).length =l.length:=by unfold Ωdf;rw[ΩnN]
theorem Ωld{t:ByteArray}{l:List UInt8}(h:t.data.toList=l):t=⟨l.toArray⟩:=by
 cases t with
 |mk d=>simp only at h;subst h;simp
theorem rleaves_any(l:List Ev)(hok:∀e∈l,e.Ok∧e.name.size≤100∧e.text.size≤100)(hl:l.length≤1000)(sv:Value)(w:World)(h:EvSl w sv l):Calls Tryz.prog 12 #[sv] w fun e w' =>∃rv,e= .returned rv∧Ωlk w' w.heap.size rv l.length (Ωdf l)∧Only Ωa w w' :=by
 obtain⟨i0,hi0,hz0,hz1,hz2⟩:=info_parts ΩlY
 obtain⟨A,cap0,rfl,hc1,hc2,hev⟩:=h
 have HEV:=Θ hev
 have HOK:=Θ hok
 clear hev hok
 go_enter Tryz.func12,Tryz.ntmps12
 go_wp2_with fail
 go_loopw [3,4] (fun v i wr=>∃k:Nat,i= .int .i64 k∧k≤l.length∧Ωlk wr w.heap.size v k (Ωdf (l.take k))∧Only Ωa w wr) (fun _ i _=>l.length-(intOf i).toNat)
 case atStart=>exact⟨0,rfl,by omega,⟨rfl,.inl ⟨rfl,rfl⟩⟩,Only.refl _ _⟩
 case round=>
  obtain⟨k,rfl,hk,hown,ho⟩:=hrel
  have HOWN:=Θ hown
  have HO:=Θ ho
  obtain⟨ao,cap,hv,hcc,hcm⟩:=Ωt hown
  subst hv
  have hwz:=ho.size
  clear hown ho
  by_cases hlt:k<l.length
  ·obtain⟨x,hx⟩:∃x,l[k]? =some x:=⟨_,Ωnu hlt⟩
   obtain⟨hxo,hx1,hx2⟩:=HOK.out x (ΩnE hx)
   obtain⟨g,o,rfl,hg,hr⟩:=HEV.out k x hx
   have hld:=ΩaY (Ωcq hr HO.out) hxo.prev
   have hen:=Ωd5 x hxo (by omega) (by omega) wr
   have hnx:Ωdf (l.take (k+1))=Ωdf (l.take k)++[⟨(ΩaJ x).toArray⟩]:=by
    rw[ΩnO,hx,ΩnS];unfold Ωdf;rw[Ωow];rfl
   have ik:(k:Int)<l.length:=by omega
   have HEN:=Θ hen
   have HNX:=Θ hnx
   clear hx hr hen hnx hxo
   go_wp2_with fail
   refine HEN.out.mono ?_
   rintro e w1 ⟨t,rfl,ht,ho1⟩
   have hte:=Ωld ht
   subst hte
   have hw1:=ho1.size
   have HO1:=Θ (HO.out.trans ho1)
   have HOW1:=Θ (Ωe HOWN.out ho1 (fun _ _ e=>e))
   clear ho1 ht
   go_wp2_with (at_builtin;refine wpList_append_own _ rfl _ _ 28 rfl w.heap.size 9 i0 (.string ⟨#[]⟩) 1 16 Tryz.underlying28 hi0 hz0 hz1 hz2 rfl (by decide) _ _ _ rfl (HOW1.out.alloc _) ⟨w1.heap.size,0,none⟩ 1 1 [.string ⟨(ΩaJ x).toArray⟩] rfl rfl (fun j u hu=>by match j,hu with|0,hu=>simp at hu;subst hu;simp[Addr.add]) (fun u hu=>by simp at hu;subst hu;rfl) (by unfold maxLen;omega) (by omega) (by simp;omega) ?_;intro v' w2 hown' hgrow _;have HOW2:=Θ hown';have HO2:Hid (Only Ωa w w2):=Θ ((HO1.out.alloc _).grown hgrow (fun b e=> .inr (HOW1.out.lt b e).1));clear hown' hgrow)
   go_roundw
   case rel=>exact⟨k+1,by go_num,by omega,by unfold Ωlk;rw[HNX.out,Ωow];exact HOW2.out,HO2.out⟩
   case measure=>simp[intOf];omega
  ·obtain rfl:k=l.length:=by omega
   have hall:l.take l.length=l:=ΩnI (Ωnv _)
   have ik:¬(l.length:Int)<l.length:=by omega
   rw[hall] at HOWN
   clear hall
   go_wp2_with fail
   refine⟨rfl,_,results_tmp rfl _ _ _,?_⟩
   exact⟨_,rfl,HOWN.out,HO.out⟩
end
section
open Go.RowKit Go.Shelf
attribute [local go_sem ↓ high] ΩcG ΩG
def bitW(m id:Nat):Bool:=decide (m/2^id%2=1)
theorem Ωnn(y id:Nat):(bits .and .u16 ((y:Int)/2^id) 1==1)=bitW y id:=by
 have e:(y:Int)/2^id=((y/2^id:Nat):Int):=by
  rw[Int.natCast_ediv];congr 1
 have h1:∀z:Nat,bits .and .u16 (z:Int) 1=((z%2:Nat):Int):=fun z=>by
  show IntKind.u16.wrap ((BitVec.ofInt 16 (z:Int)&&& BitVec.ofInt 16 1).toNat :Int)=_
  have e:(BitVec.ofInt 16 (z:Int)&&& BitVec.ofInt 16 1).toNat =z%2:=by
   rw[BitVec.toNat_and,show(BitVec.ofInt 16 1).toNat =1 from by decide,Nat.and_one_is_mod,show BitVec.ofInt 16 (z:Int)=BitVec.ofNat 16 z by simp,BitVec.toNat_ofNat]
   omega
  rw[e]
  simp[IntKind.wrap,IntKind.bits,IntKind.signed]
  omega
 rw[e,h1,bitW,Ωoy]
 simp
 omega
noncomputable def Ωly(odd:Nat)(h:Hd)(id:Nat):Vt:=Ωga (id:Int) (secI (id:Int)+if bitW odd id then 1 else 0) h
noncomputable def ΩaZ(yes odd:Nat)(h:Hd):Nat→List Vt
 |0=>[]
 |n+1=>ΩaZ yes odd h n++if bitW yes (n+1) then [Ωly odd h (n+1)] else []
noncomputable def Ω7(d:Wd)(h:Hd)(yes odd:Nat):List Vt:=ΩaZ yes odd h d.n
theorem Ωe1(yes odd:Nat)(h:Hd):∀n,(ΩaZ yes odd h n).length≤n
 |0=>Ωnv _
 |n+1=>by
  have:=Ωe1 yes odd h n
  simp only[ΩaZ,ΩnA]
  split<;>simp<;>omega
theorem ΩbV(d:Wd)(h:Hd)(yes odd:Nat):(Ω7 d h yes odd).length≤7:=by
 have:=Ωe1 yes odd h d.n
 have:d.n≤7:=by unfold Wd.n;omega
 unfold Ω7
 omega
theorem ΩiM(yes odd:Nat)(h:Hd)(ok:h.Ok):∀n,n≤100→Ω4 (ΩaZ yes odd h n)
 |0,_=>fun v hv=>by simp[ΩaZ] at hv
 |n+1,hn=>fun v hv=>by
  simp only[ΩaZ,ΩoH] at hv
  rcases hv with hv|hv
  ·exact ΩiM yes odd h ok n (by omega) v hv
  ·split at hv
   ·simp only[Ωou] at hv
    subst hv
    exact Ωlx ⟨by omega,by omega⟩ ok
   ·simp at hv
structure VwS(w:World)(D H:Nat)(d:Wd)(h:Hd)(kA:Option Addr)(kc:Nat)(yes odd k:Nat)(ov:Value)(W:World):Prop where
 wd:Blk W D tWd (wdC d kA kc)
 hd:Blk W H 37 (hdC h).toArray
 own:ΩH W w.heap.size ov (ΩaZ yes odd h k).length (ΩaZ yes odd h k)
 only:Only Ωa w W
theorem ΩeZ(d:Wd)(hd:d.Ok)(h:Hd)(ok:h.Ok)(yes odd:Nat)(_hy:yes<65536)(_ho:odd<65536)(kA:Option Addr)(kc:Nat)(w:World):Calls Tryz.prog 14 #[.agg (wdC d kA kc),.agg (hdC h).toArray,.int .u16 (yes:Int),.int .u16 (odd:Int)] w fun e' w' =>∃rv,e' = .returned rv∧ΩH w' w.heap.size rv (Ω7 d h yes odd).length (Ω7 d h yes odd)∧Only Ωa w w' :=by
 obtain⟨ie,z,hie,hsz,hz,hzc,hby⟩:=ΩdY
 obtain⟨D,eD⟩:∃D,D=w.heap.size:=⟨_,rfl⟩
 obtain⟨H,eH⟩:∃H,H=D+1:=⟨_,rfl⟩
 have hoff:=hd.off
 have hs0:VwS w D H d h kA kc yes odd 0 (.slice none 0 0) ((w.alloc (.cells (wdC d kA kc) tWd)).alloc (.cells (hdC h).toArray 37)):=by
  have h1:=Blk.new (w.alloc (.cells (wdC d kA kc) tWd)) 37 (hdC h).toArray
  rw[Ωnw,←eD,←eH] at h1
  exact⟨by rw[eD];exact(Blk.new w _ _).alloc _,h1,⟨rfl,.inl ⟨rfl,rfl⟩⟩,((Only.refl _ _).alloc _).alloc _⟩
 have HS0:=Θ hs0
 have HIE:=Θ hie
 have HSZ:=Θ hsz
 have HZ:=Θ hz
 have HZC:=Θ hzc
 have HBY:=Θ hby
 have HED:=Θ eD
 have HOKH:=Θ ok
 have HEH:=Θ eH
 have hdn:d.n≤7:=by unfold Wd.n;omega
 have hdn2:1+(d.off:Int)%7=(d.n:Int):=by unfold Wd.n;omega
 clear hs0 hie hsz hz hzc hby eD eH ok
 go_enter Tryz.func14,Tryz.ntmps14
 go_wp2_with fail
 refine Ωf (VwS w D H d h kA kc yes odd 0 (.slice none 0 0)) HS0.out ?_
 intro Y hY
 have HY:=Θ hY
 clear hY HS0
 rw[←HED.out,←HEH.out]
 clear HED HEH
 go_loopw [9,10] (fun ov i wr=>∃q:Nat,i= .int .i64 (q:Int)∧1≤q∧q≤d.n+1∧VwS w D H d h kA kc yes odd (q-1) ov wr) (fun _ i _=>9-(intOf i).toNat)
 case atStart=>exact⟨1,rfl,by omega,by omega,HY.out⟩
 case round=>
  clear HY
  obtain⟨q,rfl,hq1,hq2,hS⟩:=hrel
  obtain⟨N,eN⟩:∃N,N=(ΩaZ yes odd h (q-1)).length :=⟨_,rfl⟩
  have hN:N≤8:=by have:=Ωe1 yes odd h (q-1);omega
  have c0:=hS.wd.cell 0
  simp only[ΩnC,ΩnF] at c0
  have hown:=hS.own
  rw[←eN] at hown
  have hq8:q≤8:=by omega
  by_cases hlt:q≤d.n
  ·have ik:(q:Int)≤1+(d.off:Int)%7:=by omega
   have hsucc:ΩaZ yes odd h q=ΩaZ yes odd h (q-1)++if bitW yes q then [Ωly odd h q] else []:=by
    obtain⟨m,rfl⟩:∃m,q=m+1:=⟨q-1,by omega⟩
    rfl
   have by1:=Ωnn yes q
   have by2:=Ωnn odd q
   have qs:q+1-1=q:=by omega
   cases hb:bitW yes q with
   |false=>
    rw[hb] at hsucc by1
    have hS2:VwS w D H d h kA kc yes odd q u9 wr:=⟨hS.wd,hS.hd,by rw[hsucc];simpa using hS.own,hS.only⟩
    have HS2:=Θ hS2
    clear hS hS2 hsucc hown eN by2
    go_wp2_with fail
    go_roundw
    case rel=>exact⟨q+1,by go_num,by omega,by omega,by rw[qs];exact HS2.out⟩
    case measure=>simp[intOf];omega
   |true=>
    rw[hb] at hsucc by1
    obtain⟨sc,esc⟩:∃sc:Int,sc=secI (q:Int)+if bitW odd q then 1 else 0:=⟨_,rfl⟩
    obtain⟨V,eV⟩:∃V,V=Ωly odd h q:=⟨_,rfl⟩
    have vo:V.Ok:=by rw[eV];exact Ωlx ⟨by omega,by omega⟩ HOKH.out
    have hvt:∀W,Calls Tryz.prog 41 #[.int .i64 (q:Int),.int .i64 sc,.agg (hdC h).toArray] W fun e w' =>e= .returned (.agg (vtC V).toArray)∧Only Ωa W w' :=fun W=>by rw[eV,esc];exact rqvote_any _ _ h HOKH.out W
    have hsec:∀W,Calls Tryz.prog 39 #[.int .i64 (q:Int)] W fun e' w' =>e' = .returned (.int .i64 (1000+7*(q:Int)))∧w' =W:=fun W=>Ωcn (q:Int) (by omega) (by omega) W
    have hbs:=Ωg9 V vo.head.root
    have htk:(ΩaZ yes odd h q).flatMap vtC=(ΩaZ yes odd h (q-1)).flatMap vtC++vtC V:=by
     rw[hsucc,ΩnV rfl,Ωn2,eV]
     simp
    have hlen:(ΩaZ yes odd h q).length =N+1:=by rw[hsucc,ΩnV rfl,ΩnA,←eN];rfl
    have HS:=Θ hS
    have HOWN:=Θ hown
    have HVT:=Θ hvt
    have HSEC:=Θ hsec
    have HTK:=Θ htk
    have HLEN:=Θ hlen
    have HVO:=Θ vo
    have hld:(Ωa4 (.pointer (some ⟨H,0,none⟩))).run Tryz.prog wr= .ok (.agg (hdC h).toArray) wr:=ΩC (Ωd hS.hd) HOKH.out.root
    have HESC:=Θ esc
    clear hS hown hvt hsec htk hlen vo eV eN hsucc esc
    cases hbo:bitW odd q with
    |false=>
     rw[hbo] at by2
     have es:=HESC.out
     rw[hbo] at es
     obtain rfl:sc=1000+7*(q:Int):=by rw[es];simp[secI]
     clear es
     go_wp2_with fail
     refine(HSEC.out _).mono ?_
     rintro e0 w0 ⟨rfl,rfl⟩
     go_wp2_with fail
     refine(HVT.out _).mono ?_
     rintro e1 w1 ⟨rfl,ho1⟩
     have hsz1:=(HS.out.only.trans ho1).size
     have HO1:=Θ ho1
     have HOW1:=Θ (Ωe HOWN.out ho1 (fun _ _ e=>e))
     clear ho1 c0 hld
     go_wp2_with (at_builtin;refine wpList_append_lies _ rfl _ _ 32 rfl w.heap.size 43 ie z 36 ie.bytes Tryz.underlying32 HIE.out HZ.out HSZ.out rfl HZC.out (by omega) u9 N ((ΩaZ yes odd h (q-1)).flatMap vtC) rfl (World.ownsRow.alloc HOW1.out _) _ 1 1 (vtC V) rfl (by rw[Ω0 HVO.out.head.root]) (World.news_of_block (cs:=(vtC V).toArray) (t:=43) (fr:=(0,0)) (NewB.new _ V)) (Ωc2 V) (by omega) (by rw[Ωg];omega) (by have:=HBY.out;exact Ωnz (Ωov (show N+1≤40 by omega) this) (by omega)) (by simp;omega) _ rfl ?_;intro g3 cap3 w3 hown3 hgrow3 hat3 hlt3)
     have hnew:VwS w D H d h kA kc yes odd q (.slice (some ⟨g3,0,none⟩) (N+1) cap3) w3:=by
      have hne:∀b cs t,Blk w1 b t cs→t≠43→u9.ownBlock≠some b:=fun b cs t hb ht=>Ωi HOW1.out hb (Ne.symm ht)
      have b1:=HS.out.wd.only HO1.out (fun e=>e)
      have b2:=HS.out.hd.only HO1.out (fun e=>e)
      refine⟨(b1.alloc _).grown hgrow3 (Ne.symm (hne _ _ _ b1 (by decide))),(b2.alloc _).grown hgrow3 (Ne.symm (hne _ _ _ b2 (by decide))),?_,((HS.out.only.trans HO1.out).alloc _).grown hgrow3 (fun j e=> .inr (ΩJ HOW1.out e).1)⟩
      unfold ΩH
      rw[HTK.out,HLEN.out]
      exact hown3
     have HNEW:=Θ hnew
     clear hnew hown3 hgrow3 hat3 hlt3 hbs
     go_wp2_with fail
     go_roundw
     case rel=>exact⟨q+1,by go_num,by omega,by omega,by rw[qs];exact HNEW.out⟩
     case measure=>simp[intOf];omega
    |true=>
     rw[hbo] at by2
     have es:=HESC.out
     rw[hbo] at es
     obtain rfl:sc=1000+7*(q:Int)+1:=by rw[es];simp[secI]
     clear es
     go_wp2_with fail
     refine(HSEC.out _).mono ?_
     rintro e0 w0 ⟨rfl,rfl⟩
     go_wp2_with fail
     refine(HVT.out _).mono ?_
     rintro e1 w1 ⟨rfl,ho1⟩
     have hsz1:=(HS.out.only.trans ho1).size
     have HO1:=Θ ho1
     have HOW1:=Θ (Ωe HOWN.out ho1 (fun _ _ e=>e))
     clear ho1 c0 hld
     go_wp2_with (at_builtin;refine wpList_append_lies _ rfl _ _ 32 rfl w.heap.size 43 ie z 36 ie.bytes Tryz.underlying32 HIE.out HZ.out HSZ.out rfl HZC.out (by omega) u9 N ((ΩaZ yes odd h (q-1)).flatMap vtC) rfl (World.ownsRow.alloc HOW1.out _) _ 1 1 (vtC V) rfl (by rw[Ω0 HVO.out.head.root]) (World.news_of_block (cs:=(vtC V).toArray) (t:=43) (fr:=(0,0)) (NewB.new _ V)) (Ωc2 V) (by omega) (by rw[Ωg];omega) (by have:=HBY.out;exact Ωnz (Ωov (show N+1≤40 by omega) this) (by omega)) (by simp;omega) _ rfl ?_;intro g3 cap3 w3 hown3 hgrow3 hat3 hlt3)
     have hnew:VwS w D H d h kA kc yes odd q (.slice (some ⟨g3,0,none⟩) (N+1) cap3) w3:=by
      have hne:∀b cs t,Blk w1 b t cs→t≠43→u9.ownBlock≠some b:=fun b cs t hb ht=>Ωi HOW1.out hb (Ne.symm ht)
      have b1:=HS.out.wd.only HO1.out (fun e=>e)
      have b2:=HS.out.hd.only HO1.out (fun e=>e)
      refine⟨(b1.alloc _).grown hgrow3 (Ne.symm (hne _ _ _ b1 (by decide))),(b2.alloc _).grown hgrow3 (Ne.symm (hne _ _ _ b2 (by decide))),?_,((HS.out.only.trans HO1.out).alloc _).grown hgrow3 (fun j e=> .inr (ΩJ HOW1.out e).1)⟩
      unfold ΩH
      rw[HTK.out,HLEN.out]
      exact hown3
     have HNEW:=Θ hnew
     clear hnew hown3 hgrow3 hat3 hlt3 hbs
     go_wp2_with fail
     go_roundw
     case rel=>exact⟨q+1,by go_num,by omega,by omega,by rw[qs];exact HNEW.out⟩
     case measure=>simp[intOf];omega
  ·have ik:¬(q:Int)≤1+(d.off:Int)%7:=by omega
   have hqe:q-1=d.n:=by omega
   have HS:=Θ hS
   rw[hqe] at HS
   clear hS hown eN
   go_wp2_with fail
   go_ret
   exact⟨_,rfl,HS.out.own,HS.out.only⟩
end
section
open Go.RowKit Go.Shelf
theorem Ωiw(e:Ev):∀u∈evC e,u.oneCell' =true:=fun v hv=>by
 unfold evC at hv
 simp only[ΩoH,Ωn3,Ωol,or_false,Ωos] at hv
 rcases hv with(rfl|rfl|rfl|rfl|rfl|rfl|rfl|rfl|rfl|rfl|rfl|rfl)|⟨x,_,rfl⟩|rfl|rfl<;>rfl
theorem ΩkS:∃ie z,Tryz.prog.info? tEv=some ie∧ie.size=46∧ie.zero=some z∧z.cells.size=46∧ie.bytes≤1000:=by
 have h0:(Tryz.prog.info? tEv).map (fun i=>i.size)=some 46:=by kernel_rfl
 have h3:(Tryz.prog.info? tEv).map (fun i=>decide (i.bytes≤1000))=some true:=by kernel_rfl
 have h4:((Tryz.prog.info? tEv).bind (·.zero)).map (fun z=>z.cells.size)=some 46:=by kernel_rfl
 cases hie:Tryz.prog.info? tEv with
 |none=>rw[hie] at h0;cases h0
 |some ie=>
  rw[hie] at h0 h3 h4
  simp only[Ωoe,Option.some.injEq,Option.bind_some,decide_eq_true_eq] at h0 h3 h4
  cases hz:ie.zero with
  |none=>rw[hz] at h4;cases h4
  |some z=>
   rw[hz] at h4
   simp only[Ωoe,Option.some.injEq] at h4
   exact⟨ie,z,rfl,h0,hz,h4,h3⟩
def EvO(w:World)(base:Nat)(v:Value)(n:Nat)(M:List Ev):Prop:=w.ownsRow base tEv 46 v n (M.flatMap evC)
theorem EvO.sl{w:World}{base:Nat}{v:Value}{M:List Ev}(h:EvO w base v M.length M)(hM:∀e∈M,e.prev.length=32):EvSl w v M:=by
 obtain⟨A,cap,rfl,h1,h2⟩:=Ωt h
 refine⟨A,cap,rfl,h1,h2,fun i e he=> ?_⟩
 have hlt:i<M.length:=(Ωnx.1 he).1
 obtain⟨g,c,e2,_,hg,_,_⟩:=Ωcd h (by omega)
 simp only[Value.slice.injEq,true_and] at e2
 obtain⟨rfl,rfl⟩:=e2
 refine⟨g,0,rfl,hg,fun j x hj=> ?_⟩
 have hj2:j<46:=by
  have:=(Ωnx.1 hj).1
  rw[Ωaa (hM e (ΩnE he))] at this;exact this
 have hfl:∀(M:List Ev),(∀e∈M,e.prev.length=32)→∀i e,M[i]? =some e→∀j x,j<46→(evC e)[j]? =some x→(M.flatMap evC)[i*46+j]? =some x:=by
  intro M
  induction M with
  |nil=>intro _ i e he;simp at he
  |cons a M ih=>
   intro hM i e he j x hj hx
   have h46:(evC a).length =46:=Ωaa (hM a (by simp))
   rw[ΩnW]
   cases i with
   |zero=>
    simp only[ΩnF,Option.some.injEq] at he
    subst he
    rw[Ωn1 (by omega)]
    simpa using hx
   |succ i=>
    rw[ΩnM (by rw[h46];omega),h46,show(i+1)*46+j-46=i*46+j by omega]
    exact ih (fun x hx=>hM x (by simp[hx])) i e (by simpa using he) j x hj hx
 have h3:=World.ownsRow.cells h rfl (i*46+j) x (hfl M hM i e he j x hj2 hj)
 rw[ΩoK,ΩnR] at h3
 rw[ΩnR]
 exact h3
def Ωni(parts:Array (Nat×Value)):Sem Value:=Instr.buildSlice 30 1 parts
theorem evBs1_eq(parts:Array (Nat×Value)):Instr.buildSlice 30 1 parts=Ωni parts:=rfl
theorem evBs1_run(v:Ev)(hl:v.prev.length=32)(W:World):(Ωni #[(0,.agg (evC v).toArray)]).run Tryz.prog W= .ok (.slice (some ⟨W.heap.size,0,none⟩) 1 1) (W.alloc (.cells (evC v).toArray 79)):=by
 obtain⟨ie,z,hie,hsz,hz,hzc,hby⟩:=ΩkS
 have h46:(evC v).length =46:=Ωaa hl
 have e:([Value.agg (evC v).toArray].flatMap fun u=>u.cells.toList).toArray =(evC v).toArray :=by simp[Value.cells]
 have h9:∀C:Array Value,C.size=46→Instr.fill (fun i=>some (i*46,46)) C [(0,Value.agg (evC v).toArray)]=some (evC v).toArray :=fun C hC=>by
  have h8:=Great.fill_whole (s:=46) (by omega) [Value.agg (evC v).toArray] C (by intro u hu;simp only[Ωn3,Ωol,or_false] at hu;subst hu;show(evC v).toArray.size =46;rw[ΩnJ,h46]) (by rw[hC];rfl)
  rw[e] at h8
  exact h8
 exact run_buildSlice (P:=Tryz.prog) W 30 79 1 #[(0,.agg (evC v).toArray)] (evC v).toArray ie z Tryz.underlying30 hie hz (by rw[hsz];omega) (by rw[hsz];omega) (by rw[hsz];exact h9 _ (by simp))
def evBd(parts:Array (Nat×Value)):Sem Value:=Instr.build 79 parts
theorem evBd_eq(parts:Array (Nat×Value)):Instr.build 79 parts=evBd parts:=rfl
def ΩbD(k:Int)(last:Hs):Ev:=⟨k,3,50,k,0,0,0,0,⟨#[]⟩,ΩlC,0,0,last,0,0⟩
theorem evBd_built(k:Int):∀(l:List UInt8),l.length=32→Tryz.prog.built 79 [(0,.int .i64 k),(1,.int .i64 3),(2,.int .i64 50),(3,.int .i64 k),(9,.string ⟨#[97,110,115,119,101,114]⟩),(11,.agg (l.map bv).toArray)]=some (evC (ΩbD k l)).toArray
 |[x0,x1,x2,x3,x4,x5,x6,x7,x8,x9,x10,x11,x12,x13,x14,x15,x16,x17,x18,x19,x20,x21,x22,x23,x24,x25,x26,x27,x28,x29,x30,x31],_=>by kernel_rfl
theorem evBd_run(k:Int)(l:List UInt8)(hl:l.length=32)(W:World):(evBd #[(0,.int .i64 k),(1,.int .i64 3),(2,.int .i64 50),(3,.int .i64 k),(9,.string ⟨#[97,110,115,119,101,114]⟩),(11,.agg (l.map bv).toArray)]).run Tryz.prog W= .ok (.agg (evC (ΩbD k l)).toArray) W:=
 run_build (P:=Tryz.prog) W 79 _ _ (evBd_built k l hl)
end
end Go.Proofs.YtgalfohobgjelaaGreatDoor
