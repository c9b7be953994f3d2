/- What is proved here:several parts. a bid's text,by the reference. Conditions:the bid is well and its texts are short. · a remainder;the bids of the client's laws. Condition:the number is an int. · the setup of the client's worlds. Condition:the world's numbers are bytes. · the leaves of events. Conditions:the events are well and short,and there are few. · votes for a head,by bits. Conditions:the numbers are words of 16 bits,the head is well. -/
import Derived.Test.YtgalfohobgjelaaGreatDoorKp24
import Derived.Test.YtgalfohobgjelaaGreatDoorKp25
import Derived.BigQuiet
namespace Go.Proofs.YtgalfohobgjelaaGreatDoor
open Go.RowKit Go.Shelf
structure RefK (w:World) (R:Nat) (cs:Array Value) (W:World):Prop where
 box:Blk W R tBid cs
 only:Only NoneOf w W
theorem RefK.none_ {w:World} {R:Nat} {cs:Array Value} {W W':World} (h:RefK w R cs W) (ho:Only NoneOf W W'):RefK w R cs W':=⟨h.box.only ho (fun h=>h.elim),h.only.trans ho⟩
theorem wordsN_take {l:List Int} {k:Nat} (h:∀x∈l,In x) (hl:l.length≤1000000):(wordsN (l.take k)).length≤22000000:=by
 have:=wordsN_len (l.take k) (fun x hx=>h x (List.mem_of_mem_take hx))
 rw [List.length_take] at this
 omega
set_option maxRecDepth 100000 in
set_option maxHeartbeats 2000000 in
theorem rencode16_any (d:Bd) (hd:d.Ok) {qA pA:Option Addr} {qk pk:Nat} {w:World} (hq:IntSl w qA d.qc) (hp:IntSl w pA d.pc):
  Calls Tryz.prog 37 #[.agg (bdCells d qA pA qk pk)] w (RetStr (encB d) w):=by
 obtain⟨hid,hqi,hpi,hqt,hpt,hql,hpl⟩:=hd
 obtain⟨R,eR⟩:∃R,R=w.heap.size:=⟨_,rfl⟩
 have hk:RefK w R (bdCells d qA pA qk pk) (w.alloc (.cells (bdCells d qA pA qk pk) tBid)):=⟨by rw [eR];exact Blk.new w _ _,(Only.refl _ _).alloc _⟩
 have HK:=Lib.hid hk
 have HQ:=Lib.hid hq
 have HP:=Lib.hid hp
 have HQI:=Lib.hid hqi
 have HPI:=Lib.hid hpi
 have HER:=Lib.hid eR
 obtain⟨T1,eT1⟩:∃T,T=wBid++ [32] ++Lib.itoa d.bidder++ [10] ++wQuality:=⟨_,rfl⟩
 obtain⟨T2,eT2⟩:∃T,T=T1++wordsN d.qc++ [10] ++hexL d.qt.data.toList++ [10] ++wPrice:=⟨_,rfl⟩
 have li:=itoa_len hid.1 hid.2
 have lT1:T1.length≤33:=by
  rw [eT1]
  have q1:wBid.length=3:=rfl
  have q2:wQuality.length=7:=rfl
  simp only [List.length_append,List.length_singleton]
  omega
 have lw1:=wordsN_take (k:=d.qc.length) hqi hql
 rw [List.take_length] at lw1
 have lT2:T2.length≤24001000:=by
  rw [eT2]
  have q3:wPrice.length=5:=rfl
  simp only [List.length_append,List.length_singleton,hexL_len,←size_list]
  omega
 have HT1:=Lib.hid eT1
 have HT2:=Lib.hid eT2
 clear hk hq hp hqi hpi eR eT1 eT2
 go_enter Tryz.func37,Tryz.ntmps37
 go_wp2_with fail
 rw [←HER.out]
 refine(rdec16_any d.bidder hid _).mono ?_
 rintro e w1 ⟨t1,rfl,ht1,ho1⟩
 have K1:=Lib.hid (HK.out.none_ ho1)
 have l1:t1.size≤21:=by rw [size_list,ht1];exact li
 have a1:¬9223372036854775807<4+t1.size:=by omega
 have a2:¬9223372036854775807<4+t1.size+8:=by omega
 have HT:=Lib.hid ht1
 clear ho1 ht1
 go_wp2_with fail
 go_loopw [3,4] (fun v i wr=> ∃(k:Nat) (s:ByteArray),i= .int .i64 k∧v= .string s∧k≤d.qc.length∧s.data.toList=T1++wordsN (d.qc.take k)∧RefK w R (bdCells d qA pA qk pk) wr) (fun _ i _=>d.qc.length - (intOf i).toNat)
 case atStart=>exact⟨0,_,rfl,rfl,by omega,by rw [HT1.out];simp [HT.out,wordsN,wBid,wQuality],K1.out⟩
 case round=>
  obtain⟨k,s,rfl,rfl,hk,hs,hK⟩:=hrel
  have hsz:s.size≤22000033:=by
   have:=wordsN_take (k:=k) HQI.out hql
   rw [size_list,hs,List.length_append];omega
  have c2:=hK.box.cell 2
  simp only [List.getElem?_toArray,List.getElem?_cons_zero,List.getElem?_cons_succ] at c2
  have HS:=Lib.hid hs
  have HKK:=Lib.hid hK
  clear hs hK
  by_cases hlt:k<d.qc.length
  ·obtain⟨x,hx⟩:∃x,d.qc[k]? =some x:=⟨_,List.getElem?_eq_getElem hlt⟩
   have hxi:=HQI.out x (List.mem_of_getElem? hx)
   obtain⟨g,o,rfl,hc⟩:∃g o,qA=some ⟨g,o,none⟩∧wr.cell? ⟨g,o+k,none⟩=some (.int .i64 x):=by
    rcases HQ.out.none_ HKK.out.only with h|⟨g,o,e,_,hc⟩
    ·rw [h] at hlt;simp at hlt
    ·exact⟨g,o,e,hc k x hx⟩
   have hnx:wordsN (d.qc.take (k+1))=wordsN (d.qc.take k) ++ [32] ++Lib.itoa x:=by rw [List.take_add_one,hx,Option.toList_some,wordsN_snoc]
   have ik:(k:Int) <d.qc.length:=by omega
   have HNX:=Lib.hid hnx
   have a3:¬9223372036854775807<s.size+1:=by omega
   clear hnx hx
   go_wp2_with fail
   refine(rdec16_any x hxi wr).mono ?_
   rintro e w3 ⟨t3,rfl,ht3,ho3⟩
   have K3:=Lib.hid (HKK.out.none_ ho3)
   have l3:t3.size≤21:=by rw [size_list,ht3];exact itoa_len hxi.1 hxi.2
   have a4:¬9223372036854775807<s.size+1+t3.size:=by omega
   have HT3:=Lib.hid ht3
   clear ho3 ht3
   go_wp2_with fail
   go_roundw
   case rel=>exact⟨k+1,_,by go_num,rfl,by omega,by rw [HNX.out];simp [HS.out,HT3.out],K3.out⟩
   case measure=>simp [intOf];omega
  ·have hall:d.qc.take k=d.qc:=List.take_of_length_le (by omega)
   have ik:¬(k:Int) <d.qc.length:=by omega
   have hs2:=HS.out
   rw [hall] at hs2
   have HS2:=Lib.hid hs2
   have c1:=HKK.out.box.cell 1
   simp only [List.getElem?_toArray,List.getElem?_cons_zero,List.getElem?_cons_succ] at c1
   have a3:¬9223372036854775807<s.size+1:=by omega
   clear hall hs2 HS
   go_wp2_with fail
   refine(rhex16_any d.qt hqt wr).mono ?_
   rintro e w3 ⟨t3,rfl,ht3,ho3⟩
   have K3:=Lib.hid (HKK.out.none_ ho3)
   have l3:t3.size≤2000000:=by rw [size_list,ht3,hexL_len,←size_list];omega
   have a4:¬9223372036854775807<s.size+1+t3.size:=by omega
   have a5:¬9223372036854775807<s.size+1+t3.size+6:=by omega
   have HT3:=Lib.hid ht3
   clear ho3 ht3 c1 c2
   go_wp2_with fail
   go_loopw [3,5] (fun v i wr=> ∃(k:Nat) (s:ByteArray),i= .int .i64 k∧v= .string s∧k≤d.pc.length∧s.data.toList=T2++wordsN (d.pc.take k)∧RefK w R (bdCells d qA pA qk pk) wr) (fun _ i _=>d.pc.length - (intOf i).toNat)
   case atStart=>exact⟨0,_,rfl,rfl,by omega,by rw [HT2.out];simp [HT3.out,HS2.out,wordsN,wPrice],K3.out⟩
   case round=>
    clear HKK K3 HS2 hsz a3 a4 a5 l3 HT3 ik K1 HK
    obtain⟨k,s,rfl,rfl,hk,hs,hK⟩:=hrel
    have hsz:s.size≤46001000:=by
     have:=wordsN_take (k:=k) HPI.out hpl
     rw [size_list,hs,List.length_append];omega
    have c4:=hK.box.cell 4
    simp only [List.getElem?_toArray,List.getElem?_cons_zero,List.getElem?_cons_succ] at c4
    have HS:=Lib.hid hs
    have HKK:=Lib.hid hK
    have a3:¬9223372036854775807<s.size+1:=by omega
    clear hs hK
    by_cases hlt:k<d.pc.length
    ·obtain⟨x,hx⟩:∃x,d.pc[k]? =some x:=⟨_,List.getElem?_eq_getElem hlt⟩
     have hxi:=HPI.out x (List.mem_of_getElem? hx)
     obtain⟨g,o,rfl,hc⟩:∃g o,pA=some ⟨g,o,none⟩∧wr.cell? ⟨g,o+k,none⟩=some (.int .i64 x):=by
      rcases HP.out.none_ HKK.out.only with h|⟨g,o,e,_,hc⟩
      ·rw [h] at hlt;simp at hlt
      ·exact⟨g,o,e,hc k x hx⟩
     have hnx:wordsN (d.pc.take (k+1))=wordsN (d.pc.take k) ++ [32] ++Lib.itoa x:=by rw [List.take_add_one,hx,Option.toList_some,wordsN_snoc]
     have ik:(k:Int) <d.pc.length:=by omega
     have HNX:=Lib.hid hnx
     clear hnx hx
     go_wp2_with fail
     refine(rdec16_any x hxi wr).mono ?_
     rintro e w3 ⟨t3,rfl,ht3,ho3⟩
     have K3:=Lib.hid (HKK.out.none_ ho3)
     have l3:t3.size≤21:=by rw [size_list,ht3];exact itoa_len hxi.1 hxi.2
     have a4:¬9223372036854775807<s.size+1+t3.size:=by omega
     have HT3:=Lib.hid ht3
     clear ho3 ht3
     go_wp2_with fail
     go_roundw
     case rel=>exact⟨k+1,_,by go_num,rfl,by omega,by rw [HNX.out];simp [HS.out,HT3.out],K3.out⟩
     case measure=>simp [intOf];omega
    ·have hall:d.pc.take k=d.pc:=List.take_of_length_le (by omega)
     have ik:¬(k:Int) <d.pc.length:=by omega
     have hs2:=HS.out
     rw [hall] at hs2
     have HS2:=Lib.hid hs2
     have c3:=HKK.out.box.cell 3
     simp only [List.getElem?_toArray,List.getElem?_cons_zero,List.getElem?_cons_succ] at c3
     clear hall hs2 HS
     go_wp2_with fail
     refine(rhex16_any d.pt hpt wr).mono ?_
     rintro e w3 ⟨t3,rfl,ht3,ho3⟩
     have K3:=Lib.hid (HKK.out.none_ ho3)
     have l3:t3.size≤2000000:=by rw [size_list,ht3,hexL_len,←size_list];omega
     have a4:¬9223372036854775807<s.size+1+t3.size:=by omega
     have a5:¬9223372036854775807<s.size+1+t3.size+1:=by omega
     have HT3:=Lib.hid ht3
     clear ho3 ht3 c3 c4
     go_wp2_with fail
     refine⟨rfl,_,results_tmp rfl _ _ _,?_⟩
     refine RetStr.mk ?_ K3.out.only
     have e2:=HS2.out
     have e3:=HT3.out
     simp only [ByteArray.data_append,Array.toList_append,e2,e3]
     rw [HT2.out,HT1.out]
     have i1:wordsN [d.bidder]=32::Lib.itoa d.bidder:=by simp [wordsN]
     have i0:wordsN []= []:=rfl
     unfold encB lineL
     rw [i1,i0]
     simp only [List.append_assoc,List.cons_append,List.nil_append,List.append_nil]
end Go.Proofs.YtgalfohobgjelaaGreatDoor
namespace Go.Proofs.YtgalfohobgjelaaGreatDoor
open Go.RowKit Go.Shelf
theorem mod04_any (n m:Int) (_hn:In n) (hm:0<m) (hm2:m≤2000000000000000000) (w:World):Calls Tryz.prog 16 #[.int .i64 n,.int .i64 m] w fun e w'=>e= .returned (.int .i64 (n % m))∧w'=w:=by
 obtain⟨r,er⟩:∃r,r=n.tmod m:=⟨_,rfl⟩
 have hr1: -m<r∧r<m:=by
  rw [er];exact⟨Int.lt_tmod_of_pos n hm,Int.tmod_lt_of_pos n hm⟩
 have hr2:n % m=if r<0 then r+m else r:=by
  rw [er,Int.tmod_eq_emod]
  have:=Int.emod_nonneg n (show m≠0 by omega)
  have:=Int.emod_lt_of_pos n hm
  have hab:(m.natAbs:Int)=m:=by omega
  split<;>split<;>omega
 have hr3:(r+m).tmod m=n % m:=by
  rw [Int.tmod_eq_emod_of_nonneg (by omega),hr2]
  split
  ·exact Int.emod_eq_of_lt (by omega) (by omega)
  ·rw [Int.add_emod_right];exact Int.emod_eq_of_lt (by omega) (by omega)
 have hr4:0≤n % m∧n % m<m:=⟨Int.emod_nonneg n (by omega),Int.emod_lt_of_pos n hm⟩
 obtain⟨g,eg⟩:∃g,g=n % m:=⟨_,rfl⟩
 rw [←eg] at hr3 hr4⊢
 have e1:IntKind.i64.wrap (n.tmod m)=r:=by rw [←er];exact IntWalk.i64_in _ (by omega)
 have e2:IntKind.i64.wrap (r+m)=r+m:=IntWalk.i64_in _ (by omega)
 have e3:IntKind.i64.wrap ((r+m).tmod m)=g:=by rw [hr3];exact IntWalk.i64_in _ (by omega)
 have e4:IntKind.i64.wrap r=r:=IntWalk.i64_in _ (by omega)
 have e5:IntKind.i64.wrap g=g:=IntWalk.i64_in _ (by omega)
 have e0:¬m=0:=by omega
 have er':=er.symm
 clear eg er hr2 hr1 hr4 hm hm2
 go_enter Tryz.func16,Tryz.ntmps16
 go_wp2_with fail
 exact⟨rfl,_,results_tmp rfl _ _ _,rfl,rfl⟩
theorem in4:In 4:=by unfold In;constructor<;>omega
theorem in60:In 60:=by unfold In;constructor<;>omega
theorem bidW_ok (n:Int):(bidW n).Ok:=by
 refine⟨in60,fun x hx=> ?_,fun x hx=>by simp [bidW] at hx,by show 2≤1000000;omega,by show 0≤1000000;omega,by simp [bidW],by simp [bidW]⟩
 simp only [bidW,List.mem_singleton] at hx
 subst hx
 exact in4
set_option maxRecDepth 100000 in
set_option maxHeartbeats 1000000 in
theorem rbid31_any (n:Int) (hn:In n) (w:World):Calls Tryz.prog 31 #[.int .i64 n] w fun e w'=> ∃A,e= .returned (.agg (bdCells (bidW n) A none 1 0))∧IntSl w' A [4]∧Only NoneOf w w':=by
 have hmd:∀W,Calls Tryz.prog 16 #[.int .i64 n,.int .i64 4] W fun e w'=>e= .returned (.int .i64 (n % 4))∧w'=W:=fun W=>mod04_any n 4 hn (by omega) (by omega) W
 obtain⟨q,eq⟩:∃q:Nat,q=(n % 4).toNat:=⟨_,rfl⟩
 have hq:n % 4=(q:Int):=by omega
 have hq4:q<4:=by omega
 rw [hq] at hmd
 obtain⟨c,ec⟩:∃c,c=UInt8.ofNat (97+q):=⟨_,rfl⟩
 have hc:(c.toNat:Int)=97+ (q:Int):=by rw [ec];simp [UInt8.toNat_ofNat];omega
 have hqt:(bidW n).qt=⟨#[113]⟩ ++ ⟨#[c]⟩:=by
  show(⟨#[113,UInt8.ofNat (97+ (n % 4).toNat)]⟩:ByteArray)=_
  rw [←eq,←ec];rfl
 have w1:IntKind.i64.wrap (97+ (q:Int))=(c.toNat:Int):=by rw [←hc];exact IntWalk.i64_in _ (by have:=c.toNat_lt;omega)
 have w2:IntKind.u8.wrap (c.toNat:Int)=(c.toNat:Int):=by have:=c.toNat_lt;rw [IntKind.wrap_u8];omega
 have w3:(c.toNat:Int) % 256=(c.toNat:Int):=by have:=c.toNat_lt;omega
 have L1:(⟨[c].toArray⟩:ByteArray).size=1:=rfl
 have HMD:=Lib.hid hmd
 have HQT:=Lib.hid hqt
 unfold bdCells
 rw [hqt]
 clear hmd hq eq hc ec hqt
 have tok:True:=trivial
 have hby:BytesAt ((w.alloc (.cells #[.int .i64 0,.string ⟨#[]⟩,.slice none 0 0,.string ⟨#[]⟩,.slice none 0 0] tBid)).alloc (.cells #[.int .u8 (c.toNat:Int)] 5)) (w.heap.size+1) 0 [c]:=by
  have h:=blk_bytes (Blk.new (w.alloc (.cells #[.int .i64 0,.string ⟨#[]⟩,.slice none 0 0,.string ⟨#[]⟩,.slice none 0 0] tBid)) 5 ([c].map bv).toArray)
  rw [World.size_alloc] at h
  exact h
 have HBY:=Lib.hid hby
 clear hby
 go_enter Tryz.func31,Tryz.ntmps31
 go_wp2_with fail
 refine(HMD.out _).mono ?_
 rintro e1 v1 ⟨rfl,rfl⟩
 go_wp2_with (have _t:=tok;refine wpList_convert_back rfl 22 9 5 (.tmp 7) rfl (w.heap.size+1) 0 1 1 rfl [c] rfl HBY.out Tryz.underlying22 Tryz.underlying5 Tryz.underlying9 ?_;clear tok _t)
 have hinf:(Tryz.prog.info? tBid).map (·.size)=some 5:=by kernel_rfl
 refine bodyPost_ret (v:= .agg #[.int .i64 60,.string ((⟨#[113]⟩:ByteArray) ++ ⟨#[c]⟩),.slice (some ⟨w.heap.size+1+1,0,none⟩) 1 1,.string ⟨#[]⟩,.slice none 0 0]) (results_blk rfl rfl (((Blk.new w _ _).alloc _).alloc _) Tryz.underlying75 rfl (by simpa using hinf)) rfl ⟨some ⟨w.heap.size+1+1,0,none⟩,rfl,?_,(((Only.refl _ _).alloc _).alloc _).alloc _⟩
 refine .inr ⟨w.heap.size+1+1,0,rfl,by simp,fun j x hx=> ?_⟩
 match j,hx with
 |0,hx=>
  simp only [List.getElem?_cons_zero,Option.some.injEq] at hx
  subst hx
  have h:=Blk.new ((w.alloc (.cells #[.int .i64 60,.string ((⟨#[113]⟩:ByteArray) ++ ⟨#[c]⟩),.slice (some ⟨w.heap.size+1+1,0,none⟩) 1 1,.string ⟨#[]⟩,.slice none 0 0] tBid)).alloc (.cells #[.int .u8 (c.toNat:Int)] 5)) 3 #[.int .i64 4]
  rw [World.size_alloc,World.size_alloc] at h
  exact h.cell 0
end Go.Proofs.YtgalfohobgjelaaGreatDoor
namespace Go.Proofs.YtgalfohobgjelaaGreatDoor
open Go.RowKit Go.Shelf
attribute [local go_sem ↓ high] suStore_eq
abbrev tWd:TypeId:=24
abbrev wdC (d:Wd) (kA:Option Addr) (kc:Nat):Array Value:= #[.int .u8 (d.off:Int),.slice kA d.kinds.length kc,.int .u8 (d.fork:Int)]
noncomputable def setI (d:Wd) (m:Nat):List Pers:=setB d.n++ (List.range m).map (fun j=>bidder (60+j))
theorem setI_snoc (d:Wd) (m:Nat):setI d (m+1)=setI d m++ [bidder (60+m)]:=by simp [setI,List.range_succ]
theorem setI_two (d:Wd):setI d 2=setW d:=by simp [setI,setW,List.range_succ]
theorem setI_len (d:Wd) (m:Nat):(setI d m).length=d.n+1+m:=by simp [setI,setB_len]
structure StW (w:World) (R V:Nat) (d:Wd) (m:Nat) (pv:Value) (W:World):Prop where
 res:Blk W R tSu #[.slice none 0 0,.int .i64 0,.slice none 0 0,.slice none 0 0,.int .i64 0,.int .i64 0]
 st:Blk W V tSu #[pv,.int .i64 0,.slice none 0 0,.slice none 0 0,.int .i64 0,.int .i64 0]
 own:PerOwn W w.heap.size pv (d.n+1+m) (setI d m)
 only:Only NoneOf w W
set_option maxRecDepth 100000 in
set_option maxHeartbeats 4000000 in
theorem wsetup_own (d:Wd) (hd:d.Ok) (kA:Option Addr) (kc:Nat) (w:World):Calls Tryz.prog 18 #[.agg (wdC d kA kc)] w fun e' w'=> ∃pv,e'= .returned (setV pv)∧PerOwn w' w.heap.size pv (setW d).length (setW d)∧Only NoneOf w w':=by
 obtain⟨ie,z,hie,hsz,hz,hzc,hby⟩:=pers_info3
 have ho:=hd.off
 have hno:nOff (1+ (d.off:Int) % 7)=d.n:=by unfold nOff Wd.n;omega
 have hsu:∀W,Calls Tryz.prog 44 #[.int .i64 (1+ (d.off:Int) % 7),.bool false] W fun e' w'=> ∃pv,e'= .returned (setV pv)∧PerOwn w' W.heap.size pv (d.n+1) (setB d.n)∧Only NoneOf W w':=fun W=>by
  have h:=setup_own (1+ (d.off:Int) % 7) ⟨by omega,by omega⟩ W
  rw [hno] at h
  exact h
 have HSU:=Lib.hid hsu
 have HIE:=Lib.hid hie
 have HSZ:=Lib.hid hsz
 have HZ:=Lib.hid hz
 have HZC:=Lib.hid hzc
 have HBY:=Lib.hid hby
 clear hsu hie hsz hz hzc hby hno
 obtain⟨R,eR⟩:∃R,R=w.heap.size+1:=⟨_,rfl⟩
 have HER:=Lib.hid eR
 have hwR1:w.heap.size≤R:=by omega
 have hres0:Blk ((w.alloc (.cells (wdC d kA kc) tWd)).alloc (.cells #[.slice none 0 0,.int .i64 0,.slice none 0 0,.slice none 0 0,.int .i64 0,.int .i64 0] tSu)) R tSu #[.slice none 0 0,.int .i64 0,.slice none 0 0,.slice none 0 0,.int .i64 0,.int .i64 0]:=by
  have h:=Blk.new (w.alloc (.cells (wdC d kA kc) tWd)) tSu #[.slice none 0 0,.int .i64 0,.slice none 0 0,.slice none 0 0,.int .i64 0,.int .i64 0]
  rw [World.size_alloc,←eR] at h
  exact h
 have hon0:Only NoneOf w ((w.alloc (.cells (wdC d kA kc) tWd)).alloc (.cells #[.slice none 0 0,.int .i64 0,.slice none 0 0,.slice none 0 0,.int .i64 0,.int .i64 0] tSu)):=((Only.refl _ _).alloc _).alloc _
 have HRES0:=Lib.hid hres0
 have HON0:=Lib.hid hon0
 clear eR hres0 hon0
 go_enter Tryz.func18,Tryz.ntmps18
 go_wp2_with fail
 refine(HSU.out _).mono ?_
 rintro e1 w1 ⟨pv0,rfl,hpo,hon⟩
 unfold setV
 obtain⟨pA0,pcap0,rfl,hcc0,hcm0⟩:=own_form' hpo
 rw [←HER.out]
 obtain⟨V,eV⟩:∃V,V=w1.heap.size:=⟨_,rfl⟩
 have hszw:w.heap.size+2≤w1.heap.size:=by have:=hon.size;simp at this;omega
 have hst0:Blk (w1.alloc (.cells #[.slice none 0 0,.int .i64 0,.slice none 0 0,.slice none 0 0,.int .i64 0,.int .i64 0] tSu)) V tSu #[.slice none 0 0,.int .i64 0,.slice none 0 0,.slice none 0 0,.int .i64 0,.int .i64 0]:=by rw [eV];exact Blk.new w1 _ _
 have hsr:=su_store (n:=d.n+1) (c:=pcap0) (A:=pA0) hst0 rfl
 obtain⟨X,eX⟩:∃X,X=(w1.alloc (.cells #[.slice none 0 0,.int .i64 0,.slice none 0 0,.slice none 0 0,.int .i64 0,.int .i64 0] tSu)).setCells V 0 [.slice pA0 (d.n+1) pcap0,.int .i64 0,.slice none 0 0,.slice none 0 0,.int .i64 0,.int .i64 0]:=⟨_,rfl⟩
 have hRV:R≠V:=by have:=HER.out;omega
 have hwV:w.heap.size≤V:=by omega
 have hX:StW w R V d 0 (.slice pA0 (d.n+1) pcap0) X:=by
  have hbase:(w1.alloc (.cells #[.slice none 0 0,.int .i64 0,.slice none 0 0,.slice none 0 0,.int .i64 0,.int .i64 0] tSu)).ownsRow w.heap.size 67 3 (.slice pA0 (d.n+1) pcap0) (d.n+1) ((setB d.n).flatMap persC):=by
   have h:=World.ownsRow.alloc hpo (.cells #[.slice none 0 0,.int .i64 0,.slice none 0 0,.slice none 0 0,.int .i64 0,.int .i64 0] tSu)
   obtain⟨hl,h⟩:=h
   refine⟨hl,?_⟩
   rcases h with h|⟨g,cap,cur,e1,e2,r⟩
   ·exact .inl h
   ·exact .inr ⟨g,cap,cur,e1,by simp at e2;omega,r⟩
  have hvne:(Value.slice pA0 (d.n+1) pcap0).ownBlock≠some V:=own_blk_ne hbase hst0 (by decide)
  refine⟨?_,?_,?_,?_⟩
  ·rw [eX]
   exact Blk.farCells hRV _ 0 ((HRES0.out.only hon (fun h=>h.elim)).alloc _)
  ·rw [eX];exact filled_whole hst0 rfl
  ·rw [eX]
   have hi:setI d 0=setB d.n:=by simp [setI]
   unfold PerOwn
   rw [hi]
   exact own_only hbase (only_setCells (S:=fun k=>k=V) (Only.refl _ _) V 0 (.inl rfl) _) (fun k hk e=>hvne (by rw [hk,e]))
  ·rw [eX];exact only_setCells ((HON0.out.trans hon).alloc _) V 0 (.inr hwV) _
 rw [eV] at hsr
 have HX:=Lib.hid hX
 have HEX:=Lib.hid eX
 have HEV:=Lib.hid eV
 clear hpo hon hX eX eV hst0 HSU HRES0 HON0 hcc0 hcm0
 go_upto_region 2 with(fail)
 clear hsr
 rw [←HEV.out,←HEX.out]
 refine wp_gen (StW w R V d 0 (.slice pA0 (d.n+1) pcap0)) HX.out ?_
 intro Y hY
 have HY:=Lib.hid hY
 clear hY HX
 go_wp2_with fail
 go_loopw [4] (fun i wr=> ∃(m:Nat) (pv:Value),i= .int .i64 ((60+m:Nat):Int)∧m≤2∧StW w R V d m pv wr) (fun i _=>62 - (intOf i).toNat)
 case atStart=>exact⟨0,_,rfl,by omega,HY.out⟩
 case round=>
  obtain⟨m,pv,rfl,hm2,hS⟩:=hrel
  obtain⟨k,ek⟩:∃k:Nat,k=60+m:=⟨_,rfl⟩
  rw [←ek]
  have hdn:d.n≤7:=by unfold Wd.n;omega
  obtain⟨N,eN⟩:∃N,N=d.n+1+m:=⟨_,rfl⟩
  have hN:N≤10:=by omega
  by_cases hlt:m<2
  ·have hle:(k:Int) <62:=by omega
   obtain⟨pk,epk⟩:∃x:Int,x=(pub (secI k):Int):=⟨_,rfl⟩
   have hpc:persC (bidder k)= [.int .i64 (k:Int),.int .i64 4,.int .i64 pk]:=by rw [epk];rfl
   have hsec:∀W,Calls Tryz.prog 39 #[.int .i64 (k:Int)] W fun e' w'=>e'= .returned (.int .i64 (secI (k:Int)))∧w'=W:=fun W=>secret_any (k:Int) (by omega) (by omega) W
   have hpub:∀W,Calls Tryz.prog 45 #[.int .i64 (secI (k:Int))] W fun e' w'=>e'= .returned (.int .i64 pk)∧w'=W:=fun W=>by rw [epk];exact rpub_any _ W
   have hcells:(setI d (m+1)).flatMap persC=(setI d m).flatMap persC++ [.int .i64 (k:Int),.int .i64 4,.int .i64 pk]:=by
    rw [setI_snoc,List.flatMap_append,List.flatMap_cons,List.flatMap_nil,List.append_nil,←ek,hpc]
   have c0:wr.cell? ⟨V,0,none⟩=some pv:=hS.st.cell 0
   have hSo:=hS.own
   rw [←eN] at hSo
   have HS:=Lib.hid hS
   have HSO:=Lib.hid hSo
   have HSEC:=Lib.hid hsec
   have HPUB:=Lib.hid hpub
   have HCELLS:=Lib.hid hcells
   have hall:∀o,((wr.alloc o).drew).ownsRow w.heap.size 67 3 pv N ((setI d m).flatMap persC):=fun o=>World.ownsRow.alloc HSO.out o
   have hne:pv.ownBlock≠some V:=own_blk_ne HSO.out HS.out.st (by decide)
   have hneR:pv.ownBlock≠some R:=own_blk_ne HSO.out HS.out.res (by decide)
   have hgr:∀o w1,(((wr.alloc o).drew).grownBy w1 pv.ownBlock)→Blk w1 V tSu #[pv,.int .i64 0,.slice none 0 0,.slice none 0 0,.int .i64 0,.int .i64 0]∧Blk w1 R tSu #[.slice none 0 0,.int .i64 0,.slice none 0 0,.slice none 0 0,.int .i64 0,.int .i64 0]∧Only NoneOf w w1:=fun o w1 hg=>
    ⟨((HS.out.st.alloc o).drew).grown hg (Ne.symm hne),((HS.out.res.alloc o).drew).grown hg (Ne.symm hneR),((HS.out.only.alloc o).drew).grown hg (fun j e=> .inr (own_ge HSO.out e).1)⟩
   have HALL:=Lib.hid hall
   have HGR:=Lib.hid hgr
   have HSZZ:=Lib.hid HS.out.only.size
   have ca:∀o,(wr.alloc o).cell? ⟨V,0,none⟩=some pv:=fun o=> (HS.out.st.alloc o).cell 0
   have HEK:=Lib.hid ek
   have HEN:=Lib.hid eN
   have hk62:k≤62:=by omega
   have HM:=Lib.hid hlt
   clear hS hSo hsec hpub hcells hpc hall hne hneR hgr epk ek eN hlt hm2
   go_upto_region 5 with(fail)
   go_region_law (first
    |(refine step_append_lies _ (by rfl) _ _ _ (by rfl) w.heap.size 67 ie z 3 24 Tryz.underlying46 HIE.out HZ.out HSZ.out HBY.out HZC.out (by omega) pv N ((setI d m).flatMap persC) (by rfl) (HALL.out _) ⟨wr.heap.size,0,none⟩ 1 1 [.int .i64 (k:Int),.int .i64 4,.int .i64 pk] (by rfl) (by rfl) (World.news_of_block (cs:= #[.int .i64 (k:Int),.int .i64 4,.int .i64 pk]) (t:=67) (fr:=(0,0)) (heap_alloc_new wr _)) (by simp [Value.oneCell']) (by omega) (by rw [maxLen_val];omega) (by omega) (by have:=HSZZ.out;simp;omega) (wr.heap.size+1) (by simp) ?_;intro g cap w1 hown1 hgrow hat hlt1;have hb1:=HGR.out _ w1 hgrow;have hf1:=hb1.1.frozen 0;have hc1:=hb1.1.cell 0;simp only [List.getElem?_toArray,List.getElem?_cons_zero] at hc1)
    |(go_simp;go_at_call 39;refine(HSEC.out _).mono ?_;rintro e1 w3 ⟨rfl,rfl⟩)
    |(go_simp;go_at_call 45;refine(HPUB.out _).mono ?_;rintro e2 w2 ⟨rfl,rfl⟩))
   all_goals
    have hgne:(Value.slice (some ⟨g,0,none⟩) (N+1) cap).ownBlock≠some V:=own_blk_ne hown1 hb1.1 (by decide)
    have hnew:StW w R V d (m+1) (.slice (some ⟨g,0,none⟩) (N+1) cap) (w1.setCell ⟨V,0,none⟩ (.slice (some ⟨g,0,none⟩) (N+1) cap)):=by
     refine⟨Blk.far (p:=⟨V,0,none⟩) hb1.2.1 hRV _,Blk.set_ hb1.1 0 _,?_,hb1.2.2.setCell (p:=⟨V,0,none⟩) (.inr hwV) _⟩
     unfold PerOwn
     rw [HCELLS.out,show d.n+1+ (m+1)=N+1 by have:=HEN.out;omega]
     exact own_far hown1 (p:=⟨V,0,none⟩) hgne _
    have HNEW:=Lib.hid hnew
    clear hb1 hgne hnew hown1 hgrow hat hlt1 hf1 hc1 ca c0
    go_wp2_with fail
    go_roundw
    case rel=>exact⟨m+1,_,by have:=HEK.out;go_num,by have:=HM.out;omega,HNEW.out⟩
    case measure=>simp [intOf];omega
  ·obtain rfl:m=2:=by omega
   have hle:¬(k:Int) <62:=by omega
   have hown:=hS.own
   rw [←eN] at hown
   obtain⟨pA,pcap,rfl,_,_⟩:=own_form' hown
   have r0:=hS.res.cell 0
   have r1:=hS.res.cell 1
   have r2:=hS.res.cell 2
   have r3:=hS.res.cell 3
   have r4:=hS.res.cell 4
   have r5:=hS.res.cell 5
   have c0:=hS.st.cell 0
   have c1:=hS.st.cell 1
   have c2:=hS.st.cell 2
   have c3:=hS.st.cell 3
   have c4:=hS.st.cell 4
   have c5:=hS.st.cell 5
   simp only [List.getElem?_toArray,List.getElem?_cons_zero,List.getElem?_cons_succ] at c0 c1 c2 c3 c4 c5 r0 r1 r2 r3 r4 r5
   have hinf:(Tryz.prog.info? tSu).map (·.size)=some 6:=by kernel_rfl
   have hb2:Blk (wr.setCells R 0 [.slice pA N pcap,.int .i64 0,.slice none 0 0,.slice none 0 0,.int .i64 0,.int .i64 0]) R tSu #[.slice pA N pcap,.int .i64 0,.slice none 0 0,.slice none 0 0,.int .i64 0,.int .i64 0]:=filled_whole hS.res rfl
   have hst:=su_store (n:=N) (c:=pcap) (A:=pA) hS.res rfl
   have ho2:Only NoneOf w (wr.setCells R 0 [.slice pA N pcap,.int .i64 0,.slice none 0 0,.slice none 0 0,.int .i64 0,.int .i64 0]):=only_setCells hS.only R 0 (.inr hwR1) _
   have hsl2:PerOwn (wr.setCells R 0 [.slice pA N pcap,.int .i64 0,.slice none 0 0,.slice none 0 0,.int .i64 0,.int .i64 0]) w.heap.size (.slice pA N pcap) (setW d).length (setW d):=by
    have h1:=own_blk_ne hown hS.res (by decide)
    have h2:PerOwn (wr.setCells R 0 [.slice pA N pcap,.int .i64 0,.slice none 0 0,.slice none 0 0,.int .i64 0,.int .i64 0]) w.heap.size (.slice pA N pcap) N (setI d 2):=
     own_only hown (only_setCells (S:=fun k=>k=R) (Only.refl _ _) R 0 (.inl rfl) _) (fun k hk e=>h1 (by rw [hk,e]))
    rw [←setI_two]
    rw [setI_len,←eN];exact h2
   have HB2:=Lib.hid hb2
   have HO2:=Lib.hid ho2
   have HSL:=Lib.hid hsl2
   have HI:=Lib.hid hinf
   clear hS hsl2 hb2 ho2 hinf hown eN hlt hm2
   go_wp2_with fail
   refine bodyPost_ret (v:= .agg #[.slice pA N pcap,.int .i64 0,.slice none 0 0,.slice none 0 0,.int .i64 0,.int .i64 0]) (results_blk rfl rfl HB2.out Tryz.underlying50 rfl (by simpa using HI.out)) rfl ⟨_,rfl,HSL.out,HO2.out⟩
theorem wsetup_any (d:Wd) (hd:d.Ok) (kA:Option Addr) (kc:Nat) (w:World):Calls Tryz.prog 18 #[.agg (wdC d kA kc)] w fun e' w'=> ∃pv,e'= .returned (setV pv)∧PerSl w' pv (setW d)∧Only NoneOf w w':=
 (wsetup_own d hd kA kc w).mono (fun _ _ ⟨pv,h1,h2,h3⟩=> ⟨pv,h1,PerOwn.sl h2,h3⟩)
end Go.Proofs.YtgalfohobgjelaaGreatDoor
namespace Go.Proofs.YtgalfohobgjelaaGreatDoor
open Go.RowKit Go.Shelf
attribute [local go_sem ↓ high] evLoad_eq
def TxOwn (w:World) (base:Nat) (v:Value) (n:Nat) (L:List ByteArray):Prop:=w.ownsRow base 9 1 v n (L.map (fun x=>Value.string x))
theorem TxOwn.sl {w:World} {base:Nat} {v:Value} {L:List ByteArray} (h:TxOwn w base v L.length L):StSl w v L:=by
 obtain⟨A,cap,rfl,h1,h2⟩:=own_form' h
 refine⟨A,cap,rfl,h1,h2,fun i s hs=> ?_⟩
 have hlt:i<L.length:=(List.getElem?_eq_some_iff.1 hs).1
 obtain⟨g,c,e,_,_,_,_⟩:=own_form h (by omega)
 simp only [Value.slice.injEq,true_and] at e
 obtain⟨rfl,rfl⟩:=e
 refine⟨g,0,rfl,?_⟩
 have h3:=World.ownsRow.cells h rfl i (.string s) (by rw [List.getElem?_map,hs];rfl)
 rw [Addr.add_mid,Nat.zero_add] at h3
 rw [Nat.zero_add]
 exact h3
theorem leavesE_len (l:List Ev):(leavesE l).length=l.length:=by unfold leavesE;rw [List.length_map]
theorem ba_ext {t:ByteArray} {l:List UInt8} (h:t.data.toList=l):t=⟨l.toArray⟩:=by
 cases t with
 |mk d=>simp only at h;subst h;simp
set_option maxRecDepth 100000 in
set_option maxHeartbeats 1000000 in
theorem rleaves_any (l:List Ev) (hok:∀e∈l,e.Ok∧e.name.size≤100∧e.text.size≤100) (hl:l.length≤1000) (sv:Value) (w:World) (h:EvSl w sv l):Calls Tryz.prog 12 #[sv] w fun e w'=> ∃rv,e= .returned rv∧TxOwn w' w.heap.size rv l.length (leavesE l)∧Only NoneOf w w':=by
 obtain⟨i0,hi0,hz0,hz1,hz2⟩:=info_parts infoStr
 obtain⟨A,cap0,rfl,hc1,hc2,hev⟩:=h
 have HEV:=Lib.hid hev
 have HOK:=Lib.hid hok
 clear hev hok
 go_enter Tryz.func12,Tryz.ntmps12
 go_wp2_with fail
 go_loopw [3,4] (fun v i wr=> ∃k:Nat,i= .int .i64 k∧k≤l.length∧TxOwn wr w.heap.size v k (leavesE (l.take k))∧Only NoneOf w wr) (fun _ i _=>l.length - (intOf i).toNat)
 case atStart=>exact⟨0,rfl,by omega,⟨rfl,.inl ⟨rfl,rfl⟩⟩,Only.refl _ _⟩
 case round=>
  obtain⟨k,rfl,hk,hown,ho⟩:=hrel
  have HOWN:=Lib.hid hown
  have HO:=Lib.hid ho
  obtain⟨ao,cap,hv,hcc,hcm⟩:=own_form' hown
  subst hv
  have hwz:=ho.size
  clear hown ho
  by_cases hlt:k<l.length
  ·obtain⟨x,hx⟩:∃x,l[k]? =some x:=⟨_,List.getElem?_eq_getElem hlt⟩
   obtain⟨hxo,hx1,hx2⟩:=HOK.out x (List.mem_of_getElem? hx)
   obtain⟨g,o,rfl,hg,hr⟩:=HEV.out k x hx
   have hld:=ev_load_at (range_only hr HO.out) hxo.prev
   have hen:=rencode_any x hxo (by omega) (by omega) wr
   have hnx:leavesE (l.take (k+1))=leavesE (l.take k) ++ [⟨(evCode x).toArray⟩]:=by
    rw [List.take_add_one,hx,Option.toList_some];unfold leavesE;rw [List.map_append];rfl
   have ik:(k:Int) <l.length:=by omega
   have HEN:=Lib.hid hen
   have HNX:=Lib.hid hnx
   clear hx hr hen hnx hxo
   go_wp2_with fail
   refine HEN.out.mono ?_
   rintro e w1 ⟨t,rfl,ht,ho1⟩
   have hte:=ba_ext ht
   subst hte
   have hw1:=ho1.size
   have HO1:=Lib.hid (HO.out.trans ho1)
   have HOW1:=Lib.hid (own_only HOWN.out ho1 (fun _ _ e=>e))
   clear ho1 ht
   go_wp2_with (at_builtin;refine wpList_append_own _ rfl _ _ 28 rfl w.heap.size 9 i0 (.string ⟨#[]⟩) 1 16 Tryz.underlying28 hi0 hz0 hz1 hz2 rfl (by decide) _ _ _ rfl (HOW1.out.alloc _) ⟨w1.heap.size,0,none⟩ 1 1 [.string ⟨(evCode x).toArray⟩] rfl rfl (fun j u hu=>by match j,hu with|0,hu=>simp at hu;subst hu;simp [Addr.add]) (fun u hu=>by simp at hu;subst hu;rfl) (by unfold maxLen;omega) (by omega) (by simp;omega) ?_;intro v' w2 hown' hgrow _;have HOW2:=Lib.hid hown';have HO2:Hid (Only NoneOf w w2):=Lib.hid ((HO1.out.alloc _).grown hgrow (fun b e=> .inr (HOW1.out.lt b e).1));clear hown' hgrow)
   go_roundw
   case rel=>exact⟨k+1,by go_num,by omega,by unfold TxOwn;rw [HNX.out,List.map_append];exact HOW2.out,HO2.out⟩
   case measure=>simp [intOf];omega
  ·obtain rfl:k=l.length:=by omega
   have hall:l.take l.length=l:=List.take_of_length_le (Nat.le_refl _)
   have ik:¬(l.length:Int) <l.length:=by omega
   rw [hall] at HOWN
   clear hall
   go_wp2_with fail
   refine⟨rfl,_,results_tmp rfl _ _ _,?_⟩
   exact⟨_,rfl,HOWN.out,HO.out⟩
end Go.Proofs.YtgalfohobgjelaaGreatDoor
namespace Go.Proofs.YtgalfohobgjelaaGreatDoor
open Go.RowKit Go.Shelf
attribute [local go_sem ↓ high] vtBs1_eq hdLoad_eq
def bitW (m id:Nat):Bool:=decide (m / 2 ^ id % 2=1)
theorem bit16 (y id:Nat):(bits .and .u16 ((y:Int) / 2 ^ id) 1==1)=bitW y id:=by
 have e:(y:Int) / 2 ^ id=((y / 2 ^ id:Nat):Int):=by
  rw [Int.natCast_ediv];congr 1
 have h1:∀z:Nat,bits .and .u16 (z:Int) 1=((z % 2:Nat):Int):=fun z=>by
  show IntKind.u16.wrap ((BitVec.ofInt 16 (z:Int) &&& BitVec.ofInt 16 1).toNat:Int)=_
  have e:(BitVec.ofInt 16 (z:Int) &&& BitVec.ofInt 16 1).toNat=z % 2:=by
   rw [BitVec.toNat_and,show(BitVec.ofInt 16 1).toNat=1 from by decide,Nat.and_one_is_mod,show BitVec.ofInt 16 (z:Int)=BitVec.ofNat 16 z by simp,BitVec.toNat_ofNat]
   omega
  rw [e]
  simp [IntKind.wrap,IntKind.bits,IntKind.signed]
  omega
 rw [e,h1,bitW,Bool.eq_iff_iff]
 simp
 omega
noncomputable def voteW (odd:Nat) (h:Hd) (id:Nat):Vt:=voteOf (id:Int) (secI (id:Int) +if bitW odd id then 1 else 0) h
noncomputable def votesN (yes odd:Nat) (h:Hd):Nat→List Vt
 |0=> []
 |n+1=>votesN yes odd h n++if bitW yes (n+1) then [voteW odd h (n+1)] else []
noncomputable def votesW (d:Wd) (h:Hd) (yes odd:Nat):List Vt:=votesN yes odd h d.n
theorem votesN_len (yes odd:Nat) (h:Hd):∀n,(votesN yes odd h n).length≤n
 |0=>Nat.le_refl _
 |n+1=>by
  have:=votesN_len yes odd h n
  simp only [votesN,List.length_append]
  split<;>simp<;>omega
theorem votesW_len (d:Wd) (h:Hd) (yes odd:Nat):(votesW d h yes odd).length≤7:=by
 have:=votesN_len yes odd h d.n
 have:d.n≤7:=by unfold Wd.n;omega
 unfold votesW
 omega
theorem votesN_ok (yes odd:Nat) (h:Hd) (ok:h.Ok):∀n,n≤100→VtsOk (votesN yes odd h n)
 |0,_=>fun v hv=>by simp [votesN] at hv
 |n+1,hn=>fun v hv=>by
  simp only [votesN,List.mem_append] at hv
  rcases hv with hv|hv
  ·exact votesN_ok yes odd h ok n (by omega) v hv
  ·split at hv
   ·simp only [List.mem_singleton] at hv
    subst hv
    exact vote_ok ⟨by omega,by omega⟩ ok
   ·simp at hv
structure VwS (w:World) (D H:Nat) (d:Wd) (h:Hd) (kA:Option Addr) (kc:Nat) (yes odd k:Nat) (ov:Value) (W:World):Prop where
 wd:Blk W D tWd (wdC d kA kc)
 hd:Blk W H 37 (hdC h).toArray
 own:VtOwn W w.heap.size ov (votesN yes odd h k).length (votesN yes odd h k)
 only:Only NoneOf w W
set_option maxRecDepth 100000 in
set_option maxHeartbeats 1000000 in
theorem wvotes_any (d:Wd) (hd:d.Ok) (h:Hd) (ok:h.Ok) (yes odd:Nat) (_hy:yes<65536) (_ho:odd<65536) (kA:Option Addr) (kc:Nat) (w:World):Calls Tryz.prog 14 #[.agg (wdC d kA kc),.agg (hdC h).toArray,.int .u16 (yes:Int),.int .u16 (odd:Int)] w fun e' w'=> ∃rv,e'= .returned rv∧VtOwn w' w.heap.size rv (votesW d h yes odd).length (votesW d h yes odd)∧Only NoneOf w w':=by
 obtain⟨ie,z,hie,hsz,hz,hzc,hby⟩:=vt_info
 obtain⟨D,eD⟩:∃D,D=w.heap.size:=⟨_,rfl⟩
 obtain⟨H,eH⟩:∃H,H=D+1:=⟨_,rfl⟩
 have hoff:=hd.off
 have hs0:VwS w D H d h kA kc yes odd 0 (.slice none 0 0) ((w.alloc (.cells (wdC d kA kc) tWd)).alloc (.cells (hdC h).toArray 37)):=by
  have h1:=Blk.new (w.alloc (.cells (wdC d kA kc) tWd)) 37 (hdC h).toArray
  rw [World.size_alloc,←eD,←eH] at h1
  exact⟨by rw [eD];exact(Blk.new w _ _).alloc _,h1,⟨rfl,.inl ⟨rfl,rfl⟩⟩,((Only.refl _ _).alloc _).alloc _⟩
 have HS0:=Lib.hid hs0
 have HIE:=Lib.hid hie
 have HSZ:=Lib.hid hsz
 have HZ:=Lib.hid hz
 have HZC:=Lib.hid hzc
 have HBY:=Lib.hid hby
 have HED:=Lib.hid eD
 have HOKH:=Lib.hid ok
 have HEH:=Lib.hid eH
 have hdn:d.n≤7:=by unfold Wd.n;omega
 have hdn2:1+ (d.off:Int) % 7=(d.n:Int):=by unfold Wd.n;omega
 clear hs0 hie hsz hz hzc hby eD eH ok
 go_enter Tryz.func14,Tryz.ntmps14
 go_wp2_with fail
 refine wp_gen (VwS w D H d h kA kc yes odd 0 (.slice none 0 0)) HS0.out ?_
 intro Y hY
 have HY:=Lib.hid hY
 clear hY HS0
 rw [←HED.out,←HEH.out]
 clear HED HEH
 go_loopw [9,10] (fun ov i wr=> ∃q:Nat,i= .int .i64 (q:Int)∧1≤q∧q≤d.n+1∧VwS w D H d h kA kc yes odd (q - 1) ov wr) (fun _ i _=>9 - (intOf i).toNat)
 case atStart=>exact⟨1,rfl,by omega,by omega,HY.out⟩
 case round=>
  clear HY
  obtain⟨q,rfl,hq1,hq2,hS⟩:=hrel
  obtain⟨N,eN⟩:∃N,N=(votesN yes odd h (q - 1)).length:=⟨_,rfl⟩
  have hN:N≤8:=by have:=votesN_len yes odd h (q - 1);omega
  have c0:=hS.wd.cell 0
  simp only [List.getElem?_toArray,List.getElem?_cons_zero] at c0
  have hown:=hS.own
  rw [←eN] at hown
  have hq8:q≤8:=by omega
  by_cases hlt:q≤d.n
  ·have ik:(q:Int)≤1+ (d.off:Int) % 7:=by omega
   have hsucc:votesN yes odd h q=votesN yes odd h (q - 1) ++if bitW yes q then [voteW odd h q] else []:=by
    obtain⟨m,rfl⟩:∃m,q=m+1:=⟨q - 1,by omega⟩
    rfl
   have by1:=bit16 yes q
   have by2:=bit16 odd q
   have qs:q+1 - 1=q:=by omega
   cases hb:bitW yes q with
   |false=>
    rw [hb] at hsucc by1
    have hS2:VwS w D H d h kA kc yes odd q u9 wr:=⟨hS.wd,hS.hd,by rw [hsucc];simpa using hS.own,hS.only⟩
    have HS2:=Lib.hid hS2
    clear hS hS2 hsucc hown eN by2
    go_wp2_with fail
    go_roundw
    case rel=>exact⟨q+1,by go_num,by omega,by omega,by rw [qs];exact HS2.out⟩
    case measure=>simp [intOf];omega
   |true=>
    rw [hb] at hsucc by1
    obtain⟨sc,esc⟩:∃sc:Int,sc=secI (q:Int) +if bitW odd q then 1 else 0:=⟨_,rfl⟩
    obtain⟨V,eV⟩:∃V,V=voteW odd h q:=⟨_,rfl⟩
    have vo:V.Ok:=by rw [eV];exact vote_ok ⟨by omega,by omega⟩ HOKH.out
    have hvt:∀W,Calls Tryz.prog 41 #[.int .i64 (q:Int),.int .i64 sc,.agg (hdC h).toArray] W fun e w'=>e= .returned (.agg (vtC V).toArray)∧Only NoneOf W w':=fun W=>by rw [eV,esc];exact rqvote_any _ _ h HOKH.out W
    have hsec:∀W,Calls Tryz.prog 39 #[.int .i64 (q:Int)] W fun e' w'=>e'= .returned (.int .i64 (1000+7 * (q:Int)))∧w'=W:=fun W=>secret_any (q:Int) (by omega) (by omega) W
    have hbs:=bs1_run V vo.head.root
    have htk:(votesN yes odd h q).flatMap vtC=(votesN yes odd h (q - 1)).flatMap vtC++vtC V:=by
     rw [hsucc,if_pos rfl,List.flatMap_append,eV]
     simp
    have hlen:(votesN yes odd h q).length=N+1:=by rw [hsucc,if_pos rfl,List.length_append,←eN];rfl
    have HS:=Lib.hid hS
    have HOWN:=Lib.hid hown
    have HVT:=Lib.hid hvt
    have HSEC:=Lib.hid hsec
    have HTK:=Lib.hid htk
    have HLEN:=Lib.hid hlen
    have HVO:=Lib.hid vo
    have hld:(hdLoad (.pointer (some ⟨H,0,none⟩))).run Tryz.prog wr= .ok (.agg (hdC h).toArray) wr:=hd_load (blk_range hS.hd) HOKH.out.root
    have HESC:=Lib.hid esc
    clear hS hown hvt hsec htk hlen vo eV eN hsucc esc
    cases hbo:bitW odd q with
    |false=>
     rw [hbo] at by2
     have es:=HESC.out
     rw [hbo] at es
     obtain rfl:sc=1000+7 * (q:Int):=by rw [es];simp [secI]
     clear es
     go_wp2_with fail
     refine(HSEC.out _).mono ?_
     rintro e0 w0 ⟨rfl,rfl⟩
     go_wp2_with fail
     refine(HVT.out _).mono ?_
     rintro e1 w1 ⟨rfl,ho1⟩
     have hsz1:=(HS.out.only.trans ho1).size
     have HO1:=Lib.hid ho1
     have HOW1:=Lib.hid (own_only HOWN.out ho1 (fun _ _ e=>e))
     clear ho1 c0 hld
     go_wp2_with (at_builtin;refine wpList_append_lies _ rfl _ _ 32 rfl w.heap.size 43 ie z 36 ie.bytes Tryz.underlying32 HIE.out HZ.out HSZ.out rfl HZC.out (by omega) u9 N ((votesN yes odd h (q - 1)).flatMap vtC) rfl (World.ownsRow.alloc HOW1.out _) _ 1 1 (vtC V) rfl (by rw [vtC_len HVO.out.head.root]) (World.news_of_block (cs:=(vtC V).toArray) (t:=43) (fr:=(0,0)) (NewB.new _ V)) (vtC_one V) (by omega) (by rw [maxLen_val];omega) (by have:=HBY.out;exact Nat.le_trans (Nat.mul_le_mul (show N+1≤40 by omega) this) (by omega)) (by simp;omega) _ rfl ?_;intro g3 cap3 w3 hown3 hgrow3 hat3 hlt3)
     have hnew:VwS w D H d h kA kc yes odd q (.slice (some ⟨g3,0,none⟩) (N+1) cap3) w3:=by
      have hne:∀b cs t,Blk w1 b t cs→t≠43→u9.ownBlock≠some b:=fun b cs t hb ht=>own_blk_ne HOW1.out hb (Ne.symm ht)
      have b1:=HS.out.wd.only HO1.out (fun e=>e)
      have b2:=HS.out.hd.only HO1.out (fun e=>e)
      refine⟨(b1.alloc _).grown hgrow3 (Ne.symm (hne _ _ _ b1 (by decide))),(b2.alloc _).grown hgrow3 (Ne.symm (hne _ _ _ b2 (by decide))),?_,((HS.out.only.trans HO1.out).alloc _).grown hgrow3 (fun j e=> .inr (own_ge HOW1.out e).1)⟩
      unfold VtOwn
      rw [HTK.out,HLEN.out]
      exact hown3
     have HNEW:=Lib.hid hnew
     clear hnew hown3 hgrow3 hat3 hlt3 hbs
     go_wp2_with fail
     go_roundw
     case rel=>exact⟨q+1,by go_num,by omega,by omega,by rw [qs];exact HNEW.out⟩
     case measure=>simp [intOf];omega
    |true=>
     rw [hbo] at by2
     have es:=HESC.out
     rw [hbo] at es
     obtain rfl:sc=1000+7 * (q:Int) +1:=by rw [es];simp [secI]
     clear es
     go_wp2_with fail
     refine(HSEC.out _).mono ?_
     rintro e0 w0 ⟨rfl,rfl⟩
     go_wp2_with fail
     refine(HVT.out _).mono ?_
     rintro e1 w1 ⟨rfl,ho1⟩
     have hsz1:=(HS.out.only.trans ho1).size
     have HO1:=Lib.hid ho1
     have HOW1:=Lib.hid (own_only HOWN.out ho1 (fun _ _ e=>e))
     clear ho1 c0 hld
     go_wp2_with (at_builtin;refine wpList_append_lies _ rfl _ _ 32 rfl w.heap.size 43 ie z 36 ie.bytes Tryz.underlying32 HIE.out HZ.out HSZ.out rfl HZC.out (by omega) u9 N ((votesN yes odd h (q - 1)).flatMap vtC) rfl (World.ownsRow.alloc HOW1.out _) _ 1 1 (vtC V) rfl (by rw [vtC_len HVO.out.head.root]) (World.news_of_block (cs:=(vtC V).toArray) (t:=43) (fr:=(0,0)) (NewB.new _ V)) (vtC_one V) (by omega) (by rw [maxLen_val];omega) (by have:=HBY.out;exact Nat.le_trans (Nat.mul_le_mul (show N+1≤40 by omega) this) (by omega)) (by simp;omega) _ rfl ?_;intro g3 cap3 w3 hown3 hgrow3 hat3 hlt3)
     have hnew:VwS w D H d h kA kc yes odd q (.slice (some ⟨g3,0,none⟩) (N+1) cap3) w3:=by
      have hne:∀b cs t,Blk w1 b t cs→t≠43→u9.ownBlock≠some b:=fun b cs t hb ht=>own_blk_ne HOW1.out hb (Ne.symm ht)
      have b1:=HS.out.wd.only HO1.out (fun e=>e)
      have b2:=HS.out.hd.only HO1.out (fun e=>e)
      refine⟨(b1.alloc _).grown hgrow3 (Ne.symm (hne _ _ _ b1 (by decide))),(b2.alloc _).grown hgrow3 (Ne.symm (hne _ _ _ b2 (by decide))),?_,((HS.out.only.trans HO1.out).alloc _).grown hgrow3 (fun j e=> .inr (own_ge HOW1.out e).1)⟩
      unfold VtOwn
      rw [HTK.out,HLEN.out]
      exact hown3
     have HNEW:=Lib.hid hnew
     clear hnew hown3 hgrow3 hat3 hlt3 hbs
     go_wp2_with fail
     go_roundw
     case rel=>exact⟨q+1,by go_num,by omega,by omega,by rw [qs];exact HNEW.out⟩
     case measure=>simp [intOf];omega
  ·have ik:¬(q:Int)≤1+ (d.off:Int) % 7:=by omega
   have hqe:q - 1=d.n:=by omega
   have HS:=Lib.hid hS
   rw [hqe] at HS
   clear hS hown eN
   go_wp2_with fail
   go_ret
   exact⟨_,rfl,HS.out.own,HS.out.only⟩
end Go.Proofs.YtgalfohobgjelaaGreatDoor
