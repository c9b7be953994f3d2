/-What is proved here:several parts. a secret's shares and commitments,by the reference. Conditions:the coefficients are below the order,there are few of them. · several parts. the reference of sealing:numbers,checks,the combined text and the sealed one. Conditions:the texts are short. · the check that each law runs first holds. Condition:the table of powers of ten reads as its initialiser lays it. · the law of sealed texts returns true. Conditions:the table of powers of ten reads as its initialiser lays it;the texts are short. · the law of the streams returns true. Conditions:the table of powers of ten reads as its initialiser lays it;the texts are short. · the reference of sealing:the combined text,the sealed text,and the opened one. Conditions:the texts are short. · the law of other keys returns true. Conditions:the table of powers of ten reads as its initialiser lays it;the text is short. · the reference seals and opens a text as the program does;the laws of boxes and of opening return true. Conditions:the table of powers of ten reads as its initialiser lays it;the texts are short. -/
import Derived.Test.YtpdlbmieciabmaaGreatDoorPm10
import Derived.Test.YtpdlbmieciabmaaGreatDoorPm11
import Derived.Test.YtpdlbmieciabmaaGreatDoorPm16
import Derived.Test.YtpdlbmieciabmaaGreatDoorPm20
import Derived.Deep.Quiet
import Derived.Stop.BytesEq
import Derived.Deep.OwnRows
import Derived.BigRegion
namespace Go.Proofs.YtpdlbmieciabmaaGreatDoor
open Go.RowKit Go.Shelf
attribute [local go_sem ↓ high] aph_eq
def hoL(cs:List Nat)(x k:Nat):Nat:=sumP (cs.drop k) x%lagN
theorem hoL_le(cs:List Nat)(x k:Nat):hoL cs x k≤9223372036854775807:=by
 have h:sumP (cs.drop k) x%lagN<lagN:=Nat.mod_lt _ (by decide)
 have h2:lagN=1152921504606845789:=rfl
 unfold hoL
 omega
theorem hoL_step{cs:List Nat}{k c x:Nat}(h:cs[k]? =some c):(hoL cs x (k+1)*x%lagN+c)%lagN=hoL cs x k:=by
 unfold hoL
 rw[sumP_drop h]
 exact step_horner rfl
theorem hoL_all(cs:List Nat)(x:Nat):hoL cs x 0=sumP cs x%lagN:=rfl
theorem hoL_end(cs:List Nat)(x:Nat):hoL cs x cs.length=0:=by
 unfold hoL
 rw[List.drop_length]
 rfl
set_option maxRecDepth 100000 in
set_option maxHeartbeats 1000000 in
theorem rvalue_any(cs:List Nat)(hc:∀c∈cs,c<lagN)(hl:cs.length≤1000)(x:Nat)(hx:x≤9223372036854775807)(v:Value)(w:World)(h:CfAt w v cs):Calls Tryz.prog 115 #[v,.int .i64 (x:Int)] w fun e w' =>e= .returned (.int .i64 ((sumP cs x%lagN:Nat):Int))∧Only NoneOf w w' :=by
 obtain⟨A,cap,rfl,hat⟩:=h
 have HAT:=Lib.hid hat
 have HC:=Lib.hid hc
 have wl:IntKind.i64.wrap ((cs.length:Int)-1)=(cs.length:Int)-1:=IntWalk.i64_in _ (by omega)
 clear hat hc
 go_enter Tryz.func115,Tryz.ntmps115
 go_wp2_with fail
 go_loopw [5,6] (fun o i wr=>∃j:Nat,i= .int .i64 ((j:Int)-1)∧j≤cs.length∧o= .int .i64 ((hoL cs x j:Nat):Int)∧Only NoneOf w wr) (fun _ i _=>(intOf i+1).toNat)
 case atStart=>exact⟨cs.length,rfl,Nat.le_refl _,by rw[hoL_end];rfl,Only.refl _ _⟩
 case round=>
  obtain⟨j,rfl,hj,rfl,ho⟩:=hrel
  by_cases h0:j=0
  ·subst h0
   have e0:((0:Nat):Int)-1= -1:=rfl
   rw[e0]
   have HO:=Lib.hid ho
   clear ho
   go_wp2_with fail
   go_ret
   exact⟨by rw[hoL_all];rfl,HO.out⟩
  ·obtain⟨i,rfl⟩:∃i,j=i+1:=⟨j-1,by omega⟩
   obtain⟨c,hcx⟩:∃c,cs[i]? =some c:=⟨_,List.getElem?_eq_getElem (by omega)⟩
   obtain⟨g,o,rfl,hg,c0⟩:=HAT.out i c hcx
   have hcq:=HC.out c (List.mem_of_getElem? hcx)
   have hcl:c≤9223372036854775807:=by have h2:lagN=1152921504606845789:=rfl;omega
   have e1:((i+1:Nat):Int)-1=(i:Int):=by omega
   rw[e1]
   obtain⟨a,ea⟩:∃a,a=hoL cs x (i+1):=⟨_,rfl⟩
   rw[←ea]
   have hal:a≤9223372036854775807:=by rw[ea];exact hoL_le _ _ _
   have hM:=fun W=>rmulQ a x hal hx W
   obtain⟨m,em⟩:∃m,m=a*x%lagN:=⟨_,rfl⟩
   rw[←em] at hM
   have hml:m≤9223372036854775807:=by rw[em];exact mul_le _ _
   have hA:=fun W=>raddQ m c hml hcl W
   have hst:(m+c)%lagN=hoL cs x i:=by rw[em,ea];exact hoL_step hcx
   rw[hst] at hA
   have HM:=Lib.hid hM
   have HA:=Lib.hid hA
   have i0:(0:Int)≤(i:Int):=by omega
   have i1:(i:Int)<(cs.length:Int):=by omega
   have wi:IntKind.i64.wrap ((i:Int)-1)=(i:Int)-1:=IntWalk.i64_in _ (by omega)
   have ii:(0:Int)≤(i:Int):=i0
   have d00:=ho.cell_some c0 (fun e=>e)
   have HO:=Lib.hid ho
   clear hM hA hst em ea hcx hcq ho
   go_upto_region 5 with(fail)
   have d0:∀n,(wr.drewN n).cell? ⟨g,o+i,none⟩=some (.int .i64 (c:Int)):=fun n=>d00
   go_quiet (first
    |(go_at_call 85;exact Calls.quiet_of_same (HM.out _))
    |(go_at_call 89;exact Calls.quiet_of_same (HA.out _)))
   go_wp2_with fail
   go_roundw
   case rel=>exact⟨i,rfl,by omega,rfl,HO.out.drewN _⟩
   case measure=>simp[intOf]
structure SqX(w:World)(cv ov:Value)(k j:Nat)(cs:List Nat)(W:World):Prop where
 com:OwnOf 3 inC 1 W w.heap.size cv k (cmL (cs.take k))
 out:OwnOf tSh shC 2 W w.heap.size ov j (shL cs j)
 only:Only NoneOf w W
set_option maxRecDepth 100000 in
set_option maxHeartbeats 4000000 in
theorem rsplit_sh(cs:List Nat)(hc:∀c∈cs,c<lagN)(h1:1≤cs.length)(n:Nat)(hn:cs.length≤n)(hn2:n≤100)(v:Value)(w:World)(h:CfAt w v cs):Calls Tryz.prog 82 #[v,.int .i64 (n:Int)] w (SplE cs n w):=by
 have hval:=fun x (hx:x≤9223372036854775807) W (ho:Only NoneOf w W)=>rvalue_any cs hc (by omega) x hx v W (h.only ho)
 obtain⟨A,cap,rfl,hat⟩:=h
 have HVAL:=Lib.hid hval
 have HAT:=Lib.hid hat
 have HC:=Lib.hid hc
 have c1:¬(cs.length:Int)<1:=by omega
 have c2:¬(100:Int)<(cs.length:Int):=by omega
 have c3:¬(n:Int)<(cs.length:Int):=by omega
 have c4:¬(1000:Int)<(n:Int):=by omega
 have c5:¬n<cs.length:=by omega
 have d5:decide (n<cs.length)=false:=decide_eq_false c5
 clear hval hat hc
 go_enter Tryz.func82,Tryz.ntmps82
 go_wp2_with fail
 go_loopw [7,8] (fun cv i wr=>∃j:Nat,i= .int .i64 j∧j≤cs.length∧OwnOf 3 inC 1 wr w.heap.size cv j (cmL (cs.take j))∧Only NoneOf w wr) (fun _ i _=>cs.length-(intOf i).toNat)
 case atStart=>exact⟨0,rfl,Nat.zero_le _,OwnOf.nil _ _ _ _ _,Only.refl _ _⟩
 case round=>
  obtain⟨j,rfl,hj,hown,ho⟩:=hrel
  have HOWN:=Lib.hid hown
  have HO:=Lib.hid ho
  clear hown ho
  by_cases hlt:j<cs.length
  ·obtain⟨x,hx⟩:∃x,cs[j]? =some x:=⟨_,List.getElem?_eq_getElem hlt⟩
   obtain⟨g,o,rfl,hg,hr⟩:=HAT.out j x hx
   have c0:wr.cell? ⟨g,o+j,none⟩=some (.int .i64 (x:Int)):=HO.out.cell_some hr (fun e=>e)
   have hxq:=HC.out x (List.mem_of_getElem? hx)
   have hxl:x<1152921504606845789:=hxq
   have e1:¬(x:Int)<0:=by omega
   have e2:¬(1152921504606845789:Int)≤(x:Int):=by omega
   have f1:decide ((x:Int)<0)=false:=decide_eq_false e1
   have f2:decide ((1152921504606845789:Int)≤(x:Int))=false:=decide_eq_false e2
   have hen:cmL (cs.take (j+1))=cmL (cs.take j)++[((gp x:Nat):Int)]:=by rw[List.take_add_one,hx,Option.toList_some,cmL_snoc]
   have HEN:=Lib.hid hen
   have HP:=Lib.hid (fun W=>rpowG x (by omega) W)
   have hlj:(cmL (cs.take j)).length =j:=by rw[cmL_len,List.length_take];omega
   have how2:OwnOf 3 inC 1 wr w.heap.size u7 (cmL (cs.take j)).length (cmL (cs.take j)):=by rw[hlj];exact HOWN.out
   obtain⟨A2,cap2,W2,hrun,hown2,ho3⟩:=run_append_int (wr.alloc (.cells #[.int .i64 ((gp x:Nat):Int)] 3)) w.heap.size u7 _ ((gp x:Nat):Int) (OwnOf.keep how2 ((Only.refl NoneOf _).alloc _) (fun _ _ e=>e)) (by rw[hlj];omega) (by have:=HO.out.size;simp;omega) wr.heap.size (Blk.new wr _ _) 38
   rw[hlj] at hrun hown2
   have hO3:Only NoneOf w W2:=only_base (HO.out.alloc _) (ts_base ho3) (Nat.le_refl _)
   have HOWN3:=Lib.hid hown2
   have HO3:=Lib.hid hO3
   have ij:(j:Int)<(cs.length:Int):=by omega
   have j0:(0:Int)≤(j:Int):=by omega
   have wj:IntKind.i64.wrap ((j:Int)+1)=(j:Int)+1:=IntWalk.i64_in _ (by omega)
   clear hx hen hr hxq hxl how2 hown2 ho3 hO3
   go_wp2_with fail
   refine(HP.out wr).mono ?_
   rintro e w2 ⟨rfl,rfl⟩
   go_wp2_with fail
   go_roundw
   case rel=>exact⟨j+1,rfl,by omega,by rw[HEN.out];exact HOWN3.out,HO3.out⟩
   case measure=>simp[intOf];omega
  ·obtain rfl:j=cs.length:=by omega
   have ij:¬(cs.length:Int)<(cs.length:Int):=by omega
   have hst:SqX w u7 (.slice none 0 0) cs.length 0 cs wr:=⟨HOWN.out,OwnOf.nil _ _ _ _ _,HO.out⟩
   have HST:=Lib.hid hst
   clear hst
   go_wp2_with fail
   go_loopw [9,10] (fun ov i W=>∃j:Nat,i= .int .i64 ((j:Int)+1)∧j≤n∧SqX w u7 ov cs.length j cs W) (fun _ i _=>n+2-(intOf i).toNat)
   case atStart=>exact⟨0,rfl,Nat.zero_le _,HST.out⟩
   case round=>
    obtain⟨x,rfl,hx,hs⟩:=hrel
    have HS:=Lib.hid hs
    clear hs
    by_cases hlx:x<n
    ·have HV:=Lib.hid (HVAL.out (x+1) (by omega))
     have e1:((x+1:Nat):Int)=(x:Int)+1:=by omega
     rw[e1] at HV
     have i1:(x:Int)+1≤(n:Int):=by omega
     have wx:IntKind.i64.wrap ((x:Int)+1+1)=(x:Int)+1+1:=IntWalk.i64_in _ (by omega)
     obtain⟨y,ey⟩:∃y,y=sumP cs (x+1)%lagN:=⟨_,rfl⟩
     rw[←ey] at HV
     have EY:=Lib.hid ey
     clear ey
     go_wp2_with fail
     refine(HV.out wr HS.out.only).mono ?_
     rintro e w2 ⟨rfl,ho2⟩
     have hlx' :(shL cs x).length =x:=shL_len cs x
     have esh:shP cs x=((x:Int)+1,((y:Nat):Int)):=by
      unfold shP
      rw[←EY.out,e1]
     obtain⟨A2,cap2,W2,hrun,k1,k2,_⟩:=run_append_rec (T:=43) Tryz.underlying43 shareI (by omega) (by omega) shC_len (w2.alloc (.cells (shC (shP cs x)).toArray tSh)) w.heap.size u9 (shL cs x) (shP cs x) (shC_one _) (by rw[hlx'];exact OwnOf.keep HS.out.out (ho2.alloc _) (fun _ _ e=>e)) w2.heap.size (Blk.new w2 _ _) (by rw[hlx'];omega) (by have:=(HS.out.only.trans ho2).size;simp;omega) 43
     rw[hlx'] at hrun k1
     rw[esh] at hrun
     have hown0:OwnOf tSh shC 2 (w2.alloc (.cells (shC (shP cs x)).toArray tSh)) w.heap.size u9 x (shL cs x):=OwnOf.keep HS.out.out (ho2.alloc _) (fun _ _ e=>e)
     have ho4:=grown_ts k2 hown0
     have hs3:SqX w u7 (.slice A2 (x+1) cap2) cs.length (x+1) cs W2:=⟨OwnOf.ts (OwnOf.keep HS.out.com (ho2.alloc _) (fun _ _ e=>e)) ho4 (by decide),by rw[shL_snoc];exact k1,only_base ((HS.out.only.trans ho2).alloc _) (ts_base ho4) (Nat.le_refl _)⟩
     have HS3:=Lib.hid hs3
     have hrun2:(aph #[43,43] 43 #[u9,.slice (some ⟨w2.heap.size,0,none⟩) 1 1]).run Tryz.prog (w2.alloc (.cells #[.int .i64 ((x:Int)+1),.int .i64 ((y:Nat):Int)] tSh))= .ok (.slice A2 (x+1) cap2) W2:=hrun
     clear hs3 hown0 ho4 k1 k2 ho2 esh hrun
     go_wp2_with fail
     go_roundw
     case rel=>exact⟨x+1,by go_num,by omega,HS3.out⟩
     case measure=>simp[intOf];omega
    ·obtain rfl:x=n:=by omega
     have i1:¬(x:Int)+1≤(x:Int):=by omega
     go_wp2_with fail
     go_ret3
     have hcm:=HS.out.com
     rw[List.take_length] at hcm
     exact⟨_,_,rfl,HS.out.out,hcm,HS.out.only⟩
end Go.Proofs.YtpdlbmieciabmaaGreatDoor
namespace Go.Proofs.YtpdlbmieciabmaaGreatDoor
open Go.RowKit Go.Shelf
theorem number14_any(n:Int)(h0: -9223372036854775808≤n)(h1:n≤9223372036854775807)(w:World):
  Calls Tryz.prog 90 #[.int .i64 n] w (RetStr (Lib.itoa n) w):=by
 have HN:=Lib.hid (text_one n h0 h1 w)
 clear h0 h1
 go_enter Tryz.func90,Tryz.ntmps90
 go_wp2_with fail
 refine HN.out.mono ?_
 rintro e w1 ⟨t,rfl,ht,ho⟩
 have HT:=Lib.hid ht
 have HO:=Lib.hid ho
 clear ht ho
 go_wp2_with fail
 go_ret
 exact RetStr.mk HT.out HO.out
theorem rcheck_any(key:Int)(h0: -9223372036854775808≤key)(h1:key≤9223372036854775807)(s:ByteArray)(hs:s.size≤17592186044416)(w:World):
  Calls Tryz.prog 91 #[.int .i64 key,.string s] w (RetStr (checkS key s.data.toList) w):=by
 have HN:=Lib.hid (number14_any key h0 h1 w)
 have HL:=Lib.hid (itoa_len h0 h1)
 clear h0 h1
 go_enter Tryz.func91,Tryz.ntmps91
 go_wp2_with fail
 refine HN.out.mono ?_
 rintro e w1 ⟨t,rfl,ht,ho⟩
 have zt:t.size≤21:=by rw[size_list,ht];exact HL.out
 have HT:=Lib.hid ht
 have HO:=Lib.hid ho
 clear ht ho
 go_wp2_with fail
 go_ret
 refine RetStr.mk ?_ HO.out
 rw[append_list,append_list,append_list,HT.out]
 rfl
attribute [local go_sem ↓] eql_hash
end Go.Proofs.YtpdlbmieciabmaaGreatDoor
namespace Go.Proofs.YtpdlbmieciabmaaGreatDoor
open Go.RowKit Go.Shelf
end Go.Proofs.YtpdlbmieciabmaaGreatDoor
namespace Go.Proofs.YtpdlbmieciabmaaGreatDoor
open Go.RowKit Go.Shelf
end Go.Proofs.YtpdlbmieciabmaaGreatDoor
namespace Go.Proofs.YtpdlbmieciabmaaGreatDoor
open Go.RowKit Go.Shelf
theorem info_u8:(Tryz.prog.info? 5).map (fun i=>(i.zero,i.size,i.bytes))=some (some (.int .u8 0),1,1):=by kernel_rfl
theorem madeBytes(n:Nat):madeCells #[Value.int .u8 0] n=Array.replicate n (bv 0):=by
 apply Array.ext'
 apply List.ext_getElem?
 intro i
 by_cases h:i<n
 ·simp[madeCells,h,Nat.mod_one,bv]
 ·simp[madeCells,h]
end Go.Proofs.YtpdlbmieciabmaaGreatDoor
namespace Go.Proofs.YtpdlbmieciabmaaGreatDoor
open Go.RowKit Go.Shelf
def mixed14(key:Int)(l:List UInt8)(k:Nat):List UInt8:=(combL key l).take k++List.replicate (l.length-k) 0
theorem mixed14_set{key:Int}{l:List UInt8}{k:Nat}{x:UInt8}(hx:l[k]? =some x):((mixed14 key l k).map bv).toArray.setIfInBounds k (bv (x^^^sbyte key k))=((mixed14 key l (k+1)).map bv).toArray :=by
 have hk:k<l.length:=(List.getElem?_eq_some_iff.1 hx).1
 have hc:(combL key l)[k]? =some (x^^^sbyte key k):=by rw[combL_get,hx];rfl
 have hl:((combL key l).take k).length =k:=by rw[List.length_take,combL_len];omega
 rw[List.setIfInBounds_toArray,←List.map_set,mixed14,mixed14,List.set_append_right _ _ (by omega),hl,Nat.sub_self,show l.length-k=(l.length-(k+1))+1 by omega,List.replicate_succ,List.set_cons_zero,List.take_add_one,hc]
 simp
theorem mixed14_all(key:Int)(l:List UInt8):mixed14 key l l.length=combL key l:=by
 simp only[mixed14,Nat.sub_self,List.replicate_zero,List.append_nil]
 rw[List.take_of_length_le (by rw[combL_len];exact Nat.le_refl _)]
def CmbI(w:World)(O B:Nat)(key:Int)(l:List UInt8)(k:Nat)(wr:World):Prop:=
 Blk wr O 5 ((mixed14 key l k).map bv).toArray∧(k%32=0→∃h:List UInt8,h.length=32∧Blk wr B 68 (h.map bv).toArray)∧(k%32≠0→Blk wr B 68 ((shaL (streamS key (k/32))).map bv).toArray)∧Only NoneOf w wr
set_option maxRecDepth 100000 in
set_option maxHeartbeats 1000000 in
theorem combined_any(key:Int)(h0: -9223372036854775808≤key)(h1:key≤9223372036854775807)(s:ByteArray)(hs:s.size≤17592186044416)(w:World):
  Calls Tryz.prog 59 #[.int .i64 key,.string s] w (RetStr (combL key s.data.toList) w):=by
 have HN:=Lib.hid (number14_any key h0 h1)
 have HL:=Lib.hid (itoa_len h0 h1)
 have hmk:=run_make_row' (P:=Tryz.prog) 100 5 (.int .u8 0) 1 Tryz.underlying100 info_u8 rfl .i64 .i64 s.size (by omega) (by omega) w
 rw[madeBytes] at hmk
 have hl:s.data.toList.length=s.size:=by simp
 have hm0:((mixed14 key s.data.toList 0).map bv).toArray =Array.replicate s.size (bv 0):=by
  simp only[mixed14,List.take_zero,List.nil_append,Nat.sub_zero,hl]
  simp
 have HM0:=Lib.hid hm0
 have HSL:=Lib.hid hl
 clear h0 h1 hl hm0
 go_enter Tryz.func59,Tryz.ntmps59
 go_wp2_with fail
 clear hmk
 obtain⟨O,eO⟩:∃O,O=w.heap.size:=⟨_,rfl⟩
 obtain⟨l,el⟩:∃l,l=s.data.toList:=⟨_,rfl⟩
 have hstart:CmbI w O (O+1) key l 0 ((w.alloc (.cells (Array.replicate s.size (bv 0)) 5)).alloc (.cells (Array.replicate 32 (.int .u8 0)) 68)):=by
  refine⟨?_,fun _=>⟨List.replicate 32 0,by simp,?_⟩,fun e=>absurd rfl e,((Only.refl _ _).alloc _).alloc _⟩
  ·rw[eO,el,HM0.out];exact(Blk.new w _ _).alloc _
  ·rw[eO]
   have h:=Blk.new (w.alloc (.cells (Array.replicate s.size (bv 0)) 5)) 68 (Array.replicate 32 (.int .u8 0))
   rw[World.size_alloc] at h
   have e:((List.replicate 32 (0:UInt8)).map bv).toArray =Array.replicate 32 (.int .u8 0):=rfl
   rw[e]
   exact h
 have HST:=Lib.hid hstart
 have hsl:l.length=s.size:=by rw[el];exact HSL.out
 have HLL:=Lib.hid hsl
 rw[←eO,←el]
 have EO:=Lib.hid eO
 have EL:=Lib.hid el
 clear eO el hstart hsl HM0 HSL
 go_loopw [7] (fun v wr=>∃k:Nat,v= .int .i64 k∧k≤s.size∧CmbI w O (O+1) key l k wr) (fun v _=>s.size-(intOf v).toNat)
 case atStart=>exact⟨0,rfl,Nat.zero_le _,HST.out⟩
 case round=>
  obtain⟨k,rfl,hk,hI⟩:=hrel
  by_cases hlt:k<s.size
  ·obtain⟨r,er⟩:∃r,r=k%32:=⟨_,rfl⟩
   obtain⟨d,ed⟩:∃d,d=k/32:=⟨_,rfl⟩
   have er2:(k:Int)%32=(r:Int):=by omega
   have ed2:(k:Int)/32=(d:Int):=by omega
   have er3:(k:Int).tmod 32=(r:Int):=by rw[Int.tmod_eq_emod_of_nonneg (by omega)];omega
   have hr32:r<32:=by omega
   have hd:d≤17592186044416:=by omega
   obtain⟨x,ex⟩:∃x,x=s[k]:=⟨_,rfl⟩
   have hx:l[k]? =some x:=by
    rw[EL.out,List.getElem?_eq_getElem (by simpa using hlt),ex]
    rfl
   have HXX:=Lib.hid hx
   have EX:=Lib.hid ex
   have ER:=Lib.hid er
   have ED:=Lib.hid ed
   have hO:=hI.1
   have HOB:=Lib.hid hO
   have HON:=Lib.hid hI.2.2.2
   have hk2:(k:Int)<(s.size:Int):=by omega
   have k0:0≤(k:Int):=by omega
   have KL:=Lib.hid hk
   obtain⟨g,eg⟩:∃g,g=shaL (streamS key d):=⟨_,rfl⟩
   have hg:g.length=32:=by rw[eg];exact shaL_len _
   have EG:=Lib.hid eg
   have HG:=Lib.hid hg
   clear eg hg
   by_cases hr0:r=0
   ·obtain⟨h,hh,hhb⟩:=hI.2.1 (by omega)
    have HHB:=Lib.hid hhb
    have HH:=Lib.hid hh
    have hr02:((r:Int)==0)=true:=by simp;omega
    clear hI hO ex er ed hhb hh hx hr0
    go_wp2_with fail
    refine(HN.out _).mono ?_
    rintro e w1 ⟨t1,rfl,ht1,ho1⟩
    have zt1:t1.size≤21:=by rw[size_list,ht1];exact HL.out
    have HT1:=Lib.hid ht1
    have HO1:=Lib.hid ho1
    clear ht1 ho1
    go_wp2_with fail
    refine(number14_any (d:Int) (by omega) (by omega) _).mono ?_
    rintro e w2 ⟨t2,rfl,ht2,ho2⟩
    have zt2:t2.size≤21:=by rw[size_list,ht2];exact itoa_len (by omega) (by omega)
    have HT2:=Lib.hid ht2
    have HO2:=Lib.hid ho2
    clear ht2 ho2
    go_wp2_with fail
    refine(rsum_any _ _ ?hs).mono ?_
    case hs=>
     have z6:(⟨#[115,116,114,101,97,109,47]⟩:ByteArray).size =7:=rfl
     have z1:(⟨#[47]⟩:ByteArray).size =1:=rfl
     simp only[ByteArray.size_append];omega
    rintro e w3 ⟨rfl,ho3⟩
    have e1:shaL ((⟨#[115,116,114,101,97,109,47]⟩++t1++⟨#[47]⟩++t2:ByteArray).data.toList)=shaL (streamS key d):=by
     rw[append_list,append_list,append_list,HT1.out,HT2.out];rfl
    rw[e1,←EG.out]
    have hg:=HG.out
    have hi41:(Tryz.prog.info? 68).map (·.size)=some (g.map bv).toArray.size :=by rw[List.size_toArray,List.length_map,hg];kernel_rfl
    have hone:(g.map bv).toArray.all (·.oneCell')=true:=all_oneCell_toArray (bvs_one _)
    have h123:=HO1.out.trans (HO2.out.trans ho3)
    have hb3:=HHB.out.only h123 (fun e=>e)
    have hth:=hb3.there 0 (g.map bv).toArray.size (by simp[HH.out,hg])
    have hfill:Blk (w3.setCells (O+1) 0 (g.map bv).toArray.toList) (O+1) 68 (g.map bv).toArray :=hb3.filled _ (by simp[HH.out,hg])
    have hob:=Blk.farCells (b:=O+1) (by omega) (g.map bv).toArray.toList 0 (HOB.out.only h123 (fun e=>e))
    have hon:Only NoneOf w (w3.setCells (O+1) 0 (g.map bv).toArray.toList):=only_setCells (HON.out.trans h123) _ _ (.inr (by rw[EO.out];omega)) _
    have HI41:=Lib.hid hi41
    have HONE:=Lib.hid hone
    have HTH:=Lib.hid hth
    have HFILL:=Lib.hid hfill
    have HOBX:=Lib.hid hob
    have HONX:=Lib.hid hon
    clear e1 hg hi41 hone h123 hb3 hth hfill hob hon ho3
    have tok1:True:=trivial
    go_wp2_with (have _t:=tok1;refine wpList_store_mid rfl 68 (.tmp 6) (.tmp 28) rfl (O+1) 0 (g.map bv).toArray rfl rfl HTH.out HI41.out HONE.out ?_;clear tok1 _t)
    go_frame
    refine wp_gen (fun X=>Blk X (O+1) 68 (g.map bv).toArray∧Blk X O 5 ((mixed14 key l k).map bv).toArray∧Only NoneOf w X) ⟨HFILL.out,HOBX.out,HONX.out⟩ ?_
    rintro X ⟨hB,hO,hN⟩
    have HBX:=Lib.hid hB
    have HOX:=Lib.hid hO
    have HNX:=Lib.hid hN
    clear hB hO hN
    obtain⟨y,ey⟩:∃y,g[r]? =some y:=⟨_,List.getElem?_eq_getElem (by have:=HG.out;omega)⟩
    have cy:X.cell? ⟨O+1,r,none⟩=some (.int .u8 (y.toNat:Int)):=by
     rw[HBX.out.cell,List.getElem?_toArray,List.getElem?_map,ey];rfl
    have cz:X.cell? ⟨O,k,none⟩=some (.int .u8 0):=by
     rw[HOX.out.cell,List.getElem?_toArray,List.getElem?_map,mixed14,List.getElem?_append_right (by rw[List.length_take,combL_len];have:=HLL.out;omega),List.getElem?_replicate,if_pos (by rw[List.length_take,combL_len];have:=HLL.out;omega)]
     rfl
    have fz:=HOX.out.frozen k
    have hsb:y=sbyte key k:=by
     unfold sbyte
     rw[←ED.out,←ER.out,←EG.out,ey]
     rfl
    have HSB:=Lib.hid hsb
    have r0:0≤(r:Int):=by omega
    have r32:(r:Int)<32:=by omega
    clear hsb ey
    go_region
    go_wp2_with fail
    go_roundw
    case rel=>
     refine⟨k+1,by go_num,by omega,?_⟩
     have hset:=HOX.out.drew.set_ k (bv (x^^^y))
     have hon2:=HNX.out.drew.setCell (p:=⟨O,k,none⟩) (.inr (by rw[EO.out];exact Nat.le_refl _)) (bv (x^^^y))
     have hb2:=HBX.out.drew.far (p:=⟨O,k,none⟩) (by show O+1≠O;omega) (bv (x^^^y))
     rw[HSB.out,mixed14_set HXX.out] at hset
     rw[←EX.out,b_xor,HSB.out]
     rw[HSB.out] at hon2 hb2
     refine⟨hset,fun _=>⟨g,HG.out,hb2⟩,fun hne=> ?_,hon2⟩
     rw[show(k+1)/32=d by have:=ED.out;omega,←EG.out]
     exact hb2
    case measure=>simp[intOf];omega
   ·have hr02:((r:Int)==0)=false:=by simp;omega
    have hB0:=hI.2.2.1 (by omega)
    rw[←ed,←EG.out] at hB0
    have HB0:=Lib.hid hB0
    clear hI hO ex er ed hx hr0 hB0
    go_wp2_with fail
    refine wp_gen (fun X=>Blk X (O+1) 68 (g.map bv).toArray∧Blk X O 5 ((mixed14 key l k).map bv).toArray∧Only NoneOf w X) ⟨HB0.out,HOB.out,HON.out⟩ ?_
    rintro X ⟨hB,hO,hN⟩
    have HBX:=Lib.hid hB
    have HOX:=Lib.hid hO
    have HNX:=Lib.hid hN
    clear hB hO hN
    obtain⟨y,ey⟩:∃y,g[r]? =some y:=⟨_,List.getElem?_eq_getElem (by have:=HG.out;omega)⟩
    have cy:X.cell? ⟨O+1,r,none⟩=some (.int .u8 (y.toNat:Int)):=by
     rw[HBX.out.cell,List.getElem?_toArray,List.getElem?_map,ey];rfl
    have cz:X.cell? ⟨O,k,none⟩=some (.int .u8 0):=by
     rw[HOX.out.cell,List.getElem?_toArray,List.getElem?_map,mixed14,List.getElem?_append_right (by rw[List.length_take,combL_len];have:=HLL.out;omega),List.getElem?_replicate,if_pos (by rw[List.length_take,combL_len];have:=HLL.out;omega)]
     rfl
    have fz:=HOX.out.frozen k
    have hsb:y=sbyte key k:=by
     unfold sbyte
     rw[←ED.out,←ER.out,←EG.out,ey]
     rfl
    have HSB:=Lib.hid hsb
    have r0:0≤(r:Int):=by omega
    have r32:(r:Int)<32:=by omega
    clear hsb ey
    go_region
    go_wp2_with fail
    go_roundw
    case rel=>
     refine⟨k+1,by go_num,by omega,?_⟩
     have hset:=HOX.out.drew.set_ k (bv (x^^^y))
     have hon2:=HNX.out.drew.setCell (p:=⟨O,k,none⟩) (.inr (by rw[EO.out];exact Nat.le_refl _)) (bv (x^^^y))
     have hb2:=HBX.out.drew.far (p:=⟨O,k,none⟩) (by show O+1≠O;omega) (bv (x^^^y))
     rw[HSB.out,mixed14_set HXX.out] at hset
     rw[←EX.out,b_xor,HSB.out]
     rw[HSB.out] at hon2 hb2
     refine⟨hset,fun _=>⟨g,HG.out,hb2⟩,fun hne=> ?_,hon2⟩
     rw[show(k+1)/32=d by have:=ED.out;omega,←EG.out]
     exact hb2
    case measure=>simp[intOf];omega
  ·obtain rfl:k=s.size:=by omega
   have hby:BytesAt wr O 0 (combL key l):=by
    have h:=hI.1
    rw[←HLL.out,mixed14_all] at h
    exact blk_bytes h
   have HBY:=Lib.hid hby
   have HON:=Lib.hid hI.2.2.2
   have hcl:(combL key l).length =s.size:=by rw[combL_len];exact HLL.out
   have HCL:=Lib.hid hcl
   have hk2:¬(s.size:Int)<(s.size:Int):=by omega
   clear hI hby hcl
   have tok:True:=trivial
   go_wp2_with (have _t:=tok;refine wpList_convert_back rfl 100 9 5 (.tmp 40) rfl O 0 s.size s.size rfl (combL key l) HCL.out HBY.out Tryz.underlying100 Tryz.underlying5 Tryz.underlying9 ?_;clear tok _t)
   go_ret
   exact RetStr.mk (by rw[←EL.out]) HON.out
end Go.Proofs.YtpdlbmieciabmaaGreatDoor
namespace Go.Proofs.YtpdlbmieciabmaaGreatDoor
open Go.RowKit Go.Shelf
end Go.Proofs.YtpdlbmieciabmaaGreatDoor
namespace Go.Proofs.YtpdlbmieciabmaaGreatDoor
open Go.RowKit Go.Shelf
set_option maxRecDepth 100000 in
theorem rseal_any(key:Int)(h0: -9223372036854775808≤key)(h1:key≤9223372036854775807)(s:ByteArray)(hs:s.size≤8796093022208)(w:World):
  Calls Tryz.prog 60 #[.int .i64 key,.string s] w (RetStr (sealS key s.data.toList) w):=by
 have H0:=Lib.hid h0
 have H1:=Lib.hid h1
 clear h0 h1
 go_enter Tryz.func60,Tryz.ntmps60
 go_wp2_with fail
 refine(rcheck_any key H0.out H1.out s (by omega) w).mono ?_
 rintro e w1 ⟨t1,rfl,ht1,ho1⟩
 have hz1:t1.size≤17592186044416:=by
  have:=itoa_len H0.out H1.out
  rw[size_list,ht1]
  simp only[checkS,List.length_append,List.length_cons,List.length_nil]
  rw[←size_list];omega
 have HT1:=Lib.hid ht1
 have HO1:=Lib.hid ho1
 have HZ1:=Lib.hid hz1
 clear ht1 ho1 hz1
 go_wp2_with fail
 refine(rsum_any _ _ (Nat.le_trans HZ1.out (by omega))).mono ?_
 rintro e w2 ⟨rfl,ho2⟩
 rw[HT1.out]
 obtain⟨h,eh⟩:∃h,h=shaL (checkS key s.data.toList):=⟨_,rfl⟩
 rw[←eh]
 have hl:h.length=32:=by rw[eh];exact shaL_len _
 have EH:=Lib.hid eh
 have hi41:(Tryz.prog.info? 68).map (·.size)=some (h.map bv).toArray.size :=by rw[List.size_toArray,List.length_map,hl];kernel_rfl
 have hone:(h.map bv).toArray.all (·.oneCell')=true:=all_oneCell_toArray (bvs_one _)
 have hthr:(w2.alloc (.cells (Array.replicate 32 (.int .u8 0)) 68)).there w2.heap.size 0 (h.map bv).toArray.size :=(Blk.new w2 _ _).there 0 _ (by rw[List.size_toArray,List.length_map,hl];simp)
 obtain⟨X,eX⟩:∃X,X=(w2.alloc (.cells (Array.replicate 32 (.int .u8 0)) 68)).setCells w2.heap.size 0 (h.map bv).toArray.toList :=⟨_,rfl⟩
 have hX:Only NoneOf w X:=by rw[eX];exact only_setCells (HO1.out.trans (ho2.alloc _)) _ _ (.inr (Nat.le_trans HO1.out.size ho2.size)) _
 have hby:BytesAt X w2.heap.size 0 h:=by rw[eX];exact blk_bytes (by simpa using(Blk.new w2 68 (Array.replicate 32 (.int .u8 0))).filled (h.map bv).toArray.toList (by simp[hl]))
 have HI41:=Lib.hid hi41
 have HONE:=Lib.hid hone
 have HTH:=Lib.hid hthr
 have HL:=Lib.hid hl
 have HX:=Lib.hid hX
 have HBY:=Lib.hid hby
 have HEX:=Lib.hid eX
 clear eh hl hi41 hone hthr hX hby ho2 eX
 have tok1:True:=trivial
 go_wp2_with (have _t:=tok1;refine wpList_store_mid rfl 68 (.tmp 5) (.tmp 9) rfl w2.heap.size 0 (h.map bv).toArray rfl rfl HTH.out HI41.out HONE.out ?_;clear tok1 _t)
 refine wp_world HEX.out ?_
 clear HEX
 have hr0:=run_back (W:=X.drew) (cap:=32) HBY.out HL.out
 go_region_law (first
  |(go_simp;go_at_call 59;(with_reducible refine(combined_any key H0.out H1.out s (by omega) _).mono ?_);rintro e w9 ⟨t,rfl,htl,ho9⟩;have hr9:=run_back (W:=w9) (cap:=32) (BytesAt.only (S:=NoneOf) (w:=X.drew) HBY.out ho9 (fun h=>h)) HL.out;have hz9:¬9223372036854775807<h.length+t.size:=sum_fits (by omega) HL.out htl;have HTL:=Lib.hid htl;have HO9:=Lib.hid ho9;clear htl ho9))
 all_goals
  go_wp2_with fail
  go_ret
  refine⟨_,rfl,?_,HX.out.drew.trans HO9.out⟩
  rw[append_list,HTL.out,sealS,EH.out]
end Go.Proofs.YtpdlbmieciabmaaGreatDoor
