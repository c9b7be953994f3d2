/-What is proved here:several parts. several parts. the reference of sealing:numbers,checks,the combined text and the sealed one. Conditions:the texts are short. · the check that each law runs first holds. Condition:the table of powers of ten reads as its initialiser lays it. · the law of sealed texts returns true. Conditions:the table of powers of ten reads as its initialiser lays it;the texts are short. · the law of the streams returns true. Conditions:the table of powers of ten reads as its initialiser lays it;the texts are short. · the reference of sealing:the combined text,the sealed text,and the opened one. Conditions:the texts are short. · the law of other keys returns true. Conditions:the table of powers of ten reads as its initialiser lays it;the text is short. · the reference seals and opens a text as the program does;the laws of boxes and of opening return true. Conditions:the table of powers of ten reads as its initialiser lays it;the texts are short. · a text in a box with the shares of its key,by the program and by the reference. Conditions:the texts are short,there are 13 officers at most. · a region that draws its order and whose calls leave a class of worlds:one walk,in the order of the text,the class told as a family of worlds;no function of the program. No conditions. -/
import Derived.Test.YtpdlbmieciabmaaGreatDoorPk06
import Derived.Test.YtpdlbmieciabmaaGreatDoorPk07
import Derived.Test.YtpdlbmieciabmaaGreatDoorPk09
import Derived.Test.YtpdlbmieciabmaaGreatDoorPk10
import Derived.Test.YtpdlbmieciabmaaGreatDoorPk15
import Derived.Test.YtpdlbmieciabmaaGreatDoorPk19
import Derived.Stop.BytesEq
import Derived.Deep.OwnRows
import Derived.BigRegion
import Derived.Deep.Quiet
import Derived.Deep.AppendLies
import Derived.Test.YtpdlbmieciabmaaGreatDoorRows
import Derived.BigQuiet
namespace Go.Proofs.YtpdlbmieciabmaaGreatDoor
open Go.RowKit Go.Shelf
theorem number14_any(n:Int)(h0: -9223372036854775808≤n)(h1:n≤9223372036854775807)(w:World):
  Calls Tryz.prog 90 #[.int .i64 n] w (RetStr (Lib.itoa n) w):=by
 have HN:=Lib.hid (text_one n h0 h1 w)
 clear h0 h1
 go_enter Tryz.func90,Tryz.ntmps90
 go_wp2_with fail
 refine HN.out.mono ?_
 rintro e w1 ⟨t,rfl,ht,ho⟩
 have HT:=Lib.hid ht
 have HO:=Lib.hid ho
 clear ht ho
 go_wp2_with fail
 go_ret
 exact RetStr.mk HT.out HO.out
theorem rcheck_any(key:Int)(h0: -9223372036854775808≤key)(h1:key≤9223372036854775807)(s:ByteArray)(hs:s.size≤17592186044416)(w:World):
  Calls Tryz.prog 91 #[.int .i64 key,.string s] w (RetStr (checkS key s.data.toList) w):=by
 have HN:=Lib.hid (number14_any key h0 h1 w)
 have HL:=Lib.hid (itoa_len h0 h1)
 clear h0 h1
 go_enter Tryz.func91,Tryz.ntmps91
 go_wp2_with fail
 refine HN.out.mono ?_
 rintro e w1 ⟨t,rfl,ht,ho⟩
 have zt:t.size≤21:=by rw[size_list,ht];exact HL.out
 have HT:=Lib.hid ht
 have HO:=Lib.hid ho
 clear ht ho
 go_wp2_with fail
 go_ret
 refine RetStr.mk ?_ HO.out
 rw[append_list,append_list,append_list,HT.out]
 rfl
attribute [local go_sem ↓] eql_hash
end Go.Proofs.YtpdlbmieciabmaaGreatDoor
namespace Go.Proofs.YtpdlbmieciabmaaGreatDoor
open Go.RowKit Go.Shelf
end Go.Proofs.YtpdlbmieciabmaaGreatDoor
namespace Go.Proofs.YtpdlbmieciabmaaGreatDoor
open Go.RowKit Go.Shelf
end Go.Proofs.YtpdlbmieciabmaaGreatDoor
namespace Go.Proofs.YtpdlbmieciabmaaGreatDoor
open Go.RowKit Go.Shelf
theorem info_u8:(Tryz.prog.info? 5).map (fun i=>(i.zero,i.size,i.bytes))=some (some (.int .u8 0),1,1):=by kernel_rfl
theorem madeBytes(n:Nat):madeCells #[Value.int .u8 0] n=Array.replicate n (bv 0):=by
 apply Array.ext'
 apply List.ext_getElem?
 intro i
 by_cases h:i<n
 ·simp[madeCells,h,Nat.mod_one,bv]
 ·simp[madeCells,h]
end Go.Proofs.YtpdlbmieciabmaaGreatDoor
namespace Go.Proofs.YtpdlbmieciabmaaGreatDoor
open Go.RowKit Go.Shelf
def mixed14(key:Int)(l:List UInt8)(k:Nat):List UInt8:=(combL key l).take k++List.replicate (l.length-k) 0
theorem mixed14_set{key:Int}{l:List UInt8}{k:Nat}{x:UInt8}(hx:l[k]? =some x):((mixed14 key l k).map bv).toArray.setIfInBounds k (bv (x^^^sbyte key k))=((mixed14 key l (k+1)).map bv).toArray :=by
 have hk:k<l.length:=(List.getElem?_eq_some_iff.1 hx).1
 have hc:(combL key l)[k]? =some (x^^^sbyte key k):=by rw[combL_get,hx];rfl
 have hl:((combL key l).take k).length =k:=by rw[List.length_take,combL_len];omega
 rw[List.setIfInBounds_toArray,←List.map_set,mixed14,mixed14,List.set_append_right _ _ (by omega),hl,Nat.sub_self,show l.length-k=(l.length-(k+1))+1 by omega,List.replicate_succ,List.set_cons_zero,List.take_add_one,hc]
 simp
theorem mixed14_all(key:Int)(l:List UInt8):mixed14 key l l.length=combL key l:=by
 simp only[mixed14,Nat.sub_self,List.replicate_zero,List.append_nil]
 rw[List.take_of_length_le (by rw[combL_len];exact Nat.le_refl _)]
def CmbI(w:World)(O B:Nat)(key:Int)(l:List UInt8)(k:Nat)(wr:World):Prop:=
 Blk wr O 5 ((mixed14 key l k).map bv).toArray∧(k%32=0→∃h:List UInt8,h.length=32∧Blk wr B 68 (h.map bv).toArray)∧(k%32≠0→Blk wr B 68 ((shaL (streamS key (k/32))).map bv).toArray)∧Only NoneOf w wr
set_option maxRecDepth 100000 in
set_option maxHeartbeats 1000000 in
theorem combined_any(key:Int)(h0: -9223372036854775808≤key)(h1:key≤9223372036854775807)(s:ByteArray)(hs:s.size≤17592186044416)(w:World):
  Calls Tryz.prog 59 #[.int .i64 key,.string s] w (RetStr (combL key s.data.toList) w):=by
 have HN:=Lib.hid (number14_any key h0 h1)
 have HL:=Lib.hid (itoa_len h0 h1)
 have hmk:=run_make_row' (P:=Tryz.prog) 100 5 (.int .u8 0) 1 Tryz.underlying100 info_u8 rfl .i64 .i64 s.size (by omega) (by omega) w
 rw[madeBytes] at hmk
 have hl:s.data.toList.length=s.size:=by simp
 have hm0:((mixed14 key s.data.toList 0).map bv).toArray =Array.replicate s.size (bv 0):=by
  simp only[mixed14,List.take_zero,List.nil_append,Nat.sub_zero,hl]
  simp
 have HM0:=Lib.hid hm0
 have HSL:=Lib.hid hl
 clear h0 h1 hl hm0
 go_enter Tryz.func59,Tryz.ntmps59
 go_wp2_with fail
 clear hmk
 obtain⟨O,eO⟩:∃O,O=w.heap.size:=⟨_,rfl⟩
 obtain⟨l,el⟩:∃l,l=s.data.toList:=⟨_,rfl⟩
 have hstart:CmbI w O (O+1) key l 0 ((w.alloc (.cells (Array.replicate s.size (bv 0)) 5)).alloc (.cells (Array.replicate 32 (.int .u8 0)) 68)):=by
  refine⟨?_,fun _=>⟨List.replicate 32 0,by simp,?_⟩,fun e=>absurd rfl e,((Only.refl _ _).alloc _).alloc _⟩
  ·rw[eO,el,HM0.out];exact(Blk.new w _ _).alloc _
  ·rw[eO]
   have h:=Blk.new (w.alloc (.cells (Array.replicate s.size (bv 0)) 5)) 68 (Array.replicate 32 (.int .u8 0))
   rw[World.size_alloc] at h
   have e:((List.replicate 32 (0:UInt8)).map bv).toArray =Array.replicate 32 (.int .u8 0):=rfl
   rw[e]
   exact h
 have HST:=Lib.hid hstart
 have hsl:l.length=s.size:=by rw[el];exact HSL.out
 have HLL:=Lib.hid hsl
 rw[←eO,←el]
 have EO:=Lib.hid eO
 have EL:=Lib.hid el
 clear eO el hstart hsl HM0 HSL
 go_loopw [7] (fun v wr=>∃k:Nat,v= .int .i64 k∧k≤s.size∧CmbI w O (O+1) key l k wr) (fun v _=>s.size-(intOf v).toNat)
 case atStart=>exact⟨0,rfl,Nat.zero_le _,HST.out⟩
 case round=>
  obtain⟨k,rfl,hk,hI⟩:=hrel
  by_cases hlt:k<s.size
  ·obtain⟨r,er⟩:∃r,r=k%32:=⟨_,rfl⟩
   obtain⟨d,ed⟩:∃d,d=k/32:=⟨_,rfl⟩
   have er2:(k:Int)%32=(r:Int):=by omega
   have ed2:(k:Int)/32=(d:Int):=by omega
   have er3:(k:Int).tmod 32=(r:Int):=by rw[Int.tmod_eq_emod_of_nonneg (by omega)];omega
   have hr32:r<32:=by omega
   have hd:d≤17592186044416:=by omega
   obtain⟨x,ex⟩:∃x,x=s[k]:=⟨_,rfl⟩
   have hx:l[k]? =some x:=by
    rw[EL.out,List.getElem?_eq_getElem (by simpa using hlt),ex]
    rfl
   have HXX:=Lib.hid hx
   have EX:=Lib.hid ex
   have ER:=Lib.hid er
   have ED:=Lib.hid ed
   have hO:=hI.1
   have HOB:=Lib.hid hO
   have HON:=Lib.hid hI.2.2.2
   have hk2:(k:Int)<(s.size:Int):=by omega
   have k0:0≤(k:Int):=by omega
   have KL:=Lib.hid hk
   obtain⟨g,eg⟩:∃g,g=shaL (streamS key d):=⟨_,rfl⟩
   have hg:g.length=32:=by rw[eg];exact shaL_len _
   have EG:=Lib.hid eg
   have HG:=Lib.hid hg
   clear eg hg
   by_cases hr0:r=0
   ·obtain⟨h,hh,hhb⟩:=hI.2.1 (by omega)
    have HHB:=Lib.hid hhb
    have HH:=Lib.hid hh
    have hr02:((r:Int)==0)=true:=by simp;omega
    clear hI hO ex er ed hhb hh hx hr0
    go_wp2_with fail
    refine(HN.out _).mono ?_
    rintro e w1 ⟨t1,rfl,ht1,ho1⟩
    have zt1:t1.size≤21:=by rw[size_list,ht1];exact HL.out
    have HT1:=Lib.hid ht1
    have HO1:=Lib.hid ho1
    clear ht1 ho1
    go_wp2_with fail
    refine(number14_any (d:Int) (by omega) (by omega) _).mono ?_
    rintro e w2 ⟨t2,rfl,ht2,ho2⟩
    have zt2:t2.size≤21:=by rw[size_list,ht2];exact itoa_len (by omega) (by omega)
    have HT2:=Lib.hid ht2
    have HO2:=Lib.hid ho2
    clear ht2 ho2
    go_wp2_with fail
    refine(rsum_any _ _ ?hs).mono ?_
    case hs=>
     have z6:(⟨#[115,116,114,101,97,109,47]⟩:ByteArray).size =7:=rfl
     have z1:(⟨#[47]⟩:ByteArray).size =1:=rfl
     simp only[ByteArray.size_append];omega
    rintro e w3 ⟨rfl,ho3⟩
    have e1:shaL ((⟨#[115,116,114,101,97,109,47]⟩++t1++⟨#[47]⟩++t2:ByteArray).data.toList)=shaL (streamS key d):=by
     rw[append_list,append_list,append_list,HT1.out,HT2.out];rfl
    rw[e1,←EG.out]
    have hg:=HG.out
    have hi41:(Tryz.prog.info? 68).map (·.size)=some (g.map bv).toArray.size :=by rw[List.size_toArray,List.length_map,hg];kernel_rfl
    have hone:(g.map bv).toArray.all (·.oneCell')=true:=all_oneCell_toArray (bvs_one _)
    have h123:=HO1.out.trans (HO2.out.trans ho3)
    have hb3:=HHB.out.only h123 (fun e=>e)
    have hth:=hb3.there 0 (g.map bv).toArray.size (by simp[HH.out,hg])
    have hfill:Blk (w3.setCells (O+1) 0 (g.map bv).toArray.toList) (O+1) 68 (g.map bv).toArray :=hb3.filled _ (by simp[HH.out,hg])
    have hob:=Blk.farCells (b:=O+1) (by omega) (g.map bv).toArray.toList 0 (HOB.out.only h123 (fun e=>e))
    have hon:Only NoneOf w (w3.setCells (O+1) 0 (g.map bv).toArray.toList):=only_setCells (HON.out.trans h123) _ _ (.inr (by rw[EO.out];omega)) _
    have HI41:=Lib.hid hi41
    have HONE:=Lib.hid hone
    have HTH:=Lib.hid hth
    have HFILL:=Lib.hid hfill
    have HOBX:=Lib.hid hob
    have HONX:=Lib.hid hon
    clear e1 hg hi41 hone h123 hb3 hth hfill hob hon ho3
    have tok1:True:=trivial
    go_wp2_with (have _t:=tok1;refine wpList_store_mid rfl 68 (.tmp 6) (.tmp 28) rfl (O+1) 0 (g.map bv).toArray rfl rfl HTH.out HI41.out HONE.out ?_;clear tok1 _t)
    go_frame
    refine wp_gen (fun X=>Blk X (O+1) 68 (g.map bv).toArray∧Blk X O 5 ((mixed14 key l k).map bv).toArray∧Only NoneOf w X) ⟨HFILL.out,HOBX.out,HONX.out⟩ ?_
    rintro X ⟨hB,hO,hN⟩
    have HBX:=Lib.hid hB
    have HOX:=Lib.hid hO
    have HNX:=Lib.hid hN
    clear hB hO hN
    obtain⟨y,ey⟩:∃y,g[r]? =some y:=⟨_,List.getElem?_eq_getElem (by have:=HG.out;omega)⟩
    have cy:X.cell? ⟨O+1,r,none⟩=some (.int .u8 (y.toNat:Int)):=by
     rw[HBX.out.cell,List.getElem?_toArray,List.getElem?_map,ey];rfl
    have cz:X.cell? ⟨O,k,none⟩=some (.int .u8 0):=by
     rw[HOX.out.cell,List.getElem?_toArray,List.getElem?_map,mixed14,List.getElem?_append_right (by rw[List.length_take,combL_len];have:=HLL.out;omega),List.getElem?_replicate,if_pos (by rw[List.length_take,combL_len];have:=HLL.out;omega)]
     rfl
    have fz:=HOX.out.frozen k
    have hsb:y=sbyte key k:=by
     unfold sbyte
     rw[←ED.out,←ER.out,←EG.out,ey]
     rfl
    have HSB:=Lib.hid hsb
    have r0:0≤(r:Int):=by omega
    have r32:(r:Int)<32:=by omega
    clear hsb ey
    go_region
    go_wp2_with fail
    go_roundw
    case rel=>
     refine⟨k+1,by go_num,by omega,?_⟩
     have hset:=HOX.out.drew.set_ k (bv (x^^^y))
     have hon2:=HNX.out.drew.setCell (p:=⟨O,k,none⟩) (.inr (by rw[EO.out];exact Nat.le_refl _)) (bv (x^^^y))
     have hb2:=HBX.out.drew.far (p:=⟨O,k,none⟩) (by show O+1≠O;omega) (bv (x^^^y))
     rw[HSB.out,mixed14_set HXX.out] at hset
     rw[←EX.out,b_xor,HSB.out]
     rw[HSB.out] at hon2 hb2
     refine⟨hset,fun _=>⟨g,HG.out,hb2⟩,fun hne=> ?_,hon2⟩
     rw[show(k+1)/32=d by have:=ED.out;omega,←EG.out]
     exact hb2
    case measure=>simp[intOf];omega
   ·have hr02:((r:Int)==0)=false:=by simp;omega
    have hB0:=hI.2.2.1 (by omega)
    rw[←ed,←EG.out] at hB0
    have HB0:=Lib.hid hB0
    clear hI hO ex er ed hx hr0 hB0
    go_wp2_with fail
    refine wp_gen (fun X=>Blk X (O+1) 68 (g.map bv).toArray∧Blk X O 5 ((mixed14 key l k).map bv).toArray∧Only NoneOf w X) ⟨HB0.out,HOB.out,HON.out⟩ ?_
    rintro X ⟨hB,hO,hN⟩
    have HBX:=Lib.hid hB
    have HOX:=Lib.hid hO
    have HNX:=Lib.hid hN
    clear hB hO hN
    obtain⟨y,ey⟩:∃y,g[r]? =some y:=⟨_,List.getElem?_eq_getElem (by have:=HG.out;omega)⟩
    have cy:X.cell? ⟨O+1,r,none⟩=some (.int .u8 (y.toNat:Int)):=by
     rw[HBX.out.cell,List.getElem?_toArray,List.getElem?_map,ey];rfl
    have cz:X.cell? ⟨O,k,none⟩=some (.int .u8 0):=by
     rw[HOX.out.cell,List.getElem?_toArray,List.getElem?_map,mixed14,List.getElem?_append_right (by rw[List.length_take,combL_len];have:=HLL.out;omega),List.getElem?_replicate,if_pos (by rw[List.length_take,combL_len];have:=HLL.out;omega)]
     rfl
    have fz:=HOX.out.frozen k
    have hsb:y=sbyte key k:=by
     unfold sbyte
     rw[←ED.out,←ER.out,←EG.out,ey]
     rfl
    have HSB:=Lib.hid hsb
    have r0:0≤(r:Int):=by omega
    have r32:(r:Int)<32:=by omega
    clear hsb ey
    go_region
    go_wp2_with fail
    go_roundw
    case rel=>
     refine⟨k+1,by go_num,by omega,?_⟩
     have hset:=HOX.out.drew.set_ k (bv (x^^^y))
     have hon2:=HNX.out.drew.setCell (p:=⟨O,k,none⟩) (.inr (by rw[EO.out];exact Nat.le_refl _)) (bv (x^^^y))
     have hb2:=HBX.out.drew.far (p:=⟨O,k,none⟩) (by show O+1≠O;omega) (bv (x^^^y))
     rw[HSB.out,mixed14_set HXX.out] at hset
     rw[←EX.out,b_xor,HSB.out]
     rw[HSB.out] at hon2 hb2
     refine⟨hset,fun _=>⟨g,HG.out,hb2⟩,fun hne=> ?_,hon2⟩
     rw[show(k+1)/32=d by have:=ED.out;omega,←EG.out]
     exact hb2
    case measure=>simp[intOf];omega
  ·obtain rfl:k=s.size:=by omega
   have hby:BytesAt wr O 0 (combL key l):=by
    have h:=hI.1
    rw[←HLL.out,mixed14_all] at h
    exact blk_bytes h
   have HBY:=Lib.hid hby
   have HON:=Lib.hid hI.2.2.2
   have hcl:(combL key l).length =s.size:=by rw[combL_len];exact HLL.out
   have HCL:=Lib.hid hcl
   have hk2:¬(s.size:Int)<(s.size:Int):=by omega
   clear hI hby hcl
   have tok:True:=trivial
   go_wp2_with (have _t:=tok;refine wpList_convert_back rfl 100 9 5 (.tmp 40) rfl O 0 s.size s.size rfl (combL key l) HCL.out HBY.out Tryz.underlying100 Tryz.underlying5 Tryz.underlying9 ?_;clear tok _t)
   go_ret
   exact RetStr.mk (by rw[←EL.out]) HON.out
end Go.Proofs.YtpdlbmieciabmaaGreatDoor
namespace Go.Proofs.YtpdlbmieciabmaaGreatDoor
open Go.RowKit Go.Shelf
end Go.Proofs.YtpdlbmieciabmaaGreatDoor
namespace Go.Proofs.YtpdlbmieciabmaaGreatDoor
open Go.RowKit Go.Shelf
set_option maxRecDepth 100000 in
theorem rseal_any(key:Int)(h0: -9223372036854775808≤key)(h1:key≤9223372036854775807)(s:ByteArray)(hs:s.size≤8796093022208)(w:World):
  Calls Tryz.prog 60 #[.int .i64 key,.string s] w (RetStr (sealS key s.data.toList) w):=by
 have H0:=Lib.hid h0
 have H1:=Lib.hid h1
 clear h0 h1
 go_enter Tryz.func60,Tryz.ntmps60
 go_wp2_with fail
 refine(rcheck_any key H0.out H1.out s (by omega) w).mono ?_
 rintro e w1 ⟨t1,rfl,ht1,ho1⟩
 have hz1:t1.size≤17592186044416:=by
  have:=itoa_len H0.out H1.out
  rw[size_list,ht1]
  simp only[checkS,List.length_append,List.length_cons,List.length_nil]
  rw[←size_list];omega
 have HT1:=Lib.hid ht1
 have HO1:=Lib.hid ho1
 have HZ1:=Lib.hid hz1
 clear ht1 ho1 hz1
 go_wp2_with fail
 refine(rsum_any _ _ (Nat.le_trans HZ1.out (by omega))).mono ?_
 rintro e w2 ⟨rfl,ho2⟩
 rw[HT1.out]
 obtain⟨h,eh⟩:∃h,h=shaL (checkS key s.data.toList):=⟨_,rfl⟩
 rw[←eh]
 have hl:h.length=32:=by rw[eh];exact shaL_len _
 have EH:=Lib.hid eh
 have hi41:(Tryz.prog.info? 68).map (·.size)=some (h.map bv).toArray.size :=by rw[List.size_toArray,List.length_map,hl];kernel_rfl
 have hone:(h.map bv).toArray.all (·.oneCell')=true:=all_oneCell_toArray (bvs_one _)
 have hthr:(w2.alloc (.cells (Array.replicate 32 (.int .u8 0)) 68)).there w2.heap.size 0 (h.map bv).toArray.size :=(Blk.new w2 _ _).there 0 _ (by rw[List.size_toArray,List.length_map,hl];simp)
 obtain⟨X,eX⟩:∃X,X=(w2.alloc (.cells (Array.replicate 32 (.int .u8 0)) 68)).setCells w2.heap.size 0 (h.map bv).toArray.toList :=⟨_,rfl⟩
 have hX:Only NoneOf w X:=by rw[eX];exact only_setCells (HO1.out.trans (ho2.alloc _)) _ _ (.inr (Nat.le_trans HO1.out.size ho2.size)) _
 have hby:BytesAt X w2.heap.size 0 h:=by rw[eX];exact blk_bytes (by simpa using(Blk.new w2 68 (Array.replicate 32 (.int .u8 0))).filled (h.map bv).toArray.toList (by simp[hl]))
 have HI41:=Lib.hid hi41
 have HONE:=Lib.hid hone
 have HTH:=Lib.hid hthr
 have HL:=Lib.hid hl
 have HX:=Lib.hid hX
 have HBY:=Lib.hid hby
 have HEX:=Lib.hid eX
 clear eh hl hi41 hone hthr hX hby ho2 eX
 have tok1:True:=trivial
 go_wp2_with (have _t:=tok1;refine wpList_store_mid rfl 68 (.tmp 5) (.tmp 9) rfl w2.heap.size 0 (h.map bv).toArray rfl rfl HTH.out HI41.out HONE.out ?_;clear tok1 _t)
 refine wp_world HEX.out ?_
 clear HEX
 have hr0:=run_back (W:=X.drew) (cap:=32) HBY.out HL.out
 go_region_law (first
  |(go_simp;go_at_call 59;(with_reducible refine(combined_any key H0.out H1.out s (by omega) _).mono ?_);rintro e w9 ⟨t,rfl,htl,ho9⟩;have hr9:=run_back (W:=w9) (cap:=32) (BytesAt.only (S:=NoneOf) (w:=X.drew) HBY.out ho9 (fun h=>h)) HL.out;have hz9:¬9223372036854775807<h.length+t.size:=sum_fits (by omega) HL.out htl;have HTL:=Lib.hid htl;have HO9:=Lib.hid ho9;clear htl ho9))
 all_goals
  go_wp2_with fail
  go_ret
  refine⟨_,rfl,?_,HX.out.drew.trans HO9.out⟩
  rw[append_list,HTL.out,sealS,EH.out]
theorem openS_alt{key:Int}{l:List UInt8}(h:32≤l.length):openS key l=if sealS key (combL key (l.drop 32))=l then(combL key (l.drop 32),true) else([],false):=by
 unfold openS
 rw[if_neg (by omega)]
 have e:sealS key (combL key (l.drop 32))=l↔shaL (checkS key (combL key (l.drop 32)))=l.take 32:=by
  rw[sealS,combL_back]
  conv=>lhs;rhs;rw[←List.take_append_drop 32 l]
  exact List.append_left_inj _
 by_cases hc:shaL (checkS key (combL key (l.drop 32)))=l.take 32
 ·rw[if_pos hc,if_pos (e.2 hc)]
 ·rw[if_neg hc,if_neg (fun x=>hc (e.1 x))]
theorem ropen_any(key:Int)(h0: -9223372036854775808≤key)(h1:key≤9223372036854775807)(s:ByteArray)(hs:s.size≤8796093022208)(w:World):
  Calls Tryz.prog 30 #[.int .i64 key,.string s] w (RetOpen (openS key s.data.toList) w):=by
 have H0:=Lib.hid h0
 have H1:=Lib.hid h1
 clear h0 h1
 by_cases hlt:s.size<32
 ·have e:=openS_short (key:=key) (l:=s.data.toList) (by rw[←size_list];omega)
  rw[e]
  clear e
  have hlt2:(s.size:Int)<32:=by omega
  go_enter Tryz.func30,Tryz.ntmps30
  go_wp2_with fail
  go_ret2
  exact⟨⟨#[]⟩,rfl,rfl,Only.refl _ _⟩
 ·have hge:32≤s.data.toList.length:=by rw[←size_list];omega
  have hlt2:¬(s.size:Int)<32:=by omega
  have hx:(s.extract 32 s.size).data.toList =s.data.toList.drop 32:=extract_from s 32
  have hxs:(s.extract 32 s.size).size≤8796093022208:=by rw[size_list,hx,List.length_drop,←size_list];omega
  have hsz:32≤s.size:=by omega
  have HX:=Lib.hid hx
  have HXS:=Lib.hid hxs
  have HGE:=Lib.hid hge
  clear hx hxs hge hlt
  go_enter Tryz.func30,Tryz.ntmps30
  go_wp2_with fail
  refine(combined_any key H0.out H1.out _ (Nat.le_trans HXS.out (by omega)) _).mono ?_
  rintro e w1 ⟨t,rfl,htl,ho1⟩
  rw[HX.out] at htl
  have hts:t.size≤8796093022208:=by rw[size_list,htl,combL_len,←HX.out,←size_list];exact HXS.out
  have HTL:=Lib.hid htl
  have HTS:=Lib.hid hts
  have HO1:=Lib.hid ho1
  clear htl hts ho1
  go_wp2_with fail
  refine(rseal_any key H0.out H1.out t HTS.out _).mono ?_
  rintro e w2 ⟨u,rfl,hul,ho2⟩
  rw[HTL.out] at hul
  have HUL:=Lib.hid hul
  have HO2:=Lib.hid (HO1.out.trans ho2)
  clear hul ho2
  by_cases hc:sealS key (combL key (s.data.toList.drop 32))=s.data.toList
  ·have hu:u=s:=by rw[bytes_eq (HUL.out.trans hc)]
   subst hu
   go_wp2_with fail
   go_ret2
   rw[openS_alt HGE.out,if_pos hc]
   exact⟨t,rfl,HTL.out,HO2.out⟩
  ·have hq:(u.toList==s.toList)=false:=by
    rw[Lib.toList_data,Lib.toList_data,HUL.out];exact beq_eq_false_iff_ne.2 hc
   have HC:=Lib.hid hc
   clear hc
   go_wp2_with fail
   go_ret2
   rw[openS_alt HGE.out,if_neg HC.out]
   exact⟨⟨#[]⟩,rfl,rfl,HO2.out⟩
end Go.Proofs.YtpdlbmieciabmaaGreatDoor
namespace Go.Proofs.YtpdlbmieciabmaaGreatDoor
open Go.RowKit Go.Shelf
abbrev tBox:TypeId:=40
theorem read_box{fn:Func}{p u:Tmp}{tmps:Array Value}{w:World}{g:Nat}{x0 x1 sv:Value}(hf:fn.results= #[.cell p tBox,.tmp u])(hp:tmps.getD p undef= .pointer (some ⟨g,0,none⟩))(hu:tmps.getD u undef=sv)(hb:Blk w g tBox #[x0,x1]):(results fn tmps).run Tryz.prog w= .ok (.tuple #[.agg #[x0,x1],sv]) w:=by
 have hr:w.rangeAt g 0 [x0,x1]:=fun j v hj=>by rw[Nat.zero_add,hb.cell];simpa using hj
 have hl:=run_loadVar_mid (P:=Tryz.prog) w g 0 tBox [x0,x1] _ hr Tryz.underlying40 rfl (by kernel_rfl)
 rw[results_cell_tmp hf,hp,hu]
 simp only[asAddr]
 show(Result.andThen (Result.ok _ w) _)=_
 simp only[Result.andThen]
 rw[hl]
def BoxE(seed text:List UInt8)(k n:Nat)(w:World)(e:Ending)(w' :World):Prop:=∃cv sv,e= .returned (.tuple #[.agg #[.string (boxT seed text),cv],sv])∧OwnOf 3 inC 1 w' w.heap.size cv k (cmL (cfs seed k))∧OwnOf tSh shC 2 w' w.heap.size sv n (shL (cfs seed k) n)∧Only NoneOf w w'
theorem cf_blk{w:World}{g k c:Nat}{l:List UInt8}(h:Blk w g 3 ((coefL l k).map iv).toArray):CfAt w (.slice (some ⟨g,0,none⟩) k c) (cfs l k):=by
 refine⟨some ⟨g,0,none⟩,c,by rw[cfs_len],fun i x hx=>⟨g,0,rfl,h.lt,?_⟩⟩
 rw[h.cell,Nat.zero_add,List.getElem?_toArray,List.getElem?_map,coefL_cfs,List.getElem?_map,hx]
 rfl
theorem boxT_of{seed text:List UInt8}{t:ByteArray}(h:t.data.toList=sealS (coefN seed 0) text):t=boxT seed text:=by
 apply ba_ext
 rw[h,boxT_list]
set_option maxRecDepth 100000 in
set_option maxHeartbeats 2000000 in
theorem box_any(seed text:ByteArray)(hs:seed.size≤1000000)(htx:text.size≤1000000)(k n:Nat)(hk:1≤k)(hkn:k≤n)(hn:n≤13)(w:World)(ht:Tab w):Calls Tryz.prog 36 #[.string seed,.int .i64 (k:Int),.int .i64 (n:Int),.string text] w (BoxE seed.data.toList text.data.toList k n w):=by
 obtain⟨R,eR⟩:∃R,R=w.heap.size:=⟨_,rfl⟩
 obtain⟨X,eX⟩:∃X,X=w.alloc (.cells #[.string ⟨#[]⟩,.slice none 0 0] tBox):=⟨_,rfl⟩
 have HX:=Lib.hid (show Only NoneOf w X by rw[eX];exact(Only.refl _ _).alloc _)
 have HB:=Lib.hid (show Blk X R tBox #[.string ⟨#[]⟩,.slice none 0 0] by rw[eX,eR];exact Blk.new w _ _)
 have HT:=Lib.hid ht
 have EX:=Lib.hid eX
 have ER:=Lib.hid eR
 clear ht eX eR
 go_enter Tryz.func36,Tryz.ntmps36
 go_wp2_with fail
 rw[←EX.out]
 rw[←ER.out]
 refine(coefs_any seed (by omega) k hk (by omega) X (HT.out.none HX.out)).mono ?_
 rintro e w1 ⟨g,c,rfl,hg,hkc,hblk,ho1⟩
 have hcf:CfAt w1 (.slice (some ⟨g,0,none⟩) k c) (cfs seed.data.toList k):=cf_blk hblk
 have c0:w1.cell? ⟨g,0,none⟩=some (.int .i64 (coefN seed.data.toList 0)):=by
  obtain⟨A,cap,e,h2⟩:=hcf
  simp only[Value.slice.injEq] at e
  obtain⟨rfl,_,rfl⟩:=e
  obtain⟨g2,o2,e2,_,h3⟩:=h2 0 (cfN seed.data.toList 0) (by unfold cfs;rw[List.getElem?_map,List.getElem?_range (by omega)];rfl)
  cases e2
  rw[←cfN_int]
  exact h3
 have HCF:=Lib.hid hcf
 have HO1:=Lib.hid (HX.out.trans ho1)
 have HB1:=Lib.hid (HB.out.only ho1 (fun e=>e))
 have hlen:(cfs seed.data.toList k).length =k:=cfs_len _ _
 have HSP:=Lib.hid (split_sh (cfs seed.data.toList k) (cfs_lt _ _) (by rw[hlen];omega) n (by rw[hlen];omega) (by omega) _ w1 hcf)
 have HLEN:=Lib.hid hlen
 have hin:=coefN_in seed.data.toList 0
 obtain⟨key,ekey⟩:∃x,x=coefN seed.data.toList 0:=⟨_,rfl⟩
 rw[←ekey] at c0 hin
 have hq0:q0=1152921504606845789:=rfl
 have k0: -9223372036854775808≤key:=by omega
 have k1:key≤9223372036854775807:=by omega
 have C0:=Lib.hid c0
 have EK:=Lib.hid ekey
 have hkc1:1≤k:=hk
 clear hcf hblk ho1 c0 hlen hin ekey hq0
 go_wp2_with fail
 refine(HSP.out).mono ?_
 rintro e w2 ⟨sv,cv,rfl,hsv,hcv,ho2⟩
 rw[HLEN.out] at hcv
 obtain⟨A1,cp1,rfl,_,_⟩:=own_form' hsv
 obtain⟨A2,cp2,rfl,_,_⟩:=own_form' hcv
 have c2:=ho2.cell_some C0.out (fun e=>e)
 have HO2:=Lib.hid (HO1.out.trans ho2)
 have HB2:=Lib.hid (HB1.out.only ho2 (fun e=>e))
 have HSV:=Lib.hid hsv
 have HCV:=Lib.hid hcv
 have k00:(0:Int)<(k:Int):=by omega
 have k0n:0<k:=by omega
 clear hsv hcv ho2
 go_wp2_with fail
 refine(seal_any key k0 k1 text (by omega) w2 (HT.out.none HO2.out)).mono ?_
 rintro e w3 ⟨t,rfl,htl,ho3⟩
 have et:t=boxT seed.data.toList text.data.toList:=boxT_of (by rw[htl,EK.out])
 have HET:=Lib.hid et
 have hb3:=HB2.out.only ho3 (fun e=>e)
 have r0:=hb3.cell 0
 have r1:=hb3.cell 1
 have f0:=hb3.frozen 0
 have f1:=hb3.frozen 1
 have HO3:=Lib.hid (HO2.out.trans ho3)
 have HSV3:=Lib.hid (OwnOf.keep HSV.out ho3 (fun _ _ e=>e))
 have HCV3:=Lib.hid (OwnOf.keep HCV.out ho3 (fun _ _ e=>e))
 have HB3:=Lib.hid hb3
 clear et htl ho3 hb3
 go_wp2_with fail
 have hRw:w.heap.size≤R:=by rw[ER.out];exact Nat.le_refl _
 have h4:Blk ((w3.setCell ⟨R,0,none⟩ (.string t)).setCell ⟨R,1,none⟩ (.slice A2 k cp2)) R tBox #[.string t,.slice A2 k cp2]:=(HB3.out.set_ 0 (.string t)).set_ 1 (.slice A2 k cp2)
 have ho4a:Only (·=R) w3 (w3.setCell ⟨R,0,none⟩ (.string t)):=(Only.refl (·=R) w3).setCell (p:=⟨R,0,none⟩) (.inl rfl) _
 have ho4:Only (·=R) w3 ((w3.setCell ⟨R,0,none⟩ (.string t)).setCell ⟨R,1,none⟩ (.slice A2 k cp2)):=ho4a.setCell (p:=⟨R,1,none⟩) (.inl rfl) _
 have hbt:∀{t' :TypeId} {v' :Value} {b:Nat} {α:Type} {cc:α→List Value} {kk n' :Nat} {P:List α},OwnOf t' cc kk w3 w1.heap.size v' n' P→v'.ownBlock=some b→b≠R:=fun h e hb=>by
  have h1:=(own_ge h e).1
  have h2:=HB1.out.lt
  omega
 refine bodyPost_ret (read_box rfl rfl rfl h4) rfl ⟨_,_,by rw[HET.out],?_,?_,?_⟩
 ·exact own_base (OwnOf.keep HCV3.out ho4 (fun b e hs=>hbt HCV3.out e hs)) HO1.out.size
 ·exact own_base (OwnOf.keep HSV3.out ho4 (fun b e hs=>hbt HSV3.out e hs)) HO1.out.size
 ·exact HO3.out.trans' ho4 (fun i hi e=>by have e' :i=R:=e;omega)
end Go.Proofs.YtpdlbmieciabmaaGreatDoor
namespace Go.Proofs.YtpdlbmieciabmaaGreatDoor
open Go.RowKit
theorem family(S:World→Prop){W0:World}(h0:S W0):∃(I:Type) (f:I→World),Nonempty I∧(∃x,W0=f x)∧(∀W,S W↔∃x,W=f x)∧∀x,S (f x):=
 ⟨{W//S W},Subtype.val,⟨⟨W0,h0⟩⟩,⟨⟨W0,h0⟩,rfl⟩,fun W=>⟨fun h=>⟨⟨W,h⟩,rfl⟩,fun⟨x,hx⟩=>hx▸x.2⟩,fun x=>x.2⟩
theorem wp_region_family{P:Program}{id:Nat}{Q:Exit→Act→World→Prop}{a:Act}{w:World}{l:List Oper}{I:Type}(f:I→World)(hm:P.follows .mixedOrders =true)(hB:Region.lexB .any l.toArray=true)(hC:∃x,w.drew=f x)
  (h:wpQuiet P l.toArray (fun w' =>∃x,w' =f x) (fun a' =>∀w',(∃x,w' =f x)→Q .normal a' w') l a):(Code.region id l.toArray true).wp P Q a w:=
 wp_region_quiet (C:=fun w' =>∃x,w' =f x) hm hB hC (by simpa using h)
end Go.Proofs.YtpdlbmieciabmaaGreatDoor
