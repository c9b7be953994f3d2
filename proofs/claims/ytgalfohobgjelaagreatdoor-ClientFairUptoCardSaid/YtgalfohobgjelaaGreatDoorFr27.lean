/- What is proved here:several parts. the leaves of events. Conditions:the events are well and short,and there are few. · votes for a head,by bits. Conditions:the numbers are words of 16 bits,the head is well. · events built,in a slice of one,and in a slice of the call's own. Condition:hashes have 32 bytes. -/
import Derived.Test.YtgalfohobgjelaaGreatDoorFr26
namespace Go.Proofs.YtgalfohobgjelaaGreatDoor
open Go.RowKit Go.Shelf
attribute [local go_sem ↓ high] evLoad_eq
def TxOwn (w:World) (base:Nat) (v:Value) (n:Nat) (L:List ByteArray):Prop:=w.ownsRow base 9 1 v n (L.map (fun x=>Value.string x))
theorem TxOwn.sl {w:World} {base:Nat} {v:Value} {L:List ByteArray} (h:TxOwn w base v L.length L):StSl w v L:=by
 obtain⟨A,cap,rfl,h1,h2⟩:=own_form' h
 refine⟨A,cap,rfl,h1,h2,fun i s hs=> ?_⟩
 have hlt:i<L.length:=(List.getElem?_eq_some_iff.1 hs).1
 obtain⟨g,c,e,_,_,_,_⟩:=own_form h (by omega)
 simp only [Value.slice.injEq,true_and] at e
 obtain⟨rfl,rfl⟩:=e
 refine⟨g,0,rfl,?_⟩
 have h3:=World.ownsRow.cells h rfl i (.string s) (by rw [List.getElem?_map,hs];rfl)
 rw [Addr.add_mid,Nat.zero_add] at h3
 rw [Nat.zero_add]
 exact h3
theorem leavesE_len (l:List Ev):(leavesE l).length=l.length:=by unfold leavesE;rw [List.length_map]
theorem ba_ext {t:ByteArray} {l:List UInt8} (h:t.data.toList=l):t=⟨l.toArray⟩:=by
 cases t with
 |mk d=>simp only at h;subst h;simp
set_option maxRecDepth 100000 in
set_option maxHeartbeats 1000000 in
theorem rleaves_any (l:List Ev) (hok:∀e∈l,e.Ok∧e.name.size≤100∧e.text.size≤100) (hl:l.length≤1000) (sv:Value) (w:World) (h:EvSl w sv l):Calls Tryz.prog 12 #[sv] w fun e w'=> ∃rv,e= .returned rv∧TxOwn w' w.heap.size rv l.length (leavesE l)∧Only NoneOf w w':=by
 obtain⟨i0,hi0,hz0,hz1,hz2⟩:=info_parts infoStr
 obtain⟨A,cap0,rfl,hc1,hc2,hev⟩:=h
 have HEV:=Lib.hid hev
 have HOK:=Lib.hid hok
 clear hev hok
 go_enter Tryz.func12,Tryz.ntmps12
 go_wp2_with fail
 go_loopw [3,4] (fun v i wr=> ∃k:Nat,i= .int .i64 k∧k≤l.length∧TxOwn wr w.heap.size v k (leavesE (l.take k))∧Only NoneOf w wr) (fun _ i _=>l.length - (intOf i).toNat)
 case atStart=>exact⟨0,rfl,by omega,⟨rfl,.inl ⟨rfl,rfl⟩⟩,Only.refl _ _⟩
 case round=>
  obtain⟨k,rfl,hk,hown,ho⟩:=hrel
  have HOWN:=Lib.hid hown
  have HO:=Lib.hid ho
  obtain⟨ao,cap,hv,hcc,hcm⟩:=own_form' hown
  subst hv
  have hwz:=ho.size
  clear hown ho
  by_cases hlt:k<l.length
  ·obtain⟨x,hx⟩:∃x,l[k]? =some x:=⟨_,List.getElem?_eq_getElem hlt⟩
   obtain⟨hxo,hx1,hx2⟩:=HOK.out x (List.mem_of_getElem? hx)
   obtain⟨g,o,rfl,hg,hr⟩:=HEV.out k x hx
   have hld:=ev_load_at (range_only hr HO.out) hxo.prev
   have hen:=rencode_any x hxo (by omega) (by omega) wr
   have hnx:leavesE (l.take (k+1))=leavesE (l.take k) ++ [⟨(evCode x).toArray⟩]:=by
    rw [List.take_add_one,hx,Option.toList_some];unfold leavesE;rw [List.map_append];rfl
   have ik:(k:Int) <l.length:=by omega
   have HEN:=Lib.hid hen
   have HNX:=Lib.hid hnx
   clear hx hr hen hnx hxo
   go_wp2_with fail
   refine HEN.out.mono ?_
   rintro e w1 ⟨t,rfl,ht,ho1⟩
   have hte:=ba_ext ht
   subst hte
   have hw1:=ho1.size
   have HO1:=Lib.hid (HO.out.trans ho1)
   have HOW1:=Lib.hid (own_only HOWN.out ho1 (fun _ _ e=>e))
   clear ho1 ht
   go_wp2_with (at_builtin;refine wpList_append_own _ rfl _ _ 28 rfl w.heap.size 9 i0 (.string ⟨#[]⟩) 1 16 Tryz.underlying28 hi0 hz0 hz1 hz2 rfl (by decide) _ _ _ rfl (HOW1.out.alloc _) ⟨w1.heap.size,0,none⟩ 1 1 [.string ⟨(evCode x).toArray⟩] rfl rfl (fun j u hu=>by match j,hu with|0,hu=>simp at hu;subst hu;simp [Addr.add]) (fun u hu=>by simp at hu;subst hu;rfl) (by unfold maxLen;omega) (by omega) (by simp;omega) ?_;intro v' w2 hown' hgrow _;have HOW2:=Lib.hid hown';have HO2:Hid (Only NoneOf w w2):=Lib.hid ((HO1.out.alloc _).grown hgrow (fun b e=> .inr (HOW1.out.lt b e).1));clear hown' hgrow)
   go_roundw
   case rel=>exact⟨k+1,by go_num,by omega,by unfold TxOwn;rw [HNX.out,List.map_append];exact HOW2.out,HO2.out⟩
   case measure=>simp [intOf];omega
  ·obtain rfl:k=l.length:=by omega
   have hall:l.take l.length=l:=List.take_of_length_le (Nat.le_refl _)
   have ik:¬(l.length:Int) <l.length:=by omega
   rw [hall] at HOWN
   clear hall
   go_wp2_with fail
   refine⟨rfl,_,results_tmp rfl _ _ _,?_⟩
   exact⟨_,rfl,HOWN.out,HO.out⟩
end Go.Proofs.YtgalfohobgjelaaGreatDoor
namespace Go.Proofs.YtgalfohobgjelaaGreatDoor
open Go.RowKit Go.Shelf
attribute [local go_sem ↓ high] vtBs1_eq hdLoad_eq
def bitW (m id:Nat):Bool:=decide (m / 2 ^ id % 2=1)
theorem bit16 (y id:Nat):(bits .and .u16 ((y:Int) / 2 ^ id) 1==1)=bitW y id:=by
 have e:(y:Int) / 2 ^ id=((y / 2 ^ id:Nat):Int):=by
  rw [Int.natCast_ediv];congr 1
 have h1:∀z:Nat,bits .and .u16 (z:Int) 1=((z % 2:Nat):Int):=fun z=>by
  show IntKind.u16.wrap ((BitVec.ofInt 16 (z:Int) &&& BitVec.ofInt 16 1).toNat:Int)=_
  have e:(BitVec.ofInt 16 (z:Int) &&& BitVec.ofInt 16 1).toNat=z % 2:=by
   rw [BitVec.toNat_and,show(BitVec.ofInt 16 1).toNat=1 from by decide,Nat.and_one_is_mod,show BitVec.ofInt 16 (z:Int)=BitVec.ofNat 16 z by simp,BitVec.toNat_ofNat]
   omega
  rw [e]
  simp [IntKind.wrap,IntKind.bits,IntKind.signed]
  omega
 rw [e,h1,bitW,Bool.eq_iff_iff]
 simp
 omega
noncomputable def voteW (odd:Nat) (h:Hd) (id:Nat):Vt:=voteOf (id:Int) (secI (id:Int) +if bitW odd id then 1 else 0) h
noncomputable def votesN (yes odd:Nat) (h:Hd):Nat→List Vt
 |0=> []
 |n+1=>votesN yes odd h n++if bitW yes (n+1) then [voteW odd h (n+1)] else []
noncomputable def votesW (d:Wd) (h:Hd) (yes odd:Nat):List Vt:=votesN yes odd h d.n
theorem votesN_len (yes odd:Nat) (h:Hd):∀n,(votesN yes odd h n).length≤n
 |0=>Nat.le_refl _
 |n+1=>by
  have:=votesN_len yes odd h n
  simp only [votesN,List.length_append]
  split<;>simp<;>omega
theorem votesW_len (d:Wd) (h:Hd) (yes odd:Nat):(votesW d h yes odd).length≤7:=by
 have:=votesN_len yes odd h d.n
 have:d.n≤7:=by unfold Wd.n;omega
 unfold votesW
 omega
theorem votesN_ok (yes odd:Nat) (h:Hd) (ok:h.Ok):∀n,n≤100→VtsOk (votesN yes odd h n)
 |0,_=>fun v hv=>by simp [votesN] at hv
 |n+1,hn=>fun v hv=>by
  simp only [votesN,List.mem_append] at hv
  rcases hv with hv|hv
  ·exact votesN_ok yes odd h ok n (by omega) v hv
  ·split at hv
   ·simp only [List.mem_singleton] at hv
    subst hv
    exact vote_ok ⟨by omega,by omega⟩ ok
   ·simp at hv
structure VwS (w:World) (D H:Nat) (d:Wd) (h:Hd) (kA:Option Addr) (kc:Nat) (yes odd k:Nat) (ov:Value) (W:World):Prop where
 wd:Blk W D tWd (wdC d kA kc)
 hd:Blk W H 37 (hdC h).toArray
 own:VtOwn W w.heap.size ov (votesN yes odd h k).length (votesN yes odd h k)
 only:Only NoneOf w W
set_option maxRecDepth 100000 in
set_option maxHeartbeats 1000000 in
theorem wvotes_any (d:Wd) (hd:d.Ok) (h:Hd) (ok:h.Ok) (yes odd:Nat) (_hy:yes<65536) (_ho:odd<65536) (kA:Option Addr) (kc:Nat) (w:World):Calls Tryz.prog 14 #[.agg (wdC d kA kc),.agg (hdC h).toArray,.int .u16 (yes:Int),.int .u16 (odd:Int)] w fun e' w'=> ∃rv,e'= .returned rv∧VtOwn w' w.heap.size rv (votesW d h yes odd).length (votesW d h yes odd)∧Only NoneOf w w':=by
 obtain⟨ie,z,hie,hsz,hz,hzc,hby⟩:=vt_info
 obtain⟨D,eD⟩:∃D,D=w.heap.size:=⟨_,rfl⟩
 obtain⟨H,eH⟩:∃H,H=D+1:=⟨_,rfl⟩
 have hoff:=hd.off
 have hs0:VwS w D H d h kA kc yes odd 0 (.slice none 0 0) ((w.alloc (.cells (wdC d kA kc) tWd)).alloc (.cells (hdC h).toArray 37)):=by
  have h1:=Blk.new (w.alloc (.cells (wdC d kA kc) tWd)) 37 (hdC h).toArray
  rw [World.size_alloc,←eD,←eH] at h1
  exact⟨by rw [eD];exact(Blk.new w _ _).alloc _,h1,⟨rfl,.inl ⟨rfl,rfl⟩⟩,((Only.refl _ _).alloc _).alloc _⟩
 have HS0:=Lib.hid hs0
 have HIE:=Lib.hid hie
 have HSZ:=Lib.hid hsz
 have HZ:=Lib.hid hz
 have HZC:=Lib.hid hzc
 have HBY:=Lib.hid hby
 have HED:=Lib.hid eD
 have HOKH:=Lib.hid ok
 have HEH:=Lib.hid eH
 have hdn:d.n≤7:=by unfold Wd.n;omega
 have hdn2:1+ (d.off:Int) % 7=(d.n:Int):=by unfold Wd.n;omega
 clear hs0 hie hsz hz hzc hby eD eH ok
 go_enter Tryz.func14,Tryz.ntmps14
 go_wp2_with fail
 refine wp_gen (VwS w D H d h kA kc yes odd 0 (.slice none 0 0)) HS0.out ?_
 intro Y hY
 have HY:=Lib.hid hY
 clear hY HS0
 rw [←HED.out,←HEH.out]
 clear HED HEH
 go_loopw [9,10] (fun ov i wr=> ∃q:Nat,i= .int .i64 (q:Int)∧1≤q∧q≤d.n+1∧VwS w D H d h kA kc yes odd (q - 1) ov wr) (fun _ i _=>9 - (intOf i).toNat)
 case atStart=>exact⟨1,rfl,by omega,by omega,HY.out⟩
 case round=>
  clear HY
  obtain⟨q,rfl,hq1,hq2,hS⟩:=hrel
  obtain⟨N,eN⟩:∃N,N=(votesN yes odd h (q - 1)).length:=⟨_,rfl⟩
  have hN:N≤8:=by have:=votesN_len yes odd h (q - 1);omega
  have c0:=hS.wd.cell 0
  simp only [List.getElem?_toArray,List.getElem?_cons_zero] at c0
  have hown:=hS.own
  rw [←eN] at hown
  have hq8:q≤8:=by omega
  by_cases hlt:q≤d.n
  ·have ik:(q:Int)≤1+ (d.off:Int) % 7:=by omega
   have hsucc:votesN yes odd h q=votesN yes odd h (q - 1) ++if bitW yes q then [voteW odd h q] else []:=by
    obtain⟨m,rfl⟩:∃m,q=m+1:=⟨q - 1,by omega⟩
    rfl
   have by1:=bit16 yes q
   have by2:=bit16 odd q
   have qs:q+1 - 1=q:=by omega
   cases hb:bitW yes q with
   |false=>
    rw [hb] at hsucc by1
    have hS2:VwS w D H d h kA kc yes odd q u9 wr:=⟨hS.wd,hS.hd,by rw [hsucc];simpa using hS.own,hS.only⟩
    have HS2:=Lib.hid hS2
    clear hS hS2 hsucc hown eN by2
    go_wp2_with fail
    go_roundw
    case rel=>exact⟨q+1,by go_num,by omega,by omega,by rw [qs];exact HS2.out⟩
    case measure=>simp [intOf];omega
   |true=>
    rw [hb] at hsucc by1
    obtain⟨sc,esc⟩:∃sc:Int,sc=secI (q:Int) +if bitW odd q then 1 else 0:=⟨_,rfl⟩
    obtain⟨V,eV⟩:∃V,V=voteW odd h q:=⟨_,rfl⟩
    have vo:V.Ok:=by rw [eV];exact vote_ok ⟨by omega,by omega⟩ HOKH.out
    have hvt:∀W,Calls Tryz.prog 41 #[.int .i64 (q:Int),.int .i64 sc,.agg (hdC h).toArray] W fun e w'=>e= .returned (.agg (vtC V).toArray)∧Only NoneOf W w':=fun W=>by rw [eV,esc];exact rqvote_any _ _ h HOKH.out W
    have hsec:∀W,Calls Tryz.prog 39 #[.int .i64 (q:Int)] W fun e' w'=>e'= .returned (.int .i64 (1000+7 * (q:Int)))∧w'=W:=fun W=>secret_any (q:Int) (by omega) (by omega) W
    have hbs:=bs1_run V vo.head.root
    have htk:(votesN yes odd h q).flatMap vtC=(votesN yes odd h (q - 1)).flatMap vtC++vtC V:=by
     rw [hsucc,if_pos rfl,List.flatMap_append,eV]
     simp
    have hlen:(votesN yes odd h q).length=N+1:=by rw [hsucc,if_pos rfl,List.length_append,←eN];rfl
    have HS:=Lib.hid hS
    have HOWN:=Lib.hid hown
    have HVT:=Lib.hid hvt
    have HSEC:=Lib.hid hsec
    have HTK:=Lib.hid htk
    have HLEN:=Lib.hid hlen
    have HVO:=Lib.hid vo
    have hld:(hdLoad (.pointer (some ⟨H,0,none⟩))).run Tryz.prog wr= .ok (.agg (hdC h).toArray) wr:=hd_load (blk_range hS.hd) HOKH.out.root
    have HESC:=Lib.hid esc
    clear hS hown hvt hsec htk hlen vo eV eN hsucc esc
    cases hbo:bitW odd q with
    |false=>
     rw [hbo] at by2
     have es:=HESC.out
     rw [hbo] at es
     obtain rfl:sc=1000+7 * (q:Int):=by rw [es];simp [secI]
     clear es
     go_wp2_with fail
     refine(HSEC.out _).mono ?_
     rintro e0 w0 ⟨rfl,rfl⟩
     go_wp2_with fail
     refine(HVT.out _).mono ?_
     rintro e1 w1 ⟨rfl,ho1⟩
     have hsz1:=(HS.out.only.trans ho1).size
     have HO1:=Lib.hid ho1
     have HOW1:=Lib.hid (own_only HOWN.out ho1 (fun _ _ e=>e))
     clear ho1 c0 hld
     go_wp2_with (at_builtin;refine wpList_append_lies _ rfl _ _ 32 rfl w.heap.size 43 ie z 36 ie.bytes Tryz.underlying32 HIE.out HZ.out HSZ.out rfl HZC.out (by omega) u9 N ((votesN yes odd h (q - 1)).flatMap vtC) rfl (World.ownsRow.alloc HOW1.out _) _ 1 1 (vtC V) rfl (by rw [vtC_len HVO.out.head.root]) (World.news_of_block (cs:=(vtC V).toArray) (t:=43) (fr:=(0,0)) (NewB.new _ V)) (vtC_one V) (by omega) (by rw [maxLen_val];omega) (by have:=HBY.out;exact Nat.le_trans (Nat.mul_le_mul (show N+1≤40 by omega) this) (by omega)) (by simp;omega) _ rfl ?_;intro g3 cap3 w3 hown3 hgrow3 hat3 hlt3)
     have hnew:VwS w D H d h kA kc yes odd q (.slice (some ⟨g3,0,none⟩) (N+1) cap3) w3:=by
      have hne:∀b cs t,Blk w1 b t cs→t≠43→u9.ownBlock≠some b:=fun b cs t hb ht=>own_blk_ne HOW1.out hb (Ne.symm ht)
      have b1:=HS.out.wd.only HO1.out (fun e=>e)
      have b2:=HS.out.hd.only HO1.out (fun e=>e)
      refine⟨(b1.alloc _).grown hgrow3 (Ne.symm (hne _ _ _ b1 (by decide))),(b2.alloc _).grown hgrow3 (Ne.symm (hne _ _ _ b2 (by decide))),?_,((HS.out.only.trans HO1.out).alloc _).grown hgrow3 (fun j e=> .inr (own_ge HOW1.out e).1)⟩
      unfold VtOwn
      rw [HTK.out,HLEN.out]
      exact hown3
     have HNEW:=Lib.hid hnew
     clear hnew hown3 hgrow3 hat3 hlt3 hbs
     go_wp2_with fail
     go_roundw
     case rel=>exact⟨q+1,by go_num,by omega,by omega,by rw [qs];exact HNEW.out⟩
     case measure=>simp [intOf];omega
    |true=>
     rw [hbo] at by2
     have es:=HESC.out
     rw [hbo] at es
     obtain rfl:sc=1000+7 * (q:Int) +1:=by rw [es];simp [secI]
     clear es
     go_wp2_with fail
     refine(HSEC.out _).mono ?_
     rintro e0 w0 ⟨rfl,rfl⟩
     go_wp2_with fail
     refine(HVT.out _).mono ?_
     rintro e1 w1 ⟨rfl,ho1⟩
     have hsz1:=(HS.out.only.trans ho1).size
     have HO1:=Lib.hid ho1
     have HOW1:=Lib.hid (own_only HOWN.out ho1 (fun _ _ e=>e))
     clear ho1 c0 hld
     go_wp2_with (at_builtin;refine wpList_append_lies _ rfl _ _ 32 rfl w.heap.size 43 ie z 36 ie.bytes Tryz.underlying32 HIE.out HZ.out HSZ.out rfl HZC.out (by omega) u9 N ((votesN yes odd h (q - 1)).flatMap vtC) rfl (World.ownsRow.alloc HOW1.out _) _ 1 1 (vtC V) rfl (by rw [vtC_len HVO.out.head.root]) (World.news_of_block (cs:=(vtC V).toArray) (t:=43) (fr:=(0,0)) (NewB.new _ V)) (vtC_one V) (by omega) (by rw [maxLen_val];omega) (by have:=HBY.out;exact Nat.le_trans (Nat.mul_le_mul (show N+1≤40 by omega) this) (by omega)) (by simp;omega) _ rfl ?_;intro g3 cap3 w3 hown3 hgrow3 hat3 hlt3)
     have hnew:VwS w D H d h kA kc yes odd q (.slice (some ⟨g3,0,none⟩) (N+1) cap3) w3:=by
      have hne:∀b cs t,Blk w1 b t cs→t≠43→u9.ownBlock≠some b:=fun b cs t hb ht=>own_blk_ne HOW1.out hb (Ne.symm ht)
      have b1:=HS.out.wd.only HO1.out (fun e=>e)
      have b2:=HS.out.hd.only HO1.out (fun e=>e)
      refine⟨(b1.alloc _).grown hgrow3 (Ne.symm (hne _ _ _ b1 (by decide))),(b2.alloc _).grown hgrow3 (Ne.symm (hne _ _ _ b2 (by decide))),?_,((HS.out.only.trans HO1.out).alloc _).grown hgrow3 (fun j e=> .inr (own_ge HOW1.out e).1)⟩
      unfold VtOwn
      rw [HTK.out,HLEN.out]
      exact hown3
     have HNEW:=Lib.hid hnew
     clear hnew hown3 hgrow3 hat3 hlt3 hbs
     go_wp2_with fail
     go_roundw
     case rel=>exact⟨q+1,by go_num,by omega,by omega,by rw [qs];exact HNEW.out⟩
     case measure=>simp [intOf];omega
  ·have ik:¬(q:Int)≤1+ (d.off:Int) % 7:=by omega
   have hqe:q - 1=d.n:=by omega
   have HS:=Lib.hid hS
   rw [hqe] at HS
   clear hS hown eN
   go_wp2_with fail
   go_ret
   exact⟨_,rfl,HS.out.own,HS.out.only⟩
end Go.Proofs.YtgalfohobgjelaaGreatDoor
namespace Go.Proofs.YtgalfohobgjelaaGreatDoor
open Go.RowKit Go.Shelf
theorem evC_ones (e:Ev):∀u∈evC e,u.oneCell'=true:=fun v hv=>by
 unfold evC at hv
 simp only [List.mem_append,List.mem_cons,List.not_mem_nil,or_false,List.mem_map] at hv
 rcases hv with(rfl|rfl|rfl|rfl|rfl|rfl|rfl|rfl|rfl|rfl|rfl|rfl)|⟨x,_,rfl⟩|rfl|rfl<;>rfl
theorem ev_info5:∃ie z,Tryz.prog.info? tEv=some ie∧ie.size=46∧ie.zero=some z∧z.cells.size=46∧ie.bytes≤1000:=by
 have h0:(Tryz.prog.info? tEv).map (fun i=>i.size)=some 46:=by kernel_rfl
 have h3:(Tryz.prog.info? tEv).map (fun i=>decide (i.bytes≤1000))=some true:=by kernel_rfl
 have h4:((Tryz.prog.info? tEv).bind (·.zero)).map (fun z=>z.cells.size)=some 46:=by kernel_rfl
 cases hie:Tryz.prog.info? tEv with
 |none=>rw [hie] at h0;cases h0
 |some ie=>
  rw [hie] at h0 h3 h4
  simp only [Option.map_some,Option.some.injEq,Option.bind_some,decide_eq_true_eq] at h0 h3 h4
  cases hz:ie.zero with
  |none=>rw [hz] at h4;cases h4
  |some z=>
   rw [hz] at h4
   simp only [Option.map_some,Option.some.injEq] at h4
   exact⟨ie,z,rfl,h0,hz,h4,h3⟩
def EvO (w:World) (base:Nat) (v:Value) (n:Nat) (M:List Ev):Prop:=w.ownsRow base tEv 46 v n (M.flatMap evC)
theorem EvO.sl {w:World} {base:Nat} {v:Value} {M:List Ev} (h:EvO w base v M.length M) (hM:∀e∈M,e.prev.length=32):EvSl w v M:=by
 obtain⟨A,cap,rfl,h1,h2⟩:=own_form' h
 refine⟨A,cap,rfl,h1,h2,fun i e he=> ?_⟩
 have hlt:i<M.length:=(List.getElem?_eq_some_iff.1 he).1
 obtain⟨g,c,e2,_,hg,_,_⟩:=own_form h (by omega)
 simp only [Value.slice.injEq,true_and] at e2
 obtain⟨rfl,rfl⟩:=e2
 refine⟨g,0,rfl,hg,fun j x hj=> ?_⟩
 have hj2:j<46:=by
  have:=(List.getElem?_eq_some_iff.1 hj).1
  rw [evC_len (hM e (List.mem_of_getElem? he))] at this;exact this
 have hfl:∀(M:List Ev),(∀e∈M,e.prev.length=32)→∀i e,M[i]? =some e→∀j x,j<46→(evC e)[j]? =some x→(M.flatMap evC)[i * 46+j]? =some x:=by
  intro M
  induction M with
  |nil=>intro _ i e he;simp at he
  |cons a M ih=>
   intro hM i e he j x hj hx
   have h46:(evC a).length=46:=evC_len (hM a (by simp))
   rw [List.flatMap_cons]
   cases i with
   |zero=>
    simp only [List.getElem?_cons_zero,Option.some.injEq] at he
    subst he
    rw [List.getElem?_append_left (by omega)]
    simpa using hx
   |succ i=>
    rw [List.getElem?_append_right (by rw [h46];omega),h46,show(i+1) * 46+j - 46=i * 46+j by omega]
    exact ih (fun x hx=>hM x (by simp [hx])) i e (by simpa using he) j x hj hx
 have h3:=World.ownsRow.cells h rfl (i * 46+j) x (hfl M hM i e he j x hj2 hj)
 rw [Addr.add_mid,Nat.zero_add] at h3
 rw [Nat.zero_add]
 exact h3
def evBs1 (parts:Array (Nat×Value)):Sem Value:=Instr.buildSlice 30 1 parts
theorem evBs1_eq (parts:Array (Nat×Value)):Instr.buildSlice 30 1 parts=evBs1 parts:=rfl
theorem evBs1_run (v:Ev) (hl:v.prev.length=32) (W:World):(evBs1 #[(0,.agg (evC v).toArray)]).run Tryz.prog W= .ok (.slice (some ⟨W.heap.size,0,none⟩) 1 1) (W.alloc (.cells (evC v).toArray 79)):=by
 obtain⟨ie,z,hie,hsz,hz,hzc,hby⟩:=ev_info5
 have h46:(evC v).length=46:=evC_len hl
 have e:([Value.agg (evC v).toArray].flatMap fun u=>u.cells.toList).toArray=(evC v).toArray:=by simp [Value.cells]
 have h9:∀C:Array Value,C.size=46→Instr.fill (fun i=>some (i * 46,46)) C [(0,Value.agg (evC v).toArray)]=some (evC v).toArray:=fun C hC=>by
  have h8:=Great.fill_whole (s:=46) (by omega) [Value.agg (evC v).toArray] C (by intro u hu;simp only [List.mem_cons,List.not_mem_nil,or_false] at hu;subst hu;show(evC v).toArray.size=46;rw [List.size_toArray,h46]) (by rw [hC];rfl)
  rw [e] at h8
  exact h8
 exact run_buildSlice (P:=Tryz.prog) W 30 79 1 #[(0,.agg (evC v).toArray)] (evC v).toArray ie z Tryz.underlying30 hie hz (by rw [hsz];omega) (by rw [hsz];omega) (by rw [hsz];exact h9 _ (by simp))
def evBd (parts:Array (Nat×Value)):Sem Value:=Instr.build 79 parts
theorem evBd_eq (parts:Array (Nat×Value)):Instr.build 79 parts=evBd parts:=rfl
def evZero (k:Int) (last:Hs):Ev:=⟨k,3,50,k,0,0,0,0,⟨#[]⟩,textAns,0,0,last,0,0⟩
set_option maxRecDepth 100000 in
theorem evBd_built (k:Int):∀(l:List UInt8),l.length=32→Tryz.prog.built 79 [(0,.int .i64 k),(1,.int .i64 3),(2,.int .i64 50),(3,.int .i64 k),(9,.string ⟨#[97,110,115,119,101,114]⟩),(11,.agg (l.map bv).toArray)]=some (evC (evZero k l)).toArray
 | [x0,x1,x2,x3,x4,x5,x6,x7,x8,x9,x10,x11,x12,x13,x14,x15,x16,x17,x18,x19,x20,x21,x22,x23,x24,x25,x26,x27,x28,x29,x30,x31],_=>by kernel_rfl
theorem evBd_run (k:Int) (l:List UInt8) (hl:l.length=32) (W:World):(evBd #[(0,.int .i64 k),(1,.int .i64 3),(2,.int .i64 50),(3,.int .i64 k),(9,.string ⟨#[97,110,115,119,101,114]⟩),(11,.agg (l.map bv).toArray)]).run Tryz.prog W= .ok (.agg (evC (evZero k l)).toArray) W:=
 run_build (P:=Tryz.prog) W 79 _ _ (evBd_built k l hl)
end Go.Proofs.YtgalfohobgjelaaGreatDoor
