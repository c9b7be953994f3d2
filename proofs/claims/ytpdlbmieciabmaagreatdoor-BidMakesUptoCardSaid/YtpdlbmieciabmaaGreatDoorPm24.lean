/-What is proved here:several parts. price texts,by the reference's code. Conditions:the text is short,the numbers are ints. · the reference reads a bid. Conditions:the text is short. · bids made with their shares,by the program and by the reference. Conditions:the numbers are ints,the texts are short. -/
import Derived.Test.YtpdlbmieciabmaaGreatDoorPm12
import Derived.Test.YtpdlbmieciabmaaGreatDoorPm13
import Derived.Test.YtpdlbmieciabmaaGreatDoorPm14
import Derived.Test.YtpdlbmieciabmaaGreatDoorPm17
import Derived.Test.YtpdlbmieciabmaaGreatDoorPm18
import Derived.Test.YtpdlbmieciabmaaGreatDoorPm19
import Derived.Test.YtpdlbmieciabmaaGreatDoorPm22
import Derived.Test.YtpdlbmieciabmaaGreatDoorPm23
namespace Go.Proofs.YtpdlbmieciabmaaGreatDoor
open Go.RowKit Go.Shelf
theorem price_text(p:List UInt8)(n m:Int):p++[108,111,116,32]++Lib.itoa n++[32]++Lib.itoa m++[10]=p++lineOf (wLot,[n,m]):=by
 unfold lineOf lineL wordsN wLot
 simp
theorem rebate_text(p:List UInt8)(r:Rb):p++[114,101,98,97,116,101,32]++Lib.itoa r.pc++wordsN r.lots++[10]=p++lineOf (rLine r):=by
 unfold rLine lineOf lineL wRebate
 rw[wordsN_cons]
 simp
theorem words_step{ns:List Int}{j:Nat}{n:Int}(h:ns[j]? =some n):wordsN (ns.take (j+1))=wordsN (ns.take j)++[32]++Lib.itoa n:=by
 rw[take_snoc h,wordsN_app]
 simp[wordsN]
theorem words_take_le(ns:List Int)(j:Nat):(wordsN (ns.take j)).length≤(wordsN ns).length :=by
 have e:(wordsN ns).length =(wordsN (ns.take j)).length +(wordsN (ns.drop j)).length :=by rw[←List.length_append,←wordsN_app,List.take_append_drop]
 omega
set_option maxRecDepth 100000 in
set_option maxHeartbeats 4000000 in
theorem rprices16_any(es:List En)(rs:List Rb)(hin:∀e∈es,EnIn e)(hrn:∀r∈rs,RbIn r)(hl:(pricL es rs).length≤100000000)(v u:Value)(w:World)(h:EnSl w v es)(hrb:RbSl w u rs):Calls Tryz.prog 55 #[v,u] w (RetStr (pricL es rs) w):=by
 obtain⟨A,cap,rfl,hc1,hc2,hat⟩:=en_at h
 obtain⟨A1,cap1,rfl,hb1,hb2,hrat⟩:=rb_at hrb
 have HAT:=Lib.hid hat
 have HRT:=Lib.hid hrat
 have HIN:=Lib.hid hin
 have HRN:=Lib.hid hrn
 have q1:(⟨#[108,111,116,32]⟩:ByteArray).size =4:=rfl
 have q2:(⟨#[32]⟩:ByteArray).size =1:=rfl
 have q3:(⟨#[10]⟩:ByteArray).size =1:=rfl
 have q4:(⟨#[114,101,98,97,116,101,32]⟩:ByteArray).size =7:=rfl
 have hel:=textG_ge (pLines es rs)
 have hel2:(pLines es rs).length =es.length+rs.length:=by unfold pLines;simp
 have hlen:es.length+rs.length≤100000000:=by
  have h3:(pricL es rs).length =(textG (pLines es rs)).length :=rfl
  omega
 clear hat hrat h hrb hin hrn hel hel2
 go_enter Tryz.func55,Tryz.ntmps55
 go_wp2_with fail
 go_loopw [5,6] (fun v i wr=>∃(k:Nat) (s:ByteArray),v= .string s∧i= .int .i64 k∧k≤es.length∧s.data.toList=textG ((es.take k).map pLine)∧Only NoneOf w wr) (fun _ i _=>es.length-(intOf i).toNat)
 case atStart=>exact⟨0,⟨#[]⟩,rfl,rfl,Nat.zero_le _,rfl,Only.refl _ _⟩
 case round=>
  obtain⟨k,s,rfl,rfl,hk,hs,ho⟩:=hrel
  have HS:=Lib.hid hs
  have HO:=Lib.hid ho
  clear hs ho
  by_cases hlt:k<es.length
  ·obtain⟨x,hx⟩:∃x,es[k]? =some x:=⟨_,List.getElem?_eq_getElem hlt⟩
   obtain⟨g,o,u,rfl,hg,c0,c1,c2,c3,c4,hvs⟩:=HAT.out k x hx
   have HXI:=Lib.hid (HIN.out x (List.mem_of_getElem? hx))
   have HX:=Lib.hid (p_text_snoc hx)
   have hsz:s.size≤100000000:=by
    rw[size_list,HS.out]
    exact Nat.le_trans (pl_take_le es rs k) hl
   have ik:(k:Int)<es.length:=by omega
   have k0:(0:Int)≤(k:Int):=by omega
   have wk:IntKind.i64.wrap ((k:Int)+1)=(k:Int)+1:=IntWalk.i64_in _ (by omega)
   obtain⟨ta,eta⟩:∃t:ByteArray,t=⟨(Lib.itoa x.lot).toArray⟩:=⟨_,rfl⟩
   obtain⟨tb,etb⟩:∃t:ByteArray,t=⟨(Lib.itoa x.price).toArray⟩:=⟨_,rfl⟩
   have hta:ta.size≤21:=by rw[size_list,eta];exact itoa_len HXI.out.1.1 HXI.out.1.2
   have htb:tb.size≤21:=by rw[size_list,etb];exact itoa_len HXI.out.2.1.1 HXI.out.2.1.2
   have s1:s.size+4≤9223372036854775807:=by omega
   have s2:s.size+4+ta.size≤9223372036854775807:=by omega
   have s3:s.size+4+ta.size+1≤9223372036854775807:=by omega
   have s4:s.size+4+ta.size+1+tb.size≤9223372036854775807:=by omega
   have s5:s.size+4+ta.size+1+tb.size+1≤9223372036854775807:=by omega
   obtain⟨s6,e6⟩:∃s6:ByteArray,s6=s++⟨#[108,111,116,32]⟩++ta++⟨#[32]⟩++tb++⟨#[10]⟩:=⟨_,rfl⟩
   have hs6:s6.data.toList=textG ((es.take (k+1)).map pLine):=by
    rw[HX.out]
    show _=_++lineOf (wLot,[x.lot,x.price])
    rw[e6,←price_text,←HS.out,eta,etb]
    simp
   have HS6:=Lib.hid hs6
   have HE6:=Lib.hid e6
   clear hx hvs c0 c2 c4 hs6 e6
   go_upto_region 5 with(fail)
   obtain⟨ft,hfx⟩:=family (fun W=>Only NoneOf w W) (W0:=wr.drew) HO.out.drew
   obtain⟨F,hI,hF0,hF,hFS⟩:=hfx
   have D1:Hid (∀q,Calls Tryz.prog 43 #[.int .i64 x.lot] (F q) fun e w' =>e= .returned (.string ta)∧∃z,w' =F z):=Lib.hid (fun q=>(rdec16_any x.lot HXI.out.1 (F q)).mono (fun e w' hh=>by
    obtain⟨t,rfl,ht,ho⟩:=hh
    exact⟨by rw[eta,bytes_of ht],(hF w').1 ((hFS q).trans ho)⟩))
   have D2:Hid (∀q,Calls Tryz.prog 43 #[.int .i64 x.price] (F q) fun e w' =>e= .returned (.string tb)∧∃z,w' =F z):=Lib.hid (fun q=>(rdec16_any x.price HXI.out.2.1 (F q)).mono (fun e w' hh=>by
    obtain⟨t,rfl,ht,ho⟩:=hh
    exact⟨by rw[etb,bytes_of ht],(hF w').1 ((hFS q).trans ho)⟩))
   have L1:∀q,(F q).cell? ⟨g,o+k*5+1,none⟩=some (.int .i64 x.lot):=fun q=>(hFS q).cell_some c1 (fun e=>e)
   have L3:∀q,(F q).cell? ⟨g,o+k*5+3,none⟩=some (.int .i64 x.price):=fun q=>(hFS q).cell_some c3 (fun e=>e)
   have HF:=Lib.hid hF
   have HF0:=Lib.hid hF0
   clear hF hF0 hFS eta etb c1 c3
   refine wp_region_family F (by kernel_rfl) (by kernel_rfl) HF0.out ?_
   repeat(go_big_quiet_step (first|(with_reducible exact D1.out _)|(with_reducible exact D2.out _)))
   refine wpQuiet_nil ?_
   intro w9 hw9
   have HO9:=Lib.hid ((HF.out w9).2 hw9)
   clear hw9
   go_wp2_with fail
   go_roundw
   case rel=>exact⟨k+1,s6,by rw[HE6.out],by go_num,by omega,HS6.out,HO9.out⟩
   case measure=>simp[intOf];omega
  ·obtain rfl:k=es.length:=by omega
   have ik:¬(es.length:Int)<es.length:=by omega
   have hall:=HS.out
   rw[List.take_of_length_le (Nat.le_refl _)] at hall
   have HG:=Lib.hid hall
   clear hall
   go_wp2_with fail
   go_loopw [5,7] (fun v i wr=>∃(k:Nat) (s:ByteArray),v= .string s∧i= .int .i64 k∧k≤rs.length∧s.data.toList=textG (es.map pLine)++textG ((rs.take k).map rLine)∧Only NoneOf w wr) (fun _ i _=>rs.length-(intOf i).toNat)
   case atStart=>exact⟨0,s,rfl,rfl,Nat.zero_le _,by rw[HG.out];simp[textG],HO.out⟩
   case round=>
    obtain⟨k,s,rfl,rfl,hk,hs,ho⟩:=hrel
    have HS:=Lib.hid hs
    have HO:=Lib.hid ho
    clear hs ho
    by_cases hlt:k<rs.length
    ·obtain⟨x,hx⟩:∃x,rs[k]? =some x:=⟨_,List.getElem?_eq_getElem hlt⟩
     obtain⟨g,o,u,rfl,hg,c0,c1,hvs⟩:=HRT.out k x hx
     obtain⟨A2,cap2,rfl,hiat⟩:=in_at hvs
     have hxm:=List.mem_of_getElem? hx
     have HXI:=Lib.hid (HRN.out x hxm)
     have hll:=lots_le (es:=es) hxm
     have HX:=Lib.hid (r_text_snoc hx)
     have HIAT:=Lib.hid hiat
     have HC0:=Lib.hid c0
     have hsz:s.size≤100000000:=by
      rw[size_list,HS.out]
      exact Nat.le_trans (rl_take_le es rs k) hl
     have d1:=HO.out.cell_some c1 (fun e=>e)
     have ik:(k:Int)<rs.length:=by omega
     have k0:(0:Int)≤(k:Int):=by omega
     have wk:IntKind.i64.wrap ((k:Int)+1)=(k:Int)+1:=IntWalk.i64_in _ (by omega)
     have s1:s.size+7≤9223372036854775807:=by omega
     have hwl:=wordsN_len x.lots HXI.out.2
     clear hx hvs c0 c1 hiat hxm
     go_wp2_with fail
     refine(rdec16_any x.pc HXI.out.1 _).mono ?_
     rintro e w2 ⟨t,rfl,ht,ho2⟩
     have htz:t.size≤21:=by rw[size_list,ht];exact itoa_len HXI.out.1.1 HXI.out.1.2
     have HO2:=Lib.hid (HO.out.trans ho2)
     have s2:s.size+7+t.size≤9223372036854775807:=by omega
     obtain⟨s4,e4⟩:∃s4:ByteArray,s4=s++⟨#[114,101,98,97,116,101,32]⟩++t:=⟨_,rfl⟩
     have hs4:s4.data.toList=s.data.toList++[114,101,98,97,116,101,32]++Lib.itoa x.pc:=by
      rw[e4,←ht]
      simp
     have hz4:s4.size=s.size+7+t.size:=by rw[e4];simp[q4]
     have HS4:=Lib.hid hs4
     have HE4:=Lib.hid e4
     clear ht ho2 hs4 e4
     go_wp2_with fail
     rw[←HE4.out]
     go_loopw [5,8] (fun v i wr=>∃(j:Nat) (r:ByteArray),v= .string r∧i= .int .i64 j∧j≤x.lots.length∧r.data.toList=s4.data.toList++wordsN (x.lots.take j)∧Only NoneOf w wr) (fun _ i _=>x.lots.length-(intOf i).toNat)
     case atStart=>exact⟨0,s4,rfl,rfl,Nat.zero_le _,by simp[wordsN],HO2.out⟩
     case round=>
      obtain⟨j,r,rfl,rfl,hj,hs,ho⟩:=hrel
      have HS5:=Lib.hid hs
      have HO5:=Lib.hid ho
      have d0:=ho.cell_some HC0.out (fun e=>e)
      have hrz:r.size≤3000000000:=by
       have h1:=words_take_le x.lots j
       rw[size_list,hs,List.length_append,←size_list]
       omega
      have r1:r.size+1≤9223372036854775807:=by omega
      clear hs ho d1
      by_cases hlj:j<x.lots.length
      ·obtain⟨y,hy⟩:∃y,x.lots[j]? =some y:=⟨_,List.getElem?_eq_getElem hlj⟩
       obtain⟨g2,o2,rfl,hg2,e0⟩:=HIAT.out j y hy
       have HYI:=Lib.hid (HXI.out.2 y (List.mem_of_getElem? hy))
       have f0:=HO5.out.cell_some e0 (fun e=>e)
       have HWT:=Lib.hid (words_step hy)
       have ij:(j:Int)<x.lots.length:=by omega
       have j0:(0:Int)≤(j:Int):=by omega
       have wj:IntKind.i64.wrap ((j:Int)+1)=(j:Int)+1:=IntWalk.i64_in _ (by omega)
       clear hy e0
       go_wp2_with fail
       refine(rdec16_any y HYI.out _).mono ?_
       rintro e w6 ⟨t6,rfl,ht6,ho6⟩
       have htz6:t6.size≤21:=by rw[size_list,ht6];exact itoa_len HYI.out.1 HYI.out.2
       have r2:r.size+1+t6.size≤9223372036854775807:=by omega
       have hnew:(r++⟨#[32]⟩++t6).data.toList =s4.data.toList++wordsN (x.lots.take (j+1)):=by
        rw[HWT.out,←ht6,←List.append_assoc,←List.append_assoc,←HS5.out]
        simp
       have HNW:=Lib.hid hnew
       have HO6:=Lib.hid (HO5.out.trans ho6)
       clear hnew ht6 ho6
       go_wp2_with fail
       go_roundw
       case rel=>exact⟨j+1,_,rfl,by go_num,by omega,HNW.out,HO6.out⟩
       case measure=>simp[intOf];omega
      ·obtain rfl:j=x.lots.length:=by omega
       have ij:¬(x.lots.length:Int)<x.lots.length:=by omega
       have hnew:(r++⟨#[10]⟩).data.toList =textG (es.map pLine)++textG ((rs.take (k+1)).map rLine):=by
        have h1:=HS5.out
        rw[List.take_of_length_le (Nat.le_refl _)] at h1
        rw[HX.out,←List.append_assoc,←rebate_text,←HS.out]
        have h2:=HS4.out
        rw[h2] at h1
        rw[ByteArray.data_append,Array.toList_append,h1]
       have HNW:=Lib.hid hnew
       clear hnew
       go_wp2_with fail
       go_roundw
       case rel=>exact⟨k+1,_,rfl,by go_num,by omega,HNW.out,HO5.out⟩
       case measure=>simp[intOf];omega
    ·obtain rfl:k=rs.length:=by omega
     have ik:¬(rs.length:Int)<rs.length:=by omega
     have hall:=HS.out
     rw[List.take_of_length_le (Nat.le_refl _),←pric_split] at hall
     have HG:=Lib.hid hall
     clear hall
     go_wp2_with fail
     go_ret
     exact RetStr.mk HG.out HO.out
end Go.Proofs.YtpdlbmieciabmaaGreatDoor
namespace Go.Proofs.YtpdlbmieciabmaaGreatDoor
open Go.RowKit Go.Shelf
def BdOwn(w:World)(base:Nat)(v:Value)(b:Bd):Prop:=∃qv pv,v= .agg #[.int .i64 b.bidder,.string b.qt,qv,.string b.pt,pv]∧OwnOf 3 inC 1 w base qv b.qc.length b.qc∧OwnOf 3 inC 1 w base pv b.pc.length b.pc
def bd0:Bd:=⟨0,⟨#[]⟩,[],⟨#[]⟩,[]⟩
theorem BdOwn.zero(w:World)(base:Nat):BdOwn w base (.agg #[.int .i64 0,.string ⟨#[]⟩,.slice none 0 0,.string ⟨#[]⟩,.slice none 0 0]) bd0:=⟨_,_,rfl,OwnOf.nil _ _ _ _ _,OwnOf.nil _ _ _ _ _⟩
section
variable {s:ByteArray} {w W W' :World} {R C B:Nat} {n:Int} {qt pt:ByteArray} {qv pv:Value} {qc pc:List Int} {a a' :Nat} {b b' :Bool}
end
def set5(W:World)(R:Nat)(y0 y1 y2 y3 y4:Value):World:=((((W.setCell ⟨R,0,none⟩ y0).setCell ⟨R,1,none⟩ y1).setCell ⟨R,2,none⟩ y2).setCell ⟨R,3,none⟩ y3).setCell ⟨R,4,none⟩ y4
theorem set5_blk{W:World}{R:Nat}{t:TypeId}{x0 x1 x2 x3 x4:Value}(h:Blk W R t #[x0,x1,x2,x3,x4])(y0 y1 y2 y3 y4:Value):Blk (set5 W R y0 y1 y2 y3 y4) R t #[y0,y1,y2,y3,y4]∧Only (·=R) W (set5 W R y0 y1 y2 y3 y4):=by
 have a0:Blk (W.setCell ⟨R,0,none⟩ y0) R t #[y0,x1,x2,x3,x4]:=Blk.set_ h 0 _
 have a1:Blk ((W.setCell ⟨R,0,none⟩ y0).setCell ⟨R,1,none⟩ y1) R t #[y0,y1,x2,x3,x4]:=Blk.set_ a0 1 _
 have a2:Blk (((W.setCell ⟨R,0,none⟩ y0).setCell ⟨R,1,none⟩ y1).setCell ⟨R,2,none⟩ y2) R t #[y0,y1,y2,x3,x4]:=Blk.set_ a1 2 _
 have a3:Blk ((((W.setCell ⟨R,0,none⟩ y0).setCell ⟨R,1,none⟩ y1).setCell ⟨R,2,none⟩ y2).setCell ⟨R,3,none⟩ y3) R t #[y0,y1,y2,y3,x4]:=Blk.set_ a2 3 _
 have o:∀{X:World} (j:Nat) (y:Value),Only (·=R) W X→Only (·=R) W (X.setCell ⟨R,j,none⟩ y):=fun j y h=>h.setCell (p:=⟨R,j,none⟩) (.inl rfl) _
 exact⟨Blk.set_ a3 4 _,o 4 _ (o 3 _ (o 2 _ (o 1 _ (o 0 _ (Only.refl _ _)))))⟩
end Go.Proofs.YtpdlbmieciabmaaGreatDoor
namespace Go.Proofs.YtpdlbmieciabmaaGreatDoor
open Go.RowKit Go.Shelf
abbrev tShs:TypeId:=44
theorem read_mk{fn:Func}{p q u:Tmp}{tmps:Array Value}{w:World}{g h:Nat}{x0 x1 x2 x3 x4 y0 y1:Value}{c:Int}(hf:fn.results= #[.cell p tBid,.cell q tShs,.tmp u])(hp:tmps.getD p undef= .pointer (some ⟨g,0,none⟩))(hq:tmps.getD q undef= .pointer (some ⟨h,0,none⟩))(hu:tmps.getD u undef= .int .i64 c)(hb:Blk w g tBid #[x0,x1,x2,x3,x4])(hc:Blk w h tShs #[y0,y1]):(results fn tmps).run Tryz.prog w= .ok (.tuple #[.agg #[x0,x1,x2,x3,x4],.agg #[y0,y1],.int .i64 c]) w:=by
 have hr:w.rangeAt g 0 [x0,x1,x2,x3,x4]:=fun j v hj=>by rw[Nat.zero_add,hb.cell];simpa using hj
 have hs:w.rangeAt h 0 [y0,y1]:=fun j v hj=>by rw[Nat.zero_add,hc.cell];simpa using hj
 have hl:=run_loadVar_mid (P:=Tryz.prog) w g 0 tBid [x0,x1,x2,x3,x4] _ hr Tryz.underlying42 rfl (by kernel_rfl)
 have hm:=run_loadVar_mid (P:=Tryz.prog) w h 0 tShs [y0,y1] _ hs Tryz.underlying44 rfl (by kernel_rfl)
 simp only[results,hf]
 rw[Array.getD_eq_getD_getElem?] at hp hq hu
 simp[Sem.run_bind,Result.andThen,hp,hq,hu,asAddr,hl,hm]
def mkBd(bidder:Int)(seed:List UInt8)(k:Nat)(q p:List UInt8):Bd:=⟨bidder,boxT (seed++[113]) q,cmL (cfs (seed++[113]) k),boxT (seed++[112]) p,cmL (cfs (seed++[112]) k)⟩
structure Mde where
 code:Int
 bid:Bd
 s0:List (Int×Int)
 s1:List (Int×Int)
def mde(bidder:Int)(seed:List UInt8)(need officers:Int)(es:List En)(rs:List Rb):Mde:=
 if need<1∨officers<need∨13<officers then⟨1,bd0,[],[]⟩
 else if rightL es=false then⟨11,bd0,[],[]⟩
 else⟨0,mkBd bidder seed need.toNat (qualL es) (pricL es rs),shL (cfs (seed++[113]) need.toNat) officers.toNat,shL (cfs (seed++[112]) need.toNat) officers.toNat⟩
def MkdE(m:Mde)(w:World)(e:Ending)(w' :World):Prop:=∃bv a0 a1,e= .returned (.tuple #[bv,.agg #[a0,a1],.int .i64 m.code])∧BdOwn w' w.heap.size bv m.bid∧OwnOf tSh shC 2 w' w.heap.size a0 m.s0.length m.s0∧OwnOf tSh shC 2 w' w.heap.size a1 m.s1.length m.s1∧Only NoneOf w w'
structure MkF(w:World)(R:Nat)(W:World):Prop where
 bid:Blk W R tBid #[.int .i64 0,.string ⟨#[]⟩,.slice none 0 0,.string ⟨#[]⟩,.slice none 0 0]
 shs:Blk W (R+1) tShs #[.slice none 0 0,.slice none 0 0]
 only:Only NoneOf w W
 new:w.heap.size≤R
theorem MkF.none_{w:World}{R:Nat}{W W' :World}(h:MkF w R W)(ho:Only NoneOf W W'):MkF w R W' :=⟨h.bid.only ho (fun e=>e),h.shs.only ho (fun e=>e),h.only.trans ho,h.new⟩
def set7(W:World)(R:Nat)(x0 x1 x2 x3 x4 y0 y1:Value):World:=((set5 W R x0 x1 x2 x3 x4).setCell ⟨R+1,0,none⟩ y0).setCell ⟨R+1,1,none⟩ y1
theorem set7_blk{W:World}{R:Nat}{a0 a1 a2 a3 a4 b0 b1:Value}(h:Blk W R tBid #[a0,a1,a2,a3,a4])(k:Blk W (R+1) tShs #[b0,b1])(x0 x1 x2 x3 x4 y0 y1:Value):Blk (set7 W R x0 x1 x2 x3 x4 y0 y1) R tBid #[x0,x1,x2,x3,x4]∧Blk (set7 W R x0 x1 x2 x3 x4 y0 y1) (R+1) tShs #[y0,y1]∧Only (fun k=>k=R∨k=R+1) W (set7 W R x0 x1 x2 x3 x4 y0 y1):=by
 obtain⟨k1,k2⟩:=set5_blk h x0 x1 x2 x3 x4
 have k3:Blk (set5 W R x0 x1 x2 x3 x4) (R+1) tShs #[b0,b1]:=k.only k2 (by omega)
 have m1:=Blk.set_ (Blk.set_ k3 0 y0) 1 y1
 have m2:Only (fun k=>k=R∨k=R+1) W (set7 W R x0 x1 x2 x3 x4 y0 y1):=((k2.mono (fun _ _ e=> .inl e)).setCell (p:=⟨R+1,0,none⟩) (.inl (.inr rfl)) _).setCell (p:=⟨R+1,1,none⟩) (.inl (.inr rfl)) _
 refine⟨?_,m1,m2⟩
 exact(k1.far (p:=⟨R+1,0,none⟩) (by show R≠R+1;omega) _).far (p:=⟨R+1,1,none⟩) (by show R≠R+1;omega) _
theorem MkF.err{w:World}{R:Nat}{W:World}(h:MkF w R W):∃W',W' =set7 W R (.int .i64 0) (.string ⟨#[]⟩) (.slice none 0 0) (.string ⟨#[]⟩) (.slice none 0 0) (.slice none 0 0) (.slice none 0 0)∧Blk W' R tBid #[.int .i64 0,.string ⟨#[]⟩,.slice none 0 0,.string ⟨#[]⟩,.slice none 0 0]∧Blk W' (R+1) tShs #[.slice none 0 0,.slice none 0 0]∧Only NoneOf w W' :=by
 obtain⟨k1,k2,k3⟩:=set7_blk h.bid h.shs (.int .i64 0) (.string ⟨#[]⟩) (.slice none 0 0) (.string ⟨#[]⟩) (.slice none 0 0) (.slice none 0 0) (.slice none 0 0)
 exact⟨_,rfl,k1,k2,h.only.trans' k3 (fun i hi e=>by have:=h.new;have e' :i=R∨i=R+1:=e;omega)⟩
theorem mkd_err{m:Mde}{w w' :World}{c:Int}(hm:m=⟨c,bd0,[],[]⟩)(ho:Only NoneOf w w'):MkdE m w (.returned (.tuple #[.agg #[.int .i64 0,.string ⟨#[]⟩,.slice none 0 0,.string ⟨#[]⟩,.slice none 0 0],.agg #[.slice none 0 0,.slice none 0 0],.int .i64 c])) w' :=by
 subst hm
 exact⟨_,_,_,rfl,BdOwn.zero _ _,OwnOf.nil _ _ _ _ _,OwnOf.nil _ _ _ _ _,ho⟩
set_option maxRecDepth 100000 in
set_option maxHeartbeats 4000000 in
theorem bmake_any(bidder:Int)(_hbd:In bidder)(seed:ByteArray)(hs:seed.size≤100000)(need off:Int)(es:List En)(rs:List Rb)(hin:∀e∈es,EnIn e)(hrn:∀r∈rs,RbIn r)(hql:(textG (qLines es)).length≤100000)(hqq:(qualL es).length≤100000)(hpl:(pricL es rs).length≤100000)(v u:Value)(w:World)(h:EnSl w v es)(hrb:RbSl w u rs)(ht:Tab w):Calls Tryz.prog 11 #[.int .i64 bidder,.string seed,.int .i64 need,.int .i64 off,v,u] w (MkdE (mde bidder seed.data.toList need off es rs) w):=by
 obtain⟨R,eR⟩:∃R,R=w.heap.size:=⟨_,rfl⟩
 obtain⟨X,eX⟩:∃X,X=(w.alloc (.cells #[.int .i64 0,.string ⟨#[]⟩,.slice none 0 0,.string ⟨#[]⟩,.slice none 0 0] tBid)).alloc (.cells #[.slice none 0 0,.slice none 0 0] tShs):=⟨_,rfl⟩
 have hF:MkF w R X:=by
  rw[eX,eR]
  have h2:=Blk.new (w.alloc (.cells #[.int .i64 0,.string ⟨#[]⟩,.slice none 0 0,.string ⟨#[]⟩,.slice none 0 0] tBid)) tShs #[.slice none 0 0,.slice none 0 0]
  rw[World.size_alloc] at h2
  exact⟨(Blk.new w _ _).alloc _,h2,((Only.refl _ _).alloc _).alloc _,Nat.le_refl _⟩
 have HF:=Lib.hid hF
 have HT:=Lib.hid ht
 have HEN:=Lib.hid h
 have HRB:=Lib.hid hrb
 have EX:=Lib.hid eX
 have ER:=Lib.hid eR
 have HIN:=Lib.hid hin
 have HRN:=Lib.hid hrn
 have HQL:=Lib.hid hql
 have HQQ:=Lib.hid hqq
 have HPL:=Lib.hid hpl
 clear hF ht h hrb hin hrn hql hqq hpl
 have er1:R+1=w.heap.size+1:=by rw[eR]
 have ER1:=Lib.hid er1
 clear eX eR er1
 have r0:=HF.out.bid.cell 0
 have r1:=HF.out.bid.cell 1
 have r2:=HF.out.bid.cell 2
 have r3:=HF.out.bid.cell 3
 have r4:=HF.out.bid.cell 4
 have q0:=HF.out.shs.cell 0
 have q1:=HF.out.shs.cell 1
 have fr:∀i,X.frozen? ⟨R,i,none⟩=false:=fun i=>HF.out.bid.frozen i
 have fs:∀i,X.frozen? ⟨R+1,i,none⟩=false:=fun i=>HF.out.shs.frozen i
 go_enter Tryz.func11,Tryz.ntmps11
 go_upto_region 1 with(fail)
 rw[←EX.out]
 rw[←ER1.out]
 rw[←ER.out]
 by_cases c1:need<1
 ·have d1:decide (need<1)=true:=decide_eq_true c1
  go_wp2_with fail
  obtain⟨W',eW',h1,h2,h3⟩:=HF.out.err
  subst eW'
  exact bodyPost_ret (read_mk rfl rfl rfl rfl h1 h2) rfl (mkd_err (by unfold mde;rw[if_pos (.inl c1)]) h3)
 have d1:decide (need<1)=false:=decide_eq_false c1
 by_cases c2:off<need
 ·have d2:decide (off<need)=true:=decide_eq_true c2
  go_wp2_with fail
  obtain⟨W',eW',h1,h2,h3⟩:=HF.out.err
  subst eW'
  exact bodyPost_ret (read_mk rfl rfl rfl rfl h1 h2) rfl (mkd_err (by unfold mde;rw[if_pos (.inr (.inl c2))]) h3)
 have d2:decide (off<need)=false:=decide_eq_false c2
 by_cases c3:13<off
 ·have d3:decide (13<off)=true:=decide_eq_true c3
  go_wp2_with fail
  obtain⟨W',eW',h1,h2,h3⟩:=HF.out.err
  subst eW'
  exact bodyPost_ret (read_mk rfl rfl rfl rfl h1 h2) rfl (mkd_err (by unfold mde;rw[if_pos (.inr (.inr c3))]) h3)
 have d3:decide (13<off)=false:=decide_eq_false c3
 clear r0 r1 r2 r3 r4 q0 q1 fr fs
 go_wp2_with fail
 refine(right_any es v X (HEN.out.only HF.out.only)).mono ?_
 rintro e w1 ⟨rfl,ho1⟩
 have hF1:=HF.out.none_ ho1
 have HF1:=Lib.hid hF1
 clear ho1
 cases hr:rightL es with
 |false=>
  have r0:=hF1.bid.cell 0
  have r1:=hF1.bid.cell 1
  have r2:=hF1.bid.cell 2
  have r3:=hF1.bid.cell 3
  have r4:=hF1.bid.cell 4
  have q0:=hF1.shs.cell 0
  have q1:=hF1.shs.cell 1
  have fr:∀i,w1.frozen? ⟨R,i,none⟩=false:=fun i=>hF1.bid.frozen i
  have fs:∀i,w1.frozen? ⟨R+1,i,none⟩=false:=fun i=>hF1.shs.frozen i
  clear hF1
  go_wp2_with fail
  obtain⟨W',eW',h1,h2,h3⟩:=HF1.out.err
  subst eW'
  exact bodyPost_ret (read_mk rfl rfl rfl rfl h1 h2) rfl (mkd_err (by unfold mde;rw[if_neg (by omega),if_pos hr]) h3)
 |true=>
  clear hF1
  obtain⟨k,ek⟩:∃k:Nat,need=(k:Int):=⟨need.toNat,by omega⟩
  obtain⟨n,en⟩:∃n:Nat,off=(n:Int):=⟨off.toNat,by omega⟩
  subst ek en
  have hm:mde bidder seed.data.toList (k:Int) (n:Int) es rs=⟨0,mkBd bidder seed.data.toList k (qualL es) (pricL es rs),shL (cfs (seed.data.toList++[113]) k) n,shL (cfs (seed.data.toList++[112]) k) n⟩:=by
   unfold mde
   rw[if_neg (by omega),if_neg (by rw[hr];decide),Int.toNat_natCast,Int.toNat_natCast]
  have HM:=Lib.hid hm
  have hk1:1≤k:=by omega
  have hkn:k≤n:=by omega
  have hn13:n≤13:=by omega
  have m1:¬9223372036854775807<seed.size+1:=by omega
  have sq:(seed++⟨#[113]⟩:ByteArray).size≤1000000:=by rw[ByteArray.size_append];show seed.size+1≤_;omega
  have sp:(seed++⟨#[112]⟩:ByteArray).size≤1000000:=by rw[ByteArray.size_append];show seed.size+1≤_;omega
  have lq:(seed++⟨#[113]⟩:ByteArray).data.toList =seed.data.toList++[113]:=by rw[append_list]
  have lp:(seed++⟨#[112]⟩:ByteArray).data.toList =seed.data.toList++[112]:=by rw[append_list]
  have HSQ:=Lib.hid sq
  have HSP:=Lib.hid sp
  have HLQ:=Lib.hid lq
  have HLP:=Lib.hid lp
  clear sq sp lq lp hm d1 d2 d3 c1 c2 c3
  go_wp2_with fail
  refine(quality_any es HIN.out (by have:=HQL.out;omega) v w1 (HEN.out.only HF1.out.only) (HT.out.none HF1.out.only)).mono ?_
  rintro e w2 ⟨qt,rfl,hqt,ho2⟩
  have hqs:qt.size≤1000000:=by rw[size_list,hqt];have:=HQQ.out;omega
  have HQT:=Lib.hid hqt
  have HF2:=Lib.hid (HF1.out.none_ ho2)
  clear hqt ho2
  go_wp2_with fail
  refine(box_any _ qt HSQ.out hqs k n hk1 hkn hn13 w2 (HT.out.none HF2.out.only)).mono ?_
  rintro e w3 ⟨cq,aq,rfl,hcq,haq,ho3⟩
  rw[HLQ.out] at hcq haq⊢
  rw[HQT.out]
  obtain⟨A1,k1,rfl,_,_⟩:=own_form' hcq
  obtain⟨A2,k2,rfl,_,_⟩:=own_form' haq
  obtain⟨qb,eqb⟩:∃t,t=boxT (seed.data.toList++[113]) (qualL es):=⟨_,rfl⟩
  rw[←eqb]
  obtain⟨E,eE⟩:∃E,E=w3.heap.size:=⟨_,rfl⟩
  obtain⟨W4,eW4⟩:∃W4,W4=w3.alloc (.cells #[.string qb,.slice A1 k k1] tBox):=⟨_,rfl⟩
  have ho4:Only NoneOf w3 W4:=by rw[eW4];exact(Only.refl _ _).alloc _
  have HB4:=Lib.hid (show Blk W4 E tBox #[.string qb,.slice A1 k k1] by rw[eW4,eE];exact Blk.new w3 _ _)
  have HF4:=Lib.hid ((HF2.out.none_ ho3).none_ ho4)
  have HCQ4:=Lib.hid (OwnOf.keep hcq ho4 (fun _ _ e=>e))
  have HAQ4:=Lib.hid (OwnOf.keep haq ho4 (fun _ _ e=>e))
  have EQB:=Lib.hid eqb
  have EE:=Lib.hid eE
  have EW4:=Lib.hid eW4
  clear hcq haq eqb eE eW4 ho4 ho3
  go_wp2_with fail
  rw[←EW4.out]
  rw[←EE.out]
  refine(prices_any es rs HIN.out HRN.out (by have:=HPL.out;omega) v u W4 (HEN.out.only HF4.out.only) (HRB.out.only HF4.out.only) (HT.out.none HF4.out.only)).mono ?_
  rintro e w5 ⟨pt,rfl,hpt,ho5⟩
  have hps:pt.size≤1000000:=by rw[size_list,hpt];have:=HPL.out;omega
  have HPT:=Lib.hid hpt
  have HO5:=Lib.hid ho5
  have HF5:=Lib.hid (HF4.out.none_ ho5)
  clear hpt ho5
  go_wp2_with fail
  refine(box_any _ pt HSP.out hps k n hk1 hkn hn13 w5 (HT.out.none HF5.out.only)).mono ?_
  rintro e w6 ⟨cp,ap,rfl,hcp,hap,ho6⟩
  rw[HLP.out] at hcp hap⊢
  rw[HPT.out]
  obtain⟨A3,k3,rfl,_,_⟩:=own_form' hcp
  obtain⟨A4,k4,rfl,_,_⟩:=own_form' hap
  obtain⟨pb,epb⟩:∃t,t=boxT (seed.data.toList++[112]) (pricL es rs):=⟨_,rfl⟩
  rw[←epb]
  obtain⟨W7,eW7⟩:∃W7,W7=w6.alloc (.cells #[.string pb,.slice A3 k k3] tBox):=⟨_,rfl⟩
  have ho7:Only NoneOf w6 W7:=by rw[eW7];exact(Only.refl _ _).alloc _
  have h57:Only NoneOf W4 W7:=(HO5.out.trans ho6).trans ho7
  have hF7:=HF4.out.none_ h57
  have hB7:=HB4.out.only h57 (fun e=>e)
  have HCQ7:=Lib.hid (OwnOf.keep HCQ4.out h57 (fun _ _ e=>e))
  have HAQ7:=Lib.hid (OwnOf.keep HAQ4.out h57 (fun _ _ e=>e))
  have HCP7:=Lib.hid (OwnOf.keep hcp ho7 (fun _ _ e=>e))
  have HAP7:=Lib.hid (OwnOf.keep hap ho7 (fun _ _ e=>e))
  have b0:=hB7.cell 0
  have b1:=hB7.cell 1
  have r0:=hF7.bid.cell 0
  have r1:=hF7.bid.cell 1
  have r2:=hF7.bid.cell 2
  have r3:=hF7.bid.cell 3
  have r4:=hF7.bid.cell 4
  have q0:=hF7.shs.cell 0
  have q1:=hF7.shs.cell 1
  have fr:∀i,W7.frozen? ⟨R,i,none⟩=false:=fun i=>hF7.bid.frozen i
  have fs:∀i,W7.frozen? ⟨R+1,i,none⟩=false:=fun i=>hF7.shs.frozen i
  obtain⟨g1,g2,g3⟩:=set7_blk hF7.bid hF7.shs (.int .i64 bidder) (.string qb) (.slice A1 k k1) (.string pb) (.slice A3 k k3) (.slice A2 n k2) (.slice A4 n k4)
  have hlow:R+1<w2.heap.size:=HF2.out.shs.lt
  have hlow5:R+1<w5.heap.size:=HF5.out.shs.lt
  have hfin:MkdE ⟨0,mkBd bidder seed.data.toList k (qualL es) (pricL es rs),shL (cfs (seed.data.toList++[113]) k) n,shL (cfs (seed.data.toList++[112]) k) n⟩ w (.returned (.tuple #[.agg #[.int .i64 bidder,.string qb,.slice A1 k k1,.string pb,.slice A3 k k3],.agg #[.slice A2 n k2,.slice A4 n k4],.int .i64 0])) (set7 W7 R (.int .i64 bidder) (.string qb) (.slice A1 k k1) (.string pb) (.slice A3 k k3) (.slice A2 n k2) (.slice A4 n k4)):=by
   refine⟨_,_,_,rfl,⟨.slice A1 k k1,.slice A3 k k3,by rw[EQB.out,epb];rfl,?_,?_⟩,?_,?_,?_⟩
   ·have e:(mkBd bidder seed.data.toList k (qualL es) (pricL es rs)).qc.length =k:=by show(cmL _).length =k;rw[cmL_len,cfs_len]
    rw[e]
    exact own_base (OwnOf.keep HCQ7.out g3 (fun b hb hs=>by have h1:=(own_ge HCQ7.out hb).1;have hs' :b=R∨b=R+1:=hs;omega)) HF2.out.only.size
   ·have e:(mkBd bidder seed.data.toList k (qualL es) (pricL es rs)).pc.length =k:=by show(cmL _).length =k;rw[cmL_len,cfs_len]
    rw[e]
    exact own_base (OwnOf.keep HCP7.out g3 (fun b hb hs=>by have h1:=(own_ge HCP7.out hb).1;have hs' :b=R∨b=R+1:=hs;omega)) HF5.out.only.size
   ·show OwnOf tSh shC 2 _ _ _ (shL (cfs (seed.data.toList++[113]) k) n).length _
    rw[shL_len]
    exact own_base (OwnOf.keep HAQ7.out g3 (fun b hb hs=>by have h1:=(own_ge HAQ7.out hb).1;have hs' :b=R∨b=R+1:=hs;omega)) HF2.out.only.size
   ·show OwnOf tSh shC 2 _ _ _ (shL (cfs (seed.data.toList++[112]) k) n).length _
    rw[shL_len]
    exact own_base (OwnOf.keep HAP7.out g3 (fun b hb hs=>by have h1:=(own_ge HAP7.out hb).1;have hs' :b=R∨b=R+1:=hs;omega)) HF5.out.only.size
   ·exact hF7.only.trans' g3 (fun i hi e=>by have:=hF7.new;have e' :i=R∨i=R+1:=e;omega)
  have HFIN:=Lib.hid hfin
  have G1:=Lib.hid g1
  have G2:=Lib.hid g2
  have EW7:=Lib.hid eW7
  rw[eW7] at b0 b1 r0 r1 r2 r3 r4 q0 q1 fr fs
  have EPB:=Lib.hid epb
  have hne:¬w6.heap.size=R:=by have:=hF7.bid.lt;have h2:=HF5.out.bid.lt;have h3:=ho6.size;omega
  clear hcp hap ho6 ho7 h57 hF7 hB7 g1 g2 g3 hlow hlow5 hfin eW7 epb
  go_wp2_with fail
  rw[←EW7.out]
  exact bodyPost_ret (read_mk rfl rfl rfl rfl G1.out G2.out) rfl (by rw[HM.out];exact HFIN.out)
end Go.Proofs.YtpdlbmieciabmaaGreatDoor
