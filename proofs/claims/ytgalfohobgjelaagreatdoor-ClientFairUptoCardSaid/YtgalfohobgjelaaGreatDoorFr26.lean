/- What is proved here:several parts. a bid's text,by the bids' code. Conditions:the bid is well and its texts are short. · decimal texts and texts in hexadecimal by the bids' reference. Conditions:the numbers are ints,the texts short. · a bid's text,by the reference. Conditions:the bid is well and its texts are short. · a remainder;the bids of the client's laws. Condition:the number is an int. · the setup of the client's worlds. Condition:the world's numbers are bytes. -/
import Derived.Test.YtgalfohobgjelaaGreatDoorFr08
import Derived.Test.YtgalfohobgjelaaGreatDoorFr12
import Derived.Test.YtgalfohobgjelaaGreatDoorFr24
import Derived.Test.YtgalfohobgjelaaGreatDoorFr25
import Derived.BigQuiet
namespace Go.Proofs.YtgalfohobgjelaaGreatDoor
open Go.RowKit Go.Shelf
def IntSl (w:World) (A:Option Addr) (ns:List Int):Prop:=ns= []∨∃g o,A=some ⟨g,o,none⟩∧g<w.heap.size∧∀(j:Nat) (x:Int),ns[j]? =some x→w.cell? ⟨g,o+j,none⟩=some (.int .i64 x)
theorem IntSl.none_ {w w':World} {A:Option Addr} {ns:List Int} (h:IntSl w A ns) (ho:Only NoneOf w w'):IntSl w' A ns:=by
 rcases h with h|⟨g,o,hA,h1,h2⟩
 ·exact .inl h
 ·exact .inr ⟨g,o,hA,Nat.lt_of_lt_of_le h1 ho.size,fun j x hx=>ho.cell_some (h2 j x hx) (fun h=>h.elim)⟩
theorem IntSl.wr {w w':World} {A:Option Addr} {ns:List Int} (h:IntSl w A ns) (ho:Only NoneOf w w') {C b:Nat} (hb:w.heap.size≤b) (hC:b<C):IntsW C b A ns w':=by
 rcases h with h|⟨g,o,hA,h1,h2⟩
 ·exact .inl h
 ·exact .inr ⟨g,o,hA,by omega,by omega,Nat.lt_of_lt_of_le h1 ho.size,fun j x hx=>ho.cell_some (h2 j x hx) (fun h=>h.elim)⟩
structure Bd.Ok (b:Bd):Prop where
 id:In b.bidder
 qi:∀x∈b.qc,In x
 pi:∀x∈b.pc,In x
 qt:b.qt.size≤1000000
 pt:b.pt.size≤1000000
 ql:b.qc.length≤1000000
 pl:b.pc.length≤1000000
theorem lineL_len (word:List UInt8) (l:List Int) (h:∀x∈l,In x):(lineL word l).length≤word.length+22 * l.length+1:=by
 have:=wordsN_len l h
 unfold lineL
 simp only [List.length_append,List.length_singleton]
 omega
theorem tab_lt {X:World} (h:Tab X):3<X.heap.size:=by
 have hgl:Tryz.prog.globalNamed pow10=some 3:=by kernel_rfl
 unfold Tab Lib.TabIs World.var? at *
 rw [hgl] at h
 simp only [Option.bind_some] at h
 cases hx:X.heap[3]? with
 |none=>rw [hx] at h;cases h
 |some o=>exact(Array.getElem?_eq_some_iff.1 hx).1
abbrev tBid:TypeId:=75
structure EncK (w:World) (R b C:Nat) (cs:Array Value) (l:List UInt8) (W:World):Prop where
 wr:WBu C b l W
 box:Blk W R tBid cs
 only:Only NoneOf w W
theorem EncK.step {w:World} {R b C:Nat} {cs:Array Value} {l l':List UInt8} {W W':World} (h:EncK w R b C cs l W) (hRb:R<b) (hwb:w.heap.size≤b) (hbC:b<C) (hW:WB C b (selfP b) l' W') (ho:Only (WS C b) W W'):EncK w R b C cs l' W':=
 ⟨.inr hW,h.box.only ho (fun hk=>by rcases hk with hk|hk<;>omega),h.only.trans' ho (fun i hi hk=>by rcases hk with hk|hk<;>omega)⟩
theorem EncK.none_ {w:World} {R b C:Nat} {cs:Array Value} {l:List UInt8} {W W':World} (h:EncK w R b C cs l W) (ho:Only NoneOf W W'):EncK w R b C cs l W':=
 ⟨h.wr.none_ ho,h.box.only ho (fun h=>h.elim),h.only.trans ho⟩
abbrev bdCells (d:Bd) (qA pA:Option Addr) (qk pk:Nat):Array Value:= #[.int .i64 d.bidder,.string d.qt,.slice qA d.qc.length qk,.string d.pt,.slice pA d.pc.length pk]
set_option maxRecDepth 100000 in
set_option maxHeartbeats 1000000 in
theorem bencode_any (d:Bd) (hd:d.Ok) {qA pA:Option Addr} {qk pk:Nat} {w:World} (hq:IntSl w qA d.qc) (hp:IntSl w pA d.pc) (ht:Tab w):
  Calls Tryz.prog 64 #[.agg (bdCells d qA pA qk pk)] w (RetStr (encB d) w):=by
 obtain⟨hid,hqi,hpi,hqt,hpt,hql,hpl⟩:=hd
 obtain⟨R,eR⟩:∃R,R=w.heap.size:=⟨_,rfl⟩
 obtain⟨b,eb⟩:∃b,b=R+1:=⟨_,rfl⟩
 obtain⟨G,eG⟩:∃G,G=b+1:=⟨_,rfl⟩
 obtain⟨C,eC⟩:∃C,C=G+1:=⟨_,rfl⟩
 obtain⟨X,eX⟩:∃X,X=((w.alloc (.cells (bdCells d qA pA qk pk) tBid)).alloc (.cells #[.pointer none,.slice none 0 0] tWr)).alloc (.cells #[.int .i64 d.bidder] 3):=⟨_,rfl⟩
 have hb0:Blk X R tBid (bdCells d qA pA qk pk):=by rw [eX,eR];exact((Blk.new w _ _).alloc _).alloc _
 have hb1:Blk X b tWr #[.pointer none,.slice none 0 0]:=by
  have h:=Blk.new (w.alloc (.cells (bdCells d qA pA qk pk) tBid)) tWr #[.pointer none,.slice none 0 0]
  rw [World.size_alloc,←eR,←eb] at h
  rw [eX];exact h.alloc _
 have hb2:Blk X G 3 #[.int .i64 d.bidder]:=by
  have h:=Blk.new ((w.alloc (.cells (bdCells d qA pA qk pk) tBid)).alloc (.cells #[.pointer none,.slice none 0 0] tWr)) 3 #[.int .i64 d.bidder]
  rw [World.size_alloc,World.size_alloc,←eR,←eb,←eG] at h
  rw [eX];exact h
 have hsz:X.heap.size=C:=by rw [eX];simp;omega
 have hon:Only NoneOf w X:=by rw [eX];exact(((Only.refl _ _).alloc _).alloc _).alloc _
 have hgb:3<b:=by have:=tab_lt ht;omega
 have hK:EncK w R b C (bdCells d qA pA qk pk) [] X:=⟨.inl ⟨by omega,by omega,_,hb1,⟨rfl,.inl ⟨rfl,rfl⟩⟩⟩,hb0,hon⟩
 have hI:IntsW C b (some ⟨G,0,none⟩) [d.bidder] X:= .inr ⟨G,0,rfl,by omega,by omega,by omega,fun j x hx=>by
  match j,hx with
  |0,hx=>simp only [List.getElem?_cons_zero,Option.some.injEq] at hx;subst hx;exact hb2.cell 0⟩
 have HK:=Lib.hid hK
 have HI:=Lib.hid hI
 have HQ:=Lib.hid hq
 have HP:=Lib.hid hp
 have HT:=Lib.hid ht
 have HQI:=Lib.hid hqi
 have HPI:=Lib.hid hpi
 have hbC:b<C:=by omega
 have hRb:R<b:=by omega
 have hwb:w.heap.size≤b:=by omega
 have HEX:=Lib.hid eX
 have HER:=Lib.hid eR
 have HEB:=Lib.hid eb
 have HEG:=Lib.hid eG
 clear hK hI hq hp ht hqi hpi hb0 hb1 hb2 hon hsz eX eR eb eG eC
 have LB:=lineL_len wBid [d.bidder] (fun x hx=>by simp at hx;subst hx;exact hid)
 have LQ:=lineL_len wQuality d.qc HQI.out
 have LQT:=lineL_len (hexL d.qt.data.toList) [] (fun x hx=>by simp at hx)
 have LP:=lineL_len wPrice d.pc HPI.out
 rw [hexL_len,←size_list] at LQT
 have q1:wBid.length=3:=rfl
 have q2:wQuality.length=7:=rfl
 have q3:wPrice.length=5:=rfl
 simp only [List.length_cons,List.length_nil] at LB LQT
 go_enter Tryz.func64,Tryz.ntmps64
 go_wp2_with fail
 rw [←HEX.out,←HER.out,←HEB.out,←HEG.out]
 refine(line_any (C:=C) (ns:= [d.bidder]) _ (by decide) HK.out.wr (by simp) (fun x hx=>by simp at hx;subst hx;exact hid) HI.out (HT.out.none HK.out.only) hgb (by simp)).mono ?_
 rintro e w1 ⟨rfl,h1,ho1⟩
 replace h1:WB C b (selfP b) ([] ++lineL wBid [d.bidder]) w1:=h1
 have K1:=Lib.hid (HK.out.step hRb hwb hbC h1 ho1)
 clear h1 ho1
 have c2:=K1.out.box.cell 2
 simp only [List.getElem?_toArray,List.getElem?_cons_zero,List.getElem?_cons_succ] at c2
 go_wp2_with fail
 refine(line_any (C:=C) (ns:=d.qc) _ (by decide) K1.out.wr (by omega) HQI.out (HQ.out.wr K1.out.only hwb hbC) (HT.out.none K1.out.only) hgb (by simp only [List.length_append,List.length_nil];omega)).mono ?_
 rintro e w2 ⟨rfl,h2,ho2⟩
 replace h2:WB C b (selfP b) ([] ++lineL wBid [d.bidder] ++lineL wQuality d.qc) w2:=h2
 have K2:=Lib.hid (K1.out.step hRb hwb hbC h2 ho2)
 clear h2 ho2 c2
 have c1:=K2.out.box.cell 1
 simp only [List.getElem?_toArray,List.getElem?_cons_zero,List.getElem?_cons_succ] at c1
 go_wp2_with fail
 refine(bhex_any d.qt hqt w2).mono ?_
 rintro e w3 ⟨t3,rfl,ht3,ho3⟩
 have K3:=Lib.hid (K2.out.none_ ho3)
 have L3:t3.size≤2000000:=by rw [size_list,ht3,hexL_len,←size_list];omega
 have HT3:=Lib.hid ht3
 clear ho3 c1 ht3
 go_wp2_with fail
 refine(line_any (C:=C) (ns:= []) t3 (by omega) K3.out.wr (by simp) (fun x hx=>by simp at hx) (.inl rfl) (HT.out.none K3.out.only) hgb (by simp only [List.length_append,List.length_nil];omega)).mono ?_
 rintro e w4 ⟨rfl,h4,ho4⟩
 rw [HT3.out] at h4
 replace h4:WB C b (selfP b) ([] ++lineL wBid [d.bidder] ++lineL wQuality d.qc++lineL (hexL d.qt.data.toList) []) w4:=h4
 have K4:=Lib.hid (K3.out.step hRb hwb hbC h4 ho4)
 clear h4 ho4
 have c4:=K4.out.box.cell 4
 simp only [List.getElem?_toArray,List.getElem?_cons_zero,List.getElem?_cons_succ] at c4
 go_wp2_with fail
 refine(line_any (C:=C) (ns:=d.pc) _ (by decide) K4.out.wr (by omega) HPI.out (HP.out.wr K4.out.only hwb hbC) (HT.out.none K4.out.only) hgb (by simp only [List.length_append,List.length_nil];omega)).mono ?_
 rintro e w5 ⟨rfl,h5,ho5⟩
 replace h5:WB C b (selfP b) ([] ++lineL wBid [d.bidder] ++lineL wQuality d.qc++lineL (hexL d.qt.data.toList) [] ++lineL wPrice d.pc) w5:=h5
 have K5:=Lib.hid (K4.out.step hRb hwb hbC h5 ho5)
 clear h5 ho5 c4
 have c3:=K5.out.box.cell 3
 simp only [List.getElem?_toArray,List.getElem?_cons_zero,List.getElem?_cons_succ] at c3
 go_wp2_with fail
 refine(bhex_any d.pt hpt w5).mono ?_
 rintro e w6 ⟨t6,rfl,ht6,ho6⟩
 have K6:=Lib.hid (K5.out.none_ ho6)
 have L6:t6.size≤2000000:=by rw [size_list,ht6,hexL_len,←size_list];omega
 have HT6:=Lib.hid ht6
 clear ho6 c3 ht6
 go_wp2_with fail
 refine(line_any (C:=C) (ns:= []) t6 (by omega) K6.out.wr (by simp) (fun x hx=>by simp at hx) (.inl rfl) (HT.out.none K6.out.only) hgb (by simp only [List.length_append,List.length_nil];omega)).mono ?_
 rintro e w7 ⟨rfl,h7,ho7⟩
 rw [HT6.out] at h7
 have HE7:Hid (WB C b (selfP b) (encB d) w7):=Lib.hid (by have h:=h7;simp only [List.nil_append,List.append_assoc] at h;unfold encB;simp only [List.append_assoc];exact h)
 have K7:=Lib.hid (K6.out.step hRb hwb hbC h7 ho7)
 clear h7 ho7
 go_wp2_with fail
 refine(wstring_any (B:=b) (l:=encB d) (.inr HE7.out.at_) (fun e=>by have e2:=congrArg List.length e;simp [encB,lineL,wBid] at e2)).mono ?_
 rintro e w8 ⟨rfl,hbel⟩
 have HO8:=Lib.hid (K7.out.only.below' hbel hwb)
 clear hbel
 go_wp2_with fail
 go_ret
 exact RetStr.mk (by simp) HO8.out
end Go.Proofs.YtgalfohobgjelaaGreatDoor
namespace Go.Proofs.YtgalfohobgjelaaGreatDoor
open Go.RowKit Go.Shelf
set_option maxRecDepth 100000 in
set_option maxHeartbeats 1000000 in
theorem rdec16_any (n:Int) (hn:In n) (w:World):Calls Tryz.prog 68 #[.int .i64 n] w (RetStr (Lib.itoa n) w):=by
 obtain⟨n0,n1⟩:=hn
 by_cases hz:n=0
 ·subst hz
  go_enter Tryz.func68,Tryz.ntmps68
  go_wp2_with fail
  go_ret
  exact RetStr.mk (by decide+kernel) (Only.refl _ _)
 ·obtain⟨m,em⟩:∃m,m=n.natAbs:=⟨_,rfl⟩
  obtain⟨sg,esg⟩:∃sg:Bool,sg=decide (n<0):=⟨_,rfl⟩
  have hnm:n=if sg then -(m:Int) else(m:Int):=by
   rw [esg,em];simp only [decide_eq_true_eq];split<;>omega
  have hm:m<18446744073709551616:=by omega
  have hi:Lib.itoa n=if sg then 45::Lib.decDigits m else Lib.decDigits m:=by
   unfold Lib.itoa
   rw [esg,em];simp only [decide_eq_true_eq];split
   ·rfl
   ·rw [show n.toNat=n.natAbs by omega]
  have HI:=Lib.hid hi
  have HNM:=Lib.hid hnm
  have ESG:=Lib.hid esg
  have EM:=Lib.hid em
  clear hi hnm esg em
  go_enter Tryz.func68,Tryz.ntmps68
  go_wp2_with fail
  rw [show(n==0)=false by simpa using hz]
  go_loopw [3,4] (fun o v wr=>DecR m sg w o v wr) (fun _ v _=> (intOf v).natAbs)
  case atStart=>
   have:=ESG.out
   have h2:=HNM.out
   refine⟨_,m,rfl,by rw [←h2],by have:=EM.out;omega,fun hf=>by rw [hf] at h2;simp at h2;omega,⟨fun _=>by simp,fun h0=>by have:=EM.out;omega⟩,Only.refl _ _⟩
  case round=>
   obtain⟨t,u,rfl,rfl,hu,hu2,hd,ho⟩:=hrel
   have hl:=hd.len hm
   have hts:t.size≤20:=by rw [size_list];exact hl
   obtain⟨v,ev⟩:∃v,v=if sg then -(u:Int) else(u:Int):=⟨_,rfl⟩
   rw [←ev]
   have hv:v=(u:Int)∨v= -(u:Int):=by rw [ev];split<;>simp
   have hvb: -9223372036854775808≤v∧v≤9223372036854775807:=by
    rw [ev];split
    ·omega
    ·have:=hu2 (by simpa using ‹¬sg=true›);omega
   obtain⟨hv0,hv1⟩:=hvb
   by_cases h0:u=0
   ·have v0:v=0:=by omega
    have hdd:=hd.2 h0
    have HD:=Lib.hid hdd
    have HO:=Lib.hid ho
    clear ev hv hd hdd ho hu2
    subst v0
    cases hsg:sg with
    |false=>
     have hn0:¬n<0:=by have:=ESG.out;rw [hsg] at this;simpa using this.symm
     rw [hsg] at HI
     go_wp2_with fail
     go_ret
     refine RetStr.mk ?_ HO.out
     rw [HI.out,HD.out];rfl
    |true=>
     have hn0:n<0:=by have:=ESG.out;rw [hsg] at this;simpa using this.symm
     have hq:¬9223372036854775807<1+t.size:=by omega
     rw [hsg] at HI
     go_wp2_with fail
     go_ret
     refine RetStr.mk ?_ HO.out
     rw [HI.out,HD.out,ByteArray.data_append,Array.toList_append];rfl
   ·obtain⟨e,em1,he⟩:=tm10 v u hv
    have htd:=td10 v u sg ev
    have hst:=hd.step h0
    have hu8:=u8_48 (u % 10) (by omega)
    obtain⟨d,ed⟩:∃d,d=u % 10:=⟨_,rfl⟩
    obtain⟨q,eq⟩:∃q,q=u / 10:=⟨_,rfl⟩
    rw [←ed] at he hst hu8
    rw [←eq] at htd hst
    obtain⟨z,ez⟩:∃z,z=v.tdiv 10:=⟨_,rfl⟩
    have hzb: -9223372036854775808≤z∧z≤9223372036854775807:=by rw [ez,htd];split<;>omega
    obtain⟨c,ec⟩:∃c,c=UInt8.ofNat (48+d):=⟨_,rfl⟩
    rw [←ec] at hst hu8
    have w1:IntKind.i64.wrap (v.tmod 10)=e:=by rw [em1];exact IntWalk.i64_in _ (by omega)
    have w2:IntKind.i64.wrap (v.tdiv 10)=z:=by rw [←ez];exact IntWalk.i64_in _ hzb
    have w3:IntKind.i64.wrap (48+ (d:Int))=48+ (d:Int):=IntWalk.i64_in _ (by omega)
    have hnv:¬v=0:=by omega
    have hq:¬9223372036854775807<1+t.size:=by omega
    have hu8':(48+ (d:Int)) % 256=(c.toNat:Int):=by rw [←hu8];simp [IntKind.wrap,IntKind.bits,IntKind.signed]
    have ez':=ez.symm
    have w5:IntKind.i64.wrap z=z:=IntWalk.i64_in _ hzb
    have hby:BytesAt (wr.alloc (.cells #[.int .u8 (c.toNat:Int)] 5)) wr.heap.size 0 [c]:=blk_bytes (Blk.new wr 5 #[bv c])
    have HBY:=Lib.hid hby
    have HO:=Lib.hid ho
    have HST:=Lib.hid hst
    have HTD:=Lib.hid (ez.trans htd)
    have HU2:=Lib.hid hu2
    have EQ:=Lib.hid eq
    have EV:=Lib.hid ev
    have hms:(intOf (.int .i64 z)).natAbs< (intOf (.int .i64 v)).natAbs:=by
     show z.natAbs<v.natAbs
     rw [ez,htd,ev,eq]
     split<;>omega
    have HMS:=Lib.hid hms
    have tok:True:=trivial
    have L1:(⟨[c].toArray⟩:ByteArray).size=1:=rfl
    have fin:∀W,Only NoneOf w W→DecR m sg w (.string ((⟨[c].toArray⟩:ByteArray) ++t)) (.int .i64 z) W:=fun W hW=>by
     refine⟨_,q,rfl,by rw [HTD.out],by have:=EQ.out;omega,fun h=>by have:=EQ.out;have:=HU2.out h;omega,?_,hW⟩
     rw [ByteArray.data_append,Array.toList_append]
     exact HST.out
    have FIN:=Lib.hid fin
    by_cases hneg:e<0
    ·have w4:IntKind.i64.wrap (-e)=(d:Int):=by rw [show -e=(d:Int) by omega];exact IntWalk.i64_in _ (by omega)
     clear hd ho hst htd ec ed eq hby hu2 ev hms fin hv he hl ez hzb
     go_wp2_with (have _t:=tok;refine wpList_convert_back rfl 22 9 5 (.tmp 22) rfl wr.heap.size 0 1 1 rfl [c] rfl HBY.out Tryz.underlying22 Tryz.underlying5 Tryz.underlying9 ?_;clear tok _t)
     go_roundw
     case rel=>first|exact FIN.out _ (HO.out.alloc _)|exact⟨_,_,_,_,_,_,_,_,_,_,_,_,_,_,_,_,_,_,_,_,FIN.out _ (HO.out.alloc _),rfl⟩
     case measure=>exact HMS.out
    ·obtain rfl:e=(d:Int):=by omega
     clear hd ho hst htd ec ed eq hby hu2 ev hms fin hv he hl ez hzb
     go_wp2_with (have _t:=tok;refine wpList_convert_back rfl 22 9 5 (.tmp 22) rfl wr.heap.size 0 1 1 rfl [c] rfl HBY.out Tryz.underlying22 Tryz.underlying5 Tryz.underlying9 ?_;clear tok _t)
     go_roundw
     case rel=>first|exact FIN.out _ (HO.out.alloc _)|exact⟨_,_,_,_,_,_,_,_,_,_,_,_,_,_,_,_,_,_,_,_,FIN.out _ (HO.out.alloc _),rfl⟩
     case measure=>exact HMS.out
set_option maxRecDepth 100000 in
set_option maxHeartbeats 2000000 in
theorem rhex16_any (t:ByteArray) (hl:t.size≤1000000) (w:World):Calls Tryz.prog 69 #[.string t] w (RetStr (hexL t.data.toList) w):=by
 obtain⟨h,eh⟩:∃h,h=t.data.toList:=⟨_,rfl⟩
 have hlen:h.length=t.size:=by rw [eh,size_list]
 have HL:=Lib.hid hl
 have HLEN:=Lib.hid hlen
 have EH:=Lib.hid eh
 rw [←eh]
 clear hl hlen eh
 go_enter Tryz.func69,Tryz.ntmps69
 go_wp2_with fail
 go_loopw [4,5] (fun v i wr=> ∃(k:Nat) (s:ByteArray),i= .int .i64 k∧v= .string s∧k≤t.size∧s.data.toList=hexL (h.take k)∧Only NoneOf w wr) (fun _ i _=>t.size - (intOf i).toNat)
 case atStart=>exact⟨0,⟨#[]⟩,rfl,rfl,by omega,rfl,Only.refl _ _⟩
 case round=>
  obtain⟨k,s,rfl,rfl,hk,hs,ho⟩:=hrel
  by_cases hlt:k<t.size
  ·obtain⟨x,hx⟩:∃x,h[k]? =some x:=⟨_,List.getElem?_eq_getElem (by have:=HLEN.out;omega)⟩
   have hix:t.data[k]? =some x:=by have e:=EH.out;rw [e] at hx;simpa using hx
   have hts:t[k]'hlt=x:=by
    have e:t.data[k]? =some (t[k]'hlt):=Array.getElem?_eq_getElem _
    rw [hix] at e
    exact(Option.some.inj e).symm
   have hx256:=x.toNat_lt
   have ik:(k:Int) <t.size:=by omega
   have hk6:k≤1000000:=by have:=HL.out;omega
   have hsz:s.size≤2000000:=by rw [size_list,hs,hexL_len,List.length_take];omega
   have hs1:s.size+1≤9223372036854775807:=by omega
   have hs2:s.size+1+1≤9223372036854775807:=by omega
   have hnx:hexL (h.take (k+1))=hexL (h.take k) ++ [hexC (x.toNat / 16)] ++ [hexC (x.toNat % 16)]:=by
    rw [List.take_add_one,hx,Option.toList_some,hexL_snoc]
   have HOK:=Lib.hid ho
   have HSK:=Lib.hid hs
   have HNX:=Lib.hid hnx
   have HX:=Lib.hid hx256
   clear ho hs hnx hx hix
   go_upto_region 6 with(fail)
   go_region
   go_wp2_with fail
   go_roundw
   case rel=>
    refine⟨k+1,_,by go_num,rfl,by omega,?_,HOK.out.drew⟩
    rw [HNX.out,ByteArray.data_append,ByteArray.data_append,Array.toList_append,Array.toList_append,HSK.out,hexC_ext _ (by omega),hexC_ext _ (by omega)]
   case measure=>simp [intOf];omega
  ·have ik:¬(k:Int) <t.size:=by omega
   have HOK:=Lib.hid ho
   have hall:h.take k=h:=List.take_of_length_le (by rw [HLEN.out];omega)
   rw [hall] at hs
   have HSK:=Lib.hid hs
   clear ho hs hall
   go_wp2_with fail
   refine⟨rfl,_,results_tmp rfl _ _ _,?_⟩
   exact RetStr.mk HSK.out HOK.out
end Go.Proofs.YtgalfohobgjelaaGreatDoor
namespace Go.Proofs.YtgalfohobgjelaaGreatDoor
open Go.RowKit Go.Shelf
structure RefK (w:World) (R:Nat) (cs:Array Value) (W:World):Prop where
 box:Blk W R tBid cs
 only:Only NoneOf w W
theorem RefK.none_ {w:World} {R:Nat} {cs:Array Value} {W W':World} (h:RefK w R cs W) (ho:Only NoneOf W W'):RefK w R cs W':=⟨h.box.only ho (fun h=>h.elim),h.only.trans ho⟩
theorem wordsN_take {l:List Int} {k:Nat} (h:∀x∈l,In x) (hl:l.length≤1000000):(wordsN (l.take k)).length≤22000000:=by
 have:=wordsN_len (l.take k) (fun x hx=>h x (List.mem_of_mem_take hx))
 rw [List.length_take] at this
 omega
set_option maxRecDepth 100000 in
set_option maxHeartbeats 2000000 in
theorem rencode16_any (d:Bd) (hd:d.Ok) {qA pA:Option Addr} {qk pk:Nat} {w:World} (hq:IntSl w qA d.qc) (hp:IntSl w pA d.pc):
  Calls Tryz.prog 37 #[.agg (bdCells d qA pA qk pk)] w (RetStr (encB d) w):=by
 obtain⟨hid,hqi,hpi,hqt,hpt,hql,hpl⟩:=hd
 obtain⟨R,eR⟩:∃R,R=w.heap.size:=⟨_,rfl⟩
 have hk:RefK w R (bdCells d qA pA qk pk) (w.alloc (.cells (bdCells d qA pA qk pk) tBid)):=⟨by rw [eR];exact Blk.new w _ _,(Only.refl _ _).alloc _⟩
 have HK:=Lib.hid hk
 have HQ:=Lib.hid hq
 have HP:=Lib.hid hp
 have HQI:=Lib.hid hqi
 have HPI:=Lib.hid hpi
 have HER:=Lib.hid eR
 obtain⟨T1,eT1⟩:∃T,T=wBid++ [32] ++Lib.itoa d.bidder++ [10] ++wQuality:=⟨_,rfl⟩
 obtain⟨T2,eT2⟩:∃T,T=T1++wordsN d.qc++ [10] ++hexL d.qt.data.toList++ [10] ++wPrice:=⟨_,rfl⟩
 have li:=itoa_len hid.1 hid.2
 have lT1:T1.length≤33:=by
  rw [eT1]
  have q1:wBid.length=3:=rfl
  have q2:wQuality.length=7:=rfl
  simp only [List.length_append,List.length_singleton]
  omega
 have lw1:=wordsN_take (k:=d.qc.length) hqi hql
 rw [List.take_length] at lw1
 have lT2:T2.length≤24001000:=by
  rw [eT2]
  have q3:wPrice.length=5:=rfl
  simp only [List.length_append,List.length_singleton,hexL_len,←size_list]
  omega
 have HT1:=Lib.hid eT1
 have HT2:=Lib.hid eT2
 clear hk hq hp hqi hpi eR eT1 eT2
 go_enter Tryz.func37,Tryz.ntmps37
 go_wp2_with fail
 rw [←HER.out]
 refine(rdec16_any d.bidder hid _).mono ?_
 rintro e w1 ⟨t1,rfl,ht1,ho1⟩
 have K1:=Lib.hid (HK.out.none_ ho1)
 have l1:t1.size≤21:=by rw [size_list,ht1];exact li
 have a1:¬9223372036854775807<4+t1.size:=by omega
 have a2:¬9223372036854775807<4+t1.size+8:=by omega
 have HT:=Lib.hid ht1
 clear ho1 ht1
 go_wp2_with fail
 go_loopw [3,4] (fun v i wr=> ∃(k:Nat) (s:ByteArray),i= .int .i64 k∧v= .string s∧k≤d.qc.length∧s.data.toList=T1++wordsN (d.qc.take k)∧RefK w R (bdCells d qA pA qk pk) wr) (fun _ i _=>d.qc.length - (intOf i).toNat)
 case atStart=>exact⟨0,_,rfl,rfl,by omega,by rw [HT1.out];simp [HT.out,wordsN,wBid,wQuality],K1.out⟩
 case round=>
  obtain⟨k,s,rfl,rfl,hk,hs,hK⟩:=hrel
  have hsz:s.size≤22000033:=by
   have:=wordsN_take (k:=k) HQI.out hql
   rw [size_list,hs,List.length_append];omega
  have c2:=hK.box.cell 2
  simp only [List.getElem?_toArray,List.getElem?_cons_zero,List.getElem?_cons_succ] at c2
  have HS:=Lib.hid hs
  have HKK:=Lib.hid hK
  clear hs hK
  by_cases hlt:k<d.qc.length
  ·obtain⟨x,hx⟩:∃x,d.qc[k]? =some x:=⟨_,List.getElem?_eq_getElem hlt⟩
   have hxi:=HQI.out x (List.mem_of_getElem? hx)
   obtain⟨g,o,rfl,hc⟩:∃g o,qA=some ⟨g,o,none⟩∧wr.cell? ⟨g,o+k,none⟩=some (.int .i64 x):=by
    rcases HQ.out.none_ HKK.out.only with h|⟨g,o,e,_,hc⟩
    ·rw [h] at hlt;simp at hlt
    ·exact⟨g,o,e,hc k x hx⟩
   have hnx:wordsN (d.qc.take (k+1))=wordsN (d.qc.take k) ++ [32] ++Lib.itoa x:=by rw [List.take_add_one,hx,Option.toList_some,wordsN_snoc]
   have ik:(k:Int) <d.qc.length:=by omega
   have HNX:=Lib.hid hnx
   have a3:¬9223372036854775807<s.size+1:=by omega
   clear hnx hx
   go_wp2_with fail
   refine(rdec16_any x hxi wr).mono ?_
   rintro e w3 ⟨t3,rfl,ht3,ho3⟩
   have K3:=Lib.hid (HKK.out.none_ ho3)
   have l3:t3.size≤21:=by rw [size_list,ht3];exact itoa_len hxi.1 hxi.2
   have a4:¬9223372036854775807<s.size+1+t3.size:=by omega
   have HT3:=Lib.hid ht3
   clear ho3 ht3
   go_wp2_with fail
   go_roundw
   case rel=>exact⟨k+1,_,by go_num,rfl,by omega,by rw [HNX.out];simp [HS.out,HT3.out],K3.out⟩
   case measure=>simp [intOf];omega
  ·have hall:d.qc.take k=d.qc:=List.take_of_length_le (by omega)
   have ik:¬(k:Int) <d.qc.length:=by omega
   have hs2:=HS.out
   rw [hall] at hs2
   have HS2:=Lib.hid hs2
   have c1:=HKK.out.box.cell 1
   simp only [List.getElem?_toArray,List.getElem?_cons_zero,List.getElem?_cons_succ] at c1
   have a3:¬9223372036854775807<s.size+1:=by omega
   clear hall hs2 HS
   go_wp2_with fail
   refine(rhex16_any d.qt hqt wr).mono ?_
   rintro e w3 ⟨t3,rfl,ht3,ho3⟩
   have K3:=Lib.hid (HKK.out.none_ ho3)
   have l3:t3.size≤2000000:=by rw [size_list,ht3,hexL_len,←size_list];omega
   have a4:¬9223372036854775807<s.size+1+t3.size:=by omega
   have a5:¬9223372036854775807<s.size+1+t3.size+6:=by omega
   have HT3:=Lib.hid ht3
   clear ho3 ht3 c1 c2
   go_wp2_with fail
   go_loopw [3,5] (fun v i wr=> ∃(k:Nat) (s:ByteArray),i= .int .i64 k∧v= .string s∧k≤d.pc.length∧s.data.toList=T2++wordsN (d.pc.take k)∧RefK w R (bdCells d qA pA qk pk) wr) (fun _ i _=>d.pc.length - (intOf i).toNat)
   case atStart=>exact⟨0,_,rfl,rfl,by omega,by rw [HT2.out];simp [HT3.out,HS2.out,wordsN,wPrice],K3.out⟩
   case round=>
    clear HKK K3 HS2 hsz a3 a4 a5 l3 HT3 ik K1 HK
    obtain⟨k,s,rfl,rfl,hk,hs,hK⟩:=hrel
    have hsz:s.size≤46001000:=by
     have:=wordsN_take (k:=k) HPI.out hpl
     rw [size_list,hs,List.length_append];omega
    have c4:=hK.box.cell 4
    simp only [List.getElem?_toArray,List.getElem?_cons_zero,List.getElem?_cons_succ] at c4
    have HS:=Lib.hid hs
    have HKK:=Lib.hid hK
    have a3:¬9223372036854775807<s.size+1:=by omega
    clear hs hK
    by_cases hlt:k<d.pc.length
    ·obtain⟨x,hx⟩:∃x,d.pc[k]? =some x:=⟨_,List.getElem?_eq_getElem hlt⟩
     have hxi:=HPI.out x (List.mem_of_getElem? hx)
     obtain⟨g,o,rfl,hc⟩:∃g o,pA=some ⟨g,o,none⟩∧wr.cell? ⟨g,o+k,none⟩=some (.int .i64 x):=by
      rcases HP.out.none_ HKK.out.only with h|⟨g,o,e,_,hc⟩
      ·rw [h] at hlt;simp at hlt
      ·exact⟨g,o,e,hc k x hx⟩
     have hnx:wordsN (d.pc.take (k+1))=wordsN (d.pc.take k) ++ [32] ++Lib.itoa x:=by rw [List.take_add_one,hx,Option.toList_some,wordsN_snoc]
     have ik:(k:Int) <d.pc.length:=by omega
     have HNX:=Lib.hid hnx
     clear hnx hx
     go_wp2_with fail
     refine(rdec16_any x hxi wr).mono ?_
     rintro e w3 ⟨t3,rfl,ht3,ho3⟩
     have K3:=Lib.hid (HKK.out.none_ ho3)
     have l3:t3.size≤21:=by rw [size_list,ht3];exact itoa_len hxi.1 hxi.2
     have a4:¬9223372036854775807<s.size+1+t3.size:=by omega
     have HT3:=Lib.hid ht3
     clear ho3 ht3
     go_wp2_with fail
     go_roundw
     case rel=>exact⟨k+1,_,by go_num,rfl,by omega,by rw [HNX.out];simp [HS.out,HT3.out],K3.out⟩
     case measure=>simp [intOf];omega
    ·have hall:d.pc.take k=d.pc:=List.take_of_length_le (by omega)
     have ik:¬(k:Int) <d.pc.length:=by omega
     have hs2:=HS.out
     rw [hall] at hs2
     have HS2:=Lib.hid hs2
     have c3:=HKK.out.box.cell 3
     simp only [List.getElem?_toArray,List.getElem?_cons_zero,List.getElem?_cons_succ] at c3
     clear hall hs2 HS
     go_wp2_with fail
     refine(rhex16_any d.pt hpt wr).mono ?_
     rintro e w3 ⟨t3,rfl,ht3,ho3⟩
     have K3:=Lib.hid (HKK.out.none_ ho3)
     have l3:t3.size≤2000000:=by rw [size_list,ht3,hexL_len,←size_list];omega
     have a4:¬9223372036854775807<s.size+1+t3.size:=by omega
     have a5:¬9223372036854775807<s.size+1+t3.size+1:=by omega
     have HT3:=Lib.hid ht3
     clear ho3 ht3 c3 c4
     go_wp2_with fail
     refine⟨rfl,_,results_tmp rfl _ _ _,?_⟩
     refine RetStr.mk ?_ K3.out.only
     have e2:=HS2.out
     have e3:=HT3.out
     simp only [ByteArray.data_append,Array.toList_append,e2,e3]
     rw [HT2.out,HT1.out]
     have i1:wordsN [d.bidder]=32::Lib.itoa d.bidder:=by simp [wordsN]
     have i0:wordsN []= []:=rfl
     unfold encB lineL
     rw [i1,i0]
     simp only [List.append_assoc,List.cons_append,List.nil_append,List.append_nil]
end Go.Proofs.YtgalfohobgjelaaGreatDoor
namespace Go.Proofs.YtgalfohobgjelaaGreatDoor
open Go.RowKit Go.Shelf
theorem mod04_any (n m:Int) (_hn:In n) (hm:0<m) (hm2:m≤2000000000000000000) (w:World):Calls Tryz.prog 16 #[.int .i64 n,.int .i64 m] w fun e w'=>e= .returned (.int .i64 (n % m))∧w'=w:=by
 obtain⟨r,er⟩:∃r,r=n.tmod m:=⟨_,rfl⟩
 have hr1: -m<r∧r<m:=by
  rw [er];exact⟨Int.lt_tmod_of_pos n hm,Int.tmod_lt_of_pos n hm⟩
 have hr2:n % m=if r<0 then r+m else r:=by
  rw [er,Int.tmod_eq_emod]
  have:=Int.emod_nonneg n (show m≠0 by omega)
  have:=Int.emod_lt_of_pos n hm
  have hab:(m.natAbs:Int)=m:=by omega
  split<;>split<;>omega
 have hr3:(r+m).tmod m=n % m:=by
  rw [Int.tmod_eq_emod_of_nonneg (by omega),hr2]
  split
  ·exact Int.emod_eq_of_lt (by omega) (by omega)
  ·rw [Int.add_emod_right];exact Int.emod_eq_of_lt (by omega) (by omega)
 have hr4:0≤n % m∧n % m<m:=⟨Int.emod_nonneg n (by omega),Int.emod_lt_of_pos n hm⟩
 obtain⟨g,eg⟩:∃g,g=n % m:=⟨_,rfl⟩
 rw [←eg] at hr3 hr4⊢
 have e1:IntKind.i64.wrap (n.tmod m)=r:=by rw [←er];exact IntWalk.i64_in _ (by omega)
 have e2:IntKind.i64.wrap (r+m)=r+m:=IntWalk.i64_in _ (by omega)
 have e3:IntKind.i64.wrap ((r+m).tmod m)=g:=by rw [hr3];exact IntWalk.i64_in _ (by omega)
 have e4:IntKind.i64.wrap r=r:=IntWalk.i64_in _ (by omega)
 have e5:IntKind.i64.wrap g=g:=IntWalk.i64_in _ (by omega)
 have e0:¬m=0:=by omega
 have er':=er.symm
 clear eg er hr2 hr1 hr4 hm hm2
 go_enter Tryz.func16,Tryz.ntmps16
 go_wp2_with fail
 exact⟨rfl,_,results_tmp rfl _ _ _,rfl,rfl⟩
theorem in4:In 4:=by unfold In;constructor<;>omega
theorem in60:In 60:=by unfold In;constructor<;>omega
theorem bidW_ok (n:Int):(bidW n).Ok:=by
 refine⟨in60,fun x hx=> ?_,fun x hx=>by simp [bidW] at hx,by show 2≤1000000;omega,by show 0≤1000000;omega,by simp [bidW],by simp [bidW]⟩
 simp only [bidW,List.mem_singleton] at hx
 subst hx
 exact in4
set_option maxRecDepth 100000 in
set_option maxHeartbeats 1000000 in
theorem rbid31_any (n:Int) (hn:In n) (w:World):Calls Tryz.prog 31 #[.int .i64 n] w fun e w'=> ∃A,e= .returned (.agg (bdCells (bidW n) A none 1 0))∧IntSl w' A [4]∧Only NoneOf w w':=by
 have hmd:∀W,Calls Tryz.prog 16 #[.int .i64 n,.int .i64 4] W fun e w'=>e= .returned (.int .i64 (n % 4))∧w'=W:=fun W=>mod04_any n 4 hn (by omega) (by omega) W
 obtain⟨q,eq⟩:∃q:Nat,q=(n % 4).toNat:=⟨_,rfl⟩
 have hq:n % 4=(q:Int):=by omega
 have hq4:q<4:=by omega
 rw [hq] at hmd
 obtain⟨c,ec⟩:∃c,c=UInt8.ofNat (97+q):=⟨_,rfl⟩
 have hc:(c.toNat:Int)=97+ (q:Int):=by rw [ec];simp [UInt8.toNat_ofNat];omega
 have hqt:(bidW n).qt=⟨#[113]⟩ ++ ⟨#[c]⟩:=by
  show(⟨#[113,UInt8.ofNat (97+ (n % 4).toNat)]⟩:ByteArray)=_
  rw [←eq,←ec];rfl
 have w1:IntKind.i64.wrap (97+ (q:Int))=(c.toNat:Int):=by rw [←hc];exact IntWalk.i64_in _ (by have:=c.toNat_lt;omega)
 have w2:IntKind.u8.wrap (c.toNat:Int)=(c.toNat:Int):=by have:=c.toNat_lt;rw [IntKind.wrap_u8];omega
 have w3:(c.toNat:Int) % 256=(c.toNat:Int):=by have:=c.toNat_lt;omega
 have L1:(⟨[c].toArray⟩:ByteArray).size=1:=rfl
 have HMD:=Lib.hid hmd
 have HQT:=Lib.hid hqt
 unfold bdCells
 rw [hqt]
 clear hmd hq eq hc ec hqt
 have tok:True:=trivial
 have hby:BytesAt ((w.alloc (.cells #[.int .i64 0,.string ⟨#[]⟩,.slice none 0 0,.string ⟨#[]⟩,.slice none 0 0] tBid)).alloc (.cells #[.int .u8 (c.toNat:Int)] 5)) (w.heap.size+1) 0 [c]:=by
  have h:=blk_bytes (Blk.new (w.alloc (.cells #[.int .i64 0,.string ⟨#[]⟩,.slice none 0 0,.string ⟨#[]⟩,.slice none 0 0] tBid)) 5 ([c].map bv).toArray)
  rw [World.size_alloc] at h
  exact h
 have HBY:=Lib.hid hby
 clear hby
 go_enter Tryz.func31,Tryz.ntmps31
 go_wp2_with fail
 refine(HMD.out _).mono ?_
 rintro e1 v1 ⟨rfl,rfl⟩
 go_wp2_with (have _t:=tok;refine wpList_convert_back rfl 22 9 5 (.tmp 7) rfl (w.heap.size+1) 0 1 1 rfl [c] rfl HBY.out Tryz.underlying22 Tryz.underlying5 Tryz.underlying9 ?_;clear tok _t)
 have hinf:(Tryz.prog.info? tBid).map (·.size)=some 5:=by kernel_rfl
 refine bodyPost_ret (v:= .agg #[.int .i64 60,.string ((⟨#[113]⟩:ByteArray) ++ ⟨#[c]⟩),.slice (some ⟨w.heap.size+1+1,0,none⟩) 1 1,.string ⟨#[]⟩,.slice none 0 0]) (results_blk rfl rfl (((Blk.new w _ _).alloc _).alloc _) Tryz.underlying75 rfl (by simpa using hinf)) rfl ⟨some ⟨w.heap.size+1+1,0,none⟩,rfl,?_,(((Only.refl _ _).alloc _).alloc _).alloc _⟩
 refine .inr ⟨w.heap.size+1+1,0,rfl,by simp,fun j x hx=> ?_⟩
 match j,hx with
 |0,hx=>
  simp only [List.getElem?_cons_zero,Option.some.injEq] at hx
  subst hx
  have h:=Blk.new ((w.alloc (.cells #[.int .i64 60,.string ((⟨#[113]⟩:ByteArray) ++ ⟨#[c]⟩),.slice (some ⟨w.heap.size+1+1,0,none⟩) 1 1,.string ⟨#[]⟩,.slice none 0 0] tBid)).alloc (.cells #[.int .u8 (c.toNat:Int)] 5)) 3 #[.int .i64 4]
  rw [World.size_alloc,World.size_alloc] at h
  exact h.cell 0
end Go.Proofs.YtgalfohobgjelaaGreatDoor
namespace Go.Proofs.YtgalfohobgjelaaGreatDoor
open Go.RowKit Go.Shelf
attribute [local go_sem ↓ high] suStore_eq
abbrev tWd:TypeId:=24
abbrev wdC (d:Wd) (kA:Option Addr) (kc:Nat):Array Value:= #[.int .u8 (d.off:Int),.slice kA d.kinds.length kc,.int .u8 (d.fork:Int)]
noncomputable def setI (d:Wd) (m:Nat):List Pers:=setB d.n++ (List.range m).map (fun j=>bidder (60+j))
theorem setI_snoc (d:Wd) (m:Nat):setI d (m+1)=setI d m++ [bidder (60+m)]:=by simp [setI,List.range_succ]
theorem setI_two (d:Wd):setI d 2=setW d:=by simp [setI,setW,List.range_succ]
theorem setI_len (d:Wd) (m:Nat):(setI d m).length=d.n+1+m:=by simp [setI,setB_len]
structure StW (w:World) (R V:Nat) (d:Wd) (m:Nat) (pv:Value) (W:World):Prop where
 res:Blk W R tSu #[.slice none 0 0,.int .i64 0,.slice none 0 0,.slice none 0 0,.int .i64 0,.int .i64 0]
 st:Blk W V tSu #[pv,.int .i64 0,.slice none 0 0,.slice none 0 0,.int .i64 0,.int .i64 0]
 own:PerOwn W w.heap.size pv (d.n+1+m) (setI d m)
 only:Only NoneOf w W
set_option maxRecDepth 100000 in
set_option maxHeartbeats 4000000 in
theorem wsetup_own (d:Wd) (hd:d.Ok) (kA:Option Addr) (kc:Nat) (w:World):Calls Tryz.prog 18 #[.agg (wdC d kA kc)] w fun e' w'=> ∃pv,e'= .returned (setV pv)∧PerOwn w' w.heap.size pv (setW d).length (setW d)∧Only NoneOf w w':=by
 obtain⟨ie,z,hie,hsz,hz,hzc,hby⟩:=pers_info3
 have ho:=hd.off
 have hno:nOff (1+ (d.off:Int) % 7)=d.n:=by unfold nOff Wd.n;omega
 have hsu:∀W,Calls Tryz.prog 44 #[.int .i64 (1+ (d.off:Int) % 7),.bool false] W fun e' w'=> ∃pv,e'= .returned (setV pv)∧PerOwn w' W.heap.size pv (d.n+1) (setB d.n)∧Only NoneOf W w':=fun W=>by
  have h:=setup_own (1+ (d.off:Int) % 7) ⟨by omega,by omega⟩ W
  rw [hno] at h
  exact h
 have HSU:=Lib.hid hsu
 have HIE:=Lib.hid hie
 have HSZ:=Lib.hid hsz
 have HZ:=Lib.hid hz
 have HZC:=Lib.hid hzc
 have HBY:=Lib.hid hby
 clear hsu hie hsz hz hzc hby hno
 obtain⟨R,eR⟩:∃R,R=w.heap.size+1:=⟨_,rfl⟩
 have HER:=Lib.hid eR
 have hwR1:w.heap.size≤R:=by omega
 have hres0:Blk ((w.alloc (.cells (wdC d kA kc) tWd)).alloc (.cells #[.slice none 0 0,.int .i64 0,.slice none 0 0,.slice none 0 0,.int .i64 0,.int .i64 0] tSu)) R tSu #[.slice none 0 0,.int .i64 0,.slice none 0 0,.slice none 0 0,.int .i64 0,.int .i64 0]:=by
  have h:=Blk.new (w.alloc (.cells (wdC d kA kc) tWd)) tSu #[.slice none 0 0,.int .i64 0,.slice none 0 0,.slice none 0 0,.int .i64 0,.int .i64 0]
  rw [World.size_alloc,←eR] at h
  exact h
 have hon0:Only NoneOf w ((w.alloc (.cells (wdC d kA kc) tWd)).alloc (.cells #[.slice none 0 0,.int .i64 0,.slice none 0 0,.slice none 0 0,.int .i64 0,.int .i64 0] tSu)):=((Only.refl _ _).alloc _).alloc _
 have HRES0:=Lib.hid hres0
 have HON0:=Lib.hid hon0
 clear eR hres0 hon0
 go_enter Tryz.func18,Tryz.ntmps18
 go_wp2_with fail
 refine(HSU.out _).mono ?_
 rintro e1 w1 ⟨pv0,rfl,hpo,hon⟩
 unfold setV
 obtain⟨pA0,pcap0,rfl,hcc0,hcm0⟩:=own_form' hpo
 rw [←HER.out]
 obtain⟨V,eV⟩:∃V,V=w1.heap.size:=⟨_,rfl⟩
 have hszw:w.heap.size+2≤w1.heap.size:=by have:=hon.size;simp at this;omega
 have hst0:Blk (w1.alloc (.cells #[.slice none 0 0,.int .i64 0,.slice none 0 0,.slice none 0 0,.int .i64 0,.int .i64 0] tSu)) V tSu #[.slice none 0 0,.int .i64 0,.slice none 0 0,.slice none 0 0,.int .i64 0,.int .i64 0]:=by rw [eV];exact Blk.new w1 _ _
 have hsr:=su_store (n:=d.n+1) (c:=pcap0) (A:=pA0) hst0 rfl
 obtain⟨X,eX⟩:∃X,X=(w1.alloc (.cells #[.slice none 0 0,.int .i64 0,.slice none 0 0,.slice none 0 0,.int .i64 0,.int .i64 0] tSu)).setCells V 0 [.slice pA0 (d.n+1) pcap0,.int .i64 0,.slice none 0 0,.slice none 0 0,.int .i64 0,.int .i64 0]:=⟨_,rfl⟩
 have hRV:R≠V:=by have:=HER.out;omega
 have hwV:w.heap.size≤V:=by omega
 have hX:StW w R V d 0 (.slice pA0 (d.n+1) pcap0) X:=by
  have hbase:(w1.alloc (.cells #[.slice none 0 0,.int .i64 0,.slice none 0 0,.slice none 0 0,.int .i64 0,.int .i64 0] tSu)).ownsRow w.heap.size 67 3 (.slice pA0 (d.n+1) pcap0) (d.n+1) ((setB d.n).flatMap persC):=by
   have h:=World.ownsRow.alloc hpo (.cells #[.slice none 0 0,.int .i64 0,.slice none 0 0,.slice none 0 0,.int .i64 0,.int .i64 0] tSu)
   obtain⟨hl,h⟩:=h
   refine⟨hl,?_⟩
   rcases h with h|⟨g,cap,cur,e1,e2,r⟩
   ·exact .inl h
   ·exact .inr ⟨g,cap,cur,e1,by simp at e2;omega,r⟩
  have hvne:(Value.slice pA0 (d.n+1) pcap0).ownBlock≠some V:=own_blk_ne hbase hst0 (by decide)
  refine⟨?_,?_,?_,?_⟩
  ·rw [eX]
   exact Blk.farCells hRV _ 0 ((HRES0.out.only hon (fun h=>h.elim)).alloc _)
  ·rw [eX];exact filled_whole hst0 rfl
  ·rw [eX]
   have hi:setI d 0=setB d.n:=by simp [setI]
   unfold PerOwn
   rw [hi]
   exact own_only hbase (only_setCells (S:=fun k=>k=V) (Only.refl _ _) V 0 (.inl rfl) _) (fun k hk e=>hvne (by rw [hk,e]))
  ·rw [eX];exact only_setCells ((HON0.out.trans hon).alloc _) V 0 (.inr hwV) _
 rw [eV] at hsr
 have HX:=Lib.hid hX
 have HEX:=Lib.hid eX
 have HEV:=Lib.hid eV
 clear hpo hon hX eX eV hst0 HSU HRES0 HON0 hcc0 hcm0
 go_upto_region 2 with(fail)
 clear hsr
 rw [←HEV.out,←HEX.out]
 refine wp_gen (StW w R V d 0 (.slice pA0 (d.n+1) pcap0)) HX.out ?_
 intro Y hY
 have HY:=Lib.hid hY
 clear hY HX
 go_wp2_with fail
 go_loopw [4] (fun i wr=> ∃(m:Nat) (pv:Value),i= .int .i64 ((60+m:Nat):Int)∧m≤2∧StW w R V d m pv wr) (fun i _=>62 - (intOf i).toNat)
 case atStart=>exact⟨0,_,rfl,by omega,HY.out⟩
 case round=>
  obtain⟨m,pv,rfl,hm2,hS⟩:=hrel
  obtain⟨k,ek⟩:∃k:Nat,k=60+m:=⟨_,rfl⟩
  rw [←ek]
  have hdn:d.n≤7:=by unfold Wd.n;omega
  obtain⟨N,eN⟩:∃N,N=d.n+1+m:=⟨_,rfl⟩
  have hN:N≤10:=by omega
  by_cases hlt:m<2
  ·have hle:(k:Int) <62:=by omega
   obtain⟨pk,epk⟩:∃x:Int,x=(pub (secI k):Int):=⟨_,rfl⟩
   have hpc:persC (bidder k)= [.int .i64 (k:Int),.int .i64 4,.int .i64 pk]:=by rw [epk];rfl
   have hsec:∀W,Calls Tryz.prog 39 #[.int .i64 (k:Int)] W fun e' w'=>e'= .returned (.int .i64 (secI (k:Int)))∧w'=W:=fun W=>secret_any (k:Int) (by omega) (by omega) W
   have hpub:∀W,Calls Tryz.prog 45 #[.int .i64 (secI (k:Int))] W fun e' w'=>e'= .returned (.int .i64 pk)∧w'=W:=fun W=>by rw [epk];exact rpub_any _ W
   have hcells:(setI d (m+1)).flatMap persC=(setI d m).flatMap persC++ [.int .i64 (k:Int),.int .i64 4,.int .i64 pk]:=by
    rw [setI_snoc,List.flatMap_append,List.flatMap_cons,List.flatMap_nil,List.append_nil,←ek,hpc]
   have c0:wr.cell? ⟨V,0,none⟩=some pv:=hS.st.cell 0
   have hSo:=hS.own
   rw [←eN] at hSo
   have HS:=Lib.hid hS
   have HSO:=Lib.hid hSo
   have HSEC:=Lib.hid hsec
   have HPUB:=Lib.hid hpub
   have HCELLS:=Lib.hid hcells
   have hall:∀o,((wr.alloc o).drew).ownsRow w.heap.size 67 3 pv N ((setI d m).flatMap persC):=fun o=>World.ownsRow.alloc HSO.out o
   have hne:pv.ownBlock≠some V:=own_blk_ne HSO.out HS.out.st (by decide)
   have hneR:pv.ownBlock≠some R:=own_blk_ne HSO.out HS.out.res (by decide)
   have hgr:∀o w1,(((wr.alloc o).drew).grownBy w1 pv.ownBlock)→Blk w1 V tSu #[pv,.int .i64 0,.slice none 0 0,.slice none 0 0,.int .i64 0,.int .i64 0]∧Blk w1 R tSu #[.slice none 0 0,.int .i64 0,.slice none 0 0,.slice none 0 0,.int .i64 0,.int .i64 0]∧Only NoneOf w w1:=fun o w1 hg=>
    ⟨((HS.out.st.alloc o).drew).grown hg (Ne.symm hne),((HS.out.res.alloc o).drew).grown hg (Ne.symm hneR),((HS.out.only.alloc o).drew).grown hg (fun j e=> .inr (own_ge HSO.out e).1)⟩
   have HALL:=Lib.hid hall
   have HGR:=Lib.hid hgr
   have HSZZ:=Lib.hid HS.out.only.size
   have ca:∀o,(wr.alloc o).cell? ⟨V,0,none⟩=some pv:=fun o=> (HS.out.st.alloc o).cell 0
   have HEK:=Lib.hid ek
   have HEN:=Lib.hid eN
   have hk62:k≤62:=by omega
   have HM:=Lib.hid hlt
   clear hS hSo hsec hpub hcells hpc hall hne hneR hgr epk ek eN hlt hm2
   go_upto_region 5 with(fail)
   go_region_law (first
    |(refine step_append_lies _ (by rfl) _ _ _ (by rfl) w.heap.size 67 ie z 3 24 Tryz.underlying46 HIE.out HZ.out HSZ.out HBY.out HZC.out (by omega) pv N ((setI d m).flatMap persC) (by rfl) (HALL.out _) ⟨wr.heap.size,0,none⟩ 1 1 [.int .i64 (k:Int),.int .i64 4,.int .i64 pk] (by rfl) (by rfl) (World.news_of_block (cs:= #[.int .i64 (k:Int),.int .i64 4,.int .i64 pk]) (t:=67) (fr:=(0,0)) (heap_alloc_new wr _)) (by simp [Value.oneCell']) (by omega) (by rw [maxLen_val];omega) (by omega) (by have:=HSZZ.out;simp;omega) (wr.heap.size+1) (by simp) ?_;intro g cap w1 hown1 hgrow hat hlt1;have hb1:=HGR.out _ w1 hgrow;have hf1:=hb1.1.frozen 0;have hc1:=hb1.1.cell 0;simp only [List.getElem?_toArray,List.getElem?_cons_zero] at hc1)
    |(go_simp;go_at_call 39;refine(HSEC.out _).mono ?_;rintro e1 w3 ⟨rfl,rfl⟩)
    |(go_simp;go_at_call 45;refine(HPUB.out _).mono ?_;rintro e2 w2 ⟨rfl,rfl⟩))
   all_goals
    have hgne:(Value.slice (some ⟨g,0,none⟩) (N+1) cap).ownBlock≠some V:=own_blk_ne hown1 hb1.1 (by decide)
    have hnew:StW w R V d (m+1) (.slice (some ⟨g,0,none⟩) (N+1) cap) (w1.setCell ⟨V,0,none⟩ (.slice (some ⟨g,0,none⟩) (N+1) cap)):=by
     refine⟨Blk.far (p:=⟨V,0,none⟩) hb1.2.1 hRV _,Blk.set_ hb1.1 0 _,?_,hb1.2.2.setCell (p:=⟨V,0,none⟩) (.inr hwV) _⟩
     unfold PerOwn
     rw [HCELLS.out,show d.n+1+ (m+1)=N+1 by have:=HEN.out;omega]
     exact own_far hown1 (p:=⟨V,0,none⟩) hgne _
    have HNEW:=Lib.hid hnew
    clear hb1 hgne hnew hown1 hgrow hat hlt1 hf1 hc1 ca c0
    go_wp2_with fail
    go_roundw
    case rel=>exact⟨m+1,_,by have:=HEK.out;go_num,by have:=HM.out;omega,HNEW.out⟩
    case measure=>simp [intOf];omega
  ·obtain rfl:m=2:=by omega
   have hle:¬(k:Int) <62:=by omega
   have hown:=hS.own
   rw [←eN] at hown
   obtain⟨pA,pcap,rfl,_,_⟩:=own_form' hown
   have r0:=hS.res.cell 0
   have r1:=hS.res.cell 1
   have r2:=hS.res.cell 2
   have r3:=hS.res.cell 3
   have r4:=hS.res.cell 4
   have r5:=hS.res.cell 5
   have c0:=hS.st.cell 0
   have c1:=hS.st.cell 1
   have c2:=hS.st.cell 2
   have c3:=hS.st.cell 3
   have c4:=hS.st.cell 4
   have c5:=hS.st.cell 5
   simp only [List.getElem?_toArray,List.getElem?_cons_zero,List.getElem?_cons_succ] at c0 c1 c2 c3 c4 c5 r0 r1 r2 r3 r4 r5
   have hinf:(Tryz.prog.info? tSu).map (·.size)=some 6:=by kernel_rfl
   have hb2:Blk (wr.setCells R 0 [.slice pA N pcap,.int .i64 0,.slice none 0 0,.slice none 0 0,.int .i64 0,.int .i64 0]) R tSu #[.slice pA N pcap,.int .i64 0,.slice none 0 0,.slice none 0 0,.int .i64 0,.int .i64 0]:=filled_whole hS.res rfl
   have hst:=su_store (n:=N) (c:=pcap) (A:=pA) hS.res rfl
   have ho2:Only NoneOf w (wr.setCells R 0 [.slice pA N pcap,.int .i64 0,.slice none 0 0,.slice none 0 0,.int .i64 0,.int .i64 0]):=only_setCells hS.only R 0 (.inr hwR1) _
   have hsl2:PerOwn (wr.setCells R 0 [.slice pA N pcap,.int .i64 0,.slice none 0 0,.slice none 0 0,.int .i64 0,.int .i64 0]) w.heap.size (.slice pA N pcap) (setW d).length (setW d):=by
    have h1:=own_blk_ne hown hS.res (by decide)
    have h2:PerOwn (wr.setCells R 0 [.slice pA N pcap,.int .i64 0,.slice none 0 0,.slice none 0 0,.int .i64 0,.int .i64 0]) w.heap.size (.slice pA N pcap) N (setI d 2):=
     own_only hown (only_setCells (S:=fun k=>k=R) (Only.refl _ _) R 0 (.inl rfl) _) (fun k hk e=>h1 (by rw [hk,e]))
    rw [←setI_two]
    rw [setI_len,←eN];exact h2
   have HB2:=Lib.hid hb2
   have HO2:=Lib.hid ho2
   have HSL:=Lib.hid hsl2
   have HI:=Lib.hid hinf
   clear hS hsl2 hb2 ho2 hinf hown eN hlt hm2
   go_wp2_with fail
   refine bodyPost_ret (v:= .agg #[.slice pA N pcap,.int .i64 0,.slice none 0 0,.slice none 0 0,.int .i64 0,.int .i64 0]) (results_blk rfl rfl HB2.out Tryz.underlying50 rfl (by simpa using HI.out)) rfl ⟨_,rfl,HSL.out,HO2.out⟩
theorem wsetup_any (d:Wd) (hd:d.Ok) (kA:Option Addr) (kc:Nat) (w:World):Calls Tryz.prog 18 #[.agg (wdC d kA kc)] w fun e' w'=> ∃pv,e'= .returned (setV pv)∧PerSl w' pv (setW d)∧Only NoneOf w w':=
 (wsetup_own d hd kA kc w).mono (fun _ _ ⟨pv,h1,h2,h3⟩=> ⟨pv,h1,PerOwn.sl h2,h3⟩)
end Go.Proofs.YtgalfohobgjelaaGreatDoor
