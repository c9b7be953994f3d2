/-What is proved here:several parts. the writer of bids writes a line,and changes no block but its own and its buffer,which it tells by their types. Conditions:the texts are short,the ints lie in a block of ints. · a quality text,by the bids' code. Conditions:the text is short,the numbers are ints. -/
import Derived.Test.YtpdlbmieciabmaaGreatDoorPk13
import Derived.Test.YtpdlbmieciabmaaGreatDoorPk14
import Derived.Test.YtpdlbmieciabmaaGreatDoorPk16
namespace Go.Proofs.YtpdlbmieciabmaaGreatDoor
open Go.RowKit Go.Shelf
def US(C b:Nat)(w:World):Nat→Prop:=fun k=>k=b∨(C≤k∧∀t cur,Blk w k t cur→t=5)
theorem us_trans{C b:Nat}{w w1 w2:World}(h:Only (US C b w) w w1)(k:Only (US C b w1) w1 w2):Only (US C b w) w w2:=by
 refine⟨k.os.trans h.os,k.tape.trans h.tape,k.output.trans h.output,Nat.le_trans h.size k.size,fun i hi hn=> ?_⟩
 have e:=h.block i hi hn
 refine(k.block i (Nat.lt_of_lt_of_le hi h.size) (fun hs=>hn ?_)).trans e
 rcases hs with hs|⟨hs,ht⟩
 ·exact .inl hs
 ·exact .inr ⟨hs,fun t cur hb=>ht t cur (e.trans hb)⟩
theorem us_none{C b:Nat}{w w1 w2:World}(h:Only (US C b w) w w1)(k:Only NoneOf w1 w2):Only (US C b w) w w2:=us_trans h (k.mono (fun _ _ e=>e.elim))
theorem us_ws{C b:Nat}{w w' :World}(h:Only (US C b w) w w'):Only (WS C b) w w' :=h.mono (fun _ _ hk=>hk.imp id (fun h=>h.1))
theorem Blk.us{C b g:Nat}{t:TypeId}{cur:Array Value}{w w' :World}(h:Blk w g t cur)(ho:Only (US C b w) w w')(hb:g≠b)(ht:t≠5):Blk w' g t cur:=h.only ho (fun hs=>by
 rcases hs with hs|⟨_,hs⟩
 ·exact hb hs
 ·exact ht (hs t cur h))
set_option maxRecDepth 100000 in
set_option maxHeartbeats 400000 in
theorem ccheckU{C b:Nat}{l:List UInt8}{w:World}(h:WBu C b l w):
  Calls Tryz.prog 103 #[.pointer (some ⟨b,0,none⟩)] w fun e w' =>e= .returned (.tuple #[])∧WB C b (selfP b) l w'∧Only (US C b w) w w' :=by
 obtain⟨j,hj,hjs⟩:=Option.map_eq_some_iff.1 size_builder
 rcases h with h0|h0
 ·have h:=h0.at_
  have c0:=h.cell0
  have f0:=h.frozen0
  have hsh:=h.shape
  have hto:=fun W (hW:World.shape? W b=some (104,2))=>Lib.run_to_unsafe (P:=Tryz.prog) W ⟨b,0,none⟩ Tryz.underlying99 Tryz.underlying190 hj (by rw[hjs];decide) hW (Nat.zero_lt_succ 1)
  have hfr:=Lib.run_from_unsafe (P:=Tryz.prog) w ⟨b,0,none⟩ Tryz.underlying190 Tryz.underlying99 hj hsh lies_writer
  have h1:=hto w hsh
  have HH:=Lib.hid h0
  clear h hto hsh h0
  go_enter Tryz.func103,Tryz.ntmps103
  go_wp2_with fail
  rw[run_callFunc_extern Tryz.func127 (by kernel_rfl) (by kernel_rfl) (by kernel_rfl) (e:=Extern.AbiNoEscape.same) (by kernel_rfl)]
  rw[Lib.run_noEscape]
  simp only[Result.andThen]
  rw[Oper.upon_value]
  go_wp2_with fail
  go_end0
  exact⟨rfl,HH.out.put,(Only.refl _ _).setCell (p:=⟨b,0,none⟩) (.inl (.inl rfl)) _⟩
 ·have c0:=h0.at_.cell0
  have hne:=Lib.run_neq_ptr_same (P:=Tryz.prog) w ⟨b,0,none⟩ Tryz.underlying99 hj
  have HH:=Lib.hid h0
  clear h0
  go_enter Tryz.func103,Tryz.ntmps103
  go_wp2_with fail
  go_end0
  exact⟨rfl,HH.out,Only.refl _ _⟩
set_option maxRecDepth 100000 in
set_option maxHeartbeats 400000 in
theorem wwriteU{C b:Nat}{l:List UInt8}{s:ByteArray}{w:World}(h:WBu C b l w)(hlen:l.length+s.size≤140737488355328):
  Calls Tryz.prog 65 #[.pointer (some ⟨b,0,none⟩),.string s] w fun e w' =>e= .returned (.tuple #[.int .i64 s.size,.nilIface])∧WB C b (selfP b) (l++s.data.toList) w'∧Only (US C b w) w w' :=by
 obtain⟨i0,hi,hz0,hz1,hz2⟩:=info_parts Tryz.info5
 have H:=Lib.hid h
 clear h
 go_enter Tryz.func65,Tryz.ntmps65
 go_wp2_with fail
 refine(ccheckU H.out).mono ?_
 rintro e w1 ⟨rfl,h1,hb1⟩
 obtain⟨hbC,hCs,v,hbk,hown⟩:=h1
 have c1:w1.cell? ⟨b,1,none⟩=some v:=hbk.cell 1
 have hne:v.ownBlock≠some b:=fun e=>by have:=(own_ge hown e).1;omega
 have HBK:=Lib.hid hbk
 have HOWN:=Lib.hid hown
 have HNE:=Lib.hid hne
 have HB1:=Lib.hid hb1
 clear hbk hown hne hb1
 go_wp2_with (at_builtin;refine Lib.wpList_append_own_string _ rfl _ _ 100 9 rfl C 5 i0 Tryz.underlying100 Tryz.underlying9 hi hz0 hz1 hz2 _ _ _ rfl HOWN.out s rfl (by unfold maxLen;omega) (by omega) (by omega) ?_;intro v' w2 hown' hgrow _;have hb2:Blk w2 b tWr #[selfP b,v]:=HBK.out.grown hgrow (fun e=>HNE.out e.symm);obtain⟨ao,cap,hv',hcc,hcm⟩:=own_form' hown';subst hv';have d1:=hb2.cell 1;have f1:=hb2.frozen 1;have HB2:=Lib.hid hb2;have HOW2:=Lib.hid hown';have HGR:=Lib.hid hgrow;clear hb2 hown' hgrow)
 go_ret2
 refine⟨rfl,?_,?_⟩
 ·have hw:=HOW2.out
  have hne2:(Value.slice ao (l.length+s.size) cap).ownBlock≠some b:=fun e=>by have:=(own_ge hw e).1;omega
  refine⟨hbC,by have:=HGR.out.size;simp;omega,_,Blk.set_ HB2.out 1 _,?_⟩
  have e:Lib.byteCells (l++s.data.toList)=Lib.byteCells l++Lib.strCells s:=by simp[Lib.byteCells,Lib.strCells]
  rw[List.length_append,e,←size_list]
  exact own_far hw (p:=⟨b,1,none⟩) hne2 _
 ·refine us_trans HB1.out (((Only.refl (US C b w1) w1).grown HGR.out (fun k hk=> .inl (.inr ⟨(own_ge HOWN.out hk).1,fun t cur hb=> ?_⟩))).setCell (p:=⟨b,1,none⟩) (.inl (.inl rfl)) _)
  obtain⟨cur',hb'⟩:=own_there HOWN.out hk
  exact hb.ty hb'
def IntsU(b:Nat)(A:Option Addr)(ns:List Int)(w:World):Prop:=ns=[]∨∃g o cur,A=some ⟨g,o,none⟩∧g≠b∧Blk w g 3 cur∧∀(j:Nat) (x:Int),ns[j]? =some x→w.cell? ⟨g,o+j,none⟩=some (.int .i64 x)
theorem IntsU.keep{C b:Nat}{A:Option Addr}{ns:List Int}{w w' :World}(h:IntsU b A ns w)(ho:Only (US C b w) w w'):IntsU b A ns w' :=by
 rcases h with h|⟨g,o,cur,hA,h1,h2,h3⟩
 ·exact .inl h
 ·have h4:=h2.us ho h1 (by decide)
  refine .inr ⟨g,o,cur,hA,h1,h4,fun j x hx=> ?_⟩
  have e:=h3 j x hx
  rw[h2.cell] at e
  rw[h4.cell]
  exact e
set_option maxRecDepth 100000 in
set_option maxHeartbeats 1000000 in
theorem lineU_any{C b:Nat}{l:List UInt8}(word:ByteArray)(hwd:word.size≤100000000){A:Option Addr}{cap:Nat}{ns:List Int}{w:World}(h:WBu C b l w)(hns:ns.length≤100000000)(hin:∀x∈ns,In x)(hA:IntsU b A ns w)(ht:Tab w)(hgb:3<b)(hlen:l.length≤1000000000):
  Calls Tryz.prog 37 #[.pointer (some ⟨b,0,none⟩),.string word,.slice A ns.length cap] w fun e w' =>e= .returned (.tuple #[])∧WB C b (selfP b) (l++lineL word.data.toList ns) w'∧Only (US C b w) w w' :=by
 have hmf:∀(fn:Fn) (first cap:Array Value) (w:World),(Instr.makeFunc fn first cap).run Tryz.prog w= .ok (.func fn first cap) w:=fun _ _ _ _=>rfl
 have hbC:b<C:=by rcases h with h|h<;>exact h.1
 have H:=Lib.hid h
 have q32:(⟨#[32]⟩:ByteArray).size =1:=rfl
 have q10:(⟨#[10]⟩:ByteArray).size =1:=rfl
 have HIN:=Lib.hid hin
 have HA:=Lib.hid hA
 have HT:=Lib.hid ht
 have hwl:word.data.toList.length=word.size:=by rw[size_list]
 clear h hin hA ht
 go_enter Tryz.func37,Tryz.ntmps37
 go_wp2_with fail
 refine(wwriteU H.out (by omega)).mono ?_
 rintro e w1 ⟨rfl,h1,ho1⟩
 have H1:=Lib.hid h1
 have HO1:=Lib.hid ho1
 clear h1 ho1
 go_wp2_with fail
 go_loopw [18] (fun i wr=>∃k:Nat,i= .int .i64 k∧k≤ns.length∧WB C b (selfP b) (l++(word.data.toList++wordsN (ns.take k))) wr∧Only (US C b w) w wr) (fun i _=>ns.length-(intOf i).toNat)
 case atStart=>exact⟨0,rfl,by omega,by simpa [wordsN] using H1.out,HO1.out⟩
 case round=>
  obtain⟨k,rfl,hk,hb,ho⟩:=hrel
  have HB:=Lib.hid hb
  have HO:=Lib.hid ho
  clear hb ho
  have hwk:(wordsN (ns.take k)).length≤22*k:=by
   have:=wordsN_len (ns.take k) (fun x hx=>HIN.out x (List.mem_of_mem_take hx))
   rw[List.length_take] at this
   omega
  by_cases hlt:k<ns.length
  ·obtain⟨x,hx⟩:∃x,ns[k]? =some x:=⟨_,List.getElem?_eq_getElem hlt⟩
   have hmem:x∈ns:=List.mem_of_getElem? hx
   have hxi:=HIN.out x hmem
   obtain⟨g,o,rfl,hc⟩:∃g o,A=some ⟨g,o,none⟩∧wr.cell? ⟨g,o+k,none⟩=some (.int .i64 x):=by
    rcases HA.out.keep HO.out with h|⟨g,o,_,e,_,_,hc⟩
    ·rw[h] at hlt;simp at hlt
    ·exact⟨g,o,e,hc k x hx⟩
   have hnx:wordsN (ns.take (k+1))=wordsN (ns.take k)++[32]++Lib.itoa x:=by rw[List.take_add_one,hx,Option.toList_some,wordsN_snoc]
   have ik:(k:Int)<ns.length:=by omega
   have HNX:=Lib.hid hnx
   clear hnx hx hmem
   go_wp2_with fail
   refine(wwriteU (.inr HB.out) (by simp;omega)).mono ?_
   rintro e w2 ⟨rfl,h2,ho2⟩
   have H2:=Lib.hid h2
   have HO2:=Lib.hid (us_trans HO.out ho2)
   have HT2:=Lib.hid (tab_ws HT.out hgb hbC (us_ws HO2.out))
   clear h2 ho2
   go_wp2_with fail
   refine(itoa_any x hxi.1 hxi.2 w2 HT2.out).mono ?_
   rintro e w3 ⟨t3,rfl,ht3,ho3⟩
   have H3:=Lib.hid (H2.out.none_ ho3)
   have HO3:=Lib.hid (us_none HO2.out ho3)
   have hz3:t3.size≤21:=by rw[size_list,ht3];exact itoa_len hxi.1 hxi.2
   have HT3:=Lib.hid ht3
   clear ho3 ht3
   go_wp2_with fail
   refine(wwriteU (.inr H3.out) (by simp;omega)).mono ?_
   rintro e w4 ⟨rfl,h4,ho4⟩
   have H4:=Lib.hid h4
   have HO4:=Lib.hid (us_trans HO3.out ho4)
   clear h4 ho4
   go_wp2_with fail
   go_roundw
   case rel=>exact⟨k+1,by go_num,by omega,by have:=H4.out;rw[HT3.out] at this;rw[HNX.out];simpa using this,HO4.out⟩
   case measure=>simp[intOf];omega
  ·have hall:ns.take k=ns:=List.take_of_length_le (by omega)
   rw[hall] at HB hwk
   have ik:¬(k:Int)<ns.length:=by omega
   clear hall
   go_wp2_with fail
   refine(wwriteU (.inr HB.out) (by simp;omega)).mono ?_
   rintro e w2 ⟨rfl,h2,ho2⟩
   have H2:=Lib.hid h2
   have HO2:=Lib.hid (us_trans HO.out ho2)
   clear h2 ho2
   go_wp2_with fail
   go_end0
   exact⟨rfl,by have:=H2.out;unfold lineL;simpa using this,HO2.out⟩
end Go.Proofs.YtpdlbmieciabmaaGreatDoor
namespace Go.Proofs.YtpdlbmieciabmaaGreatDoor
open Go.RowKit Go.Shelf
structure QlS(w:World)(B:Nat)(l:List UInt8)(W:World):Prop where
 wr:WBu (B+1) B l W
 none_:l=[]→W.cell? ⟨B,1,none⟩=some (.slice none 0 0)
 only:Only NoneOf w W
theorem only_ws{w W W' :World}{C b:Nat}(h:Only NoneOf w W)(ho:Only (US C b W) W W')(hb:w.heap.size≤b)(hC:w.heap.size≤C):Only NoneOf w W' :=h.trans' (us_ws ho) (fun i hi hk=>by rcases hk with hk|hk<;>omega)
theorem QlS.keep{w W W' :World}{B:Nat}{l:List UInt8}(h:QlS w B l W)(ho:Only NoneOf W W'):QlS w B l W' :=
 ⟨h.wr.none_ ho,fun e=>ho.cell_some (h.none_ e) (fun e=>e),h.only.trans ho⟩
theorem QlS.line{w W W' :World}{B:Nat}{l:List UInt8}{x:Ln}(h:QlS w B l W)(hB:w.heap.size≤B)(hw:WB (B+1) B (selfP B) (l++lineOf x) W')(ho:Only (US (B+1) B W) W W'):QlS w B (l++lineOf x) W' :=
 ⟨.inr hw,fun e=>absurd (List.append_eq_nil_iff.1 e).2 (lineOf_ne x),only_ws h.only ho hB (by omega)⟩
theorem QlS.start(w W:World)(hW:Only NoneOf w W):QlS w W.heap.size [] (W.alloc (.cells #[.pointer none,.slice none 0 0] tWr)):=by
 have hb:=Blk.new W tWr #[.pointer none,.slice none 0 0]
 exact⟨.inl ⟨by omega,by simp,_,hb,⟨rfl,.inl ⟨rfl,rfl⟩⟩⟩,fun _=>hb.cell 1,hW.alloc _⟩
theorem wb_at{C b:Nat}{p:Value}{l:List UInt8}{w:World}(h:WB C b p l w):Lib.BuilderAt tWr 5 b b p (Lib.byteCells l) w:=h.at_
theorem q_take_le(es:List En)(k:Nat):(textG (qLines (es.take k))).length≤(textG (qLines es)).length :=by
 have e:qLines es=qLines (es.take k)++qLines (es.drop k):=by
  unfold qLines
  rw[←List.flatMap_append,List.take_append_drop]
 rw[e,textG_app,List.length_append]
 omega
theorem q_part_le{es:List En}{k:Nat}{e:En}(h:es[k]? =some e)(j:Nat):(textG (qLines (es.take k))++lineOf (wLot,[e.lot])++textG ((e.values.take j).map vLine)).length≤(textG (qLines es)).length :=by
 have h1:=q_take_le es (k+1)
 rw[q_text_snoc h] at h1
 have h2:=take_text_le (e.values.map vLine) j
 rw[←List.map_take] at h2
 simp only[List.length_append] at h1⊢
 omega
theorem intsU_one{W:World}{B g:Nat}{n:Int}(hb:Blk W g 3 #[.int .i64 n])(hg:g≠B):IntsU B (some ⟨g,0,none⟩) [n] W:=
 .inr ⟨g,0,_,rfl,hg,hb,fun j x hx=>by
  match j,hx with
  |0,hx=>
   simp only[List.getElem?_cons_zero,Option.some.injEq] at hx
   subst hx
   exact hb.cell 0⟩
theorem in_one{n:Int}(h:In n):∀x∈[n],In x:=fun x hx=>by
 obtain rfl:=List.mem_singleton.1 hx
 exact h
theorem name_le{es:List En}{e:En}{v:Vl}(he:e∈es)(hv:v∈e.values):v.name.size≤(textG (qLines es)).length :=by
 have h1:vLine v∈qLines es:=List.mem_flatMap.2 ⟨e,he,by unfold eLines;exact List.mem_cons_of_mem _ (List.mem_map_of_mem hv)⟩
 have h2:=textG_mem h1
 have h3:=size_list v.name
 unfold vLine at h2
 simp only at h2
 omega
set_option maxRecDepth 100000 in
set_option maxHeartbeats 2000000 in
theorem quality_any(es:List En)(hin:∀e∈es,EnIn e)(hl:(textG (qLines es)).length≤100000000)(v:Value)(w:World)(h:EnSl w v es)(ht:Tab w):Calls Tryz.prog 31 #[v] w (RetStr (qualL es) w):=by
 have hright:=right_any es v w h
 obtain⟨A,cap,rfl,hc1,hc2,hat⟩:=en_at h
 have HAT:=Lib.hid hat
 have HT:=Lib.hid ht
 have HIN:=Lib.hid hin
 have hgl:=tab_lt ht
 clear hat h ht hin
 go_enter Tryz.func31,Tryz.ntmps31
 go_wp2_with fail
 refine hright.mono ?_
 rintro e w1 ⟨rfl,ho1⟩
 have HO1:=Lib.hid ho1
 clear hright
 cases hr:rightL es with
 |false=>
  have hq:qualL es=[]:=by unfold qualL;rw[hr];rfl
  have HQ:=Lib.hid hq
  clear hr hq
  go_wp2_with fail
  go_ret
  exact RetStr.mk (by rw[HQ.out]) HO1.out
 |true=>
  have hq:qualL es=textG (qLines es):=by unfold qualL;rw[if_pos hr]
  have HQ:=Lib.hid hq
  clear hr hq
  obtain⟨B,eB⟩:∃B,B=w1.heap.size:=⟨_,rfl⟩
  have hst:=QlS.start w w1 ho1
  rw[←eB] at hst
  have HST:=Lib.hid hst
  have hwB:w.heap.size≤B:=by rw[eB];exact ho1.size
  have HEB:=Lib.hid eB
  have hgb:3<B:=by omega
  clear hst ho1 eB
  go_wp2_with fail
  rw[←HEB.out]
  go_loopw [15] (fun i wr=>∃k:Nat,i= .int .i64 k∧k≤es.length∧QlS w B (textG (qLines (es.take k))) wr) (fun i _=>es.length-(intOf i).toNat)
  case atStart=>exact⟨0,rfl,Nat.zero_le _,HST.out⟩
  case round=>
   obtain⟨k,rfl,hk,hS⟩:=hrel
   have HS:=Lib.hid hS
   clear hS
   by_cases hlt:k<es.length
   ·obtain⟨x,hx⟩:∃x,es[k]? =some x:=⟨_,List.getElem?_eq_getElem hlt⟩
    obtain⟨g,o,u,rfl,hg,c0,c1,c2,c3,c4,hvs⟩:=HAT.out k x hx
    obtain⟨A2,cap2,rfl,hd1,hd2,hvat⟩:=vl_at hvs
    have ho:=HS.out.only
    have d0:=ho.cell_some c0 (fun e=>e)
    have d1:=ho.cell_some c1 (fun e=>e)
    have d2:=ho.cell_some c2 (fun e=>e)
    have d3:=ho.cell_some c3 (fun e=>e)
    have d4:=ho.cell_some c4 (fun e=>e)
    have hxm:=List.mem_of_getElem? hx
    have HXI:=Lib.hid (HIN.out x hxm)
    have HXM:=Lib.hid hxm
    have HX:=Lib.hid hx
    have HV:=Lib.hid hvat
    have HQP:=Lib.hid (q_part_le hx)
    have hQK:=q_take_le es k
    have ik:(k:Int)<es.length:=by omega
    obtain⟨lot,elot⟩:∃n,n=x.lot:=⟨_,rfl⟩
    have hE:Blk (wr.alloc (.cells #[.int .i64 0,.int .i64 lot,.int .i64 0,.int .i64 x.price,.slice A2 x.values.length cap2] 37)) wr.heap.size 37 #[.int .i64 0,.int .i64 lot,.int .i64 0,.int .i64 x.price,.slice A2 x.values.length cap2]:=Blk.new wr _ _
    have hI:=Blk.new (wr.alloc (.cells #[.int .i64 0,.int .i64 lot,.int .i64 0,.int .i64 x.price,.slice A2 x.values.length cap2] 37)) 3 #[.int .i64 lot]
    rw[World.size_alloc] at hI
    have hE2:=hE.alloc (.cells #[.int .i64 lot] 3)
    have hBw:B<wr.heap.size:=by
     have:=HS.out.wr
     rcases this with h|h<;>exact Nat.lt_of_lt_of_le (Nat.lt_succ_self B) h.2.1
    have hox:Only NoneOf wr ((wr.alloc (.cells #[.int .i64 0,.int .i64 lot,.int .i64 0,.int .i64 x.price,.slice A2 x.values.length cap2] 37)).alloc (.cells #[.int .i64 lot] 3)):=((Only.refl _ _).alloc _).alloc _
    have HE2:=Lib.hid hE2
    have HI:=Lib.hid hI
    have HOX:=Lib.hid hox
    rw[←elot] at d1
    have HEL:=Lib.hid elot
    clear hx hvat hvs c0 c1 c2 c3 c4 hE hI hE2 hox ho hxm elot
    go_wp2_with fail
    refine(lineU_any (C:=B+1) (ns:=[lot]) lotB (by decide) (HS.out.keep HOX.out).wr (by simp) (in_one (by rw[HEL.out];exact HXI.out.1)) (intsU_one HI.out (by omega)) (HT.out.none (HS.out.only.trans HOX.out)) hgb (by omega)).mono ?_
    rintro e w2 ⟨rfl,h2,ho2⟩
    have hS2:=(HS.out.keep HOX.out).line (x:=(wLot,[lot])) hwB h2 ho2
    have hE3:=(HE2.out.us ho2 (by omega) (by decide)).cell 4
    simp only[List.getElem?_toArray,List.getElem?_cons_zero,List.getElem?_cons_succ] at hE3
    have HS2:=Lib.hid hS2
    clear h2 ho2 hS2 d0 d1 d2 d3 d4
    go_wp2_with fail
    go_loopw [27] (fun i wr=>∃j:Nat,i= .int .i64 j∧j≤x.values.length∧QlS w B (textG (qLines (es.take k))++lineOf (wLot,[x.lot])++textG ((x.values.take j).map vLine)) wr) (fun i _=>x.values.length-(intOf i).toNat)
    case atStart=>exact⟨0,rfl,Nat.zero_le _,by have:=HS2.out;rw[HEL.out] at this;simpa [textG] using this⟩
    case round=>
     clear hE3 hBw
     obtain⟨j,rfl,hj,hS⟩:=hrel
     have HS3:=Lib.hid hS
     have hqj:=HQP.out j
     clear hS
     by_cases hlj:j<x.values.length
     ·obtain⟨y,hy⟩:∃y,x.values[j]? =some y:=⟨_,List.getElem?_eq_getElem hlj⟩
      obtain⟨g2,o2,rfl,hg2,c0,c1⟩:=HV.out j y hy
      have ho:=HS3.out.only
      have d0:=ho.cell_some c0 (fun e=>e)
      have d1:=ho.cell_some c1 (fun e=>e)
      have hym:=List.mem_of_getElem? hy
      have HYI:=Lib.hid (HXI.out.2.2 y hym)
      have hyn:=name_le HXM.out hym
      have HVT:=Lib.hid (v_text_snoc hy)
      have ij:(j:Int)<x.values.length:=by omega
      obtain⟨n,en⟩:∃n,n=y.n:=⟨_,rfl⟩
      rw[←en] at d1
      have hV:Blk (wr.alloc (.cells #[.string y.name,.int .i64 n] 84)) wr.heap.size 84 #[.string y.name,.int .i64 n]:=Blk.new wr _ _
      have hI:=Blk.new (wr.alloc (.cells #[.string y.name,.int .i64 n] 84)) 3 #[.int .i64 n]
      rw[World.size_alloc] at hI
      have hBw:B<wr.heap.size:=by
       have:=HS3.out.wr
       rcases this with h|h<;>exact Nat.lt_of_lt_of_le (Nat.lt_succ_self B) h.2.1
      have hox:Only NoneOf wr ((wr.alloc (.cells #[.string y.name,.int .i64 n] 84)).alloc (.cells #[.int .i64 n] 3)):=((Only.refl _ _).alloc _).alloc _
      have HI3:=Lib.hid hI
      have HOX3:=Lib.hid hox
      have HEN:=Lib.hid en
      clear hy hV hI hox ho hym c0 c1 en
      go_wp2_with fail
      refine(lineU_any (C:=B+1) (ns:=[n]) y.name (by omega) (HS3.out.keep HOX3.out).wr (by simp) (in_one (by rw[HEN.out];exact HYI.out)) (intsU_one HI3.out (by omega)) (HT.out.none (HS3.out.only.trans HOX3.out)) hgb (by omega)).mono ?_
      rintro e w2 ⟨rfl,h2,ho2⟩
      have HS4:=Lib.hid ((HS3.out.keep HOX3.out).line (x:=(y.name.data.toList,[n])) hwB h2 ho2)
      clear h2 ho2 d0 d1
      go_wp2_with fail
      go_roundw
      case rel=>exact⟨j+1,by go_num,by omega,by have:=HS4.out;rw[HEN.out] at this;rw[HVT.out,←List.append_assoc];exact this⟩
      case measure=>simp[intOf];omega
     ·obtain rfl:j=x.values.length:=by omega
      have ij:¬(x.values.length:Int)<x.values.length:=by omega
      have hall:=HS3.out
      rw[List.take_of_length_le (Nat.le_refl _),←q_text_snoc HX.out] at hall
      have HG:=Lib.hid hall
      clear hall
      go_wp2_with fail
      go_roundw
      case rel=>exact⟨k+1,by go_num,by omega,HG.out⟩
      case measure=>simp[intOf];omega
   ·obtain rfl:k=es.length:=by omega
    have ik:¬(es.length:Int)<es.length:=by omega
    have hall:=HS.out
    rw[List.take_of_length_le (Nat.le_refl _)] at hall
    have HG:=Lib.hid hall
    clear hall
    by_cases h0:textG (qLines es)=[]
    ·have c1:=HG.out.none_ h0
     go_wp2_with fail
     refine(wstring_none (b:=B) c1).mono ?_
     rintro e w3 ⟨rfl,ho3⟩
     go_wp2_with fail
     go_ret
     exact RetStr.mk (by rw[HQ.out,h0]) (HG.out.only.trans ho3)
    ·go_wp2_with fail
     refine(wstring_any (B:=B) (b:=B) (l:=textG (qLines es)) (by rcases HG.out.wr with h|h;exact .inl (wb_at h);exact .inr (wb_at h)) h0).mono ?_
     rintro e w3 ⟨rfl,hb⟩
     go_wp2_with fail
     go_ret
     exact RetStr.mk (by rw[HQ.out]) (HG.out.only.below' hb hwB)
end Go.Proofs.YtpdlbmieciabmaaGreatDoor
