/-What is proved here:several parts. decimal texts by the reference. Condition:the numbers are ints. · the reference's hash as text. Conditions:none. · the writer of bids,a struct about a builder of strings:it takes strings and bytes,and tells what it holds. Condition:what it holds is shorter than 2^47 bytes. · a string's text in hexadecimal,by the bids' code. Condition:the string is short. · the writer of bids writes a line:a word and ints. Conditions:the texts are short,the ints lie apart from the writer's blocks. · a bid's text,by the bids' code. Conditions:the bid is well and its texts are short. · decimal texts and texts in hexadecimal by the bids' reference. Conditions:the numbers are ints,the texts short. · a bid's text,by the reference. Conditions:the bid is well and its texts are short. -/
import Derived.Test.YtpdlbmieciabmaaGreatDoorPk03
import Derived.Test.YtpdlbmieciabmaaGreatDoorPk05
import Derived.Test.YtpdlbmieciabmaaGreatDoorPk11
import Derived.Test.YtpdlbmieciabmaaGreatDoorPk15
import Derived.Deep.DeepCutAuto
import Derived.Deep.RegionHeld3
import Derived.BigRegion
import Derived.Lib.UnsafeStr
namespace Go.Proofs.YtpdlbmieciabmaaGreatDoor
open Go.RowKit Go.Shelf
end Go.Proofs.YtpdlbmieciabmaaGreatDoor
namespace Go.Proofs.YtpdlbmieciabmaaGreatDoor
open Go.RowKit Go.Shelf
end Go.Proofs.YtpdlbmieciabmaaGreatDoor
namespace Go.Proofs.YtpdlbmieciabmaaGreatDoor
open Go.RowKit Go.Shelf
theorem lies_writer:liesAt Tryz.prog Tryz.prog.depth 104 (2/Tryz.prog.cellsOf 104) 0 102 1=true:=by kernel_rfl
set_option maxRecDepth 100000 in
set_option maxHeartbeats 400000 in
theorem wcheck_any{B b:Nat}{bs:List Value}{w:World}(h:Lib.IsBuilder 104 5 B b bs w):
  Calls Tryz.prog 103 #[.pointer (some ⟨b,0,none⟩)] w fun e w' =>e= .returned (.tuple #[])∧Lib.BuilderAt 104 5 B b (.pointer (some ⟨b,0,none⟩)) bs w'∧Below B w w' :=by
 obtain⟨j,hj,hjs⟩:=Option.map_eq_some_iff.1 size_builder
 rcases h with h|h
 ·have c0:=h.cell0
  have f0:=h.frozen0
  have hsh:=h.shape
  have hto:=fun W (hW:World.shape? W b=some (104,2))=>Lib.run_to_unsafe (P:=Tryz.prog) W ⟨b,0,none⟩ Tryz.underlying99 Tryz.underlying190 hj (by rw[hjs];decide) hW (Nat.zero_lt_succ 1)
  have hfr:=Lib.run_from_unsafe (P:=Tryz.prog) w ⟨b,0,none⟩ Tryz.underlying190 Tryz.underlying99 hj hsh lies_writer
  have h1:=hto w hsh
  have HH:=Lib.hid h
  clear h hto hsh
  go_enter Tryz.func103,Tryz.ntmps103
  go_wp2_with fail
  rw[run_callFunc_extern Tryz.func127 (by kernel_rfl) (by kernel_rfl) (by kernel_rfl) (e:=Extern.AbiNoEscape.same) (by kernel_rfl)]
  rw[Lib.run_noEscape]
  simp only[Result.andThen]
  rw[Oper.upon_value]
  go_wp2_with fail
  go_end0
  have hu:=HH.out.used (.pointer (some ⟨b,0,none⟩))
  exact⟨rfl,hu,(Below.refl _ _).setCell (p:=⟨b,0,none⟩) HH.out.1 _⟩
 ·have c0:=h.cell0
  have hne:=Lib.run_neq_ptr_same (P:=Tryz.prog) w ⟨b,0,none⟩ Tryz.underlying99 hj
  have HH:=Lib.hid h
  clear h
  go_enter Tryz.func103,Tryz.ntmps103
  go_wp2_with fail
  go_end0
  exact⟨rfl,HH.out,Below.refl _ _⟩
set_option maxRecDepth 100000 in
set_option maxHeartbeats 1000000 in
theorem wwb_any{B b:Nat}{l:List UInt8}{c:UInt8}{w:World}(h:Lib.IsBuilder 104 5 B b (Lib.byteCells l) w)(hlen:l.length+1≤140737488355328)(hBw:B≤w.heap.size):
  Calls Tryz.prog 71 #[.pointer (some ⟨b,0,none⟩),.int .u8 (c.toNat:Int)] w fun e w' =>e= .returned .nilIface∧Lib.IsBuilder 104 5 B b (Lib.byteCells (l++[c])) w'∧Below B w w' :=by
 obtain⟨i0,hi,hz0,hz1,hz2⟩:=info_parts Tryz.info5
 have H:=Lib.hid h
 clear h
 go_enter Tryz.func71,Tryz.ntmps71
 go_wp2_with fail
 refine(wcheck_any H.out).mono ?_
 rintro e w1 ⟨rfl,h1,hb1⟩
 obtain⟨hB,v,hbk,hown,hne⟩:=h1
 have c0:w1.cell? ⟨b,0,none⟩=some (.pointer (some ⟨b,0,none⟩)):=by rw[Lib.cell_of_heap hbk];rfl
 have c1:w1.cell? ⟨b,1,none⟩=some v:=by rw[Lib.cell_of_heap hbk];rfl
 have hlt:b<w1.heap.size:=(Array.getElem?_eq_some_iff.1 hbk).1
 have hsz:=hb1.size
 have HBK:=Lib.hid hbk
 have HOWN:=Lib.hid hown
 have HNE:=Lib.hid hne
 have HB1:=Lib.hid hb1
 rw[Lib.byteCells_length] at HOWN
 clear hbk hown hne hb1
 go_wp2_with (at_builtin;refine wpList_append_own _ rfl _ _ 100 rfl B 5 i0 (.int .u8 0) 1 1 Tryz.underlying100 hi hz0 hz1 hz2 rfl (by decide) _ _ _ rfl (HOWN.out.alloc _) ⟨w1.heap.size,0,none⟩ 1 1 [.int .u8 (c.toNat:Int)] rfl rfl (fun j u hj=>by match j,hj with|0,hj=>simp at hj;subst hj;simp[Addr.add]) (fun u hu=>by simp at hu;subst hu;rfl) (by unfold maxLen;omega) (by omega) (by simp;omega) ?_;intro v' w2 hown' hgrow _;have hb2:w2.heap[b]? =some (.cells #[.pointer (some ⟨b,0,none⟩),v] 104 (0,0)):=(by rw[hgrow.block b (by simp;omega) (fun e=>HNE.out e.symm),Lib.alloc_old w1 _ b hlt];exact HBK.out);obtain⟨ao,cap,hv',hcc,hcm⟩:=own_form' hown';subst hv';have d0:w2.cell? ⟨b,0,none⟩=some (.pointer (some ⟨b,0,none⟩)):=(by rw[Lib.cell_of_heap hb2];rfl);have d1:w2.cell? ⟨b,1,none⟩=some v:=(by rw[Lib.cell_of_heap hb2];rfl);have f1:w2.frozen? ⟨b,1,none⟩=false:=Lib.frozen_of_heap hb2 1;have HB2:=Lib.hid hb2;have HOW2:=Lib.hid hown';have HGR:=Lib.hid hgrow;clear hb2 hown' hgrow)
 go_ret
 refine⟨rfl,.inr ?_,?_⟩
 ·refine Lib.BuilderAt.put (T:=104) (e:=5) hB HB2.out (bs' :=Lib.byteCells (l++[c])) ?_ (by decide)
  have h:=HOW2.out
  have e:Lib.byteCells (l++[c])=Lib.byteCells l++[.int .u8 (c.toNat:Int)]:=by simp[Lib.byteCells]
  rw[Lib.byteCells_length,List.length_append,e]
  exact h
 ·exact((HB1.out.alloc (by have:=HB1.out.size;omega) _).grown HGR.out (by have:=HB1.out.size;simp;omega) (fun k hk=>(HOWN.out.lt k hk).1)).setCell (p:=⟨b,1,none⟩) hB _
theorem cellsByte:Tryz.prog.cellsOf 5=1:=by kernel_rfl
set_option maxRecDepth 100000 in
set_option maxHeartbeats 1000000 in
theorem wstring_any{B b:Nat}{l:List UInt8}{w:World}(h:Lib.IsBuilder 104 5 B b (Lib.byteCells l) w)(h0:l≠[]):
  Calls Tryz.prog 38 #[.pointer (some ⟨b,0,none⟩)] w fun e w' =>e= .returned (.string ⟨l.toArray⟩)∧Below B w w' :=by
 obtain⟨p,hB,v,hbk,hown,hne⟩:∃p,Lib.BuilderAt 104 5 B b p (Lib.byteCells l) w:=by
  rcases h with h|h
  ·exact⟨_,h⟩
  ·exact⟨_,h⟩
 have hl0:l.length≠0:=by simpa using h0
 rw[Lib.byteCells_length] at hown
 obtain⟨g,cap,cur,rfl,hbg,hg,hnc,hcm,hcs,htake⟩:∃g cap cur,v= .slice (some ⟨g,0,none⟩) l.length cap∧B≤g∧w.heap[g]? =some (.cells cur 5 (0,0))∧l.length≤cap∧cap≤maxLen∧cur.size=cap*1∧cur.toList.take (l.length*1)=Lib.byteCells l:=by
  rcases hown.2 with⟨_,hz⟩|⟨g,cap,cur,hv,r⟩
  ·exact absurd hz hl0
  ·exact⟨g,cap,cur,hv,r⟩
 rw[maxLen_val] at hcm
 have c1:w.drew.cell? ⟨b,1,none⟩=some (.slice (some ⟨g,0,none⟩) l.length cap):=by
  have h1:w.drew.heap[b]? =some (.cells #[p,.slice (some ⟨g,0,none⟩) l.length cap] 104 (0,0)):=hbk
  rw[Lib.cell_of_heap h1];rfl
 have hSD:(Builtin.unsafeSliceData_ #[100] 136 #[.slice (some ⟨g,0,none⟩) l.length cap]).run Tryz.prog w.drew= .ok (.pointer (some ⟨g,0,none⟩)) w.drew:=
  Lib.run_unsafeSliceData_row _ _ _ _ _ _ (by omega)
 have hUS:(Builtin.unsafeString_ #[136,3] 9 #[.pointer (some ⟨g,0,none⟩),.int .i64 l.length]).run Tryz.prog w.drew= .ok (.string ⟨l.toArray⟩) (w.drew.freeze ⟨g,0,none⟩ l.length):=by
  refine Lib.run_unsafeString_row w.drew 136 3 9 5 Tryz.underlying136 cellsByte g cur.size (by have hg' :w.drew.heap[g]? =some (.cells cur 5 (0,0)):=hg;simp[World.shape?,hg']) l h0 (by omega) (by omega) ?_
  intro j x hx
  exact hown.cells (g:=g) rfl j (.int .u8 x.toNat) (by simp[Lib.byteCells,hx])
 clear hown hg htake hcs hbk h hne
 go_enter Tryz.func38,Tryz.ntmps38
 go_wp2_with fail
 go_region
 all_goals
  go_wp2_with fail
  go_ret
  exact⟨rfl,Lib.below_freeze (Below.drew (Below.refl B w)) (p:=⟨g,0,none⟩) hbg _⟩
set_option maxRecDepth 100000 in
set_option maxHeartbeats 1000000 in
theorem wstring_none{b:Nat}{w:World}(h:w.cell? ⟨b,1,none⟩=some (.slice none 0 0)):
  Calls Tryz.prog 38 #[.pointer (some ⟨b,0,none⟩)] w fun e w' =>e= .returned (.string ⟨#[]⟩)∧Only NoneOf w w' :=by
 have c1:w.drew.cell? ⟨b,1,none⟩=some (.slice none 0 0):=h
 have hSD:(Builtin.unsafeSliceData_ #[100] 136 #[.slice none 0 0]).run Tryz.prog w.drew= .ok (.pointer none) w.drew:=rfl
 have hUS:(Builtin.unsafeString_ #[136,3] 9 #[.pointer none,.int .i64 0]).run Tryz.prog w.drew= .ok (.string .empty) w.drew:=Lib.run_unsafeString_none _ _ _ _ _
 clear h
 go_enter Tryz.func38,Tryz.ntmps38
 go_wp2_with fail
 go_region
 all_goals
  go_wp2_with fail
  go_ret
  exact⟨rfl,(Only.refl _ _).drew⟩
end Go.Proofs.YtpdlbmieciabmaaGreatDoor
namespace Go.Proofs.YtpdlbmieciabmaaGreatDoor
open Go.RowKit Go.Shelf
set_option maxRecDepth 100000 in
set_option maxHeartbeats 1000000 in
theorem bhex_any(t:ByteArray)(hl:t.size≤50000000)(w:World):Calls Tryz.prog 42 #[.string t] w (RetStr (hexL t.data.toList) w):=by
 obtain⟨h,eh⟩:∃h,h=t.data.toList:=⟨_,rfl⟩
 have hlen:h.length=t.size:=by rw[eh,size_list]
 have hb0:=Lib.fresh_isBuilder 104 5 w
 have ho0:Only NoneOf w (w.alloc (.cells #[.pointer none,.slice none 0 0] 104)):=(Only.refl _ _).alloc _
 have hc0:(w.alloc (.cells #[.pointer none,.slice none 0 0] 104)).cell? ⟨w.heap.size,1,none⟩=some (.slice none 0 0):=Blk.cell (Blk.new w 104 #[.pointer none,.slice none 0 0]) 1
 have HB0:=Lib.hid hb0
 have HO0:=Lib.hid ho0
 have HC0:=Lib.hid hc0
 have HL:=Lib.hid hl
 have HLEN:=Lib.hid hlen
 have EH:=Lib.hid eh
 rw[←eh]
 clear hb0 ho0 hl eh hc0 hlen
 go_enter Tryz.func42,Tryz.ntmps42
 go_wp2_with fail
 obtain⟨Y,eY⟩:∃Y,Y=w.alloc (.cells #[.pointer none,.slice none 0 0] 104):=⟨_,rfl⟩
 have hb1:=HB0.out
 have ho1:=HO0.out
 have hc1:=HC0.out
 rw[←eY] at hb1 ho1 hc1
 rw[←eY]
 obtain⟨B,eB⟩:∃B,B=w.heap.size:=⟨_,rfl⟩
 rw[←eB] at hb1 hc1⊢
 have HB1:=Lib.hid hb1
 have HO1:=Lib.hid ho1
 have HC1:=Lib.hid hc1
 have hBw:w.heap.size≤B:=by omega
 have hBY:B≤Y.heap.size:=by rw[eY,eB];simp
 clear hb1 ho1 hc1 eY eB HB0 HO0 HC0
 go_loopw [7] (fun i wr=>∃k:Nat,i= .int .i64 k∧k≤t.size∧Lib.IsBuilder 104 5 B B (Lib.byteCells (hexL (h.take k))) wr∧Only NoneOf w wr∧B≤wr.heap.size∧(k=0→wr.cell? ⟨B,1,none⟩=some (.slice none 0 0))) (fun i _=>t.size-(intOf i).toNat)
 case atStart=>exact⟨0,rfl,by omega,by simpa [hexL,Lib.byteCells] using HB1.out,HO1.out,hBY,fun _=>HC1.out⟩
 case round=>
  obtain⟨k,rfl,hk,hb,ho,hB,hz⟩:=hrel
  have HB:=Lib.hid hb
  have HO:=Lib.hid ho
  have HZ:=Lib.hid hz
  clear hb ho hz
  by_cases hlt:k<t.size
  ·obtain⟨x,hx⟩:∃x,h[k]? =some x:=⟨_,List.getElem?_eq_getElem (by have:=HLEN.out;omega)⟩
   have hix:t.data[k]? =some x:=by have e:=EH.out;rw[e] at hx;simpa using hx
   have hnx:hexL (h.take (k+1))=hexL (h.take k)++[hexC (x.toNat/16)]++[hexC (x.toNat%16)]:=by
    rw[List.take_add_one,hx,Option.toList_some,hexL_snoc]
   have hlk:(hexL (h.take k)).length≤100000000:=by rw[hexL_len,List.length_take];have:=HL.out;omega
   have hx256:=x.toNat_lt
   have ik:(k:Int)<t.size:=by omega
   have hk6:k≤50000000:=by have:=HL.out;omega
   have hts:t[k]'hlt=x:=by
    have e:t.data[k]? =some (t[k]'hlt):=Array.getElem?_eq_getElem _
    rw[hix] at e
    exact(Option.some.inj e).symm
   have HNX:=Lib.hid hnx
   clear hnx hx hix
   go_wp2_with fail
   refine(wwb_any HB.out (by omega) hB).mono ?_
   rintro e w1 ⟨rfl,hb1,hbel1⟩
   rw[hexD_idx] at hb1
   have ho1:=HO.out.below' hbel1 hBw
   have hB1:B≤w1.heap.size:=Nat.le_trans hB hbel1.size
   have HB1:=Lib.hid hb1
   have HO1:=Lib.hid ho1
   clear hb1 ho1 hbel1
   go_wp2_with fail
   refine(wwb_any HB1.out (by rw[List.length_append,List.length_singleton];omega) hB1).mono ?_
   rintro e w2 ⟨rfl,hb2,hbel2⟩
   rw[hexD_idx,←HNX.out] at hb2
   have ho2:=HO1.out.below' hbel2 hBw
   have hB2:B≤w2.heap.size:=Nat.le_trans hB1 hbel2.size
   have HB2:=Lib.hid hb2
   have HO2:=Lib.hid ho2
   clear hb2 ho2 hbel2
   go_wp2_with fail
   go_roundw
   case rel=>exact⟨k+1,by go_num,by omega,HB2.out,HO2.out,hB2,fun h=>by omega⟩
   case measure=>simp[intOf];omega
  ·have hall:h.take k=h:=List.take_of_length_le (by have:=HLEN.out;omega)
   rw[hall] at HB
   have ik:¬(k:Int)<t.size:=by omega
   clear hall
   by_cases hk0:k=0
   ·have hh:h=[]:=List.eq_nil_of_length_eq_zero (by have:=HLEN.out;omega)
    have hc:=HZ.out hk0
    have HC:=Lib.hid hc
    clear hc HZ
    go_wp2_with fail
    refine(wstring_none HC.out).mono ?_
    rintro e w1 ⟨rfl,hon⟩
    have HO1:=Lib.hid (HO.out.trans hon)
    clear hon
    go_wp2_with fail
    go_ret
    exact RetStr.mk (by rw[hh];rfl) HO1.out
   ·have hh:hexL h≠[]:=fun e=>by
     have e2:=congrArg List.length e
     rw[hexL_len] at e2
     have:=HLEN.out
     simp only[List.length_nil] at e2
     omega
    have HH:=Lib.hid hh
    clear hh HZ
    go_wp2_with fail
    refine(wstring_any HB.out HH.out).mono ?_
    rintro e w1 ⟨rfl,hbel⟩
    have HO1:=Lib.hid (HO.out.below' hbel hBw)
    clear hbel
    go_wp2_with fail
    go_ret
    exact RetStr.mk (by simp) HO1.out
end Go.Proofs.YtpdlbmieciabmaaGreatDoor
namespace Go.Proofs.YtpdlbmieciabmaaGreatDoor
open Go.RowKit Go.Shelf
abbrev tWr:TypeId:=104
def WB(C b:Nat)(p:Value)(l:List UInt8)(w:World):Prop:=b<C∧C≤w.heap.size∧∃v,Blk w b tWr #[p,v]∧w.ownsRow C 5 1 v l.length (Lib.byteCells l)
abbrev selfP(b:Nat):Value:= .pointer (some ⟨b,0,none⟩)
def WBu(C b:Nat)(l:List UInt8)(w:World):Prop:=WB C b (.pointer none) l w∨WB C b (selfP b) l w
def WS(C b:Nat):Nat→Prop:=fun k=>k=b∨C≤k
theorem WB.at_{C b:Nat}{p:Value}{l:List UInt8}{w:World}(h:WB C b p l w):Lib.BuilderAt tWr 5 b b p (Lib.byteCells l) w:=by
 obtain⟨h1,h2,v,hb,ho⟩:=h
 refine⟨Nat.le_refl _,v,hb,?_,fun e=>by have:=(own_ge ho e).1;omega⟩
 rw[Lib.byteCells_length]
 obtain⟨hl,ho⟩:=ho
 refine⟨hl,?_⟩
 rcases ho with h|⟨g,cap,cur,e1,e2,r⟩
 ·exact .inl h
 ·exact .inr ⟨g,cap,cur,e1,by omega,r⟩
theorem WB.none_{C b:Nat}{p:Value}{l:List UInt8}{w w' :World}(h:WB C b p l w)(ho:Only NoneOf w w'):WB C b p l w' :=by
 obtain⟨h1,h2,v,hb,hw⟩:=h
 exact⟨h1,Nat.le_trans h2 ho.size,v,hb.only ho (fun h=>h.elim),own_only hw ho (fun _ _ h=>h.elim)⟩
theorem WBu.none_{C b:Nat}{l:List UInt8}{w w' :World}(h:WBu C b l w)(ho:Only NoneOf w w'):WBu C b l w' :=h.imp (·.none_ ho) (·.none_ ho)
theorem WB.put{C b:Nat}{p:Value}{l:List UInt8}{w:World}(h:WB C b p l w):WB C b (selfP b) l (w.setCell ⟨b,0,none⟩ (selfP b)):=by
 obtain⟨h1,h2,v,hb,hw⟩:=h
 refine⟨h1,by simpa using h2,v,Blk.set_ hb 0 _,own_far hw (p:=⟨b,0,none⟩) (fun e=>by have:=(own_ge hw e).1;simp only at this;omega) _⟩
set_option maxRecDepth 100000 in
set_option maxHeartbeats 400000 in
theorem ccheckC{C b:Nat}{l:List UInt8}{w:World}(h:WBu C b l w):
  Calls Tryz.prog 103 #[.pointer (some ⟨b,0,none⟩)] w fun e w' =>e= .returned (.tuple #[])∧WB C b (selfP b) l w'∧Only (WS C b) w w' :=by
 obtain⟨j,hj,hjs⟩:=Option.map_eq_some_iff.1 size_builder
 rcases h with h0|h0
 ·have h:=h0.at_
  have c0:=h.cell0
  have f0:=h.frozen0
  have hsh:=h.shape
  have hto:=fun W (hW:World.shape? W b=some (104,2))=>Lib.run_to_unsafe (P:=Tryz.prog) W ⟨b,0,none⟩ Tryz.underlying99 Tryz.underlying190 hj (by rw[hjs];decide) hW (Nat.zero_lt_succ 1)
  have hfr:=Lib.run_from_unsafe (P:=Tryz.prog) w ⟨b,0,none⟩ Tryz.underlying190 Tryz.underlying99 hj hsh lies_writer
  have h1:=hto w hsh
  have HH:=Lib.hid h0
  clear h hto hsh h0
  go_enter Tryz.func103,Tryz.ntmps103
  go_wp2_with fail
  rw[run_callFunc_extern Tryz.func127 (by kernel_rfl) (by kernel_rfl) (by kernel_rfl) (e:=Extern.AbiNoEscape.same) (by kernel_rfl)]
  rw[Lib.run_noEscape]
  simp only[Result.andThen]
  rw[Oper.upon_value]
  go_wp2_with fail
  go_end0
  exact⟨rfl,HH.out.put,(Only.refl _ _).setCell (p:=⟨b,0,none⟩) (.inl (.inl rfl)) _⟩
 ·have c0:=h0.at_.cell0
  have hne:=Lib.run_neq_ptr_same (P:=Tryz.prog) w ⟨b,0,none⟩ Tryz.underlying99 hj
  have HH:=Lib.hid h0
  clear h0
  go_enter Tryz.func103,Tryz.ntmps103
  go_wp2_with fail
  go_end0
  exact⟨rfl,HH.out,Only.refl _ _⟩
set_option maxRecDepth 100000 in
set_option maxHeartbeats 400000 in
theorem wwriteC{C b:Nat}{l:List UInt8}{s:ByteArray}{w:World}(h:WBu C b l w)(hlen:l.length+s.size≤140737488355328):
  Calls Tryz.prog 65 #[.pointer (some ⟨b,0,none⟩),.string s] w fun e w' =>e= .returned (.tuple #[.int .i64 s.size,.nilIface])∧WB C b (selfP b) (l++s.data.toList) w'∧Only (WS C b) w w' :=by
 obtain⟨i0,hi,hz0,hz1,hz2⟩:=info_parts Tryz.info5
 have H:=Lib.hid h
 clear h
 go_enter Tryz.func65,Tryz.ntmps65
 go_wp2_with fail
 refine(ccheckC H.out).mono ?_
 rintro e w1 ⟨rfl,h1,hb1⟩
 obtain⟨hbC,hCs,v,hbk,hown⟩:=h1
 have c1:w1.cell? ⟨b,1,none⟩=some v:=hbk.cell 1
 have hne:v.ownBlock≠some b:=fun e=>by have:=(own_ge hown e).1;omega
 have HBK:=Lib.hid hbk
 have HOWN:=Lib.hid hown
 have HNE:=Lib.hid hne
 have HB1:=Lib.hid hb1
 clear hbk hown hne hb1
 go_wp2_with (at_builtin;refine Lib.wpList_append_own_string _ rfl _ _ 100 9 rfl C 5 i0 Tryz.underlying100 Tryz.underlying9 hi hz0 hz1 hz2 _ _ _ rfl HOWN.out s rfl (by unfold maxLen;omega) (by omega) (by omega) ?_;intro v' w2 hown' hgrow _;have hb2:Blk w2 b tWr #[selfP b,v]:=HBK.out.grown hgrow (fun e=>HNE.out e.symm);obtain⟨ao,cap,hv',hcc,hcm⟩:=own_form' hown';subst hv';have d1:=hb2.cell 1;have f1:=hb2.frozen 1;have HB2:=Lib.hid hb2;have HOW2:=Lib.hid hown';have HGR:=Lib.hid hgrow;clear hb2 hown' hgrow)
 go_ret2
 refine⟨rfl,?_,?_⟩
 ·have hw:=HOW2.out
  have hne2:(Value.slice ao (l.length+s.size) cap).ownBlock≠some b:=fun e=>by have:=(own_ge hw e).1;omega
  refine⟨hbC,by have:=HGR.out.size;simp;omega,_,Blk.set_ HB2.out 1 _,?_⟩
  have e:Lib.byteCells (l++s.data.toList)=Lib.byteCells l++Lib.strCells s:=by simp[Lib.byteCells,Lib.strCells]
  rw[List.length_append,e,←size_list]
  exact own_far hw (p:=⟨b,1,none⟩) hne2 _
 ·exact(HB1.out.grown HGR.out (fun k hk=> .inl (.inr (own_ge HOWN.out hk).1))).setCell (p:=⟨b,1,none⟩) (.inl (.inl rfl)) _
def IntsW(C b:Nat)(A:Option Addr)(ns:List Int)(w:World):Prop:=ns=[]∨∃g o,A=some ⟨g,o,none⟩∧g<C∧g≠b∧g<w.heap.size∧∀(j:Nat) (x:Int),ns[j]? =some x→w.cell? ⟨g,o+j,none⟩=some (.int .i64 x)
theorem IntsW.keep{C b:Nat}{A:Option Addr}{ns:List Int}{w w' :World}(h:IntsW C b A ns w)(ho:Only (WS C b) w w'):IntsW C b A ns w' :=by
 rcases h with h|⟨g,o,hA,h1,h2,h3,h4⟩
 ·exact .inl h
 ·refine .inr ⟨g,o,hA,h1,h2,Nat.lt_of_lt_of_le h3 ho.size,fun j x hx=> ?_⟩
  exact ho.cell_some (h4 j x hx) (fun h=>by rcases h with h|h<;>simp only at h<;>omega)
theorem tab_ws{C b:Nat}{w w' :World}(h:Tab w)(hb:3<b)(hC:b<C)(ho:Only (WS C b) w w'):Tab w' :=h.only ho (fun k hk=>by rcases hk with hk|hk<;>omega)
theorem wordsN_snoc(l:List Int)(x:Int):wordsN (l++[x])=wordsN l++[32]++Lib.itoa x:=by simp[wordsN]
theorem wordsN_len:∀(l:List Int),(∀x∈l,In x)→(wordsN l).length≤22*l.length
 |[],_=>by simp[wordsN]
 |x::l,h=>by
  have h1:=wordsN_len l (fun y hy=>h y (by simp[hy]))
  have h2:=itoa_len (h x (by simp)).1 (h x (by simp)).2
  have e:wordsN (x::l)=(32::Lib.itoa x)++wordsN l:=rfl
  rw[e,List.length_append,List.length_cons,List.length_cons]
  omega
set_option maxRecDepth 100000 in
set_option maxHeartbeats 1000000 in
theorem line_any{C b:Nat}{l:List UInt8}(word:ByteArray)(hwd:word.size≤1000000000){A:Option Addr}{cap:Nat}{ns:List Int}{w:World}(h:WBu C b l w)(hns:ns.length≤50000000)(hin:∀x∈ns,In x)(hA:IntsW C b A ns w)(ht:Tab w)(hgb:3<b)(hlen:l.length≤100000000000):
  Calls Tryz.prog 37 #[.pointer (some ⟨b,0,none⟩),.string word,.slice A ns.length cap] w fun e w' =>e= .returned (.tuple #[])∧WB C b (selfP b) (l++lineL word.data.toList ns) w'∧Only (WS C b) w w' :=by
 have hmf:∀(fn:Fn) (first cap:Array Value) (w:World),(Instr.makeFunc fn first cap).run Tryz.prog w= .ok (.func fn first cap) w:=fun _ _ _ _=>rfl
 have hbC:b<C:=by rcases h with h|h<;>exact h.1
 have H:=Lib.hid h
 have q32:(⟨#[32]⟩:ByteArray).size =1:=rfl
 have q10:(⟨#[10]⟩:ByteArray).size =1:=rfl
 have HIN:=Lib.hid hin
 have HA:=Lib.hid hA
 have HT:=Lib.hid ht
 have hwl:word.data.toList.length=word.size:=by rw[size_list]
 clear h hin hA ht
 go_enter Tryz.func37,Tryz.ntmps37
 go_wp2_with fail
 refine(wwriteC H.out (by omega)).mono ?_
 rintro e w1 ⟨rfl,h1,ho1⟩
 have H1:=Lib.hid h1
 have HO1:=Lib.hid ho1
 clear h1 ho1
 go_wp2_with fail
 go_loopw [18] (fun i wr=>∃k:Nat,i= .int .i64 k∧k≤ns.length∧WB C b (selfP b) (l++(word.data.toList++wordsN (ns.take k))) wr∧Only (WS C b) w wr) (fun i _=>ns.length-(intOf i).toNat)
 case atStart=>exact⟨0,rfl,by omega,by simpa [wordsN] using H1.out,HO1.out⟩
 case round=>
  obtain⟨k,rfl,hk,hb,ho⟩:=hrel
  have HB:=Lib.hid hb
  have HO:=Lib.hid ho
  clear hb ho
  have hwk:(wordsN (ns.take k)).length≤22*k:=by
   have:=wordsN_len (ns.take k) (fun x hx=>HIN.out x (List.mem_of_mem_take hx))
   rw[List.length_take] at this
   omega
  by_cases hlt:k<ns.length
  ·obtain⟨x,hx⟩:∃x,ns[k]? =some x:=⟨_,List.getElem?_eq_getElem hlt⟩
   have hmem:x∈ns:=List.mem_of_getElem? hx
   have hxi:=HIN.out x hmem
   obtain⟨g,o,rfl,hc⟩:∃g o,A=some ⟨g,o,none⟩∧wr.cell? ⟨g,o+k,none⟩=some (.int .i64 x):=by
    rcases HA.out.keep HO.out with h|⟨g,o,e,_,_,_,hc⟩
    ·rw[h] at hlt;simp at hlt
    ·exact⟨g,o,e,hc k x hx⟩
   have hnx:wordsN (ns.take (k+1))=wordsN (ns.take k)++[32]++Lib.itoa x:=by rw[List.take_add_one,hx,Option.toList_some,wordsN_snoc]
   have ik:(k:Int)<ns.length:=by omega
   have HNX:=Lib.hid hnx
   clear hnx hx hmem
   go_wp2_with fail
   refine(wwriteC (.inr HB.out) (by simp;omega)).mono ?_
   rintro e w2 ⟨rfl,h2,ho2⟩
   have H2:=Lib.hid h2
   have HO2:=Lib.hid (HO.out.trans ho2)
   have HT2:=Lib.hid (tab_ws HT.out hgb hbC HO2.out)
   clear h2 ho2
   go_wp2_with fail
   refine(itoa_any x hxi.1 hxi.2 w2 HT2.out).mono ?_
   rintro e w3 ⟨t3,rfl,ht3,ho3⟩
   have H3:=Lib.hid (H2.out.none_ ho3)
   have HO3:=Lib.hid (HO2.out.trans' ho3 (fun _ _ h=>h.elim))
   have hz3:t3.size≤21:=by rw[size_list,ht3];exact itoa_len hxi.1 hxi.2
   have HT3:=Lib.hid ht3
   clear ho3 ht3
   go_wp2_with fail
   refine(wwriteC (.inr H3.out) (by simp;omega)).mono ?_
   rintro e w4 ⟨rfl,h4,ho4⟩
   have H4:=Lib.hid h4
   have HO4:=Lib.hid (HO3.out.trans ho4)
   clear h4 ho4
   go_wp2_with fail
   go_roundw
   case rel=>exact⟨k+1,by go_num,by omega,by have:=H4.out;rw[HT3.out] at this;rw[HNX.out];simpa using this,HO4.out⟩
   case measure=>simp[intOf];omega
  ·have hall:ns.take k=ns:=List.take_of_length_le (by omega)
   rw[hall] at HB hwk
   have ik:¬(k:Int)<ns.length:=by omega
   clear hall
   go_wp2_with fail
   refine(wwriteC (.inr HB.out) (by simp;omega)).mono ?_
   rintro e w2 ⟨rfl,h2,ho2⟩
   have H2:=Lib.hid h2
   have HO2:=Lib.hid (HO.out.trans ho2)
   clear h2 ho2
   go_wp2_with fail
   go_end0
   exact⟨rfl,by have:=H2.out;unfold lineL;simpa using this,HO2.out⟩
end Go.Proofs.YtpdlbmieciabmaaGreatDoor
namespace Go.Proofs.YtpdlbmieciabmaaGreatDoor
open Go.RowKit Go.Shelf
def IntSl(w:World)(A:Option Addr)(ns:List Int):Prop:=ns=[]∨∃g o,A=some ⟨g,o,none⟩∧g<w.heap.size∧∀(j:Nat) (x:Int),ns[j]? =some x→w.cell? ⟨g,o+j,none⟩=some (.int .i64 x)
theorem IntSl.wr{w w' :World}{A:Option Addr}{ns:List Int}(h:IntSl w A ns)(ho:Only NoneOf w w'){C b:Nat}(hb:w.heap.size≤b)(hC:b<C):IntsW C b A ns w' :=by
 rcases h with h|⟨g,o,hA,h1,h2⟩
 ·exact .inl h
 ·exact .inr ⟨g,o,hA,by omega,by omega,Nat.lt_of_lt_of_le h1 ho.size,fun j x hx=>ho.cell_some (h2 j x hx) (fun h=>h.elim)⟩
structure Bd.Ok(b:Bd):Prop where
 id:In b.bidder
 qi:∀x∈b.qc,In x
 pi:∀x∈b.pc,In x
 qt:b.qt.size≤50000000
 pt:b.pt.size≤50000000
 ql:b.qc.length≤50000000
 pl:b.pc.length≤50000000
theorem lineL_len(word:List UInt8)(l:List Int)(h:∀x∈l,In x):(lineL word l).length≤word.length+22*l.length+1:=by
 have:=wordsN_len l h
 unfold lineL
 simp only[List.length_append,List.length_singleton]
 omega
theorem tab_lt{X:World}(h:Tab X):3<X.heap.size:=by
 have hgl:Tryz.prog.globalNamed pow10=some 3:=by kernel_rfl
 unfold Tab Lib.TabIs World.var? at *
 rw[hgl] at h
 simp only[Option.bind_some] at h
 cases hx:X.heap[3]? with
 |none=>rw[hx] at h;cases h
 |some o=>exact(Array.getElem?_eq_some_iff.1 hx).1
abbrev tBid:TypeId:=42
structure EncK(w:World)(R b C:Nat)(cs:Array Value)(l:List UInt8)(W:World):Prop where
 wr:WBu C b l W
 box:Blk W R tBid cs
 only:Only NoneOf w W
theorem EncK.step{w:World}{R b C:Nat}{cs:Array Value}{l l' :List UInt8}{W W' :World}(h:EncK w R b C cs l W)(hRb:R<b)(hwb:w.heap.size≤b)(hbC:b<C)(hW:WB C b (selfP b) l' W')(ho:Only (WS C b) W W'):EncK w R b C cs l' W' :=
 ⟨.inr hW,h.box.only ho (fun hk=>by rcases hk with hk|hk<;>omega),h.only.trans' ho (fun i hi hk=>by rcases hk with hk|hk<;>omega)⟩
theorem EncK.none_{w:World}{R b C:Nat}{cs:Array Value}{l:List UInt8}{W W' :World}(h:EncK w R b C cs l W)(ho:Only NoneOf W W'):EncK w R b C cs l W' :=
 ⟨h.wr.none_ ho,h.box.only ho (fun h=>h.elim),h.only.trans ho⟩
abbrev bdCells(d:Bd)(qA pA:Option Addr)(qk pk:Nat):Array Value:= #[.int .i64 d.bidder,.string d.qt,.slice qA d.qc.length qk,.string d.pt,.slice pA d.pc.length pk]
set_option maxRecDepth 100000 in
set_option maxHeartbeats 1000000 in
theorem bencode_any(d:Bd)(hd:d.Ok){qA pA:Option Addr}{qk pk:Nat}{w:World}(hq:IntSl w qA d.qc)(hp:IntSl w pA d.pc)(ht:Tab w):
  Calls Tryz.prog 17 #[.agg (bdCells d qA pA qk pk)] w (RetStr (encB d) w):=by
 obtain⟨hid,hqi,hpi,hqt,hpt,hql,hpl⟩:=hd
 obtain⟨R,eR⟩:∃R,R=w.heap.size:=⟨_,rfl⟩
 obtain⟨b,eb⟩:∃b,b=R+1:=⟨_,rfl⟩
 obtain⟨G,eG⟩:∃G,G=b+1:=⟨_,rfl⟩
 obtain⟨C,eC⟩:∃C,C=G+1:=⟨_,rfl⟩
 obtain⟨X,eX⟩:∃X,X=((w.alloc (.cells (bdCells d qA pA qk pk) tBid)).alloc (.cells #[.pointer none,.slice none 0 0] tWr)).alloc (.cells #[.int .i64 d.bidder] 3):=⟨_,rfl⟩
 have hb0:Blk X R tBid (bdCells d qA pA qk pk):=by rw[eX,eR];exact((Blk.new w _ _).alloc _).alloc _
 have hb1:Blk X b tWr #[.pointer none,.slice none 0 0]:=by
  have h:=Blk.new (w.alloc (.cells (bdCells d qA pA qk pk) tBid)) tWr #[.pointer none,.slice none 0 0]
  rw[World.size_alloc,←eR,←eb] at h
  rw[eX];exact h.alloc _
 have hb2:Blk X G 3 #[.int .i64 d.bidder]:=by
  have h:=Blk.new ((w.alloc (.cells (bdCells d qA pA qk pk) tBid)).alloc (.cells #[.pointer none,.slice none 0 0] tWr)) 3 #[.int .i64 d.bidder]
  rw[World.size_alloc,World.size_alloc,←eR,←eb,←eG] at h
  rw[eX];exact h
 have hsz:X.heap.size=C:=by rw[eX];simp;omega
 have hon:Only NoneOf w X:=by rw[eX];exact(((Only.refl _ _).alloc _).alloc _).alloc _
 have hgb:3<b:=by have:=tab_lt ht;omega
 have hK:EncK w R b C (bdCells d qA pA qk pk) [] X:=⟨.inl ⟨by omega,by omega,_,hb1,⟨rfl,.inl ⟨rfl,rfl⟩⟩⟩,hb0,hon⟩
 have hI:IntsW C b (some ⟨G,0,none⟩) [d.bidder] X:= .inr ⟨G,0,rfl,by omega,by omega,by omega,fun j x hx=>by
  match j,hx with
  |0,hx=>simp only[List.getElem?_cons_zero,Option.some.injEq] at hx;subst hx;exact hb2.cell 0⟩
 have HK:=Lib.hid hK
 have HI:=Lib.hid hI
 have HQ:=Lib.hid hq
 have HP:=Lib.hid hp
 have HT:=Lib.hid ht
 have HQI:=Lib.hid hqi
 have HPI:=Lib.hid hpi
 have hbC:b<C:=by omega
 have hRb:R<b:=by omega
 have hwb:w.heap.size≤b:=by omega
 have HEX:=Lib.hid eX
 have HER:=Lib.hid eR
 have HEB:=Lib.hid eb
 have HEG:=Lib.hid eG
 clear hK hI hq hp ht hqi hpi hb0 hb1 hb2 hon hsz eX eR eb eG eC
 have LB:=lineL_len wBid [d.bidder] (fun x hx=>by simp at hx;subst hx;exact hid)
 have LQ:=lineL_len wQuality d.qc HQI.out
 have LQT:=lineL_len (hexL d.qt.data.toList) [] (fun x hx=>by simp at hx)
 have LP:=lineL_len wPrice d.pc HPI.out
 rw[hexL_len,←size_list] at LQT
 have q1:wBid.length=3:=rfl
 have q2:wQuality.length=7:=rfl
 have q3:wPrice.length=5:=rfl
 simp only[List.length_cons,List.length_nil] at LB LQT
 go_enter Tryz.func17,Tryz.ntmps17
 go_wp2_with fail
 rw[←HEX.out,←HER.out,←HEB.out,←HEG.out]
 refine(line_any (C:=C) (ns:=[d.bidder]) _ (by decide) HK.out.wr (by simp) (fun x hx=>by simp at hx;subst hx;exact hid) HI.out (HT.out.none HK.out.only) hgb (by simp)).mono ?_
 rintro e w1 ⟨rfl,h1,ho1⟩
 replace h1:WB C b (selfP b) ([]++lineL wBid [d.bidder]) w1:=h1
 have K1:=Lib.hid (HK.out.step hRb hwb hbC h1 ho1)
 clear h1 ho1
 have c2:=K1.out.box.cell 2
 simp only[List.getElem?_toArray,List.getElem?_cons_zero,List.getElem?_cons_succ] at c2
 go_wp2_with fail
 refine(line_any (C:=C) (ns:=d.qc) _ (by decide) K1.out.wr (by omega) HQI.out (HQ.out.wr K1.out.only hwb hbC) (HT.out.none K1.out.only) hgb (by simp only[List.length_append,List.length_nil];omega)).mono ?_
 rintro e w2 ⟨rfl,h2,ho2⟩
 replace h2:WB C b (selfP b) ([]++lineL wBid [d.bidder]++lineL wQuality d.qc) w2:=h2
 have K2:=Lib.hid (K1.out.step hRb hwb hbC h2 ho2)
 clear h2 ho2 c2
 have c1:=K2.out.box.cell 1
 simp only[List.getElem?_toArray,List.getElem?_cons_zero,List.getElem?_cons_succ] at c1
 go_wp2_with fail
 refine(bhex_any d.qt hqt w2).mono ?_
 rintro e w3 ⟨t3,rfl,ht3,ho3⟩
 have K3:=Lib.hid (K2.out.none_ ho3)
 have L3:t3.size≤100000000:=by rw[size_list,ht3,hexL_len,←size_list];omega
 have HT3:=Lib.hid ht3
 clear ho3 c1 ht3
 go_wp2_with fail
 refine(line_any (C:=C) (ns:=[]) t3 (by omega) K3.out.wr (by simp) (fun x hx=>by simp at hx) (.inl rfl) (HT.out.none K3.out.only) hgb (by simp only[List.length_append,List.length_nil];omega)).mono ?_
 rintro e w4 ⟨rfl,h4,ho4⟩
 rw[HT3.out] at h4
 replace h4:WB C b (selfP b) ([]++lineL wBid [d.bidder]++lineL wQuality d.qc++lineL (hexL d.qt.data.toList) []) w4:=h4
 have K4:=Lib.hid (K3.out.step hRb hwb hbC h4 ho4)
 clear h4 ho4
 have c4:=K4.out.box.cell 4
 simp only[List.getElem?_toArray,List.getElem?_cons_zero,List.getElem?_cons_succ] at c4
 go_wp2_with fail
 refine(line_any (C:=C) (ns:=d.pc) _ (by decide) K4.out.wr (by omega) HPI.out (HP.out.wr K4.out.only hwb hbC) (HT.out.none K4.out.only) hgb (by simp only[List.length_append,List.length_nil];omega)).mono ?_
 rintro e w5 ⟨rfl,h5,ho5⟩
 replace h5:WB C b (selfP b) ([]++lineL wBid [d.bidder]++lineL wQuality d.qc++lineL (hexL d.qt.data.toList) []++lineL wPrice d.pc) w5:=h5
 have K5:=Lib.hid (K4.out.step hRb hwb hbC h5 ho5)
 clear h5 ho5 c4
 have c3:=K5.out.box.cell 3
 simp only[List.getElem?_toArray,List.getElem?_cons_zero,List.getElem?_cons_succ] at c3
 go_wp2_with fail
 refine(bhex_any d.pt hpt w5).mono ?_
 rintro e w6 ⟨t6,rfl,ht6,ho6⟩
 have K6:=Lib.hid (K5.out.none_ ho6)
 have L6:t6.size≤100000000:=by rw[size_list,ht6,hexL_len,←size_list];omega
 have HT6:=Lib.hid ht6
 clear ho6 c3 ht6
 go_wp2_with fail
 refine(line_any (C:=C) (ns:=[]) t6 (by omega) K6.out.wr (by simp) (fun x hx=>by simp at hx) (.inl rfl) (HT.out.none K6.out.only) hgb (by simp only[List.length_append,List.length_nil];omega)).mono ?_
 rintro e w7 ⟨rfl,h7,ho7⟩
 rw[HT6.out] at h7
 have HE7:Hid (WB C b (selfP b) (encB d) w7):=Lib.hid (by have h:=h7;simp only[List.nil_append,List.append_assoc] at h;unfold encB;simp only[List.append_assoc];exact h)
 have K7:=Lib.hid (K6.out.step hRb hwb hbC h7 ho7)
 clear h7 ho7
 go_wp2_with fail
 refine(wstring_any (B:=b) (l:=encB d) (.inr HE7.out.at_) (fun e=>by have e2:=congrArg List.length e;simp[encB,lineL,wBid] at e2)).mono ?_
 rintro e w8 ⟨rfl,hbel⟩
 have HO8:=Lib.hid (K7.out.only.below' hbel hwb)
 clear hbel
 go_wp2_with fail
 go_ret
 exact RetStr.mk (by simp) HO8.out
end Go.Proofs.YtpdlbmieciabmaaGreatDoor
namespace Go.Proofs.YtpdlbmieciabmaaGreatDoor
open Go.RowKit Go.Shelf
end Go.Proofs.YtpdlbmieciabmaaGreatDoor
namespace Go.Proofs.YtpdlbmieciabmaaGreatDoor
open Go.RowKit Go.Shelf
end Go.Proofs.YtpdlbmieciabmaaGreatDoor
