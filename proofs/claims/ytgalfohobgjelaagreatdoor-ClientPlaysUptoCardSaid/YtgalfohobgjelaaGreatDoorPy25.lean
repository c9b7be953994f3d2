/- What is proved here: a part of the proof that 'probitylaw31.ClientPlays' answers true. Conditions: each theorem's own. -/
import Derived.Test.YtgalfohobgjelaaGreatDoorPy16
import Derived.Test.YtgalfohobgjelaaGreatDoorPy24
import Derived.Lib.UnsafeStr
set_option maxRecDepth 100000
set_option maxHeartbeats 8000000
namespace Go.Proofs.YtgalfohobgjelaaGreatDoor
section
def ΩaC(l:List Int):List UInt8:=l.flatMap (fun n=>32::Lib.itoa n)
def Ωci(word:List UInt8)(l:List Int):List UInt8:=word++ΩaC l++[10]
structure Bd where
 bidder:Int
 qt:ByteArray
 qc:List Int
 pt:ByteArray
 pc:List Int
def wBid:List UInt8:=[98,105,100]
def ΩbP:List UInt8:=[113,117,97,108,105,116,121]
def Ωf6:List UInt8:=[112,114,105,99,101]
def encB(b:Bd):List UInt8:=Ωci wBid [b.bidder]++Ωci ΩbP b.qc++Ωci (hexL b.qt.data.toList) []++Ωci Ωf6 b.pc++Ωci (hexL b.pt.data.toList) []
def bidW(n:Int):Bd:=⟨60,⟨#[113,UInt8.ofNat (97+(n%4).toNat)]⟩,[4],⟨#[]⟩,[]⟩
def bidT(n:Int):ByteArray:=⟨(encB (bidW n)).toArray⟩
structure Wd where
 off:Nat
 kinds:List UInt8
 fork:Nat
structure Wd.Ok(d:Wd):Prop where
 off:d.off<256
 fork:d.fork<256
def Wd.n(d:Wd):Nat:=1+d.off%7
noncomputable def bidder(k:Nat):Pers:=⟨(k:Int),4,(pub (secI k):Int)⟩
noncomputable def setW(d:Wd):List Pers:=setB d.n++[bidder 60,bidder 61]
def ΩlC:ByteArray:=⟨#[97,110,115,119,101,114]⟩
def Ωb8(d:Wd)(second:Bool)(k:Nat)(last:Hs)(x:Nat):Ev:=
 {seq:=(k:Int),kind:=if x%4=0 then 3 else 4,who:=if x%4=0 then 50 else 60+((x%4/3:Nat):Int),time:=(k:Int),bidder:=0,lot:=0,n:=if second=true∧d.fork%12≤k then 1 else 0,other:=0,name:=⟨#[]⟩,text:=if x%4=0 then ΩlC else bidT ((x/4:Nat):Int),sx:=0,sy:=0,prev:=last,r:=0,s:=0}
noncomputable def evAt(d:Wd)(second:Bool)(k:Nat)(last:Hs)(x:Nat):Ev:=Ωem (secI (Ωb8 d second k last x).who) (Ωb8 d second k last x)
noncomputable def ΩcY(d:Wd)(second:Bool):Nat→Hs→List UInt8→List Ev
 |_,_,[]=>[]
 |k,last,x::l=>evAt d second k last x.toNat::ΩcY d second (k+1) (ΩdL (evAt d second k last x.toNat)) l
noncomputable def evsW(d:Wd)(second:Bool):List Ev:=ΩcY d second 0 Ωr (d.kinds.take 12)
noncomputable def ΩjX(last:Hs):List Ev→Hs
 |[]=>last
 |e::l=>ΩjX (ΩdL e) l
theorem Ωfc(e:Ev):∀(l:List Ev) (last:Hs),ΩjX last (l++[e])=ΩdL e
 |[],_=>rfl
 |x::l,last=>by rw[Ωn9];exact Ωfc e l _
theorem ΩhK(d:Wd)(second:Bool)(x:UInt8):∀(l:List UInt8) (k:Nat) (last:Hs),ΩcY d second k last (l++[x])=ΩcY d second k last l++[evAt d second (k+l.length) (ΩjX last (ΩcY d second k last l)) x.toNat]
 |[],k,last=>rfl
 |y::l,k,last=>by
  rw[Ωn9]
  simp only[ΩcY]
  rw[ΩhK d second x l,Ωn9,ΩnD]
  simp only[ΩjX]
  rw[show k+1+l.length=k+(l.length+1) by omega]
theorem ΩgS(d:Wd)(second:Bool):∀(l:List UInt8) (k:Nat) (last:Hs),(ΩcY d second k last l).length =l.length
 |[],_,_=>rfl
 |x::l,k,last=>by simp only[ΩcY,ΩnD,ΩgS d second l]
theorem bidT_size(n:Int):(bidT n).size≤60:=by
 have h:∀k:Fin 4,((encB ⟨60,⟨#[113,UInt8.ofNat (97+k.val)]⟩,[4],⟨#[]⟩,[]⟩).toArray).size≤60:=by decide+kernel
 have hk:(n%4).toNat <4:=by omega
 exact h ⟨(n%4).toNat,hk⟩
theorem ΩkT(d:Wd)(second:Bool)(k:Nat)(hk:k≤2000)(last:Hs)(hl:last.length=32)(x:Nat):(Ωb8 d second k last x).Ok :=by
 have h3:x%4/3≤1:=by omega
 refine⟨?_,?_,?_,?_,?_,?_,?_,?_,?_,?_,hl,?_,?_⟩
 all_goals(unfold Ωb8 In;simp only)
 any_goals (constructor<;>omega)
 all_goals(split<;>constructor<;>omega)
theorem ΩgV(d:Wd)(second:Bool)(k:Nat)(last:Hs)(x:Nat):(Ωb8 d second k last x).name.size≤100∧(Ωb8 d second k last x).text.size≤100:=by
 unfold Ωb8
 simp only
 refine⟨by decide,?_⟩
 split
 ·decide
 ·exact Ωnz (bidT_size _) (by omega)
noncomputable def Ωdf(l:List Ev):List ByteArray:=l.map (fun e=>⟨(ΩaJ e).toArray⟩)
end
section
open Go.RowKit Go.Shelf
theorem ΩgA:liesAt Tryz.prog Tryz.prog.depth 163 (2/Tryz.prog.cellsOf 163) 0 161 1=true:=by kernel_rfl
theorem wcheck_any{B b:Nat}{bs:List Value}{w:World}(h:Lib.IsBuilder 163 5 B b bs w):
  Calls Tryz.prog 179 #[.pointer (some ⟨b,0,none⟩)] w fun e w' =>e= .returned (.tuple #[])∧Lib.BuilderAt 163 5 B b (.pointer (some ⟨b,0,none⟩)) bs w'∧Below B w w' :=by
 obtain⟨j,hj,hjs⟩:=Option.map_eq_some_iff.1 Ωc8
 rcases h with h|h
 ·have c0:=h.cell0
  have f0:=h.frozen0
  have hsh:=h.shape
  have hto:=fun W (hW:World.shape? W b=some (163,2))=>Lib.run_to_unsafe (P:=Tryz.prog) W ⟨b,0,none⟩ Tryz.underlying159 Tryz.underlying239 hj (by rw[hjs];decide) hW (Nat.zero_lt_succ 1)
  have hfr:=Lib.run_from_unsafe (P:=Tryz.prog) w ⟨b,0,none⟩ Tryz.underlying239 Tryz.underlying159 hj hsh ΩgA
  have h1:=hto w hsh
  have HH:=Θ h
  clear h hto hsh
  go_enter Tryz.func179,Tryz.ntmps179
  go_wp2_with fail
  rw[run_callFunc_extern Tryz.func195 (by kernel_rfl) (by kernel_rfl) (by kernel_rfl) (e:=Extern.AbiNoEscape.same) (by kernel_rfl)]
  rw[Lib.run_noEscape]
  simp only[Result.andThen]
  rw[Oper.upon_value]
  go_wp2_with fail
  go_end0
  have hu:=HH.out.used (.pointer (some ⟨b,0,none⟩))
  exact⟨rfl,hu,(Below.refl _ _).setCell (p:=⟨b,0,none⟩) HH.out.1 _⟩
 ·have c0:=h.cell0
  have hne:=Lib.run_neq_ptr_same (P:=Tryz.prog) w ⟨b,0,none⟩ Tryz.underlying159 hj
  have HH:=Θ h
  clear h
  go_enter Tryz.func179,Tryz.ntmps179
  go_wp2_with fail
  go_end0
  exact⟨rfl,HH.out,Below.refl _ _⟩
theorem Ωlo{B b:Nat}{l:List UInt8}{c:UInt8}{w:World}(h:Lib.IsBuilder 163 5 B b (Lib.byteCells l) w)(hlen:l.length+1≤140737488355328)(hBw:B≤w.heap.size):
  Calls Tryz.prog 156 #[.pointer (some ⟨b,0,none⟩),.int .u8 (c.toNat:Int)] w fun e w' =>e= .returned .nilIface∧Lib.IsBuilder 163 5 B b (Lib.byteCells (l++[c])) w'∧Below B w w' :=by
 obtain⟨i0,hi,hz0,hz1,hz2⟩:=info_parts Tryz.info5
 have H:=Θ h
 clear h
 go_enter Tryz.func156,Tryz.ntmps156
 go_wp2_with fail
 refine(wcheck_any H.out).mono ?_
 rintro e w1 ⟨rfl,h1,hb1⟩
 obtain⟨hB,v,hbk,hown,hne⟩:=h1
 have c0:w1.cell? ⟨b,0,none⟩=some (.pointer (some ⟨b,0,none⟩)):=by rw[Lib.cell_of_heap hbk];rfl
 have c1:w1.cell? ⟨b,1,none⟩=some v:=by rw[Lib.cell_of_heap hbk];rfl
 have hlt:b<w1.heap.size:=(Ωob.1 hbk).1
 have hsz:=hb1.size
 have HBK:=Θ hbk
 have HOWN:=Θ hown
 have HNE:=Θ hne
 have HB1:=Θ hb1
 rw[Lib.byteCells_length] at HOWN
 clear hbk hown hne hb1
 go_wp2_with (at_builtin;refine wpList_append_own _ rfl _ _ 22 rfl B 5 i0 (.int .u8 0) 1 1 Tryz.underlying22 hi hz0 hz1 hz2 rfl (by decide) _ _ _ rfl (HOWN.out.alloc _) ⟨w1.heap.size,0,none⟩ 1 1 [.int .u8 (c.toNat:Int)] rfl rfl (fun j u hj=>by match j,hj with|0,hj=>simp at hj;subst hj;simp[Addr.add]) (fun u hu=>by simp at hu;subst hu;rfl) (by unfold maxLen;omega) (by omega) (by simp;omega) ?_;intro v' w2 hown' hgrow _;have hb2:w2.heap[b]? =some (.cells #[.pointer (some ⟨b,0,none⟩),v] 163 (0,0)):=(by rw[hgrow.block b (by simp;omega) (fun e=>HNE.out e.symm),Lib.alloc_old w1 _ b hlt];exact HBK.out);obtain⟨ao,cap,hv',hcc,hcm⟩:=Ωt hown';subst hv';have d0:w2.cell? ⟨b,0,none⟩=some (.pointer (some ⟨b,0,none⟩)):=(by rw[Lib.cell_of_heap hb2];rfl);have d1:w2.cell? ⟨b,1,none⟩=some v:=(by rw[Lib.cell_of_heap hb2];rfl);have f1:w2.frozen? ⟨b,1,none⟩=false:=Lib.frozen_of_heap hb2 1;have HB2:=Θ hb2;have HOW2:=Θ hown';have HGR:=Θ hgrow;clear hb2 hown' hgrow)
 go_ret
 refine⟨rfl,.inr ?_,?_⟩
 ·refine Lib.BuilderAt.put (T:=163) (e:=5) hB HB2.out (bs' :=Lib.byteCells (l++[c])) ?_ (by decide)
  have h:=HOW2.out
  have e:Lib.byteCells (l++[c])=Lib.byteCells l++[.int .u8 (c.toNat:Int)]:=by simp[Lib.byteCells]
  rw[Lib.byteCells_length,ΩnA,e]
  exact h
 ·exact((HB1.out.alloc (by have:=HB1.out.size;omega) _).grown HGR.out (by have:=HB1.out.size;simp;omega) (fun k hk=>(HOWN.out.lt k hk).1)).setCell (p:=⟨b,1,none⟩) hB _
theorem cellsByte:Tryz.prog.cellsOf 5=1:=by kernel_rfl
theorem Ωf3{B b:Nat}{l:List UInt8}{w:World}(h:Lib.IsBuilder 163 5 B b (Lib.byteCells l) w)(h0:l≠[]):
  Calls Tryz.prog 111 #[.pointer (some ⟨b,0,none⟩)] w fun e w' =>e= .returned (.string ⟨l.toArray⟩)∧Below B w w' :=by
 obtain⟨p,hB,v,hbk,hown,hne⟩:∃p,Lib.BuilderAt 163 5 B b p (Lib.byteCells l) w:=by
  rcases h with h|h
  ·exact⟨_,h⟩
  ·exact⟨_,h⟩
 have hl0:l.length≠0:=by simpa using h0
 rw[Lib.byteCells_length] at hown
 obtain⟨g,cap,cur,rfl,hbg,hg,hnc,hcm,hcs,htake⟩:∃g cap cur,v= .slice (some ⟨g,0,none⟩) l.length cap∧B≤g∧w.heap[g]? =some (.cells cur 5 (0,0))∧l.length≤cap∧cap≤maxLen∧cur.size=cap*1∧cur.toList.take (l.length*1)=Lib.byteCells l:=by
  rcases hown.2 with⟨_,hz⟩|⟨g,cap,cur,hv,r⟩
  ·exact absurd hz hl0
  ·exact⟨g,cap,cur,hv,r⟩
 rw[Ωg] at hcm
 have c1:w.drew.cell? ⟨b,1,none⟩=some (.slice (some ⟨g,0,none⟩) l.length cap):=by
  have h1:w.drew.heap[b]? =some (.cells #[p,.slice (some ⟨g,0,none⟩) l.length cap] 163 (0,0)):=hbk
  rw[Lib.cell_of_heap h1];rfl
 have hSD:(Builtin.unsafeSliceData_ #[22] 206 #[.slice (some ⟨g,0,none⟩) l.length cap]).run Tryz.prog w.drew= .ok (.pointer (some ⟨g,0,none⟩)) w.drew:=
  Lib.run_unsafeSliceData_row _ _ _ _ _ _ (by omega)
 have hUS:(Builtin.unsafeString_ #[206,3] 9 #[.pointer (some ⟨g,0,none⟩),.int .i64 l.length]).run Tryz.prog w.drew= .ok (.string ⟨l.toArray⟩) (w.drew.freeze ⟨g,0,none⟩ l.length):=by
  refine Lib.run_unsafeString_row w.drew 206 3 9 5 Tryz.underlying206 cellsByte g cur.size (by have hg' :w.drew.heap[g]? =some (.cells cur 5 (0,0)):=hg;simp[World.shape?,hg']) l h0 (by omega) (by omega) ?_
  intro j x hx
  exact hown.cells (g:=g) rfl j (.int .u8 x.toNat) (by simp[Lib.byteCells,hx])
 clear hown hg htake hcs hbk h hne
 go_enter Tryz.func111,Tryz.ntmps111
 go_wp2_with fail
 go_region
 all_goals
  go_wp2_with fail
  go_ret
  exact⟨rfl,Lib.below_freeze (Below.drew (Below.refl B w)) (p:=⟨g,0,none⟩) hbg _⟩
theorem wstring_none{b:Nat}{w:World}(h:w.cell? ⟨b,1,none⟩=some (.slice none 0 0)):
  Calls Tryz.prog 111 #[.pointer (some ⟨b,0,none⟩)] w fun e w' =>e= .returned (.string ⟨#[]⟩)∧Only Ωa w w' :=by
 have c1:w.drew.cell? ⟨b,1,none⟩=some (.slice none 0 0):=h
 have hSD:(Builtin.unsafeSliceData_ #[22] 206 #[.slice none 0 0]).run Tryz.prog w.drew= .ok (.pointer none) w.drew:=rfl
 have hUS:(Builtin.unsafeString_ #[206,3] 9 #[.pointer none,.int .i64 0]).run Tryz.prog w.drew= .ok (.string .empty) w.drew:=Lib.run_unsafeString_none _ _ _ _ _
 clear h
 go_enter Tryz.func111,Tryz.ntmps111
 go_wp2_with fail
 go_region
 all_goals
  go_wp2_with fail
  go_ret
  exact⟨rfl,(Only.refl _ _).drew⟩
end
section
open Go.RowKit Go.Shelf
theorem Ωla(t:ByteArray)(hl:t.size≤1000000)(w:World):Calls Tryz.prog 110 #[.string t] w (Ωq (hexL t.data.toList) w):=by
 obtain⟨h,eh⟩:∃h,h=t.data.toList:=⟨_,rfl⟩
 have hlen:h.length=t.size:=by rw[eh,Ωc]
 have hb0:=Lib.fresh_isBuilder 163 5 w
 have ho0:Only Ωa w (w.alloc (.cells #[.pointer none,.slice none 0 0] 163)):=(Only.refl _ _).alloc _
 have hc0:(w.alloc (.cells #[.pointer none,.slice none 0 0] 163)).cell? ⟨w.heap.size,1,none⟩=some (.slice none 0 0):=Blk.cell (Blk.new w 163 #[.pointer none,.slice none 0 0]) 1
 have HB0:=Θ hb0
 have HO0:=Θ ho0
 have HC0:=Θ hc0
 have HL:=Θ hl
 have HLEN:=Θ hlen
 have EH:=Θ eh
 rw[←eh]
 clear hb0 ho0 hl eh hc0 hlen
 go_enter Tryz.func110,Tryz.ntmps110
 go_wp2_with fail
 obtain⟨Y,eY⟩:∃Y,Y=w.alloc (.cells #[.pointer none,.slice none 0 0] 163):=⟨_,rfl⟩
 have hb1:=HB0.out
 have ho1:=HO0.out
 have hc1:=HC0.out
 rw[←eY] at hb1 ho1 hc1
 rw[←eY]
 obtain⟨B,eB⟩:∃B,B=w.heap.size:=⟨_,rfl⟩
 rw[←eB] at hb1 hc1⊢
 have HB1:=Θ hb1
 have HO1:=Θ ho1
 have HC1:=Θ hc1
 have hBw:w.heap.size≤B:=by omega
 have hBY:B≤Y.heap.size:=by rw[eY,eB];simp
 clear hb1 ho1 hc1 eY eB HB0 HO0 HC0
 go_loopw [7] (fun i wr=>∃k:Nat,i= .int .i64 k∧k≤t.size∧Lib.IsBuilder 163 5 B B (Lib.byteCells (hexL (h.take k))) wr∧Only Ωa w wr∧B≤wr.heap.size∧(k=0→wr.cell? ⟨B,1,none⟩=some (.slice none 0 0))) (fun i _=>t.size-(intOf i).toNat)
 case atStart=>exact⟨0,rfl,by omega,by simpa [hexL,Lib.byteCells] using HB1.out,HO1.out,hBY,fun _=>HC1.out⟩
 case round=>
  obtain⟨k,rfl,hk,hb,ho,hB,hz⟩:=hrel
  have HB:=Θ hb
  have HO:=Θ ho
  have HZ:=Θ hz
  clear hb ho hz
  by_cases hlt:k<t.size
  ·obtain⟨x,hx⟩:∃x,h[k]? =some x:=⟨_,Ωnu (by have:=HLEN.out;omega)⟩
   have hix:t.data[k]? =some x:=by have e:=EH.out;rw[e] at hx;simpa using hx
   have hnx:hexL (h.take (k+1))=hexL (h.take k)++[hexC (x.toNat/16)]++[hexC (x.toNat%16)]:=by
    rw[ΩnO,hx,ΩnS,ΩeH]
   have hlk:(hexL (h.take k)).length≤2000000:=by rw[ΩY,ΩnB];have:=HL.out;omega
   have hx256:=x.toNat_lt
   have ik:(k:Int)<t.size:=by omega
   have hk6:k≤1000000:=by have:=HL.out;omega
   have hts:t[k]'hlt=x:=by
    have e:t.data[k]? =some (t[k]'hlt):=Array.getElem?_eq_getElem _
    rw[hix] at e
    exact(Option.some.inj e).symm
   have HNX:=Θ hnx
   clear hnx hx hix
   go_wp2_with fail
   refine(Ωlo HB.out (by omega) hB).mono ?_
   rintro e w1 ⟨rfl,hb1,hbel1⟩
   rw[ΩfS] at hb1
   have ho1:=HO.out.below' hbel1 hBw
   have hB1:B≤w1.heap.size:=Ωnz hB hbel1.size
   have HB1:=Θ hb1
   have HO1:=Θ ho1
   clear hb1 ho1 hbel1
   go_wp2_with fail
   refine(Ωlo HB1.out (by rw[ΩnA,Ωoq];omega) hB1).mono ?_
   rintro e w2 ⟨rfl,hb2,hbel2⟩
   rw[ΩfS,←HNX.out] at hb2
   have ho2:=HO1.out.below' hbel2 hBw
   have hB2:B≤w2.heap.size:=Ωnz hB1 hbel2.size
   have HB2:=Θ hb2
   have HO2:=Θ ho2
   clear hb2 ho2 hbel2
   go_wp2_with fail
   go_roundw
   case rel=>exact⟨k+1,by go_num,by omega,HB2.out,HO2.out,hB2,fun h=>by omega⟩
   case measure=>simp[intOf];omega
  ·have hall:h.take k=h:=ΩnI (by have:=HLEN.out;omega)
   rw[hall] at HB
   have ik:¬(k:Int)<t.size:=by omega
   clear hall
   by_cases hk0:k=0
   ·have hh:h=[]:=ΩnZ (by have:=HLEN.out;omega)
    have hc:=HZ.out hk0
    have HC:=Θ hc
    clear hc HZ
    go_wp2_with fail
    refine(wstring_none HC.out).mono ?_
    rintro e w1 ⟨rfl,hon⟩
    have HO1:=Θ (HO.out.trans hon)
    clear hon
    go_wp2_with fail
    go_ret
    exact Ωq.mk (by rw[hh];rfl) HO1.out
   ·have hh:hexL h≠[]:=fun e=>by
     have e2:=congrArg List.length e
     rw[ΩY] at e2
     have:=HLEN.out
     simp only[Ωn8] at e2
     omega
    have HH:=Θ hh
    clear hh HZ
    go_wp2_with fail
    refine(Ωf3 HB.out HH.out).mono ?_
    rintro e w1 ⟨rfl,hbel⟩
    have HO1:=Θ (HO.out.below' hbel hBw)
    clear hbel
    go_wp2_with fail
    go_ret
    exact Ωq.mk (by simp) HO1.out
end
section
open Go.RowKit Go.Shelf
abbrev tWr:TypeId:=163
def WB(C b:Nat)(p:Value)(l:List UInt8)(w:World):Prop:=b<C∧C≤w.heap.size∧∃v,Blk w b tWr #[p,v]∧w.ownsRow C 5 1 v l.length (Lib.byteCells l)
abbrev Ωeo(b:Nat):Value:= .pointer (some ⟨b,0,none⟩)
def WBu(C b:Nat)(l:List UInt8)(w:World):Prop:=WB C b (.pointer none) l w∨WB C b (Ωeo b) l w
def WS(C b:Nat):Nat→Prop:=fun k=>k=b∨C≤k
theorem WB.at_{C b:Nat}{p:Value}{l:List UInt8}{w:World}(h:WB C b p l w):Lib.BuilderAt tWr 5 b b p (Lib.byteCells l) w:=by
 obtain⟨h1,h2,v,hb,ho⟩:=h
 refine⟨Ωnv _,v,hb,?_,fun e=>by have:=(ΩJ ho e).1;omega⟩
 rw[Lib.byteCells_length]
 obtain⟨hl,ho⟩:=ho
 refine⟨hl,?_⟩
 rcases ho with h|⟨g,cap,cur,e1,e2,r⟩
 ·exact .inl h
 ·exact .inr ⟨g,cap,cur,e1,by omega,r⟩
theorem WB.none_{C b:Nat}{p:Value}{l:List UInt8}{w w' :World}(h:WB C b p l w)(ho:Only Ωa w w'):WB C b p l w' :=by
 obtain⟨h1,h2,v,hb,hw⟩:=h
 exact⟨h1,Ωnz h2 ho.size,v,hb.only ho (fun h=>h.elim),Ωe hw ho (fun _ _ h=>h.elim)⟩
theorem WBu.none_{C b:Nat}{l:List UInt8}{w w' :World}(h:WBu C b l w)(ho:Only Ωa w w'):WBu C b l w' :=h.imp (·.none_ ho) (·.none_ ho)
theorem WB.put{C b:Nat}{p:Value}{l:List UInt8}{w:World}(h:WB C b p l w):WB C b (Ωeo b) l (w.setCell ⟨b,0,none⟩ (Ωeo b)):=by
 obtain⟨h1,h2,v,hb,hw⟩:=h
 refine⟨h1,by simpa using h2,v,Blk.set_ hb 0 _,Ωgv hw (p:=⟨b,0,none⟩) (fun e=>by have:=(ΩJ hw e).1;simp only at this;omega) _⟩
theorem ccheckC{C b:Nat}{l:List UInt8}{w:World}(h:WBu C b l w):
  Calls Tryz.prog 179 #[.pointer (some ⟨b,0,none⟩)] w fun e w' =>e= .returned (.tuple #[])∧WB C b (Ωeo b) l w'∧Only (WS C b) w w' :=by
 obtain⟨j,hj,hjs⟩:=Option.map_eq_some_iff.1 Ωc8
 rcases h with h0|h0
 ·have h:=h0.at_
  have c0:=h.cell0
  have f0:=h.frozen0
  have hsh:=h.shape
  have hto:=fun W (hW:World.shape? W b=some (163,2))=>Lib.run_to_unsafe (P:=Tryz.prog) W ⟨b,0,none⟩ Tryz.underlying159 Tryz.underlying239 hj (by rw[hjs];decide) hW (Nat.zero_lt_succ 1)
  have hfr:=Lib.run_from_unsafe (P:=Tryz.prog) w ⟨b,0,none⟩ Tryz.underlying239 Tryz.underlying159 hj hsh ΩgA
  have h1:=hto w hsh
  have HH:=Θ h0
  clear h hto hsh h0
  go_enter Tryz.func179,Tryz.ntmps179
  go_wp2_with fail
  rw[run_callFunc_extern Tryz.func195 (by kernel_rfl) (by kernel_rfl) (by kernel_rfl) (e:=Extern.AbiNoEscape.same) (by kernel_rfl)]
  rw[Lib.run_noEscape]
  simp only[Result.andThen]
  rw[Oper.upon_value]
  go_wp2_with fail
  go_end0
  exact⟨rfl,HH.out.put,(Only.refl _ _).setCell (p:=⟨b,0,none⟩) (.inl (.inl rfl)) _⟩
 ·have c0:=h0.at_.cell0
  have hne:=Lib.run_neq_ptr_same (P:=Tryz.prog) w ⟨b,0,none⟩ Tryz.underlying159 hj
  have HH:=Θ h0
  clear h0
  go_enter Tryz.func179,Tryz.ntmps179
  go_wp2_with fail
  go_end0
  exact⟨rfl,HH.out,Only.refl _ _⟩
theorem ΩhU{C b:Nat}{l:List UInt8}{s:ByteArray}{w:World}(h:WBu C b l w)(hlen:l.length+s.size≤140737488355328):
  Calls Tryz.prog 155 #[.pointer (some ⟨b,0,none⟩),.string s] w fun e w' =>e= .returned (.tuple #[.int .i64 s.size,.nilIface])∧WB C b (Ωeo b) (l++s.data.toList) w'∧Only (WS C b) w w' :=by
 obtain⟨i0,hi,hz0,hz1,hz2⟩:=info_parts Tryz.info5
 have H:=Θ h
 clear h
 go_enter Tryz.func155,Tryz.ntmps155
 go_wp2_with fail
 refine(ccheckC H.out).mono ?_
 rintro e w1 ⟨rfl,h1,hb1⟩
 obtain⟨hbC,hCs,v,hbk,hown⟩:=h1
 have c1:w1.cell? ⟨b,1,none⟩=some v:=hbk.cell 1
 have hne:v.ownBlock≠some b:=fun e=>by have:=(ΩJ hown e).1;omega
 have HBK:=Θ hbk
 have HOWN:=Θ hown
 have HNE:=Θ hne
 have HB1:=Θ hb1
 clear hbk hown hne hb1
 go_wp2_with (at_builtin;refine Lib.wpList_append_own_string _ rfl _ _ 22 9 rfl C 5 i0 Tryz.underlying22 Tryz.underlying9 hi hz0 hz1 hz2 _ _ _ rfl HOWN.out s rfl (by unfold maxLen;omega) (by omega) (by omega) ?_;intro v' w2 hown' hgrow _;have hb2:Blk w2 b tWr #[Ωeo b,v]:=HBK.out.grown hgrow (fun e=>HNE.out e.symm);obtain⟨ao,cap,hv',hcc,hcm⟩:=Ωt hown';subst hv';have d1:=hb2.cell 1;have f1:=hb2.frozen 1;have HB2:=Θ hb2;have HOW2:=Θ hown';have HGR:=Θ hgrow;clear hb2 hown' hgrow)
 go_ret2
 refine⟨rfl,?_,?_⟩
 ·have hw:=HOW2.out
  have hne2:(Value.slice ao (l.length+s.size) cap).ownBlock≠some b:=fun e=>by have:=(ΩJ hw e).1;omega
  refine⟨hbC,by have:=HGR.out.size;simp;omega,_,Blk.set_ HB2.out 1 _,?_⟩
  have e:Lib.byteCells (l++s.data.toList)=Lib.byteCells l++Lib.strCells s:=by simp[Lib.byteCells,Lib.strCells]
  rw[ΩnA,e,←Ωc]
  exact Ωgv hw (p:=⟨b,1,none⟩) hne2 _
 ·exact(HB1.out.grown HGR.out (fun k hk=> .inl (.inr (ΩJ HOWN.out hk).1))).setCell (p:=⟨b,1,none⟩) (.inl (.inl rfl)) _
def Ωll(C b:Nat)(A:Option Addr)(ns:List Int)(w:World):Prop:=ns=[]∨∃g o,A=some ⟨g,o,none⟩∧g<C∧g≠b∧g<w.heap.size∧∀(j:Nat) (x:Int),ns[j]? =some x→w.cell? ⟨g,o+j,none⟩=some (.int .i64 x)
theorem Ωll.keep{C b:Nat}{A:Option Addr}{ns:List Int}{w w' :World}(h:Ωll C b A ns w)(ho:Only (WS C b) w w'):Ωll C b A ns w' :=by
 rcases h with h|⟨g,o,hA,h1,h2,h3,h4⟩
 ·exact .inl h
 ·refine .inr ⟨g,o,hA,h1,h2,ΩnT h3 ho.size,fun j x hx=> ?_⟩
  exact ho.cell_some (h4 j x hx) (fun h=>by rcases h with h|h<;>simp only at h<;>omega)
theorem tab_ws{C b:Nat}{w w' :World}(h:Tab w)(hb:3<b)(hC:b<C)(ho:Only (WS C b) w w'):Tab w' :=h.only ho (fun k hk=>by rcases hk with hk|hk<;>omega)
theorem ΩdV(l:List Int)(x:Int):ΩaC (l++[x])=ΩaC l++[32]++Lib.itoa x:=by simp[ΩaC]
theorem Ωdw:∀(l:List Int),(∀x∈l,In x)→(ΩaC l).length≤22*l.length
 |[],_=>by simp[ΩaC]
 |x::l,h=>by
  have h1:=Ωdw l (fun y hy=>h y (by simp[hy]))
  have h2:=ΩV (h x (by simp)).1 (h x (by simp)).2
  have e:ΩaC (x::l)=(32::Lib.itoa x)++ΩaC l:=rfl
  rw[e,ΩnA,ΩnD,ΩnD]
  omega
theorem ΩeC{C b:Nat}{l:List UInt8}(word:ByteArray)(hwd:word.size≤10000000){A:Option Addr}{cap:Nat}{ns:List Int}{w:World}(h:WBu C b l w)(hns:ns.length≤1000000)(hin:∀x∈ns,In x)(hA:Ωll C b A ns w)(ht:Tab w)(hgb:3<b)(hlen:l.length≤1000000000):
  Calls Tryz.prog 109 #[.pointer (some ⟨b,0,none⟩),.string word,.slice A ns.length cap] w fun e w' =>e= .returned (.tuple #[])∧WB C b (Ωeo b) (l++Ωci word.data.toList ns) w'∧Only (WS C b) w w' :=by
 have hmf:∀(fn:Fn) (first cap:Array Value) (w:World),(Instr.makeFunc fn first cap).run Tryz.prog w= .ok (.func fn first cap) w:=fun _ _ _ _=>rfl
 have hbC:b<C:=by rcases h with h|h<;>exact h.1
 have H:=Θ h
 have q32:(⟨#[32]⟩:ByteArray).size =1:=rfl
 have q10:(⟨#[10]⟩:ByteArray).size =1:=rfl
 have HIN:=Θ hin
 have HA:=Θ hA
 have HT:=Θ ht
 have hwl:word.data.toList.length=word.size:=by rw[Ωc]
 clear h hin hA ht
 go_enter Tryz.func109,Tryz.ntmps109
 go_wp2_with fail
 refine(ΩhU H.out (by omega)).mono ?_
 rintro e w1 ⟨rfl,h1,ho1⟩
 have H1:=Θ h1
 have HO1:=Θ ho1
 clear h1 ho1
 go_wp2_with fail
 go_loopw [18] (fun i wr=>∃k:Nat,i= .int .i64 k∧k≤ns.length∧WB C b (Ωeo b) (l++(word.data.toList++ΩaC (ns.take k))) wr∧Only (WS C b) w wr) (fun i _=>ns.length-(intOf i).toNat)
 case atStart=>exact⟨0,rfl,by omega,by simpa [ΩaC] using H1.out,HO1.out⟩
 case round=>
  obtain⟨k,rfl,hk,hb,ho⟩:=hrel
  have HB:=Θ hb
  have HO:=Θ ho
  clear hb ho
  have hwk:(ΩaC (ns.take k)).length≤22*k:=by
   have:=Ωdw (ns.take k) (fun x hx=>HIN.out x (ΩnY hx))
   rw[ΩnB] at this
   omega
  by_cases hlt:k<ns.length
  ·obtain⟨x,hx⟩:∃x,ns[k]? =some x:=⟨_,Ωnu hlt⟩
   have hmem:x∈ns:=ΩnE hx
   have hxi:=HIN.out x hmem
   obtain⟨g,o,rfl,hc⟩:∃g o,A=some ⟨g,o,none⟩∧wr.cell? ⟨g,o+k,none⟩=some (.int .i64 x):=by
    rcases HA.out.keep HO.out with h|⟨g,o,e,_,_,_,hc⟩
    ·rw[h] at hlt;simp at hlt
    ·exact⟨g,o,e,hc k x hx⟩
   have hnx:ΩaC (ns.take (k+1))=ΩaC (ns.take k)++[32]++Lib.itoa x:=by rw[ΩnO,hx,ΩnS,ΩdV]
   have ik:(k:Int)<ns.length:=by omega
   have HNX:=Θ hnx
   clear hnx hx hmem
   go_wp2_with fail
   refine(ΩhU (.inr HB.out) (by simp;omega)).mono ?_
   rintro e w2 ⟨rfl,h2,ho2⟩
   have H2:=Θ h2
   have HO2:=Θ (HO.out.trans ho2)
   have HT2:=Θ (tab_ws HT.out hgb hbC HO2.out)
   clear h2 ho2
   go_wp2_with fail
   refine(ΩdC x hxi.1 hxi.2 w2 HT2.out).mono ?_
   rintro e w3 ⟨t3,rfl,ht3,ho3⟩
   have H3:=Θ (H2.out.none_ ho3)
   have HO3:=Θ (HO2.out.trans' ho3 (fun _ _ h=>h.elim))
   have hz3:t3.size≤21:=by rw[Ωc,ht3];exact ΩV hxi.1 hxi.2
   have HT3:=Θ ht3
   clear ho3 ht3
   go_wp2_with fail
   refine(ΩhU (.inr H3.out) (by simp;omega)).mono ?_
   rintro e w4 ⟨rfl,h4,ho4⟩
   have H4:=Θ h4
   have HO4:=Θ (HO3.out.trans ho4)
   clear h4 ho4
   go_wp2_with fail
   go_roundw
   case rel=>exact⟨k+1,by go_num,by omega,by have:=H4.out;rw[HT3.out] at this;rw[HNX.out];simpa using this,HO4.out⟩
   case measure=>simp[intOf];omega
  ·have hall:ns.take k=ns:=ΩnI (by omega)
   rw[hall] at HB hwk
   have ik:¬(k:Int)<ns.length:=by omega
   clear hall
   go_wp2_with fail
   refine(ΩhU (.inr HB.out) (by simp;omega)).mono ?_
   rintro e w2 ⟨rfl,h2,ho2⟩
   have H2:=Θ h2
   have HO2:=Θ (HO.out.trans ho2)
   clear h2 ho2
   go_wp2_with fail
   go_end0
   exact⟨rfl,by have:=H2.out;unfold Ωci;simpa using this,HO2.out⟩
end
section
open Go.RowKit Go.Shelf
def Ωdv(w:World)(A:Option Addr)(ns:List Int):Prop:=ns=[]∨∃g o,A=some ⟨g,o,none⟩∧g<w.heap.size∧∀(j:Nat) (x:Int),ns[j]? =some x→w.cell? ⟨g,o+j,none⟩=some (.int .i64 x)
theorem Ωdv.none_{w w' :World}{A:Option Addr}{ns:List Int}(h:Ωdv w A ns)(ho:Only Ωa w w'):Ωdv w' A ns:=by
 rcases h with h|⟨g,o,hA,h1,h2⟩
 ·exact .inl h
 ·exact .inr ⟨g,o,hA,ΩnT h1 ho.size,fun j x hx=>ho.cell_some (h2 j x hx) (fun h=>h.elim)⟩
theorem Ωdv.wr{w w' :World}{A:Option Addr}{ns:List Int}(h:Ωdv w A ns)(ho:Only Ωa w w'){C b:Nat}(hb:w.heap.size≤b)(hC:b<C):Ωll C b A ns w' :=by
 rcases h with h|⟨g,o,hA,h1,h2⟩
 ·exact .inl h
 ·exact .inr ⟨g,o,hA,by omega,by omega,ΩnT h1 ho.size,fun j x hx=>ho.cell_some (h2 j x hx) (fun h=>h.elim)⟩
structure Bd.Ok(b:Bd):Prop where
 id:In b.bidder
 qi:∀x∈b.qc,In x
 pi:∀x∈b.pc,In x
 qt:b.qt.size≤1000000
 pt:b.pt.size≤1000000
 ql:b.qc.length≤1000000
 pl:b.pc.length≤1000000
theorem ΩeD(word:List UInt8)(l:List Int)(h:∀x∈l,In x):(Ωci word l).length≤word.length+22*l.length+1:=by
 have:=Ωdw l h
 unfold Ωci
 simp only[ΩnA,Ωoq]
 omega
theorem tab_lt{X:World}(h:Tab X):3<X.heap.size:=by
 have hgl:Tryz.prog.globalNamed Ωli=some 3:=by kernel_rfl
 unfold Tab Lib.TabIs World.var? at *
 rw[hgl] at h
 simp only[Option.bind_some] at h
 cases hx:X.heap[3]? with
 |none=>rw[hx] at h;cases h
 |some o=>exact(Ωob.1 hx).1
abbrev tBid:TypeId:=75
structure EncK(w:World)(R b C:Nat)(cs:Array Value)(l:List UInt8)(W:World):Prop where
 wr:WBu C b l W
 box:Blk W R tBid cs
 only:Only Ωa w W
theorem EncK.step{w:World}{R b C:Nat}{cs:Array Value}{l l' :List UInt8}{W W' :World}(h:EncK w R b C cs l W)(hRb:R<b)(hwb:w.heap.size≤b)(hbC:b<C)(hW:WB C b (Ωeo b) l' W')(ho:Only (WS C b) W W'):EncK w R b C cs l' W' :=
 ⟨.inr hW,h.box.only ho (fun hk=>by rcases hk with hk|hk<;>omega),h.only.trans' ho (fun i hi hk=>by rcases hk with hk|hk<;>omega)⟩
theorem EncK.none_{w:World}{R b C:Nat}{cs:Array Value}{l:List UInt8}{W W' :World}(h:EncK w R b C cs l W)(ho:Only Ωa W W'):EncK w R b C cs l W' :=
 ⟨h.wr.none_ ho,h.box.only ho (fun h=>h.elim),h.only.trans ho⟩
abbrev Ωae(d:Bd)(qA pA:Option Addr)(qk pk:Nat):Array Value:= #[.int .i64 d.bidder,.string d.qt,.slice qA d.qc.length qk,.string d.pt,.slice pA d.pc.length pk]
theorem bencode_any(d:Bd)(hd:d.Ok){qA pA:Option Addr}{qk pk:Nat}{w:World}(hq:Ωdv w qA d.qc)(hp:Ωdv w pA d.pc)(ht:Tab w):
  Calls Tryz.prog 64 #[.agg (Ωae d qA pA qk pk)] w (Ωq (encB d) w):=by
 obtain⟨hid,hqi,hpi,hqt,hpt,hql,hpl⟩:=hd
 obtain⟨R,eR⟩:∃R,R=w.heap.size:=⟨_,rfl⟩
 obtain⟨b,eb⟩:∃b,b=R+1:=⟨_,rfl⟩
 obtain⟨G,eG⟩:∃G,G=b+1:=⟨_,rfl⟩
 obtain⟨C,eC⟩:∃C,C=G+1:=⟨_,rfl⟩
 obtain⟨X,eX⟩:∃X,X=((w.alloc (.cells (Ωae d qA pA qk pk) tBid)).alloc (.cells #[.pointer none,.slice none 0 0] tWr)).alloc (.cells #[.int .i64 d.bidder] 3):=⟨_,rfl⟩
 have hb0:Blk X R tBid (Ωae d qA pA qk pk):=by rw[eX,eR];exact((Blk.new w _ _).alloc _).alloc _
 have hb1:Blk X b tWr #[.pointer none,.slice none 0 0]:=by
  have h:=Blk.new (w.alloc (.cells (Ωae d qA pA qk pk) tBid)) tWr #[.pointer none,.slice none 0 0]
  rw[Ωnw,←eR,←eb] at h
  rw[eX];exact h.alloc _
 have hb2:Blk X G 3 #[.int .i64 d.bidder]:=by
  have h:=Blk.new ((w.alloc (.cells (Ωae d qA pA qk pk) tBid)).alloc (.cells #[.pointer none,.slice none 0 0] tWr)) 3 #[.int .i64 d.bidder]
  rw[Ωnw,Ωnw,←eR,←eb,←eG] at h
  rw[eX];exact h
 have hsz:X.heap.size=C:=by rw[eX];simp;omega
 have hon:Only Ωa w X:=by rw[eX];exact(((Only.refl _ _).alloc _).alloc _).alloc _
 have hgb:3<b:=by have:=tab_lt ht;omega
 have hK:EncK w R b C (Ωae d qA pA qk pk) [] X:=⟨.inl ⟨by omega,by omega,_,hb1,⟨rfl,.inl ⟨rfl,rfl⟩⟩⟩,hb0,hon⟩
 have hI:Ωll C b (some ⟨G,0,none⟩) [d.bidder] X:= .inr ⟨G,0,rfl,by omega,by omega,by omega,fun j x hx=>by
  match j,hx with
  |0,hx=>simp only[ΩnF,Option.some.injEq] at hx;subst hx;exact hb2.cell 0⟩
 have HK:=Θ hK
 have HI:=Θ hI
 have HQ:=Θ hq
 have HP:=Θ hp
 have HT:=Θ ht
 have HQI:=Θ hqi
 have HPI:=Θ hpi
 have hbC:b<C:=by omega
 have hRb:R<b:=by omega
 have hwb:w.heap.size≤b:=by omega
 have HEX:=Θ eX
 have HER:=Θ eR
 have HEB:=Θ eb
 have HEG:=Θ eG
 clear hK hI hq hp ht hqi hpi hb0 hb1 hb2 hon hsz eX eR eb eG eC
 have LB:=ΩeD wBid [d.bidder] (fun x hx=>by simp at hx;subst hx;exact hid)
 have LQ:=ΩeD ΩbP d.qc HQI.out
 have LQT:=ΩeD (hexL d.qt.data.toList) [] (fun x hx=>by simp at hx)
 have LP:=ΩeD Ωf6 d.pc HPI.out
 rw[ΩY,←Ωc] at LQT
 have q1:wBid.length=3:=rfl
 have q2:ΩbP.length=7:=rfl
 have q3:Ωf6.length=5:=rfl
 simp only[ΩnD,Ωn8] at LB LQT
 go_enter Tryz.func64,Tryz.ntmps64
 go_wp2_with fail
 rw[←HEX.out,←HER.out,←HEB.out,←HEG.out]
 refine(ΩeC (C:=C) (ns:=[d.bidder]) _ (by decide) HK.out.wr (by simp) (fun x hx=>by simp at hx;subst hx;exact hid) HI.out (HT.out.none HK.out.only) hgb (by simp)).mono ?_
 rintro e w1 ⟨rfl,h1,ho1⟩
 replace h1:WB C b (Ωeo b) ([]++Ωci wBid [d.bidder]) w1:=h1
 have K1:=Θ (HK.out.step hRb hwb hbC h1 ho1)
 clear h1 ho1
 have c2:=K1.out.box.cell 2
 simp only[ΩnC,ΩnF,ΩnK] at c2
 go_wp2_with fail
 refine(ΩeC (C:=C) (ns:=d.qc) _ (by decide) K1.out.wr (by omega) HQI.out (HQ.out.wr K1.out.only hwb hbC) (HT.out.none K1.out.only) hgb (by simp only[ΩnA,Ωn8];omega)).mono ?_
 rintro e w2 ⟨rfl,h2,ho2⟩
 replace h2:WB C b (Ωeo b) ([]++Ωci wBid [d.bidder]++Ωci ΩbP d.qc) w2:=h2
 have K2:=Θ (K1.out.step hRb hwb hbC h2 ho2)
 clear h2 ho2 c2
 have c1:=K2.out.box.cell 1
 simp only[ΩnC,ΩnF,ΩnK] at c1
 go_wp2_with fail
 refine(Ωla d.qt hqt w2).mono ?_
 rintro e w3 ⟨t3,rfl,ht3,ho3⟩
 have K3:=Θ (K2.out.none_ ho3)
 have L3:t3.size≤2000000:=by rw[Ωc,ht3,ΩY,←Ωc];omega
 have HT3:=Θ ht3
 clear ho3 c1 ht3
 go_wp2_with fail
 refine(ΩeC (C:=C) (ns:=[]) t3 (by omega) K3.out.wr (by simp) (fun x hx=>by simp at hx) (.inl rfl) (HT.out.none K3.out.only) hgb (by simp only[ΩnA,Ωn8];omega)).mono ?_
 rintro e w4 ⟨rfl,h4,ho4⟩
 rw[HT3.out] at h4
 replace h4:WB C b (Ωeo b) ([]++Ωci wBid [d.bidder]++Ωci ΩbP d.qc++Ωci (hexL d.qt.data.toList) []) w4:=h4
 have K4:=Θ (K3.out.step hRb hwb hbC h4 ho4)
 clear h4 ho4
 have c4:=K4.out.box.cell 4
 simp only[ΩnC,ΩnF,ΩnK] at c4
 go_wp2_with fail
 refine(ΩeC (C:=C) (ns:=d.pc) _ (by decide) K4.out.wr (by omega) HPI.out (HP.out.wr K4.out.only hwb hbC) (HT.out.none K4.out.only) hgb (by simp only[ΩnA,Ωn8];omega)).mono ?_
 rintro e w5 ⟨rfl,h5,ho5⟩
 replace h5:WB C b (Ωeo b) ([]++Ωci wBid [d.bidder]++Ωci ΩbP d.qc++Ωci (hexL d.qt.data.toList) []++Ωci Ωf6 d.pc) w5:=h5
 have K5:=Θ (K4.out.step hRb hwb hbC h5 ho5)
 clear h5 ho5 c4
 have c3:=K5.out.box.cell 3
 simp only[ΩnC,ΩnF,ΩnK] at c3
 go_wp2_with fail
 refine(Ωla d.pt hpt w5).mono ?_
 rintro e w6 ⟨t6,rfl,ht6,ho6⟩
 have K6:=Θ (K5.out.none_ ho6)
 have L6:t6.size≤2000000:=by rw[Ωc,ht6,ΩY,←Ωc];omega
 have HT6:=Θ ht6
 clear ho6 c3 ht6
 go_wp2_with fail
 refine(ΩeC (C:=C) (ns:=[]) t6 (by omega) K6.out.wr (by simp) (fun x hx=>by simp at hx) (.inl rfl) (HT.out.none K6.out.only) hgb (by simp only[ΩnA,Ωn8];omega)).mono ?_
 rintro e w7 ⟨rfl,h7,ho7⟩
 rw[HT6.out] at h7
 have HE7:Hid (WB C b (Ωeo b) (encB d) w7):=Θ (by have h:=h7;simp only[ΩoD,ΩoA] at h;unfold encB;simp only[ΩoA];exact h)
 have K7:=Θ (K6.out.step hRb hwb hbC h7 ho7)
 clear h7 ho7
 go_wp2_with fail
 refine(Ωf3 (B:=b) (l:=encB d) (.inr HE7.out.at_) (fun e=>by have e2:=congrArg List.length e;simp[encB,Ωci,wBid] at e2)).mono ?_
 rintro e w8 ⟨rfl,hbel⟩
 have HO8:=Θ (K7.out.only.below' hbel hwb)
 clear hbel
 go_wp2_with fail
 go_ret
 exact Ωq.mk (by simp) HO8.out
end
section
open Go.RowKit Go.Shelf
theorem Ωe6(n:Int)(hn:In n)(w:World):Calls Tryz.prog 68 #[.int .i64 n] w (Ωq (Lib.itoa n) w):=by
 obtain⟨n0,n1⟩:=hn
 by_cases hz:n=0
 ·subst hz
  go_enter Tryz.func68,Tryz.ntmps68
  go_wp2_with fail
  go_ret
  exact Ωq.mk (by decide+kernel) (Only.refl _ _)
 ·obtain⟨m,em⟩:∃m,m=n.natAbs:=⟨_,rfl⟩
  obtain⟨sg,esg⟩:∃sg:Bool,sg=decide (n<0):=⟨_,rfl⟩
  have hnm:n=if sg then-(m:Int) else(m:Int):=by
   rw[esg,em];simp only[decide_eq_true_eq];split<;>omega
  have hm:m<18446744073709551616:=by omega
  have hi:Lib.itoa n=if sg then 45::Lib.decDigits m else Lib.decDigits m:=by
   unfold Lib.itoa
   rw[esg,em];simp only[decide_eq_true_eq];split
   ·rfl
   ·rw[show n.toNat=n.natAbs by omega]
  have HI:=Θ hi
  have HNM:=Θ hnm
  have ESG:=Θ esg
  have EM:=Θ em
  clear hi hnm esg em
  go_enter Tryz.func68,Tryz.ntmps68
  go_wp2_with fail
  rw[show(n==0)=false by simpa using hz]
  go_loopw [3,4] (fun o v wr=>DecR m sg w o v wr) (fun _ v _=>(intOf v).natAbs)
  case atStart=>
   have:=ESG.out
   have h2:=HNM.out
   refine⟨_,m,rfl,by rw[←h2],by have:=EM.out;omega,fun hf=>by rw[hf] at h2;simp at h2;omega,⟨fun _=>by simp,fun h0=>by have:=EM.out;omega⟩,Only.refl _ _⟩
  case round=>
   obtain⟨t,u,rfl,rfl,hu,hu2,hd,ho⟩:=hrel
   have hl:=hd.len hm
   have hts:t.size≤20:=by rw[Ωc];exact hl
   obtain⟨v,ev⟩:∃v,v=if sg then-(u:Int) else(u:Int):=⟨_,rfl⟩
   rw[←ev]
   have hv:v=(u:Int)∨v= -(u:Int):=by rw[ev];split<;>simp
   have hvb: -9223372036854775808≤v∧v≤9223372036854775807:=by
    rw[ev];split
    ·omega
    ·have:=hu2 (by simpa using ‹¬sg=true›);omega
   obtain⟨hv0,hv1⟩:=hvb
   by_cases h0:u=0
   ·have v0:v=0:=by omega
    have hdd:=hd.2 h0
    have HD:=Θ hdd
    have HO:=Θ ho
    clear ev hv hd hdd ho hu2
    subst v0
    cases hsg:sg with
    |false=>
     have hn0:¬n<0:=by have:=ESG.out;rw[hsg] at this;simpa using this.symm
     rw[hsg] at HI
     go_wp2_with fail
     go_ret
     refine Ωq.mk ?_ HO.out
     rw[HI.out,HD.out];rfl
    |true=>
     have hn0:n<0:=by have:=ESG.out;rw[hsg] at this;simpa using this.symm
     have hq:¬9223372036854775807<1+t.size:=by omega
     rw[hsg] at HI
     go_wp2_with fail
     go_ret
     refine Ωq.mk ?_ HO.out
     rw[HI.out,HD.out,ΩnP,ΩnQ];rfl
   ·obtain⟨e,em1,he⟩:=tm10 v u hv
    have htd:=td10 v u sg ev
    have hst:=hd.step h0
    have hu8:=Ωnb (u%10) (by omega)
    obtain⟨d,ed⟩:∃d,d=u%10:=⟨_,rfl⟩
    obtain⟨q,eq⟩:∃q,q=u/10:=⟨_,rfl⟩
    rw[←ed] at he hst hu8
    rw[←eq] at htd hst
    obtain⟨z,ez⟩:∃z,z=v.tdiv 10:=⟨_,rfl⟩
    have hzb: -9223372036854775808≤z∧z≤9223372036854775807:=by rw[ez,htd];split<;>omega
    obtain⟨c,ec⟩:∃c,c=UInt8.ofNat (48+d):=⟨_,rfl⟩
    rw[←ec] at hst hu8
    have w1:IntKind.i64.wrap (v.tmod 10)=e:=by rw[em1];exact ΩnH _ (by omega)
    have w2:IntKind.i64.wrap (v.tdiv 10)=z:=by rw[←ez];exact ΩnH _ hzb
    have w3:IntKind.i64.wrap (48+(d:Int))=48+(d:Int):=ΩnH _ (by omega)
    have hnv:¬v=0:=by omega
    have hq:¬9223372036854775807<1+t.size:=by omega
    have hu8' :(48+(d:Int))%256=(c.toNat:Int):=by rw[←hu8];simp[IntKind.wrap,IntKind.bits,IntKind.signed]
    have ez' :=ez.symm
    have w5:IntKind.i64.wrap z=z:=ΩnH _ hzb
    have hby:ΩI (wr.alloc (.cells #[.int .u8 (c.toNat:Int)] 5)) wr.heap.size 0 [c]:=Ωds (Blk.new wr 5 #[bv c])
    have HBY:=Θ hby
    have HO:=Θ ho
    have HST:=Θ hst
    have HTD:=Θ (ez.trans htd)
    have HU2:=Θ hu2
    have EQ:=Θ eq
    have EV:=Θ ev
    have hms:(intOf (.int .i64 z)).natAbs <(intOf (.int .i64 v)).natAbs :=by
     show z.natAbs<v.natAbs
     rw[ez,htd,ev,eq]
     split<;>omega
    have HMS:=Θ hms
    have tok:True:=trivial
    have L1:(⟨[c].toArray⟩:ByteArray).size =1:=rfl
    have fin:∀W,Only Ωa w W→DecR m sg w (.string ((⟨[c].toArray⟩:ByteArray)++t)) (.int .i64 z) W:=fun W hW=>by
     refine⟨_,q,rfl,by rw[HTD.out],by have:=EQ.out;omega,fun h=>by have:=EQ.out;have:=HU2.out h;omega,?_,hW⟩
     rw[ΩnP,ΩnQ]
     exact HST.out
    have FIN:=Θ fin
    by_cases hneg:e<0
    ·have w4:IntKind.i64.wrap (-e)=(d:Int):=by rw[show-e=(d:Int) by omega];exact ΩnH _ (by omega)
     clear hd ho hst htd ec ed eq hby hu2 ev hms fin hv he hl ez hzb
     go_wp2_with (have _t:=tok;refine Ωy rfl 22 9 5 (.tmp 22) rfl wr.heap.size 0 1 1 rfl [c] rfl HBY.out Tryz.underlying22 Tryz.underlying5 Tryz.underlying9 ?_;clear tok _t)
     go_roundw
     case rel=>first|exact FIN.out _ (HO.out.alloc _)|exact⟨_,_,_,_,_,_,_,_,_,_,_,_,_,_,_,_,_,_,_,_,FIN.out _ (HO.out.alloc _),rfl⟩
     case measure=>exact HMS.out
    ·obtain rfl:e=(d:Int):=by omega
     clear hd ho hst htd ec ed eq hby hu2 ev hms fin hv he hl ez hzb
     go_wp2_with (have _t:=tok;refine Ωy rfl 22 9 5 (.tmp 22) rfl wr.heap.size 0 1 1 rfl [c] rfl HBY.out Tryz.underlying22 Tryz.underlying5 Tryz.underlying9 ?_;clear tok _t)
     go_roundw
     case rel=>first|exact FIN.out _ (HO.out.alloc _)|exact⟨_,_,_,_,_,_,_,_,_,_,_,_,_,_,_,_,_,_,_,_,FIN.out _ (HO.out.alloc _),rfl⟩
     case measure=>exact HMS.out
theorem Ωhv(t:ByteArray)(hl:t.size≤1000000)(w:World):Calls Tryz.prog 69 #[.string t] w (Ωq (hexL t.data.toList) w):=by
 obtain⟨h,eh⟩:∃h,h=t.data.toList:=⟨_,rfl⟩
 have hlen:h.length=t.size:=by rw[eh,Ωc]
 have HL:=Θ hl
 have HLEN:=Θ hlen
 have EH:=Θ eh
 rw[←eh]
 clear hl hlen eh
 go_enter Tryz.func69,Tryz.ntmps69
 go_wp2_with fail
 go_loopw [4,5] (fun v i wr=>∃(k:Nat) (s:ByteArray),i= .int .i64 k∧v= .string s∧k≤t.size∧s.data.toList=hexL (h.take k)∧Only Ωa w wr) (fun _ i _=>t.size-(intOf i).toNat)
 case atStart=>exact⟨0,⟨#[]⟩,rfl,rfl,by omega,rfl,Only.refl _ _⟩
 case round=>
  obtain⟨k,s,rfl,rfl,hk,hs,ho⟩:=hrel
  by_cases hlt:k<t.size
  ·obtain⟨x,hx⟩:∃x,h[k]? =some x:=⟨_,Ωnu (by have:=HLEN.out;omega)⟩
   have hix:t.data[k]? =some x:=by have e:=EH.out;rw[e] at hx;simpa using hx
   have hts:t[k]'hlt=x:=by
    have e:t.data[k]? =some (t[k]'hlt):=Array.getElem?_eq_getElem _
    rw[hix] at e
    exact(Option.some.inj e).symm
   have hx256:=x.toNat_lt
   have ik:(k:Int)<t.size:=by omega
   have hk6:k≤1000000:=by have:=HL.out;omega
   have hsz:s.size≤2000000:=by rw[Ωc,hs,ΩY,ΩnB];omega
   have hs1:s.size+1≤9223372036854775807:=by omega
   have hs2:s.size+1+1≤9223372036854775807:=by omega
   have hnx:hexL (h.take (k+1))=hexL (h.take k)++[hexC (x.toNat/16)]++[hexC (x.toNat%16)]:=by
    rw[ΩnO,hx,ΩnS,ΩeH]
   have HOK:=Θ ho
   have HSK:=Θ hs
   have HNX:=Θ hnx
   have HX:=Θ hx256
   clear ho hs hnx hx hix
   go_upto_region 6 with(fail)
   go_region
   go_wp2_with fail
   go_roundw
   case rel=>
    refine⟨k+1,_,by go_num,rfl,by omega,?_,HOK.out.drew⟩
    rw[HNX.out,ΩnP,ΩnP,ΩnQ,ΩnQ,HSK.out,ΩfT _ (by omega),ΩfT _ (by omega)]
   case measure=>simp[intOf];omega
  ·have ik:¬(k:Int)<t.size:=by omega
   have HOK:=Θ ho
   have hall:h.take k=h:=ΩnI (by rw[HLEN.out];omega)
   rw[hall] at hs
   have HSK:=Θ hs
   clear ho hs hall
   go_wp2_with fail
   refine⟨rfl,_,results_tmp rfl _ _ _,?_⟩
   exact Ωq.mk HSK.out HOK.out
end
end Go.Proofs.YtgalfohobgjelaaGreatDoor
