/- What is proved here: a part of the proof that 'probitylaw31.ClientPlays' answers true. Conditions: each theorem's own. -/
import Derived.Test.YtgalfohobgjelaaGreatDoorPy02
import Derived.Test.YtgalfohobgjelaaGreatDoorPy03
import Derived.Test.YtgalfohobgjelaaGreatDoorPySh
import Derived.Stop.BytesEq
import Derived.Lib.Builder
import Derived.Lib.AppendStr
import Derived.Lib.Strings
set_option maxRecDepth 100000
set_option maxHeartbeats 8000000
namespace Go.Proofs.YtgalfohobgjelaaGreatDoor
section
open Go.RowKit Go.Shelf
def Ωli:String:= "internal/strconv.uint64pow10"
def Tab(w:World):Prop:=Lib.TabIs Tryz.prog w Ωli .u64 Lib.pow10Tab
theorem Tab.only{S:Nat→Prop}{w w' :World}(h:Tab w)(ho:Only S w w')(hS:∀k,S k→3<k):Tab w' :=by
 have hg:Tryz.prog.globalNamed Ωli=some 3:=by kernel_rfl
 unfold Tab Lib.TabIs World.var? at *
 rw[hg] at h⊢
 simp only[Option.bind_some] at h⊢
 have hlt:3<w.heap.size:=by
  rcases Nat.lt_or_ge 3 w.heap.size with h1|h1
  ·exact h1
  ·rw[Array.getElem?_eq_none h1] at h;cases h
 rw[ho.block _ hlt (fun hs=>by have:=hS _ hs;omega)]
 exact h
theorem Tab.none{w w' :World}(h:Tab w)(ho:Only Ωa w w'):Tab w' :=h.only ho (fun _ h=>h.elim)
theorem only_grows(w:World)(k:Nat)(os:Array Obj):Only Ωa w (Sort.grow (w.drewN k) os):=
 ⟨rfl,rfl,rfl,by simp[Sort.grow],fun i hi _=>by
  show(w.heap++os)[i]? =w.heap[i]?
  rw[Array.getElem?_append_left hi]⟩
theorem ΩdC(n:Int)(h0: -9223372036854775808≤n)(h1:n≤9223372036854775807)(w:World)(ht:Tab w):Calls Tryz.prog 154 #[.int .i64 n] w (Ωq (Lib.itoa n) w):=
 (Tryz.strconv_Itoa n h0 h1 w ht).mono fun e w' h=>by
  obtain⟨rfl,k,os,rfl⟩:=h
  exact Ωq.mk (by simp) (only_grows w k os)
def hv(l:List UInt8):Value:= .agg (l.map bv).toArray
theorem ΩaX(l:List UInt8):(shaL l).length =32:=by simp[shaL,be4]
theorem Ωds{w:World}{g:Nat}{t:TypeId}{l:List UInt8}(h:Blk w g t (l.map bv).toArray):ΩI w g 0 l:=fun j x hx=>by
 rw[ΩnR,h.cell,ΩnC,Ωn0,hx];rfl
theorem Ωkc{P:Program}{c:Code}{Q:Exit→Act→World→Prop}{a:Act}{w w' :World}(h:w' =w)(hh:Code.wp P c Q a w'):Code.wp P c Q a w:=h▸hh
theorem ΩjM(w:World):(sizeOf 5).run Tryz.prog w= .ok 1 w:=by kernel_rfl
theorem ΩbT(xs ys:List UInt8)(hx:xs.length=32)(hy:ys.length=32)(w:World):(binOp .eql 35 (.agg (xs.map bv).toArray) (.agg (ys.map bv).toArray)).run Tryz.prog w= .ok (.bool (xs==ys)) w:=
 run_eql_bytes w 35 5 32 Tryz.underlying35 Tryz.underlying5 ΩjM xs ys hx hy
theorem Ωby{S:Nat→Prop}{w w' :World}(h:Only S w.drew w'):Only S w w' :=⟨h.os,h.tape,h.output,h.size,h.block⟩
end
section
open Go.RowKit Go.Shelf
theorem Ωc8:(Tryz.prog.info? 161).map (·.size)=some 2:=by kernel_rfl
theorem lies_builder:liesAt Tryz.prog Tryz.prog.depth 161 (2/Tryz.prog.cellsOf 161) 0 161 1=true:=by kernel_rfl
theorem ΩhR{B b:Nat}{bs:List Value}{w:World}(h:Lib.IsBuilder 161 5 B b bs w):
  Calls Tryz.prog 179 #[.pointer (some ⟨b,0,none⟩)] w fun e w' =>e= .returned (.tuple #[])∧Lib.BuilderAt 161 5 B b (.pointer (some ⟨b,0,none⟩)) bs w'∧Below B w w' :=by
 obtain⟨j,hj,hjs⟩:=Option.map_eq_some_iff.1 Ωc8
 rcases h with h|h
 ·have c0:=h.cell0
  have f0:=h.frozen0
  have hsh:=h.shape
  have hto:=fun W (hW:World.shape? W b=some (161,2))=>Lib.run_to_unsafe (P:=Tryz.prog) W ⟨b,0,none⟩ Tryz.underlying159 Tryz.underlying239 hj (by rw[hjs];decide) hW (Nat.zero_lt_succ 1)
  have hfr:=Lib.run_from_unsafe (P:=Tryz.prog) w ⟨b,0,none⟩ Tryz.underlying239 Tryz.underlying159 hj hsh lies_builder
  have h1:=hto w hsh
  have HH:=Θ h
  clear h hto hsh
  go_enter Tryz.func179,Tryz.ntmps179
  go_wp2_with fail
  rw[run_callFunc_extern Tryz.func195 (by kernel_rfl) (by kernel_rfl) (by kernel_rfl) (e:=Extern.AbiNoEscape.same) (by kernel_rfl)]
  rw[Lib.run_noEscape]
  simp only[Result.andThen]
  rw[Oper.upon_value]
  go_wp2_with fail
  go_end0
  have hu:=HH.out.used (.pointer (some ⟨b,0,none⟩))
  exact⟨rfl,hu,(Below.refl _ _).setCell (p:=⟨b,0,none⟩) HH.out.1 _⟩
 ·have c0:=h.cell0
  have hne:=Lib.run_neq_ptr_same (P:=Tryz.prog) w ⟨b,0,none⟩ Tryz.underlying159 hj
  have HH:=Θ h
  clear h
  go_enter Tryz.func179,Tryz.ntmps179
  go_wp2_with fail
  go_end0
  exact⟨rfl,HH.out,Below.refl _ _⟩
theorem ΩcB{B b:Nat}{l:List UInt8}{s:ByteArray}{w:World}(h:Lib.IsBuilder 161 5 B b (Lib.byteCells l) w)(hlen:l.length+s.size≤140737488355328)(hBw:B≤w.heap.size):
  Calls Tryz.prog 155 #[.pointer (some ⟨b,0,none⟩),.string s] w fun e w' =>e= .returned (.tuple #[.int .i64 s.size,.nilIface])∧Lib.IsBuilder 161 5 B b (Lib.byteCells (l++s.data.toList)) w'∧Below B w w' :=by
 obtain⟨i0,hi,hz0,hz1,hz2⟩:=info_parts Tryz.info5
 have H:=Θ h
 clear h
 go_enter Tryz.func155,Tryz.ntmps155
 go_wp2_with fail
 refine(ΩhR H.out).mono ?_
 rintro e w1 ⟨rfl,h1,hb1⟩
 obtain⟨hB,v,hbk,hown,hne⟩:=h1
 have c0:w1.cell? ⟨b,0,none⟩=some (.pointer (some ⟨b,0,none⟩)):=by rw[Lib.cell_of_heap hbk];rfl
 have c1:w1.cell? ⟨b,1,none⟩=some v:=by rw[Lib.cell_of_heap hbk];rfl
 have hlt:b<w1.heap.size:=(Ωob.1 hbk).1
 have hsz:=hb1.size
 have HBK:=Θ hbk
 have HOWN:=Θ hown
 have HNE:=Θ hne
 have HB1:=Θ hb1
 rw[Lib.byteCells_length] at HOWN
 clear hbk hown hne hb1
 go_wp2_with (at_builtin;refine Lib.wpList_append_own_string _ rfl _ _ 22 9 rfl B 5 i0 Tryz.underlying22 Tryz.underlying9 hi hz0 hz1 hz2 _ _ _ rfl HOWN.out s rfl (by unfold maxLen;omega) (by omega) (by omega) ?_;intro v' w2 hown' hgrow _;have hb2:w2.heap[b]? =some (.cells #[.pointer (some ⟨b,0,none⟩),v] 161 (0,0)):=(by rw[hgrow.block b hlt (fun e=>HNE.out e.symm)];exact HBK.out);obtain⟨ao,cap,hv',hcc,hcm⟩:=Ωt hown';subst hv';have d0:w2.cell? ⟨b,0,none⟩=some (.pointer (some ⟨b,0,none⟩)):=(by rw[Lib.cell_of_heap hb2];rfl);have d1:w2.cell? ⟨b,1,none⟩=some v:=(by rw[Lib.cell_of_heap hb2];rfl);have f1:w2.frozen? ⟨b,1,none⟩=false:=Lib.frozen_of_heap hb2 1;have HB2:=Θ hb2;have HOW2:=Θ hown';have HGR:=Θ hgrow;clear hb2 hown' hgrow)
 go_ret2
 refine⟨rfl,.inr ?_,?_⟩
 ·refine Lib.BuilderAt.put (T:=161) (e:=5) hB HB2.out (bs' :=Lib.byteCells (l++s.data.toList)) ?_ (by decide)
  have h:=HOW2.out
  have e:Lib.byteCells (l++s.data.toList)=Lib.byteCells l++Lib.strCells s:=by simp[Lib.byteCells,Lib.strCells]
  rw[Lib.byteCells_length,ΩnA,e,←Ωc]
  exact h
 ·exact(HB1.out.grown HGR.out (by have:=HB1.out.size;omega) (fun k hk=>(HOWN.out.lt k hk).1)).setCell (p:=⟨b,1,none⟩) hB _
end
section
open Go.RowKit Go.Shelf
theorem Ωmi{B b:Nat}{l:List UInt8}{c:UInt8}{w:World}(h:Lib.IsBuilder 161 5 B b (Lib.byteCells l) w)(hlen:l.length+1≤140737488355328)(hBw:B≤w.heap.size):
  Calls Tryz.prog 156 #[.pointer (some ⟨b,0,none⟩),.int .u8 (c.toNat:Int)] w fun e w' =>e= .returned .nilIface∧Lib.IsBuilder 161 5 B b (Lib.byteCells (l++[c])) w'∧Below B w w' :=by
 obtain⟨i0,hi,hz0,hz1,hz2⟩:=info_parts Tryz.info5
 have H:=Θ h
 clear h
 go_enter Tryz.func156,Tryz.ntmps156
 go_wp2_with fail
 refine(ΩhR H.out).mono ?_
 rintro e w1 ⟨rfl,h1,hb1⟩
 obtain⟨hB,v,hbk,hown,hne⟩:=h1
 have c0:w1.cell? ⟨b,0,none⟩=some (.pointer (some ⟨b,0,none⟩)):=by rw[Lib.cell_of_heap hbk];rfl
 have c1:w1.cell? ⟨b,1,none⟩=some v:=by rw[Lib.cell_of_heap hbk];rfl
 have hlt:b<w1.heap.size:=(Ωob.1 hbk).1
 have hsz:=hb1.size
 have HBK:=Θ hbk
 have HOWN:=Θ hown
 have HNE:=Θ hne
 have HB1:=Θ hb1
 rw[Lib.byteCells_length] at HOWN
 clear hbk hown hne hb1
 go_wp2_with (at_builtin;refine wpList_append_own _ rfl _ _ 22 rfl B 5 i0 (.int .u8 0) 1 1 Tryz.underlying22 hi hz0 hz1 hz2 rfl (by decide) _ _ _ rfl (HOWN.out.alloc _) ⟨w1.heap.size,0,none⟩ 1 1 [.int .u8 (c.toNat:Int)] rfl rfl (fun j u hj=>by match j,hj with|0,hj=>simp at hj;subst hj;simp[Addr.add]) (fun u hu=>by simp at hu;subst hu;rfl) (by unfold maxLen;omega) (by omega) (by simp;omega) ?_;intro v' w2 hown' hgrow _;have hb2:w2.heap[b]? =some (.cells #[.pointer (some ⟨b,0,none⟩),v] 161 (0,0)):=(by rw[hgrow.block b (by simp;omega) (fun e=>HNE.out e.symm),Lib.alloc_old w1 _ b hlt];exact HBK.out);obtain⟨ao,cap,hv',hcc,hcm⟩:=Ωt hown';subst hv';have d0:w2.cell? ⟨b,0,none⟩=some (.pointer (some ⟨b,0,none⟩)):=(by rw[Lib.cell_of_heap hb2];rfl);have d1:w2.cell? ⟨b,1,none⟩=some v:=(by rw[Lib.cell_of_heap hb2];rfl);have f1:w2.frozen? ⟨b,1,none⟩=false:=Lib.frozen_of_heap hb2 1;have HB2:=Θ hb2;have HOW2:=Θ hown';have HGR:=Θ hgrow;clear hb2 hown' hgrow)
 go_ret
 refine⟨rfl,.inr ?_,?_⟩
 ·refine Lib.BuilderAt.put (T:=161) (e:=5) hB HB2.out (bs' :=Lib.byteCells (l++[c])) ?_ (by decide)
  have h:=HOW2.out
  have e:Lib.byteCells (l++[c])=Lib.byteCells l++[.int .u8 (c.toNat:Int)]:=by simp[Lib.byteCells]
  rw[Lib.byteCells_length,ΩnA,e]
  exact h
 ·exact((HB1.out.alloc (by have:=HB1.out.size;omega) _).grown HGR.out (by have:=HB1.out.size;simp;omega) (fun k hk=>(HOWN.out.lt k hk).1)).setCell (p:=⟨b,1,none⟩) hB _
theorem ΩeH(l:List UInt8)(c:UInt8):hexL (l++[c])=hexL l++[hexC (c.toNat/16)]++[hexC (c.toNat%16)]:=by
 induction l with
 |nil=>rfl
 |cons x l ih=>simp only[Ωn9,hexL,ih]
abbrev hexD:ByteArray:=⟨#[48,49,50,51,52,53,54,55,56,57,97,98,99,100,101,102]⟩
theorem ΩfS:∀n:Nat,(h:n<hexD.size)→hexD[n]'h=hexC n:=by decide
theorem Ωjw(h:List UInt8)(hl:h.length=32)(w:World):Calls Tryz.prog 150 #[hv h] w (Ωq (hexL h) w):=by
 unfold hv
 have hi:(Tryz.prog.info? 35).map (·.size)=some (h.map bv).length :=by rw[ΩnN,hl];kernel_rfl
 have hr:((w.alloc (.cells (h.map bv).toArray 35)).alloc (.cells #[.pointer none,.slice none 0 0] 161)).rangeAt w.heap.size 0 (h.map bv):=fun j v hj=>by
  have hb:=(Blk.new w 35 (h.map bv).toArray).alloc (.cells #[.pointer none,.slice none 0 0] 161)
  rw[ΩnR,hb.cell]
  simpa using hj
 have hb0:=Lib.fresh_isBuilder 161 5 (w.alloc (.cells (h.map bv).toArray 35))
 have ho0:Only Ωa w ((w.alloc (.cells (h.map bv).toArray 35)).alloc (.cells #[.pointer none,.slice none 0 0] 161)):=((Only.refl _ _).alloc _).alloc _
 have HI:=Θ hi
 have HR:=Θ hr
 have HB0:=Θ hb0
 have HO0:=Θ ho0
 have HL:=Θ hl
 clear hi hr hb0 ho0 hl
 have tok:True:=trivial
 go_enter Tryz.func150,Tryz.ntmps150
 go_wp2_with (have _t:=tok;refine wpList_load_mid rfl 35 (.tmp 1) rfl w.heap.size 0 rfl (h.map bv) _ HR.out Tryz.underlying35 rfl HI.out ?_;clear tok _t)
 obtain⟨Y,eY⟩:∃Y,Y=(w.alloc (.cells (h.map bv).toArray 35)).alloc (.cells #[.pointer none,.slice none 0 0] 161):=⟨_,rfl⟩
 have hb1:=HB0.out
 have ho1:=HO0.out
 rw[←eY] at hb1 ho1
 rw[←eY]
 rw[Ωnw] at hb1
 obtain⟨B,eB⟩:∃B,B=w.heap.size+1:=⟨_,rfl⟩
 rw[←eB] at hb1⊢
 have HB1:=Θ hb1
 have HO1:=Θ ho1
 have hBw:w.heap.size≤B:=by omega
 have hBY:B≤Y.heap.size:=by rw[eY,eB];simp
 clear hb1 ho1 eY eB HB0 HO0 HR
 go_loopw [7] (fun i wr=>∃k:Nat,i= .int .i64 k∧k≤32∧Lib.IsBuilder 161 5 B B (Lib.byteCells (hexL (h.take k))) wr∧Only Ωa w wr∧B≤wr.heap.size) (fun i _=>32-(intOf i).toNat)
 case atStart=>exact⟨0,rfl,by omega,by simpa [hexL,Lib.byteCells] using HB1.out,HO1.out,hBY⟩
 case round=>
  obtain⟨k,rfl,hk,hb,ho,hB⟩:=hrel
  have HB:=Θ hb
  have HO:=Θ ho
  clear hb ho
  by_cases hlt:k<32
  ·obtain⟨x,hx⟩:∃x,h[k]? =some x:=⟨_,Ωnu (by have:=HL.out;omega)⟩
   have hix:∀W,(Instr.index 35 (.agg (h.map bv).toArray) (.int .i64 (k:Int))).run Tryz.prog W= .ok (.int .u8 (x.toNat:Int)) W:=fun W=>ΩcJ (v:=bv x) Tryz.underlying35 ΩjM (fun W=>by kernel_rfl) hlt (by rw[ΩnC,Ωn0,hx];rfl) W
   have hnx:hexL (h.take (k+1))=hexL (h.take k)++[hexC (x.toNat/16)]++[hexC (x.toNat%16)]:=by
    rw[ΩnO,hx,ΩnS,ΩeH]
   have hlk:(hexL (h.take k)).length≤64:=by rw[ΩY,ΩnB];omega
   have hx256:=x.toNat_lt
   have ik:(k:Int)<32:=by omega
   have HNX:=Θ hnx
   clear hnx hx
   go_wp2_with fail
   refine(Ωmi HB.out (by omega) hB).mono ?_
   rintro e w1 ⟨rfl,hb1,hbel1⟩
   rw[ΩfS] at hb1
   have ho1:=HO.out.below' hbel1 hBw
   have hB1:B≤w1.heap.size:=Ωnz hB hbel1.size
   have HB1:=Θ hb1
   have HO1:=Θ ho1
   clear hb1 ho1 hbel1
   go_wp2_with fail
   refine(Ωmi HB1.out (by rw[ΩnA,Ωoq];omega) hB1).mono ?_
   rintro e w2 ⟨rfl,hb2,hbel2⟩
   rw[ΩfS,←HNX.out] at hb2
   have ho2:=HO1.out.below' hbel2 hBw
   have hB2:B≤w2.heap.size:=Ωnz hB1 hbel2.size
   have HB2:=Θ hb2
   have HO2:=Θ ho2
   clear hb2 ho2 hbel2
   go_wp2_with fail
   go_roundw
   case rel=>exact⟨k+1,by go_num,by omega,HB2.out,HO2.out,hB2⟩
   case measure=>simp[intOf];omega
  ·have hall:h.take k=h:=ΩnI (by have:=HL.out;omega)
   rw[hall] at HB
   have ik:¬(k:Int)<32:=by omega
   clear hall
   go_wp2_with fail
   refine(Tryz.Builder_String_any B B _ wr HB.out hB).mono ?_
   rintro e w1 ⟨rfl,hbel⟩
   have HO1:=Θ (HO.out.below' hbel hBw)
   clear hbel
   go_wp2_with fail
   go_ret
   exact Ωq.mk (by simp) HO1.out
end
end Go.Proofs.YtgalfohobgjelaaGreatDoor
