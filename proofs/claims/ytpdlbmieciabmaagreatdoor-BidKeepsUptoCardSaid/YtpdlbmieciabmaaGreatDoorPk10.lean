/-What is proved here:several parts. several parts. the coefficients out of a seed. Conditions:the table of powers of ten reads as its initialiser lays it;the seed is short. · the plain laws of sealing:a seal opened gives its text;no function of the program. No conditions. · the string of a check holds its key and its text;what is opened has this box;no function of the program. No conditions. · coefficients,shares,commitments and boxes of bids,in plain Lean;no program in sight. No conditions. · the marks that ranges over functions leave,one for each,are taken up at the return;no function of the program. No conditions. -/
import Derived.Test.YtpdlbmieciabmaaGreatDoorPk07
import Derived.Test.YtpdlbmieciabmaaGreatDoorPk08
import Derived.Test.YtpdlbmieciabmaaGreatDoorPk09
import Derived.Deep.OwnRows
import Derived.RangeFuncLeaves
namespace Go.Proofs.YtpdlbmieciabmaaGreatDoor
open Go.RowKit Go.Shelf
def q0:Int:=1152921504606845789
def coefS(l:List UInt8)(i:Nat):List UInt8:=[99,111,101,102,47]++Lib.itoa (i:Int)++[47]++l
def coefN(l:List UInt8)(i:Nat):Int:=hashF q0 (coefS l i)
def iv(n:Int):Value:= .int .i64 n
def coefL(l:List UInt8)(k:Nat):List Int:=(List.range k).map (coefN l)
def rowC(l:List UInt8)(k i:Nat):List Value:=(coefL l i).map iv++List.replicate (k-i) (iv 0)
theorem coefL_len(l:List UInt8)(k:Nat):(coefL l k).length =k:=by simp[coefL]
theorem rowC_at(l:List UInt8)(k i:Nat)(h:i<k):(rowC l k i)[i]? =some (iv 0):=by
 rw[rowC,List.getElem?_append_right (by simp[coefL_len]),List.length_map,coefL_len,Nat.sub_self,List.getElem?_replicate]
 simp;omega
theorem rowC_set(l:List UInt8)(k i:Nat)(h:i<k):(rowC l k i).set i (iv (coefN l i))=rowC l k (i+1):=by
 rw[rowC,rowC,List.set_append_right _ _ (by simp[coefL_len]),List.length_map,coefL_len,Nat.sub_self,show k-i=(k-(i+1))+1 by omega,List.replicate_succ,List.set_cons_zero,coefL,coefL,List.range_succ,List.map_append,List.map_append,List.append_assoc]
 rfl
theorem rowC_all(l:List UInt8)(k:Nat):rowC l k k=(coefL l k).map iv:=by simp[rowC]
theorem coefS_list(s t:ByteArray)(i:Nat)(ht:t.data.toList=Lib.itoa (i:Int)):((⟨#[99,111,101,102,47]⟩++t++⟨#[47]⟩++s:ByteArray)).data.toList =coefS s.data.toList i:=by
 rw[append_list,append_list,append_list,ht];rfl
theorem coefS_fits(s t:ByteArray)(hs:s.size≤17592186044416)(ht:t.size≤21):((⟨#[99,111,101,102,47]⟩++t++⟨#[47]⟩++s:ByteArray)).size≤35184372088832:=by
 have z6:(⟨#[99,111,101,102,47]⟩:ByteArray).size =5:=rfl
 have z1:(⟨#[47]⟩:ByteArray).size =1:=rfl
 simp only[ByteArray.size_append];omega
theorem madeRow(k:Nat)(l:List UInt8):madeCells #[Value.int .i64 0] k=(rowC l k 0).toArray :=by
 apply Array.ext'
 apply List.ext_getElem?
 intro i
 by_cases h:i<k
 ·simp[madeCells,rowC,coefL,iv,h,Nat.mod_one]
 ·simp[madeCells,rowC,coefL,h]
theorem info_int:(Tryz.prog.info? 3).map (fun i=>(i.zero,i.size,i.bytes))=some (some (.int .i64 0),1,8):=by kernel_rfl
set_option maxRecDepth 100000 in
set_option maxHeartbeats 400000 in
theorem coefs_any(s:ByteArray)(hs:s.size≤17592186044416)(k:Nat)(hk0:1≤k)(hk:k≤13)(w:World)(ht:Tab w):
  Calls Tryz.prog 62 #[.string s,.int .i64 (k:Int)] w fun e w' =>∃g c,e= .returned (.slice (some ⟨g,0,none⟩) k c)∧w.heap.size≤g∧k≤c∧Blk w' g 3 ((coefL s.data.toList k).map iv).toArray∧Only NoneOf w w' :=by
 have HT:=Lib.hid ht
 clear ht
 have k1:¬(k:Int)<1:=by omega
 have k13:¬13<(k:Int):=by omega
 have hmk:=run_make_row' (P:=Tryz.prog) 38 3 (.int .i64 0) 8 Tryz.underlying38 info_int rfl .i64 .i64 k (by omega) (by omega) w
 rw[madeRow k s.data.toList] at hmk
 go_enter Tryz.func62,Tryz.ntmps62
 go_wp2_with fail
 clear hmk
 go_loopw [17] (fun v wr=>∃i:Nat,v= .int .i64 i∧i≤k∧Blk wr w.heap.size 3 (rowC s.data.toList k i).toArray∧Only NoneOf w wr) (fun v _=>k-(intOf v).toNat)
 case atStart=>exact⟨0,rfl,by omega,Blk.new w _ _,(Only.refl NoneOf w).alloc _⟩
 case round=>
  obtain⟨i,rfl,hi,hb,ho⟩:=hrel
  by_cases hlt:i<k
  ·have HB:=Lib.hid hb
   have HO:=Lib.hid ho
   have HLEN:=Lib.hid (itoa_len (n:=(i:Int)) (by omega) (by omega))
   have ik:(i:Int)<(k:Int):=by omega
   have i0:0≤(i:Int):=by omega
   have ik2:i<k:=hlt
   clear hb ho hlt
   go_wp2_with fail
   refine(itoa_any (i:Int) (by omega) (by omega) _ (HT.out.none HO.out)).mono ?_
   rintro e w1 ⟨t,rfl,htl,ho1⟩
   have hts:t.size≤21:=by rw[size_list,htl];exact HLEN.out
   have HTL:=Lib.hid htl
   have HO1:=Lib.hid ho1
   clear htl ho1
   go_wp2_with fail
   refine(fHash_any _ 1152921504606845789 (coefS_fits s t hs hts) (by omega) (by omega) _).mono ?_
   rintro e w2 ⟨rfl,ho2⟩
   rw[coefS_list s t i HTL.out]
   obtain⟨c,ec⟩:∃c,c=hashF 1152921504606845789 (coefS s.data.toList i):=⟨_,rfl⟩
   rw[←ec]
   have hb2:Blk w2 w.heap.size 3 (rowC s.data.toList k i).toArray :=HB.out.only (HO1.out.trans ho2) (fun h=>h)
   have hc2:w2.cell? ⟨w.heap.size,i,none⟩=some (iv 0):=by rw[hb2.cell,List.getElem?_toArray,rowC_at _ _ _ ik2]
   have hf2:=hb2.frozen i
   have HB2:=Lib.hid hb2
   have HO2:=Lib.hid ho2
   have EC:=Lib.hid ec
   clear ec hb2 ho2
   go_wp2_with fail
   go_roundw
   case rel=>
    refine⟨i+1,by go_num,by omega,?_,((HO.out.trans (HO1.out.trans HO2.out)).setCell (.inr (Nat.le_refl _)) _)⟩
    have:=HB2.out.set_ i (iv c)
    rw[List.setIfInBounds_toArray,EC.out] at this
    have e:=rowC_set s.data.toList k i ik2
    unfold coefN q0 at e
    rw[e] at this
    rw[EC.out]
    exact this
   case measure=>simp[intOf];omega
  ·obtain rfl:i=k:=by omega
   have HB:=Lib.hid hb
   have HO:=Lib.hid ho
   clear hb ho
   go_wp2_with fail
   go_ret
   exact⟨_,_,rfl,Nat.le_refl _,Nat.le_refl _,by rw[←rowC_all];exact HB.out,HO.out⟩
end Go.Proofs.YtpdlbmieciabmaaGreatDoor
namespace Go.Proofs.YtpdlbmieciabmaaGreatDoor
open Go.RowKit
def sbyte(key:Int)(i:Nat):UInt8:=((shaL (streamS key (i/32)))[i%32]?).getD 0
theorem xorL_get(h p:List UInt8)(hh:h.length=32)(i:Nat)(hi:i<32):(xorL h p)[i]? =(p[i]?).map (·^^^(h[i]?).getD 0):=by
 unfold xorL
 rw[List.getElem?_zipWith]
 obtain⟨x,ex⟩:∃x,h[i]? =some x:=⟨_,List.getElem?_eq_getElem (by omega)⟩
 rw[ex]
 cases p[i]? with
 |none=>rfl
 |some y=>simp[UInt8.xor_comm]
theorem combK_get(key:Int)(l:List UInt8)(k:Nat):∀i,i<32*k→(combK key l k)[i]? =(l[i]?).map (·^^^sbyte key i):=by
 induction k with
 |zero=>intro i hi;omega
 |succ k ih=>
  intro i hi
  rw[combK]
  by_cases h1:i<32*k
  ·by_cases h2:i<l.length
   ·rw[List.getElem?_append_left (by rw[combK_len];omega),ih i h1]
   ·rw[List.getElem?_append_right (by rw[combK_len];omega),List.getElem?_eq_none (by omega:l.length≤i),List.getElem?_eq_none]
    ·rfl
    ·rw[xorL_len,shaL_len,seg_len,combK_len];omega
  ·by_cases h2:32*k≤l.length
   ·rw[List.getElem?_append_right (by rw[combK_len];omega),combK_len,Nat.min_eq_left h2,xorL_get _ _ (shaL_len _) _ (by omega)]
    have e1:i/32=k:=by omega
    have e2:i%32=i-32*k:=by omega
    rw[sbyte,e1,e2,seg,List.getElem?_take,if_pos (by omega),List.getElem?_drop,show 32*k+(i-32*k)=i by omega]
   ·rw[List.getElem?_eq_none (by omega:l.length≤i),List.getElem?_eq_none]
    ·rfl
    ·rw[List.length_append,combK_len,xorL_len,shaL_len,seg_len];omega
theorem combL_get(key:Int)(l:List UInt8)(i:Nat):(combL key l)[i]? =(l[i]?).map (·^^^sbyte key i):=by
 by_cases h:i<l.length
 ·exact combK_get key l _ i (by omega)
 ·rw[List.getElem?_eq_none (by omega:l.length≤i),List.getElem?_eq_none (by rw[combL_len];omega)];rfl
theorem combL_back(key:Int)(l:List UInt8):combL key (combL key l)=l:=by
 apply List.ext_getElem?
 intro i
 rw[combL_get,combL_get]
 cases l[i]? with
 |none=>rfl
 |some x=>simp[UInt8.xor_assoc]
theorem open_seal(key:Int)(l:List UInt8):openS key (sealS key l)=(l,true):=by
 have h1:32≤(sealS key l).length :=by rw[sealS_len];omega
 have h2:(sealS key l).drop 32=combL key l:=by rw[sealS,List.drop_append,shaL_len,List.drop_of_length_le (by rw[shaL_len];omega)];rfl
 have h3:(sealS key l).take 32=shaL (checkS key l):=by rw[sealS,List.take_append_of_le_length (by rw[shaL_len];omega),List.take_of_length_le (by rw[shaL_len];omega)]
 rw[openS_good h1 (by rw[h2,h3,combL_back]),h2,combL_back]
end Go.Proofs.YtpdlbmieciabmaaGreatDoor
namespace Go.Proofs.YtpdlbmieciabmaaGreatDoor
open Go.RowKit
end Go.Proofs.YtpdlbmieciabmaaGreatDoor
namespace Go.Proofs.YtpdlbmieciabmaaGreatDoor
open Go.RowKit Go.Shelf
theorem lagN_int:(lagN:Int)=q0:=rfl
theorem lagN_Q0:lagN=Q0:=by rw[Q0_val];rfl
theorem coefN_in(l:List UInt8)(i:Nat):0≤coefN l i∧coefN l i<q0:=accF_in q0 (by decide) _
def cfN(l:List UInt8)(i:Nat):Nat:=(coefN l i).toNat
theorem cfN_int(l:List UInt8)(i:Nat):(cfN l i:Int)=coefN l i:=by have:=(coefN_in l i).1;unfold cfN;omega
theorem cfN_lt(l:List UInt8)(i:Nat):cfN l i<lagN:=by
 have:=coefN_in l i
 have h:=lagN_int
 have h2:=cfN_int l i
 omega
def cfs(l:List UInt8)(k:Nat):List Nat:=(List.range k).map (cfN l)
theorem cfs_len(l:List UInt8)(k:Nat):(cfs l k).length =k:=by simp[cfs]
theorem cfs_lt(l:List UInt8)(k:Nat):∀c∈cfs l k,c<lagN:=fun c hc=>by
 obtain⟨i,_,rfl⟩:=List.mem_map.1 hc
 exact cfN_lt l i
theorem coefL_cfs(l:List UInt8)(k:Nat):coefL l k=(cfs l k).map (fun c:Nat=>(c:Int)):=by
 unfold coefL cfs
 rw[List.map_map]
 exact List.map_congr_left fun i _=>(cfN_int l i).symm
def shP(cs:List Nat)(i:Nat):Int×Int:=(((i+1:Nat):Int),((sumP cs (i+1)%lagN:Nat):Int))
def shL(cs:List Nat)(n:Nat):List (Int×Int):=(List.range n).map (shP cs)
theorem shL_len(cs:List Nat)(n:Nat):(shL cs n).length =n:=by simp[shL]
theorem shL_snoc(cs:List Nat)(n:Nat):shL cs (n+1)=shL cs n++[shP cs n]:=by
 unfold shL
 rw[List.range_succ,List.map_append]
 rfl
def cmL(cs:List Nat):List Int:=cs.map fun c=>((gp c:Nat):Int)
theorem cmL_len(cs:List Nat):(cmL cs).length =cs.length:=by simp[cmL]
theorem cmL_snoc(cs:List Nat)(c:Nat):cmL (cs++[c])=cmL cs++[((gp c:Nat):Int)]:=by
 unfold cmL
 rw[List.map_append]
 rfl
def boxT(seed text:List UInt8):ByteArray:=⟨(sealS (coefN seed 0) text).toArray⟩
theorem boxT_list(seed text:List UInt8):(boxT seed text).data.toList =sealS (coefN seed 0) text:=by simp[boxT]
theorem boxT_size(seed text:List UInt8):(boxT seed text).size =32+text.length:=by
 have h:=sealS_len (coefN seed 0) text
 rw[size_list,boxT_list,h]
end Go.Proofs.YtpdlbmieciabmaaGreatDoor
namespace Go.Proofs.YtpdlbmieciabmaaGreatDoor
open Go.RowKit
def Marks(base:Nat)(W:World):List Deferred→Prop
 |[]=>True
 |d::ds=>(∃D,d={target:= .collected D,args:= #[]}∧base≤D∧W.heap[D]? =some (.deferred (some []))∧∀x∈ds,x.target≠.collected D)∧Marks base W ds
theorem Marks.kept{base:Nat}{W W' :World}(hk:∀D,base≤D→W.heap[D]? =some (.deferred (some []))→W'.heap[D]? =some (.deferred (some []))):∀{ds:List Deferred},Marks base W ds→Marks base W' ds
 |[],_=>trivial
 |_::_,⟨⟨D,h1,h2,h3,h4⟩,h⟩=>⟨⟨D,h1,h2,hk D h2 h3,h4⟩,h.kept hk⟩
theorem Marks.lt{base:Nat}{W:World}:∀{ds:List Deferred},Marks base W ds→∀x∈ds,∃D,x.target= .collected D∧D<W.heap.size
 |[],_=>fun x hx=>by cases hx
 |_::_,⟨⟨D,h1,_,h3,_⟩,h⟩=>fun x hx=>by
  rcases List.mem_cons.1 hx with rfl|hx
  ·exact⟨D,by rw[h1],(Array.getElem?_eq_some_iff.1 h3).1⟩
  ·exact h.lt x hx
theorem Marks.put{base D:Nat}{W:World}{o:Obj}:∀{ds:List Deferred},Marks base W ds→(∀x∈ds,x.target≠.collected D)→Marks base (W.putObj D o) ds
 |[],_,_=>trivial
 |d::ds,⟨⟨D',h1,h2,h3,h4⟩,h⟩,hn=>by
  have hne:D≠D' :=fun e=>hn d (List.mem_cons_self ..) (by rw[h1,e])
  exact⟨⟨D',h1,h2,(World.putObj_heap_other (Ne.symm hne)).trans h3,h4⟩,h.put (fun x hx=>hn x (List.mem_cons_of_mem _ hx))⟩
theorem marks_leave{F:Fence}{n:Nat}{P:Program}{fn:Func}{tmps:Array Value}{R:Ending→World→Prop}{base:Nat}(K:World→Prop)(hK:∀W D,base≤D→W.heap[D]? =some (.deferred (some []))→K W→K (W.putObj D (.deferred none)))
  (hR:∀W,K W→∃v,(results fn tmps).run P W= .ok v W∧R (.returned v) W):∀(ds:List Deferred) (W:World),Marks base W ds→K W→LeavesInM F n P fn tmps R ds .returning W
 |[],W,_,h=>hR W h
 |d::ds,W,⟨⟨D,h1,h2,h3,h4⟩,hm⟩,h=>by
  refine⟨by simp,.inl ⟨D,W.putObj D (.deferred none),by rw[h1],run_takeDeferred h3,?_⟩⟩
  exact marks_leave K hK hR ds _ (hm.put h4) (hK W D h2 h3 h)
end Go.Proofs.YtpdlbmieciabmaaGreatDoor
