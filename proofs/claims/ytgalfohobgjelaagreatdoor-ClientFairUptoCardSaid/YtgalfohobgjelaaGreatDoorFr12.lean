/- What is proved here:several parts. several parts. the reference's hash as text. Conditions:none. · texts of heads and of votes,and signed votes,by the program and by the reference. Conditions:the numbers are ints,roots have 32 bytes;for the program the table of powers of ten reads as its initialiser lays it. · several parts. which votes count,by the program's closures and by the reference. Conditions:the numbers are ints,roots have 32 bytes;for the program the table of powers of ten reads as its initialiser lays it. · the program's closures on votes,and the library's Clone,IndexFunc and DeleteFunc at votes. Conditions:the votes' numbers are ints,their roots have 32 bytes. · the library's Clone,IndexFunc and DeleteFunc at votes. Conditions:the votes' numbers are ints,their roots have 32 bytes,there are few. -/
import Derived.Test.YtgalfohobgjelaaGreatDoorFr04
import Derived.Test.YtgalfohobgjelaaGreatDoorFr08
import Derived.Test.YtgalfohobgjelaaGreatDoorFr09
import Derived.Test.YtgalfohobgjelaaGreatDoorFr10
import Derived.Test.YtgalfohobgjelaaGreatDoorFr11
import Derived.Deep.DeepCutAuto
import Derived.Deep.RegionHeld3
import Derived.BigQuiet
import Derived.Deep.QuietTactic
import Derived.Deep.AppendSrc
import Derived.Maps.AppendAt
namespace Go.Proofs.YtgalfohobgjelaaGreatDoor
open Go.RowKit Go.Shelf
theorem hexC_ext:∀n:Nat,n<16→((⟨#[48,49,50,51,52,53,54,55,56,57,97,98,99,100,101,102]⟩:ByteArray).extract n (n+1)).data.toList= [hexC n]:=by decide+kernel
set_option maxRecDepth 100000 in
set_option maxHeartbeats 2000000 in
theorem rtext09_any (h:List UInt8) (hl:h.length=32) (w:World):Calls Tryz.prog 93 #[hv h] w (RetStr (hexL h) w):=by
 unfold hv
 have hb0:Blk (w.alloc (.cells (h.map bv).toArray 35)) w.heap.size 35 (h.map bv).toArray:=Blk.new w _ _
 have ho0:Only NoneOf w (w.alloc (.cells (h.map bv).toArray 35)):=(Only.refl _ _).alloc _
 obtain⟨B,eB⟩:∃B,B=w.heap.size:=⟨_,rfl⟩
 have HB0:=Lib.hid hb0
 have HO0:=Lib.hid ho0
 have HL:=Lib.hid hl
 clear hb0 ho0 hl
 go_enter Tryz.func93,Tryz.ntmps93
 go_wp2_with fail
 refine wp_gen (fun Y=>Blk Y w.heap.size 35 (h.map bv).toArray∧Only NoneOf w Y) ⟨HB0.out,HO0.out⟩ ?_
 rintro Y ⟨hb,ho⟩
 have HB:=Lib.hid hb
 have HO:=Lib.hid ho
 clear hb ho HB0 HO0
 rw [←eB] at HB⊢
 clear eB
 go_loopw [3,4] (fun v i wr=> ∃(k:Nat) (s:ByteArray),i= .int .i64 k∧v= .string s∧k≤32∧s.data.toList=hexL (h.take k)∧Blk wr B 35 (h.map bv).toArray∧Only NoneOf w wr) (fun _ i _=>32 - (intOf i).toNat)
 case atStart=>exact⟨0,⟨#[]⟩,rfl,rfl,by omega,rfl,HB.out,HO.out⟩
 case round=>
  obtain⟨k,s,rfl,rfl,hk,hs,hb,ho⟩:=hrel
  by_cases hlt:k<32
  ·obtain⟨x,hx⟩:∃x,h[k]? =some x:=⟨_,List.getElem?_eq_getElem (by have:=HL.out;omega)⟩
   have hc:wr.cell? ⟨B,k,none⟩=some (.int .u8 (x.toNat:Int)):=by rw [hb.cell,List.getElem?_toArray,List.getElem?_map,hx];rfl
   have hx256:=x.toNat_lt
   have ik:(k:Int) <32:=by omega
   have HBK:=Lib.hid hb
   have HOK:=Lib.hid ho
   have HSK:=Lib.hid hs
   clear hb ho hs
   go_upto_region 5 with(fail)
   have hsz:s.size≤64:=by rw [size_list,HSK.out,hexL_len,List.length_take];omega
   have hs1:s.size+1≤9223372036854775807:=by omega
   have hs2:s.size+1+1≤9223372036854775807:=by omega
   have hnx:hexL (h.take (k+1))=hexL (h.take k) ++ [hexC (x.toNat / 16)] ++ [hexC (x.toNat % 16)]:=by
    rw [List.take_add_one,hx,Option.toList_some,hexL_snoc]
   have HNX:=Lib.hid hnx
   have HX:=Lib.hid hx256
   clear hnx
   go_region
   go_wp2_with fail
   go_roundw
   case rel=>
    refine⟨k+1,_,by go_num,rfl,by omega,?_,HBK.out.drew,HOK.out.drew⟩
    rw [HNX.out,ByteArray.data_append,ByteArray.data_append,Array.toList_append,Array.toList_append,HSK.out,hexC_ext _ (by omega),hexC_ext _ (by omega)]
   case measure=>simp [intOf];omega
  ·obtain rfl:k=32:=by omega
   have ik:¬((32:Nat):Int) <32:=by omega
   have HOK:=Lib.hid ho
   have hall:h.take 32=h:=List.take_of_length_le (by rw [HL.out];exact Nat.le_refl _)
   rw [hall] at hs
   have HSK:=Lib.hid hs
   clear hb ho hs hall
   go_wp2_with fail
   refine⟨rfl,_,results_tmp rfl _ _ _,?_⟩
   exact RetStr.mk HSK.out HOK.out
end Go.Proofs.YtgalfohobgjelaaGreatDoor
namespace Go.Proofs.YtgalfohobgjelaaGreatDoor
open Go.RowKit Go.Shelf
attribute [local go_sem ↓ high] hdLoad_eq vtLoad_eq rootLoad_eq sgLoad_eq vtNew_eq vtStore_eq
def hdT (h:Hd):ByteArray:=⟨(hdText h).toArray⟩
theorem hdT_list (h:Hd):(hdT h).data.toList=hdText h:=by simp [hdT]
theorem hdT_size {h:Hd} (ok:h.Ok):(hdT h).size≤100:=by
 have l1:=itoa_len ok.size.1 ok.size.2
 have l2:=hexL_len h.root
 rw [ok.root] at l2
 rw [size_list,hdT_list];simp [hdText];omega
structure HtS (w:World) (B:Nat) (h:Hd) (W:World):Prop where
 at_:HdAt W B h
 only:Only NoneOf w W
def vtText (v:Vt):List UInt8:=hdText v.head++ [32] ++textOf v.r v.s
def vtT (v:Vt):ByteArray:=⟨(vtText v).toArray⟩
def vtBd (parts:Array (Nat×Value)):Sem Value:=Instr.build 43 parts
theorem vtBd_eq (parts:Array (Nat×Value)):Instr.build 43 parts=vtBd parts:=rfl
set_option maxRecDepth 100000 in
theorem vtBd_built (who n r s:Int):∀(l:List UInt8),l.length=32→Tryz.prog.built 43 [(0,.int .i64 who),(1,.agg (hdC ⟨n,l⟩).toArray),(2,.agg #[.int .i64 r,.int .i64 s])]=some (vtC ⟨who,⟨n,l⟩,r,s⟩).toArray
 | [x0,x1,x2,x3,x4,x5,x6,x7,x8,x9,x10,x11,x12,x13,x14,x15,x16,x17,x18,x19,x20,x21,x22,x23,x24,x25,x26,x27,x28,x29,x30,x31],_=>by kernel_rfl
theorem vtBd_run (r s who:Int) (h:Hd) (hl:h.root.length=32) (W:World):(vtBd #[(0,.int .i64 who),(1,.agg (hdC h).toArray),(2,.agg #[.int .i64 r,.int .i64 s])]).run Tryz.prog W= .ok (.agg (vtC ⟨who,h,r,s⟩).toArray) W:=
 run_build (P:=Tryz.prog) W 43 _ _ (vtBd_built who h.size r s h.root hl)
structure VoS (w:World) (B:Nat) (h:Hd) (W:World):Prop where
 at_:HdAt W B h
 out:∃cs,cs.size=36∧Blk W (B+1) tVt cs
 only:Only NoneOf w W
noncomputable def voteOf (who sec:Int) (h:Hd):Vt:=⟨who,h,(gp (nonce (expo sec) (hdText h)):Int),(sigS sec (hdText h) (nonce (expo sec) (hdText h)):Int)⟩
set_option maxRecDepth 100000 in
set_option maxHeartbeats 1000000 in
theorem number_any (n:Int) (h0: -9223372036854775808≤n) (h1:n≤9223372036854775807) (w:World):Calls Tryz.prog 92 #[.int .i64 n] w (RetStr (Lib.itoa n) w):=by
 obtain⟨T1,hT1⟩:∃A:ByteArray,A.data.toList=Lib.itoa n:=⟨⟨(Lib.itoa n).toArray⟩,by simp⟩
 have f1:∀W,Calls Tryz.prog 114 #[.agg #[.int .i64 n,.int .i64 1]] W (fun e' w'=>e'= .returned (.string T1)∧Only NoneOf W w'):=fun W=> (text_one n h0 h1 W).mono (by rintro e' w' ⟨t,rfl,ht,ho⟩;exact⟨by rw [bytes_ext (ht.trans hT1.symm)],ho⟩)
 have HF:=Lib.hid f1
 have HT:=Lib.hid hT1
 clear f1 hT1
 go_enter Tryz.func92,Tryz.ntmps92
 go_wp2_with fail
 refine(HF.out _).mono ?_
 rintro e1 w1 ⟨rfl,ho1⟩
 have HO:=Lib.hid ho1
 clear ho1
 go_wp2_with fail
 go_ret
 exact RetStr.mk HT.out HO.out
set_option maxRecDepth 100000 in
set_option maxHeartbeats 2000000 in
theorem qtext_any (h:Hd) (ok:h.Ok) (w:World) (ht:Tab w):Calls Tryz.prog 131 #[.agg (hdC h).toArray] w fun e w'=>e= .returned (.string (hdT h))∧Only NoneOf w w':=by
 obtain⟨s0,s1⟩:=ok.size
 have hl:=ok.root
 obtain⟨T1,hT1⟩:∃A:ByteArray,A.data.toList=Lib.itoa h.size:=⟨⟨(Lib.itoa h.size).toArray⟩,by simp⟩
 obtain⟨T2,hT2⟩:∃A:ByteArray,A.data.toList=hexL h.root:=⟨⟨(hexL h.root).toArray⟩,by simp⟩
 have z1:T1.size≤21:=by rw [size_list,hT1];exact itoa_len s0 s1
 have z2:T2.size≤64:=by rw [size_list,hT2,hexL_len,hl];omega
 have f1:∀W,Only NoneOf w W→Calls Tryz.prog 154 #[.int .i64 h.size] W (fun e' w'=>e'= .returned (.string T1)∧Only NoneOf W w'):=fun W ho=> (itoa_any h.size s0 s1 W (ht.none ho)).mono (by rintro e' w' ⟨t,rfl,ht,ho⟩;exact⟨by rw [bytes_ext (ht.trans hT1.symm)],ho⟩)
 have f2:∀W,Calls Tryz.prog 150 #[.agg (h.root.map bv).toArray] W (fun e' w'=>e'= .returned (.string T2)∧Only NoneOf W w'):=fun W=> (dtext_any h.root hl W).mono (by rintro e' w' ⟨t,rfl,ht,ho⟩;exact⟨by rw [bytes_ext (ht.trans hT2.symm)],ho⟩)
 obtain⟨B,eB⟩:∃B,B=w.heap.size:=⟨_,rfl⟩
 obtain⟨X,eX⟩:∃X,X=w.alloc (.cells (hdC h).toArray tHd):=⟨_,rfl⟩
 have hS1:HdAt X B h:=by rw [eX,eB];exact Blk.new w _ _
 have hS:HtS w B h X.drew∧X.drew.rangeAt B 1 (h.root.map bv):=⟨⟨hS1.drew,by rw [eX];exact((Only.refl _ _).alloc _).drew⟩,range_root (blk_range hS1.drew)⟩
 have c0:∀W,HtS w B h W∧W.rangeAt B 1 (h.root.map bv)→W.cell? ⟨B,0,none⟩=some (.int .i64 h.size):=fun W hW=>Blk.cell hW.1.at_ 0
 have hu:=Tryz.underlying35
 have hi:(Tryz.prog.info? 35).map (·.size)=some (h.root.map bv).length:=by rw [List.length_map,hl];kernel_rfl
 have q1:¬9223372036854775807<5+T1.size:=by omega
 have q2:¬9223372036854775807<5+T1.size+1:=by omega
 have q3:¬9223372036854775807<5+T1.size+1+T2.size:=by omega
 have HA:=Lib.hid f1
 have HB:=Lib.hid f2
 have HT1:=Lib.hid hT1
 have HT2:=Lib.hid hT2
 have EX:=Lib.hid eX
 have EB:=Lib.hid eB
 have HKEEP:Hid (∀W W',HtS w B h W∧W.rangeAt B 1 (h.root.map bv)→Only NoneOf W W'→HtS w B h W'∧W'.rangeAt B 1 (h.root.map bv)):=Lib.hid (fun W W' hW ho=> ⟨⟨Blk.only hW.1.at_ ho (fun e=>e),hW.1.only.trans ho⟩,rng_only hW.2 ho⟩)
 have HOUT:Hid (∀W,HtS w B h W∧W.rangeAt B 1 (h.root.map bv)→Only NoneOf w W):=Lib.hid (fun W hW=>hW.1.only)
 clear f1 f2 hT1 hT2 eX eB z1 z2 s0 s1 hl ok hS1 ht
 go_enter Tryz.func131,Tryz.ntmps131
 go_wp2_with fail
 rw [←EX.out,←EB.out]
 clear EX EB
 go_region_held3 (fun w'=>HtS w B h w'∧w'.rangeAt B 1 (h.root.map bv)) (first|assumption)
  (first
   |(go_at_call 154;refine(HA.out _ (HOUT.out _ (by assumption))).mono ?_;rintro e1 w1 ⟨rfl,ho1⟩;have hS1:=HKEEP.out _ _ (by assumption) ho1;clear ho1)
   |(go_at_call 150;refine(HB.out _).mono ?_;rintro e2 w2 ⟨rfl,ho2⟩;have hS2:=HKEEP.out _ _ (by assumption) ho2;clear ho2))
 all_goals
  go_wp2_with fail
  go_ret
  refine⟨congrArg (fun s=>Ending.returned (.string s)) (bytes_ext ?_),HOUT.out _ (by assumption)⟩
  simp only [ByteArray.data_append,Array.toList_append,HT1.out,HT2.out]
  simp [hdT,hdText]
set_option maxRecDepth 100000 in
set_option maxHeartbeats 2000000 in
theorem rqtext_any (h:Hd) (ok:h.Ok) (w:World):Calls Tryz.prog 54 #[.agg (hdC h).toArray] w fun e w'=>e= .returned (.string (hdT h))∧Only NoneOf w w':=by
 obtain⟨s0,s1⟩:=ok.size
 have hl:=ok.root
 obtain⟨T1,hT1⟩:∃A:ByteArray,A.data.toList=Lib.itoa h.size:=⟨⟨(Lib.itoa h.size).toArray⟩,by simp⟩
 obtain⟨T2,hT2⟩:∃A:ByteArray,A.data.toList=hexL h.root:=⟨⟨(hexL h.root).toArray⟩,by simp⟩
 have z1:T1.size≤21:=by rw [size_list,hT1];exact itoa_len s0 s1
 have z2:T2.size≤64:=by rw [size_list,hT2,hexL_len,hl];omega
 have f1:∀W,Calls Tryz.prog 92 #[.int .i64 h.size] W (fun e' w'=>e'= .returned (.string T1)∧Only NoneOf W w'):=fun W=> (number_any h.size s0 s1 W).mono (by rintro e' w' ⟨t,rfl,ht,ho⟩;exact⟨by rw [bytes_ext (ht.trans hT1.symm)],ho⟩)
 have f2:∀W,Calls Tryz.prog 93 #[.agg (h.root.map bv).toArray] W (fun e' w'=>e'= .returned (.string T2)∧Only NoneOf W w'):=fun W=> (rtext09_any h.root hl W).mono (by rintro e' w' ⟨t,rfl,ht,ho⟩;exact⟨by rw [bytes_ext (ht.trans hT2.symm)],ho⟩)
 obtain⟨B,eB⟩:∃B,B=w.heap.size:=⟨_,rfl⟩
 obtain⟨X,eX⟩:∃X,X=w.alloc (.cells (hdC h).toArray tHd):=⟨_,rfl⟩
 have hS1:HdAt X B h:=by rw [eX,eB];exact Blk.new w _ _
 have hS:HtS w B h X.drew∧X.drew.rangeAt B 1 (h.root.map bv):=⟨⟨hS1.drew,by rw [eX];exact((Only.refl _ _).alloc _).drew⟩,range_root (blk_range hS1.drew)⟩
 have c0:∀W,HtS w B h W∧W.rangeAt B 1 (h.root.map bv)→W.cell? ⟨B,0,none⟩=some (.int .i64 h.size):=fun W hW=>Blk.cell hW.1.at_ 0
 have hu:=Tryz.underlying35
 have hi:(Tryz.prog.info? 35).map (·.size)=some (h.root.map bv).length:=by rw [List.length_map,hl];kernel_rfl
 have q1:¬9223372036854775807<5+T1.size:=by omega
 have q2:¬9223372036854775807<5+T1.size+1:=by omega
 have q3:¬9223372036854775807<5+T1.size+1+T2.size:=by omega
 have HA:=Lib.hid f1
 have HB:=Lib.hid f2
 have HT1:=Lib.hid hT1
 have HT2:=Lib.hid hT2
 have EX:=Lib.hid eX
 have EB:=Lib.hid eB
 have HKEEP:Hid (∀W W',HtS w B h W∧W.rangeAt B 1 (h.root.map bv)→Only NoneOf W W'→HtS w B h W'∧W'.rangeAt B 1 (h.root.map bv)):=Lib.hid (fun W W' hW ho=> ⟨⟨Blk.only hW.1.at_ ho (fun e=>e),hW.1.only.trans ho⟩,rng_only hW.2 ho⟩)
 have HOUT:Hid (∀W,HtS w B h W∧W.rangeAt B 1 (h.root.map bv)→Only NoneOf w W):=Lib.hid (fun W hW=>hW.1.only)
 clear f1 f2 hT1 hT2 eX eB z1 z2 s0 s1 hl ok hS1
 go_enter Tryz.func54,Tryz.ntmps54
 go_wp2_with fail
 rw [←EX.out,←EB.out]
 clear EX EB
 go_region_held3 (fun w'=>HtS w B h w'∧w'.rangeAt B 1 (h.root.map bv)) (first|assumption)
  (first
   |(go_at_call 92;refine(HA.out _).mono ?_;rintro e1 w1 ⟨rfl,ho1⟩;have hS1:=HKEEP.out _ _ (by assumption) ho1;clear ho1)
   |(go_at_call 93;refine(HB.out _).mono ?_;rintro e2 w2 ⟨rfl,ho2⟩;have hS2:=HKEEP.out _ _ (by assumption) ho2;clear ho2))
 all_goals
  go_wp2_with fail
  go_ret
  refine⟨congrArg (fun s=>Ending.returned (.string s)) (bytes_ext ?_),HOUT.out _ (by assumption)⟩
  simp only [ByteArray.data_append,Array.toList_append,HT1.out,HT2.out]
  simp [hdT,hdText]
set_option maxRecDepth 100000 in
set_option maxHeartbeats 2000000 in
theorem qwritten_any (v:Vt) (ok:v.Ok) (w:World) (ht:Tab w):Calls Tryz.prog 88 #[.agg (vtC v).toArray] w fun e w'=>e= .returned (.string (vtT v))∧Only NoneOf w w':=by
 have hl:=ok.head.root
 obtain⟨T1,hT1⟩:∃A:ByteArray,A=hdT v.head:=⟨_,rfl⟩
 obtain⟨T2,hT2⟩:∃A:ByteArray,A.data.toList=textOf v.r v.s:=⟨⟨(textOf v.r v.s).toArray⟩,by simp⟩
 have z1:T1.size≤100:=by rw [hT1];exact hdT_size ok.head
 have z2:T2.size≤43:=by
  have l1:=itoa_len ok.r.1 ok.r.2
  have l2:=itoa_len ok.s.1 ok.s.2
  rw [size_list,hT2];simp [textOf];omega
 have f1:∀W,Only NoneOf w W→Calls Tryz.prog 131 #[.agg (hdC v.head).toArray] W (fun e' w'=>e'= .returned (.string T1)∧Only NoneOf W w'):=fun W ho=>by rw [hT1];exact qtext_any v.head ok.head W (ht.none ho)
 have f2:∀W,Only NoneOf w W→Calls Tryz.prog 137 #[sgv v.r v.s] W (fun e' w'=>e'= .returned (.string T2)∧Only NoneOf W w'):=fun W ho=> (stext_any v.r v.s ok.r ok.s W (ht.none ho)).mono (by rintro e' w' ⟨t,rfl,ht,ho⟩;exact⟨by rw [bytes_ext (ht.trans hT2.symm)],ho⟩)
 obtain⟨B,eB⟩:∃B,B=w.heap.size:=⟨_,rfl⟩
 obtain⟨X,eX⟩:∃X,X=w.alloc (.cells (vtC v).toArray tVt):=⟨_,rfl⟩
 have hS:VtAt X.drew B v∧Only NoneOf w X.drew:=by rw [eX,eB];exact⟨(Blk.new w _ _).drew,((Only.refl _ _).alloc _).drew⟩
 have c0:∀W,VtAt W B v∧Only NoneOf w W→(hdLoad (.pointer (some ⟨B,1,none⟩))).run Tryz.prog W= .ok (.agg (hdC v.head).toArray) W:=fun W hW=>hd_load (range_head (blk_range hW.1) hl) hl
 have c1:∀W,VtAt W B v∧Only NoneOf w W→(sgLoad (.pointer (some ⟨B,34,none⟩))).run Tryz.prog W= .ok (sgv v.r v.s) W:=fun W hW=>sg_load (range_sig (blk_range hW.1) hl)
 have q1:¬9223372036854775807<T1.size+1:=by omega
 have q2:¬9223372036854775807<T1.size+1+T2.size:=by omega
 have HA:=Lib.hid f1
 have HB:=Lib.hid f2
 have HT1:=Lib.hid hT1
 have HT2:=Lib.hid hT2
 have EX:=Lib.hid eX
 have EB:=Lib.hid eB
 have HKEEP:Hid (∀W W',VtAt W B v∧Only NoneOf w W→Only NoneOf W W'→VtAt W' B v∧Only NoneOf w W'):=Lib.hid (fun W W' hW ho=> ⟨Blk.only hW.1 ho (fun e=>e),hW.2.trans ho⟩)
 have HOUT:Hid (∀W,VtAt W B v∧Only NoneOf w W→Only NoneOf w W):=Lib.hid (fun W hW=>hW.2)
 clear f1 f2 hT1 hT2 eX eB z1 z2 hl ok ht
 go_enter Tryz.func88,Tryz.ntmps88
 go_wp2_with fail
 rw [←EX.out,←EB.out]
 clear EX EB
 go_region_held3 (fun w'=>VtAt w' B v∧Only NoneOf w w') (first|assumption)
  (first
   |(go_at_call 131;refine(HA.out _ (HOUT.out _ (by assumption))).mono ?_;rintro e1 w1 ⟨rfl,ho1⟩;have hS1:=HKEEP.out _ _ (by assumption) ho1;clear ho1)
   |(go_at_call 137;refine(HB.out _ (HOUT.out _ (by assumption))).mono ?_;rintro e2 w2 ⟨rfl,ho2⟩;have hS2:=HKEEP.out _ _ (by assumption) ho2;clear ho2))
 all_goals
  go_wp2_with fail
  go_ret
  refine⟨congrArg (fun s=>Ending.returned (.string s)) (bytes_ext ?_),HOUT.out _ (by assumption)⟩
  simp only [ByteArray.data_append,Array.toList_append,HT1.out,HT2.out]
  simp [hdT,vtT,vtText]
attribute [local go_sem ↓ high] vtBd_eq
set_option maxRecDepth 100000 in
set_option maxHeartbeats 2000000 in
theorem rqvote_any (who sec:Int) (h:Hd) (ok:h.Ok) (w:World):Calls Tryz.prog 41 #[.int .i64 who,.int .i64 sec,.agg (hdC h).toArray] w fun e w'=>e= .returned (.agg (vtC (voteOf who sec h)).toArray)∧Only NoneOf w w':=by
 have hl:=ok.root
 obtain⟨T1,hT1⟩:∃A:ByteArray,A=hdT h:=⟨_,rfl⟩
 have z1:T1.size≤100:=by rw [hT1];exact hdT_size ok
 obtain⟨V,hV⟩:∃V,V=voteOf who sec h:=⟨_,rfl⟩
 have hVl:V.head.root.length=32:=by rw [hV];exact hl
 have f1:∀W,Calls Tryz.prog 54 #[.agg (hdC h).toArray] W (fun e' w'=>e'= .returned (.string T1)∧Only NoneOf W w'):=fun W=>by rw [hT1];exact rqtext_any h ok W
 have f2:∀W,Calls Tryz.prog 70 #[.int .i64 sec,.string T1] W (fun e' w'=>e'= .returned (.agg #[.int .i64 V.r,.int .i64 V.s])∧Only NoneOf W w'):=fun W=> (rsign_any sec T1 W (by omega)).mono (by rintro e' w' ⟨rfl,ho⟩;exact⟨by rw [hT1,hV,hdT_list];rfl,ho⟩)
 have hbd:∀W,(vtBd #[(0,.int .i64 who),(1,.agg (hdC h).toArray),(2,.agg #[.int .i64 V.r,.int .i64 V.s])]).run Tryz.prog W= .ok (.agg (vtC V).toArray) W:=fun W=>by
  rw [vtBd_run V.r V.s who h hl W,hV];rfl
 obtain⟨B,eB⟩:∃B,B=w.heap.size:=⟨_,rfl⟩
 obtain⟨X,eX⟩:∃X,X=(w.alloc (.cells (hdC h).toArray tHd)).alloc (.cells vt0C tVt):=⟨_,rfl⟩
 have hS0:VoS w B h X:=by
  have h2:=Blk.new (w.alloc (.cells (hdC h).toArray tHd)) tVt vt0C
  rw [World.size_alloc,←eB] at h2
  exact⟨by rw [eX,eB];exact(Blk.new w _ _).alloc _,⟨vt0C,rfl,by rw [eX];exact h2⟩,by rw [eX];exact((Only.refl _ _).alloc _).alloc _⟩
 have hS:VoS w B h X.drew:=⟨hS0.1.drew,⟨_,hS0.2.choose_spec.1,hS0.2.choose_spec.2.drew⟩,hS0.3.drew⟩
 have c0:∀W,VoS w B h W→(hdLoad (.pointer (some ⟨B,0,none⟩))).run Tryz.prog W= .ok (.agg (hdC h).toArray) W:=fun W hW=>hd_load (blk_range hW.1) hl
 have hnw:=vtNew_run
 have cst:∀W,VoS w B h W→(vtStore (.pointer (some ⟨B+1,0,none⟩)) (.agg (vtC V).toArray)).run Tryz.prog W= .ok () (W.setCells (B+1) 0 (vtC V)):=fun W hW=>by obtain⟨cs,hc,hb⟩:=hW.2;exact vt_store hb hc hVl
 have HV:=Lib.hid hV
 have HA:=Lib.hid f1
 have HB:=Lib.hid f2
 have EX:=Lib.hid eX
 have EB:=Lib.hid eB
 have HFIN:Hid (∀W,VoS w B h W→Blk (W.setCells (B+1) 0 (vtC V)) (B+1) tVt (vtC V).toArray∧VoS w B h (W.setCells (B+1) 0 (vtC V))):=Lib.hid (fun W hW=>by
  obtain⟨cs,hc,hb⟩:=hW.2
  have h1:=filled_whole (ds:=vtC V) hb (by rw [vtC_len hVl,hc])
  exact⟨h1,Blk.farCells (by omega) _ 0 hW.1,⟨_,by rw [List.size_toArray,vtC_len hVl],h1⟩,only_setCells hW.3 (B+1) 0 (.inr (by omega)) _⟩)
 have HKEEP:Hid (∀W W',VoS w B h W→Only NoneOf W W'→VoS w B h W'):=Lib.hid (fun W W' hW ho=> ⟨Blk.only hW.1 ho (fun e=>e),⟨hW.2.choose,hW.2.choose_spec.1,Blk.only hW.2.choose_spec.2 ho (fun e=>e)⟩,hW.3.trans ho⟩)
 have HOUT:Hid (∀W,VoS w B h W→Only NoneOf w W):=Lib.hid (fun W hW=>hW.3)
 have HINF:Hid ((Tryz.prog.info? tVt).map (·.size)=some (vtC V).toArray.size):=Lib.hid (by rw [List.size_toArray,vtC_len hVl];kernel_rfl)
 clear f1 f2 hT1 hV eX eB z1 hl ok hS0 hVl
 go_enter Tryz.func41,Tryz.ntmps41
 go_wp2_with fail
 rw [←EX.out,←EB.out]
 clear EX EB
 go_region_held3 (fun w'=>VoS w B h w') (first|(with_reducible assumption)|(with_reducible exact(HFIN.out _ (by assumption)).2))
  (first
   |(go_at_call 54;refine(HA.out _).mono ?_;rintro e1 w1 ⟨rfl,ho1⟩;have hS1:=HKEEP.out _ _ (by assumption) ho1;clear ho1)
   |(go_at_call 70;refine(HB.out _).mono ?_;rintro e2 w2 ⟨rfl,ho2⟩;have hS2:=HKEEP.out _ _ (by assumption) ho2;clear ho2))
 all_goals
  obtain⟨hb,hz⟩:=HFIN.out _ hS2
  have HZ:=Lib.hid hz.3
  have HBB:=Lib.hid hb
  clear hb hz c0 cst hbd hnw hS hS1 hS2
  go_wp2_with fail
  exact bodyPost_ret (v:= .agg (vtC V).toArray) (results_blk rfl rfl HBB.out Tryz.underlying43 rfl HINF.out) rfl ⟨by rw [HV.out],HZ.out⟩
end Go.Proofs.YtgalfohobgjelaaGreatDoor
namespace Go.Proofs.YtgalfohobgjelaaGreatDoor
open Go.RowKit Go.Shelf
attribute [local go_sem ↓ high] hdLoad_eq vtLoad_eq sgLoad_eq hdStore_eq hdNew_eq
structure CtS (w:World) (B:Nat) (p:Pers) (v:Vt) (W:World):Prop where
 p:Blk W B 67 #[.int .i64 p.id,.int .i64 p.role,.int .i64 p.pub]
 v:VtAt W (B+1) v
 only:Only NoneOf w W
noncomputable def cntO (O:List Pers) (v:Vt):Bool:=
 match O.find? (fun p=>p.id==v.who) with
 |some p=>goodB p.pub (hdText v.head) v.r v.s
 |none=>false
noncomputable def keyF (O:List Pers):Value→Option Value:=fun x=> (O.find? (fun p=>eqv x (.int .i64 p.id))).map (fun p=> .int .i64 p.pub)
theorem eqv_int (a b:Int):eqv (.int .i64 a) (.int .i64 b)=(b==a):=by
 rw [Bool.eq_iff_iff,eqv_true,beq_iff_eq]
 constructor
 ·intro h;cases h;rfl
 ·rintro rfl;rfl
theorem keyF_int (O:List Pers) (id:Int):keyF O (.int .i64 id)=(O.find? (fun p=>p.id==id)).map (fun p=> .int .i64 p.pub):=by
 unfold keyF
 congr 2
 funext p
 exact eqv_int id p.id
theorem keyF_put {O:List Pers} {p:Pers} (h:∀q∈O,q.id≠p.id) (x:Value):put1 (keyF O) (.int .i64 p.id) (.int .i64 p.pub) x=keyF (O++ [p]) x:=by
 unfold keyF
 rw [List.find?_append]
 by_cases e:x= .int .i64 p.id
 ·subst e
  rw [put1_same]
  have hn:O.find? (fun q=>eqv (.int .i64 p.id) (.int .i64 q.id))=none:=by
   rw [List.find?_eq_none]
   intro q hq
   rw [eqv_int]
   simpa using h q hq
  rw [hn]
  simp [eqv_self]
 ·rw [put1_other e]
  have: [p].find? (fun q=>eqv x (.int .i64 q.id))=none:=by simp [eqv_false.2 e]
  rw [this,Option.or_none]
theorem zero_int (w:World):(zeroValue 3).run Tryz.prog w= .ok (.int .i64 0) w:=by kernel_rfl
structure Q1S (w:World) (B kc b:Nat) (v:Vt) (W:World):Prop where
 v:VtAt W B v
 only:Only NoneOf w W
set_option maxRecDepth 100000 in
set_option maxHeartbeats 2000000 in
theorem qcounts_any (O:List Pers) (hO:PersOk O) (v:Vt) (vo:v.Ok) (kc b n:Nat) (w:World) (hm:MapV w Tryz.prog 3 b n (keyF O)) (hc:w.cell? ⟨kc,0,none⟩=some (.map (some b))) (ht:Tab w):
  Calls Tryz.prog 130 #[.agg (vtC v).toArray,.pointer (some ⟨kc,0,none⟩)] w fun e w'=>e= .returned (.bool (cntO O v))∧Only NoneOf w w':=by
 obtain⟨B,eB⟩:∃B,B=w.heap.size:=⟨_,rfl⟩
 have hkc:=World.block_lt_of_cell? w _ hc
 have hlk:∀o,(Instr.lookup 188 (.map (some b)) (.int .i64 v.who) true).run Tryz.prog (w.alloc o)= .ok (.tuple #[((keyF O (.int .i64 v.who)).getD (.int .i64 0)),.bool (keyF O (.int .i64 v.who)).isSome]) (w.alloc o):=fun o=>
  MapV.look_ok (hm.only ((Only.refl NoneOf _).alloc o) (fun e=>e)) int_law Tryz.underlying188 (zero_int _) (key_int vo.who)
 have hX:VtAt (w.alloc (.cells (vtC v).toArray tVt)) B v:=by rw [eB];exact Blk.new w _ _
 have cX:(w.alloc (.cells (vtC v).toArray tVt)).cell? ⟨kc,0,none⟩=some (.map (some b)):=((Only.refl NoneOf w).alloc _).cell_some hc (fun e=>e)
 have oX:Only NoneOf w (w.alloc (.cells (vtC v).toArray tVt)):=(Only.refl NoneOf w).alloc _
 have x0:(w.alloc (.cells (vtC v).toArray tVt)).cell? ⟨B,0,none⟩=some (.int .i64 v.who):=hX.cell 0
 have hl:=vo.head.root
 rw [keyF_int] at hlk
 have HC:Hid (cntO O v=match O.find? (fun p=>p.id==v.who) with|some p=>goodB p.pub (hdText v.head) v.r v.s|none=>false):=Lib.hid rfl
 cases hf:O.find? (fun p=>p.id==v.who) with
 |none=>
  rw [hf] at HC hlk
  have hcn:cntO O v=false:=HC.out
  rw [hcn]
  simp only [Option.map_none,Option.getD_none,Option.isSome_none] at hlk
  have HOX:=Lib.hid oX
  have EB:=Lib.hid eB
  clear hcn HC hf hm hc hX ht oX hkc hl vo hO eB
  go_enter Tryz.func130,Tryz.ntmps130
  rw [EB.out] at x0
  go_upto_region 2 with(fail)
  go_quiet (fail)
  all_goals
   go_wp2_with fail
   go_ret
   exact⟨rfl,HOX.out.drewN _⟩
 |some p=>
  have hpm:=List.mem_of_find?_eq_some hf
  have po:=hO p hpm
  rw [hf] at HC hlk
  obtain⟨γ,hγ⟩:∃γ,γ=goodB p.pub (hdText v.head) v.r v.s:=⟨_,rfl⟩
  have hcn:cntO O v=γ:=by rw [hγ];exact HC.out
  rw [hcn]
  simp only [Option.map_some,Option.getD_some,Option.isSome_some] at hlk
  obtain⟨T1,hT1⟩:∃A:ByteArray,A=hdT v.head:=⟨_,rfl⟩
  have z1:T1.size≤100:=by rw [hT1];exact hdT_size vo.head
  have f1:∀W,Only NoneOf w W→Calls Tryz.prog 131 #[.agg (hdC v.head).toArray] W (fun e' w'=>e'= .returned (.string T1)∧Only NoneOf W w'):=fun W ho=>by rw [hT1];exact qtext_any v.head vo.head W (ht.none ho)
  have f2:∀W,Calls Tryz.prog 103 #[.int .i64 p.pub,.string T1,sgv v.r v.s] W (fun e' w'=>e'= .returned (.bool γ)∧Only NoneOf W w'):=fun W=>by
   have h:=sverify_any p.pub v.r v.s T1 W (by omega) po.pub.1 po.pub.2 vo.r.1 vo.r.2
   rw [hT1,hdT_list,←hγ] at h
   rw [hT1];exact h
  have hS:Q1S w B kc b v (w.alloc (.cells (vtC v).toArray tVt)).drew:=⟨hX.drew,oX.drew⟩
  have v1:∀W,Q1S w B kc b v W→(hdLoad (.pointer (some ⟨B,1,none⟩))).run Tryz.prog W= .ok (.agg (hdC v.head).toArray) W:=fun W h=>hd_load (range_head (blk_range h.v) hl) hl
  have v2:∀W,Q1S w B kc b v W→(sgLoad (.pointer (some ⟨B,34,none⟩))).run Tryz.prog W= .ok (sgv v.r v.s) W:=fun W h=>sg_load (range_sig (blk_range h.v) hl)
  have HA:=Lib.hid f1
  have HB:=Lib.hid f2
  have EB:=Lib.hid eB
  have HOUT:Hid (∀W,Q1S w B kc b v W→Only NoneOf w W):=Lib.hid (fun W hW=>hW.only)
  have HKEEP:Hid (∀W W',Q1S w B kc b v W→Only NoneOf W W'→Q1S w B kc b v W'):=Lib.hid (fun W W' h ho=> ⟨Blk.only h.v ho (fun e=>e),h.only.trans ho⟩)
  clear f1 f2 hT1 hγ hcn HC hf hm hc hX oX hkc ht z1 hl po hO eB hpm vo
  go_enter Tryz.func130,Tryz.ntmps130
  rw [EB.out] at x0
  go_upto_region 2 with(fail)
  rw [←EB.out]
  go_region_held3 (fun w'=>Q1S w B kc b v w') (first|assumption)
   (first
    |(go_at_call 131;refine(HA.out _ (HOUT.out _ (by assumption))).mono ?_;rintro e1 w1 ⟨rfl,ho1⟩;have hS1:=HKEEP.out _ _ (by assumption) ho1;clear ho1)
    |(go_at_call 103;refine(HB.out _).mono ?_;rintro e2 w2 ⟨rfl,ho2⟩;have hS2:=HKEEP.out _ _ (by assumption) ho2;clear ho2))
  all_goals
   go_wp2_with fail
   go_ret
   exact⟨rfl,HOUT.out _ (by assumption)⟩
end Go.Proofs.YtgalfohobgjelaaGreatDoor
namespace Go.Proofs.YtgalfohobgjelaaGreatDoor
open Go.RowKit Go.Shelf
attribute [local go_sem ↓ high] hdLoad_eq vtLoad_eq hdStore_eq hdNew_eq vtNew_eq vtStore_eq
abbrev tKm:TypeId:=188
abbrev tKf:TypeId:=137
structure KeyS (w:World) (O:List Pers) (kc cc b n:Nat):Prop where
 map:MapV w Tryz.prog 3 b n (keyF O)
 kb:Blk w kc tKm #[.map (some b)]
 cb:Blk w cc tKf #[.func (.func 130) #[] #[.pointer (some ⟨kc,0,none⟩)]]
 tab:Tab w
theorem KeyS.only {w w':World} {O:List Pers} {kc cc b n:Nat} (h:KeyS w O kc cc b n) (ho:Only NoneOf w w'):KeyS w' O kc cc b n:=
 ⟨h.map.only ho (fun e=>e),h.kb.only ho (fun e=>e),h.cb.only ho (fun e=>e),h.tab.none ho⟩
set_option maxRecDepth 100000 in
set_option maxHeartbeats 1000000 in
theorem qdel_any (O:List Pers) (hO:PersOk O) (v:Vt) (vo:v.Ok) (kc cc b n:Nat) (w:World) (hk:KeyS w O kc cc b n):
  Calls Tryz.prog 134 #[.agg (vtC v).toArray,.pointer (some ⟨cc,0,none⟩)] w fun e w'=>e= .returned (.bool (!cntO O v))∧Only NoneOf w w':=by
 have ho:Only NoneOf w (w.alloc (.cells (vtC v).toArray tVt)):=(Only.refl _ _).alloc _
 have hk2:=hk.only ho
 have cX:(w.alloc (.cells (vtC v).toArray tVt)).cell? ⟨cc,0,none⟩=some (.func (.func 130) #[] #[.pointer (some ⟨kc,0,none⟩)]):=hk2.cb.cell 0
 have hld:=vt_load (blk_range (Blk.new w tVt (vtC v).toArray)) vo.head.root
 have hct:=qcounts_any O hO v vo kc b n _ hk2.map (hk2.kb.cell 0) hk2.tab
 have HO:=Lib.hid ho
 have HCT:=Lib.hid hct
 clear hk hk2 ho hct vo hO
 go_enter Tryz.func134,Tryz.ntmps134
 go_wp2_with fail
 refine HCT.out.mono ?_
 rintro e1 w1 ⟨rfl,ho1⟩
 have HO1:=Lib.hid (HO.out.trans ho1)
 clear ho1 HCT hld
 go_wp2_with fail
 go_ret
 exact⟨rfl,HO1.out⟩
set_option maxRecDepth 100000 in
set_option maxHeartbeats 1000000 in
theorem qwho_any (v:Vt) (w:World):Calls Tryz.prog 136 #[.agg (vtC v).toArray] w fun e w'=>e= .returned (.int .i64 v.who)∧Only NoneOf w w':=by
 have ho:Only NoneOf w (w.alloc (.cells (vtC v).toArray tVt)):=(Only.refl _ _).alloc _
 have c0:(w.alloc (.cells (vtC v).toArray tVt)).cell? ⟨w.heap.size,0,none⟩=some (.int .i64 v.who):=(Blk.new w tVt (vtC v).toArray).cell 0
 have HO:=Lib.hid ho
 clear ho
 go_enter Tryz.func136,Tryz.ntmps136
 go_wp2_with fail
 go_ret
 exact⟨rfl,HO.out⟩
set_option maxRecDepth 100000 in
set_option maxHeartbeats 1000000 in
theorem qhead_any (v:Vt) (hl:v.head.root.length=32) (w:World):Calls Tryz.prog 163 #[.agg (vtC v).toArray] w fun e w'=>e= .returned (.agg (hdC v.head).toArray)∧Only NoneOf w w':=by
 obtain⟨B,eB⟩:∃B,B=w.heap.size:=⟨_,rfl⟩
 obtain⟨X,eX⟩:∃X,X=(w.alloc (.cells (vtC v).toArray tVt)).alloc (.cells hd0C tHd):=⟨_,rfl⟩
 have hb:VtAt X B v:=by rw [eX,eB];exact(Blk.new w _ _).alloc _
 have hh:Blk X (B+1) tHd hd0C:=by
  have h2:=Blk.new (w.alloc (.cells (vtC v).toArray tVt)) tHd hd0C
  rw [World.size_alloc,←eB] at h2
  rw [eX];exact h2
 have ho:Only NoneOf w X:=by rw [eX];exact((Only.refl _ _).alloc _).alloc _
 have l1:=hd_load (range_head (blk_range hb) hl) hl
 have s1:=hd_store (h:=v.head) hh rfl hl
 have h3:=filled_whole (ds:=hdC v.head) hh (by rw [hdC_len hl];rfl)
 have h4:Only NoneOf w (X.setCells (B+1) 0 (hdC v.head)):=only_setCells ho (B+1) 0 (.inr (by omega)) _
 have hinf:(Tryz.prog.info? tHd).map (·.size)=some (hdC v.head).toArray.size:=by rw [List.size_toArray,hdC_len hl];kernel_rfl
 have hnw:=hdNew_run
 have EX:=Lib.hid eX
 have EB:=Lib.hid eB
 have H3:=Lib.hid h3
 have H4:=Lib.hid h4
 have HINF:=Lib.hid hinf
 clear hb hh ho h3 h4 hinf eX eB hl
 go_enter Tryz.func163,Tryz.ntmps163
 go_upto_region 1 with(fail)
 rw [←EX.out,←EB.out]
 clear hnw
 go_wp2_with fail
 exact bodyPost_ret (v:= .agg (hdC v.head).toArray) (results_blk rfl rfl H3.out Tryz.underlying37 rfl HINF.out) rfl ⟨rfl,H4.out⟩
end Go.Proofs.YtgalfohobgjelaaGreatDoor
namespace Go.Proofs.YtgalfohobgjelaaGreatDoor
open Go.RowKit Go.Shelf
attribute [local go_sem ↓ high] vtLoad_eq vtNew_eq vtStore_eq
theorem vts_cells {w:World} {g o:Nat} {L:List Vt} (hok:VtsOk L) (h:∀(i:Nat) (e:Vt),L[i]? =some e→w.rangeAt g (o+i * 36) (vtC e)):∀j u,(L.flatMap vtC)[j]? =some u→w.cell? ((⟨g,o,none⟩:Addr).add j)=some u:=fun j u hj=>by
 have hlt:=(List.getElem?_eq_some_iff.1 hj).1
 rw [vts_len L hok] at hlt
 obtain⟨e,he⟩:∃e,L[j / 36]? =some e:=⟨_,List.getElem?_eq_getElem (by omega)⟩
 have h1:=vts_get L hok (j / 36) (j % 36) (Nat.mod_lt _ (by omega)) e he
 rw [show j / 36 * 36+j % 36=j by omega] at h1
 rw [h1] at hj
 have h2:=h (j / 36) e he (j % 36) u hj
 rw [show o+j / 36 * 36+j % 36=o+j by omega] at h2
 rw [Addr.add_mid]
 exact h2
theorem flat_one (L:List Vt):∀u∈L.flatMap vtC,u.oneCell'=true:=fun u hu=>by
 obtain⟨v,_,hv⟩:=List.mem_flatMap.1 hu
 exact vtC_one v u hv
set_option maxRecDepth 100000 in
set_option maxHeartbeats 2000000 in
theorem clone_any (L:List Vt) (hok:VtsOk L) (hlen:L.length≤100000) (sv:Value) (w:World) (hs:VtSl w sv L):
  Calls Tryz.prog 133 #[sv] w fun e w'=> ∃rv,e= .returned rv∧VtOwn w' w.heap.size rv L.length L∧Only NoneOf w w':=by
 obtain⟨ie,z,hie,hsz,hz,hzc,hby⟩:=vt_info
 obtain⟨A,cap,rfl,hlc,hcm,hA⟩:=hs
 cases A with
 |none=>
  have h0:L= []:=by
   cases L with
   |nil=>rfl
   |cons x l=>
    obtain⟨g,o,hA',_⟩:=hA 0 x rfl
    cases hA'
  subst h0
  have heq:=fun W=>Lib.run_eql_slice_nil (P:=Tryz.prog) W 32 43 none 0 cap 0 0 Tryz.underlying32
  clear hA hlc
  go_enter Tryz.func133,Tryz.ntmps133
  go_wp2_with fail
  go_ret
  exact⟨_,rfl,⟨rfl,.inl ⟨rfl,rfl⟩⟩,Only.refl _ _⟩
 |some a=>
  obtain⟨g,o,q⟩:=a
  have heq:=fun W=>Lib.run_eql_slice_nil (P:=Tryz.prog) W 32 43 (some ⟨g,o,q⟩) L.length cap 0 0 Tryz.underlying32
  have hnews:∀j u,(L.flatMap vtC)[j]? =some u→(w.alloc (.cells #[] 43)).cell? ((⟨g,o,q⟩:Addr).add j)=some u:=fun j u hj=>by
   cases L with
   |nil=>simp at hj
   |cons x l=>
    obtain⟨g',o',hA',_⟩:=hA 0 x rfl
    cases hA'
    have h1:=vts_cells (w:=w) (g:=g) (o:=o) hok (fun i e he=>by
     obtain⟨g2,o2,hA2,_,hr⟩:=hA i e he
     cases hA2
     exact hr) j u hj
    exact((Only.refl NoneOf w).alloc _).cell_some h1 (fun e=>e)
  have hown0:(w.alloc (.cells #[] 43)).ownsRow w.heap.size 43 36 (.slice (some ⟨w.heap.size,0,none⟩) 0 0) 0 []:=
   ⟨rfl,.inr ⟨w.heap.size,0, #[],rfl,Nat.le_refl _,Blk.new w _ _,Nat.le_refl _,by rw [maxLen_val];omega,rfl,rfl⟩⟩
  have hll:=vts_len L hok
  have HN:=Lib.hid hnews
  have HOWN:=Lib.hid hown0
  have HLL:=Lib.hid hll
  clear hA hok hnews hown0 hll
  go_enter Tryz.func133,Tryz.ntmps133
  go_upto_region 3 with(fail)
  clear heq
  go_wp2_with (first
   |(at_builtin;refine wpList_append_own_at _ rfl _ _ 32 rfl w.heap.size 43 ie z 36 ie.bytes Tryz.underlying32 hie hz hsz rfl hzc (by omega) _ 0 [] rfl HOWN.out ⟨g,o,q⟩ L.length cap (L.flatMap vtC) rfl HLL.out HN.out (flat_one L) (by rw [maxLen_val];omega) (by rw [Nat.zero_add];exact Nat.le_trans (Nat.mul_le_mul hlen hby) (by omega)) (by simp) ?_;intro v' w1 hown1 hgrow1 hnil1 hloc1))
  have hO:Only NoneOf w w1:=((Only.refl NoneOf w).alloc _).grown hgrow1 (fun j e=>by cases e;exact .inr (Nat.le_refl _))
  rw [Nat.zero_add,List.nil_append] at hown1
  have HW:=Lib.hid hown1
  have HO:=Lib.hid hO
  clear hown1 hgrow1 hnil1 hloc1 hO
  go_wp2_with fail
  go_ret
  exact⟨_,rfl,HW.out,HO.out⟩
noncomputable def idxG (p:Vt→Bool):Nat→List Vt→Int
 |_, []=> -1
 |k,v::l=>if p v then idxG p (k+1) l else(k:Int)
set_option maxRecDepth 100000 in
set_option maxHeartbeats 2000000 in
theorem vindex_any (O:List Pers) (hO:PersOk O) (L:List Vt) (hok:VtsOk L) (sv:Value) (kc cc b n:Nat) (w:World) (hs:VtSl w sv L) (hk:KeyS w O kc cc b n):
  Calls Tryz.prog 169 #[sv,.func (.func 134) #[] #[.pointer (some ⟨cc,0,none⟩)]] w fun e w'=>e= .returned (.int .i64 (idxG (cntO O) 0 L))∧Only NoneOf w w':=by
 obtain⟨A,cap,rfl,hlc,hcm,hA⟩:=hs
 have HA:=Lib.hid hA
 have HOK:=Lib.hid hok
 have HK:=Lib.hid hk
 have HPO:=Lib.hid hO
 clear hA hok hk hO
 go_enter Tryz.func169,Tryz.ntmps169
 go_wp2_with fail
 go_loopw [5,8] (fun _ i wr=> ∃k:Nat,i= .int .i64 k∧k≤L.length∧idxG (cntO O) 0 L=idxG (cntO O) k (L.drop k)∧Only NoneOf w wr) (fun _ i _=>L.length - (intOf i).toNat)
 case atStart=>exact⟨0,rfl,by omega,rfl,Only.refl _ _⟩
 case round=>
  obtain⟨k,rfl,hk,hidx,ho⟩:=hrel
  by_cases hlt:k<L.length
  ·obtain⟨v,hv⟩:∃v,L[k]? =some v:=⟨_,List.getElem?_eq_getElem hlt⟩
   obtain⟨g,o,hA',hg,hr⟩:=HA.out k v hv
   subst hA'
   have vo:=HOK.out v (List.mem_of_getElem? hv)
   have hld:=vt_load (rng_only hr ho) vo.head.root
   have ik:(k:Int) < (L.length:Int):=by omega
   have ik0:(0:Int)≤(k:Int):=by omega
   have hdrop:L.drop k=v::L.drop (k+1):=by rw [List.drop_eq_getElem_cons hlt];rw [List.getElem?_eq_getElem hlt] at hv;rw [Option.some.inj hv]
   rw [hdrop,idxG] at hidx
   have hct:=qdel_any O HPO.out v vo kc cc b n wr (HK.out.only ho)
   obtain⟨β,hβ⟩:∃β,β=cntO O v:=⟨_,rfl⟩
   rw [←hβ] at hidx hct
   have HO:=Lib.hid ho
   have HCT:=Lib.hid hct
   have HIDX:=Lib.hid hidx
   clear ho hct hidx hβ hdrop hr vo hv
   go_wp2_with fail
   refine HCT.out.mono ?_
   rintro e1 w1 ⟨rfl,ho1⟩
   have HO1:=Lib.hid (HO.out.trans ho1)
   clear ho1 HCT hld
   cases β with
   |true=>
    have h1:idxG (cntO O) 0 L=idxG (cntO O) (k+1) (L.drop (k+1)):=by rw [HIDX.out,if_pos rfl]
    have H1:=Lib.hid h1
    clear h1
    go_wp2_with fail
    go_roundw
    case rel=>exact⟨k+1,by go_num,by omega,H1.out,HO1.out⟩
    case measure=>simp [intOf];omega
   |false=>
    have h1:idxG (cntO O) 0 L=(k:Int):=by rw [HIDX.out,if_neg (by simp)]
    have H1:=Lib.hid h1
    clear h1 HIDX
    go_wp2_with fail
    go_ret
    exact⟨by rw [H1.out];rfl,HO1.out⟩
  ·obtain rfl:k=L.length:=by omega
   have h1:idxG (cntO O) 0 L= -1:=by rw [hidx,List.drop_length,idxG]
   have H1:=Lib.hid h1
   have HO:=Lib.hid ho
   clear h1 hidx ho
   go_wp2_with fail
   go_ret
   exact⟨by rw [H1.out];rfl,HO.out⟩
theorem idxG_cases (p:Vt→Bool):∀(L:List Vt) (k:Nat),(idxG p k L= -1∧∀v∈L,p v=true)∨∃i v,idxG p k L=((k+i:Nat):Int)∧L[i]? =some v∧p v=false∧∀x∈L.take i,p x=true
 | [],_=> .inl ⟨rfl,fun v h=>by cases h⟩
 |v::l,k=>by
  cases hv:p v with
  |false=>exact .inr ⟨0,v,by rw [idxG,if_neg (by simp [hv])];rfl,rfl,hv,fun x h=>by simp at h⟩
  |true=>
   rcases idxG_cases p l (k+1) with⟨h1,h2⟩|⟨i,u,h1,h2,h3,h4⟩
   ·refine .inl ⟨by rw [idxG,if_pos hv,h1],fun x hx=> ?_⟩
    rcases List.mem_cons.1 hx with rfl|hx
    ·exact hv
    ·exact h2 x hx
   ·refine .inr ⟨i+1,u,by rw [idxG,if_pos hv,h1];congr 1;omega,h2,h3,fun x hx=> ?_⟩
    rw [List.take_succ_cons] at hx
    rcases List.mem_cons.1 hx with rfl|hx
    ·exact hv
    ·exact h4 x hx
structure DlS (w0:World) (O:List Pers) (kc cc b n:Nat) (L:List Vt) (g cap j i:Nat) (M:List Vt) (W:World):Prop where
 own:VtOwn W w0.heap.size (.slice (some ⟨g,0,none⟩) M.length cap) M.length M
 len:M.length=L.length
 ok:VtsOk M
 lt:i<j
 le:j≤L.length
 head:M.take i=(L.take j).filter (cntO O)
 tail:M.drop j=L.drop j
 key:KeyS W O kc cc b n
 only:Only NoneOf w0 W
 tab0:∀W,Only NoneOf w0 W→Tab W
theorem DlS.skip {w0:World} {O:List Pers} {kc cc b n:Nat} {L:List Vt} {g cap j i:Nat} {M:List Vt} {W W':World} {v:Vt} (h:DlS w0 O kc cc b n L g cap j i M W) (ho:Only NoneOf W W') (hv:L[j]? =some v) (hc:cntO O v=false):DlS w0 O kc cc b n L g cap (j+1) i M W':=by
 have hlt:=(List.getElem?_eq_some_iff.1 hv).1
 refine⟨own_only h.own ho (fun _ _ e=>e),h.len,h.ok,by have:=h.lt;omega,hlt,?_,?_,h.key.only ho,h.only.trans ho,h.tab0⟩
 ·rw [h.head,List.take_add_one,hv,Option.toList_some,List.filter_append]
  simp [hc]
 ·have:=congrArg (List.drop 1) h.tail
  rw [List.drop_drop,List.drop_drop] at this
  exact this
theorem DlS.take {w0:World} {O:List Pers} {kc cc b n:Nat} {L:List Vt} {g cap j i:Nat} {M:List Vt} {W W':World} {v:Vt} (h:DlS w0 O kc cc b n L g cap j i M W) (ho:Only NoneOf W W') (hv:L[j]? =some v) (vo:v.Ok) (hc:cntO O v=true):
  DlS w0 O kc cc b n L g cap (j+1) (i+1) (M.set i v) (W'.setCells g (i * 36) (vtC v)):=by
 have hlt:=(List.getElem?_eq_some_iff.1 hv).1
 have hij:=h.lt
 have hml:=h.len
 have hown:VtOwn W' w0.heap.size (.slice (some ⟨g,0,none⟩) M.length cap) M.length M:=own_only h.own ho (fun _ _ e=>e)
 have hgb:w0.heap.size≤g:=(own_ge hown rfl).1
 have k2:=h.key.only ho
 have hbg:b≠g:=fun e=>own_map_ne hown k2.map (by rw [e];rfl)
 have hkg:kc≠g:=fun e=>own_blk_ne hown k2.kb (by decide) (by rw [e];rfl)
 have hcg:cc≠g:=fun e=>own_blk_ne hown k2.cb (by decide) (by rw [e];rfl)
 have hO:Only NoneOf w0 (W'.setCells g (i * 36) (vtC v)):=only_setCells (h.only.trans ho) g _ (.inr hgb) _
 have hG:Only (fun k=>k=g) W' (W'.setCells g (i * 36) (vtC v)):=only_setCells (S:=fun k=>k=g) (Only.refl _ _) g _ (.inl rfl) _
 refine⟨?_,by rw [List.length_set];exact hml,vts_set h.ok vo i,by omega,by omega,?_,?_,⟨k2.map.only hG hbg,Blk.farCells hkg _ _ k2.kb,Blk.farCells hcg _ _ k2.cb,?_⟩,hO,h.tab0⟩
 ·rw [List.length_set]
  exact VtOwn.put hown h.ok (by omega) vo
 ·have hr:(L.take (j+1)).filter (cntO O)=(L.take j).filter (cntO O) ++ [v]:=by
   rw [List.take_add_one,hv,Option.toList_some,List.filter_append]
   simp [hc]
  rw [hr,←h.head,List.take_add_one,List.take_set_of_le (Nat.le_refl _),List.getElem?_set_self (by omega)]
  rfl
 ·have:=congrArg (List.drop 1) h.tail
  rw [List.drop_drop,List.drop_drop] at this
  rw [List.drop_set_of_lt (by omega)]
  exact this
 ·exact h.tab0 _ hO
set_option maxRecDepth 100000 in
set_option maxHeartbeats 4000000 in
theorem delfunc_any (O:List Pers) (hO:PersOk O) (L:List Vt) (hok:VtsOk L) (hlen:L.length≤100000) (sv:Value) (kc cc b n:Nat) (w0 w:World) (ht:Tab w0) (h0:Only NoneOf w0 w) (hown:VtOwn w w0.heap.size sv L.length L) (hk:KeyS w O kc cc b n):
  Calls Tryz.prog 132 #[sv,.func (.func 134) #[] #[.pointer (some ⟨cc,0,none⟩)]] w fun e w'=> ∃rv,e= .returned rv∧VtOwn w' w0.heap.size rv (L.filter (cntO O)).length (L.filter (cntO O))∧Only NoneOf w0 w':=by
 have hsl:VtSl w sv L:=hown.sl hok
 have hix:=vindex_any O hO L hok sv kc cc b n w hsl hk
 have HIX:=Lib.hid hix
 have HK:=Lib.hid hk
 have HOK:=Lib.hid hok
 have HPO:=Lib.hid hO
 have HT:=Lib.hid ht
 have H0:=Lib.hid h0
 have HOWN:=Lib.hid hown
 rcases idxG_cases (cntO O) L 0 with⟨h1,h2⟩|⟨i0,v0,h1,h2,h3,h4⟩
 ·have hf:L.filter (cntO O)=L:=List.filter_eq_self.2 h2
  have HI:Hid (idxG (cntO O) 0 L= -1):=Lib.hid h1
  have HF:=Lib.hid hf
  clear hix hk hok hO ht h0 hown h1 h2 hf hsl
  go_enter Tryz.func132,Tryz.ntmps132
  go_wp2_with fail
  refine HIX.out.mono ?_
  rintro e1 w1 ⟨rfl,ho1⟩
  rw [HI.out]
  have HO1:=Lib.hid ho1
  clear ho1 HIX
  go_wp2_with fail
  go_ret
  refine⟨_,rfl,?_,H0.out.trans HO1.out⟩
  rw [HF.out]
  exact own_only HOWN.out HO1.out (fun _ _ e=>e)
 ·have hi0:i0<L.length:=(List.getElem?_eq_some_iff.1 h2).1
  obtain⟨g,cap,rfl,hgb,hgl,hnc,hcm⟩:=own_form hown (by omega)
  rw [maxLen_val] at hcm
  rw [Nat.zero_add] at h1
  have hfh:L.take i0=(L.take (i0+1)).filter (cntO O):=by
   rw [List.take_add_one,h2,Option.toList_some,List.filter_append,List.filter_eq_self.2 h4]
   simp [h3]
  have HI:Hid (idxG (cntO O) 0 L=(i0:Int)):=Lib.hid h1
  have HFH:=Lib.hid hfh
  have i0n:(i0:Int) < (L.length:Int):=by omega
  have ine:((i0:Int)== -1)=false:=beq_eq_false_iff_ne.2 (by omega)
  clear hix hk hok hO ht h0 hown h1 h2 h3 h4 hfh hsl
  go_enter Tryz.func132,Tryz.ntmps132
  go_wp2_with fail
  refine HIX.out.mono ?_
  rintro e1 w1 ⟨rfl,ho1⟩
  rw [HI.out]
  have hs0:DlS w0 O kc cc b n L g cap (i0+1) i0 L w1:=⟨own_only HOWN.out ho1 (fun _ _ e=>e),rfl,HOK.out,by omega,by omega,HFH.out,rfl,HK.out.only ho1,H0.out.trans ho1,fun W ho=>HT.out.none ho⟩
  have HS0:=Lib.hid hs0
  clear hs0 ho1 HIX
  go_wp2_with fail
  go_loopw [5,6,7] (fun iv jv _ wr=> ∃(j i:Nat) (M:List Vt),iv= .int .i64 i∧jv= .int .i64 j∧DlS w0 O kc cc b n L g cap j i M wr) (fun _ jv _ _=>L.length - (intOf jv).toNat)
  case atStart=>exact⟨i0+1,i0,L,rfl,by go_num,HS0.out⟩
  case round=>
   obtain⟨j,i,M,rfl,rfl,hS⟩:=hrel
   have hij:=hS.lt
   have hjl:=hS.le
   have hml:=hS.len
   by_cases hlt:j<L.length
   ·obtain⟨v,hv⟩:∃v,L[j]? =some v:=⟨_,List.getElem?_eq_getElem hlt⟩
    have hvM:M[j]? =some v:=by
     have h1:=congrArg (fun l=>l[0]?) hS.tail
     simp only [List.getElem?_drop,Nat.add_zero] at h1
     rw [h1];exact hv
    have vo:=HOK.out v (List.mem_of_getElem? hv)
    have hl:=vo.head.root
    have hld:=vt_load (hS.own.range hS.ok hvM) hl
    have hnw:=vtNew_run
    obtain⟨N,eN⟩:∃N,N=wr.heap.size:=⟨_,rfl⟩
    have hb0:Blk (wr.alloc (.cells vt0C 43)) N tVt vt0C:=by rw [eN];exact Blk.new wr _ _
    have hst:=vt_store hb0 rfl hl
    rw [eN] at hst
    have hb1:VtAt ((wr.alloc (.cells vt0C 43)).setCells N 0 (vtC v)) N v:=filled_whole hb0 (by rw [vtC_len hl];rfl)
    have hO1:Only NoneOf wr ((wr.alloc (.cells vt0C 43)).setCells N 0 (vtC v)):=only_setCells ((Only.refl _ _).alloc _) N 0 (.inr (by omega)) _
    have ij:(j:Int) < (L.length:Int):=by omega
    have ij0:(0:Int)≤(j:Int):=by omega
    have ii:(i:Int) < (L.length:Int):=by omega
    have ii0:(0:Int)≤(i:Int):=by omega
    have HS:=Lib.hid hS
    have HV:=Lib.hid hv
    have HVO:=Lib.hid vo
    have HB1:=Lib.hid hb1
    have HO1:=Lib.hid hO1
    have EN:=Lib.hid eN
    clear hS hv hvM vo hb0 hb1 hO1 eN
    go_upto_region 8 with(fail)
    rw [←EN.out]
    refine wp_gen (fun Z=>VtAt Z N v∧Only NoneOf wr Z) ⟨HB1.out,HO1.out⟩ ?_
    rintro Z ⟨hzb,hzo⟩
    clear hld hst hnw
    have hld2:=vt_load (blk_range hzb) hl
    have hct:=qdel_any O HPO.out v HVO.out kc cc b n Z (HS.out.key.only hzo)
    have HCT:=Lib.hid hct
    have HZB:=Lib.hid hzb
    have HZO:=Lib.hid hzo
    clear hct hzb hzo hl HB1 HO1
    go_wp2_with fail
    refine HCT.out.mono ?_
    rintro e2 w2 ⟨rfl,ho2⟩
    have HO2:=Lib.hid (HZO.out.trans ho2)
    have hld3:=vt_load (blk_range (Blk.only HZB.out ho2 (fun e=>e))) HVO.out.head.root
    clear ho2 HCT hld2
    cases hc:cntO O v with
    |false=>
     have hnew:=HS.out.skip HO2.out HV.out hc
     have HNEW:=Lib.hid hnew
     clear hnew hc hld3
     go_wp2_with fail
     go_roundw
     case rel=>exact⟨j+1,i,M,rfl,by go_num,HNEW.out⟩
     case measure=>simp [intOf];omega
    |true=>
     have hown2:VtOwn w2 w0.heap.size (.slice (some ⟨g,0,none⟩) M.length cap) M.length M:=own_only HS.out.own HO2.out (fun _ _ e=>e)
     have hst2:=vt_store_own (i:=i) hown2 (by omega) HVO.out
     have hnew:=HS.out.take HO2.out HV.out HVO.out hc
     have HNEW:=Lib.hid hnew
     clear hnew hc hown2
     go_wp2_with fail
     go_roundw
     case rel=>exact⟨j+1,i+1,M.set i v,by go_num,by go_num,HNEW.out⟩
     case measure=>simp [intOf];omega
   ·obtain rfl:j=L.length:=by omega
    have hhd:=hS.head
    rw [List.take_length] at hhd
    have hfl:(L.filter (cntO O)).length=i:=by rw [←hhd,List.length_take];omega
    have hth:wr.there g (i * 36) ((M.length - i) * 36):=vown_there hS.own (by have:(M.length - i) * 36=M.length * 36 - i * 36:=Nat.sub_mul _ _ _;omega)
    have hcl:∀ty,(Builtin.clear_ #[32] ty #[.slice (some ⟨g,i * 36,none⟩) (L.length - i) (cap - i)]).run Tryz.prog wr= .ok (.tuple #[]) (wr.setCells g (i * 36) (clrZ (L.length - i))):=fun ty=>run_clear_vts wr ty g (i * 36) (L.length - i) (cap - i) (by omega) (by rw [←hml];exact hth)
    have hcut:=VtOwn.cut hS.own hS.ok (show i≤M.length by omega) (clrZ (L.length - i))
    rw [hhd] at hcut
    have hO:Only NoneOf w0 (wr.setCells g (i * 36) (clrZ (L.length - i))):=only_setCells hS.only g _ (.inr hgb) _
    have ii:(i:Int)≤(L.length:Int):=by omega
    have ii0:(0:Int)≤(i:Int):=by omega
    have iic:(i:Int)≤(cap:Int):=by omega
    have icn:¬cap=i:=by omega
    have HCUT:=Lib.hid hcut
    have HO:=Lib.hid hO
    have HFL:=Lib.hid hfl
    clear hcut hO hS hhd hfl hth
    go_wp2_with fail
    go_ret
    refine⟨_,rfl,?_,HO.out⟩
    rw [HFL.out]
    exact HCUT.out
end Go.Proofs.YtgalfohobgjelaaGreatDoor
