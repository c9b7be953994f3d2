/- What is proved here: a part of the proof that 'probitylaw31.ClientPlays' answers true. Conditions: each theorem's own. -/
import Derived.Test.YtgalfohobgjelaaGreatDoorPy09
import Derived.Test.YtgalfohobgjelaaGreatDoorPy10
import Derived.Maps.AppendAt
set_option maxRecDepth 100000
set_option maxHeartbeats 8000000
namespace Go.Proofs.YtgalfohobgjelaaGreatDoor
section
open Go.RowKit Go.Shelf
theorem ΩfT:∀n:Nat,n<16→((⟨#[48,49,50,51,52,53,54,55,56,57,97,98,99,100,101,102]⟩:ByteArray).extract n (n+1)).data.toList =[hexC n]:=by decide+kernel
theorem Ωgl(h:List UInt8)(hl:h.length=32)(w:World):Calls Tryz.prog 93 #[hv h] w (Ωq (hexL h) w):=by
 unfold hv
 have hb0:Blk (w.alloc (.cells (h.map bv).toArray 35)) w.heap.size 35 (h.map bv).toArray :=Blk.new w _ _
 have ho0:Only Ωa w (w.alloc (.cells (h.map bv).toArray 35)):=(Only.refl _ _).alloc _
 obtain⟨B,eB⟩:∃B,B=w.heap.size:=⟨_,rfl⟩
 have HB0:=Θ hb0
 have HO0:=Θ ho0
 have HL:=Θ hl
 clear hb0 ho0 hl
 go_enter Tryz.func93,Tryz.ntmps93
 go_wp2_with fail
 refine Ωf (fun Y=>Blk Y w.heap.size 35 (h.map bv).toArray∧Only Ωa w Y) ⟨HB0.out,HO0.out⟩ ?_
 rintro Y ⟨hb,ho⟩
 have HB:=Θ hb
 have HO:=Θ ho
 clear hb ho HB0 HO0
 rw[←eB] at HB⊢
 clear eB
 go_loopw [3,4] (fun v i wr=>∃(k:Nat) (s:ByteArray),i= .int .i64 k∧v= .string s∧k≤32∧s.data.toList=hexL (h.take k)∧Blk wr B 35 (h.map bv).toArray∧Only Ωa w wr) (fun _ i _=>32-(intOf i).toNat)
 case atStart=>exact⟨0,⟨#[]⟩,rfl,rfl,by omega,rfl,HB.out,HO.out⟩
 case round=>
  obtain⟨k,s,rfl,rfl,hk,hs,hb,ho⟩:=hrel
  by_cases hlt:k<32
  ·obtain⟨x,hx⟩:∃x,h[k]? =some x:=⟨_,Ωnu (by have:=HL.out;omega)⟩
   have hc:wr.cell? ⟨B,k,none⟩=some (.int .u8 (x.toNat:Int)):=by rw[hb.cell,ΩnC,Ωn0,hx];rfl
   have hx256:=x.toNat_lt
   have ik:(k:Int)<32:=by omega
   have HBK:=Θ hb
   have HOK:=Θ ho
   have HSK:=Θ hs
   clear hb ho hs
   go_upto_region 5 with(fail)
   have hsz:s.size≤64:=by rw[Ωc,HSK.out,ΩY,ΩnB];omega
   have hs1:s.size+1≤9223372036854775807:=by omega
   have hs2:s.size+1+1≤9223372036854775807:=by omega
   have hnx:hexL (h.take (k+1))=hexL (h.take k)++[hexC (x.toNat/16)]++[hexC (x.toNat%16)]:=by
    rw[ΩnO,hx,ΩnS,ΩeH]
   have HNX:=Θ hnx
   have HX:=Θ hx256
   clear hnx
   go_region
   go_wp2_with fail
   go_roundw
   case rel=>
    refine⟨k+1,_,by go_num,rfl,by omega,?_,HBK.out.drew,HOK.out.drew⟩
    rw[HNX.out,ΩnP,ΩnP,ΩnQ,ΩnQ,HSK.out,ΩfT _ (by omega),ΩfT _ (by omega)]
   case measure=>simp[intOf];omega
  ·obtain rfl:k=32:=by omega
   have ik:¬((32:Nat):Int)<32:=by omega
   have HOK:=Θ ho
   have hall:h.take 32=h:=ΩnI (by rw[HL.out];exact Ωnv _)
   rw[hall] at hs
   have HSK:=Θ hs
   clear hb ho hs hall
   go_wp2_with fail
   refine⟨rfl,_,results_tmp rfl _ _ _,?_⟩
   exact Ωq.mk HSK.out HOK.out
end
section
open Go.RowKit Go.Shelf
attribute [local go_sem ↓ high] ΩG Ωaj Ωd3 Ωgi Ωb9 ΩaV
def hdT(h:Hd):ByteArray:=⟨(ΩbB h).toArray⟩
theorem ΩeJ(h:Hd):(hdT h).data.toList =ΩbB h:=by simp[hdT]
theorem ΩdD{h:Hd}(ok:h.Ok):(hdT h).size≤100:=by
 have l1:=ΩV ok.size.1 ok.size.2
 have l2:=ΩY h.root
 rw[ok.root] at l2
 rw[Ωc,ΩeJ];simp[ΩbB];omega
structure HtS(w:World)(B:Nat)(h:Hd)(W:World):Prop where
 at_:HdAt W B h
 only:Only Ωa w W
def Ωlu(v:Vt):List UInt8:=ΩbB v.head++[32]++Ωc6 v.r v.s
def vtT(v:Vt):ByteArray:=⟨(Ωlu v).toArray⟩
def vtBd(parts:Array (Nat×Value)):Sem Value:=Instr.build 43 parts
theorem vtBd_eq(parts:Array (Nat×Value)):Instr.build 43 parts=vtBd parts:=rfl
theorem vtBd_built(who n r s:Int):∀(l:List UInt8),l.length=32→Tryz.prog.built 43 [(0,.int .i64 who),(1,.agg (hdC ⟨n,l⟩).toArray),(2,.agg #[.int .i64 r,.int .i64 s])]=some (vtC ⟨who,⟨n,l⟩,r,s⟩).toArray
 |[x0,x1,x2,x3,x4,x5,x6,x7,x8,x9,x10,x11,x12,x13,x14,x15,x16,x17,x18,x19,x20,x21,x22,x23,x24,x25,x26,x27,x28,x29,x30,x31],_=>by kernel_rfl
theorem vtBd_run(r s who:Int)(h:Hd)(hl:h.root.length=32)(W:World):(vtBd #[(0,.int .i64 who),(1,.agg (hdC h).toArray),(2,.agg #[.int .i64 r,.int .i64 s])]).run Tryz.prog W= .ok (.agg (vtC ⟨who,h,r,s⟩).toArray) W:=
 run_build (P:=Tryz.prog) W 43 _ _ (vtBd_built who h.size r s h.root hl)
structure VoS(w:World)(B:Nat)(h:Hd)(W:World):Prop where
 at_:HdAt W B h
 out:∃cs,cs.size=36∧Blk W (B+1) tVt cs
 only:Only Ωa w W
noncomputable def Ωga(who sec:Int)(h:Hd):Vt:=⟨who,h,(gp (ΩdK (expo sec) (ΩbB h)):Int),(sigS sec (ΩbB h) (ΩdK (expo sec) (ΩbB h)):Int)⟩
theorem number_any(n:Int)(h0: -9223372036854775808≤n)(h1:n≤9223372036854775807)(w:World):Calls Tryz.prog 92 #[.int .i64 n] w (Ωq (Lib.itoa n) w):=by
 obtain⟨T1,hT1⟩:∃A:ByteArray,A.data.toList=Lib.itoa n:=⟨⟨(Lib.itoa n).toArray⟩,by simp⟩
 have f1:∀W,Calls Tryz.prog 114 #[.agg #[.int .i64 n,.int .i64 1]] W (fun e' w' =>e' = .returned (.string T1)∧Only Ωa W w'):=fun W=>(Ωkk n h0 h1 W).mono (by rintro e' w' ⟨t,rfl,ht,ho⟩;exact⟨by rw[ΩZ (ht.trans hT1.symm)],ho⟩)
 have HF:=Θ f1
 have HT:=Θ hT1
 clear f1 hT1
 go_enter Tryz.func92,Tryz.ntmps92
 go_wp2_with fail
 refine(HF.out _).mono ?_
 rintro e1 w1 ⟨rfl,ho1⟩
 have HO:=Θ ho1
 clear ho1
 go_wp2_with fail
 go_ret
 exact Ωq.mk HT.out HO.out
theorem Ωi2(h:Hd)(ok:h.Ok)(w:World)(ht:Tab w):Calls Tryz.prog 131 #[.agg (hdC h).toArray] w fun e w' =>e= .returned (.string (hdT h))∧Only Ωa w w' :=by
 obtain⟨s0,s1⟩:=ok.size
 have hl:=ok.root
 obtain⟨T1,hT1⟩:∃A:ByteArray,A.data.toList=Lib.itoa h.size:=⟨⟨(Lib.itoa h.size).toArray⟩,by simp⟩
 obtain⟨T2,hT2⟩:∃A:ByteArray,A.data.toList=hexL h.root:=⟨⟨(hexL h.root).toArray⟩,by simp⟩
 have z1:T1.size≤21:=by rw[Ωc,hT1];exact ΩV s0 s1
 have z2:T2.size≤64:=by rw[Ωc,hT2,ΩY,hl];omega
 have f1:∀W,Only Ωa w W→Calls Tryz.prog 154 #[.int .i64 h.size] W (fun e' w' =>e' = .returned (.string T1)∧Only Ωa W w'):=fun W ho=>(ΩdC h.size s0 s1 W (ht.none ho)).mono (by rintro e' w' ⟨t,rfl,ht,ho⟩;exact⟨by rw[ΩZ (ht.trans hT1.symm)],ho⟩)
 have f2:∀W,Calls Tryz.prog 150 #[.agg (h.root.map bv).toArray] W (fun e' w' =>e' = .returned (.string T2)∧Only Ωa W w'):=fun W=>(Ωjw h.root hl W).mono (by rintro e' w' ⟨t,rfl,ht,ho⟩;exact⟨by rw[ΩZ (ht.trans hT2.symm)],ho⟩)
 obtain⟨B,eB⟩:∃B,B=w.heap.size:=⟨_,rfl⟩
 obtain⟨X,eX⟩:∃X,X=w.alloc (.cells (hdC h).toArray tHd):=⟨_,rfl⟩
 have hS1:HdAt X B h:=by rw[eX,eB];exact Blk.new w _ _
 have hS:HtS w B h X.drew∧X.drew.rangeAt B 1 (h.root.map bv):=⟨⟨hS1.drew,by rw[eX];exact((Only.refl _ _).alloc _).drew⟩,ΩD (Ωd hS1.drew)⟩
 have c0:∀W,HtS w B h W∧W.rangeAt B 1 (h.root.map bv)→W.cell? ⟨B,0,none⟩=some (.int .i64 h.size):=fun W hW=>Blk.cell hW.1.at_ 0
 have hu:=Tryz.underlying35
 have hi:(Tryz.prog.info? 35).map (·.size)=some (h.root.map bv).length :=by rw[ΩnN,hl];kernel_rfl
 have q1:¬9223372036854775807<5+T1.size:=by omega
 have q2:¬9223372036854775807<5+T1.size+1:=by omega
 have q3:¬9223372036854775807<5+T1.size+1+T2.size:=by omega
 have HA:=Θ f1
 have HB:=Θ f2
 have HT1:=Θ hT1
 have HT2:=Θ hT2
 have EX:=Θ eX
 have EB:=Θ eB
 have HKEEP:Hid (∀W W',HtS w B h W∧W.rangeAt B 1 (h.root.map bv)→Only Ωa W W'→HtS w B h W'∧W'.rangeAt B 1 (h.root.map bv)):=Θ (fun W W' hW ho=>⟨⟨Blk.only hW.1.at_ ho (fun e=>e),hW.1.only.trans ho⟩,Ωu hW.2 ho⟩)
 have HOUT:Hid (∀W,HtS w B h W∧W.rangeAt B 1 (h.root.map bv)→Only Ωa w W):=Θ (fun W hW=>hW.1.only)
 clear f1 f2 hT1 hT2 eX eB z1 z2 s0 s1 hl ok hS1 ht
 go_enter Tryz.func131,Tryz.ntmps131
 go_wp2_with fail
 rw[←EX.out,←EB.out]
 clear EX EB
 go_region_held3 (fun w' =>HtS w B h w'∧w'.rangeAt B 1 (h.root.map bv)) (first|assumption)
  (first
   |(go_at_call 154;refine(HA.out _ (HOUT.out _ (by assumption))).mono ?_;rintro e1 w1 ⟨rfl,ho1⟩;have hS1:=HKEEP.out _ _ (by assumption) ho1;clear ho1)
   |(go_at_call 150;refine(HB.out _).mono ?_;rintro e2 w2 ⟨rfl,ho2⟩;have hS2:=HKEEP.out _ _ (by assumption) ho2;clear ho2))
 all_goals
  go_wp2_with fail
  go_ret
  refine⟨congrArg (fun s=>Ending.returned (.string s)) (ΩZ ?_),HOUT.out _ (by assumption)⟩
  simp only[ΩnP,ΩnQ,HT1.out,HT2.out]
  simp[hdT,ΩbB]
theorem Ωdy(h:Hd)(ok:h.Ok)(w:World):Calls Tryz.prog 54 #[.agg (hdC h).toArray] w fun e w' =>e= .returned (.string (hdT h))∧Only Ωa w w' :=by
 obtain⟨s0,s1⟩:=ok.size
 have hl:=ok.root
 obtain⟨T1,hT1⟩:∃A:ByteArray,A.data.toList=Lib.itoa h.size:=⟨⟨(Lib.itoa h.size).toArray⟩,by simp⟩
 obtain⟨T2,hT2⟩:∃A:ByteArray,A.data.toList=hexL h.root:=⟨⟨(hexL h.root).toArray⟩,by simp⟩
 have z1:T1.size≤21:=by rw[Ωc,hT1];exact ΩV s0 s1
 have z2:T2.size≤64:=by rw[Ωc,hT2,ΩY,hl];omega
 have f1:∀W,Calls Tryz.prog 92 #[.int .i64 h.size] W (fun e' w' =>e' = .returned (.string T1)∧Only Ωa W w'):=fun W=>(number_any h.size s0 s1 W).mono (by rintro e' w' ⟨t,rfl,ht,ho⟩;exact⟨by rw[ΩZ (ht.trans hT1.symm)],ho⟩)
 have f2:∀W,Calls Tryz.prog 93 #[.agg (h.root.map bv).toArray] W (fun e' w' =>e' = .returned (.string T2)∧Only Ωa W w'):=fun W=>(Ωgl h.root hl W).mono (by rintro e' w' ⟨t,rfl,ht,ho⟩;exact⟨by rw[ΩZ (ht.trans hT2.symm)],ho⟩)
 obtain⟨B,eB⟩:∃B,B=w.heap.size:=⟨_,rfl⟩
 obtain⟨X,eX⟩:∃X,X=w.alloc (.cells (hdC h).toArray tHd):=⟨_,rfl⟩
 have hS1:HdAt X B h:=by rw[eX,eB];exact Blk.new w _ _
 have hS:HtS w B h X.drew∧X.drew.rangeAt B 1 (h.root.map bv):=⟨⟨hS1.drew,by rw[eX];exact((Only.refl _ _).alloc _).drew⟩,ΩD (Ωd hS1.drew)⟩
 have c0:∀W,HtS w B h W∧W.rangeAt B 1 (h.root.map bv)→W.cell? ⟨B,0,none⟩=some (.int .i64 h.size):=fun W hW=>Blk.cell hW.1.at_ 0
 have hu:=Tryz.underlying35
 have hi:(Tryz.prog.info? 35).map (·.size)=some (h.root.map bv).length :=by rw[ΩnN,hl];kernel_rfl
 have q1:¬9223372036854775807<5+T1.size:=by omega
 have q2:¬9223372036854775807<5+T1.size+1:=by omega
 have q3:¬9223372036854775807<5+T1.size+1+T2.size:=by omega
 have HA:=Θ f1
 have HB:=Θ f2
 have HT1:=Θ hT1
 have HT2:=Θ hT2
 have EX:=Θ eX
 have EB:=Θ eB
 have HKEEP:Hid (∀W W',HtS w B h W∧W.rangeAt B 1 (h.root.map bv)→Only Ωa W W'→HtS w B h W'∧W'.rangeAt B 1 (h.root.map bv)):=Θ (fun W W' hW ho=>⟨⟨Blk.only hW.1.at_ ho (fun e=>e),hW.1.only.trans ho⟩,Ωu hW.2 ho⟩)
 have HOUT:Hid (∀W,HtS w B h W∧W.rangeAt B 1 (h.root.map bv)→Only Ωa w W):=Θ (fun W hW=>hW.1.only)
 clear f1 f2 hT1 hT2 eX eB z1 z2 s0 s1 hl ok hS1
 go_enter Tryz.func54,Tryz.ntmps54
 go_wp2_with fail
 rw[←EX.out,←EB.out]
 clear EX EB
 go_region_held3 (fun w' =>HtS w B h w'∧w'.rangeAt B 1 (h.root.map bv)) (first|assumption)
  (first
   |(go_at_call 92;refine(HA.out _).mono ?_;rintro e1 w1 ⟨rfl,ho1⟩;have hS1:=HKEEP.out _ _ (by assumption) ho1;clear ho1)
   |(go_at_call 93;refine(HB.out _).mono ?_;rintro e2 w2 ⟨rfl,ho2⟩;have hS2:=HKEEP.out _ _ (by assumption) ho2;clear ho2))
 all_goals
  go_wp2_with fail
  go_ret
  refine⟨congrArg (fun s=>Ending.returned (.string s)) (ΩZ ?_),HOUT.out _ (by assumption)⟩
  simp only[ΩnP,ΩnQ,HT1.out,HT2.out]
  simp[hdT,ΩbB]
theorem Ωft(v:Vt)(ok:v.Ok)(w:World)(ht:Tab w):Calls Tryz.prog 88 #[.agg (vtC v).toArray] w fun e w' =>e= .returned (.string (vtT v))∧Only Ωa w w' :=by
 have hl:=ok.head.root
 obtain⟨T1,hT1⟩:∃A:ByteArray,A=hdT v.head:=⟨_,rfl⟩
 obtain⟨T2,hT2⟩:∃A:ByteArray,A.data.toList=Ωc6 v.r v.s:=⟨⟨(Ωc6 v.r v.s).toArray⟩,by simp⟩
 have z1:T1.size≤100:=by rw[hT1];exact ΩdD ok.head
 have z2:T2.size≤43:=by
  have l1:=ΩV ok.r.1 ok.r.2
  have l2:=ΩV ok.s.1 ok.s.2
  rw[Ωc,hT2];simp[Ωc6];omega
 have f1:∀W,Only Ωa w W→Calls Tryz.prog 131 #[.agg (hdC v.head).toArray] W (fun e' w' =>e' = .returned (.string T1)∧Only Ωa W w'):=fun W ho=>by rw[hT1];exact Ωi2 v.head ok.head W (ht.none ho)
 have f2:∀W,Only Ωa w W→Calls Tryz.prog 137 #[sgv v.r v.s] W (fun e' w' =>e' = .returned (.string T2)∧Only Ωa W w'):=fun W ho=>(stext_any v.r v.s ok.r ok.s W (ht.none ho)).mono (by rintro e' w' ⟨t,rfl,ht,ho⟩;exact⟨by rw[ΩZ (ht.trans hT2.symm)],ho⟩)
 obtain⟨B,eB⟩:∃B,B=w.heap.size:=⟨_,rfl⟩
 obtain⟨X,eX⟩:∃X,X=w.alloc (.cells (vtC v).toArray tVt):=⟨_,rfl⟩
 have hS:VtAt X.drew B v∧Only Ωa w X.drew:=by rw[eX,eB];exact⟨(Blk.new w _ _).drew,((Only.refl _ _).alloc _).drew⟩
 have c0:∀W,VtAt W B v∧Only Ωa w W→(Ωa4 (.pointer (some ⟨B,1,none⟩))).run Tryz.prog W= .ok (.agg (hdC v.head).toArray) W:=fun W hW=>ΩC (Ω8 (Ωd hW.1) hl) hl
 have c1:∀W,VtAt W B v∧Only Ωa w W→(Ωgj (.pointer (some ⟨B,34,none⟩))).run Tryz.prog W= .ok (sgv v.r v.s) W:=fun W hW=>Ωgh (Ωdb (Ωd hW.1) hl)
 have q1:¬9223372036854775807<T1.size+1:=by omega
 have q2:¬9223372036854775807<T1.size+1+T2.size:=by omega
 have HA:=Θ f1
 have HB:=Θ f2
 have HT1:=Θ hT1
 have HT2:=Θ hT2
 have EX:=Θ eX
 have EB:=Θ eB
 have HKEEP:Hid (∀W W',VtAt W B v∧Only Ωa w W→Only Ωa W W'→VtAt W' B v∧Only Ωa w W'):=Θ (fun W W' hW ho=>⟨Blk.only hW.1 ho (fun e=>e),hW.2.trans ho⟩)
 have HOUT:Hid (∀W,VtAt W B v∧Only Ωa w W→Only Ωa w W):=Θ (fun W hW=>hW.2)
 clear f1 f2 hT1 hT2 eX eB z1 z2 hl ok ht
 go_enter Tryz.func88,Tryz.ntmps88
 go_wp2_with fail
 rw[←EX.out,←EB.out]
 clear EX EB
 go_region_held3 (fun w' =>VtAt w' B v∧Only Ωa w w') (first|assumption)
  (first
   |(go_at_call 131;refine(HA.out _ (HOUT.out _ (by assumption))).mono ?_;rintro e1 w1 ⟨rfl,ho1⟩;have hS1:=HKEEP.out _ _ (by assumption) ho1;clear ho1)
   |(go_at_call 137;refine(HB.out _ (HOUT.out _ (by assumption))).mono ?_;rintro e2 w2 ⟨rfl,ho2⟩;have hS2:=HKEEP.out _ _ (by assumption) ho2;clear ho2))
 all_goals
  go_wp2_with fail
  go_ret
  refine⟨congrArg (fun s=>Ending.returned (.string s)) (ΩZ ?_),HOUT.out _ (by assumption)⟩
  simp only[ΩnP,ΩnQ,HT1.out,HT2.out]
  simp[hdT,vtT,Ωlu]
theorem Ωer(v:Vt)(ok:v.Ok)(w:World):Calls Tryz.prog 100 #[.agg (vtC v).toArray] w fun e w' =>e= .returned (.string (vtT v))∧Only Ωa w w' :=by
 have hl:=ok.head.root
 obtain⟨T1,hT1⟩:∃A:ByteArray,A=hdT v.head:=⟨_,rfl⟩
 obtain⟨T2,hT2⟩:∃A:ByteArray,A.data.toList=Ωc6 v.r v.s:=⟨⟨(Ωc6 v.r v.s).toArray⟩,by simp⟩
 have z1:T1.size≤100:=by rw[hT1];exact ΩdD ok.head
 have z2:T2.size≤43:=by
  have l1:=ΩV ok.r.1 ok.r.2
  have l2:=ΩV ok.s.1 ok.s.2
  rw[Ωc,hT2];simp[Ωc6];omega
 have f1:∀W,Calls Tryz.prog 54 #[.agg (hdC v.head).toArray] W (fun e' w' =>e' = .returned (.string T1)∧Only Ωa W w'):=fun W=>by rw[hT1];exact Ωdy v.head ok.head W
 have f2:∀W,Calls Tryz.prog 145 #[sgv v.r v.s] W (fun e' w' =>e' = .returned (.string T2)∧Only Ωa W w'):=fun W=>(rtext_any v.r v.s ok.r ok.s W).mono (by rintro e' w' ⟨t,rfl,ht,ho⟩;exact⟨by rw[ΩZ (ht.trans hT2.symm)],ho⟩)
 obtain⟨B,eB⟩:∃B,B=w.heap.size:=⟨_,rfl⟩
 obtain⟨X,eX⟩:∃X,X=w.alloc (.cells (vtC v).toArray tVt):=⟨_,rfl⟩
 have hS:VtAt X.drew B v∧Only Ωa w X.drew:=by rw[eX,eB];exact⟨(Blk.new w _ _).drew,((Only.refl _ _).alloc _).drew⟩
 have c0:∀W,VtAt W B v∧Only Ωa w W→(Ωa4 (.pointer (some ⟨B,1,none⟩))).run Tryz.prog W= .ok (.agg (hdC v.head).toArray) W:=fun W hW=>ΩC (Ω8 (Ωd hW.1) hl) hl
 have c1:∀W,VtAt W B v∧Only Ωa w W→(Ωgj (.pointer (some ⟨B,34,none⟩))).run Tryz.prog W= .ok (sgv v.r v.s) W:=fun W hW=>Ωgh (Ωdb (Ωd hW.1) hl)
 have q1:¬9223372036854775807<T1.size+1:=by omega
 have q2:¬9223372036854775807<T1.size+1+T2.size:=by omega
 have HA:=Θ f1
 have HB:=Θ f2
 have HT1:=Θ hT1
 have HT2:=Θ hT2
 have EX:=Θ eX
 have EB:=Θ eB
 have HKEEP:Hid (∀W W',VtAt W B v∧Only Ωa w W→Only Ωa W W'→VtAt W' B v∧Only Ωa w W'):=Θ (fun W W' hW ho=>⟨Blk.only hW.1 ho (fun e=>e),hW.2.trans ho⟩)
 have HOUT:Hid (∀W,VtAt W B v∧Only Ωa w W→Only Ωa w W):=Θ (fun W hW=>hW.2)
 clear f1 f2 hT1 hT2 eX eB z1 z2 hl ok
 go_enter Tryz.func100,Tryz.ntmps100
 go_wp2_with fail
 rw[←EX.out,←EB.out]
 clear EX EB
 go_region_held3 (fun w' =>VtAt w' B v∧Only Ωa w w') (first|assumption)
  (first
   |(go_at_call 54;refine(HA.out _).mono ?_;rintro e1 w1 ⟨rfl,ho1⟩;have hS1:=HKEEP.out _ _ (by assumption) ho1;clear ho1)
   |(go_at_call 145;refine(HB.out _).mono ?_;rintro e2 w2 ⟨rfl,ho2⟩;have hS2:=HKEEP.out _ _ (by assumption) ho2;clear ho2))
 all_goals
  go_wp2_with fail
  go_ret
  refine⟨congrArg (fun s=>Ending.returned (.string s)) (ΩZ ?_),HOUT.out _ (by assumption)⟩
  simp only[ΩnP,ΩnQ,HT1.out,HT2.out]
  simp[hdT,vtT,Ωlu]
attribute [local go_sem ↓ high] vtBd_eq
theorem rqvote_any(who sec:Int)(h:Hd)(ok:h.Ok)(w:World):Calls Tryz.prog 41 #[.int .i64 who,.int .i64 sec,.agg (hdC h).toArray] w fun e w' =>e= .returned (.agg (vtC (Ωga who sec h)).toArray)∧Only Ωa w w' :=by
 have hl:=ok.root
 obtain⟨T1,hT1⟩:∃A:ByteArray,A=hdT h:=⟨_,rfl⟩
 have z1:T1.size≤100:=by rw[hT1];exact ΩdD ok
 obtain⟨V,hV⟩:∃V,V=Ωga who sec h:=⟨_,rfl⟩
 have hVl:V.head.root.length=32:=by rw[hV];exact hl
 have f1:∀W,Calls Tryz.prog 54 #[.agg (hdC h).toArray] W (fun e' w' =>e' = .returned (.string T1)∧Only Ωa W w'):=fun W=>by rw[hT1];exact Ωdy h ok W
 have f2:∀W,Calls Tryz.prog 70 #[.int .i64 sec,.string T1] W (fun e' w' =>e' = .returned (.agg #[.int .i64 V.r,.int .i64 V.s])∧Only Ωa W w'):=fun W=>(ΩiY sec T1 W (by omega)).mono (by rintro e' w' ⟨rfl,ho⟩;exact⟨by rw[hT1,hV,ΩeJ];rfl,ho⟩)
 have hbd:∀W,(vtBd #[(0,.int .i64 who),(1,.agg (hdC h).toArray),(2,.agg #[.int .i64 V.r,.int .i64 V.s])]).run Tryz.prog W= .ok (.agg (vtC V).toArray) W:=fun W=>by
  rw[vtBd_run V.r V.s who h hl W,hV];rfl
 obtain⟨B,eB⟩:∃B,B=w.heap.size:=⟨_,rfl⟩
 obtain⟨X,eX⟩:∃X,X=(w.alloc (.cells (hdC h).toArray tHd)).alloc (.cells vt0C tVt):=⟨_,rfl⟩
 have hS0:VoS w B h X:=by
  have h2:=Blk.new (w.alloc (.cells (hdC h).toArray tHd)) tVt vt0C
  rw[Ωnw,←eB] at h2
  exact⟨by rw[eX,eB];exact(Blk.new w _ _).alloc _,⟨vt0C,rfl,by rw[eX];exact h2⟩,by rw[eX];exact((Only.refl _ _).alloc _).alloc _⟩
 have hS:VoS w B h X.drew:=⟨hS0.1.drew,⟨_,hS0.2.choose_spec.1,hS0.2.choose_spec.2.drew⟩,hS0.3.drew⟩
 have c0:∀W,VoS w B h W→(Ωa4 (.pointer (some ⟨B,0,none⟩))).run Tryz.prog W= .ok (.agg (hdC h).toArray) W:=fun W hW=>ΩC (Ωd hW.1) hl
 have hnw:=ΩbZ
 have cst:∀W,VoS w B h W→(Ωf7 (.pointer (some ⟨B+1,0,none⟩)) (.agg (vtC V).toArray)).run Tryz.prog W= .ok () (W.setCells (B+1) 0 (vtC V)):=fun W hW=>by obtain⟨cs,hc,hb⟩:=hW.2;exact Ωek hb hc hVl
 have HV:=Θ hV
 have HA:=Θ f1
 have HB:=Θ f2
 have EX:=Θ eX
 have EB:=Θ eB
 have HFIN:Hid (∀W,VoS w B h W→Blk (W.setCells (B+1) 0 (vtC V)) (B+1) tVt (vtC V).toArray∧VoS w B h (W.setCells (B+1) 0 (vtC V))):=Θ (fun W hW=>by
  obtain⟨cs,hc,hb⟩:=hW.2
  have h1:=Ωj (ds:=vtC V) hb (by rw[Ω0 hVl,hc])
  exact⟨h1,Blk.farCells (by omega) _ 0 hW.1,⟨_,by rw[ΩnJ,Ω0 hVl],h1⟩,Ωb hW.3 (B+1) 0 (.inr (by omega)) _⟩)
 have HKEEP:Hid (∀W W',VoS w B h W→Only Ωa W W'→VoS w B h W'):=Θ (fun W W' hW ho=>⟨Blk.only hW.1 ho (fun e=>e),⟨hW.2.choose,hW.2.choose_spec.1,Blk.only hW.2.choose_spec.2 ho (fun e=>e)⟩,hW.3.trans ho⟩)
 have HOUT:Hid (∀W,VoS w B h W→Only Ωa w W):=Θ (fun W hW=>hW.3)
 have HINF:Hid ((Tryz.prog.info? tVt).map (·.size)=some (vtC V).toArray.size):=Θ (by rw[ΩnJ,Ω0 hVl];kernel_rfl)
 clear f1 f2 hT1 hV eX eB z1 hl ok hS0 hVl
 go_enter Tryz.func41,Tryz.ntmps41
 go_wp2_with fail
 rw[←EX.out,←EB.out]
 clear EX EB
 go_region_held3 (fun w' =>VoS w B h w') (first|(with_reducible assumption)|(with_reducible exact(HFIN.out _ (by assumption)).2))
  (first
   |(go_at_call 54;refine(HA.out _).mono ?_;rintro e1 w1 ⟨rfl,ho1⟩;have hS1:=HKEEP.out _ _ (by assumption) ho1;clear ho1)
   |(go_at_call 70;refine(HB.out _).mono ?_;rintro e2 w2 ⟨rfl,ho2⟩;have hS2:=HKEEP.out _ _ (by assumption) ho2;clear ho2))
 all_goals
  obtain⟨hb,hz⟩:=HFIN.out _ hS2
  have HZ:=Θ hz.3
  have HBB:=Θ hb
  clear hb hz c0 cst hbd hnw hS hS1 hS2
  go_wp2_with fail
  exact bodyPost_ret (v:= .agg (vtC V).toArray) (Ωn rfl rfl HBB.out Tryz.underlying43 rfl HINF.out) rfl ⟨by rw[HV.out],HZ.out⟩
end
section
open Go.RowKit Go.Shelf
attribute [local go_sem ↓ high] ΩG Ωaj Ωgi ΩQ Ωaq
structure CtS(w:World)(B:Nat)(p:Pers)(v:Vt)(W:World):Prop where
 p:Blk W B 67 #[.int .i64 p.id,.int .i64 p.role,.int .i64 p.pub]
 v:VtAt W (B+1) v
 only:Only Ωa w W
theorem rcounts_any(p:Pers)(po:p.Ok)(v:Vt)(vo:v.Ok)(w:World):Calls Tryz.prog 170 #[.agg #[.int .i64 p.id,.int .i64 p.role,.int .i64 p.pub],.agg (vtC v).toArray] w fun e w' =>e= .returned (.bool (cnts p v))∧Only Ωa w w' :=by
 obtain⟨B,eB⟩:∃B,B=w.heap.size:=⟨_,rfl⟩
 obtain⟨X,eX⟩:∃X,X=(w.alloc (.cells #[.int .i64 p.id,.int .i64 p.role,.int .i64 p.pub] 67)).alloc (.cells (vtC v).toArray tVt):=⟨_,rfl⟩
 have hS0:CtS w B p v X:=by
  have h2:=Blk.new (w.alloc (.cells #[.int .i64 p.id,.int .i64 p.role,.int .i64 p.pub] 67)) tVt (vtC v).toArray
  rw[Ωnw,←eB] at h2
  exact⟨by rw[eX,eB];exact(Blk.new w _ _).alloc _,by rw[eX];exact h2,by rw[eX];exact((Only.refl _ _).alloc _).alloc _⟩
 have hS:CtS w B p v X.drew:=⟨hS0.p.drew,hS0.v.drew,hS0.only.drew⟩
 have hl:=vo.head.root
 have c0:∀W,CtS w B p v W→W.cell? ⟨B,0,none⟩=some (.int .i64 p.id):=fun W h=>h.p.cell 0
 have c2:∀W,CtS w B p v W→W.cell? ⟨B,2,none⟩=some (.int .i64 p.pub):=fun W h=>h.p.cell 2
 have v0:∀W,CtS w B p v W→W.cell? ⟨B+1,0,none⟩=some (.int .i64 v.who):=fun W h=>h.v.cell 0
 have v1:∀W,CtS w B p v W→(Ωa4 (.pointer (some ⟨B+1,1,none⟩))).run Tryz.prog W= .ok (.agg (hdC v.head).toArray) W:=fun W h=>ΩC (Ω8 (Ωd h.v) hl) hl
 have v2:∀W,CtS w B p v W→(Ωgj (.pointer (some ⟨B+1,34,none⟩))).run Tryz.prog W= .ok (sgv v.r v.s) W:=fun W h=>Ωgh (Ωdb (Ωd h.v) hl)
 obtain⟨T1,hT1⟩:∃A:ByteArray,A=hdT v.head:=⟨_,rfl⟩
 have z1:T1.size≤100:=by rw[hT1];exact ΩdD vo.head
 obtain⟨γ,hγ⟩:∃γ,γ=ΩcQ p.pub (ΩbB v.head) v.r v.s:=⟨_,rfl⟩
 have f1:∀W,Calls Tryz.prog 54 #[.agg (hdC v.head).toArray] W (fun e' w' =>e' = .returned (.string T1)∧Only Ωa W w'):=fun W=>by rw[hT1];exact Ωdy v.head vo.head W
 have f2:∀W,Calls Tryz.prog 53 #[.int .i64 p.pub,.string T1,sgv v.r v.s] W (fun e' w' =>e' = .returned (.bool γ)∧Only Ωa W w'):=fun W=>by
  have h:=Ωd2 p.pub v.r v.s T1 W (by omega) po.pub.1 po.pub.2 vo.r.1 vo.r.2
  rw[hT1,ΩeJ,←hγ] at h
  rw[hT1];exact h
 have HA:=Θ f1
 have HB:=Θ f2
 have HG:=Θ hγ
 have EX:=Θ eX
 have EB:=Θ eB
 have HOUT:Hid (∀W,CtS w B p v W→Only Ωa w W):=Θ (fun W hW=>hW.only)
 have HKEEP:Hid (∀W W',CtS w B p v W→Only Ωa W W'→CtS w B p v W'):=Θ (fun W W' h ho=>⟨h.p.only ho (fun e=>e),Blk.only h.v ho (fun e=>e),h.only.trans ho⟩)
 clear f1 f2 hT1 hγ eX eB z1 hl po vo hS0
 cases hw:(v.who==p.id) with
 |false=>
  have hc:cnts p v=false:=by unfold cnts;rw[hw];rfl
  rw[hc]
  clear hc
  go_enter Tryz.func170,Tryz.ntmps170
  go_wp2_with fail
  rw[←EX.out,←EB.out]
  clear EX EB
  have d0:X.cell? ⟨B,0,none⟩=some (.int .i64 p.id):=(by have h9:=c0 _ hS;exact h9)
  have e0:X.cell? ⟨B+1,0,none⟩=some (.int .i64 v.who):=(by have h9:=v0 _ hS;exact h9)
  have HX:=Θ (HOUT.out _ hS)
  clear hS c0 c2 v0 v1 v2
  go_quiet (fail)
  all_goals
   go_wp2_with fail
   go_ret
   exact⟨rfl,⟨HX.out.os,HX.out.tape,HX.out.output,HX.out.size,HX.out.block⟩⟩
 |true=>
  have hc:cnts p v=γ:=by unfold cnts;rw[hw,HG.out];rfl
  rw[hc]
  clear hc
  go_enter Tryz.func170,Tryz.ntmps170
  go_wp2_with fail
  rw[←EX.out,←EB.out]
  clear EX EB
  go_region_held3 (fun w' =>CtS w B p v w') (first|assumption)
   (first
    |(go_at_call 54;refine(HA.out _).mono ?_;rintro e1 w1 ⟨rfl,ho1⟩;have hS1:=HKEEP.out _ _ (by assumption) ho1;clear ho1)
    |(go_at_call 53;refine(HB.out _).mono ?_;rintro e2 w2 ⟨rfl,ho2⟩;have hS2:=HKEEP.out _ _ (by assumption) ho2;clear ho2))
  all_goals
   go_wp2_with fail
   go_ret
   exact⟨rfl,HOUT.out _ (by assumption)⟩
noncomputable def cntO(O:List Pers)(v:Vt):Bool:=
 match O.find? (fun p=>p.id==v.who) with
 |some p=>ΩcQ p.pub (ΩbB v.head) v.r v.s
 |none=>false
noncomputable def keyF(O:List Pers):Value→Option Value:=fun x=>(O.find? (fun p=>eqv x (.int .i64 p.id))).map (fun p=> .int .i64 p.pub)
theorem Ωfl(a b:Int):eqv (.int .i64 a) (.int .i64 b)=(b==a):=by
 rw[Ωoy,Ωbu,beq_iff_eq]
 constructor
 ·intro h;cases h;rfl
 ·rintro rfl;rfl
theorem keyF_int(O:List Pers)(id:Int):keyF O (.int .i64 id)=(O.find? (fun p=>p.id==id)).map (fun p=> .int .i64 p.pub):=by
 unfold keyF
 congr 2
 funext p
 exact Ωfl id p.id
theorem keyF_put{O:List Pers}{p:Pers}(h:∀q∈O,q.id≠p.id)(x:Value):put1 (keyF O) (.int .i64 p.id) (.int .i64 p.pub) x=keyF (O++[p]) x:=by
 unfold keyF
 rw[List.find?_append]
 by_cases e:x= .int .i64 p.id
 ·subst e
  rw[Ωa2]
  have hn:O.find? (fun q=>eqv (.int .i64 p.id) (.int .i64 q.id))=none:=by
   rw[List.find?_eq_none]
   intro q hq
   rw[Ωfl]
   simpa using h q hq
  rw[hn]
  simp[Ωbk]
 ·rw[Ωay e]
  have:[p].find? (fun q=>eqv x (.int .i64 q.id))=none:=by simp[ΩbE.2 e]
  rw[this,Option.or_none]
theorem ΩfF(w:World):(zeroValue 3).run Tryz.prog w= .ok (.int .i64 0) w:=by kernel_rfl
structure Q1S(w:World)(B kc b:Nat)(v:Vt)(W:World):Prop where
 v:VtAt W B v
 only:Only Ωa w W
theorem qcounts_any(O:List Pers)(hO:ΩS O)(v:Vt)(vo:v.Ok)(kc b n:Nat)(w:World)(hm:MapV w Tryz.prog 3 b n (keyF O))(hc:w.cell? ⟨kc,0,none⟩=some (.map (some b)))(ht:Tab w):
  Calls Tryz.prog 130 #[.agg (vtC v).toArray,.pointer (some ⟨kc,0,none⟩)] w fun e w' =>e= .returned (.bool (cntO O v))∧Only Ωa w w' :=by
 obtain⟨B,eB⟩:∃B,B=w.heap.size:=⟨_,rfl⟩
 have hkc:=ΩoJ w _ hc
 have hlk:∀o,(Instr.lookup 188 (.map (some b)) (.int .i64 v.who) true).run Tryz.prog (w.alloc o)= .ok (.tuple #[((keyF O (.int .i64 v.who)).getD (.int .i64 0)),.bool (keyF O (.int .i64 v.who)).isSome]) (w.alloc o):=fun o=>
  MapV.look_ok (hm.only ((Only.refl Ωa _).alloc o) (fun e=>e)) Ωbj Tryz.underlying188 (ΩfF _) (ΩgE vo.who)
 have hX:VtAt (w.alloc (.cells (vtC v).toArray tVt)) B v:=by rw[eB];exact Blk.new w _ _
 have cX:(w.alloc (.cells (vtC v).toArray tVt)).cell? ⟨kc,0,none⟩=some (.map (some b)):=((Only.refl Ωa w).alloc _).cell_some hc (fun e=>e)
 have oX:Only Ωa w (w.alloc (.cells (vtC v).toArray tVt)):=(Only.refl Ωa w).alloc _
 have x0:(w.alloc (.cells (vtC v).toArray tVt)).cell? ⟨B,0,none⟩=some (.int .i64 v.who):=hX.cell 0
 have hl:=vo.head.root
 rw[keyF_int] at hlk
 have HC:Hid (cntO O v=match O.find? (fun p=>p.id==v.who) with|some p=>ΩcQ p.pub (ΩbB v.head) v.r v.s|none=>false):=Θ rfl
 cases hf:O.find? (fun p=>p.id==v.who) with
 |none=>
  rw[hf] at HC hlk
  have hcn:cntO O v=false:=HC.out
  rw[hcn]
  simp only[Option.map_none,Option.getD_none,Option.isSome_none] at hlk
  have HOX:=Θ oX
  have EB:=Θ eB
  clear hcn HC hf hm hc hX ht oX hkc hl vo hO eB
  go_enter Tryz.func130,Tryz.ntmps130
  rw[EB.out] at x0
  go_upto_region 2 with(fail)
  go_quiet (fail)
  all_goals
   go_wp2_with fail
   go_ret
   exact⟨rfl,HOX.out.drewN _⟩
 |some p=>
  have hpm:=List.mem_of_find?_eq_some hf
  have po:=hO p hpm
  rw[hf] at HC hlk
  obtain⟨γ,hγ⟩:∃γ,γ=ΩcQ p.pub (ΩbB v.head) v.r v.s:=⟨_,rfl⟩
  have hcn:cntO O v=γ:=by rw[hγ];exact HC.out
  rw[hcn]
  simp only[Ωoe,Option.getD_some,Option.isSome_some] at hlk
  obtain⟨T1,hT1⟩:∃A:ByteArray,A=hdT v.head:=⟨_,rfl⟩
  have z1:T1.size≤100:=by rw[hT1];exact ΩdD vo.head
  have f1:∀W,Only Ωa w W→Calls Tryz.prog 131 #[.agg (hdC v.head).toArray] W (fun e' w' =>e' = .returned (.string T1)∧Only Ωa W w'):=fun W ho=>by rw[hT1];exact Ωi2 v.head vo.head W (ht.none ho)
  have f2:∀W,Calls Tryz.prog 103 #[.int .i64 p.pub,.string T1,sgv v.r v.s] W (fun e' w' =>e' = .returned (.bool γ)∧Only Ωa W w'):=fun W=>by
   have h:=Ωgc p.pub v.r v.s T1 W (by omega) po.pub.1 po.pub.2 vo.r.1 vo.r.2
   rw[hT1,ΩeJ,←hγ] at h
   rw[hT1];exact h
  have hS:Q1S w B kc b v (w.alloc (.cells (vtC v).toArray tVt)).drew :=⟨hX.drew,oX.drew⟩
  have v1:∀W,Q1S w B kc b v W→(Ωa4 (.pointer (some ⟨B,1,none⟩))).run Tryz.prog W= .ok (.agg (hdC v.head).toArray) W:=fun W h=>ΩC (Ω8 (Ωd h.v) hl) hl
  have v2:∀W,Q1S w B kc b v W→(Ωgj (.pointer (some ⟨B,34,none⟩))).run Tryz.prog W= .ok (sgv v.r v.s) W:=fun W h=>Ωgh (Ωdb (Ωd h.v) hl)
  have HA:=Θ f1
  have HB:=Θ f2
  have EB:=Θ eB
  have HOUT:Hid (∀W,Q1S w B kc b v W→Only Ωa w W):=Θ (fun W hW=>hW.only)
  have HKEEP:Hid (∀W W',Q1S w B kc b v W→Only Ωa W W'→Q1S w B kc b v W'):=Θ (fun W W' h ho=>⟨Blk.only h.v ho (fun e=>e),h.only.trans ho⟩)
  clear f1 f2 hT1 hγ hcn HC hf hm hc hX oX hkc ht z1 hl po hO eB hpm vo
  go_enter Tryz.func130,Tryz.ntmps130
  rw[EB.out] at x0
  go_upto_region 2 with(fail)
  rw[←EB.out]
  go_region_held3 (fun w' =>Q1S w B kc b v w') (first|assumption)
   (first
    |(go_at_call 131;refine(HA.out _ (HOUT.out _ (by assumption))).mono ?_;rintro e1 w1 ⟨rfl,ho1⟩;have hS1:=HKEEP.out _ _ (by assumption) ho1;clear ho1)
    |(go_at_call 103;refine(HB.out _).mono ?_;rintro e2 w2 ⟨rfl,ho2⟩;have hS2:=HKEEP.out _ _ (by assumption) ho2;clear ho2))
  all_goals
   go_wp2_with fail
   go_ret
   exact⟨rfl,HOUT.out _ (by assumption)⟩
end
section
open Go.RowKit Go.Shelf
attribute [local go_sem ↓ high] ΩG Ωaj ΩQ Ωaq Ωb9 ΩaV
abbrev tKm:TypeId:=188
abbrev tKf:TypeId:=137
structure KeyS(w:World)(O:List Pers)(kc cc b n:Nat):Prop where
 map:MapV w Tryz.prog 3 b n (keyF O)
 kb:Blk w kc tKm #[.map (some b)]
 cb:Blk w cc tKf #[.func (.func 130) #[] #[.pointer (some ⟨kc,0,none⟩)]]
 tab:Tab w
theorem KeyS.only{w w' :World}{O:List Pers}{kc cc b n:Nat}(h:KeyS w O kc cc b n)(ho:Only Ωa w w'):KeyS w' O kc cc b n:=
 ⟨h.map.only ho (fun e=>e),h.kb.only ho (fun e=>e),h.cb.only ho (fun e=>e),h.tab.none ho⟩
theorem Ωkw(O:List Pers)(hO:ΩS O)(v:Vt)(vo:v.Ok)(kc cc b n:Nat)(w:World)(hk:KeyS w O kc cc b n):
  Calls Tryz.prog 134 #[.agg (vtC v).toArray,.pointer (some ⟨cc,0,none⟩)] w fun e w' =>e= .returned (.bool (!cntO O v))∧Only Ωa w w' :=by
 have ho:Only Ωa w (w.alloc (.cells (vtC v).toArray tVt)):=(Only.refl _ _).alloc _
 have hk2:=hk.only ho
 have cX:(w.alloc (.cells (vtC v).toArray tVt)).cell? ⟨cc,0,none⟩=some (.func (.func 130) #[] #[.pointer (some ⟨kc,0,none⟩)]):=hk2.cb.cell 0
 have hld:=ΩX (Ωd (Blk.new w tVt (vtC v).toArray)) vo.head.root
 have hct:=qcounts_any O hO v vo kc b n _ hk2.map (hk2.kb.cell 0) hk2.tab
 have HO:=Θ ho
 have HCT:=Θ hct
 clear hk hk2 ho hct vo hO
 go_enter Tryz.func134,Tryz.ntmps134
 go_wp2_with fail
 refine HCT.out.mono ?_
 rintro e1 w1 ⟨rfl,ho1⟩
 have HO1:=Θ (HO.out.trans ho1)
 clear ho1 HCT hld
 go_wp2_with fail
 go_ret
 exact⟨rfl,HO1.out⟩
theorem qwho_any(v:Vt)(w:World):Calls Tryz.prog 136 #[.agg (vtC v).toArray] w fun e w' =>e= .returned (.int .i64 v.who)∧Only Ωa w w' :=by
 have ho:Only Ωa w (w.alloc (.cells (vtC v).toArray tVt)):=(Only.refl _ _).alloc _
 have c0:(w.alloc (.cells (vtC v).toArray tVt)).cell? ⟨w.heap.size,0,none⟩=some (.int .i64 v.who):=(Blk.new w tVt (vtC v).toArray).cell 0
 have HO:=Θ ho
 clear ho
 go_enter Tryz.func136,Tryz.ntmps136
 go_wp2_with fail
 go_ret
 exact⟨rfl,HO.out⟩
theorem qhead_any(v:Vt)(hl:v.head.root.length=32)(w:World):Calls Tryz.prog 163 #[.agg (vtC v).toArray] w fun e w' =>e= .returned (.agg (hdC v.head).toArray)∧Only Ωa w w' :=by
 obtain⟨B,eB⟩:∃B,B=w.heap.size:=⟨_,rfl⟩
 obtain⟨X,eX⟩:∃X,X=(w.alloc (.cells (vtC v).toArray tVt)).alloc (.cells hd0C tHd):=⟨_,rfl⟩
 have hb:VtAt X B v:=by rw[eX,eB];exact(Blk.new w _ _).alloc _
 have hh:Blk X (B+1) tHd hd0C:=by
  have h2:=Blk.new (w.alloc (.cells (vtC v).toArray tVt)) tHd hd0C
  rw[Ωnw,←eB] at h2
  rw[eX];exact h2
 have ho:Only Ωa w X:=by rw[eX];exact((Only.refl _ _).alloc _).alloc _
 have l1:=ΩC (Ω8 (Ωd hb) hl) hl
 have s1:=Ωax (h:=v.head) hh rfl hl
 have h3:=Ωj (ds:=hdC v.head) hh (by rw[Ωo hl];rfl)
 have h4:Only Ωa w (X.setCells (B+1) 0 (hdC v.head)):=Ωb ho (B+1) 0 (.inr (by omega)) _
 have hinf:(Tryz.prog.info? tHd).map (·.size)=some (hdC v.head).toArray.size :=by rw[ΩnJ,Ωo hl];kernel_rfl
 have hnw:=Ωal
 have EX:=Θ eX
 have EB:=Θ eB
 have H3:=Θ h3
 have H4:=Θ h4
 have HINF:=Θ hinf
 clear hb hh ho h3 h4 hinf eX eB hl
 go_enter Tryz.func163,Tryz.ntmps163
 go_upto_region 1 with(fail)
 rw[←EX.out,←EB.out]
 clear hnw
 go_wp2_with fail
 exact bodyPost_ret (v:= .agg (hdC v.head).toArray) (Ωn rfl rfl H3.out Tryz.underlying37 rfl HINF.out) rfl ⟨rfl,H4.out⟩
end
section
open Go.RowKit Go.Shelf
attribute [local go_sem ↓ high] Ωaj Ωb9 ΩaV
theorem vts_cells{w:World}{g o:Nat}{L:List Vt}(hok:Ω4 L)(h:∀(i:Nat) (e:Vt),L[i]? =some e→w.rangeAt g (o+i*36) (vtC e)):∀j u,(L.flatMap vtC)[j]? =some u→w.cell? ((⟨g,o,none⟩:Addr).add j)=some u:=fun j u hj=>by
 have hlt:=(Ωnx.1 hj).1
 rw[ΩdX L hok] at hlt
 obtain⟨e,he⟩:∃e,L[j/36]? =some e:=⟨_,Ωnu (by omega)⟩
 have h1:=ΩhX L hok (j/36) (j%36) (ΩoL _ (by omega)) e he
 rw[show j/36*36+j%36=j by omega] at h1
 rw[h1] at hj
 have h2:=h (j/36) e he (j%36) u hj
 rw[show o+j/36*36+j%36=o+j by omega] at h2
 rw[ΩoK]
 exact h2
theorem ΩkP(L:List Vt):∀u∈L.flatMap vtC,u.oneCell' =true:=fun u hu=>by
 obtain⟨v,_,hv⟩:=List.mem_flatMap.1 hu
 exact Ωc2 v u hv
theorem clone_any(L:List Vt)(hok:Ω4 L)(hlen:L.length≤100000)(sv:Value)(w:World)(hs:VtSl w sv L):
  Calls Tryz.prog 133 #[sv] w fun e w' =>∃rv,e= .returned rv∧ΩH w' w.heap.size rv L.length L∧Only Ωa w w' :=by
 obtain⟨ie,z,hie,hsz,hz,hzc,hby⟩:=ΩdY
 obtain⟨A,cap,rfl,hlc,hcm,hA⟩:=hs
 cases A with
 |none=>
  have h0:L=[]:=by
   cases L with
   |nil=>rfl
   |cons x l=>
    obtain⟨g,o,hA',_⟩:=hA 0 x rfl
    cases hA'
  subst h0
  have heq:=fun W=>Lib.run_eql_slice_nil (P:=Tryz.prog) W 32 43 none 0 cap 0 0 Tryz.underlying32
  clear hA hlc
  go_enter Tryz.func133,Tryz.ntmps133
  go_wp2_with fail
  go_ret
  exact⟨_,rfl,⟨rfl,.inl ⟨rfl,rfl⟩⟩,Only.refl _ _⟩
 |some a=>
  obtain⟨g,o,q⟩:=a
  have heq:=fun W=>Lib.run_eql_slice_nil (P:=Tryz.prog) W 32 43 (some ⟨g,o,q⟩) L.length cap 0 0 Tryz.underlying32
  have hnews:∀j u,(L.flatMap vtC)[j]? =some u→(w.alloc (.cells #[] 43)).cell? ((⟨g,o,q⟩:Addr).add j)=some u:=fun j u hj=>by
   cases L with
   |nil=>simp at hj
   |cons x l=>
    obtain⟨g',o',hA',_⟩:=hA 0 x rfl
    cases hA'
    have h1:=vts_cells (w:=w) (g:=g) (o:=o) hok (fun i e he=>by
     obtain⟨g2,o2,hA2,_,hr⟩:=hA i e he
     cases hA2
     exact hr) j u hj
    exact((Only.refl Ωa w).alloc _).cell_some h1 (fun e=>e)
  have hown0:(w.alloc (.cells #[] 43)).ownsRow w.heap.size 43 36 (.slice (some ⟨w.heap.size,0,none⟩) 0 0) 0 []:=
   ⟨rfl,.inr ⟨w.heap.size,0,#[],rfl,Ωnv _,Blk.new w _ _,Ωnv _,by rw[Ωg];omega,rfl,rfl⟩⟩
  have hll:=ΩdX L hok
  have HN:=Θ hnews
  have HOWN:=Θ hown0
  have HLL:=Θ hll
  clear hA hok hnews hown0 hll
  go_enter Tryz.func133,Tryz.ntmps133
  go_upto_region 3 with(fail)
  clear heq
  go_wp2_with (first
   |(at_builtin;refine wpList_append_own_at _ rfl _ _ 32 rfl w.heap.size 43 ie z 36 ie.bytes Tryz.underlying32 hie hz hsz rfl hzc (by omega) _ 0 [] rfl HOWN.out ⟨g,o,q⟩ L.length cap (L.flatMap vtC) rfl HLL.out HN.out (ΩkP L) (by rw[Ωg];omega) (by rw[ΩnR];exact Ωnz (Ωov hlen hby) (by omega)) (by simp) ?_;intro v' w1 hown1 hgrow1 hnil1 hloc1))
  have hO:Only Ωa w w1:=((Only.refl Ωa w).alloc _).grown hgrow1 (fun j e=>by cases e;exact .inr (Ωnv _))
  rw[ΩnR,ΩoD] at hown1
  have HW:=Θ hown1
  have HO:=Θ hO
  clear hown1 hgrow1 hnil1 hloc1 hO
  go_wp2_with fail
  go_ret
  exact⟨_,rfl,HW.out,HO.out⟩
noncomputable def idxG(p:Vt→Bool):Nat→List Vt→Int
 |_,[]=> -1
 |k,v::l=>if p v then idxG p (k+1) l else(k:Int)
theorem vindex_any(O:List Pers)(hO:ΩS O)(L:List Vt)(hok:Ω4 L)(sv:Value)(kc cc b n:Nat)(w:World)(hs:VtSl w sv L)(hk:KeyS w O kc cc b n):
  Calls Tryz.prog 169 #[sv,.func (.func 134) #[] #[.pointer (some ⟨cc,0,none⟩)]] w fun e w' =>e= .returned (.int .i64 (idxG (cntO O) 0 L))∧Only Ωa w w' :=by
 obtain⟨A,cap,rfl,hlc,hcm,hA⟩:=hs
 have HA:=Θ hA
 have HOK:=Θ hok
 have HK:=Θ hk
 have HPO:=Θ hO
 clear hA hok hk hO
 go_enter Tryz.func169,Tryz.ntmps169
 go_wp2_with fail
 go_loopw [5,8] (fun _ i wr=>∃k:Nat,i= .int .i64 k∧k≤L.length∧idxG (cntO O) 0 L=idxG (cntO O) k (L.drop k)∧Only Ωa w wr) (fun _ i _=>L.length-(intOf i).toNat)
 case atStart=>exact⟨0,rfl,by omega,rfl,Only.refl _ _⟩
 case round=>
  obtain⟨k,rfl,hk,hidx,ho⟩:=hrel
  by_cases hlt:k<L.length
  ·obtain⟨v,hv⟩:∃v,L[k]? =some v:=⟨_,Ωnu hlt⟩
   obtain⟨g,o,hA',hg,hr⟩:=HA.out k v hv
   subst hA'
   have vo:=HOK.out v (ΩnE hv)
   have hld:=ΩX (Ωu hr ho) vo.head.root
   have ik:(k:Int)<(L.length:Int):=by omega
   have ik0:(0:Int)≤(k:Int):=by omega
   have hdrop:L.drop k=v::L.drop (k+1):=by rw[Ωn7 hlt];rw[Ωnu hlt] at hv;rw[Option.some.inj hv]
   rw[hdrop,idxG] at hidx
   have hct:=Ωkw O HPO.out v vo kc cc b n wr (HK.out.only ho)
   obtain⟨β,hβ⟩:∃β,β=cntO O v:=⟨_,rfl⟩
   rw[←hβ] at hidx hct
   have HO:=Θ ho
   have HCT:=Θ hct
   have HIDX:=Θ hidx
   clear ho hct hidx hβ hdrop hr vo hv
   go_wp2_with fail
   refine HCT.out.mono ?_
   rintro e1 w1 ⟨rfl,ho1⟩
   have HO1:=Θ (HO.out.trans ho1)
   clear ho1 HCT hld
   cases β with
   |true=>
    have h1:idxG (cntO O) 0 L=idxG (cntO O) (k+1) (L.drop (k+1)):=by rw[HIDX.out,ΩnV rfl]
    have H1:=Θ h1
    clear h1
    go_wp2_with fail
    go_roundw
    case rel=>exact⟨k+1,by go_num,by omega,H1.out,HO1.out⟩
    case measure=>simp[intOf];omega
   |false=>
    have h1:idxG (cntO O) 0 L=(k:Int):=by rw[HIDX.out,ΩnU (by simp)]
    have H1:=Θ h1
    clear h1 HIDX
    go_wp2_with fail
    go_ret
    exact⟨by rw[H1.out];rfl,HO1.out⟩
  ·obtain rfl:k=L.length:=by omega
   have h1:idxG (cntO O) 0 L= -1:=by rw[hidx,List.drop_length,idxG]
   have H1:=Θ h1
   have HO:=Θ ho
   clear h1 hidx ho
   go_wp2_with fail
   go_ret
   exact⟨by rw[H1.out];rfl,HO.out⟩
theorem ΩhG(p:Vt→Bool):∀(L:List Vt) (k:Nat),(idxG p k L= -1∧∀v∈L,p v=true)∨∃i v,idxG p k L=((k+i:Nat):Int)∧L[i]? =some v∧p v=false∧∀x∈L.take i,p x=true
 |[],_=> .inl ⟨rfl,fun v h=>by cases h⟩
 |v::l,k=>by
  cases hv:p v with
  |false=>exact .inr ⟨0,v,by rw[idxG,ΩnU (by simp[hv])];rfl,rfl,hv,fun x h=>by simp at h⟩
  |true=>
   rcases ΩhG p l (k+1) with⟨h1,h2⟩|⟨i,u,h1,h2,h3,h4⟩
   ·refine .inl ⟨by rw[idxG,ΩnV hv,h1],fun x hx=> ?_⟩
    rcases Ωn3.1 hx with rfl|hx
    ·exact hv
    ·exact h2 x hx
   ·refine .inr ⟨i+1,u,by rw[idxG,ΩnV hv,h1];congr 1;omega,h2,h3,fun x hx=> ?_⟩
    rw[Ωoc] at hx
    rcases Ωn3.1 hx with rfl|hx
    ·exact hv
    ·exact h4 x hx
structure DlS(w0:World)(O:List Pers)(kc cc b n:Nat)(L:List Vt)(g cap j i:Nat)(M:List Vt)(W:World):Prop where
 own:ΩH W w0.heap.size (.slice (some ⟨g,0,none⟩) M.length cap) M.length M
 len:M.length=L.length
 ok:Ω4 M
 lt:i<j
 le:j≤L.length
 head:M.take i=(L.take j).filter (cntO O)
 tail:M.drop j=L.drop j
 key:KeyS W O kc cc b n
 only:Only Ωa w0 W
 tab0:∀W,Only Ωa w0 W→Tab W
theorem DlS.skip{w0:World}{O:List Pers}{kc cc b n:Nat}{L:List Vt}{g cap j i:Nat}{M:List Vt}{W W' :World}{v:Vt}(h:DlS w0 O kc cc b n L g cap j i M W)(ho:Only Ωa W W')(hv:L[j]? =some v)(hc:cntO O v=false):DlS w0 O kc cc b n L g cap (j+1) i M W' :=by
 have hlt:=(Ωnx.1 hv).1
 refine⟨Ωe h.own ho (fun _ _ e=>e),h.len,h.ok,by have:=h.lt;omega,hlt,?_,?_,h.key.only ho,h.only.trans ho,h.tab0⟩
 ·rw[h.head,ΩnO,hv,ΩnS,List.filter_append]
  simp[hc]
 ·have:=congrArg (List.drop 1) h.tail
  rw[List.drop_drop,List.drop_drop] at this
  exact this
theorem DlS.take{w0:World}{O:List Pers}{kc cc b n:Nat}{L:List Vt}{g cap j i:Nat}{M:List Vt}{W W' :World}{v:Vt}(h:DlS w0 O kc cc b n L g cap j i M W)(ho:Only Ωa W W')(hv:L[j]? =some v)(vo:v.Ok)(hc:cntO O v=true):
  DlS w0 O kc cc b n L g cap (j+1) (i+1) (M.set i v) (W'.setCells g (i*36) (vtC v)):=by
 have hlt:=(Ωnx.1 hv).1
 have hij:=h.lt
 have hml:=h.len
 have hown:ΩH W' w0.heap.size (.slice (some ⟨g,0,none⟩) M.length cap) M.length M:=Ωe h.own ho (fun _ _ e=>e)
 have hgb:w0.heap.size≤g:=(ΩJ hown rfl).1
 have k2:=h.key.only ho
 have hbg:b≠g:=fun e=>Ωaz hown k2.map (by rw[e];rfl)
 have hkg:kc≠g:=fun e=>Ωi hown k2.kb (by decide) (by rw[e];rfl)
 have hcg:cc≠g:=fun e=>Ωi hown k2.cb (by decide) (by rw[e];rfl)
 have hO:Only Ωa w0 (W'.setCells g (i*36) (vtC v)):=Ωb (h.only.trans ho) g _ (.inr hgb) _
 have hG:Only (fun k=>k=g) W' (W'.setCells g (i*36) (vtC v)):=Ωb (S:=fun k=>k=g) (Only.refl _ _) g _ (.inl rfl) _
 refine⟨?_,by rw[ΩoE];exact hml,Ωls h.ok vo i,by omega,by omega,?_,?_,⟨k2.map.only hG hbg,Blk.farCells hkg _ _ k2.kb,Blk.farCells hcg _ _ k2.cb,?_⟩,hO,h.tab0⟩
 ·rw[ΩoE]
  exact ΩH.put hown h.ok (by omega) vo
 ·have hr:(L.take (j+1)).filter (cntO O)=(L.take j).filter (cntO O)++[v]:=by
   rw[ΩnO,hv,ΩnS,List.filter_append]
   simp[hc]
  rw[hr,←h.head,ΩnO,List.take_set_of_le (Ωnv _),List.getElem?_set_self (by omega)]
  rfl
 ·have:=congrArg (List.drop 1) h.tail
  rw[List.drop_drop,List.drop_drop] at this
  rw[List.drop_set_of_lt (by omega)]
  exact this
 ·exact h.tab0 _ hO
theorem delfunc_any(O:List Pers)(hO:ΩS O)(L:List Vt)(hok:Ω4 L)(hlen:L.length≤100000)(sv:Value)(kc cc b n:Nat)(w0 w:World)(ht:Tab w0)(h0:Only Ωa w0 w)(hown:ΩH w w0.heap.size sv L.length L)(hk:KeyS w O kc cc b n):
  Calls Tryz.prog 132 #[sv,.func (.func 134) #[] #[.pointer (some ⟨cc,0,none⟩)]] w fun e w' =>∃rv,e= .returned rv∧ΩH w' w0.heap.size rv (L.filter (cntO O)).length (L.filter (cntO O))∧Only Ωa w0 w' :=by
 have hsl:VtSl w sv L:=hown.sl hok
 have hix:=vindex_any O hO L hok sv kc cc b n w hsl hk
 have HIX:=Θ hix
 have HK:=Θ hk
 have HOK:=Θ hok
 have HPO:=Θ hO
 have HT:=Θ ht
 have H0:=Θ h0
 have HOWN:=Θ hown
 rcases ΩhG (cntO O) L 0 with⟨h1,h2⟩|⟨i0,v0,h1,h2,h3,h4⟩
 ·have hf:L.filter (cntO O)=L:=List.filter_eq_self.2 h2
  have HI:Hid (idxG (cntO O) 0 L= -1):=Θ h1
  have HF:=Θ hf
  clear hix hk hok hO ht h0 hown h1 h2 hf hsl
  go_enter Tryz.func132,Tryz.ntmps132
  go_wp2_with fail
  refine HIX.out.mono ?_
  rintro e1 w1 ⟨rfl,ho1⟩
  rw[HI.out]
  have HO1:=Θ ho1
  clear ho1 HIX
  go_wp2_with fail
  go_ret
  refine⟨_,rfl,?_,H0.out.trans HO1.out⟩
  rw[HF.out]
  exact Ωe HOWN.out HO1.out (fun _ _ e=>e)
 ·have hi0:i0<L.length:=(Ωnx.1 h2).1
  obtain⟨g,cap,rfl,hgb,hgl,hnc,hcm⟩:=Ωcd hown (by omega)
  rw[Ωg] at hcm
  rw[ΩnR] at h1
  have hfh:L.take i0=(L.take (i0+1)).filter (cntO O):=by
   rw[ΩnO,h2,ΩnS,List.filter_append,List.filter_eq_self.2 h4]
   simp[h3]
  have HI:Hid (idxG (cntO O) 0 L=(i0:Int)):=Θ h1
  have HFH:=Θ hfh
  have i0n:(i0:Int)<(L.length:Int):=by omega
  have ine:((i0:Int)== -1)=false:=ΩnL.2 (by omega)
  clear hix hk hok hO ht h0 hown h1 h2 h3 h4 hfh hsl
  go_enter Tryz.func132,Tryz.ntmps132
  go_wp2_with fail
  refine HIX.out.mono ?_
  rintro e1 w1 ⟨rfl,ho1⟩
  rw[HI.out]
  have hs0:DlS w0 O kc cc b n L g cap (i0+1) i0 L w1:=⟨Ωe HOWN.out ho1 (fun _ _ e=>e),rfl,HOK.out,by omega,by omega,HFH.out,rfl,HK.out.only ho1,H0.out.trans ho1,fun W ho=>HT.out.none ho⟩
  have HS0:=Θ hs0
  clear hs0 ho1 HIX
  go_wp2_with fail
  go_loopw [5,6,7] (fun iv jv _ wr=>∃(j i:Nat) (M:List Vt),iv= .int .i64 i∧jv= .int .i64 j∧DlS w0 O kc cc b n L g cap j i M wr) (fun _ jv _ _=>L.length-(intOf jv).toNat)
  case atStart=>exact⟨i0+1,i0,L,rfl,by go_num,HS0.out⟩
  case round=>
   obtain⟨j,i,M,rfl,rfl,hS⟩:=hrel
   have hij:=hS.lt
   have hjl:=hS.le
   have hml:=hS.len
   by_cases hlt:j<L.length
   ·obtain⟨v,hv⟩:∃v,L[j]? =some v:=⟨_,Ωnu hlt⟩
    have hvM:M[j]? =some v:=by
     have h1:=congrArg (fun l=>l[0]?) hS.tail
     simp only[List.getElem?_drop,Nat.add_zero] at h1
     rw[h1];exact hv
    have vo:=HOK.out v (ΩnE hv)
    have hl:=vo.head.root
    have hld:=ΩX (hS.own.range hS.ok hvM) hl
    have hnw:=ΩbZ
    obtain⟨N,eN⟩:∃N,N=wr.heap.size:=⟨_,rfl⟩
    have hb0:Blk (wr.alloc (.cells vt0C 43)) N tVt vt0C:=by rw[eN];exact Blk.new wr _ _
    have hst:=Ωek hb0 rfl hl
    rw[eN] at hst
    have hb1:VtAt ((wr.alloc (.cells vt0C 43)).setCells N 0 (vtC v)) N v:=Ωj hb0 (by rw[Ω0 hl];rfl)
    have hO1:Only Ωa wr ((wr.alloc (.cells vt0C 43)).setCells N 0 (vtC v)):=Ωb ((Only.refl _ _).alloc _) N 0 (.inr (by omega)) _
    have ij:(j:Int)<(L.length:Int):=by omega
    have ij0:(0:Int)≤(j:Int):=by omega
    have ii:(i:Int)<(L.length:Int):=by omega
    have ii0:(0:Int)≤(i:Int):=by omega
    have HS:=Θ hS
    have HV:=Θ hv
    have HVO:=Θ vo
    have HB1:=Θ hb1
    have HO1:=Θ hO1
    have EN:=Θ eN
    clear hS hv hvM vo hb0 hb1 hO1 eN
    go_upto_region 8 with(fail)
    rw[←EN.out]
    refine Ωf (fun Z=>VtAt Z N v∧Only Ωa wr Z) ⟨HB1.out,HO1.out⟩ ?_
    rintro Z ⟨hzb,hzo⟩
    clear hld hst hnw
    have hld2:=ΩX (Ωd hzb) hl
    have hct:=Ωkw O HPO.out v HVO.out kc cc b n Z (HS.out.key.only hzo)
    have HCT:=Θ hct
    have HZB:=Θ hzb
    have HZO:=Θ hzo
    clear hct hzb hzo hl HB1 HO1
    go_wp2_with fail
    refine HCT.out.mono ?_
    rintro e2 w2 ⟨rfl,ho2⟩
    have HO2:=Θ (HZO.out.trans ho2)
    have hld3:=ΩX (Ωd (Blk.only HZB.out ho2 (fun e=>e))) HVO.out.head.root
    clear ho2 HCT hld2
    cases hc:cntO O v with
    |false=>
     have hnew:=HS.out.skip HO2.out HV.out hc
     have HNEW:=Θ hnew
     clear hnew hc hld3
     go_wp2_with fail
     go_roundw
     case rel=>exact⟨j+1,i,M,rfl,by go_num,HNEW.out⟩
     case measure=>simp[intOf];omega
    |true=>
     have hown2:ΩH w2 w0.heap.size (.slice (some ⟨g,0,none⟩) M.length cap) M.length M:=Ωe HS.out.own HO2.out (fun _ _ e=>e)
     have hst2:=vt_store_own (i:=i) hown2 (by omega) HVO.out
     have hnew:=HS.out.take HO2.out HV.out HVO.out hc
     have HNEW:=Θ hnew
     clear hnew hc hown2
     go_wp2_with fail
     go_roundw
     case rel=>exact⟨j+1,i+1,M.set i v,by go_num,by go_num,HNEW.out⟩
     case measure=>simp[intOf];omega
   ·obtain rfl:j=L.length:=by omega
    have hhd:=hS.head
    rw[Ωok] at hhd
    have hfl:(L.filter (cntO O)).length =i:=by rw[←hhd,ΩnB];omega
    have hth:wr.there g (i*36) ((M.length-i)*36):=Ωe0 hS.own (by have:(M.length-i)*36=M.length*36-i*36:=Nat.sub_mul _ _ _;omega)
    have hcl:∀ty,(Builtin.clear_ #[32] ty #[.slice (some ⟨g,i*36,none⟩) (L.length-i) (cap-i)]).run Tryz.prog wr= .ok (.tuple #[]) (wr.setCells g (i*36) (clrZ (L.length-i))):=fun ty=>run_clear_vts wr ty g (i*36) (L.length-i) (cap-i) (by omega) (by rw[←hml];exact hth)
    have hcut:=ΩH.cut hS.own hS.ok (show i≤M.length by omega) (clrZ (L.length-i))
    rw[hhd] at hcut
    have hO:Only Ωa w0 (wr.setCells g (i*36) (clrZ (L.length-i))):=Ωb hS.only g _ (.inr hgb) _
    have ii:(i:Int)≤(L.length:Int):=by omega
    have ii0:(0:Int)≤(i:Int):=by omega
    have iic:(i:Int)≤(cap:Int):=by omega
    have icn:¬cap=i:=by omega
    have HCUT:=Θ hcut
    have HO:=Θ hO
    have HFL:=Θ hfl
    clear hcut hO hS hhd hfl hth
    go_wp2_with fail
    go_ret
    refine⟨_,rfl,?_,HO.out⟩
    rw[HFL.out]
    exact HCUT.out
end
end Go.Proofs.YtgalfohobgjelaaGreatDoor
