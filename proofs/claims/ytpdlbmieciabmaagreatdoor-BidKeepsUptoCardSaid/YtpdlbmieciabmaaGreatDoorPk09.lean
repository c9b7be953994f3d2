/-What is proved here:several parts. a range over an iterator that never ends by itself:the loop's body leaves before a given number of rounds;no function of the program. No conditions. · decimal texts by the library,checks and the stream of a key. Conditions:the library's table of powers of ten reads as its initialiser lays it;texts are short. · a block is combined with bytes of a text. Conditions:what is read can be read. · a text combined with the stream of a key. Conditions:the table of powers of ten reads as its initialiser lays it;the text is short. · a text sealed under a key,and a seal opened. Conditions:the table of powers of ten reads as its initialiser lays it;the text is short. · a seal opened. Conditions:the table of powers of ten reads as its initialiser lays it;the text is short. -/
import Derived.Test.YtpdlbmieciabmaaGreatDoorPk04
import Derived.Test.YtpdlbmieciabmaaGreatDoorPk05
import Derived.Test.YtpdlbmieciabmaaGreatDoorPk06
import Derived.Test.YtpdlbmieciabmaaGreatDoorPk08
import Derived.Test.YtpdlbmieciabmaaGreatDoorShelf
import Derived.RangeFuncNested
namespace Go.Proofs.YtpdlbmieciabmaaGreatDoor
open Go.RowKit
section
variable {F:Fence} {n:Nat} {P:Program}
def SeqEnds(F:Fence)(n:Nat)(P:Program)(g:Nat)(lb:Array Value)(encs:Nat→Array Value)(Kp:World→World→Prop)(N:Nat)(w:World):Prop:=
 ∀(l:Nat) (J Jx:Nat→World→Prop) (W:World),Below w.heap.size w W→AbidesFrom W.heap.size J→AbidesFrom W.heap.size Jx→(∀k W1,J k W1→k<N)→
  (∀k W1,J k W1→YieldAt F (n-1) P l (encs k) W1 fun e W' =>(e= .returned (.bool true)∧J (k+1) W'∧Kp W1 W')∨(e= .returned (.bool false)∧Jx (k+1) W'))→
  J 0 W→CallsIn F n P g (#[.func (.yield l) #[] #[]]++lb) W fun e W' =>(∃v,e= .returned v)∧∃k,Jx k W'
def recAt(R:LoopState→Option Code→Loop)(b:Nat)(s:LoopState)(p:Option Code)(W:World):Prop:=W.heap[b+1]? =some (.loop (R s p))∧W.heap[b]? =some (.deferred (some []))
theorem recAt.grown{R:LoopState→Option Code→Loop}{b:Nat}{s:LoopState}{p:Option Code}{X Y:World}{row:Option Nat}(h:recAt R b s p X)(hg:X.grownBy Y row)(hr:∀r,row=some r→∃o:Obj,X.heap[r]? =some o∧o.isWalk=true):recAt R b s p Y:=
 ⟨(grownBy_keeps hg hr h.1 rfl).trans h.1,(grownBy_keeps hg hr h.2 rfl).trans h.2⟩
theorem recAt.lt{R:LoopState→Option Code→Loop}{b:Nat}{s:LoopState}{p:Option Code}{X:World}(h:recAt R b s p X):b+1<X.heap.size:=(Array.getElem?_eq_some_iff.1 h.1).1
theorem recAt.keeps{R:LoopState→Option Code→Loop}{b:Nat}{s:LoopState}{p:Option Code}{X Y:World}(h:recAt R b s p X)(k:KeepsFrom b X Y):recAt R b s p Y:=⟨k.same _ _ (by omega) h.1 rfl,k.same _ _ (Nat.le_refl _) h.2 rfl⟩
theorem recAt.turn{R:LoopState→Option Code→Loop}{b:Nat}{s:LoopState}{p:Option Code}{X:World}(h:recAt R b s p X)(s' :LoopState)(p' :Option Code):recAt R b s' p' (X.putObj (b+1) (.loop (R s' p'))):=
 ⟨World.putObj_heap_same h.lt,(World.putObj_heap_other (by omega)).trans h.2⟩
def leftSo(B:Nat)(Kp:World→World→Prop)(I Ix:Nat→World→Prop)(id:Nat)(xs:Nat)(W:World):Exit→Act→World→Prop
 | .normal,_,W' =>KeepsFrom B W W'∧Kp W W'∧I xs W'
 | .exit j,_,W' =>j=id∧KeepsFrom B W W'∧Ix xs W'
 |_,_,_=>False
theorem wpIn_rangeFunc_ends{g:Operand}{ps:Array Tmp}{assign body:Code}{Q:Exit→Act→World→Prop}{a:Act}{w:World}
  (hro:F.round=none) (h1:1≤n) {gf:Nat} {lb:Array Value} (hg:a.eval g= .func (.func gf) #[] lb) (hFg:F.fn gf) (eg:∀args w,(callFunc gf args).run P w= .ok (.enter gf args) w)
  {encs:Nat→Array Value} {Kp:World→World→Prop} {N:Nat} {w0:World} (hseq:SeqEnds F (n-1) P gf lb encs Kp N w0)
  (hKt:∀{A B C:World},Kp A B→Kp B C→Kp A C) (hKb:∀(W:World) (l:Nat) (o o' :Obj),w.heap.size≤l→W.heap[l]? =some o→o.isCells=false→o.isWalk=false→Kp W (W.putObj l o')) (hb0:Below w0.heap.size w0 w) (hps:∀x,(encs x).size =ps.size)
  (I Ix:Nat→World→Prop) (id:Nat) (hI:OwnFrom w.heap.size I) (hIx:OwnFrom w.heap.size Ix) (hN:∀k W,I k W→k<N) (h0:I 0 w) (Ax:Nat→Act→World→Prop) (hAx:∀x a',OwnFrom w.heap.size (fun(_:Unit) W=>Ax x a' W))
  (hassign:∀(l x:Nat) (W:World) (K:Act→World→Prop),I x W→(∀a' W',KeepsFrom w.heap.size W W'→Kp W W'→I x W'→Ax x a' W'→K a' W')→
   assign.wpIn (F.inRound l) (n-1-1) P (Exit.then K (fun _ _ _=>False)) {tmps:=(ps.zip (encs x)).foldl (fun t (p,v)=>t.setIfInBounds p v) a.tmps,defers:=[]} W)
  (hbody:∀(l x:Nat) (a' :Act) (W:World),I x W→Ax x a' W→body.wpIn (F.inRound l) (n-1-1) P (leftSo w.heap.size Kp I Ix id (x+1) W) a' W)
  (hstop:∀(D k:Nat) (W:World),w.heap.size≤D→Ix k W→W.heap[D]? =some (.deferred (some []))→(Code.exit id).wpIn F n P Q {a with defers:={target:= .collected D,args:= #[]}::a.defers} W):
  (Code.rangeFunc g ps assign body).wpIn F n P Q a w:=by
 refine wpIn_rangeFunc fun fn hfn=> ?_
 rw[hro]
 obtain⟨R,hR⟩:∃R:LoopState→Option Code→Loop,R=fun st pe=>{state:=st,pending:=pe,fn,tmps:=a.tmps,params:=ps,assign,body,defers:=w.heap.size}:=⟨_,rfl⟩
 obtain⟨b,hb⟩:∃b,b=w.heap.size:=⟨_,rfl⟩
 obtain⟨W1,hW1⟩:∃W1,W1=(w.alloc (.deferred (some []))).alloc (.loop (R .ready none)):=⟨_,rfl⟩
 have hs1:W1.heap.size=b+2:=by rw[hW1,hb];simp
 have r1:recAt R b .ready none W1:=by
  rw[hW1,hb]
  refine⟨?_,(Below.heap_alloc _ _ _ (by simp)).trans (World.alloc_heap_new w _)⟩
  have:=World.alloc_heap_new (w.alloc (.deferred (some []))) (.loop (R .ready none))
  rwa [World.size_alloc] at this
 have i1:I 0 W1:=by rw[hW1];exact hI.alloc _ (hI.alloc _ h0)
 have below1:Below w0.heap.size w0 W1:=by
  rw[hW1];exact hb0.trans ((((Below.refl _ w).alloc (Nat.le_refl _) _).alloc (by simp) _).mono hb0.size)
 refine⟨b+1,[{target:= .collected b,args:= #[]}],W1,{target:= .fn (.func gf) lb,args:= #[.func (.yield (b+1)) #[] #[]]},W1,gf,#[.func (.yield (b+1)) #[] #[]]++lb,W1,?_,?_,?_,?_,fun _=>h1,?_⟩
 ·rw[hW1,hR,hb];exact run_enterLoop_outer _ _ _ _ _
 ·simp only[resolve,hg]
  simp[go_sem]
 ·intro f' hf';simp[Target.leads] at hf';rw[←hf'];exact hFg
 ·simp[invoke,go_sem,eg]
 have walk:∀{A:World} {row:Option Nat},(∀r,row=some r→W1.heap.size≤r∧∃o:Obj,A.heap[r]? =some o∧o.isWalk=true)→∀r,row=some r→w.heap.size≤r∧∃o:Obj,A.heap[r]? =some o∧o.isCells=false:=fun h r e=>by
  obtain⟨h1,o,ho,hw⟩:=h r e
  exact⟨by omega,o,ho,Obj.not_cells_of_walk hw⟩
 refine(hseq (b+1) (fun pre W=>I pre W∧recAt R b .ready none W) (fun pre W=>Ix pre W∧recAt R b .done (some (.exit id)) W) W1 below1
  (fun s A B row h hg' hr=>⟨hI s A B row h.1 hg' (walk hr),h.2.grown hg' (fun r e=>(hr r e).2)⟩)
  (fun s A B row h hg' hr=>⟨hIx s A B row h.1 hg' (walk hr),h.2.grown hg' (fun r e=>(hr r e).2)⟩)
  (fun pre W h=>hN pre W h.1) ?_ ⟨i1,r1⟩).mono ?_
 ·rintro x W ⟨hi,hr⟩
  have hy:=run_yield (P:=P) (args:=encs x) hr.1 (by rw[hR];exact hps x)
  rw[hR] at hy
  refine⟨fn,_,assign,body,hy,roundIn_of_wpIn hfn (hassign _ x W _ hi fun a' Wa hk hkp hia hax=> ?_)⟩
  have hra:=hr.keeps (hb▸hk)
  refine⟨_,run_beginRound hra.1 (by rw[hR]),?_⟩
  have hrb:recAt R b .busy none (Wa.putObj (b+1) (.loop (R .busy none))):=hra.turn .busy none
  have eb:({R .ready none with state:= .busy}:Loop)=R .busy none:=by rw[hR]
  rw[eb]
  have k1:Kp Wa (Wa.putObj (b+1) (.loop (R .busy none))):=hKb _ _ _ _ (by omega) hra.1 rfl rfl
  refine wpIn_mono (hbody _ x a' _ (hI.putObj _ hia (by omega) hra.1 rfl) ((hAx x a').putObj (s:=()) _ hax (by omega) hra.1 rfl)) ?_
  rintro e a3 W3 hp
  cases e with
  |normal=>
   obtain⟨k3,kp3,hi3⟩:=hp
   rw[←hb] at k3
   have hr3:=hrb.keeps k3
   have he:=run_endRound (P:=P) none hr3.1
   rw[hR] at he
   refine⟨_,_,he,.inl ⟨rfl,⟨hI.putObj _ hi3 (by omega) hr3.1 rfl,?_⟩,hKt hkp (hKt (hKt k1 kp3) (hKb _ _ _ _ (by omega) hr3.1 rfl rfl))⟩⟩
   have:=hr3.turn .ready none
   rw[hR] at this⊢
   exact this
  |exit j=>
   obtain⟨rfl,k3,hi3⟩:=hp
   rw[←hb] at k3
   have hr3:=hrb.keeps k3
   have he:=run_endRound (P:=P) (some (.exit j)) hr3.1
   rw[hR] at he
   refine⟨_,_,he,.inr ⟨rfl,hIx.putObj _ hi3 (by omega) hr3.1 rfl,?_⟩⟩
   have:=hr3.turn .done (some (.exit j))
   rw[hR] at this⊢
   exact this
  |ret=>exact hp.elim
  |goto t=>exact hp.elim
  |panic c=>exact hp.elim
  |outgrown=>exact hp.elim
 ·rintro e W2 ⟨⟨v,rfl⟩,k,hi,hr⟩
  have he:=run_endLoop (P:=P) hr.1 (by rw[hR];simp)
  rw[hR] at he
  exact⟨some (.exit id),_,he,hb▸hstop b k _ (by omega) (hIx.putObj _ hi (by omega) hr.1 rfl) ((World.putObj_heap_other (by omega)).trans hr.2)⟩
end
end Go.Proofs.YtpdlbmieciabmaaGreatDoor
namespace Go.Proofs.YtpdlbmieciabmaaGreatDoor
open Go.RowKit Go.Shelf
attribute [local go_sem] Oper.semAt_some
def checkS(key:Int)(l:List UInt8):List UInt8:=[99,104,101,99,107,47]++Lib.itoa key++[47]++l
def streamS(key:Int)(k:Nat):List UInt8:=[115,116,114,101,97,109,47]++Lib.itoa key++[47]++Lib.itoa (k:Int)
set_option maxRecDepth 100000 in
set_option maxHeartbeats 400000 in
theorem check_any(key:Int)(h0: -9223372036854775808≤key)(h1:key≤9223372036854775807)(s:ByteArray)(hs:s.size≤17592186044416)(w:World)(ht:Tab w):
  Calls Tryz.prog 101 #[.int .i64 key,.string s] w fun e w' =>e= .returned (hv (shaL (checkS key s.data.toList)))∧Only NoneOf w w' :=by
 have HI:=Lib.hid (fun w ht=>itoa_any key h0 h1 w ht)
 have HT:=Lib.hid ht
 have HL:=Lib.hid (itoa_len h0 h1)
 clear ht
 go_enter Tryz.func101,Tryz.ntmps101
 go_wp2_with fail
 refine(HI.out _ (HT.out.none ((Only.refl NoneOf w).alloc _))).mono ?_
 rintro e w1 ⟨t,rfl,hl,ho⟩
 have zt:t.size≤21:=by rw[size_list,hl];exact HL.out
 have HTL:=Lib.hid hl
 have HO:=Lib.hid ho
 clear hl ho
 go_wp2_with fail
 refine(sum_any _ _ ?hs).mono ?_
 case hs=>
  have z6:(⟨#[99,104,101,99,107,47]⟩:ByteArray).size =6:=rfl
  have z1:(⟨#[47]⟩:ByteArray).size =1:=rfl
  simp only[ByteArray.size_append];omega
 rintro e w2 ⟨rfl,ho2⟩
 obtain⟨h,eh⟩:∃h,h=shaL (checkS key s.data.toList):=⟨_,rfl⟩
 have e1:shaL ((⟨#[99,104,101,99,107,47]⟩++t++⟨#[47]⟩++s:ByteArray).data.toList)=h:=by
  rw[eh,append_list,append_list,append_list,HTL.out];rfl
 have EH:=Lib.hid eh
 have hl:h.length=32:=by rw[eh];exact shaL_len _
 have hi41:(Tryz.prog.info? 68).map (·.size)=some (h.map bv).toArray.size :=by rw[List.size_toArray,List.length_map,hl];kernel_rfl
 have hone:(h.map bv).toArray.all (·.oneCell')=true:=all_oneCell_toArray (bvs_one _)
 have hb:=(Blk.new w 68 (Array.replicate 32 (.int .u8 0))).only (HO.out.trans ho2) (fun h=>h)
 have hth:=hb.there 0 (h.map bv).toArray.size (by rw[List.size_toArray,List.length_map,hl];exact Nat.le_refl _)
 have HI41:=Lib.hid hi41
 have HONE:=Lib.hid hone
 have HTH:=Lib.hid hth
 have HBB:=Lib.hid hb
 have HL2:=Lib.hid hl
 have HO2:=Lib.hid ho2
 rw[e1]
 clear e1 eh hl hi41 hone hb hth ho2
 have tok1:True:=trivial
 go_wp2_with (have _t:=tok1;refine wpList_store_mid rfl 68 (.tmp 4) (.tmp 11) rfl w.heap.size 0 (h.map bv).toArray rfl rfl HTH.out HI41.out HONE.out ?_;clear tok1 _t)
 have hbf:=Blk.filled (xs:=List.replicate 32 (.int .u8 0)) HBB.out (h.map bv).toArray.toList (by simp[HL2.out])
 refine bodyPost_ret (results_blk rfl rfl hbf Tryz.underlying68 rfl (by simpa using HI41.out)) rfl ⟨?_,only_setCells (((Only.refl NoneOf w).alloc _).trans (HO.out.trans HO2.out)) _ _ (.inr (Nat.le_refl _)) _⟩
 rw[←EH.out]
 simp[hv]
set_option maxHeartbeats 400000 in
theorem stream_any(key:Int)(w:World):
  Calls Tryz.prog 125 #[.int .i64 key] w fun e w' =>e= .returned (.func (.func 148) #[] #[.pointer (some ⟨w.heap.size,0,none⟩)])∧w' =w.alloc (.cells #[.int .i64 key] 3):=by
 go_enter Tryz.func125,Tryz.ntmps125
 go_wp2_with fail
 go_ret
 exact⟨rfl,rfl⟩
def Kept1(A:Nat)(W W' :World):Prop:=W'.heap[A]? =W.heap[A]?∧(Tab W→Tab W')
theorem kept1_t{A:Nat}{X Y Z:World}(h:Kept1 A X Y)(k:Kept1 A Y Z):Kept1 A X Z:=⟨k.1.trans h.1,fun t=>k.2 (h.2 t)⟩
theorem tab_put{W:World}{l:Nat}{o o' :Obj}(h:Tab W)(hl:W.heap[l]? =some o)(ho:o.isCells=false):Tab (W.putObj l o'):=by
 have hg:Tryz.prog.globalNamed pow10=some 3:=by kernel_rfl
 unfold Tab Lib.TabIs World.var? at *
 rw[hg] at h⊢
 simp only[Option.bind_some] at h⊢
 have hne:3≠l:=by
  rintro rfl
  rw[hl] at h
  cases o with
  |cells c t f=>cases ho
  |_=>cases h
 rw[World.putObj_heap_other hne]
 exact h
theorem kept1_b{A:Nat}{w:World}(hA:A<w.heap.size)(W:World)(l:Nat)(o o' :Obj)(hl:w.heap.size≤l)(h:W.heap[l]? =some o)(hc:o.isCells=false)(_:o.isWalk=false):Kept1 A W (W.putObj l o'):=
 ⟨World.putObj_heap_other (by omega),fun t=>tab_put t h hc⟩
theorem Kept1.none{A:Nat}{W W' :World}(ho:Only NoneOf W W')(hA:A<W.heap.size):Kept1 A W W' :=⟨ho.block A hA (fun h=>h),fun t=>t.none ho⟩
theorem kept1_lt{A:Nat}{W W' :World}(h:Kept1 A W W')(hA:A<W.heap.size):A<W'.heap.size:=by
 rcases Nat.lt_or_ge A W'.heap.size with h1|h1
 ·exact h1
 ·have:=h.1
  rw[Array.getElem?_eq_none h1,Array.getElem?_eq_getElem hA] at this
  cases this
set_option maxRecDepth 100000 in
set_option maxHeartbeats 1000000 in
theorem stream_ends(n A N:Nat)(hN:N≤4611686018427387904)(key:Int)(h0: -9223372036854775808≤key)(h1:key≤9223372036854775807)(w:World)(hA:w.cell? ⟨A,0,none⟩=some (.int .i64 key))(ht:Tab w):
  SeqEnds Fence.wide n Tryz.prog 148 #[.pointer (some ⟨A,0,none⟩)] (fun k=> #[.int .i64 k,hv (shaL (streamS key k))]) (Kept1 A) N w:=by
 intro l J Jx W hW hJ hJx hlt hY hj
 have hAw:=World.block_lt_of_cell? w _ hA
 have cA:=(hW.cell (p:=⟨A,0,none⟩) hAw).trans hA
 have htW:Tab W:=ht.none (Only.of_below hW NoneOf)
 refine callsIn_of_wp Tryz.func148 rfl trivial ?_ rfl
 simp only[Tryz.ntmps148,List.size_toArray,List.length_cons,List.length_nil,Nat.reduceAdd,Nat.reduceSub,Array.replicate_succ,Array.replicate_zero,List.push_toArray,List.append_toArray,List.nil_append,List.cons_append]
 have HI:=Lib.hid (fun w ht=>itoa_any key h0 h1 w ht)
 have HL:=Lib.hid (itoa_len h0 h1)
 have HJ:=Lib.hid hJ
 have HLT:=Lib.hid hlt
 have HY:=Lib.hid hY
 have HJ0:=Lib.hid hj
 have HTW:=Lib.hid htW
 clear hJ hJx hlt hY hj htW ht hA
 gi_wp2
 refine⟨trivial,(fun h=>by cases h),(callsIn_wide.2 (HI.out _ HTW.out)).mono ?_⟩
 rintro e w1 ⟨t,rfl,hl,ho⟩
 have zt:t.size≤21:=by rw[size_list,hl];exact HL.out
 have HTL:=Lib.hid hl
 have HO:=Lib.hid ho
 clear hl ho
 gi_wp2
 gi_loopw [4] (fun v wr=>∃k:Nat,v= .int .i64 k∧J k wr∧Kept1 A W wr∧A<wr.heap.size) (fun v _=>N-(intOf v).toNat)
 case atStart=>exact⟨0,rfl,HJ.out _ _ _ none HJ0.out (grown_of_only HO.out) (fun r e=>by cases e),Kept1.none HO.out (Nat.lt_of_lt_of_le hAw hW.size),Nat.lt_of_lt_of_le (Nat.lt_of_lt_of_le hAw hW.size) HO.out.size⟩
 case round=>
  obtain⟨k,rfl,hjk,hkp,hAr⟩:=hrel
  have hkN:=HLT.out k wr hjk
  have HI2:=Lib.hid (itoa_any (k:Int) (by omega) (by omega) wr (hkp.2 HTW.out))
  have HL2:=Lib.hid (itoa_len (n:=(k:Int)) (by omega) (by omega))
  have HJK:=Lib.hid hjk
  have HKP:=Lib.hid hkp
  clear hjk hkp
  gi_wp2
  refine⟨trivial,(fun h=>by cases h),(callsIn_wide.2 HI2.out).mono ?_⟩
  rintro e w2 ⟨t2,rfl,hl2,ho2⟩
  have zt2:t2.size≤21:=by rw[size_list,hl2];exact HL2.out
  have HTL2:=Lib.hid hl2
  have HO2:=Lib.hid ho2
  clear hl2 ho2
  gi_wp2
  refine⟨trivial,(fun h=>by cases h),(callsIn_wide.2 (sum_any _ _ ?hs)).mono ?_⟩
  case hs=>
   have z6:(⟨#[115,116,114,101,97,109,47]⟩:ByteArray).size =7:=rfl
   have z1:(⟨#[47]⟩:ByteArray).size =1:=rfl
   simp only[ByteArray.size_append];omega
  rintro e w3 ⟨rfl,ho3⟩
  have e1:shaL ((⟨#[115,116,114,101,97,109,47]⟩++t++⟨#[47]⟩++t2:ByteArray).data.toList)=shaL (streamS key k):=by
   rw[append_list,append_list,append_list,HTL.out,HTL2.out];rfl
  rw[e1]
  have ho23:=HO2.out.trans ho3
  have hj3:J k w3:=HJ.out _ _ _ none HJK.out (grown_of_only ho23) (fun r e=>by cases e)
  obtain⟨fn,tmps,assign,body,hy,hR⟩:=HY.out k w3 hj3
  unfold hv at hy
  have k3:=kept1_t HKP.out (Kept1.none ho23 hAr)
  have hA3:A<w3.heap.size:=Nat.lt_of_lt_of_le hAr ho23.size
  have HR:=Lib.hid hR
  have K3:=Lib.hid k3
  clear e1 ho3 ho23 hj3 hR k3
  gi_wp2
  refine⟨(fun h=>by cases h),HR.out.mono ?_⟩
  rintro e w4 (⟨rfl,hJ4,hk4⟩|⟨rfl,hJx4⟩)
  ·gi_wp2
   go_roundw
   case rel=>exact⟨k+1,by go_num,hJ4,kept1_t K3.out hk4,kept1_lt hk4 hA3⟩
   case measure=>simp[intOf];omega
  ·gi_wp2
   go_end0
   exact⟨⟨_,rfl⟩,_,hJx4⟩
end Go.Proofs.YtpdlbmieciabmaaGreatDoor
namespace Go.Proofs.YtpdlbmieciabmaaGreatDoor
open Go.RowKit
def xorL(h p:List UInt8):List UInt8:=List.zipWith (·^^^·) h p
def mixRow(h p:List UInt8)(i:Nat):List UInt8:=xorL (h.take i) (p.take i)++h.drop i
theorem xorL_len(h p:List UInt8):(xorL h p).length =min h.length p.length:=by simp[xorL]
theorem mixRow_get{h p:List UInt8}{i:Nat}(hi:i≤h.length)(hp:i≤p.length){x:UInt8}(hx:h[i]? =some x):(mixRow h p i)[i]? =some x:=by
 rw[mixRow,List.getElem?_append_right (by simp[xorL_len];omega)]
 simp[xorL_len]
 rw[show i+(i-min i (min h.length (min i p.length)))=i by omega]
 exact hx
theorem mixRow_set{h p:List UInt8}{i:Nat}{x y:UInt8}(hx:h[i]? =some x)(hy:p[i]? =some y):((mixRow h p i).map bv).toArray.setIfInBounds i (bv (x^^^y))=((mixRow h p (i+1)).map bv).toArray :=by
 have hi:i<h.length:=(List.getElem?_eq_some_iff.1 hx).1
 have hp:i<p.length:=(List.getElem?_eq_some_iff.1 hy).1
 have hl:(xorL (h.take i) (p.take i)).length =i:=by simp[xorL_len];omega
 have hd:h.drop i=x::h.drop (i+1):=by
  rw[List.drop_eq_getElem_cons hi]
  congr 1
  exact(List.getElem?_eq_some_iff.1 hx).2
 have ht:xorL (h.take (i+1)) (p.take (i+1))=xorL (h.take i) (p.take i)++[x^^^y]:=by
  rw[List.take_add_one,List.take_add_one,hx,hy]
  exact List.zipWith_append (by simp;omega)
 rw[List.setIfInBounds_toArray,mixRow,mixRow,ht,hd,List.map_append,List.set_append_right _ _ (by simp[hl]),List.length_map,hl,Nat.sub_self,List.map_cons,List.set_cons_zero]
 simp
theorem mixRow_all{h p:List UInt8}(hp:p.length≤h.length):(mixRow h p p.length).take p.length=xorL h p:=by
 rw[mixRow,List.take_append_of_le_length (by simp[xorL_len];omega),List.take_of_length_le (by simp[xorL_len];omega)]
 simp[xorL]
 have:List.zipWith (·^^^·) (h.take p.length) p=List.zipWith (·^^^·) h p:=by
  conv=>rhs;rw[←List.take_append_drop p.length h]
  have e:p=p++[]:=by simp
  conv=>rhs;arg 3;rw[e]
  rw[List.zipWith_append (by simp;omega)]
  simp
 exact this
set_option maxRecDepth 100000 in
set_option maxHeartbeats 1000000 in
theorem mix_any{B g o n c:Nat}{h p:List UInt8}{w:World}(hB:Blk w B 68 (h.map bv).toArray)(hh:h.length=32)(hn:p.length=n)(hn32:n≤32)(hnc:n≤c)(_hcm:c≤maxLen)(hp:BytesAt w g o p)(hth:w.there g o n)(hne:g≠B):
  Calls Tryz.prog 126 #[.pointer (some ⟨B,0,none⟩),.slice (some ⟨g,o,none⟩) n c] w fun e w' =>(∃v,e= .returned v)∧∃wr,Only (·=B) w wr∧w' =wr.setCells g o ((xorL h p).map bv):=by
 have HB:=Lib.hid hB
 have HP:=Lib.hid hp
 have HTH:=Lib.hid hth
 have HN:=Lib.hid hn
 have HH:=Lib.hid hh
 unfold maxLen at _hcm
 clear hB hp hth hn hh
 go_enter Tryz.func126,Tryz.ntmps126
 go_wp2_with fail
 go_loopw [7] (fun v wr=>∃i:Nat,v= .int .i64 i∧i≤n∧Blk wr B 68 ((mixRow h p i).map bv).toArray∧Only (·=B) w wr) (fun v _=>n-(intOf v).toNat)
 case atStart=>exact⟨0,rfl,by omega,by simpa [mixRow,xorL] using HB.out,Only.refl _ _⟩
 case round=>
  obtain⟨i,rfl,hi,hb,ho⟩:=hrel
  by_cases hlt:i<n
  ·obtain⟨x,ex⟩:∃x,h[i]? =some x:=⟨_,List.getElem?_eq_getElem (by have:=HH.out;omega)⟩
   obtain⟨y,ey⟩:∃y,p[i]? =some y:=⟨_,List.getElem?_eq_getElem (by have:=HN.out;omega)⟩
   have cx:wr.cell? ⟨B,i,none⟩=some (.int .u8 (x.toNat:Int)):=by
    rw[hb.cell,List.getElem?_toArray,List.getElem?_map,mixRow_get (by have:=HH.out;omega) (by have:=HN.out;omega) ex];rfl
   have cy:wr.cell? ⟨g,o+i,none⟩=some (.int .u8 (y.toNat:Int)):=ho.cell_some (HP.out i y ey) hne
   have fz:=hb.frozen i
   have hset:=mixRow_set ex ey
   have HSET:=Lib.hid hset
   have HBB:=Lib.hid hb
   have HO:=Lib.hid ho
   have i32:(i:Int)<32:=by omega
   have i0:0≤(i:Int):=by omega
   have inn:(i:Int)<(n:Int):=by omega
   clear hset hb ho ex ey
   go_wp2_with fail
   go_region
   go_wp2_with fail
   go_roundw
   case rel=>
    refine⟨i+1,by go_num,by omega,?_,(HO.out.drew).setCell (.inl rfl) _⟩
    have:=(Blk.drew HBB.out).set_ i (bv (x^^^y))
    rw[HSET.out] at this
    rw[b_xor]
    exact this
   case measure=>simp[intOf];omega
  ·obtain rfl:i=n:=by omega
   have hx:xorL h p=(mixRow h p i).take i:=by
    have:=mixRow_all (h:=h) (p:=p) (by have:=HH.out;have:=HN.out;omega)
    rw[HN.out] at this
    exact this.symm
   have hsrc:BytesAt wr B 0 (xorL h p):=by rw[hx];exact(blk_bytes hb).part 0 i
   have hlen:((xorL h p).map bv).length =Nat.min 32 i:=by
    rw[List.length_map,xorL_len,HH.out,HN.out]
   have hth2:wr.there g o ((xorL h p).map bv).length :=by
    rw[hlen,show Nat.min 32 i=i from Nat.min_eq_right hn32];exact there_only HTH.out ho hne
   have HSRC:=Lib.hid hsrc
   have HLEN:=Lib.hid hlen
   have HTH2:=Lib.hid hth2
   have HO:=Lib.hid ho
   clear hx hsrc hlen hth2 ho hb
   have tok:True:=trivial
   go_wp2_with (have _t:=tok;refine wpList_copy_bytes rfl (.tmp 23) (.tmp 26) 100 100 rfl 5 Tryz.underlying100 (by kernel_rfl) g o i c ⟨B,0,none⟩ 32 32 rfl rfl ((xorL h p).map bv) HLEN.out (bytes_src HSRC.out) HTH2.out (bvs_one _) ?_;clear tok _t)
   go_end0
   exact⟨⟨_,rfl⟩,wr,HO.out,rfl⟩
end Go.Proofs.YtpdlbmieciabmaaGreatDoor
namespace Go.Proofs.YtpdlbmieciabmaaGreatDoor
open Go.RowKit Go.Shelf
attribute [local go_sem] Oper.semAt_some
def seg(l:List UInt8)(i:Nat):List UInt8:=(l.drop (32*i)).take 32
def combK(key:Int)(l:List UInt8):Nat→List UInt8
 |0=>[]
 |k+1=>combK key l k++xorL (shaL (streamS key k)) (seg l k)
def outK(key:Int)(l:List UInt8)(k:Nat):List UInt8:=combK key l k++l.drop (32*k)
def combL(key:Int)(l:List UInt8):List UInt8:=combK key l ((l.length+31)/32)
theorem seg_len(l:List UInt8)(i:Nat):(seg l i).length =min 32 (l.length-32*i):=by simp[seg]
theorem combK_len(key:Int)(l:List UInt8)(k:Nat):(combK key l k).length =min (32*k) l.length:=by
 induction k with
 |zero=>simp[combK]
 |succ k ih=>rw[combK,List.length_append,ih,xorL_len,shaL_len,seg_len];omega
theorem outK_len(key:Int)(l:List UInt8)(k:Nat):(outK key l k).length =l.length:=by
 rw[outK,List.length_append,combK_len,List.length_drop];omega
theorem combL_len(key:Int)(l:List UInt8):(combL key l).length =l.length:=by rw[combL,combK_len];omega
theorem combK_end(key:Int)(l:List UInt8)(k:Nat)(h:l.length≤32*k):combK key l k=combL key l:=by
 have step:∀j,l.length≤32*j→combK key l (j+1)=combK key l j:=fun j hj=>by
  have:seg l j=[]:=by rw[←List.length_eq_zero_iff,seg_len];omega
  rw[combK,this];simp[xorL]
 obtain⟨d,hd⟩:∃d,k=(l.length+31)/32+d:=⟨k-(l.length+31)/32,by omega⟩
 subst hd
 clear h
 induction d with
 |zero=>rfl
 |succ d ih=>rw[←Nat.add_assoc,step _ (by omega)];exact ih
theorem outK_end(key:Int)(l:List UInt8)(k:Nat)(h:l.length≤32*k):outK key l k=combL key l:=by
 rw[outK,combK_end key l k h,List.drop_of_length_le (by omega),List.append_nil]
theorem outK_step(key:Int)(l:List UInt8)(k:Nat)(h:32*k<l.length):
  setMany ((outK key l k).map bv) (32*k) ((xorL (shaL (streamS key k)) (seg l k)).map bv)=(outK key l (k+1)).map bv:=by
 have h1:(combK key l k).length =32*k:=by rw[combK_len];omega
 have h2:(xorL (shaL (streamS key k)) (seg l k)).length =min 32 (l.length-32*k):=by rw[xorL_len,shaL_len,seg_len];omega
 rw[setMany_eq _ _ _ (by rw[List.length_map,List.length_map,outK_len,h2];omega),List.length_map,h2,←List.map_take,←List.map_drop,←List.map_append,←List.map_append]
 congr 1
 rw[outK,outK,combK,List.take_append_of_le_length (by omega),List.take_of_length_le (by omega),List.drop_append,List.drop_of_length_le (by omega),List.nil_append,List.drop_drop,h1]
 congr 1
 by_cases hh:32*(k+1)≤l.length
 ·congr 1;omega
 ·rw[List.drop_of_length_le (by omega),List.drop_of_length_le (by omega)]
theorem seg_out(key:Int)(l:List UInt8)(k:Nat):((outK key l k).drop (32*k)).take 32=seg l k:=by
 by_cases h:32*k≤l.length
 ·have h1:(combK key l k).length =32*k:=by rw[combK_len];omega
  rw[outK,List.drop_append,List.drop_of_length_le (by omega),h1,Nat.sub_self,List.nil_append];rfl
 ·rw[List.drop_of_length_le (by rw[outK_len];omega),seg,List.drop_of_length_le (by omega)]
theorem wpListIn_store_mid{F:Fence}{m:Nat}{P:Program}{ops:Array Oper}{rest:List Oper}{o:Oper}{a:Act}{w:World}{Q:Exit→Act→World→Prop}(hgd:o.guard=none)(ty:TypeId)(x y:Operand)(ho:o.op= .store ty x y)
  (b i:Nat) (cells:Array Value) (hx:a.eval x= .pointer (some ⟨b,i,none⟩)) (hy:a.eval y= .agg cells) (ht:w.there b i cells.size) (hi:(P.info? ty).map (·.size)=some cells.size) (h1:cells.all (·.oneCell')=true)
  (h:wpListIn F m P ops Q rest (a.put o.dst undef) (w.setCells b i cells.toList)):wpListIn F m P ops Q (o::rest) a w:=by
 refine wpListIn_plain hgd fun K hK' => ?_
 unfold Oper.wpIn
 refine⟨?_,?_⟩
 ·simp[Oper.about,ho]
 ·rw[Oper.semAt_plain F _ _ (by rw[ho];intro c hc';cases hc')]
  simp only[execOp,ho,hx,hy,Instr.storeAt,Instr.sureAddr,Sem.run_bind,Sem.run_pure,Result.andThen_ok,run_storeVar_mid w b i ty cells ht hi h1]
  exact hK' _ _ h
theorem Tab.grown{X Y:World}{row:Option Nat}(h:Tab X)(hg:X.grownBy Y row)(hr:∀r,row=some r→∃o:Obj,X.heap[r]? =some o∧o.isCells=false):Tab Y:=by
 have hgl:Tryz.prog.globalNamed pow10=some 3:=by kernel_rfl
 unfold Tab Lib.TabIs World.var? at *
 rw[hgl] at h⊢
 simp only[Option.bind_some] at h⊢
 cases hx:X.heap[3]? with
 |none=>rw[hx] at h;cases h
 |some o=>
  cases o with
  |cells cs t fr=>rw[cells_stay hg hr hx];exact h
  |_=>rw[hx] at h;cases h
theorem Tab.lt{X:World}(h:Tab X):3<X.heap.size:=by
 have hgl:Tryz.prog.globalNamed pow10=some 3:=by kernel_rfl
 unfold Tab Lib.TabIs World.var? at *
 rw[hgl] at h
 simp only[Option.bind_some] at h
 cases hx:X.heap[3]? with
 |none=>rw[hx] at h;cases h
 |some o=>exact(Array.getElem?_eq_some_iff.1 hx).1
structure CombI(w:World)(O g c n:Nat)(L:List UInt8)(W:World):Prop where
 box:Blk W O 100 #[.slice (some ⟨g,0,none⟩) n c]
 buf:Buf W 5 (.slice (some ⟨g,0,none⟩) n c) L
 rest:Only NoneOf w W
 tab:Tab W
 big:O+2≤W.heap.size
 lt:g<O
 new:w.heap.size≤g
 glob:3<w.heap.size
theorem CombI.grown{w:World}{O g c n:Nat}{L:List UInt8}{X Y:World}{row:Option Nat}(h:CombI w O g c n L X)(hg:X.grownBy Y row)(hr:∀r,row=some r→w.heap.size≤r∧∃o:Obj,X.heap[r]? =some o∧o.isCells=false):CombI w O g c n L Y:=by
 refine⟨(cells_stay hg (fun r e=>(hr r e).2) h.box).trans h.box,?_,h.rest.grown hg (fun k hk=> .inr (hr k hk).1),h.tab.grown hg (fun r e=>(hr r e).2),Nat.le_trans h.big hg.size,h.lt,h.new,h.glob⟩
 obtain⟨g',cap,cur,lo,hi,hv,hh,hrest⟩:=h.buf
 exact⟨g',cap,cur,lo,hi,hv,(cells_stay hg (fun r e=>(hr r e).2) hh).trans hh,hrest⟩
theorem CombI.alloc{w:World}{O g c n:Nat}{L:List UInt8}{X:World}(h:CombI w O g c n L X)(o:Obj):CombI w O g c n L (X.alloc o):=
 h.grown (World.grownBy_alloc X o none) (fun r e=>by cases e)
theorem CombI.only{w:World}{O g c n:Nat}{L:List UInt8}{X Y:World}{S:Nat→Prop}(h:CombI w O g c n L X)(ho:Only S X Y)(hS:∀k,S k→O+2≤k):CombI w O g c n L Y:=by
 have hl:=h.lt;have hn:=h.new;have hb:=h.big
 refine⟨h.box.only ho (fun e=>by have:=hS _ e;omega),h.buf.only ho (fun k hk=> ?_),h.rest.trans' ho (fun i hi e=>by have:=hS _ e;omega),h.tab.only ho (fun k e=> ?_),Nat.le_trans hb ho.size,h.lt,h.new,h.glob⟩
 ·have hk' :some g=some k:=hk
  intro e
  cases hk'
  have:=hS _ e;omega
 ·have h2:=hS _ e
  have h3:=h.glob
  omega
theorem Buf.mid{w:World}{e:TypeId}{g n cap:Nat}{L L' :List UInt8}(h:Buf w e (.slice (some ⟨g,0,none⟩) n cap) L)(k:Nat)(news:List UInt8)(hk:k+news.length≤L.length)(hn:setMany (L.map bv) k (news.map bv)=L'.map bv):
  Buf (w.setCells g k (news.map bv)) e (.slice (some ⟨g,0,none⟩) n cap) L'∧w.there g k news.length:=by
 obtain⟨g',cap',cur,lo,hi,hv',hh,hcs,hc,hm,hz,ht⟩:=h
 simp only[Value.slice.injEq,Option.some.injEq,Addr.mk.injEq,and_true] at hv'
 obtain⟨rfl,rfl,rfl⟩:=hv'
 have hheap:∀(vs:List Value) (o:Nat) (W:World) (xs:List Value),W.heap[g]? =some (.cells xs.toArray e (lo,hi))→(W.setCells g o vs).heap[g]? =some (.cells (setMany xs o vs).toArray e (lo,hi)):=by
  intro vs
  induction vs with
  |nil=>intro o W xs h;exact h
  |cons u r ih=>
   intro o W xs h
   refine ih (o+1) (W.setCell ⟨g,o,none⟩ u) (xs.set o u) ?_
   simp[World.setCell,Array.getElem?_modify,h]
 have h1:=hheap (news.map bv) k w cur.toList (by simpa using hh)
 have hlen:k+(news.map bv).length≤cur.toList.length:=by simp;omega
 have hlen2:k+(news.map bv).length≤(L.map bv).length :=by simpa using hk
 have hL:L'.length=L.length:=by
  have:=congrArg List.length hn
  rw[setMany_eq _ _ _ hlen2] at this
  simp at this hlen2
  omega
 rw[setMany_eq _ _ _ hlen] at h1
 refine⟨⟨g,cap,_,lo,hi,by rw[hL],h1,by simp at hlen⊢;omega,by omega,hm,hz,?_⟩,fun j hj=>⟨?_,?_⟩⟩
 ·rw[List.toList_toArray,←hn,setMany_eq _ _ _ hlen2,←ht,hL,List.length_map]
  rw[List.append_assoc,List.take_append,List.take_append,List.take_take,List.drop_take,List.append_assoc]
  simp only[List.length_take,List.length_map]
  have a1:min k cur.toList.length=k:=by simp;omega
  have a2:min k L.length=k:=by omega
  have a3:min L.length k=k:=by omega
  rw[a1]
  congr 1
  ·rw[List.take_take,a2,a3]
  ·congr 1
   ·rw[List.take_of_length_le (by simp;omega)]
   ·congr 1
    omega
 ·unfold World.cell?
  simp only[hh]
  rw[if_neg (by simp),Array.getElem?_eq_getElem (by omega)]
  rfl
 ·unfold World.frozen?
  simp only[hh]
  rcases hz with hz|hz
  ·simp;omega
  ·simp[hz]
theorem CombI.step{w:World}{O g c n:Nat}{L L' :List UInt8}{X:World}(h:CombI w O g c n L X)(k:Nat)(news:List UInt8)(hk:k+news.length≤L.length)(hn:setMany (L.map bv) k (news.map bv)=L'.map bv)(h0:3<w.heap.size):CombI w O g c n L' (X.setCells g k (news.map bv)):=by
 have hl:=h.lt;have hnw:=h.new;have hb:=h.big
 have ho:Only (·=g) X (X.setCells g k (news.map bv)):=only_setCells (Only.refl (·=g) X) _ _ (.inl rfl) _
 refine⟨h.box.only ho (fun e=>by omega),(h.buf.mid k news hk hn).1,h.rest.trans' ho (fun i hi e=>by omega),h.tab.only ho (fun k e=>by have e' :k=g:=e;omega),Nat.le_trans hb ho.size,h.lt,h.new,h.glob⟩
set_option maxRecDepth 100000 in
set_option maxHeartbeats 1000000 in
theorem combine_any(key:Int)(h0: -9223372036854775808≤key)(h1:key≤9223372036854775807)(s:ByteArray)(hs:s.size≤17592186044416)(w:World)(ht:Tab w):
  Calls Tryz.prog 102 #[.int .i64 key,.string s] w (RetStr (combL key s.data.toList) w):=by
 have HT:=Lib.hid ht
 clear ht
 refine callsIn_wide.1 (callsIn_of_wp_marks (n:=9) Tryz.func102 rfl trivial ?_ rfl)
 simp only[Tryz.ntmps102,List.size_toArray,List.length_cons,List.length_nil,Nat.reduceAdd,Nat.reduceSub,Array.replicate_succ,Array.replicate_zero,List.push_toArray,List.append_toArray,List.nil_append,List.cons_append]
 refine wpIn_wide.2 ?_
 go_wp2_with (refine wpList_convert_string rfl 9 100 5 (.tmp 9) rfl s rfl Tryz.underlying9 Tryz.underlying100 Tryz.underlying5 (by unfold maxLen;omega) _ w.heap.size rfl (Only.refl NoneOf _) ?_;intro g1 c1 w1 hb1 ho1 hg1a hg1b hc1 hc1m)
 refine(stream_any _ _).mono ?_
 rintro e w2 ⟨rfl,rfl⟩
 go_wp2_with fail
 have hO:g1<w1.heap.size:=hg1b
 have hsl:s.data.toList.length=s.size:=by simp
 obtain⟨l,el⟩:∃l,l=s.data.toList:=⟨_,rfl⟩
 rw[←el] at hb1 hsl⊢
 have hst:CombI w w1.heap.size g1 c1 s.size (outK key l 0) ((w1.alloc (.cells #[.slice (some ⟨g1,0,none⟩) s.size c1] 100)).alloc (.cells #[.int .i64 key] 3)):=
  ⟨(Blk.new w1 _ _).alloc _,by have:=(hb1.out.alloc (.cells #[.slice (some ⟨g1,0,none⟩) s.size c1] 100)).alloc (.cells #[.int .i64 key] 3);simpa [outK,combK] using this,(ho1.out.alloc _).alloc _,HT.out.none ((ho1.out.alloc _).alloc _),by simp,hO,hg1a,HT.out.lt⟩
 have HST:=Lib.hid hst
 have HSL:=Lib.hid hsl
 have htab:=HST.out.tab
 have HTAB:=Lib.hid htab
 have hu:=c1
 have EL:=Lib.hid el
 clear hst hsl htab hu el
 obtain⟨O,eO⟩:∃O,O=w1.heap.size:=⟨_,rfl⟩
 have hst2:=HST.out
 rw[←eO] at hst2
 have HST2:=Lib.hid hst2
 clear hst2
 refine(wpIn_wide (n:=9)).1 (wpIn_rangeFunc_ends (F:=Fence.wide) rfl (show 1≤9 by omega) (gf:=148) (lb:= #[.pointer (some ⟨w1.heap.size+1,0,none⟩)]) rfl trivial (enters_of Tryz.func148 (by kernel_rfl) rfl)
  (stream_ends 8 (w1.heap.size+1) (s.size+2) (by omega) key h0 h1 _ ?cA HTAB.out) kept1_t (kept1_b ?hA) (Below.refl _ _) ?sz
  (fun k X=>CombI w w1.heap.size g1 c1 s.size (outK key l k) X∧(k=0∨32*(k-1)<s.size)) (fun m X=>∃x,m=x+1∧s.size≤32*x∧CombI w w1.heap.size g1 c1 s.size (outK key l x) X) 0 ?ownI ?ownX ?bound ?start
  (fun x a' X=>∃Bb,w1.heap.size+2≤Bb∧Blk X Bb 68 ((shaL (streamS key x)).map bv).toArray∧a' ={tmps:= #[.int .i64 key,.string s,undef,undef,.string ⟨#[]⟩,.pointer (some ⟨w1.heap.size,0,none⟩),.int .i64 (x:Int),.pointer (some ⟨Bb,0,none⟩),undef,.string s,.slice (some ⟨g1,0,none⟩) s.size c1,.int .i64 key,.func (.func 148) #[] #[.pointer (some ⟨w1.heap.size+1,0,none⟩)],.int .i64 (x:Int),hv (shaL (streamS key x)),undef,undef,undef,undef,undef,undef,undef,undef,undef,undef,undef,undef,undef,undef,undef,undef,undef,undef,undef],defers:=[]}) ?ownA ?assign ?body ?stop)
 case cA=>exact new2_cell w1 _ _ _ 0
 case hA=>simp
 case sz=>exact fun _=>rfl
 case ownI=>exact OwnFrom.and (fun _ _ _ _ h hg hr=>h.grown hg (fun r e=>⟨Nat.le_trans ho1.out.size (Nat.le_trans (two_size w1 _ _) (hr r e).1),(hr r e).2⟩)) (fun _ _ _ _ h _ _=>h)
 case ownX=>
  rintro m X Y row ⟨x,h1,h2,h3⟩ hg hr
  exact⟨x,h1,h2,h3.grown hg (fun r e=>⟨Nat.le_trans ho1.out.size (Nat.le_trans (two_size w1 _ _) (hr r e).1),(hr r e).2⟩)⟩
 case bound=>rintro k X ⟨_,h|h⟩<;>omega
 case start=>exact⟨HST.out,.inl rfl⟩
 case ownA=>
  rintro x a' s' X Y row ⟨Bb,h1,h2,h3⟩ hg hr
  exact⟨Bb,h1,(cells_stay hg (fun r e=>(hr r e).2) h2).trans h2,h3⟩
 case assign=>
  rintro rd x X K ⟨hI,hIx⟩ hK
  have HI:=Lib.hid hI
  have HIX:=Lib.hid hIx
  have HK:=Lib.hid hK
  have hz:((shaL (streamS key x)).map bv).toArray.size =32:=by simp[shaL_len]
  have hthr:(X.alloc (.cells (Array.replicate 32 (.int .u8 0)) 68)).there X.heap.size 0 ((shaL (streamS key x)).map bv).toArray.size :=(Blk.new X _ _).there 0 _ (by rw[hz];simp)
  have hi41:(Tryz.prog.info? 68).map (·.size)=some ((shaL (streamS key x)).map bv).toArray.size :=by rw[hz];kernel_rfl
  have hone:((shaL (streamS key x)).map bv).toArray.all (·.oneCell')=true:=all_oneCell_toArray (bvs_one _)
  have HTHR:=Lib.hid hthr
  have HI41:=Lib.hid hi41
  have HONE:=Lib.hid hone
  clear hI hIx hK hz hthr hi41 hone
  gi_wp2_with (refine wpListIn_store_mid rfl 68 (.tmp 7) (.tmp 14) rfl X.heap.size 0 ((shaL (streamS key x)).map bv).toArray rfl rfl HTHR.out HI41.out HONE.out ?_)
  have hno:Only (·=X.heap.size) (X.alloc (.cells (Array.replicate 32 (.int .u8 0)) 68)) ((X.alloc (.cells (Array.replicate 32 (.int .u8 0)) 68)).setCells X.heap.size 0 ((shaL (streamS key x)).map bv).toArray.toList):=only_setCells (Only.refl (·=X.heap.size) _) _ _ (.inl rfl) _
  exact HK.out _ _ ((KeepsFrom.of_grownBy (World.grownBy_alloc X _ none) (fun j e=>by cases e)).trans ((keepsOthers_of_only hno (fun k hk=>by have e' :k=X.heap.size:=hk;subst e';exact⟨_,Blk.new X _ _,rfl⟩)).from _)) ⟨(hno.block _ (by have:=HI.out.big;simp;omega) (by have:=HI.out.big;omega)).trans (Below.heap_alloc _ _ _ (by have:=HI.out.big;omega)),fun _=>((HI.out.alloc _).only hno (fun k e=>by have:=HI.out.big;have e' :k=X.heap.size:=e;omega)).tab⟩ ⟨(HI.out.alloc _).only hno (fun k e=>by have:=HI.out.big;have e' :k=X.heap.size:=e;omega),HIX.out⟩ ⟨X.heap.size,HI.out.big,(Blk.new X _ _).filled _ (by simp[shaL_len]),rfl⟩
 case body=>
  rintro rd x a' X ⟨hI,hIx⟩ ⟨Bb,hBb,hblk,rfl⟩
  have HI:=Lib.hid hI
  have HBLK:=Lib.hid hblk
  have hbox:=hI.box
  have HBOX:=Lib.hid hbox
  have hx1:(x:Int)*32≤17592186044416+32:=by omega
  have hx0:0≤(x:Int):=by omega
  have hbc:X.cell? ⟨w1.heap.size,0,none⟩=some (.slice (some ⟨g1,0,none⟩) s.size c1):=hbox.cell 0
  clear hI hblk hbox
  gi_wp2
  ·refine⟨rfl,KeepsFrom.refl _ _,x,rfl,by omega,HI.out⟩
  ·have hlt:32*x<l.length:=by have:=HSL.out;omega
   obtain⟨m,hm⟩:∃m,m=(seg l x).length :=⟨_,rfl⟩
   have hm2:m=min 32 (s.size-32*x):=by rw[hm,seg_len,HSL.out]
   have hmm:(min (((x:Int)+1)*32) (s.size:Int)).toNat -x*32=m:=by omega
   rw[hmm,Nat.mul_comm x 32]
   have hbuf:=HI.out.buf
   have hbytes:BytesAt X g1 (32*x) (seg l x):=by
    obtain⟨g',cap',hv,_,_,_,hb⟩:=hbuf.form
    simp only[Value.slice.injEq,Option.some.injEq,Addr.mk.injEq,and_true] at hv
    obtain⟨rfl,_,_⟩:=hv
    rw[←seg_out key l x]
    have:=hb.part (32*x) 32
    simpa using this
   have hlen:(xorL (shaL (streamS key x)) (seg l x)).length =m:=by rw[xorL_len,shaL_len,←hm];omega
   have hstep:=outK_step key l x hlt
   have hfit:32*x+(xorL (shaL (streamS key x)) (seg l x)).length≤(outK key l x).length :=by rw[hlen,outK_len];have:=HSL.out;omega
   have hthere:=(hbuf.mid (32*x) (xorL (shaL (streamS key x)) (seg l x)) hfit hstep).2
   rw[hlen] at hthere
   have hg0:=HT.out.lt
   refine⟨trivial,(CallsIn.inRound rd (callsIn_wide.2 (mix_any HBLK.out (shaL_len _) hm.symm (by omega) (by omega) (by unfold maxLen at hc1m⊢;omega) hbytes hthere (by omega)))).mono ?_⟩
   rintro e X2 ⟨⟨v,rfl⟩,wr,ho,rfl⟩
   have hb1:g1<w1.heap.size:=hg1b
   have h2:=ho.mono (S' :=fun k=>k=Bb∨k=g1) (fun k _ e=> .inl e)
   have h3:=only_setCells h2 g1 (32*x) (.inl (.inr rfl)) ((xorL (shaL (streamS key x)) (seg l x)).map bv)
   have hCI:=(HI.out.only ho (fun k e=>by have e' :k=Bb:=e;omega)).step (32*x) _ hfit hstep hg0
   have H3:=Lib.hid h3
   have HCI:=Lib.hid hCI
   clear hbuf hbytes hstep hfit hthere h2 h3 hCI
   gi_wp2
   refine⟨(keepsOthers_of_only H3.out (fun k hk=> ?_)).from _,⟨H3.out.block _ ?_ ?_,fun _=>HCI.out.tab⟩,HCI.out,.inr ?_⟩
   ·rcases(show k=Bb∨k=g1 from hk) with e|e
    ·subst e;exact⟨_,HBLK.out,rfl⟩
    ·subst e
     obtain⟨g',cap,cur,lo,hi,hv,hh,_⟩:=HI.out.buf
     simp only[Value.slice.injEq,Option.some.injEq,Addr.mk.injEq,and_true] at hv
     obtain⟨rfl,_⟩:=hv
     exact⟨_,hh,rfl⟩
   ·have:=HI.out.big;omega
   ·omega
   ·have:=HSL.out;simp;omega
 case stop=>
  rintro D k X hD ⟨x,rfl,hx,hI⟩ hK
  have HI:=Lib.hid hI
  have HK:=Lib.hid hK
  have hbc:X.cell? ⟨w1.heap.size,0,none⟩=some (.slice (some ⟨g1,0,none⟩) s.size c1):=hI.box.cell 0
  have hbytes:BytesAt X g1 0 (combL key l):=by
   obtain⟨g',cap',hv,_,_,_,hb⟩:=hI.buf.form
   simp only[Value.slice.injEq,Option.some.injEq,Addr.mk.injEq,and_true] at hv
   obtain⟨rfl,_,_⟩:=hv
   rw[←outK_end key l x (by have:=HSL.out;omega)]
   exact hb
  have HBY:=Lib.hid hbytes
  clear hI hK hbytes
  gi_wp2
  go_wp2_with (refine wpList_convert_back rfl 100 9 5 (.tmp 32) rfl g1 0 s.size c1 rfl (combL key l) (by rw[combL_len];exact HSL.out) HBY.out Tryz.underlying100 Tryz.underlying5 Tryz.underlying9 ?_)
  refine⟨by simp,.inl ⟨_,_,rfl,run_takeDeferred HK.out,?_⟩⟩
  rw[←EL.out]
  have hD2:w.heap.size≤D:=by have:=hD;have:=ho1.out.size;simp at hD;omega
  exact⟨_,results_tmp rfl _ _ _,⟨_,rfl,rfl,HI.out.rest.grown (grownBy_putObj' _ D _) (fun k e=>by cases e;exact .inr hD2)⟩⟩
end Go.Proofs.YtpdlbmieciabmaaGreatDoor
namespace Go.Proofs.YtpdlbmieciabmaaGreatDoor
open Go.RowKit Go.Shelf
def sealS(key:Int)(l:List UInt8):List UInt8:=shaL (checkS key l)++combL key l
theorem sealS_len(key:Int)(l:List UInt8):(sealS key l).length =32+l.length:=by rw[sealS,List.length_append,shaL_len,combL_len]
theorem sum_fits{key:Int}{s t:ByteArray}{h:List UInt8}(hs:s.size≤17592186044416)(hl:h.length=32)(ht:t.data.toList=combL key s.data.toList):¬9223372036854775807<h.length+t.size:=by
 have:t.size=s.size:=by rw[size_list,ht,combL_len,←size_list]
 omega
set_option maxRecDepth 100000 in
theorem seal_any(key:Int)(h0: -9223372036854775808≤key)(h1:key≤9223372036854775807)(s:ByteArray)(hs:s.size≤17592186044416)(w:World)(ht:Tab w):
  Calls Tryz.prog 64 #[.int .i64 key,.string s] w (RetStr (sealS key s.data.toList) w):=by
 have HT:=Lib.hid ht
 clear ht
 go_enter Tryz.func64,Tryz.ntmps64
 go_wp2_with fail
 refine(check_any key h0 h1 s hs w HT.out).mono ?_
 rintro e w1 ⟨rfl,ho1⟩
 obtain⟨h,eh⟩:∃h,h=shaL (checkS key s.data.toList):=⟨_,rfl⟩
 rw[←eh]
 have hl:h.length=32:=by rw[eh];exact shaL_len _
 have EH:=Lib.hid eh
 have hi41:(Tryz.prog.info? 68).map (·.size)=some (h.map bv).toArray.size :=by rw[List.size_toArray,List.length_map,hl];kernel_rfl
 have hone:(h.map bv).toArray.all (·.oneCell')=true:=all_oneCell_toArray (bvs_one _)
 have hthr:(w1.alloc (.cells (Array.replicate 32 (.int .u8 0)) 68)).there w1.heap.size 0 (h.map bv).toArray.size :=(Blk.new w1 _ _).there 0 _ (by rw[List.size_toArray,List.length_map,hl];simp)
 obtain⟨X,eX⟩:∃X,X=(w1.alloc (.cells (Array.replicate 32 (.int .u8 0)) 68)).setCells w1.heap.size 0 (h.map bv).toArray.toList :=⟨_,rfl⟩
 have hX:Only NoneOf w X:=by rw[eX];exact only_setCells ((Only.refl NoneOf w).trans (ho1.alloc _)) _ _ (.inr ho1.size) _
 have hby:BytesAt X w1.heap.size 0 h:=by rw[eX];exact blk_bytes (by simpa using(Blk.new w1 68 (Array.replicate 32 (.int .u8 0))).filled (h.map bv).toArray.toList (by simp[hl]))
 have hXs:w1.heap.size<X.heap.size:=by rw[eX];simp[setCells_size]
 have HI41:=Lib.hid hi41
 have HONE:=Lib.hid hone
 have HTH:=Lib.hid hthr
 have HL:=Lib.hid hl
 have HX:=Lib.hid hX
 have HBY:=Lib.hid hby
 have HXS:=Lib.hid hXs
 have HEX:=Lib.hid eX
 clear eh hl hi41 hone hthr hX hby ho1 hXs eX
 have tok1:True:=trivial
 go_wp2_with (have _t:=tok1;refine wpList_store_mid rfl 68 (.tmp 5) (.tmp 8) rfl w1.heap.size 0 (h.map bv).toArray rfl rfl HTH.out HI41.out HONE.out ?_;clear tok1 _t)
 refine wp_world HEX.out ?_
 clear HEX
 have hr0:=run_back (W:=X.drew) (cap:=32) HBY.out HL.out
 go_region_law (first
  |(go_simp;go_at_call 102;refine(combine_any key h0 h1 s hs _ (HT.out.none HX.out.drew)).mono ?_;rintro e w9 ⟨t,rfl,htl,ho9⟩;have hr9:=run_back (W:=w9) (cap:=32) (BytesAt.only (S:=NoneOf) (w:=X.drew) HBY.out ho9 (fun h=>h)) HL.out;have hz9:¬9223372036854775807<h.length+t.size:=sum_fits hs HL.out htl;have HTL:=Lib.hid htl;have HO9:=Lib.hid ho9;clear htl ho9))
 all_goals
  go_wp2_with fail
  go_ret
  refine⟨_,rfl,?_,HX.out.drew.trans HO9.out⟩
  rw[append_list,HTL.out,sealS,EH.out]
end Go.Proofs.YtpdlbmieciabmaaGreatDoor
namespace Go.Proofs.YtpdlbmieciabmaaGreatDoor
open Go.RowKit Go.Shelf
def openS(key:Int)(l:List UInt8):List UInt8×Bool:=
 if l.length<32 then([],false) else if shaL (checkS key (combL key (l.drop 32)))=l.take 32 then(combL key (l.drop 32),true) else([],false)
def RetOpen(r:List UInt8×Bool)(w:World)(e:Ending)(w' :World):Prop:=∃t:ByteArray,e= .returned (.tuple #[.string t,.bool r.2])∧t.data.toList=r.1∧Only NoneOf w w'
theorem openS_short{key:Int}{l:List UInt8}(h:l.length<32):openS key l=([],false):=by rw[openS,if_pos h]
theorem openS_good{key:Int}{l:List UInt8}(h:32≤l.length)(hc:shaL (checkS key (combL key (l.drop 32)))=l.take 32):openS key l=(combL key (l.drop 32),true):=by rw[openS,if_neg (by omega),if_pos hc]
end Go.Proofs.YtpdlbmieciabmaaGreatDoor
