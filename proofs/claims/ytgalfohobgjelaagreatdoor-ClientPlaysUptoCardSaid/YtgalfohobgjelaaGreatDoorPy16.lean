/- What is proved here: a part of the proof that 'probitylaw31.ClientPlays' answers true. Conditions: each theorem's own. -/
import Derived.Test.YtgalfohobgjelaaGreatDoorPy15
set_option maxRecDepth 100000
set_option maxHeartbeats 8000000
namespace Go.Proofs.YtgalfohobgjelaaGreatDoor
section
open Go.RowKit
def HlR(n j k:Nat):Prop:=j≤25∧k=2^j∧Ωh n=Ωdh (64-j) n k∧(k<n∨k=1)
theorem HlR.zero(n:Nat):HlR n 0 1:=⟨by omega,rfl,rfl,.inr rfl⟩
theorem HlR.done{n j k:Nat}(h:HlR n j k)(hk:n≤2*k):Ωh n=k:=by
 obtain⟨h1,_,h3,_⟩:=h
 rw[h3,show 64-j=(63-j)+1 by omega]
 unfold Ωdh
 rw[ΩnV hk]
theorem HlR.next{n j k:Nat}(h:HlR n j k)(hn:n≤1000000)(hk:¬n≤2*k):HlR n (j+1) (k*2):=by
 obtain⟨h1,h2,h3,h4⟩:=h
 have hj:j<20:=by
  rcases Nat.lt_or_ge j 20 with hj|hj
  ·exact hj
  ·exfalso
   have:2^20≤2^j:=Nat.pow_le_pow_right (by omega) hj
   have e:(2:Nat)^20=1048576:=by decide
   omega
 refine⟨by omega,by rw[h2,Nat.pow_succ],?_,.inl (by omega)⟩
 rw[h3,show 64-j=(64-(j+1))+1 by omega]
 rw[show Ωdh (64-(j+1)+1) n k=if n≤2*k then k else Ωdh (64-(j+1)) n (2*k) from rfl,ΩnU hk,Nat.mul_comm]
theorem HlR.small{n j k:Nat}(h:HlR n j k)(hn:n≤1000000):1≤k∧k≤1000000:=by
 obtain⟨_,h2,_,h4⟩:=h
 have:0<k:=by rw[h2];exact Nat.two_pow_pos j
 omega
theorem ΩkL(n:Nat)(h1:1≤n)(hn:n≤1000000)(w:World):Calls Tryz.prog 83 #[.int .i64 (n:Int)] w fun e w' =>e= .returned (.int .i64 (Ωh n:Int))∧w' =w:=by
 go_enter Tryz.func83,Tryz.ntmps83
 go_wp2_with fail
 go_loopw [3,4] (fun kv iv wr=>∃j k:Nat,kv= .int .i64 (k:Int)∧iv= .int .i64 (j:Int)∧HlR n j k∧wr=w) (fun _ iv _=>63-(intOf iv).toNat)
 case atStart=>exact⟨0,1,rfl,rfl,HlR.zero n,rfl⟩
 case round=>
  obtain⟨j,k,rfl,rfl,hR,rfl⟩:=hrel
  have hs:=hR.small hn
  have hj:j≤25:=hR.1
  have HR:=Θ hR
  clear hR
  have ij:(j:Int)<63:=by omega
  by_cases hk:n≤2*k
  ·have hc:decide ((n:Int)-(k:Int)≤(k:Int))=true:=ΩnG (by omega)
   have hd:=HR.out.done hk
   have HD:=Θ hd
   clear hd hk
   go_wp2_with fail
   go_ret
   exact⟨ΩB (by rw[HD.out]),rfl⟩
  ·have hc:decide ((n:Int)-(k:Int)≤(k:Int))=false:=Ωny (by omega)
   have HN:=Θ (HR.out.next hn hk)
   clear hk
   go_wp2_with fail
   go_roundw
   case rel=>exact⟨j+1,k*2,by go_num,by go_num,HN.out,trivial⟩
   case measure=>simp[intOf];omega
theorem Ωb1(n:Nat)(h1:1≤n)(hn:n≤1000000)(w:World):Calls Tryz.prog 60 #[.int .i64 (n:Int)] w fun e w' =>e= .returned (.int .i64 (Ωh n:Int))∧w' =w:=by
 go_enter Tryz.func60,Tryz.ntmps60
 go_wp2_with fail
 go_loopw [3] (fun kv wr=>∃j k:Nat,kv= .int .i64 (k:Int)∧HlR n j k∧wr=w) (fun kv _=>2000000-(intOf kv).toNat)
 case atStart=>exact⟨0,1,rfl,HlR.zero n,rfl⟩
 case round=>
  obtain⟨j,k,rfl,hR,rfl⟩:=hrel
  have hs:=hR.small hn
  have HR:=Θ hR
  clear hR
  by_cases hk:n≤2*k
  ·have hc:decide ((k:Int)<(n:Int)-(k:Int))=false:=Ωny (by omega)
   have HD:=Θ (HR.out.done hk)
   clear hk
   go_wp2_with fail
   go_ret
   exact⟨ΩB (by rw[HD.out]),rfl⟩
  ·have hc:decide ((k:Int)<(n:Int)-(k:Int))=true:=ΩnG (by omega)
   have HN:=Θ (HR.out.next hn hk)
   clear hk
   go_wp2_with fail
   go_roundw
   case rel=>exact⟨j+1,k*2,by go_num,HN.out,trivial⟩
   case measure=>simp[intOf];omega
end
section
open Go.RowKit Go.Shelf
theorem Ωh0{W:World}{g n cap:Nat}{l:List UInt8}(hb:ΩI W g 0 l)(hl:l.length=n):(convert 22 9 (.slice (some ⟨g,0,none⟩) n cap)).run Tryz.prog W= .ok (.string ⟨l.toArray⟩) W:=by
 subst hl
 exact run_convert_bytes_back (P:=Tryz.prog) W 22 9 5 ⟨g,0,none⟩ cap l Tryz.underlying22 Tryz.underlying5 Tryz.underlying9 (fun j hj=>by
  rw[ΩoK]
  exact hb j _ (Ωnu hj))
def ΩL(v:Value):Sem Value:=Instr.loadAt 35 v
theorem ΩaB(v:Value):Instr.loadAt 35 v=ΩL v:=rfl
def ΩaS(p v:Value):Sem Unit:=Instr.storeAt 35 p v
theorem ΩaF(p v:Value):Instr.storeAt 35 p v=ΩaS p v:=rfl
abbrev tHa:TypeId:=35
def HaAt(w:World)(B:Nat)(l:Hs):Prop:=Blk w B tHa (l.map bv).toArray
def Ωr:Hs:=List.replicate 32 0
theorem ΩaL:(Ωr.map bv).toArray =Array.replicate 32 (.int .u8 0):=by
 rw[Ωr,List.map_replicate,List.toArray_replicate]
 rfl
theorem Ωp{W:World}{g o:Nat}{l:Hs}(h:W.rangeAt g o (l.map bv))(hl:l.length=32):(ΩL (.pointer (some ⟨g,o,none⟩))).run Tryz.prog W= .ok (hv l) W:=
 ΩoG W g o 35 (l.map bv) _ h Tryz.underlying35 rfl (by rw[ΩnN,hl];kernel_rfl)
theorem ΩK{W:World}{g:Nat}{l m:Hs}(h:HaAt W g l)(hl:l.length=32)(hm:m.length=32):(ΩaS (.pointer (some ⟨g,0,none⟩)) (hv m)).run Tryz.prog W= .ok () (W.setCells g 0 (m.map bv)):=
 run_storeAt_mid (P:=Tryz.prog) W g 0 35 (m.map bv).toArray (Blk.there h 0 _ (by simp[hl,hm])) (by rw[ΩnJ,ΩnN,hm];kernel_rfl) (all_oneCell_toArray (Ωck _))
theorem HaAt.range{W:World}{g:Nat}{l:Hs}(h:HaAt W g l):W.rangeAt g 0 (l.map bv):=fun j v hj=>by rw[ΩnR,Blk.cell h];simpa using hj
theorem HaAt.bytes{W:World}{g:Nat}{l:Hs}(h:HaAt W g l):ΩI W g 0 l:=fun j x hx=>by rw[ΩnR,Blk.cell h];simp[hx]
theorem HaAt.put{W:World}{g:Nat}{l m:Hs}(h:HaAt W g l)(hl:l.length=32)(hm:m.length=32):HaAt (W.setCells g 0 (m.map bv)) g m:=by
 have h1:Blk W g tHa (l.map bv).toArray :=h
 exact h1.filled (m.map bv) (by rw[ΩnN,ΩnN,hl,hm])
theorem ΩeE(s:List UInt8):(ΩfD s).length =32:=ΩaX _
theorem Ωa3(a b:Hs):(Ωbf a b).length =32:=ΩaX _
theorem Ωa0{l:Hs}(hl:l.length=32):(Tryz.prog.info? 35).map (·.size)=some (l.map bv).toArray.size :=by rw[ΩnJ,ΩnN,hl];kernel_rfl
structure NdS(w:World)(B:Nat)(a b:Hs)(W:World):Prop where
 a:HaAt W B a
 b:HaAt W (B+1) b
 r:HaAt W (B+1+1) Ωr
 only:Only Ωa w W
theorem NdS.keep{w:World}{B:Nat}{a b:Hs}{W W' :World}(h:NdS w B a b W)(ho:Only Ωa W W'):NdS w B a b W' :=
 ⟨Blk.only h.a ho (fun e=>e),Blk.only h.b ho (fun e=>e),Blk.only h.r ho (fun e=>e),h.only.trans ho⟩
theorem NdS.new(w:World)(a b:Hs):NdS w w.heap.size a b (((w.alloc (.cells (a.map bv).toArray 35)).alloc (.cells (b.map bv).toArray 35)).alloc (.cells (Array.replicate 32 (.int .u8 0)) 35)):=by
 have h2:=Blk.new (w.alloc (.cells (a.map bv).toArray 35)) tHa (b.map bv).toArray
 have h3:=Blk.new ((w.alloc (.cells (a.map bv).toArray 35)).alloc (.cells (b.map bv).toArray 35)) tHa (Array.replicate 32 (.int .u8 0))
 rw[Ωnw] at h2
 rw[Ωnw,Ωnw] at h3
 refine⟨((Blk.new w _ _).alloc _).alloc _,h2.alloc _,?_,(((Only.refl _ _).alloc _).alloc _).alloc _⟩
 unfold HaAt
 rw[ΩaL]
 exact h3
attribute [local go_sem ↓ high] ΩaB ΩaF
theorem tleaf_any(s:ByteArray)(w:World)(hs:s.size≤17592186044416):Calls Tryz.prog 106 #[.string s] w fun e w' =>e= .returned (hv (ΩfD s.data.toList))∧Only Ωa w w' :=by
 obtain⟨T,eT⟩:∃T:ByteArray,T=⟨#[0]⟩++s:=⟨_,rfl⟩
 have hT:T.data.toList=0::s.data.toList:=by rw[eT,ΩnP,ΩnQ];rfl
 have hTs:T.size=1+s.size:=by rw[eT,Ωn5];rfl
 have q1:¬9223372036854775807<1+s.size:=by omega
 obtain⟨m,em⟩:∃m,m=ΩfD s.data.toList:=⟨_,rfl⟩
 have hm:m.length=32:=by rw[em];exact ΩeE _
 have hsum:∀W,Calls Tryz.prog 80 #[.string T] W fun e w' =>e= .returned (hv m)∧Only Ωa W w' :=fun W=>by
  have h:=Ωgd T W (by omega)
  rw[hT] at h
  rw[em];exact h
 rw[←em]
 have hcat:=eT.symm
 have hb0:HaAt (w.alloc (.cells (Array.replicate 32 (.int .u8 0)) 35)) w.heap.size Ωr:=by
  unfold HaAt
  rw[ΩaL]
  exact Blk.new w _ _
 obtain⟨B,eB⟩:∃B,B=w.heap.size:=⟨_,rfl⟩
 rw[←eB] at hb0
 have HB0:=Θ hb0
 have EB:=Θ eB
 have HSUM:=Θ hsum
 have HM:=Θ hm
 clear hsum em hT hTs eT hm hb0 eB hs
 go_enter Tryz.func106,Tryz.ntmps106
 go_upto_region 1 with(fail)
 rw[←EB.out]
 refine Ωf (fun Z=>HaAt Z B Ωr∧Only Ωa w Z) ⟨HB0.out,(Only.refl _ _).alloc _⟩ ?_
 rintro Z ⟨hz,hzo⟩
 have HZ:=Θ (And.intro hz hzo)
 clear hz hzo HB0
 go_wp2_with fail
 refine(HSUM.out _).mono ?_
 rintro e1 w1 ⟨rfl,ho1⟩
 have hb1:HaAt w1 B Ωr:=Blk.only HZ.out.1 ho1 (fun e=>e)
 have hst:=ΩK hb1 rfl HM.out
 have HB2:=Θ (hb1.put rfl HM.out)
 have HO2:=Θ (Ωb (HZ.out.2.trans ho1) B 0 (.inr (by have:=EB.out;omega)) (m.map bv))
 clear hb1 ho1
 go_wp2_with fail
 refine bodyPost_ret (v:=hv m) (Ωn rfl rfl HB2.out Tryz.underlying35 rfl (Ωa0 HM.out)) rfl ⟨rfl,HO2.out⟩
theorem Ωc5(a b:Hs)(ha:a.length=32)(hb:b.length=32)(w:World):Calls Tryz.prog 84 #[hv a,hv b] w fun e w' =>e= .returned (hv (Ωbf a b))∧Only Ωa w w' :=by
 obtain⟨SA,eSA⟩:∃A:ByteArray,A=⟨a.toArray⟩:=⟨_,rfl⟩
 obtain⟨SB,eSB⟩:∃A:ByteArray,A=⟨b.toArray⟩:=⟨_,rfl⟩
 have zA:SA.size=32:=by rw[Ωc,eSA];simpa using ha
 have zB:SB.size=32:=by rw[Ωc,eSB];simpa using hb
 obtain⟨T,eT⟩:∃T:ByteArray,T=⟨#[1]⟩++SA++SB:=⟨_,rfl⟩
 have hT:T.data.toList=1::(a++b):=by rw[eT,eSA,eSB];simp
 have hTs:T.size=65:=by rw[eT,Ωn5,Ωn5,zA,zB];rfl
 have q1:¬9223372036854775807<1+SA.size:=by omega
 have q2:¬9223372036854775807<1+SA.size+SB.size:=by omega
 obtain⟨m,em⟩:∃m,m=Ωbf a b:=⟨_,rfl⟩
 have hm:m.length=32:=by rw[em];exact Ωa3 _ _
 have hsum:∀W,Calls Tryz.prog 80 #[.string T] W fun e w' =>e= .returned (hv m)∧Only Ωa W w' :=fun W=>by
  have h:=Ωgd T W (by omega)
  rw[hT] at h
  rw[em];exact h
 rw[←em]
 have hcat:=eT.symm
 obtain⟨B,eB⟩:∃B,B=w.heap.size:=⟨_,rfl⟩
 have hS0:=NdS.new w a b
 rw[←eB] at hS0
 have HS0:=Θ hS0
 have EB:=Θ eB
 have HSUM:=Θ hsum
 have HM:=Θ hm
 have HAB:=Θ (And.intro ha hb)
 have ESA:=Θ eSA
 have ESB:=Θ eSB
 clear hsum em hT hTs eT hm hS0 eB ha hb eSA eSB zA zB
 unfold hv
 go_enter Tryz.func84,Tryz.ntmps84
 go_upto_region 1 with(fail)
 rw[←EB.out]
 refine Ωf (NdS w B a b) HS0.out ?_
 intro Z hZ
 obtain⟨f,hfx⟩:=Ωbp (NdS w B a b) (hZ.keep (Only.refl _ _).drew)
 obtain⟨F,hI,hF0,hF,hFS⟩:=hfx
 have C1:Hid (∀x,Calls Tryz.prog 80 #[.string T] (F x) fun e w' =>e= .returned (hv m)∧∃y,w' =F y):=Θ (fun x=>(HSUM.out (F x)).mono (fun e w' hh=>⟨hh.1,(hF w').1 ((hFS x).keep hh.2)⟩))
 have m1:∀x,(convert 22 9 (.slice (some ⟨B,0,none⟩) 32 32)).run Tryz.prog (F x)= .ok (.string SA) (F x):=fun x=>by rw[ESA.out];exact Ωh0 (hFS x).a.bytes HAB.out.1
 have m2:∀x,(convert 22 9 (.slice (some ⟨B+1,0,none⟩) 32 32)).run Tryz.prog (F x)= .ok (.string SB) (F x):=fun x=>by rw[ESB.out];exact Ωh0 (hFS x).b.bytes HAB.out.2
 have HF:=Θ hF
 have HF0:=Θ hF0
 clear hF hF0 hFS hZ HS0 HSUM
 refine Ωs F 7 (by kernel_rfl) (by kernel_rfl) HF0.out ?_
 simp only[Ωoc,Ωoz,Ωon,List.drop_zero]
 repeat(go_big_quiet_step (with_reducible exact C1.out _))
 refine wpQuiet_nil ?_
 intro w9 hw9
 have hS9:=(HF.out w9).2 hw9
 have hst:=ΩK hS9.r rfl HM.out
 have HB2:=Θ (hS9.r.put rfl HM.out)
 have HO2:=Θ (Ωb hS9.only (B+1+1) 0 (.inr (by have:=EB.out;omega)) (m.map bv))
 clear hw9 hS9 m1 m2
 go_wp2_with fail
 refine bodyPost_ret (v:=hv m) (Ωn rfl rfl HB2.out Tryz.underlying35 rfl (Ωa0 HM.out)) rfl ⟨rfl,HO2.out⟩
theorem ΩiZ(s:ByteArray)(w:World)(hs:s.size≤17592186044416):Calls Tryz.prog 72 #[.string s] w fun e w' =>e= .returned (hv (ΩfD s.data.toList))∧Only Ωa w w' :=by
 obtain⟨T,eT⟩:∃T:ByteArray,T=⟨#[0]⟩++s:=⟨_,rfl⟩
 have hT:T.data.toList=0::s.data.toList:=by rw[eT,ΩnP,ΩnQ];rfl
 have hTs:T.size=1+s.size:=by rw[eT,Ωn5];rfl
 have q1:¬9223372036854775807<1+s.size:=by omega
 obtain⟨m,em⟩:∃m,m=ΩfD s.data.toList:=⟨_,rfl⟩
 have hm:m.length=32:=by rw[em];exact ΩeE _
 have hsum:∀W,Calls Tryz.prog 71 #[.string T] W fun e w' =>e= .returned (hv m)∧Only Ωa W w' :=fun W=>by
  have h:=Ωdx T W (by omega)
  rw[hT] at h
  rw[em];exact h
 rw[←em]
 have hcat:=eT.symm
 have hb0:HaAt (w.alloc (.cells (Array.replicate 32 (.int .u8 0)) 35)) w.heap.size Ωr:=by
  unfold HaAt
  rw[ΩaL]
  exact Blk.new w _ _
 obtain⟨B,eB⟩:∃B,B=w.heap.size:=⟨_,rfl⟩
 rw[←eB] at hb0
 have HB0:=Θ hb0
 have EB:=Θ eB
 have HSUM:=Θ hsum
 have HM:=Θ hm
 clear hsum em hT hTs eT hm hb0 eB hs
 go_enter Tryz.func72,Tryz.ntmps72
 go_upto_region 1 with(fail)
 rw[←EB.out]
 refine Ωf (fun Z=>HaAt Z B Ωr∧Only Ωa w Z) ⟨HB0.out,(Only.refl _ _).alloc _⟩ ?_
 rintro Z ⟨hz,hzo⟩
 have HZ:=Θ (And.intro hz hzo)
 clear hz hzo HB0
 go_wp2_with fail
 refine(HSUM.out _).mono ?_
 rintro e1 w1 ⟨rfl,ho1⟩
 have hb1:HaAt w1 B Ωr:=Blk.only HZ.out.1 ho1 (fun e=>e)
 have hst:=ΩK hb1 rfl HM.out
 have HB2:=Θ (hb1.put rfl HM.out)
 have HO2:=Θ (Ωb (HZ.out.2.trans ho1) B 0 (.inr (by have:=EB.out;omega)) (m.map bv))
 clear hb1 ho1
 go_wp2_with fail
 refine bodyPost_ret (v:=hv m) (Ωn rfl rfl HB2.out Tryz.underlying35 rfl (Ωa0 HM.out)) rfl ⟨rfl,HO2.out⟩
theorem Ωcp(a b:Hs)(ha:a.length=32)(hb:b.length=32)(w:World):Calls Tryz.prog 73 #[hv a,hv b] w fun e w' =>e= .returned (hv (Ωbf a b))∧Only Ωa w w' :=by
 obtain⟨SA,eSA⟩:∃A:ByteArray,A=⟨a.toArray⟩:=⟨_,rfl⟩
 obtain⟨SB,eSB⟩:∃A:ByteArray,A=⟨b.toArray⟩:=⟨_,rfl⟩
 have zA:SA.size=32:=by rw[Ωc,eSA];simpa using ha
 have zB:SB.size=32:=by rw[Ωc,eSB];simpa using hb
 obtain⟨T,eT⟩:∃T:ByteArray,T=⟨#[1]⟩++SA++SB:=⟨_,rfl⟩
 have hT:T.data.toList=1::(a++b):=by rw[eT,eSA,eSB];simp
 have hTs:T.size=65:=by rw[eT,Ωn5,Ωn5,zA,zB];rfl
 have q1:¬9223372036854775807<1+SA.size:=by omega
 have q2:¬9223372036854775807<1+SA.size+SB.size:=by omega
 obtain⟨m,em⟩:∃m,m=Ωbf a b:=⟨_,rfl⟩
 have hm:m.length=32:=by rw[em];exact Ωa3 _ _
 have hsum:∀W,Calls Tryz.prog 71 #[.string T] W fun e w' =>e= .returned (hv m)∧Only Ωa W w' :=fun W=>by
  have h:=Ωdx T W (by omega)
  rw[hT] at h
  rw[em];exact h
 rw[←em]
 have hcat:=eT.symm
 obtain⟨B,eB⟩:∃B,B=w.heap.size:=⟨_,rfl⟩
 have hS0:=NdS.new w a b
 rw[←eB] at hS0
 have HS0:=Θ hS0
 have EB:=Θ eB
 have HSUM:=Θ hsum
 have HM:=Θ hm
 have HAB:=Θ (And.intro ha hb)
 have ESA:=Θ eSA
 have ESB:=Θ eSB
 clear hsum em hT hTs eT hm hS0 eB ha hb eSA eSB zA zB
 unfold hv
 go_enter Tryz.func73,Tryz.ntmps73
 go_upto_region 1 with(fail)
 rw[←EB.out]
 refine Ωf (NdS w B a b) HS0.out ?_
 intro Z hZ
 obtain⟨f,hfx⟩:=Ωbp (NdS w B a b) (hZ.keep (Only.refl _ _).drew)
 obtain⟨F,hI,hF0,hF,hFS⟩:=hfx
 have C1:Hid (∀x,Calls Tryz.prog 71 #[.string T] (F x) fun e w' =>e= .returned (hv m)∧∃y,w' =F y):=Θ (fun x=>(HSUM.out (F x)).mono (fun e w' hh=>⟨hh.1,(hF w').1 ((hFS x).keep hh.2)⟩))
 have m1:∀x,(convert 22 9 (.slice (some ⟨B,0,none⟩) 32 32)).run Tryz.prog (F x)= .ok (.string SA) (F x):=fun x=>by rw[ESA.out];exact Ωh0 (hFS x).a.bytes HAB.out.1
 have m2:∀x,(convert 22 9 (.slice (some ⟨B+1,0,none⟩) 32 32)).run Tryz.prog (F x)= .ok (.string SB) (F x):=fun x=>by rw[ESB.out];exact Ωh0 (hFS x).b.bytes HAB.out.2
 have HF:=Θ hF
 have HF0:=Θ hF0
 clear hF hF0 hFS hZ HS0 HSUM
 refine Ωs F 7 (by kernel_rfl) (by kernel_rfl) HF0.out ?_
 simp only[Ωoc,Ωoz,Ωon,List.drop_zero]
 repeat(go_big_quiet_step (with_reducible exact C1.out _))
 refine wpQuiet_nil ?_
 intro w9 hw9
 have hS9:=(HF.out w9).2 hw9
 have hst:=ΩK hS9.r rfl HM.out
 have HB2:=Θ (hS9.r.put rfl HM.out)
 have HO2:=Θ (Ωb hS9.only (B+1+1) 0 (.inr (by have:=EB.out;omega)) (m.map bv))
 clear hw9 hS9 m1 m2
 go_wp2_with fail
 refine bodyPost_ret (v:=hv m) (Ωn rfl rfl HB2.out Tryz.underlying35 rfl (Ωa0 HM.out)) rfl ⟨rfl,HO2.out⟩
end
section
open Go.RowKit Go.Shelf
attribute [local go_sem ↓ high] ΩaB ΩaF
def StSl(w:World)(v:Value)(L:List ByteArray):Prop:=
 ∃A cap,v= .slice A L.length cap∧L.length≤cap∧cap≤9223372036854775807∧∀(i:Nat) (s:ByteArray),L[i]? =some s→∃g o,A=some ⟨g,o,none⟩∧w.cell? ⟨g,o+i,none⟩=some (.string s)
theorem StSl.only{w w' :World}{v:Value}{L:List ByteArray}(h:StSl w v L)(ho:Only Ωa w w'):StSl w' v L:=by
 obtain⟨A,cap,hv,h1,h2,h3⟩:=h
 refine⟨A,cap,hv,h1,h2,fun i s hs=> ?_⟩
 obtain⟨g,o,hA,hc⟩:=h3 i s hs
 exact⟨g,o,hA,ho.cell_some hc (fun e=>e)⟩
theorem StSl.nil(w:World):StSl w (.slice none 0 0) []:=⟨none,0,rfl,Ωnv _,by omega,fun i s h=>by simp at h⟩
theorem StSl.take{w:World}{g o n cap k:Nat}{L:List ByteArray}(h:StSl w (.slice (some ⟨g,o,none⟩) n cap) L)(hk:k≤L.length):StSl w (.slice (some ⟨g,o,none⟩) k cap) (L.take k):=by
 obtain⟨A,cap',e,h1,h2,h3⟩:=h
 simp only[Value.slice.injEq] at e
 obtain⟨rfl,rfl,rfl⟩:=e
 refine⟨some ⟨g,o,none⟩,cap,by rw[ΩnB,Nat.min_eq_left hk],by rw[ΩnB];omega,h2,fun i s hs=> ?_⟩
 obtain⟨g',o',e,hc⟩:=h3 i s (by
  rw[ΩoC] at hs
  split at hs
  ·exact hs
  ·cases hs)
 exact⟨g',o',e,hc⟩
theorem StSl.drop{w:World}{g o n cap k:Nat}{L:List ByteArray}(h:StSl w (.slice (some ⟨g,o,none⟩) n cap) L)(hk:k≤L.length):StSl w (.slice (some ⟨g,o+k,none⟩) (L.length-k) (cap-k)) (L.drop k):=by
 obtain⟨A,cap',e,h1,h2,h3⟩:=h
 simp only[Value.slice.injEq] at e
 obtain⟨rfl,rfl,rfl⟩:=e
 refine⟨some ⟨g,o+k,none⟩,cap-k,by rw[Ωn4],by rw[Ωn4];omega,by omega,fun i s hs=> ?_⟩
 rw[List.getElem?_drop] at hs
 obtain⟨g',o',e,hc⟩:=h3 (k+i) s hs
 simp only[Option.some.injEq,Addr.mk.injEq,and_true] at e
 obtain⟨rfl,rfl⟩:=e
 exact⟨g,o+k,rfl,by rw[Nat.add_assoc];exact hc⟩
def txs(L:List ByteArray):List (List UInt8):=L.map (·.data.toList)
theorem Ωb0(L:List ByteArray):(txs L).length =L.length:=ΩnN _
def Ωb7(L:List ByteArray):Prop:=∀s∈L,s.size≤17592186044416
structure RtS(w:World)(B:Nat)(v:Value)(L:List ByteArray)(W:World):Prop where
 l:StSl W v L
 r:HaAt W B Ωr
 only:Only Ωa w W
theorem RtS.keep{w:World}{B:Nat}{v:Value}{L:List ByteArray}{W W' :World}(h:RtS w B v L W)(ho:Only Ωa W W'):RtS w B v L W' :=⟨h.l.only ho,Blk.only h.r ho (fun e=>e),h.only.trans ho⟩
theorem RtS.new{w:World}{v:Value}{L:List ByteArray}(h:StSl w v L):RtS w w.heap.size v L (w.alloc (.cells (Array.replicate 32 (.int .u8 0)) 35)):=by
 refine⟨h.only ((Only.refl _ _).alloc _),?_,(Only.refl _ _).alloc _⟩
 unfold HaAt
 rw[ΩaL]
 exact Blk.new w _ _
theorem ΩF(l:List (List UInt8)):(ΩN l).length =32:=by
 have:∀f l,(Ωhi f l).length =32:=fun f=>by
  induction f with
  |zero=>intro l;exact ΩaX _
  |succ f ih=>
   intro l
   match l with
   |[]=>exact ΩaX _
   |[x]=>exact ΩaX _
   |x::y::l=>exact ΩaX _
 exact this _ _
theorem Ωbi:∀(f:Nat) (L:List ByteArray) (_:L.length≤f) (_:L.length≤1000) (_:Ωb7 L) (v:Value) (w:World) (_:StSl w v L),Calls Tryz.prog 42 #[v] w fun e w' =>e= .returned (hv (ΩN (txs L)))∧Only Ωa w w'
 |f,L,hf,hm,hsh,v,w,hs=>by
  obtain⟨m,em⟩:∃m,m=ΩN (txs L):=⟨_,rfl⟩
  have hml:m.length=32:=by rw[em];exact ΩF _
  rw[←em]
  obtain⟨A,cap,rfl,hlc,hcm,hA⟩:=id hs
  have hS0:=RtS.new hs
  obtain⟨B,eB⟩:∃B,B=w.heap.size:=⟨_,rfl⟩
  rw[←eB] at hS0
  have HS0:=Θ hS0
  have EB:=Θ eB
  have EM:=Θ em
  have HML:=Θ hml
  have HSH:=Θ hsh
  by_cases h0:L.length=0
  ·have hL:L=[]:=ΩnZ h0
   subst hL
   have hsum:∀W,Calls Tryz.prog 71 #[.string ⟨#[]⟩] W fun e w' =>e= .returned (hv m)∧Only Ωa W w' :=fun W=>by
    rw[em];exact Ωdx ⟨#[]⟩ W (by decide)
   have HSUM:=Θ hsum
   clear hsum em hml hsh hs hA hS0 eB h0 hf hm
   go_enter Tryz.func42,Tryz.ntmps42
   go_upto_region 1 with(fail)
   rw[←EB.out]
   refine Ωf (RtS w B (.slice A [].length cap) []) HS0.out ?_
   intro Z hZ
   have HZ:=Θ hZ
   clear hZ HS0
   go_wp2_with fail
   refine(HSUM.out _).mono ?_
   rintro e1 w1 ⟨rfl,ho1⟩
   have hb1:=HZ.out.keep ho1
   have hst:=ΩK hb1.r rfl HML.out
   have HB2:=Θ (hb1.r.put rfl HML.out)
   have HO2:=Θ (Ωb hb1.only B 0 (.inr (by have:=EB.out;omega)) (m.map bv))
   clear hb1 ho1
   go_wp2_with fail
   refine bodyPost_ret (v:=hv m) (Ωn rfl rfl HB2.out Tryz.underlying35 rfl (Ωa0 HML.out)) rfl ⟨rfl,HO2.out⟩
  ·have d0:((L.length:Int)==0)=false:=by rw[ΩnL];omega
   obtain⟨s0,hs0⟩:∃s,L[0]? =some s:=⟨_,Ωnu (by omega)⟩
   obtain⟨g,o,rfl,hc0⟩:=hA 0 s0 hs0
   by_cases h1:L.length=1
   ·have hL:L=[s0]:=by
     match L,h1,hs0 with
     |[x],_,h=>simp at h;rw[h]
    have d1:((L.length:Int)==1)=true:=by simp[h1]
    have il:(0:Int)<(L.length:Int):=by omega
    have hleaf:∀W,Calls Tryz.prog 72 #[.string s0] W fun e w' =>e= .returned (hv m)∧Only Ωa W w' :=fun W=>by
     have h:=ΩiZ s0 W (hsh s0 (ΩnE hs0))
     rw[em,hL];exact h
    have HLEAF:=Θ hleaf
    have HC0:=Θ hc0
    clear hleaf em hml hsh hs hA hS0 eB h0 hf hm hs0 hc0 hL h1
    go_enter Tryz.func42,Tryz.ntmps42
    go_upto_region 1 with(fail)
    rw[←EB.out]
    refine Ωf (RtS w B (.slice (some ⟨g,o,none⟩) L.length cap) L) HS0.out ?_
    intro Z hZ
    have c0:Z.cell? ⟨g,o,none⟩=some (.string s0):=hZ.only.cell_some HC0.out (fun e=>e)
    have HZ:=Θ hZ
    clear hZ HS0
    go_wp2_with fail
    refine(HLEAF.out _).mono ?_
    rintro e1 w1 ⟨rfl,ho1⟩
    have hb1:=HZ.out.keep ho1
    have hst:=ΩK hb1.r rfl HML.out
    have HB2:=Θ (hb1.r.put rfl HML.out)
    have HO2:=Θ (Ωb hb1.only B 0 (.inr (by have:=EB.out;omega)) (m.map bv))
    clear hb1 ho1 c0
    go_wp2_with fail
    refine bodyPost_ret (v:=hv m) (Ωn rfl rfl HB2.out Tryz.underlying35 rfl (Ωa0 HML.out)) rfl ⟨rfl,HO2.out⟩
   ·have d1:((L.length:Int)==1)=false:=by rw[ΩnL];omega
    have hsp:=Ω3 (n:=L.length) (by omega) (by omega)
    obtain⟨k,ek⟩:∃k,k=Ωh L.length:=⟨_,rfl⟩
    rw[←ek] at hsp
    obtain⟨f',rfl⟩:∃f',f=f' +1:=⟨f-1,by omega⟩
    obtain⟨a,ea⟩:∃a,a=ΩN (txs (L.take k)):=⟨_,rfl⟩
    obtain⟨b,eb⟩:∃b,b=ΩN (txs (L.drop k)):=⟨_,rfl⟩
    have hab:m=Ωbf a b:=by
     rw[em,Ωda (l:=txs L) (by rw[Ωb0];omega) (by rw[Ωb0];omega),Ωb0,←ek,ea,eb]
     unfold txs
     rw[List.map_take,List.map_drop]
    have hhalf:∀W,Calls Tryz.prog 60 #[.int .i64 (L.length:Int)] W fun e w' =>e= .returned (.int .i64 (k:Int))∧w' =W:=fun W=>by rw[ek];exact Ωb1 L.length (by omega) (by omega) W
    have r1:∀W,StSl W (.slice (some ⟨g,o,none⟩) L.length cap) L→Calls Tryz.prog 42 #[.slice (some ⟨g,o,none⟩) k cap] W fun e w' =>e= .returned (hv a)∧Only Ωa W w' :=fun W h=>by
     rw[ea]
     exact Ωbi f' (L.take k) (by rw[ΩnB];omega) (by rw[ΩnB];omega) (fun s h=>hsh s (ΩnY h)) _ W (h.take (by omega))
    have r2:∀W,StSl W (.slice (some ⟨g,o,none⟩) L.length cap) L→Calls Tryz.prog 42 #[.slice (some ⟨g,o+k,none⟩) (L.length-k) (cap-k)] W fun e w' =>e= .returned (hv b)∧Only Ωa W w' :=fun W h=>by
     rw[eb]
     exact Ωbi f' (L.drop k) (by rw[Ωn4];omega) (by rw[Ωn4];omega) (fun s h=>hsh s (Ωor h)) _ W (h.drop (by omega))
    have r3:∀W,Calls Tryz.prog 73 #[hv a,hv b] W fun e w' =>e= .returned (hv m)∧Only Ωa W w' :=fun W=>by rw[hab];exact Ωcp a b (by rw[ea];exact ΩF _) (by rw[eb];exact ΩF _) W
    have HH:=Θ hhalf
    have R1:=Θ r1
    have R2:=Θ r2
    have R3:=Θ r3
    have ik0:(0:Int)≤(k:Int):=by omega
    have ik1:(k:Int)≤(cap:Int):=by omega
    have ik2:(k:Int)≤(L.length:Int):=by omega
    have il:(L.length:Int)≤(cap:Int):=by omega
    have nk:¬cap=k:=by omega
    clear hhalf r1 r2 r3 ea eb ek em hab hml hsh hs hA hS0 eB h0 h1 hf hs0 hc0
    go_enter Tryz.func42,Tryz.ntmps42
    go_upto_region 1 with(fail)
    rw[←EB.out]
    refine Ωf (RtS w B (.slice (some ⟨g,o,none⟩) L.length cap) L) HS0.out ?_
    intro Z hZ
    have HZ:=Θ hZ
    clear hZ HS0
    go_wp2_with fail
    refine(HH.out _).mono ?_
    rintro e1 w1 ⟨rfl,rfl⟩
    go_upto_region 6 with(fail)
    obtain⟨ft,hfx⟩:=Ωbp (RtS w B (.slice (some ⟨g,o,none⟩) L.length cap) L) (HZ.out.keep (Only.refl _ _).drew)
    obtain⟨F,hI,hF0,hF,hFS⟩:=hfx
    have D1:Hid (∀x,Calls Tryz.prog 42 #[.slice (some ⟨g,o,none⟩) k cap] (F x) fun e w' =>e= .returned (hv a)∧∃y,w' =F y):=Θ (fun x=>(R1.out _ (hFS x).l).mono (fun e w' hh=>⟨hh.1,(hF w').1 ((hFS x).keep hh.2)⟩))
    have D2:Hid (∀x,Calls Tryz.prog 42 #[.slice (some ⟨g,o+k,none⟩) (L.length-k) (cap-k)] (F x) fun e w' =>e= .returned (hv b)∧∃y,w' =F y):=Θ (fun x=>(R2.out _ (hFS x).l).mono (fun e w' hh=>⟨hh.1,(hF w').1 ((hFS x).keep hh.2)⟩))
    have D3:Hid (∀x,Calls Tryz.prog 73 #[hv a,hv b] (F x) fun e w' =>e= .returned (hv m)∧∃y,w' =F y):=Θ (fun x=>(R3.out _).mono (fun e w' hh=>⟨hh.1,(hF w').1 ((hFS x).keep hh.2)⟩))
    have HF:=Θ hF
    have HF0:=Θ hF0
    clear hF hF0 hFS R1 R2 R3
    refine Ωs F 9 (by kernel_rfl) (by kernel_rfl) HF0.out ?_
    simp only[Ωoc,Ωoz,Ωon,List.drop_zero]
    repeat(go_big_quiet_step (first|(with_reducible exact D1.out _)|(with_reducible exact D2.out _)|(with_reducible exact D3.out _)))
    refine wpQuiet_nil ?_
    intro w9 hw9
    have hS9:=(HF.out w9).2 hw9
    have hst:=ΩK hS9.r rfl HML.out
    have HB2:=Θ (hS9.r.put rfl HML.out)
    have HO2:=Θ (Ωb hS9.only B 0 (.inr (by have:=EB.out;omega)) (m.map bv))
    clear hw9 hS9
    go_wp2_with fail
    refine bodyPost_ret (v:=hv m) (Ωn rfl rfl HB2.out Tryz.underlying35 rfl (Ωa0 HML.out)) rfl ⟨rfl,HO2.out⟩
 termination_by f=>f
theorem troot_nil(w:World):Calls Tryz.prog 79 #[.slice none 0 0] w fun e w' =>e= .returned (hv (ΩN []))∧Only Ωa w w' :=by
 obtain⟨m,em⟩:∃m,m=ΩN []:=⟨_,rfl⟩
 have hml:m.length=32:=by rw[em];exact ΩF _
 rw[←em]
 have hsum:∀W,Calls Tryz.prog 80 #[.string ⟨#[]⟩] W fun e w' =>e= .returned (hv m)∧Only Ωa W w' :=fun W=>by
  rw[em];exact Ωgd ⟨#[]⟩ W (by decide)
 have hS0:=RtS.new (StSl.nil w)
 obtain⟨B,eB⟩:∃B,B=w.heap.size:=⟨_,rfl⟩
 rw[←eB] at hS0
 have HS0:=Θ hS0
 have EB:=Θ eB
 have HSUM:=Θ hsum
 have HML:=Θ hml
 clear hsum em hml hS0 eB
 go_enter Tryz.func79,Tryz.ntmps79
 go_upto_region 1 with(fail)
 rw[←EB.out]
 refine Ωf (RtS w B (.slice none 0 0) []) HS0.out ?_
 intro Z hZ
 have HZ:=Θ hZ
 clear hZ HS0
 go_wp2_with fail
 refine(HSUM.out _).mono ?_
 rintro e1 w1 ⟨rfl,ho1⟩
 have hb1:=HZ.out.keep ho1
 have hst:=ΩK hb1.r rfl HML.out
 have HB2:=Θ (hb1.r.put rfl HML.out)
 have HO2:=Θ (Ωb hb1.only B 0 (.inr (by have:=EB.out;omega)) (m.map bv))
 clear hb1 ho1
 go_wp2_with fail
 refine bodyPost_ret (v:=hv m) (Ωn rfl rfl HB2.out Tryz.underlying35 rfl (Ωa0 HML.out)) rfl ⟨rfl,HO2.out⟩
end
section
open Go.RowKit Go.Shelf
def hbC(h:Hs):List Value:=h.map bv
theorem ΩgM(h:Hs):∀u∈hbC h,u.oneCell' =true:=Ωck h
def HsOk(L:List Hs):Prop:=∀h∈L,h.length=32
def HaSl(w:World)(v:Value)(L:List Hs):Prop:=
 ∃A cap,v= .slice A L.length cap∧L.length≤cap∧cap≤9223372036854775807∧∀(i:Nat) (h:Hs),L[i]? =some h→∃g o,A=some ⟨g,o,none⟩∧g<w.heap.size∧w.rangeAt g (o+i*32) (hbC h)
theorem HaSl.only{w w' :World}{v:Value}{L:List Hs}(h:HaSl w v L)(ho:Only Ωa w w'):HaSl w' v L:=by
 obtain⟨A,cap,hv,h1,h2,h3⟩:=h
 refine⟨A,cap,hv,h1,h2,fun i p hp=> ?_⟩
 obtain⟨g,o,hA,hg,hr⟩:=h3 i p hp
 exact⟨g,o,hA,ΩnT hg ho.size,Ωu hr ho⟩
theorem HaSl.nil(w:World):HaSl w (.slice none 0 0) []:=⟨none,0,rfl,Ωnv _,by omega,fun i s h=>by simp at h⟩
theorem HaSl.take{w:World}{g o n cap k:Nat}{L:List Hs}(h:HaSl w (.slice (some ⟨g,o,none⟩) n cap) L)(hk:k≤L.length):HaSl w (.slice (some ⟨g,o,none⟩) k cap) (L.take k):=by
 obtain⟨A,cap',e,h1,h2,h3⟩:=h
 simp only[Value.slice.injEq] at e
 obtain⟨rfl,rfl,rfl⟩:=e
 refine⟨some ⟨g,o,none⟩,cap,by rw[ΩnB,Nat.min_eq_left hk],by rw[ΩnB];omega,h2,fun i s hs=> ?_⟩
 rw[ΩoC] at hs
 split at hs
 ·exact h3 i s hs
 ·cases hs
def ΩO(w:World)(base:Nat)(v:Value)(n:Nat)(L:List Hs):Prop:=w.ownsRow base 35 32 v n (L.flatMap hbC)
theorem Ωl1:∀(L:List Hs) (_:HsOk L),(L.flatMap hbC).length =L.length*32
 |[],_=>rfl
 |x::l,h=>by
  rw[ΩnW,ΩnA,Ωl1 l (fun p hp=>h p (by simp[hp])),ΩnD]
  have:(hbC x).length =32:=by unfold hbC;rw[ΩnN];exact h x (by simp)
  omega
theorem Ωin:∀(L:List Hs) (_:HsOk L) (i j:Nat) (_:j<32) (p:Hs) (_:L[i]? =some p),(L.flatMap hbC)[i*32+j]? =(hbC p)[j]?
 |[],_,_,_,_,_,h=>by simp at h
 |x::l,hf,i,j,hj,p,hp=>by
  have hx:(hbC x).length =32:=by unfold hbC;rw[ΩnN];exact hf x (by simp)
  cases i with
  |zero=>
   simp at hp;subst hp
   simp only[ΩnW,Nat.zero_mul,ΩnR]
   rw[Ωn1 (by rw[hx];exact hj)]
  |succ i=>
   simp only[ΩnW]
   rw[ΩnM (by rw[hx];omega),hx,show(i+1)*32+j-32=i*32+j by omega]
   exact Ωin l (fun q hq=>hf q (by simp[hq])) i j hj p (by simpa using hp)
theorem ΩO.sl{w:World}{base:Nat}{v:Value}{L:List Hs}(h:ΩO w base v L.length L)(hok:HsOk L):HaSl w v L:=by
 rcases h.2 with⟨rfl,h0⟩|⟨g,cap,cur,rfl,hb,hh,hc,hm,hs,ht⟩
 ·have hP0:L=[]:=ΩnZ h0
  subst hP0
  exact HaSl.nil w
 ·rw[Ωg] at hm
  refine⟨some ⟨g,0,none⟩,cap,rfl,hc,hm,fun i p hp=>⟨g,0,rfl,Blk.lt (t:=35) hh,fun j x hj=> ?_⟩⟩
  have hj2:j<32:=by
   have:=(Ωnx.1 hj).1
   unfold hbC at this
   rwa [ΩnN,hok p (ΩnE hp)] at this
  have h1:=Ωin L hok i j hj2 p hp
  have h2:=World.ownsRow.cells h rfl (i*32+j) x (h1.trans hj)
  rw[ΩoK,ΩnR] at h2
  rw[ΩnR]
  exact h2
theorem ΩO.nil(w:World)(base:Nat):ΩO w base (.slice none 0 0) 0 []:=⟨rfl,.inl ⟨rfl,rfl⟩⟩
theorem ΩE{w:World}{base base' :Nat}{e:TypeId}{size n:Nat}{v:Value}{xs:List Value}(h:w.ownsRow base e size v n xs)(hb:base'≤base):w.ownsRow base' e size v n xs:=by
 refine⟨h.1,?_⟩
 rcases h.2 with h0|⟨g,cap,cur,h1,h2,h3⟩
 ·exact .inl h0
 ·exact .inr ⟨g,cap,cur,h1,Ωnz hb h2,h3⟩
theorem Ωct:∃ie z,Tryz.prog.info? 35=some ie∧ie.size=32∧ie.zero=some z∧z.cells.size=32∧ie.bytes≤100:=by
 have h1:(Tryz.prog.info? 35).map (·.size)=some 32:=by kernel_rfl
 have h2:((Tryz.prog.info? 35).bind (·.zero)).isSome =true:=by kernel_rfl
 have h3:(Tryz.prog.info? 35).map (fun i=>decide (i.bytes≤100))=some true:=by kernel_rfl
 have h4:((Tryz.prog.info? 35).bind (·.zero)).map (fun z=>z.cells.size)=some 32:=by kernel_rfl
 cases hie:Tryz.prog.info? 35 with
 |none=>simp[hie] at h1
 |some ie=>
  simp only[hie,Ωoe,Option.some.injEq,Option.bind_some,decide_eq_true_eq] at h1 h2 h3 h4
  obtain⟨z,hz⟩:=Option.isSome_iff_exists.1 h2
  simp only[hz,Ωoe,Option.some.injEq] at h4
  exact⟨ie,z,rfl,h1,hz,h4,h3⟩
def Ωnf(parts:Array (Nat×Value)):Sem Value:=Instr.buildSlice 59 1 parts
theorem Ωip(parts:Array (Nat×Value)):Instr.buildSlice 59 1 parts=Ωnf parts:=rfl
theorem Ωb3(h:Hs)(hl:h.length=32)(W:World):(Ωnf #[(0,hv h)]).run Tryz.prog W= .ok (.slice (some ⟨W.heap.size,0,none⟩) 1 1) (W.alloc (.cells (h.map bv).toArray 35)):=by
 obtain⟨ie,z,hie,hsz,hz,hzc,hby⟩:=Ωct
 have h32:(h.map bv).length =32:=by rw[ΩnN,hl]
 have e:([hv h].flatMap fun u=>u.cells.toList).toArray =(h.map bv).toArray :=by simp[Value.cells,hv]
 have h9:∀C:Array Value,C.size=32→Instr.fill (fun i=>some (i*32,32)) C [(0,hv h)]=some (h.map bv).toArray :=fun C hC=>by
  have h8:=Great.fill_whole (s:=32) (by omega) [hv h] C (by intro u hu;simp only[Ωn3,Ωol,or_false] at hu;subst hu;show(h.map bv).toArray.size =32;rw[ΩnJ,h32]) (by rw[hC];rfl)
  rw[e] at h8
  exact h8
 exact run_buildSlice (P:=Tryz.prog) W 59 35 1 #[(0,hv h)] (h.map bv).toArray ie z Tryz.underlying59 hie hz (by rw[hsz];omega) (by rw[hsz];omega) (by rw[hsz];exact h9 _ (by simp))
theorem newH(W:World)(h:Hs):(W.alloc (.cells (h.map bv).toArray 35)).heap[W.heap.size]? =some (.cells (h.map bv).toArray 35 (0,0)):=Blk.new W _ _
end
section
open Go.RowKit Go.Shelf
theorem Ωcz:∀(f i n:Nat),Ωac f i n≤f
 |0,_,_=>Ωnv _
 |f+1,i,n=>by
  unfold Ωac
  have h1:=Ωcz f i (Ωh n)
  have h2:=Ωcz f (i-Ωh n) (n-Ωh n)
  split
  ·omega
  ·split<;>omega
theorem ΩfR:∀(f m n:Nat) (b:Bool),ΩaP f m n b≤f
 |0,_,_,_=>Ωnv _
 |f+1,m,n,b=>by
  unfold ΩaP
  have h1:=ΩfR f m (Ωh n) b
  have h2:=ΩfR f (m-Ωh n) (n-Ωh n) false
  split
  ·split<;>omega
  ·split<;>omega
theorem Ωe5:∀(f i n:Nat) (_:n≤f) (_:i<n) (_:f≤1000) (w:World),Calls Tryz.prog 143 #[.int .i64 (i:Int),.int .i64 (n:Int)] w fun e w' =>e= .returned (.int .i64 (Ωac f i n:Int))∧w' =w
 |0,i,n,h,hi,_,w=>by omega
 |f+1,i,n,h,hi,hf,w=>by
  obtain⟨d,ed⟩:∃d,d=Ωac (f+1) i n:=⟨_,rfl⟩
  rw[←ed]
  have ED:=Θ ed
  by_cases h1:n≤1
  ·have c1:decide ((n:Int)≤1)=true:=ΩnG (by omega)
   have HD:Hid (d=0):=Θ (by rw[ed];unfold Ωac;rw[ΩnV h1])
   clear ed h1
   go_enter Tryz.func143,Tryz.ntmps143
   go_wp2_with fail
   go_ret
   exact⟨ΩB (by rw[HD.out];rfl),rfl⟩
  ·have c1:decide ((n:Int)≤1)=false:=Ωny (by omega)
   have hsp:=Ω3 (n:=n) (by omega) (by omega)
   obtain⟨k,ek⟩:∃k,k=Ωh n:=⟨_,rfl⟩
   rw[←ek] at hsp
   have HH:Hid (∀W,Calls Tryz.prog 60 #[.int .i64 (n:Int)] W fun e w' =>e= .returned (.int .i64 (k:Int))∧w' =W):=Θ (fun W=>by rw[ek];exact Ωb1 n (by omega) (by omega) W)
   have hd:d=if i<k then 1+Ωac f i k else 1+Ωac f (i-k) (n-k):=by rw[ed,ek];rw[show Ωac (f+1) i n=if n≤1 then 0 else if i<Ωh n then 1+Ωac f i (Ωh n) else 1+Ωac f (i-Ωh n) (n-Ωh n) from rfl,ΩnU h1]
   by_cases hk:i<k
   ·have c2:decide ((i:Int)<(k:Int))=true:=ΩnG (by omega)
    have hb:=Ωcz f i k
    obtain⟨e,ee⟩:∃e,e=Ωac f i k:=⟨_,rfl⟩
    have HR:Hid (∀W,Calls Tryz.prog 143 #[.int .i64 (i:Int),.int .i64 (k:Int)] W fun e' w' =>e' = .returned (.int .i64 (e:Int))∧w' =W):=Θ (fun W=>by rw[ee];exact Ωe5 f i k (by omega) hk (by omega) W)
    have HD:Hid (d=1+e):=Θ (by rw[hd,ΩnV hk,ee])
    rw[←ee] at hb
    clear ed ek ee hd h1
    go_enter Tryz.func143,Tryz.ntmps143
    go_wp2_with fail
    refine(HH.out _).mono ?_
    rintro e1 w1 ⟨rfl,rfl⟩
    go_wp2_with fail
    refine(HR.out _).mono ?_
    rintro e2 w2 ⟨rfl,rfl⟩
    go_wp2_with fail
    go_ret
    exact⟨ΩB (by rw[HD.out];omega),rfl⟩
   ·have c2:decide ((i:Int)<(k:Int))=false:=Ωny (by omega)
    have hb:=Ωcz f (i-k) (n-k)
    obtain⟨e,ee⟩:∃e,e=Ωac f (i-k) (n-k):=⟨_,rfl⟩
    have k1:(i:Int)-(k:Int)=((i-k:Nat):Int):=by omega
    have k2:(n:Int)-(k:Int)=((n-k:Nat):Int):=by omega
    have HR:Hid (∀W,Calls Tryz.prog 143 #[.int .i64 ((i:Int)-(k:Int)),.int .i64 ((n:Int)-(k:Int))] W fun e' w' =>e' = .returned (.int .i64 (e:Int))∧w' =W):=Θ (fun W=>by rw[ee,k1,k2];exact Ωe5 f (i-k) (n-k) (by omega) (by omega) (by omega) W)
    have HD:Hid (d=1+e):=Θ (by rw[hd,ΩnU hk,ee])
    rw[←ee] at hb
    clear ed ek ee hd h1 k1 k2
    go_enter Tryz.func143,Tryz.ntmps143
    go_wp2_with fail
    refine(HH.out _).mono ?_
    rintro e1 w1 ⟨rfl,rfl⟩
    go_wp2_with fail
    refine(HR.out _).mono ?_
    rintro e2 w2 ⟨rfl,rfl⟩
    go_wp2_with fail
    go_ret
    exact⟨ΩB (by rw[HD.out];omega),rfl⟩
theorem Ωgo:∀(f m n:Nat) (whole:Bool) (_:n≤f) (_:1≤m) (_:m≤n) (_:f≤1000) (w:World),Calls Tryz.prog 141 #[.int .i64 (m:Int),.int .i64 (n:Int),.bool whole] w fun e w' =>e= .returned (.int .i64 (ΩaP f m n whole:Int))∧w' =w
 |0,m,n,whole,h,hm,hn,_,w=>by omega
 |f+1,m,n,whole,h,hm,hn,hf,w=>by
  obtain⟨d,ed⟩:∃d,d=ΩaP (f+1) m n whole:=⟨_,rfl⟩
  rw[←ed]
  have hd0:d=if m=n then(if whole then 0 else 1) else if m≤Ωh n then 1+ΩaP f m (Ωh n) whole else 1+ΩaP f (m-Ωh n) (n-Ωh n) false:=ed
  by_cases h1:m=n
  ·have c1:((m:Int)==(n:Int))=true:=by simp[h1]
   cases whole with
   |true=>
    have HD:Hid (d=0):=Θ (by rw[hd0,ΩnV h1];rfl)
    clear ed hd0 h1
    go_enter Tryz.func141,Tryz.ntmps141
    go_wp2_with fail
    go_ret
    exact⟨ΩB (by rw[HD.out];rfl),rfl⟩
   |false=>
    have HD:Hid (d=1):=Θ (by rw[hd0,ΩnV h1];rfl)
    clear ed hd0 h1
    go_enter Tryz.func141,Tryz.ntmps141
    go_wp2_with fail
    go_ret
    exact⟨ΩB (by rw[HD.out];rfl),rfl⟩
  ·have c1:((m:Int)==(n:Int))=false:=by rw[ΩnL];omega
   have hsp:=Ω3 (n:=n) (by omega) (by omega)
   obtain⟨k,ek⟩:∃k,k=Ωh n:=⟨_,rfl⟩
   rw[←ek] at hsp hd0
   have HH:Hid (∀W,Calls Tryz.prog 60 #[.int .i64 (n:Int)] W fun e w' =>e= .returned (.int .i64 (k:Int))∧w' =W):=Θ (fun W=>by rw[ek];exact Ωb1 n (by omega) (by omega) W)
   rw[ΩnU h1] at hd0
   by_cases hk:m≤k
   ·have c2:decide ((m:Int)≤(k:Int))=true:=ΩnG (by omega)
    have hb:=ΩfR f m k whole
    obtain⟨e,ee⟩:∃e,e=ΩaP f m k whole:=⟨_,rfl⟩
    have HR:Hid (∀W,Calls Tryz.prog 141 #[.int .i64 (m:Int),.int .i64 (k:Int),.bool whole] W fun e' w' =>e' = .returned (.int .i64 (e:Int))∧w' =W):=Θ (fun W=>by rw[ee];exact Ωgo f m k whole (by omega) hm hk (by omega) W)
    have HD:Hid (d=1+e):=Θ (by rw[hd0,ΩnV hk,ee])
    rw[←ee] at hb
    clear ed ek ee hd0 h1
    go_enter Tryz.func141,Tryz.ntmps141
    go_wp2_with fail
    refine(HH.out _).mono ?_
    rintro e1 w1 ⟨rfl,rfl⟩
    go_wp2_with fail
    refine(HR.out _).mono ?_
    rintro e2 w2 ⟨rfl,rfl⟩
    go_wp2_with fail
    go_ret
    exact⟨ΩB (by rw[HD.out];omega),rfl⟩
   ·have c2:decide ((m:Int)≤(k:Int))=false:=Ωny (by omega)
    have hb:=ΩfR f (m-k) (n-k) false
    obtain⟨e,ee⟩:∃e,e=ΩaP f (m-k) (n-k) false:=⟨_,rfl⟩
    have k1:(m:Int)-(k:Int)=((m-k:Nat):Int):=by omega
    have k2:(n:Int)-(k:Int)=((n-k:Nat):Int):=by omega
    have HR:Hid (∀W,Calls Tryz.prog 141 #[.int .i64 ((m:Int)-(k:Int)),.int .i64 ((n:Int)-(k:Int)),.bool false] W fun e' w' =>e' = .returned (.int .i64 (e:Int))∧w' =W):=Θ (fun W=>by rw[ee,k1,k2];exact Ωgo f (m-k) (n-k) false (by omega) (by omega) (by omega) (by omega) W)
    have HD:Hid (d=1+e):=Θ (by rw[hd0,ΩnU hk,ee])
    rw[←ee] at hb
    clear ed ek ee hd0 h1 k1 k2
    go_enter Tryz.func141,Tryz.ntmps141
    go_wp2_with fail
    refine(HH.out _).mono ?_
    rintro e1 w1 ⟨rfl,rfl⟩
    go_wp2_with fail
    refine(HR.out _).mono ?_
    rintro e2 w2 ⟨rfl,rfl⟩
    go_wp2_with fail
    go_ret
    exact⟨ΩB (by rw[HD.out];omega),rfl⟩
end
end Go.Proofs.YtgalfohobgjelaaGreatDoor
