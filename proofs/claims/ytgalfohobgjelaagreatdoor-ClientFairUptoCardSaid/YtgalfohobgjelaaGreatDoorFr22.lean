/- What is proved here:several parts. whether a growth is right,by the program,for a head that is smaller than the next one. Conditions:the sizes are small,hashes have 32 bytes. · the head that a client knows;a client's taking of votes for a head. Conditions:as for its parts;sizes are small,hashes have 32 bytes. · whether two heads agree,by the program,without growth and with the growth of lists;whether they agree by the reference. Conditions:sizes are ints,roots have 32 bytes. -/
import Derived.Test.YtgalfohobgjelaaGreatDoorFr13
import Derived.Test.YtgalfohobgjelaaGreatDoorFr16
import Derived.Test.YtgalfohobgjelaaGreatDoorFr17
import Derived.Test.YtgalfohobgjelaaGreatDoorFr19
import Derived.Test.YtgalfohobgjelaaGreatDoorFr21
import Derived.Laws.EntriesVeiled
import Derived.BigQuiet
namespace Go.Proofs.YtgalfohobgjelaaGreatDoor
open Go.RowKit Go.Shelf
attribute [local go_sem ↓ high] haLoad_eq haStore_eq
structure ChG (w:World) (B:Nat) (a b:Hd) (v:Value) (Q:List Hs) (W:World):Prop where
 fa:HdAt W B a
 fb:HdAt W (B+1) b
 fp:Blk W (B+1+1) tHas #[v]
 ra:W.rangeAt B 1 (a.root.map bv)
 rb:W.rangeAt (B+1) 1 (b.root.map bv)
 l:HaSl W v Q
 only:Only NoneOf w W
theorem ChG.keep {w:World} {B:Nat} {a b:Hd} {v:Value} {Q:List Hs} {W W':World} (h:ChG w B a b v Q W) (ho:Only NoneOf W W'):ChG w B a b v Q W':=
 ⟨Blk.only h.fa ho (fun e=>e),Blk.only h.fb ho (fun e=>e),h.fp.only ho (fun e=>e),rng_only h.ra ho,rng_only h.rb ho,h.l.only ho,h.only.trans ho⟩
theorem ChG.new {w:World} {a b:Hd} {v:Value} {Q:List Hs} (hs:HaSl w v Q):ChG w w.heap.size a b v Q (((w.alloc (.cells (hdC a).toArray 37)).alloc (.cells (hdC b).toArray 37)).alloc (.cells #[v] 59)):=by
 have h1:=((Blk.new w tHd (hdC a).toArray).alloc (.cells (hdC b).toArray 37)).alloc (.cells #[v] 59)
 have h2:=Blk.new (w.alloc (.cells (hdC a).toArray 37)) tHd (hdC b).toArray
 rw [World.size_alloc] at h2
 have h2:=h2.alloc (.cells #[v] 59)
 have h3:=Blk.new ((w.alloc (.cells (hdC a).toArray 37)).alloc (.cells (hdC b).toArray 37)) tHas #[v]
 rw [World.size_alloc,World.size_alloc] at h3
 have ho:Only NoneOf w (((w.alloc (.cells (hdC a).toArray 37)).alloc (.cells (hdC b).toArray 37)).alloc (.cells #[v] 59)):=(((Only.refl _ _).alloc _).alloc _).alloc _
 exact⟨h1,h2,h3,range_root (blk_range h1),range_root (blk_range h2),hs.only ho,ho⟩
theorem WkS.made {w Z:World} {B:Nat} {a b:Hd} {A:Option Addr} {cap:Nat} {Q:List Hs} (hZ:ChG w B a b (.slice A Q.length cap) Q Z) {T:Nat} (eT:T=Z.heap.size):
  let X:=(((Z.alloc (.cells #[.int .i64 0] 3)).alloc (.cells #[.bool true] 4)).alloc (.cells #[takeFn (T+1) T (B+1+1)] 139)).alloc (.cells #[walkFn B (T+1+1) (T+1+1+1)] 140)
  WkS w B (T+1) T (B+1+1) (T+1+1) (T+1+1+1) a (.slice A Q.length cap) Q X 0 true X∧ChG w B a b (.slice A Q.length cap) Q X:=by
 intro X
 have ho:Only NoneOf Z X:=((((Only.refl _ _).alloc _).alloc _).alloc _).alloc _
 have h1:Blk (Z.alloc (.cells #[.int .i64 0] 3)) T 3 #[.int .i64 ((0:Nat):Int)]:=by rw [eT];exact Blk.new Z _ _
 have h2:Blk ((Z.alloc (.cells #[.int .i64 0] 3)).alloc (.cells #[.bool true] 4)) (T+1) 4 #[.bool true]:=by
  have h:=Blk.new (Z.alloc (.cells #[.int .i64 0] 3)) 4 #[.bool true]
  rw [World.size_alloc,←eT] at h
  exact h
 have h3:Blk (((Z.alloc (.cells #[.int .i64 0] 3)).alloc (.cells #[.bool true] 4)).alloc (.cells #[takeFn (T+1) T (B+1+1)] 139)) (T+1+1) tTake #[takeFn (T+1) T (B+1+1)]:=by
  have h:=Blk.new ((Z.alloc (.cells #[.int .i64 0] 3)).alloc (.cells #[.bool true] 4)) tTake #[takeFn (T+1) T (B+1+1)]
  rw [World.size_alloc,World.size_alloc,←eT] at h
  exact h
 have h4:Blk X (T+1+1+1) tWalk #[walkFn B (T+1+1) (T+1+1+1)]:=by
  have h:=Blk.new (((Z.alloc (.cells #[.int .i64 0] 3)).alloc (.cells #[.bool true] 4)).alloc (.cells #[takeFn (T+1) T (B+1+1)] 139)) tWalk #[walkFn B (T+1+1) (T+1+1+1)]
  rw [World.size_alloc,World.size_alloc,World.size_alloc,←eT] at h
  exact h
 have hk:=hZ.keep ho
 have hsz:=hZ.only.size
 exact⟨⟨hk.fa,(h2.alloc _).alloc _,((h1.alloc _).alloc _).alloc _,hk.fp,h3.alloc _,h4,by omega,⟨by omega,by omega⟩,hk.only,Only.refl _ _⟩,hk⟩
theorem ChG.kt {w X W:World} {B K T Pf F G:Nat} {a b old:Hd} {v u:Value} {Q P:List Hs} {X':World} {i:Nat} {c:Bool} (h:ChG w B a b v Q X) (hw:WkS w B K T Pf F G old u P X' i c X) (ho:Only (fun k=>k=K∨k=T) X W) (h0:Only NoneOf w W) (hs:HaSl w v Q):ChG w B a b v Q W:=by
 have hfa:HdAt W B a:=Blk.only h.fa ho (fun e=>by
  rcases e with e|e
  ·exact Blk.ne_ h.fa hw.ok (by decide) e
  ·exact Blk.ne_ h.fa hw.at_ (by decide) e)
 have hfb:HdAt W (B+1) b:=Blk.only h.fb ho (fun e=>by
  rcases e with e|e
  ·exact Blk.ne_ h.fb hw.ok (by decide) e
  ·exact Blk.ne_ h.fb hw.at_ (by decide) e)
 exact⟨hfa,hfb,h.fp.only ho (fun e=>by
  rcases e with e|e
  ·exact Blk.ne_ h.fp hw.ok (by decide) e
  ·exact Blk.ne_ h.fp hw.at_ (by decide) e),range_root (blk_range hfa),range_root (blk_range hfb),hs.only h0,h0⟩
theorem drop_empty {Q:List Hs} {j:Nat} (h:j≤Q.length):(Q.drop j).isEmpty=((j:Int)==(Q.length:Int)):=by
 rw [Bool.eq_iff_iff,List.isEmpty_iff,beq_iff_eq,List.drop_eq_nil_iff]
 omega
set_option maxRecDepth 100000 in
set_option maxHeartbeats 4000000 in
theorem tcheckgrowth_any (a b:Hd) (m n:Nat) (ha:a.size=(m:Int)) (hb:b.size=(n:Int)) (hmn:m<n) (hn:n≤1000) (hla:a.root.length=32) (hlb:b.root.length=32) (Q:List Hs) (hok:HsOk Q) (hQ:Q.length≤100000) (v:Value) (w:World) (hv':HaSl w v Q):
  Calls Tryz.prog 48 #[.agg (hdC a).toArray,.agg (hdC b).toArray,v] w fun e w'=>e= .returned (.bool (ckL m n a.root b.root Q))∧Only NoneOf w w':=by
 obtain⟨A,cap,rfl,hlc,hcm,hA⟩:=id hv'
 have hS0:=ChG.new (a:=a) (b:=b) hv'
 obtain⟨B,eB⟩:∃B,B=w.heap.size:=⟨_,rfl⟩
 rw [←eB] at hS0
 have hc0:∀W,ChG w B a b (.slice A Q.length cap) Q W→W.cell? ⟨B,0,none⟩=some (.int .i64 (m:Int)):=fun W h=>by rw [←ha];exact Blk.cell h.fa 0
 have hc1:∀W,ChG w B a b (.slice A Q.length cap) Q W→W.cell? ⟨B+1,0,none⟩=some (.int .i64 (n:Int)):=fun W h=>by rw [←hb];exact Blk.cell h.fb 0
 have hc2:∀W,ChG w B a b (.slice A Q.length cap) Q W→W.cell? ⟨B+1+1,0,none⟩=some (.slice A Q.length cap):=fun W h=>h.fp.cell 0
 have HC2:=Lib.hid hc2
 have HS0:=Lib.hid hS0
 have EB:=Lib.hid eB
 have HC0:=Lib.hid hc0
 have HC1:=Lib.hid hc1
 have HLA:=Lib.hid hla
 have HLB:=Lib.hid hlb
 have n1:decide ((n:Int) < (m:Int))=false:=decide_eq_false (by omega)
 have n2:decide (n<m)=false:=decide_eq_false (by omega)
 have n3:((m:Int)==(n:Int))=false:=by rw [beq_eq_false_iff_ne];omega
 clear hS0 eB hA hc0 hc1 hc2 ha hb
 by_cases h0:m=0
 ·have d0:((m:Int)==0)=true:=by simp [h0]
  by_cases hq:Q.length=0
  ·have q0:((Q.length:Int)==0)=true:=by simp [hq]
   have hr:ckL m n a.root b.root Q=(a.root==rootL []):=by unfold ckL;rw [if_pos h0,if_pos hq]
   obtain⟨x,ex⟩:∃x,x=rootL []:=⟨_,rfl⟩
   have hx:x.length=32:=by rw [ex];exact rootL_len _
   have hsum:∀W,Calls Tryz.prog 80 #[.string ⟨#[]⟩] W fun e w'=>e= .returned (hv x)∧Only NoneOf W w':=fun W=>by rw [ex];exact sum_any ⟨#[]⟩ W (by decide)
   rw [hr,←ex]
   have HQE:=Lib.hid (fun W=>eql_hash a.root x hla hx W)
   have H1:=Lib.hid hsum
   clear hsum ex hr hv' h0 hq hla hlb hmn hok
   go_enter Tryz.func48,Tryz.ntmps48
   go_upto_region 1 with(fail)
   rw [←EB.out]
   refine wp_gen (ChG w B a b (.slice A Q.length cap) Q) HS0.out ?_
   intro Z hZ
   have c0:=HC0.out Z hZ
   have c1:=HC1.out Z hZ
   have c2:=HC2.out Z hZ
   have HZ:=Lib.hid hZ
   clear hZ HS0
   go_upto_region 6 with(fail)
   obtain⟨ft,hfx⟩:=family (ChG w B a b (.slice A Q.length cap) Q) (W0:=Z.drew) (HZ.out.keep (Only.refl NoneOf Z).drew)
   obtain⟨F,hI,hF0,hF,hFS⟩:=hfx
   have f1:∀z,(haLoad (.pointer (some ⟨B,1,none⟩))).run Tryz.prog (F z)= .ok (hv a.root) (F z):=fun z=>ha_load (hFS z).ra HLA.out
   have f2:∀z,(binOp .eql 35 (hv a.root) (hv x)).run Tryz.prog (F z)= .ok (.bool (a.root==x)) (F z):=fun z=>HQE.out (F z)
   have f3:∀p q z,(eqGuard .eql 35 p q (hv a.root) (hv x)).run Tryz.prog (F z)= .ok () (F z):=fun p q z=>run_eqGuard_agg _ _ _ _ _ _ _ (by kernel_rfl)
   have D1:Hid (∀z,Calls Tryz.prog 80 #[.string ⟨#[]⟩] (F z) fun e w'=>e= .returned (hv x)∧∃z',w'=F z'):=Lib.hid (fun z=> (H1.out _).mono (fun e w' hh=> ⟨hh.1,(hF w').1 ((hFS z).keep hh.2)⟩))
   have HF:=Lib.hid hF
   have HF0:=Lib.hid hF0
   have f0:∀z,(F z).cell? ⟨B+1+1,0,none⟩=some (.slice A Q.length cap):=fun z=>HC2.out _ (hFS z)
   clear hF hF0 hFS c0 c1 c2
   refine wp_region_family F (by kernel_rfl) (by kernel_rfl) HF0.out ?_
   repeat(go_big_quiet_step (with_reducible exact D1.out _))
   refine wpQuiet_nil ?_
   intro w9 hw9
   have HO9:=Lib.hid ((HF.out w9).2 hw9).only
   clear hw9 f0 f1 f2 f3
   go_wp2_with fail
   go_ret
   exact⟨rfl,HO9.out⟩
  ·have q0:((Q.length:Int)==0)=false:=by rw [beq_eq_false_iff_ne];omega
   have hr:ckL m n a.root b.root Q=false:=by unfold ckL;rw [if_pos h0,if_neg hq]
   rw [hr]
   clear hr hv' h0 hq hla hlb hmn hok
   go_enter Tryz.func48,Tryz.ntmps48
   go_upto_region 1 with(fail)
   rw [←EB.out]
   refine wp_gen (ChG w B a b (.slice A Q.length cap) Q) HS0.out ?_
   intro Z hZ
   have c0:=HC0.out Z hZ
   have c1:=HC1.out Z hZ
   have c2:=HC2.out Z hZ
   have HZ:=Lib.hid hZ
   clear hZ HS0
   go_upto_region 6 with(fail)
   go_quiet (fail)
   have HO9:=Lib.hid (HZ.out.only.drewN nq)
   clear c0 c1 c2
   go_wp2_with fail
   go_ret
   exact⟨rfl,HO9.out⟩
 ·have d0:((m:Int)==0)=false:=by rw [beq_eq_false_iff_ne];omega
  have hck:ckL m n a.root b.root Q=ckW zeroH m n a.root b.root Q:=by unfold ckL;rw [if_neg h0,ckW_eq]
  rw [hck]
  unfold ckW
  have hwl:=walk_len zeroH rfl n m n true a.root Q true hla hok
  obtain⟨p,ep⟩:∃p,p=(walkF zeroH n m n true a.root (Q,true)).1.1:=⟨_,rfl⟩
  obtain⟨q,eq⟩:∃q,q=(walkF zeroH n m n true a.root (Q,true)).1.2:=⟨_,rfl⟩
  have hwk:∀K T F G X W,WkS w B K T (B+1+1) F G a (.slice A Q.length cap) Q X 0 true W→Calls Tryz.prog 82 #[.int .i64 (n:Int),.int .i64 (m:Int),.bool true,.pointer (some ⟨B,0,none⟩),.pointer (some ⟨F,0,none⟩),.pointer (some ⟨G,0,none⟩)] W fun e w'=>e= .returned (.tuple #[hv (walkF zeroH n m n true a.root (Q,true)).1.1,hv (walkF zeroH n m n true a.root (Q,true)).1.2])∧∃j c,(walkF zeroH n m n true a.root (Q,true)).2=(Q.drop j,c)∧WkS w B K T (B+1+1) F G a (.slice A Q.length cap) Q W j c w':=fun K T F G X W h=>twalk_any w B K T (B+1+1) F G a hla A cap Q hok hQ hv' n m n true 0 true W (Nat.le_refl _) (by omega) (by omega) hn (h.from_ W (Only.refl _ _))
  obtain⟨σ,eσ⟩:∃σ,σ=(walkF zeroH n m n true a.root (Q,true)).2:=⟨_,rfl⟩
  rw [←ep,←eq] at hwl
  rw [←ep,←eq,←eσ] at hwk
  rw [←ep,←eq,←eσ]
  obtain⟨hp,hq2⟩:=hwl
  have hmf:∀(fn:Fn) (first cap:Array Value) (w:World),(Instr.makeFunc fn first cap).run Tryz.prog w= .ok (.func fn first cap) w:=fun _ _ _ _=>rfl
  have HWK:=Lib.hid hwk
  have HP:=Lib.hid hp
  have HQ2:=Lib.hid hq2
  have HV:=Lib.hid hv'
  have HE1:=Lib.hid (fun W=>eql_hash p a.root hp hla W)
  have HE2:=Lib.hid (fun W=>eql_hash q b.root hq2 hlb W)
  obtain⟨β,eβ⟩:∃β,β=(p==a.root):=⟨_,rfl⟩
  obtain⟨γ,eγ⟩:∃γ,γ=(q==b.root):=⟨_,rfl⟩
  rw [←eβ] at HE1
  rw [←eγ] at HE2
  rw [←eβ,←eγ]
  obtain⟨ρ,eρ⟩:∃ρ,ρ=(σ.2 && (σ.1.isEmpty && (β && γ))):=⟨_,rfl⟩
  rw [←eρ]
  have ER:=Lib.hid eρ
  clear eρ hwk hp hq2 ep eq eσ hv' h0 hla hlb hmn hok eβ eγ hck
  go_enter Tryz.func48,Tryz.ntmps48
  go_upto_region 1 with(fail)
  rw [←EB.out]
  refine wp_gen (ChG w B a b (.slice A Q.length cap) Q) HS0.out ?_
  intro Z hZ
  have c0:=HC0.out Z hZ
  have c1:=HC1.out Z hZ
  obtain⟨T,eT⟩:∃T,T=Z.heap.size:=⟨_,rfl⟩
  have hX:=WkS.made hZ eT
  unfold takeFn walkFn at hX
  have HX:=Lib.hid hX
  have ET:=Lib.hid eT
  clear hZ HS0 hX eT
  go_upto_region 12 with(fail)
  rw [←ET.out]
  refine wp_gen (fun X=>WkS w B (T+1) T (B+1+1) (T+1+1) (T+1+1+1) a (.slice A Q.length cap) Q X 0 true X∧ChG w B a b (.slice A Q.length cap) Q X) HX.out ?_
  clear HX ET c0 c1 hmf
  rintro X ⟨hX,hXC⟩
  have c0:=HC0.out X hXC
  have c1:=HC1.out X hXC
  have cG:X.cell? ⟨T+1+1+1,0,none⟩=some (walkFn B (T+1+1) (T+1+1+1)):=hX.g.cell 0
  unfold walkFn at cG
  have HX:=Lib.hid (And.intro hX hXC)
  clear hX hXC
  go_wp2_with fail
  (with_reducible refine(HWK.out _ _ _ _ _ _ HX.out.1).mono ?_)
  rintro e5 w5 ⟨rfl,j,c,rfl,h5⟩
  have hle:=h5.le
  have f1:=fresh2_store1 w5 p HP.out
  have f2:=fresh2_store2 w5 p q HQ2.out
  have hC5:=HX.out.2.kt HX.out.1 h5.only h5.only0 HV.out
  obtain⟨M,eM⟩:∃M,M=w5.heap.size:=⟨_,rfl⟩
  have hoX:Only NoneOf w5 ((((w5.alloc (.cells zeroLit 35)).alloc (.cells zeroLit 35)).setCells w5.heap.size 0 (p.map bv)).setCells (w5.heap.size+1) 0 (q.map bv)):=only_setCells (only_setCells (((Only.refl _ _).alloc _).alloc _) _ 0 (.inr (Nat.le_refl _)) _) _ 0 (.inr (by omega)) _
  have hpX:HaAt ((((w5.alloc (.cells zeroLit 35)).alloc (.cells zeroLit 35)).setCells w5.heap.size 0 (p.map bv)).setCells (w5.heap.size+1) 0 (q.map bv)) M p:=by rw [eM];exact(HaAt.put (Blk.alloc (fresh_at w5) _) rfl HP.out).far (by omega)
  have hqX:HaAt ((((w5.alloc (.cells zeroLit 35)).alloc (.cells zeroLit 35)).setCells w5.heap.size 0 (p.map bv)).setCells (w5.heap.size+1) 0 (q.map bv)) (M+1) q:=by rw [eM];exact((fresh2_at w5).far (by omega)).put rfl HQ2.out
  have hx3:=And.intro (h5.keep hoX) (And.intro (hC5.keep hoX) (And.intro hpX hqX))
  rw [←eM] at hx3
  have HX3:=Lib.hid hx3
  have EM:=Lib.hid eM
  clear hx3 h5 hoX hpX hqX eM hC5 c0 c1 cG HX
  go_upto_region 13 with(fail)
  rw [←EM.out]
  refine wp_gen (fun W=>WkS w B (T+1) T (B+1+1) (T+1+1) (T+1+1+1) a (.slice A Q.length cap) Q X j c W∧ChG w B a b (.slice A Q.length cap) Q W∧HaAt W M p∧HaAt W (M+1) q) HX3.out ?_
  clear HX3 EM f1 f2
  rintro Y ⟨hY,hYC,hp,hq⟩
  have k1:Y.cell? ⟨T+1,0,none⟩=some (.bool c):=hY.ok.cell 0
  have k2:Y.cell? ⟨T,0,none⟩=some (.int .i64 (j:Int)):=hY.at_.cell 0
  have k3:Y.cell? ⟨B+1+1,0,none⟩=some (.slice A Q.length cap):=hY.pr.cell 0
  have l1:(haLoad (.pointer (some ⟨M,0,none⟩))).run Tryz.prog Y= .ok (hv p) Y:=ha_load hp.range HP.out
  have l2:(haLoad (.pointer (some ⟨M+1,0,none⟩))).run Tryz.prog Y= .ok (hv q) Y:=ha_load hq.range HQ2.out
  have l3:(haLoad (.pointer (some ⟨B,1,none⟩))).run Tryz.prog Y= .ok (hv a.root) Y:=ha_load hYC.ra HLA.out
  have l4:(haLoad (.pointer (some ⟨B+1,1,none⟩))).run Tryz.prog Y= .ok (hv b.root) Y:=ha_load hYC.rb HLB.out
  have g1:∀x y,(eqGuard .eql 35 x y (hv p) (hv a.root)).run Tryz.prog Y= .ok () Y:=fun x y=>run_eqGuard_agg _ _ _ _ _ _ _ (by kernel_rfl)
  have g2:∀x y,(eqGuard .eql 35 x y (hv q) (hv b.root)).run Tryz.prog Y= .ok () Y:=fun x y=>run_eqGuard_agg _ _ _ _ _ _ _ (by kernel_rfl)
  have e1:(binOp .eql 35 (hv p) (hv a.root)).run Tryz.prog Y= .ok (.bool β) Y:=HE1.out Y
  have e2:(binOp .eql 35 (hv q) (hv b.root)).run Tryz.prog Y= .ok (.bool γ) Y:=HE2.out Y
  have HO9:=Lib.hid hYC.only
  have hres:ρ=(c && (((j:Int)==(Q.length:Int)) && (β && γ))):=by
   rw [ER.out]
   show(c && ((Q.drop j).isEmpty && _))=_
   rw [drop_empty hle]
  have HRES:=Lib.hid hres
  clear hY hYC hp hq hle hres ER
  cases c with
  |false=>
   go_wp2_with fail
   go_ret
   exact⟨ret_bool (by rw [HRES.out];rfl),HO9.out⟩
  |true=>
   by_cases hj:j=Q.length
   ·have j1:((j:Int)==(Q.length:Int))=true:=by simp [hj]
    clear hj
    cases β with
    |true=>
     go_wp2_with fail
     go_ret
     exact⟨ret_bool (by rw [HRES.out,j1];rfl),HO9.out⟩
    |false=>
     go_wp2_with fail
     go_ret
     exact⟨ret_bool (by rw [HRES.out,j1];rfl),HO9.out⟩
   ·have j1:((j:Int)==(Q.length:Int))=false:=by rw [beq_eq_false_iff_ne];omega
    clear hj
    go_wp2_with fail
    go_ret
    exact⟨ret_bool (by rw [HRES.out,j1];rfl),HO9.out⟩
end Go.Proofs.YtgalfohobgjelaaGreatDoor
namespace Go.Proofs.YtgalfohobgjelaaGreatDoor
open Go.RowKit Go.Shelf
attribute [local go_sem ↓ high] hdLoad_eq hdNew_eq hdStore_eq hdBd_eq haLoad_eq
set_option maxRecDepth 100000 in
theorem hdBd_built1:∀(l:List UInt8),l.length=32→Tryz.prog.built 37 [(1,.agg (l.map bv).toArray)]=some (hdC ⟨0,l⟩).toArray
 | [x0,x1,x2,x3,x4,x5,x6,x7,x8,x9,x10,x11,x12,x13,x14,x15,x16,x17,x18,x19,x20,x21,x22,x23,x24,x25,x26,x27,x28,x29,x30,x31],_=>by kernel_rfl
theorem hdBd_run1 (l:List UInt8) (hl:l.length=32) (W:World):(hdBd #[(1,hv l)]).run Tryz.prog W= .ok (.agg (hdC ⟨0,l⟩).toArray) W:=
 run_build (P:=Tryz.prog) W 37 _ _ (hdBd_built1 l hl)
def knownH (h:Hd):Hd:=if h.size=0 then⟨0,rootL []⟩ else h
theorem knownH_root {h:Hd} (hl:h.root.length=32):(knownH h).root.length=32:=by
 unfold knownH
 split
 ·exact rootL_len _
 ·exact hl
theorem results_hd {fn:Func} {p:Tmp} {tmps:Array Value} {W:World} {b:Nat} {h:Hd} (hf:fn.results= #[.cell p 37]) (hp:tmps.getD p undef= .pointer (some ⟨b,0,none⟩)) (hb:HdAt W b h) (hl:h.root.length=32):(results fn tmps).run Tryz.prog W= .ok (.agg (hdC h).toArray) W:=
 results_blk hf hp hb Tryz.underlying37 rfl (by rw [List.size_toArray,hdC_len hl];kernel_rfl)
set_option maxRecDepth 100000 in
set_option maxHeartbeats 2000000 in
theorem known_any (c:Cli) (base:Nat) (w:World) (h:CliAt w base c):Calls Tryz.prog 47 #[.pointer (some ⟨c.C,0,none⟩)] w fun e w'=>e= .returned (.agg (hdC (knownH c.head)).toArray)∧Only NoneOf w w':=by
 have hR0:HdAt (w.alloc (.cells hd0C 37)) w.heap.size hd0:=Blk.new w _ _
 have h1:CliAt (w.alloc (.cells hd0C 37)) base c:=h.nn ((Only.refl _ _).alloc _)
 obtain⟨R,eR⟩:∃R,R=w.heap.size:=⟨_,rfl⟩
 rw [←eR] at hR0
 have hwR:w.heap.size≤R:=by omega
 have hnw:=hdNew_run
 have H1:=Lib.hid (And.intro h1 hR0)
 have ER:=Lib.hid eR
 have hrl:=h.hok.root
 have HRL:=Lib.hid hrl
 by_cases hz:c.head.size=0
 ·obtain⟨x,ex⟩:∃x,x=rootL []:=⟨_,rfl⟩
  have hxl:x.length=32:=by rw [ex];exact rootL_len _
  have hk:knownH c.head=⟨0,x⟩:=by unfold knownH;rw [if_pos hz,ex]
  have hroot:∀W,Calls Tryz.prog 79 #[.slice none 0 0] W fun e w'=>e= .returned (hv x)∧Only NoneOf W w':=fun W=>by rw [ex];exact troot_nil W
  obtain⟨k,ek⟩:∃k:Hd,k=⟨0,x⟩:=⟨_,rfl⟩
  have hkl:k.root.length=32:=by rw [ek];exact hxl
  have hbd:=fun W=>hdBd_run1 x hxl W
  rw [←ek] at hbd hk
  rw [hk]
  have HRT:=Lib.hid hroot
  have HKL:=Lib.hid hkl
  have HZ:=Lib.hid hz
  clear hroot hkl ex hxl hk ek hR0 h1 eR h hrl hz
  go_enter Tryz.func47,Tryz.ntmps47
  go_upto_region 1 with(fail)
  rw [←ER.out]
  refine wp_gen (fun Z=>CliAt Z base c∧HdAt Z R hd0∧Only NoneOf w Z) ⟨H1.out.1,H1.out.2,(Only.refl _ _).alloc _⟩ ?_
  clear H1 hnw
  rintro Z ⟨hZ,hR,hO⟩
  have c9:Z.cell? ⟨c.C,9,none⟩=some (.int .i64 0):=by rw [cli_size hZ.blk,HZ.out]
  have HZZ:=Lib.hid (And.intro hR hO)
  clear hZ hR hO
  go_wp2_with fail
  refine(HRT.out _).mono ?_
  rintro e5 w5 ⟨rfl,ho5⟩
  have hR5:HdAt w5 R hd0:=Blk.only HZZ.out.1 ho5 (fun e=>e)
  have hst:=hd_store hR5 rfl HKL.out
  have HF:=Lib.hid (And.intro (show HdAt (w5.setCells R 0 (hdC k)) R k from filled_whole hR5 (by rw [hdC_len HKL.out];rfl)) (only_setCells (HZZ.out.2.trans ho5) R 0 (.inr hwR) (hdC k)))
  clear hR5 ho5 HZZ c9
  go_wp2_with fail
  refine bodyPost_ret (v:= .agg (hdC k).toArray) (results_hd rfl rfl HF.out.1 HKL.out) rfl ⟨rfl,HF.out.2⟩
 ·have hk:knownH c.head=c.head:=by unfold knownH;rw [if_neg hz]
  have d0:(c.head.size==0)=false:=beq_eq_false_iff_ne.2 hz
  rw [hk]
  clear hk hR0 h1 eR h hrl hz
  go_enter Tryz.func47,Tryz.ntmps47
  go_upto_region 1 with(fail)
  rw [←ER.out]
  refine wp_gen (fun Z=>CliAt Z base c∧HdAt Z R hd0∧Only NoneOf w Z) ⟨H1.out.1,H1.out.2,(Only.refl _ _).alloc _⟩ ?_
  clear H1 hnw
  rintro Z ⟨hZ,hR,hO⟩
  have c9:Z.cell? ⟨c.C,9,none⟩=some (.int .i64 c.head.size):=cli_size hZ.blk
  have hld:=hd_load (cli_hd hZ.blk) HRL.out
  have hst:=hd_store hR rfl HRL.out
  have HF:=Lib.hid (And.intro (show HdAt (Z.setCells R 0 (hdC c.head)) R c.head from filled_whole hR (by rw [hdC_len HRL.out];rfl)) (only_setCells hO R 0 (.inr hwR) (hdC c.head)))
  clear hZ hR hO
  go_wp2_with fail
  refine bodyPost_ret (v:= .agg (hdC c.head).toArray) (results_hd rfl rfl HF.out.1 HRL.out) rfl ⟨rfl,HF.out.2⟩
def BestL (P:List Pers) (L:List Vt) (o:Option Hd):Prop:=BestOn (fun h=>h∈L.map (·.head)) (fun h=>certB P h L) o
noncomputable def hdRes (o:Option Hd) (old:Hd) (Q:List Hs):Int:=
 match o with
 |none=>24
 |some n=>if n.size<old.size then 32 else if n.size=old.size then(if n.root=old.root then 0 else 44) else if ckL old.size.toNat n.size.toNat old.root n.root Q=true then 0 else 41
noncomputable def hdNext (o:Option Hd) (old:Hd) (Q:List Hs) (h:Hd):Hd:=if hdRes o old Q=0 then hdOr o else h
def SmallH (h:Hd):Prop:=∃s:Nat,h.size=(s:Int)∧s≤1000
def SmallV (L:List Vt):Prop:=∀v∈L,SmallH v.head
theorem knownH_small {h:Hd} (hs:SmallH h):SmallH (knownH h):=by
 unfold knownH
 split
 ·exact⟨0,rfl,by omega⟩
 ·exact hs
theorem best_small {L:List Vt} (hs:SmallV L) {C:Hd→Bool} {o:Option Hd} (h:BestOn (fun h=>h∈L.map (·.head)) C o):SmallH (hdOr o):=by
 cases o with
 |none=>exact⟨0,rfl,by omega⟩
 |some b=>
  obtain⟨v,hv,rfl⟩:=List.mem_map.1 h.1
  exact hs v hv
theorem HaSl.step {S:Nat→Prop} {w w':World} {v:Value} {L:List Hs} (h:HaSl w v L) (ho:Only S w w') (ha:∀a n cap,v= .slice (some a) n cap→¬S a.block):HaSl w' v L:=by
 obtain⟨A,cap,rfl,h1,h2,h3⟩:=h
 refine⟨A,cap,rfl,h1,h2,fun i p hp=> ?_⟩
 obtain⟨g,o,rfl,hg,hr⟩:=h3 i p hp
 exact⟨g,o,rfl,Nat.lt_of_lt_of_le hg ho.size,fun j x hj=>ho.cell_some (hr j x hj) (ha ⟨g,o,none⟩ _ _ rfl)⟩
theorem cli_store_head {W:World} {c:Cli} {h:Hd} (hb:Blk W c.C tCli (cliC c).toArray) (hl:c.head.root.length=32) (hx:h.root.length=32):(hdStore (.pointer (some ⟨c.C,9,none⟩)) (.agg (hdC h).toArray)).run Tryz.prog W= .ok () (W.setCells c.C 9 (hdC h)):=
 run_storeAt_mid (P:=Tryz.prog) W c.C 9 37 (hdC h).toArray (hb.there 9 _ (by rw [List.size_toArray,hdC_len hx,List.size_toArray,cliC_len hl];omega)) (by rw [List.size_toArray,hdC_len hx];kernel_rfl) (all_oneCell_toArray (hdC_one h))
theorem CliAt.rehead {W:World} {base:Nat} {c:Cli} (h:CliAt W base c) {x:Hd} (hx:x.Ok):CliAt (W.setCells c.C 9 (hdC x)) base { c with head:=x}∧CliStep W (W.setCells c.C 9 (hdC x)) c { c with head:=x}:=by
 have ho:Only (fun k=>k=c.C) W (W.setCells c.C 9 (hdC x)):=only_setCells (S:=fun k=>k=c.C) (Only.refl _ _) c.C 9 (.inl rfl) _
 exact⟨⟨cli_put_head h.blk h.hok.root x hx.root,h.lo,hx,own_only h.pers ho (fun k hk e=>h.ne_pv (by rw [hk,e])),own_only h.votes ho (fun k hk e=>h.ne_vv (by rw [hk,e])),h.ok,h.seen.only ho (fun k hk e=>h.ne_mv (by rw [hk,e])),h.sok⟩,ho.mono (fun k _ e=> .inl e),fun k hk=> .inl hk⟩
structure HdS (w:World) (base N M:Nat) (c c9:Cli) (a b:Hd) (W:World):Prop where
 cli:CliAt W base c9
 step:CliStep w W c c9
 a:HdAt W N a
 b:HdAt W M b
theorem HdS.keep {w:World} {base N M:Nat} {c c9:Cli} {a b:Hd} {W W':World} (h:HdS w base N M c c9 a b W) (ho:Only NoneOf W W'):HdS w base N M c c9 a b W':=⟨h.cli.nn ho,h.step.trans (CliStep.nn ho),Blk.only h.a ho (fun e=>e),Blk.only h.b ho (fun e=>e)⟩
theorem hd_store_nw (W:World) {h:Hd} (hl:h.root.length=32):(hdStore (.pointer (some ⟨W.heap.size,0,none⟩)) (.agg (hdC h).toArray)).run Tryz.prog (W.alloc (.cells hd0C 37))= .ok () ((W.alloc (.cells hd0C 37)).setCells W.heap.size 0 (hdC h)):=hd_store (Blk.new W _ _) rfl hl
theorem neq_hash2 (a b:Hs) (ha:a.length=32) (hb:b.length=32) (W:World):(binOp .neq 35 (hv a) (hv b)).run Tryz.prog W= .ok (.bool (!(a==b))) W:=neq_hash a b ha hb W
set_option maxRecDepth 100000 in
set_option maxHeartbeats 4000000 in
theorem head_any (w0:World) (ht:Tab w0) (c:Cli) (base:Nat) (hb0:w0.heap.size≤base) (hcs:c.seen=c.votes) (hP:PersOk c.P) (hlen:c.P.length≤1000) (hsm:SmallH c.head) (L:List Vt) (hok:VtsOk L) (hsv:SmallV L) (hL:L.length≤1000) (hn:c.votes.length≤50000) (sv:Value) (Q:List Hs) (hqok:HsOk Q) (hQ:Q.length≤100000) (qv:Value) (w:World) (how:Only NoneOf w0 w) (h:CliAt w base c) (hb:base≤w.heap.size) (hs:VtSl w sv L) (ha:ApartC c sv) (hq:HaSl w qv Q) (hqa:ApartC c qv):
  Calls Tryz.prog 19 #[.pointer (some ⟨c.C,0,none⟩),sv,qv] w fun e w'=> ∃o,BestL c.P L o∧e= .returned (.int .i64 (hdRes o (knownH c.head) Q))∧∃vv mv,CliAt w' base { c.took vv mv L with head:=hdNext o (knownH c.head) Q c.head}∧CliStep w w' c { c.took vv mv L with head:=hdNext o (knownH c.head) Q c.head}:=by
 have hce:=certified_any w0 ht c base hb0 hcs hP hlen L hok hL hn sv w how h hb hs ha
 have HCE:=Lib.hid hce
 have HOK:=Lib.hid hok
 have HSV:=Lib.hid hsv
 have HQ:=Lib.hid (And.intro hq hqa)
 have HQOK:=Lib.hid hqok
 have HSM:=Lib.hid (knownH_small hsm)
 have HKR:=Lib.hid (knownH_root h.hok.root)
 have HHD:=Lib.hid h.hok
 obtain⟨old,eold⟩:∃old,old=knownH c.head:=⟨_,rfl⟩
 rw [←eold] at HSM HKR⊢
 have EO:=Lib.hid eold
 obtain⟨qA,qcap,rfl,_,_,_⟩:=id hq
 clear hce hok hsv hq hqa hqok hsm h hs ha ht how hP hcs eold
 have hnw:=hdNew_run
 go_enter Tryz.func19,Tryz.ntmps19
 go_wp2_with fail
 refine HCE.out.mono ?_
 rintro e5 w5 ⟨o,hbo,rfl,vv,mv,hc5,hs5⟩
 have hho:=best_ok HOK.out hbo
 have hhs:=best_small HSV.out hbo
 obtain⟨n,en⟩:∃n,n=hdOr o:=⟨_,rfl⟩
 rw [←en] at hho hhs⊢
 have hnl:=hho.root
 obtain⟨c9,ec9⟩:∃c9:Cli,c9=c.took vv mv L:=⟨_,rfl⟩
 rw [←ec9] at hc5 hs5
 have hC9:c9.C=c.C:=by rw [ec9];rfl
 have hh9:c9.head=c.head:=by rw [ec9];rfl
 have hst:=hd_store_nw w5 hnl
 have ho6:Only NoneOf w5 ((w5.alloc (.cells hd0C 37)).setCells w5.heap.size 0 (hdC n)):=only_setCells ((Only.refl _ _).alloc _) w5.heap.size 0 (.inr (Nat.le_refl _)) _
 have ha6:HdAt ((w5.alloc (.cells hd0C 37)).setCells w5.heap.size 0 (hdC n)) w5.heap.size n:=filled_whole (Blk.new w5 _ _) (by rw [hdC_len hnl];rfl)
 obtain⟨N,eN⟩:∃N,N=w5.heap.size:=⟨_,rfl⟩
 rw [←eN] at ho6 ha6
 have H6:=Lib.hid (And.intro (hc5.nn ho6) (And.intro (hs5.trans (CliStep.nn ho6)) ha6))
 have EN:=Lib.hid eN
 have EC9:=Lib.hid ec9
 have EHN:=Lib.hid en
 have HBO:Hid (BestL c.P L o):=Lib.hid hbo
 have HHO:=Lib.hid hho
 have HHS:=Lib.hid hhs
 have HC9:=Lib.hid hC9
 have HH9:=Lib.hid hh9
 clear ho6 ha6 eN ec9 en hbo hho hhs hC9 hh9 hc5 hs5 HCE
 go_upto_region 4 with(fail)
 rw [←EN.out]
 refine wp_gen (fun W=>CliAt W base c9∧CliStep w W c c9∧HdAt W N n) H6.out ?_
 clear H6 EN hst
 rintro Y ⟨hY1,hY2,hY3⟩
 have hkn:Calls Tryz.prog 47 #[.pointer (some ⟨c.C,0,none⟩)] Y fun e w'=>e= .returned (.agg (hdC old).toArray)∧Only NoneOf Y w':=by
  have h1:=known_any c9 base Y hY1
  rw [HC9.out,HH9.out,←EO.out] at h1
  exact h1
 have HKN:=Lib.hid hkn
 have HY:=Lib.hid (And.intro hY1 (And.intro hY2 hY3))
 clear hY1 hY2 hY3 hkn
 go_wp2_with fail
 refine HKN.out.mono ?_
 rintro e7 w7 ⟨rfl,ho7⟩
 have hst:=hd_store_nw w7 HKR.out
 have ho8:Only NoneOf w7 ((w7.alloc (.cells hd0C 37)).setCells w7.heap.size 0 (hdC old)):=only_setCells ((Only.refl _ _).alloc _) w7.heap.size 0 (.inr (Nat.le_refl _)) _
 have ha8:HdAt ((w7.alloc (.cells hd0C 37)).setCells w7.heap.size 0 (hdC old)) w7.heap.size old:=filled_whole (Blk.new w7 _ _) (by rw [hdC_len HKR.out];rfl)
 obtain⟨M,eM⟩:∃M,M=w7.heap.size:=⟨_,rfl⟩
 rw [←eM] at ho8 ha8
 have ho78:=ho7.trans ho8
 have hS8:HdS w base N M c c9 n old ((w7.alloc (.cells hd0C 37)).setCells M 0 (hdC old)):=⟨HY.out.1.nn ho78,HY.out.2.1.trans (CliStep.nn ho78),Blk.only HY.out.2.2 ho78 (fun e=>e),ha8⟩
 have H8:=Lib.hid hS8
 have EM:=Lib.hid eM
 clear ho7 ho8 ha8 ho78 hS8 eM HY HKN
 go_upto_region 5 with(fail)
 rw [←EM.out]
 refine wp_gen (HdS w base N M c c9 n old) H8.out ?_
 clear H8 EM hst hnw
 intro Z hZ
 obtain⟨s1,es1,hs1⟩:=HHS.out
 obtain⟨s2,es2,hs2⟩:=HSM.out
 have z1:Z.cell? ⟨N,0,none⟩=some (.int .i64 (s1:Int)):=by rw [←es1];exact Blk.cell hZ.a 0
 have z2:Z.cell? ⟨M,0,none⟩=some (.int .i64 (s2:Int)):=by rw [←es2];exact Blk.cell hZ.b 0
 have l1:(haLoad (.pointer (some ⟨N,1,none⟩))).run Tryz.prog Z= .ok (hv n.root) Z:=ha_load (range_root (blk_range hZ.a)) HHO.out.root
 have l2:(haLoad (.pointer (some ⟨M,1,none⟩))).run Tryz.prog Z= .ok (hv old.root) Z:=ha_load (range_root (blk_range hZ.b)) HKR.out
 have l3:=hd_load (blk_range hZ.a) HHO.out.root
 have l4:=hd_load (blk_range hZ.b) HKR.out
 have q1:=neq_hash2 n.root old.root HHO.out.root HKR.out Z
 have q2:∀x y,(eqGuard .neq 35 x y (hv n.root) (hv old.root)).run Tryz.prog Z= .ok () Z:=fun x y=>run_eqGuard_agg _ _ _ _ _ _ _ (by kernel_rfl)
 have HFIN:Hid (∀W,HdS w base N M c c9 n old W→hdRes o old Q≠0→∃vv mv,CliAt W base { c.took vv mv L with head:=hdNext o old Q c.head}∧CliStep w W c { c.took vv mv L with head:=hdNext o old Q c.head}):=Lib.hid (fun W hW hr=> ⟨vv,mv,by
  have e:({ c.took vv mv L with head:=hdNext o old Q c.head}:Cli)=c9:=by unfold hdNext;rw [if_neg hr,EC9.out];rfl
  rw [e]
  exact⟨hW.cli,hW.step⟩⟩)
 have HZ:=Lib.hid hZ
 have HSET:Hid (∀W,HdS w base N M c c9 n old W→hdRes o old Q=0→(hdStore (.pointer (some ⟨c.C,9,none⟩)) (.agg (hdC n).toArray)).run Tryz.prog W= .ok () (W.setCells c.C 9 (hdC n))∧∃vv mv,CliAt (W.setCells c.C 9 (hdC n)) base { c.took vv mv L with head:=hdNext o old Q c.head}∧CliStep w (W.setCells c.C 9 (hdC n)) c { c.took vv mv L with head:=hdNext o old Q c.head}):=Lib.hid (fun W hW hr=>by
  have h1:=cli_store_head (c:=c9) hW.cli.blk hW.cli.hok.root HHO.out.root
  have h2:=hW.cli.rehead HHO.out
  have hWe:W.setCells c9.C 9 (hdC n)=W.setCells c.C 9 (hdC n):=by rw [HC9.out]
  rw [hWe] at h2
  rw [HC9.out] at h1
  refine⟨h1,vv,mv,?_⟩
  have e:({ c.took vv mv L with head:=hdNext o old Q c.head}:Cli)= { c9 with head:=n}:=by unfold hdNext;rw [if_pos hr,EC9.out,EHN.out]
  rw [e]
  exact⟨h2.1,hW.step.trans h2.2⟩)
 have HCG:Hid (s2<s1→∀W,HdS w base N M c c9 n old W→Calls Tryz.prog 48 #[.agg (hdC old).toArray,.agg (hdC n).toArray,.slice qA Q.length qcap] W fun e w'=>e= .returned (.bool (ckL s2 s1 old.root n.root Q))∧Only NoneOf W w'):=Lib.hid (fun hlt W hW=>tcheckgrowth_any old n s2 s1 es2 es1 hlt hs1 HKR.out HHO.out.root Q HQOK.out hQ _ W (HQ.out.1.step hW.step.1 (fun a n cap e=>HQ.out.2 a n cap e)))
 clear hZ
 cases o with
 |none=>
  go_wp2_with fail
  go_ret
  exact⟨none,HBO.out,rfl,HFIN.out _ HZ.out (by show(24:Int)≠0;decide)⟩
 |some m=>
  have hm:n=m:=EHN.out
  have hres:hdRes (some m) old Q=if(s1:Int) < (s2:Int) then 32 else if(s1:Int)=(s2:Int) then(if n.root=old.root then 0 else 44) else if ckL s2 s1 old.root n.root Q=true then 0 else 41:=by
   rw [←hm]
   unfold hdRes
   simp only [es1,es2,Int.toNat_natCast]
  have HRES:=Lib.hid hres
  clear hm hres
  by_cases g1:s1<s2
  ·have d1:decide ((s1:Int) < (s2:Int))=true:=decide_eq_true (by omega)
   have hr:hdRes (some m) old Q=32:=by rw [HRES.out,if_pos (by omega)]
   have HR:=Lib.hid hr
   clear hr
   go_wp2_with fail
   go_ret
   exact⟨some m,HBO.out,ret_int HR.out.symm,HFIN.out _ HZ.out (by rw [HR.out];decide)⟩
  ·have d1:decide ((s1:Int) < (s2:Int))=false:=decide_eq_false (by omega)
   have d1n:decide (s1<s2)=false:=decide_eq_false g1
   by_cases g2:s1=s2
   ·have d2:((s1:Int)==(s2:Int))=true:=by simp [g2]
    have d3:decide ((s2:Int) < (s1:Int))=false:=decide_eq_false (by omega)
    have d3n:decide (s2<s1)=false:=decide_eq_false (by omega)
    have d3m:¬s2<s1:=by omega
    cases hβ:(n.root==old.root) with
    |true=>
     have hr:hdRes (some m) old Q=0:=by rw [HRES.out,if_neg (by omega),if_pos (by omega),if_pos (beq_iff_eq.1 hβ)]
     rw [hβ] at q1
     have hss:=HSET.out Z HZ.out hr
     have hst:=hss.1
     have HS:=Lib.hid hss.2
     have HR:=Lib.hid hr
     clear hr hss g1 g2 hβ
     go_wp2_with fail
     go_ret
     exact⟨some m,HBO.out,ret_int HR.out.symm,HS.out⟩
    |false=>
     have hr:hdRes (some m) old Q=44:=by rw [HRES.out,if_neg (by omega),if_pos (by omega),if_neg (beq_eq_false_iff_ne.1 hβ)]
     rw [hβ] at q1
     have HR:=Lib.hid hr
     clear hr g1 g2 hβ
     go_wp2_with fail
     go_ret
     exact⟨some m,HBO.out,ret_int HR.out.symm,HFIN.out _ HZ.out (by rw [HR.out];decide)⟩
   ·have d2:((s1:Int)==(s2:Int))=false:=by rw [beq_eq_false_iff_ne];omega
    have d3:decide ((s2:Int) < (s1:Int))=true:=decide_eq_true (by omega)
    have d3n:decide (s2<s1)=true:=decide_eq_true (by omega)
    have d3m:s2<s1:=by omega
    have hcg:=HCG.out d3m Z HZ.out
    obtain⟨β,eβ⟩:∃β,β=ckL s2 s1 old.root n.root Q:=⟨_,rfl⟩
    rw [←eβ] at hcg
    have HC:=Lib.hid hcg
    have hr0:hdRes (some m) old Q=if β=true then 0 else 41:=by rw [HRES.out,if_neg (by omega),if_neg (by omega),eβ]
    have HR0:=Lib.hid hr0
    clear hcg hr0 eβ g1 g2
    go_wp2_with fail
    refine HC.out.mono ?_
    rintro e3 w3 ⟨rfl,ho3⟩
    have hS3:=HZ.out.keep ho3
    clear ho3 z1 z2 l1 l2
    cases β with
    |true=>
     have hr:hdRes (some m) old Q=0:=by rw [HR0.out];rfl
     have hss:=HSET.out w3 hS3 hr
     have hst:=hss.1
     have l5:=hd_load (blk_range hS3.a) HHO.out.root
     have HS:=Lib.hid hss.2
     have HR:=Lib.hid hr
     clear hr hss hS3
     go_wp2_with fail
     go_ret
     exact⟨some m,HBO.out,ret_int HR.out.symm,HS.out⟩
    |false=>
     have hr:hdRes (some m) old Q=41:=by rw [HR0.out];rfl
     have HR:=Lib.hid hr
     have HS3:=Lib.hid hS3
     clear hr hS3
     go_wp2_with fail
     go_ret
     exact⟨some m,HBO.out,ret_int HR.out.symm,HFIN.out _ HS3.out (by rw [HR.out];decide)⟩
end Go.Proofs.YtgalfohobgjelaaGreatDoor
namespace Go.Proofs.YtgalfohobgjelaaGreatDoor
open Go.RowKit Go.Shelf
attribute [local go_sem ↓ high] hdLoad_eq
theorem func_nil (F:Fn) (p c:Array Value) (W:World):(binOp .eql 117 (.func F p c) .nilFunc).run Tryz.prog W= .ok (.bool false) W:=by kernel_rfl
structure AgS (w:World) (B:Nat) (a b:Hd) (W:World):Prop where
 a:HdAt W B a
 b:HdAt W (B+1) b
 only:Only NoneOf w W
theorem AgS.new (w:World) (a b:Hd):AgS w w.heap.size a b ((w.alloc (.cells (hdC a).toArray 37)).alloc (.cells (hdC b).toArray 37)):=by
 have h2:=Blk.new (w.alloc (.cells (hdC a).toArray 37)) tHd (hdC b).toArray
 rw [World.size_alloc] at h2
 exact⟨(Blk.new w _ _).alloc _,h2,((Only.refl _ _).alloc _).alloc _⟩
theorem agB_cases (f:Hd→Hd→Bool) (a b:Hd):agB f a b=if eqHd a b then true else if a.size=b.size then false else if a.size<b.size then f a b else f b a:=by
 cases he:eqHd a b with
 |true=>unfold agB;rw [he];rfl
 |false=>
  rw [if_neg (by decide)]
  by_cases hs:a.size=b.size
  ·rw [if_pos hs];exact agB_same f (eqHd_false.1 he) hs
  ·rw [if_neg hs]
   by_cases hl:a.size<b.size
   ·rw [if_pos hl];exact agB_lt f hl
   ·rw [if_neg hl];exact agB_gt f (by omega)
end Go.Proofs.YtgalfohobgjelaaGreatDoor
