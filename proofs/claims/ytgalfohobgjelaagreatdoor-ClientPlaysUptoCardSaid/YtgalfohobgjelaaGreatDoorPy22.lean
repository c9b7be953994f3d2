/- What is proved here: a part of the proof that 'probitylaw31.ClientPlays' answers true. Conditions: each theorem's own. -/
import Derived.Test.YtgalfohobgjelaaGreatDoorPy21
set_option maxRecDepth 100000
set_option maxHeartbeats 8000000
namespace Go.Proofs.YtgalfohobgjelaaGreatDoor
section
open Go.RowKit Go.Shelf
attribute [local go_sem ↓ high] ΩaB ΩaF
structure ChG(w:World)(B:Nat)(a b:Hd)(v:Value)(Q:List Hs)(W:World):Prop where
 fa:HdAt W B a
 fb:HdAt W (B+1) b
 fp:Blk W (B+1+1) tHas #[v]
 ra:W.rangeAt B 1 (a.root.map bv)
 rb:W.rangeAt (B+1) 1 (b.root.map bv)
 l:HaSl W v Q
 only:Only Ωa w W
theorem ChG.keep{w:World}{B:Nat}{a b:Hd}{v:Value}{Q:List Hs}{W W' :World}(h:ChG w B a b v Q W)(ho:Only Ωa W W'):ChG w B a b v Q W' :=
 ⟨Blk.only h.fa ho (fun e=>e),Blk.only h.fb ho (fun e=>e),h.fp.only ho (fun e=>e),Ωu h.ra ho,Ωu h.rb ho,h.l.only ho,h.only.trans ho⟩
theorem ChG.new{w:World}{a b:Hd}{v:Value}{Q:List Hs}(hs:HaSl w v Q):ChG w w.heap.size a b v Q (((w.alloc (.cells (hdC a).toArray 37)).alloc (.cells (hdC b).toArray 37)).alloc (.cells #[v] 59)):=by
 have h1:=((Blk.new w tHd (hdC a).toArray).alloc (.cells (hdC b).toArray 37)).alloc (.cells #[v] 59)
 have h2:=Blk.new (w.alloc (.cells (hdC a).toArray 37)) tHd (hdC b).toArray
 rw[Ωnw] at h2
 have h2:=h2.alloc (.cells #[v] 59)
 have h3:=Blk.new ((w.alloc (.cells (hdC a).toArray 37)).alloc (.cells (hdC b).toArray 37)) tHas #[v]
 rw[Ωnw,Ωnw] at h3
 have ho:Only Ωa w (((w.alloc (.cells (hdC a).toArray 37)).alloc (.cells (hdC b).toArray 37)).alloc (.cells #[v] 59)):=(((Only.refl _ _).alloc _).alloc _).alloc _
 exact⟨h1,h2,h3,ΩD (Ωd h1),ΩD (Ωd h2),hs.only ho,ho⟩
theorem WkS.made{w Z:World}{B:Nat}{a b:Hd}{A:Option Addr}{cap:Nat}{Q:List Hs}(hZ:ChG w B a b (.slice A Q.length cap) Q Z){T:Nat}(eT:T=Z.heap.size):
  let X:=(((Z.alloc (.cells #[.int .i64 0] 3)).alloc (.cells #[.bool true] 4)).alloc (.cells #[Ωc7 (T+1) T (B+1+1)] 139)).alloc (.cells #[Ωc0 B (T+1+1) (T+1+1+1)] 140)
  WkS w B (T+1) T (B+1+1) (T+1+1) (T+1+1+1) a (.slice A Q.length cap) Q X 0 true X∧ChG w B a b (.slice A Q.length cap) Q X:=by
 intro X
 have ho:Only Ωa Z X:=((((Only.refl _ _).alloc _).alloc _).alloc _).alloc _
 have h1:Blk (Z.alloc (.cells #[.int .i64 0] 3)) T 3 #[.int .i64 ((0:Nat):Int)]:=by rw[eT];exact Blk.new Z _ _
 have h2:Blk ((Z.alloc (.cells #[.int .i64 0] 3)).alloc (.cells #[.bool true] 4)) (T+1) 4 #[.bool true]:=by
  have h:=Blk.new (Z.alloc (.cells #[.int .i64 0] 3)) 4 #[.bool true]
  rw[Ωnw,←eT] at h
  exact h
 have h3:Blk (((Z.alloc (.cells #[.int .i64 0] 3)).alloc (.cells #[.bool true] 4)).alloc (.cells #[Ωc7 (T+1) T (B+1+1)] 139)) (T+1+1) Ωm3 #[Ωc7 (T+1) T (B+1+1)]:=by
  have h:=Blk.new ((Z.alloc (.cells #[.int .i64 0] 3)).alloc (.cells #[.bool true] 4)) Ωm3 #[Ωc7 (T+1) T (B+1+1)]
  rw[Ωnw,Ωnw,←eT] at h
  exact h
 have h4:Blk X (T+1+1+1) Ωm2 #[Ωc0 B (T+1+1) (T+1+1+1)]:=by
  have h:=Blk.new (((Z.alloc (.cells #[.int .i64 0] 3)).alloc (.cells #[.bool true] 4)).alloc (.cells #[Ωc7 (T+1) T (B+1+1)] 139)) Ωm2 #[Ωc0 B (T+1+1) (T+1+1+1)]
  rw[Ωnw,Ωnw,Ωnw,←eT] at h
  exact h
 have hk:=hZ.keep ho
 have hsz:=hZ.only.size
 exact⟨⟨hk.fa,(h2.alloc _).alloc _,((h1.alloc _).alloc _).alloc _,hk.fp,h3.alloc _,h4,by omega,⟨by omega,by omega⟩,hk.only,Only.refl _ _⟩,hk⟩
theorem ChG.kt{w X W:World}{B K T Pf F G:Nat}{a b old:Hd}{v u:Value}{Q P:List Hs}{X' :World}{i:Nat}{c:Bool}(h:ChG w B a b v Q X)(hw:WkS w B K T Pf F G old u P X' i c X)(ho:Only (fun k=>k=K∨k=T) X W)(h0:Only Ωa w W)(hs:HaSl w v Q):ChG w B a b v Q W:=by
 have hfa:HdAt W B a:=Blk.only h.fa ho (fun e=>by
  rcases e with e|e
  ·exact Blk.ne_ h.fa hw.ok (by decide) e
  ·exact Blk.ne_ h.fa hw.at_ (by decide) e)
 have hfb:HdAt W (B+1) b:=Blk.only h.fb ho (fun e=>by
  rcases e with e|e
  ·exact Blk.ne_ h.fb hw.ok (by decide) e
  ·exact Blk.ne_ h.fb hw.at_ (by decide) e)
 exact⟨hfa,hfb,h.fp.only ho (fun e=>by
  rcases e with e|e
  ·exact Blk.ne_ h.fp hw.ok (by decide) e
  ·exact Blk.ne_ h.fp hw.at_ (by decide) e),ΩD (Ωd hfa),ΩD (Ωd hfb),hs.only h0,h0⟩
theorem drop_empty{Q:List Hs}{j:Nat}(h:j≤Q.length):(Q.drop j).isEmpty =((j:Int)==(Q.length:Int)):=by
 rw[Ωoy,List.isEmpty_iff,beq_iff_eq,List.drop_eq_nil_iff]
 omega
theorem tcheckgrowth_any(a b:Hd)(m n:Nat)(ha:a.size=(m:Int))(hb:b.size=(n:Int))(hmn:m<n)(hn:n≤1000)(hla:a.root.length=32)(hlb:b.root.length=32)(Q:List Hs)(hok:HsOk Q)(hQ:Q.length≤100000)(v:Value)(w:World)(hv' :HaSl w v Q):
  Calls Tryz.prog 48 #[.agg (hdC a).toArray,.agg (hdC b).toArray,v] w fun e w' =>e= .returned (.bool (ckL m n a.root b.root Q))∧Only Ωa w w' :=by
 obtain⟨A,cap,rfl,hlc,hcm,hA⟩:=id hv'
 have hS0:=ChG.new (a:=a) (b:=b) hv'
 obtain⟨B,eB⟩:∃B,B=w.heap.size:=⟨_,rfl⟩
 rw[←eB] at hS0
 have hc0:∀W,ChG w B a b (.slice A Q.length cap) Q W→W.cell? ⟨B,0,none⟩=some (.int .i64 (m:Int)):=fun W h=>by rw[←ha];exact Blk.cell h.fa 0
 have hc1:∀W,ChG w B a b (.slice A Q.length cap) Q W→W.cell? ⟨B+1,0,none⟩=some (.int .i64 (n:Int)):=fun W h=>by rw[←hb];exact Blk.cell h.fb 0
 have hc2:∀W,ChG w B a b (.slice A Q.length cap) Q W→W.cell? ⟨B+1+1,0,none⟩=some (.slice A Q.length cap):=fun W h=>h.fp.cell 0
 have HC2:=Θ hc2
 have HS0:=Θ hS0
 have EB:=Θ eB
 have HC0:=Θ hc0
 have HC1:=Θ hc1
 have HLA:=Θ hla
 have HLB:=Θ hlb
 have n1:decide ((n:Int)<(m:Int))=false:=Ωny (by omega)
 have n2:decide (n<m)=false:=Ωny (by omega)
 have n3:((m:Int)==(n:Int))=false:=by rw[ΩnL];omega
 clear hS0 eB hA hc0 hc1 hc2 ha hb
 by_cases h0:m=0
 ·have d0:((m:Int)==0)=true:=by simp[h0]
  by_cases hq:Q.length=0
  ·have q0:((Q.length:Int)==0)=true:=by simp[hq]
   have hr:ckL m n a.root b.root Q=(a.root==ΩN []):=by unfold ckL;rw[ΩnV h0,ΩnV hq]
   obtain⟨x,ex⟩:∃x,x=ΩN []:=⟨_,rfl⟩
   have hx:x.length=32:=by rw[ex];exact ΩF _
   have hsum:∀W,Calls Tryz.prog 80 #[.string ⟨#[]⟩] W fun e w' =>e= .returned (hv x)∧Only Ωa W w' :=fun W=>by rw[ex];exact Ωgd ⟨#[]⟩ W (by decide)
   rw[hr,←ex]
   have HQE:=Θ (fun W=>ΩbT a.root x hla hx W)
   have H1:=Θ hsum
   clear hsum ex hr hv' h0 hq hla hlb hmn hok
   go_enter Tryz.func48,Tryz.ntmps48
   go_upto_region 1 with(fail)
   rw[←EB.out]
   refine Ωf (ChG w B a b (.slice A Q.length cap) Q) HS0.out ?_
   intro Z hZ
   have c0:=HC0.out Z hZ
   have c1:=HC1.out Z hZ
   have c2:=HC2.out Z hZ
   have HZ:=Θ hZ
   clear hZ HS0
   go_upto_region 6 with(fail)
   obtain⟨ft,hfx⟩:=Ωbp (ChG w B a b (.slice A Q.length cap) Q) (W0:=Z.drew) (HZ.out.keep (Only.refl Ωa Z).drew)
   obtain⟨F,hI,hF0,hF,hFS⟩:=hfx
   have f1:∀z,(ΩL (.pointer (some ⟨B,1,none⟩))).run Tryz.prog (F z)= .ok (hv a.root) (F z):=fun z=>Ωp (hFS z).ra HLA.out
   have f2:∀z,(binOp .eql 35 (hv a.root) (hv x)).run Tryz.prog (F z)= .ok (.bool (a.root==x)) (F z):=fun z=>HQE.out (F z)
   have f3:∀p q z,(eqGuard .eql 35 p q (hv a.root) (hv x)).run Tryz.prog (F z)= .ok () (F z):=fun p q z=>run_eqGuard_agg _ _ _ _ _ _ _ (by kernel_rfl)
   have D1:Hid (∀z,Calls Tryz.prog 80 #[.string ⟨#[]⟩] (F z) fun e w' =>e= .returned (hv x)∧∃z',w' =F z'):=Θ (fun z=>(H1.out _).mono (fun e w' hh=>⟨hh.1,(hF w').1 ((hFS z).keep hh.2)⟩))
   have HF:=Θ hF
   have HF0:=Θ hF0
   have f0:∀z,(F z).cell? ⟨B+1+1,0,none⟩=some (.slice A Q.length cap):=fun z=>HC2.out _ (hFS z)
   clear hF hF0 hFS c0 c1 c2
   refine Ω9 F (by kernel_rfl) (by kernel_rfl) HF0.out ?_
   repeat(go_big_quiet_step (with_reducible exact D1.out _))
   refine wpQuiet_nil ?_
   intro w9 hw9
   have HO9:=Θ ((HF.out w9).2 hw9).only
   clear hw9 f0 f1 f2 f3
   go_wp2_with fail
   go_ret
   exact⟨rfl,HO9.out⟩
  ·have q0:((Q.length:Int)==0)=false:=by rw[ΩnL];omega
   have hr:ckL m n a.root b.root Q=false:=by unfold ckL;rw[ΩnV h0,ΩnU hq]
   rw[hr]
   clear hr hv' h0 hq hla hlb hmn hok
   go_enter Tryz.func48,Tryz.ntmps48
   go_upto_region 1 with(fail)
   rw[←EB.out]
   refine Ωf (ChG w B a b (.slice A Q.length cap) Q) HS0.out ?_
   intro Z hZ
   have c0:=HC0.out Z hZ
   have c1:=HC1.out Z hZ
   have c2:=HC2.out Z hZ
   have HZ:=Θ hZ
   clear hZ HS0
   go_upto_region 6 with(fail)
   go_quiet (fail)
   have HO9:=Θ (HZ.out.only.drewN nq)
   clear c0 c1 c2
   go_wp2_with fail
   go_ret
   exact⟨rfl,HO9.out⟩
 ·have d0:((m:Int)==0)=false:=by rw[ΩnL];omega
  have hck:ckL m n a.root b.root Q=ckW Ωr m n a.root b.root Q:=by unfold ckL;rw[ΩnU h0,ckW_eq]
  rw[hck]
  unfold ckW
  have hwl:=ΩfG Ωr rfl n m n true a.root Q true hla hok
  obtain⟨p,ep⟩:∃p,p=(ΩM Ωr n m n true a.root (Q,true)).1.1 :=⟨_,rfl⟩
  obtain⟨q,eq⟩:∃q,q=(ΩM Ωr n m n true a.root (Q,true)).1.2 :=⟨_,rfl⟩
  have hwk:∀K T F G X W,WkS w B K T (B+1+1) F G a (.slice A Q.length cap) Q X 0 true W→Calls Tryz.prog 82 #[.int .i64 (n:Int),.int .i64 (m:Int),.bool true,.pointer (some ⟨B,0,none⟩),.pointer (some ⟨F,0,none⟩),.pointer (some ⟨G,0,none⟩)] W fun e w' =>e= .returned (.tuple #[hv (ΩM Ωr n m n true a.root (Q,true)).1.1,hv (ΩM Ωr n m n true a.root (Q,true)).1.2])∧∃j c,(ΩM Ωr n m n true a.root (Q,true)).2 =(Q.drop j,c)∧WkS w B K T (B+1+1) F G a (.slice A Q.length cap) Q W j c w' :=fun K T F G X W h=>ΩiP w B K T (B+1+1) F G a hla A cap Q hok hQ hv' n m n true 0 true W (Ωnv _) (by omega) (by omega) hn (h.from_ W (Only.refl _ _))
  obtain⟨σ,eσ⟩:∃σ,σ=(ΩM Ωr n m n true a.root (Q,true)).2 :=⟨_,rfl⟩
  rw[←ep,←eq] at hwl
  rw[←ep,←eq,←eσ] at hwk
  rw[←ep,←eq,←eσ]
  obtain⟨hp,hq2⟩:=hwl
  have hmf:∀(fn:Fn) (first cap:Array Value) (w:World),(Instr.makeFunc fn first cap).run Tryz.prog w= .ok (.func fn first cap) w:=fun _ _ _ _=>rfl
  have HWK:=Θ hwk
  have HP:=Θ hp
  have HQ2:=Θ hq2
  have HV:=Θ hv'
  have HE1:=Θ (fun W=>ΩbT p a.root hp hla W)
  have HE2:=Θ (fun W=>ΩbT q b.root hq2 hlb W)
  obtain⟨β,eβ⟩:∃β,β=(p==a.root):=⟨_,rfl⟩
  obtain⟨γ,eγ⟩:∃γ,γ=(q==b.root):=⟨_,rfl⟩
  rw[←eβ] at HE1
  rw[←eγ] at HE2
  rw[←eβ,←eγ]
  obtain⟨ρ,eρ⟩:∃ρ,ρ=(σ.2&&(σ.1.isEmpty&&(β&&γ))):=⟨_,rfl⟩
  rw[←eρ]
  have ER:=Θ eρ
  clear eρ hwk hp hq2 ep eq eσ hv' h0 hla hlb hmn hok eβ eγ hck
  go_enter Tryz.func48,Tryz.ntmps48
  go_upto_region 1 with(fail)
  rw[←EB.out]
  refine Ωf (ChG w B a b (.slice A Q.length cap) Q) HS0.out ?_
  intro Z hZ
  have c0:=HC0.out Z hZ
  have c1:=HC1.out Z hZ
  obtain⟨T,eT⟩:∃T,T=Z.heap.size:=⟨_,rfl⟩
  have hX:=WkS.made hZ eT
  unfold Ωc7 Ωc0 at hX
  have HX:=Θ hX
  have ET:=Θ eT
  clear hZ HS0 hX eT
  go_upto_region 12 with(fail)
  rw[←ET.out]
  refine Ωf (fun X=>WkS w B (T+1) T (B+1+1) (T+1+1) (T+1+1+1) a (.slice A Q.length cap) Q X 0 true X∧ChG w B a b (.slice A Q.length cap) Q X) HX.out ?_
  clear HX ET c0 c1 hmf
  rintro X ⟨hX,hXC⟩
  have c0:=HC0.out X hXC
  have c1:=HC1.out X hXC
  have cG:X.cell? ⟨T+1+1+1,0,none⟩=some (Ωc0 B (T+1+1) (T+1+1+1)):=hX.g.cell 0
  unfold Ωc0 at cG
  have HX:=Θ (And.intro hX hXC)
  clear hX hXC
  go_wp2_with fail
  (with_reducible refine(HWK.out _ _ _ _ _ _ HX.out.1).mono ?_)
  rintro e5 w5 ⟨rfl,j,c,rfl,h5⟩
  have hle:=h5.le
  have f1:=ΩbS w5 p HP.out
  have f2:=ΩbR w5 p q HQ2.out
  have hC5:=HX.out.2.kt HX.out.1 h5.only h5.only0 HV.out
  obtain⟨M,eM⟩:∃M,M=w5.heap.size:=⟨_,rfl⟩
  have hoX:Only Ωa w5 ((((w5.alloc (.cells Ωw 35)).alloc (.cells Ωw 35)).setCells w5.heap.size 0 (p.map bv)).setCells (w5.heap.size+1) 0 (q.map bv)):=Ωb (Ωb (((Only.refl _ _).alloc _).alloc _) _ 0 (.inr (Ωnv _)) _) _ 0 (.inr (by omega)) _
  have hpX:HaAt ((((w5.alloc (.cells Ωw 35)).alloc (.cells Ωw 35)).setCells w5.heap.size 0 (p.map bv)).setCells (w5.heap.size+1) 0 (q.map bv)) M p:=by rw[eM];exact(HaAt.put (Blk.alloc (ΩaI w5) _) rfl HP.out).far (by omega)
  have hqX:HaAt ((((w5.alloc (.cells Ωw 35)).alloc (.cells Ωw 35)).setCells w5.heap.size 0 (p.map bv)).setCells (w5.heap.size+1) 0 (q.map bv)) (M+1) q:=by rw[eM];exact((ΩeM w5).far (by omega)).put rfl HQ2.out
  have hx3:=And.intro (h5.keep hoX) (And.intro (hC5.keep hoX) (And.intro hpX hqX))
  rw[←eM] at hx3
  have HX3:=Θ hx3
  have EM:=Θ eM
  clear hx3 h5 hoX hpX hqX eM hC5 c0 c1 cG HX
  go_upto_region 13 with(fail)
  rw[←EM.out]
  refine Ωf (fun W=>WkS w B (T+1) T (B+1+1) (T+1+1) (T+1+1+1) a (.slice A Q.length cap) Q X j c W∧ChG w B a b (.slice A Q.length cap) Q W∧HaAt W M p∧HaAt W (M+1) q) HX3.out ?_
  clear HX3 EM f1 f2
  rintro Y ⟨hY,hYC,hp,hq⟩
  have k1:Y.cell? ⟨T+1,0,none⟩=some (.bool c):=hY.ok.cell 0
  have k2:Y.cell? ⟨T,0,none⟩=some (.int .i64 (j:Int)):=hY.at_.cell 0
  have k3:Y.cell? ⟨B+1+1,0,none⟩=some (.slice A Q.length cap):=hY.pr.cell 0
  have l1:(ΩL (.pointer (some ⟨M,0,none⟩))).run Tryz.prog Y= .ok (hv p) Y:=Ωp hp.range HP.out
  have l2:(ΩL (.pointer (some ⟨M+1,0,none⟩))).run Tryz.prog Y= .ok (hv q) Y:=Ωp hq.range HQ2.out
  have l3:(ΩL (.pointer (some ⟨B,1,none⟩))).run Tryz.prog Y= .ok (hv a.root) Y:=Ωp hYC.ra HLA.out
  have l4:(ΩL (.pointer (some ⟨B+1,1,none⟩))).run Tryz.prog Y= .ok (hv b.root) Y:=Ωp hYC.rb HLB.out
  have g1:∀x y,(eqGuard .eql 35 x y (hv p) (hv a.root)).run Tryz.prog Y= .ok () Y:=fun x y=>run_eqGuard_agg _ _ _ _ _ _ _ (by kernel_rfl)
  have g2:∀x y,(eqGuard .eql 35 x y (hv q) (hv b.root)).run Tryz.prog Y= .ok () Y:=fun x y=>run_eqGuard_agg _ _ _ _ _ _ _ (by kernel_rfl)
  have e1:(binOp .eql 35 (hv p) (hv a.root)).run Tryz.prog Y= .ok (.bool β) Y:=HE1.out Y
  have e2:(binOp .eql 35 (hv q) (hv b.root)).run Tryz.prog Y= .ok (.bool γ) Y:=HE2.out Y
  have HO9:=Θ hYC.only
  have hres:ρ=(c&&(((j:Int)==(Q.length:Int))&&(β&&γ))):=by
   rw[ER.out]
   show(c&&((Q.drop j).isEmpty &&_))=_
   rw[drop_empty hle]
  have HRES:=Θ hres
  clear hY hYC hp hq hle hres ER
  cases c with
  |false=>
   go_wp2_with fail
   go_ret
   exact⟨Ωad (by rw[HRES.out];rfl),HO9.out⟩
  |true=>
   by_cases hj:j=Q.length
   ·have j1:((j:Int)==(Q.length:Int))=true:=by simp[hj]
    clear hj
    cases β with
    |true=>
     go_wp2_with fail
     go_ret
     exact⟨Ωad (by rw[HRES.out,j1];rfl),HO9.out⟩
    |false=>
     go_wp2_with fail
     go_ret
     exact⟨Ωad (by rw[HRES.out,j1];rfl),HO9.out⟩
   ·have j1:((j:Int)==(Q.length:Int))=false:=by rw[ΩnL];omega
    clear hj
    go_wp2_with fail
    go_ret
    exact⟨Ωad (by rw[HRES.out,j1];rfl),HO9.out⟩
end
section
open Go.RowKit Go.Shelf
attribute [local go_sem ↓ high] ΩG Ωaq ΩQ ΩgK ΩaB
theorem hdBd_built1:∀(l:List UInt8),l.length=32→Tryz.prog.built 37 [(1,.agg (l.map bv).toArray)]=some (hdC ⟨0,l⟩).toArray
 |[x0,x1,x2,x3,x4,x5,x6,x7,x8,x9,x10,x11,x12,x13,x14,x15,x16,x17,x18,x19,x20,x21,x22,x23,x24,x25,x26,x27,x28,x29,x30,x31],_=>by kernel_rfl
theorem Ωjl(l:List UInt8)(hl:l.length=32)(W:World):(hdBd #[(1,hv l)]).run Tryz.prog W= .ok (.agg (hdC ⟨0,l⟩).toArray) W:=
 run_build (P:=Tryz.prog) W 37 _ _ (hdBd_built1 l hl)
def Ωx(h:Hd):Hd:=if h.size=0 then⟨0,ΩN []⟩ else h
theorem knownH_root{h:Hd}(hl:h.root.length=32):(Ωx h).root.length =32:=by
 unfold Ωx
 split
 ·exact ΩF _
 ·exact hl
theorem Ωhw{fn:Func}{p:Tmp}{tmps:Array Value}{W:World}{b:Nat}{h:Hd}(hf:fn.results= #[.cell p 37])(hp:tmps.getD p undef= .pointer (some ⟨b,0,none⟩))(hb:HdAt W b h)(hl:h.root.length=32):(results fn tmps).run Tryz.prog W= .ok (.agg (hdC h).toArray) W:=
 Ωn hf hp hb Tryz.underlying37 rfl (by rw[ΩnJ,Ωo hl];kernel_rfl)
theorem known_any(c:Cli)(base:Nat)(w:World)(h:Ωv w base c):Calls Tryz.prog 47 #[.pointer (some ⟨c.C,0,none⟩)] w fun e w' =>e= .returned (.agg (hdC (Ωx c.head)).toArray)∧Only Ωa w w' :=by
 have hR0:HdAt (w.alloc (.cells hd0C 37)) w.heap.size hd0:=Blk.new w _ _
 have h1:Ωv (w.alloc (.cells hd0C 37)) base c:=h.nn ((Only.refl _ _).alloc _)
 obtain⟨R,eR⟩:∃R,R=w.heap.size:=⟨_,rfl⟩
 rw[←eR] at hR0
 have hwR:w.heap.size≤R:=by omega
 have hnw:=Ωal
 have H1:=Θ (And.intro h1 hR0)
 have ER:=Θ eR
 have hrl:=h.hok.root
 have HRL:=Θ hrl
 by_cases hz:c.head.size=0
 ·obtain⟨x,ex⟩:∃x,x=ΩN []:=⟨_,rfl⟩
  have hxl:x.length=32:=by rw[ex];exact ΩF _
  have hk:Ωx c.head=⟨0,x⟩:=by unfold Ωx;rw[ΩnV hz,ex]
  have hroot:∀W,Calls Tryz.prog 79 #[.slice none 0 0] W fun e w' =>e= .returned (hv x)∧Only Ωa W w' :=fun W=>by rw[ex];exact troot_nil W
  obtain⟨k,ek⟩:∃k:Hd,k=⟨0,x⟩:=⟨_,rfl⟩
  have hkl:k.root.length=32:=by rw[ek];exact hxl
  have hbd:=fun W=>Ωjl x hxl W
  rw[←ek] at hbd hk
  rw[hk]
  have HRT:=Θ hroot
  have HKL:=Θ hkl
  have HZ:=Θ hz
  clear hroot hkl ex hxl hk ek hR0 h1 eR h hrl hz
  go_enter Tryz.func47,Tryz.ntmps47
  go_upto_region 1 with(fail)
  rw[←ER.out]
  refine Ωf (fun Z=>Ωv Z base c∧HdAt Z R hd0∧Only Ωa w Z) ⟨H1.out.1,H1.out.2,(Only.refl _ _).alloc _⟩ ?_
  clear H1 hnw
  rintro Z ⟨hZ,hR,hO⟩
  have c9:Z.cell? ⟨c.C,9,none⟩=some (.int .i64 0):=by rw[ΩkZ hZ.blk,HZ.out]
  have HZZ:=Θ (And.intro hR hO)
  clear hZ hR hO
  go_wp2_with fail
  refine(HRT.out _).mono ?_
  rintro e5 w5 ⟨rfl,ho5⟩
  have hR5:HdAt w5 R hd0:=Blk.only HZZ.out.1 ho5 (fun e=>e)
  have hst:=Ωax hR5 rfl HKL.out
  have HF:=Θ (And.intro (show HdAt (w5.setCells R 0 (hdC k)) R k from Ωj hR5 (by rw[Ωo HKL.out];rfl)) (Ωb (HZZ.out.2.trans ho5) R 0 (.inr hwR) (hdC k)))
  clear hR5 ho5 HZZ c9
  go_wp2_with fail
  refine bodyPost_ret (v:= .agg (hdC k).toArray) (Ωhw rfl rfl HF.out.1 HKL.out) rfl ⟨rfl,HF.out.2⟩
 ·have hk:Ωx c.head=c.head:=by unfold Ωx;rw[ΩnU hz]
  have d0:(c.head.size==0)=false:=ΩnL.2 hz
  rw[hk]
  clear hk hR0 h1 eR h hrl hz
  go_enter Tryz.func47,Tryz.ntmps47
  go_upto_region 1 with(fail)
  rw[←ER.out]
  refine Ωf (fun Z=>Ωv Z base c∧HdAt Z R hd0∧Only Ωa w Z) ⟨H1.out.1,H1.out.2,(Only.refl _ _).alloc _⟩ ?_
  clear H1 hnw
  rintro Z ⟨hZ,hR,hO⟩
  have c9:Z.cell? ⟨c.C,9,none⟩=some (.int .i64 c.head.size):=ΩkZ hZ.blk
  have hld:=ΩC (cli_hd hZ.blk) HRL.out
  have hst:=Ωax hR rfl HRL.out
  have HF:=Θ (And.intro (show HdAt (Z.setCells R 0 (hdC c.head)) R c.head from Ωj hR (by rw[Ωo HRL.out];rfl)) (Ωb hO R 0 (.inr hwR) (hdC c.head)))
  clear hZ hR hO
  go_wp2_with fail
  refine bodyPost_ret (v:= .agg (hdC c.head).toArray) (Ωhw rfl rfl HF.out.1 HRL.out) rfl ⟨rfl,HF.out.2⟩
def ΩbH(P:List Pers)(L:List Vt)(o:Option Hd):Prop:=Ωai (fun h=>h∈L.map (·.head)) (fun h=>Ωba P h L) o
noncomputable def Ωat(o:Option Hd)(old:Hd)(Q:List Hs):Int:=
 match o with
 |none=>24
 |some n=>if n.size<old.size then 32 else if n.size=old.size then(if n.root=old.root then 0 else 44) else if ckL old.size.toNat n.size.toNat old.root n.root Q=true then 0 else 41
noncomputable def Ω5(o:Option Hd)(old:Hd)(Q:List Hs)(h:Hd):Hd:=if Ωat o old Q=0 then hdOr o else h
def Ωah(h:Hd):Prop:=∃s:Nat,h.size=(s:Int)∧s≤1000
def ΩcW(L:List Vt):Prop:=∀v∈L,Ωah v.head
theorem Ωdg{h:Hd}(hs:Ωah h):Ωah (Ωx h):=by
 unfold Ωx
 split
 ·exact⟨0,rfl,by omega⟩
 ·exact hs
theorem ΩbY{L:List Vt}(hs:ΩcW L){C:Hd→Bool}{o:Option Hd}(h:Ωai (fun h=>h∈L.map (·.head)) C o):Ωah (hdOr o):=by
 cases o with
 |none=>exact⟨0,rfl,by omega⟩
 |some b=>
  obtain⟨v,hv,rfl⟩:=Ωos.1 h.1
  exact hs v hv
theorem HaSl.step{S:Nat→Prop}{w w' :World}{v:Value}{L:List Hs}(h:HaSl w v L)(ho:Only S w w')(ha:∀a n cap,v= .slice (some a) n cap→¬S a.block):HaSl w' v L:=by
 obtain⟨A,cap,rfl,h1,h2,h3⟩:=h
 refine⟨A,cap,rfl,h1,h2,fun i p hp=> ?_⟩
 obtain⟨g,o,rfl,hg,hr⟩:=h3 i p hp
 exact⟨g,o,rfl,ΩnT hg ho.size,fun j x hj=>ho.cell_some (hr j x hj) (ha ⟨g,o,none⟩ _ _ rfl)⟩
theorem cli_store_head{W:World}{c:Cli}{h:Hd}(hb:Blk W c.C tCli (cliC c).toArray)(hl:c.head.root.length=32)(hx:h.root.length=32):(ΩbJ (.pointer (some ⟨c.C,9,none⟩)) (.agg (hdC h).toArray)).run Tryz.prog W= .ok () (W.setCells c.C 9 (hdC h)):=
 run_storeAt_mid (P:=Tryz.prog) W c.C 9 37 (hdC h).toArray (hb.there 9 _ (by rw[ΩnJ,Ωo hx,ΩnJ,Ωk1 hl];omega)) (by rw[ΩnJ,Ωo hx];kernel_rfl) (all_oneCell_toArray (Ωil h))
theorem Ωv.rehead{W:World}{base:Nat}{c:Cli}(h:Ωv W base c){x:Hd}(hx:x.Ok):Ωv (W.setCells c.C 9 (hdC x)) base {c with head:=x}∧Ωl W (W.setCells c.C 9 (hdC x)) c {c with head:=x}:=by
 have ho:Only (fun k=>k=c.C) W (W.setCells c.C 9 (hdC x)):=Ωb (S:=fun k=>k=c.C) (Only.refl _ _) c.C 9 (.inl rfl) _
 exact⟨⟨cli_put_head h.blk h.hok.root x hx.root,h.lo,hx,Ωe h.pers ho (fun k hk e=>h.ne_pv (by rw[hk,e])),Ωe h.votes ho (fun k hk e=>h.ne_vv (by rw[hk,e])),h.ok,h.seen.only ho (fun k hk e=>h.ne_mv (by rw[hk,e])),h.sok⟩,ho.mono (fun k _ e=> .inl e),fun k hk=> .inl hk⟩
structure HdS(w:World)(base N M:Nat)(c c9:Cli)(a b:Hd)(W:World):Prop where
 cli:Ωv W base c9
 step:Ωl w W c c9
 a:HdAt W N a
 b:HdAt W M b
theorem HdS.keep{w:World}{base N M:Nat}{c c9:Cli}{a b:Hd}{W W' :World}(h:HdS w base N M c c9 a b W)(ho:Only Ωa W W'):HdS w base N M c c9 a b W' :=⟨h.cli.nn ho,h.step.trans (Ωl.nn ho),Blk.only h.a ho (fun e=>e),Blk.only h.b ho (fun e=>e)⟩
theorem Ωa9(W:World){h:Hd}(hl:h.root.length=32):(ΩbJ (.pointer (some ⟨W.heap.size,0,none⟩)) (.agg (hdC h).toArray)).run Tryz.prog (W.alloc (.cells hd0C 37))= .ok () ((W.alloc (.cells hd0C 37)).setCells W.heap.size 0 (hdC h)):=Ωax (Blk.new W _ _) rfl hl
theorem Ωjb(a b:Hs)(ha:a.length=32)(hb:b.length=32)(W:World):(binOp .neq 35 (hv a) (hv b)).run Tryz.prog W= .ok (.bool (!(a==b))) W:=neq_hash a b ha hb W
theorem ΩkJ(w0:World)(ht:Tab w0)(c:Cli)(base:Nat)(hb0:w0.heap.size≤base)(hcs:c.seen=c.votes)(hP:ΩS c.P)(hlen:c.P.length≤1000)(hsm:Ωah c.head)(L:List Vt)(hok:Ω4 L)(hsv:ΩcW L)(hL:L.length≤1000)(hn:c.votes.length≤50000)(sv:Value)(Q:List Hs)(hqok:HsOk Q)(hQ:Q.length≤100000)(qv:Value)(w:World)(how:Only Ωa w0 w)(h:Ωv w base c)(hb:base≤w.heap.size)(hs:VtSl w sv L)(ha:ΩdT c sv)(hq:HaSl w qv Q)(hqa:ΩdT c qv):
  Calls Tryz.prog 19 #[.pointer (some ⟨c.C,0,none⟩),sv,qv] w fun e w' =>∃o,ΩbH c.P L o∧e= .returned (.int .i64 (Ωat o (Ωx c.head) Q))∧∃vv mv,Ωv w' base {c.took vv mv L with head:=Ω5 o (Ωx c.head) Q c.head}∧Ωl w w' c {c.took vv mv L with head:=Ω5 o (Ωx c.head) Q c.head}:=by
 have hce:=ΩeT w0 ht c base hb0 hcs hP hlen L hok hL hn sv w how h hb hs ha
 have HCE:=Θ hce
 have HOK:=Θ hok
 have HSV:=Θ hsv
 have HQ:=Θ (And.intro hq hqa)
 have HQOK:=Θ hqok
 have HSM:=Θ (Ωdg hsm)
 have HKR:=Θ (knownH_root h.hok.root)
 have HHD:=Θ h.hok
 obtain⟨old,eold⟩:∃old,old=Ωx c.head:=⟨_,rfl⟩
 rw[←eold] at HSM HKR⊢
 have EO:=Θ eold
 obtain⟨qA,qcap,rfl,_,_,_⟩:=id hq
 clear hce hok hsv hq hqa hqok hsm h hs ha ht how hP hcs eold
 have hnw:=Ωal
 go_enter Tryz.func19,Tryz.ntmps19
 go_wp2_with fail
 refine HCE.out.mono ?_
 rintro e5 w5 ⟨o,hbo,rfl,vv,mv,hc5,hs5⟩
 have hho:=Ωhb HOK.out hbo
 have hhs:=ΩbY HSV.out hbo
 obtain⟨n,en⟩:∃n,n=hdOr o:=⟨_,rfl⟩
 rw[←en] at hho hhs⊢
 have hnl:=hho.root
 obtain⟨c9,ec9⟩:∃c9:Cli,c9=c.took vv mv L:=⟨_,rfl⟩
 rw[←ec9] at hc5 hs5
 have hC9:c9.C=c.C:=by rw[ec9];rfl
 have hh9:c9.head=c.head:=by rw[ec9];rfl
 have hst:=Ωa9 w5 hnl
 have ho6:Only Ωa w5 ((w5.alloc (.cells hd0C 37)).setCells w5.heap.size 0 (hdC n)):=Ωb ((Only.refl _ _).alloc _) w5.heap.size 0 (.inr (Ωnv _)) _
 have ha6:HdAt ((w5.alloc (.cells hd0C 37)).setCells w5.heap.size 0 (hdC n)) w5.heap.size n:=Ωj (Blk.new w5 _ _) (by rw[Ωo hnl];rfl)
 obtain⟨N,eN⟩:∃N,N=w5.heap.size:=⟨_,rfl⟩
 rw[←eN] at ho6 ha6
 have H6:=Θ (And.intro (hc5.nn ho6) (And.intro (hs5.trans (Ωl.nn ho6)) ha6))
 have EN:=Θ eN
 have EC9:=Θ ec9
 have EHN:=Θ en
 have HBO:Hid (ΩbH c.P L o):=Θ hbo
 have HHO:=Θ hho
 have HHS:=Θ hhs
 have HC9:=Θ hC9
 have HH9:=Θ hh9
 clear ho6 ha6 eN ec9 en hbo hho hhs hC9 hh9 hc5 hs5 HCE
 go_upto_region 4 with(fail)
 rw[←EN.out]
 refine Ωf (fun W=>Ωv W base c9∧Ωl w W c c9∧HdAt W N n) H6.out ?_
 clear H6 EN hst
 rintro Y ⟨hY1,hY2,hY3⟩
 have hkn:Calls Tryz.prog 47 #[.pointer (some ⟨c.C,0,none⟩)] Y fun e w' =>e= .returned (.agg (hdC old).toArray)∧Only Ωa Y w' :=by
  have h1:=known_any c9 base Y hY1
  rw[HC9.out,HH9.out,←EO.out] at h1
  exact h1
 have HKN:=Θ hkn
 have HY:=Θ (And.intro hY1 (And.intro hY2 hY3))
 clear hY1 hY2 hY3 hkn
 go_wp2_with fail
 refine HKN.out.mono ?_
 rintro e7 w7 ⟨rfl,ho7⟩
 have hst:=Ωa9 w7 HKR.out
 have ho8:Only Ωa w7 ((w7.alloc (.cells hd0C 37)).setCells w7.heap.size 0 (hdC old)):=Ωb ((Only.refl _ _).alloc _) w7.heap.size 0 (.inr (Ωnv _)) _
 have ha8:HdAt ((w7.alloc (.cells hd0C 37)).setCells w7.heap.size 0 (hdC old)) w7.heap.size old:=Ωj (Blk.new w7 _ _) (by rw[Ωo HKR.out];rfl)
 obtain⟨M,eM⟩:∃M,M=w7.heap.size:=⟨_,rfl⟩
 rw[←eM] at ho8 ha8
 have ho78:=ho7.trans ho8
 have hS8:HdS w base N M c c9 n old ((w7.alloc (.cells hd0C 37)).setCells M 0 (hdC old)):=⟨HY.out.1.nn ho78,HY.out.2.1.trans (Ωl.nn ho78),Blk.only HY.out.2.2 ho78 (fun e=>e),ha8⟩
 have H8:=Θ hS8
 have EM:=Θ eM
 clear ho7 ho8 ha8 ho78 hS8 eM HY HKN
 go_upto_region 5 with(fail)
 rw[←EM.out]
 refine Ωf (HdS w base N M c c9 n old) H8.out ?_
 clear H8 EM hst hnw
 intro Z hZ
 obtain⟨s1,es1,hs1⟩:=HHS.out
 obtain⟨s2,es2,hs2⟩:=HSM.out
 have z1:Z.cell? ⟨N,0,none⟩=some (.int .i64 (s1:Int)):=by rw[←es1];exact Blk.cell hZ.a 0
 have z2:Z.cell? ⟨M,0,none⟩=some (.int .i64 (s2:Int)):=by rw[←es2];exact Blk.cell hZ.b 0
 have l1:(ΩL (.pointer (some ⟨N,1,none⟩))).run Tryz.prog Z= .ok (hv n.root) Z:=Ωp (ΩD (Ωd hZ.a)) HHO.out.root
 have l2:(ΩL (.pointer (some ⟨M,1,none⟩))).run Tryz.prog Z= .ok (hv old.root) Z:=Ωp (ΩD (Ωd hZ.b)) HKR.out
 have l3:=ΩC (Ωd hZ.a) HHO.out.root
 have l4:=ΩC (Ωd hZ.b) HKR.out
 have q1:=Ωjb n.root old.root HHO.out.root HKR.out Z
 have q2:∀x y,(eqGuard .neq 35 x y (hv n.root) (hv old.root)).run Tryz.prog Z= .ok () Z:=fun x y=>run_eqGuard_agg _ _ _ _ _ _ _ (by kernel_rfl)
 have HFIN:Hid (∀W,HdS w base N M c c9 n old W→Ωat o old Q≠0→∃vv mv,Ωv W base {c.took vv mv L with head:=Ω5 o old Q c.head}∧Ωl w W c {c.took vv mv L with head:=Ω5 o old Q c.head}):=Θ (fun W hW hr=>⟨vv,mv,by
  have e:({c.took vv mv L with head:=Ω5 o old Q c.head}:Cli)=c9:=by unfold Ω5;rw[ΩnU hr,EC9.out];rfl
  rw[e]
  exact⟨hW.cli,hW.step⟩⟩)
 have HZ:=Θ hZ
 have HSET:Hid (∀W,HdS w base N M c c9 n old W→Ωat o old Q=0→(ΩbJ (.pointer (some ⟨c.C,9,none⟩)) (.agg (hdC n).toArray)).run Tryz.prog W= .ok () (W.setCells c.C 9 (hdC n))∧∃vv mv,Ωv (W.setCells c.C 9 (hdC n)) base {c.took vv mv L with head:=Ω5 o old Q c.head}∧Ωl w (W.setCells c.C 9 (hdC n)) c {c.took vv mv L with head:=Ω5 o old Q c.head}):=Θ (fun W hW hr=>by
  have h1:=cli_store_head (c:=c9) hW.cli.blk hW.cli.hok.root HHO.out.root
  have h2:=hW.cli.rehead HHO.out
  have hWe:W.setCells c9.C 9 (hdC n)=W.setCells c.C 9 (hdC n):=by rw[HC9.out]
  rw[hWe] at h2
  rw[HC9.out] at h1
  refine⟨h1,vv,mv,?_⟩
  have e:({c.took vv mv L with head:=Ω5 o old Q c.head}:Cli)={c9 with head:=n}:=by unfold Ω5;rw[ΩnV hr,EC9.out,EHN.out]
  rw[e]
  exact⟨h2.1,hW.step.trans h2.2⟩)
 have HCG:Hid (s2<s1→∀W,HdS w base N M c c9 n old W→Calls Tryz.prog 48 #[.agg (hdC old).toArray,.agg (hdC n).toArray,.slice qA Q.length qcap] W fun e w' =>e= .returned (.bool (ckL s2 s1 old.root n.root Q))∧Only Ωa W w'):=Θ (fun hlt W hW=>tcheckgrowth_any old n s2 s1 es2 es1 hlt hs1 HKR.out HHO.out.root Q HQOK.out hQ _ W (HQ.out.1.step hW.step.1 (fun a n cap e=>HQ.out.2 a n cap e)))
 clear hZ
 cases o with
 |none=>
  go_wp2_with fail
  go_ret
  exact⟨none,HBO.out,rfl,HFIN.out _ HZ.out (by show(24:Int)≠0;decide)⟩
 |some m=>
  have hm:n=m:=EHN.out
  have hres:Ωat (some m) old Q=if(s1:Int)<(s2:Int) then 32 else if(s1:Int)=(s2:Int) then(if n.root=old.root then 0 else 44) else if ckL s2 s1 old.root n.root Q=true then 0 else 41:=by
   rw[←hm]
   unfold Ωat
   simp only[es1,es2,Ωoj]
  have HRES:=Θ hres
  clear hm hres
  by_cases g1:s1<s2
  ·have d1:decide ((s1:Int)<(s2:Int))=true:=ΩnG (by omega)
   have hr:Ωat (some m) old Q=32:=by rw[HRES.out,ΩnV (by omega)]
   have HR:=Θ hr
   clear hr
   go_wp2_with fail
   go_ret
   exact⟨some m,HBO.out,ΩB HR.out.symm,HFIN.out _ HZ.out (by rw[HR.out];decide)⟩
  ·have d1:decide ((s1:Int)<(s2:Int))=false:=Ωny (by omega)
   have d1n:decide (s1<s2)=false:=Ωny g1
   by_cases g2:s1=s2
   ·have d2:((s1:Int)==(s2:Int))=true:=by simp[g2]
    have d3:decide ((s2:Int)<(s1:Int))=false:=Ωny (by omega)
    have d3n:decide (s2<s1)=false:=Ωny (by omega)
    have d3m:¬s2<s1:=by omega
    cases hβ:(n.root==old.root) with
    |true=>
     have hr:Ωat (some m) old Q=0:=by rw[HRES.out,ΩnU (by omega),ΩnV (by omega),ΩnV (beq_iff_eq.1 hβ)]
     rw[hβ] at q1
     have hss:=HSET.out Z HZ.out hr
     have hst:=hss.1
     have HS:=Θ hss.2
     have HR:=Θ hr
     clear hr hss g1 g2 hβ
     go_wp2_with fail
     go_ret
     exact⟨some m,HBO.out,ΩB HR.out.symm,HS.out⟩
    |false=>
     have hr:Ωat (some m) old Q=44:=by rw[HRES.out,ΩnU (by omega),ΩnV (by omega),ΩnU (ΩnL.1 hβ)]
     rw[hβ] at q1
     have HR:=Θ hr
     clear hr g1 g2 hβ
     go_wp2_with fail
     go_ret
     exact⟨some m,HBO.out,ΩB HR.out.symm,HFIN.out _ HZ.out (by rw[HR.out];decide)⟩
   ·have d2:((s1:Int)==(s2:Int))=false:=by rw[ΩnL];omega
    have d3:decide ((s2:Int)<(s1:Int))=true:=ΩnG (by omega)
    have d3n:decide (s2<s1)=true:=ΩnG (by omega)
    have d3m:s2<s1:=by omega
    have hcg:=HCG.out d3m Z HZ.out
    obtain⟨β,eβ⟩:∃β,β=ckL s2 s1 old.root n.root Q:=⟨_,rfl⟩
    rw[←eβ] at hcg
    have HC:=Θ hcg
    have hr0:Ωat (some m) old Q=if β=true then 0 else 41:=by rw[HRES.out,ΩnU (by omega),ΩnU (by omega),eβ]
    have HR0:=Θ hr0
    clear hcg hr0 eβ g1 g2
    go_wp2_with fail
    refine HC.out.mono ?_
    rintro e3 w3 ⟨rfl,ho3⟩
    have hS3:=HZ.out.keep ho3
    clear ho3 z1 z2 l1 l2
    cases β with
    |true=>
     have hr:Ωat (some m) old Q=0:=by rw[HR0.out];rfl
     have hss:=HSET.out w3 hS3 hr
     have hst:=hss.1
     have l5:=ΩC (Ωd hS3.a) HHO.out.root
     have HS:=Θ hss.2
     have HR:=Θ hr
     clear hr hss hS3
     go_wp2_with fail
     go_ret
     exact⟨some m,HBO.out,ΩB HR.out.symm,HS.out⟩
    |false=>
     have hr:Ωat (some m) old Q=41:=by rw[HR0.out];rfl
     have HR:=Θ hr
     have HS3:=Θ hS3
     clear hr hS3
     go_wp2_with fail
     go_ret
     exact⟨some m,HBO.out,ΩB HR.out.symm,HFIN.out _ HS3.out (by rw[HR.out];decide)⟩
end
section
open Go.RowKit Go.Shelf
attribute [local go_sem ↓ high] ΩG
theorem func_nil(F:Fn)(p c:Array Value)(W:World):(binOp .eql 117 (.func F p c) .nilFunc).run Tryz.prog W= .ok (.bool false) W:=by kernel_rfl
structure AgS(w:World)(B:Nat)(a b:Hd)(W:World):Prop where
 a:HdAt W B a
 b:HdAt W (B+1) b
 only:Only Ωa w W
theorem AgS.new(w:World)(a b:Hd):AgS w w.heap.size a b ((w.alloc (.cells (hdC a).toArray 37)).alloc (.cells (hdC b).toArray 37)):=by
 have h2:=Blk.new (w.alloc (.cells (hdC a).toArray 37)) tHd (hdC b).toArray
 rw[Ωnw] at h2
 exact⟨(Blk.new w _ _).alloc _,h2,((Only.refl _ _).alloc _).alloc _⟩
theorem ΩeY(f:Hd→Hd→Bool)(a b:Hd):agB f a b=if eqHd a b then true else if a.size=b.size then false else if a.size<b.size then f a b else f b a:=by
 cases he:eqHd a b with
 |true=>unfold agB;rw[he];rfl
 |false=>
  rw[ΩnU (by decide)]
  by_cases hs:a.size=b.size
  ·rw[ΩnV hs];exact agB_same f (Ωfm.1 he) hs
  ·rw[ΩnU hs]
   by_cases hl:a.size<b.size
   ·rw[ΩnV hl];exact ΩmV f hl
   ·rw[ΩnU hl];exact agB_gt f (by omega)
end
end Go.Proofs.YtgalfohobgjelaaGreatDoor
