/- What is proved here: a part of the proof that 'probitylaw31.ClientPlays' answers true. Conditions: each theorem's own. -/
import Derived.Test.YtgalfohobgjelaaGreatDoorPy19
set_option maxRecDepth 100000
set_option maxHeartbeats 8000000
namespace Go.Proofs.YtgalfohobgjelaaGreatDoor
section
open Go.RowKit Go.Shelf
attribute [local go_sem ↓ high] Ωaq ΩQ ΩgK
def hdOf(L:List ByteArray):Hd:=⟨(L.length:Int),ΩN (txs L)⟩
theorem ΩgJ{L:List ByteArray}(h:L.length≤1000):(hdOf L).Ok :=⟨⟨by show(-9223372036854775808:Int)≤(L.length:Int);omega,by show(L.length:Int)≤9223372036854775807;omega⟩,ΩF _⟩
structure HoS(w:World)(B:Nat)(v:Value)(L:List ByteArray)(W:World):Prop where
 l:StSl W v L
 r:Blk W B tHd hd0C
 only:Only Ωa w W
theorem HoS.keep{w:World}{B:Nat}{v:Value}{L:List ByteArray}{W W' :World}(h:HoS w B v L W)(ho:Only Ωa W W'):HoS w B v L W' :=⟨h.l.only ho,h.r.only ho (fun e=>e),h.only.trans ho⟩
theorem ΩcM(L:List ByteArray)(hm:L.length≤1000)(hsh:Ωb7 L)(v:Value)(w:World)(hs:StSl w v L):Calls Tryz.prog 15 #[v] w fun e w' =>e= .returned (.agg (hdC (hdOf L)).toArray)∧Only Ωa w w' :=by
 obtain⟨m,em⟩:∃m,m=ΩN (txs L):=⟨_,rfl⟩
 have hml:m.length=32:=by rw[em];exact ΩF _
 have hroot:∀W,StSl W v L→Calls Tryz.prog 42 #[v] W fun e w' =>e= .returned (.agg (m.map bv).toArray)∧Only Ωa W w' :=fun W h=>by rw[em];exact Ωbi L.length L (Ωnv _) hm hsh v W h
 have hho:hdOf L=⟨(L.length:Int),m⟩:=by rw[em];rfl
 obtain⟨h,eh⟩:∃h,h=hdOf L:=⟨_,rfl⟩
 have hl:h.root.length=32:=by rw[eh];exact ΩF _
 have hbd:=fun W=>hdBd_run (L.length:Int) m hml W
 rw[←hho,←eh] at hbd
 rw[←eh]
 obtain⟨A,cap,rfl,_,_,_⟩:=id hs
 have hS0:HoS w w.heap.size (.slice A L.length cap) L (w.alloc (.cells hd0C 37)):=⟨hs.only ((Only.refl _ _).alloc _),Blk.new w _ _,(Only.refl _ _).alloc _⟩
 obtain⟨B,eB⟩:∃B,B=w.heap.size:=⟨_,rfl⟩
 rw[←eB] at hS0
 have hnw:=Ωal
 have HS0:=Θ hS0
 have EB:=Θ eB
 have HR:=Θ hroot
 have HL:=Θ hl
 clear hroot em hml hho eh hl hS0 eB hs hsh hm
 go_enter Tryz.func15,Tryz.ntmps15
 go_upto_region 1 with(fail)
 rw[←EB.out]
 refine Ωf (HoS w B (.slice A L.length cap) L) HS0.out ?_
 intro Z hZ
 have HZ:=Θ hZ
 clear hZ HS0 hnw
 go_wp2_with fail
 refine(HR.out _ HZ.out.l).mono ?_
 rintro e1 w1 ⟨rfl,ho1⟩
 have hb1:=HZ.out.keep ho1
 have hst:=Ωax hb1.r rfl HL.out
 have HB2:=Θ (Ωj (ds:=hdC h) hb1.r (by rw[Ωo HL.out];rfl))
 have HO2:=Θ (Ωb hb1.only B 0 (.inr (by have:=EB.out;omega)) (hdC h))
 have HI:Hid ((Tryz.prog.info? tHd).map (·.size)=some (hdC h).toArray.size):=Θ (by rw[ΩnJ,Ωo HL.out];kernel_rfl)
 clear hb1 ho1
 go_wp2_with fail
 refine bodyPost_ret (v:= .agg (hdC h).toArray) (Ωn rfl rfl HB2.out Tryz.underlying37 rfl HI.out) rfl ⟨rfl,HO2.out⟩
end
section
open Go.RowKit Go.Shelf
attribute [local go_sem ↓ high] ΩaB ΩaF
def ckL(m n:Nat)(o r:Hs)(Q:List Hs):Bool:=if m=0 then(if Q.length=0 then o==ΩN [] else false) else ckB m n o r Q
structure CgS(w:World)(B:Nat)(a b:Hd)(v:Value)(Q:List Hs)(W:World):Prop where
 fa:HdAt W B a
 fb:HdAt W (B+1) b
 ra:W.rangeAt B 1 (a.root.map bv)
 rb:W.rangeAt (B+1) 1 (b.root.map bv)
 l:HaSl W v Q
 only:Only Ωa w W
theorem CgS.keep{w:World}{B:Nat}{a b:Hd}{v:Value}{Q:List Hs}{W W' :World}(h:CgS w B a b v Q W)(ho:Only Ωa W W'):CgS w B a b v Q W' :=
 ⟨Blk.only h.fa ho (fun e=>e),Blk.only h.fb ho (fun e=>e),Ωu h.ra ho,Ωu h.rb ho,h.l.only ho,h.only.trans ho⟩
theorem CgS.new{w:World}{a b:Hd}{v:Value}{Q:List Hs}(hs:HaSl w v Q):CgS w w.heap.size a b v Q ((w.alloc (.cells (hdC a).toArray 37)).alloc (.cells (hdC b).toArray 37)):=by
 have h1:=(Blk.new w tHd (hdC a).toArray).alloc (.cells (hdC b).toArray 37)
 have h2:=Blk.new (w.alloc (.cells (hdC a).toArray 37)) tHd (hdC b).toArray
 rw[Ωnw] at h2
 have ho:Only Ωa w ((w.alloc (.cells (hdC a).toArray 37)).alloc (.cells (hdC b).toArray 37)):=((Only.refl _ _).alloc _).alloc _
 exact⟨h1,h2,ΩD (Ωd h1),ΩD (Ωd h2),hs.only ho,ho⟩
theorem rcheckgrowth_any(a b:Hd)(m n:Nat)(ha:a.size=(m:Int))(hb:b.size=(n:Int))(hmn:m<n)(hn:n≤1000)(hla:a.root.length=32)(hlb:b.root.length=32)(Q:List Hs)(hok:HsOk Q)(_hQ:Q.length≤100000)(v:Value)(w:World)(hv' :HaSl w v Q):
  Calls Tryz.prog 96 #[.agg (hdC a).toArray,.agg (hdC b).toArray,v] w fun e w' =>e= .returned (.bool (ckL m n a.root b.root Q))∧Only Ωa w w' :=by
 obtain⟨A,cap,rfl,hlc,hcm,hA⟩:=id hv'
 have hS0:=CgS.new (a:=a) (b:=b) hv'
 obtain⟨B,eB⟩:∃B,B=w.heap.size:=⟨_,rfl⟩
 rw[←eB] at hS0
 have hc0:∀W,CgS w B a b (.slice A Q.length cap) Q W→W.cell? ⟨B,0,none⟩=some (.int .i64 (m:Int)):=fun W h=>by rw[←ha];exact Blk.cell h.fa 0
 have hc1:∀W,CgS w B a b (.slice A Q.length cap) Q W→W.cell? ⟨B+1,0,none⟩=some (.int .i64 (n:Int)):=fun W h=>by rw[←hb];exact Blk.cell h.fb 0
 have HS0:=Θ hS0
 have EB:=Θ eB
 have HC0:=Θ hc0
 have HC1:=Θ hc1
 have HLA:=Θ hla
 have HLB:=Θ hlb
 have n1:decide ((n:Int)<(m:Int))=false:=Ωny (by omega)
 have n2:decide (n<m)=false:=Ωny (by omega)
 have n3:((m:Int)==(n:Int))=false:=by rw[ΩnL];omega
 clear hS0 eB hA hc0 hc1 ha hb
 by_cases h0:m=0
 ·have d0:((m:Int)==0)=true:=by simp[h0]
  by_cases hq:Q.length=0
  ·have q0:((Q.length:Int)==0)=true:=by simp[hq]
   have hr:ckL m n a.root b.root Q=(a.root==ΩN []):=by unfold ckL;rw[ΩnV h0,ΩnV hq]
   obtain⟨x,ex⟩:∃x,x=ΩN []:=⟨_,rfl⟩
   have hx:x.length=32:=by rw[ex];exact ΩF _
   have hsum:∀W,Calls Tryz.prog 71 #[.string ⟨#[]⟩] W fun e w' =>e= .returned (hv x)∧Only Ωa W w' :=fun W=>by rw[ex];exact Ωdx ⟨#[]⟩ W (by decide)
   rw[hr,←ex]
   have HQE:=Θ (fun W=>ΩbT a.root x hla hx W)
   have H1:=Θ hsum
   clear hsum ex hr hv' h0 hq hla hlb hmn hok
   go_enter Tryz.func96,Tryz.ntmps96
   go_upto_region 1 with(fail)
   rw[←EB.out]
   refine Ωf (CgS w B a b (.slice A Q.length cap) Q) HS0.out ?_
   intro Z hZ
   have c0:=HC0.out Z hZ
   have c1:=HC1.out Z hZ
   have HZ:=Θ hZ
   clear hZ HS0
   go_upto_region 6 with(fail)
   obtain⟨ft,hfx⟩:=Ωbp (CgS w B a b (.slice A Q.length cap) Q) (W0:=Z.drew) (HZ.out.keep (Only.refl Ωa Z).drew)
   obtain⟨F,hI,hF0,hF,hFS⟩:=hfx
   have f1:∀z,(ΩL (.pointer (some ⟨B,1,none⟩))).run Tryz.prog (F z)= .ok (hv a.root) (F z):=fun z=>Ωp (hFS z).ra HLA.out
   have f2:∀z,(binOp .eql 35 (hv a.root) (hv x)).run Tryz.prog (F z)= .ok (.bool (a.root==x)) (F z):=fun z=>HQE.out (F z)
   have f3:∀p q z,(eqGuard .eql 35 p q (hv a.root) (hv x)).run Tryz.prog (F z)= .ok () (F z):=fun p q z=>run_eqGuard_agg _ _ _ _ _ _ _ (by kernel_rfl)
   have D1:Hid (∀z,Calls Tryz.prog 71 #[.string ⟨#[]⟩] (F z) fun e w' =>e= .returned (hv x)∧∃z',w' =F z'):=Θ (fun z=>(H1.out _).mono (fun e w' hh=>⟨hh.1,(hF w').1 ((hFS z).keep hh.2)⟩))
   have HF:=Θ hF
   have HF0:=Θ hF0
   clear hF hF0 hFS c0 c1
   refine Ω9 F (by kernel_rfl) (by kernel_rfl) HF0.out ?_
   repeat(go_big_quiet_step (with_reducible exact D1.out _))
   refine wpQuiet_nil ?_
   intro w9 hw9
   have HO9:=Θ ((HF.out w9).2 hw9).only
   clear hw9 f1 f2 f3
   go_wp2_with fail
   go_ret
   exact⟨rfl,HO9.out⟩
  ·have q0:((Q.length:Int)==0)=false:=by rw[ΩnL];omega
   have hr:ckL m n a.root b.root Q=false:=by unfold ckL;rw[ΩnV h0,ΩnU hq]
   rw[hr]
   clear hr hv' h0 hq hla hlb hmn hok
   go_enter Tryz.func96,Tryz.ntmps96
   go_upto_region 1 with(fail)
   rw[←EB.out]
   refine Ωf (CgS w B a b (.slice A Q.length cap) Q) HS0.out ?_
   intro Z hZ
   have c0:=HC0.out Z hZ
   have c1:=HC1.out Z hZ
   have HZ:=Θ hZ
   clear hZ HS0
   go_upto_region 6 with(fail)
   go_quiet (fail)
   have HO9:=Θ (HZ.out.only.drewN nq)
   clear c0 c1
   go_wp2_with fail
   go_ret
   exact⟨rfl,HO9.out⟩
 ·have d0:((m:Int)==0)=false:=by rw[ΩnL];omega
  obtain⟨d,ed⟩:∃d,d=ΩaP n m n true:=⟨_,rfl⟩
  have hmany:∀W,Calls Tryz.prog 141 #[.int .i64 (m:Int),.int .i64 (n:Int),.bool true] W fun e w' =>e= .returned (.int .i64 (d:Int))∧w' =W:=fun W=>by rw[ed];exact Ωgo n m n true (Ωnv _) (by omega) (by omega) (by omega) W
  have hr:ckL m n a.root b.root Q=if Q.length=d then((ΩaG n m n true a.root Q.reverse).1 ==a.root&&(ΩaG n m n true a.root Q.reverse).2 ==b.root) else false:=by unfold ckL ckB;rw[ΩnU h0,←ed]
  have HM:=Θ hmany
  rw[hr]
  by_cases hq:Q.length=d
  ·have q0:((Q.length:Int)==(d:Int))=true:=by simp[hq]
   have q1:((Q.length:Int)!=(d:Int))=false:=by simp[hq]
   rw[ΩnV hq]
   have hl2:=Ωdr n m n true a.root Q.reverse hla (fun h hh=>hok h (List.mem_reverse.1 hh)) (by rw[Ωog,hq,ed])
   have hbo:∀W,HaSl W (.slice A Q.length cap) Q→Calls Tryz.prog 142 #[.int .i64 (m:Int),.int .i64 (n:Int),.bool true,hv a.root,.slice A Q.length cap] W fun e w' =>e= .returned (.tuple #[hv (ΩaG n m n true a.root Q.reverse).1,hv (ΩaG n m n true a.root Q.reverse).2])∧Only Ωa W w' :=fun W hs=>Ωgt n m n true a.root Q _ W hla (Ωnv _) (by omega) (by omega) (by omega) hok (by rw[hq,ed]) hs
   obtain⟨p,ep⟩:∃p,p=(ΩaG n m n true a.root Q.reverse).1 :=⟨_,rfl⟩
   obtain⟨q,eq⟩:∃q,q=(ΩaG n m n true a.root Q.reverse).2 :=⟨_,rfl⟩
   rw[←ep,←eq] at hbo hl2⊢
   obtain⟨hp,hq2⟩:=hl2
   have HBO:=Θ hbo
   have HP:=Θ hp
   have HQ2:=Θ hq2
   have HE1:=Θ (fun W=>ΩbT p a.root hp hla W)
   have HE2:=Θ (fun W=>ΩbT q b.root hq2 hlb W)
   obtain⟨β,eβ⟩:∃β,β=(p==a.root):=⟨_,rfl⟩
   obtain⟨γ,eγ⟩:∃γ,γ=(q==b.root):=⟨_,rfl⟩
   rw[←eβ] at HE1
   rw[←eγ] at HE2
   rw[←eβ,←eγ]
   clear hmany hbo hp hq2 ep eq ed hr hv' h0 hq hla hlb hmn hok eβ eγ
   go_enter Tryz.func96,Tryz.ntmps96
   go_upto_region 1 with(fail)
   rw[←EB.out]
   refine Ωf (CgS w B a b (.slice A Q.length cap) Q) HS0.out ?_
   intro Z hZ
   have c0:=HC0.out Z hZ
   have c1:=HC1.out Z hZ
   have l1:(ΩL (.pointer (some ⟨B,1,none⟩))).run Tryz.prog Z= .ok (hv a.root) Z:=Ωp hZ.ra HLA.out
   have HZ:=Θ hZ
   clear hZ HS0
   go_wp2_with fail
   refine(HM.out _).mono ?_
   rintro e1 w1 ⟨rfl,rfl⟩
   go_wp2_with fail
   refine(HBO.out _ HZ.out.l).mono ?_
   rintro e2 w2 ⟨rfl,ho2⟩
   have f1:=ΩbS w2 p HP.out
   have f2:=ΩbR w2 p q HQ2.out
   have hX:=HZ.out.keep ho2
   obtain⟨M,eM⟩:∃M,M=w2.heap.size:=⟨_,rfl⟩
   have hs2:∃X,X=((((w2.alloc (.cells Ωw 35)).alloc (.cells Ωw 35)).setCells w2.heap.size 0 (p.map bv)).setCells (w2.heap.size+1) 0 (q.map bv)):=⟨_,rfl⟩
   have hoX:Only Ωa w2 ((((w2.alloc (.cells Ωw 35)).alloc (.cells Ωw 35)).setCells w2.heap.size 0 (p.map bv)).setCells (w2.heap.size+1) 0 (q.map bv)):=Ωb (Ωb (((Only.refl _ _).alloc _).alloc _) _ 0 (.inr (Ωnv _)) _) _ 0 (.inr (by omega)) _
   have hpX:HaAt ((((w2.alloc (.cells Ωw 35)).alloc (.cells Ωw 35)).setCells w2.heap.size 0 (p.map bv)).setCells (w2.heap.size+1) 0 (q.map bv)) M p:=by rw[eM];exact(HaAt.put (Blk.alloc (ΩaI w2) _) rfl HP.out).far (by omega)
   have hqX:HaAt ((((w2.alloc (.cells Ωw 35)).alloc (.cells Ωw 35)).setCells w2.heap.size 0 (p.map bv)).setCells (w2.heap.size+1) 0 (q.map bv)) (M+1) q:=by rw[eM];exact((ΩeM w2).far (by omega)).put rfl HQ2.out
   have hx3:=And.intro (hX.keep hoX) (And.intro hpX hqX)
   rw[←eM] at hx3
   have HX:=Θ hx3
   have EM:=Θ eM
   clear hx3 hX hoX hpX hqX eM hs2 ho2 c0 c1 l1 HZ
   go_upto_region 10 with(fail)
   rw[←EM.out]
   refine Ωf (fun W=>CgS w B a b (.slice A Q.length cap) Q W∧HaAt W M p∧HaAt W (M+1) q) HX.out ?_
   rintro Y ⟨hY,hp,hq⟩
   have l1:(ΩL (.pointer (some ⟨M,0,none⟩))).run Tryz.prog Y= .ok (hv p) Y:=Ωp hp.range HP.out
   have l2:(ΩL (.pointer (some ⟨M+1,0,none⟩))).run Tryz.prog Y= .ok (hv q) Y:=Ωp hq.range HQ2.out
   have l3:(ΩL (.pointer (some ⟨B,1,none⟩))).run Tryz.prog Y= .ok (hv a.root) Y:=Ωp hY.ra HLA.out
   have l4:(ΩL (.pointer (some ⟨B+1,1,none⟩))).run Tryz.prog Y= .ok (hv b.root) Y:=Ωp hY.rb HLB.out
   have g1:∀x y,(eqGuard .eql 35 x y (hv p) (hv a.root)).run Tryz.prog Y= .ok () Y:=fun x y=>run_eqGuard_agg _ _ _ _ _ _ _ (by kernel_rfl)
   have g2:∀x y,(eqGuard .eql 35 x y (hv q) (hv b.root)).run Tryz.prog Y= .ok () Y:=fun x y=>run_eqGuard_agg _ _ _ _ _ _ _ (by kernel_rfl)
   have e1:(binOp .eql 35 (hv p) (hv a.root)).run Tryz.prog Y= .ok (.bool β) Y:=HE1.out Y
   have e2:(binOp .eql 35 (hv q) (hv b.root)).run Tryz.prog Y= .ok (.bool γ) Y:=HE2.out Y
   have HO9:=Θ hY.only
   clear hY hp hq HX EM f1 f2
   cases β with
   |true=>
    go_wp2_with fail
    go_ret
    exact⟨rfl,HO9.out⟩
   |false=>
    go_wp2_with fail
    go_ret
    exact⟨rfl,HO9.out⟩
  ·have q0:((Q.length:Int)==(d:Int))=false:=by rw[ΩnL];omega
   have q1:((Q.length:Int)!=(d:Int))=true:=by simp only[bne,q0];rfl
   rw[ΩnU hq]
   clear hmany ed hr hv' h0 hq hla hlb hmn hok
   go_enter Tryz.func96,Tryz.ntmps96
   go_upto_region 1 with(fail)
   rw[←EB.out]
   refine Ωf (CgS w B a b (.slice A Q.length cap) Q) HS0.out ?_
   intro Z hZ
   have c0:=HC0.out Z hZ
   have c1:=HC1.out Z hZ
   have HZ:=Θ hZ
   clear hZ HS0
   go_wp2_with fail
   refine(HM.out _).mono ?_
   rintro e1 w1 ⟨rfl,rfl⟩
   go_wp2_with fail
   go_ret
   exact⟨rfl,HZ.out.only⟩
end
end Go.Proofs.YtgalfohobgjelaaGreatDoor
