/- What is proved here: a part of the proof that 'probitylaw31.ClientPlays' answers true. Conditions: each theorem's own. -/
import Derived.Test.YtgalfohobgjelaaGreatDoorPy34
import Derived.Test.YtgalfohobgjelaaGreatDoorCards
import Derived.Test.YtgalfohobgjelaaGreatDoorTie
import Derived.Deep.DeepHandedRow
import Derived.Lib.LaidTab
import Derived.LaidSub
import Derived.ChangeMaps5
import Derived.OpenShut
set_option maxRecDepth 100000
set_option maxHeartbeats 8000000
namespace Go.Proofs.YtgalfohobgjelaaGreatDoor
section
open Go.RowKit Go.Shelf
section
attribute [local go_sem ↓ high] Ωhc Ω2
theorem msafe_any(c:Md)(base:Nat){sent:Bool}{t:ByteArray}(hP:ΩS c.P)(hlen:c.P.length≤1000)(hn:c.votes.length≤100000)(w:World)(h:MdAt w base c sent t):
  Calls Tryz.prog 59 #[.pointer (some ⟨c.M,0,none⟩)] w fun e w' =>e= .returned (.bool (c.rc&&(blL c.P c.votes).isEmpty))∧Only Ωa w w' :=by
 have hbl:=Ωgy c base hP hlen hn w h
 have c42:w.cell? ⟨c.M,42,none⟩=some (.bool c.rc):=Ωm4 h.blk h.hok.root
 have HB:=Θ hbl
 clear hbl h
 cases hrc:c.rc with
 |false=>
  rw[hrc] at c42
  clear hrc
  go_enter Tryz.func59,Tryz.ntmps59
  go_wp2_with fail
  go_ret
  exact⟨rfl,Only.refl _ _⟩
 |true=>
  rw[hrc] at c42
  clear hrc
  go_enter Tryz.func59,Tryz.ntmps59
  go_wp2_with fail
  refine HB.out.mono ?_
  rintro e5 w5 ⟨ov,rfl,hov,ho5⟩
  obtain⟨A,cap,rfl,hc1,hc2,_⟩:=hov
  obtain⟨n,en⟩:∃n,n=(blL c.P c.votes).length :=⟨_,rfl⟩
  have hem:(blL c.P c.votes).isEmpty =((n:Int)==0):=by
   rw[en,Ωoy,List.isEmpty_iff,beq_iff_eq]
   constructor
   ·intro h;rw[h];rfl
   ·intro h;exact ΩnZ (by omega)
  rw[←en] at hc1⊢
  have HE:=Θ hem
  have HO:=Θ ho5
  clear en hem ho5
  go_wp2_with fail
  go_ret
  exact⟨Ωad (by rw[HE.out];rfl),HO.out⟩
structure MdIs(c:Md)(r:Vw)(n:Nat):Prop where
 id:c.id=r.id
 P:c.P=r.P
 head:c.head=Ωx r.head
 votes:c.votes=r.votes
 rc:c.rc=r.rc
 bn:c.bn≤n
theorem MdIs.more{c:Md}{r:Vw}{n:Nat}(h:MdIs c r n):MdIs c r (n+1):=⟨h.id,h.P,h.head,h.votes,h.rc,Nat.le_succ_of_le h.bn⟩
theorem known_next(o:Option Hd)(h:Hd)(Q:List Hs)(hs:Ωah h)(ho:Ωah (hdOr o)):Ωbo o (Ωx h) Q=Ωx (Ω5 o (Ωx h) Q h):=by
 unfold Ωbo Ω5
 by_cases hr:Ωat o (Ωx h) Q=0
 ·rw[ΩnV hr,ΩnV hr]
  cases o with
  |none=>unfold Ωat at hr;cases hr
  |some n=>
   show n=Ωx n
   by_cases hz:n.size=0
   ·obtain⟨s,es,_⟩:=Ωdg hs
    unfold Ωat at hr
    simp only at hr
    have h1:¬n.size<(Ωx h).size :=fun e=>by rw[ΩnV e] at hr;cases hr
    rw[ΩnU h1] at hr
    have h2:n.size=(Ωx h).size :=by omega
    rw[ΩnV h2] at hr
    have h3:n.root=(Ωx h).root :=by
     by_cases e:n.root=(Ωx h).root
     ·exact e
     ·rw[ΩnU e] at hr;cases hr
    have h4:h.size=0:=by
     by_cases e:h.size=0
     ·exact e
     ·exfalso
      unfold Ωx at h2
      rw[ΩnU e] at h2
      omega
    have h5:Ωx h=⟨0,ΩN []⟩:=by unfold Ωx;rw[ΩnV h4]
    unfold Ωx
    rw[ΩnV hz]
    rw[h5] at h3
    cases n
    simp only at hz h3
    rw[hz,h3]
   ·unfold Ωx
    rw[ΩnU hz]
 ·rw[ΩnU hr,ΩnU hr]
theorem mdo_any(c:Md)(base:Nat)(r:Vw)(n:Nat)(his:MdIs c r n)(hn1:n≤1000)(hP:ΩS r.P)(hpub:∀p∈r.P,In p.pub)(hlen:r.P.length≤1000)(hsm:Ωah r.head)(hn:r.votes.length≤40000)(x:Cl)(hx:x.Ok)(q:Int)(hxq:x.bid=bidW q)(G:Nat)(gv rv:Value)(w:World)(h:MdAt w base c r.sent r.text)(hb:base≤w.heap.size)(hG:Blk w G 3 #[.int .i64 4])(hq:HaSl w gv x.proof)(hqa:Ωfz c gv)(hv:VtSl w rv x.votes)(hva:Ωfz c rv):
  Calls Tryz.prog 27 #[.pointer (some ⟨c.M,0,none⟩),.agg (clL x.what x.bid (some ⟨G,0,none⟩) 1 x.ev gv rv).toArray] w fun e w' =>e= .returned (.int .i64 (Ωdm r x))∧∃c',c'.M=c.M∧MdIs c' (Ωav r x) (n+1)∧MdAt w' base c' (Ωav r x).sent (Ωav r x).text∧ΩU w w' c c' :=by
 obtain⟨B,eB⟩:∃B,B=w.heap.size:=⟨_,rfl⟩
 have ho:Only Ωa w (w.alloc (.cells (clL x.what x.bid (some ⟨G,0,none⟩) 1 x.ev gv rv).toArray tCl)):=(Only.refl _ _).alloc _
 have h0:ClB (w.alloc (.cells (clL x.what x.bid (some ⟨G,0,none⟩) 1 x.ev gv rv).toArray tCl)) B x.what x.bid (some ⟨G,0,none⟩) 1 x.ev gv rv∧Only Ωa w (w.alloc (.cells (clL x.what x.bid (some ⟨G,0,none⟩) 1 x.ev gv rv).toArray tCl)):=⟨by rw[eB];exact Blk.new w _ _,ho⟩
 obtain⟨hh,hone⟩:=hx.one
 have hpr:=hx.ev.prev
 have hPc:ΩS c.P:=by rw[his.P];exact hP
 have hpubc:∀p∈c.P,In p.pub:=by rw[his.P];exact hpub
 have hlenc:c.P.length≤1000:=by rw[his.P];exact hlen
 have hsmc:Ωah c.head:=by rw[his.head];exact Ωdg hsm
 have hnc:c.votes.length≤40000:=by rw[his.votes];exact hn
 obtain⟨z,ez⟩:∃z,z=clL x.what x.bid (some ⟨G,0,none⟩) 1 x.ev gv rv:=⟨_,rfl⟩
 obtain⟨M,eM⟩:∃M,M=c.M:=⟨_,rfl⟩
 have EZ:=Θ ez
 have EM:=Θ eM
 have H0:=Θ h0
 have EB:=Θ eB
 have H:=Θ h
 have HX:=Θ hx
 have HQ:=Θ hq
 have HV:=Θ hv
 have HONE:=Θ hone
 have HXQ:=Θ hxq
 have HG:=Θ hG
 have HIS:=Θ his
 rw[←ez] at H0⊢
 rw[←eM]
 clear h0 ho eB h hx hq hv hone ez hxq hG his eM
 go_enter Tryz.func27,Tryz.ntmps27
 go_upto_region 1 with(fail)
 rw[←EB.out]
 refine Ωf (fun W=>ClB W B x.what x.bid (some ⟨G,0,none⟩) 1 x.ev gv rv∧Only Ωa w W) (by rw[EZ.out] at H0⊢;exact H0.out) ?_
 clear H0 EZ
 rintro W ⟨hc,ho⟩
 have c0:=ΩiB hc
 have c52:=ΩiD hc hpr
 have c53:=Ωk2 hc hpr
 have cb:=Ωnp hc
 rw[HXQ.out,ΩmU] at cb
 have ce:=ΩaY (Ωnl hc) hpr
 have hM:=H.out.nn ho
 have HM:=Θ hM
 have HO:=Θ ho
 have hxw:=HX.out.what
 have hbW:base≤W.heap.size:=Ωnz hb ho.size
 clear hc ho hM
 by_cases hw0:x.what=0
 ·have d0:(x.what==0)=true:=by rw[beq_iff_eq];exact hw0
  have hr:Ωdm r x=0∧Ωav r x={r with sent:=true,text:=encT x.bid,rc:=false}:=⟨by unfold Ωdm;rw[ΩnV hw0],by unfold Ωav;rw[ΩnV hw0]⟩
  have hcall:=msent_any c base q G W HM.out hbW (HG.out.only HO.out (fun e=>e)) (Ωnz HIS.out.bn hn1)
  rw[←EM.out] at hcall
  have HR:=Θ hr
  have HC:=Θ hcall
  clear hr hcall hw0 c52 c53 ce
  go_wp2_with fail
  refine HC.out.mono ?_
  rintro e1 w1 ⟨rfl,bv,cs,hM1,hS1⟩
  have HF:=Θ (And.intro hM1 ((ΩU.nn HO.out).trans hS1))
  clear hM1 hS1
  go_wp2_with fail
  go_ret
  rw[HR.out.1,HR.out.2]
  refine⟨rfl,c.bidden bv cs,EM.out.symm,⟨HIS.out.id,HIS.out.P,HIS.out.head,HIS.out.votes,rfl,Nat.succ_le_succ HIS.out.bn⟩,?_,HF.out.2⟩
  show MdAt w1 base (c.bidden bv cs) true (encT x.bid)
  rw[HXQ.out]
  exact HF.out.1
 ·have d0:(x.what==0)=false:=by rw[ΩnL];exact hw0
  by_cases hw4:x.what<4
  ·have d4:decide (x.what<4)=true:=ΩnG hw4
   have hr:Ωdm r x=Ωat (ΩeV r.P x.votes) (Ωx r.head) x.proof∧Ωav r x={r with votes:=ΩA r.votes x.votes,head:=Ω5 (ΩeV r.P x.votes) (Ωx r.head) x.proof r.head}:=⟨by unfold Ωdm;rw[ΩnU hw0,ΩnV hw4],by unfold Ωav;rw[ΩnU hw0,ΩnV hw4]⟩
   have hcall:=mTake_any c base hPc hlenc hsmc x.votes HX.out.votes HX.out.small HX.out.vlen (by omega) rv x.proof HX.out.proof HX.out.plen gv W HM.out hbW (HV.out.only HO.out) hva (HQ.out.only HO.out) hqa
   rw[←EM.out] at hcall
   have HR:=Θ hr
   have HC:=Θ hcall
   clear hr hcall hw0 cb ce
   go_wp2_with fail
   refine HC.out.mono ?_
   rintro e1 w1 ⟨o,ho,rfl,vv,hM1,hS1⟩
   have hos:Ωah (hdOr o):=ΩbY HX.out.small ho
   have hob:o=ΩeV r.P x.votes:=by
    rw[HIS.out.P] at ho
    exact Ωf1 HONE.out ho
   have HF:=Θ (And.intro hM1 (And.intro ((ΩU.nn HO.out).trans hS1) (And.intro hos hob)))
   clear hM1 hS1 ho hos hob
   go_wp2_with fail
   go_ret
   rw[HR.out.1,HR.out.2,HIS.out.head,HF.out.2.2.2]
   refine⟨rfl,(c.took vv (ΩA c.votes x.votes)).rehead (Ωbo o c.head x.proof),EM.out.symm,⟨HIS.out.id,HIS.out.P,?_,?_,HIS.out.rc,Nat.le_succ_of_le HIS.out.bn⟩,HF.out.1,HF.out.2.1⟩
   ·show Ωbo o c.head x.proof=Ωx (Ω5 (ΩeV r.P x.votes) (Ωx r.head) x.proof r.head)
    rw[←HF.out.2.2.2,HIS.out.head]
    exact known_next o r.head x.proof hsm HF.out.2.2.1
   ·show ΩA c.votes x.votes=ΩA r.votes x.votes
    rw[HIS.out.votes]
  ·have d4:decide (x.what<4)=false:=Ωny hw4
   have hcall:=mshow_any c base r.sent r.text hPc hpubc hlenc x.votes HX.out.votes HX.out.small HX.out.vlen (by omega) rv x.ev HX.out.ev HX.out.evn HX.out.evt x.proof HX.out.proof gv W HM.out hbW (HV.out.only HO.out) hva (HQ.out.only HO.out) hqa
   rw[←EM.out] at hcall
   have HC:=Θ hcall
   have HW0:=Θ hw0
   have HW4:=Θ hw4
   clear hcall hw0 hw4 cb
   go_wp2_with fail
   refine HC.out.mono ?_
   rintro e1 w1 h1
   have hfin:e1= .returned (.int .i64 (Ωdm r x))∧∃c',c'.M=M∧MdIs c' (Ωav r x) (n+1)∧MdAt w1 base c' (Ωav r x).sent (Ωav r x).text∧ΩU w w1 c c' :=by
    unfold Ωdm Ωav
    rw[ΩnU HW0.out,ΩnU (Int.not_lt.2 HW4.out),ΩnU HW0.out,ΩnU (Int.not_lt.2 HW4.out)]
    rw[HIS.out.P,HIS.out.id] at h1
    rcases h1 with⟨g1,g2,g3,g4⟩|⟨g1,o,g2,g3,vv,g4,g5⟩
    ·rw[ΩnV g1,ΩnV g1]
     exact⟨g2,c,EM.out.symm,HIS.out.more,g3,(ΩU.nn HO.out).trans g4⟩
    ·rw[ΩnU (fun e=>e g1),ΩnU (fun e=>e g1)]
     obtain rfl:=Ωf1 HONE.out g2
     refine⟨g3,(c.took vv (ΩA c.votes x.votes)).recd (c.rc||decide (Ωak (ΩeV r.P x.votes) x.ev x.proof=0)),EM.out.symm,⟨HIS.out.id,HIS.out.P,HIS.out.head,?_,?_,Nat.le_succ_of_le HIS.out.bn⟩,g4,(ΩU.nn HO.out).trans g5⟩
     ·show ΩA c.votes x.votes=ΩA r.votes x.votes
      rw[HIS.out.votes]
     ·show(c.rc||decide (Ωak (ΩeV r.P x.votes) x.ev x.proof=0))=(r.rc||decide (Ωak (ΩeV r.P x.votes) x.ev x.proof=0))
      rw[HIS.out.rc]
   obtain⟨rfl,hfin⟩:=hfin
   have HF:=Θ hfin
   clear h1 hfin
   go_wp2_with fail
   go_ret
   exact⟨rfl,HF.out⟩
end
def ΩbG(w0:World)(base lo mid C M:Nat)(s r:Vw)(n:Nat)(W:World):Prop:=
 ∃(c:Cli) (m:Md),(c.C=C∧c.vw=s∧Ωv W base c∧c.seen=c.votes)∧(m.M=M∧MdIs m r n∧MdAt W base m r.sent r.text)∧(∀k,c.foot k→¬m.foot k)∧(∀k,(c.foot k∨m.foot k)→k<lo∨mid≤k)∧base≤W.heap.size∧mid≤W.heap.size∧Only Ωa w0 W∧w0.heap.size≤base
section
variable {w0:World} {base lo mid C M:Nat} {s r:Vw} {n:Nat} {W W' :World}
theorem ΩbG.only(h:ΩbG w0 base lo mid C M s r n W):Only Ωa w0 W:=by
 obtain⟨_,_,_,_,_,_,_,_,h3,_⟩:=h
 exact h3
theorem ΩbG.keep(h:ΩbG w0 base lo mid C M s r n W)(ho:Only Ωa W W'):ΩbG w0 base lo mid C M s r n W' :=by
 obtain⟨c,m,⟨c1,c2,c3,c4⟩,⟨m1,m2,m3⟩,hx,hg,h1,h2,h3,h4⟩:=h
 exact⟨c,m,⟨c1,c2,c3.nn ho,c4⟩,⟨m1,m2,m3.nn ho⟩,hx,hg,Ωnz h1 ho.size,Ωnz h2 ho.size,h3.trans ho,h4⟩
theorem ΩbG.gap(h:ΩbG w0 base lo mid C M s r n W)(ho:Only Ωa W W'):ΩbG w0 base W.heap.size W'.heap.size C M s r n W' :=by
 obtain⟨c,m,⟨c1,c2,c3,c4⟩,⟨m1,m2,m3⟩,hx,hg,h1,h2,h3,h4⟩:=h
 exact⟨c,m,⟨c1,c2,c3.nn ho,c4⟩,⟨m1,m2,m3.nn ho⟩,hx,fun k hk=> .inl (by rcases hk with hk|hk;exact(c3.foot_in hk).2;exact(m3.foot_in hk).2),Ωnz h1 ho.size,Ωnv _,h3.trans ho,h4⟩
theorem pair_do(w0:World)(ht:Tab w0)(hP:ΩS s.P)(hpub:∀p∈s.P,In p.pub)(hlen:s.P.length≤1000)(hsm:Ωah s.head)(hn:s.votes.length≤40000)(x:Cl)(hx:x.Ok)(A:Option Addr)(k:Nat)(gv rv:Value)(w:World)(h:ΩbG w0 base lo mid C M s r n w)(hA:Ωdv w A x.bid.qc)(hq:HaSl w gv x.proof)(hqa:InG lo mid gv)(hv:VtSl w rv x.votes)(hva:InG lo mid rv):
  Calls Tryz.prog 25 #[.pointer (some ⟨C,0,none⟩),.agg (clL x.what x.bid A k x.ev gv rv).toArray] w fun e w' =>e= .returned (.int .i64 (Ωdm s x))∧ΩbG w0 base lo mid C M (Ωav s x) r n w'∧Ωkb base lo mid w w'∧Ωah (Ωav s x).head :=by
 obtain⟨c,m,⟨c1,c2,c3,c4⟩,⟨m1,m2,m3⟩,hxx,hg,h1,h2,h3,h4⟩:=h
 have hX:HasX w0 base C (fun j=>(m.foot j∨(∃cs,Blk w j 3 cs)∨(lo≤j∧j<mid))) s w:=by
  refine⟨c,c1,c2,c3,c4,fun j hj hjx=> ?_,h1,fun j hj=> ?_,h3,h4⟩
  ·rcases hjx with hj1|⟨cs,hj1⟩|hj1
   ·exact hxx j hj hj1
   ·exact c3.off hj1 (by decide) (by decide) (by decide) hj
   ·have:=hg j (.inl hj)
    omega
  ·rcases hj with hj1|⟨cs,hj1⟩|hj1
   ·exact(m3.foot_in hj1).2
   ·exact hj1.lt
   ·omega
 refine(hax_do w0 ht hP hpub hlen hsm hn x hx A k gv rv w hX hA hq (fun a n cap e=> .inr (.inr (hqa a n cap e))) hv (fun a n cap e=> .inr (.inr (hva a n cap e)))).mono ?_
 rintro e w' ⟨g1,⟨c',d1,d2,d3,d4,d5,d6,d7,d8,_⟩,⟨S,ho,hS⟩,g4⟩
 refine⟨g1,⟨c',m,⟨d1,d2,d3,d4⟩,⟨m1,m2,m3.keep ho (fun j hj hs=>(hS j hs).2 (.inl hj)) (fun G cs hG hs=>(hS G hs).2 (.inr (.inl ⟨cs,hG⟩)))⟩,fun j hj hm=>d5 j hj (.inl hm),fun j hj=> ?_,d6,Ωnz h2 ho.size,d8,h4⟩,⟨S,ho,fun j hj=>⟨(hS j hj).1,?_⟩⟩,g4⟩
 ·rcases hj with hj|hj
  ·have:=d5 j hj
   by_cases e1:lo≤j
   ·by_cases e2:j<mid
    ·exact absurd (.inr (.inr ⟨e1,e2⟩)) this
    ·exact .inr (by omega)
   ·exact .inl (by omega)
  ·exact hg j (.inr hj)
 ·have:=(hS j hj).2
  by_cases e1:lo≤j
  ·by_cases e2:j<mid
   ·exact absurd (.inr (.inr ⟨e1,e2⟩)) this
   ·exact .inr (by omega)
  ·exact .inl (by omega)
theorem pair_Do(w0:World)(hn1:n≤1000)(hP:ΩS r.P)(hpub:∀p∈r.P,In p.pub)(hlen:r.P.length≤1000)(hsm:Ωah r.head)(hn:r.votes.length≤40000)(x:Cl)(hx:x.Ok)(q:Int)(hxq:x.bid=bidW q)(G:Nat)(gv rv:Value)(w:World)(h:ΩbG w0 base lo mid C M s r n w)(hG:Blk w G 3 #[.int .i64 4])(hq:HaSl w gv x.proof)(hqa:InG lo mid gv)(hv:VtSl w rv x.votes)(hva:InG lo mid rv):
  Calls Tryz.prog 27 #[.pointer (some ⟨M,0,none⟩),.agg (clL x.what x.bid (some ⟨G,0,none⟩) 1 x.ev gv rv).toArray] w fun e w' =>e= .returned (.int .i64 (Ωdm r x))∧ΩbG w0 base lo mid C M s (Ωav r x) (n+1) w'∧Ωkb base lo mid w w' :=by
 obtain⟨c,m,⟨c1,c2,c3,c4⟩,⟨rfl,m2,m3⟩,hxx,hg,h1,h2,h3,h4⟩:=h
 have hap:∀v,InG lo mid v→Ωfz m v:=fun v hv a n cap e hk=>by
  have e1:=hv a n cap e
  have e2:=hg _ (.inr hk)
  omega
 refine(mdo_any m base r n m2 hn1 hP hpub hlen hsm hn x hx q hxq G gv rv w m3 h1 hG hq (hap _ hqa) hv (hap _ hva)).mono ?_
 rintro e w' ⟨g1,m',d1,d2,d3,d4⟩
 have hnf:∀j,c.foot j→¬m'.foot j:=fun j hj hm=>by
  rcases d4.2 j hm with e|e
  ·exact hxx j hj e
  ·have:=(c3.foot_in hj).2
   omega
 refine⟨g1,⟨c,m',⟨c1,c2,c3.keep d4.1 (fun j hj=>hxx j hj),c4⟩,⟨d1,d2,d3⟩,hnf,fun j hj=> ?_,Ωnz h1 d4.1.size,Ωnz h2 d4.1.size,d4.only m3 h3 h4,h4⟩,m.foot,d4.1,fun j hj=>⟨(m3.foot_in hj).1,hg j (.inr hj)⟩⟩
 rcases hj with hj|hj
 ·exact hg j (.inl hj)
 ·rcases d4.2 j hj with e|e
  ·exact hg j (.inr e)
  ·exact .inr (Ωnz h2 e)
end
theorem same31_any(w0:World)(ht:Tab w0){base lo mid C M n:Nat}{s:Vw}(hP:ΩS s.P)(hlen:s.P.length≤1000)(hn:s.votes.length≤100000)(w:World)(h:ΩbG w0 base lo mid C M s s n w):
  Calls Tryz.prog 28 #[.pointer (some ⟨C,0,none⟩),.pointer (some ⟨M,0,none⟩)] w fun e w' =>e= .returned (.bool true)∧Only Ωa w w' :=by
 obtain⟨c,m,⟨c1,c2,c3,c4⟩,⟨m1,m2,m3⟩,hxx,hg,h1,h2,h3,h4⟩:=h
 have hhas:Has w0 base C w.heap.size s w:=⟨c,c1,c2,c3,c4,h1,Ωnv _,h3,h4,fun k hk=>(c3.foot_in hk).2⟩
 have kb1:∀W,Only Ωa w W→Calls Tryz.prog 20 #[.pointer (some ⟨C,0,none⟩)] W fun e w' =>∃ov,e= .returned ov∧BlSl w' ov (blL s.P s.votes)∧Only Ωa W w' :=fun W h=>Ωfe w0 ht hP hlen hn W (hhas.keep h)
 have ks1:∀W,Only Ωa w W→Calls Tryz.prog 22 #[.pointer (some ⟨C,0,none⟩)] W fun e w' =>e= .returned (.bool (s.rc&&(blL s.P s.votes).isEmpty))∧Only Ωa W w' :=fun W h=>has_safe w0 ht hP hlen hn W (hhas.keep h)
 have kb2:∀W,Only Ωa w W→Calls Tryz.prog 58 #[.pointer (some ⟨M,0,none⟩)] W fun e w' =>∃ov,e= .returned ov∧BlSl w' ov (blL s.P s.votes)∧Only Ωa W w' :=fun W h=>by
  have g:=Ωgy m base (by rw[m2.P];exact hP) (by rw[m2.P];exact hlen) (by rw[m2.votes];exact hn) W (m3.nn h)
  rw[m1,m2.P,m2.votes] at g
  exact g
 have ks2:∀W,Only Ωa w W→Calls Tryz.prog 59 #[.pointer (some ⟨M,0,none⟩)] W fun e w' =>e= .returned (.bool (s.rc&&(blL s.P s.votes).isEmpty))∧Only Ωa W w' :=fun W h=>by
  have g:=msafe_any m base (by rw[m2.P];exact hP) (by rw[m2.P];exact hlen) (by rw[m2.votes];exact hn) W (m3.nn h)
  rw[m1,m2.P,m2.votes,m2.rc] at g
  exact g
 obtain⟨bs,ebs⟩:∃b,b=(s.rc&&(blL s.P s.votes).isEmpty):=⟨_,rfl⟩
 rw[←ebs] at ks1 ks2
 obtain⟨BL,eBL⟩:∃l,l=blL s.P s.votes:=⟨_,rfl⟩
 rw[←eBL] at kb1 kb2
 have hsame:∀W v1 v2,BlSl W v1 BL→BlSl W v2 BL→Calls Tryz.prog 35 #[v1,v2] W fun e w' =>e= .returned (.bool true)∧Only Ωa W w' :=fun W v1 v2 h1 h2=>same_any BL v1 v2 W h1 h2
 have KB1:=Θ kb1
 have KB2:=Θ kb2
 have KS1:=Θ ks1
 have KS2:=Θ ks2
 have HSM:=Θ hsame
 have hX0:Only Ωa w w:=Only.refl _ _
 have hbb:(bs==bs)=true:=by simp
 clear kb1 kb2 ks1 ks2 hsame hhas ebs eBL c3 m3 m2 hxx hg h3 ht hP
 go_enter Tryz.func28,Tryz.ntmps28
 go_wp2_with fail
 refine(KB1.out _ hX0).mono ?_
 rintro e1 w1 ⟨ov1,rfl,hb1,ho1⟩
 have H1:=Θ (And.intro hb1 ho1)
 clear hb1 ho1
 go_wp2_with fail
 refine(KB2.out _ H1.out.2).mono ?_
 rintro e2 w2 ⟨ov2,rfl,hb2,ho2⟩
 have H2:=Θ (And.intro (H1.out.1.only ho2) (And.intro hb2 (H1.out.2.trans ho2)))
 clear hb2 ho2 H1
 go_wp2_with fail
 refine(HSM.out _ _ _ H2.out.1 H2.out.2.1).mono ?_
 rintro e3 w3 ⟨rfl,ho3⟩
 have H3:=Θ (H2.out.2.2.trans ho3)
 clear ho3 H2
 go_wp2_with fail
 refine(KS1.out _ H3.out).mono ?_
 rintro e4 w4 ⟨rfl,ho4⟩
 have H4:=Θ (H3.out.trans ho4)
 clear ho4 H3
 go_wp2_with fail
 refine(KS2.out _ H4.out).mono ?_
 rintro e5 w5 ⟨rfl,ho5⟩
 have H5:=Θ (H4.out.trans ho5)
 clear ho5 H4
 go_wp2_with fail
 go_ret
 exact⟨by simp,H5.out⟩
end
section
open Go.RowKit Go.Shelf
attribute [local go_sem ↓ high] Ωej Ωmp Ωg7 Ωfn ΩiE
theorem MdAt.lower{W:World}{base base' :Nat}{c:Md}{sent:Bool}{t:ByteArray}(h:MdAt W base c sent t)(hb:base'≤base):MdAt W base' c sent t:=
 ⟨h.blk,Ωnz hb h.lo,h.hok,ΩE h.pers hb,ΩE h.bids hb,h.last,ΩE h.votes hb,h.ok⟩
theorem ΩbG.made{w0 W W2 W' :World}{base base2 C top n:Nat}{s r:Vw}{m:Md}(h:Has w0 base C top s W)(ho:Only Ωa W W2)(hm:MdAt W' base2 m r.sent r.text)(his:MdIs m r n)(hb:top≤base2)(hbb:base≤base2)(ho' :Only Ωa W2 W'):ΩbG w0 base 0 0 C m.M s r n W' :=by
 obtain⟨c,c1,c2,c3,c4,c5,c6,c7,c8,c9⟩:=h
 have hs:=ho.size
 have hs' :=ho'.size
 exact⟨c,m,⟨c1,c2,c3.nn (ho.trans ho'),c4⟩,⟨rfl,his,hm.lower hbb⟩,fun k hk hk' =>by
  have e1:=c9 k hk
  have e2:=(hm.foot_in hk').1
  omega,fun k _=> .inr (Ωoh k),by omega,Ωoh _,(c7.trans ho).trans ho',c8⟩
theorem md0_is(d:Wd)(M:Nat)(pv:Value):MdIs (md0 M 60 pv (setW d) (ΩN [])) (keV d) 0:=by
 refine⟨rfl,rfl,?_,rfl,rfl,Ωnv _⟩
 show(⟨0,ΩN []⟩:Hd)=Ωx hd0
 unfold Ωx
 rw[ΩnV (show hd0.size=0 from rfl)]
structure PlL(w:World)(B base C M:Nat)(d:Wd)(kA:Option Addr)(kc:Nat)(s:Vw)(k:Nat)(W:World):Prop where
 wd:Blk W B tWd (wdC d kA kc)
 lo:B<base
 pr:∃lo mid,ΩbG w base lo mid C M s s k W
structure PlT(X:World)(M1:Nat)(x:Cl)(G:Nat)(gv rv:Value)(W:World):Prop where
 c1:ClB W M1 x.what x.bid (some ⟨G,0,none⟩) 1 x.ev gv rv
 lo:X.heap.size≤M1
 m1:KeM X.heap.size x G gv rv W
 only:Only Ωa X W
theorem PlT.made{X W:World}{M1:Nat}{x:Cl}{G b:Nat}{gv rv:Value}(he:x.ev.prev.length=32)(h1:ZBl tCl cl0.toArray X W M1)(ho:Only Ωa X W)(m1:KeM b x G gv rv W)(hb:X.heap.size≤b):PlT X M1 x G gv rv (W.setCells M1 0 (clL x.what x.bid (some ⟨G,0,none⟩) 1 x.ev gv rv)):=
 ⟨Ωg5 h1.1 Ωfo he,h1.2,(m1.far h1.1 _).lower hb,h1.keep ho _⟩
structure PlX(b B:Nat)(d:Wd)(kA:Option Addr)(kc:Nat)(M1:Nat)(x:Cl)(G:Nat)(gv rv:Value)(W:World):Prop where
 wd:Blk W B tWd (wdC d kA kc)
 c1:ClB W M1 x.what x.bid (some ⟨G,0,none⟩) 1 x.ev gv rv
 m1:KeM b x G gv rv W
theorem PlX.keep{b B:Nat}{d:Wd}{kA:Option Addr}{kc:Nat}{M1:Nat}{x:Cl}{G:Nat}{gv rv:Value}{W W' :World}(h:PlX b B d kA kc M1 x G gv rv W)(ho:Only Ωa W W'):PlX b B d kA kc M1 x G gv rv W' :=
 ⟨h.wd.only ho (fun e=>e),h.c1.only ho (fun e=>e),h.m1.keep ho⟩
structure PlI(lo mid M1 G:Nat)(gv rv:Value):Prop where
 c1:lo≤M1∧M1<mid
 g1:lo≤G∧G<mid
 q1:InG lo mid gv
 v1:InG lo mid rv
theorem PlX.near{b B base lo mid:Nat}{d:Wd}{kA:Option Addr}{kc:Nat}{M1:Nat}{x:Cl}{G:Nat}{gv rv:Value}{W W' :World}(h:PlX b B d kA kc M1 x G gv rv W)(hn:Ωkb base lo mid W W')(hB:B<base)(hi:PlI lo mid M1 G gv rv):PlX b B d kA kc M1 x G gv rv W' :=
 ⟨hn.blk h.wd (.inl hB),hn.blk h.c1 (.inr hi.c1),⟨hn.blk h.m1.com (.inr hi.g1),h.m1.lo,hn.own h.m1.pf hi.q1,hn.own h.m1.vt hi.v1⟩⟩
theorem plays_law(d:Wd)(hd:d.Ok)(kA:Option Addr)(kc:Nat)(S:List Ac)(hS:∀a∈S,a.Ok)(sv:Value)(w:World)(hsv:AcSl w sv S)(hkd:KdAt w kA d.kinds)(hkl:d.kinds.length≤1000000000)(ht:Tab w):
  Calls Tryz.prog 7 #[.agg (wdC d kA kc),sv] w fun e w' =>e= .returned (.bool true)∧Only Ωa w w' :=by
 obtain⟨B,eB⟩:∃B,B=w.heap.size:=⟨_,rfl⟩
 have hS0:Blk (w.alloc (.cells (wdC d kA kc) tWd)) B tWd (wdC d kA kc)∧Only Ωa w (w.alloc (.cells (wdC d kA kc) tWd)):=⟨by rw[eB];exact Blk.new w _ _,(Only.refl _ _).alloc _⟩
 obtain⟨WV,eWV⟩:∃v:Array Value,v=wdC d kA kc:=⟨_,rfl⟩
 have hsan:∀W,Only Ωa w W→Calls Tryz.prog 11 #[] W fun e w' =>e= .returned (.bool true)∧Only Ωa W w' :=fun W ho=>sanity31 W (ht.none ho)
 have hset:∀W,Calls Tryz.prog 18 #[.agg WV] W fun e' w' =>∃pv,e' = .returned (setV pv)∧ΩT w' W.heap.size pv (setW d).length (setW d)∧Only Ωa W w' :=fun W=>by
  rw[eWV]
  exact Ωhm d hd kA kc W
 have HS0:=Θ hS0
 have EB:=Θ eB
 have EWV:=Θ eWV
 have HSAN:=Θ hsan
 have HSET:=Θ hset
 have HKD:=Θ hkd
 have HT:=Θ ht
 have HSV:=Θ hsv
 have HSO:=Θ hS
 obtain⟨sA,scap,rfl,hsl,hsm,_⟩:=id hsv
 clear hS0 eB eWV hsan hset hkd ht hsv hS
 go_enter Tryz.func7,Tryz.ntmps7
 go_upto_region 1 with(fail)
 rw[←EB.out]
 refine Ωf (fun Z=>Blk Z B tWd (wdC d kA kc)∧Only Ωa w Z) HS0.out ?_
 clear HS0
 rintro Z ⟨hB,hO⟩
 have HZ:=Θ (And.intro hB hO)
 clear hB hO
 go_wp2_with fail
 refine(HSAN.out _ HZ.out.2).mono ?_
 rintro e1 w1 ⟨rfl,ho1⟩
 have H1:=Θ (And.intro (HZ.out.1.only ho1 (fun e=>e)) (HZ.out.2.trans ho1))
 clear ho1 HZ
 go_upto_region 2 with(fail)
 refine Ωf (fun Z=>Blk Z B tWd (wdC d kA kc)∧Only Ωa w Z) H1.out ?_
 clear H1
 rintro Y ⟨hY1,hY2⟩
 have HY:=Θ (And.intro hY1 hY2)
 clear hY1 hY2
 have hS0:Only Ωa Y Y:=Only.refl _ _
 have hS1:Only Ωa Y Y.drew:=(Only.refl _ _).drew
 have hld:∀W,Only Ωa Y W→(ΩiL (.pointer (some ⟨B,0,none⟩))).run Tryz.prog W= .ok (.agg WV) W:=fun W h=>by rw[EWV.out];exact ΩcE (HY.out.1.only h (fun e=>e))
 have n1:∀W pv,Only Ωa Y W→Ωa6 W pv (setW d)→Calls Tryz.prog 17 #[.int .i64 60,setV pv] W fun e w' =>∃C,e= .returned (.pointer (some ⟨C,0,none⟩))∧Has w W.heap.size C w'.heap.size (keV d) w'∧Only Ωa W w' :=fun W pv h hp=>Ωl2 w 60 (setW d) (Ωca d) pv W (HY.out.2.trans h) hp
 have n2:∀W b pv,b≤W.heap.size→ΩT W b pv (setW d).length (setW d)→Calls Tryz.prog 26 #[.int .i64 60,setV pv] W fun e w' =>∃M,e= .returned (.pointer (some ⟨M,0,none⟩))∧W.heap.size≤M∧MdAt w' b (md0 M 60 pv (setW d) (ΩN [])) false ⟨#[]⟩∧Only Ωa W w' :=fun W b pv hb hp=>mnew_any 60 (setW d) pv b W hb hp
 have N1:=Θ n1
 have N2:=Θ n2
 clear n1 n2
 go_cut [6,7] (fun p q wx=>∃C M base,p= .pointer (some ⟨C,0,none⟩)∧q= .pointer (some ⟨M,0,none⟩)∧ΩbG w base 0 0 C M (keV d) (keV d) 0 wx∧Y.heap.size≤base∧Only Ωa Y wx)
 case first=>
  go_region_held3 (fun W=>Only Ωa Y W) (first|(with_reducible assumption))
   (first
    |((fail_if_success (have tst:=hp4));go_at_call 18;(with_reducible refine(HSET.out _).mono ?_);rintro e4 w4 ⟨pv4,rfl,hp4,ho4⟩;have hS4:=Only.trans (by with_reducible assumption) ho4)
    |(go_at_call 17;(with_reducible refine(N1.out _ _ (by with_reducible assumption) (ΩT.sl hp4)).mono ?_);rintro e5 w5 ⟨C,rfl,hh5,ho5⟩;have hS5:=Only.trans (by with_reducible assumption) ho5)
    |(go_at_call 18;(with_reducible refine(HSET.out _).mono ?_);rintro e6 w6 ⟨pv6,rfl,hp6,ho6⟩;have hS6:=Only.trans (by with_reducible assumption) ho6)
    |(go_at_call 26;(with_reducible refine(N2.out _ _ _ (Only.size ho6) hp6).mono ?_);rintro e7 w7 ⟨M,rfl,hM7,hh7,ho7⟩;have hS7:=Only.trans (by with_reducible assumption) ho7))
  all_goals
   clear hld
   go_wp2_with fail
   go_meet
   case rel=>exact⟨C,M,_,rfl,rfl,ΩbG.made (m:=md0 M 60 pv6 (setW d) (ΩN [])) (r:=keV d) hh5 ho6 hh7 (md0_is d M pv6) (Ωnv _) ho5.size ho7,hS4.size,hS7⟩
 case rest=>
 obtain⟨C,M,base,rfl,rfl,hP0,hbY,hoY⟩:=hcut
 have hL0:PlL w B base C M d kA kc (keV d) 0 wc:=⟨HY.out.1.only hoY (fun e=>e),ΩnT HY.out.1.lt hbY,_,_,hP0⟩
 have HL0:=Θ hL0
 clear hP0 hbY hoY hL0 hld N1 N2 HY hS0 hS1
 go_wp2_with fail
 go_loopw [8] (fun i wr=>∃(k:Nat) (s:Vw),i= .int .i64 (k:Int)∧k≤16∧k≤S.length∧KeS d k s∧PlL w B base C M d kA kc s k wr) (fun i _=>16-(intOf i).toNat)
 case atStart=>exact⟨0,keV d,rfl,by omega,by omega,⟨rfl,Ωnv _,ΩgL⟩,HL0.out⟩
 case round=>
  clear HL0
  obtain⟨k,s,rfl,hk16,hkS,hKS,hL⟩:=hrel
  have HKS:=Θ hKS
  have HL:=Θ hL
  clear hKS hL
  by_cases hlt:k<S.length∧k<16
  ·obtain⟨hlt,hl16⟩:=hlt
   have d1:decide ((k:Int)<(S.length:Int))=true:=ΩnG (by omega)
   have d2:decide ((k:Int)<16)=true:=ΩnG (by omega)
   obtain⟨a,hak⟩:∃a,S[k]? =some a:=⟨_,Ωnu hlt⟩
   have haok:=HSO.out a (ΩnE hak)
   obtain⟨lo0,mid0,hpr0⟩:=HL.out.pr
   have how:=hpr0.only
   obtain⟨gA,oA,hgA,hrA⟩:∃g o,sA=some ⟨g,o,none⟩∧wr.rangeAt g (o+k*9) (acC a).toList :=by
    obtain⟨A,cap,e9,_,_,h9⟩:=HSV.out.only how
    cases e9
    obtain⟨g,o,h1,_,h2⟩:=h9 k a hak
    exact⟨g,o,h1,h2⟩
   subst hgA
   obtain⟨AV,eAV⟩:∃v:Array Value,v=acC a:=⟨_,rfl⟩
   obtain⟨x,ex⟩:∃x,x=ΩeB d a:=⟨_,rfl⟩
   have hxok:x.Ok:=by rw[ex];exact makeW_ok d a haok
   have hld:∀W,Only Ωa wr W→(ΩiL (.pointer (some ⟨B,0,none⟩))).run Tryz.prog W= .ok (.agg WV) W:=fun W h=>by rw[EWV.out];exact ΩcE (HL.out.wd.only h (fun e=>e))
   have hac:∀W,Only Ωa wr W→(acLd (.pointer (some ⟨gA,oA+k*9,none⟩))).run Tryz.prog W= .ok (.agg AV) W:=fun W h=>by rw[eAV];exact ac_ld (Ωcq hrA h)
   have mk:∀W,Only Ωa wr W→Calls Tryz.prog 23 #[.agg WV,.agg AV] W fun e w' =>∃G gv rv,e= .returned (.agg (clL x.what x.bid (some ⟨G,0,none⟩) 1 x.ev gv rv).toArray)∧KeM W.heap.size x G gv rv w'∧Only Ωa W w' :=fun W h=>by
    rw[EWV.out,eAV,ex]
    refine(wmake_any d hd a haok kA kc W (HKD.out.none_ (how.trans h)) hkl (HT.out.none (how.trans h))).mono ?_
    rintro e w' ⟨G,gv,rv,h1,h2,h3,h4,h5,h6⟩
    exact⟨G,gv,rv,h1,⟨h3,h2,h4,h5⟩,h6⟩
   have ik:(k:Int)<(S.length:Int):=by omega
   have ik0:(0:Int)≤(k:Int):=by omega
   have MK:=Θ mk
   have EX:=Θ ex
   have HXO:=Θ hxok
   have HPR:=Θ hpr0
   clear mk ex eAV hrA hak haok how hpr0 hxok
   go_upto_region 6 with(fail)
   obtain⟨z1,z11,z12,z2,n1,n2,k1,k2,a1,a2⟩:=Ωm6.all tCl cl0.toArray wr
   have zs1:=fun W N G gv rv hg hr hz=>zc_cl (X:=wr) (x:=x) HXO.out.ev.prev W N G gv rv hg hr hz
   have hnw:=Ωjy
   have hX0:Only Ωa wr wr:=Only.refl _ _
   have hX1:Only Ωa wr wr.drew:=(Only.refl _ _).drew
   have HALD:Hid (∀(W:World) o,Only Ωa wr W.drew→Only Ωa wr (W.alloc o).drew):=Θ (fun W o h=>(Only.alloc h o))
   go_cut [9] (fun p wx=>∃M1 G gv rv,p= .pointer (some ⟨M1,0,none⟩)∧PlT wr M1 x G gv rv wx)
   case first=>
    as_aux_lemma=>
     go_region_held3 (fun W=>Only Ωa wr W) (first|(with_reducible assumption)|(with_reducible exact a1 _ _ (by with_reducible assumption))|(with_reducible exact HALD.out _ _ (by with_reducible assumption))|(simp[*]))
      (first
       |(go_at_call 23;(with_reducible refine(MK.out _ (by with_reducible first|assumption|exact HALD.out _ _ (by with_reducible assumption))).mono ?_);rintro e3 w3 ⟨G,gv,rv,rfl,hm0,ho3⟩;have hm3:=KeM.lower (b' :=wr.heap.size) hm0 (Only.size (S:=Ωa) (by with_reducible first|assumption|exact HALD.out _ _ (by with_reducible assumption)|exact HALD.out _ _ (HALD.out _ _ hX1)));clear hm0;have hS3:=Only.trans (by with_reducible first|assumption|exact HALD.out _ _ (by with_reducible assumption)|exact HALD.out _ _ (HALD.out _ _ hX1)) ho3;have hg3:=hm3.one1;have hr3:=hm3.one2;(try(have y1:ZBl tCl cl0.toArray wr w3 wr.heap.size:=ZBl.step (by first|exact ZBl.newd hX0|exact(ZBl.new hX0).allocd _) ho3));clear ho3))
     all_goals
      clear hnw zs1 hld hac
      go_wp2_with fail
      go_meet
      case rel=>exact⟨_,G,gv,rv,rfl,PlT.made HXO.out.ev.prev (by simp[*]) (by simp[*]) (by first|exact hm3|exact hm3.keep ((Only.refl Ωa _).alloc _)) (Ωnv _)⟩
   case rest=>
   obtain⟨M1,G,gv,rv,rfl,hT⟩:=hcut
   have HTT:=Θ hT
   clear hT z1 z11 z12 z2 n1 n2 k1 k2 a1 a2 zs1 hnw hX0 hX1 HALD hld hac MK
   obtain⟨lo,elo⟩:∃n,n=wr.heap.size:=⟨_,rfl⟩
   obtain⟨mid,emid⟩:∃n,n=wc.heap.size:=⟨_,rfl⟩
   have hI:PlI lo mid M1 G gv rv:=by
    have l1:=HTT.out.lo
    have k1:=HTT.out.c1.lt
    have k3:=HTT.out.m1.com.lt
    have k5:=HTT.out.m1.lo
    rw[←emid] at k1 k3
    rw[←elo] at l1 k5
    exact⟨⟨l1,k1⟩,⟨k5,k3⟩,ΩlZ HTT.out.m1.pf (by rw[elo];exact Ωnv _) (fun g hg=>by rw[emid];exact(ΩJ HTT.out.m1.pf hg).2),ΩlZ HTT.out.m1.vt (by rw[elo];exact Ωnv _) (fun g hg=>by rw[emid];exact(ΩJ HTT.out.m1.vt hg).2)⟩
   have hX0:PlX lo B d kA kc M1 x G gv rv wc:=⟨HL.out.wd.only HTT.out.only (fun e=>e),HTT.out.c1,by rw[elo];exact HTT.out.m1⟩
   have hG0:ΩbG w base lo mid C M s s k wc:=by rw[elo,emid];exact HPR.out.gap HTT.out.only
   obtain⟨s',es'⟩:∃s',s' =Ωav s x:=⟨_,rfl⟩
   obtain⟨r,er⟩:∃r,r=Ωdm s x:=⟨_,rfl⟩
   have hP:s.P=setW d:=HKS.out.P
   have hqc:x.bid.qc=[4]:=by rw[EX.out];rfl
   have hxq:x.bid=bidW a.n:=by rw[EX.out];rfl
   have k1:∀W,PlX lo B d kA kc M1 x G gv rv W→ΩbG w base lo mid C M s s k W→Calls Tryz.prog 25 #[.pointer (some ⟨C,0,none⟩),.agg (clL x.what x.bid (some ⟨G,0,none⟩) 1 x.ev gv rv).toArray] W fun e w' =>e= .returned (.int .i64 r)∧ΩbG w base lo mid C M s' s k w'∧PlX lo B d kA kc M1 x G gv rv w'∧Ωah s'.head:=fun W hX hG=>by
    rw[er,es']
    refine(pair_do w HT.out (by rw[hP];exact Ωd1 d) (by rw[hP];exact Ωkn d) (by rw[hP];exact Ωca d) HKS.out.head (by have:=HKS.out.votes;omega) x HXO.out _ 1 gv rv W hG (by rw[hqc];exact Ωmb hX.m1.com) (hX.m1.pf.sl HXO.out.proof) hI.q1 (hX.m1.vt.sl HXO.out.votes) hI.v1).mono ?_
    rintro e w' ⟨h1,h2,h3,h4⟩
    exact⟨h1,h2,hX.near h3 HL.out.lo hI,h4⟩
   have k2:∀W,PlX lo B d kA kc M1 x G gv rv W→ΩbG w base lo mid C M s' s k W→Calls Tryz.prog 27 #[.pointer (some ⟨M,0,none⟩),.agg (clL x.what x.bid (some ⟨G,0,none⟩) 1 x.ev gv rv).toArray] W fun e w' =>e= .returned (.int .i64 r)∧ΩbG w base lo mid C M s' s' (k+1) w'∧PlX lo B d kA kc M1 x G gv rv w' :=fun W hX hG=>by
    rw[er]
    refine(pair_Do w (by omega) (by rw[hP];exact Ωd1 d) (by rw[hP];exact Ωkn d) (by rw[hP];exact Ωca d) HKS.out.head (by have:=HKS.out.votes;omega) x HXO.out a.n hxq G gv rv W hG hX.m1.com (hX.m1.pf.sl HXO.out.proof) hI.q1 (hX.m1.vt.sl HXO.out.votes) hI.v1).mono ?_
    rintro e w' ⟨h1,h2,h3⟩
    rw[←es'] at h2
    exact⟨h1,h2,hX.near h3 HL.out.lo hI⟩
   have hks:Ωah s'.head→KeS d (k+1) s' :=fun hsh=>by
    rw[es'] at hsh⊢
    exact HKS.out.next hsh (by rw[EX.out];exact ΩbV _ _ _ _)
   have k3:∀W,Ωah s'.head→ΩbG w base lo mid C M s' s' (k+1) W→Calls Tryz.prog 28 #[.pointer (some ⟨C,0,none⟩),.pointer (some ⟨M,0,none⟩)] W fun e w' =>e= .returned (.bool true)∧Only Ωa W w' :=fun W hsh hG=>by
    have h1:=hks hsh
    exact same31_any w HT.out (by rw[h1.P];exact Ωd1 d) (by rw[h1.P];exact Ωca d) (by have:=h1.votes;omega) W hG
   have hc1:∀W,PlX lo B d kA kc M1 x G gv rv W→(Ωmf (.pointer (some ⟨M1,0,none⟩))).run Tryz.prog W= .ok (.agg (clL x.what x.bid (some ⟨G,0,none⟩) 1 x.ev gv rv).toArray) W:=fun W h=>Ωme h.c1 HXO.out.ev.prev
   have hrr:(r !=r)=false:=by simp
   have hXd:=hX0.keep (Only.refl Ωa _).drew
   have hGd:=hG0.keep (Only.refl Ωa _).drew
   have K1:=Θ k1
   have K2:=Θ k2
   have K3:=Θ k3
   have KS:=Θ hks
   have HLO:=Θ HL.out.lo
   clear k1 k2 k3 hks es' er hP hqc hxq emid elo HTT HPR hI
   go_upto_region 7 with(fail)
   go_cut [45] (fun c wx=>c= .bool false∧PlX lo B d kA kc M1 x G gv rv wx∧ΩbG w base lo mid C M s' s' (k+1) wx∧Ωah s'.head)
   case first=>
    go_region_held3 (fun W=>PlX lo B d kA kc M1 x G gv rv W) (first|(with_reducible assumption))
     (first
      |(go_at_call 25;(with_reducible refine(K1.out _ (by with_reducible assumption) (by with_reducible assumption)).mono ?_);rintro e3 w3 ⟨rfl,hG3,hX3,hsh⟩)
      |(go_at_call 27;(with_reducible refine(K2.out _ (by with_reducible assumption) (by with_reducible assumption)).mono ?_);rintro e4 w4 ⟨rfl,hG4,hX4⟩)
      |(go_at_call 28;(with_reducible refine(K3.out _ hsh (by with_reducible assumption)).mono ?_);rintro e5 w5 ⟨rfl,ho5⟩;have hX5:=PlX.keep (by with_reducible assumption) ho5;have hG5:=ΩbG.keep hG4 ho5;clear ho5))
    all_goals
     clear hc1
     go_wp2_with fail
     go_meet
     case rel=>exact⟨by simp,by with_reducible assumption,by with_reducible assumption,hsh⟩
   case rest=>
   obtain⟨rfl,hX,hG,hsh⟩:=hcut
   have hL9:PlL w B base C M d kA kc s' (k+1) wc:=⟨hX.wd,HLO.out,_,_,hG⟩
   have HL9:=Θ hL9
   have HK9:=Θ (KS.out hsh)
   clear hX hG hsh hL9 hc1 hXd hGd hX0 hG0
   go_wp2_with fail
   go_roundw
   case rel=>exact⟨k+1,s',by go_num,by omega,by omega,HK9.out,HL9.out⟩
   case measure=>simp[intOf];omega
  ·have hdd:(decide ((k:Int)<(S.length:Int))=false∧¬(k:Int)<(S.length:Int))∨(decide ((k:Int)<(S.length:Int))=true∧(k:Int)<(S.length:Int)∧decide ((k:Int)<16)=false∧¬(k:Int)<16):=by
    by_cases h1:k<S.length
    ·exact .inr ⟨ΩnG (by omega),by omega,Ωny (by omega),by omega⟩
    ·exact .inl ⟨Ωny (by omega),by omega⟩
   have how:Only Ωa w wr:=by
    obtain⟨_,_,h1⟩:=HL.out.pr
    exact h1.only
   have HOW:=Θ how
   clear how
   rcases hdd with⟨d1,i1⟩|⟨d1,i1,d2,i2⟩
   all_goals
    go_wp2_with fail
    go_ret
    exact⟨rfl,HOW.out⟩
end
section
open Go.ChangeShapes Go.WideShapes Go.ChangeAt Go.RowKit
theorem gPow:Tryz.prog.globalNamed Ωli=some 3:=by kernel_rfl
theorem gPowType:(Tryz.prog.globals[3]?).map (·.type)=some 260:=by kernel_rfl
theorem cellsPow:Tryz.prog.cellsOf 260=20:=by kernel_rfl
theorem cellsU64:Tryz.prog.cellsOf 179=1:=by kernel_rfl
def ΩaA:List (String×DataW Unit):=[("math/bits.deBruijn32tab",Rows.laid_math_bits_deBruijn32tab),("math/bits.deBruijn64tab",Rows.laid_math_bits_deBruijn64tab),("internal/strconv.uint64pow10",Rows.laid_internal_strconv_uint64pow10)]
theorem table{W:World}(h:laidMetH Tryz.prog ΩaA W):Tab W:=by
 have h1:=h.filter (fun x=>x.1==Ωli)
 have h2:laidMetH Tryz.prog [(Ωli,Lib.tabData .u64 Lib.pow10Tab)] W:=h1
 exact Lib.tabIs_of_head (rest:=[]) gPow gPowType Tryz.underlying260 Tryz.underlying179 cellsU64 cellsPow h2
def Ωik(cs:Array Value):Obj→Obj
 | .cells _ t frozen=> .cells cs t frozen
 |o=>o
noncomputable def ΩgD(os:Os):World:=
 {World.holding Tryz.prog os ⟨#[],#[],[]⟩ with heap:=(((World.holding Tryz.prog os ⟨#[],#[],[]⟩).heap.modify 4 (Ωik #[.int .u8 0,.int .u8 1,.int .u8 28,.int .u8 2,.int .u8 29,.int .u8 14,.int .u8 24,.int .u8 3,.int .u8 30,.int .u8 22,.int .u8 20,.int .u8 15,.int .u8 25,.int .u8 17,.int .u8 4,.int .u8 8,.int .u8 31,.int .u8 27,.int .u8 13,.int .u8 23,.int .u8 21,.int .u8 19,.int .u8 16,.int .u8 7,.int .u8 26,.int .u8 12,.int .u8 18,.int .u8 6,.int .u8 11,.int .u8 5,.int .u8 10,.int .u8 9])).modify 5 (Ωik #[.int .u8 0,.int .u8 1,.int .u8 56,.int .u8 2,.int .u8 57,.int .u8 49,.int .u8 28,.int .u8 3,.int .u8 61,.int .u8 58,.int .u8 42,.int .u8 50,.int .u8 38,.int .u8 29,.int .u8 17,.int .u8 4,.int .u8 62,.int .u8 47,.int .u8 59,.int .u8 36,.int .u8 45,.int .u8 43,.int .u8 51,.int .u8 22,.int .u8 53,.int .u8 39,.int .u8 33,.int .u8 30,.int .u8 24,.int .u8 18,.int .u8 12,.int .u8 5,.int .u8 63,.int .u8 55,.int .u8 48,.int .u8 27,.int .u8 60,.int .u8 41,.int .u8 37,.int .u8 16,.int .u8 46,.int .u8 35,.int .u8 44,.int .u8 21,.int .u8 52,.int .u8 32,.int .u8 23,.int .u8 11,.int .u8 54,.int .u8 26,.int .u8 40,.int .u8 15,.int .u8 34,.int .u8 20,.int .u8 31,.int .u8 10,.int .u8 25,.int .u8 14,.int .u8 19,.int .u8 9,.int .u8 13,.int .u8 8,.int .u8 7,.int .u8 6])).modify 3 (Ωik #[.int .u64 1,.int .u64 10,.int .u64 100,.int .u64 1000,.int .u64 10000,.int .u64 100000,.int .u64 1000000,.int .u64 10000000,.int .u64 100000000,.int .u64 1000000000,.int .u64 10000000000,.int .u64 100000000000,.int .u64 1000000000000,.int .u64 10000000000000,.int .u64 100000000000000,.int .u64 1000000000000000,.int .u64 10000000000000000,.int .u64 100000000000000000,.int .u64 1000000000000000000,.int .u64 10000000000000000000])}
end
section
open Go.ChangeShapes Go.WideShapes Go.ChangeAt Go.RowKit Go.Deep
section
variable {H:Type} {enc:TypeId×Value→H} {w:World} {base b0:Nat} {spare:Nat→Bool} {held:Bool} {r:Reach} {v:Value} {d:DataW H} {p:List MemPlace}
theorem Ωlh{n:Nat}{c:Value}{x:DataW H×List MemPlace}(h:DataW.trod enc Tryz.prog w base spare held n 3 [c]=some x):∃a:Int,c= .int .i64 a∧In a:=by
 obtain⟨m,hc,_,hw⟩:=DataW.trod_int Tryz.underlying3 h
 exact⟨m,(List.cons.inj hc).1,by simpa [In,Lit.wf,IntKind.min,IntKind.max,IntKind.signed,IntKind.bits] using hw⟩
end
end
section
open Go.ChangeShapes Go.WideShapes Go.ChangeAt Go.RowKit Go.Deep
section
variable {H:Type} {enc:TypeId×Value→H} {w:World} {base b0:Nat} {spare:Nat→Bool} {held:Bool} {r:Reach} {v:Value} {d:DataW H} {p:List MemPlace}
theorem v_u8{n:Nat}{c:Value}{x:DataW H×List MemPlace}(h:DataW.trod enc Tryz.prog w base spare held n 5 [c]=some x):∃m:Nat,c= .int .u8 (m:Int)∧m<256:=by
 obtain⟨m,hc,_,hw⟩:=DataW.trod_int Tryz.underlying5 h
 have hb:0≤m∧m≤255:=by simpa [Lit.wf,IntKind.min,IntKind.max,IntKind.signed,IntKind.bits] using hw
 exact⟨m.toNat,by rw[(List.cons.inj hc).1];congr 1;omega,by omega⟩
theorem Ωna{n:Nat}{c:Value}{x:DataW H×List MemPlace}(h:DataW.trod enc Tryz.prog w base spare held n 25 [c]=some x):∃m:Nat,c= .int .u16 (m:Int)∧m<65536:=by
 obtain⟨m,hc,_,hw⟩:=DataW.trod_int Tryz.underlying25 h
 have hb:0≤m∧m≤65535:=by simpa [Lit.wf,IntKind.min,IntKind.max,IntKind.signed,IntKind.bits] using hw
 exact⟨m.toNat,by rw[(List.cons.inj hc).1];congr 1;omega,by omega⟩
end
end
section
open Go.ChangeShapes Go.WideShapes Go.ChangeAt Go.RowKit Go.Deep
theorem bulk_pos{H:Type}(d:DataW H):1≤Rows.uptoBulk d:=by
 cases d with
 |lit l=>cases l<;>simp[Rows.uptoBulk]
 |_=>simp[Rows.uptoBulk]
theorem Ωk8{H:Type}:∀(l:List (DataW H)),l.length≤Rows.uptoBulkAll l
 |[]=>Ωoh _
 |d::l=>by
  have h1:=bulk_pos d
  have h2:=Ωk8 l
  simp only[Rows.uptoBulkAll,ΩnD]
  omega
section
variable {H:Type} {enc:TypeId×Value→H} {P:Program} {w:World} {base:Nat} {spare:Nat→Bool} {held:Bool}
theorem open_trodB{α:Type}{Q:α→Prop}{M:α→Nat}(f:α→List Value)(s:Nat)(hs0:0<s){t e:TypeId}{fuel:Nat}{x:DataW H×List MemPlace}(hf:∀x,(f x).length =s)(ht:P.underlying t=some (.slice e))(hC:P.cellsOf e=s)
  (hread:∀n cs x,DataW.trod enc P w base spare held n e cs=some x→∃y:α,cs=f y∧Q y∧M y≤Rows.uptoBulk x.1)
  {c0:Value} (hf0:DataW.trod enc P w base spare held fuel t [c0]=some x):∃A n c L,c0= .slice A n c∧Arg f s w A n L∧n≤maxLen∧n≤c∧c≤maxLen∧(∀y∈L,Q y∧M y≤Rows.uptoBulk x.1)∧L.length≤Rows.uptoBulk x.1:=by
 rcases open_slice ht hf0 with⟨hcs,_⟩|⟨a,len,cap,m,n,D,Pl,hcs,hb,hl,hm,hmm,hx,hi⟩
 ·simp at hcs
  subst hcs
  exact⟨none,0,0,[],rfl,⟨rfl,fun i t h=>by simp at h⟩,by unfold maxLen;omega,Ωnv _,Ωoh _,fun y hy=>(by cases hy),Ωoh _⟩
 ·simp at hcs
  subst hcs
  have hd:x.1= .slice ((List.range len).map D) ((List.range (m-len)).map fun j=>D (len+j)):=by rw[hx]
  have hml:len≤m:=by rw[hmm];split<;>omega
  have hspot0:0<len→a.spot=none:=fun hl0=>by
   obtain⟨cs',hc,htr⟩:=hi 0 (by omega)
   obtain⟨y,rfl,hq,_⟩:=hread _ _ _ htr
   rw[hC] at hc
   obtain⟨_,hcl,hat⟩:=World.cells?_some hc
   have h1:w.cell? ((a.add (0*s)).add 0)=(f y)[0]? :=hat 0 hs0
   rw[Ωnu (by rw[hf];exact hs0)] at h1
   have h2:=ΩcA h1
   simpa [Addr.add] using h2
  have key:∀i,i<len→∃y:α,(Q y∧M y≤Rows.uptoBulk x.1)∧a.spot=none∧a.block<w.heap.size∧∀j,j<s→w.cell? ⟨a.block,a.off+i*s+j,none⟩=(f y)[j]? :=by
   intro i hil
   obtain⟨cs',hc,htr⟩:=hi i (by omega)
   obtain⟨y,rfl,hq,hm0⟩:=hread _ _ _ htr
   have hm1:M y≤Rows.uptoBulk x.1:=by
    refine Ωnz hm0 ?_
    rw[hd]
    simp only[Rows.uptoBulk]
    have:=ΩiF (l:=(List.range len).map D) (Ωos.2 ⟨i,List.mem_range.2 hil,rfl⟩)
    omega
   rw[hC] at hc
   obtain⟨_,hcl,hat⟩:=World.cells?_some hc
   have hcell:∀j,j<s→w.cell? ((a.add (i*s)).add j)=(f y)[j]? :=fun j hj=>hat j hj
   have hspot:∀j,j<s→((a.add (i*s)).add j).spot =none:=fun j hj=>by
    have h1:=hcell j hj
    rw[Ωnu (by rw[hf];exact hj)] at h1
    exact ΩcA h1
   have hblk:a.block<w.heap.size:=by
    have h1:=hcell 0 hs0
    rw[Ωnu (by rw[hf];exact hs0)] at h1
    have:=ΩoJ w _ h1
    rw[(ΩaH _ _).2,(ΩaH _ _).2] at this
    exact this
   refine⟨y,⟨hq,hm1⟩,?_,hblk,fun j hj=> ?_⟩
   ·exact hspot0 (by omega)
   ·rw[←hcell j hj,ΩcC (hspot j hj),(ΩaH _ _).1,(ΩaH _ _).2,(ΩaH _ _).1,(ΩaH _ _).2]
  obtain⟨L,hL,hget⟩:=ΩjW len key
  refine⟨some a,len,cap,L,rfl,⟨hL,fun i y hy=> ?_⟩,by omega,hl,hm,fun y hy=> ?_,?_⟩
  ·obtain⟨_,h1,h2,h3⟩:=hget i y hy
   exact⟨a.block,a.off,by rw[←ΩcC h1],h2,h3⟩
  ·obtain⟨i,hi'⟩:=List.getElem?_of_mem hy
   exact(hget i y hi').1
  ·rw[hL,hd]
   have:=Ωk8 ((List.range len).map D)
   simp only[ΩnN,List.length_range] at this
   simp only[Rows.uptoBulk]
   omega
end
section
variable {H:Type} {enc:TypeId×Value→H} {w:World} {base b0:Nat} {spare:Nat→Bool} {held:Bool} {r:Reach} {v:Value} {d:DataW H} {p:List MemPlace}
def u8C(x:UInt8):List Value:=[.int .u8 (x.toNat:Int)]
theorem w_u8{n:Nat}{cs:List Value}{x:DataW H×List MemPlace}(h:DataW.trod enc Tryz.prog w base spare held n 5 cs=some x):∃y:UInt8,cs=u8C y∧True:=by
 obtain⟨m,hc,_,hw⟩:=DataW.trod_int Tryz.underlying5 h
 have hb:0≤m∧m≤255:=by simpa [Lit.wf,IntKind.min,IntKind.max,IntKind.signed,IntKind.bits] using hw
 refine⟨UInt8.ofNat m.toNat,?_,trivial⟩
 rw[hc]
 unfold u8C
 rw[UInt8.toNat_ofNat']
 congr 2
 omega
theorem arg_kd{A:Option Addr}{n:Nat}{L:List UInt8}(h:Arg u8C 1 w A n L):KdAt w A L:=fun j x hx=>by
 obtain⟨bk,off,hA,_,hc⟩:=h.2 j x hx
 have h0:=hc 0 (by omega)
 rw[Nat.mul_one,Nat.add_zero] at h0
 exact⟨bk,off,hA,h0⟩
theorem u8s_trod{n:Nat}{c:Value}{x:DataW H×List MemPlace}(h:DataW.trod enc Tryz.prog w base spare held n 22 [c]=some x):∃(A:Option Addr) (k:Nat) (L:List UInt8),c= .slice A L.length k∧KdAt w A L∧L.length≤Rows.uptoBulk x.1:=by
 obtain⟨A,m,k,L,rfl,hA,_,_,_,_,hl⟩:=open_trodB (P:=Tryz.prog) (Q:=fun _=>True) (M:=fun _=>0) u8C 1 (by omega) (fun _=>rfl) Tryz.underlying22 (by kernel_rfl) (fun n cs x hx=>by
  obtain⟨y,h1,h2⟩:=w_u8 hx
  exact⟨y,h1,h2,Ωoh _⟩) h
 exact⟨A,k,L,by rw[hA.1],arg_kd hA,hl⟩
theorem wd_open(hv:Value.okWide Tryz.prog w r b0 24 v)(h:DataW.Trod enc Tryz.prog w base spare held 24 v d p):∃(e:Wd) (kA:Option Addr) (kc:Nat),v= .agg (wdC e kA kc)∧e.Ok∧KdAt w kA e.kinds∧e.kinds.length≤Rows.uptoBulk d:=by
 have hagg:∃cs,v= .agg cs:=by
  have hv' :=hv
  simp only[Value.okWide,Tryz.underlying24] at hv'
  obtain⟨cs,h1,_⟩:=hv'
  exact⟨cs,h1⟩
 obtain⟨cs,rfl⟩:=hagg
 obtain⟨fuel,hf⟩:=h
 obtain⟨xs,m,_,hx,hcl,hlen,hg⟩:=DataW.trod_struct Tryz.underlying24 hf
 have e3:Tryz.prog.cellsOf 24=3:=by kernel_rfl
 have e1:Tryz.prog.cellsOf 5=1:=by kernel_rfl
 have e2:Tryz.prog.cellsOf 22=1:=by kernel_rfl
 have hl:(Value.agg cs).cells.toList.length =3:=hcl.trans e3
 obtain⟨l⟩:=cs
 simp only[Value.cells] at hl hg
 match l,hl with
 |[c0,c1,c2],_=>
  match xs,hlen with
  |[y0,y1,y2],_=>
   have h0:=hg 0 _ rfl
   have h1:=hg 1 _ rfl
   have h2:=hg 2 _ rfl
   clear hg
   simp[e1,e2] at h0 h1 h2
   obtain⟨x,rfl,bx⟩:=v_u8 h0
   obtain⟨kA,kc,ks,rfl,hk,hkl⟩:=u8s_trod h1
   obtain⟨y,rfl,by'⟩:=v_u8 h2
   refine⟨⟨x,ks,y⟩,kA,kc,rfl,⟨bx,by'⟩,hk,?_⟩
   have hd:d= .agg [y0.1,y1.1,y2.1]:=by simpa using congrArg Prod.fst hx
   rw[hd]
   simp only[Rows.uptoBulk,Rows.uptoBulkAll]
   show ks.length≤_
   omega
end
end
end Go.Proofs.YtgalfohobgjelaaGreatDoor
