/- What is proved here: a part of the proof that 'probitylaw31.ClientPlays' answers true. Conditions: each theorem's own. -/
import Derived.Test.YtgalfohobgjelaaGreatDoorPy32
set_option maxRecDepth 100000
set_option maxHeartbeats 8000000
namespace Go.Proofs.YtgalfohobgjelaaGreatDoor
section
open Go.RowKit Go.Shelf
attribute [local go_sem ↓ high] Ωbh Ω2 ΩG Ωaq ΩQ Ωhc
structure MsS(w:World)(base E:Nat)(c:Md)(sent:Bool)(t:ByteArray)(e:Ev)(W:World):Prop where
 at_:MdAt W base c sent t
 ev:Blk W E tEv (evC e).toArray
 only:Only Ωa w W
theorem MsS.none_{w:World}{base E:Nat}{c:Md}{sent:Bool}{t:ByteArray}{e:Ev}{W W' :World}(h:MsS w base E c sent t e W)(ho:Only Ωa W W'):MsS w base E c sent t e W' :=⟨h.at_.nn ho,h.ev.only ho (fun h=>h.elim),h.only.trans ho⟩
theorem MsS.ld{w:World}{base E:Nat}{c:Md}{sent:Bool}{t:ByteArray}{e:Ev}{W:World}(h:MsS w base E c sent t e W)(he:e.prev.length=32):(Ωcx (.pointer (some ⟨E,0,none⟩))).run Tryz.prog W= .ok (.agg (evC e).toArray) W:=
 ΩaY (fun j v hj=>by rw[ΩnR,h.ev.cell];simpa using hj) he
theorem MsS.su{w:World}{base E:Nat}{c:Md}{sent:Bool}{t:ByteArray}{e:Ev}{W:World}(h:MsS w base E c sent t e W):(Ωge (.pointer (some ⟨c.M,1,none⟩))).run Tryz.prog W= .ok (setV c.pv) W:=ΩcH (ΩfQ h.at_.blk)
structure MsT(w:World)(base E N:Nat)(c c9:Md)(sent:Bool)(t:ByteArray)(n:Hd)(e:Ev)(W:World):Prop where
 at_:MdAt W base c9 sent t
 step:ΩU w W c c9
 hd:HdAt W N n
 ev:Blk W E tEv (evC e).toArray
theorem MsT.none_{w:World}{base E N:Nat}{c c9:Md}{sent:Bool}{t:ByteArray}{n:Hd}{e:Ev}{W W' :World}(h:MsT w base E N c c9 sent t n e W)(ho:Only Ωa W W'):MsT w base E N c c9 sent t n e W' :=
 ⟨h.at_.nn ho,h.step.trans (ΩU.nn ho),Blk.only h.hd ho (fun e=>e),h.ev.only ho (fun h=>h.elim)⟩
def Md.recd(c:Md)(b:Bool):Md:={c with rc:=b}
theorem bids_last{W:World}{base g cap k:Nat}{xs ys:List Value}{q:ByteArray}{G:Nat}(h:W.ownsRow base tBid 5 (.slice (some ⟨g,0,none⟩) (k+1) cap) (k+1) xs)(hl:ys.length=k*5)(hx:xs=ys++bd5 q G):(bdLd (.pointer (some ⟨g,k*5,none⟩))).run Tryz.prog W= .ok (.agg (bd5 q G).toArray) W:=by
 have hr:W.rangeAt g (k*5) (bd5 q G):=fun j v hj=>by
  have h1:=World.ownsRow.cells h rfl (k*5+j) v (by rw[hx,ΩnM (by omega),hl,Nat.add_sub_cancel_left];exact hj)
  rw[ΩoK,ΩnR] at h1
  exact h1
 exact ΩoG W g (k*5) tBid (bd5 q G) _ hr Tryz.underlying75 rfl (by kernel_rfl)
theorem mshow_any(c:Md)(base:Nat)(sent:Bool)(t:ByteArray)(hP:ΩS c.P)(hpub:∀p∈c.P,In p.pub)(hlen:c.P.length≤1000)(L:List Vt)(hok:Ω4 L)(hsv:ΩcW L)(hL:L.length≤1000)(hn:c.votes.length≤50000)(sv:Value)(e:Ev)(he:e.Ok)(hen:e.name.size≤1000000000)(het:e.text.size≤1000000000)(Q:List Hs)(hqok:HsOk Q)(qv:Value)(w:World)(h:MdAt w base c sent t)(hb:base≤w.heap.size)(hs:VtSl w sv L)(ha:Ωfz c sv)(hq:HaSl w qv Q)(hqa:Ωfz c qv):
  Calls Tryz.prog 57 #[.pointer (some ⟨c.M,0,none⟩),.agg (evC e).toArray,qv,sv] w fun e' w' =>(ΩdI c.P c.id sent t e≠0∧e' = .returned (.int .i64 (ΩdI c.P c.id sent t e))∧MdAt w' base c sent t∧ΩU w w' c c)∨(ΩdI c.P c.id sent t e=0∧∃o,ΩbH c.P L o∧e' = .returned (.int .i64 (Ωak o e Q))∧∃vv,MdAt w' base ((c.took vv (ΩA c.votes L)).recd (c.rc||decide (Ωak o e Q=0))) sent t∧ΩU w w' c ((c.took vv (ΩA c.votes L)).recd (c.rc||decide (Ωak o e Q=0)))):=by
 obtain⟨E,eE⟩:∃E,E=w.heap.size:=⟨_,rfl⟩
 have h0:MsS w base E c sent t e (w.alloc (.cells (evC e).toArray tEv)):=⟨h.nn ((Only.refl _ _).alloc _),by rw[eE];exact Blk.new w _ _,(Only.refl _ _).alloc _⟩
 have H0:=Θ h0
 have EE:=Θ eE
 have H:=Θ h
 have HE:=Θ he
 have HPO:=Θ hP
 have HVE:Hid (∀W,MsS w base E c sent t e W→Calls Tryz.prog 97 #[setV c.pv,.agg (evC e).toArray] W fun e' w' =>e' = .returned (.int .i64 (verL c.P e))∧Only Ωa W w'):=Θ (fun W hW=>rverifyE_any c.P c.pv _ _ _ _ _ e he (by omega) (by omega) W (ΩT.sl hW.at_.pers) hpub)
 have HTK:Hid (∀W,MsS w base E c sent t e W→Calls Tryz.prog 94 #[.pointer (some ⟨c.M,0,none⟩),sv] W fun e w' =>e= .returned (.tuple #[])∧∃vv,MtS W base c sent t (ΩA c.votes L) vv w'):=Θ (fun W hW=>Ωjd c base L hok hL hn sv W hW.at_ (Ωnz hb hW.only.size) (hs.only hW.only) ha)
 obtain⟨qA,qcap,rfl,hq1,hq2,hq3⟩:=id hq
 obtain⟨sA,scap,rfl,_,_,_⟩:=id hs
 have HQ:=Θ (And.intro hq hqa)
 have HVS:=Θ (And.intro hs ha)
 have HOK:=Θ hok
 have HSV:=Θ hsv
 have HQOK:=Θ hqok
 have hEw:w.heap.size≤E:=by omega
 obtain⟨bA,bcap,ebv,hbc1,hbc2⟩:=Ωt h.bids
 have HBV:=Θ ebv
 have HLAST:=Θ h.last
 clear h0 eE h he hq hqa hs ha hok hsv hqok hpub hq1 hq2 hq3 ebv hP
 obtain⟨pre,epre⟩:∃v,v=ΩdI c.P c.id sent t e:=⟨_,rfl⟩
 rw[←epre]
 unfold ΩdI at epre
 have HPRE:=Θ epre
 clear epre
 obtain⟨M,eM⟩:∃M,M=c.M:=⟨_,rfl⟩
 rw[←eM]
 rw[←eM] at HTK
 have EM:=Θ eM
 clear eM
 obtain⟨bn,ebn⟩:∃n,n=c.bn:=⟨_,rfl⟩
 have EBN:=Θ ebn
 rw[←ebn] at hbc1
 clear ebn
 go_enter Tryz.func57,Tryz.ntmps57
 go_upto_region 1 with(fail)
 rw[←EE.out]
 refine Ωf (MsS w base E c sent t e) H0.out ?_
 intro Y hY
 have c7:Y.cell? ⟨M,7,none⟩=some (.slice bA bn bcap):=by
  have h1:=Ωih hY.at_.blk
  rw[HBV.out,←EM.out,←EBN.out] at h1
  exact h1
 have HY:=Θ hY
 clear hY H0 EE
 have HOUT:Hid (∀(W:World) (v:Int),MsS w base E c sent t e W→pre=v→v≠0→pre≠0∧Ending.returned (.int .i64 v)=Ending.returned (.int .i64 pre)∧MdAt W base c sent t∧ΩU w W c c):=Θ (fun W v hW h1 h2=>by subst h1;exact⟨h2,rfl,hW.at_,ΩU.nn hW.only⟩)
 obtain⟨sb,esb⟩:∃sb,sb=sent:=⟨_,rfl⟩
 rw[←esb] at HPRE
 have ESB:=Θ esb
 clear esb
 cases sb with
 |false=>
  have hp:pre=34:=by rw[HPRE.out,ΩnV rfl]
  have hb0:bn=0:=by
   rcases HLAST.out with⟨h1,_⟩|⟨_,_,_,_,_,_,_,h4,_⟩
   ·rw[EBN.out];exact h1
   ·rw[←ESB.out] at h4;cases h4
  have d0:((bn:Int)==0)=true:=by rw[hb0];rfl
  have HP:=Θ hp
  clear hp hb0
  go_wp2_with fail
  go_ret
  exact .inl (HOUT.out _ _ HY.out HP.out (by decide))
 |true=>
  have hp:pre=if verL c.P e≠0 then verL c.P e else if e.who≠c.id then 35 else if e.kind≠4 then 35 else if e.text≠t then 20 else 0:=by rw[HPRE.out,ΩnU (by decide)]
  have HP:=Θ hp
  have hlast:∃(k:Nat) (ys:List Value) (q:Int) (G:Nat),bn=k+1∧ys.length=k*5∧c.bcs=ys++bd5 (bidW q).qt G∧t=encT (bidW q)∧∀W,MsS w base E c sent t e W→Blk W G 3 #[.int .i64 4]:=by
   rcases HLAST.out with⟨_,h2⟩|⟨k,ys,q,G,h1,h2,h3,_,h5,h6⟩
   ·rw[←ESB.out] at h2;cases h2
   ·exact⟨k,ys,q,G,by rw[EBN.out];exact h1,h2,h3,h5,fun W hW=>h6.only hW.only (fun e=>e)⟩
  obtain⟨k,ys,q,G,hbk,hys,hxs,ht,hG⟩:=hlast
  have d0:((bn:Int)==0)=false:=by rw[ΩnL];omega
  have HBK:=Θ (And.intro hbk (And.intro hys (And.intro hxs ht)))
  have HG:=Θ hG
  clear hp hbk hys hxs ht hG HLAST HPRE
  go_upto_region 3 with(fail)
  have hY0:=HY.out
  have hY1:=HY.out.none_ ((Only.refl Ωa Y).drew)
  have l1:∀W,MsS w base E c sent t e W→(Ωge (.pointer (some ⟨M,1,none⟩))).run Tryz.prog W= .ok (setV c.pv) W:=fun W hW=>by
   have h1:=hW.su
   rw[←EM.out] at h1
   exact h1
  have l2:∀W,MsS w base E c sent t e W→(Ωcx (.pointer (some ⟨E,0,none⟩))).run Tryz.prog W= .ok (.agg (evC e).toArray) W:=fun W hW=>hW.ld HE.out.prev
  have HKPS:Hid (∀W W',MsS w base E c sent t e W→Only Ωa W W'→MsS w base E c sent t e W'):=Θ (fun W W' h ho=>h.none_ ho)
  clear d0
  go_region_held3 (fun W=>MsS w base E c sent t e W) (first|(with_reducible assumption))
   (first
    |(go_at_call 97;(with_reducible refine(HVE.out _ (by with_reducible assumption)).mono ?_);rintro e1 w1 ⟨rfl,ho1⟩;have hS1:=HKPS.out _ _ (by with_reducible assumption) ho1))
  all_goals
   obtain⟨vr,evr⟩:∃v,v=verL c.P e:=⟨_,rfl⟩
   rw[←evr] at HP⊢
   have HY1:=Θ hS1
   clear hY0 hY1 hS1 ho1 l1 l2 c7 evr HVE HY
   by_cases hv:vr=0
   ·subst hv
    have hp1:pre=if e.who≠c.id then 35 else if e.kind≠4 then 35 else if e.text≠t then 20 else 0:=by rw[HP.out,ΩnU (by decide)]
    have HP1:=Θ hp1
    clear hp1 HP
    have k0:=md_id HY1.out.at_.blk
    rw[←EM.out] at k0
    have e1:=HY1.out.ev.cell 1
    have e2:=HY1.out.ev.cell 2
    simp only[evC,Ωn9,ΩnC,ΩnF,ΩnK] at e1 e2
    obtain⟨ew,eew⟩:∃x,x=e.who:=⟨_,rfl⟩
    obtain⟨ek,eek⟩:∃x,x=e.kind:=⟨_,rfl⟩
    obtain⟨et,eet⟩:∃x,x=e.text:=⟨_,rfl⟩
    obtain⟨ci,eci⟩:∃x,x=c.id:=⟨_,rfl⟩
    rw[←eew,←eek,←eet,←eci] at HP1
    rw[←eew] at e2
    rw[←eek] at e1
    rw[←eci] at k0
    have EET:=Θ eet
    clear eew eek eet eci
    by_cases hw:ew=ci
    ·have b1:(ew==ci)=true:=by simpa using hw
     have b1n:(ew !=ci)=false:=by simp[bne,b1]
     have hp2:pre=if ek≠4 then 35 else if et≠t then 20 else 0:=by rw[HP1.out,ΩnU (by simpa using hw)]
     have HP2:=Θ hp2
     clear hp2 HP1 hw
     by_cases hk:ek=4
     ·subst hk
      have hp3:pre=if et≠t then 20 else 0:=by rw[HP2.out,ΩnU (by decide)]
      have HP3:=Θ hp3
      clear hp3 HP2
      go_upto_region 6 with(fail)
      go_quiet (fail)
      go_upto_region 8 with(fail)
      refine Ωf (MsS w base E c sent t e) (HY1.out.none_ ((Only.refl _ _).drewN _)) ?_
      clear e1 e2 k0 b1 b1n HY1
      intro Z hZ
      obtain⟨hbk,hys,hxs,ht⟩:=HBK.out
      have hgA:∃g,bA=some ⟨g,0,none⟩:=by
       have h1:=hZ.at_.bids
       rw[HBV.out] at h1
       rcases h1.2 with⟨_,h3⟩|⟨g,cap,cur,h2,_⟩
       ·exfalso
        rw[EBN.out] at hbk
        omega
       ·simp only[Value.slice.injEq] at h2
        exact⟨g,h2.1⟩
      obtain⟨g,rfl⟩:=hgA
      have c9:∀W,MsS w base E c sent t e W→W.cell? ⟨E,9,none⟩=some (.string et):=fun W hW=>by
       have h1:=hW.ev.cell 9
       simp only[evC,Ωn9,ΩnC,ΩnF,ΩnK] at h1
       rw[EET.out]
       exact h1
      have c7:∀W,MsS w base E c sent t e W→W.cell? ⟨M,7,none⟩=some (.slice (some ⟨g,0,none⟩) bn bcap):=fun W hW=>by
       have h1:=Ωih hW.at_.blk
       rw[HBV.out,←EM.out,←EBN.out] at h1
       exact h1
      have lb:∀W,MsS w base E c sent t e W→(bdLd (.pointer (some ⟨g,k*5,none⟩))).run Tryz.prog W= .ok (.agg (bd5 (bidW q).qt G).toArray) W:=fun W hW=>by
       have h1:=hW.at_.bids
       rw[HBV.out,←EBN.out,hbk] at h1
       exact bids_last h1 hys hxs
      have hbm:bn≤9223372036854775807:=by rw[Ωg] at hbc2;omega
      have ix:IntKind.i64.wrap ((bn:Int)-1)=(k:Int):=by rw[show(bn:Int)-1=(k:Int) by omega];exact ΩnH _ (by omega)
      have ix0:(0:Int)≤(k:Int):=by omega
      have ix2:(k:Int)<(bn:Int):=by omega
      have hkc:k<9223372036854775807:=by rw[Ωg] at hbc2;omega
      have HEN:Hid (∀W,MsS w base E c sent t e W→Calls Tryz.prog 37 #[.agg (bd5 (bidW q).qt G).toArray] W fun e' w' =>e' = .returned (.string t)∧Only Ωa W w'):=Θ (fun W hW=>by
       have h1:=Ωev (bidW q) (Ωj8 q) (qA:=some ⟨G,0,none⟩) (pA:=none) (qk:=1) (pk:=0) (w:=W) (Ωmb (HG.out W hW)) (.inl rfl)
       rw[ΩmU] at h1
       refine h1.mono ?_
       rintro e' w' ⟨s,rfl,hs,ho⟩
       obtain rfl:s=encT (bidW q):=Ωld hs
       exact⟨by rw[ht],ho⟩)
      have hZ1:=hZ.none_ ((Only.refl Ωa Z).drew)
      obtain⟨bd,ebd⟩:∃bd:Array Value,bd=(bd5 (bidW q).qt G).toArray :=⟨_,rfl⟩
      rw[←ebd] at lb HEN
      have HTT:=Θ ht
      clear hbk hys hxs ht ebd
      by_cases htx:et=t
      ·have b3:(et.toList==t.toList)=true:=by rw[←beq_toListBytes];exact ΩmB htx
       have hp4:pre=0:=by rw[HP3.out,ΩnU (by simpa using htx)]
       have HP4:=Θ hp4
       clear hp4 HP3 htx
       go_region_held3 (fun W=>MsS w base E c sent t e W) (first|(with_reducible assumption))
        (first
         |(go_at_call 37;(with_reducible refine(HEN.out _ (by with_reducible assumption)).mono ?_);rintro e3 w3 ⟨rfl,ho3⟩;have hS3:=HKPS.out _ _ (by with_reducible assumption) ho3;clear ho3))
       have HZ2:=Θ hS3
       clear hS3 hZ hZ1 c9 c7 lb ix ix0 ix2 hbm HEN
       go_wp2_with fail
       refine(HTK.out _ HZ2.out).mono ?_
       rintro e5 w5 ⟨rfl,vv,hT5⟩
       obtain⟨c9,ec9⟩:∃c9:Md,c9=c.took vv (ΩA c.votes L):=⟨_,rfl⟩
       have hoff:¬c.foot E:=HZ2.out.at_.off HZ2.out.ev (by decide) (by decide) (by decide) (by decide)
       have hev5:Blk w5 E tEv (evC e).toArray :=HZ2.out.ev.only hT5.step.1 hoff
       have h9:MdAt w5 base c9 sent t∧ΩU w w5 c c9:=by rw[ec9];exact⟨hT5.at_,(ΩU.nn HZ2.out.only).trans hT5.step⟩
       have hM9:c9.M=M:=by rw[ec9,EM.out];rfl
       have hp9:c9.P=c.P:=by rw[ec9];rfl
       have hbs:Calls Tryz.prog 95 #[setV c9.pv,.slice sA L.length scap] w5 fun e w' =>∃o,ΩbH c.P L o∧e= .returned (.tuple #[.agg (hdC (hdOr o)).toArray,.bool o.isSome])∧Only Ωa w5 w' :=by
        have hpo:=h9.1.pers
        rw[hp9] at hpo
        exact Ωhu c.P HPO.out hlen c9.pv L HOK.out (by omega) _ w5 (ΩT.sl hpo) (HVS.out.1.step h9.2.1 (fun a n cap e=>HVS.out.2 a n cap e))
       have hsl:=ΩcH (pv:=c9.pv) (ΩfQ h9.1.blk)
       rw[hM9] at hsl
       have HBS:=Θ hbs
       have H9:=Θ (And.intro h9 hev5)
       have HM9:=Θ hM9
       have EC9:=Θ ec9
       clear hT5 ec9 h9 hM9 hp9 hbs hoff hev5 HTK HZ2
       go_wp2_with fail
       refine HBS.out.mono ?_
       rintro e6 w6 ⟨o,hbo,rfl,ho6⟩
       have hho:=Ωhb HOK.out hbo
       have hhs:=ΩbY HSV.out hbo
       obtain⟨n,en⟩:∃n,n=hdOr o:=⟨_,rfl⟩
       rw[←en] at hho hhs⊢
       have hnl:=hho.root
       have hnw:=Ωal
       have hst:=Ωa9 w6 hnl
       have ho7:Only Ωa w6 ((w6.alloc (.cells hd0C 37)).setCells w6.heap.size 0 (hdC n)):=Ωb ((Only.refl _ _).alloc _) w6.heap.size 0 (.inr (Ωnv _)) _
       have ha7:HdAt ((w6.alloc (.cells hd0C 37)).setCells w6.heap.size 0 (hdC n)) w6.heap.size n:=Ωj (Blk.new w6 _ _) (by rw[Ωo hnl];rfl)
       obtain⟨N,eN⟩:∃N,N=w6.heap.size:=⟨_,rfl⟩
       rw[←eN] at ho7 ha7
       have H7:Hid (MsT w base E N c c9 sent t n e ((w6.alloc (.cells hd0C 37)).setCells N 0 (hdC n))):=Θ ⟨H9.out.1.1.nn (ho6.trans ho7),H9.out.1.2.trans (ΩU.nn (ho6.trans ho7)),ha7,H9.out.2.only (ho6.trans ho7) (fun h=>h.elim)⟩
       have EN:=Θ eN
       have EHN:=Θ en
       have HBO:Hid (ΩbH c.P L o):=Θ hbo
       have HHO:=Θ hho
       have HHS:=Θ hhs
       clear ho6 ho7 ha7 eN en hbo hho hhs H9 HBS hsl
       go_upto_region 12 with(fail)
       rw[←EN.out]
       refine Ωf (MsT w base E N c c9 sent t n e) H7.out ?_
       clear H7 EN hst hnw
       intro V hV
       have HV:=Θ hV
       have HFIN:Hid (∀W,MsT w base E N c c9 sent t n e W→Ωak o e Q≠0→∃vv,MdAt W base ((c.took vv (ΩA c.votes L)).recd (c.rc||decide (Ωak o e Q=0))) sent t∧ΩU w W c ((c.took vv (ΩA c.votes L)).recd (c.rc||decide (Ωak o e Q=0)))):=Θ (fun W hW hr=>⟨vv,by
        have e0:(c.took vv (ΩA c.votes L)).recd (c.rc||decide (Ωak o e Q=0))=c9:=by rw[Ωny hr,Bool.or_false,EC9.out];rfl
        rw[e0]
        exact⟨hW.at_,hW.step⟩⟩)
       clear hV
       cases o with
       |none=>
        go_wp2_with fail
        go_ret
        exact .inr ⟨HP4.out,none,HBO.out,rfl,HFIN.out _ HV.out (by show(24:Int)≠0;decide)⟩
       |some m=>
        have hm:n=m:=EHN.out
        obtain⟨s1,es1,hs1⟩:=HHS.out
        have hpo:Ωak (some m) e Q=if ckP n.root s1 e.seq (ΩaJ e) Q=true then 0 else 41:=by
         rw[←hm]
         unfold Ωak
         simp only[es1,Ωoj]
        have HPO2:=Θ hpo
        obtain⟨β,eβ⟩:∃β,β=ckP n.root s1 e.seq (ΩaJ e) Q:=⟨_,rfl⟩
        rw[←eβ] at HPO2
        have HENC:Hid (∀W,Calls Tryz.prog 36 #[.agg (evC e).toArray] W (Ωq (ΩaJ e) W)):=Θ (fun W=>Ωd5 e HE.out (by omega) (by omega) W)
        have HCK:Hid (∀(t9:ByteArray) W,t9.data.toList=ΩaJ e→MsT w base E N c c9 sent t n e W→Calls Tryz.prog 98 #[.agg (hdC n).toArray,.int .i64 e.seq,.string t9,.slice qA Q.length qcap] W fun e' w' =>e' = .returned (.bool β)∧Only Ωa W w'):=Θ (fun t9 W ht hW=>by
         have h1:=rcheckpath_any n s1 es1 hs1 HHO.out.root e.seq t9 (by rw[Ωc,ht];exact Ωdl HE.out (by omega) (by omega)) Q HQOK.out (.slice qA Q.length qcap) W (HQ.out.1.step hW.step.1 (fun a n cap e=>HQ.out.2 a n cap e))
         rw[ht,←eβ] at h1
         exact h1)
        clear hm hpo eβ es1
        go_upto_region 14 with(fail)
        have l1:∀W,MsT w base E N c c9 sent t n e W→(Ωa4 (.pointer (some ⟨N,0,none⟩))).run Tryz.prog W= .ok (.agg (hdC n).toArray) W:=fun W hW=>ΩC (Ωd hW.hd) HHO.out.root
        have l2:∀W,MsT w base E N c c9 sent t n e W→(Ωcx (.pointer (some ⟨E,0,none⟩))).run Tryz.prog W= .ok (.agg (evC e).toArray) W:=fun W hW=>ΩaY (fun j v hj=>by rw[ΩnR,hW.ev.cell];simpa using hj) HE.out.prev
        have e0:∀W,MsT w base E N c c9 sent t n e W→W.cell? ⟨E,0,none⟩=some (.int .i64 e.seq):=fun W hW=>hW.ev.cell 0
        have HKPT:Hid (∀W W',MsT w base E N c c9 sent t n e W→Only Ωa W W'→MsT w base E N c c9 sent t n e W'):=Θ (fun W W' h ho=>h.none_ ho)
        have hV0:=HV.out
        have hV1:=HV.out.none_ (Only.refl _ _).drew
        go_region_held3 (fun W=>MsT w base E N c c9 sent t n e W) (first|(with_reducible assumption))
         (first
          |(go_at_call 36;(with_reducible refine(HENC.out _).mono ?_);rintro e7 w7 ⟨t7,rfl,ht7,ho7⟩;have hS7:=HKPT.out _ _ (by with_reducible assumption) ho7;have HT7:=Θ ht7;clear ho7 ht7)
          |(go_at_call 98;(with_reducible refine(HCK.out _ _ HT7.out (by with_reducible assumption)).mono ?_);rintro e8 w8 ⟨rfl,ho8⟩;have hS8:=HKPT.out _ _ (by with_reducible assumption) ho8;clear ho8))
        all_goals
         have HT8:=Θ hS8
         clear hS8 hS7 hV0 hV1 l1 l2 e0 HENC HCK HV
         cases β with
         |true=>
          have hz:Ωak (some m) e Q=0:=by rw[HPO2.out];rfl
          have hT:=HT8.out
          have b3:=Ωjh hT.at_.blk hT.at_.hok.root true
          have s3:=Ωm4 hT.at_.blk hT.at_.hok.root
          have f3:=hT.at_.blk.frozen 42
          have hon:Only (fun k=>k=c9.M) w8 (w8.setCell ⟨c9.M,42,none⟩ (.bool true)):=(Only.refl (fun k=>k=c9.M) w8).setCell (p:=⟨c9.M,42,none⟩) (.inl rfl) _
          have hfin:=hT.at_.recell (c' :=c9.recd true) hon b3 rfl rfl rfl rfl rfl rfl rfl rfl hT.at_.hok
          have hst:=hT.step.trans (Ωfu (c' :=c9.recd true) hon rfl rfl rfl rfl)
          have ee:(c.took vv (ΩA c.votes L)).recd (c.rc||decide (Ωak (some m) e Q=0))=c9.recd true:=by rw[ΩnG hz,Bool.or_true,EC9.out]
          rw[←ee] at hfin hst
          rw[HM9.out] at s3 f3 hfin hst
          have HF:=Θ (And.intro hfin hst)
          have HZ9:=Θ hz
          clear hfin hst ee b3 hon hT hz
          go_wp2_with fail
          go_ret
          exact .inr ⟨HP4.out,some m,HBO.out,ΩB HZ9.out.symm,vv,HF.out⟩
         |false=>
          have hz:Ωak (some m) e Q=41:=by rw[HPO2.out];rfl
          have HZ9:=Θ hz
          clear hz
          go_wp2_with fail
          go_ret
          exact .inr ⟨HP4.out,some m,HBO.out,ΩB HZ9.out.symm,HFIN.out _ HT8.out (by rw[HZ9.out];decide)⟩
      ·have b3:(et.toList==t.toList)=false:=by rw[←beq_toListBytes];exact ΩmA htx
       have hp4:pre=20:=by rw[HP3.out,ΩnV htx]
       have HP4:=Θ hp4
       clear hp4 HP3 htx
       go_region_held3 (fun W=>MsS w base E c sent t e W) (first|(with_reducible assumption))
        (first
         |(go_at_call 37;(with_reducible refine(HEN.out _ (by with_reducible assumption)).mono ?_);rintro e3 w3 ⟨rfl,ho3⟩;have hS3:=HKPS.out _ _ (by with_reducible assumption) ho3;clear ho3))
       have HZ2:=Θ hS3
       clear hS3 hZ hZ1 c9 c7 lb ix ix0 ix2 hbm HEN
       go_wp2_with fail
       go_ret
       exact .inl (HOUT.out _ _ HZ2.out HP4.out (by decide))
     ·have b2:(ek==4)=false:=by simpa using hk
      have b2n:(ek !=4)=true:=by simp[bne,b2]
      have hp3:pre=35:=by rw[HP2.out,ΩnV hk]
      have HP3:=Θ hp3
      clear hp3 HP2 hk
      go_upto_region 6 with(fail)
      go_quiet (fail)
      go_wp2_with fail
      go_ret
      exact .inl (HOUT.out _ _ (HY1.out.none_ ((Only.refl _ _).drewN _)) HP3.out (by decide))
    ·have b1:(ew==ci)=false:=by simpa using hw
     have b1n:(ew !=ci)=true:=by simp[bne,b1]
     have hp2:pre=35:=by rw[HP1.out,ΩnV hw]
     have HP2:=Θ hp2
     clear hp2 HP1 hw
     go_upto_region 6 with(fail)
     go_quiet (fail)
     go_wp2_with fail
     go_ret
     exact .inl (HOUT.out _ _ (HY1.out.none_ ((Only.refl _ _).drewN _)) HP2.out (by decide))
   ·have hp1:pre=vr:=by rw[HP.out,ΩnV hv]
    have HP1:=Θ hp1
    have HV:=Θ hv
    have b0:(vr==0)=false:=by simpa using hv
    have b0n:(vr !=0)=true:=by simp[bne,b0]
    clear hp1 HP hv
    go_wp2_with fail
    go_ret
    exact .inl (HOUT.out _ _ HY1.out HP1.out HV.out)
end
section
open Go.RowKit Go.Shelf
attribute [local go_sem ↓ high] ΩG Ωaj Ωgi
theorem ΩgR(p:Pers)(po:p.Ok)(v:Vt)(vo:v.Ok)(w:World):Calls Tryz.prog 24 #[.agg #[.int .i64 p.id,.int .i64 p.role,.int .i64 p.pub],.agg (vtC v).toArray] w fun e w' =>e= .returned (.bool (cnts p v))∧Only Ωa w w' :=by
 obtain⟨B,eB⟩:∃B,B=w.heap.size:=⟨_,rfl⟩
 have hS0:CtS w B p v ((w.alloc (.cells #[.int .i64 p.id,.int .i64 p.role,.int .i64 p.pub] 67)).alloc (.cells (vtC v).toArray tVt)):=by
  have h2:=Blk.new (w.alloc (.cells #[.int .i64 p.id,.int .i64 p.role,.int .i64 p.pub] 67)) tVt (vtC v).toArray
  rw[Ωnw,←eB] at h2
  exact⟨by rw[eB];exact(Blk.new w _ _).alloc _,h2,((Only.refl _ _).alloc _).alloc _⟩
 have hl:=vo.head.root
 obtain⟨T1,hT1⟩:∃A:ByteArray,A=hdT v.head:=⟨_,rfl⟩
 have z1:T1.size≤100:=by rw[hT1];exact ΩdD vo.head
 obtain⟨γ,hγ⟩:∃γ,γ=ΩcQ p.pub (ΩbB v.head) v.r v.s:=⟨_,rfl⟩
 have f1:∀W,Calls Tryz.prog 54 #[.agg (hdC v.head).toArray] W (fun e' w' =>e' = .returned (.string T1)∧Only Ωa W w'):=fun W=>by rw[hT1];exact Ωdy v.head vo.head W
 have f2:∀W,Calls Tryz.prog 53 #[.int .i64 p.pub,.string T1,sgv v.r v.s] W (fun e' w' =>e' = .returned (.bool γ)∧Only Ωa W w'):=fun W=>by
  have h:=Ωd2 p.pub v.r v.s T1 W (by omega) po.pub.1 po.pub.2 vo.r.1 vo.r.2
  rw[hT1,ΩeJ,←hγ] at h
  rw[hT1];exact h
 have HA:=Θ f1
 have HB:=Θ f2
 have HG:=Θ hγ
 have HS0:=Θ hS0
 have EB:=Θ eB
 have HL:=Θ hl
 have HKEEP:Hid (∀W W',CtS w B p v W→Only Ωa W W'→CtS w B p v W'):=Θ (fun W W' h ho=>⟨h.p.only ho (fun e=>e),Blk.only h.v ho (fun e=>e),h.only.trans ho⟩)
 obtain⟨res,eres⟩:∃r,r=cnts p v:=⟨_,rfl⟩
 rw[←eres]
 have HRES:=Θ eres
 clear f1 f2 hT1 hγ eB z1 hl po vo hS0 eres
 go_enter Tryz.func24,Tryz.ntmps24
 go_upto_region 1 with(fail)
 rw[←EB.out]
 refine Ωf (CtS w B p v) HS0.out ?_
 clear HS0
 intro X hS
 have c0:X.cell? ⟨B,0,none⟩=some (.int .i64 p.id):=hS.p.cell 0
 have v0:X.cell? ⟨B+1,0,none⟩=some (.int .i64 v.who):=hS.v.cell 0
 cases hw:(v.who==p.id) with
 |false=>
  have hn:(v.who !=p.id)=true:=by unfold bne;rw[hw];rfl
  have hn2:v.who≠p.id:=fun e=>by rw[e,beq_self_eq_true] at hw;cases hw
  have hc:res=false:=by rw[HRES.out];unfold cnts;rw[hw];rfl
  have HC:=Θ hc
  have HO:=Θ hS.only
  clear hc hS hw
  go_wp2_with fail
  go_ret
  exact⟨Ωad HC.out.symm,by first|exact HO.out|exact HO.out.drew|exact HO.out.drewN _⟩
 |true=>
  have hn:(v.who !=p.id)=false:=by unfold bne;rw[hw];rfl
  have hn2:v.who=p.id:=beq_iff_eq.1 hw
  have hc:res=γ:=by rw[HRES.out];unfold cnts;rw[hw,HG.out];rfl
  have HC:=Θ hc
  have HW:=Θ hS
  have HN2:=Θ hn2
  clear hc hS hn2 hw
  go_upto_region 2 with(fail)
  refine Ωf (CtS w B p v) (by first|exact HW.out|exact HKEEP.out _ _ HW.out (Only.refl _ _).drew) ?_
  clear c0 v0 HW
  intro Y hY
  have hY1:=HKEEP.out _ _ hY (Only.refl _ _).drew
  have c2:∀W,CtS w B p v W→W.cell? ⟨B,2,none⟩=some (.int .i64 p.pub):=fun W h=>h.p.cell 2
  have v1:∀W,CtS w B p v W→(Ωa4 (.pointer (some ⟨B+1,1,none⟩))).run Tryz.prog W= .ok (.agg (hdC v.head).toArray) W:=fun W h=>ΩC (Ω8 (Ωd h.v) HL.out) HL.out
  have v2:∀W,CtS w B p v W→(Ωgj (.pointer (some ⟨B+1,34,none⟩))).run Tryz.prog W= .ok (sgv v.r v.s) W:=fun W h=>Ωgh (Ωdb (Ωd h.v) HL.out)
  go_region_held3 (fun w' =>CtS w B p v w') (first|(with_reducible assumption))
   (first
    |(go_at_call 54;(with_reducible refine(HA.out _).mono ?_);rintro e1 w1 ⟨rfl,ho1⟩;have hS1:=HKEEP.out _ _ (by with_reducible assumption) ho1;clear ho1)
    |(go_at_call 53;(with_reducible refine(HB.out _).mono ?_);rintro e2 w2 ⟨rfl,ho2⟩;have hS2:=HKEEP.out _ _ (by with_reducible assumption) ho2;clear ho2))
  all_goals
   go_wp2_with fail
   go_ret
   exact⟨Ωad HC.out.symm,CtS.only (by with_reducible assumption)⟩
end
end Go.Proofs.YtgalfohobgjelaaGreatDoor
