/- What is proved here:several parts. a client is shown a receipt. Conditions:those of certified;the event is well and short. · a client as its results tell it,and what its calls do to it and leave as it is. Conditions:those of the calls. · slices of hashes that the call made:one or one byte put in another's place,one appended to another. Conditions:hashes have 32 bytes,there are few. · lists of hashes in which something was changed,in plain Lean. No conditions. -/
import Derived.Test.YtgalfohobgjelaaGreatDoorFr17
import Derived.Test.YtgalfohobgjelaaGreatDoorFr18
import Derived.Test.YtgalfohobgjelaaGreatDoorFr22
import Derived.Test.YtgalfohobgjelaaGreatDoorFr23
import Derived.Test.YtgalfohobgjelaaGreatDoorFr29
import Derived.BigQuiet
import Derived.Deep.Upon
namespace Go.Proofs.YtgalfohobgjelaaGreatDoor
open Go.RowKit Go.Shelf
attribute [local go_sem ↓ high] suLoad_eq evLoad_eq hdLoad_eq hdNew_eq hdStore_eq
theorem evCode_short {e:Ev} (he:e.Ok) (hn:e.name.size≤1000000000) (hx:e.text.size≤1000000000):(evCode e).length≤17592186044416:=by
 have l1:=numsL_len e.nums he.nums_in
 have l2:=hexL_len e.prev
 have l3:=quoL_len e.name.data.toList (by rw [←size_list];omega)
 have l4:=quoL_len e.text.data.toList (by rw [←size_list];omega)
 have l0:=numsL_len [e.r,e.s] (by
  intro x hx
  simp only [List.mem_cons,List.not_mem_nil,or_false] at hx
  rcases hx with rfl|rfl
  ·exact he.r
  ·exact he.s)
 rw [←size_list] at l3 l4
 rw [he.prev] at l2
 have l5:e.nums.length=10:=rfl
 simp only [List.length_cons,List.length_nil] at l0
 unfold evCode evText
 simp only [List.length_append,List.length_cons,List.length_nil]
 omega
theorem tx_beq {a b:ByteArray} (h:a=b):(a==b)=true:=by
 subst h
 cases a with
 |mk d=>show(d==d)=true;simp
theorem tx_bne {a b:ByteArray} (h:¬a=b):(a==b)=false:=by
 cases a with
 |mk d=>
  cases b with
  |mk f=>
   show(d==f)=false
   rw [beq_eq_false_iff_ne]
   intro e
   exact h (by rw [e])
noncomputable def rcPre (P:List Pers) (id:Int) (sent:Bool) (text:ByteArray) (e:Ev):Int:=
 if sent=false then 34 else if verL P e≠0 then verL P e else if e.who≠id then 35 else if e.kind≠4 then 35 else if e.text≠text then 20 else 0
def rcPost (o:Option Hd) (e:Ev) (Q:List Hs):Int:=
 match o with
 |none=>24
 |some h=>if ckP h.root h.size.toNat e.seq (evCode e) Q=true then 0 else 41
structure RcS (w:World) (base E:Nat) (c:Cli) (e:Ev) (W:World):Prop where
 cli:CliAt W base c
 ev:Blk W E tEv (evC e).toArray
 only:Only NoneOf w W
theorem RcS.none_ {w:World} {base E:Nat} {c:Cli} {e:Ev} {W W':World} (h:RcS w base E c e W) (ho:Only NoneOf W W'):RcS w base E c e W':=⟨h.cli.nn ho,h.ev.only ho (fun h=>h.elim),h.only.trans ho⟩
theorem RcS.ld {w:World} {base E:Nat} {c:Cli} {e:Ev} {W:World} (h:RcS w base E c e W) (he:e.prev.length=32):(evLoad (.pointer (some ⟨E,0,none⟩))).run Tryz.prog W= .ok (.agg (evC e).toArray) W:=
 ev_load_at (fun j v hj=>by rw [Nat.zero_add,h.ev.cell];simpa using hj) he
theorem RcS.su {w:World} {base E:Nat} {c:Cli} {e:Ev} {W:World} (h:RcS w base E c e W):(suLoad (.pointer (some ⟨c.C,1,none⟩))).run Tryz.prog W= .ok (setV c.pv) W:=su_load (cli_setup h.cli.blk)
structure RcT (w:World) (base E N:Nat) (c c9:Cli) (n:Hd) (e:Ev) (W:World):Prop where
 cli:CliAt W base c9
 step:CliStep w W c c9
 hd:HdAt W N n
 ev:Blk W E tEv (evC e).toArray
 only:Only NoneOf w W∨True
theorem RcT.none_ {w:World} {base E N:Nat} {c c9:Cli} {n:Hd} {e:Ev} {W W':World} (h:RcT w base E N c c9 n e W) (ho:Only NoneOf W W'):RcT w base E N c c9 n e W':=
 ⟨h.cli.nn ho,h.step.trans (CliStep.nn ho),Blk.only h.hd ho (fun e=>e),h.ev.only ho (fun h=>h.elim),.inr trivial⟩
set_option maxRecDepth 100000 in
set_option maxHeartbeats 4000000 in
theorem receipt_any (w0:World) (ht:Tab w0) (c:Cli) (base:Nat) (hb0:w0.heap.size≤base) (hcs:c.seen=c.votes) (hP:PersOk c.P) (hpub:∀p∈c.P,In p.pub) (hlen:c.P.length≤1000) (L:List Vt) (hok:VtsOk L) (hsv:SmallV L) (hL:L.length≤1000) (hn:c.votes.length≤50000) (sv:Value) (e:Ev) (he:e.Ok) (hen:e.name.size≤1000000000) (het:e.text.size≤1000000000) (Q:List Hs) (hqok:HsOk Q) (qv:Value) (w:World) (how:Only NoneOf w0 w) (h:CliAt w base c) (hb:base≤w.heap.size) (hs:VtSl w sv L) (ha:ApartC c sv) (hq:HaSl w qv Q) (hqa:ApartC c qv):
  Calls Tryz.prog 30 #[.pointer (some ⟨c.C,0,none⟩),.agg (evC e).toArray,qv,sv] w fun e' w'=> (rcPre c.P c.id c.sent c.text e≠0∧e'= .returned (.int .i64 (rcPre c.P c.id c.sent c.text e))∧CliAt w' base c∧CliStep w w' c c)∨(rcPre c.P c.id c.sent c.text e=0∧∃o,BestL c.P L o∧e'= .returned (.int .i64 (rcPost o e Q))∧∃vv mv,CliAt w' base { c.took vv mv L with rc:=c.rc||decide (rcPost o e Q=0)}∧CliStep w w' c { c.took vv mv L with rc:=c.rc||decide (rcPost o e Q=0)}):=by
 obtain⟨E,eE⟩:∃E,E=w.heap.size:=⟨_,rfl⟩
 have h0:RcS w base E c e (w.alloc (.cells (evC e).toArray tEv)):=⟨h.nn ((Only.refl _ _).alloc _),by rw [eE];exact Blk.new w _ _,(Only.refl _ _).alloc _⟩
 have H0:=Lib.hid h0
 have EE:=Lib.hid eE
 have H:=Lib.hid h
 have HE:=Lib.hid he
 have HVE:Hid (∀W,RcS w base E c e W→Calls Tryz.prog 61 #[setV c.pv,.agg (evC e).toArray] W fun e' w'=>e'= .returned (.int .i64 (verL c.P e))∧Only NoneOf W w'):=Lib.hid (fun W hW=>everify_any c.P c.pv _ _ _ _ _ e he (by omega) (by omega) W (PerOwn.sl hW.cli.pers) hpub (ht.none (how.trans hW.only)))
 have HTAB:Hid (Tab w0):=Lib.hid ht
 have HHOW:Hid (Only NoneOf w0 w):=Lib.hid how
 have HCE:Hid (∀W,RcS w base E c e W→Calls Tryz.prog 46 #[.pointer (some ⟨c.C,0,none⟩),sv] W fun e w'=> ∃o,BestOn (fun h=>h∈L.map (·.head)) (fun h=>certB c.P h L) o∧e= .returned (.tuple #[.agg (hdC (hdOr o)).toArray,.bool o.isSome])∧∃vv mv,CliAt w' base (c.took vv mv L)∧CliStep W w' c (c.took vv mv L)):=Lib.hid (fun W hW=>certified_any w0 ht c base hb0 hcs hP hlen L hok hL hn sv W (how.trans hW.only) hW.cli (Nat.le_trans hb hW.only.size) (hs.step hW.only (fun _ _ _ _ e=>e)) ha)
 obtain⟨qA,qcap,rfl,hq1,hq2,hq3⟩:=id hq
 have HQ:=Lib.hid (And.intro hq hqa)
 have HVS:=Lib.hid (And.intro hs ha)
 have HOK:=Lib.hid hok
 have HSV:=Lib.hid hsv
 have HQOK:=Lib.hid hqok
 have hEw:w.heap.size≤E:=by omega
 clear h0 eE h he hq hqa hs ha hok hsv hqok ht how hpub hq1 hq2 hq3
 obtain⟨pre,epre⟩:∃v,v=rcPre c.P c.id c.sent c.text e:=⟨_,rfl⟩
 rw [←epre]
 unfold rcPre at epre
 have HPRE:=Lib.hid epre
 clear epre
 go_enter Tryz.func30,Tryz.ntmps30
 go_upto_region 1 with(fail)
 rw [←EE.out]
 refine wp_gen (RcS w base E c e) H0.out ?_
 intro Y hY
 have c7:=cli_sent hY.cli.blk
 have HY:=Lib.hid hY
 clear hY H0 EE
 have HOUT:Hid (∀(W:World) (v:Int),RcS w base E c e W→pre=v→v≠0→pre≠0∧Ending.returned (.int .i64 v)=Ending.returned (.int .i64 pre)∧CliAt W base c∧CliStep w W c c):=Lib.hid (fun W v hW h1 h2=>by subst h1;exact⟨h2,rfl,hW.cli,CliStep.nn hW.only⟩)
 obtain⟨sb,esb⟩:∃sb,sb=c.sent:=⟨_,rfl⟩
 rw [←esb] at HPRE c7
 have ESB:=Lib.hid esb
 clear esb
 cases sb with
 |false=>
  have hp:pre=34:=by rw [HPRE.out,if_pos rfl]
  have HP:=Lib.hid hp
  clear hp
  go_wp2_with fail
  go_ret
  exact .inl (HOUT.out _ _ HY.out HP.out (by decide))
 |true=>
  have hp:pre=if verL c.P e≠0 then verL c.P e else if e.who≠c.id then 35 else if e.kind≠4 then 35 else if e.text≠c.text then 20 else 0:=by rw [HPRE.out,if_neg (by decide)]
  have HP:=Lib.hid hp
  clear hp
  go_upto_region 5 with(fail)
  have l1:=(HY.out.none_ ((Only.refl NoneOf Y).drew)).su
  have l2:=(HY.out.none_ ((Only.refl NoneOf Y).drew)).ld HE.out.prev
  go_region_law (first
   |(go_simp;go_at_call 61;refine(HVE.out _ (HY.out.none_ ((Only.refl NoneOf Y).drew))).mono ?_;rintro e1 w1 ⟨rfl,ho1⟩))
  all_goals
   have hY1:=(HY.out.none_ ((Only.refl NoneOf Y).drew)).none_ ho1
   obtain⟨vr,evr⟩:∃v,v=verL c.P e:=⟨_,rfl⟩
   rw [←evr] at HP⊢
   have HY1:=Lib.hid hY1
   clear hY1 ho1 l1 l2 c7 evr HVE HY
   by_cases hv:vr=0
   ·subst hv
    have hp1:pre=if e.who≠c.id then 35 else if e.kind≠4 then 35 else if e.text≠c.text then 20 else 0:=by rw [HP.out,if_neg (by decide)]
    have HP1:=Lib.hid hp1
    clear hp1 HP
    have k0:=cli_id HY1.out.cli.blk
    have k8:=cli_text HY1.out.cli.blk
    have e1:=HY1.out.ev.cell 1
    have e2:=HY1.out.ev.cell 2
    have e9:=HY1.out.ev.cell 9
    simp only [evC,List.cons_append,List.getElem?_toArray,List.getElem?_cons_zero,List.getElem?_cons_succ] at e1 e2 e9
    obtain⟨ew,eew⟩:∃x,x=e.who:=⟨_,rfl⟩
    obtain⟨ek,eek⟩:∃x,x=e.kind:=⟨_,rfl⟩
    obtain⟨et,eet⟩:∃x,x=e.text:=⟨_,rfl⟩
    obtain⟨ci,eci⟩:∃x,x=c.id:=⟨_,rfl⟩
    obtain⟨ct,ect⟩:∃x,x=c.text:=⟨_,rfl⟩
    rw [←eew,←eek,←eet,←eci,←ect] at HP1
    rw [←eew] at e2
    rw [←eek] at e1
    rw [←eet] at e9
    rw [←eci] at k0
    rw [←ect] at k8
    clear eew eek eet eci ect
    by_cases hw:ew=ci
    ·have b1:(ew==ci)=true:=by simpa using hw
     have b1n:(ew !=ci)=false:=by simp [bne,b1]
     have hp2:pre=if ek≠4 then 35 else if et≠ct then 20 else 0:=by rw [HP1.out,if_neg (by simpa using hw)]
     have HP2:=Lib.hid hp2
     clear hp2 HP1 hw
     by_cases hk:ek=4
     ·subst hk
      have hp3:pre=if et≠ct then 20 else 0:=by rw [HP2.out,if_neg (by decide)]
      have HP3:=Lib.hid hp3
      clear hp3 HP2
      go_upto_region 8 with(fail)
      go_quiet (fail)
      go_upto_region 10 with(fail)
      refine wp_gen (fun W=>RcS w base E c e W∧W.cell? ⟨E,9,none⟩=some (.string et)∧W.cell? ⟨c.C,8,none⟩=some (.string ct)) ⟨HY1.out.none_ ((Only.refl _ _).drewN _),e9,k8⟩ ?_
      clear e1 e2 k0
      rintro Z ⟨hZ,e9,k8⟩
      have HZ:=Lib.hid hZ
      clear hZ HY1
      by_cases htx:et=ct
      ·have b3:(et.toList==ct.toList)=true:=by rw [←beq_toListBytes];exact tx_beq htx
       have hp4:pre=0:=by rw [HP3.out,if_neg (by simpa using htx)]
       have HP4:=Lib.hid hp4
       clear hp4 HP3 htx
       go_quiet (fail)
       go_upto_region 12 with(fail)
       refine wp_gen (RcS w base E c e) (HZ.out.none_ ((Only.refl _ _).drewN _)) ?_
       intro Z2 hZ2
       have hce:=HCE.out Z2 hZ2
       have hoff:¬c.foot E:=hZ2.cli.off hZ2.ev (by decide) (by decide) (by decide)
       have HZ2:=Lib.hid hZ2
       have HCE2:=Lib.hid hce
       clear hZ2 hce HZ HCE e9 k8 b3
       go_wp2_with fail
       refine HCE2.out.mono ?_
       rintro e5 w5 ⟨o,hbo,rfl,vv,mv,hc5,hs5⟩
       have hho:=best_ok HOK.out hbo
       have hhs:=best_small HSV.out hbo
       have hev5:Blk w5 E tEv (evC e).toArray:=HZ2.out.ev.only hs5.1 hoff
       have hs5w:CliStep w w5 c (c.took vv mv L):=(CliStep.nn (c:=c) HZ2.out.only).trans hs5
       obtain⟨n,en⟩:∃n,n=hdOr o:=⟨_,rfl⟩
       rw [←en] at hho hhs⊢
       have hnl:=hho.root
       obtain⟨c9,ec9⟩:∃c9:Cli,c9=c.took vv mv L:=⟨_,rfl⟩
       rw [←ec9] at hc5 hs5w
       have hst:=hd_store_nw w5 hnl
       have hnw:=hdNew_run
       have ho6:Only NoneOf w5 ((w5.alloc (.cells hd0C 37)).setCells w5.heap.size 0 (hdC n)):=only_setCells ((Only.refl _ _).alloc _) w5.heap.size 0 (.inr (Nat.le_refl _)) _
       have ha6:HdAt ((w5.alloc (.cells hd0C 37)).setCells w5.heap.size 0 (hdC n)) w5.heap.size n:=filled_whole (Blk.new w5 _ _) (by rw [hdC_len hnl];rfl)
       obtain⟨N,eN⟩:∃N,N=w5.heap.size:=⟨_,rfl⟩
       rw [←eN] at ho6 ha6
       have H6:Hid (RcT w base E N c c9 n e ((w5.alloc (.cells hd0C 37)).setCells N 0 (hdC n))):=Lib.hid ⟨hc5.nn ho6,hs5w.trans (CliStep.nn ho6),ha6,hev5.only ho6 (fun h=>h.elim),.inr trivial⟩
       have EN:=Lib.hid eN
       have EC9:=Lib.hid ec9
       have EHN:=Lib.hid en
       have HBO:Hid (BestL c.P L o):=Lib.hid hbo
       have HHO:=Lib.hid hho
       have HHS:=Lib.hid hhs
       clear ho6 ha6 eN ec9 en hbo hho hhs hc5 hs5 hs5w hev5 HCE2 HZ2
       go_upto_region 13 with(fail)
       rw [←EN.out]
       refine wp_gen (RcT w base E N c c9 n e) H6.out ?_
       clear H6 EN hst hnw
       intro V hV
       have HV:=Lib.hid hV
       clear hV
       have HFIN:Hid (∀W,RcT w base E N c c9 n e W→rcPost o e Q≠0→CliAt W base { c.took vv mv L with rc:=c.rc||decide (rcPost o e Q=0)}∧CliStep w W c { c.took vv mv L with rc:=c.rc||decide (rcPost o e Q=0)}):=Lib.hid (fun W hW hr=>by
        have e0:({ c.took vv mv L with rc:=c.rc||decide (rcPost o e Q=0)}:Cli)=c9:=by rw [decide_eq_false hr,Bool.or_false,EC9.out];rfl
        rw [e0]
        exact⟨hW.cli,hW.step⟩)
       cases o with
       |none=>
        go_wp2_with fail
        go_ret
        exact .inr ⟨HP4.out,none,HBO.out,rfl,vv,mv,HFIN.out _ HV.out (by show(24:Int)≠0;decide)⟩
       |some m=>
        have hm:n=m:=EHN.out
        obtain⟨s1,es1,hs1⟩:=HHS.out
        have hpo:rcPost (some m) e Q=if ckP n.root s1 e.seq (evCode e) Q=true then 0 else 41:=by
         rw [←hm]
         unfold rcPost
         simp only [es1,Int.toNat_natCast]
        have HPO:=Lib.hid hpo
        obtain⟨β,eβ⟩:∃β,β=ckP n.root s1 e.seq (evCode e) Q:=⟨_,rfl⟩
        rw [←eβ] at HPO
        have HENC:Hid (∀W,RcT w base E N c c9 n e W→Calls Tryz.prog 63 #[.agg (evC e).toArray] W (RetStr (evCode e) W)):=Lib.hid (fun W hW=>eencode_any e HE.out (by omega) (by omega) W (HTAB.out.none (hW.step.only H.out HHOW.out hb0)))
        have HCK:Hid (∀(t:ByteArray) W,t.data.toList=evCode e→RcT w base E N c c9 n e W→Calls Tryz.prog 62 #[.agg (hdC n).toArray,.int .i64 e.seq,.string t,.slice qA Q.length qcap] W fun e' w'=>e'= .returned (.bool β)∧Only NoneOf W w'):=Lib.hid (fun t W ht hW=>by
         have h1:=checkpath_any n s1 es1 hs1 HHO.out.root e.seq t (by rw [size_list,ht];exact evCode_short HE.out (by omega) (by omega)) Q HQOK.out (.slice qA Q.length qcap) W (HQ.out.1.step hW.step.1 (fun a n cap e=>HQ.out.2 a n cap e))
         rw [ht,←eβ] at h1
         exact h1)
        clear hm hpo eβ es1
        go_upto_region 15 with(fail)
        have l1:=hd_load (blk_range (HV.out.none_ ((Only.refl NoneOf V).drew)).hd) HHO.out.root
        have l2:=ev_load_at (W:=V.drew) (g:=E) (o:=0) (e:=e) (fun j v hj=>by rw [Nat.zero_add,(HV.out.none_ ((Only.refl NoneOf V).drew)).ev.cell];simpa using hj) HE.out.prev
        have e0:=HV.out.ev.cell 0
        simp only [evC,List.cons_append,List.getElem?_toArray,List.getElem?_cons_zero] at e0
        go_region_law (first
         |(go_simp;go_at_call 63;refine(HENC.out _ (HV.out.none_ ((Only.refl NoneOf V).drew))).mono ?_;rintro e7 w7 ⟨t7,rfl,ht7,ho7⟩;have hT7:=(HV.out.none_ ((Only.refl NoneOf V).drew)).none_ ho7;have m1:=hd_load (blk_range hT7.hd) HHO.out.root;have m0:w7.cell? ⟨E,0,none⟩=some (.int .i64 e.seq):=hT7.ev.cell 0)
         |(go_simp;go_at_call 62;refine(HCK.out _ _ ht7 hT7).mono ?_;rintro e8 w8 ⟨rfl,ho8⟩))
        all_goals
         have hT8:=hT7.none_ ho8
         have HT8:=Lib.hid hT8
         clear hT8 hT7 m1 m0 ho8 ho7 ht7 l1 l2 e0 HENC HCK HV
         cases β with
         |true=>
          have hz:rcPost (some m) e Q=0:=by rw [HPO.out];rfl
          have hC9:c9.C=c.C:=by rw [EC9.out];rfl
          have hT:=HT8.out
          have b3:=cli_put_rc hT.cli.blk hT.cli.hok.root true
          have s3:=cli_rc hT.cli.blk hT.cli.hok.root
          have f3:=hT.cli.blk.frozen 44
          have hon:Only (fun k=>k=c9.C) w8 (w8.setCell ⟨c9.C,44,none⟩ (.bool true)):=(Only.refl (fun k=>k=c9.C) w8).setCell (p:=⟨c9.C,44,none⟩) (.inl rfl) _
          have hfin:=hT.cli.recell (c':= { c9 with rc:=true}) hon b3 rfl rfl rfl rfl rfl rfl rfl rfl
          have hst:=hT.step.trans (recell_step (c':= { c9 with rc:=true}) hon rfl rfl rfl rfl)
          have ee:({ c.took vv mv L with rc:=c.rc||decide (rcPost (some m) e Q=0)}:Cli)= { c9 with rc:=true}:=by rw [decide_eq_true hz,Bool.or_true,EC9.out]
          rw [←ee] at hfin hst
          rw [hC9] at s3 f3 hfin hst
          have HF:=Lib.hid (And.intro hfin hst)
          have HZ9:=Lib.hid hz
          clear hfin hst ee b3 hon hT hC9 hz
          go_wp2_with fail
          go_ret
          exact .inr ⟨HP4.out,some m,HBO.out,ret_int HZ9.out.symm,vv,mv,HF.out⟩
         |false=>
          have hz:rcPost (some m) e Q=41:=by rw [HPO.out];rfl
          have HZ9:=Lib.hid hz
          clear hz
          go_wp2_with fail
          go_ret
          exact .inr ⟨HP4.out,some m,HBO.out,ret_int HZ9.out.symm,vv,mv,HFIN.out _ HT8.out (by rw [HZ9.out];decide)⟩
      ·have b3:(et.toList==ct.toList)=false:=by rw [←beq_toListBytes];exact tx_bne htx
       have hp4:pre=20:=by rw [HP3.out,if_pos htx]
       have HP4:=Lib.hid hp4
       clear hp4 HP3 htx
       go_quiet (fail)
       go_wp2_with fail
       go_ret
       exact .inl (HOUT.out _ _ (HZ.out.none_ ((Only.refl _ _).drewN _)) HP4.out (by decide))
     ·have b2:(ek==4)=false:=by simpa using hk
      have b2n:(ek !=4)=true:=by simp [bne,b2]
      have hp3:pre=35:=by rw [HP2.out,if_pos hk]
      have HP3:=Lib.hid hp3
      clear hp3 HP2 hk
      go_upto_region 8 with(fail)
      go_quiet (fail)
      go_wp2_with fail
      go_ret
      exact .inl (HOUT.out _ _ (HY1.out.none_ ((Only.refl _ _).drewN _)) HP3.out (by decide))
    ·have b1:(ew==ci)=false:=by simpa using hw
     have b1n:(ew !=ci)=true:=by simp [bne,b1]
     have hp2:pre=35:=by rw [HP1.out,if_pos hw]
     have HP2:=Lib.hid hp2
     clear hp2 HP1 hw
     go_upto_region 8 with(fail)
     go_quiet (fail)
     go_wp2_with fail
     go_ret
     exact .inl (HOUT.out _ _ (HY1.out.none_ ((Only.refl _ _).drewN _)) HP2.out (by decide))
   ·have hp1:pre=vr:=by rw [HP.out,if_pos hv]
    have HP1:=Lib.hid hp1
    have HV:=Lib.hid hv
    have b0:(vr==0)=false:=by simpa using hv
    clear hp1 HP hv
    go_wp2_with fail
    go_ret
    exact .inl (HOUT.out _ _ HY1.out HP1.out HV.out)
end Go.Proofs.YtgalfohobgjelaaGreatDoor
namespace Go.Proofs.YtgalfohobgjelaaGreatDoor
open Go.RowKit Go.Shelf
structure Vw where
 id:Int
 P:List Pers
 sent:Bool
 text:ByteArray
 head:Hd
 votes:List Vt
 rc:Bool
def Cli.vw (c:Cli):Vw:=⟨c.id,c.P,c.sent,c.text,c.head,c.votes,c.rc⟩
def Has (w0:World) (base C top:Nat) (s:Vw) (W:World):Prop:=
 ∃c:Cli,c.C=C∧c.vw=s∧CliAt W base c∧c.seen=c.votes∧base≤W.heap.size∧top≤W.heap.size∧Only NoneOf w0 W∧w0.heap.size≤base∧∀k,c.foot k→k<top
def Near (base:Nat) (W W':World):Prop:=
 ∃S:Nat→Prop,Only S W W'∧(∀k,S k→base≤k)∧∀g t cs,Blk W g t cs→tCli≠t→67≠t→43≠t→¬S g
theorem Near.blk {base:Nat} {W W':World} (h:Near base W W') {g:Nat} {t:TypeId} {cs:Array Value} (hb:Blk W g t cs) (h1:tCli≠t) (h2:67≠t) (h3:43≠t):Blk W' g t cs:=by
 obtain⟨S,ho,_,hS⟩:=h
 exact hb.only ho (hS g t cs hb h1 h2 h3)
theorem Near.own {base b:Nat} {W W':World} (h:Near base W W') {e:TypeId} {size n:Nat} {v:Value} {xs:List Value} (hb:W.ownsRow b e size v n xs) (h1:tCli≠e) (h2:67≠e) (h3:43≠e):W'.ownsRow b e size v n xs:=by
 obtain⟨S,ho,_,hS⟩:=h
 refine own_only hb ho (fun k hk=> ?_)
 rcases hb.2 with⟨rfl,_⟩|⟨g,cap,cur,rfl,_,hh,_⟩
 ·simp [Value.ownBlock] at hk
 ·have:g=k:=by simpa [Value.ownBlock] using hk
  subst this
  exact hS g e cur hh h1 h2 h3
theorem Near.only {base:Nat} {w0 W W':World} (h:Near base W W') (h0:Only NoneOf w0 W) (hb:w0.heap.size≤base):Only NoneOf w0 W':=by
 obtain⟨S,ho,h1,_⟩:=h
 exact h0.trans' ho (fun i hi hf=>by have:=h1 i hf;omega)
theorem CliStep.near {W W':World} {base:Nat} {c c':Cli} (h:CliStep W W' c c') (hc:CliAt W base c):Near base W W':=
 ⟨c.foot,h.1,fun _ hk=> (hc.foot_in hk).1,fun _ _ _ hb h1 h2 h3=>hc.off hb h1 h2 h3⟩
theorem Has.size {w0 W:World} {base C top:Nat} {s:Vw} (h:Has w0 base C top s W):top≤W.heap.size:=by
 obtain⟨c,_,_,_,_,_,h1,_⟩:=h
 exact h1
theorem Has.only {w0 W:World} {base C top:Nat} {s:Vw} (h:Has w0 base C top s W):Only NoneOf w0 W:=by
 obtain⟨c,_,_,_,_,_,_,h1,_⟩:=h
 exact h1
theorem Has.keep {w0 W W':World} {base C top:Nat} {s:Vw} (h:Has w0 base C top s W) (ho:Only NoneOf W W'):Has w0 base C top s W':=by
 obtain⟨c,h1,h2,h3,h4,h5,h6,h7,h8,h9⟩:=h
 exact⟨c,h1,h2,h3.nn ho,h4,Nat.le_trans h5 ho.size,Nat.le_trans h6 ho.size,h7.trans ho,h8,h9⟩
theorem Has.of {w0 W W':World} {base C:Nat} {c c':Cli} (hC:c'.C=C) (h0:Only NoneOf w0 W) (hb:w0.heap.size≤base) (hbw:base≤W.heap.size) (hc:CliAt W base c) (hs:CliStep W W' c c') (hc':CliAt W' base c') (hv:c'.seen=c'.votes):Has w0 base C W'.heap.size c'.vw W':=
 ⟨c',hC,rfl,hc',hv,Nat.le_trans hbw hs.1.size,Nat.le_refl _,(hs.near hc).only h0 hb,hb,fun _ hk=> (hc'.foot_in hk).2⟩
def Off (base:Nat) (W:World) (v:Value):Prop:=∀c,CliAt W base c→ApartC c v
theorem off_nil (base:Nat) (W:World):Off base W (.slice none 0 0):=fun c _ a n cap h=>by cases h
theorem off_own {base b:Nat} {W:World} {e:TypeId} {size n:Nat} {v:Value} {xs:List Value} (hb:W.ownsRow b e size v n xs) (h1:tCli≠e) (h2:67≠e) (h3:43≠e):Off base W v:=fun c hc a m cap hv hk=>by
 rcases hb.2 with⟨rfl,_⟩|⟨g,cap',cur,rfl,_,hh,_⟩
 ·cases hv
 ·cases hv
  exact hc.off hh h1 h2 h3 hk
theorem apart_top {b n:Nat} {W:World} {c:Cli} {top:Nat} {sv:Value} {xs:List Value} (hown:W.ownsRow b 43 36 sv n xs) (hb:top≤b) (ht:∀k,c.foot k→k<top):ApartC c sv:=fun a m cap hv hk=>by
 rcases hown.2 with⟨rfl,_⟩|⟨g,cap',cur,rfl,hg,hh,_⟩
 ·cases hv
 ·cases hv
  have:=ht g hk
  omega
def OffV (base top:Nat) (W:World) (v:Value):Prop:=∀c,CliAt W base c→(∀k,c.foot k→k<top)→ApartC c v
theorem offV_top {b n:Nat} {W:World} {base top:Nat} {sv:Value} {xs:List Value} (hown:W.ownsRow b 43 36 sv n xs) (hb:top≤b):OffV base top W sv:=fun _ _ ht=>apart_top hown hb ht
theorem has_new (w0:World) (id:Int) (P:List Pers) (hlen:P.length≤1000) (pv:Value) (w:World) (h0:Only NoneOf w0 w) (hp:PerSl w pv P):
  Calls Tryz.prog 17 #[.int .i64 id,setV pv] w fun e w'=> ∃C,e= .returned (.pointer (some ⟨C,0,none⟩))∧Has w0 w.heap.size C w'.heap.size ⟨id,P,false,⟨#[]⟩,hd0, [],false⟩ w'∧Only NoneOf w w':=
 (new_any id P hlen pv w hp).mono (fun _ _ ⟨C,_,h1,h2,h3⟩=> ⟨C,h1,⟨_,rfl,rfl,h2,rfl,h3.size,Nat.le_refl _,h0.trans h3,h0.size,fun _ hk=> (h2.foot_in hk).2⟩,h3⟩)
theorem has_head (w0:World) (ht:Tab w0) {base C top:Nat} {s:Vw} (hP:PersOk s.P) (hlen:s.P.length≤1000) (hsm:SmallH s.head) (L:List Vt) (hok:VtsOk L) (hsv:SmallV L) (hL:L.length≤1000) (hn:s.votes.length≤50000) (sv:Value) (Q:List Hs) (hqok:HsOk Q) (hQ:Q.length≤100000) (qv:Value) (w:World) (h:Has w0 base C top s w) (hs:VtSl w sv L) (hsa:OffV base top w sv) (hq:HaSl w qv Q) (hqa:Off base w qv):
  Calls Tryz.prog 19 #[.pointer (some ⟨C,0,none⟩),sv,qv] w fun e w'=> ∃o,BestL s.P L o∧e= .returned (.int .i64 (hdRes o (knownH s.head) Q))∧Has w0 base C w'.heap.size { s with votes:=takeV s.votes L,head:=hdNext o (knownH s.head) Q s.head} w'∧Near base w w':=by
 obtain⟨c,rfl,rfl,h3,h4,h5,h6,h7,h8,h9⟩:=h
 refine(head_any w0 ht c base h8 h4 hP hlen hsm L hok hsv hL hn sv Q hqok hQ qv w h7 h3 h5 hs (hsa c h3 h9) hq (hqa c h3)).mono ?_
 rintro e w' ⟨o,ho,he,vv,mv,hc,hst⟩
 exact⟨o,ho,he,Has.of rfl h7 h8 h5 h3 hst hc rfl,hst.near h3⟩
theorem has_blames (w0:World) (ht:Tab w0) {base C top:Nat} {s:Vw} (hP:PersOk s.P) (hlen:s.P.length≤1000) (hn:s.votes.length≤100000) (w:World) (h:Has w0 base C top s w):
  Calls Tryz.prog 20 #[.pointer (some ⟨C,0,none⟩)] w fun e w'=> ∃ov,e= .returned ov∧BlSl w' ov (blL s.P s.votes)∧Only NoneOf w w':=by
 obtain⟨c,rfl,rfl,h3,h4,h5,h6,h7,h8,h9⟩:=h
 exact blames_any w0 ht c base hP hlen hn w h7 h3
end Go.Proofs.YtgalfohobgjelaaGreatDoor
namespace Go.Proofs.YtgalfohobgjelaaGreatDoor
open Go.RowKit Go.Shelf
def aph (ts:Array TypeId) (t:TypeId) (vs:Array Value):Sem Value:=Builtin.append_ ts t vs
theorem aph_eq (ts:Array TypeId) (t:TypeId) (vs:Array Value):Builtin.append_ ts t vs=aph ts t vs:=rfl
theorem hbC_len {h:Hs} (hl:h.length=32):(hbC h).length=32:=by unfold hbC;rw [List.length_map];exact hl
theorem run_append_has (W:World) (base:Nat) (v u:Value) (M N:List Hs) (hN:HsOk N) (hown:HaOwn W base v M.length M) (hsrc:HaSl W u N) (hsm:M.length+N.length≤1000000) (hb:base≤W.heap.size) (ty:TypeId):
  ∃A cap W',(aph #[59,59] ty #[v,u]).run Tryz.prog W= .ok (.slice A (M++N).length cap) W'∧HaOwn W' base (.slice A (M++N).length cap) (M++N).length (M++N)∧W.grownBy W' v.ownBlock∧((Value.slice A (M++N).length cap).ownBlock=v.ownBlock∨(Value.slice A (M++N).length cap).ownBlock=some W.heap.size):=by
 obtain⟨ie,z,hie,hsz,hz,hzc,hby⟩:=hash_info
 obtain⟨A0,cap0,rfl,hc1,hc2,hA⟩:=hsrc
 have hl:(N.flatMap hbC).length=N.length * 32:=hbs_len N hN
 have h1:∀u∈N.flatMap hbC,u.oneCell'=true:=fun u hu=>by
  obtain⟨q,_,hq⟩:=List.mem_flatMap.1 hu
  exact hbC_one q u hq
 by_cases h0:N= []
 ·subst h0
  obtain⟨A,cap,rfl,g1,g2⟩:=own_form' hown
  rw [List.append_nil]
  have hs:Src Tryz.prog ie.size 59 (.slice A0 0 cap0) 0 [] W:=by
   cases A0 with
   |none=>exact Src.ofNil W Tryz.underlying59 cap0
   |some a=>exact Src.ofSlice W Tryz.underlying59 a 0 cap0 [] (by rw [Nat.zero_mul];rfl) (fun j u h=>by simp at h) (fun u h=>by cases h)
  exact⟨A,cap,W,run_append_nothing W _ _ ty 35 ie Tryz.underlying59 hie A M.length cap g1 _ hs,hown,⟨rfl,rfl,rfl,Nat.le_refl _,fun _ _ _=>rfl⟩,.inl rfl⟩
 ·obtain⟨q,hq⟩:∃q,N[0]? =some q:=by
   cases N with
   |nil=>exact absurd rfl h0
   |cons x l=>exact⟨x,rfl⟩
  obtain⟨g,o,rfl,_,_⟩:=hA 0 q hq
  have hnews:∀j x,(N.flatMap hbC)[j]? =some x→W.cell? ((⟨g,o,none⟩:Addr).add j)=some x:=fun j x hj=>by
   have hlt:=(List.getElem?_eq_some_iff.1 hj).1
   rw [hl] at hlt
   obtain⟨p,hp⟩:∃p,N[j / 32]? =some p:=⟨_,List.getElem?_eq_getElem (by omega)⟩
   obtain⟨g',o',e,_,hr⟩:=hA (j / 32) p hp
   cases e
   have h2:=hbs_get N hN (j / 32) (j % 32) (Nat.mod_lt _ (by omega)) p hp
   rw [show j / 32 * 32+j % 32=j by omega,hj] at h2
   have h3:=hr (j % 32) x h2.symm
   rw [show o+j / 32 * 32+j % 32=o+j by omega] at h3
   rw [Addr.add_mid]
   exact h3
  obtain⟨v',W',hr,h2,h3,_,h5⟩:=run_append_own_at (P:=Tryz.prog) W base 59 ty 35 ie z 32 ie.bytes Tryz.underlying59 hie hz hsz rfl hzc (by omega) v M.length (M.flatMap hbC) hown ⟨g,o,none⟩ N.length cap0 (N.flatMap hbC) hl hnews h1 (by rw [maxLen_val];omega) (Nat.le_trans (Nat.mul_le_mul hsm hby) (by omega)) hb
  obtain⟨A,cap',e,_,_⟩:=own_form' h2
  subst e
  rw [←List.length_append] at hr h2 h5
  rw [←List.flatMap_append] at h2
  exact⟨A,cap',W',hr,h2,h3,h5⟩
def haF (l:Hs):List Value:=if l.length=32 then hbC l else List.replicate 32 undef
theorem haF_len (l:Hs):(haF l).length=32:=by
 unfold haF
 split
 ·exact hbC_len (by assumption)
 ·simp
theorem haF_of {l:Hs} (h:l.length=32):haF l=hbC l:=by unfold haF;rw [if_pos h]
theorem flat_haF {M:List Hs} (hM:HsOk M):M.flatMap haF=M.flatMap hbC:=by
 induction M with
 |nil=>rfl
 |cons e l ih=>
  rw [List.flatMap_cons,List.flatMap_cons,haF_of (hM e (by simp)),ih (fun x hx=>hM x (by simp [hx]))]
theorem has_set {M:List Hs} (hM:HsOk M) {l:Hs} (hl:l.length=32) (i:Nat):HsOk (M.set i l):=fun x hx=>by
 rcases List.mem_or_eq_of_mem_set hx with h|rfl
 ·exact hM x h
 ·exact hl
theorem HaOwn.put {w:World} {base g cap i:Nat} {M:List Hs} {l:Hs} (h:HaOwn w base (.slice (some ⟨g,0,none⟩) M.length cap) M.length M) (hM:HsOk M) (hi:i<M.length) (hl:l.length=32):
  HaOwn (w.setCells g (i * 32) (l.map bv)) base (.slice (some ⟨g,0,none⟩) M.length cap) M.length (M.set i l):=by
 unfold HaOwn at h⊢
 rw [←flat_haF hM] at h
 rw [←flat_haF (has_set hM hl i),show l.map bv=haF l from(haF_of hl).symm,←vstores_cells]
 exact own_put haF_len l h hi
theorem HaOwn.range {w:World} {base g cap n m i:Nat} {M:List Hs} {l:Hs} (h:HaOwn w base (.slice (some ⟨g,0,none⟩) n cap) m M) (hM:HsOk M) (hl:M[i]? =some l):w.rangeAt g (i * 32) (l.map bv):=fun j x hj=>by
 have hj2:j<32:=by
  have:=(List.getElem?_eq_some_iff.1 hj).1
  rw [List.length_map,hM l (List.mem_of_getElem? hl)] at this;exact this
 have h1:=hbs_get M hM i j hj2 l hl
 have h2:=World.ownsRow.cells h rfl (i * 32+j) x (h1.trans hj)
 rw [Addr.add_mid,Nat.zero_add] at h2
 exact h2
theorem ha_store_own {w:World} {base g cap i:Nat} {M:List Hs} {l:Hs} (h:HaOwn w base (.slice (some ⟨g,0,none⟩) M.length cap) M.length M) (hi:i<M.length) (hl:l.length=32):
  (haStore (.pointer (some ⟨g,i * 32,none⟩)) (hv l)).run Tryz.prog w= .ok () (w.setCells g (i * 32) (l.map bv)):=by
 have h32:(l.map bv).toArray.size=32:=by rw [List.size_toArray,List.length_map,hl]
 have h1:i * 32+32≤M.length * 32:=by
  have:(i+1) * 32≤M.length * 32:=Nat.mul_le_mul_right _ hi
  omega
 exact run_storeAt_mid (P:=Tryz.prog) w g (i * 32) 35 (l.map bv).toArray (vown_there h (by rw [h32];exact h1)) (by rw [h32];kernel_rfl) (all_oneCell_toArray (bvs_one l))
theorem flat_set1:∀(M:List Hs) (_:HsOk M) (i j:Nat) (_:j<32) (l:Hs) (_:M[i]? =some l) (u:UInt8),(M.flatMap hbC).set (i * 32+j) (bv u)=(M.set i (l.set j u)).flatMap hbC
 | [],_,_,_,_,_,h,_=>by simp at h
 |x::M,hM,0,j,hj,l,h,u=>by
  simp only [List.getElem?_cons_zero,Option.some.injEq] at h
  subst h
  have hx:(hbC x).length=32:=hbC_len (hM x (by simp))
  rw [List.flatMap_cons,List.set_cons_zero,List.flatMap_cons,Nat.zero_mul,Nat.zero_add,List.set_append_left _ _ (by rw [hx];exact hj)]
  congr 1
  unfold hbC
  rw [List.map_set]
 |x::M,hM,i+1,j,hj,l,h,u=>by
  have hx:(hbC x).length=32:=hbC_len (hM x (by simp))
  rw [List.flatMap_cons,List.set_cons_succ,List.flatMap_cons,List.set_append_right _ _ (by rw [hx];omega),hx,show(i+1) * 32+j - 32=i * 32+j by omega]
  rw [flat_set1 M (fun q hq=>hM q (by simp [hq])) i j hj l (by simpa using h) u]
theorem HaOwn.set1 {w:World} {base g cap i j:Nat} {M:List Hs} {l:Hs} (h:HaOwn w base (.slice (some ⟨g,0,none⟩) M.length cap) M.length M) (hM:HsOk M) (hl:M[i]? =some l) (hj:j<32) (u:UInt8):
  HaOwn (w.setCell ⟨g,i * 32+j,none⟩ (bv u)) base (.slice (some ⟨g,0,none⟩) M.length cap) M.length (M.set i (l.set j u)):=by
 have h1:=own_stores [bv u] (i * 32+j) h
 unfold HaOwn
 rw [←flat_set1 M hM i j hj l hl u]
 exact h1
end Go.Proofs.YtgalfohobgjelaaGreatDoor
namespace Go.Proofs.YtgalfohobgjelaaGreatDoor
def hash1 (b:Int):Hs:=UInt8.ofNat (b % 256).toNat::List.replicate 31 0
theorem hash1_len (b:Int):(hash1 b).length=32:=rfl
def flipH (l:Hs) (j:Nat):Hs:=l.set j ((l[j]?.getD 0) ^^^ 1)
theorem flipH_len (l:Hs) (j:Nat):(flipH l j).length=l.length:=List.length_set
def bentL (Q:List Hs) (a b:Int):List Hs:=
 if Q= [] then(if a % 2=0 then [hash1 b] else [])
 else
  let n:=(b % (Q.length:Int)).toNat
  let x:=Q[n]?.getD []
  if a % 5=0 then Q.set n (flipH x (b % 32).toNat)
  else if a % 5=1 then Q.take n++Q.drop (n+1)
  else if a % 5=2 then Q++ [x]
  else if a % 5=3 then(Q.set n (Q[(n+1) % Q.length]?.getD [])).set ((n+1) % Q.length) x
  else Q
theorem bentL_nil {a b:Int}:bentL [] a b=if a % 2=0 then [hash1 b] else []:=by unfold bentL;rw [if_pos rfl]
theorem bent_ne {Q:List Hs} {n:Nat} {x:Hs} (hx:Q[n]? =some x):Q≠ []:=fun e=>by rw [e] at hx;simp at hx
section
variable {Q:List Hs} {a b:Int} {n:Nat} {x:Hs} (hn:b % (Q.length:Int)=(n:Int)) (hx:Q[n]? =some x)
include hn hx
theorem bentL_0 (h:a % 5=0):bentL Q a b=Q.set n (flipH x (b % 32).toNat):=by
 unfold bentL
 rw [if_neg (bent_ne hx),if_pos h,hn,Int.toNat_natCast,hx]
 rfl
theorem bentL_1 (h:a % 5=1):bentL Q a b=Q.take n++Q.drop (n+1):=by
 unfold bentL
 rw [if_neg (bent_ne hx),if_neg (by omega),if_pos h,hn,Int.toNat_natCast]
theorem bentL_2 (h:a % 5=2):bentL Q a b=Q++ [x]:=by
 unfold bentL
 rw [if_neg (bent_ne hx),if_neg (by omega),if_neg (by omega),if_pos h,hn,Int.toNat_natCast,hx]
 rfl
theorem bentL_3 (h:a % 5=3) {y:Hs} (hy:Q[(n+1) % Q.length]? =some y):bentL Q a b=(Q.set n y).set ((n+1) % Q.length) x:=by
 unfold bentL
 rw [if_neg (bent_ne hx),if_neg (by omega),if_neg (by omega),if_neg (by omega),if_pos h,hn,Int.toNat_natCast,hx,hy]
 rfl
end
theorem bentL_4 {Q:List Hs} {a b:Int} (hne:Q≠ []) (h:a % 5=4):bentL Q a b=Q:=by
 unfold bentL
 rw [if_neg hne,if_neg (by omega),if_neg (by omega),if_neg (by omega),if_neg (by omega)]
theorem bentL_ok {Q:List Hs} (hQ:HsOk Q) (a b:Int):HsOk (bentL Q a b):=by
 by_cases h0:Q= []
 ·subst h0
  rw [bentL_nil]
  split
  ·intro h hh
   rw [List.mem_singleton.1 hh]
   rfl
  ·exact fun _ h=>by cases h
 ·have hl:0<Q.length:=List.length_pos_iff.2 h0
  obtain⟨n,hn⟩:∃n:Nat,b % (Q.length:Int)=(n:Int):=⟨(b % (Q.length:Int)).toNat,by have:=Int.emod_nonneg b (show(Q.length:Int)≠0 by omega);omega⟩
  have hlt:n<Q.length:=by have:=Int.emod_lt_of_pos b (show(0:Int) < (Q.length:Int) by omega);omega
  obtain⟨x,hx⟩:∃x,Q[n]? =some x:=⟨_,List.getElem?_eq_getElem hlt⟩
  have hxl:=hQ x (List.mem_of_getElem? hx)
  have hm:(n+1) % Q.length<Q.length:=Nat.mod_lt _ hl
  obtain⟨y,hy⟩:∃y,Q[(n+1) % Q.length]? =some y:=⟨_,List.getElem?_eq_getElem hm⟩
  have h5:a % 5=0∨a % 5=1∨a % 5=2∨a % 5=3∨a % 5=4:=by omega
  rcases h5 with h|h|h|h|h
  ·rw [bentL_0 hn hx h];exact has_set hQ (by rw [flipH_len];exact hxl) _
  ·rw [bentL_1 hn hx h]
   intro l hl
   rcases List.mem_append.1 hl with h|h
   ·exact hQ l (List.mem_of_mem_take h)
   ·exact hQ l (List.mem_of_mem_drop h)
  ·rw [bentL_2 hn hx h]
   intro l hl
   rcases List.mem_append.1 hl with h|h
   ·exact hQ l h
   ·rw [List.mem_singleton.1 h];exact hxl
  ·rw [bentL_3 hn hx h hy];exact has_set (has_set hQ (hQ y (List.mem_of_getElem? hy)) _) hxl _
  ·rw [bentL_4 h0 h];exact hQ
theorem bentL_len {Q:List Hs} (a b:Int):(bentL Q a b).length≤Q.length+1:=by
 unfold bentL
 by_cases h0:Q= []
 ·rw [if_pos h0]
  split<;>simp
 ·rw [if_neg h0]
  simp only
  split
  ·rw [List.length_set];omega
  ·split
   ·rw [List.length_append,List.length_take,List.length_drop];omega
   ·split
    ·rw [List.length_append,List.length_singleton];omega
    ·split
     ·rw [List.length_set,List.length_set];omega
     ·omega
theorem mod_up (x:Int) (m:Int) (hm:0<m):∃r:Int,x.tmod m=r∧ -m<r∧r<m∧(r+m).tmod m=x % m:=by
 refine⟨x.tmod m,rfl,Int.lt_tmod_of_pos x hm,Int.tmod_lt_of_pos x hm,?_⟩
 have hr1:=Int.lt_tmod_of_pos x hm
 have hr2:x % m=if x.tmod m<0 then x.tmod m+m else x.tmod m:=by
  have e:=Int.tmod_eq_emod (a:=x) (b:=m)
  have:=Int.emod_nonneg x (show m≠0 by omega)
  have:=Int.emod_lt_of_pos x hm
  have hab:(m.natAbs:Int)=m:=by omega
  rw [e]
  split<;>split<;>omega
 have hlt:=Int.tmod_lt_of_pos x hm
 rw [Int.tmod_eq_emod_of_nonneg (by omega),hr2]
 split
 ·exact Int.emod_eq_of_lt (by omega) (by omega)
 ·rw [Int.add_emod_right];exact Int.emod_eq_of_lt (by omega) (by omega)
end Go.Proofs.YtgalfohobgjelaaGreatDoor
