/- What is proved here: a part of the proof that 'probitylaw31.ClientPlays' answers true. Conditions: each theorem's own. -/
import Derived.Test.YtgalfohobgjelaaGreatDoorPy26
set_option maxRecDepth 100000
set_option maxHeartbeats 8000000
namespace Go.Proofs.YtgalfohobgjelaaGreatDoor
section
open Go.RowKit Go.Shelf
attribute [local go_sem ↓ high] Ω2 Ωbd evBs1_eq evBd_eq ΩkN Ωjn
def KdAt(w:World)(A:Option Addr)(ks:List UInt8):Prop:=∀(j:Nat) (x:UInt8),ks[j]? =some x→∃g o,A=some ⟨g,o,none⟩∧w.cell? ⟨g,o+j,none⟩=some (.int .u8 (x.toNat:Int))
theorem KdAt.none_{w w' :World}{A:Option Addr}{ks:List UInt8}(h:KdAt w A ks)(ho:Only Ωa w w'):KdAt w' A ks:=fun j x hx=>by
 obtain⟨g,o,hA,hc⟩:=h j x hx
 exact⟨g,o,hA,ho.cell_some hc (fun h=>h.elim)⟩
structure EvL(w:World)(D L:Nat)(d:Wd)(kA:Option Addr)(kc:Nat)(last:Hs)(done:List Ev)(ov:Value)(W:World):Prop where
 wd:Blk W D tWd (wdC d kA kc)
 hash:Blk W L 35 (last.map bv).toArray
 own:EvO W w.heap.size ov done.length done
 only:Only Ωa w W
theorem Ωgg(x:Int)(e:Ev)(h:e.name.size≤100∧e.text.size≤100):(Ωem x e).name.size≤100∧(Ωem x e).text.size≤100:=h
structure EvS(w:World)(D L E:Nat)(d:Wd)(kA:Option Addr)(kc:Nat)(last:Hs)(done:List Ev)(ov:Value)(e:Ev)(W:World):Prop where
 l:EvL w D L d kA kc last done ov W
 ev:Blk W E tEv (evC e).toArray
 ne:ov.ownBlock≠some E
 far:w.heap.size≤E∧E≠D∧E≠L
theorem EvL.none_{w:World}{D L:Nat}{d:Wd}{kA:Option Addr}{kc:Nat}{last:Hs}{done:List Ev}{ov:Value}{W W' :World}(h:EvL w D L d kA kc last done ov W)(ho:Only Ωa W W'):EvL w D L d kA kc last done ov W' :=
 ⟨h.wd.only ho (fun h=>h.elim),h.hash.only ho (fun h=>h.elim),Ωe h.own ho (fun _ _ h=>h.elim),h.only.trans ho⟩
theorem EvS.none_{w:World}{D L E:Nat}{d:Wd}{kA:Option Addr}{kc:Nat}{last:Hs}{done:List Ev}{ov:Value}{e:Ev}{W W' :World}(h:EvS w D L E d kA kc last done ov e W)(ho:Only Ωa W W'):EvS w D L E d kA kc last done ov e W' :=
 ⟨h.l.none_ ho,h.ev.only ho (fun h=>h.elim),h.ne,h.far⟩
theorem EvS.only{w:World}{D L E:Nat}{d:Wd}{kA:Option Addr}{kc:Nat}{last:Hs}{done:List Ev}{ov:Value}{e e' :Ev}{W W' :World}(h:EvS w D L E d kA kc last done ov e W)(ho:Only (fun k=>k=E) W W')(hb:Blk W' E tEv (evC e').toArray):EvS w D L E d kA kc last done ov e' W' :=
 ⟨⟨h.l.wd.only ho (fun e=>h.far.2.1 e.symm),h.l.hash.only ho (fun e=>h.far.2.2 e.symm),Ωe h.l.own ho (fun k hk e=>h.ne (by rw[hk,e])),h.l.only.trans' ho (fun k hk e=>by have:=h.far.1;omega)⟩,hb,h.ne,h.far⟩
theorem EvS.set_{w:World}{D L E:Nat}{d:Wd}{kA:Option Addr}{kc:Nat}{last:Hs}{done:List Ev}{ov:Value}{e e' :Ev}{W:World}(h:EvS w D L E d kA kc last done ov e W)(i:Nat)(v:Value)(he:(evC e).set i v=evC e'):EvS w D L E d kA kc last done ov e' (W.setCell ⟨E,i,none⟩ v):=by
 refine h.only (Only.setCell (S:=fun k=>k=E) (Only.refl _ _) (p:=⟨E,i,none⟩) (.inl rfl) _) ?_
 have hb:=Blk.set_ h.ev i v
 rw[ΩnX,he] at hb
 exact hb
theorem EvS.cells{w:World}{D L E:Nat}{d:Wd}{kA:Option Addr}{kc:Nat}{last:Hs}{done:List Ev}{ov:Value}{e:Ev}{W:World}(h:EvS w D L E d kA kc last done ov e W)(he:e.prev.length=32):(Ωcx (.pointer (some ⟨E,0,none⟩))).run Tryz.prog W= .ok (.agg (evC e).toArray) W:=
 ΩaY (fun j v hj=>by rw[ΩnR,h.ev.cell];simpa using hj) he
theorem EvS.put{w:World}{D L E:Nat}{d:Wd}{kA:Option Addr}{kc:Nat}{last:Hs}{done:List Ev}{ov:Value}{e e' :Ev}{W:World}(h:EvS w D L E d kA kc last done ov e W)(hl:(evC e).length =46)(hl2:(evC e').length =46):EvS w D L E d kA kc last done ov e' (W.setCells E 0 (evC e')):=
 h.only (Ωb (S:=fun k=>k=E) (Only.refl _ _) E 0 (.inl rfl) _) (Ωj h.ev (by simp[hl,hl2]))
theorem EvS.hash_{w:World}{D L E:Nat}{d:Wd}{kA:Option Addr}{kc:Nat}{last last' :Hs}{done:List Ev}{ov:Value}{e:Ev}{W:World}(h:EvS w D L E d kA kc last done ov e W)(hDL:D≠L)(hwL:w.heap.size≤L)(hl:last.length=32)(hl2:last'.length=32):EvS w D L E d kA kc last' done ov e (W.setCells L 0 (last'.map bv)):=by
 have ho:Only (fun k=>k=L) W (W.setCells L 0 (last'.map bv)):=Ωb (S:=fun k=>k=L) (Only.refl _ _) L 0 (.inl rfl) _
 have hn:ov.ownBlock≠some L:=Ωi h.l.own h.l.hash (by decide)
 exact⟨⟨h.l.wd.only ho hDL,Ωj h.l.hash (by simp[hl,hl2]),Ωe h.l.own ho (fun k hk e=>hn (by rw[hk,e])),h.l.only.trans' ho (fun k hk e=>by omega)⟩,h.ev.only ho h.far.2.2,h.ne,h.far⟩
theorem evs_snoc(d:Wd)(second:Bool)(k:Nat)(x:UInt8)(hk:d.kinds[k]? =some x)(_h12:k<12):ΩcY d second 0 Ωr (d.kinds.take (k+1))=ΩcY d second 0 Ωr (d.kinds.take k)++[evAt d second k (ΩjX Ωr (ΩcY d second 0 Ωr (d.kinds.take k))) x.toNat]:=by
 have hlt:k<d.kinds.length:=(Ωnx.1 hk).1
 rw[ΩnO,hk,ΩnS,ΩhK,ΩnR,ΩnB,Nat.min_eq_left (by omega)]
theorem wevents_any(d:Wd)(hd:d.Ok)(second:Bool)(kA:Option Addr)(kc:Nat)(w:World)(hkd:KdAt w kA d.kinds)(hkl:d.kinds.length≤1000000000)(ht:Tab w):Calls Tryz.prog 13 #[.agg (wdC d kA kc),.bool second] w fun e' w' =>∃rv,e' = .returned rv∧EvO w' w.heap.size rv (evsW d second).length (evsW d second)∧Only Ωa w w' :=by
 obtain⟨ie,z,hie,hsz,hz,hzc,hby⟩:=ΩkS
 obtain⟨D,eD⟩:∃D,D=w.heap.size:=⟨_,rfl⟩
 obtain⟨L,eL⟩:∃L,L=D+1:=⟨_,rfl⟩
 have hfk:=hd.fork
 have hs0:EvL w D L d kA kc Ωr [] (.slice none 0 0) ((w.alloc (.cells (wdC d kA kc) tWd)).alloc (.cells (Array.replicate 32 (.int .u8 0)) 35)):=by
  have h1:=Blk.new (w.alloc (.cells (wdC d kA kc) tWd)) 35 (Array.replicate 32 (.int .u8 0))
  rw[Ωnw,←eD,←eL] at h1
  refine⟨by rw[eD];exact(Blk.new w _ _).alloc _,?_,⟨rfl,.inl ⟨rfl,rfl⟩⟩,((Only.refl _ _).alloc _).alloc _⟩
  exact h1
 have HS0:=Θ hs0
 have HIE:=Θ hie
 have HSZ:=Θ hsz
 have HZ:=Θ hz
 have HZC:=Θ hzc
 have HBY:=Θ hby
 have HED:=Θ eD
 have HEL:=Θ eL
 have HKD:=Θ hkd
 have HT:=Θ ht
 have hDL:D≠L:=by omega
 have hwL:w.heap.size≤L:=by omega
 clear hs0 hie hsz hz hzc hby eD eL hkd ht
 go_enter Tryz.func13,Tryz.ntmps13
 go_wp2_with fail
 refine Ωf (EvL w D L d kA kc Ωr [] (.slice none 0 0)) HS0.out ?_
 intro Y hY
 have HY:=Θ hY
 clear hY HS0
 rw[←HED.out,←HEL.out]
 clear HED HEL
 go_loopw [5,7] (fun ov i wr=>∃k:Nat,i= .int .i64 (k:Int)∧k≤12∧k≤d.kinds.length∧EvL w D L d kA kc (ΩjX Ωr (ΩcY d second 0 Ωr (d.kinds.take k))) (ΩcY d second 0 Ωr (d.kinds.take k)) ov wr) (fun _ i _=>12-(intOf i).toNat)
 case atStart=>exact⟨0,rfl,by omega,by omega,HY.out⟩
 case round=>
  clear HY
  obtain⟨k,rfl,hk12,hkk,hS⟩:=hrel
  obtain⟨done,edone⟩:∃l,l=ΩcY d second 0 Ωr (d.kinds.take k):=⟨_,rfl⟩
  rw[←edone] at hS
  obtain⟨last,elast⟩:∃l,l=ΩjX Ωr done:=⟨_,rfl⟩
  rw[←elast] at hS
  have hdl:done.length=k:=by rw[edone,ΩgS,ΩnB];omega
  have c1:=hS.wd.cell 1
  have c2:=hS.wd.cell 2
  simp only[ΩnC,ΩnF,ΩnK] at c1 c2
  have HS:=Θ hS
  clear hS
  by_cases hlt:k<d.kinds.length∧k<12
  ·obtain⟨hlt,h12⟩:=hlt
   have hll:last.length=32:=by
    rw[elast]
    cases hde:done.reverse with
    |nil=>have h0:done=[]:=by simpa using hde
          rw[h0];rfl
    |cons a l=>have h0:done=l.reverse++[a]:=by have:=congrArg List.reverse hde;simpa using this
               rw[h0,Ωfc];exact ΩaX _
   obtain⟨x,hx⟩:∃x,d.kinds[k]? =some x:=⟨_,Ωnu hlt⟩
   obtain⟨g,o,rfl,hc⟩:=(HKD.out.none_ HS.out.only) k x hx
   have d1:decide ((k:Int)<(d.kinds.length:Int))=true:=ΩnG (by omega)
   have d2:decide ((k:Int)<12)=true:=ΩnG (by omega)
   have i1:(k:Int)<(d.kinds.length:Int):=by omega
   have i2:(k:Int)<12:=by omega
   have hx256:=x.toNat_lt
   have hld:(Ωm5 (.pointer (some ⟨L,0,none⟩))).run Tryz.prog wr= .ok (.agg (last.map bv).toArray) wr:=h_load (fun j v hj=>by rw[ΩnR,HS.out.hash.cell];simpa using hj) hll
   have hbd:=fun W=>evBd_run (k:Int) last hll W
   have hsn:=evs_snoc d second k x hx h12
   rw[←edone,←elast] at hsn
   have HSN:=Θ hsn
   have HLL:=Θ hll
   have HX:=Θ hx
   have HHC:=Θ hc
   clear hsn hll hx edone elast hc
   have hst:(ΩgU (.pointer (some ⟨wr.heap.size,0,none⟩)) (.agg (evC (ΩbD (k:Int) last)).toArray)).run Tryz.prog (wr.alloc (.cells Ωmw tEv))= .ok () ((wr.alloc (.cells (evC Ωam).toArray tEv)).setCells wr.heap.size 0 (evC (ΩbD (k:Int) last))):=Ωiv (e:=ΩbD (k:Int) last) (cs:=evC Ωam) (Blk.new wr tEv _) rfl HLL.out
   unfold Ωmw at hst
   obtain⟨E,eE⟩:∃E,E=wr.heap.size:=⟨_,rfl⟩
   have hZ0:EvS w D L E d (some ⟨g,o,none⟩) kc last done u5 (ΩbD (k:Int) last) ((wr.alloc (.cells (evC Ωam).toArray tEv)).setCells wr.heap.size 0 (evC (ΩbD (k:Int) last))):=by
    have hl:=HS.out
    have hne:u5.ownBlock≠some E:=fun e=>by have:=(hl.own.lt _ e).2;omega
    have h1:D<wr.heap.size:=hl.wd.lt
    have h2:L<wr.heap.size:=hl.hash.lt
    have h3:=hl.only.size
    rw[←eE]
    have hb:Blk (wr.alloc (.cells (evC Ωam).toArray tEv)) E tEv (evC Ωam).toArray :=by rw[eE];exact Blk.new wr _ _
    have h0:EvS w D L E d (some ⟨g,o,none⟩) kc last done u5 Ωam (wr.alloc (.cells (evC Ωam).toArray tEv)):=⟨hl.none_ ((Only.refl _ _).alloc _),hb,hne,by omega,by omega,by omega⟩
    exact h0.put rfl (Ωaa HLL.out)
   have HZ0:=Θ hZ0
   have HEE:=Θ eE
   clear hZ0 eE
   go_upto_region 7 with(fail)
   refine Ωf (EvS w D L E d (some ⟨g,o,none⟩) kc last done u5 (ΩbD (k:Int) last)) HZ0.out ?_
   rw[←HEE.out]
   intro V hV
   have HV:=Θ hV
   clear hV HZ0 hst hld hbd HEE
   have c1:=HV.out.l.wd.cell 1
   simp only[ΩnC,ΩnF,ΩnK] at c1
   obtain⟨g',o',eg,hc⟩:=(HKD.out.none_ HV.out.l.only) k x HX.out
   simp only[Option.some.injEq,Addr.mk.injEq,and_true] at eg
   obtain⟨rfl,rfl⟩:=eg
   go_upto_if 33 with(fail)
   go_cut [] from 32 to 46 (fun wx=>EvS w D L E d (some ⟨g,o,none⟩) kc last done u5 (Ωb8 d false k last x.toNat) wx)
   case first=>
    by_cases h4:x.toNat%4=0
    ·have i4:¬0<(x.toNat:Int)%4:=by omega
     have i5:(x.toNat:Int)%4=0:=by omega
     have he9:Ωb8 d false k last x.toNat=ΩbD (k:Int) last:=by unfold Ωb8 ΩbD;simp[h4]
     have HE9:=Θ he9
     clear he9 h4 hc c1
     go_wp2_with fail
     go_meet
     case rel=>rw[HE9.out];exact HV.out
    ·have he9:Ωb8 d false k last x.toNat={ΩbD (k:Int) last with kind:=4,who:=60+(x.toNat:Int)%4/3,text:=bidT ((x.toNat:Int)/4)}:=by unfold Ωb8 ΩbD;simp[h4]
     have HE9:=Θ he9
     clear he9
     have i4:0<(x.toNat:Int)%4:=by omega
     have f1:=HV.out.ev.frozen 1
     have e1:=HV.out.ev.cell 1
     simp only[evC,Ωn9,ΩnC,ΩnF,ΩnK] at e1
     go_upto_region 10 with(fail)
     have hU1:=HV.out.set_ (e' :={ΩbD (k:Int) last with kind:=4}) 1 (.int .i64 4) rfl
     refine Ωf (EvS w D L E d (some ⟨g,o,none⟩) kc last done u5 {ΩbD (k:Int) last with kind:=4}) hU1 ?_
     intro V6 hV6
     have f2:=hV6.ev.frozen 2
     have e2:=hV6.ev.cell 2
     simp only[evC,Ωn9,ΩnC,ΩnF,ΩnK] at e2
     have hU2:=hV6.set_ (e' :={ΩbD (k:Int) last with kind:=4,who:=60+(x.toNat:Int)%4/3}) 2 (.int .i64 (60+(x.toNat:Int)%4/3)) rfl
     have HU2:=Θ hU2
     clear hU1 hU2 hV6 f1 e1
     go_upto_region 11 with(fail)
     refine Ωf (EvS w D L E d (some ⟨g,o,none⟩) kc last done u5 {ΩbD (k:Int) last with kind:=4,who:=60+(x.toNat:Int)%4/3}) HU2.out ?_
     intro V7 hV7
     have hbi:=rbid31_any ((x.toNat:Int)/4) ⟨by omega,by omega⟩ V7
     have HV7:=Θ hV7
     have HBI:=Θ hbi
     clear hV7 hbi HU2 f2 e2 hc c1
     go_wp2_with fail
     refine HBI.out.mono ?_
     rintro e8 w8 ⟨A8,rfl,hi8,ho8⟩
     have hen:=Ωev (bidW ((x.toNat:Int)/4)) (Ωj8 _) (qA:=A8) (pA:=none) (qk:=1) (pk:=0) (w:=w8) hi8 (.inl rfl)
     have HEN:=Θ hen
     have HO8:=Θ ho8
     clear hen hi8 ho8
     go_wp2_with fail
     refine HEN.out.mono ?_
     rintro e9 w9 ⟨t,rfl,ht,ho9⟩
     have hte:t=bidT ((x.toNat:Int)/4):=Ωld ht
     subst hte
     have hV9:=(HV7.out.none_ HO8.out).none_ ho9
     have f9:=hV9.ev.frozen 9
     have e9:=hV9.ev.cell 9
     simp only[evC,Ωn9,ΩnC,ΩnF,ΩnK] at e9
     have hU9:=hV9.set_ (e' :={ΩbD (k:Int) last with kind:=4,who:=60+(x.toNat:Int)%4/3,text:=bidT ((x.toNat:Int)/4)}) 9 (.string (bidT ((x.toNat:Int)/4))) rfl
     have HU9:=Θ hU9
     clear hU9 hV9 ho9 ht
     go_wp2_with fail
     go_meet
     case rel=>rw[HE9.out];exact HU9.out
   case rest=>
   have HZ9:=Θ hcut
   clear hcut HV
   have cf:=HZ9.out.l.wd.cell 2
   simp only[ΩnC,ΩnF,ΩnK] at cf
   obtain⟨β,eβ⟩:∃β,β=(second&&decide (d.fork%12≤k)):=⟨_,rfl⟩
   have HB:=Θ eβ
   clear eβ
   go_upto_region 12 with(fail)
   obtain⟨V0,eV0⟩:∃W,W=wc:=⟨_,rfl⟩
   go_cut [53] (fun v wx=>v= .bool β∧wx=V0)
   case first=>
    cases second with
    |false=>
     have hb:β=false:=by rw[HB.out];rfl
     subst hb
     go_wp2_with fail
     go_meet
     case rel=>exact⟨rfl,eV0.symm⟩
    |true=>
     by_cases hf:d.fork%12≤k
     ·have hb:β=true:=by rw[HB.out,ΩnG hf];rfl
      have j1:(d.fork:Int)%12≤(k:Int):=by omega
      subst hb
      clear hf
      go_wp2_with fail
      go_meet
      case rel=>exact⟨rfl,eV0.symm⟩
     ·have hb:β=false:=by rw[HB.out,Ωny hf];rfl
      have j1:¬(d.fork:Int)%12≤(k:Int):=by omega
      subst hb
      clear hf
      go_wp2_with fail
      go_meet
      case rel=>exact⟨rfl,eV0.symm⟩
   case rest=>
   obtain⟨rfl,rfl⟩:=hcut
   rw[←eV0] at HZ9
   clear cf eV0
   have e6:=HZ9.out.ev.cell 6
   simp only[evC,Ωn9,ΩnC,ΩnF,ΩnK] at e6
   have f6:=HZ9.out.ev.frozen 6
   go_upto_if 53 with(fail)
   go_cut [] from 53 to 55 (fun wx=>EvS w D L E d (some ⟨g,o,none⟩) kc last done u5 (Ωb8 d second k last x.toNat) wx)
   case first=>
    cases β with
    |true=>
     have hbt:(second&&decide (d.fork%12≤k))=true:=HB.out.symm
     rw[Ωoa] at hbt
     have hcond:second=true∧d.fork%12≤k:=⟨hbt.1,Ωop hbt.2⟩
     have hV0:EvS w D L E d (some ⟨g,o,none⟩) kc last done u5 (Ωb8 d second k last x.toNat) (wc.setCell ⟨E,6,none⟩ (.int .i64 1)):=HZ9.out.set_ 6 _ (by
      have e9:Ωb8 d second k last x.toNat={Ωb8 d false k last x.toNat with n:=1}:=by unfold Ωb8;simp[hcond]
      rw[e9];rfl)
     have HV0:=Θ hV0
     clear hV0 hbt hcond
     go_wp2_with fail
     go_meet
     case rel=>exact HV0.out
    |false=>
     have hcond:¬(second=true∧d.fork%12≤k):=fun h=>by
      have h1:=HB.out
      rw[h.1,ΩnG h.2] at h1
      cases h1
     have e9:Ωb8 d second k last x.toNat=Ωb8 d false k last x.toNat:=by unfold Ωb8;simp[hcond]
     have HE9:=Θ e9
     clear e9 hcond
     go_wp2_with fail
     go_meet
     case rel=>rw[HE9.out];exact HZ9.out
   case rest=>
   obtain⟨V1,eV1⟩:∃V,V=wc:=⟨_,rfl⟩
   rw[←eV1] at hcut⊢
   have HV1:=Θ hcut
   clear hcut HZ9 eV1 e6 f6
   go_upto_region 14 with(fail)
   obtain⟨e,ee⟩:∃e,e=Ωb8 d second k last x.toNat:=⟨_,rfl⟩
   have hV1:=HV1.out
   rw[←ee] at hV1
   have HSN2:=HSN.out
   have heA:evAt d second k last x.toNat=Ωem (secI e.who) e:=by rw[ee,evAt]
   rw[heA] at HSN2
   have hok:e.Ok:=by rw[ee];exact ΩkT d second k (by omega) last HLL.out _
   have hsh:=ΩgV d second k last x.toNat
   rw[←ee] at hsh
   have hwho:0≤e.who∧e.who≤100:=by
    rw[ee];unfold Ωb8;simp only;split<;>omega
   have hok2:(Ωem (secI e.who) e).Ok :=Ωh5 hok _
   have hsz2:(Ωem (secI e.who) e).name.size≤100∧(Ωem (secI e.who) e).text.size≤100:=Ωgg _ _ hsh
   have hsg:∀W,Calls Tryz.prog 38 #[.int .i64 (secI e.who),.agg (evC e).toArray] W fun e' w' =>e' = .returned (.agg (evC (Ωem (secI e.who) e)).toArray)∧Only Ωa W w' :=fun W=>rsignE_any (secI e.who) e hok (by omega) (by omega) W
   have hsec:∀W,Calls Tryz.prog 39 #[.int .i64 e.who] W fun e' w' =>e' = .returned (.int .i64 (secI e.who))∧w' =W:=fun W=>Ωcn e.who (by omega) (by omega) W
   have cw:=hV1.ev.cell 2
   simp only[evC,Ωn9,ΩnC,ΩnF,ΩnK] at cw
   have hl1:=(hV1.none_ ((Only.refl Ωa V1).drew)).cells hok.prev
   obtain⟨u,eu⟩:∃u,u=Ωem (secI e.who) e:=⟨_,rfl⟩
   rw[←eu] at hsg hok2 hsz2 HSN2
   have hfin:∀w2,Only Ωa V1 w2→(ΩgU (.pointer (some ⟨E,0,none⟩)) (.agg (evC u).toArray)).run Tryz.prog w2= .ok () (w2.setCells E 0 (evC u))∧EvS w D L E d (some ⟨g,o,none⟩) kc last done u5 u (w2.setCells E 0 (evC u)):=fun w2 ho=>by
    have h2:=hV1.none_ ho
    exact⟨Ωiv (cs:=evC e) h2.ev (Ωaa hok.prev) hok2.prev,h2.put (Ωaa hok.prev) (Ωaa hok2.prev)⟩
   have HSG:=Θ hsg
   have HSEC:=Θ hsec
   have HFIN:=Θ hfin
   have HOKU:=Θ hok2
   have HSZU:=Θ hsz2
   have HSNU:=Θ HSN2
   clear hV1 HV1 hsg hsec hfin hok hsh hok2 hsz2 HSN2 HSN heA ee eu hwho
   go_region_law (first
    |(go_simp;go_at_call 39;refine(HSEC.out _).mono ?_;rintro e1 w3 ⟨rfl,rfl⟩)
    |(go_simp;go_at_call 38;refine(HSG.out _).mono ?_;rintro e2 w2 ⟨rfl,ho2⟩;have hf2:=HFIN.out w2 (((Only.refl _ _).drew).trans ho2);have hst2:=hf2.1))
   all_goals
    have HF2:=Θ hf2.2
    clear hf2 hst2 ho2 cw hl1
    go_upto_region 15 with(fail)
    refine Ωf (EvS w D L E d (some ⟨g,o,none⟩) kc last done u5 u) HF2.out ?_
    intro V2 hV2
    have hl2:=hV2.cells HOKU.out.prev
    have hha:∀W,Calls Tryz.prog 40 #[.agg (evC u).toArray] W fun e' w' =>e' = .returned (.agg ((ΩdL u).map bv).toArray)∧Only Ωa W w' :=fun W=>revhash_any u HOKU.out (by have:=HSZU.out;omega) (by have:=HSZU.out;omega) W
    have HHA:=Θ hha
    have HV2:=Θ hV2
    clear hV2 HF2 hha
    go_wp2_with fail
    refine(HHA.out _).mono ?_
    rintro e3 w3 ⟨rfl,ho3⟩
    have hV3:=HV2.out.none_ ho3
    have hst3:=h_store (m:=ΩdL u) hV3.l.hash HLL.out (ΩaX _)
    have hV4:=hV3.hash_ (last' :=ΩdL u) hDL hwL HLL.out (ΩaX _)
    have HV4:=Θ hV4
    clear hV3 hV4 ho3 hl2
    go_upto_region 16 with(fail)
    refine Ωf (EvS w D L E d (some ⟨g,o,none⟩) kc (ΩdL u) done u5 u) HV4.out ?_
    intro V5 hV5
    have hl5:=hV5.cells HOKU.out.prev
    have hb5:=fun W=>evBs1_run u HOKU.out.prev W
    have hsz5:=hV5.l.only.size
    have HV5:=Θ hV5
    clear hV5 HV4 hst3
    go_wp2_with (at_builtin;refine wpList_append_lies _ rfl _ _ 30 rfl w.heap.size tEv ie z 46 ie.bytes Tryz.underlying30 HIE.out HZ.out HSZ.out rfl HZC.out (by omega) u5 done.length (done.flatMap evC) rfl (World.ownsRow.alloc HV5.out.l.own _) _ 1 1 (evC u) rfl (by rw[Ωaa HOKU.out.prev]) (World.news_of_block (cs:=(evC u).toArray) (t:=79) (fr:=(0,0)) (Blk.new _ _ _)) (Ωiw u) (by omega) (by rw[Ωg];omega) (by have:=HBY.out;exact Ωnz (Ωov (show done.length+1≤40 by omega) this) (by omega)) (by simp;omega) _ rfl ?_;intro g3 cap3 w9 hown3 hgrow3 hat3 hlt3)
    have hnew:EvL w D L d (some ⟨g,o,none⟩) kc (ΩdL u) (done++[u]) (.slice (some ⟨g3,0,none⟩) (done.length+1) cap3) w9:=by
     have hl:=HV5.out.l
     refine⟨(hl.wd.alloc _).grown hgrow3 (Ne.symm (Ωi hl.own hl.wd (by decide))),(hl.hash.alloc _).grown hgrow3 (Ne.symm (Ωi hl.own hl.hash (by decide))),?_,(hl.only.alloc _).grown hgrow3 (fun j e=> .inr (ΩJ hl.own e).1)⟩
     unfold EvO
     rw[ΩnA,Ωn2]
     simpa using hown3
    have HNEW:=Θ hnew
    clear hnew hown3 hgrow3 hat3 hlt3 hl5 hb5
    go_wp2_with fail
    go_roundw
    case rel=>exact⟨k+1,by go_num,by omega,by omega,by have h:=HNEW.out;rw[hdl] at h;rw[HSNU.out,Ωfc];exact h⟩
    case measure=>simp[intOf];omega
  ·have hwe:evsW d second=done:=by
    unfold evsW
    rw[edone]
    congr 1
    by_cases h12:k=12
    ·rw[h12]
    ·have:k=d.kinds.length:=by omega
     rw[this,Ωok,ΩnI (by omega)]
   have HOWN:Hid (EvO wr w.heap.size u5 (evsW d second).length (evsW d second)):=Θ (by rw[hwe];exact HS.out.own)
   have HO:=Θ HS.out.only
   clear HS hwe
   by_cases hl:k<d.kinds.length
   ·have d1:decide ((k:Int)<(d.kinds.length:Int))=true:=ΩnG (by omega)
    have d2:decide ((k:Int)<12)=false:=Ωny (by omega)
    go_wp2_with fail
    go_ret
    exact⟨_,rfl,HOWN.out,HO.out⟩
   ·have d1:decide ((k:Int)<(d.kinds.length:Int))=false:=Ωny (by omega)
    go_wp2_with fail
    go_ret
    exact⟨_,rfl,HOWN.out,HO.out⟩
end
section
open Go.RowKit Go.Shelf
theorem Ωv.recell{w w' :World}{base:Nat}{c c' :Cli}(h:Ωv w base c)(ho:Only (fun k=>k=c.C) w w')(hb:Blk w' c.C tCli (cliC c').toArray)(e1:c'.C=c.C)(e2:c'.pv=c.pv)(e3:c'.P=c.P)(e4:c'.vv=c.vv)(e5:c'.votes=c.votes)(e6:c'.mv=c.mv)(e7:c'.seen=c.seen)(e8:c'.head=c.head):Ωv w' base c' :=by
 refine⟨by rw[e1];exact hb,by rw[e1];exact h.lo,by rw[e8];exact h.hok,?_,?_,by rw[e5];exact h.ok,?_,by rw[e7];exact h.sok⟩
 ·rw[e2,e3];exact Ωe h.pers ho (fun k hk e=>h.ne_pv (by rw[hk,e]))
 ·rw[e4,e5];exact Ωe h.votes ho (fun k hk e=>h.ne_vv (by rw[hk,e]))
 ·rw[e6,e7];exact h.seen.only ho (fun k hk e=>h.ne_mv (by rw[hk,e]))
theorem Ωgs{w w' :World}{c c' :Cli}(ho:Only (fun k=>k=c.C) w w')(e1:c'.C=c.C)(e2:c'.pv=c.pv)(e4:c'.vv=c.vv)(e6:c'.mv=c.mv):Ωl w w' c c' :=
 ⟨ho.mono (fun k _ hk=> .inl hk),fun k hk=> .inl (by
  rcases hk with hk|hk|hk|hk
  ·exact .inl (by rw[hk,e1])
  ·exact .inr (.inl (by rw[←e2];exact hk))
  ·exact .inr (.inr (.inl (by rw[←e4];exact hk)))
  ·exact .inr (.inr (.inr (by rw[←e6];exact hk))))⟩
def encT(d:Bd):ByteArray:=⟨(encB d).toArray⟩
theorem csent_any(d:Bd)(hd:d.Ok){qA pA:Option Addr}{qk pk:Nat}{w:World}(hq:Ωdv w qA d.qc)(hp:Ωdv w pA d.pc)(ht:Tab w)(base:Nat)(c:Cli)(h:Ωv w base c):
  Calls Tryz.prog 32 #[.pointer (some ⟨c.C,0,none⟩),.agg (Ωae d qA pA qk pk)] w fun e w' =>e= .returned (.tuple #[])∧Ωv w' base {c with sent:=true,text:=encT d,rc:=false}∧Ωl w w' c {c with sent:=true,text:=encT d,rc:=false}:=by
 have ho0:Only Ωa w (w.alloc (.cells (Ωae d qA pA qk pk) tBid)):=(Only.refl _ _).alloc _
 have hen:∀W,Only Ωa w W→Calls Tryz.prog 64 #[.agg (Ωae d qA pA qk pk)] W (Ωq (encB d) W):=fun W ho=>bencode_any d hd (hq.none_ ho) (hp.none_ ho) (ht.none ho)
 have hen0:=hen _ ho0
 have H:=Θ h
 have HEN:=Θ hen0
 have HO0:=Θ ho0
 clear h hq hp ht hen hen0 ho0
 go_enter Tryz.func32,Tryz.ntmps32
 go_wp2_with fail
 refine HEN.out.mono ?_
 rintro e w2 ⟨t,rfl,ht,ho2⟩
 obtain rfl:t=encT d:=Ωld ht
 have hc:=H.out.nn (HO0.out.trans ho2)
 have hl:=hc.hok.root
 have b1:=cli_put_sent hc.blk true
 have b2:=cli_put_text b1 (encT d)
 have b3:=ΩhN b2 hl false
 have s1:=Ωk0 hc.blk
 have s2:=ΩkY b1
 have s3:=Ωmc b2 hl
 have f1:=hc.blk.frozen 7
 have f2:=b1.frozen 8
 have f3:=b2.frozen 44
 have hon:Only (fun k=>k=c.C) w2 (((w2.setCell ⟨c.C,7,none⟩ (.bool true)).setCell ⟨c.C,8,none⟩ (.string (encT d))).setCell ⟨c.C,44,none⟩ (.bool false)):=(((Only.refl (fun k=>k=c.C) w2).setCell (p:=⟨c.C,7,none⟩) (.inl rfl) _).setCell (p:=⟨c.C,8,none⟩) (.inl rfl) _).setCell (p:=⟨c.C,44,none⟩) (.inl rfl) _
 have hfin:=hc.recell (c' :={c with sent:=true,text:=encT d,rc:=false}) hon b3 rfl rfl rfl rfl rfl rfl rfl rfl
 have hst:=(Ωl.nn (c:=c) (HO0.out.trans ho2)).trans (Ωgs (c' :={c with sent:=true,text:=encT d,rc:=false}) hon rfl rfl rfl rfl)
 have HFIN:=Θ hfin
 have HST:=Θ hst
 clear hc b1 b2 b3 hon hfin hst ht ho2
 go_wp2_with fail
 go_end0
 exact⟨rfl,HFIN.out,HST.out⟩
end
section
open Go.RowKit Go.Shelf
def stC(b:Bool):List Value:=[.bool b]
theorem stC_len(b:Bool):(stC b).length =1:=rfl
def Ωdu(w:World)(base:Nat)(v:Value)(n:Nat)(L:List Bool):Prop:=w.ownsRow base 155 1 v n (L.flatMap stC)
theorem ΩjL(L:List Bool)(i:Nat):(L.flatMap stC)[i]? =(L[i]?).map Value.bool:=by
 induction L generalizing i with
 |nil=>simp
 |cons x l ih=>
  rw[ΩnW]
  cases i with
  |zero=>rfl
  |succ i=>show(l.flatMap stC)[i]? =_;rw[ih];rfl
theorem Ωdu.cell{w:World}{base g cap n:Nat}{L:List Bool}(h:Ωdu w base (.slice (some ⟨g,0,none⟩) n cap) n L){i:Nat}{b:Bool}(hi:L[i]? =some b):w.cell? ⟨g,i,none⟩=some (.bool b):=by
 have h2:=World.ownsRow.cells h rfl i (.bool b) (by rw[ΩjL,hi];rfl)
 rw[ΩoK,ΩnR] at h2
 exact h2
theorem ΩhB{w:World}{base g cap n size:Nat}{e:TypeId}{xs:List Value}(h:w.ownsRow base e size (.slice (some ⟨g,0,none⟩) n cap) n xs)(i:Nat):w.frozen? ⟨g,i,none⟩=false:=by
 rcases h.2 with⟨h0,_⟩|⟨g',cap',cur,hv,hb,hh,_⟩
 ·simp at h0
 ·simp only[Value.slice.injEq,Option.some.injEq,Addr.mk.injEq,and_true,true_and] at hv
  obtain⟨rfl,rfl⟩:=hv
  exact Blk.frozen (t:=e) hh i
theorem step_info:∃ie z,Tryz.prog.info? 155=some ie∧ie.size=1∧ie.zero=some z∧z.cells.size=1∧ie.bytes≤100:=by
 have h1:(Tryz.prog.info? 155).map (·.size)=some 1:=by kernel_rfl
 have h2:((Tryz.prog.info? 155).bind (·.zero)).isSome =true:=by kernel_rfl
 have h3:(Tryz.prog.info? 155).map (fun i=>decide (i.bytes≤100))=some true:=by kernel_rfl
 have h4:((Tryz.prog.info? 155).bind (·.zero)).map (fun z=>z.cells.size)=some 1:=by kernel_rfl
 cases hie:Tryz.prog.info? 155 with
 |none=>simp[hie] at h1
 |some ie=>
  simp only[hie,Ωoe,Option.some.injEq,Option.bind_some,decide_eq_true_eq] at h1 h2 h3 h4
  obtain⟨z,hz⟩:=Option.isSome_iff_exists.1 h2
  simp only[hz,Ωoe,Option.some.injEq] at h4
  exact⟨ie,z,rfl,h1,hz,h4,h3⟩
def ΩiT(L:List Bool)(i j:Nat):List Bool:=(L.set i (L.getD j false)).set j (L.getD i false)
theorem Ωdu.swap{w:World}{base g cap n i j:Nat}{L:List Bool}{a b:Bool}(h:Ωdu w base (.slice (some ⟨g,0,none⟩) n cap) n L)(ha:L[i]? =some a)(hb:L[j]? =some b):
  Ωdu ((w.setCell ⟨g,i,none⟩ (.bool b)).setCell ⟨g,j,none⟩ (.bool a)) base (.slice (some ⟨g,0,none⟩) n cap) n (ΩiT L i j):=by
 have h1:=World.ownsRow.stored h i (.bool b)
 have h2:=World.ownsRow.stored h1.1 j (.bool a)
 have e:∀(M:List Bool) (k:Nat) (x:Bool),(M.flatMap stC).set k (.bool x)=(M.set k x).flatMap stC:=fun M k x=>by
  apply List.ext_getElem?
  intro q
  rw[ΩjL,List.getElem?_set,List.getElem?_set,ΩjL]
  have hl:(M.flatMap stC).length =M.length:=by rw[ΩfX stC_len];omega
  rw[hl]
  split
  ·split<;>rfl
  ·rfl
 have hsw:ΩiT L i j=(L.set i b).set j a:=by
  unfold ΩiT
  rw[ΩoI,ΩoI,ha,hb]
  rfl
 rw[hsw]
 unfold Ωdu
 rw[←e,←e]
 exact h2.1
theorem getD_swap(L:List Bool){i j:Nat}(hi:i<L.length)(hj:j<L.length)(k:Nat):(ΩiT L i j)[k]? =if k=j then L[i]? else if k=i then L[j]? else L[k]? :=by
 unfold ΩiT
 rw[List.getElem?_set,List.getElem?_set,ΩoE]
 by_cases e:k=j
 ·subst e
  rw[ΩnV rfl,ΩnV hj,ΩnV rfl,ΩoI,Ωnu hi];rfl
 ·rw[ΩnU (Ne.symm e),ΩnU e]
  by_cases e2:k=i
  ·subst e2
   rw[ΩnV rfl,ΩnV hi,ΩnV rfl,ΩoI,Ωnu hj];rfl
  ·rw[ΩnU (Ne.symm e2),ΩnU e2]
def RevR(L M:List Bool)(k:Nat):Prop:=M.length=L.length∧∀q,M[q]? =if q<k∨L.length≤q+k then L.reverse[q]? else L[q]?
theorem RevR.zero(L:List Bool):RevR L L 0:=⟨rfl,fun q=>by
 split
 ·rename_i h
  have:L.length≤q:=by omega
  rw[List.getElem?_eq_none (by omega),List.getElem?_eq_none (by rw[Ωog];omega)]
 ·rfl⟩
theorem RevR.next{L M:List Bool}{k:Nat}(h:RevR L M k)(hk:2*k+1<L.length):RevR L (ΩiT M k (L.length-1-k)) (k+1):=by
 refine⟨by unfold ΩiT;rw[ΩoE,ΩoE,h.1],fun q=> ?_⟩
 rw[getD_swap M (by rw[h.1];omega) (by rw[h.1];omega)]
 have r:∀q,q<L.length→L.reverse[q]? =L[L.length-1-q]? :=fun q hq=>List.getElem?_reverse hq
 by_cases e:q=L.length-1-k
 ·rw[ΩnV e,h.2,ΩnU (by omega),ΩnV (by omega),r q (by omega)]
  congr 1;omega
 ·rw[ΩnU e]
  by_cases e2:q=k
  ·rw[ΩnV e2,h.2,ΩnU (by omega),ΩnV (by omega),r q (by omega)]
   congr 1;omega
  ·rw[ΩnU e2,h.2]
   by_cases e3:q<k∨L.length≤q+k
   ·rw[ΩnV e3,ΩnV (by omega)]
   ·rw[ΩnU e3,ΩnU (by omega)]
theorem RevR.done{L M:List Bool}{k:Nat}(h:RevR L M k)(hk:L.length≤2*k+1):M=L.reverse:=by
 apply List.ext_getElem?
 intro q
 rw[h.2]
 by_cases e:q<k∨L.length≤q+k
 ·rw[ΩnV e]
 ·rw[ΩnU e,List.getElem?_reverse (by omega)]
  congr 1;omega
theorem reverse_any(L:List Bool)(hn:L.length≤100000)(base:Nat)(v:Value)(w:World)(h:Ωdu w base v L.length L):
  Calls Tryz.prog 152 #[v] w fun e w' =>e= .returned (.tuple #[])∧Ωdu w' base v L.length L.reverse∧Only (fun k=>v.ownBlock=some k) w w' :=by
 rcases ΩoB L.length with h0|hpos
 ·have hL:L=[]:=ΩnZ h0
  subst hL
  obtain⟨A,cap,rfl,hc1,hc2⟩:=Ωt h
  have H:=Θ h
  clear h h0
  go_enter Tryz.func152,Tryz.ntmps152
  go_wp2_with fail
  go_loopw [2,3] (fun iv jv wr=>iv= .int .i64 0∧jv= .int .i64 (-1)∧wr=w) (fun _ _ _=>0)
  case atStart=>exact⟨rfl,rfl,rfl⟩
  case round=>
   obtain⟨rfl,rfl,rfl⟩:=hrel
   go_wp2_with fail
   go_end0
   exact⟨rfl,H.out,Only.refl _ _⟩
 ·obtain⟨g,cap,rfl,hg1,hg2,hg3,hg4⟩:=Ωcd h hpos
  have H:=Θ h
  clear h
  go_enter Tryz.func152,Tryz.ntmps152
  go_wp2_with fail
  go_loopw [2,3] (fun iv jv wr=>∃(k:Nat) (M:List Bool),iv= .int .i64 (k:Int)∧jv= .int .i64 ((L.length:Int)-1-(k:Int))∧2*k≤L.length+1∧RevR L M k∧Ωdu wr base (.slice (some ⟨g,0,none⟩) L.length cap) L.length M∧Only (fun q=>q=g) w wr) (fun iv _ _=>L.length-(intOf iv).toNat)
  case atStart=>exact⟨0,L,rfl,by go_num,by omega,RevR.zero L,H.out,Only.refl _ _⟩
  case round=>
   obtain⟨k,M,rfl,rfl,hk,hR,hown,ho⟩:=hrel
   by_cases hlt:2*k+1<L.length
   ·obtain⟨j,ej⟩:∃j,j=L.length-1-k:=⟨_,rfl⟩
    have ej2:(L.length:Int)-1-(k:Int)=(j:Int):=by omega
    rw[ej2]
    obtain⟨a,ha⟩:∃a,M[k]? =some a:=⟨_,Ωnu (by rw[hR.1];omega)⟩
    obtain⟨b,hb⟩:∃b,M[j]? =some b:=⟨_,Ωnu (by rw[hR.1];omega)⟩
    have c1:=hown.cell ha
    have c2:=hown.cell hb
    have f1:=ΩhB hown k
    have f2:=ΩhB hown j
    have d1:decide ((k:Int)<(j:Int))=true:=ΩnG (by omega)
    have d2:k<j:=by omega
    have k0:(0:Int)≤(k:Int):=by omega
    have j0:(0:Int)≤(j:Int):=by omega
    have k1:(k:Int)<(L.length:Int):=by omega
    have j1:(j:Int)<(L.length:Int):=by omega
    have j2:j≤100000:=by omega
    have HN:=Θ (And.intro (hR.next hlt) (And.intro (hown.swap ha hb) (show Only (fun q=>q=g) w ((wr.setCell ⟨g,k,none⟩ (.bool b)).setCell ⟨g,j,none⟩ (.bool a)) from(ho.setCell (p:=⟨g,k,none⟩) (.inl rfl) _).setCell (p:=⟨g,j,none⟩) (.inl rfl) _)))
    have EJ:=Θ ej
    clear ho hown hR ha hb ej ej2 hk hlt
    go_wp2_with fail
    go_region
    have hs:((j:Int)-1)=(L.length:Int)-1-((k+1:Nat):Int):=by have:=EJ.out;omega
    have HS:=Θ hs
    clear c1 c2 f1 f2 hs
    go_wp2_with fail
    go_roundw
    case rel=>exact⟨k+1,ΩiT M k j,by go_num,by rw[←HS.out],by have:=EJ.out;omega,by rw[EJ.out];exact HN.out.1,by rw[EJ.out];exact(EJ.out▸HN.out.2.1),HN.out.2.2.drew⟩
    case measure=>simp[intOf];omega
   ·have d1:decide ((k:Int)<(L.length:Int)-1-(k:Int))=false:=Ωny (by omega)
    have hd:=hR.done (by omega)
    have HN:=Θ (And.intro hd (And.intro hown ho))
    clear hd hown ho hR hk hlt
    go_wp2_with fail
    go_end0
    refine⟨rfl,?_,HN.out.2.2.mono (fun q _ e=>by rw[e];rfl)⟩
    rw[←HN.out.1]
    exact HN.out.2.1
def WyR(i n a m:Nat)(L:List Bool):Prop:=∃f,m≤f∧f≤1000∧wayF n i n=L++wayF f a m
theorem WyR.len{i n a m:Nat}{L:List Bool}(h:WyR i n a m L)(hn:n≤1000):L.length≤1000:=by
 obtain⟨f,_,_,e⟩:=h
 have h1:=congrArg List.length e
 rw[Ωf5,ΩnA] at h1
 have:=Ωcz n i n
 omega
theorem WyR.left{i n a m:Nat}{L:List Bool}(h:WyR i n a m L)(h1:1<m)(hk:a<Ωh m):WyR i n a (Ωh m) (L++[false]):=by
 obtain⟨f,hf,hf2,e⟩:=h
 have hs:=Ω3 (n:=m) (by omega) (by omega)
 obtain⟨g,rfl⟩:∃g,f=g+1:=⟨f-1,by omega⟩
 refine⟨g,by omega,by omega,?_⟩
 rw[e,ΩoA,show wayF (g+1) a m=if m≤1 then [] else if a<Ωh m then false::wayF g a (Ωh m) else true::wayF g (a-Ωh m) (m-Ωh m) from rfl,ΩnU (by omega),ΩnV hk]
 rfl
theorem WyR.right{i n a m:Nat}{L:List Bool}(h:WyR i n a m L)(h1:1<m)(hk:¬a<Ωh m):WyR i n (a-Ωh m) (m-Ωh m) (L++[true]):=by
 obtain⟨f,hf,hf2,e⟩:=h
 have hs:=Ω3 (n:=m) (by omega) (by omega)
 obtain⟨g,rfl⟩:∃g,f=g+1:=⟨f-1,by omega⟩
 refine⟨g,by omega,by omega,?_⟩
 rw[e,ΩoA,show wayF (g+1) a m=if m≤1 then [] else if a<Ωh m then false::wayF g a (Ωh m) else true::wayF g (a-Ωh m) (m-Ωh m) from rfl,ΩnU (by omega),ΩnU hk]
 rfl
theorem WyR.done{i n a m:Nat}{L:List Bool}(h:WyR i n a m L)(h1:m≤1):L=wayF n i n:=by
 obtain⟨f,hf,hf2,e⟩:=h
 rw[e]
 have:wayF f a m=[]:=by cases f with
  |zero=>rfl
  |succ f=>unfold wayF;rw[ΩnV h1]
 rw[this,Ωox]
theorem newS(W:World)(b:Bool):(W.alloc (.cells #[.bool b] 155)).heap[W.heap.size]? =some (.cells #[.bool b] 155 (0,0)):=Blk.new W _ _
theorem way_any(i n:Nat)(hi:i<n)(hn:n≤1000)(w:World):Calls Tryz.prog 105 #[.int .i64 (i:Int),.int .i64 (n:Int)] w fun e w' =>∃ov,e= .returned ov∧Ωdu w' w.heap.size ov (wayF n i n).reverse.length (wayF n i n).reverse∧Only Ωa w w' :=by
 obtain⟨ie,zz,hie,hsz,hz,hzc,hby⟩:=step_info
 have HIE:=Θ hie
 have HSZ:=Θ hsz
 have HZZ:=Θ hz
 have HZC:=Θ hzc
 have HBY:=Θ hby
 have H0:Hid (WyR i n i n []):=Θ ⟨n,Ωnv _,hn,rfl⟩
 clear hie hsz hz hzc hby
 go_enter Tryz.func105,Tryz.ntmps105
 go_wp2_with fail
 go_loopw [0,1,5] (fun iv nv ov wr=>∃(a m:Nat) (L:List Bool),iv= .int .i64 (a:Int)∧nv= .int .i64 (m:Int)∧a<m∧m≤1000∧WyR i n a m L∧Ωdu wr w.heap.size ov L.length L∧Only Ωa w wr) (fun _ nv _ _=>(intOf nv).toNat)
 case atStart=>exact⟨i,n,[],rfl,rfl,hi,hn,H0.out,⟨rfl,.inl ⟨rfl,rfl⟩⟩,Only.refl _ _⟩
 case round=>
  obtain⟨a,m,L,rfl,rfl,ham,hm,hW,hown,ho⟩:=hrel
  obtain⟨out,hout⟩:∃out:Value,out=u5:=⟨_,rfl⟩
  subst hout
  have hLl:=hW.len hn
  by_cases h1:1<m
  ·have d1:decide (1<(m:Int))=true:=ΩnG (by omega)
   have hsp:=Ω3 (n:=m) (by omega) (by omega)
   obtain⟨k,ek⟩:∃k,k=Ωh m:=⟨_,rfl⟩
   have HH:Hid (∀W,Calls Tryz.prog 83 #[.int .i64 (m:Int)] W fun e w' =>e= .returned (.int .i64 (k:Int))∧w' =W):=Θ (fun W=>by rw[ek];exact ΩkL m (by omega) (by omega) W)
   by_cases hk:a<k
   ·have d2:decide ((a:Int)<(k:Int))=true:=ΩnG (by omega)
    have HW:Hid (WyR i n a k (L++[false])):=Θ (by rw[ek];exact hW.left h1 (by rw[←ek];exact hk))
    rw[←ek] at hsp
    have HOWN:=Θ hown
    have HO:=Θ ho
    clear ek hW hown ho
    go_wp2_with fail
    refine(HH.out _).mono ?_
    rintro e1 w1 ⟨rfl,rfl⟩
    go_wp2_with (at_builtin;refine wpList_append_lies _ rfl _ _ 152 rfl w.heap.size 155 ie zz 1 ie.bytes Tryz.underlying152 HIE.out HZZ.out HSZ.out rfl HZC.out (by omega) out L.length (L.flatMap stC) rfl (World.ownsRow.alloc HOWN.out _) _ 1 1 (stC false) rfl rfl (World.news_of_block (cs:= #[.bool false]) (t:=155) (fr:=(0,0)) (newS _ false)) (by simp[stC,Value.oneCell']) (by omega) (by rw[Ωg];omega) (by have:=HBY.out;exact Ωnz (Ωov (show L.length+1≤2000 by omega) this) (by omega)) (Only.size (Only.alloc HO.out _)) _ rfl ?_;intro g8 cap8 w8 hown8 hgrow8 hat8 hlt8)
    have hS8:Only Ωa w w8:=(Only.alloc HO.out _).grown hgrow8 (fun j e=> .inr (ΩJ HOWN.out e).1)
    have HF:=Θ hS8
    have HWN:=Θ hown8
    clear hgrow8 hat8 hlt8 hown8 hS8
    go_wp2_with fail
    go_roundw
    case rel=>exact⟨a,k,L++[false],rfl,rfl,hk,by omega,HW.out,by unfold Ωdu;rw[ΩnA,Ωn2];exact HWN.out,HF.out⟩
    case measure=>simp[intOf];omega
   ·have d2:decide ((a:Int)<(k:Int))=false:=Ωny (by omega)
    have HW:Hid (WyR i n (a-k) (m-k) (L++[true])):=Θ (by rw[ek];exact hW.right h1 (by rw[←ek];exact hk))
    rw[←ek] at hsp
    have HOWN:=Θ hown
    have HO:=Θ ho
    clear ek hW hown ho
    go_wp2_with fail
    refine(HH.out _).mono ?_
    rintro e1 w1 ⟨rfl,rfl⟩
    go_wp2_with (at_builtin;refine wpList_append_lies _ rfl _ _ 152 rfl w.heap.size 155 ie zz 1 ie.bytes Tryz.underlying152 HIE.out HZZ.out HSZ.out rfl HZC.out (by omega) out L.length (L.flatMap stC) rfl (World.ownsRow.alloc HOWN.out _) _ 1 1 (stC true) rfl rfl (World.news_of_block (cs:= #[.bool true]) (t:=155) (fr:=(0,0)) (newS _ true)) (by simp[stC,Value.oneCell']) (by omega) (by rw[Ωg];omega) (by have:=HBY.out;exact Ωnz (Ωov (show L.length+1≤2000 by omega) this) (by omega)) (Only.size (Only.alloc HO.out _)) _ rfl ?_;intro g8 cap8 w8 hown8 hgrow8 hat8 hlt8)
    have hS8:Only Ωa w w8:=(Only.alloc HO.out _).grown hgrow8 (fun j e=> .inr (ΩJ HOWN.out e).1)
    have HF:=Θ hS8
    have HWN:=Θ hown8
    clear hgrow8 hat8 hlt8 hown8 hS8
    go_wp2_with fail
    go_roundw
    case rel=>exact⟨a-k,m-k,L++[true],by go_num,by go_num,by omega,by omega,HW.out,by unfold Ωdu;rw[ΩnA,Ωn2];exact HWN.out,HF.out⟩
    case measure=>simp[intOf];omega
  ·have d1:decide (1<(m:Int))=false:=Ωny (by omega)
   have hd:=hW.done (by omega)
   have hrv:Calls Tryz.prog 152 #[out] wr fun e w' =>e= .returned (.tuple #[])∧Ωdu w' w.heap.size out L.length L.reverse∧Only (fun k=>out.ownBlock=some k) wr w' :=reverse_any L (by omega) w.heap.size out wr hown
   have HRV:=Θ hrv
   have HD:=Θ hd
   have HO:=Θ ho
   have HGE:Hid (∀k,out.ownBlock=some k→w.heap.size≤k):=Θ (fun k hk=>(ΩJ hown hk).1)
   clear hrv hd ho hown hW
   go_wp2_with fail
   refine HRV.out.mono ?_
   rintro e1 w1 ⟨rfl,hown1,ho1⟩
   have HF:=Θ (And.intro hown1 (HO.out.trans' ho1 (fun q hq e=>by have:=HGE.out q e;omega)))
   clear hown1 ho1 HRV
   go_wp2_with fail
   go_ret
   refine⟨_,rfl,?_,HF.out.2⟩
   rw[←HD.out,Ωog]
   exact HF.out.1
end
section
open Go.RowKit Go.Shelf
attribute [local go_sem ↓ high] ΩaB
def ckP(r:Hs)(s:Nat)(i:Int)(l:List UInt8)(Q:List Hs):Bool:=
 if i<0 then false else if(s:Int)≤i then false else if Q.length=Ωac s i.toNat s then(upF s (ΩfD l) i.toNat s Q.reverse==r) else false
structure CpS(w:World)(B:Nat)(h:Hd)(v:Value)(Q:List Hs)(W:World):Prop where
 a:HdAt W B h
 r:W.rangeAt B 1 (h.root.map bv)
 l:HaSl W v Q
 only:Only Ωa w W
theorem CpS.keep{w:World}{B:Nat}{h:Hd}{v:Value}{Q:List Hs}{W W' :World}(hh:CpS w B h v Q W)(ho:Only Ωa W W'):CpS w B h v Q W' :=
 ⟨Blk.only hh.a ho (fun e=>e),Ωu hh.r ho,hh.l.only ho,hh.only.trans ho⟩
theorem CpS.new{w:World}{h:Hd}{v:Value}{Q:List Hs}(hs:HaSl w v Q):CpS w w.heap.size h v Q (w.alloc (.cells (hdC h).toArray 37)):=
 ⟨Blk.new w _ _,ΩD (Ωd (Blk.new w tHd (hdC h).toArray)),hs.only ((Only.refl _ _).alloc _),(Only.refl _ _).alloc _⟩
theorem rcheckpath_any(h:Hd)(s:Nat)(hs:h.size=(s:Int))(hs2:s≤1000)(hl:h.root.length=32)(i:Int)(x:ByteArray)(hx:x.size≤17592186044416)(Q:List Hs)(hok:HsOk Q)(v:Value)(w:World)(hv' :HaSl w v Q):
  Calls Tryz.prog 98 #[.agg (hdC h).toArray,.int .i64 i,.string x,v] w fun e w' =>e= .returned (.bool (ckP h.root s i x.data.toList Q))∧Only Ωa w w' :=by
 obtain⟨A,cap,rfl,hlc,hcm,hA⟩:=id hv'
 have hS0:=CpS.new (h:=h) hv'
 obtain⟨B,eB⟩:∃B,B=w.heap.size:=⟨_,rfl⟩
 rw[←eB] at hS0
 have HS0:=Θ hS0
 have EB:=Θ eB
 have HSZ:=Θ hs
 have HL:=Θ hl
 clear hS0 eB hA
 by_cases h1:i<0
 ·have hc:ckP h.root s i x.data.toList Q=false:=by unfold ckP;rw[ΩnV h1]
  rw[hc]
  have d1:decide (i<0)=true:=ΩnG h1
  clear hc hv' h1 hs
  go_enter Tryz.func98,Tryz.ntmps98
  go_upto_region 1 with(fail)
  rw[←EB.out]
  refine Ωf (CpS w B h (.slice A Q.length cap) Q) HS0.out ?_
  intro Z hZ
  have HO:=Θ hZ.only
  clear hZ HS0
  go_wp2_with fail
  go_ret
  exact⟨rfl,HO.out⟩
 ·have d1:decide (i<0)=false:=Ωny h1
  by_cases h2:(s:Int)≤i
  ·have hc:ckP h.root s i x.data.toList Q=false:=by unfold ckP;rw[ΩnU h1,ΩnV h2]
   rw[hc]
   have d2:decide ((s:Int)≤i)=true:=ΩnG h2
   clear hc hv' h1 h2 hs
   go_enter Tryz.func98,Tryz.ntmps98
   go_upto_region 1 with(fail)
   rw[←EB.out]
   refine Ωf (CpS w B h (.slice A Q.length cap) Q) HS0.out ?_
   intro Z hZ
   have c0:Z.cell? ⟨B,0,none⟩=some (.int .i64 (s:Int)):=by rw[←HSZ.out];exact Blk.cell hZ.a 0
   have HO:=Θ hZ.only
   clear hZ HS0
   go_wp2_with fail
   go_ret
   exact⟨rfl,HO.out⟩
  ·have d2:decide ((s:Int)≤i)=false:=Ωny h2
   obtain⟨j,rfl⟩:∃j:Nat,i=(j:Int):=⟨i.toNat,by omega⟩
   have d2n:decide (s≤j)=false:=Ωny (by omega)
   have d2m:¬s≤j:=by omega
   obtain⟨d,ed⟩:∃d,d=Ωac s j s:=⟨_,rfl⟩
   have hdep:∀W,Calls Tryz.prog 143 #[.int .i64 (j:Int),.int .i64 (s:Int)] W fun e w' =>e= .returned (.int .i64 (d:Int))∧w' =W:=fun W=>by rw[ed];exact Ωe5 s j s (Ωnv _) (by omega) (by omega) W
   have HD:=Θ hdep
   have hck:ckP h.root s (j:Int) x.data.toList Q=if Q.length=d then(upF s (ΩfD x.data.toList) j s Q.reverse==h.root) else false:=by
    unfold ckP
    rw[ΩnU h1,ΩnU h2,Ωoj,←ed]
   rw[hck]
   by_cases h3:Q.length=d
   ·have d3:((Q.length:Int)==(d:Int))=true:=by simp[h3]
    have d4:((Q.length:Int)!=(d:Int))=false:=by simp[h3]
    rw[ΩnV h3]
    obtain⟨y,ey⟩:∃y,y=ΩfD x.data.toList:=⟨_,rfl⟩
    have hy:y.length=32:=by rw[ey];exact ΩeE _
    obtain⟨u,eu⟩:∃u,u=upF s y j s Q.reverse:=⟨_,rfl⟩
    have hu:u.length=32:=by rw[eu];exact Ωgb _ _ _ _ _ hy
    have hleaf:∀W,Calls Tryz.prog 72 #[.string x] W fun e w' =>e= .returned (hv y)∧Only Ωa W w' :=fun W=>by rw[ey];exact ΩiZ x W hx
    have hup:∀W,HaSl W (.slice A Q.length cap) Q→Calls Tryz.prog 144 #[hv y,.int .i64 (j:Int),.int .i64 (s:Int),.slice A Q.length cap] W fun e w' =>e= .returned (hv u)∧Only Ωa W w' :=fun W hW=>by rw[eu];exact ΩjP s y j s Q _ W hy (Ωnv _) (by omega) hs2 hok (by omega) hW
    rw[←ey,←eu]
    have HQ:=Θ (fun W=>ΩbT u h.root hu hl W)
    have H1:=Θ hleaf
    have H2:=Θ hup
    clear hleaf hup ey eu hdep hck ed h3 hok hv' h1 h2 hs hx
    go_enter Tryz.func98,Tryz.ntmps98
    go_upto_region 1 with(fail)
    rw[←EB.out]
    refine Ωf (CpS w B h (.slice A Q.length cap) Q) HS0.out ?_
    intro Z hZ
    have c0:Z.cell? ⟨B,0,none⟩=some (.int .i64 (s:Int)):=by rw[←HSZ.out];exact Blk.cell hZ.a 0
    have HZ:=Θ hZ
    clear hZ HS0
    go_wp2_with fail
    refine(HD.out _).mono ?_
    rintro e1 w1 ⟨rfl,rfl⟩
    go_upto_region 3 with(fail)
    obtain⟨ft,hfx⟩:=Ωbp (CpS w B h (.slice A Q.length cap) Q) (W0:=w1.drew) (HZ.out.keep (Only.refl Ωa w1).drew)
    obtain⟨F,hI,hF0,hF,hFS⟩:=hfx
    have f0:∀z,(F z).cell? ⟨B,0,none⟩=some (.int .i64 (s:Int)):=fun z=>by rw[←HSZ.out];exact Blk.cell (hFS z).a 0
    have f1:∀z,(ΩL (.pointer (some ⟨B,1,none⟩))).run Tryz.prog (F z)= .ok (hv h.root) (F z):=fun z=>Ωp (hFS z).r HL.out
    have f2:∀z,(binOp .eql 35 (hv u) (hv h.root)).run Tryz.prog (F z)= .ok (.bool (u==h.root)) (F z):=fun z=>HQ.out (F z)
    have D1:Hid (∀z,Calls Tryz.prog 72 #[.string x] (F z) fun e w' =>e= .returned (hv y)∧∃z',w' =F z'):=Θ (fun z=>(H1.out _).mono (fun e w' hh=>⟨hh.1,(hF w').1 ((hFS z).keep hh.2)⟩))
    have D2:Hid (∀z,Calls Tryz.prog 144 #[hv y,.int .i64 (j:Int),.int .i64 (s:Int),.slice A Q.length cap] (F z) fun e w' =>e= .returned (hv u)∧∃z',w' =F z'):=Θ (fun z=>(H2.out _ (hFS z).l).mono (fun e w' hh=>⟨hh.1,(hF w').1 ((hFS z).keep hh.2)⟩))
    have HF:=Θ hF
    have HF0:=Θ hF0
    clear hF hF0 hFS
    refine Ωs F 9 (by kernel_rfl) (by kernel_rfl) HF0.out ?_
    simp only[Ωoc,Ωoz,Ωon,List.drop_zero]
    repeat(go_big_quiet_step (first|(with_reducible exact D1.out _)|(with_reducible exact D2.out _)))
    refine wpQuiet_nil ?_
    intro w9 hw9
    have HO9:=Θ ((HF.out w9).2 hw9).only
    clear hw9 f2
    have f3:∀p q,(eqGuard .eql 35 p q (hv u) (hv h.root)).run Tryz.prog w9= .ok () w9:=fun p q=>run_eqGuard_agg _ _ _ _ _ _ _ (by kernel_rfl)
    have f2:(binOp .eql 35 (hv u) (hv h.root)).run Tryz.prog w9= .ok (.bool (u==h.root)) w9:=HQ.out w9
    go_wp2_with fail
    go_ret
    exact⟨rfl,HO9.out⟩
   ·have d3:((Q.length:Int)==(d:Int))=false:=by rw[ΩnL];omega
    have d4:((Q.length:Int)!=(d:Int))=true:=by simp only[bne,d3];rfl
    rw[ΩnU h3]
    clear hdep hck ed h3 hok hv' h1 h2 hs hx
    go_enter Tryz.func98,Tryz.ntmps98
    go_upto_region 1 with(fail)
    rw[←EB.out]
    refine Ωf (CpS w B h (.slice A Q.length cap) Q) HS0.out ?_
    intro Z hZ
    have c0:Z.cell? ⟨B,0,none⟩=some (.int .i64 (s:Int)):=by rw[←HSZ.out];exact Blk.cell hZ.a 0
    have HO:=Θ hZ.only
    clear hZ HS0
    go_wp2_with fail
    refine(HD.out _).mono ?_
    rintro e1 w1 ⟨rfl,rfl⟩
    go_wp2_with fail
    go_ret
    exact⟨rfl,HO.out⟩
end
end Go.Proofs.YtgalfohobgjelaaGreatDoor
