/- What is proved here:the events of the client's worlds. Conditions:the world's numbers are bytes;the table of powers of ten lies. -/
import Derived.Test.YtgalfohobgjelaaGreatDoorFr27
import Derived.BigQuiet
namespace Go.Proofs.YtgalfohobgjelaaGreatDoor
open Go.RowKit Go.Shelf
attribute [local go_sem ↓ high] evLoad_eq evStore_eq evBs1_eq evBd_eq hLoad_eq hStore_eq
def KdAt (w:World) (A:Option Addr) (ks:List UInt8):Prop:=∀(j:Nat) (x:UInt8),ks[j]? =some x→∃g o,A=some ⟨g,o,none⟩∧w.cell? ⟨g,o+j,none⟩=some (.int .u8 (x.toNat:Int))
theorem KdAt.none_ {w w':World} {A:Option Addr} {ks:List UInt8} (h:KdAt w A ks) (ho:Only NoneOf w w'):KdAt w' A ks:=fun j x hx=>by
 obtain⟨g,o,hA,hc⟩:=h j x hx
 exact⟨g,o,hA,ho.cell_some hc (fun h=>h.elim)⟩
structure EvL (w:World) (D L:Nat) (d:Wd) (kA:Option Addr) (kc:Nat) (last:Hs) (done:List Ev) (ov:Value) (W:World):Prop where
 wd:Blk W D tWd (wdC d kA kc)
 hash:Blk W L 35 (last.map bv).toArray
 own:EvO W w.heap.size ov done.length done
 only:Only NoneOf w W
theorem signE_short (x:Int) (e:Ev) (h:e.name.size≤100∧e.text.size≤100):(signE x e).name.size≤100∧(signE x e).text.size≤100:=h
structure EvS (w:World) (D L E:Nat) (d:Wd) (kA:Option Addr) (kc:Nat) (last:Hs) (done:List Ev) (ov:Value) (e:Ev) (W:World):Prop where
 l:EvL w D L d kA kc last done ov W
 ev:Blk W E tEv (evC e).toArray
 ne:ov.ownBlock≠some E
 far:w.heap.size≤E∧E≠D∧E≠L
theorem EvL.none_ {w:World} {D L:Nat} {d:Wd} {kA:Option Addr} {kc:Nat} {last:Hs} {done:List Ev} {ov:Value} {W W':World} (h:EvL w D L d kA kc last done ov W) (ho:Only NoneOf W W'):EvL w D L d kA kc last done ov W':=
 ⟨h.wd.only ho (fun h=>h.elim),h.hash.only ho (fun h=>h.elim),own_only h.own ho (fun _ _ h=>h.elim),h.only.trans ho⟩
theorem EvS.none_ {w:World} {D L E:Nat} {d:Wd} {kA:Option Addr} {kc:Nat} {last:Hs} {done:List Ev} {ov:Value} {e:Ev} {W W':World} (h:EvS w D L E d kA kc last done ov e W) (ho:Only NoneOf W W'):EvS w D L E d kA kc last done ov e W':=
 ⟨h.l.none_ ho,h.ev.only ho (fun h=>h.elim),h.ne,h.far⟩
theorem EvS.only {w:World} {D L E:Nat} {d:Wd} {kA:Option Addr} {kc:Nat} {last:Hs} {done:List Ev} {ov:Value} {e e':Ev} {W W':World} (h:EvS w D L E d kA kc last done ov e W) (ho:Only (fun k=>k=E) W W') (hb:Blk W' E tEv (evC e').toArray):EvS w D L E d kA kc last done ov e' W':=
 ⟨⟨h.l.wd.only ho (fun e=>h.far.2.1 e.symm),h.l.hash.only ho (fun e=>h.far.2.2 e.symm),own_only h.l.own ho (fun k hk e=>h.ne (by rw [hk,e])),h.l.only.trans' ho (fun k hk e=>by have:=h.far.1;omega)⟩,hb,h.ne,h.far⟩
theorem EvS.set_ {w:World} {D L E:Nat} {d:Wd} {kA:Option Addr} {kc:Nat} {last:Hs} {done:List Ev} {ov:Value} {e e':Ev} {W:World} (h:EvS w D L E d kA kc last done ov e W) (i:Nat) (v:Value) (he:(evC e).set i v=evC e'):EvS w D L E d kA kc last done ov e' (W.setCell ⟨E,i,none⟩ v):=by
 refine h.only (Only.setCell (S:=fun k=>k=E) (Only.refl _ _) (p:=⟨E,i,none⟩) (.inl rfl) _) ?_
 have hb:=Blk.set_ h.ev i v
 rw [List.setIfInBounds_toArray,he] at hb
 exact hb
theorem EvS.cells {w:World} {D L E:Nat} {d:Wd} {kA:Option Addr} {kc:Nat} {last:Hs} {done:List Ev} {ov:Value} {e:Ev} {W:World} (h:EvS w D L E d kA kc last done ov e W) (he:e.prev.length=32):(evLoad (.pointer (some ⟨E,0,none⟩))).run Tryz.prog W= .ok (.agg (evC e).toArray) W:=
 ev_load_at (fun j v hj=>by rw [Nat.zero_add,h.ev.cell];simpa using hj) he
theorem EvS.put {w:World} {D L E:Nat} {d:Wd} {kA:Option Addr} {kc:Nat} {last:Hs} {done:List Ev} {ov:Value} {e e':Ev} {W:World} (h:EvS w D L E d kA kc last done ov e W) (hl:(evC e).length=46) (hl2:(evC e').length=46):EvS w D L E d kA kc last done ov e' (W.setCells E 0 (evC e')):=
 h.only (only_setCells (S:=fun k=>k=E) (Only.refl _ _) E 0 (.inl rfl) _) (filled_whole h.ev (by simp [hl,hl2]))
theorem EvS.hash_ {w:World} {D L E:Nat} {d:Wd} {kA:Option Addr} {kc:Nat} {last last':Hs} {done:List Ev} {ov:Value} {e:Ev} {W:World} (h:EvS w D L E d kA kc last done ov e W) (hDL:D≠L) (hwL:w.heap.size≤L) (hl:last.length=32) (hl2:last'.length=32):EvS w D L E d kA kc last' done ov e (W.setCells L 0 (last'.map bv)):=by
 have ho:Only (fun k=>k=L) W (W.setCells L 0 (last'.map bv)):=only_setCells (S:=fun k=>k=L) (Only.refl _ _) L 0 (.inl rfl) _
 have hn:ov.ownBlock≠some L:=own_blk_ne h.l.own h.l.hash (by decide)
 exact⟨⟨h.l.wd.only ho hDL,filled_whole h.l.hash (by simp [hl,hl2]),own_only h.l.own ho (fun k hk e=>hn (by rw [hk,e])),h.l.only.trans' ho (fun k hk e=>by omega)⟩,h.ev.only ho h.far.2.2,h.ne,h.far⟩
theorem evs_snoc (d:Wd) (second:Bool) (k:Nat) (x:UInt8) (hk:d.kinds[k]? =some x) (_h12:k<12):evsGo d second 0 zeroH (d.kinds.take (k+1))=evsGo d second 0 zeroH (d.kinds.take k) ++ [evAt d second k (lastE zeroH (evsGo d second 0 zeroH (d.kinds.take k))) x.toNat]:=by
 have hlt:k<d.kinds.length:=(List.getElem?_eq_some_iff.1 hk).1
 rw [List.take_add_one,hk,Option.toList_some,evsGo_snoc,Nat.zero_add,List.length_take,Nat.min_eq_left (by omega)]
set_option maxRecDepth 100000 in
set_option maxHeartbeats 4000000 in
theorem wevents_any (d:Wd) (hd:d.Ok) (second:Bool) (kA:Option Addr) (kc:Nat) (w:World) (hkd:KdAt w kA d.kinds) (hkl:d.kinds.length≤1000000000) (ht:Tab w):Calls Tryz.prog 13 #[.agg (wdC d kA kc),.bool second] w fun e' w'=> ∃rv,e'= .returned rv∧EvO w' w.heap.size rv (evsW d second).length (evsW d second)∧Only NoneOf w w':=by
 obtain⟨ie,z,hie,hsz,hz,hzc,hby⟩:=ev_info5
 obtain⟨D,eD⟩:∃D,D=w.heap.size:=⟨_,rfl⟩
 obtain⟨L,eL⟩:∃L,L=D+1:=⟨_,rfl⟩
 have hfk:=hd.fork
 have hs0:EvL w D L d kA kc zeroH [] (.slice none 0 0) ((w.alloc (.cells (wdC d kA kc) tWd)).alloc (.cells (Array.replicate 32 (.int .u8 0)) 35)):=by
  have h1:=Blk.new (w.alloc (.cells (wdC d kA kc) tWd)) 35 (Array.replicate 32 (.int .u8 0))
  rw [World.size_alloc,←eD,←eL] at h1
  refine⟨by rw [eD];exact(Blk.new w _ _).alloc _,?_,⟨rfl,.inl ⟨rfl,rfl⟩⟩,((Only.refl _ _).alloc _).alloc _⟩
  exact h1
 have HS0:=Lib.hid hs0
 have HIE:=Lib.hid hie
 have HSZ:=Lib.hid hsz
 have HZ:=Lib.hid hz
 have HZC:=Lib.hid hzc
 have HBY:=Lib.hid hby
 have HED:=Lib.hid eD
 have HEL:=Lib.hid eL
 have HKD:=Lib.hid hkd
 have HT:=Lib.hid ht
 have hDL:D≠L:=by omega
 have hwL:w.heap.size≤L:=by omega
 clear hs0 hie hsz hz hzc hby eD eL hkd ht
 go_enter Tryz.func13,Tryz.ntmps13
 go_wp2_with fail
 refine wp_gen (EvL w D L d kA kc zeroH [] (.slice none 0 0)) HS0.out ?_
 intro Y hY
 have HY:=Lib.hid hY
 clear hY HS0
 rw [←HED.out,←HEL.out]
 clear HED HEL
 go_loopw [5,7] (fun ov i wr=> ∃k:Nat,i= .int .i64 (k:Int)∧k≤12∧k≤d.kinds.length∧EvL w D L d kA kc (lastE zeroH (evsGo d second 0 zeroH (d.kinds.take k))) (evsGo d second 0 zeroH (d.kinds.take k)) ov wr) (fun _ i _=>12 - (intOf i).toNat)
 case atStart=>exact⟨0,rfl,by omega,by omega,HY.out⟩
 case round=>
  clear HY
  obtain⟨k,rfl,hk12,hkk,hS⟩:=hrel
  obtain⟨done,edone⟩:∃l,l=evsGo d second 0 zeroH (d.kinds.take k):=⟨_,rfl⟩
  rw [←edone] at hS
  obtain⟨last,elast⟩:∃l,l=lastE zeroH done:=⟨_,rfl⟩
  rw [←elast] at hS
  have hdl:done.length=k:=by rw [edone,evsGo_len,List.length_take];omega
  have c1:=hS.wd.cell 1
  have c2:=hS.wd.cell 2
  simp only [List.getElem?_toArray,List.getElem?_cons_zero,List.getElem?_cons_succ] at c1 c2
  have HS:=Lib.hid hS
  clear hS
  by_cases hlt:k<d.kinds.length∧k<12
  ·obtain⟨hlt,h12⟩:=hlt
   have hll:last.length=32:=by
    rw [elast]
    cases hde:done.reverse with
    |nil=>have h0:done= []:=by simpa using hde
          rw [h0];rfl
    |cons a l=>have h0:done=l.reverse++ [a]:=by have:=congrArg List.reverse hde;simpa using this
               rw [h0,lastE_snoc];exact shaL_len _
   obtain⟨x,hx⟩:∃x,d.kinds[k]? =some x:=⟨_,List.getElem?_eq_getElem hlt⟩
   obtain⟨g,o,rfl,hc⟩:=(HKD.out.none_ HS.out.only) k x hx
   have d1:decide ((k:Int) < (d.kinds.length:Int))=true:=decide_eq_true (by omega)
   have d2:decide ((k:Int) <12)=true:=decide_eq_true (by omega)
   have i1:(k:Int) < (d.kinds.length:Int):=by omega
   have i2:(k:Int) <12:=by omega
   have hx256:=x.toNat_lt
   have hld:(hLoad (.pointer (some ⟨L,0,none⟩))).run Tryz.prog wr= .ok (.agg (last.map bv).toArray) wr:=h_load (fun j v hj=>by rw [Nat.zero_add,HS.out.hash.cell];simpa using hj) hll
   have hbd:=fun W=>evBd_run (k:Int) last hll W
   have hsn:=evs_snoc d second k x hx h12
   rw [←edone,←elast] at hsn
   have HSN:=Lib.hid hsn
   have HLL:=Lib.hid hll
   have HX:=Lib.hid hx
   have HHC:=Lib.hid hc
   clear hsn hll hx edone elast hc
   have hst:(evStore (.pointer (some ⟨wr.heap.size,0,none⟩)) (.agg (evC (evZero (k:Int) last)).toArray)).run Tryz.prog (wr.alloc (.cells zeroEv tEv))= .ok () ((wr.alloc (.cells (evC blank0).toArray tEv)).setCells wr.heap.size 0 (evC (evZero (k:Int) last))):=ev_store (e:=evZero (k:Int) last) (cs:=evC blank0) (Blk.new wr tEv _) rfl HLL.out
   unfold zeroEv at hst
   obtain⟨E,eE⟩:∃E,E=wr.heap.size:=⟨_,rfl⟩
   have hZ0:EvS w D L E d (some ⟨g,o,none⟩) kc last done u5 (evZero (k:Int) last) ((wr.alloc (.cells (evC blank0).toArray tEv)).setCells wr.heap.size 0 (evC (evZero (k:Int) last))):=by
    have hl:=HS.out
    have hne:u5.ownBlock≠some E:=fun e=>by have:=(hl.own.lt _ e).2;omega
    have h1:D<wr.heap.size:=hl.wd.lt
    have h2:L<wr.heap.size:=hl.hash.lt
    have h3:=hl.only.size
    rw [←eE]
    have hb:Blk (wr.alloc (.cells (evC blank0).toArray tEv)) E tEv (evC blank0).toArray:=by rw [eE];exact Blk.new wr _ _
    have h0:EvS w D L E d (some ⟨g,o,none⟩) kc last done u5 blank0 (wr.alloc (.cells (evC blank0).toArray tEv)):=⟨hl.none_ ((Only.refl _ _).alloc _),hb,hne,by omega,by omega,by omega⟩
    exact h0.put rfl (evC_len HLL.out)
   have HZ0:=Lib.hid hZ0
   have HEE:=Lib.hid eE
   clear hZ0 eE
   go_upto_region 7 with(fail)
   refine wp_gen (EvS w D L E d (some ⟨g,o,none⟩) kc last done u5 (evZero (k:Int) last)) HZ0.out ?_
   rw [←HEE.out]
   intro V hV
   have HV:=Lib.hid hV
   clear hV HZ0 hst hld hbd HEE
   have c1:=HV.out.l.wd.cell 1
   simp only [List.getElem?_toArray,List.getElem?_cons_zero,List.getElem?_cons_succ] at c1
   obtain⟨g',o',eg,hc⟩:=(HKD.out.none_ HV.out.l.only) k x HX.out
   simp only [Option.some.injEq,Addr.mk.injEq,and_true] at eg
   obtain⟨rfl,rfl⟩:=eg
   by_cases h4:x.toNat % 4=0
   ·have i4:¬0< (x.toNat:Int) % 4:=by omega
    have i5:(x.toNat:Int) % 4=0:=by omega
    go_upto_region 12 with(fail)
    obtain⟨V0,eV0⟩:∃W,W=V:=⟨_,rfl⟩
    rw [←eV0] at HV⊢
    have HZ9:=HV
    have HE9:Hid ((second=true∧d.fork % 12≤k→evRaw d second k last x.toNat= { evZero (k:Int) last with n:=1})∧(¬(second=true∧d.fork % 12≤k)→evRaw d second k last x.toNat=evZero (k:Int) last)):=Lib.hid ⟨fun h=>by unfold evRaw evZero;simp only [h4,if_true,if_pos h],fun h=>by unfold evRaw evZero;simp only [h4,if_true,if_neg h]⟩
    clear HV hc c1 eV0
    have cf:=HZ9.out.l.wd.cell 2
    simp only [List.getElem?_toArray,List.getElem?_cons_zero,List.getElem?_cons_succ] at cf
    have f6:=HZ9.out.ev.frozen 6
    have e6:=HZ9.out.ev.cell 6
    simp only [evC,List.cons_append,List.getElem?_toArray,List.getElem?_cons_zero,List.getElem?_cons_succ] at e6
    by_cases hse:second=true∧d.fork % 12≤k
    ·obtain⟨hs1,hs2⟩:=hse
     have j1:(d.fork:Int) % 12≤(k:Int):=by omega
     have hV0:EvS w D L E d (some ⟨g,o,none⟩) kc last done u5 (evRaw d second k last x.toNat) (V0.setCell ⟨E,6,none⟩ (.int .i64 1)):=HZ9.out.set_ 6 _ (by rw [HE9.out.1 ⟨hs1,hs2⟩];rfl)
     have HV0:=Lib.hid hV0
     clear hV0 HZ9 HE9
     subst hs1
     go_upto_region 14 with(fail)
     refine wp_gen (EvS w D L E d (some ⟨g,o,none⟩) kc last done u5 (evRaw d true k last x.toNat)) HV0.out ?_
     intro V1 hV1
     have HV1:=Lib.hid hV1
     clear hV1 HV0 cf f6 e6
     obtain⟨e,ee⟩:∃e,e=evRaw d true k last x.toNat:=⟨_,rfl⟩
     have hV1:=HV1.out
     rw [←ee] at hV1
     have HSN2:=HSN.out
     have heA:evAt d true k last x.toNat=signE (secI e.who) e:=by rw [ee,evAt]
     rw [heA] at HSN2
     have hok:e.Ok:=by rw [ee];exact evRaw_ok d true k (by omega) last HLL.out _
     have hsh:=evRaw_short d true k last x.toNat
     rw [←ee] at hsh
     have hwho:0≤e.who∧e.who≤100:=by
      rw [ee];unfold evRaw;simp only;split<;>omega
     have hok2:(signE (secI e.who) e).Ok:=signE_ok hok _
     have hsz2:(signE (secI e.who) e).name.size≤100∧(signE (secI e.who) e).text.size≤100:=signE_short _ _ hsh
     have hsg:∀W,Calls Tryz.prog 38 #[.int .i64 (secI e.who),.agg (evC e).toArray] W fun e' w'=>e'= .returned (.agg (evC (signE (secI e.who) e)).toArray)∧Only NoneOf W w':=fun W=>rsignE_any (secI e.who) e hok (by omega) (by omega) W
     have hsec:∀W,Calls Tryz.prog 39 #[.int .i64 e.who] W fun e' w'=>e'= .returned (.int .i64 (secI e.who))∧w'=W:=fun W=>secret_any e.who (by omega) (by omega) W
     have cw:=hV1.ev.cell 2
     simp only [evC,List.cons_append,List.getElem?_toArray,List.getElem?_cons_zero,List.getElem?_cons_succ] at cw
     have hl1:=(hV1.none_ ((Only.refl NoneOf V1).drew)).cells hok.prev
     obtain⟨u,eu⟩:∃u,u=signE (secI e.who) e:=⟨_,rfl⟩
     rw [←eu] at hsg hok2 hsz2 HSN2
     have hfin:∀w2,Only NoneOf V1 w2→(evStore (.pointer (some ⟨E,0,none⟩)) (.agg (evC u).toArray)).run Tryz.prog w2= .ok () (w2.setCells E 0 (evC u))∧EvS w D L E d (some ⟨g,o,none⟩) kc last done u5 u (w2.setCells E 0 (evC u)):=fun w2 ho=>by
      have h2:=hV1.none_ ho
      exact⟨ev_store (cs:=evC e) h2.ev (evC_len hok.prev) hok2.prev,h2.put (evC_len hok.prev) (evC_len hok2.prev)⟩
     have HSG:=Lib.hid hsg
     have HSEC:=Lib.hid hsec
     have HFIN:=Lib.hid hfin
     have HOKU:=Lib.hid hok2
     have HSZU:=Lib.hid hsz2
     have HSNU:=Lib.hid HSN2
     clear hV1 HV1 hsg hsec hfin hok hsh hok2 hsz2 HSN2 HSN heA ee eu hwho
     go_region_law (first
      |(go_simp;go_at_call 39;refine(HSEC.out _).mono ?_;rintro e1 w3 ⟨rfl,rfl⟩)
      |(go_simp;go_at_call 38;refine(HSG.out _).mono ?_;rintro e2 w2 ⟨rfl,ho2⟩;have hf2:=HFIN.out w2 (((Only.refl _ _).drew).trans ho2);have hst2:=hf2.1))
     all_goals
      have HF2:=Lib.hid hf2.2
      clear hf2 hst2 ho2 cw hl1
      go_upto_region 15 with(fail)
      refine wp_gen (EvS w D L E d (some ⟨g,o,none⟩) kc last done u5 u) HF2.out ?_
      intro V2 hV2
      have hl2:=hV2.cells HOKU.out.prev
      have hha:∀W,Calls Tryz.prog 40 #[.agg (evC u).toArray] W fun e' w'=>e'= .returned (.agg ((hashE u).map bv).toArray)∧Only NoneOf W w':=fun W=>revhash_any u HOKU.out (by have:=HSZU.out;omega) (by have:=HSZU.out;omega) W
      have HHA:=Lib.hid hha
      have HV2:=Lib.hid hV2
      clear hV2 HF2 hha
      go_wp2_with fail
      refine(HHA.out _).mono ?_
      rintro e3 w3 ⟨rfl,ho3⟩
      have hV3:=HV2.out.none_ ho3
      have hst3:=h_store (m:=hashE u) hV3.l.hash HLL.out (shaL_len _)
      have hV4:=hV3.hash_ (last':=hashE u) hDL hwL HLL.out (shaL_len _)
      have HV4:=Lib.hid hV4
      clear hV3 hV4 ho3 hl2
      go_upto_region 16 with(fail)
      refine wp_gen (EvS w D L E d (some ⟨g,o,none⟩) kc (hashE u) done u5 u) HV4.out ?_
      intro V5 hV5
      have hl5:=hV5.cells HOKU.out.prev
      have hb5:=fun W=>evBs1_run u HOKU.out.prev W
      have hsz5:=hV5.l.only.size
      have HV5:=Lib.hid hV5
      clear hV5 HV4 hst3
      go_wp2_with (at_builtin;refine wpList_append_lies _ rfl _ _ 30 rfl w.heap.size tEv ie z 46 ie.bytes Tryz.underlying30 HIE.out HZ.out HSZ.out rfl HZC.out (by omega) u5 done.length (done.flatMap evC) rfl (World.ownsRow.alloc HV5.out.l.own _) _ 1 1 (evC u) rfl (by rw [evC_len HOKU.out.prev]) (World.news_of_block (cs:=(evC u).toArray) (t:=79) (fr:=(0,0)) (Blk.new _ _ _)) (evC_ones u) (by omega) (by rw [maxLen_val];omega) (by have:=HBY.out;exact Nat.le_trans (Nat.mul_le_mul (show done.length+1≤40 by omega) this) (by omega)) (by simp;omega) _ rfl ?_;intro g3 cap3 w9 hown3 hgrow3 hat3 hlt3)
      have hnew:EvL w D L d (some ⟨g,o,none⟩) kc (hashE u) (done++ [u]) (.slice (some ⟨g3,0,none⟩) (done.length+1) cap3) w9:=by
       have hl:=HV5.out.l
       refine⟨(hl.wd.alloc _).grown hgrow3 (Ne.symm (own_blk_ne hl.own hl.wd (by decide))),(hl.hash.alloc _).grown hgrow3 (Ne.symm (own_blk_ne hl.own hl.hash (by decide))),?_,(hl.only.alloc _).grown hgrow3 (fun j e=> .inr (own_ge hl.own e).1)⟩
       unfold EvO
       rw [List.length_append,List.flatMap_append]
       simpa using hown3
      have HNEW:=Lib.hid hnew
      clear hnew hown3 hgrow3 hat3 hlt3 hl5 hb5
      go_wp2_with fail
      go_roundw
      case rel=>exact⟨k+1,by go_num,by omega,by omega,by have h:=HNEW.out;rw [hdl] at h;rw [HSNU.out,lastE_snoc];exact h⟩
      case measure=>simp [intOf];omega
    ·have hV0:EvS w D L E d (some ⟨g,o,none⟩) kc last done u5 (evRaw d second k last x.toNat) V0:=by rw [HE9.out.2 hse];exact HZ9.out
     have HV1:=Lib.hid hV0
     clear hV0 HZ9 HE9
     obtain⟨V1,eV1⟩:∃V,V=V0:=⟨_,rfl⟩
     cases hsc:second with
     |false=>
      subst hsc
      go_upto_region 14 with(fail)
      rw [←eV1] at HV1⊢
      clear eV1 cf f6 e6
      obtain⟨e,ee⟩:∃e,e=evRaw d false k last x.toNat:=⟨_,rfl⟩
      have hV1:=HV1.out
      rw [←ee] at hV1
      have HSN2:=HSN.out
      have heA:evAt d false k last x.toNat=signE (secI e.who) e:=by rw [ee,evAt]
      rw [heA] at HSN2
      have hok:e.Ok:=by rw [ee];exact evRaw_ok d false k (by omega) last HLL.out _
      have hsh:=evRaw_short d false k last x.toNat
      rw [←ee] at hsh
      have hwho:0≤e.who∧e.who≤100:=by
       rw [ee];unfold evRaw;simp only;split<;>omega
      have hok2:(signE (secI e.who) e).Ok:=signE_ok hok _
      have hsz2:(signE (secI e.who) e).name.size≤100∧(signE (secI e.who) e).text.size≤100:=signE_short _ _ hsh
      have hsg:∀W,Calls Tryz.prog 38 #[.int .i64 (secI e.who),.agg (evC e).toArray] W fun e' w'=>e'= .returned (.agg (evC (signE (secI e.who) e)).toArray)∧Only NoneOf W w':=fun W=>rsignE_any (secI e.who) e hok (by omega) (by omega) W
      have hsec:∀W,Calls Tryz.prog 39 #[.int .i64 e.who] W fun e' w'=>e'= .returned (.int .i64 (secI e.who))∧w'=W:=fun W=>secret_any e.who (by omega) (by omega) W
      have cw:=hV1.ev.cell 2
      simp only [evC,List.cons_append,List.getElem?_toArray,List.getElem?_cons_zero,List.getElem?_cons_succ] at cw
      have hl1:=(hV1.none_ ((Only.refl NoneOf V1).drew)).cells hok.prev
      obtain⟨u,eu⟩:∃u,u=signE (secI e.who) e:=⟨_,rfl⟩
      rw [←eu] at hsg hok2 hsz2 HSN2
      have hfin:∀w2,Only NoneOf V1 w2→(evStore (.pointer (some ⟨E,0,none⟩)) (.agg (evC u).toArray)).run Tryz.prog w2= .ok () (w2.setCells E 0 (evC u))∧EvS w D L E d (some ⟨g,o,none⟩) kc last done u5 u (w2.setCells E 0 (evC u)):=fun w2 ho=>by
       have h2:=hV1.none_ ho
       exact⟨ev_store (cs:=evC e) h2.ev (evC_len hok.prev) hok2.prev,h2.put (evC_len hok.prev) (evC_len hok2.prev)⟩
      have HSG:=Lib.hid hsg
      have HSEC:=Lib.hid hsec
      have HFIN:=Lib.hid hfin
      have HOKU:=Lib.hid hok2
      have HSZU:=Lib.hid hsz2
      have HSNU:=Lib.hid HSN2
      clear hV1 HV1 hsg hsec hfin hok hsh hok2 hsz2 HSN2 HSN heA ee eu hwho
      go_region_law (first
       |(go_simp;go_at_call 39;refine(HSEC.out _).mono ?_;rintro e1 w3 ⟨rfl,rfl⟩)
       |(go_simp;go_at_call 38;refine(HSG.out _).mono ?_;rintro e2 w2 ⟨rfl,ho2⟩;have hf2:=HFIN.out w2 (((Only.refl _ _).drew).trans ho2);have hst2:=hf2.1))
      all_goals
       have HF2:=Lib.hid hf2.2
       clear hf2 hst2 ho2 cw hl1
       go_upto_region 15 with(fail)
       refine wp_gen (EvS w D L E d (some ⟨g,o,none⟩) kc last done u5 u) HF2.out ?_
       intro V2 hV2
       have hl2:=hV2.cells HOKU.out.prev
       have hha:∀W,Calls Tryz.prog 40 #[.agg (evC u).toArray] W fun e' w'=>e'= .returned (.agg ((hashE u).map bv).toArray)∧Only NoneOf W w':=fun W=>revhash_any u HOKU.out (by have:=HSZU.out;omega) (by have:=HSZU.out;omega) W
       have HHA:=Lib.hid hha
       have HV2:=Lib.hid hV2
       clear hV2 HF2 hha
       go_wp2_with fail
       refine(HHA.out _).mono ?_
       rintro e3 w3 ⟨rfl,ho3⟩
       have hV3:=HV2.out.none_ ho3
       have hst3:=h_store (m:=hashE u) hV3.l.hash HLL.out (shaL_len _)
       have hV4:=hV3.hash_ (last':=hashE u) hDL hwL HLL.out (shaL_len _)
       have HV4:=Lib.hid hV4
       clear hV3 hV4 ho3 hl2
       go_upto_region 16 with(fail)
       refine wp_gen (EvS w D L E d (some ⟨g,o,none⟩) kc (hashE u) done u5 u) HV4.out ?_
       intro V5 hV5
       have hl5:=hV5.cells HOKU.out.prev
       have hb5:=fun W=>evBs1_run u HOKU.out.prev W
       have hsz5:=hV5.l.only.size
       have HV5:=Lib.hid hV5
       clear hV5 HV4 hst3
       go_wp2_with (at_builtin;refine wpList_append_lies _ rfl _ _ 30 rfl w.heap.size tEv ie z 46 ie.bytes Tryz.underlying30 HIE.out HZ.out HSZ.out rfl HZC.out (by omega) u5 done.length (done.flatMap evC) rfl (World.ownsRow.alloc HV5.out.l.own _) _ 1 1 (evC u) rfl (by rw [evC_len HOKU.out.prev]) (World.news_of_block (cs:=(evC u).toArray) (t:=79) (fr:=(0,0)) (Blk.new _ _ _)) (evC_ones u) (by omega) (by rw [maxLen_val];omega) (by have:=HBY.out;exact Nat.le_trans (Nat.mul_le_mul (show done.length+1≤40 by omega) this) (by omega)) (by simp;omega) _ rfl ?_;intro g3 cap3 w9 hown3 hgrow3 hat3 hlt3)
       have hnew:EvL w D L d (some ⟨g,o,none⟩) kc (hashE u) (done++ [u]) (.slice (some ⟨g3,0,none⟩) (done.length+1) cap3) w9:=by
        have hl:=HV5.out.l
        refine⟨(hl.wd.alloc _).grown hgrow3 (Ne.symm (own_blk_ne hl.own hl.wd (by decide))),(hl.hash.alloc _).grown hgrow3 (Ne.symm (own_blk_ne hl.own hl.hash (by decide))),?_,(hl.only.alloc _).grown hgrow3 (fun j e=> .inr (own_ge hl.own e).1)⟩
        unfold EvO
        rw [List.length_append,List.flatMap_append]
        simpa using hown3
       have HNEW:=Lib.hid hnew
       clear hnew hown3 hgrow3 hat3 hlt3 hl5 hb5
       go_wp2_with fail
       go_roundw
       case rel=>exact⟨k+1,by go_num,by omega,by omega,by have h:=HNEW.out;rw [hdl] at h;rw [HSNU.out,lastE_snoc];exact h⟩
       case measure=>simp [intOf];omega
     |true=>
      have j1:¬(d.fork:Int) % 12≤(k:Int):=by
       intro h;exact hse ⟨hsc,by omega⟩
      subst hsc
      go_upto_region 14 with(fail)
      rw [←eV1] at HV1⊢
      clear eV1 cf f6 e6
      obtain⟨e,ee⟩:∃e,e=evRaw d true k last x.toNat:=⟨_,rfl⟩
      have hV1:=HV1.out
      rw [←ee] at hV1
      have HSN2:=HSN.out
      have heA:evAt d true k last x.toNat=signE (secI e.who) e:=by rw [ee,evAt]
      rw [heA] at HSN2
      have hok:e.Ok:=by rw [ee];exact evRaw_ok d true k (by omega) last HLL.out _
      have hsh:=evRaw_short d true k last x.toNat
      rw [←ee] at hsh
      have hwho:0≤e.who∧e.who≤100:=by
       rw [ee];unfold evRaw;simp only;split<;>omega
      have hok2:(signE (secI e.who) e).Ok:=signE_ok hok _
      have hsz2:(signE (secI e.who) e).name.size≤100∧(signE (secI e.who) e).text.size≤100:=signE_short _ _ hsh
      have hsg:∀W,Calls Tryz.prog 38 #[.int .i64 (secI e.who),.agg (evC e).toArray] W fun e' w'=>e'= .returned (.agg (evC (signE (secI e.who) e)).toArray)∧Only NoneOf W w':=fun W=>rsignE_any (secI e.who) e hok (by omega) (by omega) W
      have hsec:∀W,Calls Tryz.prog 39 #[.int .i64 e.who] W fun e' w'=>e'= .returned (.int .i64 (secI e.who))∧w'=W:=fun W=>secret_any e.who (by omega) (by omega) W
      have cw:=hV1.ev.cell 2
      simp only [evC,List.cons_append,List.getElem?_toArray,List.getElem?_cons_zero,List.getElem?_cons_succ] at cw
      have hl1:=(hV1.none_ ((Only.refl NoneOf V1).drew)).cells hok.prev
      obtain⟨u,eu⟩:∃u,u=signE (secI e.who) e:=⟨_,rfl⟩
      rw [←eu] at hsg hok2 hsz2 HSN2
      have hfin:∀w2,Only NoneOf V1 w2→(evStore (.pointer (some ⟨E,0,none⟩)) (.agg (evC u).toArray)).run Tryz.prog w2= .ok () (w2.setCells E 0 (evC u))∧EvS w D L E d (some ⟨g,o,none⟩) kc last done u5 u (w2.setCells E 0 (evC u)):=fun w2 ho=>by
       have h2:=hV1.none_ ho
       exact⟨ev_store (cs:=evC e) h2.ev (evC_len hok.prev) hok2.prev,h2.put (evC_len hok.prev) (evC_len hok2.prev)⟩
      have HSG:=Lib.hid hsg
      have HSEC:=Lib.hid hsec
      have HFIN:=Lib.hid hfin
      have HOKU:=Lib.hid hok2
      have HSZU:=Lib.hid hsz2
      have HSNU:=Lib.hid HSN2
      clear hV1 HV1 hsg hsec hfin hok hsh hok2 hsz2 HSN2 HSN heA ee eu hwho
      go_region_law (first
       |(go_simp;go_at_call 39;refine(HSEC.out _).mono ?_;rintro e1 w3 ⟨rfl,rfl⟩)
       |(go_simp;go_at_call 38;refine(HSG.out _).mono ?_;rintro e2 w2 ⟨rfl,ho2⟩;have hf2:=HFIN.out w2 (((Only.refl _ _).drew).trans ho2);have hst2:=hf2.1))
      all_goals
       have HF2:=Lib.hid hf2.2
       clear hf2 hst2 ho2 cw hl1
       go_upto_region 15 with(fail)
       refine wp_gen (EvS w D L E d (some ⟨g,o,none⟩) kc last done u5 u) HF2.out ?_
       intro V2 hV2
       have hl2:=hV2.cells HOKU.out.prev
       have hha:∀W,Calls Tryz.prog 40 #[.agg (evC u).toArray] W fun e' w'=>e'= .returned (.agg ((hashE u).map bv).toArray)∧Only NoneOf W w':=fun W=>revhash_any u HOKU.out (by have:=HSZU.out;omega) (by have:=HSZU.out;omega) W
       have HHA:=Lib.hid hha
       have HV2:=Lib.hid hV2
       clear hV2 HF2 hha
       go_wp2_with fail
       refine(HHA.out _).mono ?_
       rintro e3 w3 ⟨rfl,ho3⟩
       have hV3:=HV2.out.none_ ho3
       have hst3:=h_store (m:=hashE u) hV3.l.hash HLL.out (shaL_len _)
       have hV4:=hV3.hash_ (last':=hashE u) hDL hwL HLL.out (shaL_len _)
       have HV4:=Lib.hid hV4
       clear hV3 hV4 ho3 hl2
       go_upto_region 16 with(fail)
       refine wp_gen (EvS w D L E d (some ⟨g,o,none⟩) kc (hashE u) done u5 u) HV4.out ?_
       intro V5 hV5
       have hl5:=hV5.cells HOKU.out.prev
       have hb5:=fun W=>evBs1_run u HOKU.out.prev W
       have hsz5:=hV5.l.only.size
       have HV5:=Lib.hid hV5
       clear hV5 HV4 hst3
       go_wp2_with (at_builtin;refine wpList_append_lies _ rfl _ _ 30 rfl w.heap.size tEv ie z 46 ie.bytes Tryz.underlying30 HIE.out HZ.out HSZ.out rfl HZC.out (by omega) u5 done.length (done.flatMap evC) rfl (World.ownsRow.alloc HV5.out.l.own _) _ 1 1 (evC u) rfl (by rw [evC_len HOKU.out.prev]) (World.news_of_block (cs:=(evC u).toArray) (t:=79) (fr:=(0,0)) (Blk.new _ _ _)) (evC_ones u) (by omega) (by rw [maxLen_val];omega) (by have:=HBY.out;exact Nat.le_trans (Nat.mul_le_mul (show done.length+1≤40 by omega) this) (by omega)) (by simp;omega) _ rfl ?_;intro g3 cap3 w9 hown3 hgrow3 hat3 hlt3)
       have hnew:EvL w D L d (some ⟨g,o,none⟩) kc (hashE u) (done++ [u]) (.slice (some ⟨g3,0,none⟩) (done.length+1) cap3) w9:=by
        have hl:=HV5.out.l
        refine⟨(hl.wd.alloc _).grown hgrow3 (Ne.symm (own_blk_ne hl.own hl.wd (by decide))),(hl.hash.alloc _).grown hgrow3 (Ne.symm (own_blk_ne hl.own hl.hash (by decide))),?_,(hl.only.alloc _).grown hgrow3 (fun j e=> .inr (own_ge hl.own e).1)⟩
        unfold EvO
        rw [List.length_append,List.flatMap_append]
        simpa using hown3
       have HNEW:=Lib.hid hnew
       clear hnew hown3 hgrow3 hat3 hlt3 hl5 hb5
       go_wp2_with fail
       go_roundw
       case rel=>exact⟨k+1,by go_num,by omega,by omega,by have h:=HNEW.out;rw [hdl] at h;rw [HSNU.out,lastE_snoc];exact h⟩
       case measure=>simp [intOf];omega
   ·have i4:0< (x.toNat:Int) % 4:=by omega
    have f1:=HV.out.ev.frozen 1
    have e1:=HV.out.ev.cell 1
    simp only [evC,List.cons_append,List.getElem?_toArray,List.getElem?_cons_zero,List.getElem?_cons_succ] at e1
    go_upto_region 10 with(fail)
    have hU1:=HV.out.set_ (e':= { evZero (k:Int) last with kind:=4}) 1 (.int .i64 4) rfl
    refine wp_gen (EvS w D L E d (some ⟨g,o,none⟩) kc last done u5 { evZero (k:Int) last with kind:=4}) hU1 ?_
    intro V6 hV6
    have f2:=hV6.ev.frozen 2
    have e2:=hV6.ev.cell 2
    simp only [evC,List.cons_append,List.getElem?_toArray,List.getElem?_cons_zero,List.getElem?_cons_succ] at e2
    have hU2:=hV6.set_ (e':= { evZero (k:Int) last with kind:=4,who:=60+ (x.toNat:Int) % 4 / 3}) 2 (.int .i64 (60+ (x.toNat:Int) % 4 / 3)) rfl
    have HU2:=Lib.hid hU2
    clear hU1 hU2 hV6 f1 e1
    go_upto_region 11 with(fail)
    refine wp_gen (EvS w D L E d (some ⟨g,o,none⟩) kc last done u5 { evZero (k:Int) last with kind:=4,who:=60+ (x.toNat:Int) % 4 / 3}) HU2.out ?_
    intro V7 hV7
    have hbi:=rbid31_any ((x.toNat:Int) / 4) ⟨by omega,by omega⟩ V7
    have HV7:=Lib.hid hV7
    have HBI:=Lib.hid hbi
    clear hV7 hbi HU2 f2 e2 hc c1
    go_wp2_with fail
    refine HBI.out.mono ?_
    rintro e8 w8 ⟨A8,rfl,hi8,ho8⟩
    have hen:=rencode16_any (bidW ((x.toNat:Int) / 4)) (bidW_ok _) (qA:=A8) (pA:=none) (qk:=1) (pk:=0) (w:=w8) hi8 (.inl rfl)
    have HEN:=Lib.hid hen
    have HO8:=Lib.hid ho8
    clear hen hi8 ho8
    go_wp2_with fail
    refine HEN.out.mono ?_
    rintro e9 w9 ⟨t,rfl,ht,ho9⟩
    have hte:t=bidT ((x.toNat:Int) / 4):=ba_ext ht
    subst hte
    have hV9:=(HV7.out.none_ HO8.out).none_ ho9
    have f9:=hV9.ev.frozen 9
    have e9:=hV9.ev.cell 9
    simp only [evC,List.cons_append,List.getElem?_toArray,List.getElem?_cons_zero,List.getElem?_cons_succ] at e9
    have hU9:=hV9.set_ (e':= { evZero (k:Int) last with kind:=4,who:=60+ (x.toNat:Int) % 4 / 3,text:=bidT ((x.toNat:Int) / 4)}) 9 (.string (bidT ((x.toNat:Int) / 4))) rfl
    have HU9:=Lib.hid hU9
    clear hU9 hV9 ho9 ht
    go_upto_region 12 with(fail)
    refine wp_gen (EvS w D L E d (some ⟨g,o,none⟩) kc last done u5 { evZero (k:Int) last with kind:=4,who:=60+ (x.toNat:Int) % 4 / 3,text:=bidT ((x.toNat:Int) / 4)}) HU9.out ?_
    intro V0 hV0
    have HZ9:=Lib.hid hV0
    have HE9:Hid ((second=true∧d.fork % 12≤k→evRaw d second k last x.toNat= { evZero (k:Int) last with kind:=4,who:=60+ (x.toNat:Int) % 4 / 3,text:=bidT ((x.toNat:Int) / 4),n:=1})∧(¬(second=true∧d.fork % 12≤k)→evRaw d second k last x.toNat= { evZero (k:Int) last with kind:=4,who:=60+ (x.toNat:Int) % 4 / 3,text:=bidT ((x.toNat:Int) / 4)})):=Lib.hid ⟨fun h=>by unfold evRaw evZero;simp only [if_neg h4,if_pos h];simp,fun h=>by unfold evRaw evZero;simp only [if_neg h4,if_neg h];simp⟩
    clear hV0 HU9 f9 e9
    have cf:=HZ9.out.l.wd.cell 2
    simp only [List.getElem?_toArray,List.getElem?_cons_zero,List.getElem?_cons_succ] at cf
    have f6:=HZ9.out.ev.frozen 6
    have e6:=HZ9.out.ev.cell 6
    simp only [evC,List.cons_append,List.getElem?_toArray,List.getElem?_cons_zero,List.getElem?_cons_succ] at e6
    by_cases hse:second=true∧d.fork % 12≤k
    ·obtain⟨hs1,hs2⟩:=hse
     have j1:(d.fork:Int) % 12≤(k:Int):=by omega
     have hV0:EvS w D L E d (some ⟨g,o,none⟩) kc last done u5 (evRaw d second k last x.toNat) (V0.setCell ⟨E,6,none⟩ (.int .i64 1)):=HZ9.out.set_ 6 _ (by rw [HE9.out.1 ⟨hs1,hs2⟩];rfl)
     have HV0:=Lib.hid hV0
     clear hV0 HZ9 HE9
     subst hs1
     go_upto_region 14 with(fail)
     refine wp_gen (EvS w D L E d (some ⟨g,o,none⟩) kc last done u5 (evRaw d true k last x.toNat)) HV0.out ?_
     intro V1 hV1
     have HV1:=Lib.hid hV1
     clear hV1 HV0 cf f6 e6
     obtain⟨e,ee⟩:∃e,e=evRaw d true k last x.toNat:=⟨_,rfl⟩
     have hV1:=HV1.out
     rw [←ee] at hV1
     have HSN2:=HSN.out
     have heA:evAt d true k last x.toNat=signE (secI e.who) e:=by rw [ee,evAt]
     rw [heA] at HSN2
     have hok:e.Ok:=by rw [ee];exact evRaw_ok d true k (by omega) last HLL.out _
     have hsh:=evRaw_short d true k last x.toNat
     rw [←ee] at hsh
     have hwho:0≤e.who∧e.who≤100:=by
      rw [ee];unfold evRaw;simp only;split<;>omega
     have hok2:(signE (secI e.who) e).Ok:=signE_ok hok _
     have hsz2:(signE (secI e.who) e).name.size≤100∧(signE (secI e.who) e).text.size≤100:=signE_short _ _ hsh
     have hsg:∀W,Calls Tryz.prog 38 #[.int .i64 (secI e.who),.agg (evC e).toArray] W fun e' w'=>e'= .returned (.agg (evC (signE (secI e.who) e)).toArray)∧Only NoneOf W w':=fun W=>rsignE_any (secI e.who) e hok (by omega) (by omega) W
     have hsec:∀W,Calls Tryz.prog 39 #[.int .i64 e.who] W fun e' w'=>e'= .returned (.int .i64 (secI e.who))∧w'=W:=fun W=>secret_any e.who (by omega) (by omega) W
     have cw:=hV1.ev.cell 2
     simp only [evC,List.cons_append,List.getElem?_toArray,List.getElem?_cons_zero,List.getElem?_cons_succ] at cw
     have hl1:=(hV1.none_ ((Only.refl NoneOf V1).drew)).cells hok.prev
     obtain⟨u,eu⟩:∃u,u=signE (secI e.who) e:=⟨_,rfl⟩
     rw [←eu] at hsg hok2 hsz2 HSN2
     have hfin:∀w2,Only NoneOf V1 w2→(evStore (.pointer (some ⟨E,0,none⟩)) (.agg (evC u).toArray)).run Tryz.prog w2= .ok () (w2.setCells E 0 (evC u))∧EvS w D L E d (some ⟨g,o,none⟩) kc last done u5 u (w2.setCells E 0 (evC u)):=fun w2 ho=>by
      have h2:=hV1.none_ ho
      exact⟨ev_store (cs:=evC e) h2.ev (evC_len hok.prev) hok2.prev,h2.put (evC_len hok.prev) (evC_len hok2.prev)⟩
     have HSG:=Lib.hid hsg
     have HSEC:=Lib.hid hsec
     have HFIN:=Lib.hid hfin
     have HOKU:=Lib.hid hok2
     have HSZU:=Lib.hid hsz2
     have HSNU:=Lib.hid HSN2
     clear hV1 HV1 hsg hsec hfin hok hsh hok2 hsz2 HSN2 HSN heA ee eu hwho
     go_region_law (first
      |(go_simp;go_at_call 39;refine(HSEC.out _).mono ?_;rintro e1 w3 ⟨rfl,rfl⟩)
      |(go_simp;go_at_call 38;refine(HSG.out _).mono ?_;rintro e2 w2 ⟨rfl,ho2⟩;have hf2:=HFIN.out w2 (((Only.refl _ _).drew).trans ho2);have hst2:=hf2.1))
     all_goals
      have HF2:=Lib.hid hf2.2
      clear hf2 hst2 ho2 cw hl1
      go_upto_region 15 with(fail)
      refine wp_gen (EvS w D L E d (some ⟨g,o,none⟩) kc last done u5 u) HF2.out ?_
      intro V2 hV2
      have hl2:=hV2.cells HOKU.out.prev
      have hha:∀W,Calls Tryz.prog 40 #[.agg (evC u).toArray] W fun e' w'=>e'= .returned (.agg ((hashE u).map bv).toArray)∧Only NoneOf W w':=fun W=>revhash_any u HOKU.out (by have:=HSZU.out;omega) (by have:=HSZU.out;omega) W
      have HHA:=Lib.hid hha
      have HV2:=Lib.hid hV2
      clear hV2 HF2 hha
      go_wp2_with fail
      refine(HHA.out _).mono ?_
      rintro e3 w3 ⟨rfl,ho3⟩
      have hV3:=HV2.out.none_ ho3
      have hst3:=h_store (m:=hashE u) hV3.l.hash HLL.out (shaL_len _)
      have hV4:=hV3.hash_ (last':=hashE u) hDL hwL HLL.out (shaL_len _)
      have HV4:=Lib.hid hV4
      clear hV3 hV4 ho3 hl2
      go_upto_region 16 with(fail)
      refine wp_gen (EvS w D L E d (some ⟨g,o,none⟩) kc (hashE u) done u5 u) HV4.out ?_
      intro V5 hV5
      have hl5:=hV5.cells HOKU.out.prev
      have hb5:=fun W=>evBs1_run u HOKU.out.prev W
      have hsz5:=hV5.l.only.size
      have HV5:=Lib.hid hV5
      clear hV5 HV4 hst3
      go_wp2_with (at_builtin;refine wpList_append_lies _ rfl _ _ 30 rfl w.heap.size tEv ie z 46 ie.bytes Tryz.underlying30 HIE.out HZ.out HSZ.out rfl HZC.out (by omega) u5 done.length (done.flatMap evC) rfl (World.ownsRow.alloc HV5.out.l.own _) _ 1 1 (evC u) rfl (by rw [evC_len HOKU.out.prev]) (World.news_of_block (cs:=(evC u).toArray) (t:=79) (fr:=(0,0)) (Blk.new _ _ _)) (evC_ones u) (by omega) (by rw [maxLen_val];omega) (by have:=HBY.out;exact Nat.le_trans (Nat.mul_le_mul (show done.length+1≤40 by omega) this) (by omega)) (by simp;omega) _ rfl ?_;intro g3 cap3 w9 hown3 hgrow3 hat3 hlt3)
      have hnew:EvL w D L d (some ⟨g,o,none⟩) kc (hashE u) (done++ [u]) (.slice (some ⟨g3,0,none⟩) (done.length+1) cap3) w9:=by
       have hl:=HV5.out.l
       refine⟨(hl.wd.alloc _).grown hgrow3 (Ne.symm (own_blk_ne hl.own hl.wd (by decide))),(hl.hash.alloc _).grown hgrow3 (Ne.symm (own_blk_ne hl.own hl.hash (by decide))),?_,(hl.only.alloc _).grown hgrow3 (fun j e=> .inr (own_ge hl.own e).1)⟩
       unfold EvO
       rw [List.length_append,List.flatMap_append]
       simpa using hown3
      have HNEW:=Lib.hid hnew
      clear hnew hown3 hgrow3 hat3 hlt3 hl5 hb5
      go_wp2_with fail
      go_roundw
      case rel=>exact⟨k+1,by go_num,by omega,by omega,by have h:=HNEW.out;rw [hdl] at h;rw [HSNU.out,lastE_snoc];exact h⟩
      case measure=>simp [intOf];omega
    ·have hV0:EvS w D L E d (some ⟨g,o,none⟩) kc last done u5 (evRaw d second k last x.toNat) V0:=by rw [HE9.out.2 hse];exact HZ9.out
     have HV1:=Lib.hid hV0
     clear hV0 HZ9 HE9
     obtain⟨V1,eV1⟩:∃V,V=V0:=⟨_,rfl⟩
     cases hsc:second with
     |false=>
      subst hsc
      go_upto_region 14 with(fail)
      rw [←eV1] at HV1⊢
      clear eV1 cf f6 e6
      obtain⟨e,ee⟩:∃e,e=evRaw d false k last x.toNat:=⟨_,rfl⟩
      have hV1:=HV1.out
      rw [←ee] at hV1
      have HSN2:=HSN.out
      have heA:evAt d false k last x.toNat=signE (secI e.who) e:=by rw [ee,evAt]
      rw [heA] at HSN2
      have hok:e.Ok:=by rw [ee];exact evRaw_ok d false k (by omega) last HLL.out _
      have hsh:=evRaw_short d false k last x.toNat
      rw [←ee] at hsh
      have hwho:0≤e.who∧e.who≤100:=by
       rw [ee];unfold evRaw;simp only;split<;>omega
      have hok2:(signE (secI e.who) e).Ok:=signE_ok hok _
      have hsz2:(signE (secI e.who) e).name.size≤100∧(signE (secI e.who) e).text.size≤100:=signE_short _ _ hsh
      have hsg:∀W,Calls Tryz.prog 38 #[.int .i64 (secI e.who),.agg (evC e).toArray] W fun e' w'=>e'= .returned (.agg (evC (signE (secI e.who) e)).toArray)∧Only NoneOf W w':=fun W=>rsignE_any (secI e.who) e hok (by omega) (by omega) W
      have hsec:∀W,Calls Tryz.prog 39 #[.int .i64 e.who] W fun e' w'=>e'= .returned (.int .i64 (secI e.who))∧w'=W:=fun W=>secret_any e.who (by omega) (by omega) W
      have cw:=hV1.ev.cell 2
      simp only [evC,List.cons_append,List.getElem?_toArray,List.getElem?_cons_zero,List.getElem?_cons_succ] at cw
      have hl1:=(hV1.none_ ((Only.refl NoneOf V1).drew)).cells hok.prev
      obtain⟨u,eu⟩:∃u,u=signE (secI e.who) e:=⟨_,rfl⟩
      rw [←eu] at hsg hok2 hsz2 HSN2
      have hfin:∀w2,Only NoneOf V1 w2→(evStore (.pointer (some ⟨E,0,none⟩)) (.agg (evC u).toArray)).run Tryz.prog w2= .ok () (w2.setCells E 0 (evC u))∧EvS w D L E d (some ⟨g,o,none⟩) kc last done u5 u (w2.setCells E 0 (evC u)):=fun w2 ho=>by
       have h2:=hV1.none_ ho
       exact⟨ev_store (cs:=evC e) h2.ev (evC_len hok.prev) hok2.prev,h2.put (evC_len hok.prev) (evC_len hok2.prev)⟩
      have HSG:=Lib.hid hsg
      have HSEC:=Lib.hid hsec
      have HFIN:=Lib.hid hfin
      have HOKU:=Lib.hid hok2
      have HSZU:=Lib.hid hsz2
      have HSNU:=Lib.hid HSN2
      clear hV1 HV1 hsg hsec hfin hok hsh hok2 hsz2 HSN2 HSN heA ee eu hwho
      go_region_law (first
       |(go_simp;go_at_call 39;refine(HSEC.out _).mono ?_;rintro e1 w3 ⟨rfl,rfl⟩)
       |(go_simp;go_at_call 38;refine(HSG.out _).mono ?_;rintro e2 w2 ⟨rfl,ho2⟩;have hf2:=HFIN.out w2 (((Only.refl _ _).drew).trans ho2);have hst2:=hf2.1))
      all_goals
       have HF2:=Lib.hid hf2.2
       clear hf2 hst2 ho2 cw hl1
       go_upto_region 15 with(fail)
       refine wp_gen (EvS w D L E d (some ⟨g,o,none⟩) kc last done u5 u) HF2.out ?_
       intro V2 hV2
       have hl2:=hV2.cells HOKU.out.prev
       have hha:∀W,Calls Tryz.prog 40 #[.agg (evC u).toArray] W fun e' w'=>e'= .returned (.agg ((hashE u).map bv).toArray)∧Only NoneOf W w':=fun W=>revhash_any u HOKU.out (by have:=HSZU.out;omega) (by have:=HSZU.out;omega) W
       have HHA:=Lib.hid hha
       have HV2:=Lib.hid hV2
       clear hV2 HF2 hha
       go_wp2_with fail
       refine(HHA.out _).mono ?_
       rintro e3 w3 ⟨rfl,ho3⟩
       have hV3:=HV2.out.none_ ho3
       have hst3:=h_store (m:=hashE u) hV3.l.hash HLL.out (shaL_len _)
       have hV4:=hV3.hash_ (last':=hashE u) hDL hwL HLL.out (shaL_len _)
       have HV4:=Lib.hid hV4
       clear hV3 hV4 ho3 hl2
       go_upto_region 16 with(fail)
       refine wp_gen (EvS w D L E d (some ⟨g,o,none⟩) kc (hashE u) done u5 u) HV4.out ?_
       intro V5 hV5
       have hl5:=hV5.cells HOKU.out.prev
       have hb5:=fun W=>evBs1_run u HOKU.out.prev W
       have hsz5:=hV5.l.only.size
       have HV5:=Lib.hid hV5
       clear hV5 HV4 hst3
       go_wp2_with (at_builtin;refine wpList_append_lies _ rfl _ _ 30 rfl w.heap.size tEv ie z 46 ie.bytes Tryz.underlying30 HIE.out HZ.out HSZ.out rfl HZC.out (by omega) u5 done.length (done.flatMap evC) rfl (World.ownsRow.alloc HV5.out.l.own _) _ 1 1 (evC u) rfl (by rw [evC_len HOKU.out.prev]) (World.news_of_block (cs:=(evC u).toArray) (t:=79) (fr:=(0,0)) (Blk.new _ _ _)) (evC_ones u) (by omega) (by rw [maxLen_val];omega) (by have:=HBY.out;exact Nat.le_trans (Nat.mul_le_mul (show done.length+1≤40 by omega) this) (by omega)) (by simp;omega) _ rfl ?_;intro g3 cap3 w9 hown3 hgrow3 hat3 hlt3)
       have hnew:EvL w D L d (some ⟨g,o,none⟩) kc (hashE u) (done++ [u]) (.slice (some ⟨g3,0,none⟩) (done.length+1) cap3) w9:=by
        have hl:=HV5.out.l
        refine⟨(hl.wd.alloc _).grown hgrow3 (Ne.symm (own_blk_ne hl.own hl.wd (by decide))),(hl.hash.alloc _).grown hgrow3 (Ne.symm (own_blk_ne hl.own hl.hash (by decide))),?_,(hl.only.alloc _).grown hgrow3 (fun j e=> .inr (own_ge hl.own e).1)⟩
        unfold EvO
        rw [List.length_append,List.flatMap_append]
        simpa using hown3
       have HNEW:=Lib.hid hnew
       clear hnew hown3 hgrow3 hat3 hlt3 hl5 hb5
       go_wp2_with fail
       go_roundw
       case rel=>exact⟨k+1,by go_num,by omega,by omega,by have h:=HNEW.out;rw [hdl] at h;rw [HSNU.out,lastE_snoc];exact h⟩
       case measure=>simp [intOf];omega
     |true=>
      have j1:¬(d.fork:Int) % 12≤(k:Int):=by
       intro h;exact hse ⟨hsc,by omega⟩
      subst hsc
      go_upto_region 14 with(fail)
      rw [←eV1] at HV1⊢
      clear eV1 cf f6 e6
      obtain⟨e,ee⟩:∃e,e=evRaw d true k last x.toNat:=⟨_,rfl⟩
      have hV1:=HV1.out
      rw [←ee] at hV1
      have HSN2:=HSN.out
      have heA:evAt d true k last x.toNat=signE (secI e.who) e:=by rw [ee,evAt]
      rw [heA] at HSN2
      have hok:e.Ok:=by rw [ee];exact evRaw_ok d true k (by omega) last HLL.out _
      have hsh:=evRaw_short d true k last x.toNat
      rw [←ee] at hsh
      have hwho:0≤e.who∧e.who≤100:=by
       rw [ee];unfold evRaw;simp only;split<;>omega
      have hok2:(signE (secI e.who) e).Ok:=signE_ok hok _
      have hsz2:(signE (secI e.who) e).name.size≤100∧(signE (secI e.who) e).text.size≤100:=signE_short _ _ hsh
      have hsg:∀W,Calls Tryz.prog 38 #[.int .i64 (secI e.who),.agg (evC e).toArray] W fun e' w'=>e'= .returned (.agg (evC (signE (secI e.who) e)).toArray)∧Only NoneOf W w':=fun W=>rsignE_any (secI e.who) e hok (by omega) (by omega) W
      have hsec:∀W,Calls Tryz.prog 39 #[.int .i64 e.who] W fun e' w'=>e'= .returned (.int .i64 (secI e.who))∧w'=W:=fun W=>secret_any e.who (by omega) (by omega) W
      have cw:=hV1.ev.cell 2
      simp only [evC,List.cons_append,List.getElem?_toArray,List.getElem?_cons_zero,List.getElem?_cons_succ] at cw
      have hl1:=(hV1.none_ ((Only.refl NoneOf V1).drew)).cells hok.prev
      obtain⟨u,eu⟩:∃u,u=signE (secI e.who) e:=⟨_,rfl⟩
      rw [←eu] at hsg hok2 hsz2 HSN2
      have hfin:∀w2,Only NoneOf V1 w2→(evStore (.pointer (some ⟨E,0,none⟩)) (.agg (evC u).toArray)).run Tryz.prog w2= .ok () (w2.setCells E 0 (evC u))∧EvS w D L E d (some ⟨g,o,none⟩) kc last done u5 u (w2.setCells E 0 (evC u)):=fun w2 ho=>by
       have h2:=hV1.none_ ho
       exact⟨ev_store (cs:=evC e) h2.ev (evC_len hok.prev) hok2.prev,h2.put (evC_len hok.prev) (evC_len hok2.prev)⟩
      have HSG:=Lib.hid hsg
      have HSEC:=Lib.hid hsec
      have HFIN:=Lib.hid hfin
      have HOKU:=Lib.hid hok2
      have HSZU:=Lib.hid hsz2
      have HSNU:=Lib.hid HSN2
      clear hV1 HV1 hsg hsec hfin hok hsh hok2 hsz2 HSN2 HSN heA ee eu hwho
      go_region_law (first
       |(go_simp;go_at_call 39;refine(HSEC.out _).mono ?_;rintro e1 w3 ⟨rfl,rfl⟩)
       |(go_simp;go_at_call 38;refine(HSG.out _).mono ?_;rintro e2 w2 ⟨rfl,ho2⟩;have hf2:=HFIN.out w2 (((Only.refl _ _).drew).trans ho2);have hst2:=hf2.1))
      all_goals
       have HF2:=Lib.hid hf2.2
       clear hf2 hst2 ho2 cw hl1
       go_upto_region 15 with(fail)
       refine wp_gen (EvS w D L E d (some ⟨g,o,none⟩) kc last done u5 u) HF2.out ?_
       intro V2 hV2
       have hl2:=hV2.cells HOKU.out.prev
       have hha:∀W,Calls Tryz.prog 40 #[.agg (evC u).toArray] W fun e' w'=>e'= .returned (.agg ((hashE u).map bv).toArray)∧Only NoneOf W w':=fun W=>revhash_any u HOKU.out (by have:=HSZU.out;omega) (by have:=HSZU.out;omega) W
       have HHA:=Lib.hid hha
       have HV2:=Lib.hid hV2
       clear hV2 HF2 hha
       go_wp2_with fail
       refine(HHA.out _).mono ?_
       rintro e3 w3 ⟨rfl,ho3⟩
       have hV3:=HV2.out.none_ ho3
       have hst3:=h_store (m:=hashE u) hV3.l.hash HLL.out (shaL_len _)
       have hV4:=hV3.hash_ (last':=hashE u) hDL hwL HLL.out (shaL_len _)
       have HV4:=Lib.hid hV4
       clear hV3 hV4 ho3 hl2
       go_upto_region 16 with(fail)
       refine wp_gen (EvS w D L E d (some ⟨g,o,none⟩) kc (hashE u) done u5 u) HV4.out ?_
       intro V5 hV5
       have hl5:=hV5.cells HOKU.out.prev
       have hb5:=fun W=>evBs1_run u HOKU.out.prev W
       have hsz5:=hV5.l.only.size
       have HV5:=Lib.hid hV5
       clear hV5 HV4 hst3
       go_wp2_with (at_builtin;refine wpList_append_lies _ rfl _ _ 30 rfl w.heap.size tEv ie z 46 ie.bytes Tryz.underlying30 HIE.out HZ.out HSZ.out rfl HZC.out (by omega) u5 done.length (done.flatMap evC) rfl (World.ownsRow.alloc HV5.out.l.own _) _ 1 1 (evC u) rfl (by rw [evC_len HOKU.out.prev]) (World.news_of_block (cs:=(evC u).toArray) (t:=79) (fr:=(0,0)) (Blk.new _ _ _)) (evC_ones u) (by omega) (by rw [maxLen_val];omega) (by have:=HBY.out;exact Nat.le_trans (Nat.mul_le_mul (show done.length+1≤40 by omega) this) (by omega)) (by simp;omega) _ rfl ?_;intro g3 cap3 w9 hown3 hgrow3 hat3 hlt3)
       have hnew:EvL w D L d (some ⟨g,o,none⟩) kc (hashE u) (done++ [u]) (.slice (some ⟨g3,0,none⟩) (done.length+1) cap3) w9:=by
        have hl:=HV5.out.l
        refine⟨(hl.wd.alloc _).grown hgrow3 (Ne.symm (own_blk_ne hl.own hl.wd (by decide))),(hl.hash.alloc _).grown hgrow3 (Ne.symm (own_blk_ne hl.own hl.hash (by decide))),?_,(hl.only.alloc _).grown hgrow3 (fun j e=> .inr (own_ge hl.own e).1)⟩
        unfold EvO
        rw [List.length_append,List.flatMap_append]
        simpa using hown3
       have HNEW:=Lib.hid hnew
       clear hnew hown3 hgrow3 hat3 hlt3 hl5 hb5
       go_wp2_with fail
       go_roundw
       case rel=>exact⟨k+1,by go_num,by omega,by omega,by have h:=HNEW.out;rw [hdl] at h;rw [HSNU.out,lastE_snoc];exact h⟩
       case measure=>simp [intOf];omega
  ·have hwe:evsW d second=done:=by
    unfold evsW
    rw [edone]
    congr 1
    by_cases h12:k=12
    ·rw [h12]
    ·have:k=d.kinds.length:=by omega
     rw [this,List.take_length,List.take_of_length_le (by omega)]
   have HOWN:Hid (EvO wr w.heap.size u5 (evsW d second).length (evsW d second)):=Lib.hid (by rw [hwe];exact HS.out.own)
   have HO:=Lib.hid HS.out.only
   clear HS hwe
   by_cases hl:k<d.kinds.length
   ·have d1:decide ((k:Int) < (d.kinds.length:Int))=true:=decide_eq_true (by omega)
    have d2:decide ((k:Int) <12)=false:=decide_eq_false (by omega)
    go_wp2_with fail
    go_ret
    exact⟨_,rfl,HOWN.out,HO.out⟩
   ·have d1:decide ((k:Int) < (d.kinds.length:Int))=false:=decide_eq_false (by omega)
    go_wp2_with fail
    go_ret
    exact⟨_,rfl,HOWN.out,HO.out⟩
end Go.Proofs.YtgalfohobgjelaaGreatDoor
