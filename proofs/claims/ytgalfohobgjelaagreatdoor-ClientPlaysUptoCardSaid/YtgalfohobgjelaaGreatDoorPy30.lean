/- What is proved here: a part of the proof that 'probitylaw31.ClientPlays' answers true. Conditions: each theorem's own. -/
import Derived.Test.YtgalfohobgjelaaGreatDoorPy29
set_option maxRecDepth 100000
set_option maxHeartbeats 8000000
namespace Go.Proofs.YtgalfohobgjelaaGreatDoor
section
open Go.RowKit
def ZBl(t:TypeId)(cs:Array Value)(X W:World)(N:Nat):Prop:=Blk W N t cs∧X.heap.size≤N
section
variable {t:TypeId} {cs:Array Value} {X W W' :World} {N M:Nat}
theorem ZBl.new(h:Only Ωa X W):ZBl t cs X (W.alloc (.cells cs t)) W.heap.size:=⟨Blk.new W t cs,h.size⟩
theorem ZBl.newd(h:Only Ωa X W):ZBl t cs X (W.alloc (.cells cs t)).drew W.heap.size:=⟨(Blk.new W t cs).drew,h.size⟩
theorem ZBl.alloc(h:ZBl t cs X W N)(o:Obj):ZBl t cs X (W.alloc o) N:=⟨h.1.alloc o,h.2⟩
theorem ZBl.set(hne:N≠M)(h:ZBl t cs X W N)(vs:List Value):ZBl t cs X (W.setCells M 0 vs) N:=⟨Blk.farCells hne vs 0 h.1,h.2⟩
theorem ZBl.step(h:ZBl t cs X W N)(ho:Only Ωa W W'):ZBl t cs X W' N:=⟨Blk.only h.1 ho (fun e=>e),h.2⟩
theorem ZBl.lt(h:ZBl t cs X W N):N<W.heap.size:=Blk.lt h.1
theorem ZBl.ne1(h:ZBl t cs X W N):(N=W.heap.size)=False:=eq_false (by have:=h.lt;omega)
theorem ZBl.ne2(h:ZBl t cs X W N):(W.heap.size=N)=False:=eq_false (by have:=h.lt;omega)
theorem ZBl.keep(h:ZBl t cs X W N)(ho:Only Ωa X W)(vs:List Value):Only Ωa X (W.setCells N 0 vs):=Ωb ho N 0 (.inr h.2) vs
end
structure Ωm6(t:TypeId)(cs:Array Value)(X:World):Prop where
 z1:∀W,Only Ωa X W→ZBl t cs X (W.alloc (.cells cs t)) W.heap.size
 z11:∀W o,Only Ωa X W→ZBl t cs X ((W.alloc (.cells cs t)).alloc o) W.heap.size
 z12:∀W o,Only Ωa X W→ZBl t cs X ((W.alloc o).alloc (.cells cs t)) (W.heap.size+1)
 z2:∀W o N,ZBl t cs X W N→ZBl t cs X (W.alloc o) N
 n1:∀W N,ZBl t cs X W N→(N=W.heap.size)=False
 n2:∀W N,ZBl t cs X W N→(W.heap.size=N)=False
 k1:∀W N vs,ZBl t cs X W N→Only Ωa X W→Only Ωa X (W.setCells N 0 vs)
 k2:∀W N M vs us,ZBl t cs X W N→ZBl t cs X W M→Only Ωa X W→M≠N→Only Ωa X ((W.setCells N 0 vs).setCells M 0 us)
 a1:∀(W:World) o,Only Ωa X W→Only Ωa X (W.alloc o)
 a2:∀(W:World) o o',Only Ωa X W→Only Ωa X ((W.alloc o).alloc o')
theorem Ωm6.all(t:TypeId)(cs:Array Value)(X:World):Ωm6 t cs X:=
 ⟨fun _ h=> .new h,fun _ o h=>(ZBl.new h).alloc o,fun W o h=>(by have:=ZBl.new (t:=t) (cs:=cs) (h.alloc o);rwa [Ωnw] at this),fun _ o _ h=>h.alloc o,fun _ _ h=>h.ne1,fun _ _ h=>h.ne2,fun _ _ vs h ho=>h.keep ho vs,fun _ _ _ vs us h h' ho hne=>(h'.set hne vs).keep (h.keep ho vs) us,fun _ o h=>h.alloc o,fun _ o o' h=>(h.alloc o).alloc o'⟩
end
section
open Go.RowKit Go.Shelf
def clBd(parts:Array (Nat×Value)):Sem Value:=Instr.build 81 parts
theorem clBd_eq(parts:Array (Nat×Value)):Instr.build 81 parts=clBd parts:=rfl
theorem clBd_run(wh:Int)(b:Bd)(A:Option Addr)(rA:Option Addr)(rn rc:Nat)(W:World)(_hp:b.pc.length=0):(clBd #[(0,.int .i64 wh),(1,.agg (Ωae b A none 1 0)),(4,.slice rA rn rc)]).run Tryz.prog W= .ok (.agg (clL wh b A 1 Ωam (.slice none 0 0) (.slice rA rn rc)).toArray) W:=
 run_build (P:=Tryz.prog) W 81 _ _ (by kernel_rfl)
attribute [local go_sem ↓ high] Ωej Ω2 Ωbd Ωg7 Ωfn ΩiE clBd_eq
structure MkW(w:World)(B:Nat)(d:Wd)(kA:Option Addr)(kc:Nat)(a:Ac)(W:World):Prop where
 wd:Blk W B tWd (wdC d kA kc)
 ac:Blk W (B+1) tAc (acC a)
 res:Blk W (B+2) tCl cl0.toArray
 only:Only Ωa w W
theorem MkW.keep{w:World}{B:Nat}{d:Wd}{kA:Option Addr}{kc:Nat}{a:Ac}{W W' :World}(h:MkW w B d kA kc a W)(ho:Only Ωa W W'):MkW w B d kA kc a W' :=
 ⟨h.wd.only ho (fun e=>e),h.ac.only ho (fun e=>e),h.res.only ho (fun e=>e),h.only.trans ho⟩
structure MkT(w:World)(B:Nat)(d:Wd)(kA:Option Addr)(kc:Nat)(a:Ac)(eA:Option Addr)(ec:Nat)(lA:Option Addr)(lc n:Nat)(W:World):Prop where
 arg:MkW w B d kA kc a W
 ev:EvSl W (.slice eA n ec) (evsW d a.second)
 l:StSl W (.slice lA n lc) (lvW d a.second)
theorem MkT.keep{w:World}{B:Nat}{d:Wd}{kA:Option Addr}{kc:Nat}{a:Ac}{eA:Option Addr}{ec:Nat}{lA:Option Addr}{lc n:Nat}{W W' :World}(h:MkT w B d kA kc a eA ec lA lc n W)(ho:Only Ωa W W'):MkT w B d kA kc a eA ec lA lc n W' :=
 ⟨h.arg.keep ho,h.ev.only ho,h.l.only ho⟩
structure MkV(w X:World)(N G:Nat)(wh:Int)(b:Bd)(e:Ev)(gv rv:Value)(L:List Vt)(W:World):Prop where
 only:Only Ωa X W
 nx:X.heap.size≤N
 cl:ClB W N wh b (some ⟨G,0,none⟩) 1 e gv rv
 lo:w.heap.size≤G
 com:Blk W G 3 #[.int .i64 4]
 own:ΩH W w.heap.size rv L.length L
 ok:e.prev.length=32
section
variable {w X:World} {N G:Nat} {wh:Int} {b:Bd} {e e' :Ev} {gv gv' rv:Value} {L:List Vt} {W W' :World}
theorem MkV.keep(h:MkV w X N G wh b e gv rv L W)(ho:Only Ωa W W'):MkV w X N G wh b e gv rv L W' :=
 ⟨h.only.trans ho,h.nx,h.cl.only ho (fun e=>e),h.lo,h.com.only ho (fun e=>e),Ωe h.own ho (fun _ _ e=>e),h.ok⟩
theorem MkV.put(h:MkV w X N G wh b e gv rv L W)(ho:Only (fun k=>k=N) W W')(hc:ClB W' N wh b (some ⟨G,0,none⟩) 1 e' gv' rv)(hk:e'.prev.length=32):MkV w X N G wh b e' gv' rv L W' :=
 ⟨h.only.trans' ho (fun k hk e=>by have:=h.nx;omega),h.nx,hc,h.lo,h.com.only ho (fun e=>Blk.ne_ h.com h.cl (by decide) e),Ωe h.own ho (fun k hk e=>Ωi h.own h.cl (by decide) (by rw[hk,e])),hk⟩
theorem MkV.made{cs:List Value}(ho:Only Ωa X W)(hz:ZBl tCl cl0.toArray X W N)(hlo:w.heap.size≤G)(hcom:Blk W G 3 #[.int .i64 4])(hown:ΩH W w.heap.size rv L.length L)(hcs:cs=clL wh b (some ⟨G,0,none⟩) 1 Ωam (.slice none 0 0) rv):MkV w X N G wh b Ωam (.slice none 0 0) rv L (W.setCells N 0 cs):=by
 subst hcs
 have h1:Only (fun k=>k=N) W (W.setCells N 0 (clL wh b (some ⟨G,0,none⟩) 1 Ωam (.slice none 0 0) rv)):=Ωb (S:=fun k=>k=N) (Only.refl _ _) N 0 (.inl rfl) _
 exact⟨Ωb ho N 0 (.inr hz.2) _,hz.2,Ωg5 hz.1 Ωfo rfl,hlo,hcom.only h1 (fun e=>Blk.ne_ hcom hz.1 (by decide) e),Ωe hown h1 (fun k hk e=>Ωi hown hz.1 (by decide) (by rw[hk,e])),rfl⟩
structure MkG(w X:World)(N G:Nat)(wh:Int)(b:Bd)(e:Ev)(gv rv:Value)(L:List Vt)(Q:List Hs)(W:World):Prop where
 v:MkV w X N G wh b e gv rv L W
 pf:ΩO W w.heap.size gv Q.length Q
theorem MkG.put{Q:List Hs}(h:MkG w X N G wh b e gv rv L Q W)(ho:Only (fun k=>k=N) W W')(hc:ClB W' N wh b (some ⟨G,0,none⟩) 1 e' gv rv)(hk:e'.prev.length=32):MkG w X N G wh b e' gv rv L Q W' :=
 ⟨h.v.put ho hc hk,Ωe h.pf ho (fun k hk e=>Ωi h.pf h.v.cl (by decide) (by rw[hk,e]))⟩
theorem MkV.proof{Q:List Hs}(h:MkV w X N G wh b e gv rv L W)(hp:ΩO W w.heap.size gv' Q.length Q):MkG w X N G wh b e gv' rv L Q (W.setCell ⟨N,52,none⟩ gv'):=by
 have h1:Only (fun k=>k=N) W (W.setCell ⟨N,52,none⟩ gv'):=(Only.refl (fun k=>k=N) W).setCell (p:=⟨N,52,none⟩) (.inl rfl) _
 exact⟨h.put h1 (cl_put_proof h.cl h.ok gv') h.ok,Ωe hp h1 (fun k hk e=>Ωi hp h.cl (by decide) (by rw[hk,e]))⟩
end
def slSt(p v:Value):Sem Unit:=Instr.storeAt 59 p v
theorem slSt_eq(p v:Value):Instr.storeAt 59 p v=slSt p v:=rfl
theorem Ωh4{w X:World}{N G:Nat}{wh:Int}{b:Bd}{e:Ev}{gv rv:Value}{L:List Vt}{W:World}(h:MkV w X N G wh b e gv rv L W)(A:Option Addr)(n c:Nat):(slSt (.pointer (some ⟨N,52,none⟩)) (.slice A n c)).run Tryz.prog W= .ok () (W.setCell ⟨N,52,none⟩ (.slice A n c)):=
 run_storeAt_mid (P:=Tryz.prog) W N 52 59 #[.slice A n c] (h.cl.there 52 1 (by simp[ΩcU h.ok])) (by kernel_rfl) (all_oneCell_toArray (cs:=[.slice A n c]) (fun v hv=>by rw[Ωou.1 hv];rfl))
theorem zb_cl{X:World}{wh:Int}{b:Bd}{A:Option Addr}{rA:Option Addr}{rn rc:Nat}(W:World)(N:Nat)(hz:ZBl tCl cl0.toArray X W N):(Ωg6 (.pointer (some ⟨N,0,none⟩)) (.agg (clL wh b A 1 Ωam (.slice none 0 0) (.slice rA rn rc)).toArray)).run Tryz.prog W= .ok () (W.setCells N 0 (clL wh b A 1 Ωam (.slice none 0 0) (.slice rA rn rc))):=ΩiC hz.1 Ωfo rfl rfl rfl
attribute [local go_sem ↓ high] slSt_eq
theorem Ωgu(d:Wd)(a:Ac):HsOk (Ωcc d a):=by
 unfold Ωcc
 simp only
 split
 ·exact growL_ok _ _
 ·split
  ·exact fun _ h=>by cases h
  ·split
   ·exact fun h hh=>Ωey _ _ _ h (List.mem_reverse.1 hh)
   ·exact fun _ h=>by cases h
theorem Ωhy(d:Wd)(a:Ac):(Ωcc d a).length≤1000:=by
 have h0:=ΩlT d a.second
 have h1:=Ωod a.size (show(0:Int)<((lvW d a.second).length :Int)+1 by omega)
 unfold Ωcc
 simp only
 split
 ·have h2:=growL_len (txs ((lvW d a.second).take (a.size%(((lvW d a.second).length :Int)+1)).toNat)) (a.from_%(((a.size%(((lvW d a.second).length :Int)+1)).toNat :Int)+1)).toNat
  rw[Ωb0,ΩnB] at h2
  omega
 ·split
  ·exact Ωoh _
  ·split
   ·rw[Ωog]
    have h2:=Ωdd (a.size%(((lvW d a.second).length :Int)+1)).toNat (txs ((lvW d a.second).take (a.size%(((lvW d a.second).length :Int)+1)).toNat)) (a.n%((lvW d a.second).length :Int)).toNat
    omega
   ·exact Ωoh _
theorem wmake_any(d:Wd)(hd:d.Ok)(a:Ac)(ha:a.Ok)(kA:Option Addr)(kc:Nat)(w:World)(hkd:KdAt w kA d.kinds)(hkl:d.kinds.length≤1000000000)(ht:Tab w):
  Calls Tryz.prog 23 #[.agg (wdC d kA kc),.agg (acC a)] w fun e' w' =>∃(G:Nat) (gv rv:Value),e' = .returned (.agg (clL (ΩeB d a).what (ΩeB d a).bid (some ⟨G,0,none⟩) 1 (ΩeB d a).ev gv rv).toArray)∧w.heap.size≤G∧Blk w' G 3 #[.int .i64 4]∧ΩO w' w.heap.size gv (ΩeB d a).proof.length (ΩeB d a).proof∧ΩH w' w.heap.size rv (ΩeB d a).votes.length (ΩeB d a).votes∧Only Ωa w w' :=by
 obtain⟨B,eB⟩:∃B,B=w.heap.size:=⟨_,rfl⟩
 have hA0:MkW w B d kA kc a (((w.alloc (.cells (wdC d kA kc) tWd)).alloc (.cells (acC a) tAc)).alloc (.cells cl0.toArray tCl)):=by
  have h1:=(Blk.new (w.alloc (.cells (wdC d kA kc) tWd)) tAc (acC a)).alloc (.cells cl0.toArray tCl)
  have h2:=Blk.new ((w.alloc (.cells (wdC d kA kc) tWd)).alloc (.cells (acC a) tAc)) tCl cl0.toArray
  rw[Ωnw] at h1
  rw[Ωnw,Ωnw] at h2
  rw[eB]
  exact⟨((Blk.new w _ _).alloc _).alloc _,h1,h2,(((Only.refl _ _).alloc _).alloc _).alloc _⟩
 obtain⟨WV,eWV⟩:∃v:Array Value,v=wdC d kA kc:=⟨_,rfl⟩
 obtain⟨n,en⟩:∃n,n=(lvW d a.second).length :=⟨_,rfl⟩
 have hn:n≤12:=by rw[en];exact ΩlT d a.second
 have eev:(evsW d a.second).length =n:=by rw[en,ΩjV]
 have hevs:∀W,MkW w B d kA kc a W→Calls Tryz.prog 13 #[.agg WV,.bool a.second] W fun e' w' =>∃A cap,e' = .returned (.slice A n cap)∧EvSl w' (.slice A n cap) (evsW d a.second)∧Only Ωa W w' :=fun W h=>by
  rw[eWV]
  exact(wevents_any d hd a.second kA kc W (hkd.none_ h.only) hkl (ht.none h.only)).mono (fun e' w' ⟨rv,h1,h2,h3⟩=>by
   have h4:=h2.sl (fun e he=>(Ωfk he).1.prev)
   obtain⟨A,cap,rfl,h5⟩:=id h4
   rw[eev] at h1 h4
   exact⟨A,cap,h1,h4,h3⟩)
 have hlvs:∀W rv,EvSl W rv (evsW d a.second)→Calls Tryz.prog 12 #[rv] W fun e' w' =>∃A cap,e' = .returned (.slice A n cap)∧StSl w' (.slice A n cap) (lvW d a.second)∧n≤cap∧Only Ωa W w' :=fun W rv h=>
  (rleaves_any (evsW d a.second) (fun e he=>Ωfk he) (by have:=Ωl9 d a.second;omega) rv W h).mono (fun e' w' ⟨lv,h1,h2,h3⟩=>by
   rw[eev] at h2
   obtain⟨A,cap,rfl,h4,h5⟩:=Ωt h2
   have h6:Ωlk w' W.heap.size (.slice A n cap) (lvW d a.second).length (lvW d a.second):=by rw[←en];exact h2
   exact⟨A,cap,h1,h6.sl,h4,h3⟩)
 obtain⟨sz,esz⟩:∃s:Nat,s=(a.size%((n:Int)+1)).toNat :=⟨_,rfl⟩
 have hsz0:a.size%((n:Int)+1)=(sz:Int):=by
  have:=Ωoo a.size (show((n:Int)+1)≠0 by omega)
  omega
 have hszn:sz≤n:=by
  have:=Ωod a.size (show(0:Int)<(n:Int)+1 by omega)
  omega
 obtain⟨wh,ewh⟩:∃m:Nat,m=(a.what%6).toNat :=⟨_,rfl⟩
 have hwh0:a.what%6=(wh:Int):=by omega
 have hwh:wh<6:=by omega
 obtain⟨b,eb⟩:∃b,b=bidW a.n:=⟨_,rfl⟩
 obtain⟨hh,ehh⟩:∃h,h=hdOf ((lvW d a.second).take sz):=⟨_,rfl⟩
 have hok:hh.Ok:=by rw[ehh];exact ΩgJ (by rw[ΩnB];omega)
 have m1:∀W,Calls Tryz.prog 16 #[.int .i64 a.size,.int .i64 ((n:Int)+1)] W fun e w' =>e= .returned (.int .i64 (sz:Int))∧w' =W:=fun W=>by rw[←hsz0];exact Ωcs _ _ ha.size (by omega) (by omega) W
 have m2:∀W,Calls Tryz.prog 16 #[.int .i64 a.what,.int .i64 6] W fun e w' =>e= .returned (.int .i64 (wh:Int))∧w' =W:=fun W=>by rw[←hwh0];exact Ωcs _ _ ha.what (by omega) (by omega) W
 have hbid:∀W,Calls Tryz.prog 31 #[.int .i64 a.n] W fun e w' =>∃g,e= .returned (.agg (Ωae b (some ⟨g,0,none⟩) none 1 0))∧W.heap.size≤g∧Blk w' g 3 #[.int .i64 4]∧Only Ωa W w' :=fun W=>by rw[eb];exact rbid31_own a.n ha.n W
 have HA0:=Θ hA0
 have EB:=Θ eB
 have EWV:=Θ eWV
 have EN:=Θ en
 have HEVS:=Θ hevs
 have HLVS:=Θ hlvs
 have ESZ:=Θ esz
 have EWH:=Θ hwh0
 have EBB:=Θ eb
 have EHH:=Θ ehh
 have HOK:=Θ hok
 have M1:=Θ m1
 have M2:=Θ m2
 have HB:=Θ hbid
 have HEV:=Θ eev
 have hn1:IntKind.i64.wrap ((n:Int)+1)=(n:Int)+1:=ΩnH _ (by omega)
 have HKD:=Θ hkd
 have HT:=Θ ht
 clear hA0 eB eWV en hevs hlvs esz hsz0 ewh hwh0 eb ehh hok m1 m2 hbid eev hkd ht
 go_enter Tryz.func23,Tryz.ntmps23
 have hnw:=Ωjy
 go_upto_region 1 with(fail)
 rw[←EB.out]
 refine Ωf (MkW w B d kA kc a) HA0.out ?_
 clear HA0
 intro Z hZ
 have l1:=ΩcE hZ.wd
 rw[←EWV.out] at l1
 have c4:=hZ.ac.cell 4
 simp only[ΩnC,ΩnF,ΩnK] at c4
 have HZ:=Θ hZ
 clear hZ
 go_wp2_with fail
 refine(HEVS.out _ HZ.out).mono ?_
 rintro e1 w1 ⟨eA,ec,rfl,he1,ho1⟩
 have H1:=Θ (And.intro he1 (HZ.out.keep ho1))
 clear he1 ho1 l1 c4 HZ
 go_wp2_with fail
 refine(HLVS.out _ _ H1.out.1).mono ?_
 rintro e2 w2 ⟨lA,lc,rfl,hl2,hlc,ho2⟩
 have h2:MkT w B d kA kc a eA ec lA lc n w2:=⟨H1.out.2.keep ho2,H1.out.1.only ho2,hl2⟩
 have c2:=h2.arg.ac.cell 2
 simp only[ΩnC,ΩnF,ΩnK] at c2
 have H2:=Θ h2
 clear hl2 ho2 H1 h2
 go_wp2_with fail
 refine(M1.out _).mono ?_
 rintro e3 w3 ⟨rfl,rfl⟩
 clear c2
 go_upto_region 4 with(fail)
 have hbp:b.pc.length=0:=by rw[EBB.out];rfl
 obtain⟨X,eX⟩:∃X:World,X=w3:=⟨_,rfl⟩
 rw[←eX] at H2⊢
 clear eX
 have hS0:Only Ωa X X:=Only.refl _ _
 have hS1:Only Ωa X X.drew:=(Only.refl _ _).drew
 have hld:∀W,Only Ωa X W→(ΩiL (.pointer (some ⟨B,0,none⟩))).run Tryz.prog W= .ok (.agg WV) W:=fun W h=>by rw[EWV.out];exact ΩcE (H2.out.arg.keep h).wd
 have c0:∀W,Only Ωa X W→W.cell? ⟨B+1,0,none⟩=some (.int .i64 a.what):=fun W h=>(H2.out.arg.keep h).ac.cell 0
 have c1:∀W,Only Ωa X W→W.cell? ⟨B+1,1,none⟩=some (.int .i64 a.n):=fun W h=>(H2.out.arg.keep h).ac.cell 1
 have c5:∀W,Only Ωa X W→W.cell? ⟨B+1,5,none⟩=some (.int .u16 (a.bits:Int)):=fun W h=>(H2.out.arg.keep h).ac.cell 5
 have c6:∀W,Only Ωa X W→W.cell? ⟨B+1,6,none⟩=some (.int .u16 (a.wrong:Int)):=fun W h=>(H2.out.arg.keep h).ac.cell 6
 have k5:∀W,Only Ωa X W→Calls Tryz.prog 15 #[.slice lA sz lc] W fun e' w' =>e' = .returned (.agg (hdC hh).toArray)∧Only Ωa W w' :=fun W h=>by
  have h1:=(H2.out.keep h).l.first (k:=sz) (by rw[←EN.out];exact hszn)
  rw[EHH.out]
  exact ΩcM _ (by rw[ΩnB];omega) (Ωe3 (Ωgz d a.second) sz) _ W h1
 obtain⟨vl,evl⟩:∃n,n=(Ω7 d hh a.bits a.wrong).length :=⟨_,rfl⟩
 have k6:∀W,Only Ωa X W→Calls Tryz.prog 14 #[.agg WV,.agg (hdC hh).toArray,.int .u16 (a.bits:Int),.int .u16 (a.wrong:Int)] W fun e' w' =>∃A cap,e' = .returned (.slice A vl cap)∧ΩH w' w.heap.size (.slice A vl cap) vl (Ω7 d hh a.bits a.wrong)∧Only Ωa W w' :=fun W h=>by
  rw[EWV.out]
  exact(ΩeZ d hd hh HOK.out a.bits a.wrong ha.bits ha.wrong kA kc W).mono (fun e w' ⟨rv,g1,g2,g3⟩=>by
   obtain⟨A,cap,rfl,_⟩:=Ωt g2
   rw[←evl] at g1 g2
   exact⟨A,cap,g1,ΩE g2 (H2.out.arg.only.trans h).size,g3⟩)
 have HAL:Hid (∀W o,Only Ωa X W→Only Ωa X (W.alloc o)):=Θ (fun W o h=>h.alloc _)
 have HALD:Hid (∀(W:World) o,Only Ωa X W.drew→Only Ωa X (W.alloc o).drew):=Θ (fun W o h=>Only.alloc h o)
 have HSW:Hid (∀W,Only Ωa X W→w.heap.size≤W.heap.size):=Θ (fun W h=>(H2.out.arg.only.trans h).size)
 have z1:∀W,Only Ωa X W→ZBl tCl cl0.toArray X (W.alloc (.cells cl0.toArray tCl)) W.heap.size:=fun W h=>ZBl.new h
 have k1:∀(W:World) N vs,ZBl tCl cl0.toArray X W N→Only Ωa X W→Only Ωa X (W.setCells N 0 vs):=fun W N vs hz ho=>ZBl.keep hz ho vs
 have a1:∀(W:World) o,Only Ωa X W→Only Ωa X (W.alloc o):=fun W o h=>h.alloc o
 have zd:ZBl tCl cl0.toArray X (X.alloc (.cells cl0.toArray tCl)).drew X.heap.size:=ZBl.newd hS0
 have zs:=fun(W:World) N A rA rn rc=>zb_cl (X:=X) (wh:=(wh:Int)) (b:=b) (A:=A) (rA:=rA) (rn:=rn) (rc:=rc) W N
 have hbr:=fun(A rA:Option Addr) (rn rc:Nat) (W:World)=>clBd_run (wh:Int) b A rA rn rc W hbp
 have K5:=Θ k5
 have K6:=Θ k6
 have EVL:=Θ evl
 have iz0:(0:Int)≤(sz:Int):=by omega
 have iz1:(sz:Int)≤(lc:Int):=by omega
 clear k5 k6 evl hbp
 go_cut [8] (fun p wx=>∃N G rv,p= .pointer (some ⟨N,0,none⟩)∧MkV w X N G wh b Ωam (.slice none 0 0) rv (Ω7 d hh a.bits a.wrong) wx)
 case first=>
  go_region_held3 (fun W=>Only Ωa X W) (first|(with_reducible assumption)|(with_reducible exact HAL.out _ _ (by with_reducible assumption))|(with_reducible exact HALD.out _ _ (by with_reducible assumption))|(simp[*]))
   (first
    |(go_at_call 16;(with_reducible refine(M2.out _).mono ?_);rintro e6 w6 ⟨rfl,rfl⟩)
    |(go_at_call 31;(with_reducible refine(HB.out _).mono ?_);rintro e7 w7 ⟨G,rfl,hG,hb7,ho7⟩;have hGw:=Ωnz (HSW.out _ (by with_reducible first|assumption|exact HALD.out _ _ (by with_reducible assumption))) hG;clear hG;have hS7:=Only.trans (by with_reducible first|assumption|exact HALD.out _ _ (by with_reducible assumption)) ho7;(try(have y1:ZBl tCl cl0.toArray X w7 X.heap.size:=ZBl.step zd ho7));clear ho7)
    |(go_at_call 15;(with_reducible refine(K5.out _ (by with_reducible first|assumption|exact HAL.out _ _ (by with_reducible assumption))).mono ?_);rintro e8 w8 ⟨rfl,ho8⟩;have hS8:=Only.trans (by with_reducible first|assumption|exact HAL.out _ _ (by with_reducible assumption)) ho8;(try(have y2:ZBl tCl cl0.toArray X w8 X.heap.size:=ZBl.step y1 ho8));(try(have y3:ZBl tCl cl0.toArray X w8 w7.heap.size:=ZBl.step (z1 w7 hS7) ho8));have hb8:=Blk.only (by first|exact hb7|exact hb7.alloc _) ho8 (fun e=>e);clear ho8)
    |(go_at_call 14;(with_reducible refine(K6.out _ (by with_reducible first|assumption|exact HAL.out _ _ (by with_reducible assumption))).mono ?_);rintro e9 w9 ⟨rA,rc,rfl,hv9,ho9⟩;have hS9:=Only.trans (by with_reducible first|assumption|exact HAL.out _ _ (by with_reducible assumption)) ho9;(try(have y4:ZBl tCl cl0.toArray X w9 X.heap.size:=ZBl.step y2 ho9));(try(have y5:ZBl tCl cl0.toArray X w9 w7.heap.size:=ZBl.step y3 ho9));(try(have y6:ZBl tCl cl0.toArray X w9 w8.heap.size:=ZBl.step (z1 w8 hS8) ho9));have hb9:=Blk.only (by first|exact hb8|exact hb8.alloc _) ho9 (fun e=>e);clear ho9))
  all_goals
   clear hnw zs c0 c1 c5 c6 hld hbr
   go_wp2_with fail
   go_meet
   case rel=>exact⟨_,_,_,rfl,MkV.made (by simp[*]) (by simp[*]) hGw (by first|exact hb9|exact hb9.alloc _) (by rw[EVL.out] at hv9⊢;first|exact hv9|exact World.ownsRow.alloc hv9 _) rfl⟩
 case rest=>
 obtain⟨N,G,rv,rfl,hV⟩:=hcut
 obtain⟨L,eL⟩:∃L,L=Ω7 d hh a.bits a.wrong:=⟨_,rfl⟩
 rw[←eL] at hV
 have HV:=Θ hV
 have EL:=Θ eL
 clear eL hS0 hS1 hld c0 c1 c5 c6 HAL HALD HSW z1 k1 a1 zd zs hbr K5 K6 hnw
 have d0:=ΩiB hV.cl
 have hwi:(wh:Int)<4↔wh<4:=by omega
 clear hV
 obtain⟨fm,efm⟩:∃f:Nat,f=(a.from_%((sz:Int)+1)).toNat :=⟨_,rfl⟩
 have hfm0:a.from_%((sz:Int)+1)=(fm:Int):=by
  have:=Ωoo a.from_ (show((sz:Int)+1)≠0 by omega)
  omega
 have hfms:fm≤sz:=by
  have:=Ωod a.from_ (show(0:Int)<(sz:Int)+1 by omega)
  omega
 obtain⟨Q1,eQ1⟩:∃Q:List Hs,Q=if wh<4 then ΩbC (txs ((lvW d a.second).take sz)) fm else []:=⟨_,rfl⟩
 have m3:∀W,Calls Tryz.prog 16 #[.int .i64 a.from_,.int .i64 ((sz:Int)+1)] W fun e w' =>e= .returned (.int .i64 (fm:Int))∧w' =W:=fun W=>by rw[←hfm0];exact Ωcs _ _ ha.from_ (by omega) (by omega) W
 have grw:wh<4→∀W,Only Ωa X W→Calls Tryz.prog 21 #[.slice lA sz lc,.int .i64 (fm:Int)] W fun e w' =>∃A cap,e= .returned (.tuple #[.slice A Q1.length cap,.bool true])∧ΩO w' w.heap.size (.slice A Q1.length cap) Q1.length Q1∧Only Ωa W w' :=fun h4 W h=>by
  have h1:=(H2.out.keep h).l.first (k:=sz) (by rw[←EN.out];exact hszn)
  rw[ΩnV h4] at eQ1
  refine(Ωgp _ fm (by rw[ΩnB,←EN.out];omega) (by rw[ΩnB];omega) (Ωe3 (Ωgz d a.second) sz) _ W h1).mono ?_
  rintro e w' ⟨gv,g1,g2,g3⟩
  rw[←eQ1] at g2
  obtain⟨A,cap,rfl,_⟩:=Ωt g2
  exact⟨A,cap,g1,ΩE g2 (H2.out.arg.only.trans h).size,g3⟩
 have EQ1:=Θ eQ1
 have EFM:=Θ efm
 have M3:=Θ m3
 have GRW:=Θ grw
 have HXC:Hid (∀W v,Only Ωa X W→Only Ωa X (W.setCell ⟨N,52,none⟩ v)):=Θ (fun W v h=>h.setCell (p:=⟨N,52,none⟩) (.inr HV.out.nx) v)
 have hs1:IntKind.i64.wrap ((sz:Int)+1)=(sz:Int)+1:=ΩnH _ (by omega)
 clear eQ1 efm hfm0 m3 grw
 go_upto_if 41 with(fail)
 go_cut [] (fun wx=>∃gv,MkG w X N G wh b Ωam gv rv L Q1 wx)
 case first=>
  by_cases h4:wh<4
  ·have dd:decide ((wh:Int)<4)=true:=ΩnG (by omega)
   go_upto_region 6 with(fail)
   have hS0:Only Ωa X wc:=HV.out.only
   have hS1:Only Ωa X wc.drew:=HV.out.only.drew
   have c3:∀W,Only Ωa X W→W.cell? ⟨B+1,3,none⟩=some (.int .i64 a.from_):=fun W h=>(H2.out.arg.keep h).ac.cell 3
   have hst:∀W A n c,MkV w X N G wh b Ωam (.slice none 0 0) rv L W→(slSt (.pointer (some ⟨N,52,none⟩)) (.slice A n c)).run Tryz.prog W= .ok () (W.setCell ⟨N,52,none⟩ (.slice A n c)):=fun W A n c h=>Ωh4 h A n c
   have G4:=Θ (GRW.out h4)
   clear d0 hwi
   go_region_held3 (fun W=>Only Ωa X W) (first|(with_reducible assumption)|(with_reducible exact HXC.out _ _ (by with_reducible assumption))|(simp[*]))
    (first
     |(go_at_call 16;(with_reducible refine(M3.out _).mono ?_);rintro e6 w6 ⟨rfl,rfl⟩)
     |(go_at_call 21;(with_reducible refine(G4.out _ (by with_reducible assumption)).mono ?_);rintro e7 w7 ⟨gA,gc,rfl,hq7,ho7⟩;have hV7:=MkV.keep (MkV.keep HV.out (Only.refl Ωa _).drew) ho7;have hS7:=hV7.only;clear ho7))
   all_goals
    clear hst c3
    go_wp2_with fail
    go_meet
    case rel=>exact⟨_,MkV.proof hV7 hq7⟩
  ·have dd:decide ((wh:Int)<4)=false:=Ωny (by omega)
   have hG:MkG w X N G wh b Ωam (.slice none 0 0) rv L Q1 wc:=⟨HV.out,by rw[EQ1.out,ΩnU h4];exact ΩO.nil _ _⟩
   have HG:=Θ hG
   clear hG hwi
   go_wp2_with fail
   go_meet
   case rel=>exact⟨_,HG.out⟩
 case rest=>
 obtain⟨gv1,hG1⟩:=hcut
 have d0:=ΩiB hG1.v.cl
 have HG1:=Θ hG1
 clear hG1 HV M3 GRW
 obtain⟨E,eE⟩:∃E,E=Ωfw d a:=⟨_,rfl⟩
 obtain⟨P,eP⟩:∃P,P=Ωcc d a:=⟨_,rfl⟩
 have EE:=Θ eE
 have EP:=Θ eP
 clear eE eP
 obtain⟨cb,ecb⟩:∃c:Bool,c=decide (4≤wh∧n≠0):=⟨_,rfl⟩
 go_upto_region 7 with(fail)
 go_cut [62] (fun c wx=>c= .bool cb∧MkG w X N G wh b Ωam gv1 rv L Q1 wx)
 case first=>
  by_cases h4:wh<4
  ·have dd:decide ((4:Int)≤(wh:Int))=false:=Ωny (by omega)
   have hc:cb=false:=by rw[ecb];exact Ωny (by omega)
   clear hwi ecb
   go_wp2_with fail
   go_meet
   case rel=>exact⟨by rw[hc],HG1.out⟩
  ·have dd:decide ((4:Int)≤(wh:Int))=true:=ΩnG (by omega)
   by_cases hn0:n=0
   ·have d2:decide ((0:Int)<(n:Int))=false:=Ωny (by omega)
    have d3:decide (0<n)=false:=Ωny (by omega)
    have hc:cb=false:=by rw[ecb];exact Ωny (by omega)
    clear hwi ecb hn0
    go_wp2_with fail
    go_meet
    case rel=>exact⟨by rw[hc],HG1.out⟩
   ·have d2:decide ((0:Int)<(n:Int))=true:=ΩnG (by omega)
    have d3:decide (0<n)=true:=ΩnG (by omega)
    have hc:cb=true:=by rw[ecb];exact ΩnG (by omega)
    clear hwi ecb hn0
    go_wp2_with fail
    go_meet
    case rel=>exact⟨by rw[hc],HG1.out⟩
 case rest=>
 obtain⟨rfl,hG1⟩:=hcut
 have HG1:=Θ hG1
 clear hG1 d0
 go_upto_if 62 with(fail)
 go_cut [] (fun wx=>∃gv,MkG w X N G wh b E gv rv L P wx)
 case first=>
  by_cases hc:4≤wh∧n≠0
  ·have hc1:cb=true:=by rw[ecb];exact ΩnG hc
   obtain⟨h4,hn0⟩:=hc
   clear ecb hwi
   subst hc1
   obtain⟨m,em⟩:∃m:Nat,m=(a.n%(n:Int)).toNat :=⟨_,rfl⟩
   have hm0:a.n%(n:Int)=(m:Int):=by
    have:=Ωoo a.n (show(n:Int)≠0 by omega)
    omega
   have hmn:m<n:=by
    have:=Ωod a.n (show(0:Int)<(n:Int) by omega)
    omega
   obtain⟨e0,he0⟩:∃e,(evsW d a.second)[m]? =some e:=⟨_,Ωnu (by rw[HEV.out];exact hmn)⟩
   have heo:=(Ωfk (ΩnE he0)).1.prev
   have hts:=(Ωfk (ΩnE he0)).2.2
   have L1:(⟨#[32]⟩:ByteArray).size =1:=rfl
   obtain⟨Q2,eQ2⟩:∃Q:List Hs,Q=if m<sz then(Ωch sz (txs ((lvW d a.second).take sz)) m).reverse else []:=⟨_,rfl⟩
   have hP:P=Q2:=by
    rw[EP.out,eQ2]
    unfold Ωcc
    simp only[EWH.out,←EN.out]
    rw[ΩnU (by omega),ΩnU hn0,←em,←ESZ.out]
   have hE:E=if a.n.tmod 7=6 then {e0 with text:=e0.text++⟨#[32]⟩} else e0:=by
    rw[EE.out]
    unfold Ωfw
    rw[ΩnU (by rw[EWH.out,←EN.out];omega),←EN.out,←em,he0]
    rfl
   have m4:∀W,Calls Tryz.prog 16 #[.int .i64 a.n,.int .i64 (n:Int)] W fun e w' =>e= .returned (.int .i64 (m:Int))∧w' =W:=fun W=>by rw[←hm0];exact Ωcs _ _ ha.n (by omega) (by omega) W
   have pth:∀W,Only Ωa X W→Calls Tryz.prog 29 #[.slice lA sz lc,.int .i64 (m:Int)] W fun e w' =>∃A cap ok,e= .returned (.tuple #[.slice A Q2.length cap,.bool ok])∧ΩO w' w.heap.size (.slice A Q2.length cap) Q2.length Q2∧Only Ωa W w' :=fun W h=>by
    have h1:=(H2.out.keep h).l.first (k:=sz) (by rw[←EN.out];exact hszn)
    by_cases hms:m<sz
    ·rw[ΩnV hms] at eQ2
     refine(Ωgm sz _ m (by rw[ΩnB];omega) (by omega) (Ωe3 (Ωgz d a.second) sz) (by rw[ΩnB,←EN.out];omega) _ W h1).mono ?_
     rintro e w' ⟨gv,g1,g2,g3⟩
     have g4:ΩO w' W.heap.size gv Q2.length Q2:=by rw[eQ2,Ωog];exact g2
     obtain⟨A,cap,rfl,_⟩:=Ωt g4
     exact⟨A,cap,true,g1,ΩE g4 (H2.out.arg.only.trans h).size,g3⟩
    ·rw[ΩnU hms] at eQ2
     rw[eQ2]
     exact(rpath_out m sz lc lA (by omega) (by omega) (by omega) W).mono (fun e w' ⟨g1,g2⟩=>⟨none,0,false,g1,ΩO.nil _ _,g2⟩)
   have c1:=(H2.out.arg.keep HG1.out.v.only).ac.cell 1
   simp only[ΩnC,ΩnF,ΩnK] at c1
   have M4:=Θ m4
   have PTH:=Θ pth
   have HE:=Θ hE
   have HP:=Θ hP
   have HEO:=Θ heo
   have HM:=Θ he0
   clear m4 pth hE hP hm0 em eQ2 heo
   go_wp2_with fail
   refine(M4.out _).mono ?_
   rintro e4 w4 ⟨rfl,rfl⟩
   obtain⟨gE,oE,hgE,hrE⟩:∃g o,eA=some ⟨g,o,none⟩∧w4.rangeAt g (o+m*46) (evC e0):=by
    obtain⟨A,cap,e9,_,_,h9⟩:=(H2.out.keep HG1.out.v.only).ev
    cases e9
    obtain⟨g,o,h1,_,h2⟩:=h9 m e0 he0
    exact⟨g,o,h1,h2⟩
   subst hgE
   have hle:=ΩaY hrE HEO.out
   have hse:=cl_store_ev HG1.out.v.cl HG1.out.v.ok HEO.out
   have im:(m:Int)<(n:Int):=by omega
   have im0:(0:Int)≤(m:Int):=by omega
   have h9:MkG w X N G wh b e0 gv1 rv L Q1 (w4.setCells N 6 (evC e0)):=HG1.out.put (Ωb (S:=fun k=>k=N) (Only.refl _ _) N 6 (.inl rfl) _) (cl_put_ev HG1.out.v.cl HG1.out.v.ok HEO.out) HEO.out
   have H9:=Θ h9
   clear h9 hrE he0 c1
   go_upto_region 10 with(fail)
   refine Ωf (MkG w X N G wh b e0 gv1 rv L Q1) H9.out ?_
   clear H9 hle hse
   intro Y hY
   have HY:=Θ hY
   have hst:∀W A n c,MkV w X N G wh b e0 gv1 rv L W→(slSt (.pointer (some ⟨N,52,none⟩)) (.slice A n c)).run Tryz.prog W= .ok () (W.setCell ⟨N,52,none⟩ (.slice A n c)):=fun W A n c h=>Ωh4 h A n c
   have HST:=Θ hst
   clear hY hst
   go_wp2_with fail
   refine(PTH.out _ HY.out.v.only).mono ?_
   rintro e5 w5 ⟨pA,pc,pk,rfl,hp5,ho5⟩
   have h5:=HY.out.v.keep ho5
   have hs5:=HST.out w5 pA Q2.length pc h5
   have h6:=h5.proof hp5
   have c1:=(H2.out.arg.keep h6.v.only).ac.cell 1
   simp only[ΩnC,ΩnF,ΩnK] at c1
   have t1:=cl_text h6.v.cl
   have t2:=h6.v.cl.frozen 15
   have H6:=Θ h6
   have tm0:IntKind.i64.wrap (a.n.tmod 7)=a.n.tmod 7:=ΩnH _ (by
    have h1:=Int.lt_tmod_of_pos a.n (show(0:Int)<7 by omega)
    have h2:=Int.tmod_lt_of_pos a.n (show(0:Int)<7 by omega)
    omega)
   clear h5 h6 hp5 ho5
   by_cases h7:a.n.tmod 7=6
   ·have tm1:(a.n.tmod 7==6)=true:=by rw[beq_iff_eq];exact h7
    have h8:MkG w X N G wh b {e0 with text:=e0.text++⟨#[32]⟩} (.slice pA Q2.length pc) rv L Q2 ((w5.setCell ⟨N,52,none⟩ (.slice pA Q2.length pc)).setCell ⟨N,15,none⟩ (.string (e0.text++⟨#[32]⟩))):=H6.out.put ((Only.refl (fun k=>k=N) _).setCell (p:=⟨N,15,none⟩) (.inl rfl) _) (cl_put_text H6.out.v.cl _) HEO.out
    have hE2:=HE.out
    rw[ΩnV h7] at hE2
    have H8:=Θ h8
    have HE2:=Θ hE2
    clear h8 hE2 h7
    go_wp2_with fail
    go_meet
    case rel=>exact⟨_,by rw[HE2.out,HP.out];exact H8.out⟩
   ·have tm1:(a.n.tmod 7==6)=false:=by rw[ΩnL];exact h7
    have hE2:=HE.out
    rw[ΩnU h7] at hE2
    have HE2:=Θ hE2
    clear hE2 h7
    go_wp2_with fail
    go_meet
    case rel=>exact⟨_,by rw[HE2.out,HP.out];exact H6.out⟩
  ·have hc0:cb=false:=by rw[ecb];exact Ωny hc
   have hE:E=Ωam:=by
    rw[EE.out]
    unfold Ωfw
    rw[ΩnV (by rw[EWH.out,←EN.out];omega)]
   have hP:P=Q1:=by
    rw[EP.out,EQ1.out]
    unfold Ωcc
    simp only[EWH.out,←EN.out]
    by_cases h4:wh<4
    ·rw[ΩnV h4,ΩnV (by omega),EFM.out,ESZ.out]
    ·rw[ΩnU h4,ΩnU (by omega),ΩnV (by omega)]
   clear hwi ecb hc
   subst hc0
   have HEE:=Θ hE
   have HPP:=Θ hP
   clear hE hP
   go_wp2_with fail
   go_meet
   case rel=>exact⟨_,by rw[HEE.out,HPP.out];exact HG1.out⟩
 case rest=>
 obtain⟨gv2,hG2⟩:=hcut
 have b7:=(H2.out.arg.keep hG2.v.only).ac.cell 7
 have b8:=(H2.out.arg.keep hG2.v.only).ac.cell 8
 simp only[ΩnC,ΩnF,ΩnK] at b7 b8
 have HG2:=Θ hG2
 clear hG2 HG1
 obtain⟨P2,eP2⟩:∃Q:List Hs,Q=if 0≤a.b0 then Ωau P a.b0 a.b1 else P:=⟨_,rfl⟩
 have hpok:HsOk P:=by rw[EP.out];exact Ωgu d a
 have hpl:P.length≤1000:=by rw[EP.out];exact Ωhy d a
 have HPO:=Θ hpok
 have HPL:=Θ hpl
 have EP2:=Θ eP2
 clear hpok hpl eP2
 obtain⟨zb,ezb⟩:∃c:Bool,decide (0≤a.b0)=c:=⟨_,rfl⟩
 go_upto_if 95 with(fail)
 go_cut [] (fun wx=>∃gv,MkG w X N G wh b E gv rv L P2 wx)
 case first=>
  obtain⟨g2A,g2c,rfl,_⟩:=Ωt HG2.out.pf
  by_cases h0:0≤a.b0
  ·have hz:zb=true:=by rw[←ezb];exact ΩnG h0
   clear ezb
   subst hz
   have p52:=ΩiD HG2.out.v.cl HG2.out.v.ok
   have hq2:P2=Ωau P a.b0 a.b1:=by rw[EP2.out,ΩnV h0]
   have hsl:=HG2.out.pf.sl HPO.out
   have bnt:∀W,Only Ωa X W→HaSl W (.slice g2A P.length g2c) P→Calls Tryz.prog 52 #[.slice g2A P.length g2c,.agg #[.int .i64 a.b0,.int .i64 a.b1]] W fun e w' =>∃A cap,e= .returned (.slice A P2.length cap)∧ΩO w' w.heap.size (.slice A P2.length cap) P2.length P2∧Only Ωa W w' :=fun W ho h=>by
    refine(bent_any P HPO.out HPL.out _ a.b0 a.b1 ha.b0 ha.b1 W h).mono ?_
    rintro e w' ⟨rv,g1,g2,g3⟩
    rw[←hq2] at g2
    obtain⟨A,cap,rfl,_⟩:=Ωt g2
    exact⟨A,cap,g1,ΩE g2 (H2.out.arg.only.trans ho).size,g3⟩
   have HBN:=Θ bnt
   have HSL:=Θ hsl
   have hst:∀W A n c,MkV w X N G wh b E (.slice g2A P.length g2c) rv L W→(slSt (.pointer (some ⟨N,52,none⟩)) (.slice A n c)).run Tryz.prog W= .ok () (W.setCell ⟨N,52,none⟩ (.slice A n c)):=fun W A n c h=>Ωh4 h A n c
   have HST:=Θ hst
   clear bnt hsl hst hq2 h0
   go_wp2_with fail
   refine(HBN.out _ HG2.out.v.only HSL.out).mono ?_
   rintro e6 w6 ⟨pA,pc,rfl,hp6,ho6⟩
   have h6:=HG2.out.v.keep ho6
   have hs6:=HST.out w6 pA P2.length pc h6
   have h7:=h6.proof hp6
   have H7:=Θ h7
   clear h6 h7 hp6 ho6 p52
   go_wp2_with fail
   go_meet
   case rel=>exact⟨_,H7.out⟩
  ·have hz:zb=false:=by rw[←ezb];exact Ωny h0
   clear ezb
   subst hz
   have hq2:P2=P:=by rw[EP2.out,ΩnU h0]
   have HQ2:=Θ hq2
   clear hq2 h0
   go_wp2_with fail
   go_meet
   case rel=>exact⟨_,by rw[HQ2.out];exact HG2.out⟩
 case rest=>
 obtain⟨gv3,hG3⟩:=hcut
 obtain⟨g3A,g3c,rfl,_⟩:=Ωt hG3.pf
 obtain⟨rA,rc,rfl,_⟩:=Ωt hG3.v.own
 have hld:=Ωme hG3.v.cl hG3.v.ok
 have hrs:=(H2.out.arg.keep hG3.v.only).res
 have hst:(Ωg6 (.pointer (some ⟨B+2,0,none⟩)) (.agg (clL (wh:Int) b (some ⟨G,0,none⟩) 1 E (.slice g3A P2.length g3c) (.slice rA L.length rc)).toArray)).run Tryz.prog wc= .ok () (wc.setCells (B+2) 0 (clL (wh:Int) b (some ⟨G,0,none⟩) 1 E (.slice g3A P2.length g3c) (.slice rA L.length rc))):=ΩiC hrs Ωfo hG3.v.ok rfl rfl
 have h1:Only (fun k=>k=B+2) wc (wc.setCells (B+2) 0 (clL (wh:Int) b (some ⟨G,0,none⟩) 1 E (.slice g3A P2.length g3c) (.slice rA L.length rc))):=Ωb (S:=fun k=>k=B+2) (Only.refl _ _) (B+2) 0 (.inl rfl) _
 have hfin:ClB (wc.setCells (B+2) 0 (clL (wh:Int) b (some ⟨G,0,none⟩) 1 E (.slice g3A P2.length g3c) (.slice rA L.length rc))) (B+2) (wh:Int) b (some ⟨G,0,none⟩) 1 E (.slice g3A P2.length g3c) (.slice rA L.length rc)∧Blk (wc.setCells (B+2) 0 (clL (wh:Int) b (some ⟨G,0,none⟩) 1 E (.slice g3A P2.length g3c) (.slice rA L.length rc))) G 3 #[.int .i64 4]∧ΩO (wc.setCells (B+2) 0 (clL (wh:Int) b (some ⟨G,0,none⟩) 1 E (.slice g3A P2.length g3c) (.slice rA L.length rc))) w.heap.size (.slice g3A P2.length g3c) P2.length P2∧ΩH (wc.setCells (B+2) 0 (clL (wh:Int) b (some ⟨G,0,none⟩) 1 E (.slice g3A P2.length g3c) (.slice rA L.length rc))) w.heap.size (.slice rA L.length rc) L.length L∧Only Ωa w (wc.setCells (B+2) 0 (clL (wh:Int) b (some ⟨G,0,none⟩) 1 E (.slice g3A P2.length g3c) (.slice rA L.length rc))):=
  ⟨Ωg5 hrs Ωfo hG3.v.ok,hG3.v.com.only h1 (fun e=>Blk.ne_ hG3.v.com hrs (by decide) e),Ωe hG3.pf h1 (fun k hk e=>Ωi hG3.pf hrs (by decide) (by rw[hk,e])),Ωe hG3.v.own h1 (fun k hk e=>Ωi hG3.v.own hrs (by decide) (by rw[hk,e])),Ωb (H2.out.arg.only.trans hG3.v.only) (B+2) 0 (.inr (by rw[EB.out];omega)) _⟩
 have hlo:=hG3.v.lo
 have HFIN:=Θ hfin
 have hmk:wh=(ΩeB d a).what∧b=(ΩeB d a).bid∧E=(ΩeB d a).ev∧P2=(ΩeB d a).proof∧L=(ΩeB d a).votes :=by
  refine⟨EWH.out.symm,EBB.out,EE.out,?_,?_⟩
  ·rw[EP2.out,EP.out];rfl
  ·rw[EL.out,EHH.out,ESZ.out,EN.out];rfl
 have HMK:=Θ hmk
 have HPK:=Θ hG3.v.ok
 clear hrs h1 hfin hmk hG3 hwi ezb
 go_wp2_with fail
 have hinf:(Tryz.prog.info? tCl).map (·.size)=some 54:=by kernel_rfl
 refine bodyPost_ret (v:= .agg (clL (wh:Int) b (some ⟨G,0,none⟩) 1 E (.slice g3A P2.length g3c) (.slice rA L.length rc)).toArray) (Ωn rfl rfl HFIN.out.1 Tryz.underlying81 rfl (by rw[ΩnJ,ΩcU HPK.out];exact hinf)) rfl ⟨G,.slice g3A P2.length g3c,.slice rA L.length rc,?_,hlo,HFIN.out.2.1,?_,?_,HFIN.out.2.2.2.2⟩
 ·rw[←HMK.out.1,←HMK.out.2.1,←HMK.out.2.2.1]
 ·rw[←HMK.out.2.2.2.1];exact HFIN.out.2.2.1
 ·rw[←HMK.out.2.2.2.2];exact HFIN.out.2.2.2.1
end
section
open Go.RowKit Go.Shelf
def Ωkb(base lo mid:Nat)(W W' :World):Prop:=∃S:Nat→Prop,Only S W W'∧∀k,S k→base≤k∧(k<lo∨mid≤k)
def InG(lo mid:Nat)(v:Value):Prop:=∀a n cap,v= .slice (some a) n cap→lo≤a.block∧a.block<mid
section
variable {w0:World} {base lo mid C1 C2:Nat} {s1 s2:Vw} {W W' :World}
theorem Ωkb.blk(h:Ωkb base lo mid W W'){g:Nat}{t:TypeId}{cs:Array Value}(hb:Blk W g t cs)(hg:g<base∨(lo≤g∧g<mid)):Blk W' g t cs:=by
 obtain⟨S,ho,hS⟩:=h
 exact hb.only ho (fun e=>by have:=hS g e;omega)
theorem Ωkb.own(h:Ωkb base lo mid W W'){b n size:Nat}{e:TypeId}{v:Value}{xs:List Value}(hb:W.ownsRow b e size v n xs)(hg:InG lo mid v):W'.ownsRow b e size v n xs:=by
 obtain⟨S,ho,hS⟩:=h
 refine Ωe hb ho (fun k hk e=> ?_)
 rcases hb.2 with⟨rfl,_⟩|⟨g,cap,cur,rfl,_⟩
 ·simp[Value.ownBlock] at hk
 ·have h1:g=k:=by simpa [Value.ownBlock] using hk
  have h2:=hg ⟨g,0,none⟩ _ _ rfl
  have h3:=hS k e
  simp only at h2
  omega
end
theorem best_eq1{P:List Pers}{L:List Vt}{h:Hd}(hL:∀v∈L,v.head=h){o o' :Option Hd}(ho:ΩbH P L o)(ho' :ΩbH P L o'):o=o' :=by
 rcases ΩjD hL ho with⟨rfl,h1⟩|⟨rfl,h1⟩<;>rcases ΩjD hL ho' with⟨rfl,h2⟩|⟨rfl,h2⟩
 ·rfl
 ·rcases h1 with rfl|h1
  ·exact ΩiH _ ho' |>.symm
  ·rw[h1] at h2;cases h2
 ·rcases h2 with rfl|h2
  ·exact ΩiH _ ho
  ·rw[h1] at h2;cases h2
 ·rfl
noncomputable def ΩeV(P:List Pers)(L:List Vt):Option Hd:=Classical.epsilon (fun o=>ΩbH P L o)
theorem Ωf1{P:List Pers}{L:List Vt}{h:Hd}(hL:∀v∈L,v.head=h){o:Option Hd}(ho:ΩbH P L o):o=ΩeV P L:=best_eq1 hL ho (Classical.epsilon_spec (p:=fun o=>ΩbH P L o) ⟨o,ho⟩)
noncomputable def Ωdm(s:Vw)(x:Cl):Int:=
 if x.what=0 then 0
 else if x.what<4 then Ωat (ΩeV s.P x.votes) (Ωx s.head) x.proof
 else if ΩdI s.P s.id s.sent s.text x.ev≠0 then ΩdI s.P s.id s.sent s.text x.ev
 else Ωak (ΩeV s.P x.votes) x.ev x.proof
noncomputable def Ωav(s:Vw)(x:Cl):Vw:=
 if x.what=0 then {s with sent:=true,text:=encT x.bid,rc:=false}
 else if x.what<4 then {s with votes:=ΩA s.votes x.votes,head:=Ω5 (ΩeV s.P x.votes) (Ωx s.head) x.proof s.head}
 else if ΩdI s.P s.id s.sent s.text x.ev≠0 then s
 else {s with votes:=ΩA s.votes x.votes,rc:=s.rc||decide (Ωak (ΩeV s.P x.votes) x.ev x.proof=0)}
structure Cl.Ok(x:Cl):Prop where
 what:0≤x.what∧x.what<6
 bid:x.bid.Ok
 pc:x.bid.pc=[]
 ev:x.ev.Ok
 evn:x.ev.name.size≤1000000000
 evt:x.ev.text.size≤1000000000
 proof:HsOk x.proof
 plen:x.proof.length≤100000
 votes:Ω4 x.votes
 small:ΩcW x.votes
 vlen:x.votes.length≤1000
 one:∃h,∀v∈x.votes,v.head=h
end
section
open Go.RowKit Go.Shelf
def bdLd(v:Value):Sem Value:=Instr.loadAt 75 v
theorem Ωhc(v:Value):Instr.loadAt 75 v=bdLd v:=rfl
attribute [local go_sem ↓ high] Ωhc Ω2
theorem cl_bid{W:World}{g:Nat}{wh:Int}{b:Bd}{A:Option Addr}{k:Nat}{e:Ev}{gv rv:Value}(h:ClB W g wh b A k e gv rv):W.rangeAt g 1 [.int .i64 b.bidder,.string b.qt,.slice A b.qc.length k,.string b.pt,.slice none b.pc.length 0]:=fun j v hj=>by
 have hj2:=(Ωnx.1 hj).1
 simp only[ΩnD,Ωn8] at hj2
 refine Ωlj h (Eq.trans ?_ hj)
 match j,hj2 with
 |0,_|1,_|2,_|3,_|4,_=>rfl
theorem Ωnp{W:World}{g:Nat}{wh:Int}{b:Bd}{A:Option Addr}{k:Nat}{e:Ev}{gv rv:Value}(h:ClB W g wh b A k e gv rv):(bdLd (.pointer (some ⟨g,1,none⟩))).run Tryz.prog W= .ok (.agg (Ωae b A none k 0)) W:=
 ΩoG W g 1 75 [.int .i64 b.bidder,.string b.qt,.slice A b.qc.length k,.string b.pt,.slice none b.pc.length 0] _ (cl_bid h) Tryz.underlying75 rfl (by kernel_rfl)
end
section
open Go.RowKit Go.Shelf
theorem ΩjE(w:World):(isAgg 52).run Tryz.prog w= .ok false w:=by kernel_rfl
theorem fields_blm:(Tryz.prog.fieldsOf 57).toList.map (fun f=>(f.name,f.type,f.offset))=[("Who",3,0),("Kind",52,1),("A",9,2),("B",9,3)]:=by kernel_rfl
theorem neq_blm(a:Int)(s t:ByteArray)(w:World):(binOp .neq 57 (.agg #[.int .i64 a,.int .i64 44,.string s,.string t]) (.agg #[.int .i64 a,.int .i64 44,.string s,.string t])).run Tryz.prog w= .ok (.bool false) w:=by
 have key:=ΩeO (P:=Tryz.prog) (w:=w) (d:=9999) (t:=57) (xs:= #[.int .i64 a,.int .i64 44,.string s,.string t]) (ys:= #[.int .i64 a,.int .i64 44,.string s,.string t]) (by kernel_rfl) (by kernel_rfl) fields_blm
  (Ωbl (by decide) (Ωaw (Ωcl w) rfl) (Ωaw (Ωcl w) rfl) (Ωju (d:=9998) a a w)
   (Ωbl (by decide) (Ωaw (ΩjE w) rfl) (Ωaw (ΩjE w) rfl) (run_equalIn_int w 9998 52 .i64 .i64 44 44 Tryz.underlying52)
    (Ωbl (by decide) (Ωaw (ΩdF w) rfl) (Ωaw (ΩdF w) rfl) (Ωjt (d:=9998) s s w)
     (Ωbl (by decide) (Ωaw (ΩdF w) rfl) (Ωaw (ΩdF w) rfl) (Ωjt (d:=9998) t t w) Ωix))))
 rw[run_neq_struct,key]
 simp
theorem same_any(L:List Blm)(av bv:Value)(w:World)(ha:BlSl w av L)(hb:BlSl w bv L):Calls Tryz.prog 35 #[av,bv] w fun e w' =>e= .returned (.bool true)∧Only Ωa w w' :=by
 obtain⟨A,cap,rfl,hlc,hcm,hA⟩:=ha
 obtain⟨A2,cap2,rfl,hlc2,hcm2,hA2⟩:=hb
 have HA:=Θ hA
 have HA2:=Θ hA2
 have hne:((L.length:Int)!=(L.length:Int))=false:=by simp
 clear hA hA2
 go_enter Tryz.func35,Tryz.ntmps35
 go_wp2_with fail
 go_loopw [5] (fun i wr=>∃k:Nat,i= .int .i64 k∧k≤L.length∧Only Ωa w wr) (fun i _=>L.length-(intOf i).toNat)
 case atStart=>exact⟨0,rfl,Ωoh _,Only.refl _ _⟩
 case round=>
  obtain⟨k,rfl,hk,ho⟩:=hrel
  have HO:=Θ ho
  clear ho
  by_cases hlt:k<L.length
  ·obtain⟨b,hb⟩:∃b,L[k]? =some b:=⟨_,Ωnu hlt⟩
   obtain⟨g,o,e1,_,hr⟩:=HA.out k b hb
   obtain⟨g2,o2,e2,_,hr2⟩:=HA2.out k b hb
   subst e1
   subst e2
   have ik:(k:Int)<(L.length:Int):=by omega
   have ik0:(0:Int)≤(k:Int):=by omega
   have q:=neq_blm b.who (vtT b.a) (vtT b.b)
   obtain⟨sa,esa⟩:∃s,s=vtT b.a:=⟨_,rfl⟩
   obtain⟨sb,esb⟩:∃s,s=vtT b.b:=⟨_,rfl⟩
   have a0:wr.cell? ⟨g,o+k*4,none⟩=some (.int .i64 b.who):=HO.out.cell_some (hr 0 _ rfl) (fun e=>e)
   have a1:wr.cell? ⟨g,o+k*4+1,none⟩=some (.int .i64 44):=HO.out.cell_some (hr 1 _ rfl) (fun e=>e)
   have a2:wr.cell? ⟨g,o+k*4+2,none⟩=some (.string sa):=by rw[esa];exact HO.out.cell_some (hr 2 _ rfl) (fun e=>e)
   have a3:wr.cell? ⟨g,o+k*4+3,none⟩=some (.string sb):=by rw[esb];exact HO.out.cell_some (hr 3 _ rfl) (fun e=>e)
   have b0:wr.cell? ⟨g2,o2+k*4,none⟩=some (.int .i64 b.who):=HO.out.cell_some (hr2 0 _ rfl) (fun e=>e)
   have b1:wr.cell? ⟨g2,o2+k*4+1,none⟩=some (.int .i64 44):=HO.out.cell_some (hr2 1 _ rfl) (fun e=>e)
   have b2:wr.cell? ⟨g2,o2+k*4+2,none⟩=some (.string sa):=by rw[esa];exact HO.out.cell_some (hr2 2 _ rfl) (fun e=>e)
   have b3:wr.cell? ⟨g2,o2+k*4+3,none⟩=some (.string sb):=by rw[esb];exact HO.out.cell_some (hr2 3 _ rfl) (fun e=>e)
   rw[←esa,←esb] at q
   clear hr hr2 hb esa esb
   go_upto_region 6 with(fail)
   go_quiet (fail)
   go_wp2_with fail
   go_roundw
   case rel=>exact⟨k+1,by go_num,by omega,HO.out.drewN _⟩
   case measure=>simp[intOf];omega
  ·obtain rfl:k=L.length:=by omega
   go_wp2_with fail
   go_ret
   exact⟨rfl,HO.out⟩
end
end Go.Proofs.YtgalfohobgjelaaGreatDoor
