/- What is proved here:the law on what clients keep. Conditions:the world's numbers are bytes,the acts are well;the table of powers of ten lies. -/
import Derived.Test.YtgalfohobgjelaaGreatDoorKp32
import Derived.Test.YtgalfohobgjelaaGreatDoorKp33
import Derived.Test.YtgalfohobgjelaaGreatDoorKp34
import Derived.Deep.DeepCutAuto
namespace Go.Proofs.YtgalfohobgjelaaGreatDoor
open Go.RowKit Go.Shelf
attribute [local go_sem ↓ high] wdLoad_eq suLoad_eq suStore_eq zbPs_eq psSt_eq acLd_eq clLoad_eq clStore_eq clNew_eq zbVt_eq zbHa_eq zbBl_eq blSt_eq vtStore_eq haStore_eq
noncomputable def keV (d:Wd):Vw:=⟨60,setW d,false,⟨#[]⟩,hd0, [],false⟩
structure KeP (w:World) (B D base C1 C2:Nat) (d:Wd) (kA:Option Addr) (kc:Nat) (pv:Value) (gP N:Nat) (W:World):Prop where
 wd:Blk W B tWd (wdC d kA kc)
 su:Blk W D tSu (suC pv)
 room:Room W gP 67 (N * 3)
 lo:w.heap.size≤gP∧gP<base∧B<base∧gP≠D∧gP≠B
 two:∃top,TwoC w base C1 C2 top (keV d) (keV d) W
theorem KeP.zero {w:World} {B D base C1 C2:Nat} {d:Wd} {kA:Option Addr} {kc:Nat} {pv:Value} {gP N k:Nat} {W:World} (h:KeP w B D base C1 C2 d kA kc pv gP N W) (hk:k<N):KeP w B D base C1 C2 d kA kc pv gP N (W.setCells gP (k * 3) ps0):=by
 have ho:Only (fun i=>i=gP) W (W.setCells gP (k * 3) ps0):=only_setCells (S:=fun i=>i=gP) (Only.refl _ _) gP _ (.inl rfl) _
 obtain⟨l1,l2,l3,l4,l5⟩:=h.lo
 obtain⟨top,ht⟩:=h.two
 exact⟨h.wd.only ho (fun e=>l5 e.symm),h.su.only ho (fun e=>l4 e.symm),h.room.set _ _ (room_le (size:=3) hk),h.lo,top,ht.far ho (fun k hk=>by omega) (fun k hk=>by omega)⟩
structure KeS (d:Wd) (k:Nat) (s:Vw):Prop where
 P:s.P=setW d
 votes:s.votes.length≤7 * k
 head:SmallH s.head
structure KeL (w:World) (B base C1 C2:Nat) (d:Wd) (kA:Option Addr) (kc:Nat) (s:Vw) (W:World):Prop where
 wd:Blk W B tWd (wdC d kA kc)
 lo:B<base
 two:∃top,TwoC w base C1 C2 top s s W
structure KeM (b:Nat) (x:Cl) (G:Nat) (gv rv:Value) (W:World):Prop where
 com:Blk W G 3 #[.int .i64 4]
 lo:b≤G
 pf:HaOwn W b gv x.proof.length x.proof
 vt:VtOwn W b rv x.votes.length x.votes
theorem KeM.keep {b:Nat} {x:Cl} {G:Nat} {gv rv:Value} {W W':World} (h:KeM b x G gv rv W) (ho:Only NoneOf W W'):KeM b x G gv rv W':=
 ⟨h.com.only ho (fun e=>e),h.lo,own_only h.pf ho (fun _ _ e=>e),own_only h.vt ho (fun _ _ e=>e)⟩
theorem KeM.one1 {b:Nat} {x:Cl} {G:Nat} {gv rv:Value} {W:World} (h:KeM b x G gv rv W):gv.oneCell'=true:=by
 obtain⟨A,c,rfl,_⟩:=own_form' h.pf
 rfl
theorem KeM.one2 {b:Nat} {x:Cl} {G:Nat} {gv rv:Value} {W:World} (h:KeM b x G gv rv W):rv.oneCell'=true:=by
 obtain⟨A,c,rfl,_⟩:=own_form' h.vt
 rfl
theorem zc_cl {X:World} {x:Cl} (he:x.ev.prev.length=32) (W:World) (N G:Nat) (gv rv:Value) (hg:gv.oneCell'=true) (hr:rv.oneCell'=true) (hz:ZBl tCl cl0.toArray X W N):(clStore (.pointer (some ⟨N,0,none⟩)) (.agg (clL x.what x.bid (some ⟨G,0,none⟩) 1 x.ev gv rv).toArray)).run Tryz.prog W= .ok () (W.setCells N 0 (clL x.what x.bid (some ⟨G,0,none⟩) 1 x.ev gv rv)):=cl_store hz.1 cl0_len he hg hr
theorem zc_cl2 {X:World} {x:Cl} (he:x.ev.prev.length=32) (W:World) (N M:Nat) (vs:List Value) (G:Nat) (gv rv:Value) (hne:M≠N) (hg:gv.oneCell'=true) (hr:rv.oneCell'=true) (hz:ZBl tCl cl0.toArray X W M):(clStore (.pointer (some ⟨M,0,none⟩)) (.agg (clL x.what x.bid (some ⟨G,0,none⟩) 1 x.ev gv rv).toArray)).run Tryz.prog (W.setCells N 0 vs)= .ok () ((W.setCells N 0 vs).setCells M 0 (clL x.what x.bid (some ⟨G,0,none⟩) 1 x.ev gv rv)):=cl_store (hz.set hne vs).1 cl0_len he hg hr
structure KeT (X:World) (M1 M2:Nat) (x:Cl) (G1:Nat) (gv1 rv1:Value) (G2:Nat) (gv2 rv2:Value) (W:World):Prop where
 c1:ClB W M1 x.what x.bid (some ⟨G1,0,none⟩) 1 x.ev gv1 rv1
 c2:ClB W M2 x.what x.bid (some ⟨G2,0,none⟩) 1 x.ev gv2 rv2
 lo:X.heap.size≤M1∧X.heap.size≤M2∧M1≠M2
 m1:KeM X.heap.size x G1 gv1 rv1 W
 m2:KeM X.heap.size x G2 gv2 rv2 W
 only:Only NoneOf X W
theorem KeM.far {b:Nat} {x:Cl} {G M:Nat} {gv rv:Value} {W:World} {cs:Array Value} (h:KeM b x G gv rv W) (hb:Blk W M tCl cs) (vs:List Value):KeM b x G gv rv (W.setCells M 0 vs):=by
 have h1:Only (fun k=>k=M) W (W.setCells M 0 vs):=only_setCells (S:=fun k=>k=M) (Only.refl _ _) M 0 (.inl rfl) _
 exact⟨h.com.only h1 (fun e=>Blk.ne_ h.com hb (by decide) e),h.lo,own_only h.pf h1 (fun k hk e=>own_blk_ne h.pf hb (by decide) (by rw [hk,e])),own_only h.vt h1 (fun k hk e=>own_blk_ne h.vt hb (by decide) (by rw [hk,e]))⟩
theorem KeM.lower {b b':Nat} {x:Cl} {G:Nat} {gv rv:Value} {W:World} (h:KeM b x G gv rv W) (hb:b'≤b):KeM b' x G gv rv W:=⟨h.com,Nat.le_trans hb h.lo,own_lower h.pf hb,own_lower h.vt hb⟩
theorem KeT.made {X W:World} {M1 M2:Nat} {x:Cl} {G1 G2 b1 b2:Nat} {gv1 rv1 gv2 rv2:Value} (he:x.ev.prev.length=32) (h1:ZBl tCl cl0.toArray X W M1) (h2:ZBl tCl cl0.toArray X W M2) (hne:M1≠M2) (ho:Only NoneOf X W) (m1:KeM b1 x G1 gv1 rv1 W) (m2:KeM b2 x G2 gv2 rv2 W) (hb1:X.heap.size≤b1) (hb2:X.heap.size≤b2):KeT X M1 M2 x G1 gv1 rv1 G2 gv2 rv2 ((W.setCells M1 0 (clL x.what x.bid (some ⟨G1,0,none⟩) 1 x.ev gv1 rv1)).setCells M2 0 (clL x.what x.bid (some ⟨G2,0,none⟩) 1 x.ev gv2 rv2)):=by
 have g2:=h2.set (Ne.symm hne) (clL x.what x.bid (some ⟨G1,0,none⟩) 1 x.ev gv1 rv1)
 have g1:ClB (W.setCells M1 0 (clL x.what x.bid (some ⟨G1,0,none⟩) 1 x.ev gv1 rv1)) M1 x.what x.bid (some ⟨G1,0,none⟩) 1 x.ev gv1 rv1:=cl_stored h1.1 cl0_len he
 exact⟨Blk.farCells hne _ 0 g1,cl_stored g2.1 cl0_len he,⟨h1.2,h2.2,hne⟩,((m1.far h1.1 _).far g2.1 _).lower hb1,((m2.far h1.1 _).far g2.1 _).lower hb2,g2.keep (h1.keep ho _) _⟩
structure KeX (b B:Nat) (d:Wd) (kA:Option Addr) (kc:Nat) (M1 M2:Nat) (x:Cl) (G1:Nat) (gv1 rv1:Value) (G2:Nat) (gv2 rv2:Value) (W:World):Prop where
 wd:Blk W B tWd (wdC d kA kc)
 c1:ClB W M1 x.what x.bid (some ⟨G1,0,none⟩) 1 x.ev gv1 rv1
 c2:ClB W M2 x.what x.bid (some ⟨G2,0,none⟩) 1 x.ev gv2 rv2
 m1:KeM b x G1 gv1 rv1 W
 m2:KeM b x G2 gv2 rv2 W
theorem KeX.keep {b B:Nat} {d:Wd} {kA:Option Addr} {kc:Nat} {M1 M2:Nat} {x:Cl} {G1:Nat} {gv1 rv1:Value} {G2:Nat} {gv2 rv2:Value} {W W':World} (h:KeX b B d kA kc M1 M2 x G1 gv1 rv1 G2 gv2 rv2 W) (ho:Only NoneOf W W'):KeX b B d kA kc M1 M2 x G1 gv1 rv1 G2 gv2 rv2 W':=
 ⟨h.wd.only ho (fun e=>e),h.c1.only ho (fun e=>e),h.c2.only ho (fun e=>e),h.m1.keep ho,h.m2.keep ho⟩
theorem inG_own {W:World} {b lo mid n size:Nat} {e:TypeId} {v:Value} {xs:List Value} (h:W.ownsRow b e size v n xs) (hb:lo≤b) (hm:∀g,v.ownBlock=some g→g<mid):InG lo mid v:=fun a m cap hv=>by
 rcases h.2 with⟨rfl,_⟩|⟨g,cap',cur,rfl,hg,_⟩
 ·cases hv
 ·cases hv
  exact⟨Nat.le_trans hb hg,hm g rfl⟩
structure KeI (lo mid M1 M2 G1:Nat) (gv1 rv1:Value) (G2:Nat) (gv2 rv2:Value):Prop where
 c1:lo≤M1∧M1<mid
 c2:lo≤M2∧M2<mid
 g1:lo≤G1∧G1<mid
 g2:lo≤G2∧G2<mid
 q1:InG lo mid gv1
 q2:InG lo mid gv2
 v1:InG lo mid rv1
 v2:InG lo mid rv2
theorem KeX.near {b B base lo mid:Nat} {d:Wd} {kA:Option Addr} {kc:Nat} {M1 M2:Nat} {x:Cl} {G1:Nat} {gv1 rv1:Value} {G2:Nat} {gv2 rv2:Value} {W W':World} (h:KeX b B d kA kc M1 M2 x G1 gv1 rv1 G2 gv2 rv2 W) (hn:NearG base lo mid W W') (hB:B<base) (hi:KeI lo mid M1 M2 G1 gv1 rv1 G2 gv2 rv2):KeX b B d kA kc M1 M2 x G1 gv1 rv1 G2 gv2 rv2 W':=
 ⟨hn.blk h.wd (.inl hB),hn.blk h.c1 (.inr hi.c1),hn.blk h.c2 (.inr hi.c2),⟨hn.blk h.m1.com (.inr hi.g1),h.m1.lo,hn.own h.m1.pf hi.q1,hn.own h.m1.vt hi.v1⟩,⟨hn.blk h.m2.com (.inr hi.g2),h.m2.lo,hn.own h.m2.pf hi.q2,hn.own h.m2.vt hi.v2⟩⟩
theorem com_int {W:World} {G:Nat} (h:Blk W G 3 #[.int .i64 4]):IntSl W (some ⟨G,0,none⟩) [4]:=
 .inr ⟨G,0,rfl,h.lt,fun j x hx=>by
  match j,hx with
  |0,hx=>
   simp only [List.getElem?_cons_zero,Option.some.injEq] at hx
   subst hx
   exact h.cell 0⟩
def RoomS (W:World) (A:Option Addr) (e:TypeId) (n size lo mid:Nat):Prop:=n=0∨∃g,A=some ⟨g,0,none⟩∧lo≤g∧g<mid∧Room W g e (n * size)
theorem RoomS.keep {W W':World} {A:Option Addr} {e:TypeId} {n size lo mid:Nat} {S:Nat→Prop} (h:RoomS W A e n size lo mid) (ho:Only S W W') (hS:∀g,Room W g e (n * size)→¬S g):RoomS W' A e n size lo mid:=by
 rcases h with h|⟨g,h1,h2,h3,h4⟩
 ·exact .inl h
 ·exact .inr ⟨g,h1,h2,h3,h4.keep ho (hS g h4)⟩
theorem RoomS.of_own {W:World} {b lo mid n size cap:Nat} {e:TypeId} {A:Option Addr} {xs:List Value} (h:W.ownsRow b e size (.slice A n cap) n xs) (hi:InG lo mid (.slice A n cap)):RoomS W A e n size lo mid:=by
 rcases own_room h with⟨h0,_⟩|⟨g,c,hv,_,hr⟩
 ·exact .inl h0
 ·cases hv
  have h1:=hi ⟨g,0,none⟩ _ _ rfl
  exact .inr ⟨g,rfl,h1.1,h1.2,hr⟩
theorem Room.ne {W:World} {g g':Nat} {e e':TypeId} {m m':Nat} (h:Room W g e m) (h':Room W g' e' m') (hne:e≠e'):g≠g':=by
 obtain⟨_,h1,_⟩:=h
 obtain⟨_,h2,_⟩:=h'
 exact Blk.ne_ h1 h2 hne
theorem Room.ne_blk {W:World} {g g':Nat} {e e':TypeId} {m:Nat} {cs:Array Value} (h:Room W g e m) (h':Blk W g' e' cs) (hne:e≠e'):g≠g':=by
 obtain⟨_,h1,_⟩:=h
 exact Blk.ne_ h1 h' hne
structure KeZ (w:World) (B base lo mid C1 C2:Nat) (d:Wd) (kA:Option Addr) (kc M1:Nat) (x:Cl) (G1:Nat) (qA:Option Addr) (qn qc:Nat) (vA:Option Addr) (vn vc:Nat) (s:Vw) (W:World):Prop where
 wd:Blk W B tWd (wdC d kA kc)
 c1:ClB W M1 x.what x.bid (some ⟨G1,0,none⟩) 1 x.ev (.slice qA qn qc) (.slice vA vn vc)
 two:TwoG w base lo mid C1 C2 s s W
 rv:RoomS W vA 43 vn 36 lo mid
 rq:RoomS W qA 35 qn 32 lo mid
 rg:Room W G1 3 1
 gl:lo≤G1∧G1<mid∧w.heap.size≤lo
theorem KeZ.put {w:World} {B base lo mid C1 C2:Nat} {d:Wd} {kA:Option Addr} {kc M1:Nat} {x:Cl} {G1:Nat} {qA:Option Addr} {qn qc:Nat} {vA:Option Addr} {vn vc:Nat} {s:Vw} {W:World} {g o m:Nat} {vs:List Value} {t:TypeId} (h:KeZ w B base lo mid C1 C2 d kA kc M1 x G1 qA qn qc vA vn vc s W) (hr:Room W g t m) (ht:t=43∨t=35∨t=3) (hg:lo≤g∧g<mid)
  (hv:RoomS (W.setCells g o vs) vA 43 vn 36 lo mid) (hq:RoomS (W.setCells g o vs) qA 35 qn 32 lo mid) (hG:Room (W.setCells g o vs) G1 3 1):KeZ w B base lo mid C1 C2 d kA kc M1 x G1 qA qn qc vA vn vc s (W.setCells g o vs):=by
 have ho:Only (fun k=>k=g) W (W.setCells g o vs):=only_setCells (S:=fun k=>k=g) (Only.refl _ _) g o (.inl rfl) vs
 have h1:t≠tWd:=by rcases ht with rfl|rfl|rfl<;>decide
 have h2:t≠tCl:=by rcases ht with rfl|rfl|rfl<;>decide
 exact⟨h.wd.only ho (fun e=>hr.ne_blk h.wd h1 e.symm),h.c1.only ho (fun e=>hr.ne_blk h.c1 h2 e.symm),h.two.far ho (fun k hk=>by have:=h.gl.2.2;omega),hv,hq,hG,h.gl⟩
theorem KeZ.zv {w:World} {B base lo mid C1 C2:Nat} {d:Wd} {kA:Option Addr} {kc M1:Nat} {x:Cl} {G1:Nat} {qA:Option Addr} {qn qc:Nat} {vn vc:Nat} {s:Vw} {W:World} {g k:Nat} (h:KeZ w B base lo mid C1 C2 d kA kc M1 x G1 qA qn qc (some ⟨g,0,none⟩) vn vc s W) (hr:Room W g 43 (vn * 36)) (hg:lo≤g∧g<mid) (hk:k<vn):KeZ w B base lo mid C1 C2 d kA kc M1 x G1 qA qn qc (some ⟨g,0,none⟩) vn vc s (W.setCells g (k * 36) (vtC vt0)):=by
 have ho:Only (fun i=>i=g) W (W.setCells g (k * 36) (vtC vt0)):=only_setCells (S:=fun i=>i=g) (Only.refl _ _) g _ (.inl rfl) _
 exact h.put hr (.inl rfl) hg (.inr ⟨g,rfl,hg.1,hg.2,hr.set _ _ (room_le (size:=36) hk)⟩) (h.rq.keep ho (fun g' h' e=>h'.ne hr (by decide) e)) (h.rg.keep ho (fun e=>h.rg.ne hr (by decide) e))
theorem KeZ.zq {w:World} {B base lo mid C1 C2:Nat} {d:Wd} {kA:Option Addr} {kc M1:Nat} {x:Cl} {G1:Nat} {qn qc:Nat} {vA:Option Addr} {vn vc:Nat} {s:Vw} {W:World} {g k:Nat} (h:KeZ w B base lo mid C1 C2 d kA kc M1 x G1 (some ⟨g,0,none⟩) qn qc vA vn vc s W) (hr:Room W g 35 (qn * 32)) (hg:lo≤g∧g<mid) (hk:k<qn):KeZ w B base lo mid C1 C2 d kA kc M1 x G1 (some ⟨g,0,none⟩) qn qc vA vn vc s (W.setCells g (k * 32) (zeroH.map bv)):=by
 have ho:Only (fun i=>i=g) W (W.setCells g (k * 32) (zeroH.map bv)):=only_setCells (S:=fun i=>i=g) (Only.refl _ _) g _ (.inl rfl) _
 exact h.put hr (.inr (.inl rfl)) hg (h.rv.keep ho (fun g' h' e=>h'.ne hr (by decide) e)) (.inr ⟨g,rfl,hg.1,hg.2,hr.set _ _ (room_le (size:=32) hk)⟩) (h.rg.keep ho (fun e=>h.rg.ne hr (by decide) e))
theorem KeZ.zg {w:World} {B base lo mid C1 C2:Nat} {d:Wd} {kA:Option Addr} {kc M1:Nat} {x:Cl} {G1:Nat} {qA:Option Addr} {qn qc:Nat} {vA:Option Addr} {vn vc:Nat} {s:Vw} {W:World} (h:KeZ w B base lo mid C1 C2 d kA kc M1 x G1 qA qn qc vA vn vc s W) (v:Value):KeZ w B base lo mid C1 C2 d kA kc M1 x G1 qA qn qc vA vn vc s (W.setCells G1 0 [v]):=by
 have ho:Only (fun i=>i=G1) W (W.setCells G1 0 [v]):=only_setCells (S:=fun i=>i=G1) (Only.refl _ _) G1 _ (.inl rfl) _
 exact h.put h.rg (.inr (.inr rfl)) ⟨h.gl.1,h.gl.2.1⟩ (h.rv.keep ho (fun g' h' e=>h'.ne h.rg (by decide) e)) (h.rq.keep ho (fun g' h' e=>h'.ne h.rg (by decide) e)) (h.rg.set 0 [v] (Nat.le_refl 1))
theorem TwoC.lo {w0:World} {base C1 C2 top:Nat} {s1 s2:Vw} {W:World} (h:TwoC w0 base C1 C2 top s1 s2 W):w0.heap.size≤top:=by
 obtain⟨c,d,⟨_,_,c3,_,c5⟩,_,_,_,_,_,h4⟩:=h
 have h1:=c5 c.C (.inl rfl)
 have h2:=c3.lo
 omega
structure KeY (w:World) (B base lo mid C1 C2:Nat) (d:Wd) (kA:Option Addr) (kc:Nat) (oA:Option Addr) (bn:Nat) (s:Vw) (W:World):Prop where
 wd:Blk W B tWd (wdC d kA kc)
 two:TwoG w base lo mid C1 C2 s s W
 rb:RoomS W oA 57 bn 4 lo mid
 lo_:w.heap.size≤lo
theorem KeY.zb {w:World} {B base lo mid C1 C2:Nat} {d:Wd} {kA:Option Addr} {kc:Nat} {bn:Nat} {s:Vw} {W:World} {g k:Nat} (h:KeY w B base lo mid C1 C2 d kA kc (some ⟨g,0,none⟩) bn s W) (hr:Room W g 57 (bn * 4)) (hg:lo≤g∧g<mid) (hk:k<bn):KeY w B base lo mid C1 C2 d kA kc (some ⟨g,0,none⟩) bn s (W.setCells g (k * 4) bl0):=by
 have ho:Only (fun i=>i=g) W (W.setCells g (k * 4) bl0):=only_setCells (S:=fun i=>i=g) (Only.refl _ _) g _ (.inl rfl) _
 exact⟨h.wd.only ho (fun e=>hr.ne_blk h.wd (by decide) e.symm),h.two.far ho (fun k hk=>by have:=h.lo_;omega),.inr ⟨g,rfl,hg.1,hg.2,hr.set _ _ (room_le (size:=4) hk)⟩,h.lo_⟩
theorem two_blames (w0:World) (ht:Tab w0) {base C1 C2 top:Nat} {s s2:Vw} (hP:PersOk s.P) (hlen:s.P.length≤1000) (hn:s.votes.length≤100000) (w:World) (h:TwoC w0 base C1 C2 top s s2 w):
  Calls Tryz.prog 20 #[.pointer (some ⟨C1,0,none⟩)] w fun e w'=> ∃ov,e= .returned ov∧BlmOwn w' w.heap.size ov (blL s.P s.votes).length (blL s.P s.votes)∧Only NoneOf w w':=by
 obtain⟨c,d,⟨rfl,rfl,c3,_,_⟩,_,_,_,_,h3,_⟩:=h
 exact blames_own w0 ht c base hP hlen hn w h3 c3
theorem KeS.next {d:Wd} {k:Nat} {s:Vw} {x:Cl} (h:KeS d k s) (hh:SmallH (doNext s x).head) (hl:x.votes.length≤7):KeS d (k+1) (doNext s x):=by
 have h1:=takeV_len s.votes x.votes
 have h2:=h.votes
 refine⟨?_,?_,hh⟩
 ·unfold doNext
  split
  ·exact h.P
  ·split
   ·exact h.P
   ·split<;>exact h.P
 ·unfold doNext
  split
  ·show s.votes.length≤_;omega
  ·split
   ·show(takeV s.votes x.votes).length≤_;omega
   ·split
    ·omega
    ·show(takeV s.votes x.votes).length≤_;omega
theorem blank0_ok:blank0.Ok:=by
 refine⟨?_,?_,?_,?_,?_,?_,?_,?_,?_,?_,?_,?_,?_⟩
 all_goals first|exact⟨by decide,by decide⟩|rfl
theorem eventW_ok (d:Wd) (a:Ac):(eventW d a).Ok∧(eventW d a).name.size≤200∧(eventW d a).text.size≤200:=by
 unfold eventW
 split
 ·exact⟨blank0_ok,by decide,by decide⟩
 ·rename_i h0
  have hn:(lvW d a.second).length≠0:=fun e=>h0 (.inr e)
  obtain⟨e0,he0⟩:∃e,(evsW d a.second)[(a.n % ((lvW d a.second).length:Int)).toNat]? =some e:=⟨_,List.getElem?_eq_getElem (by
   have h1:=Int.emod_nonneg a.n (show((lvW d a.second).length:Int)≠0 by omega)
   have h2:=Int.emod_lt_of_pos a.n (show(0:Int) < ((lvW d a.second).length:Int) by omega)
   rw [←lvW_len]
   omega)⟩
  have hk:=evsW_ok (List.mem_of_getElem? he0)
  rw [he0]
  simp only [Option.getD_some]
  split
  ·refine⟨{ hk.1 with},Nat.le_trans hk.2.1 (by omega),?_⟩
   show(e0.text++ (⟨#[32]⟩:ByteArray)).size≤200
   rw [ByteArray.size_append]
   have h3:=hk.2.2
   show e0.text.size+1≤200
   omega
  ·exact⟨hk.1,Nat.le_trans hk.2.1 (by omega),Nat.le_trans hk.2.2 (by omega)⟩
theorem makeW_ok (d:Wd) (a:Ac) (_ha:a.Ok):(makeW d a).Ok:=by
 have hl:((lvW d a.second).take (a.size % (((lvW d a.second).length:Int) +1)).toNat).length≤1000:=by
  rw [List.length_take]
  have:=lvW_le d a.second
  omega
 refine⟨⟨by show 0≤a.what % 6;omega,by show a.what % 6<6;omega⟩,bidW_ok _,rfl,(eventW_ok d a).1,Nat.le_trans (eventW_ok d a).2.1 (by omega),Nat.le_trans (eventW_ok d a).2.2 (by omega),?_,?_,votesW_ok d (hdOf_ok hl) _ _,votesW_small d (hdOf_small hl) _ _,Nat.le_trans (votesW_len _ _ _ _) (by omega),_,fun v hv=>votesW_head hv⟩
 ·show HsOk (if 0≤a.b0 then bentL (proofW d a) a.b0 a.b1 else proofW d a)
  split
  ·exact bentL_ok (proofW_ok d a) _ _
  ·exact proofW_ok d a
 ·show(if 0≤a.b0 then bentL (proofW d a) a.b0 a.b1 else proofW d a).length≤100000
  have h1:=proofW_len d a
  split
  ·have h2:=bentL_len (Q:=proofW d a) a.b0 a.b1
   omega
  ·omega
set_option maxRecDepth 100000 in
set_option maxHeartbeats 4000000 in
theorem keeps_law (d:Wd) (hd:d.Ok) (kA:Option Addr) (kc:Nat) (S:List Ac) (hS:∀a∈S,a.Ok) (sv:Value) (w:World) (hsv:AcSl w sv S) (hkd:KdAt w kA d.kinds) (hkl:d.kinds.length≤1000000000) (ht:Tab w):
  Calls Tryz.prog 10 #[.agg (wdC d kA kc),sv] w fun e w'=>e= .returned (.bool true)∧Only NoneOf w w':=by
 obtain⟨B,eB⟩:∃B,B=w.heap.size:=⟨_,rfl⟩
 have hS0:Blk (w.alloc (.cells (wdC d kA kc) tWd)) B tWd (wdC d kA kc)∧Only NoneOf w (w.alloc (.cells (wdC d kA kc) tWd)):=⟨by rw [eB];exact Blk.new w _ _,(Only.refl _ _).alloc _⟩
 obtain⟨WV,eWV⟩:∃v:Array Value,v=wdC d kA kc:=⟨_,rfl⟩
 obtain⟨N,eN⟩:∃n,n=(setW d).length:=⟨_,rfl⟩
 have hN0:N≠0:=by rw [eN];unfold setW;rw [List.length_append];exact Nat.succ_ne_zero _
 have hN1:N≤1000:=by rw [eN];exact setW_len d
 have hsan:∀W,Only NoneOf w W→Calls Tryz.prog 11 #[] W fun e w'=>e= .returned (.bool true)∧Only NoneOf W w':=fun W ho=>sanity31 W (ht.none ho)
 have hset:∀W,Calls Tryz.prog 18 #[.agg WV] W fun e' w'=> ∃g cap,e'= .returned (setV (.slice (some ⟨g,0,none⟩) N cap))∧W.heap.size≤g∧Room w' g 67 (N * 3)∧PerSl w' (.slice (some ⟨g,0,none⟩) N cap) (setW d)∧Only NoneOf W w':=fun W=>by
  rw [eWV]
  refine(wsetup_own d hd kA kc W).mono ?_
  rintro e' w' ⟨pv,h1,h2,h3⟩
  have h4:=PerOwn.sl h2
  rcases own_room h2 with⟨h0,_⟩|⟨g,cap,rfl,hg,hr⟩
  ·exact absurd (eN.trans h0) hN0
  ·rw [←eN] at h1 h4 hr
   exact⟨g,cap,h1,hg,hr,h4,h3⟩
 have HS0:=Lib.hid hS0
 have EB:=Lib.hid eB
 have EWV:=Lib.hid eWV
 have EN:=Lib.hid eN
 have HSAN:=Lib.hid hsan
 have HSET:=Lib.hid hset
 have HKD:=Lib.hid hkd
 have HT:=Lib.hid ht
 have HSV:=Lib.hid hsv
 have HSO:=Lib.hid hS
 obtain⟨sA,scap,rfl,hsl,hsm,_⟩:=id hsv
 clear hS0 eB eWV eN hsan hset hkd ht hsv hS
 go_enter Tryz.func10,Tryz.ntmps10
 go_upto_region 1 with(fail)
 rw [←EB.out]
 refine wp_gen (fun Z=>Blk Z B tWd (wdC d kA kc)∧Only NoneOf w Z) HS0.out ?_
 clear HS0
 rintro Z ⟨hB,hO⟩
 have HZ:=Lib.hid (And.intro hB hO)
 clear hB hO
 go_wp2_with fail
 refine(HSAN.out _ HZ.out.2).mono ?_
 rintro e1 w1 ⟨rfl,ho1⟩
 have hB1:=HZ.out.1.only ho1 (fun e=>e)
 have l1:=wd_load hB1
 rw [←EWV.out] at l1
 have H1:=Lib.hid (And.intro hB1 (HZ.out.2.trans ho1))
 clear hB1 ho1 HZ
 go_wp2_with fail
 refine(HSET.out _).mono ?_
 rintro e2 w2 ⟨gP,pc,rfl,hg2,hr2,hp2,ho2⟩
 have hst2:=su_store (n:=N) (c:=pc) (A:=some ⟨gP,0,none⟩) (Blk.new w2 tSu #[.slice none 0 0,.int .i64 0,.slice none 0 0,.slice none 0 0,.int .i64 0,.int .i64 0]) rfl
 have hD0:∃D,D=w2.heap.size:=⟨_,rfl⟩
 obtain⟨D,eD⟩:=hD0
 have ho3:Only NoneOf w2 ((w2.alloc (.cells #[.slice none 0 0,.int .i64 0,.slice none 0 0,.slice none 0 0,.int .i64 0,.int .i64 0] tSu)).setCells w2.heap.size 0 [.slice (some ⟨gP,0,none⟩) N pc,.int .i64 0,.slice none 0 0,.slice none 0 0,.int .i64 0,.int .i64 0]):=only_setCells ((Only.refl _ _).alloc _) _ _ (.inr (Nat.le_refl _)) _
 have hb3:=filled_whole (ds:= [.slice (some ⟨gP,0,none⟩) N pc,.int .i64 0,.slice none 0 0,.slice none 0 0,.int .i64 0,.int .i64 0]) (Blk.new w2 tSu #[.slice none 0 0,.int .i64 0,.slice none 0 0,.slice none 0 0,.int .i64 0,.int .i64 0]) rfl
 have hlt2:=H1.out.1.only ho2 (fun e=>e)
 have hy0:(Blk ((w2.alloc (.cells #[.slice none 0 0,.int .i64 0,.slice none 0 0,.slice none 0 0,.int .i64 0,.int .i64 0] tSu)).setCells w2.heap.size 0 [.slice (some ⟨gP,0,none⟩) N pc,.int .i64 0,.slice none 0 0,.slice none 0 0,.int .i64 0,.int .i64 0]) B tWd (wdC d kA kc))∧(Blk ((w2.alloc (.cells #[.slice none 0 0,.int .i64 0,.slice none 0 0,.slice none 0 0,.int .i64 0,.int .i64 0] tSu)).setCells w2.heap.size 0 [.slice (some ⟨gP,0,none⟩) N pc,.int .i64 0,.slice none 0 0,.slice none 0 0,.int .i64 0,.int .i64 0]) D tSu (suC (.slice (some ⟨gP,0,none⟩) N pc)))∧Room ((w2.alloc (.cells #[.slice none 0 0,.int .i64 0,.slice none 0 0,.slice none 0 0,.int .i64 0,.int .i64 0] tSu)).setCells w2.heap.size 0 [.slice (some ⟨gP,0,none⟩) N pc,.int .i64 0,.slice none 0 0,.slice none 0 0,.int .i64 0,.int .i64 0]) gP 67 (N * 3)∧PerSl ((w2.alloc (.cells #[.slice none 0 0,.int .i64 0,.slice none 0 0,.slice none 0 0,.int .i64 0,.int .i64 0] tSu)).setCells w2.heap.size 0 [.slice (some ⟨gP,0,none⟩) N pc,.int .i64 0,.slice none 0 0,.slice none 0 0,.int .i64 0,.int .i64 0]) (.slice (some ⟨gP,0,none⟩) N pc) (setW d)∧Only NoneOf w ((w2.alloc (.cells #[.slice none 0 0,.int .i64 0,.slice none 0 0,.slice none 0 0,.int .i64 0,.int .i64 0] tSu)).setCells w2.heap.size 0 [.slice (some ⟨gP,0,none⟩) N pc,.int .i64 0,.slice none 0 0,.slice none 0 0,.int .i64 0,.int .i64 0]):=
  ⟨hlt2.only ho3 (fun e=>e),by rw [eD];exact hb3,hr2.keep ho3 (fun e=>e),hp2.only ho3,(H1.out.2.trans ho2).trans ho3⟩
 have hgP:w.heap.size≤gP∧gP≠D∧gP≠B:=⟨Nat.le_trans H1.out.2.size hg2,by have:=hr2.lt;omega,by have:=H1.out.1.lt;omega⟩
 have HY0:=Lib.hid hy0
 have ED:=Lib.hid eD
 have HGP:=Lib.hid hgP
 clear hy0 hlt2 ho3 hb3 hp2 hr2 hg2 ho2 H1 eD hgP l1
 unfold setV
 go_upto_region 3 with(fail)
 rw [←ED.out]
 refine wp_gen (fun Z=>Blk Z B tWd (wdC d kA kc)∧Blk Z D tSu (suC (.slice (some ⟨gP,0,none⟩) N pc))∧Room Z gP 67 (N * 3)∧PerSl Z (.slice (some ⟨gP,0,none⟩) N pc) (setW d)∧Only NoneOf w Z) (by rw [ED.out] at HY0⊢;exact HY0.out) ?_
 clear HY0 hst2 ED
 rintro Y ⟨hY1,hY2,hY3,hY4,hY5⟩
 have HY:=Lib.hid (And.intro hY1 (And.intro hY2 (And.intro hY3 (And.intro hY4 hY5))))
 have HP0:Hid (PersOk (setW d)):=Lib.hid (setW_ok d)
 clear hY1 hY2 hY3 hY4 hY5
 have hS0:Only NoneOf Y Y:=Only.refl _ _
 have hS1:Only NoneOf Y Y.drew:=(Only.refl _ _).drew
 have hld:∀W,Only NoneOf Y W→(wdLoad (.pointer (some ⟨B,0,none⟩))).run Tryz.prog W= .ok (.agg WV) W:=fun W h=>by rw [EWV.out];exact wd_load (HY.out.1.only h (fun e=>e))
 have hsl:∀W,Only NoneOf Y W→(suLoad (.pointer (some ⟨D,0,none⟩))).run Tryz.prog W= .ok (setV (.slice (some ⟨gP,0,none⟩) N pc)) W:=fun W h=>su_load (blk_range (cs:= [.slice (some ⟨gP,0,none⟩) N pc,.int .i64 0,.slice none 0 0,.slice none 0 0,.int .i64 0,.int .i64 0]) (HY.out.2.1.only h (fun e=>e)))
 have n1:∀W,Only NoneOf Y W→Calls Tryz.prog 17 #[.int .i64 60,setV (.slice (some ⟨gP,0,none⟩) N pc)] W fun e w'=> ∃C,e= .returned (.pointer (some ⟨C,0,none⟩))∧Has w W.heap.size C w'.heap.size (keV d) w'∧Only NoneOf W w':=fun W h=>has_new w 60 (setW d) (setW_len d) _ W (HY.out.2.2.2.2.trans h) (HY.out.2.2.2.1.only h)
 have n2:∀W pv,Only NoneOf Y W→PerSl W pv (setW d)→Calls Tryz.prog 17 #[.int .i64 60,setV pv] W fun e w'=> ∃C,e= .returned (.pointer (some ⟨C,0,none⟩))∧Has w W.heap.size C w'.heap.size (keV d) w'∧Only NoneOf W w':=fun W pv h hp=>has_new w 60 (setW d) (setW_len d) pv W (HY.out.2.2.2.2.trans h) hp
 have N1:=Lib.hid n1
 have N2:=Lib.hid n2
 clear n1 n2
 go_cut [7,8] (fun p q wx=> ∃C1 C2 base top,p= .pointer (some ⟨C1,0,none⟩)∧q= .pointer (some ⟨C2,0,none⟩)∧TwoC w base C1 C2 top (keV d) (keV d) wx∧Y.heap.size≤base∧Only NoneOf Y wx)
 case first=>
  go_region_held3 (fun W=>Only NoneOf Y W) (first|(with_reducible assumption))
   (first
    |(go_at_call 17;(with_reducible refine(N1.out _ (by with_reducible assumption)).mono ?_);rintro e3 w3 ⟨C1,rfl,hh3,ho3⟩;have hS3:=Only.trans (by with_reducible assumption) ho3)
    |(go_at_call 18;(with_reducible refine(HSET.out _).mono ?_);rintro e4 w4 ⟨g4,pc4,rfl,hg4,hr4,hp4,ho4⟩;have hS4:=Only.trans (by with_reducible assumption) ho4)
    |(go_at_call 17;(with_reducible refine(N2.out _ _ (by with_reducible assumption) (by with_reducible assumption)).mono ?_);rintro e5 w5 ⟨C2,rfl,hh5,ho5⟩;have hS5:=Only.trans (by with_reducible assumption) ho5))
  all_goals
   clear hld hsl
   go_wp2_with fail
   go_meet
   case rel=>exact⟨C1,C2,_,_,rfl,rfl,TwoC.made hh3 ho4 hh5 ho4.size (Nat.le_trans ho3.size ho4.size) rfl ho5,Nat.le_refl _,hS5⟩
 case rest=>
 obtain⟨C1,C2,base,top,rfl,rfl,hT0,hbY,hoY⟩:=hcut
 have hK0:KeP w B D base C1 C2 d kA kc (.slice (some ⟨gP,0,none⟩) N pc) gP N wc:=
  ⟨HY.out.1.only hoY (fun e=>e),HY.out.2.1.only hoY (fun e=>e),HY.out.2.2.1.keep hoY (fun e=>e),⟨HGP.out.1,Nat.lt_of_lt_of_le HY.out.2.2.1.lt hbY,Nat.lt_of_lt_of_le HY.out.1.lt hbY,HGP.out.2.1,HGP.out.2.2⟩,top,hT0⟩
 have HK0:=Lib.hid hK0
 have s0:=hK0.su.cell 0
 unfold suC at s0
 simp only [List.getElem?_toArray,List.getElem?_cons_zero] at s0
 clear hT0 hbY hoY hK0 hld hsl N1 N2 HY hS0 hS1 HGP
 go_wp2_with fail
 clear s0
 go_loopw [29] (fun i wr=> ∃k:Nat,i= .int .i64 (k:Int)∧k≤N∧KeP w B D base C1 C2 d kA kc (.slice (some ⟨gP,0,none⟩) N pc) gP N wr) (fun i _=>N - (intOf i).toNat)
 case atStart=>exact⟨0,rfl,Nat.zero_le _,HK0.out⟩
 case round=>
  clear HK0
  obtain⟨k,rfl,hkN,hK⟩:=hrel
  have s0:=hK.su.cell 0
  unfold suC at s0
  simp only [List.getElem?_toArray,List.getElem?_cons_zero] at s0
  by_cases hlt:k<N
  ·have dd:decide ((k:Int) < (N:Int))=true:=decide_eq_true (by omega)
   have ik:(k:Int) < (N:Int):=by omega
   have hst:=ps_zero hK.room hlt
   have hz:=zbPs_run wr
   have hK2:=hK.zero hlt
   have HK2:=Lib.hid hK2
   clear hK hK2
   go_wp2_with fail
   go_roundw
   case rel=>exact⟨k+1,by go_num,by omega,HK2.out⟩
   case measure=>simp [intOf];omega
  ·have dd:decide ((k:Int) < (N:Int))=false:=decide_eq_false (by omega)
   have HK:=Lib.hid hK
   clear hK
   go_wp2_with fail
   have hL0:KeL w B base C1 C2 d kA kc (keV d) wr:=⟨HK.out.wd,HK.out.lo.2.2.1,HK.out.two⟩
   have HL0:=Lib.hid hL0
   clear hL0 HK dd s0 hlt hkN
   go_loopw [10] (fun i wr=> ∃(k:Nat) (s:Vw),i= .int .i64 (k:Int)∧k≤10∧k≤S.length∧KeS d k s∧KeL w B base C1 C2 d kA kc s wr) (fun i _=>10 - (intOf i).toNat)
   case atStart=>exact⟨0,keV d,rfl,by omega,by omega,⟨rfl,Nat.le_refl _,hd0_small⟩,HL0.out⟩
   case round=>
    clear HL0
    obtain⟨k,s,rfl,hk10,hkS,hKS,hL⟩:=hrel
    have HKS:=Lib.hid hKS
    have HL:=Lib.hid hL
    clear hKS hL
    by_cases hlt:k<S.length∧k<10
    ·obtain⟨hlt,hl10⟩:=hlt
     have d1:decide ((k:Int) < (S.length:Int))=true:=decide_eq_true (by omega)
     have d2:decide ((k:Int) <10)=true:=decide_eq_true (by omega)
     obtain⟨a,hak⟩:∃a,S[k]? =some a:=⟨_,List.getElem?_eq_getElem hlt⟩
     have haok:=HSO.out a (List.mem_of_getElem? hak)
     obtain⟨top0,htw0⟩:=HL.out.two
     have how:=htw0.only
     obtain⟨gA,oA,hgA,hrA⟩:∃g o,sA=some ⟨g,o,none⟩∧wr.rangeAt g (o+k * 9) (acC a).toList:=by
      obtain⟨A,cap,e9,_,_,h9⟩:=HSV.out.only how
      cases e9
      obtain⟨g,o,h1,_,h2⟩:=h9 k a hak
      exact⟨g,o,h1,h2⟩
     subst hgA
     obtain⟨AV,eAV⟩:∃v:Array Value,v=acC a:=⟨_,rfl⟩
     obtain⟨x,ex⟩:∃x,x=makeW d a:=⟨_,rfl⟩
     have hxok:x.Ok:=by rw [ex];exact makeW_ok d a haok
     have hld:∀W,Only NoneOf wr W→(wdLoad (.pointer (some ⟨B,0,none⟩))).run Tryz.prog W= .ok (.agg WV) W:=fun W h=>by rw [EWV.out];exact wd_load (HL.out.wd.only h (fun e=>e))
     have hac:∀W,Only NoneOf wr W→(acLd (.pointer (some ⟨gA,oA+k * 9,none⟩))).run Tryz.prog W= .ok (.agg AV) W:=fun W h=>by rw [eAV];exact ac_ld (range_only hrA h)
     have mk:∀W,Only NoneOf wr W→Calls Tryz.prog 23 #[.agg WV,.agg AV] W fun e w'=> ∃G gv rv,e= .returned (.agg (clL x.what x.bid (some ⟨G,0,none⟩) 1 x.ev gv rv).toArray)∧KeM W.heap.size x G gv rv w'∧Only NoneOf W w':=fun W h=>by
      rw [EWV.out,eAV,ex]
      refine(wmake_any d hd a haok kA kc W (HKD.out.none_ (how.trans h)) hkl (HT.out.none (how.trans h))).mono ?_
      rintro e w' ⟨G,gv,rv,h1,h2,h3,h4,h5,h6⟩
      exact⟨G,gv,rv,h1,⟨h3,h2,h4,h5⟩,h6⟩
     have ik:(k:Int) < (S.length:Int):=by omega
     have ik0:(0:Int)≤(k:Int):=by omega
     have MK:=Lib.hid mk
     have EX:=Lib.hid ex
     have HXO:=Lib.hid hxok
     have HOW:=Lib.hid how
     have HTW:=Lib.hid htw0
     clear mk ex eAV hrA hak haok how htw0 hxok
     go_upto_region 12 with(fail)
     obtain⟨z1,z11,z12,z2,n1,n2,k1,k2,a1,a2⟩:=ZLaws.all tCl cl0.toArray wr
     have zs1:=fun W N G gv rv hg hr hz=>zc_cl (X:=wr) (x:=x) HXO.out.ev.prev W N G gv rv hg hr hz
     have zs2:=fun W N M vs G gv rv hne hg hr hz=>zc_cl2 (X:=wr) (x:=x) HXO.out.ev.prev W N M vs G gv rv hne hg hr hz
     have hnw:=clNew_run
     have hX0:Only NoneOf wr wr:=Only.refl _ _
     have hX1:Only NoneOf wr wr.drew:=(Only.refl _ _).drew
     have HALD:Hid (∀(W:World) o,Only NoneOf wr W.drew→Only NoneOf wr (W.alloc o).drew):=Lib.hid (fun W o h=> (Only.alloc h o))
     go_cut [11,12] (fun p q wx=> ∃M1 M2 G1 gv1 rv1 G2 gv2 rv2,p= .pointer (some ⟨M1,0,none⟩)∧q= .pointer (some ⟨M2,0,none⟩)∧KeT wr M1 M2 x G1 gv1 rv1 G2 gv2 rv2 wx)
     case first=>
      as_aux_lemma=>
       go_region_held3 (fun W=>Only NoneOf wr W) (first|(with_reducible assumption)|(with_reducible exact a1 _ _ (by with_reducible assumption))|(with_reducible exact HALD.out _ _ (by with_reducible assumption))|(simp [*]))
        (first
         |((fail_if_success (have tst:=hm3));go_at_call 23;(with_reducible refine(MK.out _ (by with_reducible first|assumption|exact HALD.out _ _ (by with_reducible assumption))).mono ?_);rintro e3 w3 ⟨G1,gv1,rv1,rfl,hm0,ho3⟩;have hm3:=KeM.lower (b':=wr.heap.size) hm0 (Only.size (S:=NoneOf) (by with_reducible first|assumption|exact HALD.out _ _ (by with_reducible assumption)|exact HALD.out _ _ (HALD.out _ _ hX1)));clear hm0;have hS3:=Only.trans (by with_reducible first|assumption|exact HALD.out _ _ (by with_reducible assumption)|exact HALD.out _ _ (HALD.out _ _ hX1)) ho3;have hg3:=hm3.one1;have hr3:=hm3.one2;(try(have y1:ZBl tCl cl0.toArray wr w3 wr.heap.size:=ZBl.step (by first|exact ZBl.newd hX0|exact(ZBl.new hX0).allocd _) ho3));(try(have y2:ZBl tCl cl0.toArray wr w3 (wr.heap.size+1):=ZBl.step (W:=((wr.alloc _).alloc _).drew) (z12 wr _ hX0) ho3));clear ho3)
         |(go_at_call 23;(with_reducible refine(MK.out _ (by with_reducible first|assumption|exact a1 _ _ (by with_reducible assumption)|exact a2 _ _ _ (by with_reducible assumption))).mono ?_);rintro e4 w4 ⟨G2,gv2,rv2,rfl,hm0,ho4⟩;have hm4:=KeM.lower (b':=wr.heap.size) hm0 (Only.size (S:=NoneOf) (by with_reducible first|assumption|exact a1 _ _ (by with_reducible assumption)|exact a2 _ _ _ (by with_reducible assumption)));clear hm0;have hS4:=Only.trans (by with_reducible first|assumption|exact a1 _ _ (by with_reducible assumption)|exact a2 _ _ _ (by with_reducible assumption)) ho4;have hg4:=hm4.one1;have hr4:=hm4.one2;have hm5:=KeM.keep (by first|exact hm3|exact hm3.keep ((Only.refl NoneOf _).alloc _)|exact hm3.keep (((Only.refl NoneOf _).alloc _).alloc _)) ho4;(try(have y3:ZBl tCl cl0.toArray wr w4 wr.heap.size:=ZBl.step (by first|exact y1|exact y1.alloc _|exact(y1.alloc _).alloc _) ho4));(try(have y4:ZBl tCl cl0.toArray wr w4 (wr.heap.size+1):=ZBl.step (by first|exact y2|exact y2.alloc _|exact(y2.alloc _).alloc _) ho4));(try(have y5:ZBl tCl cl0.toArray wr w4 w3.heap.size:=ZBl.step (by first|exact ZBl.new hS3|exact(ZBl.new hS3).alloc _) ho4));(try(have y6:ZBl tCl cl0.toArray wr w4 (w3.heap.size+1):=ZBl.step (z12 w3 _ hS3) ho4));clear ho4))
       all_goals
        clear hnw zs1 zs2 hld hac
        go_wp2_with fail
        go_meet
        case rel=>exact⟨_,_,G1,gv1,rv1,G2,gv2,rv2,rfl,rfl,KeT.made HXO.out.ev.prev (by simp [*]) (by simp [*]) (by simp [*]) (by simp [*]) (by first|exact hm5|exact hm5.keep ((Only.refl NoneOf _).alloc _)|exact hm5.keep (((Only.refl NoneOf _).alloc _).alloc _)) (by first|exact hm4|exact hm4.keep ((Only.refl NoneOf _).alloc _)|exact hm4.keep (((Only.refl NoneOf _).alloc _).alloc _)) (Nat.le_refl _) (Nat.le_refl _)⟩
     case rest=>
     obtain⟨M1,M2,G1,gv1,rv1,G2,gv2,rv2,rfl,rfl,hT⟩:=hcut
     have HTT:=Lib.hid hT
     clear hT z1 z11 z12 z2 n1 n2 k1 k2 a1 a2 zs1 zs2 hnw hX0 hX1 HALD hld hac
     obtain⟨mid,emid⟩:∃n,n=wc.heap.size:=⟨_,rfl⟩
     have hI:KeI top0 mid M1 M2 G1 gv1 rv1 G2 gv2 rv2:=by
      have h1:=HTW.out.size
      obtain⟨l1,l2,_⟩:=HTT.out.lo
      have k1:=HTT.out.c1.lt
      have k2:=HTT.out.c2.lt
      have k3:=HTT.out.m1.com.lt
      have k4:=HTT.out.m2.com.lt
      have k5:=HTT.out.m1.lo
      have k6:=HTT.out.m2.lo
      rw [←emid] at k1 k2 k3 k4
      exact⟨⟨by omega,k1⟩,⟨by omega,k2⟩,⟨by omega,k3⟩,⟨by omega,k4⟩,inG_own HTT.out.m1.pf h1 (fun g hg=>by rw [emid];exact(own_ge HTT.out.m1.pf hg).2),inG_own HTT.out.m2.pf h1 (fun g hg=>by rw [emid];exact(own_ge HTT.out.m2.pf hg).2),inG_own HTT.out.m1.vt h1 (fun g hg=>by rw [emid];exact(own_ge HTT.out.m1.vt hg).2),inG_own HTT.out.m2.vt h1 (fun g hg=>by rw [emid];exact(own_ge HTT.out.m2.vt hg).2)⟩
     have hX0:KeX wr.heap.size B d kA kc M1 M2 x G1 gv1 rv1 G2 gv2 rv2 wc:=⟨HL.out.wd.only HTT.out.only (fun e=>e),HTT.out.c1,HTT.out.c2,HTT.out.m1,HTT.out.m2⟩
     have hG0:TwoG w base top0 mid C1 C2 s s wc:=by rw [emid];exact HTW.out.gap HTT.out.only
     obtain⟨s',es'⟩:∃s',s'=doNext s x:=⟨_,rfl⟩
     obtain⟨r,er⟩:∃r,r=doRes s x:=⟨_,rfl⟩
     have hP:s.P=setW d:=HKS.out.P
     have hqc:x.bid.qc= [4]:=by rw [EX.out];rfl
     have k1:∀W,KeX wr.heap.size B d kA kc M1 M2 x G1 gv1 rv1 G2 gv2 rv2 W→TwoG w base top0 mid C1 C2 s s W→Calls Tryz.prog 25 #[.pointer (some ⟨C1,0,none⟩),.agg (clL x.what x.bid (some ⟨G1,0,none⟩) 1 x.ev gv1 rv1).toArray] W fun e w'=>e= .returned (.int .i64 r)∧TwoG w base top0 mid C1 C2 s' s w'∧KeX wr.heap.size B d kA kc M1 M2 x G1 gv1 rv1 G2 gv2 rv2 w'∧SmallH s'.head:=fun W hX hG=>by
      rw [er,es']
      refine(gap_do w HT.out (by rw [hP];exact setW_ok d) (by rw [hP];exact setW_pub d) (by rw [hP];exact setW_len d) HKS.out.head (by have:=HKS.out.votes;omega) x HXO.out _ 1 gv1 rv1 W hG (by rw [hqc];exact com_int hX.m1.com) (hX.m1.pf.sl HXO.out.proof) hI.q1 (hX.m1.vt.sl HXO.out.votes) hI.v1).mono ?_
      rintro e w' ⟨h1,h2,h3,h4⟩
      exact⟨h1,h2,hX.near h3 HL.out.lo hI,h4⟩
     have k2:∀W,KeX wr.heap.size B d kA kc M1 M2 x G1 gv1 rv1 G2 gv2 rv2 W→TwoG w base top0 mid C1 C2 s' s W→Calls Tryz.prog 25 #[.pointer (some ⟨C2,0,none⟩),.agg (clL x.what x.bid (some ⟨G2,0,none⟩) 1 x.ev gv2 rv2).toArray] W fun e w'=>e= .returned (.int .i64 r)∧TwoG w base top0 mid C1 C2 s' s' w'∧KeX wr.heap.size B d kA kc M1 M2 x G1 gv1 rv1 G2 gv2 rv2 w':=fun W hX hG=>by
      rw [er]
      refine(gap_do w HT.out (by rw [hP];exact setW_ok d) (by rw [hP];exact setW_pub d) (by rw [hP];exact setW_len d) HKS.out.head (by have:=HKS.out.votes;omega) x HXO.out _ 1 gv2 rv2 W hG.swap (by rw [hqc];exact com_int hX.m2.com) (hX.m2.pf.sl HXO.out.proof) hI.q2 (hX.m2.vt.sl HXO.out.votes) hI.v2).mono ?_
      rintro e w' ⟨h1,h2,h3,_⟩
      rw [←es'] at h2
      exact⟨h1,h2.swap,hX.near h3 HL.out.lo hI⟩
     have hc1:∀W,KeX wr.heap.size B d kA kc M1 M2 x G1 gv1 rv1 G2 gv2 rv2 W→(clLoad (.pointer (some ⟨M1,0,none⟩))).run Tryz.prog W= .ok (.agg (clL x.what x.bid (some ⟨G1,0,none⟩) 1 x.ev gv1 rv1).toArray) W:=fun W h=>cl_load h.c1 HXO.out.ev.prev
     have hc2:∀W,KeX wr.heap.size B d kA kc M1 M2 x G1 gv1 rv1 G2 gv2 rv2 W→(clLoad (.pointer (some ⟨M2,0,none⟩))).run Tryz.prog W= .ok (.agg (clL x.what x.bid (some ⟨G2,0,none⟩) 1 x.ev gv2 rv2).toArray) W:=fun W h=>cl_load h.c2 HXO.out.ev.prev
     have hXd:=hX0.keep (Only.refl NoneOf _).drew
     have hGd:=hG0.keep (Only.refl NoneOf _).drew
     have K1:=Lib.hid k1
     have K2:=Lib.hid k2
     have HI:=Lib.hid hI
     have ES:=Lib.hid es'
     have HLO9:=Lib.hid HTW.out.lo
     clear k1 k2 hI es' er hP hqc emid HTT HTW MK
     go_upto_region 13 with(fail)
     go_cut [66] (fun c wx=>c= .bool false∧KeX wr.heap.size B d kA kc M1 M2 x G1 gv1 rv1 G2 gv2 rv2 wx∧TwoG w base top0 mid C1 C2 s' s' wx∧SmallH s'.head)
     case first=>
      go_region_held3 (fun W=>KeX wr.heap.size B d kA kc M1 M2 x G1 gv1 rv1 G2 gv2 rv2 W) (first|(with_reducible assumption))
       (first
        |(go_at_call 25;(with_reducible refine(K1.out _ (by with_reducible assumption) (by with_reducible assumption)).mono ?_);rintro e3 w3 ⟨rfl,hG3,hX3,hsh⟩)
        |(go_at_call 25;(with_reducible refine(K2.out _ (by with_reducible assumption) (by with_reducible assumption)).mono ?_);rintro e4 w4 ⟨rfl,hG4,hX4⟩))
      all_goals
       clear hc1 hc2
       go_wp2_with fail
       go_meet
       case rel=>exact⟨by simp,by with_reducible assumption,by with_reducible assumption,hsh⟩
     case rest=>
     obtain⟨rfl,hX,hG,hsh⟩:=hcut
     have HSH:=Lib.hid hsh
     have hlo9:=HLO9.out
     obtain⟨qA,qc,rfl,_⟩:=own_form' hX.m1.pf
     obtain⟨vA,vc,rfl,_⟩:=own_form' hX.m1.vt
     have hZ:KeZ w B base top0 mid C1 C2 d kA kc M1 x G1 qA x.proof.length qc vA x.votes.length vc s' wc:=⟨hX.wd,hX.c1,hG,RoomS.of_own hX.m1.vt HI.out.v1,RoomS.of_own hX.m1.pf HI.out.q1,⟨_,hX.m1.com,Nat.le_refl 1⟩,HI.out.g1.1,HI.out.g1.2,hlo9⟩
     obtain⟨vn,evn⟩:∃n,n=x.votes.length:=⟨_,rfl⟩
     obtain⟨qn,eqn⟩:∃n,n=x.proof.length:=⟨_,rfl⟩
     rw [←evn,←eqn] at hZ
     have hvn:vn≤1000:=by rw [evn];exact HXO.out.vlen
     have hqn:qn≤100000:=by rw [eqn];exact HXO.out.plen
     have v53:=cl_votes hZ.c1 HXO.out.ev.prev
     have EVN:=Lib.hid evn
     have HZ:=Lib.hid hZ
     clear hsh hX hG hZ hc1 hc2 hXd hGd hX0 hG0 K1 K2 HI hlo9 evn eqn
     go_wp2_with fail
     clear v53
     go_loopw [70] (fun i wr=> ∃j:Nat,i= .int .i64 (j:Int)∧j≤vn∧KeZ w B base top0 mid C1 C2 d kA kc M1 x G1 qA qn qc vA vn vc s' wr) (fun i _=>vn - (intOf i).toNat)
     case atStart=>exact⟨0,rfl,Nat.zero_le _,HZ.out⟩
     case round=>
      clear HZ
      obtain⟨j,rfl,hjn,hK⟩:=hrel
      have v53:=cl_votes hK.c1 HXO.out.ev.prev
      by_cases hlt:j<vn
      ·have dd:decide ((j:Int) < (vn:Int))=true:=decide_eq_true (by omega)
       have ij:(j:Int) < (vn:Int):=by omega
       rcases hK.rv with h0|⟨g,rfl,hg1,hg2,hr⟩
       ·omega
       ·have hst:=vt_zero hr hlt
        have hz:=zbVt_run wr
        have hK2:=hK.zv hr ⟨hg1,hg2⟩ hlt
        have HK2:=Lib.hid hK2
        clear hK hK2 hr
        go_wp2_with fail
        go_roundw
        case rel=>exact⟨j+1,by go_num,by omega,HK2.out⟩
        case measure=>simp [intOf];omega
      ·have dd:decide ((j:Int) < (vn:Int))=false:=decide_eq_false (by omega)
       have p52:=cl_proof hK.c1 HXO.out.ev.prev
       have HK:=Lib.hid hK
       clear hK v53
       go_wp2_with fail
       clear p52 dd hlt hjn
       go_loopw [82] (fun i wr=> ∃j:Nat,i= .int .i64 (j:Int)∧j≤qn∧KeZ w B base top0 mid C1 C2 d kA kc M1 x G1 qA qn qc vA vn vc s' wr) (fun i _=>qn - (intOf i).toNat)
       case atStart=>exact⟨0,rfl,Nat.zero_le _,HK.out⟩
       case round=>
        clear HK
        obtain⟨j,rfl,hjn,hK⟩:=hrel
        have p52:=cl_proof hK.c1 HXO.out.ev.prev
        by_cases hlt:j<qn
        ·have dd:decide ((j:Int) < (qn:Int))=true:=decide_eq_true (by omega)
         have ij:(j:Int) < (qn:Int):=by omega
         rcases hK.rq with h0|⟨g,rfl,hg1,hg2,hr⟩
         ·omega
         ·have hst:=ha_zero hr hlt
          have hz:=zbHa_run wr
          have hK2:=hK.zq hr ⟨hg1,hg2⟩ hlt
          have HK2:=Lib.hid hK2
          clear hK hK2 hr
          go_wp2_with fail
          go_roundw
          case rel=>exact⟨j+1,by go_num,by omega,HK2.out⟩
          case measure=>simp [intOf];omega
        ·have dd:decide ((j:Int) < (qn:Int))=false:=decide_eq_false (by omega)
         have hqc1:x.bid.qc.length=1:=by rw [EX.out];rfl
         have b4:wr.cell? ⟨M1,3,none⟩=some (.slice (some ⟨G1,0,none⟩) x.bid.qc.length 1):=cl_at hK.c1 rfl
         rw [hqc1] at b4
         have HK:=Lib.hid hK
         have HQ1:=Lib.hid hqc1
         clear hK p52 hqc1
         go_wp2_with fail
         clear b4 dd hlt hjn
         go_loopw [96] (fun i wr=> ∃j:Nat,i= .int .i64 (j:Int)∧j≤1∧KeZ w B base top0 mid C1 C2 d kA kc M1 x G1 qA qn qc vA vn vc s' wr) (fun i _=>1 - (intOf i).toNat)
         case atStart=>exact⟨0,rfl,Nat.zero_le _,HK.out⟩
         case round=>
          clear HK
          obtain⟨j,rfl,hjn,hK⟩:=hrel
          have b4:wr.cell? ⟨M1,3,none⟩=some (.slice (some ⟨G1,0,none⟩) x.bid.qc.length 1):=cl_at hK.c1 rfl
          rw [HQ1.out] at b4
          by_cases hlt:j<1
          ·obtain rfl:j=0:=by omega
           obtain⟨cs,hcs,hcl⟩:=hK.rg
           have c0:∃v,wr.cell? ⟨G1,0,none⟩=some v:=⟨cs[0]'(by omega),by rw [hcs.cell,Array.getElem?_eq_getElem (by omega)]⟩
           obtain⟨u,hu⟩:=c0
           have hf:=hcs.frozen 0
           have hK2:KeZ w B base top0 mid C1 C2 d kA kc M1 x G1 qA qn qc vA vn vc s' (wr.setCell ⟨G1,0,none⟩ (.int .i64 0)):=hK.zg (.int .i64 0)
           have HK2:=Lib.hid hK2
           clear hK hK2 hcs hcl
           go_wp2_with fail
           go_roundw
           case rel=>exact⟨1,by go_num,by omega,HK2.out⟩
           case measure=>simp [intOf]
          ·obtain rfl:j=1:=by omega
           have HK:=Lib.hid hK
           clear hK
           have hbl:∃top,TwoC w base C1 C2 top s' s' wr:=⟨_,HK.out.two.two⟩
           obtain⟨top9,htw⟩:=hbl
           have hks:=HKS.out.next (x:=x) (by rw [←ES.out];exact HSH.out) (by rw [EX.out];exact votesW_len _ _ _ _)
           rw [←ES.out] at hks
           have hcall:=two_blames w HT.out (by rw [hks.P];exact setW_ok d) (by rw [hks.P];exact setW_len d) (by have:=hks.votes;omega) wr htw
           have HCA:=Lib.hid hcall
           have HTW9:=Lib.hid htw
           have HKS':=Lib.hid hks
           clear hcall htw hks
           go_wp2_with fail
           refine HCA.out.mono ?_
           rintro e9 w9 ⟨ov,rfl,hov,ho9⟩
           obtain⟨oA,oc,rfl,_⟩:=own_form' hov
           obtain⟨bn,ebn⟩:∃n,n=(blL s'.P s'.votes).length:=⟨_,rfl⟩
           have hbn:bn≤1000:=by
            rw [ebn]
            show(clashO agT s'.votes (offs s'.P)).length≤1000
            refine Nat.le_trans (clashO_len _ _ _) (Nat.le_trans (offs_len _) ?_)
            rw [HKS'.out.P]
            exact setW_len d
           rw [←ebn] at hov⊢
           have hlo:=HTW9.out.size
           have hY:KeY w B base top9 w9.heap.size C1 C2 d kA kc oA bn s' w9:=⟨HK.out.wd.only ho9 (fun e=>e),HTW9.out.gap ho9,RoomS.of_own hov (inG_own hov hlo (fun g hg=> (own_ge hov hg).2)),HTW9.out.lo⟩
           have HY:=Lib.hid hY
           clear hov ho9 hlo ebn hY
           go_wp2_with fail
           obtain⟨mid9,em9⟩:∃n,n=w9.heap.size:=⟨_,rfl⟩
           rw [←em9] at HY
           clear em9
           go_loopw [110] (fun i wr=> ∃j:Nat,i= .int .i64 (j:Int)∧j≤bn∧KeY w B base top9 mid9 C1 C2 d kA kc oA bn s' wr) (fun i _=>bn - (intOf i).toNat)
           case atStart=>exact⟨0,rfl,Nat.zero_le _,HY.out⟩
           case round=>
            clear HY
            obtain⟨j,rfl,hjn,hK9⟩:=hrel
            by_cases hlt:j<bn
            ·have dd:decide ((j:Int) < (bn:Int))=true:=decide_eq_true (by omega)
             have ij:(j:Int) < (bn:Int):=by omega
             rcases hK9.rb with h0|⟨g,rfl,hg1,hg2,hr⟩
             ·omega
             ·have hst:=bl_zero hr hlt
              have hz:=zbBl_run wr
              have hK2:=hK9.zb hr ⟨hg1,hg2⟩ hlt
              have HK2:=Lib.hid hK2
              clear hK9 hK2 hr
              go_wp2_with fail
              go_roundw
              case rel=>exact⟨j+1,by go_num,by omega,HK2.out⟩
              case measure=>simp [intOf];omega
            ·have dd:decide ((j:Int) < (bn:Int))=false:=decide_eq_false (by omega)
             have hL9:KeL w B base C1 C2 d kA kc s' wr:=⟨hK9.wd,HL.out.lo,_,hK9.two.two⟩
             have HL9:=Lib.hid hL9
             clear hK9 hL9
             go_wp2_with fail
             go_roundw
             case rel=>exact⟨k+1,s',by go_num,by omega,by omega,HKS'.out,HL9.out⟩
             case measure=>simp [intOf];omega
    ·have hks:=HKS.out
     obtain⟨top1,htw⟩:=HL.out.two
     have how:=htw.only
     have hPo:PersOk s.P:=by rw [hks.P];exact setW_ok d
     have hPl:s.P.length≤1000:=by rw [hks.P];exact setW_len d
     have hPv:s.votes.length≤100000:=by have:=hks.votes;omega
     have kb1:∀W,Only NoneOf wr W→Calls Tryz.prog 20 #[.pointer (some ⟨C1,0,none⟩)] W fun e w'=> ∃ov,e= .returned ov∧BlSl w' ov (blL s.P s.votes)∧Only NoneOf W w':=fun W h=>has_blames w HT.out hPo hPl hPv W (htw.left.keep h)
     have kb2:∀W,Only NoneOf wr W→Calls Tryz.prog 20 #[.pointer (some ⟨C2,0,none⟩)] W fun e w'=> ∃ov,e= .returned ov∧BlSl w' ov (blL s.P s.votes)∧Only NoneOf W w':=fun W h=>has_blames w HT.out hPo hPl hPv W (htw.right.keep h)
     have ks1:∀W,Only NoneOf wr W→Calls Tryz.prog 22 #[.pointer (some ⟨C1,0,none⟩)] W fun e w'=>e= .returned (.bool (s.rc && (blL s.P s.votes).isEmpty))∧Only NoneOf W w':=fun W h=>has_safe w HT.out hPo hPl hPv W (htw.left.keep h)
     have ks2:∀W,Only NoneOf wr W→Calls Tryz.prog 22 #[.pointer (some ⟨C2,0,none⟩)] W fun e w'=>e= .returned (.bool (s.rc && (blL s.P s.votes).isEmpty))∧Only NoneOf W w':=fun W h=>has_safe w HT.out hPo hPl hPv W (htw.right.keep h)
     obtain⟨bs,ebs⟩:∃b,b=(s.rc && (blL s.P s.votes).isEmpty):=⟨_,rfl⟩
     rw [←ebs] at ks1 ks2
     obtain⟨BL,eBL⟩:∃l,l=blL s.P s.votes:=⟨_,rfl⟩
     rw [←eBL] at kb1 kb2
     have hsame:∀W v1 v2,BlSl W v1 BL→BlSl W v2 BL→Calls Tryz.prog 35 #[v1,v2] W fun e w'=>e= .returned (.bool true)∧Only NoneOf W w':=fun W v1 v2 h1 h2=>same_any BL v1 v2 W h1 h2
     have KB1:=Lib.hid kb1
     have KB2:=Lib.hid kb2
     have KS1:=Lib.hid ks1
     have KS2:=Lib.hid ks2
     have HSM:=Lib.hid hsame
     have HOW:=Lib.hid how
     have hX0:Only NoneOf wr wr:=Only.refl _ _
     have hX1:Only NoneOf wr wr.drew:=(Only.refl _ _).drew
     have hdd:(decide ((k:Int) < (S.length:Int))=false∧¬(k:Int) < (S.length:Int))∨(decide ((k:Int) < (S.length:Int))=true∧(k:Int) < (S.length:Int)∧decide ((k:Int) <10)=false∧¬(k:Int) <10):=by
      by_cases h1:k<S.length
      ·exact .inr ⟨decide_eq_true (by omega),by omega,decide_eq_false (by omega),by omega⟩
      ·exact .inl ⟨decide_eq_false (by omega),by omega⟩
     clear kb1 kb2 ks1 ks2 hsame how hPo hPl hPv hks htw ebs eBL
     have hbb:(bs==bs)=true:=by simp
     rcases hdd with⟨d1,i1⟩|⟨d1,i1,d2,i2⟩
     all_goals
      go_wp2_with fail
      refine(KB1.out _ hX0).mono ?_
      rintro e1 w1 ⟨ov1,rfl,hb1,ho1⟩
      have H1:=Lib.hid (And.intro hb1 ho1)
      clear hb1 ho1
      go_wp2_with fail
      refine(KB2.out _ H1.out.2).mono ?_
      rintro e2 w2 ⟨ov2,rfl,hb2,ho2⟩
      have H2:=Lib.hid (And.intro (H1.out.1.only ho2) (And.intro hb2 (H1.out.2.trans ho2)))
      clear hb2 ho2 H1
      go_wp2_with fail
      refine(HSM.out _ _ _ H2.out.1 H2.out.2.1).mono ?_
      rintro e3 w3 ⟨rfl,ho3⟩
      have H3:=Lib.hid (H2.out.2.2.trans ho3)
      clear ho3 H2
      go_wp2_with fail
      refine(KS1.out _ H3.out).mono ?_
      rintro e4 w4 ⟨rfl,ho4⟩
      have H4:=Lib.hid (H3.out.trans ho4)
      clear ho4 H3
      go_wp2_with fail
      refine(KS2.out _ H4.out).mono ?_
      rintro e5 w5 ⟨rfl,ho5⟩
      have H5:=Lib.hid (HOW.out.trans (H4.out.trans ho5))
      clear ho5 H4
      go_wp2_with fail
      go_ret
      exact⟨by simp,H5.out⟩
end Go.Proofs.YtgalfohobgjelaaGreatDoor
