/- What is proved here: a part of the proof that 'probitylaw31.ClientPlays' answers true. Conditions: each theorem's own. -/
import Derived.Test.YtgalfohobgjelaaGreatDoorPy20
set_option maxRecDepth 100000
set_option maxHeartbeats 8000000
namespace Go.Proofs.YtgalfohobgjelaaGreatDoor
section
open Go.RowKit Go.Shelf
attribute [local go_sem ↓ high] ΩaB ΩaF
def Ωc7(K T Pf:Nat):Value:= .func (.func 81) #[] #[.pointer (some ⟨K,0,none⟩),.pointer (some ⟨T,0,none⟩),.pointer (some ⟨Pf,0,none⟩)]
def Ωc0(B F G:Nat):Value:= .func (.func 82) #[] #[.pointer (some ⟨B,0,none⟩),.pointer (some ⟨F,0,none⟩),.pointer (some ⟨G,0,none⟩)]
abbrev Ωm3:TypeId:=139
abbrev Ωm2:TypeId:=140
abbrev tHas:TypeId:=59
structure WkS(w0:World)(B K T Pf F G:Nat)(old:Hd)(v:Value)(Q:List Hs)(X:World)(i:Nat)(b:Bool)(W:World):Prop where
 old:HdAt W B old
 ok:Blk W K 4 #[.bool b]
 at_:Blk W T 3 #[.int .i64 (i:Int)]
 pr:Blk W Pf tHas #[v]
 f:Blk W F Ωm3 #[Ωc7 K T Pf]
 g:Blk W G Ωm2 #[Ωc0 B F G]
 le:i≤Q.length
 lo:w0.heap.size≤K∧w0.heap.size≤T
 only0:Only Ωa w0 W
 only:Only (fun k=>k=K∨k=T) X W
section
variable {w0:World} {B K T Pf F G:Nat} {old:Hd} {v:Value} {Q:List Hs} {X:World} {i:Nat} {b:Bool} {W W' :World}
theorem WkS.keep(h:WkS w0 B K T Pf F G old v Q X i b W)(ho:Only Ωa W W'):WkS w0 B K T Pf F G old v Q X i b W' :=
 ⟨Blk.only h.old ho (fun e=>e),h.ok.only ho (fun e=>e),h.at_.only ho (fun e=>e),h.pr.only ho (fun e=>e),h.f.only ho (fun e=>e),h.g.only ho (fun e=>e),h.le,h.lo,h.only0.trans ho,h.only.trans' ho (fun _ _ e=>e.elim)⟩
theorem WkS.put(h:WkS w0 B K T Pf F G old v Q X i b W){r:Nat}{l:Hs}(hr:HaAt W r l)(h0:w0.heap.size≤r)(hX:X.heap.size≤r)(m:Hs):WkS w0 B K T Pf F G old v Q X i b (W.setCells r 0 (m.map bv)):=
 ⟨Blk.farCells (Blk.ne_ h.old hr (by decide)) _ 0 h.old,Blk.farCells (Blk.ne_ h.ok hr (by decide)) _ 0 h.ok,Blk.farCells (Blk.ne_ h.at_ hr (by decide)) _ 0 h.at_,Blk.farCells (Blk.ne_ h.pr hr (by decide)) _ 0 h.pr,Blk.farCells (Blk.ne_ h.f hr (by decide)) _ 0 h.f,Blk.farCells (Blk.ne_ h.g hr (by decide)) _ 0 h.g,h.le,h.lo,Ωb h.only0 r 0 (.inr h0) _,Ωb h.only r 0 (.inr hX) _⟩
theorem WkS.setK(h:WkS w0 B K T Pf F G old v Q X i b W)(c:Bool):WkS w0 B K T Pf F G old v Q X i c (W.setCell ⟨K,0,none⟩ (.bool c)):=
 ⟨Blk.far (p:=⟨K,0,none⟩) h.old (Blk.ne_ h.old h.ok (by decide)) _,Blk.set_ h.ok 0 _,Blk.far (p:=⟨K,0,none⟩) h.at_ (Blk.ne_ h.at_ h.ok (by decide)) _,Blk.far (p:=⟨K,0,none⟩) h.pr (Blk.ne_ h.pr h.ok (by decide)) _,Blk.far (p:=⟨K,0,none⟩) h.f (Blk.ne_ h.f h.ok (by decide)) _,Blk.far (p:=⟨K,0,none⟩) h.g (Blk.ne_ h.g h.ok (by decide)) _,h.le,h.lo,h.only0.setCell (p:=⟨K,0,none⟩) (.inr h.lo.1) _,h.only.setCell (p:=⟨K,0,none⟩) (.inl (.inl rfl)) _⟩
theorem WkS.setT(h:WkS w0 B K T Pf F G old v Q X i b W){j:Nat}(hj:j≤Q.length):WkS w0 B K T Pf F G old v Q X j b (W.setCell ⟨T,0,none⟩ (.int .i64 (j:Int))):=
 ⟨Blk.far (p:=⟨T,0,none⟩) h.old (Blk.ne_ h.old h.at_ (by decide)) _,Blk.far (p:=⟨T,0,none⟩) h.ok (Blk.ne_ h.ok h.at_ (by decide)) _,Blk.set_ h.at_ 0 _,Blk.far (p:=⟨T,0,none⟩) h.pr (Blk.ne_ h.pr h.at_ (by decide)) _,Blk.far (p:=⟨T,0,none⟩) h.f (Blk.ne_ h.f h.at_ (by decide)) _,Blk.far (p:=⟨T,0,none⟩) h.g (Blk.ne_ h.g h.at_ (by decide)) _,hj,h.lo,h.only0.setCell (p:=⟨T,0,none⟩) (.inr h.lo.2) _,h.only.setCell (p:=⟨T,0,none⟩) (.inl (.inr rfl)) _⟩
theorem WkS.from_(h:WkS w0 B K T Pf F G old v Q X i b W)(Y:World)(ho:Only (fun k=>k=K∨k=T) Y W):WkS w0 B K T Pf F G old v Q Y i b W:=⟨h.old,h.ok,h.at_,h.pr,h.f,h.g,h.le,h.lo,h.only0,ho⟩
theorem HaAt.kt{r:Nat}{l:Hs}(h:HaAt W r l)(hw:WkS w0 B K T Pf F G old v Q X i b W)(ho:Only (fun k=>k=K∨k=T) W W'):HaAt W' r l:=
 Blk.only h ho (fun e=>by
  rcases e with e|e
  ·exact Blk.ne_ h hw.ok (by decide) e
  ·exact Blk.ne_ h hw.at_ (by decide) e)
theorem ΩbL.kt{r:Nat}(h:ΩbL W r)(hw:WkS w0 B K T Pf F G old v Q X i b W)(ho:Only (fun k=>k=K∨k=T) W W'):ΩbL W' r:=by
 obtain⟨l,hl,hb⟩:=h
 exact⟨l,hl,hb.kt hw ho⟩
end
theorem ΩeF{K T:Nat}{a b c:World}(h:Only (fun k=>k=K∨k=T) a b)(k:Only (fun k=>k=K∨k=T) b c):Only (fun k=>k=K∨k=T) a c:=h.trans k
theorem Ωh8(z:Hs)(hz:z.length=32)(Q:List Hs)(hok:HsOk Q)(b:Bool):(ΩaK z (Q,b)).1.length =32:=by
 cases b with
 |false=>rw[Ωe2];exact hz
 |true=>
  cases Q with
  |nil=>exact hz
  |cons t l=>exact hok t (by simp)
theorem take_yes(z:Hs){Q:List Hs}{i:Nat}{t:Hs}(h:Q[i]? =some t):ΩaK z (Q.drop i,true)=(t,Q.drop (i+1),true):=by
 have hlt:=(Ωnx.1 h).1
 have:Q.drop i=t::Q.drop (i+1):=by rw[Ωn7 hlt];rw[Ωnu hlt] at h;rw[Option.some.inj h]
 rw[this];rfl
theorem take_end(z:Hs){Q:List Hs}{i:Nat}(h:Q.length≤i)(b:Bool):ΩaK z (Q.drop i,b)=(z,Q.drop i,false):=by
 rw[Ωoi h]
 cases b<;>rfl
theorem ttake_any(w0:World)(B K T Pf F G:Nat)(old:Hd)(A:Option Addr)(cap:Nat)(Q:List Hs)(hok:HsOk Q)(hQ:Q.length≤100000)(hs:HaSl w0 (.slice A Q.length cap) Q)(X:World)(i:Nat)(b:Bool)(w:World)(h:WkS w0 B K T Pf F G old (.slice A Q.length cap) Q X i b w):
  Calls Tryz.prog 81 #[.pointer (some ⟨K,0,none⟩),.pointer (some ⟨T,0,none⟩),.pointer (some ⟨Pf,0,none⟩)] w fun e w' =>e= .returned (hv (ΩaK Ωr (Q.drop i,b)).1)∧∃j c,(ΩaK Ωr (Q.drop i,b)).2 =(Q.drop j,c)∧WkS w0 B K T Pf F G old (.slice A Q.length cap) Q w j c w' :=by
 have h1:WkS w0 B K T Pf F G old (.slice A Q.length cap) Q w i b w:=h.from_ w (Only.refl _ _)
 have hS0:WkS w0 B K T Pf F G old (.slice A Q.length cap) Q w i b (w.alloc (.cells (Array.replicate 32 (.int .u8 0)) 35)):=h1.keep ((Only.refl _ _).alloc _)
 have hR0:HaAt (w.alloc (.cells (Array.replicate 32 (.int .u8 0)) 35)) w.heap.size Ωr:=by
  unfold HaAt
  rw[ΩaL]
  exact Blk.new w _ _
 obtain⟨N,eN⟩:∃N,N=w.heap.size:=⟨_,rfl⟩
 rw[←eN] at hR0
 have hN0:w0.heap.size≤N:=by rw[eN];exact h.only0.size
 have hNw:w.heap.size≤N:=by omega
 have HS0:=Θ (And.intro hS0 hR0)
 have EN:=Θ eN
 have HOK:=Θ hok
 have HSL:=Θ hs
 have hzl:Ωr.length=32:=rfl
 have HZL:=Θ hzl
 have hle:=h.le
 obtain⟨β,eβ⟩:∃β,β=(b&&decide (i<Q.length)):=⟨_,rfl⟩
 clear hS0 hR0 h1 h eN hs hok hzl
 have hgen:∀(Z:World),WkS w0 B K T Pf F G old (.slice A Q.length cap) Q w i b Z→Z.cell? ⟨K,0,none⟩=some (.bool b)∧Z.cell? ⟨T,0,none⟩=some (.int .i64 (i:Int))∧Z.cell? ⟨Pf,0,none⟩=some (.slice A Q.length cap)∧Z.frozen? ⟨K,0,none⟩=false:=fun Z hZ=>⟨hZ.ok.cell 0,hZ.at_.cell 0,hZ.pr.cell 0,hZ.ok.frozen 0⟩
 have HGEN:=Θ hgen
 clear hgen
 by_cases hb:b=true∧i<Q.length
 ·obtain⟨rfl,hlt⟩:=hb
  obtain⟨t,ht⟩:∃t,Q[i]? =some t:=⟨_,Ωnu hlt⟩
  have htl:=HOK.out t (ΩnE ht)
  rw[take_yes Ωr ht]
  obtain⟨g,o,rfl,hg,hr⟩:=(by obtain⟨A',cap',e,_,_,h3⟩:=HSL.out;cases e;exact h3 i t ht:∃g o,A=some ⟨g,o,none⟩∧g<w0.heap.size∧w0.rangeAt g (o+i*32) (hbC t))
  have hr:w0.rangeAt g (o+i*32) (t.map bv):=hr
  have HR:=Θ hr
  have HTL:=Θ htl
  have d1:decide ((i:Int)<(Q.length:Int))=true:=ΩnG (by omega)
  have i0:(0:Int)≤(i:Int):=by omega
  have i1:(i:Int)<(Q.length:Int):=by omega
  clear ht hr hg htl eβ
  go_enter Tryz.func81,Tryz.ntmps81
  go_upto_region 1 with(fail)
  rw[←EN.out]
  refine Ωf (fun Z=>WkS w0 B K T Pf F G old (.slice (some ⟨g,o,none⟩) Q.length cap) Q w i true Z∧HaAt Z N Ωr) HS0.out ?_
  rintro Z ⟨hZ,hR⟩
  obtain⟨c0,c1,c2,c3⟩:=HGEN.out Z hZ
  have HZ:=Θ (And.intro (hZ.setK true) (Blk.far (p:=⟨K,0,none⟩) hR (Blk.ne_ hR hZ.ok (by decide)) (.bool true)))
  clear hZ hR HS0
  go_upto_region 2 with(fail)
  refine Ωf (fun Z=>WkS w0 B K T Pf F G old (.slice (some ⟨g,o,none⟩) Q.length cap) Q w i true Z∧HaAt Z N Ωr) HZ.out ?_
  clear c0 c1 c2 c3 HZ
  rintro Y ⟨hY,hR⟩
  obtain⟨c0,c1,c2,c3⟩:=HGEN.out Y hY
  have hld:=Ωp (Ωu HR.out hY.only0) HTL.out
  have hst:=ΩK hR HZL.out HTL.out
  have HY:=Θ (And.intro (hY.put hR hN0 hNw t) (hR.put HZL.out HTL.out))
  clear hY hR
  go_upto_region 4 with(fail)
  refine Ωf (fun Z=>WkS w0 B K T Pf F G old (.slice (some ⟨g,o,none⟩) Q.length cap) Q w i true Z∧HaAt Z N t) HY.out ?_
  clear c0 c1 c2 c3 HY hld hst
  rintro V ⟨hV,hR⟩
  have c1:V.cell? ⟨T,0,none⟩=some (.int .i64 (i:Int)):=hV.at_.cell 0
  have c4:V.frozen? ⟨T,0,none⟩=false:=hV.at_.frozen 0
  have hk:(Value.int .i64 ((i:Int)+1))= .int .i64 ((i+1:Nat):Int):=by congr 1
  have hvv:=And.intro (hV.setT (j:=i+1) (by omega)) (Blk.far (p:=⟨T,0,none⟩) hR (Blk.ne_ hR hV.at_ (by decide)) (.int .i64 ((i+1:Nat):Int)))
  rw[←hk] at hvv
  have HV:=Θ hvv
  clear hV hR hvv hk
  go_upto_region 5 with(fail)
  refine Ωf (fun Z=>WkS w0 B K T Pf F G old (.slice (some ⟨g,o,none⟩) Q.length cap) Q w (i+1) true Z∧HaAt Z N t) HV.out ?_
  clear c1 c4 HV
  rintro U ⟨hU,hR⟩
  have hld:=Ωp hR.range HTL.out
  have hst:=ΩK hR HTL.out HTL.out
  have HU:=Θ (And.intro (hU.put hR hN0 hNw t) (hR.put HTL.out HTL.out))
  clear hU hR
  go_wp2_with fail
  refine bodyPost_ret (v:=hv t) (Ωn rfl rfl HU.out.2 Tryz.underlying35 rfl (Ωa0 HTL.out)) rfl ⟨rfl,i+1,true,rfl,HU.out.1⟩
 ·have htk:ΩaK Ωr (Q.drop i,b)=(Ωr,Q.drop i,false):=by
   cases b with
   |false=>exact Ωe2 _ _
   |true=>exact take_end _ (by rcases Nat.lt_or_ge i Q.length with h|h;exact absurd ⟨rfl,h⟩ hb;exact h) _
  rw[htk]
  clear htk eβ
  cases b with
  |true=>
   have hge:Q.length≤i:=by rcases Nat.lt_or_ge i Q.length with h|h;exact absurd ⟨rfl,h⟩ hb;exact h
   have d1:decide ((i:Int)<(Q.length:Int))=false:=Ωny (by omega)
   have d2:¬i<Q.length:=by omega
   clear hb
   go_enter Tryz.func81,Tryz.ntmps81
   go_upto_region 1 with(fail)
   rw[←EN.out]
   refine Ωf (fun Z=>WkS w0 B K T Pf F G old (.slice A Q.length cap) Q w i true Z∧HaAt Z N Ωr) HS0.out ?_
   rintro Z ⟨hZ,hR⟩
   obtain⟨c0,c1,c2,c3⟩:=HGEN.out Z hZ
   have HZ:=Θ (And.intro (hZ.setK false) (Blk.far (p:=⟨K,0,none⟩) hR (Blk.ne_ hR hZ.ok (by decide)) (.bool false)))
   clear hZ hR HS0
   go_upto_region 2 with(fail)
   refine Ωf (fun Z=>WkS w0 B K T Pf F G old (.slice A Q.length cap) Q w i false Z∧HaAt Z N Ωr) HZ.out ?_
   clear c0 c1 c2 c3 HZ
   rintro U ⟨hU,hR⟩
   have c0:U.cell? ⟨K,0,none⟩=some (.bool false):=hU.ok.cell 0
   have hld:=Ωp hR.range HZL.out
   have hst:=ΩK hR HZL.out HZL.out
   have HU:=Θ (And.intro (hU.put hR hN0 hNw Ωr) (hR.put HZL.out HZL.out))
   clear hU hR
   go_wp2_with fail
   refine bodyPost_ret (v:=hv Ωr) (Ωn rfl rfl HU.out.2 Tryz.underlying35 rfl (Ωa0 HZL.out)) rfl ⟨rfl,i,false,rfl,HU.out.1⟩
  |false=>
   clear hb
   go_enter Tryz.func81,Tryz.ntmps81
   go_upto_region 1 with(fail)
   rw[←EN.out]
   refine Ωf (fun Z=>WkS w0 B K T Pf F G old (.slice A Q.length cap) Q w i false Z∧HaAt Z N Ωr) HS0.out ?_
   rintro Z ⟨hZ,hR⟩
   obtain⟨c0,c1,c2,c3⟩:=HGEN.out Z hZ
   have HZ:=Θ (And.intro (hZ.setK false) (Blk.far (p:=⟨K,0,none⟩) hR (Blk.ne_ hR hZ.ok (by decide)) (.bool false)))
   clear hZ hR HS0
   go_upto_region 2 with(fail)
   refine Ωf (fun Z=>WkS w0 B K T Pf F G old (.slice A Q.length cap) Q w i false Z∧HaAt Z N Ωr) HZ.out ?_
   clear c0 c1 c2 c3 HZ
   rintro U ⟨hU,hR⟩
   have c0:U.cell? ⟨K,0,none⟩=some (.bool false):=hU.ok.cell 0
   have hld:=Ωp hR.range HZL.out
   have hst:=ΩK hR HZL.out HZL.out
   have HU:=Θ (And.intro (hU.put hR hN0 hNw Ωr) (hR.put HZL.out HZL.out))
   clear hU hR
   go_wp2_with fail
   refine bodyPost_ret (v:=hv Ωr) (Ωn rfl rfl HU.out.2 Tryz.underlying35 rfl (Ωa0 HZL.out)) rfl ⟨rfl,i,false,rfl,HU.out.1⟩
theorem ΩfG(z:Hs)(hz:z.length=32):∀(f m n:Nat) (whole:Bool) (o:Hs) (r:List Hs) (b:Bool),o.length=32→HsOk r→((ΩM z f m n whole o (r,b)).1.1.length =32∧(ΩM z f m n whole o (r,b)).1.2.length =32)
 |0,_,_,_,o,_,_,ho,_=>⟨ho,ho⟩
 |f+1,m,n,whole,o,r,b,ho,hr=>by
  unfold ΩM
  by_cases he:m=n
  ·rw[ΩnV he]
   cases whole with
   |true=>exact⟨ho,ho⟩
   |false=>exact⟨Ωh8 z hz r hr b,Ωh8 z hz r hr b⟩
  ·rw[ΩnU he]
   by_cases hk:m≤Ωh n
   ·rw[ΩnV hk]
    exact⟨(ΩfG z hz f m (Ωh n) whole o r b ho hr).1,Ωa3 _ _⟩
   ·rw[ΩnU hk]
    exact⟨Ωa3 _ _,Ωa3 _ _⟩
theorem ΩgG{Q:List Hs}(h:HsOk Q)(i:Nat):HsOk (Q.drop i):=fun x hx=>h x (Ωor hx)
structure WkR(w0:World)(B K T Pf F G:Nat)(old:Hd)(v:Value)(Q:List Hs)(X:World)(R:Nat)(i:Nat)(b:Bool)(W:World):Prop where
 s:WkS w0 B K T Pf F G old v Q X i b W
 r1:ΩbL W R
 r2:ΩbL W (R+1)
section
variable {w0:World} {B K T Pf F G R:Nat} {old:Hd} {v:Value} {Q:List Hs} {X:World} {i:Nat} {b:Bool} {W W' :World}
theorem WkR.keep(h:WkR w0 B K T Pf F G old v Q X R i b W)(ho:Only Ωa W W'):WkR w0 B K T Pf F G old v Q X R i b W' :=⟨h.s.keep ho,h.r1.only ho,h.r2.only ho⟩
theorem WkR.put1(h:WkR w0 B K T Pf F G old v Q X R i b W)(h0:w0.heap.size≤R)(hX:X.heap.size≤R){m:Hs}(hm:m.length=32):WkR w0 B K T Pf F G old v Q X R i b (W.setCells R 0 (m.map bv)):=by
 obtain⟨l,hl,hb⟩:=h.r1
 exact⟨h.s.put hb h0 hX m,ΩbL.at hm (hb.put hl hm),h.r2.far (by omega)⟩
theorem WkR.put2(h:WkR w0 B K T Pf F G old v Q X R i b W)(h0:w0.heap.size≤R)(hX:X.heap.size≤R){m:Hs}(hm:m.length=32):WkR w0 B K T Pf F G old v Q X R i b (W.setCells (R+1) 0 (m.map bv)):=by
 obtain⟨l,hl,hb⟩:=h.r2
 exact⟨h.s.put hb (by omega) (by omega) m,h.r1.far (by omega),ΩbL.at hm (hb.put hl hm)⟩
end
def WkE(w0:World)(B K T Pf F G:Nat)(old:Hd)(v:Value)(Q:List Hs)(X:World)(σ:List Hs×Bool)(W:World):Prop:=∃j c,σ=(Q.drop j,c)∧WkS w0 B K T Pf F G old v Q X j c W
theorem WkE.keep{w0:World}{B K T Pf F G:Nat}{old:Hd}{v:Value}{Q:List Hs}{X:World}{σ:List Hs×Bool}{W W' :World}(h:WkE w0 B K T Pf F G old v Q X σ W)(ho:Only Ωa W W'):WkE w0 B K T Pf F G old v Q X σ W' :=by
 obtain⟨j,c,e,h⟩:=h
 exact⟨j,c,e,h.keep ho⟩
theorem WkE.put{w0:World}{B K T Pf F G:Nat}{old:Hd}{v:Value}{Q:List Hs}{X:World}{σ:List Hs×Bool}{W:World}(h:WkE w0 B K T Pf F G old v Q X σ W){r:Nat}{l:Hs}(hr:HaAt W r l)(h0:w0.heap.size≤r)(hX:X.heap.size≤r)(m:Hs):WkE w0 B K T Pf F G old v Q X σ (W.setCells r 0 (m.map bv)):=by
 obtain⟨j,c,e,h⟩:=h
 exact⟨j,c,e,h.put hr h0 hX m⟩
theorem ΩiP(w0:World)(B K T Pf F G:Nat)(old:Hd)(ho:old.root.length=32)(A:Option Addr)(cap:Nat)(Q:List Hs)(hok:HsOk Q)(hQ:Q.length≤100000)(hs:HaSl w0 (.slice A Q.length cap) Q):∀(f m n:Nat) (whole:Bool) (i:Nat) (b:Bool) (w:World) (_:n≤f) (_:1≤m) (_:m≤n) (_:f≤1000) (_:WkS w0 B K T Pf F G old (.slice A Q.length cap) Q w i b w),
  Calls Tryz.prog 82 #[.int .i64 (n:Int),.int .i64 (m:Int),.bool whole,.pointer (some ⟨B,0,none⟩),.pointer (some ⟨F,0,none⟩),.pointer (some ⟨G,0,none⟩)] w fun e w' =>e= .returned (.tuple #[hv (ΩM Ωr f m n whole old.root (Q.drop i,b)).1.1,hv (ΩM Ωr f m n whole old.root (Q.drop i,b)).1.2])∧∃j c,(ΩM Ωr f m n whole old.root (Q.drop i,b)).2 =(Q.drop j,c)∧WkS w0 B K T Pf F G old (.slice A Q.length cap) Q w j c w'
 |0,m,n,whole,i,b,w,hf,h1,h2,_,_=>by omega
 |f+1,m,n,whole,i,b,w,hf,h1,h2,hf2,h=>by
  have hlen:=ΩfG Ωr rfl (f+1) m n whole old.root (Q.drop i) b ho (ΩgG hok i)
  obtain⟨p,ep⟩:∃p,p=(ΩM Ωr (f+1) m n whole old.root (Q.drop i,b)).1.1 :=⟨_,rfl⟩
  obtain⟨q,eq⟩:∃q,q=(ΩM Ωr (f+1) m n whole old.root (Q.drop i,b)).1.2 :=⟨_,rfl⟩
  obtain⟨σ,eσ⟩:∃σ,σ=(ΩM Ωr (f+1) m n whole old.root (Q.drop i,b)).2 :=⟨_,rfl⟩
  rw[←ep,←eq] at hlen
  rw[←ep,←eq,←eσ]
  obtain⟨hpl,hql⟩:=hlen
  have hw0:ΩM Ωr (f+1) m n whole old.root (Q.drop i,b)=if m=n then(if whole then((old.root,old.root),(Q.drop i,b)) else(((ΩaK Ωr (Q.drop i,b)).1,(ΩaK Ωr (Q.drop i,b)).1),(ΩaK Ωr (Q.drop i,b)).2))
   else if m≤Ωh n then(((ΩM Ωr f m (Ωh n) whole old.root (Q.drop i,b)).1.1,Ωbf (ΩM Ωr f m (Ωh n) whole old.root (Q.drop i,b)).1.2 (ΩaK Ωr (ΩM Ωr f m (Ωh n) whole old.root (Q.drop i,b)).2).1),(ΩaK Ωr (ΩM Ωr f m (Ωh n) whole old.root (Q.drop i,b)).2).2)
   else((Ωbf (ΩaK Ωr (ΩM Ωr f (m-Ωh n) (n-Ωh n) false old.root (Q.drop i,b)).2).1 (ΩM Ωr f (m-Ωh n) (n-Ωh n) false old.root (Q.drop i,b)).1.1,Ωbf (ΩaK Ωr (ΩM Ωr f (m-Ωh n) (n-Ωh n) false old.root (Q.drop i,b)).2).1 (ΩM Ωr f (m-Ωh n) (n-Ωh n) false old.root (Q.drop i,b)).1.2),(ΩaK Ωr (ΩM Ωr f (m-Ωh n) (n-Ωh n) false old.root (Q.drop i,b)).2).2):=rfl
  rw[hw0] at ep eq eσ
  have hS0:WkR w0 B K T Pf F G old (.slice A Q.length cap) Q w w.heap.size i b ((w.alloc (.cells (Array.replicate 32 (.int .u8 0)) 35)).alloc (.cells (Array.replicate 32 (.int .u8 0)) 35)):=by
   have h3:=Blk.new (w.alloc (.cells (Array.replicate 32 (.int .u8 0)) 35)) tHa (Array.replicate 32 (.int .u8 0))
   rw[Ωnw] at h3
   have h4:=(Blk.new w tHa (Array.replicate 32 (.int .u8 0))).alloc (.cells (Array.replicate 32 (.int .u8 0)) 35)
   have h5:=h.keep (((Only.refl Ωa w).alloc (.cells (Array.replicate 32 (.int .u8 0)) 35)).alloc (.cells (Array.replicate 32 (.int .u8 0)) 35))
   rw[←ΩaL] at h3 h4 h5⊢
   exact⟨h5,⟨Ωr,rfl,h4⟩,⟨Ωr,rfl,h3⟩⟩
  have h0w:w0.heap.size≤w.heap.size:=h.only0.size
  obtain⟨R,eR⟩:∃R,R=w.heap.size:=⟨_,rfl⟩
  rw[←eR] at hS0
  have hR0:w0.heap.size≤R:=by omega
  have hRw:w.heap.size≤R:=by omega
  have HS0:=Θ hS0
  have ER:=Θ eR
  have HP:=Θ hpl
  have HQL:=Θ hql
  have HO:=Θ ho
  have HTK:Hid (∀X i b W,WkS w0 B K T Pf F G old (.slice A Q.length cap) Q X i b W→Calls Tryz.prog 81 #[.pointer (some ⟨K,0,none⟩),.pointer (some ⟨T,0,none⟩),.pointer (some ⟨Pf,0,none⟩)] W fun e w' =>e= .returned (hv (ΩaK Ωr (Q.drop i,b)).1)∧∃j c,(ΩaK Ωr (Q.drop i,b)).2 =(Q.drop j,c)∧WkS w0 B K T Pf F G old (.slice A Q.length cap) Q W j c w'):=Θ (fun X i b W h=>ttake_any w0 B K T Pf F G old A cap Q hok hQ hs X i b W h)
  have hREC:∀(m' n' :Nat) (wh' :Bool) (W:World),n'≤f→1≤m'→m'≤n'→WkS w0 B K T Pf F G old (.slice A Q.length cap) Q w i b W→Calls Tryz.prog 82 #[.int .i64 (n' :Int),.int .i64 (m' :Int),.bool wh',.pointer (some ⟨B,0,none⟩),.pointer (some ⟨F,0,none⟩),.pointer (some ⟨G,0,none⟩)] W fun e w' =>e= .returned (.tuple #[hv (ΩM Ωr f m' n' wh' old.root (Q.drop i,b)).1.1,hv (ΩM Ωr f m' n' wh' old.root (Q.drop i,b)).1.2])∧∃j c,(ΩM Ωr f m' n' wh' old.root (Q.drop i,b)).2 =(Q.drop j,c)∧WkS w0 B K T Pf F G old (.slice A Q.length cap) Q W j c w' :=fun m' n' wh' W k1 k2 k3 k4=>ΩiP w0 B K T Pf F G old ho A cap Q hok hQ hs f m' n' wh' i b W k1 k2 k3 (by omega) (k4.from_ W (Only.refl _ _))
  have HREC:=Θ hREC
  have hkk:∀m' n' wh',(ΩM Ωr f m' n' wh' old.root (Q.drop i,b)).1.1.length =32∧(ΩM Ωr f m' n' wh' old.root (Q.drop i,b)).1.2.length =32:=fun m' n' wh' =>ΩfG Ωr rfl f m' n' wh' old.root (Q.drop i) b ho (ΩgG hok i)
  have HKK:=Θ hkk
  have htkl:∀j c,(ΩaK Ωr (Q.drop j,c)).1.length =32:=fun j c=>Ωh8 Ωr rfl _ (ΩgG hok j) c
  have HTKL:=Θ htkl
  clear hS0 hpl hql hw0 h0w eR hREC hkk htkl ho hs h
  by_cases he:m=n
  ·have c1:((m:Int)==(n:Int))=true:=by simp[he]
   rw[ΩnV he] at ep eq eσ
   cases whole with
   |true=>
    have e1:p=old.root:=ep
    have e2:q=old.root:=eq
    have e3:σ=(Q.drop i,b):=eσ
    obtain⟨oo,eo⟩:∃oo,oo=old.root:=⟨_,rfl⟩
    rw[←eo] at e1 e2
    rw[e1] at HP⊢
    rw[e2,e3]
    have EO:=Θ eo
    clear ep eq eσ e1 e2 e3 he eo HQL hok
    go_enter Tryz.func82,Tryz.ntmps82
    go_upto_region 1 with(fail)
    rw[←ER.out]
    refine Ωf (WkR w0 B K T Pf F G old (.slice A Q.length cap) Q w R i b) HS0.out ?_
    intro Z hZ
    have HZ:=Θ hZ
    clear hZ HS0
    go_upto_region 3 with(fail)
    have hD:=HZ.out.keep (Only.refl Ωa Z).drew
    have l1:∀W,WkR w0 B K T Pf F G old (.slice A Q.length cap) Q w R i b W→(ΩL (.pointer (some ⟨B,1,none⟩))).run Tryz.prog W= .ok (hv oo) W:=fun W h=>by rw[EO.out];exact Ωp (ΩD (Ωd h.s.old)) HO.out
    have kp1:∀W,WkR w0 B K T Pf F G old (.slice A Q.length cap) Q w R i b W→(ΩaS (.pointer (some ⟨R,0,none⟩)) (hv oo)).run Tryz.prog W= .ok () (W.setCells R 0 (oo.map bv)):=fun W h=>h.r1.store HP.out
    have kp2:∀W,WkR w0 B K T Pf F G old (.slice A Q.length cap) Q w R i b W→(ΩaS (.pointer (some ⟨R+1,0,none⟩)) (hv oo)).run Tryz.prog W= .ok () (W.setCells (R+1) 0 (oo.map bv)):=fun W h=>h.r2.store HP.out
    refine Ωaf (Fl2 (WkR w0 B K T Pf F G old (.slice A Q.length cap) Q w R i b) (fun W=>HaAt W R oo) (fun W=>HaAt W (R+1) oo) 4 5) (by kernel_rfl) (by kernel_rfl) (by kernel_rfl) (by kernel_rfl) (Fl2.start _ hD) ?_
    refine Ωk (.pointer (some ⟨B,1,none⟩)) (by rfl) ?_ ?_
    ·intro L W hd hr hC
     simp[Ωz,go_sem,Ωm]
     exact hC.same (by decide) (by decide)
    refine Ωk (hv oo) (by rfl) ?_ ?_
    ·intro L W hd hr hC
     have e:=l1 W hC.1
     simp[Ωz,go_sem,Ωm,e]
     exact hC.same (by decide) (by decide)
    refine Ωk (.pointer (some ⟨B,1,none⟩)) (by rfl) ?_ ?_
    ·intro L W hd hr hC
     simp[Ωz,go_sem,Ωm]
     exact hC.same (by decide) (by decide)
    refine Ωk (hv oo) (by rfl) ?_ ?_
    ·intro L W hd hr hC
     have e:=l1 W hC.1
     simp[Ωz,go_sem,Ωm,e]
     exact hC.same (by decide) (by decide)
    refine Ωk (undef) (by rfl) ?_ ?_
    ·intro L W hd hr hC
     have e:=kp1 W hC.1
     simp[Ωz,go_sem,Ωm,e]
     exact hC.put1 (by decide) (hC.1.put1 hR0 hRw HP.out) (hC.1.r1.put HP.out) (fun h=>h.far (by omega))
    refine Ωk (undef) (by rfl) ?_ ?_
    ·intro L W hd hr hC
     have e:=kp2 W hC.1
     simp[Ωz,go_sem,Ωm,e]
     exact hC.put2 (by decide) (hC.1.put2 hR0 hRw HP.out) (fun h=>h.far (by omega)) (hC.1.r2.put HP.out)
    unfold ΩbN
    intro L W hall hC
    simp only[Act.put,ΩnX,List.set_cons_succ,Ωot]
    go_wp2_with fail
    refine bodyPost_ret (v:= .tuple #[hv oo,hv oo]) (ΩaO rfl rfl rfl (hC.all hall (by decide) (by decide)).2.1 (hC.all hall (by decide) (by decide)).2.2 HP.out HP.out) rfl ⟨rfl,i,b,rfl,hC.1.s⟩
   |false=>
    have e1:p=(ΩaK Ωr (Q.drop i,b)).1 :=ep
    have e2:q=(ΩaK Ωr (Q.drop i,b)).1 :=eq
    have e3:σ=(ΩaK Ωr (Q.drop i,b)).2 :=eσ
    have e4:q=p:=by rw[e1,e2]
    rw[e4,e3]
    have htk:∀W,WkS w0 B K T Pf F G old (.slice A Q.length cap) Q w i b W→Calls Tryz.prog 81 #[.pointer (some ⟨K,0,none⟩),.pointer (some ⟨T,0,none⟩),.pointer (some ⟨Pf,0,none⟩)] W fun e w' =>e= .returned (hv p)∧∃j c,(ΩaK Ωr (Q.drop i,b)).2 =(Q.drop j,c)∧WkS w0 B K T Pf F G old (.slice A Q.length cap) Q W j c w' :=fun W h=>by rw[e1];exact HTK.out _ _ _ W h
    have HT:=Θ htk
    clear ep eq eσ e1 e2 e3 e4 he HQL htk hok
    go_enter Tryz.func82,Tryz.ntmps82
    go_upto_region 1 with(fail)
    rw[←ER.out]
    refine Ωf (WkR w0 B K T Pf F G old (.slice A Q.length cap) Q w R i b) HS0.out ?_
    intro Z hZ
    have cF:Z.cell? ⟨F,0,none⟩=some (Ωc7 K T Pf):=hZ.s.f.cell 0
    unfold Ωc7 at cF
    have HZ:=Θ hZ
    clear hZ HS0
    go_wp2_with fail
    refine(HT.out _ HZ.out.s).mono ?_
    rintro e5 w5 ⟨rfl,j,c,ej,h5⟩
    have EJ:=Θ ej
    have hstn:=ΩaT w5 p HP.out
    have hO5:Only Ωa w5 ((w5.alloc (.cells Ωw 35)).setCells w5.heap.size 0 (p.map bv)):=Ωb ((Only.refl _ w5).alloc _) w5.heap.size 0 (.inr (Ωnv _)) (p.map bv)
    have hat:HaAt ((w5.alloc (.cells Ωw 35)).setCells w5.heap.size 0 (p.map bv)) w5.heap.size p:=(ΩaI w5).put rfl HP.out
    have hR5:WkR w0 B K T Pf F G old (.slice A Q.length cap) Q w R j c w5:=⟨h5.from_ w (ΩeF HZ.out.s.only h5.only),HZ.out.r1.kt HZ.out.s h5.only,HZ.out.r2.kt HZ.out.s h5.only⟩
    have hlt:R+1<w5.heap.size:=by obtain⟨l,_,hb⟩:=hR5.r2;exact Blk.lt hb
    obtain⟨N,eN⟩:∃N,N=w5.heap.size:=⟨_,rfl⟩
    rw[←eN] at hO5 hat hlt
    have HN:=Θ (And.intro (hR5.keep hO5) hat)
    have EN:=Θ eN
    clear ej h5 hO5 hat hR5 eN cF HZ
    go_upto_region 5 with(fail)
    rw[←EN.out]
    refine Ωf (fun W=>WkR w0 B K T Pf F G old (.slice A Q.length cap) Q w R j c W∧HaAt W N p) HN.out ?_
    rintro Y ⟨hY,hN⟩
    have hD:WkR w0 B K T Pf F G old (.slice A Q.length cap) Q w R j c Y.drew∧HaAt Y.drew N p:=⟨hY.keep (Only.refl Ωa Y).drew,hN⟩
    clear hstn HN EN hY hN
    have l1:∀W,(WkR w0 B K T Pf F G old (.slice A Q.length cap) Q w R j c W∧HaAt W N p)→(ΩL (.pointer (some ⟨N,0,none⟩))).run Tryz.prog W= .ok (hv p) W:=fun W h=>Ωp h.2.range HP.out
    have kp1:∀W,(WkR w0 B K T Pf F G old (.slice A Q.length cap) Q w R j c W∧HaAt W N p)→(ΩaS (.pointer (some ⟨R,0,none⟩)) (hv p)).run Tryz.prog W= .ok () (W.setCells R 0 (p.map bv)):=fun W h=>h.1.r1.store HP.out
    have kp2:∀W,(WkR w0 B K T Pf F G old (.slice A Q.length cap) Q w R j c W∧HaAt W N p)→(ΩaS (.pointer (some ⟨R+1,0,none⟩)) (hv p)).run Tryz.prog W= .ok () (W.setCells (R+1) 0 (p.map bv)):=fun W h=>h.1.r2.store HP.out
    refine Ωaf (Fl2 (fun W=>WkR w0 B K T Pf F G old (.slice A Q.length cap) Q w R j c W∧HaAt W N p) (fun W=>HaAt W R p) (fun W=>HaAt W (R+1) p) 2 3) (by kernel_rfl) (by kernel_rfl) (by kernel_rfl) (by kernel_rfl) (Fl2.start _ hD) ?_
    refine Ωk (hv p) (by rfl) ?_ ?_
    ·intro L W hd hr hC
     have e:=l1 W hC.1
     simp[Ωz,go_sem,Ωm,e]
     exact hC.same (by decide) (by decide)
    refine Ωk (hv p) (by rfl) ?_ ?_
    ·intro L W hd hr hC
     have e:=l1 W hC.1
     simp[Ωz,go_sem,Ωm,e]
     exact hC.same (by decide) (by decide)
    refine Ωk (undef) (by rfl) ?_ ?_
    ·intro L W hd hr hC
     have e:=kp1 W hC.1
     simp[Ωz,go_sem,Ωm,e]
     exact hC.put1 (by decide) (⟨hC.1.1.put1 hR0 hRw HP.out,hC.1.2.far (by omega)⟩) (hC.1.1.r1.put HP.out) (fun h=>h.far (by omega))
    refine Ωk (undef) (by rfl) ?_ ?_
    ·intro L W hd hr hC
     have e:=kp2 W hC.1
     simp[Ωz,go_sem,Ωm,e]
     exact hC.put2 (by decide) (⟨hC.1.1.put2 hR0 hRw HP.out,hC.1.2.far (by omega)⟩) (fun h=>h.far (by omega)) (hC.1.1.r2.put HP.out)
    unfold ΩbN
    intro L W hall hC
    simp only[Act.put,ΩnX,List.set_cons_succ,Ωot]
    go_wp2_with fail
    refine bodyPost_ret (v:= .tuple #[hv p,hv p]) (ΩaO rfl rfl rfl (hC.all hall (by decide) (by decide)).2.1 (hC.all hall (by decide) (by decide)).2.2 HP.out HP.out) rfl ⟨rfl,j,c,EJ.out,hC.1.1.s⟩
  ·have c1:((m:Int)==(n:Int))=false:=by rw[ΩnL];omega
   rw[ΩnU he] at ep eq eσ
   have hsp:=Ω3 (n:=n) (by omega) (by omega)
   obtain⟨k,ek⟩:∃k,k=Ωh n:=⟨_,rfl⟩
   have HH:Hid (∀W,Calls Tryz.prog 83 #[.int .i64 (n:Int)] W fun e w' =>e= .returned (.int .i64 (k:Int))∧w' =W):=Θ (fun W=>by rw[ek];exact ΩkL n (by omega) (by omega) W)
   rw[←ek] at hsp ep eq eσ
   clear he hok
   by_cases hk:m≤k
   ·have d2:decide ((m:Int)≤(k:Int))=true:=ΩnG (by omega)
    have d2n:decide (m≤k)=true:=ΩnG hk
    rw[ΩnV hk] at ep eq eσ
    have hrec:∀W,WkS w0 B K T Pf F G old (.slice A Q.length cap) Q w i b W→Calls Tryz.prog 82 #[.int .i64 (k:Int),.int .i64 (m:Int),.bool whole,.pointer (some ⟨B,0,none⟩),.pointer (some ⟨F,0,none⟩),.pointer (some ⟨G,0,none⟩)] W fun e w' =>e= .returned (.tuple #[hv (ΩM Ωr f m k whole old.root (Q.drop i,b)).1.1,hv (ΩM Ωr f m k whole old.root (Q.drop i,b)).1.2])∧∃j c,(ΩM Ωr f m k whole old.root (Q.drop i,b)).2 =(Q.drop j,c)∧WkS w0 B K T Pf F G old (.slice A Q.length cap) Q W j c w' :=fun W h=>by exact HREC.out m k whole W (by omega) (by omega) (by omega) h
    have hkl:=HKK.out m k whole
    obtain⟨a,ea⟩:∃a,a=(ΩM Ωr f m k whole old.root (Q.drop i,b)).1.1 :=⟨_,rfl⟩
    obtain⟨d,ed⟩:∃d,d=(ΩM Ωr f m k whole old.root (Q.drop i,b)).1.2 :=⟨_,rfl⟩
    obtain⟨τ,eτ⟩:∃τ,τ=(ΩM Ωr f m k whole old.root (Q.drop i,b)).2 :=⟨_,rfl⟩
    rw[←ea,←ed,←eτ] at hrec
    rw[←ea,←ed] at hkl
    rw[←ea] at ep
    rw[←ed,←eτ] at eq
    rw[←eτ] at eσ
    obtain⟨hal,hdl⟩:=hkl
    have HAL:=Θ hal
    have HDL:=Θ hdl
    have GC:=Θ hrec
    obtain⟨t,et⟩:∃t,t=(ΩaK Ωr τ).1 :=⟨_,rfl⟩
    rw[←et] at eq
    have htk:∀W j c,τ=(Q.drop j,c)→WkS w0 B K T Pf F G old (.slice A Q.length cap) Q w j c W→Calls Tryz.prog 81 #[.pointer (some ⟨K,0,none⟩),.pointer (some ⟨T,0,none⟩),.pointer (some ⟨Pf,0,none⟩)] W fun e w' =>e= .returned (hv t)∧∃j c,σ=(Q.drop j,c)∧WkS w0 B K T Pf F G old (.slice A Q.length cap) Q W j c w' :=fun W j c e h=>by rw[et,eσ,e];exact HTK.out _ _ _ W h
    have HT:=Θ htk
    have htl2:∀j c,τ=(Q.drop j,c)→t.length=32:=fun j c e=>by rw[et,e];exact HTKL.out j c
    have HTL2:=Θ htl2
    have hnode:t.length=32→∀W,Calls Tryz.prog 84 #[hv d,hv t] W fun e w' =>e= .returned (hv q)∧Only Ωa W w' :=fun ht W=>by rw[eq];exact Ωc5 d t hdl ht W
    have NC:=Θ hnode
    obtain rfl:a=p:=ep.symm
    clear hnode htk htl2 hrec hal hdl ep eq eσ ek eτ ea ed et hsp
    go_enter Tryz.func82,Tryz.ntmps82
    go_upto_region 1 with(fail)
    rw[←ER.out]
    refine Ωf (WkR w0 B K T Pf F G old (.slice A Q.length cap) Q w R i b) HS0.out ?_
    intro Z hZ
    have cG:Z.cell? ⟨G,0,none⟩=some (Ωc0 B F G):=hZ.s.g.cell 0
    unfold Ωc0 at cG
    have HZ:=Θ hZ
    clear hZ HS0
    go_wp2_with fail
    refine(HH.out _).mono ?_
    rintro e1 w1 ⟨rfl,rfl⟩
    go_wp2_with fail
    (with_reducible refine(GC.out _ HZ.out.s).mono ?_)
    rintro e5 w5 ⟨rfl,j1,c1',ej,h5⟩
    have EJ:=Θ ej
    have HTL:=Θ (HTL2.out _ _ ej)
    have hR5:WkR w0 B K T Pf F G old (.slice A Q.length cap) Q w R j1 c1' w5:=⟨h5.from_ w (ΩeF HZ.out.s.only h5.only),HZ.out.r1.kt HZ.out.s h5.only,HZ.out.r2.kt HZ.out.s h5.only⟩
    have st1:=hR5.r1.store HAL.out
    have st2:=(hR5.put1 hR0 hRw HAL.out).r2.store HDL.out
    have hR6:=(hR5.put1 hR0 hRw HAL.out).put2 hR0 hRw HDL.out
    have HV:=Θ (And.intro hR6.s (And.intro ((hR5.r1.put HAL.out).far (c:=R+1) (m:=d) (by omega)) ((hR5.put1 hR0 hRw HAL.out).r2.put HDL.out)))
    clear ej h5 hR5 hR6 cG HZ
    go_upto_region 9 with(fail)
    refine Ωf (fun W=>WkS w0 B K T Pf F G old (.slice A Q.length cap) Q w j1 c1' W∧HaAt W R a∧HaAt W (R+1) d) HV.out ?_
    clear HV st1 st2
    rintro Y ⟨hY,hY1,hY2⟩
    have hD:=hY.keep (Only.refl Ωa Y).drew
    refine Ωaf (Fl4 (fun W=>HaAt W R a) (fun W=>WkS w0 B K T Pf F G old (.slice A Q.length cap) Q w j1 c1' W) (fun W=>WkE w0 B K T Pf F G old (.slice A Q.length cap) Q w σ W) (fun W=>HaAt W (R+1) d) (fun W=>HaAt W (R+1) q) 3 6) (by kernel_rfl) (by kernel_rfl) (by kernel_rfl) (by kernel_rfl) (Fl4.start _ hY1 hD hY2) ?_
    refine Ωk (hv a) (by rfl) ?_ ?_
    ·intro L W hd hr hC
     have e:=Ωp hC.1.range HAL.out
     simp[Ωz,go_sem,Ωm,e]
     exact hC.same (by decide) (by decide)
    refine Ωk (hv d) (by rfl) ?_ ?_
    ·intro L W hd hr hC
     have e:=Ωp (hC.a2 (ΩjK hd hr (j:=4) (by kernel_rfl) (by kernel_rfl))).range HDL.out
     simp[Ωz,go_sem,Ωm,e]
     exact hC.same (by decide) (by decide)
    refine Ωk (.func (.func 81) #[] #[.pointer (some ⟨K,0,none⟩),.pointer (some ⟨T,0,none⟩),.pointer (some ⟨Pf,0,none⟩)]) (by rfl) ?_ ?_
    ·intro L W hd hr hC
     have e:W.cell? ⟨F,0,none⟩=some (.func (.func 81) #[] #[.pointer (some ⟨K,0,none⟩),.pointer (some ⟨T,0,none⟩),.pointer (some ⟨Pf,0,none⟩)]):=(hC.a1 (undone1 hd hr (by kernel_rfl))).f.cell 0
     simp[Ωz,go_sem,Ωm,e]
     exact hC.same (by decide) (by decide)
    refine Ωk (hv t) (by rfl) ?_ ?_
    ·intro L W hd hr hC
     have hW:=hC.a1 (ΩP hr)
     simp[Ωz,go_sem,Ωm]
     exact(HT.out W _ _ EJ.out hW).mono (fun e w' ⟨g1,j',c',g2,g3⟩=>⟨g1,hC.put1 (by decide) (Ωew hr) (fun h=>h.kt hW g3.only) ⟨j',c',g2,g3.from_ w (ΩeF hW.only g3.only)⟩ (fun h=>h.kt hW g3.only) (fun h=>h.kt hW g3.only)⟩)
    refine Ωk (hv q) (by rfl) ?_ ?_
    ·intro L W hd hr hC
     simp[Ωz,go_sem,Ωm]
     exact(NC.out HTL.out W).mono (fun e w' hh=>⟨hh.1,hC.step (by decide) (by decide) (fun h=>Blk.only h hh.2 (fun e=>e)) (fun h=>h.keep hh.2) (fun h=>h.keep hh.2) (fun h=>Blk.only h hh.2 (fun e=>e)) (fun h=>Blk.only h hh.2 (fun e=>e))⟩)
    refine Ωk (undef) (by rfl) ?_ ?_
    ·intro L W hd hr hC
     have e:=ΩK hC.1 HAL.out HAL.out
     simp[Ωz,go_sem,Ωm,e]
     exact hC.step (by decide) (by decide) (fun h=>h.put HAL.out HAL.out) (fun h=>h.put hC.1 hR0 hRw a) (fun h=>h.put hC.1 hR0 hRw a) (fun h=>h.far (by omega)) (fun h=>h.far (by omega))
    refine Ωk (undef) (by rfl) ?_ ?_
    ·intro L W hd hr hC
     have e:=ΩK (hC.a2 (ΩP hr)) HDL.out HQL.out
     simp[Ωz,go_sem,Ωm,e]
     exact hC.put2 (by decide) (Ωew hr) (fun h=>h.far (by omega)) (fun h=>h.put (hC.a2 (ΩP hr)) (by omega) (by omega) q) (fun h=>h.put (hC.a2 (ΩP hr)) (by omega) (by omega) q) ((hC.a2 (ΩP hr)).put HDL.out HQL.out)
    unfold ΩbN
    intro L W hall hC
    simp only[Act.put,ΩnX,List.set_cons_succ,Ωot]
    have hfin:=hC.all hall (by decide) (by decide)
    obtain⟨j9,c9,g9,g8⟩:=hfin.2.1
    go_wp2_with fail
    refine bodyPost_ret (v:= .tuple #[hv a,hv q]) (ΩaO rfl rfl rfl hfin.1 hfin.2.2 HAL.out HQL.out) rfl ⟨rfl,j9,c9,g9,g8⟩
   ·have d2:decide ((m:Int)≤(k:Int))=false:=Ωny (by omega)
    have d2n:decide (m≤k)=false:=Ωny hk
    have km:(m:Int)-(k:Int)=((m-k:Nat):Int):=by omega
    have kn:(n:Int)-(k:Int)=((n-k:Nat):Int):=by omega
    have wm:IntKind.i64.wrap ((m:Int)-(k:Int))=(m:Int)-(k:Int):=ΩnH _ (by omega)
    have wn:IntKind.i64.wrap ((n:Int)-(k:Int))=(n:Int)-(k:Int):=ΩnH _ (by omega)
    rw[ΩnU hk] at ep eq eσ
    have hrec:∀W,WkS w0 B K T Pf F G old (.slice A Q.length cap) Q w i b W→Calls Tryz.prog 82 #[.int .i64 ((n:Int)-(k:Int)),.int .i64 ((m:Int)-(k:Int)),.bool false,.pointer (some ⟨B,0,none⟩),.pointer (some ⟨F,0,none⟩),.pointer (some ⟨G,0,none⟩)] W fun e w' =>e= .returned (.tuple #[hv (ΩM Ωr f (m-k) (n-k) false old.root (Q.drop i,b)).1.1,hv (ΩM Ωr f (m-k) (n-k) false old.root (Q.drop i,b)).1.2])∧∃j c,(ΩM Ωr f (m-k) (n-k) false old.root (Q.drop i,b)).2 =(Q.drop j,c)∧WkS w0 B K T Pf F G old (.slice A Q.length cap) Q W j c w' :=fun W h=>by rw[km,kn];exact HREC.out (m-k) (n-k) false W (by omega) (by omega) (by omega) h
    have hkl:=HKK.out (m-k) (n-k) false
    obtain⟨a,ea⟩:∃a,a=(ΩM Ωr f (m-k) (n-k) false old.root (Q.drop i,b)).1.1 :=⟨_,rfl⟩
    obtain⟨d,ed⟩:∃d,d=(ΩM Ωr f (m-k) (n-k) false old.root (Q.drop i,b)).1.2 :=⟨_,rfl⟩
    obtain⟨τ,eτ⟩:∃τ,τ=(ΩM Ωr f (m-k) (n-k) false old.root (Q.drop i,b)).2 :=⟨_,rfl⟩
    rw[←ea,←ed,←eτ] at hrec
    rw[←ea,←ed] at hkl
    rw[←ea,←eτ] at ep
    rw[←ed,←eτ] at eq
    rw[←eτ] at eσ
    obtain⟨hal,hdl⟩:=hkl
    have HAL:=Θ hal
    have HDL:=Θ hdl
    have GC:=Θ hrec
    obtain⟨t,et⟩:∃t,t=(ΩaK Ωr τ).1 :=⟨_,rfl⟩
    rw[←et] at eq ep
    have htk:∀W j c,τ=(Q.drop j,c)→WkS w0 B K T Pf F G old (.slice A Q.length cap) Q w j c W→Calls Tryz.prog 81 #[.pointer (some ⟨K,0,none⟩),.pointer (some ⟨T,0,none⟩),.pointer (some ⟨Pf,0,none⟩)] W fun e w' =>e= .returned (hv t)∧∃j c,σ=(Q.drop j,c)∧WkS w0 B K T Pf F G old (.slice A Q.length cap) Q W j c w' :=fun W j c e h=>by rw[et,eσ,e];exact HTK.out _ _ _ W h
    have HT:=Θ htk
    have htl2:∀j c,τ=(Q.drop j,c)→t.length=32:=fun j c e=>by rw[et,e];exact HTKL.out j c
    have HTL2:=Θ htl2
    have hnode1:t.length=32→∀W,Calls Tryz.prog 84 #[hv t,hv a] W fun e w' =>e= .returned (hv p)∧Only Ωa W w' :=fun ht W=>by rw[ep];exact Ωc5 t a ht hal W
    have hnode2:t.length=32→∀W,Calls Tryz.prog 84 #[hv t,hv d] W fun e w' =>e= .returned (hv q)∧Only Ωa W w' :=fun ht W=>by rw[eq];exact Ωc5 t d ht hdl W
    have NC1:=Θ hnode1
    have NC2:=Θ hnode2
    clear hnode1 hnode2 htk htl2 hrec hal hdl ep eq eσ ek eτ ea ed et hsp km kn
    go_enter Tryz.func82,Tryz.ntmps82
    go_upto_region 1 with(fail)
    rw[←ER.out]
    refine Ωf (WkR w0 B K T Pf F G old (.slice A Q.length cap) Q w R i b) HS0.out ?_
    intro Z hZ
    have cG:Z.cell? ⟨G,0,none⟩=some (Ωc0 B F G):=hZ.s.g.cell 0
    unfold Ωc0 at cG
    have HZ:=Θ hZ
    clear hZ HS0
    go_wp2_with fail
    refine(HH.out _).mono ?_
    rintro e1 w1 ⟨rfl,rfl⟩
    go_wp2_with fail
    (with_reducible refine(GC.out _ HZ.out.s).mono ?_)
    rintro e5 w5 ⟨rfl,j1,c1',ej,h5⟩
    have EJ:=Θ ej
    have HTL:=Θ (HTL2.out _ _ ej)
    have hR5:WkR w0 B K T Pf F G old (.slice A Q.length cap) Q w R j1 c1' w5:=⟨h5.from_ w (ΩeF HZ.out.s.only h5.only),HZ.out.r1.kt HZ.out.s h5.only,HZ.out.r2.kt HZ.out.s h5.only⟩
    have st1:=hR5.r1.store HAL.out
    have st2:=(hR5.put1 hR0 hRw HAL.out).r2.store HDL.out
    have hR6:=(hR5.put1 hR0 hRw HAL.out).put2 hR0 hRw HDL.out
    have HV:=Θ (And.intro hR6.s (And.intro ((hR5.r1.put HAL.out).far (c:=R+1) (m:=d) (by omega)) ((hR5.put1 hR0 hRw HAL.out).r2.put HDL.out)))
    clear ej h5 hR5 hR6 cG HZ
    go_upto_region 11 with(fail)
    refine Ωf (fun W=>WkS w0 B K T Pf F G old (.slice A Q.length cap) Q w j1 c1' W∧HaAt W R a∧HaAt W (R+1) d) HV.out ?_
    clear HV st1 st2
    rintro Y ⟨hY,hY1,hY2⟩
    have cF:Y.cell? ⟨F,0,none⟩=some (Ωc7 K T Pf):=hY.f.cell 0
    unfold Ωc7 at cF
    have HY:=Θ (And.intro hY (And.intro hY1 hY2))
    clear hY hY1 hY2
    go_wp2_with fail
    refine(HT.out _ _ _ EJ.out HY.out.1).mono ?_
    rintro e6 w6 ⟨rfl,j2,c2',ej2,h6⟩
    have EJ2:=Θ ej2
    have hstn:=ΩaT w6 t HTL.out
    have hO6:Only Ωa w6 ((w6.alloc (.cells Ωw 35)).setCells w6.heap.size 0 (t.map bv)):=Ωb ((Only.refl _ w6).alloc _) w6.heap.size 0 (.inr (Ωnv _)) (t.map bv)
    have hat:HaAt ((w6.alloc (.cells Ωw 35)).setCells w6.heap.size 0 (t.map bv)) w6.heap.size t:=(ΩaI w6).put rfl HTL.out
    have h6w:=h6.from_ w (ΩeF HY.out.1.only h6.only)
    have h6a:HaAt w6 R a:=HY.out.2.1.kt HY.out.1 h6.only
    have h6b:HaAt w6 (R+1) d:=HY.out.2.2.kt HY.out.1 h6.only
    have hlt:R+1<w6.heap.size:=Blk.lt h6b
    obtain⟨N,eN⟩:∃N,N=w6.heap.size:=⟨_,rfl⟩
    rw[←eN] at hO6 hat hlt
    have HN:=Θ (And.intro (h6w.keep hO6) (And.intro hat (And.intro (show HaAt _ R a from Blk.only h6a hO6 (fun e=>e)) (show HaAt _ (R+1) d from Blk.only h6b hO6 (fun e=>e)))))
    have EN:=Θ eN
    clear ej2 h6 hO6 hat h6w h6a h6b eN cF HY
    go_upto_region 12 with(fail)
    rw[←EN.out]
    refine Ωf (fun W=>WkS w0 B K T Pf F G old (.slice A Q.length cap) Q w j2 c2' W∧HaAt W N t∧HaAt W R a∧HaAt W (R+1) d) HN.out ?_
    rintro V ⟨hV,hV0,hV1,hV2⟩
    have hD:WkS w0 B K T Pf F G old (.slice A Q.length cap) Q w j2 c2' V.drew∧HaAt V.drew N t:=⟨hV.keep (Only.refl Ωa V).drew,hV0⟩
    clear hstn HN EN hV hV0
    refine Ωaf (Fl4 (fun W=>WkS w0 B K T Pf F G old (.slice A Q.length cap) Q w j2 c2' W∧HaAt W N t) (fun W=>HaAt W R a) (fun W=>HaAt W R p) (fun W=>HaAt W (R+1) d) (fun W=>HaAt W (R+1) q) 6 7) (by kernel_rfl) (by kernel_rfl) (by kernel_rfl) (by kernel_rfl) (Fl4.start _ hD hV1 hV2) ?_
    refine Ωk (hv t) (by rfl) ?_ ?_
    ·intro L W hd hr hC
     have e:=Ωp hC.1.2.range HTL.out
     simp[Ωz,go_sem,Ωm,e]
     exact hC.same (by decide) (by decide)
    refine Ωk (hv a) (by rfl) ?_ ?_
    ·intro L W hd hr hC
     have e:=Ωp (hC.a1 (ΩjK hd hr (j:=2) (by kernel_rfl) (by kernel_rfl))).range HAL.out
     simp[Ωz,go_sem,Ωm,e]
     exact hC.same (by decide) (by decide)
    refine Ωk (hv p) (by rfl) ?_ ?_
    ·intro L W hd hr hC
     simp[Ωz,go_sem,Ωm]
     exact(NC1.out HTL.out W).mono (fun e w' hh=>⟨hh.1,hC.step (by decide) (by decide) (fun h=>⟨h.1.keep hh.2,Blk.only h.2 hh.2 (fun e=>e)⟩) (fun h=>Blk.only h hh.2 (fun e=>e)) (fun h=>Blk.only h hh.2 (fun e=>e)) (fun h=>Blk.only h hh.2 (fun e=>e)) (fun h=>Blk.only h hh.2 (fun e=>e))⟩)
    refine Ωk (hv t) (by rfl) ?_ ?_
    ·intro L W hd hr hC
     have e:=Ωp hC.1.2.range HTL.out
     simp[Ωz,go_sem,Ωm,e]
     exact hC.same (by decide) (by decide)
    refine Ωk (hv d) (by rfl) ?_ ?_
    ·intro L W hd hr hC
     have e:=Ωp (hC.a2 (ΩjK hd hr (j:=5) (by kernel_rfl) (by kernel_rfl))).range HDL.out
     simp[Ωz,go_sem,Ωm,e]
     exact hC.same (by decide) (by decide)
    refine Ωk (hv q) (by rfl) ?_ ?_
    ·intro L W hd hr hC
     simp[Ωz,go_sem,Ωm]
     exact(NC2.out HTL.out W).mono (fun e w' hh=>⟨hh.1,hC.step (by decide) (by decide) (fun h=>⟨h.1.keep hh.2,Blk.only h.2 hh.2 (fun e=>e)⟩) (fun h=>Blk.only h hh.2 (fun e=>e)) (fun h=>Blk.only h hh.2 (fun e=>e)) (fun h=>Blk.only h hh.2 (fun e=>e)) (fun h=>Blk.only h hh.2 (fun e=>e))⟩)
    refine Ωk (undef) (by rfl) ?_ ?_
    ·intro L W hd hr hC
     have e:=ΩK (hC.a1 (ΩP hr)) HAL.out HP.out
     simp[Ωz,go_sem,Ωm,e]
     exact hC.put1 (by decide) (Ωew hr) (fun h=>⟨h.1.put (hC.a1 (ΩP hr)) hR0 hRw p,h.2.far (by omega)⟩) ((hC.a1 (ΩP hr)).put HAL.out HP.out) (fun h=>h.far (by omega)) (fun h=>h.far (by omega))
    refine Ωk (undef) (by rfl) ?_ ?_
    ·intro L W hd hr hC
     have e:=ΩK (hC.a2 (ΩP hr)) HDL.out HQL.out
     simp[Ωz,go_sem,Ωm,e]
     exact hC.put2 (by decide) (Ωew hr) (fun h=>⟨h.1.put (hC.a2 (ΩP hr)) (by omega) (by omega) q,h.2.far (by omega)⟩) (fun h=>h.far (by omega)) (fun h=>h.far (by omega)) ((hC.a2 (ΩP hr)).put HDL.out HQL.out)
    unfold ΩbN
    intro L W hall hC
    simp only[Act.put,ΩnX,List.set_cons_succ,Ωot]
    have hfin:=hC.all hall (by decide) (by decide)
    go_wp2_with fail
    refine bodyPost_ret (v:= .tuple #[hv p,hv q]) (ΩaO rfl rfl rfl hfin.2.1 hfin.2.2 HP.out HQL.out) rfl ⟨rfl,j2,c2',EJ2.out,hfin.1.1⟩
end
end Go.Proofs.YtgalfohobgjelaaGreatDoor
