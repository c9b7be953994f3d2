/-What is proved here:several parts. what is known while a bid is made and laid into the two blocks of a call's results,in any order. No conditions. · rebates that a call makes and appends,one by one. Conditions:there are few. · texts of made contents are short,and told by what they hold,in plain Lean;no program in sight. Conditions:the numbers are ints. · a remainder,a name by a number,and a text that is bent,by the reference's code. Conditions:the numbers are ints,the text is short. -/
import Derived.Test.YtpdlbmieciabmaaGreatDoorPm09
import Derived.Test.YtpdlbmieciabmaaGreatDoorPm12
import Derived.Test.YtpdlbmieciabmaaGreatDoorPm14
import Derived.Test.YtpdlbmieciabmaaGreatDoorPm18
import Derived.Test.YtpdlbmieciabmaaGreatDoorPm22
import Derived.Test.YtpdlbmieciabmaaGreatDoorPm25
namespace Go.Proofs.YtpdlbmieciabmaaGreatDoor
open Go.RowKit Go.Shelf
structure Jx where
 M:Nat
 p0:Nat
 p1:Nat
 p2:Nat
 S:Nat
 T:Nat
structure MdQ(w X:World)(R:Nat)(pv:List (Nat×Value))(ix:Jx)(m:Mde)(vals:Nat→Value)(L:Array Bool)(W:World):Prop where
 only:Only NoneOf w W
 pure:∀p∈pv,L.getD p.1 false=true→vals p.1=p.2
 made:L.getD ix.M false=true→∃bv y0 y1,vals ix.M= .tuple #[bv,.agg #[y0,y1],.int .i64 m.code]∧MdS w.heap.size m bv y0 y1 W
 p0:L.getD ix.p0 false=true→∃y z,vals ix.M= .tuple #[vals ix.p0,y,z]
 p1:L.getD ix.p1 false=true→∃x z,vals ix.M= .tuple #[x,vals ix.p1,z]
 p2:L.getD ix.p2 false=true→∃x y,vals ix.M= .tuple #[x,y,vals ix.p2]
 a:(L.getD ix.S false=false→Blk W R tBid zB)∧(L.getD ix.S false=true→∃cs,vals ix.p0= .agg cs∧Blk W R tBid cs)
 b:(L.getD ix.T false=false→Blk W (R+1) tShs zS)∧(L.getD ix.T false=true→∃cs,vals ix.p1= .agg cs∧Blk W (R+1) tShs cs)
 new:w.heap.size≤R
 pre:L.getD ix.S false=false→L.getD ix.T false=false→Only NoneOf X W
def Jx.ok(ix:Jx):Bool:=[ix.M,ix.p0,ix.p1,ix.p2,ix.S,ix.T].Nodup
def Jx.free(ix:Jx)(i:Nat):Bool:=[ix.M,ix.p0,ix.p1,ix.p2,ix.S,ix.T].all (·!=i)
theorem Jx.free_ne{ix:Jx}{i:Nat}(h:ix.free i=true):ix.M≠i∧ix.p0≠i∧ix.p1≠i∧ix.p2≠i∧ix.S≠i∧ix.T≠i:=by
 unfold Jx.free at h
 simpa using h
def Jx.off(ix:Jx)(pv:List (Nat×Value)):Bool:=pv.all fun p=>ix.free p.1
theorem Jx.off_ne{ix:Jx}{pv:List (Nat×Value)}(h:ix.off pv=true){p:Nat×Value}(hp:p∈pv):ix.M≠p.1∧ix.p0≠p.1∧ix.p1≠p.1∧ix.p2≠p.1∧ix.S≠p.1∧ix.T≠p.1:=Jx.free_ne (List.all_eq_true.1 h p hp)
structure Jx.Dif(ix:Jx):Prop where
 m0:ix.M≠ix.p0
 m1:ix.M≠ix.p1
 m2:ix.M≠ix.p2
 ms:ix.M≠ix.S
 mt:ix.M≠ix.T
 p01:ix.p0≠ix.p1
 p02:ix.p0≠ix.p2
 s0:ix.p0≠ix.S
 t0:ix.p0≠ix.T
 p12:ix.p1≠ix.p2
 s1:ix.p1≠ix.S
 t1:ix.p1≠ix.T
 s2:ix.p2≠ix.S
 t2:ix.p2≠ix.T
 st:ix.S≠ix.T
theorem Jx.dif{ix:Jx}(h:ix.ok=true):ix.Dif:=by
 unfold Jx.ok at h
 have h2:[ix.M,ix.p0,ix.p1,ix.p2,ix.S,ix.T].Nodup :=by simpa using h
 simp only[List.nodup_cons,List.mem_cons,List.not_mem_nil,or_false,not_or,List.nodup_nil,not_false_eq_true,and_true] at h2
 obtain⟨⟨a1,a2,a3,a4,a5⟩,⟨b1,b2,b3,b4⟩,⟨c1,c2,c3⟩,⟨d1,d2⟩,h1⟩:=h2
 exact⟨a1,a2,a3,a4,a5,b1,b2,b3,b4,c1,c2,c3,d1,d2,h1⟩
section
variable {w X:World} {R:Nat} {pv:List (Nat×Value)} {ix:Jx} {m:Mde} {vals:Nat→Value} {L:Array Bool} {W W' :World} {i:Nat} {u:Value}
theorem MdQ.start(vals:Nat→Value)(k:Nat)(ho:Only NoneOf w W)(hp:Only NoneOf X W)(hR:w.heap.size≤R)(hA:Blk W R tBid zB)(hB:Blk W (R+1) tShs zS):MdQ w X R pv ix m vals (Array.replicate k false) W:=by
 have h:∀j,¬(Array.replicate k false).getD j false=true:=fun j e=>absurd ((getD_replicate_false' k j).symm.trans e) (by decide)
 exact⟨ho,fun p _ e=>absurd e (h _),fun e=>absurd e (h _),fun e=>absurd e (h _),fun e=>absurd e (h _),fun e=>absurd e (h _),⟨fun _=>hA,fun e=>absurd e (h _)⟩,⟨fun _=>hB,fun e=>absurd e (h _)⟩,hR,fun _ _=>hp⟩
theorem MdQ.none_(h:MdQ w X R pv ix m vals L W)(ho:Only NoneOf W W'):MdQ w X R pv ix m vals L W' :=
 ⟨h.only.trans ho,h.pure,fun e=>by obtain⟨bv,y0,y1,e1,h1⟩:=h.made e;exact⟨bv,y0,y1,e1,h1.none_ ho⟩,h.p0,h.p1,h.p2,
  ⟨fun e=>(h.a.1 e).only ho (fun e=>e),fun e=>by obtain⟨cs,e3,h3⟩:=h.a.2 e;exact⟨cs,e3,h3.only ho (fun e=>e)⟩⟩,
  ⟨fun e=>(h.b.1 e).only ho (fun e=>e),fun e=>by obtain⟨cs,e3,h3⟩:=h.b.2 e;exact⟨cs,e3,h3.only ho (fun e=>e)⟩⟩,h.new,fun e1 e2=>(h.pre e1 e2).trans ho⟩
structure FrmJ(vals:Nat→Value)(L:Array Bool)(i:Nat)(u:Value):Prop where
 s:∀j,j≠i→(L.setIfInBounds i true).getD j false=L.getD j false
 v:∀j,j≠i→upV vals i u j=vals j
theorem frmJ(vals:Nat→Value)(L:Array Bool)(i:Nat)(u:Value):FrmJ vals L i u:=⟨fun _ h=>set_other (Ne.symm h),fun _ h=>upV_other h⟩
theorem MdQ.pure_(h:MdQ w X R pv ix m vals L W)(hf:ix.free i=true)(hu:∀p∈pv,p.1=i→p.2=u):MdQ w X R pv ix m (upV vals i u) (L.setIfInBounds i true) W:=by
 obtain⟨n1,n3,n4,n5,n8,n9⟩:=Jx.free_ne hf
 have f:=frmJ vals L i u
 have hm:=h.made;have k0:=h.p0;have k1:=h.p1;have k2:=h.p2;have ha:=h.a;have hb:=h.b
 refine⟨h.only,fun p hp e=> ?_,?_,?_,?_,?_,?_,?_,h.new,?_⟩
 ·by_cases e2:p.1=i
  ·rw[e2,upV_same,hu p hp e2]
  ·rw[f.s _ e2] at e
   rw[f.v _ e2]
   exact h.pure p hp e
 ·rw[f.s _ n1,f.v _ n1];exact hm
 ·rw[f.s _ n3,f.v _ n1,f.v _ n3];exact k0
 ·rw[f.s _ n4,f.v _ n1,f.v _ n4];exact k1
 ·rw[f.s _ n5,f.v _ n1,f.v _ n5];exact k2
 ·rw[f.s _ n8,f.v _ n3];exact ha
 ·rw[f.s _ n9,f.v _ n4];exact hb
 ·rw[f.s _ n8,f.s _ n9];exact h.pre
theorem MdQ.pv_(h:MdQ w X R pv ix m vals L W)(hne:∀p∈pv,p.1≠i):∀p∈pv,(L.setIfInBounds i true).getD p.1 false=true→upV vals i u p.1=p.2:=fun p hp e=>by
 rw[set_other (Ne.symm (hne p hp))] at e
 rw[upV_other (hne p hp)]
 exact h.pure p hp e
theorem MdQ.call(h:MdQ w X R pv ix m vals L W)(hd:ix.Dif)(ho:ix.off pv=true){bv y0 y1:Value}(hm:MdS w.heap.size m bv y0 y1 W)(u0:L.getD ix.p0 false=false)(u1:L.getD ix.p1 false=false)(u2:L.getD ix.p2 false=false):MdQ w X R pv ix m (upV vals ix.M (.tuple #[bv,.agg #[y0,y1],.int .i64 m.code])) (L.setIfInBounds ix.M true) W:=by
 have f:=frmJ vals L ix.M (.tuple #[bv,.agg #[y0,y1],.int .i64 m.code])
 have ha:=h.a;have hb:=h.b
 refine⟨h.only,h.pv_ (fun p hp=>(Ne.symm (Jx.off_ne ho hp).1)),fun _=>⟨bv,y0,y1,upV_same _ _ _,hm⟩,?_,?_,?_,?_,?_,h.new,?_⟩
 ·rw[f.s _ hd.m0.symm,u0];exact fun e=>by cases e
 ·rw[f.s _ hd.m1.symm,u1];exact fun e=>by cases e
 ·rw[f.s _ hd.m2.symm,u2];exact fun e=>by cases e
 ·rw[f.s _ hd.ms.symm,f.v _ hd.m0.symm];exact ha
 ·rw[f.s _ hd.mt.symm,f.v _ hd.m1.symm];exact hb
 ·rw[f.s _ hd.ms.symm,f.s _ hd.mt.symm];exact h.pre
theorem MdQ.part0(h:MdQ w X R pv ix m vals L W)(hd:ix.Dif)(ho:ix.off pv=true){y z:Value}(hu:vals ix.M= .tuple #[u,y,z])(uS:L.getD ix.S false=false):MdQ w X R pv ix m (upV vals ix.p0 u) (L.setIfInBounds ix.p0 true) W:=by
 have f:=frmJ vals L ix.p0 u
 have hm:=h.made;have k1:=h.p1;have k2:=h.p2;have ha:=h.a;have hb:=h.b
 refine⟨h.only,h.pv_ (fun p hp=>(Ne.symm (Jx.off_ne ho hp).2.1)),?_,fun _=> ?_,?_,?_,?_,?_,h.new,?_⟩
 ·rw[f.s _ hd.m0,f.v _ hd.m0];exact hm
 ·rw[upV_same,f.v _ hd.m0];exact⟨y,z,hu⟩
 ·rw[f.s _ hd.p01.symm,f.v _ hd.m0,f.v _ hd.p01.symm];exact k1
 ·rw[f.s _ hd.p02.symm,f.v _ hd.m0,f.v _ hd.p02.symm];exact k2
 ·rw[f.s _ hd.s0.symm]
  exact⟨ha.1,fun e=>by rw[uS] at e;cases e⟩
 ·rw[f.s _ hd.t0.symm,f.v _ hd.p01.symm];exact hb
 ·rw[f.s _ hd.s0.symm,f.s _ hd.t0.symm];exact h.pre
theorem MdQ.part1(h:MdQ w X R pv ix m vals L W)(hd:ix.Dif)(ho:ix.off pv=true){x z:Value}(hu:vals ix.M= .tuple #[x,u,z])(uT:L.getD ix.T false=false):MdQ w X R pv ix m (upV vals ix.p1 u) (L.setIfInBounds ix.p1 true) W:=by
 have f:=frmJ vals L ix.p1 u
 have hm:=h.made;have k0:=h.p0;have k2:=h.p2;have ha:=h.a;have hb:=h.b
 refine⟨h.only,h.pv_ (fun p hp=>(Ne.symm (Jx.off_ne ho hp).2.2.1)),?_,?_,fun _=> ?_,?_,?_,?_,h.new,?_⟩
 ·rw[f.s _ hd.m1,f.v _ hd.m1];exact hm
 ·rw[f.s _ hd.p01,f.v _ hd.m1,f.v _ hd.p01];exact k0
 ·rw[upV_same,f.v _ hd.m1];exact⟨x,z,hu⟩
 ·rw[f.s _ hd.p12.symm,f.v _ hd.m1,f.v _ hd.p12.symm];exact k2
 ·rw[f.s _ hd.s1.symm,f.v _ hd.p01];exact ha
 ·rw[f.s _ hd.t1.symm]
  exact⟨hb.1,fun e=>by rw[uT] at e;cases e⟩
 ·rw[f.s _ hd.s1.symm,f.s _ hd.t1.symm];exact h.pre
theorem MdQ.part2(h:MdQ w X R pv ix m vals L W)(hd:ix.Dif)(ho:ix.off pv=true){x y:Value}(hu:vals ix.M= .tuple #[x,y,u]):MdQ w X R pv ix m (upV vals ix.p2 u) (L.setIfInBounds ix.p2 true) W:=by
 have f:=frmJ vals L ix.p2 u
 have hm:=h.made;have k0:=h.p0;have k1:=h.p1;have ha:=h.a;have hb:=h.b
 refine⟨h.only,h.pv_ (fun p hp=>(Ne.symm (Jx.off_ne ho hp).2.2.2.1)),?_,?_,?_,fun _=> ?_,?_,?_,h.new,?_⟩
 ·rw[f.s _ hd.m2,f.v _ hd.m2];exact hm
 ·rw[f.s _ hd.p02,f.v _ hd.m2,f.v _ hd.p02];exact k0
 ·rw[f.s _ hd.p12,f.v _ hd.m2,f.v _ hd.p12];exact k1
 ·rw[upV_same,f.v _ hd.m2];exact⟨x,y,hu⟩
 ·rw[f.s _ hd.s2.symm,f.v _ hd.p02];exact ha
 ·rw[f.s _ hd.t2.symm,f.v _ hd.p12];exact hb
 ·rw[f.s _ hd.s2.symm,f.s _ hd.t2.symm];exact h.pre
theorem MdQ.fillA(h:MdQ w X R pv ix m vals L W)(hd:ix.Dif)(ho:ix.off pv=true)(hi:ix.S<L.size){cs:Array Value}(h0:vals ix.p0= .agg cs)(hb0:Blk W R tBid zB)(hb1:Blk W' R tBid cs)(hw:Only (·=R) W W'):MdQ w X R pv ix m (upV vals ix.S u) (L.setIfInBounds ix.S true) W' :=by
 have f:=frmJ vals L ix.S u
 have hm:=h.made;have k0:=h.p0;have k1:=h.p1;have k2:=h.p2;have hb:=h.b;have hn:=h.new
 refine⟨h.only.trans' hw (fun j hj e=>by have e' :j=R:=e;omega),h.pv_ (fun p hp=>(Ne.symm (Jx.off_ne ho hp).2.2.2.2.1)),?_,?_,?_,?_,?_,?_,h.new,?_⟩
 ·rw[f.s _ hd.ms,f.v _ hd.ms]
  intro e
  obtain⟨bv,y0,y1,e1,h1⟩:=hm e
  exact⟨bv,y0,y1,e1,h1.put hw hb0 (by decide)⟩
 ·rw[f.s _ hd.s0,f.v _ hd.ms,f.v _ hd.s0];exact k0
 ·rw[f.s _ hd.s1,f.v _ hd.ms,f.v _ hd.s1];exact k1
 ·rw[f.s _ hd.s2,f.v _ hd.ms,f.v _ hd.s2];exact k2
 ·rw[f.v _ hd.s0,set_same hi]
  exact⟨fun e=>(by cases e),fun _=>⟨cs,h0,hb1⟩⟩
 ·rw[f.s _ hd.st.symm,f.v _ hd.s1]
  exact⟨fun e=>(hb.1 e).only hw (by omega),fun e=>by obtain⟨c,e3,h3⟩:=hb.2 e;exact⟨c,e3,h3.only hw (by omega)⟩⟩
 ·rw[set_same hi];exact fun e=>by cases e
theorem MdQ.fillB(h:MdQ w X R pv ix m vals L W)(hd:ix.Dif)(ho:ix.off pv=true)(hi:ix.T<L.size){cs:Array Value}(h0:vals ix.p1= .agg cs)(hb0:Blk W (R+1) tShs zS)(hb1:Blk W' (R+1) tShs cs)(hw:Only (·=R+1) W W'):MdQ w X R pv ix m (upV vals ix.T u) (L.setIfInBounds ix.T true) W' :=by
 have f:=frmJ vals L ix.T u
 have hm:=h.made;have k0:=h.p0;have k1:=h.p1;have k2:=h.p2;have ha:=h.a;have hn:=h.new
 refine⟨h.only.trans' hw (fun j hj e=>by have e' :j=R+1:=e;omega),h.pv_ (fun p hp=>(Ne.symm (Jx.off_ne ho hp).2.2.2.2.2)),?_,?_,?_,?_,?_,?_,h.new,?_⟩
 ·rw[f.s _ hd.mt,f.v _ hd.mt]
  intro e
  obtain⟨bv,y0,y1,e1,h1⟩:=hm e
  exact⟨bv,y0,y1,e1,h1.put hw hb0 (by decide)⟩
 ·rw[f.s _ hd.t0,f.v _ hd.mt,f.v _ hd.t0];exact k0
 ·rw[f.s _ hd.t1,f.v _ hd.mt,f.v _ hd.t1];exact k1
 ·rw[f.s _ hd.t2,f.v _ hd.mt,f.v _ hd.t2];exact k2
 ·rw[f.s _ hd.st,f.v _ hd.t0]
  exact⟨fun e=>(ha.1 e).only hw (by omega),fun e=>by obtain⟨c,e3,h3⟩:=ha.2 e;exact⟨c,e3,h3.only hw (by omega)⟩⟩
 ·rw[f.v _ hd.t1,set_same hi]
  exact⟨fun e=>(by cases e),fun _=>⟨cs,h0,hb1⟩⟩
 ·rw[set_same hi];exact fun _ e=>by cases e
theorem MdQ.parts(h:MdQ w X R pv ix m vals L W)(hM:L.getD ix.M false=true):∃q p y0 y1,vals ix.M= .tuple #[.agg #[.int .i64 m.bid.bidder,.string m.bid.qt,q,.string m.bid.pt,p],.agg #[y0,y1],.int .i64 m.code]∧MdS w.heap.size m (.agg #[.int .i64 m.bid.bidder,.string m.bid.qt,q,.string m.bid.pt,p]) y0 y1 W∧(#[.int .i64 m.bid.bidder,.string m.bid.qt,q,.string m.bid.pt,p]:Array Value).all (·.oneCell')=true∧(#[y0,y1]:Array Value).all (·.oneCell')=true:=by
 obtain⟨bv,y0,y1,e,hmd⟩:=h.made hM
 have hmd2:=hmd
 obtain⟨⟨qv,pv',e2,h1,h2⟩,h3,h4⟩:=hmd
 subst e2
 obtain⟨A1,k1,rfl,_,_⟩:=own_form' h1
 obtain⟨A2,k2,rfl,_,_⟩:=own_form' h2
 obtain⟨A3,k3,rfl,_,_⟩:=own_form' h3
 obtain⟨A4,k4,rfl,_,_⟩:=own_form' h4
 exact⟨_,_,_,_,e,hmd2,by kernel_rfl,by kernel_rfl⟩
theorem MdQ.doS{o:Oper}{ρ:Operand→Value}(h:MdQ w X R pv ix m vals L W)(hd:ix.Dif)(hf:ix.off pv=true)(hi:ix.S<L.size)(uS:L.getD ix.S false=false)(h0:L.getD ix.p0 false=true)(hM:L.getD ix.M false=true){x y:Operand}(ho:o.op= .store tBid x y)(hx:ρ x= .pointer (some ⟨R,0,none⟩))(hy:ρ y=vals ix.p0):stepR Tryz.prog o ρ W fun u W' =>MdQ w X R pv ix m (upV vals ix.S u) (L.setIfInBounds ix.S true) W' :=by
 obtain⟨q,p,y0,y1,e2,_,o1,_⟩:=h.parts hM
 obtain⟨a,b,e3⟩:=h.p0 h0
 rw[e2] at e3
 have e4:vals ix.p0= .agg #[.int .i64 m.bid.bidder,.string m.bid.qt,q,.string m.bid.pt,p]:=by
  simp only[Value.tuple.injEq,Array.mk.injEq,List.cons.injEq] at e3
  exact e3.1.symm
 exact step_store ho hx (hy.trans e4) (h.a.1 uS) rfl (by kernel_rfl) o1 (fun W' hb hw=>h.fillA hd hf hi e4 (h.a.1 uS) hb hw)
theorem MdQ.doT{o:Oper}{ρ:Operand→Value}(h:MdQ w X R pv ix m vals L W)(hd:ix.Dif)(hf:ix.off pv=true)(hi:ix.T<L.size)(uT:L.getD ix.T false=false)(h0:L.getD ix.p1 false=true)(hM:L.getD ix.M false=true){x y:Operand}(ho:o.op= .store tShs x y)(hx:ρ x= .pointer (some ⟨R+1,0,none⟩))(hy:ρ y=vals ix.p1):stepR Tryz.prog o ρ W fun u W' =>MdQ w X R pv ix m (upV vals ix.T u) (L.setIfInBounds ix.T true) W' :=by
 obtain⟨q,p,y0,y1,e2,_,_,o1⟩:=h.parts hM
 obtain⟨a,b,e3⟩:=h.p1 h0
 rw[e2] at e3
 have e4:vals ix.p1= .agg #[y0,y1]:=by
  simp only[Value.tuple.injEq,Array.mk.injEq,List.cons.injEq] at e3
  exact e3.2.1.symm
 exact step_store ho hx (hy.trans e4) (h.b.1 uT) rfl (by kernel_rfl) o1 (fun W' hb hw=>h.fillB hd hf hi e4 (h.b.1 uT) hb hw)
theorem MdQ.all(h:MdQ w X R pv ix m vals L W){n:Nat}(ha:∀i,i<n→L.getD i false=true)(hn:ix.M<n∧ix.p0<n∧ix.p1<n∧ix.p2<n∧ix.S<n∧ix.T<n):∃q p y0 y1,vals ix.p2= .int .i64 m.code∧Blk W R tBid #[.int .i64 m.bid.bidder,.string m.bid.qt,q,.string m.bid.pt,p]∧Blk W (R+1) tShs #[y0,y1]∧MdS w.heap.size m (.agg #[.int .i64 m.bid.bidder,.string m.bid.qt,q,.string m.bid.pt,p]) y0 y1 W∧Only NoneOf w W:=by
 obtain⟨nM,n0,n1,n2,nS,nT⟩:=hn
 obtain⟨q,p,y0,y1,e2,hmd,_,_⟩:=h.parts (ha _ nM)
 obtain⟨a,b,e3⟩:=h.p0 (ha _ n0)
 obtain⟨a',b',e4⟩:=h.p1 (ha _ n1)
 obtain⟨a'',b'',e5⟩:=h.p2 (ha _ n2)
 rw[e2] at e3 e4 e5
 simp only[Value.tuple.injEq,Array.mk.injEq,List.cons.injEq] at e3 e4 e5
 obtain⟨c1,h1,l1⟩:=h.a.2 (ha _ nS)
 obtain⟨c2,h2,l2⟩:=h.b.2 (ha _ nT)
 rw[←e3.1] at h1
 rw[←e4.2.1] at h2
 cases h1
 cases h2
 exact⟨q,p,y0,y1,e5.2.2.1.symm,l1,l2,hmd,h.only⟩
end
end Go.Proofs.YtpdlbmieciabmaaGreatDoor
namespace Go.Proofs.YtpdlbmieciabmaaGreatDoor
open Go.RowKit Go.Shelf
theorem rebI:RecI 86 2 32:=recI_of (by kernel_rfl) (by kernel_rfl) (by kernel_rfl)
theorem rcC_one(c:Rc)(h:c.v.oneCell' =true):∀u∈rcC c,u.oneCell' =true:=fun u hu=>by
 unfold rcC at hu
 simp only[List.mem_cons,List.not_mem_nil,or_false] at hu
 rcases hu with rfl|rfl
 ·exact h
 ·rfl
def RbOwn(w:World)(base:Nat)(v:Value)(n:Nat)(rs:List Rb):Prop:=∃L:List Rc,L.length=rs.length∧OwnOf 86 rcC 2 w base v n L∧∀(i:Nat) (c:Rc) (r:Rb),L[i]? =some c→rs[i]? =some r→c.pc=r.pc∧SlT 3 inC 1 w c.v r.lots
theorem RbOwn.nil(w:World)(base:Nat):RbOwn w base (.slice none 0 0) 0 []:=⟨[],rfl,OwnOf.nil _ _ _ _ _,fun i c e h _=>by simp at h⟩
theorem RbOwn.form{w:World}{base n:Nat}{v:Value}{rs:List Rb}(h:RbOwn w base v n rs):∃A cap,v= .slice A n cap∧n≤cap∧cap≤maxLen:=by
 obtain⟨L,_,h2,_⟩:=h
 exact own_form' h2
theorem RbOwn.sl{w:World}{base:Nat}{v:Value}{rs:List Rb}(h:RbOwn w base v rs.length rs):RbSl w v rs:=by
 obtain⟨L,h1,h2,h3⟩:=h
 rw[←h1] at h2
 refine⟨L,h1,OwnOf.sl rcC_len h2,fun i c e hc he=> ?_⟩
 obtain⟨k1,k2⟩:=h3 i c e hc he
 exact⟨k1,k2.sl⟩
theorem RbOwn.none_{w w' :World}{base n:Nat}{v:Value}{rs:List Rb}(h:RbOwn w base v n rs)(ho:Only NoneOf w w'):RbOwn w' base v n rs:=by
 obtain⟨L,h1,h2,h3⟩:=h
 exact⟨L,h1,OwnOf.keep h2 ho (fun _ _ e=>e),fun i c e hc he=>⟨(h3 i c e hc he).1,(h3 i c e hc he).2.none_ ho⟩⟩
theorem slT_one{α:Type}{t:TypeId}{c:α→List Value}{k:Nat}{w:World}{v:Value}{P:List α}(h:SlT t c k w v P):v.oneCell' =true:=by
 obtain⟨A,cap,rfl,_⟩:=h
 rfl
theorem run_append_reb(W:World)(base:Nat)(v:Value)(rs:List Rb)(c:Rc)(r:Rb)(h:RbOwn W base v rs.length rs)(hc:c.pc=r.pc∧SlT 3 inC 1 W c.v r.lots)(N:Nat)(hsrc:Blk W N 86 (rcC c).toArray)(hn:rs.length≤1000000000)(hb:base≤W.heap.size)(ty:TypeId):
  ∃A cap W',(aph #[32,32] ty #[v,.slice (some ⟨N,0,none⟩) 1 1]).run Tryz.prog W= .ok (.slice A (rs.length+1) cap) W'∧RbOwn W' base (.slice A (rs.length+1) cap) (rs.length+1) (rs++[r])∧Only (TS base W [86]) W W' :=by
 obtain⟨L,h1,h2,h3⟩:=h
 rw[←h1] at h2
 obtain⟨A,cap,W',hr,k1,k2,_⟩:=run_append_rec (T:=32) Tryz.underlying32 rebI (by omega) (by omega) rcC_len W base v L c (rcC_one c (slT_one hc.2)) h2 N hsrc (by omega) hb ty
 rw[h1] at hr k1
 have ho:=grown_ts k2 h2
 refine⟨A,cap,W',hr,⟨L++[c],by simp[h1],k1,fun i d f hd hf=> ?_⟩,ho⟩
 rcases Nat.lt_or_ge i L.length with hi|hi
 ·rw[List.getElem?_append_left hi] at hd
  rw[List.getElem?_append_left (by omega)] at hf
  obtain⟨a1,a2⟩:=h3 i d f hd hf
  exact⟨a1,a2.ts ho (by decide)⟩
 ·rw[List.getElem?_append_right hi] at hd
  rw[List.getElem?_append_right (by omega),←h1] at hf
  cases hq:i-L.length with
  |zero=>
   rw[hq] at hd hf
   simp only[List.getElem?_cons_zero,Option.some.injEq] at hd hf
   subst hd
   subst hf
   exact⟨hc.1,hc.2.ts ho (by decide)⟩
  |succ q=>rw[hq] at hd;simp at hd
theorem EnOwn.ts{w w' :World}{base base' n:Nat}{ts:List TypeId}{v:Value}{es:List En}(h:EnOwn w base v n es)(ho:Only (TS base' w ts) w w')(h1:37∉ts)(h2:84∉ts):EnOwn w' base v n es:=h.keep ho (fun _ _ hs=>⟨fun hb=>h1 (hs.2 _ _ hb),fun hb=>h2 (hs.2 _ _ hb)⟩)
end Go.Proofs.YtpdlbmieciabmaaGreatDoor
namespace Go.Proofs.YtpdlbmieciabmaaGreatDoor
theorem wordsB_len:∀(ns:List Int),(∀n∈ns,In n)→(wordsN ns).length≤22*ns.length
 |[],_=>by simp[wordsN]
 |n::ns,h=>by
  have ih:=wordsB_len ns (fun m hm=>h m (by simp[hm]))
  have h1:=itoa_len (h n (by simp)).1 (h n (by simp)).2
  have e:wordsN (n::ns)=32::Lib.itoa n++wordsN ns:=by unfold wordsN;simp
  rw[e,List.length_append,List.length_cons,List.length_cons]
  omega
theorem lineOf_len(x:Ln)(h:∀n∈x.2,In n):(lineOf x).length≤x.1.length+22*x.2.length+1:=by
 have h1:=wordsB_len x.2 h
 unfold lineOf lineL
 rw[List.length_append,List.length_append,List.length_singleton]
 omega
theorem textG_len{K:Nat}:∀(p:List Ln),(∀x∈p,(lineOf x).length≤K)→(textG p).length≤p.length*K
 |[],_=>by simp[textG]
 |x::p,h=>by
  have ih:=textG_len p (fun y hy=>h y (by simp[hy]))
  have h1:=h x (by simp)
  rw[textG_cons,List.length_append,List.length_cons,Nat.add_mul]
  omega
theorem qLines_len:∀(es:List En),(∀e∈es,e.values.length≤5)→(qLines es).length≤es.length*6
 |[],_=>by simp[qLines]
 |e::es,h=>by
  have ih:=qLines_len es (fun y hy=>h y (by simp[hy]))
  have h1:=h e (by simp)
  have e:qLines (e::es)=eLines e++qLines es:=by unfold qLines;simp
  rw[e,List.length_append,List.length_cons]
  unfold eLines
  rw[List.length_cons,List.length_map]
  omega
theorem mkEs_mem{wild:Bool}{o:Of}{e:En}(h:e∈mkEs wild o):e.values.length≤5∧∀v∈e.values,v.name.size≤9:=by
 obtain⟨l,_,rfl⟩:=List.mem_map.1 h
 refine⟨mkE_vals wild l,fun v hv=> ?_⟩
 obtain⟨p,_,rfl⟩:=List.mem_map.1 hv
 exact mkV_name wild p
theorem mkEs_text{o:Of}(h:o.Ok)(wild:Bool):(textG (qLines (mkEs wild o))).length≤4000:=by
 have h1:(textG (qLines (mkEs wild o))).length≤(qLines (mkEs wild o)).length *40:=textG_len _ (fun x hx=>by
  obtain⟨e,he,hx⟩:=List.mem_flatMap.1 hx
  have hin:=mkEs_in h wild e he
  unfold eLines at hx
  rcases List.mem_cons.1 hx with rfl|hx
  ·have:=lineOf_len (wLot,[e.lot]) (fun n hn=>by rw[List.mem_singleton.1 hn];exact hin.1)
   have e1:((wLot,[e.lot]):Ln).1.length =3:=rfl
   have e2:((wLot,[e.lot]):Ln).2.length =1:=rfl
   rw[e1,e2] at this
   omega
  ·obtain⟨v,hv,rfl⟩:=List.mem_map.1 hx
   have h9:=(mkEs_mem he).2 v hv
   have:=lineOf_len (vLine v) (fun n hn=>by rw[List.mem_singleton.1 hn];exact hin.2.2 v hv)
   have e1:(vLine v).1.length =v.name.size:=by simp[vLine]
   have e2:(vLine v).2.length =1:=rfl
   rw[e1,e2] at this
   omega)
 have h2:=qLines_len (mkEs wild o) (fun e he=>(mkEs_mem he).1)
 have h3:=mkEs_len wild o
 omega
theorem mkPr_text{o:Of}(h:o.Ok)(wild:Bool):(pricL (mkEs wild o) (mkRs o)).length≤2000:=by
 have h1:(textG (pLines (mkEs wild o) (mkRs o))).length≤(pLines (mkEs wild o) (mkRs o)).length *150:=textG_len _ (fun x hx=>by
  unfold pLines at hx
  rcases List.mem_append.1 hx with hx|hx
  ·obtain⟨e,he,rfl⟩:=List.mem_map.1 hx
   have hin:=mkEs_in h wild e he
   have:=lineOf_len (pLine e) (fun n hn=>by
    rcases List.mem_cons.1 hn with rfl|hn
    ·exact hin.1
    ·rw[List.mem_singleton.1 hn];exact hin.2.1)
   have e1:(pLine e).1.length =3:=rfl
   have e2:(pLine e).2.length =2:=rfl
   rw[e1,e2] at this
   omega
  ·obtain⟨r,hr,rfl⟩:=List.mem_map.1 hx
   have hin:=mkRs_in h r hr
   obtain⟨l,_,rfl⟩:=List.mem_map.1 hr
   have h5:=mkR_lots l
   have:=lineOf_len (rLine (mkR l)) (fun n hn=>by
    rcases List.mem_cons.1 hn with rfl|hn
    ·exact hin.1
    ·exact hin.2 n hn)
   have e1:(rLine (mkR l)).2.length =(mkR l).lots.length +1:=rfl
   have e2:(rLine (mkR l)).1.length =6:=rfl
   rw[e1,e2] at this
   omega)
 have h2:(pLines (mkEs wild o) (mkRs o)).length≤10:=by
  unfold pLines
  have:=mkEs_len wild o
  have:=mkRs_len o
  rw[List.length_append,List.length_map,List.length_map]
  omega
 unfold pricL
 omega
theorem qualL_len{o:Of}(h:o.Ok)(wild:Bool):(qualL (mkEs wild o)).length≤4000:=by
 have:=mkEs_text h wild
 unfold qualL
 split
 ·exact this
 ·simp
end Go.Proofs.YtpdlbmieciabmaaGreatDoor
namespace Go.Proofs.YtpdlbmieciabmaaGreatDoor
open Go.RowKit Go.Shelf
theorem mod04_any(n m:Int)(_hn:In n)(hm:0<m)(hm2:m≤2000000000000000000)(w:World):Calls Tryz.prog 33 #[.int .i64 n,.int .i64 m] w fun e w' =>e= .returned (.int .i64 (n%m))∧w' =w:=by
 obtain⟨r,er⟩:∃r,r=n.tmod m:=⟨_,rfl⟩
 have hr1: -m<r∧r<m:=by
  rw[er];exact⟨Int.lt_tmod_of_pos n hm,Int.tmod_lt_of_pos n hm⟩
 have hr2:n%m=if r<0 then r+m else r:=by
  rw[er,Int.tmod_eq_emod]
  have:=Int.emod_nonneg n (show m≠0 by omega)
  have:=Int.emod_lt_of_pos n hm
  have hab:(m.natAbs:Int)=m:=by omega
  split<;>split<;>omega
 have hr3:(r+m).tmod m=n%m:=by
  rw[Int.tmod_eq_emod_of_nonneg (by omega),hr2]
  split
  ·exact Int.emod_eq_of_lt (by omega) (by omega)
  ·rw[Int.add_emod_right];exact Int.emod_eq_of_lt (by omega) (by omega)
 have hr4:0≤n%m∧n%m<m:=⟨Int.emod_nonneg n (by omega),Int.emod_lt_of_pos n hm⟩
 obtain⟨g,eg⟩:∃g,g=n%m:=⟨_,rfl⟩
 rw[←eg] at hr3 hr4⊢
 have e1:IntKind.i64.wrap (n.tmod m)=r:=by rw[←er];exact IntWalk.i64_in _ (by omega)
 have e2:IntKind.i64.wrap (r+m)=r+m:=IntWalk.i64_in _ (by omega)
 have e3:IntKind.i64.wrap ((r+m).tmod m)=g:=by rw[hr3];exact IntWalk.i64_in _ (by omega)
 have e4:IntKind.i64.wrap r=r:=IntWalk.i64_in _ (by omega)
 have e5:IntKind.i64.wrap g=g:=IntWalk.i64_in _ (by omega)
 have e0:¬m=0:=by omega
 have er' :=er.symm
 clear eg er hr2 hr1 hr4 hm hm2
 go_enter Tryz.func33,Tryz.ntmps33
 go_wp2_with fail
 exact⟨rfl,_,results_tmp rfl _ _ _,rfl,rfl⟩
theorem name_cell(m:Nat)(h:m<10):(#[.string ⟨#[100,97,121,115]⟩,.string ⟨#[115,116,97,102,102]⟩,.string ⟨#[115,105,122,101]⟩,.string ⟨#[113,117,97,108,105,116,121]⟩,.string ⟨#[97]⟩,.string ⟨#[100,97,121,115]⟩,.string ⟨#[108,111,116]⟩,.string ⟨#[116,119,111,32,119,111,114,100,115]⟩,.string ⟨#[]⟩,.string ⟨#[65]⟩]:Array Value)[m]? =some (.string ⟨(nameN m).toArray⟩):=by
 match m,h with
 |0,_=>rfl
 |1,_=>rfl
 |2,_=>rfl
 |3,_=>rfl
 |4,_=>rfl
 |5,_=>rfl
 |6,_=>rfl
 |7,_=>rfl
 |8,_=>rfl
 |9,_=>rfl
set_option maxRecDepth 100000 in
set_option maxHeartbeats 1000000 in
theorem name_any(n:Int)(hn:In n)(w:World):Calls Tryz.prog 34 #[.int .i64 n] w fun e w' =>e= .returned (.string (nameT n))∧Only NoneOf w w' :=by
 obtain⟨m,em⟩:∃m:Nat,n%10=(m:Int):=⟨(n%10).toNat,by have:=Int.emod_nonneg n (show(10:Int)≠0 by omega);omega⟩
 have hm:m<10:=by
  have:=Int.emod_lt_of_pos n (show(0:Int)<10 by omega)
  omega
 have hc:(w.alloc (.cells #[.string ⟨#[100,97,121,115]⟩,.string ⟨#[115,116,97,102,102]⟩,.string ⟨#[115,105,122,101]⟩,.string ⟨#[113,117,97,108,105,116,121]⟩,.string ⟨#[97]⟩,.string ⟨#[100,97,121,115]⟩,.string ⟨#[108,111,116]⟩,.string ⟨#[116,119,111,32,119,111,114,100,115]⟩,.string ⟨#[]⟩,.string ⟨#[65]⟩] 9)).cell? ⟨w.heap.size,m,none⟩=some (.string (nameT n)):=by
  rw[(Blk.new w _ _).cell,name_cell m hm]
  unfold nameT
  rw[em,Int.toNat_natCast]
 have m4:∀W,Calls Tryz.prog 33 #[.int .i64 n,.int .i64 10] W fun e w' =>e= .returned (.int .i64 (m:Int))∧w' =W:=fun W=>by rw[←em];exact mod04_any n 10 hn (by omega) (by omega) W
 have M4:=Lib.hid m4
 have im:(m:Int)<10:=by omega
 have im0:(0:Int)≤(m:Int):=by omega
 obtain⟨X,eX⟩:∃X,X=w.alloc (.cells #[.string ⟨#[100,97,121,115]⟩,.string ⟨#[115,116,97,102,102]⟩,.string ⟨#[115,105,122,101]⟩,.string ⟨#[113,117,97,108,105,116,121]⟩,.string ⟨#[97]⟩,.string ⟨#[100,97,121,115]⟩,.string ⟨#[108,111,116]⟩,.string ⟨#[116,119,111,32,119,111,114,100,115]⟩,.string ⟨#[]⟩,.string ⟨#[65]⟩] 9):=⟨_,rfl⟩
 rw[←eX] at hc
 have HX:=Lib.hid (show Only NoneOf w X by rw[eX];exact(Only.refl _ _).alloc _)
 have EX:=Lib.hid eX
 clear m4 em eX
 go_enter Tryz.func34,Tryz.ntmps34
 go_wp2_with fail
 rw[←EX.out]
 refine(M4.out _).mono ?_
 rintro e w1 ⟨rfl,rfl⟩
 go_wp2_with fail
 go_ret
 exact⟨rfl,HX.out⟩
end Go.Proofs.YtpdlbmieciabmaaGreatDoor
