/-What is proved here:several parts. how a bid is made:the seed,the numbers of officers and shares. Conditions:the numbers are bytes. · what is known while a bid is made and laid into two new blocks,in any order. No conditions. · what is known while a bid is made and laid into the two blocks of a call's results,in any order. No conditions. -/
import Derived.Test.YtpdlbmieciabmaaGreatDoorPk01
import Derived.Test.YtpdlbmieciabmaaGreatDoorPk21
import Derived.Deep.MidRow
namespace Go.Proofs.YtpdlbmieciabmaaGreatDoor
open Go.RowKit Go.Shelf
abbrev tMd:TypeId:=23
def sdT(s:ByteArray):ByteArray:=s.extract 0 (min (s.size:Int) 100).toNat
theorem sdT_size(s:ByteArray):(sdT s).size≤100:=by unfold sdT;rw[ByteArray.size_extract];omega
theorem seed16_any(n:Int)(s:ByteArray)(a b:Nat)(w:World):Calls Tryz.prog 12 #[.agg #[.int .i64 n,.string s,.int .u8 (a:Int),.int .u8 (b:Int)]] w fun e w' =>e= .returned (.string (sdT s))∧Only NoneOf w w' :=by
 go_enter Tryz.func12,Tryz.ntmps12
 go_wp2_with fail
 go_ret
 exact⟨rfl,(Only.refl _ _).alloc _⟩
theorem good_any16(n:Int)(s:ByteArray)(a b:Nat)(ha:a<256)(hb:b<256)(w:World):Calls Tryz.prog 9 #[.agg #[.int .i64 n,.string s,.int .u8 (a:Int),.int .u8 (b:Int)]] w fun e w' =>e= .returned (.tuple #[.int .i64 ((1+a%(1+b%13):Nat):Int),.int .i64 ((1+b%13:Nat):Int)])∧Only NoneOf w w' :=by
 have b1:(0:Int)≤(a:Int)%(1+(b:Int)%13):=Int.emod_nonneg _ (by omega)
 have b2:(a:Int)%(1+(b:Int)%13)<256:=by
  have:=Int.emod_lt_of_pos (a:Int) (show(0:Int)<1+(b:Int)%13 by omega)
  omega
 have e1:((1+b%13:Nat):Int)=1+(b:Int)%13:=by omega
 have e2:((1+a%(1+b%13):Nat):Int)=1+(a:Int)%(1+(b:Int)%13):=by
  rw[←e1]
  push_cast
  rfl
 have E1:=Lib.hid e1
 have E2:=Lib.hid e2
 clear e1 e2
 go_enter Tryz.func9,Tryz.ntmps9
 go_wp2_with fail
 go_ret2
 rw[E1.out,E2.out]
 exact⟨rfl,(Only.refl _ _).alloc _⟩
end Go.Proofs.YtpdlbmieciabmaaGreatDoor
namespace Go.Proofs.YtpdlbmieciabmaaGreatDoor
open Go.RowKit Go.Shelf
section
variable {P:Program} {o:Oper} {ρ:Operand→Value} {w:World} {post:Value→World→Prop}
theorem step_load{ty:TypeId}{x:Operand}{g:Nat}{cs:Array Value}{d:TypeDesc}(ho:o.op= .load ty x)(hx:ρ x= .pointer (some ⟨g,0,none⟩))(hb:Blk w g ty cs)(hu:P.underlying ty=some d)(hd:d.isRow=true)(hi:(P.info? ty).map (·.size)=some cs.size)(h:post (.agg cs) w):stepR P o ρ w post:=by
 have hr:w.rangeAt g 0 cs.toList:=fun j v hj=>by rw[Nat.zero_add,hb.cell];simpa using hj
 unfold stepR execOp
 simp only[ho,hx,Instr.loadAt,Instr.sureAddr,Sem.run_bind,Sem.run_pure,Result.andThen_ok,run_loadVar_mid w g 0 ty cs.toList d hr hu hd (by simpa using hi)]
 exact h
theorem step_store{ty:TypeId}{x y:Operand}{g:Nat}{cs cs' :Array Value}(ho:o.op= .store ty x y)(hx:ρ x= .pointer (some ⟨g,0,none⟩))(hy:ρ y= .agg cs')(hb:Blk w g ty cs)(hz:cs'.size=cs.size)(hi:(P.info? ty).map (·.size)=some cs'.size)(h1:cs'.all (·.oneCell')=true)(h:∀w',Blk w' g ty cs'→Only (·=g) w w'→post undef w'):stepR P o ρ w post:=by
 have ht:w.there g 0 cs'.size:=hb.there 0 _ (by rw[hz];omega)
 unfold stepR execOp
 simp only[ho,hx,hy,Instr.storeAt,Instr.sureAddr,Sem.run_bind,Sem.run_pure,Result.andThen_ok,run_storeVar_mid w g 0 ty cs' ht hi h1]
 have hb2:Blk w g ty cs.toList.toArray:=by simpa using hb
 have h2:=hb2.filled cs'.toList (by simpa using hz)
 exact h _ (by simpa using h2) (only_setCells (Only.refl (·=g) w) _ _ (.inl rfl) _)
end
structure Ix where
 M:Nat
 V:Nat
 p0:Nat
 p1:Nat
 p2:Nat
 A:Nat
 B:Nat
 S:Nat
 T:Nat
abbrev zB:Array Value:= #[.int .i64 0,.string ⟨#[]⟩,.slice none 0 0,.string ⟨#[]⟩,.slice none 0 0]
abbrev zS:Array Value:= #[.slice none 0 0,.slice none 0 0]
def MdS(base:Nat)(m:Mde)(bv y0 y1:Value)(W:World):Prop:=BdOwn W base bv m.bid∧OwnOf tSh shC 2 W base y0 m.s0.length m.s0∧OwnOf tSh shC 2 W base y1 m.s1.length m.s1
theorem MdS.keep{base:Nat}{m:Mde}{bv y0 y1:Value}{S:Nat→Prop}{W W' :World}(h:MdS base m bv y0 y1 W)(ho:Only S W W')(hS:∀b cur,S b→¬Blk W b 3 cur∧¬Blk W b tSh cur):MdS base m bv y0 y1 W' :=by
 obtain⟨⟨qv,pv,e,h1,h2⟩,h3,h4⟩:=h
 have k:∀{α:Type} {t:TypeId} {c:α→List Value} {n k:Nat} {v:Value} {P:List α},t=3∨t=tSh→OwnOf t c k W base v n P→OwnOf t c k W' base v n P:=fun ht hh=>OwnOf.keep hh ho (fun b hb hs=>by
  obtain⟨cur,hk⟩:=own_there hh hb
  rcases ht with rfl|rfl
  ·exact(hS b cur hs).1 hk
  ·exact(hS b cur hs).2 hk)
 exact⟨⟨qv,pv,e,k (.inl rfl) h1,k (.inl rfl) h2⟩,k (.inr rfl) h3,k (.inr rfl) h4⟩
theorem MdS.none_{base:Nat}{m:Mde}{bv y0 y1:Value}{W W' :World}(h:MdS base m bv y0 y1 W)(ho:Only NoneOf W W'):MdS base m bv y0 y1 W' :=h.keep ho (fun _ _ e=>e.elim)
theorem MdS.put{base:Nat}{m:Mde}{bv y0 y1:Value}{g:Nat}{t:TypeId}{cs:Array Value}{W W' :World}(h:MdS base m bv y0 y1 W)(ho:Only (·=g) W W')(hb:Blk W g t cs)(ht:t≠3∧t≠tSh):MdS base m bv y0 y1 W' :=h.keep ho (fun b cur e=>by
 have e' :b=g:=e
 subst e'
 exact⟨fun h2=>ht.1 (Blk.ty hb h2),fun h2=>ht.2 (Blk.ty hb h2)⟩)
theorem MdS.of_base{base base' :Nat}{m:Mde}{bv y0 y1:Value}{W:World}(hb:base≤base')(h1:BdOwn W base' bv m.bid)(h2:OwnOf tSh shC 2 W base' y0 m.s0.length m.s0)(h3:OwnOf tSh shC 2 W base' y1 m.s1.length m.s1):MdS base m bv y0 y1 W:=by
 obtain⟨qv,pv,e,k1,k2⟩:=h1
 exact⟨⟨qv,pv,e,own_base k1 hb,own_base k2 hb⟩,own_base h2 hb,own_base h3 hb⟩
def nodB(pv:List (Nat×Value)):Bool:=decide (pv.map Prod.fst).Nodup
theorem pv_only{pv:List (Nat×Value)}(hn:nodB pv=true){k i:Nat}{u:Value}(hk:pv[k]? =some (i,u)):∀p∈pv,p.1=i→p.2=u:=fun p hp e=>by
 have hn' :(pv.map Prod.fst).Nodup :=of_decide_eq_true hn
 obtain⟨j,hj⟩:=List.mem_iff_getElem?.1 hp
 have h1:(pv.map Prod.fst)[j]? =some i:=by rw[List.getElem?_map,hj,←e];rfl
 have h2:(pv.map Prod.fst)[k]? =some i:=by rw[List.getElem?_map,hk];rfl
 have hlt:j<(pv.map Prod.fst).length :=(List.getElem?_eq_some_iff.1 h1).1
 have hjk:j=k:=(List.getElem?_inj hlt hn').1 (h1.trans h2.symm)
 subst hjk
 rw[hj] at hk
 cases hk
 rfl
structure MdK(X:World)(pv:List (Nat×Value))(ix:Ix)(m:Mde)(vals:Nat→Value)(L:Array Bool)(W:World):Prop where
 only:Only NoneOf X W
 pure:∀p∈pv,L.getD p.1 false=true→vals p.1=p.2
 made:L.getD ix.M false=true→∃bv y0 y1,vals ix.M= .tuple #[bv,.agg #[y0,y1],.int .i64 m.code]∧MdS X.heap.size m bv y0 y1 W
 copy:L.getD ix.V false=true→vals ix.V=vals ix.M
 p0:L.getD ix.p0 false=true→∃y z,vals ix.M= .tuple #[vals ix.p0,y,z]
 p1:L.getD ix.p1 false=true→∃x z,vals ix.M= .tuple #[x,vals ix.p1,z]
 p2:L.getD ix.p2 false=true→∃x y,vals ix.M= .tuple #[x,y,vals ix.p2]
 a:L.getD ix.A false=true→∃g,vals ix.A= .pointer (some ⟨g,0,none⟩)∧X.heap.size≤g∧(L.getD ix.S false=false→Blk W g tBid zB)∧(L.getD ix.S false=true→∃cs,vals ix.p0= .agg cs∧Blk W g tBid cs)
 b:L.getD ix.B false=true→∃g,vals ix.B= .pointer (some ⟨g,0,none⟩)∧X.heap.size≤g∧(L.getD ix.T false=false→Blk W g tShs zS)∧(L.getD ix.T false=true→∃cs,vals ix.p1= .agg cs∧Blk W g tShs cs)
def Ix.ok(ix:Ix):Bool:=[ix.M,ix.V,ix.p0,ix.p1,ix.p2,ix.A,ix.B,ix.S,ix.T].Nodup
def Ix.free(ix:Ix)(i:Nat):Bool:=[ix.M,ix.V,ix.p0,ix.p1,ix.p2,ix.A,ix.B,ix.S,ix.T].all (·!=i)
section
variable {X:World} {pv:List (Nat×Value)} {ix:Ix} {m:Mde} {vals:Nat→Value} {L:Array Bool} {W W' :World} {i:Nat} {u:Value}
theorem MdK.start(vals:Nat→Value)(k:Nat):MdK X pv ix m vals (Array.replicate k false) X.drew:=by
 have h:∀j,¬(Array.replicate k false).getD j false=true:=fun j e=>absurd ((getD_replicate_false' k j).symm.trans e) (by decide)
 exact⟨(Only.refl _ _).drew,fun p _ e=>absurd e (h _),fun e=>absurd e (h _),fun e=>absurd e (h _),fun e=>absurd e (h _),fun e=>absurd e (h _),fun e=>absurd e (h _),fun e=>absurd e (h _),fun e=>absurd e (h _)⟩
theorem MdK.none_(h:MdK X pv ix m vals L W)(ho:Only NoneOf W W'):MdK X pv ix m vals L W' :=
 ⟨h.only.trans ho,h.pure,fun e=>by obtain⟨bv,y0,y1,e1,h1⟩:=h.made e;exact⟨bv,y0,y1,e1,h1.none_ ho⟩,h.copy,h.p0,h.p1,h.p2,
  fun e=>by obtain⟨g,e1,e2,h1,h2⟩:=h.a e;exact⟨g,e1,e2,fun e=>(h1 e).only ho (fun e=>e),fun e=>by obtain⟨cs,e3,h3⟩:=h2 e;exact⟨cs,e3,h3.only ho (fun e=>e)⟩⟩,
  fun e=>by obtain⟨g,e1,e2,h1,h2⟩:=h.b e;exact⟨g,e1,e2,fun e=>(h1 e).only ho (fun e=>e),fun e=>by obtain⟨cs,e3,h3⟩:=h2 e;exact⟨cs,e3,h3.only ho (fun e=>e)⟩⟩⟩
structure Frm(ix:Ix)(vals:Nat→Value)(L:Array Bool)(i:Nat)(u:Value):Prop where
 s:∀j,j≠i→(L.setIfInBounds i true).getD j false=L.getD j false
 v:∀j,j≠i→upV vals i u j=vals j
theorem frm(ix:Ix)(vals:Nat→Value)(L:Array Bool)(i:Nat)(u:Value):Frm ix vals L i u:=⟨fun _ h=>set_other (Ne.symm h),fun _ h=>upV_other h⟩
theorem Ix.free_ne{i:Nat}(h:ix.free i=true):ix.M≠i∧ix.V≠i∧ix.p0≠i∧ix.p1≠i∧ix.p2≠i∧ix.A≠i∧ix.B≠i∧ix.S≠i∧ix.T≠i:=by
 unfold Ix.free at h
 simpa using h
theorem MdK.pure_(h:MdK X pv ix m vals L W)(hf:ix.free i=true)(hu:∀p∈pv,p.1=i→p.2=u)(_hi:i<L.size):MdK X pv ix m (upV vals i u) (L.setIfInBounds i true) W:=by
 obtain⟨n1,n2,n3,n4,n5,n6,n7,n8,n9⟩:=Ix.free_ne hf
 have f:=frm ix vals L i u
 have hm:=h.made;have hc:=h.copy;have k0:=h.p0;have k1:=h.p1;have k2:=h.p2;have ha:=h.a;have hb:=h.b
 refine⟨h.only,fun p hp e=> ?_,?_,?_,?_,?_,?_,?_,?_⟩
 ·by_cases e2:p.1=i
  ·rw[e2,upV_same,hu p hp e2]
  ·rw[f.s _ e2] at e
   rw[f.v _ e2]
   exact h.pure p hp e
 ·rw[f.s _ n1,f.v _ n1];exact hm
 ·rw[f.s _ n2,f.v _ n2,f.v _ n1];exact hc
 ·rw[f.s _ n3,f.v _ n1,f.v _ n3];exact k0
 ·rw[f.s _ n4,f.v _ n1,f.v _ n4];exact k1
 ·rw[f.s _ n5,f.v _ n1,f.v _ n5];exact k2
 ·rw[f.s _ n6,f.v _ n6,f.s _ n8,f.v _ n3];exact ha
 ·rw[f.s _ n7,f.v _ n7,f.s _ n9,f.v _ n4];exact hb
def Ix.off(ix:Ix)(pv:List (Nat×Value)):Bool:=pv.all fun p=>ix.free p.1
theorem Ix.off_ne(h:ix.off pv=true){p:Nat×Value}(hp:p∈pv):ix.M≠p.1∧ix.V≠p.1∧ix.p0≠p.1∧ix.p1≠p.1∧ix.p2≠p.1∧ix.A≠p.1∧ix.B≠p.1∧ix.S≠p.1∧ix.T≠p.1:=Ix.free_ne (List.all_eq_true.1 h p hp)
structure Ix.Dif(ix:Ix):Prop where
 mv:ix.M≠ix.V
 m0:ix.M≠ix.p0
 m1:ix.M≠ix.p1
 m2:ix.M≠ix.p2
 ma:ix.M≠ix.A
 mb:ix.M≠ix.B
 ms:ix.M≠ix.S
 mt:ix.M≠ix.T
 v0:ix.V≠ix.p0
 v1:ix.V≠ix.p1
 v2:ix.V≠ix.p2
 va:ix.V≠ix.A
 vb:ix.V≠ix.B
 vs:ix.V≠ix.S
 vt:ix.V≠ix.T
 p01:ix.p0≠ix.p1
 p02:ix.p0≠ix.p2
 a0:ix.p0≠ix.A
 b0:ix.p0≠ix.B
 s0:ix.p0≠ix.S
 t0:ix.p0≠ix.T
 p12:ix.p1≠ix.p2
 a1:ix.p1≠ix.A
 b1:ix.p1≠ix.B
 s1:ix.p1≠ix.S
 t1:ix.p1≠ix.T
 a2:ix.p2≠ix.A
 b2:ix.p2≠ix.B
 s2:ix.p2≠ix.S
 t2:ix.p2≠ix.T
 ab:ix.A≠ix.B
 as_:ix.A≠ix.S
 at_:ix.A≠ix.T
 bs:ix.B≠ix.S
 bt:ix.B≠ix.T
 st:ix.S≠ix.T
theorem Ix.dif(h:ix.ok=true):ix.Dif:=by
 unfold Ix.ok at h
 have h2:[ix.M,ix.V,ix.p0,ix.p1,ix.p2,ix.A,ix.B,ix.S,ix.T].Nodup :=by simpa using h
 simp only[List.nodup_cons,List.mem_cons,List.not_mem_nil,or_false,not_or,List.nodup_nil,not_false_eq_true,and_true] at h2
 obtain⟨⟨a1,a2,a3,a4,a5,a6,a7,a8⟩,⟨b1,b2,b3,b4,b5,b6,b7⟩,⟨c1,c2,c3,c4,c5,c6⟩,⟨d1,d2,d3,d4,d5⟩,⟨e1,e2,e3,e4⟩,⟨f1,f2,f3⟩,⟨g1,g2⟩,h1⟩:=h2
 exact⟨a1,a2,a3,a4,a5,a6,a7,a8,b1,b2,b3,b4,b5,b6,b7,c1,c2,c3,c4,c5,c6,d1,d2,d3,d4,d5,e1,e2,e3,e4,f1,f2,f3,g1,g2,h1⟩
theorem MdK.pv_(h:MdK X pv ix m vals L W)(hne:∀p∈pv,p.1≠i):∀p∈pv,(L.setIfInBounds i true).getD p.1 false=true→upV vals i u p.1=p.2:=fun p hp e=>by
 rw[set_other (Ne.symm (hne p hp))] at e
 rw[upV_other (hne p hp)]
 exact h.pure p hp e
theorem MdK.call(h:MdK X pv ix m vals L W)(hd:ix.Dif)(ho:ix.off pv=true)(_hi:ix.M<L.size){bv y0 y1:Value}(hm:MdS X.heap.size m bv y0 y1 W)(uV:L.getD ix.V false=false)(u0:L.getD ix.p0 false=false)(u1:L.getD ix.p1 false=false)(u2:L.getD ix.p2 false=false):MdK X pv ix m (upV vals ix.M (.tuple #[bv,.agg #[y0,y1],.int .i64 m.code])) (L.setIfInBounds ix.M true) W:=by
 have f:=frm ix vals L ix.M (.tuple #[bv,.agg #[y0,y1],.int .i64 m.code])
 have ha:=h.a;have hb:=h.b
 refine⟨h.only,h.pv_ (fun p hp=>(Ne.symm (Ix.off_ne ho hp).1)),fun _=>⟨bv,y0,y1,upV_same _ _ _,hm⟩,?_,?_,?_,?_,?_,?_⟩
 ·rw[f.s _ hd.mv.symm,uV];exact fun e=>by cases e
 ·rw[f.s _ hd.m0.symm,u0];exact fun e=>by cases e
 ·rw[f.s _ hd.m1.symm,u1];exact fun e=>by cases e
 ·rw[f.s _ hd.m2.symm,u2];exact fun e=>by cases e
 ·rw[f.s _ hd.ma.symm,f.v _ hd.ma.symm,f.s _ hd.ms.symm,f.v _ hd.m0.symm];exact ha
 ·rw[f.s _ hd.mb.symm,f.v _ hd.mb.symm,f.s _ hd.mt.symm,f.v _ hd.m1.symm];exact hb
theorem MdK.copy_(h:MdK X pv ix m vals L W)(hd:ix.Dif)(ho:ix.off pv=true)(_hi:ix.V<L.size):MdK X pv ix m (upV vals ix.V (vals ix.M)) (L.setIfInBounds ix.V true) W:=by
 have f:=frm ix vals L ix.V (vals ix.M)
 have hm:=h.made;have k0:=h.p0;have k1:=h.p1;have k2:=h.p2;have ha:=h.a;have hb:=h.b
 refine⟨h.only,h.pv_ (fun p hp=>(Ne.symm (Ix.off_ne ho hp).2.1)),?_,fun _=> ?_,?_,?_,?_,?_,?_⟩
 ·rw[f.s _ hd.mv,f.v _ hd.mv];exact hm
 ·rw[upV_same,f.v _ hd.mv]
 ·rw[f.s _ hd.v0.symm,f.v _ hd.mv,f.v _ hd.v0.symm];exact k0
 ·rw[f.s _ hd.v1.symm,f.v _ hd.mv,f.v _ hd.v1.symm];exact k1
 ·rw[f.s _ hd.v2.symm,f.v _ hd.mv,f.v _ hd.v2.symm];exact k2
 ·rw[f.s _ hd.va.symm,f.v _ hd.va.symm,f.s _ hd.vs.symm,f.v _ hd.v0.symm];exact ha
 ·rw[f.s _ hd.vb.symm,f.v _ hd.vb.symm,f.s _ hd.vt.symm,f.v _ hd.v1.symm];exact hb
theorem MdK.part0(h:MdK X pv ix m vals L W)(hd:ix.Dif)(ho:ix.off pv=true)(_hi:ix.p0<L.size){y z:Value}(hu:vals ix.M= .tuple #[u,y,z])(uS:L.getD ix.S false=false):MdK X pv ix m (upV vals ix.p0 u) (L.setIfInBounds ix.p0 true) W:=by
 have f:=frm ix vals L ix.p0 u
 have hm:=h.made;have hc:=h.copy;have k1:=h.p1;have k2:=h.p2;have ha:=h.a;have hb:=h.b
 refine⟨h.only,h.pv_ (fun p hp=>(Ne.symm (Ix.off_ne ho hp).2.2.1)),?_,?_,fun _=> ?_,?_,?_,?_,?_⟩
 ·rw[f.s _ hd.m0,f.v _ hd.m0];exact hm
 ·rw[f.s _ hd.v0,f.v _ hd.v0,f.v _ hd.m0];exact hc
 ·rw[upV_same,f.v _ hd.m0];exact⟨y,z,hu⟩
 ·rw[f.s _ hd.p01.symm,f.v _ hd.m0,f.v _ hd.p01.symm];exact k1
 ·rw[f.s _ hd.p02.symm,f.v _ hd.m0,f.v _ hd.p02.symm];exact k2
 ·rw[f.s _ hd.a0.symm,f.v _ hd.a0.symm,f.s _ hd.s0.symm]
  intro e
  obtain⟨g,e1,e2,h1,h2⟩:=ha e
  exact⟨g,e1,e2,h1,fun e=>by rw[uS] at e;cases e⟩
 ·rw[f.s _ hd.b0.symm,f.v _ hd.b0.symm,f.s _ hd.t0.symm,f.v _ hd.p01.symm];exact hb
theorem MdK.part1(h:MdK X pv ix m vals L W)(hd:ix.Dif)(ho:ix.off pv=true)(_hi:ix.p1<L.size){x z:Value}(hu:vals ix.M= .tuple #[x,u,z])(uT:L.getD ix.T false=false):MdK X pv ix m (upV vals ix.p1 u) (L.setIfInBounds ix.p1 true) W:=by
 have f:=frm ix vals L ix.p1 u
 have hm:=h.made;have hc:=h.copy;have k0:=h.p0;have k2:=h.p2;have ha:=h.a;have hb:=h.b
 refine⟨h.only,h.pv_ (fun p hp=>(Ne.symm (Ix.off_ne ho hp).2.2.2.1)),?_,?_,?_,fun _=> ?_,?_,?_,?_⟩
 ·rw[f.s _ hd.m1,f.v _ hd.m1];exact hm
 ·rw[f.s _ hd.v1,f.v _ hd.v1,f.v _ hd.m1];exact hc
 ·rw[f.s _ hd.p01,f.v _ hd.m1,f.v _ hd.p01];exact k0
 ·rw[upV_same,f.v _ hd.m1];exact⟨x,z,hu⟩
 ·rw[f.s _ hd.p12.symm,f.v _ hd.m1,f.v _ hd.p12.symm];exact k2
 ·rw[f.s _ hd.a1.symm,f.v _ hd.a1.symm,f.s _ hd.s1.symm,f.v _ hd.p01];exact ha
 ·rw[f.s _ hd.b1.symm,f.v _ hd.b1.symm,f.s _ hd.t1.symm]
  intro e
  obtain⟨g,e1,e2,h1,h2⟩:=hb e
  exact⟨g,e1,e2,h1,fun e=>by rw[uT] at e;cases e⟩
theorem MdK.part2(h:MdK X pv ix m vals L W)(hd:ix.Dif)(ho:ix.off pv=true)(_hi:ix.p2<L.size){x y:Value}(hu:vals ix.M= .tuple #[x,y,u]):MdK X pv ix m (upV vals ix.p2 u) (L.setIfInBounds ix.p2 true) W:=by
 have f:=frm ix vals L ix.p2 u
 have hm:=h.made;have hc:=h.copy;have k0:=h.p0;have k1:=h.p1;have ha:=h.a;have hb:=h.b
 refine⟨h.only,h.pv_ (fun p hp=>(Ne.symm (Ix.off_ne ho hp).2.2.2.2.1)),?_,?_,?_,?_,fun _=> ?_,?_,?_⟩
 ·rw[f.s _ hd.m2,f.v _ hd.m2];exact hm
 ·rw[f.s _ hd.v2,f.v _ hd.v2,f.v _ hd.m2];exact hc
 ·rw[f.s _ hd.p02,f.v _ hd.m2,f.v _ hd.p02];exact k0
 ·rw[f.s _ hd.p12,f.v _ hd.m2,f.v _ hd.p12];exact k1
 ·rw[upV_same,f.v _ hd.m2];exact⟨x,y,hu⟩
 ·rw[f.s _ hd.a2.symm,f.v _ hd.a2.symm,f.s _ hd.s2.symm,f.v _ hd.p02];exact ha
 ·rw[f.s _ hd.b2.symm,f.v _ hd.b2.symm,f.s _ hd.t2.symm,f.v _ hd.p12];exact hb
theorem MdK.newA(h:MdK X pv ix m vals L W)(hd:ix.Dif)(ho:ix.off pv=true)(_hi:ix.A<L.size)(uS:L.getD ix.S false=false):MdK X pv ix m (upV vals ix.A (.pointer (some ⟨W.heap.size,0,none⟩))) (L.setIfInBounds ix.A true) (W.alloc (.cells zB tBid)):=by
 have hs:=h.only.size
 have h:=h.none_ ((Only.refl NoneOf W).alloc (.cells zB tBid))
 have f:=frm ix vals L ix.A (.pointer (some ⟨W.heap.size,0,none⟩))
 have hm:=h.made;have hc:=h.copy;have k0:=h.p0;have k1:=h.p1;have k2:=h.p2;have hb:=h.b
 refine⟨h.only,h.pv_ (fun p hp=>(Ne.symm (Ix.off_ne ho hp).2.2.2.2.2.1)),?_,?_,?_,?_,?_,fun _=> ?_,?_⟩
 ·rw[f.s _ hd.ma,f.v _ hd.ma];exact hm
 ·rw[f.s _ hd.va,f.v _ hd.va,f.v _ hd.ma];exact hc
 ·rw[f.s _ hd.a0,f.v _ hd.ma,f.v _ hd.a0];exact k0
 ·rw[f.s _ hd.a1,f.v _ hd.ma,f.v _ hd.a1];exact k1
 ·rw[f.s _ hd.a2,f.v _ hd.ma,f.v _ hd.a2];exact k2
 ·rw[upV_same,f.s _ hd.as_.symm,uS]
  exact⟨W.heap.size,rfl,hs,fun _=>Blk.new W _ _,fun e=>by cases e⟩
 ·rw[f.s _ hd.ab.symm,f.v _ hd.ab.symm,f.s _ hd.at_.symm,f.v _ hd.a1];exact hb
theorem MdK.newB(h:MdK X pv ix m vals L W)(hd:ix.Dif)(ho:ix.off pv=true)(_hi:ix.B<L.size)(uT:L.getD ix.T false=false):MdK X pv ix m (upV vals ix.B (.pointer (some ⟨W.heap.size,0,none⟩))) (L.setIfInBounds ix.B true) (W.alloc (.cells zS tShs)):=by
 have hs:=h.only.size
 have h:=h.none_ ((Only.refl NoneOf W).alloc (.cells zS tShs))
 have f:=frm ix vals L ix.B (.pointer (some ⟨W.heap.size,0,none⟩))
 have hm:=h.made;have hc:=h.copy;have k0:=h.p0;have k1:=h.p1;have k2:=h.p2;have ha:=h.a
 refine⟨h.only,h.pv_ (fun p hp=>(Ne.symm (Ix.off_ne ho hp).2.2.2.2.2.2.1)),?_,?_,?_,?_,?_,?_,fun _=> ?_⟩
 ·rw[f.s _ hd.mb,f.v _ hd.mb];exact hm
 ·rw[f.s _ hd.vb,f.v _ hd.vb,f.v _ hd.mb];exact hc
 ·rw[f.s _ hd.b0,f.v _ hd.mb,f.v _ hd.b0];exact k0
 ·rw[f.s _ hd.b1,f.v _ hd.mb,f.v _ hd.b1];exact k1
 ·rw[f.s _ hd.b2,f.v _ hd.mb,f.v _ hd.b2];exact k2
 ·rw[f.s _ hd.ab,f.v _ hd.ab,f.s _ hd.bs.symm,f.v _ hd.b0];exact ha
 ·rw[upV_same,f.s _ hd.bt.symm,uT]
  exact⟨W.heap.size,rfl,hs,fun _=>Blk.new W _ _,fun e=>by cases e⟩
theorem MdK.fillA(h:MdK X pv ix m vals L W)(hd:ix.Dif)(ho:ix.off pv=true)(hi:ix.S<L.size){g:Nat}{cs:Array Value}(hA:vals ix.A= .pointer (some ⟨g,0,none⟩))(hg:X.heap.size≤g)(h0:vals ix.p0= .agg cs)(hb0:Blk W g tBid zB)(hb1:Blk W' g tBid cs)(hw:Only (·=g) W W'):MdK X pv ix m (upV vals ix.S u) (L.setIfInBounds ix.S true) W' :=by
 have f:=frm ix vals L ix.S u
 have hm:=h.made;have hc:=h.copy;have k0:=h.p0;have k1:=h.p1;have k2:=h.p2;have hb:=h.b
 refine⟨h.only.trans' hw (fun j hj e=>by have e' :j=g:=e;omega),h.pv_ (fun p hp=>(Ne.symm (Ix.off_ne ho hp).2.2.2.2.2.2.2.1)),?_,?_,?_,?_,?_,?_,?_⟩
 ·rw[f.s _ hd.ms,f.v _ hd.ms]
  intro e
  obtain⟨bv,y0,y1,e1,h1⟩:=hm e
  exact⟨bv,y0,y1,e1,h1.put hw hb0 (by decide)⟩
 ·rw[f.s _ hd.vs,f.v _ hd.vs,f.v _ hd.ms];exact hc
 ·rw[f.s _ hd.s0,f.v _ hd.ms,f.v _ hd.s0];exact k0
 ·rw[f.s _ hd.s1,f.v _ hd.ms,f.v _ hd.s1];exact k1
 ·rw[f.s _ hd.s2,f.v _ hd.ms,f.v _ hd.s2];exact k2
 ·rw[f.s _ hd.as_,f.v _ hd.as_,f.v _ hd.s0,set_same hi]
  intro _
  exact⟨g,hA,hg,fun e=>(by cases e),fun _=>⟨cs,h0,hb1⟩⟩
 ·rw[f.s _ hd.bs,f.v _ hd.bs,f.s _ hd.st.symm,f.v _ hd.s1]
  intro e
  obtain⟨g2,e1,e2,h1,h2⟩:=hb e
  have hne:∀{c:Array Value},Blk W g2 tShs c→¬g2=g:=fun hh e3=>by
   subst e3
   exact absurd (Blk.ty hb0 hh) (by decide)
  exact⟨g2,e1,e2,fun e=>(h1 e).only hw (hne (h1 e)),fun e=>by obtain⟨c,e3,h3⟩:=h2 e;exact⟨c,e3,h3.only hw (hne h3)⟩⟩
theorem MdK.fillB(h:MdK X pv ix m vals L W)(hd:ix.Dif)(ho:ix.off pv=true)(hi:ix.T<L.size){g:Nat}{cs:Array Value}(hB:vals ix.B= .pointer (some ⟨g,0,none⟩))(hg:X.heap.size≤g)(h0:vals ix.p1= .agg cs)(hb0:Blk W g tShs zS)(hb1:Blk W' g tShs cs)(hw:Only (·=g) W W'):MdK X pv ix m (upV vals ix.T u) (L.setIfInBounds ix.T true) W' :=by
 have f:=frm ix vals L ix.T u
 have hm:=h.made;have hc:=h.copy;have k0:=h.p0;have k1:=h.p1;have k2:=h.p2;have ha:=h.a
 refine⟨h.only.trans' hw (fun j hj e=>by have e' :j=g:=e;omega),h.pv_ (fun p hp=>(Ne.symm (Ix.off_ne ho hp).2.2.2.2.2.2.2.2)),?_,?_,?_,?_,?_,?_,?_⟩
 ·rw[f.s _ hd.mt,f.v _ hd.mt]
  intro e
  obtain⟨bv,y0,y1,e1,h1⟩:=hm e
  exact⟨bv,y0,y1,e1,h1.put hw hb0 (by decide)⟩
 ·rw[f.s _ hd.vt,f.v _ hd.vt,f.v _ hd.mt];exact hc
 ·rw[f.s _ hd.t0,f.v _ hd.mt,f.v _ hd.t0];exact k0
 ·rw[f.s _ hd.t1,f.v _ hd.mt,f.v _ hd.t1];exact k1
 ·rw[f.s _ hd.t2,f.v _ hd.mt,f.v _ hd.t2];exact k2
 ·rw[f.s _ hd.at_,f.v _ hd.at_,f.s _ hd.st,f.v _ hd.t0]
  intro e
  obtain⟨g2,e1,e2,h1,h2⟩:=ha e
  have hne:∀{c:Array Value},Blk W g2 tBid c→¬g2=g:=fun hh e3=>by
   subst e3
   exact absurd (Blk.ty hb0 hh) (by decide)
  exact⟨g2,e1,e2,fun e=>(h1 e).only hw (hne (h1 e)),fun e=>by obtain⟨c,e3,h3⟩:=h2 e;exact⟨c,e3,h3.only hw (hne h3)⟩⟩
 ·rw[f.s _ hd.bt,f.v _ hd.bt,f.v _ hd.t1,set_same hi]
  intro _
  exact⟨g,hB,hg,fun e=>(by cases e),fun _=>⟨cs,h0,hb1⟩⟩
theorem MdK.parts(h:MdK X pv ix m vals L W)(hM:L.getD ix.M false=true):∃q p y0 y1,vals ix.M= .tuple #[.agg #[.int .i64 m.bid.bidder,.string m.bid.qt,q,.string m.bid.pt,p],.agg #[y0,y1],.int .i64 m.code]∧MdS X.heap.size m (.agg #[.int .i64 m.bid.bidder,.string m.bid.qt,q,.string m.bid.pt,p]) y0 y1 W∧(#[.int .i64 m.bid.bidder,.string m.bid.qt,q,.string m.bid.pt,p]:Array Value).all (·.oneCell')=true∧(#[y0,y1]:Array Value).all (·.oneCell')=true:=by
 obtain⟨bv,y0,y1,e,hmd⟩:=h.made hM
 have hmd2:=hmd
 obtain⟨⟨qv,pv',e2,h1,h2⟩,h3,h4⟩:=hmd
 subst e2
 obtain⟨A1,k1,rfl,_,_⟩:=own_form' h1
 obtain⟨A2,k2,rfl,_,_⟩:=own_form' h2
 obtain⟨A3,k3,rfl,_,_⟩:=own_form' h3
 obtain⟨A4,k4,rfl,_,_⟩:=own_form' h4
 exact⟨_,_,_,_,e,hmd2,by kernel_rfl,by kernel_rfl⟩
theorem MdK.doA{o:Oper}{ρ:Operand→Value}(h:MdK X pv ix m vals L W)(hd:ix.Dif)(hf:ix.off pv=true)(hi:ix.A<L.size)(uS:L.getD ix.S false=false)(hr:(execOp ρ o).run Tryz.prog W= .ok (.value (.pointer (some ⟨W.heap.size,0,none⟩))) (W.alloc (.cells zB tBid))):stepR Tryz.prog o ρ W fun u W' =>MdK X pv ix m (upV vals ix.A u) (L.setIfInBounds ix.A true) W' :=by
 unfold stepR
 rw[hr]
 exact h.newA hd hf hi uS
theorem MdK.doB{o:Oper}{ρ:Operand→Value}(h:MdK X pv ix m vals L W)(hd:ix.Dif)(hf:ix.off pv=true)(hi:ix.B<L.size)(uT:L.getD ix.T false=false)(hr:(execOp ρ o).run Tryz.prog W= .ok (.value (.pointer (some ⟨W.heap.size,0,none⟩))) (W.alloc (.cells zS tShs))):stepR Tryz.prog o ρ W fun u W' =>MdK X pv ix m (upV vals ix.B u) (L.setIfInBounds ix.B true) W' :=by
 unfold stepR
 rw[hr]
 exact h.newB hd hf hi uT
theorem MdK.doS{o:Oper}{ρ:Operand→Value}(h:MdK X pv ix m vals L W)(hd:ix.Dif)(hf:ix.off pv=true)(hi:ix.S<L.size)(uS:L.getD ix.S false=false)(hA:L.getD ix.A false=true)(h0:L.getD ix.p0 false=true)(hM:L.getD ix.M false=true){x y:Operand}(ho:o.op= .store tBid x y)(hx:ρ x=vals ix.A)(hy:ρ y=vals ix.p0):stepR Tryz.prog o ρ W fun u W' =>MdK X pv ix m (upV vals ix.S u) (L.setIfInBounds ix.S true) W' :=by
 obtain⟨g,e1,hg,k1,_⟩:=h.a hA
 obtain⟨q,p,y0,y1,e2,_,o1,_⟩:=h.parts hM
 obtain⟨a,b,e3⟩:=h.p0 h0
 rw[e2] at e3
 have e4:vals ix.p0= .agg #[.int .i64 m.bid.bidder,.string m.bid.qt,q,.string m.bid.pt,p]:=by
  simp only[Value.tuple.injEq,Array.mk.injEq,List.cons.injEq] at e3
  exact e3.1.symm
 exact step_store ho (hx.trans e1) (hy.trans e4) (k1 uS) rfl (by kernel_rfl) o1 (fun W' hb hw=>h.fillA hd hf hi e1 hg e4 (k1 uS) hb hw)
theorem MdK.doT{o:Oper}{ρ:Operand→Value}(h:MdK X pv ix m vals L W)(hd:ix.Dif)(hf:ix.off pv=true)(hi:ix.T<L.size)(uT:L.getD ix.T false=false)(hB:L.getD ix.B false=true)(h0:L.getD ix.p1 false=true)(hM:L.getD ix.M false=true){x y:Operand}(ho:o.op= .store tShs x y)(hx:ρ x=vals ix.B)(hy:ρ y=vals ix.p1):stepR Tryz.prog o ρ W fun u W' =>MdK X pv ix m (upV vals ix.T u) (L.setIfInBounds ix.T true) W' :=by
 obtain⟨g,e1,hg,k1,_⟩:=h.b hB
 obtain⟨q,p,y0,y1,e2,_,_,o1⟩:=h.parts hM
 obtain⟨a,b,e3⟩:=h.p1 h0
 rw[e2] at e3
 have e4:vals ix.p1= .agg #[y0,y1]:=by
  simp only[Value.tuple.injEq,Array.mk.injEq,List.cons.injEq] at e3
  exact e3.2.1.symm
 exact step_store ho (hx.trans e1) (hy.trans e4) (k1 uT) rfl (by kernel_rfl) o1 (fun W' hb hw=>h.fillB hd hf hi e1 hg e4 (k1 uT) hb hw)
theorem MdK.all(h:MdK X pv ix m vals L W){n:Nat}(ha:∀i,i<n→L.getD i false=true)(hn:ix.M<n∧ix.p0<n∧ix.p1<n∧ix.p2<n∧ix.A<n∧ix.B<n∧ix.S<n∧ix.T<n):∃gA gB q p y0 y1,vals ix.A= .pointer (some ⟨gA,0,none⟩)∧vals ix.B= .pointer (some ⟨gB,0,none⟩)∧vals ix.p2= .int .i64 m.code∧X.heap.size≤gA∧X.heap.size≤gB∧Blk W gA tBid #[.int .i64 m.bid.bidder,.string m.bid.qt,q,.string m.bid.pt,p]∧Blk W gB tShs #[y0,y1]∧MdS X.heap.size m (.agg #[.int .i64 m.bid.bidder,.string m.bid.qt,q,.string m.bid.pt,p]) y0 y1 W∧Only NoneOf X W:=by
 obtain⟨nM,n0,n1,n2,nA,nB,nS,nT⟩:=hn
 obtain⟨q,p,y0,y1,e2,hmd,_,_⟩:=h.parts (ha _ nM)
 obtain⟨a,b,e3⟩:=h.p0 (ha _ n0)
 obtain⟨a',b',e4⟩:=h.p1 (ha _ n1)
 obtain⟨a'',b'',e5⟩:=h.p2 (ha _ n2)
 rw[e2] at e3 e4 e5
 simp only[Value.tuple.injEq,Array.mk.injEq,List.cons.injEq] at e3 e4 e5
 obtain⟨gA,f1,g1,_,k1⟩:=h.a (ha _ nA)
 obtain⟨gB,f2,g2,_,k2⟩:=h.b (ha _ nB)
 obtain⟨c1,h1,l1⟩:=k1 (ha _ nS)
 obtain⟨c2,h2,l2⟩:=k2 (ha _ nT)
 rw[←e3.1] at h1
 rw[←e4.2.1] at h2
 cases h1
 cases h2
 exact⟨gA,gB,q,p,y0,y1,f1,f2,e5.2.2.1.symm,g1,g2,l1,l2,hmd,h.only⟩
end
end Go.Proofs.YtpdlbmieciabmaaGreatDoor
namespace Go.Proofs.YtpdlbmieciabmaaGreatDoor
open Go.RowKit Go.Shelf
structure Jx where
 M:Nat
 p0:Nat
 p1:Nat
 p2:Nat
 S:Nat
 T:Nat
section
variable {w X:World} {R:Nat} {pv:List (Nat×Value)} {ix:Jx} {m:Mde} {vals:Nat→Value} {L:Array Bool} {W W' :World} {i:Nat} {u:Value}
end
end Go.Proofs.YtpdlbmieciabmaaGreatDoor
