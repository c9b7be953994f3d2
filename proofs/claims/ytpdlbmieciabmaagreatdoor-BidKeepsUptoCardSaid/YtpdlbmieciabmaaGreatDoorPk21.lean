/-What is proved here:several parts. equal lists of ints,lots,rebates,shares are found equal,by the reference's code. Conditions:there are few. · the reference reads a bid. Conditions:the text is short. · bids made with their shares,by the program and by the reference. Conditions:the numbers are ints,the texts are short. -/
import Derived.Test.YtpdlbmieciabmaaGreatDoorPk11
import Derived.Test.YtpdlbmieciabmaaGreatDoorPk12
import Derived.Test.YtpdlbmieciabmaaGreatDoorPk13
import Derived.Test.YtpdlbmieciabmaaGreatDoorPk14
import Derived.Test.YtpdlbmieciabmaaGreatDoorPk16
import Derived.Test.YtpdlbmieciabmaaGreatDoorPk17
import Derived.Test.YtpdlbmieciabmaaGreatDoorPk18
import Derived.Test.YtpdlbmieciabmaaGreatDoorPk20
import Derived.Deep.DeepCutAuto
import Derived.BigRegion
import Derived.Deep.Quiet
import Derived.WalkSmall
import Derived.Deep.RegionHeld3
namespace Go.Proofs.YtpdlbmieciabmaaGreatDoor
open Go.RowKit Go.Shelf
theorem in_at{w:World}{u:Value}{ns:List Int}(h:SlOf inC 1 w u ns):∃A cap,u= .slice A ns.length cap∧∀(j:Nat) (x:Int),ns[j]? =some x→∃g o,A=some ⟨g,o,none⟩∧g<w.heap.size∧w.cell? ⟨g,o+j,none⟩=some (.int .i64 x):=by
 obtain⟨A,cap,h1,_,_,h4⟩:=h
 refine⟨A,cap,h1,fun j x hx=> ?_⟩
 obtain⟨g,o,hA,hg,hr⟩:=h4 j x hx
 exact⟨g,o,hA,hg,by simpa using hr 0 _ rfl⟩
set_option maxRecDepth 100000 in
set_option maxHeartbeats 1000000 in
theorem ints_same(ns:List Int)(hl:ns.length≤1000000000)(v u:Value)(w:World)(h:SlOf inC 1 w v ns)(k:SlOf inC 1 w u ns):Calls Tryz.prog 13 #[v,u] w fun e w' =>e= .returned (.bool true)∧Only NoneOf w w' :=by
 obtain⟨A,cap,rfl,hA⟩:=in_at h
 obtain⟨B,bap,rfl,hB⟩:=in_at k
 have HA:=Lib.hid hA
 have HB:=Lib.hid hB
 clear hA hB h k
 go_enter Tryz.func13,Tryz.ntmps13
 go_wp2_with fail
 go_loopw [5] (fun i wr=>∃j:Nat,i= .int .i64 j∧j≤ns.length∧∃n,wr=w.drewN n) (fun i _=>ns.length-(intOf i).toNat)
 case atStart=>exact⟨0,rfl,Nat.zero_le _,0,rfl⟩
 case round=>
  obtain⟨j,rfl,hj,n0,rfl⟩:=hrel
  by_cases hlt:j<ns.length
  ·obtain⟨x,hx⟩:∃x,ns[j]? =some x:=⟨_,List.getElem?_eq_getElem hlt⟩
   obtain⟨g,o,rfl,hg,c0⟩:=HA.out j x hx
   obtain⟨g2,o2,rfl,hg2,d0⟩:=HB.out j x hx
   have ij:(j:Int)<ns.length:=by omega
   have j0:(0:Int)≤(j:Int):=by omega
   have wj:IntKind.i64.wrap ((j:Int)+1)=(j:Int)+1:=IntWalk.i64_in _ (by omega)
   clear hx
   go_upto_region 6 with(fail)
   go_quiet (fail)
   go_wp2_with fail
   go_roundw
   case rel=>exact⟨j+1,by go_num,by omega,_,rfl⟩
   case measure=>simp[intOf];omega
  ·obtain rfl:j=ns.length:=by omega
   have ij:¬(ns.length:Int)<ns.length:=by omega
   go_wp2_with fail
   go_ret
   exact⟨rfl,(Only.refl _ _).drewN _⟩
set_option maxRecDepth 100000 in
set_option maxHeartbeats 1000000 in
theorem shares_same(ps:List (Int×Int))(_hl:ps.length≤1000000000)(v u:Value)(w:World)(h:SlOf shC 2 w v ps)(k:SlOf shC 2 w u ps):Calls Tryz.prog 14 #[v,u] w fun e w' =>e= .returned (.bool true)∧Only NoneOf w w' :=by
 obtain⟨A,cap,rfl,hc1,hc2,hA⟩:=h
 obtain⟨B,bap,rfl,hb1,hb2,hB⟩:=k
 have HA:=Lib.hid hA
 have HB:=Lib.hid hB
 clear hA hB
 go_enter Tryz.func14,Tryz.ntmps14
 go_wp2_with fail
 go_loopw [5] (fun i wr=>∃j:Nat,i= .int .i64 j∧j≤ps.length∧∃n,wr=w.drewN n) (fun i _=>ps.length-(intOf i).toNat)
 case atStart=>exact⟨0,rfl,Nat.zero_le _,0,rfl⟩
 case round=>
  obtain⟨j,rfl,hj,n0,rfl⟩:=hrel
  by_cases hlt:j<ps.length
  ·obtain⟨x,hx⟩:∃x,ps[j]? =some x:=⟨_,List.getElem?_eq_getElem hlt⟩
   obtain⟨g,o,rfl,hg,hr⟩:=HA.out j x hx
   obtain⟨g2,o2,rfl,hg2,hr2⟩:=HB.out j x hx
   obtain⟨x0,x1⟩:=x
   have c0:w.cell? ⟨g,o+j*2,none⟩=some (.int .i64 x0):=hr 0 _ rfl
   have c1:w.cell? ⟨g,o+j*2+1,none⟩=some (.int .i64 x1):=hr 1 _ rfl
   have d0:w.cell? ⟨g2,o2+j*2,none⟩=some (.int .i64 x0):=hr2 0 _ rfl
   have d1:w.cell? ⟨g2,o2+j*2+1,none⟩=some (.int .i64 x1):=hr2 1 _ rfl
   have ij:(j:Int)<ps.length:=by omega
   have j0:(0:Int)≤(j:Int):=by omega
   have wj:IntKind.i64.wrap ((j:Int)+1)=(j:Int)+1:=IntWalk.i64_in _ (by omega)
   clear hx hr hr2
   go_upto_region 6 with(fail)
   go_quiet (fail)
   go_wp2_with fail
   go_roundw
   case rel=>exact⟨j+1,by go_num,by omega,_,rfl⟩
   case measure=>simp[intOf];omega
  ·obtain rfl:j=ps.length:=by omega
   have ij:¬(ps.length:Int)<ps.length:=by omega
   go_wp2_with fail
   go_ret
   exact⟨rfl,(Only.refl _ _).drewN _⟩
set_option maxRecDepth 100000 in
set_option maxHeartbeats 4000000 in
theorem entries_same(es:List En)(_hl:es.length≤1000000000)(v u:Value)(w:World)(h:EnSl w v es)(k:EnSl w u es):Calls Tryz.prog 18 #[v,u] w fun e w' =>e= .returned (.bool true)∧Only NoneOf w w' :=by
 obtain⟨A,cap,rfl,hc1,hc2,hA⟩:=en_at h
 obtain⟨B,bap,rfl,hb1,hb2,hB⟩:=en_at k
 have HA:=Lib.hid hA
 have HB:=Lib.hid hB
 clear hA hB h k
 go_enter Tryz.func18,Tryz.ntmps18
 go_wp2_with fail
 go_loopw [5] (fun i wr=>∃j:Nat,i= .int .i64 j∧j≤es.length∧∃n,wr=w.drewN n) (fun i _=>es.length-(intOf i).toNat)
 case atStart=>exact⟨0,rfl,Nat.zero_le _,0,rfl⟩
 case round=>
  obtain⟨k,rfl,hk,n0,rfl⟩:=hrel
  by_cases hlt:k<es.length
  ·obtain⟨x,hx⟩:∃x,es[k]? =some x:=⟨_,List.getElem?_eq_getElem hlt⟩
   obtain⟨g,o,u,rfl,hg,c0,c1,c2,c3,c4,hvs⟩:=HA.out k x hx
   obtain⟨g',o',u',rfl,hg',d0,d1,d2,d3,d4,hvs'⟩:=HB.out k x hx
   obtain⟨A2,cap2,rfl,hd1,hd2,hvat⟩:=vl_at hvs
   obtain⟨B2,bap2,rfl,hf1,hf2,hvbt⟩:=vl_at hvs'
   have HVA:=Lib.hid hvat
   have HVB:=Lib.hid hvbt
   have ik:(k:Int)<es.length:=by omega
   have k0:(0:Int)≤(k:Int):=by omega
   have wk:IntKind.i64.wrap ((k:Int)+1)=(k:Int)+1:=IntWalk.i64_in _ (by omega)
   clear hx hvs hvs' hvat hvbt
   go_upto_region 6 with(fail)
   go_quiet (fail)
   clear c0 c1 c2 c3 d0 d1 d2 d3
   go_wp2_with fail
   go_loopw [6] (fun i w2=>∃j:Nat,i= .int .i64 j∧j≤x.values.length∧∃n,w2=w.drewN n) (fun i _=>x.values.length-(intOf i).toNat)
   case atStart=>exact⟨0,rfl,Nat.zero_le _,n0+nq,by simp[World.drewN,Nat.add_assoc]⟩
   case round=>
    obtain⟨j,rfl,hj,n2,rfl⟩:=hrel
    by_cases hlj:j<x.values.length
    ·obtain⟨y,hy⟩:∃y,x.values[j]? =some y:=⟨_,List.getElem?_eq_getElem hlj⟩
     obtain⟨g2,o2,rfl,hg2,e0,e1⟩:=HVA.out j y hy
     obtain⟨g3,o3,rfl,hg3,f0,f1⟩:=HVB.out j y hy
     have ij:(j:Int)<x.values.length:=by omega
     have j0:(0:Int)≤(j:Int):=by omega
     have wj:IntKind.i64.wrap ((j:Int)+1)=(j:Int)+1:=IntWalk.i64_in _ (by omega)
     have b1:=tx_listT (rfl:y.name=y.name)
     clear hy
     go_upto_region 11 with(fail)
     go_quiet (fail)
     go_wp2_with fail
     go_roundw
     case rel=>exact⟨j+1,by go_num,by omega,_,rfl⟩
     case measure=>simp[intOf];omega
    ·obtain rfl:j=x.values.length:=by omega
     have ij:¬(x.values.length:Int)<x.values.length:=by omega
     go_wp2_with fail
     go_roundw
     case rel=>exact⟨k+1,by go_num,by omega,_,rfl⟩
     case measure=>simp[intOf];omega
  ·obtain rfl:k=es.length:=by omega
   have ik:¬(es.length:Int)<es.length:=by omega
   go_wp2_with fail
   go_ret
   exact⟨rfl,(Only.refl _ _).drewN _⟩
set_option maxRecDepth 100000 in
set_option maxHeartbeats 4000000 in
theorem rebates_same(rs:List Rb)(_hl:rs.length≤1000000000)(hlots:∀r∈rs,r.lots.length≤1000000000)(v u:Value)(w:World)(h:RbSl w v rs)(k:RbSl w u rs):Calls Tryz.prog 19 #[v,u] w fun e w' =>e= .returned (.bool true)∧Only NoneOf w w' :=by
 obtain⟨A,cap,rfl,hc1,hc2,hA⟩:=rb_at h
 obtain⟨B,bap,rfl,hb1,hb2,hB⟩:=rb_at k
 have HA:=Lib.hid hA
 have HB:=Lib.hid hB
 have HLO:=Lib.hid hlots
 clear hA hB h k hlots
 go_enter Tryz.func19,Tryz.ntmps19
 go_wp2_with fail
 go_loopw [5] (fun i wr=>∃j:Nat,i= .int .i64 j∧j≤rs.length∧Only NoneOf w wr) (fun i _=>rs.length-(intOf i).toNat)
 case atStart=>exact⟨0,rfl,Nat.zero_le _,Only.refl _ _⟩
 case round=>
  obtain⟨k,rfl,hk,ho⟩:=hrel
  by_cases hlt:k<rs.length
  ·obtain⟨x,hx⟩:∃x,rs[k]? =some x:=⟨_,List.getElem?_eq_getElem hlt⟩
   obtain⟨g,o,u,rfl,hg,c0,c1,hvs⟩:=HA.out k x hx
   obtain⟨g',o',u',rfl,hg',d0,d1,hvs'⟩:=HB.out k x hx
   have e0:=ho.cell_some c0 (fun e=>e)
   have e1:=ho.cell_some c1 (fun e=>e)
   have f0:=ho.cell_some d0 (fun e=>e)
   have f1:=ho.cell_some d1 (fun e=>e)
   have ik:(k:Int)<rs.length:=by omega
   have k0:(0:Int)≤(k:Int):=by omega
   have wk:IntKind.i64.wrap ((k:Int)+1)=(k:Int)+1:=IntWalk.i64_in _ (by omega)
   have hin:∀W,Only NoneOf w W→Calls Tryz.prog 13 #[u,u'] W fun e w' =>e= .returned (.bool true)∧Only NoneOf W w' :=fun W hW=>ints_same x.lots (HLO.out x (List.mem_of_getElem? hx)) u u' W (hvs.only hW) (hvs'.only hW)
   have HIN:=Lib.hid hin
   have HO:=Lib.hid ho
   obtain⟨A2,cap2,rfl,_⟩:=id hvs
   obtain⟨B2,bap2,rfl,_⟩:=id hvs'
   clear hx hvs hvs' hin ho
   go_upto_region 6 with(fail)
   obtain⟨ft,hfx⟩:=family (fun W=>Only NoneOf w W) (W0:=wr.drew) HO.out.drew
   obtain⟨F,hI,hF0,hF,hFS⟩:=hfx
   have D1:Hid (∀q,Calls Tryz.prog 13 #[.slice A2 x.lots.length cap2,.slice B2 x.lots.length bap2] (F q) fun e w' =>e= .returned (.bool true)∧∃z,w' =F z):=Lib.hid (fun q=>(HIN.out (F q) (hFS q)).mono (fun e w' hh=>⟨hh.1,(hF w').1 ((hFS q).trans hh.2)⟩))
   have L0:∀q,(F q).cell? ⟨g,o+k*2,none⟩=some (.slice A2 x.lots.length cap2):=fun q=>(hFS q).cell_some c0 (fun e=>e)
   have L1:∀q,(F q).cell? ⟨g',o' +k*2,none⟩=some (.slice B2 x.lots.length bap2):=fun q=>(hFS q).cell_some d0 (fun e=>e)
   have HF:=Lib.hid hF
   have HF0:=Lib.hid hF0
   have HC1:=Lib.hid c1
   have HD1:=Lib.hid d1
   clear hF hF0 hFS c0 c1 d0 d1 e0 e1 f0 f1
   refine wp_region_family F (by kernel_rfl) (by kernel_rfl) HF0.out ?_
   repeat(go_big_quiet_step (with_reducible exact D1.out _))
   refine wpQuiet_nil ?_
   intro w9 hw9
   have ho9:=(HF.out w9).2 hw9
   have e1:=ho9.cell_some HC1.out (fun e=>e)
   have f1:=ho9.cell_some HD1.out (fun e=>e)
   have HO9:=Lib.hid ho9
   clear hw9 ho9 L0 L1
   go_upto_region 7 with(fail)
   go_quiet (fail)
   go_wp2_with fail
   go_roundw
   case rel=>exact⟨k+1,by go_num,by omega,HO9.out.drewN _⟩
   case measure=>simp[intOf];omega
  ·obtain rfl:k=rs.length:=by omega
   have ik:¬(rs.length:Int)<rs.length:=by omega
   have HO:=Lib.hid ho
   clear ho
   go_wp2_with fail
   go_ret
   exact⟨rfl,HO.out⟩
end Go.Proofs.YtpdlbmieciabmaaGreatDoor
namespace Go.Proofs.YtpdlbmieciabmaaGreatDoor
open Go.RowKit Go.Shelf
def BdOwn(w:World)(base:Nat)(v:Value)(b:Bd):Prop:=∃qv pv,v= .agg #[.int .i64 b.bidder,.string b.qt,qv,.string b.pt,pv]∧OwnOf 3 inC 1 w base qv b.qc.length b.qc∧OwnOf 3 inC 1 w base pv b.pc.length b.pc
def bd0:Bd:=⟨0,⟨#[]⟩,[],⟨#[]⟩,[]⟩
theorem BdOwn.zero(w:World)(base:Nat):BdOwn w base (.agg #[.int .i64 0,.string ⟨#[]⟩,.slice none 0 0,.string ⟨#[]⟩,.slice none 0 0]) bd0:=⟨_,_,rfl,OwnOf.nil _ _ _ _ _,OwnOf.nil _ _ _ _ _⟩
def DcE(s:ByteArray)(w:World)(e:Ending)(w' :World):Prop:=∃v code b,e= .returned (.tuple #[v,.int .i64 code])∧BdOwn w' w.heap.size v b∧((code=0∧BRd s.data.toList b)∨(code=11∧b=bd0∧∀d,¬BRd s.data.toList d))∧Only NoneOf w w'
theorem DcE.bad{s:ByteArray}{w w' :World}(h:∀d,¬BRd s.data.toList d)(ho:Only NoneOf w w'):DcE s w (.returned (.tuple #[.agg #[.int .i64 0,.string ⟨#[]⟩,.slice none 0 0,.string ⟨#[]⟩,.slice none 0 0],.int .i64 11])) w' :=⟨_,_,bd0,rfl,BdOwn.zero _ _,.inr ⟨rfl,rfl,h⟩,ho⟩
theorem DcE.ok{s:ByteArray}{w w' :World}{v:Value}{b:Bd}(h:BRd s.data.toList b)(k:BdOwn w' w.heap.size v b)(ho:Only NoneOf w w'):DcE s w (.returned (.tuple #[v,.int .i64 0])) w' :=⟨_,_,b,rfl,k,.inl ⟨rfl,h⟩,ho⟩
section
variable {s:ByteArray} {w W W' :World} {R C B:Nat} {n:Int} {qt pt:ByteArray} {qv pv:Value} {qc pc:List Int} {a a' :Nat} {b b' :Bool}
end
def set5(W:World)(R:Nat)(y0 y1 y2 y3 y4:Value):World:=((((W.setCell ⟨R,0,none⟩ y0).setCell ⟨R,1,none⟩ y1).setCell ⟨R,2,none⟩ y2).setCell ⟨R,3,none⟩ y3).setCell ⟨R,4,none⟩ y4
theorem set5_blk{W:World}{R:Nat}{t:TypeId}{x0 x1 x2 x3 x4:Value}(h:Blk W R t #[x0,x1,x2,x3,x4])(y0 y1 y2 y3 y4:Value):Blk (set5 W R y0 y1 y2 y3 y4) R t #[y0,y1,y2,y3,y4]∧Only (·=R) W (set5 W R y0 y1 y2 y3 y4):=by
 have a0:Blk (W.setCell ⟨R,0,none⟩ y0) R t #[y0,x1,x2,x3,x4]:=Blk.set_ h 0 _
 have a1:Blk ((W.setCell ⟨R,0,none⟩ y0).setCell ⟨R,1,none⟩ y1) R t #[y0,y1,x2,x3,x4]:=Blk.set_ a0 1 _
 have a2:Blk (((W.setCell ⟨R,0,none⟩ y0).setCell ⟨R,1,none⟩ y1).setCell ⟨R,2,none⟩ y2) R t #[y0,y1,y2,x3,x4]:=Blk.set_ a1 2 _
 have a3:Blk ((((W.setCell ⟨R,0,none⟩ y0).setCell ⟨R,1,none⟩ y1).setCell ⟨R,2,none⟩ y2).setCell ⟨R,3,none⟩ y3) R t #[y0,y1,y2,y3,x4]:=Blk.set_ a2 3 _
 have o:∀{X:World} (j:Nat) (y:Value),Only (·=R) W X→Only (·=R) W (X.setCell ⟨R,j,none⟩ y):=fun j y h=>h.setCell (p:=⟨R,j,none⟩) (.inl rfl) _
 exact⟨Blk.set_ a3 4 _,o 4 _ (o 3 _ (o 2 _ (o 1 _ (o 0 _ (Only.refl _ _)))))⟩
theorem read_bd{fn:Func}{p u:Tmp}{tmps:Array Value}{w:World}{g:Nat}{x0 x1 x2 x3 x4:Value}{c:Int}(hf:fn.results= #[.cell p tBid,.tmp u])(hp:tmps.getD p undef= .pointer (some ⟨g,0,none⟩))(hu:tmps.getD u undef= .int .i64 c)(hb:Blk w g tBid #[x0,x1,x2,x3,x4]):(results fn tmps).run Tryz.prog w= .ok (.tuple #[.agg #[x0,x1,x2,x3,x4],.int .i64 c]) w:=by
 have hr:w.rangeAt g 0 [x0,x1,x2,x3,x4]:=fun j v hj=>by rw[Nat.zero_add,hb.cell];simpa using hj
 have hl:=run_loadVar_mid (P:=Tryz.prog) w g 0 tBid [x0,x1,x2,x3,x4] _ hr Tryz.underlying42 rfl (by kernel_rfl)
 rw[results_cell_tmp hf,hp,hu]
 simp only[asAddr]
 show(Result.andThen (Result.ok _ w) _)=_
 simp only[Result.andThen]
 rw[hl]
end Go.Proofs.YtpdlbmieciabmaaGreatDoor
namespace Go.Proofs.YtpdlbmieciabmaaGreatDoor
open Go.RowKit Go.Shelf
abbrev tShs:TypeId:=44
theorem read_mk{fn:Func}{p q u:Tmp}{tmps:Array Value}{w:World}{g h:Nat}{x0 x1 x2 x3 x4 y0 y1:Value}{c:Int}(hf:fn.results= #[.cell p tBid,.cell q tShs,.tmp u])(hp:tmps.getD p undef= .pointer (some ⟨g,0,none⟩))(hq:tmps.getD q undef= .pointer (some ⟨h,0,none⟩))(hu:tmps.getD u undef= .int .i64 c)(hb:Blk w g tBid #[x0,x1,x2,x3,x4])(hc:Blk w h tShs #[y0,y1]):(results fn tmps).run Tryz.prog w= .ok (.tuple #[.agg #[x0,x1,x2,x3,x4],.agg #[y0,y1],.int .i64 c]) w:=by
 have hr:w.rangeAt g 0 [x0,x1,x2,x3,x4]:=fun j v hj=>by rw[Nat.zero_add,hb.cell];simpa using hj
 have hs:w.rangeAt h 0 [y0,y1]:=fun j v hj=>by rw[Nat.zero_add,hc.cell];simpa using hj
 have hl:=run_loadVar_mid (P:=Tryz.prog) w g 0 tBid [x0,x1,x2,x3,x4] _ hr Tryz.underlying42 rfl (by kernel_rfl)
 have hm:=run_loadVar_mid (P:=Tryz.prog) w h 0 tShs [y0,y1] _ hs Tryz.underlying44 rfl (by kernel_rfl)
 simp only[results,hf]
 rw[Array.getD_eq_getD_getElem?] at hp hq hu
 simp[Sem.run_bind,Result.andThen,hp,hq,hu,asAddr,hl,hm]
def mkBd(bidder:Int)(seed:List UInt8)(k:Nat)(q p:List UInt8):Bd:=⟨bidder,boxT (seed++[113]) q,cmL (cfs (seed++[113]) k),boxT (seed++[112]) p,cmL (cfs (seed++[112]) k)⟩
structure Mde where
 code:Int
 bid:Bd
 s0:List (Int×Int)
 s1:List (Int×Int)
def mde(bidder:Int)(seed:List UInt8)(need officers:Int)(es:List En)(rs:List Rb):Mde:=
 if need<1∨officers<need∨13<officers then⟨1,bd0,[],[]⟩
 else if rightL es=false then⟨11,bd0,[],[]⟩
 else⟨0,mkBd bidder seed need.toNat (qualL es) (pricL es rs),shL (cfs (seed++[113]) need.toNat) officers.toNat,shL (cfs (seed++[112]) need.toNat) officers.toNat⟩
def MkdE(m:Mde)(w:World)(e:Ending)(w' :World):Prop:=∃bv a0 a1,e= .returned (.tuple #[bv,.agg #[a0,a1],.int .i64 m.code])∧BdOwn w' w.heap.size bv m.bid∧OwnOf tSh shC 2 w' w.heap.size a0 m.s0.length m.s0∧OwnOf tSh shC 2 w' w.heap.size a1 m.s1.length m.s1∧Only NoneOf w w'
structure MkF(w:World)(R:Nat)(W:World):Prop where
 bid:Blk W R tBid #[.int .i64 0,.string ⟨#[]⟩,.slice none 0 0,.string ⟨#[]⟩,.slice none 0 0]
 shs:Blk W (R+1) tShs #[.slice none 0 0,.slice none 0 0]
 only:Only NoneOf w W
 new:w.heap.size≤R
theorem MkF.none_{w:World}{R:Nat}{W W' :World}(h:MkF w R W)(ho:Only NoneOf W W'):MkF w R W' :=⟨h.bid.only ho (fun e=>e),h.shs.only ho (fun e=>e),h.only.trans ho,h.new⟩
def set7(W:World)(R:Nat)(x0 x1 x2 x3 x4 y0 y1:Value):World:=((set5 W R x0 x1 x2 x3 x4).setCell ⟨R+1,0,none⟩ y0).setCell ⟨R+1,1,none⟩ y1
theorem set7_blk{W:World}{R:Nat}{a0 a1 a2 a3 a4 b0 b1:Value}(h:Blk W R tBid #[a0,a1,a2,a3,a4])(k:Blk W (R+1) tShs #[b0,b1])(x0 x1 x2 x3 x4 y0 y1:Value):Blk (set7 W R x0 x1 x2 x3 x4 y0 y1) R tBid #[x0,x1,x2,x3,x4]∧Blk (set7 W R x0 x1 x2 x3 x4 y0 y1) (R+1) tShs #[y0,y1]∧Only (fun k=>k=R∨k=R+1) W (set7 W R x0 x1 x2 x3 x4 y0 y1):=by
 obtain⟨k1,k2⟩:=set5_blk h x0 x1 x2 x3 x4
 have k3:Blk (set5 W R x0 x1 x2 x3 x4) (R+1) tShs #[b0,b1]:=k.only k2 (by omega)
 have m1:=Blk.set_ (Blk.set_ k3 0 y0) 1 y1
 have m2:Only (fun k=>k=R∨k=R+1) W (set7 W R x0 x1 x2 x3 x4 y0 y1):=((k2.mono (fun _ _ e=> .inl e)).setCell (p:=⟨R+1,0,none⟩) (.inl (.inr rfl)) _).setCell (p:=⟨R+1,1,none⟩) (.inl (.inr rfl)) _
 refine⟨?_,m1,m2⟩
 exact(k1.far (p:=⟨R+1,0,none⟩) (by show R≠R+1;omega) _).far (p:=⟨R+1,1,none⟩) (by show R≠R+1;omega) _
theorem MkF.err{w:World}{R:Nat}{W:World}(h:MkF w R W):∃W',W' =set7 W R (.int .i64 0) (.string ⟨#[]⟩) (.slice none 0 0) (.string ⟨#[]⟩) (.slice none 0 0) (.slice none 0 0) (.slice none 0 0)∧Blk W' R tBid #[.int .i64 0,.string ⟨#[]⟩,.slice none 0 0,.string ⟨#[]⟩,.slice none 0 0]∧Blk W' (R+1) tShs #[.slice none 0 0,.slice none 0 0]∧Only NoneOf w W' :=by
 obtain⟨k1,k2,k3⟩:=set7_blk h.bid h.shs (.int .i64 0) (.string ⟨#[]⟩) (.slice none 0 0) (.string ⟨#[]⟩) (.slice none 0 0) (.slice none 0 0) (.slice none 0 0)
 exact⟨_,rfl,k1,k2,h.only.trans' k3 (fun i hi e=>by have:=h.new;have e' :i=R∨i=R+1:=e;omega)⟩
theorem mkd_err{m:Mde}{w w' :World}{c:Int}(hm:m=⟨c,bd0,[],[]⟩)(ho:Only NoneOf w w'):MkdE m w (.returned (.tuple #[.agg #[.int .i64 0,.string ⟨#[]⟩,.slice none 0 0,.string ⟨#[]⟩,.slice none 0 0],.agg #[.slice none 0 0,.slice none 0 0],.int .i64 c])) w' :=by
 subst hm
 exact⟨_,_,_,rfl,BdOwn.zero _ _,OwnOf.nil _ _ _ _ _,OwnOf.nil _ _ _ _ _,ho⟩
set_option maxRecDepth 100000 in
set_option maxHeartbeats 4000000 in
theorem bmake_any(bidder:Int)(_hbd:In bidder)(seed:ByteArray)(hs:seed.size≤100000)(need off:Int)(es:List En)(rs:List Rb)(hin:∀e∈es,EnIn e)(hrn:∀r∈rs,RbIn r)(hql:(textG (qLines es)).length≤100000)(hqq:(qualL es).length≤100000)(hpl:(pricL es rs).length≤100000)(v u:Value)(w:World)(h:EnSl w v es)(hrb:RbSl w u rs)(ht:Tab w):Calls Tryz.prog 11 #[.int .i64 bidder,.string seed,.int .i64 need,.int .i64 off,v,u] w (MkdE (mde bidder seed.data.toList need off es rs) w):=by
 obtain⟨R,eR⟩:∃R,R=w.heap.size:=⟨_,rfl⟩
 obtain⟨X,eX⟩:∃X,X=(w.alloc (.cells #[.int .i64 0,.string ⟨#[]⟩,.slice none 0 0,.string ⟨#[]⟩,.slice none 0 0] tBid)).alloc (.cells #[.slice none 0 0,.slice none 0 0] tShs):=⟨_,rfl⟩
 have hF:MkF w R X:=by
  rw[eX,eR]
  have h2:=Blk.new (w.alloc (.cells #[.int .i64 0,.string ⟨#[]⟩,.slice none 0 0,.string ⟨#[]⟩,.slice none 0 0] tBid)) tShs #[.slice none 0 0,.slice none 0 0]
  rw[World.size_alloc] at h2
  exact⟨(Blk.new w _ _).alloc _,h2,((Only.refl _ _).alloc _).alloc _,Nat.le_refl _⟩
 have HF:=Lib.hid hF
 have HT:=Lib.hid ht
 have HEN:=Lib.hid h
 have HRB:=Lib.hid hrb
 have EX:=Lib.hid eX
 have ER:=Lib.hid eR
 have HIN:=Lib.hid hin
 have HRN:=Lib.hid hrn
 have HQL:=Lib.hid hql
 have HQQ:=Lib.hid hqq
 have HPL:=Lib.hid hpl
 clear hF ht h hrb hin hrn hql hqq hpl
 have er1:R+1=w.heap.size+1:=by rw[eR]
 have ER1:=Lib.hid er1
 clear eX eR er1
 have r0:=HF.out.bid.cell 0
 have r1:=HF.out.bid.cell 1
 have r2:=HF.out.bid.cell 2
 have r3:=HF.out.bid.cell 3
 have r4:=HF.out.bid.cell 4
 have q0:=HF.out.shs.cell 0
 have q1:=HF.out.shs.cell 1
 have fr:∀i,X.frozen? ⟨R,i,none⟩=false:=fun i=>HF.out.bid.frozen i
 have fs:∀i,X.frozen? ⟨R+1,i,none⟩=false:=fun i=>HF.out.shs.frozen i
 go_enter Tryz.func11,Tryz.ntmps11
 go_upto_region 1 with(fail)
 rw[←EX.out]
 rw[←ER1.out]
 rw[←ER.out]
 by_cases c1:need<1
 ·have d1:decide (need<1)=true:=decide_eq_true c1
  go_wp2_with fail
  obtain⟨W',eW',h1,h2,h3⟩:=HF.out.err
  subst eW'
  exact bodyPost_ret (read_mk rfl rfl rfl rfl h1 h2) rfl (mkd_err (by unfold mde;rw[if_pos (.inl c1)]) h3)
 have d1:decide (need<1)=false:=decide_eq_false c1
 by_cases c2:off<need
 ·have d2:decide (off<need)=true:=decide_eq_true c2
  go_wp2_with fail
  obtain⟨W',eW',h1,h2,h3⟩:=HF.out.err
  subst eW'
  exact bodyPost_ret (read_mk rfl rfl rfl rfl h1 h2) rfl (mkd_err (by unfold mde;rw[if_pos (.inr (.inl c2))]) h3)
 have d2:decide (off<need)=false:=decide_eq_false c2
 by_cases c3:13<off
 ·have d3:decide (13<off)=true:=decide_eq_true c3
  go_wp2_with fail
  obtain⟨W',eW',h1,h2,h3⟩:=HF.out.err
  subst eW'
  exact bodyPost_ret (read_mk rfl rfl rfl rfl h1 h2) rfl (mkd_err (by unfold mde;rw[if_pos (.inr (.inr c3))]) h3)
 have d3:decide (13<off)=false:=decide_eq_false c3
 clear r0 r1 r2 r3 r4 q0 q1 fr fs
 go_wp2_with fail
 refine(right_any es v X (HEN.out.only HF.out.only)).mono ?_
 rintro e w1 ⟨rfl,ho1⟩
 have hF1:=HF.out.none_ ho1
 have HF1:=Lib.hid hF1
 clear ho1
 cases hr:rightL es with
 |false=>
  have r0:=hF1.bid.cell 0
  have r1:=hF1.bid.cell 1
  have r2:=hF1.bid.cell 2
  have r3:=hF1.bid.cell 3
  have r4:=hF1.bid.cell 4
  have q0:=hF1.shs.cell 0
  have q1:=hF1.shs.cell 1
  have fr:∀i,w1.frozen? ⟨R,i,none⟩=false:=fun i=>hF1.bid.frozen i
  have fs:∀i,w1.frozen? ⟨R+1,i,none⟩=false:=fun i=>hF1.shs.frozen i
  clear hF1
  go_wp2_with fail
  obtain⟨W',eW',h1,h2,h3⟩:=HF1.out.err
  subst eW'
  exact bodyPost_ret (read_mk rfl rfl rfl rfl h1 h2) rfl (mkd_err (by unfold mde;rw[if_neg (by omega),if_pos hr]) h3)
 |true=>
  clear hF1
  obtain⟨k,ek⟩:∃k:Nat,need=(k:Int):=⟨need.toNat,by omega⟩
  obtain⟨n,en⟩:∃n:Nat,off=(n:Int):=⟨off.toNat,by omega⟩
  subst ek en
  have hm:mde bidder seed.data.toList (k:Int) (n:Int) es rs=⟨0,mkBd bidder seed.data.toList k (qualL es) (pricL es rs),shL (cfs (seed.data.toList++[113]) k) n,shL (cfs (seed.data.toList++[112]) k) n⟩:=by
   unfold mde
   rw[if_neg (by omega),if_neg (by rw[hr];decide),Int.toNat_natCast,Int.toNat_natCast]
  have HM:=Lib.hid hm
  have hk1:1≤k:=by omega
  have hkn:k≤n:=by omega
  have hn13:n≤13:=by omega
  have m1:¬9223372036854775807<seed.size+1:=by omega
  have sq:(seed++⟨#[113]⟩:ByteArray).size≤1000000:=by rw[ByteArray.size_append];show seed.size+1≤_;omega
  have sp:(seed++⟨#[112]⟩:ByteArray).size≤1000000:=by rw[ByteArray.size_append];show seed.size+1≤_;omega
  have lq:(seed++⟨#[113]⟩:ByteArray).data.toList =seed.data.toList++[113]:=by rw[append_list]
  have lp:(seed++⟨#[112]⟩:ByteArray).data.toList =seed.data.toList++[112]:=by rw[append_list]
  have HSQ:=Lib.hid sq
  have HSP:=Lib.hid sp
  have HLQ:=Lib.hid lq
  have HLP:=Lib.hid lp
  clear sq sp lq lp hm d1 d2 d3 c1 c2 c3
  go_wp2_with fail
  refine(quality_any es HIN.out (by have:=HQL.out;omega) v w1 (HEN.out.only HF1.out.only) (HT.out.none HF1.out.only)).mono ?_
  rintro e w2 ⟨qt,rfl,hqt,ho2⟩
  have hqs:qt.size≤1000000:=by rw[size_list,hqt];have:=HQQ.out;omega
  have HQT:=Lib.hid hqt
  have HF2:=Lib.hid (HF1.out.none_ ho2)
  clear hqt ho2
  go_wp2_with fail
  refine(box_any _ qt HSQ.out hqs k n hk1 hkn hn13 w2 (HT.out.none HF2.out.only)).mono ?_
  rintro e w3 ⟨cq,aq,rfl,hcq,haq,ho3⟩
  rw[HLQ.out] at hcq haq⊢
  rw[HQT.out]
  obtain⟨A1,k1,rfl,_,_⟩:=own_form' hcq
  obtain⟨A2,k2,rfl,_,_⟩:=own_form' haq
  obtain⟨qb,eqb⟩:∃t,t=boxT (seed.data.toList++[113]) (qualL es):=⟨_,rfl⟩
  rw[←eqb]
  obtain⟨E,eE⟩:∃E,E=w3.heap.size:=⟨_,rfl⟩
  obtain⟨W4,eW4⟩:∃W4,W4=w3.alloc (.cells #[.string qb,.slice A1 k k1] tBox):=⟨_,rfl⟩
  have ho4:Only NoneOf w3 W4:=by rw[eW4];exact(Only.refl _ _).alloc _
  have HB4:=Lib.hid (show Blk W4 E tBox #[.string qb,.slice A1 k k1] by rw[eW4,eE];exact Blk.new w3 _ _)
  have HF4:=Lib.hid ((HF2.out.none_ ho3).none_ ho4)
  have HCQ4:=Lib.hid (OwnOf.keep hcq ho4 (fun _ _ e=>e))
  have HAQ4:=Lib.hid (OwnOf.keep haq ho4 (fun _ _ e=>e))
  have EQB:=Lib.hid eqb
  have EE:=Lib.hid eE
  have EW4:=Lib.hid eW4
  clear hcq haq eqb eE eW4 ho4 ho3
  go_wp2_with fail
  rw[←EW4.out]
  rw[←EE.out]
  refine(prices_any es rs HIN.out HRN.out (by have:=HPL.out;omega) v u W4 (HEN.out.only HF4.out.only) (HRB.out.only HF4.out.only) (HT.out.none HF4.out.only)).mono ?_
  rintro e w5 ⟨pt,rfl,hpt,ho5⟩
  have hps:pt.size≤1000000:=by rw[size_list,hpt];have:=HPL.out;omega
  have HPT:=Lib.hid hpt
  have HO5:=Lib.hid ho5
  have HF5:=Lib.hid (HF4.out.none_ ho5)
  clear hpt ho5
  go_wp2_with fail
  refine(box_any _ pt HSP.out hps k n hk1 hkn hn13 w5 (HT.out.none HF5.out.only)).mono ?_
  rintro e w6 ⟨cp,ap,rfl,hcp,hap,ho6⟩
  rw[HLP.out] at hcp hap⊢
  rw[HPT.out]
  obtain⟨A3,k3,rfl,_,_⟩:=own_form' hcp
  obtain⟨A4,k4,rfl,_,_⟩:=own_form' hap
  obtain⟨pb,epb⟩:∃t,t=boxT (seed.data.toList++[112]) (pricL es rs):=⟨_,rfl⟩
  rw[←epb]
  obtain⟨W7,eW7⟩:∃W7,W7=w6.alloc (.cells #[.string pb,.slice A3 k k3] tBox):=⟨_,rfl⟩
  have ho7:Only NoneOf w6 W7:=by rw[eW7];exact(Only.refl _ _).alloc _
  have h57:Only NoneOf W4 W7:=(HO5.out.trans ho6).trans ho7
  have hF7:=HF4.out.none_ h57
  have hB7:=HB4.out.only h57 (fun e=>e)
  have HCQ7:=Lib.hid (OwnOf.keep HCQ4.out h57 (fun _ _ e=>e))
  have HAQ7:=Lib.hid (OwnOf.keep HAQ4.out h57 (fun _ _ e=>e))
  have HCP7:=Lib.hid (OwnOf.keep hcp ho7 (fun _ _ e=>e))
  have HAP7:=Lib.hid (OwnOf.keep hap ho7 (fun _ _ e=>e))
  have b0:=hB7.cell 0
  have b1:=hB7.cell 1
  have r0:=hF7.bid.cell 0
  have r1:=hF7.bid.cell 1
  have r2:=hF7.bid.cell 2
  have r3:=hF7.bid.cell 3
  have r4:=hF7.bid.cell 4
  have q0:=hF7.shs.cell 0
  have q1:=hF7.shs.cell 1
  have fr:∀i,W7.frozen? ⟨R,i,none⟩=false:=fun i=>hF7.bid.frozen i
  have fs:∀i,W7.frozen? ⟨R+1,i,none⟩=false:=fun i=>hF7.shs.frozen i
  obtain⟨g1,g2,g3⟩:=set7_blk hF7.bid hF7.shs (.int .i64 bidder) (.string qb) (.slice A1 k k1) (.string pb) (.slice A3 k k3) (.slice A2 n k2) (.slice A4 n k4)
  have hlow:R+1<w2.heap.size:=HF2.out.shs.lt
  have hlow5:R+1<w5.heap.size:=HF5.out.shs.lt
  have hfin:MkdE ⟨0,mkBd bidder seed.data.toList k (qualL es) (pricL es rs),shL (cfs (seed.data.toList++[113]) k) n,shL (cfs (seed.data.toList++[112]) k) n⟩ w (.returned (.tuple #[.agg #[.int .i64 bidder,.string qb,.slice A1 k k1,.string pb,.slice A3 k k3],.agg #[.slice A2 n k2,.slice A4 n k4],.int .i64 0])) (set7 W7 R (.int .i64 bidder) (.string qb) (.slice A1 k k1) (.string pb) (.slice A3 k k3) (.slice A2 n k2) (.slice A4 n k4)):=by
   refine⟨_,_,_,rfl,⟨.slice A1 k k1,.slice A3 k k3,by rw[EQB.out,epb];rfl,?_,?_⟩,?_,?_,?_⟩
   ·have e:(mkBd bidder seed.data.toList k (qualL es) (pricL es rs)).qc.length =k:=by show(cmL _).length =k;rw[cmL_len,cfs_len]
    rw[e]
    exact own_base (OwnOf.keep HCQ7.out g3 (fun b hb hs=>by have h1:=(own_ge HCQ7.out hb).1;have hs' :b=R∨b=R+1:=hs;omega)) HF2.out.only.size
   ·have e:(mkBd bidder seed.data.toList k (qualL es) (pricL es rs)).pc.length =k:=by show(cmL _).length =k;rw[cmL_len,cfs_len]
    rw[e]
    exact own_base (OwnOf.keep HCP7.out g3 (fun b hb hs=>by have h1:=(own_ge HCP7.out hb).1;have hs' :b=R∨b=R+1:=hs;omega)) HF5.out.only.size
   ·show OwnOf tSh shC 2 _ _ _ (shL (cfs (seed.data.toList++[113]) k) n).length _
    rw[shL_len]
    exact own_base (OwnOf.keep HAQ7.out g3 (fun b hb hs=>by have h1:=(own_ge HAQ7.out hb).1;have hs' :b=R∨b=R+1:=hs;omega)) HF2.out.only.size
   ·show OwnOf tSh shC 2 _ _ _ (shL (cfs (seed.data.toList++[112]) k) n).length _
    rw[shL_len]
    exact own_base (OwnOf.keep HAP7.out g3 (fun b hb hs=>by have h1:=(own_ge HAP7.out hb).1;have hs' :b=R∨b=R+1:=hs;omega)) HF5.out.only.size
   ·exact hF7.only.trans' g3 (fun i hi e=>by have:=hF7.new;have e' :i=R∨i=R+1:=e;omega)
  have HFIN:=Lib.hid hfin
  have G1:=Lib.hid g1
  have G2:=Lib.hid g2
  have EW7:=Lib.hid eW7
  rw[eW7] at b0 b1 r0 r1 r2 r3 r4 q0 q1 fr fs
  have EPB:=Lib.hid epb
  have hne:¬w6.heap.size=R:=by have:=hF7.bid.lt;have h2:=HF5.out.bid.lt;have h3:=ho6.size;omega
  clear hcp hap ho6 ho7 h57 hF7 hB7 g1 g2 g3 hlow hlow5 hfin eW7 epb
  go_wp2_with fail
  rw[←EW7.out]
  exact bodyPost_ret (read_mk rfl rfl rfl rfl G1.out G2.out) rfl (by rw[HM.out];exact HFIN.out)
end Go.Proofs.YtpdlbmieciabmaaGreatDoor
