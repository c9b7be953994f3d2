/-What is proved here:several parts. a text in a box with the shares of its key,by the program and by the reference. Conditions:the texts are short,there are 13 officers at most. · equal lists of ints,lots,rebates,shares are found equal,by the reference's code. Conditions:there are few. · the reference reads a bid. Conditions:the text is short. -/
import Derived.Test.YtpdlbmieciabmaaGreatDoorPn04
import Derived.Test.YtpdlbmieciabmaaGreatDoorPn06
import Derived.Test.YtpdlbmieciabmaaGreatDoorPn07
import Derived.Test.YtpdlbmieciabmaaGreatDoorPn10
import Derived.Test.YtpdlbmieciabmaaGreatDoorPn11
import Derived.Test.YtpdlbmieciabmaaGreatDoorPn12
import Derived.Test.YtpdlbmieciabmaaGreatDoorPn13
import Derived.Test.YtpdlbmieciabmaaGreatDoorPn15
import Derived.Test.YtpdlbmieciabmaaGreatDoorPn16
import Derived.Test.YtpdlbmieciabmaaGreatDoorPn17
import Derived.Test.YtpdlbmieciabmaaGreatDoorPn19
import Derived.Test.YtpdlbmieciabmaaGreatDoorPn20
import Derived.Deep.Quiet
import Derived.Stop.BytesEq
import Derived.Deep.OwnRows
import Derived.BigRegion
import Derived.Lib.AppendZeros
import Derived.Deep.AppendLies
import Derived.Deep.RegionHeld3
import Derived.Deep.RegionLaw
import Derived.Deep.DeepCutAuto
import Derived.Test.YtpdlbmieciabmaaGreatDoorRows
import Derived.BigQuiet
import Derived.WalkSmall
namespace Go.Proofs.YtpdlbmieciabmaaGreatDoor
open Go.RowKit Go.Shelf
abbrev tBox:TypeId:=40
theorem read_box{fn:Func}{p u:Tmp}{tmps:Array Value}{w:World}{g:Nat}{x0 x1 sv:Value}(hf:fn.results= #[.cell p tBox,.tmp u])(hp:tmps.getD p undef= .pointer (some ⟨g,0,none⟩))(hu:tmps.getD u undef=sv)(hb:Blk w g tBox #[x0,x1]):(results fn tmps).run Tryz.prog w= .ok (.tuple #[.agg #[x0,x1],sv]) w:=by
 have hr:w.rangeAt g 0 [x0,x1]:=fun j v hj=>by rw[Nat.zero_add,hb.cell];simpa using hj
 have hl:=run_loadVar_mid (P:=Tryz.prog) w g 0 tBox [x0,x1] _ hr Tryz.underlying40 rfl (by kernel_rfl)
 rw[results_cell_tmp hf,hp,hu]
 simp only[asAddr]
 show(Result.andThen (Result.ok _ w) _)=_
 simp only[Result.andThen]
 rw[hl]
def BoxE(seed text:List UInt8)(k n:Nat)(w:World)(e:Ending)(w' :World):Prop:=∃cv sv,e= .returned (.tuple #[.agg #[.string (boxT seed text),cv],sv])∧OwnOf 3 inC 1 w' w.heap.size cv k (cmL (cfs seed k))∧OwnOf tSh shC 2 w' w.heap.size sv n (shL (cfs seed k) n)∧Only NoneOf w w'
theorem cf_blk{w:World}{g k c:Nat}{l:List UInt8}(h:Blk w g 3 ((coefL l k).map iv).toArray):CfAt w (.slice (some ⟨g,0,none⟩) k c) (cfs l k):=by
 refine⟨some ⟨g,0,none⟩,c,by rw[cfs_len],fun i x hx=>⟨g,0,rfl,h.lt,?_⟩⟩
 rw[h.cell,Nat.zero_add,List.getElem?_toArray,List.getElem?_map,coefL_cfs,List.getElem?_map,hx]
 rfl
theorem boxT_of{seed text:List UInt8}{t:ByteArray}(h:t.data.toList=sealS (coefN seed 0) text):t=boxT seed text:=by
 apply ba_ext
 rw[h,boxT_list]
set_option maxRecDepth 100000 in
set_option maxHeartbeats 2000000 in
theorem box_any(seed text:ByteArray)(hs:seed.size≤1000000)(htx:text.size≤1000000)(k n:Nat)(hk:1≤k)(hkn:k≤n)(hn:n≤13)(w:World)(ht:Tab w):Calls Tryz.prog 36 #[.string seed,.int .i64 (k:Int),.int .i64 (n:Int),.string text] w (BoxE seed.data.toList text.data.toList k n w):=by
 obtain⟨R,eR⟩:∃R,R=w.heap.size:=⟨_,rfl⟩
 obtain⟨X,eX⟩:∃X,X=w.alloc (.cells #[.string ⟨#[]⟩,.slice none 0 0] tBox):=⟨_,rfl⟩
 have HX:=Lib.hid (show Only NoneOf w X by rw[eX];exact(Only.refl _ _).alloc _)
 have HB:=Lib.hid (show Blk X R tBox #[.string ⟨#[]⟩,.slice none 0 0] by rw[eX,eR];exact Blk.new w _ _)
 have HT:=Lib.hid ht
 have EX:=Lib.hid eX
 have ER:=Lib.hid eR
 clear ht eX eR
 go_enter Tryz.func36,Tryz.ntmps36
 go_wp2_with fail
 rw[←EX.out]
 rw[←ER.out]
 refine(coefs_any seed (by omega) k hk (by omega) X (HT.out.none HX.out)).mono ?_
 rintro e w1 ⟨g,c,rfl,hg,hkc,hblk,ho1⟩
 have hcf:CfAt w1 (.slice (some ⟨g,0,none⟩) k c) (cfs seed.data.toList k):=cf_blk hblk
 have c0:w1.cell? ⟨g,0,none⟩=some (.int .i64 (coefN seed.data.toList 0)):=by
  obtain⟨A,cap,e,h2⟩:=hcf
  simp only[Value.slice.injEq] at e
  obtain⟨rfl,_,rfl⟩:=e
  obtain⟨g2,o2,e2,_,h3⟩:=h2 0 (cfN seed.data.toList 0) (by unfold cfs;rw[List.getElem?_map,List.getElem?_range (by omega)];rfl)
  cases e2
  rw[←cfN_int]
  exact h3
 have HCF:=Lib.hid hcf
 have HO1:=Lib.hid (HX.out.trans ho1)
 have HB1:=Lib.hid (HB.out.only ho1 (fun e=>e))
 have hlen:(cfs seed.data.toList k).length =k:=cfs_len _ _
 have HSP:=Lib.hid (split_sh (cfs seed.data.toList k) (cfs_lt _ _) (by rw[hlen];omega) n (by rw[hlen];omega) (by omega) _ w1 hcf)
 have HLEN:=Lib.hid hlen
 have hin:=coefN_in seed.data.toList 0
 obtain⟨key,ekey⟩:∃x,x=coefN seed.data.toList 0:=⟨_,rfl⟩
 rw[←ekey] at c0 hin
 have hq0:q0=1152921504606845789:=rfl
 have k0: -9223372036854775808≤key:=by omega
 have k1:key≤9223372036854775807:=by omega
 have C0:=Lib.hid c0
 have EK:=Lib.hid ekey
 have hkc1:1≤k:=hk
 clear hcf hblk ho1 c0 hlen hin ekey hq0
 go_wp2_with fail
 refine(HSP.out).mono ?_
 rintro e w2 ⟨sv,cv,rfl,hsv,hcv,ho2⟩
 rw[HLEN.out] at hcv
 obtain⟨A1,cp1,rfl,_,_⟩:=own_form' hsv
 obtain⟨A2,cp2,rfl,_,_⟩:=own_form' hcv
 have c2:=ho2.cell_some C0.out (fun e=>e)
 have HO2:=Lib.hid (HO1.out.trans ho2)
 have HB2:=Lib.hid (HB1.out.only ho2 (fun e=>e))
 have HSV:=Lib.hid hsv
 have HCV:=Lib.hid hcv
 have k00:(0:Int)<(k:Int):=by omega
 have k0n:0<k:=by omega
 clear hsv hcv ho2
 go_wp2_with fail
 refine(seal_any key k0 k1 text (by omega) w2 (HT.out.none HO2.out)).mono ?_
 rintro e w3 ⟨t,rfl,htl,ho3⟩
 have et:t=boxT seed.data.toList text.data.toList:=boxT_of (by rw[htl,EK.out])
 have HET:=Lib.hid et
 have hb3:=HB2.out.only ho3 (fun e=>e)
 have r0:=hb3.cell 0
 have r1:=hb3.cell 1
 have f0:=hb3.frozen 0
 have f1:=hb3.frozen 1
 have HO3:=Lib.hid (HO2.out.trans ho3)
 have HSV3:=Lib.hid (OwnOf.keep HSV.out ho3 (fun _ _ e=>e))
 have HCV3:=Lib.hid (OwnOf.keep HCV.out ho3 (fun _ _ e=>e))
 have HB3:=Lib.hid hb3
 clear et htl ho3 hb3
 go_wp2_with fail
 have hRw:w.heap.size≤R:=by rw[ER.out];exact Nat.le_refl _
 have h4:Blk ((w3.setCell ⟨R,0,none⟩ (.string t)).setCell ⟨R,1,none⟩ (.slice A2 k cp2)) R tBox #[.string t,.slice A2 k cp2]:=(HB3.out.set_ 0 (.string t)).set_ 1 (.slice A2 k cp2)
 have ho4a:Only (·=R) w3 (w3.setCell ⟨R,0,none⟩ (.string t)):=(Only.refl (·=R) w3).setCell (p:=⟨R,0,none⟩) (.inl rfl) _
 have ho4:Only (·=R) w3 ((w3.setCell ⟨R,0,none⟩ (.string t)).setCell ⟨R,1,none⟩ (.slice A2 k cp2)):=ho4a.setCell (p:=⟨R,1,none⟩) (.inl rfl) _
 have hbt:∀{t' :TypeId} {v' :Value} {b:Nat} {α:Type} {cc:α→List Value} {kk n' :Nat} {P:List α},OwnOf t' cc kk w3 w1.heap.size v' n' P→v'.ownBlock=some b→b≠R:=fun h e hb=>by
  have h1:=(own_ge h e).1
  have h2:=HB1.out.lt
  omega
 refine bodyPost_ret (read_box rfl rfl rfl h4) rfl ⟨_,_,by rw[HET.out],?_,?_,?_⟩
 ·exact own_base (OwnOf.keep HCV3.out ho4 (fun b e hs=>hbt HCV3.out e hs)) HO1.out.size
 ·exact own_base (OwnOf.keep HSV3.out ho4 (fun b e hs=>hbt HSV3.out e hs)) HO1.out.size
 ·exact HO3.out.trans' ho4 (fun i hi e=>by have e' :i=R:=e;omega)
end Go.Proofs.YtpdlbmieciabmaaGreatDoor
namespace Go.Proofs.YtpdlbmieciabmaaGreatDoor
open Go.RowKit Go.Shelf
theorem in_at{w:World}{u:Value}{ns:List Int}(h:SlOf inC 1 w u ns):∃A cap,u= .slice A ns.length cap∧∀(j:Nat) (x:Int),ns[j]? =some x→∃g o,A=some ⟨g,o,none⟩∧g<w.heap.size∧w.cell? ⟨g,o+j,none⟩=some (.int .i64 x):=by
 obtain⟨A,cap,h1,_,_,h4⟩:=h
 refine⟨A,cap,h1,fun j x hx=> ?_⟩
 obtain⟨g,o,hA,hg,hr⟩:=h4 j x hx
 exact⟨g,o,hA,hg,by simpa using hr 0 _ rfl⟩
set_option maxRecDepth 100000 in
set_option maxHeartbeats 1000000 in
theorem ints_same(ns:List Int)(hl:ns.length≤1000000000)(v u:Value)(w:World)(h:SlOf inC 1 w v ns)(k:SlOf inC 1 w u ns):Calls Tryz.prog 13 #[v,u] w fun e w' =>e= .returned (.bool true)∧Only NoneOf w w' :=by
 obtain⟨A,cap,rfl,hA⟩:=in_at h
 obtain⟨B,bap,rfl,hB⟩:=in_at k
 have HA:=Lib.hid hA
 have HB:=Lib.hid hB
 clear hA hB h k
 go_enter Tryz.func13,Tryz.ntmps13
 go_wp2_with fail
 go_loopw [5] (fun i wr=>∃j:Nat,i= .int .i64 j∧j≤ns.length∧∃n,wr=w.drewN n) (fun i _=>ns.length-(intOf i).toNat)
 case atStart=>exact⟨0,rfl,Nat.zero_le _,0,rfl⟩
 case round=>
  obtain⟨j,rfl,hj,n0,rfl⟩:=hrel
  by_cases hlt:j<ns.length
  ·obtain⟨x,hx⟩:∃x,ns[j]? =some x:=⟨_,List.getElem?_eq_getElem hlt⟩
   obtain⟨g,o,rfl,hg,c0⟩:=HA.out j x hx
   obtain⟨g2,o2,rfl,hg2,d0⟩:=HB.out j x hx
   have ij:(j:Int)<ns.length:=by omega
   have j0:(0:Int)≤(j:Int):=by omega
   have wj:IntKind.i64.wrap ((j:Int)+1)=(j:Int)+1:=IntWalk.i64_in _ (by omega)
   clear hx
   go_upto_region 6 with(fail)
   go_quiet (fail)
   go_wp2_with fail
   go_roundw
   case rel=>exact⟨j+1,by go_num,by omega,_,rfl⟩
   case measure=>simp[intOf];omega
  ·obtain rfl:j=ns.length:=by omega
   have ij:¬(ns.length:Int)<ns.length:=by omega
   go_wp2_with fail
   go_ret
   exact⟨rfl,(Only.refl _ _).drewN _⟩
set_option maxRecDepth 100000 in
set_option maxHeartbeats 1000000 in
theorem shares_same(ps:List (Int×Int))(_hl:ps.length≤1000000000)(v u:Value)(w:World)(h:SlOf shC 2 w v ps)(k:SlOf shC 2 w u ps):Calls Tryz.prog 14 #[v,u] w fun e w' =>e= .returned (.bool true)∧Only NoneOf w w' :=by
 obtain⟨A,cap,rfl,hc1,hc2,hA⟩:=h
 obtain⟨B,bap,rfl,hb1,hb2,hB⟩:=k
 have HA:=Lib.hid hA
 have HB:=Lib.hid hB
 clear hA hB
 go_enter Tryz.func14,Tryz.ntmps14
 go_wp2_with fail
 go_loopw [5] (fun i wr=>∃j:Nat,i= .int .i64 j∧j≤ps.length∧∃n,wr=w.drewN n) (fun i _=>ps.length-(intOf i).toNat)
 case atStart=>exact⟨0,rfl,Nat.zero_le _,0,rfl⟩
 case round=>
  obtain⟨j,rfl,hj,n0,rfl⟩:=hrel
  by_cases hlt:j<ps.length
  ·obtain⟨x,hx⟩:∃x,ps[j]? =some x:=⟨_,List.getElem?_eq_getElem hlt⟩
   obtain⟨g,o,rfl,hg,hr⟩:=HA.out j x hx
   obtain⟨g2,o2,rfl,hg2,hr2⟩:=HB.out j x hx
   obtain⟨x0,x1⟩:=x
   have c0:w.cell? ⟨g,o+j*2,none⟩=some (.int .i64 x0):=hr 0 _ rfl
   have c1:w.cell? ⟨g,o+j*2+1,none⟩=some (.int .i64 x1):=hr 1 _ rfl
   have d0:w.cell? ⟨g2,o2+j*2,none⟩=some (.int .i64 x0):=hr2 0 _ rfl
   have d1:w.cell? ⟨g2,o2+j*2+1,none⟩=some (.int .i64 x1):=hr2 1 _ rfl
   have ij:(j:Int)<ps.length:=by omega
   have j0:(0:Int)≤(j:Int):=by omega
   have wj:IntKind.i64.wrap ((j:Int)+1)=(j:Int)+1:=IntWalk.i64_in _ (by omega)
   clear hx hr hr2
   go_upto_region 6 with(fail)
   go_quiet (fail)
   go_wp2_with fail
   go_roundw
   case rel=>exact⟨j+1,by go_num,by omega,_,rfl⟩
   case measure=>simp[intOf];omega
  ·obtain rfl:j=ps.length:=by omega
   have ij:¬(ps.length:Int)<ps.length:=by omega
   go_wp2_with fail
   go_ret
   exact⟨rfl,(Only.refl _ _).drewN _⟩
end Go.Proofs.YtpdlbmieciabmaaGreatDoor
namespace Go.Proofs.YtpdlbmieciabmaaGreatDoor
open Go.RowKit Go.Shelf
def BdOwn(w:World)(base:Nat)(v:Value)(b:Bd):Prop:=∃qv pv,v= .agg #[.int .i64 b.bidder,.string b.qt,qv,.string b.pt,pv]∧OwnOf 3 inC 1 w base qv b.qc.length b.qc∧OwnOf 3 inC 1 w base pv b.pc.length b.pc
def bd0:Bd:=⟨0,⟨#[]⟩,[],⟨#[]⟩,[]⟩
theorem BdOwn.zero(w:World)(base:Nat):BdOwn w base (.agg #[.int .i64 0,.string ⟨#[]⟩,.slice none 0 0,.string ⟨#[]⟩,.slice none 0 0]) bd0:=⟨_,_,rfl,OwnOf.nil _ _ _ _ _,OwnOf.nil _ _ _ _ _⟩
section
variable {s:ByteArray} {w W W' :World} {R C B:Nat} {n:Int} {qt pt:ByteArray} {qv pv:Value} {qc pc:List Int} {a a' :Nat} {b b' :Bool}
end
def set5(W:World)(R:Nat)(y0 y1 y2 y3 y4:Value):World:=((((W.setCell ⟨R,0,none⟩ y0).setCell ⟨R,1,none⟩ y1).setCell ⟨R,2,none⟩ y2).setCell ⟨R,3,none⟩ y3).setCell ⟨R,4,none⟩ y4
theorem set5_blk{W:World}{R:Nat}{t:TypeId}{x0 x1 x2 x3 x4:Value}(h:Blk W R t #[x0,x1,x2,x3,x4])(y0 y1 y2 y3 y4:Value):Blk (set5 W R y0 y1 y2 y3 y4) R t #[y0,y1,y2,y3,y4]∧Only (·=R) W (set5 W R y0 y1 y2 y3 y4):=by
 have a0:Blk (W.setCell ⟨R,0,none⟩ y0) R t #[y0,x1,x2,x3,x4]:=Blk.set_ h 0 _
 have a1:Blk ((W.setCell ⟨R,0,none⟩ y0).setCell ⟨R,1,none⟩ y1) R t #[y0,y1,x2,x3,x4]:=Blk.set_ a0 1 _
 have a2:Blk (((W.setCell ⟨R,0,none⟩ y0).setCell ⟨R,1,none⟩ y1).setCell ⟨R,2,none⟩ y2) R t #[y0,y1,y2,x3,x4]:=Blk.set_ a1 2 _
 have a3:Blk ((((W.setCell ⟨R,0,none⟩ y0).setCell ⟨R,1,none⟩ y1).setCell ⟨R,2,none⟩ y2).setCell ⟨R,3,none⟩ y3) R t #[y0,y1,y2,y3,x4]:=Blk.set_ a2 3 _
 have o:∀{X:World} (j:Nat) (y:Value),Only (·=R) W X→Only (·=R) W (X.setCell ⟨R,j,none⟩ y):=fun j y h=>h.setCell (p:=⟨R,j,none⟩) (.inl rfl) _
 exact⟨Blk.set_ a3 4 _,o 4 _ (o 3 _ (o 2 _ (o 1 _ (o 0 _ (Only.refl _ _)))))⟩
end Go.Proofs.YtpdlbmieciabmaaGreatDoor
