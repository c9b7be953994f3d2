/-What is proved here:several parts. coefficients by the reference are those of the program;lists of integers are compared;the laws of coefficients return true. Conditions:the table of powers of ten reads as its initialiser lays it;the seed is short. · a text in a box with the shares of its key,by the program and by the reference. Conditions:the texts are short,there are 13 officers at most. · the reference's cursor passes strings. Conditions:the text is short. · a region that draws its order and whose calls leave a class of worlds:one walk,in the order of the text,the class told as a family of worlds;no function of the program. No conditions. -/
import Derived.Test.YtpdlbmieciabmaaGreatDoorPm07
import Derived.Test.YtpdlbmieciabmaaGreatDoorPm08
import Derived.Test.YtpdlbmieciabmaaGreatDoorPm11
import Derived.Test.YtpdlbmieciabmaaGreatDoorPm12
import Derived.Test.YtpdlbmieciabmaaGreatDoorPm13
import Derived.Test.YtpdlbmieciabmaaGreatDoorPm21
import Derived.Deep.AppendLies
import Derived.WalkSmall
import Derived.Deep.Quiet
import Derived.Deep.RegionHeld3
import Derived.BigRegion
import Derived.Deep.DeepCutAuto
import Derived.Test.YtpdlbmieciabmaaGreatDoorRows
import Derived.BigQuiet
namespace Go.Proofs.YtpdlbmieciabmaaGreatDoor
open Go.RowKit Go.Shelf
def RdI(w:World)(A:Option Addr)(k:Nat)(f:Nat→Int):Prop:=∀i,i<k→∃g,A=some ⟨g,0,none⟩∧w.cell? ⟨g,i,none⟩=some (.int .i64 (f i))
def RetC(l:List UInt8)(k:Nat)(w:World)(e:Ending)(w' :World):Prop:=
 ∃A c,e= .returned (.slice A k c)∧k≤c∧Only NoneOf w w'∧RdI w' A k (coefN l)
theorem coefL_snoc(l:List UInt8)(i:Nat):(coefL l (i+1)).map iv=(coefL l i).map iv++[iv (coefN l i)]:=by
 rw[coefL,coefL,List.range_succ,List.map_append,List.map_append]
 rfl
set_option maxRecDepth 100000 in
set_option maxHeartbeats 400000 in
theorem rcoefs_any(s:ByteArray)(hs:s.size≤17592186044416)(k:Nat)(hk:k≤13)(w:World):
  Calls Tryz.prog 81 #[.string s,.int .i64 (k:Int)] w (RetC s.data.toList k w):=by
 obtain⟨i0,hi0,hz0,hz1,hz2⟩:=info_parts info_i64
 have hk13:(k:Int)≤13:=by omega
 go_enter Tryz.func81,Tryz.ntmps81
 go_wp2_with fail
 go_loopw [5,6] (fun a v wr=>∃i:Nat,v= .int .i64 i∧i≤k∧wr.ownsRow w.heap.size 3 1 a i ((coefL s.data.toList i).map iv)∧Only NoneOf w wr) (fun _ v _=>k-(intOf v).toNat)
 case atStart=>exact⟨0,rfl,by omega,World.ownsRow_nil _ _ _ _,Only.refl _ _⟩
 case round=>
  obtain⟨i,rfl,hi,hown,ho⟩:=hrel
  obtain⟨A3,c3,e3,hc3,hc3m⟩:=own_form' hown
  unfold maxLen at hc3m
  subst e3
  by_cases hlt:i<k
  ·have HOWN:=Lib.hid hown
   have HO:=Lib.hid ho
   have ik:(i:Int)<(k:Int):=by omega
   have i0' :0≤(i:Int):=by omega
   have HLEN:=Lib.hid (itoa_len (n:=(i:Int)) (by omega) (by omega))
   clear hown ho
   go_wp2_with fail
   refine(number14_any (i:Int) (by omega) (by omega) _).mono ?_
   rintro e w1 ⟨t,rfl,htl,ho1⟩
   have hts:t.size≤21:=by rw[size_list,htl];exact HLEN.out
   have HTL:=Lib.hid htl
   have HO1:=Lib.hid ho1
   clear htl ho1
   go_wp2_with fail
   refine(rhash_any _ 1152921504606845789 (coefS_fits s t hs hts) (by omega) (by omega) _).mono ?_
   rintro e w2 ⟨rfl,ho2⟩
   rw[coefS_list s t i HTL.out]
   obtain⟨c,ec⟩:∃c,c=hashF 1152921504606845789 (coefS s.data.toList i):=⟨_,rfl⟩
   rw[←ec]
   have EC:=Lib.hid ec
   have hN:=HO.out.trans (HO1.out.trans ho2)
   have hown2:=own_only HOWN.out (HO1.out.trans ho2) (fun _ _ e=>e)
   have hsz:=hN.size
   have HN:=Lib.hid hN
   have HOW2:=Lib.hid hown2
   clear ec ho2 hN hown2
   go_wp2_with (at_builtin;refine wpList_append_own _ rfl _ _ 38 rfl w.heap.size 3 i0 _ 1 8 Tryz.underlying38 hi0 hz0 hz1 hz2 rfl (by decide) (.slice A3 i c3) i _ rfl (by exact(HOW2.out.alloc _)) ⟨w2.heap.size,0,none⟩ 1 1 [.int .i64 c] rfl rfl (World.news_of_block (cs:= #[.int .i64 c]) (t:=3) (fr:=(0,0)) (by simpa using heap_alloc_new w2 _)) (by simp[Value.oneCell']) (by rw[maxLen_val];omega) (by omega) (by simp;omega) ?_;intro v' w3 hown3 hgrow _)
   go_roundw
   case rel=>
    refine⟨i+1,by go_num,by omega,?_,(HN.out.alloc _).grown hgrow (fun j e=> .inr (own_ge HOW2.out e).1)⟩
    rw[coefL_snoc]
    unfold coefN q0
    rw[←EC.out]
    exact hown3
   case measure=>simp[intOf];omega
  ·obtain rfl:i=k:=by omega
   have HOWN:=Lib.hid hown
   have HO:=Lib.hid ho
   clear hown ho
   go_wp2_with fail
   go_ret
   refine⟨A3,c3,rfl,hc3,HO.out,fun j hj=> ?_⟩
   obtain⟨g,cap,hv,_,_,_⟩:=own_form HOWN.out (by omega)
   simp only[Value.slice.injEq] at hv
   obtain⟨rfl,_,rfl⟩:=hv
   refine⟨g,rfl,?_⟩
   have:=HOWN.out.cells (g:=g) rfl j (iv (coefN s.data.toList j)) (by rw[List.getElem?_map,coefL,List.getElem?_map,List.getElem?_range hj];rfl)
   rw[Addr.add_mid,Nat.zero_add] at this
   exact this
end Go.Proofs.YtpdlbmieciabmaaGreatDoor
namespace Go.Proofs.YtpdlbmieciabmaaGreatDoor
open Go.RowKit Go.Shelf
abbrev tBox:TypeId:=40
theorem read_box{fn:Func}{p u:Tmp}{tmps:Array Value}{w:World}{g:Nat}{x0 x1 sv:Value}(hf:fn.results= #[.cell p tBox,.tmp u])(hp:tmps.getD p undef= .pointer (some ⟨g,0,none⟩))(hu:tmps.getD u undef=sv)(hb:Blk w g tBox #[x0,x1]):(results fn tmps).run Tryz.prog w= .ok (.tuple #[.agg #[x0,x1],sv]) w:=by
 have hr:w.rangeAt g 0 [x0,x1]:=fun j v hj=>by rw[Nat.zero_add,hb.cell];simpa using hj
 have hl:=run_loadVar_mid (P:=Tryz.prog) w g 0 tBox [x0,x1] _ hr Tryz.underlying40 rfl (by kernel_rfl)
 rw[results_cell_tmp hf,hp,hu]
 simp only[asAddr]
 show(Result.andThen (Result.ok _ w) _)=_
 simp only[Result.andThen]
 rw[hl]
def BoxE(seed text:List UInt8)(k n:Nat)(w:World)(e:Ending)(w' :World):Prop:=∃cv sv,e= .returned (.tuple #[.agg #[.string (boxT seed text),cv],sv])∧OwnOf 3 inC 1 w' w.heap.size cv k (cmL (cfs seed k))∧OwnOf tSh shC 2 w' w.heap.size sv n (shL (cfs seed k) n)∧Only NoneOf w w'
theorem cf_blk{w:World}{g k c:Nat}{l:List UInt8}(h:Blk w g 3 ((coefL l k).map iv).toArray):CfAt w (.slice (some ⟨g,0,none⟩) k c) (cfs l k):=by
 refine⟨some ⟨g,0,none⟩,c,by rw[cfs_len],fun i x hx=>⟨g,0,rfl,h.lt,?_⟩⟩
 rw[h.cell,Nat.zero_add,List.getElem?_toArray,List.getElem?_map,coefL_cfs,List.getElem?_map,hx]
 rfl
set_option maxRecDepth 100000 in
theorem cf_rd{w:World}{A:Option Addr}{k c:Nat}{l:List UInt8}(h:RdI w A k (coefN l)):CfAt w (.slice A k c) (cfs l k):=by
 refine⟨A,c,by rw[cfs_len],fun i x hx=> ?_⟩
 have hi:i<k:=by
  have:=(List.getElem?_eq_some_iff.1 hx).1
  rwa [cfs_len] at this
 obtain⟨g,e,hc⟩:=h i hi
 refine⟨g,0,e,World.block_lt_of_cell? w _ hc,?_⟩
 rw[Nat.zero_add,hc]
 unfold cfs at hx
 rw[List.getElem?_map,List.getElem?_range hi] at hx
 obtain rfl:=Option.some.inj hx
 rw[cfN_int]
theorem boxT_of{seed text:List UInt8}{t:ByteArray}(h:t.data.toList=sealS (coefN seed 0) text):t=boxT seed text:=by
 apply ba_ext
 rw[h,boxT_list]
set_option maxRecDepth 100000 in
set_option maxHeartbeats 2000000 in
theorem box_any(seed text:ByteArray)(hs:seed.size≤1000000)(htx:text.size≤1000000)(k n:Nat)(hk:1≤k)(hkn:k≤n)(hn:n≤13)(w:World)(ht:Tab w):Calls Tryz.prog 36 #[.string seed,.int .i64 (k:Int),.int .i64 (n:Int),.string text] w (BoxE seed.data.toList text.data.toList k n w):=by
 obtain⟨R,eR⟩:∃R,R=w.heap.size:=⟨_,rfl⟩
 obtain⟨X,eX⟩:∃X,X=w.alloc (.cells #[.string ⟨#[]⟩,.slice none 0 0] tBox):=⟨_,rfl⟩
 have HX:=Lib.hid (show Only NoneOf w X by rw[eX];exact(Only.refl _ _).alloc _)
 have HB:=Lib.hid (show Blk X R tBox #[.string ⟨#[]⟩,.slice none 0 0] by rw[eX,eR];exact Blk.new w _ _)
 have HT:=Lib.hid ht
 have EX:=Lib.hid eX
 have ER:=Lib.hid eR
 clear ht eX eR
 go_enter Tryz.func36,Tryz.ntmps36
 go_wp2_with fail
 rw[←EX.out]
 rw[←ER.out]
 refine(coefs_any seed (by omega) k hk (by omega) X (HT.out.none HX.out)).mono ?_
 rintro e w1 ⟨g,c,rfl,hg,hkc,hblk,ho1⟩
 have hcf:CfAt w1 (.slice (some ⟨g,0,none⟩) k c) (cfs seed.data.toList k):=cf_blk hblk
 have c0:w1.cell? ⟨g,0,none⟩=some (.int .i64 (coefN seed.data.toList 0)):=by
  obtain⟨A,cap,e,h2⟩:=hcf
  simp only[Value.slice.injEq] at e
  obtain⟨rfl,_,rfl⟩:=e
  obtain⟨g2,o2,e2,_,h3⟩:=h2 0 (cfN seed.data.toList 0) (by unfold cfs;rw[List.getElem?_map,List.getElem?_range (by omega)];rfl)
  cases e2
  rw[←cfN_int]
  exact h3
 have HCF:=Lib.hid hcf
 have HO1:=Lib.hid (HX.out.trans ho1)
 have HB1:=Lib.hid (HB.out.only ho1 (fun e=>e))
 have hlen:(cfs seed.data.toList k).length =k:=cfs_len _ _
 have HSP:=Lib.hid (split_sh (cfs seed.data.toList k) (cfs_lt _ _) (by rw[hlen];omega) n (by rw[hlen];omega) (by omega) _ w1 hcf)
 have HLEN:=Lib.hid hlen
 have hin:=coefN_in seed.data.toList 0
 obtain⟨key,ekey⟩:∃x,x=coefN seed.data.toList 0:=⟨_,rfl⟩
 rw[←ekey] at c0 hin
 have hq0:q0=1152921504606845789:=rfl
 have k0: -9223372036854775808≤key:=by omega
 have k1:key≤9223372036854775807:=by omega
 have C0:=Lib.hid c0
 have EK:=Lib.hid ekey
 have hkc1:1≤k:=hk
 clear hcf hblk ho1 c0 hlen hin ekey hq0
 go_wp2_with fail
 refine(HSP.out).mono ?_
 rintro e w2 ⟨sv,cv,rfl,hsv,hcv,ho2⟩
 rw[HLEN.out] at hcv
 obtain⟨A1,cp1,rfl,_,_⟩:=own_form' hsv
 obtain⟨A2,cp2,rfl,_,_⟩:=own_form' hcv
 have c2:=ho2.cell_some C0.out (fun e=>e)
 have HO2:=Lib.hid (HO1.out.trans ho2)
 have HB2:=Lib.hid (HB1.out.only ho2 (fun e=>e))
 have HSV:=Lib.hid hsv
 have HCV:=Lib.hid hcv
 have k00:(0:Int)<(k:Int):=by omega
 have k0n:0<k:=by omega
 clear hsv hcv ho2
 go_wp2_with fail
 refine(seal_any key k0 k1 text (by omega) w2 (HT.out.none HO2.out)).mono ?_
 rintro e w3 ⟨t,rfl,htl,ho3⟩
 have et:t=boxT seed.data.toList text.data.toList:=boxT_of (by rw[htl,EK.out])
 have HET:=Lib.hid et
 have hb3:=HB2.out.only ho3 (fun e=>e)
 have r0:=hb3.cell 0
 have r1:=hb3.cell 1
 have f0:=hb3.frozen 0
 have f1:=hb3.frozen 1
 have HO3:=Lib.hid (HO2.out.trans ho3)
 have HSV3:=Lib.hid (OwnOf.keep HSV.out ho3 (fun _ _ e=>e))
 have HCV3:=Lib.hid (OwnOf.keep HCV.out ho3 (fun _ _ e=>e))
 have HB3:=Lib.hid hb3
 clear et htl ho3 hb3
 go_wp2_with fail
 have hRw:w.heap.size≤R:=by rw[ER.out];exact Nat.le_refl _
 have h4:Blk ((w3.setCell ⟨R,0,none⟩ (.string t)).setCell ⟨R,1,none⟩ (.slice A2 k cp2)) R tBox #[.string t,.slice A2 k cp2]:=(HB3.out.set_ 0 (.string t)).set_ 1 (.slice A2 k cp2)
 have ho4a:Only (·=R) w3 (w3.setCell ⟨R,0,none⟩ (.string t)):=(Only.refl (·=R) w3).setCell (p:=⟨R,0,none⟩) (.inl rfl) _
 have ho4:Only (·=R) w3 ((w3.setCell ⟨R,0,none⟩ (.string t)).setCell ⟨R,1,none⟩ (.slice A2 k cp2)):=ho4a.setCell (p:=⟨R,1,none⟩) (.inl rfl) _
 have hbt:∀{t' :TypeId} {v' :Value} {b:Nat} {α:Type} {cc:α→List Value} {kk n' :Nat} {P:List α},OwnOf t' cc kk w3 w1.heap.size v' n' P→v'.ownBlock=some b→b≠R:=fun h e hb=>by
  have h1:=(own_ge h e).1
  have h2:=HB1.out.lt
  omega
 refine bodyPost_ret (read_box rfl rfl rfl h4) rfl ⟨_,_,by rw[HET.out],?_,?_,?_⟩
 ·exact own_base (OwnOf.keep HCV3.out ho4 (fun b e hs=>hbt HCV3.out e hs)) HO1.out.size
 ·exact own_base (OwnOf.keep HSV3.out ho4 (fun b e hs=>hbt HSV3.out e hs)) HO1.out.size
 ·exact HO3.out.trans' ho4 (fun i hi e=>by have e' :i=R:=e;omega)
set_option maxRecDepth 100000 in
set_option maxHeartbeats 2000000 in
theorem rbox_any(seed text:ByteArray)(hs:seed.size≤1000000)(htx:text.size≤1000000)(k n:Nat)(hk:1≤k)(hkn:k≤n)(hn:n≤13)(w:World):Calls Tryz.prog 53 #[.string seed,.int .i64 (k:Int),.int .i64 (n:Int),.string text] w (BoxE seed.data.toList text.data.toList k n w):=by
 obtain⟨R,eR⟩:∃R,R=w.heap.size:=⟨_,rfl⟩
 obtain⟨X,eX⟩:∃X,X=w.alloc (.cells #[.string ⟨#[]⟩,.slice none 0 0] tBox):=⟨_,rfl⟩
 have HX:=Lib.hid (show Only NoneOf w X by rw[eX];exact(Only.refl _ _).alloc _)
 have HB:=Lib.hid (show Blk X R tBox #[.string ⟨#[]⟩,.slice none 0 0] by rw[eX,eR];exact Blk.new w _ _)
 have EX:=Lib.hid eX
 have ER:=Lib.hid eR
 clear eX eR
 go_enter Tryz.func53,Tryz.ntmps53
 go_wp2_with fail
 rw[←EX.out]
 rw[←ER.out]
 refine(rcoefs_any seed (by omega) k (by omega) X).mono ?_
 rintro e w1 ⟨A0,c,rfl,hkc,ho1,hrd⟩
 obtain⟨g,rfl,_⟩:=hrd 0 (by omega)
 have hcf:CfAt w1 (.slice (some ⟨g,0,none⟩) k c) (cfs seed.data.toList k):=cf_rd hrd
 have c0:w1.cell? ⟨g,0,none⟩=some (.int .i64 (coefN seed.data.toList 0)):=by
  obtain⟨A,cap,e,h2⟩:=hcf
  simp only[Value.slice.injEq] at e
  obtain⟨rfl,_,rfl⟩:=e
  obtain⟨g2,o2,e2,_,h3⟩:=h2 0 (cfN seed.data.toList 0) (by unfold cfs;rw[List.getElem?_map,List.getElem?_range (by omega)];rfl)
  cases e2
  rw[←cfN_int]
  exact h3
 have HCF:=Lib.hid hcf
 have HO1:=Lib.hid (HX.out.trans ho1)
 have HB1:=Lib.hid (HB.out.only ho1 (fun e=>e))
 have hlen:(cfs seed.data.toList k).length =k:=cfs_len _ _
 have HSP:=Lib.hid (rsplit_sh (cfs seed.data.toList k) (cfs_lt _ _) (by rw[hlen];omega) n (by rw[hlen];omega) (by omega) _ w1 hcf)
 have HLEN:=Lib.hid hlen
 have hin:=coefN_in seed.data.toList 0
 obtain⟨key,ekey⟩:∃x,x=coefN seed.data.toList 0:=⟨_,rfl⟩
 rw[←ekey] at c0 hin
 have hq0:q0=1152921504606845789:=rfl
 have k0: -9223372036854775808≤key:=by omega
 have k1:key≤9223372036854775807:=by omega
 have C0:=Lib.hid c0
 have EK:=Lib.hid ekey
 have hkc1:1≤k:=hk
 clear hcf hrd ho1 c0 hlen hin ekey hq0
 go_wp2_with fail
 refine(HSP.out).mono ?_
 rintro e w2 ⟨sv,cv,rfl,hsv,hcv,ho2⟩
 rw[HLEN.out] at hcv
 obtain⟨A1,cp1,rfl,_,_⟩:=own_form' hsv
 obtain⟨A2,cp2,rfl,_,_⟩:=own_form' hcv
 have c2:=ho2.cell_some C0.out (fun e=>e)
 have HO2:=Lib.hid (HO1.out.trans ho2)
 have HB2:=Lib.hid (HB1.out.only ho2 (fun e=>e))
 have HSV:=Lib.hid hsv
 have HCV:=Lib.hid hcv
 have k00:(0:Int)<(k:Int):=by omega
 have k0n:0<k:=by omega
 clear hsv hcv ho2
 go_wp2_with fail
 refine(rseal_any key k0 k1 text (by omega) w2).mono ?_
 rintro e w3 ⟨t,rfl,htl,ho3⟩
 have et:t=boxT seed.data.toList text.data.toList:=boxT_of (by rw[htl,EK.out])
 have HET:=Lib.hid et
 have hb3:=HB2.out.only ho3 (fun e=>e)
 have r0:=hb3.cell 0
 have r1:=hb3.cell 1
 have f0:=hb3.frozen 0
 have f1:=hb3.frozen 1
 have HO3:=Lib.hid (HO2.out.trans ho3)
 have HSV3:=Lib.hid (OwnOf.keep HSV.out ho3 (fun _ _ e=>e))
 have HCV3:=Lib.hid (OwnOf.keep HCV.out ho3 (fun _ _ e=>e))
 have HB3:=Lib.hid hb3
 clear et htl ho3 hb3
 go_wp2_with fail
 have hRw:w.heap.size≤R:=by rw[ER.out];exact Nat.le_refl _
 have h4:Blk ((w3.setCell ⟨R,0,none⟩ (.string t)).setCell ⟨R,1,none⟩ (.slice A2 k cp2)) R tBox #[.string t,.slice A2 k cp2]:=(HB3.out.set_ 0 (.string t)).set_ 1 (.slice A2 k cp2)
 have ho4a:Only (·=R) w3 (w3.setCell ⟨R,0,none⟩ (.string t)):=(Only.refl (·=R) w3).setCell (p:=⟨R,0,none⟩) (.inl rfl) _
 have ho4:Only (·=R) w3 ((w3.setCell ⟨R,0,none⟩ (.string t)).setCell ⟨R,1,none⟩ (.slice A2 k cp2)):=ho4a.setCell (p:=⟨R,1,none⟩) (.inl rfl) _
 have hbt:∀{t' :TypeId} {v' :Value} {b:Nat} {α:Type} {cc:α→List Value} {kk n' :Nat} {P:List α},OwnOf t' cc kk w3 w1.heap.size v' n' P→v'.ownBlock=some b→b≠R:=fun h e hb=>by
  have h1:=(own_ge h e).1
  have h2:=HB1.out.lt
  omega
 refine bodyPost_ret (read_box rfl rfl rfl h4) rfl ⟨_,_,by rw[HET.out],?_,?_,?_⟩
 ·exact own_base (OwnOf.keep HCV3.out ho4 (fun b e hs=>hbt HCV3.out e hs)) HO1.out.size
 ·exact own_base (OwnOf.keep HSV3.out ho4 (fun b e hs=>hbt HSV3.out e hs)) HO1.out.size
 ·exact HO3.out.trans' ho4 (fun i hi e=>by have e' :i=R:=e;omega)
end Go.Proofs.YtpdlbmieciabmaaGreatDoor
namespace Go.Proofs.YtpdlbmieciabmaaGreatDoor
open Go.RowKit Go.Shelf
theorem bytes_of{t:ByteArray}{l:List UInt8}(h:t.data.toList=l):t=⟨l.toArray⟩:=by
 subst h
 rfl
end Go.Proofs.YtpdlbmieciabmaaGreatDoor
namespace Go.Proofs.YtpdlbmieciabmaaGreatDoor
open Go.RowKit
theorem family(S:World→Prop){W0:World}(h0:S W0):∃(I:Type) (f:I→World),Nonempty I∧(∃x,W0=f x)∧(∀W,S W↔∃x,W=f x)∧∀x,S (f x):=
 ⟨{W//S W},Subtype.val,⟨⟨W0,h0⟩⟩,⟨⟨W0,h0⟩,rfl⟩,fun W=>⟨fun h=>⟨⟨W,h⟩,rfl⟩,fun⟨x,hx⟩=>hx▸x.2⟩,fun x=>x.2⟩
theorem wp_region_family{P:Program}{id:Nat}{Q:Exit→Act→World→Prop}{a:Act}{w:World}{l:List Oper}{I:Type}(f:I→World)(hm:P.follows .mixedOrders =true)(hB:Region.lexB .any l.toArray=true)(hC:∃x,w.drew=f x)
  (h:wpQuiet P l.toArray (fun w' =>∃x,w' =f x) (fun a' =>∀w',(∃x,w' =f x)→Q .normal a' w') l a):(Code.region id l.toArray true).wp P Q a w:=
 wp_region_quiet (C:=fun w' =>∃x,w' =f x) hm hB hC (by simpa using h)
end Go.Proofs.YtpdlbmieciabmaaGreatDoor
