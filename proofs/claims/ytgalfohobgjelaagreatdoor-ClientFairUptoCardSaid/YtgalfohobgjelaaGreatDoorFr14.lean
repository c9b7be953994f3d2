/- What is proved here:several parts. several parts. the votes that count,by their officers,by the program. Conditions:the numbers are ints,roots have 32 bytes,there are few votes and persons;the table of powers of ten reads as its initialiser lays it. · how votes for heads are counted in a map:plain laws. No conditions. · the votes are counted by heads,by the program. Conditions:the numbers are ints,roots have 32 bytes,there are few votes and persons;the table of powers of ten reads as its initialiser lays it. · several parts. a head is certified,by the program. Conditions:the numbers are ints,roots have 32 bytes,there are few votes and persons;the table of powers of ten reads as its initialiser lays it. · a head is certified,by the reference. Conditions:the numbers are ints,roots have 32 bytes,there are few votes and persons. -/
import Derived.Test.YtgalfohobgjelaaGreatDoorFr10
import Derived.Test.YtgalfohobgjelaaGreatDoorFr12
import Derived.Test.YtgalfohobgjelaaGreatDoorFr13
import Derived.Laws.EntriesVeiled
namespace Go.Proofs.YtgalfohobgjelaaGreatDoor
open Go.RowKit Go.Shelf
structure GdS (w w1:World) (b kc:Nat) (O:List Pers) (k:Nat) (W:World):Prop where
 map:MapV W Tryz.prog 3 b k (keyF (O.take k))
 kb:Blk W kc tKm #[.map (some b)]
 only:Only NoneOf w W
 one:Only (fun j=>j=b) w1 W
theorem cell_map_ne {w:World} {P:Program} {k:TypeId} {b n g i:Nat} {f:Value→Option Value} {v:Value} (hm:MapV w P k b n f) (hc:w.cell? ⟨g,i,none⟩=some v):g≠b:=by
 rintro rfl
 obtain⟨D,⟨es,clock,hb,_⟩,_⟩:=hm
 simp [World.cell?,hb] at hc
theorem cntO_of {O:List Pers} (hO:O.Pairwise (fun p q=>p.id≠q.id)) {p:Pers} (hp:p∈O) (v:Vt):(cntO O v && v.who==p.id)=cnts p v:=by
 unfold cntO cnts
 cases hw:(v.who==p.id) with
 |false=>rw [Bool.and_false];rfl
 |true=>
  have hw':v.who=p.id:=by simpa using hw
  have hf:O.find? (fun q=>q.id==v.who)=some p:=by
   clear hw
   induction O with
   |nil=>cases hp
   |cons q l ih=>
    rw [List.find?_cons]
    obtain⟨h1,h2⟩:=List.pairwise_cons.1 hO
    rcases List.mem_cons.1 hp with rfl|hp'
    ·simp [hw']
    ·have hne:(q.id==v.who)=false:=by
      rw [hw'];simpa using h1 p hp'
     rw [hne]
     exact ih h2 hp'
  rw [hf];simp
set_option maxRecDepth 100000 in
set_option maxHeartbeats 4000000 in
theorem good_any (P:List Pers) (hP:PersOk P) (hlen:P.length≤1000) (pv:Value) (L:List Vt) (hok:VtsOk L) (hL:L.length≤100000) (sv:Value) (w:World) (hp:PerSl w pv P) (hs:VtSl w sv L) (ht:Tab w):
  Calls Tryz.prog 86 #[setV pv,sv] w fun e w'=> ∃b n f,e= .returned (.map (some b))∧n≤100000∧w.heap.size≤b∧GrpR w' 3 whoK b n (L.filter (cntO (offs P))) f∧Only NoneOf w w':=by
 have hO:PersOk (offs P):=hP.offs
 have hol:(offs P).length≤1000:=Nat.le_trans (offs_len P) hlen
 have hap:=offs_apart P
 obtain⟨O,eO⟩:∃O,O=offs P:=⟨_,rfl⟩
 have hqo:∀W,Only NoneOf w W→Calls Tryz.prog 87 #[setV pv] W fun e w'=> ∃ov,e= .returned ov∧PerSl w' ov O∧Only NoneOf W w':=fun W ho=>by rw [eO];exact qofficers_any P hP hlen pv W (hp.only ho)
 rw [←eO] at hO hol hap⊢
 unfold setV at hqo⊢
 obtain⟨B,eB⟩:∃B,B=w.heap.size:=⟨_,rfl⟩
 obtain⟨bm,ebm⟩:∃bm,bm=B+1:=⟨_,rfl⟩
 obtain⟨kc,ekc⟩:∃kc,kc=bm+1:=⟨_,rfl⟩
 obtain⟨X,eX⟩:∃X,X=((w.alloc (.cells #[pv,.int .i64 0,.slice none 0 0,.slice none 0 0,.int .i64 0,.int .i64 0] 50)).alloc (.map #[] 0)).alloc (.cells #[.map (some bm)] 188):=⟨_,rfl⟩
 have x1:MapV X Tryz.prog 3 bm 0 (keyF []):=by
  have h1:=MapV.made (w.alloc (.cells #[pv,.int .i64 0,.slice none 0 0,.slice none 0 0,.int .i64 0,.int .i64 0] 50)) Tryz.prog 3
  rw [World.size_alloc,←eB,←ebm] at h1
  rw [eX];exact h1.only ((Only.refl NoneOf _).alloc _) (fun e=>e)
 have x2:Blk X kc tKm #[.map (some bm)]:=by
  have h2:=Blk.new ((w.alloc (.cells #[pv,.int .i64 0,.slice none 0 0,.slice none 0 0,.int .i64 0,.int .i64 0] 50)).alloc (.map #[] 0)) tKm #[.map (some bm)]
  rw [World.size_alloc,World.size_alloc,←eB,←ebm,←ekc] at h2
  rw [eX];exact h2
 have x3:Only NoneOf w X:=by rw [eX];exact(((Only.refl _ _).alloc _).alloc _).alloc _
 have x0:X.cell? ⟨B,0,none⟩=some pv∧X.cell? ⟨B,1,none⟩=some (.int .i64 0)∧X.cell? ⟨B,2,none⟩=some (.slice none 0 0)∧X.cell? ⟨B,3,none⟩=some (.slice none 0 0)∧X.cell? ⟨B,4,none⟩=some (.int .i64 0)∧X.cell? ⟨B,5,none⟩=some (.int .i64 0):=by
  have h3:Blk X B 50 #[pv,.int .i64 0,.slice none 0 0,.slice none 0 0,.int .i64 0,.int .i64 0]:=by rw [eX,eB];exact((Blk.new w _ _).alloc _).alloc _
  exact⟨h3.cell 0,h3.cell 1,h3.cell 2,h3.cell 3,h3.cell 4,h3.cell 5⟩
 have hwb:w.heap.size≤bm:=by omega
 have X0:=Lib.hid x0
 have X1:=Lib.hid x1
 have X2:=Lib.hid x2
 have X3:=Lib.hid x3
 have EX:=Lib.hid eX
 have EB:=Lib.hid eB
 have EBM:=Lib.hid ebm
 have EKC:=Lib.hid ekc
 have HQO:=Lib.hid hqo
 have HPO:=Lib.hid hO
 have HOK:=Lib.hid hok
 have HSV:=Lib.hid hs
 have HT:=Lib.hid ht
 have HAP:=Lib.hid hap
 clear x0 x1 x2 x3 eX eB ebm ekc hqo hO hok hs ht hap hp hP eO hlen
 have hmm:= @run_makeMap Tryz.prog
 go_enter Tryz.func86,Tryz.ntmps86
 go_upto_region 2 with(fail)
 rw [←EB.out,←EBM.out,←EKC.out,←EX.out]
 clear hmm
 obtain⟨x0,xa,xb,xc,xd,xe⟩:=X0.out
 go_wp2_with fail
 refine(HQO.out _ X3.out).mono ?_
 rintro e1 w1 ⟨ov,rfl,hov,ho1⟩
 obtain⟨A,cap,rfl,hlc,hcm,hA⟩:=hov
 have hs0:GdS w w1 bm kc O 0 w1:=⟨X1.out.only ho1 (fun e=>e),X2.out.only ho1 (fun e=>e),X3.out.trans ho1,Only.refl _ _⟩
 have HS0:=Lib.hid hs0
 have HA:=Lib.hid hA
 clear hs0 hA ho1 x0 xa xb xc xd xe
 go_wp2_with fail
 go_loopw [7,13] (fun _ i wr=> ∃k:Nat,i= .int .i64 k∧k≤O.length∧GdS w w1 bm kc O k wr) (fun _ i _=>O.length - (intOf i).toNat)
 case atStart=>exact⟨0,rfl,Nat.zero_le _,HS0.out⟩
 case round=>
  obtain⟨k,rfl,hk,hS⟩:=hrel
  by_cases hlt:k<O.length
  ·obtain⟨p,hp⟩:∃p,O[k]? =some p:=⟨_,List.getElem?_eq_getElem hlt⟩
   obtain⟨g,o,hA',hg,hr⟩:=HA.out k p hp
   subst hA'
   have hpo:=HPO.out p (List.mem_of_getElem? hp)
   have d0:w1.cell? ⟨g,o+k * 3,none⟩=some (.int .i64 p.id):=hr 0 _ rfl
   have hgb:g≠bm:=cell_map_ne HS0.out.map d0
   have c0:wr.cell? ⟨g,o+k * 3,none⟩=some (.int .i64 p.id):=hS.one.cell_some d0 hgb
   have c1:wr.cell? ⟨g,o+k * 3+1,none⟩=some (.int .i64 p.role):=hS.one.cell_some (hr 1 _ rfl) hgb
   have c2:wr.cell? ⟨g,o+k * 3+2,none⟩=some (.int .i64 p.pub):=hS.one.cell_some (hr 2 _ rfl) hgb
   have ck:∀o,(wr.alloc o).cell? ⟨kc,0,none⟩=some (.map (some bm)):=fun o=> (hS.kb.alloc o).cell 0
   have ik:(k:Int) < (O.length:Int):=by omega
   have htk:O.take (k+1)=O.take k++ [p]:=by rw [List.take_add_one,hp,Option.toList_some]
   have hne:∀q∈O.take k,q.id≠p.id:=fun q hq=>by
    obtain⟨i,hi⟩:=List.getElem?_of_mem hq
    have hi2:i<k:=by
     have:=(List.getElem?_eq_some_iff.1 hi).1
     rw [List.length_take] at this;omega
    rw [List.getElem?_take,if_pos hi2] at hi
    have hi3:=(List.getElem?_eq_some_iff.1 hi)
    have hk3:=(List.getElem?_eq_some_iff.1 hp)
    have:=List.pairwise_iff_getElem.1 HAP.out i k hi3.1 hk3.1 hi2
    rw [hi3.2,hk3.2] at this
    exact this
   have hckb:kc≠bm:=by have:=EKC.out;omega
   have hm1:∀o,MapV (wr.alloc o) Tryz.prog 3 bm k (keyF (O.take k)):=fun o=>hS.map.only ((Only.refl NoneOf _).alloc o) (fun e=>e)
   have HM1:=Lib.hid hm1
   have HKEY:=Lib.hid (key_int hpo.id)
   have HS:=Lib.hid hS
   have HTK:=Lib.hid htk
   have HNE:=Lib.hid hne
   clear hS htk hne hr hm1 d0 hp
   go_wp2_with (first
    |(at_mapUpdate;refine wpList_put _ rfl _ _ _ 188 rfl 3 3 int_law Tryz.underlying188 bm k _ rfl (HM1.out _) (by rw [maxLen_val];omega) _ _ _ rfl rfl HKEY.out ?_;intro w2 hown2 hgrow2))
   have hnew:GdS w w1 bm kc O (k+1) w2:=by
    refine⟨?_,(HS.out.kb.alloc _).grown hgrow2 (fun e=>hckb (Option.some.inj e)),(HS.out.only.alloc _).grown hgrow2 (fun j e=>by cases e;exact .inr hwb),(HS.out.one.alloc _).grown hgrow2 (fun j e=>by cases e;exact .inl rfl)⟩
    rw [HTK.out]
    exact hown2.congr (keyF_put HNE.out)
   have HNEW:=Lib.hid hnew
   clear hown2 hgrow2 hnew c0 c1 c2 ck
   go_roundw
   case rel=>exact⟨k+1,by go_num,by omega,HNEW.out⟩
   case measure=>simp [intOf];omega
  ·obtain rfl:k=O.length:=by omega
   have hmp:=hS.map
   rw [List.take_length] at hmp
   have hkb:=hS.kb
   have hO:=hS.only
   obtain⟨cc,ecc⟩:∃cc,cc=wr.heap.size:=⟨_,rfl⟩
   obtain⟨V,eV⟩:∃V,V=wr.alloc (.cells #[.func (.func 130) #[] #[.pointer (some ⟨kc,0,none⟩)]] 137):=⟨_,rfl⟩
   have hVo:Only NoneOf wr V:=by rw [eV];exact(Only.refl _ _).alloc _
   have hVk:KeyS V O kc cc bm O.length:=⟨hmp.only hVo (fun e=>e),hkb.only hVo (fun e=>e),by rw [eV,ecc];exact Blk.new wr _ _,HT.out.none (hO.trans hVo)⟩
   have HV:=Lib.hid hVo
   have HVK:=Lib.hid hVk
   have HO:=Lib.hid hO
   have ECC:=Lib.hid ecc
   have EV:=Lib.hid eV
   clear hS hmp hkb hO hVo hVk ecc eV
   go_upto_region 8 with(fail)
   rw [←ECC.out,←EV.out]
   go_wp2_with fail
   refine(clone_any L HOK.out hL sv V (HSV.out.only (HO.out.trans HV.out))).mono ?_
   rintro e2 w2 ⟨rv,rfl,hown2,ho2⟩
   have HOWN2:=Lib.hid hown2
   have HO2:=Lib.hid ho2
   clear hown2 ho2
   go_wp2_with fail
   refine(delfunc_any O HPO.out L HOK.out hL rv kc cc bm O.length V w2 (HT.out.none (HO.out.trans HV.out)) HO2.out HOWN2.out (HVK.out.only HO2.out)).mono ?_
   rintro e3 w3 ⟨dv,rfl,hown3,ho3⟩
   have hok3:VtsOk (L.filter (cntO O)):=fun x hx=>HOK.out x (List.mem_filter.1 hx).1
   have hl3:(L.filter (cntO O)).length≤100000:=Nat.le_trans (List.length_filter_le _ _) hL
   have hsl3:VtSl w3 dv (L.filter (cntO O)):=VtOwn.sl hown3 hok3
   have HSL3:=Lib.hid hsl3
   have HOK3:=Lib.hid hok3
   have HO3:=Lib.hid ho3
   clear hown3 ho3 hok3 hsl3
   go_wp2_with fail
   refine(gwho_any (L.filter (cntO O)) HOK3.out hl3 dv w3 HSL3.out).mono ?_
   rintro e4 w4 ⟨b4,n4,f4,rfl,hn4,hb4,hr4,ho4⟩
   have hwb4:w.heap.size≤b4:=Nat.le_trans ((HO.out.trans HV.out).trans HO3.out).size hb4
   have HR4:=Lib.hid hr4
   have HO4:=Lib.hid (((HO.out.trans HV.out).trans HO3.out).trans ho4)
   clear hr4 ho4
   go_wp2_with fail
   go_ret
   exact⟨b4,n4,f4,rfl,hn4,hwb4,HR4.out,HO4.out⟩
end Go.Proofs.YtgalfohobgjelaaGreatDoor
namespace Go.Proofs.YtgalfohobgjelaaGreatDoor
open Go.RowKit
def hdV (h:Hd):Value:= .agg (hdC h).toArray
theorem bv_inj {x y:UInt8} (h:bv x=bv y):x=y:=by
 unfold bv at h
 simp only [Value.int.injEq,true_and] at h
 exact UInt8.toNat_inj.1 (by omega)
theorem map_bv_inj:∀{l m:List UInt8},l.map bv=m.map bv→l=m
 | [], [],_=>rfl
 | [],y::m,h=>by simp at h
 |x::l, [],h=>by simp at h
 |x::l,y::m,h=>by
  simp only [List.map_cons,List.cons.injEq] at h
  rw [bv_inj h.1,map_bv_inj h.2]
theorem hdV_inj {a b:Hd} (h:hdV a=hdV b):a=b:=by
 unfold hdV at h
 have h':hdC a=hdC b:=by simpa using h
 unfold hdC at h'
 obtain⟨h1,h2⟩:=List.cons.inj h'
 injection h1 with _ h1
 have h3:=map_bv_inj h2
 obtain⟨a1,a2⟩:=a
 obtain⟨b1,b2⟩:=b
 simp only at h1 h3
 rw [h1,h3]
theorem eqv_hd (a b:Hd):eqv (hdV a) (hdV b)=eqHd a b:=by
 rw [Bool.eq_iff_iff,eqv_true,eqHd_true]
 exact⟨hdV_inj,fun h=>by rw [h]⟩
noncomputable def cntF (c:Hd→Nat) (H:List Hd):Value→Option Value:=fun x=> (H.find? (fun h=>eqv x (hdV h) && decide (0<c h))).map (fun h=> .int .i64 (c h:Int))
theorem cntF_hd {c:Hd→Nat} {H:List Hd} {h:Hd} (hh:h∈H):cntF c H (hdV h)=if 0<c h then some (.int .i64 (c h:Int)) else none:=by
 unfold cntF
 by_cases hc:0<c h
 ·rw [if_pos hc]
  cases hf:H.find? (fun h'=>eqv (hdV h) (hdV h') && decide (0<c h')) with
  |none=>
   have:=List.find?_eq_none.1 hf h hh
   simp [eqv_self,hc] at this
  |some g=>
   have:=List.find?_some hf
   simp only [Bool.and_eq_true,eqv_true] at this
   rw [←hdV_inj this.1]
   rfl
 ·rw [if_neg hc]
  have:H.find? (fun h'=>eqv (hdV h) (hdV h') && decide (0<c h'))=none:=by
   rw [List.find?_eq_none]
   intro g _
   simp only [Bool.and_eq_true,eqv_true,decide_eq_true_eq,not_and]
   intro e
   rw [←hdV_inj e];exact hc
  rw [this];rfl
theorem cntF_some {c:Hd→Nat} {H:List Hd} {x v:Value} (h:cntF c H x=some v):∃g∈H,x=hdV g∧v= .int .i64 (c g:Int)∧0<c g:=by
 unfold cntF at h
 cases hf:H.find? (fun h'=>eqv x (hdV h') && decide (0<c h')) with
 |none=>rw [hf] at h;cases h
 |some g=>
  rw [hf] at h
  have h1:=List.find?_some hf
  simp only [Bool.and_eq_true,eqv_true,decide_eq_true_eq] at h1
  simp only [Option.map_some,Option.some.injEq] at h
  exact⟨g,List.mem_of_find?_eq_some hf,h1.1,h.symm,h1.2⟩
noncomputable def inc1 (c:Hd→Nat) (h:Hd):Hd→Nat:=fun g=>if eqHd g h then c g+1 else c g
theorem cntF_ext {c d:Hd→Nat} {H:List Hd} (h:∀g∈H,c g=d g) (x:Value):cntF c H x=cntF d H x:=by
 unfold cntF
 have e:H.find? (fun g=>eqv x (hdV g) && decide (0<c g))=H.find? (fun g=>eqv x (hdV g) && decide (0<d g)):=by
  induction H with
  |nil=>rfl
  |cons a l ih=>
   rw [List.find?_cons,List.find?_cons,h a (by simp),ih (fun g hg=>h g (by simp [hg]))]
 rw [e]
 cases hf:H.find? (fun g=>eqv x (hdV g) && decide (0<d g)) with
 |none=>rfl
 |some g=>simp only [Option.map_some];rw [h g (List.mem_of_find?_eq_some hf)]
theorem cntF_put {c:Hd→Nat} {H:List Hd} {h:Hd} (hh:h∈H) (x:Value):put1 (cntF c H) (hdV h) (.int .i64 ((c h:Int) +1)) x=cntF (inc1 c h) H x:=by
 by_cases e:x=hdV h
 ·subst e
  rw [put1_same,cntF_hd hh]
  unfold inc1
  rw [if_pos (eqHd_true.2 rfl),if_pos (by omega)]
  rfl
 ·rw [put1_other e]
  unfold cntF
  have e1:∀g,eqv x (hdV g)=true→inc1 c h g=c g:=fun g hg=>by
   unfold inc1
   rw [if_neg]
   intro h1
   rw [eqHd_true.1 h1] at hg
   exact e (eqv_true.1 hg)
  have e2:H.find? (fun g=>eqv x (hdV g) && decide (0<c g))=H.find? (fun g=>eqv x (hdV g) && decide (0<inc1 c h g)):=by
   congr 1
   funext g
   cases hg:eqv x (hdV g) with
   |false=>rfl
   |true=>rw [e1 g hg]
  rw [e2]
  cases hf:H.find? (fun g=>eqv x (hdV g) && decide (0<inc1 c h g)) with
  |none=>rfl
  |some g=>
   have:=List.find?_some hf
   simp only [Bool.and_eq_true] at this
   simp only [Option.map_some]
   rw [e1 g this.1]
noncomputable def hasV (L:List Vt) (p:Pers) (h:Hd):Bool:=L.any (fun v=>eqHd v.head h && cnts p v)
theorem votesFor_eq (O:List Pers) (L:List Vt) (h:Hd):votesFor O L h=O.countP (fun p=>hasV L p h):=rfl
def idV (p:Pers):Value:= .int .i64 p.id
noncomputable def cDone (O:List Pers) (L:List Vt) (left:Value→Bool) (h:Hd):Nat:=O.countP (fun p=> !left (idV p) && hasV L p h)
noncomputable def cIn (O:List Pers) (L:List Vt) (left:Value→Bool) (p:Pers) (left2:Value→Bool) (h:Hd):Nat:=cDone O L left h+if !left2 (hdV h) && hasV L p h then 1 else 0
theorem cDone_end {O:List Pers} {L:List Vt} {left:Value→Bool} (h:∀p∈O,∀g,hasV L p g=true→left (idV p)=false) (g:Hd):cDone O L left g=votesFor O L g:=by
 rw [votesFor_eq]
 unfold cDone
 apply List.countP_congr
 intro p hp
 constructor
 ·intro h1;exact(Bool.and_eq_true _ _▸h1).2
 ·intro h1;rw [h p hp g h1];simpa using h1
theorem cDone_zero {O:List Pers} {L:List Vt} {left:Value→Bool} (h:∀p∈O,∀g,hasV L p g=true→left (idV p)=true) (g:Hd):cDone O L left g=0:=by
 unfold cDone
 rw [List.countP_eq_zero]
 intro p hp h1
 simp only [Bool.and_eq_true,Bool.not_eq_true'] at h1
 rw [h p hp g h1.2] at h1
 exact Bool.noConfusion h1.1
theorem cDone_step {O:List Pers} (hO:O.Pairwise (fun p q=>p.id≠q.id)) {L:List Vt} {left:Value→Bool} {p:Pers} (hp:p∈O) (hl:left (idV p)=true) (g:Hd):
  cDone O L (fun x=>left x && !eqv x (idV p)) g=cDone O L left g+if hasV L p g then 1 else 0:=by
 unfold cDone
 induction O with
 |nil=>cases hp
 |cons q l ih=>
  obtain⟨h1,h2⟩:=List.pairwise_cons.1 hO
  rw [List.countP_cons,List.countP_cons]
  rcases List.mem_cons.1 hp with rfl|hp'
  ·have hrest:l.countP (fun r=> !(left (idV r) && !eqv (idV r) (idV p)) && hasV L r g)=l.countP (fun r=> !left (idV r) && hasV L r g):=by
    apply List.countP_congr
    intro r hr
    have hne:eqv (idV r) (idV p)=false:=by
     unfold idV;rw [eqv_int]
     simpa using h1 r hr
    rw [hne,Bool.not_false,Bool.and_true]
   rw [hrest]
   simp [hl,eqv_self]
  ·have hne:eqv (idV q) (idV p)=false:=by
    unfold idV;rw [eqv_int]
    simpa using fun e=>h1 p hp' e.symm
   rw [ih h2 hp']
   simp only [hne,Bool.not_false,Bool.and_true]
   omega
theorem hasV_iff {L:List Vt} {p:Pers} {h:Hd}:hasV L p h=true ↔ ∃v∈L,v.head=h∧cnts p v=true:=by
 unfold hasV
 rw [List.any_eq_true]
 constructor
 ·rintro⟨v,hv,h1⟩
  simp only [Bool.and_eq_true,eqHd_true] at h1
  exact⟨v,hv,h1⟩
 ·rintro⟨v,hv,h1,h2⟩
  exact⟨v,hv,by rw [h2,Bool.and_true,eqHd_true];exact h1⟩
theorem cIn_start {O:List Pers} {L:List Vt} {left:Value→Bool} {p:Pers} {left2:Value→Bool} (h:∀g,hasV L p g=true→left2 (hdV g)=true) (g:Hd):cIn O L left p left2 g=cDone O L left g:=by
 unfold cIn
 rw [if_neg]
 ·rfl
 ·intro h1
  simp only [Bool.and_eq_true,Bool.not_eq_true'] at h1
  rw [h g h1.2] at h1
  exact Bool.noConfusion h1.1
theorem cIn_step {O:List Pers} {L:List Vt} {left:Value→Bool} {p:Pers} {left2:Value→Bool} {h:Hd} (hv:hasV L p h=true) (hl:left2 (hdV h)=true) (g:Hd):
  cIn O L left p (fun x=>left2 x && !eqv x (hdV h)) g=inc1 (cIn O L left p left2) h g:=by
 unfold inc1
 cases e:eqHd g h with
 |true=>
  have:=eqHd_true.1 e
  subst this
  rw [if_pos rfl]
  unfold cIn
  simp [hl,eqv_self,hv]
 |false=>
  rw [if_neg (by simp)]
  unfold cIn
  simp [eqv_hd,e]
theorem cIn_end {O:List Pers} (hO:O.Pairwise (fun p q=>p.id≠q.id)) {L:List Vt} {left:Value→Bool} {p:Pers} {left2:Value→Bool} (hp:p∈O) (hlp:left (idV p)=true) (h:∀g,hasV L p g=true→left2 (hdV g)=false) (g:Hd):cIn O L left p left2 g=cDone O L (fun x=>left x && !eqv x (idV p)) g:=by
 rw [cDone_step hO hp hlp]
 unfold cIn
 cases hv:hasV L p g with
 |false=>simp
 |true=>rw [h g hv];simp
end Go.Proofs.YtgalfohobgjelaaGreatDoor
namespace Go.Proofs.YtgalfohobgjelaaGreatDoor
open Go.RowKit Go.Shelf
open Go.Maps (Keyed)
attribute [local go_sem ↓ high] hdLoad_eq hdNew_eq hdStore_eq
theorem VtSl.onlyM {w w':World} {S:Nat→Prop} {v:Value} {L:List Vt} (h:VtSl w v L) (ho:Only S w w') (hS:∀j,S j→∀i u,w.cell? ⟨j,i,none⟩=some u→False):VtSl w' v L:=by
 obtain⟨A,cap,hv,h1,h2,h3⟩:=h
 refine⟨A,cap,hv,h1,h2,fun i p hp=> ?_⟩
 obtain⟨g,o,hA,hg,hr⟩:=h3 i p hp
 exact⟨g,o,hA,Nat.lt_of_lt_of_le hg ho.size,fun j u hj=>ho.cell_some (hr j u hj) (fun hs=>hS g hs _ u (hr j u hj))⟩
theorem map_no_cell {w:World} {P:Program} {k:TypeId} {b n:Nat} {f:Value→Option Value} (hm:MapV w P k b n f):∀i u,w.cell? ⟨b,i,none⟩=some u→False:=fun _ _ hc=>cell_map_ne hm hc rfl
theorem cIn_le (O:List Pers) (L:List Vt) (left:Value→Bool) (p:Pers) (left2:Value→Bool) (h:Hd):cIn O L left p left2 h≤O.length+1:=by
 unfold cIn cDone
 have:=List.countP_le_length (p:=fun p=> !left (idV p) && hasV L p h) (l:=O)
 split<;>omega
theorem World.grownBy.refl (w:World) (row:Option Nat):w.grownBy w row:=⟨rfl,rfl,rfl,Nat.le_refl _,fun _ _ _=>rfl⟩
structure BaS (w0 w:World) (bO bG rO nG:Nat) (O:List Pers) (L:List Vt) (f:Value→Option Value) (left:Value→Bool) (cnt:Nat) (W:World):Prop where
 out:∃n,MapV W Tryz.prog 37 bO n (cntF (cDone O L left) (L.map (·.head)))∧n+100001 * cnt≤10000300002
 grp:RangeV W Tryz.prog 3 bG rO nG f left cnt
 one:Only (fun j=>j=bO) w W
 only:Only NoneOf w0 W
 sub:∀x,left x=true→f x≠none
structure BiS (w0 w:World) (bO bG rO nG bI rI nI:Nat) (O:List Pers) (L:List Vt) (f:Value→Option Value) (left:Value→Bool) (cnt:Nat) (p:Pers) (f2:Value→Option Value) (left2:Value→Bool) (cnt2:Nat) (W:World):Prop where
 out:∃n,MapV W Tryz.prog 37 bO n (cntF (cIn O L left p left2) (L.map (·.head)))∧n+cnt2+100001 * cnt≤10000300001
 grp:RangeV W Tryz.prog 3 bG rO nG f (fun x=>left x && !eqv x (idV p)) cnt
 inn:RangeV W Tryz.prog 37 bI rI nI f2 left2 cnt2
 one:Only (fun j=>j=bO) w W
 only:Only NoneOf w0 W
set_option maxRecDepth 100000 in
set_option maxHeartbeats 4000000 in
theorem ballots_any (P:List Pers) (hP:PersOk P) (hlen:P.length≤1000) (pv:Value) (L:List Vt) (hok:VtsOk L) (hL:L.length≤100000) (sv:Value) (w:World) (hp:PerSl w pv P) (hs:VtSl w sv L) (ht:Tab w):
  Calls Tryz.prog 124 #[setV pv,sv] w fun e w'=> ∃b n,e= .returned (.map (some b))∧n<maxLen∧MapV w' Tryz.prog 37 b n (cntF (votesFor (offs P) L) (L.map (·.head)))∧Only NoneOf w w':=by
 have hgd:∀W,Only NoneOf w W→Calls Tryz.prog 86 #[setV pv,sv] W fun e w'=> ∃b n f,e= .returned (.map (some b))∧n≤100000∧W.heap.size≤b∧GrpR w' 3 whoK b n (L.filter (cntO (offs P))) f∧Only NoneOf W w':=fun W ho=>good_any P hP hlen pv L hok hL sv W (hp.only ho) (hs.only ho) (ht.none ho)
 have hap:=offs_apart P
 have hol:(offs P).length≤1000:=Nat.le_trans (offs_len P) hlen
 obtain⟨O,eO⟩:∃O,O=offs P:=⟨_,rfl⟩
 rw [←eO] at hgd hap hol⊢
 unfold setV at hgd⊢
 obtain⟨B,eB⟩:∃B,B=w.heap.size:=⟨_,rfl⟩
 obtain⟨bO,ebO⟩:∃bO,bO=B+1:=⟨_,rfl⟩
 obtain⟨X,eX⟩:∃X,X=(w.alloc (.cells #[pv,.int .i64 0,.slice none 0 0,.slice none 0 0,.int .i64 0,.int .i64 0] 50)).alloc (.map #[] 0):=⟨_,rfl⟩
 have x1:MapV X Tryz.prog 37 bO 0 (fun _=>none):=by
  have h1:=MapV.made (w.alloc (.cells #[pv,.int .i64 0,.slice none 0 0,.slice none 0 0,.int .i64 0,.int .i64 0] 50)) Tryz.prog 37
  rw [World.size_alloc,←eB,←ebO] at h1
  rw [eX];exact h1
 have x3:Only NoneOf w X:=by rw [eX];exact((Only.refl _ _).alloc _).alloc _
 have x0:X.cell? ⟨B,0,none⟩=some pv∧X.cell? ⟨B,1,none⟩=some (.int .i64 0)∧X.cell? ⟨B,2,none⟩=some (.slice none 0 0)∧X.cell? ⟨B,3,none⟩=some (.slice none 0 0)∧X.cell? ⟨B,4,none⟩=some (.int .i64 0)∧X.cell? ⟨B,5,none⟩=some (.int .i64 0):=by
  have h3:Blk X B 50 #[pv,.int .i64 0,.slice none 0 0,.slice none 0 0,.int .i64 0,.int .i64 0]:=by rw [eX,eB];exact(Blk.new w _ _).alloc _
  exact⟨h3.cell 0,h3.cell 1,h3.cell 2,h3.cell 3,h3.cell 4,h3.cell 5⟩
 have hXs:X.heap.size=bO+1:=by rw [eX,World.size_alloc,World.size_alloc];omega
 have hwb:w.heap.size≤bO:=by omega
 have X0:=Lib.hid x0
 have X1:=Lib.hid x1
 have X3:=Lib.hid x3
 have HXS:=Lib.hid hXs
 have EX:=Lib.hid eX
 have EB:=Lib.hid eB
 have EBO:=Lib.hid ebO
 have HGD:=Lib.hid hgd
 have HOK:=Lib.hid hok
 have HAP:=Lib.hid hap
 clear x0 x1 x3 hXs eX eB ebO hgd hok ht hap hp hs hP hlen
 have hmm:= @run_makeMap Tryz.prog
 go_enter Tryz.func124,Tryz.ntmps124
 go_upto_region 2 with(fail)
 rw [←EB.out,←EBO.out,←EX.out]
 clear hmm
 obtain⟨x0,xa,xb,xc,xd,xe⟩:=X0.out
 go_wp2_with fail
 refine(HGD.out _ X3.out).mono ?_
 rintro e1 w1 ⟨bG,nG,f,rfl,hnG,hbG,hgr,ho1⟩
 have HO1:=Lib.hid ho1
 have HGR:=Lib.hid hgr
 have HBG:=Lib.hid hbG
 clear ho1 hgr hbG x0 xa xb xc xd xe HGD
 go_wp2_with (at_range;refine wpList_rangeV _ rfl _ 142 rfl 3 32 int_law Tryz.underlying142 bG nG f rfl HGR.out.1 ?_;intro w2 cnt0 hrg0 hO2 hsz2)
 obtain⟨rO,erO⟩:∃rO,rO=w1.heap.size:=⟨_,rfl⟩
 rw [←erO] at hrg0⊢
 have hbOG:bO≠bG:=by have:=HXS.out;have:=HBG.out;omega
 have hrOb:rO≠bO:=by have:=HXS.out;have:=HO1.out.size;omega
 have hdom:∀x v,f x=some v→∃p∈O,x=idV p∧∀W,Only (fun j=>j=bO) w1 W→VtSl W v (L.filter (cnts p)):=fun x v hx=>by
  obtain⟨_,hd,hsl⟩:=HGR.out
  have h1:¬∀u∈L.filter (cntO O),whoK u≠x:=fun h=>by rw [(hd x).2 h] at hx;cases hx
  have h1':∃u∈L.filter (cntO O),whoK u=x:=by
   apply Classical.byContradiction
   intro h;exact h1 (fun u hu e=>h ⟨u,hu,e⟩)
  obtain⟨u,hu,hux⟩:=h1'
  obtain⟨hu1,hu2⟩:=List.mem_filter.1 hu
  unfold cntO at hu2
  cases hf:O.find? (fun p=>p.id==u.who) with
  |none=>rw [hf] at hu2;cases hu2
  |some p=>
   have hpm:=List.mem_of_find?_eq_some hf
   have hpi:p.id=u.who:=by simpa using List.find?_some hf
   have hxp:x=idV p:=by rw [←hux];unfold whoK idV;rw [hpi]
   refine⟨p,hpm,hxp,fun W ho=> ?_⟩
   have h2:=hsl x v hx
   have h3:grp whoK (L.filter (cntO O)) x=L.filter (cnts p):=by
    unfold grp
    rw [List.filter_filter]
    apply List.filter_congr
    intro y _
    rw [hxp,←cntO_of HAP.out hpm y,Bool.and_comm]
    unfold whoK idV
    rw [eqv_int,Bool.eq_iff_iff]
    simp only [Bool.and_eq_true,beq_iff_eq]
    exact⟨fun h=> ⟨h.1,h.2.symm⟩,fun h=> ⟨h.1,h.2.symm⟩⟩
   rw [h3] at h2
   exact h2.onlyM ho (fun j hj i u hc=>by subst hj;exact map_no_cell (X1.out.only HO1.out (fun e=>e)) i u hc)
 have hdom2:∀p∈O,∀g,hasV L p g=true→f (idV p)≠none:=fun p hpm g hv hn=>by
  obtain⟨v,hv1,_,hv2⟩:=hasV_iff.1 hv
  obtain⟨_,hd,_⟩:=HGR.out
  have hc:cntO O v=true∧v.who=p.id:=by
   rw [←cntO_of HAP.out hpm v] at hv2
   simpa using hv2
  exact(hd (idV p)).1 hn v (List.mem_filter.2 ⟨hv1,hc.1⟩) (by unfold whoK idV;rw [hc.2])
 have hs0:BaS w w1 bO bG rO nG O L f (fun x=> (f x).isSome) cnt0 w2:=by
  refine⟨⟨0,?_,by have:=hrg0.cnt_le;omega⟩,hrg0,hO2.mono (fun _ _ h=>h.elim),(X3.out.trans HO1.out).trans hO2,fun x hx hn=>by rw [hn] at hx;cases hx⟩
  have h1:MapV w2 Tryz.prog 37 bO 0 (fun _=>none):=X1.out.only (HO1.out.trans hO2) (fun e=>e)
  refine h1.congr (fun x=> ?_)
  rw [cntF_ext (d:=fun _=>0) (fun g _=>cDone_zero (fun p hp g' hv=>by
   have:=hdom2 p hp g' hv
   cases hf:f (idV p) with
   |none=>exact(this hf).elim
   |some _=>rfl) g)]
  unfold cntF
  rw [List.find?_eq_none.2 (by simp)]
  rfl
 have HS0:=Lib.hid hs0
 have HDOM:=Lib.hid hdom
 have HDOM2:=Lib.hid hdom2
 have HRO:=Lib.hid erO
 clear hs0 hdom hdom2 hrg0 hO2 hsz2 erO
 go_frame
 go_loopw [7,8] (fun _ _ wr=> ∃left cnt,BaS w w1 bO bG rO nG O L f left cnt wr) (fun _ _ wr=>wr.rangeLeft bG rO)
 case atStart=>exact⟨_,_,HS0.out⟩
 case round=>
  obtain⟨left,cnt,hS⟩:=hrel
  have HS:=Lib.hid hS
  clear hS
  go_wp2_with (at_next;refine wpList_nextV _ rfl _ rfl 3 int_law bG rO nG f left cnt rfl HS.out.grp ?_ ?_)
  ·intro hc0 hl0
   obtain⟨n,hm,hn⟩:=HS.out.out
   have hfin:MapV wr Tryz.prog 37 bO n (cntF (votesFor O L) (L.map (·.head))):=hm.congr (fun x=>cntF_ext (fun g _=>cDone_end (fun p hp g' hv=>hl0 _ (HDOM2.out p hp g' hv)) g) x)
   have HFIN:=Lib.hid hfin
   have HN:Hid (n<maxLen):=Lib.hid (by rw [maxLen_val];omega)
   clear hfin hm hn hl0 hc0
   go_wp2_with fail
   go_ret
   exact⟨bO,n,rfl,HN.out,HFIN.out,HS.out.only⟩
  ·intro key v w3 cnt' hfk hlk hrg hlt hgr3 hsz3 hen
   obtain⟨p,hpO,rfl,hslW⟩:=HDOM.out key v hfk
   have hrOw:w1.heap.size≤rO:=by rw [HRO.out];exact Nat.le_refl _
   have hone3:Only (fun j=>j=bO) w1 w3:=HS.out.one.grown hgr3 (fun j e=>by cases e;exact .inr hrOw)
   have honly3:Only NoneOf w w3:=HS.out.only.grown hgr3 (fun j e=>by cases e;exact .inr (Nat.le_trans (X3.out.trans HO1.out).size hrOw))
   have hsl3:=hslW w3 hone3
   have hok3:VtsOk (L.filter (cnts p)):=fun x hx=>HOK.out x (List.mem_filter.1 hx).1
   have hl3:(L.filter (cnts p)).length≤100000:=Nat.le_trans (List.length_filter_le _ _) hL
   have hgh:=ghead_any (L.filter (cnts p)) hok3 hl3 v w3 hsl3
   obtain⟨n,hm,hn⟩:=HS.out.out
   have hm3:MapV w3 Tryz.prog 37 bO n (cntF (cDone O L left) (L.map (·.head))):=hm.grown hgr3 (fun e=>hrOb (Option.some.inj e).symm)
   have hsub:=HS.out.sub
   have HM3:=Lib.hid hm3
   have HN:=Lib.hid hn
   have HRG:=Lib.hid hrg
   have HONE3:=Lib.hid hone3
   have HONLY3:=Lib.hid honly3
   have HGH:=Lib.hid hgh
   have HPO:=Lib.hid hpO
   have HLK:=Lib.hid hlk
   have HFK:=Lib.hid hfk
   have HSUB:=Lib.hid hsub
   have HMEAS:=Lib.hid (show wr.rangeLeft bG rO=cnt from HS.out.grp.left_eq)
   clear hslW hone3 honly3 hsl3 hok3 hl3 hgh hm hn hm3 hrg hgr3 hsz3 hlk hfk hsub hpO
   unfold idV at hen
   obtain⟨wo,rfl⟩:∃wo:World,wo=wr:=⟨_,rfl⟩
   go_wp2_with fail
   refine HGH.out.mono ?_
   rintro e4 w4 ⟨bI,nI,f2,rfl,hnI,hbI,hgrI,hoI⟩
   have hbOI:bO≠bI:=by have:=HXS.out;have h1:=HO1.out.size;have h2:=HONE3.out.size;omega
   have HGI:=Lib.hid hgrI
   have HOI:=Lib.hid hoI
   clear hgrI hoI HGH hen
   go_wp2_with (at_range;refine wpList_rangeV _ rfl _ 211 rfl 37 32 hd_law Tryz.underlying211 bI nI f2 rfl HGI.out.1 ?_;intro w5 cnt2 hrg5 hO5 hsz5)
   obtain⟨rI,erI⟩:∃rI,rI=w4.heap.size:=⟨_,rfl⟩
   rw [←erI] at hrg5⊢
   have hrIO:rI≠bO:=by have:=HXS.out;have h1:=HO1.out.size;have h2:=HONE3.out.size;have h3:=HOI.out.size;omega
   have hrIG:rI≠bG∧rI≠rO:=by
    have h1:=HRG.out.lt;have h2:=HOI.out.size;have h3:=HRG.out.map.lt
    omega
   have hdomI:∀y u,f2 y=some u→∃h:Hd,y=hdV h∧hasV L p h=true∧h.Ok∧h∈L.map (·.head):=fun y u hy=>by
    obtain⟨_,hd,_⟩:=HGI.out
    have h1:∃x∈L.filter (cnts p),headK x=y:=by
     apply Classical.byContradiction
     intro h
     rw [(hd y).2 (fun x hx e=>h ⟨x,hx,e⟩)] at hy;cases hy
    obtain⟨x,hx,hxy⟩:=h1
    obtain⟨hx1,hx2⟩:=List.mem_filter.1 hx
    exact⟨x.head,hxy.symm,hasV_iff.2 ⟨x,hx1,rfl,hx2⟩,(HOK.out x hx1).head,List.mem_map.2 ⟨x,hx1,rfl⟩⟩
   have hdomI2:∀g,hasV L p g=true→f2 (hdV g)≠none:=fun g hv hn=>by
    obtain⟨x,hx1,hx2,hx3⟩:=hasV_iff.1 hv
    obtain⟨_,hd,_⟩:=HGI.out
    exact(hd (hdV g)).1 hn x (List.mem_filter.2 ⟨hx1,hx3⟩) (by unfold headK hdV;rw [hx2])
   have hi0:BiS w w1 bO bG rO nG bI rI nI O L f left cnt' p f2 (fun x=> (f2 x).isSome) cnt2 w5:=by
    have ho35:=HOI.out.trans hO5
    refine⟨⟨n,(HM3.out.only ho35 (fun e=>e)).congr (fun x=> (cntF_ext (fun g _=>cIn_start (fun g' hv=>by
      have:=hdomI2 g' hv
      cases hf:f2 (hdV g') with
      |none=>exact(this hf).elim
      |some _=>rfl) g) x).symm),?_⟩,HRG.out.only ho35 (fun e=>e) (fun e=>e),hrg5,HONE3.out.trans (ho35.mono (fun _ _ h=>h.elim)),HONLY3.out.trans ho35⟩
    have h1:=HN.out
    have h2:=hrg5.cnt_le
    omega
   have HI0:=Lib.hid hi0
   have HDI:=Lib.hid hdomI
   have HDI2:=Lib.hid hdomI2
   have HRI:=Lib.hid erI
   clear hi0 hdomI hdomI2 hrg5 hO5 hsz5 erI
   go_frame
   go_loopw [8] (fun _ wi=> ∃left2 cnt2,BiS w w1 bO bG rO nG bI rI nI O L f left cnt' p f2 left2 cnt2 wi) (fun _ wi=>wi.rangeLeft bI rI)
   case atStart=>exact⟨_,_,HI0.out⟩
   case round=>
    obtain⟨left2,cnt2',hI⟩:=hrel
    have HI:=Lib.hid hI
    clear hI
    go_wp2_with (at_next;refine wpList_nextV _ rfl _ rfl 37 hd_law bI rI nI f2 left2 cnt2' rfl HI.out.inn ?_ ?_)
    ·intro hc0 hl0
     have hnew:BaS w w1 bO bG rO nG O L f (fun x=>left x && !eqv x (idV p)) cnt' wr:=by
      obtain⟨n',hm',hn'⟩:=HI.out.out
      refine⟨⟨n',hm'.congr (fun x=>cntF_ext (fun g _=>cIn_end HAP.out HPO.out HLK.out (fun g' hv=>hl0 _ (HDI2.out g' hv)) g) x),by omega⟩,HI.out.grp,HI.out.one,HI.out.only,fun x hx=>HSUB.out x ?_⟩
      simp only [Bool.and_eq_true] at hx
      exact hx.1
     have HNEW:=Lib.hid hnew
     clear hnew hl0 hc0
     go_wp2_with fail
     go_roundw
     case rel=>exact⟨_,_,HNEW.out⟩
     case measure=>rw [HNEW.out.grp.left_eq,HMEAS.out];omega
    ·intro key u w6 cnt3 hfk hlk hrg6 hlt6 hgr6 hsz6 hen6
     obtain⟨h,rfl,hv,hok,hmem⟩:=HDI.out key u hfk
     have hl:=hok.root
     have hS6:Only (fun j=>j=rI) wr w6:=(Only.refl (fun j=>j=rI) wr).grown hgr6 (fun j e=>by cases e;exact .inl rfl)
     have hrIw:w.heap.size≤rI∧w1.heap.size≤rI:=by
      have h1:=HO1.out.size;have h2:=HONE3.out.size;have h3:=HOI.out.size;have h4:=X3.out.size;have h5:=HRI.out
      omega
     obtain⟨N,eN⟩:∃N,N=w6.heap.size:=⟨_,rfl⟩
     have hb0:Blk (w6.alloc (.cells hd0C 37)) N tHd hd0C:=by rw [eN];exact Blk.new w6 _ _
     have hst:=hd_store hb0 rfl hl
     rw [eN] at hst
     have hnw:=hdNew_run
     have hb1:HdAt ((w6.alloc (.cells hd0C 37)).setCells N 0 (hdC h)) N h:=filled_whole hb0 (by rw [hdC_len hl];rfl)
     have hO7:Only NoneOf w6 ((w6.alloc (.cells hd0C 37)).setCells N 0 (hdC h)):=only_setCells ((Only.refl _ _).alloc _) N 0 (.inr (by omega)) _
     obtain⟨n',hm',hn'⟩:=HI.out.out
     have hm6:=(hm'.only hS6 (fun e=>hrIO e.symm)).only hO7 (fun e=>e)
     have hg6:=(HI.out.grp.only hS6 (fun e=>hrIG.1 e.symm) (fun e=>hrIG.2 e.symm)).only hO7 (fun e=>e) (fun e=>e)
     have hi6:=hrg6.only hO7 (fun e=>e) (fun e=>e)
     have ho6:Only (fun j=>j=bO) w1 ((w6.alloc (.cells hd0C 37)).setCells N 0 (hdC h)):=(HI.out.one.grown hgr6 (fun j e=>by cases e;exact .inr hrIw.2)).trans (hO7.mono (fun _ _ h=>h.elim))
     have hw6:Only NoneOf w ((w6.alloc (.cells hd0C 37)).setCells N 0 (hdC h)):=(HI.out.only.grown hgr6 (fun j e=>by cases e;exact .inr hrIw.1)).trans hO7
     have HM6:=Lib.hid hm6
     have HG6:=Lib.hid hg6
     have HI6:=Lib.hid hi6
     have HO6:=Lib.hid ho6
     have HW6:=Lib.hid hw6
     have HB1:=Lib.hid hb1
     have EN:=Lib.hid eN
     have HV:=Lib.hid hv
     have HOKH:=Lib.hid hok
     have HMEM:=Lib.hid hmem
     have HLK2:=Lib.hid hlk
     have HN':=Lib.hid hn'
     have HMEAS2:=Lib.hid (show wr.rangeLeft bI rI=cnt2' from HI.out.inn.left_eq)
     clear hm' hn' hm6 hg6 hi6 ho6 hw6 hb0 hb1 hO7 hS6 hgr6 hsz6 hrg6 hfk hlk hv hok hmem eN hrIw
     unfold hdV at hen6
     go_upto_region 8 with(fail)
     rw [←EN.out]
     refine wp_gen (fun Z=>MapV Z Tryz.prog 37 bO n' (cntF (cIn O L left p left2) (L.map (·.head)))∧RangeV Z Tryz.prog 3 bG rO nG f (fun x=>left x && !eqv x (idV p)) cnt'∧RangeV Z Tryz.prog 37 bI rI nI f2 (fun x=>left2 x && !eqv x (hdV h)) cnt3∧Only (fun j=>j=bO) w1 Z∧Only NoneOf w Z∧HdAt Z N h) ⟨HM6.out,HG6.out,HI6.out,HO6.out,HW6.out,HB1.out⟩ ?_
     rintro Z ⟨zm,zg,zi,zo,zw,zb⟩
     clear hen6 hst hnw HM6 HG6 HI6 HO6 HW6 HB1
     obtain⟨kl,hkl⟩:=key_hd HOKH.out
     obtain⟨cn,ecn⟩:∃cn,cn=cIn O L left p left2 h:=⟨_,rfl⟩
     have hcn:cn≤1001:=by rw [ecn];exact Nat.le_trans (cIn_le _ _ _ _ _ _) (by omega)
     have zmd:MapV Z.drew Tryz.prog 37 bO n' (cntF (cIn O L left p left2) (L.map (·.head))):=zm.only (Only.refl NoneOf Z).drew (fun e=>e)
     have hval:(cntF (cIn O L left p left2) (L.map (·.head)) (.agg (hdC h).toArray)).getD (.int .i64 0)= .int .i64 (cn:Int):=by
      have h1:=cntF_hd (c:=cIn O L left p left2) HMEM.out
      unfold hdV at h1
      rw [h1,←ecn]
      by_cases h0:0<cn
      ·rw [if_pos h0];rfl
      ·rw [if_neg h0,show cn=0 by omega];rfl
     have hlk:(Instr.lookup 176 (.map (some bO)) (.agg (hdC h).toArray) false).run Tryz.prog Z.drew= .ok (.int .i64 (cn:Int)) Z.drew:=by
      rw [zmd.look hd_law Tryz.underlying176 (zero_int _) hkl,hval]
     obtain⟨v0,st,w7,hent,hg7,hst7⟩:=zmd.entry hd_key Tryz.underlying176 (by rw [maxLen_val];have:=HN'.out;omega) zero_int hkl
     have hlk7:(Instr.lookup 176 (.map (some bO)) (.agg (hdC h).toArray) false).run Tryz.prog w7= .ok (.int .i64 (cn:Int)) w7:=by
      rw [zmd.entry_look hd_key Tryz.underlying176 (by rw [maxLen_val];have:=HN'.out;omega) zero_int hkl hent,hval]
     obtain⟨w8,hst8,hm8,hg8⟩:=hst7 w7 (.int .i64 ((cn:Int) +1)) (World.grownBy.refl _ _)
     have hld:=hd_load (blk_range (Blk.drew zb)) HOKH.out.root
     have hwr:IntKind.i64.wrap ((cn:Int) +1)=(cn:Int) +1:=IntWalk.i64_in _ (by omega)
     have hS8:Only (fun j=>j=bO) Z w8:=((Only.refl (fun j=>j=bO) Z).drew.grown hg7 (fun j e=>by cases e;exact .inl rfl)).grown hg8 (fun j e=>by cases e;exact .inl rfl)
     have hrGO:rI≠bO∧bI≠bO∧bG≠bO:=⟨hrIO,fun e=>hbOI e.symm,fun e=>hbOG e.symm⟩
     have hnew:BiS w w1 bO bG rO nG bI rI nI O L f left cnt' p f2 (fun x=>left2 x && !eqv x (hdV h)) cnt3 w8:=by
      refine⟨⟨n'+1,hm8.congr (fun x=> ?_),by have:=HN'.out;omega⟩,zg.only hS8 hrGO.2.2 hrOb,zi.only hS8 hrGO.2.1 hrGO.1,zo.trans hS8,zw.trans' hS8 (fun i hi e=>by subst e;omega)⟩
      rw [cntF_ext (fun g _=>cIn_step HV.out HLK2.out g) x,←cntF_put HMEM.out x,ecn]
      rfl
     have HNEW:=Lib.hid hnew
     clear hval hnew zm zg zi zo zw zb zmd hst7 hm8 hg8 hg7 hkl ecn hS8
     go_region
     all_goals
      go_wp2_with fail
      go_roundw
      case rel=>exact⟨_,_,HNEW.out⟩
      case measure=>rw [HNEW.out.inn.left_eq,HMEAS2.out];omega
end Go.Proofs.YtgalfohobgjelaaGreatDoor
namespace Go.Proofs.YtgalfohobgjelaaGreatDoor
open Go.RowKit Go.Shelf
attribute [local go_sem ↓ high] hdLoad_eq hdNew_eq hdStore_eq
theorem votesFor_le (O:List Pers) (L:List Vt) (h:Hd):votesFor O L h≤O.length:=by rw [votesFor_eq];exact List.countP_le_length
end Go.Proofs.YtgalfohobgjelaaGreatDoor
namespace Go.Proofs.YtgalfohobgjelaaGreatDoor
open Go.RowKit Go.Shelf
attribute [local go_sem ↓ high] hdLoad_eq vtLoad_eq
end Go.Proofs.YtgalfohobgjelaaGreatDoor
