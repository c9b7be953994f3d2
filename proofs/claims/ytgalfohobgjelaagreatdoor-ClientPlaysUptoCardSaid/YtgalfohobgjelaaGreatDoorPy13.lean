/- What is proved here: a part of the proof that 'probitylaw31.ClientPlays' answers true. Conditions: each theorem's own. -/
import Derived.Test.YtgalfohobgjelaaGreatDoorPy12
import Derived.Laws.EntriesVeiled
set_option maxRecDepth 100000
set_option maxHeartbeats 8000000
namespace Go.Proofs.YtgalfohobgjelaaGreatDoor
section
open Go.RowKit Go.Shelf
structure GdS(w w1:World)(b kc:Nat)(O:List Pers)(k:Nat)(W:World):Prop where
 map:MapV W Tryz.prog 3 b k (keyF (O.take k))
 kb:Blk W kc tKm #[.map (some b)]
 only:Only Ωa w W
 one:Only (fun j=>j=b) w1 W
theorem Ωec{w:World}{P:Program}{k:TypeId}{b n g i:Nat}{f:Value→Option Value}{v:Value}(hm:MapV w P k b n f)(hc:w.cell? ⟨g,i,none⟩=some v):g≠b:=by
 rintro rfl
 obtain⟨D,⟨es,clock,hb,_⟩,_⟩:=hm
 simp[World.cell?,hb] at hc
theorem Ωj5{O:List Pers}(hO:O.Pairwise (fun p q=>p.id≠q.id)){p:Pers}(hp:p∈O)(v:Vt):(cntO O v&&v.who==p.id)=cnts p v:=by
 unfold cntO cnts
 cases hw:(v.who==p.id) with
 |false=>rw[Bool.and_false];rfl
 |true=>
  have hw' :v.who=p.id:=by simpa using hw
  have hf:O.find? (fun q=>q.id==v.who)=some p:=by
   clear hw
   induction O with
   |nil=>cases hp
   |cons q l ih=>
    rw[List.find?_cons]
    obtain⟨h1,h2⟩:=List.pairwise_cons.1 hO
    rcases Ωn3.1 hp with rfl|hp'
    ·simp[hw']
    ·have hne:(q.id==v.who)=false:=by
      rw[hw'];simpa using h1 p hp'
     rw[hne]
     exact ih h2 hp'
  rw[hf];simp
theorem ΩkO(P:List Pers)(hP:ΩS P)(hlen:P.length≤1000)(pv:Value)(L:List Vt)(hok:Ω4 L)(hL:L.length≤100000)(sv:Value)(w:World)(hp:Ωa6 w pv P)(hs:VtSl w sv L)(ht:Tab w):
  Calls Tryz.prog 86 #[setV pv,sv] w fun e w' =>∃b n f,e= .returned (.map (some b))∧n≤100000∧w.heap.size≤b∧GrpR w' 3 whoK b n (L.filter (cntO (offs P))) f∧Only Ωa w w' :=by
 have hO:ΩS (offs P):=hP.offs
 have hol:(offs P).length≤1000:=Ωnz (Ωce P) hlen
 have hap:=Ωe8 P
 obtain⟨O,eO⟩:∃O,O=offs P:=⟨_,rfl⟩
 have hqo:∀W,Only Ωa w W→Calls Tryz.prog 87 #[setV pv] W fun e w' =>∃ov,e= .returned ov∧Ωa6 w' ov O∧Only Ωa W w' :=fun W ho=>by rw[eO];exact ΩcN P hP hlen pv W (hp.only ho)
 rw[←eO] at hO hol hap⊢
 unfold setV at hqo⊢
 obtain⟨B,eB⟩:∃B,B=w.heap.size:=⟨_,rfl⟩
 obtain⟨bm,ebm⟩:∃bm,bm=B+1:=⟨_,rfl⟩
 obtain⟨kc,ekc⟩:∃kc,kc=bm+1:=⟨_,rfl⟩
 obtain⟨X,eX⟩:∃X,X=((w.alloc (.cells #[pv,.int .i64 0,.slice none 0 0,.slice none 0 0,.int .i64 0,.int .i64 0] 50)).alloc (.map #[] 0)).alloc (.cells #[.map (some bm)] 188):=⟨_,rfl⟩
 have x1:MapV X Tryz.prog 3 bm 0 (keyF []):=by
  have h1:=MapV.made (w.alloc (.cells #[pv,.int .i64 0,.slice none 0 0,.slice none 0 0,.int .i64 0,.int .i64 0] 50)) Tryz.prog 3
  rw[Ωnw,←eB,←ebm] at h1
  rw[eX];exact h1.only ((Only.refl Ωa _).alloc _) (fun e=>e)
 have x2:Blk X kc tKm #[.map (some bm)]:=by
  have h2:=Blk.new ((w.alloc (.cells #[pv,.int .i64 0,.slice none 0 0,.slice none 0 0,.int .i64 0,.int .i64 0] 50)).alloc (.map #[] 0)) tKm #[.map (some bm)]
  rw[Ωnw,Ωnw,←eB,←ebm,←ekc] at h2
  rw[eX];exact h2
 have x3:Only Ωa w X:=by rw[eX];exact(((Only.refl _ _).alloc _).alloc _).alloc _
 have x0:X.cell? ⟨B,0,none⟩=some pv∧X.cell? ⟨B,1,none⟩=some (.int .i64 0)∧X.cell? ⟨B,2,none⟩=some (.slice none 0 0)∧X.cell? ⟨B,3,none⟩=some (.slice none 0 0)∧X.cell? ⟨B,4,none⟩=some (.int .i64 0)∧X.cell? ⟨B,5,none⟩=some (.int .i64 0):=by
  have h3:Blk X B 50 #[pv,.int .i64 0,.slice none 0 0,.slice none 0 0,.int .i64 0,.int .i64 0]:=by rw[eX,eB];exact((Blk.new w _ _).alloc _).alloc _
  exact⟨h3.cell 0,h3.cell 1,h3.cell 2,h3.cell 3,h3.cell 4,h3.cell 5⟩
 have hwb:w.heap.size≤bm:=by omega
 have X0:=Θ x0
 have X1:=Θ x1
 have X2:=Θ x2
 have X3:=Θ x3
 have EX:=Θ eX
 have EB:=Θ eB
 have EBM:=Θ ebm
 have EKC:=Θ ekc
 have HQO:=Θ hqo
 have HPO:=Θ hO
 have HOK:=Θ hok
 have HSV:=Θ hs
 have HT:=Θ ht
 have HAP:=Θ hap
 clear x0 x1 x2 x3 eX eB ebm ekc hqo hO hok hs ht hap hp hP eO hlen
 have hmm:= @run_makeMap Tryz.prog
 go_enter Tryz.func86,Tryz.ntmps86
 go_upto_region 2 with(fail)
 rw[←EB.out,←EBM.out,←EKC.out,←EX.out]
 clear hmm
 obtain⟨x0,xa,xb,xc,xd,xe⟩:=X0.out
 go_wp2_with fail
 refine(HQO.out _ X3.out).mono ?_
 rintro e1 w1 ⟨ov,rfl,hov,ho1⟩
 obtain⟨A,cap,rfl,hlc,hcm,hA⟩:=hov
 have hs0:GdS w w1 bm kc O 0 w1:=⟨X1.out.only ho1 (fun e=>e),X2.out.only ho1 (fun e=>e),X3.out.trans ho1,Only.refl _ _⟩
 have HS0:=Θ hs0
 have HA:=Θ hA
 clear hs0 hA ho1 x0 xa xb xc xd xe
 go_wp2_with fail
 go_loopw [7,13] (fun _ i wr=>∃k:Nat,i= .int .i64 k∧k≤O.length∧GdS w w1 bm kc O k wr) (fun _ i _=>O.length-(intOf i).toNat)
 case atStart=>exact⟨0,rfl,Ωoh _,HS0.out⟩
 case round=>
  obtain⟨k,rfl,hk,hS⟩:=hrel
  by_cases hlt:k<O.length
  ·obtain⟨p,hp⟩:∃p,O[k]? =some p:=⟨_,Ωnu hlt⟩
   obtain⟨g,o,hA',hg,hr⟩:=HA.out k p hp
   subst hA'
   have hpo:=HPO.out p (ΩnE hp)
   have d0:w1.cell? ⟨g,o+k*3,none⟩=some (.int .i64 p.id):=hr 0 _ rfl
   have hgb:g≠bm:=Ωec HS0.out.map d0
   have c0:wr.cell? ⟨g,o+k*3,none⟩=some (.int .i64 p.id):=hS.one.cell_some d0 hgb
   have c1:wr.cell? ⟨g,o+k*3+1,none⟩=some (.int .i64 p.role):=hS.one.cell_some (hr 1 _ rfl) hgb
   have c2:wr.cell? ⟨g,o+k*3+2,none⟩=some (.int .i64 p.pub):=hS.one.cell_some (hr 2 _ rfl) hgb
   have ck:∀o,(wr.alloc o).cell? ⟨kc,0,none⟩=some (.map (some bm)):=fun o=>(hS.kb.alloc o).cell 0
   have ik:(k:Int)<(O.length:Int):=by omega
   have htk:O.take (k+1)=O.take k++[p]:=by rw[ΩnO,hp,ΩnS]
   have hne:∀q∈O.take k,q.id≠p.id:=fun q hq=>by
    obtain⟨i,hi⟩:=List.getElem?_of_mem hq
    have hi2:i<k:=by
     have:=(Ωnx.1 hi).1
     rw[ΩnB] at this;omega
    rw[ΩoC,ΩnV hi2] at hi
    have hi3:=(Ωnx.1 hi)
    have hk3:=(Ωnx.1 hp)
    have:=List.pairwise_iff_getElem.1 HAP.out i k hi3.1 hk3.1 hi2
    rw[hi3.2,hk3.2] at this
    exact this
   have hckb:kc≠bm:=by have:=EKC.out;omega
   have hm1:∀o,MapV (wr.alloc o) Tryz.prog 3 bm k (keyF (O.take k)):=fun o=>hS.map.only ((Only.refl Ωa _).alloc o) (fun e=>e)
   have HM1:=Θ hm1
   have HKEY:=Θ (ΩgE hpo.id)
   have HS:=Θ hS
   have HTK:=Θ htk
   have HNE:=Θ hne
   clear hS htk hne hr hm1 d0 hp
   go_wp2_with (first
    |(at_mapUpdate;refine ΩbU _ rfl _ _ _ 188 rfl 3 3 Ωbj Tryz.underlying188 bm k _ rfl (HM1.out _) (by rw[Ωg];omega) _ _ _ rfl rfl HKEY.out ?_;intro w2 hown2 hgrow2))
   have hnew:GdS w w1 bm kc O (k+1) w2:=by
    refine⟨?_,(HS.out.kb.alloc _).grown hgrow2 (fun e=>hckb (Option.some.inj e)),(HS.out.only.alloc _).grown hgrow2 (fun j e=>by cases e;exact .inr hwb),(HS.out.one.alloc _).grown hgrow2 (fun j e=>by cases e;exact .inl rfl)⟩
    rw[HTK.out]
    exact hown2.congr (keyF_put HNE.out)
   have HNEW:=Θ hnew
   clear hown2 hgrow2 hnew c0 c1 c2 ck
   go_roundw
   case rel=>exact⟨k+1,by go_num,by omega,HNEW.out⟩
   case measure=>simp[intOf];omega
  ·obtain rfl:k=O.length:=by omega
   have hmp:=hS.map
   rw[Ωok] at hmp
   have hkb:=hS.kb
   have hO:=hS.only
   obtain⟨cc,ecc⟩:∃cc,cc=wr.heap.size:=⟨_,rfl⟩
   obtain⟨V,eV⟩:∃V,V=wr.alloc (.cells #[.func (.func 130) #[] #[.pointer (some ⟨kc,0,none⟩)]] 137):=⟨_,rfl⟩
   have hVo:Only Ωa wr V:=by rw[eV];exact(Only.refl _ _).alloc _
   have hVk:KeyS V O kc cc bm O.length:=⟨hmp.only hVo (fun e=>e),hkb.only hVo (fun e=>e),by rw[eV,ecc];exact Blk.new wr _ _,HT.out.none (hO.trans hVo)⟩
   have HV:=Θ hVo
   have HVK:=Θ hVk
   have HO:=Θ hO
   have ECC:=Θ ecc
   have EV:=Θ eV
   clear hS hmp hkb hO hVo hVk ecc eV
   go_upto_region 8 with(fail)
   rw[←ECC.out,←EV.out]
   go_wp2_with fail
   refine(clone_any L HOK.out hL sv V (HSV.out.only (HO.out.trans HV.out))).mono ?_
   rintro e2 w2 ⟨rv,rfl,hown2,ho2⟩
   have HOWN2:=Θ hown2
   have HO2:=Θ ho2
   clear hown2 ho2
   go_wp2_with fail
   refine(delfunc_any O HPO.out L HOK.out hL rv kc cc bm O.length V w2 (HT.out.none (HO.out.trans HV.out)) HO2.out HOWN2.out (HVK.out.only HO2.out)).mono ?_
   rintro e3 w3 ⟨dv,rfl,hown3,ho3⟩
   have hok3:Ω4 (L.filter (cntO O)):=fun x hx=>HOK.out x (List.mem_filter.1 hx).1
   have hl3:(L.filter (cntO O)).length≤100000:=Ωnz (List.length_filter_le _ _) hL
   have hsl3:VtSl w3 dv (L.filter (cntO O)):=ΩH.sl hown3 hok3
   have HSL3:=Θ hsl3
   have HOK3:=Θ hok3
   have HO3:=Θ ho3
   clear hown3 ho3 hok3 hsl3
   go_wp2_with fail
   refine(gwho_any (L.filter (cntO O)) HOK3.out hl3 dv w3 HSL3.out).mono ?_
   rintro e4 w4 ⟨b4,n4,f4,rfl,hn4,hb4,hr4,ho4⟩
   have hwb4:w.heap.size≤b4:=Ωnz ((HO.out.trans HV.out).trans HO3.out).size hb4
   have HR4:=Θ hr4
   have HO4:=Θ (((HO.out.trans HV.out).trans HO3.out).trans ho4)
   clear hr4 ho4
   go_wp2_with fail
   go_ret
   exact⟨b4,n4,f4,rfl,hn4,hwb4,HR4.out,HO4.out⟩
end
section
open Go.RowKit
def hdV(h:Hd):Value:= .agg (hdC h).toArray
theorem bv_inj{x y:UInt8}(h:bv x=bv y):x=y:=by
 unfold bv at h
 simp only[Value.int.injEq,true_and] at h
 exact UInt8.toNat_inj.1 (by omega)
theorem ΩhF:∀{l m:List UInt8},l.map bv=m.map bv→l=m
 |[],[],_=>rfl
 |[],y::m,h=>by simp at h
 |x::l,[],h=>by simp at h
 |x::l,y::m,h=>by
  simp only[ΩoF,List.cons.injEq] at h
  rw[bv_inj h.1,ΩhF h.2]
theorem ΩgI{a b:Hd}(h:hdV a=hdV b):a=b:=by
 unfold hdV at h
 have h' :hdC a=hdC b:=by simpa using h
 unfold hdC at h'
 obtain⟨h1,h2⟩:=List.cons.inj h'
 injection h1 with _ h1
 have h3:=ΩhF h2
 obtain⟨a1,a2⟩:=a
 obtain⟨b1,b2⟩:=b
 simp only at h1 h3
 rw[h1,h3]
theorem eqv_hd(a b:Hd):eqv (hdV a) (hdV b)=eqHd a b:=by
 rw[Ωoy,Ωbu,Ωas]
 exact⟨ΩgI,fun h=>by rw[h]⟩
noncomputable def cntF(c:Hd→Nat)(H:List Hd):Value→Option Value:=fun x=>(H.find? (fun h=>eqv x (hdV h)&&decide (0<c h))).map (fun h=> .int .i64 (c h:Int))
theorem Ωj6{c:Hd→Nat}{H:List Hd}{h:Hd}(hh:h∈H):cntF c H (hdV h)=if 0<c h then some (.int .i64 (c h:Int)) else none:=by
 unfold cntF
 by_cases hc:0<c h
 ·rw[ΩnV hc]
  cases hf:H.find? (fun h' =>eqv (hdV h) (hdV h')&&decide (0<c h')) with
  |none=>
   have:=List.find?_eq_none.1 hf h hh
   simp[Ωbk,hc] at this
  |some g=>
   have:=List.find?_some hf
   simp only[Ωoa,Ωbu] at this
   rw[←ΩgI this.1]
   rfl
 ·rw[ΩnU hc]
  have:H.find? (fun h' =>eqv (hdV h) (hdV h')&&decide (0<c h'))=none:=by
   rw[List.find?_eq_none]
   intro g _
   simp only[Ωoa,Ωbu,decide_eq_true_eq,not_and]
   intro e
   rw[←ΩgI e];exact hc
  rw[this];rfl
theorem Ωjx{c:Hd→Nat}{H:List Hd}{x v:Value}(h:cntF c H x=some v):∃g∈H,x=hdV g∧v= .int .i64 (c g:Int)∧0<c g:=by
 unfold cntF at h
 cases hf:H.find? (fun h' =>eqv x (hdV h')&&decide (0<c h')) with
 |none=>rw[hf] at h;cases h
 |some g=>
  rw[hf] at h
  have h1:=List.find?_some hf
  simp only[Ωoa,Ωbu,decide_eq_true_eq] at h1
  simp only[Ωoe,Option.some.injEq] at h
  exact⟨g,List.mem_of_find?_eq_some hf,h1.1,h.symm,h1.2⟩
noncomputable def inc1(c:Hd→Nat)(h:Hd):Hd→Nat:=fun g=>if eqHd g h then c g+1 else c g
theorem ΩeQ{c d:Hd→Nat}{H:List Hd}(h:∀g∈H,c g=d g)(x:Value):cntF c H x=cntF d H x:=by
 unfold cntF
 have e:H.find? (fun g=>eqv x (hdV g)&&decide (0<c g))=H.find? (fun g=>eqv x (hdV g)&&decide (0<d g)):=by
  induction H with
  |nil=>rfl
  |cons a l ih=>
   rw[List.find?_cons,List.find?_cons,h a (by simp),ih (fun g hg=>h g (by simp[hg]))]
 rw[e]
 cases hf:H.find? (fun g=>eqv x (hdV g)&&decide (0<d g)) with
 |none=>rfl
 |some g=>simp only[Ωoe];rw[h g (List.mem_of_find?_eq_some hf)]
theorem cntF_put{c:Hd→Nat}{H:List Hd}{h:Hd}(hh:h∈H)(x:Value):put1 (cntF c H) (hdV h) (.int .i64 ((c h:Int)+1)) x=cntF (inc1 c h) H x:=by
 by_cases e:x=hdV h
 ·subst e
  rw[Ωa2,Ωj6 hh]
  unfold inc1
  rw[ΩnV (Ωas.2 rfl),ΩnV (by omega)]
  rfl
 ·rw[Ωay e]
  unfold cntF
  have e1:∀g,eqv x (hdV g)=true→inc1 c h g=c g:=fun g hg=>by
   unfold inc1
   rw[ΩnU]
   intro h1
   rw[Ωas.1 h1] at hg
   exact e (Ωbu.1 hg)
  have e2:H.find? (fun g=>eqv x (hdV g)&&decide (0<c g))=H.find? (fun g=>eqv x (hdV g)&&decide (0<inc1 c h g)):=by
   congr 1
   funext g
   cases hg:eqv x (hdV g) with
   |false=>rfl
   |true=>rw[e1 g hg]
  rw[e2]
  cases hf:H.find? (fun g=>eqv x (hdV g)&&decide (0<inc1 c h g)) with
  |none=>rfl
  |some g=>
   have:=List.find?_some hf
   simp only[Ωoa] at this
   simp only[Ωoe]
   rw[e1 g this.1]
noncomputable def hasV(L:List Vt)(p:Pers)(h:Hd):Bool:=L.any (fun v=>eqHd v.head h&&cnts p v)
theorem ΩdZ(O:List Pers)(L:List Vt)(h:Hd):Ω1 O L h=O.countP (fun p=>hasV L p h):=rfl
def idV(p:Pers):Value:= .int .i64 p.id
noncomputable def Ωfr(O:List Pers)(L:List Vt)(left:Value→Bool)(h:Hd):Nat:=O.countP (fun p=> !left (idV p)&&hasV L p h)
noncomputable def cIn(O:List Pers)(L:List Vt)(left:Value→Bool)(p:Pers)(left2:Value→Bool)(h:Hd):Nat:=Ωfr O L left h+if !left2 (hdV h)&&hasV L p h then 1 else 0
theorem cDone_end{O:List Pers}{L:List Vt}{left:Value→Bool}(h:∀p∈O,∀g,hasV L p g=true→left (idV p)=false)(g:Hd):Ωfr O L left g=Ω1 O L g:=by
 rw[ΩdZ]
 unfold Ωfr
 apply List.countP_congr
 intro p hp
 constructor
 ·intro h1;exact(Ωoa _ _▸h1).2
 ·intro h1;rw[h p hp g h1];simpa using h1
theorem cDone_zero{O:List Pers}{L:List Vt}{left:Value→Bool}(h:∀p∈O,∀g,hasV L p g=true→left (idV p)=true)(g:Hd):Ωfr O L left g=0:=by
 unfold Ωfr
 rw[List.countP_eq_zero]
 intro p hp h1
 simp only[Ωoa,Bool.not_eq_true'] at h1
 rw[h p hp g h1.2] at h1
 exact Bool.noConfusion h1.1
theorem cDone_step{O:List Pers}(hO:O.Pairwise (fun p q=>p.id≠q.id)){L:List Vt}{left:Value→Bool}{p:Pers}(hp:p∈O)(hl:left (idV p)=true)(g:Hd):
  Ωfr O L (fun x=>left x&& !eqv x (idV p)) g=Ωfr O L left g+if hasV L p g then 1 else 0:=by
 unfold Ωfr
 induction O with
 |nil=>cases hp
 |cons q l ih=>
  obtain⟨h1,h2⟩:=List.pairwise_cons.1 hO
  rw[List.countP_cons,List.countP_cons]
  rcases Ωn3.1 hp with rfl|hp'
  ·have hrest:l.countP (fun r=> !(left (idV r)&& !eqv (idV r) (idV p))&&hasV L r g)=l.countP (fun r=> !left (idV r)&&hasV L r g):=by
    apply List.countP_congr
    intro r hr
    have hne:eqv (idV r) (idV p)=false:=by
     unfold idV;rw[Ωfl]
     simpa using h1 r hr
    rw[hne,Bool.not_false,Bool.and_true]
   rw[hrest]
   simp[hl,Ωbk]
  ·have hne:eqv (idV q) (idV p)=false:=by
    unfold idV;rw[Ωfl]
    simpa using fun e=>h1 p hp' e.symm
   rw[ih h2 hp']
   simp only[hne,Bool.not_false,Bool.and_true]
   omega
theorem Ωio{L:List Vt}{p:Pers}{h:Hd}:hasV L p h=true↔∃v∈L,v.head=h∧cnts p v=true:=by
 unfold hasV
 rw[List.any_eq_true]
 constructor
 ·rintro⟨v,hv,h1⟩
  simp only[Ωoa,Ωas] at h1
  exact⟨v,hv,h1⟩
 ·rintro⟨v,hv,h1,h2⟩
  exact⟨v,hv,by rw[h2,Bool.and_true,Ωas];exact h1⟩
theorem cIn_start{O:List Pers}{L:List Vt}{left:Value→Bool}{p:Pers}{left2:Value→Bool}(h:∀g,hasV L p g=true→left2 (hdV g)=true)(g:Hd):cIn O L left p left2 g=Ωfr O L left g:=by
 unfold cIn
 rw[ΩnU]
 ·rfl
 ·intro h1
  simp only[Ωoa,Bool.not_eq_true'] at h1
  rw[h g h1.2] at h1
  exact Bool.noConfusion h1.1
theorem cIn_step{O:List Pers}{L:List Vt}{left:Value→Bool}{p:Pers}{left2:Value→Bool}{h:Hd}(hv:hasV L p h=true)(hl:left2 (hdV h)=true)(g:Hd):
  cIn O L left p (fun x=>left2 x&& !eqv x (hdV h)) g=inc1 (cIn O L left p left2) h g:=by
 unfold inc1
 cases e:eqHd g h with
 |true=>
  have:=Ωas.1 e
  subst this
  rw[ΩnV rfl]
  unfold cIn
  simp[hl,Ωbk,hv]
 |false=>
  rw[ΩnU (by simp)]
  unfold cIn
  simp[eqv_hd,e]
theorem cIn_end{O:List Pers}(hO:O.Pairwise (fun p q=>p.id≠q.id)){L:List Vt}{left:Value→Bool}{p:Pers}{left2:Value→Bool}(hp:p∈O)(hlp:left (idV p)=true)(h:∀g,hasV L p g=true→left2 (hdV g)=false)(g:Hd):cIn O L left p left2 g=Ωfr O L (fun x=>left x&& !eqv x (idV p)) g:=by
 rw[cDone_step hO hp hlp]
 unfold cIn
 cases hv:hasV L p g with
 |false=>simp
 |true=>rw[h g hv];simp
end
section
open Go.RowKit Go.Shelf
open Go.Maps (Keyed)
attribute [local go_sem ↓ high] ΩG Ωaq ΩQ
theorem VtSl.onlyM{w w' :World}{S:Nat→Prop}{v:Value}{L:List Vt}(h:VtSl w v L)(ho:Only S w w')(hS:∀j,S j→∀i u,w.cell? ⟨j,i,none⟩=some u→False):VtSl w' v L:=by
 obtain⟨A,cap,hv,h1,h2,h3⟩:=h
 refine⟨A,cap,hv,h1,h2,fun i p hp=> ?_⟩
 obtain⟨g,o,hA,hg,hr⟩:=h3 i p hp
 exact⟨g,o,hA,ΩnT hg ho.size,fun j u hj=>ho.cell_some (hr j u hj) (fun hs=>hS g hs _ u (hr j u hj))⟩
theorem map_no_cell{w:World}{P:Program}{k:TypeId}{b n:Nat}{f:Value→Option Value}(hm:MapV w P k b n f):∀i u,w.cell? ⟨b,i,none⟩=some u→False:=fun _ _ hc=>Ωec hm hc rfl
theorem cIn_le(O:List Pers)(L:List Vt)(left:Value→Bool)(p:Pers)(left2:Value→Bool)(h:Hd):cIn O L left p left2 h≤O.length+1:=by
 unfold cIn Ωfr
 have:=List.countP_le_length (p:=fun p=> !left (idV p)&&hasV L p h) (l:=O)
 split<;>omega
theorem World.grownBy.refl(w:World)(row:Option Nat):w.grownBy w row:=⟨rfl,rfl,rfl,Ωnv _,fun _ _ _=>rfl⟩
structure BaS(w0 w:World)(bO bG rO nG:Nat)(O:List Pers)(L:List Vt)(f:Value→Option Value)(left:Value→Bool)(cnt:Nat)(W:World):Prop where
 out:∃n,MapV W Tryz.prog 37 bO n (cntF (Ωfr O L left) (L.map (·.head)))∧n+100001*cnt≤10000300002
 grp:ΩaE W Tryz.prog 3 bG rO nG f left cnt
 one:Only (fun j=>j=bO) w W
 only:Only Ωa w0 W
 sub:∀x,left x=true→f x≠none
structure BiS(w0 w:World)(bO bG rO nG bI rI nI:Nat)(O:List Pers)(L:List Vt)(f:Value→Option Value)(left:Value→Bool)(cnt:Nat)(p:Pers)(f2:Value→Option Value)(left2:Value→Bool)(cnt2:Nat)(W:World):Prop where
 out:∃n,MapV W Tryz.prog 37 bO n (cntF (cIn O L left p left2) (L.map (·.head)))∧n+cnt2+100001*cnt≤10000300001
 grp:ΩaE W Tryz.prog 3 bG rO nG f (fun x=>left x&& !eqv x (idV p)) cnt
 inn:ΩaE W Tryz.prog 37 bI rI nI f2 left2 cnt2
 one:Only (fun j=>j=bO) w W
 only:Only Ωa w0 W
theorem ballots_any(P:List Pers)(hP:ΩS P)(hlen:P.length≤1000)(pv:Value)(L:List Vt)(hok:Ω4 L)(hL:L.length≤100000)(sv:Value)(w:World)(hp:Ωa6 w pv P)(hs:VtSl w sv L)(ht:Tab w):
  Calls Tryz.prog 124 #[setV pv,sv] w fun e w' =>∃b n,e= .returned (.map (some b))∧n<maxLen∧MapV w' Tryz.prog 37 b n (cntF (Ω1 (offs P) L) (L.map (·.head)))∧Only Ωa w w' :=by
 have hgd:∀W,Only Ωa w W→Calls Tryz.prog 86 #[setV pv,sv] W fun e w' =>∃b n f,e= .returned (.map (some b))∧n≤100000∧W.heap.size≤b∧GrpR w' 3 whoK b n (L.filter (cntO (offs P))) f∧Only Ωa W w' :=fun W ho=>ΩkO P hP hlen pv L hok hL sv W (hp.only ho) (hs.only ho) (ht.none ho)
 have hap:=Ωe8 P
 have hol:(offs P).length≤1000:=Ωnz (Ωce P) hlen
 obtain⟨O,eO⟩:∃O,O=offs P:=⟨_,rfl⟩
 rw[←eO] at hgd hap hol⊢
 unfold setV at hgd⊢
 obtain⟨B,eB⟩:∃B,B=w.heap.size:=⟨_,rfl⟩
 obtain⟨bO,ebO⟩:∃bO,bO=B+1:=⟨_,rfl⟩
 obtain⟨X,eX⟩:∃X,X=(w.alloc (.cells #[pv,.int .i64 0,.slice none 0 0,.slice none 0 0,.int .i64 0,.int .i64 0] 50)).alloc (.map #[] 0):=⟨_,rfl⟩
 have x1:MapV X Tryz.prog 37 bO 0 (fun _=>none):=by
  have h1:=MapV.made (w.alloc (.cells #[pv,.int .i64 0,.slice none 0 0,.slice none 0 0,.int .i64 0,.int .i64 0] 50)) Tryz.prog 37
  rw[Ωnw,←eB,←ebO] at h1
  rw[eX];exact h1
 have x3:Only Ωa w X:=by rw[eX];exact((Only.refl _ _).alloc _).alloc _
 have x0:X.cell? ⟨B,0,none⟩=some pv∧X.cell? ⟨B,1,none⟩=some (.int .i64 0)∧X.cell? ⟨B,2,none⟩=some (.slice none 0 0)∧X.cell? ⟨B,3,none⟩=some (.slice none 0 0)∧X.cell? ⟨B,4,none⟩=some (.int .i64 0)∧X.cell? ⟨B,5,none⟩=some (.int .i64 0):=by
  have h3:Blk X B 50 #[pv,.int .i64 0,.slice none 0 0,.slice none 0 0,.int .i64 0,.int .i64 0]:=by rw[eX,eB];exact(Blk.new w _ _).alloc _
  exact⟨h3.cell 0,h3.cell 1,h3.cell 2,h3.cell 3,h3.cell 4,h3.cell 5⟩
 have hXs:X.heap.size=bO+1:=by rw[eX,Ωnw,Ωnw];omega
 have hwb:w.heap.size≤bO:=by omega
 have X0:=Θ x0
 have X1:=Θ x1
 have X3:=Θ x3
 have HXS:=Θ hXs
 have EX:=Θ eX
 have EB:=Θ eB
 have EBO:=Θ ebO
 have HGD:=Θ hgd
 have HOK:=Θ hok
 have HAP:=Θ hap
 clear x0 x1 x3 hXs eX eB ebO hgd hok ht hap hp hs hP hlen
 have hmm:= @run_makeMap Tryz.prog
 go_enter Tryz.func124,Tryz.ntmps124
 go_upto_region 2 with(fail)
 rw[←EB.out,←EBO.out,←EX.out]
 clear hmm
 obtain⟨x0,xa,xb,xc,xd,xe⟩:=X0.out
 go_wp2_with fail
 refine(HGD.out _ X3.out).mono ?_
 rintro e1 w1 ⟨bG,nG,f,rfl,hnG,hbG,hgr,ho1⟩
 have HO1:=Θ ho1
 have HGR:=Θ hgr
 have HBG:=Θ hbG
 clear ho1 hgr hbG x0 xa xb xc xd xe HGD
 go_wp2_with (at_range;refine ΩcD _ rfl _ 142 rfl 3 32 Ωbj Tryz.underlying142 bG nG f rfl HGR.out.1 ?_;intro w2 cnt0 hrg0 hO2 hsz2)
 obtain⟨rO,erO⟩:∃rO,rO=w1.heap.size:=⟨_,rfl⟩
 rw[←erO] at hrg0⊢
 have hbOG:bO≠bG:=by have:=HXS.out;have:=HBG.out;omega
 have hrOb:rO≠bO:=by have:=HXS.out;have:=HO1.out.size;omega
 have hdom:∀x v,f x=some v→∃p∈O,x=idV p∧∀W,Only (fun j=>j=bO) w1 W→VtSl W v (L.filter (cnts p)):=fun x v hx=>by
  obtain⟨_,hd,hsl⟩:=HGR.out
  have h1:¬∀u∈L.filter (cntO O),whoK u≠x:=fun h=>by rw[(hd x).2 h] at hx;cases hx
  have h1' :∃u∈L.filter (cntO O),whoK u=x:=by
   apply Classical.byContradiction
   intro h;exact h1 (fun u hu e=>h ⟨u,hu,e⟩)
  obtain⟨u,hu,hux⟩:=h1'
  obtain⟨hu1,hu2⟩:=List.mem_filter.1 hu
  unfold cntO at hu2
  cases hf:O.find? (fun p=>p.id==u.who) with
  |none=>rw[hf] at hu2;cases hu2
  |some p=>
   have hpm:=List.mem_of_find?_eq_some hf
   have hpi:p.id=u.who:=by simpa using List.find?_some hf
   have hxp:x=idV p:=by rw[←hux];unfold whoK idV;rw[hpi]
   refine⟨p,hpm,hxp,fun W ho=> ?_⟩
   have h2:=hsl x v hx
   have h3:grp whoK (L.filter (cntO O)) x=L.filter (cnts p):=by
    unfold grp
    rw[List.filter_filter]
    apply List.filter_congr
    intro y _
    rw[hxp,←Ωj5 HAP.out hpm y,Bool.and_comm]
    unfold whoK idV
    rw[Ωfl,Ωoy]
    simp only[Ωoa,beq_iff_eq]
    exact⟨fun h=>⟨h.1,h.2.symm⟩,fun h=>⟨h.1,h.2.symm⟩⟩
   rw[h3] at h2
   exact h2.onlyM ho (fun j hj i u hc=>by subst hj;exact map_no_cell (X1.out.only HO1.out (fun e=>e)) i u hc)
 have hdom2:∀p∈O,∀g,hasV L p g=true→f (idV p)≠none:=fun p hpm g hv hn=>by
  obtain⟨v,hv1,_,hv2⟩:=Ωio.1 hv
  obtain⟨_,hd,_⟩:=HGR.out
  have hc:cntO O v=true∧v.who=p.id:=by
   rw[←Ωj5 HAP.out hpm v] at hv2
   simpa using hv2
  exact(hd (idV p)).1 hn v (List.mem_filter.2 ⟨hv1,hc.1⟩) (by unfold whoK idV;rw[hc.2])
 have hs0:BaS w w1 bO bG rO nG O L f (fun x=>(f x).isSome) cnt0 w2:=by
  refine⟨⟨0,?_,by have:=hrg0.cnt_le;omega⟩,hrg0,hO2.mono (fun _ _ h=>h.elim),(X3.out.trans HO1.out).trans hO2,fun x hx hn=>by rw[hn] at hx;cases hx⟩
  have h1:MapV w2 Tryz.prog 37 bO 0 (fun _=>none):=X1.out.only (HO1.out.trans hO2) (fun e=>e)
  refine h1.congr (fun x=> ?_)
  rw[ΩeQ (d:=fun _=>0) (fun g _=>cDone_zero (fun p hp g' hv=>by
   have:=hdom2 p hp g' hv
   cases hf:f (idV p) with
   |none=>exact(this hf).elim
   |some _=>rfl) g)]
  unfold cntF
  rw[List.find?_eq_none.2 (by simp)]
  rfl
 have HS0:=Θ hs0
 have HDOM:=Θ hdom
 have HDOM2:=Θ hdom2
 have HRO:=Θ erO
 clear hs0 hdom hdom2 hrg0 hO2 hsz2 erO
 go_frame
 go_loopw [7,8] (fun _ _ wr=>∃left cnt,BaS w w1 bO bG rO nG O L f left cnt wr) (fun _ _ wr=>wr.rangeLeft bG rO)
 case atStart=>exact⟨_,_,HS0.out⟩
 case round=>
  obtain⟨left,cnt,hS⟩:=hrel
  have HS:=Θ hS
  clear hS
  go_wp2_with (at_next;refine ΩcZ _ rfl _ rfl 3 Ωbj bG rO nG f left cnt rfl HS.out.grp ?_ ?_)
  ·intro hc0 hl0
   obtain⟨n,hm,hn⟩:=HS.out.out
   have hfin:MapV wr Tryz.prog 37 bO n (cntF (Ω1 O L) (L.map (·.head))):=hm.congr (fun x=>ΩeQ (fun g _=>cDone_end (fun p hp g' hv=>hl0 _ (HDOM2.out p hp g' hv)) g) x)
   have HFIN:=Θ hfin
   have HN:Hid (n<maxLen):=Θ (by rw[Ωg];omega)
   clear hfin hm hn hl0 hc0
   go_wp2_with fail
   go_ret
   exact⟨bO,n,rfl,HN.out,HFIN.out,HS.out.only⟩
  ·intro key v w3 cnt' hfk hlk hrg hlt hgr3 hsz3 hen
   obtain⟨p,hpO,rfl,hslW⟩:=HDOM.out key v hfk
   have hrOw:w1.heap.size≤rO:=by rw[HRO.out];exact Ωnv _
   have hone3:Only (fun j=>j=bO) w1 w3:=HS.out.one.grown hgr3 (fun j e=>by cases e;exact .inr hrOw)
   have honly3:Only Ωa w w3:=HS.out.only.grown hgr3 (fun j e=>by cases e;exact .inr (Ωnz (X3.out.trans HO1.out).size hrOw))
   have hsl3:=hslW w3 hone3
   have hok3:Ω4 (L.filter (cnts p)):=fun x hx=>HOK.out x (List.mem_filter.1 hx).1
   have hl3:(L.filter (cnts p)).length≤100000:=Ωnz (List.length_filter_le _ _) hL
   have hgh:=ghead_any (L.filter (cnts p)) hok3 hl3 v w3 hsl3
   obtain⟨n,hm,hn⟩:=HS.out.out
   have hm3:MapV w3 Tryz.prog 37 bO n (cntF (Ωfr O L left) (L.map (·.head))):=hm.grown hgr3 (fun e=>hrOb (Option.some.inj e).symm)
   have hsub:=HS.out.sub
   have HM3:=Θ hm3
   have HN:=Θ hn
   have HRG:=Θ hrg
   have HONE3:=Θ hone3
   have HONLY3:=Θ honly3
   have HGH:=Θ hgh
   have HPO:=Θ hpO
   have HLK:=Θ hlk
   have HFK:=Θ hfk
   have HSUB:=Θ hsub
   have HMEAS:=Θ (show wr.rangeLeft bG rO=cnt from HS.out.grp.left_eq)
   clear hslW hone3 honly3 hsl3 hok3 hl3 hgh hm hn hm3 hrg hgr3 hsz3 hlk hfk hsub hpO
   unfold idV at hen
   obtain⟨wo,rfl⟩:∃wo:World,wo=wr:=⟨_,rfl⟩
   go_wp2_with fail
   refine HGH.out.mono ?_
   rintro e4 w4 ⟨bI,nI,f2,rfl,hnI,hbI,hgrI,hoI⟩
   have hbOI:bO≠bI:=by have:=HXS.out;have h1:=HO1.out.size;have h2:=HONE3.out.size;omega
   have HGI:=Θ hgrI
   have HOI:=Θ hoI
   clear hgrI hoI HGH hen
   go_wp2_with (at_range;refine ΩcD _ rfl _ 211 rfl 37 32 ΩeI Tryz.underlying211 bI nI f2 rfl HGI.out.1 ?_;intro w5 cnt2 hrg5 hO5 hsz5)
   obtain⟨rI,erI⟩:∃rI,rI=w4.heap.size:=⟨_,rfl⟩
   rw[←erI] at hrg5⊢
   have hrIO:rI≠bO:=by have:=HXS.out;have h1:=HO1.out.size;have h2:=HONE3.out.size;have h3:=HOI.out.size;omega
   have hrIG:rI≠bG∧rI≠rO:=by
    have h1:=HRG.out.lt;have h2:=HOI.out.size;have h3:=HRG.out.map.lt
    omega
   have hdomI:∀y u,f2 y=some u→∃h:Hd,y=hdV h∧hasV L p h=true∧h.Ok∧h∈L.map (·.head):=fun y u hy=>by
    obtain⟨_,hd,_⟩:=HGI.out
    have h1:∃x∈L.filter (cnts p),ΩaR x=y:=by
     apply Classical.byContradiction
     intro h
     rw[(hd y).2 (fun x hx e=>h ⟨x,hx,e⟩)] at hy;cases hy
    obtain⟨x,hx,hxy⟩:=h1
    obtain⟨hx1,hx2⟩:=List.mem_filter.1 hx
    exact⟨x.head,hxy.symm,Ωio.2 ⟨x,hx1,rfl,hx2⟩,(HOK.out x hx1).head,Ωos.2 ⟨x,hx1,rfl⟩⟩
   have hdomI2:∀g,hasV L p g=true→f2 (hdV g)≠none:=fun g hv hn=>by
    obtain⟨x,hx1,hx2,hx3⟩:=Ωio.1 hv
    obtain⟨_,hd,_⟩:=HGI.out
    exact(hd (hdV g)).1 hn x (List.mem_filter.2 ⟨hx1,hx3⟩) (by unfold ΩaR hdV;rw[hx2])
   have hi0:BiS w w1 bO bG rO nG bI rI nI O L f left cnt' p f2 (fun x=>(f2 x).isSome) cnt2 w5:=by
    have ho35:=HOI.out.trans hO5
    refine⟨⟨n,(HM3.out.only ho35 (fun e=>e)).congr (fun x=>(ΩeQ (fun g _=>cIn_start (fun g' hv=>by
      have:=hdomI2 g' hv
      cases hf:f2 (hdV g') with
      |none=>exact(this hf).elim
      |some _=>rfl) g) x).symm),?_⟩,HRG.out.only ho35 (fun e=>e) (fun e=>e),hrg5,HONE3.out.trans (ho35.mono (fun _ _ h=>h.elim)),HONLY3.out.trans ho35⟩
    have h1:=HN.out
    have h2:=hrg5.cnt_le
    omega
   have HI0:=Θ hi0
   have HDI:=Θ hdomI
   have HDI2:=Θ hdomI2
   have HRI:=Θ erI
   clear hi0 hdomI hdomI2 hrg5 hO5 hsz5 erI
   go_frame
   go_loopw [8] (fun _ wi=>∃left2 cnt2,BiS w w1 bO bG rO nG bI rI nI O L f left cnt' p f2 left2 cnt2 wi) (fun _ wi=>wi.rangeLeft bI rI)
   case atStart=>exact⟨_,_,HI0.out⟩
   case round=>
    obtain⟨left2,cnt2',hI⟩:=hrel
    have HI:=Θ hI
    clear hI
    go_wp2_with (at_next;refine ΩcZ _ rfl _ rfl 37 ΩeI bI rI nI f2 left2 cnt2' rfl HI.out.inn ?_ ?_)
    ·intro hc0 hl0
     have hnew:BaS w w1 bO bG rO nG O L f (fun x=>left x&& !eqv x (idV p)) cnt' wr:=by
      obtain⟨n',hm',hn'⟩:=HI.out.out
      refine⟨⟨n',hm'.congr (fun x=>ΩeQ (fun g _=>cIn_end HAP.out HPO.out HLK.out (fun g' hv=>hl0 _ (HDI2.out g' hv)) g) x),by omega⟩,HI.out.grp,HI.out.one,HI.out.only,fun x hx=>HSUB.out x ?_⟩
      simp only[Ωoa] at hx
      exact hx.1
     have HNEW:=Θ hnew
     clear hnew hl0 hc0
     go_wp2_with fail
     go_roundw
     case rel=>exact⟨_,_,HNEW.out⟩
     case measure=>rw[HNEW.out.grp.left_eq,HMEAS.out];omega
    ·intro key u w6 cnt3 hfk hlk hrg6 hlt6 hgr6 hsz6 hen6
     obtain⟨h,rfl,hv,hok,hmem⟩:=HDI.out key u hfk
     have hl:=hok.root
     have hS6:Only (fun j=>j=rI) wr w6:=(Only.refl (fun j=>j=rI) wr).grown hgr6 (fun j e=>by cases e;exact .inl rfl)
     have hrIw:w.heap.size≤rI∧w1.heap.size≤rI:=by
      have h1:=HO1.out.size;have h2:=HONE3.out.size;have h3:=HOI.out.size;have h4:=X3.out.size;have h5:=HRI.out
      omega
     obtain⟨N,eN⟩:∃N,N=w6.heap.size:=⟨_,rfl⟩
     have hb0:Blk (w6.alloc (.cells hd0C 37)) N tHd hd0C:=by rw[eN];exact Blk.new w6 _ _
     have hst:=Ωax hb0 rfl hl
     rw[eN] at hst
     have hnw:=Ωal
     have hb1:HdAt ((w6.alloc (.cells hd0C 37)).setCells N 0 (hdC h)) N h:=Ωj hb0 (by rw[Ωo hl];rfl)
     have hO7:Only Ωa w6 ((w6.alloc (.cells hd0C 37)).setCells N 0 (hdC h)):=Ωb ((Only.refl _ _).alloc _) N 0 (.inr (by omega)) _
     obtain⟨n',hm',hn'⟩:=HI.out.out
     have hm6:=(hm'.only hS6 (fun e=>hrIO e.symm)).only hO7 (fun e=>e)
     have hg6:=(HI.out.grp.only hS6 (fun e=>hrIG.1 e.symm) (fun e=>hrIG.2 e.symm)).only hO7 (fun e=>e) (fun e=>e)
     have hi6:=hrg6.only hO7 (fun e=>e) (fun e=>e)
     have ho6:Only (fun j=>j=bO) w1 ((w6.alloc (.cells hd0C 37)).setCells N 0 (hdC h)):=(HI.out.one.grown hgr6 (fun j e=>by cases e;exact .inr hrIw.2)).trans (hO7.mono (fun _ _ h=>h.elim))
     have hw6:Only Ωa w ((w6.alloc (.cells hd0C 37)).setCells N 0 (hdC h)):=(HI.out.only.grown hgr6 (fun j e=>by cases e;exact .inr hrIw.1)).trans hO7
     have HM6:=Θ hm6
     have HG6:=Θ hg6
     have HI6:=Θ hi6
     have HO6:=Θ ho6
     have HW6:=Θ hw6
     have HB1:=Θ hb1
     have EN:=Θ eN
     have HV:=Θ hv
     have HOKH:=Θ hok
     have HMEM:=Θ hmem
     have HLK2:=Θ hlk
     have HN' :=Θ hn'
     have HMEAS2:=Θ (show wr.rangeLeft bI rI=cnt2' from HI.out.inn.left_eq)
     clear hm' hn' hm6 hg6 hi6 ho6 hw6 hb0 hb1 hO7 hS6 hgr6 hsz6 hrg6 hfk hlk hv hok hmem eN hrIw
     unfold hdV at hen6
     go_upto_region 8 with(fail)
     rw[←EN.out]
     refine Ωf (fun Z=>MapV Z Tryz.prog 37 bO n' (cntF (cIn O L left p left2) (L.map (·.head)))∧ΩaE Z Tryz.prog 3 bG rO nG f (fun x=>left x&& !eqv x (idV p)) cnt'∧ΩaE Z Tryz.prog 37 bI rI nI f2 (fun x=>left2 x&& !eqv x (hdV h)) cnt3∧Only (fun j=>j=bO) w1 Z∧Only Ωa w Z∧HdAt Z N h) ⟨HM6.out,HG6.out,HI6.out,HO6.out,HW6.out,HB1.out⟩ ?_
     rintro Z ⟨zm,zg,zi,zo,zw,zb⟩
     clear hen6 hst hnw HM6 HG6 HI6 HO6 HW6 HB1
     obtain⟨kl,hkl⟩:=ΩmI HOKH.out
     obtain⟨cn,ecn⟩:∃cn,cn=cIn O L left p left2 h:=⟨_,rfl⟩
     have hcn:cn≤1001:=by rw[ecn];exact Ωnz (cIn_le _ _ _ _ _ _) (by omega)
     have zmd:MapV Z.drew Tryz.prog 37 bO n' (cntF (cIn O L left p left2) (L.map (·.head))):=zm.only (Only.refl Ωa Z).drew (fun e=>e)
     have hval:(cntF (cIn O L left p left2) (L.map (·.head)) (.agg (hdC h).toArray)).getD (.int .i64 0)= .int .i64 (cn:Int):=by
      have h1:=Ωj6 (c:=cIn O L left p left2) HMEM.out
      unfold hdV at h1
      rw[h1,←ecn]
      by_cases h0:0<cn
      ·rw[ΩnV h0];rfl
      ·rw[ΩnU h0,show cn=0 by omega];rfl
     have hlk:(Instr.lookup 176 (.map (some bO)) (.agg (hdC h).toArray) false).run Tryz.prog Z.drew= .ok (.int .i64 (cn:Int)) Z.drew:=by
      rw[zmd.look ΩeI Tryz.underlying176 (ΩfF _) hkl,hval]
     obtain⟨v0,st,w7,hent,hg7,hst7⟩:=zmd.entry Ωl0 Tryz.underlying176 (by rw[Ωg];have:=HN'.out;omega) ΩfF hkl
     have hlk7:(Instr.lookup 176 (.map (some bO)) (.agg (hdC h).toArray) false).run Tryz.prog w7= .ok (.int .i64 (cn:Int)) w7:=by
      rw[zmd.entry_look Ωl0 Tryz.underlying176 (by rw[Ωg];have:=HN'.out;omega) ΩfF hkl hent,hval]
     obtain⟨w8,hst8,hm8,hg8⟩:=hst7 w7 (.int .i64 ((cn:Int)+1)) (World.grownBy.refl _ _)
     have hld:=ΩC (Ωd (Blk.drew zb)) HOKH.out.root
     have hwr:IntKind.i64.wrap ((cn:Int)+1)=(cn:Int)+1:=ΩnH _ (by omega)
     have hS8:Only (fun j=>j=bO) Z w8:=((Only.refl (fun j=>j=bO) Z).drew.grown hg7 (fun j e=>by cases e;exact .inl rfl)).grown hg8 (fun j e=>by cases e;exact .inl rfl)
     have hrGO:rI≠bO∧bI≠bO∧bG≠bO:=⟨hrIO,fun e=>hbOI e.symm,fun e=>hbOG e.symm⟩
     have hnew:BiS w w1 bO bG rO nG bI rI nI O L f left cnt' p f2 (fun x=>left2 x&& !eqv x (hdV h)) cnt3 w8:=by
      refine⟨⟨n' +1,hm8.congr (fun x=> ?_),by have:=HN'.out;omega⟩,zg.only hS8 hrGO.2.2 hrOb,zi.only hS8 hrGO.2.1 hrGO.1,zo.trans hS8,zw.trans' hS8 (fun i hi e=>by subst e;omega)⟩
      rw[ΩeQ (fun g _=>cIn_step HV.out HLK2.out g) x,←cntF_put HMEM.out x,ecn]
      rfl
     have HNEW:=Θ hnew
     clear hval hnew zm zg zi zo zw zb zmd hst7 hm8 hg8 hg7 hkl ecn hS8
     go_region
     all_goals
      go_wp2_with fail
      go_roundw
      case rel=>exact⟨_,_,HNEW.out⟩
      case measure=>rw[HNEW.out.inn.left_eq,HMEAS2.out];omega
end
section
open Go.RowKit Go.Shelf
attribute [local go_sem ↓ high] ΩG Ωaq ΩQ
theorem votesFor_le(O:List Pers)(L:List Vt)(h:Hd):Ω1 O L h≤O.length:=by rw[ΩdZ];exact List.countP_le_length
end
section
open Go.RowKit Go.Shelf
attribute [local go_sem ↓ high] ΩG Ωaj
noncomputable def hitB(p:Pers)(h:Hd)(v:Vt):Bool:=eqHd v.head h&&cnts p v
structure CrS(w:World)(B:Nat)(h:Hd)(ov:Value)(O:List Pers)(sv:Value)(L:List Vt)(W:World):Prop where
 h:HdAt W B h
 off:Ωa6 W ov O
 vts:VtSl W sv L
 only:Only Ωa w W
theorem CrS.keep{w:World}{B:Nat}{h:Hd}{ov:Value}{O:List Pers}{sv:Value}{L:List Vt}{W W' :World}(hS:CrS w B h ov O sv L W)(ho:Only Ωa W W'):CrS w B h ov O sv L W' :=
 ⟨Blk.only hS.h ho (fun e=>e),hS.off.only ho,hS.vts.only ho,hS.only.trans ho⟩
theorem rqcert_any(P:List Pers)(hP:ΩS P)(hlen:P.length≤1000)(pv:Value)(h:Hd)(ok:h.Ok)(L:List Vt)(hok:Ω4 L)(hL:L.length≤100000)(sv:Value)(w:World)(hp:Ωa6 w pv P)(hs:VtSl w sv L):
  Calls Tryz.prog 140 #[setV pv,.agg (hdC h).toArray,sv] w fun e w' =>e= .returned (.bool (Ωba P h L))∧Only Ωa w w' :=by
 have hq:∀W,Only Ωa w W→Calls Tryz.prog 99 #[.agg #[pv,.int .i64 0,.slice none 0 0,.slice none 0 0,.int .i64 0,.int .i64 0]] W fun e w' =>∃ov,e= .returned ov∧Ωa6 w' ov (offs P)∧Only Ωa W w' :=fun W ho=>ΩdN P hlen pv W (hp.only ho)
 have hol:(offs P).length≤1000:=Ωnz (Ωce P) hlen
 have hO:ΩS (offs P):=hP.offs
 have HC:Hid (Ωba P h L=decide (ΩfC ((offs P).length :Int)≤(Ω1 (offs P) L h:Int))):=Θ (by
  unfold Ωba
  rw[Ωjc]
  simp)
 obtain⟨O,eO⟩:∃O,O=offs P:=⟨_,rfl⟩
 rw[←eO] at hq hol hO HC
 have hnd:∀W,Calls Tryz.prog 171 #[.int .i64 (O.length:Int)] W fun e w' =>e= .returned (.int .i64 (ΩfC (O.length:Int)))∧w' =W:=fun W=>rqneed_any (O.length:Int) ⟨by omega,by omega⟩ W
 obtain⟨ni,eni⟩:∃ni,ni=ΩfC (O.length:Int):=⟨_,rfl⟩
 rw[←eni] at hnd HC
 obtain⟨B,eB⟩:∃B,B=w.heap.size+1:=⟨_,rfl⟩
 obtain⟨X,eX⟩:∃X,X=(w.alloc (.cells #[pv,.int .i64 0,.slice none 0 0,.slice none 0 0,.int .i64 0,.int .i64 0] 50)).alloc (.cells (hdC h).toArray 37):=⟨_,rfl⟩
 have hb2:HdAt X B h:=by
  have h2:=Blk.new (w.alloc (.cells #[pv,.int .i64 0,.slice none 0 0,.slice none 0 0,.int .i64 0,.int .i64 0] 50)) tHd (hdC h).toArray
  rw[Ωnw,←eB] at h2
  rw[eX];exact h2
 have ho2:Only Ωa w X:=by rw[eX];exact((Only.refl _ _).alloc _).alloc _
 have HB2:=Θ hb2
 have HO2:=Θ ho2
 have HSV:=Θ (hs.only ho2)
 have HOF:=Θ hq
 have HND:=Θ hnd
 have EX:=Θ eX
 have EB:=Θ eB
 have HOK:=Θ hok
 have HPO:=Θ hO
 have HL:=Θ ok.root
 clear hb2 ho2 hq hnd eni eB eX hp hs hok hO ok hP hlen eO
 unfold setV
 go_enter Tryz.func140,Tryz.ntmps140
 go_upto_region 1 with(fail)
 rw[←EB.out]
 have k0:((w.alloc (.cells #[pv,.int .i64 0,.slice none 0 0,.slice none 0 0,.int .i64 0,.int .i64 0] 50)).alloc (.cells (hdC h).toArray 37)).heap.size =w.heap.size+2:=by simp
 clear k0
 go_wp2_with fail
 rw[←EX.out]
 refine(HOF.out _ HO2.out).mono ?_
 rintro e1 w1 ⟨ov,rfl,hov,ho1⟩
 have hS1:CrS w B h ov O sv L w1:=⟨Blk.only HB2.out ho1 (fun e=>e),hov,HSV.out.only ho1,HO2.out.trans ho1⟩
 have HS1:=Θ hS1
 obtain⟨A,cap,rfl,hlc,hcm,_⟩:=hov
 obtain⟨A2,cap2,rfl,hlc2,hcm2,_⟩:=HSV.out
 clear hS1 ho1 HOF
 go_wp2_with fail
 go_loopw [8,9,10,11] (fun n i _ _ wr=>∃k:Nat,i= .int .i64 k∧n= .int .i64 ((O.take k).countP (fun p=>hasV L p h):Nat)∧k≤O.length∧CrS w B h (.slice A O.length cap) O (.slice A2 L.length cap2) L wr) (fun _ i _ _ _=>O.length-(intOf i).toNat)
 case atStart=>exact⟨0,rfl,rfl,Ωoh _,HS1.out⟩
 case round=>
  obtain⟨k,rfl,rfl,hk,hS⟩:=hrel
  obtain⟨cn,ecn⟩:∃cn,cn=(O.take k).countP (fun p=>hasV L p h):=⟨_,rfl⟩
  rw[←ecn]
  have hcn:cn≤k:=by rw[ecn];exact Ωnz List.countP_le_length (ΩoM _ _)
  have HS:=Θ hS
  have ECN:=Θ ecn
  clear hS ecn
  by_cases hlt:k<O.length
  ·obtain⟨p,hp⟩:∃p,O[k]? =some p:=⟨_,Ωnu hlt⟩
   have hpo:=HPO.out p (ΩnE hp)
   have ik:(k:Int)<(O.length:Int):=by omega
   have ik0:(0:Int)≤(k:Int):=by omega
   have htk:(O.take (k+1)).countP (fun p=>hasV L p h)=cn+if L.any (hitB p h) then 1 else 0:=by
    rw[ΩnO,hp,ΩnS,List.countP_append,ECN.out,List.countP_singleton]
    rfl
   obtain⟨wo,rfl⟩:∃wo:World,wo=wr:=⟨_,rfl⟩
   have HP:=Θ hp
   have HPK:=Θ hpo
   have HTK:=Θ htk
   clear hp hpo htk
   go_wp2_with fail
   go_loopw [10,11] (fun vd j wi=>∃m:Nat,j= .int .i64 m∧m≤L.length∧vd= .bool ((L.take m).any (hitB p h))∧CrS w B h (.slice A O.length cap) O (.slice A2 L.length cap2) L wi) (fun _ j _=>L.length-(intOf j).toNat)
   case atStart=>exact⟨0,rfl,Ωoh _,rfl,HS.out⟩
   case round=>
    obtain⟨m,rfl,hm,rfl,hI⟩:=hrel
    obtain⟨vb,evb⟩:∃vb,vb=(L.take m).any (hitB p h):=⟨_,rfl⟩
    rw[←evb]
    have HI:=Θ hI
    have EVB:=Θ evb
    clear hI evb
    by_cases hml:m<L.length
    ·obtain⟨v,hv⟩:∃v,L[m]? =some v:=⟨_,Ωnu hml⟩
     have im:(m:Int)<(L.length:Int):=by omega
     have im0:(0:Int)≤(m:Int):=by omega
     cases vb with
     |true=>
      have hany:L.any (hitB p h)=true:=by
       obtain⟨x,hx,hx2⟩:=List.any_eq_true.1 EVB.out.symm
       exact List.any_eq_true.2 ⟨x,ΩnY hx,hx2⟩
      have hn:(O.take (k+1)).countP (fun p=>hasV L p h)=cn+1:=by rw[HTK.out,hany];rfl
      have HN:=Θ hn
      clear hany hn hv
      go_wp2_with fail
      go_roundw
      case rel=>exact⟨k+1,by go_num,by rw[HN.out];go_num,by omega,HI.out⟩
      case measure=>simp[intOf];omega
     |false=>
      have vo:=HOK.out v (ΩnE hv)
      obtain⟨A',cap',hA',_,_,hr⟩:=HI.out.vts
      obtain⟨g,o,hA2,hg,hrv⟩:=hr m v hv
      simp only[Value.slice.injEq] at hA'
      obtain⟨rfl,-,rfl⟩:=hA'
      subst hA2
      obtain⟨A3,cap3,hA3,_,_,hr3⟩:=HI.out.off
      obtain⟨g3,o3,hA4,hg3,hrp⟩:=hr3 k p HP.out
      simp only[Value.slice.injEq] at hA3
      obtain⟨rfl,-,rfl⟩:=hA3
      subst hA4
      have hl:=vo.head.root
      have hstep:(L.take (m+1)).any (hitB p h)=hitB p h v:=by
       rw[ΩnO,hv,ΩnS,List.any_append,←EVB.out]
       simp
      have HSTEP:=Θ hstep
      have d0:=ΩC (Ω8 hrv hl) hl
      have d1:=ΩC (Ωd HI.out.h) HL.out
      have heq:=fun W=>ΩmN v.head h hl HL.out W
      cases he:eqHd v.head h with
      |false=>
       rw[he] at heq
       have hh:hitB p h v=false:=by unfold hitB;rw[he];rfl
       have HH:=Θ hh
       have r0:∀n,(Ωa4 (.pointer (some ⟨g,o+m*36+1,none⟩))).run Tryz.prog (wr.drewN n)= .ok (.agg (hdC v.head).toArray) (wr.drewN n):=fun n=>ΩC (Ω8 (Ωu hrv ((Only.refl _ _).drewN n)) hl) hl
       have r1:∀n,(Ωa4 (.pointer (some ⟨B,0,none⟩))).run Tryz.prog (wr.drewN n)= .ok (.agg (hdC h).toArray) (wr.drewN n):=fun n=>ΩC (Ωd (Blk.drewN HI.out.h n)) HL.out
       clear hh he hrp hrv hr hr3 hv hstep vo d0 d1
       go_upto_region 10 with(fail)
       go_quiet (fail)
       all_goals
        go_wp2_with fail
        go_roundw
        case rel=>exact⟨m+1,by go_num,by omega,by rw[HSTEP.out,HH.out],HI.out.keep ((Only.refl _ _).drewN _)⟩
        case measure=>simp[intOf];omega
      |true=>
       rw[he] at heq
       have hh:hitB p h v=cnts p v:=by unfold hitB;rw[he];rfl
       have HH:=Θ hh
       obtain⟨γ,hγ⟩:∃γ,γ=cnts p v:=⟨_,rfl⟩
       have hct:∀W,Calls Tryz.prog 170 #[.agg #[.int .i64 p.id,.int .i64 p.role,.int .i64 p.pub],.agg (vtC v).toArray] W fun e w' =>e= .returned (.bool γ)∧Only Ωa W w' :=fun W=>by rw[hγ];exact rcounts_any p HPK.out v vo W
       have HCT:=Θ hct
       have HG:=Θ hγ
       have q0:∀W,Only Ωa wr W→W.cell? ⟨g3,o3+k*3,none⟩=some (.int .i64 p.id):=fun W ho=>ho.cell_some (hrp 0 _ rfl) (fun e=>e)
       have q1:∀W,Only Ωa wr W→W.cell? ⟨g3,o3+k*3+1,none⟩=some (.int .i64 p.role):=fun W ho=>ho.cell_some (hrp 1 _ rfl) (fun e=>e)
       have q2:∀W,Only Ωa wr W→W.cell? ⟨g3,o3+k*3+2,none⟩=some (.int .i64 p.pub):=fun W ho=>ho.cell_some (hrp 2 _ rfl) (fun e=>e)
       have e0:∀W,Only Ωa wr W→(Ωa4 (.pointer (some ⟨g,o+m*36+1,none⟩))).run Tryz.prog W= .ok (.agg (hdC v.head).toArray) W:=fun W ho=>ΩC (Ω8 (Ωu hrv ho) hl) hl
       have e1:∀W,Only Ωa wr W→(Ωa4 (.pointer (some ⟨B,0,none⟩))).run Tryz.prog W= .ok (.agg (hdC h).toArray) W:=fun W ho=>ΩC (Ωd (Blk.only HI.out.h ho (fun e=>e))) HL.out
       have e2:∀W,Only Ωa wr W→(Ωbm (.pointer (some ⟨g,o+m*36,none⟩))).run Tryz.prog W= .ok (.agg (vtC v).toArray) W:=fun W ho=>ΩX (Ωu hrv ho) hl
       have hS0:Only Ωa wr wr.drew:=(Only.refl _ _).drew
       clear hct hγ hh he hr hr3 hv hstep vo d0 d1
       go_upto_region 10 with(fail)
       go_region_held3 (fun w' =>Only Ωa wr w') (first|assumption)
        (first
         |(go_at_call 170;refine(HCT.out _).mono ?_;rintro e5 w5 ⟨rfl,ho5⟩;have hS5:Only Ωa wr w5:=Only.trans (by assumption) ho5;clear ho5))
       all_goals
        have HNEW:=Θ (HI.out.keep hS5)
        clear hS5 q0 q1 q2 e0 e1 e2 hrp hrv
        go_wp2_with fail
        go_roundw
        case rel=>exact⟨m+1,by go_num,by omega,by rw[HSTEP.out,HH.out,HG.out],HNEW.out⟩
        case measure=>simp[intOf];omega
    ·obtain rfl:m=L.length:=by omega
     have hn:(O.take (k+1)).countP (fun p=>hasV L p h)=cn+if vb then 1 else 0:=by rw[HTK.out,EVB.out,Ωok]
     have HN:=Θ hn
     clear hn
     cases vb with
     |true=>
      go_wp2_with fail
      go_roundw
      case rel=>exact⟨k+1,by go_num,by rw[HN.out];go_num,by omega,HI.out⟩
      case measure=>simp[intOf];omega
     |false=>
      go_wp2_with fail
      go_roundw
      case rel=>exact⟨k+1,by go_num,by rw[HN.out];rfl,by omega,HI.out⟩
      case measure=>simp[intOf];omega
  ·obtain rfl:k=O.length:=by omega
   have hfin:Ω1 O L h=cn:=by rw[ΩdZ,ECN.out,Ωok]
   rw[hfin] at HC
   have hcl:cn≤1000:=by omega
   clear hfin
   go_wp2_with fail
   refine(HND.out _).mono ?_
   rintro e3 w3 ⟨rfl,rfl⟩
   go_wp2_with fail
   go_ret
   exact⟨Ωad HC.out.symm,HS.out.only⟩
end
end Go.Proofs.YtgalfohobgjelaaGreatDoor
