/-What is proved here:a secret's shares and commitments,by the program. Conditions:the coefficients are below the order,there are few of them. -/
import Derived.Test.YtpdlbmieciabmaaGreatDoorPk09
import Derived.Test.YtpdlbmieciabmaaGreatDoorPk14
import Derived.Test.YtpdlbmieciabmaaGreatDoorPk18
namespace Go.Proofs.YtpdlbmieciabmaaGreatDoor
open Go.RowKit Go.Shelf
attribute [local go_sem] Oper.semAt_some
attribute [local go_sem ↓ high] aph_eq
abbrev tSh:TypeId:=54
theorem shareI:RecI tSh 2 16:=recI_of (by kernel_rfl) (by kernel_rfl) (by kernel_rfl)
theorem shC_one(p:Int×Int):∀u∈shC p,u.oneCell' =true:=fun u hu=>by
 simp only[shC,List.mem_cons,List.not_mem_nil,or_false] at hu
 rcases hu with rfl|rfl<;>rfl
structure SpX(w:World)(A:Option Addr)(cap:Nat)(cs:List Nat)(cv ov:Value)(j:Nat)(W:World):Prop where
 box:Blk W w.heap.size 38 #[.slice A cs.length cap]
 com:OwnOf 3 inC 1 W w.heap.size cv cs.length (cmL cs)
 out:OwnOf tSh shC 2 W w.heap.size ov j (shL cs j)
 only:Only NoneOf w W
theorem SpX.none_{w:World}{A:Option Addr}{cap:Nat}{cs:List Nat}{cv ov:Value}{j:Nat}{W W' :World}(h:SpX w A cap cs cv ov j W)(ho:Only NoneOf W W'):SpX w A cap cs cv ov j W' :=
 ⟨h.box.only ho (fun e=>e),OwnOf.keep h.com ho (fun _ _ e=>e),OwnOf.keep h.out ho (fun _ _ e=>e),h.only.trans ho⟩
theorem SpX.put{w:World}{A:Option Addr}{cap:Nat}{cs:List Nat}{cv ov:Value}{j:Nat}{W:World}(h:SpX w A cap cs cv ov j W)(hj:j≤1000000000)(N:Nat)(hsrc:Blk W N tSh (shC (shP cs j)).toArray)(ty:TypeId):
  ∃A2 cap2 W2,(aph #[43,43] ty #[ov,.slice (some ⟨N,0,none⟩) 1 1]).run Tryz.prog W= .ok (.slice A2 (j+1) cap2) W2∧SpX w A cap cs cv (.slice A2 (j+1) cap2) (j+1) W2∧W.grownBy W2 ov.ownBlock:=by
 have hl:(shL cs j).length =j:=shL_len cs j
 obtain⟨A2,cap2,W2,hrun,k1,k2,_⟩:=run_append_rec (T:=43) Tryz.underlying43 shareI (by omega) (by omega) shC_len W w.heap.size ov (shL cs j) (shP cs j) (shC_one _) (by rw[hl];exact h.out) N hsrc (by rw[hl];exact hj) h.only.size ty
 rw[hl] at hrun k1
 have ho:=grown_ts k2 h.out
 refine⟨A2,cap2,W2,hrun,⟨h.box.only ho (fun hs=> ?_),OwnOf.ts h.com ho (by decide),by rw[shL_snoc];exact k1,only_base h.only (ts_base ho) (Nat.le_refl _)⟩,k2⟩
 have h2:=hs.2 _ _ h.box
 revert h2
 decide
def vaL(cs:List Nat)(x k:Nat):Nat:=sumP (cs.take k) x%lagN
theorem vaL_le(cs:List Nat)(x k:Nat):vaL cs x k≤9223372036854775807:=by
 have h:sumP (cs.take k) x%lagN<lagN:=Nat.mod_lt _ (by decide)
 have h2:lagN=1152921504606845789:=rfl
 unfold vaL
 omega
theorem vaL_step{cs:List Nat}{k c x:Nat}(h:cs[k]? =some c):(vaL cs x k+c*(x^k%lagN)%lagN)%lagN=vaL cs x (k+1):=by
 unfold vaL
 rw[sumP_take h]
 exact step_pow rfl rfl
theorem vaL_all(cs:List Nat)(x:Nat):vaL cs x cs.length=sumP cs x%lagN:=by unfold vaL;rw[List.take_length]
structure SpI(Wl:World)(S x:Nat)(cs:List Nat)(k:Nat)(X:World):Prop where
 blk:Blk X S tSh #[.int .i64 (x:Int),.int .i64 ((vaL cs x k:Nat):Int)]
 only:Only NoneOf Wl X
 le:k≤cs.length
 big:S+2≤X.heap.size
theorem SpI.grown{Wl:World}{S x:Nat}{cs:List Nat}{k:Nat}{X Y:World}{row:Option Nat}(h:SpI Wl S x cs k X)(hg:X.grownBy Y row)(hr:∀r,row=some r→Wl.heap.size≤r∧∃o:Obj,X.heap[r]? =some o∧o.isCells=false):SpI Wl S x cs k Y:=
 ⟨(cells_stay hg (fun r e=>(hr r e).2) h.blk).trans h.blk,h.only.grown hg (fun k hk=> .inr (hr k hk).1),h.le,Nat.le_trans h.big hg.size⟩
theorem SpI.only_{Wl:World}{S x:Nat}{cs:List Nat}{k:Nat}{X Y:World}(h:SpI Wl S x cs k X)(ho:Only NoneOf X Y):SpI Wl S x cs k Y:=⟨h.blk.only ho (fun e=>e),h.only.trans ho,h.le,Nat.le_trans h.big ho.size⟩
theorem mul_le(a b:Nat):a*b%lagN≤9223372036854775807:=by
 have h:a*b%lagN<lagN:=Nat.mod_lt _ (by decide)
 have h2:lagN=1152921504606845789:=rfl
 omega
theorem SpI.put{Wl:World}{S x:Nat}{cs:List Nat}{k:Nat}{X:World}(h:SpI Wl S x cs k X)(hS:Wl.heap.size≤S)(hk:k+1≤cs.length):SpI Wl S x cs (k+1) (X.setCell ⟨S,1,none⟩ (.int .i64 ((vaL cs x (k+1):Nat):Int))):=
 ⟨Blk.set_ h.blk 1 _,h.only.setCell (p:=⟨S,1,none⟩) (.inr hS) _,hk,by rw[World.size_setCell];exact h.big⟩
theorem marks_none{base:Nat}{W W' :World}{ds:List Deferred}(h:Marks base W ds)(ho:Only NoneOf W W'):Marks base W' ds:=h.kept fun D _ hd=>(ho.block D (Array.getElem?_eq_some_iff.1 hd).1 (fun e=>e)).trans hd
theorem marks_grown{base:Nat}{W W' :World}{ds:List Deferred}{b:Option Nat}(h:Marks base W ds)(hg:W.grownBy W' b)(hb:∀g,b=some g→∃cs t fr,W.heap[g]? =some (.cells cs t fr)):Marks base W' ds:=h.kept fun D _ hd=>(hg.block D (Array.getElem?_eq_some_iff.1 hd).1 (fun e=>by
 obtain⟨cs,t,fr,hc⟩:=hb D e.symm
 rw[hd] at hc
 cases hc)).trans hd
def SplE(cs:List Nat)(n:Nat)(w:World)(e:Ending)(w' :World):Prop:=∃sv cv,e= .returned (.tuple #[sv,cv,.bool true])∧OwnOf tSh shC 2 w' w.heap.size sv n (shL cs n)∧OwnOf 3 inC 1 w' w.heap.size cv cs.length (cmL cs)∧Only NoneOf w w'
set_option maxRecDepth 100000 in
set_option maxHeartbeats 4000000 in
theorem split_sh(cs:List Nat)(hc:∀c∈cs,c<lagN)(h1:1≤cs.length)(n:Nat)(hn:cs.length≤n)(hn2:n≤100)(v:Value)(w:World)(h:CfAt w v cs):Calls Tryz.prog 63 #[v,.int .i64 (n:Int)] w (SplE cs n w):=by
 have hsel:=fun W (ho:Only NoneOf w W)=>selected_any cs hc (by omega) v W (h.only ho)
 obtain⟨A,cap,rfl,hat⟩:=h
 have HSEL:=Lib.hid hsel
 have HAT:=Lib.hid hat
 have HC:=Lib.hid hc
 obtain⟨X0,eX⟩:∃X,X=w.alloc (.cells #[.slice A cs.length cap] 38):=⟨_,rfl⟩
 have hX:Only NoneOf w X0:=by rw[eX];exact(Only.refl _ _).alloc _
 have hb:Blk X0 w.heap.size 38 #[.slice A cs.length cap]:=by rw[eX];exact Blk.new w _ _
 have HX:=Lib.hid hX
 have HB:=Lib.hid hb
 have EX:=Lib.hid eX
 clear hsel hat hc hX hb eX
 refine callsIn_wide.1 (callsIn_of_wp_marks (n:=9) Tryz.func63 rfl trivial ?_ rfl)
 simp only[Tryz.ntmps63,List.size_toArray,List.length_cons,List.length_nil,Nat.reduceAdd,Nat.reduceSub,Array.replicate_succ,Array.replicate_zero,List.push_toArray,List.append_toArray,List.nil_append,List.cons_append]
 refine wpIn_wide.2 ?_
 have b0:=HB.out.cell 0
 rw[EX.out] at b0
 go_wp2_with fail
 rw[←EX.out]
 refine(HSEL.out X0 HX.out).mono ?_
 rintro e w1 ⟨y,rfl,ho1⟩
 have b1:=ho1.cell_some (HB.out.cell 0) (fun e=>e)
 have hb1:=HB.out.only ho1 (fun e=>e)
 have HB1:=Lib.hid hb1
 have HO1:=Lib.hid (HX.out.trans ho1)
 have c1:¬(cs.length:Int)<1:=by omega
 have c2:¬(100:Int)<(cs.length:Int):=by omega
 have c3:¬(n:Int)<(cs.length:Int):=by omega
 have c4:¬(1000:Int)<(n:Int):=by omega
 have c5:¬n<cs.length:=by omega
 have d5:decide (n<cs.length)=false:=decide_eq_false c5
 have d1:decide ((cs.length:Int)<1)=false:=decide_eq_false c1
 have d2:decide ((100:Int)<(cs.length:Int))=false:=decide_eq_false c2
 have d3:decide ((n:Int)<(cs.length:Int))=false:=decide_eq_false c3
 have d4:decide ((1000:Int)<(n:Int))=false:=decide_eq_false c4
 clear b0 hb1 ho1
 go_wp2_with fail
 go_loopw [9,47] (fun cv i wr=>∃j:Nat,i= .int .i64 j∧j≤cs.length∧OwnOf 3 inC 1 wr w.heap.size cv j (cmL (cs.take j))∧Blk wr w.heap.size 38 #[.slice A cs.length cap]∧Only NoneOf w wr) (fun _ i _=>cs.length-(intOf i).toNat)
 case atStart=>exact⟨0,rfl,Nat.zero_le _,OwnOf.nil _ _ _ _ _,HB1.out,HO1.out⟩
 case round=>
  obtain⟨j,rfl,hj,hown,hbx,ho⟩:=hrel
  have HOWN:=Lib.hid hown
  have HBX:=Lib.hid hbx
  have HO:=Lib.hid ho
  clear hown hbx ho
  by_cases hlt:j<cs.length
  ·obtain⟨x,hx⟩:∃x,cs[j]? =some x:=⟨_,List.getElem?_eq_getElem hlt⟩
   obtain⟨g,o,rfl,hg,hr⟩:=HAT.out j x hx
   have c0:wr.cell? ⟨g,o+j,none⟩=some (.int .i64 (x:Int)):=HO.out.cell_some hr (fun e=>e)
   have hxq:=HC.out x (List.mem_of_getElem? hx)
   have hxl:x≤9223372036854775807:=by have h2:lagN=1152921504606845789:=rfl;omega
   have hen:cmL (cs.take (j+1))=cmL (cs.take j)++[((gp x:Nat):Int)]:=by rw[List.take_add_one,hx,Option.toList_some,cmL_snoc]
   have HEN:=Lib.hid hen
   have HP:=Lib.hid (fun W=>powG x hxl W)
   have ij:(j:Int)<(cs.length:Int):=by omega
   have j0:(0:Int)≤(j:Int):=by omega
   have wj:IntKind.i64.wrap ((j:Int)+1)=(j:Int)+1:=IntWalk.i64_in _ (by omega)
   clear hx hen hr hxq
   go_wp2_with fail
   refine(HP.out wr).mono ?_
   rintro e w2 ⟨rfl,ho2⟩
   have hlj:(cmL (cs.take j)).length =j:=by rw[cmL_len,List.length_take];omega
   have how2:OwnOf 3 inC 1 w2 w.heap.size u9 (cmL (cs.take j)).length (cmL (cs.take j)):=by rw[hlj];exact OwnOf.keep HOWN.out ho2 (fun _ _ e=>e)
   have hO2:=HO.out.trans ho2
   obtain⟨A2,cap2,W2,hrun,hown2,ho3⟩:=run_append_int (w2.alloc (.cells #[.int .i64 ((gp x:Nat):Int)] 3)) w.heap.size u9 _ ((gp x:Nat):Int) (OwnOf.keep how2 ((Only.refl NoneOf _).alloc _) (fun _ _ e=>e)) (by rw[hlj];omega) (by have:=hO2.size;simp;omega) w2.heap.size (Blk.new w2 _ _) 38
   rw[hlj] at hrun hown2
   have hO3:Only NoneOf w W2:=only_base (hO2.alloc _) (ts_base ho3) (Nat.le_refl _)
   have hbx2:=(HBX.out.only ho2 (fun e=>e)).alloc (.cells #[.int .i64 ((gp x:Nat):Int)] 3)
   have hbx3:=hbx2.only ho3 (fun hs=>by
    have h2:=hs.2 _ _ hbx2
    revert h2
    decide)
   have HOWN3:=Lib.hid hown2
   have HO3:=Lib.hid hO3
   have HBX3:=Lib.hid hbx3
   clear how2 hown2 ho2 ho3 hO2 hO3 hbx2 hbx3
   go_wp2_with fail
   go_roundw
   case rel=>exact⟨j+1,rfl,by omega,by rw[HEN.out];exact HOWN3.out,HBX3.out,HO3.out⟩
   case measure=>simp[intOf];omega
  ·obtain rfl:j=cs.length:=by omega
   have ij:¬(cs.length:Int)<(cs.length:Int):=by omega
   have hst:SpX w A cap cs u9 (.slice none 0 0) 0 wr:=⟨HBX.out,by have:=HOWN.out;rwa [List.take_length] at this,OwnOf.nil _ _ _ _ _,HO.out⟩
   have HST:=Lib.hid hst
   clear hst
   go_wp2_with fail
   refine wp_loop (fun a W=>∃(x:Nat) (ov:Value) (ds:List Deferred) (t14 t15 t16 t57 t58 t59 t60 t61 t62 t63 t64 t65 t66 t67 t68 t69 t70 t71 t72 t73 t74 t75 t76 t77 t78 t79 t80 t81 t82 t83 t84 t85:Value),a={tmps:= #[.slice A cs.length cap,.int .i64 (n:Int),.pointer (some ⟨w.heap.size,0,none⟩),undef,.slice none 0 0,.slice none 0 0,.bool false,y,.slice none 0 0,u9,undef,u11,ov,.int .i64 ((x:Int)+1),t14,t15,t16,.tuple #[y,.slice none 0 0],.slice A cs.length cap,.tuple #[y,.slice none 0 0],y,.slice none 0 0,.slice A cs.length cap,.int .i64 (cs.length:Int),.bool false,.bool false,.slice A cs.length cap,.int .i64 (cs.length:Int),.bool false,.bool false,.bool false,.slice none 0 0,.int .i64 0,.bool false,.bool false,.bool false,.int .i64 (n:Int),.slice A cs.length cap,.int .i64 (cs.length:Int),.bool false,.bool false,.bool false,.int .i64 (n:Int),.bool false,.bool false,.slice A cs.length cap,.int .i64 (cs.length:Int),.int .i64 (cs.length:Int),.bool false,u49,u50,u51,u52,u53,u54,u55,u56,t57,t58,t59,t60,t61,t62,t63,t64,t65,t66,t67,t68,t69,t70,t71,t72,t73,t74,t75,t76,t77,t78,t79,t80,t81,t82,t83,t84,t85,undef,undef],defers:=ds}∧x≤n∧Marks w.heap.size W ds∧SpX w A cap cs u9 ov x W) (fun a _=>n+2-(intOf (a.tmps.getD 13 undef)).toNat) ?st ?rd
   case st=>exact⟨0,.slice none 0 0,[],undef,undef,undef,undef,undef,undef,undef,undef,undef,undef,undef,undef,undef,undef,undef,undef,undef,undef,undef,undef,undef,undef,undef,undef,undef,undef,undef,undef,undef,undef,undef,undef,rfl,Nat.zero_le _,trivial,HST.out⟩
   case rd=>
    rintro a W ⟨x,ov,ds,t14,t15,t16,t57,t58,t59,t60,t61,t62,t63,t64,t65,t66,t67,t68,t69,t70,t71,t72,t73,t74,t75,t76,t77,t78,t79,t80,t81,t82,t83,t84,t85,rfl,hx,hm,hs⟩
    have HM:=Lib.hid hm
    have HS:=Lib.hid hs
    clear hm hs
    by_cases hlx:x<n
    ·have i1:(x:Int)+1≤(n:Int):=by omega
     obtain⟨S,eS⟩:∃S,S=W.heap.size:=⟨_,rfl⟩
     obtain⟨x1,ex1⟩:∃x1,x1=x+1:=⟨_,rfl⟩
     have ex2:(x1:Int)=(x:Int)+1:=by omega
     obtain⟨W0,eW0⟩:∃W0,W0=(W.alloc (.cells #[.int .i64 ((x:Int)+1),.int .i64 0] tSh)).alloc (.cells #[.int .i64 ((x:Int)+1)] 3):=⟨_,rfl⟩
     have hW0:Only NoneOf W W0:=by rw[eW0];exact((Only.refl _ _).alloc _).alloc _
     have hsz:W0.heap.size=S+2:=by rw[eW0,eS];simp
     have hI0:SpI W S x1 cs 0 W0:=by
      refine⟨?_,hW0,Nat.zero_le _,by omega⟩
      rw[eW0,eS,ex2]
      exact(Blk.new W _ _).alloc _
     have hpc:W0.cell? ⟨S+1,0,none⟩=some (.int .i64 (x1:Int)):=by
      have h:=Blk.new (W.alloc (.cells #[.int .i64 ((x:Int)+1),.int .i64 0] tSh)) 3 #[.int .i64 ((x:Int)+1)]
      rw[World.size_alloc,←eS,←eW0,←ex2] at h
      exact h.cell 0
     have HI0:=Lib.hid hI0
     have HPC:=Lib.hid hpc
     have EW0:=Lib.hid eW0
     have ES:=Lib.hid eS
     have EX1:=Lib.hid ex2
     have HSl:=Lib.hid (show W.heap.size≤S by omega)
     have HSZ:=Lib.hid hsz
     clear hW0 hsz hI0 hpc eW0 eS ex1 ex2
     go_wp2_with fail
     refine(powers_any _ _).mono ?_
     rintro e w2 ⟨rfl,rfl⟩
     go_wp2_with fail
     rw[←EW0.out]
     rw[←ES.out]
     refine(wpIn_wide (n:=9)).1 (wpIn_rangeFunc_ends (F:=Fence.wide) rfl (show 1≤9 by omega) (gf:=123) (lb:= #[.pointer (some ⟨S+1,0,none⟩)]) rfl trivial (enters_of Tryz.func123 (by kernel_rfl) rfl)
      (powers_ends 8 (S+1) (cs.length+2) x1 (by omega) (by have:=EX1.out;omega) W0 HPC.out) keptA_t (keptA_b ?hA) (Below.refl _ _) ?sz
      (fun k X=>SpI W S x1 cs k X) (fun m X=>∃k,m=k+1∧SpI W S x1 cs k X∧k=cs.length) 4 ?ownI ?ownX ?bound ?start
      (fun k a' _=>a' ={tmps:= #[.slice A cs.length cap,.int .i64 (n:Int),.pointer (some ⟨w.heap.size,0,none⟩),undef,.slice none 0 0,.slice none 0 0,.bool false,y,.slice none 0 0,u9,undef,u11,ov,.int .i64 ((x:Int)+1),.pointer (some ⟨S,0,none⟩),.int .i64 (k:Int),.int .i64 ((x1^k%lagN:Nat):Int),.tuple #[y,.slice none 0 0],.slice A cs.length cap,.tuple #[y,.slice none 0 0],y,.slice none 0 0,.slice A cs.length cap,.int .i64 (cs.length:Int),.bool false,.bool false,.slice A cs.length cap,.int .i64 (cs.length:Int),.bool false,.bool false,.bool false,.slice none 0 0,.int .i64 0,.bool false,.bool false,.bool false,.int .i64 (n:Int),.slice A cs.length cap,.int .i64 (cs.length:Int),.bool false,.bool false,.bool false,.int .i64 (n:Int),.bool false,.bool false,.slice A cs.length cap,.int .i64 (cs.length:Int),.int .i64 (cs.length:Int),.bool false,u49,u50,u51,u52,u53,u54,u55,u56,.int .i64 ((x:Int)+1),.int .i64 (n:Int),.bool true,t60,t61,.int .i64 ((x:Int)+1),.agg #[.int .i64 ((x:Int)+1),.int .i64 0],.int .i64 ((x:Int)+1),.func (.func 123) #[] #[.pointer (some ⟨S+1,0,none⟩)],.int .i64 (k:Int),.int .i64 ((x1^k%lagN:Nat):Int),t68,t69,t70,t71,t72,t73,t74,t75,t76,t77,t78,t79,t80,t81,t82,t83,t84,t85,undef,undef],defers:=[]}) ?ownA ?assign ?body ?stop)
     case hA=>have:=HSZ.out;omega
     case sz=>exact fun _=>rfl
     case ownI=>exact fun _ _ _ _ h hg hr=>h.grown hg (fun r e=>⟨by have h1:=(hr r e).1;have h2:=HSZ.out;have h3:=HSl.out;omega,(hr r e).2⟩)
     case ownX=>
      rintro m X Y row ⟨k,h1,h2,h3⟩ hg hr
      exact⟨k,h1,h2.grown hg (fun r e=>⟨by have h1:=(hr r e).1;have h2:=HSZ.out;have h3:=HSl.out;omega,(hr r e).2⟩),h3⟩
     case bound=>exact fun k X h=>by have:=h.le;omega
     case start=>exact HI0.out
     case ownA=>exact fun _ _ _ _ _ _ h _ _=>h
     case assign=>
      rintro rd k X K hI hK
      gi_wp2
      exact hK _ _ (KeepsFrom.refl _ _) rfl hI rfl
     case body=>
      rintro rd k a' X hI rfl
      have hsX:=HS.out.none_ hI.only
      have bb:=hsX.box.cell 0
      have HI:=Lib.hid hI
      have hkl:=hI.le
      clear hI hsX
      by_cases hlt:k<cs.length
      ·obtain⟨c,hck⟩:∃c,cs[k]? =some c:=⟨_,List.getElem?_eq_getElem hlt⟩
       obtain⟨g,o,eA,hg,c00⟩:=HAT.out k c hck
       subst eA
       have hcq:=HC.out c (List.mem_of_getElem? hck)
       have hcl:c≤9223372036854775807:=by have h2:lagN=1152921504606845789:=rfl;omega
       have hM:=fun Y=>mulQ c (x1^k%lagN) hcl (powS_lt x1 k) Y
       have hadd:=fun Y=>addQ (vaL cs x1 k) (c*(x1^k%lagN)%lagN) (vaL_le cs x1 k) (mul_le _ _) Y
       rw[vaL_step hck] at hadd
       obtain⟨mm,emm⟩:∃m,m=c*(x1^k%lagN)%lagN:=⟨_,rfl⟩
       rw[←emm] at hM hadd
       obtain⟨pp,epp⟩:∃p,p=x1^k%lagN:=⟨_,rfl⟩
       rw[←epp] at hM⊢
       obtain⟨y1,ey1⟩:∃y,y=vaL cs x1 k:=⟨_,rfl⟩
       obtain⟨y2,ey2⟩:∃y,y=vaL cs x1 (k+1):=⟨_,rfl⟩
       rw[←ey1,←ey2] at hadd
       have HMUL:=Lib.hid hM
       have HADD:=Lib.hid hadd
       have EY1:=Lib.hid ey1
       have EY2:=Lib.hid ey2
       clear hM emm epp ey1 ey2
       have k0:(0:Int)≤(k:Int):=by omega
       have k1:(k:Int)<(cs.length:Int):=by omega
       have k2:((k:Int)==(cs.length:Int))=false:=by rw[beq_eq_false_iff_ne];omega
       have k3:¬(k:Int)=(cs.length:Int):=by omega
       have k4:¬k=cs.length:=by omega
       clear hcq hadd
       gi_wp2
       refine wpIn_region_flag rd _ (Tl (fun Y=>SpI W S x1 cs k Y∧Only NoneOf X Y) (fun Y=>SpI W S x1 cs (k+1) Y∧Only (·=S) X Y) 10) (by kernel_rfl) (by kernel_rfl) (by kernel_rfl) (by kernel_rfl) (by kernel_rfl) (Tl.start _ ⟨HI.out.only_ (Only.refl _ _).drew,(Only.refl _ _).drew⟩) ?_
       refine wpFlag_op (.pointer (some ⟨S,1,none⟩)) (by rfl) ?_ ?_
       ·intro L Y hdn hr hC
        obtain⟨h0,hk⟩:=hC.ahead (by kernel_rfl) hdn hr (by decide)
        simp[flagAt,go_sem,flagUpon]
        exact hk _ h0
       simp only[Act.put,List.setIfInBounds_toArray,List.set_cons_succ,List.set_cons_zero]
       refine wpFlag_op (.int .i64 (y1:Int)) (by rfl) ?_ ?_
       ·intro L Y hdn hr hC
        obtain⟨h0,hk⟩:=hC.ahead (by kernel_rfl) hdn hr (by decide)
        have e:=h0.1.blk.cell 1
        rw[←EY1.out] at e
        simp[flagAt,go_sem,flagUpon,e]
        exact hk _ h0
       simp only[Act.put,List.setIfInBounds_toArray,List.set_cons_succ,List.set_cons_zero]
       refine wpFlag_op (.slice (some ⟨g,o,none⟩) cs.length cap) (by rfl) ?_ ?_
       ·intro L Y hdn hr hC
        obtain⟨h0,hk⟩:=hC.ahead (by kernel_rfl) hdn hr (by decide)
        have e:=(HS.out.none_ h0.1.only).box.cell 0
        simp[flagAt,go_sem,flagUpon,e]
        exact hk _ h0
       simp only[Act.put,List.setIfInBounds_toArray,List.set_cons_succ,List.set_cons_zero]
       refine wpFlag_op (.int .i64 (k:Int)) (by rfl) ?_ ?_
       ·intro L Y hdn hr hC
        obtain⟨h0,hk⟩:=hC.ahead (by kernel_rfl) hdn hr (by decide)
        simp[flagAt,go_sem,flagUpon]
        exact hk _ h0
       simp only[Act.put,List.setIfInBounds_toArray,List.set_cons_succ,List.set_cons_zero]
       refine wpFlag_op (.pointer (some ⟨g,o+k,none⟩)) (by rfl) ?_ ?_
       ·intro L Y hdn hr hC
        obtain⟨h0,hk⟩:=hC.ahead (by kernel_rfl) hdn hr (by decide)
        simp[flagAt,go_sem,flagUpon,k0,k1]
        exact hk _ h0
       simp only[Act.put,List.setIfInBounds_toArray,List.set_cons_succ,List.set_cons_zero]
       refine wpFlag_op (.int .i64 (c:Int)) (by rfl) ?_ ?_
       ·intro L Y hdn hr hC
        obtain⟨h0,hk⟩:=hC.ahead (by kernel_rfl) hdn hr (by decide)
        have e:=(HS.out.only.trans h0.1.only).cell_some c00 (fun e=>e)
        simp[flagAt,go_sem,flagUpon,e]
        exact hk _ h0
       simp only[Act.put,List.setIfInBounds_toArray,List.set_cons_succ,List.set_cons_zero]
       refine wpFlag_op (.int .i64 (pp:Int)) (by rfl) ?_ ?_
       ·intro L Y hdn hr hC
        obtain⟨h0,hk⟩:=hC.ahead (by kernel_rfl) hdn hr (by decide)
        simp[flagAt,go_sem,flagUpon]
        exact hk _ h0
       simp only[Act.put,List.setIfInBounds_toArray,List.set_cons_succ,List.set_cons_zero]
       refine wpFlag_op (.int .i64 (mm:Int)) (by rfl) ?_ ?_
       ·intro L Y hdn hr hC
        obtain⟨h0,hk⟩:=hC.ahead (by kernel_rfl) hdn hr (by decide)
        simp[flagAt,go_sem,flagUpon]
        refine(HMUL.out Y).mono ?_
        rintro e Y2 ⟨rfl,q,rfl⟩
        have hn:Only NoneOf Y (Y.drewN q):=(Only.refl _ _).drewN q
        exact⟨rfl,hk _ ⟨h0.1.only_ hn,h0.2.trans hn⟩⟩
       simp only[Act.put,List.setIfInBounds_toArray,List.set_cons_succ,List.set_cons_zero]
       refine wpFlag_op (.int .i64 (y2:Int)) (by rfl) ?_ ?_
       ·intro L Y hdn hr hC
        obtain⟨h0,hk⟩:=hC.ahead (by kernel_rfl) hdn hr (by decide)
        simp[flagAt,go_sem,flagUpon]
        refine(HADD.out Y).mono ?_
        rintro e Y2 ⟨rfl,rfl⟩
        exact⟨rfl,hk _ h0⟩
       simp only[Act.put,List.setIfInBounds_toArray,List.set_cons_succ,List.set_cons_zero]
       refine wpFlag_op (.pointer (some ⟨S,1,none⟩)) (by rfl) ?_ ?_
       ·intro L Y hdn hr hC
        obtain⟨h0,hk⟩:=hC.ahead (by kernel_rfl) hdn hr (by decide)
        simp[flagAt,go_sem,flagUpon]
        exact hk _ h0
       simp only[Act.put,List.setIfInBounds_toArray,List.set_cons_succ,List.set_cons_zero]
       refine wpFlag_op (undef) (by rfl) ?_ ?_
       ·intro L Y hdn hr hC
        obtain⟨h0,hk⟩:=hC.last hr
        have e1:=h0.1.blk.cell 1
        have e2:=h0.1.blk.frozen 1
        simp[flagAt,go_sem,flagUpon,e1,e2]
        have h9:Only (·=S) X (Y.setCell ⟨S,1,none⟩ (.int .i64 (y2:Int))):=(h0.2.mono (S' :=(·=S)) (fun _ _ e=>e.elim)).setCell (p:=⟨S,1,none⟩) (.inl rfl) _
        exact hk _ ⟨by rw[EY2.out];exact h0.1.put HSl.out (by omega),h9⟩
       unfold wpFlag
       intro L Y hall hC
       obtain⟨h1,h2⟩:=hC.2 (hall 10 (by decide))
       have H1:=Lib.hid h1
       have H2:=Lib.hid h2
       clear h1 h2 hC hall
       gi_wp2
       refine⟨(keepsOthers_of_only H2.out (fun j hj=> ?_)).from _,H2.out.block _ ?_ ?_,H1.out⟩
       ·have hj2:j=S:=hj
        subst hj2
        exact⟨_,HI.out.blk,rfl⟩
       ·have:=HI.out.big;omega
       ·intro e
        have e2:S+1=S:=e
        omega
      ·obtain rfl:k=cs.length:=by omega
       gi_wp2
       exact⟨rfl,KeepsFrom.refl _ _,cs.length,rfl,HI.out,rfl⟩
     case stop=>
      rintro D m X hD ⟨k,rfl,hI,rfl⟩ hK
      have hsX:=HS.out.none_ hI.only
      have hy:=vaL_all cs x1
      obtain⟨y1,ey1⟩:∃y,y=vaL cs x1 cs.length:=⟨_,rfl⟩
      have esh:shP cs x=((x:Int)+1,(y1:Int)):=by
       unfold shP
       rw[ey1,hy,show x1=x+1 by have:=EX1.out;omega]
       push_cast
       rfl
      have hbS:=hI.blk
      rw[←ey1,EX1.out] at hbS
      have l0:=hbS.cell 0
      have l1:=hbS.cell 1
      obtain⟨A2,cap2,W2,hrun,hs2,hg2⟩:=(hsX.none_ ((Only.refl NoneOf X).alloc (.cells (shC (shP cs x)).toArray tSh))).put (by omega) X.heap.size (Blk.new X _ _) 43
      rw[esh] at hrun
      have hrun2:(aph #[43,43] 43 #[ov,.slice (some ⟨X.heap.size,0,none⟩) 1 1]).run Tryz.prog (X.alloc (.cells #[.int .i64 ((x:Int)+1),.int .i64 (y1:Int)] tSh))= .ok (.slice A2 (x+1) cap2) W2:=hrun
      have hm2:Marks w.heap.size W2 ds:=marks_grown (marks_none (marks_none HM.out hI.only) ((Only.refl NoneOf X).alloc _)) hg2 (fun gg e=>by
       obtain⟨cur,hk⟩:=own_there (OwnOf.keep hsX.out ((Only.refl NoneOf X).alloc (.cells (shC (shP cs x)).toArray tSh)) (fun _ _ e=>e)) e
       exact⟨_,_,_,hk⟩)
      have hwD:W2.heap[D]? =some (.deferred (some [])):=by
       have h1:(X.alloc (.cells (shC (shP cs x)).toArray tSh)).heap[D]? =some (.deferred (some [])):=(Below.heap_alloc X _ D (Array.getElem?_eq_some_iff.1 hK).1).trans hK
       refine(hg2.block D (Array.getElem?_eq_some_iff.1 h1).1 (fun e=> ?_)).trans h1
       obtain⟨cur,hk⟩:=own_there (OwnOf.keep hsX.out ((Only.refl NoneOf X).alloc (.cells (shC (shP cs x)).toArray tSh)) (fun _ _ e=>e)) e.symm
       unfold Blk at hk
       rw[h1] at hk
       cases hk
      have hdn:∀d∈ds,d.target≠.collected D:=fun d hd e=>by
       obtain⟨D',e1,hlt⟩:=HM.out.lt d hd
       rw[e1] at e
       cases e
       have h2:=HSZ.out
       have h3:=ES.out
       omega
      have HM2:=Lib.hid hm2
      have HS2:=Lib.hid hs2
      have HWD:=Lib.hid hwD
      have HDN:=Lib.hid hdn
      have HDB:=Lib.hid (show w.heap.size≤D by have h2:=HSZ.out;have h3:=ES.out;have h4:=HS.out.only.size;omega)
      have wx:IntKind.i64.wrap ((x:Int)+1+1)=(x:Int)+1+1:=IntWalk.i64_in _ (by omega)
      clear hsX hy ey1 esh hbS hrun hs2 hg2 hm2 hwD hdn hI hK
      gi_wp2
      go_wp2_with fail
      exact⟨⟨x+1,_,_,_,_,_,_,_,_,_,_,_,_,_,_,_,_,_,_,_,_,_,_,_,_,_,_,_,_,_,_,_,_,_,_,rfl,by omega,⟨⟨D,rfl,HDB.out,HWD.out,HDN.out⟩,HM2.out⟩,HS2.out⟩,by simp[intOf];omega⟩
    ·obtain rfl:x=n:=by omega
     have i1:¬(x:Int)+1≤(x:Int):=by omega
     go_wp2_with fail
     refine marks_leave (base:=w.heap.size) (fun W=>SpX w A cap cs u9 ov x W) ?_ ?_ ds W HM.out HS.out
     ·intro W D hD hd h
      exact⟨Blk.put_far h.box (fun e=>by subst e;have h2:=h.box;unfold Blk at h2;rw[hd] at h2;cases h2) _,ownsRow_putObj h.com _ hd rfl,ownsRow_putObj h.out _ hd rfl,h.only.grown (grownBy_putObj' _ D _) (fun k e=>by cases e;exact .inr hD)⟩
     ·intro W h
      exact⟨_,results_tmp3 rfl _ _ _,_,_,rfl,h.out,h.com,h.only⟩
end Go.Proofs.YtpdlbmieciabmaaGreatDoor
