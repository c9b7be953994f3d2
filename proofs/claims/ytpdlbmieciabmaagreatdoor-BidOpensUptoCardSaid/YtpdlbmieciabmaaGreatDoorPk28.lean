/-What is proved here:several parts. shares that fit are opened and joined,by the reference. Conditions:the shares are those of a polynomial,at different numbers below the order. · shares are joined to the secret,by the reference. Conditions:the shares are those of a polynomial,at the numbers of a ring. · an envelope's key is opened from shares,by the reference. Conditions:the shares are those of a polynomial,at different numbers below the order. · shares in a ring of officers;an envelope's key and its box. No conditions. · the law on opening a bid from its shares. Conditions:the numbers are ints and bytes. -/
import Derived.Test.YtpdlbmieciabmaaGreatDoorPk10
import Derived.Test.YtpdlbmieciabmaaGreatDoorPk19
import Derived.Test.YtpdlbmieciabmaaGreatDoorPk20
import Derived.Test.YtpdlbmieciabmaaGreatDoorPk21
import Derived.Test.YtpdlbmieciabmaaGreatDoorPk22
import Derived.Test.YtpdlbmieciabmaaGreatDoorPk23
import Derived.Test.YtpdlbmieciabmaaGreatDoorPk24
import Derived.Test.YtpdlbmieciabmaaGreatDoorPk25
import Derived.Test.YtpdlbmieciabmaaGreatDoorPk26
import Derived.Deep.Quiet
import Derived.BigRegion
namespace Go.Proofs.YtpdlbmieciabmaaGreatDoor
open Go.RowKit Go.Shelf
def shX(cs xs:List Nat):List (Int×Int):=xs.map fun x:Nat=>((x:Int),((sumP cs x%lagN:Nat):Int))
theorem shX_len(cs xs:List Nat):(shX cs xs).length =xs.length:=by simp[shX]
theorem shX_get{cs xs:List Nat}{i x:Nat}(h:xs[i]? =some x):(shX cs xs)[i]? =some ((x:Int),((sumP cs x%lagN:Nat):Int)):=by
 unfold shX
 rw[List.getElem?_map,h]
 rfl
theorem sh_at{w:World}{v:Value}{ps:List (Int×Int)}(h:SlOf shC 2 w v ps):∃A cap,v= .slice A ps.length cap∧∀(j:Nat) (p:Int×Int),ps[j]? =some p→∃g o,A=some ⟨g,o,none⟩∧g<w.heap.size∧w.cell? ⟨g,o+j*2,none⟩=some (.int .i64 p.1)∧w.cell? ⟨g,o+j*2+1,none⟩=some (.int .i64 p.2):=by
 obtain⟨A,cap,h1,_,_,h4⟩:=h
 refine⟨A,cap,h1,fun j p hp=> ?_⟩
 obtain⟨g,o,hA,hg,hr⟩:=h4 j p hp
 exact⟨g,o,hA,hg,hr 0 _ rfl,hr 1 _ rfl⟩
theorem in_at'{w:World}{u:Value}{ns:List Int}(h:SlOf inC 1 w u ns):∃A cap,u= .slice A ns.length cap∧∀(j:Nat) (x:Int),ns[j]? =some x→∃g o,A=some ⟨g,o,none⟩∧g<w.heap.size∧w.cell? ⟨g,o+j,none⟩=some (.int .i64 x):=by
 obtain⟨A,cap,h1,_,_,h4⟩:=h
 refine⟨A,cap,h1,fun j x hx=> ?_⟩
 obtain⟨g,o,hA,hg,hr⟩:=h4 j x hx
 exact⟨g,o,hA,hg,by simpa using hr 0 _ rfl⟩
theorem cmL_get{cs:List Nat}{i c:Nat}(h:cs[i]? =some c):(cmL cs)[i]? =some ((gp c:Nat):Int):=by
 unfold cmL
 rw[List.getElem?_map,h]
 rfl
set_option maxRecDepth 100000 in
theorem rcommits_any(cs:List Nat)(h1:1≤cs.length)(h2:cs.length≤100)(v:Value)(w:World)(h:SlOf inC 1 w v (cmL cs)):Calls Tryz.prog 56 #[v] w fun e w' =>e= .returned (.bool true)∧w' =w:=by
 obtain⟨A,cap,rfl,hat⟩:=in_at' h
 rw[cmL_len]
 have HAT:=Lib.hid hat
 have d1:decide ((cs.length:Int)<1)=false:=decide_eq_false (by omega)
 have d2:decide ((100:Int)<(cs.length:Int))=false:=decide_eq_false (by omega)
 clear hat h
 go_enter Tryz.func56,Tryz.ntmps56
 go_wp2_with fail
 go_loopw [3] (fun i wr=>∃j:Nat,i= .int .i64 j∧j≤cs.length∧wr=w) (fun i _=>cs.length-(intOf i).toNat)
 case atStart=>exact⟨0,rfl,Nat.zero_le _,by first|rfl|trivial⟩
 case round=>
  obtain⟨j,rfl,hj,rfl⟩:=hrel
  by_cases hlt:j<cs.length
  ·obtain⟨x,hx⟩:∃x,cs[j]? =some x:=⟨_,List.getElem?_eq_getElem hlt⟩
   obtain⟨g,o,rfl,hg,c0⟩:=HAT.out j _ (cmL_get hx)
   have HM:=Lib.hid (fun W=>rmemberG x W)
   have ij:(j:Int)<(cs.length:Int):=by omega
   have j0:(0:Int)≤(j:Int):=by omega
   have wj:IntKind.i64.wrap ((j:Int)+1)=(j:Int)+1:=IntWalk.i64_in _ (by omega)
   clear hx
   go_wp2_with fail
   refine(HM.out _).mono ?_
   rintro e w1 ⟨rfl,rfl⟩
   go_wp2_with fail
   go_roundw
   case rel=>exact⟨j+1,by go_num,by omega,by first|rfl|trivial⟩
   case measure=>simp[intOf];omega
  ·obtain rfl:j=cs.length:=by omega
   have ij:¬(cs.length:Int)<(cs.length:Int):=by omega
   go_wp2_with fail
   go_ret
   exact⟨rfl,rfl⟩
set_option maxRecDepth 100000 in
theorem rinside_any(x y:Nat)(hx0:1≤x)(hx:x<lagN)(hy:y<lagN)(w:World):Calls Tryz.prog 84 #[.agg #[.int .i64 (x:Int),.int .i64 (y:Int)]] w fun e w' =>e= .returned (.bool true)∧Only NoneOf w w' :=by
 have hv:=lagN_val
 have d1:decide ((1:Int)≤(x:Int))=true:=decide_eq_true (by omega)
 have d2:decide ((x:Int)<1152921504606845789)=true:=decide_eq_true (by omega)
 have d3:decide ((0:Int)≤(y:Int))=true:=decide_eq_true (by omega)
 have d4:decide ((y:Int)<1152921504606845789)=true:=decide_eq_true (by omega)
 have e1:(1:Int)≤(x:Int):=by omega
 have e2:(x:Int)<1152921504606845789:=by omega
 have e3:(0:Int)≤(y:Int):=by omega
 have e4:(y:Int)<1152921504606845789:=by omega
 clear hv hx0 hx hy
 go_enter Tryz.func84,Tryz.ntmps84
 go_wp2_with fail
 go_ret
 exact⟨rfl,(Only.refl _ _).alloc _⟩
theorem powP_le(a n:Nat):a^n%P0≤9223372036854775807:=by
 have h:a^n%P0<P0:=Nat.mod_lt _ (by decide)
 have h2:P0=2305843009213691579:=rfl
 omega
theorem rmulP(a b:Nat)(ha:a≤9223372036854775807)(hb:b≤9223372036854775807)(w:World):Calls Tryz.prog 85 #[.int .i64 (a:Int),.int .i64 (b:Int),.int .i64 2305843009213691579] w fun e w' =>e= .returned (.int .i64 ((a*b%P0:Nat):Int))∧w' =w:=by
 have h:=rmul_any (a:Int) (b:Int) 2305843009213691579 (by omega) (by omega) (by omega) (by omega) (by omega) (by omega) w
 rwa [show(a:Int)*(b:Int)%2305843009213691579=((a*b%P0:Nat):Int) by rw[Int.natCast_emod,Int.natCast_mul];rfl] at h
theorem rpowP(c n:Nat)(hn:n≤9223372036854775807)(w:World):Calls Tryz.prog 86 #[.int .i64 ((gp c:Nat):Int),.int .i64 (n:Int),.int .i64 2305843009213691579] w fun e w' =>e= .returned (.int .i64 ((pw (gp c) n:Nat):Int))∧w' =w:=by
 obtain⟨b1,b2⟩:=gp_bd c
 have h:=rpow_any ((gp c:Nat):Int) n 2305843009213691579 (by omega) (by omega) hn (by omega) (by omega) w
 have e:powI ((gp c:Nat):Int) n 2305843009213691579=pw (gp c) n:=by
  have e1:res ((gp c:Nat):Int) 2305843009213691579=gp c:=by unfold res;omega
  have e2:Int.toNat 2305843009213691579=P0:=rfl
  unfold powI pw
  rw[e1,e2]
 rwa [e] at h
theorem gp_le(n:Nat):gp n≤9223372036854775807:=by have:=gp_bd n;omega
theorem pw_le(a n:Nat):pw a n≤9223372036854775807:=powP_le a n
set_option maxRecDepth 100000 in
set_option maxHeartbeats 1000000 in
theorem rfits_any(cs:List Nat)(h2:cs.length≤100)(x:Nat)(hx0:1≤x)(hx:x<lagN)(v:Value)(w:World)(h:SlOf inC 1 w v (cmL cs)):Calls Tryz.prog 57 #[v,.agg #[.int .i64 (x:Int),.int .i64 ((sumP cs x%lagN:Nat):Int)]] w fun e w' =>e= .returned (.bool true)∧Only NoneOf w w' :=by
 obtain⟨y,ey⟩:∃y,y=sumP cs x%lagN:=⟨_,rfl⟩
 rw[←ey]
 have hy:y<lagN:=by rw[ey];exact Nat.mod_lt _ lagN_pos
 have hfin:gp (sumP cs x)=gp y:=by rw[ey,lagN_Q0,gp_mod]
 have hv:=lagN_val
 have HIN:=Lib.hid (fun W=>rinside_any x y hx0 hx hy W)
 have HPY:=Lib.hid (fun W=>rpowG y (by omega) W)
 have hxl:x≤9223372036854775807:=by omega
 obtain⟨A,cap,rfl,hat⟩:=in_at' h
 rw[cmL_len]
 have HAT:=Lib.hid hat
 have HFIN:=Lib.hid hfin
 obtain⟨X,eX⟩:∃X,X=w.alloc (.cells #[.int .i64 (x:Int),.int .i64 (y:Int)] tSh):=⟨_,rfl⟩
 obtain⟨B,eB⟩:∃B,B=w.heap.size:=⟨_,rfl⟩
 have HX:=Lib.hid (show Only NoneOf w X by rw[eX];exact(Only.refl _ _).alloc _)
 have HB:=Lib.hid (show Blk X B tSh #[.int .i64 (x:Int),.int .i64 (y:Int)] by rw[eX,eB];exact Blk.new w _ _)
 have EX:=Lib.hid eX
 have EB:=Lib.hid eB
 clear hat h ey hy hfin hv hx hx0 eX eB
 go_enter Tryz.func57,Tryz.ntmps57
 go_wp2_with fail
 rw[←EX.out]
 rw[←EB.out]
 refine(HIN.out X).mono ?_
 rintro e w1 ⟨rfl,ho1⟩
 have HO1:=Lib.hid ho1
 have b0:=ho1.cell_some (HB.out.cell 0) (fun e=>e)
 have b1:=ho1.cell_some (HB.out.cell 1) (fun e=>e)
 clear ho1
 go_wp2_with fail
 go_loopw [5,6,7] (fun p q i wr=>∃j:Nat,i= .int .i64 j∧j≤cs.length∧p= .int .i64 ((gp (sumP (cs.take j) x):Nat):Int)∧q= .int .i64 ((x^j%lagN:Nat):Int)∧wr=w1) (fun _ _ i _=>cs.length-(intOf i).toNat)
 case atStart=>exact⟨0,rfl,Nat.zero_le _,rfl,rfl,by first|rfl|trivial⟩
 case round=>
  obtain⟨j,rfl,hj,rfl,rfl,rfl⟩:=hrel
  by_cases hlt:j<cs.length
  ·obtain⟨c,hc⟩:∃c,cs[j]? =some c:=⟨_,List.getElem?_eq_getElem hlt⟩
   obtain⟨g,o,rfl,hg,c00⟩:=HAT.out j _ (cmL_get hc)
   have c0:wr.cell? ⟨g,o+j,none⟩=some (.int .i64 ((gp c:Nat):Int)):=(HX.out.trans HO1.out).cell_some c00 (fun e=>e)
   have hfs:gp (sumP (cs.take j) x)*pw (gp c) (x^j%lagN)%P0=gp (sumP (cs.take (j+1)) x):=by
    rw[sumP_take hc,lagN_Q0]
    exact fit_step rfl
   have hps:x^j%lagN*x%lagN=x^(j+1)%lagN:=step_power rfl
   obtain⟨p,ep⟩:∃p,p=gp (sumP (cs.take j) x):=⟨_,rfl⟩
   obtain⟨q,eq⟩:∃q,q=x^j%lagN:=⟨_,rfl⟩
   have hpl:p≤9223372036854775807:=by rw[ep];exact gp_le _
   have hql:q≤9223372036854775807:=by rw[eq];exact powS_lt x j
   rw[←ep,←eq] at hfs
   rw[←eq] at hps
   rw[←ep,←eq]
   have HP:=Lib.hid (fun W=>rpowP c q hql W)
   obtain⟨r,er⟩:∃r,r=pw (gp c) q:=⟨_,rfl⟩
   have hrl:r≤9223372036854775807:=by rw[er];exact pw_le _ _
   have hM:=fun W=>rmulP p r hpl hrl W
   have hQ:=fun W=>rmulQ q x hql hxl W
   rw[←er] at hfs HP
   rw[hfs] at hM
   rw[hps] at hQ
   obtain⟨gg,egg⟩:∃gg,gg=gp c:=⟨_,rfl⟩
   rw[←egg] at HP c0
   have HM:=Lib.hid hM
   have HQ:=Lib.hid hQ
   have ij:(j:Int)<(cs.length:Int):=by omega
   have j0:(0:Int)≤(j:Int):=by omega
   have wj:IntKind.i64.wrap ((j:Int)+1)=(j:Int)+1:=IntWalk.i64_in _ (by omega)
   clear hc hfs hps ep eq hM hQ er egg c00
   go_wp2_with fail
   refine(HP.out _).mono ?_
   rintro e w2 ⟨rfl,rfl⟩
   go_wp2_with fail
   refine(HM.out _).mono ?_
   rintro e w2 ⟨rfl,rfl⟩
   go_wp2_with fail
   refine(HQ.out _).mono ?_
   rintro e w2 ⟨rfl,rfl⟩
   go_wp2_with fail
   go_roundw
   case rel=>exact⟨j+1,by go_num,by omega,rfl,rfl,by first|rfl|trivial⟩
   case measure=>simp[intOf];omega
  ·obtain rfl:j=cs.length:=by omega
   have ij:¬(cs.length:Int)<(cs.length:Int):=by omega
   rw[List.take_length,HFIN.out]
   obtain⟨gy,egy⟩:∃gy,gy=gp y:=⟨_,rfl⟩
   rw[←egy] at HPY⊢
   go_wp2_with fail
   refine(HPY.out _).mono ?_
   rintro e w2 ⟨rfl,rfl⟩
   go_wp2_with fail
   go_ret
   exact⟨by simp,HX.out.trans HO1.out⟩
end Go.Proofs.YtpdlbmieciabmaaGreatDoor
namespace Go.Proofs.YtpdlbmieciabmaaGreatDoor
open Go.RowKit Go.Shelf
structure XsOk(xs:List Nat):Prop where
 le:xs.length≤100
 rng:∀x∈xs,1≤x∧x<lagN
 nd:∀(i j x:Nat),xs[i]? =some x→xs[j]? =some x→i=j
def yOf(cs:List Nat)(x:Nat):Nat:=sumP cs x%lagN
theorem yOf_lt(cs:List Nat)(x:Nat):yOf cs x<lagN:=Nat.mod_lt _ lagN_pos
theorem takeX_snoc{xs:List Nat}{k x:Nat}(h:xs[k]? =some x):xs.take (k+1)=xs.take k++[x]:=by rw[List.take_add_one,h];rfl
set_option maxRecDepth 100000 in
set_option maxHeartbeats 4000000 in
theorem rjoin_any(cs xs:List Nat)(c:Nat)(hc:cs.head? =some c)(hcl:c<lagN)(hl:cs.length=xs.length)(h1:1≤xs.length)(hx:XsOk xs)(hlag:lagOk xs=true)(v:Value)(w:World)(h:SlOf shC 2 w v (shX cs xs)):Calls Tryz.prog 58 #[.int .i64 (xs.length:Int),v] w fun e w' =>e= .returned (.tuple #[.int .i64 (c:Int),.bool true])∧Only NoneOf w w' :=by
 have hfin:joK xs (yOf cs) xs=c:=by
  rw[joK_join xs (yOf cs) (yOf_lt cs) xs]
  exact join_back hlag hl hc hcl
 have hinv:=(lag_ok hlag).1
 obtain⟨A,cap,rfl,hat0⟩:=sh_at h
 rw[shX_len]
 have hat:∀(j x:Nat),xs[j]? =some x→∃g o,A=some ⟨g,o,none⟩∧g<w.heap.size∧w.cell? ⟨g,o+j*2,none⟩=some (.int .i64 (x:Int))∧w.cell? ⟨g,o+j*2+1,none⟩=some (.int .i64 ((yOf cs x:Nat):Int)):=fun j x hj=>hat0 j _ (shX_get hj)
 have HAT:=Lib.hid hat
 have HFIN:=Lib.hid hfin
 have HINV:=Lib.hid hinv
 have HX:=Lib.hid hx
 have hl100:=hx.le
 have HLAG:=Lib.hid lagN_val
 have d1:decide ((xs.length:Int)<1)=false:=decide_eq_false (by omega)
 have d2:¬(xs.length:Int)<(xs.length:Int):=by omega
 clear hat hat0 h hfin hinv hx hlag hc hcl hl
 go_enter Tryz.func58,Tryz.ntmps58
 go_wp2_with fail
 go_loopw [6] (fun i wr=>∃j:Nat,i= .int .i64 j∧j≤xs.length∧Only NoneOf w wr) (fun i _=>xs.length-(intOf i).toNat)
 case atStart=>exact⟨0,rfl,Nat.zero_le _,Only.refl _ _⟩
 case round=>
  obtain⟨j,rfl,hj,ho⟩:=hrel
  have HO:=Lib.hid ho
  clear ho
  by_cases hlt:j<xs.length
  ·obtain⟨x,hxj⟩:∃x,xs[j]? =some x:=⟨_,List.getElem?_eq_getElem hlt⟩
   obtain⟨g,o,eA,hg,c00,c01⟩:=HAT.out j x hxj
   subst eA
   have c0:=HO.out.cell_some c00 (fun e=>e)
   have c1:=HO.out.cell_some c01 (fun e=>e)
   obtain⟨hx1,hx2⟩:=HX.out.rng x (List.mem_of_getElem? hxj)
   have HIN:=Lib.hid (fun W=>rinside_any x (yOf cs x) hx1 hx2 (yOf_lt cs x) W)
   obtain⟨y,ey⟩:∃y,y=yOf cs x:=⟨_,rfl⟩
   rw[←ey] at c1 HIN
   have ij:(j:Int)<(xs.length:Int):=by omega
   have j0:(0:Int)≤(j:Int):=by omega
   have wj:IntKind.i64.wrap ((j:Int)+1)=(j:Int)+1:=IntWalk.i64_in _ (by omega)
   have HXJ:=Lib.hid hxj
   clear ey hx1 hx2 hxj
   go_wp2_with fail
   refine(HIN.out _).mono ?_
   rintro e w1 ⟨rfl,ho1⟩
   have HO1:=Lib.hid (HO.out.trans ho1)
   clear ho1 c0 c1
   have d0:=HO1.out.cell_some c00 (fun e=>e)
   go_wp2_with fail
   go_loopw [7] (fun i wr=>∃k:Nat,i= .int .i64 k∧k≤j∧Only NoneOf w1 wr) (fun i _=>j-(intOf i).toNat)
   case atStart=>exact⟨0,rfl,Nat.zero_le _,Only.refl _ _⟩
   case round=>
    obtain⟨k,rfl,hk,hok⟩:=hrel
    have HOK:=Lib.hid hok
    clear hok
    by_cases hkj:k<j
    ·obtain⟨z,hzk⟩:∃z,xs[k]? =some z:=⟨_,List.getElem?_eq_getElem (show k<xs.length by omega)⟩
     obtain⟨g2,o2,e2,hg2,f00,_⟩:=HAT.out k z hzk
     simp only[Option.some.injEq,Addr.mk.injEq,and_true] at e2
     obtain⟨rfl,rfl⟩:=e2
     have f0:=(HO1.out.trans HOK.out).cell_some f00 (fun e=>e)
     have d1:=HOK.out.cell_some d0 (fun e=>e)
     have hne:¬z=x:=fun e=>by
      subst e
      have:=HX.out.nd k j z hzk HXJ.out
      omega
     have hne2:((z:Int)==(x:Int))=false:=by rw[beq_eq_false_iff_ne];omega
     have hne3:¬(z:Int)=(x:Int):=by omega
     have ik:(k:Int)<(j:Int):=by omega
     have k0:(0:Int)≤(k:Int):=by omega
     have kl:(k:Int)<(xs.length:Int):=by omega
     have wk:IntKind.i64.wrap ((k:Int)+1)=(k:Int)+1:=IntWalk.i64_in _ (by omega)
     clear hzk hne f00
     go_upto_region 11 with(fail)
     go_quiet (fail)
     go_wp2_with fail
     go_roundw
     case rel=>exact⟨k+1,by go_num,by omega,HOK.out.drewN _⟩
     case measure=>simp[intOf];omega
    ·obtain rfl:k=j:=by omega
     have ik:¬(k:Int)<(k:Int):=by omega
     have HO2:=Lib.hid (HO1.out.trans HOK.out)
     go_wp2_with fail
     go_roundw
     case rel=>exact⟨k+1,by go_num,by omega,HO2.out⟩
     case measure=>simp[intOf];omega
  ·obtain rfl:j=xs.length:=by omega
   go_wp2_with fail
   go_loopw [8,9] (fun t i W=>∃j:Nat,i= .int .i64 j∧j≤xs.length∧t= .int .i64 ((joK xs (yOf cs) (xs.take j):Nat):Int)∧Only NoneOf w W) (fun _ i _=>xs.length-(intOf i).toNat)
   case atStart=>exact⟨0,rfl,Nat.zero_le _,rfl,HO.out⟩
   case round=>
    obtain⟨j,rfl,hj,rfl,ho⟩:=hrel
    have HO2:=Lib.hid ho
    clear ho HO
    by_cases hlt:j<xs.length
    ·obtain⟨x,hxj⟩:∃x,xs[j]? =some x:=⟨_,List.getElem?_eq_getElem hlt⟩
     obtain⟨g,o,eA,hg,c00,c01⟩:=HAT.out j x hxj
     subst eA
     have c1:=HO2.out.cell_some c01 (fun e=>e)
     obtain⟨hx1,hx2⟩:=HX.out.rng x (List.mem_of_getElem? hxj)
     have HXJ:=Lib.hid hxj
     have HX2:=Lib.hid hx2
     have ij:(j:Int)<(xs.length:Int):=by omega
     have j0:(0:Int)≤(j:Int):=by omega
     have wj:IntKind.i64.wrap ((j:Int)+1)=(j:Int)+1:=IntWalk.i64_in _ (by omega)
     have HC0:=Lib.hid (HO2.out.cell_some c00 (fun e=>e))
     obtain⟨sm,esm⟩:∃s,s=joK xs (yOf cs) (xs.take j):=⟨_,rfl⟩
     rw[←esm]
     have ESM:=Lib.hid esm
     clear hx1 hx2 hxj c00 c01 esm
     go_wp2_with fail
     go_loopw [10,11,12] (fun a b i W=>∃k:Nat,i= .int .i64 k∧k≤xs.length∧a= .int .i64 ((abL (yOf cs x) x (xs.take k):Nat):Int)∧b= .int .i64 ((beL x (xs.take k):Nat):Int)∧Only NoneOf wr W) (fun _ _ i _=>xs.length-(intOf i).toNat)
     case atStart=>exact⟨0,rfl,Nat.zero_le _,rfl,rfl,Only.refl _ _⟩
     case round=>
      obtain⟨k,rfl,hk,rfl,rfl,hwn⟩:=hrel
      have HWN:=Lib.hid hwn
      clear hwn
      by_cases hkl:k<xs.length
      ·obtain⟨z,hzk⟩:∃z,xs[k]? =some z:=⟨_,List.getElem?_eq_getElem hkl⟩
       obtain⟨g2,o2,e2,hg2,f00,_⟩:=HAT.out k z hzk
       simp only[Option.some.injEq,Addr.mk.injEq,and_true] at e2
       obtain⟨rfl,rfl⟩:=e2
       have hzl:=(HX.out.rng z (List.mem_of_getElem? hzk)).2
       have ea:abL (yOf cs x) x (xs.take (k+1))=if z=x then abL (yOf cs x) x (xs.take k) else abL (yOf cs x) x (xs.take k)*z%lagN:=by rw[takeX_snoc hzk,abL_snoc]
       have eb:beL x (xs.take (k+1))=if z=x then beL x (xs.take k) else beL x (xs.take k)*((z+lagN-x)%lagN)%lagN:=by rw[takeX_snoc hzk,beL_snoc]
       have ik:(k:Int)<(xs.length:Int):=by omega
       have k0:(0:Int)≤(k:Int):=by omega
       have wk:IntKind.i64.wrap ((k:Int)+1)=(k:Int)+1:=IntWalk.i64_in _ (by omega)
       by_cases hkj:k=j
       ·subst hkj
        have hzx:z=x:=Option.some.inj (hzk.symm.trans HXJ.out)
        rw[if_pos hzx] at ea eb
        have EA:=Lib.hid ea
        have EB:=Lib.hid eb
        clear ea eb hzk hzx f00
        go_wp2_with fail
        go_roundw
        case rel=>exact⟨k+1,by go_num,by omega,by rw[EA.out],by rw[EB.out],HWN.out⟩
        case measure=>simp[intOf];omega
       ·have hzx:¬z=x:=fun e=>by
         subst e
         exact hkj (HX.out.nd k j z hzk HXJ.out)
        rw[if_neg hzx] at ea eb
        have hv:=HLAG.out
        have hxl:=HX2.out
        have hal:abL (yOf cs x) x (xs.take k)<lagN:=abL_lt x _ _ (yOf_lt cs x)
        have hbl:beL x (xs.take k)<lagN:=beL_lt x _
        obtain⟨a,eA2⟩:∃a,a=abL (yOf cs x) x (xs.take k):=⟨_,rfl⟩
        obtain⟨b,eB2⟩:∃b,b=beL x (xs.take k):=⟨_,rfl⟩
        rw[←eA2] at ea hal
        rw[←eB2] at eb hbl
        rw[←eA2,←eB2]
        have HM:=Lib.hid (fun W=>rmulQ a z (by omega) (by omega) W)
        have HSB:=Lib.hid (fun W=>rsubQ z x hzl hxl W)
        obtain⟨d,ed⟩:∃d,d=(z+lagN-x)%lagN:=⟨_,rfl⟩
        have hdl:d<lagN:=by rw[ed];exact Nat.mod_lt _ lagN_pos
        rw[←ed] at HSB eb
        have HN:=Lib.hid (fun W=>rmulQ b d (by omega) (by omega) W)
        rw[←ea] at HM
        rw[←eb] at HN
        have f0:=(HO2.out.trans HWN.out).cell_some f00 (fun e=>e)
        have c0:=HWN.out.cell_some HC0.out (fun e=>e)
        have hne:¬(k:Int)=(j:Int):=by omega
        have hne2:((k:Int)==(j:Int))=false:=by rw[beq_eq_false_iff_ne];omega
        have hne3:((k:Int)!=(j:Int))=true:=by simp;omega
        obtain⟨a2,ea2⟩:∃a2,a2=abL (yOf cs x) x (xs.take (k+1)):=⟨_,rfl⟩
        obtain⟨b2,eb2⟩:∃b2,b2=beL x (xs.take (k+1)):=⟨_,rfl⟩
        rw[←ea2] at HM
        rw[←eb2] at HN
        have EA:=Lib.hid ea2
        have EB:=Lib.hid eb2
        clear ea eb hzk hzx f00 hv hxl hal hbl eA2 eB2 ed hdl ea2 eb2 hzl
        go_wp2_with fail
        refine(HM.out _).mono ?_
        rintro e w2 ⟨rfl,rfl⟩
        go_upto_region 24 with(fail)
        go_quiet (first
         |(go_at_call 87;exact Calls.quiet_of_same (HSB.out _))
         |(go_at_call 85;exact Calls.quiet_of_same (HN.out _)))
        go_wp2_with fail
        go_roundw
        case rel=>exact⟨k+1,by go_num,by omega,by rw[EA.out],by rw[EB.out],HWN.out.drewN _⟩
        case measure=>simp[intOf];omega
      ·obtain rfl:k=xs.length:=by omega
       rw[List.take_length]
       have hv:=HLAG.out
       have hi:=HINV.out x (List.mem_of_getElem? HXJ.out)
       have HI:=Lib.hid (fun W=>rinvQ (beL x xs) (invD xs x) (beL_lt x xs) (invD_lt xs x) hi W)
       have hal:abL (yOf cs x) x xs<lagN:=abL_lt x _ _ (yOf_lt cs x)
       have hil:=invD_lt xs x
       have hsl:sm<lagN:=by rw[ESM.out];exact joK_lt _ _ _
       have HM:=Lib.hid (fun W=>rmulQ (abL (yOf cs x) x xs) (invD xs x) (by omega) (by omega) W)
       have hjs:joK xs (yOf cs) (xs.take (j+1))=(sm+abL (yOf cs x) x xs*invD xs x%lagN)%lagN:=by rw[takeX_snoc HXJ.out,joK_snoc,ESM.out]
       obtain⟨a,eA2⟩:∃a,a=abL (yOf cs x) x xs:=⟨_,rfl⟩
       obtain⟨b,eB2⟩:∃b,b=beL x xs:=⟨_,rfl⟩
       obtain⟨d,ed⟩:∃d,d=invD xs x:=⟨_,rfl⟩
       rw[←eA2,←ed] at HM hjs
       rw[←eB2,←ed] at HI
       rw[←eA2,←eB2]
       obtain⟨m,em⟩:∃m,m=a*d%lagN:=⟨_,rfl⟩
       have hml:m<lagN:=by rw[em];exact Nat.mod_lt _ lagN_pos
       rw[←em] at HM hjs
       have HAd:=Lib.hid (fun W=>raddQ sm m (by omega) (by omega) W)
       obtain⟨s2,es2⟩:∃s2,s2=joK xs (yOf cs) (xs.take (j+1)):=⟨_,rfl⟩
       rw[←hjs,←es2] at HAd
       have ES:=Lib.hid es2
       have HW2:=Lib.hid (HO2.out.trans HWN.out)
       have ik:¬(xs.length:Int)<(xs.length:Int):=by omega
       clear hv hi hal hil hsl hjs eA2 eB2 ed em hml es2
       go_wp2_with fail
       refine(HI.out _).mono ?_
       rintro e w2 ⟨rfl,rfl⟩
       go_wp2_with fail
       refine(HM.out _).mono ?_
       rintro e w2 ⟨rfl,rfl⟩
       go_wp2_with fail
       refine(HAd.out _).mono ?_
       rintro e w2 ⟨rfl,rfl⟩
       go_wp2_with fail
       go_roundw
       case rel=>exact⟨j+1,by go_num,by omega,by rw[ES.out],HW2.out⟩
       case measure=>simp[intOf];omega
    ·obtain rfl:j=xs.length:=by omega
     rw[List.take_length,HFIN.out]
     go_wp2_with fail
     go_ret2
     exact⟨rfl,HO2.out⟩
end Go.Proofs.YtpdlbmieciabmaaGreatDoor
namespace Go.Proofs.YtpdlbmieciabmaaGreatDoor
open Go.RowKit Go.Shelf
attribute [local go_sem] Oper.semAt_some
attribute [local go_sem ↓ high] aph_eq
theorem shX_snoc{cs xs:List Nat}{k x:Nat}(h:xs[k]? =some x):shX cs (xs.take (k+1))=shX cs (xs.take k)++[((x:Int),((yOf cs x:Nat):Int))]:=by
 unfold shX
 rw[takeX_snoc h,List.map_append]
 rfl
theorem shX_take_len(cs:List Nat){xs:List Nat}{k:Nat}(h:k≤xs.length):(shX cs (xs.take k)).length =k:=by
 rw[shX_len,List.length_take]
 omega
theorem good_put{w W:World}{cs xs:List Nat}{ov:Value}{j x:Nat}(hj:j≤1000000000)(hx:xs[j]? =some x)(h:OwnOf tSh shC 2 W w.heap.size ov j (shX cs (xs.take j)))(ho:Only NoneOf w W)(N:Nat)(hsrc:Blk W N tSh #[.int .i64 (x:Int),.int .i64 ((yOf cs x:Nat):Int)])(ty:TypeId):
  ∃A2 cap2 W2,(aph #[43,43] ty #[ov,.slice (some ⟨N,0,none⟩) 1 1]).run Tryz.prog W= .ok (.slice A2 (j+1) cap2) W2∧OwnOf tSh shC 2 W2 w.heap.size (.slice A2 (j+1) cap2) (j+1) (shX cs (xs.take (j+1)))∧Only NoneOf w W2:=by
 have hl:(shX cs (xs.take j)).length =j:=shX_take_len cs (by have:=(List.getElem?_eq_some_iff.1 hx).1;omega)
 obtain⟨A2,cap2,W2,hrun,k1,k2,_⟩:=run_append_rec (T:=43) Tryz.underlying43 shareI (by omega) (by omega) shC_len W w.heap.size ov (shX cs (xs.take j)) ((x:Int),((yOf cs x:Nat):Int)) (shC_one _) (by rw[hl];exact h) N hsrc (by rw[hl];exact hj) ho.size ty
 rw[hl] at hrun k1
 have ho2:=grown_ts k2 h
 exact⟨A2,cap2,W2,hrun,by rw[shX_snoc hx];exact k1,only_base ho (ts_base ho2) (Nat.le_refl _)⟩
def OpE(cs xs:List Nat)(c:Nat)(w:World)(e:Ending)(w' :World):Prop:=e= .returned (.tuple #[if xs.length<cs.length then .int .i64 0 else .int .i64 (c:Int),.slice none 0 0,.int .i64 (if xs.length<cs.length then 24 else 0)])∧Only NoneOf w w'
set_option maxRecDepth 100000 in
set_option maxHeartbeats 4000000 in
theorem open_any'(cs xs:List Nat)(c:Nat)(hc:cs.head? =some c)(hcl:c<lagN)(h1:1≤cs.length)(h100:cs.length≤100)(hle:xs.length≤cs.length)(hx:XsOk xs)(hlag:xs.length=cs.length→lagOk xs=true)(u v:Value)(w:World)(hu:SlOf inC 1 w u (cmL cs))(h:SlOf shC 2 w v (shX cs xs)):Calls Tryz.prog 29 #[u,v] w (OpE cs xs c w):=by
 have HCO:=Lib.hid (rcommits_any cs h1 h100 u w hu)
 have HFI:=Lib.hid (fun x hx0 hx1 W (ho:Only NoneOf w W)=>rfits_any cs h100 x hx0 hx1 u W (hu.only ho))
 have HJO:=Lib.hid (fun v' W (hl:cs.length=xs.length) (h' :SlOf shC 2 W v' (shX cs xs))=>show Calls Tryz.prog 58 #[.int .i64 (cs.length:Int),v'] W fun e w' =>e= .returned (.tuple #[.int .i64 (c:Int),.bool true])∧Only NoneOf W w' by
  have h9:=rjoin_any cs xs c hc hcl hl (by omega) hx (hlag hl.symm) v' W h'
  rwa [←hl] at h9)
 obtain⟨B,capB,rfl,hatB⟩:=in_at' hu
 rw[cmL_len] at HCO HFI⊢
 obtain⟨A,cap,rfl,hat0⟩:=sh_at h
 rw[shX_len]
 have hat:∀(j x:Nat),xs[j]? =some x→∃g o,A=some ⟨g,o,none⟩∧g<w.heap.size∧w.cell? ⟨g,o+j*2,none⟩=some (.int .i64 (x:Int))∧w.cell? ⟨g,o+j*2+1,none⟩=some (.int .i64 ((yOf cs x:Nat):Int)):=fun j x hj=>hat0 j _ (shX_get hj)
 have HAT:=Lib.hid hat
 have HX:=Lib.hid hx
 have HC:=Lib.hid (show xs.length≤100 by omega)
 clear hat hat0 h hatB hu hx hlag hc hcl
 go_enter Tryz.func29,Tryz.ntmps29
 go_wp2_with fail
 refine HCO.out.mono ?_
 rintro e w1 ⟨rfl,rfl⟩
 go_wp2_with fail
 go_loopw [8,9,10] (fun bv ov i W=>∃(j:Nat) (A3:Option Addr) (cap3:Nat),bv= .slice none 0 0∧i= .int .i64 j∧ov= .slice A3 j cap3∧j≤xs.length∧OwnOf tSh shC 2 W w1.heap.size (.slice A3 j cap3) j (shX cs (xs.take j))∧Only NoneOf w1 W) (fun _ _ i _=>xs.length-(intOf i).toNat)
 case atStart=>exact⟨0,none,0,rfl,rfl,rfl,Nat.zero_le _,OwnOf.nil _ _ _ _ _,Only.refl _ _⟩
 case round=>
  obtain⟨j,A3,cap3,rfl,rfl,rfl,hj,hown,ho⟩:=hrel
  have HOWN:=Lib.hid hown
  have HO:=Lib.hid ho
  have hjl:j≤100:=by have:=HC.out;omega
  clear hown ho
  by_cases hlt:j<xs.length
  ·obtain⟨x,hxj⟩:∃x,xs[j]? =some x:=⟨_,List.getElem?_eq_getElem hlt⟩
   obtain⟨g,o,eA,hg,c00,c01⟩:=HAT.out j x hxj
   subst eA
   have c0:=HO.out.cell_some c00 (fun e=>e)
   have c1:=HO.out.cell_some c01 (fun e=>e)
   obtain⟨hx1,hx2⟩:=HX.out.rng x (List.mem_of_getElem? hxj)
   have HF:=Lib.hid (HFI.out x hx1 hx2 wr HO.out)
   obtain⟨y,ey⟩:∃y,y=yOf cs x:=⟨_,rfl⟩
   have hyy:sumP cs x%lagN=y:=ey.symm
   rw[hyy] at HF
   have EY:=Lib.hid ey
   rw[←ey] at c1 c01
   have HXJ:=Lib.hid hxj
   have ij:(j:Int)<(xs.length:Int):=by omega
   have j0:(0:Int)≤(j:Int):=by omega
   have wj:IntKind.i64.wrap ((j:Int)+1)=(j:Int)+1:=IntWalk.i64_in _ (by omega)
   clear ey hyy hx1 hx2 hxj
   go_wp2_with fail
   refine HF.out.mono ?_
   rintro e w2 ⟨rfl,ho2⟩
   have HO2:=Lib.hid (HO.out.trans ho2)
   have HOWN2:=Lib.hid (OwnOf.keep HOWN.out ho2 (fun _ _ e=>e))
   clear ho2 c0 c1
   have c0:=HO2.out.cell_some c00 (fun e=>e)
   go_wp2_with fail
   go_loopw [12,13] (fun b i W=>∃k:Nat,i= .int .i64 k∧k≤j∧b= .bool false∧Only NoneOf w2 W) (fun _ i _=>j-(intOf i).toNat)
   case atStart=>exact⟨0,rfl,Nat.zero_le _,rfl,Only.refl _ _⟩
   case round=>
    obtain⟨k,rfl,hk,rfl,hok⟩:=hrel
    have HOK:=Lib.hid hok
    clear hok
    by_cases hkj:k<j
    ·obtain⟨z,hzk⟩:∃z,xs[k]? =some z:=⟨_,List.getElem?_eq_getElem (show k<xs.length by omega)⟩
     obtain⟨A4,cap4,e4,hat4⟩:=sh_at (OwnOf.sl shC_len (P:=shX cs (xs.take j)) (by rw[shX_take_len cs hj];exact HOWN2.out))
     simp only[Value.slice.injEq] at e4
     obtain⟨rfl,-,-⟩:=e4
     obtain⟨g2,o2,e2,hg2,f00,_⟩:=hat4 k _ (shX_get (show(xs.take j)[k]? =some z by rw[List.getElem?_take_of_lt hkj];exact hzk))
     subst e2
     have f0:wr.cell? ⟨g2,o2+k*2,none⟩=some (.int .i64 (z:Int)):=HOK.out.cell_some f00 (fun e=>e)
     have d0:=HOK.out.cell_some c0 (fun e=>e)
     have hne:¬z=x:=fun e=>by
      subst e
      have:=HX.out.nd k j z hzk HXJ.out
      omega
     have hne2:((z:Int)==(x:Int))=false:=by rw[beq_eq_false_iff_ne];omega
     have hne3:¬(z:Int)=(x:Int):=by omega
     have ik:(k:Int)<(j:Int):=by omega
     have k0:(0:Int)≤(k:Int):=by omega
     have wk:IntKind.i64.wrap ((k:Int)+1)=(k:Int)+1:=IntWalk.i64_in _ (by omega)
     clear hzk hne f00 hat4
     go_upto_region 16 with(fail)
     go_quiet (fail)
     go_wp2_with fail
     go_roundw
     case rel=>exact⟨k+1,by go_num,by omega,rfl,HOK.out.drewN _⟩
     case measure=>simp[intOf];omega
    ·obtain rfl:k=j:=by omega
     have ik:¬(k:Int)<(k:Int):=by omega
     have HO3:=Lib.hid (HO2.out.trans HOK.out)
     have HOWN3:=Lib.hid (OwnOf.keep HOWN2.out HOK.out (fun _ _ e=>e))
     have d0:=HO3.out.cell_some c00 (fun e=>e)
     have d1:=HO3.out.cell_some c01 (fun e=>e)
     obtain⟨A5,cap5,W5,hrun,hown5,ho5⟩:=good_put (w:=w1) (by omega) HXJ.out (OwnOf.keep HOWN3.out ((Only.refl NoneOf wr).alloc (.cells #[.int .i64 (x:Int),.int .i64 (y:Int)] tSh)) (fun _ _ e=>e)) (HO3.out.alloc _) wr.heap.size (by rw[←EY.out];exact Blk.new wr _ _) 43
     have HOWN5:=Lib.hid hown5
     have HO5:=Lib.hid ho5
     clear hown5 ho5 c00 c01 c0
     go_wp2_with fail
     go_roundw
     case rel=>exact⟨k+1,_,_,rfl,by go_num,rfl,by omega,HOWN5.out,HO5.out⟩
     case measure=>simp[intOf];omega
  ·obtain rfl:j=xs.length:=by omega
   have ij:¬(xs.length:Int)<(xs.length:Int):=by omega
   have hsl:SlOf shC 2 wr (.slice A3 xs.length cap3) (shX cs xs):=OwnOf.sl shC_len (by rw[shX_len];have:=HOWN.out;rwa [List.take_length] at this)
   by_cases hq:xs.length<cs.length
   ·have d1:(xs.length:Int)<(cs.length:Int):=by omega
    clear hsl
    go_wp2_with fail
    go_ret3
    refine⟨by rw[if_pos hq,if_pos hq];rfl,HO.out⟩
   ·have d1:¬(xs.length:Int)<(cs.length:Int):=by omega
    have hl:cs.length=xs.length:=by omega
    have HJ:=Lib.hid (HJO.out _ wr hl hsl)
    clear hsl hl
    go_wp2_with fail
    refine HJ.out.mono ?_
    rintro e w2 ⟨rfl,ho2⟩
    have HO2:=Lib.hid (HO.out.trans ho2)
    clear ho2
    go_wp2_with fail
    go_ret3
    exact⟨by rw[if_neg hq,if_neg hq];rfl,HO2.out⟩
end Go.Proofs.YtpdlbmieciabmaaGreatDoor
namespace Go.Proofs.YtpdlbmieciabmaaGreatDoor
open Go.RowKit Go.Shelf
theorem ringX_len(o k st:Nat):(ringX o k st).length =k:=by simp[ringX]
theorem ringX_get{o k st n:Nat}(h:n<k):(ringX o k st)[n]? =some ((st+n)%o+1):=by
 unfold ringX
 rw[List.getElem?_map,List.getElem?_range h]
 rfl
theorem ringX_mod(o k st:Nat):ringX o k (st%o)=ringX o k st:=by
 unfold ringX
 refine List.map_congr_left fun n _=> ?_
 rw[Nat.add_mod,Nat.mod_mod,←Nat.add_mod]
theorem ring_lag{o k st:Nat}(h1:1≤o)(h2:o≤13)(h3:1≤k)(h4:k≤o):lagOk (ringX o k st)=true:=by
 have h:=lag_all
 rw[List.all_eq_true] at h
 have a:=h (o-1) (List.mem_range.2 (by omega))
 rw[List.all_eq_true] at a
 have b:=a (k-1) (List.mem_range.2 (by omega))
 rw[List.all_eq_true] at b
 have c:=b (st%o) (List.mem_range.2 (by have:=Nat.mod_lt st (show 0<o by omega);omega))
 rwa [show o-1+1=o by omega,show k-1+1=k by omega,ringX_mod] at c
theorem ring_ok{o k st:Nat}(h1:1≤o)(h2:o≤13)(h4:k≤o):XsOk (ringX o k st):=by
 refine⟨by rw[ringX_len];omega,fun x hx=> ?_,fun i j x hi hj=> ?_⟩
 ·obtain⟨i,hi⟩:=List.getElem?_of_mem hx
  have hk:i<k:=by have:=(List.getElem?_eq_some_iff.1 hi).1;rwa [ringX_len] at this
  rw[ringX_get hk] at hi
  cases hi
  have:=Nat.mod_lt (st+i) (show 0<o by omega)
  have:=lagN_val
  omega
 ·have hk:i<k:=by have:=(List.getElem?_eq_some_iff.1 hi).1;rwa [ringX_len] at this
  have hk2:j<k:=by have:=(List.getElem?_eq_some_iff.1 hj).1;rwa [ringX_len] at this
  rw[ringX_get hk,Option.some.injEq] at hi
  rw[ringX_get hk2,Option.some.injEq] at hj
  have e:(st+i)%o=(st+j)%o:=by omega
  have a1:=Nat.div_add_mod (st+i) o
  have a2:=Nat.div_add_mod (st+j) o
  rw[e] at a1
  obtain⟨p,ep⟩:∃p,p=(st+i)/o:=⟨_,rfl⟩
  obtain⟨q,eq⟩:∃q,q=(st+j)/o:=⟨_,rfl⟩
  rw[←ep] at a1
  rw[←eq] at a2
  rcases Nat.lt_trichotomy p q with h|h|h
  ·have:o*(p+1)≤o*q:=Nat.mul_le_mul_left o h
   rw[Nat.mul_add] at this
   omega
  ·subst h
   omega
  ·have:o*(q+1)≤o*p:=Nat.mul_le_mul_left o h
   rw[Nat.mul_add] at this
   omega
theorem XsOk.drop1{xs:List Nat}(h:XsOk xs):XsOk (xs.drop 1):=
 ⟨by rw[List.length_drop];have:=h.le;omega,fun x hx=>h.rng x (List.mem_of_mem_drop hx),fun i j x hi hj=>by
  rw[List.getElem?_drop] at hi hj
  have:=h.nd _ _ _ hi hj
  omega⟩
theorem shX_drop(cs xs:List Nat):(shX cs xs).drop 1=shX cs (xs.drop 1):=by
 unfold shX
 rw[List.map_drop]
theorem shY_get{cs:List Nat}{n i:Nat}(h:i<n):(shL cs n)[i]? =some (((i+1:Nat):Int),((yOf cs (i+1):Nat):Int)):=by
 unfold shL
 rw[List.getElem?_map,List.getElem?_range h]
 rfl
theorem cfs_head(l:List UInt8){k:Nat}(h:1≤k):(cfs l k).head? =some (cfN l 0):=by
 obtain⟨m,rfl⟩:∃m,k=m+1:=⟨k-1,by omega⟩
 unfold cfs
 rw[List.range_succ_eq_map]
 rfl
theorem open_boxN(seed t:List UInt8):openS ((cfN seed 0:Nat):Int) (boxT seed t).data.toList =(t,true):=by
 rw[boxT_list,cfN_int]
 exact open_seal _ _
end Go.Proofs.YtpdlbmieciabmaaGreatDoor
namespace Go.Proofs.YtpdlbmieciabmaaGreatDoor
open Go.RowKit Go.Shelf
attribute [local go_sem] Oper.semAt_some
attribute [local go_sem ↓ high] aph_eq
set_option maxRecDepth 100000 in
set_option maxHeartbeats 4000000 in
theorem bopens_law(n:Int)(hn:In n)(s:ByteArray)(a b:Nat)(ha:a<256)(hb:b<256)(o:Of)(hok:o.Ok)(ov:Value)(f:Nat)(hf:f<256)(w:World)(he:Env w)(h:OfAt w ov o):Calls Tryz.prog 7 #[.agg #[.int .i64 n,.string s,.int .u8 (a:Int),.int .u8 (b:Int)],ov,.int .u8 (f:Int)] w (fun e w' =>e= .returned (.bool true)∧Only NoneOf w w'):=by
 have hov:=h
 obtain⟨ev,rv,rfl,_,_⟩:=h
 obtain⟨P,eP⟩:∃P,P=w.heap.size:=⟨_,rfl⟩
 obtain⟨X,eX⟩:∃X,X=(w.alloc (.cells #[.int .i64 n,.string s,.int .u8 (a:Int),.int .u8 (b:Int)] tMd)).alloc (.cells #[ev,rv] tOf):=⟨_,rfl⟩
 have hX:Only NoneOf w X:=by rw[eX];exact((Only.refl _ _).alloc _).alloc _
 have HP:=Lib.hid (show Blk X P tMd #[.int .i64 n,.string s,.int .u8 (a:Int),.int .u8 (b:Int)] by rw[eX,eP];exact(Blk.new w _ _).alloc _)
 have HO:=Lib.hid (show Blk X (P+1) tOf #[ev,rv] by
  have h2:=Blk.new (w.alloc (.cells #[.int .i64 n,.string s,.int .u8 (a:Int),.int .u8 (b:Int)] tMd)) tOf #[ev,rv]
  rw[World.size_alloc,←eP,←eX] at h2
  exact h2)
 have HOX:=Lib.hid (hov.only hX)
 have HWX:=Lib.hid hX
 have HE:=Lib.hid (he.none hX)
 have EX:=Lib.hid eX
 have EP:=Lib.hid eP
 obtain⟨off,eoff⟩:∃x,x=1+b%13:=⟨_,rfl⟩
 obtain⟨k,ek⟩:∃x,x=1+a%off:=⟨_,rfl⟩
 have hoff:1≤off∧off≤13:=by omega
 have hk1:1≤k:=by omega
 have hko:k≤off:=by
  have:=Nat.mod_lt a (show 0<off by omega)
  omega
 have hgood:=fun W=>good_any16 n s a b ha hb W
 rw[←eoff,←ek] at hgood
 have HGD:=Lib.hid hgood
 obtain⟨es,ees⟩:∃es,es=mkEs false o:=⟨_,rfl⟩
 obtain⟨rs,ers⟩:∃rs,rs=mkRs o:=⟨_,rfl⟩
 have hin:∀e∈es,EnIn e:=by rw[ees];exact mkEs_in hok false
 have hrn:∀r∈rs,RbIn r:=by rw[ers];exact mkRs_in hok
 have hright:rightL es=true:=by rw[ees];exact mkEs_right o
 have hpl:(pricL es rs).length≤2000:=by rw[ees,ers];exact mkPr_text hok false
 have hql:(textG (qLines es)).length≤4000:=by rw[ees];exact mkEs_text hok false
 have hqq:(qualL es).length≤4000:=by rw[ees];exact qualL_len hok false
 have hes:es.length≤6:=by rw[ees];exact mkEs_len false o
 obtain⟨sd,esd⟩:∃sd,sd=(sdT s).data.toList :=⟨_,rfl⟩
 have hm1:=mde_good n sd k off hk1 hko hoff.2 es rs hright
 obtain⟨m1,em1⟩:∃m,m=mde n sd (k:Int) (off:Int) es rs:=⟨_,rfl⟩
 rw[←em1] at hm1
 have HM1:=Lib.hid hm1
 have MK1:Hid (∀v u W,EnSl W v es→RbSl W u rs→Tab W→Calls Tryz.prog 11 #[.int .i64 n,.string (sdT s),.int .i64 (k:Int),.int .i64 (off:Int),v,u] W (MkdE m1 W)):=Lib.hid (fun v u W h1 h2 h3=>by
  rw[em1,esd]
  exact bmake_any n hn (sdT s) (by have:=sdT_size s;omega) k off es rs hin hrn (by omega) (by omega) (by omega) v u W h1 h2 h3)
 have HIN:=Lib.hid hin
 have HRN:=Lib.hid hrn
 have HPL:=Lib.hid hpl
 have HES:=Lib.hid hes
 have HOFF:=Lib.hid hoff
 have HF:=Lib.hid hf
 have HK1:=Lib.hid hk1
 have HKO:=Lib.hid hko
 have HQL:=Lib.hid hqq
 have HQL2:=Lib.hid hql
 have HSD:Hid (sd.length≤1000):=Lib.hid (by rw[esd,←size_list];have:=sdT_size s;omega)
 have HRG:=Lib.hid hright
 have EES:=Lib.hid ees
 have ERS:=Lib.hid ers
 clear hX eX eP hov he eoff ek hgood hin hrn hright hpl hql hqq hm1 em1 esd ees ers
 go_enter Tryz.func7,Tryz.ntmps7
 go_wp2_with fail
 rw[←EX.out]
 rw[←EP.out]
 refine(sanity16 X HE.out).mono ?_
 rintro e w1 ⟨rfl,ho1⟩
 have HO1:=Lib.hid ho1
 have p0:=(HP.out.only ho1 (fun e=>e)).cell 0
 have p1:=(HP.out.only ho1 (fun e=>e)).cell 1
 have p2:=(HP.out.only ho1 (fun e=>e)).cell 2
 have p3:=(HP.out.only ho1 (fun e=>e)).cell 3
 clear ho1
 go_wp2_with fail
 refine(HGD.out w1).mono ?_
 rintro e w2 ⟨rfl,ho2⟩
 have HO2:=Lib.hid (HO1.out.trans ho2)
 have o0:=(HO.out.only HO2.out (fun e=>e)).cell 0
 have o1:=(HO.out.only HO2.out (fun e=>e)).cell 1
 clear ho2 p0 p1 p2 p3
 go_wp2_with fail
 refine(make16_any o hok false (.agg #[ev,rv]) w2 (HOX.out.only HO2.out)).mono ?_
 rintro e w3 ⟨ev2,rv2,rfl,hen,hrb,ho3⟩
 rw[←EES.out] at hen
 rw[←ERS.out] at hrb
 obtain⟨EA,ek,rfl,_,_⟩:=hen.form
 obtain⟨RA,rk,rfl,_,_⟩:=hrb.form
 have HEN:=Lib.hid hen.sl
 have HRB:=Lib.hid hrb.sl
 have HO3:=Lib.hid (HO2.out.trans ho3)
 clear hen hrb ho3 o0 o1
 have HPV:=Lib.hid (HP.out.only HO3.out (fun e=>e))
 have HTV:=Lib.hid (HE.out.none HO3.out).tab
 have HMK1:Hid (∀W,Only NoneOf w3 W→Calls Tryz.prog 11 #[.int .i64 n,.string (sdT s),.int .i64 (k:Int),.int .i64 (off:Int),.slice EA es.length ek,.slice RA rs.length rk] W (MkdE m1 W)):=Lib.hid (fun W hW=>MK1.out _ _ W (HEN.out.only hW) (HRB.out.only hW) (HTV.out.none hW))
 go_upto_region 4 with(fail)
 go_cut [12,13,14] from 39 to 52 (fun p q c Z2=>∃gA gB qv pv y0 y1,p= .pointer (some ⟨gA,0,none⟩)∧q= .pointer (some ⟨gB,0,none⟩)∧c= .int .i64 m1.code∧Blk Z2 gA tBid #[.int .i64 m1.bid.bidder,.string m1.bid.qt,qv,.string m1.bid.pt,pv]∧Blk Z2 gB tShs #[y0,y1]∧MdS w3.heap.size m1 (.agg #[.int .i64 m1.bid.bidder,.string m1.bid.qt,qv,.string m1.bid.pt,pv]) y0 y1 Z2∧Only NoneOf w3 Z2)
 case first=>
  refine wp_region_choice (MdK w3 [(0,.pointer (some ⟨P,0,none⟩)),(1,.int .i64 n),(2,.agg #[.int .i64 n,.string s,.int .u8 (a:Int),.int .u8 (b:Int)]),(3,.string (sdT s)),(4,.int .i64 (k:Int)),(5,.int .i64 (off:Int)),(6,.slice EA es.length ek),(7,.slice RA rs.length rk),(17,.int .i64 m1.code)] (⟨8,9,10,11,12,13,14,15,16⟩:Ix) (m1)) 153 (by kernel_rfl) (by kernel_rfl) (by kernel_rfl) (by kernel_rfl) (by simp) (MdK.start _ _) ?_ ?_
  have hdif:(⟨8,9,10,11,12,13,14,15,16⟩:Ix).Dif :=Ix.dif (by decide)
  refine⟨?_,?_,?_,?_,?_,?_,?_,?_,?_,?_,?_,?_,?_,?_,?_,?_,?_,?_,trivial⟩
  ·intro vals L W ρ hdn hr hC hd ho hx
   have e:ρ (.tmp 3)= .pointer (some ⟨P,0,none⟩):=ho 3 (by kernel_rfl)
   simp[stepR,go_sem,e]
   exact hC.pure_ (by decide) (pv_only (by kernel_rfl) (k:=0) rfl) (ready_lt hr)
  ·intro vals L W ρ hdn hr hC hd ho hx
   have e:ρ (.tmp 40)=_:=(hd 0 40 (by kernel_rfl) rfl).trans (hC.pure _ (List.mem_of_getElem? (i:=0) rfl) (ready_dep hr (j:=0) (by kernel_rfl)))
   have c:=(HPV.out.only hC.only (fun e=>e)).cell 0
   simp[stepR,go_sem,e,c]
   exact hC.pure_ (by decide) (pv_only (by kernel_rfl) (k:=1) rfl) (ready_lt hr)
  ·intro vals L W ρ hdn hr hC hd ho hx
   have e:ρ (.tmp 3)= .pointer (some ⟨P,0,none⟩):=ho 3 (by kernel_rfl)
   exact step_load rfl e (HPV.out.only hC.only (fun e=>e)) Tryz.underlying23 rfl (by kernel_rfl) (hC.pure_ (by decide) (pv_only (by kernel_rfl) (k:=2) rfl) (ready_lt hr))
  ·intro vals L W ρ hdn hr hC hd ho hx
   have e:ρ (.tmp 42)=_:=(hd 2 42 (by kernel_rfl) rfl).trans (hC.pure _ (List.mem_of_getElem? (i:=2) rfl) (ready_dep hr (j:=2) (by kernel_rfl)))
   have hf:ρ (.func 12)= .func (.func 12) #[] #[]:=hx _ (fun s e=>by cases e)
   simp[stepR,go_sem,e,hf]
   refine(seed16_any n s a b W).mono ?_
   rintro e9 W2 ⟨rfl,ho2⟩
   exact⟨_,rfl,(hC.none_ ho2).pure_ (by decide) (pv_only (by kernel_rfl) (k:=3) rfl) (ready_lt hr)⟩
  ·intro vals L W ρ hdn hr hC hd ho hx
   have e:ρ (.tmp 8)= .int .i64 (k:Int):=ho 8 (by kernel_rfl)
   simp[stepR,go_sem,e]
   exact hC.pure_ (by decide) (pv_only (by kernel_rfl) (k:=4) rfl) (ready_lt hr)
  ·intro vals L W ρ hdn hr hC hd ho hx
   have e:ρ (.tmp 9)= .int .i64 (off:Int):=ho 9 (by kernel_rfl)
   simp[stepR,go_sem,e]
   exact hC.pure_ (by decide) (pv_only (by kernel_rfl) (k:=5) rfl) (ready_lt hr)
  ·intro vals L W ρ hdn hr hC hd ho hx
   have e:ρ (.tmp 10)= .slice EA es.length ek:=ho 10 (by kernel_rfl)
   simp[stepR,go_sem,e]
   exact hC.pure_ (by decide) (pv_only (by kernel_rfl) (k:=6) rfl) (ready_lt hr)
  ·intro vals L W ρ hdn hr hC hd ho hx
   have e:ρ (.tmp 11)= .slice RA rs.length rk:=ho 11 (by kernel_rfl)
   simp[stepR,go_sem,e]
   exact hC.pure_ (by decide) (pv_only (by kernel_rfl) (k:=7) rfl) (ready_lt hr)
  ·intro vals L W ρ hdn hr hC hd ho hx
   have e0:ρ (.tmp 41)=_:=(hd 1 41 (by kernel_rfl) rfl).trans (hC.pure _ (List.mem_of_getElem? (i:=1) rfl) (ready_dep hr (j:=1) (by kernel_rfl)))
   have e1:ρ (.tmp 43)=_:=(hd 3 43 (by kernel_rfl) rfl).trans (hC.pure _ (List.mem_of_getElem? (i:=3) rfl) (ready_dep hr (j:=3) (by kernel_rfl)))
   have e2:ρ (.tmp 44)=_:=(hd 4 44 (by kernel_rfl) rfl).trans (hC.pure _ (List.mem_of_getElem? (i:=4) rfl) (ready_dep hr (j:=4) (by kernel_rfl)))
   have e3:ρ (.tmp 45)=_:=(hd 5 45 (by kernel_rfl) rfl).trans (hC.pure _ (List.mem_of_getElem? (i:=5) rfl) (ready_dep hr (j:=5) (by kernel_rfl)))
   have e4:ρ (.tmp 46)=_:=(hd 6 46 (by kernel_rfl) rfl).trans (hC.pure _ (List.mem_of_getElem? (i:=6) rfl) (ready_dep hr (j:=6) (by kernel_rfl)))
   have e5:ρ (.tmp 47)=_:=(hd 7 47 (by kernel_rfl) rfl).trans (hC.pure _ (List.mem_of_getElem? (i:=7) rfl) (ready_dep hr (j:=7) (by kernel_rfl)))
   have hf:ρ (.func 11)= .func (.func 11) #[] #[]:=hx _ (fun s e=>by cases e)
   simp[stepR,go_sem,e0,e1,e2,e3,e4,e5,hf]
   refine(HMK1.out W hC.only).mono ?_
   rintro e9 W2 ⟨bv,y0,y1,rfl,h1,h2,h3,ho2⟩
   exact⟨_,rfl,(hC.none_ ho2).call hdif (by kernel_rfl) (ready_lt hr) (MdS.of_base hC.only.size h1 h2 h3) (undone1 hdn hr (k:=9) (by kernel_rfl)) (undone2 hdn hr (k:=10) (j:=9) (by kernel_rfl) (by kernel_rfl)) (undone2 hdn hr (k:=11) (j:=9) (by kernel_rfl) (by kernel_rfl)) (undone2 hdn hr (k:=12) (j:=9) (by kernel_rfl) (by kernel_rfl))⟩
  ·intro vals L W ρ hdn hr hC hd ho hx
   have e:ρ (.tmp 48)=vals 8:=hd 8 48 (by kernel_rfl) rfl
   simp[stepR,go_sem,e]
   exact hC.copy_ hdif (by kernel_rfl) (ready_lt hr)
  ·intro vals L W ρ hdn hr hC hd ho hx
   have hv:=ready_dep hr (j:=9) (by kernel_rfl)
   have hM:=down_dep hdn hv (j:=8) (by kernel_rfl)
   obtain⟨q9,p9,y9,z9,e2,_⟩:=hC.parts hM
   have e:ρ (.tmp 39)=_:=((hd 9 39 (by kernel_rfl) rfl).trans (hC.copy hv)).trans e2
   simp[stepR,go_sem,e]
   exact hC.part0 hdif (by kernel_rfl) (ready_lt hr) e2 (undone1 hdn hr (k:=15) (by kernel_rfl))
  ·intro vals L W ρ hdn hr hC hd ho hx
   have hv:=ready_dep hr (j:=9) (by kernel_rfl)
   have hM:=down_dep hdn hv (j:=8) (by kernel_rfl)
   obtain⟨q9,p9,y9,z9,e2,_⟩:=hC.parts hM
   have e:ρ (.tmp 39)=_:=((hd 9 39 (by kernel_rfl) rfl).trans (hC.copy hv)).trans e2
   simp[stepR,go_sem,e]
   exact hC.part1 hdif (by kernel_rfl) (ready_lt hr) e2 (undone1 hdn hr (k:=16) (by kernel_rfl))
  ·intro vals L W ρ hdn hr hC hd ho hx
   have hv:=ready_dep hr (j:=9) (by kernel_rfl)
   have hM:=down_dep hdn hv (j:=8) (by kernel_rfl)
   obtain⟨q9,p9,y9,z9,e2,_⟩:=hC.parts hM
   have e:ρ (.tmp 39)=_:=((hd 9 39 (by kernel_rfl) rfl).trans (hC.copy hv)).trans e2
   simp[stepR,go_sem,e]
   exact hC.part2 hdif (by kernel_rfl) (ready_lt hr) e2
  ·intro vals L W ρ hdn hr hC hd ho hx
   exact hC.doA hdif (by kernel_rfl) (ready_lt hr) (undone1 hdn hr (k:=15) (by kernel_rfl)) (by simp[go_sem])
  ·intro vals L W ρ hdn hr hC hd ho hx
   exact hC.doB hdif (by kernel_rfl) (ready_lt hr) (undone1 hdn hr (k:=16) (by kernel_rfl)) (by simp[go_sem])
  ·intro vals L W ρ hdn hr hC hd ho hx
   have h0:=ready_dep hr (j:=10) (by kernel_rfl)
   have hM:=down_dep hdn (down_dep hdn h0 (j:=9) (by kernel_rfl)) (j:=8) (by kernel_rfl)
   exact hC.doS hdif (by kernel_rfl) (ready_lt hr) (ready_undone hr) (ready_dep hr (j:=13) (by kernel_rfl)) h0 hM rfl (hd 13 12 (by kernel_rfl) rfl) (hd 10 49 (by kernel_rfl) rfl)
  ·intro vals L W ρ hdn hr hC hd ho hx
   have h0:=ready_dep hr (j:=11) (by kernel_rfl)
   have hM:=down_dep hdn (down_dep hdn h0 (j:=9) (by kernel_rfl)) (j:=8) (by kernel_rfl)
   exact hC.doT hdif (by kernel_rfl) (ready_lt hr) (ready_undone hr) (ready_dep hr (j:=14) (by kernel_rfl)) h0 hM rfl (hd 14 13 (by kernel_rfl) rfl) (hd 11 50 (by kernel_rfl) rfl)
  ·intro vals L W ρ hdn hr hC hd ho hx
   have h2:=ready_dep hr (j:=12) (by kernel_rfl)
   have hM:=down_dep hdn (down_dep hdn h2 (j:=9) (by kernel_rfl)) (j:=8) (by kernel_rfl)
   obtain⟨_,_,_,_,e2,_⟩:=hC.parts hM
   obtain⟨_,_,e3⟩:=hC.p2 h2
   rw[e2] at e3
   simp only[Value.tuple.injEq,Array.mk.injEq,List.cons.injEq] at e3
   have e:ρ (.tmp 51)= .int .i64 m1.code:=(hd 12 51 (by kernel_rfl) rfl).trans e3.2.2.1.symm
   simp[stepR,go_sem,e]
   exact hC.pure_ (by decide) (pv_only (by kernel_rfl) (k:=8) rfl) (ready_lt hr)
  intro vals L Z hall hC
  obtain⟨gA,gB,qv,pv,y0,y1,vA,vB,vC,hgA,hgB,hbA,hbB,hmd,hoZ⟩:=hC.all hall ⟨by decide,by decide,by decide,by decide,by decide,by decide,by decide,by decide⟩
  have vD:vals 17= .int .i64 m1.code:=hC.pure _ (List.mem_of_getElem? (i:=8) rfl) (hall 17 (by decide))
  simp only[finA,Nat.reduceAdd,Act.put,List.setIfInBounds_toArray,List.set_cons_succ,List.set_cons_zero]
  rw[vA,vB,vD]
  clear vA vB vC vD
  go_wp2_with fail
  go_meet
  case rel=>exact⟨gA,gB,qv,pv,y0,y1,rfl,rfl,rfl,hbA,hbB,hmd,hoZ⟩
 case rest=>
  obtain⟨gA1,gB1,qv1,pv1,y01,y11,rfl,rfl,rfl,hbA1,hbB1,hmd1,hoZ1⟩:=hcut
  obtain⟨Z1,rfl⟩:∃x,x=wc:=⟨_,rfl⟩
  obtain⟨⟨q91,p91,e91,j11,j21⟩,j31,j41⟩:=hmd1
  have e81:qv1=q91∧pv1=p91:=by
   simp only[Value.agg.injEq,Array.mk.injEq,List.cons.injEq,and_true,true_and] at e91
   exact e91
  obtain⟨rfl,rfl⟩:=e81
  obtain⟨A01,k01,rfl,_,_⟩:=own_form' j11
  obtain⟨A11,k11,rfl,_,_⟩:=own_form' j21
  obtain⟨A21,k21,rfl,_,_⟩:=own_form' j31
  obtain⟨A31,k31,rfl,_,_⟩:=own_form' j41
  have hc1:m1.code=0:=by rw[HM1.out]
  have hl0:m1.s0.length=off:=by rw[HM1.out];exact shL_len _ _
  have hl1:m1.s1.length=off:=by rw[HM1.out];exact shL_len _ _
  have hlq:m1.bid.qc.length=k:=by rw[HM1.out];show(cmL _).length =_;rw[cmL_len,cfs_len]
  have hlp:m1.bid.pc.length=k:=by rw[HM1.out];show(cmL _).length =_;rw[cmL_len,cfs_len]
  have S0:Hid (SlOf shC 2 Z1 (.slice A21 off k21) (shL (cfs (sd++[113]) k) off)):=Lib.hid (by
   have h:=OwnOf.sl shC_len j31
   rw[HM1.out,shL_len] at h
   exact h)
  have S1:Hid (SlOf shC 2 Z1 (.slice A31 off k31) (shL (cfs (sd++[112]) k) off)):=Lib.hid (by
   have h:=OwnOf.sl shC_len j41
   rw[HM1.out,shL_len] at h
   exact h)
  have C0:Hid (SlOf inC 1 Z1 (.slice A01 k k01) (cmL (cfs (sd++[113]) k))):=Lib.hid (by
   have h:=OwnOf.sl inC_len j11
   rw[hlq,HM1.out] at h
   exact h)
  have C1:Hid (SlOf inC 1 Z1 (.slice A11 k k11) (cmL (cfs (sd++[112]) k))):=Lib.hid (by
   have h:=OwnOf.sl inC_len j21
   rw[hlp,HM1.out] at h
   exact h)
  have eqt:m1.bid.qt=boxT (sd++[113]) (qualL es):=by rw[HM1.out];rfl
  have ept:m1.bid.pt=boxT (sd++[112]) (pricL es rs):=by rw[HM1.out];rfl
  rw[hlq,hlp,eqt,ept] at hbA1
  rw[hl0,hl1] at hbB1
  obtain⟨qt,eqt2⟩:∃t,t=boxT (sd++[113]) (qualL es):=⟨_,rfl⟩
  obtain⟨pt,ept2⟩:∃t,t=boxT (sd++[112]) (pricL es rs):=⟨_,rfl⟩
  rw[←eqt2,←ept2] at hbA1
  have EQT:=Lib.hid eqt2
  have EPT:=Lib.hid ept2
  rw[hc1]
  have HBA:=Lib.hid hbA1
  have HBB:=Lib.hid hbB1
  have HZ1:=Lib.hid hoZ1
  have b0:=hbB1.cell 0
  have b1:=hbB1.cell 1
  have a1:=hbA1.cell 1
  have a2:=hbA1.cell 2
  have a3:=hbA1.cell 3
  have a4:=hbA1.cell 4
  obtain⟨NB,eNB⟩:∃x,x=Z1.heap.size:=⟨_,rfl⟩
  obtain⟨NW,eNW⟩:∃x,x=Z1.alloc (.cells #[.string qt,.slice A01 k k01,.string pt,.slice A11 k k11] tBox):=⟨_,rfl⟩
  have HNB:Hid (Blk NW NB tBox #[.string qt,.slice A01 k k01,.string pt,.slice A11 k k11]):=Lib.hid (by rw[eNW,eNB];exact Blk.new Z1 _ _)
  have HNO:Hid (Only NoneOf Z1 NW):=Lib.hid (by rw[eNW];exact(Only.refl _ _).alloc _)
  have ENB:=Lib.hid eNB
  have ENW:=Lib.hid eNW
  clear hc1 hl0 hl1 hlq hlp eqt ept eqt2 ept2 e91 j11 j21 j31 j41 hoZ1 hbA1 hbB1 eNB eNW
  go_wp2_with fail
  rw[←ENW.out]
  rw[←ENB.out]
  clear b0 b1 a1 a2 a3 a4
  go_loopw [74] (fun i W=>(i= .int .i64 0∨i= .int .i64 1∨i= .int .i64 2)∧Only NoneOf NW W) (fun i _=>2-(intOf i).toNat)
  case atStart=>exact⟨.inl rfl,Only.refl _ _⟩
  case round=>
   obtain⟨hi,ho⟩:=hrel
   have HO5:=Lib.hid ho
   clear ho
   rcases hi with rfl|rfl|rfl
   ·have n0:=(HNB.out.only HO5.out (fun e=>e)).cell 0
    have n1:=(HNB.out.only HO5.out (fun e=>e)).cell 1
    obtain⟨G,eG⟩:∃g,g=wr.heap.size:=⟨_,rfl⟩
    obtain⟨Y0,eY⟩:∃Y,Y=wr.alloc (.cells #[.string qt,.slice A01 k k01] tBox):=⟨_,rfl⟩
    have HYB:Hid (Blk Y0 G tBox #[.string qt,.slice A01 k k01]):=Lib.hid (by rw[eY,eG];exact Blk.new wr _ _)
    have HYO:Hid (Only NoneOf NW Y0):=Lib.hid (by rw[eY];exact HO5.out.alloc _)
    have EG:=Lib.hid eG
    have EY:=Lib.hid eY
    clear eG eY
    go_wp2_with fail
    rw[←EY.out]
    rw[←EG.out]
    clear n0 n1
    obtain⟨xs,exs⟩:∃xs,xs=ringX off k f:=⟨_,rfl⟩
    have EXS:=Lib.hid exs
    have hxl:xs.length=k:=by rw[exs];exact ringX_len _ _ _
    have HXL:=Lib.hid hxl
    have HZY:Hid (Only NoneOf Z1 Y0):=Lib.hid (HNO.out.trans HYO.out)
    clear exs hxl
    go_loopw [17,80] (fun v i W=>∃(j:Nat) (A3:Option Addr) (cap3:Nat),v= .slice A3 j cap3∧i= .int .i64 (j:Int)∧j≤k∧OwnOf tSh shC 2 W Y0.heap.size (.slice A3 j cap3) j (shX (cfs (sd++[113]) k) (xs.take j))∧Only NoneOf Y0 W) (fun _ i _=>k-(intOf i).toNat)
    case atStart=>exact⟨0,none,0,rfl,rfl,Nat.zero_le _,OwnOf.nil _ _ _ _ _,Only.refl _ _⟩
    case round=>
     obtain⟨j,A3,cap3,rfl,rfl,hj,hown,ho⟩:=hrel
     obtain⟨V,rfl⟩:∃x,x=wr:=⟨_,rfl⟩
     have HOWN:=Lib.hid hown
     have HOV:=Lib.hid ho
     have hk13:k≤13:=by have:=HKO.out;have:=HOFF.out;omega
     clear hown ho
     by_cases hlt:j<k
     ·have hof:=HOFF.out
      have hff:=HF.out
      obtain⟨r,er⟩:∃r,r=(f+j)%off:=⟨_,rfl⟩
      have hro:r<off:=by rw[er];exact Nat.mod_lt _ (by omega)
      have hxj:xs[j]? =some (r+1):=by rw[EXS.out,ringX_get hlt,er]
      obtain⟨A9,cap9,e9,hat⟩:=sh_at S0.out
      rw[shL_len] at e9
      simp only[Value.slice.injEq] at e9
      obtain⟨rfl,-,-⟩:=e9
      obtain⟨g,o9,e2,hg,c00,c01⟩:=hat r _ (shY_get hro)
      subst e2
      obtain⟨y,ey⟩:∃y,y=yOf (cfs (sd++[113]) k) (r+1):=⟨_,rfl⟩
      rw[←ey] at c01
      have hput:=good_put (w:=Y0) (cs:=(cfs (sd++[113]) k)) (xs:=xs) (ov:= .slice A3 j cap3) (j:=j) (x:=r+1) (W:=(V.alloc (.cells #[.int .i64 ((r+1:Nat):Int),.int .i64 (y:Int)] tSh)).drew) (by omega) hxj (OwnOf.keep HOWN.out (((Only.refl NoneOf V).alloc _).drew) (fun _ _ e=>e)) ((HOV.out.alloc _).drew) V.heap.size (by rw[←ey];exact(Blk.new V _ _).drew) 43
      obtain⟨A5,cap5,W5,hrun,hown5,ho5⟩:=hput
      obtain⟨x,ex⟩:∃x,x=((r+1:Nat):Int):=⟨_,rfl⟩
      have c0:V.cell? ⟨g,o9+r*2,none⟩=some (.int .i64 x):=by rw[ex];exact(HZY.out.trans HOV.out).cell_some c00 (fun e=>e)
      have c1:V.cell? ⟨g,o9+r*2+1,none⟩=some (.int .i64 (y:Int)):=(HZY.out.trans HOV.out).cell_some c01 (fun e=>e)
      have b0:=(HBB.out.only ((HNO.out.trans HYO.out).trans HOV.out) (fun e=>e)).cell 0
      rw[←ex] at hrun
      have HOWN5:=Lib.hid hown5
      have HO5V:=Lib.hid ho5
      have wf:IntKind.i64.wrap (f:Int)=(f:Int):=IntWalk.i64_in _ (by omega)
      have wn:IntKind.i64.wrap ((f:Int)+(j:Int))=(f:Int)+(j:Int):=IntWalk.i64_in _ (by omega)
      have wm:((f:Int)+(j:Int)).tmod (off:Int)=(r:Int):=by
       rw[Int.tmod_eq_emod_of_nonneg (by omega),er]
       push_cast
       rfl
      have wz:((off:Int)==0)=false:=by rw[beq_eq_false_iff_ne];omega
      have wz2:¬(off:Int)=0:=by omega
      have wz3:¬off=0:=by omega
      have wr2:IntKind.i64.wrap (r:Int)=(r:Int):=IntWalk.i64_in _ (by omega)
      have ij:(j:Int)<(k:Int):=by omega
      have r0:(0:Int)≤(r:Int):=by omega
      have r1:(r:Int)<(off:Int):=by omega
      have wj:IntKind.i64.wrap ((j:Int)+1)=(j:Int)+1:=IntWalk.i64_in _ (by omega)
      clear hof hff hro hxj hat c00 c01 ey ex hown5 ho5 er hg
      go_upto_region 14 with(fail)
      go_region
      go_wp2_with fail
      go_roundw
      case rel=>exact⟨j+1,_,_,rfl,by go_num,by omega,HOWN5.out,HO5V.out⟩
      case measure=>simp[intOf];omega
     ·obtain rfl:k=j:=by omega
      have hsl:SlOf shC 2 V (.slice A3 k cap3) (shX (cfs (sd++[113]) k) xs):=by
       have h:=HOWN.out
       rw[List.take_of_length_le (by rw[HXL.out];exact Nat.le_refl _)] at h
       exact OwnOf.sl shC_len (by rw[shX_len,HXL.out];exact h)
      have hxs:XsOk xs:=by rw[EXS.out];exact ring_ok HOFF.out.1 HOFF.out.2 HKO.out
      have hlag:lagOk xs=true:=by rw[EXS.out];exact ring_lag HOFF.out.1 HOFF.out.2 HK1.out HKO.out
      have hZV:Only NoneOf Z1 V:=HZY.out.trans HOV.out
      have OP1:Hid (Calls Tryz.prog 29 #[.slice A01 k k01,.slice A3 k cap3] V (fun e w' =>e= .returned (.tuple #[.int .i64 ((cfN (sd++[113]) 0:Nat):Int),.slice none 0 0,.int .i64 0])∧Only NoneOf V w')):=Lib.hid ((open_any' (cfs (sd++[113]) k) xs (cfN (sd++[113]) 0) (cfs_head _ HK1.out) (cfN_lt _ _) (by rw[cfs_len];exact HK1.out) (by rw[cfs_len];omega) (by rw[cfs_len,HXL.out];exact Nat.le_refl _) hxs (fun _=>hlag) _ _ V (C0.out.only hZV) hsl).mono (fun e w' h=>by
       obtain⟨h1,h2⟩:=h
       rw[if_neg (by rw[cfs_len,HXL.out];omega),if_neg (by rw[cfs_len,HXL.out];omega)] at h1
       exact⟨h1,h2⟩))
      have HSL:=Lib.hid hsl
      have HXS:=Lib.hid hxs
      have HZV:=Lib.hid hZV
      obtain⟨key,ekey⟩:∃x,x=((cfN (sd++[113]) 0:Nat):Int):=⟨_,rfl⟩
      rw[←ekey] at OP1
      have hkey: -9223372036854775808≤key∧key≤9223372036854775807:=by
       have:=cfN_lt (sd++[113]) 0
       have:=lagN_val
       omega
      have htxt:openS key qt.data.toList=((qualL es),true):=by rw[EQT.out,ekey];exact open_boxN _ _
      have hts:qt.size≤1000000:=by rw[EQT.out,boxT_size];have:=HPL.out;have:=HQL.out;omega
      have HKY:=Lib.hid hkey
      have HTX:=Lib.hid htxt
      have HTS:=Lib.hid hts
      have g1:=(HYB.out.only HOV.out (fun e=>e)).cell 1
      clear hsl hxs hlag hZV ekey hkey htxt hts
      go_wp2_with fail
      refine OP1.out.mono ?_
      rintro e v1 ⟨rfl,hv1⟩
      have HV1:=Lib.hid (HOV.out.trans hv1)
      have HX1:=Lib.hid hv1
      have g0:=(HYB.out.only HV1.out (fun e=>e)).cell 0
      clear hv1 g1
      go_wp2_with fail
      refine(ropen_any key HKY.out.1 HKY.out.2 qt (by have:=HTS.out;omega) v1).mono ?_
      rintro e v2 ⟨tx,rfl,htx,hv2⟩
      rw[HTX.out] at htx⊢
      have HTT:=Lib.hid htx
      have HV2:=Lib.hid (HV1.out.trans hv2)
      have HX2:=Lib.hid (HX1.out.trans hv2)
      clear htx hv2 g0
      go_wp2_with fail
      refine(quality_any es HIN.out (by have:=HQL2.out;omega) _ v2 (HEN.out.only (HZ1.out.trans (HZY.out.trans HV2.out))) (HTV.out.none (HZ1.out.trans (HZY.out.trans HV2.out)))).mono ?_
      rintro e v3 ⟨tq,rfl,htq,hv3⟩
      have HTQ:=Lib.hid htq
      have HV3:=Lib.hid (HV2.out.trans hv3)
      have HVV:=Lib.hid (HX2.out.trans hv3)
      clear htq hv3
      go_wp2_with fail
      refine(prices_any es rs HIN.out HRN.out (by have:=HPL.out;omega) _ _ v3 (HEN.out.only (HZ1.out.trans (HZY.out.trans HV3.out))) (HRB.out.only (HZ1.out.trans (HZY.out.trans HV3.out))) (HTV.out.none (HZ1.out.trans (HZY.out.trans HV3.out)))).mono ?_
      rintro e v4 ⟨tp,rfl,htp,hv4⟩
      obtain rfl:tx=tq:=ba_ext (by rw[HTT.out];exact(HTQ.out).symm)
      have HV4:=Lib.hid (HV3.out.trans hv4)
      have hv4' :=hv4
      have b9:=tx_listT (rfl:tx=tx)
      clear htp hv4
      have HVH:=Lib.hid hv4'
      clear hv4'
      obtain⟨gS,capS,eS,_,_,hcS,hmS⟩:=own_form HOWN.out (by have:=HK1.out;omega)
      simp only[Value.slice.injEq] at eS
      obtain⟨rfl,-,hcc⟩:=eS
      rw[←hcc] at hcS hmS
      clear hcc
      obtain⟨V5,eV5⟩:∃x,x=v4.alloc (.cells #[.string tx,.string tp] 9):=⟨_,rfl⟩
      have hv5:Only NoneOf Y0 V5:=by rw[eV5];exact HV4.out.alloc _
      have HV5:=Lib.hid hv5
      have EV5:=Lib.hid eV5
      have OP2:Hid (∀u W,SlOf shC 2 V u (shX (cfs (sd++[113]) k) (xs.drop 1))→Only NoneOf Y0 W→Only NoneOf V W→Calls Tryz.prog 29 #[.slice A01 k k01,u] W (fun e w' =>e= .returned (.tuple #[.int .i64 0,.slice none 0 0,.int .i64 24])∧Only NoneOf W w')):=Lib.hid (fun u W hu hW hVW=>by
       have hl1:(xs.drop 1).length <((cfs (sd++[113]) k)).length :=by rw[List.length_drop,HXL.out,cfs_len];have:=HK1.out;omega
       refine(open_any' (cfs (sd++[113]) k) (xs.drop 1) (cfN (sd++[113]) 0) (cfs_head _ HK1.out) (cfN_lt _ _) (by rw[cfs_len];exact HK1.out) (by rw[cfs_len];omega) (by omega) HXS.out.drop1 (fun e=>by omega) _ _ W (C0.out.only (HZY.out.trans hW)) (hu.only hVW)).mono (fun e w' h=> ?_)
       obtain⟨h1,h2⟩:=h
       rw[if_pos hl1,if_pos hl1] at h1
       exact⟨h1,h2⟩)
      have hsT:=OwnOf.slT shC_len (P:=shX (cfs (sd++[113]) k) xs) (show OwnOf tSh shC 2 V Y0.heap.size (.slice (some ⟨gS,0,none⟩) k cap3) (shX (cfs (sd++[113]) k) xs).length (shX (cfs (sd++[113]) k) xs) by
       have h:=HOWN.out
       rw[List.take_of_length_le (by rw[HXL.out];exact Nat.le_refl _)] at h
       rw[shX_len,HXL.out]
       exact h)
      have hsd:SlOf shC 2 V (.slice (some ⟨gS,0+1*2,none⟩) (k-1) (cap3-1)) (shX (cfs (sd++[113]) k) (xs.drop 1)):=by
       have h:=(hsT.drop 1 (by rw[shX_len,HXL.out];exact HK1.out)).sl
       rwa [shX_drop] at h
      have HSD2:=Lib.hid hsd
      clear hsT hsd hv5 eV5
      have k0:(0:Int)≤(k:Int):=by omega
      have k1:(1:Int)≤(k:Int):=by have:=HK1.out;omega
      have k2:1≤k:=HK1.out
      have VV4:=Lib.hid (show Only NoneOf V V5 by rw[EV5.out];exact(HVV.out.trans HVH.out).alloc _)
      go_upto_region 19 with(fail)
      rw[←EV5.out]
      by_cases hcap:cap3=1
      ·subst hcap
       have hs0:SlOf shC 2 V (.slice (some ⟨gS,0,none⟩) 0 0) (shX (cfs (sd++[113]) k) (xs.drop 1)):=by
        have hl:(shX (cfs (sd++[113]) k) (xs.drop 1)).length =0:=by rw[shX_len,List.length_drop,HXL.out];omega
        have hnil:=List.eq_nil_of_length_eq_zero hl
        rw[hnil]
        exact⟨_,_,rfl,Nat.le_refl _,by omega,fun i p hp=>by simp at hp⟩
       have HS0:=Lib.hid hs0
       clear hs0
       obtain⟨ft,hfx⟩:=family (fun W=>Only NoneOf V5 W) (W0:=V5.drew) (Only.refl NoneOf V5).drew
       obtain⟨F,hI,hF0,hF,hFS⟩:=hfx
       have D1:Hid (∀q,Calls Tryz.prog 29 #[.slice A01 k k01,.slice (some ⟨gS,0,none⟩) 0 0] (F q) fun e w' =>e= .returned (.tuple #[.int .i64 0,.slice none 0 0,.int .i64 24])∧∃z,w' =F z):=Lib.hid (fun q=>(OP2.out _ (F q) HS0.out (HV5.out.trans (hFS q)) (VV4.out.trans (hFS q))).mono (fun e w' hh=>⟨hh.1,(hF w').1 ((hFS q).trans hh.2)⟩))
       have L1:∀q,(F q).cell? ⟨G,1,none⟩=some (.slice A01 k k01):=fun q=>(HYB.out.only (HV5.out.trans (hFS q)) (fun e=>e)).cell 1
       have HF:=Lib.hid hF
       have HF0:=Lib.hid hF0
       clear hF hF0 hFS
       refine wp_region_family F (by kernel_rfl) (by kernel_rfl) HF0.out ?_
       repeat(go_big_quiet_step (with_reducible exact D1.out _))
       refine wpQuiet_nil ?_
       intro w9 hw9
       have HO9:=Lib.hid ((HF.out w9).2 hw9)
       clear hw9 L1
       go_wp2_with fail
       exact⟨⟨.inr (.inl rfl),(HYO.out.trans HV5.out).trans HO9.out⟩,by simp[intOf]⟩
      ·obtain⟨ft,hfx⟩:=family (fun W=>Only NoneOf V5 W) (W0:=V5.drew) (Only.refl NoneOf V5).drew
       obtain⟨F,hI,hF0,hF,hFS⟩:=hfx
       have D1:Hid (∀q,Calls Tryz.prog 29 #[.slice A01 k k01,.slice (some ⟨gS,2,none⟩) (k-1) (cap3-1)] (F q) fun e w' =>e= .returned (.tuple #[.int .i64 0,.slice none 0 0,.int .i64 24])∧∃z,w' =F z):=Lib.hid (fun q=>(OP2.out _ (F q) HSD2.out (HV5.out.trans (hFS q)) (VV4.out.trans (hFS q))).mono (fun e w' hh=>⟨hh.1,(hF w').1 ((hFS q).trans hh.2)⟩))
       have L1:∀q,(F q).cell? ⟨G,1,none⟩=some (.slice A01 k k01):=fun q=>(HYB.out.only (HV5.out.trans (hFS q)) (fun e=>e)).cell 1
       have HF:=Lib.hid hF
       have HF0:=Lib.hid hF0
       clear hF hF0 hFS
       refine wp_region_family F (by kernel_rfl) (by kernel_rfl) HF0.out ?_
       repeat(go_big_quiet_step (with_reducible exact D1.out _))
       refine wpQuiet_nil ?_
       intro w9 hw9
       have HO9:=Lib.hid ((HF.out w9).2 hw9)
       clear hw9 L1
       go_wp2_with fail
       exact⟨⟨.inr (.inl rfl),(HYO.out.trans HV5.out).trans HO9.out⟩,by simp[intOf]⟩
   ·have n0:=(HNB.out.only HO5.out (fun e=>e)).cell 2
    have n1:=(HNB.out.only HO5.out (fun e=>e)).cell 3
    obtain⟨G,eG⟩:∃g,g=wr.heap.size:=⟨_,rfl⟩
    obtain⟨Y0,eY⟩:∃Y,Y=wr.alloc (.cells #[.string pt,.slice A11 k k11] tBox):=⟨_,rfl⟩
    have HYB:Hid (Blk Y0 G tBox #[.string pt,.slice A11 k k11]):=Lib.hid (by rw[eY,eG];exact Blk.new wr _ _)
    have HYO:Hid (Only NoneOf NW Y0):=Lib.hid (by rw[eY];exact HO5.out.alloc _)
    have EG:=Lib.hid eG
    have EY:=Lib.hid eY
    clear eG eY
    go_wp2_with fail
    rw[←EY.out]
    rw[←EG.out]
    clear n0 n1
    obtain⟨xs,exs⟩:∃xs,xs=ringX off k f:=⟨_,rfl⟩
    have EXS:=Lib.hid exs
    have hxl:xs.length=k:=by rw[exs];exact ringX_len _ _ _
    have HXL:=Lib.hid hxl
    have HZY:Hid (Only NoneOf Z1 Y0):=Lib.hid (HNO.out.trans HYO.out)
    clear exs hxl
    go_loopw [17,80] (fun v i W=>∃(j:Nat) (A3:Option Addr) (cap3:Nat),v= .slice A3 j cap3∧i= .int .i64 (j:Int)∧j≤k∧OwnOf tSh shC 2 W Y0.heap.size (.slice A3 j cap3) j (shX (cfs (sd++[112]) k) (xs.take j))∧Only NoneOf Y0 W) (fun _ i _=>k-(intOf i).toNat)
    case atStart=>exact⟨0,none,0,rfl,rfl,Nat.zero_le _,OwnOf.nil _ _ _ _ _,Only.refl _ _⟩
    case round=>
     obtain⟨j,A3,cap3,rfl,rfl,hj,hown,ho⟩:=hrel
     obtain⟨V,rfl⟩:∃x,x=wr:=⟨_,rfl⟩
     have HOWN:=Lib.hid hown
     have HOV:=Lib.hid ho
     have hk13:k≤13:=by have:=HKO.out;have:=HOFF.out;omega
     clear hown ho
     by_cases hlt:j<k
     ·have hof:=HOFF.out
      have hff:=HF.out
      obtain⟨r,er⟩:∃r,r=(f+j)%off:=⟨_,rfl⟩
      have hro:r<off:=by rw[er];exact Nat.mod_lt _ (by omega)
      have hxj:xs[j]? =some (r+1):=by rw[EXS.out,ringX_get hlt,er]
      obtain⟨A9,cap9,e9,hat⟩:=sh_at S1.out
      rw[shL_len] at e9
      simp only[Value.slice.injEq] at e9
      obtain⟨rfl,-,-⟩:=e9
      obtain⟨g,o9,e2,hg,c00,c01⟩:=hat r _ (shY_get hro)
      subst e2
      obtain⟨y,ey⟩:∃y,y=yOf (cfs (sd++[112]) k) (r+1):=⟨_,rfl⟩
      rw[←ey] at c01
      have hput:=good_put (w:=Y0) (cs:=(cfs (sd++[112]) k)) (xs:=xs) (ov:= .slice A3 j cap3) (j:=j) (x:=r+1) (W:=(V.alloc (.cells #[.int .i64 ((r+1:Nat):Int),.int .i64 (y:Int)] tSh)).drew) (by omega) hxj (OwnOf.keep HOWN.out (((Only.refl NoneOf V).alloc _).drew) (fun _ _ e=>e)) ((HOV.out.alloc _).drew) V.heap.size (by rw[←ey];exact(Blk.new V _ _).drew) 43
      obtain⟨A5,cap5,W5,hrun,hown5,ho5⟩:=hput
      obtain⟨x,ex⟩:∃x,x=((r+1:Nat):Int):=⟨_,rfl⟩
      have c0:V.cell? ⟨g,o9+r*2,none⟩=some (.int .i64 x):=by rw[ex];exact(HZY.out.trans HOV.out).cell_some c00 (fun e=>e)
      have c1:V.cell? ⟨g,o9+r*2+1,none⟩=some (.int .i64 (y:Int)):=(HZY.out.trans HOV.out).cell_some c01 (fun e=>e)
      have b0:=(HBB.out.only ((HNO.out.trans HYO.out).trans HOV.out) (fun e=>e)).cell 1
      rw[←ex] at hrun
      have HOWN5:=Lib.hid hown5
      have HO5V:=Lib.hid ho5
      have wf:IntKind.i64.wrap (f:Int)=(f:Int):=IntWalk.i64_in _ (by omega)
      have wn:IntKind.i64.wrap ((f:Int)+(j:Int))=(f:Int)+(j:Int):=IntWalk.i64_in _ (by omega)
      have wm:((f:Int)+(j:Int)).tmod (off:Int)=(r:Int):=by
       rw[Int.tmod_eq_emod_of_nonneg (by omega),er]
       push_cast
       rfl
      have wz:((off:Int)==0)=false:=by rw[beq_eq_false_iff_ne];omega
      have wz2:¬(off:Int)=0:=by omega
      have wz3:¬off=0:=by omega
      have wr2:IntKind.i64.wrap (r:Int)=(r:Int):=IntWalk.i64_in _ (by omega)
      have ij:(j:Int)<(k:Int):=by omega
      have r0:(0:Int)≤(r:Int):=by omega
      have r1:(r:Int)<(off:Int):=by omega
      have wj:IntKind.i64.wrap ((j:Int)+1)=(j:Int)+1:=IntWalk.i64_in _ (by omega)
      clear hof hff hro hxj hat c00 c01 ey ex hown5 ho5 er hg
      go_upto_region 14 with(fail)
      go_region
      go_wp2_with fail
      go_roundw
      case rel=>exact⟨j+1,_,_,rfl,by go_num,by omega,HOWN5.out,HO5V.out⟩
      case measure=>simp[intOf];omega
     ·obtain rfl:k=j:=by omega
      have hsl:SlOf shC 2 V (.slice A3 k cap3) (shX (cfs (sd++[112]) k) xs):=by
       have h:=HOWN.out
       rw[List.take_of_length_le (by rw[HXL.out];exact Nat.le_refl _)] at h
       exact OwnOf.sl shC_len (by rw[shX_len,HXL.out];exact h)
      have hxs:XsOk xs:=by rw[EXS.out];exact ring_ok HOFF.out.1 HOFF.out.2 HKO.out
      have hlag:lagOk xs=true:=by rw[EXS.out];exact ring_lag HOFF.out.1 HOFF.out.2 HK1.out HKO.out
      have hZV:Only NoneOf Z1 V:=HZY.out.trans HOV.out
      have OP1:Hid (Calls Tryz.prog 29 #[.slice A11 k k11,.slice A3 k cap3] V (fun e w' =>e= .returned (.tuple #[.int .i64 ((cfN (sd++[112]) 0:Nat):Int),.slice none 0 0,.int .i64 0])∧Only NoneOf V w')):=Lib.hid ((open_any' (cfs (sd++[112]) k) xs (cfN (sd++[112]) 0) (cfs_head _ HK1.out) (cfN_lt _ _) (by rw[cfs_len];exact HK1.out) (by rw[cfs_len];omega) (by rw[cfs_len,HXL.out];exact Nat.le_refl _) hxs (fun _=>hlag) _ _ V (C1.out.only hZV) hsl).mono (fun e w' h=>by
       obtain⟨h1,h2⟩:=h
       rw[if_neg (by rw[cfs_len,HXL.out];omega),if_neg (by rw[cfs_len,HXL.out];omega)] at h1
       exact⟨h1,h2⟩))
      have HSL:=Lib.hid hsl
      have HXS:=Lib.hid hxs
      have HZV:=Lib.hid hZV
      obtain⟨key,ekey⟩:∃x,x=((cfN (sd++[112]) 0:Nat):Int):=⟨_,rfl⟩
      rw[←ekey] at OP1
      have hkey: -9223372036854775808≤key∧key≤9223372036854775807:=by
       have:=cfN_lt (sd++[112]) 0
       have:=lagN_val
       omega
      have htxt:openS key pt.data.toList=((pricL es rs),true):=by rw[EPT.out,ekey];exact open_boxN _ _
      have hts:pt.size≤1000000:=by rw[EPT.out,boxT_size];have:=HPL.out;have:=HQL.out;omega
      have HKY:=Lib.hid hkey
      have HTX:=Lib.hid htxt
      have HTS:=Lib.hid hts
      have g1:=(HYB.out.only HOV.out (fun e=>e)).cell 1
      clear hsl hxs hlag hZV ekey hkey htxt hts
      go_wp2_with fail
      refine OP1.out.mono ?_
      rintro e v1 ⟨rfl,hv1⟩
      have HV1:=Lib.hid (HOV.out.trans hv1)
      have HX1:=Lib.hid hv1
      have g0:=(HYB.out.only HV1.out (fun e=>e)).cell 0
      clear hv1 g1
      go_wp2_with fail
      refine(ropen_any key HKY.out.1 HKY.out.2 pt (by have:=HTS.out;omega) v1).mono ?_
      rintro e v2 ⟨tx,rfl,htx,hv2⟩
      rw[HTX.out] at htx⊢
      have HTT:=Lib.hid htx
      have HV2:=Lib.hid (HV1.out.trans hv2)
      have HX2:=Lib.hid (HX1.out.trans hv2)
      clear htx hv2 g0
      go_wp2_with fail
      refine(quality_any es HIN.out (by have:=HQL2.out;omega) _ v2 (HEN.out.only (HZ1.out.trans (HZY.out.trans HV2.out))) (HTV.out.none (HZ1.out.trans (HZY.out.trans HV2.out)))).mono ?_
      rintro e v3 ⟨tq,rfl,htq,hv3⟩
      have HTQ:=Lib.hid htq
      have HV3:=Lib.hid (HV2.out.trans hv3)
      have HVV:=Lib.hid (HX2.out.trans hv3)
      clear htq hv3
      go_wp2_with fail
      refine(prices_any es rs HIN.out HRN.out (by have:=HPL.out;omega) _ _ v3 (HEN.out.only (HZ1.out.trans (HZY.out.trans HV3.out))) (HRB.out.only (HZ1.out.trans (HZY.out.trans HV3.out))) (HTV.out.none (HZ1.out.trans (HZY.out.trans HV3.out)))).mono ?_
      rintro e v4 ⟨tp,rfl,htp,hv4⟩
      obtain rfl:tx=tp:=ba_ext (by rw[HTT.out];exact(htp).symm)
      have HV4:=Lib.hid (HV3.out.trans hv4)
      have hv4' :=hv4
      have b9:=tx_listT (rfl:tx=tx)
      clear htp hv4
      have HVH:=Lib.hid hv4'
      clear hv4'
      obtain⟨gS,capS,eS,_,_,hcS,hmS⟩:=own_form HOWN.out (by have:=HK1.out;omega)
      simp only[Value.slice.injEq] at eS
      obtain⟨rfl,-,hcc⟩:=eS
      rw[←hcc] at hcS hmS
      clear hcc
      obtain⟨V5,eV5⟩:∃x,x=v4.alloc (.cells #[.string tq,.string tx] 9):=⟨_,rfl⟩
      have hv5:Only NoneOf Y0 V5:=by rw[eV5];exact HV4.out.alloc _
      have HV5:=Lib.hid hv5
      have EV5:=Lib.hid eV5
      have OP2:Hid (∀u W,SlOf shC 2 V u (shX (cfs (sd++[112]) k) (xs.drop 1))→Only NoneOf Y0 W→Only NoneOf V W→Calls Tryz.prog 29 #[.slice A11 k k11,u] W (fun e w' =>e= .returned (.tuple #[.int .i64 0,.slice none 0 0,.int .i64 24])∧Only NoneOf W w')):=Lib.hid (fun u W hu hW hVW=>by
       have hl1:(xs.drop 1).length <((cfs (sd++[112]) k)).length :=by rw[List.length_drop,HXL.out,cfs_len];have:=HK1.out;omega
       refine(open_any' (cfs (sd++[112]) k) (xs.drop 1) (cfN (sd++[112]) 0) (cfs_head _ HK1.out) (cfN_lt _ _) (by rw[cfs_len];exact HK1.out) (by rw[cfs_len];omega) (by omega) HXS.out.drop1 (fun e=>by omega) _ _ W (C1.out.only (HZY.out.trans hW)) (hu.only hVW)).mono (fun e w' h=> ?_)
       obtain⟨h1,h2⟩:=h
       rw[if_pos hl1,if_pos hl1] at h1
       exact⟨h1,h2⟩)
      have hsT:=OwnOf.slT shC_len (P:=shX (cfs (sd++[112]) k) xs) (show OwnOf tSh shC 2 V Y0.heap.size (.slice (some ⟨gS,0,none⟩) k cap3) (shX (cfs (sd++[112]) k) xs).length (shX (cfs (sd++[112]) k) xs) by
       have h:=HOWN.out
       rw[List.take_of_length_le (by rw[HXL.out];exact Nat.le_refl _)] at h
       rw[shX_len,HXL.out]
       exact h)
      have hsd:SlOf shC 2 V (.slice (some ⟨gS,0+1*2,none⟩) (k-1) (cap3-1)) (shX (cfs (sd++[112]) k) (xs.drop 1)):=by
       have h:=(hsT.drop 1 (by rw[shX_len,HXL.out];exact HK1.out)).sl
       rwa [shX_drop] at h
      have HSD2:=Lib.hid hsd
      clear hsT hsd hv5 eV5
      have k0:(0:Int)≤(k:Int):=by omega
      have k1:(1:Int)≤(k:Int):=by have:=HK1.out;omega
      have k2:1≤k:=HK1.out
      have VV4:=Lib.hid (show Only NoneOf V V5 by rw[EV5.out];exact(HVV.out.trans HVH.out).alloc _)
      go_upto_region 19 with(fail)
      rw[←EV5.out]
      by_cases hcap:cap3=1
      ·subst hcap
       have hs0:SlOf shC 2 V (.slice (some ⟨gS,0,none⟩) 0 0) (shX (cfs (sd++[112]) k) (xs.drop 1)):=by
        have hl:(shX (cfs (sd++[112]) k) (xs.drop 1)).length =0:=by rw[shX_len,List.length_drop,HXL.out];omega
        have hnil:=List.eq_nil_of_length_eq_zero hl
        rw[hnil]
        exact⟨_,_,rfl,Nat.le_refl _,by omega,fun i p hp=>by simp at hp⟩
       have HS0:=Lib.hid hs0
       clear hs0
       obtain⟨ft,hfx⟩:=family (fun W=>Only NoneOf V5 W) (W0:=V5.drew) (Only.refl NoneOf V5).drew
       obtain⟨F,hI,hF0,hF,hFS⟩:=hfx
       have D1:Hid (∀q,Calls Tryz.prog 29 #[.slice A11 k k11,.slice (some ⟨gS,0,none⟩) 0 0] (F q) fun e w' =>e= .returned (.tuple #[.int .i64 0,.slice none 0 0,.int .i64 24])∧∃z,w' =F z):=Lib.hid (fun q=>(OP2.out _ (F q) HS0.out (HV5.out.trans (hFS q)) (VV4.out.trans (hFS q))).mono (fun e w' hh=>⟨hh.1,(hF w').1 ((hFS q).trans hh.2)⟩))
       have L1:∀q,(F q).cell? ⟨G,1,none⟩=some (.slice A11 k k11):=fun q=>(HYB.out.only (HV5.out.trans (hFS q)) (fun e=>e)).cell 1
       have HF:=Lib.hid hF
       have HF0:=Lib.hid hF0
       clear hF hF0 hFS
       refine wp_region_family F (by kernel_rfl) (by kernel_rfl) HF0.out ?_
       repeat(go_big_quiet_step (with_reducible exact D1.out _))
       refine wpQuiet_nil ?_
       intro w9 hw9
       have HO9:=Lib.hid ((HF.out w9).2 hw9)
       clear hw9 L1
       go_wp2_with fail
       exact⟨⟨.inr (.inr rfl),(HYO.out.trans HV5.out).trans HO9.out⟩,by simp[intOf]⟩
      ·obtain⟨ft,hfx⟩:=family (fun W=>Only NoneOf V5 W) (W0:=V5.drew) (Only.refl NoneOf V5).drew
       obtain⟨F,hI,hF0,hF,hFS⟩:=hfx
       have D1:Hid (∀q,Calls Tryz.prog 29 #[.slice A11 k k11,.slice (some ⟨gS,2,none⟩) (k-1) (cap3-1)] (F q) fun e w' =>e= .returned (.tuple #[.int .i64 0,.slice none 0 0,.int .i64 24])∧∃z,w' =F z):=Lib.hid (fun q=>(OP2.out _ (F q) HSD2.out (HV5.out.trans (hFS q)) (VV4.out.trans (hFS q))).mono (fun e w' hh=>⟨hh.1,(hF w').1 ((hFS q).trans hh.2)⟩))
       have L1:∀q,(F q).cell? ⟨G,1,none⟩=some (.slice A11 k k11):=fun q=>(HYB.out.only (HV5.out.trans (hFS q)) (fun e=>e)).cell 1
       have HF:=Lib.hid hF
       have HF0:=Lib.hid hF0
       clear hF hF0 hFS
       refine wp_region_family F (by kernel_rfl) (by kernel_rfl) HF0.out ?_
       repeat(go_big_quiet_step (with_reducible exact D1.out _))
       refine wpQuiet_nil ?_
       intro w9 hw9
       have HO9:=Lib.hid ((HF.out w9).2 hw9)
       clear hw9 L1
       go_wp2_with fail
       exact⟨⟨.inr (.inr rfl),(HYO.out.trans HV5.out).trans HO9.out⟩,by simp[intOf]⟩
   ·go_wp2_with fail
    go_ret
    exact⟨rfl,(HWX.out.trans HO3.out).trans ((HZ1.out.trans HNO.out).trans HO5.out)⟩
end Go.Proofs.YtpdlbmieciabmaaGreatDoor
