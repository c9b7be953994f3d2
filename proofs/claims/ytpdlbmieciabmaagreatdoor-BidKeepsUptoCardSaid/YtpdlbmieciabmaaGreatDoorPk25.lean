/-What is proved here:several parts. contents whose prices are changed;slices that lie below what changes. No conditions. · inverses by Euclid's steps,and shares joined,in plain Lean;no program in sight. No conditions. · differences,inverses and members,by the reference. Conditions:the numbers are below the order. · a text in hexadecimal is turned back,by the bids' code. Condition:the text is short. -/
import Derived.Test.YtpdlbmieciabmaaGreatDoorPk08
import Derived.Test.YtpdlbmieciabmaaGreatDoorPk10
import Derived.Test.YtpdlbmieciabmaaGreatDoorPk11
import Derived.Test.YtpdlbmieciabmaaGreatDoorPk14
import Derived.Test.YtpdlbmieciabmaaGreatDoorPk16
import Derived.Test.YtpdlbmieciabmaaGreatDoorPk22
import Derived.Test.YtpdlbmieciabmaaGreatDoorPk23
import Derived.Test.YtpdlbmieciabmaaGreatDoorPk24
import Derived.Test.YtpdlbmieciabmaaGreatDoorShelf
import Derived.Deep.RegionLaw
namespace Go.Proofs.YtpdlbmieciabmaaGreatDoor
open Go.RowKit Go.Shelf
theorem rng_low{S:Nat→Prop}{w w' :World}{g o:Nat}{cs:List Value}(h:w.rangeAt g o cs)(ho:Only S w w')(hS:¬S g):w'.rangeAt g o cs:=fun j v hj=>ho.cell_some (h j v hj) hS
theorem SlOf.low{α:Type}{c:α→List Value}{k:Nat}{S:Nat→Prop}{w w' :World}{v:Value}{L:List α}(h:SlOf c k w v L)(ho:Only S w w')(hS:∀g,g<w.heap.size→¬S g):SlOf c k w' v L:=by
 obtain⟨A,cap,hv,h1,h2,h3⟩:=h
 refine⟨A,cap,hv,h1,h2,fun i p hp=> ?_⟩
 obtain⟨g,o,hA,hg,hr⟩:=h3 i p hp
 exact⟨g,o,hA,Nat.lt_of_lt_of_le hg ho.size,rng_low hr ho (hS g hg)⟩
theorem EnSl.low{S:Nat→Prop}{w w' :World}{v:Value}{es:List En}(h:EnSl w v es)(ho:Only S w w')(hS:∀g,g<w.heap.size→¬S g):EnSl w' v es:=by
 obtain⟨L,h1,h2,h3⟩:=h
 exact⟨L,h1,h2.low ho hS,fun i c e hc he=>⟨(h3 i c e hc he).1,(h3 i c e hc he).2.1,(h3 i c e hc he).2.2.low ho hS⟩⟩
theorem RbSl.low{S:Nat→Prop}{w w' :World}{v:Value}{rs:List Rb}(h:RbSl w v rs)(ho:Only S w w')(hS:∀g,g<w.heap.size→¬S g):RbSl w' v rs:=by
 obtain⟨L,h1,h2,h3⟩:=h
 exact⟨L,h1,h2.low ho hS,fun i c e hc he=>⟨(h3 i c e hc he).1,(h3 i c e hc he).2.low ho hS⟩⟩
theorem mde_good(n:Int)(seed:List UInt8)(k off:Nat)(hk:1≤k)(hko:k≤off)(ho:off≤13)(es:List En)(rs:List Rb)(hr:rightL es=true):mde n seed (k:Int) (off:Int) es rs=⟨0,mkBd n seed k (qualL es) (pricL es rs),shL (cfs (seed++[113]) k) off,shL (cfs (seed++[112]) k) off⟩:=by
 unfold mde
 rw[if_neg (by omega),if_neg (by rw[hr];decide),Int.toNat_natCast,Int.toNat_natCast]
end Go.Proofs.YtpdlbmieciabmaaGreatDoor
namespace Go.Proofs.YtpdlbmieciabmaaGreatDoor
def subM(m x z:Nat):Nat:=(x+(m-z%m))%m
structure EuI(m a r s x y:Nat):Prop where
 hr:0<r
 hx:x<m
 hy:y<m
 ex:(x*a)%m=r%m
 ey:(y*a)%m=s%m
 gcd:Nat.gcd r s=Nat.gcd m a
theorem modEq_iff{m a b:Nat}:a%m=b%m↔∃k:Int,(a:Int)=(b:Int)+(m:Int)*k:=by
 constructor
 ·intro h
  have h1:=Nat.div_add_mod a m
  have h2:=Nat.div_add_mod b m
  refine⟨(a/m:Nat)-(b/m:Nat),?_⟩
  have e1:((m*(a/m)+a%m:Nat):Int)=a:=by rw[h1]
  have e2:((m*(b/m)+b%m:Nat):Int)=b:=by rw[h2]
  rw[h] at e1
  push_cast at e1 e2
  grind
 ·rintro⟨k,hk⟩
  have h:(a:Int)%m=(b:Int)%m:=by rw[hk,Int.add_mul_emod_self_left]
  have:=Int.natCast_emod a m
  have:=Int.natCast_emod b m
  omega
theorem EuI.step{m a r s x y:Nat}(h:EuI m a r s x y)(hs:0<s):EuI m a s (r-r/s*s) y (subM m x (r/s*y%m)):=by
 obtain⟨hr,hx,hy,ex,ey,hg⟩:=h
 have hm:0<m:=by omega
 obtain⟨q,eq⟩:∃q,q=r/s:=⟨_,rfl⟩
 have hqs:q*s≤r:=by rw[eq];exact Nat.div_mul_le_self r s
 refine⟨hs,hy,Nat.mod_lt _ hm,ey,?_,?_⟩
 ·rw[←eq,modEq_iff]
  rw[modEq_iff] at ex ey
  obtain⟨k,hk⟩:=ex
  obtain⟨k',hk'⟩:=ey
  obtain⟨z,ez⟩:∃z,z=q*y%m%m:=⟨_,rfl⟩
  have hz:z%m=(q*y)%m:=by rw[ez,Nat.mod_mod,Nat.mod_mod]
  have hzm:z<m:=by rw[ez];exact Nat.mod_lt _ hm
  obtain⟨k2,hk2⟩:=modEq_iff.1 hz
  obtain⟨t,et⟩:∃t,t=subM m x (q*y%m):=⟨_,rfl⟩
  have ht:t%m=(x+(m-z))%m:=by rw[et,ez];unfold subM;rw[Nat.mod_mod]
  obtain⟨k3,hk3⟩:=modEq_iff.1 ht
  rw[←et]
  refine⟨k-q*k' +(1-k2+k3)*a,?_⟩
  push_cast at *
  have e1:((m-z:Nat):Int)=(m:Int)-z:=by omega
  have e2:((r-q*s:Nat):Int)=(r:Int)-q*s:=by
   have:((q*s:Nat):Int)=(q:Int)*s:=by push_cast;rfl
   omega
  rw[e1] at hk3
  rw[e2]
  grind
 ·rw[←hg,show r-r/s*s=r%s by rw[Nat.mod_eq_sub_div_mul]]
  rw[Nat.gcd_comm r s,Nat.gcd_rec s r,Nat.gcd_comm]
theorem EuI.start{m a:Nat}(hm:1<m):EuI m a m (a%m) 0 1:=⟨by omega,by omega,hm,by simp,by simp,by rw[Nat.gcd_comm m (a%m),←Nat.gcd_rec]⟩
theorem inv_gcd{m a b:Nat}(h:a*b%m=1):Nat.gcd m a=1:=by
 have h1:Nat.gcd m a∣a*b:=Nat.dvd_trans (Nat.gcd_dvd_right m a) (Nat.dvd_mul_right a b)
 have h2:Nat.gcd m a∣m*(a*b/m):=Nat.dvd_trans (Nat.gcd_dvd_left m a) (Nat.dvd_mul_right _ _)
 have h3:a*b=m*(a*b/m)+1:=by
  have:=Nat.div_add_mod (a*b) m
  omega
 rw[h3] at h1
 have h4:=(Nat.dvd_add_right h2).1 h1
 exact Nat.dvd_one.1 h4
theorem EuI.done{m a b r x y:Nat}(h:EuI m a r 0 x y)(hm:1<m)(hb:b<m)(hab:a*b%m=1):r=1∧x=b:=by
 obtain⟨hr,hx,hy,ex,ey,hg⟩:=h
 have h1:r=1:=by
  rw[Nat.gcd_zero_right,inv_gcd hab] at hg
  exact hg
 refine⟨h1,?_⟩
 subst h1
 rw[Nat.mod_eq_of_lt hm] at ex
 have e1:x*(a*b)%m=x%m:=by
  rw[Nat.mul_mod,hab,Nat.mul_one,Nat.mod_mod]
 have e2:x*(a*b)%m=b%m:=by
  rw[←Nat.mul_assoc,Nat.mul_mod,ex,Nat.one_mul,Nat.mod_mod]
 rw[e1,Nat.mod_eq_of_lt hx,Nat.mod_eq_of_lt hb] at e2
 exact e2
def abL(v y:Nat)(xs:List Nat):Nat:=xs.foldl (fun a x=>if x=y then a else a*x%lagN) v
def beL(y:Nat)(xs:List Nat):Nat:=xs.foldl (fun a x=>if x=y then a else a*((x+lagN-y)%lagN)%lagN) 1
theorem abL_mul(y:Nat):∀(xs:List Nat) (v a:Nat),abL (v*a%lagN) y xs%lagN=v*(abL a y xs)%lagN
 |[],v,a=>by unfold abL;rw[List.foldl_nil,List.foldl_nil,Nat.mod_mod]
 |x::xs,v,a=>by
  unfold abL
  rw[List.foldl_cons,List.foldl_cons]
  by_cases h:x=y
  ·rw[if_pos h,if_pos h];exact abL_mul y xs v a
  ·rw[if_neg h,if_neg h]
   have e:v*a%lagN*x%lagN=v*(a*x%lagN)%lagN:=by
    rw[Nat.mod_mul_mod,Nat.mul_assoc,Nat.mul_mod v (a*x%lagN),Nat.mod_mod,←Nat.mul_mod]
   rw[e]
   exact abL_mul y xs v (a*x%lagN)
theorem abL_prod(v y:Nat)(xs:List Nat)(hv:v<lagN):abL v y xs%lagN=v*prodX xs y%lagN:=by
 have h:=abL_mul y xs v 1
 rw[Nat.mul_one,Nat.mod_eq_of_lt hv] at h
 exact h
theorem abL_snoc(v y:Nat)(xs:List Nat)(x:Nat):abL v y (xs++[x])=if x=y then abL v y xs else abL v y xs*x%lagN:=by unfold abL;rw[List.foldl_append];rfl
theorem beL_snoc(y:Nat)(xs:List Nat)(x:Nat):beL y (xs++[x])=if x=y then beL y xs else beL y xs*((x+lagN-y)%lagN)%lagN:=by unfold beL;rw[List.foldl_append];rfl
theorem lagN_pos:0<lagN:=by decide
theorem lagN_one:1<lagN:=by decide
theorem abL_lt(y:Nat):∀(xs:List Nat) (v:Nat),v<lagN→abL v y xs<lagN
 |[],_,h=>h
 |x::xs,v,h=>by
  unfold abL
  rw[List.foldl_cons]
  by_cases e:x=y
  ·rw[if_pos e];exact abL_lt y xs v h
  ·rw[if_neg e];exact abL_lt y xs _ (Nat.mod_lt _ lagN_pos)
theorem beL_lt'(y:Nat):∀(xs:List Nat) (v:Nat),v<lagN→xs.foldl (fun a x=>if x=y then a else a*((x+lagN-y)%lagN)%lagN) v<lagN
 |[],_,h=>h
 |x::xs,v,h=>by
  rw[List.foldl_cons]
  by_cases e:x=y
  ·rw[if_pos e];exact beL_lt' y xs v h
  ·rw[if_neg e];exact beL_lt' y xs _ (Nat.mod_lt _ lagN_pos)
theorem beL_lt(y:Nat)(xs:List Nat):beL y xs<lagN:=beL_lt' y xs 1 lagN_one
theorem join_term{all:List Nat}{y v:Nat}(hv:v<lagN):abL v y all*invD all y%lagN=v*prodX all y%lagN*invD all y%lagN:=by
 rw[←abL_prod v y all hv,Nat.mod_mul_mod]
def joK(all:List Nat)(f:Nat→Nat)(xs:List Nat):Nat:=xs.foldl (fun a x=>(a+abL (f x) x all*invD all x%lagN)%lagN) 0
theorem joK_snoc(all:List Nat)(f:Nat→Nat)(xs:List Nat)(x:Nat):joK all f (xs++[x])=(joK all f xs+abL (f x) x all*invD all x%lagN)%lagN:=by unfold joK;rw[List.foldl_append];rfl
theorem joK_join(all:List Nat)(f:Nat→Nat)(hf:∀x,f x<lagN)(xs:List Nat):joK all f xs=joinP all f xs:=by
 unfold joK joinP
 congr 1
 funext a x
 rw[join_term (hf x)]
theorem joK_lt(all:List Nat)(f:Nat→Nat)(xs:List Nat):joK all f xs<lagN:=by
 rcases List.eq_nil_or_concat xs with e|⟨l,x,e⟩
 ·subst e;exact lagN_pos
 ·rw[e,List.concat_eq_append,joK_snoc];exact Nat.mod_lt _ lagN_pos
theorem invD_lt(all:List Nat)(y:Nat):invD all y<lagN:=by
 unfold invD
 rw[pm_eq 64 _ _ _ (by decide)]
 exact Nat.mod_lt _ lagN_pos
end Go.Proofs.YtpdlbmieciabmaaGreatDoor
namespace Go.Proofs.YtpdlbmieciabmaaGreatDoor
open Go.RowKit Go.Shelf
theorem lagN_val:lagN=1152921504606845789:=rfl
set_option maxRecDepth 100000 in
theorem rsubQ(a b:Nat)(ha:a<lagN)(hb:b<lagN)(w:World):Calls Tryz.prog 87 #[.int .i64 (a:Int),.int .i64 (b:Int),.int .i64 1152921504606845789] w fun e w' =>e= .returned (.int .i64 (((a+lagN-b)%lagN:Nat):Int))∧w' =w:=by
 have hv:=lagN_val
 have ra:=fun W=>rresidue_any (a:Int) 1152921504606845789 (by omega) (by omega) (by omega) (by omega) W
 have rb:=fun W=>rresidue_any (b:Int) 1152921504606845789 (by omega) (by omega) (by omega) (by omega) W
 rw[show(a:Int)%1152921504606845789=(a:Int) by omega] at ra
 rw[show(b:Int)%1152921504606845789=(b:Int) by omega] at rb
 obtain⟨g,eg⟩:∃g,g=(a+lagN-b)%lagN:=⟨_,rfl⟩
 rw[←eg]
 have RA:=Lib.hid ra
 have RB:=Lib.hid rb
 have EG:=Lib.hid eg
 clear ra rb eg
 go_enter Tryz.func87,Tryz.ntmps87
 go_wp2_with fail
 refine(RA.out w).mono ?_
 rintro e w1 ⟨rfl,rfl⟩
 go_wp2_with fail
 refine(RB.out _).mono ?_
 rintro e w2 ⟨rfl,rfl⟩
 by_cases h:(b:Int)≤(a:Int)
 ·have e1:IntKind.i64.wrap ((a:Int)-(b:Int))=(g:Int):=by
   rw[IntWalk.i64_in _ (by omega)]
   have h2:=EG.out
   rw[hv] at h2
   omega
  clear ha hb hv
  go_wp2_with fail
  go_ret
  exact⟨rfl,rfl⟩
 ·have e0:IntKind.i64.wrap (1152921504606845789-(b:Int))=1152921504606845789-(b:Int):=IntWalk.i64_in _ (by omega)
  have e1:IntKind.i64.wrap ((a:Int)+(1152921504606845789-(b:Int)))=(g:Int):=by
   rw[IntWalk.i64_in _ (by omega)]
   have h2:=EG.out
   rw[hv] at h2
   omega
  clear ha hb hv
  go_wp2_with fail
  go_ret
  exact⟨rfl,rfl⟩
set_option maxRecDepth 100000 in
set_option maxHeartbeats 1000000 in
theorem rinvQ(a b:Nat)(ha:a<lagN)(hb:b<lagN)(hab:a*b%lagN=1)(w:World):Calls Tryz.prog 88 #[.int .i64 (a:Int),.int .i64 1152921504606845789] w fun e w' =>e= .returned (.tuple #[.int .i64 (b:Int),.bool true])∧w' =w:=by
 have hv:=lagN_val
 have ra:=fun W=>rresidue_any (a:Int) 1152921504606845789 (by omega) (by omega) (by omega) (by omega) W
 have rb:=fun W=>rresidue_any 1 1152921504606845789 (by omega) (by omega) (by omega) (by omega) W
 rw[show(a:Int)%1152921504606845789=(a:Int) by omega] at ra
 rw[show(1:Int)%1152921504606845789=1 by omega] at rb
 have RA:=Lib.hid ra
 have RB:=Lib.hid rb
 have HAB:=Lib.hid hab
 have h0:EuI lagN a lagN a 0 1:=by
  have h:=EuI.start (m:=lagN) (a:=a) lagN_one
  rwa [Nat.mod_eq_of_lt ha] at h
 have H0:=Lib.hid h0
 have HB:=Lib.hid hb
 have HA:=Lib.hid ha
 clear ra rb hab h0 hb ha hv
 go_enter Tryz.func88,Tryz.ntmps88
 go_wp2_with fail
 refine(RA.out w).mono ?_
 rintro e w1 ⟨rfl,rfl⟩
 go_wp2_with fail
 refine(RB.out _).mono ?_
 rintro e w2 ⟨rfl,rfl⟩
 go_wp2_with fail
 go_loopw [6,7,8,9] (fun r s x y wr=>∃R S X Y:Nat,r= .int .i64 (R:Int)∧s= .int .i64 (S:Int)∧x= .int .i64 (X:Int)∧y= .int .i64 (Y:Int)∧R≤lagN∧S≤lagN∧EuI lagN a R S X Y∧wr=w2) (fun _ s _ _ _=>(intOf s).toNat)
 case atStart=>exact⟨lagN,a,0,1,rfl,rfl,rfl,rfl,Nat.le_refl _,Nat.le_of_lt HA.out,H0.out,by first|rfl|trivial⟩
 case round=>
  obtain⟨R,S,X,Y,rfl,rfl,rfl,rfl,hR,hS,hE,rfl⟩:=hrel
  have hv:=lagN_val
  by_cases hs:0<S
  ·have hst:=hE.step hs
   obtain⟨q,eq⟩:∃q,q=R/S:=⟨_,rfl⟩
   rw[←eq] at hst
   have hq:q≤R:=by rw[eq];exact Nat.div_le_self R S
   have hqs:q*S≤R:=by rw[eq];exact Nat.div_mul_le_self R S
   have hlt:R-q*S<S:=by
    have h1:R-q*S=R%S:=by rw[eq,Nat.mod_eq_sub_div_mul]
    rw[h1]
    exact Nat.mod_lt _ hs
   have e1:(R:Int).tdiv (S:Int)=(q:Int):=by rw[Int.tdiv_eq_ediv_of_nonneg (by omega),eq];rfl
   have w1:IntKind.i64.wrap (q:Int)=(q:Int):=IntWalk.i64_in _ (by omega)
   have e2:(q:Int)*(S:Int)=((q*S:Nat):Int):=by push_cast;rfl
   have w2:IntKind.i64.wrap ((q*S:Nat):Int)=((q*S:Nat):Int):=IntWalk.i64_in _ (by omega)
   have e3:(R:Int)-((q*S:Nat):Int)=((R-q*S:Nat):Int):=by omega
   have w3:IntKind.i64.wrap ((R-q*S:Nat):Int)=((R-q*S:Nat):Int):=IntWalk.i64_in _ (by omega)
   obtain⟨t,et⟩:∃t,t=R-q*S:=⟨_,rfl⟩
   obtain⟨m,em⟩:∃m,m=q*S:=⟨_,rfl⟩
   rw[←et] at e3 w3 hlt hst
   rw[←em] at e2 w2 e3
   have hX:=hE.hx
   have hY:=hE.hy
   obtain⟨z,ez⟩:∃z,z=q*Y%lagN:=⟨_,rfl⟩
   have hz:z<lagN:=by rw[ez];exact Nat.mod_lt _ lagN_pos
   have hM:=fun W=>rmulQ q Y (by omega) (by omega) W
   rw[←ez] at hM hst
   have hSb:=fun W=>rsubQ X z hX hz W
   have es:(X+lagN-z)%lagN=subM lagN X z:=by
    unfold subM
    rw[Nat.mod_eq_of_lt hz,Nat.add_sub_assoc (Nat.le_of_lt hz)]
   rw[es] at hSb
   have hsm:subM lagN X z<lagN:=Nat.mod_lt _ lagN_pos
   obtain⟨u,eu⟩:∃u,u=subM lagN X z:=⟨_,rfl⟩
   rw[←eu] at hSb hst hsm
   have HM:=Lib.hid hM
   have HSB:=Lib.hid hSb
   have HST:=Lib.hid hst
   have s0:(0:Int)<(S:Int):=by omega
   have s1:¬(S:Int)=0:=by omega
   have HSL:=Lib.hid hlt
   have HSS:=Lib.hid hS
   clear hE hst eq hq hqs et em hX hY ez hz hM hSb es hsm eu hlt hR hS hv
   go_wp2_with fail
   refine(HM.out _).mono ?_
   rintro e w3 ⟨rfl,rfl⟩
   go_wp2_with fail
   refine(HSB.out _).mono ?_
   rintro e w4 ⟨rfl,rfl⟩
   go_wp2_with fail
   go_roundw
   case rel=>exact⟨S,t,Y,u,rfl,rfl,rfl,rfl,HSS.out,by have:=HSL.out;have:=HSS.out;omega,HST.out,by first|rfl|trivial⟩
   case measure=>have:=HSL.out;simp[intOf];omega
  ·obtain rfl:S=0:=by omega
   obtain⟨rfl,rfl⟩:=hE.done lagN_one HB.out HAB.out
   go_wp2_with fail
   go_ret2
   exact⟨rfl,rfl⟩
theorem gp_bd(c:Nat):1≤gp c∧gp c<2305843009213691579:=by
 have h:=gp_mem c
 exact⟨h.1,h.2.1⟩
set_option maxRecDepth 100000 in
theorem rmemberG(c:Nat)(w:World):Calls Tryz.prog 83 #[.int .i64 ((gp c:Nat):Int)] w fun e w' =>e= .returned (.bool true)∧w' =w:=by
 obtain⟨b1,b2⟩:=gp_bd c
 have hp:=fun W=>rpow_any ((gp c:Nat):Int) Q0 2305843009213691579 (by omega) (by omega) (by rw[Q0_val];omega) (by omega) (by omega) W
 rw[Q0_int] at hp
 have e:powI ((gp c:Nat):Int) Q0 2305843009213691579=1:=by
  have h:=(gp_mem c).2.2
  have e1:res ((gp c:Nat):Int) 2305843009213691579=gp c:=by unfold res;omega
  have e2:Int.toNat 2305843009213691579=P0:=rfl
  unfold powI
  rw[e1,e2]
  exact h
 rw[e] at hp
 have HP:=Lib.hid hp
 obtain⟨g,eg⟩:∃g,g=gp c:=⟨_,rfl⟩
 rw[←eg] at HP b1 b2⊢
 have c1:(1:Int)≤(g:Int):=by omega
 have c2:(g:Int)<2305843009213691579:=by omega
 clear hp e eg
 go_enter Tryz.func83,Tryz.ntmps83
 go_wp2_with fail
 refine(HP.out _).mono ?_
 rintro e w1 ⟨rfl,rfl⟩
 go_wp2_with fail
 go_ret
 exact⟨rfl,rfl⟩
end Go.Proofs.YtpdlbmieciabmaaGreatDoor
namespace Go.Proofs.YtpdlbmieciabmaaGreatDoor
open Go.RowKit Go.Shelf
abbrev hexDs:List UInt8:=[48,49,50,51,52,53,54,55,56,57,97,98,99,100,101,102]
theorem idx_x0:∀n:Fin 256,Lib.indexByte hexDs (UInt8.ofNat n.val)=dgt (UInt8.ofNat n.val):=by decide+kernel
theorem idx_x(x:UInt8):Lib.indexByte [48,49,50,51,52,53,54,55,56,57,97,98,99,100,101,102] x=dgt x:=by
 have h:=idx_x0 ⟨x.toNat,x.toNat_lt⟩
 have e:UInt8.ofNat x.toNat=x:=UInt8.ofNat_toNat
 simp only[e] at h
 exact h
theorem or_two:∀m n:Fin 16,bits BinOp.or .i64 (wrap64 (((m.val:Nat):Int)*16)) ((n.val:Nat):Int)%256=((16*m.val+n.val:Nat):Int):=by decide+kernel
theorem or_two' :∀m n:Fin 16,bits BinOp.or .i64 (((m.val:Nat):Int)*16) ((n.val:Nat):Int)%256=((16*m.val+n.val:Nat):Int):=by decide+kernel
theorem even_bool(n:Nat):decide (n%2=0)=((n:Int)%2==0):=by
 by_cases h:n%2=0
 ·rw[decide_eq_true h];symm;exact beq_iff_eq.2 (by omega)
 ·rw[decide_eq_false h];symm;exact beq_eq_false_iff_ne.2 (by omega)
def PlI(s:List UInt8)(k:Nat)(l:List UInt8):Prop:=k=2*l.length∧k≤s.length∧s.take k=hexL l
theorem PlI.new(s:List UInt8):PlI s 0 []:=⟨rfl,Nat.zero_le _,rfl⟩
theorem PlI.step{s l:List UInt8}{k:Nat}{x y:UInt8}(h:PlI s k l)(hx:s[k]? =some x)(hy:s[k+1]? =some y)(dx:0≤dgt x)(dy:0≤dgt y):PlI s (k+2) (l++[twoD x y]):=by
 obtain⟨h1,h2,h3⟩:=h
 have hl:=(List.getElem?_eq_some_iff.1 hy).1
 refine⟨by rw[List.length_append,List.length_singleton];omega,by omega,?_⟩
 rw[show k+2=(k+1)+1 from rfl,List.take_add_one,List.take_add_one,hx,hy,h3,hexL_app,hexL_two dx dy]
 simp
theorem PlI.no{s l:List UInt8}{k:Nat}{x y:UInt8}(h:PlI s k l)(hx:s[k]? =some x)(hy:s[k+1]? =some y)(hd:¬(0≤dgt x∧0≤dgt y)):PlainR s ⟨#[]⟩ false:=fun z hz=>by
 obtain⟨h1,h2,h3⟩:=h
 have hl:=(List.getElem?_eq_some_iff.1 hy).1
 have hzl:s.length=2*z.length:=by rw[hz,hexL_len]
 obtain⟨c,hc⟩:∃c,z[l.length]? =some c:=⟨_,List.getElem?_eq_getElem (by omega)⟩
 have e:hexL z=hexL (z.take l.length)++(hexC (c.toNat/16)::hexC (c.toNat%16)::hexL (z.drop (l.length+1))):=by
  have e1:z=z.take l.length++(c::z.drop (l.length+1)):=by
   have h:=(List.getElem?_eq_some_iff.1 hc)
   rw[←h.2,List.getElem_cons_drop,List.take_append_drop]
  conv=>lhs;rw[e1]
  rw[hexL_app]
  rfl
 have hk:(hexL (z.take l.length)).length =k:=by rw[hexL_len,List.length_take];omega
 rw[hz,e] at hx hy
 rw[List.getElem?_append_right (by omega),hk,Nat.sub_self] at hx
 rw[List.getElem?_append_right (by omega),hk,show k+1-k=1 by omega] at hy
 simp only[List.getElem?_cons_zero,Option.some.injEq] at hx
 simp only[List.getElem?_cons_succ,List.getElem?_cons_zero,Option.some.injEq] at hy
 have hh:=hex_dgt c
 rw[hx,hy] at hh
 exact absurd ⟨hh.1,hh.2.1⟩ hd
theorem PlI.end_{s l:List UInt8}{k:Nat}(h:PlI s k l)(hk:s.length≤k+1):PlainR s ⟨l.toArray⟩ (decide (s.length%2=0)):=fun z hz=>by
 obtain⟨h1,h2,h3⟩:=h
 have hzl:s.length=2*z.length:=by rw[hz,hexL_len]
 have hks:k=s.length:=by omega
 rw[hks,List.take_length,hz] at h3
 exact⟨decide_eq_true (by omega),by rw[←hexL_inj h3]⟩
theorem IsB.drew{B b:Nat}{l:List Value}{w:World}(h:Lib.IsBuilder 104 5 B b l w):Lib.IsBuilder 104 5 B b l w.drew:=h
def PlE(s:ByteArray)(w:World)(e:Ending)(w' :World):Prop:=∃t ok,e= .returned (.tuple #[.string t,.bool ok])∧PlainR s.data.toList t ok∧t.size≤s.size∧Only NoneOf w w'
theorem PlE.mk{s t:ByteArray}{ok:Bool}{w w' :World}(h:PlainR s.data.toList t ok)(ht:t.size≤s.size)(ho:Only NoneOf w w'):PlE s w (.returned (.tuple #[.string t,.bool ok])) w' :=⟨t,ok,rfl,h,ht,ho⟩
set_option maxRecDepth 100000 in
set_option maxHeartbeats 2000000 in
theorem plain_any(s:ByteArray)(hs:s.size≤1000000000)(w:World):Calls Tryz.prog 41 #[.string s] w (PlE s w):=by
 have hb0:=Lib.fresh_isBuilder 104 5 w
 have ho0:Only NoneOf w (w.alloc (.cells #[.pointer none,.slice none 0 0] 104)):=(Only.refl _ _).alloc _
 have hc0:(w.alloc (.cells #[.pointer none,.slice none 0 0] 104)).cell? ⟨w.heap.size,1,none⟩=some (.slice none 0 0):=Blk.cell (Blk.new w 104 #[.pointer none,.slice none 0 0]) 1
 obtain⟨Y,eY⟩:∃Y,Y=w.alloc (.cells #[.pointer none,.slice none 0 0] 104):=⟨_,rfl⟩
 rw[←eY] at hb0 ho0 hc0
 obtain⟨B,eB⟩:∃B,B=w.heap.size:=⟨_,rfl⟩
 have hBw:w.heap.size≤B:=by omega
 have hBY:B≤Y.heap.size:=by rw[eY,eB];simp
 rw[←eB] at hb0 hc0
 have HB1:=Lib.hid hb0
 have HO1:=Lib.hid ho0
 have HC1:=Lib.hid hc0
 have EY:=Lib.hid eY
 have EB:=Lib.hid eB
 have hsl:=size_list s
 have HSL:=Lib.hid hsl
 clear hb0 ho0 hc0 eY eB hsl
 go_enter Tryz.func41,Tryz.ntmps41
 go_wp2_with fail
 rw[←EY.out]
 rw[←EB.out]
 go_loopw [5] (fun i wr=>∃(k:Nat) (l:List UInt8),i= .int .i64 k∧PlI s.data.toList k l∧Lib.IsBuilder 104 5 B B (Lib.byteCells l) wr∧Only NoneOf w wr∧B≤wr.heap.size∧(k=0→wr.cell? ⟨B,1,none⟩=some (.slice none 0 0))) (fun i _=>s.size-(intOf i).toNat)
 case atStart=>exact⟨0,[],rfl,PlI.new _,HB1.out,HO1.out,hBY,fun _=>HC1.out⟩
 case round=>
  obtain⟨k,l,rfl,hpl,hb,ho,hB,hz⟩:=hrel
  have hk:k≤s.size:=by rw[size_list];exact hpl.2.1
  have hll:l.length≤1000000000:=by have:=hpl.1;omega
  have HPL:=Lib.hid hpl
  have HB:=Lib.hid hb
  have HO:=Lib.hid ho
  have HZ:=Lib.hid hz
  clear hb ho hz hpl
  have wk1:IntKind.i64.wrap ((k:Int)+1)=(k:Int)+1:=IntWalk.i64_in _ (by omega)
  have wk2:IntKind.i64.wrap ((k:Int)+2)=(k:Int)+2:=IntWalk.i64_in _ (by omega)
  by_cases hlt:k+1<s.size
  ·obtain⟨x,hx⟩:∃x,s.data.toList[k]? =some x:=⟨_,List.getElem?_eq_getElem (by rw[←size_list];omega)⟩
   obtain⟨y,hy⟩:∃y,s.data.toList[k+1]? =some y:=⟨_,List.getElem?_eq_getElem (by rw[←size_list];omega)⟩
   have ik:(k:Int)+1<s.size:=by omega
   have i0:(0:Int)≤(k:Int):=by omega
   have i1:(0:Int)≤(k:Int)+1:=by omega
   have ik0:(k:Int)<s.size:=by omega
   have hk0:k<s.size:=by omega
   have hsx:s[k]'hk0=x:=by
    have e:s.data.toList[k]? =some (s[k]'hk0):=by rw[Array.getElem?_toList];exact Array.getElem?_eq_getElem _
    rw[hx] at e
    exact(Option.some.inj e).symm
   have hsy:s[k+1]'hlt=y:=by
    have e:s.data.toList[k+1]? =some (s[k+1]'hlt):=by rw[Array.getElem?_toList];exact Array.getElem?_eq_getElem _
    rw[hy] at e
    exact(Option.some.inj e).symm
   have HX:=Lib.hid hx
   have HY:=Lib.hid hy
   clear hx hy
   have ex:=idx_x x
   have ey:=idx_x y
   obtain⟨p,ep⟩:∃p,p=dgt x:=⟨_,rfl⟩
   obtain⟨q,eq⟩:∃q,q=dgt y:=⟨_,rfl⟩
   rw[←ep] at ex
   rw[←eq] at ey
   have EP:=Lib.hid ep
   have EQ:=Lib.hid eq
   clear ep eq
   by_cases hd:0≤p∧0≤q
   ·obtain⟨m,rfl⟩:∃m:Nat,p=(m:Int):=⟨p.toNat,by omega⟩
    obtain⟨n,rfl⟩:∃n:Nat,q=(n:Int):=⟨q.toNat,by omega⟩
    have hm16:m<16:=by have h1:=dgt_lt x;have h2:=EP.out;omega
    have hn16:n<16:=by have h1:=dgt_lt y;have h2:=EQ.out;omega
    have hor:=or_two ⟨m,hm16⟩ ⟨n,hn16⟩
    have htw:=twoD_nat (x:=x) (y:=y) (by rw[←EP.out];omega) (by rw[←EQ.out];omega)
    rw[←EP.out,←EQ.out,Int.toNat_natCast,Int.toNat_natCast] at htw
    have hor2:=or_two' ⟨m,hm16⟩ ⟨n,hn16⟩
    simp only at hor hor2
    rw[←htw] at hor hor2
    have n1:¬(m:Int)<0:=by omega
    have n2:¬(n:Int)<0:=by omega
    have HST:=Lib.hid (HPL.out.step HX.out HY.out (by rw[←EP.out];omega) (by rw[←EQ.out];omega))
    clear htw hd
    go_upto_region 5 with(fail)
    go_region_law (first
     |(go_simp;go_at_call 70;refine(Tryz.strings_IndexByte _ _ _).mono ?_;rintro e5 w5 ⟨rfl,rfl⟩))
    all_goals
     go_wp2_with fail
     refine(wwb_any (l:=l) (c:=twoD x y) (w:=wr.drew) (IsB.drew HB.out) (by omega) hB).mono ?_
     rintro e w1 ⟨rfl,hb1,hbel1⟩
     have HO2:=Lib.hid (HO.out.drew.below' hbel1 hBw)
     have hB2:B≤w1.heap.size:=Nat.le_trans hB hbel1.size
     have HB2:=Lib.hid hb1
     clear hb1 hbel1
     go_wp2_with fail
     go_roundw
     case rel=>exact⟨k+2,l++[twoD x y],by go_num,HST.out,HB2.out,HO2.out,hB2,fun h=>by omega⟩
     case measure=>simp[intOf];omega
   ·have hno:PlainR s.data.toList ⟨#[]⟩ false:=HPL.out.no HX.out HY.out (by rw[←EP.out,←EQ.out];exact hd)
    have HNO:=Lib.hid hno
    clear hno
    have hor2:p<0∨(¬p<0∧q<0):=by omega
    clear hd
    rcases hor2 with n1|⟨n1,n2⟩
    all_goals
     go_upto_region 5 with(fail)
     go_region_law (first
      |(go_simp;go_at_call 70;refine(Tryz.strings_IndexByte _ _ _).mono ?_;rintro e5 w5 ⟨rfl,rfl⟩))
     all_goals
      go_wp2_with fail
      go_ret2
      exact PlE.mk HNO.out (Nat.zero_le _) HO.out.drew
  ·have ik:¬(k:Int)+1<s.size:=by omega
   have hend:PlainR s.data.toList ⟨l.toArray⟩ (decide (s.data.toList.length%2=0)):=HPL.out.end_ (by rw[←size_list];omega)
   rw[←size_list,even_bool] at hend
   have HEND:=Lib.hid hend
   have hlk:=HPL.out.1
   have HLS:=Lib.hid (show(⟨l.toArray⟩:ByteArray).size≤s.size by show l.toArray.size≤s.size;rw[List.size_toArray];omega)
   clear hend
   by_cases hk0:k=0
   ·obtain rfl:l=[]:=List.eq_nil_of_length_eq_zero (by omega)
    have HC:=Lib.hid (HZ.out hk0)
    clear HZ
    go_wp2_with fail
    refine(wstring_none HC.out).mono ?_
    rintro e w1 ⟨rfl,hon⟩
    have HO1:=Lib.hid (HO.out.trans hon)
    clear hon
    go_wp2_with fail
    go_ret2
    exact PlE.mk HEND.out HLS.out HO1.out
   ·have HH:=Lib.hid (show l≠[] from fun e=>hk0 (by rw[hlk,e];rfl))
    clear HZ
    go_wp2_with fail
    refine(wstring_any HB.out HH.out).mono ?_
    rintro e w1 ⟨rfl,hbel⟩
    have HO1:=Lib.hid (HO.out.below' hbel hBw)
    clear hbel
    go_wp2_with fail
    go_ret2
    exact PlE.mk HEND.out HLS.out HO1.out
end Go.Proofs.YtpdlbmieciabmaaGreatDoor
