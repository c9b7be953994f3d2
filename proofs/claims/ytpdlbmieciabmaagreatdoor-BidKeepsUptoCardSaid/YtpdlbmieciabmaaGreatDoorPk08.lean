/-What is proved here:several parts. several parts. the group of the squares modulo P in plain Lean:powers of four,members,signatures;no program in sight. No conditions. · powers in the field,by the reference. Conditions:the modulus is positive,the exponent is not negative. · the binary digits of a number,most significant first,as an iterator visits them. Conditions:the number is not negative. · powers in the field,by the program. Conditions:the modulus is positive,the exponent is not negative. · several parts. Lagrange's weights at nought for the numbers of a ring of at most 13 officers,by reckoning;no program in sight. No conditions. · values of polynomials,step by step and by Horner's rule,and what shares give back,in plain Lean;no program in sight. No conditions. -/
import Derived.Test.YtpdlbmieciabmaaGreatDoorPk03
import Derived.Test.YtpdlbmieciabmaaGreatDoorPk04
import Derived.Test.YtpdlbmieciabmaaGreatDoorPk07
import Derived.Lib.ItoaNum
namespace Go.Proofs.YtpdlbmieciabmaaGreatDoor
def P0:Nat:=2305843009213691579
theorem Q0_is:∃q:Nat,q=1152921504606845789:=⟨_,rfl⟩
noncomputable def Q0:Nat:=Classical.choose Q0_is
theorem P0_val:P0=2305843009213691579:=rfl
theorem Q0_val:Q0=1152921504606845789:=Classical.choose_spec Q0_is
theorem Q0_int:(Q0:Int)=1152921504606845789:=by rw[Q0_val];rfl
def pw(a n:Nat):Nat:=a^n%P0
def gp(n:Nat):Nat:=pw 4 n
theorem gQ:pw 4 Q0=1:=by
 unfold pw
 rw[←pm_eq 64 4 Q0 P0 (by rw[Q0_val];omega),Q0_val]
 decide+kernel
theorem pw_lt(a n:Nat):pw a n<P0:=Nat.mod_lt _ (by rw[P0_val];omega)
theorem pw_add(a m n:Nat):pw a (m+n)=pw a m*pw a n%P0:=by unfold pw;rw[Nat.pow_add,Nat.mul_mod]
theorem pw_mul(a m n:Nat):pw (pw a m) n=pw a (m*n):=by unfold pw;rw[←Nat.pow_mod,Nat.pow_mul]
theorem pw_one(n:Nat):pw 1 n=1:=by unfold pw;rw[Nat.one_pow];rfl
def Mem(a:Nat):Prop:=0<a∧a<P0∧pw a Q0=1
theorem gp_mem(n:Nat):Mem (gp n):=by
 have h:pw (gp n) Q0=1:=by
  unfold gp
  rw[pw_mul,Nat.mul_comm,←pw_mul,gQ,pw_one]
 refine⟨?_,pw_lt _ _,h⟩
 rcases Nat.eq_zero_or_pos (gp n) with h0|h0
 ·rw[h0] at h
  unfold pw at h
  rw[Nat.zero_pow (by rw[Q0_val];omega)] at h
  cases h
 ·exact h0
theorem mem_mod{a:Nat}(h:Mem a)(n:Nat):pw a (n%Q0)=pw a n:=by
 conv=>rhs;rw[←Nat.div_add_mod n Q0]
 rw[pw_add,←pw_mul,h.2.2,pw_one,Nat.one_mul]
 exact(Nat.mod_eq_of_lt (pw_lt _ _)).symm
theorem gp_mod(n:Nat):gp (n%Q0)=gp n:=mem_mod (a:=4) ⟨by omega,by rw[P0_val];omega,gQ⟩ n
def powI(a:Int)(n:Nat)(m:Int):Nat:=res a m^n%m.toNat
theorem pstep_odd{m o u v g:Nat}(h:o*u^v%m=g)(hv:v%2=1):o*u%m*(u*u%m)^(v/2)%m=g:=by
 rw[←h,Nat.mod_mul_mod,Nat.mul_mod,←Nat.pow_mod,←Nat.mul_mod,←Nat.pow_two,←Nat.pow_mul,Nat.mul_assoc,←Nat.pow_succ']
 congr 3
 omega
theorem pstep_even{m o u v g:Nat}(h:o*u^v%m=g)(hv:v%2=0):o*(u*u%m)^(v/2)%m=g:=by
 rw[←h,Nat.mul_mod,←Nat.pow_mod,←Nat.mul_mod,←Nat.pow_two,←Nat.pow_mul]
 congr 3
 omega
theorem bstep_two(x q m:Nat):x^q%m*(x^q%m)%m=x^(2*q)%m:=by
 rw[←Nat.mul_mod,←Nat.pow_add]
 congr 2
 omega
theorem bstep_one(x q m:Nat):x^(2*q)%m*x%m=x^(2*q+1)%m:=by
 rw[Nat.mod_mul_mod,Nat.pow_succ]
end Go.Proofs.YtpdlbmieciabmaaGreatDoor
namespace Go.Proofs.YtpdlbmieciabmaaGreatDoor
open Go.RowKit Go.Shelf
theorem res_nat(a:Int)(M:Nat)(hM:0<M):((res a (M:Int):Nat):Int)=a%(M:Int):=res_eq (by omega)
set_option maxHeartbeats 400000 in
theorem rpow_any(a:Int)(n:Nat)(m:Int)(h0: -9223372036854775808≤a)(h1:a≤9223372036854775807)(hn:n≤9223372036854775807)(hm0:0<m)(hm:m≤9223372036854775807)(w:World):
  Calls Tryz.prog 86 #[.int .i64 a,.int .i64 (n:Int),.int .i64 m] w fun e w' =>e= .returned (.int .i64 (powI a n m:Int))∧w' =w:=by
 obtain⟨M,rfl⟩:∃M:Nat,m=(M:Int):=⟨m.toNat,by omega⟩
 have hM:0<M:=by omega
 have ha:=rresidue_any a (M:Int) h0 h1 hm0 hm w
 have hb:=rresidue_any 1 (M:Int) (by omega) (by omega) hm0 hm w
 rw[←res_nat _ _ hM] at ha hb
 have hu:res a (M:Int)<M:=by have:=res_lt (a:=a) hm0;omega
 have ho:res 1 (M:Int)<M:=by have:=res_lt (a:=1) hm0;omega
 obtain⟨g,eg⟩:∃g,g=powI a n (M:Int):=⟨_,rfl⟩
 have hst:res 1 (M:Int)*res a (M:Int)^n%M=g:=by
  have e1:res 1 (M:Int)=1%M:=by
   have h2:=res_nat 1 M hM
   have h3:((1%M:Nat):Int)=1%(M:Int):=by simp
   omega
  rw[e1,Nat.mod_mul_mod,Nat.one_mul,eg,powI,Int.toNat_natCast]
 rw[←eg]
 obtain⟨u,eu⟩:∃u,u=res a (M:Int):=⟨_,rfl⟩
 obtain⟨o,eo⟩:∃o,o=res 1 (M:Int):=⟨_,rfl⟩
 rw[←eu] at ha hu hst
 rw[←eo] at hb ho hst
 have HA:=Lib.hid ha
 have HB:=Lib.hid hb
 have HST:=Lib.hid hst
 have hp1:¬(M:Int)<1:=by omega
 have hn0:decide ((n:Int)<0)=false:=decide_eq_false (by omega)
 clear ha hb hst eu eo eg h0 h1
 go_enter Tryz.func86,Tryz.ntmps86
 go_wp2_with fail
 refine HA.out.mono ?_
 rintro e w' ⟨rfl,hw⟩
 rw[hw]
 clear hw
 go_wp2_with fail
 refine HB.out.mono ?_
 rintro e w' ⟨rfl,hw⟩
 rw[hw]
 clear hw
 go_wp2_with fail
 go_loop [1,7,8] (fun y x z=>∃u v t:Nat,x= .int .i64 (u:Int)∧y= .int .i64 (v:Int)∧z= .int .i64 (t:Int)∧u<M∧t<M∧v≤n∧Hid (t*u^v%M=g)) (fun y _ _=>(intOf y).toNat)
 case atStart=>exact⟨u,n,o,rfl,rfl,rfl,hu,ho,Nat.le_refl _,HST⟩
 case round=>
  obtain⟨u,v,t,rfl,rfl,rfl,hu,ht,hvn,HG⟩:=hrel
  by_cases hv:v=0
  ·subst hv
   have e:=HG.out
   rw[Nat.pow_zero,Nat.mul_one,Nat.mod_eq_of_lt ht] at e
   clear HG
   go_wp2_with fail
   go_ret
   exact⟨rfl,rfl⟩
  ·have hv2:(0:Int)<(v:Int):=by omega
   have hvv:((v:Int)/2)=((v/2:Nat):Int):=by omega
   have c1:=rmul_any (t:Int) (u:Int) (M:Int) (by omega) (by omega) (by omega) (by omega) hm0 hm w
   have c2:=rmul_any (u:Int) (u:Int) (M:Int) (by omega) (by omega) (by omega) (by omega) hm0 hm w
   have e1:(t:Int)*(u:Int)%(M:Int)=((t*u%M:Nat):Int):=by rw[Int.natCast_emod,Int.natCast_mul]
   have e2:(u:Int)*(u:Int)%(M:Int)=((u*u%M:Nat):Int):=by rw[Int.natCast_emod,Int.natCast_mul]
   rw[e1] at c1
   rw[e2] at c2
   have C1:=Lib.hid c1
   have C2:=Lib.hid c2
   have l1:t*u%M<M:=Nat.mod_lt _ hM
   have l2:u*u%M<M:=Nat.mod_lt _ hM
   have L1:=Lib.hid l1
   have L2:=Lib.hid l2
   have HVV:=Lib.hid hvv
   clear c1 c2 e1 e2 l1 l2 hvv
   by_cases ho:v%2=1
   ·have hov:(v:Int)%2=1:=by omega
    have HN:=Lib.hid (pstep_odd HG.out ho)
    clear ho
    go_wp2_with fail
    refine C1.out.mono ?_
    rintro e w' ⟨rfl,hw⟩
    rw[hw]
    clear hw
    go_wp2_with fail
    refine C2.out.mono ?_
    rintro e w' ⟨rfl,hw⟩
    rw[hw]
    clear hw
    go_wp2_with fail
    go_round
    case rel=>exact⟨_,v/2,_,rfl,by rw[HVV.out],rfl,L2.out,L1.out,by omega,HN⟩
    case measure=>simp[intOf];omega
   ·have hov:(v:Int)%2=0:=by omega
    have HN:=Lib.hid (pstep_even HG.out (show v%2=0 by omega))
    clear ho
    go_wp2_with fail
    refine C2.out.mono ?_
    rintro e w' ⟨rfl,hw⟩
    rw[hw]
    clear hw
    go_wp2_with fail
    go_round
    case rel=>exact⟨_,v/2,_,rfl,by rw[HVV.out],rfl,L2.out,ht,by omega,HN⟩
    case measure=>simp[intOf];omega
end Go.Proofs.YtpdlbmieciabmaaGreatDoor
namespace Go.Proofs.YtpdlbmieciabmaaGreatDoor
open Go.RowKit Go.Shelf
attribute [local go_sem] Oper.semAt_some
def KeptA(A:Nat)(W W' :World):Prop:=W'.heap[A]? =W.heap[A]?
theorem keptA_t{A:Nat}{X Y Z:World}(h:KeptA A X Y)(k:KeptA A Y Z):KeptA A X Z:=Eq.trans k h
theorem keptA_b{A:Nat}{w:World}(hA:A<w.heap.size)(W:World)(l:Nat)(o o' :Obj)(hl:w.heap.size≤l)(_:W.heap[l]? =some o)(_:o.isCells=false)(_:o.isWalk=false):KeptA A W (W.putObj l o'):=
 World.putObj_heap_other (by omega)
theorem KeptA.cell{A:Nat}{W W' :World}(h:KeptA A W W')(o:Nat):W'.cell? ⟨A,o,none⟩=W.cell? ⟨A,o,none⟩:=World.cell?_of_block h
def bitAt(n k:Nat):Bool:=decide (n/2^k%2=1)
theorem and_one(y:Nat):bits .and .i64 (y:Int) 1=((y%2:Nat):Int):=by
 show IntKind.i64.wrap ((BitVec.ofInt 64 (y:Int)&&& BitVec.ofInt 64 1).toNat :Int)=_
 have e:(BitVec.ofInt 64 (y:Int)&&& BitVec.ofInt 64 1).toNat =y%2:=by
  rw[BitVec.toNat_and,show(BitVec.ofInt 64 1).toNat =1 from by decide,Nat.and_one_is_mod,show BitVec.ofInt 64 (y:Int)=BitVec.ofNat 64 y by simp,BitVec.toNat_ofNat]
  omega
 rw[e,IntKind.wrap_i64]
 omega
theorem bit_run(n k:Nat):(bits .and .i64 ((n:Int)/2^k) 1==1)=bitAt n k:=by
 have e:(n:Int)/2^k=((n/2^k:Nat):Int):=by
  rw[Int.natCast_ediv];congr 1
 rw[e,and_one,bitAt,Bool.eq_iff_iff]
 simp
 omega
theorem bin_any(n:Int)(w:World):
  Calls Tryz.prog 121 #[.int .i64 n] w fun e w' =>e= .returned (.func (.func 144) #[] #[.pointer (some ⟨w.heap.size,0,none⟩)])∧w' =w.alloc (.cells #[.int .i64 n] 3):=by
 go_enter Tryz.func121,Tryz.ntmps121
 go_wp2_with fail
 go_ret
 exact⟨rfl,rfl⟩
set_option maxRecDepth 100000 in
set_option maxHeartbeats 1000000 in
theorem bin1_in(n:Nat)(l A x m:Nat)(hm:m=Lib.bitLen x)(hx:x≤9223372036854775807)(J Jx:List (Fin m)→World→Prop)
  (hY:∀pre i W,J pre W→pre.length<m→YieldAt Fence.wide (n-1) Tryz.prog l #[.bool (bitAt x (m-1-i.val))] W fun e W' =>
   (e= .returned (.bool true)∧J (pre++[i]) W'∧KeptA A W W')∨(e= .returned (.bool false)∧Jx (pre++[i]) W'))
  (W:World) (hJ:AbidesFrom W.heap.size J) (hA:W.cell? ⟨A,0,none⟩=some (.int .i64 (x:Int))) (h0:J [] W):
  CallsIn Fence.wide n Tryz.prog 144 #[.func (.yield l) #[] #[],.pointer (some ⟨A,0,none⟩)] W fun e W' =>(∃v,e= .returned v)∧
   ((∃ys,ys=List.finRange m∧J ys W')∨(∃pre,(∃k,k≤m∧pre=(List.finRange m).take k)∧Jx pre W')):=by
 have wx:IntKind.u64.wrap (x:Int)=(x:Int):=Mul64.wrapN _ (by omega)
 have hlen:=Tryz.bits_Len (x:Int) W (by omega) (by omega)
 rw[Int.toNat_natCast,←hm] at hlen
 have hm64:m≤64:=by rw[hm];exact Lib.bitLen_le x 64 (by omega) (by omega)
 refine callsIn_of_wp Tryz.func144 rfl trivial ?_ rfl
 simp only[Tryz.ntmps144,List.size_toArray,List.length_cons,List.length_nil,Nat.reduceAdd,Nat.reduceSub,Array.replicate_succ,Array.replicate_zero,List.push_toArray,List.append_toArray,List.nil_append,List.cons_append]
 have HLEN:=Lib.hid hlen
 clear hlen hm
 gi_wp2
 refine⟨trivial,(fun h=>by cases h),(callsIn_wide.2 HLEN.out).mono ?_⟩
 rintro e w1 ⟨rfl,hw1⟩
 rw[hw1]
 clear hw1
 gi_wp2
 gi_loopw [3] (fun i wr=>∃k:Nat,k≤m∧i= .int .i64 ((m:Int)-1-(k:Int))∧J ((List.finRange m).take k) wr∧KeptA A W wr)
  (fun i _=>(intOf i+1).toNat)
 case atStart=>exact⟨0,Nat.zero_le _,by simp,h0,rfl⟩
 case round=>
  obtain⟨k,hk,rfl,hJs,hkp⟩:=hrel
  have cA:=(hkp.cell 0).trans hA
  by_cases hlt:k<m
  ·obtain⟨fn,tmps,assign,body,hy,hR⟩:=hY _ ⟨k,hlt⟩ wr hJs (by simp;omega)
   dsimp only at hy
   rw[←fin_take hlt] at hR
   obtain⟨q,eq⟩:∃q,q=m-1-k:=⟨_,rfl⟩
   have eq2:(m:Int)-1-(k:Int)=(q:Int):=by omega
   rw[←eq,←bit_run] at hy
   rw[eq2]
   have EQ:=Lib.hid eq
   clear eq
   have q0:0≤(q:Int):=by omega
   have q64:(q:Int)<64:=by omega
   gi_wp2
   refine⟨(fun h=>by cases h),hR.mono ?_⟩
   rintro e W3 (⟨rfl,hJ3,hk3⟩|⟨rfl,hJx3⟩)
   ·have hkp3:=keptA_t hkp hk3
    gi_wp2
    go_roundw
    case rel=>exact⟨k+1,by omega,by congr 1;(try omega),hJ3,hkp3⟩
    case measure=>simp[intOf];(try omega)
   ·gi_wp2
    refine bodyPost_ret (results_none rfl _ _ _) rfl ?_
    exact⟨⟨_,rfl⟩,.inr ⟨_,⟨k+1,by omega,rfl⟩,hJx3⟩⟩
  ·obtain rfl:k=m:=by omega
   rw[show(k:Int)-1-(k:Int)= -1 by omega]
   gi_wp2
   go_end0
   exact⟨⟨_,rfl⟩,.inl ⟨_,rfl,by rw[fin_all] at hJs;exact hJs⟩⟩
theorem bin_stops(n A x m:Nat)(hm:m=Lib.bitLen x)(hx:x≤9223372036854775807)(w:World)(hA:w.cell? ⟨A,0,none⟩=some (.int .i64 (x:Int))):
  SeqStopsK Fence.wide n Tryz.prog 144 #[.pointer (some ⟨A,0,none⟩)] (fun i:Fin m=> #[.bool (bitAt x (m-1-i.val))]) (KeptA A) (fun xs=>xs=List.finRange m) (fun pre=>∃k,k≤m∧pre=(List.finRange m).take k) m w:=
 fun l J Jx W hW hJ _ hY h0=>bin1_in n l A x m hm hx J Jx hY W hJ ((hW.cell (p:=⟨A,0,none⟩) (World.block_lt_of_cell? w _ hA)).trans hA) h0
end Go.Proofs.YtpdlbmieciabmaaGreatDoor
namespace Go.Proofs.YtpdlbmieciabmaaGreatDoor
open Go.RowKit Go.Shelf
attribute [local go_sem] Oper.semAt_some
theorem cells_stay{X Y:World}{row:Option Nat}(hg:X.grownBy Y row)(hr:∀r,row=some r→∃o:Obj,X.heap[r]? =some o∧o.isCells=false){k:Nat}{cs:Array Value}{t:TypeId}{fr:Nat×Nat}(h:X.heap[k]? =some (.cells cs t fr)):Y.heap[k]? =X.heap[k]? :=
 hg.block k (Array.getElem?_eq_some_iff.1 h).1 (fun e=>by
  obtain⟨o,ho,hc⟩:=hr k e.symm
  rw[h] at ho;cases ho;cases hc)
structure PowI(w0:World)(B:Nat)(x M o:Nat)(W:World):Prop where
 bx:Blk W B 143 #[.int .u64 (x:Int)]
 bm:Blk W (B+1) 143 #[.int .u64 (M:Int)]
 bo:Blk W (B+2) 143 #[.int .u64 (o:Int)]
 rest:Only NoneOf w0 W
 new:w0.heap.size≤B
theorem PowI.grown{w0:World}{B x M o:Nat}{X Y:World}{row:Option Nat}(h:PowI w0 B x M o X)(hg:X.grownBy Y row)(hr:∀r,row=some r→w0.heap.size≤r∧∃o:Obj,X.heap[r]? =some o∧o.isCells=false):PowI w0 B x M o Y:=
 ⟨(cells_stay hg (fun r e=>(hr r e).2) h.bx).trans h.bx,(cells_stay hg (fun r e=>(hr r e).2) h.bm).trans h.bm,(cells_stay hg (fun r e=>(hr r e).2) h.bo).trans h.bo,h.rest.grown hg (fun k hk=> .inr (hr k hk).1),h.new⟩
theorem PowI.drewN{w0:World}{B x M o:Nat}{X:World}(h:PowI w0 B x M o X)(k:Nat):PowI w0 B x M o (X.drewN k):=⟨h.bx,h.bm,h.bo,h.rest.drewN k,h.new⟩
theorem PowI.set{w0:World}{B x M o:Nat}{X:World}(h:PowI w0 B x M o X)(v:Nat):PowI w0 B x M v (X.setCell ⟨B+2,0,none⟩ (.int .u64 (v:Int))):=
 ⟨h.bx.far (p:=⟨B+2,0,none⟩) (by show B≠B+2;omega) _,h.bm.far (p:=⟨B+2,0,none⟩) (by show B+1≠B+2;omega) _,h.bo.set_ 0 _,h.rest.setCell (p:=⟨B+2,0,none⟩) (.inr (by have:=h.new;show _≤B+2;omega)) _,h.new⟩
def pk(x n m M k:Nat):Nat:=x^(n/2^(m-k))%M
theorem pk_next{x n m M k:Nat}(h:k<m):pk x n m M (k+1)=if bitAt n (m-1-k) then pk x n m M k*pk x n m M k%M*x%M else pk x n m M k*pk x n m M k%M:=by
 unfold pk bitAt
 obtain⟨j,ej⟩:∃j,j=m-1-k:=⟨_,rfl⟩
 rw[←ej,show m-(k+1)=j by omega,show m-k=j+1 by omega,bstep_two]
 have e:n/2^(j+1)=n/2^j/2:=by rw[Nat.pow_succ,Nat.div_div_eq_div_mul]
 rw[e]
 by_cases hb:n/2^j%2=1
 ·rw[if_pos (by simpa using hb),bstep_one,show 2*(n/2^j/2)+1=n/2^j by omega]
 ·rw[if_neg (by simpa using hb),show 2*(n/2^j/2)=n/2^j by omega]
theorem pk_zero{x n M:Nat}(hn:n<2^64):pk x n (Lib.bitLen n) M 0=1%M:=by
 unfold pk
 rw[Nat.sub_zero]
 by_cases h0:n=0
 ·subst h0;simp
 ·have:=(Lib.bitLenAux_bounds 64 n hn h0).2.2
  unfold Lib.bitLen
  rw[Nat.div_eq_of_lt this,Nat.pow_zero]
theorem pk_all(x n m M:Nat):pk x n m M m=x^n%M:=by unfold pk;rw[Nat.sub_self,Nat.pow_zero,Nat.div_one]
def stepP(x M:Nat)(b:Bool)(o:Nat):Nat:=if b then o*o%M*x%M else o*o%M
theorem stepP_lt{x M:Nat}(hM:0<M)(b:Bool)(o:Nat):stepP x M b o<M:=by
 unfold stepP
 split<;>exact Nat.mod_lt _ hM
def foldP(x n M:Nat){m:Nat}(pre:List (Fin m)):Nat:=pre.foldl (fun o i=>stepP x M (bitAt n (m-1-i.val)) o) (1%M)
theorem foldP_snoc(x n M:Nat){m:Nat}(pre:List (Fin m))(i:Fin m):foldP x n M (pre++[i])=stepP x M (bitAt n (m-1-i.val)) (foldP x n M pre):=by simp[foldP]
theorem foldP_lt{x n M:Nat}(hM:0<M){m:Nat}(pre:List (Fin m)):foldP x n M pre<M:=by
 rcases List.eq_nil_or_concat pre with e|⟨l,i,e⟩
 ·subst e;exact Nat.mod_lt _ hM
 ·rw[e,List.concat_eq_append,foldP_snoc];exact stepP_lt hM _ _
theorem foldP_take{x n M m:Nat}(hn:n<2^64)(hm:m=Lib.bitLen n):∀k,k≤m→foldP x n M ((List.finRange m).take k)=pk x n m M k:=by
 intro k
 induction k with
 |zero=>intro _;rw[hm,pk_zero hn];rfl
 |succ k ih=>
  intro hk
  rw[fin_take (show k<m by omega),foldP_snoc,ih (by omega),pk_next (show k<m by omega)]
  rfl
theorem foldP_all{x n M m:Nat}(hn:n<2^64)(hm:m=Lib.bitLen n):foldP x n M (List.finRange m)=x^n%M:=by
 have h:=foldP_take (x:=x) (M:=M) hn hm m (Nat.le_refl _)
 rwa [fin_all,pk_all] at h
set_option maxRecDepth 100000 in
set_option maxHeartbeats 1000000 in
theorem fpow_any(a:Int)(n:Nat)(m:Int)(h0: -9223372036854775808≤a)(h1:a≤9223372036854775807)(hn:n≤9223372036854775807)(hm0:0<m)(hm:m≤9223372036854775807)(w:World):
  Calls Tryz.prog 97 #[.int .i64 a,.int .i64 (n:Int),.int .i64 m] w fun e w' =>e= .returned (.int .i64 (powI a n m:Int))∧Only NoneOf w w' :=by
 obtain⟨M,rfl⟩:∃M:Nat,m=(M:Int):=⟨m.toNat,by omega⟩
 have hM:0<M:=by omega
 have hu:res a (M:Int)<M:=by have:=res_lt (a:=a) hm0;omega
 have hone:res 1 (M:Int)=1%M:=by
  have h2:=res_nat 1 M hM
  have h3:((1%M:Nat):Int)=1%(M:Int):=by simp
  omega
 obtain⟨x,ex⟩:∃x,x=res a (M:Int):=⟨_,rfl⟩
 have hra:=residue_any a (M:Int) h0 h1 hm0 hm
 have hrb:=residue_any 1 (M:Int) (by omega) (by omega) hm0 hm
 have hres:powI a n (M:Int)=x^n%M:=by rw[powI,←ex,Int.toNat_natCast]
 rw[←ex] at hra hu
 rw[hone,←pk_zero (x:=x) (n:=n) (by omega)] at hrb
 obtain⟨L,eL⟩:∃L,L=Lib.bitLen n:=⟨_,rfl⟩
 rw[←eL] at hrb
 have HRA:=Lib.hid hra
 have HRB:=Lib.hid hrb
 have HRES:=Lib.hid hres
 have EL:=Lib.hid eL
 have hp1:¬(M:Int)<1:=by omega
 have hn0:decide ((n:Int)<0)=false:=decide_eq_false (by omega)
 have wM:IntKind.u64.wrap (M:Int)=(M:Int):=Mul64.wrapN _ (by omega)
 clear hra hrb hres hone ex eL h0 h1
 refine callsIn_wide.1 (callsIn_of_wp_marks (n:=9) Tryz.func97 rfl trivial ?_ rfl)
 simp only[Tryz.ntmps97,List.size_toArray,List.length_cons,List.length_nil,Nat.reduceAdd,Nat.reduceSub,Array.replicate_succ,Array.replicate_zero,List.push_toArray,List.append_toArray,List.nil_append,List.cons_append]
 refine wpIn_wide.2 ?_
 go_wp2_with fail
 refine(HRA.out _).mono ?_
 rintro e w' ⟨rfl,hw⟩
 rw[hw]
 clear hw
 go_wp2_with fail
 refine(HRB.out _).mono ?_
 rintro e w' ⟨rfl,hw⟩
 rw[hw]
 clear hw
 go_wp2_with fail
 refine(bin_any _ _).mono ?_
 rintro e w' ⟨rfl,hw⟩
 rw[hw]
 clear hw
 go_wp2_with fail
 obtain⟨B,eB⟩:∃B,B=w.heap.size:=⟨_,rfl⟩
 refine wp_gen (fun X=>PowI w B x M (pk x n L M 0) X∧X.cell? ⟨B+1+1+1,0,none⟩=some (.int .i64 (n:Int))∧B+4≤X.heap.size) ?gen ?_
 case gen=>
  rw[eB]
  refine⟨⟨(((Blk.new w _ _).alloc _).alloc _).alloc _,?_,?_,((((Only.refl NoneOf w).alloc _).alloc _).alloc _).alloc _,Nat.le_refl _⟩,?_,by simp⟩
  ·have h:=Blk.new (w.alloc (.cells #[.int .u64 (x:Int)] 143)) 143 #[.int .u64 (M:Int)]
   rw[World.size_alloc] at h
   exact(h.alloc _).alloc _
  ·have h:=Blk.new ((w.alloc (.cells #[.int .u64 (x:Int)] 143)).alloc (.cells #[.int .u64 (M:Int)] 143)) 143 #[.int .u64 ((pk x n L M 0:Nat):Int)]
   rw[World.size_alloc,World.size_alloc] at h
   exact h.alloc _
  ·have h:=(Blk.new (((w.alloc (.cells #[.int .u64 (x:Int)] 143)).alloc (.cells #[.int .u64 (M:Int)] 143)).alloc (.cells #[.int .u64 ((pk x n L M 0:Nat):Int)] 143)) 3 #[.int .i64 (n:Int)]).cell 0
   rw[World.size_alloc,World.size_alloc,World.size_alloc] at h
   exact h
 rintro W0 ⟨hP0,hcn,hbig0⟩
 rw[←eB]
 have HP0:=Lib.hid hP0
 have HCN:=Lib.hid hcn
 have EB:=Lib.hid eB
 clear hP0 hcn eB
 refine(wpIn_wide (n:=9)).1 (wpIn_rangeFunc_ownF rfl (show 1≤9 by omega) (gf:=144) (lb:= #[.pointer (some ⟨B+1+1+1,0,none⟩)]) rfl trivial (enters_of Tryz.func144 (by kernel_rfl) rfl)
  (bin_stops 8 (B+1+1+1) n L EL.out hn W0 HCN.out) keptA_t (keptA_b ?hA) (Below.refl _ _) ?sz
  (fun pre X=>PowI w B x M (foldP x n M pre) X∧B+4≤X.heap.size) (fun _ _ _=>False)
  ?own (fun _ _ _ _ _ h _ _=>h) ?start ?a1 ?assign ?body ?done ?stop)
 case hA=>omega
 case sz=>exact fun _=>rfl
 case own=>exact fun _ _ _ _ h hg hr=>⟨h.1.grown hg (fun r e=>⟨Nat.le_trans HP0.out.rest.size (hr r e).1,(hr r e).2⟩),Nat.le_trans h.2 hg.size⟩
 case start=>
  have h:=HP0.out
  rw[show pk x n L M 0=foldP x n M ([]:List (Fin L)) by rw[EL.out,pk_zero (by omega)];rfl] at h
  exact⟨h,hbig0⟩
 case assign=>
  intro l y X K hK
  gi_wp2
  exact hK
 case body=>
  rintro l pre y X ⟨hI,hbig⟩ hlen
  have hsn:=foldP_snoc x n M pre y
  have hlt:=foldP_lt (x:=x) (n:=n) hM pre
  obtain⟨o,eo⟩:∃o,o=foldP x n M pre:=⟨_,rfl⟩
  obtain⟨b,eb⟩:∃b,b=bitAt n (L-1-y.val):=⟨_,rfl⟩
  rw[←eo] at hI hlt hsn
  rw[←eb] at hsn⊢
  have HSN:=Lib.hid hsn
  have hmul:=fmul_any o o M (by omega) (by omega) hM (by omega)
  have l1:o*o%M<M:=Nat.mod_lt _ hM
  have hmul2:=fmul_any (o*o%M) x M (by omega) (by omega) hM (by omega)
  have HI:=Lib.hid hI
  have hst:∀b,stepP x M b o=if b then o*o%M*x%M else o*o%M:=fun b=>rfl
  obtain⟨v1,ev1⟩:∃v1,v1=o*o%M:=⟨_,rfl⟩
  obtain⟨v2,ev2⟩:∃v2,v2=v1*x%M:=⟨_,rfl⟩
  rw[←ev1] at hmul hmul2 l1 hst
  rw[←ev2] at hmul2 hst
  have HST:=Lib.hid hst
  have HMUL:=Lib.hid hmul
  have HMUL2:=Lib.hid hmul2
  have c0:X.cell? ⟨B,0,none⟩=some (.int .u64 (x:Int)):=hI.bx.cell 0
  have c1:X.cell? ⟨B+1,0,none⟩=some (.int .u64 (M:Int)):=hI.bm.cell 0
  have c2:X.cell? ⟨B+1+1,0,none⟩=some (.int .u64 (o:Int)):=hI.bo.cell 0
  have f2:X.frozen? ⟨B+1+1,0,none⟩=false:=hI.bo.frozen 0
  clear hI hmul hmul2 eo eb hsn hst ev1 ev2
  have hend:∀(k v:Nat),KeepsOthers X ((X.drewN k).setCell ⟨B+1+1,0,none⟩ (.int .u64 (v:Int)))∧KeptA (B+1+1+1) X ((X.drewN k).setCell ⟨B+1+1,0,none⟩ (.int .u64 (v:Int)))∧PowI w B x M v ((X.drewN k).setCell ⟨B+1+1,0,none⟩ (.int .u64 (v:Int))):=fun k v=>by
   have ho:Only (fun j=>j=B+1+1) X ((X.drewN k).setCell ⟨B+1+1,0,none⟩ (.int .u64 (v:Int))):=((Only.refl (fun j=>j=B+1+1) X).drewN k).setCell (p:=⟨B+1+1,0,none⟩) (.inl rfl) _
   exact⟨keepsOthers_of_only ho (fun j hj=>by have e:j=B+1+1:=hj;subst e;exact⟨_,HI.out.bo,rfl⟩),ho.block _ (by omega) (by omega),(HI.out.drewN k).set v⟩
  have HEND:=Lib.hid hend
  have hsz:∀(k v:Nat),B+4≤((X.drewN k).setCell ⟨B+1+1,0,none⟩ (.int .u64 (v:Int))).heap.size :=fun k v=>by simpa [World.setCell] using hbig
  have HSZ:=Lib.hid hsz
  clear hend hsz
  cases b
  ·gi_wp2
   refine⟨trivial,(CallsIn.inRound l (callsIn_wide.2 (HMUL.out _))).mono ?_⟩
   rintro e X2 ⟨rfl,k,hk⟩
   rw[hk]
   clear hk
   gi_wp2
   obtain⟨e1,e2,e3⟩:=HEND.out k v1
   refine⟨e1,e2,?_,HSZ.out k v1⟩
   rw[HSN.out,HST.out]
   exact e3
  ·gi_wp2
   refine⟨trivial,(CallsIn.inRound l (callsIn_wide.2 (HMUL.out _))).mono ?_⟩
   rintro e X2 ⟨rfl,k,hk⟩
   rw[hk]
   clear hk
   have hP1:=(HEND.out k v1).2.2
   have d0:((X.drewN k).setCell ⟨B+1+1,0,none⟩ (.int .u64 (v1:Int))).cell? ⟨B,0,none⟩=some (.int .u64 (x:Int)):=hP1.bx.cell 0
   have d1:((X.drewN k).setCell ⟨B+1+1,0,none⟩ (.int .u64 (v1:Int))).cell? ⟨B+1,0,none⟩=some (.int .u64 (M:Int)):=hP1.bm.cell 0
   have d2:((X.drewN k).setCell ⟨B+1+1,0,none⟩ (.int .u64 (v1:Int))).cell? ⟨B+1+1,0,none⟩=some (.int .u64 (v1:Int)):=hP1.bo.cell 0
   clear hP1
   gi_wp2
   refine⟨trivial,(CallsIn.inRound l (callsIn_wide.2 (HMUL2.out _))).mono ?_⟩
   rintro e X3 ⟨rfl,k2,hk2⟩
   rw[hk2]
   clear hk2
   gi_wp2
   have ho:Only (fun j=>j=B+1+1) X ((((X.drewN k).setCell ⟨B+1+1,0,none⟩ (.int .u64 (v1:Int))).drewN k2).setCell ⟨B+1+1,0,none⟩ (.int .u64 (v2:Int))):=((((Only.refl (fun j=>j=B+1+1) X).drewN k).setCell (p:=⟨B+1+1,0,none⟩) (.inl rfl) _).drewN k2).setCell (p:=⟨B+1+1,0,none⟩) (.inl rfl) _
   refine⟨keepsOthers_of_only ho (fun j hj=>by have e:j=B+1+1:=hj;subst e;exact⟨_,HI.out.bo,rfl⟩),ho.block _ (by omega) (by omega),?_,Nat.le_trans hbig ho.size⟩
   rw[HSN.out,HST.out]
   exact(((HEND.out k v1).2.2).drewN k2).set v2
 case done=>
  rintro D xs W8 hD rfl ⟨hI,hbig⟩ hK
  rw[foldP_all (by omega) EL.out] at hI
  have HI:=Lib.hid hI
  have HK:=Lib.hid hK
  have hlt:x^n%M<M:=Nat.mod_lt _ hM
  obtain⟨g,eg⟩:∃g,g=x^n%M:=⟨_,rfl⟩
  rw[←eg] at hlt HI
  have c2:W8.cell? ⟨B+1+1,0,none⟩=some (.int .u64 (g:Int)):=HI.out.bo.cell 0
  have wg:IntKind.i64.wrap (g:Int)=(g:Int):=IntWalk.i64_in _ (by omega)
  have EG:=Lib.hid eg
  clear hI hK eg
  go_wp2_with fail
  have hD2:w.heap.size≤D:=Nat.le_trans HP0.out.rest.size hD
  refine⟨by simp,.inl ⟨_,_,rfl,run_takeDeferred HK.out,?_⟩⟩
  refine⟨_,results_tmp rfl _ _ _,?_,HI.out.rest.grown (grownBy_putObj' _ D _) (fun k e=>by cases e;exact .inr hD2)⟩
  exact ret_int (by rw[HRES.out,←EG.out])
 case stop=>exact fun _ _ _ _ _ _ h=>h.elim
end Go.Proofs.YtpdlbmieciabmaaGreatDoor
namespace Go.Proofs.YtpdlbmieciabmaaGreatDoor
def lagN:Nat:=1152921504606845789
def prodX(xs:List Nat)(y:Nat):Nat:=xs.foldl (fun a x=>if x=y then a else a*x%lagN) 1
def prodD(xs:List Nat)(y:Nat):Nat:=xs.foldl (fun a x=>if x=y then a else a*((x+lagN-y)%lagN)%lagN) 1
def invD(xs:List Nat)(y:Nat):Nat:=pm 64 (prodD xs y) (lagN-2) lagN
def lagW(xs:List Nat)(y:Nat):Nat:=prodX xs y*invD xs y%lagN
def lagS(xs:List Nat)(j:Nat):Nat:=xs.foldl (fun a x=>(a+lagW xs x*x^j)%lagN) 0
def lagOk(xs:List Nat):Bool:=xs.all (fun x=>prodD xs x*invD xs x%lagN==1)&&(List.range xs.length).all fun j=>lagS xs j==if j=0 then 1 else 0
def ringX(o need start:Nat):List Nat:=(List.range need).map fun n=>(start+n)%o+1
theorem lag_all:((List.range 13).all fun o=>(List.range (o+1)).all fun n=>(List.range (o+1)).all fun s=>lagOk (ringX (o+1) (n+1) s))=true:=by decide+kernel
end Go.Proofs.YtpdlbmieciabmaaGreatDoor
namespace Go.Proofs.YtpdlbmieciabmaaGreatDoor
def sumP:List Nat→Nat→Nat
 |[],_=>0
 |c::cs,x=>c+x*sumP cs x
theorem sumP_snoc(x c:Nat):∀cs:List Nat,sumP (cs++[c]) x=sumP cs x+c*x^cs.length
 |[]=>by simp[sumP]
 |d::cs=>by
  rw[List.cons_append,sumP,sumP,sumP_snoc x c cs,List.length_cons,Nat.pow_succ,Nat.mul_add,Nat.add_assoc]
  congr 2
  rw[Nat.mul_left_comm,Nat.mul_comm x]
theorem sumP_take{cs:List Nat}{i c x:Nat}(h:cs[i]? =some c):sumP (cs.take (i+1)) x=sumP (cs.take i) x+c*x^i:=by
 have hi:=(List.getElem?_eq_some_iff.1 h).1
 rw[List.take_add_one,h,Option.toList_some,sumP_snoc,List.length_take,Nat.min_eq_left (by omega)]
theorem step_pow{m y c p:Nat}{a x i:Nat}(hy:y=a%m)(hp:p=x^i%m):(y+c*p%m)%m=(a+c*x^i)%m:=by
 rw[hy,hp,Nat.add_mod,Nat.mod_mod,Nat.mod_mod,Nat.mul_mod,Nat.mod_mod,←Nat.mul_mod,←Nat.add_mod]
theorem step_power{m p x i:Nat}(hp:p=x^i%m):p*x%m=x^(i+1)%m:=by rw[hp,Nat.mod_mul_mod,Nat.pow_succ]
def sW(all:List Nat)(f:Nat→Nat):List Nat→Nat
 |[]=>0
 |x::xs=>lagW all x*f x+sW all f xs
theorem sW_add(all:List Nat)(f g:Nat→Nat):∀xs,sW all (fun x=>f x+g x) xs=sW all f xs+sW all g xs
 |[]=>rfl
 |x::xs=>by
  simp only[sW]
  rw[sW_add all f g xs,Nat.mul_add]
  omega
theorem sW_mul(all:List Nat)(c:Nat)(f:Nat→Nat):∀xs,sW all (fun x=>c*f x) xs=c*sW all f xs
 |[]=>rfl
 |x::xs=>by
  simp only[sW]
  rw[sW_mul all c f xs,Nat.mul_add,Nat.mul_left_comm]
theorem fold_lag(all:List Nat)(j:Nat):∀(xs:List Nat) (a:Nat),xs.foldl (fun a x=>(a+lagW all x*x^j)%lagN) (a%lagN)=(a+sW all (fun x=>x^j) xs)%lagN
 |[],a=>rfl
 |x::xs,a=>by
  rw[List.foldl_cons,Nat.mod_add_mod,fold_lag all j xs]
  simp only[sW]
  rw[Nat.add_assoc]
theorem lagS_sum(xs:List Nat)(j:Nat):lagS xs j=sW xs (fun x=>x^j) xs%lagN:=by
 have:=fold_lag xs j xs 0
 rw[Nat.zero_mod,Nat.zero_add] at this
 exact this
theorem lag_sum{xs:List Nat}(h:∀j,j<xs.length→lagS xs j=if j=0 then 1 else 0):∀(cs:List Nat) (j:Nat),j+cs.length≤xs.length→sW xs (fun x=>x^j*sumP cs x) xs%lagN=(if j=0 then cs.headD 0 else 0)%lagN
 |[],j,_=>by
  have e:sW xs (fun x=>x^j*sumP [] x) xs=0*sW xs (fun _=>0) xs:=by
   rw[←sW_mul]
   simp[sumP]
  rw[e]
  simp
 |c::cs,j,hj=>by
  rw[List.length_cons] at hj
  have e:(fun x=>x^j*sumP (c::cs) x)=fun x=>c*x^j+x^(j+1)*sumP cs x:=by
   funext x
   rw[sumP,Nat.mul_add,Nat.pow_succ,Nat.mul_comm c,Nat.mul_assoc]
  rw[e,sW_add,sW_mul,Nat.add_mod,lag_sum h cs (j+1) (by omega),if_neg (by omega),Nat.mul_mod,←lagS_sum,h j (by omega)]
  by_cases h0:j=0
  ·rw[if_pos h0,if_pos h0]
   simp
  ·rw[if_neg h0,if_neg h0]
   simp
theorem lag_ok{xs:List Nat}(h:lagOk xs=true):(∀x∈xs,prodD xs x*invD xs x%lagN=1)∧∀j,j<xs.length→lagS xs j=if j=0 then 1 else 0:=by
 unfold lagOk at h
 rw[Bool.and_eq_true] at h
 exact⟨fun x hx=>beq_iff_eq.1 (List.all_eq_true.1 h.1 x hx),fun j hj=>beq_iff_eq.1 (List.all_eq_true.1 h.2 j (List.mem_range.2 hj))⟩
def joinP(all:List Nat)(f:Nat→Nat)(xs:List Nat):Nat:=xs.foldl (fun a x=>(a+f x*prodX all x%lagN*invD all x%lagN)%lagN) 0
theorem joinP_from(all:List Nat)(f:Nat→Nat):∀(xs:List Nat) (a:Nat),xs.foldl (fun a x=>(a+f x*prodX all x%lagN*invD all x%lagN)%lagN) (a%lagN)=(a+sW all f xs)%lagN
 |[],a=>rfl
 |x::xs,a=>by
  have e:f x*prodX all x%lagN*invD all x%lagN=lagW all x*f x%lagN:=by
   unfold lagW
   rw[Nat.mod_mul_mod,Nat.mod_mul_mod,Nat.mul_assoc,Nat.mul_comm]
  rw[List.foldl_cons,Nat.mod_add_mod,joinP_from all f xs,e]
  simp only[sW]
  rw[←Nat.add_assoc,Nat.add_mod,Nat.add_mod a,Nat.mod_mod,←Nat.add_mod a,←Nat.add_mod]
theorem joinP_sum(all xs:List Nat)(f:Nat→Nat):joinP all f xs=sW all f xs%lagN:=by
 have:=joinP_from all f xs 0
 rw[Nat.zero_mod,Nat.zero_add] at this
 exact this
theorem sW_mod(all:List Nat)(f:Nat→Nat):∀xs,sW all (fun x=>f x%lagN) xs%lagN=sW all f xs%lagN
 |[]=>rfl
 |x::xs=>by
  simp only[sW]
  rw[Nat.add_mod,Nat.mul_mod,Nat.mod_mod,←Nat.mul_mod,sW_mod all f xs,←Nat.add_mod]
theorem join_back{xs cs:List Nat}(h:lagOk xs=true)(hl:cs.length=xs.length){c:Nat}(hc:cs.head? =some c)(hm:c<lagN):joinP xs (fun x=>sumP cs x%lagN) xs=c:=by
 have h1:=lag_sum (lag_ok h).2 cs 0 (by omega)
 rw[joinP_sum,sW_mod]
 have e:(fun x=>x^0*sumP cs x)=fun x=>sumP cs x:=by
  funext x
  rw[Nat.pow_zero,Nat.one_mul]
 rw[e] at h1
 rw[h1,if_pos rfl]
 cases cs with
 |nil=>cases hc
 |cons d cs=>
  simp only[List.head?_cons,Option.some.injEq] at hc
  subst hc
  exact Nat.mod_eq_of_lt hm
theorem fit_step{pr c x i a:Nat}(hpr:pr=gp a):pr*pw (gp c) (x^i%Q0)%P0=gp (a+c*x^i):=by
 rw[hpr,mem_mod (gp_mem c),show gp c=pw 4 c from rfl,pw_mul,show gp a=pw 4 a from rfl,←pw_add]
 rfl
end Go.Proofs.YtpdlbmieciabmaaGreatDoor
