/- What is proved here: a part of the proof that 'probitylaw31.ClientPlays' answers true. Conditions: each theorem's own. -/
import Derived.Test.YtgalfohobgjelaaGreatDoorPy01
import Derived.Lib.ItoaNum
import Derived.Laws.Bits64b
import Derived.Shelf.Bits.Mul64
import Derived.Lib.BitFns
import Derived.Lib.ParseIntB
import Derived.Lib.IndexMore
import Derived.Lib.IndexLaws
set_option maxRecDepth 100000
set_option maxHeartbeats 8000000
namespace Go.Proofs.YtgalfohobgjelaaGreatDoor
section
open Go.RowKit
def Ωq(l:List UInt8)(w:World)(e:Ending)(w' :World):Prop:=∃t:ByteArray,e= .returned (.string t)∧t.data.toList=l∧Only Ωa w w'
theorem Ωq.mk{l:List UInt8}{w w' :World}{t:ByteArray}(h:t.data.toList=l)(ho:Only Ωa w w'):Ωq l w (.returned (.string t)) w' :=⟨t,rfl,h,ho⟩
theorem Ωc(t:ByteArray):t.size=t.data.toList.length:=by simp
theorem dec_len(k:Nat):∀u,u<10^(k+1)→(Lib.decDigits u).length≤k+1:=by
 induction k with
 |zero=>intro u h;rw[Lib.decDigits,dif_pos (by simpa using h)];simp
 |succ k ih=>
  intro u h
  rw[Lib.decDigits]
  split
  ·simp
  ·rw[ΩnA]
   have:=ih (u/10) (by rw[Nat.pow_succ] at h;omega)
   simp;omega
theorem Ωb4{u:Nat}(h:u<10):Lib.decDigits u=[UInt8.ofNat (48+u)]:=by rw[Lib.decDigits,dif_pos h]
theorem Ωj4{u:Nat}(h:¬u<10):Lib.decDigits u=Lib.decDigits (u/10)++[UInt8.ofNat (48+u%10)]:=by
 conv=>lhs;rw[Lib.decDigits,dif_neg h]
theorem Ωdp{u:Nat}(h:u<18446744073709551616):(Lib.decDigits u).length≤20:=dec_len 19 u (by omega)
theorem ΩV{n:Int}(h0: -9223372036854775808≤n)(h1:n≤9223372036854775807):(Lib.itoa n).length≤21:=by
 unfold Lib.itoa
 split
 ·have:=Ωdp (u:=n.natAbs) (by omega);simp;omega
 ·have:=Ωdp (u:=n.toNat) (by omega);omega
end
section
open Go.RowKit
theorem bitLen_both(n:Nat):∀y,0<y→y<2^n→n≤64→y<2^Lib.bitLen y∧2^Lib.bitLen y≤2*y:=by
 induction n with
 |zero=>intro y h0 h1 _;simp at h1;omega
 |succ n ih=>
  intro y h0 h1 hn
  have h64:y<2^64:=ΩnT h1 (Nat.pow_le_pow_right (by omega) hn)
  rw[Lib.bitLen_half y (by omega) h64]
  by_cases h2:y/2=0
  ·obtain rfl:y=1:=by omega
   decide+kernel
  ·have:=ih (y/2) (by omega) (by rw[Nat.pow_succ] at h1;omega) (by omega)
   rw[Nat.add_comm,Nat.pow_succ]
   omega
theorem norm_of(y:Nat)(h0:0<y)(hy:y<18446744073709551616):∃s:Nat,(64-(Lib.bitLen y:Int):Int)=(s:Int)∧s≤63∧y*2^s<18446744073709551616∧9223372036854775808≤y*2^s:=by
 obtain⟨h1,h2⟩:=bitLen_both 64 y h0 (by omega) (by omega)
 have h3:Lib.bitLen y≤64:=Lib.bitLen_le y 64 (by omega) (by omega)
 have h4:Lib.bitLen y≠0:=by intro e;rw[e] at h1;simp at h1;omega
 refine⟨64-Lib.bitLen y,by omega,by omega,?_,?_⟩
 ·have e:2^Lib.bitLen y*2^(64-Lib.bitLen y)=18446744073709551616:=by rw[←Nat.pow_add,show Lib.bitLen y+(64-Lib.bitLen y)=64 by omega]
  rw[←e]
  exact Nat.mul_lt_mul_of_pos_right h1 (Nat.two_pow_pos _)
 ·have e:2^Lib.bitLen y*2^(64-Lib.bitLen y)=18446744073709551616:=by rw[←Nat.pow_add,show Lib.bitLen y+(64-Lib.bitLen y)=64 by omega]
  have:=Nat.mul_le_mul_right (2^(64-Lib.bitLen y)) h2
  rw[e,Nat.mul_assoc] at this
  omega
structure Ωfs(A B D U:Nat)(q r:Nat):Prop where
 sum:q*A+r=U
 least:(U*4294967296+D)/(A*4294967296+B)≤q
 most:q≤4294967297
section
variable {A B D U q r:Nat}
theorem Ωiz(hU:U<A*4294967296+B)(hD:D<4294967296):(U*4294967296+D)/(A*4294967296+B)<4294967296:=by
 refine Nat.div_lt_of_lt_mul ?_
 have:=Nat.mul_le_mul_right 4294967296 (show U+1≤A*4294967296+B from hU)
 omega
theorem Ωfs.start(hA:2147483648≤A)(hB:B<4294967296)(hD:D<4294967296)(hU:U<A*4294967296+B):Ωfs A B D U (U/A) (U%A):=by
 have h1:=Nat.div_add_mod' U A
 refine⟨h1,?_,?_⟩
 ·refine(Nat.le_div_iff_mul_le (by omega)).2 ?_
  obtain⟨T,eT⟩:∃T,T=(U*4294967296+D)/(A*4294967296+B):=⟨_,rfl⟩
  rw[←eT]
  have h2:T*(A*4294967296+B)≤U*4294967296+D:=by rw[eT];exact Nat.div_mul_le_self _ _
  rw[Nat.mul_add,←Nat.mul_assoc] at h2
  obtain⟨p,ep⟩:∃p,p=T*A:=⟨_,rfl⟩
  obtain⟨p',ep'⟩:∃p',p' =T*B:=⟨_,rfl⟩
  rw[←ep,←ep'] at h2
  rw[←ep]
  omega
 ·have h3:U/A≤(A*4294967296+4294967296)/A:=Nat.div_le_div_right (by omega)
  have h4:(A*4294967296+4294967296)/A=4294967296+4294967296/A:=by rw[Nat.mul_add_div (by omega)]
  have h5:4294967296/A≤4294967296/2147483648:=Nat.div_le_div_left hA (by omega)
  have h6:U/A<4294967298:=by
   refine(Nat.div_lt_iff_lt_mul (by omega)).2 ?_
   omega
  omega
theorem Ωfs.less(h:Ωfs A B D U q r)(hD:D<4294967296)(hU:U<A*4294967296+B)(ht:4294967296≤q∨4294967296*r+D<q*B):1≤q∧Ωfs A B D U (q-1) (r+A):=by
 have hlt:=Ωiz hU hD
 obtain⟨T,eT⟩:∃T,T=(U*4294967296+D)/(A*4294967296+B):=⟨_,rfl⟩
 have h2:T*(A*4294967296+B)≤U*4294967296+D:=by rw[eT];exact Nat.div_mul_le_self _ _
 have hl:=h.least
 have hs:=h.sum
 have hm:=h.most
 rw[←eT] at hlt hl
 have hne:T≠q:=by
  rintro rfl
  rcases ht with ht|ht
  ·omega
  ·rw[Nat.mul_add,←Nat.mul_assoc] at h2
   obtain⟨p,ep⟩:∃p,p=T*A:=⟨_,rfl⟩
   obtain⟨p',ep'⟩:∃p',p' =T*B:=⟨_,rfl⟩
   rw[←ep,←ep'] at h2
   rw[←ep] at hs
   rw[←ep'] at ht
   omega
 refine⟨by omega,?_,by rw[←eT];omega,by omega⟩
 obtain⟨j,rfl⟩:∃j,q=j+1:=⟨q-1,by omega⟩
 rw[Nat.add_mul] at hs
 simp only[Nat.add_sub_cancel]
 omega
theorem Ωfs.right(h:Ωfs A B D U q r)(hY:0<A*4294967296+B)(ht:q*B≤4294967296*r+D):q=(U*4294967296+D)/(A*4294967296+B):=by
 refine Nat.le_antisymm ?_ h.least
 refine(Nat.le_div_iff_mul_le hY).2 ?_
 have hs:=h.sum
 rw[Nat.mul_add,←Nat.mul_assoc]
 obtain⟨p,ep⟩:∃p,p=q*A:=⟨_,rfl⟩
 rw[←ep] at hs⊢
 omega
theorem Ωfs.out(h:Ωfs A B D U q r)(hY:0<A*4294967296+B)(hB:B<4294967296)(hq:q≤4294967296)(hr:4294967296≤r):q=(U*4294967296+D)/(A*4294967296+B):=by
 refine h.right hY ?_
 have:=Ωov hq (show B≤4294967295 by omega)
 omega
end
open Go.Proofs.Mul64 in
theorem ΩlJ{U D T Y:Nat}(hT:T=(U*4294967296+D)/Y)(hY:0<Y)(hy:Y<18446744073709551616):
  IntKind.u64.wrap ((((U*4294967296+D)%18446744073709551616:Nat):Int)-(((T*Y)%18446744073709551616:Nat):Int))=(((U*4294967296+D)%Y:Nat):Int):=by
 have h1:=Nat.div_add_mod' (U*4294967296+D) Y
 have h2:=ΩoL (U*4294967296+D) hY
 rw[←hT] at h1
 obtain⟨p,ep⟩:∃p,p=T*Y:=⟨_,rfl⟩
 obtain⟨m,em⟩:∃m,m=(U*4294967296+D)%Y:=⟨_,rfl⟩
 rw[←ep,←em] at h1
 rw[←em] at h2
 rw[←ep,←em,IntKind.wrap_u64]
 omega
theorem two_digits{U D1 D0 Y:Nat}(hY:0<Y):(U*18446744073709551616+(D1*4294967296+D0))/Y=(U*4294967296+D1)/Y*4294967296+((U*4294967296+D1)%Y*4294967296+D0)/Y∧
  (U*18446744073709551616+(D1*4294967296+D0))%Y=((U*4294967296+D1)%Y*4294967296+D0)%Y:=by
 have h1:=Nat.div_add_mod' (U*4294967296+D1) Y
 obtain⟨T,eT⟩:∃T,T=(U*4294967296+D1)/Y:=⟨_,rfl⟩
 obtain⟨m,em⟩:∃m,m=(U*4294967296+D1)%Y:=⟨_,rfl⟩
 rw[←eT,←em] at h1⊢
 have e:U*18446744073709551616+(D1*4294967296+D0)=(m*4294967296+D0)+(T*4294967296)*Y:=by
  rw[Nat.mul_right_comm]
  obtain⟨p,ep⟩:∃p,p=T*Y:=⟨_,rfl⟩
  rw[←ep] at h1⊢
  omega
 rw[e,Nat.add_mul_div_right _ _ hY,Nat.add_mul_mod_self_right]
 exact⟨by omega,rfl⟩
theorem shifted{hi lo y s:Nat}(hh:hi<y)(hl:lo<18446744073709551616)(hs:s≤63)(hy:y*2^s<18446744073709551616):
  hi*2^s<18446744073709551616∧lo/2^(64-s)<18446744073709551616∧hi*2^s|||lo/2^(64-s)=hi*2^s+lo/2^(64-s)∧
   (hi*18446744073709551616+lo)*2^s=(hi*2^s+lo/2^(64-s))*18446744073709551616+lo*2^s%18446744073709551616∧hi*2^s+lo/2^(64-s)<y*2^s:=by
 have hp:=Nat.two_pow_pos s
 have e64:2^(64-s)*2^s=18446744073709551616:=by rw[←Nat.pow_add,show 64-s+s=64 by omega]
 have hb:lo/2^(64-s)<2^s:=by
  refine Nat.div_lt_of_lt_mul ?_
  rw[e64];exact hl
 have h1:hi*2^s+2^s≤y*2^s:=by
  have:=Nat.mul_le_mul_right (2^s) (show hi+1≤y from hh)
  rwa [Nat.add_mul,Nat.one_mul] at this
 have hor:hi*2^s|||lo/2^(64-s)=hi*2^s+lo/2^(64-s):=by
  rw[Nat.mul_comm hi]
  exact(Nat.two_pow_add_eq_or_of_lt hb hi).symm
 have hd:lo*2^s/18446744073709551616=lo/2^(64-s):=by rw[←e64,Nat.mul_div_mul_right _ _ hp]
 have hm:=Nat.div_add_mod' (lo*2^s) 18446744073709551616
 rw[hd] at hm
 refine⟨by omega,by omega,hor,?_,by omega⟩
 rw[Nat.add_mul,Nat.mul_right_comm]
 rw[Nat.add_mul,Nat.add_assoc,hm]
end
section
def pm:Nat→Nat→Nat→Nat→Nat
 |0,_,_,m=>1%m
 |f+1,a,n,m=>if n%2=1 then pm f (a*a%m) (n/2) m*a%m else pm f (a*a%m) (n/2) m
theorem pm_eq(f:Nat):∀a n m,n<2^f→pm f a n m=a^n%m:=by
 induction f with
 |zero=>intro a n m h;have:n=0:=by simpa using h
        subst this;rfl
 |succ f ih=>
  intro a n m h
  have h2:n/2<2^f:=by rw[Nat.pow_succ] at h;omega
  have e:(a*a%m)^(n/2)%m=a^(2*(n/2))%m:=by
   rw[←Nat.pow_mod,←Nat.pow_two,←Nat.pow_mul]
  unfold pm
  rw[ih _ _ _ h2,e]
  split
  ·rename_i h1
   have hn:n=2*(n/2)+1:=by omega
   conv=>rhs;rw[hn,Nat.pow_succ]
   rw[Nat.mod_mul_mod]
  ·have hn:n=2*(n/2):=by omega
   conv=>rhs;rw[hn]
end
section
def In(n:Int):Prop:= -9223372036854775808≤n∧n≤9223372036854775807
theorem of_digit{d:Nat}(h:d<10):(UInt8.ofNat (48+d)).toNat =48+d:=by rw[UInt8.toNat_ofNat'];omega
def Ωc6(r s:Int):List UInt8:=Lib.itoa r++46::Lib.itoa s
end
section
open Go.RowKit
end
section
structure Ev where
 seq:Int
 kind:Int
 who:Int
 time:Int
 bidder:Int
 lot:Int
 n:Int
 other:Int
 name:ByteArray
 text:ByteArray
 sx:Int
 sy:Int
 prev:List UInt8
 r:Int
 s:Int
structure Ev.Ok(e:Ev):Prop where
 seq:In e.seq
 kind:In e.kind
 who:In e.who
 time:In e.time
 bidder:In e.bidder
 lot:In e.lot
 n:In e.n
 other:In e.other
 sx:In e.sx
 sy:In e.sy
 prev:e.prev.length=32
 r:In e.r
 s:In e.s
def hexC(n:Nat):UInt8:=if n<10 then UInt8.ofNat (48+n) else UInt8.ofNat (87+n)
def hexL:List UInt8→List UInt8
 |[]=>[]
 |c::l=>hexC (c.toNat/16)::hexC (c.toNat%16)::hexL l
def quoL(s:List UInt8):List UInt8:=Lib.itoa s.length++58::s
def ΩdJ:List Int→List UInt8
 |[]=>[]
 |[n]=>Lib.itoa n
 |n::m::l=>Lib.itoa n++32::ΩdJ (m::l)
def Ev.nums(e:Ev):List Int:=[e.seq,e.kind,e.who,e.time,e.bidder,e.lot,e.n,e.other,e.sx,e.sy]
def Ω6(e:Ev):List UInt8:=[101,118,101,110,116]++32::(ΩdJ e.nums++32::(hexL e.prev++32::(quoL e.name.data.toList++32::quoL e.text.data.toList)))
def ΩaJ(e:Ev):List UInt8:=ΩdJ [e.r,e.s]++32::Ω6 e
theorem ΩY(l:List UInt8):(hexL l).length =2*l.length:=by
 induction l with
 |nil=>rfl
 |cons c l ih=>simp only[hexL,ΩnD,ih];omega
theorem ΩZ{a b:ByteArray}(h:a.data.toList=b.data.toList):a=b:=by
 cases a;cases b;simp only at h;congr;exact Array.ext' h
end
section
def Ωdh:Nat→Nat→Nat→Nat
 |0,_,k=>k
 |f+1,n,k=>if n≤2*k then k else Ωdh f n (2*k)
def Ωh(n:Nat):Nat:=Ωdh 64 n 1
theorem ΩhH:∀(f n k:Nat),1≤k→k<n→n≤k*2^(f+1)→1≤Ωdh f n k∧Ωdh f n k<n∧n≤2*Ωdh f n k
 |0,n,k,h1,h2,h3=>⟨h1,h2,by simp only[Ωdh];omega⟩
 |f+1,n,k,h1,h2,h3=>by
  unfold Ωdh
  by_cases h:n≤2*k
  ·rw[ΩnV h];exact⟨h1,h2,h⟩
  ·rw[ΩnU h]
   exact ΩhH f n (2*k) (by omega) (by omega) (by
    have:k*2^(f+1+1)=2*k*2^(f+1):=by rw[Nat.pow_succ];ac_rfl
    omega)
theorem Ω3{n:Nat}(h:2≤n)(hn:n≤1000000):1≤Ωh n∧Ωh n<n∧n≤2*Ωh n:=
 ΩhH 64 n 1 (by omega) (by omega) (Ωnz hn (by decide))
theorem ΩkM:∀(f n k:Nat),k≤Ωdh f n k
 |0,_,_=>Ωnv _
 |f+1,n,k=>by
  unfold Ωdh
  by_cases h:n≤2*k
  ·rw[ΩnV h];exact Ωnv _
  ·rw[ΩnU h];exact Ωnz (by omega) (ΩkM f n (2*k))
theorem ΩhI:∀(f n m k:Nat),m≤n→Ωdh f n k<m→Ωdh f m k=Ωdh f n k
 |0,_,_,_,_,_=>rfl
 |f+1,n,m,k,h1,h2=>by
  unfold Ωdh at h2⊢
  by_cases h:n≤2*k
  ·rw[ΩnV h,ΩnV (by omega)]
  ·rw[ΩnU h] at h2⊢
   have:=ΩkM f n (2*k)
   rw[ΩnU (by omega)]
   exact ΩhI f n m (2*k) h1 h2
theorem halfN_same{n m:Nat}(h1:m≤n)(h2:Ωh n<m):Ωh m=Ωh n:=ΩhI 64 n m 1 h1 h2
abbrev Hs:=List UInt8
def ΩfD(s:List UInt8):Hs:=shaL (0::s)
def Ωbf(a b:Hs):Hs:=shaL (1::(a++b))
def Ωhi:Nat→List (List UInt8)→Hs
 |0,_=>shaL []
 |_+1,[]=>shaL []
 |_+1,[x]=>ΩfD x
 |f+1,x::y::l=>Ωbf (Ωhi f ((x::y::l).take (Ωh (l.length+2)))) (Ωhi f ((x::y::l).drop (Ωh (l.length+2))))
def ΩN(l:List (List UInt8)):Hs:=Ωhi l.length l
theorem Ωcb:∀(f:Nat) (l:List (List UInt8)),l.length≤f→l.length≤1000000→∀g,l.length≤g→Ωhi f l=Ωhi g l
 |0,l,h,_,g,_=>by
  have:l=[]:=ΩnZ (by omega)
  subst this
  cases g<;>rfl
 |f+1,[],_,_,g,_=>by cases g<;>rfl
 |f+1,[x],_,_,g,hg=>by
  cases g with
  |zero=>simp at hg
  |succ g=>rfl
 |f+1,x::y::l,h,hm,g,hg=>by
  cases g with
  |zero=>simp at hg
  |succ g=>
   have hs:=Ω3 (n:=l.length+2) (by omega) (by simpa using hm)
   simp only[ΩnD] at h hg hm
   unfold Ωhi
   rw[Ωcb f _ (by rw[ΩnB];simp;omega) (by rw[ΩnB];simp;omega) g (by rw[ΩnB];simp;omega),Ωcb f _ (by rw[Ωn4];simp;omega) (by rw[Ωn4];simp;omega) g (by rw[Ωn4];simp;omega)]
theorem Ωda{l:List (List UInt8)}(h:2≤l.length)(hm:l.length≤1000000):ΩN l=Ωbf (ΩN (l.take (Ωh l.length))) (ΩN (l.drop (Ωh l.length))):=by
 match l,h with
 |x::y::l,_=>
  have hs:=Ω3 (n:=l.length+2) (by omega) (by simpa using hm)
  simp only[ΩnD] at hm
  unfold ΩN
  rw[ΩnD,ΩnD]
  rw[show Ωhi (l.length+1+1) (x::y::l)=Ωbf (Ωhi (l.length+1) ((x::y::l).take (Ωh (l.length+2)))) (Ωhi (l.length+1) ((x::y::l).drop (Ωh (l.length+2)))) from rfl]
  rw[Ωcb (l.length+1) _ (by rw[ΩnB];simp;omega) (by rw[ΩnB];simp;omega) _ (Ωnv _),Ωcb (l.length+1) _ (by rw[Ωn4];simp;omega) (by rw[Ωn4];simp;omega) _ (Ωnv _)]
def Ωac:Nat→Nat→Nat→Nat
 |0,_,_=>0
 |f+1,i,n=>if n≤1 then 0 else if i<Ωh n then 1+Ωac f i (Ωh n) else 1+Ωac f (i-Ωh n) (n-Ωh n)
def upF:Nat→Hs→Nat→Nat→List Hs→Hs
 |0,x,_,_,_=>x
 |_+1,x,_,_,[]=>x
 |f+1,x,i,n,t::q=>if n≤1 then x else if i<Ωh n then Ωbf (upF f x i (Ωh n) q) t else Ωbf t (upF f x (i-Ωh n) (n-Ωh n) q)
def Ωch:Nat→List (List UInt8)→Nat→List Hs
 |0,_,_=>[]
 |f+1,l,i=>if l.length≤1 then [] else if i<Ωh l.length then ΩN (l.drop (Ωh l.length))::Ωch f (l.take (Ωh l.length)) i else ΩN (l.take (Ωh l.length))::Ωch f (l.drop (Ωh l.length)) (i-Ωh l.length)
theorem Ωhz:∀(f:Nat) (l:List (List UInt8)) (i:Nat) (x:List UInt8),l.length≤f→l.length≤1000000→l[i]? =some x→(Ωch f l i).length =Ωac f i l.length∧upF f (ΩfD x) i l.length (Ωch f l i)=ΩN l
 |0,l,i,x,h,_,hx=>by
  have:l=[]:=ΩnZ (by omega)
  subst this
  simp at hx
 |f+1,l,i,x,h,hm,hx=>by
  have hi:i<l.length:=(Ωnx.1 hx).1
  by_cases h1:l.length≤1
  ·unfold Ωch Ωac
   rw[ΩnV h1,ΩnV h1]
   refine⟨rfl,?_⟩
   match l,h1,hx with
   |[y],_,hx=>
    have:i=0:=by simp at hi;omega
    subst this
    simp at hx
    subst hx
    rfl
  ·have hs:=Ω3 (n:=l.length) (by omega) hm
   unfold Ωch Ωac
   rw[ΩnU h1,ΩnU h1,Ωda (by omega) hm]
   by_cases hk:i<Ωh l.length
   ·rw[ΩnV hk,ΩnV hk]
    have hl:(l.take (Ωh l.length)).length =Ωh l.length:=by rw[ΩnB];omega
    obtain⟨r1,r2⟩:=Ωhz f (l.take (Ωh l.length)) i x (by omega) (by omega) (by rw[ΩoC,ΩnV hk];exact hx)
    rw[hl] at r1 r2
    refine⟨by rw[ΩnD,r1];omega,?_⟩
    unfold upF
    rw[ΩnU h1,ΩnV hk,r2]
   ·rw[ΩnU hk,ΩnU hk]
    have hl:(l.drop (Ωh l.length)).length =l.length-Ωh l.length:=by rw[Ωn4]
    obtain⟨r1,r2⟩:=Ωhz f (l.drop (Ωh l.length)) (i-Ωh l.length) x (by omega) (by omega) (by rw[List.getElem?_drop,show Ωh l.length+(i-Ωh l.length)=i by omega];exact hx)
    rw[hl] at r1 r2
    refine⟨by rw[ΩnD,r1];omega,?_⟩
    unfold upF
    rw[ΩnU h1,ΩnU hk,r2]
def ΩaP:Nat→Nat→Nat→Bool→Nat
 |0,_,_,_=>0
 |f+1,m,n,whole=>if m=n then(if whole then 0 else 1) else if m≤Ωh n then 1+ΩaP f m (Ωh n) whole else 1+ΩaP f (m-Ωh n) (n-Ωh n) false
def Ωcj:Nat→List (List UInt8)→Nat→Bool→List Hs
 |0,_,_,_=>[]
 |f+1,l,m,whole=>if m=l.length then(if whole then [] else [ΩN l]) else if m≤Ωh l.length then ΩN (l.drop (Ωh l.length))::Ωcj f (l.take (Ωh l.length)) m whole else ΩN (l.take (Ωh l.length))::Ωcj f (l.drop (Ωh l.length)) (m-Ωh l.length) false
def ΩaG:Nat→Nat→Nat→Bool→Hs→List Hs→Hs×Hs
 |0,_,_,_,o,_=>(o,o)
 |f+1,m,n,whole,o,q=>
  if m=n then(if whole then(o,o) else(q.headD [],q.headD []))
  else if m≤Ωh n then((ΩaG f m (Ωh n) whole o q.tail).1,Ωbf (ΩaG f m (Ωh n) whole o q.tail).2 (q.headD []))
  else(Ωbf (q.headD []) (ΩaG f (m-Ωh n) (n-Ωh n) false o q.tail).1,Ωbf (q.headD []) (ΩaG f (m-Ωh n) (n-Ωh n) false o q.tail).2)
theorem Ωff:∀(f:Nat) (l:List (List UInt8)) (m:Nat) (whole:Bool) (o:Hs),l.length≤f→l.length≤1000000→1≤m→m≤l.length→(whole=true→o=ΩN (l.take m))→(Ωcj f l m whole).length =ΩaP f m l.length whole∧ΩaG f m l.length whole o (Ωcj f l m whole)=(ΩN (l.take m),ΩN l)
 |0,l,m,whole,o,h,_,h1,h2,_=>by omega
 |f+1,l,m,whole,o,h,hm,h1,h2,ho=>by
  unfold Ωcj ΩaP ΩaG
  by_cases he:m=l.length
  ·rw[ΩnV he,ΩnV he,ΩnV he]
   have ht:l.take m=l:=by rw[he];exact Ωok
   cases whole with
   |true=>exact⟨rfl,by rw[ho rfl,ht];rfl⟩
   |false=>exact⟨rfl,by rw[ht];rfl⟩
  ·rw[ΩnU he,ΩnU he,ΩnU he]
   have hs:=Ω3 (n:=l.length) (by omega) hm
   have hl1:(l.take (Ωh l.length)).length =Ωh l.length:=by rw[ΩnB];omega
   have hl2:(l.drop (Ωh l.length)).length =l.length-Ωh l.length:=by rw[Ωn4]
   by_cases hk:m≤Ωh l.length
   ·rw[ΩnV hk,ΩnV hk,ΩnV hk]
    have htt:(l.take (Ωh l.length)).take m=l.take m:=by rw[List.take_take,Nat.min_eq_left hk]
    obtain⟨r1,r2⟩:=Ωff f (l.take (Ωh l.length)) m whole o (by omega) (by omega) h1 (by omega) (fun e=>by rw[htt];exact ho e)
    rw[hl1] at r1 r2
    rw[htt] at r2
    refine⟨by rw[ΩnD,r1];omega,?_⟩
    simp only[List.tail_cons,List.headD_cons,r2]
    rw[Ωda (l:=l) (by omega) hm]
   ·rw[ΩnU hk,ΩnU hk,ΩnU hk]
    obtain⟨r1,r2⟩:=Ωff f (l.drop (Ωh l.length)) (m-Ωh l.length) false o (by omega) (by omega) (by omega) (by omega) (fun e=>by cases e)
    rw[hl2] at r1 r2
    refine⟨by rw[ΩnD,r1];omega,?_⟩
    simp only[List.tail_cons,List.headD_cons,r2]
    have e1:ΩN (l.take m)=Ωbf (ΩN (l.take (Ωh l.length))) (ΩN ((l.drop (Ωh l.length)).take (m-Ωh l.length))):=by
     have hlm:(l.take m).length =m:=by rw[ΩnB];omega
     have hhm:Ωh m=Ωh l.length:=halfN_same (by omega) (by omega)
     rw[Ωda (l:=l.take m) (by omega) (by omega),hlm,hhm,List.take_take,Nat.min_eq_left (by omega)]
     congr 2
     rw[List.drop_take]
    rw[e1,Ωda (l:=l) (by omega) hm]
def wayF:Nat→Nat→Nat→List Bool
 |0,_,_=>[]
 |f+1,i,n=>if n≤1 then [] else if i<Ωh n then false::wayF f i (Ωh n) else true::wayF f (i-Ωh n) (n-Ωh n)
def Ωlg(s:Bool)(h x:Hs):Hs:=if s then Ωbf h x else Ωbf x h
theorem Ωf5:∀(f i n:Nat),(wayF f i n).length =Ωac f i n
 |0,_,_=>rfl
 |f+1,i,n=>by
  unfold wayF Ωac
  by_cases h:n≤1
  ·rw[ΩnV h,ΩnV h];rfl
  ·rw[ΩnU h,ΩnU h]
   by_cases hk:i<Ωh n
   ·rw[ΩnV hk,ΩnV hk,ΩnD,Ωf5 f];omega
   ·rw[ΩnU hk,ΩnU hk,ΩnD,Ωf5 f];omega
theorem ΩlA:∀(f:Nat) (x:Hs) (i n:Nat) (q:List Hs),q.length=Ωac f i n→upF f x i n q=((wayF f i n).zip q).foldr (fun sh y=>Ωlg sh.1 sh.2 y) x
 |0,x,i,n,q,h=>by
  have:q=[]:=ΩnZ h
  subst this;rfl
 |f+1,x,i,n,q,h=>by
  unfold Ωac at h
  unfold wayF
  by_cases h1:n≤1
  ·rw[ΩnV h1] at h
   have:q=[]:=ΩnZ h
   subst this
   rw[ΩnV h1];rfl
  ·rw[ΩnU h1] at h⊢
   by_cases hk:i<Ωh n
   ·rw[ΩnV hk] at h⊢
    match q,h with
    |t::q,h=>
     unfold upF
     rw[ΩnU h1,ΩnV hk,ΩlA f x i (Ωh n) q (by simp at h;omega)]
     rfl
    |[],h=>simp at h;omega
   ·rw[ΩnU hk] at h⊢
    match q,h with
    |t::q,h=>
     unfold upF
     rw[ΩnU h1,ΩnU hk,ΩlA f x (i-Ωh n) (n-Ωh n) q (by simp at h;omega)]
     rfl
    |[],h=>simp at h;omega
theorem Ωln{α β:Type}:∀(a:List α) (b:List β),a.length=b.length→(a.zip b).reverse =a.reverse.zip b.reverse
 |[],[],_=>rfl
 |x::a,y::b,h=>by
  have h' :a.length=b.length:=by simpa using h
  rw[List.zip_cons_cons,List.reverse_cons,List.reverse_cons,List.reverse_cons,Ωln a b h',List.zip_append (by simpa using h')]
  rfl
theorem up_fold{f i n:Nat}{x:Hs}{p:List Hs}(h:p.length=Ωac f i n):upF f x i n p.reverse=((wayF f i n).reverse.zip p).foldl (fun y sh=>Ωlg sh.1 sh.2 y) x:=by
 rw[ΩlA f x i n p.reverse (by simpa using h),←List.foldl_reverse]
 congr 1
 have hl:(wayF f i n).length =p.reverse.length:=by rw[Ωf5,Ωog,h]
 rw[Ωln _ _ hl,List.reverse_reverse]
def ΩaK(z:Hs):List Hs×Bool→Hs×List Hs×Bool
 |(h::r,true)=>(h,r,true)
 |(r,_)=>(z,r,false)
def ΩM(z:Hs):Nat→Nat→Nat→Bool→Hs→List Hs×Bool→(Hs×Hs)×List Hs×Bool
 |0,_,_,_,o,s=>((o,o),s)
 |f+1,m,n,whole,o,s=>
  if m=n then(if whole then((o,o),s) else(((ΩaK z s).1,(ΩaK z s).1),(ΩaK z s).2))
  else if m≤Ωh n then
   (((ΩM z f m (Ωh n) whole o s).1.1,Ωbf (ΩM z f m (Ωh n) whole o s).1.2 (ΩaK z (ΩM z f m (Ωh n) whole o s).2).1),(ΩaK z (ΩM z f m (Ωh n) whole o s).2).2)
  else
   ((Ωbf (ΩaK z (ΩM z f (m-Ωh n) (n-Ωh n) false o s).2).1 (ΩM z f (m-Ωh n) (n-Ωh n) false o s).1.1,Ωbf (ΩaK z (ΩM z f (m-Ωh n) (n-Ωh n) false o s).2).1 (ΩM z f (m-Ωh n) (n-Ωh n) false o s).1.2),(ΩaK z (ΩM z f (m-Ωh n) (n-Ωh n) false o s).2).2)
theorem Ωe2(z:Hs)(r:List Hs):ΩaK z (r,false)=(z,r,false):=by cases r<;>rfl
theorem ΩcF(z:Hs):∀(f m n:Nat) (whole:Bool) (o:Hs) (r:List Hs),ΩaP f m n whole≤r.length→ΩM z f m n whole o (r,true)=(ΩaG f m n whole o (r.take (ΩaP f m n whole)).reverse,r.drop (ΩaP f m n whole),true)
 |0,_,_,_,_,r,_=>by simp[ΩM,ΩaG,ΩaP]
 |f+1,m,n,whole,o,r,h=>by
  unfold ΩM ΩaG ΩaP
  unfold ΩaP at h
  by_cases he:m=n
  ·rw[ΩnV he] at h
   rw[ΩnV he,ΩnV he,ΩnV he]
   cases whole with
   |true=>simp
   |false=>
    match r,h with
    |t::r,_=>simp[ΩaK]
    |[],h=>simp at h
  ·rw[ΩnU he] at h
   rw[ΩnU he,ΩnU he,ΩnU he]
   have hsplit:∀c,1+c≤r.length→∃t,r.drop c=t::r.drop (1+c)∧(r.take (1+c)).reverse =t::(r.take c).reverse :=fun c hc=>by
    refine⟨r[c]'(by omega),?_,?_⟩
    ·rw[Ωn7 (by omega:c<r.length),Nat.add_comm]
    ·rw[Nat.add_comm,ΩnO,Ωnu (by omega:c<r.length)]
     simp
   by_cases hk:m≤Ωh n
   ·rw[ΩnV hk] at h
    rw[ΩnV hk,ΩnV hk,ΩnV hk]
    have ih:=ΩcF z f m (Ωh n) whole o r (by omega)
    obtain⟨t,e1,e2⟩:=hsplit _ h
    rw[ih,e2]
    simp only[e1,ΩaK,List.headD_cons,List.tail_cons]
   ·rw[ΩnU hk] at h
    rw[ΩnU hk,ΩnU hk,ΩnU hk]
    have ih:=ΩcF z f (m-Ωh n) (n-Ωh n) false o r (by omega)
    obtain⟨t,e1,e2⟩:=hsplit _ h
    rw[ih,e2]
    simp only[e1,ΩaK,List.headD_cons,List.tail_cons]
theorem Ωho(z:Hs):∀(f m n:Nat) (whole:Bool) (o:Hs) (r:List Hs),r.length<ΩaP f m n whole→(ΩM z f m n whole o (r,true)).2.2 =false
 |0,_,_,_,_,r,h=>by simp[ΩaP] at h
 |f+1,m,n,whole,o,r,h=>by
  unfold ΩM
  unfold ΩaP at h
  by_cases he:m=n
  ·rw[ΩnV he] at h⊢
   cases whole with
   |true=>simp at h
   |false=>
    have:r=[]:=by simpa using h
    subst this
    rfl
  ·rw[ΩnU he] at h⊢
   have hone:∀m' n' w',r.length<1+ΩaP f m' n' w'→(ΩaK z (ΩM z f m' n' w' o (r,true)).2).2.2 =false:=fun m' n' w' hc=>by
    by_cases hlt:r.length<ΩaP f m' n' w'
    ·have ih:=Ωho z f m' n' w' o r hlt
     have e:(ΩM z f m' n' w' o (r,true)).2 =((ΩM z f m' n' w' o (r,true)).2.1,false):=by rw[←ih]
     rw[e,Ωe2]
    ·have ih:=ΩcF z f m' n' w' o r (by omega)
     have hd:r.drop (ΩaP f m' n' w')=[]:=List.drop_eq_nil_of_le (by omega)
     rw[ih,hd]
     rfl
   by_cases hk:m≤Ωh n
   ·rw[ΩnV hk] at h⊢;exact hone _ _ _ h
   ·rw[ΩnU hk] at h⊢;exact hone _ _ _ h
end
end Go.Proofs.YtgalfohobgjelaaGreatDoor
