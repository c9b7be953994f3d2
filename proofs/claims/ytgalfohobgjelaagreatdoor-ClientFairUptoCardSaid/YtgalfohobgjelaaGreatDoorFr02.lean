/- What is proved here:several parts. small laws on decimal numerals and on strings that calls return;no function of the program. No conditions. · plain arithmetic behind the division of two words by one;no function of the program. No conditions. · the order Q of the group is a prime,and what follows for powers modulo P;no program in sight. No conditions. · decimal texts of numbers and of pairs in plain Lean:they are read back;no program in sight. No conditions. · numbers that wrap around,in plain Lean. No conditions. · events and their texts and codes in plain Lean:a code tells its event,a text tells all but the signature;no program in sight. No conditions. · trees of hashes over lists of texts in plain Lean:roots,paths,growths and how they are checked;no program in sight. No conditions. -/
import Derived.Test.YtgalfohobgjelaaGreatDoorFr01
import Derived.Test.YtgalfohobgjelaaGreatDoorRows
import Derived.Lib.ItoaNum
import Derived.Laws.Bits64b
import Derived.Shelf.Bits.Mul64
import Derived.Lib.BitFns
import Derived.Lib.ParseIntB
import Derived.Lib.IndexMore
import Derived.Lib.IndexLaws
namespace Go.Proofs.YtgalfohobgjelaaGreatDoor
open Go.RowKit
def RetStr (l:List UInt8) (w:World) (e:Ending) (w':World):Prop:=∃t:ByteArray,e= .returned (.string t)∧t.data.toList=l∧Only NoneOf w w'
theorem RetStr.mk {l:List UInt8} {w w':World} {t:ByteArray} (h:t.data.toList=l) (ho:Only NoneOf w w'):RetStr l w (.returned (.string t)) w':=⟨t,rfl,h,ho⟩
theorem size_list (t:ByteArray):t.size=t.data.toList.length:=by simp
theorem dec_len (k:Nat):∀u,u<10 ^ (k+1)→(Lib.decDigits u).length≤k+1:=by
 induction k with
 |zero=>intro u h;rw [Lib.decDigits,dif_pos (by simpa using h)];simp
 |succ k ih=>
  intro u h
  rw [Lib.decDigits]
  split
  ·simp
  ·rw [List.length_append]
   have:=ih (u / 10) (by rw [Nat.pow_succ] at h;omega)
   simp;omega
theorem dec_small {u:Nat} (h:u<10):Lib.decDigits u= [UInt8.ofNat (48+u)]:=by rw [Lib.decDigits,dif_pos h]
theorem dec_big {u:Nat} (h:¬u<10):Lib.decDigits u=Lib.decDigits (u / 10) ++ [UInt8.ofNat (48+u % 10)]:=by
 conv=>lhs;rw [Lib.decDigits,dif_neg h]
theorem dec_len20 {u:Nat} (h:u<18446744073709551616):(Lib.decDigits u).length≤20:=dec_len 19 u (by omega)
theorem itoa_len {n:Int} (h0: -9223372036854775808≤n) (h1:n≤9223372036854775807):(Lib.itoa n).length≤21:=by
 unfold Lib.itoa
 split
 ·have:=dec_len20 (u:=n.natAbs) (by omega);simp;omega
 ·have:=dec_len20 (u:=n.toNat) (by omega);omega
end Go.Proofs.YtgalfohobgjelaaGreatDoor
namespace Go.Proofs.YtgalfohobgjelaaGreatDoor
open Go.RowKit
theorem bitLen_both (n:Nat):∀y,0<y→y<2 ^ n→n≤64→y<2 ^ Lib.bitLen y∧2 ^ Lib.bitLen y≤2 * y:=by
 induction n with
 |zero=>intro y h0 h1 _;simp at h1;omega
 |succ n ih=>
  intro y h0 h1 hn
  have h64:y<2 ^ 64:=Nat.lt_of_lt_of_le h1 (Nat.pow_le_pow_right (by omega) hn)
  rw [Lib.bitLen_half y (by omega) h64]
  by_cases h2:y / 2=0
  ·obtain rfl:y=1:=by omega
   decide+kernel
  ·have:=ih (y / 2) (by omega) (by rw [Nat.pow_succ] at h1;omega) (by omega)
   rw [Nat.add_comm,Nat.pow_succ]
   omega
theorem norm_of (y:Nat) (h0:0<y) (hy:y<18446744073709551616):∃s:Nat,(64 - (Lib.bitLen y:Int):Int)=(s:Int)∧s≤63∧y * 2 ^ s<18446744073709551616∧9223372036854775808≤y * 2 ^ s:=by
 obtain⟨h1,h2⟩:=bitLen_both 64 y h0 (by omega) (by omega)
 have h3:Lib.bitLen y≤64:=Lib.bitLen_le y 64 (by omega) (by omega)
 have h4:Lib.bitLen y≠0:=by intro e;rw [e] at h1;simp at h1;omega
 refine⟨64 - Lib.bitLen y,by omega,by omega,?_,?_⟩
 ·have e:2 ^ Lib.bitLen y * 2 ^ (64 - Lib.bitLen y)=18446744073709551616:=by rw [←Nat.pow_add,show Lib.bitLen y+ (64 - Lib.bitLen y)=64 by omega]
  rw [←e]
  exact Nat.mul_lt_mul_of_pos_right h1 (Nat.two_pow_pos _)
 ·have e:2 ^ Lib.bitLen y * 2 ^ (64 - Lib.bitLen y)=18446744073709551616:=by rw [←Nat.pow_add,show Lib.bitLen y+ (64 - Lib.bitLen y)=64 by omega]
  have:=Nat.mul_le_mul_right (2 ^ (64 - Lib.bitLen y)) h2
  rw [e,Nat.mul_assoc] at this
  omega
structure Trial (A B D U:Nat) (q r:Nat):Prop where
 sum:q * A+r=U
 least:(U * 4294967296+D) / (A * 4294967296+B)≤q
 most:q≤4294967297
section
variable {A B D U q r:Nat}
theorem digit_lt (hU:U<A * 4294967296+B) (hD:D<4294967296):(U * 4294967296+D) / (A * 4294967296+B) <4294967296:=by
 refine Nat.div_lt_of_lt_mul ?_
 have:=Nat.mul_le_mul_right 4294967296 (show U+1≤A * 4294967296+B from hU)
 omega
theorem Trial.start (hA:2147483648≤A) (hB:B<4294967296) (hD:D<4294967296) (hU:U<A * 4294967296+B):Trial A B D U (U / A) (U % A):=by
 have h1:=Nat.div_add_mod' U A
 refine⟨h1,?_,?_⟩
 ·refine(Nat.le_div_iff_mul_le (by omega)).2 ?_
  obtain⟨T,eT⟩:∃T,T=(U * 4294967296+D) / (A * 4294967296+B):=⟨_,rfl⟩
  rw [←eT]
  have h2:T * (A * 4294967296+B)≤U * 4294967296+D:=by rw [eT];exact Nat.div_mul_le_self _ _
  rw [Nat.mul_add,←Nat.mul_assoc] at h2
  obtain⟨p,ep⟩:∃p,p=T * A:=⟨_,rfl⟩
  obtain⟨p',ep'⟩:∃p',p'=T * B:=⟨_,rfl⟩
  rw [←ep,←ep'] at h2
  rw [←ep]
  omega
 ·have h3:U / A≤(A * 4294967296+4294967296) / A:=Nat.div_le_div_right (by omega)
  have h4:(A * 4294967296+4294967296) / A=4294967296+4294967296 / A:=by rw [Nat.mul_add_div (by omega)]
  have h5:4294967296 / A≤4294967296 / 2147483648:=Nat.div_le_div_left hA (by omega)
  have h6:U / A<4294967298:=by
   refine(Nat.div_lt_iff_lt_mul (by omega)).2 ?_
   omega
  omega
theorem Trial.less (h:Trial A B D U q r) (hD:D<4294967296) (hU:U<A * 4294967296+B) (ht:4294967296≤q∨4294967296 * r+D<q * B):1≤q∧Trial A B D U (q - 1) (r+A):=by
 have hlt:=digit_lt hU hD
 obtain⟨T,eT⟩:∃T,T=(U * 4294967296+D) / (A * 4294967296+B):=⟨_,rfl⟩
 have h2:T * (A * 4294967296+B)≤U * 4294967296+D:=by rw [eT];exact Nat.div_mul_le_self _ _
 have hl:=h.least
 have hs:=h.sum
 have hm:=h.most
 rw [←eT] at hlt hl
 have hne:T≠q:=by
  rintro rfl
  rcases ht with ht|ht
  ·omega
  ·rw [Nat.mul_add,←Nat.mul_assoc] at h2
   obtain⟨p,ep⟩:∃p,p=T * A:=⟨_,rfl⟩
   obtain⟨p',ep'⟩:∃p',p'=T * B:=⟨_,rfl⟩
   rw [←ep,←ep'] at h2
   rw [←ep] at hs
   rw [←ep'] at ht
   omega
 refine⟨by omega,?_,by rw [←eT];omega,by omega⟩
 obtain⟨j,rfl⟩:∃j,q=j+1:=⟨q - 1,by omega⟩
 rw [Nat.add_mul] at hs
 simp only [Nat.add_sub_cancel]
 omega
theorem Trial.right (h:Trial A B D U q r) (hY:0<A * 4294967296+B) (ht:q * B≤4294967296 * r+D):q=(U * 4294967296+D) / (A * 4294967296+B):=by
 refine Nat.le_antisymm ?_ h.least
 refine(Nat.le_div_iff_mul_le hY).2 ?_
 have hs:=h.sum
 rw [Nat.mul_add,←Nat.mul_assoc]
 obtain⟨p,ep⟩:∃p,p=q * A:=⟨_,rfl⟩
 rw [←ep] at hs⊢
 omega
theorem Trial.out (h:Trial A B D U q r) (hY:0<A * 4294967296+B) (hB:B<4294967296) (hq:q≤4294967296) (hr:4294967296≤r):q=(U * 4294967296+D) / (A * 4294967296+B):=by
 refine h.right hY ?_
 have:=Nat.mul_le_mul hq (show B≤4294967295 by omega)
 omega
end
open Go.Proofs.Mul64 in
theorem rest_of {U D T Y:Nat} (hT:T=(U * 4294967296+D) / Y) (hY:0<Y) (hy:Y<18446744073709551616):
  IntKind.u64.wrap ((((U * 4294967296+D) % 18446744073709551616:Nat):Int) - (((T * Y) % 18446744073709551616:Nat):Int))=(((U * 4294967296+D) % Y:Nat):Int):=by
 have h1:=Nat.div_add_mod' (U * 4294967296+D) Y
 have h2:=Nat.mod_lt (U * 4294967296+D) hY
 rw [←hT] at h1
 obtain⟨p,ep⟩:∃p,p=T * Y:=⟨_,rfl⟩
 obtain⟨m,em⟩:∃m,m=(U * 4294967296+D) % Y:=⟨_,rfl⟩
 rw [←ep,←em] at h1
 rw [←em] at h2
 rw [←ep,←em,IntKind.wrap_u64]
 omega
theorem two_digits {U D1 D0 Y:Nat} (hY:0<Y):(U * 18446744073709551616+ (D1 * 4294967296+D0)) / Y=(U * 4294967296+D1) / Y * 4294967296+ ((U * 4294967296+D1) % Y * 4294967296+D0) / Y∧
  (U * 18446744073709551616+ (D1 * 4294967296+D0)) % Y=((U * 4294967296+D1) % Y * 4294967296+D0) % Y:=by
 have h1:=Nat.div_add_mod' (U * 4294967296+D1) Y
 obtain⟨T,eT⟩:∃T,T=(U * 4294967296+D1) / Y:=⟨_,rfl⟩
 obtain⟨m,em⟩:∃m,m=(U * 4294967296+D1) % Y:=⟨_,rfl⟩
 rw [←eT,←em] at h1⊢
 have e:U * 18446744073709551616+ (D1 * 4294967296+D0)=(m * 4294967296+D0) + (T * 4294967296) * Y:=by
  rw [Nat.mul_right_comm]
  obtain⟨p,ep⟩:∃p,p=T * Y:=⟨_,rfl⟩
  rw [←ep] at h1⊢
  omega
 rw [e,Nat.add_mul_div_right _ _ hY,Nat.add_mul_mod_self_right]
 exact⟨by omega,rfl⟩
theorem shifted {hi lo y s:Nat} (hh:hi<y) (hl:lo<18446744073709551616) (hs:s≤63) (hy:y * 2 ^ s<18446744073709551616):
  hi * 2 ^ s<18446744073709551616∧lo / 2 ^ (64 - s) <18446744073709551616∧hi * 2 ^ s|||lo / 2 ^ (64 - s)=hi * 2 ^ s+lo / 2 ^ (64 - s)∧
   (hi * 18446744073709551616+lo) * 2 ^ s=(hi * 2 ^ s+lo / 2 ^ (64 - s)) * 18446744073709551616+lo * 2 ^ s % 18446744073709551616∧hi * 2 ^ s+lo / 2 ^ (64 - s) <y * 2 ^ s:=by
 have hp:=Nat.two_pow_pos s
 have e64:2 ^ (64 - s) * 2 ^ s=18446744073709551616:=by rw [←Nat.pow_add,show 64 - s+s=64 by omega]
 have hb:lo / 2 ^ (64 - s) <2 ^ s:=by
  refine Nat.div_lt_of_lt_mul ?_
  rw [e64];exact hl
 have h1:hi * 2 ^ s+2 ^ s≤y * 2 ^ s:=by
  have:=Nat.mul_le_mul_right (2 ^ s) (show hi+1≤y from hh)
  rwa [Nat.add_mul,Nat.one_mul] at this
 have hor:hi * 2 ^ s|||lo / 2 ^ (64 - s)=hi * 2 ^ s+lo / 2 ^ (64 - s):=by
  rw [Nat.mul_comm hi]
  exact(Nat.two_pow_add_eq_or_of_lt hb hi).symm
 have hd:lo * 2 ^ s / 18446744073709551616=lo / 2 ^ (64 - s):=by rw [←e64,Nat.mul_div_mul_right _ _ hp]
 have hm:=Nat.div_add_mod' (lo * 2 ^ s) 18446744073709551616
 rw [hd] at hm
 refine⟨by omega,by omega,hor,?_,by omega⟩
 rw [Nat.add_mul,Nat.mul_right_comm]
 rw [Nat.add_mul,Nat.add_assoc,hm]
end Go.Proofs.YtgalfohobgjelaaGreatDoor
namespace Go.Proofs.YtgalfohobgjelaaGreatDoor
def pm:Nat→Nat→Nat→Nat→Nat
 |0,_,_,m=>1 % m
 |f+1,a,n,m=>if n % 2=1 then pm f (a * a % m) (n / 2) m * a % m else pm f (a * a % m) (n / 2) m
theorem pm_eq (f:Nat):∀a n m,n<2 ^ f→pm f a n m=a ^ n % m:=by
 induction f with
 |zero=>intro a n m h;have:n=0:=by simpa using h
        subst this;rfl
 |succ f ih=>
  intro a n m h
  have h2:n / 2<2 ^ f:=by rw [Nat.pow_succ] at h;omega
  have e:(a * a % m) ^ (n / 2) % m=a ^ (2 * (n / 2)) % m:=by
   rw [←Nat.pow_mod,←Nat.pow_two,←Nat.pow_mul]
  unfold pm
  rw [ih _ _ _ h2,e]
  split
  ·rename_i h1
   have hn:n=2 * (n / 2) +1:=by omega
   conv=>rhs;rw [hn,Nat.pow_succ]
   rw [Nat.mod_mul_mod]
  ·have hn:n=2 * (n / 2):=by omega
   conv=>rhs;rw [hn]
end Go.Proofs.YtgalfohobgjelaaGreatDoor
namespace Go.Proofs.YtgalfohobgjelaaGreatDoor
def In (n:Int):Prop:= -9223372036854775808≤n∧n≤9223372036854775807
theorem of_digit {d:Nat} (h:d<10):(UInt8.ofNat (48+d)).toNat=48+d:=by rw [UInt8.toNat_ofNat'];omega
def textOf (r s:Int):List UInt8:=Lib.itoa r++46::Lib.itoa s
end Go.Proofs.YtgalfohobgjelaaGreatDoor
namespace Go.Proofs.YtgalfohobgjelaaGreatDoor
open Go.RowKit
end Go.Proofs.YtgalfohobgjelaaGreatDoor
namespace Go.Proofs.YtgalfohobgjelaaGreatDoor
structure Ev where
 seq:Int
 kind:Int
 who:Int
 time:Int
 bidder:Int
 lot:Int
 n:Int
 other:Int
 name:ByteArray
 text:ByteArray
 sx:Int
 sy:Int
 prev:List UInt8
 r:Int
 s:Int
structure Ev.Ok (e:Ev):Prop where
 seq:In e.seq
 kind:In e.kind
 who:In e.who
 time:In e.time
 bidder:In e.bidder
 lot:In e.lot
 n:In e.n
 other:In e.other
 sx:In e.sx
 sy:In e.sy
 prev:e.prev.length=32
 r:In e.r
 s:In e.s
def hexC (n:Nat):UInt8:=if n<10 then UInt8.ofNat (48+n) else UInt8.ofNat (87+n)
def hexL:List UInt8→List UInt8
 | []=> []
 |c::l=>hexC (c.toNat / 16)::hexC (c.toNat % 16)::hexL l
def quoL (s:List UInt8):List UInt8:=Lib.itoa s.length++58::s
def numsL:List Int→List UInt8
 | []=> []
 | [n]=>Lib.itoa n
 |n::m::l=>Lib.itoa n++32::numsL (m::l)
def Ev.nums (e:Ev):List Int:= [e.seq,e.kind,e.who,e.time,e.bidder,e.lot,e.n,e.other,e.sx,e.sy]
def evText (e:Ev):List UInt8:= [101,118,101,110,116] ++32::(numsL e.nums++32::(hexL e.prev++32::(quoL e.name.data.toList++32::quoL e.text.data.toList)))
def evCode (e:Ev):List UInt8:=numsL [e.r,e.s] ++32::evText e
theorem hexL_len (l:List UInt8):(hexL l).length=2 * l.length:=by
 induction l with
 |nil=>rfl
 |cons c l ih=>simp only [hexL,List.length_cons,ih];omega
theorem bytes_ext {a b:ByteArray} (h:a.data.toList=b.data.toList):a=b:=by
 cases a;cases b;simp only at h;congr;exact Array.ext' h
end Go.Proofs.YtgalfohobgjelaaGreatDoor
namespace Go.Proofs.YtgalfohobgjelaaGreatDoor
def halfF:Nat→Nat→Nat→Nat
 |0,_,k=>k
 |f+1,n,k=>if n≤2 * k then k else halfF f n (2 * k)
def halfN (n:Nat):Nat:=halfF 64 n 1
theorem halfF_spec:∀(f n k:Nat),1≤k→k<n→n≤k * 2 ^ (f+1)→1≤halfF f n k∧halfF f n k<n∧n≤2 * halfF f n k
 |0,n,k,h1,h2,h3=> ⟨h1,h2,by simp only [halfF];omega⟩
 |f+1,n,k,h1,h2,h3=>by
  unfold halfF
  by_cases h:n≤2 * k
  ·rw [if_pos h];exact⟨h1,h2,h⟩
  ·rw [if_neg h]
   exact halfF_spec f n (2 * k) (by omega) (by omega) (by
    have:k * 2 ^ (f+1+1)=2 * k * 2 ^ (f+1):=by rw [Nat.pow_succ];ac_rfl
    omega)
theorem halfN_spec {n:Nat} (h:2≤n) (hn:n≤1000000):1≤halfN n∧halfN n<n∧n≤2 * halfN n:=
 halfF_spec 64 n 1 (by omega) (by omega) (Nat.le_trans hn (by decide))
theorem halfF_ge:∀(f n k:Nat),k≤halfF f n k
 |0,_,_=>Nat.le_refl _
 |f+1,n,k=>by
  unfold halfF
  by_cases h:n≤2 * k
  ·rw [if_pos h];exact Nat.le_refl _
  ·rw [if_neg h];exact Nat.le_trans (by omega) (halfF_ge f n (2 * k))
theorem halfF_same:∀(f n m k:Nat),m≤n→halfF f n k<m→halfF f m k=halfF f n k
 |0,_,_,_,_,_=>rfl
 |f+1,n,m,k,h1,h2=>by
  unfold halfF at h2⊢
  by_cases h:n≤2 * k
  ·rw [if_pos h,if_pos (by omega)]
  ·rw [if_neg h] at h2⊢
   have:=halfF_ge f n (2 * k)
   rw [if_neg (by omega)]
   exact halfF_same f n m (2 * k) h1 h2
theorem halfN_same {n m:Nat} (h1:m≤n) (h2:halfN n<m):halfN m=halfN n:=halfF_same 64 n m 1 h1 h2
abbrev Hs:=List UInt8
def leafL (s:List UInt8):Hs:=shaL (0::s)
def nodeL (a b:Hs):Hs:=shaL (1::(a++b))
def rootF:Nat→List (List UInt8)→Hs
 |0,_=>shaL []
 |_+1, []=>shaL []
 |_+1, [x]=>leafL x
 |f+1,x::y::l=>nodeL (rootF f ((x::y::l).take (halfN (l.length+2)))) (rootF f ((x::y::l).drop (halfN (l.length+2))))
def rootL (l:List (List UInt8)):Hs:=rootF l.length l
theorem rootF_enough:∀(f:Nat) (l:List (List UInt8)),l.length≤f→l.length≤1000000→∀g,l.length≤g→rootF f l=rootF g l
 |0,l,h,_,g,_=>by
  have:l= []:=List.eq_nil_of_length_eq_zero (by omega)
  subst this
  cases g<;>rfl
 |f+1, [],_,_,g,_=>by cases g<;>rfl
 |f+1, [x],_,_,g,hg=>by
  cases g with
  |zero=>simp at hg
  |succ g=>rfl
 |f+1,x::y::l,h,hm,g,hg=>by
  cases g with
  |zero=>simp at hg
  |succ g=>
   have hs:=halfN_spec (n:=l.length+2) (by omega) (by simpa using hm)
   simp only [List.length_cons] at h hg hm
   unfold rootF
   rw [rootF_enough f _ (by rw [List.length_take];simp;omega) (by rw [List.length_take];simp;omega) g (by rw [List.length_take];simp;omega),rootF_enough f _ (by rw [List.length_drop];simp;omega) (by rw [List.length_drop];simp;omega) g (by rw [List.length_drop];simp;omega)]
theorem rootL_two {l:List (List UInt8)} (h:2≤l.length) (hm:l.length≤1000000):rootL l=nodeL (rootL (l.take (halfN l.length))) (rootL (l.drop (halfN l.length))):=by
 match l,h with
 |x::y::l,_=>
  have hs:=halfN_spec (n:=l.length+2) (by omega) (by simpa using hm)
  simp only [List.length_cons] at hm
  unfold rootL
  rw [List.length_cons,List.length_cons]
  rw [show rootF (l.length+1+1) (x::y::l)=nodeL (rootF (l.length+1) ((x::y::l).take (halfN (l.length+2)))) (rootF (l.length+1) ((x::y::l).drop (halfN (l.length+2)))) from rfl]
  rw [rootF_enough (l.length+1) _ (by rw [List.length_take];simp;omega) (by rw [List.length_take];simp;omega) _ (Nat.le_refl _),rootF_enough (l.length+1) _ (by rw [List.length_drop];simp;omega) (by rw [List.length_drop];simp;omega) _ (Nat.le_refl _)]
def depthF:Nat→Nat→Nat→Nat
 |0,_,_=>0
 |f+1,i,n=>if n≤1 then 0 else if i<halfN n then 1+depthF f i (halfN n) else 1+depthF f (i - halfN n) (n - halfN n)
def upF:Nat→Hs→Nat→Nat→List Hs→Hs
 |0,x,_,_,_=>x
 |_+1,x,_,_, []=>x
 |f+1,x,i,n,t::q=>if n≤1 then x else if i<halfN n then nodeL (upF f x i (halfN n) q) t else nodeL t (upF f x (i - halfN n) (n - halfN n) q)
def pathF:Nat→List (List UInt8)→Nat→List Hs
 |0,_,_=> []
 |f+1,l,i=>if l.length≤1 then [] else if i<halfN l.length then rootL (l.drop (halfN l.length))::pathF f (l.take (halfN l.length)) i else rootL (l.take (halfN l.length))::pathF f (l.drop (halfN l.length)) (i - halfN l.length)
theorem path_right:∀(f:Nat) (l:List (List UInt8)) (i:Nat) (x:List UInt8),l.length≤f→l.length≤1000000→l[i]? =some x→(pathF f l i).length=depthF f i l.length∧upF f (leafL x) i l.length (pathF f l i)=rootL l
 |0,l,i,x,h,_,hx=>by
  have:l= []:=List.eq_nil_of_length_eq_zero (by omega)
  subst this
  simp at hx
 |f+1,l,i,x,h,hm,hx=>by
  have hi:i<l.length:=(List.getElem?_eq_some_iff.1 hx).1
  by_cases h1:l.length≤1
  ·unfold pathF depthF
   rw [if_pos h1,if_pos h1]
   refine⟨rfl,?_⟩
   match l,h1,hx with
   | [y],_,hx=>
     have:i=0:=by simp at hi;omega
     subst this
     simp at hx
     subst hx
     rfl
  ·have hs:=halfN_spec (n:=l.length) (by omega) hm
   unfold pathF depthF
   rw [if_neg h1,if_neg h1,rootL_two (by omega) hm]
   by_cases hk:i<halfN l.length
   ·rw [if_pos hk,if_pos hk]
    have hl:(l.take (halfN l.length)).length=halfN l.length:=by rw [List.length_take];omega
    obtain⟨r1,r2⟩:=path_right f (l.take (halfN l.length)) i x (by omega) (by omega) (by rw [List.getElem?_take,if_pos hk];exact hx)
    rw [hl] at r1 r2
    refine⟨by rw [List.length_cons,r1];omega,?_⟩
    unfold upF
    rw [if_neg h1,if_pos hk,r2]
   ·rw [if_neg hk,if_neg hk]
    have hl:(l.drop (halfN l.length)).length=l.length - halfN l.length:=by rw [List.length_drop]
    obtain⟨r1,r2⟩:=path_right f (l.drop (halfN l.length)) (i - halfN l.length) x (by omega) (by omega) (by rw [List.getElem?_drop,show halfN l.length+ (i - halfN l.length)=i by omega];exact hx)
    rw [hl] at r1 r2
    refine⟨by rw [List.length_cons,r1];omega,?_⟩
    unfold upF
    rw [if_neg h1,if_neg hk,r2]
def manyF:Nat→Nat→Nat→Bool→Nat
 |0,_,_,_=>0
 |f+1,m,n,whole=>if m=n then(if whole then 0 else 1) else if m≤halfN n then 1+manyF f m (halfN n) whole else 1+manyF f (m - halfN n) (n - halfN n) false
def growF:Nat→List (List UInt8)→Nat→Bool→List Hs
 |0,_,_,_=> []
 |f+1,l,m,whole=>if m=l.length then(if whole then [] else [rootL l]) else if m≤halfN l.length then rootL (l.drop (halfN l.length))::growF f (l.take (halfN l.length)) m whole else rootL (l.take (halfN l.length))::growF f (l.drop (halfN l.length)) (m - halfN l.length) false
def bothF:Nat→Nat→Nat→Bool→Hs→List Hs→Hs×Hs
 |0,_,_,_,o,_=> (o,o)
 |f+1,m,n,whole,o,q=>
  if m=n then(if whole then(o,o) else(q.headD [],q.headD []))
  else if m≤halfN n then((bothF f m (halfN n) whole o q.tail).1,nodeL (bothF f m (halfN n) whole o q.tail).2 (q.headD []))
  else(nodeL (q.headD []) (bothF f (m - halfN n) (n - halfN n) false o q.tail).1,nodeL (q.headD []) (bothF f (m - halfN n) (n - halfN n) false o q.tail).2)
theorem grow_right:∀(f:Nat) (l:List (List UInt8)) (m:Nat) (whole:Bool) (o:Hs),l.length≤f→l.length≤1000000→1≤m→m≤l.length→(whole=true→o=rootL (l.take m))→(growF f l m whole).length=manyF f m l.length whole∧bothF f m l.length whole o (growF f l m whole)=(rootL (l.take m),rootL l)
 |0,l,m,whole,o,h,_,h1,h2,_=>by omega
 |f+1,l,m,whole,o,h,hm,h1,h2,ho=>by
  unfold growF manyF bothF
  by_cases he:m=l.length
  ·rw [if_pos he,if_pos he,if_pos he]
   have ht:l.take m=l:=by rw [he];exact List.take_length
   cases whole with
   |true=>exact⟨rfl,by rw [ho rfl,ht];rfl⟩
   |false=>exact⟨rfl,by rw [ht];rfl⟩
  ·rw [if_neg he,if_neg he,if_neg he]
   have hs:=halfN_spec (n:=l.length) (by omega) hm
   have hl1:(l.take (halfN l.length)).length=halfN l.length:=by rw [List.length_take];omega
   have hl2:(l.drop (halfN l.length)).length=l.length - halfN l.length:=by rw [List.length_drop]
   by_cases hk:m≤halfN l.length
   ·rw [if_pos hk,if_pos hk,if_pos hk]
    have htt:(l.take (halfN l.length)).take m=l.take m:=by rw [List.take_take,Nat.min_eq_left hk]
    obtain⟨r1,r2⟩:=grow_right f (l.take (halfN l.length)) m whole o (by omega) (by omega) h1 (by omega) (fun e=>by rw [htt];exact ho e)
    rw [hl1] at r1 r2
    rw [htt] at r2
    refine⟨by rw [List.length_cons,r1];omega,?_⟩
    simp only [List.tail_cons,List.headD_cons,r2]
    rw [rootL_two (l:=l) (by omega) hm]
   ·rw [if_neg hk,if_neg hk,if_neg hk]
    obtain⟨r1,r2⟩:=grow_right f (l.drop (halfN l.length)) (m - halfN l.length) false o (by omega) (by omega) (by omega) (by omega) (fun e=>by cases e)
    rw [hl2] at r1 r2
    refine⟨by rw [List.length_cons,r1];omega,?_⟩
    simp only [List.tail_cons,List.headD_cons,r2]
    have e1:rootL (l.take m)=nodeL (rootL (l.take (halfN l.length))) (rootL ((l.drop (halfN l.length)).take (m - halfN l.length))):=by
     have hlm:(l.take m).length=m:=by rw [List.length_take];omega
     have hhm:halfN m=halfN l.length:=halfN_same (by omega) (by omega)
     rw [rootL_two (l:=l.take m) (by omega) (by omega),hlm,hhm,List.take_take,Nat.min_eq_left (by omega)]
     congr 2
     rw [List.drop_take]
    rw [e1,rootL_two (l:=l) (by omega) hm]
def wayF:Nat→Nat→Nat→List Bool
 |0,_,_=> []
 |f+1,i,n=>if n≤1 then [] else if i<halfN n then false::wayF f i (halfN n) else true::wayF f (i - halfN n) (n - halfN n)
def stepH (s:Bool) (h x:Hs):Hs:=if s then nodeL h x else nodeL x h
theorem way_len:∀(f i n:Nat),(wayF f i n).length=depthF f i n
 |0,_,_=>rfl
 |f+1,i,n=>by
  unfold wayF depthF
  by_cases h:n≤1
  ·rw [if_pos h,if_pos h];rfl
  ·rw [if_neg h,if_neg h]
   by_cases hk:i<halfN n
   ·rw [if_pos hk,if_pos hk,List.length_cons,way_len f];omega
   ·rw [if_neg hk,if_neg hk,List.length_cons,way_len f];omega
theorem up_way:∀(f:Nat) (x:Hs) (i n:Nat) (q:List Hs),q.length=depthF f i n→upF f x i n q=((wayF f i n).zip q).foldr (fun sh y=>stepH sh.1 sh.2 y) x
 |0,x,i,n,q,h=>by
  have:q= []:=List.eq_nil_of_length_eq_zero h
  subst this;rfl
 |f+1,x,i,n,q,h=>by
  unfold depthF at h
  unfold wayF
  by_cases h1:n≤1
  ·rw [if_pos h1] at h
   have:q= []:=List.eq_nil_of_length_eq_zero h
   subst this
   rw [if_pos h1];rfl
  ·rw [if_neg h1] at h⊢
   by_cases hk:i<halfN n
   ·rw [if_pos hk] at h⊢
    match q,h with
    |t::q,h=>
     unfold upF
     rw [if_neg h1,if_pos hk,up_way f x i (halfN n) q (by simp at h;omega)]
     rfl
    | [],h=>simp at h;omega
   ·rw [if_neg hk] at h⊢
    match q,h with
    |t::q,h=>
     unfold upF
     rw [if_neg h1,if_neg hk,up_way f x (i - halfN n) (n - halfN n) q (by simp at h;omega)]
     rfl
    | [],h=>simp at h;omega
theorem zip_rev {α β:Type}:∀(a:List α) (b:List β),a.length=b.length→(a.zip b).reverse=a.reverse.zip b.reverse
 | [], [],_=>rfl
 |x::a,y::b,h=>by
  have h':a.length=b.length:=by simpa using h
  rw [List.zip_cons_cons,List.reverse_cons,List.reverse_cons,List.reverse_cons,zip_rev a b h',List.zip_append (by simpa using h')]
  rfl
theorem up_fold {f i n:Nat} {x:Hs} {p:List Hs} (h:p.length=depthF f i n):upF f x i n p.reverse=((wayF f i n).reverse.zip p).foldl (fun y sh=>stepH sh.1 sh.2 y) x:=by
 rw [up_way f x i n p.reverse (by simpa using h),←List.foldl_reverse]
 congr 1
 have hl:(wayF f i n).length=p.reverse.length:=by rw [way_len,List.length_reverse,h]
 rw [zip_rev _ _ hl,List.reverse_reverse]
def takeH (z:Hs):List Hs×Bool→Hs×List Hs×Bool
 |(h::r,true)=> (h,r,true)
 |(r,_)=> (z,r,false)
def walkF (z:Hs):Nat→Nat→Nat→Bool→Hs→List Hs×Bool→(Hs×Hs)×List Hs×Bool
 |0,_,_,_,o,s=> ((o,o),s)
 |f+1,m,n,whole,o,s=>
  if m=n then(if whole then((o,o),s) else(((takeH z s).1,(takeH z s).1),(takeH z s).2))
  else if m≤halfN n then
   (((walkF z f m (halfN n) whole o s).1.1,nodeL (walkF z f m (halfN n) whole o s).1.2 (takeH z (walkF z f m (halfN n) whole o s).2).1),(takeH z (walkF z f m (halfN n) whole o s).2).2)
  else
   ((nodeL (takeH z (walkF z f (m - halfN n) (n - halfN n) false o s).2).1 (walkF z f (m - halfN n) (n - halfN n) false o s).1.1,nodeL (takeH z (walkF z f (m - halfN n) (n - halfN n) false o s).2).1 (walkF z f (m - halfN n) (n - halfN n) false o s).1.2),(takeH z (walkF z f (m - halfN n) (n - halfN n) false o s).2).2)
theorem take_false (z:Hs) (r:List Hs):takeH z (r,false)=(z,r,false):=by cases r<;>rfl
theorem walk_enough (z:Hs):∀(f m n:Nat) (whole:Bool) (o:Hs) (r:List Hs),manyF f m n whole≤r.length→walkF z f m n whole o (r,true)=(bothF f m n whole o (r.take (manyF f m n whole)).reverse,r.drop (manyF f m n whole),true)
 |0,_,_,_,_,r,_=>by simp [walkF,bothF,manyF]
 |f+1,m,n,whole,o,r,h=>by
  unfold walkF bothF manyF
  unfold manyF at h
  by_cases he:m=n
  ·rw [if_pos he] at h
   rw [if_pos he,if_pos he,if_pos he]
   cases whole with
   |true=>simp
   |false=>
    match r,h with
    |t::r,_=>simp [takeH]
    | [],h=>simp at h
  ·rw [if_neg he] at h
   rw [if_neg he,if_neg he,if_neg he]
   have hsplit:∀c,1+c≤r.length→∃t,r.drop c=t::r.drop (1+c)∧(r.take (1+c)).reverse=t::(r.take c).reverse:=fun c hc=>by
    refine⟨r[c]'(by omega),?_,?_⟩
    ·rw [List.drop_eq_getElem_cons (by omega:c<r.length),Nat.add_comm]
    ·rw [Nat.add_comm,List.take_add_one,List.getElem?_eq_getElem (by omega:c<r.length)]
     simp
   by_cases hk:m≤halfN n
   ·rw [if_pos hk] at h
    rw [if_pos hk,if_pos hk,if_pos hk]
    have ih:=walk_enough z f m (halfN n) whole o r (by omega)
    obtain⟨t,e1,e2⟩:=hsplit _ h
    rw [ih,e2]
    simp only [e1,takeH,List.headD_cons,List.tail_cons]
   ·rw [if_neg hk] at h
    rw [if_neg hk,if_neg hk,if_neg hk]
    have ih:=walk_enough z f (m - halfN n) (n - halfN n) false o r (by omega)
    obtain⟨t,e1,e2⟩:=hsplit _ h
    rw [ih,e2]
    simp only [e1,takeH,List.headD_cons,List.tail_cons]
theorem walk_short (z:Hs):∀(f m n:Nat) (whole:Bool) (o:Hs) (r:List Hs),r.length<manyF f m n whole→(walkF z f m n whole o (r,true)).2.2=false
 |0,_,_,_,_,r,h=>by simp [manyF] at h
 |f+1,m,n,whole,o,r,h=>by
  unfold walkF
  unfold manyF at h
  by_cases he:m=n
  ·rw [if_pos he] at h⊢
   cases whole with
   |true=>simp at h
   |false=>
    have:r= []:=by simpa using h
    subst this
    rfl
  ·rw [if_neg he] at h⊢
   have hone:∀m' n' w',r.length<1+manyF f m' n' w'→(takeH z (walkF z f m' n' w' o (r,true)).2).2.2=false:=fun m' n' w' hc=>by
    by_cases hlt:r.length<manyF f m' n' w'
    ·have ih:=walk_short z f m' n' w' o r hlt
     have e:(walkF z f m' n' w' o (r,true)).2=((walkF z f m' n' w' o (r,true)).2.1,false):=by rw [←ih]
     rw [e,take_false]
    ·have ih:=walk_enough z f m' n' w' o r (by omega)
     have hd:r.drop (manyF f m' n' w')= []:=List.drop_eq_nil_of_le (by omega)
     rw [ih,hd]
     rfl
   by_cases hk:m≤halfN n
   ·rw [if_pos hk] at h⊢;exact hone _ _ _ h
   ·rw [if_neg hk] at h⊢;exact hone _ _ _ h
end Go.Proofs.YtgalfohobgjelaaGreatDoor
