/- What is proved here: a part of the proof that 'probitylaw31.ClientPlays' answers true. Conditions: each theorem's own. -/
import Derived.Test.YtgalfohobgjelaaGreatDoorPy03
import Derived.StillTail
import Derived.Deep.Quiet
set_option maxRecDepth 100000
set_option maxHeartbeats 8000000
namespace Go.Proofs.YtgalfohobgjelaaGreatDoor
section
open Go.RowKit
def ΩmC:Value→Nat
 | .string t=>t.size
 |_=>0
def Pad1(s:ByteArray)(k:Nat)(v:Value):Prop:=∃(i:Nat) (t:ByteArray),v= .string t∧t.data.toList=s.data.toList++[0x80]++List.replicate i 0∧t.size=s.size+1+i∧i≤k
def Pad2(s:ByteArray)(k j:Nat)(v:Value):Prop:=∃(t:ByteArray),v= .string t∧t.data.toList=s.data.toList++[0x80]++List.replicate k 0++(be8 (8*s.size)).take j∧t.size=s.size+1+k+j
theorem Ωb6(a b:ByteArray):(a++b).data.toList =a.data.toList++b.data.toList:=by simp
theorem Ωle(a:ByteArray)(x:UInt8):(a++⟨#[x]⟩:ByteArray).size =a.size+1:=by
 rw[Ωn5];rfl
theorem be8_take(n:Nat){j:Nat}(h:j<8):(be8 n).take (j+1)=(be8 n).take j++[UInt8.ofNat (n/2^(8*(7-j)))]:=by
 rcases Ωj2 h with rfl|rfl|rfl|rfl|rfl|rfl|rfl|rfl<;>rfl
theorem pad2_step{s t:ByteArray}{k j:Nat}(ht:t.data.toList=s.data.toList++[0x80]++List.replicate k 0++(be8 (8*s.size)).take j)(hz:t.size=s.size+1+k+j)(hj:j<8):
  Pad2 s k (j+1) (.string (t++⟨[UInt8.ofNat (8*s.size/2^(8*(7-j)))].toArray⟩)):=by
 refine⟨_,rfl,?_,?_⟩
 ·rw[Ωb6,ht,be8_take _ hj]
  simp
 ·rw[Ωn5,hz]
  show _+1=_
  omega
theorem padded_any(s:ByteArray)(w:World)(hs:s.size≤35184372088832):
  Calls Tryz.prog 120 #[.string s] w fun e w' =>(∃t:ByteArray,e= .returned (.string t)∧t.data.toList=Ωde s.data.toList)∧Only Ωa w w' :=by
 obtain⟨k,ek⟩:∃k,k=padN s.size:=⟨_,rfl⟩
 have bk:k<64:=by rw[ek];unfold padN;omega
 have EK:=Θ ek
 clear ek
 go_enter Tryz.func120,Tryz.ntmps120
 go_wp2_with fail
 go_loop [3] (fun v=>Pad1 s k v) (fun v=>s.size+65-ΩmC v)
 case atStart=>exact⟨0,_,rfl,by simp,by rw[Ωle],by omega⟩
 case round=>
  obtain⟨i,t,rfl,ht,hz,hi⟩:=hrel
  have HT:=Θ ht
  have HZ:=Θ hz
  have bt:t.size≤35184372088900:=by omega
  clear ht hz
  by_cases hlt:i<k
  ·have htest:((t.size:Int)%64 !=56)=true:=by
    have h1:=HZ.out;have h2:=EK.out;unfold padN at h2
    have:¬((t.size:Int)%64=56):=by omega
    simpa using this
   go_wp2_with fail
   go_round
   case rel=>exact⟨i+1,_,rfl,by rw[Ωb6,HT.out,List.replicate_succ'];simp,by have:=HZ.out;rw[Ωle];omega,by omega⟩
   case measure=>have:=HZ.out;have h2:(⟨#[0]⟩:ByteArray).size =1:=rfl;simp[ΩmC];omega
  ·obtain rfl:i=k:=by omega
   have htest:((t.size:Int)%64 !=56)=false:=by
    have h1:=HZ.out;have h2:=EK.out;unfold padN at h2
    have:((t.size:Int)%64=56):=by omega
    simpa using this
   go_wp2_with fail
   have hp2:Pad2 s i 0 (.string t):=⟨t,rfl,by rw[HT.out];simp,by have:=HZ.out;omega⟩
   go_loopw [3,5] (fun v3 v5 wr=>∃j:Nat,j≤8∧v5= .int .i64 (7-(j:Int))∧Pad2 s i j v3∧Only Ωa w wr) (fun _ v _=>(intOf v+1).toNat)
   case atStart=>exact⟨0,by omega,rfl,hp2,Only.refl _ _⟩
   case round=>
    clear hp2 HT HZ bt
    obtain⟨j,hj,rfl,⟨u,rfl,hu,huz⟩,ho⟩:=hrel
    have HU:=Θ hu
    have HUZ:=Θ huz
    have HO:=Θ ho
    have bu:u.size≤35184372088910:=by omega
    clear hu huz ho
    by_cases h8:j<8
    ·obtain⟨b,eb⟩:∃b,b=UInt8.ofNat (8*s.size/2^(8*(7-j))):=⟨_,rfl⟩
     have hst:=fun h1 h2=>pad2_step (s:=s) (t:=u) (k:=i) (j:=j) h1 h2 h8
     rw[←eb] at hst
     have HST:=Θ (hst HU.out HUZ.out)
     have EB:=Θ eb
     clear hst eb HU HUZ
     have tok:True:=trivial
     rcases Ωj2 h8 with rfl|rfl|rfl|rfl|rfl|rfl|rfl|rfl
     all_goals
      go_wp2_with (have _t:=tok;refine Ωy rfl 22 9 5 (.tmp 28) rfl wr.heap.size 0 1 1 rfl [b] rfl (Ωg8 _ _ _ _ ?hv) Tryz.underlying22 Tryz.underlying5 Tryz.underlying9 ?_;clear tok _t)
      case hv=>rw[EB.out];simp;omega
      go_roundw
      case rel=>exact⟨_,by omega,by go_num,HST.out,HO.out.alloc _⟩
      case measure=>simp[intOf]
    ·obtain rfl:j=8:=by omega
     go_wp2_with fail
     go_ret
     refine⟨⟨u,rfl,?_⟩,HO.out⟩
     have e2:(be8 (8*s.size)).take 8=be8 (8*s.size):=rfl
     have hl:s.data.toList.length=s.size:=by simp
     rw[HU.out,e2,Ωde,hl,←EK.out]
     simp
end
section
open Go.RowKit
theorem Ωd7{P:Program}{f:FuncId}{args:Array Value}{w:World}{a n:Nat}{v:Value}(c:∀W:World,Calls P f args W fun e w' =>e= .returned v∧∃q,w' =W.drewN q):
  Calls P f args (w.drewN (a+n)) fun e w' =>e= .returned v∧∃q,w' =w.drewN (a+q):=
 (c _).mono fun _ _ ⟨he,q,hq⟩=>⟨he,n+q,by rw[hq,World.drewN_drewN,Nat.add_assoc]⟩
section
variable {P:Program} {ops:Array Oper} {md:Region.Mode} {C:World→Prop}
def ΩgH(P:Program)(md:Region.Mode)(ops:Array Oper)(C:World→Prop)(n:Nat)(L:Array Bool→Act→Prop):Nat→Array Bool→Act→Prop
 |0,done,a=>L done a
 |f+1,done,a=>Region.ready md ops done≠[]∧∀i,i∈Region.ready md ops done→i<n∧qOp P ops C i (ΩgH P md ops C n L f (done.setIfInBounds i true)) a
theorem Ωhd{n g:Nat}{L:Array Bool→Act→Prop}{Q:Exit→Act→World→Prop}(hL:∀done a w,C w→L done a→wpAny P md ops Q g done a w)(f:Nat):
  ∀(done:Array Bool) (a:Act) (w:World),C w→ΩgH P md ops C n L f done a→wpAny P md ops Q (f+g) done a w:=by
 induction f with
 |zero=>intro done a w hw h;rw[ΩnR];exact hL _ _ _ hw h
 |succ f ih=>
  intro done a w hw h
  rw[Nat.add_right_comm]
  exact⟨fun e=>absurd e h.1,fun i hi=>wpOp_of_qOp hw (fun a' w' hw' h' =>ih _ a' w' hw' h') (h.2 i hi).2⟩
theorem head_first{n i:Nat}{o:Oper}{v:Value}{L:Array Bool→Act→Prop}(hi:ops[i]? =some o)(hsel:∀(j:Nat) (o:Oper) cs b,ops[j]? =some o→o.op≠.select cs b)
  (hs:Region.sinkB md ops n=true) (hc:Region.chainB md ops n=true) (hn:n<ops.size) (hin:i<n) (hd:∀done a,L done a→∀j∈Region.ready md ops done,n≤j) (f:Nat):
  ∀(done:Array Bool) (a:Act),HeadInv md ops n done→
   (∀j oj,ops[j]? =some oj→j≠i→done.getD j true=false→(∀e∈oj.after,Region.binds md e=true→e.on≠i)→o.apart ops oj=true)→
   i∈Region.ready md ops done→YieldsIn P ops C o v a→ΩgH P md ops C n L f (done.setIfInBounds i true) (a.put o.dst v)→ΩgH P md ops C n L (f+1) done a:=by
 induction f with
 |zero=>
  intro done a inv _ hr hy H
  refine⟨(fun e=>by rw[e] at hr;cases hr),fun j hj=> ?_⟩
  by_cases hji:j=i
  ·rw[hji];exact⟨hin,hy.qOp hi H⟩
  ·exfalso
   have h1:=hd _ _ H j (ready_mono hj hji)
   exact tail_waits hs hc hn inv _ i rfl hin (mem_ready.1 hr).1 j h1 hj
 |succ f ih=>
  intro done a inv hfree hr hy H
  have hun:=(mem_ready.1 hr).1
  refine⟨(fun e=>by rw[e] at hr;cases hr),fun j hj=> ?_⟩
  have hjn:j<n:=Nat.lt_of_not_le fun h=>tail_waits hs hc hn inv _ i rfl hin hun j h hj
  refine⟨hjn,?_⟩
  by_cases hji:j=i
  ·rw[hji];exact hy.qOp hi H
  ·obtain⟨hju,oj,hoj,hall⟩:=mem_ready.1 hj
   have hno:∀e∈oj.after,Region.binds md e=true→e.on≠i:=fun e he hb h=>by
    have:=hall e he hb
    rw[h,getD_both hun] at this
    cases this
   have step:=qOp_put hoj (hfree j oj hoj hji hju hno) (fun cs b=>hsel i o cs b hi) (fun cs b=>hsel j oj cs b hoj) hy (H.2 j (ready_mono hj hji)).2
   refine qOp_mono (fun a' h' =>ih _ a' (inv.set hj hjn) (fun k ok hk hki hku hkn=>hfree k ok hk hki ?_ hkn) (ready_mono hr (Ne.symm hji)) h'.1 ?_) step
   ·rcases Nat.lt_trichotomy j k with h|h|h
    ·rwa [getD_set_ne true (by omega)] at hku
    ·subst h;exact hju
    ·rwa [getD_set_ne true (by omega)] at hku
   ·rw[Array.setIfInBounds_comm _ _ hji];exact h'.2
theorem ΩkI{n g:Nat}{Lq:Act→Prop}(hsel:Region.noSelect ops=true)(hs:Region.sinkB md ops n=true)(hc:Region.chainB md ops n=true)(hn:n<ops.size)(l:List Oper):
  ∀(k:Nat) (done:Array Bool) (a:Act),(∀j,j<l.length→l[j]? =ops[k+j]?)→k+l.length=n→HeadInv md ops n done→Region.lexHead md ops g l.length k done=true→wpQuiet P ops C Lq l a→
  ΩgH P md ops C n (fun done' a' =>Region.seqB md ops g n done' =true∧Lq a') l.length done a:=by
 induction l with
 |nil=>
  intro k done a _ hk _ hB h
  obtain rfl:k=n:=by simpa using hk
  exact⟨by simpa [Region.lexHead] using hB,h⟩
 |cons o l ih=>
  intro k done a hl hk inv hB h
  have h0:ops[k]? =some o:=by simpa using(hl 0 (by simp)).symm
  simp only[ΩnD] at hk
  simp only[ΩnD,Region.lexHead,Ωoa] at hB
  have hr:k∈Region.ready md ops done:=by simpa using hB.1.1
  have hq:qOp P ops C k (wpQuiet P ops C Lq l) a:=by unfold qOp;rw[h0];exact h
  obtain⟨v,hy,hK⟩:=yieldsIn_of_qOp h0 hq
  refine head_first h0 (Region.noSelect_spec hsel) hs hc hn (by omega) (fun _ _ hL=>seqB_ready hL.1) l.length done a inv (Region.free_spec h0 hB.1.2) hr hy (ih (k+1) _ _ (fun j hj=> ?_) (by omega) (inv.set hr (by omega)) hB.2 hK)
  have:=hl (j+1) (by simp;omega)
  rw[Nat.add_assoc,Nat.add_comm 1 j]
  simpa using this
theorem ΩbM{id:Nat}{Q:Exit→Act→World→Prop}{a:Act}{w:World}{l:List Oper}(n:Nat)(hm:P.follows .mixedOrders =true)(hB:Region.lexTailB .any l.toArray n=true)
  (h:wpQuiet P l.toArray (fun w' =>∃q,w' =w.drewN q) (fun a' =>∀q,wpList P l.toArray Q (l.drop n) a' (w.drewN q)) (l.take n) a):(Code.region id l.toArray true).wp P Q a w:=by
 simp only[Region.lexTailB,Ωoa,decide_eq_true_eq] at hB
 obtain⟨⟨⟨⟨hsel,hn⟩,hs⟩,hc⟩,hlex⟩:=hB
 have hn' :n<l.length:=by simpa using hn
 have htl:(l.take n).length =n:=by rw[ΩnB];omega
 have hdl:(l.drop n).length =l.toArray.size-n:=by simp
 have inv0:HeadInv .any l.toArray n (Array.replicate l.toArray.size false):=
  ⟨by simp,fun j _ _ hl=>(by rw[getD_replicate_false] at hl;cases hl),fun t _ ht=>getD_in (by simpa using ht) (getD_replicate_false _ _)⟩
 have H:=ΩkI (g:=l.toArray.size-n) hsel hs hc hn (l.take n) 0 _ a (fun j hj=>by
  have:j<n:=by rwa [htl] at hj
  simp[this]) (by simpa using htl) inv0 (by rw[htl];exact hlex) h
 refine wp_region_any hm ?_
 have key:=Ωhd (Q:=Q) (g:=l.toArray.size-n) (fun done a' w' hw' hL=>by
  obtain⟨q,rfl⟩:=hw'
  have:=wpAny_of_seq (md:= .any) (Q' :=Q) (l.drop n) n done a' (w.drewN q) (fun j=>by simp[List.getElem?_drop]) (by rw[hdl];exact hL.1) (hL.2 q)
  rwa [hdl] at this) _ _ _ {w with drawn:=w.drawn+1} ⟨1,rfl⟩ H
 rw[htl,show n+(l.toArray.size-n)=l.toArray.size by omega] at key
 exact key
end
end
section
open Go.RowKit
theorem ΩdO(x:W)(n:Nat)(c:Int)(hc:c=n)(hn:n≤32)(w:World):
  Calls Tryz.prog 161 #[.int .u32 (x.toNat:Int),.int .i64 c] w fun e w' =>e= .returned (.int .u32 ((rr x n).toNat :Int))∧∃q,w' =w.drewN q:=by
 subst hc
 exact rot_any x n hn w
theorem Ωh3(b:ByteArray)(k:Nat)(h:k<b.size):b.data.toList[k]? =some b[k]:=by
 rw[Ωnu (by simpa using h)]
 rfl
theorem Ωk7(x:UInt8):(x.toNat:Int)%4294967296=((bw x).toNat :Int):=by
 rw[←ΩmS];have:=x.toNat_lt;omega
theorem ref_word(b:ByteArray)(i:Nat)(h0:4*i<b.size)(h1:4*i+1<b.size)(h2:4*i+2<b.size)(h3:4*i+3<b.size):
  bits .or .u32 (bits .or .u32 (bits .or .u32 ((b[4*i].toNat :Int)%4294967296*16777216%4294967296) ((b[4*i+1].toNat :Int)%4294967296*65536%4294967296)) ((b[4*i+2].toNat :Int)%4294967296*256%4294967296)) ((b[4*i+3].toNat :Int)%4294967296)=((Ωf4 b.data.toList i).toNat :Int):=by
 rw[Ωk7,Ωk7,Ωk7,Ωk7,Ωhp _ 24 16777216 (by decide),Ωhp _ 16 65536 (by decide),Ωhp _ 8 256 (by decide),w_or,w_or,w_or,
  ΩiK (Ωh3 b _ h0) (Ωh3 b _ h1) (Ωh3 b _ h2) (Ωh3 b _ h3)]
structure RB(A B:Nat)(s:St)(b:List UInt8)(i:Nat)(w wr:World):Prop where
 box:Blk wr A 174 s.vals.toArray
 res:Blk wr (A+1) 174 (List.replicate 8 (Value.int .u32 0)).toArray
 ks:Blk wr B 208 (shaK.map wv).toArray
 ws:Blk wr (B+1) 208 (wrow b i)
 le:A+1<B
 rest:Only Ωa w wr
 new:w.heap.size≤A
theorem RB.drewN{A B:Nat}{s:St}{b:List UInt8}{i:Nat}{w wr:World}(h:RB A B s b i w wr)(n:Nat):RB A B s b i w (wr.drewN n):=⟨h.box,h.res,h.ks,h.ws,h.le,h.rest.drewN n,h.new⟩
theorem RB.put{A B:Nat}{s:St}{b:List UInt8}{i:Nat}{w wr:World}(h:RB A B s b i w wr)(hi:i<64)(x:W)(hx:Ωao b (i+1)=Ωao b i++[x]):RB A B s b (i+1) w (wr.setCell ⟨B+1,i,none⟩ (wv x)):=by
 have h1:=h.ws.set_ i (wv x)
 rw[ΩhV hi _ hx] at h1
 have:=h.le;have:=h.new
 exact⟨h.box.far (by show A≠B+1;omega) _,h.res.far (by show A+1≠B+1;omega) _,h.ks.far (by show B≠B+1;omega) _,h1,h.le,h.rest.setCell (.inr (by show _≤B+1;omega)) _,h.new⟩
theorem rb_start{s:St}{b:List UInt8}{w w1 w2:World}{zs:Array Value}{ks:List Value}(hk:ks=shaK.map wv)(hz:zs.size=64){z8:Array Value}(h8:z8=(List.replicate 8 (Value.int .u32 0)).toArray)(hw1:w1=(w.alloc (.cells s.vals.toArray 174)).alloc (.cells z8 174))(ho:Only Ωa w1 w2)(hz0:zs=wrow b 0):
  RB w.heap.size w2.heap.size s b 0 w (((w2.alloc (.cells zs 208)).setCells w2.heap.size 0 ks).alloc (.cells zs 208)):=by
 subst hk h8
 have hs1:w1.heap.size=w.heap.size+2:=by rw[hw1];simp
 have hle:=ho.size
 have h1:Blk w1 w.heap.size 174 s.vals.toArray:=by rw[hw1];exact(Blk.new w _ _).alloc _
 have h2:Blk w1 (w.heap.size+1) 174 (List.replicate 8 (Value.int .u32 0)).toArray :=by
  rw[hw1]
  have:=Blk.new (w.alloc (.cells s.vals.toArray 174)) 174 (List.replicate 8 (Value.int .u32 0)).toArray
  rwa [Ωnw] at this
 have h3:=Ωb ((Only.refl Ωa w2).alloc (.cells zs 208)) w2.heap.size 0 (.inr (Ωnv _)) (shaK.map wv)
 have hsz:((w2.alloc (.cells zs 208)).setCells w2.heap.size 0 (shaK.map wv)).heap.size =w2.heap.size+1:=by
  rw[Ωen,Ωnw]
 refine⟨((h1.only ho (fun h=>h)).only h3 (fun h=>h)).alloc _,((h2.only ho (fun h=>h)).only h3 (fun h=>h)).alloc _,(Blk.filled (xs:=zs.toList) (by simpa using Blk.new w2 208 zs) _ (by simp[hz];decide+kernel)).alloc _,?_,by omega,?_,Ωnv _⟩
 ·have:=Blk.new ((w2.alloc (.cells zs 208)).setCells w2.heap.size 0 (shaK.map wv)) 208 zs
  rw[hsz] at this
  rw[hz0] at this⊢
  exact this
 ·exact Only.alloc ((Only.trans (by rw[hw1];exact((Only.refl Ωa w).alloc _).alloc _) ho).trans h3) _
theorem ΩfH(t:St):t.vals.toArray.all (·.oneCell')=true:=all_oneCell_toArray (fun v hv=>by
 simp only[St.vals,Ωn3,Ωol,or_false] at hv
 rcases hv with rfl|rfl|rfl|rfl|rfl|rfl|rfl|rfl<;>rfl)
theorem wpList_store8{P:Program}{w:World}{ops:Array Oper}{rest:List Oper}{o:Oper}{a:Act}{Q:Exit→Act→World→Prop}(hgd:o.guard=none)(ty:TypeId)(x y:Operand)(ho:o.op= .store ty x y)
  (V:Nat) (hx:a.eval x= .pointer (some ⟨V,0,none⟩)) {x0 x1 x2 x3 x4 x5 x6 x7:Int} (hy:a.eval y= .agg #[.int .u32 x0,.int .u32 x1,.int .u32 x2,.int .u32 x3,.int .u32 x4,.int .u32 x5,.int .u32 x6,.int .u32 x7])
  {t:TypeId} {cs:Array Value} (hb:Blk w V t cs) (hc:cs.size=8) (hi:(P.info? ty).map (·.size)=some 8)
  (h:∀w',Hid (w' =w.setCells V 0 [.int .u32 x0,.int .u32 x1,.int .u32 x2,.int .u32 x3,.int .u32 x4,.int .u32 x5,.int .u32 x6,.int .u32 x7])→wpList P ops Q rest (a.put o.dst undef) w'):wpList P ops Q (o::rest) a w:=
 wpList_store_mid hgd ty x y ho V 0 _ hx hy (hb.there 0 8 (by omega)) hi (by simp[Value.oneCell']) (h _ (rfl:_=_))
structure RV(A B V:Nat)(s:St)(b:List UInt8)(t:St)(w wr:World):Prop where
 rb:RB A B s b 64 w wr
 v:Blk wr V 174 t.vals.toArray
 lt:B+1<V
theorem RV.drewN{A B V:Nat}{s:St}{b:List UInt8}{t:St}{w wr:World}(h:RV A B V s b t w wr)(n:Nat):RV A B V s b t w (wr.drewN n):=⟨h.rb.drewN n,h.v,h.lt⟩
theorem RB.only{A B:Nat}{s:St}{b:List UInt8}{i:Nat}{w wr wx:World}{S:Nat→Prop}(h:RB A B s b i w wr)(ho:Only S wr wx)(hS:∀k,S k→B+1<k):RB A B s b i w wx:=by
 have:=h.le;have:=h.new
 exact⟨h.box.only ho (fun e=>by have:=hS _ e;omega),h.res.only ho (fun e=>by have:=hS _ e;omega),h.ks.only ho (fun e=>by have:=hS _ e;omega),h.ws.only ho (fun e=>by have:=hS _ e;omega),h.le,
  h.rest.trans' ho (fun i hi e=>by have:=hS _ e;omega),h.new⟩
theorem rv_start{A B:Nat}{s:St}{b:List UInt8}{w wr:World}{zs:Array Value}{ks:List Value}(hk:ks=s.vals)(hz:zs.size=8)(h:RB A B s b 64 w wr):RV A B wr.heap.size s b s w ((wr.alloc (.cells zs 174)).setCells wr.heap.size 0 ks):=by
 subst hk
 have ho:=Ωb ((Only.refl Ωa wr).alloc (.cells zs 174)) wr.heap.size 0 (.inr (Ωnv _)) s.vals
 exact⟨h.only ho (fun _ e=>e.elim),Blk.filled (xs:=zs.toList) (by simpa using Blk.new wr 174 zs) _ (by simp[hz];rfl),h.ws.lt⟩
theorem RV.put{A B V:Nat}{s:St}{b:List UInt8}{t t' :St}{w wr:World}(h:RV A B V s b t w wr)(ks:List Value)(hk:ks=t'.vals):RV A B V s b t' w (wr.setCells V 0 ks):=by
 subst hk
 have:=h.lt
 exact⟨h.rb.only (Ωb (Only.refl (·=V) wr) V 0 (.inl rfl) t'.vals) (fun k e=>by rw[e];exact h.lt),h.v.filled _ rfl,h.lt⟩
theorem ΩgY{a b:Value}{l m:List Value}(h:a=b)(h' :l=m):a::l=b::m:=by rw[h,h']
structure RW(A V:Nat)(s t:St)(k:Nat)(w wr:World):Prop where
 box:Blk wr A 174 (part s t k).toArray
 res:Blk wr (A+1) 174 (List.replicate 8 (Value.int .u32 0)).toArray
 v:Blk wr V 174 t.vals.toArray
 lt:A+1<V
 rest:Only Ωa w wr
 new:w.heap.size≤A
theorem RV.last{A B V:Nat}{s:St}{b:List UInt8}{t:St}{w wr:World}(h:RV A B V s b t w wr):RW A V s t 0 w wr:=⟨h.rb.box,h.rb.res,h.v,by have:=h.rb.le;have:=h.lt;omega,h.rb.rest,h.rb.new⟩
theorem RW.put{A V k:Nat}{s t:St}{w wr:World}{x:W}(h:RW A V s t k w wr)(hs:(part s t k).toArray.setIfInBounds k (wv x)=(part s t (k+1)).toArray):RW A V s t (k+1) w (wr.drew.setCell ⟨A,k,none⟩ (.int .u32 (x.toNat:Int))):=by
 have h1:=(Blk.drew h.box).set_ k (wv x)
 rw[hs] at h1
 have:=h.lt;have:=h.new
 exact⟨h1,(Blk.drew h.res).far (by show A+1≠A;omega) _,(Blk.drew h.v).far (by show V≠A;omega) _,h.lt,(h.rest.drew).setCell (.inr h.new) _,h.new⟩
theorem block_any(s:St)(b:ByteArray)(hb:b.size=64)(w:World):
  Calls Tryz.prog 121 #[.agg s.vals.toArray,.string b] w fun e w' =>e= .returned (.agg (comp s b.data.toList).vals.toArray)∧Only Ωa w w' :=by
 have HB:=Θ hb
 clear hb
 go_enter Tryz.func121,Tryz.ntmps121
 go_wp2_with fail
 refine Ωdq (fun X=>X=(w.alloc (.cells s.vals.toArray 174)).alloc (.cells (List.replicate 8 (Value.int .u32 0)).toArray 174)) rfl ?_
 intro w1 hw1
 have HW1:=Θ hw1
 clear hw1
 refine(rounds_any _).mono ?_
 rintro e w2 ⟨rfl,ho2⟩
 have HO2:=Θ ho2
 clear ho2
 have hk:(shaK.map wv).length =64:=by decide+kernel
 have hzk:(shaK.map wv).toArray.size =64:=hk
 have hik:(Tryz.prog.info? 208).map (·.size)=some (shaK.map wv).toArray.size :=by rw[hzk];kernel_rfl
 have hnk:(shaK.map wv).toArray.all (·.oneCell')=true:=all_oneCell_toArray (fun v hv=>by obtain⟨x,_,rfl⟩:=Ωos.1 hv;rfl)
 have HK:=Θ hk
 have HIK:=Θ hik
 have HNK:=Θ hnk
 clear hk hzk hik hnk
 have tok1:True:=trivial
 go_wp2_with (have _t:=tok1;refine wpList_store_mid rfl 208 (.tmp 5) (.tmp 17) rfl w2.heap.size 0 (shaK.map wv).toArray rfl rfl (Ωbg w2 _ _ _ (by simp[HK.out])) HIK.out HNK.out ?_;clear tok1 _t)
 refine Ωf (RB w.heap.size w2.heap.size s b.data.toList 0 w) (rb_start (by simp) rfl rfl HW1.out HO2.out rfl) ?_
 simp only[Ωen,Ωnw]
 obtain⟨B,hB⟩:∃B,B=w2.heap.size:=⟨_,rfl⟩
 rw[←hB]
 intro W3 h3
 have H3:=Θ h3
 clear h3 HW1 HO2 HK HIK HNK hB
 go_loopw [7] (fun v wr=>∃i:Nat,v= .int .i64 i∧i≤64∧RB w.heap.size B s b.data.toList i w wr) (fun v _=>64-(intOf v).toNat)
 case atStart=>exact⟨0,rfl,by omega,H3.out⟩
 case round=>
  clear H3
  obtain⟨i,rfl,hi,h4⟩:=hrel
  by_cases h64:i<64
  ·by_cases h16:i<16
   ·have hl:b.data.toList.length=64:=by simpa using HB.out
    have cz:=(h4.ws.cell i).trans (Ωef (Ωnv i) h64)
    have fz:=h4.ws.frozen i
    have H4:=Θ h4
    have hsz:b.size=64:=HB.out
    have i0:IntKind.i64.wrap (4*(i:Int))=4*(i:Int):=ΩnH _ (by omega)
    have i1:IntKind.i64.wrap (4*(i:Int)+1)=4*(i:Int)+1:=ΩnH _ (by omega)
    have i2:IntKind.i64.wrap (4*(i:Int)+2)=4*(i:Int)+2:=ΩnH _ (by omega)
    have i3:IntKind.i64.wrap (4*(i:Int)+3)=4*(i:Int)+3:=ΩnH _ (by omega)
    have n0:(4*(i:Int)).toNat =4*i:=by omega
    have n1:(4*(i:Int)+1).toNat =4*i+1:=by omega
    have n2:(4*(i:Int)+2).toNat =4*i+2:=by omega
    have n3:(4*(i:Int)+3).toNat =4*i+3:=by omega
    have p0:0≤4*(i:Int):=by omega
    have p1:0≤4*(i:Int)+1:=by omega
    have p2:0≤4*(i:Int)+2:=by omega
    have p3:0≤4*(i:Int)+3:=by omega
    have q0:4*i<b.size:=by omega
    have q1:4*i+1<b.size:=by omega
    have q2:4*i+2<b.size:=by omega
    have q3:4*i+3<b.size:=by omega
    have r0:4*(i:Int)<(b.size:Int):=by omega
    have r1:4*(i:Int)+1<(b.size:Int):=by omega
    have r2:4*(i:Int)+2<(b.size:Int):=by omega
    have r3:4*(i:Int)+3<(b.size:Int):=by omega
    clear h4 hl hsz
    go_wp2_with fail
    go_region
    go_wp2_with fail
    go_roundw
    case rel=>
     refine⟨i+1,by go_num,by omega,?_⟩
     rw[ref_word b i q0 q1 q2 q3]
     exact(H4.out.drewN 1).put h64 _ (ΩiX h16)
    case measure=>simp[intOf];omega
   ·have hk:16≤i:=by omega
    clear h16
    obtain⟨x,ex⟩:∃x,x=(Ωao b.data.toList i).getD (i-15) 0:=⟨_,rfl⟩
    obtain⟨y,ey⟩:∃y,y=(Ωao b.data.toList i).getD (i-2) 0:=⟨_,rfl⟩
    obtain⟨u,eu⟩:∃u,u=(Ωao b.data.toList i).getD (i-16) 0:=⟨_,rfl⟩
    obtain⟨v,ev⟩:∃v,v=(Ωao b.data.toList i).getD (i-7) 0:=⟨_,rfl⟩
    have hs:Ωao b.data.toList (i+1)=Ωao b.data.toList i++[u+ssig x 7 18 3+v+ssig y 17 19 10]:=by
     rw[ex,ey,eu,ev];exact Ωhs hk
    have cx:wr.cell? ⟨B+1,i-15,none⟩=some (.int .u32 (x.toNat:Int)):=by rw[ex];exact(h4.ws.cell _).trans (Ωbt (by omega))
    have cy:wr.cell? ⟨B+1,i-2,none⟩=some (.int .u32 (y.toNat:Int)):=by rw[ey];exact(h4.ws.cell _).trans (Ωbt (by omega))
    have cu:wr.cell? ⟨B+1,i-16,none⟩=some (.int .u32 (u.toNat:Int)):=by rw[eu];exact(h4.ws.cell _).trans (Ωbt (by omega))
    have cv:wr.cell? ⟨B+1,i-7,none⟩=some (.int .u32 (v.toNat:Int)):=by rw[ev];exact(h4.ws.cell _).trans (Ωbt (by omega))
    have cz:=(h4.ws.cell i).trans (Ωef (Ωnv i) h64)
    have fz:=h4.ws.frozen i
    have H4:=Θ h4
    have HS:=Θ hs
    clear h4 hs ex ey eu ev
    have i15:IntKind.i64.wrap ((i:Int)-15)=(i:Int)-15:=ΩnH _ (by omega)
    have i2:IntKind.i64.wrap ((i:Int)-2)=(i:Int)-2:=ΩnH _ (by omega)
    have i16:IntKind.i64.wrap ((i:Int)-16)=(i:Int)-16:=ΩnH _ (by omega)
    have i7:IntKind.i64.wrap ((i:Int)-7)=(i:Int)-7:=ΩnH _ (by omega)
    have n15:((i:Int)-15).toNat =i-15:=by omega
    have n2:((i:Int)-2).toNat =i-2:=by omega
    have n16:((i:Int)-16).toNat =i-16:=by omega
    have n7:((i:Int)-7).toNat =i-7:=by omega
    have p15:0≤(i:Int)-15:=by omega
    have p2:0≤(i:Int)-2:=by omega
    have p16:0≤(i:Int)-16:=by omega
    have p7:0≤(i:Int)-7:=by omega
    have q15:(i:Int)-15<64:=by omega
    have q2:(i:Int)-2<64:=by omega
    have q16:(i:Int)-16<64:=by omega
    have q7:(i:Int)-7<64:=by omega
    have R7:=Θ (ΩdO x 7 7 rfl (by omega))
    have R18:=Θ (ΩdO x 18 18 rfl (by omega))
    have R17:=Θ (ΩdO y 17 17 rfl (by omega))
    have R19:=Θ (ΩdO y 19 19 rfl (by omega))
    go_wp2_with fail
    refine ΩbM 29 (by kernel_rfl) (by kernel_rfl) ?_
    simp only[Ωoc,Ωoz,Ωon,List.drop_zero]
    repeat(go_big_quiet_step (first
     |((with_reducible refine Calls.quiet_of (R7.out _)))
     |((with_reducible refine Calls.quiet_of (R18.out _)))
     |((with_reducible refine Calls.quiet_of (R17.out _)))
     |((with_reducible refine Calls.quiet_of (R19.out _)))))
    refine wpQuiet_nil ?_
    intro nq
    go_wp2_with fail
    go_roundw
    case rel=>
     refine⟨i+1,by go_num,by omega,?_⟩
     rw[Ωkd x 3 8 (by decide),Ωkd y 10 1024 (by decide),ΩdG,ΩdG,ΩdG,ΩdG,Ωmx]
     exact(H4.out.drewN nq).put h64 _ HS.out
    case measure=>simp[intOf];omega
  ·obtain rfl:i=64:=by omega
   have H4:=Θ h4
   clear h4
   have i53:(Tryz.prog.info? 174).map (·.size)=some 8:=by kernel_rfl
   have I53:=Θ i53
   clear i53
   have tok1:True:=trivial
   have tok2:True:=trivial
   go_wp2_with (first
    |(have _t:=tok1;refine wpList_load_row rfl 174 (.tmp 2) rfl w.heap.size rfl 174 s.vals.toArray (0,0) _ H4.out.box Tryz.underlying174 rfl I53.out ?_;clear tok1 _t)
    |(have _t:=tok2;refine wpList_store_mid rfl 174 (.tmp 10) (.tmp 92) rfl wr.heap.size 0 s.vals.toArray rfl rfl (Ωbg wr 174 _ 8 (Ωnv _)) I53.out (ΩfH s) ?_;clear tok2 _t))
   refine Ωf (RV w.heap.size B wr.heap.size s b.data.toList s w) ?hR ?_
   case hR=>
    refine rv_start ?_ ?_ H4.out
    ·first|rfl|simp
    ·rfl
   obtain⟨V,hV⟩:∃V,V=wr.heap.size:=⟨_,rfl⟩
   rw[←hV]
   intro W4 h5
   have H5:=Θ h5
   clear h5 H4 hV
   go_loopw [11] (fun v wr=>∃(j:Nat) (t:St),t=rnds s (Ωao b.data.toList 64) j∧v= .int .i64 j∧j≤64∧RV w.heap.size B V s b.data.toList t w wr) (fun v _=>64-(intOf v).toNat)
   case atStart=>exact⟨0,s,rfl,rfl,by omega,H5.out⟩
   case round=>
    clear H5
    obtain⟨j,t,ht,rfl,hj,h6⟩:=hrel
    by_cases h64:j<64
    ·obtain⟨kk,ek⟩:∃kk,kk=shaK.getD j 0:=⟨_,rfl⟩
     obtain⟨ww,ew⟩:∃ww,ww=(Ωao b.data.toList 64).getD j 0:=⟨_,rfl⟩
     have ht' :rnd t kk ww=rnds s (Ωao b.data.toList 64) (j+1):=by rw[ht,ek,ew];rfl
     have cw:wr.cell? ⟨B+1,j,none⟩=some (.int .u32 (ww.toNat:Int)):=by rw[ew];exact(h6.rb.ws.cell _).trans (Ωbt h64)
     have ck:wr.cell? ⟨B,j,none⟩=some (.int .u32 (kk.toNat:Int)):=by rw[ek];exact(h6.rb.ks.cell _).trans (ΩkH h64)
     have e0:wr.cell? ⟨V,0,none⟩=some (.int .u32 (t.a.toNat:Int)):=(h6.v.cell 0).trans rfl
     have e1:wr.cell? ⟨V,1,none⟩=some (.int .u32 (t.b.toNat:Int)):=(h6.v.cell 1).trans rfl
     have e2:wr.cell? ⟨V,2,none⟩=some (.int .u32 (t.c.toNat:Int)):=(h6.v.cell 2).trans rfl
     have e3:wr.cell? ⟨V,3,none⟩=some (.int .u32 (t.d.toNat:Int)):=(h6.v.cell 3).trans rfl
     have e4:wr.cell? ⟨V,4,none⟩=some (.int .u32 (t.e.toNat:Int)):=(h6.v.cell 4).trans rfl
     have e5:wr.cell? ⟨V,5,none⟩=some (.int .u32 (t.f.toNat:Int)):=(h6.v.cell 5).trans rfl
     have e6:wr.cell? ⟨V,6,none⟩=some (.int .u32 (t.g.toNat:Int)):=(h6.v.cell 6).trans rfl
     have e7:wr.cell? ⟨V,7,none⟩=some (.int .u32 (t.h.toNat:Int)):=(h6.v.cell 7).trans rfl
     have hth:∀q,Blk (wr.drewN q) V 174 t.vals.toArray:=fun q=>h6.v.drewN q
     have HTH:=Θ hth
     have HT:=Θ ht'
     have H6:=Θ h6
     clear ht ek ew ht' h6 hth
     have R6:=Θ (ΩdO t.e 6 6 rfl (by omega))
     have R11:=Θ (ΩdO t.e 11 11 rfl (by omega))
     have R25:=Θ (ΩdO t.e 25 25 rfl (by omega))
     have R2:=Θ (ΩdO t.a 2 2 rfl (by omega))
     have R13:=Θ (ΩdO t.a 13 13 rfl (by omega))
     have R22:=Θ (ΩdO t.a 22 22 rfl (by omega))
     have tok1:True:=trivial
     go_wp2_with fail
     go_quiet (first
      |((with_reducible refine Calls.quiet_of (R6.out _)))
      |((with_reducible refine Calls.quiet_of (R11.out _)))
      |((with_reducible refine Calls.quiet_of (R25.out _))))
     go_wp2_with fail
     go_quiet (first
      |((with_reducible refine Ωd7 R2.out))
      |((with_reducible refine Ωd7 R13.out))
      |((with_reducible refine Ωd7 R22.out)))
     go_wp2_with (have _t:=tok1;refine wpList_store8 rfl 174 (.tmp 10) (.tmp 174) rfl V rfl rfl (HTH.out _) rfl I53.out ?_;clear tok1 _t;intro w9 hw9)
     go_roundw
     case rel=>
      refine⟨j+1,rnd t kk ww,HT.out,by go_num,by omega,?_⟩
      rw[hw9.out]
      refine(H6.out.drewN _).put _ ?_
      refine ΩgY ?_ (ΩgY rfl (ΩgY rfl (ΩgY rfl (ΩgY ?_ rfl))))
      ·show Value.int IntKind.u32 _=Value.int IntKind.u32 ((t.h+(rr t.e 6^^^rr t.e 11^^^rr t.e 25)+((t.e&&& t.f)^^^(~~~t.e&&& t.g))+kk+ww+((rr t.a 2^^^rr t.a 13^^^rr t.a 22)+((t.a&&& t.b)^^^(t.a&&& t.c)^^^(t.b&&& t.c)))).toNat :Int)
       simp only[Ωke,ΩhW,ΩdG]
       congr 1
       simp only[BitVec.toNat_add]
       omega
      ·show Value.int IntKind.u32 _=Value.int IntKind.u32 ((t.d+(t.h+(rr t.e 6^^^rr t.e 11^^^rr t.e 25)+((t.e&&& t.f)^^^(~~~t.e&&& t.g))+kk+ww)).toNat :Int)
       simp only[Ωke,ΩhW,ΩdG]
       congr 1
       simp only[BitVec.toNat_add]
       omega
     case measure=>simp[intOf];omega
    ·obtain rfl:j=64:=by omega
     have hcomp:comp s b.data.toList=s.add t:=by rw[ht];rfl
     have HC:=Θ hcomp
     have H6:=Θ h6
     clear ht hcomp h6
     go_wp2_with fail
     go_loopw [16] (fun v wr=>∃k:Nat,v= .int .i64 k∧k≤8∧RW w.heap.size V s t k w wr) (fun v _=>8-(intOf v).toNat)
     case atStart=>exact⟨0,rfl,by omega,H6.out.last⟩
     case round=>
      clear H6
      obtain⟨k,rfl,hk,h7⟩:=hrel
      by_cases h8:k<8
      ·obtain⟨x,ex⟩:∃x,x=sw t k:=⟨_,rfl⟩
       obtain⟨y,ey⟩:∃y,y=sw s k:=⟨_,rfl⟩
       have cx:wr.cell? ⟨V,k,none⟩=some (.int .u32 (x.toNat:Int)):=by rw[ex];exact(h7.v.cell k).trans (ΩfI t h8)
       have cy:wr.cell? ⟨w.heap.size,k,none⟩=some (.int .u32 (y.toNat:Int)):=by rw[ey];exact(h7.box.cell k).trans (ΩkA s t h8)
       have fz:=h7.box.frozen k
       have hset:=Ωkz s t h8
       rw[←ex,←ey] at hset
       have HSET:=Θ hset
       have H7:=Θ h7
       clear hset h7 ex ey
       go_wp2_with fail
       go_region
       go_wp2_with fail
       go_roundw
       case rel=>
        refine⟨k+1,by go_num,by omega,?_⟩
        rw[Ωm1]
        exact H7.out.put HSET.out
       case measure=>simp[intOf];omega
      ·obtain rfl:k=8:=by omega
       have HB7:=Θ h7.box
       have HR7:=Θ h7
       have hz8:(part s t 8).toArray.size =8:=rfl
       have hone:(part s t 8).toArray.all (·.oneCell')=true:=ΩfH (s.add t)
       have HONE:=Θ hone
       clear h7 hz8 hone
       have tok1:True:=trivial
       have tok2:True:=trivial
       go_wp2_with (first
        |(have _t:=tok1;refine wpList_load_row rfl 174 (.tmp 2) rfl w.heap.size rfl 174 (part s t 8).toArray (0,0) _ HB7.out Tryz.underlying174 rfl I53.out ?_;clear tok1 _t)
        |(have _t:=tok2;refine wpList_store_mid rfl 174 (.tmp 4) (.tmp 188) rfl (w.heap.size+1) 0 (part s t 8).toArray rfl rfl (HR7.out.res.there 0 8 (Ωnv _)) I53.out HONE.out ?_;clear tok2 _t))
       have hbf:=HR7.out.res.filled (part s t 8).toArray.toList rfl
       refine bodyPost_ret (Ωn rfl rfl hbf Tryz.underlying174 rfl I53.out) rfl ⟨?_,Ωb HR7.out.rest _ _ (.inr (by omega)) _⟩
       rw[HC.out]
       rfl
end
section
open Go.RowKit
theorem quiet_load_row{P:Program}{w:World}{o:Oper}{a:Act}{K:Act→Prop}(ty:TypeId)(x:Operand)(ho:o.op= .load ty x)(g:Nat)(hx:a.eval x= .pointer (some ⟨g,0,none⟩)){t:TypeId}{cs:Array Value}{d:TypeDesc}
  (hb:Blk w g t cs) (hu:P.underlying ty=some d) (hd:d.isRow=true) (hi:(P.info? ty).map (·.size)=some cs.size) (h:K (a.put o.dst (.agg cs))):o.quiet P a (fun w' =>∃q,w' =w.drewN q) K:=by
 refine⟨.agg cs,fun w' ⟨q,e⟩=> ?_,h⟩
 subst e
 have hr:(w.drewN q).rangeAt g 0 cs.toList:=fun j v hv=>by rw[ΩnR,(hb.drewN q).cell];simpa using hv
 have hl:=run_loadVar_mid (P:=P) (w.drewN q) g 0 ty cs.toList d hr hu hd (by simpa using hi)
 unfold Oper.quietAt execOp
 simp only[ho,hx,Instr.loadAt,Instr.sureAddr,Sem.run_bind,Sem.run_pure,Result.andThen_ok,hl]
 exact⟨rfl,by simp⟩
theorem be4_get(L:List W)(j r:Nat)(hr:r<4)(x:W)(hx:L[j]? =some x):(L.flatMap be4)[4*j+r]? =(be4 x)[r]? :=by
 induction L generalizing j with
 |nil=>simp at hx
 |cons y l ih=>
  rw[ΩnW]
  cases j with
  |zero=>
   simp at hx;subst hx
   rw[Ωn1 (by rw[Ωb5];omega)]
   simp
  |succ j=>
   rw[ΩnM (by rw[Ωb5];omega),Ωb5,show 4*(j+1)+r-4=4*j+r by omega]
   exact ih j (by simpa using hx)
theorem be4_at(x:W){r:Nat}(hr:r<4):(be4 x)[r]? =some (UInt8.ofNat (x.toNat/2^(8*(3-r)))):=by
 have:r=0∨r=1∨r=2∨r=3:=by omega
 rcases this with rfl|rfl|rfl|rfl<;>rfl
theorem words_get(t:St){j:Nat}(h:j<8):(Ωhh t)[j]? =some (sw t j):=by
 rcases Ωj2 h with rfl|rfl|rfl|rfl|rfl|rfl|rfl|rfl<;>rfl
theorem hashL_at(t:St){i:Nat}(h:i<32):(Ωea t)[i]? =some (UInt8.ofNat ((sw t (i/4)).toNat /2^(8*(3-i%4)))):=by
 have h1:=be4_get (Ωhh t) (i/4) (i%4) (by omega) (sw t (i/4)) (words_get t (by omega))
 rw[show 4*(i/4)+i%4=i by omega,be4_at _ (by omega)] at h1
 exact h1
theorem ΩeL(t:St):(Ωea t).length =32:=by rw[Ωea,Ωlc];rfl
def outB(t:St)(i:Nat):List Value:=((Ωea t).take i).map bv++List.replicate (32-i) (.int .u8 0)
theorem outB_set(t:St){i:Nat}(h:i<32):(outB t i).toArray.setIfInBounds i (bv (UInt8.ofNat ((sw t (i/4)).toNat /2^(8*(3-i%4)))))=(outB t (i+1)).toArray :=by
 have hl:(((Ωea t).take i).map bv).length =i:=by simp[ΩeL];omega
 have hg:=hashL_at t h
 have ht:(Ωea t).take (i+1)=(Ωea t).take i++[UInt8.ofNat ((sw t (i/4)).toNat /2^(8*(3-i%4)))]:=by
  rw[ΩnO,hg];rfl
 rw[outB,outB,ht,ΩnX,Ωof _ _ (by omega),hl,Nat.sub_self,show 32-i=(32-(i+1))+1 by omega,List.replicate_succ,Ωot,Ωow,ΩoA]
 rfl
theorem outB_size(t:St){i:Nat}(h:i≤32):(outB t i).toArray.size =32:=by simp[outB,ΩeL];omega
theorem outB_zero(t:St){i:Nat}(h:i<32):(outB t i).toArray[i]? =some (.int .u8 0):=by
 have hl:(((Ωea t).take i).map bv).length =i:=by simp[ΩeL];omega
 rw[outB,ΩnC,ΩnM (by omega),hl,List.getElem?_replicate,ΩnV (by omega)]
theorem ΩkB(t:St):outB t 32=(Ωea t).map bv:=by
 rw[outB,ΩnI (by rw[ΩeL];omega)];simp
theorem cut_piece(t:ByteArray)(i:Nat)(h:64*i+64≤t.size):(t.extract (64*i) (64*i+64)).size =64∧(t.extract (64*i) (64*i+64)).data.toList =Ωdc t.data.toList i:=by
 constructor
 ·rw[ByteArray.size_extract];omega
 ·rw[ByteArray.data_extract,Array.toList_extract]
  simp[Ωdc]
structure RS(A S:Nat)(t:St)(w wr:World):Prop where
 res:Blk wr A 35 (List.replicate 32 (Value.int .u8 0)).toArray
 st:Blk wr S 174 t.vals.toArray
 lt:A<S
 rest:Only Ωa w wr
 new:w.heap.size≤A
theorem RS.only{A S:Nat}{t:St}{w wr wx:World}(h:RS A S t w wr)(ho:Only Ωa wr wx):RS A S t w wx:=⟨h.res.only ho (fun h=>h),h.st.only ho (fun h=>h),h.lt,h.rest.trans ho,h.new⟩
theorem RS.put{A S:Nat}{t t' :St}{w wr:World}(h:RS A S t w wr)(ks:List Value)(hk:ks=t'.vals):RS A S t' w (wr.setCells S 0 ks):=by
 subst hk
 have:=h.lt;have:=h.new
 exact⟨h.res.farCells (by omega) _ 0,h.st.filled _ rfl,h.lt,Ωb h.rest _ _ (.inr (by omega)) _,h.new⟩
theorem rs_start{w:World}{z8 z32:Array Value}{ks:List Value}(hk:ks=st0.vals)(h8:z8.size=8)(h32:z32=(List.replicate 32 (Value.int .u8 0)).toArray):
  RS w.heap.size (w.heap.size+1) st0 w (((w.alloc (.cells z32 35)).alloc (.cells z8 174)).setCells (w.heap.size+1) 0 ks):=by
 subst hk h32
 have h1:=Blk.new (w.alloc (.cells (List.replicate 32 (Value.int .u8 0)).toArray 35)) 174 z8
 rw[Ωnw] at h1
 exact⟨((Blk.new w _ _).alloc _).farCells (by omega) _ 0,Blk.filled (xs:=z8.toList) (by simpa using h1) _ (by simp[h8];rfl),by omega,Ωb (((Only.refl Ωa w).alloc _).alloc _) _ _ (.inr (by omega)) _,Ωnv _⟩
structure RO(A S O:Nat)(t:St)(i:Nat)(w wr:World):Prop where
 out:Blk wr O 35 (outB t i).toArray
 rs:RS A S t w wr
 lt:S<O
theorem RO.put{A S O:Nat}{t:St}{i:Nat}{w wr:World}{v v' :Value}(h:RO A S O t i w wr)(hs:(outB t i).toArray.setIfInBounds i v=(outB t (i+1)).toArray)(hv:v' =v):RO A S O t (i+1) w (wr.setCell ⟨O,i,none⟩ v'):=by
 subst hv
 have h1:=h.out.set_ i v'
 rw[hs] at h1
 have:=h.lt;have:=h.rs.lt;have:=h.rs.new
 exact⟨h1,⟨h.rs.res.far (by show A≠O;omega) _,h.rs.st.far (by show S≠O;omega) _,h.rs.lt,h.rs.rest.setCell (.inr (by show _≤O;omega)) _,h.rs.new⟩,h.lt⟩
theorem Ωdx(s:ByteArray)(w:World)(hs:s.size≤35184372088832):
  Calls Tryz.prog 71 #[.string s] w fun e w' =>e= .returned (.agg ((shaL s.data.toList).map bv).toArray)∧Only Ωa w w' :=by
 have i53:(Tryz.prog.info? 174).map (·.size)=some 8:=by kernel_rfl
 have I53:=Θ i53
 clear i53
 go_enter Tryz.func71,Tryz.ntmps71
 have tok1:True:=trivial
 go_wp2_with (have _t:=tok1;refine wpList_store_mid rfl 174 (.tmp 3) (.tmp 8) rfl (w.heap.size+1) 0 st0.vals.toArray rfl rfl (by rw[←Ωnw w (.cells (Array.replicate 32 (.int .u8 0)) 35)];exact Ωbg _ 174 _ 8 (Ωnv _)) I53.out (ΩfH st0) ?_;clear tok1 _t)
 refine Ωdq (RS w.heap.size (w.heap.size+1) st0 w) ?hR ?_
 case hR=>
  refine rs_start ?_ ?_ ?_
  ·first|rfl|simp
  ·rfl
  ·rfl
 intro W1 h1
 have H1:=Θ h1
 clear h1
 refine(padded_any s W1 hs).mono ?_
 rintro e w2 ⟨⟨t,rfl,ht⟩,ho2⟩
 have hlen:=padded_len s.data.toList
 rw[←ht] at hlen
 obtain⟨m,hm⟩:∃m,t.size=64*m:=⟨t.size/64,by simp at hlen;omega⟩
 have H2:=Θ (H1.out.only ho2)
 have HT:=Θ ht
 have HM:=Θ hm
 have bt:t.size≤35184372089000:=by
  have:=congrArg List.length ht
  simp[Ωde,be8,padN] at this
  omega
 clear ht hm hlen ho2 H1
 go_wp2_with fail
 go_loopw [5] (fun v wr=>∃j:Nat,v= .int .i64 ((64*j:Nat):Int)∧j≤m∧RS w.heap.size (w.heap.size+1) (ΩgZ st0 t.data.toList j) w wr) (fun v _=>t.size-(intOf v).toNat)
 case atStart=>exact⟨0,rfl,by omega,H2.out⟩
 case round=>
  clear H2
  obtain⟨j,rfl,hj,h3⟩:=hrel
  have hmt:=HM.out
  by_cases hlt:j<m
  ·have hcp:=cut_piece t j (by omega)
   have hblk:=block_any (ΩgZ st0 t.data.toList j) (t.extract (64*j) (64*j+64)) hcp.1
   rw[hcp.2] at hblk
   have HBLK:=Θ hblk
   have H3:=Θ h3
   have l1:((64*j:Nat):Int)<(t.size:Int):=by omega
   have l2:64*(j:Int)<(t.size:Int):=by omega
   have l3:0≤64*(j:Int):=by omega
   have l4:(64*(j:Int)).toNat =64*j:=by omega
   have l5:IntKind.i64.wrap (64*(j:Int)+64)=64*(j:Int)+64:=ΩnH _ (by omega)
   have l6:(64*(j:Int)+64).toNat =64*j+64:=by omega
   have l7:64*(j:Int)+64≤(t.size:Int):=by omega
   have l8:0≤64*(j:Int)+64:=by omega
   have l9:64*(j:Int)≤64*(j:Int)+64:=by omega
   have e1:((64*j:Nat):Int)=64*(j:Int):=by omega
   have bts:t.size=64*m:=hmt
   have HBTS:=Θ bts
   clear hcp hblk h3 hmt bts
   go_wp2_with fail
   refine ΩbM 6 (by kernel_rfl) (by kernel_rfl) ?_
   simp only[Ωoc,Ωoz,Ωon,List.drop_zero]
   refine wpQuiet_step (fun K hK=> ?_)
   rw[ΩnV (by kernel_rfl)]
   refine quiet_load_row 174 (.tmp 3) rfl (w.heap.size+1) rfl H3.out.st Tryz.underlying174 rfl I53.out ?_
   go_simp
   refine hK _ ?_
   clear hK K
   repeat(go_big_quiet_step (fail))
   refine wpQuiet_nil ?_
   intro nq
   go_wp2_with fail
   refine(HBLK.out _).mono ?_
   rintro e w4 ⟨rfl,ho4⟩
   have h4:=(H3.out.only ((Only.refl Ωa wr).drewN nq)).only ho4
   have H4:=Θ h4
   clear h4 ho4
   obtain⟨t',et⟩:∃t',t' =comp (ΩgZ st0 t.data.toList j) (Ωdc t.data.toList j):=⟨_,rfl⟩
   rw[←et]
   have ET:=Θ et
   clear et
   have hv1:=ΩfH t'
   have HV1:=Θ hv1
   clear hv1
   have tok1:True:=trivial
   go_wp2_with (have _t:=tok1;refine wpList_store_mid rfl 174 (.tmp 3) (.tmp 23) rfl (w.heap.size+1) 0 t'.vals.toArray rfl rfl (H4.out.st.there 0 8 (Ωnv _)) I53.out HV1.out ?_;clear tok1 _t)
   go_roundw
   case rel=>
    refine⟨j+1,by go_num,by omega,?_⟩
    refine H4.out.put _ ?_
    rw[ET.out]
    first|rfl|simp[ΩgZ,Ωdc]
   case measure=>have:=HBTS.out;simp[intOf];omega
  ·obtain rfl:j=m:=by omega
   obtain⟨u,eu⟩:∃u,u=ΩgZ st0 t.data.toList j:=⟨_,rfl⟩
   rw[←eu] at h3
   have EU:=Θ eu
   have H3:=Θ h3
   have e1:((64*j:Nat):Int)=64*(j:Int):=by omega
   have l2:¬64*(j:Int)<(t.size:Int):=by omega
   have HMT:=Θ hmt
   clear eu h3 hmt
   go_wp2_with fail
   obtain⟨O,hO⟩:∃O,O=wr.heap.size:=⟨_,rfl⟩
   have hO2:=H3.out.st.lt
   have hro:RO w.heap.size (w.heap.size+1) O u 0 w (wr.alloc (.cells (Array.replicate 32 (.int .u8 0)) 35)):=⟨hO▸Blk.new wr _ _,(H3.out.only ((Only.refl Ωa wr).alloc _)),by omega⟩
   have HRO:=Θ hro
   rw[←hO]
   clear hO hro hO2
   go_loopw [7] (fun v wr=>∃i:Nat,v= .int .i64 i∧i≤32∧RO w.heap.size (w.heap.size+1) O u i w wr) (fun v _=>32-(intOf v).toNat)
   case atStart=>exact⟨0,rfl,by omega,HRO.out⟩
   case round=>
    clear HRO
    obtain⟨i,rfl,hi,h5⟩:=hrel
    by_cases h32:i<32
    ·obtain⟨x,ex⟩:∃x,x=sw u (i/4):=⟨_,rfl⟩
     have hset:=outB_set u h32
     rw[←ex] at hset
     have cs:wr.cell? ⟨w.heap.size+1,i/4,none⟩=some (.int .u32 (x.toNat:Int)):=by rw[ex];exact(h5.rs.st.cell _).trans (ΩfI u (by omega))
     have cz:=(h5.out.cell i).trans (outB_zero u h32)
     have fz:=h5.out.frozen i
     have d0:0≤(i:Int)/4:=by omega
     have d1:(i:Int)/4<8:=by omega
     have d2:((i:Int)/4).toNat =i/4:=by omega
     have HSET:=Θ hset
     have H5:=Θ h5
     have hr:i%4=0∨i%4=1∨i%4=2∨i%4=3:=by omega
     have EX:=Θ ex
     clear hset h5 ex
     rcases hr with hr|hr|hr|hr
     all_goals
      have hri:(i:Int)%4=((i%4:Nat):Int):=by omega
      have HR:=Θ hr
      rw[hr] at hri
      clear hr
      go_wp2_with fail
      go_roundw
      case rel=>
       refine⟨i+1,by go_num,by omega,?_⟩
       have hs:=HSET.out
       rw[HR.out] at hs
       refine H5.out.put hs ?_
       have:=x.isLt;simp[bv];try omega
      case measure=>simp[intOf];omega
    ·obtain rfl:i=32:=by omega
     have H5:=Θ h5
     have hz:=outB_size u (Ωnv 32)
     have hi41:(Tryz.prog.info? 35).map (·.size)=some (outB u 32).toArray.size :=by rw[hz];kernel_rfl
     have hone:(outB u 32).toArray.all (·.oneCell')=true:=by rw[ΩkB];exact all_oneCell_toArray (Ωck _)
     have HZ:=Θ hz
     have HI41:=Θ hi41
     have HONE:=Θ hone
     clear h5 hz hi41 hone
     have tok1:True:=trivial
     have tok2:True:=trivial
     go_wp2_with (first
      |(have _t:=tok1;refine wpList_load_row rfl 35 (.tmp 6) rfl O rfl 35 (outB u 32).toArray (0,0) _ H5.out.out Tryz.underlying35 rfl HI41.out ?_;clear tok1 _t)
      |(have _t:=tok2;refine wpList_store_mid rfl 35 (.tmp 2) (.tmp 40) rfl w.heap.size 0 (outB u 32).toArray rfl rfl (H5.out.rs.res.there 0 _ (by rw[HZ.out];exact Ωnv _)) HI41.out HONE.out ?_;clear tok2 _t))
     have hbf:=H5.out.rs.res.filled (outB u 32).toArray.toList (by rw[Array.length_toList,HZ.out];rfl)
     refine bodyPost_ret (Ωn rfl rfl hbf Tryz.underlying35 rfl (by simpa using HI41.out)) rfl ⟨?_,Ωb H5.out.rs.rest _ _ (.inr (Ωnv _)) _⟩
     have hsha:shaL s.data.toList=Ωea u:=by
      rw[EU.out,HT.out]
      exact ΩlG _ j (by rw[←HT.out];simpa using HMT.out)
     rw[hsha,←ΩkB]
end
end Go.Proofs.YtgalfohobgjelaaGreatDoor
