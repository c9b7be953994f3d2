/- What is proved here: a part of the proof that 'probitylaw31.ClientPlays' answers true. Conditions: each theorem's own. -/
import Derived.Test.YtgalfohobgjelaaGreatDoorPy11
import Derived.Great.BuildSlice
set_option maxRecDepth 100000
set_option maxHeartbeats 8000000
namespace Go.Proofs.YtgalfohobgjelaaGreatDoor
section
open Go.RowKit
open Go.Maps (Keyed)
noncomputable def grp(kf:Vt→Value)(l:List Vt)(x:Value):List Vt:=l.filter (fun v=>eqv (kf v) x)
theorem Ωl4{kf:Vt→Value}{l:List Vt}(h:Ω4 l)(x:Value):Ω4 (grp kf l x):=fun v hv=>h v (List.mem_filter.1 hv).1
theorem Ωl5(kf:Vt→Value)(l:List Vt)(x:Value):(grp kf l x).length≤l.length:=List.length_filter_le _ _
theorem grp_same(kf:Vt→Value)(l:List Vt)(v:Vt):grp kf (l++[v]) (kf v)=grp kf l (kf v)++[v]:=by
 unfold grp;rw[List.filter_append];simp[Ωbk]
theorem grp_other{kf:Vt→Value}{v:Vt}{x:Value}(h:kf v≠x)(l:List Vt):grp kf (l++[v]) x=grp kf l x:=by
 unfold grp;rw[List.filter_append];simp[ΩbE.2 h]
structure GrpO(w0:World)(k:TypeId)(kf:Vt→Value)(b n:Nat)(l:List Vt)(f:Value→Option Value)(W:World):Prop where
 map:MapV W Tryz.prog k b n f
 dom:∀x,f x=none↔∀v∈l,kf v≠x
 own:∀x sl,f x=some sl→ΩH W w0.heap.size sl (grp kf l x).length (grp kf l x)
 apart:∀x y sl sl',f x=some sl→f y=some sl'→x≠y→sl.ownBlock≠sl'.ownBlock
 only:Only Ωa w0 W
section
variable {w0 W:World} {k:TypeId} {kf:Vt→Value} {b n:Nat} {l:List Vt} {f:Value→Option Value}
theorem GrpO.keep{W' :World}(h:GrpO w0 k kf b n l f W)(ho:Only Ωa W W'):GrpO w0 k kf b n l f W' :=
 ⟨h.map.only ho (fun e=>e),h.dom,fun x sl hx=>Ωe (h.own x sl hx) ho (fun _ _ e=>e),h.apart,h.only.trans ho⟩
def slAt(f:Value→Option Value)(x:Value):Value:=(f x).getD (.slice none 0 0)
theorem GrpO.at_(h:GrpO w0 k kf b n l f W)(x:Value):ΩH W w0.heap.size (slAt f x) (grp kf l x).length (grp kf l x):=by
 unfold slAt
 cases hf:f x with
 |none=>
  have h1:grp kf l x=[]:=by
   unfold grp
   rw[List.filter_eq_nil_iff]
   intro v hv
   have:=(h.dom x).1 hf v hv
   simp[ΩbE.2 this]
  rw[h1]
  exact⟨rfl,.inl ⟨rfl,rfl⟩⟩
 |some s=>exact h.own x s hf
theorem GrpO.lt(h:GrpO w0 k kf b n l f W)(x:Value):∀g,(slAt f x).ownBlock =some g→w0.heap.size≤g∧g<W.heap.size:=fun _ hg=>ΩJ (h.at_ x) hg
structure AppD(w0:World)(k:TypeId)(kf:Vt→Value)(b n:Nat)(l:List Vt)(f:Value→Option Value)(v:Vt)(sl:Value)(W:World):Prop where
 map:MapV W Tryz.prog k b n f
 mine:ΩH W w0.heap.size sl (grp kf (l++[v]) (kf v)).length (grp kf (l++[v]) (kf v))
 own:∀x s,x≠kf v→f x=some s→ΩH W w0.heap.size s (grp kf l x).length (grp kf l x)
 apart2:∀x s,x≠kf v→f x=some s→s.ownBlock≠sl.ownBlock
 only:Only Ωa w0 W
theorem AppD.keep{v:Vt}{sl:Value}{W' :World}(h:AppD w0 k kf b n l f v sl W)(ho:Only Ωa W W'):AppD w0 k kf b n l f v sl W' :=
 ⟨h.map.only ho (fun e=>e),Ωe h.mine ho (fun _ _ e=>e),fun x s hx hf=>Ωe (h.own x s hx hf) ho (fun _ _ e=>e),h.apart2,h.only.trans ho⟩
theorem GrpO.append{v:Vt}(h:GrpO w0 k kf b n l f W){w1:World}{g cap:Nat}
  (hown:w1.ownsRow w0.heap.size 43 36 (.slice (some ⟨g,0,none⟩) ((grp kf l (kf v)).length +1) cap) ((grp kf l (kf v)).length +1) ((grp kf l (kf v)).flatMap vtC++vtC v))
  (hg:W.grownBy w1 (slAt f (kf v)).ownBlock) (hat:(slAt f (kf v)).ownBlock =some g∨g=W.heap.size):
  AppD w0 k kf b n l f v (.slice (some ⟨g,0,none⟩) ((grp kf l (kf v)).length +1) cap) w1:=by
 have hne:∀x s,x≠kf v→f x=some s→s.ownBlock≠(slAt f (kf v)).ownBlock :=fun x s hx hs e=>by
  cases hf:f (kf v) with
  |some s' =>exact h.apart x (kf v) s s' hs hf hx (by rw[e];unfold slAt;rw[hf];rfl)
  |none=>
   have h1:s.ownBlock=none:=by rw[e];unfold slAt;rw[hf];rfl
   have h2:grp kf l x≠[]:=fun h0=>by
    have h3:∀u∈l,kf u≠x:=fun u hu e2=>by
     have:u∈grp kf l x:=List.mem_filter.2 ⟨hu,by rw[e2];exact Ωbk _⟩
     rw[h0] at this;cases this
    rw[(h.dom x).2 h3] at hs;cases hs
   obtain⟨g',cap',rfl,_⟩:=Ωcd (h.own x s hs) (List.length_pos_iff.2 h2)
   cases h1
 refine⟨h.map.grown hg (fun e=>Ωaz (h.at_ (kf v)) h.map e.symm),?_,fun x s hx hs=>World.ownsRow.kept (h.own x s hs) hg (.inr (hne x s hx hs)),fun x s hx hs e=> ?_,h.only.grown hg (fun j e=> .inr (h.lt _ j e).1)⟩
 ·rw[grp_same,ΩnA]
  unfold ΩH
  rw[Ωn2,ΩnW,List.flatMap_nil,Ωox]
  exact hown
 ·rcases hat with h1|h1
  ·exact hne x s hx hs (by rw[e,h1];rfl)
  ·have h2:=(ΩJ (h.own x s hs) (g:=g) (by rw[e];rfl)).2
   omega
theorem AppD.fin{v:Vt}{sl:Value}{W0:World}(hd:GrpO w0 k kf b n l f W0)(h:AppD w0 k kf b n l f v sl W)(K:Keyed Tryz.prog k){t e:TypeId}(ht:Tryz.prog.underlying t=some (.map k e))(hn:n<maxLen){kl:Lit}(hkey:Go.keyOf Tryz.prog k (kf v)=some kl)(hb:w0.heap.size≤b):
  (Instr.mapUpdate t (.map (some b)) (kf v) sl).run Tryz.prog W= .ok () (ΩbO Tryz.prog t b (kf v) sl W)∧GrpO w0 k kf b (n+1) (l++[v]) (put1 f (kf v) sl) (ΩbO Tryz.prog t b (kf v) sl W)∧W.grownBy (ΩbO Tryz.prog t b (kf v) sl W) (some b):=by
 obtain⟨h1,h2,h3⟩:=h.map.put K ht hn hkey sl
 refine⟨h1,⟨h2,fun x=> ?_,fun x s hx=> ?_,fun x y s s' hx hy hxy=> ?_,h.only.grown h3 (fun j e=>by cases e;exact .inr hb)⟩,h3⟩
 ·by_cases e:x=kf v
  ·subst e
   rw[Ωa2]
   constructor
   ·intro h;cases h
   ·intro h;exact(h v (by simp) rfl).elim
  ·rw[Ωay e,hd.dom x]
   constructor
   ·intro h u hu
    rcases ΩoH.1 hu with hu|hu
    ·exact h u hu
    ·simp only[Ωn3,Ωol,or_false] at hu
     subst hu;exact fun e2=>e e2.symm
   ·intro h u hu;exact h u (List.mem_append_left _ hu)
 ·by_cases e:x=kf v
  ·subst e
   rw[Ωa2] at hx
   cases hx
   exact World.ownsRow.kept h.mine h3 (.inr (Ωaz h.mine h.map))
  ·rw[Ωay e] at hx
   rw[grp_other (fun e2=>e e2.symm)]
   exact World.ownsRow.kept (h.own x s e hx) h3 (.inr (Ωaz (h.own x s e hx) h.map))
 ·by_cases e:x=kf v
  ·subst e
   rw[Ωa2] at hx
   rw[Ωay (fun e2=>hxy e2.symm)] at hy
   cases hx
   exact fun e2=>h.apart2 y s' (fun e3=>hxy e3.symm) hy e2.symm
  ·rw[Ωay e] at hx
   by_cases e' :y=kf v
   ·subst e'
    rw[Ωa2] at hy
    cases hy
    exact h.apart2 x s e hx
   ·rw[Ωay e'] at hy
    exact hd.apart x y s s' hx hy hxy
end
def GrpR(w:World)(k:TypeId)(kf:Vt→Value)(b n:Nat)(l:List Vt)(f:Value→Option Value):Prop:=
 MapV w Tryz.prog k b n f∧(∀x,f x=none↔∀v∈l,kf v≠x)∧∀x sl,f x=some sl→VtSl w sl (grp kf l x)
theorem GrpO.read{w0 W:World}{k:TypeId}{kf:Vt→Value}{b n:Nat}{l:List Vt}{f:Value→Option Value}(h:GrpO w0 k kf b n l f W)(hl:Ω4 l):GrpR W k kf b n l f:=
 ⟨h.map,h.dom,fun x sl hx=>(h.own x sl hx).sl (Ωl4 hl x)⟩
theorem GrpR.only{w w' :World}{k:TypeId}{kf:Vt→Value}{b n:Nat}{l:List Vt}{f:Value→Option Value}(h:GrpR w k kf b n l f)(ho:Only Ωa w w'):GrpR w' k kf b n l f:=
 ⟨h.1.only ho (fun e=>e),h.2.1,fun x sl hx=>(h.2.2 x sl hx).only ho⟩
structure GrS(w0:World)(N:Nat)(v:Vt)(W:World):Prop where
 at_:VtAt W N v
 only:Only Ωa w0 W
def NewB(g:Nat)(v:Vt)(W:World):Prop:=Blk W g tVt (vtC v).toArray
theorem NewB.new(W:World)(v:Vt):NewB W.heap.size v (W.alloc (.cells (vtC v).toArray 43)):=Blk.new W _ _
theorem NewB.newd(W:World)(v:Vt):NewB W.heap.size v (W.alloc (.cells (vtC v).toArray 43)).drew :=Blk.new W _ _
theorem NewB.keep{g:Nat}{v:Vt}{W W' :World}(h:NewB g v W)(ho:Only Ωa W W'):NewB g v W' :=Blk.only h ho (fun e=>e)
theorem Ωg9(v:Vt)(hl:v.head.root.length=32)(W:World):(Ωm9 #[(0,.agg (vtC v).toArray)]).run Tryz.prog W= .ok (.slice (some ⟨W.heap.size,0,none⟩) 1 1) (W.alloc (.cells (vtC v).toArray 43)):=by
 obtain⟨ie,z,hie,hsz,hz,hzc,hby⟩:=ΩdY
 have h36:(vtC v).length =36:=Ω0 hl
 have e:([Value.agg (vtC v).toArray].flatMap fun u=>u.cells.toList).toArray =(vtC v).toArray :=by simp[Value.cells]
 have h9:∀C:Array Value,C.size=36→Instr.fill (fun i=>some (i*36,36)) C [(0,Value.agg (vtC v).toArray)]=some (vtC v).toArray :=fun C hC=>by
  have h8:=Great.fill_whole (s:=36) (by omega) [Value.agg (vtC v).toArray] C (by intro u hu;simp only[Ωn3,Ωol,or_false] at hu;subst hu;show(vtC v).toArray.size =36;rw[ΩnJ,h36]) (by rw[hC];rfl)
  rw[e] at h8
  exact h8
 exact run_buildSlice (P:=Tryz.prog) W 32 43 1 #[(0,.agg (vtC v).toArray)] (vtC v).toArray ie z Tryz.underlying32 hie hz (by rw[hsz];omega) (by rw[hsz];omega) (by rw[hsz];exact h9 _ (by simp))
end
section
open Go.RowKit Go.Shelf
open Go.Maps (Keyed)
attribute [local go_sem ↓ high] Ωaj Ωb9 ΩaV ΩcG
def whoK(v:Vt):Value:= .int .i64 v.who
theorem whoK_key{v:Vt}(vo:v.Ok):∃kl,Go.keyOf Tryz.prog 3 (whoK v)=some kl:=⟨_,ΩgE vo.who⟩
theorem Ωee(w:World):(zeroValue 32).run Tryz.prog w= .ok (.slice none 0 0) w:=by kernel_rfl
theorem gwho_any(L:List Vt)(hok:Ω4 L)(hlen:L.length≤100000)(sv:Value)(w:World)(hs:VtSl w sv L):
  Calls Tryz.prog 135 #[sv,.func (.func 136) #[] #[]] w fun e w' =>∃b n f,e= .returned (.map (some b))∧n≤100000∧w.heap.size≤b∧GrpR w' 3 whoK b n L f∧Only Ωa w w' :=by
 obtain⟨ie,z,hie,hsz,hz,hzc,hby⟩:=ΩdY
 obtain⟨A,cap,rfl,hlc,hcm,hA⟩:=hs
 obtain⟨b,eb⟩:∃b,b=w.heap.size:=⟨_,rfl⟩
 have hs0:GrpO w 3 whoK b 0 [] (fun _=>none) (w.alloc (.map #[] 0)):=by
  refine⟨by rw[eb];exact MapV.made w Tryz.prog 3,fun x=>⟨fun _ v h=>(by cases h),fun _=>rfl⟩,fun x sl h=>(by cases h),fun x y s s' h=>(by cases h),(Only.refl _ _).alloc _⟩
 have HS0:=Θ hs0
 have HA:=Θ hA
 have HOK:=Θ hok
 have HIE:=Θ hie
 have HSZ:=Θ hsz
 have HZ:=Θ hz
 have HZC:=Θ hzc
 have HBY:=Θ hby
 have HEB:=Θ eb
 have hwb:w.heap.size≤b:=by omega
 clear hs0 hA hok hie hsz hz hzc hby eb
 have hmm:= @run_makeMap Tryz.prog
 go_enter Tryz.func135,Tryz.ntmps135
 go_upto_region 2 with(fail)
 rw[←HEB.out]
 refine Ωf (GrpO w 3 whoK b 0 [] (fun _=>none)) HS0.out ?_
 intro Y hY
 have HY:=Θ hY
 clear hY HS0 hmm
 go_wp2_with fail
 go_loopw [7,11] (fun _ i wr=>∃(k:Nat) (f:Value→Option Value),i= .int .i64 k∧k≤L.length∧GrpO w 3 whoK b k (L.take k) f wr) (fun _ i _=>L.length-(intOf i).toNat)
 case atStart=>exact⟨0,_,rfl,Ωoh _,HY.out⟩
 case round=>
  obtain⟨k,f,rfl,hk,hS⟩:=hrel
  by_cases hlt:k<L.length
  ·obtain⟨v,hv⟩:∃v,L[k]? =some v:=⟨_,Ωnu hlt⟩
   obtain⟨g,o,hA',hg,hr⟩:=HA.out k v hv
   subst hA'
   have vo:=HOK.out v (ΩnE hv)
   have hl:=vo.head.root
   have hld:=ΩX (Ωu hr hS.only) hl
   have hnw:=ΩbZ
   obtain⟨N,eN⟩:∃N,N=wr.heap.size:=⟨_,rfl⟩
   have hb0:Blk (wr.alloc (.cells vt0C 43)) N tVt vt0C:=by rw[eN];exact Blk.new wr _ _
   have hst:=Ωek hb0 rfl hl
   rw[eN] at hst
   have hb1:VtAt ((wr.alloc (.cells vt0C 43)).setCells N 0 (vtC v)) N v:=Ωj hb0 (by rw[Ω0 hl];rfl)
   have hO1:Only Ωa wr ((wr.alloc (.cells vt0C 43)).setCells N 0 (vtC v)):=Ωb ((Only.refl _ _).alloc _) N 0 (.inr (by omega)) _
   have htk:L.take (k+1)=L.take k++[v]:=by rw[ΩnO,hv,ΩnS]
   have ik:(k:Int)<(L.length:Int):=by omega
   have hvN:∀g0,(slAt f (whoK v)).ownBlock =some g0→w.heap.size≤g0∧g0<N:=fun g0 h0=>by rw[eN];exact hS.lt _ g0 h0
   obtain⟨kl,hkl⟩:=whoK_key vo
   have HS:=Θ hS
   have HVO:=Θ vo
   have HB1:=Θ hb1
   have HO1:=Θ hO1
   have EN:=Θ eN
   have HTK:=Θ htk
   have HVN:=Θ hvN
   have HKL:=Θ hkl
   have hNw:w.heap.size≤N:=by have:=hS.only.size;omega
   clear hS hv vo hb0 hb1 hO1 eN htk hvN hkl hr
   go_upto_region 5 with(fail)
   rw[←EN.out]
   refine Ωf (fun Z=>VtAt Z N v∧GrpO w 3 whoK b k (L.take k) f Z) ⟨HB1.out,HS.out.keep HO1.out⟩ ?_
   rintro Z ⟨hzb,hzs⟩
   clear hld hst hnw
   obtain⟨v0,ev0⟩:∃v0,v0=slAt f (whoK v):=⟨_,rfl⟩
   obtain⟨m,em⟩:∃m,m=(grp whoK (L.take k) (whoK v)).length :=⟨_,rfl⟩
   obtain⟨C,eC⟩:∃C,C=(grp whoK (L.take k) (whoK v)).flatMap vtC:=⟨_,rfl⟩
   have hml:m≤100000:=by rw[em];exact Ωnz (Ωl5 _ _ _) (Ωnz (ΩoM _ _) (by omega))
   have hS0:GrS w N v Z.drew:=⟨Blk.drew hzb,hzs.only.drew⟩
   have hG0:GrpO w 3 whoK b k (L.take k) f Z.drew:=hzs.keep (Only.refl _ _).drew
   have hld2:∀W,GrS w N v W→(Ωbm (.pointer (some ⟨N,0,none⟩))).run Tryz.prog W= .ok (.agg (vtC v).toArray) W:=fun W h=>ΩX (Ωd h.at_) hl
   have hlk:∀W,GrpO w 3 whoK b k (L.take k) f W→(Instr.lookup 142 (.map (some b)) (.int .i64 v.who) false).run Tryz.prog W= .ok v0 W:=fun W h=>by
    rw[ev0]
    exact h.map.look Ωbj Tryz.underlying142 (Ωee _) HKL.out
   have hgal:∀(W:World) o,GrpO w 3 whoK b k (L.take k) f W.drew→GrpO w 3 whoK b k (L.take k) f (W.alloc o).drew :=fun W o h=>GrpO.keep (W:=W.drew) (W' :=(W.alloc o).drew) h ((Only.refl _ W.drew).alloc o)
   have hgal2:∀(W:World) o,GrpO w 3 whoK b k (L.take k) f W→GrpO w 3 whoK b k (L.take k) f (W.alloc o):=fun W o h=>h.keep ((Only.refl _ W).alloc o)
   have hbs:=Ωg9 v hl
   have hmu:∀W sl,AppD w 3 whoK b k (L.take k) f v sl W→(Instr.mapUpdate 142 (.map (some b)) (.int .i64 v.who) sl).run Tryz.prog W= .ok () (ΩbO Tryz.prog 142 b (whoK v) sl W):=fun W sl h=>(h.fin HS.out Ωbj Tryz.underlying142 (by rw[Ωg];omega) HKL.out hwb).1
   have HCB:Hid (∀W,Calls Tryz.prog 136 #[.agg (vtC v).toArray] W fun e w' =>e= .returned (.int .i64 v.who)∧Only Ωa W w'):=Θ (fun W=>by have vo:=HVO.out;exact qwho_any v W)
   have HSK:Hid (∀W W',GrS w N v W→Only Ωa W W'→GrS w N v W'):=Θ (fun W W' h ho=>⟨Blk.only h.at_ ho (fun e=>e),h.only.trans ho⟩)
   have HSA:Hid (∀(W:World) o,GrS w N v W.drew→GrS w N v (W.alloc o).drew):=Θ (fun W o h=>⟨Blk.alloc (w:=W.drew) h.at_ o,(h.only).trans ((Only.refl _ W.drew).alloc o)⟩)
   have HSA2:Hid (∀(W:World) o,GrS w N v W→GrS w N v (W.alloc o)):=Θ (fun W o h=>⟨Blk.alloc h.at_ o,h.only.alloc o⟩)
   have HGK:Hid (∀W W',GrpO w 3 whoK b k (L.take k) f W→Only Ωa W W'→GrpO w 3 whoK b k (L.take k) f W'):=Θ (fun W W' h ho=>h.keep ho)
   have HAK:Hid (∀W W' sl,AppD w 3 whoK b k (L.take k) f v sl W→Only Ωa W W'→AppD w 3 whoK b k (L.take k) f v sl W'):=Θ (fun W W' sl h ho=>h.keep ho)
   have HOW:Hid (∀W,GrpO w 3 whoK b k (L.take k) f W→W.ownsRow w.heap.size 43 36 v0 m C):=Θ (fun W h=>by rw[ev0,em,eC];exact h.at_ _)
   have HAP:Hid (∀W w1 g cap,GrpO w 3 whoK b k (L.take k) f W→w1.ownsRow w.heap.size 43 36 (.slice (some ⟨g,0,none⟩) (m+1) cap) (m+1) (C++vtC v)→W.grownBy w1 v0.ownBlock→(v0.ownBlock=some g∨g=W.heap.size)→AppD w 3 whoK b k (L.take k) f v (.slice (some ⟨g,0,none⟩) (m+1) cap) w1):=Θ (fun W w1 g cap h h1 h2 h3=>by
    rw[em,eC] at h1;rw[ev0] at h2 h3;rw[em];exact h.append h1 h2 h3)
   have HSP:Hid (∀W w1,GrS w N v W→W.grownBy w1 v0.ownBlock→GrS w N v w1):=Θ (fun W w1 h hg=>⟨Blk.grown h.at_ hg (fun e=>by have:=(HVN.out N (by rw[←ev0];exact e.symm)).2;omega),h.only.grown hg (fun j e=> .inr (HVN.out j (by rw[←ev0];exact e)).1)⟩)
   have HSM:Hid (∀W sl,AppD w 3 whoK b k (L.take k) f v sl W→GrS w N v W→GrS w N v (ΩbO Tryz.prog 142 b (whoK v) sl W)):=Θ (fun W sl h hs=>by
    obtain⟨_,h2,h3⟩:=h.fin HS.out Ωbj Tryz.underlying142 (by rw[Ωg];omega) HKL.out hwb
    refine⟨Blk.grown hs.at_ h3 (fun e=> ?_),h2.only⟩
    have:N=b:=Option.some.inj e
    subst this
    obtain⟨D,⟨es,clock,hb9,_⟩,_⟩:=h.map
    have:=hs.at_
    unfold VtAt Blk at this
    rw[this] at hb9;cases hb9)
   have HFIN:Hid (∀W sl,AppD w 3 whoK b k (L.take k) f v sl W→GrpO w 3 whoK b (k+1) (L.take (k+1)) (put1 f (whoK v) sl) (ΩbO Tryz.prog 142 b (whoK v) sl W)):=Θ (fun W sl h=>by
    rw[HTK.out];exact(h.fin HS.out Ωbj Tryz.underlying142 (by rw[Ωg];omega) HKL.out hwb).2.1)
   have HWN:Hid (∀W,GrS w N v W→w.heap.size≤W.heap.size):=Θ (fun W h=>h.only.size)
   have HCM:Hid (C.length=m*36):=Θ (by rw[em,eC];exact ΩdX _ (Ωl4 (fun x hx=>HOK.out x (ΩnY hx)) _))
   clear hzb hzs hl ev0 em eC
   go_region_held3 (fun w' =>GrS w N v w') (first|(with_reducible assumption)|(with_reducible exact HSA.out _ _ (by with_reducible assumption))|(with_reducible exact HSA2.out _ _ (by with_reducible assumption))|(with_reducible exact HSM.out _ _ (by with_reducible assumption) (by with_reducible assumption)))
    (first
     |(refine step_append_lies _ (by rfl) _ _ _ (by rfl) w.heap.size 43 ie z 36 ie.bytes Tryz.underlying32 HIE.out HZ.out HSZ.out rfl HZC.out (by omega) v0 m C (by rfl) (HOW.out _ (by first|(with_reducible assumption)|(with_reducible exact hgal _ _ (by with_reducible assumption))|(with_reducible exact hgal2 _ _ (by with_reducible assumption)))) _ 1 1 (vtC v) (by rfl) (by rw[Ω0 HVO.out.head.root]) (World.news_of_block (cs:=(vtC v).toArray) (t:=43) (fr:=(0,0)) (by first|exact(show NewB _ v _ from by with_reducible assumption)|exact(NewB.new _ v)|exact(NewB.newd _ v))) (Ωc2 v) (by omega) (by rw[Ωg];omega) (by have:=HBY.out;exact Ωnz (Ωov (show m+1≤100001 by omega) this) (by omega)) (HWN.out _ (by first|(with_reducible assumption)|(with_reducible exact HSA.out _ _ (by with_reducible assumption))|(with_reducible exact HSA2.out _ _ (by with_reducible assumption)))) _ rfl ?_;intro g2 cap2 w2 hown2 hgrow2 hat2 hlt2;have hS2:=HSP.out _ w2 (by first|(with_reducible assumption)|(with_reducible exact HSA.out _ _ (by with_reducible assumption))|(with_reducible exact HSA2.out _ _ (by with_reducible assumption))) hgrow2;have hAD:=HAP.out _ w2 g2 cap2 (by first|(with_reducible assumption)|(with_reducible exact hgal _ _ (by with_reducible assumption))|(with_reducible exact hgal2 _ _ (by with_reducible assumption))) hown2 hgrow2 hat2;clear hown2 hgrow2 hat2 hlt2)
     |(go_at_call 136;refine(HCB.out _).mono ?_;rintro e5 w5 ⟨rfl,ho5⟩;have hS5:=HSK.out _ _ (by first|(with_reducible assumption)|(with_reducible exact HSA.out _ _ (by with_reducible assumption))|(with_reducible exact HSA2.out _ _ (by with_reducible assumption))) ho5;(first|(have hA5:=HAK.out _ _ _ (by with_reducible assumption) ho5)|(have hG5:=HGK.out _ _ (by first|(with_reducible assumption)|(with_reducible exact hgal _ _ (by with_reducible assumption))|(with_reducible exact hgal2 _ _ (by with_reducible assumption))) ho5));(first|(have hN5:=NewB.keep (by with_reducible assumption) ho5)|(have hN5:=NewB.keep (NewB.new _ v) ho5)|(have hN5:=NewB.keep (NewB.newd _ v) ho5)|skip);clear ho5))
   all_goals
    have hnew:=HFIN.out _ _ (by with_reducible assumption)
    have HNEW:=Θ hnew
    clear hnew hld2 hlk hgal hgal2 hbs hmu hS0 hG0
    go_wp2_with fail
    go_roundw
    case rel=>exact⟨k+1,_,by go_num,by omega,HNEW.out⟩
    case measure=>simp[intOf];omega
  ·obtain rfl:k=L.length:=by omega
   have hall:L.take L.length=L:=Ωok
   rw[hall] at hS
   have HR:=Θ (hS.read HOK.out)
   have HO:=Θ hS.only
   clear hS hall
   go_wp2_with fail
   go_ret
   exact⟨b,L.length,f,rfl,hlen,hwb,HR.out,HO.out⟩
end
section
open Go.RowKit
open Go.Maps (Keyed)
theorem Ωi3:laidOutB Tryz.prog=true:=by kernel_rfl
theorem hd_row:37<Tryz.prog.types.size:=Ωop (by kernel_rfl)
theorem hd_wide:(match Tryz.prog.underlying 37 with|some (.array _ _)|some (.struct _)=>true|_=>false)=true:=by rw[Tryz.underlying37]
theorem Ωl0:WideMaps.KeyLaw Tryz.prog 37:=deep_law_laid Ωi3 (m:=3) (by omega) hd_row (by kernel_rfl) hd_wide
theorem ΩeI:Keyed Tryz.prog 37:=Keyed.of_law Ωl0
theorem Ωji{α β:Type}{f:α→Option β}:∀l:List α,(∀x∈l,∃y,f x=some y)→∃r,l.mapM f=some r
 |[],_=>⟨[],rfl⟩
 |x::l,h=>by
  obtain⟨y,hy⟩:=h x (by simp)
  obtain⟨r,hr⟩:=Ωji l (fun z hz=>h z (by simp[hz]))
  exact⟨y::r,by rw[List.mapM_cons,hy,hr];rfl⟩
theorem Ωjk(d:Nat){n:Int}(h:In n):Tryz.prog.keyLits (d+1) 3 [.int .i64 n]=some [.int .i64 n]:=by
 unfold Program.keyLits
 rw[Tryz.underlying3]
 simp[Ωm7 h]
theorem kl_u8(d:Nat)(x:UInt8):∃r,Tryz.prog.keyLits (d+1) 5 [bv x]=some r:=by
 unfold Program.keyLits
 rw[Tryz.underlying5]
 have hw:(Lit.int .u8 (x.toNat:Int)).wf =true:=by
  have:=x.toNat_lt
  simp[Lit.wf,IntKind.min,IntKind.max,IntKind.signed,IntKind.bits];omega
 exact⟨[.int .u8 x.toNat],by simp[bv,hw]⟩
theorem cells_u8:Tryz.prog.cellsOf 5=1:=by kernel_rfl
theorem Ωfq:Tryz.prog.cellsOf 35=32:=by kernel_rfl
theorem ΩeU:Tryz.prog.cellsOf 3=1:=by kernel_rfl
theorem Ωf0:Tryz.prog.cellsOf 37=33:=by kernel_rfl
theorem ΩlU(d:Nat){l:List UInt8}(hl:l.length=32):∃r,Tryz.prog.keyLits (d+2) 35 (l.map bv)=some r:=by
 unfold Program.keyLits
 rw[Tryz.underlying35]
 simp only[Ωfq,ΩnN,hl,if_true,cells_u8,Nat.mul_one]
 obtain⟨r,hr⟩:=Ωji (f:=fun i=>Tryz.prog.keyLits (d+1) 5 (((l.map bv).drop i).take 1)) (List.range 32) (fun i hi=>by
  have hi2:i<l.length:=by rw[hl];exact List.mem_range.1 hi
  have e:((l.map bv).drop i).take 1=[bv l[i]]:=by
   rw[Ωn7 (by simpa using hi2)]
   simp
  simp only[e]
  exact kl_u8 d l[i])
 exact⟨r.flatten,by rw[hr];rfl⟩
theorem ΩmI{h:Hd}(ok:h.Ok):∃kl,Go.keyOf Tryz.prog 37 (.agg (hdC h).toArray)=some kl:=by
 have hl:=ok.root
 have hsz:2≤Tryz.prog.types.size:=Ωop (by kernel_rfl)
 obtain⟨d,hd⟩:∃d,Tryz.prog.types.size+1=d+3:=⟨Tryz.prog.types.size-2,by omega⟩
 have hkt:Tryz.prog.keyType 37=true:=by kernel_rfl
 have hf:(Value.agg (hdC h).toArray).formed Tryz.prog 37=true:=by
  unfold Value.formed
  rw[Tryz.underlying37]
  simp[Ωf0,Ωo hl]
 obtain⟨r,hr⟩:=ΩlU d hl
 have hkl:∃ls,Tryz.prog.keyLits (d+3) 37 (hdC h)=some ls:=by
  unfold Program.keyLits
  rw[Tryz.underlying37]
  simp[Ωf0,ΩeU,Ωfq,Ωjk (d+1) ok.size,hdC]
  exact⟨hl,by rw[ΩnI (by simp[hl]),hr];exact⟨_,rfl⟩⟩
 obtain⟨ls,hls⟩:=hkl
 unfold Go.keyOf
 rw[Tryz.underlying37]
 simp only[hkt,hf,Bool.and_self,if_true,hd,Value.cells]
 exact⟨_,by rw[hls];rfl⟩
end
section
open Go.RowKit Go.Shelf
open Go.Maps (Keyed)
attribute [local go_sem ↓ high] Ωaj Ωb9 ΩaV ΩcG
def ΩaR(v:Vt):Value:= .agg (hdC v.head).toArray
theorem headK_key{v:Vt}(vo:v.Ok):∃kl,Go.keyOf Tryz.prog 37 (ΩaR v)=some kl:=ΩmI vo.head
theorem zero_vts_headK(w:World):(zeroValue 32).run Tryz.prog w= .ok (.slice none 0 0) w:=by kernel_rfl
theorem ghead_any(L:List Vt)(hok:Ω4 L)(hlen:L.length≤100000)(sv:Value)(w:World)(hs:VtSl w sv L):
  Calls Tryz.prog 162 #[sv,.func (.func 163) #[] #[]] w fun e w' =>∃b n f,e= .returned (.map (some b))∧n≤100000∧w.heap.size≤b∧GrpR w' 37 ΩaR b n L f∧Only Ωa w w' :=by
 obtain⟨ie,z,hie,hsz,hz,hzc,hby⟩:=ΩdY
 obtain⟨A,cap,rfl,hlc,hcm,hA⟩:=hs
 obtain⟨b,eb⟩:∃b,b=w.heap.size:=⟨_,rfl⟩
 have hs0:GrpO w 37 ΩaR b 0 [] (fun _=>none) (w.alloc (.map #[] 0)):=by
  refine⟨by rw[eb];exact MapV.made w Tryz.prog 37,fun x=>⟨fun _ v h=>(by cases h),fun _=>rfl⟩,fun x sl h=>(by cases h),fun x y s s' h=>(by cases h),(Only.refl _ _).alloc _⟩
 have HS0:=Θ hs0
 have HA:=Θ hA
 have HOK:=Θ hok
 have HIE:=Θ hie
 have HSZ:=Θ hsz
 have HZ:=Θ hz
 have HZC:=Θ hzc
 have HBY:=Θ hby
 have HEB:=Θ eb
 have hwb:w.heap.size≤b:=by omega
 clear hs0 hA hok hie hsz hz hzc hby eb
 have hmm:= @run_makeMap Tryz.prog
 go_enter Tryz.func162,Tryz.ntmps162
 go_upto_region 2 with(fail)
 rw[←HEB.out]
 refine Ωf (GrpO w 37 ΩaR b 0 [] (fun _=>none)) HS0.out ?_
 intro Y hY
 have HY:=Θ hY
 clear hY HS0 hmm
 go_wp2_with fail
 go_loopw [7,11] (fun _ i wr=>∃(k:Nat) (f:Value→Option Value),i= .int .i64 k∧k≤L.length∧GrpO w 37 ΩaR b k (L.take k) f wr) (fun _ i _=>L.length-(intOf i).toNat)
 case atStart=>exact⟨0,_,rfl,Ωoh _,HY.out⟩
 case round=>
  obtain⟨k,f,rfl,hk,hS⟩:=hrel
  by_cases hlt:k<L.length
  ·obtain⟨v,hv⟩:∃v,L[k]? =some v:=⟨_,Ωnu hlt⟩
   obtain⟨g,o,hA',hg,hr⟩:=HA.out k v hv
   subst hA'
   have vo:=HOK.out v (ΩnE hv)
   have hl:=vo.head.root
   have hld:=ΩX (Ωu hr hS.only) hl
   have hnw:=ΩbZ
   obtain⟨N,eN⟩:∃N,N=wr.heap.size:=⟨_,rfl⟩
   have hb0:Blk (wr.alloc (.cells vt0C 43)) N tVt vt0C:=by rw[eN];exact Blk.new wr _ _
   have hst:=Ωek hb0 rfl hl
   rw[eN] at hst
   have hb1:VtAt ((wr.alloc (.cells vt0C 43)).setCells N 0 (vtC v)) N v:=Ωj hb0 (by rw[Ω0 hl];rfl)
   have hO1:Only Ωa wr ((wr.alloc (.cells vt0C 43)).setCells N 0 (vtC v)):=Ωb ((Only.refl _ _).alloc _) N 0 (.inr (by omega)) _
   have htk:L.take (k+1)=L.take k++[v]:=by rw[ΩnO,hv,ΩnS]
   have ik:(k:Int)<(L.length:Int):=by omega
   have hvN:∀g0,(slAt f (ΩaR v)).ownBlock =some g0→w.heap.size≤g0∧g0<N:=fun g0 h0=>by rw[eN];exact hS.lt _ g0 h0
   obtain⟨kl,hkl⟩:=headK_key vo
   have HS:=Θ hS
   have HVO:=Θ vo
   have HB1:=Θ hb1
   have HO1:=Θ hO1
   have EN:=Θ eN
   have HTK:=Θ htk
   have HVN:=Θ hvN
   have HKL:=Θ hkl
   have hNw:w.heap.size≤N:=by have:=hS.only.size;omega
   clear hS hv vo hb0 hb1 hO1 eN htk hvN hkl hr
   go_upto_region 5 with(fail)
   rw[←EN.out]
   refine Ωf (fun Z=>VtAt Z N v∧GrpO w 37 ΩaR b k (L.take k) f Z) ⟨HB1.out,HS.out.keep HO1.out⟩ ?_
   rintro Z ⟨hzb,hzs⟩
   clear hld hst hnw
   obtain⟨v0,ev0⟩:∃v0,v0=slAt f (ΩaR v):=⟨_,rfl⟩
   obtain⟨m,em⟩:∃m,m=(grp ΩaR (L.take k) (ΩaR v)).length :=⟨_,rfl⟩
   obtain⟨C,eC⟩:∃C,C=(grp ΩaR (L.take k) (ΩaR v)).flatMap vtC:=⟨_,rfl⟩
   have hml:m≤100000:=by rw[em];exact Ωnz (Ωl5 _ _ _) (Ωnz (ΩoM _ _) (by omega))
   have hS0:GrS w N v Z.drew:=⟨Blk.drew hzb,hzs.only.drew⟩
   have hG0:GrpO w 37 ΩaR b k (L.take k) f Z.drew:=hzs.keep (Only.refl _ _).drew
   have hld2:∀W,GrS w N v W→(Ωbm (.pointer (some ⟨N,0,none⟩))).run Tryz.prog W= .ok (.agg (vtC v).toArray) W:=fun W h=>ΩX (Ωd h.at_) hl
   have hlk:∀W,GrpO w 37 ΩaR b k (L.take k) f W→(Instr.lookup 211 (.map (some b)) (.agg (hdC v.head).toArray) false).run Tryz.prog W= .ok v0 W:=fun W h=>by
    rw[ev0]
    exact h.map.look ΩeI Tryz.underlying211 (zero_vts_headK _) HKL.out
   have hgal:∀(W:World) o,GrpO w 37 ΩaR b k (L.take k) f W.drew→GrpO w 37 ΩaR b k (L.take k) f (W.alloc o).drew :=fun W o h=>GrpO.keep (W:=W.drew) (W' :=(W.alloc o).drew) h ((Only.refl _ W.drew).alloc o)
   have hgal2:∀(W:World) o,GrpO w 37 ΩaR b k (L.take k) f W→GrpO w 37 ΩaR b k (L.take k) f (W.alloc o):=fun W o h=>h.keep ((Only.refl _ W).alloc o)
   have hbs:=Ωg9 v hl
   have hmu:∀W sl,AppD w 37 ΩaR b k (L.take k) f v sl W→(Instr.mapUpdate 211 (.map (some b)) (.agg (hdC v.head).toArray) sl).run Tryz.prog W= .ok () (ΩbO Tryz.prog 211 b (ΩaR v) sl W):=fun W sl h=>(h.fin HS.out ΩeI Tryz.underlying211 (by rw[Ωg];omega) HKL.out hwb).1
   have HCB:Hid (∀W,Calls Tryz.prog 163 #[.agg (vtC v).toArray] W fun e w' =>e= .returned (.agg (hdC v.head).toArray)∧Only Ωa W w'):=Θ (fun W=>by have vo:=HVO.out;exact qhead_any v vo.head.root W)
   have HSK:Hid (∀W W',GrS w N v W→Only Ωa W W'→GrS w N v W'):=Θ (fun W W' h ho=>⟨Blk.only h.at_ ho (fun e=>e),h.only.trans ho⟩)
   have HSA:Hid (∀(W:World) o,GrS w N v W.drew→GrS w N v (W.alloc o).drew):=Θ (fun W o h=>⟨Blk.alloc (w:=W.drew) h.at_ o,(h.only).trans ((Only.refl _ W.drew).alloc o)⟩)
   have HSA2:Hid (∀(W:World) o,GrS w N v W→GrS w N v (W.alloc o)):=Θ (fun W o h=>⟨Blk.alloc h.at_ o,h.only.alloc o⟩)
   have HGK:Hid (∀W W',GrpO w 37 ΩaR b k (L.take k) f W→Only Ωa W W'→GrpO w 37 ΩaR b k (L.take k) f W'):=Θ (fun W W' h ho=>h.keep ho)
   have HAK:Hid (∀W W' sl,AppD w 37 ΩaR b k (L.take k) f v sl W→Only Ωa W W'→AppD w 37 ΩaR b k (L.take k) f v sl W'):=Θ (fun W W' sl h ho=>h.keep ho)
   have HOW:Hid (∀W,GrpO w 37 ΩaR b k (L.take k) f W→W.ownsRow w.heap.size 43 36 v0 m C):=Θ (fun W h=>by rw[ev0,em,eC];exact h.at_ _)
   have HAP:Hid (∀W w1 g cap,GrpO w 37 ΩaR b k (L.take k) f W→w1.ownsRow w.heap.size 43 36 (.slice (some ⟨g,0,none⟩) (m+1) cap) (m+1) (C++vtC v)→W.grownBy w1 v0.ownBlock→(v0.ownBlock=some g∨g=W.heap.size)→AppD w 37 ΩaR b k (L.take k) f v (.slice (some ⟨g,0,none⟩) (m+1) cap) w1):=Θ (fun W w1 g cap h h1 h2 h3=>by
    rw[em,eC] at h1;rw[ev0] at h2 h3;rw[em];exact h.append h1 h2 h3)
   have HSP:Hid (∀W w1,GrS w N v W→W.grownBy w1 v0.ownBlock→GrS w N v w1):=Θ (fun W w1 h hg=>⟨Blk.grown h.at_ hg (fun e=>by have:=(HVN.out N (by rw[←ev0];exact e.symm)).2;omega),h.only.grown hg (fun j e=> .inr (HVN.out j (by rw[←ev0];exact e)).1)⟩)
   have HSM:Hid (∀W sl,AppD w 37 ΩaR b k (L.take k) f v sl W→GrS w N v W→GrS w N v (ΩbO Tryz.prog 211 b (ΩaR v) sl W)):=Θ (fun W sl h hs=>by
    obtain⟨_,h2,h3⟩:=h.fin HS.out ΩeI Tryz.underlying211 (by rw[Ωg];omega) HKL.out hwb
    refine⟨Blk.grown hs.at_ h3 (fun e=> ?_),h2.only⟩
    have:N=b:=Option.some.inj e
    subst this
    obtain⟨D,⟨es,clock,hb9,_⟩,_⟩:=h.map
    have:=hs.at_
    unfold VtAt Blk at this
    rw[this] at hb9;cases hb9)
   have HFIN:Hid (∀W sl,AppD w 37 ΩaR b k (L.take k) f v sl W→GrpO w 37 ΩaR b (k+1) (L.take (k+1)) (put1 f (ΩaR v) sl) (ΩbO Tryz.prog 211 b (ΩaR v) sl W)):=Θ (fun W sl h=>by
    rw[HTK.out];exact(h.fin HS.out ΩeI Tryz.underlying211 (by rw[Ωg];omega) HKL.out hwb).2.1)
   have HWN:Hid (∀W,GrS w N v W→w.heap.size≤W.heap.size):=Θ (fun W h=>h.only.size)
   have HCM:Hid (C.length=m*36):=Θ (by rw[em,eC];exact ΩdX _ (Ωl4 (fun x hx=>HOK.out x (ΩnY hx)) _))
   clear hzb hzs hl ev0 em eC
   go_region_held3 (fun w' =>GrS w N v w') (first|(with_reducible assumption)|(with_reducible exact HSA.out _ _ (by with_reducible assumption))|(with_reducible exact HSA2.out _ _ (by with_reducible assumption))|(with_reducible exact HSM.out _ _ (by with_reducible assumption) (by with_reducible assumption)))
    (first
     |(refine step_append_lies _ (by rfl) _ _ _ (by rfl) w.heap.size 43 ie z 36 ie.bytes Tryz.underlying32 HIE.out HZ.out HSZ.out rfl HZC.out (by omega) v0 m C (by rfl) (HOW.out _ (by first|(with_reducible assumption)|(with_reducible exact hgal _ _ (by with_reducible assumption))|(with_reducible exact hgal2 _ _ (by with_reducible assumption)))) _ 1 1 (vtC v) (by rfl) (by rw[Ω0 HVO.out.head.root]) (World.news_of_block (cs:=(vtC v).toArray) (t:=43) (fr:=(0,0)) (by first|exact(show NewB _ v _ from by with_reducible assumption)|exact(NewB.new _ v)|exact(NewB.newd _ v))) (Ωc2 v) (by omega) (by rw[Ωg];omega) (by have:=HBY.out;exact Ωnz (Ωov (show m+1≤100001 by omega) this) (by omega)) (HWN.out _ (by first|(with_reducible assumption)|(with_reducible exact HSA.out _ _ (by with_reducible assumption))|(with_reducible exact HSA2.out _ _ (by with_reducible assumption)))) _ rfl ?_;intro g2 cap2 w2 hown2 hgrow2 hat2 hlt2;have hS2:=HSP.out _ w2 (by first|(with_reducible assumption)|(with_reducible exact HSA.out _ _ (by with_reducible assumption))|(with_reducible exact HSA2.out _ _ (by with_reducible assumption))) hgrow2;have hAD:=HAP.out _ w2 g2 cap2 (by first|(with_reducible assumption)|(with_reducible exact hgal _ _ (by with_reducible assumption))|(with_reducible exact hgal2 _ _ (by with_reducible assumption))) hown2 hgrow2 hat2;clear hown2 hgrow2 hat2 hlt2)
     |(go_at_call 163;refine(HCB.out _).mono ?_;rintro e5 w5 ⟨rfl,ho5⟩;have hS5:=HSK.out _ _ (by first|(with_reducible assumption)|(with_reducible exact HSA.out _ _ (by with_reducible assumption))|(with_reducible exact HSA2.out _ _ (by with_reducible assumption))) ho5;(first|(have hA5:=HAK.out _ _ _ (by with_reducible assumption) ho5)|(have hG5:=HGK.out _ _ (by first|(with_reducible assumption)|(with_reducible exact hgal _ _ (by with_reducible assumption))|(with_reducible exact hgal2 _ _ (by with_reducible assumption))) ho5));(first|(have hN5:=NewB.keep (by with_reducible assumption) ho5)|(have hN5:=NewB.keep (NewB.new _ v) ho5)|(have hN5:=NewB.keep (NewB.newd _ v) ho5)|skip);clear ho5))
   all_goals
    have hnew:=HFIN.out _ _ (by with_reducible assumption)
    have HNEW:=Θ hnew
    clear hnew hld2 hlk hgal hgal2 hbs hmu hS0 hG0
    go_wp2_with fail
    go_roundw
    case rel=>exact⟨k+1,_,by go_num,by omega,HNEW.out⟩
    case measure=>simp[intOf];omega
  ·obtain rfl:k=L.length:=by omega
   have hall:L.take L.length=L:=Ωok
   rw[hall] at hS
   have HR:=Θ (hS.read HOK.out)
   have HO:=Θ hS.only
   clear hS hall
   go_wp2_with fail
   go_ret
   exact⟨b,L.length,f,rfl,hlen,hwb,HR.out,HO.out⟩
end
section
open Go.RowKit
theorem aggHash(w:World):(isAgg 35).run Tryz.prog w= .ok true w:=by kernel_rfl
theorem sizeHash(w:World):(sizeOf 35).run Tryz.prog w= .ok 32 w:=by kernel_rfl
theorem fields_hd:(Tryz.prog.fieldsOf 37).toList.map (fun f=>(f.name,f.type,f.offset))=[("Size",3,0),("Root",35,1)]:=by kernel_rfl
theorem ΩmD(w:World):(sizeOf 5).run Tryz.prog w= .ok 1 w:=by kernel_rfl
theorem ΩkU{d:Nat}(a b:Hd)(ha:a.root.length=32)(hb:b.root.length=32)(w:World):(Op.equalIn (d+3) 37 (.agg (hdC a).toArray) (.agg (hdC b).toArray)).run Tryz.prog w= .ok (eqHd a b) w:=by
 have pa:∀h:Hd,h.root.length=32→(hdC h).toArray.extract 1 33=(h.root.map bv).toArray :=fun h hl=>by
  apply Array.toList_inj.1
  simp[hdC,List.extract_eq_take_drop]
  exact ΩnI (by simp[hl])
 have pp:∀h:Hd,h.root.length=32→(Go.part 35 (hdC h).toArray 1).run Tryz.prog w= .ok (.agg (h.root.map bv).toArray) w:=fun h hl=>by rw[Ωid (aggHash w) (sizeHash w),pa h hl]
 have key:=ΩeO (P:=Tryz.prog) (w:=w) (d:=d+2) (t:=37) (xs:=(hdC a).toArray) (ys:=(hdC b).toArray) (by kernel_rfl) (by kernel_rfl) fields_hd
  (Ωbl (by decide) (Ωaw (Ωcl w) rfl) (Ωaw (Ωcl w) rfl) (Ωju (d:=d+1) _ _ w)
   (Ωbl (by decide) (pp a ha) (pp b hb) (run_equalIn_bytes w d 35 5 32 Tryz.underlying35 Tryz.underlying5 ΩmD a.root b.root ha hb) Ωix))
 refine key.trans ?_
 congr 1
 rw[Ωoy,Ωas]
 obtain⟨a1,a2⟩:=a
 obtain⟨b1,b2⟩:=b
 simp
theorem ΩmN(a b:Hd)(ha:a.root.length=32)(hb:b.root.length=32)(w:World):(binOp .eql 37 (.agg (hdC a).toArray) (.agg (hdC b).toArray)).run Tryz.prog w= .ok (.bool (eqHd a b)) w:=by
 rw[run_eql_struct,ΩkU (d:=9997) a b ha hb w]
 rfl
end
section
open Go.RowKit
def ΩfC(n:Int):Int:=if n≤0 then 1 else 2*(n/3)+n%3*2/3+1
theorem Ωjc(n:Nat):ΩfC (n:Int)=(need n:Int):=by
 unfold ΩfC need
 split
 ·have:n=0:=by omega
  subst this;rfl
 ·omega
theorem qneed_any(n:Int)(hn:In n)(w:World):Calls Tryz.prog 123 #[.int .i64 n] w fun e w' =>e= .returned (.int .i64 (ΩfC n))∧w' =w:=by
 obtain⟨h0,h1⟩:=hn
 go_enter Tryz.func123,Tryz.ntmps123
 go_wp2_with fail
 go_ret
 exact⟨ΩB (by unfold ΩfC;split<;>omega),rfl⟩
theorem rqneed_any(n:Int)(hn:In n)(w:World):Calls Tryz.prog 171 #[.int .i64 n] w fun e w' =>e= .returned (.int .i64 (ΩfC n))∧w' =w:=by
 obtain⟨h0,h1⟩:=hn
 go_enter Tryz.func171,Tryz.ntmps171
 go_wp2_with fail
 all_goals
  go_ret
  exact⟨ΩB (by unfold ΩfC;split<;>omega),rfl⟩
end
section
open Go.RowKit
open Go.Maps (Keyed)
theorem aggHead(w:World):(isAgg 37).run Tryz.prog w= .ok true w:=by kernel_rfl
theorem sizeHead(w:World):(sizeOf 37).run Tryz.prog w= .ok 33 w:=by kernel_rfl
theorem aggSig(w:World):(isAgg 41).run Tryz.prog w= .ok true w:=by kernel_rfl
theorem sizeSig(w:World):(sizeOf 41).run Tryz.prog w= .ok 2 w:=by kernel_rfl
theorem fieldsSig:(Tryz.prog.fieldsOf 41).toList.map (fun f=>(f.name,f.type,f.offset))=[("R",3,0),("S",3,1)]:=by kernel_rfl
theorem eqSig{d:Nat}(a b a' b' :Int)(w:World):(Op.equalIn (d+2) 41 (.agg #[.int .i64 a,.int .i64 b]) (.agg #[.int .i64 a',.int .i64 b'])).run Tryz.prog w= .ok (a==a' &&(b==b' &&true)) w:=
 ΩeO (by kernel_rfl) (by kernel_rfl) fieldsSig (Ωbl (by decide) (Ωaw (Ωcl w) rfl) (Ωaw (Ωcl w) rfl) (Ωju a a' w) (Ωbl (by decide) (Ωaw (Ωcl w) rfl) (Ωaw (Ωcl w) rfl) (Ωju b b' w) Ωix))
theorem fields_vt:(Tryz.prog.fieldsOf 43).toList.map (fun f=>(f.name,f.type,f.offset))=[("Who",3,0),("Head",37,1),("Sig",41,34)]:=by kernel_rfl
noncomputable def eqVt(a b:Vt):Bool:= @decide (a=b) (Classical.propDecidable _)
theorem Ωcy{a b:Vt}:eqVt a b=true↔a=b:=by unfold eqVt;simp
theorem Ωkg(v:Vt)(hl:v.head.root.length=32):(vtC v).toArray.extract 1 34=(hdC v.head).toArray∧(vtC v).toArray.extract 34 36= #[.int .i64 v.r,.int .i64 v.s]:=by
 have h33:=Ωo hl
 constructor
 ·apply Array.toList_inj.1
  simp[vtC,List.extract_eq_take_drop]
  rw[Ωom (by rw[h33];exact Ωnv _),ΩnI (by rw[h33];exact Ωnv _)]
 ·apply Array.toList_inj.1
  simp[vtC,List.extract_eq_take_drop]
  rw[List.drop_append,h33,Ωoi (by rw[h33];exact Ωnv _)]
  simp
theorem equal_vt(a b:Vt)(ha:a.head.root.length=32)(hb:b.head.root.length=32)(w:World):(Op.equalIn 10000 43 (.agg (vtC a).toArray) (.agg (vtC b).toArray)).run Tryz.prog w= .ok (eqVt a b) w:=by
 have ph:∀v:Vt,v.head.root.length=32→(Go.part 37 (vtC v).toArray 1).run Tryz.prog w= .ok (.agg (hdC v.head).toArray) w:=fun v hl=>by rw[Ωid (aggHead w) (sizeHead w),(Ωkg v hl).1]
 have ps:∀v:Vt,v.head.root.length=32→(Go.part 41 (vtC v).toArray 34).run Tryz.prog w= .ok (.agg #[.int .i64 v.r,.int .i64 v.s]) w:=fun v hl=>by rw[Ωid (aggSig w) (sizeSig w),(Ωkg v hl).2]
 have key:=ΩeO (P:=Tryz.prog) (w:=w) (d:=9999) (t:=43) (xs:=(vtC a).toArray) (ys:=(vtC b).toArray) (by kernel_rfl) (by kernel_rfl) fields_vt
  (Ωbl (by decide) (Ωaw (Ωcl w) rfl) (Ωaw (Ωcl w) rfl) (Ωju (d:=9998) _ _ w)
   (Ωbl (by decide) (ph a ha) (ph b hb) (ΩkU (d:=9996) a.head b.head ha hb w)
    (Ωbl (by decide) (ps a ha) (ps b hb) (eqSig (d:=9997) _ _ _ _ w) Ωix)))
 refine key.trans ?_
 congr 1
 rw[Ωoy,Ωcy]
 obtain⟨a1,a2,a3,a4⟩:=a
 obtain⟨b1,b2,b3,b4⟩:=b
 simp[Ωas]
theorem eql_vt(a b:Vt)(ha:a.head.root.length=32)(hb:b.head.root.length=32)(w:World):(binOp .eql 43 (.agg (vtC a).toArray) (.agg (vtC b).toArray)).run Tryz.prog w= .ok (.bool (eqVt a b)) w:=by
 rw[run_eql_struct,equal_vt a b ha hb w]
 rfl
theorem ΩhL{a b:Vt}:eqVt a b=false↔a≠b:=by unfold eqVt;simp
theorem vt_row:43<Tryz.prog.types.size:=Ωop (by kernel_rfl)
theorem vt_wide:(match Tryz.prog.underlying 43 with|some (.array _ _)|some (.struct _)=>true|_=>false)=true:=by rw[Tryz.underlying43]
theorem vt_key:WideMaps.KeyLaw Tryz.prog 43:=deep_law_laid Ωi3 (m:=4) (by omega) vt_row (by kernel_rfl) vt_wide
theorem Ωlt:Keyed Tryz.prog 43:=Keyed.of_law vt_key
theorem Ωk4:Tryz.prog.cellsOf 43=36:=by kernel_rfl
theorem Ωjz:Tryz.prog.cellsOf 41=2:=by kernel_rfl
theorem kl_sig(d:Nat){r s:Int}(hr:In r)(hs:In s):∃ls,Tryz.prog.keyLits (d+2) 41 [.int .i64 r,.int .i64 s]=some ls:=by
 unfold Program.keyLits
 rw[Tryz.underlying41]
 simp[Ωjz,ΩeU,Ωjk d hr,Ωjk d hs]
theorem kl_head(d:Nat){h:Hd}(ok:h.Ok):∃ls,Tryz.prog.keyLits (d+3) 37 (hdC h)=some ls:=by
 have hl:=ok.root
 obtain⟨r,hr⟩:=ΩlU d hl
 unfold Program.keyLits
 rw[Tryz.underlying37]
 simp[Ωf0,ΩeU,Ωfq,Ωjk (d+1) ok.size,hdC]
 exact⟨hl,by rw[ΩnI (by simp[hl]),hr];exact⟨_,rfl⟩⟩
theorem ΩlV{v:Vt}(ok:v.Ok):∃kl,Go.keyOf Tryz.prog 43 (.agg (vtC v).toArray)=some kl:=by
 have hl:=ok.head.root
 have hsz:3≤Tryz.prog.types.size:=Ωop (by kernel_rfl)
 obtain⟨d,hd⟩:∃d,Tryz.prog.types.size+1=d+4:=⟨Tryz.prog.types.size-3,by omega⟩
 have hkt:Tryz.prog.keyType 43=true:=by kernel_rfl
 have hf:(Value.agg (vtC v).toArray).formed Tryz.prog 43=true:=by
  unfold Value.formed
  rw[Tryz.underlying43]
  simp[Ωk4,Ω0 hl]
 obtain⟨r1,hr1⟩:=kl_head d ok.head
 obtain⟨r2,hr2⟩:=kl_sig (d+1) ok.r ok.s
 have h33:=Ωo hl
 have e1:((hdC v.head++[Value.int .i64 v.r,Value.int .i64 v.s])).take 33=hdC v.head:=by rw[Ωom (by omega),ΩnI (by omega)]
 have e2:((hdC v.head++[Value.int .i64 v.r,Value.int .i64 v.s])).drop 33=[Value.int .i64 v.r,Value.int .i64 v.s]:=by rw[List.drop_append,h33,Ωoi (by omega)];rfl
 have hkl:∃ls,Tryz.prog.keyLits (d+4) 43 (vtC v)=some ls:=by
  unfold Program.keyLits
  rw[Tryz.underlying43]
  simp[Ωk4,Ωf0,ΩeU,Ωjz,Ωjk (d+2) ok.who,vtC,h33,e1,e2,hr1,hr2]
 obtain⟨ls,hls⟩:=hkl
 unfold Go.keyOf
 rw[Tryz.underlying43]
 simp only[hkt,hf,Bool.and_self,if_true,hd,Value.cells]
 exact⟨_,by rw[hls];rfl⟩
theorem vtC_inj{a b:Vt}(ha:a.head.root.length=32)(hb:b.head.root.length=32)(h:vtC a=vtC b):a=b:=by
 obtain⟨a1,⟨a2,a3⟩,a4,a5⟩:=a
 obtain⟨b1,⟨b2,b3⟩,b4,b5⟩:=b
 simp only[vtC,hdC,Ωn9,List.cons.injEq,Value.int.injEq,true_and] at h ha hb
 obtain⟨rfl,rfl,h3⟩:=h
 have h4:=List.append_inj h3 (by simp[ha,hb])
 have h5:a3=b3:=List.map_inj_right (fun x y hxy=>by
  have:(x.toNat:Int)=(y.toNat:Int):=by
   simp only[bv,Value.int.injEq,true_and] at hxy;exact hxy
  exact UInt8.toNat_inj.1 (by omega)) |>.1 h4.1
 have h6:=h4.2
 simp at h6
 obtain⟨rfl,rfl⟩:=h6
 subst h5
 rfl
noncomputable def hasB(M:List Vt)(v:Vt):Bool:=M.any (eqVt v)
theorem Ωjm{M:List Vt}{v:Vt}:hasB M v=true↔v∈M:=by
 unfold hasB
 rw[List.any_eq_true]
 exact⟨fun⟨x,hx,e⟩=>by rw[Ωcy.1 e];exact hx,fun h=>⟨v,h,Ωcy.2 rfl⟩⟩
noncomputable def ΩR(M:List Vt):List Vt→List Vt
 |[]=>[]
 |v::l=>if hasB M v then ΩR M l else v::ΩR (M++[v]) l
noncomputable def ΩA(M L:List Vt):List Vt:=M++ΩR M L
theorem ΩbX:∀(L M:List Vt),(ΩR M L).length≤L.length
 |[],_=>Ωnv _
 |v::l,M=>by
  unfold ΩR
  have h1:=ΩbX l M
  have h2:=ΩbX l (M++[v])
  split<;>simp only[ΩnD]<;>omega
theorem Ωfg:∀(L M:List Vt),∀v∈ΩR M L,v∈L
 |[],_,_,h=>by cases h
 |x::l,M,v,h=>by
  unfold ΩR at h
  split at h
  ·exact List.mem_cons_of_mem _ (Ωfg l M v h)
  ·rcases Ωn3.1 h with rfl|h
   ·exact List.mem_cons_self ..
   ·exact List.mem_cons_of_mem _ (Ωfg l _ v h)
noncomputable def ΩaM(M:List Vt)(v:Vt):List Vt:=if hasB M v then M else M++[v]
theorem ΩaW:∀(L M:List Vt),ΩA M L=L.foldl ΩaM M
 |[],M=>by simp[ΩA,ΩR]
 |v::l,M=>by
  rw[List.foldl_cons,←ΩaW l]
  have e:ΩR M (v::l)=if hasB M v then ΩR M l else v::ΩR (M++[v]) l:=rfl
  unfold ΩA ΩaM
  rw[e]
  split<;>simp
theorem Ωeb:∀(L M:List Vt) (v:Vt),ΩR M (L++[v])=ΩR M L++(if hasB (M++ΩR M L) v then [] else [v])
 |[],M,v=>by simp[ΩR]
 |x::l,M,v=>by
  rw[Ωn9]
  have e:∀t,ΩR M (x::t)=if hasB M x then ΩR M t else x::ΩR (M++[x]) t:=fun _=>rfl
  rw[e,e]
  split
  ·rw[Ωeb l M v]
  ·rw[Ωeb l (M++[x]) v];simp
noncomputable def ΩfA(M:List Vt):Value→Option Value:=fun x=>if M.any (fun v=>eqv x (.agg (vtC v).toArray))=true then some (.bool true) else none
theorem seenV_nil:ΩfA []=fun _=>none:=by funext x;unfold ΩfA;simp
theorem Ωko{M:List Vt}{v:Vt}(h:v∈M):ΩfA M (.agg (vtC v).toArray)=some (.bool true):=by
 unfold ΩfA
 rw[ΩnV (List.any_eq_true.2 ⟨v,h,Ωbk _⟩)]
theorem seenV_out{M:List Vt}(hM:Ω4 M){v:Vt}(vo:v.Ok)(h:v∉M):ΩfA M (.agg (vtC v).toArray)=none:=by
 unfold ΩfA
 rw[ΩnU]
 intro hh
 obtain⟨u,hu,e⟩:=List.any_eq_true.1 hh
 have e1:=Ωbu.1 e
 simp only[Value.agg.injEq] at e1
 have e2:vtC v=vtC u:=by simpa using congrArg Array.toList e1
 exact h (by rw[vtC_inj vo.head.root (hM u hu).head.root e2];exact hu)
theorem ΩiW(M:List Vt)(v:Vt)(x:Value):put1 (ΩfA M) (.agg (vtC v).toArray) (.bool true) x=ΩfA (M++[v]) x:=by
 by_cases e:x= .agg (vtC v).toArray
 ·subst e
  rw[Ωa2,Ωko (by simp)]
 ·rw[Ωay e]
  unfold ΩfA
  rw[List.any_append]
  simp[ΩbE.2 e]
end
end Go.Proofs.YtgalfohobgjelaaGreatDoor
