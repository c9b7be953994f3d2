/- What is proved here: a part of the proof that 'probitylaw31.ClientPlays' answers true. Conditions: each theorem's own. -/
import Derived.Test.YtgalfohobgjelaaGreatDoorPy08
import Derived.Maps.RangeWalk
import Derived.WideKeyEntry
import Derived.DeepKeys4
import Derived.Laws.StructEq
set_option maxRecDepth 100000
set_option maxHeartbeats 8000000
namespace Go.Proofs.YtgalfohobgjelaaGreatDoor
section
open Go.RowKit
open Go.Maps (Keyed)
open Go.WideMaps (KeyLaw)
def Rv(v:Value):Option (DataW Value×List MemPlace):=some (.held v,[])
noncomputable def eqv(x y:Value):Bool:= @decide (x=y) (Classical.propDecidable _)
theorem Ωbu{x y:Value}:eqv x y=true↔x=y:=by unfold eqv;simp
theorem ΩbE{x y:Value}:eqv x y=false↔x≠y:=by unfold eqv;simp
theorem Ωbk(x:Value):eqv x x=true:=Ωbu.2 rfl
noncomputable def put1(f:Value→Option Value)(key v:Value):Value→Option Value:=fun x=>if eqv x key then some v else f x
theorem Ωa2(f:Value→Option Value)(key v:Value):put1 f key v key=some v:=by unfold put1;rw[Ωbk];rfl
theorem Ωay{f:Value→Option Value}{key v x:Value}(h:x≠key):put1 f key v x=f x:=by unfold put1;rw[ΩbE.2 h];rfl
structure Ωmq(P:Program)(k:TypeId)(D:DataW Value)(f:Value→Option Value):Prop where
 key:∀key,f key≠none→∃kl,Go.keyOf P k key=some kl
 at_:∀key kl,Go.keyOf P k key=some kl→Maps.has D kl=(f key).isSome∧∀v,f key=some v→∀z,D.atKey kl z= .held v
def MapV(w:World)(P:Program)(k:TypeId)(b n:Nat)(f:Value→Option Value):Prop:=∃D,w.ownsMap P k Rv b n D∧Ωmq P k D f
section
variable {P:Program} {k:TypeId} {w:World} {b n:Nat} {f:Value→Option Value}
theorem MapV.made(w:World)(P:Program)(k:TypeId):MapV (w.alloc (.map #[] 0)) P k w.heap.size 0 (fun _=>none):=
 ⟨_,World.ownsMap_made w P k Rv,⟨fun key h=>(h rfl).elim,fun key kl _=>⟨rfl,fun v h=>by cases h⟩⟩⟩
theorem MapV.lt(h:MapV w P k b n f):b<w.heap.size:=by obtain⟨D,h,_⟩:=h;exact h.lt
theorem MapV.grown{w' :World}{row:Option Nat}(h:MapV w P k b n f)(hg:w.grownBy w' row)(hne:some b≠row):MapV w' P k b n f:=by
 obtain⟨D,h,t⟩:=h
 exact⟨D,h.kept hg hne,t⟩
theorem MapV.only{S:Nat→Prop}{w' :World}(h:MapV w P k b n f)(ho:Only S w w')(hb:¬S b):MapV w' P k b n f:=by
 obtain⟨D,h,t⟩:=h
 have hlt:=h.lt
 obtain⟨es,clock,hh,F,hs,hD⟩:=h
 exact⟨D,⟨es,clock,(ho.block b hlt hb).trans hh,F,hs,hD⟩,t⟩
theorem MapV.congr{g:Value→Option Value}(h:MapV w P k b n f)(e:∀x,f x=g x):MapV w P k b n g:=by
 rw[show g=f from funext fun x=>(e x).symm];exact h
theorem MapV.look_any(c:Bool)(h:MapV w P k b n f)(K:Keyed P k){t e:TypeId}(ht:P.underlying t=some (.map k e)){z:Value}(hz:(zeroValue e).run P w= .ok z w){key:Value}{kl:Lit}(hkey:Go.keyOf P k key=some kl):
  (Instr.lookup t (.map (some b)) key c).run P w= .ok (if c then .tuple #[(f key).getD z,.bool (f key).isSome] else(f key).getD z) w:=by
 obtain⟨D,⟨es,clock,hb,F,_,rfl⟩,t0⟩:=h
 obtain⟨h1,h2⟩:=t0.at_ key kl hkey
 rcases Maps.fit_look c K ht hz hb F hkey with⟨hrun,_,hat⟩|⟨e0,y,_,_,hrun,hRv,hat,_⟩
 ·rw[Maps.has_false_of_atKey hat] at h1
  cases hf:f key with
  |none=>rw[hrun];rfl
  |some v=>rw[hf] at h1;cases h1
 ·rw[Maps.has_true_of_atKey hat] at h1
  cases hf:f key with
  |none=>rw[hf] at h1;cases h1
  |some v=>
   have h3:=(h2 v hf (.held z)).symm.trans (hat (.held z))
   unfold Rv at hRv
   cases hRv
   simp only[DataW.held.injEq] at h3
   rw[hrun,h3]
   rfl
theorem MapV.look(h:MapV w P k b n f)(K:Keyed P k){t e:TypeId}(ht:P.underlying t=some (.map k e)){z:Value}(hz:(zeroValue e).run P w= .ok z w){key:Value}{kl:Lit}(hkey:Go.keyOf P k key=some kl):
  (Instr.lookup t (.map (some b)) key false).run P w= .ok ((f key).getD z) w:=h.look_any false K ht hz hkey
theorem MapV.look_ok(h:MapV w P k b n f)(K:Keyed P k){t e:TypeId}(ht:P.underlying t=some (.map k e)){z:Value}(hz:(zeroValue e).run P w= .ok z w){key:Value}{kl:Lit}(hkey:Go.keyOf P k key=some kl):
  (Instr.lookup t (.map (some b)) key true).run P w= .ok (.tuple #[(f key).getD z,.bool (f key).isSome]) w:=h.look_any true K ht hz hkey
theorem Ωmq.put{D:DataW Value}(t:Ωmq P k D f)(hm:Maps.IsMap D)(K:Keyed P k){key:Value}{kl:Lit}(hkey:Go.keyOf P k key=some kl)(v:Value):Ωmq P k (D.put kl (.held v)) (put1 f key v):=by
 refine⟨fun x hx=> ?_,fun x xl hx=> ?_⟩
 ·by_cases e:x=key
  ·rw[e];exact⟨kl,hkey⟩
  ·rw[Ωay e] at hx;exact t.key x hx
 ·by_cases e:x=key
  ·subst e
   obtain rfl:xl=kl:=Option.some.inj (hx.symm.trans hkey)
   rw[Ωa2]
   refine⟨Maps.has_put_same hm (K.key hkey) _,fun v' hv' z=> ?_⟩
   cases hv'
   exact Maps.atKey_put_same hm (K.key hkey) _ _
  ·have hne:xl≠kl:=fun h=>e (K.inj hx (h▸hkey))
   rw[Ωay e,Maps.has_put_other hne]
   refine⟨(t.at_ x xl hx).1,fun v' hv' z=> ?_⟩
   rw[Maps.atKey_put_other hne]
   exact(t.at_ x xl hx).2 v' hv' z
theorem isMap_own{D:DataW Value}(h:w.ownsMap P k Rv b n D):Maps.IsMap D:=by
 obtain⟨es,clock,_,_,_,rfl⟩:=h
 exact⟨_,rfl⟩
noncomputable def ΩbO(P:Program)(t:TypeId)(b:Nat)(key v:Value)(w:World):World:=
 match(Instr.mapUpdate t (.map (some b)) key v).run P w with
 | .ok _ w' =>w'
 | .halt _ w' =>w'
theorem MapV.put(h:MapV w P k b n f)(K:Keyed P k){t e:TypeId}(ht:P.underlying t=some (.map k e))(hn:n<maxLen){key:Value}{kl:Lit}(hkey:Go.keyOf P k key=some kl)(v:Value):
  (Instr.mapUpdate t (.map (some b)) key v).run P w= .ok () (ΩbO P t b key v w)∧MapV (ΩbO P t b key v w) P k b (n+1) (put1 f key v)∧w.grownBy (ΩbO P t b key v w) (some b):=by
 obtain⟨D,h,t0⟩:=h
 obtain⟨w',hrun,ho,hg⟩:=h.update K ht hn (val:=v) hkey (d:= .held v) (ps:=[]) rfl
 have e:ΩbO P t b key v w=w' :=by unfold ΩbO;rw[hrun]
 rw[e]
 exact⟨hrun,⟨_,ho,t0.put (isMap_own h) K hkey v⟩,hg⟩
theorem MapV.entry(h:MapV w P k b n f)(K:KeyLaw P k){t e:TypeId}(ht:P.underlying t=some (.map k e))(hn:n<maxLen){z:Value}(hz:∀u:World,(zeroValue e).run P u= .ok z u){key:Value}{kl:Lit}(hkey:Go.keyOf P k key=some kl):
  ∃(v0:Value) (st:Nat) (w1:World),(Instr.mapEntry t (.map (some b)) key).run P w= .ok (.tuple #[v0,.int .i64 (st:Int)]) w1∧w.grownBy w1 (some b)∧
   ∀(w2:World) (val:Value),w1.grownBy w2 none→∃w3,(Instr.entryStore t (.map (some b)) (.int .i64 (st:Int)) val).run P w2= .ok () w3∧MapV w3 P k b (n+1) (put1 f key val)∧w2.grownBy w3 (some b):=by
 have h0:=h
 obtain⟨D,⟨es,clock,hb,F,hs,hD⟩,t0⟩:=h
 obtain⟨v0,st,es1,clock1,hrun,_,hst⟩:=WideElems.entry_then_store K ht hz hb F hkey
 have hlt:b<w.heap.size:=h0.lt
 refine⟨v0,st,ChangeMaps.setBlock w b (.map es1 clock1),hrun,⟨rfl,rfl,rfl,by simp[ChangeMaps.setBlock],fun i _ hi=>ChangeMaps.heap_setBlock_other hb _ (fun e=>hi (by rw[e]))⟩,fun w2 val hg=> ?_⟩
 have hw2:w2.heap[b]? =some (.map es1 clock1):=(hg.block b (by simpa [ChangeMaps.setBlock] using hlt) (by simp)).trans (ChangeMaps.heap_setBlock_same hb _)
 obtain⟨es',clock',hrun2,hrun3⟩:=hst w2 val hw2
 obtain⟨hr,hm,_⟩:=h0.put (Keyed.of_law K) ht hn hkey val
 have hw' :ΩbO P t b key val w=ChangeMaps.setBlock w b (.map es' clock'):=by
  rw[hrun3] at hr
  injection hr with _ hr
  exact hr.symm
 rw[hw'] at hm
 refine⟨_,hrun2,?_,⟨rfl,rfl,rfl,by simp[ChangeMaps.setBlock],fun i _ hi=>ChangeMaps.heap_setBlock_other hw2 _ (fun e=>hi (by rw[e]))⟩⟩
 obtain⟨D',⟨es2,clock2,hb2,F2,hs2,hD2⟩,t2⟩:=hm
 rw[ChangeMaps.heap_setBlock_same hb] at hb2
 exact⟨D',⟨es2,clock2,(ChangeMaps.heap_setBlock_same hw2 _).trans hb2,F2,hs2,hD2⟩,t2⟩
theorem MapV.entry_look(h:MapV w P k b n f)(K:KeyLaw P k){t e:TypeId}(ht:P.underlying t=some (.map k e))(hn:n<maxLen){z:Value}(hz:∀u:World,(zeroValue e).run P u= .ok z u){key:Value}{kl:Lit}(hkey:Go.keyOf P k key=some kl){r:Value}{w1:World}
  (hrun:(Instr.mapEntry t (.map (some b)) key).run P w= .ok r w1):(Instr.lookup t (.map (some b)) key false).run P w1= .ok ((f key).getD z) w1:=by
 have h0:=h
 obtain⟨D,⟨es,clock,hb,F,hs,hD⟩,t0⟩:=h
 have hlk:=h0.look (Keyed.of_law K) ht (hz w) hkey
 rcases K.find w hkey es.toList F.keys with⟨h1,h2⟩|⟨j,e0,h1,h2,h3⟩
 ·have hr2:(Instr.mapEntry t (.map (some b)) key).run P w= .ok (.tuple #[z,goInt clock]) (ChangeMaps.setBlock w b (.map (es.push ⟨key,z,clock⟩) (clock+1))):=by
   simp[Instr.mapEntry,run_underlying ht,MapKept.run_getObj_map hb,K.check w false hkey,h1,hz,MapKept.run_setObj_map _ hb,Result.andThen,ChangeMaps.setBlock]
  have hr3:(Instr.mapUpdate t (.map (some b)) key z).run P w= .ok () (ChangeMaps.setBlock w b (.map (es.push ⟨key,z,clock⟩) (clock+1))):=by
   simp[Instr.mapUpdate,run_underlying ht,MapKept.run_getObj_map hb,K.check w false hkey,h1,MapKept.run_setObj_map _ hb,Result.andThen,ChangeMaps.setBlock]
  have hr4:(Instr.lookup t (.map (some b)) key false).run P w= .ok z w:=by
   simp[Instr.lookup,run_underlying ht,MapKept.run_getObj_map hb,K.check w _ hkey,h1,hz,Result.andThen]
  rw[hr4] at hlk
  have hv:z=(f key).getD z:=by injection hlk
  obtain⟨hp1,hp2,_⟩:=h0.put (Keyed.of_law K) ht hn hkey z
  have e1:ΩbO P t b key z w=w1:=by
   have ha:=hr3.symm.trans hp1
   have hb2:=hr2.symm.trans hrun
   injection ha with _ ha
   injection hb2 with _ hb2
   rw[←ha,hb2]
  rw[e1] at hp2
  rw[hp2.look (Keyed.of_law K) ht (hz w1) hkey,Ωa2,←hv]
  rfl
 ·have hj:es[j]? =some e0:=by simpa using h2
  have hsame:es.modify j (fun e=>{e with key:=key})=es:=by
   apply Array.ext'
   rw[Array.toList_modify,ChangeMaps.modify_eq_set _ _ _ _ h2]
   have he:({e0 with key:=key}:MapEntry)=e0:=by rw[←h3]
   rw[he]
   exact WideElems.set_self _ _ _ h2
  have hr2:(Instr.mapEntry t (.map (some b)) key).run P w= .ok (.tuple #[e0.val,goInt e0.born]) (ChangeMaps.setBlock w b (.map es clock)):=by
   simp[Instr.mapEntry,run_underlying ht,MapKept.run_getObj_map hb,K.check w false hkey,h1,hj,h3,K.stays w hkey,hsame,MapKept.run_setObj_map _ hb,Result.andThen,ChangeMaps.setBlock]
  have e1:ChangeMaps.setBlock w b (.map es clock)=w1:=by
   have hb2:=hr2.symm.trans hrun
   injection hb2
  rw[←e1]
  have hm1:MapV (ChangeMaps.setBlock w b (.map es clock)) P k b n f:=⟨D,⟨es,clock,ChangeMaps.heap_setBlock_same hb _,F,hs,hD⟩,t0⟩
  exact hm1.look (Keyed.of_law K) ht (hz _) hkey
def ΩaE(w:World)(P:Program)(k:TypeId)(b r n:Nat)(f:Value→Option Value)(left:Value→Bool)(cnt:Nat):Prop:=
 ∃D leftL,w.ranges P k Rv b r n D leftL cnt∧Ωmq P k D f∧∀key kl,Go.keyOf P k key=some kl→leftL kl=left key
theorem ΩaE.map{r:Nat}{left:Value→Bool}{cnt:Nat}(h:ΩaE w P k b r n f left cnt):MapV w P k b n f:=by
 obtain⟨D,_,h,t,_⟩:=h
 exact⟨D,h.owns,t⟩
theorem ΩaE.left_eq{r:Nat}{left:Value→Bool}{cnt:Nat}(h:ΩaE w P k b r n f left cnt):w.rangeLeft b r=cnt:=by
 obtain⟨D,_,h,t,_⟩:=h
 exact h.left_eq
theorem ΩaE.cnt_le{r:Nat}{left:Value→Bool}{cnt:Nat}(h:ΩaE w P k b r n f left cnt):cnt≤n:=by
 obtain⟨D,l,⟨es,clock,since,seen,c0,hb,F,hs,hD,hr,ho,hc,_⟩,_⟩:=h
 rw[←hc]
 exact Ωnz (by unfold leftOf;exact Array.size_filter_le) hs
theorem ΩaE.lt{r:Nat}{left:Value→Bool}{cnt:Nat}(h:ΩaE w P k b r n f left cnt):r<w.heap.size:=by
 obtain⟨D,_,h,t,_⟩:=h
 exact h.lt
theorem ΩaE.only{S:Nat→Prop}{w' :World}{r:Nat}{left:Value→Bool}{cnt:Nat}(h:ΩaE w P k b r n f left cnt)(ho:Only S w w')(hb:¬S b)(hr:¬S r):ΩaE w' P k b r n f left cnt:=by
 have h1:=h.map.lt
 have h2:=h.lt
 obtain⟨D,l,⟨es,clock,since,seen,c0,hb',F,hs,hD,hr',rest⟩,t⟩:=h
 exact⟨D,l,⟨es,clock,since,seen,c0,(ho.block b h1 hb).trans hb',F,hs,hD,(ho.block r h2 hr).trans hr',rest⟩,t⟩
theorem MapV.range(h:MapV w P k b n f)(K:Keyed P k){t e:TypeId}(ht:P.underlying t=some (.map k e)):
  ∃w',(Instr.range t (.map (some b))).run P w= .ok (.pointer (some ⟨w.heap.size,0,none⟩)) w'∧(∃cnt,ΩaE w' P k b w.heap.size n f (fun x=>(f x).isSome) cnt)∧Only Ωa w w'∧w'.heap.size=w.heap.size+1:=by
 obtain⟨D,h,t0⟩:=h
 obtain⟨w',hrun,hr,hg,hs⟩:=h.range K ht
 exact⟨w',hrun,⟨_,D,_,hr,t0,fun key kl hkey=>(t0.at_ key kl hkey).1⟩,(Only.refl _ _).grown hg (fun k e=>by cases e),hs⟩
theorem ΩaE.next{r:Nat}{left:Value→Bool}{cnt:Nat}(h:ΩaE w P k b r n f left cnt)(K:Keyed P k)(ty:TypeId):
  (cnt=0∧(∀key,f key≠none→left key=false)∧(Instr.next (.pointer (some ⟨r,0,none⟩)) false ty).run P w= .ok (.tuple #[.bool false]) w)∨
  ∃key v w' cnt',f key=some v∧left key=true∧(Instr.next (.pointer (some ⟨r,0,none⟩)) false ty).run P w= .ok (.tuple #[.bool true,key,v]) w'∧
   ΩaE w' P k b r n f (fun x=>left x&& !eqv x key) cnt'∧cnt' <cnt∧w.grownBy w' (some r)∧w'.heap.size=w.heap.size∧(Instr.entry (.pointer (some ⟨r,0,none⟩))).run P w' = .ok (.tuple #[key,v]) w' :=by
 obtain⟨D,l,h,t,hl⟩:=h
 rcases h.next K ty with⟨h0,hf,hrun⟩|⟨key,v,kl,y,w',cnt',hkey,hlk,hv,hat,hrun,hrg,hlt,hgr,hsz,hen⟩
 ·refine .inl ⟨h0,fun key hk=> ?_,hrun⟩
  obtain⟨kl,hkl⟩:=t.key key hk
  rw[←hl key kl hkl];exact hf kl
 ·obtain⟨h1,h2⟩:=t.at_ key kl hkey
  rw[Maps.has_true_of_atKey hat] at h1
  cases hfk:f key with
  |none=>rw[hfk] at h1;cases h1
  |some v' =>
   have h3:=(h2 v' hfk (.held v)).symm.trans (hat (.held v))
   unfold Rv at hv
   cases hv
   simp only[DataW.held.injEq] at h3
   subst h3
   refine .inr ⟨key,v',w',cnt',hfk,by rw[←hl key kl hkey];exact hlk,hrun,⟨D,_,hrg,t,fun x xl hx=> ?_⟩,hlt,hgr,hsz,hen⟩
   rw[hl x xl hx]
   congr 2
   by_cases e:x=key
   ·subst e
    obtain rfl:xl=kl:=Option.some.inj (hx.symm.trans hkey)
    rw[Ωbk];exact WideAt.sameKey_self (K.key hx)
   ·rw[ΩbE.2 e]
    exact Maps.sameKey_ne (fun h=>e (K.inj hx (h▸hkey)))
end
section
variable {P:Program} (w:World) {ops:Array Oper} {rest:List Oper} {o:Oper} {a:Act} {Q:Exit→Act→World→Prop}
theorem ΩbU(hg:o.guard=none)(m x v:Operand)(t:TypeId)(hop:o.op=Op.mapUpdate t m x v)
  (k e:TypeId) (K:Keyed P k) (ht:P.underlying t=some (.map k e)) (b n:Nat) (f:Value→Option Value)
  (hm:a.eval m= .map (some b)) (hown:MapV w P k b n f) (hn:n<maxLen) (key val:Value) (kl:Lit) (hx:a.eval x=key) (hv:a.eval v=val) (hkey:Go.keyOf P k key=some kl)
  (hK:∀w',MapV w' P k b (n+1) (put1 f key val)→w.grownBy w' (some b)→wpList P ops Q rest (a.put o.dst undef) w'):
  wpList P ops Q (o::rest) a w:=by
 refine wpList_plain hg fun K' hK' => ?_
 obtain⟨hrun,r1,r2⟩:=hown.put K ht hn hkey val
 unfold Oper.wp
 simp[execOp,hop,hm,hx,hv,hrun,Result.andThen]
 exact hK' _ _ (hK _ r1 r2)
theorem ΩcD(hg:o.guard=none)(m:Operand)(t:TypeId)(hop:o.op=Op.range t m)(k e:TypeId)(K:Keyed P k)(ht:P.underlying t=some (.map k e))(b n:Nat)(f:Value→Option Value)
  (hm:a.eval m= .map (some b)) (hown:MapV w P k b n f)
  (hK:∀w' cnt,ΩaE w' P k b w.heap.size n f (fun x=>(f x).isSome) cnt→Only Ωa w w'→w'.heap.size=w.heap.size+1→wpList P ops Q rest (a.put o.dst (.pointer (some ⟨w.heap.size,0,none⟩))) w'):
  wpList P ops Q (o::rest) a w:=by
 refine wpList_plain hg fun K' hK' => ?_
 obtain⟨w',hrun,⟨cnt,r1⟩,r2,r3⟩:=hown.range K ht
 unfold Oper.wp
 simp[execOp,hop,hm,hrun,Result.andThen]
 exact hK' _ _ (hK w' cnt r1 r2 r3)
theorem ΩcZ(hg:o.guard=none)(it:Operand)(hop:o.op=Op.next it false)(k:TypeId)(K:Keyed P k)(b r n:Nat)(f:Value→Option Value)(left:Value→Bool)(cnt:Nat)
  (hit:a.eval it= .pointer (some ⟨r,0,none⟩)) (h:ΩaE w P k b r n f left cnt)
  (hDone:cnt=0→(∀key,f key≠none→left key=false)→wpList P ops Q rest (a.put o.dst (.tuple #[.bool false])) w)
  (hMore:∀(key v:Value) (w' :World) (cnt' :Nat),f key=some v→left key=true→ΩaE w' P k b r n f (fun x=>left x&& !eqv x key) cnt'→cnt' <cnt→
   w.grownBy w' (some r)→w'.heap.size=w.heap.size→(Instr.entry (.pointer (some ⟨r,0,none⟩))).run P w' = .ok (.tuple #[key,v]) w'→wpList P ops Q rest (a.put o.dst (.tuple #[.bool true,key,v])) w'):
  wpList P ops Q (o::rest) a w:=by
 refine wpList_plain hg fun K' hK' => ?_
 unfold Oper.wp
 rcases h.next K o.type with⟨h0,hl,hrun⟩|⟨key,v,w',cnt',hf,hlk,hrun,hrg,hlt,hgr,hsz,hen⟩
 ·simp[execOp,hop,hit,hrun,Result.andThen]
  exact hK' _ _ (hDone h0 hl)
 ·simp[execOp,hop,hit,hrun,Result.andThen]
  exact hK' _ _ (hMore key v w' cnt' hf hlk hrg hlt hgr hsz hen)
end
end
section
open Go.RowKit
section
variable {P:Program} {w:World}
def eqT(d:Nat)(xs ys:Array Value):List (String×TypeId×Nat)→Sem Bool
 |[]=>pure true
 |(n,t,o)::fs=>
  if n≠ "_" then do
   let a←Go.part t xs o
   let b←Go.part t ys o
   let r←Op.equalIn d t a b
   if(!r)=true then pure false else eqT d xs ys fs
  else eqT d xs ys fs
theorem ΩhM(d:Nat)(xs ys:Array Value):∀fs:List Field,Op.eqFields d xs ys fs=eqT d xs ys (fs.map fun f=>(f.name,f.type,f.offset))
 |[]=>rfl
 |f::fs=>by
  simp only[Op.eqFields,ΩoF,eqT]
  rw[ΩhM d xs ys fs]
theorem Ωbl{d:Nat}{xs ys:Array Value}{n:String}{t:TypeId}{o:Nat}{l:List (String×TypeId×Nat)}{a b:Value}{r s:Bool}(hn:n≠ "_")(ha:(Go.part t xs o).run P w= .ok a w)(hb:(Go.part t ys o).run P w= .ok b w)
  (he:(Op.equalIn d t a b).run P w= .ok r w) (hr:(eqT d xs ys l).run P w= .ok s w):(eqT d xs ys ((n,t,o)::l)).run P w= .ok (r&&s) w:=by
 unfold eqT
 rw[ΩnV hn]
 simp only[Sem.run_bind,ha,hb,he,Result.andThen_ok]
 cases r
 ·simp
 ·simpa using hr
theorem Ωix{d:Nat}{xs ys:Array Value}:(eqT d xs ys []).run P w= .ok true w:=rfl
theorem Ωaw{t:TypeId}{xs:Array Value}{o:Nat}{v:Value}(ha:(isAgg t).run P w= .ok false w)(hv:xs[o]? =some v):(Go.part t xs o).run P w= .ok v w:=by
 simp[Go.part,ha,hv]
theorem Ωid{t:TypeId}{xs:Array Value}{o n:Nat}(ha:(isAgg t).run P w= .ok true w)(hs:(sizeOf t).run P w= .ok n w):(Go.part t xs o).run P w= .ok (.agg (xs.extract o (o+n))) w:=by
 simp[Go.part,ha,hs]
theorem ΩeO{d:Nat}{t:TypeId}{xs ys:Array Value}{l:List (String×TypeId×Nat)}{r:Bool}(ht:P.underlying t=some (.struct (P.fieldsOf t)))(hp:P.stoodInHeld t=false)(hl:(P.fieldsOf t).toList.map (fun f=>(f.name,f.type,f.offset))=l)
  (h:(eqT d xs ys l).run P w= .ok r w):(Op.equalIn (d+1) t (.agg xs) (.agg ys)).run P w= .ok r w:=by
 rw[run_equalIn_agg w d t xs ys ht hp,ΩhM,hl]
 exact h
end
theorem Ωcl(w:World):(isAgg 3).run Tryz.prog w= .ok false w:=by kernel_rfl
theorem ΩdF(w:World):(isAgg 9).run Tryz.prog w= .ok false w:=by kernel_rfl
theorem Ωju{d:Nat}(a b:Int)(w:World):(Op.equalIn (d+1) 3 (.int .i64 a) (.int .i64 b)).run Tryz.prog w= .ok (a==b) w:=run_equalIn_int w d 3 .i64 .i64 a b Tryz.underlying3
theorem Ωjt{d:Nat}(a b:ByteArray)(w:World):(Op.equalIn (d+1) 9 (.string a) (.string b)).run Tryz.prog w= .ok (a.toList==b.toList) w:=run_equalIn_string w d 9 a b Tryz.underlying9
end
section
open Go.RowKit
open Go.Maps (Keyed)
def setV(pv:Value):Value:= .agg #[pv,.int .i64 0,.slice none 0 0,.slice none 0 0,.int .i64 0,.int .i64 0]
structure Pers.Ok(p:Pers):Prop where
 id:In p.id
 role:In p.role
 pub:In p.pub
def ΩS(P:List Pers):Prop:=∀p∈P,p.Ok
theorem ΩS.offs{P:List Pers}(h:ΩS P):ΩS (offs P):=fun p hp=>h p (offs_sub P p hp)
theorem Ωbj:Keyed Tryz.prog 3:=Go.Maps.int_keyed Tryz.underlying3
theorem Ωm7{n:Int}(h:In n):(Lit.int .i64 n).wf =true:=by
 obtain⟨a,b⟩:=h
 simp[Lit.wf,IntKind.min,IntKind.max,IntKind.signed,IntKind.bits,a,b]
theorem ΩgE{n:Int}(h:In n):Go.keyOf Tryz.prog 3 (.int .i64 n)=some (.int .i64 n):=Go.Maps.keyOf_int_mk Tryz.underlying3 (Ωm7 h)
theorem Ωf2(w:World):(zeroValue 4).run Tryz.prog w= .ok (.bool false) w:=by kernel_rfl
noncomputable def ΩfB(ids:List Int):Value→Option Value:=fun x=>if ids.any (fun id=>eqv x (.int .i64 id))=true then some (.bool true) else none
theorem seenF_nil:ΩfB []=fun _=>none:=by funext x;unfold ΩfB;simp
theorem Ωkp{ids:List Int}{id:Int}(h:id∈ids):ΩfB ids (.int .i64 id)=some (.bool true):=by
 unfold ΩfB
 rw[ΩnV (List.any_eq_true.2 ⟨id,h,Ωbk _⟩)]
theorem seenF_out{ids:List Int}{id:Int}(h:id∉ids):ΩfB ids (.int .i64 id)=none:=by
 unfold ΩfB
 rw[ΩnU]
 intro hh
 obtain⟨i,hi,e⟩:=List.any_eq_true.1 hh
 have:=Ωbu.1 e
 cases this
 exact h hi
theorem Ωgk(ids:List Int)(id:Int)(x:Value):put1 (ΩfB ids) (.int .i64 id) (.bool true) x=ΩfB (ids++[id]) x:=by
 by_cases e:x= .int .i64 id
 ·subst e
  rw[Ωa2,Ωkp (by simp)]
 ·rw[Ωay e]
  unfold ΩfB
  rw[List.any_append]
  simp[ΩbE.2 e]
structure OfS(w:World)(b:Nat)(P:List Pers)(k:Nat)(ov:Value)(W:World):Prop where
 map:MapV W Tryz.prog 3 b k (ΩfB ((P.take k).map (·.id)))
 own:ΩT W w.heap.size ov (offs (P.take k)).length (offs (P.take k))
 only:Only Ωa w W
theorem Ωaz{w:World}{base:Nat}{e:TypeId}{size n m:Nat}{v:Value}{xs:List Value}{P:Program}{k:TypeId}{b:Nat}{f:Value→Option Value}(h:w.ownsRow base e size v n xs)(hm:MapV w P k b m f):v.ownBlock≠some b:=by
 rcases h.2 with⟨rfl,_⟩|⟨g,cap,cur,rfl,_,hh,_⟩
 ·simp[Value.ownBlock]
 ·intro he
  have:g=b:=by simpa [Value.ownBlock] using he
  subst this
  obtain⟨D,⟨es,clock,hb,_⟩,_⟩:=hm
  rw[hh] at hb
  cases hb
theorem ΩcN(P:List Pers)(hP:ΩS P)(hlen:P.length≤1000)(pv:Value)(w:World)(hp:Ωa6 w pv P):Calls Tryz.prog 87 #[setV pv] w fun e w' =>∃ov,e= .returned ov∧Ωa6 w' ov (offs P)∧Only Ωa w w' :=by
 obtain⟨ie,z,hie,hsz,hz,hzc,hby⟩:=Ωcr
 obtain⟨A,cap,rfl,hlc,hcm,hA⟩:=hp
 unfold setV
 obtain⟨b,eb⟩:∃b,b=w.heap.size+1:=⟨_,rfl⟩
 have hs0:OfS w b P 0 (.slice none 0 0) ((w.alloc (.cells #[.slice A P.length cap,.int .i64 0,.slice none 0 0,.slice none 0 0,.int .i64 0,.int .i64 0] 50)).alloc (.map #[] 0)):=by
  have h1:=MapV.made (w.alloc (.cells #[.slice A P.length cap,.int .i64 0,.slice none 0 0,.slice none 0 0,.int .i64 0,.int .i64 0] 50)) Tryz.prog 3
  rw[Ωnw,←eb] at h1
  refine⟨?_,⟨rfl,.inl ⟨rfl,rfl⟩⟩,((Only.refl _ _).alloc _).alloc _⟩
  rw[Ωoz,List.map_nil,seenF_nil]
  exact h1
 have HS0:=Θ hs0
 have HA:=Θ hA
 have HPO:=Θ hP
 have HIE:=Θ hie
 have HSZ:=Θ hsz
 have HZ:=Θ hz
 have HZC:=Θ hzc
 have HBY:=Θ hby
 have HEB:=Θ eb
 have hwb:w.heap.size≤b:=by omega
 clear hs0 hA hP hie hsz hz hzc hby eb
 have hmm:= @run_makeMap Tryz.prog
 go_enter Tryz.func87,Tryz.ntmps87
 go_upto_region 2 with(fail)
 rw[←HEB.out]
 refine Ωf (fun Y=>OfS w b P 0 (.slice none 0 0) Y∧Y.cell? ⟨w.heap.size,0,none⟩=some (.slice A P.length cap)) ⟨HS0.out,((Blk.new w 50 #[.slice A P.length cap,.int .i64 0,.slice none 0 0,.slice none 0 0,.int .i64 0,.int .i64 0]).alloc _).cell 0⟩ ?_
 rintro Y ⟨hY,cY⟩
 have HY:=Θ hY
 clear hY HS0 hmm
 go_wp2_with fail
 go_loopw [4,11] (fun ov i wr=>∃k:Nat,i= .int .i64 k∧k≤P.length∧OfS w b P k ov wr) (fun _ i _=>P.length-(intOf i).toNat)
 case atStart=>exact⟨0,rfl,Ωoh _,HY.out⟩
 case round=>
  obtain⟨k,rfl,hk,hS⟩:=hrel
  by_cases hlt:k<P.length
  ·obtain⟨p,hp⟩:∃p,P[k]? =some p:=⟨_,Ωnu hlt⟩
   obtain⟨g,o,hA',hg,hr⟩:=HA.out k p hp
   subst hA'
   have hpo:=HPO.out p (ΩnE hp)
   have hr2:=Ωu hr hS.only
   have ik:(k:Int)<(P.length:Int):=by omega
   have c0:wr.cell? ⟨g,o+k*3,none⟩=some (.int .i64 p.id):=hr2 0 _ rfl
   have c1:wr.cell? ⟨g,o+k*3+1,none⟩=some (.int .i64 p.role):=hr2 1 _ rfl
   have c2:wr.cell? ⟨g,o+k*3+2,none⟩=some (.int .i64 p.pub):=hr2 2 _ rfl
   have htk:=Ωi9 hp
   have hid:(P.take (k+1)).map (·.id)=(P.take k).map (·.id)++[p.id]:=by
    rw[ΩnO,hp,ΩnS,Ωow];rfl
   have hm1:∀o,MapV (wr.alloc o) Tryz.prog 3 b k (ΩfB ((P.take k).map (·.id))):=fun o=>hS.map.only ((Only.refl Ωa _).alloc o) (fun e=>e)
   have hkey:=ΩgE hpo.id
   have HS:=Θ hS
   have HTK:=Θ htk
   have HID:=Θ hid
   have HM1:=Θ hm1
   have HKEY:=Θ hkey
   clear hS htk hid hm1 hkey hr hr2
   by_cases hseen:p.id∈(P.take k).map (·.id)
   ·have hlk:∀o,(Instr.lookup 193 (.map (some b)) (.int .i64 p.id) false).run Tryz.prog (wr.alloc o)= .ok (.bool true) (wr.alloc o):=fun o=>by
     rw[(HM1.out o).look Ωbj Tryz.underlying193 (Ωf2 _) HKEY.out,Ωkp hseen];rfl
    have hn:¬(p.id∉(P.take k).map (·.id)∧p.role=2):=fun h=>h.1 hseen
    have HN:=Θ hn
    clear hseen hn
    go_wp2_with (first
     |(at_mapUpdate;refine ΩbU _ rfl _ _ _ 193 rfl 3 4 Ωbj Tryz.underlying193 b k _ rfl (HM1.out _) (by rw[Ωg];omega) _ _ _ rfl rfl HKEY.out ?_;intro w1 hown1 hgrow1))
    have hnew:OfS w b P (k+1) u4 w1:=by
     refine⟨?_,?_,((HS.out.only.alloc _).grown hgrow1 (fun j e=>by cases e;exact .inr hwb))⟩
     ·rw[HID.out];exact hown1.congr (Ωgk _ _)
     ·rw[HTK.out,ΩnU HN.out,Ωox]
      exact World.ownsRow.kept (World.ownsRow.alloc (show World.ownsRow wr _ _ _ _ _ _ from HS.out.own) _) hgrow1 (.inr (Ωaz HS.out.own HS.out.map))
    have HNEW:=Θ hnew
    clear hown1 hgrow1 hnew c0 c1 c2 hlk
    go_roundw
    case rel=>exact⟨k+1,by go_num,by omega,HNEW.out⟩
    case measure=>simp[intOf];omega
   ·have hlk:∀o,(Instr.lookup 193 (.map (some b)) (.int .i64 p.id) false).run Tryz.prog (wr.alloc o)= .ok (.bool false) (wr.alloc o):=fun o=>by
     rw[(HM1.out o).look Ωbj Tryz.underlying193 (Ωf2 _) HKEY.out,seenF_out hseen];rfl
    by_cases hrole:p.role=2
    ·have hr2:(p.role==2)=true:=beq_iff_eq.2 hrole
     have hn:p.id∉(P.take k).map (·.id)∧p.role=2:=⟨hseen,hrole⟩
     have HN:=Θ hn
     clear hseen hn hrole
     have hcells:(offs (P.take (k+1))).flatMap Ωbx=(offs (P.take k)).flatMap Ωbx++[.int .i64 p.id,.int .i64 p.role,.int .i64 p.pub]:=by
      rw[HTK.out,ΩnV HN.out,Ωn2,ΩnW,List.flatMap_nil,Ωox];rfl
     have hol:(offs (P.take k)).length≤k:=Ωnz (Ωce _) (ΩoM _ _)
     have hol1:(offs (P.take (k+1))).length =(offs (P.take k)).length +1:=by rw[HTK.out,ΩnV HN.out,ΩnA];rfl
     have hsz:=HS.out.only.size
     have HCELLS:=Θ hcells
     have HOL1:=Θ hol1
     have HC2:Hid (∀o w2,World.grownBy ((wr.alloc (.cells #[.int .i64 p.id,.int .i64 p.role,.int .i64 p.pub] 67)).alloc o) w2 (Value.ownBlock u4)→w2.cell? ⟨wr.heap.size,0,none⟩=some (.int .i64 p.id)):=Θ (fun o w2 hg=>by
      rw[hg.cell_far ⟨wr.heap.size,0,none⟩ (by simp;omega) (fun e=>by have:=(World.ownsRow.lt (show World.ownsRow wr _ _ _ _ _ _ from HS.out.own) _ e.symm).2;simp at this)]
      exact((Blk.new wr 67 #[.int .i64 p.id,.int .i64 p.role,.int .i64 p.pub]).alloc o).cell 0)
     have hm2all:∀o o',MapV ((wr.alloc o).alloc o') Tryz.prog 3 b k (ΩfB ((P.take k).map (·.id))):=fun o o' =>(HM1.out o).only ((Only.refl Ωa _).alloc o') (fun e=>e)
     clear hcells hol1
     go_wp2_with (first
      |(at_builtin;refine wpList_append_lies _ rfl _ _ 46 rfl w.heap.size 67 ie z 3 24 Tryz.underlying46 HIE.out HZ.out HSZ.out HBY.out HZC.out (by omega) u4 _ _ rfl ((HS.out.own.alloc _).alloc _) ⟨wr.heap.size+1,0,none⟩ 1 1 [.int .i64 p.id,.int .i64 p.role,.int .i64 p.pub] rfl rfl (World.news_of_block (cs:= #[.int .i64 p.id,.int .i64 p.role,.int .i64 p.pub]) (t:=67) (fr:=(0,0)) (by have h9:=heap_alloc_new (wr.alloc (.cells #[.int .i64 p.id,.int .i64 p.role,.int .i64 p.pub] 67)) (.cells #[.int .i64 p.id,.int .i64 p.role,.int .i64 p.pub] 67);rw[Ωnw] at h9;exact h9)) (by simp[Value.oneCell']) (by omega) (by rw[Ωg];omega) (by omega) (by simp;omega) (wr.heap.size+1+1) (by simp) ?_;intro g2 cap2 w2 hown2 hgrow2 hat2 hlt2;have hm2:=(hm2all _ _).grown hgrow2 (Ne.symm (Ωaz HS.out.own HS.out.map));have hc2:=HC2.out _ w2 hgrow2)
      |(at_mapUpdate;refine ΩbU _ rfl _ _ _ 193 rfl 3 4 Ωbj Tryz.underlying193 b k _ rfl hm2 (by rw[Ωg];omega) _ _ _ rfl rfl HKEY.out ?_;intro w1 hown1 hgrow1))
     have hnew:OfS w b P (k+1) (.slice (some ⟨g2,0,none⟩) ((offs (P.take k)).length +1) cap2) w1:=by
      refine⟨?_,?_,(((HS.out.only.alloc _).alloc _).grown hgrow2 (fun j e=> .inr (World.ownsRow.lt (show World.ownsRow wr _ _ _ _ _ _ from HS.out.own) _ e).1)).grown hgrow1 (fun j e=>by cases e;exact .inr hwb)⟩
      ·rw[HID.out];exact hown1.congr (Ωgk _ _)
      ·unfold ΩT
       rw[HCELLS.out,HOL1.out]
       exact World.ownsRow.kept hown2 hgrow1 (.inr (Ωaz hown2 hm2))
     have HNEW:=Θ hnew
     clear hown1 hgrow1 hown2 hgrow2 hm2 hc2 hm2all hnew c0 c1 c2 hlk hr2 hat2 hlt2
     go_roundw
     case rel=>exact⟨k+1,by go_num,by omega,HNEW.out⟩
     case measure=>simp[intOf];omega
    ·have hr2:(p.role==2)=false:=ΩnL.2 hrole
     have hn:¬(p.id∉(P.take k).map (·.id)∧p.role=2):=fun h=>hrole h.2
     have HN:=Θ hn
     clear hseen hn hrole
     go_wp2_with (first
      |(at_mapUpdate;refine ΩbU _ rfl _ _ _ 193 rfl 3 4 Ωbj Tryz.underlying193 b k _ rfl (HM1.out _) (by rw[Ωg];omega) _ _ _ rfl rfl HKEY.out ?_;intro w1 hown1 hgrow1))
     have hnew:OfS w b P (k+1) u4 w1:=by
      refine⟨?_,?_,((HS.out.only.alloc _).grown hgrow1 (fun j e=>by cases e;exact .inr hwb))⟩
      ·rw[HID.out];exact hown1.congr (Ωgk _ _)
      ·rw[HTK.out,ΩnU HN.out,Ωox]
       exact World.ownsRow.kept (World.ownsRow.alloc (show World.ownsRow wr _ _ _ _ _ _ from HS.out.own) _) hgrow1 (.inr (Ωaz HS.out.own HS.out.map))
     have HNEW:=Θ hnew
     clear hown1 hgrow1 hnew c0 c1 c2 hlk hr2
     go_roundw
     case rel=>exact⟨k+1,by go_num,by omega,HNEW.out⟩
     case measure=>simp[intOf];omega
  ·obtain rfl:k=P.length:=by omega
   have hall:P.take P.length=P:=Ωok
   have hown:=hS.own
   rw[hall] at hown
   have HSL:=Θ (hown.sl)
   have HO:=Θ hS.only
   clear hS hown hall
   go_wp2_with fail
   go_ret
   exact⟨_,rfl,HSL.out,HO.out⟩
end
section
open Go.RowKit
def Ωdi(P:List Pers)(id:Int)(j:Nat):Bool:=decide (id∉(P.take j).map (·.id))
theorem freshB_zero(P:List Pers)(id:Int):Ωdi P id 0=true:=by simp[Ωdi]
theorem freshB_succ{P:List Pers}{id:Int}{j:Nat}{q:Pers}(h:P[j]? =some q):Ωdi P id (j+1)=(Ωdi P id j&&(q.id !=id)):=by
 unfold Ωdi
 rw[ΩnO,h,ΩnS,Ωow,Ωoy]
 simp[not_or]
 intro _
 exact⟨fun h e=>h e.symm,fun h e=>h e.symm⟩
structure OgS(w:World)(B:Nat)(pv:Value)(P:List Pers)(k:Nat)(ov:Value)(W:World):Prop where
 box:W.cell? ⟨B,0,none⟩=some pv
 own:ΩT W w.heap.size ov (offs (P.take k)).length (offs (P.take k))
 only:Only Ωa w W
 bt:ov.ownBlock≠some B
 lt:B<W.heap.size
theorem ΩdN(P:List Pers)(hlen:P.length≤1000)(pv:Value)(w:World)(hp:Ωa6 w pv P):Calls Tryz.prog 99 #[setV pv] w fun e w' =>∃ov,e= .returned ov∧Ωa6 w' ov (offs P)∧Only Ωa w w' :=by
 obtain⟨ie,z,hie,hsz,hz,hzc,hby⟩:=Ωcr
 obtain⟨A,cap,rfl,hlc,hcm,hA⟩:=hp
 unfold setV
 obtain⟨B,eB⟩:∃B,B=w.heap.size:=⟨_,rfl⟩
 have hs0:OgS w B (.slice A P.length cap) P 0 (.slice none 0 0) (w.alloc (.cells #[.slice A P.length cap,.int .i64 0,.slice none 0 0,.slice none 0 0,.int .i64 0,.int .i64 0] 50)):=by
  refine⟨by rw[eB];exact(Blk.new w 50 #[.slice A P.length cap,.int .i64 0,.slice none 0 0,.slice none 0 0,.int .i64 0,.int .i64 0]).cell 0,⟨rfl,.inl ⟨rfl,rfl⟩⟩,(Only.refl _ _).alloc _,by simp[Value.ownBlock],by rw[eB];simp⟩
 have HS0:=Θ hs0
 have HA:=Θ hA
 have HIE:=Θ hie
 have HSZ:=Θ hsz
 have HZ:=Θ hz
 have HZC:=Θ hzc
 have HBY:=Θ hby
 have HEB:=Θ eB
 clear hs0 hA hie hsz hz hzc hby eB
 go_enter Tryz.func99,Tryz.ntmps99
 go_upto_region 1 with(fail)
 rw[←HEB.out]
 refine Ωf (OgS w B (.slice A P.length cap) P 0 (.slice none 0 0)) HS0.out ?_
 intro Y hY
 have HY:=Θ hY
 clear hY HS0
 go_wp2_with fail
 go_loopw [3,4,5,6] (fun ov i _ _ wr=>∃k:Nat,i= .int .i64 k∧k≤P.length∧OgS w B (.slice A P.length cap) P k ov wr) (fun _ i _ _ _=>P.length-(intOf i).toNat)
 case atStart=>exact⟨0,rfl,Ωoh _,HY.out⟩
 case round=>
  obtain⟨k,rfl,hk,hS⟩:=hrel
  have hbox:=hS.box
  by_cases hlt:k<P.length
  ·obtain⟨p,hp⟩:∃p,P[k]? =some p:=⟨_,Ωnu hlt⟩
   obtain⟨g,o,hA',hg,hr⟩:=HA.out k p hp
   subst hA'
   have ik:(k:Int)<(P.length:Int):=by omega
   have ik0:(0:Int)≤(k:Int):=by omega
   have htk:=Ωi9 hp
   obtain⟨wo,rfl⟩:∃wo:World,wo=wr:=⟨_,rfl⟩
   have HTK:=Θ htk
   have HP:=Θ hp
   have HR:=Θ hr
   have HS:=Θ hS
   clear htk hr hS hp
   go_wp2_with fail
   go_loopw [5,6] (fun f j wi=>∃m:Nat,j= .int .i64 m∧m≤k∧f= .bool (Ωdi P p.id m)∧Only Ωa wo wi) (fun _ j _=>k-(intOf j).toNat)
   case atStart=>exact⟨0,rfl,Ωoh _,by rw[freshB_zero],Only.refl _ _⟩
   case round=>
    obtain⟨m,rfl,hm,rfl,ho⟩:=hrel
    have hbx:wr.cell? ⟨B,0,none⟩=some (.slice (some ⟨g,o,none⟩) P.length cap):=ho.cell_some hbox (fun e=>e)
    have HO:=Θ ho
    by_cases hmk:m<k
    ·obtain⟨q,hq⟩:∃q,P[m]? =some q:=⟨_,Ωnu (by omega)⟩
     obtain⟨g',o',hA',_,hr'⟩:=HA.out m q hq
     obtain⟨rfl,rfl⟩:g=g'∧o=o' :=by simpa using hA'
     have hfs:=freshB_succ (id:=p.id) hq
     have cm:wr.cell? ⟨g,o+m*3,none⟩=some (.int .i64 q.id):=(HS.out.only.trans ho).cell_some (hr' 0 _ rfl) (fun e=>e)
     have ck:wr.cell? ⟨g,o+k*3,none⟩=some (.int .i64 p.id):=(HS.out.only.trans ho).cell_some (HR.out 0 _ rfl) (fun e=>e)
     have im:(m:Int)<(k:Int):=by omega
     have im0:(0:Int)≤(m:Int):=by omega
     have im1:(m:Int)<(P.length:Int):=by omega
     have HFS:=Θ hfs
     clear hfs hr' hA' ho hbox hq
     cases hfr:Ωdi P p.id m with
     |true=>
      have HFR:=Θ hfr
      clear hfr
      go_upto_region 9 with(fail)
      go_quiet (fail)
      all_goals
       go_wp2_with fail
       go_roundw
       case rel=>exact⟨m+1,by go_num,by omega,by rw[HFS.out,HFR.out];rfl,HO.out.drewN _⟩
       case measure=>simp[intOf];omega
     |false=>
      have HFR:=Θ hfr
      clear hfr
      go_upto_region 9 with(fail)
      go_quiet (fail)
      all_goals
       go_wp2_with fail
       go_roundw
       case rel=>exact⟨m+1,by go_num,by omega,by rw[HFS.out,HFR.out];rfl,HO.out.drewN _⟩
       case measure=>simp[intOf];omega
    ·obtain rfl:m=k:=by omega
     have c0:wr.cell? ⟨g,o+m*3,none⟩=some (.int .i64 p.id):=(HS.out.only.trans ho).cell_some (HR.out 0 _ rfl) (fun e=>e)
     have c1:wr.cell? ⟨g,o+m*3+1,none⟩=some (.int .i64 p.role):=(HS.out.only.trans ho).cell_some (HR.out 1 _ rfl) (fun e=>e)
     have c2:wr.cell? ⟨g,o+m*3+2,none⟩=some (.int .i64 p.pub):=(HS.out.only.trans ho).cell_some (HR.out 2 _ rfl) (fun e=>e)
     have hown:World.ownsRow wr w.heap.size 67 3 u3 (offs (P.take m)).length ((offs (P.take m)).flatMap Ωbx):=Ωe HS.out.own ho (fun _ _ e=>e)
     have HOWN:=Θ hown
     have HBX:=Θ hbx
     clear ho hown hbox
     cases hfr:Ωdi P p.id m with
     |false=>
      have hn:¬(p.id∉(P.take m).map (·.id)∧p.role=2):=fun h=>by
       have h1:Ωdi P p.id m=true:=by unfold Ωdi;exact ΩnG h.1
       rw[hfr] at h1;cases h1
      have hnew:OgS w B (.slice (some ⟨g,o,none⟩) P.length cap) P (m+1) u3 wr:=by
       refine⟨hbx,?_,HS.out.only.trans HO.out,HS.out.bt,ΩnT HS.out.lt HO.out.size⟩
       rw[HTK.out,ΩnU hn,Ωox]
       exact HOWN.out
      have HNEW:=Θ hnew
      clear hn hnew hfr
      go_wp2_with fail
      go_roundw
      case rel=>exact⟨m+1,by go_num,by omega,HNEW.out⟩
      case measure=>simp[intOf];omega
     |true=>
      have h1:p.id∉(P.take m).map (·.id):=by
       unfold Ωdi at hfr;exact Ωop hfr
      by_cases hrole:p.role=2
      ·have hr2:(p.role==2)=true:=beq_iff_eq.2 hrole
       have hn:p.id∉(P.take m).map (·.id)∧p.role=2:=⟨h1,hrole⟩
       have hcells:(offs (P.take (m+1))).flatMap Ωbx=(offs (P.take m)).flatMap Ωbx++[.int .i64 p.id,.int .i64 p.role,.int .i64 p.pub]:=by
        rw[HTK.out,ΩnV hn,Ωn2,ΩnW,List.flatMap_nil,Ωox];rfl
       have hol:(offs (P.take m)).length≤m:=Ωnz (Ωce _) (ΩoM _ _)
       have hol1:(offs (P.take (m+1))).length =(offs (P.take m)).length +1:=by rw[HTK.out,ΩnV hn,ΩnA];rfl
       have hsz:=HO.out.size
       have hsz2:=HS.out.only.size
       have HCELLS:=Θ hcells
       have HOL1:=Θ hol1
       clear hcells hol1 hfr h1 hrole hn
       go_wp2_with (first
        |(at_builtin;refine wpList_append_lies _ rfl _ _ 46 rfl w.heap.size 67 ie z 3 24 Tryz.underlying46 HIE.out HZ.out HSZ.out HBY.out HZC.out (by omega) u3 _ _ rfl (HOWN.out.alloc _) ⟨wr.heap.size,0,none⟩ 1 1 [.int .i64 p.id,.int .i64 p.role,.int .i64 p.pub] rfl rfl (World.news_of_block (cs:= #[.int .i64 p.id,.int .i64 p.role,.int .i64 p.pub]) (t:=67) (fr:=(0,0)) (heap_alloc_new wr _)) (by simp[Value.oneCell']) (by omega) (by rw[Ωg];omega) (by omega) (by simp;omega) (wr.heap.size+1) (by simp) ?_;intro g2 cap2 w2 hown2 hgrow2 hat2 hlt2))
       have hnew:OgS w B (.slice (some ⟨g,o,none⟩) P.length cap) P (m+1) (.slice (some ⟨g2,0,none⟩) ((offs (P.take m)).length +1) cap2) w2:=by
        have hlt9:=HS.out.lt
        refine⟨?_,?_,((HS.out.only.trans HO.out).alloc _).grown hgrow2 (fun j e=> .inr (World.ownsRow.lt HOWN.out _ e).1),?_,ΩnT HS.out.lt (Ωnz HO.out.size (Ωnz (by simp) hgrow2.size))⟩
        ·rw[hgrow2.cell_far ⟨B,0,none⟩ (by simp;omega) (fun e=>HS.out.bt e.symm),World.cell?_of_block (Below.heap_alloc wr _ B (by omega))]
         exact HBX.out
        ·unfold ΩT
         rw[HCELLS.out,HOL1.out]
         exact hown2
        ·intro e
         simp only[Value.ownBlock,Option.some.injEq] at e
         rcases hat2 with h|h
         ·exact HS.out.bt (by rw[h,e])
         ·omega
       have HNEW:=Θ hnew
       clear hnew hown2 hgrow2 hat2 hlt2 c0 c1 c2 hr2
       go_wp2_with fail
       go_roundw
       case rel=>exact⟨m+1,by go_num,by omega,HNEW.out⟩
       case measure=>simp[intOf];omega
      ·have hr2:(p.role==2)=false:=ΩnL.2 hrole
       have hn:¬(p.id∉(P.take m).map (·.id)∧p.role=2):=fun h=>hrole h.2
       have hnew:OgS w B (.slice (some ⟨g,o,none⟩) P.length cap) P (m+1) u3 wr:=by
        refine⟨hbx,?_,HS.out.only.trans HO.out,HS.out.bt,ΩnT HS.out.lt HO.out.size⟩
        rw[HTK.out,ΩnU hn,Ωox]
        exact HOWN.out
       have HNEW:=Θ hnew
       clear hn hnew hfr h1 hrole
       go_wp2_with fail
       go_roundw
       case rel=>exact⟨m+1,by go_num,by omega,HNEW.out⟩
       case measure=>simp[intOf];omega
  ·obtain rfl:k=P.length:=by omega
   have hall:P.take P.length=P:=Ωok
   have hown:=hS.own
   rw[hall] at hown
   have HSL:=Θ (hown.sl)
   have HO:=Θ hS.only
   clear hS hown hall
   go_wp2_with fail
   go_ret
   exact⟨_,rfl,HSL.out,HO.out⟩
end
end Go.Proofs.YtgalfohobgjelaaGreatDoor
