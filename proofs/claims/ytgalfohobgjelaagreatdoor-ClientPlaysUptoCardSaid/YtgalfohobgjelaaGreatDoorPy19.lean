/- What is proved here: a part of the proof that 'probitylaw31.ClientPlays' answers true. Conditions: each theorem's own. -/
import Derived.Test.YtgalfohobgjelaaGreatDoorPy17
import Derived.Test.YtgalfohobgjelaaGreatDoorPy18
set_option maxRecDepth 100000
set_option maxHeartbeats 8000000
namespace Go.Proofs.YtgalfohobgjelaaGreatDoor
section
open Go.RowKit
section
variable {P:Program} {ops:Array Oper} {md:Region.Mode} {C:Array Bool→World→Prop}
def ΩcT(md:Region.Mode)(ops:Array Oper)(L:Array Bool):Bool:=
 L.size==ops.size&&(List.range ops.size).all fun i=> !L.getD i false||((ops[i]?).map (·.after.all fun e=> !Region.binds md e||L.getD e.on false)).getD false
def fwdB(md:Region.Mode)(ops:Array Oper):Bool:=(List.range ops.size).all fun i=>((ops[i]?).map (·.after.all fun e=> !Region.binds md e||decide (e.on<i))).getD true
def depB(md:Region.Mode)(ops:Array Oper)(i j:Nat):Bool:=((ops[i]?).map (·.after.toList.any fun e=>Region.binds md e&&e.on==j)).getD false
theorem Ωiy{L:Array Bool}(h:ΩcT md ops L=true){i j:Nat}(hi:L.getD i false=true)(hd:depB md ops i j=true):L.getD j false=true:=by
 unfold ΩcT at h
 simp only[Ωoa,List.all_eq_true,List.mem_range] at h
 unfold depB at hd
 cases ho:ops[i]? with
 |none=>rw[ho] at hd;cases hd
 |some o=>
  have hlt:i<ops.size:=(Ωob.1 ho).1
  have h1:=h.2 i hlt
  rw[hi,ho] at h1
  rw[ho] at hd
  simp only[Ωoe,Option.getD_some,Bool.not_true,Bool.false_or,Array.all_eq_true_iff_forall_mem,List.any_eq_true] at h1 hd
  obtain⟨e,he,h2⟩:=hd
  have h3:=h1 e (Array.mem_toList_iff.1 he)
  simp only[Ωoa,beq_iff_eq] at h2
  rw[h2.1,h2.2] at h3
  simpa using h3
theorem Ωar(n i:Nat):(Array.replicate n false).getD i false=false:=by
 rcases Nat.lt_or_ge i n with h|h
 ·simp[h]
 ·simp[h]
theorem Ωew{L:Array Bool}{i:Nat}(h:i∈Region.ready md ops L):i<L.size:=by
 have h0:=(mem_ready.1 h).1
 rcases Nat.lt_or_ge i L.size with h' |h'
 ·exact h'
 ·simp[Array.getElem?_eq_none h'] at h0
theorem ΩP{L:Array Bool}{i:Nat}(h:i∈Region.ready md ops L):L.getD i false=false:=by
 have h0:=(mem_ready.1 h).1
 have hl:=Ωew h
 simp[hl] at h0⊢
 exact h0
theorem Ωh7{L:Array Bool}{i:Nat}(h:i<L.size):(L.setIfInBounds i true).getD i false=true:=by simp[h]
theorem Ωab{L:Array Bool}{i j:Nat}(h:i≠j):(L.setIfInBounds i true).getD j false=L.getD j false:=getD_set_ne false h
theorem Ωkl{L:Array Bool}{i j:Nat}(h:L.getD j false=true):(L.setIfInBounds i true).getD j false=true:=by
 by_cases e:i=j
 ·subst e
  have:i<L.size:=by
   rcases Nat.lt_or_ge i L.size with h' |h'
   ·exact h'
   ·simp[Array.getElem?_eq_none h'] at h
  exact Ωh7 this
 ·rw[Ωab e];exact h
theorem down_set{L:Array Bool}{i:Nat}(h:ΩcT md ops L=true)(hr:i∈Region.ready md ops L):ΩcT md ops (L.setIfInBounds i true)=true:=by
 have hd:=h
 unfold ΩcT at h⊢
 simp only[Ωoa,List.all_eq_true,List.mem_range,Array.size_setIfInBounds] at h⊢
 refine⟨h.1,fun k hk=> ?_⟩
 cases ho:ops[k]? with
 |none=>exact absurd (Array.getElem?_eq_none_iff.1 ho) (by omega)
 |some o=>
  simp only[Ωoe,Option.getD_some,Bool.or_eq_true,Bool.not_eq_true',Array.all_eq_true_iff_forall_mem]
  by_cases e:i=k
  ·subst e
   right
   intro e he
   by_cases hb:Region.binds md e=true
   ·right
    obtain⟨_,o',ho',hall⟩:=mem_ready.1 hr
    rw[ho] at ho'
    cases ho'
    exact Ωkl (hall e he hb)
   ·left;simpa using hb
  ·rw[Ωab e]
   have h1:=h.2 k hk
   rw[ho] at h1
   simp only[Ωoe,Option.getD_some,Bool.or_eq_true,Bool.not_eq_true',Array.all_eq_true_iff_forall_mem] at h1
   rcases h1 with h1|h1
   ·exact .inl h1
   ·right
    intro e he
    rcases h1 e he with h2|h2
    ·exact .inl h2
    ·exact .inr (Ωkl h2)
theorem all_done{L:Array Bool}(hf:fwdB md ops=true)(h:ΩcT md ops L=true)(hr:Region.ready md ops L=[]):∀i,i<ops.size→L.getD i false=true:=by
 have hsz:L.size=ops.size:=by
  unfold ΩcT at h
  simp only[Ωoa,beq_iff_eq] at h
  exact h.1
 intro i
 induction i using Nat.strongRecOn with
 |ind i ih=>
  intro hi
  cases hL:L.getD i false with
  |true=>rfl
  |false=>
   exfalso
   have hm:i∈Region.ready md ops L:=by
    refine mem_ready.2 ⟨?_,ops[i],Array.getElem?_eq_getElem hi,fun e he hb=> ?_⟩
    ·have hl:i<L.size:=by omega
     simp[hl] at hL⊢
     exact hL
    ·unfold fwdB at hf
     simp only[List.all_eq_true,List.mem_range] at hf
     have h1:=hf i hi
     rw[Array.getElem?_eq_getElem hi] at h1
     simp only[Ωoe,Option.getD_some,Array.all_eq_true_iff_forall_mem] at h1
     have h2:=h1 e he
     rw[hb] at h2
     simp only[Bool.not_true,Bool.false_or,decide_eq_true_eq] at h2
     exact ih e.on h2 (by omega)
   rw[hr] at hm
   cases hm
def Ωm(P:Program)(C' :World→Prop)(v:Value):Result Next→Prop
 | .ok (.value u) w' =>C' w'∧u=v
 | .ok .skip w' =>C' w'∧v=undef
 | .ok (.enter f args) w' =>Calls P f args w' (fun e w'' =>e= .returned v∧C' w'')
 |_=>False
def Ωz(P:Program)(o:Oper)(a:Act)(C' :World→Prop)(w:World)(v:Value):Prop:=Ωm P C' v ((execOp a.eval o).run P w)
def Ωnh(P:Program)(md:Region.Mode)(ops:Array Oper)(C:Array Bool→World→Prop)(i:Nat)(o:Oper)(a:Act)(next:Act→Prop):Prop:=
 ∃v,(∀L w,ΩcT md ops L=true→i∈Region.ready md ops L→C L w→Ωz P o a (C (L.setIfInBounds i true)) w v)∧next (a.put o.dst v)
def ΩbN(P:Program)(md:Region.Mode)(ops:Array Oper)(C:Array Bool→World→Prop)(Q:Act→Prop):Nat→List Oper→Act→Prop
 |_,[],a=>Q a
 |i,o::rest,a=>if Region.wanted o (yielded ops a.tmps) then Ωnh P md ops C i o a (ΩbN P md ops C Q (i+1) rest) else(∀L w,ΩcT md ops L=true→i∈Region.ready md ops L→C L w→C (L.setIfInBounds i true) w)∧ΩbN P md ops C Q (i+1) rest (a.put o.dst undef)
def fOp(P:Program)(md:Region.Mode)(ops:Array Oper)(C:Array Bool→World→Prop)(i:Nat)(K:Act→Prop)(a:Act):Prop:=
 match ops[i]? with
 |none=>K a
 |some o=>if Region.wanted o (yielded ops a.tmps) then Ωnh P md ops C i o a K else(∀L w,ΩcT md ops L=true→i∈Region.ready md ops L→C L w→C (L.setIfInBounds i true) w)∧K (a.put o.dst undef)
theorem fOp_mono{i:Nat}{a:Act}{K K' :Act→Prop}(h:∀a,K a→K' a)(hh:fOp P md ops C i K a):fOp P md ops C i K' a:=by
 unfold fOp at *
 split
 ·exact h _ (by simpa [*] using hh)
 ·rename_i o ho
  simp only[ho] at hh
  split
  ·rename_i hw
   simp only[hw,if_true] at hh
   obtain⟨v,h1,h2⟩:=hh
   exact⟨v,h1,h _ h2⟩
  ·rename_i hw;simp only[hw] at hh;exact⟨hh.1,h _ hh.2⟩
def ΩiJ(P:Program)(md:Region.Mode)(ops:Array Oper)(C:Array Bool→World→Prop)(Q:Act→Prop):Nat→Array Bool→Act→Prop
 |0,ΩaA,a=>Region.ready md ops ΩaA=[]∧Q a
 |fuel+1,ΩaA,a=>
  (Region.ready md ops ΩaA=[]→Q a)∧
  ∀i∈Region.ready md ops ΩaA,fOp P md ops C i (ΩiJ P md ops C Q fuel (ΩaA.setIfInBounds i true)) a
theorem wpOp_of_fOp{i:Nat}{L:Array Bool}{a:Act}{K:Act→Prop}{K' :Act→World→Prop}{Q' :Exit→Act→World→Prop}{w:World}(hd:ΩcT md ops L=true)(hr:i∈Region.ready md ops L)(hC:C L w)
  (h:∀a w',C (L.setIfInBounds i true) w'→K a→K' a w') (hh:fOp P md ops C i K a):wpOp P ops Q' i K' a w:=by
 unfold fOp at hh
 unfold wpOp
 split
 ·rename_i ho
  obtain⟨_,o,ho',_⟩:=mem_ready.1 hr
  rw[ho] at ho'
  cases ho'
 ·rename_i o ho
  simp only[ho] at hh
  split
  ·rename_i hw
   simp only[hw,if_true] at hh
   obtain⟨v,h1,h2⟩:=hh
   have h3:=h1 L w hd hr hC
   left
   unfold Ωz at h3
   unfold Oper.wp
   generalize (execOp a.eval o).run P w=r at *
   cases r with
   |ok n w' =>
    cases n<;>simp only[Ωm] at h3<;>simp only[Oper.upon]
    case value u=>
     obtain⟨e1,e2⟩:=h3
     rw[e2]
     exact h _ _ e1 h2
    case skip=>
     obtain⟨e1,e2⟩:=h3
     rw[←e2]
     exact h _ _ e1 h2
    case enter f args=>exact h3.mono fun e w'' ⟨he,hw''⟩=>by subst he;exact h _ _ hw'' h2
   |halt x w' =>simp only[Ωm] at h3
  ·rename_i hw
   simp only[hw] at hh
   exact h _ _ (hh.1 L w hd hr hC) hh.2
theorem Ωei{Q:Act→Prop}{Q' :Exit→Act→World→Prop}(hQ:∀L a w,ΩcT md ops L=true→Region.ready md ops L=[]→C L w→Q a→Q' .normal a w):∀(fuel:Nat) (ΩaA:Array Bool) (a:Act) (w:World),ΩcT md ops ΩaA=true→C ΩaA w→
  ΩiJ P md ops C Q fuel ΩaA a→wpAny P md ops Q' fuel ΩaA a w
 |0,_,_,_,hd,hw,h=>⟨h.1,hQ _ _ _ hd h.1 hw h.2⟩
 |fuel+1,_,_,_,hd,hw,h=>⟨fun h0=>hQ _ _ _ hd h0 hw (h.1 h0),fun i hi=>wpOp_of_fOp hd hi hw (fun a' w' hw' =>Ωei hQ fuel _ a' w' (down_set hd hi) hw') (h.2 i hi)⟩
def ΩbK(P:Program)(md:Region.Mode)(ops:Array Oper)(C:Array Bool→World→Prop)(i:Nat)(o:Oper)(v:Value)(a:Act):Prop:=
 (Region.wanted o (yielded ops a.tmps)=true∧∀L w,ΩcT md ops L=true→i∈Region.ready md ops L→C L w→Ωz P o a (C (L.setIfInBounds i true)) w v)∨
 (Region.wanted o (yielded ops a.tmps)=false∧(∀L w,ΩcT md ops L=true→i∈Region.ready md ops L→C L w→C (L.setIfInBounds i true) w)∧v=undef)
theorem ΩbK.fOp{i:Nat}{o:Oper}{v:Value}{a:Act}(hi:ops[i]? =some o)(hy:ΩbK P md ops C i o v a){K:Act→Prop}(h:K (a.put o.dst v)):fOp P md ops C i K a:=by
 unfold Go.Proofs.YtgalfohobgjelaaGreatDoor.fOp
 simp only[hi]
 rcases hy with⟨hw,hv⟩|⟨hw,hc,rfl⟩
 ·simp only[hw,if_true];exact⟨v,hv,h⟩
 ·simp only[hw,Bool.false_eq_true,if_false];exact⟨hc,h⟩
theorem ΩbK.of_same{i:Nat}{o:Oper}{v:Value}{a a' :Act}(hy:ΩbK P md ops C i o v a)(he:execOp a'.eval o=execOp a.eval o)
  (hw:Region.wanted o (yielded ops a'.tmps)=Region.wanted o (yielded ops a.tmps)):ΩbK P md ops C i o v a' :=by
 unfold ΩbK Ωz at *
 rw[he,hw]
 exact hy
theorem yieldsF_of_fOp{i:Nat}{o:Oper}{a:Act}{K:Act→Prop}(hi:ops[i]? =some o)(h:fOp P md ops C i K a):∃v,ΩbK P md ops C i o v a∧K (a.put o.dst v):=by
 unfold fOp at h
 simp only[hi] at h
 by_cases hw:Region.wanted o (yielded ops a.tmps)=true
 ·simp only[hw,if_true] at h
  obtain⟨v,h1,h2⟩:=h
  exact⟨v,.inl ⟨hw,h1⟩,h2⟩
 ·simp only[hw] at h
  exact⟨undef,.inr ⟨by simpa using hw,h.1,rfl⟩,h.2⟩
theorem fOp_put{i j:Nat}{oi oj:Oper}{v:Value}(hj:ops[j]? =some oj)(hap:oi.apart ops oj=true)
  (hsi:∀cs b,oi.op≠.select cs b) (hsj:∀cs b,oj.op≠.select cs b) {K:Act→Prop} {a:Act}
  (hy:ΩbK P md ops C i oi v a) (h:fOp P md ops C j K (a.put oi.dst v)):
  fOp P md ops C j (fun a' =>ΩbK P md ops C i oi v a'∧K (a'.put oi.dst v)) a:=by
 obtain⟨h1,h2,h3⟩:=Oper.apart_spec hap
 have keep:∀(a:Act),ΩbK P md ops C i oi v a→∀u,ΩbK P md ops C i oi v (a.put oj.dst u):=fun a hy u=>
  hy.of_same (execOp_put oi hsi a oj.dst u h3) (wanted_put oi a oj.dst u h3)
 unfold fOp at *
 simp only[hj] at *
 rw[wanted_put oj a oi.dst v h1] at h
 split
 ·rename_i hw
  simp only[hw,if_true] at h
  obtain⟨u,hu,hn⟩:=h
  refine⟨u,fun L w hd hr hw' => ?_,keep a hy u,by rw[←Act.put_comm a v u h2];exact hn⟩
  have:=hu L w hd hr hw'
  unfold Ωz at *
  rwa [execOp_put oj hsj a oi.dst v h1] at this
 ·rename_i hw
  simp only[hw] at h
  exact⟨h.1,keep a hy _,by rw[←Act.put_comm a v undef h2];exact h.2⟩
theorem wpAnyF_first{Q:Act→Prop}{i:Nat}{oi:Oper}{v:Value}(hi:ops[i]? =some oi)(hsel:∀(j:Nat) (o:Oper) cs b,ops[j]? =some o→o.op≠.select cs b):
  ∀(fuel:Nat) (ΩaA:Array Bool) (a:Act),
   (∀j oj,ops[j]? =some oj→j≠i→ΩaA.getD j true=false→(∀e∈oj.after,Region.binds md e=true→e.on≠i)→oi.apart ops oj=true)→
   i∈Region.ready md ops ΩaA→ΩbK P md ops C i oi v a→
   ΩiJ P md ops C Q fuel (ΩaA.setIfInBounds i true) (a.put oi.dst v)→ΩiJ P md ops C Q (fuel+1) ΩaA a:=by
 intro fuel
 induction fuel with
 |zero=>
  intro ΩaA a _ hr hy H
  refine⟨fun h=>(by rw[h] at hr;cases hr),fun j hj=> ?_⟩
  by_cases hji:j=i
  ·subst hji;exact hy.fOp hi H
  ·have:=ready_mono hj hji
   rw[H.1] at this
   cases this
 |succ fuel ih=>
  intro ΩaA a hfree hr hy H
  refine⟨fun h=>(by rw[h] at hr;cases hr),fun j hj=> ?_⟩
  by_cases hji:j=i
  ·subst hji;exact hy.fOp hi H
  ·have h1:=H.2 j (ready_mono hj hji)
   obtain⟨hjun,oj,hoj,hall⟩:=mem_ready.1 hj
   have hnot:∀e∈oj.after,Region.binds md e=true→e.on≠i:=fun e he hb heq=>by
    have h1:=hall e he hb
    have h0:=(mem_ready.1 hr).1
    rw[heq] at h1
    rcases Nat.lt_or_ge i ΩaA.size with h' |h'
    ·simp[h'] at h0 h1;rw[h0] at h1;cases h1
    ·simp[Array.getElem?_eq_none h'] at h1
   have h2:=fOp_put hoj (hfree j oj hoj hji hjun hnot) (fun cs b=>hsel i oi cs b hi) (fun cs b=>hsel j oj cs b hoj) hy h1
   have hfree' :∀k ok,ops[k]? =some ok→k≠i→(ΩaA.setIfInBounds j true).getD k true=false→
     (∀e∈ok.after,Region.binds md e=true→e.on≠i)→oi.apart ops ok=true:=fun k ok hk hki hun hno=>by
    refine hfree k ok hk hki ?_ hno
    by_cases hjk:j=k
    ·subst hjk;exact hjun
    ·rw[getD_set_ne true hjk] at hun;exact hun
   refine fOp_mono (fun a' h3=>ih (ΩaA.setIfInBounds j true) a' hfree' (ready_mono hr (Ne.symm hji)) h3.1 ?_) h2
   rw[Array.setIfInBounds_comm _ _ hji]
   exact h3.2
theorem Ωhn{Q:Act→Prop}(hs:Region.noSelect ops=true):∀(l:List Oper) (k:Nat) (ΩaA:Array Bool) (a:Act),(∀j,l[j]? =ops[k+j]?)→
  Region.lexFrom md ops l.length k ΩaA=true→ΩbN P md ops C Q k l a→ΩiJ P md ops C Q l.length ΩaA a
 |[],_,_,_,_,hB,h=>⟨by simpa [Region.lexFrom] using hB,h⟩
 |o::l,k,ΩaA,a,hl,hB,h=>by
  have h0:ops[k]? =some o:=by simpa using(hl 0).symm
  simp only[ΩnD,Region.lexFrom,Ωoa] at hB
  obtain⟨⟨hr,hf⟩,hB'⟩:=hB
  have hst:fOp P md ops C k (ΩbN P md ops C Q (k+1) l) a:=by unfold fOp;simp only[h0];exact h
  obtain⟨v,hy,hK⟩:=yieldsF_of_fOp h0 hst
  exact wpAnyF_first h0 (Region.noSelect_spec hs) l.length ΩaA a (Region.free_spec h0 hf) (by simpa using hr) hy
   (Ωhn hs l (k+1) _ _ (fun j=>by have:=hl (j+1);simpa [Nat.add_assoc,Nat.add_comm 1 j] using this) hB' hK)
theorem Ωaf{id:Nat}{Q:Exit→Act→World→Prop}{a:Act}{w:World}{l:List Oper}(C:Array Bool→World→Prop)(hm:P.follows .mixedOrders =true)(hB:Region.lexB .any l.toArray=true)(hF:fwdB .any l.toArray=true)(h0:ΩcT .any l.toArray (Array.replicate l.toArray.size false)=true)
  (hC:C (Array.replicate l.toArray.size false) w.drew)
  (h:ΩbN P .any l.toArray C (fun a' =>∀L w',(∀i,i<l.toArray.size→L.getD i false=true)→C L w'→Q .normal a' w') 0 l a):(Code.region id l.toArray true).wp P Q a w:=by
 simp only[Region.lexB,Ωoa] at hB
 refine wp_region_any hm (Ωei (Q:=fun a' =>∀L w',(∀i,i<l.toArray.size→L.getD i false=true)→C L w'→Q .normal a' w') (fun L _ w' hd hr hw' h=>h L w' (all_done hF hd hr) hw') _ _ _ _ h0 hC ?_)
 have:=Ωhn (C:=C) (md:= .any) hB.1 l 0 (Array.replicate l.toArray.size false) a (by simp) (by simpa using hB.2) h
 simpa using this
theorem Ωk{Q:Act→Prop}{i:Nat}{o:Oper}{rest:List Oper}{a:Act}(v:Value)(hw:Region.wanted o (yielded ops a.tmps)=true)(h:∀L w,ΩcT md ops L=true→i∈Region.ready md ops L→C L w→Ωz P o a (C (L.setIfInBounds i true)) w v)
  (hK:ΩbN P md ops C Q (i+1) rest (a.put o.dst v)):ΩbN P md ops C Q i (o::rest) a:=by
 unfold ΩbN
 rw[ΩnV hw]
 exact⟨v,h,hK⟩
end
def Fl2(S F1 F2:World→Prop)(i1 i2:Nat)(L:Array Bool)(W:World):Prop:=S W∧(L.getD i1 false=true→F1 W)∧(L.getD i2 false=true→F2 W)
section
variable {S F1 F2:World→Prop} {i1 i2 i:Nat} {L:Array Bool} {W W' :World}
theorem Fl2.start(n:Nat)(h:S W):Fl2 S F1 F2 i1 i2 (Array.replicate n false) W:=
 ⟨h,fun e=>absurd ((Ωar n i1).symm.trans e) (by decide),fun e=>absurd ((Ωar n i2).symm.trans e) (by decide)⟩
theorem Fl2.same(h:Fl2 S F1 F2 i1 i2 L W)(n1:i≠i1)(n2:i≠i2):Fl2 S F1 F2 i1 i2 (L.setIfInBounds i true) W:=
 ⟨h.1,by rw[Ωab n1];exact h.2.1,by rw[Ωab n2];exact h.2.2⟩
theorem Fl2.step(h:Fl2 S F1 F2 i1 i2 L W)(n1:i≠i1)(n2:i≠i2)(kS:S W→S W')(k1:F1 W→F1 W')(k2:F2 W→F2 W'):Fl2 S F1 F2 i1 i2 (L.setIfInBounds i true) W' :=
 ⟨kS h.1,by rw[Ωab n1];exact fun e=>k1 (h.2.1 e),by rw[Ωab n2];exact fun e=>k2 (h.2.2 e)⟩
theorem Fl2.put1(h:Fl2 S F1 F2 i1 i2 L W)(n:i1≠i2)(kS:S W')(k1:F1 W')(k2:F2 W→F2 W'):Fl2 S F1 F2 i1 i2 (L.setIfInBounds i1 true) W' :=
 ⟨kS,fun _=>k1,by rw[Ωab n];exact fun e=>k2 (h.2.2 e)⟩
theorem Fl2.put2(h:Fl2 S F1 F2 i1 i2 L W)(n:i1≠i2)(kS:S W')(k1:F1 W→F1 W')(k2:F2 W'):Fl2 S F1 F2 i1 i2 (L.setIfInBounds i2 true) W' :=
 ⟨kS,by rw[Ωab (Ne.symm n)];exact fun e=>k1 (h.2.1 e),fun _=>k2⟩
theorem Fl2.all{m:Nat}(h:Fl2 S F1 F2 i1 i2 L W)(ha:∀i,i<m→L.getD i false=true)(h1:i1<m)(h2:i2<m):S W∧F1 W∧F2 W:=⟨h.1,h.2.1 (ha _ h1),h.2.2 (ha _ h2)⟩
end
def Fl4(S A1 B1 A2 B2:World→Prop)(i1 i2:Nat)(L:Array Bool)(W:World):Prop:=S W∧((L.getD i1 false=false→A1 W)∧(L.getD i1 false=true→B1 W))∧(L.getD i2 false=false→A2 W)∧(L.getD i2 false=true→B2 W)
section
variable {S A1 B1 A2 B2:World→Prop} {i1 i2 i:Nat} {L:Array Bool} {W W' :World}
theorem Fl4.start(n:Nat)(h:S W)(h1:A1 W)(h2:A2 W):Fl4 S A1 B1 A2 B2 i1 i2 (Array.replicate n false) W:=
 ⟨h,⟨fun _=>h1,fun e=>absurd ((Ωar n i1).symm.trans e) (by decide)⟩,fun _=>h2,fun e=>absurd ((Ωar n i2).symm.trans e) (by decide)⟩
theorem Fl4.step(h:Fl4 S A1 B1 A2 B2 i1 i2 L W)(n1:i≠i1)(n2:i≠i2)(kS:S W→S W')(k1:A1 W→A1 W')(k2:B1 W→B1 W')(k3:A2 W→A2 W')(k4:B2 W→B2 W'):Fl4 S A1 B1 A2 B2 i1 i2 (L.setIfInBounds i true) W' :=by
 obtain⟨h0,⟨h1,h2⟩,h3,h4⟩:=h
 refine⟨kS h0,⟨?_,?_⟩,?_,?_⟩
 ·rw[Ωab n1];exact fun e=>k1 (h1 e)
 ·rw[Ωab n1];exact fun e=>k2 (h2 e)
 ·rw[Ωab n2];exact fun e=>k3 (h3 e)
 ·rw[Ωab n2];exact fun e=>k4 (h4 e)
theorem Fl4.same(h:Fl4 S A1 B1 A2 B2 i1 i2 L W)(n1:i≠i1)(n2:i≠i2):Fl4 S A1 B1 A2 B2 i1 i2 (L.setIfInBounds i true) W:=h.step n1 n2 id id id id id
theorem Fl4.put1(h:Fl4 S A1 B1 A2 B2 i1 i2 L W)(n:i1≠i2)(hl:i1<L.size)(kS:S W→S W')(k1:B1 W')(k3:A2 W→A2 W')(k4:B2 W→B2 W'):Fl4 S A1 B1 A2 B2 i1 i2 (L.setIfInBounds i1 true) W' :=by
 obtain⟨h0,⟨h1,h2⟩,h3,h4⟩:=h
 refine⟨kS h0,⟨?_,fun _=>k1⟩,?_,?_⟩
 ·rw[Ωh7 hl];exact fun e=>(by cases e)
 ·rw[Ωab n];exact fun e=>k3 (h3 e)
 ·rw[Ωab n];exact fun e=>k4 (h4 e)
theorem Fl4.put2(h:Fl4 S A1 B1 A2 B2 i1 i2 L W)(n:i1≠i2)(hl:i2<L.size)(kS:S W→S W')(k1:A1 W→A1 W')(k2:B1 W→B1 W')(k4:B2 W'):Fl4 S A1 B1 A2 B2 i1 i2 (L.setIfInBounds i2 true) W' :=by
 obtain⟨h0,⟨h1,h2⟩,h3,h4⟩:=h
 refine⟨kS h0,⟨?_,?_⟩,?_,fun _=>k4⟩
 ·rw[Ωab (Ne.symm n)];exact fun e=>k1 (h1 e)
 ·rw[Ωab (Ne.symm n)];exact fun e=>k2 (h2 e)
 ·rw[Ωh7 hl];exact fun e=>(by cases e)
theorem Fl4.all{m:Nat}(h:Fl4 S A1 B1 A2 B2 i1 i2 L W)(ha:∀i,i<m→L.getD i false=true)(h1:i1<m)(h2:i2<m):S W∧B1 W∧B2 W:=⟨h.1,h.2.1.2 (ha _ h1),h.2.2.2 (ha _ h2)⟩
theorem Fl4.a1(h:Fl4 S A1 B1 A2 B2 i1 i2 L W)(e:L.getD i1 false=false):A1 W:=h.2.1.1 e
theorem Fl4.a2(h:Fl4 S A1 B1 A2 B2 i1 i2 L W)(e:L.getD i2 false=false):A2 W:=h.2.2.1 e
end
theorem ΩjK{ops:Array Oper}{md:Region.Mode}{L:Array Bool}{i j k:Nat}(hd:ΩcT md ops L=true)(hr:i∈Region.ready md ops L)(h1:depB md ops k j=true)(h2:depB md ops j i=true):L.getD k false=false:=by
 cases e:L.getD k false with
 |false=>rfl
 |true=>
  have h3:=Ωiy hd (Ωiy hd e h1) h2
  rw[ΩP hr] at h3
  cases h3
theorem undone1{ops:Array Oper}{md:Region.Mode}{L:Array Bool}{i k:Nat}(hd:ΩcT md ops L=true)(hr:i∈Region.ready md ops L)(h1:depB md ops k i=true):L.getD k false=false:=by
 cases e:L.getD k false with
 |false=>rfl
 |true=>
  have h3:=Ωiy hd e h1
  rw[ΩP hr] at h3
  cases h3
end
section
open Go.RowKit Go.Shelf
attribute [local go_sem ↓ high] ΩaB ΩaF
def ΩbL(W:World)(b:Nat):Prop:=∃l:Hs,l.length=32∧HaAt W b l
theorem ΩbL.only{W W' :World}{b:Nat}(h:ΩbL W b)(ho:Only Ωa W W'):ΩbL W' b:=by
 obtain⟨l,hl,hb⟩:=h
 exact⟨l,hl,Blk.only hb ho (fun e=>e)⟩
theorem ΩbL.put{W:World}{b:Nat}(h:ΩbL W b){m:Hs}(hm:m.length=32):HaAt (W.setCells b 0 (m.map bv)) b m:=by
 obtain⟨l,hl,hb⟩:=h
 exact hb.put hl hm
theorem ΩbL.store{W:World}{b:Nat}(h:ΩbL W b){m:Hs}(hm:m.length=32):(ΩaS (.pointer (some ⟨b,0,none⟩)) (hv m)).run Tryz.prog W= .ok () (W.setCells b 0 (m.map bv)):=by
 obtain⟨l,hl,hb⟩:=h
 exact ΩK hb hl hm
theorem HaAt.far{W:World}{b c:Nat}{l m:Hs}(h:HaAt W b l)(hne:b≠c):HaAt (W.setCells c 0 (m.map bv)) b l:=Blk.farCells hne _ 0 h
theorem ΩbL.far{W:World}{b c:Nat}{m:Hs}(h:ΩbL W b)(hne:b≠c):ΩbL (W.setCells c 0 (m.map bv)) b:=by
 obtain⟨l,hl,hb⟩:=h
 exact⟨l,hl,hb.far hne⟩
theorem ΩbL.at{W:World}{b:Nat}{l:Hs}(hl:l.length=32)(h:HaAt W b l):ΩbL W b:=⟨l,hl,h⟩
theorem ΩaO{fn:Func}{p q:Tmp}{tmps:Array Value}{W:World}{b c:Nat}{l m:Hs}(h:fn.results= #[.cell p 35,.cell q 35])(hp:tmps.getD p undef= .pointer (some ⟨b,0,none⟩))(hq:tmps.getD q undef= .pointer (some ⟨c,0,none⟩))(hb:HaAt W b l)(hc:HaAt W c m)(hl:l.length=32)(hm:m.length=32):(results fn tmps).run Tryz.prog W= .ok (.tuple #[hv l,hv m]) W:=
 results_two h tmps Tryz.prog W hp hq
  (run_loadVar_mid (P:=Tryz.prog) W b 0 35 (l.map bv) _ hb.range Tryz.underlying35 rfl (Ωa0 hl))
  (run_loadVar_mid (P:=Tryz.prog) W c 0 35 (m.map bv) _ hc.range Tryz.underlying35 rfl (Ωa0 hm))
theorem ΩbS(W:World)(t:Hs)(ht:t.length=32):(ΩaS (.pointer (some ⟨W.heap.size,0,none⟩)) (hv t)).run Tryz.prog ((W.alloc (.cells Ωw 35)).alloc (.cells Ωw 35))= .ok () (((W.alloc (.cells Ωw 35)).alloc (.cells Ωw 35)).setCells W.heap.size 0 (t.map bv)):=ΩK (Blk.alloc (ΩaI W) _) rfl ht
theorem ΩeM(W:World):HaAt ((W.alloc (.cells Ωw 35)).alloc (.cells Ωw 35)) (W.heap.size+1) Ωr:=by
 have h:=ΩaI (W.alloc (.cells Ωw 35))
 rw[Ωnw] at h
 exact h
theorem ΩbR(W:World)(t u:Hs)(hu:u.length=32):(ΩaS (.pointer (some ⟨W.heap.size+1,0,none⟩)) (hv u)).run Tryz.prog (((W.alloc (.cells Ωw 35)).alloc (.cells Ωw 35)).setCells W.heap.size 0 (t.map bv))= .ok () ((((W.alloc (.cells Ωw 35)).alloc (.cells Ωw 35)).setCells W.heap.size 0 (t.map bv)).setCells (W.heap.size+1) 0 (u.map bv)):=
 ΩK ((ΩeM W).far (by omega)) rfl hu
structure BoS(w:World)(B:Nat)(o:Hs)(v:Value)(Q:List Hs)(W:World):Prop where
 x:HaAt W B o
 r1:ΩbL W (B+1)
 r2:ΩbL W (B+1+1)
 l:HaSl W v Q
 only:Only Ωa w W
theorem BoS.keep{w:World}{B:Nat}{o:Hs}{v:Value}{Q:List Hs}{W W' :World}(h:BoS w B o v Q W)(ho:Only Ωa W W'):BoS w B o v Q W' :=
 ⟨Blk.only h.x ho (fun e=>e),h.r1.only ho,h.r2.only ho,h.l.only ho,h.only.trans ho⟩
theorem BoS.new{w:World}{o:Hs}{v:Value}{Q:List Hs}(h:HaSl w v Q):BoS w w.heap.size o v Q (((w.alloc (.cells (o.map bv).toArray 35)).alloc (.cells (Array.replicate 32 (.int .u8 0)) 35)).alloc (.cells (Array.replicate 32 (.int .u8 0)) 35)):=by
 have h2:=Blk.new (w.alloc (.cells (o.map bv).toArray 35)) tHa (Array.replicate 32 (.int .u8 0))
 have h3:=Blk.new ((w.alloc (.cells (o.map bv).toArray 35)).alloc (.cells (Array.replicate 32 (.int .u8 0)) 35)) tHa (Array.replicate 32 (.int .u8 0))
 rw[Ωnw] at h2
 rw[Ωnw,Ωnw] at h3
 have ho:Only Ωa w (((w.alloc (.cells (o.map bv).toArray 35)).alloc (.cells (Array.replicate 32 (.int .u8 0)) 35)).alloc (.cells (Array.replicate 32 (.int .u8 0)) 35)):=(((Only.refl _ _).alloc _).alloc _).alloc _
 rw[←ΩaL] at h2 h3 ho⊢
 exact⟨((Blk.new w _ _).alloc _).alloc _,⟨Ωr,rfl,h2.alloc _⟩,⟨Ωr,rfl,h3⟩,h.only ho,ho⟩
structure BoT(w:World)(B N M:Nat)(o t a b:Hs)(v:Value)(Q:List Hs)(W:World):Prop where
 s:BoS w B o v Q W
 t:HaAt W N t
 a:HaAt W M a
 b:HaAt W (M+1) b
 nn:B+1+1<N∧B+1+1<M
theorem BoT.keep{w:World}{B N M:Nat}{o t a b:Hs}{v:Value}{Q:List Hs}{W W' :World}(h:BoT w B N M o t a b v Q W)(ho:Only Ωa W W'):BoT w B N M o t a b v Q W' :=
 ⟨h.s.keep ho,Blk.only h.t ho (fun e=>e),Blk.only h.a ho (fun e=>e),Blk.only h.b ho (fun e=>e),h.nn⟩
theorem HaSl.far{w W:World}{v:Value}{Q:List Hs}{c:Nat}{m:Hs}(h:HaSl w v Q)(ho:Only Ωa w W)(hc:w.heap.size≤c):HaSl (W.setCells c 0 (m.map bv)) v Q:=h.only (Ωb ho c 0 (.inr hc) _)
theorem BoT.put1{w:World}{B N M:Nat}{o t a b p:Hs}{v:Value}{Q:List Hs}{W:World}(hw:w.heap.size≤B)(hs:HaSl w v Q)(h:BoT w B N M o t a b v Q W)(hp:p.length=32):BoT w B N M o t a b v Q (W.setCells (B+1) 0 (p.map bv)):=
 have hn:=h.nn
 ⟨⟨h.s.x.far (by omega),ΩbL.at hp (h.s.r1.put hp),h.s.r2.far (by omega),hs.far h.s.only (by omega),Ωb h.s.only (B+1) 0 (.inr (by omega)) _⟩,h.t.far (by omega),h.a.far (by omega),h.b.far (by omega),h.nn⟩
theorem BoT.put2{w:World}{B N M:Nat}{o t a b p:Hs}{v:Value}{Q:List Hs}{W:World}(hw:w.heap.size≤B)(hs:HaSl w v Q)(h:BoT w B N M o t a b v Q W)(hp:p.length=32):BoT w B N M o t a b v Q (W.setCells (B+1+1) 0 (p.map bv)):=
 have hn:=h.nn
 ⟨⟨h.s.x.far (by omega),h.s.r1.far (by omega),ΩbL.at hp (h.s.r2.put hp),hs.far h.s.only (by omega),Ωb h.s.only (B+1+1) 0 (.inr (by omega)) _⟩,h.t.far (by omega),h.a.far (by omega),h.b.far (by omega),h.nn⟩
theorem BoS.put1{w:World}{B:Nat}{o p:Hs}{v:Value}{Q:List Hs}{W:World}(hw:w.heap.size≤B)(hs:HaSl w v Q)(h:BoS w B o v Q W)(hp:p.length=32):BoS w B o v Q (W.setCells (B+1) 0 (p.map bv)):=
 ⟨h.x.far (by omega),ΩbL.at hp (h.r1.put hp),h.r2.far (by omega),hs.far h.only (by omega),Ωb h.only (B+1) 0 (.inr (by omega)) _⟩
theorem BoS.put2{w:World}{B:Nat}{o p:Hs}{v:Value}{Q:List Hs}{W:World}(hw:w.heap.size≤B)(hs:HaSl w v Q)(h:BoS w B o v Q W)(hp:p.length=32):BoS w B o v Q (W.setCells (B+1+1) 0 (p.map bv)):=
 ⟨h.x.far (by omega),h.r1.far (by omega),ΩbL.at hp (h.r2.put hp),hs.far h.only (by omega),Ωb h.only (B+1+1) 0 (.inr (by omega)) _⟩
theorem BoT.made{w W0 W:World}{B N:Nat}{o t a b:Hs}{v:Value}{Q:List Hs}(_hw:w.heap.size≤B)(_hs:HaSl w v Q)(h:BoS w B o v Q W0)(hN:HaAt W0 N t)(hn:B+1+1<N)(ho:Only Ωa W0 W)(ha:a.length=32)(hb:b.length=32):
  BoT w B N W.heap.size o t a b v Q ((((W.alloc (.cells Ωw 35)).alloc (.cells Ωw 35)).setCells W.heap.size 0 (a.map bv)).setCells (W.heap.size+1) 0 (b.map bv)):=by
 have hsz:=ho.size
 have hlt:N<W0.heap.size:=Blk.lt hN
 have k1:Only Ωa W0 (((W.alloc (.cells Ωw 35)).alloc (.cells Ωw 35)).setCells W.heap.size 0 (a.map bv)):=Ωb ((ho.alloc _).alloc _) _ 0 (.inr hsz) _
 have k2:Only Ωa W0 ((((W.alloc (.cells Ωw 35)).alloc (.cells Ωw 35)).setCells W.heap.size 0 (a.map bv)).setCells (W.heap.size+1) 0 (b.map bv)):=Ωb k1 _ 0 (.inr (by omega)) _
 refine⟨h.keep k2,Blk.only hN k2 (fun e=>e),?_,?_,hn,by omega⟩
 ·exact(HaAt.put (Blk.alloc (ΩaI W) _) rfl ha).far (by omega)
 ·exact((ΩeM W).far (by omega)).put rfl hb
theorem Ωgt:∀(f m n:Nat) (whole:Bool) (o:Hs) (Q:List Hs) (v:Value) (w:World) (_:o.length=32) (_:n≤f) (_:1≤m) (_:m≤n) (_:f≤1000) (_:HsOk Q) (_:Q.length=ΩaP f m n whole) (_:HaSl w v Q),
  Calls Tryz.prog 142 #[.int .i64 (m:Int),.int .i64 (n:Int),.bool whole,hv o,v] w fun e w' =>e= .returned (.tuple #[hv (ΩaG f m n whole o Q.reverse).1,hv (ΩaG f m n whole o Q.reverse).2])∧Only Ωa w w'
 |0,m,n,whole,o,Q,v,w,ho,hf,h1,h2,_,_,_,_=>by omega
 |f+1,m,n,whole,o,Q,v,w,ho,hf,h1,h2,hf2,hok,hq,hs=>by
  have hlen:=Ωdr (f+1) m n whole o Q.reverse ho (fun h hh=>hok h (List.mem_reverse.1 hh)) (by rw[Ωog];exact hq)
  obtain⟨p,ep⟩:∃p,p=(ΩaG (f+1) m n whole o Q.reverse).1 :=⟨_,rfl⟩
  obtain⟨q,eq⟩:∃q,q=(ΩaG (f+1) m n whole o Q.reverse).2 :=⟨_,rfl⟩
  rw[←ep,←eq] at hlen⊢
  obtain⟨hpl,hql⟩:=hlen
  have hS0:=BoS.new (o:=o) hs
  obtain⟨B,eB⟩:∃B,B=w.heap.size:=⟨_,rfl⟩
  rw[←eB] at hS0
  have hwB:w.heap.size≤B:=by omega
  have hm0:ΩaP (f+1) m n whole=if m=n then(if whole then 0 else 1) else if m≤Ωh n then 1+ΩaP f m (Ωh n) whole else 1+ΩaP f (m-Ωh n) (n-Ωh n) false:=rfl
  have hb0:ΩaG (f+1) m n whole o Q.reverse=if m=n then(if whole then(o,o) else(Q.reverse.headD [],Q.reverse.headD [])) else if m≤Ωh n then((ΩaG f m (Ωh n) whole o Q.reverse.tail).1,Ωbf (ΩaG f m (Ωh n) whole o Q.reverse.tail).2 (Q.reverse.headD [])) else(Ωbf (Q.reverse.headD []) (ΩaG f (m-Ωh n) (n-Ωh n) false o Q.reverse.tail).1,Ωbf (Q.reverse.headD []) (ΩaG f (m-Ωh n) (n-Ωh n) false o Q.reverse.tail).2):=rfl
  rw[hm0] at hq
  rw[hb0] at ep eq
  obtain⟨A,cap,rfl,hlc,hcm,hA⟩:=id hs
  have HS:=Θ hs
  have HS0:=Θ hS0
  have EB:=Θ eB
  have HP:=Θ hpl
  have HQ:=Θ hql
  have HO:=Θ ho
  clear hS0 eB hm0 hb0 hpl hql ho
  by_cases he:m=n
  ·have c1:((m:Int)==(n:Int))=true:=by simp[he]
   rw[ΩnV he] at ep eq hq
   have kp1:∀W,BoS w B o (.slice A Q.length cap) Q W→(ΩaS (.pointer (some ⟨B+1,0,none⟩)) (hv p)).run Tryz.prog W= .ok () (W.setCells (B+1) 0 (p.map bv)):=fun W h=>h.r1.store HP.out
   have kp2:∀W,BoS w B o (.slice A Q.length cap) Q W→(ΩaS (.pointer (some ⟨B+1+1,0,none⟩)) (hv q)).run Tryz.prog W= .ok () (W.setCells (B+1+1) 0 (q.map bv)):=fun W h=>h.r2.store HQ.out
   have KS1:Hid (∀W,BoS w B o (.slice A Q.length cap) Q W→BoS w B o (.slice A Q.length cap) Q (W.setCells (B+1) 0 (p.map bv))):=Θ (fun W h=>h.put1 hwB HS.out HP.out)
   have KS2:Hid (∀W,BoS w B o (.slice A Q.length cap) Q W→BoS w B o (.slice A Q.length cap) Q (W.setCells (B+1+1) 0 (q.map bv))):=Θ (fun W h=>h.put2 hwB HS.out HQ.out)
   have KR:Hid (∀W,BoS w B o (.slice A Q.length cap) Q W→HaAt ((W.setCells (B+1) 0 (p.map bv)).setCells (B+1+1) 0 (q.map bv)) (B+1) p∧HaAt ((W.setCells (B+1) 0 (p.map bv)).setCells (B+1+1) 0 (q.map bv)) (B+1+1) q∧Only Ωa w ((W.setCells (B+1) 0 (p.map bv)).setCells (B+1+1) 0 (q.map bv))):=Θ (fun W h=>⟨(h.r1.put HP.out).far (by omega),(h.put1 hwB HS.out HP.out).r2.put HQ.out,((h.put1 hwB HS.out HP.out).put2 hwB HS.out HQ.out).only⟩)
   cases whole with
   |true=>
    obtain rfl:p=o:=ep
    obtain rfl:q=p:=eq
    have l1:∀W,BoS w B q (.slice A Q.length cap) Q W→(ΩL (.pointer (some ⟨B,0,none⟩))).run Tryz.prog W= .ok (hv q) W:=fun W h=>Ωp h.x.range HQ.out
    clear hq hA hs he hok
    go_enter Tryz.func142,Tryz.ntmps142
    go_upto_region 1 with(fail)
    rw[←EB.out]
    refine Ωf (BoS w B q (.slice A Q.length cap) Q) HS0.out ?_
    intro Z hZ
    have HZ:=Θ hZ
    clear HS0 hZ
    go_upto_region 3 with(fail)
    have hD:=HZ.out.keep (Only.refl Ωa Z).drew
    refine Ωaf (Fl2 (BoS w B q (.slice A Q.length cap) Q) (fun W=>HaAt W (B+1) q) (fun W=>HaAt W (B+1+1) q) 2 3) (by kernel_rfl) (by kernel_rfl) (by kernel_rfl) (by kernel_rfl) (Fl2.start _ hD) ?_
    refine Ωk (hv q) (by rfl) ?_ ?_
    ·intro L W hd hr hC
     have e:=l1 W hC.1
     simp[Ωz,go_sem,Ωm,e]
     exact hC.same (by decide) (by decide)
    refine Ωk (hv q) (by rfl) ?_ ?_
    ·intro L W hd hr hC
     have e:=l1 W hC.1
     simp[Ωz,go_sem,Ωm,e]
     exact hC.same (by decide) (by decide)
    refine Ωk (undef) (by rfl) ?_ ?_
    ·intro L W hd hr hC
     have e:=kp1 W hC.1
     simp[Ωz,go_sem,Ωm,e]
     exact hC.put1 (by decide) (hC.1.put1 hwB HS.out HP.out) (hC.1.r1.put HP.out) (fun h=>h.far (by omega))
    refine Ωk (undef) (by rfl) ?_ ?_
    ·intro L W hd hr hC
     have e:=kp2 W hC.1
     simp[Ωz,go_sem,Ωm,e]
     exact hC.put2 (by decide) (hC.1.put2 hwB HS.out HQ.out) (fun h=>h.far (by omega)) (hC.1.r2.put HQ.out)
    unfold ΩbN
    intro L W hall hC
    simp only[Act.put,ΩnX,List.set_cons_succ,Ωot]
    go_wp2_with fail
    refine bodyPost_ret (v:= .tuple #[hv q,hv q]) (ΩaO rfl rfl rfl (hC.all hall (by decide) (by decide)).2.1 (hC.all hall (by decide) (by decide)).2.2 HP.out HQ.out) rfl ⟨rfl,hC.1.only⟩
   |false=>
    have hq1:Q.length=1:=hq
    obtain⟨t,ht⟩:∃t,Q[0]? =some t:=⟨_,Ωnu (by omega)⟩
    have hQ:Q=[t]:=by
     match Q,hq1,ht with
     |[x],_,h=>simp at h;rw[h]
    have htl:t.length=32:=hok t (ΩnE ht)
    obtain rfl:p=t:=by rw[ep,hQ];rfl
    obtain rfl:q=p:=by rw[eq,hQ];rfl
    obtain⟨g,ofs,rfl,hg,hrg⟩:=hA 0 q ht
    have hrg:w.rangeAt g ofs (q.map bv):=by have h:=hrg;rw[Nat.zero_mul,Nat.add_zero] at h;exact h
    have l1:∀W,BoS w B o (.slice (some ⟨g,ofs,none⟩) Q.length cap) Q W→(ΩL (.pointer (some ⟨g,ofs,none⟩))).run Tryz.prog W= .ok (hv q) W:=fun W h=>Ωp (Ωu hrg h.only) HQ.out
    have i0:0<Q.length:=by omega
    have i1:(0:Int)<(Q.length:Int):=by omega
    have HQQ:=Θ hq1
    clear ep eq hq hA hs he hok hq1 hQ ht htl hrg hg
    go_enter Tryz.func142,Tryz.ntmps142
    go_upto_region 1 with(fail)
    rw[←EB.out]
    refine Ωf (BoS w B o (.slice (some ⟨g,ofs,none⟩) Q.length cap) Q) HS0.out ?_
    intro Z hZ
    have HZ:=Θ hZ
    clear HS0 hZ
    go_upto_region 4 with(fail)
    have hD:=HZ.out.keep (Only.refl Ωa Z).drew
    refine Ωaf (Fl2 (BoS w B o (.slice (some ⟨g,ofs,none⟩) Q.length cap) Q) (fun W=>HaAt W (B+1) q) (fun W=>HaAt W (B+1+1) q) 6 7) (by kernel_rfl) (by kernel_rfl) (by kernel_rfl) (by kernel_rfl) (Fl2.start _ hD) ?_
    refine Ωk (.slice (some ⟨g,ofs,none⟩) Q.length cap) (by rfl) ?_ ?_
    ·intro L W hd hr hC
     simp[Ωz,go_sem,Ωm]
     exact hC.same (by decide) (by decide)
    refine Ωk (.pointer (some ⟨g,ofs,none⟩)) (by rfl) ?_ ?_
    ·intro L W hd hr hC
     have e:=i0
     simp[Ωz,go_sem,Ωm,e]
     exact hC.same (by decide) (by decide)
    refine Ωk (hv q) (by rfl) ?_ ?_
    ·intro L W hd hr hC
     have e:=l1 W hC.1
     simp[Ωz,go_sem,Ωm,e]
     exact hC.same (by decide) (by decide)
    refine Ωk (.slice (some ⟨g,ofs,none⟩) Q.length cap) (by rfl) ?_ ?_
    ·intro L W hd hr hC
     simp[Ωz,go_sem,Ωm]
     exact hC.same (by decide) (by decide)
    refine Ωk (.pointer (some ⟨g,ofs,none⟩)) (by rfl) ?_ ?_
    ·intro L W hd hr hC
     have e:=i0
     simp[Ωz,go_sem,Ωm,e]
     exact hC.same (by decide) (by decide)
    refine Ωk (hv q) (by rfl) ?_ ?_
    ·intro L W hd hr hC
     have e:=l1 W hC.1
     simp[Ωz,go_sem,Ωm,e]
     exact hC.same (by decide) (by decide)
    refine Ωk (undef) (by rfl) ?_ ?_
    ·intro L W hd hr hC
     have e:=kp1 W hC.1
     simp[Ωz,go_sem,Ωm,e]
     exact hC.put1 (by decide) (hC.1.put1 hwB HS.out HP.out) (hC.1.r1.put HP.out) (fun h=>h.far (by omega))
    refine Ωk (undef) (by rfl) ?_ ?_
    ·intro L W hd hr hC
     have e:=kp2 W hC.1
     simp[Ωz,go_sem,Ωm,e]
     exact hC.put2 (by decide) (hC.1.put2 hwB HS.out HQ.out) (fun h=>h.far (by omega)) (hC.1.r2.put HQ.out)
    unfold ΩbN
    intro L W hall hC
    simp only[Act.put,ΩnX,List.set_cons_succ,Ωot]
    go_wp2_with fail
    refine bodyPost_ret (v:= .tuple #[hv q,hv q]) (ΩaO rfl rfl rfl (hC.all hall (by decide) (by decide)).2.1 (hC.all hall (by decide) (by decide)).2.2 HP.out HQ.out) rfl ⟨rfl,hC.1.only⟩
  ·have c1:((m:Int)==(n:Int))=false:=by rw[ΩnL];omega
   rw[ΩnU he] at ep eq hq
   have hsp:=Ω3 (n:=n) (by omega) (by omega)
   obtain⟨k,ek⟩:∃k,k=Ωh n:=⟨_,rfl⟩
   have HH:Hid (∀W,Calls Tryz.prog 60 #[.int .i64 (n:Int)] W fun e w' =>e= .returned (.int .i64 (k:Int))∧w' =W):=Θ (fun W=>by rw[ek];exact Ωb1 n (by omega) (by omega) W)
   rw[←ek] at hsp ep eq hq
   obtain⟨z,ez⟩:∃z,Q.length=z+1:=⟨Q.length-1,by split at hq<;>omega⟩
   obtain⟨t,ht⟩:∃t,Q[z]? =some t:=⟨_,Ωnu (by omega)⟩
   have htl:t.length=32:=hok t (ΩnE ht)
   have hrev:Q.reverse=t::(Q.take z).reverse :=by
    have h1:Q=Q.take z++[t]:=by
     have h2:Q.take (z+1)=Q.take z++[t]:=by rw[ΩnO,ht];rfl
     rw[←h2,ΩnI (by omega)]
    rw[show Q.reverse=(Q.take z++[t]).reverse from by rw[←h1],List.reverse_append];rfl
   rw[hrev] at ep eq
   simp only[List.headD_cons,List.tail_cons] at ep eq
   obtain⟨g,ofs,rfl,hg,hrg⟩:=hA z t ht
   have hrg:w.rangeAt g (ofs+z*32) (t.map bv):=hrg
   have kw:IntKind.i64.wrap ((Q.length:Int)-1)=(z:Int):=by rw[show(Q.length:Int)-1=(z:Int) by omega];exact ΩnH _ (by omega)
   have z0:(0:Int)≤(z:Int):=by omega
   have z1:(z:Int)<(Q.length:Int):=by omega
   have z2:(z:Int)≤(cap:Int):=by omega
   have HRG:=Θ hrg
   have HTL:=Θ htl
   clear hrg hg hrev ht
   by_cases hk:m≤k
   ·
    have c2:decide ((m:Int)≤(k:Int))=true:=ΩnG (by omega)
    rw[ΩnV hk] at ep eq hq
    have hal2:=Ωdr f m k whole o (Q.take z).reverse HO.out (fun h hh=>hok h (ΩnY (List.mem_reverse.1 hh))) (by rw[Ωog,ΩnB];omega)
    have hrec:∀W,HaSl W (.slice (some ⟨g,ofs,none⟩) Q.length cap) Q→Calls Tryz.prog 142 #[.int .i64 (m:Int),.int .i64 (k:Int),.bool whole,hv o,.slice (some ⟨g,ofs,none⟩) z cap] W fun e w' =>e= .returned (.tuple #[hv (ΩaG f m k whole o (Q.take z).reverse).1,hv (ΩaG f m k whole o (Q.take z).reverse).2])∧Only Ωa W w' :=fun W h=>by
     have h2:=h.take (k:=z) (by omega)
     exact Ωgt f m k whole o (Q.take z) _ W HO.out (by omega) (by omega) (by omega) (by omega) (fun s h=>hok s (ΩnY h)) (by rw[ΩnB];omega) h2
    obtain⟨a,ea⟩:∃a,a=(ΩaG f m k whole o (Q.take z).reverse).1 :=⟨_,rfl⟩
    obtain⟨b,eb⟩:∃b,b=(ΩaG f m k whole o (Q.take z).reverse).2 :=⟨_,rfl⟩
    rw[←ea,←eb] at hrec hal2
    rw[←ea] at ep
    rw[←eb] at eq
    obtain⟨hal,hbl⟩:=hal2
    have hnode:∀W,Calls Tryz.prog 73 #[hv b,hv t] W fun e w' =>e= .returned (hv q)∧Only Ωa W w' :=fun W=>by rw[eq];exact Ωcp b t hbl htl W
    have NC:=Θ hnode
    have GC:=Θ hrec
    have HAL:=Θ hal
    have HBL:=Θ hbl
    obtain rfl:a=p:=ep.symm
    have kx:True:=trivial
    clear hrec hal hbl ea eb ep eq hnode hq hA hs he hok ek ez htl hsp
    go_enter Tryz.func142,Tryz.ntmps142
    go_upto_region 1 with(fail)
    rw[←EB.out]
    refine Ωf (BoS w B o (.slice (some ⟨g,ofs,none⟩) Q.length cap) Q) HS0.out ?_
    intro Z hZ
    have HZ:=Θ hZ
    clear HS0 hZ
    go_wp2_with fail
    refine(HH.out _).mono ?_
    rintro e1 w1 ⟨rfl,rfl⟩
    have hldt:=Ωp (Ωu HRG.out HZ.out.only) HTL.out
    have hstn:=ΩaT w1 t HTL.out
    have hO1:Only Ωa w1 ((w1.alloc (.cells Ωw 35)).setCells w1.heap.size 0 (t.map bv)):=Ωb ((Only.refl _ w1).alloc _) w1.heap.size 0 (.inr (Ωnv _)) (t.map bv)
    have hN0:HaAt ((w1.alloc (.cells Ωw 35)).setCells w1.heap.size 0 (t.map bv)) w1.heap.size t:=(ΩaI w1).put rfl HTL.out
    have hlt:B+1+1<w1.heap.size:=by obtain⟨l,_,hb⟩:=HZ.out.r2;exact Blk.lt hb
    obtain⟨N,eN⟩:∃N,N=w1.heap.size:=⟨_,rfl⟩
    rw[←eN] at hO1 hN0 hlt
    have HN:=Θ (And.intro (HZ.out.keep hO1) hN0)
    have EN:=Θ eN
    have HLT:=Θ hlt
    clear hO1 hN0 hlt eN
    go_upto_region 7 with(fail)
    rw[←EN.out]
    refine Ωf (fun W=>BoS w B o (.slice (some ⟨g,ofs,none⟩) Q.length cap) Q W∧HaAt W N t) HN.out ?_
    rintro Y ⟨hy1,hy2⟩
    have HY:=Θ (And.intro hy1 hy2)
    have hldo:=Ωp hy1.x.range HO.out
    clear hy1 hy2 HN hldt hstn HZ EN
    go_wp2_with fail
    (with_reducible refine(GC.out _ HY.out.1.l).mono ?_)
    rintro e2 w2 ⟨rfl,ho2⟩
    have f1:=ΩbS w2 a HAL.out
    have f2:=ΩbR w2 a b HBL.out
    have hT0:=BoT.made hwB HS.out HY.out.1 HY.out.2 HLT.out ho2 HAL.out HBL.out
    obtain⟨M,eM⟩:∃M,M=w2.heap.size:=⟨_,rfl⟩
    rw[←eM] at hT0
    have HT0:=Θ hT0
    have EM:=Θ eM
    clear hT0 eM ho2 HY hldo
    go_upto_region 10 with(fail)
    rw[←EM.out]
    refine Ωf (BoT w B N M o t a b (.slice (some ⟨g,ofs,none⟩) Q.length cap) Q) HT0.out ?_
    intro V hV
    have hD:=hV.keep (Only.refl Ωa V).drew
    clear f1 f2 HT0 EM hV
    have kp1:∀W,BoT w B N M o t a b (.slice (some ⟨g,ofs,none⟩) Q.length cap) Q W→(ΩaS (.pointer (some ⟨B+1,0,none⟩)) (hv a)).run Tryz.prog W= .ok () (W.setCells (B+1) 0 (a.map bv)):=fun W h=>h.s.r1.store HP.out
    have kp2:∀W,BoT w B N M o t a b (.slice (some ⟨g,ofs,none⟩) Q.length cap) Q W→(ΩaS (.pointer (some ⟨B+1+1,0,none⟩)) (hv q)).run Tryz.prog W= .ok () (W.setCells (B+1+1) 0 (q.map bv)):=fun W h=>h.s.r2.store HQ.out
    have lt:∀W,BoT w B N M o t a b (.slice (some ⟨g,ofs,none⟩) Q.length cap) Q W→(ΩL (.pointer (some ⟨N,0,none⟩))).run Tryz.prog W= .ok (hv t) W:=fun W h=>Ωp h.t.range HTL.out
    have la:∀W,BoT w B N M o t a b (.slice (some ⟨g,ofs,none⟩) Q.length cap) Q W→(ΩL (.pointer (some ⟨M,0,none⟩))).run Tryz.prog W= .ok (hv a) W:=fun W h=>Ωp h.a.range HAL.out
    have lb:∀W,BoT w B N M o t a b (.slice (some ⟨g,ofs,none⟩) Q.length cap) Q W→(ΩL (.pointer (some ⟨M+1,0,none⟩))).run Tryz.prog W= .ok (hv b) W:=fun W h=>Ωp h.b.range HBL.out
    refine Ωaf (Fl2 (BoT w B N M o t a b (.slice (some ⟨g,ofs,none⟩) Q.length cap) Q) (fun W=>HaAt W (B+1) a) (fun W=>HaAt W (B+1+1) q) 4 5) (by kernel_rfl) (by kernel_rfl) (by kernel_rfl) (by kernel_rfl) (Fl2.start _ hD) ?_
    refine Ωk (hv a) (by rfl) ?_ ?_
    ·intro L W hd hr hC
     have e:=la W hC.1
     simp[Ωz,go_sem,Ωm,e]
     exact hC.same (by decide) (by decide)
    refine Ωk (hv b) (by rfl) ?_ ?_
    ·intro L W hd hr hC
     have e:=lb W hC.1
     simp[Ωz,go_sem,Ωm,e]
     exact hC.same (by decide) (by decide)
    refine Ωk (hv t) (by rfl) ?_ ?_
    ·intro L W hd hr hC
     have e:=lt W hC.1
     simp[Ωz,go_sem,Ωm,e]
     exact hC.same (by decide) (by decide)
    refine Ωk (hv q) (by rfl) ?_ ?_
    ·intro L W hd hr hC
     simp[Ωz,go_sem,Ωm]
     exact(NC.out W).mono (fun e w' hh=>⟨hh.1,hC.step (by decide) (by decide) (fun h=>h.keep hh.2) (fun h=>Blk.only h hh.2 (fun e=>e)) (fun h=>Blk.only h hh.2 (fun e=>e))⟩)
    refine Ωk (undef) (by rfl) ?_ ?_
    ·intro L W hd hr hC
     have e:=kp1 W hC.1
     simp[Ωz,go_sem,Ωm,e]
     exact hC.put1 (by decide) (hC.1.put1 hwB HS.out HP.out) (hC.1.s.r1.put HP.out) (fun h=>h.far (by omega))
    refine Ωk (undef) (by rfl) ?_ ?_
    ·intro L W hd hr hC
     have e:=kp2 W hC.1
     simp[Ωz,go_sem,Ωm,e]
     exact hC.put2 (by decide) (hC.1.put2 hwB HS.out HQ.out) (fun h=>h.far (by omega)) (hC.1.s.r2.put HQ.out)
    unfold ΩbN
    intro L W hall hC
    simp only[Act.put,ΩnX,List.set_cons_succ,Ωot]
    go_wp2_with fail
    refine bodyPost_ret (v:= .tuple #[hv a,hv q]) (ΩaO rfl rfl rfl (hC.all hall (by decide) (by decide)).2.1 (hC.all hall (by decide) (by decide)).2.2 HP.out HQ.out) rfl ⟨rfl,hC.1.s.only⟩
   ·
    have c2:decide ((m:Int)≤(k:Int))=false:=Ωny (by omega)
    have c2n:decide (m≤k)=false:=Ωny hk
    have c2m:¬m≤k:=hk
    rw[ΩnU hk] at ep eq hq
    have km:(m:Int)-(k:Int)=((m-k:Nat):Int):=by omega
    have kn:(n:Int)-(k:Int)=((n-k:Nat):Int):=by omega
    have wm:IntKind.i64.wrap ((m:Int)-(k:Int))=(m:Int)-(k:Int):=ΩnH _ (by omega)
    have wn:IntKind.i64.wrap ((n:Int)-(k:Int))=(n:Int)-(k:Int):=ΩnH _ (by omega)
    have hal2:=Ωdr f (m-k) (n-k) false o (Q.take z).reverse HO.out (fun h hh=>hok h (ΩnY (List.mem_reverse.1 hh))) (by rw[Ωog,ΩnB];omega)
    have hrec:∀W,HaSl W (.slice (some ⟨g,ofs,none⟩) Q.length cap) Q→Calls Tryz.prog 142 #[.int .i64 ((m:Int)-(k:Int)),.int .i64 ((n:Int)-(k:Int)),.bool false,hv o,.slice (some ⟨g,ofs,none⟩) z cap] W fun e w' =>e= .returned (.tuple #[hv (ΩaG f (m-k) (n-k) false o (Q.take z).reverse).1,hv (ΩaG f (m-k) (n-k) false o (Q.take z).reverse).2])∧Only Ωa W w' :=fun W h=>by
     have h2:=h.take (k:=z) (by omega)
     rw[km,kn]
     exact Ωgt f (m-k) (n-k) false o (Q.take z) _ W HO.out (by omega) (by omega) (by omega) (by omega) (fun s h=>hok s (ΩnY h)) (by rw[ΩnB];omega) h2
    obtain⟨a,ea⟩:∃a,a=(ΩaG f (m-k) (n-k) false o (Q.take z).reverse).1 :=⟨_,rfl⟩
    obtain⟨b,eb⟩:∃b,b=(ΩaG f (m-k) (n-k) false o (Q.take z).reverse).2 :=⟨_,rfl⟩
    rw[←ea,←eb] at hrec hal2
    rw[←ea] at ep
    rw[←eb] at eq
    obtain⟨hal,hbl⟩:=hal2
    have hnode1:∀W,Calls Tryz.prog 73 #[hv t,hv a] W fun e w' =>e= .returned (hv p)∧Only Ωa W w' :=fun W=>by rw[ep];exact Ωcp t a htl hal W
    have hnode2:∀W,Calls Tryz.prog 73 #[hv t,hv b] W fun e w' =>e= .returned (hv q)∧Only Ωa W w' :=fun W=>by rw[eq];exact Ωcp t b htl hbl W
    have NC1:=Θ hnode1
    have NC2:=Θ hnode2
    have GC:=Θ hrec
    have HAL:=Θ hal
    have HBL:=Θ hbl
    clear hrec hal hbl ea eb ep eq hnode1 hnode2 km kn hq hA hs he hok ek ez htl hsp
    go_enter Tryz.func142,Tryz.ntmps142
    go_upto_region 1 with(fail)
    rw[←EB.out]
    refine Ωf (BoS w B o (.slice (some ⟨g,ofs,none⟩) Q.length cap) Q) HS0.out ?_
    intro Z hZ
    have HZ:=Θ hZ
    clear HS0 hZ
    go_wp2_with fail
    refine(HH.out _).mono ?_
    rintro e1 w1 ⟨rfl,rfl⟩
    have hldt:=Ωp (Ωu HRG.out HZ.out.only) HTL.out
    have hstn:=ΩaT w1 t HTL.out
    have hO1:Only Ωa w1 ((w1.alloc (.cells Ωw 35)).setCells w1.heap.size 0 (t.map bv)):=Ωb ((Only.refl _ w1).alloc _) w1.heap.size 0 (.inr (Ωnv _)) (t.map bv)
    have hN0:HaAt ((w1.alloc (.cells Ωw 35)).setCells w1.heap.size 0 (t.map bv)) w1.heap.size t:=(ΩaI w1).put rfl HTL.out
    have hlt:B+1+1<w1.heap.size:=by obtain⟨l,_,hb⟩:=HZ.out.r2;exact Blk.lt hb
    obtain⟨N,eN⟩:∃N,N=w1.heap.size:=⟨_,rfl⟩
    rw[←eN] at hO1 hN0 hlt
    have HN:=Θ (And.intro (HZ.out.keep hO1) hN0)
    have EN:=Θ eN
    have HLT:=Θ hlt
    clear hO1 hN0 hlt eN
    go_upto_region 7 with(fail)
    rw[←EN.out]
    refine Ωf (fun W=>BoS w B o (.slice (some ⟨g,ofs,none⟩) Q.length cap) Q W∧HaAt W N t) HN.out ?_
    rintro Y ⟨hy1,hy2⟩
    have HY:=Θ (And.intro hy1 hy2)
    have hldo:=Ωp hy1.x.range HO.out
    clear hy1 hy2 HN hldt hstn HZ EN
    go_wp2_with fail
    (with_reducible refine(GC.out _ HY.out.1.l).mono ?_)
    rintro e2 w2 ⟨rfl,ho2⟩
    have f1:=ΩbS w2 a HAL.out
    have f2:=ΩbR w2 a b HBL.out
    have hT0:=BoT.made hwB HS.out HY.out.1 HY.out.2 HLT.out ho2 HAL.out HBL.out
    obtain⟨M,eM⟩:∃M,M=w2.heap.size:=⟨_,rfl⟩
    rw[←eM] at hT0
    have HT0:=Θ hT0
    have EM:=Θ eM
    clear hT0 eM ho2 HY hldo
    go_upto_region 12 with(fail)
    rw[←EM.out]
    refine Ωf (BoT w B N M o t a b (.slice (some ⟨g,ofs,none⟩) Q.length cap) Q) HT0.out ?_
    intro V hV
    have hD:=hV.keep (Only.refl Ωa V).drew
    clear f1 f2 HT0 EM hV
    have kp1:∀W,BoT w B N M o t a b (.slice (some ⟨g,ofs,none⟩) Q.length cap) Q W→(ΩaS (.pointer (some ⟨B+1,0,none⟩)) (hv p)).run Tryz.prog W= .ok () (W.setCells (B+1) 0 (p.map bv)):=fun W h=>h.s.r1.store HP.out
    have kp2:∀W,BoT w B N M o t a b (.slice (some ⟨g,ofs,none⟩) Q.length cap) Q W→(ΩaS (.pointer (some ⟨B+1+1,0,none⟩)) (hv q)).run Tryz.prog W= .ok () (W.setCells (B+1+1) 0 (q.map bv)):=fun W h=>h.s.r2.store HQ.out
    have lt:∀W,BoT w B N M o t a b (.slice (some ⟨g,ofs,none⟩) Q.length cap) Q W→(ΩL (.pointer (some ⟨N,0,none⟩))).run Tryz.prog W= .ok (hv t) W:=fun W h=>Ωp h.t.range HTL.out
    have la:∀W,BoT w B N M o t a b (.slice (some ⟨g,ofs,none⟩) Q.length cap) Q W→(ΩL (.pointer (some ⟨M,0,none⟩))).run Tryz.prog W= .ok (hv a) W:=fun W h=>Ωp h.a.range HAL.out
    have lb:∀W,BoT w B N M o t a b (.slice (some ⟨g,ofs,none⟩) Q.length cap) Q W→(ΩL (.pointer (some ⟨M+1,0,none⟩))).run Tryz.prog W= .ok (hv b) W:=fun W h=>Ωp h.b.range HBL.out
    refine Ωaf (Fl2 (BoT w B N M o t a b (.slice (some ⟨g,ofs,none⟩) Q.length cap) Q) (fun W=>HaAt W (B+1) p) (fun W=>HaAt W (B+1+1) q) 6 7) (by kernel_rfl) (by kernel_rfl) (by kernel_rfl) (by kernel_rfl) (Fl2.start _ hD) ?_
    refine Ωk (hv t) (by rfl) ?_ ?_
    ·intro L W hd hr hC
     have e:=lt W hC.1
     simp[Ωz,go_sem,Ωm,e]
     exact hC.same (by decide) (by decide)
    refine Ωk (hv a) (by rfl) ?_ ?_
    ·intro L W hd hr hC
     have e:=la W hC.1
     simp[Ωz,go_sem,Ωm,e]
     exact hC.same (by decide) (by decide)
    refine Ωk (hv p) (by rfl) ?_ ?_
    ·intro L W hd hr hC
     simp[Ωz,go_sem,Ωm]
     exact(NC1.out W).mono (fun e w' hh=>⟨hh.1,hC.step (by decide) (by decide) (fun h=>h.keep hh.2) (fun h=>Blk.only h hh.2 (fun e=>e)) (fun h=>Blk.only h hh.2 (fun e=>e))⟩)
    refine Ωk (hv t) (by rfl) ?_ ?_
    ·intro L W hd hr hC
     have e:=lt W hC.1
     simp[Ωz,go_sem,Ωm,e]
     exact hC.same (by decide) (by decide)
    refine Ωk (hv b) (by rfl) ?_ ?_
    ·intro L W hd hr hC
     have e:=lb W hC.1
     simp[Ωz,go_sem,Ωm,e]
     exact hC.same (by decide) (by decide)
    refine Ωk (hv q) (by rfl) ?_ ?_
    ·intro L W hd hr hC
     simp[Ωz,go_sem,Ωm]
     exact(NC2.out W).mono (fun e w' hh=>⟨hh.1,hC.step (by decide) (by decide) (fun h=>h.keep hh.2) (fun h=>Blk.only h hh.2 (fun e=>e)) (fun h=>Blk.only h hh.2 (fun e=>e))⟩)
    refine Ωk (undef) (by rfl) ?_ ?_
    ·intro L W hd hr hC
     have e:=kp1 W hC.1
     simp[Ωz,go_sem,Ωm,e]
     exact hC.put1 (by decide) (hC.1.put1 hwB HS.out HP.out) (hC.1.s.r1.put HP.out) (fun h=>h.far (by omega))
    refine Ωk (undef) (by rfl) ?_ ?_
    ·intro L W hd hr hC
     have e:=kp2 W hC.1
     simp[Ωz,go_sem,Ωm,e]
     exact hC.put2 (by decide) (hC.1.put2 hwB HS.out HQ.out) (fun h=>h.far (by omega)) (hC.1.s.r2.put HQ.out)
    unfold ΩbN
    intro L W hall hC
    simp only[Act.put,ΩnX,List.set_cons_succ,Ωot]
    go_wp2_with fail
    refine bodyPost_ret (v:= .tuple #[hv p,hv q]) (ΩaO rfl rfl rfl (hC.all hall (by decide) (by decide)).2.1 (hC.all hall (by decide) (by decide)).2.2 HP.out HQ.out) rfl ⟨rfl,hC.1.s.only⟩
end
end Go.Proofs.YtgalfohobgjelaaGreatDoor
