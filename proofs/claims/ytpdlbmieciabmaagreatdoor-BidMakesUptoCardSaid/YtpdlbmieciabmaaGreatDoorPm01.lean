/-What is proved here:a region that draws its order,some of whose operations change the world (a store,a call that turns a state):one walk in the order of the text,the class of the worlds told for each set of operations that are done;no function of the program. No conditions. -/
import Derived.Test.YtpdlbmieciabmaaGreatDoorRows
import Derived.Deep.Quiet
import Derived.Deep.QuietTactic
import Derived.BigQuiet
namespace Go.Proofs.YtpdlbmieciabmaaGreatDoor
open Go.RowKit
section
variable {P:Program} {ops:Array Oper} {md:Region.Mode} {C:Array Bool→World→Prop}
def downB(md:Region.Mode)(ops:Array Oper)(L:Array Bool):Bool:=
 L.size==ops.size&&(List.range ops.size).all fun i=> !L.getD i false||((ops[i]?).map (·.after.all fun e=> !Region.binds md e||L.getD e.on false)).getD false
def fwdB(md:Region.Mode)(ops:Array Oper):Bool:=(List.range ops.size).all fun i=>((ops[i]?).map (·.after.all fun e=> !Region.binds md e||decide (e.on<i))).getD true
def depB(md:Region.Mode)(ops:Array Oper)(i j:Nat):Bool:=((ops[i]?).map (·.after.toList.any fun e=>Region.binds md e&&e.on==j)).getD false
theorem down_dep{L:Array Bool}(h:downB md ops L=true){i j:Nat}(hi:L.getD i false=true)(hd:depB md ops i j=true):L.getD j false=true:=by
 unfold downB at h
 simp only[Bool.and_eq_true,List.all_eq_true,List.mem_range] at h
 unfold depB at hd
 cases ho:ops[i]? with
 |none=>rw[ho] at hd;cases hd
 |some o=>
  have hlt:i<ops.size:=(Array.getElem?_eq_some_iff.1 ho).1
  have h1:=h.2 i hlt
  rw[hi,ho] at h1
  rw[ho] at hd
  simp only[Option.map_some,Option.getD_some,Bool.not_true,Bool.false_or,Array.all_eq_true_iff_forall_mem,List.any_eq_true] at h1 hd
  obtain⟨e,he,h2⟩:=hd
  have h3:=h1 e (Array.mem_toList_iff.1 he)
  simp only[Bool.and_eq_true,beq_iff_eq] at h2
  rw[h2.1,h2.2] at h3
  simpa using h3
theorem ready_dep{L:Array Bool}{i j:Nat}(h:i∈Region.ready md ops L)(hd:depB md ops i j=true):L.getD j false=true:=by
 obtain⟨_,o,ho,hall⟩:=mem_ready.1 h
 unfold depB at hd
 rw[ho] at hd
 simp only[Option.map_some,Option.getD_some,List.any_eq_true,Bool.and_eq_true,beq_iff_eq] at hd
 obtain⟨e,he,h1,h2⟩:=hd
 rw[←h2]
 exact hall e (Array.mem_toList_iff.1 he) h1
theorem getD_replicate_false'(n i:Nat):(Array.replicate n false).getD i false=false:=by
 rcases Nat.lt_or_ge i n with h|h
 ·simp[h]
 ·simp[h]
theorem ready_lt{L:Array Bool}{i:Nat}(h:i∈Region.ready md ops L):i<L.size:=by
 have h0:=(mem_ready.1 h).1
 rcases Nat.lt_or_ge i L.size with h' |h'
 ·exact h'
 ·simp[Array.getElem?_eq_none h'] at h0
theorem ready_undone{L:Array Bool}{i:Nat}(h:i∈Region.ready md ops L):L.getD i false=false:=by
 have h0:=(mem_ready.1 h).1
 have hl:=ready_lt h
 simp[hl] at h0⊢
 exact h0
theorem set_same{L:Array Bool}{i:Nat}(h:i<L.size):(L.setIfInBounds i true).getD i false=true:=by simp[h]
theorem set_other{L:Array Bool}{i j:Nat}(h:i≠j):(L.setIfInBounds i true).getD j false=L.getD j false:=getD_set_ne false h
theorem set_mono{L:Array Bool}{i j:Nat}(h:L.getD j false=true):(L.setIfInBounds i true).getD j false=true:=by
 by_cases e:i=j
 ·subst e
  have:i<L.size:=by
   rcases Nat.lt_or_ge i L.size with h' |h'
   ·exact h'
   ·simp[Array.getElem?_eq_none h'] at h
  exact set_same this
 ·rw[set_other e];exact h
theorem down_set{L:Array Bool}{i:Nat}(h:downB md ops L=true)(hr:i∈Region.ready md ops L):downB md ops (L.setIfInBounds i true)=true:=by
 have hd:=h
 unfold downB at h⊢
 simp only[Bool.and_eq_true,List.all_eq_true,List.mem_range,Array.size_setIfInBounds] at h⊢
 refine⟨h.1,fun k hk=> ?_⟩
 cases ho:ops[k]? with
 |none=>exact absurd (Array.getElem?_eq_none_iff.1 ho) (by omega)
 |some o=>
  simp only[Option.map_some,Option.getD_some,Bool.or_eq_true,Bool.not_eq_true',Array.all_eq_true_iff_forall_mem]
  by_cases e:i=k
  ·subst e
   right
   intro e he
   by_cases hb:Region.binds md e=true
   ·right
    obtain⟨_,o',ho',hall⟩:=mem_ready.1 hr
    rw[ho] at ho'
    cases ho'
    exact set_mono (hall e he hb)
   ·left;simpa using hb
  ·rw[set_other e]
   have h1:=h.2 k hk
   rw[ho] at h1
   simp only[Option.map_some,Option.getD_some,Bool.or_eq_true,Bool.not_eq_true',Array.all_eq_true_iff_forall_mem] at h1
   rcases h1 with h1|h1
   ·exact .inl h1
   ·right
    intro e he
    rcases h1 e he with h2|h2
    ·exact .inl h2
    ·exact .inr (set_mono h2)
theorem all_done{L:Array Bool}(hf:fwdB md ops=true)(h:downB md ops L=true)(hr:Region.ready md ops L=[]):∀i,i<ops.size→L.getD i false=true:=by
 have hsz:L.size=ops.size:=by
  unfold downB at h
  simp only[Bool.and_eq_true,beq_iff_eq] at h
  exact h.1
 intro i
 induction i using Nat.strongRecOn with
 |ind i ih=>
  intro hi
  cases hL:L.getD i false with
  |true=>rfl
  |false=>
   exfalso
   have hm:i∈Region.ready md ops L:=by
    refine mem_ready.2 ⟨?_,ops[i],Array.getElem?_eq_getElem hi,fun e he hb=> ?_⟩
    ·have hl:i<L.size:=by omega
     simp[hl] at hL⊢
     exact hL
    ·unfold fwdB at hf
     simp only[List.all_eq_true,List.mem_range] at hf
     have h1:=hf i hi
     rw[Array.getElem?_eq_getElem hi] at h1
     simp only[Option.map_some,Option.getD_some,Array.all_eq_true_iff_forall_mem] at h1
     have h2:=h1 e he
     rw[hb] at h2
     simp only[Bool.not_true,Bool.false_or,decide_eq_true_eq] at h2
     exact ih e.on h2 (by omega)
   rw[hr] at hm
   cases hm
def flagUpon(P:Program)(C' :World→Prop)(v:Value):Result Next→Prop
 | .ok (.value u) w' =>C' w'∧u=v
 | .ok .skip w' =>C' w'∧v=undef
 | .ok (.enter f args) w' =>Calls P f args w' (fun e w'' =>e= .returned v∧C' w'')
 |_=>False
def flagAt(P:Program)(o:Oper)(a:Act)(C' :World→Prop)(w:World)(v:Value):Prop:=flagUpon P C' v ((execOp a.eval o).run P w)
def flagO(P:Program)(md:Region.Mode)(ops:Array Oper)(C:Array Bool→World→Prop)(i:Nat)(o:Oper)(a:Act)(next:Act→Prop):Prop:=
 ∃v,(∀L w,downB md ops L=true→i∈Region.ready md ops L→C L w→flagAt P o a (C (L.setIfInBounds i true)) w v)∧next (a.put o.dst v)
def wpFlag(P:Program)(md:Region.Mode)(ops:Array Oper)(C:Array Bool→World→Prop)(Q:Act→Prop):Nat→List Oper→Act→Prop
 |_,[],a=>Q a
 |i,o::rest,a=>if Region.wanted o (yielded ops a.tmps) then flagO P md ops C i o a (wpFlag P md ops C Q (i+1) rest) else(∀L w,downB md ops L=true→i∈Region.ready md ops L→C L w→C (L.setIfInBounds i true) w)∧wpFlag P md ops C Q (i+1) rest (a.put o.dst undef)
def fOp(P:Program)(md:Region.Mode)(ops:Array Oper)(C:Array Bool→World→Prop)(i:Nat)(K:Act→Prop)(a:Act):Prop:=
 match ops[i]? with
 |none=>K a
 |some o=>if Region.wanted o (yielded ops a.tmps) then flagO P md ops C i o a K else(∀L w,downB md ops L=true→i∈Region.ready md ops L→C L w→C (L.setIfInBounds i true) w)∧K (a.put o.dst undef)
theorem fOp_mono{i:Nat}{a:Act}{K K' :Act→Prop}(h:∀a,K a→K' a)(hh:fOp P md ops C i K a):fOp P md ops C i K' a:=by
 unfold fOp at *
 split
 ·exact h _ (by simpa [*] using hh)
 ·rename_i o ho
  simp only[ho] at hh
  split
  ·rename_i hw
   simp only[hw,if_true] at hh
   obtain⟨v,h1,h2⟩:=hh
   exact⟨v,h1,h _ h2⟩
  ·rename_i hw;simp only[hw] at hh;exact⟨hh.1,h _ hh.2⟩
def wpAnyF(P:Program)(md:Region.Mode)(ops:Array Oper)(C:Array Bool→World→Prop)(Q:Act→Prop):Nat→Array Bool→Act→Prop
 |0,listed,a=>Region.ready md ops listed=[]∧Q a
 |fuel+1,listed,a=>
  (Region.ready md ops listed=[]→Q a)∧
  ∀i∈Region.ready md ops listed,fOp P md ops C i (wpAnyF P md ops C Q fuel (listed.setIfInBounds i true)) a
theorem wpOp_of_fOp{i:Nat}{L:Array Bool}{a:Act}{K:Act→Prop}{K' :Act→World→Prop}{Q' :Exit→Act→World→Prop}{w:World}(hd:downB md ops L=true)(hr:i∈Region.ready md ops L)(hC:C L w)
  (h:∀a w',C (L.setIfInBounds i true) w'→K a→K' a w') (hh:fOp P md ops C i K a):wpOp P ops Q' i K' a w:=by
 unfold fOp at hh
 unfold wpOp
 split
 ·rename_i ho
  obtain⟨_,o,ho',_⟩:=mem_ready.1 hr
  rw[ho] at ho'
  cases ho'
 ·rename_i o ho
  simp only[ho] at hh
  split
  ·rename_i hw
   simp only[hw,if_true] at hh
   obtain⟨v,h1,h2⟩:=hh
   have h3:=h1 L w hd hr hC
   left
   unfold flagAt at h3
   unfold Oper.wp
   generalize (execOp a.eval o).run P w=r at *
   cases r with
   |ok n w' =>
    cases n<;>simp only[flagUpon] at h3<;>simp only[Oper.upon]
    case value u=>
     obtain⟨e1,e2⟩:=h3
     rw[e2]
     exact h _ _ e1 h2
    case skip=>
     obtain⟨e1,e2⟩:=h3
     rw[←e2]
     exact h _ _ e1 h2
    case enter f args=>exact h3.mono fun e w'' ⟨he,hw''⟩=>by subst he;exact h _ _ hw'' h2
   |halt x w' =>simp only[flagUpon] at h3
  ·rename_i hw
   simp only[hw] at hh
   exact h _ _ (hh.1 L w hd hr hC) hh.2
theorem wpAny_of_flag{Q:Act→Prop}{Q' :Exit→Act→World→Prop}(hQ:∀L a w,downB md ops L=true→Region.ready md ops L=[]→C L w→Q a→Q' .normal a w):∀(fuel:Nat) (listed:Array Bool) (a:Act) (w:World),downB md ops listed=true→C listed w→
  wpAnyF P md ops C Q fuel listed a→wpAny P md ops Q' fuel listed a w
 |0,_,_,_,hd,hw,h=>⟨h.1,hQ _ _ _ hd h.1 hw h.2⟩
 |fuel+1,_,_,_,hd,hw,h=>⟨fun h0=>hQ _ _ _ hd h0 hw (h.1 h0),fun i hi=>wpOp_of_fOp hd hi hw (fun a' w' hw' =>wpAny_of_flag hQ fuel _ a' w' (down_set hd hi) hw') (h.2 i hi)⟩
def YieldsF(P:Program)(md:Region.Mode)(ops:Array Oper)(C:Array Bool→World→Prop)(i:Nat)(o:Oper)(v:Value)(a:Act):Prop:=
 (Region.wanted o (yielded ops a.tmps)=true∧∀L w,downB md ops L=true→i∈Region.ready md ops L→C L w→flagAt P o a (C (L.setIfInBounds i true)) w v)∨
 (Region.wanted o (yielded ops a.tmps)=false∧(∀L w,downB md ops L=true→i∈Region.ready md ops L→C L w→C (L.setIfInBounds i true) w)∧v=undef)
theorem YieldsF.fOp{i:Nat}{o:Oper}{v:Value}{a:Act}(hi:ops[i]? =some o)(hy:YieldsF P md ops C i o v a){K:Act→Prop}(h:K (a.put o.dst v)):fOp P md ops C i K a:=by
 unfold Go.Proofs.YtpdlbmieciabmaaGreatDoor.fOp
 simp only[hi]
 rcases hy with⟨hw,hv⟩|⟨hw,hc,rfl⟩
 ·simp only[hw,if_true];exact⟨v,hv,h⟩
 ·simp only[hw,Bool.false_eq_true,if_false];exact⟨hc,h⟩
theorem YieldsF.of_same{i:Nat}{o:Oper}{v:Value}{a a' :Act}(hy:YieldsF P md ops C i o v a)(he:execOp a'.eval o=execOp a.eval o)
  (hw:Region.wanted o (yielded ops a'.tmps)=Region.wanted o (yielded ops a.tmps)):YieldsF P md ops C i o v a' :=by
 unfold YieldsF flagAt at *
 rw[he,hw]
 exact hy
theorem yieldsF_of_fOp{i:Nat}{o:Oper}{a:Act}{K:Act→Prop}(hi:ops[i]? =some o)(h:fOp P md ops C i K a):∃v,YieldsF P md ops C i o v a∧K (a.put o.dst v):=by
 unfold fOp at h
 simp only[hi] at h
 by_cases hw:Region.wanted o (yielded ops a.tmps)=true
 ·simp only[hw,if_true] at h
  obtain⟨v,h1,h2⟩:=h
  exact⟨v,.inl ⟨hw,h1⟩,h2⟩
 ·simp only[hw] at h
  exact⟨undef,.inr ⟨by simpa using hw,h.1,rfl⟩,h.2⟩
theorem fOp_put{i j:Nat}{oi oj:Oper}{v:Value}(hj:ops[j]? =some oj)(hap:oi.apart ops oj=true)
  (hsi:∀cs b,oi.op≠.select cs b) (hsj:∀cs b,oj.op≠.select cs b) {K:Act→Prop} {a:Act}
  (hy:YieldsF P md ops C i oi v a) (h:fOp P md ops C j K (a.put oi.dst v)):
  fOp P md ops C j (fun a' =>YieldsF P md ops C i oi v a'∧K (a'.put oi.dst v)) a:=by
 obtain⟨h1,h2,h3⟩:=Oper.apart_spec hap
 have keep:∀(a:Act),YieldsF P md ops C i oi v a→∀u,YieldsF P md ops C i oi v (a.put oj.dst u):=fun a hy u=>
  hy.of_same (execOp_put oi hsi a oj.dst u h3) (wanted_put oi a oj.dst u h3)
 unfold fOp at *
 simp only[hj] at *
 rw[wanted_put oj a oi.dst v h1] at h
 split
 ·rename_i hw
  simp only[hw,if_true] at h
  obtain⟨u,hu,hn⟩:=h
  refine⟨u,fun L w hd hr hw' => ?_,keep a hy u,by rw[←Act.put_comm a v u h2];exact hn⟩
  have:=hu L w hd hr hw'
  unfold flagAt at *
  rwa [execOp_put oj hsj a oi.dst v h1] at this
 ·rename_i hw
  simp only[hw] at h
  exact⟨h.1,keep a hy _,by rw[←Act.put_comm a v undef h2];exact h.2⟩
theorem wpAnyF_first{Q:Act→Prop}{i:Nat}{oi:Oper}{v:Value}(hi:ops[i]? =some oi)(hsel:∀(j:Nat) (o:Oper) cs b,ops[j]? =some o→o.op≠.select cs b):
  ∀(fuel:Nat) (listed:Array Bool) (a:Act),
   (∀j oj,ops[j]? =some oj→j≠i→listed.getD j true=false→(∀e∈oj.after,Region.binds md e=true→e.on≠i)→oi.apart ops oj=true)→
   i∈Region.ready md ops listed→YieldsF P md ops C i oi v a→
   wpAnyF P md ops C Q fuel (listed.setIfInBounds i true) (a.put oi.dst v)→wpAnyF P md ops C Q (fuel+1) listed a:=by
 intro fuel
 induction fuel with
 |zero=>
  intro listed a _ hr hy H
  refine⟨fun h=>(by rw[h] at hr;cases hr),fun j hj=> ?_⟩
  by_cases hji:j=i
  ·subst hji;exact hy.fOp hi H
  ·have:=ready_mono hj hji
   rw[H.1] at this
   cases this
 |succ fuel ih=>
  intro listed a hfree hr hy H
  refine⟨fun h=>(by rw[h] at hr;cases hr),fun j hj=> ?_⟩
  by_cases hji:j=i
  ·subst hji;exact hy.fOp hi H
  ·have h1:=H.2 j (ready_mono hj hji)
   obtain⟨hjun,oj,hoj,hall⟩:=mem_ready.1 hj
   have hnot:∀e∈oj.after,Region.binds md e=true→e.on≠i:=fun e he hb heq=>by
    have h1:=hall e he hb
    have h0:=(mem_ready.1 hr).1
    rw[heq] at h1
    rcases Nat.lt_or_ge i listed.size with h' |h'
    ·simp[h'] at h0 h1;rw[h0] at h1;cases h1
    ·simp[Array.getElem?_eq_none h'] at h1
   have h2:=fOp_put hoj (hfree j oj hoj hji hjun hnot) (fun cs b=>hsel i oi cs b hi) (fun cs b=>hsel j oj cs b hoj) hy h1
   have hfree' :∀k ok,ops[k]? =some ok→k≠i→(listed.setIfInBounds j true).getD k true=false→
     (∀e∈ok.after,Region.binds md e=true→e.on≠i)→oi.apart ops ok=true:=fun k ok hk hki hun hno=>by
    refine hfree k ok hk hki ?_ hno
    by_cases hjk:j=k
    ·subst hjk;exact hjun
    ·rw[getD_set_ne true hjk] at hun;exact hun
   refine fOp_mono (fun a' h3=>ih (listed.setIfInBounds j true) a' hfree' (ready_mono hr (Ne.symm hji)) h3.1 ?_) h2
   rw[Array.setIfInBounds_comm _ _ hji]
   exact h3.2
theorem wpAnyF_lex{Q:Act→Prop}(hs:Region.noSelect ops=true):∀(l:List Oper) (k:Nat) (listed:Array Bool) (a:Act),(∀j,l[j]? =ops[k+j]?)→
  Region.lexFrom md ops l.length k listed=true→wpFlag P md ops C Q k l a→wpAnyF P md ops C Q l.length listed a
 |[],_,_,_,_,hB,h=>⟨by simpa [Region.lexFrom] using hB,h⟩
 |o::l,k,listed,a,hl,hB,h=>by
  have h0:ops[k]? =some o:=by simpa using(hl 0).symm
  simp only[List.length_cons,Region.lexFrom,Bool.and_eq_true] at hB
  obtain⟨⟨hr,hf⟩,hB'⟩:=hB
  have hst:fOp P md ops C k (wpFlag P md ops C Q (k+1) l) a:=by unfold fOp;simp only[h0];exact h
  obtain⟨v,hy,hK⟩:=yieldsF_of_fOp h0 hst
  exact wpAnyF_first h0 (Region.noSelect_spec hs) l.length listed a (Region.free_spec h0 hf) (by simpa using hr) hy
   (wpAnyF_lex hs l (k+1) _ _ (fun j=>by have:=hl (j+1);simpa [Nat.add_assoc,Nat.add_comm 1 j] using this) hB' hK)
theorem wp_region_flag{id:Nat}{Q:Exit→Act→World→Prop}{a:Act}{w:World}{l:List Oper}(C:Array Bool→World→Prop)(hm:P.follows .mixedOrders =true)(hB:Region.lexB .any l.toArray=true)(hF:fwdB .any l.toArray=true)(h0:downB .any l.toArray (Array.replicate l.toArray.size false)=true)
  (hC:C (Array.replicate l.toArray.size false) w.drew)
  (h:wpFlag P .any l.toArray C (fun a' =>∀L w',(∀i,i<l.toArray.size→L.getD i false=true)→C L w'→Q .normal a' w') 0 l a):(Code.region id l.toArray true).wp P Q a w:=by
 simp only[Region.lexB,Bool.and_eq_true] at hB
 refine wp_region_any hm (wpAny_of_flag (Q:=fun a' =>∀L w',(∀i,i<l.toArray.size→L.getD i false=true)→C L w'→Q .normal a' w') (fun L _ w' hd hr hw' h=>h L w' (all_done hF hd hr) hw') _ _ _ _ h0 hC ?_)
 have:=wpAnyF_lex (C:=C) (md:= .any) hB.1 l 0 (Array.replicate l.toArray.size false) a (by simp) (by simpa using hB.2) h
 simpa using this
theorem wpFlag_op{Q:Act→Prop}{i:Nat}{o:Oper}{rest:List Oper}{a:Act}(v:Value)(hw:Region.wanted o (yielded ops a.tmps)=true)(h:∀L w,downB md ops L=true→i∈Region.ready md ops L→C L w→flagAt P o a (C (L.setIfInBounds i true)) w v)
  (hK:wpFlag P md ops C Q (i+1) rest (a.put o.dst v)):wpFlag P md ops C Q i (o::rest) a:=by
 unfold wpFlag
 rw[if_pos hw]
 exact⟨v,h,hK⟩
end
section
variable {S F1 F2:World→Prop} {i1 i2 i:Nat} {L:Array Bool} {W W' :World}
end
def Fl4(S A1 B1 A2 B2:World→Prop)(i1 i2:Nat)(L:Array Bool)(W:World):Prop:=S W∧((L.getD i1 false=false→A1 W)∧(L.getD i1 false=true→B1 W))∧(L.getD i2 false=false→A2 W)∧(L.getD i2 false=true→B2 W)
section
variable {S A1 B1 A2 B2:World→Prop} {i1 i2 i:Nat} {L:Array Bool} {W W' :World}
theorem Fl4.start(n:Nat)(h:S W)(h1:A1 W)(h2:A2 W):Fl4 S A1 B1 A2 B2 i1 i2 (Array.replicate n false) W:=
 ⟨h,⟨fun _=>h1,fun e=>absurd ((getD_replicate_false' n i1).symm.trans e) (by decide)⟩,fun _=>h2,fun e=>absurd ((getD_replicate_false' n i2).symm.trans e) (by decide)⟩
theorem Fl4.step(h:Fl4 S A1 B1 A2 B2 i1 i2 L W)(n1:i≠i1)(n2:i≠i2)(kS:S W→S W')(k1:A1 W→A1 W')(k2:B1 W→B1 W')(k3:A2 W→A2 W')(k4:B2 W→B2 W'):Fl4 S A1 B1 A2 B2 i1 i2 (L.setIfInBounds i true) W' :=by
 obtain⟨h0,⟨h1,h2⟩,h3,h4⟩:=h
 refine⟨kS h0,⟨?_,?_⟩,?_,?_⟩
 ·rw[set_other n1];exact fun e=>k1 (h1 e)
 ·rw[set_other n1];exact fun e=>k2 (h2 e)
 ·rw[set_other n2];exact fun e=>k3 (h3 e)
 ·rw[set_other n2];exact fun e=>k4 (h4 e)
theorem Fl4.same(h:Fl4 S A1 B1 A2 B2 i1 i2 L W)(n1:i≠i1)(n2:i≠i2):Fl4 S A1 B1 A2 B2 i1 i2 (L.setIfInBounds i true) W:=h.step n1 n2 id id id id id
theorem Fl4.put1(h:Fl4 S A1 B1 A2 B2 i1 i2 L W)(n:i1≠i2)(hl:i1<L.size)(kS:S W→S W')(k1:B1 W')(k3:A2 W→A2 W')(k4:B2 W→B2 W'):Fl4 S A1 B1 A2 B2 i1 i2 (L.setIfInBounds i1 true) W' :=by
 obtain⟨h0,⟨h1,h2⟩,h3,h4⟩:=h
 refine⟨kS h0,⟨?_,fun _=>k1⟩,?_,?_⟩
 ·rw[set_same hl];exact fun e=>(by cases e)
 ·rw[set_other n];exact fun e=>k3 (h3 e)
 ·rw[set_other n];exact fun e=>k4 (h4 e)
theorem Fl4.put2(h:Fl4 S A1 B1 A2 B2 i1 i2 L W)(n:i1≠i2)(hl:i2<L.size)(kS:S W→S W')(k1:A1 W→A1 W')(k2:B1 W→B1 W')(k4:B2 W'):Fl4 S A1 B1 A2 B2 i1 i2 (L.setIfInBounds i2 true) W' :=by
 obtain⟨h0,⟨h1,h2⟩,h3,h4⟩:=h
 refine⟨kS h0,⟨?_,?_⟩,?_,fun _=>k4⟩
 ·rw[set_other (Ne.symm n)];exact fun e=>k1 (h1 e)
 ·rw[set_other (Ne.symm n)];exact fun e=>k2 (h2 e)
 ·rw[set_same hl];exact fun e=>(by cases e)
theorem Fl4.all{m:Nat}(h:Fl4 S A1 B1 A2 B2 i1 i2 L W)(ha:∀i,i<m→L.getD i false=true)(h1:i1<m)(h2:i2<m):S W∧B1 W∧B2 W:=⟨h.1,h.2.1.2 (ha _ h1),h.2.2.2 (ha _ h2)⟩
theorem Fl4.a1(h:Fl4 S A1 B1 A2 B2 i1 i2 L W)(e:L.getD i1 false=false):A1 W:=h.2.1.1 e
theorem Fl4.a2(h:Fl4 S A1 B1 A2 B2 i1 i2 L W)(e:L.getD i2 false=false):A2 W:=h.2.2.1 e
end
theorem undone2{ops:Array Oper}{md:Region.Mode}{L:Array Bool}{i j k:Nat}(hd:downB md ops L=true)(hr:i∈Region.ready md ops L)(h1:depB md ops k j=true)(h2:depB md ops j i=true):L.getD k false=false:=by
 cases e:L.getD k false with
 |false=>rfl
 |true=>
  have h3:=down_dep hd (down_dep hd e h1) h2
  rw[ready_undone hr] at h3
  cases h3
theorem undone1{ops:Array Oper}{md:Region.Mode}{L:Array Bool}{i k:Nat}(hd:downB md ops L=true)(hr:i∈Region.ready md ops L)(h1:depB md ops k i=true):L.getD k false=false:=by
 cases e:L.getD k false with
 |false=>rfl
 |true=>
  have h3:=down_dep hd e h1
  rw[ready_undone hr] at h3
  cases h3
end Go.Proofs.YtpdlbmieciabmaaGreatDoor
