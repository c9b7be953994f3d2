/-What is proved here:a region that draws its order,some of whose operations change the world (a store,a call that turns a state):one walk in the order of the text,the class of the worlds told for each set of operations that are done;no function of the program. No conditions. -/
import Derived.Test.YtpdlbmieciabmaaGreatDoorRows
import Derived.Deep.Quiet
import Derived.Deep.QuietTactic
import Derived.BigQuiet
namespace Go.Proofs.YtpdlbmieciabmaaGreatDoor
open Go.RowKit
section
variable {P:Program} {ops:Array Oper} {md:Region.Mode} {C:Array Bool→World→Prop}
def downB(md:Region.Mode)(ops:Array Oper)(L:Array Bool):Bool:=
 L.size==ops.size&&(List.range ops.size).all fun i=> !L.getD i false||((ops[i]?).map (·.after.all fun e=> !Region.binds md e||L.getD e.on false)).getD false
def fwdB(md:Region.Mode)(ops:Array Oper):Bool:=(List.range ops.size).all fun i=>((ops[i]?).map (·.after.all fun e=> !Region.binds md e||decide (e.on<i))).getD true
def depB(md:Region.Mode)(ops:Array Oper)(i j:Nat):Bool:=((ops[i]?).map (·.after.toList.any fun e=>Region.binds md e&&e.on==j)).getD false
theorem down_dep{L:Array Bool}(h:downB md ops L=true){i j:Nat}(hi:L.getD i false=true)(hd:depB md ops i j=true):L.getD j false=true:=by
 unfold downB at h
 simp only[Bool.and_eq_true,List.all_eq_true,List.mem_range] at h
 unfold depB at hd
 cases ho:ops[i]? with
 |none=>rw[ho] at hd;cases hd
 |some o=>
  have hlt:i<ops.size:=(Array.getElem?_eq_some_iff.1 ho).1
  have h1:=h.2 i hlt
  rw[hi,ho] at h1
  rw[ho] at hd
  simp only[Option.map_some,Option.getD_some,Bool.not_true,Bool.false_or,Array.all_eq_true_iff_forall_mem,List.any_eq_true] at h1 hd
  obtain⟨e,he,h2⟩:=hd
  have h3:=h1 e (Array.mem_toList_iff.1 he)
  simp only[Bool.and_eq_true,beq_iff_eq] at h2
  rw[h2.1,h2.2] at h3
  simpa using h3
theorem ready_dep{L:Array Bool}{i j:Nat}(h:i∈Region.ready md ops L)(hd:depB md ops i j=true):L.getD j false=true:=by
 obtain⟨_,o,ho,hall⟩:=mem_ready.1 h
 unfold depB at hd
 rw[ho] at hd
 simp only[Option.map_some,Option.getD_some,List.any_eq_true,Bool.and_eq_true,beq_iff_eq] at hd
 obtain⟨e,he,h1,h2⟩:=hd
 rw[←h2]
 exact hall e (Array.mem_toList_iff.1 he) h1
theorem getD_replicate_false'(n i:Nat):(Array.replicate n false).getD i false=false:=by
 rcases Nat.lt_or_ge i n with h|h
 ·simp[h]
 ·simp[h]
theorem ready_lt{L:Array Bool}{i:Nat}(h:i∈Region.ready md ops L):i<L.size:=by
 have h0:=(mem_ready.1 h).1
 rcases Nat.lt_or_ge i L.size with h' |h'
 ·exact h'
 ·simp[Array.getElem?_eq_none h'] at h0
theorem ready_undone{L:Array Bool}{i:Nat}(h:i∈Region.ready md ops L):L.getD i false=false:=by
 have h0:=(mem_ready.1 h).1
 have hl:=ready_lt h
 simp[hl] at h0⊢
 exact h0
theorem set_same{L:Array Bool}{i:Nat}(h:i<L.size):(L.setIfInBounds i true).getD i false=true:=by simp[h]
theorem set_other{L:Array Bool}{i j:Nat}(h:i≠j):(L.setIfInBounds i true).getD j false=L.getD j false:=getD_set_ne false h
theorem set_mono{L:Array Bool}{i j:Nat}(h:L.getD j false=true):(L.setIfInBounds i true).getD j false=true:=by
 by_cases e:i=j
 ·subst e
  have:i<L.size:=by
   rcases Nat.lt_or_ge i L.size with h' |h'
   ·exact h'
   ·simp[Array.getElem?_eq_none h'] at h
  exact set_same this
 ·rw[set_other e];exact h
theorem down_set{L:Array Bool}{i:Nat}(h:downB md ops L=true)(hr:i∈Region.ready md ops L):downB md ops (L.setIfInBounds i true)=true:=by
 have hd:=h
 unfold downB at h⊢
 simp only[Bool.and_eq_true,List.all_eq_true,List.mem_range,Array.size_setIfInBounds] at h⊢
 refine⟨h.1,fun k hk=> ?_⟩
 cases ho:ops[k]? with
 |none=>exact absurd (Array.getElem?_eq_none_iff.1 ho) (by omega)
 |some o=>
  simp only[Option.map_some,Option.getD_some,Bool.or_eq_true,Bool.not_eq_true',Array.all_eq_true_iff_forall_mem]
  by_cases e:i=k
  ·subst e
   right
   intro e he
   by_cases hb:Region.binds md e=true
   ·right
    obtain⟨_,o',ho',hall⟩:=mem_ready.1 hr
    rw[ho] at ho'
    cases ho'
    exact set_mono (hall e he hb)
   ·left;simpa using hb
  ·rw[set_other e]
   have h1:=h.2 k hk
   rw[ho] at h1
   simp only[Option.map_some,Option.getD_some,Bool.or_eq_true,Bool.not_eq_true',Array.all_eq_true_iff_forall_mem] at h1
   rcases h1 with h1|h1
   ·exact .inl h1
   ·right
    intro e he
    rcases h1 e he with h2|h2
    ·exact .inl h2
    ·exact .inr (set_mono h2)
theorem all_done{L:Array Bool}(hf:fwdB md ops=true)(h:downB md ops L=true)(hr:Region.ready md ops L=[]):∀i,i<ops.size→L.getD i false=true:=by
 have hsz:L.size=ops.size:=by
  unfold downB at h
  simp only[Bool.and_eq_true,beq_iff_eq] at h
  exact h.1
 intro i
 induction i using Nat.strongRecOn with
 |ind i ih=>
  intro hi
  cases hL:L.getD i false with
  |true=>rfl
  |false=>
   exfalso
   have hm:i∈Region.ready md ops L:=by
    refine mem_ready.2 ⟨?_,ops[i],Array.getElem?_eq_getElem hi,fun e he hb=> ?_⟩
    ·have hl:i<L.size:=by omega
     simp[hl] at hL⊢
     exact hL
    ·unfold fwdB at hf
     simp only[List.all_eq_true,List.mem_range] at hf
     have h1:=hf i hi
     rw[Array.getElem?_eq_getElem hi] at h1
     simp only[Option.map_some,Option.getD_some,Array.all_eq_true_iff_forall_mem] at h1
     have h2:=h1 e he
     rw[hb] at h2
     simp only[Bool.not_true,Bool.false_or,decide_eq_true_eq] at h2
     exact ih e.on h2 (by omega)
   rw[hr] at hm
   cases hm
def flagUpon(P:Program)(C' :World→Prop)(v:Value):Result Next→Prop
 | .ok (.value u) w' =>C' w'∧u=v
 | .ok .skip w' =>C' w'∧v=undef
 | .ok (.enter f args) w' =>Calls P f args w' (fun e w'' =>e= .returned v∧C' w'')
 |_=>False
def flagAt(P:Program)(o:Oper)(a:Act)(C' :World→Prop)(w:World)(v:Value):Prop:=flagUpon P C' v ((execOp a.eval o).run P w)
def flagO(P:Program)(md:Region.Mode)(ops:Array Oper)(C:Array Bool→World→Prop)(i:Nat)(o:Oper)(a:Act)(next:Act→Prop):Prop:=
 ∃v,(∀L w,downB md ops L=true→i∈Region.ready md ops L→C L w→flagAt P o a (C (L.setIfInBounds i true)) w v)∧next (a.put o.dst v)
def wpFlag(P:Program)(md:Region.Mode)(ops:Array Oper)(C:Array Bool→World→Prop)(Q:Act→Prop):Nat→List Oper→Act→Prop
 |_,[],a=>Q a
 |i,o::rest,a=>if Region.wanted o (yielded ops a.tmps) then flagO P md ops C i o a (wpFlag P md ops C Q (i+1) rest) else(∀L w,downB md ops L=true→i∈Region.ready md ops L→C L w→C (L.setIfInBounds i true) w)∧wpFlag P md ops C Q (i+1) rest (a.put o.dst undef)
def fOp(P:Program)(md:Region.Mode)(ops:Array Oper)(C:Array Bool→World→Prop)(i:Nat)(K:Act→Prop)(a:Act):Prop:=
 match ops[i]? with
 |none=>K a
 |some o=>if Region.wanted o (yielded ops a.tmps) then flagO P md ops C i o a K else(∀L w,downB md ops L=true→i∈Region.ready md ops L→C L w→C (L.setIfInBounds i true) w)∧K (a.put o.dst undef)
theorem fOp_mono{i:Nat}{a:Act}{K K' :Act→Prop}(h:∀a,K a→K' a)(hh:fOp P md ops C i K a):fOp P md ops C i K' a:=by
 unfold fOp at *
 split
 ·exact h _ (by simpa [*] using hh)
 ·rename_i o ho
  simp only[ho] at hh
  split
  ·rename_i hw
   simp only[hw,if_true] at hh
   obtain⟨v,h1,h2⟩:=hh
   exact⟨v,h1,h _ h2⟩
  ·rename_i hw;simp only[hw] at hh;exact⟨hh.1,h _ hh.2⟩
def wpAnyF(P:Program)(md:Region.Mode)(ops:Array Oper)(C:Array Bool→World→Prop)(Q:Act→Prop):Nat→Array Bool→Act→Prop
 |0,listed,a=>Region.ready md ops listed=[]∧Q a
 |fuel+1,listed,a=>
  (Region.ready md ops listed=[]→Q a)∧
  ∀i∈Region.ready md ops listed,fOp P md ops C i (wpAnyF P md ops C Q fuel (listed.setIfInBounds i true)) a
def YieldsF(P:Program)(md:Region.Mode)(ops:Array Oper)(C:Array Bool→World→Prop)(i:Nat)(o:Oper)(v:Value)(a:Act):Prop:=
 (Region.wanted o (yielded ops a.tmps)=true∧∀L w,downB md ops L=true→i∈Region.ready md ops L→C L w→flagAt P o a (C (L.setIfInBounds i true)) w v)∨
 (Region.wanted o (yielded ops a.tmps)=false∧(∀L w,downB md ops L=true→i∈Region.ready md ops L→C L w→C (L.setIfInBounds i true) w)∧v=undef)
theorem YieldsF.fOp{i:Nat}{o:Oper}{v:Value}{a:Act}(hi:ops[i]? =some o)(hy:YieldsF P md ops C i o v a){K:Act→Prop}(h:K (a.put o.dst v)):fOp P md ops C i K a:=by
 unfold Go.Proofs.YtpdlbmieciabmaaGreatDoor.fOp
 simp only[hi]
 rcases hy with⟨hw,hv⟩|⟨hw,hc,rfl⟩
 ·simp only[hw,if_true];exact⟨v,hv,h⟩
 ·simp only[hw,Bool.false_eq_true,if_false];exact⟨hc,h⟩
theorem YieldsF.of_same{i:Nat}{o:Oper}{v:Value}{a a' :Act}(hy:YieldsF P md ops C i o v a)(he:execOp a'.eval o=execOp a.eval o)
  (hw:Region.wanted o (yielded ops a'.tmps)=Region.wanted o (yielded ops a.tmps)):YieldsF P md ops C i o v a' :=by
 unfold YieldsF flagAt at *
 rw[he,hw]
 exact hy
theorem yieldsF_of_fOp{i:Nat}{o:Oper}{a:Act}{K:Act→Prop}(hi:ops[i]? =some o)(h:fOp P md ops C i K a):∃v,YieldsF P md ops C i o v a∧K (a.put o.dst v):=by
 unfold fOp at h
 simp only[hi] at h
 by_cases hw:Region.wanted o (yielded ops a.tmps)=true
 ·simp only[hw,if_true] at h
  obtain⟨v,h1,h2⟩:=h
  exact⟨v,.inl ⟨hw,h1⟩,h2⟩
 ·simp only[hw] at h
  exact⟨undef,.inr ⟨by simpa using hw,h.1,rfl⟩,h.2⟩
theorem fOp_put{i j:Nat}{oi oj:Oper}{v:Value}(hj:ops[j]? =some oj)(hap:oi.apart ops oj=true)
  (hsi:∀cs b,oi.op≠.select cs b) (hsj:∀cs b,oj.op≠.select cs b) {K:Act→Prop} {a:Act}
  (hy:YieldsF P md ops C i oi v a) (h:fOp P md ops C j K (a.put oi.dst v)):
  fOp P md ops C j (fun a' =>YieldsF P md ops C i oi v a'∧K (a'.put oi.dst v)) a:=by
 obtain⟨h1,h2,h3⟩:=Oper.apart_spec hap
 have keep:∀(a:Act),YieldsF P md ops C i oi v a→∀u,YieldsF P md ops C i oi v (a.put oj.dst u):=fun a hy u=>
  hy.of_same (execOp_put oi hsi a oj.dst u h3) (wanted_put oi a oj.dst u h3)
 unfold fOp at *
 simp only[hj] at *
 rw[wanted_put oj a oi.dst v h1] at h
 split
 ·rename_i hw
  simp only[hw,if_true] at h
  obtain⟨u,hu,hn⟩:=h
  refine⟨u,fun L w hd hr hw' => ?_,keep a hy u,by rw[←Act.put_comm a v u h2];exact hn⟩
  have:=hu L w hd hr hw'
  unfold flagAt at *
  rwa [execOp_put oj hsj a oi.dst v h1] at this
 ·rename_i hw
  simp only[hw] at h
  exact⟨h.1,keep a hy _,by rw[←Act.put_comm a v undef h2];exact h.2⟩
theorem wpAnyF_first{Q:Act→Prop}{i:Nat}{oi:Oper}{v:Value}(hi:ops[i]? =some oi)(hsel:∀(j:Nat) (o:Oper) cs b,ops[j]? =some o→o.op≠.select cs b):
  ∀(fuel:Nat) (listed:Array Bool) (a:Act),
   (∀j oj,ops[j]? =some oj→j≠i→listed.getD j true=false→(∀e∈oj.after,Region.binds md e=true→e.on≠i)→oi.apart ops oj=true)→
   i∈Region.ready md ops listed→YieldsF P md ops C i oi v a→
   wpAnyF P md ops C Q fuel (listed.setIfInBounds i true) (a.put oi.dst v)→wpAnyF P md ops C Q (fuel+1) listed a:=by
 intro fuel
 induction fuel with
 |zero=>
  intro listed a _ hr hy H
  refine⟨fun h=>(by rw[h] at hr;cases hr),fun j hj=> ?_⟩
  by_cases hji:j=i
  ·subst hji;exact hy.fOp hi H
  ·have:=ready_mono hj hji
   rw[H.1] at this
   cases this
 |succ fuel ih=>
  intro listed a hfree hr hy H
  refine⟨fun h=>(by rw[h] at hr;cases hr),fun j hj=> ?_⟩
  by_cases hji:j=i
  ·subst hji;exact hy.fOp hi H
  ·have h1:=H.2 j (ready_mono hj hji)
   obtain⟨hjun,oj,hoj,hall⟩:=mem_ready.1 hj
   have hnot:∀e∈oj.after,Region.binds md e=true→e.on≠i:=fun e he hb heq=>by
    have h1:=hall e he hb
    have h0:=(mem_ready.1 hr).1
    rw[heq] at h1
    rcases Nat.lt_or_ge i listed.size with h' |h'
    ·simp[h'] at h0 h1;rw[h0] at h1;cases h1
    ·simp[Array.getElem?_eq_none h'] at h1
   have h2:=fOp_put hoj (hfree j oj hoj hji hjun hnot) (fun cs b=>hsel i oi cs b hi) (fun cs b=>hsel j oj cs b hoj) hy h1
   have hfree' :∀k ok,ops[k]? =some ok→k≠i→(listed.setIfInBounds j true).getD k true=false→
     (∀e∈ok.after,Region.binds md e=true→e.on≠i)→oi.apart ops ok=true:=fun k ok hk hki hun hno=>by
    refine hfree k ok hk hki ?_ hno
    by_cases hjk:j=k
    ·subst hjk;exact hjun
    ·rw[getD_set_ne true hjk] at hun;exact hun
   refine fOp_mono (fun a' h3=>ih (listed.setIfInBounds j true) a' hfree' (ready_mono hr (Ne.symm hji)) h3.1 ?_) h2
   rw[Array.setIfInBounds_comm _ _ hji]
   exact h3.2
theorem wpAnyF_lex{Q:Act→Prop}(hs:Region.noSelect ops=true):∀(l:List Oper) (k:Nat) (listed:Array Bool) (a:Act),(∀j,l[j]? =ops[k+j]?)→
  Region.lexFrom md ops l.length k listed=true→wpFlag P md ops C Q k l a→wpAnyF P md ops C Q l.length listed a
 |[],_,_,_,_,hB,h=>⟨by simpa [Region.lexFrom] using hB,h⟩
 |o::l,k,listed,a,hl,hB,h=>by
  have h0:ops[k]? =some o:=by simpa using(hl 0).symm
  simp only[List.length_cons,Region.lexFrom,Bool.and_eq_true] at hB
  obtain⟨⟨hr,hf⟩,hB'⟩:=hB
  have hst:fOp P md ops C k (wpFlag P md ops C Q (k+1) l) a:=by unfold fOp;simp only[h0];exact h
  obtain⟨v,hy,hK⟩:=yieldsF_of_fOp h0 hst
  exact wpAnyF_first h0 (Region.noSelect_spec hs) l.length listed a (Region.free_spec h0 hf) (by simpa using hr) hy
   (wpAnyF_lex hs l (k+1) _ _ (fun j=>by have:=hl (j+1);simpa [Nat.add_assoc,Nat.add_comm 1 j] using this) hB' hK)
theorem wpFlag_op{Q:Act→Prop}{i:Nat}{o:Oper}{rest:List Oper}{a:Act}(v:Value)(hw:Region.wanted o (yielded ops a.tmps)=true)(h:∀L w,downB md ops L=true→i∈Region.ready md ops L→C L w→flagAt P o a (C (L.setIfInBounds i true)) w v)
  (hK:wpFlag P md ops C Q (i+1) rest (a.put o.dst v)):wpFlag P md ops C Q i (o::rest) a:=by
 unfold wpFlag
 rw[if_pos hw]
 exact⟨v,h,hK⟩
end
section
variable {S F1 F2:World→Prop} {i1 i2 i:Nat} {L:Array Bool} {W W' :World}
end
section
variable {S A1 B1 A2 B2:World→Prop} {i1 i2 i:Nat} {L:Array Bool} {W W' :World}
end
theorem undone2{ops:Array Oper}{md:Region.Mode}{L:Array Bool}{i j k:Nat}(hd:downB md ops L=true)(hr:i∈Region.ready md ops L)(h1:depB md ops k j=true)(h2:depB md ops j i=true):L.getD k false=false:=by
 cases e:L.getD k false with
 |false=>rfl
 |true=>
  have h3:=down_dep hd (down_dep hd e h1) h2
  rw[ready_undone hr] at h3
  cases h3
theorem undone1{ops:Array Oper}{md:Region.Mode}{L:Array Bool}{i k:Nat}(hd:downB md ops L=true)(hr:i∈Region.ready md ops L)(h1:depB md ops k i=true):L.getD k false=false:=by
 cases e:L.getD k false with
 |false=>rfl
 |true=>
  have h3:=down_dep hd e h1
  rw[ready_undone hr] at h3
  cases h3
end Go.Proofs.YtpdlbmieciabmaaGreatDoor
