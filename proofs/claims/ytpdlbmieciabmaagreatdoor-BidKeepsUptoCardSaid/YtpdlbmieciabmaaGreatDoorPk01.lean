/-What is proved here:several parts. a region that draws its order,some of whose operations change the world (a store,a call that turns a state):one walk in the order of the text,the class of the worlds told for each set of operations that are done;no function of the program. No conditions. · a region that draws its order,whose operations yield what the order lets them:each operation is shown once,what is known of the values and of the world is told for each set of operations that are done;no function of the program. No conditions. -/
import Derived.Test.YtpdlbmieciabmaaGreatDoorRows
import Derived.Deep.Quiet
import Derived.Deep.QuietTactic
import Derived.BigQuiet
namespace Go.Proofs.YtpdlbmieciabmaaGreatDoor
open Go.RowKit
section
variable {P:Program} {ops:Array Oper} {md:Region.Mode} {C:Array Bool→World→Prop}
def downB(md:Region.Mode)(ops:Array Oper)(L:Array Bool):Bool:=
 L.size==ops.size&&(List.range ops.size).all fun i=> !L.getD i false||((ops[i]?).map (·.after.all fun e=> !Region.binds md e||L.getD e.on false)).getD false
def fwdB(md:Region.Mode)(ops:Array Oper):Bool:=(List.range ops.size).all fun i=>((ops[i]?).map (·.after.all fun e=> !Region.binds md e||decide (e.on<i))).getD true
def depB(md:Region.Mode)(ops:Array Oper)(i j:Nat):Bool:=((ops[i]?).map (·.after.toList.any fun e=>Region.binds md e&&e.on==j)).getD false
theorem down_dep{L:Array Bool}(h:downB md ops L=true){i j:Nat}(hi:L.getD i false=true)(hd:depB md ops i j=true):L.getD j false=true:=by
 unfold downB at h
 simp only[Bool.and_eq_true,List.all_eq_true,List.mem_range] at h
 unfold depB at hd
 cases ho:ops[i]? with
 |none=>rw[ho] at hd;cases hd
 |some o=>
  have hlt:i<ops.size:=(Array.getElem?_eq_some_iff.1 ho).1
  have h1:=h.2 i hlt
  rw[hi,ho] at h1
  rw[ho] at hd
  simp only[Option.map_some,Option.getD_some,Bool.not_true,Bool.false_or,Array.all_eq_true_iff_forall_mem,List.any_eq_true] at h1 hd
  obtain⟨e,he,h2⟩:=hd
  have h3:=h1 e (Array.mem_toList_iff.1 he)
  simp only[Bool.and_eq_true,beq_iff_eq] at h2
  rw[h2.1,h2.2] at h3
  simpa using h3
theorem ready_dep{L:Array Bool}{i j:Nat}(h:i∈Region.ready md ops L)(hd:depB md ops i j=true):L.getD j false=true:=by
 obtain⟨_,o,ho,hall⟩:=mem_ready.1 h
 unfold depB at hd
 rw[ho] at hd
 simp only[Option.map_some,Option.getD_some,List.any_eq_true,Bool.and_eq_true,beq_iff_eq] at hd
 obtain⟨e,he,h1,h2⟩:=hd
 rw[←h2]
 exact hall e (Array.mem_toList_iff.1 he) h1
theorem getD_replicate_false'(n i:Nat):(Array.replicate n false).getD i false=false:=by
 rcases Nat.lt_or_ge i n with h|h
 ·simp[h]
 ·simp[h]
theorem ready_lt{L:Array Bool}{i:Nat}(h:i∈Region.ready md ops L):i<L.size:=by
 have h0:=(mem_ready.1 h).1
 rcases Nat.lt_or_ge i L.size with h' |h'
 ·exact h'
 ·simp[Array.getElem?_eq_none h'] at h0
theorem ready_undone{L:Array Bool}{i:Nat}(h:i∈Region.ready md ops L):L.getD i false=false:=by
 have h0:=(mem_ready.1 h).1
 have hl:=ready_lt h
 simp[hl] at h0⊢
 exact h0
theorem set_same{L:Array Bool}{i:Nat}(h:i<L.size):(L.setIfInBounds i true).getD i false=true:=by simp[h]
theorem set_other{L:Array Bool}{i j:Nat}(h:i≠j):(L.setIfInBounds i true).getD j false=L.getD j false:=getD_set_ne false h
theorem set_mono{L:Array Bool}{i j:Nat}(h:L.getD j false=true):(L.setIfInBounds i true).getD j false=true:=by
 by_cases e:i=j
 ·subst e
  have:i<L.size:=by
   rcases Nat.lt_or_ge i L.size with h' |h'
   ·exact h'
   ·simp[Array.getElem?_eq_none h'] at h
  exact set_same this
 ·rw[set_other e];exact h
theorem down_set{L:Array Bool}{i:Nat}(h:downB md ops L=true)(hr:i∈Region.ready md ops L):downB md ops (L.setIfInBounds i true)=true:=by
 have hd:=h
 unfold downB at h⊢
 simp only[Bool.and_eq_true,List.all_eq_true,List.mem_range,Array.size_setIfInBounds] at h⊢
 refine⟨h.1,fun k hk=> ?_⟩
 cases ho:ops[k]? with
 |none=>exact absurd (Array.getElem?_eq_none_iff.1 ho) (by omega)
 |some o=>
  simp only[Option.map_some,Option.getD_some,Bool.or_eq_true,Bool.not_eq_true',Array.all_eq_true_iff_forall_mem]
  by_cases e:i=k
  ·subst e
   right
   intro e he
   by_cases hb:Region.binds md e=true
   ·right
    obtain⟨_,o',ho',hall⟩:=mem_ready.1 hr
    rw[ho] at ho'
    cases ho'
    exact set_mono (hall e he hb)
   ·left;simpa using hb
  ·rw[set_other e]
   have h1:=h.2 k hk
   rw[ho] at h1
   simp only[Option.map_some,Option.getD_some,Bool.or_eq_true,Bool.not_eq_true',Array.all_eq_true_iff_forall_mem] at h1
   rcases h1 with h1|h1
   ·exact .inl h1
   ·right
    intro e he
    rcases h1 e he with h2|h2
    ·exact .inl h2
    ·exact .inr (set_mono h2)
theorem all_done{L:Array Bool}(hf:fwdB md ops=true)(h:downB md ops L=true)(hr:Region.ready md ops L=[]):∀i,i<ops.size→L.getD i false=true:=by
 have hsz:L.size=ops.size:=by
  unfold downB at h
  simp only[Bool.and_eq_true,beq_iff_eq] at h
  exact h.1
 intro i
 induction i using Nat.strongRecOn with
 |ind i ih=>
  intro hi
  cases hL:L.getD i false with
  |true=>rfl
  |false=>
   exfalso
   have hm:i∈Region.ready md ops L:=by
    refine mem_ready.2 ⟨?_,ops[i],Array.getElem?_eq_getElem hi,fun e he hb=> ?_⟩
    ·have hl:i<L.size:=by omega
     simp[hl] at hL⊢
     exact hL
    ·unfold fwdB at hf
     simp only[List.all_eq_true,List.mem_range] at hf
     have h1:=hf i hi
     rw[Array.getElem?_eq_getElem hi] at h1
     simp only[Option.map_some,Option.getD_some,Array.all_eq_true_iff_forall_mem] at h1
     have h2:=h1 e he
     rw[hb] at h2
     simp only[Bool.not_true,Bool.false_or,decide_eq_true_eq] at h2
     exact ih e.on h2 (by omega)
   rw[hr] at hm
   cases hm
def flagUpon(P:Program)(C' :World→Prop)(v:Value):Result Next→Prop
 | .ok (.value u) w' =>C' w'∧u=v
 | .ok .skip w' =>C' w'∧v=undef
 | .ok (.enter f args) w' =>Calls P f args w' (fun e w'' =>e= .returned v∧C' w'')
 |_=>False
def flagAt(P:Program)(o:Oper)(a:Act)(C' :World→Prop)(w:World)(v:Value):Prop:=flagUpon P C' v ((execOp a.eval o).run P w)
def flagO(P:Program)(md:Region.Mode)(ops:Array Oper)(C:Array Bool→World→Prop)(i:Nat)(o:Oper)(a:Act)(next:Act→Prop):Prop:=
 ∃v,(∀L w,downB md ops L=true→i∈Region.ready md ops L→C L w→flagAt P o a (C (L.setIfInBounds i true)) w v)∧next (a.put o.dst v)
def wpFlag(P:Program)(md:Region.Mode)(ops:Array Oper)(C:Array Bool→World→Prop)(Q:Act→Prop):Nat→List Oper→Act→Prop
 |_,[],a=>Q a
 |i,o::rest,a=>if Region.wanted o (yielded ops a.tmps) then flagO P md ops C i o a (wpFlag P md ops C Q (i+1) rest) else(∀L w,downB md ops L=true→i∈Region.ready md ops L→C L w→C (L.setIfInBounds i true) w)∧wpFlag P md ops C Q (i+1) rest (a.put o.dst undef)
def fOp(P:Program)(md:Region.Mode)(ops:Array Oper)(C:Array Bool→World→Prop)(i:Nat)(K:Act→Prop)(a:Act):Prop:=
 match ops[i]? with
 |none=>K a
 |some o=>if Region.wanted o (yielded ops a.tmps) then flagO P md ops C i o a K else(∀L w,downB md ops L=true→i∈Region.ready md ops L→C L w→C (L.setIfInBounds i true) w)∧K (a.put o.dst undef)
theorem fOp_mono{i:Nat}{a:Act}{K K' :Act→Prop}(h:∀a,K a→K' a)(hh:fOp P md ops C i K a):fOp P md ops C i K' a:=by
 unfold fOp at *
 split
 ·exact h _ (by simpa [*] using hh)
 ·rename_i o ho
  simp only[ho] at hh
  split
  ·rename_i hw
   simp only[hw,if_true] at hh
   obtain⟨v,h1,h2⟩:=hh
   exact⟨v,h1,h _ h2⟩
  ·rename_i hw;simp only[hw] at hh;exact⟨hh.1,h _ hh.2⟩
def wpAnyF(P:Program)(md:Region.Mode)(ops:Array Oper)(C:Array Bool→World→Prop)(Q:Act→Prop):Nat→Array Bool→Act→Prop
 |0,listed,a=>Region.ready md ops listed=[]∧Q a
 |fuel+1,listed,a=>
  (Region.ready md ops listed=[]→Q a)∧
  ∀i∈Region.ready md ops listed,fOp P md ops C i (wpAnyF P md ops C Q fuel (listed.setIfInBounds i true)) a
def YieldsF(P:Program)(md:Region.Mode)(ops:Array Oper)(C:Array Bool→World→Prop)(i:Nat)(o:Oper)(v:Value)(a:Act):Prop:=
 (Region.wanted o (yielded ops a.tmps)=true∧∀L w,downB md ops L=true→i∈Region.ready md ops L→C L w→flagAt P o a (C (L.setIfInBounds i true)) w v)∨
 (Region.wanted o (yielded ops a.tmps)=false∧(∀L w,downB md ops L=true→i∈Region.ready md ops L→C L w→C (L.setIfInBounds i true) w)∧v=undef)
theorem YieldsF.fOp{i:Nat}{o:Oper}{v:Value}{a:Act}(hi:ops[i]? =some o)(hy:YieldsF P md ops C i o v a){K:Act→Prop}(h:K (a.put o.dst v)):fOp P md ops C i K a:=by
 unfold Go.Proofs.YtpdlbmieciabmaaGreatDoor.fOp
 simp only[hi]
 rcases hy with⟨hw,hv⟩|⟨hw,hc,rfl⟩
 ·simp only[hw,if_true];exact⟨v,hv,h⟩
 ·simp only[hw,Bool.false_eq_true,if_false];exact⟨hc,h⟩
theorem YieldsF.of_same{i:Nat}{o:Oper}{v:Value}{a a' :Act}(hy:YieldsF P md ops C i o v a)(he:execOp a'.eval o=execOp a.eval o)
  (hw:Region.wanted o (yielded ops a'.tmps)=Region.wanted o (yielded ops a.tmps)):YieldsF P md ops C i o v a' :=by
 unfold YieldsF flagAt at *
 rw[he,hw]
 exact hy
theorem yieldsF_of_fOp{i:Nat}{o:Oper}{a:Act}{K:Act→Prop}(hi:ops[i]? =some o)(h:fOp P md ops C i K a):∃v,YieldsF P md ops C i o v a∧K (a.put o.dst v):=by
 unfold fOp at h
 simp only[hi] at h
 by_cases hw:Region.wanted o (yielded ops a.tmps)=true
 ·simp only[hw,if_true] at h
  obtain⟨v,h1,h2⟩:=h
  exact⟨v,.inl ⟨hw,h1⟩,h2⟩
 ·simp only[hw] at h
  exact⟨undef,.inr ⟨by simpa using hw,h.1,rfl⟩,h.2⟩
theorem fOp_put{i j:Nat}{oi oj:Oper}{v:Value}(hj:ops[j]? =some oj)(hap:oi.apart ops oj=true)
  (hsi:∀cs b,oi.op≠.select cs b) (hsj:∀cs b,oj.op≠.select cs b) {K:Act→Prop} {a:Act}
  (hy:YieldsF P md ops C i oi v a) (h:fOp P md ops C j K (a.put oi.dst v)):
  fOp P md ops C j (fun a' =>YieldsF P md ops C i oi v a'∧K (a'.put oi.dst v)) a:=by
 obtain⟨h1,h2,h3⟩:=Oper.apart_spec hap
 have keep:∀(a:Act),YieldsF P md ops C i oi v a→∀u,YieldsF P md ops C i oi v (a.put oj.dst u):=fun a hy u=>
  hy.of_same (execOp_put oi hsi a oj.dst u h3) (wanted_put oi a oj.dst u h3)
 unfold fOp at *
 simp only[hj] at *
 rw[wanted_put oj a oi.dst v h1] at h
 split
 ·rename_i hw
  simp only[hw,if_true] at h
  obtain⟨u,hu,hn⟩:=h
  refine⟨u,fun L w hd hr hw' => ?_,keep a hy u,by rw[←Act.put_comm a v u h2];exact hn⟩
  have:=hu L w hd hr hw'
  unfold flagAt at *
  rwa [execOp_put oj hsj a oi.dst v h1] at this
 ·rename_i hw
  simp only[hw] at h
  exact⟨h.1,keep a hy _,by rw[←Act.put_comm a v undef h2];exact h.2⟩
theorem wpAnyF_first{Q:Act→Prop}{i:Nat}{oi:Oper}{v:Value}(hi:ops[i]? =some oi)(hsel:∀(j:Nat) (o:Oper) cs b,ops[j]? =some o→o.op≠.select cs b):
  ∀(fuel:Nat) (listed:Array Bool) (a:Act),
   (∀j oj,ops[j]? =some oj→j≠i→listed.getD j true=false→(∀e∈oj.after,Region.binds md e=true→e.on≠i)→oi.apart ops oj=true)→
   i∈Region.ready md ops listed→YieldsF P md ops C i oi v a→
   wpAnyF P md ops C Q fuel (listed.setIfInBounds i true) (a.put oi.dst v)→wpAnyF P md ops C Q (fuel+1) listed a:=by
 intro fuel
 induction fuel with
 |zero=>
  intro listed a _ hr hy H
  refine⟨fun h=>(by rw[h] at hr;cases hr),fun j hj=> ?_⟩
  by_cases hji:j=i
  ·subst hji;exact hy.fOp hi H
  ·have:=ready_mono hj hji
   rw[H.1] at this
   cases this
 |succ fuel ih=>
  intro listed a hfree hr hy H
  refine⟨fun h=>(by rw[h] at hr;cases hr),fun j hj=> ?_⟩
  by_cases hji:j=i
  ·subst hji;exact hy.fOp hi H
  ·have h1:=H.2 j (ready_mono hj hji)
   obtain⟨hjun,oj,hoj,hall⟩:=mem_ready.1 hj
   have hnot:∀e∈oj.after,Region.binds md e=true→e.on≠i:=fun e he hb heq=>by
    have h1:=hall e he hb
    have h0:=(mem_ready.1 hr).1
    rw[heq] at h1
    rcases Nat.lt_or_ge i listed.size with h' |h'
    ·simp[h'] at h0 h1;rw[h0] at h1;cases h1
    ·simp[Array.getElem?_eq_none h'] at h1
   have h2:=fOp_put hoj (hfree j oj hoj hji hjun hnot) (fun cs b=>hsel i oi cs b hi) (fun cs b=>hsel j oj cs b hoj) hy h1
   have hfree' :∀k ok,ops[k]? =some ok→k≠i→(listed.setIfInBounds j true).getD k true=false→
     (∀e∈ok.after,Region.binds md e=true→e.on≠i)→oi.apart ops ok=true:=fun k ok hk hki hun hno=>by
    refine hfree k ok hk hki ?_ hno
    by_cases hjk:j=k
    ·subst hjk;exact hjun
    ·rw[getD_set_ne true hjk] at hun;exact hun
   refine fOp_mono (fun a' h3=>ih (listed.setIfInBounds j true) a' hfree' (ready_mono hr (Ne.symm hji)) h3.1 ?_) h2
   rw[Array.setIfInBounds_comm _ _ hji]
   exact h3.2
theorem wpAnyF_lex{Q:Act→Prop}(hs:Region.noSelect ops=true):∀(l:List Oper) (k:Nat) (listed:Array Bool) (a:Act),(∀j,l[j]? =ops[k+j]?)→
  Region.lexFrom md ops l.length k listed=true→wpFlag P md ops C Q k l a→wpAnyF P md ops C Q l.length listed a
 |[],_,_,_,_,hB,h=>⟨by simpa [Region.lexFrom] using hB,h⟩
 |o::l,k,listed,a,hl,hB,h=>by
  have h0:ops[k]? =some o:=by simpa using(hl 0).symm
  simp only[List.length_cons,Region.lexFrom,Bool.and_eq_true] at hB
  obtain⟨⟨hr,hf⟩,hB'⟩:=hB
  have hst:fOp P md ops C k (wpFlag P md ops C Q (k+1) l) a:=by unfold fOp;simp only[h0];exact h
  obtain⟨v,hy,hK⟩:=yieldsF_of_fOp h0 hst
  exact wpAnyF_first h0 (Region.noSelect_spec hs) l.length listed a (Region.free_spec h0 hf) (by simpa using hr) hy
   (wpAnyF_lex hs l (k+1) _ _ (fun j=>by have:=hl (j+1);simpa [Nat.add_assoc,Nat.add_comm 1 j] using this) hB' hK)
theorem wpFlag_op{Q:Act→Prop}{i:Nat}{o:Oper}{rest:List Oper}{a:Act}(v:Value)(hw:Region.wanted o (yielded ops a.tmps)=true)(h:∀L w,downB md ops L=true→i∈Region.ready md ops L→C L w→flagAt P o a (C (L.setIfInBounds i true)) w v)
  (hK:wpFlag P md ops C Q (i+1) rest (a.put o.dst v)):wpFlag P md ops C Q i (o::rest) a:=by
 unfold wpFlag
 rw[if_pos hw]
 exact⟨v,h,hK⟩
end
section
variable {S F1 F2:World→Prop} {i1 i2 i:Nat} {L:Array Bool} {W W' :World}
end
section
variable {S A1 B1 A2 B2:World→Prop} {i1 i2 i:Nat} {L:Array Bool} {W W' :World}
end
theorem undone2{ops:Array Oper}{md:Region.Mode}{L:Array Bool}{i j k:Nat}(hd:downB md ops L=true)(hr:i∈Region.ready md ops L)(h1:depB md ops k j=true)(h2:depB md ops j i=true):L.getD k false=false:=by
 cases e:L.getD k false with
 |false=>rfl
 |true=>
  have h3:=down_dep hd (down_dep hd e h1) h2
  rw[ready_undone hr] at h3
  cases h3
theorem undone1{ops:Array Oper}{md:Region.Mode}{L:Array Bool}{i k:Nat}(hd:downB md ops L=true)(hr:i∈Region.ready md ops L)(h1:depB md ops k i=true):L.getD k false=false:=by
 cases e:L.getD k false with
 |false=>rfl
 |true=>
  have h3:=down_dep hd e h1
  rw[ready_undone hr] at h3
  cases h3
end Go.Proofs.YtpdlbmieciabmaaGreatDoor
namespace Go.Proofs.YtpdlbmieciabmaaGreatDoor
open Go.RowKit
section
variable {P:Program} {ops:Array Oper}
def dstOf(ops:Array Oper)(j:Nat):Option Tmp:=(ops[j]?).bind (·.dst)
def srcOf(ops:Array Oper)(s:Tmp):Option Nat:=(List.range ops.size).find? fun i=>dstOf ops i==some s
theorem srcOf_dst{s:Tmp}{j:Nat}(h:srcOf ops s=some j):dstOf ops j=some s:=by
 have:=List.find?_some h
 simpa using this
def plainB(ops:Array Oper)(n:Nat):Bool:=(List.range ops.size).all fun i=>((ops[i]?).map fun o=>o.guard.isNone&&(match o.dst with|some d=>srcOf ops d==some i&&decide (d<n)|none=>true)).getD true
theorem plain_guard{n:Nat}(h:plainB ops n=true){i:Nat}{o:Oper}(ho:ops[i]? =some o):o.guard=none:=by
 have h1:=List.all_eq_true.1 h i (List.mem_range.2 (Array.getElem?_eq_some_iff.1 ho).1)
 rw[ho] at h1
 simp only[Option.map_some,Option.getD_some,Bool.and_eq_true,Option.isNone_iff_eq_none] at h1
 exact h1.1
theorem plain_src{n:Nat}(h:plainB ops n=true){i:Nat}{d:Tmp}(hd:dstOf ops i=some d):srcOf ops d=some i∧d<n:=by
 unfold dstOf at hd
 cases ho:ops[i]? with
 |none=>rw[ho] at hd;cases hd
 |some o=>
  rw[ho] at hd
  simp only[Option.bind_some] at hd
  have h1:=List.all_eq_true.1 h i (List.mem_range.2 (Array.getElem?_eq_some_iff.1 ho).1)
  rw[ho] at h1
  simp only[Option.map_some,Option.getD_some,Bool.and_eq_true,hd,beq_iff_eq,decide_eq_true_eq] at h1
  exact h1.2
def actL(ops:Array Oper)(vals:Nat→Value)(L:Array Bool)(a:Act):Act:=
 {a with tmps:=Array.ofFn (n:=a.tmps.size) fun s=>match srcOf ops s.val with
  |some j=>if L.getD j false=true then vals j else a.tmps[s]
  |none=>a.tmps[s]}
def upV(vals:Nat→Value)(i:Nat)(u:Value):Nat→Value:=fun j=>if j=i then u else vals j
theorem upV_same(vals:Nat→Value)(i:Nat)(u:Value):upV vals i u i=u:=by simp[upV]
theorem upV_other{vals:Nat→Value}{i j:Nat}{u:Value}(h:j≠i):upV vals i u j=vals j:=by simp[upV,h]
theorem upV_id(vals:Nat→Value)(i:Nat):upV vals i (vals i)=vals:=by
 funext j
 unfold upV
 split
 ·rename_i h;rw[h]
 ·rfl
theorem actL_size(vals:Nat→Value)(L:Array Bool)(a:Act):(actL ops vals L a).tmps.size =a.tmps.size:=by simp[actL]
theorem actL_at(vals:Nat→Value)(L:Array Bool)(a:Act)(s:Nat)(h:s<a.tmps.size):(actL ops vals L a).tmps[s]'(by rw[actL_size];exact h)=match srcOf ops s with
  |some j=>if L.getD j false=true then vals j else a.tmps[s]
  |none=>a.tmps[s]:=by simp[actL]
theorem act_ext{a b:Act}(h:a.tmps=b.tmps)(k:a.defers=b.defers):a=b:=by
 cases a;cases b
 simp only at h k
 subst h k
 rfl
theorem actL_put{n:Nat}(hp:plainB ops n=true){vals:Nat→Value}{L:Array Bool}{a:Act}{i:Nat}{o:Oper}(ho:ops[i]? =some o)(hL:i<L.size)(u:Value):(actL ops vals L a).put o.dst u=actL ops (upV vals i u) (L.setIfInBounds i true) a:=by
 have hdo:dstOf ops i=o.dst:=by unfold dstOf;rw[ho];rfl
 cases hd:o.dst with
 |none=>
  refine act_ext ?_ rfl
  show(actL ops vals L a).tmps =_
  refine Array.ext (by rw[actL_size,actL_size]) fun s h1 h2=> ?_
  rw[actL_size] at h1
  rw[actL_at _ _ _ _ h1,actL_at _ _ _ _ h1]
  cases hs:srcOf ops s with
  |none=>rfl
  |some j=>
   have hj:j≠i:=fun e=>by
    subst e
    have:=srcOf_dst hs
    rw[hdo,hd] at this
    cases this
   simp only
   rw[set_other (Ne.symm hj),upV_other hj]
 |some d=>
  have hsd:=(plain_src hp (hdo.trans hd)).1
  refine act_ext ?_ rfl
  show(actL ops vals L a).tmps.setIfInBounds d u=_
  refine Array.ext (by rw[Array.size_setIfInBounds,actL_size,actL_size]) fun s h1 h2=> ?_
  rw[Array.size_setIfInBounds,actL_size] at h1
  have hsz:s<(actL ops vals L a).tmps.size :=by rw[actL_size];exact h1
  rw[Array.getElem_setIfInBounds hsz,actL_at _ _ _ _ h1,actL_at _ _ _ _ h1]
  by_cases e:d=s
  ·subst e
   rw[if_pos rfl,hsd]
   simp only
   rw[set_same hL,if_pos rfl,upV_same]
  ·rw[if_neg e]
   cases hs:srcOf ops s with
   |none=>rfl
   |some j=>
    have hj:j≠i:=fun e2=>by
     subst e2
     have:=srcOf_dst hs
     rw[hdo,hd] at this
     exact e (Option.some.inj this)
    simp only
    rw[set_other (Ne.symm hj),upV_other hj]
theorem actL_none(vals:Nat→Value)(a:Act)(k:Nat):actL ops vals (Array.replicate k false) a=a:=by
 refine act_ext ?_ rfl
 refine Array.ext (actL_size _ _ _) fun s h1 h2=> ?_
 rw[actL_at _ _ _ _ h2]
 cases srcOf ops s with
 |none=>rfl
 |some j=>simp only;rw[getD_replicate_false',if_neg (by decide)]
theorem actL_congr{vals:Nat→Value}{L M:Array Bool}{a:Act}(h:∀j,j<ops.size→L.getD j false=M.getD j false):actL ops vals L a=actL ops vals M a:=by
 refine act_ext ?_ rfl
 refine Array.ext (by rw[actL_size,actL_size]) fun s h1 h2=> ?_
 rw[actL_size] at h1
 rw[actL_at _ _ _ _ h1,actL_at _ _ _ _ h1]
 cases hs:srcOf ops s with
 |none=>rfl
 |some j=>
  have hj:j<ops.size:=List.mem_range.1 (List.mem_of_find?_eq_some hs)
  simp only
  rw[h j hj]
def finA(vals:Nat→Value):Nat→List Oper→Act→Act
 |_,[],a=>a
 |i,o::l,a=>finA vals (i+1) l (a.put o.dst (vals i))
theorem finA_actL{n:Nat}(hp:plainB ops n=true){vals:Nat→Value}{a:Act}:∀(l:List Oper) (k:Nat) (L:Array Bool),(∀j,l[j]? =ops[k+j]?)→k+l.length=ops.size→L.size=ops.size→(∀j,j<k→L.getD j false=true)→∃M,M.size=ops.size∧(∀j,j<ops.size→M.getD j false=true)∧finA vals k l (actL ops vals L a)=actL ops vals M a
 |[],k,L,_,hk,hs,hL=>⟨L,hs,fun j hj=>hL j (by simp at hk;omega),rfl⟩
 |o::l,k,L,hl,hk,hs,hL=>by
  have ho:ops[k]? =some o:=by simpa using(hl 0).symm
  have hlt:k<L.size:=by rw[hs];exact(Array.getElem?_eq_some_iff.1 ho).1
  have h1:=actL_put hp (vals:=vals) (a:=a) ho hlt (vals k)
  rw[upV_id] at h1
  unfold finA
  rw[h1]
  refine finA_actL hp l (k+1) _ (fun j=>by have:=hl (j+1);simpa [Nat.add_assoc,Nat.add_comm 1 j] using this) (by simp at hk;omega) (by simpa using hs) (fun j hj=> ?_)
  by_cases e:j=k
  ·subst e;exact set_same hlt
  ·exact set_mono (hL j (by omega))
def stepR(P:Program)(o:Oper)(ρ:Operand→Value)(w:World)(post:Value→World→Prop):Prop:=
 match(execOp ρ o).run P w with
 | .ok (.value u) w' =>post u w'
 | .ok .skip w' =>post undef w'
 | .ok (.enter f args) w' =>Calls P f args w' fun e w'' =>∃u,e= .returned u∧post u w''
 |_=>False
def chStep(P:Program)(md:Region.Mode)(ops:Array Oper)(C:(Nat→Value)→Array Bool→World→Prop)(a:Act)(i:Nat)(o:Oper):Prop:=
 ∀vals L w ρ,downB md ops L=true→i∈Region.ready md ops L→C vals L w→(∀j s,depB md ops i j=true→dstOf ops j=some s→ρ (.tmp s)=vals j)→(∀s,srcOf ops s=none→ρ (.tmp s)=a.eval (.tmp s))→(∀x,(∀s,x≠.tmp s)→ρ x=a.eval x)→stepR P o ρ w fun u w' =>C (upV vals i u) (L.setIfInBounds i true) w'
def chSteps(P:Program)(md:Region.Mode)(ops:Array Oper)(C:(Nat→Value)→Array Bool→World→Prop)(a:Act):Nat→List Oper→Prop
 |_,[]=>True
 |i,o::l=>chStep P md ops C a i o∧chSteps P md ops C a (i+1) l
theorem chSteps_at{md:Region.Mode}{C:(Nat→Value)→Array Bool→World→Prop}{a:Act}:∀{l:List Oper} {k:Nat},chSteps P md ops C a k l→∀{j:Nat} {o:Oper},l[j]? =some o→chStep P md ops C a (k+j) o
 |[],_,_,j,o,h=>by simp at h
 |x::l,k,hs,0,o,h=>by
  simp only[List.getElem?_cons_zero,Option.some.injEq] at h
  subst h
  exact hs.1
 |x::l,k,hs,j+1,o,h=>by
  have:=chSteps_at hs.2 (j:=j) (o:=o) (by simpa using h)
  rwa [show k+1+j=k+(j+1) by omega] at this
theorem actL_done{n:Nat}(hp:plainB ops n=true){vals:Nat→Value}{L:Array Bool}{a:Act}(hn:n≤a.tmps.size){j:Nat}{s:Tmp}(hd:dstOf ops j=some s)(hL:L.getD j false=true):(actL ops vals L a).eval (.tmp s)=vals j:=by
 obtain⟨h1,h2⟩:=plain_src hp hd
 have hs:s<a.tmps.size:=Nat.lt_of_lt_of_le h2 hn
 show(actL ops vals L a).tmps.getD s undef=_
 rw[Array.getD_eq_getD_getElem?,Array.getElem?_eq_getElem (by rw[actL_size];exact hs),actL_at _ _ _ _ hs,h1]
 simp only[Option.getD_some]
 rw[hL,if_pos rfl]
theorem actL_old{vals:Nat→Value}{L:Array Bool}{a:Act}{s:Tmp}(hs:srcOf ops s=none):(actL ops vals L a).eval (.tmp s)=a.eval (.tmp s):=by
 show(actL ops vals L a).tmps.getD s undef=a.tmps.getD s undef
 rw[Array.getD_eq_getD_getElem?,Array.getD_eq_getD_getElem?]
 rcases Nat.lt_or_ge s a.tmps.size with h|h
 ·rw[Array.getElem?_eq_getElem (by rw[actL_size];exact h),Array.getElem?_eq_getElem h,actL_at _ _ _ _ h,hs]
 ·rw[Array.getElem?_eq_none (by rw[actL_size];exact h),Array.getElem?_eq_none h]
theorem actL_const{vals:Nat→Value}{L:Array Bool}{a:Act}{x:Operand}(hx:∀s,x≠.tmp s):(actL ops vals L a).eval x=a.eval x:=by
 cases x with
 |tmp s=>exact absurd rfl (hx s)
 |_=>rfl
theorem count_set{L:Array Bool}{i:Nat}(h:L.getD i false=false)(hi:i<L.size):(L.setIfInBounds i true).toList.count false+1=L.toList.count false:=by
 have h1:L.toList[i]'(by simpa using hi)=false:=by simpa [hi] using h
 rw[Array.toList_setIfInBounds,List.count_set (by simpa using hi)]
 have hpos:0<L.toList.count false:=List.count_pos_iff.2 (by rw[←h1];exact List.getElem_mem _)
 rw[h1]
 simp only[beq_self_eq_true,if_true]
 rw[if_neg (by decide)]
 omega
theorem wpAny_of_choice{md:Region.Mode}{C:(Nat→Value)→Array Bool→World→Prop}{a:Act}{n:Nat}(hp:plainB ops n=true)(hn:n≤a.tmps.size){Q:Exit→Act→World→Prop}(hst:∀{j:Nat} {o:Oper},ops[j]? =some o→chStep P md ops C a j o)
  (hQ:∀vals L w,downB md ops L=true→Region.ready md ops L=[]→L.size=ops.size→C vals L w→Q .normal (actL ops vals L a) w):∀(fuel:Nat) (vals:Nat→Value) (L:Array Bool) (w:World),L.toList.count false=fuel→L.size=ops.size→downB md ops L=true→C vals L w→wpAny P md ops Q fuel L (actL ops vals L a) w
 |0,vals,L,w,hf,hs,hd,hC=>by
  have h0:Region.ready md ops L=[]:=by
   rw[List.eq_nil_iff_forall_not_mem]
   intro i hi
   have h1:=count_set (ready_undone hi) (ready_lt hi)
   omega
  exact⟨h0,hQ vals L w hd h0 hs hC⟩
 |fuel+1,vals,L,w,hf,hs,hd,hC=>by
  refine⟨fun h0=>hQ vals L w hd h0 hs hC,fun i hi=> ?_⟩
  obtain⟨_,o,ho,_⟩:=mem_ready.1 hi
  have hlt:=ready_lt hi
  have hcnt:=count_set (ready_undone hi) hlt
  have key:∀u w',C (upV vals i u) (L.setIfInBounds i true) w'→wpAny P md ops Q fuel (L.setIfInBounds i true) ((actL ops vals L a).put o.dst u) w' :=fun u w' h=>by
   rw[actL_put hp ho hlt u]
   exact wpAny_of_choice hp hn hst hQ fuel _ _ w' (by omega) (by simpa using hs) (down_set hd hi) h
  have h:=hst ho vals L w (actL ops vals L a).eval hd hi hC (fun j s hj hjs=>actL_done hp hn hjs (ready_dep hi hj)) (fun s h=>actL_old h) (fun x hx=>actL_const hx)
  have hg:=plain_guard hp ho
  have hw:Region.wanted o (yielded ops (actL ops vals L a).tmps)=true:=by unfold Region.wanted;rw[hg]
  unfold wpOp
  simp only[ho,hw,if_true]
  left
  unfold stepR at h
  unfold Oper.wp
  generalize (execOp (actL ops vals L a).eval o).run P w=r at *
  cases r with
  |ok x w' =>
   cases x<;>simp only at h<;>simp only[Oper.upon]
   case value u=>exact key u w' h
   case skip=>exact key undef w' h
   case enter f args=>exact h.mono fun e w'' ⟨u,he,hC'⟩=>by subst he;exact key u w'' hC'
  |halt x w' =>exact h.elim
theorem wp_region_choice{id:Nat}{Q:Exit→Act→World→Prop}{a:Act}{w:World}{l:List Oper}(C:(Nat→Value)→Array Bool→World→Prop)(n:Nat)(hm:P.follows .mixedOrders =true)(hF:fwdB .any l.toArray=true)(h0:downB .any l.toArray (Array.replicate l.toArray.size false)=true)(hp:plainB l.toArray n=true)(hn:n≤a.tmps.size)
  (hC:C (fun _=>undef) (Array.replicate l.toArray.size false) w.drew) (hs:chSteps P .any l.toArray C a 0 l)
  (h:∀vals L w',(∀i,i<l.toArray.size→L.getD i false=true)→C vals L w'→Q .normal (finA vals 0 l a) w'):(Code.region id l.toArray true).wp P Q a w:=by
 refine wp_region_any hm ?_
 have key:=wpAny_of_choice (P:=P) (md:= .any) (C:=C) hp hn (Q:=Q) (fun {j o} ho=>by have:=chSteps_at hs (j:=j) (o:=o) (by simpa using ho);rwa [Nat.zero_add] at this) (fun vals L w' hd hr hsz hC' =>by
  have hall:=all_done hF hd hr
  obtain⟨M,hM,hM2,e⟩:=finA_actL hp (vals:=vals) (a:=a) l 0 (Array.replicate l.toArray.size false) (fun j=>by simp) (by simp) (by simp) (fun j hj=>absurd hj (by omega))
  rw[actL_none] at e
  rw[actL_congr (M:=M) (fun j hj=>(hall j hj).trans (hM2 j hj).symm),←e]
  exact h vals L w' hall hC') l.toArray.size (fun _=>undef) (Array.replicate l.toArray.size false) w.drew (by simp) (by simp) h0 hC
 rw[actL_none] at key
 exact key
end
end Go.Proofs.YtpdlbmieciabmaaGreatDoor
