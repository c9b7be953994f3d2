/-What is proved here:a region that draws its order,whose operations yield what the order lets them:each operation is shown once,what is known of the values and of the world is told for each set of operations that are done;no function of the program. No conditions. -/
import Derived.Test.YtpdlbmieciabmaaGreatDoorPm01
namespace Go.Proofs.YtpdlbmieciabmaaGreatDoor
open Go.RowKit
section
variable {P:Program} {ops:Array Oper}
def dstOf(ops:Array Oper)(j:Nat):Option Tmp:=(ops[j]?).bind (·.dst)
def srcOf(ops:Array Oper)(s:Tmp):Option Nat:=(List.range ops.size).find? fun i=>dstOf ops i==some s
theorem srcOf_dst{s:Tmp}{j:Nat}(h:srcOf ops s=some j):dstOf ops j=some s:=by
 have:=List.find?_some h
 simpa using this
def plainB(ops:Array Oper)(n:Nat):Bool:=(List.range ops.size).all fun i=>((ops[i]?).map fun o=>o.guard.isNone&&(match o.dst with|some d=>srcOf ops d==some i&&decide (d<n)|none=>true)).getD true
theorem plain_guard{n:Nat}(h:plainB ops n=true){i:Nat}{o:Oper}(ho:ops[i]? =some o):o.guard=none:=by
 have h1:=List.all_eq_true.1 h i (List.mem_range.2 (Array.getElem?_eq_some_iff.1 ho).1)
 rw[ho] at h1
 simp only[Option.map_some,Option.getD_some,Bool.and_eq_true,Option.isNone_iff_eq_none] at h1
 exact h1.1
theorem plain_src{n:Nat}(h:plainB ops n=true){i:Nat}{d:Tmp}(hd:dstOf ops i=some d):srcOf ops d=some i∧d<n:=by
 unfold dstOf at hd
 cases ho:ops[i]? with
 |none=>rw[ho] at hd;cases hd
 |some o=>
  rw[ho] at hd
  simp only[Option.bind_some] at hd
  have h1:=List.all_eq_true.1 h i (List.mem_range.2 (Array.getElem?_eq_some_iff.1 ho).1)
  rw[ho] at h1
  simp only[Option.map_some,Option.getD_some,Bool.and_eq_true,hd,beq_iff_eq,decide_eq_true_eq] at h1
  exact h1.2
def actL(ops:Array Oper)(vals:Nat→Value)(L:Array Bool)(a:Act):Act:=
 {a with tmps:=Array.ofFn (n:=a.tmps.size) fun s=>match srcOf ops s.val with
  |some j=>if L.getD j false=true then vals j else a.tmps[s]
  |none=>a.tmps[s]}
def upV(vals:Nat→Value)(i:Nat)(u:Value):Nat→Value:=fun j=>if j=i then u else vals j
theorem upV_same(vals:Nat→Value)(i:Nat)(u:Value):upV vals i u i=u:=by simp[upV]
theorem upV_other{vals:Nat→Value}{i j:Nat}{u:Value}(h:j≠i):upV vals i u j=vals j:=by simp[upV,h]
theorem upV_id(vals:Nat→Value)(i:Nat):upV vals i (vals i)=vals:=by
 funext j
 unfold upV
 split
 ·rename_i h;rw[h]
 ·rfl
theorem actL_size(vals:Nat→Value)(L:Array Bool)(a:Act):(actL ops vals L a).tmps.size =a.tmps.size:=by simp[actL]
theorem actL_at(vals:Nat→Value)(L:Array Bool)(a:Act)(s:Nat)(h:s<a.tmps.size):(actL ops vals L a).tmps[s]'(by rw[actL_size];exact h)=match srcOf ops s with
  |some j=>if L.getD j false=true then vals j else a.tmps[s]
  |none=>a.tmps[s]:=by simp[actL]
theorem act_ext{a b:Act}(h:a.tmps=b.tmps)(k:a.defers=b.defers):a=b:=by
 cases a;cases b
 simp only at h k
 subst h k
 rfl
theorem actL_put{n:Nat}(hp:plainB ops n=true){vals:Nat→Value}{L:Array Bool}{a:Act}{i:Nat}{o:Oper}(ho:ops[i]? =some o)(hL:i<L.size)(u:Value):(actL ops vals L a).put o.dst u=actL ops (upV vals i u) (L.setIfInBounds i true) a:=by
 have hdo:dstOf ops i=o.dst:=by unfold dstOf;rw[ho];rfl
 cases hd:o.dst with
 |none=>
  refine act_ext ?_ rfl
  show(actL ops vals L a).tmps =_
  refine Array.ext (by rw[actL_size,actL_size]) fun s h1 h2=> ?_
  rw[actL_size] at h1
  rw[actL_at _ _ _ _ h1,actL_at _ _ _ _ h1]
  cases hs:srcOf ops s with
  |none=>rfl
  |some j=>
   have hj:j≠i:=fun e=>by
    subst e
    have:=srcOf_dst hs
    rw[hdo,hd] at this
    cases this
   simp only
   rw[set_other (Ne.symm hj),upV_other hj]
 |some d=>
  have hsd:=(plain_src hp (hdo.trans hd)).1
  refine act_ext ?_ rfl
  show(actL ops vals L a).tmps.setIfInBounds d u=_
  refine Array.ext (by rw[Array.size_setIfInBounds,actL_size,actL_size]) fun s h1 h2=> ?_
  rw[Array.size_setIfInBounds,actL_size] at h1
  have hsz:s<(actL ops vals L a).tmps.size :=by rw[actL_size];exact h1
  rw[Array.getElem_setIfInBounds hsz,actL_at _ _ _ _ h1,actL_at _ _ _ _ h1]
  by_cases e:d=s
  ·subst e
   rw[if_pos rfl,hsd]
   simp only
   rw[set_same hL,if_pos rfl,upV_same]
  ·rw[if_neg e]
   cases hs:srcOf ops s with
   |none=>rfl
   |some j=>
    have hj:j≠i:=fun e2=>by
     subst e2
     have:=srcOf_dst hs
     rw[hdo,hd] at this
     exact e (Option.some.inj this)
    simp only
    rw[set_other (Ne.symm hj),upV_other hj]
theorem actL_none(vals:Nat→Value)(a:Act)(k:Nat):actL ops vals (Array.replicate k false) a=a:=by
 refine act_ext ?_ rfl
 refine Array.ext (actL_size _ _ _) fun s h1 h2=> ?_
 rw[actL_at _ _ _ _ h2]
 cases srcOf ops s with
 |none=>rfl
 |some j=>simp only;rw[getD_replicate_false',if_neg (by decide)]
theorem actL_congr{vals:Nat→Value}{L M:Array Bool}{a:Act}(h:∀j,j<ops.size→L.getD j false=M.getD j false):actL ops vals L a=actL ops vals M a:=by
 refine act_ext ?_ rfl
 refine Array.ext (by rw[actL_size,actL_size]) fun s h1 h2=> ?_
 rw[actL_size] at h1
 rw[actL_at _ _ _ _ h1,actL_at _ _ _ _ h1]
 cases hs:srcOf ops s with
 |none=>rfl
 |some j=>
  have hj:j<ops.size:=List.mem_range.1 (List.mem_of_find?_eq_some hs)
  simp only
  rw[h j hj]
def finA(vals:Nat→Value):Nat→List Oper→Act→Act
 |_,[],a=>a
 |i,o::l,a=>finA vals (i+1) l (a.put o.dst (vals i))
theorem finA_actL{n:Nat}(hp:plainB ops n=true){vals:Nat→Value}{a:Act}:∀(l:List Oper) (k:Nat) (L:Array Bool),(∀j,l[j]? =ops[k+j]?)→k+l.length=ops.size→L.size=ops.size→(∀j,j<k→L.getD j false=true)→∃M,M.size=ops.size∧(∀j,j<ops.size→M.getD j false=true)∧finA vals k l (actL ops vals L a)=actL ops vals M a
 |[],k,L,_,hk,hs,hL=>⟨L,hs,fun j hj=>hL j (by simp at hk;omega),rfl⟩
 |o::l,k,L,hl,hk,hs,hL=>by
  have ho:ops[k]? =some o:=by simpa using(hl 0).symm
  have hlt:k<L.size:=by rw[hs];exact(Array.getElem?_eq_some_iff.1 ho).1
  have h1:=actL_put hp (vals:=vals) (a:=a) ho hlt (vals k)
  rw[upV_id] at h1
  unfold finA
  rw[h1]
  refine finA_actL hp l (k+1) _ (fun j=>by have:=hl (j+1);simpa [Nat.add_assoc,Nat.add_comm 1 j] using this) (by simp at hk;omega) (by simpa using hs) (fun j hj=> ?_)
  by_cases e:j=k
  ·subst e;exact set_same hlt
  ·exact set_mono (hL j (by omega))
def stepR(P:Program)(o:Oper)(ρ:Operand→Value)(w:World)(post:Value→World→Prop):Prop:=
 match(execOp ρ o).run P w with
 | .ok (.value u) w' =>post u w'
 | .ok .skip w' =>post undef w'
 | .ok (.enter f args) w' =>Calls P f args w' fun e w'' =>∃u,e= .returned u∧post u w''
 |_=>False
def chStep(P:Program)(md:Region.Mode)(ops:Array Oper)(C:(Nat→Value)→Array Bool→World→Prop)(a:Act)(i:Nat)(o:Oper):Prop:=
 ∀vals L w ρ,downB md ops L=true→i∈Region.ready md ops L→C vals L w→(∀j s,depB md ops i j=true→dstOf ops j=some s→ρ (.tmp s)=vals j)→(∀s,srcOf ops s=none→ρ (.tmp s)=a.eval (.tmp s))→(∀x,(∀s,x≠.tmp s)→ρ x=a.eval x)→stepR P o ρ w fun u w' =>C (upV vals i u) (L.setIfInBounds i true) w'
def chSteps(P:Program)(md:Region.Mode)(ops:Array Oper)(C:(Nat→Value)→Array Bool→World→Prop)(a:Act):Nat→List Oper→Prop
 |_,[]=>True
 |i,o::l=>chStep P md ops C a i o∧chSteps P md ops C a (i+1) l
theorem chSteps_at{md:Region.Mode}{C:(Nat→Value)→Array Bool→World→Prop}{a:Act}:∀{l:List Oper} {k:Nat},chSteps P md ops C a k l→∀{j:Nat} {o:Oper},l[j]? =some o→chStep P md ops C a (k+j) o
 |[],_,_,j,o,h=>by simp at h
 |x::l,k,hs,0,o,h=>by
  simp only[List.getElem?_cons_zero,Option.some.injEq] at h
  subst h
  exact hs.1
 |x::l,k,hs,j+1,o,h=>by
  have:=chSteps_at hs.2 (j:=j) (o:=o) (by simpa using h)
  rwa [show k+1+j=k+(j+1) by omega] at this
theorem actL_done{n:Nat}(hp:plainB ops n=true){vals:Nat→Value}{L:Array Bool}{a:Act}(hn:n≤a.tmps.size){j:Nat}{s:Tmp}(hd:dstOf ops j=some s)(hL:L.getD j false=true):(actL ops vals L a).eval (.tmp s)=vals j:=by
 obtain⟨h1,h2⟩:=plain_src hp hd
 have hs:s<a.tmps.size:=Nat.lt_of_lt_of_le h2 hn
 show(actL ops vals L a).tmps.getD s undef=_
 rw[Array.getD_eq_getD_getElem?,Array.getElem?_eq_getElem (by rw[actL_size];exact hs),actL_at _ _ _ _ hs,h1]
 simp only[Option.getD_some]
 rw[hL,if_pos rfl]
theorem actL_old{vals:Nat→Value}{L:Array Bool}{a:Act}{s:Tmp}(hs:srcOf ops s=none):(actL ops vals L a).eval (.tmp s)=a.eval (.tmp s):=by
 show(actL ops vals L a).tmps.getD s undef=a.tmps.getD s undef
 rw[Array.getD_eq_getD_getElem?,Array.getD_eq_getD_getElem?]
 rcases Nat.lt_or_ge s a.tmps.size with h|h
 ·rw[Array.getElem?_eq_getElem (by rw[actL_size];exact h),Array.getElem?_eq_getElem h,actL_at _ _ _ _ h,hs]
 ·rw[Array.getElem?_eq_none (by rw[actL_size];exact h),Array.getElem?_eq_none h]
theorem actL_const{vals:Nat→Value}{L:Array Bool}{a:Act}{x:Operand}(hx:∀s,x≠.tmp s):(actL ops vals L a).eval x=a.eval x:=by
 cases x with
 |tmp s=>exact absurd rfl (hx s)
 |_=>rfl
theorem count_set{L:Array Bool}{i:Nat}(h:L.getD i false=false)(hi:i<L.size):(L.setIfInBounds i true).toList.count false+1=L.toList.count false:=by
 have h1:L.toList[i]'(by simpa using hi)=false:=by simpa [hi] using h
 rw[Array.toList_setIfInBounds,List.count_set (by simpa using hi)]
 have hpos:0<L.toList.count false:=List.count_pos_iff.2 (by rw[←h1];exact List.getElem_mem _)
 rw[h1]
 simp only[beq_self_eq_true,if_true]
 rw[if_neg (by decide)]
 omega
theorem wpAny_of_choice{md:Region.Mode}{C:(Nat→Value)→Array Bool→World→Prop}{a:Act}{n:Nat}(hp:plainB ops n=true)(hn:n≤a.tmps.size){Q:Exit→Act→World→Prop}(hst:∀{j:Nat} {o:Oper},ops[j]? =some o→chStep P md ops C a j o)
  (hQ:∀vals L w,downB md ops L=true→Region.ready md ops L=[]→L.size=ops.size→C vals L w→Q .normal (actL ops vals L a) w):∀(fuel:Nat) (vals:Nat→Value) (L:Array Bool) (w:World),L.toList.count false=fuel→L.size=ops.size→downB md ops L=true→C vals L w→wpAny P md ops Q fuel L (actL ops vals L a) w
 |0,vals,L,w,hf,hs,hd,hC=>by
  have h0:Region.ready md ops L=[]:=by
   rw[List.eq_nil_iff_forall_not_mem]
   intro i hi
   have h1:=count_set (ready_undone hi) (ready_lt hi)
   omega
  exact⟨h0,hQ vals L w hd h0 hs hC⟩
 |fuel+1,vals,L,w,hf,hs,hd,hC=>by
  refine⟨fun h0=>hQ vals L w hd h0 hs hC,fun i hi=> ?_⟩
  obtain⟨_,o,ho,_⟩:=mem_ready.1 hi
  have hlt:=ready_lt hi
  have hcnt:=count_set (ready_undone hi) hlt
  have key:∀u w',C (upV vals i u) (L.setIfInBounds i true) w'→wpAny P md ops Q fuel (L.setIfInBounds i true) ((actL ops vals L a).put o.dst u) w' :=fun u w' h=>by
   rw[actL_put hp ho hlt u]
   exact wpAny_of_choice hp hn hst hQ fuel _ _ w' (by omega) (by simpa using hs) (down_set hd hi) h
  have h:=hst ho vals L w (actL ops vals L a).eval hd hi hC (fun j s hj hjs=>actL_done hp hn hjs (ready_dep hi hj)) (fun s h=>actL_old h) (fun x hx=>actL_const hx)
  have hg:=plain_guard hp ho
  have hw:Region.wanted o (yielded ops (actL ops vals L a).tmps)=true:=by unfold Region.wanted;rw[hg]
  unfold wpOp
  simp only[ho,hw,if_true]
  left
  unfold stepR at h
  unfold Oper.wp
  generalize (execOp (actL ops vals L a).eval o).run P w=r at *
  cases r with
  |ok x w' =>
   cases x<;>simp only at h<;>simp only[Oper.upon]
   case value u=>exact key u w' h
   case skip=>exact key undef w' h
   case enter f args=>exact h.mono fun e w'' ⟨u,he,hC'⟩=>by subst he;exact key u w'' hC'
  |halt x w' =>exact h.elim
theorem wp_region_choice{id:Nat}{Q:Exit→Act→World→Prop}{a:Act}{w:World}{l:List Oper}(C:(Nat→Value)→Array Bool→World→Prop)(n:Nat)(hm:P.follows .mixedOrders =true)(hF:fwdB .any l.toArray=true)(h0:downB .any l.toArray (Array.replicate l.toArray.size false)=true)(hp:plainB l.toArray n=true)(hn:n≤a.tmps.size)
  (hC:C (fun _=>undef) (Array.replicate l.toArray.size false) w.drew) (hs:chSteps P .any l.toArray C a 0 l)
  (h:∀vals L w',(∀i,i<l.toArray.size→L.getD i false=true)→C vals L w'→Q .normal (finA vals 0 l a) w'):(Code.region id l.toArray true).wp P Q a w:=by
 refine wp_region_any hm ?_
 have key:=wpAny_of_choice (P:=P) (md:= .any) (C:=C) hp hn (Q:=Q) (fun {j o} ho=>by have:=chSteps_at hs (j:=j) (o:=o) (by simpa using ho);rwa [Nat.zero_add] at this) (fun vals L w' hd hr hsz hC' =>by
  have hall:=all_done hF hd hr
  obtain⟨M,hM,hM2,e⟩:=finA_actL hp (vals:=vals) (a:=a) l 0 (Array.replicate l.toArray.size false) (fun j=>by simp) (by simp) (by simp) (fun j hj=>absurd hj (by omega))
  rw[actL_none] at e
  rw[actL_congr (M:=M) (fun j hj=>(hall j hj).trans (hM2 j hj).symm),←e]
  exact h vals L w' hall hC') l.toArray.size (fun _=>undef) (Array.replicate l.toArray.size false) w.drew (by simp) (by simp) h0 hC
 rw[actL_none] at key
 exact key
end
end Go.Proofs.YtpdlbmieciabmaaGreatDoor
