/- What is proved here: 'probitylaw31.ClientFair' answers true for every world,all acts and every number,where the arguments are of bulk at most 1048576,and leaves its arguments as they were. No other conditions. -/
import Derived.Test.YtgalfohobgjelaaGreatDoorFr35
import Derived.Test.YtgalfohobgjelaaGreatDoorFr36
namespace Go.Proofs.YtgalfohobgjelaaGreatDoor
open Go.ChangeShapes Go.WideShapes Go.ChangeAt Go.RowKit
theorem cfair_u8 {a:Int} (h:(Lit.int .u8 a).wf=true):0≤a∧a≤255:=by
 simpa [Lit.wf,IntKind.min,IntKind.max,IntKind.signed,IntKind.bits] using h
theorem cfair_laid (os:Os):laidMet Tryz.prog Rows.clientFairUptoRow.laid ((laidWorld os).forCall (fun _ _=>0) ⟨#[], #[.agg #[.int .u8 0,.slice none 0 0,.int .u8 0],.slice none 0 0,.int .u8 0], []⟩).memory:=
 laidMet_of_run' 70 (by kernel_rfl) (by kernel_rfl)
theorem cfair_reads (os:Os) {H:Type} (enc:TypeId×Value→H):∃places,DataW.whole enc Tryz.prog ((laidWorld os).forCall (fun _ _=>0) ⟨#[], #[.agg #[.int .u8 0,.slice none 0 0,.int .u8 0],.slice none 0 0,.int .u8 0], []⟩).memory Tryz.f6.params.toList Rows.clientFairSpec.vars false #[Value.agg #[.int .u8 0,.slice none 0 0,.int .u8 0],.slice none 0 0,.int .u8 0].toList 8=some ([.agg [.lit (.int .u8 0),.nil,.lit (.int .u8 0)],.nil,.lit (.int .u8 0)], [],places):=
 ⟨[],by kernel_rfl⟩
set_option maxRecDepth 100000 in
theorem cfair_contract (H:Type) (enc:TypeId×Value→H) (W:World) (base:Nat) (args:Array Value) (ds gs:List (DataW H)) (before:List MemPlace)
  (hval:∀(j:Nat) t v,Tryz.f6.params[j]? =some t→args[j]? =some v→Value.okWide Tryz.prog W .any base t v)
  (hW:DataW.Whole enc Tryz.prog Tryz.f6.params.toList Rows.clientFairSpec.vars false W args.toList ds gs before) (hL:laidMetH Tryz.prog Rows.clientFairUptoRow.laid W) (hk:Rows.uptoSmall H (ds++gs)=true) (_hS:W.ShapedOpen Tryz.prog):
  Calls Tryz.prog 6 args W fun e W'=> ∃v,e= .returned v∧Rows.clientFairSpec.post enc Tryz.prog Tryz.f6 false true false false W args v W':=by
 have hW':=hW
 obtain⟨p,q,hA0,hV,hpq,hfz,hnd⟩:=hW
 have hA:DataW.TrodAll enc Tryz.prog W 0 (fun _=>true) true Tryz.f6.params.toList args.toList ds p:=hA0
 rw [Tryz.params6] at hA hval
 obtain⟨v0,v1,v2,d0,d1,d2,p0,p1,p2,rfl,rfl,rfl,h0,h1,h2⟩:=trodAll_three hA
 obtain⟨e0,kA0,kc0,rfl,ok0,kd0,kl0⟩:=wd_open (hval 0 24 v0 rfl rfl) h0
 obtain⟨L1,sl1,ok1⟩:=acts_open (hval 1 65 v1 rfl rfl) h1
 obtain⟨n2,rfl,rfl,_,wk2⟩:=open_int Tryz.underlying5 (hval 2 5 v2 rfl rfl) h2
 obtain⟨a2,b2⟩:=cfair_u8 wk2
 obtain⟨m2,rfl⟩:∃m:Nat,n2=(m:Int):=⟨n2.toNat,by omega⟩
 have hb:=of_decide_eq_true hk
 refine(fair_law e0 ok0 kA0 kc0 L1 ok1 _ m2 (by omega) W (sl1) kd0 (Nat.le_trans (Nat.le_trans kl0 (Nat.le_trans (bulk_mem (by simp)) hb)) (by omega)) (table hL)).mono fun e W' ⟨he,ho⟩=> ?_
 subst he
 exact⟨_,rfl,law_post Law.laidOut (by kernel_rfl) rfl rfl Tryz.underlying4 (fun ds hd=>by match ds,hd with| [_,_,_],_=>exact⟨rfl,rfl,rfl⟩) hW' (Only.below ho (Nat.le_refl _) (fun _ h=>h.elim))⟩
set_option maxRecDepth 100000 in
theorem cfair_lifted (os:Os) (started:os.Started) (H:Type) (enc:TypeId×Value→H) (F:Stop.Interp):
  ReturnsInHanded {} Tryz.checked os 6 .any ((Rows.OpenSpec.upto Rows.clientFairSpec).preRow enc Tryz.prog Tryz.f6 Rows.clientFairUptoRow.domain false Rows.clientFairUptoRow.laid) (((Rows.OpenSpec.upto Rows.clientFairSpec).at F).post enc Tryz.prog Tryz.f6 false true false false):=by
 obtain⟨places,hx⟩:=cfair_reads os enc
 refine returnsInHanded_of_row (C:=Tryz.checked) (s:=Rows.OpenSpec.upto Rows.clientFairSpec) Law.own started (by kernel_rfl) Tryz.func6
  (witness_row_at (enc:=enc) (C:=Tryz.checked) false (laidWorld os) #[.agg #[.int .u8 0,.slice none 0 0,.int .u8 0],.slice none 0 0,.int .u8 0] rfl (by kernel_rfl) (by kernel_rfl) (by kernel_rfl)
   (OpenSpec.preRow_of_cond 8 hx (by kernel_rfl) (fun k hk=>by cases hk;kernel_rfl) (by kernel_rfl) (cfair_laid os))) ?_
 intro W base args ds gs before hval hW _ hcond _ hL hS _
 exact cfair_contract H enc W base args ds gs before hval hW hL (hcond _ rfl) hS
theorem cfair_saidUpto:Rows.ClientFairUptoSaid:=
 OpenClaim.holds_of_cond 6 Tryz.f6 rfl rfl rfl rfl rfl rfl rfl ⟨rfl,rfl,rfl,rfl,rfl⟩ rfl rfl rfl rfl rfl (by kernel_rfl) Tryz.func6 (by kernel_rfl)
  (of_decide_eq_true (by kernel_rfl)) (by unfold Func.isWrapper;first|(rw [if_pos (by decide+kernel)];kernel_rfl)|(rw [if_neg (by decide+kernel)];exact⟨rfl,rfl⟩))
  (fun os started H enc _ F=>by rw [OpenClaim.pre_eq_preRow];exact cfair_lifted os started H enc F)
theorem cfair_plain (f:FuncId) (fn:Func) (hf:Tryz.pinned.checked.prog.funcNamed "probity/probitylaw31.ClientFair" =some f) (hfn:Tryz.pinned.checked.prog.funcs[f]? =some fn):
  false=Tryz.pinned.checked.prog.looks []∧∀(j:Nat) t,fn.params[j]? =some t→Tryz.pinned.checked.prog.wantsStandIn t=false:=by
 obtain rfl:f=6:=Option.some.inj ((show Tryz.prog.funcNamed "probity/probitylaw31.ClientFair" =some 6 by kernel_rfl).symm.trans hf)|>.symm
 obtain rfl:fn=Tryz.f6:=(Option.some.inj (Tryz.func6.symm.trans hfn)).symm
 refine⟨by kernel_rfl,fun j t ht=> ?_⟩
 rw [Tryz.params6] at ht
 have ht':t=24∨t=65∨t=5:=by simpa using Array.mem_of_getElem? ht
 rcases ht' with rfl|rfl|rfl
 ·exact(show Tryz.prog.wantsStandIn 24=false by kernel_rfl)
 ·exact(show Tryz.prog.wantsStandIn 65=false by kernel_rfl)
 ·exact(show Tryz.prog.wantsStandIn 5=false by kernel_rfl)
theorem cfair_cardUpto:Rows.ClientFairUptoCardSaid:=
 Claim7.holds_tied_plain_at .later [] _ _ _ _ cfair_saidUpto (fun _ h=>by cases h) (by kernel_rfl) (fun _ h=>by cases h) clientFairUpto_row_tie rfl ⟨rfl,rfl⟩ (by kernel_rfl) rfl cfair_plain (by kernel_rfl)
#print axioms cfair_cardUpto
end Go.Proofs.YtgalfohobgjelaaGreatDoor
