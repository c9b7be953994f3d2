/- What is proved here: 'probitylaw31.ClientKeeps' answers true for every world and all acts,where the arguments are of bulk at most 1048576,and leaves its arguments as they were. No other conditions. -/
import Derived.Test.YtgalfohobgjelaaGreatDoorKp35
import Derived.Test.YtgalfohobgjelaaGreatDoorKp36
namespace Go.Proofs.YtgalfohobgjelaaGreatDoor
open Go.ChangeShapes Go.WideShapes Go.ChangeAt Go.RowKit
theorem ckeeps_laid (os:Os):laidMet Tryz.prog Rows.clientKeepsUptoRow.laid ((laidWorld os).forCall (fun _ _=>0) ⟨#[], #[.agg #[.int .u8 0,.slice none 0 0,.int .u8 0],.slice none 0 0], []⟩).memory:=
 laidMet_of_run' 70 (by kernel_rfl) (by kernel_rfl)
theorem ckeeps_reads (os:Os) {H:Type} (enc:TypeId×Value→H):∃places,DataW.whole enc Tryz.prog ((laidWorld os).forCall (fun _ _=>0) ⟨#[], #[.agg #[.int .u8 0,.slice none 0 0,.int .u8 0],.slice none 0 0], []⟩).memory Tryz.f10.params.toList Rows.clientKeepsSpec.vars false #[Value.agg #[.int .u8 0,.slice none 0 0,.int .u8 0],.slice none 0 0].toList 8=some ([.agg [.lit (.int .u8 0),.nil,.lit (.int .u8 0)],.nil], [],places):=
 ⟨[],by kernel_rfl⟩
set_option maxRecDepth 100000 in
theorem ckeeps_contract (H:Type) (enc:TypeId×Value→H) (W:World) (base:Nat) (args:Array Value) (ds gs:List (DataW H)) (before:List MemPlace)
  (hval:∀(j:Nat) t v,Tryz.f10.params[j]? =some t→args[j]? =some v→Value.okWide Tryz.prog W .any base t v)
  (hW:DataW.Whole enc Tryz.prog Tryz.f10.params.toList Rows.clientKeepsSpec.vars false W args.toList ds gs before) (hL:laidMetH Tryz.prog Rows.clientKeepsUptoRow.laid W) (hk:Rows.uptoSmall H (ds++gs)=true) (_hS:W.ShapedOpen Tryz.prog):
  Calls Tryz.prog 10 args W fun e W'=> ∃v,e= .returned v∧Rows.clientKeepsSpec.post enc Tryz.prog Tryz.f10 false true false false W args v W':=by
 have hW':=hW
 obtain⟨p,q,hA0,hV,hpq,hfz,hnd⟩:=hW
 have hA:DataW.TrodAll enc Tryz.prog W 0 (fun _=>true) true Tryz.f10.params.toList args.toList ds p:=hA0
 rw [Tryz.params10] at hA hval
 obtain⟨v0,v1,d0,d1,p0,p1,rfl,rfl,rfl,h0,h1⟩:=trodAll_two hA
 obtain⟨e0,kA0,kc0,rfl,ok0,kd0,kl0⟩:=wd_open (hval 0 24 v0 rfl rfl) h0
 obtain⟨L1,sl1,ok1⟩:=acts_open (hval 1 65 v1 rfl rfl) h1
 have hb:=of_decide_eq_true hk
 refine(keeps_law e0 ok0 kA0 kc0 L1 ok1 _ W (sl1) kd0 (Nat.le_trans (Nat.le_trans kl0 (Nat.le_trans (bulk_mem (by simp)) hb)) (by omega)) (table hL)).mono fun e W' ⟨he,ho⟩=> ?_
 subst he
 exact⟨_,rfl,law_post Law.laidOut (by kernel_rfl) rfl rfl Tryz.underlying4 (fun ds hd=>by match ds,hd with| [_,_],_=>exact⟨rfl,rfl,rfl⟩) hW' (Only.below ho (Nat.le_refl _) (fun _ h=>h.elim))⟩
set_option maxRecDepth 100000 in
theorem ckeeps_lifted (os:Os) (started:os.Started) (H:Type) (enc:TypeId×Value→H) (F:Stop.Interp):
  ReturnsInHanded {} Tryz.checked os 10 .any ((Rows.OpenSpec.upto Rows.clientKeepsSpec).preRow enc Tryz.prog Tryz.f10 Rows.clientKeepsUptoRow.domain false Rows.clientKeepsUptoRow.laid) (((Rows.OpenSpec.upto Rows.clientKeepsSpec).at F).post enc Tryz.prog Tryz.f10 false true false false):=by
 obtain⟨places,hx⟩:=ckeeps_reads os enc
 refine returnsInHanded_of_row (C:=Tryz.checked) (s:=Rows.OpenSpec.upto Rows.clientKeepsSpec) Law.own started (by kernel_rfl) Tryz.func10
  (witness_row_at (enc:=enc) (C:=Tryz.checked) false (laidWorld os) #[.agg #[.int .u8 0,.slice none 0 0,.int .u8 0],.slice none 0 0] rfl (by kernel_rfl) (by kernel_rfl) (by kernel_rfl)
   (OpenSpec.preRow_of_cond 8 hx (by kernel_rfl) (fun k hk=>by cases hk;kernel_rfl) (by kernel_rfl) (ckeeps_laid os))) ?_
 intro W base args ds gs before hval hW _ hcond _ hL hS _
 exact ckeeps_contract H enc W base args ds gs before hval hW hL (hcond _ rfl) hS
theorem ckeeps_saidUpto:Rows.ClientKeepsUptoSaid:=
 OpenClaim.holds_of_cond 10 Tryz.f10 rfl rfl rfl rfl rfl rfl rfl ⟨rfl,rfl,rfl,rfl,rfl⟩ rfl rfl rfl rfl rfl (by kernel_rfl) Tryz.func10 (by kernel_rfl)
  (of_decide_eq_true (by kernel_rfl)) (by unfold Func.isWrapper;first|(rw [if_pos (by decide+kernel)];kernel_rfl)|(rw [if_neg (by decide+kernel)];exact⟨rfl,rfl⟩))
  (fun os started H enc _ F=>by rw [OpenClaim.pre_eq_preRow];exact ckeeps_lifted os started H enc F)
theorem ckeeps_plain (f:FuncId) (fn:Func) (hf:Tryz.pinned.checked.prog.funcNamed "probity/probitylaw31.ClientKeeps" =some f) (hfn:Tryz.pinned.checked.prog.funcs[f]? =some fn):
  false=Tryz.pinned.checked.prog.looks []∧∀(j:Nat) t,fn.params[j]? =some t→Tryz.pinned.checked.prog.wantsStandIn t=false:=by
 obtain rfl:f=10:=Option.some.inj ((show Tryz.prog.funcNamed "probity/probitylaw31.ClientKeeps" =some 10 by kernel_rfl).symm.trans hf)|>.symm
 obtain rfl:fn=Tryz.f10:=(Option.some.inj (Tryz.func10.symm.trans hfn)).symm
 refine⟨by kernel_rfl,fun j t ht=> ?_⟩
 rw [Tryz.params10] at ht
 have ht':t=24∨t=65:=by simpa using Array.mem_of_getElem? ht
 rcases ht' with rfl|rfl
 ·exact(show Tryz.prog.wantsStandIn 24=false by kernel_rfl)
 ·exact(show Tryz.prog.wantsStandIn 65=false by kernel_rfl)
theorem ckeeps_cardUpto:Rows.ClientKeepsUptoCardSaid:=
 Claim7.holds_tied_plain_at .later [] _ _ _ _ ckeeps_saidUpto (fun _ h=>by cases h) (by kernel_rfl) (fun _ h=>by cases h) clientKeepsUpto_row_tie rfl ⟨rfl,rfl⟩ (by kernel_rfl) rfl ckeeps_plain (by kernel_rfl)
#print axioms ckeeps_cardUpto
end Go.Proofs.YtgalfohobgjelaaGreatDoor
