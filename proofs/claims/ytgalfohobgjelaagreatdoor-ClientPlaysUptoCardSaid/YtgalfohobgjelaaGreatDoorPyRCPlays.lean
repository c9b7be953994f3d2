/-What is proved here: 'probitylaw31.ClientPlays' answers true for every world and all acts,where the arguments are of bulk at most 1048576,and leaves its arguments as they were. No other conditions. -/
import Derived.Test.YtgalfohobgjelaaGreatDoorPy36
set_option maxRecDepth 100000
set_option maxHeartbeats 8000000
namespace Go.Proofs.YtgalfohobgjelaaGreatDoor
section
open Go.ChangeShapes Go.WideShapes Go.ChangeAt Go.RowKit
theorem cplays_laid(os:Os):laidMet Tryz.prog Rows.clientPlaysUptoRow.laid ((ΩgD os).forCall (fun _ _=>0) ⟨#[],#[.agg #[.int .u8 0,.slice none 0 0,.int .u8 0],.slice none 0 0],[]⟩).memory :=
 laidMet_of_run' 70 (by kernel_rfl) (by kernel_rfl)
theorem cplays_reads(os:Os){H:Type}(enc:TypeId×Value→H):∃places,DataW.whole enc Tryz.prog ((ΩgD os).forCall (fun _ _=>0) ⟨#[],#[.agg #[.int .u8 0,.slice none 0 0,.int .u8 0],.slice none 0 0],[]⟩).memory Tryz.f7.params.toList Rows.clientPlaysSpec.vars false #[Value.agg #[.int .u8 0,.slice none 0 0,.int .u8 0],.slice none 0 0].toList 8=some ([.agg [.lit (.int .u8 0),.nil,.lit (.int .u8 0)],.nil],[],places):=
 ⟨[],by kernel_rfl⟩
theorem cplays_contract(H:Type)(enc:TypeId×Value→H)(W:World)(base:Nat)(args:Array Value)(ds gs:List (DataW H))(before:List MemPlace)
  (hval:∀(j:Nat) t v,Tryz.f7.params[j]? =some t→args[j]? =some v→Value.okWide Tryz.prog W .any base t v)
  (hW:DataW.Whole enc Tryz.prog Tryz.f7.params.toList Rows.clientPlaysSpec.vars false W args.toList ds gs before) (hL:laidMetH Tryz.prog Rows.clientPlaysUptoRow.laid W) (hk:Rows.uptoSmall H (ds++gs)=true) (_hS:W.ShapedOpen Tryz.prog):
  Calls Tryz.prog 7 args W fun e W' =>∃v,e= .returned v∧Rows.clientPlaysSpec.post enc Tryz.prog Tryz.f7 false true false false W args v W' :=by
 have hW' :=hW
 obtain⟨p,q,hA0,hV,hpq,hfz,hnd⟩:=hW
 have hA:DataW.TrodAll enc Tryz.prog W 0 (fun _=>true) true Tryz.f7.params.toList args.toList ds p:=hA0
 rw[Tryz.params7] at hA hval
 obtain⟨v0,v1,d0,d1,p0,p1,rfl,rfl,rfl,h0,h1⟩:=trodAll_two hA
 obtain⟨e0,kA0,kc0,rfl,ok0,kd0,kl0⟩:=wd_open (hval 0 24 v0 rfl rfl) h0
 obtain⟨L1,sl1,ok1⟩:=acts_open (hval 1 65 v1 rfl rfl) h1
 have hb:=Ωop hk
 refine(plays_law e0 ok0 kA0 kc0 L1 ok1 _ W (sl1) kd0 (Ωnz (Ωnz kl0 (Ωnz (ΩiF (by simp)) hb)) (by omega)) (table hL)).mono fun e W' ⟨he,ho⟩=> ?_
 subst he
 exact⟨_,rfl,law_post Law.laidOut (by kernel_rfl) rfl rfl Tryz.underlying4 (fun ds hd=>by match ds,hd with|[_,_],_=>exact⟨rfl,rfl,rfl⟩) hW' (Only.below ho (Ωnv _) (fun _ h=>h.elim))⟩
theorem cplays_lifted(os:Os)(started:os.Started)(H:Type)(enc:TypeId×Value→H)(F:Stop.Interp):
  ReturnsInHanded {} Tryz.checked os 7 .any ((Rows.OpenSpec.upto Rows.clientPlaysSpec).preRow enc Tryz.prog Tryz.f7 Rows.clientPlaysUptoRow.domain false Rows.clientPlaysUptoRow.laid) (((Rows.OpenSpec.upto Rows.clientPlaysSpec).at F).post enc Tryz.prog Tryz.f7 false true false false):=by
 obtain⟨places,hx⟩:=cplays_reads os enc
 refine returnsInHanded_of_row (C:=Tryz.checked) (s:=Rows.OpenSpec.upto Rows.clientPlaysSpec) Law.own started (by kernel_rfl) Tryz.func7
  (witness_row_at (enc:=enc) (C:=Tryz.checked) false (ΩgD os) #[.agg #[.int .u8 0,.slice none 0 0,.int .u8 0],.slice none 0 0] rfl (by kernel_rfl) (by kernel_rfl) (by kernel_rfl)
   (OpenSpec.preRow_of_cond 8 hx (by kernel_rfl) (fun k hk=>by cases hk;kernel_rfl) (by kernel_rfl) (cplays_laid os))) ?_
 intro W base args ds gs before hval hW _ hcond _ hL hS _
 exact cplays_contract H enc W base args ds gs before hval hW hL (hcond _ rfl) hS
theorem cplays_saidUpto:Rows.ClientPlaysUptoSaid:=
 OpenClaim.holds_of_cond 7 Tryz.f7 rfl rfl rfl rfl rfl rfl rfl ⟨rfl,rfl,rfl,rfl,rfl⟩ rfl rfl rfl rfl rfl (by kernel_rfl) Tryz.func7 (by kernel_rfl)
  (Ωop (by kernel_rfl)) (by unfold Func.isWrapper;first|(rw[ΩnV (by decide+kernel)];kernel_rfl)|(rw[ΩnU (by decide+kernel)];exact⟨rfl,rfl⟩))
  (fun os started H enc _ F=>by rw[OpenClaim.pre_eq_preRow];exact cplays_lifted os started H enc F)
theorem cplays_plain(f:FuncId)(fn:Func)(hf:Tryz.pinned.checked.prog.funcNamed "probity/probitylaw31.ClientPlays" =some f)(hfn:Tryz.pinned.checked.prog.funcs[f]? =some fn):
  false=Tryz.pinned.checked.prog.looks []∧∀(j:Nat) t,fn.params[j]? =some t→Tryz.pinned.checked.prog.wantsStandIn t=false:=by
 obtain rfl:f=7:=Option.some.inj ((show Tryz.prog.funcNamed "probity/probitylaw31.ClientPlays" =some 7 by kernel_rfl).symm.trans hf) |>.symm
 obtain rfl:fn=Tryz.f7:=(Option.some.inj (Tryz.func7.symm.trans hfn)).symm
 refine⟨by kernel_rfl,fun j t ht=> ?_⟩
 rw[Tryz.params7] at ht
 have ht' :t=24∨t=65:=by simpa using Array.mem_of_getElem? ht
 rcases ht' with rfl|rfl
 ·exact(show Tryz.prog.wantsStandIn 24=false by kernel_rfl)
 ·exact(show Tryz.prog.wantsStandIn 65=false by kernel_rfl)
theorem cplays_cardUpto:Rows.ClientPlaysUptoCardSaid:=
 Claim7.holds_tied_plain_at .later [] _ _ _ _ cplays_saidUpto (fun _ h=>by cases h) (by kernel_rfl) (fun _ h=>by cases h) clientPlaysUpto_row_tie rfl ⟨rfl,rfl⟩ (by kernel_rfl) rfl cplays_plain (by kernel_rfl)
#print axioms cplays_cardUpto
end
end Go.Proofs.YtgalfohobgjelaaGreatDoor
