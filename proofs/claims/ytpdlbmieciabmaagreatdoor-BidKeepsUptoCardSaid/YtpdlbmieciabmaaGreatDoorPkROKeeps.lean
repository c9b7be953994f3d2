/-What is proved here: 'probitylaw16.BidKeeps' answers true for every way to make a bid and every content,where the arguments are of bulk at most 1048576,and leaves its arguments as they were. No other conditions. -/
import Derived.Test.YtpdlbmieciabmaaGreatDoorPk27
import Derived.Test.YtpdlbmieciabmaaGreatDoorPk30
namespace Go.Proofs.YtpdlbmieciabmaaGreatDoor
open Go.ChangeShapes Go.WideShapes Go.ChangeAt Go.RowKit
set_option maxRecDepth 100000 in
theorem bkeeps_st0{H:Type}{enc:TypeId×Value→H}{w:World}{r:Reach}{b0 base:Nat}{spare:Nat→Bool}{held:Bool}{v:Value}{d:DataW H}{p:List MemPlace}(hv:Value.okWide Tryz.prog w r b0 23 v)(h:DataW.Trod enc Tryz.prog w base spare held 23 v d p):
  ∃(x0:Int) (x1:ByteArray) (x2:Int) (x3:Int),v= .agg #[.int .i64 x0,.string x1,.int .u8 x2,.int .u8 x3]∧d= .agg [.lit (.int .i64 x0),.lit (.string x1.data.toList),.lit (.int .u8 x2),.lit (.int .u8 x3)]∧(-9223372036854775808≤x0∧x0≤9223372036854775807)∧(0≤x2∧x2≤255)∧(0≤x3∧x3≤255):=by
 obtain⟨cs,rfl,hsz⟩:=okWide_struct Tryz.underlying23 hv
 have e0:Tryz.prog.cellsOf 23=4:=by kernel_rfl
 obtain⟨fuel,hf⟩:=h
 obtain⟨xs,n,_,hx,hcl,hlen,hg⟩:=DataW.trod_struct Tryz.underlying23 hf
 rw[e0] at hsz
 obtain⟨l⟩:=cs
 have hl:l.length=4:=hsz
 simp only[Value.cells] at hg
 have e_int:Tryz.prog.cellsOf 3=1:=by kernel_rfl
 have e_string:Tryz.prog.cellsOf 9=1:=by kernel_rfl
 have e_u8:Tryz.prog.cellsOf 5=1:=by kernel_rfl
 match l,hl with
 |[c0,c1,c2,c3],_=>
  match xs,hlen with
  |[y0,y1,y2,y3],_=>
   have h0:=hg 0 _ rfl
   simp[e_int] at h0
   have h1:=hg 1 _ rfl
   simp[e_string] at h1
   have h2:=hg 2 _ rfl
   simp[e_u8] at h2
   have h3:=hg 3 _ rfl
   simp[e_u8] at h3
   obtain⟨s0,k0,g0,w0⟩:=DataW.trod_int Tryz.underlying3 h0
   obtain⟨s1,k1,g1,_⟩:=DataW.trod_string Tryz.underlying9 h1
   obtain⟨s2,k2,g2,w2⟩:=DataW.trod_int Tryz.underlying5 h2
   obtain⟨s3,k3,g3,w3⟩:=DataW.trod_int Tryz.underlying5 h3
   simp only[List.cons.injEq,and_true] at k0 k1 k2 k3
   subst k0 k1 k2 k3
   simp only[Prod.mk.injEq] at hx
   exact⟨s0,s1,s2,s3,rfl,by rw[hx.1];simp only[List.map_cons,List.map_nil,g0,g1,g2,g3],by simpa [Lit.wf,IntKind.min,IntKind.max,IntKind.signed,IntKind.bits] using w0,by simpa [Lit.wf,IntKind.min,IntKind.max,IntKind.signed,IntKind.bits] using w2,by simpa [Lit.wf,IntKind.min,IntKind.max,IntKind.signed,IntKind.bits] using w3⟩
theorem bkeeps_laid(os:Os):laidMet Tryz.prog Rows.bidKeepsUptoRow.laid ((laidWorld os).forCall (fun _ _=>0) ⟨#[],#[.agg #[.int .i64 0,.string ⟨#[]⟩,.int .u8 0,.int .u8 0],.agg #[.slice none 0 0,.slice none 0 0]],[]⟩).memory :=
 laidMet_of_run' 70 (by kernel_rfl) (by kernel_rfl)
theorem bkeeps_reads(os:Os){H:Type}(enc:TypeId×Value→H):∃places,DataW.whole enc Tryz.prog ((laidWorld os).forCall (fun _ _=>0) ⟨#[],#[.agg #[.int .i64 0,.string ⟨#[]⟩,.int .u8 0,.int .u8 0],.agg #[.slice none 0 0,.slice none 0 0]],[]⟩).memory Tryz.f4.params.toList Rows.bidKeepsSpec.vars false #[Value.agg #[.int .i64 0,.string ⟨#[]⟩,.int .u8 0,.int .u8 0],.agg #[.slice none 0 0,.slice none 0 0]].toList 8=some ([.agg [.lit (.int .i64 0),.lit (.string []),.lit (.int .u8 0),.lit (.int .u8 0)],.agg [.nil,.nil]],[],places):=
 ⟨[],by kernel_rfl⟩
set_option maxRecDepth 100000 in
theorem bkeeps_contract(H:Type)(enc:TypeId×Value→H)(W:World)(base:Nat)(args:Array Value)(ds gs:List (DataW H))(before:List MemPlace)
  (hval:∀(j:Nat) t v,Tryz.f4.params[j]? =some t→args[j]? =some v→Value.okWide Tryz.prog W .any base t v)
  (hW:DataW.Whole enc Tryz.prog Tryz.f4.params.toList Rows.bidKeepsSpec.vars false W args.toList ds gs before) (hL:laidMetH Tryz.prog Rows.bidKeepsUptoRow.laid W) (hk:Rows.uptoSmall H (ds++gs)=true) (hS:W.ShapedOpen Tryz.prog):
  Calls Tryz.prog 4 args W fun e W' =>∃v,e= .returned v∧Rows.bidKeepsSpec.post enc Tryz.prog Tryz.f4 false true false false W args v W' :=by
 have hW' :=hW
 obtain⟨p,q,hA0,hV,hpq,hfz,hnd⟩:=hW
 have hA:DataW.TrodAll enc Tryz.prog W 0 (fun _=>true) true Tryz.f4.params.toList args.toList ds p:=hA0
 rw[Tryz.params4] at hA hval
 obtain⟨v0,v1,d0,d1,p0,p1,rfl,rfl,rfl,h0,h1⟩:=trodAll_two hA
 obtain⟨x00,x01,x02,x03,rfl,rfl,b00,b02,b03⟩:=bkeeps_st0 (hval 0 23 v0 rfl rfl) h0
 obtain⟨m02,rfl⟩:∃y:UInt8,x02=(y.toNat:Int):=⟨UInt8.ofNat x02.toNat,by rw[UInt8.toNat_ofNat'];omega⟩
 obtain⟨m03,rfl⟩:∃y:UInt8,x03=(y.toNat:Int):=⟨UInt8.ofNat x03.toNat,by rw[UInt8.toNat_ofNat'];omega⟩
 obtain⟨e1,sl1,ok1⟩:=of_open (hval 1 27 v1 rfl rfl) h1
 have hb:=of_decide_eq_true hk
 have hbb:=hb
 simp only[List.cons_append,List.nil_append,Rows.uptoBulkAll,Rows.uptoBulk] at hbb
 refine(bkeeps_law x00 b00 x01 m02.toNat m03.toNat m02.toNat_lt m03.toNat_lt e1 ok1 _ W (env_of hL hS) (sl1)).mono fun e W' ⟨he,ho⟩=> ?_
 subst he
 exact⟨_,rfl,law_post Law.laidOut (by kernel_rfl) rfl rfl Tryz.underlying4 (fun ds hd=>by match ds,hd with|[_,_],_=>exact⟨rfl,rfl,rfl⟩) hW' (Only.below ho (Nat.le_refl _) (fun _ h=>h.elim))⟩
set_option maxRecDepth 100000 in
theorem bkeeps_lifted(os:Os)(started:os.Started)(H:Type)(enc:TypeId×Value→H)(F:Stop.Interp):
  ReturnsInHanded {} Tryz.checked os 4 .any ((Rows.OpenSpec.upto Rows.bidKeepsSpec).preRow enc Tryz.prog Tryz.f4 Rows.bidKeepsUptoRow.domain false Rows.bidKeepsUptoRow.laid) (((Rows.OpenSpec.upto Rows.bidKeepsSpec).at F).post enc Tryz.prog Tryz.f4 false true false false):=by
 obtain⟨places,hx⟩:=bkeeps_reads os enc
 refine returnsInHanded_of_row (C:=Tryz.checked) (s:=Rows.OpenSpec.upto Rows.bidKeepsSpec) Law.own started (by kernel_rfl) Tryz.func4
  (witness_row_at (enc:=enc) (C:=Tryz.checked) false (laidWorld os) #[.agg #[.int .i64 0,.string ⟨#[]⟩,.int .u8 0,.int .u8 0],.agg #[.slice none 0 0,.slice none 0 0]] rfl (by kernel_rfl) (by kernel_rfl) (by kernel_rfl)
   (OpenSpec.preRow_of_cond 8 hx (by kernel_rfl) (fun k hk=>by cases hk;kernel_rfl) (by kernel_rfl) (bkeeps_laid os))) ?_
 intro W base args ds gs before hval hW _ hcond _ hL hS _
 exact bkeeps_contract H enc W base args ds gs before hval hW hL (hcond _ rfl) hS
theorem bkeeps_saidUpto:Rows.BidKeepsUptoSaid:=
 OpenClaim.holds_of_cond 4 Tryz.f4 rfl rfl rfl rfl rfl rfl rfl ⟨rfl,rfl,rfl,rfl,rfl⟩ rfl rfl rfl rfl rfl (by kernel_rfl) Tryz.func4 (by kernel_rfl)
  (of_decide_eq_true (by kernel_rfl)) (by unfold Func.isWrapper;first|(rw[if_pos (by decide+kernel)];kernel_rfl)|(rw[if_neg (by decide+kernel)];exact⟨rfl,rfl⟩))
  (fun os started H enc _ F=>by rw[OpenClaim.pre_eq_preRow];exact bkeeps_lifted os started H enc F)
theorem bkeeps_plain(f:FuncId)(fn:Func)(hf:Tryz.pinned.checked.prog.funcNamed "probity/probitylaw16.BidKeeps" =some f)(hfn:Tryz.pinned.checked.prog.funcs[f]? =some fn):
  true=Tryz.pinned.checked.prog.looks []∧∀(j:Nat) t,fn.params[j]? =some t→Tryz.pinned.checked.prog.wantsStandIn t=false:=by
 obtain rfl:f=4:=Option.some.inj ((show Tryz.prog.funcNamed "probity/probitylaw16.BidKeeps" =some 4 by kernel_rfl).symm.trans hf) |>.symm
 obtain rfl:fn=Tryz.f4:=(Option.some.inj (Tryz.func4.symm.trans hfn)).symm
 refine⟨by kernel_rfl,fun j t ht=> ?_⟩
 rw[Tryz.params4] at ht
 have ht' :t=23∨t=27:=by simpa using Array.mem_of_getElem? ht
 rcases ht' with rfl|rfl
 ·exact(show Tryz.prog.wantsStandIn 23=false by kernel_rfl)
 ·exact(show Tryz.prog.wantsStandIn 27=false by kernel_rfl)
theorem bkeeps_cardUpto:Rows.BidKeepsUptoCardSaid:=
 Claim7.holds_tied_plain_at .later [] _ _ _ _ bkeeps_saidUpto (fun _ h=>by cases h) (by kernel_rfl) (fun _ h=>by cases h) bidKeepsUpto_row_tie rfl ⟨rfl,rfl⟩ (by kernel_rfl) rfl bkeeps_plain (by kernel_rfl)
end Go.Proofs.YtpdlbmieciabmaaGreatDoor
