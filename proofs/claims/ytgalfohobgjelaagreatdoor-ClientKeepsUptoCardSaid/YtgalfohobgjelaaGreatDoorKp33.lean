/- What is proved here:several parts. two clients and what lies between:the calls of one leave the other,and what lies between,as it is. Conditions:those of the calls. · a call of the law,carried out by one of two clients. Conditions:the call is well;the table of powers of ten lies. · two equal lists of blames are the same to the reference's comparison. No conditions. · rows whose elements are made zero;slices of acts. No conditions. · two roots differ,by the kernel;the votes that the check's client takes,and whom it blames;error numbers of the laws. No conditions. -/
import Derived.Test.YtgalfohobgjelaaGreatDoorKp09
import Derived.Test.YtgalfohobgjelaaGreatDoorKp23
import Derived.Test.YtgalfohobgjelaaGreatDoorKp30
import Derived.Test.YtgalfohobgjelaaGreatDoorKp31
import Derived.Test.YtgalfohobgjelaaGreatDoorKp32
import Derived.BigQuiet
namespace Go.Proofs.YtgalfohobgjelaaGreatDoor
open Go.RowKit Go.Shelf
def TwoG (w0:World) (base lo mid C1 C2:Nat) (s1 s2:Vw) (W:World):Prop:=
 ∃c d:Cli,(c.C=C1∧c.vw=s1∧CliAt W base c∧c.seen=c.votes)∧(d.C=C2∧d.vw=s2∧CliAt W base d∧d.seen=d.votes)∧(∀k,d.foot k→¬c.foot k)∧(∀k,(c.foot k∨d.foot k)→k<lo∨mid≤k)∧base≤W.heap.size∧mid≤W.heap.size∧Only NoneOf w0 W∧w0.heap.size≤base
def NearG (base lo mid:Nat) (W W':World):Prop:=∃S:Nat→Prop,Only S W W'∧∀k,S k→base≤k∧(k<lo∨mid≤k)
def InG (lo mid:Nat) (v:Value):Prop:=∀a n cap,v= .slice (some a) n cap→lo≤a.block∧a.block<mid
section
variable {w0:World} {base lo mid C1 C2:Nat} {s1 s2:Vw} {W W':World}
theorem InG.apart {c:Cli} {v:Value} (h:InG lo mid v) (hf:∀k,c.foot k→k<lo∨mid≤k):ApartC c v:=fun a n cap e hk=>by
 have h1:=h a n cap e
 have h2:=hf _ hk
 omega
theorem NearG.blk (h:NearG base lo mid W W') {g:Nat} {t:TypeId} {cs:Array Value} (hb:Blk W g t cs) (hg:g<base∨(lo≤g∧g<mid)):Blk W' g t cs:=by
 obtain⟨S,ho,hS⟩:=h
 exact hb.only ho (fun e=>by have:=hS g e;omega)
theorem NearG.own (h:NearG base lo mid W W') {b n size:Nat} {e:TypeId} {v:Value} {xs:List Value} (hb:W.ownsRow b e size v n xs) (hg:InG lo mid v):W'.ownsRow b e size v n xs:=by
 obtain⟨S,ho,hS⟩:=h
 refine own_only hb ho (fun k hk e=> ?_)
 rcases hb.2 with⟨rfl,_⟩|⟨g,cap,cur,rfl,_⟩
 ·simp [Value.ownBlock] at hk
 ·have h1:g=k:=by simpa [Value.ownBlock] using hk
  have h2:=hg ⟨g,0,none⟩ _ _ rfl
  have h3:=hS k e
  simp only at h2
  omega
theorem TwoG.swap (h:TwoG w0 base lo mid C1 C2 s1 s2 W):TwoG w0 base lo mid C2 C1 s2 s1 W:=by
 obtain⟨c,d,hc,hd,hx,hg,h1,h2,h3,h4⟩:=h
 exact⟨d,c,hd,hc,fun k h h'=>hx k h' h,fun k hk=>hg k hk.symm,h1,h2,h3,h4⟩
theorem TwoG.keep (h:TwoG w0 base lo mid C1 C2 s1 s2 W) (ho:Only NoneOf W W'):TwoG w0 base lo mid C1 C2 s1 s2 W':=by
 obtain⟨c,d,⟨c1,c2,c3,c4⟩,⟨d1,d2,d3,d4⟩,hx,hg,h1,h2,h3,h4⟩:=h
 exact⟨c,d,⟨c1,c2,c3.nn ho,c4⟩,⟨d1,d2,d3.nn ho,d4⟩,hx,hg,Nat.le_trans h1 ho.size,Nat.le_trans h2 ho.size,h3.trans ho,h4⟩
theorem TwoG.far {S:Nat→Prop} (h:TwoG w0 base lo mid C1 C2 s1 s2 W) (ho:Only S W W') (hS:∀k,S k→(k<base∨(lo≤k∧k<mid))∧w0.heap.size≤k):TwoG w0 base lo mid C1 C2 s1 s2 W':=by
 obtain⟨c,d,⟨c1,c2,c3,c4⟩,⟨d1,d2,d3,d4⟩,hx,hg,h1,h2,h3,h4⟩:=h
 exact⟨c,d,⟨c1,c2,c3.keep ho (fun k hk hs=>by have:=(c3.foot_in hk).1;have:=hg k (.inl hk);have:=hS k hs;omega),c4⟩,⟨d1,d2,d3.keep ho (fun k hk hs=>by have:=(d3.foot_in hk).1;have:=hg k (.inr hk);have:=hS k hs;omega),d4⟩,hx,hg,Nat.le_trans h1 ho.size,Nat.le_trans h2 ho.size,h3.trans' ho (fun k hk hs=>by have:=hS k hs;omega),h4⟩
theorem TwoC.gap {top:Nat} (h:TwoC w0 base C1 C2 top s1 s2 W) (ho:Only NoneOf W W'):TwoG w0 base top W'.heap.size C1 C2 s1 s2 W':=by
 obtain⟨c,d,⟨c1,c2,c3,c4,c5⟩,⟨d1,d2,d3,d4,d5⟩,hx,h1,h2,h3,h4⟩:=h
 exact⟨c,d,⟨c1,c2,c3.nn ho,c4⟩,⟨d1,d2,d3.nn ho,d4⟩,hx,fun k hk=> .inl (by rcases hk with h|h;exact c5 k h;exact d5 k h),Nat.le_trans h1 ho.size,Nat.le_refl _,h3.trans ho,h4⟩
theorem TwoG.two (h:TwoG w0 base lo mid C1 C2 s1 s2 W):TwoC w0 base C1 C2 W.heap.size s1 s2 W:=by
 obtain⟨c,d,⟨c1,c2,c3,c4⟩,⟨d1,d2,d3,d4⟩,hx,_,h1,_,h3,h4⟩:=h
 exact⟨c,d,⟨c1,c2,c3,c4,fun k hk=> (c3.foot_in hk).2⟩,⟨d1,d2,d3,d4,fun k hk=> (d3.foot_in hk).2⟩,hx,h1,Nat.le_refl _,h3,h4⟩
theorem TwoG.step {c d c':Cli} (hc:CliAt W base c) (hd:d.C=C2∧d.vw=s2∧CliAt W base d∧d.seen=d.votes) (hx:∀k,d.foot k→¬c.foot k) (hg:∀k,(c.foot k∨d.foot k)→k<lo∨mid≤k) (hb:base≤W.heap.size) (hm:mid≤W.heap.size) (h0:Only NoneOf w0 W) (hw:w0.heap.size≤base) (hC:c'.C=C1) (hst:CliStep W W' c c') (hc':CliAt W' base c') (hs:c'.seen=c'.votes):TwoG w0 base lo mid C1 C2 c'.vw s2 W'∧NearG base lo mid W W':=by
 obtain⟨d1,d2,d3,d4⟩:=hd
 obtain⟨o1,o2⟩:=hst.other d3 hx
 refine⟨⟨c',d,⟨hC,rfl,hc',hs⟩,⟨d1,d2,o1,d4⟩,o2,fun k hk=> ?_,Nat.le_trans hb hst.1.size,Nat.le_trans hm hst.1.size,(hst.near hc).only h0 hw,hw⟩,c.foot,hst.1,fun k hk=> ⟨(hc.foot_in hk).1,hg k (.inl hk)⟩⟩
 rcases hk with hk|hk
 ·rcases hst.2 k hk with h1|h1
  ·exact hg k (.inl h1)
  ·exact .inr (Nat.le_trans hm h1)
 ·exact hg k (.inr hk)
end
theorem gap_head (w0:World) (ht:Tab w0) {base lo mid C1 C2:Nat} {s s2:Vw} (hP:PersOk s.P) (hlen:s.P.length≤1000) (hsm:SmallH s.head) (L:List Vt) (hok:VtsOk L) (hsv:SmallV L) (hL:L.length≤1000) (hn:s.votes.length≤50000) (sv:Value) (Q:List Hs) (hqok:HsOk Q) (hQ:Q.length≤100000) (qv:Value) (w:World) (h:TwoG w0 base lo mid C1 C2 s s2 w) (hs:VtSl w sv L) (hsa:InG lo mid sv) (hq:HaSl w qv Q) (hqa:InG lo mid qv):
  Calls Tryz.prog 19 #[.pointer (some ⟨C1,0,none⟩),sv,qv] w fun e w'=> ∃o,BestL s.P L o∧e= .returned (.int .i64 (hdRes o (knownH s.head) Q))∧TwoG w0 base lo mid C1 C2 { s with votes:=takeV s.votes L,head:=hdNext o (knownH s.head) Q s.head} s2 w'∧NearG base lo mid w w':=by
 obtain⟨c,d,⟨rfl,rfl,c3,c4⟩,hd,hx,hg,h1,h2,h3,h4⟩:=h
 refine(head_any w0 ht c base h4 c4 hP hlen hsm L hok hsv hL hn sv Q hqok hQ qv w h3 c3 h1 hs (hsa.apart (fun k hk=>hg k (.inl hk))) hq (hqa.apart (fun k hk=>hg k (.inl hk)))).mono ?_
 rintro e w' ⟨o,ho,he,vv,mv,hc,hst⟩
 exact⟨o,ho,he,TwoG.step c3 hd hx hg h1 h2 h3 h4 rfl hst hc rfl⟩
theorem gap_receipt (w0:World) (ht:Tab w0) {base lo mid C1 C2:Nat} {s s2:Vw} (hP:PersOk s.P) (hpub:∀p∈s.P,In p.pub) (hlen:s.P.length≤1000) (L:List Vt) (hok:VtsOk L) (hsv:SmallV L) (hL:L.length≤1000) (hn:s.votes.length≤50000) (sv:Value) (e:Ev) (he:e.Ok) (hen:e.name.size≤1000000000) (het:e.text.size≤1000000000) (Q:List Hs) (hqok:HsOk Q) (qv:Value) (w:World) (h:TwoG w0 base lo mid C1 C2 s s2 w) (hs:VtSl w sv L) (hsa:InG lo mid sv) (hq:HaSl w qv Q) (hqa:InG lo mid qv):
  Calls Tryz.prog 30 #[.pointer (some ⟨C1,0,none⟩),.agg (evC e).toArray,qv,sv] w fun e' w'=> ((rcPre s.P s.id s.sent s.text e≠0∧e'= .returned (.int .i64 (rcPre s.P s.id s.sent s.text e))∧TwoG w0 base lo mid C1 C2 s s2 w')∨(rcPre s.P s.id s.sent s.text e=0∧∃o,BestL s.P L o∧e'= .returned (.int .i64 (rcPost o e Q))∧TwoG w0 base lo mid C1 C2 { s with votes:=takeV s.votes L,rc:=s.rc||decide (rcPost o e Q=0)} s2 w'))∧NearG base lo mid w w':=by
 obtain⟨c,d,⟨rfl,rfl,c3,c4⟩,hd,hx,hg,h1,h2,h3,h4⟩:=h
 refine(receipt_any w0 ht c base h4 c4 hP hpub hlen L hok hsv hL hn sv e he hen het Q hqok qv w h3 c3 h1 hs (hsa.apart (fun k hk=>hg k (.inl hk))) hq (hqa.apart (fun k hk=>hg k (.inl hk)))).mono ?_
 rintro e' w' (⟨g1,g2,g3,g4⟩|⟨g1,o,g2,g3,vv,mv,hc,hst⟩)
 ·obtain⟨k1,k2⟩:=TwoG.step c3 hd hx hg h1 h2 h3 h4 rfl g4 g3 c4
  exact⟨.inl ⟨g1,g2,k1⟩,k2⟩
 ·obtain⟨k1,k2⟩:=TwoG.step c3 hd hx hg h1 h2 h3 h4 rfl hst hc rfl
  exact⟨.inr ⟨g1,o,g2,g3,k1⟩,k2⟩
theorem gap_sent (w0:World) (ht:Tab w0) (b:Bd) (hb:b.Ok) {qA pA:Option Addr} {qk pk:Nat} {w:World} (hq:IntSl w qA b.qc) (hp:IntSl w pA b.pc) {base lo mid C1 C2:Nat} {s s2:Vw} (h:TwoG w0 base lo mid C1 C2 s s2 w):
  Calls Tryz.prog 32 #[.pointer (some ⟨C1,0,none⟩),.agg (bdCells b qA pA qk pk)] w fun e w'=>e= .returned (.tuple #[])∧TwoG w0 base lo mid C1 C2 { s with sent:=true,text:=encT b,rc:=false} s2 w'∧NearG base lo mid w w':=by
 obtain⟨c,d,⟨rfl,rfl,c3,c4⟩,hd,hx,hg,h1,h2,h3,h4⟩:=h
 refine(csent_any b hb hq hp (ht.none h3) base c c3).mono ?_
 rintro e w' ⟨g1,g2,g3⟩
 exact⟨g1,TwoG.step c3 hd hx hg h1 h2 h3 h4 rfl g3 g2 c4⟩
theorem best_eq1 {P:List Pers} {L:List Vt} {h:Hd} (hL:∀v∈L,v.head=h) {o o':Option Hd} (ho:BestL P L o) (ho':BestL P L o'):o=o':=by
 rcases best_same hL ho with⟨rfl,h1⟩|⟨rfl,h1⟩ <;>rcases best_same hL ho' with⟨rfl,h2⟩|⟨rfl,h2⟩
 ·rfl
 ·rcases h1 with rfl|h1
  ·exact best_nil _ ho'|>.symm
  ·rw [h1] at h2;cases h2
 ·rcases h2 with rfl|h2
  ·exact best_nil _ ho
  ·rw [h1] at h2;cases h2
 ·rfl
noncomputable def bestO (P:List Pers) (L:List Vt):Option Hd:=Classical.epsilon (fun o=>BestL P L o)
theorem bestO_is {P:List Pers} {L:List Vt} {h:Hd} (hL:∀v∈L,v.head=h) {o:Option Hd} (ho:BestL P L o):o=bestO P L:=best_eq1 hL ho (Classical.epsilon_spec (p:=fun o=>BestL P L o) ⟨o,ho⟩)
noncomputable def doRes (s:Vw) (x:Cl):Int:=
 if x.what=0 then 0
 else if x.what<4 then hdRes (bestO s.P x.votes) (knownH s.head) x.proof
 else if rcPre s.P s.id s.sent s.text x.ev≠0 then rcPre s.P s.id s.sent s.text x.ev
 else rcPost (bestO s.P x.votes) x.ev x.proof
noncomputable def doNext (s:Vw) (x:Cl):Vw:=
 if x.what=0 then { s with sent:=true,text:=encT x.bid,rc:=false}
 else if x.what<4 then { s with votes:=takeV s.votes x.votes,head:=hdNext (bestO s.P x.votes) (knownH s.head) x.proof s.head}
 else if rcPre s.P s.id s.sent s.text x.ev≠0 then s
 else { s with votes:=takeV s.votes x.votes,rc:=s.rc||decide (rcPost (bestO s.P x.votes) x.ev x.proof=0)}
structure Cl.Ok (x:Cl):Prop where
 what:0≤x.what∧x.what<6
 bid:x.bid.Ok
 pc:x.bid.pc= []
 ev:x.ev.Ok
 evn:x.ev.name.size≤1000000000
 evt:x.ev.text.size≤1000000000
 proof:HsOk x.proof
 plen:x.proof.length≤100000
 votes:VtsOk x.votes
 small:SmallV x.votes
 vlen:x.votes.length≤1000
 one:∃h,∀v∈x.votes,v.head=h
end Go.Proofs.YtgalfohobgjelaaGreatDoor
namespace Go.Proofs.YtgalfohobgjelaaGreatDoor
open Go.RowKit Go.Shelf
def bdLd (v:Value):Sem Value:=Instr.loadAt 75 v
theorem bdLd_eq (v:Value):Instr.loadAt 75 v=bdLd v:=rfl
attribute [local go_sem ↓ high] bdLd_eq evLoad_eq
theorem cl_bid {W:World} {g:Nat} {wh:Int} {b:Bd} {A:Option Addr} {k:Nat} {e:Ev} {gv rv:Value} (h:ClB W g wh b A k e gv rv):W.rangeAt g 1 [.int .i64 b.bidder,.string b.qt,.slice A b.qc.length k,.string b.pt,.slice none b.pc.length 0]:=fun j v hj=>by
 have hj2:=(List.getElem?_eq_some_iff.1 hj).1
 simp only [List.length_cons,List.length_nil] at hj2
 refine cl_at h (Eq.trans ?_ hj)
 match j,hj2 with
 |0,_|1,_|2,_|3,_|4,_=>rfl
theorem bd_ld {W:World} {g:Nat} {wh:Int} {b:Bd} {A:Option Addr} {k:Nat} {e:Ev} {gv rv:Value} (h:ClB W g wh b A k e gv rv):(bdLd (.pointer (some ⟨g,1,none⟩))).run Tryz.prog W= .ok (.agg (bdCells b A none k 0)) W:=
 run_loadAt_mid W g 1 75 [.int .i64 b.bidder,.string b.qt,.slice A b.qc.length k,.string b.pt,.slice none b.pc.length 0] _ (cl_bid h) Tryz.underlying75 rfl (by kernel_rfl)
theorem NearG.after {base lo mid:Nat} {w W W':World} (h:NearG base lo mid W W') (ho:Only NoneOf w W):NearG base lo mid w W':=by
 obtain⟨S,h1,h2⟩:=h
 exact⟨S,(ho.mono (fun _ _ e=>e.elim)).trans h1,h2⟩
set_option maxRecDepth 100000 in
set_option maxHeartbeats 2000000 in
theorem gap_do (w0:World) (ht:Tab w0) {base lo mid C1 C2:Nat} {s s2:Vw} (hP:PersOk s.P) (hpub:∀p∈s.P,In p.pub) (hlen:s.P.length≤1000) (hsm:SmallH s.head) (hn:s.votes.length≤40000) (x:Cl) (hx:x.Ok) (A:Option Addr) (k:Nat) (gv rv:Value) (w:World) (h:TwoG w0 base lo mid C1 C2 s s2 w) (hA:IntSl w A x.bid.qc) (hq:HaSl w gv x.proof) (hqa:InG lo mid gv) (hv:VtSl w rv x.votes) (hva:InG lo mid rv):
  Calls Tryz.prog 25 #[.pointer (some ⟨C1,0,none⟩),.agg (clL x.what x.bid A k x.ev gv rv).toArray] w fun e w'=>e= .returned (.int .i64 (doRes s x))∧TwoG w0 base lo mid C1 C2 (doNext s x) s2 w'∧NearG base lo mid w w'∧SmallH (doNext s x).head:=by
 obtain⟨B,eB⟩:∃B,B=w.heap.size:=⟨_,rfl⟩
 have ho:Only NoneOf w (w.alloc (.cells (clL x.what x.bid A k x.ev gv rv).toArray tCl)):=(Only.refl _ _).alloc _
 have h0:ClB (w.alloc (.cells (clL x.what x.bid A k x.ev gv rv).toArray tCl)) B x.what x.bid A k x.ev gv rv∧Only NoneOf w (w.alloc (.cells (clL x.what x.bid A k x.ev gv rv).toArray tCl)):=⟨by rw [eB];exact Blk.new w _ _,ho⟩
 obtain⟨hh,hone⟩:=hx.one
 have hpr:=hx.ev.prev
 obtain⟨z,ez⟩:∃z,z=clL x.what x.bid A k x.ev gv rv:=⟨_,rfl⟩
 have EZ:=Lib.hid ez
 have H0:=Lib.hid h0
 have EB:=Lib.hid eB
 have H:=Lib.hid h
 have HX:=Lib.hid hx
 have HA:=Lib.hid hA
 have HQ:=Lib.hid hq
 have HV:=Lib.hid hv
 have HONE:=Lib.hid hone
 rw [←ez] at H0⊢
 clear h0 ho eB h hx hA hq hv hone ez
 go_enter Tryz.func25,Tryz.ntmps25
 go_upto_region 1 with(fail)
 rw [←EB.out]
 refine wp_gen (fun W=>ClB W B x.what x.bid A k x.ev gv rv∧Only NoneOf w W) (by rw [EZ.out] at H0⊢;exact H0.out) ?_
 clear H0 EZ
 rintro W ⟨hc,ho⟩
 have c0:=cl_what hc
 have c52:=cl_proof hc hpr
 have c53:=cl_votes hc hpr
 have cb:=bd_ld hc
 have ce:=ev_load_at (cl_ev hc) hpr
 have hT:=H.out.keep ho
 have HT:=Lib.hid hT
 have HO:=Lib.hid ho
 have hxw:=HX.out.what
 clear hc ho hT
 by_cases hw0:x.what=0
 ·have d0:(x.what==0)=true:=by rw [beq_iff_eq];exact hw0
  have hr:doRes s x=0∧doNext s x= { s with sent:=true,text:=encT x.bid,rc:=false}:=⟨by unfold doRes;rw [if_pos hw0],by unfold doNext;rw [if_pos hw0]⟩
  have hcall:=gap_sent w0 ht x.bid HX.out.bid (qk:=k) (pk:=0) (HA.out.none_ HO.out) (pA:=none) (.inl HX.out.pc) HT.out
  have HR:=Lib.hid hr
  have HC:=Lib.hid hcall
  clear hr hcall hw0 c52 c53 ce
  go_wp2_with fail
  refine HC.out.mono ?_
  rintro e1 w1 ⟨rfl,hT1,hN1⟩
  have HF:=Lib.hid (And.intro hT1 (hN1.after HO.out))
  clear hT1 hN1
  go_wp2_with fail
  go_ret
  rw [HR.out.1,HR.out.2]
  exact⟨rfl,HF.out.1,HF.out.2,hsm⟩
 ·have d0:(x.what==0)=false:=by rw [beq_eq_false_iff_ne];exact hw0
  by_cases hw4:x.what<4
  ·have d4:decide (x.what<4)=true:=decide_eq_true hw4
   have hr:doRes s x=hdRes (bestO s.P x.votes) (knownH s.head) x.proof∧doNext s x= { s with votes:=takeV s.votes x.votes,head:=hdNext (bestO s.P x.votes) (knownH s.head) x.proof s.head}:=⟨by unfold doRes;rw [if_neg hw0,if_pos hw4],by unfold doNext;rw [if_neg hw0,if_pos hw4]⟩
   have hcall:=gap_head w0 ht hP hlen hsm x.votes HX.out.votes HX.out.small HX.out.vlen (by omega) rv x.proof HX.out.proof HX.out.plen gv W HT.out (HV.out.only HO.out) hva (HQ.out.only HO.out) hqa
   have HR:=Lib.hid hr
   have HC:=Lib.hid hcall
   clear hr hcall hw0 cb ce
   go_wp2_with fail
   refine HC.out.mono ?_
   rintro e1 w1 ⟨o,ho,rfl,hT1,hN1⟩
   have hsh:=hdNext_small (old:=knownH s.head) (Q:=x.proof) HX.out.small hsm ho
   obtain rfl:=bestO_is HONE.out ho
   have HF:=Lib.hid (And.intro hT1 (And.intro (hN1.after HO.out) hsh))
   clear hT1 hN1 ho hsh
   go_wp2_with fail
   go_ret
   rw [HR.out.1,HR.out.2]
   exact⟨rfl,HF.out⟩
  ·have d4:decide (x.what<4)=false:=decide_eq_false hw4
   have hcall:=gap_receipt w0 ht hP hpub hlen x.votes HX.out.votes HX.out.small HX.out.vlen (by omega) rv x.ev HX.out.ev HX.out.evn HX.out.evt x.proof HX.out.proof gv W HT.out (HV.out.only HO.out) hva (HQ.out.only HO.out) hqa
   have HC:=Lib.hid hcall
   have HW0:=Lib.hid hw0
   have HW4:=Lib.hid hw4
   clear hcall hw0 hw4 cb
   go_wp2_with fail
   refine HC.out.mono ?_
   rintro e1 w1 ⟨h1,hN1⟩
   have hfin:e1= .returned (.int .i64 (doRes s x))∧TwoG w0 base lo mid C1 C2 (doNext s x) s2 w1∧SmallH (doNext s x).head:=by
    unfold doRes doNext
    rw [if_neg HW0.out,if_neg (Int.not_lt.2 HW4.out),if_neg HW0.out,if_neg (Int.not_lt.2 HW4.out)]
    rcases h1 with⟨g1,g2,g3⟩|⟨g1,o,g2,g3,g4⟩
    ·rw [if_pos g1,if_pos g1]
     exact⟨g2,g3,hsm⟩
    ·rw [if_neg (fun e=>e g1),if_neg (fun e=>e g1)]
     obtain rfl:=bestO_is HONE.out g2
     exact⟨g3,g4,hsm⟩
   obtain⟨rfl,hT1,hsh⟩:=hfin
   have HF:=Lib.hid (And.intro hT1 (And.intro (hN1.after HO.out) hsh))
   clear hT1 hN1 h1 hsh
   go_wp2_with fail
   go_ret
   exact⟨rfl,HF.out⟩
end Go.Proofs.YtgalfohobgjelaaGreatDoor
namespace Go.Proofs.YtgalfohobgjelaaGreatDoor
open Go.RowKit Go.Shelf
theorem agg_errno (w:World):(isAgg 52).run Tryz.prog w= .ok false w:=by kernel_rfl
theorem fields_blm:(Tryz.prog.fieldsOf 57).toList.map (fun f=> (f.name,f.type,f.offset))= [("Who",3,0),("Kind",52,1),("A",9,2),("B",9,3)]:=by kernel_rfl
set_option maxRecDepth 100000 in
theorem neq_blm (a:Int) (s t:ByteArray) (w:World):(binOp .neq 57 (.agg #[.int .i64 a,.int .i64 44,.string s,.string t]) (.agg #[.int .i64 a,.int .i64 44,.string s,.string t])).run Tryz.prog w= .ok (.bool false) w:=by
 have key:=eq_struct (P:=Tryz.prog) (w:=w) (d:=9999) (t:=57) (xs:= #[.int .i64 a,.int .i64 44,.string s,.string t]) (ys:= #[.int .i64 a,.int .i64 44,.string s,.string t]) (by kernel_rfl) (by kernel_rfl) fields_blm
  (eqT_cons (by decide) (part_one (agg_int w) rfl) (part_one (agg_int w) rfl) (eq_int (d:=9998) a a w)
   (eqT_cons (by decide) (part_one (agg_errno w) rfl) (part_one (agg_errno w) rfl) (run_equalIn_int w 9998 52 .i64 .i64 44 44 Tryz.underlying52)
    (eqT_cons (by decide) (part_one (agg_string w) rfl) (part_one (agg_string w) rfl) (eq_string (d:=9998) s s w)
     (eqT_cons (by decide) (part_one (agg_string w) rfl) (part_one (agg_string w) rfl) (eq_string (d:=9998) t t w) eqT_nil))))
 rw [run_neq_struct,key]
 simp
set_option maxRecDepth 100000 in
set_option maxHeartbeats 2000000 in
theorem same_any (L:List Blm) (av bv:Value) (w:World) (ha:BlSl w av L) (hb:BlSl w bv L):Calls Tryz.prog 35 #[av,bv] w fun e w'=>e= .returned (.bool true)∧Only NoneOf w w':=by
 obtain⟨A,cap,rfl,hlc,hcm,hA⟩:=ha
 obtain⟨A2,cap2,rfl,hlc2,hcm2,hA2⟩:=hb
 have HA:=Lib.hid hA
 have HA2:=Lib.hid hA2
 have hne:((L.length:Int) !=(L.length:Int))=false:=by simp
 clear hA hA2
 go_enter Tryz.func35,Tryz.ntmps35
 go_wp2_with fail
 go_loopw [5] (fun i wr=> ∃k:Nat,i= .int .i64 k∧k≤L.length∧Only NoneOf w wr) (fun i _=>L.length - (intOf i).toNat)
 case atStart=>exact⟨0,rfl,Nat.zero_le _,Only.refl _ _⟩
 case round=>
  obtain⟨k,rfl,hk,ho⟩:=hrel
  have HO:=Lib.hid ho
  clear ho
  by_cases hlt:k<L.length
  ·obtain⟨b,hb⟩:∃b,L[k]? =some b:=⟨_,List.getElem?_eq_getElem hlt⟩
   obtain⟨g,o,e1,_,hr⟩:=HA.out k b hb
   obtain⟨g2,o2,e2,_,hr2⟩:=HA2.out k b hb
   subst e1
   subst e2
   have ik:(k:Int) < (L.length:Int):=by omega
   have ik0:(0:Int)≤(k:Int):=by omega
   have q:=neq_blm b.who (vtT b.a) (vtT b.b)
   obtain⟨sa,esa⟩:∃s,s=vtT b.a:=⟨_,rfl⟩
   obtain⟨sb,esb⟩:∃s,s=vtT b.b:=⟨_,rfl⟩
   have a0:wr.cell? ⟨g,o+k * 4,none⟩=some (.int .i64 b.who):=HO.out.cell_some (hr 0 _ rfl) (fun e=>e)
   have a1:wr.cell? ⟨g,o+k * 4+1,none⟩=some (.int .i64 44):=HO.out.cell_some (hr 1 _ rfl) (fun e=>e)
   have a2:wr.cell? ⟨g,o+k * 4+2,none⟩=some (.string sa):=by rw [esa];exact HO.out.cell_some (hr 2 _ rfl) (fun e=>e)
   have a3:wr.cell? ⟨g,o+k * 4+3,none⟩=some (.string sb):=by rw [esb];exact HO.out.cell_some (hr 3 _ rfl) (fun e=>e)
   have b0:wr.cell? ⟨g2,o2+k * 4,none⟩=some (.int .i64 b.who):=HO.out.cell_some (hr2 0 _ rfl) (fun e=>e)
   have b1:wr.cell? ⟨g2,o2+k * 4+1,none⟩=some (.int .i64 44):=HO.out.cell_some (hr2 1 _ rfl) (fun e=>e)
   have b2:wr.cell? ⟨g2,o2+k * 4+2,none⟩=some (.string sa):=by rw [esa];exact HO.out.cell_some (hr2 2 _ rfl) (fun e=>e)
   have b3:wr.cell? ⟨g2,o2+k * 4+3,none⟩=some (.string sb):=by rw [esb];exact HO.out.cell_some (hr2 3 _ rfl) (fun e=>e)
   rw [←esa,←esb] at q
   clear hr hr2 hb esa esb
   go_upto_region 6 with(fail)
   go_quiet (fail)
   go_wp2_with fail
   go_roundw
   case rel=>exact⟨k+1,by go_num,by omega,HO.out.drewN _⟩
   case measure=>simp [intOf];omega
  ·obtain rfl:k=L.length:=by omega
   go_wp2_with fail
   go_ret
   exact⟨rfl,HO.out⟩
end Go.Proofs.YtgalfohobgjelaaGreatDoor
namespace Go.Proofs.YtgalfohobgjelaaGreatDoor
open Go.RowKit Go.Shelf
def Room (W:World) (g:Nat) (e:TypeId) (m:Nat):Prop:=∃cs:Array Value,Blk W g e cs∧m≤cs.size
theorem Room.lt {W:World} {g:Nat} {e:TypeId} {m:Nat} (h:Room W g e m):g<W.heap.size:=by
 obtain⟨cs,h1,_⟩:=h
 exact h1.lt
theorem Room.there {W:World} {g:Nat} {e:TypeId} {m o n:Nat} (h:Room W g e m) (hn:o+n≤m):W.there g o n:=by
 obtain⟨cs,h1,h2⟩:=h
 exact h1.there o n (Nat.le_trans hn h2)
theorem Room.set {W:World} {g:Nat} {e:TypeId} {m:Nat} (h:Room W g e m) (o:Nat) (vs:List Value) (hn:o+vs.length≤m):Room (W.setCells g o vs) g e m:=by
 obtain⟨cs,h1,h2⟩:=h
 have h3:Blk W g e cs.toList.toArray:=by rw [Array.toArray_toList];exact h1
 have h4:cs.toList.length=cs.size:=Array.length_toList
 have h5:=setMany_eq vs cs.toList o (by omega)
 refine⟨_,Blk.setCells vs o h3,?_⟩
 rw [List.size_toArray,h5]
 simp only [List.length_append,List.length_take,List.length_drop]
 omega
theorem Room.keep {W W':World} {g:Nat} {e:TypeId} {m:Nat} {S:Nat→Prop} (h:Room W g e m) (ho:Only S W W') (hS:¬S g):Room W' g e m:=by
 obtain⟨cs,h1,h2⟩:=h
 exact⟨cs,h1.only ho hS,h2⟩
theorem Room.of_own {W:World} {base g n cap size:Nat} {e:TypeId} {xs:List Value} (h:W.ownsRow base e size (.slice (some ⟨g,0,none⟩) n cap) n xs):Room W g e (n * size)∧base≤g:=by
 rcases h.2 with⟨h0,_⟩|⟨g',cap',cur,hv,hb,hh,hc,hx,hs,ht⟩
 ·simp at h0
 ·simp only [Value.slice.injEq,Option.some.injEq,Addr.mk.injEq,and_true,true_and] at hv
  obtain⟨rfl,rfl⟩:=hv
  exact⟨⟨cur,hh,by rw [hs];exact Nat.mul_le_mul_right _ hc⟩,hb⟩
theorem own_room {W:World} {base n size:Nat} {e:TypeId} {v:Value} {xs:List Value} (h:W.ownsRow base e size v n xs):(n=0∧v= .slice none 0 0)∨∃g cap,v= .slice (some ⟨g,0,none⟩) n cap∧base≤g∧Room W g e (n * size):=by
 rcases h.2 with⟨h0,h1⟩|⟨g,cap,cur,hv,hb,hh,hc,hx,hs,ht⟩
 ·exact .inl ⟨h1,h0⟩
 ·subst hv
  exact .inr ⟨g,cap,rfl,hb,(Room.of_own h).1⟩
def zbVt (parts:Array (Nat×Value)):Sem Value:=Instr.build 43 parts
theorem zbVt_eq (parts:Array (Nat×Value)):Instr.build 43 parts=zbVt parts:=rfl
theorem zbVt_run (W:World):(zbVt #[]).run Tryz.prog W= .ok (.agg vt0C) W:=run_build (P:=Tryz.prog) W 43 _ _ (by kernel_rfl)
def zbHa (parts:Array (Nat×Value)):Sem Value:=Instr.build 35 parts
theorem zbHa_eq (parts:Array (Nat×Value)):Instr.build 35 parts=zbHa parts:=rfl
theorem zbHa_run (W:World):(zbHa #[]).run Tryz.prog W= .ok (hv zeroH) W:=run_build (P:=Tryz.prog) W 35 _ _ (by kernel_rfl)
def zbPs (parts:Array (Nat×Value)):Sem Value:=Instr.build 67 parts
theorem zbPs_eq (parts:Array (Nat×Value)):Instr.build 67 parts=zbPs parts:=rfl
def ps0:List Value:= [.int .i64 0,.int .i64 0,.int .i64 0]
theorem zbPs_run (W:World):(zbPs #[]).run Tryz.prog W= .ok (.agg ps0.toArray) W:=run_build (P:=Tryz.prog) W 67 _ _ (by kernel_rfl)
def zbBl (parts:Array (Nat×Value)):Sem Value:=Instr.build 57 parts
theorem zbBl_eq (parts:Array (Nat×Value)):Instr.build 57 parts=zbBl parts:=rfl
def bl0:List Value:= [.int .i64 0,.int .i64 0,.string ⟨#[]⟩,.string ⟨#[]⟩]
theorem zbBl_run (W:World):(zbBl #[]).run Tryz.prog W= .ok (.agg bl0.toArray) W:=run_build (P:=Tryz.prog) W 57 _ _ (by kernel_rfl)
def psSt (p v:Value):Sem Unit:=Instr.storeAt 67 p v
theorem psSt_eq (p v:Value):Instr.storeAt 67 p v=psSt p v:=rfl
def blSt (p v:Value):Sem Unit:=Instr.storeAt 57 p v
theorem blSt_eq (p v:Value):Instr.storeAt 57 p v=blSt p v:=rfl
theorem room_le {k n size:Nat} (hk:k<n):k * size+size≤n * size:=by
 have h:=Nat.mul_le_mul_right size hk
 rw [Nat.succ_mul] at h
 exact h
theorem vt_zero {W:World} {g n k:Nat} (h:Room W g 43 (n * 36)) (hk:k<n):(vtStore (.pointer (some ⟨g,k * 36,none⟩)) (.agg vt0C)).run Tryz.prog W= .ok () (W.setCells g (k * 36) (vtC vt0)):=
 run_storeAt_mid (P:=Tryz.prog) W g (k * 36) 43 (vtC vt0).toArray (h.there (room_le (size:=36) hk)) (by kernel_rfl) (all_oneCell_toArray (vtC_one vt0))
theorem ha_zero {W:World} {g n k:Nat} (h:Room W g 35 (n * 32)) (hk:k<n):(haStore (.pointer (some ⟨g,k * 32,none⟩)) (hv zeroH)).run Tryz.prog W= .ok () (W.setCells g (k * 32) (zeroH.map bv)):=
 run_storeAt_mid (P:=Tryz.prog) W g (k * 32) 35 (zeroH.map bv).toArray (h.there (room_le (size:=32) hk)) (by kernel_rfl) (all_oneCell_toArray (bvs_one zeroH))
theorem ps_zero {W:World} {g n k:Nat} (h:Room W g 67 (n * 3)) (hk:k<n):(psSt (.pointer (some ⟨g,k * 3,none⟩)) (.agg ps0.toArray)).run Tryz.prog W= .ok () (W.setCells g (k * 3) ps0):=
 run_storeAt_mid (P:=Tryz.prog) W g (k * 3) 67 ps0.toArray (h.there (room_le (size:=3) hk)) (by kernel_rfl) (by simp [ps0,Value.oneCell'])
theorem bl_zero {W:World} {g n k:Nat} (h:Room W g 57 (n * 4)) (hk:k<n):(blSt (.pointer (some ⟨g,k * 4,none⟩)) (.agg bl0.toArray)).run Tryz.prog W= .ok () (W.setCells g (k * 4) bl0):=
 run_storeAt_mid (P:=Tryz.prog) W g (k * 4) 57 bl0.toArray (h.there (room_le (size:=4) hk)) (by kernel_rfl) (by simp [bl0,Value.oneCell'])
def AcSl (w:World) (v:Value) (L:List Ac):Prop:=
 ∃A cap,v= .slice A L.length cap∧L.length≤cap∧cap≤9223372036854775807∧∀(i:Nat) (a:Ac),L[i]? =some a→∃g o,A=some ⟨g,o,none⟩∧g<w.heap.size∧w.rangeAt g (o+i * 9) (acC a).toList
theorem AcSl.only {w w':World} {v:Value} {L:List Ac} (h:AcSl w v L) (ho:Only NoneOf w w'):AcSl w' v L:=by
 obtain⟨A,cap,hv,h1,h2,h3⟩:=h
 refine⟨A,cap,hv,h1,h2,fun i e he=> ?_⟩
 obtain⟨g,o,hA,hg,hr⟩:=h3 i e he
 exact⟨g,o,hA,Nat.lt_of_lt_of_le hg ho.size,range_only hr ho⟩
def acLd (v:Value):Sem Value:=Instr.loadAt 70 v
theorem acLd_eq (v:Value):Instr.loadAt 70 v=acLd v:=rfl
theorem ac_ld {W:World} {g o:Nat} {a:Ac} (h:W.rangeAt g o (acC a).toList):(acLd (.pointer (some ⟨g,o,none⟩))).run Tryz.prog W= .ok (.agg (acC a)) W:=
 run_loadAt_mid W g o 70 (acC a).toList _ h Tryz.underlying70 rfl (by kernel_rfl)
end Go.Proofs.YtgalfohobgjelaaGreatDoor
namespace Go.Proofs.YtgalfohobgjelaaGreatDoor
open Go.RowKit Go.Shelf
set_option maxRecDepth 100000 in
theorem roots_differ:(rootL [[97], [98], [99]]==rootL [[97], [98], [120]])=false:=by decide+kernel
theorem vAt_inj {a b:Hd} {i j:Nat} (h:vAt a i=vAt b j):i=j∧a=b:=by
 have h1:(vAt a i).who=(vAt b j).who:=by rw [h]
 have h2:(vAt a i).head=(vAt b j).head:=by rw [h]
 have h3:(i:Int)=(j:Int):=h1
 exact⟨by omega,h2⟩
theorem eqVt_id (v:Vt):eqVt v v=true:=eqVt_true.2 rfl
theorem eqVt_ix (a b:Hd) {i j:Nat} (h:i≠j):eqVt (vAt a i) (vAt b j)=false:=eqVt_false.2 (fun e=>h (vAt_inj e).1)
theorem eqVt_hd {a b:Hd} (h:a≠b) (i j:Nat):eqVt (vAt a i) (vAt b j)=false:=eqVt_false.2 (fun e=>h (vAt_inj e).2)
section
variable {a b x:Hd} (hab:a≠b) (hax:a≠x) (hbx:b≠x)
theorem take_one (a:Hd):takeV [] [vAt a 1,vAt a 2,vAt a 3]= [vAt a 1,vAt a 2,vAt a 3]:=by
 rw [takeV_fold]
 simp [take1,hasB,eqVt_ix a a (show(2:Nat)≠1 by decide),eqVt_ix a a (show(3:Nat)≠1 by decide),eqVt_ix a a (show(3:Nat)≠2 by decide)]
include hab in
theorem take_two:takeV [vAt a 1,vAt a 2,vAt a 3] [vAt b 1,vAt b 2,vAt b 3]= [vAt a 1,vAt a 2,vAt a 3,vAt b 1,vAt b 2,vAt b 3]:=by
 rw [takeV_fold]
 simp [take1,hasB,eqVt_hd (Ne.symm hab),eqVt_ix b b (show(2:Nat)≠1 by decide),eqVt_ix b b (show(3:Nat)≠1 by decide),eqVt_ix b b (show(3:Nat)≠2 by decide)]
theorem take_again:takeV [vAt a 1,vAt a 2,vAt a 3,vAt b 1,vAt b 2,vAt b 3] [vAt a 1,vAt a 2,vAt a 3]= [vAt a 1,vAt a 2,vAt a 3,vAt b 1,vAt b 2,vAt b 3]:=by
 rw [takeV_fold]
 simp [take1,hasB,eqVt_id]
include hax hbx in
theorem take_three:takeV [vAt a 1,vAt a 2,vAt a 3,vAt b 1,vAt b 2,vAt b 3] [vAt x 2,vAt x 3,vAt x 4]= [vAt a 1,vAt a 2,vAt a 3,vAt b 1,vAt b 2,vAt b 3,vAt x 2,vAt x 3,vAt x 4]:=by
 rw [takeV_fold]
 simp [take1,hasB,eqVt_hd (Ne.symm hax),eqVt_hd (Ne.symm hbx),eqVt_ix x x (show(3:Nat)≠2 by decide),eqVt_ix x x (show(4:Nat)≠2 by decide),eqVt_ix x x (show(4:Nat)≠3 by decide)]
end
theorem offAt_id (k:Nat):(offAt k).id=(k:Int):=rfl
theorem vAt_head (h:Hd) (k:Nat):(vAt h k).head=h:=rfl
section
variable {a b x:Hd} (hab:a.size≠b.size) (hax:a.size≠x.size) (hbx:b.size=x.size) (hne:b≠x)
include hab in
theorem blames_none:blL (setW wd3) [vAt a 1,vAt a 2,vAt a 3,vAt b 1,vAt b 2,vAt b 3]= []:=by
 unfold blL clashL
 rw [offs_setW3]
 simp [clashO,blmOf,cnts_at,firstP_cons,firstP_nil,vAt_head,agT_sizes hab]
include hab hax hbx hne in
theorem blames_two:blL (setW wd3) [vAt a 1,vAt a 2,vAt a 3,vAt b 1,vAt b 2,vAt b 3,vAt x 2,vAt x 3,vAt x 4]= [⟨2,vAt b 2,vAt x 2⟩,⟨3,vAt b 3,vAt x 3⟩]:=by
 unfold blL clashL
 rw [offs_setW3]
 simp [clashO,blmOf,cnts_at,firstP_cons,firstP_nil,vAt_head,agT_sizes hab,agT_sizes hax,agT_roots hbx hne,offAt_id]
end
end Go.Proofs.YtgalfohobgjelaaGreatDoor
