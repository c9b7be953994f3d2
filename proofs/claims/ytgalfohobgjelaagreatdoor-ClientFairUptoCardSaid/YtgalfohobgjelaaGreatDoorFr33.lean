/- What is proved here:several parts. two clients and what lies between:the calls of one leave the other,and what lies between,as it is. Conditions:those of the calls. · a call of the law,carried out by one of two clients. Conditions:the call is well;the table of powers of ten lies. · a client with a gap in which nothing of it lies;a call of the law,carried out by it. Conditions:the call is well;the table of powers of ten lies. · rows whose elements are made zero;slices of acts. No conditions. · whom a client does not blame:an officer whose right votes are all for heads of one list:plain facts. No conditions. · whether a vote is one of a person that verifies,by the clients' reference. Conditions:the numbers are ints,roots have 32 bytes. · two roots differ,by the kernel;the votes that the check's client takes,and whom it blames;error numbers of the laws. No conditions. -/
import Derived.Test.YtgalfohobgjelaaGreatDoorFr09
import Derived.Test.YtgalfohobgjelaaGreatDoorFr12
import Derived.Test.YtgalfohobgjelaaGreatDoorFr23
import Derived.Test.YtgalfohobgjelaaGreatDoorFr30
import Derived.Test.YtgalfohobgjelaaGreatDoorFr31
import Derived.Test.YtgalfohobgjelaaGreatDoorFr32
import Derived.BigQuiet
namespace Go.Proofs.YtgalfohobgjelaaGreatDoor
open Go.RowKit Go.Shelf
section
variable {w0:World} {base lo mid C1 C2:Nat} {s1 s2:Vw} {W W':World}
end
theorem best_eq1 {P:List Pers} {L:List Vt} {h:Hd} (hL:∀v∈L,v.head=h) {o o':Option Hd} (ho:BestL P L o) (ho':BestL P L o'):o=o':=by
 rcases best_same hL ho with⟨rfl,h1⟩|⟨rfl,h1⟩ <;>rcases best_same hL ho' with⟨rfl,h2⟩|⟨rfl,h2⟩
 ·rfl
 ·rcases h1 with rfl|h1
  ·exact best_nil _ ho'|>.symm
  ·rw [h1] at h2;cases h2
 ·rcases h2 with rfl|h2
  ·exact best_nil _ ho
  ·rw [h1] at h2;cases h2
 ·rfl
noncomputable def bestO (P:List Pers) (L:List Vt):Option Hd:=Classical.epsilon (fun o=>BestL P L o)
theorem bestO_is {P:List Pers} {L:List Vt} {h:Hd} (hL:∀v∈L,v.head=h) {o:Option Hd} (ho:BestL P L o):o=bestO P L:=best_eq1 hL ho (Classical.epsilon_spec (p:=fun o=>BestL P L o) ⟨o,ho⟩)
noncomputable def doRes (s:Vw) (x:Cl):Int:=
 if x.what=0 then 0
 else if x.what<4 then hdRes (bestO s.P x.votes) (knownH s.head) x.proof
 else if rcPre s.P s.id s.sent s.text x.ev≠0 then rcPre s.P s.id s.sent s.text x.ev
 else rcPost (bestO s.P x.votes) x.ev x.proof
noncomputable def doNext (s:Vw) (x:Cl):Vw:=
 if x.what=0 then { s with sent:=true,text:=encT x.bid,rc:=false}
 else if x.what<4 then { s with votes:=takeV s.votes x.votes,head:=hdNext (bestO s.P x.votes) (knownH s.head) x.proof s.head}
 else if rcPre s.P s.id s.sent s.text x.ev≠0 then s
 else { s with votes:=takeV s.votes x.votes,rc:=s.rc||decide (rcPost (bestO s.P x.votes) x.ev x.proof=0)}
structure Cl.Ok (x:Cl):Prop where
 what:0≤x.what∧x.what<6
 bid:x.bid.Ok
 pc:x.bid.pc= []
 ev:x.ev.Ok
 evn:x.ev.name.size≤1000000000
 evt:x.ev.text.size≤1000000000
 proof:HsOk x.proof
 plen:x.proof.length≤100000
 votes:VtsOk x.votes
 small:SmallV x.votes
 vlen:x.votes.length≤1000
 one:∃h,∀v∈x.votes,v.head=h
end Go.Proofs.YtgalfohobgjelaaGreatDoor
namespace Go.Proofs.YtgalfohobgjelaaGreatDoor
open Go.RowKit Go.Shelf
def bdLd (v:Value):Sem Value:=Instr.loadAt 75 v
theorem bdLd_eq (v:Value):Instr.loadAt 75 v=bdLd v:=rfl
attribute [local go_sem ↓ high] bdLd_eq evLoad_eq
theorem cl_bid {W:World} {g:Nat} {wh:Int} {b:Bd} {A:Option Addr} {k:Nat} {e:Ev} {gv rv:Value} (h:ClB W g wh b A k e gv rv):W.rangeAt g 1 [.int .i64 b.bidder,.string b.qt,.slice A b.qc.length k,.string b.pt,.slice none b.pc.length 0]:=fun j v hj=>by
 have hj2:=(List.getElem?_eq_some_iff.1 hj).1
 simp only [List.length_cons,List.length_nil] at hj2
 refine cl_at h (Eq.trans ?_ hj)
 match j,hj2 with
 |0,_|1,_|2,_|3,_|4,_=>rfl
theorem bd_ld {W:World} {g:Nat} {wh:Int} {b:Bd} {A:Option Addr} {k:Nat} {e:Ev} {gv rv:Value} (h:ClB W g wh b A k e gv rv):(bdLd (.pointer (some ⟨g,1,none⟩))).run Tryz.prog W= .ok (.agg (bdCells b A none k 0)) W:=
 run_loadAt_mid W g 1 75 [.int .i64 b.bidder,.string b.qt,.slice A b.qc.length k,.string b.pt,.slice none b.pc.length 0] _ (cl_bid h) Tryz.underlying75 rfl (by kernel_rfl)
end Go.Proofs.YtgalfohobgjelaaGreatDoor
namespace Go.Proofs.YtgalfohobgjelaaGreatDoor
open Go.RowKit Go.Shelf
attribute [local go_sem ↓ high] bdLd_eq evLoad_eq
def HasG (w0:World) (base lo mid C top:Nat) (s:Vw) (W:World):Prop:=
 ∃c:Cli,c.C=C∧c.vw=s∧CliAt W base c∧c.seen=c.votes∧(∀k,c.foot k→k<top∧(k<lo∨mid≤k))∧base≤W.heap.size∧mid≤W.heap.size∧top≤W.heap.size∧Only NoneOf w0 W∧w0.heap.size≤base
def NearH (base lo mid top:Nat) (W W':World):Prop:=∃S:Nat→Prop,Only S W W'∧∀k,S k→base≤k∧k<top∧(k<lo∨mid≤k)
def AbT (top:Nat) (v:Value):Prop:=∀a n cap,v= .slice (some a) n cap→top≤a.block
section
variable {w0:World} {base lo mid C top:Nat} {s:Vw} {W W':World}
theorem AbT.apart {c:Cli} {v:Value} (h:AbT top v) (hf:∀k,c.foot k→k<top):ApartC c v:=fun a n cap e hk=>by
 have h1:=h a n cap e
 have h2:=hf _ hk
 omega
theorem abT_own {b n size:Nat} {e:TypeId} {v:Value} {xs:List Value} (h:W.ownsRow b e size v n xs) (hb:top≤b):AbT top v:=fun a m cap hv=>by
 rcases h.2 with⟨rfl,_⟩|⟨g,cap',cur,rfl,hg,_⟩
 ·cases hv
 ·cases hv
  exact Nat.le_trans hb hg
theorem NearH.blk (h:NearH base lo mid top W W') {g:Nat} {t:TypeId} {cs:Array Value} (hb:Blk W g t cs) (hg:g<base∨top≤g∨(lo≤g∧g<mid)):Blk W' g t cs:=by
 obtain⟨S,ho,hS⟩:=h
 exact hb.only ho (fun e=>by have:=hS g e;omega)
theorem NearH.after {w:World} (h:NearH base lo mid top W W') (ho:Only NoneOf w W):NearH base lo mid top w W':=by
 obtain⟨S,h1,h2⟩:=h
 exact⟨S,(ho.mono (fun _ _ e=>e.elim)).trans h1,h2⟩
theorem HasG.keep (h:HasG w0 base lo mid C top s W) (ho:Only NoneOf W W'):HasG w0 base lo mid C top s W':=by
 obtain⟨c,c1,c2,c3,c4,hg,h1,h2,h5,h3,h4⟩:=h
 exact⟨c,c1,c2,c3.nn ho,c4,hg,Nat.le_trans h1 ho.size,Nat.le_trans h2 ho.size,Nat.le_trans h5 ho.size,h3.trans ho,h4⟩
theorem HasG.only (h:HasG w0 base lo mid C top s W):Only NoneOf w0 W:=by
 obtain⟨c,_,_,_,_,_,_,_,_,h3,_⟩:=h
 exact h3
theorem HasG.tp (h:HasG w0 base lo mid C top s W):top≤W.heap.size:=by
 obtain⟨c,_,_,_,_,_,_,_,h5,_,_⟩:=h
 exact h5
theorem HasG.far {S:Nat→Prop} (h:HasG w0 base lo mid C top s W) (ho:Only S W W') (hS:∀k,S k→(k<base∨top≤k∨(lo≤k∧k<mid))∧w0.heap.size≤k):HasG w0 base lo mid C top s W':=by
 obtain⟨c,c1,c2,c3,c4,hg,h1,h2,h5,h3,h4⟩:=h
 exact⟨c,c1,c2,c3.keep ho (fun k hk hs=>by have:=(c3.foot_in hk).1;have:=hg k hk;have:=hS k hs;omega),c4,hg,Nat.le_trans h1 ho.size,Nat.le_trans h2 ho.size,Nat.le_trans h5 ho.size,h3.trans' ho (fun k hk hs=>by have:=hS k hs;omega),h4⟩
theorem Has.gap (h:Has w0 base C top s W) (ho:Only NoneOf W W'):HasG w0 base top W'.heap.size C top s W':=by
 obtain⟨c,c1,c2,c3,c4,c5,c6,c7,c8,c9⟩:=h
 exact⟨c,c1,c2,c3.nn ho,c4,fun k hk=> ⟨c9 k hk,.inl (c9 k hk)⟩,Nat.le_trans c5 ho.size,Nat.le_refl _,Nat.le_trans c6 ho.size,c7.trans ho,c8⟩
theorem HasG.has (h:HasG w0 base lo mid C top s W):Has w0 base C top s W:=by
 obtain⟨c,c1,c2,c3,c4,hg,h1,h2,h5,h3,h4⟩:=h
 exact⟨c,c1,c2,c3,c4,h1,h5,h3,h4,fun k hk=> (hg k hk).1⟩
theorem HasG.step {c c':Cli} (hc:CliAt W base c) (hg:∀k,c.foot k→k<top∧(k<lo∨mid≤k)) (hb:base≤W.heap.size) (hm:mid≤W.heap.size) (h0:Only NoneOf w0 W) (hw:w0.heap.size≤base) (hC:c'.C=C) (hst:CliStep W W' c c') (hc':CliAt W' base c') (hs:c'.seen=c'.votes):HasG w0 base lo mid C W'.heap.size c'.vw W'∧NearH base lo mid top W W':=by
 refine⟨⟨c',hC,rfl,hc',hs,fun k hk=> ⟨(hc'.foot_in hk).2,?_⟩,Nat.le_trans hb hst.1.size,Nat.le_trans hm hst.1.size,Nat.le_refl _,(hst.near hc).only h0 hw,hw⟩,c.foot,hst.1,fun k hk=> ⟨(hc.foot_in hk).1,(hg k hk).1,(hg k hk).2⟩⟩
 rcases hst.2 k hk with h1|h1
 ·exact(hg k h1).2
 ·exact .inr (Nat.le_trans hm h1)
end
theorem hag_head (w0:World) (ht:Tab w0) {base lo mid C top:Nat} {s:Vw} (hP:PersOk s.P) (hlen:s.P.length≤1000) (hsm:SmallH s.head) (L:List Vt) (hok:VtsOk L) (hsv:SmallV L) (hL:L.length≤1000) (hn:s.votes.length≤50000) (sv:Value) (Q:List Hs) (hqok:HsOk Q) (hQ:Q.length≤100000) (qv:Value) (w:World) (h:HasG w0 base lo mid C top s w) (hs:VtSl w sv L) (hsa:AbT top sv) (hq:HaSl w qv Q) (hqa:AbT top qv):
  Calls Tryz.prog 19 #[.pointer (some ⟨C,0,none⟩),sv,qv] w fun e w'=> ∃o,BestL s.P L o∧e= .returned (.int .i64 (hdRes o (knownH s.head) Q))∧HasG w0 base lo mid C w'.heap.size { s with votes:=takeV s.votes L,head:=hdNext o (knownH s.head) Q s.head} w'∧NearH base lo mid top w w':=by
 obtain⟨c,rfl,rfl,c3,c4,hg,h1,h2,h5,h3,h4⟩:=h
 refine(head_any w0 ht c base h4 c4 hP hlen hsm L hok hsv hL hn sv Q hqok hQ qv w h3 c3 h1 hs (hsa.apart (fun k hk=> (hg k hk).1)) hq (hqa.apart (fun k hk=> (hg k hk).1))).mono ?_
 rintro e w' ⟨o,ho,he,vv,mv,hc,hst⟩
 exact⟨o,ho,he,HasG.step c3 hg h1 h2 h3 h4 rfl hst hc rfl⟩
theorem hag_receipt (w0:World) (ht:Tab w0) {base lo mid C top:Nat} {s:Vw} (hP:PersOk s.P) (hpub:∀p∈s.P,In p.pub) (hlen:s.P.length≤1000) (L:List Vt) (hok:VtsOk L) (hsv:SmallV L) (hL:L.length≤1000) (hn:s.votes.length≤50000) (sv:Value) (e:Ev) (he:e.Ok) (hen:e.name.size≤1000000000) (het:e.text.size≤1000000000) (Q:List Hs) (hqok:HsOk Q) (qv:Value) (w:World) (h:HasG w0 base lo mid C top s w) (hs:VtSl w sv L) (hsa:AbT top sv) (hq:HaSl w qv Q) (hqa:AbT top qv):
  Calls Tryz.prog 30 #[.pointer (some ⟨C,0,none⟩),.agg (evC e).toArray,qv,sv] w fun e' w'=> ((rcPre s.P s.id s.sent s.text e≠0∧e'= .returned (.int .i64 (rcPre s.P s.id s.sent s.text e))∧HasG w0 base lo mid C w'.heap.size s w')∨(rcPre s.P s.id s.sent s.text e=0∧∃o,BestL s.P L o∧e'= .returned (.int .i64 (rcPost o e Q))∧HasG w0 base lo mid C w'.heap.size { s with votes:=takeV s.votes L,rc:=s.rc||decide (rcPost o e Q=0)} w'))∧NearH base lo mid top w w':=by
 obtain⟨c,rfl,rfl,c3,c4,hg,h1,h2,h5,h3,h4⟩:=h
 refine(receipt_any w0 ht c base h4 c4 hP hpub hlen L hok hsv hL hn sv e he hen het Q hqok qv w h3 c3 h1 hs (hsa.apart (fun k hk=> (hg k hk).1)) hq (hqa.apart (fun k hk=> (hg k hk).1))).mono ?_
 rintro e' w' (⟨g1,g2,g3,g4⟩|⟨g1,o,g2,g3,vv,mv,hc,hst⟩)
 ·obtain⟨k1,k2⟩:=HasG.step c3 hg h1 h2 h3 h4 rfl g4 g3 c4
  exact⟨.inl ⟨g1,g2,k1⟩,k2⟩
 ·obtain⟨k1,k2⟩:=HasG.step c3 hg h1 h2 h3 h4 rfl hst hc rfl
  exact⟨.inr ⟨g1,o,g2,g3,k1⟩,k2⟩
theorem hag_sent (w0:World) (ht:Tab w0) (b:Bd) (hb:b.Ok) {qA pA:Option Addr} {qk pk:Nat} {w:World} (hq:IntSl w qA b.qc) (hp:IntSl w pA b.pc) {base lo mid C top:Nat} {s:Vw} (h:HasG w0 base lo mid C top s w):
  Calls Tryz.prog 32 #[.pointer (some ⟨C,0,none⟩),.agg (bdCells b qA pA qk pk)] w fun e w'=>e= .returned (.tuple #[])∧HasG w0 base lo mid C w'.heap.size { s with sent:=true,text:=encT b,rc:=false} w'∧NearH base lo mid top w w':=by
 obtain⟨c,rfl,rfl,c3,c4,hg,h1,h2,h5,h3,h4⟩:=h
 refine(csent_any b hb hq hp (ht.none h3) base c c3).mono ?_
 rintro e w' ⟨g1,g2,g3⟩
 exact⟨g1,HasG.step c3 hg h1 h2 h3 h4 rfl g3 g2 c4⟩
set_option maxRecDepth 100000 in
set_option maxHeartbeats 2000000 in
theorem hag_do (w0:World) (ht:Tab w0) {base lo mid C top:Nat} {s:Vw} (hP:PersOk s.P) (hpub:∀p∈s.P,In p.pub) (hlen:s.P.length≤1000) (hsm:SmallH s.head) (hn:s.votes.length≤40000) (x:Cl) (hx:x.Ok) (A:Option Addr) (k:Nat) (gv rv:Value) (w:World) (h:HasG w0 base lo mid C top s w) (hA:IntSl w A x.bid.qc) (hq:HaSl w gv x.proof) (hqa:AbT top gv) (hv:VtSl w rv x.votes) (hva:AbT top rv):
  Calls Tryz.prog 25 #[.pointer (some ⟨C,0,none⟩),.agg (clL x.what x.bid A k x.ev gv rv).toArray] w fun e w'=>e= .returned (.int .i64 (doRes s x))∧HasG w0 base lo mid C w'.heap.size (doNext s x) w'∧NearH base lo mid top w w'∧SmallH (doNext s x).head:=by
 obtain⟨B,eB⟩:∃B,B=w.heap.size:=⟨_,rfl⟩
 have ho:Only NoneOf w (w.alloc (.cells (clL x.what x.bid A k x.ev gv rv).toArray tCl)):=(Only.refl _ _).alloc _
 have h0:ClB (w.alloc (.cells (clL x.what x.bid A k x.ev gv rv).toArray tCl)) B x.what x.bid A k x.ev gv rv∧Only NoneOf w (w.alloc (.cells (clL x.what x.bid A k x.ev gv rv).toArray tCl)):=⟨by rw [eB];exact Blk.new w _ _,ho⟩
 obtain⟨hh,hone⟩:=hx.one
 have hpr:=hx.ev.prev
 obtain⟨z,ez⟩:∃z,z=clL x.what x.bid A k x.ev gv rv:=⟨_,rfl⟩
 have EZ:=Lib.hid ez
 have H0:=Lib.hid h0
 have EB:=Lib.hid eB
 have H:=Lib.hid h
 have HX:=Lib.hid hx
 have HA:=Lib.hid hA
 have HQ:=Lib.hid hq
 have HV:=Lib.hid hv
 have HONE:=Lib.hid hone
 rw [←ez] at H0⊢
 clear h0 ho eB h hx hA hq hv hone ez
 go_enter Tryz.func25,Tryz.ntmps25
 go_upto_region 1 with(fail)
 rw [←EB.out]
 refine wp_gen (fun W=>ClB W B x.what x.bid A k x.ev gv rv∧Only NoneOf w W) (by rw [EZ.out] at H0⊢;exact H0.out) ?_
 clear H0 EZ
 rintro W ⟨hc,ho⟩
 have c0:=cl_what hc
 have c52:=cl_proof hc hpr
 have c53:=cl_votes hc hpr
 have cb:=bd_ld hc
 have ce:=ev_load_at (cl_ev hc) hpr
 have hT:=H.out.keep ho
 have HT:=Lib.hid hT
 have HO:=Lib.hid ho
 have hxw:=HX.out.what
 clear hc ho hT
 by_cases hw0:x.what=0
 ·have d0:(x.what==0)=true:=by rw [beq_iff_eq];exact hw0
  have hr:doRes s x=0∧doNext s x= { s with sent:=true,text:=encT x.bid,rc:=false}:=⟨by unfold doRes;rw [if_pos hw0],by unfold doNext;rw [if_pos hw0]⟩
  have hcall:=hag_sent w0 ht x.bid HX.out.bid (qk:=k) (pk:=0) (HA.out.none_ HO.out) (pA:=none) (.inl HX.out.pc) HT.out
  have HR:=Lib.hid hr
  have HC:=Lib.hid hcall
  clear hr hcall hw0 c52 c53 ce
  go_wp2_with fail
  refine HC.out.mono ?_
  rintro e1 w1 ⟨rfl,hT1,hN1⟩
  have HF:=Lib.hid (And.intro hT1 (hN1.after HO.out))
  clear hT1 hN1
  go_wp2_with fail
  go_ret
  rw [HR.out.1,HR.out.2]
  exact⟨rfl,HF.out.1,HF.out.2,hsm⟩
 ·have d0:(x.what==0)=false:=by rw [beq_eq_false_iff_ne];exact hw0
  by_cases hw4:x.what<4
  ·have d4:decide (x.what<4)=true:=decide_eq_true hw4
   have hr:doRes s x=hdRes (bestO s.P x.votes) (knownH s.head) x.proof∧doNext s x= { s with votes:=takeV s.votes x.votes,head:=hdNext (bestO s.P x.votes) (knownH s.head) x.proof s.head}:=⟨by unfold doRes;rw [if_neg hw0,if_pos hw4],by unfold doNext;rw [if_neg hw0,if_pos hw4]⟩
   have hcall:=hag_head w0 ht hP hlen hsm x.votes HX.out.votes HX.out.small HX.out.vlen (by omega) rv x.proof HX.out.proof HX.out.plen gv W HT.out (HV.out.only HO.out) hva (HQ.out.only HO.out) hqa
   have HR:=Lib.hid hr
   have HC:=Lib.hid hcall
   clear hr hcall hw0 cb ce
   go_wp2_with fail
   refine HC.out.mono ?_
   rintro e1 w1 ⟨o,ho,rfl,hT1,hN1⟩
   have hsh:=hdNext_small (old:=knownH s.head) (Q:=x.proof) HX.out.small hsm ho
   obtain rfl:=bestO_is HONE.out ho
   have HF:=Lib.hid (And.intro hT1 (And.intro (hN1.after HO.out) hsh))
   clear hT1 hN1 ho hsh
   go_wp2_with fail
   go_ret
   rw [HR.out.1,HR.out.2]
   exact⟨rfl,HF.out⟩
  ·have d4:decide (x.what<4)=false:=decide_eq_false hw4
   have hcall:=hag_receipt w0 ht hP hpub hlen x.votes HX.out.votes HX.out.small HX.out.vlen (by omega) rv x.ev HX.out.ev HX.out.evn HX.out.evt x.proof HX.out.proof gv W HT.out (HV.out.only HO.out) hva (HQ.out.only HO.out) hqa
   have HC:=Lib.hid hcall
   have HW0:=Lib.hid hw0
   have HW4:=Lib.hid hw4
   clear hcall hw0 hw4 cb
   go_wp2_with fail
   refine HC.out.mono ?_
   rintro e1 w1 ⟨h1,hN1⟩
   have hfin:e1= .returned (.int .i64 (doRes s x))∧HasG w0 base lo mid C w1.heap.size (doNext s x) w1∧SmallH (doNext s x).head:=by
    unfold doRes doNext
    rw [if_neg HW0.out,if_neg (Int.not_lt.2 HW4.out),if_neg HW0.out,if_neg (Int.not_lt.2 HW4.out)]
    rcases h1 with⟨g1,g2,g3⟩|⟨g1,o,g2,g3,g4⟩
    ·rw [if_pos g1,if_pos g1]
     exact⟨g2,g3,hsm⟩
    ·rw [if_neg (fun e=>e g1),if_neg (fun e=>e g1)]
     obtain rfl:=bestO_is HONE.out g2
     exact⟨g3,g4,hsm⟩
   obtain⟨rfl,hT1,hsh⟩:=hfin
   have HF:=Lib.hid (And.intro hT1 (And.intro (hN1.after HO.out) hsh))
   clear hT1 hN1 h1 hsh
   go_wp2_with fail
   go_ret
   exact⟨rfl,HF.out⟩
end Go.Proofs.YtgalfohobgjelaaGreatDoor
namespace Go.Proofs.YtgalfohobgjelaaGreatDoor
open Go.RowKit Go.Shelf
def zbVt (parts:Array (Nat×Value)):Sem Value:=Instr.build 43 parts
theorem zbVt_eq (parts:Array (Nat×Value)):Instr.build 43 parts=zbVt parts:=rfl
def zbHa (parts:Array (Nat×Value)):Sem Value:=Instr.build 35 parts
theorem zbHa_eq (parts:Array (Nat×Value)):Instr.build 35 parts=zbHa parts:=rfl
def zbPs (parts:Array (Nat×Value)):Sem Value:=Instr.build 67 parts
theorem zbPs_eq (parts:Array (Nat×Value)):Instr.build 67 parts=zbPs parts:=rfl
def zbBl (parts:Array (Nat×Value)):Sem Value:=Instr.build 57 parts
theorem zbBl_eq (parts:Array (Nat×Value)):Instr.build 57 parts=zbBl parts:=rfl
def psSt (p v:Value):Sem Unit:=Instr.storeAt 67 p v
theorem psSt_eq (p v:Value):Instr.storeAt 67 p v=psSt p v:=rfl
def blSt (p v:Value):Sem Unit:=Instr.storeAt 57 p v
theorem blSt_eq (p v:Value):Instr.storeAt 57 p v=blSt p v:=rfl
def AcSl (w:World) (v:Value) (L:List Ac):Prop:=
 ∃A cap,v= .slice A L.length cap∧L.length≤cap∧cap≤9223372036854775807∧∀(i:Nat) (a:Ac),L[i]? =some a→∃g o,A=some ⟨g,o,none⟩∧g<w.heap.size∧w.rangeAt g (o+i * 9) (acC a).toList
theorem AcSl.only {w w':World} {v:Value} {L:List Ac} (h:AcSl w v L) (ho:Only NoneOf w w'):AcSl w' v L:=by
 obtain⟨A,cap,hv,h1,h2,h3⟩:=h
 refine⟨A,cap,hv,h1,h2,fun i e he=> ?_⟩
 obtain⟨g,o,hA,hg,hr⟩:=h3 i e he
 exact⟨g,o,hA,Nat.lt_of_lt_of_le hg ho.size,range_only hr ho⟩
def acLd (v:Value):Sem Value:=Instr.loadAt 70 v
theorem acLd_eq (v:Value):Instr.loadAt 70 v=acLd v:=rfl
theorem ac_ld {W:World} {g o:Nat} {a:Ac} (h:W.rangeAt g o (acC a).toList):(acLd (.pointer (some ⟨g,o,none⟩))).run Tryz.prog W= .ok (.agg (acC a)) W:=
 run_loadAt_mid W g o 70 (acC a).toList _ h Tryz.underlying70 rfl (by kernel_rfl)
end Go.Proofs.YtgalfohobgjelaaGreatDoor
namespace Go.Proofs.YtgalfohobgjelaaGreatDoor
open Go.RowKit Go.Shelf
def actF (a:Ac) (id:Nat):Ac:=if a.second=true then { a with wrong:=a.wrong|||2 ^ id} else a
theorem bitW_or (m id:Nat):bitW (m|||2 ^ id) id=true:=by
 unfold bitW
 rw [←Nat.testBit_eq_decide_div_mod_eq,Nat.testBit_or,Nat.testBit_two_pow_self,Bool.or_true]
theorem actF_wrong {a:Ac} {id:Nat} (h:bitW (actF a id).wrong id=false):(actF a id).second=false:=by
 unfold actF at h⊢
 split
 ·rename_i hs
  rw [if_pos hs] at h
  rw [bitW_or] at h
  cases h
 ·rename_i hs
  simpa using hs
theorem actF_ok {a:Ac} (h:a.Ok) {id:Nat} (hid:id≤7):(actF a id).Ok:=by
 unfold actF
 split
 ·refine { h with wrong:= ?_}
  refine Nat.or_lt_two_pow (n:=16) h.wrong ?_
  match id,hid with
  |0,_|1,_|2,_|3,_|4,_|5,_|6,_|7,_=>decide
 ·exact h
noncomputable def forgB (id:Nat) (a:Ac) (v:Vt):Bool:=(v.who==(id:Int)) && (bitW a.wrong id && cnts (offAt id) v)
noncomputable def forgO (id:Nat) (a:Ac) (f:Bool) (L:List Vt):Bool:=f||L.any (forgB id a)
structure FaV (d:Wd) (id k:Nat) (f:Bool) (s:Vw):Prop where
 P:s.P=setW d
 len:s.votes.length≤7 * k
 head:SmallH s.head
 own:f=false→∀v∈s.votes,cnts (offAt id) v=true→∃m:Nat,v.head=hdOf ((lvW d false).take m)
theorem cnts_who {p:Pers} {v:Vt} (h:cnts p v=true):v.who=p.id:=by
 unfold cnts at h
 rw [Bool.and_eq_true] at h
 exact beq_iff_eq.1 h.1
theorem FaV.step {d:Wd} {id k:Nat} {f:Bool} {s:Vw} {a:Ac} (h:FaV d id k f s) (hh:SmallH (doNext s (makeW d (actF a id))).head):FaV d id (k+1) (forgO id (actF a id) f (makeW d (actF a id)).votes) (doNext s (makeW d (actF a id))):=by
 obtain⟨x,ex⟩:∃x,x=makeW d (actF a id):=⟨_,rfl⟩
 rw [←ex] at hh⊢
 have h1:=takeV_len s.votes x.votes
 have h2:=h.len
 have hx:x.votes.length≤7:=by rw [ex];exact votesW_len _ _ _ _
 have hown:forgO id (actF a id) f x.votes=false→∀v∈takeV s.votes x.votes,cnts (offAt id) v=true→∃m:Nat,v.head=hdOf ((lvW d false).take m):=by
  intro hf v hv hc
  unfold forgO at hf
  rw [Bool.or_eq_false_iff] at hf
  rcases(takeV_mem _ _ v).1 hv with hv|hv
  ·exact h.own hf.1 v hv hc
  ·have h3:forgB id (actF a id) v=false:=by
    have h4:=List.any_eq_false.1 hf.2 v hv
    simpa using h4
   unfold forgB at h3
   rw [hc,Bool.and_true] at h3
   have h4:(v.who==(id:Int))=true:=by rw [beq_iff_eq];exact cnts_who hc
   rw [h4,Bool.true_and] at h3
   have h5:=actF_wrong h3
   rw [ex] at hv
   have h6:=votesW_head hv
   rw [h5] at h6
   exact⟨_,h6⟩
 have hold:forgO id (actF a id) f x.votes=false→∀v∈s.votes,cnts (offAt id) v=true→∃m:Nat,v.head=hdOf ((lvW d false).take m):=fun hf v hv hc=>hown hf v ((takeV_mem _ _ v).2 (.inl hv)) hc
 refine⟨?_,?_,hh,?_⟩
 ·unfold doNext
  split
  ·exact h.P
  ·split
   ·exact h.P
   ·split<;>exact h.P
 ·unfold doNext
  split
  ·show s.votes.length≤_;omega
  ·split
   ·show(takeV s.votes x.votes).length≤_;omega
   ·split
    ·omega
    ·show(takeV s.votes x.votes).length≤_;omega
 ·unfold doNext
  split
  ·exact hold
  ·split
   ·exact hown
   ·split
    ·exact hold
    ·exact hown
theorem hdOf_size (L:List ByteArray):(hdOf L).size=(L.length:Int):=rfl
theorem FaV.blame {d:Wd} {id k:Nat} {s:Vw} (h:FaV d id k false s) {b:Blm} (hb:b∈blL s.P s.votes):b.who≠(id:Int):=by
 intro hw
 rw [h.P] at hb
 unfold blL clashL clashO at hb
 obtain⟨p,hp,hq⟩:=List.mem_filterMap.1 hb
 obtain⟨h1,h2,h3,h4,h5,h6⟩:=blmOf_who hq
 obtain⟨j,_,_,rfl⟩:=offsW_at hp
 have hj:j=id:=by
  have:((j:Nat):Int)=(id:Int):=by rw [←hw,h1];rfl
  omega
 subst hj
 obtain⟨m1,e1⟩:=h.own rfl _ h2 h4
 obtain⟨m2,e2⟩:=h.own rfl _ h3 h5
 obtain⟨g1,g2⟩:=agT_false h6
 rw [e1,e2,hdOf_size,hdOf_size,List.length_take,List.length_take] at g1
 apply g2
 rw [e1,e2]
 congr 1
 have h9:min m1 (lvW d false).length=min m2 (lvW d false).length:=by omega
 exact List.take_eq_take_iff.2 h9
end Go.Proofs.YtgalfohobgjelaaGreatDoor
namespace Go.Proofs.YtgalfohobgjelaaGreatDoor
open Go.RowKit Go.Shelf
attribute [local go_sem ↓ high] hdLoad_eq vtLoad_eq sgLoad_eq
set_option maxRecDepth 100000 in
set_option maxHeartbeats 2000000 in
theorem fcounts_any (p:Pers) (po:p.Ok) (v:Vt) (vo:v.Ok) (w:World):Calls Tryz.prog 24 #[.agg #[.int .i64 p.id,.int .i64 p.role,.int .i64 p.pub],.agg (vtC v).toArray] w fun e w'=>e= .returned (.bool (cnts p v))∧Only NoneOf w w':=by
 obtain⟨B,eB⟩:∃B,B=w.heap.size:=⟨_,rfl⟩
 have hS0:CtS w B p v ((w.alloc (.cells #[.int .i64 p.id,.int .i64 p.role,.int .i64 p.pub] 67)).alloc (.cells (vtC v).toArray tVt)):=by
  have h2:=Blk.new (w.alloc (.cells #[.int .i64 p.id,.int .i64 p.role,.int .i64 p.pub] 67)) tVt (vtC v).toArray
  rw [World.size_alloc,←eB] at h2
  exact⟨by rw [eB];exact(Blk.new w _ _).alloc _,h2,((Only.refl _ _).alloc _).alloc _⟩
 have hl:=vo.head.root
 obtain⟨T1,hT1⟩:∃A:ByteArray,A=hdT v.head:=⟨_,rfl⟩
 have z1:T1.size≤100:=by rw [hT1];exact hdT_size vo.head
 obtain⟨γ,hγ⟩:∃γ,γ=goodB p.pub (hdText v.head) v.r v.s:=⟨_,rfl⟩
 have f1:∀W,Calls Tryz.prog 54 #[.agg (hdC v.head).toArray] W (fun e' w'=>e'= .returned (.string T1)∧Only NoneOf W w'):=fun W=>by rw [hT1];exact rqtext_any v.head vo.head W
 have f2:∀W,Calls Tryz.prog 53 #[.int .i64 p.pub,.string T1,sgv v.r v.s] W (fun e' w'=>e'= .returned (.bool γ)∧Only NoneOf W w'):=fun W=>by
  have h:=rverify_any p.pub v.r v.s T1 W (by omega) po.pub.1 po.pub.2 vo.r.1 vo.r.2
  rw [hT1,hdT_list,←hγ] at h
  rw [hT1];exact h
 have HA:=Lib.hid f1
 have HB:=Lib.hid f2
 have HG:=Lib.hid hγ
 have HS0:=Lib.hid hS0
 have EB:=Lib.hid eB
 have HL:=Lib.hid hl
 have HKEEP:Hid (∀W W',CtS w B p v W→Only NoneOf W W'→CtS w B p v W'):=Lib.hid (fun W W' h ho=> ⟨h.p.only ho (fun e=>e),Blk.only h.v ho (fun e=>e),h.only.trans ho⟩)
 obtain⟨res,eres⟩:∃r,r=cnts p v:=⟨_,rfl⟩
 rw [←eres]
 have HRES:=Lib.hid eres
 clear f1 f2 hT1 hγ eB z1 hl po vo hS0 eres
 go_enter Tryz.func24,Tryz.ntmps24
 go_upto_region 1 with(fail)
 rw [←EB.out]
 refine wp_gen (CtS w B p v) HS0.out ?_
 clear HS0
 intro X hS
 have c0:X.cell? ⟨B,0,none⟩=some (.int .i64 p.id):=hS.p.cell 0
 have v0:X.cell? ⟨B+1,0,none⟩=some (.int .i64 v.who):=hS.v.cell 0
 cases hw:(v.who==p.id) with
 |false=>
  have hn:(v.who !=p.id)=true:=by unfold bne;rw [hw];rfl
  have hn2:v.who≠p.id:=fun e=>by rw [e,beq_self_eq_true] at hw;cases hw
  have hc:res=false:=by rw [HRES.out];unfold cnts;rw [hw];rfl
  have HC:=Lib.hid hc
  have HO:=Lib.hid hS.only
  clear hc hS hw
  go_wp2_with fail
  go_ret
  exact⟨ret_bool HC.out.symm,by first|exact HO.out|exact HO.out.drew|exact HO.out.drewN _⟩
 |true=>
  have hn:(v.who !=p.id)=false:=by unfold bne;rw [hw];rfl
  have hn2:v.who=p.id:=beq_iff_eq.1 hw
  have hc:res=γ:=by rw [HRES.out];unfold cnts;rw [hw,HG.out];rfl
  have HC:=Lib.hid hc
  have HW:=Lib.hid hS
  have HN2:=Lib.hid hn2
  clear hc hS hn2 hw
  go_upto_region 2 with(fail)
  refine wp_gen (CtS w B p v) (by first|exact HW.out|exact HKEEP.out _ _ HW.out (Only.refl _ _).drew) ?_
  clear c0 v0 HW
  intro Y hY
  have hY1:=HKEEP.out _ _ hY (Only.refl _ _).drew
  have c2:∀W,CtS w B p v W→W.cell? ⟨B,2,none⟩=some (.int .i64 p.pub):=fun W h=>h.p.cell 2
  have v1:∀W,CtS w B p v W→(hdLoad (.pointer (some ⟨B+1,1,none⟩))).run Tryz.prog W= .ok (.agg (hdC v.head).toArray) W:=fun W h=>hd_load (range_head (blk_range h.v) HL.out) HL.out
  have v2:∀W,CtS w B p v W→(sgLoad (.pointer (some ⟨B+1,34,none⟩))).run Tryz.prog W= .ok (sgv v.r v.s) W:=fun W h=>sg_load (range_sig (blk_range h.v) HL.out)
  go_region_held3 (fun w'=>CtS w B p v w') (first|(with_reducible assumption))
   (first
    |(go_at_call 54;(with_reducible refine(HA.out _).mono ?_);rintro e1 w1 ⟨rfl,ho1⟩;have hS1:=HKEEP.out _ _ (by with_reducible assumption) ho1;clear ho1)
    |(go_at_call 53;(with_reducible refine(HB.out _).mono ?_);rintro e2 w2 ⟨rfl,ho2⟩;have hS2:=HKEEP.out _ _ (by with_reducible assumption) ho2;clear ho2))
  all_goals
   go_wp2_with fail
   go_ret
   exact⟨ret_bool HC.out.symm,CtS.only (by with_reducible assumption)⟩
end Go.Proofs.YtgalfohobgjelaaGreatDoor
namespace Go.Proofs.YtgalfohobgjelaaGreatDoor
open Go.RowKit Go.Shelf
set_option maxRecDepth 100000 in
theorem roots_differ:(rootL [[97], [98], [99]]==rootL [[97], [98], [120]])=false:=by decide+kernel
theorem vAt_inj {a b:Hd} {i j:Nat} (h:vAt a i=vAt b j):i=j∧a=b:=by
 have h1:(vAt a i).who=(vAt b j).who:=by rw [h]
 have h2:(vAt a i).head=(vAt b j).head:=by rw [h]
 have h3:(i:Int)=(j:Int):=h1
 exact⟨by omega,h2⟩
theorem eqVt_id (v:Vt):eqVt v v=true:=eqVt_true.2 rfl
theorem eqVt_ix (a b:Hd) {i j:Nat} (h:i≠j):eqVt (vAt a i) (vAt b j)=false:=eqVt_false.2 (fun e=>h (vAt_inj e).1)
theorem eqVt_hd {a b:Hd} (h:a≠b) (i j:Nat):eqVt (vAt a i) (vAt b j)=false:=eqVt_false.2 (fun e=>h (vAt_inj e).2)
section
variable {a b x:Hd} (hab:a≠b) (hax:a≠x) (hbx:b≠x)
theorem take_one (a:Hd):takeV [] [vAt a 1,vAt a 2,vAt a 3]= [vAt a 1,vAt a 2,vAt a 3]:=by
 rw [takeV_fold]
 simp [take1,hasB,eqVt_ix a a (show(2:Nat)≠1 by decide),eqVt_ix a a (show(3:Nat)≠1 by decide),eqVt_ix a a (show(3:Nat)≠2 by decide)]
include hab in
theorem take_two:takeV [vAt a 1,vAt a 2,vAt a 3] [vAt b 1,vAt b 2,vAt b 3]= [vAt a 1,vAt a 2,vAt a 3,vAt b 1,vAt b 2,vAt b 3]:=by
 rw [takeV_fold]
 simp [take1,hasB,eqVt_hd (Ne.symm hab),eqVt_ix b b (show(2:Nat)≠1 by decide),eqVt_ix b b (show(3:Nat)≠1 by decide),eqVt_ix b b (show(3:Nat)≠2 by decide)]
theorem take_again:takeV [vAt a 1,vAt a 2,vAt a 3,vAt b 1,vAt b 2,vAt b 3] [vAt a 1,vAt a 2,vAt a 3]= [vAt a 1,vAt a 2,vAt a 3,vAt b 1,vAt b 2,vAt b 3]:=by
 rw [takeV_fold]
 simp [take1,hasB,eqVt_id]
include hax hbx in
theorem take_three:takeV [vAt a 1,vAt a 2,vAt a 3,vAt b 1,vAt b 2,vAt b 3] [vAt x 2,vAt x 3,vAt x 4]= [vAt a 1,vAt a 2,vAt a 3,vAt b 1,vAt b 2,vAt b 3,vAt x 2,vAt x 3,vAt x 4]:=by
 rw [takeV_fold]
 simp [take1,hasB,eqVt_hd (Ne.symm hax),eqVt_hd (Ne.symm hbx),eqVt_ix x x (show(3:Nat)≠2 by decide),eqVt_ix x x (show(4:Nat)≠2 by decide),eqVt_ix x x (show(4:Nat)≠3 by decide)]
end
theorem offAt_id (k:Nat):(offAt k).id=(k:Int):=rfl
theorem vAt_head (h:Hd) (k:Nat):(vAt h k).head=h:=rfl
section
variable {a b x:Hd} (hab:a.size≠b.size) (hax:a.size≠x.size) (hbx:b.size=x.size) (hne:b≠x)
include hab in
theorem blames_none:blL (setW wd3) [vAt a 1,vAt a 2,vAt a 3,vAt b 1,vAt b 2,vAt b 3]= []:=by
 unfold blL clashL
 rw [offs_setW3]
 simp [clashO,blmOf,cnts_at,firstP_cons,firstP_nil,vAt_head,agT_sizes hab]
include hab hax hbx hne in
theorem blames_two:blL (setW wd3) [vAt a 1,vAt a 2,vAt a 3,vAt b 1,vAt b 2,vAt b 3,vAt x 2,vAt x 3,vAt x 4]= [⟨2,vAt b 2,vAt x 2⟩,⟨3,vAt b 3,vAt x 3⟩]:=by
 unfold blL clashL
 rw [offs_setW3]
 simp [clashO,blmOf,cnts_at,firstP_cons,firstP_nil,vAt_head,agT_sizes hab,agT_sizes hax,agT_roots hbx hne,offAt_id]
end
end Go.Proofs.YtgalfohobgjelaaGreatDoor
