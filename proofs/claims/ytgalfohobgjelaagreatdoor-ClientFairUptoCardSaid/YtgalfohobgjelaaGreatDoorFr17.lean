/- What is proved here:several parts. votes are taken by the client,and the certified head told. Conditions:the votes' numbers are ints,their roots have 32 bytes,there are few;they do not lie in what belongs to the client;the table of powers of ten reads as its initialiser lays it. · the greatest power of two below a number,by the program and by the reference. Condition:the number is from 1 to a million. · hashes of leaves and of nodes,by the program and by the reference;the root of no leaves. Conditions:texts are short,hashes have 32 bytes. · roots of lists of texts,by the reference;the program's root of no texts. Conditions:there are few texts,and they are short. -/
import Derived.Test.YtgalfohobgjelaaGreatDoorFr01
import Derived.Test.YtgalfohobgjelaaGreatDoorFr02
import Derived.Test.YtgalfohobgjelaaGreatDoorFr03
import Derived.Test.YtgalfohobgjelaaGreatDoorFr04
import Derived.Test.YtgalfohobgjelaaGreatDoorFr05
import Derived.Test.YtgalfohobgjelaaGreatDoorFr16
import Derived.Deep.Upon
import Derived.Deep.DeepCutAuto
namespace Go.Proofs.YtgalfohobgjelaaGreatDoor
open Go.RowKit Go.Shelf
open Go.Maps (Keyed)
theorem run_append_vts (W:World) (base base':Nat) (v u:Value) (M N:List Vt) (hN:VtsOk N) (hown:VtOwn W base v M.length M) (hsrc:VtOwn W base' u N.length N) (hsm:M.length+N.length≤1000000) (hb:base≤W.heap.size) (ty:TypeId):
  ∃A cap W',(Builtin.append_ #[32,32] ty #[v,u]).run Tryz.prog W= .ok (.slice A (M++N).length cap) W'∧VtOwn W' base (.slice A (M++N).length cap) (M++N).length (M++N)∧W.grownBy W' v.ownBlock∧((Value.slice A (M++N).length cap).ownBlock=v.ownBlock∨(Value.slice A (M++N).length cap).ownBlock=some W.heap.size):=by
 obtain⟨ie,z,hie,hsz,hz,hzc,hby⟩:=vt_info
 rcases hsrc.2 with⟨rfl,h0⟩|⟨g,cap,cur,rfl,hgb,hh,hc,hm,hs,ht⟩
 ·have hN0:N= []:=List.eq_nil_of_length_eq_zero h0
  subst hN0
  obtain⟨A,cap,rfl,h1,h2⟩:=own_form' hown
  rw [List.append_nil]
  refine⟨A,cap,W,run_append_nothing W _ _ ty tVt ie Tryz.underlying32 hie A M.length cap h1 _ (Src.ofNil W Tryz.underlying32 0),hown,⟨rfl,rfl,rfl,Nat.le_refl _,fun _ _ _=>rfl⟩,.inl rfl⟩
 ·have hnews:∀j x,(N.flatMap vtC)[j]? =some x→W.cell? ((⟨g,0,none⟩:Addr).add j)=some x:=fun j x hj=>World.ownsRow.cells hsrc rfl j x hj
  have hl:(N.flatMap vtC).length=N.length * 36:=vts_len N hN
  obtain⟨v',W',hr,h2,h3,_,h5⟩:=run_append_own_at (P:=Tryz.prog) W base 32 ty 43 ie z 36 ie.bytes Tryz.underlying32 hie hz hsz rfl hzc (by omega) v M.length (M.flatMap vtC) hown ⟨g,0,none⟩ N.length cap (N.flatMap vtC) hl hnews (flat_one N) (by rw [maxLen_val];omega) (Nat.le_trans (Nat.mul_le_mul hsm hby) (by omega)) hb
  obtain⟨A,cap',e,_,_⟩:=own_form' h2
  subst e
  rw [←List.length_append] at hr h2 h5
  rw [←List.flatMap_append] at h2
  exact⟨A,cap',W',hr,h2,h3,h5⟩
theorem step_append_vts {ops:Array Oper} {o:Oper} {a:Act} {w:World} {K:Act→World→Prop} {Q:Exit→Act→World→Prop} {E:Prop} (hgd:o.guard=none) (s x:Operand)
  (ho:o.op= .call { callee:= .builtin .append,args:= #[s,x],argTypes:= #[32,32]}) (base base':Nat) (v u:Value) (M N:List Vt) (hs:a.eval s=v) (hx:a.eval x=u) (hN:VtsOk N) (hown:VtOwn w base v M.length M) (hsrc:VtOwn w base' u N.length N) (hsm:M.length+N.length≤1000000) (hb:base≤w.heap.size)
  (h:∀A cap w',VtOwn w' base (.slice A (M++N).length cap) (M++N).length (M++N)→w.grownBy w' v.ownBlock→((Value.slice A (M++N).length cap).ownBlock=v.ownBlock∨(Value.slice A (M++N).length cap).ownBlock=some w.heap.size)→K (a.put o.dst (.slice A (M++N).length cap)) w'):
  if Region.wanted o (yielded ops a.tmps)=true then Oper.wp Tryz.prog o a w K Q else E:=by
 have hw:Region.wanted o (yielded ops a.tmps)=true:=by simp [Region.wanted,hgd]
 rw [if_pos hw]
 obtain⟨A,cap,w',hr,h2,h3,h4⟩:=run_append_vts w base base' v u M N hN hown hsrc hsm hb o.type
 unfold Oper.wp execOp
 simp only [ho,resolve,invoke,builtin,Sem.run_bind,Sem.run_pure,Result.andThen_ok,List.map_toArray,List.map_cons,List.map_nil,hs,hx,hr]
 exact h A cap w' h2 h3 h4
def suLoad (v:Value):Sem Value:=Instr.loadAt 50 v
theorem suLoad_eq (v:Value):Instr.loadAt 50 v=suLoad v:=rfl
theorem su_load {W:World} {g o:Nat} {pv:Value} (h:W.rangeAt g o [pv,.int .i64 0,.slice none 0 0,.slice none 0 0,.int .i64 0,.int .i64 0]):(suLoad (.pointer (some ⟨g,o,none⟩))).run Tryz.prog W= .ok (setV pv) W:=
 run_loadAt_mid W g o 50 [pv,.int .i64 0,.slice none 0 0,.slice none 0 0,.int .i64 0,.int .i64 0] _ h Tryz.underlying50 rfl (by kernel_rfl)
attribute [local go_sem ↓ high] suLoad_eq hdNew_eq hdStore_eq
noncomputable def Cli.took (c:Cli) (vv mv:Value) (L:List Vt):Cli:= { c with vv:=vv,votes:=takeV c.votes L,mv:=mv,seen:=takeV c.votes L}
theorem ce_grown {w5 w8:World} {base:Nat} {c:Cli} {mv:Value} {M:List Vt} (h:CliAt w5 base { c with mv:=mv,seen:=M}) (hg:w5.grownBy w8 c.vv.ownBlock):Blk w8 c.C tCli (cliC { c with mv:=mv,seen:=M}).toArray:=Blk.grown h.blk hg (fun e=>h.ne_vv e.symm)
theorem ce_cell {w:World} {c:Cli} {mv:Value} {M:List Vt} (h:Blk w c.C tCli (cliC { c with mv:=mv,seen:=M}).toArray) (hl:c.head.root.length=32):w.cell? ⟨c.C,42,none⟩=some c.vv:=cli_votes (c:= { c with mv:=mv,seen:=M}) h hl
theorem ce_made {w5 w8:World} {base:Nat} {c:Cli} {mv vv:Value} {L:List Vt} (h:CliAt w5 base { c with mv:=mv,seen:=takeV c.votes L}) (hown:VtOwn w8 base vv (takeV c.votes L).length (takeV c.votes L)) (hg:w5.grownBy w8 c.vv.ownBlock) (hblk:vv.ownBlock=c.vv.ownBlock∨vv.ownBlock=some w5.heap.size):
  CliAt (w8.setCell ⟨c.C,42,none⟩ vv) base (c.took vv mv L)∧CliStep w5 (w8.setCell ⟨c.C,42,none⟩ vv) { c with mv:=mv,seen:=takeV c.votes L} (c.took vv mv L):=by
 have ho1:Only (fun k=>c.vv.ownBlock=some k) w5 w8:=(Only.refl _ w5).grown hg (fun k e=> .inl e)
 have ho2:Only (fun k=>k=c.C) w8 (w8.setCell ⟨c.C,42,none⟩ vv):=(Only.refl (fun k=>k=c.C) w8).setCell (p:=⟨c.C,42,none⟩) (.inl rfl) _
 have hb8:=ce_grown h hg
 have hp8:PerOwn w8 base c.pv c.P.length c.P:=own_only h.pers ho1 (fun k hk e=>h.pv_vv hk e)
 have hs8:SeenAt w8 base mv (takeV c.votes L):=h.seen.only ho1 (fun k hk e=>h.vv_mv e hk)
 refine⟨⟨cli_put_votes (c:= { c with mv:=mv,seen:=takeV c.votes L}) hb8 h.hok.root vv (takeV c.votes L),h.lo,h.hok,own_only hp8 ho2 (fun k hk e=>own_blk_ne hp8 hb8 (by decide) (by rw [←e];exact hk)),own_only hown ho2 (fun k hk e=>own_blk_ne hown hb8 (by decide) (by rw [←e];exact hk)),h.sok,hs8.only ho2 (fun k hk e=>map_blk_ne hb8 (hs8.blk hk).2.2 e.symm),h.sok⟩,?_,?_⟩
 ·exact(ho1.mono (fun k _ e=> .inr (.inr (.inl e)))).trans' ho2 (fun k _ e=> .inl e)
 ·intro k hk
  rcases hk with hk|hk|hk|hk
  ·exact .inl (.inl hk)
  ·exact .inl (.inr (.inl hk))
  ·rcases hblk with e|e
   ·exact .inl (.inr (.inr (.inl (by rw [←e];exact hk))))
   ·right
    have hk':vv.ownBlock=some k:=hk
    rw [e] at hk'
    cases hk'
    exact Nat.le_refl _
  ·exact .inl (.inr (.inr (.inr hk)))
theorem best_ok {L:List Vt} (hok:VtsOk L) {C:Hd→Bool} {o:Option Hd} (h:BestOn (fun h=>h∈L.map (·.head)) C o):(hdOr o).Ok:=by
 cases o with
 |none=>exact⟨⟨by show(-9223372036854775808:Int)≤0;omega,by show(0:Int)≤9223372036854775807;omega⟩,hd0_root⟩
 |some b=>
  obtain⟨v,hv,rfl⟩:=List.mem_map.1 h.1
  exact(hok v hv).head
set_option maxRecDepth 100000 in
set_option maxHeartbeats 4000000 in
theorem certified_any (w0:World) (ht:Tab w0) (c:Cli) (base:Nat) (hb0:w0.heap.size≤base) (hcs:c.seen=c.votes) (hP:PersOk c.P) (hlen:c.P.length≤1000) (L:List Vt) (hok:VtsOk L) (hL:L.length≤1000) (hn:c.votes.length≤50000) (sv:Value) (w:World) (how:Only NoneOf w0 w) (h:CliAt w base c) (hb:base≤w.heap.size) (hs:VtSl w sv L) (ha:ApartC c sv):
  Calls Tryz.prog 46 #[.pointer (some ⟨c.C,0,none⟩),sv] w fun e w'=> ∃o,BestOn (fun h=>h∈L.map (·.head)) (fun h=>certB c.P h L) o∧e= .returned (.tuple #[.agg (hdC (hdOr o)).toArray,.bool o.isSome])∧∃vv mv,CliAt w' base (c.took vv mv L)∧CliStep w w' c (c.took vv mv L):=by
 have hR0:HdAt (w.alloc (.cells hd0C 37)) w.heap.size hd0:=Blk.new w _ _
 have h1:CliAt (w.alloc (.cells hd0C 37)) base c:=h.nn ((Only.refl _ _).alloc _)
 obtain⟨R,eR⟩:∃R,R=w.heap.size:=⟨_,rfl⟩
 rw [←eR] at hR0
 have hfil:∀W,Only NoneOf w W→Calls Tryz.prog 76 #[sv,.func (.func 77) #[.pointer (some ⟨c.C,0,none⟩)] #[]] W fun e w'=> ∃rv mv',e= .returned rv∧VtOwn w' W.heap.size rv (freshL c.votes L).length (freshL c.votes L)∧CliAt w' base { c with mv:=mv',seen:=takeV c.votes L}∧CliStep W w' c { c with mv:=mv',seen:=takeV c.votes L}:=fun W ho=>by
  have h2:=filter_any c base L hok hL sv W (h.nn ho) (Nat.le_trans hb ho.size) (hs.only ho) ha (by rw [hcs];omega)
  rw [hcs] at h2
  exact h2
 have hbest:∀W c',CliStep w W c c'→c'.P=c.P→CliAt W base c'→Calls Tryz.prog 78 #[setV c'.pv,sv] W fun e w'=> ∃o,BestOn (fun h=>h∈L.map (·.head)) (fun h=>certB c.P h L) o∧e= .returned (.tuple #[.agg (hdC (hdOr o)).toArray,.bool o.isSome])∧Only NoneOf W w':=fun W c' hst hp hc=>by
  have hpo:=hc.pers
  rw [hp] at hpo
  exact qbest_any c.P hP hlen c'.pv L hok (by omega) sv W (PerOwn.sl hpo) (hs.step hst.1 (fun a n cap e=>ha a n cap e)) (ht.none (hst.only h how hb0))
 have hmf:∀(fn:Fn) (first cap:Array Value) (w:World),(Instr.makeFunc fn first cap).run Tryz.prog w= .ok (.func fn first cap) w:=fun _ _ _ _=>rfl
 have hnw:=hdNew_run
 have HF:=Lib.hid hfil
 have HB:=Lib.hid hbest
 have H1:=Lib.hid (And.intro h1 hR0)
 have ER:=Lib.hid eR
 have HOK:=Lib.hid hok
 have HH:=Lib.hid h
 have HRT:=Lib.hid h.hok.root
 have hwR:w.heap.size≤R:=by omega
 have hbR:base≤R:=by omega
 clear hR0 h1 eR hfil hbest hok h hs ha ht how
 go_enter Tryz.func46,Tryz.ntmps46
 go_upto_region 1 with(fail)
 rw [←ER.out]
 refine wp_gen (fun Z=>CliAt Z base c∧HdAt Z R hd0∧Only NoneOf w Z) ⟨H1.out.1,H1.out.2,(Only.refl _ _).alloc _⟩ ?_
 clear H1 hnw
 rintro Z ⟨hZ,hR,hO⟩
 have c42:Z.cell? ⟨c.C,42,none⟩=some c.vv:=cli_votes hZ.blk hZ.hok.root
 have HZ:=Lib.hid (And.intro hZ (And.intro hR hO))
 clear hZ hR hO
 go_region_law (first
  |(refine step_append_vts (by rfl) _ _ (by rfl) base Z.drew.heap.size c.vv rv c.votes (freshL c.votes L) (by rfl) (by rfl) (fun x hx=>HOK.out x (freshL_sub L _ x hx)) H5.out.2.1 H5.out.1 (by have:=freshL_len L c.votes;omega) (by have h7:=H5.out.2.2.1.size;have h8:=HZ.out.2.2.drew.size;omega) ?_;intro A8 cap8 w8 hown8 hgrow8 hblk8;have hb8:=ce_grown H5.out.2.2.2.1 hgrow8;have e42:=ce_cell hb8 HRT.out;have f42:=hb8.frozen 42;have H8:=Lib.hid (And.intro hown8 (And.intro hgrow8 hblk8));clear hb8 hown8 hgrow8 hblk8)
  |(go_simp;go_at_call 76;refine(HF.out Z.drew HZ.out.2.2.drew).mono ?_;rintro e5 w5 ⟨rv,mv5,rfl,hown5,hcli5,hstep5⟩;have d42:=ce_cell hcli5.blk HRT.out;have H5:=Lib.hid (And.intro hown5 (And.intro hcli5.votes (And.intro hstep5.1 (And.intro hcli5 hstep5))));clear hown5 hcli5 hstep5))
 all_goals
  have hst8:=(CliStep.nn (c:=c) (HZ.out.2.2.drew)).trans H5.out.2.2.2.2
  have hmade:=ce_made (L:=L) H5.out.2.2.2.1 H8.out.1 H8.out.2.1 H8.out.2.2
  have hst9:=hst8.trans hmade.2
  have hr9:HdAt _ R hd0:=Blk.only HZ.out.2.1 (((CliStep.nn (c:=c) ((Only.refl NoneOf Z).drew)).trans H5.out.2.2.2.2).trans hmade.2).1 (fun hf=>by have:=(HH.out.foot_in hf).2;omega)
  have h9:=And.intro hmade.1 (And.intro hst9 hr9)
  rw [List.length_append] at h9
  obtain⟨N9,eN9⟩:∃N9,N9=c.votes.length+ (freshL c.votes L).length:=⟨_,rfl⟩
  rw [←eN9] at h9⊢
  obtain⟨c9,ec9⟩:∃c9:Cli,c9=c.took (.slice A8 N9 cap8) mv5 L:=⟨_,rfl⟩
  rw [←ec9] at h9
  have H9:=Lib.hid h9
  have EC9:=Lib.hid ec9
  clear hst8 hmade hst9 hr9 h9 ec9 eN9 H5 H8 c42 d42 e42 f42 HZ
  go_upto_region 2 with(fail)
  refine wp_gen (fun W=>CliAt W base c9∧CliStep w W c c9∧HdAt W R hd0) H9.out ?_
  clear H9
  rintro Y ⟨hY1,hY2,hY3⟩
  have hl1:=su_load (pv:=c9.pv) (cli_setup hY1.blk)
  have hbs:=HB.out Y c9 hY2 (by rw [EC9.out];rfl) hY1
  have hC9:c9.C=c.C:=by rw [EC9.out];rfl
  rw [hC9] at hl1
  have HBS:=Lib.hid hbs
  have HY:=Lib.hid (And.intro hY1 (And.intro hY2 hY3))
  clear hY1 hY2 hY3 hbs hC9
  go_wp2_with fail
  refine HBS.out.mono ?_
  rintro e6 w6 ⟨o,hbo,rfl,ho6⟩
  have hho:(hdOr o).Ok:=best_ok HOK.out hbo
  have hR6:HdAt w6 R hd0:=Blk.only HY.out.2.2 ho6 (fun e=>e)
  have hst:=hd_store hR6 rfl hho.root
  have hR7:HdAt (w6.setCells R 0 (hdC (hdOr o))) R (hdOr o):=filled_whole hR6 (by rw [hdC_len hho.root];rfl)
  have ho7:Only (fun k=>k=R) w6 (w6.setCells R 0 (hdC (hdOr o))):=only_setCells (S:=fun k=>k=R) (Only.refl _ _) R 0 (.inl rfl) _
  have hnf:¬c9.foot R:=(HY.out.1.nn ho6).off hR6 (by decide) (by decide) (by decide)
  have hc7:=(HY.out.1.nn ho6).keep ho7 (fun k hk e=>hnf (e▸hk))
  have hst7:=(HY.out.2.1.trans (CliStep.nn ho6)).put hwR 0 (hdC (hdOr o))
  have HBO:=Lib.hid (And.intro hbo (And.intro hR7 (And.intro hho.root (And.intro hc7 hst7))))
  have HEC:=Lib.hid EC9.out
  clear hbo hR7 hho hc7 hst7 hnf ho7 hR6 ho6 HBS HY hl1
  go_wp2_with fail
  refine bodyPost_ret (v:= .tuple #[.agg (hdC (hdOr o)).toArray,.bool o.isSome]) (read_hd rfl rfl rfl HBO.out.2.1 HBO.out.2.2.1) rfl ⟨o,HBO.out.1,rfl,.slice A8 N9 cap8,mv5,?_,?_⟩
  ·rw [←HEC.out];exact HBO.out.2.2.2.1
  ·rw [←HEC.out];exact HBO.out.2.2.2.2
end Go.Proofs.YtgalfohobgjelaaGreatDoor
namespace Go.Proofs.YtgalfohobgjelaaGreatDoor
open Go.RowKit
def HlR (n j k:Nat):Prop:=j≤25∧k=2 ^ j∧halfN n=halfF (64 - j) n k∧(k<n∨k=1)
theorem HlR.zero (n:Nat):HlR n 0 1:=⟨by omega,rfl,rfl,.inr rfl⟩
theorem HlR.done {n j k:Nat} (h:HlR n j k) (hk:n≤2 * k):halfN n=k:=by
 obtain⟨h1,_,h3,_⟩:=h
 rw [h3,show 64 - j=(63 - j) +1 by omega]
 unfold halfF
 rw [if_pos hk]
theorem HlR.next {n j k:Nat} (h:HlR n j k) (hn:n≤1000000) (hk:¬n≤2 * k):HlR n (j+1) (k * 2):=by
 obtain⟨h1,h2,h3,h4⟩:=h
 have hj:j<20:=by
  rcases Nat.lt_or_ge j 20 with hj|hj
  ·exact hj
  ·exfalso
   have:2 ^ 20≤2 ^ j:=Nat.pow_le_pow_right (by omega) hj
   have e:(2:Nat) ^ 20=1048576:=by decide
   omega
 refine⟨by omega,by rw [h2,Nat.pow_succ],?_,.inl (by omega)⟩
 rw [h3,show 64 - j=(64 - (j+1)) +1 by omega]
 rw [show halfF (64 - (j+1) +1) n k=if n≤2 * k then k else halfF (64 - (j+1)) n (2 * k) from rfl,if_neg hk,Nat.mul_comm]
theorem HlR.small {n j k:Nat} (h:HlR n j k) (hn:n≤1000000):1≤k∧k≤1000000:=by
 obtain⟨_,h2,_,h4⟩:=h
 have:0<k:=by rw [h2];exact Nat.two_pow_pos j
 omega
set_option maxHeartbeats 1000000 in
theorem half_any (n:Nat) (h1:1≤n) (hn:n≤1000000) (w:World):Calls Tryz.prog 83 #[.int .i64 (n:Int)] w fun e w'=>e= .returned (.int .i64 (halfN n:Int))∧w'=w:=by
 go_enter Tryz.func83,Tryz.ntmps83
 go_wp2_with fail
 go_loopw [3,4] (fun kv iv wr=> ∃j k:Nat,kv= .int .i64 (k:Int)∧iv= .int .i64 (j:Int)∧HlR n j k∧wr=w) (fun _ iv _=>63 - (intOf iv).toNat)
 case atStart=>exact⟨0,1,rfl,rfl,HlR.zero n,rfl⟩
 case round=>
  obtain⟨j,k,rfl,rfl,hR,rfl⟩:=hrel
  have hs:=hR.small hn
  have hj:j≤25:=hR.1
  have HR:=Lib.hid hR
  clear hR
  have ij:(j:Int) <63:=by omega
  by_cases hk:n≤2 * k
  ·have hc:decide ((n:Int) - (k:Int)≤(k:Int))=true:=decide_eq_true (by omega)
   have hd:=HR.out.done hk
   have HD:=Lib.hid hd
   clear hd hk
   go_wp2_with fail
   go_ret
   exact⟨ret_int (by rw [HD.out]),rfl⟩
  ·have hc:decide ((n:Int) - (k:Int)≤(k:Int))=false:=decide_eq_false (by omega)
   have HN:=Lib.hid (HR.out.next hn hk)
   clear hk
   go_wp2_with fail
   go_roundw
   case rel=>exact⟨j+1,k * 2,by go_num,by go_num,HN.out,trivial⟩
   case measure=>simp [intOf];omega
set_option maxHeartbeats 1000000 in
theorem rhalf_any (n:Nat) (h1:1≤n) (hn:n≤1000000) (w:World):Calls Tryz.prog 60 #[.int .i64 (n:Int)] w fun e w'=>e= .returned (.int .i64 (halfN n:Int))∧w'=w:=by
 go_enter Tryz.func60,Tryz.ntmps60
 go_wp2_with fail
 go_loopw [3] (fun kv wr=> ∃j k:Nat,kv= .int .i64 (k:Int)∧HlR n j k∧wr=w) (fun kv _=>2000000 - (intOf kv).toNat)
 case atStart=>exact⟨0,1,rfl,HlR.zero n,rfl⟩
 case round=>
  obtain⟨j,k,rfl,hR,rfl⟩:=hrel
  have hs:=hR.small hn
  have HR:=Lib.hid hR
  clear hR
  by_cases hk:n≤2 * k
  ·have hc:decide ((k:Int) < (n:Int) - (k:Int))=false:=decide_eq_false (by omega)
   have HD:=Lib.hid (HR.out.done hk)
   clear hk
   go_wp2_with fail
   go_ret
   exact⟨ret_int (by rw [HD.out]),rfl⟩
  ·have hc:decide ((k:Int) < (n:Int) - (k:Int))=true:=decide_eq_true (by omega)
   have HN:=Lib.hid (HR.out.next hn hk)
   clear hk
   go_wp2_with fail
   go_roundw
   case rel=>exact⟨j+1,k * 2,by go_num,HN.out,trivial⟩
   case measure=>simp [intOf];omega
end Go.Proofs.YtgalfohobgjelaaGreatDoor
namespace Go.Proofs.YtgalfohobgjelaaGreatDoor
open Go.RowKit Go.Shelf
theorem tr_back {W:World} {g n cap:Nat} {l:List UInt8} (hb:BytesAt W g 0 l) (hl:l.length=n):(convert 22 9 (.slice (some ⟨g,0,none⟩) n cap)).run Tryz.prog W= .ok (.string ⟨l.toArray⟩) W:=by
 subst hl
 exact run_convert_bytes_back (P:=Tryz.prog) W 22 9 5 ⟨g,0,none⟩ cap l Tryz.underlying22 Tryz.underlying5 Tryz.underlying9 (fun j hj=>by
  rw [Addr.add_mid]
  exact hb j _ (List.getElem?_eq_getElem hj))
def haLoad (v:Value):Sem Value:=Instr.loadAt 35 v
theorem haLoad_eq (v:Value):Instr.loadAt 35 v=haLoad v:=rfl
def haStore (p v:Value):Sem Unit:=Instr.storeAt 35 p v
theorem haStore_eq (p v:Value):Instr.storeAt 35 p v=haStore p v:=rfl
abbrev tHa:TypeId:=35
def HaAt (w:World) (B:Nat) (l:Hs):Prop:=Blk w B tHa (l.map bv).toArray
def zeroH:Hs:=List.replicate 32 0
theorem zeroH_cells:(zeroH.map bv).toArray=Array.replicate 32 (.int .u8 0):=by
 rw [zeroH,List.map_replicate,List.toArray_replicate]
 rfl
theorem ha_load {W:World} {g o:Nat} {l:Hs} (h:W.rangeAt g o (l.map bv)) (hl:l.length=32):(haLoad (.pointer (some ⟨g,o,none⟩))).run Tryz.prog W= .ok (hv l) W:=
 run_loadAt_mid W g o 35 (l.map bv) _ h Tryz.underlying35 rfl (by rw [List.length_map,hl];kernel_rfl)
theorem ha_store {W:World} {g:Nat} {l m:Hs} (h:HaAt W g l) (hl:l.length=32) (hm:m.length=32):(haStore (.pointer (some ⟨g,0,none⟩)) (hv m)).run Tryz.prog W= .ok () (W.setCells g 0 (m.map bv)):=
 run_storeAt_mid (P:=Tryz.prog) W g 0 35 (m.map bv).toArray (Blk.there h 0 _ (by simp [hl,hm])) (by rw [List.size_toArray,List.length_map,hm];kernel_rfl) (all_oneCell_toArray (bvs_one _))
theorem HaAt.range {W:World} {g:Nat} {l:Hs} (h:HaAt W g l):W.rangeAt g 0 (l.map bv):=fun j v hj=>by rw [Nat.zero_add,Blk.cell h];simpa using hj
theorem HaAt.bytes {W:World} {g:Nat} {l:Hs} (h:HaAt W g l):BytesAt W g 0 l:=fun j x hx=>by rw [Nat.zero_add,Blk.cell h];simp [hx]
theorem HaAt.put {W:World} {g:Nat} {l m:Hs} (h:HaAt W g l) (hl:l.length=32) (hm:m.length=32):HaAt (W.setCells g 0 (m.map bv)) g m:=by
 have h1:Blk W g tHa (l.map bv).toArray:=h
 exact h1.filled (m.map bv) (by rw [List.length_map,List.length_map,hl,hm])
theorem leafL_len (s:List UInt8):(leafL s).length=32:=shaL_len _
theorem nodeL_len (a b:Hs):(nodeL a b).length=32:=shaL_len _
theorem ha_info {l:Hs} (hl:l.length=32):(Tryz.prog.info? 35).map (·.size)=some (l.map bv).toArray.size:=by rw [List.size_toArray,List.length_map,hl];kernel_rfl
structure NdS (w:World) (B:Nat) (a b:Hs) (W:World):Prop where
 a:HaAt W B a
 b:HaAt W (B+1) b
 r:HaAt W (B+1+1) zeroH
 only:Only NoneOf w W
theorem NdS.keep {w:World} {B:Nat} {a b:Hs} {W W':World} (h:NdS w B a b W) (ho:Only NoneOf W W'):NdS w B a b W':=
 ⟨Blk.only h.a ho (fun e=>e),Blk.only h.b ho (fun e=>e),Blk.only h.r ho (fun e=>e),h.only.trans ho⟩
theorem NdS.new (w:World) (a b:Hs):NdS w w.heap.size a b (((w.alloc (.cells (a.map bv).toArray 35)).alloc (.cells (b.map bv).toArray 35)).alloc (.cells (Array.replicate 32 (.int .u8 0)) 35)):=by
 have h2:=Blk.new (w.alloc (.cells (a.map bv).toArray 35)) tHa (b.map bv).toArray
 have h3:=Blk.new ((w.alloc (.cells (a.map bv).toArray 35)).alloc (.cells (b.map bv).toArray 35)) tHa (Array.replicate 32 (.int .u8 0))
 rw [World.size_alloc] at h2
 rw [World.size_alloc,World.size_alloc] at h3
 refine⟨((Blk.new w _ _).alloc _).alloc _,h2.alloc _,?_,(((Only.refl _ _).alloc _).alloc _).alloc _⟩
 unfold HaAt
 rw [zeroH_cells]
 exact h3
attribute [local go_sem ↓ high] haLoad_eq haStore_eq
set_option maxRecDepth 100000 in
set_option maxHeartbeats 2000000 in
theorem tleaf_any (s:ByteArray) (w:World) (hs:s.size≤17592186044416):Calls Tryz.prog 106 #[.string s] w fun e w'=>e= .returned (hv (leafL s.data.toList))∧Only NoneOf w w':=by
 obtain⟨T,eT⟩:∃T:ByteArray,T=⟨#[0]⟩ ++s:=⟨_,rfl⟩
 have hT:T.data.toList=0::s.data.toList:=by rw [eT,ByteArray.data_append,Array.toList_append];rfl
 have hTs:T.size=1+s.size:=by rw [eT,ByteArray.size_append];rfl
 have q1:¬9223372036854775807<1+s.size:=by omega
 obtain⟨m,em⟩:∃m,m=leafL s.data.toList:=⟨_,rfl⟩
 have hm:m.length=32:=by rw [em];exact leafL_len _
 have hsum:∀W,Calls Tryz.prog 80 #[.string T] W fun e w'=>e= .returned (hv m)∧Only NoneOf W w':=fun W=>by
  have h:=sum_any T W (by omega)
  rw [hT] at h
  rw [em];exact h
 rw [←em]
 have hcat:=eT.symm
 have hb0:HaAt (w.alloc (.cells (Array.replicate 32 (.int .u8 0)) 35)) w.heap.size zeroH:=by
  unfold HaAt
  rw [zeroH_cells]
  exact Blk.new w _ _
 obtain⟨B,eB⟩:∃B,B=w.heap.size:=⟨_,rfl⟩
 rw [←eB] at hb0
 have HB0:=Lib.hid hb0
 have EB:=Lib.hid eB
 have HSUM:=Lib.hid hsum
 have HM:=Lib.hid hm
 clear hsum em hT hTs eT hm hb0 eB hs
 go_enter Tryz.func106,Tryz.ntmps106
 go_upto_region 1 with(fail)
 rw [←EB.out]
 refine wp_gen (fun Z=>HaAt Z B zeroH∧Only NoneOf w Z) ⟨HB0.out,(Only.refl _ _).alloc _⟩ ?_
 rintro Z ⟨hz,hzo⟩
 have HZ:=Lib.hid (And.intro hz hzo)
 clear hz hzo HB0
 go_wp2_with fail
 refine(HSUM.out _).mono ?_
 rintro e1 w1 ⟨rfl,ho1⟩
 have hb1:HaAt w1 B zeroH:=Blk.only HZ.out.1 ho1 (fun e=>e)
 have hst:=ha_store hb1 rfl HM.out
 have HB2:=Lib.hid (hb1.put rfl HM.out)
 have HO2:=Lib.hid (only_setCells (HZ.out.2.trans ho1) B 0 (.inr (by have:=EB.out;omega)) (m.map bv))
 clear hb1 ho1
 go_wp2_with fail
 refine bodyPost_ret (v:=hv m) (results_blk rfl rfl HB2.out Tryz.underlying35 rfl (ha_info HM.out)) rfl ⟨rfl,HO2.out⟩
set_option maxRecDepth 100000 in
set_option maxHeartbeats 2000000 in
theorem tnode_any (a b:Hs) (ha:a.length=32) (hb:b.length=32) (w:World):Calls Tryz.prog 84 #[hv a,hv b] w fun e w'=>e= .returned (hv (nodeL a b))∧Only NoneOf w w':=by
 obtain⟨SA,eSA⟩:∃A:ByteArray,A=⟨a.toArray⟩:=⟨_,rfl⟩
 obtain⟨SB,eSB⟩:∃A:ByteArray,A=⟨b.toArray⟩:=⟨_,rfl⟩
 have zA:SA.size=32:=by rw [size_list,eSA];simpa using ha
 have zB:SB.size=32:=by rw [size_list,eSB];simpa using hb
 obtain⟨T,eT⟩:∃T:ByteArray,T=⟨#[1]⟩ ++SA++SB:=⟨_,rfl⟩
 have hT:T.data.toList=1::(a++b):=by rw [eT,eSA,eSB];simp
 have hTs:T.size=65:=by rw [eT,ByteArray.size_append,ByteArray.size_append,zA,zB];rfl
 have q1:¬9223372036854775807<1+SA.size:=by omega
 have q2:¬9223372036854775807<1+SA.size+SB.size:=by omega
 obtain⟨m,em⟩:∃m,m=nodeL a b:=⟨_,rfl⟩
 have hm:m.length=32:=by rw [em];exact nodeL_len _ _
 have hsum:∀W,Calls Tryz.prog 80 #[.string T] W fun e w'=>e= .returned (hv m)∧Only NoneOf W w':=fun W=>by
  have h:=sum_any T W (by omega)
  rw [hT] at h
  rw [em];exact h
 rw [←em]
 have hcat:=eT.symm
 obtain⟨B,eB⟩:∃B,B=w.heap.size:=⟨_,rfl⟩
 have hS0:=NdS.new w a b
 rw [←eB] at hS0
 have HS0:=Lib.hid hS0
 have EB:=Lib.hid eB
 have HSUM:=Lib.hid hsum
 have HM:=Lib.hid hm
 have HAB:=Lib.hid (And.intro ha hb)
 have ESA:=Lib.hid eSA
 have ESB:=Lib.hid eSB
 clear hsum em hT hTs eT hm hS0 eB ha hb eSA eSB zA zB
 unfold hv
 go_enter Tryz.func84,Tryz.ntmps84
 go_upto_region 1 with(fail)
 rw [←EB.out]
 refine wp_gen (NdS w B a b) HS0.out ?_
 intro Z hZ
 obtain⟨f,hfx⟩:=family (NdS w B a b) (hZ.keep (Only.refl _ _).drew)
 obtain⟨F,hI,hF0,hF,hFS⟩:=hfx
 have C1:Hid (∀x,Calls Tryz.prog 80 #[.string T] (F x) fun e w'=>e= .returned (hv m)∧∃y,w'=F y):=Lib.hid (fun x=> (HSUM.out (F x)).mono (fun e w' hh=> ⟨hh.1,(hF w').1 ((hFS x).keep hh.2)⟩))
 have m1:∀x,(convert 22 9 (.slice (some ⟨B,0,none⟩) 32 32)).run Tryz.prog (F x)= .ok (.string SA) (F x):=fun x=>by rw [ESA.out];exact tr_back (hFS x).a.bytes HAB.out.1
 have m2:∀x,(convert 22 9 (.slice (some ⟨B+1,0,none⟩) 32 32)).run Tryz.prog (F x)= .ok (.string SB) (F x):=fun x=>by rw [ESB.out];exact tr_back (hFS x).b.bytes HAB.out.2
 have HF:=Lib.hid hF
 have HF0:=Lib.hid hF0
 clear hF hF0 hFS hZ HS0 HSUM
 refine wp_region_family_tail F 7 (by kernel_rfl) (by kernel_rfl) HF0.out ?_
 simp only [List.take_succ_cons,List.take_zero,List.drop_succ_cons,List.drop_zero]
 repeat(go_big_quiet_step (with_reducible exact C1.out _))
 refine wpQuiet_nil ?_
 intro w9 hw9
 have hS9:=(HF.out w9).2 hw9
 have hst:=ha_store hS9.r rfl HM.out
 have HB2:=Lib.hid (hS9.r.put rfl HM.out)
 have HO2:=Lib.hid (only_setCells hS9.only (B+1+1) 0 (.inr (by have:=EB.out;omega)) (m.map bv))
 clear hw9 hS9 m1 m2
 go_wp2_with fail
 refine bodyPost_ret (v:=hv m) (results_blk rfl rfl HB2.out Tryz.underlying35 rfl (ha_info HM.out)) rfl ⟨rfl,HO2.out⟩
set_option maxRecDepth 100000 in
set_option maxHeartbeats 2000000 in
theorem rleaf_any (s:ByteArray) (w:World) (hs:s.size≤17592186044416):Calls Tryz.prog 72 #[.string s] w fun e w'=>e= .returned (hv (leafL s.data.toList))∧Only NoneOf w w':=by
 obtain⟨T,eT⟩:∃T:ByteArray,T=⟨#[0]⟩ ++s:=⟨_,rfl⟩
 have hT:T.data.toList=0::s.data.toList:=by rw [eT,ByteArray.data_append,Array.toList_append];rfl
 have hTs:T.size=1+s.size:=by rw [eT,ByteArray.size_append];rfl
 have q1:¬9223372036854775807<1+s.size:=by omega
 obtain⟨m,em⟩:∃m,m=leafL s.data.toList:=⟨_,rfl⟩
 have hm:m.length=32:=by rw [em];exact leafL_len _
 have hsum:∀W,Calls Tryz.prog 71 #[.string T] W fun e w'=>e= .returned (hv m)∧Only NoneOf W w':=fun W=>by
  have h:=rsum_any T W (by omega)
  rw [hT] at h
  rw [em];exact h
 rw [←em]
 have hcat:=eT.symm
 have hb0:HaAt (w.alloc (.cells (Array.replicate 32 (.int .u8 0)) 35)) w.heap.size zeroH:=by
  unfold HaAt
  rw [zeroH_cells]
  exact Blk.new w _ _
 obtain⟨B,eB⟩:∃B,B=w.heap.size:=⟨_,rfl⟩
 rw [←eB] at hb0
 have HB0:=Lib.hid hb0
 have EB:=Lib.hid eB
 have HSUM:=Lib.hid hsum
 have HM:=Lib.hid hm
 clear hsum em hT hTs eT hm hb0 eB hs
 go_enter Tryz.func72,Tryz.ntmps72
 go_upto_region 1 with(fail)
 rw [←EB.out]
 refine wp_gen (fun Z=>HaAt Z B zeroH∧Only NoneOf w Z) ⟨HB0.out,(Only.refl _ _).alloc _⟩ ?_
 rintro Z ⟨hz,hzo⟩
 have HZ:=Lib.hid (And.intro hz hzo)
 clear hz hzo HB0
 go_wp2_with fail
 refine(HSUM.out _).mono ?_
 rintro e1 w1 ⟨rfl,ho1⟩
 have hb1:HaAt w1 B zeroH:=Blk.only HZ.out.1 ho1 (fun e=>e)
 have hst:=ha_store hb1 rfl HM.out
 have HB2:=Lib.hid (hb1.put rfl HM.out)
 have HO2:=Lib.hid (only_setCells (HZ.out.2.trans ho1) B 0 (.inr (by have:=EB.out;omega)) (m.map bv))
 clear hb1 ho1
 go_wp2_with fail
 refine bodyPost_ret (v:=hv m) (results_blk rfl rfl HB2.out Tryz.underlying35 rfl (ha_info HM.out)) rfl ⟨rfl,HO2.out⟩
set_option maxRecDepth 100000 in
set_option maxHeartbeats 2000000 in
theorem rnode_any (a b:Hs) (ha:a.length=32) (hb:b.length=32) (w:World):Calls Tryz.prog 73 #[hv a,hv b] w fun e w'=>e= .returned (hv (nodeL a b))∧Only NoneOf w w':=by
 obtain⟨SA,eSA⟩:∃A:ByteArray,A=⟨a.toArray⟩:=⟨_,rfl⟩
 obtain⟨SB,eSB⟩:∃A:ByteArray,A=⟨b.toArray⟩:=⟨_,rfl⟩
 have zA:SA.size=32:=by rw [size_list,eSA];simpa using ha
 have zB:SB.size=32:=by rw [size_list,eSB];simpa using hb
 obtain⟨T,eT⟩:∃T:ByteArray,T=⟨#[1]⟩ ++SA++SB:=⟨_,rfl⟩
 have hT:T.data.toList=1::(a++b):=by rw [eT,eSA,eSB];simp
 have hTs:T.size=65:=by rw [eT,ByteArray.size_append,ByteArray.size_append,zA,zB];rfl
 have q1:¬9223372036854775807<1+SA.size:=by omega
 have q2:¬9223372036854775807<1+SA.size+SB.size:=by omega
 obtain⟨m,em⟩:∃m,m=nodeL a b:=⟨_,rfl⟩
 have hm:m.length=32:=by rw [em];exact nodeL_len _ _
 have hsum:∀W,Calls Tryz.prog 71 #[.string T] W fun e w'=>e= .returned (hv m)∧Only NoneOf W w':=fun W=>by
  have h:=rsum_any T W (by omega)
  rw [hT] at h
  rw [em];exact h
 rw [←em]
 have hcat:=eT.symm
 obtain⟨B,eB⟩:∃B,B=w.heap.size:=⟨_,rfl⟩
 have hS0:=NdS.new w a b
 rw [←eB] at hS0
 have HS0:=Lib.hid hS0
 have EB:=Lib.hid eB
 have HSUM:=Lib.hid hsum
 have HM:=Lib.hid hm
 have HAB:=Lib.hid (And.intro ha hb)
 have ESA:=Lib.hid eSA
 have ESB:=Lib.hid eSB
 clear hsum em hT hTs eT hm hS0 eB ha hb eSA eSB zA zB
 unfold hv
 go_enter Tryz.func73,Tryz.ntmps73
 go_upto_region 1 with(fail)
 rw [←EB.out]
 refine wp_gen (NdS w B a b) HS0.out ?_
 intro Z hZ
 obtain⟨f,hfx⟩:=family (NdS w B a b) (hZ.keep (Only.refl _ _).drew)
 obtain⟨F,hI,hF0,hF,hFS⟩:=hfx
 have C1:Hid (∀x,Calls Tryz.prog 71 #[.string T] (F x) fun e w'=>e= .returned (hv m)∧∃y,w'=F y):=Lib.hid (fun x=> (HSUM.out (F x)).mono (fun e w' hh=> ⟨hh.1,(hF w').1 ((hFS x).keep hh.2)⟩))
 have m1:∀x,(convert 22 9 (.slice (some ⟨B,0,none⟩) 32 32)).run Tryz.prog (F x)= .ok (.string SA) (F x):=fun x=>by rw [ESA.out];exact tr_back (hFS x).a.bytes HAB.out.1
 have m2:∀x,(convert 22 9 (.slice (some ⟨B+1,0,none⟩) 32 32)).run Tryz.prog (F x)= .ok (.string SB) (F x):=fun x=>by rw [ESB.out];exact tr_back (hFS x).b.bytes HAB.out.2
 have HF:=Lib.hid hF
 have HF0:=Lib.hid hF0
 clear hF hF0 hFS hZ HS0 HSUM
 refine wp_region_family_tail F 7 (by kernel_rfl) (by kernel_rfl) HF0.out ?_
 simp only [List.take_succ_cons,List.take_zero,List.drop_succ_cons,List.drop_zero]
 repeat(go_big_quiet_step (with_reducible exact C1.out _))
 refine wpQuiet_nil ?_
 intro w9 hw9
 have hS9:=(HF.out w9).2 hw9
 have hst:=ha_store hS9.r rfl HM.out
 have HB2:=Lib.hid (hS9.r.put rfl HM.out)
 have HO2:=Lib.hid (only_setCells hS9.only (B+1+1) 0 (.inr (by have:=EB.out;omega)) (m.map bv))
 clear hw9 hS9 m1 m2
 go_wp2_with fail
 refine bodyPost_ret (v:=hv m) (results_blk rfl rfl HB2.out Tryz.underlying35 rfl (ha_info HM.out)) rfl ⟨rfl,HO2.out⟩
end Go.Proofs.YtgalfohobgjelaaGreatDoor
namespace Go.Proofs.YtgalfohobgjelaaGreatDoor
open Go.RowKit Go.Shelf
attribute [local go_sem ↓ high] haLoad_eq haStore_eq
def StSl (w:World) (v:Value) (L:List ByteArray):Prop:=
 ∃A cap,v= .slice A L.length cap∧L.length≤cap∧cap≤9223372036854775807∧∀(i:Nat) (s:ByteArray),L[i]? =some s→∃g o,A=some ⟨g,o,none⟩∧w.cell? ⟨g,o+i,none⟩=some (.string s)
theorem StSl.only {w w':World} {v:Value} {L:List ByteArray} (h:StSl w v L) (ho:Only NoneOf w w'):StSl w' v L:=by
 obtain⟨A,cap,hv,h1,h2,h3⟩:=h
 refine⟨A,cap,hv,h1,h2,fun i s hs=> ?_⟩
 obtain⟨g,o,hA,hc⟩:=h3 i s hs
 exact⟨g,o,hA,ho.cell_some hc (fun e=>e)⟩
theorem StSl.nil (w:World):StSl w (.slice none 0 0) []:=⟨none,0,rfl,Nat.le_refl _,by omega,fun i s h=>by simp at h⟩
theorem StSl.take {w:World} {g o n cap k:Nat} {L:List ByteArray} (h:StSl w (.slice (some ⟨g,o,none⟩) n cap) L) (hk:k≤L.length):StSl w (.slice (some ⟨g,o,none⟩) k cap) (L.take k):=by
 obtain⟨A,cap',e,h1,h2,h3⟩:=h
 simp only [Value.slice.injEq] at e
 obtain⟨rfl,rfl,rfl⟩:=e
 refine⟨some ⟨g,o,none⟩,cap,by rw [List.length_take,Nat.min_eq_left hk],by rw [List.length_take];omega,h2,fun i s hs=> ?_⟩
 obtain⟨g',o',e,hc⟩:=h3 i s (by
  rw [List.getElem?_take] at hs
  split at hs
  ·exact hs
  ·cases hs)
 exact⟨g',o',e,hc⟩
theorem StSl.drop {w:World} {g o n cap k:Nat} {L:List ByteArray} (h:StSl w (.slice (some ⟨g,o,none⟩) n cap) L) (hk:k≤L.length):StSl w (.slice (some ⟨g,o+k,none⟩) (L.length - k) (cap - k)) (L.drop k):=by
 obtain⟨A,cap',e,h1,h2,h3⟩:=h
 simp only [Value.slice.injEq] at e
 obtain⟨rfl,rfl,rfl⟩:=e
 refine⟨some ⟨g,o+k,none⟩,cap - k,by rw [List.length_drop],by rw [List.length_drop];omega,by omega,fun i s hs=> ?_⟩
 rw [List.getElem?_drop] at hs
 obtain⟨g',o',e,hc⟩:=h3 (k+i) s hs
 simp only [Option.some.injEq,Addr.mk.injEq,and_true] at e
 obtain⟨rfl,rfl⟩:=e
 exact⟨g,o+k,rfl,by rw [Nat.add_assoc];exact hc⟩
def txs (L:List ByteArray):List (List UInt8):=L.map (·.data.toList)
theorem txs_len (L:List ByteArray):(txs L).length=L.length:=List.length_map _
def ShortTs (L:List ByteArray):Prop:=∀s∈L,s.size≤17592186044416
structure RtS (w:World) (B:Nat) (v:Value) (L:List ByteArray) (W:World):Prop where
 l:StSl W v L
 r:HaAt W B zeroH
 only:Only NoneOf w W
theorem RtS.keep {w:World} {B:Nat} {v:Value} {L:List ByteArray} {W W':World} (h:RtS w B v L W) (ho:Only NoneOf W W'):RtS w B v L W':=⟨h.l.only ho,Blk.only h.r ho (fun e=>e),h.only.trans ho⟩
theorem RtS.new {w:World} {v:Value} {L:List ByteArray} (h:StSl w v L):RtS w w.heap.size v L (w.alloc (.cells (Array.replicate 32 (.int .u8 0)) 35)):=by
 refine⟨h.only ((Only.refl _ _).alloc _),?_,(Only.refl _ _).alloc _⟩
 unfold HaAt
 rw [zeroH_cells]
 exact Blk.new w _ _
theorem rootL_len (l:List (List UInt8)):(rootL l).length=32:=by
 have:∀f l,(rootF f l).length=32:=fun f=>by
  induction f with
  |zero=>intro l;exact shaL_len _
  |succ f ih=>
   intro l
   match l with
   | []=>exact shaL_len _
   | [x]=>exact shaL_len _
   |x::y::l=>exact shaL_len _
 exact this _ _
set_option maxRecDepth 100000 in
set_option maxHeartbeats 4000000 in
theorem rroot_any:∀(f:Nat) (L:List ByteArray) (_:L.length≤f) (_:L.length≤1000) (_:ShortTs L) (v:Value) (w:World) (_:StSl w v L),Calls Tryz.prog 42 #[v] w fun e w'=>e= .returned (hv (rootL (txs L)))∧Only NoneOf w w'
 |f,L,hf,hm,hsh,v,w,hs=>by
  obtain⟨m,em⟩:∃m,m=rootL (txs L):=⟨_,rfl⟩
  have hml:m.length=32:=by rw [em];exact rootL_len _
  rw [←em]
  obtain⟨A,cap,rfl,hlc,hcm,hA⟩:=id hs
  have hS0:=RtS.new hs
  obtain⟨B,eB⟩:∃B,B=w.heap.size:=⟨_,rfl⟩
  rw [←eB] at hS0
  have HS0:=Lib.hid hS0
  have EB:=Lib.hid eB
  have EM:=Lib.hid em
  have HML:=Lib.hid hml
  have HSH:=Lib.hid hsh
  by_cases h0:L.length=0
  ·have hL:L= []:=List.eq_nil_of_length_eq_zero h0
   subst hL
   have hsum:∀W,Calls Tryz.prog 71 #[.string ⟨#[]⟩] W fun e w'=>e= .returned (hv m)∧Only NoneOf W w':=fun W=>by
    rw [em];exact rsum_any ⟨#[]⟩ W (by decide)
   have HSUM:=Lib.hid hsum
   clear hsum em hml hsh hs hA hS0 eB h0 hf hm
   go_enter Tryz.func42,Tryz.ntmps42
   go_upto_region 1 with(fail)
   rw [←EB.out]
   refine wp_gen (RtS w B (.slice A [].length cap) []) HS0.out ?_
   intro Z hZ
   have HZ:=Lib.hid hZ
   clear hZ HS0
   go_wp2_with fail
   refine(HSUM.out _).mono ?_
   rintro e1 w1 ⟨rfl,ho1⟩
   have hb1:=HZ.out.keep ho1
   have hst:=ha_store hb1.r rfl HML.out
   have HB2:=Lib.hid (hb1.r.put rfl HML.out)
   have HO2:=Lib.hid (only_setCells hb1.only B 0 (.inr (by have:=EB.out;omega)) (m.map bv))
   clear hb1 ho1
   go_wp2_with fail
   refine bodyPost_ret (v:=hv m) (results_blk rfl rfl HB2.out Tryz.underlying35 rfl (ha_info HML.out)) rfl ⟨rfl,HO2.out⟩
  ·have d0:((L.length:Int)==0)=false:=by rw [beq_eq_false_iff_ne];omega
   obtain⟨s0,hs0⟩:∃s,L[0]? =some s:=⟨_,List.getElem?_eq_getElem (by omega)⟩
   obtain⟨g,o,rfl,hc0⟩:=hA 0 s0 hs0
   by_cases h1:L.length=1
   ·have hL:L= [s0]:=by
     match L,h1,hs0 with
     | [x],_,h=>simp at h;rw [h]
    have d1:((L.length:Int)==1)=true:=by simp [h1]
    have il:(0:Int) < (L.length:Int):=by omega
    have hleaf:∀W,Calls Tryz.prog 72 #[.string s0] W fun e w'=>e= .returned (hv m)∧Only NoneOf W w':=fun W=>by
     have h:=rleaf_any s0 W (hsh s0 (List.mem_of_getElem? hs0))
     rw [em,hL];exact h
    have HLEAF:=Lib.hid hleaf
    have HC0:=Lib.hid hc0
    clear hleaf em hml hsh hs hA hS0 eB h0 hf hm hs0 hc0 hL h1
    go_enter Tryz.func42,Tryz.ntmps42
    go_upto_region 1 with(fail)
    rw [←EB.out]
    refine wp_gen (RtS w B (.slice (some ⟨g,o,none⟩) L.length cap) L) HS0.out ?_
    intro Z hZ
    have c0:Z.cell? ⟨g,o,none⟩=some (.string s0):=hZ.only.cell_some HC0.out (fun e=>e)
    have HZ:=Lib.hid hZ
    clear hZ HS0
    go_wp2_with fail
    refine(HLEAF.out _).mono ?_
    rintro e1 w1 ⟨rfl,ho1⟩
    have hb1:=HZ.out.keep ho1
    have hst:=ha_store hb1.r rfl HML.out
    have HB2:=Lib.hid (hb1.r.put rfl HML.out)
    have HO2:=Lib.hid (only_setCells hb1.only B 0 (.inr (by have:=EB.out;omega)) (m.map bv))
    clear hb1 ho1 c0
    go_wp2_with fail
    refine bodyPost_ret (v:=hv m) (results_blk rfl rfl HB2.out Tryz.underlying35 rfl (ha_info HML.out)) rfl ⟨rfl,HO2.out⟩
   ·have d1:((L.length:Int)==1)=false:=by rw [beq_eq_false_iff_ne];omega
    have hsp:=halfN_spec (n:=L.length) (by omega) (by omega)
    obtain⟨k,ek⟩:∃k,k=halfN L.length:=⟨_,rfl⟩
    rw [←ek] at hsp
    obtain⟨f',rfl⟩:∃f',f=f'+1:=⟨f - 1,by omega⟩
    obtain⟨a,ea⟩:∃a,a=rootL (txs (L.take k)):=⟨_,rfl⟩
    obtain⟨b,eb⟩:∃b,b=rootL (txs (L.drop k)):=⟨_,rfl⟩
    have hab:m=nodeL a b:=by
     rw [em,rootL_two (l:=txs L) (by rw [txs_len];omega) (by rw [txs_len];omega),txs_len,←ek,ea,eb]
     unfold txs
     rw [List.map_take,List.map_drop]
    have hhalf:∀W,Calls Tryz.prog 60 #[.int .i64 (L.length:Int)] W fun e w'=>e= .returned (.int .i64 (k:Int))∧w'=W:=fun W=>by rw [ek];exact rhalf_any L.length (by omega) (by omega) W
    have r1:∀W,StSl W (.slice (some ⟨g,o,none⟩) L.length cap) L→Calls Tryz.prog 42 #[.slice (some ⟨g,o,none⟩) k cap] W fun e w'=>e= .returned (hv a)∧Only NoneOf W w':=fun W h=>by
     rw [ea]
     exact rroot_any f' (L.take k) (by rw [List.length_take];omega) (by rw [List.length_take];omega) (fun s h=>hsh s (List.mem_of_mem_take h)) _ W (h.take (by omega))
    have r2:∀W,StSl W (.slice (some ⟨g,o,none⟩) L.length cap) L→Calls Tryz.prog 42 #[.slice (some ⟨g,o+k,none⟩) (L.length - k) (cap - k)] W fun e w'=>e= .returned (hv b)∧Only NoneOf W w':=fun W h=>by
     rw [eb]
     exact rroot_any f' (L.drop k) (by rw [List.length_drop];omega) (by rw [List.length_drop];omega) (fun s h=>hsh s (List.mem_of_mem_drop h)) _ W (h.drop (by omega))
    have r3:∀W,Calls Tryz.prog 73 #[hv a,hv b] W fun e w'=>e= .returned (hv m)∧Only NoneOf W w':=fun W=>by rw [hab];exact rnode_any a b (by rw [ea];exact rootL_len _) (by rw [eb];exact rootL_len _) W
    have HH:=Lib.hid hhalf
    have R1:=Lib.hid r1
    have R2:=Lib.hid r2
    have R3:=Lib.hid r3
    have ik0:(0:Int)≤(k:Int):=by omega
    have ik1:(k:Int)≤(cap:Int):=by omega
    have ik2:(k:Int)≤(L.length:Int):=by omega
    have il:(L.length:Int)≤(cap:Int):=by omega
    have nk:¬cap=k:=by omega
    clear hhalf r1 r2 r3 ea eb ek em hab hml hsh hs hA hS0 eB h0 h1 hf hs0 hc0
    go_enter Tryz.func42,Tryz.ntmps42
    go_upto_region 1 with(fail)
    rw [←EB.out]
    refine wp_gen (RtS w B (.slice (some ⟨g,o,none⟩) L.length cap) L) HS0.out ?_
    intro Z hZ
    have HZ:=Lib.hid hZ
    clear hZ HS0
    go_wp2_with fail
    refine(HH.out _).mono ?_
    rintro e1 w1 ⟨rfl,rfl⟩
    go_upto_region 6 with(fail)
    obtain⟨ft,hfx⟩:=family (RtS w B (.slice (some ⟨g,o,none⟩) L.length cap) L) (HZ.out.keep (Only.refl _ _).drew)
    obtain⟨F,hI,hF0,hF,hFS⟩:=hfx
    have D1:Hid (∀x,Calls Tryz.prog 42 #[.slice (some ⟨g,o,none⟩) k cap] (F x) fun e w'=>e= .returned (hv a)∧∃y,w'=F y):=Lib.hid (fun x=> (R1.out _ (hFS x).l).mono (fun e w' hh=> ⟨hh.1,(hF w').1 ((hFS x).keep hh.2)⟩))
    have D2:Hid (∀x,Calls Tryz.prog 42 #[.slice (some ⟨g,o+k,none⟩) (L.length - k) (cap - k)] (F x) fun e w'=>e= .returned (hv b)∧∃y,w'=F y):=Lib.hid (fun x=> (R2.out _ (hFS x).l).mono (fun e w' hh=> ⟨hh.1,(hF w').1 ((hFS x).keep hh.2)⟩))
    have D3:Hid (∀x,Calls Tryz.prog 73 #[hv a,hv b] (F x) fun e w'=>e= .returned (hv m)∧∃y,w'=F y):=Lib.hid (fun x=> (R3.out _).mono (fun e w' hh=> ⟨hh.1,(hF w').1 ((hFS x).keep hh.2)⟩))
    have HF:=Lib.hid hF
    have HF0:=Lib.hid hF0
    clear hF hF0 hFS R1 R2 R3
    refine wp_region_family_tail F 9 (by kernel_rfl) (by kernel_rfl) HF0.out ?_
    simp only [List.take_succ_cons,List.take_zero,List.drop_succ_cons,List.drop_zero]
    repeat(go_big_quiet_step (first|(with_reducible exact D1.out _)|(with_reducible exact D2.out _)|(with_reducible exact D3.out _)))
    refine wpQuiet_nil ?_
    intro w9 hw9
    have hS9:=(HF.out w9).2 hw9
    have hst:=ha_store hS9.r rfl HML.out
    have HB2:=Lib.hid (hS9.r.put rfl HML.out)
    have HO2:=Lib.hid (only_setCells hS9.only B 0 (.inr (by have:=EB.out;omega)) (m.map bv))
    clear hw9 hS9
    go_wp2_with fail
    refine bodyPost_ret (v:=hv m) (results_blk rfl rfl HB2.out Tryz.underlying35 rfl (ha_info HML.out)) rfl ⟨rfl,HO2.out⟩
 termination_by f=>f
set_option maxRecDepth 100000 in
set_option maxHeartbeats 2000000 in
theorem troot_nil (w:World):Calls Tryz.prog 79 #[.slice none 0 0] w fun e w'=>e= .returned (hv (rootL []))∧Only NoneOf w w':=by
 obtain⟨m,em⟩:∃m,m=rootL []:=⟨_,rfl⟩
 have hml:m.length=32:=by rw [em];exact rootL_len _
 rw [←em]
 have hsum:∀W,Calls Tryz.prog 80 #[.string ⟨#[]⟩] W fun e w'=>e= .returned (hv m)∧Only NoneOf W w':=fun W=>by
  rw [em];exact sum_any ⟨#[]⟩ W (by decide)
 have hS0:=RtS.new (StSl.nil w)
 obtain⟨B,eB⟩:∃B,B=w.heap.size:=⟨_,rfl⟩
 rw [←eB] at hS0
 have HS0:=Lib.hid hS0
 have EB:=Lib.hid eB
 have HSUM:=Lib.hid hsum
 have HML:=Lib.hid hml
 clear hsum em hml hS0 eB
 go_enter Tryz.func79,Tryz.ntmps79
 go_upto_region 1 with(fail)
 rw [←EB.out]
 refine wp_gen (RtS w B (.slice none 0 0) []) HS0.out ?_
 intro Z hZ
 have HZ:=Lib.hid hZ
 clear hZ HS0
 go_wp2_with fail
 refine(HSUM.out _).mono ?_
 rintro e1 w1 ⟨rfl,ho1⟩
 have hb1:=HZ.out.keep ho1
 have hst:=ha_store hb1.r rfl HML.out
 have HB2:=Lib.hid (hb1.r.put rfl HML.out)
 have HO2:=Lib.hid (only_setCells hb1.only B 0 (.inr (by have:=EB.out;omega)) (m.map bv))
 clear hb1 ho1
 go_wp2_with fail
 refine bodyPost_ret (v:=hv m) (results_blk rfl rfl HB2.out Tryz.underlying35 rfl (ha_info HML.out)) rfl ⟨rfl,HO2.out⟩
end Go.Proofs.YtgalfohobgjelaaGreatDoor
