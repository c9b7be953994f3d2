/- What is proved here:several parts. a region that draws its order and whose calls leave a class of worlds:one walk,in the order of the text,the class told as a family of worlds;no function of the program. No conditions. · a vote is noted by the client:whether it is fresh,and what the client has seen then. Conditions:the vote's numbers are ints,its root has 32 bytes. · several parts. the setup that the laws on quorums use,without odd persons. Condition:the number is an int. · plain facts of the quorum laws' check:signed votes count,three of four officers certify. No conditions. · the check of the quorum laws answers true. Condition:the table of powers of ten reads as its initialiser lays it. · several parts. which officers contradict themselves,and by which votes:plain laws. No conditions. · the heads,lists of heads and votes that the laws make from numbers:plain laws. No conditions. · heads by numbers,as the laws' reference makes them. Condition:the number is an int. · a vote by numbers,as the laws' reference makes it. Condition:the numbers are bytes. · votes by numbers,40 at most,as the laws' reference makes them. Condition:the numbers are bytes. · the votes that the client has not yet seen are picked out. Conditions:the votes' numbers are ints,their roots have 32 bytes,there are few;they do not lie in what belongs to the client. -/
import Derived.Test.YtgalfohobgjelaaGreatDoorFr05
import Derived.Test.YtgalfohobgjelaaGreatDoorFr08
import Derived.Test.YtgalfohobgjelaaGreatDoorFr09
import Derived.Test.YtgalfohobgjelaaGreatDoorFr10
import Derived.Test.YtgalfohobgjelaaGreatDoorFr12
import Derived.Test.YtgalfohobgjelaaGreatDoorFr13
import Derived.Test.YtgalfohobgjelaaGreatDoorFr14
import Derived.Test.YtgalfohobgjelaaGreatDoorFr15
import Derived.Test.YtgalfohobgjelaaGreatDoorRows
import Derived.BigQuiet
import Derived.Deep.DeepCutAuto
import Derived.Laws.EntriesVeiled
namespace Go.Proofs.YtgalfohobgjelaaGreatDoor
open Go.RowKit
theorem family (S:World→Prop) {W0:World} (h0:S W0):∃(I:Type) (f:I→World),Nonempty I∧(∃x,W0=f x)∧(∀W,S W ↔ ∃x,W=f x)∧∀x,S (f x):=
 ⟨{W // S W},Subtype.val,⟨⟨W0,h0⟩⟩,⟨⟨W0,h0⟩,rfl⟩,fun W=> ⟨fun h=> ⟨⟨W,h⟩,rfl⟩,fun⟨x,hx⟩=>hx▸x.2⟩,fun x=>x.2⟩
theorem wp_region_family {P:Program} {id:Nat} {Q:Exit→Act→World→Prop} {a:Act} {w:World} {l:List Oper} {I:Type} (f:I→World) (hm:P.follows .mixedOrders=true) (hB:Region.lexB .any l.toArray=true) (hC:∃x,w.drew=f x)
  (h:wpQuiet P l.toArray (fun w'=> ∃x,w'=f x) (fun a'=> ∀w',(∃x,w'=f x)→Q .normal a' w') l a):(Code.region id l.toArray true).wp P Q a w:=
 wp_region_quiet (C:=fun w'=> ∃x,w'=f x) hm hB hC (by simpa using h)
theorem wp_region_family_tail {P:Program} {id:Nat} {Q:Exit→Act→World→Prop} {a:Act} {w:World} {l:List Oper} {I:Type} (f:I→World) (n:Nat) (hm:P.follows .mixedOrders=true) (hB:Region.lexTailB .any l.toArray n=true) (hC:∃x,w.drew=f x)
  (h:wpQuiet P l.toArray (fun w'=> ∃x,w'=f x) (fun a'=> ∀w',(∃x,w'=f x)→wpList P l.toArray Q (l.drop n) a' w') (l.take n) a):(Code.region id l.toArray true).wp P Q a w:=by
 simp only [Region.lexTailB,Bool.and_eq_true,decide_eq_true_eq] at hB
 obtain⟨⟨⟨⟨hsel,hn⟩,hs⟩,hc⟩,hlex⟩:=hB
 have hn':n<l.length:=by simpa using hn
 have htl:(l.take n).length=n:=by rw [List.length_take];omega
 have hdl:(l.drop n).length=l.toArray.size - n:=by simp
 have inv0:HeadInv .any l.toArray n (Array.replicate l.toArray.size false):=
  ⟨by simp,fun j _ _ hl=> (by rw [getD_replicate_false] at hl;cases hl),fun t _ ht=>getD_in (by simpa using ht) (getD_replicate_false _ _)⟩
 have H:=head_lex (g:=l.toArray.size - n) hsel hs hc hn (l.take n) 0 _ a (fun j hj=>by
  have:j<n:=by rwa [htl] at hj
  simp [this]) (by simpa using htl) inv0 (by rw [htl];exact hlex) h
 refine wp_region_any hm ?_
 have key:=any_of_head (Q:=Q) (g:=l.toArray.size - n) (fun done a' w' hw' hL=>by
  have:=wpAny_of_seq (md:= .any) (Q':=Q) (l.drop n) n done a' w' (fun j=>by simp [List.getElem?_drop]) (by rw [hdl];exact hL.1) (hL.2 w' hw')
  rwa [hdl] at this) _ _ _ { w with drawn:=w.drawn+1} hC H
 rw [htl,show n+ (l.toArray.size - n)=l.toArray.size by omega] at key
 exact key
end Go.Proofs.YtgalfohobgjelaaGreatDoor
namespace Go.Proofs.YtgalfohobgjelaaGreatDoor
open Go.RowKit Go.Shelf
open Go.Maps (Keyed)
attribute [local go_sem ↓ high] vtLoad_eq
theorem map_nil_nil (W:World):(binOp .eql 98 (.map none) (.map none)).run Tryz.prog W= .ok (.bool true) W:=by kernel_rfl
theorem map_some_nil (b:Nat) (W:World):(binOp .eql 98 (.map (some b)) (.map none)).run Tryz.prog W= .ok (.bool false) W:=by kernel_rfl
theorem CliAt.reseen {w w':World} {base:Nat} {c:Cli} (h:CliAt w base c) {b:Nat} (hb:c.mv= .map (some b)) (ho:Only (fun k=>k=b) w w') {M:List Vt} (hM:MapV w' Tryz.prog tVt b M.length (seenV M)) (ok:VtsOk M):
  CliAt w' base { c with seen:=M}∧CliStep w w' c { c with seen:=M}:=by
 have hmb:mapBlk c.mv=some b:=by rw [hb];rfl
 have hbb:=(h.seen.blk hmb).1
 refine⟨⟨h.blk.only ho (fun e=>h.ne_mv (by rw [hmb,e])),h.lo,h.hok,own_only h.pers ho (fun k hk e=>h.pv_mv hk (by rw [hmb,e])),own_only h.votes ho (fun k hk e=>h.vv_mv hk (by rw [hmb,e])),h.ok,.inr ⟨b,hb,hbb,hM⟩,ok⟩,ho.mono (fun k _ e=> .inr (.inr (.inr (by rw [hmb,e])))),fun k hk=> .inl hk⟩
theorem CliAt.newmap {w:World} {base:Nat} {c:Cli} (h:CliAt w base c) (_hmv:c.mv= .map none) (hb:base≤w.heap.size):
  CliAt ((w.alloc (.map #[] 0)).setCell ⟨c.C,43,none⟩ (.map (some w.heap.size))) base { c with mv:= .map (some w.heap.size),seen:= []}∧CliStep w ((w.alloc (.map #[] 0)).setCell ⟨c.C,43,none⟩ (.map (some w.heap.size))) c { c with mv:= .map (some w.heap.size),seen:= []}:=by
 have hlt:c.C<w.heap.size:=Blk.lt h.blk
 have ho1:Only NoneOf w (w.alloc (.map #[] 0)):=(Only.refl _ _).alloc _
 have h1:=h.nn ho1
 have ho2:Only (fun k=>k=c.C) (w.alloc (.map #[] 0)) ((w.alloc (.map #[] 0)).setCell ⟨c.C,43,none⟩ (.map (some w.heap.size))):=(Only.refl (fun k=>k=c.C) _).setCell (p:=⟨c.C,43,none⟩) (.inl rfl) _
 have hm:=MapV.made w Tryz.prog 43
 refine⟨⟨cli_put_seen h1.blk h1.hok.root _ _,h.lo,h.hok,own_only h1.pers ho2 (fun k hk e=>h1.ne_pv (by rw [hk,e])),own_only h1.votes ho2 (fun k hk e=>h1.ne_vv (by rw [hk,e])),h.ok,.inr ⟨w.heap.size,rfl,hb,?_⟩,fun v hv=>by cases hv⟩,(ho1.mono (fun _ _ e=>e.elim)).trans' ho2 (fun i _ e=> .inl e),fun k hk=> ?_⟩
 ·rw [seenV_nil]
  exact MapV.only hm ho2 (by omega)
 ·rcases hk with hk|hk|hk|hk
  ·exact .inl (.inl hk)
  ·exact .inl (.inr (.inl hk))
  ·exact .inl (.inr (.inr (.inl hk)))
  ·right
   have:w.heap.size=k:=by simpa [mapBlk] using hk
   omega
theorem see_look {W:World} {base b:Nat} {c:Cli} (h:CliAt W base c) (hb:c.mv= .map (some b)) {v:Vt} (vo:v.Ok):(Instr.lookup 98 (.map (some b)) (.agg (vtC v).toArray) false).run Tryz.prog W= .ok (.bool (hasB c.seen v)) W:=by
 obtain⟨kl,hk⟩:=key_vt vo
 have hm:=(h.seen.blk (k:=b) (by rw [hb];rfl)).2.2
 have hlk:=hm.look vt_law Tryz.underlying98 (zero_bool W) hk
 rw [hlk]
 cases hh:hasB c.seen v with
 |true=>rw [seenV_in (hasB_true.1 hh)];rfl
 |false=>rw [seenV_out h.sok vo (fun hm=>by rw [hasB_true.2 hm] at hh;cases hh)];rfl
structure FrS (w:World) (base N:Nat) (c0 c:Cli) (v:Vt) (b:Nat) (W:World):Prop where
 cli:CliAt W base c
 v:VtAt W N v
 step:CliStep w W c0 c
theorem FrS.keep {w:World} {base N:Nat} {c0 c:Cli} {v:Vt} {b:Nat} {W W':World} (h:FrS w base N c0 c v b W) (ho:Only NoneOf W W'):FrS w base N c0 c v b W':=
 ⟨h.cli.nn ho,Blk.only h.v ho (fun e=>e),h.step.trans (CliStep.nn ho)⟩
theorem take1_in {M:List Vt} {v:Vt} (h:hasB M v=true):take1 M v=M:=by unfold take1;rw [if_pos h]
theorem take1_out {M:List Vt} {v:Vt} (h:hasB M v=false):take1 M v=M++ [v]:=by unfold take1;rw [if_neg (by rw [h];simp)]
set_option maxRecDepth 100000 in
set_option maxHeartbeats 4000000 in
theorem fresh_any (c:Cli) (v:Vt) (vo:v.Ok) (base:Nat) (w:World) (h:CliAt w base c) (hb:base≤w.heap.size) (hn:c.seen.length≤1000000):
  Calls Tryz.prog 77 #[.pointer (some ⟨c.C,0,none⟩),.agg (vtC v).toArray] w fun e w'=>e= .returned (.bool (!hasB c.seen v))∧∃mv',CliAt w' base { c with mv:=mv',seen:=take1 c.seen v}∧CliStep w w' c { c with mv:=mv',seen:=take1 c.seen v}:=by
 have ho0:Only NoneOf w (w.alloc (.cells (vtC v).toArray 43)):=(Only.refl _ _).alloc _
 have hv0:VtAt (w.alloc (.cells (vtC v).toArray 43)) w.heap.size v:=Blk.new w _ _
 have h0:=h.nn ho0
 obtain⟨N,eN⟩:∃N,N=w.heap.size:=⟨_,rfl⟩
 rw [←eN] at hv0
 have hrl:=h.hok.root
 have HVO:=Lib.hid vo
 have EN:=Lib.hid eN
 rcases h.seen with⟨hmv,hM⟩|⟨b,hmv,hbb,hm⟩
 ·have c43:(w.alloc (.cells (vtC v).toArray 43)).cell? ⟨c.C,43,none⟩=some (.map none):=by rw [cli_seen h0.blk hrl,hmv]
  have c43b:((w.alloc (.cells (vtC v).toArray 43)).alloc (.map #[] 0)).cell? ⟨c.C,43,none⟩=some (.map none):=by rw [cli_seen (Blk.alloc h0.blk _) hrl,hmv]
  have c43f:((w.alloc (.cells (vtC v).toArray 43)).alloc (.map #[] 0)).frozen? ⟨c.C,43,none⟩=false:=(Blk.alloc h0.blk _).frozen 43
  have q1:=map_nil_nil
  have hmm:= @run_makeMap Tryz.prog
  have hZ:=h0.newmap hmv (by rw [World.size_alloc];omega)
  rw [World.size_alloc,←eN] at hZ
  obtain⟨b,eb⟩:∃b,b=N+1:=⟨_,rfl⟩
  rw [←eb] at hZ
  obtain⟨c1,ec1⟩:∃c1:Cli,c1= { c with mv:= .map (some b),seen:= []}:=⟨_,rfl⟩
  rw [←ec1] at hZ
  have eC:c1.C=c.C:=by rw [ec1]
  have hv1:VtAt (((w.alloc (.cells (vtC v).toArray 43)).alloc (.map #[] 0)).setCell ⟨c.C,43,none⟩ (.map (some b))) N v:=Blk.far (Blk.alloc hv0 _) (by
   have:=Blk.lt h.blk
   show N≠c.C
   omega) _
  have hS0:FrS w base N c c1 v b (((w.alloc (.cells (vtC v).toArray 43)).alloc (.map #[] 0)).setCell ⟨c.C,43,none⟩ (.map (some b))):=⟨hZ.1,hv1,(CliStep.nn ho0).trans hZ.2⟩
  have hm1:c1.mv= .map (some b):=by rw [ec1]
  have hM1:c1.seen= []:=by rw [ec1]
  have hbf:hasB c1.seen v=false:=by rw [hM1];rfl
  have hres:∀(W:World) (M:List Vt),M=take1 c1.seen v→CliAt W base { c1 with seen:=M}∧CliStep w W c { c1 with seen:=M}→∃mv',CliAt W base { c with mv:=mv',seen:=take1 c.seen v}∧CliStep w W c { c with mv:=mv',seen:=take1 c.seen v}:=fun W M e hh=> ⟨.map (some b),by
   rw [e,ec1] at hh
   rw [hM]
   exact hh⟩
  have hvl:(!hasB c.seen v)=(!false):=by rw [hM];rfl
  rw [hvl]
  have EB:Hid (b=w.heap.size+1):=Lib.hid (by rw [eb,eN])
  have hn1:c1.seen.length≤1000000:=by rw [hM1];simp
  have HS0:=Lib.hid hS0
  have HR:=Lib.hid hres
  have HM1:=Lib.hid hm1
  have HRL:Hid (c1.head.root.length=32):=Lib.hid (by rw [ec1];exact hrl)
  have HBF:=Lib.hid hbf
  have EC:=Lib.hid eC
  clear hmv hM hZ ec1 hv1 hS0 hm1 hM1 hbf hres hvl ho0 hv0 h0 eN hrl vo h eb eC
  go_enter Tryz.func77,Tryz.ntmps77
  go_upto_region 3 with(fail)
  rw [←EB.out,←EN.out]
  refine wp_gen (FrS w base N c c1 v b) HS0.out ?_
  intro Z hZ
  have HZ:=Lib.hid hZ
  clear hZ HS0 c43 c43b c43f q1 hmm
  obtain⟨ft,hfx⟩:=family (FrS w base N c c1 v b) (W0:=Z.drew) (HZ.out.keep (Only.refl NoneOf Z).drew)
  obtain⟨F,hI,hF0,hF,hFS⟩:=hfx
  have f1:∀x,(F x).cell? ⟨c.C,43,none⟩=some (.map (some b)):=fun x=>by rw [←EC.out,cli_seen (hFS x).cli.blk HRL.out,HM1.out]
  have f2:∀x,(vtLoad (.pointer (some ⟨N,0,none⟩))).run Tryz.prog (F x)= .ok (.agg (vtC v).toArray) (F x):=fun x=>vt_load (blk_range (hFS x).v) HVO.out.head.root
  have f3:∀x,(Instr.lookup 98 (.map (some b)) (.agg (vtC v).toArray) false).run Tryz.prog (F x)= .ok (.bool false) (F x):=fun x=>by rw [see_look (hFS x).cli HM1.out HVO.out,HBF.out]
  have HF:=Lib.hid hF
  have HF0:=Lib.hid hF0
  clear hF hF0 hFS
  refine wp_region_family F (by kernel_rfl) (by kernel_rfl) HF0.out ?_
  repeat(go_big_quiet_step (fail))
  refine wpQuiet_nil ?_
  intro w9 hw9
  have HZ9:=Lib.hid ((HF.out w9).2 hw9)
  clear hw9 f1 f2 f3 HF HF0 hI
  go_upto_region 5 with(fail)
  obtain⟨ft,hfx⟩:=family (FrS w base N c c1 v b) (W0:=w9.drew) (HZ9.out.keep (Only.refl NoneOf w9).drew)
  obtain⟨F,hI,hF0,hF,hFS⟩:=hfx
  have f1:∀x,(F x).cell? ⟨c.C,43,none⟩=some (.map (some b)):=fun x=>by rw [←EC.out,cli_seen (hFS x).cli.blk HRL.out,HM1.out]
  have f2:∀x,(vtLoad (.pointer (some ⟨N,0,none⟩))).run Tryz.prog (F x)= .ok (.agg (vtC v).toArray) (F x):=fun x=>vt_load (blk_range (hFS x).v) HVO.out.head.root
  have f3x:True:=trivial
  have f3:∀x,(Instr.lookup 98 (.map (some b)) (.agg (vtC v).toArray) false).run Tryz.prog (F x)= .ok (.bool false) (F x):=fun x=>by rw [see_look (hFS x).cli HM1.out HVO.out,HBF.out]
  have HF:=Lib.hid hF
  have HF0:=Lib.hid hF0
  clear hF hF0 hFS
  refine wp_region_family_tail F 5 (by kernel_rfl) (by kernel_rfl) HF0.out ?_
  simp only [List.take_succ_cons,List.take_zero,List.drop_succ_cons,List.drop_zero]
  repeat(go_big_quiet_step (fail))
  refine wpQuiet_nil ?_
  intro w8 hw8
  have hZ8:=(HF.out w8).2 hw8
  obtain⟨kl,hkl⟩:=key_vt HVO.out
  have hmm8:=(hZ8.cli.seen.blk (k:=b) (by rw [HM1.out];rfl)).2.2
  have HZ8:=Lib.hid hZ8
  have HKL:=Lib.hid hkl
  have HMM:=Lib.hid hmm8
  clear hw8 hZ8 hkl hmm8 f1 f2 f3 f3x HF HF0 hI
  go_wp2_with (at_mapUpdate;refine wpList_put _ rfl _ _ _ 98 rfl 43 4 vt_law Tryz.underlying98 b c1.seen.length _ rfl HMM.out (by rw [maxLen_val];omega) _ _ _ rfl rfl HKL.out ?_;intro w7 hown7 hgrow7)
  have hrs:=HZ8.out.cli.reseen HM1.out ((Only.refl (fun k=>k=b) w8).grown hgrow7 (fun k e=>by cases e;exact .inl rfl)) (M:=c1.seen++ [v]) (by rw [List.length_append];exact hown7.congr (seenV_put _ _)) (fun x hx=>by
   rcases List.mem_append.1 hx with hx|hx
   ·exact HZ8.out.cli.sok x hx
   ·rw [List.mem_singleton.1 hx];exact HVO.out)
  have HRS:=Lib.hid (HR.out _ _ (take1_out HBF.out).symm ⟨hrs.1,HZ8.out.step.trans hrs.2⟩)
  clear hown7 hgrow7 hrs
  go_wp2_with fail
  go_ret
  exact⟨rfl,HRS.out⟩
 ·have c43:(w.alloc (.cells (vtC v).toArray 43)).cell? ⟨c.C,43,none⟩=some (.map (some b)):=by rw [cli_seen h0.blk hrl,hmv]
  have q1:=map_some_nil b
  have hS0:FrS w base N c c v b (w.alloc (.cells (vtC v).toArray 43)):=⟨h0,hv0,CliStep.nn ho0⟩
  have HS0:=Lib.hid hS0
  have HM1:=Lib.hid hmv
  have HRL:=Lib.hid hrl
  have EC:Hid (c.C=c.C):=Lib.hid rfl
  cases hbf:hasB c.seen v with
  |true=>
   have hres:∀(W:World),CliAt W base c∧CliStep w W c c→∃mv',CliAt W base { c with mv:=mv',seen:=take1 c.seen v}∧CliStep w W c { c with mv:=mv',seen:=take1 c.seen v}:=fun W hh=> ⟨c.mv,by
    rw [take1_in hbf]
    exact hh⟩
   have HR:=Lib.hid hres
   have HBF:=Lib.hid hbf
   clear hmv hS0 hres ho0 hv0 h0 eN hrl vo h hbf hm hbb
   go_enter Tryz.func77,Tryz.ntmps77
   go_upto_region 3 with(fail)
   rw [←EN.out]
   refine wp_gen (FrS w base N c c v b) HS0.out ?_
   intro Z hZ
   have HZ:=Lib.hid hZ
   clear hZ HS0 c43 q1
   obtain⟨ft,hfx⟩:=family (FrS w base N c c v b) (W0:=Z.drew) (HZ.out.keep (Only.refl NoneOf Z).drew)
   obtain⟨F,hI,hF0,hF,hFS⟩:=hfx
   have f1:∀x,(F x).cell? ⟨c.C,43,none⟩=some (.map (some b)):=fun x=>by rw [←EC.out,cli_seen (hFS x).cli.blk HRL.out,HM1.out]
   have f2:∀x,(vtLoad (.pointer (some ⟨N,0,none⟩))).run Tryz.prog (F x)= .ok (.agg (vtC v).toArray) (F x):=fun x=>vt_load (blk_range (hFS x).v) HVO.out.head.root
   have f3:∀x,(Instr.lookup 98 (.map (some b)) (.agg (vtC v).toArray) false).run Tryz.prog (F x)= .ok (.bool true) (F x):=fun x=>by rw [see_look (hFS x).cli HM1.out HVO.out,HBF.out]
   have HF:=Lib.hid hF
   have HF0:=Lib.hid hF0
   clear hF hF0 hFS
   refine wp_region_family F (by kernel_rfl) (by kernel_rfl) HF0.out ?_
   repeat(go_big_quiet_step (fail))
   refine wpQuiet_nil ?_
   intro w9 hw9
   have HZ9:=Lib.hid ((HF.out w9).2 hw9)
   clear hw9 f1 f2 f3 HF HF0 hI
   go_wp2_with fail
   go_ret
   exact⟨rfl,HR.out _ ⟨HZ9.out.cli,HZ9.out.step⟩⟩
  |false=>
   have hres:∀(W:World) (M:List Vt),M=take1 c.seen v→CliAt W base { c with seen:=M}∧CliStep w W c { c with seen:=M}→∃mv',CliAt W base { c with mv:=mv',seen:=take1 c.seen v}∧CliStep w W c { c with mv:=mv',seen:=take1 c.seen v}:=fun W M e hh=> ⟨c.mv,by
    rw [e] at hh
    exact hh⟩
   have HR:=Lib.hid hres
   have HBF:=Lib.hid hbf
   have hn1:=hn
   clear hmv hS0 hres ho0 hv0 h0 eN hrl vo h hbf hm hbb
   go_enter Tryz.func77,Tryz.ntmps77
   go_upto_region 3 with(fail)
   rw [←EN.out]
   refine wp_gen (FrS w base N c c v b) HS0.out ?_
   intro Z hZ
   have HZ:=Lib.hid hZ
   clear hZ HS0 c43 q1
   obtain⟨ft,hfx⟩:=family (FrS w base N c c v b) (W0:=Z.drew) (HZ.out.keep (Only.refl NoneOf Z).drew)
   obtain⟨F,hI,hF0,hF,hFS⟩:=hfx
   have f1:∀x,(F x).cell? ⟨c.C,43,none⟩=some (.map (some b)):=fun x=>by rw [←EC.out,cli_seen (hFS x).cli.blk HRL.out,HM1.out]
   have f2:∀x,(vtLoad (.pointer (some ⟨N,0,none⟩))).run Tryz.prog (F x)= .ok (.agg (vtC v).toArray) (F x):=fun x=>vt_load (blk_range (hFS x).v) HVO.out.head.root
   have f3:∀x,(Instr.lookup 98 (.map (some b)) (.agg (vtC v).toArray) false).run Tryz.prog (F x)= .ok (.bool false) (F x):=fun x=>by rw [see_look (hFS x).cli HM1.out HVO.out,HBF.out]
   have HF:=Lib.hid hF
   have HF0:=Lib.hid hF0
   clear hF hF0 hFS
   refine wp_region_family F (by kernel_rfl) (by kernel_rfl) HF0.out ?_
   repeat(go_big_quiet_step (fail))
   refine wpQuiet_nil ?_
   intro w9 hw9
   have HZ9:=Lib.hid ((HF.out w9).2 hw9)
   clear hw9 f1 f2 f3 HF HF0 hI
   go_upto_region 5 with(fail)
   obtain⟨ft,hfx⟩:=family (FrS w base N c c v b) (W0:=w9.drew) (HZ9.out.keep (Only.refl NoneOf w9).drew)
   obtain⟨F,hI,hF0,hF,hFS⟩:=hfx
   have f1:∀x,(F x).cell? ⟨c.C,43,none⟩=some (.map (some b)):=fun x=>by rw [←EC.out,cli_seen (hFS x).cli.blk HRL.out,HM1.out]
   have f2:∀x,(vtLoad (.pointer (some ⟨N,0,none⟩))).run Tryz.prog (F x)= .ok (.agg (vtC v).toArray) (F x):=fun x=>vt_load (blk_range (hFS x).v) HVO.out.head.root
   have f3x:True:=trivial
   have f3:∀x,(Instr.lookup 98 (.map (some b)) (.agg (vtC v).toArray) false).run Tryz.prog (F x)= .ok (.bool false) (F x):=fun x=>by rw [see_look (hFS x).cli HM1.out HVO.out,HBF.out]
   have HF:=Lib.hid hF
   have HF0:=Lib.hid hF0
   clear hF hF0 hFS
   refine wp_region_family_tail F 5 (by kernel_rfl) (by kernel_rfl) HF0.out ?_
   simp only [List.take_succ_cons,List.take_zero,List.drop_succ_cons,List.drop_zero]
   repeat(go_big_quiet_step (fail))
   refine wpQuiet_nil ?_
   intro w8 hw8
   have hZ8:=(HF.out w8).2 hw8
   obtain⟨kl,hkl⟩:=key_vt HVO.out
   have hmm8:=(hZ8.cli.seen.blk (k:=b) (by rw [HM1.out];rfl)).2.2
   have HZ8:=Lib.hid hZ8
   have HKL:=Lib.hid hkl
   have HMM:=Lib.hid hmm8
   clear hw8 hZ8 hkl hmm8 f1 f2 f3 f3x HF HF0 hI
   go_wp2_with (at_mapUpdate;refine wpList_put _ rfl _ _ _ 98 rfl 43 4 vt_law Tryz.underlying98 b c.seen.length _ rfl HMM.out (by rw [maxLen_val];omega) _ _ _ rfl rfl HKL.out ?_;intro w7 hown7 hgrow7)
   have hrs:=HZ8.out.cli.reseen HM1.out ((Only.refl (fun k=>k=b) w8).grown hgrow7 (fun k e=>by cases e;exact .inl rfl)) (M:=c.seen++ [v]) (by rw [List.length_append];exact hown7.congr (seenV_put _ _)) (fun x hx=>by
    rcases List.mem_append.1 hx with hx|hx
    ·exact HZ8.out.cli.sok x hx
    ·rw [List.mem_singleton.1 hx];exact HVO.out)
   have HRS:=Lib.hid (HR.out _ _ (take1_out HBF.out).symm ⟨hrs.1,HZ8.out.step.trans hrs.2⟩)
   clear hown7 hgrow7 hrs
   go_wp2_with fail
   go_ret
   exact⟨rfl,HRS.out⟩
end Go.Proofs.YtgalfohobgjelaaGreatDoor
namespace Go.Proofs.YtgalfohobgjelaaGreatDoor
open Go.RowKit Go.Shelf
def secI (id:Int):Int:=1000+7 * id
set_option maxHeartbeats 1000000 in
theorem secret_any (id:Int) (h0: -1000000≤id) (h1:id≤1000000) (w:World):Calls Tryz.prog 39 #[.int .i64 id] w fun e w'=>e= .returned (.int .i64 (secI id))∧w'=w:=by
 go_enter Tryz.func39,Tryz.ntmps39
 go_wp2_with fail
 go_ret
 exact⟨ret_int (by unfold secI;omega),rfl⟩
noncomputable def offAt (k:Nat):Pers:=⟨(k:Int),2,(pub (secI k):Int)⟩
noncomputable def clerk:Pers:=⟨50,1,(pub (secI 50):Int)⟩
noncomputable def setB (m:Nat):List Pers:=clerk::(List.range m).map (fun j=>offAt (j+1))
theorem setB_snoc (m:Nat):setB (m+1)=setB m++ [offAt (m+1)]:=by simp [setB,List.range_succ]
theorem setB_len (m:Nat):(setB m).length=m+1:=by simp [setB]
def nOff (n:Int):Nat:=(min n 13).toNat
theorem nOff_le (n:Int):nOff n≤13:=by unfold nOff;omega
abbrev tSu:TypeId:=50
def suStore (p v:Value):Sem Unit:=Instr.storeAt 50 p v
theorem suStore_eq (p v:Value):Instr.storeAt 50 p v=suStore p v:=rfl
theorem su_store {W:World} {R n c:Nat} {A:Option Addr} {cs:Array Value} (h:Blk W R tSu cs) (hs:cs.size=6):(suStore (.pointer (some ⟨R,0,none⟩)) (.agg #[.slice A n c,.int .i64 0,.slice none 0 0,.slice none 0 0,.int .i64 0,.int .i64 0])).run Tryz.prog W= .ok () (W.setCells R 0 [.slice A n c,.int .i64 0,.slice none 0 0,.slice none 0 0,.int .i64 0,.int .i64 0]):=
 run_storeAt_mid (P:=Tryz.prog) W R 0 50 #[.slice A n c,.int .i64 0,.slice none 0 0,.slice none 0 0,.int .i64 0,.int .i64 0] (h.there 0 _ (by rw [hs];simp)) (by kernel_rfl) (by simp [Value.oneCell'])
attribute [local go_sem ↓ high] suStore_eq
structure StS (w:World) (R V:Nat) (m:Nat) (pv:Value) (W:World):Prop where
 res:Blk W R tSu #[.slice none 0 0,.int .i64 0,.slice none 0 0,.slice none 0 0,.int .i64 0,.int .i64 0]
 st:Blk W V tSu #[pv,.int .i64 0,.slice none 0 0,.slice none 0 0,.int .i64 0,.int .i64 0]
 own:PerOwn W w.heap.size pv (m+1) (setB m)
 only:Only NoneOf w W
end Go.Proofs.YtgalfohobgjelaaGreatDoor
namespace Go.Proofs.YtgalfohobgjelaaGreatDoor
theorem cnts_voted (p:Pers) (who sec:Int) (h:Hd) (hw:who=p.id) (hk:p.pub=(pub sec:Int)):cnts p (voteOf who sec h)=true:=by
 unfold cnts voteOf
 simp only [hw,hk,beq_self_eq_true,Bool.true_and]
 exact goodB_true.2 (good_signed sec (hdText h) (nonce (expo sec) (hdText h)))
theorem cnts_other (p:Pers) (v:Vt) (h:v.who≠p.id):cnts p v=false:=by
 unfold cnts
 rw [beq_eq_false_iff_ne.2 h];rfl
noncomputable def vAt (h:Hd) (k:Nat):Vt:=voteOf (k:Int) (secI k) h
theorem gp_in (n:Nat):In (gp n:Int):=by
 have h1:gp n<P0:=pw_lt 4 n
 have h2:=P0_val
 constructor<;>omega
theorem sig_in (x:Int) (text:List UInt8) (n:Nat):In (sigS x text n:Int):=by
 have h1:=sigS_lt x text n
 have h2:=Q0_val
 constructor<;>omega
theorem vote_ok {who sec:Int} {h:Hd} (iw:In who) (ok:h.Ok):(voteOf who sec h).Ok:=⟨iw,ok,gp_in _,sig_in _ _ _⟩
theorem cnts_at (h:Hd) (k j:Nat):cnts (offAt k) (vAt h j)=decide (j=k):=by
 by_cases e:j=k
 ·subst e
  rw [decide_eq_true rfl]
  exact cnts_voted _ _ _ _ rfl rfl
 ·rw [decide_eq_false e]
  exact cnts_other _ _ (fun h=>e (by have h2:(j:Int)=(k:Int):=h;omega))
end Go.Proofs.YtgalfohobgjelaaGreatDoor
namespace Go.Proofs.YtgalfohobgjelaaGreatDoor
open Go.RowKit Go.Shelf
attribute [local go_sem ↓ high] hdLoad_eq vtLoad_eq hdNew_eq hdStore_eq vtBs1_eq
def h2:Hd:=⟨2,rootZ⟩
def hdBd (parts:Array (Nat×Value)):Sem Value:=Instr.build 37 parts
theorem hdBd_eq (parts:Array (Nat×Value)):Instr.build 37 parts=hdBd parts:=rfl
attribute [local go_sem ↓ high] hdBd_eq
theorem setB_ok (m:Nat) (hm:m≤100):PersOk (setB m):=fun p hp=>by
 rcases List.mem_cons.1 hp with rfl|hp
 ·exact⟨⟨by decide,by decide⟩,⟨by decide,by decide⟩,gp_in _⟩
 ·obtain⟨j,hj,rfl⟩:=List.mem_map.1 hp
  have:=List.mem_range.1 hj
  exact⟨⟨by show(-9223372036854775808:Int)≤((j+1:Nat):Int);omega,by show((j+1:Nat):Int)≤9223372036854775807;omega⟩,⟨by show(-9223372036854775808:Int)≤2;omega,by show(2:Int)≤9223372036854775807;omega⟩,gp_in _⟩
end Go.Proofs.YtgalfohobgjelaaGreatDoor
namespace Go.Proofs.YtgalfohobgjelaaGreatDoor
noncomputable def firstP (ag:Hd→Hd→Bool):List Vt→Option (Vt×Vt)
 | []=>none
 |v::l=>match l.find? (fun u=> !ag v.head u.head) with
  |some u=>some (v,u)
  |none=>firstP ag l
theorem firstP_nil (ag:Hd→Hd→Bool):firstP ag []=none:=rfl
theorem firstP_cons (ag:Hd→Hd→Bool) (v:Vt) (l:List Vt):firstP ag (v::l)=match l.find? (fun u=> !ag v.head u.head) with|some u=>some (v,u)|none=>firstP ag l:=rfl
structure Blm where
 who:Int
 a:Vt
 b:Vt
noncomputable def blmOf (ag:Hd→Hd→Bool) (L:List Vt) (p:Pers):Option Blm:=(firstP ag (L.filter (cnts p))).map (fun x=> ⟨p.id,x.1,x.2⟩)
noncomputable def clashO (ag:Hd→Hd→Bool) (L:List Vt) (O:List Pers):List Blm:=O.filterMap (blmOf ag L)
noncomputable def clashL (ag:Hd→Hd→Bool) (P:List Pers) (L:List Vt):List Blm:=clashO ag L (offs P)
theorem clashO_take {ag:Hd→Hd→Bool} {L:List Vt} {O:List Pers} {k:Nat} {p:Pers} (h:O[k]? =some p):clashO ag L (O.take (k+1))=clashO ag L (O.take k) ++ (match blmOf ag L p with|some b=> [b]|none=> []):=by
 unfold clashO
 rw [List.take_add_one,h,Option.toList_some,List.filterMap_append]
 congr 1
 rw [List.filterMap_cons]
 cases blmOf ag L p<;>rfl
theorem clashO_len (ag:Hd→Hd→Bool) (L:List Vt) (O:List Pers):(clashO ag L O).length≤O.length:=List.length_filterMap_le _ _
theorem firstP_mem {ag:Hd→Hd→Bool}:∀{L:List Vt} {x:Vt×Vt},firstP ag L=some x→x.1∈L∧x.2∈L∧ag x.1.head x.2.head=false
 | [],_,h=>by cases h
 |v::l,x,h=>by
  rw [firstP_cons] at h
  cases hf:l.find? (fun u=> !ag v.head u.head) with
  |some u=>
   rw [hf] at h
   simp only [Option.some.injEq] at h
   subst h
   refine⟨List.mem_cons_self .., List.mem_cons_of_mem _ (List.mem_of_find?_eq_some hf),?_⟩
   have:=List.find?_some hf
   simpa using this
  |none=>
   rw [hf] at h
   obtain⟨h1,h2,h3⟩:=firstP_mem h
   exact⟨List.mem_cons_of_mem _ h1,List.mem_cons_of_mem _ h2,h3⟩
theorem blmOf_who {ag:Hd→Hd→Bool} {L:List Vt} {p:Pers} {b:Blm} (h:blmOf ag L p=some b):b.who=p.id∧b.a∈L∧b.b∈L∧cnts p b.a=true∧cnts p b.b=true∧ag b.a.head b.b.head=false:=by
 unfold blmOf at h
 obtain⟨x,hx,rfl⟩:=Option.map_eq_some_iff.1 h
 obtain⟨h1,h2,h3⟩:=firstP_mem hx
 obtain⟨m1,c1⟩:=List.mem_filter.1 h1
 obtain⟨m2,c2⟩:=List.mem_filter.1 h2
 exact⟨rfl,m1,m2,c1,c2,h3⟩
end Go.Proofs.YtgalfohobgjelaaGreatDoor
namespace Go.Proofs.YtgalfohobgjelaaGreatDoor
noncomputable def agB (f:Hd→Hd→Bool) (a b:Hd):Bool:=eqHd a b||((decide (a.size<b.size) && f a b)||(decide (b.size<a.size) && f b a))
theorem eqHd_comm (a b:Hd):eqHd a b=eqHd b a:=by rw [Bool.eq_iff_iff,eqHd_true,eqHd_true];exact eq_comm
theorem agB_comm (f:Hd→Hd→Bool) (a b:Hd):agB f a b=agB f b a:=by
 unfold agB
 rw [eqHd_comm,Bool.or_comm (decide (a.size<b.size) && f a b)]
theorem agB_same (f:Hd→Hd→Bool) {a b:Hd} (h:a≠b) (hs:a.size=b.size):agB f a b=false:=by
 unfold agB
 rw [eqHd_false.2 h]
 simp [hs]
theorem agB_lt (f:Hd→Hd→Bool) {a b:Hd} (hs:a.size<b.size):agB f a b=f a b:=by
 unfold agB
 have:a≠b:=fun e=>by rw [e] at hs;omega
 rw [eqHd_false.2 this]
 simp [hs,show¬b.size<a.size by omega]
theorem agB_gt (f:Hd→Hd→Bool) {a b:Hd} (hs:b.size<a.size):agB f a b=f b a:=by rw [agB_comm];exact agB_lt f hs
end Go.Proofs.YtgalfohobgjelaaGreatDoor
namespace Go.Proofs.YtgalfohobgjelaaGreatDoor
open Go.RowKit Go.Shelf
attribute [local go_sem ↓ high] hdLoad_eq hdNew_eq hdStore_eq hdBd_eq
def haBd (parts:Array (Nat×Value)):Sem Value:=Instr.build 35 parts
theorem haBd_eq (parts:Array (Nat×Value)):Instr.build 35 parts=haBd parts:=rfl
theorem bv_small {q:Int} (h0:0≤q) (h1:q<256):bv (UInt8.ofNat q.toNat)= .int .u8 q:=by
 unfold bv
 rw [UInt8.toNat_ofNat']
 congr 1
 omega
set_option maxRecDepth 100000 in
theorem hdBd_built (n:Int):∀(l:List UInt8),l.length=32→Tryz.prog.built 37 [(0,.int .i64 n),(1,.agg (l.map bv).toArray)]=some (hdC ⟨n,l⟩).toArray
 | [x0,x1,x2,x3,x4,x5,x6,x7,x8,x9,x10,x11,x12,x13,x14,x15,x16,x17,x18,x19,x20,x21,x22,x23,x24,x25,x26,x27,x28,x29,x30,x31],_=>by kernel_rfl
theorem hdBd_run (n:Int) (l:List UInt8) (hl:l.length=32) (W:World):(hdBd #[(0,.int .i64 n),(1,.agg (l.map bv).toArray)]).run Tryz.prog W= .ok (.agg (hdC ⟨n,l⟩).toArray) W:=
 run_build (P:=Tryz.prog) W 37 _ _ (hdBd_built n l hl)
attribute [local go_sem ↓ high] haBd_eq
end Go.Proofs.YtgalfohobgjelaaGreatDoor
namespace Go.Proofs.YtgalfohobgjelaaGreatDoor
open Go.RowKit Go.Shelf
attribute [local go_sem ↓ high] hdLoad_eq hdNew_eq hdStore_eq vtLoad_eq vtNew_eq vtStore_eq
theorem vt_store_new (W:World) {v:Vt} (hl:v.head.root.length=32):(vtStore (.pointer (some ⟨W.heap.size,0,none⟩)) (.agg (vtC v).toArray)).run Tryz.prog (W.alloc (.cells vt0C 43))= .ok () ((W.alloc (.cells vt0C 43)).setCells W.heap.size 0 (vtC v)):=vt_store (Blk.new W tVt vt0C) rfl hl
end Go.Proofs.YtgalfohobgjelaaGreatDoor
namespace Go.Proofs.YtgalfohobgjelaaGreatDoor
open Go.RowKit Go.Shelf
attribute [local go_sem ↓ high] vtBs1_eq
end Go.Proofs.YtgalfohobgjelaaGreatDoor
namespace Go.Proofs.YtgalfohobgjelaaGreatDoor
open Go.RowKit Go.Shelf
open Go.Maps (Keyed)
attribute [local go_sem ↓ high] vtLoad_eq vtNew_eq vtStore_eq vtBs1_eq
def ApartC (c:Cli) (v:Value):Prop:=∀a n cap,v= .slice (some a) n cap→¬c.foot a.block
theorem VtSl.step {S:Nat→Prop} {w w':World} {v:Value} {L:List Vt} (h:VtSl w v L) (ho:Only S w w') (ha:∀a n cap,v= .slice (some a) n cap→¬S a.block):VtSl w' v L:=by
 obtain⟨A,cap,rfl,h1,h2,h3⟩:=h
 refine⟨A,cap,rfl,h1,h2,fun i p hp=> ?_⟩
 obtain⟨g,o,rfl,hg,hr⟩:=h3 i p hp
 exact⟨g,o,rfl,Nat.lt_of_lt_of_le hg ho.size,fun j x hj=>ho.cell_some (hr j x hj) (ha ⟨g,o,none⟩ _ _ rfl)⟩
structure FiS (w:World) (base:Nat) (c:Cli) (L:List Vt) (k:Nat) (ov mv:Value) (W:World):Prop where
 cli:CliAt W base { c with mv:=mv,seen:=takeV c.seen (L.take k)}
 step:CliStep w W c { c with mv:=mv,seen:=takeV c.seen (L.take k)}
 own:VtOwn W w.heap.size ov (freshL c.seen (L.take k)).length (freshL c.seen (L.take k))
theorem takeV_len (M L:List Vt):(takeV M L).length≤M.length+L.length:=by
 unfold takeV
 rw [List.length_append]
 have:=freshL_len L M
 omega
theorem take_snocV {L:List Vt} {k:Nat} {v:Vt} (h:L[k]? =some v):L.take (k+1)=L.take k++ [v]:=by rw [List.take_add_one,h];rfl
theorem takeV_next {M L:List Vt} {k:Nat} {v:Vt} (h:L[k]? =some v):takeV M (L.take (k+1))=take1 (takeV M (L.take k)) v:=by
 rw [take_snocV h,takeV_fold,takeV_fold,List.foldl_append]
 rfl
theorem freshL_next {M L:List Vt} {k:Nat} {v:Vt} (h:L[k]? =some v):freshL M (L.take (k+1))=freshL M (L.take k) ++ (if hasB (takeV M (L.take k)) v then [] else [v]):=by
 rw [take_snocV h,freshL_snoc];rfl
theorem takeV_nil (M:List Vt):takeV M []=M:=List.append_nil M
theorem out_apart {w W:World} {base n:Nat} {c:Cli} {ov mv:Value} {M:List Vt} {xs:List Value} (hc:CliAt w base c) (hcli:CliAt W base { c with mv:=mv,seen:=M}) (hown:W.ownsRow w.heap.size 43 36 ov n xs) {q:Nat} (hq:ov.ownBlock=some q):¬({ c with mv:=mv,seen:=M}:Cli).foot q:=fun hf=>by
 have hge:=(own_ge hown hq).1
 rcases hf with hf|hf|hf|hf
 ·have:=Blk.lt hc.blk
  have e:q=c.C:=hf
  omega
 ·have:=(own_ge hc.pers hf).2;omega
 ·have:=(own_ge hc.votes hf).2;omega
 ·exact own_map_ne hown (hcli.seen.blk hf).2.2 hq
set_option maxRecDepth 100000 in
set_option maxHeartbeats 4000000 in
theorem filter_any (c:Cli) (base:Nat) (L:List Vt) (hok:VtsOk L) (hL:L.length≤1000) (sv:Value) (w:World) (h:CliAt w base c) (hb:base≤w.heap.size) (hs:VtSl w sv L) (ha:ApartC c sv) (hn:c.seen.length≤100000):
  Calls Tryz.prog 76 #[sv,.func (.func 77) #[.pointer (some ⟨c.C,0,none⟩)] #[]] w fun e w'=> ∃rv mv',e= .returned rv∧VtOwn w' w.heap.size rv (freshL c.seen L).length (freshL c.seen L)∧CliAt w' base { c with mv:=mv',seen:=takeV c.seen L}∧CliStep w w' c { c with mv:=mv',seen:=takeV c.seen L}:=by
 obtain⟨A,cap,rfl,hlc,hcm,hA⟩:=id hs
 obtain⟨ie,zz,hie,hsz,hz,hzc,hby⟩:=vt_info
 have HIE:=Lib.hid hie
 have HSZ:=Lib.hid hsz
 have HZZ:=Lib.hid hz
 have HZC:=Lib.hid hzc
 have HBY:=Lib.hid hby
 have HOK:=Lib.hid hok
 have hs0:FiS w base c L 0 (.slice none 0 0) c.mv w:=by
  have e:({ c with mv:=c.mv,seen:=takeV c.seen (L.take 0)}:Cli)=c:=by rw [List.take_zero,takeV_nil]
  refine⟨by rw [e];exact h,by rw [e];exact CliStep.refl _ _,?_⟩
  exact⟨rfl,.inl ⟨rfl,rfl⟩⟩
 have HS0:=Lib.hid hs0
 have HH:=Lib.hid h
 have HSL:=Lib.hid hs
 have HAP:=Lib.hid ha
 clear hie hsz hz hzc hby hok hs0 h hA hs ha
 go_enter Tryz.func76,Tryz.ntmps76
 go_wp2_with fail
 go_loopw [5,10] (fun ov iv wr=> ∃(k:Nat) (mv:Value),iv= .int .i64 (k:Int)∧k≤L.length∧FiS w base c L k ov mv wr) (fun _ iv _=>L.length - (intOf iv).toNat)
 case atStart=>exact⟨0,c.mv,rfl,by omega,HS0.out⟩
 case round=>
  obtain⟨k,mv,rfl,hk,hS⟩:=hrel
  obtain⟨out,hout⟩:∃out:Value,out=u5:=⟨_,rfl⟩
  subst hout
  have HS:=Lib.hid hS
  clear hS
  by_cases hlt:k<L.length
  ·obtain⟨v,hv⟩:∃v,L[k]? =some v:=⟨_,List.getElem?_eq_getElem hlt⟩
   have vo:=HOK.out v (List.mem_of_getElem? hv)
   have hl:=vo.head.root
   have hslr:VtSl wr (.slice A L.length cap) L:=HSL.out.step HS.out.step.1 (fun a n cap e=>HAP.out a n cap e)
   obtain⟨g,o,rfl,hg,hr⟩:=(by obtain⟨A',cap',e,_,_,h3⟩:=hslr;cases e;exact h3 k v hv:∃g o,A=some ⟨g,o,none⟩∧g<wr.heap.size∧wr.rangeAt g (o+k * 36) (vtC v))
   have ik:(k:Int) < (L.length:Int):=by omega
   have ik0:(0:Int)≤(k:Int):=by omega
   have hld:=vt_load hr hl
   have hst:=vt_store_new wr hl
   have hnw:=vtNew_run
   obtain⟨c1,ec1⟩:∃c1:Cli,c1= { c with mv:=mv,seen:=takeV c.seen (L.take k)}:=⟨_,rfl⟩
   have hcC:c1.C=c.C:=by rw [ec1]
   have hseen:c1.seen=takeV c.seen (L.take k):=by rw [ec1]
   have hcli:=HS.out.cli
   have hstep:=HS.out.step
   rw [←ec1] at hcli hstep
   have hsn:c1.seen.length≤1000000:=by
    rw [hseen]
    have h1:=takeV_len c.seen (L.take k)
    have h2:(L.take k).length≤k:=List.length_take_le _ _
    omega
   obtain⟨V,eV⟩:∃V,V=wr.heap.size:=⟨_,rfl⟩
   have hoZ:Only NoneOf wr ((wr.alloc (.cells vt0C 43)).setCells V 0 (vtC v)):=by rw [eV];exact only_setCells ((Only.refl _ _).alloc _) wr.heap.size 0 (.inr (Nat.le_refl _)) _
   have hvZ:VtAt ((wr.alloc (.cells vt0C 43)).setCells V 0 (vtC v)) V v:=by rw [eV];exact filled_whole (Blk.new wr tVt vt0C) (by rw [vtC_len hl];rfl)
   have HZ0:=Lib.hid (And.intro hoZ hvZ)
   have EV:=Lib.hid eV
   have EV2:=Lib.hid eV
   have HVO:=Lib.hid vo
   have HCLI:=Lib.hid hcli
   have HSTEP:=Lib.hid hstep
   have HFR:Hid (∀W,Only NoneOf wr W→Calls Tryz.prog 77 #[.pointer (some ⟨c.C,0,none⟩),.agg (vtC v).toArray] W fun e w'=>e= .returned (.bool (!hasB c1.seen v))∧∃mv',CliAt w' base { c1 with mv:=mv',seen:=take1 c1.seen v}∧CliStep W w' c1 { c1 with mv:=mv',seen:=take1 c1.seen v}):=Lib.hid (fun W ho=>by
    rw [←hcC]
    exact fresh_any c1 v vo base W (hcli.nn ho) (Nat.le_trans hb (Nat.le_trans hstep.1.size ho.size)) hsn)
   have hnxt:takeV c.seen (L.take (k+1))=take1 c1.seen v:=by rw [hseen,takeV_next hv]
   have hfnx:freshL c.seen (L.take (k+1))=freshL c.seen (L.take k) ++ (if hasB c1.seen v then [] else [v]):=by rw [hseen,freshL_next hv]
   have hc2:∀mv',({ c1 with mv:=mv',seen:=take1 c1.seen v}:Cli)= { c with mv:=mv',seen:=takeV c.seen (L.take (k+1))}:=fun mv'=>by rw [hnxt,ec1]
   have HC2:=Lib.hid hc2
   have HFN:=Lib.hid hfnx
   have HOA:Hid (∀q,out.ownBlock=some q→¬c1.foot q):=Lib.hid (fun q hq=>by rw [ec1];exact out_apart HH.out HS.out.cli HS.out.own hq)
   have hfl:(freshL c.seen (L.take k)).length≤k:=Nat.le_trans (freshL_len _ _) (List.length_take_le _ _)
   obtain⟨n0,en0⟩:∃n0,n0=(freshL c.seen (L.take k)).length:=⟨_,rfl⟩
   obtain⟨C0,eC0⟩:∃C0,C0=(freshL c.seen (L.take k)).flatMap vtC:=⟨_,rfl⟩
   have hown0:wr.ownsRow w.heap.size 43 36 out n0 C0:=by rw [en0,eC0];exact HS.out.own
   have hcells:(freshL c.seen (L.take k) ++ [v]).flatMap vtC=C0++vtC v:=by rw [List.flatMap_append,eC0];simp
   have hlen1:(freshL c.seen (L.take k) ++ [v]).length=n0+1:=by rw [List.length_append,en0];rfl
   rw [←en0] at hfl
   have HOWN:=Lib.hid hown0
   have HCELLS:=Lib.hid hcells
   have HLEN:=Lib.hid hlen1
   have EN0:=Lib.hid en0
   have EC0:=Lib.hid eC0
   have HSZW:=Lib.hid HS.out.step.1.size
   clear hr hg hslr hv vo hcli hstep hcC hseen hsn hoZ hvZ eV hnxt hfnx hc2 ec1 en0 eC0 hown0 hcells hlen1
   go_upto_region 5 with(fail)
   rw [←EV.out]
   refine wp_gen (fun Z=>Only NoneOf wr Z∧VtAt Z V v) HZ0.out ?_
   clear HZ0 EV hld hst hnw
   rintro Z ⟨hZ,hV⟩
   have hld:=vt_load (blk_range hV) hl
   have HZ:=Lib.hid (And.intro hZ hV)
   clear hZ hV
   obtain⟨β,eβ⟩:∃β,β=hasB c1.seen v:=⟨_,rfl⟩
   rw [←eβ] at HFN HFR
   have EBB:=Lib.hid eβ
   clear eβ
   go_wp2_with fail
   refine(HFR.out _ HZ.out.1).mono ?_
   rintro e5 w5 ⟨rfl,mv5,hcli5,hstep5⟩
   rw [HC2.out] at hcli5 hstep5
   have hV5:VtAt w5 V v:=Blk.only HZ.out.2 hstep5.1 (fun hf=>by
    have h1:=(HCLI.out.foot_in hf).2
    have h2:=EV2.out
    omega)
   have hoa5:∀q,out.ownBlock=some q→¬({ c with mv:=mv5,seen:=takeV c.seen (L.take (k+1))}:Cli).foot q:=fun q hq=>out_apart HH.out hcli5 (own_only (own_only HOWN.out HZ.out.1 (fun _ _ e=>e)) hstep5.1 HOA.out) hq
   have hown5:w5.ownsRow w.heap.size 43 36 out n0 C0:=own_only (own_only HOWN.out HZ.out.1 (fun _ _ e=>e)) hstep5.1 HOA.out
   have hst5:CliStep w w5 c { c with mv:=mv5,seen:=takeV c.seen (L.take (k+1))}:=(HSTEP.out.trans (CliStep.nn HZ.out.1)).trans hstep5
   have H5:=Lib.hid (And.intro hcli5 (And.intro hst5 (And.intro hown5 (And.intro hV5 hoa5))))
   clear hcli5 hstep5 hV5 hoa5 hown5 hst5 HFR hld
   cases β with
   |true=>
    go_wp2_with fail
    go_roundw
    case rel=>exact⟨k+1,mv5,by go_num,by omega,H5.out.1,H5.out.2.1,by
     have h:=H5.out.2.2.1
     rw [EN0.out,EC0.out] at h
     have e0:freshL c.seen (L.take (k+1))=freshL c.seen (L.take k):=by rw [HFN.out];simp
     rw [e0]
     exact h⟩
    case measure=>simp [intOf];omega
   |false=>
    have hld:=vt_load (blk_range H5.out.2.2.2.1) hl
    have hbs:=bs1_run v hl w5
    have hl36:(vtC v).length=36:=vtC_len hl
    have hsz5:=H5.out.2.1.1.size
    have HSZ5:=Lib.hid hsz5
    have HL36:=Lib.hid hl36
    clear hsz5 hl36
    go_wp2_with (at_builtin;refine wpList_append_lies _ rfl _ _ 32 rfl w.heap.size 43 ie zz 36 ie.bytes Tryz.underlying32 HIE.out HZZ.out HSZ.out rfl HZC.out (by omega) out n0 C0 rfl (World.ownsRow.alloc H5.out.2.2.1 _) _ 1 1 (vtC v) rfl HL36.out (World.news_of_block (cs:=(vtC v).toArray) (t:=43) (fr:=(0,0)) (Blk.new w5 _ _)) (vtC_one v) (by omega) (by rw [maxLen_val];omega) (by have:=HBY.out;exact Nat.le_trans (Nat.mul_le_mul (show n0+1≤2000 by omega) this) (by omega)) (by rw [World.size_alloc];have:=HSZ5.out;omega) _ rfl ?_;intro g8 cap8 w8 hown8 hgrow8 hat8 hlt8)
    have ho8:Only (fun q=>out.ownBlock=some q) w5 w8:=((Only.refl _ w5).alloc _).grown hgrow8 (fun q e=> .inl e)
    have hcli8:=H5.out.1.keep ho8 (fun q hf e=>H5.out.2.2.2.2 q e hf)
    have hst8:CliStep w w8 c { c with mv:=mv5,seen:=takeV c.seen (L.take (k+1))}:=⟨H5.out.2.1.1.trans' ho8 (fun i hi e=>by have:=(own_ge H5.out.2.2.1 e).1;omega),H5.out.2.1.2⟩
    have H8:=Lib.hid (And.intro hcli8 (And.intro hst8 hown8))
    clear hcli8 hst8 hown8 ho8 hgrow8 hat8 hlt8 hld hbs
    go_wp2_with fail
    go_roundw
    case rel=>exact⟨k+1,mv5,by go_num,by omega,H8.out.1,H8.out.2.1,by
     have h:=H8.out.2.2
     have e0:freshL c.seen (L.take (k+1))=freshL c.seen (L.take k) ++ [v]:=by rw [HFN.out];simp
     rw [e0]
     unfold VtOwn
     rw [HCELLS.out,HLEN.out]
     exact h⟩
    case measure=>simp [intOf];omega
  ·obtain rfl:k=L.length:=by omega
   have hf:=HS.out
   have e1:L.take L.length=L:=List.take_length
   have HF:Hid (VtOwn wr w.heap.size out (freshL c.seen L).length (freshL c.seen L)∧CliAt wr base { c with mv:=mv,seen:=takeV c.seen L}∧CliStep w wr c { c with mv:=mv,seen:=takeV c.seen L}):=Lib.hid ⟨by have h:=hf.own;rw [e1] at h;exact h,by have h:=hf.cli;rw [e1] at h;exact h,by have h:=hf.step;rw [e1] at h;exact h⟩
   clear hf e1 HS hlt hk
   go_wp2_with fail
   go_ret
   exact⟨_,mv,rfl,HF.out.1,HF.out.2.1,HF.out.2.2⟩
end Go.Proofs.YtgalfohobgjelaaGreatDoor
