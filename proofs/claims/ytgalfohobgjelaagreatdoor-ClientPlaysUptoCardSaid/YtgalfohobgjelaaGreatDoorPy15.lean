/- What is proved here: a part of the proof that 'probitylaw31.ClientPlays' answers true. Conditions: each theorem's own. -/
import Derived.Test.YtgalfohobgjelaaGreatDoorPy14
import Derived.Deep.Upon
set_option maxRecDepth 100000
set_option maxHeartbeats 8000000
namespace Go.Proofs.YtgalfohobgjelaaGreatDoor
section
open Go.RowKit
theorem Ωbp(S:World→Prop){W0:World}(h0:S W0):∃(I:Type) (f:I→World),Nonempty I∧(∃x,W0=f x)∧(∀W,S W↔∃x,W=f x)∧∀x,S (f x):=
 ⟨{W//S W},Subtype.val,⟨⟨W0,h0⟩⟩,⟨⟨W0,h0⟩,rfl⟩,fun W=>⟨fun h=>⟨⟨W,h⟩,rfl⟩,fun⟨x,hx⟩=>hx▸x.2⟩,fun x=>x.2⟩
theorem Ω9{P:Program}{id:Nat}{Q:Exit→Act→World→Prop}{a:Act}{w:World}{l:List Oper}{I:Type}(f:I→World)(hm:P.follows .mixedOrders =true)(hB:Region.lexB .any l.toArray=true)(hC:∃x,w.drew=f x)
  (h:wpQuiet P l.toArray (fun w' =>∃x,w' =f x) (fun a' =>∀w',(∃x,w' =f x)→Q .normal a' w') l a):(Code.region id l.toArray true).wp P Q a w:=
 wp_region_quiet (C:=fun w' =>∃x,w' =f x) hm hB hC (by simpa using h)
theorem Ωs{P:Program}{id:Nat}{Q:Exit→Act→World→Prop}{a:Act}{w:World}{l:List Oper}{I:Type}(f:I→World)(n:Nat)(hm:P.follows .mixedOrders =true)(hB:Region.lexTailB .any l.toArray n=true)(hC:∃x,w.drew=f x)
  (h:wpQuiet P l.toArray (fun w' =>∃x,w' =f x) (fun a' =>∀w',(∃x,w' =f x)→wpList P l.toArray Q (l.drop n) a' w') (l.take n) a):(Code.region id l.toArray true).wp P Q a w:=by
 simp only[Region.lexTailB,Ωoa,decide_eq_true_eq] at hB
 obtain⟨⟨⟨⟨hsel,hn⟩,hs⟩,hc⟩,hlex⟩:=hB
 have hn' :n<l.length:=by simpa using hn
 have htl:(l.take n).length =n:=by rw[ΩnB];omega
 have hdl:(l.drop n).length =l.toArray.size-n:=by simp
 have inv0:HeadInv .any l.toArray n (Array.replicate l.toArray.size false):=
  ⟨by simp,fun j _ _ hl=>(by rw[getD_replicate_false] at hl;cases hl),fun t _ ht=>getD_in (by simpa using ht) (getD_replicate_false _ _)⟩
 have H:=ΩkI (g:=l.toArray.size-n) hsel hs hc hn (l.take n) 0 _ a (fun j hj=>by
  have:j<n:=by rwa [htl] at hj
  simp[this]) (by simpa using htl) inv0 (by rw[htl];exact hlex) h
 refine wp_region_any hm ?_
 have key:=Ωhd (Q:=Q) (g:=l.toArray.size-n) (fun done a' w' hw' hL=>by
  have:=wpAny_of_seq (md:= .any) (Q' :=Q) (l.drop n) n done a' w' (fun j=>by simp[List.getElem?_drop]) (by rw[hdl];exact hL.1) (hL.2 w' hw')
  rwa [hdl] at this) _ _ _ {w with drawn:=w.drawn+1} hC H
 rw[htl,show n+(l.toArray.size-n)=l.toArray.size by omega] at key
 exact key
end
section
open Go.RowKit Go.Shelf
open Go.Maps (Keyed)
attribute [local go_sem ↓ high] Ωaj
theorem map_nil_nil(W:World):(binOp .eql 98 (.map none) (.map none)).run Tryz.prog W= .ok (.bool true) W:=by kernel_rfl
theorem map_some_nil(b:Nat)(W:World):(binOp .eql 98 (.map (some b)) (.map none)).run Tryz.prog W= .ok (.bool false) W:=by kernel_rfl
theorem Ωv.reseen{w w' :World}{base:Nat}{c:Cli}(h:Ωv w base c){b:Nat}(hb:c.mv= .map (some b))(ho:Only (fun k=>k=b) w w'){M:List Vt}(hM:MapV w' Tryz.prog tVt b M.length (ΩfA M))(ok:Ω4 M):
  Ωv w' base {c with seen:=M}∧Ωl w w' c {c with seen:=M}:=by
 have hmb:ΩdP c.mv=some b:=by rw[hb];rfl
 have hbb:=(h.seen.blk hmb).1
 refine⟨⟨h.blk.only ho (fun e=>h.ne_mv (by rw[hmb,e])),h.lo,h.hok,Ωe h.pers ho (fun k hk e=>h.pv_mv hk (by rw[hmb,e])),Ωe h.votes ho (fun k hk e=>h.vv_mv hk (by rw[hmb,e])),h.ok,.inr ⟨b,hb,hbb,hM⟩,ok⟩,ho.mono (fun k _ e=> .inr (.inr (.inr (by rw[hmb,e])))),fun k hk=> .inl hk⟩
theorem Ωv.newmap{w:World}{base:Nat}{c:Cli}(h:Ωv w base c)(_hmv:c.mv= .map none)(hb:base≤w.heap.size):
  Ωv ((w.alloc (.map #[] 0)).setCell ⟨c.C,43,none⟩ (.map (some w.heap.size))) base {c with mv:= .map (some w.heap.size),seen:=[]}∧Ωl w ((w.alloc (.map #[] 0)).setCell ⟨c.C,43,none⟩ (.map (some w.heap.size))) c {c with mv:= .map (some w.heap.size),seen:=[]}:=by
 have hlt:c.C<w.heap.size:=Blk.lt h.blk
 have ho1:Only Ωa w (w.alloc (.map #[] 0)):=(Only.refl _ _).alloc _
 have h1:=h.nn ho1
 have ho2:Only (fun k=>k=c.C) (w.alloc (.map #[] 0)) ((w.alloc (.map #[] 0)).setCell ⟨c.C,43,none⟩ (.map (some w.heap.size))):=(Only.refl (fun k=>k=c.C) _).setCell (p:=⟨c.C,43,none⟩) (.inl rfl) _
 have hm:=MapV.made w Tryz.prog 43
 refine⟨⟨cli_put_seen h1.blk h1.hok.root _ _,h.lo,h.hok,Ωe h1.pers ho2 (fun k hk e=>h1.ne_pv (by rw[hk,e])),Ωe h1.votes ho2 (fun k hk e=>h1.ne_vv (by rw[hk,e])),h.ok,.inr ⟨w.heap.size,rfl,hb,?_⟩,fun v hv=>by cases hv⟩,(ho1.mono (fun _ _ e=>e.elim)).trans' ho2 (fun i _ e=> .inl e),fun k hk=> ?_⟩
 ·rw[seenV_nil]
  exact MapV.only hm ho2 (by omega)
 ·rcases hk with hk|hk|hk|hk
  ·exact .inl (.inl hk)
  ·exact .inl (.inr (.inl hk))
  ·exact .inl (.inr (.inr (.inl hk)))
  ·right
   have:w.heap.size=k:=by simpa [ΩdP] using hk
   omega
theorem Ωep{W:World}{base b:Nat}{c:Cli}(h:Ωv W base c)(hb:c.mv= .map (some b)){v:Vt}(vo:v.Ok):(Instr.lookup 98 (.map (some b)) (.agg (vtC v).toArray) false).run Tryz.prog W= .ok (.bool (hasB c.seen v)) W:=by
 obtain⟨kl,hk⟩:=ΩlV vo
 have hm:=(h.seen.blk (k:=b) (by rw[hb];rfl)).2.2
 have hlk:=hm.look Ωlt Tryz.underlying98 (Ωf2 W) hk
 rw[hlk]
 cases hh:hasB c.seen v with
 |true=>rw[Ωko (Ωjm.1 hh)];rfl
 |false=>rw[seenV_out h.sok vo (fun hm=>by rw[Ωjm.2 hm] at hh;cases hh)];rfl
structure FrS(w:World)(base N:Nat)(c0 c:Cli)(v:Vt)(b:Nat)(W:World):Prop where
 cli:Ωv W base c
 v:VtAt W N v
 step:Ωl w W c0 c
theorem FrS.keep{w:World}{base N:Nat}{c0 c:Cli}{v:Vt}{b:Nat}{W W' :World}(h:FrS w base N c0 c v b W)(ho:Only Ωa W W'):FrS w base N c0 c v b W' :=
 ⟨h.cli.nn ho,Blk.only h.v ho (fun e=>e),h.step.trans (Ωl.nn ho)⟩
theorem take1_in{M:List Vt}{v:Vt}(h:hasB M v=true):ΩaM M v=M:=by unfold ΩaM;rw[ΩnV h]
theorem ΩiS{M:List Vt}{v:Vt}(h:hasB M v=false):ΩaM M v=M++[v]:=by unfold ΩaM;rw[ΩnU (by rw[h];simp)]
theorem fresh_any(c:Cli)(v:Vt)(vo:v.Ok)(base:Nat)(w:World)(h:Ωv w base c)(hb:base≤w.heap.size)(hn:c.seen.length≤1000000):
  Calls Tryz.prog 77 #[.pointer (some ⟨c.C,0,none⟩),.agg (vtC v).toArray] w fun e w' =>e= .returned (.bool (!hasB c.seen v))∧∃mv',Ωv w' base {c with mv:=mv',seen:=ΩaM c.seen v}∧Ωl w w' c {c with mv:=mv',seen:=ΩaM c.seen v}:=by
 have ho0:Only Ωa w (w.alloc (.cells (vtC v).toArray 43)):=(Only.refl _ _).alloc _
 have hv0:VtAt (w.alloc (.cells (vtC v).toArray 43)) w.heap.size v:=Blk.new w _ _
 have h0:=h.nn ho0
 obtain⟨N,eN⟩:∃N,N=w.heap.size:=⟨_,rfl⟩
 rw[←eN] at hv0
 have hrl:=h.hok.root
 have HVO:=Θ vo
 have EN:=Θ eN
 rcases h.seen with⟨hmv,hM⟩|⟨b,hmv,hbb,hm⟩
 ·have c43:(w.alloc (.cells (vtC v).toArray 43)).cell? ⟨c.C,43,none⟩=some (.map none):=by rw[Ωcg h0.blk hrl,hmv]
  have c43b:((w.alloc (.cells (vtC v).toArray 43)).alloc (.map #[] 0)).cell? ⟨c.C,43,none⟩=some (.map none):=by rw[Ωcg (Blk.alloc h0.blk _) hrl,hmv]
  have c43f:((w.alloc (.cells (vtC v).toArray 43)).alloc (.map #[] 0)).frozen? ⟨c.C,43,none⟩=false:=(Blk.alloc h0.blk _).frozen 43
  have q1:=map_nil_nil
  have hmm:= @run_makeMap Tryz.prog
  have hZ:=h0.newmap hmv (by rw[Ωnw];omega)
  rw[Ωnw,←eN] at hZ
  obtain⟨b,eb⟩:∃b,b=N+1:=⟨_,rfl⟩
  rw[←eb] at hZ
  obtain⟨c1,ec1⟩:∃c1:Cli,c1={c with mv:= .map (some b),seen:=[]}:=⟨_,rfl⟩
  rw[←ec1] at hZ
  have eC:c1.C=c.C:=by rw[ec1]
  have hv1:VtAt (((w.alloc (.cells (vtC v).toArray 43)).alloc (.map #[] 0)).setCell ⟨c.C,43,none⟩ (.map (some b))) N v:=Blk.far (Blk.alloc hv0 _) (by
   have:=Blk.lt h.blk
   show N≠c.C
   omega) _
  have hS0:FrS w base N c c1 v b (((w.alloc (.cells (vtC v).toArray 43)).alloc (.map #[] 0)).setCell ⟨c.C,43,none⟩ (.map (some b))):=⟨hZ.1,hv1,(Ωl.nn ho0).trans hZ.2⟩
  have hm1:c1.mv= .map (some b):=by rw[ec1]
  have hM1:c1.seen=[]:=by rw[ec1]
  have hbf:hasB c1.seen v=false:=by rw[hM1];rfl
  have hres:∀(W:World) (M:List Vt),M=ΩaM c1.seen v→Ωv W base {c1 with seen:=M}∧Ωl w W c {c1 with seen:=M}→∃mv',Ωv W base {c with mv:=mv',seen:=ΩaM c.seen v}∧Ωl w W c {c with mv:=mv',seen:=ΩaM c.seen v}:=fun W M e hh=>⟨.map (some b),by
   rw[e,ec1] at hh
   rw[hM]
   exact hh⟩
  have hvl:(!hasB c.seen v)=(!false):=by rw[hM];rfl
  rw[hvl]
  have EB:Hid (b=w.heap.size+1):=Θ (by rw[eb,eN])
  have hn1:c1.seen.length≤1000000:=by rw[hM1];simp
  have HS0:=Θ hS0
  have HR:=Θ hres
  have HM1:=Θ hm1
  have HRL:Hid (c1.head.root.length=32):=Θ (by rw[ec1];exact hrl)
  have HBF:=Θ hbf
  have EC:=Θ eC
  clear hmv hM hZ ec1 hv1 hS0 hm1 hM1 hbf hres hvl ho0 hv0 h0 eN hrl vo h eb eC
  go_enter Tryz.func77,Tryz.ntmps77
  go_upto_region 3 with(fail)
  rw[←EB.out,←EN.out]
  refine Ωf (FrS w base N c c1 v b) HS0.out ?_
  intro Z hZ
  have HZ:=Θ hZ
  clear hZ HS0 c43 c43b c43f q1 hmm
  obtain⟨ft,hfx⟩:=Ωbp (FrS w base N c c1 v b) (W0:=Z.drew) (HZ.out.keep (Only.refl Ωa Z).drew)
  obtain⟨F,hI,hF0,hF,hFS⟩:=hfx
  have f1:∀x,(F x).cell? ⟨c.C,43,none⟩=some (.map (some b)):=fun x=>by rw[←EC.out,Ωcg (hFS x).cli.blk HRL.out,HM1.out]
  have f2:∀x,(Ωbm (.pointer (some ⟨N,0,none⟩))).run Tryz.prog (F x)= .ok (.agg (vtC v).toArray) (F x):=fun x=>ΩX (Ωd (hFS x).v) HVO.out.head.root
  have f3:∀x,(Instr.lookup 98 (.map (some b)) (.agg (vtC v).toArray) false).run Tryz.prog (F x)= .ok (.bool false) (F x):=fun x=>by rw[Ωep (hFS x).cli HM1.out HVO.out,HBF.out]
  have HF:=Θ hF
  have HF0:=Θ hF0
  clear hF hF0 hFS
  refine Ω9 F (by kernel_rfl) (by kernel_rfl) HF0.out ?_
  repeat(go_big_quiet_step (fail))
  refine wpQuiet_nil ?_
  intro w9 hw9
  have HZ9:=Θ ((HF.out w9).2 hw9)
  clear hw9 f1 f2 f3 HF HF0 hI
  go_upto_region 5 with(fail)
  obtain⟨ft,hfx⟩:=Ωbp (FrS w base N c c1 v b) (W0:=w9.drew) (HZ9.out.keep (Only.refl Ωa w9).drew)
  obtain⟨F,hI,hF0,hF,hFS⟩:=hfx
  have f1:∀x,(F x).cell? ⟨c.C,43,none⟩=some (.map (some b)):=fun x=>by rw[←EC.out,Ωcg (hFS x).cli.blk HRL.out,HM1.out]
  have f2:∀x,(Ωbm (.pointer (some ⟨N,0,none⟩))).run Tryz.prog (F x)= .ok (.agg (vtC v).toArray) (F x):=fun x=>ΩX (Ωd (hFS x).v) HVO.out.head.root
  have f3x:True:=trivial
  have f3:∀x,(Instr.lookup 98 (.map (some b)) (.agg (vtC v).toArray) false).run Tryz.prog (F x)= .ok (.bool false) (F x):=fun x=>by rw[Ωep (hFS x).cli HM1.out HVO.out,HBF.out]
  have HF:=Θ hF
  have HF0:=Θ hF0
  clear hF hF0 hFS
  refine Ωs F 5 (by kernel_rfl) (by kernel_rfl) HF0.out ?_
  simp only[Ωoc,Ωoz,Ωon,List.drop_zero]
  repeat(go_big_quiet_step (fail))
  refine wpQuiet_nil ?_
  intro w8 hw8
  have hZ8:=(HF.out w8).2 hw8
  obtain⟨kl,hkl⟩:=ΩlV HVO.out
  have hmm8:=(hZ8.cli.seen.blk (k:=b) (by rw[HM1.out];rfl)).2.2
  have HZ8:=Θ hZ8
  have HKL:=Θ hkl
  have HMM:=Θ hmm8
  clear hw8 hZ8 hkl hmm8 f1 f2 f3 f3x HF HF0 hI
  go_wp2_with (at_mapUpdate;refine ΩbU _ rfl _ _ _ 98 rfl 43 4 Ωlt Tryz.underlying98 b c1.seen.length _ rfl HMM.out (by rw[Ωg];omega) _ _ _ rfl rfl HKL.out ?_;intro w7 hown7 hgrow7)
  have hrs:=HZ8.out.cli.reseen HM1.out ((Only.refl (fun k=>k=b) w8).grown hgrow7 (fun k e=>by cases e;exact .inl rfl)) (M:=c1.seen++[v]) (by rw[ΩnA];exact hown7.congr (ΩiW _ _)) (fun x hx=>by
   rcases ΩoH.1 hx with hx|hx
   ·exact HZ8.out.cli.sok x hx
   ·rw[Ωou.1 hx];exact HVO.out)
  have HRS:=Θ (HR.out _ _ (ΩiS HBF.out).symm ⟨hrs.1,HZ8.out.step.trans hrs.2⟩)
  clear hown7 hgrow7 hrs
  go_wp2_with fail
  go_ret
  exact⟨rfl,HRS.out⟩
 ·have c43:(w.alloc (.cells (vtC v).toArray 43)).cell? ⟨c.C,43,none⟩=some (.map (some b)):=by rw[Ωcg h0.blk hrl,hmv]
  have q1:=map_some_nil b
  have hS0:FrS w base N c c v b (w.alloc (.cells (vtC v).toArray 43)):=⟨h0,hv0,Ωl.nn ho0⟩
  have HS0:=Θ hS0
  have HM1:=Θ hmv
  have HRL:=Θ hrl
  have EC:Hid (c.C=c.C):=Θ rfl
  cases hbf:hasB c.seen v with
  |true=>
   have hres:∀(W:World),Ωv W base c∧Ωl w W c c→∃mv',Ωv W base {c with mv:=mv',seen:=ΩaM c.seen v}∧Ωl w W c {c with mv:=mv',seen:=ΩaM c.seen v}:=fun W hh=>⟨c.mv,by
    rw[take1_in hbf]
    exact hh⟩
   have HR:=Θ hres
   have HBF:=Θ hbf
   clear hmv hS0 hres ho0 hv0 h0 eN hrl vo h hbf hm hbb
   go_enter Tryz.func77,Tryz.ntmps77
   go_upto_region 3 with(fail)
   rw[←EN.out]
   refine Ωf (FrS w base N c c v b) HS0.out ?_
   intro Z hZ
   have HZ:=Θ hZ
   clear hZ HS0 c43 q1
   obtain⟨ft,hfx⟩:=Ωbp (FrS w base N c c v b) (W0:=Z.drew) (HZ.out.keep (Only.refl Ωa Z).drew)
   obtain⟨F,hI,hF0,hF,hFS⟩:=hfx
   have f1:∀x,(F x).cell? ⟨c.C,43,none⟩=some (.map (some b)):=fun x=>by rw[←EC.out,Ωcg (hFS x).cli.blk HRL.out,HM1.out]
   have f2:∀x,(Ωbm (.pointer (some ⟨N,0,none⟩))).run Tryz.prog (F x)= .ok (.agg (vtC v).toArray) (F x):=fun x=>ΩX (Ωd (hFS x).v) HVO.out.head.root
   have f3:∀x,(Instr.lookup 98 (.map (some b)) (.agg (vtC v).toArray) false).run Tryz.prog (F x)= .ok (.bool true) (F x):=fun x=>by rw[Ωep (hFS x).cli HM1.out HVO.out,HBF.out]
   have HF:=Θ hF
   have HF0:=Θ hF0
   clear hF hF0 hFS
   refine Ω9 F (by kernel_rfl) (by kernel_rfl) HF0.out ?_
   repeat(go_big_quiet_step (fail))
   refine wpQuiet_nil ?_
   intro w9 hw9
   have HZ9:=Θ ((HF.out w9).2 hw9)
   clear hw9 f1 f2 f3 HF HF0 hI
   go_wp2_with fail
   go_ret
   exact⟨rfl,HR.out _ ⟨HZ9.out.cli,HZ9.out.step⟩⟩
  |false=>
   have hres:∀(W:World) (M:List Vt),M=ΩaM c.seen v→Ωv W base {c with seen:=M}∧Ωl w W c {c with seen:=M}→∃mv',Ωv W base {c with mv:=mv',seen:=ΩaM c.seen v}∧Ωl w W c {c with mv:=mv',seen:=ΩaM c.seen v}:=fun W M e hh=>⟨c.mv,by
    rw[e] at hh
    exact hh⟩
   have HR:=Θ hres
   have HBF:=Θ hbf
   have hn1:=hn
   clear hmv hS0 hres ho0 hv0 h0 eN hrl vo h hbf hm hbb
   go_enter Tryz.func77,Tryz.ntmps77
   go_upto_region 3 with(fail)
   rw[←EN.out]
   refine Ωf (FrS w base N c c v b) HS0.out ?_
   intro Z hZ
   have HZ:=Θ hZ
   clear hZ HS0 c43 q1
   obtain⟨ft,hfx⟩:=Ωbp (FrS w base N c c v b) (W0:=Z.drew) (HZ.out.keep (Only.refl Ωa Z).drew)
   obtain⟨F,hI,hF0,hF,hFS⟩:=hfx
   have f1:∀x,(F x).cell? ⟨c.C,43,none⟩=some (.map (some b)):=fun x=>by rw[←EC.out,Ωcg (hFS x).cli.blk HRL.out,HM1.out]
   have f2:∀x,(Ωbm (.pointer (some ⟨N,0,none⟩))).run Tryz.prog (F x)= .ok (.agg (vtC v).toArray) (F x):=fun x=>ΩX (Ωd (hFS x).v) HVO.out.head.root
   have f3:∀x,(Instr.lookup 98 (.map (some b)) (.agg (vtC v).toArray) false).run Tryz.prog (F x)= .ok (.bool false) (F x):=fun x=>by rw[Ωep (hFS x).cli HM1.out HVO.out,HBF.out]
   have HF:=Θ hF
   have HF0:=Θ hF0
   clear hF hF0 hFS
   refine Ω9 F (by kernel_rfl) (by kernel_rfl) HF0.out ?_
   repeat(go_big_quiet_step (fail))
   refine wpQuiet_nil ?_
   intro w9 hw9
   have HZ9:=Θ ((HF.out w9).2 hw9)
   clear hw9 f1 f2 f3 HF HF0 hI
   go_upto_region 5 with(fail)
   obtain⟨ft,hfx⟩:=Ωbp (FrS w base N c c v b) (W0:=w9.drew) (HZ9.out.keep (Only.refl Ωa w9).drew)
   obtain⟨F,hI,hF0,hF,hFS⟩:=hfx
   have f1:∀x,(F x).cell? ⟨c.C,43,none⟩=some (.map (some b)):=fun x=>by rw[←EC.out,Ωcg (hFS x).cli.blk HRL.out,HM1.out]
   have f2:∀x,(Ωbm (.pointer (some ⟨N,0,none⟩))).run Tryz.prog (F x)= .ok (.agg (vtC v).toArray) (F x):=fun x=>ΩX (Ωd (hFS x).v) HVO.out.head.root
   have f3x:True:=trivial
   have f3:∀x,(Instr.lookup 98 (.map (some b)) (.agg (vtC v).toArray) false).run Tryz.prog (F x)= .ok (.bool false) (F x):=fun x=>by rw[Ωep (hFS x).cli HM1.out HVO.out,HBF.out]
   have HF:=Θ hF
   have HF0:=Θ hF0
   clear hF hF0 hFS
   refine Ωs F 5 (by kernel_rfl) (by kernel_rfl) HF0.out ?_
   simp only[Ωoc,Ωoz,Ωon,List.drop_zero]
   repeat(go_big_quiet_step (fail))
   refine wpQuiet_nil ?_
   intro w8 hw8
   have hZ8:=(HF.out w8).2 hw8
   obtain⟨kl,hkl⟩:=ΩlV HVO.out
   have hmm8:=(hZ8.cli.seen.blk (k:=b) (by rw[HM1.out];rfl)).2.2
   have HZ8:=Θ hZ8
   have HKL:=Θ hkl
   have HMM:=Θ hmm8
   clear hw8 hZ8 hkl hmm8 f1 f2 f3 f3x HF HF0 hI
   go_wp2_with (at_mapUpdate;refine ΩbU _ rfl _ _ _ 98 rfl 43 4 Ωlt Tryz.underlying98 b c.seen.length _ rfl HMM.out (by rw[Ωg];omega) _ _ _ rfl rfl HKL.out ?_;intro w7 hown7 hgrow7)
   have hrs:=HZ8.out.cli.reseen HM1.out ((Only.refl (fun k=>k=b) w8).grown hgrow7 (fun k e=>by cases e;exact .inl rfl)) (M:=c.seen++[v]) (by rw[ΩnA];exact hown7.congr (ΩiW _ _)) (fun x hx=>by
    rcases ΩoH.1 hx with hx|hx
    ·exact HZ8.out.cli.sok x hx
    ·rw[Ωou.1 hx];exact HVO.out)
   have HRS:=Θ (HR.out _ _ (ΩiS HBF.out).symm ⟨hrs.1,HZ8.out.step.trans hrs.2⟩)
   clear hown7 hgrow7 hrs
   go_wp2_with fail
   go_ret
   exact⟨rfl,HRS.out⟩
end
section
open Go.RowKit Go.Shelf
def secI(id:Int):Int:=1000+7*id
theorem Ωcn(id:Int)(h0: -1000000≤id)(h1:id≤1000000)(w:World):Calls Tryz.prog 39 #[.int .i64 id] w fun e w' =>e= .returned (.int .i64 (secI id))∧w' =w:=by
 go_enter Tryz.func39,Tryz.ntmps39
 go_wp2_with fail
 go_ret
 exact⟨ΩB (by unfold secI;omega),rfl⟩
noncomputable def Ωhj(k:Nat):Pers:=⟨(k:Int),2,(pub (secI k):Int)⟩
noncomputable def Ωnk:Pers:=⟨50,1,(pub (secI 50):Int)⟩
noncomputable def setB(m:Nat):List Pers:=Ωnk::(List.range m).map (fun j=>Ωhj (j+1))
theorem setB_snoc(m:Nat):setB (m+1)=setB m++[Ωhj (m+1)]:=by simp[setB,List.range_succ]
theorem Ωh9(m:Nat):(setB m).length =m+1:=by simp[setB]
def nOff(n:Int):Nat:=(min n 13).toNat
theorem nOff_le(n:Int):nOff n≤13:=by unfold nOff;omega
abbrev tSu:TypeId:=50
def ΩlD(p v:Value):Sem Unit:=Instr.storeAt 50 p v
theorem Ωcm(p v:Value):Instr.storeAt 50 p v=ΩlD p v:=rfl
theorem ΩfL{W:World}{R n c:Nat}{A:Option Addr}{cs:Array Value}(h:Blk W R tSu cs)(hs:cs.size=6):(ΩlD (.pointer (some ⟨R,0,none⟩)) (.agg #[.slice A n c,.int .i64 0,.slice none 0 0,.slice none 0 0,.int .i64 0,.int .i64 0])).run Tryz.prog W= .ok () (W.setCells R 0 [.slice A n c,.int .i64 0,.slice none 0 0,.slice none 0 0,.int .i64 0,.int .i64 0]):=
 run_storeAt_mid (P:=Tryz.prog) W R 0 50 #[.slice A n c,.int .i64 0,.slice none 0 0,.slice none 0 0,.int .i64 0,.int .i64 0] (h.there 0 _ (by rw[hs];simp)) (by kernel_rfl) (by simp[Value.oneCell'])
attribute [local go_sem ↓ high] Ωcm
structure StS(w:World)(R V:Nat)(m:Nat)(pv:Value)(W:World):Prop where
 res:Blk W R tSu #[.slice none 0 0,.int .i64 0,.slice none 0 0,.slice none 0 0,.int .i64 0,.int .i64 0]
 st:Blk W V tSu #[pv,.int .i64 0,.slice none 0 0,.slice none 0 0,.int .i64 0,.int .i64 0]
 own:ΩT W w.heap.size pv (m+1) (setB m)
 only:Only Ωa w W
end
section
theorem cnts_voted(p:Pers)(who sec:Int)(h:Hd)(hw:who=p.id)(hk:p.pub=(pub sec:Int)):cnts p (Ωga who sec h)=true:=by
 unfold cnts Ωga
 simp only[hw,hk,beq_self_eq_true,Bool.true_and]
 exact Ωcv.2 (good_signed sec (ΩbB h) (ΩdK (expo sec) (ΩbB h)))
theorem cnts_other(p:Pers)(v:Vt)(h:v.who≠p.id):cnts p v=false:=by
 unfold cnts
 rw[ΩnL.2 h];rfl
noncomputable def vAt(h:Hd)(k:Nat):Vt:=Ωga (k:Int) (secI k) h
noncomputable def vts(h:Hd)(m:Nat):List Vt:=(List.range m).map (fun j=>vAt h (j+1))
theorem Ωl6(n:Nat):In (gp n:Int):=by
 have h1:gp n<P0:=Ωms 4 n
 have h2:=ΩdR
 constructor<;>omega
theorem sig_in(x:Int)(text:List UInt8)(n:Nat):In (sigS x text n:Int):=by
 have h1:=ΩjO x text n
 have h2:=ΩaU
 constructor<;>omega
theorem Ωlx{who sec:Int}{h:Hd}(iw:In who)(ok:h.Ok):(Ωga who sec h).Ok :=⟨iw,ok,Ωl6 _,sig_in _ _ _⟩
theorem ΩiA(h:Hd)(k j:Nat):cnts (Ωhj k) (vAt h j)=decide (j=k):=by
 by_cases e:j=k
 ·subst e
  rw[ΩnG rfl]
  exact cnts_voted _ _ _ _ rfl rfl
 ·rw[Ωny e]
  exact cnts_other _ _ (fun h=>e (by have h2:(j:Int)=(k:Int):=h;omega))
end
section
open Go.RowKit Go.Shelf
attribute [local go_sem ↓ high] ΩG Ωaj Ωaq ΩQ ΩcG
def h2:Hd:=⟨2,Ωnc⟩
def hdBd(parts:Array (Nat×Value)):Sem Value:=Instr.build 37 parts
theorem ΩgK(parts:Array (Nat×Value)):Instr.build 37 parts=hdBd parts:=rfl
attribute [local go_sem ↓ high] ΩgK
theorem setB_ok(m:Nat)(hm:m≤100):ΩS (setB m):=fun p hp=>by
 rcases Ωn3.1 hp with rfl|hp
 ·exact⟨⟨by decide,by decide⟩,⟨by decide,by decide⟩,Ωl6 _⟩
 ·obtain⟨j,hj,rfl⟩:=Ωos.1 hp
  have:=List.mem_range.1 hj
  exact⟨⟨by show(-9223372036854775808:Int)≤((j+1:Nat):Int);omega,by show((j+1:Nat):Int)≤9223372036854775807;omega⟩,⟨by show(-9223372036854775808:Int)≤2;omega,by show(2:Int)≤9223372036854775807;omega⟩,Ωl6 _⟩
end
section
noncomputable def Ωcf(ag:Hd→Hd→Bool):List Vt→Option (Vt×Vt)
 |[]=>none
 |v::l=>match l.find? (fun u=> !ag v.head u.head) with
  |some u=>some (v,u)
  |none=>Ωcf ag l
theorem Ωfi(ag:Hd→Hd→Bool):Ωcf ag []=none:=rfl
theorem ΩcR(ag:Hd→Hd→Bool)(v:Vt)(l:List Vt):Ωcf ag (v::l)=match l.find? (fun u=> !ag v.head u.head) with|some u=>some (v,u)|none=>Ωcf ag l:=rfl
structure Blm where
 who:Int
 a:Vt
 b:Vt
noncomputable def ΩjC(ag:Hd→Hd→Bool)(L:List Vt)(p:Pers):Option Blm:=(Ωcf ag (L.filter (cnts p))).map (fun x=>⟨p.id,x.1,x.2⟩)
noncomputable def Ωag(ag:Hd→Hd→Bool)(L:List Vt)(O:List Pers):List Blm:=O.filterMap (ΩjC ag L)
noncomputable def ΩhP(ag:Hd→Hd→Bool)(P:List Pers)(L:List Vt):List Blm:=Ωag ag L (offs P)
theorem Ωg4{ag:Hd→Hd→Bool}{L:List Vt}{O:List Pers}{k:Nat}{p:Pers}(h:O[k]? =some p):Ωag ag L (O.take (k+1))=Ωag ag L (O.take k)++(match ΩjC ag L p with|some b=>[b]|none=>[]):=by
 unfold Ωag
 rw[ΩnO,h,ΩnS,List.filterMap_append]
 congr 1
 rw[List.filterMap_cons]
 cases ΩjC ag L p<;>rfl
theorem ΩhO(ag:Hd→Hd→Bool)(L:List Vt)(O:List Pers):(Ωag ag L O).length≤O.length:=List.length_filterMap_le _ _
noncomputable def ΩbA(ag:Hd→Hd→Bool)(p:Pers)(v:Vt):List Vt→Option Vt
 |[]=>none
 |u::l=>if !ag v.head u.head&&cnts p u then some u else ΩbA ag p v l
theorem ΩgC(ag:Hd→Hd→Bool)(p:Pers)(v:Vt):∀l:List Vt,ΩbA ag p v l=(l.filter (cnts p)).find? (fun u=> !ag v.head u.head)
 |[]=>rfl
 |u::l=>by
  unfold ΩbA
  rw[List.filter_cons,ΩgC ag p v l]
  cases hc:cnts p u with
  |false=>simp
  |true=>
   simp only[Bool.and_true,if_true]
   rw[List.find?_cons]
   cases ag v.head u.head<;>simp
noncomputable def ΩdH(ag:Hd→Hd→Bool)(p:Pers):List Vt→Option (Vt×Vt)
 |[]=>none
 |v::l=>match(if cnts p v then ΩbA ag p v l else none) with
  |some u=>some (v,u)
  |none=>ΩdH ag p l
theorem Ωkq(ag:Hd→Hd→Bool)(p:Pers):∀L:List Vt,ΩdH ag p L=Ωcf ag (L.filter (cnts p))
 |[]=>rfl
 |v::l=>by
  unfold ΩdH
  rw[List.filter_cons,Ωkq ag p l]
  cases hc:cnts p v with
  |false=>simp
  |true=>
   simp only[if_true]
   rw[ΩcR,ΩgC]
end
section
noncomputable def agB(f:Hd→Hd→Bool)(a b:Hd):Bool:=eqHd a b||((decide (a.size<b.size)&&f a b)||(decide (b.size<a.size)&&f b a))
theorem eqHd_comm(a b:Hd):eqHd a b=eqHd b a:=by rw[Ωoy,Ωas,Ωas];exact eq_comm
theorem agB_comm(f:Hd→Hd→Bool)(a b:Hd):agB f a b=agB f b a:=by
 unfold agB
 rw[eqHd_comm,Bool.or_comm (decide (a.size<b.size)&&f a b)]
theorem agB_same(f:Hd→Hd→Bool){a b:Hd}(h:a≠b)(hs:a.size=b.size):agB f a b=false:=by
 unfold agB
 rw[Ωfm.2 h]
 simp[hs]
theorem ΩmV(f:Hd→Hd→Bool){a b:Hd}(hs:a.size<b.size):agB f a b=f a b:=by
 unfold agB
 have:a≠b:=fun e=>by rw[e] at hs;omega
 rw[Ωfm.2 this]
 simp[hs,show¬b.size<a.size by omega]
theorem agB_gt(f:Hd→Hd→Bool){a b:Hd}(hs:b.size<a.size):agB f a b=f b a:=by rw[agB_comm];exact ΩmV f hs
end
section
open Go.RowKit Go.Shelf
attribute [local go_sem ↓ high] ΩG Ωaq ΩQ ΩgK
def haBd(parts:Array (Nat×Value)):Sem Value:=Instr.build 35 parts
theorem Ωl3(parts:Array (Nat×Value)):Instr.build 35 parts=haBd parts:=rfl
theorem bv_small{q:Int}(h0:0≤q)(h1:q<256):bv (UInt8.ofNat q.toNat)= .int .u8 q:=by
 unfold bv
 rw[UInt8.toNat_ofNat']
 congr 1
 omega
theorem hdBd_built(n:Int):∀(l:List UInt8),l.length=32→Tryz.prog.built 37 [(0,.int .i64 n),(1,.agg (l.map bv).toArray)]=some (hdC ⟨n,l⟩).toArray
 |[x0,x1,x2,x3,x4,x5,x6,x7,x8,x9,x10,x11,x12,x13,x14,x15,x16,x17,x18,x19,x20,x21,x22,x23,x24,x25,x26,x27,x28,x29,x30,x31],_=>by kernel_rfl
theorem hdBd_run(n:Int)(l:List UInt8)(hl:l.length=32)(W:World):(hdBd #[(0,.int .i64 n),(1,.agg (l.map bv).toArray)]).run Tryz.prog W= .ok (.agg (hdC ⟨n,l⟩).toArray) W:=
 run_build (P:=Tryz.prog) W 37 _ _ (hdBd_built n l hl)
attribute [local go_sem ↓ high] Ωl3
end
section
open Go.RowKit Go.Shelf
attribute [local go_sem ↓ high] ΩG Ωaq ΩQ Ωaj Ωb9 ΩaV
theorem Ωc1(W:World){v:Vt}(hl:v.head.root.length=32):(Ωf7 (.pointer (some ⟨W.heap.size,0,none⟩)) (.agg (vtC v).toArray)).run Tryz.prog (W.alloc (.cells vt0C 43))= .ok () ((W.alloc (.cells vt0C 43)).setCells W.heap.size 0 (vtC v)):=Ωek (Blk.new W tVt vt0C) rfl hl
end
section
open Go.RowKit Go.Shelf
attribute [local go_sem ↓ high] ΩcG
end
section
open Go.RowKit Go.Shelf
open Go.Maps (Keyed)
attribute [local go_sem ↓ high] Ωaj Ωb9 ΩaV ΩcG
def ΩdT(c:Cli)(v:Value):Prop:=∀a n cap,v= .slice (some a) n cap→¬c.foot a.block
theorem VtSl.step{S:Nat→Prop}{w w' :World}{v:Value}{L:List Vt}(h:VtSl w v L)(ho:Only S w w')(ha:∀a n cap,v= .slice (some a) n cap→¬S a.block):VtSl w' v L:=by
 obtain⟨A,cap,rfl,h1,h2,h3⟩:=h
 refine⟨A,cap,rfl,h1,h2,fun i p hp=> ?_⟩
 obtain⟨g,o,rfl,hg,hr⟩:=h3 i p hp
 exact⟨g,o,rfl,ΩnT hg ho.size,fun j x hj=>ho.cell_some (hr j x hj) (ha ⟨g,o,none⟩ _ _ rfl)⟩
structure FiS(w:World)(base:Nat)(c:Cli)(L:List Vt)(k:Nat)(ov mv:Value)(W:World):Prop where
 cli:Ωv W base {c with mv:=mv,seen:=ΩA c.seen (L.take k)}
 step:Ωl w W c {c with mv:=mv,seen:=ΩA c.seen (L.take k)}
 own:ΩH W w.heap.size ov (ΩR c.seen (L.take k)).length (ΩR c.seen (L.take k))
theorem ΩiR(M L:List Vt):(ΩA M L).length≤M.length+L.length:=by
 unfold ΩA
 rw[ΩnA]
 have:=ΩbX L M
 omega
theorem Ωhq{L:List Vt}{k:Nat}{v:Vt}(h:L[k]? =some v):L.take (k+1)=L.take k++[v]:=by rw[ΩnO,h];rfl
theorem takeV_next{M L:List Vt}{k:Nat}{v:Vt}(h:L[k]? =some v):ΩA M (L.take (k+1))=ΩaM (ΩA M (L.take k)) v:=by
 rw[Ωhq h,ΩaW,ΩaW,List.foldl_append]
 rfl
theorem freshL_next{M L:List Vt}{k:Nat}{v:Vt}(h:L[k]? =some v):ΩR M (L.take (k+1))=ΩR M (L.take k)++(if hasB (ΩA M (L.take k)) v then [] else [v]):=by
 rw[Ωhq h,Ωeb];rfl
theorem takeV_nil(M:List Vt):ΩA M []=M:=Ωox M
theorem Ωi5{w W:World}{base n:Nat}{c:Cli}{ov mv:Value}{M:List Vt}{xs:List Value}(hc:Ωv w base c)(hcli:Ωv W base {c with mv:=mv,seen:=M})(hown:W.ownsRow w.heap.size 43 36 ov n xs){q:Nat}(hq:ov.ownBlock=some q):¬({c with mv:=mv,seen:=M}:Cli).foot q:=fun hf=>by
 have hge:=(ΩJ hown hq).1
 rcases hf with hf|hf|hf|hf
 ·have:=Blk.lt hc.blk
  have e:q=c.C:=hf
  omega
 ·have:=(ΩJ hc.pers hf).2;omega
 ·have:=(ΩJ hc.votes hf).2;omega
 ·exact Ωaz hown (hcli.seen.blk hf).2.2 hq
theorem filter_any(c:Cli)(base:Nat)(L:List Vt)(hok:Ω4 L)(hL:L.length≤1000)(sv:Value)(w:World)(h:Ωv w base c)(hb:base≤w.heap.size)(hs:VtSl w sv L)(ha:ΩdT c sv)(hn:c.seen.length≤100000):
  Calls Tryz.prog 76 #[sv,.func (.func 77) #[.pointer (some ⟨c.C,0,none⟩)] #[]] w fun e w' =>∃rv mv',e= .returned rv∧ΩH w' w.heap.size rv (ΩR c.seen L).length (ΩR c.seen L)∧Ωv w' base {c with mv:=mv',seen:=ΩA c.seen L}∧Ωl w w' c {c with mv:=mv',seen:=ΩA c.seen L}:=by
 obtain⟨A,cap,rfl,hlc,hcm,hA⟩:=id hs
 obtain⟨ie,zz,hie,hsz,hz,hzc,hby⟩:=ΩdY
 have HIE:=Θ hie
 have HSZ:=Θ hsz
 have HZZ:=Θ hz
 have HZC:=Θ hzc
 have HBY:=Θ hby
 have HOK:=Θ hok
 have hs0:FiS w base c L 0 (.slice none 0 0) c.mv w:=by
  have e:({c with mv:=c.mv,seen:=ΩA c.seen (L.take 0)}:Cli)=c:=by rw[Ωoz,takeV_nil]
  refine⟨by rw[e];exact h,by rw[e];exact Ωl.refl _ _,?_⟩
  exact⟨rfl,.inl ⟨rfl,rfl⟩⟩
 have HS0:=Θ hs0
 have HH:=Θ h
 have HSL:=Θ hs
 have HAP:=Θ ha
 clear hie hsz hz hzc hby hok hs0 h hA hs ha
 go_enter Tryz.func76,Tryz.ntmps76
 go_wp2_with fail
 go_loopw [5,10] (fun ov iv wr=>∃(k:Nat) (mv:Value),iv= .int .i64 (k:Int)∧k≤L.length∧FiS w base c L k ov mv wr) (fun _ iv _=>L.length-(intOf iv).toNat)
 case atStart=>exact⟨0,c.mv,rfl,by omega,HS0.out⟩
 case round=>
  obtain⟨k,mv,rfl,hk,hS⟩:=hrel
  obtain⟨out,hout⟩:∃out:Value,out=u5:=⟨_,rfl⟩
  subst hout
  have HS:=Θ hS
  clear hS
  by_cases hlt:k<L.length
  ·obtain⟨v,hv⟩:∃v,L[k]? =some v:=⟨_,Ωnu hlt⟩
   have vo:=HOK.out v (ΩnE hv)
   have hl:=vo.head.root
   have hslr:VtSl wr (.slice A L.length cap) L:=HSL.out.step HS.out.step.1 (fun a n cap e=>HAP.out a n cap e)
   obtain⟨g,o,rfl,hg,hr⟩:=(by obtain⟨A',cap',e,_,_,h3⟩:=hslr;cases e;exact h3 k v hv:∃g o,A=some ⟨g,o,none⟩∧g<wr.heap.size∧wr.rangeAt g (o+k*36) (vtC v))
   have ik:(k:Int)<(L.length:Int):=by omega
   have ik0:(0:Int)≤(k:Int):=by omega
   have hld:=ΩX hr hl
   have hst:=Ωc1 wr hl
   have hnw:=ΩbZ
   obtain⟨c1,ec1⟩:∃c1:Cli,c1={c with mv:=mv,seen:=ΩA c.seen (L.take k)}:=⟨_,rfl⟩
   have hcC:c1.C=c.C:=by rw[ec1]
   have hseen:c1.seen=ΩA c.seen (L.take k):=by rw[ec1]
   have hcli:=HS.out.cli
   have hstep:=HS.out.step
   rw[←ec1] at hcli hstep
   have hsn:c1.seen.length≤1000000:=by
    rw[hseen]
    have h1:=ΩiR c.seen (L.take k)
    have h2:(L.take k).length≤k:=ΩoM _ _
    omega
   obtain⟨V,eV⟩:∃V,V=wr.heap.size:=⟨_,rfl⟩
   have hoZ:Only Ωa wr ((wr.alloc (.cells vt0C 43)).setCells V 0 (vtC v)):=by rw[eV];exact Ωb ((Only.refl _ _).alloc _) wr.heap.size 0 (.inr (Ωnv _)) _
   have hvZ:VtAt ((wr.alloc (.cells vt0C 43)).setCells V 0 (vtC v)) V v:=by rw[eV];exact Ωj (Blk.new wr tVt vt0C) (by rw[Ω0 hl];rfl)
   have HZ0:=Θ (And.intro hoZ hvZ)
   have EV:=Θ eV
   have EV2:=Θ eV
   have HVO:=Θ vo
   have HCLI:=Θ hcli
   have HSTEP:=Θ hstep
   have HFR:Hid (∀W,Only Ωa wr W→Calls Tryz.prog 77 #[.pointer (some ⟨c.C,0,none⟩),.agg (vtC v).toArray] W fun e w' =>e= .returned (.bool (!hasB c1.seen v))∧∃mv',Ωv w' base {c1 with mv:=mv',seen:=ΩaM c1.seen v}∧Ωl W w' c1 {c1 with mv:=mv',seen:=ΩaM c1.seen v}):=Θ (fun W ho=>by
    rw[←hcC]
    exact fresh_any c1 v vo base W (hcli.nn ho) (Ωnz hb (Ωnz hstep.1.size ho.size)) hsn)
   have hnxt:ΩA c.seen (L.take (k+1))=ΩaM c1.seen v:=by rw[hseen,takeV_next hv]
   have hfnx:ΩR c.seen (L.take (k+1))=ΩR c.seen (L.take k)++(if hasB c1.seen v then [] else [v]):=by rw[hseen,freshL_next hv]
   have hc2:∀mv',({c1 with mv:=mv',seen:=ΩaM c1.seen v}:Cli)={c with mv:=mv',seen:=ΩA c.seen (L.take (k+1))}:=fun mv' =>by rw[hnxt,ec1]
   have HC2:=Θ hc2
   have HFN:=Θ hfnx
   have HOA:Hid (∀q,out.ownBlock=some q→¬c1.foot q):=Θ (fun q hq=>by rw[ec1];exact Ωi5 HH.out HS.out.cli HS.out.own hq)
   have hfl:(ΩR c.seen (L.take k)).length≤k:=Ωnz (ΩbX _ _) (ΩoM _ _)
   obtain⟨n0,en0⟩:∃n0,n0=(ΩR c.seen (L.take k)).length :=⟨_,rfl⟩
   obtain⟨C0,eC0⟩:∃C0,C0=(ΩR c.seen (L.take k)).flatMap vtC:=⟨_,rfl⟩
   have hown0:wr.ownsRow w.heap.size 43 36 out n0 C0:=by rw[en0,eC0];exact HS.out.own
   have hcells:(ΩR c.seen (L.take k)++[v]).flatMap vtC=C0++vtC v:=by rw[Ωn2,eC0];simp
   have hlen1:(ΩR c.seen (L.take k)++[v]).length =n0+1:=by rw[ΩnA,en0];rfl
   rw[←en0] at hfl
   have HOWN:=Θ hown0
   have HCELLS:=Θ hcells
   have HLEN:=Θ hlen1
   have EN0:=Θ en0
   have EC0:=Θ eC0
   have HSZW:=Θ HS.out.step.1.size
   clear hr hg hslr hv vo hcli hstep hcC hseen hsn hoZ hvZ eV hnxt hfnx hc2 ec1 en0 eC0 hown0 hcells hlen1
   go_upto_region 5 with(fail)
   rw[←EV.out]
   refine Ωf (fun Z=>Only Ωa wr Z∧VtAt Z V v) HZ0.out ?_
   clear HZ0 EV hld hst hnw
   rintro Z ⟨hZ,hV⟩
   have hld:=ΩX (Ωd hV) hl
   have HZ:=Θ (And.intro hZ hV)
   clear hZ hV
   obtain⟨β,eβ⟩:∃β,β=hasB c1.seen v:=⟨_,rfl⟩
   rw[←eβ] at HFN HFR
   have EBB:=Θ eβ
   clear eβ
   go_wp2_with fail
   refine(HFR.out _ HZ.out.1).mono ?_
   rintro e5 w5 ⟨rfl,mv5,hcli5,hstep5⟩
   rw[HC2.out] at hcli5 hstep5
   have hV5:VtAt w5 V v:=Blk.only HZ.out.2 hstep5.1 (fun hf=>by
    have h1:=(HCLI.out.foot_in hf).2
    have h2:=EV2.out
    omega)
   have hoa5:∀q,out.ownBlock=some q→¬({c with mv:=mv5,seen:=ΩA c.seen (L.take (k+1))}:Cli).foot q:=fun q hq=>Ωi5 HH.out hcli5 (Ωe (Ωe HOWN.out HZ.out.1 (fun _ _ e=>e)) hstep5.1 HOA.out) hq
   have hown5:w5.ownsRow w.heap.size 43 36 out n0 C0:=Ωe (Ωe HOWN.out HZ.out.1 (fun _ _ e=>e)) hstep5.1 HOA.out
   have hst5:Ωl w w5 c {c with mv:=mv5,seen:=ΩA c.seen (L.take (k+1))}:=(HSTEP.out.trans (Ωl.nn HZ.out.1)).trans hstep5
   have H5:=Θ (And.intro hcli5 (And.intro hst5 (And.intro hown5 (And.intro hV5 hoa5))))
   clear hcli5 hstep5 hV5 hoa5 hown5 hst5 HFR hld
   cases β with
   |true=>
    go_wp2_with fail
    go_roundw
    case rel=>exact⟨k+1,mv5,by go_num,by omega,H5.out.1,H5.out.2.1,by
     have h:=H5.out.2.2.1
     rw[EN0.out,EC0.out] at h
     have e0:ΩR c.seen (L.take (k+1))=ΩR c.seen (L.take k):=by rw[HFN.out];simp
     rw[e0]
     exact h⟩
    case measure=>simp[intOf];omega
   |false=>
    have hld:=ΩX (Ωd H5.out.2.2.2.1) hl
    have hbs:=Ωg9 v hl w5
    have hl36:(vtC v).length =36:=Ω0 hl
    have hsz5:=H5.out.2.1.1.size
    have HSZ5:=Θ hsz5
    have HL36:=Θ hl36
    clear hsz5 hl36
    go_wp2_with (at_builtin;refine wpList_append_lies _ rfl _ _ 32 rfl w.heap.size 43 ie zz 36 ie.bytes Tryz.underlying32 HIE.out HZZ.out HSZ.out rfl HZC.out (by omega) out n0 C0 rfl (World.ownsRow.alloc H5.out.2.2.1 _) _ 1 1 (vtC v) rfl HL36.out (World.news_of_block (cs:=(vtC v).toArray) (t:=43) (fr:=(0,0)) (Blk.new w5 _ _)) (Ωc2 v) (by omega) (by rw[Ωg];omega) (by have:=HBY.out;exact Ωnz (Ωov (show n0+1≤2000 by omega) this) (by omega)) (by rw[Ωnw];have:=HSZ5.out;omega) _ rfl ?_;intro g8 cap8 w8 hown8 hgrow8 hat8 hlt8)
    have ho8:Only (fun q=>out.ownBlock=some q) w5 w8:=((Only.refl _ w5).alloc _).grown hgrow8 (fun q e=> .inl e)
    have hcli8:=H5.out.1.keep ho8 (fun q hf e=>H5.out.2.2.2.2 q e hf)
    have hst8:Ωl w w8 c {c with mv:=mv5,seen:=ΩA c.seen (L.take (k+1))}:=⟨H5.out.2.1.1.trans' ho8 (fun i hi e=>by have:=(ΩJ H5.out.2.2.1 e).1;omega),H5.out.2.1.2⟩
    have H8:=Θ (And.intro hcli8 (And.intro hst8 hown8))
    clear hcli8 hst8 hown8 ho8 hgrow8 hat8 hlt8 hld hbs
    go_wp2_with fail
    go_roundw
    case rel=>exact⟨k+1,mv5,by go_num,by omega,H8.out.1,H8.out.2.1,by
     have h:=H8.out.2.2
     have e0:ΩR c.seen (L.take (k+1))=ΩR c.seen (L.take k)++[v]:=by rw[HFN.out];simp
     rw[e0]
     unfold ΩH
     rw[HCELLS.out,HLEN.out]
     exact h⟩
    case measure=>simp[intOf];omega
  ·obtain rfl:k=L.length:=by omega
   have hf:=HS.out
   have e1:L.take L.length=L:=Ωok
   have HF:Hid (ΩH wr w.heap.size out (ΩR c.seen L).length (ΩR c.seen L)∧Ωv wr base {c with mv:=mv,seen:=ΩA c.seen L}∧Ωl w wr c {c with mv:=mv,seen:=ΩA c.seen L}):=Θ ⟨by have h:=hf.own;rw[e1] at h;exact h,by have h:=hf.cli;rw[e1] at h;exact h,by have h:=hf.step;rw[e1] at h;exact h⟩
   clear hf e1 HS hlt hk
   go_wp2_with fail
   go_ret
   exact⟨_,mv,rfl,HF.out.1,HF.out.2.1,HF.out.2.2⟩
end
section
open Go.RowKit Go.Shelf
open Go.Maps (Keyed)
theorem ΩdM(W:World)(base base' :Nat)(v u:Value)(M N:List Vt)(hN:Ω4 N)(hown:ΩH W base v M.length M)(hsrc:ΩH W base' u N.length N)(hsm:M.length+N.length≤1000000)(hb:base≤W.heap.size)(ty:TypeId):
  ∃A cap W',(Builtin.append_ #[32,32] ty #[v,u]).run Tryz.prog W= .ok (.slice A (M++N).length cap) W'∧ΩH W' base (.slice A (M++N).length cap) (M++N).length (M++N)∧W.grownBy W' v.ownBlock∧((Value.slice A (M++N).length cap).ownBlock =v.ownBlock∨(Value.slice A (M++N).length cap).ownBlock =some W.heap.size):=by
 obtain⟨ie,z,hie,hsz,hz,hzc,hby⟩:=ΩdY
 rcases hsrc.2 with⟨rfl,h0⟩|⟨g,cap,cur,rfl,hgb,hh,hc,hm,hs,ht⟩
 ·have hN0:N=[]:=ΩnZ h0
  subst hN0
  obtain⟨A,cap,rfl,h1,h2⟩:=Ωt hown
  rw[Ωox]
  refine⟨A,cap,W,run_append_nothing W _ _ ty tVt ie Tryz.underlying32 hie A M.length cap h1 _ (Src.ofNil W Tryz.underlying32 0),hown,⟨rfl,rfl,rfl,Ωnv _,fun _ _ _=>rfl⟩,.inl rfl⟩
 ·have hnews:∀j x,(N.flatMap vtC)[j]? =some x→W.cell? ((⟨g,0,none⟩:Addr).add j)=some x:=fun j x hj=>World.ownsRow.cells hsrc rfl j x hj
  have hl:(N.flatMap vtC).length =N.length*36:=ΩdX N hN
  obtain⟨v',W',hr,h2,h3,_,h5⟩:=run_append_own_at (P:=Tryz.prog) W base 32 ty 43 ie z 36 ie.bytes Tryz.underlying32 hie hz hsz rfl hzc (by omega) v M.length (M.flatMap vtC) hown ⟨g,0,none⟩ N.length cap (N.flatMap vtC) hl hnews (ΩkP N) (by rw[Ωg];omega) (Ωnz (Ωov hsm hby) (by omega)) hb
  obtain⟨A,cap',e,_,_⟩:=Ωt h2
  subst e
  rw[←ΩnA] at hr h2 h5
  rw[←Ωn2] at h2
  exact⟨A,cap',W',hr,h2,h3,h5⟩
theorem step_append_vts{ops:Array Oper}{o:Oper}{a:Act}{w:World}{K:Act→World→Prop}{Q:Exit→Act→World→Prop}{E:Prop}(hgd:o.guard=none)(s x:Operand)
  (ho:o.op= .call {callee:= .builtin .append,args:= #[s,x],argTypes:= #[32,32]}) (base base' :Nat) (v u:Value) (M N:List Vt) (hs:a.eval s=v) (hx:a.eval x=u) (hN:Ω4 N) (hown:ΩH w base v M.length M) (hsrc:ΩH w base' u N.length N) (hsm:M.length+N.length≤1000000) (hb:base≤w.heap.size)
  (h:∀A cap w',ΩH w' base (.slice A (M++N).length cap) (M++N).length (M++N)→w.grownBy w' v.ownBlock→((Value.slice A (M++N).length cap).ownBlock =v.ownBlock∨(Value.slice A (M++N).length cap).ownBlock =some w.heap.size)→K (a.put o.dst (.slice A (M++N).length cap)) w'):
  if Region.wanted o (yielded ops a.tmps)=true then Oper.wp Tryz.prog o a w K Q else E:=by
 have hw:Region.wanted o (yielded ops a.tmps)=true:=by simp[Region.wanted,hgd]
 rw[ΩnV hw]
 obtain⟨A,cap,w',hr,h2,h3,h4⟩:=ΩdM w base base' v u M N hN hown hsrc hsm hb o.type
 unfold Oper.wp execOp
 simp only[ho,resolve,invoke,builtin,Sem.run_bind,Sem.run_pure,Result.andThen_ok,List.map_toArray,ΩoF,List.map_nil,hs,hx,hr]
 exact h A cap w' h2 h3 h4
def Ωge(v:Value):Sem Value:=Instr.loadAt 50 v
theorem Ωbh(v:Value):Instr.loadAt 50 v=Ωge v:=rfl
theorem ΩcH{W:World}{g o:Nat}{pv:Value}(h:W.rangeAt g o [pv,.int .i64 0,.slice none 0 0,.slice none 0 0,.int .i64 0,.int .i64 0]):(Ωge (.pointer (some ⟨g,o,none⟩))).run Tryz.prog W= .ok (setV pv) W:=
 ΩoG W g o 50 [pv,.int .i64 0,.slice none 0 0,.slice none 0 0,.int .i64 0,.int .i64 0] _ h Tryz.underlying50 rfl (by kernel_rfl)
attribute [local go_sem ↓ high] Ωbh Ωaq ΩQ
noncomputable def Cli.took(c:Cli)(vv mv:Value)(L:List Vt):Cli:={c with vv:=vv,votes:=ΩA c.votes L,mv:=mv,seen:=ΩA c.votes L}
theorem Ωk5{w5 w8:World}{base:Nat}{c:Cli}{mv:Value}{M:List Vt}(h:Ωv w5 base {c with mv:=mv,seen:=M})(hg:w5.grownBy w8 c.vv.ownBlock):Blk w8 c.C tCli (cliC {c with mv:=mv,seen:=M}).toArray :=Blk.grown h.blk hg (fun e=>h.ne_vv e.symm)
theorem Ωmh{w:World}{c:Cli}{mv:Value}{M:List Vt}(h:Blk w c.C tCli (cliC {c with mv:=mv,seen:=M}).toArray)(hl:c.head.root.length=32):w.cell? ⟨c.C,42,none⟩=some c.vv:=Ωg1 (c:={c with mv:=mv,seen:=M}) h hl
theorem ce_made{w5 w8:World}{base:Nat}{c:Cli}{mv vv:Value}{L:List Vt}(h:Ωv w5 base {c with mv:=mv,seen:=ΩA c.votes L})(hown:ΩH w8 base vv (ΩA c.votes L).length (ΩA c.votes L))(hg:w5.grownBy w8 c.vv.ownBlock)(hblk:vv.ownBlock=c.vv.ownBlock∨vv.ownBlock=some w5.heap.size):
  Ωv (w8.setCell ⟨c.C,42,none⟩ vv) base (c.took vv mv L)∧Ωl w5 (w8.setCell ⟨c.C,42,none⟩ vv) {c with mv:=mv,seen:=ΩA c.votes L} (c.took vv mv L):=by
 have ho1:Only (fun k=>c.vv.ownBlock=some k) w5 w8:=(Only.refl _ w5).grown hg (fun k e=> .inl e)
 have ho2:Only (fun k=>k=c.C) w8 (w8.setCell ⟨c.C,42,none⟩ vv):=(Only.refl (fun k=>k=c.C) w8).setCell (p:=⟨c.C,42,none⟩) (.inl rfl) _
 have hb8:=Ωk5 h hg
 have hp8:ΩT w8 base c.pv c.P.length c.P:=Ωe h.pers ho1 (fun k hk e=>h.pv_vv hk e)
 have hs8:Ωhf w8 base mv (ΩA c.votes L):=h.seen.only ho1 (fun k hk e=>h.vv_mv e hk)
 refine⟨⟨cli_put_votes (c:={c with mv:=mv,seen:=ΩA c.votes L}) hb8 h.hok.root vv (ΩA c.votes L),h.lo,h.hok,Ωe hp8 ho2 (fun k hk e=>Ωi hp8 hb8 (by decide) (by rw[←e];exact hk)),Ωe hown ho2 (fun k hk e=>Ωi hown hb8 (by decide) (by rw[←e];exact hk)),h.sok,hs8.only ho2 (fun k hk e=>Ωfb hb8 (hs8.blk hk).2.2 e.symm),h.sok⟩,?_,?_⟩
 ·exact(ho1.mono (fun k _ e=> .inr (.inr (.inl e)))).trans' ho2 (fun k _ e=> .inl e)
 ·intro k hk
  rcases hk with hk|hk|hk|hk
  ·exact .inl (.inl hk)
  ·exact .inl (.inr (.inl hk))
  ·rcases hblk with e|e
   ·exact .inl (.inr (.inr (.inl (by rw[←e];exact hk))))
   ·right
    have hk' :vv.ownBlock=some k:=hk
    rw[e] at hk'
    cases hk'
    exact Ωnv _
  ·exact .inl (.inr (.inr (.inr hk)))
theorem Ωhb{L:List Vt}(hok:Ω4 L){C:Hd→Bool}{o:Option Hd}(h:Ωai (fun h=>h∈L.map (·.head)) C o):(hdOr o).Ok :=by
 cases o with
 |none=>exact⟨⟨by show(-9223372036854775808:Int)≤0;omega,by show(0:Int)≤9223372036854775807;omega⟩,ΩkK⟩
 |some b=>
  obtain⟨v,hv,rfl⟩:=Ωos.1 h.1
  exact(hok v hv).head
theorem ΩeT(w0:World)(ht:Tab w0)(c:Cli)(base:Nat)(hb0:w0.heap.size≤base)(hcs:c.seen=c.votes)(hP:ΩS c.P)(hlen:c.P.length≤1000)(L:List Vt)(hok:Ω4 L)(hL:L.length≤1000)(hn:c.votes.length≤50000)(sv:Value)(w:World)(how:Only Ωa w0 w)(h:Ωv w base c)(hb:base≤w.heap.size)(hs:VtSl w sv L)(ha:ΩdT c sv):
  Calls Tryz.prog 46 #[.pointer (some ⟨c.C,0,none⟩),sv] w fun e w' =>∃o,Ωai (fun h=>h∈L.map (·.head)) (fun h=>Ωba c.P h L) o∧e= .returned (.tuple #[.agg (hdC (hdOr o)).toArray,.bool o.isSome])∧∃vv mv,Ωv w' base (c.took vv mv L)∧Ωl w w' c (c.took vv mv L):=by
 have hR0:HdAt (w.alloc (.cells hd0C 37)) w.heap.size hd0:=Blk.new w _ _
 have h1:Ωv (w.alloc (.cells hd0C 37)) base c:=h.nn ((Only.refl _ _).alloc _)
 obtain⟨R,eR⟩:∃R,R=w.heap.size:=⟨_,rfl⟩
 rw[←eR] at hR0
 have hfil:∀W,Only Ωa w W→Calls Tryz.prog 76 #[sv,.func (.func 77) #[.pointer (some ⟨c.C,0,none⟩)] #[]] W fun e w' =>∃rv mv',e= .returned rv∧ΩH w' W.heap.size rv (ΩR c.votes L).length (ΩR c.votes L)∧Ωv w' base {c with mv:=mv',seen:=ΩA c.votes L}∧Ωl W w' c {c with mv:=mv',seen:=ΩA c.votes L}:=fun W ho=>by
  have h2:=filter_any c base L hok hL sv W (h.nn ho) (Ωnz hb ho.size) (hs.only ho) ha (by rw[hcs];omega)
  rw[hcs] at h2
  exact h2
 have hbest:∀W c',Ωl w W c c'→c'.P=c.P→Ωv W base c'→Calls Tryz.prog 78 #[setV c'.pv,sv] W fun e w' =>∃o,Ωai (fun h=>h∈L.map (·.head)) (fun h=>Ωba c.P h L) o∧e= .returned (.tuple #[.agg (hdC (hdOr o)).toArray,.bool o.isSome])∧Only Ωa W w' :=fun W c' hst hp hc=>by
  have hpo:=hc.pers
  rw[hp] at hpo
  exact qbest_any c.P hP hlen c'.pv L hok (by omega) sv W (ΩT.sl hpo) (hs.step hst.1 (fun a n cap e=>ha a n cap e)) (ht.none (hst.only h how hb0))
 have hmf:∀(fn:Fn) (first cap:Array Value) (w:World),(Instr.makeFunc fn first cap).run Tryz.prog w= .ok (.func fn first cap) w:=fun _ _ _ _=>rfl
 have hnw:=Ωal
 have HF:=Θ hfil
 have HB:=Θ hbest
 have H1:=Θ (And.intro h1 hR0)
 have ER:=Θ eR
 have HOK:=Θ hok
 have HH:=Θ h
 have HRT:=Θ h.hok.root
 have hwR:w.heap.size≤R:=by omega
 have hbR:base≤R:=by omega
 clear hR0 h1 eR hfil hbest hok h hs ha ht how
 go_enter Tryz.func46,Tryz.ntmps46
 go_upto_region 1 with(fail)
 rw[←ER.out]
 refine Ωf (fun Z=>Ωv Z base c∧HdAt Z R hd0∧Only Ωa w Z) ⟨H1.out.1,H1.out.2,(Only.refl _ _).alloc _⟩ ?_
 clear H1 hnw
 rintro Z ⟨hZ,hR,hO⟩
 have c42:Z.cell? ⟨c.C,42,none⟩=some c.vv:=Ωg1 hZ.blk hZ.hok.root
 have HZ:=Θ (And.intro hZ (And.intro hR hO))
 clear hZ hR hO
 go_region_law (first
  |(refine step_append_vts (by rfl) _ _ (by rfl) base Z.drew.heap.size c.vv rv c.votes (ΩR c.votes L) (by rfl) (by rfl) (fun x hx=>HOK.out x (Ωfg L _ x hx)) H5.out.2.1 H5.out.1 (by have:=ΩbX L c.votes;omega) (by have h7:=H5.out.2.2.1.size;have h8:=HZ.out.2.2.drew.size;omega) ?_;intro A8 cap8 w8 hown8 hgrow8 hblk8;have hb8:=Ωk5 H5.out.2.2.2.1 hgrow8;have e42:=Ωmh hb8 HRT.out;have f42:=hb8.frozen 42;have H8:=Θ (And.intro hown8 (And.intro hgrow8 hblk8));clear hb8 hown8 hgrow8 hblk8)
  |(go_simp;go_at_call 76;refine(HF.out Z.drew HZ.out.2.2.drew).mono ?_;rintro e5 w5 ⟨rv,mv5,rfl,hown5,hcli5,hstep5⟩;have d42:=Ωmh hcli5.blk HRT.out;have H5:=Θ (And.intro hown5 (And.intro hcli5.votes (And.intro hstep5.1 (And.intro hcli5 hstep5))));clear hown5 hcli5 hstep5))
 all_goals
  have hst8:=(Ωl.nn (c:=c) (HZ.out.2.2.drew)).trans H5.out.2.2.2.2
  have hmade:=ce_made (L:=L) H5.out.2.2.2.1 H8.out.1 H8.out.2.1 H8.out.2.2
  have hst9:=hst8.trans hmade.2
  have hr9:HdAt _ R hd0:=Blk.only HZ.out.2.1 (((Ωl.nn (c:=c) ((Only.refl Ωa Z).drew)).trans H5.out.2.2.2.2).trans hmade.2).1 (fun hf=>by have:=(HH.out.foot_in hf).2;omega)
  have h9:=And.intro hmade.1 (And.intro hst9 hr9)
  rw[ΩnA] at h9
  obtain⟨N9,eN9⟩:∃N9,N9=c.votes.length+(ΩR c.votes L).length :=⟨_,rfl⟩
  rw[←eN9] at h9⊢
  obtain⟨c9,ec9⟩:∃c9:Cli,c9=c.took (.slice A8 N9 cap8) mv5 L:=⟨_,rfl⟩
  rw[←ec9] at h9
  have H9:=Θ h9
  have EC9:=Θ ec9
  clear hst8 hmade hst9 hr9 h9 ec9 eN9 H5 H8 c42 d42 e42 f42 HZ
  go_upto_region 2 with(fail)
  refine Ωf (fun W=>Ωv W base c9∧Ωl w W c c9∧HdAt W R hd0) H9.out ?_
  clear H9
  rintro Y ⟨hY1,hY2,hY3⟩
  have hl1:=ΩcH (pv:=c9.pv) (Ωg2 hY1.blk)
  have hbs:=HB.out Y c9 hY2 (by rw[EC9.out];rfl) hY1
  have hC9:c9.C=c.C:=by rw[EC9.out];rfl
  rw[hC9] at hl1
  have HBS:=Θ hbs
  have HY:=Θ (And.intro hY1 (And.intro hY2 hY3))
  clear hY1 hY2 hY3 hbs hC9
  go_wp2_with fail
  refine HBS.out.mono ?_
  rintro e6 w6 ⟨o,hbo,rfl,ho6⟩
  have hho:(hdOr o).Ok :=Ωhb HOK.out hbo
  have hR6:HdAt w6 R hd0:=Blk.only HY.out.2.2 ho6 (fun e=>e)
  have hst:=Ωax hR6 rfl hho.root
  have hR7:HdAt (w6.setCells R 0 (hdC (hdOr o))) R (hdOr o):=Ωj hR6 (by rw[Ωo hho.root];rfl)
  have ho7:Only (fun k=>k=R) w6 (w6.setCells R 0 (hdC (hdOr o))):=Ωb (S:=fun k=>k=R) (Only.refl _ _) R 0 (.inl rfl) _
  have hnf:¬c9.foot R:=(HY.out.1.nn ho6).off hR6 (by decide) (by decide) (by decide)
  have hc7:=(HY.out.1.nn ho6).keep ho7 (fun k hk e=>hnf (e▸hk))
  have hst7:=(HY.out.2.1.trans (Ωl.nn ho6)).put hwR 0 (hdC (hdOr o))
  have HBO:=Θ (And.intro hbo (And.intro hR7 (And.intro hho.root (And.intro hc7 hst7))))
  have HEC:=Θ EC9.out
  clear hbo hR7 hho hc7 hst7 hnf ho7 hR6 ho6 HBS HY hl1
  go_wp2_with fail
  refine bodyPost_ret (v:= .tuple #[.agg (hdC (hdOr o)).toArray,.bool o.isSome]) (ΩjQ rfl rfl rfl HBO.out.2.1 HBO.out.2.2.1) rfl ⟨o,HBO.out.1,rfl,.slice A8 N9 cap8,mv5,?_,?_⟩
  ·rw[←HEC.out];exact HBO.out.2.2.2.1
  ·rw[←HEC.out];exact HBO.out.2.2.2.2
end
end Go.Proofs.YtgalfohobgjelaaGreatDoor
