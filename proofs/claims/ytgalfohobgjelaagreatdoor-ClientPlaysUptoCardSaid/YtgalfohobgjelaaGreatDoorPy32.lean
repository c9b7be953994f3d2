/- What is proved here: a part of the proof that 'probitylaw31.ClientPlays' answers true. Conditions: each theorem's own. -/
import Derived.Test.YtgalfohobgjelaaGreatDoorPy31
set_option maxRecDepth 100000
set_option maxHeartbeats 8000000
namespace Go.Proofs.YtgalfohobgjelaaGreatDoor
section
open Go.RowKit Go.Shelf
theorem bid_info:∃ie z,Tryz.prog.info? tBid=some ie∧ie.size=5∧ie.zero=some z∧z.cells.size=5∧ie.bytes=88:=by
 have h1:(Tryz.prog.info? tBid).map (·.size)=some 5:=by kernel_rfl
 have h2:((Tryz.prog.info? tBid).bind (·.zero)).isSome =true:=by kernel_rfl
 have h3:(Tryz.prog.info? tBid).map (·.bytes)=some 88:=by kernel_rfl
 have h4:((Tryz.prog.info? tBid).bind (·.zero)).map (fun z=>z.cells.size)=some 5:=by kernel_rfl
 cases hie:Tryz.prog.info? tBid with
 |none=>simp[hie] at h1
 |some ie=>
  simp only[hie,Ωoe,Option.some.injEq,Option.bind_some] at h1 h2 h3 h4
  obtain⟨z,hz⟩:=Option.isSome_iff_exists.1 h2
  simp only[hz,Ωoe,Option.some.injEq] at h4
  exact⟨ie,z,rfl,h1,hz,h4,h3⟩
theorem run_append_bid(W:World)(base:Nat)(v:Value)(n:Nat)(xs:List Value)(N:Nat)(cs:List Value)(hcl:cs.length=5)(h1:∀u∈cs,u.oneCell' =true)(hown:W.ownsRow base tBid 5 v n xs)(hsrc:Blk W N tBid cs.toArray)(hn:n≤1000)(hb:base≤W.heap.size)(ty:TypeId):
  ∃A cap W',(aph #[122,122] ty #[v,.slice (some ⟨N,0,none⟩) 1 1]).run Tryz.prog W= .ok (.slice A (n+1) cap) W'∧W'.ownsRow base tBid 5 (.slice A (n+1) cap) (n+1) (xs++cs)∧W.grownBy W' v.ownBlock∧((Value.slice A (n+1) cap).ownBlock =v.ownBlock∨(Value.slice A (n+1) cap).ownBlock =some W.heap.size):=by
 obtain⟨ie,z,hie,hsz,hz,hzc,hby⟩:=bid_info
 have hnews:∀j x,cs[j]? =some x→W.cell? ((⟨N,0,none⟩:Addr).add j)=some x:=fun j x hj=>by
  rw[ΩoK,ΩnR,hsrc.cell]
  simpa using hj
 obtain⟨v',W',hr,h2,h3,_,h5⟩:=run_append_own_at (P:=Tryz.prog) W base 122 ty tBid ie z 5 88 Tryz.underlying122 hie hz hsz hby hzc (by omega) v n xs hown ⟨N,0,none⟩ 1 1 cs (by rw[hcl]) hnews h1 (by rw[Ωg];omega) (by omega) hb
 obtain⟨A,cap',e,_,_⟩:=Ωt h2
 subst e
 exact⟨A,cap',W',hr,h2,h3,h5⟩
attribute [local go_sem ↓ high] Ωhc Ωlf
def Md.bidden(c:Md)(bv:Value)(cs:List Value):Md:={c with bv:=bv,bn:=c.bn+1,bcs:=cs,rc:=false}
def bd5(qt:ByteArray)(G:Nat):List Value:=[.int .i64 60,.string qt,.slice (some ⟨G,0,none⟩) 1 1,.string ⟨#[]⟩,.slice none 0 0]
theorem ΩmU(q:Int)(G:Nat):Ωae (bidW q) (some ⟨G,0,none⟩) none 1 0=(bd5 (bidW q).qt G).toArray :=rfl
theorem bd5_ld{W:World}{B:Nat}{q:ByteArray}{G:Nat}(h:Blk W B tBid (bd5 q G).toArray):(bdLd (.pointer (some ⟨B,0,none⟩))).run Tryz.prog W= .ok (.agg (bd5 q G).toArray) W:=
 ΩoG W B 0 tBid (bd5 q G) _ (Ωd h) Tryz.underlying75 rfl (by kernel_rfl)
theorem msent_any(c:Md)(base:Nat){sent:Bool}{t:ByteArray}(q:Int)(G:Nat)(w:World)(h:MdAt w base c sent t)(hb:base≤w.heap.size)(hG:Blk w G 3 #[.int .i64 4])(hbn:c.bn≤1000):
  Calls Tryz.prog 55 #[.pointer (some ⟨c.M,0,none⟩),.agg (bd5 (bidW q).qt G).toArray] w fun e w' =>e= .returned (.tuple #[])∧∃bv cs,MdAt w' base (c.bidden bv cs) true (encT (bidW q))∧ΩU w w' c (c.bidden bv cs):=by
 obtain⟨B,eB⟩:∃B,B=w.heap.size:=⟨_,rfl⟩
 obtain⟨qt,eqt⟩:∃qt,qt=(bidW q).qt :=⟨_,rfl⟩
 rw[←eqt]
 have h5:bd5 qt G=[.int .i64 60,.string qt,.slice (some ⟨G,0,none⟩) 1 1,.string ⟨#[]⟩,.slice none 0 0]:=rfl
 obtain⟨Z,eZ⟩:∃Z,Z=w.alloc (.cells (bd5 qt G).toArray tBid):=⟨_,rfl⟩
 have hoZ:Only Ωa w Z:=by rw[eZ];exact(Only.refl _ _).alloc _
 have hBZ:Blk Z B tBid (bd5 qt G).toArray :=by rw[eZ,eB];exact Blk.new w _ _
 have hmZ:=h.nn hoZ
 obtain⟨bA,bc,ebv,_,_⟩:=Ωt hmZ.bids
 have c7:Z.cell? ⟨c.M,7,none⟩=some (.slice bA c.bn bc):=by rw[←ebv];exact Ωih hmZ.blk
 have hld:=bd5_ld hBZ.drew
 have hoX:Only Ωa Z (Z.alloc (.cells (bd5 qt G).toArray tBid)).drew :=((Only.refl _ _).alloc _).drew
 have hmX:=hmZ.nn hoX
 have c7x:((Z.alloc (.cells (bd5 qt G).toArray tBid)).drew).cell? ⟨c.M,7,none⟩=some (.slice bA c.bn bc):=hoX.cell_some c7 (fun e=>e)
 obtain⟨rA,rc,W2,hr2,hp2,hg2,hat2⟩:=run_append_bid (Z.alloc (.cells (bd5 qt G).toArray tBid)).drew base c.bv c.bn c.bcs Z.heap.size (bd5 qt G) rfl (by rw[h5];simp[Value.oneCell']) hmX.bids ((Blk.new Z _ _).drew) hbn (Ωnz hb (Ωnz hoZ.size hoX.size)) 122
 rw[ebv] at hr2
 have hb2:Blk W2 c.M tMd (mdC c).toArray :=Blk.grown hmX.blk hg2 (fun e=>hmX.ne_bv e.symm)
 have e7:=Ωih hb2
 have f7:=hb2.frozen 7
 have ho1:Only (fun k=>c.bv.ownBlock=some k) (Z.alloc (.cells (bd5 qt G).toArray tBid)).drew W2:=(Only.refl _ _).grown hg2 (fun k e=> .inl e)
 obtain⟨W3,eW3⟩:∃W3,W3=W2.setCell ⟨c.M,7,none⟩ (.slice rA (c.bn+1) rc):=⟨_,rfl⟩
 have hb3:Blk W3 c.M tMd (mdC {c with bv:= .slice rA (c.bn+1) rc,bn:=c.bn+1,bcs:=c.bcs++bd5 qt G}).toArray :=by rw[eW3];exact md_put_bids hb2 _ _ _
 have s42:=Ωm4 hb3 h.hok.root
 have f42:=hb3.frozen 42
 have hb4:=Ωjh hb3 h.hok.root false
 have ho2:Only (fun k=>k=c.M) W2 (W3.setCell ⟨c.M,42,none⟩ (.bool false)):=by rw[eW3];exact((Only.refl (fun k=>k=c.M) W2).setCell (p:=⟨c.M,7,none⟩) (.inl rfl) _).setCell (p:=⟨c.M,42,none⟩) (.inl rfl) _
 have hp8:ΩT W2 base c.pv c.P.length c.P:=Ωe hmX.pers ho1 (fun k hk e=>hmX.pv_bv hk e)
 have hv8:ΩH W2 base c.vv c.votes.length c.votes:=Ωe hmX.votes ho1 (fun k hk e=>hmX.bv_vv e hk)
 have hG2:Blk W2 G 3 #[.int .i64 4]:=(hG.only (hoZ.trans hoX) (fun e=>e)).only ho1 (fun e=>Ωi hmX.bids ((hG.only (hoZ.trans hoX) (fun e=>e))) (by decide) e)
 have hxs:c.bcs.length=c.bn*5:=h.bids.1
 have hfin:MdAt (W3.setCell ⟨c.M,42,none⟩ (.bool false)) base (c.bidden (.slice rA (c.bn+1) rc) (c.bcs++bd5 qt G)) true (encT (bidW q)):=
  ⟨hb4,h.lo,h.hok,Ωe hp8 ho2 (fun k hk e=>Ωi hp8 hb2 (by decide) (by rw[←e];exact hk)),Ωe hp2 ho2 (fun k hk e=>Ωi hp2 hb2 (by decide) (by rw[←e];exact hk)),.inr ⟨c.bn,c.bcs,q,G,rfl,hxs,by rw[eqt];rfl,rfl,rfl,hG2.only ho2 (fun e=>Blk.ne_ hb2 hG2 (by decide) e.symm)⟩,Ωe hv8 ho2 (fun k hk e=>Ωi hv8 hb2 (by decide) (by rw[←e];exact hk)),h.ok⟩
 have hst:ΩU w (W3.setCell ⟨c.M,42,none⟩ (.bool false)) c (c.bidden (.slice rA (c.bn+1) rc) (c.bcs++bd5 qt G)):=by
  refine⟨((hoZ.trans hoX).mono (fun _ _ e=>e.elim)).trans' (((ho1.mono (fun k _ e=> .inr (.inr (.inl e)))).trans' (S:=c.foot) ho2 (fun k _ e=> .inl e))) (fun k _ e=>e),fun k hk=> ?_⟩
  rcases hk with hk|hk|hk|hk
  ·exact .inl (.inl hk)
  ·exact .inl (.inr (.inl hk))
  ·rcases hat2 with e|e
   ·exact .inl (.inr (.inr (.inl (by rw[←hk];exact e.symm))))
   ·right
    have hk' :(Value.slice rA (c.bn+1) rc).ownBlock =some k:=hk
    rw[e] at hk'
    cases hk'
    exact Ωnz hoZ.size hoX.size
  ·exact .inl (.inr (.inr (.inr hk)))
 rw[ebv] at e7
 rw[eW3] at s42 f42 hfin hst
 have HF:=Θ (And.intro hfin hst)
 have EZ:=Θ eZ
 have EB:=Θ eB
 rw[h5] at EZ hr2 hld c7x⊢
 clear eqt
 clear hfin hst hb2 hb3 hb4 ho1 ho2 hp8 hv8 hG2 hp2 hg2 hat2 hmX hoX hoZ hBZ hmZ h hG hxs eZ eB eW3 ebv
 go_enter Tryz.func55,Tryz.ntmps55
 go_upto_region 1 with(fail)
 rw[←EB.out,←EZ.out]
 go_region
 go_wp2_with fail
 go_end0
 exact⟨rfl,_,_,HF.out⟩
def mdBd(parts:Array (Nat×Value)):Sem Value:=Instr.build tMd parts
theorem mdBd_eq(parts:Array (Nat×Value)):Instr.build tMd parts=mdBd parts:=rfl
theorem mdBd_built(id:Int)(pv:Value):∀(l:List UInt8),l.length=32→Tryz.prog.built tMd [(0,.int .i64 id),(1,setV pv),(3,.agg (hdC ⟨0,l⟩).toArray)]=some (mdC ⟨0,id,pv,[],.slice none 0 0,0,[],⟨0,l⟩,.slice none 0 0,[],false⟩).toArray
 |[x0,x1,x2,x3,x4,x5,x6,x7,x8,x9,x10,x11,x12,x13,x14,x15,x16,x17,x18,x19,x20,x21,x22,x23,x24,x25,x26,x27,x28,x29,x30,x31],_=>by kernel_rfl
theorem mdBd_run(id:Int)(pv:Value)(l:List UInt8)(hl:l.length=32)(W:World):(mdBd #[(0,.int .i64 id),(1,setV pv),(3,.agg (hdC ⟨0,l⟩).toArray)]).run Tryz.prog W= .ok (.agg (mdC ⟨0,id,pv,[],.slice none 0 0,0,[],⟨0,l⟩,.slice none 0 0,[],false⟩).toArray) W:=
 run_build (P:=Tryz.prog) W tMd _ _ (mdBd_built id pv l hl)
section
attribute [local go_sem ↓ high] Ωbh ΩgK mdBd_eq
def md0(M:Nat)(id:Int)(pv:Value)(P:List Pers)(l:Hs):Md:=⟨M,id,pv,P,.slice none 0 0,0,[],⟨0,l⟩,.slice none 0 0,[],false⟩
theorem mnew_any(id:Int)(P:List Pers)(pv:Value)(base:Nat)(w:World)(hb:base≤w.heap.size)(hp:ΩT w base pv P.length P):
  Calls Tryz.prog 26 #[.int .i64 id,setV pv] w fun e w' =>∃M,e= .returned (.pointer (some ⟨M,0,none⟩))∧w.heap.size≤M∧MdAt w' base (md0 M id pv P (ΩN [])) false ⟨#[]⟩∧Only Ωa w w' :=by
 obtain⟨l,el⟩:∃l,l=ΩN []:=⟨_,rfl⟩
 have hll:l.length=32:=by rw[el];exact ΩF _
 have hroot:∀W,Calls Tryz.prog 42 #[.slice none 0 0] W fun e w' =>e= .returned (hv l)∧Only Ωa W w' :=fun W=>by
  rw[el]
  exact Ωbi 0 [] (Ωnv _) (Ωoh _) (fun x hx=>by cases hx) (.slice none 0 0) W ⟨none,0,rfl,Ωnv _,by omega,fun i x hx=>by simp at hx⟩
 rw[←el]
 obtain⟨B,eB⟩:∃B,B=w.heap.size:=⟨_,rfl⟩
 have h0:Blk (w.alloc (.cells #[pv,.int .i64 0,.slice none 0 0,.slice none 0 0,.int .i64 0,.int .i64 0] tSu)) B tSu #[pv,.int .i64 0,.slice none 0 0,.slice none 0 0,.int .i64 0,.int .i64 0]∧Only Ωa w (w.alloc (.cells #[pv,.int .i64 0,.slice none 0 0,.slice none 0 0,.int .i64 0,.int .i64 0] tSu)):=⟨by rw[eB];exact Blk.new w _ _,(Only.refl _ _).alloc _⟩
 have H0:=Θ h0
 have EB:=Θ eB
 have HP:=Θ hp
 have HR:=Θ hroot
 have hbd:=fun W=>Ωjl l hll W
 have hmd:=fun W=>mdBd_run id pv l hll W
 have HLL:=Θ hll
 obtain⟨hc,ehc⟩:∃hc:Array Value,hc=(hdC ⟨0,l⟩).toArray :=⟨_,rfl⟩
 obtain⟨mc,emc⟩:∃mc:Array Value,mc=(mdC (md0 0 id pv [] l)).toArray :=⟨_,rfl⟩
 have hmd2:∀W,(mdBd #[(0,.int .i64 id),(1,setV pv),(3,.agg hc)]).run Tryz.prog W= .ok (.agg mc) W:=fun W=>by rw[ehc,emc];exact hmd W
 rw[←ehc] at hbd
 have EMC:=Θ emc
 clear h0 eB hp hroot hmd ehc emc hll el
 unfold setV at hmd2⊢
 go_enter Tryz.func26,Tryz.ntmps26
 go_upto_region 1 with(fail)
 rw[←EB.out]
 refine Ωf (fun Z=>Blk Z B tSu #[pv,.int .i64 0,.slice none 0 0,.slice none 0 0,.int .i64 0,.int .i64 0]∧Only Ωa w Z) H0.out ?_
 clear H0 EB
 rintro Z ⟨hB,hO⟩
 have HZ:=Θ (And.intro hB hO)
 have hS0:Only Ωa Z Z.drew:=(Only.refl _ _).drew
 have hS1:Only Ωa Z Z:=Only.refl _ _
 have hsl:∀W,Only Ωa Z W→(Ωge (.pointer (some ⟨B,0,none⟩))).run Tryz.prog W= .ok (.agg #[pv,.int .i64 0,.slice none 0 0,.slice none 0 0,.int .i64 0,.int .i64 0]) W:=fun W h=>ΩcH (Ωd (cs:=[pv,.int .i64 0,.slice none 0 0,.slice none 0 0,.int .i64 0,.int .i64 0]) (HZ.out.1.only h (fun e=>e)))
 clear hB hO
 go_region_held3 (fun W=>Only Ωa Z W) (first|(with_reducible assumption)|(with_reducible exact Only.alloc (by with_reducible assumption) _))
  (first
   |(go_at_call 42;(with_reducible refine(HR.out _).mono ?_);rintro e3 w3 ⟨rfl,ho3⟩;have hS3:=Only.trans (by with_reducible assumption) ho3;clear ho3))
 all_goals
  have hoA:Only Ωa Z (w3.alloc (.cells mc tMd)):=hS3.alloc _
  have hbA:Blk (w3.alloc (.cells mc tMd)) w3.heap.size tMd (mdC (md0 w3.heap.size id pv P l)).toArray :=by
   rw[EMC.out]
   exact Blk.new w3 _ _
  have hwz:=HZ.out.2
  have hfin:MdAt (w3.alloc (.cells mc tMd)) base (md0 w3.heap.size id pv P l) false ⟨#[]⟩:=⟨hbA,Ωnz hb (Ωnz hwz.size hS3.size),⟨⟨by show(-9223372036854775808:Int)≤0;omega,by show(0:Int)≤9223372036854775807;omega⟩,HLL.out⟩,Ωe HP.out (hwz.trans hoA) (fun _ _ e=>e),⟨rfl,.inl ⟨rfl,rfl⟩⟩,.inl ⟨rfl,rfl⟩,⟨rfl,.inl ⟨rfl,rfl⟩⟩,fun v hv=>by cases hv⟩
  have HF:=Θ (And.intro (Ωnz hwz.size hS3.size) (And.intro hfin (hwz.trans hoA)))
  clear hoA hbA hwz hfin hS3 hS0 hS1 hsl hbd hmd2
  go_wp2_with fail
  go_ret
  exact⟨_,rfl,HF.out⟩
end
end
section
open Go.RowKit Go.Shelf
theorem roots_differ:(ΩN [[97],[98],[99]]==ΩN [[97],[98],[120]])=false:=by decide+kernel
theorem Ωlz{a b:Hd}{i j:Nat}(h:vAt a i=vAt b j):i=j∧a=b:=by
 have h1:(vAt a i).who =(vAt b j).who :=by rw[h]
 have h2:(vAt a i).head =(vAt b j).head :=by rw[h]
 have h3:(i:Int)=(j:Int):=h1
 exact⟨by omega,h2⟩
theorem eqVt_id(v:Vt):eqVt v v=true:=Ωcy.2 rfl
theorem ΩcS(a b:Hd){i j:Nat}(h:i≠j):eqVt (vAt a i) (vAt b j)=false:=ΩhL.2 (fun e=>h (Ωlz e).1)
theorem Ωj1{a b:Hd}(h:a≠b)(i j:Nat):eqVt (vAt a i) (vAt b j)=false:=ΩhL.2 (fun e=>h (Ωlz e).2)
section
variable {a b x:Hd} (hab:a≠b) (hax:a≠x) (hbx:b≠x)
theorem take_one(a:Hd):ΩA [] [vAt a 1,vAt a 2,vAt a 3]=[vAt a 1,vAt a 2,vAt a 3]:=by
 rw[ΩaW]
 simp[ΩaM,hasB,ΩcS a a (show(2:Nat)≠1 by decide),ΩcS a a (show(3:Nat)≠1 by decide),ΩcS a a (show(3:Nat)≠2 by decide)]
include hab in
theorem take_two:ΩA [vAt a 1,vAt a 2,vAt a 3] [vAt b 1,vAt b 2,vAt b 3]=[vAt a 1,vAt a 2,vAt a 3,vAt b 1,vAt b 2,vAt b 3]:=by
 rw[ΩaW]
 simp[ΩaM,hasB,Ωj1 (Ne.symm hab),ΩcS b b (show(2:Nat)≠1 by decide),ΩcS b b (show(3:Nat)≠1 by decide),ΩcS b b (show(3:Nat)≠2 by decide)]
theorem take_again:ΩA [vAt a 1,vAt a 2,vAt a 3,vAt b 1,vAt b 2,vAt b 3] [vAt a 1,vAt a 2,vAt a 3]=[vAt a 1,vAt a 2,vAt a 3,vAt b 1,vAt b 2,vAt b 3]:=by
 rw[ΩaW]
 simp[ΩaM,hasB,eqVt_id]
include hax hbx in
theorem take_three:ΩA [vAt a 1,vAt a 2,vAt a 3,vAt b 1,vAt b 2,vAt b 3] [vAt x 2,vAt x 3,vAt x 4]=[vAt a 1,vAt a 2,vAt a 3,vAt b 1,vAt b 2,vAt b 3,vAt x 2,vAt x 3,vAt x 4]:=by
 rw[ΩaW]
 simp[ΩaM,hasB,Ωj1 (Ne.symm hax),Ωj1 (Ne.symm hbx),ΩcS x x (show(3:Nat)≠2 by decide),ΩcS x x (show(4:Nat)≠2 by decide),ΩcS x x (show(4:Nat)≠3 by decide)]
end
theorem offAt_id(k:Nat):(Ωhj k).id =(k:Int):=rfl
theorem Ωkh(h:Hd)(k:Nat):(vAt h k).head =h:=rfl
section
variable {a b x:Hd} (hab:a.size≠b.size) (hax:a.size≠x.size) (hbx:b.size=x.size) (hne:b≠x)
include hab in
theorem blames_none:blL (setW wd3) [vAt a 1,vAt a 2,vAt a 3,vAt b 1,vAt b 2,vAt b 3]=[]:=by
 unfold blL ΩhP
 rw[ΩdB]
 simp[Ωag,ΩjC,ΩiA,ΩcR,Ωfi,Ωkh,Ωdt hab]
include hab hax hbx hne in
theorem blames_two:blL (setW wd3) [vAt a 1,vAt a 2,vAt a 3,vAt b 1,vAt b 2,vAt b 3,vAt x 2,vAt x 3,vAt x 4]=[⟨2,vAt b 2,vAt x 2⟩,⟨3,vAt b 3,vAt x 3⟩]:=by
 unfold blL ΩhP
 rw[ΩdB]
 simp[Ωag,ΩjC,ΩiA,ΩcR,Ωfi,Ωkh,Ωdt hab,Ωdt hax,ΩjF hbx hne,offAt_id]
end
end
section
open Go.RowKit Go.Shelf
attribute [local go_sem ↓ high] Ωej ΩG Ωaq ΩQ
def sAb:List ByteArray:=[⟨#[97]⟩,⟨#[98]⟩]
def sAbc:List ByteArray:=[⟨#[97]⟩,⟨#[98]⟩,⟨#[99]⟩]
def sAbx:List ByteArray:=[⟨#[97]⟩,⟨#[98]⟩,⟨#[120]⟩]
theorem Ωht:Ωb7 sAbc:=fun x hx=>by
 simp only[sAbc,Ωn3,Ωol,or_false] at hx
 rcases hx with rfl|rfl|rfl<;>decide
theorem sAbx_short:Ωb7 sAbx:=fun x hx=>by
 simp only[sAbx,Ωn3,Ωol,or_false] at hx
 rcases hx with rfl|rfl|rfl<;>decide
theorem sAb_short:Ωb7 sAb:=fun x hx=>by
 simp only[sAb,Ωn3,Ωol,or_false] at hx
 rcases hx with rfl|rfl<;>decide
theorem Ωmj{W:World}{G:Nat}{cs:Array Value}(L:List ByteArray)(h:Blk W G 9 cs)(cap:Nat)(hc:L.length≤cap)(hm:cap≤1000)(e:∀(i:Nat) (p:ByteArray),L[i]? =some p→cs[i]? =some (Value.string p)):StSl W (.slice (some ⟨G,0,none⟩) L.length cap) L:=
 ⟨_,cap,rfl,hc,by omega,fun i p hp=>⟨G,0,rfl,by
  rw[ΩnR,h.cell];exact e i p hp⟩⟩
structure SnP(w:World)(base C top B G:Nat)(s:Vw)(W:World):Prop where
 has:Has w base C top s W
 wd:Blk W B tWd (wdC wd3 none 0)
 l:Blk W G 9 #[.string ⟨#[97]⟩,.string ⟨#[98]⟩,.string ⟨#[99]⟩]
theorem SnP.keep{w:World}{base C top B G:Nat}{s:Vw}{W W' :World}(h:SnP w base C top B G s W)(ho:Only Ωa W W'):SnP w base C top B G s W' :=
 ⟨h.has.keep ho,h.wd.only ho (fun e=>e),h.l.only ho (fun e=>e)⟩
theorem SnP.two{w:World}{base C top B G:Nat}{s:Vw}{W:World}(h:SnP w base C top B G s W):StSl W (.slice (some ⟨G,0,none⟩) 2 3) sAb:=
 Ωmj sAb h.l 3 (by decide) (by omega) (fun i p hp=>by
  match i,hp with
  |0,rfl|1,rfl=>rfl)
theorem SnP.three{w:World}{base C top B G:Nat}{s:Vw}{W:World}(h:SnP w base C top B G s W):StSl W (.slice (some ⟨G,0,none⟩) 3 3) sAbc:=
 Ωmj sAbc h.l 3 (by decide) (by omega) (fun i p hp=>by
  match i,hp with
  |0,rfl|1,rfl|2,rfl=>rfl)
theorem new_three(W:World):StSl (W.alloc (.cells #[.string ⟨#[97]⟩,.string ⟨#[98]⟩,.string ⟨#[120]⟩] 9)) (.slice (some ⟨W.heap.size,0,none⟩) 3 3) sAbx:=
 Ωmj sAbx (Blk.new W _ _) 3 (by decide) (by omega) (fun i p hp=>by
  match i,hp with
  |0,rfl|1,rfl|2,rfl=>rfl)
structure SnS(w:World)(base C top B A1 A2 A3:Nat)(a b x:Hd)(gv:Value)(Q:List Hs)(s:Vw)(W:World):Prop where
 has:Has w base C top s W
 wd:Blk W B tWd (wdC wd3 none 0)
 g:ΩO W w.heap.size gv Q.length Q
 a:HdAt W A1 a
 b:HdAt W A2 b
 x:HdAt W A3 x
section
variable {w:World} {base C top B A1 A2 A3:Nat} {a b x:Hd} {gv:Value} {Q:List Hs} {s s' :Vw} {W W' :World}
theorem SnS.keep(h:SnS w base C top B A1 A2 A3 a b x gv Q s W)(ho:Only Ωa W W'):SnS w base C top B A1 A2 A3 a b x gv Q s W' :=
 ⟨h.has.keep ho,h.wd.only ho (fun e=>e),Ωe h.g ho (fun _ _ e=>e),Blk.only h.a ho (fun e=>e),Blk.only h.b ho (fun e=>e),Blk.only h.x ho (fun e=>e)⟩
theorem SnS.near{top' :Nat}(h:SnS w base C top B A1 A2 A3 a b x gv Q s W)(hn:Near base W W')(hh:Has w base C top' s' W'):SnS w base C top' B A1 A2 A3 a b x gv Q s' W' :=
 ⟨hh,hn.blk h.wd (by decide) (by decide) (by decide),hn.own h.g (by decide) (by decide) (by decide),hn.blk h.a (by decide) (by decide) (by decide),hn.blk h.b (by decide) (by decide) (by decide),hn.blk h.x (by decide) (by decide) (by decide)⟩
end
theorem ΩfV(W:World):HaSl W (.slice none 0 0) []:=⟨none,0,rfl,Ωnv _,by omega,fun i p hp=>by simp at hp⟩
theorem vtOwn_nil(W:World)(b:Nat):ΩH W b (.slice none 0 0) 0 []:=⟨rfl,.inl ⟨rfl,rfl⟩⟩
theorem Ωeq(w:World)(ht:Tab w){base C top B A1 A2 A3:Nat}{a b x:Hd}{gv:Value}{Q:List Hs}{s:Vw}{W:World}(hZ:SnS w base C top B A1 A2 A3 a b x gv Q s W)(hP:s.P=setW wd3)(hsm:Ωah s.head)(hn:s.votes.length≤1000)(L:List Vt)(hok:Ω4 L)(hsv:ΩcW L)(hL:L.length≤1000)(h:Option Hd)(hbest:∀o,ΩbH (setW wd3) L o→o=h)(sv:Value)(hs:ΩH W top sv L.length L)(q:List Hs)(hqok:HsOk q)(hql:q.length≤1000)(qv:Value)(hq:HaSl W qv q)(hqa:Off base W qv)(s' :Vw)(hs' :{s with votes:=ΩA s.votes L,head:=Ω5 h (Ωx s.head) q s.head}=s')(n:Int)(hr:Ωat h (Ωx s.head) q=n):
  Calls Tryz.prog 19 #[.pointer (some ⟨C,0,none⟩),sv,qv] W fun e w' =>e= .returned (.int .i64 n)∧∃top',SnS w base C top' B A1 A2 A3 a b x gv Q s' w' :=by
 refine(has_head w ht (by rw[hP];exact Ωd1 _) (by rw[hP];exact Ωca _) hsm L hok hsv hL (by omega) sv q hqok (by omega) qv W hZ.has (hs.sl hok) (offV_top hs (Ωnv _)) hq hqa).mono ?_
 rintro e w' ⟨o,ho,he,hh,hnr⟩
 rw[hP] at ho
 have:=hbest o ho
 subst this
 rw[hs'] at hh
 rw[hr] at he
 exact⟨he,_,hZ.near hnr hh⟩
def ab:Hd:=hdOf sAb
def abc:Hd:=hdOf sAbc
def abx:Hd:=hdOf sAbx
theorem Ωnq:ab.Ok:=ΩgJ (by decide)
theorem ΩmY:abc.Ok:=ΩgJ (by decide)
theorem ΩmW:abx.Ok:=ΩgJ (by decide)
theorem known_ab:Ωx ab=ab:=by unfold Ωx;rw[ΩnU (by decide)]
theorem Ωjj:Ωx abc=abc:=by unfold Ωx;rw[ΩnU (by decide)]
theorem known_hd0:Ωx hd0=⟨0,ΩN []⟩:=by unfold Ωx;rw[ΩnV (show hd0.size=0 from rfl)]
theorem ab_rt:ab.root=ΩN (txs sAb):=rfl
theorem ΩmX:abc.root=ΩN (txs sAbc):=rfl
theorem abx_rt:abx.root=ΩN (txs sAbx):=rfl
theorem txs_abc:txs sAbc=[[97],[98],[99]]:=rfl
theorem txs_abx:txs sAbx=[[97],[98],[120]]:=rfl
theorem abc_root:abc.root=ΩN [[97],[98],[99]]:=by rw[ΩmX,txs_abc]
theorem abx_root:abx.root=ΩN [[97],[98],[120]]:=by rw[abx_rt,txs_abx]
theorem Ωkt:abc.root≠abx.root:=by
 rw[abc_root,abx_root]
 exact ΩnL.1 roots_differ
theorem ΩmH:abc≠abx:=fun e=>Ωkt (by rw[e])
theorem Ωc9:ab.size=2:=rfl
theorem ΩcI:abc.size=3:=rfl
theorem ΩfM:abx.size=3:=rfl
theorem ne_ab_abc:ab≠abc:=fun e=>by have:=congrArg Hd.size e;rw[Ωc9,ΩcI] at this;omega
theorem ne_ab_abx:ab≠abx:=fun e=>by have:=congrArg Hd.size e;rw[Ωc9,ΩfM] at this;omega
theorem res1:Ωat (some ab) (Ωx hd0) []=0:=by
 rw[known_hd0]
 unfold Ωat
 simp only
 rw[Ωc9,ΩnU (by decide),ΩnU (by decide),ΩnV]
 exact Ωk3 _ _
theorem res2:Ωat (some abc) (Ωx ab) (ΩbC (txs sAbc) 2)=0:=by
 rw[known_ab]
 unfold Ωat
 simp only
 rw[Ωc9,ΩcI,ΩnU (by decide),ΩnU (by decide),ΩnV]
 have h:=ckL_grow (txs sAbc) 2 (by rw[Ωb0];show 3≤1000000;omega) (by rw[Ωb0];show 2<3;omega)
 have e1:(txs sAbc).length =3:=rfl
 have e2:(txs sAbc).take 2=txs sAb:=rfl
 rw[e1,e2,←ab_rt,←ΩmX] at h
 exact h
theorem res3:Ωat (some ab) (Ωx abc) []=32:=by
 rw[Ωjj]
 unfold Ωat
 simp only
 rw[Ωc9,ΩcI,ΩnV (by decide)]
theorem res4:Ωat (some abx) (Ωx abc) []=44:=by
 rw[Ωjj]
 unfold Ωat
 simp only
 rw[ΩfM,ΩcI,ΩnU (by decide),ΩnV rfl,ΩnU (Ne.symm Ωkt)]
noncomputable def sn0:Vw:=⟨60,setW wd3,false,⟨#[]⟩,hd0,[],false⟩
noncomputable def sn1:Vw:={sn0 with votes:=[vAt ab 1,vAt ab 2,vAt ab 3],head:=ab}
noncomputable def sn2:Vw:={sn0 with votes:=[vAt ab 1,vAt ab 2,vAt ab 3,vAt abc 1,vAt abc 2,vAt abc 3],head:=abc}
noncomputable def sn4:Vw:={sn0 with votes:=[vAt ab 1,vAt ab 2,vAt ab 3,vAt abc 1,vAt abc 2,vAt abc 3,vAt abx 2,vAt abx 3,vAt abx 4],head:=abc}
theorem sn_0:{sn0 with votes:=ΩA sn0.votes [],head:=Ω5 none (Ωx sn0.head) [] sn0.head}=sn0:=by
 unfold Ω5 Ωat
 simp only
 rw[ΩnU (by decide)]
 rfl
theorem sn_1:{sn0 with votes:=ΩA sn0.votes (Ω7 wd3 ab 14 0),head:=Ω5 (some ab) (Ωx sn0.head) [] sn0.head}=sn1:=by
 have h1:Ω5 (some ab) (Ωx sn0.head) [] sn0.head=ab:=by
  unfold Ω5
  rw[show sn0.head=hd0 from rfl,ΩnV res1]
  rfl
 rw[h1,ΩhY,show ΩA sn0.votes _=_ from take_one ab]
 rfl
theorem sn_2:{sn1 with votes:=ΩA sn1.votes (Ω7 wd3 abc 14 0),head:=Ω5 (some abc) (Ωx sn1.head) (ΩbC (txs sAbc) 2) sn1.head}=sn2:=by
 have h1:Ω5 (some abc) (Ωx sn1.head) (ΩbC (txs sAbc) 2) sn1.head=abc:=by
  unfold Ω5
  rw[show sn1.head=ab from rfl,ΩnV res2]
  rfl
 rw[h1,ΩhY,show ΩA sn1.votes _=_ from take_two ne_ab_abc]
 rfl
theorem sn_3:{sn2 with votes:=ΩA sn2.votes (Ω7 wd3 ab 14 0),head:=Ω5 (some ab) (Ωx sn2.head) [] sn2.head}=sn2:=by
 have h1:Ω5 (some ab) (Ωx sn2.head) [] sn2.head=abc:=by
  unfold Ω5
  rw[show sn2.head=abc from rfl,res3,ΩnU (by decide)]
 rw[h1,ΩhY,show ΩA sn2.votes _=_ from take_again]
 rfl
theorem sn_4:{sn2 with votes:=ΩA sn2.votes (Ω7 wd3 abx 28 0),head:=Ω5 (some abx) (Ωx sn2.head) [] sn2.head}=sn4:=by
 have h1:Ω5 (some abx) (Ωx sn2.head) [] sn2.head=abc:=by
  unfold Ω5
  rw[show sn2.head=abc from rfl,res4,ΩnU (by decide)]
 rw[h1,Ωlw,show ΩA sn2.votes _=_ from take_three ne_ab_abx ΩmH]
 rfl
theorem bl_2:blL sn2.P sn2.votes=[]:=blames_none (a:=ab) (b:=abc) (by rw[Ωc9,ΩcI];decide)
theorem bl_4:blL sn4.P sn4.votes=[⟨2,vAt abc 2,vAt abx 2⟩,⟨3,vAt abc 3,vAt abx 3⟩]:=blames_two (a:=ab) (b:=abc) (x:=abx) (by rw[Ωc9,ΩcI];decide) (by rw[Ωc9,ΩfM];decide) (by rw[ΩcI,ΩfM]) ΩmH
theorem sanity31(w:World)(ht:Tab w):Calls Tryz.prog 11 #[] w fun e w' =>e= .returned (.bool true)∧Only Ωa w w' :=by
 obtain⟨B,eB⟩:∃B,B=w.heap.size:=⟨_,rfl⟩
 have hS0:Blk (w.alloc (.cells #[.int .u8 3,.slice none 0 0,.int .u8 0] 24)) B tWd (wdC wd3 none 0)∧Only Ωa w (w.alloc (.cells #[.int .u8 3,.slice none 0 0,.int .u8 0] 24)):=⟨by rw[eB];exact Blk.new w _ _,(Only.refl _ _).alloc _⟩
 obtain⟨WV,eWV⟩:∃v:Array Value,v=wdC wd3 none 0:=⟨_,rfl⟩
 have hset:∀W,Calls Tryz.prog 18 #[.agg WV] W fun e' w' =>∃pv,e' = .returned (setV pv)∧Ωa6 w' pv (setW wd3)∧Only Ωa W w' :=fun W=>by rw[eWV];exact wsetup_any wd3 Ωlr none 0 W
 have hv14:∀(h:Hd) W,h.Ok→Calls Tryz.prog 14 #[.agg WV,.agg (hdC h).toArray,.int .u16 14,.int .u16 0] W fun e' w' =>∃rv,e' = .returned rv∧ΩH w' W.heap.size rv (Ω7 wd3 h 14 0).length (Ω7 wd3 h 14 0)∧Only Ωa W w' :=fun h W ok=>by rw[eWV];exact ΩeZ wd3 Ωlr h ok 14 0 (by omega) (by omega) none 0 W
 have hv28:∀(h:Hd) W,h.Ok→Calls Tryz.prog 14 #[.agg WV,.agg (hdC h).toArray,.int .u16 28,.int .u16 0] W fun e' w' =>∃rv,e' = .returned rv∧ΩH w' W.heap.size rv (Ω7 wd3 h 28 0).length (Ω7 wd3 h 28 0)∧Only Ωa W w' :=fun h W ok=>by rw[eWV];exact ΩeZ wd3 Ωlr h ok 28 0 (by omega) (by omega) none 0 W
 have hnew:∀W pv,Only Ωa w W→Ωa6 W pv (setW wd3)→Calls Tryz.prog 17 #[.int .i64 60,setV pv] W fun e w' =>∃C,e= .returned (.pointer (some ⟨C,0,none⟩))∧Has w W.heap.size C w'.heap.size sn0 w'∧Only Ωa W w' :=fun W pv ho hp=>Ωl2 w 60 (setW wd3) (Ωca _) pv W ho hp
 obtain⟨a,ea⟩:∃h,h=ab:=⟨_,rfl⟩
 obtain⟨b,eb⟩:∃h,h=abc:=⟨_,rfl⟩
 obtain⟨x,ex⟩:∃h,h=abx:=⟨_,rfl⟩
 obtain⟨Q,eQ⟩:∃q,q=ΩbC (txs sAbc) 2:=⟨_,rfl⟩
 have hha:∀W base C top G,SnP w base C top B G sn0 W→Calls Tryz.prog 15 #[.slice (some ⟨G,0,none⟩) 2 3] W fun e w' =>e= .returned (.agg (hdC a).toArray)∧Only Ωa W w' :=fun W _ _ _ _ h=>by rw[ea];exact ΩcM sAb (by decide) sAb_short _ W h.two
 have hhb:∀W base C top G,SnP w base C top B G sn0 W→Calls Tryz.prog 15 #[.slice (some ⟨G,0,none⟩) 3 3] W fun e w' =>e= .returned (.agg (hdC b).toArray)∧Only Ωa W w' :=fun W _ _ _ _ h=>by rw[eb];exact ΩcM sAbc (by decide) Ωht _ W h.three
 have hhx:∀W:World,Calls Tryz.prog 15 #[.slice (some ⟨W.heap.size,0,none⟩) 3 3] (W.alloc (.cells #[.string ⟨#[97]⟩,.string ⟨#[98]⟩,.string ⟨#[120]⟩] 9)) fun e w' =>e= .returned (.agg (hdC x).toArray)∧Only Ωa (W.alloc (.cells #[.string ⟨#[97]⟩,.string ⟨#[98]⟩,.string ⟨#[120]⟩] 9)) w' :=fun W=>by rw[ex];exact ΩcM sAbx (by decide) sAbx_short _ _ (new_three W)
 have hgr:∀W base C top G,SnP w base C top B G sn0 W→Calls Tryz.prog 21 #[.slice (some ⟨G,0,none⟩) 3 3,.int .i64 2] W fun e w' =>∃gv,e= .returned (.tuple #[gv,.bool true])∧ΩO w' W.heap.size gv Q.length Q∧Only Ωa W w' :=fun W _ _ _ _ h=>by rw[eQ];exact Ωgp sAbc 2 (by decide) (by decide) Ωht _ W h.three
 have la:a.root.length=32:=by rw[ea];exact Ωnq.root
 have lb:b.root.length=32:=by rw[eb];exact ΩmY.root
 have lx:x.root.length=32:=by rw[ex];exact ΩmW.root
 have oa:a.Ok:=by rw[ea];exact Ωnq
 have ob:b.Ok:=by rw[eb];exact ΩmY
 have ox:x.Ok:=by rw[ex];exact ΩmW
 have qok:HsOk Q:=by
  rw[eQ]
  unfold ΩbC
  split
  ·exact fun _ h=>by cases h
  ·exact fun h hh=>ΩdE _ _ _ _ h (List.mem_reverse.1 hh)
 have qlen:Q.length≤1000:=by
  rw[eQ]
  unfold ΩbC
  split
  ·exact Ωoh _
  ·rw[Ωog]
   exact Ωnz (Ωcu _ _ _ _) (by decide)
 have k0:∀W base C top A1 A2 A3 gv,SnS w base C top B A1 A2 A3 a b x gv Q sn0 W→Calls Tryz.prog 19 #[.pointer (some ⟨C,0,none⟩),.slice none 0 0,.slice none 0 0] W fun e w' =>e= .returned (.int .i64 24)∧∃top',SnS w base C top' B A1 A2 A3 a b x gv Q sn0 w' :=fun W base C top A1 A2 A3 gv hZ=>
  Ωeq w ht hZ rfl ΩgL (by decide) [] (fun _ h=>by cases h) (fun _ h=>by cases h) (by decide) none (fun o ho=>ΩiH _ ho) _ (vtOwn_nil _ _) [] (fun _ h=>by cases h) (by decide) _ (ΩfV _) (Ωif _ _) _ sn_0 24 rfl
 have k1:∀W base C top A1 A2 A3 gv sv,SnS w base C top B A1 A2 A3 a b x gv Q sn0 W→ΩH W top sv (Ω7 wd3 a 14 0).length (Ω7 wd3 a 14 0)→Calls Tryz.prog 19 #[.pointer (some ⟨C,0,none⟩),sv,.slice none 0 0] W fun e w' =>e= .returned (.int .i64 0)∧∃top',SnS w base C top' B A1 A2 A3 a b x gv Q sn1 w' :=fun W base C top A1 A2 A3 gv sv hZ hs=>by
  subst ea
  exact Ωeq w ht hZ rfl ΩgL (by decide) _ (Ωc3 _ oa _ _) (Ωbw _ (Ωbc (by decide)) _ _) (Ωnz (ΩbV _ _ _ _) (by decide)) (some ab) (fun o ho=>Ωmk _ ho) sv hs [] (fun _ h=>by cases h) (by decide) _ (ΩfV _) (Ωif _ _) _ sn_1 0 res1
 have k2:∀W base C top A1 A2 A3 gv sv,SnS w base C top B A1 A2 A3 a b x gv Q sn1 W→ΩH W top sv (Ω7 wd3 b 14 0).length (Ω7 wd3 b 14 0)→Calls Tryz.prog 19 #[.pointer (some ⟨C,0,none⟩),sv,gv] W fun e w' =>e= .returned (.int .i64 0)∧∃top',SnS w base C top' B A1 A2 A3 a b x gv Q sn2 w' :=fun W base C top A1 A2 A3 gv sv hZ hs=>by
  subst eb
  have h2:=res2
  have h3:=sn_2
  rw[←eQ] at h2 h3
  exact Ωeq w ht hZ rfl (Ωbc (by decide)) (by show(3:Nat)≤1000;omega) _ (Ωc3 _ ob _ _) (Ωbw _ (Ωbc (by decide)) _ _) (Ωnz (ΩbV _ _ _ _) (by decide)) (some abc) (fun o ho=>Ωmk _ ho) sv hs Q qok qlen _ (hZ.g.sl qok) (off_own hZ.g (by decide) (by decide) (by decide)) _ h3 0 h2
 have k3:∀W base C top A1 A2 A3 gv sv,SnS w base C top B A1 A2 A3 a b x gv Q sn2 W→ΩH W top sv (Ω7 wd3 a 14 0).length (Ω7 wd3 a 14 0)→Calls Tryz.prog 19 #[.pointer (some ⟨C,0,none⟩),sv,.slice none 0 0] W fun e w' =>e= .returned (.int .i64 32)∧∃top',SnS w base C top' B A1 A2 A3 a b x gv Q sn2 w' :=fun W base C top A1 A2 A3 gv sv hZ hs=>by
  subst ea
  exact Ωeq w ht hZ rfl (Ωbc (by decide)) (by show(6:Nat)≤1000;omega) _ (Ωc3 _ oa _ _) (Ωbw _ (Ωbc (by decide)) _ _) (Ωnz (ΩbV _ _ _ _) (by decide)) (some ab) (fun o ho=>Ωmk _ ho) sv hs [] (fun _ h=>by cases h) (by decide) _ (ΩfV _) (Ωif _ _) _ sn_3 32 res3
 have k4:∀W base C top A1 A2 A3 gv sv,SnS w base C top B A1 A2 A3 a b x gv Q sn2 W→ΩH W top sv (Ω7 wd3 x 28 0).length (Ω7 wd3 x 28 0)→Calls Tryz.prog 19 #[.pointer (some ⟨C,0,none⟩),sv,.slice none 0 0] W fun e w' =>e= .returned (.int .i64 44)∧∃top',SnS w base C top' B A1 A2 A3 a b x gv Q sn4 w' :=fun W base C top A1 A2 A3 gv sv hZ hs=>by
  subst ex
  exact Ωeq w ht hZ rfl (Ωbc (by decide)) (by show(6:Nat)≤1000;omega) _ (Ωc3 _ ox _ _) (Ωbw _ (Ωbc (by decide)) _ _) (Ωnz (ΩbV _ _ _ _) (by decide)) (some abx) (fun o ho=>best28 _ ho) sv hs [] (fun _ h=>by cases h) (by decide) _ (ΩfV _) (Ωif _ _) _ sn_4 44 res4
 have kb2:∀W base C top A1 A2 A3 gv,SnS w base C top B A1 A2 A3 a b x gv Q sn2 W→Calls Tryz.prog 20 #[.pointer (some ⟨C,0,none⟩)] W fun e w' =>∃ov,e= .returned ov∧BlSl w' ov []∧Only Ωa W w' :=fun W base C top A1 A2 A3 gv hZ=>by
  rw[←bl_2]
  exact Ωfe w ht (Ωd1 _) (Ωca _) (by show(6:Nat)≤100000;omega) W hZ.has
 have kb4:∀W base C top A1 A2 A3 gv,SnS w base C top B A1 A2 A3 a b x gv Q sn4 W→Calls Tryz.prog 20 #[.pointer (some ⟨C,0,none⟩)] W fun e w' =>∃ov,e= .returned ov∧BlSl w' ov [⟨2,vAt abc 2,vAt abx 2⟩,⟨3,vAt abc 3,vAt abx 3⟩]∧Only Ωa W w' :=fun W base C top A1 A2 A3 gv hZ=>by
  rw[←bl_4]
  exact Ωfe w ht (Ωd1 _) (Ωca _) (by show(9:Nat)≤100000;omega) W hZ.has
 have HS0:=Θ hS0
 have EB:=Θ eB
 have EWV:=Θ eWV
 have HSET:=Θ hset
 have HV14:=Θ hv14
 have HV28:=Θ hv28
 have HNEW:=Θ hnew
 have HHA:=Θ hha
 have HHB:=Θ hhb
 have HHX:=Θ hhx
 have HGR:=Θ hgr
 have LA:=Θ la
 have LB:=Θ lb
 have LX:=Θ lx
 have OA:=Θ oa
 have OB:=Θ ob
 have OX:=Θ ox
 have K0:=Θ k0
 have K1:=Θ k1
 have K2:=Θ k2
 have K3:=Θ k3
 have K4:=Θ k4
 have KB2:=Θ kb2
 have KB4:=Θ kb4
 clear hS0 eB eWV hset hv14 hv28 hnew hha hhb hhx hgr la lb lx oa ob ox k0 k1 k2 k3 k4 kb2 kb4 ea eb ex eQ qok qlen ht
 go_enter Tryz.func11,Tryz.ntmps11
 go_upto_region 2 with(fail)
 rw[←EB.out]
 refine Ωf (fun Z=>Blk Z B tWd (wdC wd3 none 0)∧Only Ωa w Z) HS0.out ?_
 clear HS0
 rintro Z ⟨hB,hO⟩
 have l1:=ΩcE hB
 rw[←EWV.out] at l1
 have HZ:=Θ (And.intro hB hO)
 clear hB hO
 go_wp2_with fail
 refine(HSET.out _).mono ?_
 rintro e1 w1 ⟨pv,rfl,hpv,ho1⟩
 have H1:=Θ (And.intro hpv (And.intro (HZ.out.1.only ho1 (fun e=>e)) (HZ.out.2.trans ho1)))
 clear hpv ho1 l1 HZ
 go_wp2_with fail
 refine(HNEW.out _ _ H1.out.2.2 H1.out.1).mono ?_
 rintro e2 w2 ⟨C,rfl,hh2,ho2⟩
 obtain⟨G,eG⟩:∃G,G=w2.heap.size:=⟨_,rfl⟩
 obtain⟨base,ebase⟩:∃n,n=w1.heap.size:=⟨_,rfl⟩
 rw[←ebase] at hh2
 have hP0:SnP w base C w2.heap.size B G sn0 (w2.alloc (.cells #[.string ⟨#[97]⟩,.string ⟨#[98]⟩,.string ⟨#[99]⟩] 9)):=
  ⟨hh2.keep ((Only.refl _ _).alloc _),(H1.out.2.1.only ho2 (fun e=>e)).alloc _,by rw[eG];exact Blk.new w2 _ _⟩
 have HP0:=Θ hP0
 have EG:=Θ eG
 clear hP0 hh2 ho2 H1 eG ebase
 go_upto_region 4 with(fail)
 rw[←EG.out]
 rw[←EG.out] at HP0
 refine Ωf (SnP w base C G B G sn0) HP0.out ?_
 clear HP0
 intro Z hZ
 have HZ:=Θ hZ
 clear hZ EG
 go_wp2_with fail
 refine(HHA.out _ _ _ _ _ HZ.out).mono ?_
 rintro e3 w3 ⟨rfl,ho3⟩
 have HZ3:=Θ (HZ.out.keep ho3)
 clear ho3 HZ
 go_wp2_with fail
 refine(HHB.out _ _ _ _ _ HZ3.out).mono ?_
 rintro e4 w4 ⟨rfl,ho4⟩
 have HZ4:=Θ (HZ3.out.keep ho4)
 clear ho4 HZ3
 go_wp2_with fail
 refine(HHX.out _).mono ?_
 rintro e5 w5 ⟨rfl,ho5⟩
 have HZ5:=Θ (HZ4.out.keep (((Only.refl Ωa _).alloc _).trans ho5))
 clear ho5 HZ4
 obtain⟨W3,ew3,st1,st2,st3,f1,f2,f3,o3⟩:=three_heads w5 LA.out LB.out LX.out w5.heap.size (w5.heap.size+1) (w5.heap.size+1+1) rfl rfl rfl
 subst ew3
 have hnw:=Ωal
 obtain⟨A1,eA1⟩:∃n,n=w5.heap.size:=⟨_,rfl⟩
 have hS5:SnS w base C G B A1 (A1+1) (A1+1+1) a b x (.slice none 0 0) [] sn0 (((((w5.alloc (.cells hd0C tHd)).alloc (.cells hd0C tHd)).alloc (.cells hd0C tHd)).setCells w5.heap.size 0 (hdC a)).setCells (w5.heap.size+1) 0 (hdC b) |>.setCells (w5.heap.size+1+1) 0 (hdC x)):=by
  have h:=HZ5.out.keep o3
  rw[eA1]
  exact⟨h.has,h.wd,⟨rfl,.inl ⟨rfl,rfl⟩⟩,f1,f2,f3⟩
 have HP5:=Θ (And.intro (HZ5.out.keep o3) hS5)
 have EA1:=Θ eA1
 clear f1 f2 f3 o3 hS5 eA1 HZ5
 go_upto_region 5 with(fail)
 rw[←EA1.out]
 rw[←EA1.out] at HP5
 refine Ωf (fun W=>SnP w base C G B G sn0 W∧SnS w base C G B A1 (A1+1) (A1+1+1) a b x (.slice none 0 0) [] sn0 W) HP5.out ?_
 clear HP5 st1 st2 st3 hnw EA1
 intro Y hY
 have HY:=Θ hY
 clear hY
 go_wp2_with fail
 refine(HGR.out _ _ _ _ _ HY.out.1).mono ?_
 rintro e6 w6 ⟨gv,rfl,hgv,ho6⟩
 have hS6:SnS w base C G B A1 (A1+1) (A1+1+1) a b x gv Q sn0 w6:=by
  have h:=HY.out.2.keep ho6
  exact⟨h.has,h.wd,ΩE hgv (HY.out.2.has.only).size,h.a,h.b,h.x⟩
 have H6:=Θ hS6
 clear hgv ho6 hS6 HY
 go_wp2_with fail
 refine(K0.out _ _ _ _ _ _ _ _ H6.out).mono ?_
 rintro e7 w7 ⟨rfl,t7,hS7⟩
 have lw:=ΩcE hS7.wd
 rw[←EWV.out] at lw
 have lh:=ΩC (Ωd hS7.a) LA.out
 have H7:=Θ hS7
 clear hS7 H6
 go_wp2_with fail
 refine(HV14.out _ _ OA.out).mono ?_
 rintro e8 w8 ⟨v8,rfl,hv8,ho8⟩
 have H8:=Θ (And.intro (H7.out.keep ho8) (ΩE hv8 H7.out.has.size))
 clear hv8 ho8 lw lh H7
 go_wp2_with fail
 refine(K1.out _ _ _ _ _ _ _ _ _ H8.out.1 H8.out.2).mono ?_
 rintro e9 w9 ⟨rfl,t9,hS9⟩
 have lw:=ΩcE hS9.wd
 rw[←EWV.out] at lw
 have lh:=ΩC (Ωd hS9.b) LB.out
 have H9:=Θ hS9
 clear hS9 H8
 go_wp2_with fail
 refine(HV14.out _ _ OB.out).mono ?_
 rintro e10 w10 ⟨v10,rfl,hv10,ho10⟩
 have H10:=Θ (And.intro (H9.out.keep ho10) (ΩE hv10 H9.out.has.size))
 clear hv10 ho10 lw lh H9
 go_wp2_with fail
 refine(K2.out _ _ _ _ _ _ _ _ _ H10.out.1 H10.out.2).mono ?_
 rintro e11 w11 ⟨rfl,t11,hS11⟩
 have lw:=ΩcE hS11.wd
 rw[←EWV.out] at lw
 have lh:=ΩC (Ωd hS11.a) LA.out
 have H11:=Θ hS11
 clear hS11 H10
 go_wp2_with fail
 refine(HV14.out _ _ OA.out).mono ?_
 rintro e12 w12 ⟨v12,rfl,hv12,ho12⟩
 have H12:=Θ (And.intro (H11.out.keep ho12) (ΩE hv12 H11.out.has.size))
 clear hv12 ho12 lw lh H11
 go_wp2_with fail
 refine(K3.out _ _ _ _ _ _ _ _ _ H12.out.1 H12.out.2).mono ?_
 rintro e13 w13 ⟨rfl,t13,hS13⟩
 have H13:=Θ hS13
 clear hS13 H12
 go_wp2_with fail
 refine(KB2.out _ _ _ _ _ _ _ _ H13.out).mono ?_
 rintro e14 w14 ⟨o14,rfl,hb14,ho14⟩
 obtain⟨bA,bcap,rfl,_,_,_⟩:=hb14
 have hS14:=H13.out.keep ho14
 have lw:=ΩcE hS14.wd
 rw[←EWV.out] at lw
 have lh:=ΩC (Ωd hS14.x) LX.out
 have H14:=Θ hS14
 clear hS14 ho14 H13
 go_wp2_with fail
 refine(HV28.out _ _ OX.out).mono ?_
 rintro e15 w15 ⟨v15,rfl,hv15,ho15⟩
 have H15:=Θ (And.intro (H14.out.keep ho15) (ΩE hv15 H14.out.has.size))
 clear hv15 ho15 lw lh H14
 go_wp2_with fail
 refine(K4.out _ _ _ _ _ _ _ _ _ H15.out.1 H15.out.2).mono ?_
 rintro e16 w16 ⟨rfl,t16,hS16⟩
 have H16:=Θ hS16
 clear hS16 H15
 go_wp2_with fail
 refine(KB4.out _ _ _ _ _ _ _ _ H16.out).mono ?_
 rintro e17 w17 ⟨o17,rfl,hb17,ho17⟩
 obtain⟨cA,ccap,rfl,c1,c2,c3⟩:=hb17
 obtain⟨g,o,rfl,hg,r1⟩:=c3 0 _ rfl
 obtain⟨g',o',e',_,r2⟩:=c3 1 _ rfl
 cases e'
 have q1:=r1 0 _ rfl
 have q2:=r1 1 _ rfl
 have q3:=r2 0 _ rfl
 simp only[Nat.zero_mul,Nat.add_zero,Nat.one_mul] at q1 q2 q3
 have HF:=Θ (H16.out.keep ho17).has.only
 clear c3 r1 r2 ho17 H16
 go_wp2_with fail
 go_ret
 exact⟨rfl,HF.out⟩
end
section
open Go.RowKit Go.Shelf
attribute [local go_sem ↓ high] Ωej Ωbh Ωcm zbPs_eq psSt_eq Ωmp Ωg7 Ωfn ΩiE zbVt_eq zbHa_eq zbBl_eq blSt_eq ΩaV ΩaF
noncomputable def keV(d:Wd):Vw:=⟨60,setW d,false,⟨#[]⟩,hd0,[],false⟩
structure KeS(d:Wd)(k:Nat)(s:Vw):Prop where
 P:s.P=setW d
 votes:s.votes.length≤7*k
 head:Ωah s.head
structure KeM(b:Nat)(x:Cl)(G:Nat)(gv rv:Value)(W:World):Prop where
 com:Blk W G 3 #[.int .i64 4]
 lo:b≤G
 pf:ΩO W b gv x.proof.length x.proof
 vt:ΩH W b rv x.votes.length x.votes
theorem KeM.keep{b:Nat}{x:Cl}{G:Nat}{gv rv:Value}{W W' :World}(h:KeM b x G gv rv W)(ho:Only Ωa W W'):KeM b x G gv rv W' :=
 ⟨h.com.only ho (fun e=>e),h.lo,Ωe h.pf ho (fun _ _ e=>e),Ωe h.vt ho (fun _ _ e=>e)⟩
theorem KeM.one1{b:Nat}{x:Cl}{G:Nat}{gv rv:Value}{W:World}(h:KeM b x G gv rv W):gv.oneCell' =true:=by
 obtain⟨A,c,rfl,_⟩:=Ωt h.pf
 rfl
theorem KeM.one2{b:Nat}{x:Cl}{G:Nat}{gv rv:Value}{W:World}(h:KeM b x G gv rv W):rv.oneCell' =true:=by
 obtain⟨A,c,rfl,_⟩:=Ωt h.vt
 rfl
theorem zc_cl{X:World}{x:Cl}(he:x.ev.prev.length=32)(W:World)(N G:Nat)(gv rv:Value)(hg:gv.oneCell' =true)(hr:rv.oneCell' =true)(hz:ZBl tCl cl0.toArray X W N):(Ωg6 (.pointer (some ⟨N,0,none⟩)) (.agg (clL x.what x.bid (some ⟨G,0,none⟩) 1 x.ev gv rv).toArray)).run Tryz.prog W= .ok () (W.setCells N 0 (clL x.what x.bid (some ⟨G,0,none⟩) 1 x.ev gv rv)):=ΩiC hz.1 Ωfo he hg hr
theorem KeM.far{b:Nat}{x:Cl}{G M:Nat}{gv rv:Value}{W:World}{cs:Array Value}(h:KeM b x G gv rv W)(hb:Blk W M tCl cs)(vs:List Value):KeM b x G gv rv (W.setCells M 0 vs):=by
 have h1:Only (fun k=>k=M) W (W.setCells M 0 vs):=Ωb (S:=fun k=>k=M) (Only.refl _ _) M 0 (.inl rfl) _
 exact⟨h.com.only h1 (fun e=>Blk.ne_ h.com hb (by decide) e),h.lo,Ωe h.pf h1 (fun k hk e=>Ωi h.pf hb (by decide) (by rw[hk,e])),Ωe h.vt h1 (fun k hk e=>Ωi h.vt hb (by decide) (by rw[hk,e]))⟩
theorem KeM.lower{b b' :Nat}{x:Cl}{G:Nat}{gv rv:Value}{W:World}(h:KeM b x G gv rv W)(hb:b'≤b):KeM b' x G gv rv W:=⟨h.com,Ωnz hb h.lo,ΩE h.pf hb,ΩE h.vt hb⟩
theorem ΩlZ{W:World}{b lo mid n size:Nat}{e:TypeId}{v:Value}{xs:List Value}(h:W.ownsRow b e size v n xs)(hb:lo≤b)(hm:∀g,v.ownBlock=some g→g<mid):InG lo mid v:=fun a m cap hv=>by
 rcases h.2 with⟨rfl,_⟩|⟨g,cap',cur,rfl,hg,_⟩
 ·cases hv
 ·cases hv
  exact⟨Ωnz hb hg,hm g rfl⟩
theorem Ωmb{W:World}{G:Nat}(h:Blk W G 3 #[.int .i64 4]):Ωdv W (some ⟨G,0,none⟩) [4]:=
 .inr ⟨G,0,rfl,h.lt,fun j x hx=>by
  match j,hx with
  |0,hx=>
   simp only[ΩnF,Option.some.injEq] at hx
   subst hx
   exact h.cell 0⟩
theorem KeS.next{d:Wd}{k:Nat}{s:Vw}{x:Cl}(h:KeS d k s)(hh:Ωah (Ωav s x).head)(hl:x.votes.length≤7):KeS d (k+1) (Ωav s x):=by
 have h1:=ΩiR s.votes x.votes
 have h2:=h.votes
 refine⟨?_,?_,hh⟩
 ·unfold Ωav
  split
  ·exact h.P
  ·split
   ·exact h.P
   ·split<;>exact h.P
 ·unfold Ωav
  split
  ·show s.votes.length≤_;omega
  ·split
   ·show(ΩA s.votes x.votes).length≤_;omega
   ·split
    ·omega
    ·show(ΩA s.votes x.votes).length≤_;omega
theorem blank0_ok:Ωam.Ok:=by
 refine⟨?_,?_,?_,?_,?_,?_,?_,?_,?_,?_,?_,?_,?_⟩
 all_goals first|exact⟨by decide,by decide⟩|rfl
theorem ΩgT(d:Wd)(a:Ac):(Ωfw d a).Ok∧(Ωfw d a).name.size≤200∧(Ωfw d a).text.size≤200:=by
 unfold Ωfw
 split
 ·exact⟨blank0_ok,by decide,by decide⟩
 ·rename_i h0
  have hn:(lvW d a.second).length≠0:=fun e=>h0 (.inr e)
  obtain⟨e0,he0⟩:∃e,(evsW d a.second)[(a.n%((lvW d a.second).length :Int)).toNat]? =some e:=⟨_,Ωnu (by
   have h1:=Ωoo a.n (show((lvW d a.second).length :Int)≠0 by omega)
   have h2:=Ωod a.n (show(0:Int)<((lvW d a.second).length :Int) by omega)
   rw[←ΩjV]
   omega)⟩
  have hk:=Ωfk (ΩnE he0)
  rw[he0]
  simp only[Option.getD_some]
  split
  ·refine⟨{hk.1 with},Ωnz hk.2.1 (by omega),?_⟩
   show(e0.text++(⟨#[32]⟩:ByteArray)).size≤200
   rw[Ωn5]
   have h3:=hk.2.2
   show e0.text.size+1≤200
   omega
  ·exact⟨hk.1,Ωnz hk.2.1 (by omega),Ωnz hk.2.2 (by omega)⟩
theorem makeW_ok(d:Wd)(a:Ac)(_ha:a.Ok):(ΩeB d a).Ok :=by
 have hl:((lvW d a.second).take (a.size%(((lvW d a.second).length :Int)+1)).toNat).length≤1000:=by
  rw[ΩnB]
  have:=ΩlT d a.second
  omega
 refine⟨⟨by show 0≤a.what%6;omega,by show a.what%6<6;omega⟩,Ωj8 _,rfl,(ΩgT d a).1,Ωnz (ΩgT d a).2.1 (by omega),Ωnz (ΩgT d a).2.2 (by omega),?_,?_,Ωc3 d (ΩgJ hl) _ _,Ωbw d (Ωbc hl) _ _,Ωnz (ΩbV _ _ _ _) (by omega),_,fun v hv=>Ωf8 hv⟩
 ·show HsOk (if 0≤a.b0 then Ωau (Ωcc d a) a.b0 a.b1 else Ωcc d a)
  split
  ·exact bentL_ok (Ωgu d a) _ _
  ·exact Ωgu d a
 ·show(if 0≤a.b0 then Ωau (Ωcc d a) a.b0 a.b1 else Ωcc d a).length≤100000
  have h1:=Ωhy d a
  split
  ·have h2:=bentL_len (Q:=Ωcc d a) a.b0 a.b1
   omega
  ·omega
end
end Go.Proofs.YtgalfohobgjelaaGreatDoor
