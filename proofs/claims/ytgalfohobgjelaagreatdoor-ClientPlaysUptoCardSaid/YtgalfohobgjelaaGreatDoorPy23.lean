/- What is proved here: a part of the proof that 'probitylaw31.ClientPlays' answers true. Conditions: each theorem's own. -/
import Derived.Test.YtgalfohobgjelaaGreatDoorPy22
set_option maxRecDepth 100000
set_option maxHeartbeats 8000000
namespace Go.Proofs.YtgalfohobgjelaaGreatDoor
section
open Go.RowKit Go.Shelf
attribute [local go_sem ↓ high] Ωaj Ωb9 ΩaV ΩG
noncomputable def blmC(b:Blm):List Value:=[.int .i64 b.who,.int .i64 44,.string (vtT b.a),.string (vtT b.b)]
theorem blmC_len(b:Blm):(blmC b).length =4:=rfl
def ΩdS(w:World)(base:Nat)(v:Value)(n:Nat)(L:List Blm):Prop:=w.ownsRow base 57 4 v n (L.flatMap blmC)
def BlSl(w:World)(v:Value)(L:List Blm):Prop:=
 ∃A cap,v= .slice A L.length cap∧L.length≤cap∧cap≤9223372036854775807∧∀(i:Nat) (p:Blm),L[i]? =some p→∃g o,A=some ⟨g,o,none⟩∧g<w.heap.size∧w.rangeAt g (o+i*4) (blmC p)
theorem BlSl.only{w w' :World}{v:Value}{L:List Blm}(h:BlSl w v L)(ho:Only Ωa w w'):BlSl w' v L:=by
 obtain⟨A,cap,hv,h1,h2,h3⟩:=h
 refine⟨A,cap,hv,h1,h2,fun i p hp=> ?_⟩
 obtain⟨g,o,hA,hg,hr⟩:=h3 i p hp
 exact⟨g,o,hA,ΩnT hg ho.size,Ωu hr ho⟩
theorem ΩdS.sl{w:World}{base:Nat}{v:Value}{L:List Blm}(h:ΩdS w base v L.length L):BlSl w v L:=by
 rcases h.2 with⟨rfl,h0⟩|⟨g,cap,cur,rfl,hb,hh,hc,hm,hs,ht⟩
 ·have hP0:L=[]:=ΩnZ h0
  subst hP0
  exact⟨none,0,rfl,Ωnv _,by omega,fun i e he=>by simp at he⟩
 ·rw[Ωg] at hm
  refine⟨some ⟨g,0,none⟩,cap,rfl,hc,hm,fun i p hp=>⟨g,0,rfl,Blk.lt (t:=57) hh,fun j x hj=> ?_⟩⟩
  have hj2:j<4:=(Ωnx.1 hj).1
  have h1:=Ωit blmC_len L i j hj2 p hp
  have h2:=World.ownsRow.cells h rfl (i*4+j) x (h1.trans hj)
  rw[ΩoK,ΩnR] at h2
  rw[ΩnR]
  exact h2
theorem Ωk9:∃ie z,Tryz.prog.info? 57=some ie∧ie.size=4∧ie.zero=some z∧z.cells.size=4∧ie.bytes=48:=by
 have h1:(Tryz.prog.info? 57).map (·.size)=some 4:=by kernel_rfl
 have h2:((Tryz.prog.info? 57).bind (·.zero)).isSome =true:=by kernel_rfl
 have h3:(Tryz.prog.info? 57).map (·.bytes)=some 48:=by kernel_rfl
 have h4:((Tryz.prog.info? 57).bind (·.zero)).map (fun z=>z.cells.size)=some 4:=by kernel_rfl
 cases hie:Tryz.prog.info? 57 with
 |none=>simp[hie] at h1
 |some ie=>
  simp only[hie,Ωoe,Option.some.injEq,Option.bind_some] at h1 h2 h3 h4
  obtain⟨z,hz⟩:=Option.isSome_iff_exists.1 h2
  simp only[hz,Ωoe,Option.some.injEq] at h4
  exact⟨ie,z,rfl,h1,hz,h4,h3⟩
structure ClS(W0:World)(ag:Hd→Hd→Bool)(L:List Vt)(O:List Pers)(k:Nat)(ov:Value)(W:World):Prop where
 own:ΩdS W W0.heap.size ov (Ωag ag L (O.take k)).length (Ωag ag L (O.take k))
 only:Only Ωa W0 W
structure ClR(W0:World)(N VA VB:Nat)(p:Pers)(v u:Vt)(W:World):Prop where
 p:Blk W N 67 #[.int .i64 p.id,.int .i64 p.role,.int .i64 p.pub]
 a:VtAt W VA v
 b:VtAt W VB u
 only:Only Ωa W0 W
theorem ClR.keep{W0:World}{N VA VB:Nat}{p:Pers}{v u:Vt}{W W' :World}(h:ClR W0 N VA VB p v u W)(ho:Only Ωa W W'):ClR W0 N VA VB p v u W' :=
 ⟨h.p.only ho (fun e=>e),Blk.only h.a ho (fun e=>e),Blk.only h.b ho (fun e=>e),h.only.trans ho⟩
theorem firstP_drop{ag:Hd→Hd→Bool}{l:List Vt}{i:Nat}{v:Vt}(h:l[i]? =some v):Ωcf ag (l.drop i)=match(l.drop (i+1)).find? (fun u=> !ag v.head u.head) with|some u=>some (v,u)|none=>Ωcf ag (l.drop (i+1)):=by
 have hlt:=(Ωnx.1 h).1
 have:l.drop i=v::l.drop (i+1):=by rw[Ωn7 hlt];rw[Ωnu hlt] at h;rw[Option.some.inj h]
 rw[this,ΩcR]
 rfl
theorem find_drop{α:Type}{p:α→Bool}{l:List α}{i:Nat}{v:α}(h:l[i]? =some v):(l.drop i).find? p=if p v then some v else(l.drop (i+1)).find? p:=by
 have hlt:=(Ωnx.1 h).1
 have:l.drop i=v::l.drop (i+1):=by rw[Ωn7 hlt];rw[Ωnu hlt] at h;rw[Option.some.inj h]
 rw[this,List.find?_cons]
 cases p v<;>rfl
theorem grp_own{O:List Pers}(hap:O.Pairwise (fun p q=>p.id≠q.id)){L:List Vt}{W:World}{b n:Nat}{f:Value→Option Value}(h:GrpR W 3 whoK b n (L.filter (cntO O)) f){p:Pers}(hp:p∈O):VtSl W (slAt f (idV p)) (L.filter (cnts p)):=by
 have h3:grp whoK (L.filter (cntO O)) (idV p)=L.filter (cnts p):=by
  unfold grp
  rw[List.filter_filter]
  apply List.filter_congr
  intro y _
  rw[←Ωj5 hap hp y,Bool.and_comm]
  unfold whoK idV
  rw[Ωfl,Ωoy]
  simp only[Ωoa,beq_iff_eq]
  exact⟨fun h=>⟨h.1,h.2.symm⟩,fun h=>⟨h.1,h.2.symm⟩⟩
 unfold slAt
 cases hf:f (idV p) with
 |some sl=>
  have h2:=h.2.2 _ sl hf
  rw[h3] at h2
  exact h2
 |none=>
  have h4:=(h.2.1 (idV p)).1 hf
  have h5:L.filter (cnts p)=[]:=by
   rw[←h3]
   unfold grp
   rw[List.filter_eq_nil_iff]
   intro v hv
   simp[ΩbE.2 (h4 v hv)]
  rw[h5]
  exact⟨none,0,rfl,Ωnv _,by omega,fun i e he=>by simp at he⟩
theorem clash_own(P:List Pers)(hP:ΩS P)(hlen:P.length≤1000)(pv:Value)(L:List Vt)(hok:Ω4 L)(hL:L.length≤100000)(sv:Value)(fv:Value)(hfv:fv.cells= #[fv])(ag:Hd→Hd→Bool)(w:World)(hp:Ωa6 w pv P)(hs:VtSl w sv L)(ht:Tab w)
  (hag:∀W x,Only Ωa w W→W.cell? ⟨x,0,none⟩=some fv→∀a b:Hd,a.Ok→b.Ok→Calls Tryz.prog 85 #[.agg (hdC a).toArray,.agg (hdC b).toArray,.pointer (some ⟨x,0,none⟩)] W fun e w' =>e= .returned (.bool (ag a b))∧Only Ωa W w'):
  Calls Tryz.prog 49 #[setV pv,sv,fv] w fun e w' =>∃ov,e= .returned ov∧ΩdS w' w.heap.size ov (ΩhP ag P L).length (ΩhP ag P L)∧Only Ωa w w' :=by
 have hgd:∀W,Only Ωa w W→Calls Tryz.prog 86 #[setV pv,sv] W fun e w' =>∃b n f,e= .returned (.map (some b))∧n≤100000∧W.heap.size≤b∧GrpR w' 3 whoK b n (L.filter (cntO (offs P))) f∧Only Ωa W w' :=fun W ho=>ΩkO P hP hlen pv L hok hL sv W (hp.only ho) (hs.only ho) (ht.none ho)
 have hqo:∀W,Only Ωa w W→Calls Tryz.prog 87 #[setV pv] W fun e w' =>∃ov,e= .returned ov∧Ωa6 w' ov (offs P)∧Only Ωa W w' :=fun W ho=>ΩcN P hP hlen pv W (hp.only ho)
 have hap:=Ωe8 P
 have hol:(offs P).length≤1000:=Ωnz (Ωce P) hlen
 have hO:ΩS (offs P):=hP.offs
 have hcl:ΩhP ag P L=Ωag ag L (offs P):=rfl
 rw[hcl]
 obtain⟨O,eO⟩:∃O,O=offs P:=⟨_,rfl⟩
 rw[←eO] at hgd hqo hap hol hO⊢
 unfold setV at hgd hqo⊢
 obtain⟨B,eB⟩:∃B,B=w.heap.size:=⟨_,rfl⟩
 have x1:Blk ((w.alloc (.cells #[pv,.int .i64 0,.slice none 0 0,.slice none 0 0,.int .i64 0,.int .i64 0] 50)).alloc (.cells fv.cells 117)) B tSu #[pv,.int .i64 0,.slice none 0 0,.slice none 0 0,.int .i64 0,.int .i64 0]:=by rw[eB];exact(Blk.new w _ _).alloc _
 have x2:Blk ((w.alloc (.cells #[pv,.int .i64 0,.slice none 0 0,.slice none 0 0,.int .i64 0,.int .i64 0] 50)).alloc (.cells fv.cells 117)) (B+1) 117 #[fv]:=by
  have h2:=Blk.new (w.alloc (.cells #[pv,.int .i64 0,.slice none 0 0,.slice none 0 0,.int .i64 0,.int .i64 0] 50)) 117 fv.cells
  rw[Ωnw,←eB] at h2
  rw[hfv] at h2⊢;exact h2
 have x3:Only Ωa w ((w.alloc (.cells #[pv,.int .i64 0,.slice none 0 0,.slice none 0 0,.int .i64 0,.int .i64 0] 50)).alloc (.cells fv.cells 117)):=((Only.refl _ _).alloc _).alloc _
 have HX:=Θ (And.intro x1 (And.intro x2 x3))
 have HGD:=Θ hgd
 have HQO:=Θ hqo
 have HAP:=Θ hap
 have HPO:=Θ hO
 have HOK:=Θ hok
 have HT:=Θ ht
 have HAG:=Θ hag
 have EB:=Θ eB
 clear x1 x2 x3 hgd hqo hap hO hok ht hag eB eO hcl hfv hp hs hP hlen
 go_enter Tryz.func49,Tryz.ntmps49
 go_upto_region 2 with(fail)
 rw[←EB.out]
 clear EB
 refine Ωf (fun Z=>Blk Z B tSu #[pv,.int .i64 0,.slice none 0 0,.slice none 0 0,.int .i64 0,.int .i64 0]∧Blk Z (B+1) 117 #[fv]∧Only Ωa w Z) HX.out ?_
 rintro Z ⟨z1,z2,z3⟩
 have c0:Z.cell? ⟨B,0,none⟩=some pv:=z1.cell 0
 have c1:Z.cell? ⟨B,1,none⟩=some (.int .i64 0):=z1.cell 1
 have c2:Z.cell? ⟨B,2,none⟩=some (.slice none 0 0):=z1.cell 2
 have c3:Z.cell? ⟨B,3,none⟩=some (.slice none 0 0):=z1.cell 3
 have c4:Z.cell? ⟨B,4,none⟩=some (.int .i64 0):=z1.cell 4
 have c5:Z.cell? ⟨B,5,none⟩=some (.int .i64 0):=z1.cell 5
 have HZ:=Θ (And.intro z1 (And.intro z2 z3))
 clear z1 z2 z3 HX
 go_wp2_with fail
 refine(HGD.out _ HZ.out.2.2).mono ?_
 rintro e1 w1 ⟨bG,nG,f,rfl,hnG,hbG,hgr,ho1⟩
 have H1:=Θ (And.intro (HZ.out.1.only ho1 (fun e=>e)) (And.intro (HZ.out.2.1.only ho1 (fun e=>e)) (HZ.out.2.2.trans ho1)))
 have HGR:=Θ hgr
 clear hgr hbG ho1 HZ c0 c1 c2 c3 c4 c5 HGD
 have c0:w1.cell? ⟨B,0,none⟩=some pv:=H1.out.1.cell 0
 have c1:w1.cell? ⟨B,1,none⟩=some (.int .i64 0):=H1.out.1.cell 1
 have c2:w1.cell? ⟨B,2,none⟩=some (.slice none 0 0):=H1.out.1.cell 2
 have c3:w1.cell? ⟨B,3,none⟩=some (.slice none 0 0):=H1.out.1.cell 3
 have c4:w1.cell? ⟨B,4,none⟩=some (.int .i64 0):=H1.out.1.cell 4
 have c5:w1.cell? ⟨B,5,none⟩=some (.int .i64 0):=H1.out.1.cell 5
 go_wp2_with fail
 refine(HQO.out _ H1.out.2.2).mono ?_
 rintro e2 W0 ⟨pw,rfl,hov,ho2⟩
 obtain⟨A,cap,rfl,hlc,hcm,hA⟩:=hov
 have HA:=Θ hA
 have HBX:Hid (W0.cell? ⟨B+1,0,none⟩=some fv):=Θ ((H1.out.2.1.only ho2 (fun e=>e)).cell 0)
 have HGR0:=Θ (HGR.out.only ho2)
 have HW0:=Θ (H1.out.2.2.trans ho2)
 clear hA ho2 H1 c0 c1 c2 c3 c4 c5 HQO HGR
 obtain⟨ie,z,hie,hsz,hz,hzc,hby⟩:=Ωk9
 have HIE:=Θ hie
 have HSZ:=Θ hsz
 have HZ:=Θ hz
 have HZC:=Θ hzc
 have HBY:=Θ hby
 have hs0:ClS W0 ag L O 0 (.slice none 0 0) W0:=⟨⟨rfl,.inl ⟨rfl,rfl⟩⟩,Only.refl _ _⟩
 have HS0:=Θ hs0
 clear hie hsz hz hzc hby hs0
 go_wp2_with fail
 go_loopw [9,24] (fun ov i wr=>∃k:Nat,i= .int .i64 k∧k≤O.length∧ClS W0 ag L O k ov wr) (fun _ i _=>O.length-(intOf i).toNat)
 case atStart=>exact⟨0,rfl,Ωoh _,HS0.out⟩
 case round=>
  obtain⟨k,rfl,hk,hS⟩:=hrel
  obtain⟨out,hout⟩:∃out:Value,out=u9:=⟨_,rfl⟩
  subst hout
  have HS:=Θ hS
  clear hS
  by_cases hlt:k<O.length
  ·obtain⟨p,hp⟩:∃p,O[k]? =some p:=⟨_,Ωnu hlt⟩
   obtain⟨g,o,hA',hg,hr⟩:=HA.out k p hp
   subst hA'
   have hpm:=ΩnE hp
   have hpo:=HPO.out p hpm
   have ik:(k:Int)<(O.length:Int):=by omega
   have ik0:(0:Int)≤(k:Int):=by omega
   have r0:wr.cell? ⟨g,o+k*3,none⟩=some (.int .i64 p.id):=HS.out.only.cell_some (hr 0 _ rfl) (fun e=>e)
   have r1:wr.cell? ⟨g,o+k*3+1,none⟩=some (.int .i64 p.role):=HS.out.only.cell_some (hr 1 _ rfl) (fun e=>e)
   have r2:wr.cell? ⟨g,o+k*3+2,none⟩=some (.int .i64 p.pub):=HS.out.only.cell_some (hr 2 _ rfl) (fun e=>e)
   have htk:=Ωg4 (ag:=ag) (L:=L) hp
   have hgo:=(grp_own HAP.out HGR0.out hpm).only HS.out.only
   obtain⟨own,eown⟩:∃own,own=L.filter (cnts p):=⟨_,rfl⟩
   have hbo:ΩjC ag L p=(Ωcf ag own).map (fun x=>⟨p.id,x.1,x.2⟩):=by rw[eown];rfl
   have hoo:Ω4 own:=fun x hx=>HOK.out x (by rw[eown] at hx;exact(List.mem_filter.1 hx).1)
   rw[←eown] at hgo
   have hlk:∀W,Only Ωa wr W→(Instr.lookup 142 (.map (some bG)) (.int .i64 p.id) false).run Tryz.prog W= .ok (slAt f (idV p)) W:=fun W ho=>
    (HGR0.out.1.only (HS.out.only.trans ho) (fun e=>e)).look Ωbj Tryz.underlying142 (Ωee _) (ΩgE hpo.id)
   obtain⟨A2,cap2,esl,hlc2,hcm2,hA2⟩:=hgo
   rw[esl] at hlk
   obtain⟨N,eN⟩:∃N,N=wr.heap.size:=⟨_,rfl⟩
   have hZ1:Blk (wr.alloc (.cells #[.int .i64 p.id,.int .i64 p.role,.int .i64 p.pub] 67)) N 67 #[.int .i64 p.id,.int .i64 p.role,.int .i64 p.pub]∧Only Ωa wr (wr.alloc (.cells #[.int .i64 p.id,.int .i64 p.role,.int .i64 p.pub] 67)):=by
    rw[eN]
    exact⟨Blk.new wr 67 #[.int .i64 p.id,.int .i64 p.role,.int .i64 p.pub],(Only.refl _ _).alloc _⟩
   have HLK:=Θ hlk
   have HZ1:=Θ hZ1
   have EN:=Θ eN
   have HTK:=Θ htk
   have HBO:=Θ hbo
   have HOO:=Θ hoo
   have HA2:=Θ hA2
   clear htk hbo hoo hA2 hZ1 eN eown esl hr hp hpo hpm hlk
   go_upto_region 7 with(fail)
   rw[←EN.out]
   refine Ωf (fun Z=>Blk Z N 67 #[.int .i64 p.id,.int .i64 p.role,.int .i64 p.pub]∧Only Ωa wr Z) HZ1.out ?_
   rintro Z1 ⟨bN,hO1⟩
   have cN:Z1.cell? ⟨N,0,none⟩=some (.int .i64 p.id):=bN.cell 0
   have hlk:=HLK.out _ hO1
   have HCN:=Θ bN
   have HO1:=Θ hO1
   clear hO1 bN HZ1 EN HLK r0 r1 r2
   obtain⟨wo,rfl⟩:∃wo:World,wo=wr:=⟨_,rfl⟩
   go_wp2_with fail
   go_step3
   go_wp2_with fail
   go_step3
   go_wp2_with fail
   clear hlk cN
   go_loopw [9,34] (fun ov i wi=>∃m:Nat,out=ov∧i= .int .i64 m∧m≤own.length∧Ωcf ag own=Ωcf ag (own.drop m)∧Only Ωa Z1 wi) (fun _ i _=>own.length-(intOf i).toNat)
   case atStart=>exact⟨0,rfl,rfl,Ωoh _,rfl,Only.refl _ _⟩
   case round=>
    obtain⟨m,rfl,rfl,hm,hfp,ho⟩:=hrel
    have HFP:=Θ hfp
    have HO:=Θ ho
    clear hfp ho
    by_cases hml:m<own.length
    ·obtain⟨v,hv⟩:∃v,own[m]? =some v:=⟨_,Ωnu hml⟩
     obtain⟨g2,o2,hA2',hg2,hr2⟩:=HA2.out m v hv
     subst hA2'
     have vo:=HOO.out v (ΩnE hv)
     have hl:=vo.head.root
     have im:(m:Int)<(own.length:Int):=by omega
     have im0:(0:Int)≤(m:Int):=by omega
     have hfd:=firstP_drop (ag:=ag) hv
     have hld:=ΩX (Ωu hr2 (HO1.out.trans HO.out)) hl
     have hst:=Ωc1 wr hl
     have hnw:=ΩbZ
     obtain⟨VA,eVA⟩:∃VA,VA=wr.heap.size:=⟨_,rfl⟩
     have hZ2:VtAt ((wr.alloc (.cells vt0C 43)).setCells VA 0 (vtC v)) VA v∧Only Ωa wr ((wr.alloc (.cells vt0C 43)).setCells VA 0 (vtC v)):=by
      rw[eVA]
      exact⟨Ωj (Blk.new wr tVt vt0C) (by rw[Ω0 hl];rfl),Ωb ((Only.refl _ _).alloc _) wr.heap.size 0 (.inr (Ωnv _)) _⟩
     have HZ2:=Θ hZ2
     have EVA:=Θ eVA
     have HVO:=Θ vo
     have HFD:=Θ hfd
     clear hZ2 eVA vo hfd hr2 hv
     go_upto_region 11 with(fail)
     rw[←EVA.out]
     refine Ωf (fun Z=>VtAt Z VA v∧Only Ωa wr Z) HZ2.out ?_
     rintro Z2 ⟨hva,hO2⟩
     have HVA:=Θ hva
     have HO2:=Θ (HO.out.trans hO2)
     clear hva hO2 HZ2 EVA hld hst hnw
     obtain⟨wo2,rfl⟩:∃wo2:World,wo2=wr:=⟨_,rfl⟩
     obtain⟨Ax,hAx⟩:∃Ax,(if cap2=m+1 then(some ⟨g2,o2,none⟩:Option Addr) else some ⟨g2,o2+(m+1)*36,none⟩)=Ax:=⟨_,rfl⟩
     have im1:((m:Int)+1)≤(own.length:Int):=by omega
     obtain⟨R,hR⟩:∃R,own.length-(m+1)=R:=⟨_,rfl⟩
     have hRl:R+(m+1)=own.length:=by omega
     have HIN:Hid (∀q u,own[m+1+q]? =some u→Ax=some ⟨g2,o2+(m+1)*36,none⟩∧wo.rangeAt g2 (o2+(m+1)*36+q*36) (vtC u)):=Θ (fun q u hu=>by
      have hlt2:=(Ωnx.1 hu).1
      obtain⟨g3,o3,e3,_,hr3⟩:=HA2.out _ u hu
      simp only[Option.some.injEq,Addr.mk.injEq,and_true] at e3
      obtain⟨rfl,rfl⟩:=e3
      refine⟨by rw[←hAx,ΩnU (by omega)],?_⟩
      have e4:o2+(m+1)*36+q*36=o2+(m+1+q)*36:=by omega
      rw[e4];exact hr3)
     have HRL:=Θ hRl
     go_wp2_with fail
     clear hAx im1 hR hRl
     go_loopw [9,44] (fun ov i wj=>∃q:Nat,out=ov∧i= .int .i64 q∧q≤R∧(own.drop (m+1)).find? (fun u=> !ag v.head u.head)=(own.drop (m+1+q)).find? (fun u=> !ag v.head u.head)∧Only Ωa Z2 wj) (fun _ i _=>R-(intOf i).toNat)
     case atStart=>exact⟨0,rfl,rfl,Ωoh _,rfl,Only.refl _ _⟩
     case round=>
      obtain⟨q,rfl,rfl,hq,hfi,hoj⟩:=hrel
      have HFI:=Θ hfi
      have HOJ:=Θ hoj
      clear hfi hoj
      have iR:(R:Int)≤9223372036854775807:=by have:=HRL.out;omega
      by_cases hql:q<R
      ·have hqo:m+1+q<own.length:=by have:=HRL.out;omega
       obtain⟨u,hu⟩:∃u,own[m+1+q]? =some u:=⟨_,Ωnu hqo⟩
       obtain⟨rfl,hru⟩:=HIN.out q u hu
       have uo:=HOO.out u (ΩnE hu)
       have hul:=uo.head.root
       have iq:(q:Int)<(R:Int):=by omega
       have iq0:(0:Int)≤(q:Int):=by omega
       have hfd2:=find_drop (p:=fun u=> !ag v.head u.head) hu
       have hld:=ΩX (Ωu hru (((HO1.out.trans HO2.out)).trans HOJ.out)) hul
       have hst:=Ωc1 wr hul
       have hnw:=ΩbZ
       obtain⟨VB,eVB⟩:∃VB,VB=wr.heap.size:=⟨_,rfl⟩
       have hZ3:VtAt ((wr.alloc (.cells vt0C 43)).setCells VB 0 (vtC u)) VB u∧Only Ωa wr ((wr.alloc (.cells vt0C 43)).setCells VB 0 (vtC u)):=by
        rw[eVB]
        exact⟨Ωj (Blk.new wr tVt vt0C) (by rw[Ω0 hul];rfl),Ωb ((Only.refl _ _).alloc _) wr.heap.size 0 (.inr (Ωnv _)) _⟩
       have HZ3:=Θ hZ3
       have EVB:=Θ eVB
       have HUO:=Θ uo
       have HFD2:=Θ hfd2
       clear hZ3 eVB uo hfd2 hru hu hqo
       go_upto_region 14 with(fail)
       rw[←EVB.out]
       refine Ωf (fun Z=>VtAt Z VB u∧Only Ωa wr Z) HZ3.out ?_
       rintro Z3 ⟨hvb,hO3⟩
       have HVB:=Θ hvb
       have HO3:=Θ (HOJ.out.trans hO3)
       clear hvb hO3 HZ3 EVB hld hst hnw
       have l1:=ΩC (Ω8 (Ωd (Blk.only HVA.out HO3.out (fun e=>e))) hl) hl
       have l2:=ΩC (Ω8 (Ωd HVB.out) hul) hul
       obtain⟨β,eβ⟩:∃β,β=ag v.head u.head:=⟨_,rfl⟩
       have hac:=HAG.out Z3 (B+1) (((HW0.out.trans HS.out.only).trans ((HO1.out.trans HO2.out))).trans HO3.out) ((((HS.out.only).trans (HO1.out.trans HO2.out)).trans HO3.out).cell_some HBX.out (fun e=>e)) v.head u.head HVO.out.head HUO.out.head
       rw[←eβ] at hac
       have HAC:=Θ hac
       have HEB:=Θ eβ
       clear hac eβ
       go_wp2_with fail
       refine HAC.out.mono ?_
       rintro e5 W5 ⟨rfl,ho5⟩
       have HO5:=Θ ho5
       clear ho5 HAC l1 l2
       cases β with
       |true=>
        have hn:(own.drop (m+1)).find? (fun u=> !ag v.head u.head)=(own.drop (m+1+(q+1))).find? (fun u=> !ag v.head u.head):=by
         rw[HFI.out,HFD2.out,←HEB.out];rfl
        have HN:=Θ hn
        have HON:=Θ (HO3.out.trans HO5.out)
        clear hn
        go_wp2_with fail
        go_roundw
        case rel=>exact⟨q+1,rfl,by go_num,by omega,HN.out,HON.out⟩
        case measure=>simp[intOf];omega
       |false=>
        have hfp2:Ωcf ag own=some (v,u):=by
         rw[HFP.out,HFD.out,HFI.out,HFD2.out,←HEB.out];rfl
        have hbl:ΩjC ag L p=some ⟨p.id,v,u⟩:=by rw[HBO.out,hfp2];rfl
        have htk2:Ωag ag L (O.take (k+1))=Ωag ag L (O.take k)++[⟨p.id,v,u⟩]:=by rw[HTK.out,hbl]
        have HTK2:=Θ htk2
        have hol2:(Ωag ag L (O.take k)).length≤1000:=Ωnz (ΩhO ag L _) (Ωnz (ΩoM _ _) (by omega))
        obtain⟨n0,en0⟩:∃n0,n0=(Ωag ag L (O.take k)).length :=⟨_,rfl⟩
        obtain⟨C0,eC0⟩:∃C0,C0=(Ωag ag L (O.take k)).flatMap blmC:=⟨_,rfl⟩
        obtain⟨TA,eTA⟩:∃T,T=vtT v:=⟨_,rfl⟩
        obtain⟨TB,eTB⟩:∃T,T=vtT u:=⟨_,rfl⟩
        have hZ5:Only Ωa wo W5:=((HO1.out.trans HO2.out).trans HO3.out).trans HO5.out
        have hown5:W5.ownsRow W0.heap.size 57 4 out n0 C0:=by rw[en0,eC0];exact Ωe HS.out.own hZ5 (fun _ _ e=>e)
        have hcells:(Ωag ag L (O.take (k+1))).flatMap blmC=C0++[.int .i64 p.id,.int .i64 44,.string TA,.string TB]:=by
         rw[htk2,Ωn2,eC0,eTA,eTB];rfl
        have hlen1:(Ωag ag L (O.take (k+1))).length =n0+1:=by rw[htk2,ΩnA,en0];rfl
        have hS5:ClR W0 N VA VB p v u W5:=⟨HCN.out.only ((HO2.out.trans HO3.out).trans HO5.out) (fun e=>e),Blk.only HVA.out (HO3.out.trans HO5.out) (fun e=>e),Blk.only HVB.out HO5.out (fun e=>e),HS.out.only.trans hZ5⟩
        have hS0:ClR W0 N VA VB p v u W5.drew:=hS5.keep (Only.refl _ _).drew
        have hW0:W5.drew.ownsRow W0.heap.size 57 4 out n0 C0:=hown5
        have c0:∀W,ClR W0 N VA VB p v u W→W.cell? ⟨N,0,none⟩=some (.int .i64 p.id):=fun W h=>h.p.cell 0
        have l1:∀W,ClR W0 N VA VB p v u W→(Ωbm (.pointer (some ⟨VA,0,none⟩))).run Tryz.prog W= .ok (.agg (vtC v).toArray) W:=fun W h=>ΩX (Ωd h.a) hl
        have l2:∀W,ClR W0 N VA VB p v u W→(Ωbm (.pointer (some ⟨VB,0,none⟩))).run Tryz.prog W= .ok (.agg (vtC u).toArray) W:=fun W h=>ΩX (Ωd h.b) hul
        have HKP:Hid (∀W W',ClR W0 N VA VB p v u W→Only Ωa W W'→ClR W0 N VA VB p v u W'):=Θ (fun W W' h ho=>h.keep ho)
        have HAL:Hid (∀W o,ClR W0 N VA VB p v u W→ClR W0 N VA VB p v u (W.alloc o)):=Θ (fun W o h=>h.keep ((Only.refl _ _).alloc o))
        have HOK2:Hid (∀W W' :World,W.ownsRow W0.heap.size 57 4 out n0 C0→Only Ωa W W'→W'.ownsRow W0.heap.size 57 4 out n0 C0):=Θ (fun W W' h ho=>Ωe h ho (fun _ _ e=>e))
        have HWA:Hid (∀W,ClR W0 N VA VB p v u W→Calls Tryz.prog 88 #[.agg (vtC v).toArray] W fun e w' =>e= .returned (.string TA)∧Only Ωa W w'):=Θ (fun W h=>by rw[eTA];exact Ωft v HVO.out W (HT.out.none (HW0.out.trans h.only)))
        have HWB:Hid (∀W,ClR W0 N VA VB p v u W→Calls Tryz.prog 88 #[.agg (vtC u).toArray] W fun e w' =>e= .returned (.string TB)∧Only Ωa W w'):=Θ (fun W h=>by rw[eTB];exact Ωft u HUO.out W (HT.out.none (HW0.out.trans h.only)))
        have HFN:Hid (∀W w2 g cap,ClR W0 N VA VB p v u W→W.ownsRow W0.heap.size 57 4 out n0 C0→w2.ownsRow W0.heap.size 57 4 (.slice (some ⟨g,0,none⟩) (n0+1) cap) (n0+1) (C0++[.int .i64 p.id,.int .i64 44,.string TA,.string TB])→(W.alloc (.cells #[.int .i64 p.id,.int .i64 44,.string TA,.string TB] 57)).grownBy w2 out.ownBlock→ClS W0 ag L O (k+1) (.slice (some ⟨g,0,none⟩) (n0+1) cap) w2∧ClR W0 N VA VB p v u w2):=Θ (fun W w2 g cap h how h1 h2=>by
         have h3:Only Ωa W0 w2:=(h.only.alloc _).grown h2 (fun j e=> .inr (ΩJ how e).1)
         refine⟨⟨?_,h3⟩,⟨(h.p.alloc _).grown h2 (Ne.symm (Ωi how h.p (by decide))),(Blk.alloc h.a _).grown h2 (Ne.symm (Ωi how h.a (by decide))),(Blk.alloc h.b _).grown h2 (Ne.symm (Ωi how h.b (by decide))),h3⟩⟩
         unfold ΩdS
         rw[hcells,hlen1]
         exact h1)
        have HSZ5:Hid (∀W,ClR W0 N VA VB p v u W→W0.heap.size≤W.heap.size):=Θ (fun W h=>h.only.size)
        have hn0:n0≤1000:=by rw[en0];exact hol2
        clear hfp2 hbl htk2 hol2 en0 eC0 eTA eTB hZ5 hown5 hcells hlen1 hS5
        go_upto_region 15 with(fail)
        go_region_held3 (fun W=>ClR W0 N VA VB p v u W) (first|(with_reducible assumption)|(with_reducible exact HAL.out _ _ (by with_reducible assumption)))
         (first
          |(refine step_append_lies _ (by rfl) _ _ _ (by rfl) W0.heap.size 57 ie z 4 48 Tryz.underlying54 HIE.out HZ.out HSZ.out HBY.out HZC.out (by omega) out n0 C0 (by rfl) (World.ownsRow.alloc (by with_reducible assumption) _) _ 1 1 [.int .i64 p.id,.int .i64 44,.string TA,.string TB] (by rfl) (by rfl) (World.news_of_block (cs:= #[.int .i64 p.id,.int .i64 44,.string TA,.string TB]) (t:=57) (fr:=(0,0)) (heap_alloc_new _ _)) (by simp[Value.oneCell']) (by omega) (by rw[Ωg];omega) (by omega) (HSZ5.out _ (by first|(with_reducible assumption)|(with_reducible exact HAL.out _ _ (by with_reducible assumption)))) _ rfl ?_;intro g2 cap2 w2 hown2 hgrow2 hat2 hlt2;have hNEW:=HFN.out _ w2 g2 cap2 (by with_reducible assumption) (by with_reducible assumption) hown2 hgrow2;have hNX:=hNEW.2;clear hown2 hgrow2 hat2 hlt2)
          |(go_at_call 88;(with_reducible refine(HWA.out _ (by assumption)).mono ?_);rintro e6 w6 ⟨rfl,ho6⟩;have hS6:=HKP.out _ _ (by with_reducible assumption) ho6;have hW6:=HOK2.out _ _ (by with_reducible assumption) ho6;clear ho6)
          |(go_at_call 88;(with_reducible refine(HWB.out _ (by assumption)).mono ?_);rintro e7 w7 ⟨rfl,ho7⟩;have hS7:=HKP.out _ _ (by with_reducible assumption) ho7;have hW7:=HOK2.out _ _ (by with_reducible assumption) ho7;clear ho7))
        have HNEW:=Θ hNEW.1
        clear hNEW hNX hS0 hW0 c0 l1 l2
        go_wp2_with fail
        first|rw[Exit.noGoto_exit]|rw[Exit.noGoto_normal]
        go_wp2_with fail
        go_roundw
        case rel=>exact⟨k+1,by go_num,by omega,HNEW.out⟩
        case measure=>simp[intOf];omega
      ·obtain rfl:q=R:=by omega
       have hn:Ωcf ag own=Ωcf ag (own.drop (m+1)):=by
        rw[HFP.out,HFD.out,HFI.out,Ωoi (by have:=HRL.out;omega)]
        rfl
       have HN:=Θ hn
       have HON:=Θ (HO2.out.trans HOJ.out)
       clear hn
       go_wp2_with fail
       go_roundw
       case rel=>exact⟨m+1,rfl,by go_num,by omega,HN.out,HON.out⟩
       case measure=>simp[intOf];omega
    ·obtain rfl:m=own.length:=by omega
     have hn:Ωag ag L (O.take (k+1))=Ωag ag L (O.take k):=by
      rw[HTK.out,HBO.out,HFP.out,List.drop_length,Ωfi]
      simp
     have hS2:ClS W0 ag L O (k+1) out wr:=by
      refine⟨?_,HS.out.only.trans (HO1.out.trans HO.out)⟩
      rw[hn]
      exact Ωe HS.out.own (HO1.out.trans HO.out) (fun _ _ e=>e)
     have HNEW:=Θ hS2
     clear hn hS2
     go_wp2_with fail
     rw[Exit.noGoto_normal]
     go_wp2_with fail
     go_roundw
     case rel=>exact⟨k+1,by go_num,by omega,HNEW.out⟩
     case measure=>simp[intOf];omega
  ·obtain rfl:k=O.length:=by omega
   have hown:=HS.out.own
   rw[Ωok] at hown
   have HR:Hid (ΩdS wr w.heap.size out (Ωag ag L O).length (Ωag ag L O)):=Θ (by have h0:=hown;unfold ΩdS at h0⊢;exact⟨h0.1,h0.2.imp id (fun⟨g,cap,cur,h1,h2,h3⟩=>⟨g,cap,cur,h1,Ωnz HW0.out.size h2,h3⟩)⟩)
   have HO:=Θ (HW0.out.trans HS.out.only)
   clear hown
   go_wp2_with fail
   go_ret
   exact⟨_,rfl,HR.out,HO.out⟩
end
section
open Go.RowKit Go.Shelf
noncomputable def agT:Hd→Hd→Bool:=agB (fun _ _=>true)
section
attribute [local go_sem ↓ high] ΩG
theorem ΩhS(a b:Hd)(w:World):Calls Tryz.prog 50 #[.agg (hdC a).toArray,.agg (hdC b).toArray] w fun e w' =>e= .returned (.bool true)∧Only Ωa w w' :=by
 go_enter Tryz.func50,Tryz.ntmps50
 go_wp2_with fail
 go_ret
 exact⟨rfl,((Only.refl _ _).alloc _).alloc _⟩
theorem agree_true(a b:Hd)(ha:a.Ok)(hb:b.Ok)(x:Nat)(w:World)(hx:w.cell? ⟨x,0,none⟩=some (.func (.func 50) #[] #[])):
  Calls Tryz.prog 85 #[.agg (hdC a).toArray,.agg (hdC b).toArray,.pointer (some ⟨x,0,none⟩)] w fun e w' =>e= .returned (.bool (agT a b))∧Only Ωa w w' :=by
 have hS:=AgS.new w a b
 obtain⟨B,eB⟩:∃B,B=w.heap.size:=⟨_,rfl⟩
 rw[←eB] at hS
 unfold agT
 rw[ΩeY]
 have q1:=fun W=>ΩmN a b ha.root hb.root W
 obtain⟨ε,eε⟩:∃ε,ε=eqHd a b:=⟨_,rfl⟩
 rw[←eε] at q1
 rw[←eε]
 obtain⟨ρ,eρ⟩:∃ρ,ρ=(if ε=true then true else if a.size=b.size then false else if a.size<b.size then true else true):=⟨_,rfl⟩
 rw[←eρ]
 have HRO:=Θ eρ
 have la:=ha.root
 have lb:=hb.root
 have HS:=Θ hS
 have HX:=Θ hx
 have EB:=Θ eB
 clear hS hx eB eε eρ
 go_enter Tryz.func85,Tryz.ntmps85
 go_upto_region 1 with(fail)
 rw[←EB.out]
 refine Ωf (fun Z=>AgS w B a b Z∧Z.cell? ⟨x,0,none⟩=some (.func (.func 50) #[] #[])) ⟨HS.out,HS.out.only.cell_some HX.out (fun e=>e)⟩ ?_
 rintro Z ⟨hZ,cx⟩
 have l1:=ΩC (Ωd hZ.a) la
 have l2:=ΩC (Ωd hZ.b) lb
 have z1:Z.cell? ⟨B,0,none⟩=some (.int .i64 a.size):=Blk.cell hZ.a 0
 have z2:Z.cell? ⟨B+1,0,none⟩=some (.int .i64 b.size):=Blk.cell hZ.b 0
 have HO:=Θ hZ.only
 clear hZ HS HX EB
 cases ε with
 |true=>
  have HR:Hid (ρ=true):=Θ (by rw[HRO.out,ΩnV rfl])
  go_wp2_with fail
  go_ret
  exact⟨Ωad HR.out.symm,HO.out⟩
 |false=>
  have q2:=func_nil
  by_cases hs:a.size=b.size
  ·have d1:(a.size==b.size)=true:=by simp[hs]
   have HR:Hid (ρ=false):=Θ (by rw[HRO.out];simp[hs])
   clear hs
   go_wp2_with fail
   go_ret
   exact⟨Ωad HR.out.symm,HO.out⟩
  ·have d1:(a.size==b.size)=false:=by simp[hs]
   have HR:Hid (ρ=true):=Θ (by rw[HRO.out];simp[hs])
   have HA1:=Θ (fun W=>ΩhS a b W)
   have HA2:=Θ (fun W=>ΩhS b a W)
   by_cases hl:a.size<b.size
   ·have d2:decide (a.size<b.size)=true:=ΩnG hl
    clear hs
    go_wp2_with fail
    refine(HA1.out _).mono ?_
    rintro e1 w1 ⟨rfl,ho1⟩
    have HO1:=Θ (HO.out.trans ho1)
    clear ho1
    go_wp2_with fail
    go_ret
    exact⟨Ωad HR.out.symm,HO1.out⟩
   ·have d2:decide (a.size<b.size)=false:=Ωny hl
    clear hs
    go_wp2_with fail
    refine(HA2.out _).mono ?_
    rintro e1 w1 ⟨rfl,ho1⟩
    have HO1:=Θ (HO.out.trans ho1)
    clear ho1
    go_wp2_with fail
    go_ret
    exact⟨Ωad HR.out.symm,HO1.out⟩
end
attribute [local go_sem ↓ high] Ωbh
noncomputable def blL(P:List Pers)(M:List Vt):List Blm:=ΩhP agT P M
theorem blames_own(w0:World)(ht:Tab w0)(c:Cli)(base:Nat)(hP:ΩS c.P)(hlen:c.P.length≤1000)(hn:c.votes.length≤100000)(w:World)(how:Only Ωa w0 w)(h:Ωv w base c):
  Calls Tryz.prog 20 #[.pointer (some ⟨c.C,0,none⟩)] w fun e w' =>∃ov,e= .returned ov∧ΩdS w' w.heap.size ov (blL c.P c.votes).length (blL c.P c.votes)∧Only Ωa w w' :=by
 have hcl:∀W,Only Ωa w W→Calls Tryz.prog 49 #[setV c.pv,c.vv,.func (.func 50) #[] #[]] W fun e w' =>∃ov,e= .returned ov∧ΩdS w' w.heap.size ov (blL c.P c.votes).length (blL c.P c.votes)∧Only Ωa W w' :=fun W ho=>by
  have hc:=h.nn ho
  exact(clash_own c.P hP hlen c.pv c.votes hc.ok hn c.vv (.func (.func 50) #[] #[]) rfl agT W (ΩT.sl hc.pers) (ΩH.sl hc.votes hc.ok) (ht.none (how.trans ho)) (fun W' x ho' hx a b ha hb=>agree_true a b ha hb x W' hx)).mono (fun _ _ ⟨ov,h1,h2,h3⟩=>⟨ov,h1,ΩE h2 ho.size,h3⟩)
 have HCL:=Θ hcl
 have HH:=Θ h
 clear hcl h ht how
 go_enter Tryz.func20,Tryz.ntmps20
 go_upto_region 3 with(fail)
 obtain⟨ft,hfx⟩:=Ωbp (fun W=>Ωv W base c∧Only Ωa w W) (W0:=w.drew) ⟨HH.out.nn (Only.refl Ωa w).drew,(Only.refl Ωa w).drew⟩
 obtain⟨F,hI,hF0,hF,hFS⟩:=hfx
 have f1:∀x,(Ωge (.pointer (some ⟨c.C,1,none⟩))).run Tryz.prog (F x)= .ok (setV c.pv) (F x):=fun x=>ΩcH (Ωg2 (hFS x).1.blk)
 have f2:∀x,(F x).cell? ⟨c.C,42,none⟩=some c.vv:=fun x=>Ωg1 (hFS x).1.blk (hFS x).1.hok.root
 have HF:=Θ hF
 have HF0:=Θ hF0
 clear hF hF0 hFS
 refine Ωs F 8 (by kernel_rfl) (by kernel_rfl) HF0.out ?_
 simp only[Ωoc,Ωoz,Ωon,List.drop_zero]
 repeat(go_big_quiet_step (fail))
 refine wpQuiet_nil ?_
 intro w9 hw9
 have H9:=Θ ((HF.out w9).2 hw9)
 clear hw9 f1 f2
 go_wp2_with fail
 refine(HCL.out _ H9.out.2).mono ?_
 rintro e5 w5 ⟨ov,rfl,hov,ho5⟩
 have HF5:=Θ (And.intro hov (H9.out.2.trans ho5))
 clear hov ho5
 go_wp2_with fail
 go_ret
 exact⟨_,rfl,HF5.out.1,HF5.out.2⟩
theorem ΩhQ(w0:World)(ht:Tab w0)(c:Cli)(base:Nat)(hP:ΩS c.P)(hlen:c.P.length≤1000)(hn:c.votes.length≤100000)(w:World)(how:Only Ωa w0 w)(h:Ωv w base c):
  Calls Tryz.prog 20 #[.pointer (some ⟨c.C,0,none⟩)] w fun e w' =>∃ov,e= .returned ov∧BlSl w' ov (blL c.P c.votes)∧Only Ωa w w' :=
 (blames_own w0 ht c base hP hlen hn w how h).mono (fun _ _ ⟨ov,h1,h2,h3⟩=>⟨ov,h1,h2.sl,h3⟩)
theorem safe_any(w0:World)(ht:Tab w0)(c:Cli)(base:Nat)(hP:ΩS c.P)(hlen:c.P.length≤1000)(hn:c.votes.length≤100000)(w:World)(how:Only Ωa w0 w)(h:Ωv w base c):
  Calls Tryz.prog 22 #[.pointer (some ⟨c.C,0,none⟩)] w fun e w' =>e= .returned (.bool (c.rc&&(blL c.P c.votes).isEmpty))∧Only Ωa w w' :=by
 have hbl:=ΩhQ w0 ht c base hP hlen hn w how h
 have c44:w.cell? ⟨c.C,44,none⟩=some (.bool c.rc):=Ωmc h.blk h.hok.root
 have HB:=Θ hbl
 clear hbl h ht how
 cases hrc:c.rc with
 |false=>
  rw[hrc] at c44
  clear hrc
  go_enter Tryz.func22,Tryz.ntmps22
  go_wp2_with fail
  go_ret
  exact⟨rfl,Only.refl _ _⟩
 |true=>
  rw[hrc] at c44
  clear hrc
  go_enter Tryz.func22,Tryz.ntmps22
  go_wp2_with fail
  refine HB.out.mono ?_
  rintro e5 w5 ⟨ov,rfl,hov,ho5⟩
  obtain⟨A,cap,rfl,hc1,hc2,_⟩:=hov
  obtain⟨n,en⟩:∃n,n=(blL c.P c.votes).length :=⟨_,rfl⟩
  have hem:(blL c.P c.votes).isEmpty =((n:Int)==0):=by
   rw[en,Ωoy,List.isEmpty_iff,beq_iff_eq]
   constructor
   ·intro h;rw[h];rfl
   ·intro h;exact ΩnZ (by omega)
  rw[←en] at hc1⊢
  have HE:=Θ hem
  have HO:=Θ ho5
  clear en hem ho5
  go_wp2_with fail
  go_ret
  exact⟨Ωad (by rw[HE.out];rfl),HO.out⟩
end
section
open Go.RowKit Go.Shelf
theorem pers_cells{w:World}{g o:Nat}{L:List Pers}(h:∀(i:Nat) (e:Pers),L[i]? =some e→w.rangeAt g (o+i*3) (Ωbx e)):∀j u,(L.flatMap Ωbx)[j]? =some u→w.cell? ((⟨g,o,none⟩:Addr).add j)=some u:=fun j u hj=>by
 have hlt:=(Ωnx.1 hj).1
 rw[ΩfX Ωex] at hlt
 obtain⟨e,he⟩:∃e,L[j/3]? =some e:=⟨_,Ωnu (by omega)⟩
 have h1:=Ωit Ωex L (j/3) (j%3) (ΩoL _ (by omega)) e he
 rw[show j/3*3+j%3=j by omega] at h1
 rw[h1] at hj
 have h2:=h (j/3) e he (j%3) u hj
 rw[show o+j/3*3+j%3=o+j by omega] at h2
 rw[ΩoK]
 exact h2
theorem pers_one(L:List Pers):∀u∈L.flatMap Ωbx,u.oneCell' =true:=fun u hu=>by
 obtain⟨v,_,hv⟩:=List.mem_flatMap.1 hu
 simp only[Ωbx,Ωn3,Ωol,or_false] at hv
 rcases hv with rfl|rfl|rfl<;>rfl
theorem pclone_any(L:List Pers)(hlen:L.length≤100000)(sv:Value)(w:World)(hs:Ωa6 w sv L):
  Calls Tryz.prog 43 #[sv] w fun e w' =>∃rv,e= .returned rv∧ΩT w' w.heap.size rv L.length L∧Only Ωa w w' :=by
 obtain⟨ie,z,hie,hsz,hz,hzc,hby⟩:=Ωcr
 obtain⟨A,cap,rfl,hlc,hcm,hA⟩:=hs
 cases A with
 |none=>
  have h0:L=[]:=by
   cases L with
   |nil=>rfl
   |cons x l=>
    obtain⟨g,o,hA',_⟩:=hA 0 x rfl
    cases hA'
  subst h0
  have heq:=fun W=>Lib.run_eql_slice_nil (P:=Tryz.prog) W 46 67 none 0 cap 0 0 Tryz.underlying46
  clear hA hlc
  go_enter Tryz.func43,Tryz.ntmps43
  go_wp2_with fail
  go_ret
  exact⟨_,rfl,⟨rfl,.inl ⟨rfl,rfl⟩⟩,Only.refl _ _⟩
 |some a=>
  obtain⟨g,o,q⟩:=a
  have heq:=fun W=>Lib.run_eql_slice_nil (P:=Tryz.prog) W 46 67 (some ⟨g,o,q⟩) L.length cap 0 0 Tryz.underlying46
  have hnews:∀j u,(L.flatMap Ωbx)[j]? =some u→(w.alloc (.cells #[] 67)).cell? ((⟨g,o,q⟩:Addr).add j)=some u:=fun j u hj=>by
   cases L with
   |nil=>simp at hj
   |cons x l=>
    obtain⟨g',o',hA',_⟩:=hA 0 x rfl
    cases hA'
    have h1:=pers_cells (w:=w) (g:=g) (o:=o) (fun i e he=>by
     obtain⟨g2,o2,hA2,_,hr⟩:=hA i e he
     cases hA2
     exact hr) j u hj
    exact((Only.refl Ωa w).alloc _).cell_some h1 (fun e=>e)
  have hown0:(w.alloc (.cells #[] 67)).ownsRow w.heap.size 67 3 (.slice (some ⟨w.heap.size,0,none⟩) 0 0) 0 []:=
   ⟨rfl,.inr ⟨w.heap.size,0,#[],rfl,Ωnv _,Blk.new w _ _,Ωnv _,by rw[Ωg];omega,rfl,rfl⟩⟩
  have hll:=ΩfX Ωex L
  have HN:=Θ hnews
  have HOWN:=Θ hown0
  have HLL:=Θ hll
  clear hA hnews hown0 hll
  go_enter Tryz.func43,Tryz.ntmps43
  go_upto_region 3 with(fail)
  clear heq
  go_wp2_with (first
   |(at_builtin;refine wpList_append_own_at _ rfl _ _ 46 rfl w.heap.size 67 ie z 3 24 Tryz.underlying46 hie hz hsz hby hzc (by omega) _ 0 [] rfl HOWN.out ⟨g,o,q⟩ L.length cap (L.flatMap Ωbx) rfl HLL.out HN.out (pers_one L) (by rw[Ωg];omega) (by rw[ΩnR];omega) (by simp) ?_;intro v' w1 hown1 hgrow1 hnil1 hloc1))
  have hO:Only Ωa w w1:=((Only.refl Ωa w).alloc _).grown hgrow1 (fun j e=>by cases e;exact .inr (Ωnv _))
  rw[ΩnR,ΩoD] at hown1
  have HW:=Θ hown1
  have HO:=Θ hO
  clear hown1 hgrow1 hnil1 hloc1 hO
  go_wp2_with fail
  go_ret
  exact⟨_,rfl,HW.out,HO.out⟩
attribute [local go_sem ↓ high] Ωbh
def Ωnj(parts:Array (Nat×Value)):Sem Value:=Instr.build 100 parts
theorem cliBd_eq(parts:Array (Nat×Value)):Instr.build 100 parts=Ωnj parts:=rfl
attribute [local go_sem ↓ high] cliBd_eq
def Ωfy(C:Nat)(id:Int)(pv:Value)(P:List Pers):Cli:=⟨C,id,pv,P,false,⟨#[]⟩,hd0,.slice none 0 0,[],.map none,[],false⟩
theorem cliBd_built(id:Int)(A:Option Addr)(n cap:Nat):Tryz.prog.built 100 [(0,.int .i64 id),(1,.agg #[.slice A n cap,.int .i64 0,.slice none 0 0,.slice none 0 0,.int .i64 0,.int .i64 0])]=some (cliC (Ωfy 0 id (.slice A n cap) [])).toArray :=by kernel_rfl
theorem cliBd_run(id:Int)(A:Option Addr)(n cap:Nat)(W:World):(Ωnj #[(0,.int .i64 id),(1,.agg #[.slice A n cap,.int .i64 0,.slice none 0 0,.slice none 0 0,.int .i64 0,.int .i64 0])]).run Tryz.prog W= .ok (.agg (cliC (Ωfy 0 id (.slice A n cap) [])).toArray) W:=
 run_build (P:=Tryz.prog) W 100 _ _ (cliBd_built id A n cap)
theorem cliNew_cells(C D:Nat)(id:Int)(pv:Value)(P Q:List Pers):cliC (Ωfy C id pv P)=cliC (Ωfy D id pv Q):=rfl
theorem cliNew_at{W:World}{base:Nat}{id:Int}{pv:Value}{P:List Pers}(hp:ΩT W base pv P.length P)(hb:base≤W.heap.size):Ωv (W.alloc (.cells (cliC (Ωfy 0 id pv [])).toArray 100)) base (Ωfy W.heap.size id pv P):=
 ⟨by rw[cliNew_cells W.heap.size 0 id pv P []];exact Blk.new W _ _,hb,⟨⟨by show(-9223372036854775808:Int)≤0;omega,by show(0:Int)≤9223372036854775807;omega⟩,ΩkK⟩,Ωe hp ((Only.refl Ωa _).alloc _) (fun _ _ e=>e),⟨rfl,.inl ⟨rfl,rfl⟩⟩,fun v hv=>by(cases hv),.inl ⟨rfl,rfl⟩,fun v hv=>by(cases hv)⟩
theorem new_any(id:Int)(P:List Pers)(hlen:P.length≤1000)(pv:Value)(w:World)(hp:Ωa6 w pv P):
  Calls Tryz.prog 17 #[.int .i64 id,setV pv] w fun e w' =>∃C pw,e= .returned (.pointer (some ⟨C,0,none⟩))∧Ωv w' w.heap.size (Ωfy C id pw P)∧Only Ωa w w' :=by
 obtain⟨A,cap,rfl,hc1,hc2,_⟩:=_root_.id hp
 have hcl:∀W,Only Ωa w W→Calls Tryz.prog 43 #[.slice A P.length cap] W fun e w' =>∃rv,e= .returned rv∧ΩT w' W.heap.size rv P.length P∧Only Ωa W w' :=fun W ho=>pclone_any P (by omega) _ W (hp.only ho)
 have hb0:Blk (w.alloc (.cells #[.slice A P.length cap,.int .i64 0,.slice none 0 0,.slice none 0 0,.int .i64 0,.int .i64 0] 50)) w.heap.size tSu #[.slice A P.length cap,.int .i64 0,.slice none 0 0,.slice none 0 0,.int .i64 0,.int .i64 0]:=Blk.new w _ _
 obtain⟨B,eB⟩:∃B,B=w.heap.size:=⟨_,rfl⟩
 rw[←eB] at hb0
 have hwB:w.heap.size≤B:=by omega
 have HCL:=Θ hcl
 have HB0:=Θ hb0
 have EB:=Θ eB
 have hbd:=cliBd_run id
 clear hcl hb0 eB hp
 unfold setV
 go_enter Tryz.func17,Tryz.ntmps17
 go_upto_region 1 with(fail)
 rw[←EB.out]
 refine Ωf (fun Z=>Blk Z B tSu #[.slice A P.length cap,.int .i64 0,.slice none 0 0,.slice none 0 0,.int .i64 0,.int .i64 0]∧Only Ωa w Z) ⟨HB0.out,(Only.refl _ _).alloc _⟩ ?_
 clear HB0
 rintro Z ⟨hB,hO⟩
 have c0:Z.cell? ⟨B,0,none⟩=some (.slice A P.length cap):=hB.cell 0
 have HZ:=Θ (And.intro hB hO)
 clear hB hO
 go_wp2_with fail
 refine(HCL.out _ HZ.out.2).mono ?_
 rintro e5 w5 ⟨rv,rfl,hrv,ho5⟩
 obtain⟨rA,rcap,rfl,_,_⟩:=Ωt hrv
 have hB5:=HZ.out.1.only ho5 (fun e=>e)
 have d0:w5.cell? ⟨B,0,none⟩=some (.slice A P.length cap):=hB5.cell 0
 have f0:=hB5.frozen 0
 have hB6:=Blk.set_ hB5 0 (.slice rA P.length rcap)
 have hne:(Value.slice rA P.length rcap).ownBlock≠some B:=Ωi hrv hB5 (by decide)
 have hown6:ΩT (w5.setCell ⟨B,0,none⟩ (.slice rA P.length rcap)) w.heap.size (.slice rA P.length rcap) P.length P:=ΩE (Ωgv hrv (p:=⟨B,0,none⟩) hne _) HZ.out.2.size
 have ho6:Only Ωa w (w5.setCell ⟨B,0,none⟩ (.slice rA P.length rcap)):=(HZ.out.2.trans ho5).setCell (p:=⟨B,0,none⟩) (.inr hwB) _
 have H6:=Θ (And.intro hB6 (And.intro hown6 ho6))
 clear hB5 hB6 hne hown6 ho6 hrv ho5 c0 HZ
 go_upto_region 2 with(fail)
 refine Ωf (fun W=>Blk W B tSu #[.slice rA P.length rcap,.int .i64 0,.slice none 0 0,.slice none 0 0,.int .i64 0,.int .i64 0]∧ΩT W w.heap.size (.slice rA P.length rcap) P.length P∧Only Ωa w W) H6.out ?_
 clear H6 d0 f0
 rintro Y ⟨hY,hYO,hO⟩
 have hl:=ΩcH (g:=B) (o:=0) (pv:= .slice rA P.length rcap) (Ωd hY)
 unfold setV at hl
 have hfin:=cliNew_at (id:=id) hYO hO.size
 have HF:=Θ (And.intro hfin (hO.alloc (.cells (cliC (Ωfy 0 id (.slice rA P.length rcap) [])).toArray 100)))
 clear hY hYO hO hfin
 go_wp2_with fail
 go_ret
 exact⟨_,_,rfl,HF.out.1,HF.out.2⟩
end
section
open Go.RowKit Go.Shelf
attribute [local go_sem ↓ high] Ωcm
theorem setup_own(n:Int)(hn:In n)(w:World):Calls Tryz.prog 44 #[.int .i64 n,.bool false] w fun e' w' =>∃pv,e' = .returned (setV pv)∧ΩT w' w.heap.size pv (nOff n+1) (setB (nOff n))∧Only Ωa w w' :=by
 obtain⟨ie,z,hie,hsz,hz,hzc,hby⟩:=Ωcr
 obtain⟨n0,n1⟩:=hn
 obtain⟨R,eR⟩:∃R,R=w.heap.size:=⟨_,rfl⟩
 obtain⟨G,eG⟩:∃G,G=R+1:=⟨_,rfl⟩
 obtain⟨V,eV⟩:∃V,V=G+1:=⟨_,rfl⟩
 obtain⟨pc,epc⟩:∃x:Int,x=(pub (secI 50):Int):=⟨_,rfl⟩
 obtain⟨X,eX⟩:∃X,X=(((w.alloc (.cells #[.slice none 0 0,.int .i64 0,.slice none 0 0,.slice none 0 0,.int .i64 0,.int .i64 0] 50)).alloc (.cells #[.int .i64 50,.int .i64 1,.int .i64 pc] 67)).alloc (.cells #[.slice none 0 0,.int .i64 0,.slice none 0 0,.slice none 0 0,.int .i64 0,.int .i64 0] 50)).setCells V 0 [.slice (some ⟨G,0,none⟩) 1 1,.int .i64 0,.slice none 0 0,.slice none 0 0,.int .i64 0,.int .i64 0]:=⟨_,rfl⟩
 have h3:Blk (((w.alloc (.cells #[.slice none 0 0,.int .i64 0,.slice none 0 0,.slice none 0 0,.int .i64 0,.int .i64 0] 50)).alloc (.cells #[.int .i64 50,.int .i64 1,.int .i64 pc] 67)).alloc (.cells #[.slice none 0 0,.int .i64 0,.slice none 0 0,.slice none 0 0,.int .i64 0,.int .i64 0] 50)) V tSu #[.slice none 0 0,.int .i64 0,.slice none 0 0,.slice none 0 0,.int .i64 0,.int .i64 0]:=by
  have h3:=Blk.new ((w.alloc (.cells #[.slice none 0 0,.int .i64 0,.slice none 0 0,.slice none 0 0,.int .i64 0,.int .i64 0] 50)).alloc (.cells #[.int .i64 50,.int .i64 1,.int .i64 pc] 67)) tSu #[.slice none 0 0,.int .i64 0,.slice none 0 0,.slice none 0 0,.int .i64 0,.int .i64 0]
  rw[Ωnw,Ωnw,←eR,←eG,←eV] at h3
  exact h3
 have hst0:=ΩfL (n:=1) (c:=1) (A:=some ⟨G,0,none⟩) h3 rfl
 have hs0:StS w R V 0 (.slice (some ⟨G,0,none⟩) 1 1) X:=by
  have h2:=Blk.new (w.alloc (.cells #[.slice none 0 0,.int .i64 0,.slice none 0 0,.slice none 0 0,.int .i64 0,.int .i64 0] 50)) 67 #[.int .i64 50,.int .i64 1,.int .i64 pc]
  rw[Ωnw,←eR,←eG] at h2
  refine⟨by rw[eX];exact Blk.farCells (by omega) _ 0 (by rw[eR];exact((Blk.new w _ _).alloc _).alloc _),by rw[eX];exact Ωj h3 rfl,⟨rfl,.inr ⟨G,1,#[.int .i64 50,.int .i64 1,.int .i64 pc],rfl,by omega,by rw[eX];exact Blk.farCells (by omega) _ 0 (h2.alloc _),Ωnv _,by rw[Ωg];omega,rfl,?_⟩⟩,by rw[eX];exact Ωb ((((Only.refl _ _).alloc _).alloc _).alloc _) V 0 (.inr (by omega)) _⟩
  rw[epc]
  rfl
 have hsec:=fun W=>Ωcn 50 (by omega) (by omega) W
 have hpub:∀W,Calls Tryz.prog 45 #[.int .i64 (secI 50)] W fun e' w' =>e' = .returned (.int .i64 pc)∧w' =W:=fun W=>by rw[epc];exact ΩfN _ W
 have HS0:=Θ hs0
 have HSEC:=Θ hsec
 have HPUB:=Θ hpub
 have HIE:=Θ hie
 have HSZ:=Θ hsz
 have HZ:=Θ hz
 have HZC:=Θ hzc
 have HBY:=Θ hby
 have EX:=Θ eX
 have ER:=Θ eR
 have EG:=Θ eG
 have EV:=Θ eV
 have hwR:w.heap.size≤R∧R≠V∧w.heap.size≤V:=by omega
 obtain⟨hwR1,hRV,hwV⟩:=hwR
 rw[eG,eV,eG,eR] at hst0
 clear hs0 hsec hpub hie hsz hz hzc hby eX eR eG eV epc h3
 unfold setV
 go_enter Tryz.func44,Tryz.ntmps44
 go_wp2_with fail
 refine(HSEC.out _).mono ?_
 rintro e1 w1 ⟨rfl,rfl⟩
 go_wp2_with fail
 refine(HPUB.out _).mono ?_
 rintro e2 w2 ⟨rfl,rfl⟩
 go_upto_region 2 with(fail)
 clear hst0
 rw[←ER.out,←EG.out,←EV.out,←EX.out]
 clear HSEC HPUB
 refine Ωf (StS w R V 0 (.slice (some ⟨G,0,none⟩) 1 1)) HS0.out ?_
 intro Y hY
 have HY:=Θ hY
 clear hY HS0
 go_wp2_with fail
 go_loopw [6] (fun i wr=>∃(q:Nat) (pv:Value),i= .int .i64 (q:Int)∧1≤q∧q≤nOff n+1∧StS w R V (q-1) pv wr) (fun i _=>14-(intOf i).toNat)
 case atStart=>exact⟨1,_,rfl,by omega,by omega,HY.out⟩
 case round=>
  obtain⟨q,pv,rfl,hq1,hq2,hS⟩:=hrel
  have hno:=nOff_le n
  by_cases hlt:q≤nOff n
  ·have hle:(q:Int)≤min n 13:=by unfold nOff at hlt;omega
   obtain⟨m,rfl⟩:∃m,q=m+1:=⟨q-1,by omega⟩
   rw[Nat.add_sub_cancel] at hS
   obtain⟨k,ek⟩:∃k:Nat,k=m+1:=⟨_,rfl⟩
   rw[←ek] at hle⊢
   obtain⟨pk,epk⟩:∃x:Int,x=(pub (secI k):Int):=⟨_,rfl⟩
   have hpc:Ωbx (Ωhj k)=[.int .i64 (k:Int),.int .i64 2,.int .i64 pk]:=by rw[epk];rfl
   have hsec:∀W,Calls Tryz.prog 39 #[.int .i64 (k:Int)] W fun e' w' =>e' = .returned (.int .i64 (secI (k:Int)))∧w' =W:=fun W=>Ωcn (k:Int) (by omega) (by omega) W
   have hpub:∀W,Calls Tryz.prog 45 #[.int .i64 (secI (k:Int))] W fun e' w' =>e' = .returned (.int .i64 pk)∧w' =W:=fun W=>by rw[epk];exact ΩfN _ W
   have hcells:(setB (m+1)).flatMap Ωbx=(setB m).flatMap Ωbx++[.int .i64 (k:Int),.int .i64 2,.int .i64 pk]:=by
    rw[setB_snoc,Ωn2,ΩnW,List.flatMap_nil,Ωox,←ek,hpc]
   have c0:wr.cell? ⟨V,0,none⟩=some pv:=hS.st.cell 0
   have HS:=Θ hS
   have HSEC:=Θ hsec
   have HPUB:=Θ hpub
   have HCELLS:=Θ hcells
   have hall:∀o,((wr.alloc o).drew).ownsRow w.heap.size 67 3 pv (m+1) ((setB m).flatMap Ωbx):=fun o=>World.ownsRow.alloc HS.out.own o
   have hne:pv.ownBlock≠some V:=Ωi HS.out.own HS.out.st (by decide)
   have hneR:pv.ownBlock≠some R:=Ωi HS.out.own HS.out.res (by decide)
   have hgr:∀o w1,(((wr.alloc o).drew).grownBy w1 pv.ownBlock)→Blk w1 V tSu #[pv,.int .i64 0,.slice none 0 0,.slice none 0 0,.int .i64 0,.int .i64 0]∧Blk w1 R tSu #[.slice none 0 0,.int .i64 0,.slice none 0 0,.slice none 0 0,.int .i64 0,.int .i64 0]∧Only Ωa w w1:=fun o w1 hg=>
    ⟨((HS.out.st.alloc o).drew).grown hg (Ne.symm hne),((HS.out.res.alloc o).drew).grown hg (Ne.symm hneR),((HS.out.only.alloc o).drew).grown hg (fun j e=> .inr (ΩJ HS.out.own e).1)⟩
   have HALL:=Θ hall
   have HGR:=Θ hgr
   have HSZZ:=Θ HS.out.only.size
   have ca:∀o,(wr.alloc o).cell? ⟨V,0,none⟩=some pv:=fun o=>(HS.out.st.alloc o).cell 0
   have HEK:=Θ ek
   have hkm:k≤13∧m≤12:=by omega
   obtain⟨hk13,hm12⟩:=hkm
   clear hS hsec hpub hcells hpc hall hne hneR hgr epk ek hq1 hq2 hlt
   go_upto_region 5 with(fail)
   go_region_law (first
    |(refine step_append_lies _ (by rfl) _ _ _ (by rfl) w.heap.size 67 ie z 3 24 Tryz.underlying46 HIE.out HZ.out HSZ.out HBY.out HZC.out (by omega) pv (m+1) ((setB m).flatMap Ωbx) (by rfl) (HALL.out _) ⟨wr.heap.size,0,none⟩ 1 1 [.int .i64 (k:Int),.int .i64 2,.int .i64 pk] (by rfl) (by rfl) (World.news_of_block (cs:= #[.int .i64 (k:Int),.int .i64 2,.int .i64 pk]) (t:=67) (fr:=(0,0)) (heap_alloc_new wr _)) (by simp[Value.oneCell']) (by omega) (by rw[Ωg];omega) (by omega) (by have:=HSZZ.out;simp;omega) (wr.heap.size+1) (by simp) ?_;intro g cap w1 hown1 hgrow hat hlt1;have hb1:=HGR.out _ w1 hgrow;have hf1:=hb1.1.frozen 0;have hc1:=hb1.1.cell 0;simp only[ΩnC,ΩnF] at hc1)
    |(go_simp;go_at_call 39;refine(HSEC.out _).mono ?_;rintro e1 w3 ⟨rfl,rfl⟩)
    |(go_simp;go_at_call 45;refine(HPUB.out _).mono ?_;rintro e2 w2 ⟨rfl,rfl⟩))
   all_goals
    have hgne:(Value.slice (some ⟨g,0,none⟩) (m+1+1) cap).ownBlock≠some V:=Ωi hown1 hb1.1 (by decide)
    have hnew:StS w R V (m+1) (.slice (some ⟨g,0,none⟩) (m+1+1) cap) (w1.setCell ⟨V,0,none⟩ (.slice (some ⟨g,0,none⟩) (m+1+1) cap)):=by
     refine⟨Blk.far (p:=⟨V,0,none⟩) hb1.2.1 hRV _,Blk.set_ hb1.1 0 _,?_,hb1.2.2.setCell (p:=⟨V,0,none⟩) (.inr hwV) _⟩
     unfold ΩT
     rw[HCELLS.out]
     exact Ωgv hown1 (p:=⟨V,0,none⟩) hgne _
    have HNEW:=Θ hnew
    clear hb1 hgne hnew hown1 hgrow hat hlt1 hf1 hc1 ca c0
    go_wp2_with fail
    go_roundw
    case rel=>exact⟨k+1,_,by go_num,by omega,by have:=HEK.out;unfold nOff;omega,by rw[Nat.add_sub_cancel,HEK.out];exact HNEW.out⟩
    case measure=>simp[intOf];omega
  ·have hqe:q=nOff n+1:=by omega
   have hle:¬(q:Int)≤min n 13:=by rw[hqe];unfold nOff;omega
   rw[hqe,Nat.add_sub_cancel] at hS
   have hsl:Ωa6 wr pv (setB (nOff n)):=ΩT.sl (by rw[Ωh9];exact hS.own)
   obtain⟨N,eN⟩:∃N,N=nOff n+1:=⟨_,rfl⟩
   have hown:=hS.own
   rw[←eN] at hown
   obtain⟨pA,pcap,rfl,_,_⟩:=Ωt hown
   have r0:=hS.res.cell 0
   have r1:=hS.res.cell 1
   have r2:=hS.res.cell 2
   have r3:=hS.res.cell 3
   have r4:=hS.res.cell 4
   have r5:=hS.res.cell 5
   have c0:=hS.st.cell 0
   have c1:=hS.st.cell 1
   have c2:=hS.st.cell 2
   have c3:=hS.st.cell 3
   have c4:=hS.st.cell 4
   have c5:=hS.st.cell 5
   simp only[ΩnC,ΩnF,ΩnK] at c0 c1 c2 c3 c4 c5 r0 r1 r2 r3 r4 r5
   have hinf:(Tryz.prog.info? tSu).map (·.size)=some 6:=by kernel_rfl
   have hb2:Blk (wr.setCells R 0 [.slice pA N pcap,.int .i64 0,.slice none 0 0,.slice none 0 0,.int .i64 0,.int .i64 0]) R tSu #[.slice pA N pcap,.int .i64 0,.slice none 0 0,.slice none 0 0,.int .i64 0,.int .i64 0]:=Ωj hS.res rfl
   have hst:=ΩfL (n:=N) (c:=pcap) (A:=pA) hS.res rfl
   have ho2:Only Ωa w (wr.setCells R 0 [.slice pA N pcap,.int .i64 0,.slice none 0 0,.slice none 0 0,.int .i64 0,.int .i64 0]):=Ωb hS.only R 0 (.inr hwR1) _
   have hsl2:ΩT (wr.setCells R 0 [.slice pA N pcap,.int .i64 0,.slice none 0 0,.slice none 0 0,.int .i64 0,.int .i64 0]) w.heap.size (.slice pA N pcap) (nOff n+1) (setB (nOff n)):=by
    have h1:=Ωi hown hS.res (by decide)
    have h2:ΩT (wr.setCells R 0 [.slice pA N pcap,.int .i64 0,.slice none 0 0,.slice none 0 0,.int .i64 0,.int .i64 0]) w.heap.size (.slice pA N pcap) N (setB (nOff n)):=
     Ωe hown (Ωb (S:=fun k=>k=R) (Only.refl _ _) R 0 (.inl rfl) _) (fun k hk e=>h1 (by rw[hk,e]))
    rw[←eN];exact h2
   have HB2:=Θ hb2
   have HO2:=Θ ho2
   have HSL:=Θ hsl2
   have HI:=Θ hinf
   clear hS hsl hsl2 hb2 ho2 hinf hown eN hqe hq1 hq2 hlt
   go_wp2_with fail
   refine bodyPost_ret (v:= .agg #[.slice pA N pcap,.int .i64 0,.slice none 0 0,.slice none 0 0,.int .i64 0,.int .i64 0]) (Ωn rfl rfl HB2.out Tryz.underlying50 rfl (by simpa using HI.out)) rfl ⟨_,rfl,HSL.out,HO2.out⟩
end
end Go.Proofs.YtgalfohobgjelaaGreatDoor
