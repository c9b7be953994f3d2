/- What is proved here: a part of the proof that 'probitylaw31.ClientPlays' answers true. Conditions: each theorem's own. -/
import Derived.Test.YtgalfohobgjelaaGreatDoorPy33
set_option maxRecDepth 100000
set_option maxHeartbeats 8000000
namespace Go.Proofs.YtgalfohobgjelaaGreatDoor
section
open Go.RowKit Go.Shelf
attribute [local go_sem ↓ high] Ωaj ΩG Ωaq ΩQ ΩaB Ωbh
theorem seekP_drop{ag:Hd→Hd→Bool}{p:Pers}{l:List Vt}{i:Nat}{v:Vt}(h:l[i]? =some v):ΩdH ag p (l.drop i)=match(if cnts p v then ΩbA ag p v (l.drop (i+1)) else none) with|some u=>some (v,u)|none=>ΩdH ag p (l.drop (i+1)):=by
 have hlt:=(Ωnx.1 h).1
 have:l.drop i=v::l.drop (i+1):=by rw[Ωn7 hlt];rw[Ωnu hlt] at h;rw[Option.some.inj h]
 rw[this];rfl
theorem laterP_drop{ag:Hd→Hd→Bool}{p:Pers}{v u:Vt}{l:List Vt}{i:Nat}(h:l[i]? =some u):ΩbA ag p v (l.drop i)=if !ag v.head u.head&&cnts p u then some u else ΩbA ag p v (l.drop (i+1)):=by
 have hlt:=(Ωnx.1 h).1
 have:l.drop i=u::l.drop (i+1):=by rw[Ωn7 hlt];rw[Ωnu hlt] at h;rw[Option.some.inj h]
 rw[this];rfl
def CkI(W0:World)(ag:Hd→Hd→Bool)(L:List Vt)(O:List Pers)(k:Nat)(p:Pers)(m:Nat)(β:Bool)(out:Value)(W:World):Prop:=
 if β=true then ClS W0 ag L O (k+1) out W else ΩdH ag p L=ΩdH ag p (L.drop m)∧ClS W0 ag L O k out W
def CkJ(W0:World)(ag:Hd→Hd→Bool)(L:List Vt)(O:List Pers)(k:Nat)(p:Pers)(v:Vt)(m q:Nat)(γ:Bool)(out:Value)(W:World):Prop:=
 if γ=true then ClS W0 ag L O (k+1) out W else ΩbA ag p v (L.drop (m+1))=ΩbA ag p v (L.drop q)∧ClS W0 ag L O k out W
theorem ClS.keep{W0:World}{ag:Hd→Hd→Bool}{L:List Vt}{O:List Pers}{k:Nat}{out:Value}{W W' :World}(h:ClS W0 ag L O k out W)(ho:Only Ωa W W'):ClS W0 ag L O k out W' :=
 ⟨Ωe h.own ho (fun _ _ e=>e),h.only.trans ho⟩
theorem blmOf_seek{ag:Hd→Hd→Bool}{L:List Vt}{p:Pers}:ΩjC ag L p=(ΩdH ag p L).map (fun x=>⟨p.id,x.1,x.2⟩):=by rw[Ωkq];rfl
theorem CkI.only{W0:World}{ag:Hd→Hd→Bool}{L:List Vt}{O:List Pers}{k:Nat}{p:Pers}{m:Nat}{β:Bool}{out:Value}{W:World}(h:CkI W0 ag L O k p m β out W):Only Ωa W0 W:=by
 cases β
 ·exact h.2.only
 ·exact(show ClS W0 ag L O (k+1) out W from h).only
theorem CkJ.only{W0:World}{ag:Hd→Hd→Bool}{L:List Vt}{O:List Pers}{k:Nat}{p:Pers}{v:Vt}{m q:Nat}{γ:Bool}{out:Value}{W:World}(h:CkJ W0 ag L O k p v m q γ out W):Only Ωa W0 W:=by
 cases γ
 ·exact h.2.only
 ·exact(show ClS W0 ag L O (k+1) out W from h).only
theorem eql_hash2(a b:Hs)(ha:a.length=32)(hb:b.length=32)(W:World):(binOp .eql 35 (hv a) (hv b)).run Tryz.prog W= .ok (.bool (a==b)) W:=ΩbT a b ha hb W
theorem Ωgy(c:Md)(base:Nat){sent:Bool}{t:ByteArray}(hP:ΩS c.P)(hlen:c.P.length≤1000)(hn:c.votes.length≤100000)(w:World)(h:MdAt w base c sent t):
  Calls Tryz.prog 58 #[.pointer (some ⟨c.M,0,none⟩)] w fun e w' =>∃ov,e= .returned ov∧BlSl w' ov (blL c.P c.votes)∧Only Ωa w w' :=by
 have hqo:Calls Tryz.prog 99 #[setV c.pv] w fun e w' =>∃ov,e= .returned ov∧Ωa6 w' ov (offs c.P)∧Only Ωa w w' :=ΩdN c.P hlen c.pv w (ΩT.sl h.pers)
 have hol:(offs c.P).length≤1000:=Ωnz (Ωce c.P) hlen
 have hO:ΩS (offs c.P):=hP.offs
 have hcl:blL c.P c.votes=Ωag agT c.votes (offs c.P):=rfl
 rw[hcl]
 obtain⟨ag,eag⟩:∃ag,ag=agT:=⟨_,rfl⟩
 rw[←eag]
 obtain⟨O,eO⟩:∃O,O=offs c.P:=⟨_,rfl⟩
 rw[←eO] at hqo hol hO⊢
 obtain⟨L,eL⟩:∃L,L=c.votes:=⟨_,rfl⟩
 rw[←eL]
 have hok:Ω4 L:=by rw[eL];exact h.ok
 have hL:L.length≤100000:=by rw[eL];exact hn
 have hvs:VtSl w c.vv L:=by rw[eL];exact ΩH.sl h.votes h.ok
 obtain⟨A2,cap2,evv,hlc2,hcm2,hA2⟩:=hvs
 obtain⟨M,eM⟩:∃M,M=c.M:=⟨_,rfl⟩
 have hm41:∀W,Only Ωa w W→W.cell? ⟨M,41,none⟩=some (.slice A2 L.length cap2):=fun W ho=>by
  have h1:=Ωig (h.nn ho).blk h.hok.root
  rw[evv,←eM] at h1
  exact h1
 have hsl:=ΩcH (pv:=c.pv) (ΩfQ h.blk)
 rw[←eM] at hsl⊢
 have HM41:=Θ hm41
 have HQO:=Θ hqo
 have HPO:=Θ hO
 have HOK:=Θ hok
 have HA2:=Θ hA2
 clear hqo hO hok eO hcl hA2 hP hlen h eL evv hm41 eM hn
 have HAG:=Θ eag
 clear eag
 go_enter Tryz.func58,Tryz.ntmps58
 go_wp2_with fail
 refine HQO.out.mono ?_
 rintro e2 W0 ⟨pw,rfl,hov,ho2⟩
 obtain⟨A,cap,rfl,hlc,hcm,hA⟩:=hov
 have HA:=Θ hA
 have HW0:=Θ ho2
 clear hA ho2 HQO hsl
 obtain⟨ie,z,hie,hsz,hz,hzc,hby⟩:=Ωk9
 have HIE:=Θ hie
 have HSZ:=Θ hsz
 have HZ:=Θ hz
 have HZC:=Θ hzc
 have HBY:=Θ hby
 have hs0:ClS W0 ag L O 0 (.slice none 0 0) W0:=⟨⟨rfl,.inl ⟨rfl,rfl⟩⟩,Only.refl _ _⟩
 have HS0:=Θ hs0
 clear hie hsz hz hzc hby hs0
 go_wp2_with fail
 go_loopw [3,5] (fun ov i wr=>∃k:Nat,i= .int .i64 k∧k≤O.length∧ClS W0 ag L O k ov wr) (fun _ i _=>O.length-(intOf i).toNat)
 case atStart=>exact⟨0,rfl,Ωoh _,HS0.out⟩
 case round=>
  obtain⟨k,rfl,hk,hS⟩:=hrel
  have HS:=Θ hS
  clear hS
  by_cases hlt:k<O.length
  ·obtain⟨p,hp⟩:∃p,O[k]? =some p:=⟨_,Ωnu hlt⟩
   obtain⟨g,o,hA',hg,hr⟩:=HA.out k p hp
   subst hA'
   have hpo:=HPO.out p (ΩnE hp)
   have ik:(k:Int)<(O.length:Int):=by omega
   have ik0:(0:Int)≤(k:Int):=by omega
   have htk:=Ωg4 (ag:=ag) (L:=L) hp
   rw[blmOf_seek] at htk
   have hI0:CkI W0 ag L O k p 0 false u3 wr:=⟨rfl,HS.out⟩
   have HR:=Θ hr
   have HTK:=Θ htk
   have HPK:=Θ hpo
   have HI0:=Θ hI0
   clear hr htk hpo hI0 hp HS
   obtain⟨wo,rfl⟩:∃wo:World,wo=wr:=⟨_,rfl⟩
   go_wp2_with fail
   go_loopw [3,6,7] (fun out fd i wi=>∃(m:Nat) (β:Bool),i= .int .i64 m∧m≤L.length∧fd= .bool β∧CkI W0 ag L O k p m β out wi) (fun _ _ i _=>L.length-(intOf i).toNat)
   case atStart=>exact⟨0,false,rfl,Ωoh _,rfl,HI0.out⟩
   case round=>
    obtain⟨m,β,rfl,hm,rfl,hI⟩:=hrel
    have c41:=HM41.out wr (HW0.out.trans hI.only)
    have HI:=Θ hI
    clear hI HI0
    cases β with
    |true=>
     have HNEW:Hid (ClS W0 ag L O (k+1) u3 wr):=Θ HI.out
     by_cases hml:m<L.length
     ·have d1:decide ((m:Int)<(L.length:Int))=true:=ΩnG (by omega)
      go_wp2_with fail
      go_roundw
      case rel=>exact⟨k+1,by go_num,by omega,HNEW.out⟩
      case measure=>simp[intOf];omega
     ·have d1:decide ((m:Int)<(L.length:Int))=false:=Ωny (by omega)
      go_wp2_with fail
      go_roundw
      case rel=>exact⟨k+1,by go_num,by omega,HNEW.out⟩
      case measure=>simp[intOf];omega
    |false=>
     have HSK:Hid (ΩdH ag p L=ΩdH ag p (L.drop m)):=Θ HI.out.1
     have HSI:Hid (ClS W0 ag L O k u3 wr):=Θ HI.out.2
     clear HI
     by_cases hml:m<L.length
     ·have d1:decide ((m:Int)<(L.length:Int))=true:=ΩnG (by omega)
      obtain⟨v,hv⟩:∃v,L[m]? =some v:=⟨_,Ωnu hml⟩
      obtain⟨g2,o2,hA2',hg2,hr2⟩:=HA2.out m v hv
      subst hA2'
      have vo:=HOK.out v (ΩnE hv)
      have hl:=vo.head.root
      have im:(m:Int)<(L.length:Int):=by omega
      have im0:(0:Int)≤(m:Int):=by omega
      have hsd:=seekP_drop (ag:=ag) (p:=p) hv
      obtain⟨c,ec⟩:∃c,c=cnts p v:=⟨_,rfl⟩
      rw[←ec] at hsd
      obtain⟨I,F,hI,hF0,hF,hFS⟩:=Ωbp (fun W=>Only Ωa wr W) (W0:=wr.drew) (Only.refl _ _).drew
      have f0:∀x,(F x).cell? ⟨g,o+k*3,none⟩=some (.int .i64 p.id):=fun x=>(HSI.out.only.trans (hFS x)).cell_some (HR.out 0 _ rfl) (fun e=>e)
      have f1:∀x,(F x).cell? ⟨g,o+k*3+1,none⟩=some (.int .i64 p.role):=fun x=>(HSI.out.only.trans (hFS x)).cell_some (HR.out 1 _ rfl) (fun e=>e)
      have f2:∀x,(F x).cell? ⟨g,o+k*3+2,none⟩=some (.int .i64 p.pub):=fun x=>(HSI.out.only.trans (hFS x)).cell_some (HR.out 2 _ rfl) (fun e=>e)
      have f41:∀x,(F x).cell? ⟨M,41,none⟩=some (.slice (some ⟨g2,o2,none⟩) L.length cap2):=fun x=>HM41.out _ ((HW0.out.trans HSI.out.only).trans (hFS x))
      have fl:∀x,(Ωbm (.pointer (some ⟨g2,o2+m*36,none⟩))).run Tryz.prog (F x)= .ok (.agg (vtC v).toArray) (F x):=fun x=>ΩX (Ωu hr2 ((HW0.out.trans HSI.out.only).trans (hFS x))) hl
      have H1:Hid (∀x,Calls Tryz.prog 24 #[.agg #[.int .i64 p.id,.int .i64 p.role,.int .i64 p.pub],.agg (vtC v).toArray] (F x) fun e w' =>e= .returned (.bool c)∧∃y,w' =F y):=Θ (fun x=>by rw[ec];exact(ΩgR p HPK.out v vo (F x)).mono (fun e w' hh=>⟨hh.1,(hF w').1 ((hFS x).trans hh.2)⟩))
      have HF:=Θ hF
      have HF0:=Θ hF0
      have HVO:=Θ vo
      have HSD:=Θ hsd
      have HR2:=Θ hr2
      clear hF hF0 hFS vo hsd hr2 ec hv
      go_upto_region 10 with(fail)
      refine Ω9 F (by kernel_rfl) (by kernel_rfl) HF0.out ?_
      repeat(go_big_quiet_step (exact H1.out _))
      refine wpQuiet_nil ?_
      intro w9 hw9
      have HO9:=Θ ((HF.out w9).2 hw9)
      clear hw9 f0 f1 f2 fl f41 c41 H1 HF HF0 hI F I
      obtain⟨out,eout⟩:∃out:Value,out=u3:=⟨_,rfl⟩
      subst eout
      have HS9:=Θ (HSI.out.keep HO9.out)
      cases c with
      |false=>
       have hn:ΩdH ag p L=ΩdH ag p (L.drop (m+1)):=by rw[HSK.out,HSD.out];rfl
       have HN:=Θ hn
       clear hn
       obtain⟨wo2,rfl⟩:∃wo2:World,wo2=wr:=⟨_,rfl⟩
       go_wp2_with fail
       go_loopw [3,6,9] (fun ov fd j wj=>out=ov∧fd= .bool false∧j= .int .i64 ((m+1:Nat):Int)∧ClS W0 ag L O k out wj) (fun _ _ _ _=>0)
       case atStart=>exact⟨rfl,rfl,by go_num,HS9.out⟩
       case round=>
        obtain⟨rfl,rfl,rfl,hSj⟩:=hrel
        have c41:=HM41.out wr (HW0.out.trans hSj.only)
        have HSJ:Hid (CkI W0 ag L O k p (m+1) false out wr):=Θ ⟨HN.out,hSj⟩
        clear hSj
        by_cases hm1:m+1<L.length
        ·have d2:decide (((m+1:Nat):Int)<(L.length:Int))=true:=ΩnG (by omega)
         go_wp2_with fail
         go_roundw
         case rel=>exact⟨m+1,false,by go_num,by omega,rfl,HSJ.out⟩
         case measure=>simp[intOf];omega
        ·have d2:decide (((m+1:Nat):Int)<(L.length:Int))=false:=Ωny (by omega)
         go_wp2_with fail
         go_roundw
         case rel=>exact⟨m+1,false,by go_num,by omega,rfl,HSJ.out⟩
         case measure=>simp[intOf];omega
      |true=>
       have hj0:CkJ W0 ag L O k p v m (m+1) false out w9:=⟨rfl,HS9.out⟩
       have HJ0:=Θ hj0
       clear hj0
       obtain⟨wo2,rfl⟩:∃wo2:World,wo2=wr:=⟨_,rfl⟩
       go_wp2_with fail
       go_loopw [3,6,9] (fun ov fd j wj=>∃(q:Nat) (γ:Bool),j= .int .i64 q∧m+1≤q∧q≤L.length∧fd= .bool γ∧CkJ W0 ag L O k p v m q γ ov wj) (fun _ _ j _=>L.length-(intOf j).toNat)
       case atStart=>exact⟨m+1,false,by go_num,by omega,by omega,rfl,HJ0.out⟩
       case round=>
        obtain⟨q,γ,rfl,hmq,hq,rfl,hJ⟩:=hrel
        have c41:=HM41.out wr (HW0.out.trans hJ.only)
        have HJ:=Θ hJ
        clear hJ HJ0
        cases γ with
        |true=>
         have HNEW:Hid (CkI W0 ag L O k p (m+1) true u3 wr):=Θ HJ.out
         by_cases hql:q<L.length
         ·have d2:decide ((q:Int)<(L.length:Int))=true:=ΩnG (by omega)
          go_wp2_with fail
          go_roundw
          case rel=>exact⟨m+1,true,by go_num,by omega,rfl,HNEW.out⟩
          case measure=>simp[intOf];omega
         ·have d2:decide ((q:Int)<(L.length:Int))=false:=Ωny (by omega)
          go_wp2_with fail
          go_roundw
          case rel=>exact⟨m+1,true,by go_num,by omega,rfl,HNEW.out⟩
          case measure=>simp[intOf];omega
        |false=>
         have HLA:Hid (ΩbA ag p v (L.drop (m+1))=ΩbA ag p v (L.drop q)):=Θ HJ.out.1
         have HSQ:Hid (ClS W0 ag L O k u3 wr):=Θ HJ.out.2
         clear HJ
         by_cases hql:q<L.length
         ·have d2:decide ((q:Int)<(L.length:Int))=true:=ΩnG (by omega)
          obtain⟨u,hu⟩:∃u,L[q]? =some u:=⟨_,Ωnu hql⟩
          obtain⟨g3,o3,e3,_,hr3⟩:=HA2.out q u hu
          simp only[Option.some.injEq,Addr.mk.injEq,and_true] at e3
          obtain⟨rfl,rfl⟩:=e3
          have uo:=HOK.out u (ΩnE hu)
          have hul:=uo.head.root
          have iq:(q:Int)<(L.length:Int):=by omega
          have iq0:(0:Int)≤(q:Int):=by omega
          have hld:=laterP_drop (ag:=ag) (p:=p) (v:=v) hu
          obtain⟨α,eα⟩:∃α,α=ag v.head u.head:=⟨_,rfl⟩
          obtain⟨c2,ec2⟩:∃c,c=cnts p u:=⟨_,rfl⟩
          rw[←eα,←ec2] at hld
          obtain⟨out,eout⟩:∃out:Value,out=u3:=⟨_,rfl⟩
          subst eout
          have hWr:Only Ωa w wr:=HW0.out.trans HSQ.out.only
          have fa:=ΩC (Ω8 (Ωu HR2.out hWr) hl) hl
          have fb:∀W,Only Ωa wr W→(Ωa4 (.pointer (some ⟨g2,o2+q*36+1,none⟩))).run Tryz.prog W= .ok (.agg (hdC u.head).toArray) W:=fun W h=>ΩC (Ω8 (Ωu hr3 (hWr.trans h)) hul) hul
          have hnw:=Ωal
          have hst1:=Ωa9 wr hl
          have ho1:Only Ωa wr ((wr.alloc (.cells hd0C 37)).setCells wr.heap.size 0 (hdC v.head)):=Ωb ((Only.refl _ _).alloc _) wr.heap.size 0 (.inr (Ωnv _)) _
          have ha1:HdAt ((wr.alloc (.cells hd0C 37)).setCells wr.heap.size 0 (hdC v.head)) wr.heap.size v.head:=Ωj (Blk.new wr _ _) (by rw[Ωo hl];rfl)
          obtain⟨N1,eN1⟩:∃N,N=wr.heap.size:=⟨_,rfl⟩
          rw[←eN1] at ho1 ha1
          have HN1:=Θ (And.intro ho1 ha1)
          have EN1:=Θ eN1
          have FB:=Θ fb
          have HUO:=Θ uo
          have HLD:=Θ hld
          have HR3:=Θ hr3
          have HC2:=Θ ec2
          have HAL:=Θ eα
          clear uo hld hr3 ec2 eα hu hWr ho1 ha1 eN1 fb
          go_upto_region 15 with(fail)
          rw[←EN1.out]
          refine Ωf (fun W=>Only Ωa wr W∧HdAt W N1 v.head) HN1.out ?_
          clear HN1 EN1 hst1 fa c41
          rintro V1 ⟨hv1,hv2⟩
          have c41:=HM41.out V1 ((HW0.out.trans HSQ.out.only).trans hv1)
          have fb:=FB.out V1 hv1
          have hst2:=Ωa9 V1 hul
          have ho2:Only Ωa V1 ((V1.alloc (.cells hd0C 37)).setCells V1.heap.size 0 (hdC u.head)):=Ωb ((Only.refl _ _).alloc _) V1.heap.size 0 (.inr (Ωnv _)) _
          have ha2:HdAt ((V1.alloc (.cells hd0C 37)).setCells V1.heap.size 0 (hdC u.head)) V1.heap.size u.head:=Ωj (Blk.new V1 _ _) (by rw[Ωo hul];rfl)
          obtain⟨N2,eN2⟩:∃N,N=V1.heap.size:=⟨_,rfl⟩
          rw[←eN2] at ho2 ha2
          have HN2:=Θ (And.intro (hv1.trans ho2) (And.intro (Blk.only hv2 ho2 (fun e=>e)) ha2))
          have EN2:=Θ eN2
          clear hv1 hv2 ho2 ha2 eN2
          go_upto_region 16 with(fail)
          rw[←EN2.out]
          refine Ωf (fun W=>Only Ωa wr W∧HdAt W N1 v.head∧HdAt W N2 u.head) HN2.out ?_
          clear HN2 EN2 hst2 fb c41 hnw
          rintro w8 ⟨hw8,hx1,hx2⟩
          have HO8:=Θ hw8
          have y1:w8.cell? ⟨N1,0,none⟩=some (.int .i64 v.head.size):=Blk.cell hx1 0
          have y2:w8.cell? ⟨N2,0,none⟩=some (.int .i64 u.head.size):=Blk.cell hx2 0
          have y3:(ΩL (.pointer (some ⟨N1,1,none⟩))).run Tryz.prog w8= .ok (hv v.head.root) w8:=Ωp (ΩD (Ωd hx1)) hl
          have y4:(ΩL (.pointer (some ⟨N2,1,none⟩))).run Tryz.prog w8= .ok (hv u.head.root) w8:=Ωp (ΩD (Ωd hx2)) hul
          have y5:=eql_hash2 v.head.root u.head.root hl hul w8
          have y6:∀x y,(eqGuard .eql 35 x y (hv v.head.root) (hv u.head.root)).run Tryz.prog w8= .ok () w8:=fun x y=>run_eqGuard_agg _ _ _ _ _ _ _ (by kernel_rfl)
          have HEQ:Hid ((v.head.size==u.head.size)=true→(v.head.root==u.head.root)=α):=Θ (fun h1=>by
           have h2:v.head.size=u.head.size:=beq_iff_eq.1 h1
           rw[HAL.out,HAG.out]
           cases h3:(v.head.root==u.head.root) with
           |true=>
            symm
            exact agT_true (fun _=>by
             have h4:v.head.root=u.head.root:=beq_iff_eq.1 h3
             cases hvv:v.head
             cases huu:u.head
             rw[hvv,huu] at h2 h4
             simp only at h2 h4
             rw[h2,h4])
           |false=>
            symm
            exact ΩjF h2 (fun e=>by rw[e,beq_self_eq_true] at h3;cases h3))
          have HNQ:Hid ((v.head.size==u.head.size)=false→α=true):=Θ (fun h1=>by
           rw[HAL.out,HAG.out]
           exact Ωdt (fun e=>by rw[e,beq_self_eq_true] at h1;cases h1))
          clear hw8 hx1 hx2
          obtain⟨sa,esa⟩:∃x,x=v.head.size:=⟨_,rfl⟩
          obtain⟨sb,esb⟩:∃x,x=u.head.size:=⟨_,rfl⟩
          rw[←esa] at y1
          rw[←esb] at y2
          rw[←esa,←esb] at HEQ HNQ
          clear esa esb
          cases hsz:(sa==sb) with
          |false=>
           have hα:=HNQ.out hsz
           have hszn:(sa !=sb)=true:=by simp[bne,hsz]
           have hn:ΩbA ag p v (L.drop (m+1))=ΩbA ag p v (L.drop (q+1)):=by rw[HLA.out,HLD.out,hα];rfl
           have HNEW:Hid (CkJ W0 ag L O k p v m (q+1) false out w8):=Θ ⟨hn,HSQ.out.keep HO8.out⟩
           clear hn hα y3 y4 y5 y6
           go_wp2_with fail
           go_roundw
           case rel=>exact⟨q+1,false,by go_num,by omega,by omega,rfl,HNEW.out⟩
           case measure=>simp[intOf];omega
          |true=>
          have hszn:(sa !=sb)=false:=by simp[bne,hsz]
          have hrt:=HEQ.out hsz
          rw[hrt] at y5
          cases α with
          |true=>
           have hn:ΩbA ag p v (L.drop (m+1))=ΩbA ag p v (L.drop (q+1)):=by rw[HLA.out,HLD.out];rfl
           have HNEW:Hid (CkJ W0 ag L O k p v m (q+1) false out w8):=Θ ⟨hn,HSQ.out.keep HO8.out⟩
           clear hn hrt
           go_wp2_with fail
           go_roundw
           case rel=>exact⟨q+1,false,by go_num,by omega,by omega,rfl,HNEW.out⟩
           case measure=>simp[intOf];omega
          |false=>
          clear hrt
          go_upto_region 17 with(fail)
          obtain⟨I,F,hI,hF0,hF,hFS⟩:=Ωbp (fun W=>Only Ωa w8 W) (W0:=w8.drew) (Only.refl _ _).drew
          have hWW:∀x,Only Ωa W0 (F x):=fun x=>(HSQ.out.only.trans HO8.out).trans (hFS x)
          have f0:∀x,(F x).cell? ⟨g,o+k*3,none⟩=some (.int .i64 p.id):=fun x=>(hWW x).cell_some (HR.out 0 _ rfl) (fun e=>e)
          have f1:∀x,(F x).cell? ⟨g,o+k*3+1,none⟩=some (.int .i64 p.role):=fun x=>(hWW x).cell_some (HR.out 1 _ rfl) (fun e=>e)
          have f2:∀x,(F x).cell? ⟨g,o+k*3+2,none⟩=some (.int .i64 p.pub):=fun x=>(hWW x).cell_some (HR.out 2 _ rfl) (fun e=>e)
          have f41:∀x,(F x).cell? ⟨M,41,none⟩=some (.slice (some ⟨g2,o2,none⟩) L.length cap2):=fun x=>HM41.out _ (HW0.out.trans (hWW x))
          have fl:∀x,(Ωbm (.pointer (some ⟨g2,o2+q*36,none⟩))).run Tryz.prog (F x)= .ok (.agg (vtC u).toArray) (F x):=fun x=>ΩX (Ωu HR3.out (HW0.out.trans (hWW x))) hul
          have H1:Hid (∀x,Calls Tryz.prog 24 #[.agg #[.int .i64 p.id,.int .i64 p.role,.int .i64 p.pub],.agg (vtC u).toArray] (F x) fun e w' =>e= .returned (.bool c2)∧∃y,w' =F y):=Θ (fun x=>by rw[HC2.out];exact(ΩgR p HPK.out u HUO.out (F x)).mono (fun e w' hh=>⟨hh.1,(hF w').1 ((hFS x).trans hh.2)⟩))
          have HF:=Θ hF
          have HF0:=Θ hF0
          clear hF hF0 hFS hWW
          refine Ω9 F (by kernel_rfl) (by kernel_rfl) HF0.out ?_
          repeat(go_big_quiet_step (exact H1.out _))
          refine wpQuiet_nil ?_
          intro w7 hw7
          have HO7:=Θ (HO8.out.trans ((HF.out w7).2 hw7))
          clear hw7 f0 f1 f2 fl f41 y1 y2 y3 y4 y5 y6 H1 HF HF0 hI F I
          cases c2 with
          |false=>
           have hn:ΩbA ag p v (L.drop (m+1))=ΩbA ag p v (L.drop (q+1)):=by rw[HLA.out,HLD.out];rfl
           have HNEW:Hid (CkJ W0 ag L O k p v m (q+1) false out w7):=Θ ⟨hn,HSQ.out.keep HO7.out⟩
           clear hn
           go_wp2_with fail
           go_roundw
           case rel=>exact⟨q+1,false,by go_num,by omega,by omega,rfl,HNEW.out⟩
           case measure=>simp[intOf];omega
          |true=>
           have hsk2:ΩdH ag p L=some (v,u):=by rw[HSK.out,HSD.out];simp only[if_true];rw[HLA.out,HLD.out];rfl
           have htk2:Ωag ag L (O.take (k+1))=Ωag ag L (O.take k)++[⟨p.id,v,u⟩]:=by rw[HTK.out,hsk2];rfl
           have hol2:(Ωag ag L (O.take k)).length≤1000:=Ωnz (ΩhO ag L _) (Ωnz (ΩoM _ _) (by omega))
           obtain⟨n0,en0⟩:∃n0,n0=(Ωag ag L (O.take k)).length :=⟨_,rfl⟩
           obtain⟨C0,eC0⟩:∃C0,C0=(Ωag ag L (O.take k)).flatMap blmC:=⟨_,rfl⟩
           obtain⟨TA,eTA⟩:∃T,T=vtT v:=⟨_,rfl⟩
           obtain⟨TB,eTB⟩:∃T,T=vtT u:=⟨_,rfl⟩
           have hS7:=HSQ.out.keep HO7.out
           have hown5:w7.ownsRow W0.heap.size 57 4 out n0 C0:=by rw[en0,eC0];exact hS7.own
           have hcells:(Ωag ag L (O.take (k+1))).flatMap blmC=C0++[.int .i64 p.id,.int .i64 44,.string TA,.string TB]:=by
            rw[htk2,Ωn2,eC0,eTA,eTB];rfl
           have hlen1:(Ωag ag L (O.take (k+1))).length =n0+1:=by rw[htk2,ΩnA,en0];rfl
           have hS0:Only Ωa W0 w7.drew:=hS7.only.drew
           have hW0:w7.drew.ownsRow W0.heap.size 57 4 out n0 C0:=hown5
           have c0:∀W,Only Ωa W0 W→W.cell? ⟨g,o+k*3,none⟩=some (.int .i64 p.id):=fun W h=>h.cell_some (HR.out 0 _ rfl) (fun e=>e)
           have k41:∀W,Only Ωa W0 W→W.cell? ⟨M,41,none⟩=some (.slice (some ⟨g2,o2,none⟩) L.length cap2):=fun W h=>HM41.out W (HW0.out.trans h)
           have l1:∀W,Only Ωa W0 W→(Ωbm (.pointer (some ⟨g2,o2+m*36,none⟩))).run Tryz.prog W= .ok (.agg (vtC v).toArray) W:=fun W h=>ΩX (Ωu HR2.out (HW0.out.trans h)) hl
           have l2:∀W,Only Ωa W0 W→(Ωbm (.pointer (some ⟨g2,o2+q*36,none⟩))).run Tryz.prog W= .ok (.agg (vtC u).toArray) W:=fun W h=>ΩX (Ωu HR3.out (HW0.out.trans h)) hul
           have HKP:Hid (∀W W',Only Ωa W0 W→Only Ωa W W'→Only Ωa W0 W'):=Θ (fun W W' h ho=>h.trans ho)
           have HAL:Hid (∀(W:World) o,Only Ωa W0 W→Only Ωa W0 (W.alloc o)):=Θ (fun W o h=>h.alloc o)
           have HOK2:Hid (∀W W' :World,W.ownsRow W0.heap.size 57 4 out n0 C0→Only Ωa W W'→W'.ownsRow W0.heap.size 57 4 out n0 C0):=Θ (fun W W' h ho=>Ωe h ho (fun _ _ e=>e))
           have HWA:Hid (∀W,Calls Tryz.prog 100 #[.agg (vtC v).toArray] W fun e w' =>e= .returned (.string TA)∧Only Ωa W w'):=Θ (fun W=>by rw[eTA];exact Ωer v HVO.out W)
           have HWB:Hid (∀W,Calls Tryz.prog 100 #[.agg (vtC u).toArray] W fun e w' =>e= .returned (.string TB)∧Only Ωa W w'):=Θ (fun W=>by rw[eTB];exact Ωer u HUO.out W)
           have HFN:Hid (∀W w2 g cap,Only Ωa W0 W→W.ownsRow W0.heap.size 57 4 out n0 C0→w2.ownsRow W0.heap.size 57 4 (.slice (some ⟨g,0,none⟩) (n0+1) cap) (n0+1) (C0++[.int .i64 p.id,.int .i64 44,.string TA,.string TB])→(W.alloc (.cells #[.int .i64 p.id,.int .i64 44,.string TA,.string TB] 57)).grownBy w2 out.ownBlock→ClS W0 ag L O (k+1) (.slice (some ⟨g,0,none⟩) (n0+1) cap) w2∧Only Ωa W0 w2):=Θ (fun W w2 g cap h how h1 h2=>by
            have h3:Only Ωa W0 w2:=(h.alloc _).grown h2 (fun j e=> .inr (ΩJ how e).1)
            refine⟨⟨?_,h3⟩,h3⟩
            unfold ΩdS
            rw[hcells,hlen1]
            exact h1)
           have HSZ5:Hid (∀W,Only Ωa W0 W→W0.heap.size≤W.heap.size):=Θ (fun W h=>h.size)
           have hn0:n0≤1000:=by rw[en0];exact hol2
           clear hsk2 htk2 hol2 en0 eC0 eTA eTB hown5 hcells hlen1 hS7
           go_upto_region 19 with(fail)
           go_region_held3 (fun W=>Only Ωa W0 W) (first|(with_reducible assumption)|(with_reducible exact HAL.out _ _ (by with_reducible assumption)))
            (first
             |(refine step_append_lies _ (by rfl) _ _ _ (by rfl) W0.heap.size 57 ie z 4 48 Tryz.underlying54 HIE.out HZ.out HSZ.out HBY.out HZC.out (by omega) out n0 C0 (by rfl) (World.ownsRow.alloc (by with_reducible assumption) _) _ 1 1 [.int .i64 p.id,.int .i64 44,.string TA,.string TB] (by rfl) (by rfl) (World.news_of_block (cs:= #[.int .i64 p.id,.int .i64 44,.string TA,.string TB]) (t:=57) (fr:=(0,0)) (heap_alloc_new _ _)) (by simp[Value.oneCell']) (by omega) (by rw[Ωg];omega) (by omega) (HSZ5.out _ (by first|(with_reducible assumption)|(with_reducible exact HAL.out _ _ (by with_reducible assumption)))) _ rfl ?_;intro g9 cap9 w2 hown2 hgrow2 hat2 hlt2;have hNEW:=HFN.out _ w2 g9 cap9 (by with_reducible assumption) (by with_reducible assumption) hown2 hgrow2;have hNX:=hNEW.2;clear hown2 hgrow2 hat2 hlt2)
             |(go_at_call 100;(with_reducible refine(HWA.out _).mono ?_);rintro e6 w6 ⟨rfl,ho6⟩;have hS6:=HKP.out _ _ (by with_reducible assumption) ho6;have hW6:=HOK2.out _ _ (by with_reducible assumption) ho6;clear ho6)
             |(go_at_call 100;(with_reducible refine(HWB.out _).mono ?_);rintro e7 w7 ⟨rfl,ho7⟩;have hS7:=HKP.out _ _ (by with_reducible assumption) ho7;have hW7:=HOK2.out _ _ (by with_reducible assumption) ho7;clear ho7))
           have HNEW:Hid (CkJ W0 ag L O k p v m (q+1) true (.slice (some ⟨g9,0,none⟩) (n0+1) cap9) w2):=Θ hNEW.1
           clear hNEW hNX hS0 hW0 c0 l1 l2 k41
           go_wp2_with fail
           go_roundw
           case rel=>exact⟨q+1,true,by go_num,by omega,by omega,rfl,HNEW.out⟩
           case measure=>simp[intOf];omega
         ·obtain rfl:q=L.length:=by omega
          have d2:decide ((L.length:Int)<(L.length:Int))=false:=Ωny (by omega)
          have hn:ΩdH ag p L=ΩdH ag p (L.drop (m+1)):=by
           rw[HSK.out,HSD.out];simp only[if_true];rw[HLA.out,List.drop_length];rfl
          have HNEW:Hid (CkI W0 ag L O k p (m+1) false u3 wr):=Θ ⟨hn,HSQ.out⟩
          clear hn
          go_wp2_with fail
          go_roundw
          case rel=>exact⟨m+1,false,by go_num,by omega,rfl,HNEW.out⟩
          case measure=>simp[intOf];omega
     ·obtain rfl:m=L.length:=by omega
      have hn:Ωag ag L (O.take (k+1))=Ωag ag L (O.take k):=by
       rw[HTK.out,HSK.out,List.drop_length]
       simp[ΩdH]
      have hS2:ClS W0 ag L O (k+1) u3 wr:=by
       refine⟨?_,HSI.out.only⟩
       rw[hn]
       exact HSI.out.own
      have d1:decide ((L.length:Int)<(L.length:Int))=false:=Ωny (by omega)
      have HNEW:=Θ hS2
      clear hn hS2
      go_wp2_with fail
      go_roundw
      case rel=>exact⟨k+1,by go_num,by omega,HNEW.out⟩
      case measure=>simp[intOf];omega
  ·obtain rfl:k=O.length:=by omega
   have hown:=HS.out.own
   rw[Ωok] at hown
   have HR:Hid (BlSl wr u3 (Ωag ag L O)):=Θ hown.sl
   have HO:=Θ (HW0.out.trans HS.out.only)
   clear hown
   go_wp2_with fail
   go_ret
   exact⟨_,rfl,HR.out,HO.out⟩
end
section
open Go.RowKit Go.Shelf
attribute [local go_sem ↓ high] Ωhc Ω2
def HasX(w0:World)(base C:Nat)(X:Nat→Prop)(s:Vw)(W:World):Prop:=
 ∃c:Cli,c.C=C∧c.vw=s∧Ωv W base c∧c.seen=c.votes∧(∀k,c.foot k→¬X k)∧base≤W.heap.size∧(∀k,X k→k<W.heap.size)∧Only Ωa w0 W∧w0.heap.size≤base
def ΩjH(base:Nat)(X:Nat→Prop)(W W' :World):Prop:=∃S:Nat→Prop,Only S W W'∧∀k,S k→base≤k∧¬X k
def InX(X:Nat→Prop)(v:Value):Prop:=∀a n cap,v= .slice (some a) n cap→X a.block
section
variable {w0:World} {base C:Nat} {X:Nat→Prop} {s:Vw} {W W' :World}
theorem InX.apart{c:Cli}{v:Value}(h:InX X v)(hf:∀k,c.foot k→¬X k):ΩdT c v:=fun a n cap e hk=>hf _ hk (h a n cap e)
theorem ΩjH.after{w:World}(h:ΩjH base X W W')(ho:Only Ωa w W):ΩjH base X w W' :=by
 obtain⟨S,h1,h2⟩:=h
 exact⟨S,(ho.mono (fun _ _ e=>e.elim)).trans h1,h2⟩
theorem HasX.keep(h:HasX w0 base C X s W)(ho:Only Ωa W W'):HasX w0 base C X s W' :=by
 obtain⟨c,c1,c2,c3,c4,hg,h1,h2,h3,h4⟩:=h
 exact⟨c,c1,c2,c3.nn ho,c4,hg,Ωnz h1 ho.size,fun k hk=>ΩnT (h2 k hk) ho.size,h3.trans ho,h4⟩
theorem HasX.step{c c' :Cli}(hc:Ωv W base c)(hg:∀k,c.foot k→¬X k)(hb:base≤W.heap.size)(hX:∀k,X k→k<W.heap.size)(h0:Only Ωa w0 W)(hw:w0.heap.size≤base)(hC:c'.C=C)(hst:Ωl W W' c c')(hc' :Ωv W' base c')(hs:c'.seen=c'.votes):HasX w0 base C X c'.vw W'∧ΩjH base X W W' :=by
 refine⟨⟨c',hC,rfl,hc',hs,fun k hk hx=> ?_,Ωnz hb hst.1.size,fun k hk=>ΩnT (hX k hk) hst.1.size,(hst.near hc).only h0 hw,hw⟩,c.foot,hst.1,fun k hk=>⟨(hc.foot_in hk).1,hg k hk⟩⟩
 rcases hst.2 k hk with h1|h1
 ·exact hg k h1 hx
 ·have:=hX k hx
  omega
end
theorem hax_head(w0:World)(ht:Tab w0){base C:Nat}{X:Nat→Prop}{s:Vw}(hP:ΩS s.P)(hlen:s.P.length≤1000)(hsm:Ωah s.head)(L:List Vt)(hok:Ω4 L)(hsv:ΩcW L)(hL:L.length≤1000)(hn:s.votes.length≤50000)(sv:Value)(Q:List Hs)(hqok:HsOk Q)(hQ:Q.length≤100000)(qv:Value)(w:World)(h:HasX w0 base C X s w)(hs:VtSl w sv L)(hsa:InX X sv)(hq:HaSl w qv Q)(hqa:InX X qv):
  Calls Tryz.prog 19 #[.pointer (some ⟨C,0,none⟩),sv,qv] w fun e w' =>∃o,ΩbH s.P L o∧e= .returned (.int .i64 (Ωat o (Ωx s.head) Q))∧HasX w0 base C X {s with votes:=ΩA s.votes L,head:=Ω5 o (Ωx s.head) Q s.head} w'∧ΩjH base X w w' :=by
 obtain⟨c,rfl,rfl,c3,c4,hg,h1,h2,h3,h4⟩:=h
 refine(ΩkJ w0 ht c base h4 c4 hP hlen hsm L hok hsv hL hn sv Q hqok hQ qv w h3 c3 h1 hs (hsa.apart hg) hq (hqa.apart hg)).mono ?_
 rintro e w' ⟨o,ho,he,vv,mv,hc,hst⟩
 exact⟨o,ho,he,HasX.step c3 hg h1 h2 h3 h4 rfl hst hc rfl⟩
theorem hax_receipt(w0:World)(ht:Tab w0){base C:Nat}{X:Nat→Prop}{s:Vw}(hP:ΩS s.P)(hpub:∀p∈s.P,In p.pub)(hlen:s.P.length≤1000)(L:List Vt)(hok:Ω4 L)(hsv:ΩcW L)(hL:L.length≤1000)(hn:s.votes.length≤50000)(sv:Value)(e:Ev)(he:e.Ok)(hen:e.name.size≤1000000000)(het:e.text.size≤1000000000)(Q:List Hs)(hqok:HsOk Q)(qv:Value)(w:World)(h:HasX w0 base C X s w)(hs:VtSl w sv L)(hsa:InX X sv)(hq:HaSl w qv Q)(hqa:InX X qv):
  Calls Tryz.prog 30 #[.pointer (some ⟨C,0,none⟩),.agg (evC e).toArray,qv,sv] w fun e' w' =>((ΩdI s.P s.id s.sent s.text e≠0∧e' = .returned (.int .i64 (ΩdI s.P s.id s.sent s.text e))∧HasX w0 base C X s w')∨(ΩdI s.P s.id s.sent s.text e=0∧∃o,ΩbH s.P L o∧e' = .returned (.int .i64 (Ωak o e Q))∧HasX w0 base C X {s with votes:=ΩA s.votes L,rc:=s.rc||decide (Ωak o e Q=0)} w'))∧ΩjH base X w w' :=by
 obtain⟨c,rfl,rfl,c3,c4,hg,h1,h2,h3,h4⟩:=h
 refine(receipt_any w0 ht c base h4 c4 hP hpub hlen L hok hsv hL hn sv e he hen het Q hqok qv w h3 c3 h1 hs (hsa.apart hg) hq (hqa.apart hg)).mono ?_
 rintro e' w' (⟨g1,g2,g3,g4⟩|⟨g1,o,g2,g3,vv,mv,hc,hst⟩)
 ·obtain⟨k1,k2⟩:=HasX.step c3 hg h1 h2 h3 h4 rfl g4 g3 c4
  exact⟨.inl ⟨g1,g2,k1⟩,k2⟩
 ·obtain⟨k1,k2⟩:=HasX.step c3 hg h1 h2 h3 h4 rfl hst hc rfl
  exact⟨.inr ⟨g1,o,g2,g3,k1⟩,k2⟩
theorem hax_sent(w0:World)(ht:Tab w0)(b:Bd)(hb:b.Ok){qA pA:Option Addr}{qk pk:Nat}{w:World}(hq:Ωdv w qA b.qc)(hp:Ωdv w pA b.pc){base C:Nat}{X:Nat→Prop}{s:Vw}(h:HasX w0 base C X s w):
  Calls Tryz.prog 32 #[.pointer (some ⟨C,0,none⟩),.agg (Ωae b qA pA qk pk)] w fun e w' =>e= .returned (.tuple #[])∧HasX w0 base C X {s with sent:=true,text:=encT b,rc:=false} w'∧ΩjH base X w w' :=by
 obtain⟨c,rfl,rfl,c3,c4,hg,h1,h2,h3,h4⟩:=h
 refine(csent_any b hb hq hp (ht.none h3) base c c3).mono ?_
 rintro e w' ⟨g1,g2,g3⟩
 exact⟨g1,HasX.step c3 hg h1 h2 h3 h4 rfl g3 g2 c4⟩
theorem hax_do(w0:World)(ht:Tab w0){base C:Nat}{X:Nat→Prop}{s:Vw}(hP:ΩS s.P)(hpub:∀p∈s.P,In p.pub)(hlen:s.P.length≤1000)(hsm:Ωah s.head)(hn:s.votes.length≤40000)(x:Cl)(hx:x.Ok)(A:Option Addr)(k:Nat)(gv rv:Value)(w:World)(h:HasX w0 base C X s w)(hA:Ωdv w A x.bid.qc)(hq:HaSl w gv x.proof)(hqa:InX X gv)(hv:VtSl w rv x.votes)(hva:InX X rv):
  Calls Tryz.prog 25 #[.pointer (some ⟨C,0,none⟩),.agg (clL x.what x.bid A k x.ev gv rv).toArray] w fun e w' =>e= .returned (.int .i64 (Ωdm s x))∧HasX w0 base C X (Ωav s x) w'∧ΩjH base X w w'∧Ωah (Ωav s x).head :=by
 obtain⟨B,eB⟩:∃B,B=w.heap.size:=⟨_,rfl⟩
 have ho:Only Ωa w (w.alloc (.cells (clL x.what x.bid A k x.ev gv rv).toArray tCl)):=(Only.refl _ _).alloc _
 have h0:ClB (w.alloc (.cells (clL x.what x.bid A k x.ev gv rv).toArray tCl)) B x.what x.bid A k x.ev gv rv∧Only Ωa w (w.alloc (.cells (clL x.what x.bid A k x.ev gv rv).toArray tCl)):=⟨by rw[eB];exact Blk.new w _ _,ho⟩
 obtain⟨hh,hone⟩:=hx.one
 have hpr:=hx.ev.prev
 obtain⟨z,ez⟩:∃z,z=clL x.what x.bid A k x.ev gv rv:=⟨_,rfl⟩
 have EZ:=Θ ez
 have H0:=Θ h0
 have EB:=Θ eB
 have H:=Θ h
 have HX:=Θ hx
 have HA:=Θ hA
 have HQ:=Θ hq
 have HV:=Θ hv
 have HONE:=Θ hone
 rw[←ez] at H0⊢
 clear h0 ho eB h hx hA hq hv hone ez
 go_enter Tryz.func25,Tryz.ntmps25
 go_upto_region 1 with(fail)
 rw[←EB.out]
 refine Ωf (fun W=>ClB W B x.what x.bid A k x.ev gv rv∧Only Ωa w W) (by rw[EZ.out] at H0⊢;exact H0.out) ?_
 clear H0 EZ
 rintro W ⟨hc,ho⟩
 have c0:=ΩiB hc
 have c52:=ΩiD hc hpr
 have c53:=Ωk2 hc hpr
 have cb:=Ωnp hc
 have ce:=ΩaY (Ωnl hc) hpr
 have hT:=H.out.keep ho
 have HT:=Θ hT
 have HO:=Θ ho
 have hxw:=HX.out.what
 clear hc ho hT
 by_cases hw0:x.what=0
 ·have d0:(x.what==0)=true:=by rw[beq_iff_eq];exact hw0
  have hr:Ωdm s x=0∧Ωav s x={s with sent:=true,text:=encT x.bid,rc:=false}:=⟨by unfold Ωdm;rw[ΩnV hw0],by unfold Ωav;rw[ΩnV hw0]⟩
  have hcall:=hax_sent w0 ht x.bid HX.out.bid (qk:=k) (pk:=0) (HA.out.none_ HO.out) (pA:=none) (.inl HX.out.pc) HT.out
  have HR:=Θ hr
  have HC:=Θ hcall
  clear hr hcall hw0 c52 c53 ce
  go_wp2_with fail
  refine HC.out.mono ?_
  rintro e1 w1 ⟨rfl,hT1,hN1⟩
  have HF:=Θ (And.intro hT1 (hN1.after HO.out))
  clear hT1 hN1
  go_wp2_with fail
  go_ret
  rw[HR.out.1,HR.out.2]
  exact⟨rfl,HF.out.1,HF.out.2,hsm⟩
 ·have d0:(x.what==0)=false:=by rw[ΩnL];exact hw0
  by_cases hw4:x.what<4
  ·have d4:decide (x.what<4)=true:=ΩnG hw4
   have hr:Ωdm s x=Ωat (ΩeV s.P x.votes) (Ωx s.head) x.proof∧Ωav s x={s with votes:=ΩA s.votes x.votes,head:=Ω5 (ΩeV s.P x.votes) (Ωx s.head) x.proof s.head}:=⟨by unfold Ωdm;rw[ΩnU hw0,ΩnV hw4],by unfold Ωav;rw[ΩnU hw0,ΩnV hw4]⟩
   have hcall:=hax_head w0 ht hP hlen hsm x.votes HX.out.votes HX.out.small HX.out.vlen (by omega) rv x.proof HX.out.proof HX.out.plen gv W HT.out (HV.out.only HO.out) hva (HQ.out.only HO.out) hqa
   have HR:=Θ hr
   have HC:=Θ hcall
   clear hr hcall hw0 cb ce
   go_wp2_with fail
   refine HC.out.mono ?_
   rintro e1 w1 ⟨o,ho,rfl,hT1,hN1⟩
   have hsh:=hdNext_small (old:=Ωx s.head) (Q:=x.proof) HX.out.small hsm ho
   obtain rfl:=Ωf1 HONE.out ho
   have HF:=Θ (And.intro hT1 (And.intro (hN1.after HO.out) hsh))
   clear hT1 hN1 ho hsh
   go_wp2_with fail
   go_ret
   rw[HR.out.1,HR.out.2]
   exact⟨rfl,HF.out⟩
  ·have d4:decide (x.what<4)=false:=Ωny hw4
   have hcall:=hax_receipt w0 ht hP hpub hlen x.votes HX.out.votes HX.out.small HX.out.vlen (by omega) rv x.ev HX.out.ev HX.out.evn HX.out.evt x.proof HX.out.proof gv W HT.out (HV.out.only HO.out) hva (HQ.out.only HO.out) hqa
   have HC:=Θ hcall
   have HW0:=Θ hw0
   have HW4:=Θ hw4
   clear hcall hw0 hw4 cb
   go_wp2_with fail
   refine HC.out.mono ?_
   rintro e1 w1 ⟨h1,hN1⟩
   have hfin:e1= .returned (.int .i64 (Ωdm s x))∧HasX w0 base C X (Ωav s x) w1∧Ωah (Ωav s x).head :=by
    unfold Ωdm Ωav
    rw[ΩnU HW0.out,ΩnU (Int.not_lt.2 HW4.out),ΩnU HW0.out,ΩnU (Int.not_lt.2 HW4.out)]
    rcases h1 with⟨g1,g2,g3⟩|⟨g1,o,g2,g3,g4⟩
    ·rw[ΩnV g1,ΩnV g1]
     exact⟨g2,g3,hsm⟩
    ·rw[ΩnU (fun e=>e g1),ΩnU (fun e=>e g1)]
     obtain rfl:=Ωf1 HONE.out g2
     exact⟨g3,g4,hsm⟩
   obtain⟨rfl,hT1,hsh⟩:=hfin
   have HF:=Θ (And.intro hT1 (And.intro (hN1.after HO.out) hsh))
   clear hT1 hN1 h1 hsh
   go_wp2_with fail
   go_ret
   exact⟨rfl,HF.out⟩
end
end Go.Proofs.YtgalfohobgjelaaGreatDoor
