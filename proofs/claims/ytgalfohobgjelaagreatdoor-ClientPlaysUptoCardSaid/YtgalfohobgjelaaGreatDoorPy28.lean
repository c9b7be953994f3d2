/- What is proved here: a part of the proof that 'probitylaw31.ClientPlays' answers true. Conditions: each theorem's own. -/
import Derived.Test.YtgalfohobgjelaaGreatDoorPy27
set_option maxRecDepth 100000
set_option maxHeartbeats 8000000
namespace Go.Proofs.YtgalfohobgjelaaGreatDoor
section
open Go.RowKit Go.Shelf
attribute [local go_sem ↓ high] ΩaB ΩaF
def Ωcw(x:Hs)(S:List Bool)(Q:List Hs)(k:Nat):Hs:=((S.zip Q).take k).foldl (fun y sh=>Ωlg sh.1 sh.2 y) x
theorem foldK_next{x:Hs}{S:List Bool}{Q:List Hs}{k:Nat}{s:Bool}{t:Hs}(hs:S[k]? =some s)(ht:Q[k]? =some t):Ωcw x S Q (k+1)=Ωlg s t (Ωcw x S Q k):=by
 unfold Ωcw
 have h:(S.zip Q)[k]? =some (s,t):=by rw[List.getElem?_zip_eq_some];exact⟨hs,ht⟩
 rw[ΩnO,h,List.foldl_append]
 rfl
theorem Ωdj{x:Hs}(hx:x.length=32)(S:List Bool)(Q:List Hs)(k:Nat):(Ωcw x S Q k).length =32:=by
 unfold Ωcw
 generalize (S.zip Q).take k=l
 induction l generalizing x with
 |nil=>exact hx
 |cons a l ih=>exact ih (by show(Ωlg a.1 a.2 x).length =32;unfold Ωlg;split<;>exact Ωa3 _ _)
theorem foldK_all{f i n:Nat}{x:Hs}{Q:List Hs}(h:Q.length=Ωac f i n):Ωcw x (wayF f i n).reverse Q Q.length=upF f x i n Q.reverse:=by
 unfold Ωcw
 rw[up_fold h,ΩnI (by rw[List.length_zip];omega)]
structure CqS(w:World)(B X:Nat)(h:Hd)(v sv:Value)(Q:List Hs)(S:List Bool)(y:Hs)(W:World):Prop where
 a:HdAt W B h
 r:W.rangeAt B 1 (h.root.map bv)
 l:HaSl W v Q
 s:Ωdu W w.heap.size sv S.length S
 y:HaAt W X y
 only:Only Ωa w W
theorem CqS.keep{w:World}{B X:Nat}{h:Hd}{v sv:Value}{Q:List Hs}{S:List Bool}{y:Hs}{W W' :World}(hh:CqS w B X h v sv Q S y W)(ho:Only Ωa W W'):CqS w B X h v sv Q S y W' :=
 ⟨Blk.only hh.a ho (fun e=>e),Ωu hh.r ho,hh.l.only ho,Ωe hh.s ho (fun _ _ e=>e),Blk.only hh.y ho (fun e=>e),hh.only.trans ho⟩
theorem CqS.put{w:World}{B X:Nat}{h:Hd}{v sv:Value}{Q:List Hs}{S:List Bool}{y m:Hs}{W:World}(hh:CqS w B X h v sv Q S y W)(hB:B<X)(hX:w.heap.size≤X)(hs:HaSl w v Q)(hy:y.length=32)(hm:m.length=32):CqS w B X h v sv Q S m (W.setCells X 0 (m.map bv)):=by
 have hne:=Ωi hh.s hh.y (by decide)
 have ho:Only Ωa w (W.setCells X 0 (m.map bv)):=Ωb hh.only X 0 (.inr hX) _
 have ha:HdAt (W.setCells X 0 (m.map bv)) B h:=Blk.farCells (by omega) _ 0 hh.a
 exact⟨ha,ΩD (Ωd ha),hs.only ho,Ωe hh.s (Ωb (S:=fun k=>k=X) (Only.refl _ _) X 0 (.inl rfl) _) (fun k hk e=>hne (by rw[hk,e])),hh.y.put hy hm,ho⟩
theorem checkpath_any(h:Hd)(s:Nat)(hs:h.size=(s:Int))(hs2:s≤1000)(hl:h.root.length=32)(i:Int)(x:ByteArray)(hx:x.size≤17592186044416)(Q:List Hs)(hok:HsOk Q)(v:Value)(w:World)(hv' :HaSl w v Q):
  Calls Tryz.prog 62 #[.agg (hdC h).toArray,.int .i64 i,.string x,v] w fun e w' =>e= .returned (.bool (ckP h.root s i x.data.toList Q))∧Only Ωa w w' :=by
 obtain⟨A,cap,rfl,hlc,hcm,hA⟩:=id hv'
 have hS0:=CpS.new (h:=h) hv'
 obtain⟨B,eB⟩:∃B,B=w.heap.size:=⟨_,rfl⟩
 rw[←eB] at hS0
 have HS0:=Θ hS0
 have EB:=Θ eB
 have HSZ:=Θ hs
 have HL:=Θ hl
 clear hS0 eB
 by_cases h1:i<0
 ·have hc:ckP h.root s i x.data.toList Q=false:=by unfold ckP;rw[ΩnV h1]
  rw[hc]
  have d1:decide (i<0)=true:=ΩnG h1
  clear hc hv' h1 hs hA
  go_enter Tryz.func62,Tryz.ntmps62
  go_upto_region 1 with(fail)
  rw[←EB.out]
  refine Ωf (CpS w B h (.slice A Q.length cap) Q) HS0.out ?_
  intro Z hZ
  have HO:=Θ hZ.only
  clear hZ HS0
  go_wp2_with fail
  go_ret
  exact⟨rfl,HO.out⟩
 ·have d1:decide (i<0)=false:=Ωny h1
  by_cases h2:(s:Int)≤i
  ·have hc:ckP h.root s i x.data.toList Q=false:=by unfold ckP;rw[ΩnU h1,ΩnV h2]
   rw[hc]
   have d2:decide ((s:Int)≤i)=true:=ΩnG h2
   clear hc hv' h1 h2 hs hA
   go_enter Tryz.func62,Tryz.ntmps62
   go_upto_region 1 with(fail)
   rw[←EB.out]
   refine Ωf (CpS w B h (.slice A Q.length cap) Q) HS0.out ?_
   intro Z hZ
   have c0:Z.cell? ⟨B,0,none⟩=some (.int .i64 (s:Int)):=by rw[←HSZ.out];exact Blk.cell hZ.a 0
   have HO:=Θ hZ.only
   clear hZ HS0
   go_wp2_with fail
   go_ret
   exact⟨rfl,HO.out⟩
  ·have d2:decide ((s:Int)≤i)=false:=Ωny h2
   obtain⟨j,rfl⟩:∃j:Nat,i=(j:Int):=⟨i.toNat,by omega⟩
   have d2n:decide (s≤j)=false:=Ωny (by omega)
   have d2m:¬s≤j:=by omega
   obtain⟨S,eS⟩:∃S,S=(wayF s j s).reverse :=⟨_,rfl⟩
   have hSl:S.length=Ωac s j s:=by rw[eS,Ωog,Ωf5]
   have hSle:=Ωcz s j s
   have hway:∀W,Calls Tryz.prog 105 #[.int .i64 (j:Int),.int .i64 (s:Int)] W fun e w' =>∃ov,e= .returned ov∧Ωdu w' W.heap.size ov S.length S∧Only Ωa W w' :=fun W=>by rw[eS];exact way_any j s (by omega) hs2 W
   have HWY:=Θ hway
   have hck:ckP h.root s (j:Int) x.data.toList Q=if Q.length=S.length then(upF s (ΩfD x.data.toList) j s Q.reverse==h.root) else false:=by
    unfold ckP
    rw[ΩnU h1,ΩnU h2,Ωoj,hSl]
   rw[hck]
   by_cases h3:Q.length=S.length
   ·have d3:((S.length:Int)==(Q.length:Int))=true:=by simp[h3]
    have d4:((S.length:Int)!=(Q.length:Int))=false:=by simp[h3]
    rw[ΩnV h3]
    obtain⟨y,ey⟩:∃y,y=ΩfD x.data.toList:=⟨_,rfl⟩
    have hy:y.length=32:=by rw[ey];exact ΩeE _
    have hfin:upF s y j s Q.reverse=Ωcw y S Q Q.length:=by rw[eS,foldK_all (by rw[h3,hSl])]
    have hleaf:∀W,Calls Tryz.prog 106 #[.string x] W fun e w' =>e= .returned (hv y)∧Only Ωa W w' :=fun W=>by rw[ey];exact tleaf_any x W hx
    rw[←ey,hfin]
    have HF:=Θ hleaf
    have HY:=Θ hy
    have HA:=Θ hA
    have HV:=Θ hv'
    have HOK:=Θ hok
    have H3:=Θ h3
    have hQ:Q.length≤1000:=by omega
    clear hleaf hway ey hck hfin h3 hok hv' h1 h2 hs hx hA eS hSl hSle hy
    go_enter Tryz.func62,Tryz.ntmps62
    go_upto_region 1 with(fail)
    rw[←EB.out]
    refine Ωf (CpS w B h (.slice A Q.length cap) Q) HS0.out ?_
    intro Z hZ
    have c0:Z.cell? ⟨B,0,none⟩=some (.int .i64 (s:Int)):=by rw[←HSZ.out];exact Blk.cell hZ.a 0
    have HZ:=Θ hZ
    clear hZ HS0
    go_wp2_with fail
    refine(HWY.out _).mono ?_
    rintro e1 w1 ⟨sv,rfl,hsv,ho1⟩
    obtain⟨sA,scap,rfl,hsc1,hsc2⟩:=Ωt hsv
    rw[Ωg] at hsc2
    have HW1:=Θ (And.intro (HZ.out.keep ho1) (ΩE hsv HZ.out.only.size))
    clear hsv ho1 c0 HZ HWY
    go_wp2_with fail
    refine(HF.out _).mono ?_
    rintro e2 w2 ⟨rfl,ho2⟩
    have hstn:=ΩaT w2 y HY.out
    have hO2:Only Ωa w1 ((w2.alloc (.cells Ωw 35)).setCells w2.heap.size 0 (y.map bv)):=ho2.trans (Ωb ((Only.refl _ w2).alloc _) w2.heap.size 0 (.inr (Ωnv _)) (y.map bv))
    have hlt:B<w2.heap.size:=ΩnT (Blk.lt HW1.out.1.a) ho2.size
    have hwX:w.heap.size≤w2.heap.size:=Ωnz HW1.out.1.only.size ho2.size
    obtain⟨X,eX⟩:∃X,X=w2.heap.size:=⟨_,rfl⟩
    have hat:HaAt ((w2.alloc (.cells Ωw 35)).setCells w2.heap.size 0 (y.map bv)) w2.heap.size y:=(ΩaI w2).put rfl HY.out
    rw[←eX] at hO2 hlt hat hwX
    have hC0:CqS w B X h (.slice A Q.length cap) (.slice sA S.length scap) Q S (Ωcw y S Q 0) ((w2.alloc (.cells Ωw 35)).setCells X 0 (y.map bv)):=
     have hk:=HW1.out.1.keep hO2
     ⟨hk.a,hk.r,hk.l,Ωe HW1.out.2 hO2 (fun _ _ e=>e),hat,hk.only⟩
    have HC0:=Θ hC0
    have EX:=Θ eX
    clear hO2 hat hC0 ho2 eX HW1 HF
    go_upto_region 7 with(fail)
    rw[←EX.out]
    refine Ωf (CqS w B X h (.slice A Q.length cap) (.slice sA S.length scap) Q S (Ωcw y S Q 0)) HC0.out ?_
    intro Y hY
    have HYY:=Θ hY
    clear hY HC0 hstn EX
    go_wp2_with fail
    go_loopw [34] (fun kv wr=>∃k:Nat,kv= .int .i64 (k:Int)∧k≤Q.length∧CqS w B X h (.slice A Q.length cap) (.slice sA S.length scap) Q S (Ωcw y S Q k) wr) (fun kv _=>Q.length-(intOf kv).toNat)
    case atStart=>exact⟨0,rfl,by omega,HYY.out⟩
    case round=>
     obtain⟨k,rfl,hk,hC⟩:=hrel
     have hSQ:(S.length:Int)=(Q.length:Int):=by rw[H3.out]
     have HSQ:=Θ hSQ
     by_cases hlt2:k<Q.length
     ·have d5:decide ((k:Int)<(S.length:Int))=true:=ΩnG (by omega)
      have d6:k<S.length:=by have:=H3.out;omega
      obtain⟨sb,hsb⟩:∃b,S[k]? =some b:=⟨_,Ωnu d6⟩
      obtain⟨t,ht⟩:∃t,Q[k]? =some t:=⟨_,Ωnu hlt2⟩
      have htl:=HOK.out t (ΩnE ht)
      obtain⟨g,o,rfl,hg,hr⟩:=HA.out k t ht
      have hr:w.rangeAt g (o+k*32) (t.map bv):=hr
      have hnx:=foldK_next (x:=y) hsb ht
      obtain⟨sg,scap2,esv,hs1,hs2,hs3,hs4⟩:=Ωcd hC.s (by omega)
      simp only[Value.slice.injEq,true_and] at esv
      obtain⟨rfl,rfl⟩:=esv
      have cs:wr.cell? ⟨sg,k,none⟩=some (.bool sb):=Ωdu.cell hC.s hsb
      have k0:(0:Int)≤(k:Int):=by omega
      have k1:(k:Int)<(S.length:Int):=by omega
      have k2:(k:Int)<(Q.length:Int):=by omega
      have hal:=hC.keep ((Only.refl Ωa wr).alloc (.cells #[.bool sb] 155))
      have HC:=Θ hC
      have HNX:=Θ hnx
      have HR:=Θ hr
      have HTL:=Θ htl
      clear hC hnx hr htl hsb ht hg
      cases sb with
      |true=>
       have hk1:(Ωcw y S Q k).length =32:=Ωdj HY.out S Q k
       obtain⟨z,ez⟩:∃z,z=Ωcw y S Q k:=⟨_,rfl⟩
       have hnx2:Ωcw y S Q (k+1)=Ωbf t z:=by rw[HNX.out,ez];rfl
       obtain⟨m,em⟩:∃m,m=Ωcw y S Q (k+1):=⟨_,rfl⟩
       have hml:m.length=32:=by rw[em];exact Ωdj HY.out S Q _
       rw[←em] at hnx2
       rw[←ez] at hk1
       have hnode:∀W,Calls Tryz.prog 84 #[hv t,hv z] W fun e w' =>e= .returned (hv m)∧Only Ωa W w' :=fun W=>by rw[hnx2];exact Ωc5 _ _ (by first|exact hk1|exact HTL.out) (by first|exact hk1|exact HTL.out) W
       have hC1:=HC.out.keep ((Only.refl Ωa wr).alloc (.cells #[.bool true] 155))
       rw[←ez] at hC1
       have HN:=Θ hnode
       have HC1:=Θ hC1
       have HML:=Θ hml
       have HK1:=Θ hk1
       have EM:=Θ em
       clear hnode hC1 hml hk1 em hnx2 ez HNX
       go_upto_region 11 with(fail)
       refine Ωf (CqS w B X h (.slice (some ⟨g,o,none⟩) Q.length cap) (.slice (some ⟨sg,0,none⟩) S.length scap) Q S z) HC1.out ?_
       intro V hVV
       obtain⟨ft,hfx⟩:=Ωbp (CqS w B X h (.slice (some ⟨g,o,none⟩) Q.length cap) (.slice (some ⟨sg,0,none⟩) S.length scap) Q S z) (W0:=V.drew) (hVV.keep (Only.refl Ωa V).drew)
       obtain⟨F,hI,hF0,hF,hFS⟩:=hfx
       have f1:∀q,(ΩL (.pointer (some ⟨X,0,none⟩))).run Tryz.prog (F q)= .ok (hv z) (F q):=fun q=>Ωp (hFS q).y.range HK1.out
       have f2:∀q,(ΩL (.pointer (some ⟨g,o+k*32,none⟩))).run Tryz.prog (F q)= .ok (hv t) (F q):=fun q=>Ωp (Ωu HR.out (hFS q).only) HTL.out
       have D1:Hid (∀q,Calls Tryz.prog 84 #[hv t,hv z] (F q) fun e w' =>e= .returned (hv m)∧∃q',w' =F q'):=Θ (fun q=>(HN.out _).mono (fun e w' hh=>⟨hh.1,(hF w').1 ((hFS q).keep hh.2)⟩))
       have HFF:=Θ hF
       have HF0:=Θ hF0
       clear hF hF0 hFS hVV cs
       refine Ωs F 6 (by kernel_rfl) (by kernel_rfl) HF0.out ?_
       simp only[Ωoc,Ωoz,Ωon,List.drop_zero]
       repeat(go_big_quiet_step (with_reducible exact D1.out _))
       refine wpQuiet_nil ?_
       intro w9 hw9
       have hS9:=(HFF.out w9).2 hw9
       have hst:=ΩK hS9.y HK1.out HML.out
       have HP:=Θ (hS9.put hlt hwX HV.out HK1.out HML.out)
       clear hw9 hS9 f1 f2
       go_wp2_with fail
       go_roundw
       case rel=>exact⟨k+1,by go_num,by omega,by rw[←EM.out];exact HP.out⟩
       case measure=>simp[intOf];omega
      |false=>
       have hk1:(Ωcw y S Q k).length =32:=Ωdj HY.out S Q k
       obtain⟨z,ez⟩:∃z,z=Ωcw y S Q k:=⟨_,rfl⟩
       have hnx2:Ωcw y S Q (k+1)=Ωbf z t:=by rw[HNX.out,ez];rfl
       obtain⟨m,em⟩:∃m,m=Ωcw y S Q (k+1):=⟨_,rfl⟩
       have hml:m.length=32:=by rw[em];exact Ωdj HY.out S Q _
       rw[←em] at hnx2
       rw[←ez] at hk1
       have hnode:∀W,Calls Tryz.prog 84 #[hv z,hv t] W fun e w' =>e= .returned (hv m)∧Only Ωa W w' :=fun W=>by rw[hnx2];exact Ωc5 _ _ (by first|exact hk1|exact HTL.out) (by first|exact hk1|exact HTL.out) W
       have hC1:=HC.out.keep ((Only.refl Ωa wr).alloc (.cells #[.bool false] 155))
       rw[←ez] at hC1
       have HN:=Θ hnode
       have HC1:=Θ hC1
       have HML:=Θ hml
       have HK1:=Θ hk1
       have EM:=Θ em
       clear hnode hC1 hml hk1 em hnx2 ez HNX
       go_upto_region 12 with(fail)
       refine Ωf (CqS w B X h (.slice (some ⟨g,o,none⟩) Q.length cap) (.slice (some ⟨sg,0,none⟩) S.length scap) Q S z) HC1.out ?_
       intro V hVV
       obtain⟨ft,hfx⟩:=Ωbp (CqS w B X h (.slice (some ⟨g,o,none⟩) Q.length cap) (.slice (some ⟨sg,0,none⟩) S.length scap) Q S z) (W0:=V.drew) (hVV.keep (Only.refl Ωa V).drew)
       obtain⟨F,hI,hF0,hF,hFS⟩:=hfx
       have f1:∀q,(ΩL (.pointer (some ⟨X,0,none⟩))).run Tryz.prog (F q)= .ok (hv z) (F q):=fun q=>Ωp (hFS q).y.range HK1.out
       have f2:∀q,(ΩL (.pointer (some ⟨g,o+k*32,none⟩))).run Tryz.prog (F q)= .ok (hv t) (F q):=fun q=>Ωp (Ωu HR.out (hFS q).only) HTL.out
       have D1:Hid (∀q,Calls Tryz.prog 84 #[hv z,hv t] (F q) fun e w' =>e= .returned (hv m)∧∃q',w' =F q'):=Θ (fun q=>(HN.out _).mono (fun e w' hh=>⟨hh.1,(hF w').1 ((hFS q).keep hh.2)⟩))
       have HFF:=Θ hF
       have HF0:=Θ hF0
       clear hF hF0 hFS hVV cs
       refine Ωs F 6 (by kernel_rfl) (by kernel_rfl) HF0.out ?_
       simp only[Ωoc,Ωoz,Ωon,List.drop_zero]
       repeat(go_big_quiet_step (with_reducible exact D1.out _))
       refine wpQuiet_nil ?_
       intro w9 hw9
       have hS9:=(HFF.out w9).2 hw9
       have hst:=ΩK hS9.y HK1.out HML.out
       have HP:=Θ (hS9.put hlt hwX HV.out HK1.out HML.out)
       clear hw9 hS9 f1 f2
       go_wp2_with fail
       go_roundw
       case rel=>exact⟨k+1,by go_num,by omega,by rw[←EM.out];exact HP.out⟩
       case measure=>simp[intOf];omega
     ·obtain rfl:k=Q.length:=by omega
      have d5:decide ((Q.length:Int)<(S.length:Int))=false:=Ωny (by omega)
      have d6:¬Q.length<S.length:=by have:=H3.out;omega
      obtain⟨u,eu⟩:∃u,u=Ωcw y S Q Q.length:=⟨_,rfl⟩
      have hul:u.length=32:=by rw[eu];exact Ωdj HY.out S Q _
      rw[←eu] at hC
      have EU:=Θ eu
      have l1:(ΩL (.pointer (some ⟨X,0,none⟩))).run Tryz.prog wr= .ok (hv u) wr:=Ωp hC.y.range hul
      have l2:(ΩL (.pointer (some ⟨B,1,none⟩))).run Tryz.prog wr= .ok (hv h.root) wr:=Ωp hC.r HL.out
      have g1:∀p q,(eqGuard .eql 35 p q (hv u) (hv h.root)).run Tryz.prog wr= .ok () wr:=fun p q=>run_eqGuard_agg _ _ _ _ _ _ _ (by kernel_rfl)
      have e1:(binOp .eql 35 (hv u) (hv h.root)).run Tryz.prog wr= .ok (.bool (u==h.root)) wr:=ΩbT u h.root hul HL.out wr
      have HO:=Θ hC.only
      clear hC eu hul hlt2 hk hSQ
      go_wp2_with fail
      go_ret
      exact⟨Ωad (by rw[EU.out]),HO.out⟩
   ·have d3:((S.length:Int)==(Q.length:Int))=false:=by rw[ΩnL];omega
    have d4:((S.length:Int)!=(Q.length:Int))=true:=by simp only[bne,d3];rfl
    rw[ΩnU h3]
    clear hway hck h3 hok hv' h1 h2 hs hx hA eS hSl hSle
    go_enter Tryz.func62,Tryz.ntmps62
    go_upto_region 1 with(fail)
    rw[←EB.out]
    refine Ωf (CpS w B h (.slice A Q.length cap) Q) HS0.out ?_
    intro Z hZ
    have c0:Z.cell? ⟨B,0,none⟩=some (.int .i64 (s:Int)):=by rw[←HSZ.out];exact Blk.cell hZ.a 0
    have HZ:=Θ hZ
    clear hZ HS0
    go_wp2_with fail
    refine(HWY.out _).mono ?_
    rintro e1 w1 ⟨sv,rfl,hsv,ho1⟩
    obtain⟨sA,scap,rfl,hsc1,hsc2⟩:=Ωt hsv
    have HO:=Θ (HZ.out.only.trans ho1)
    clear hsv ho1 HZ c0
    go_wp2_with fail
    go_ret
    exact⟨rfl,HO.out⟩
end
section
open Go.RowKit Go.Shelf
attribute [local go_sem ↓ high] Ωbh Ω2 ΩG Ωaq ΩQ
theorem Ωdl{e:Ev}(he:e.Ok)(hn:e.name.size≤1000000000)(hx:e.text.size≤1000000000):(ΩaJ e).length≤17592186044416:=by
 have l1:=ΩaD e.nums he.nums_in
 have l2:=ΩY e.prev
 have l3:=Ωan e.name.data.toList (by rw[←Ωc];omega)
 have l4:=Ωan e.text.data.toList (by rw[←Ωc];omega)
 have l0:=ΩaD [e.r,e.s] (by
  intro x hx
  simp only[Ωn3,Ωol,or_false] at hx
  rcases hx with rfl|rfl
  ·exact he.r
  ·exact he.s)
 rw[←Ωc] at l3 l4
 rw[he.prev] at l2
 have l5:e.nums.length=10:=rfl
 simp only[ΩnD,Ωn8] at l0
 unfold ΩaJ Ω6
 simp only[ΩnA,ΩnD,Ωn8]
 omega
theorem ΩmB{a b:ByteArray}(h:a=b):(a==b)=true:=by
 subst h
 cases a with
 |mk d=>show(d==d)=true;simp
theorem ΩmA{a b:ByteArray}(h:¬a=b):(a==b)=false:=by
 cases a with
 |mk d=>
  cases b with
  |mk f=>
   show(d==f)=false
   rw[ΩnL]
   intro e
   exact h (by rw[e])
noncomputable def ΩdI(P:List Pers)(id:Int)(sent:Bool)(text:ByteArray)(e:Ev):Int:=
 if sent=false then 34 else if verL P e≠0 then verL P e else if e.who≠id then 35 else if e.kind≠4 then 35 else if e.text≠text then 20 else 0
def Ωak(o:Option Hd)(e:Ev)(Q:List Hs):Int:=
 match o with
 |none=>24
 |some h=>if ckP h.root h.size.toNat e.seq (ΩaJ e) Q=true then 0 else 41
structure RcS(w:World)(base E:Nat)(c:Cli)(e:Ev)(W:World):Prop where
 cli:Ωv W base c
 ev:Blk W E tEv (evC e).toArray
 only:Only Ωa w W
theorem RcS.none_{w:World}{base E:Nat}{c:Cli}{e:Ev}{W W' :World}(h:RcS w base E c e W)(ho:Only Ωa W W'):RcS w base E c e W' :=⟨h.cli.nn ho,h.ev.only ho (fun h=>h.elim),h.only.trans ho⟩
theorem RcS.ld{w:World}{base E:Nat}{c:Cli}{e:Ev}{W:World}(h:RcS w base E c e W)(he:e.prev.length=32):(Ωcx (.pointer (some ⟨E,0,none⟩))).run Tryz.prog W= .ok (.agg (evC e).toArray) W:=
 ΩaY (fun j v hj=>by rw[ΩnR,h.ev.cell];simpa using hj) he
theorem RcS.su{w:World}{base E:Nat}{c:Cli}{e:Ev}{W:World}(h:RcS w base E c e W):(Ωge (.pointer (some ⟨c.C,1,none⟩))).run Tryz.prog W= .ok (setV c.pv) W:=ΩcH (Ωg2 h.cli.blk)
structure RcT(w:World)(base E N:Nat)(c c9:Cli)(n:Hd)(e:Ev)(W:World):Prop where
 cli:Ωv W base c9
 step:Ωl w W c c9
 hd:HdAt W N n
 ev:Blk W E tEv (evC e).toArray
 only:Only Ωa w W∨True
theorem RcT.none_{w:World}{base E N:Nat}{c c9:Cli}{n:Hd}{e:Ev}{W W' :World}(h:RcT w base E N c c9 n e W)(ho:Only Ωa W W'):RcT w base E N c c9 n e W' :=
 ⟨h.cli.nn ho,h.step.trans (Ωl.nn ho),Blk.only h.hd ho (fun e=>e),h.ev.only ho (fun h=>h.elim),.inr trivial⟩
theorem receipt_any(w0:World)(ht:Tab w0)(c:Cli)(base:Nat)(hb0:w0.heap.size≤base)(hcs:c.seen=c.votes)(hP:ΩS c.P)(hpub:∀p∈c.P,In p.pub)(hlen:c.P.length≤1000)(L:List Vt)(hok:Ω4 L)(hsv:ΩcW L)(hL:L.length≤1000)(hn:c.votes.length≤50000)(sv:Value)(e:Ev)(he:e.Ok)(hen:e.name.size≤1000000000)(het:e.text.size≤1000000000)(Q:List Hs)(hqok:HsOk Q)(qv:Value)(w:World)(how:Only Ωa w0 w)(h:Ωv w base c)(hb:base≤w.heap.size)(hs:VtSl w sv L)(ha:ΩdT c sv)(hq:HaSl w qv Q)(hqa:ΩdT c qv):
  Calls Tryz.prog 30 #[.pointer (some ⟨c.C,0,none⟩),.agg (evC e).toArray,qv,sv] w fun e' w' =>(ΩdI c.P c.id c.sent c.text e≠0∧e' = .returned (.int .i64 (ΩdI c.P c.id c.sent c.text e))∧Ωv w' base c∧Ωl w w' c c)∨(ΩdI c.P c.id c.sent c.text e=0∧∃o,ΩbH c.P L o∧e' = .returned (.int .i64 (Ωak o e Q))∧∃vv mv,Ωv w' base {c.took vv mv L with rc:=c.rc||decide (Ωak o e Q=0)}∧Ωl w w' c {c.took vv mv L with rc:=c.rc||decide (Ωak o e Q=0)}):=by
 obtain⟨E,eE⟩:∃E,E=w.heap.size:=⟨_,rfl⟩
 have h0:RcS w base E c e (w.alloc (.cells (evC e).toArray tEv)):=⟨h.nn ((Only.refl _ _).alloc _),by rw[eE];exact Blk.new w _ _,(Only.refl _ _).alloc _⟩
 have H0:=Θ h0
 have EE:=Θ eE
 have H:=Θ h
 have HE:=Θ he
 have HVE:Hid (∀W,RcS w base E c e W→Calls Tryz.prog 61 #[setV c.pv,.agg (evC e).toArray] W fun e' w' =>e' = .returned (.int .i64 (verL c.P e))∧Only Ωa W w'):=Θ (fun W hW=>everify_any c.P c.pv _ _ _ _ _ e he (by omega) (by omega) W (ΩT.sl hW.cli.pers) hpub (ht.none (how.trans hW.only)))
 have HTAB:Hid (Tab w0):=Θ ht
 have HHOW:Hid (Only Ωa w0 w):=Θ how
 have HCE:Hid (∀W,RcS w base E c e W→Calls Tryz.prog 46 #[.pointer (some ⟨c.C,0,none⟩),sv] W fun e w' =>∃o,Ωai (fun h=>h∈L.map (·.head)) (fun h=>Ωba c.P h L) o∧e= .returned (.tuple #[.agg (hdC (hdOr o)).toArray,.bool o.isSome])∧∃vv mv,Ωv w' base (c.took vv mv L)∧Ωl W w' c (c.took vv mv L)):=Θ (fun W hW=>ΩeT w0 ht c base hb0 hcs hP hlen L hok hL hn sv W (how.trans hW.only) hW.cli (Ωnz hb hW.only.size) (hs.step hW.only (fun _ _ _ _ e=>e)) ha)
 obtain⟨qA,qcap,rfl,hq1,hq2,hq3⟩:=id hq
 have HQ:=Θ (And.intro hq hqa)
 have HVS:=Θ (And.intro hs ha)
 have HOK:=Θ hok
 have HSV:=Θ hsv
 have HQOK:=Θ hqok
 have hEw:w.heap.size≤E:=by omega
 clear h0 eE h he hq hqa hs ha hok hsv hqok ht how hpub hq1 hq2 hq3
 obtain⟨pre,epre⟩:∃v,v=ΩdI c.P c.id c.sent c.text e:=⟨_,rfl⟩
 rw[←epre]
 unfold ΩdI at epre
 have HPRE:=Θ epre
 clear epre
 go_enter Tryz.func30,Tryz.ntmps30
 go_upto_region 1 with(fail)
 rw[←EE.out]
 refine Ωf (RcS w base E c e) H0.out ?_
 intro Y hY
 have c7:=Ωk0 hY.cli.blk
 have HY:=Θ hY
 clear hY H0 EE
 have HOUT:Hid (∀(W:World) (v:Int),RcS w base E c e W→pre=v→v≠0→pre≠0∧Ending.returned (.int .i64 v)=Ending.returned (.int .i64 pre)∧Ωv W base c∧Ωl w W c c):=Θ (fun W v hW h1 h2=>by subst h1;exact⟨h2,rfl,hW.cli,Ωl.nn hW.only⟩)
 obtain⟨sb,esb⟩:∃sb,sb=c.sent:=⟨_,rfl⟩
 rw[←esb] at HPRE c7
 have ESB:=Θ esb
 clear esb
 cases sb with
 |false=>
  have hp:pre=34:=by rw[HPRE.out,ΩnV rfl]
  have HP:=Θ hp
  clear hp
  go_wp2_with fail
  go_ret
  exact .inl (HOUT.out _ _ HY.out HP.out (by decide))
 |true=>
  have hp:pre=if verL c.P e≠0 then verL c.P e else if e.who≠c.id then 35 else if e.kind≠4 then 35 else if e.text≠c.text then 20 else 0:=by rw[HPRE.out,ΩnU (by decide)]
  have HP:=Θ hp
  clear hp
  go_upto_region 5 with(fail)
  have l1:=(HY.out.none_ ((Only.refl Ωa Y).drew)).su
  have l2:=(HY.out.none_ ((Only.refl Ωa Y).drew)).ld HE.out.prev
  go_region_law (first
   |(go_simp;go_at_call 61;refine(HVE.out _ (HY.out.none_ ((Only.refl Ωa Y).drew))).mono ?_;rintro e1 w1 ⟨rfl,ho1⟩))
  all_goals
   have hY1:=(HY.out.none_ ((Only.refl Ωa Y).drew)).none_ ho1
   obtain⟨vr,evr⟩:∃v,v=verL c.P e:=⟨_,rfl⟩
   rw[←evr] at HP⊢
   have HY1:=Θ hY1
   clear hY1 ho1 l1 l2 c7 evr HVE HY
   by_cases hv:vr=0
   ·subst hv
    have hp1:pre=if e.who≠c.id then 35 else if e.kind≠4 then 35 else if e.text≠c.text then 20 else 0:=by rw[HP.out,ΩnU (by decide)]
    have HP1:=Θ hp1
    clear hp1 HP
    have k0:=cli_id HY1.out.cli.blk
    have k8:=ΩkY HY1.out.cli.blk
    have e1:=HY1.out.ev.cell 1
    have e2:=HY1.out.ev.cell 2
    have e9:=HY1.out.ev.cell 9
    simp only[evC,Ωn9,ΩnC,ΩnF,ΩnK] at e1 e2 e9
    obtain⟨ew,eew⟩:∃x,x=e.who:=⟨_,rfl⟩
    obtain⟨ek,eek⟩:∃x,x=e.kind:=⟨_,rfl⟩
    obtain⟨et,eet⟩:∃x,x=e.text:=⟨_,rfl⟩
    obtain⟨ci,eci⟩:∃x,x=c.id:=⟨_,rfl⟩
    obtain⟨ct,ect⟩:∃x,x=c.text:=⟨_,rfl⟩
    rw[←eew,←eek,←eet,←eci,←ect] at HP1
    rw[←eew] at e2
    rw[←eek] at e1
    rw[←eet] at e9
    rw[←eci] at k0
    rw[←ect] at k8
    clear eew eek eet eci ect
    by_cases hw:ew=ci
    ·have b1:(ew==ci)=true:=by simpa using hw
     have b1n:(ew !=ci)=false:=by simp[bne,b1]
     have hp2:pre=if ek≠4 then 35 else if et≠ct then 20 else 0:=by rw[HP1.out,ΩnU (by simpa using hw)]
     have HP2:=Θ hp2
     clear hp2 HP1 hw
     by_cases hk:ek=4
     ·subst hk
      have hp3:pre=if et≠ct then 20 else 0:=by rw[HP2.out,ΩnU (by decide)]
      have HP3:=Θ hp3
      clear hp3 HP2
      go_upto_region 8 with(fail)
      go_quiet (fail)
      go_upto_region 10 with(fail)
      refine Ωf (fun W=>RcS w base E c e W∧W.cell? ⟨E,9,none⟩=some (.string et)∧W.cell? ⟨c.C,8,none⟩=some (.string ct)) ⟨HY1.out.none_ ((Only.refl _ _).drewN _),e9,k8⟩ ?_
      clear e1 e2 k0
      rintro Z ⟨hZ,e9,k8⟩
      have HZ:=Θ hZ
      clear hZ HY1
      by_cases htx:et=ct
      ·have b3:(et.toList==ct.toList)=true:=by rw[←beq_toListBytes];exact ΩmB htx
       have hp4:pre=0:=by rw[HP3.out,ΩnU (by simpa using htx)]
       have HP4:=Θ hp4
       clear hp4 HP3 htx
       go_quiet (fail)
       go_upto_region 12 with(fail)
       refine Ωf (RcS w base E c e) (HZ.out.none_ ((Only.refl _ _).drewN _)) ?_
       intro Z2 hZ2
       have hce:=HCE.out Z2 hZ2
       have hoff:¬c.foot E:=hZ2.cli.off hZ2.ev (by decide) (by decide) (by decide)
       have HZ2:=Θ hZ2
       have HCE2:=Θ hce
       clear hZ2 hce HZ HCE e9 k8 b3
       go_wp2_with fail
       refine HCE2.out.mono ?_
       rintro e5 w5 ⟨o,hbo,rfl,vv,mv,hc5,hs5⟩
       have hho:=Ωhb HOK.out hbo
       have hhs:=ΩbY HSV.out hbo
       have hev5:Blk w5 E tEv (evC e).toArray :=HZ2.out.ev.only hs5.1 hoff
       have hs5w:Ωl w w5 c (c.took vv mv L):=(Ωl.nn (c:=c) HZ2.out.only).trans hs5
       obtain⟨n,en⟩:∃n,n=hdOr o:=⟨_,rfl⟩
       rw[←en] at hho hhs⊢
       have hnl:=hho.root
       obtain⟨c9,ec9⟩:∃c9:Cli,c9=c.took vv mv L:=⟨_,rfl⟩
       rw[←ec9] at hc5 hs5w
       have hst:=Ωa9 w5 hnl
       have hnw:=Ωal
       have ho6:Only Ωa w5 ((w5.alloc (.cells hd0C 37)).setCells w5.heap.size 0 (hdC n)):=Ωb ((Only.refl _ _).alloc _) w5.heap.size 0 (.inr (Ωnv _)) _
       have ha6:HdAt ((w5.alloc (.cells hd0C 37)).setCells w5.heap.size 0 (hdC n)) w5.heap.size n:=Ωj (Blk.new w5 _ _) (by rw[Ωo hnl];rfl)
       obtain⟨N,eN⟩:∃N,N=w5.heap.size:=⟨_,rfl⟩
       rw[←eN] at ho6 ha6
       have H6:Hid (RcT w base E N c c9 n e ((w5.alloc (.cells hd0C 37)).setCells N 0 (hdC n))):=Θ ⟨hc5.nn ho6,hs5w.trans (Ωl.nn ho6),ha6,hev5.only ho6 (fun h=>h.elim),.inr trivial⟩
       have EN:=Θ eN
       have EC9:=Θ ec9
       have EHN:=Θ en
       have HBO:Hid (ΩbH c.P L o):=Θ hbo
       have HHO:=Θ hho
       have HHS:=Θ hhs
       clear ho6 ha6 eN ec9 en hbo hho hhs hc5 hs5 hs5w hev5 HCE2 HZ2
       go_upto_region 13 with(fail)
       rw[←EN.out]
       refine Ωf (RcT w base E N c c9 n e) H6.out ?_
       clear H6 EN hst hnw
       intro V hV
       have HV:=Θ hV
       clear hV
       have HFIN:Hid (∀W,RcT w base E N c c9 n e W→Ωak o e Q≠0→Ωv W base {c.took vv mv L with rc:=c.rc||decide (Ωak o e Q=0)}∧Ωl w W c {c.took vv mv L with rc:=c.rc||decide (Ωak o e Q=0)}):=Θ (fun W hW hr=>by
        have e0:({c.took vv mv L with rc:=c.rc||decide (Ωak o e Q=0)}:Cli)=c9:=by rw[Ωny hr,Bool.or_false,EC9.out];rfl
        rw[e0]
        exact⟨hW.cli,hW.step⟩)
       cases o with
       |none=>
        go_wp2_with fail
        go_ret
        exact .inr ⟨HP4.out,none,HBO.out,rfl,vv,mv,HFIN.out _ HV.out (by show(24:Int)≠0;decide)⟩
       |some m=>
        have hm:n=m:=EHN.out
        obtain⟨s1,es1,hs1⟩:=HHS.out
        have hpo:Ωak (some m) e Q=if ckP n.root s1 e.seq (ΩaJ e) Q=true then 0 else 41:=by
         rw[←hm]
         unfold Ωak
         simp only[es1,Ωoj]
        have HPO:=Θ hpo
        obtain⟨β,eβ⟩:∃β,β=ckP n.root s1 e.seq (ΩaJ e) Q:=⟨_,rfl⟩
        rw[←eβ] at HPO
        have HENC:Hid (∀W,RcT w base E N c c9 n e W→Calls Tryz.prog 63 #[.agg (evC e).toArray] W (Ωq (ΩaJ e) W)):=Θ (fun W hW=>eencode_any e HE.out (by omega) (by omega) W (HTAB.out.none (hW.step.only H.out HHOW.out hb0)))
        have HCK:Hid (∀(t:ByteArray) W,t.data.toList=ΩaJ e→RcT w base E N c c9 n e W→Calls Tryz.prog 62 #[.agg (hdC n).toArray,.int .i64 e.seq,.string t,.slice qA Q.length qcap] W fun e' w' =>e' = .returned (.bool β)∧Only Ωa W w'):=Θ (fun t W ht hW=>by
         have h1:=checkpath_any n s1 es1 hs1 HHO.out.root e.seq t (by rw[Ωc,ht];exact Ωdl HE.out (by omega) (by omega)) Q HQOK.out (.slice qA Q.length qcap) W (HQ.out.1.step hW.step.1 (fun a n cap e=>HQ.out.2 a n cap e))
         rw[ht,←eβ] at h1
         exact h1)
        clear hm hpo eβ es1
        go_upto_region 15 with(fail)
        have l1:=ΩC (Ωd (HV.out.none_ ((Only.refl Ωa V).drew)).hd) HHO.out.root
        have l2:=ΩaY (W:=V.drew) (g:=E) (o:=0) (e:=e) (fun j v hj=>by rw[ΩnR,(HV.out.none_ ((Only.refl Ωa V).drew)).ev.cell];simpa using hj) HE.out.prev
        have e0:=HV.out.ev.cell 0
        simp only[evC,Ωn9,ΩnC,ΩnF] at e0
        go_region_law (first
         |(go_simp;go_at_call 63;refine(HENC.out _ (HV.out.none_ ((Only.refl Ωa V).drew))).mono ?_;rintro e7 w7 ⟨t7,rfl,ht7,ho7⟩;have hT7:=(HV.out.none_ ((Only.refl Ωa V).drew)).none_ ho7;have m1:=ΩC (Ωd hT7.hd) HHO.out.root;have m0:w7.cell? ⟨E,0,none⟩=some (.int .i64 e.seq):=hT7.ev.cell 0)
         |(go_simp;go_at_call 62;refine(HCK.out _ _ ht7 hT7).mono ?_;rintro e8 w8 ⟨rfl,ho8⟩))
        all_goals
         have hT8:=hT7.none_ ho8
         have HT8:=Θ hT8
         clear hT8 hT7 m1 m0 ho8 ho7 ht7 l1 l2 e0 HENC HCK HV
         cases β with
         |true=>
          have hz:Ωak (some m) e Q=0:=by rw[HPO.out];rfl
          have hC9:c9.C=c.C:=by rw[EC9.out];rfl
          have hT:=HT8.out
          have b3:=ΩhN hT.cli.blk hT.cli.hok.root true
          have s3:=Ωmc hT.cli.blk hT.cli.hok.root
          have f3:=hT.cli.blk.frozen 44
          have hon:Only (fun k=>k=c9.C) w8 (w8.setCell ⟨c9.C,44,none⟩ (.bool true)):=(Only.refl (fun k=>k=c9.C) w8).setCell (p:=⟨c9.C,44,none⟩) (.inl rfl) _
          have hfin:=hT.cli.recell (c' :={c9 with rc:=true}) hon b3 rfl rfl rfl rfl rfl rfl rfl rfl
          have hst:=hT.step.trans (Ωgs (c' :={c9 with rc:=true}) hon rfl rfl rfl rfl)
          have ee:({c.took vv mv L with rc:=c.rc||decide (Ωak (some m) e Q=0)}:Cli)={c9 with rc:=true}:=by rw[ΩnG hz,Bool.or_true,EC9.out]
          rw[←ee] at hfin hst
          rw[hC9] at s3 f3 hfin hst
          have HF:=Θ (And.intro hfin hst)
          have HZ9:=Θ hz
          clear hfin hst ee b3 hon hT hC9 hz
          go_wp2_with fail
          go_ret
          exact .inr ⟨HP4.out,some m,HBO.out,ΩB HZ9.out.symm,vv,mv,HF.out⟩
         |false=>
          have hz:Ωak (some m) e Q=41:=by rw[HPO.out];rfl
          have HZ9:=Θ hz
          clear hz
          go_wp2_with fail
          go_ret
          exact .inr ⟨HP4.out,some m,HBO.out,ΩB HZ9.out.symm,vv,mv,HFIN.out _ HT8.out (by rw[HZ9.out];decide)⟩
      ·have b3:(et.toList==ct.toList)=false:=by rw[←beq_toListBytes];exact ΩmA htx
       have hp4:pre=20:=by rw[HP3.out,ΩnV htx]
       have HP4:=Θ hp4
       clear hp4 HP3 htx
       go_quiet (fail)
       go_wp2_with fail
       go_ret
       exact .inl (HOUT.out _ _ (HZ.out.none_ ((Only.refl _ _).drewN _)) HP4.out (by decide))
     ·have b2:(ek==4)=false:=by simpa using hk
      have b2n:(ek !=4)=true:=by simp[bne,b2]
      have hp3:pre=35:=by rw[HP2.out,ΩnV hk]
      have HP3:=Θ hp3
      clear hp3 HP2 hk
      go_upto_region 8 with(fail)
      go_quiet (fail)
      go_wp2_with fail
      go_ret
      exact .inl (HOUT.out _ _ (HY1.out.none_ ((Only.refl _ _).drewN _)) HP3.out (by decide))
    ·have b1:(ew==ci)=false:=by simpa using hw
     have b1n:(ew !=ci)=true:=by simp[bne,b1]
     have hp2:pre=35:=by rw[HP1.out,ΩnV hw]
     have HP2:=Θ hp2
     clear hp2 HP1 hw
     go_upto_region 8 with(fail)
     go_quiet (fail)
     go_wp2_with fail
     go_ret
     exact .inl (HOUT.out _ _ (HY1.out.none_ ((Only.refl _ _).drewN _)) HP2.out (by decide))
   ·have hp1:pre=vr:=by rw[HP.out,ΩnV hv]
    have HP1:=Θ hp1
    have HV:=Θ hv
    have b0:(vr==0)=false:=by simpa using hv
    clear hp1 HP hv
    go_wp2_with fail
    go_ret
    exact .inl (HOUT.out _ _ HY1.out HP1.out HV.out)
end
section
open Go.RowKit Go.Shelf
structure Vw where
 id:Int
 P:List Pers
 sent:Bool
 text:ByteArray
 head:Hd
 votes:List Vt
 rc:Bool
def Cli.vw(c:Cli):Vw:=⟨c.id,c.P,c.sent,c.text,c.head,c.votes,c.rc⟩
def Has(w0:World)(base C top:Nat)(s:Vw)(W:World):Prop:=
 ∃c:Cli,c.C=C∧c.vw=s∧Ωv W base c∧c.seen=c.votes∧base≤W.heap.size∧top≤W.heap.size∧Only Ωa w0 W∧w0.heap.size≤base∧∀k,c.foot k→k<top
def Near(base:Nat)(W W' :World):Prop:=
 ∃S:Nat→Prop,Only S W W'∧(∀k,S k→base≤k)∧∀g t cs,Blk W g t cs→tCli≠t→67≠t→43≠t→¬S g
theorem Near.blk{base:Nat}{W W' :World}(h:Near base W W'){g:Nat}{t:TypeId}{cs:Array Value}(hb:Blk W g t cs)(h1:tCli≠t)(h2:67≠t)(h3:43≠t):Blk W' g t cs:=by
 obtain⟨S,ho,_,hS⟩:=h
 exact hb.only ho (hS g t cs hb h1 h2 h3)
theorem Near.own{base b:Nat}{W W' :World}(h:Near base W W'){e:TypeId}{size n:Nat}{v:Value}{xs:List Value}(hb:W.ownsRow b e size v n xs)(h1:tCli≠e)(h2:67≠e)(h3:43≠e):W'.ownsRow b e size v n xs:=by
 obtain⟨S,ho,_,hS⟩:=h
 refine Ωe hb ho (fun k hk=> ?_)
 rcases hb.2 with⟨rfl,_⟩|⟨g,cap,cur,rfl,_,hh,_⟩
 ·simp[Value.ownBlock] at hk
 ·have:g=k:=by simpa [Value.ownBlock] using hk
  subst this
  exact hS g e cur hh h1 h2 h3
theorem Near.only{base:Nat}{w0 W W' :World}(h:Near base W W')(h0:Only Ωa w0 W)(hb:w0.heap.size≤base):Only Ωa w0 W' :=by
 obtain⟨S,ho,h1,_⟩:=h
 exact h0.trans' ho (fun i hi hf=>by have:=h1 i hf;omega)
theorem Ωl.near{W W' :World}{base:Nat}{c c' :Cli}(h:Ωl W W' c c')(hc:Ωv W base c):Near base W W' :=
 ⟨c.foot,h.1,fun _ hk=>(hc.foot_in hk).1,fun _ _ _ hb h1 h2 h3=>hc.off hb h1 h2 h3⟩
theorem Has.size{w0 W:World}{base C top:Nat}{s:Vw}(h:Has w0 base C top s W):top≤W.heap.size:=by
 obtain⟨c,_,_,_,_,_,h1,_⟩:=h
 exact h1
theorem Has.only{w0 W:World}{base C top:Nat}{s:Vw}(h:Has w0 base C top s W):Only Ωa w0 W:=by
 obtain⟨c,_,_,_,_,_,_,h1,_⟩:=h
 exact h1
theorem Has.keep{w0 W W' :World}{base C top:Nat}{s:Vw}(h:Has w0 base C top s W)(ho:Only Ωa W W'):Has w0 base C top s W' :=by
 obtain⟨c,h1,h2,h3,h4,h5,h6,h7,h8,h9⟩:=h
 exact⟨c,h1,h2,h3.nn ho,h4,Ωnz h5 ho.size,Ωnz h6 ho.size,h7.trans ho,h8,h9⟩
theorem Has.of{w0 W W' :World}{base C:Nat}{c c' :Cli}(hC:c'.C=C)(h0:Only Ωa w0 W)(hb:w0.heap.size≤base)(hbw:base≤W.heap.size)(hc:Ωv W base c)(hs:Ωl W W' c c')(hc' :Ωv W' base c')(hv:c'.seen=c'.votes):Has w0 base C W'.heap.size c'.vw W' :=
 ⟨c',hC,rfl,hc',hv,Ωnz hbw hs.1.size,Ωnv _,(hs.near hc).only h0 hb,hb,fun _ hk=>(hc'.foot_in hk).2⟩
def Off(base:Nat)(W:World)(v:Value):Prop:=∀c,Ωv W base c→ΩdT c v
theorem Ωif(base:Nat)(W:World):Off base W (.slice none 0 0):=fun c _ a n cap h=>by cases h
theorem off_own{base b:Nat}{W:World}{e:TypeId}{size n:Nat}{v:Value}{xs:List Value}(hb:W.ownsRow b e size v n xs)(h1:tCli≠e)(h2:67≠e)(h3:43≠e):Off base W v:=fun c hc a m cap hv hk=>by
 rcases hb.2 with⟨rfl,_⟩|⟨g,cap',cur,rfl,_,hh,_⟩
 ·cases hv
 ·cases hv
  exact hc.off hh h1 h2 h3 hk
theorem apart_top{b n:Nat}{W:World}{c:Cli}{top:Nat}{sv:Value}{xs:List Value}(hown:W.ownsRow b 43 36 sv n xs)(hb:top≤b)(ht:∀k,c.foot k→k<top):ΩdT c sv:=fun a m cap hv hk=>by
 rcases hown.2 with⟨rfl,_⟩|⟨g,cap',cur,rfl,hg,hh,_⟩
 ·cases hv
 ·cases hv
  have:=ht g hk
  omega
def OffV(base top:Nat)(W:World)(v:Value):Prop:=∀c,Ωv W base c→(∀k,c.foot k→k<top)→ΩdT c v
theorem offV_top{b n:Nat}{W:World}{base top:Nat}{sv:Value}{xs:List Value}(hown:W.ownsRow b 43 36 sv n xs)(hb:top≤b):OffV base top W sv:=fun _ _ ht=>apart_top hown hb ht
theorem Ωl2(w0:World)(id:Int)(P:List Pers)(hlen:P.length≤1000)(pv:Value)(w:World)(h0:Only Ωa w0 w)(hp:Ωa6 w pv P):
  Calls Tryz.prog 17 #[.int .i64 id,setV pv] w fun e w' =>∃C,e= .returned (.pointer (some ⟨C,0,none⟩))∧Has w0 w.heap.size C w'.heap.size ⟨id,P,false,⟨#[]⟩,hd0,[],false⟩ w'∧Only Ωa w w' :=
 (new_any id P hlen pv w hp).mono (fun _ _ ⟨C,_,h1,h2,h3⟩=>⟨C,h1,⟨_,rfl,rfl,h2,rfl,h3.size,Ωnv _,h0.trans h3,h0.size,fun _ hk=>(h2.foot_in hk).2⟩,h3⟩)
theorem has_head(w0:World)(ht:Tab w0){base C top:Nat}{s:Vw}(hP:ΩS s.P)(hlen:s.P.length≤1000)(hsm:Ωah s.head)(L:List Vt)(hok:Ω4 L)(hsv:ΩcW L)(hL:L.length≤1000)(hn:s.votes.length≤50000)(sv:Value)(Q:List Hs)(hqok:HsOk Q)(hQ:Q.length≤100000)(qv:Value)(w:World)(h:Has w0 base C top s w)(hs:VtSl w sv L)(hsa:OffV base top w sv)(hq:HaSl w qv Q)(hqa:Off base w qv):
  Calls Tryz.prog 19 #[.pointer (some ⟨C,0,none⟩),sv,qv] w fun e w' =>∃o,ΩbH s.P L o∧e= .returned (.int .i64 (Ωat o (Ωx s.head) Q))∧Has w0 base C w'.heap.size {s with votes:=ΩA s.votes L,head:=Ω5 o (Ωx s.head) Q s.head} w'∧Near base w w' :=by
 obtain⟨c,rfl,rfl,h3,h4,h5,h6,h7,h8,h9⟩:=h
 refine(ΩkJ w0 ht c base h8 h4 hP hlen hsm L hok hsv hL hn sv Q hqok hQ qv w h7 h3 h5 hs (hsa c h3 h9) hq (hqa c h3)).mono ?_
 rintro e w' ⟨o,ho,he,vv,mv,hc,hst⟩
 exact⟨o,ho,he,Has.of rfl h7 h8 h5 h3 hst hc rfl,hst.near h3⟩
theorem Ωfe(w0:World)(ht:Tab w0){base C top:Nat}{s:Vw}(hP:ΩS s.P)(hlen:s.P.length≤1000)(hn:s.votes.length≤100000)(w:World)(h:Has w0 base C top s w):
  Calls Tryz.prog 20 #[.pointer (some ⟨C,0,none⟩)] w fun e w' =>∃ov,e= .returned ov∧BlSl w' ov (blL s.P s.votes)∧Only Ωa w w' :=by
 obtain⟨c,rfl,rfl,h3,h4,h5,h6,h7,h8,h9⟩:=h
 exact ΩhQ w0 ht c base hP hlen hn w h7 h3
theorem has_safe(w0:World)(ht:Tab w0){base C top:Nat}{s:Vw}(hP:ΩS s.P)(hlen:s.P.length≤1000)(hn:s.votes.length≤100000)(w:World)(h:Has w0 base C top s w):
  Calls Tryz.prog 22 #[.pointer (some ⟨C,0,none⟩)] w fun e w' =>e= .returned (.bool (s.rc&&(blL s.P s.votes).isEmpty))∧Only Ωa w w' :=by
 obtain⟨c,rfl,rfl,h3,h4,h5,h6,h7,h8,h9⟩:=h
 exact safe_any w0 ht c base hP hlen hn w h7 h3
end
section
open Go.RowKit Go.Shelf
def aph(ts:Array TypeId)(t:TypeId)(vs:Array Value):Sem Value:=Builtin.append_ ts t vs
theorem Ωlf(ts:Array TypeId)(t:TypeId)(vs:Array Value):Builtin.append_ ts t vs=aph ts t vs:=rfl
theorem ΩjY{h:Hs}(hl:h.length=32):(hbC h).length =32:=by unfold hbC;rw[ΩnN];exact hl
theorem Ωa1(W:World)(base:Nat)(v u:Value)(M N:List Hs)(hN:HsOk N)(hown:ΩO W base v M.length M)(hsrc:HaSl W u N)(hsm:M.length+N.length≤1000000)(hb:base≤W.heap.size)(ty:TypeId):
  ∃A cap W',(aph #[59,59] ty #[v,u]).run Tryz.prog W= .ok (.slice A (M++N).length cap) W'∧ΩO W' base (.slice A (M++N).length cap) (M++N).length (M++N)∧W.grownBy W' v.ownBlock∧((Value.slice A (M++N).length cap).ownBlock =v.ownBlock∨(Value.slice A (M++N).length cap).ownBlock =some W.heap.size):=by
 obtain⟨ie,z,hie,hsz,hz,hzc,hby⟩:=Ωct
 obtain⟨A0,cap0,rfl,hc1,hc2,hA⟩:=hsrc
 have hl:(N.flatMap hbC).length =N.length*32:=Ωl1 N hN
 have h1:∀u∈N.flatMap hbC,u.oneCell' =true:=fun u hu=>by
  obtain⟨q,_,hq⟩:=List.mem_flatMap.1 hu
  exact ΩgM q u hq
 by_cases h0:N=[]
 ·subst h0
  obtain⟨A,cap,rfl,g1,g2⟩:=Ωt hown
  rw[Ωox]
  have hs:Src Tryz.prog ie.size 59 (.slice A0 0 cap0) 0 [] W:=by
   cases A0 with
   |none=>exact Src.ofNil W Tryz.underlying59 cap0
   |some a=>exact Src.ofSlice W Tryz.underlying59 a 0 cap0 [] (by rw[Nat.zero_mul];rfl) (fun j u h=>by simp at h) (fun u h=>by cases h)
  exact⟨A,cap,W,run_append_nothing W _ _ ty 35 ie Tryz.underlying59 hie A M.length cap g1 _ hs,hown,⟨rfl,rfl,rfl,Ωnv _,fun _ _ _=>rfl⟩,.inl rfl⟩
 ·obtain⟨q,hq⟩:∃q,N[0]? =some q:=by
   cases N with
   |nil=>exact absurd rfl h0
   |cons x l=>exact⟨x,rfl⟩
  obtain⟨g,o,rfl,_,_⟩:=hA 0 q hq
  have hnews:∀j x,(N.flatMap hbC)[j]? =some x→W.cell? ((⟨g,o,none⟩:Addr).add j)=some x:=fun j x hj=>by
   have hlt:=(Ωnx.1 hj).1
   rw[hl] at hlt
   obtain⟨p,hp⟩:∃p,N[j/32]? =some p:=⟨_,Ωnu (by omega)⟩
   obtain⟨g',o',e,_,hr⟩:=hA (j/32) p hp
   cases e
   have h2:=Ωin N hN (j/32) (j%32) (ΩoL _ (by omega)) p hp
   rw[show j/32*32+j%32=j by omega,hj] at h2
   have h3:=hr (j%32) x h2.symm
   rw[show o+j/32*32+j%32=o+j by omega] at h3
   rw[ΩoK]
   exact h3
  obtain⟨v',W',hr,h2,h3,_,h5⟩:=run_append_own_at (P:=Tryz.prog) W base 59 ty 35 ie z 32 ie.bytes Tryz.underlying59 hie hz hsz rfl hzc (by omega) v M.length (M.flatMap hbC) hown ⟨g,o,none⟩ N.length cap0 (N.flatMap hbC) hl hnews h1 (by rw[Ωg];omega) (Ωnz (Ωov hsm hby) (by omega)) hb
  obtain⟨A,cap',e,_,_⟩:=Ωt h2
  subst e
  rw[←ΩnA] at hr h2 h5
  rw[←Ωn2] at h2
  exact⟨A,cap',W',hr,h2,h3,h5⟩
def haF(l:Hs):List Value:=if l.length=32 then hbC l else List.replicate 32 undef
theorem haF_len(l:Hs):(haF l).length =32:=by
 unfold haF
 split
 ·exact ΩjY (by assumption)
 ·simp
theorem ΩmJ{l:Hs}(h:l.length=32):haF l=hbC l:=by unfold haF;rw[ΩnV h]
theorem ΩkQ{M:List Hs}(hM:HsOk M):M.flatMap haF=M.flatMap hbC:=by
 induction M with
 |nil=>rfl
 |cons e l ih=>
  rw[ΩnW,ΩnW,ΩmJ (hM e (by simp)),ih (fun x hx=>hM x (by simp[hx]))]
theorem ΩgN{M:List Hs}(hM:HsOk M){l:Hs}(hl:l.length=32)(i:Nat):HsOk (M.set i l):=fun x hx=>by
 rcases List.mem_or_eq_of_mem_set hx with h|rfl
 ·exact hM x h
 ·exact hl
theorem ΩO.put{w:World}{base g cap i:Nat}{M:List Hs}{l:Hs}(h:ΩO w base (.slice (some ⟨g,0,none⟩) M.length cap) M.length M)(hM:HsOk M)(hi:i<M.length)(hl:l.length=32):
  ΩO (w.setCells g (i*32) (l.map bv)) base (.slice (some ⟨g,0,none⟩) M.length cap) M.length (M.set i l):=by
 unfold ΩO at h⊢
 rw[←ΩkQ hM] at h
 rw[←ΩkQ (ΩgN hM hl i),show l.map bv=haF l from(ΩmJ hl).symm,←Ωel]
 exact ΩlL haF_len l h hi
theorem ΩO.range{w:World}{base g cap n m i:Nat}{M:List Hs}{l:Hs}(h:ΩO w base (.slice (some ⟨g,0,none⟩) n cap) m M)(hM:HsOk M)(hl:M[i]? =some l):w.rangeAt g (i*32) (l.map bv):=fun j x hj=>by
 have hj2:j<32:=by
  have:=(Ωnx.1 hj).1
  rw[ΩnN,hM l (ΩnE hl)] at this;exact this
 have h1:=Ωin M hM i j hj2 l hl
 have h2:=World.ownsRow.cells h rfl (i*32+j) x (h1.trans hj)
 rw[ΩoK,ΩnR] at h2
 exact h2
theorem Ωfv{w:World}{base g cap i:Nat}{M:List Hs}{l:Hs}(h:ΩO w base (.slice (some ⟨g,0,none⟩) M.length cap) M.length M)(hi:i<M.length)(hl:l.length=32):
  (ΩaS (.pointer (some ⟨g,i*32,none⟩)) (hv l)).run Tryz.prog w= .ok () (w.setCells g (i*32) (l.map bv)):=by
 have h32:(l.map bv).toArray.size =32:=by rw[ΩnJ,ΩnN,hl]
 have h1:i*32+32≤M.length*32:=by
  have:(i+1)*32≤M.length*32:=Nat.mul_le_mul_right _ hi
  omega
 exact run_storeAt_mid (P:=Tryz.prog) w g (i*32) 35 (l.map bv).toArray (Ωe0 h (by rw[h32];exact h1)) (by rw[h32];kernel_rfl) (all_oneCell_toArray (Ωck l))
theorem Ωjq:∀(M:List Hs) (_:HsOk M) (i j:Nat) (_:j<32) (l:Hs) (_:M[i]? =some l) (u:UInt8),(M.flatMap hbC).set (i*32+j) (bv u)=(M.set i (l.set j u)).flatMap hbC
 |[],_,_,_,_,_,h,_=>by simp at h
 |x::M,hM,0,j,hj,l,h,u=>by
  simp only[ΩnF,Option.some.injEq] at h
  subst h
  have hx:(hbC x).length =32:=ΩjY (hM x (by simp))
  rw[ΩnW,Ωot,ΩnW,Nat.zero_mul,ΩnR,List.set_append_left _ _ (by rw[hx];exact hj)]
  congr 1
  unfold hbC
  rw[List.map_set]
 |x::M,hM,i+1,j,hj,l,h,u=>by
  have hx:(hbC x).length =32:=ΩjY (hM x (by simp))
  rw[ΩnW,List.set_cons_succ,ΩnW,Ωof _ _ (by rw[hx];omega),hx,show(i+1)*32+j-32=i*32+j by omega]
  rw[Ωjq M (fun q hq=>hM q (by simp[hq])) i j hj l (by simpa using h) u]
theorem ΩO.set1{w:World}{base g cap i j:Nat}{M:List Hs}{l:Hs}(h:ΩO w base (.slice (some ⟨g,0,none⟩) M.length cap) M.length M)(hM:HsOk M)(hl:M[i]? =some l)(hj:j<32)(u:UInt8):
  ΩO (w.setCell ⟨g,i*32+j,none⟩ (bv u)) base (.slice (some ⟨g,0,none⟩) M.length cap) M.length (M.set i (l.set j u)):=by
 have h1:=ΩhA [bv u] (i*32+j) h
 unfold ΩO
 rw[←Ωjq M hM i j hj l hl u]
 exact h1
end
end Go.Proofs.YtgalfohobgjelaaGreatDoor
