/-What is proved here:a quality text is read,by the bids' code. Conditions:the text is short;the library's variables hold what their initialisers lay. -/
import Derived.Test.YtpdlbmieciabmaaGreatDoorPm14
import Derived.Test.YtpdlbmieciabmaaGreatDoorPm18
import Derived.Deep.Upon
import Derived.BigRegion
import Derived.Deep.DeepCutAuto
namespace Go.Proofs.YtpdlbmieciabmaaGreatDoor
open Go.RowKit Go.Shelf
attribute [local go_sem ↓ high] aph_eq
def QRdE(s:ByteArray)(w:World)(e:Ending)(w' :World):Prop:=∃rv code es,e= .returned (.tuple #[rv,.int .i64 code])∧EnOwn w' w.heap.size rv es.length es∧((code=0∧QRd s.data.toList es)∨(code=11∧es=[]∧∀fs,¬QRd s.data.toList fs))∧Only NoneOf w w'
theorem QRdE.bad{s:ByteArray}{w w' :World}(h:∀fs,¬QRd s.data.toList fs)(ho:Only NoneOf w w'):QRdE s w (.returned (.tuple #[.slice none 0 0,.int .i64 11])) w' :=⟨_,_,[],rfl,EnOwn.nil _ _,.inr ⟨rfl,rfl,h⟩,ho⟩
theorem QRdE.ok{s:ByteArray}{w w' :World}{rv:Value}{es:List En}(h:QRd s.data.toList es)(k:EnOwn w' w.heap.size rv es.length es)(ho:Only NoneOf w w'):QRdE s w (.returned (.tuple #[rv,.int .i64 0])) w' :=⟨_,_,es,rfl,k,.inl ⟨rfl,h⟩,ho⟩
structure QxS(s:ByteArray)(w:World)(rows:List (List ByteArray))(lines v:Value)(k:Nat)(es:List En)(W:World):Prop where
 inv:QI s.data.toList k es
 room:QB rows k es
 own:EnOwn W w.heap.size v es.length es
 rows:RowsOwn W w.heap.size lines rows.length rows
 only:Only NoneOf w W
set_option maxRecDepth 100000 in
set_option maxHeartbeats 4000000 in
theorem readq_any(s:ByteArray)(hs:s.size≤4000000)(w:World)(he:Env w):Calls Tryz.prog 32 #[.string s] w (QRdE s w):=by
 have HE:=Lib.hid he
 clear he
 go_enter Tryz.func32,Tryz.ntmps32
 go_wp2_with fail
 refine(bsplit_any s (by omega) w HE.out).mono ?_
 rintro e w1 ⟨rows,ok,rv,rfl,hsp,hown,ho1⟩
 obtain⟨A,cap,rfl,hc1,hc2,_⟩:=hown.sl
 have hst:QxS s w rows (.slice A rows.length cap) (.slice none 0 0) 0 [] w1:=⟨QI.new _,QB.new _,EnOwn.nil _ _,hown,ho1⟩
 have HST:=Lib.hid hst
 have HSP:=Lib.hid hsp
 clear hsp hown ho1 hst
 go_wp2_with fail
 go_loopw [6,19] (fun v i wr=>∃(k:Nat) (es:List En),i= .int .i64 k∧k≤rows.length∧QxS s w rows (.slice A rows.length cap) v k es wr) (fun _ i _=>rows.length-(intOf i).toNat)
 case atStart=>exact⟨0,[],rfl,Nat.zero_le _,HST.out⟩
 case round=>
  obtain⟨k,es,rfl,hk,hS⟩:=hrel
  have HS:=Lib.hid hS
  obtain⟨A2,cap2,rfl,hd1,hd2⟩:=hS.own.form
  clear hS
  by_cases hlt:k<rows.length
  ·obtain⟨r,hr⟩:∃r,rows[k]? =some r:=⟨_,List.getElem?_eq_getElem hlt⟩
   have hne:=HSP.out.1 r (List.mem_of_getElem? hr)
   obtain⟨t,r,rfl⟩:∃t q,r=t::q:=by
    cases r with
    |nil=>exact absurd rfl hne
    |cons t q=>exact⟨t,q,rfl⟩
   obtain⟨A',cap',e',_,_,hrw⟩:=HS.out.rows.sl
   cases e'
   obtain⟨g,o,u,rfl,c0,hsl⟩:=hrw k (t::r) hr
   obtain⟨A3,cap3,rfl,hf1,hf2,hat⟩:=id hsl
   obtain⟨g3,o3,cur3,rfl,hb3,hr3⟩:=hat 0 t rfl
   have t0:wr.cell? ⟨g3,o3,none⟩=some (.string t):=by simpa using hr3 0 _ rfl
   have ik:(k:Int)<rows.length:=by omega
   rw[List.length_cons] at hf1
   have HR:=Lib.hid hr
   have HSL:=Lib.hid hsl
   clear hr hrw hsl hat hr3 hne hb3
   have hrl:r.length≤1000000000:=by
    have h1:=rowsW_take_le rows (k+1)
    rw[rowsW_take HR.out] at h1
    have h2:=HSP.out.2.2
    have h3:=rowW_len (t::r)
    have h4:=size_list s
    rw[List.length_cons] at h3
    omega
   have hrs:∀x∈r,x.size≤1000000000:=fun x hx=>by
    have h1:=rowsW_take_le rows (k+1)
    rw[rowsW_take HR.out] at h1
    have h2:=HSP.out.2.2
    have h3:=rowW_mem (r:=t::r) (t:=x) (by simp[hx])
    have h4:=size_list s
    omega
   have HRS:=Lib.hid hrs
   clear hrs
   by_cases hr0:r=[]
   ·subst hr0
    go_wp2_with fail
    all_goals
     refine(bnumbers_any [] HRS.out (by omega) _ wr ⟨_,_,rfl,Nat.zero_le _,by omega,fun i p h=>by simp at h⟩ (HE.out.none HS.out.only)).mono ?_
     rintro e w2 ⟨ns,fine,nv,rfl,hn,hnv,ho2⟩
     obtain⟨A4,cap4,rfl,hg1,hg2⟩:=own_form' hnv
     have hns:ns=[]:=List.eq_nil_of_length_eq_zero (by have:=hn.2.2;simpa [rowD] using this)
     subst hns
     have HF:=Lib.hid (HS.out.inv.no HSP.out HR.out hn (.inr (.inl (by simp))))
     have HO2:=Lib.hid (HS.out.only.trans ho2)
     clear hn ho2 hnv
     cases fine
     all_goals
      go_wp2_with fail
      go_ret2
      exact QRdE.bad HF.out HO2.out
   ·have hc3:¬cap3=1:=fun e=>hr0 (List.eq_nil_of_length_eq_zero (by omega))
    have hsl1:=HSL.out.drop 1 (by simp)
    rw[List.drop_one,List.tail_cons,List.length_cons,Nat.add_sub_cancel,Nat.one_mul] at hsl1
    have HSL1:=Lib.hid hsl1
    clear hsl1
    go_wp2_with fail
    refine(bnumbers_any r HRS.out hrl _ wr HSL1.out (HE.out.none HS.out.only)).mono ?_
    rintro e w2 ⟨ns,fine,nv,rfl,hn,hnown,ho2⟩
    obtain⟨A4,cap4,rfl,hg1,hg2⟩:=own_form' hnown
    have HN:=Lib.hid hn
    have HNO:=Lib.hid hnown
    have HO2:=Lib.hid ho2
    have t2:w2.cell? ⟨g3,o3,none⟩=some (.string t):=ho2.cell_some t0 (fun e=>e)
    clear hn hnown ho2 t0 c0
    cases fine with
    |false=>
     have HF:=Lib.hid (HS.out.inv.no HSP.out HR.out HN.out (.inl rfl))
     go_wp2_with fail
     go_ret2
     exact QRdE.bad HF.out (HS.out.only.trans HO2.out)
    |true=>
     by_cases h1:ns.length=1
     ·obtain⟨n,rfl⟩:=List.length_eq_one_iff.1 h1
      obtain⟨g4,cap5,e4,_,hg4,_,_⟩:=own_form HNO.out (by simp)
      simp only[Value.slice.injEq,List.length_singleton,true_and] at e4
      obtain⟨rfl,rfl⟩:=e4
      have n0:w2.cell? ⟨g4,0,none⟩=some (.int .i64 n):=by
       have:=World.ownsRow.cells HNO.out rfl 0 (.int .i64 n) rfl
       simpa [Addr.add_mid] using this
      have hn1:((List.length [n]:Nat):Int)=1:=rfl
      by_cases ht:t=lotB
      ·have b1:=tx_litT (lot_eq.1 ht)
       unfold wLot at b1
       have HQ:=Lib.hid (HS.out.inv.lot HSP.out HR.out HN.out (lot_eq.1 ht))
       have HB:=Lib.hid (HS.out.room.lot HR.out HN.out (lot_eq.1 ht))
       have hel:=qLines_ge es
       have hel2:=textG_ge (qLines es)
       have hel3:=HS.out.room
       unfold QB at hel3
       have hel4:=rowsW_take_le rows k
       have hel5:=HSP.out.2.2
       have hel6:=size_list s
       have hesl:es.length≤1000000000:=by omega
       have hx:Only NoneOf w2 (w2.alloc (.cells #[.int .i64 0,.int .i64 n,.int .i64 0,.int .i64 0,.slice none 0 0] 37)):=(Only.refl _ _).alloc _
       obtain⟨A5,cap5,W',hrun,k1,k2⟩:=run_append_lot (w2.alloc (.cells #[.int .i64 0,.int .i64 n,.int .i64 0,.int .i64 0,.slice none 0 0] 37)) w.heap.size (.slice A2 es.length cap2) es ⟨n,0,.slice none 0 0⟩ ⟨n,0,[]⟩ (HS.out.own.none_ (HO2.out.trans hx)) ⟨rfl,rfl,OwnOf.nil _ _ _ _ _⟩ (fun _ _ _ _ _ _ e=>by cases e) w2.heap.size (Blk.new w2 _ _) hesl (Nat.le_trans (HS.out.only.trans HO2.out).size hx.size) 31
       have HNEW:Hid (QxS s w rows (.slice (some ⟨g,o,none⟩) rows.length cap) (.slice A5 (es.length+1) cap5) (k+1) (es++[⟨n,0,[]⟩]) W'):=Lib.hid ⟨HQ.out,HB.out,by rw[List.length_append,List.length_singleton];exact k1,(HS.out.rows.keep (HO2.out.trans hx) (fun _ _ e=>e) (fun _ _ _ e=>e)).ts k2 (by decide) (by decide),only_base (HS.out.only.trans (HO2.out.trans hx)) (ts_base k2) (Nat.le_refl _)⟩
       clear k1 k2 hx hel hel2 hel3 hel4 hel5 hel6 ht h1
       go_wp2_with fail
       go_roundw
       case rel=>exact⟨k+1,_,by go_num,by omega,HNEW.out⟩
       case measure=>simp[intOf];omega
      ·have b1:=tx_litF (fun e=>ht (lot_eq.2 e))
       unfold wLot at b1
       by_cases h0:es=[]
       ·have HF:=Lib.hid (HS.out.inv.no HSP.out HR.out HN.out (.inr (.inr ⟨fun e=>ht (lot_eq.2 e),h0⟩)))
        subst h0
        clear ht h1
        go_wp2_with fail
        go_ret2
        exact QRdE.bad HF.out (HS.out.only.trans HO2.out)
       ·obtain⟨es0,x,rfl⟩:∃a b,es=a++[b]:=⟨es.dropLast,es.getLast h0,(List.dropLast_concat_getLast h0).symm⟩
        have hl:(es0++[x]).length =es0.length+1:=by simp
        have hQ:=HS.out.inv.val HSP.out HR.out HN.out (fun e=>ht (lot_eq.2 e))
        have hB:=HS.out.room.val HR.out HN.out
        have HQ:=Lib.hid hQ
        have HB:=Lib.hid hB
        have hel:=qLines_vals (es:=es0++[x]) (e:=x) (by simp)
        have hel2:=textG_ge (qLines (es0++[x]))
        have hel3:=HS.out.room
        unfold QB at hel3
        have hel4:=rowsW_take_le rows k
        have hel5:=HSP.out.2.2
        have hel6:=size_list s
        have hvl:x.values.length≤1000000000:=by omega
        obtain⟨G,rfl⟩:∃G,A2=some ⟨G,0,none⟩:=by
         obtain⟨L,hL⟩:=HS.out.own
         obtain⟨G,c,e5,_⟩:=own_form hL.own (by rw[hl];omega)
         simp only[Value.slice.injEq] at e5
         exact⟨G,e5.1⟩
        have hen:=HS.out.own.none_ HO2.out
        rw[hl] at hen
        obtain⟨A6,k6,hc6,hf6,happ⟩:=run_append_value w2 w.heap.size G cap2 es0 x ⟨t,n⟩ hen hvl (HS.out.only.trans HO2.out).size w2.heap.size 35
        have hx:Only NoneOf w2 (w2.alloc (.cells #[.string t,.int .i64 n] 84)).drew :=((Only.refl _ _).alloc _).drew
        obtain⟨A7,k7,W',hrun,hf7,hc7,hen7,ho7⟩:=happ _ hx ((Blk.new w2 _ _).drew)
        have HNEW:Hid (QxS s w rows (.slice (some ⟨g,o,none⟩) rows.length cap) (.slice (some ⟨G,0,none⟩) (es0.length+1) cap2) (k+1) (es0++[{x with values:=x.values++[⟨t,n⟩]}]) (W'.setCell ⟨G,es0.length*5+4,none⟩ (.slice A7 (x.values.length+1) k7))):=Lib.hid ⟨HQ.out,HB.out,by rw[List.length_append,List.length_singleton];exact hen7,(HS.out.rows.keep HO2.out (fun _ _ e=>e) (fun _ _ _ e=>e)).ts ho7 (by decide) (by decide),only_base (HS.out.only.trans HO2.out) (ts_base ho7) (Nat.le_refl _)⟩
        have c6:=hx.cell_some hc6 (fun e=>e)
        have c7:=hx.cell_some t2 (fun e=>e)
        have c8:=hx.cell_some n0 (fun e=>e)
        have l0:(es0.length:Int)<(es0.length:Int)+1:=by omega
        have l1:(0:Int)≤(es0.length:Int):=by omega
        have hesl:es0.length≤1000000000:=by
         have:=qLines_ge (es0++[x])
         omega
        have l2:IntKind.i64.wrap (es0.length:Int)=(es0.length:Int):=IntWalk.i64_in _ (by omega)
        clear happ hen hx hen7 ho7 hel hel2 hel3 hel4 hel5 hel6 ht h1 h0 hQ hB hvl
        rw[hl] at hd1⊢
        go_upto_region 12 with(fail)
        go_region
        go_wp2_with fail
        go_roundw
        case rel=>exact⟨k+1,_,by go_num,by omega,by have:=HNEW.out;exact this⟩
        case measure=>simp[intOf];omega
     ·have d1:((ns.length:Int)==1)=false:=by
       rw[beq_eq_false_iff_ne]
       omega
      have HF:=Lib.hid (HS.out.inv.no HSP.out HR.out HN.out (.inr (.inl h1)))
      go_wp2_with fail
      go_ret2
      exact QRdE.bad HF.out (HS.out.only.trans HO2.out)
  ·obtain rfl:k=rows.length:=by omega
   have ik:¬(rows.length:Int)<rows.length:=by omega
   obtain⟨hq1,hq2⟩:=QI.all HSP.out HS.out.inv
   have HQ1:=Lib.hid hq1
   have HQ2:=Lib.hid hq2
   have hen:=HS.out.own.sl
   have hrm:=HS.out.room
   unfold QB at hrm
   have hel4:=rowsW_take_le rows rows.length
   have hel5:=HSP.out.2.2
   have hel6:=size_list s
   have htx:(textG (qLines es)).length≤100000000:=by omega
   have HEN:=Lib.hid hen
   clear hq1 hq2 hen hrm hel4 hel5 hel6
   cases ok with
   |false=>
    have HF:=Lib.hid (fun fs hq=>(by have:=(HQ2.out fs hq).1;cases this):∀fs,¬QRd s.data.toList fs)
    go_wp2_with fail
    go_ret2
    exact QRdE.bad HF.out HS.out.only
   |true=>
    go_wp2_with fail
    refine(right_any es _ wr HEN.out).mono ?_
    rintro e w2 ⟨rfl,ho2⟩
    have HO2:=Lib.hid ho2
    clear ho2
    cases hrt:rightL es with
    |false=>
     have HF:=Lib.hid (fun fs hq=>(by have:=(HQ2.out fs hq).2.1;rw[hrt] at this;cases this):∀fs,¬QRd s.data.toList fs)
     clear hrt
     go_wp2_with fail
     go_ret2
     exact QRdE.bad HF.out (HS.out.only.trans HO2.out)
    |true=>
     have HRT:=Lib.hid hrt
     clear hrt
     go_wp2_with fail
     refine(quality_any es (fun e he=>(HS.out.inv.1 e he).1) htx _ w2 (HEN.out.only HO2.out) (HE.out.none (HS.out.only.trans HO2.out)).tab).mono ?_
     rintro e w3 ⟨u,rfl,hu,ho3⟩
     have HO3:=Lib.hid (HO2.out.trans ho3)
     have HU:=Lib.hid hu
     clear hu ho3
     by_cases heq:u=s
     ·have b1:=tx_listT heq
      have HF:=Lib.hid (HQ1.out HRT.out (by rw[←HU.out,heq]))
      have HOW:=Lib.hid (HS.out.own.none_ HO3.out)
      clear heq
      go_wp2_with fail
      go_ret2
      exact QRdE.ok HF.out HOW.out (HS.out.only.trans HO3.out)
     ·have b1:=tx_listF heq
      have HF:=Lib.hid (fun fs hq=>heq (ba_ext (by have:=(HQ2.out fs hq).2.2.1;rw[HU.out,this])):∀fs,¬QRd s.data.toList fs)
      clear heq
      go_wp2_with fail
      go_ret2
      exact QRdE.bad HF.out (HS.out.only.trans HO3.out)
end Go.Proofs.YtpdlbmieciabmaaGreatDoor
