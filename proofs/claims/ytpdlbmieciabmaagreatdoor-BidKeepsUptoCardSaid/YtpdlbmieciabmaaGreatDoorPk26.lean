/-What is proved here:several parts. a bid is read,by the bids' code. Condition:the text is short. · the check that each law runs first holds. Conditions:the library's variables hold what their initialisers lay. -/
import Derived.Test.YtpdlbmieciabmaaGreatDoorPk13
import Derived.Test.YtpdlbmieciabmaaGreatDoorPk16
import Derived.Test.YtpdlbmieciabmaaGreatDoorPk18
import Derived.Test.YtpdlbmieciabmaaGreatDoorPk21
import Derived.Test.YtpdlbmieciabmaaGreatDoorPk23
import Derived.Test.YtpdlbmieciabmaaGreatDoorPk25
namespace Go.Proofs.YtpdlbmieciabmaaGreatDoor
open Go.RowKit Go.Shelf
theorem row_of{w:World}{A:Option Addr}{n cap i:Nat}{rows:List (List ByteArray)}{t:ByteArray}{r:List ByteArray}(h:RowsSl w (.slice A n cap) rows)(hi:rows[i]? =some (t::r)):
  ∃g o gi oi ci,A=some ⟨g,o,none⟩∧w.cell? ⟨g,o+i,none⟩=some (.slice (some ⟨gi,oi,none⟩) (r.length+1) ci)∧r.length+1≤ci∧ci≤9223372036854775807∧w.cell? ⟨gi,oi,none⟩=some (.string t)∧SlT 9 strC 1 w (.slice (if ci=1 then some ⟨gi,oi,none⟩ else some ⟨gi,oi+1,none⟩) r.length (ci-1)) r:=by
 obtain⟨A',cap',e',_,_,hrw⟩:=h
 cases e'
 obtain⟨g,o,u,rfl,c0,hsl⟩:=hrw i (t::r) hi
 obtain⟨A3,cap3,rfl,hf1,hf2,hat⟩:=id hsl
 obtain⟨g3,o3,cur3,rfl,hb3,hr3⟩:=hat 0 t rfl
 have t0:w.cell? ⟨g3,o3,none⟩=some (.string t):=by simpa using hr3 0 _ rfl
 rw[List.length_cons] at hf1 c0 hsl
 refine⟨g,o,g3,o3,cap3,rfl,c0,hf1,hf2,t0,?_⟩
 by_cases hc:cap3=1
 ·have hr0:r=[]:=List.eq_nil_of_length_eq_zero (by omega)
  subst hr0
  exact⟨_,_,rfl,Nat.zero_le _,by omega,fun i p hp=>by simp at hp⟩
 ·have h1:=hsl.drop 1 (by simp)
  rw[List.drop_one,List.tail_cons,Nat.add_sub_cancel,Nat.mul_one] at h1
  rw[if_neg hc]
  exact h1
theorem row_sizes{s:ByteArray}{rows:List (List ByteArray)}{ok:Bool}{i:Nat}{row:List ByteArray}(hs:SplitR s.data.toList rows ok)(hi:rows[i]? =some row):row.length≤s.size∧∀x∈row,x.size≤s.size:=by
 have h1:=rowsW_take_le rows (i+1)
 rw[rowsW_take hi] at h1
 have h2:=hs.2.2
 have h3:=rowW_len row
 have h4:=size_list s
 refine⟨by omega,fun x hx=> ?_⟩
 have h5:=rowW_mem (r:=row) (t:=x) hx
 omega
structure DpS(w w1:World)(R B:Nat)(n:Int)(qt:ByteArray)(qv:Value)(qc:List Int)(pt:ByteArray)(pv:Value)(pc:List Int)(W:World):Prop where
 ord:w.heap.size≤R∧R<w1.heap.size∧w1.heap.size≤B
 bid:Blk W B tBid #[.int .i64 n,.string qt,qv,.string pt,pv]
 res:Blk W R tBid #[.int .i64 0,.string ⟨#[]⟩,.slice none 0 0,.string ⟨#[]⟩,.slice none 0 0]
 q:OwnOf 3 inC 1 W (B+1) qv qc.length qc
 p:OwnOf 3 inC 1 W (B+1) pv pc.length pc
 one:Only NoneOf w1 W
 only:Only NoneOf w W
section
variable {w w1 W W' :World} {R B:Nat} {n:Int} {qt pt:ByteArray} {qv pv:Value} {qc pc:List Int}
theorem DpS.step(h:DpS w w1 R B n qt qv qc pt pv pc W)(ho:Only NoneOf W W'):DpS w w1 R B n qt qv qc pt pv pc W' :=⟨h.ord,h.bid.only ho (fun e=>e),h.res.only ho (fun e=>e),OwnOf.keep h.q ho (fun _ _ e=>e),OwnOf.keep h.p ho (fun _ _ e=>e),h.one.trans ho,h.only.trans ho⟩
theorem DpS.put(h:DpS w w1 R B n qt qv qc pt pv pc W)(j:Nat)(u:Value):Only (·=B) W (W.setCell ⟨B,j,none⟩ u)∧Blk (W.setCell ⟨B,j,none⟩ u) R tBid #[.int .i64 0,.string ⟨#[]⟩,.slice none 0 0,.string ⟨#[]⟩,.slice none 0 0]∧OwnOf 3 inC 1 (W.setCell ⟨B,j,none⟩ u) (B+1) qv qc.length qc∧OwnOf 3 inC 1 (W.setCell ⟨B,j,none⟩ u) (B+1) pv pc.length pc∧Only NoneOf w1 (W.setCell ⟨B,j,none⟩ u)∧Only NoneOf w (W.setCell ⟨B,j,none⟩ u):=by
 have h1:=h.ord
 have ho:Only (·=B) W (W.setCell ⟨B,j,none⟩ u):=(Only.refl (·=B) W).setCell (p:=⟨B,j,none⟩) (.inl rfl) _
 exact⟨ho,h.res.only ho (fun e=>by have e' :R=B:=e;omega),OwnOf.cur h.q ho (by omega),OwnOf.cur h.p ho (by omega),h.one.trans' ho (fun i hi e=>by have e' :i=B:=e;omega),h.only.trans' ho (fun i hi e=>by have e' :i=B:=e;omega)⟩
theorem DpS.put0(h:DpS w w1 R B n qt qv qc pt pv pc W)(m:Int):DpS w w1 R B m qt qv qc pt pv pc (W.setCell ⟨B,0,none⟩ (.int .i64 m)):=by
 obtain⟨_,h2,h3,h4,h5,h6⟩:=h.put 0 (.int .i64 m)
 exact⟨h.ord,Blk.set_ h.bid 0 _,h2,h3,h4,h5,h6⟩
theorem DpS.put1(h:DpS w w1 R B n qt qv qc pt pv pc W)(t:ByteArray):DpS w w1 R B n t qv qc pt pv pc (W.setCell ⟨B,1,none⟩ (.string t)):=by
 obtain⟨_,h2,h3,h4,h5,h6⟩:=h.put 1 (.string t)
 exact⟨h.ord,Blk.set_ h.bid 1 _,h2,h3,h4,h5,h6⟩
theorem DpS.put3(h:DpS w w1 R B n qt qv qc pt pv pc W)(t:ByteArray):DpS w w1 R B n qt qv qc t pv pc (W.setCell ⟨B,3,none⟩ (.string t)):=by
 obtain⟨_,h2,h3,h4,h5,h6⟩:=h.put 3 (.string t)
 exact⟨h.ord,Blk.set_ h.bid 3 _,h2,h3,h4,h5,h6⟩
theorem DpS.put2(h:DpS w w1 R B n qt qv qc pt pv pc W)(u:Value)(ns:List Int){base:Nat}(hu:OwnOf 3 inC 1 W base u ns.length ns)(h6:B+1≤base):DpS w w1 R B n qt u ns pt pv pc (W.setCell ⟨B,2,none⟩ u):=by
 obtain⟨h0,h2,h3,h4,h5,h7⟩:=h.put 2 u
 exact⟨h.ord,Blk.set_ h.bid 2 _,h2,OwnOf.cur (own_base hu h6) h0 (by omega),h4,h5,h7⟩
theorem DpS.put4(h:DpS w w1 R B n qt qv qc pt pv pc W)(u:Value)(ns:List Int){base:Nat}(hu:OwnOf 3 inC 1 W base u ns.length ns)(h6:B+1≤base):DpS w w1 R B n qt qv qc pt u ns (W.setCell ⟨B,4,none⟩ u):=by
 obtain⟨h0,h2,h3,h4,h5,h7⟩:=h.put 4 u
 exact⟨h.ord,Blk.set_ h.bid 4 _,h2,h3,OwnOf.cur (own_base hu h6) h0 (by omega),h5,h7⟩
theorem DpS.fail(h:DpS w w1 R B n qt qv qc pt pv pc W):Blk (set5 W R (.int .i64 0) (.string ⟨#[]⟩) (.slice none 0 0) (.string ⟨#[]⟩) (.slice none 0 0)) R tBid #[.int .i64 0,.string ⟨#[]⟩,.slice none 0 0,.string ⟨#[]⟩,.slice none 0 0]∧Only NoneOf w (set5 W R (.int .i64 0) (.string ⟨#[]⟩) (.slice none 0 0) (.string ⟨#[]⟩) (.slice none 0 0)):=by
 have h1:=h.ord
 obtain⟨k1,k2⟩:=set5_blk h.res (.int .i64 0) (.string ⟨#[]⟩) (.slice none 0 0) (.string ⟨#[]⟩) (.slice none 0 0)
 exact⟨k1,h.only.trans' k2 (fun i hi e=>by have e' :i=R:=e;omega)⟩
theorem DpS.done(h:DpS w w1 R B n qt qv qc pt pv pc W):Blk (set5 W R (.int .i64 n) (.string qt) qv (.string pt) pv) R tBid #[.int .i64 n,.string qt,qv,.string pt,pv]∧BdOwn (set5 W R (.int .i64 n) (.string qt) qv (.string pt) pv) w.heap.size (.agg #[.int .i64 n,.string qt,qv,.string pt,pv]) ⟨n,qt,qc,pt,pc⟩∧Only NoneOf w (set5 W R (.int .i64 n) (.string qt) qv (.string pt) pv):=by
 have h1:=h.ord
 obtain⟨k1,k2⟩:=set5_blk h.res (.int .i64 n) (.string qt) qv (.string pt) pv
 exact⟨k1,⟨qv,pv,rfl,own_base (OwnOf.cur h.q k2 (by omega)) (by omega),own_base (OwnOf.cur h.p k2 (by omega)) (by omega)⟩,h.only.trans' k2 (fun i hi e=>by have e' :i=R:=e;omega)⟩
end
theorem five_rows{rows:List (List ByteArray)}(hne:∀r∈rows,r≠[])(hl:rows.length=5):∃t0 r0 t1 r1 t2 r2 t3 r3 t4 r4,rows=[t0::r0,t1::r1,t2::r2,t3::r3,t4::r4]:=by
 match rows,hl with
 |[a,b,c,d,e],_=>
  have f:∀r:List ByteArray,r≠[]→∃t q,r=t::q:=fun r hr=>by
   cases r with
   |nil=>exact absurd rfl hr
   |cons t q=>exact⟨t,q,rfl⟩
  obtain⟨t0,r0,rfl⟩:=f a (hne _ (by simp))
  obtain⟨t1,r1,rfl⟩:=f b (hne _ (by simp))
  obtain⟨t2,r2,rfl⟩:=f c (hne _ (by simp))
  obtain⟨t3,r3,rfl⟩:=f d (hne _ (by simp))
  obtain⟨t4,r4,rfl⟩:=f e (hne _ (by simp))
  exact⟨t0,r0,t1,r1,t2,r2,t3,r3,t4,r4,rfl⟩
theorem int_own{w:World}{base k:Nat}{A:Option Addr}{ns:List Int}(h:OwnOf 3 inC 1 w base (.slice A ns.length k) ns.length ns):IntSl w A ns:=by
 cases ns with
 |nil=>exact .inl rfl
 |cons m ns=>
  obtain⟨A',cap,e,_,_,h4⟩:=OwnOf.sl inC_len h
  cases e
  obtain⟨g,o,rfl,hg,_⟩:=h4 0 m rfl
  refine .inr ⟨g,o,rfl,hg,fun j x hx=> ?_⟩
  obtain⟨g2,o2,e2,_,hr⟩:=h4 j x hx
  cases e2
  have:=hr 0 _ rfl
  simpa using this
set_option maxRecDepth 100000 in
set_option maxHeartbeats 4000000 in
theorem pdec_any(s:ByteArray)(hs:s.size≤49000000)(w:World)(he:Env w):Calls Tryz.prog 16 #[.string s] w (DcE s w):=by
 obtain⟨R,eR⟩:∃R,R=w.heap.size:=⟨_,rfl⟩
 obtain⟨X,eX⟩:∃X,X=w.alloc (.cells #[.int .i64 0,.string ⟨#[]⟩,.slice none 0 0,.string ⟨#[]⟩,.slice none 0 0] tBid):=⟨_,rfl⟩
 have hR:Blk X R tBid #[.int .i64 0,.string ⟨#[]⟩,.slice none 0 0,.string ⟨#[]⟩,.slice none 0 0]:=by rw[eX,eR];exact Blk.new w _ _
 have hX:Only NoneOf w X:=by rw[eX];exact(Only.refl _ _).alloc _
 have HR:=Lib.hid hR
 have HX:=Lib.hid hX
 have EX:=Lib.hid eX
 have ER:=Lib.hid eR
 have HE:=Lib.hid (he.none hX)
 have hwR:w.heap.size≤R:=by omega
 clear eX eR hR hX
 go_enter Tryz.func16,Tryz.ntmps16
 go_wp2_with fail
 rw[←EX.out]
 rw[←ER.out]
 refine(bsplit_any s (by omega) X HE.out).mono ?_
 rintro e w1 ⟨rows,ok,rv,rfl,hsp,hown,ho1⟩
 have hrs:=hown.sl
 obtain⟨A,cap,rfl,hc1,hc2,_⟩:=id hrs
 have HR1:=Lib.hid (HR.out.only ho1 (fun e=>e))
 have HO1:=Lib.hid (HX.out.trans ho1)
 have HE1:=Lib.hid (HE.out.none ho1)
 have HSP:=Lib.hid hsp
 have HRS:=Lib.hid hrs
 have hRw1:R<w1.heap.size:=Blk.lt HR1.out
 have s0:=HR1.out.cell 0
 have s1:=HR1.out.cell 1
 have s2:=HR1.out.cell 2
 have s3:=HR1.out.cell 3
 have s4:=HR1.out.cell 4
 have q0:=HR1.out.frozen 0
 have q1:=HR1.out.frozen 1
 have q2:=HR1.out.frozen 2
 have q3:=HR1.out.frozen 3
 have q4:=HR1.out.frozen 4
 have HSET:=Lib.hid (set5_blk HR1.out (.int .i64 0) (.string ⟨#[]⟩) (.slice none 0 0) (.string ⟨#[]⟩) (.slice none 0 0))
 have HOS:=Lib.hid (HO1.out.trans' HSET.out.2 (fun i hi e=>by have e' :i=R:=e;omega))
 clear ho1 hsp hown hrs
 by_cases hgood:ok=true∧rows.length=5
 ·obtain⟨rfl,hl5⟩:=hgood
  obtain⟨t0,r0,t1,r1,t2,r2,t3,r3,t4,r4,rfl⟩:=five_rows HSP.out.1 hl5
  obtain⟨g,o,g0,o0,ci0,rfl,e0,k0,m0,x0,y0⟩:=row_of HRS.out (i:=0) rfl
  obtain⟨g',o',g1,o1,ci1,e1',e1,k1,m1,x1,y1⟩:=row_of HRS.out (i:=1) rfl
  cases e1'
  obtain⟨g',o',g2,o2,ci2,e2',e2,k2,m2,x2,y2⟩:=row_of HRS.out (i:=2) rfl
  cases e2'
  obtain⟨g',o',g3,o3,ci3,e3',e3,k3,m3,x3,y3⟩:=row_of HRS.out (i:=3) rfl
  cases e3'
  obtain⟨g',o',g4,o4,ci4,e4',e4,k4,m4,x4,y4⟩:=row_of HRS.out (i:=4) rfl
  cases e4'
  have z0:=row_sizes HSP.out (i:=0) (row:=t0::r0) rfl
  have z1:=row_sizes HSP.out (i:=1) (row:=t1::r1) rfl
  have z2:=row_sizes HSP.out (i:=2) (row:=t2::r2) rfl
  have z3:=row_sizes HSP.out (i:=3) (row:=t3::r3) rfl
  have z4:=row_sizes HSP.out (i:=4) (row:=t4::r4) rfl
  rw[List.length_cons] at z0 z1 z3
  obtain⟨P0,ep0⟩:∃P,P=(if ci0=1 then some (⟨g0,o0,none⟩:Addr) else some ⟨g0,o0+1,none⟩):=⟨_,rfl⟩
  obtain⟨P1,ep1⟩:∃P,P=(if ci1=1 then some (⟨g1,o1,none⟩:Addr) else some ⟨g1,o1+1,none⟩):=⟨_,rfl⟩
  obtain⟨P3,ep3⟩:∃P,P=(if ci3=1 then some (⟨g3,o3,none⟩:Addr) else some ⟨g3,o3+1,none⟩):=⟨_,rfl⟩
  rw[←ep0] at y0
  rw[←ep1] at y1
  rw[←ep3] at y3
  have ep0' :=ep0.symm
  have ep1' :=ep1.symm
  have ep3' :=ep3.symm
  have HZ1:=Lib.hid z1
  have HZ2:=Lib.hid z2
  have HZ3:=Lib.hid z3
  have HZ4:=Lib.hid z4
  rw[Nat.add_zero] at e0
  clear ep0 ep1 ep3 z1 z2 z3 z4 y2 y4 x0 x1 x3 s0 s1 s2 s3 s4 q0 q1 q2 q3 q4
  go_wp2_with fail
  refine(bnumbers_any r0 (fun x hx=>by have:=z0.2 x (by simp[hx]);omega) (by omega) _ w1 y0 HE1.out).mono ?_
  rintro e w2 ⟨n0,a,nv,rfl,hn0,hown0,ho2⟩
  obtain⟨nA,nk,rfl,_,_⟩:=own_form' hown0
  have HN0:=Lib.hid hn0
  have HNS:=Lib.hid (OwnOf.sl inC_len hown0)
  obtain⟨B,eB⟩:∃B,B=w2.heap.size:=⟨_,rfl⟩
  obtain⟨Y,eY⟩:∃Y,Y=w2.alloc (.cells #[.int .i64 0,.string ⟨#[]⟩,.slice none 0 0,.string ⟨#[]⟩,.slice none 0 0] tBid):=⟨_,rfl⟩
  have hY:Only NoneOf w2 Y:=by rw[eY];exact(Only.refl _ _).alloc _
  have S0:Hid (DpS w w2 R B 0 ⟨#[]⟩ (.slice none 0 0) [] ⟨#[]⟩ (.slice none 0 0) [] Y):=Lib.hid ⟨⟨hwR,Nat.lt_of_lt_of_le hRw1 ho2.size,by omega⟩,by rw[eY,eB];exact Blk.new w2 _ _,(HR1.out.only ho2 (fun e=>e)).only hY (fun e=>e),OwnOf.nil _ _ _ _ _,OwnOf.nil _ _ _ _ _,hY,(HO1.out.trans ho2).trans hY⟩
  have E1:=Lib.hid (ho2.cell_some e1 (fun e=>e))
  have E2:=Lib.hid (ho2.cell_some e2 (fun e=>e))
  have E3:=Lib.hid (ho2.cell_some e3 (fun e=>e))
  have E4:=Lib.hid (ho2.cell_some e4 (fun e=>e))
  have X2:=Lib.hid (ho2.cell_some x2 (fun e=>e))
  have X4:=Lib.hid (ho2.cell_some x4 (fun e=>e))
  have Y1:=Lib.hid (y1.none_ ho2)
  have Y3:=Lib.hid (y3.none_ ho2)
  have HE2:=Lib.hid (HE1.out.none ho2)
  have EY:=Lib.hid eY
  have EB:=Lib.hid eB
  clear e0 e1 e2 e3 e4 x2 x4 y0 y1 y3 hn0 hown0 ho2 eY eB hY ep0' z0
  have c1:=S0.out.one.cell_some E1.out (fun e=>e)
  rw[EY.out] at c1
  go_wp2_with fail
  rw[←EY.out]
  rw[←EB.out]
  refine(bnumbers_any r1 (fun x hx=>by have:=HZ1.out.2 x (by simp[hx]);omega) (by have:=HZ1.out.1;omega) _ Y (Y1.out.none_ S0.out.one) (HE2.out.none S0.out.one)).mono ?_
  rintro e w3 ⟨qc,c,qv,rfl,hqc,hqo,ho3⟩
  obtain⟨qA,qk,rfl,_,_⟩:=own_form' hqo
  have HQC:=Lib.hid hqc
  have hB3:=Blk.lt S0.out.bid
  have T3:=Lib.hid (S0.out.step ho3)
  have b2:=T3.out.bid.cell 2
  have f2:=T3.out.bid.frozen 2
  have S3:=Lib.hid (T3.out.put2 _ qc hqo (by omega))
  have c2:=S3.out.one.cell_some E2.out (fun e=>e)
  have d2:=S3.out.one.cell_some X2.out (fun e=>e)
  clear hqc hqo ho3 hB3 c1 ep1'
  go_wp2_with fail
  refine(plain_any t2 (by have:=HZ2.out.2 t2 (by simp);omega) _).mono ?_
  rintro e w4 ⟨qt,d,rfl,hqt,hqts,ho4⟩
  have HQT:=Lib.hid hqt
  have T4:=Lib.hid (S3.out.step ho4)
  have b1:=T4.out.bid.cell 1
  have f1:=T4.out.bid.frozen 1
  have S4:=Lib.hid (T4.out.put1 qt)
  have c3:=S4.out.one.cell_some E3.out (fun e=>e)
  clear hqt ho4 b2 f2 c2 d2 T3
  go_wp2_with fail
  refine(bnumbers_any r3 (fun x hx=>by have:=HZ3.out.2 x (by simp[hx]);omega) (by have:=HZ3.out.1;omega) _ _ (Y3.out.none_ S4.out.one) (HE2.out.none S4.out.one)).mono ?_
  rintro e w5 ⟨pc,e5,pv,rfl,hpc,hpo,ho5⟩
  obtain⟨pA,pk,rfl,_,_⟩:=own_form' hpo
  have HPC:=Lib.hid hpc
  have hB5:=Blk.lt S4.out.bid
  have T5:=Lib.hid (S4.out.step ho5)
  have b4:=T5.out.bid.cell 4
  have f4:=T5.out.bid.frozen 4
  have S5:=Lib.hid (T5.out.put4 _ pc hpo (by omega))
  have c4:=S5.out.one.cell_some E4.out (fun e=>e)
  have d4:=S5.out.one.cell_some X4.out (fun e=>e)
  clear hpc hpo ho5 hB5 c3 ep3' b1 f1 T4
  go_wp2_with fail
  refine(plain_any t4 (by have:=HZ4.out.2 t4 (by simp);omega) _).mono ?_
  rintro e w6 ⟨pt,f,rfl,hpt,hpts,ho6⟩
  have HDR:=Lib.hid (dec_rows HSP.out HN0.out HQC.out HQT.out HPC.out hpt)
  have T6:=Lib.hid (S5.out.step ho6)
  have b3:=T6.out.bid.cell 3
  have f3:=T6.out.bid.frozen 3
  have S6:=Lib.hid (T6.out.put3 pt)
  have s0:=S6.out.res.cell 0
  have s1:=S6.out.res.cell 1
  have s2:=S6.out.res.cell 2
  have s3:=S6.out.res.cell 3
  have s4:=S6.out.res.cell 4
  have q0:=S6.out.res.frozen 0
  have q1:=S6.out.res.frozen 1
  have q2:=S6.out.res.frozen 2
  have q3:=S6.out.res.frozen 3
  have q4:=S6.out.res.frozen 4
  clear hpt ho6 c4 d4 b4 f4 T5
  have hcase:(a=true∧c=true∧d=true∧e5=true∧f=true∧n0.length=1)∨(a=false)∨(a=true∧c=false)∨(a=true∧c=true∧d=false)∨(a=true∧c=true∧d=true∧e5=false)∨(a=true∧c=true∧d=true∧e5=true∧f=false)∨(a=true∧c=true∧d=true∧e5=true∧f=true∧n0.length≠1):=by
   cases a<;>cases c<;>cases d<;>cases e5<;>cases f<;>simp<;>omega
  rcases hcase with⟨rfl,rfl,rfl,rfl,rfl,hl1⟩|hbad
  ·obtain⟨m,rfl⟩:∃m,n0=[m]:=by
    match n0,hl1 with
    |[m],_=>exact⟨m,rfl⟩
   obtain⟨A',cap',e',_,_,h4⟩:=HNS.out
   cases e'
   obtain⟨gn,on,rfl,hgn,hrn⟩:=h4 0 m rfl
   have cn0:w2.cell? ⟨gn,on,none⟩=some (.int .i64 m):=by simpa using hrn 0 _ rfl
   have cn:=S6.out.one.cell_some cn0 (fun e=>e)
   have b0:=S6.out.bid.cell 0
   have f0:=S6.out.bid.frozen 0
   have S7:=Lib.hid (S6.out.put0 m)
   have r0' :=S7.out.bid.cell 0
   have r1' :=S7.out.bid.cell 1
   have r2' :=S7.out.bid.cell 2
   have r3' :=S7.out.bid.cell 3
   have r4' :=S7.out.bid.cell 4
   have hok:(⟨m,qt,qc,pt,pc⟩:Bd).Ok :=⟨HN0.out.1 m (by simp),HQC.out.1,HPC.out.1,by
    have h1:=HZ2.out.2 t2 (by simp)
    show qt.size≤50000000
    omega,by
    have h1:=HZ4.out.2 t4 (by simp)
    show pt.size≤50000000
    omega,by
    have h1:=HQC.out.2.2
    have h2:(rowD r1).length =r1.length:=by unfold rowD;rw[List.length_map]
    have h3:=HZ1.out.1
    show qc.length≤50000000
    omega,by
    have h1:=HPC.out.2.2
    have h2:(rowD r3).length =r3.length:=by unfold rowD;rw[List.length_map]
    have h3:=HZ3.out.1
    show pc.length≤50000000
    omega⟩
   have HOK:=Lib.hid hok
   clear hok h4 hrn cn0 s0 s1 s2 s3 s4 q0 q1 q2 q3 q4
   go_wp2_with fail
   refine(bencode_any ⟨m,qt,qc,pt,pc⟩ HOK.out (int_own S7.out.q) (int_own S7.out.p) (HE2.out.none S7.out.one).tab).mono ?_
   rintro e w8 ⟨tx,rfl,htx,ho8⟩
   have S8:=Lib.hid (S7.out.step ho8)
   have s0:=S8.out.res.cell 0
   have s1:=S8.out.res.cell 1
   have s2:=S8.out.res.cell 2
   have s3:=S8.out.res.cell 3
   have s4:=S8.out.res.cell 4
   have q0:=S8.out.res.frozen 0
   have q1:=S8.out.res.frozen 1
   have q2:=S8.out.res.frozen 2
   have q3:=S8.out.res.frozen 3
   have q4:=S8.out.res.frozen 4
   have HTX:=Lib.hid htx
   clear cn b0 f0 b3 f3 r0' r1' r2' r3' r4' htx ho8 T6
   by_cases hts:tx=s
   ·have hBR:BRd s.data.toList ⟨m,qt,qc,pt,pc⟩:=⟨⟨HOK.out.id,HOK.out.qi,HOK.out.pi⟩,by rw[←hts];exact HTX.out⟩
    have HBR:=Lib.hid hBR
    have k0' :=S8.out.bid.cell 0
    have k1' :=S8.out.bid.cell 1
    have k2' :=S8.out.bid.cell 2
    have k3' :=S8.out.bid.cell 3
    have k4' :=S8.out.bid.cell 4
    have htq:=tx_beqT hts
    have htl:=tx_listT hts
    clear hBR
    go_wp2_with fail
    exact bodyPost_ret (read_bd rfl rfl rfl S8.out.done.1) rfl (DcE.ok HBR.out S8.out.done.2.1 S8.out.done.2.2)
   ·have HNO:Hid (∀x,¬BRd s.data.toList x):=Lib.hid (fun x hx=>by
     obtain⟨_,_,_,_,_,_,k6,k7,k8,k9,k10⟩:=HDR.out x hx
     refine hts (ba_ext ?_)
     rw[HTX.out,hx.2]
     have e1:x=⟨m,qt,qc,pt,pc⟩:=by
      cases x
      simp only[List.cons.injEq,and_true] at k6 k7 k8 k9 k10
      simp only[Bd.mk.injEq]
      exact⟨k6.symm,k8.symm,k7.symm,k10.symm,k9.symm⟩
     rw[e1])
    have htq:=tx_beqF hts
    have htl:=tx_listF hts
    go_wp2_with fail
    exact bodyPost_ret (read_bd rfl rfl rfl S8.out.fail.1) rfl (DcE.bad HNO.out S8.out.fail.2)
  ·have HNO:Hid (∀x,¬BRd s.data.toList x):=Lib.hid (fun x hx=>by
    obtain⟨_,k1,k2,k3,k4,k5,k6,_⟩:=HDR.out x hx
    have hl:n0.length=1:=by rw[k6];rfl
    subst k1 k2 k3 k4 k5
    simp[hl] at hbad)
   rcases hbad with rfl|⟨rfl,rfl⟩|⟨rfl,rfl,rfl⟩|⟨rfl,rfl,rfl,rfl⟩|⟨rfl,rfl,rfl,rfl,rfl⟩|⟨rfl,rfl,rfl,rfl,rfl,hl1⟩
   all_goals
    go_wp2_with fail
    exact bodyPost_ret (read_bd rfl rfl rfl S6.out.fail.1) rfl (DcE.bad HNO.out S6.out.fail.2)
 ·have HNO:Hid (∀d,¬BRd s.data.toList d):=Lib.hid (dec_rows_no HSP.out (by cases ok;exact .inl rfl;exact .inr (fun h=>hgood ⟨rfl,h⟩)))
  cases ok with
  |false=>
   go_wp2_with fail
   exact bodyPost_ret (read_bd rfl rfl rfl HSET.out.1) rfl (DcE.bad HNO.out HOS.out)
  |true=>
   have hl5:¬(rows.length:Int)=5:=fun h=>hgood ⟨rfl,by omega⟩
   go_wp2_with fail
   exact bodyPost_ret (read_bd rfl rfl rfl HSET.out.1) rfl (DcE.bad HNO.out HOS.out)
end Go.Proofs.YtpdlbmieciabmaaGreatDoor
namespace Go.Proofs.YtpdlbmieciabmaaGreatDoor
open Go.RowKit Go.Shelf
theorem sl_blk{α:Type}{c:α→List Value}{k:Nat}(hc:∀p,(c p).length =k){w:World}{g:Nat}{t:TypeId}{P:List α}{n m:Nat}(hb:Blk w g t (P.flatMap c).toArray)(hn:P.length=n)(hm:n≤m)(hx:m≤9223372036854775807):SlOf c k w (.slice (some ⟨g,0,none⟩) n m) P:=by
 subst hn
 refine⟨_,_,rfl,hm,hx,fun i p hp=>⟨g,0,rfl,hb.lt,fun j v hv=> ?_⟩⟩
 have hj:j<k:=by
  have:=(List.getElem?_eq_some_iff.1 hv).1
  rw[hc] at this;exact this
 rw[Nat.zero_add,hb.cell]
 have h1:=flat_get hc P i j hj p hp
 simpa using h1.trans hv
theorem q_first{s:List UInt8}{fs:List En}(h:QRd s fs)(hs:s≠[]):∃n r,In n∧s=[108,111,116,32]++(Lib.itoa n++10::r):=by
 obtain⟨_,h2,h3⟩:=h
 cases fs with
 |nil=>exact absurd h3 hs
 |cons e fs=>
  refine⟨e.lot,textG (e.values.map vLine++qLines fs),(h2 e (by simp)).1.1,?_⟩
  have e1:qLines (e::fs)=(wLot,[e.lot])::(e.values.map vLine++qLines fs):=by unfold qLines eLines;simp
  rw[h3,e1,textG_cons,line_word]
  rfl
theorem no_two(fs:List En):¬QRd [108,111,116,32,48,50,10] fs:=fun h=>by
 obtain⟨n,r,hn,e⟩:=q_first h (by simp)
 have e1:Lib.itoa n++10::r=[48,50]++10::[]:=by simpa using e.symm
 obtain⟨e2,_⟩:=mid_sep (itoa_mid hn) (by decide:∀c∈([48,50]:List UInt8),mid c=true) mid10 mid10 e1
 have h1:=atoi_itoa hn
 rw[e2] at h1
 have h2:Lib.atoiAll [48,50]= .ok 2:=by decide+kernel
 rw[h2] at h1
 cases h1
 exact absurd e2 (by decide+kernel)
theorem no_days(fs:List En):¬QRd [100,97,121,115,32,51,10] fs:=fun h=>by
 obtain⟨n,r,hn,e⟩:=q_first h (by simp)
 simp at e
def es1:List En:=[⟨2,0,[⟨⟨#[100,97,121,115]⟩,30⟩,⟨⟨#[115,116,97,102,102]⟩,5⟩]⟩]
def es2:List En:=[⟨1,70,[]⟩,⟨2,80,[]⟩]
def rs2:List Rb:=[⟨[1,2],5⟩]
def bd1:Bd:=⟨7,⟨#[97]⟩,[4],⟨#[]⟩,[]⟩
theorem es1_text:qualL es1=[108,111,116,32,50,10,100,97,121,115,32,51,48,10,115,116,97,102,102,32,53,10]:=by decide+kernel
theorem es1_len:(textG (qLines es1)).length≤100000000:=by decide+kernel
theorem es2_text:pricL es2 rs2=[108,111,116,32,49,32,55,48,10,108,111,116,32,50,32,56,48,10,114,101,98,97,116,101,32,53,32,49,32,50,10]:=by decide+kernel
theorem bd1_text:encB bd1=[98,105,100,32,55,10,113,117,97,108,105,116,121,32,52,10,54,49,10,112,114,105,99,101,10,10]:=by decide+kernel
theorem in_small{n:Int}(h0:0≤n)(h1:n≤1000):In n:=by unfold In;omega
theorem es1_in:∀e∈es1,EnIn e:=fun e he=>by
 obtain rfl:=List.mem_singleton.1 he
 refine⟨in_small (by decide) (by decide),in_small (by decide) (by decide),fun v hv=> ?_⟩
 simp only[List.mem_cons,List.not_mem_nil,or_false] at hv
 rcases hv with rfl|rfl
 ·exact in_small (by decide) (by decide)
 ·exact in_small (by decide) (by decide)
theorem es2_in:∀e∈es2,EnIn e:=fun e he=>by
 unfold es2 at he
 simp only[List.mem_cons,List.not_mem_nil,or_false] at he
 rcases he with rfl|rfl
 ·exact⟨in_small (by decide) (by decide),in_small (by decide) (by decide),fun v hv=>by cases hv⟩
 ·exact⟨in_small (by decide) (by decide),in_small (by decide) (by decide),fun v hv=>by cases hv⟩
theorem rs2_in:∀r∈rs2,RbIn r:=fun r hr=>by
 obtain rfl:=List.mem_singleton.1 hr
 refine⟨in_small (by decide) (by decide),fun n hn=> ?_⟩
 simp only[List.mem_cons,List.not_mem_nil,or_false] at hn
 rcases hn with rfl|rfl
 ·exact in_small (by decide) (by decide)
 ·exact in_small (by decide) (by decide)
theorem bd1_ok:bd1.Ok:=⟨in_small (by decide) (by decide),in_one (in_small (by decide) (by decide)),fun x hx=>(by cases hx),by decide,by decide,by decide,by decide⟩
theorem es2_at(w:World):EnSl (((w.alloc (.cells #[.int .i64 0,.int .i64 1,.int .i64 0,.int .i64 70,.slice none 0 0,.int .i64 0,.int .i64 2,.int .i64 0,.int .i64 80,.slice none 0 0] 37)).alloc (.cells #[.int .i64 1,.int .i64 2] 3)).alloc (.cells #[.slice (some ⟨w.heap.size+1,0,none⟩) 2 2,.int .i64 5] 86)) (.slice (some ⟨w.heap.size,0,none⟩) 2 2) es2∧RbSl (((w.alloc (.cells #[.int .i64 0,.int .i64 1,.int .i64 0,.int .i64 70,.slice none 0 0,.int .i64 0,.int .i64 2,.int .i64 0,.int .i64 80,.slice none 0 0] 37)).alloc (.cells #[.int .i64 1,.int .i64 2] 3)).alloc (.cells #[.slice (some ⟨w.heap.size+1,0,none⟩) 2 2,.int .i64 5] 86)) (.slice (some ⟨w.heap.size+1+1,0,none⟩) 1 1) rs2:=by
 obtain⟨w2,e2⟩:∃w2,w2=w.alloc (.cells #[.int .i64 0,.int .i64 1,.int .i64 0,.int .i64 70,.slice none 0 0,.int .i64 0,.int .i64 2,.int .i64 0,.int .i64 80,.slice none 0 0] 37):=⟨_,rfl⟩
 have h1:Blk w2 w.heap.size 37 #[.int .i64 0,.int .i64 1,.int .i64 0,.int .i64 70,.slice none 0 0,.int .i64 0,.int .i64 2,.int .i64 0,.int .i64 80,.slice none 0 0]:=by rw[e2];exact Blk.new w _ _
 have hz2:w2.heap.size=w.heap.size+1:=by rw[e2];simp
 rw[←e2]
 obtain⟨w3,e3⟩:∃w3,w3=w2.alloc (.cells #[.int .i64 1,.int .i64 2] 3):=⟨_,rfl⟩
 have h2:Blk w3 (w.heap.size+1) 3 #[.int .i64 1,.int .i64 2]:=by rw[e3,←hz2];exact Blk.new w2 _ _
 have hz3:w3.heap.size=w.heap.size+1+1:=by rw[e3,←hz2];simp
 have h1' :Blk w3 w.heap.size 37 #[.int .i64 0,.int .i64 1,.int .i64 0,.int .i64 70,.slice none 0 0,.int .i64 0,.int .i64 2,.int .i64 0,.int .i64 80,.slice none 0 0]:=by rw[e3];exact h1.alloc _
 rw[←e3]
 have h3:=Blk.new w3 86 #[.slice (some ⟨w.heap.size+1,0,none⟩) 2 2,.int .i64 5]
 rw[hz3] at h3
 refine⟨⟨[⟨1,70,.slice none 0 0⟩,⟨2,80,.slice none 0 0⟩],rfl,sl_blk ecC_len (h1'.alloc _) rfl (by omega) (by omega),fun i c e hc he=> ?_⟩,⟨[⟨.slice (some ⟨w.heap.size+1,0,none⟩) 2 2,5⟩],rfl,sl_blk rcC_len h3 rfl (by omega) (by omega),fun i c e hc he=> ?_⟩⟩
 ·match i,hc,he with
  |0,hc,he=>
   simp only[es2,List.getElem?_cons_zero,Option.some.injEq] at hc he
   subst hc
   subst he
   exact⟨rfl,rfl,SlOf.empty _ _ _⟩
  |1,hc,he=>
   simp only[es2,List.getElem?_cons_succ,List.getElem?_cons_zero,Option.some.injEq] at hc he
   subst hc
   subst he
   exact⟨rfl,rfl,SlOf.empty _ _ _⟩
  |i+2,hc,_=>simp at hc
 ·match i,hc,he with
  |0,hc,he=>
   simp only[rs2,List.getElem?_cons_zero,Option.some.injEq] at hc he
   subst hc
   subst he
   exact⟨rfl,sl_blk inC_len (P:=[1,2]) (h2.alloc _) rfl (by omega) (by omega)⟩
  |i+1,hc,_=>simp at hc
theorem bd1_at(w:World):IntSl (w.alloc (.cells #[.int .i64 4] 3)) (some ⟨w.heap.size,0,none⟩) bd1.qc:= .inr ⟨w.heap.size,0,rfl,by simp,fun j x hx=>by
 match j,hx with
 |0,hx=>
  simp only[bd1,List.getElem?_cons_zero,Option.some.injEq] at hx
  subst hx
  exact(Blk.new w _ _).cell 0
 |j+1,hx=>simp[bd1] at hx⟩
set_option maxRecDepth 100000 in
set_option maxHeartbeats 4000000 in
theorem sanity16(w:World)(he:Env w):Calls Tryz.prog 8 #[] w fun e w' =>e= .returned (.bool true)∧Only NoneOf w w' :=by
 have HE:=Lib.hid he
 obtain⟨X,eX⟩:∃X,X=(w.alloc (.cells #[.string ⟨#[100,97,121,115]⟩,.int .i64 30,.string ⟨#[115,116,97,102,102]⟩,.int .i64 5] 84)).alloc (.cells #[.int .i64 0,.int .i64 2,.int .i64 0,.int .i64 0,.slice (some ⟨w.heap.size,0,none⟩) 2 2] 37):=⟨_,rfl⟩
 have hV:Blk X w.heap.size 84 #[.string ⟨#[100,97,121,115]⟩,.int .i64 30,.string ⟨#[115,116,97,102,102]⟩,.int .i64 5]:=by rw[eX];exact(Blk.new w _ _).alloc _
 have hE:Blk X (w.heap.size+1) 37 #[.int .i64 0,.int .i64 2,.int .i64 0,.int .i64 0,.slice (some ⟨w.heap.size,0,none⟩) 2 2]:=by
  have h:=Blk.new (w.alloc (.cells #[.string ⟨#[100,97,121,115]⟩,.int .i64 30,.string ⟨#[115,116,97,102,102]⟩,.int .i64 5] 84)) 37 #[.int .i64 0,.int .i64 2,.int .i64 0,.int .i64 0,.slice (some ⟨w.heap.size,0,none⟩) 2 2]
  rw[World.size_alloc] at h
  rw[eX];exact h
 have hX:Only NoneOf w X:=by rw[eX];exact((Only.refl _ _).alloc _).alloc _
 have hes:EnSl X (.slice (some ⟨w.heap.size+1,0,none⟩) 1 1) es1:=⟨[⟨2,0,.slice (some ⟨w.heap.size,0,none⟩) 2 2⟩],rfl,sl_blk ecC_len hE rfl (by omega) (by omega),fun i c e hc he=>by
  match i,hc,he with
  |0,hc,he=>
   simp only[es1,List.getElem?_cons_zero,Option.some.injEq] at hc he
   subst hc
   subst he
   exact⟨rfl,rfl,sl_blk vlC_len (P:=[⟨⟨#[100,97,121,115]⟩,30⟩,⟨⟨#[115,116,97,102,102]⟩,5⟩]) hV rfl (by omega) (by omega)⟩
  |i+1,hc,_=>simp at hc⟩
 have HES:=Lib.hid hes
 have HX:=Lib.hid hX
 have EX:=Lib.hid eX
 clear he hV hE hX hes eX
 go_enter Tryz.func8,Tryz.ntmps8
 go_wp2_with fail
 rw[←EX.out]
 refine(quality_any es1 es1_in es1_len _ X HES.out (HE.out.none HX.out).tab).mono ?_
 rintro e w1 ⟨t1,rfl,ht1,ho1⟩
 have b1:=tx_litT (ht1.trans es1_text)
 have HO1:=Lib.hid (HX.out.trans ho1)
 clear ht1 ho1 HES HX EX
 go_wp2_with fail
 obtain⟨he2,hr2⟩:=es2_at w1
 refine(prices_any es2 rs2 es2_in rs2_in (by rw[es2_text];decide) _ _ _ he2 hr2 (HE.out.none (((HO1.out.alloc _).alloc _).alloc _)).tab).mono ?_
 rintro e w2 ⟨t2,rfl,ht2,ho2⟩
 have b2:=tx_litT (ht2.trans es2_text)
 have HO2:=Lib.hid ((((HO1.out.alloc _).alloc _).alloc _).trans ho2)
 clear ht2 ho2 he2 hr2
 go_wp2_with fail
 refine(bencode_any bd1 bd1_ok (qA:=some ⟨w2.heap.size,0,none⟩) (pA:=none) (qk:=1) (pk:=0) (bd1_at w2) (.inl rfl) (HE.out.none (HO2.out.alloc _)).tab).mono ?_
 rintro e w3 ⟨t3,rfl,ht3,ho3⟩
 have b3:=tx_litT (ht3.trans bd1_text)
 have HO3:=Lib.hid ((HO2.out.alloc _).trans ho3)
 clear ht3 ho3
 go_wp2_with fail
 refine(readq_any ⟨#[108,111,116,32,48,50,10]⟩ (by decide) w3 (HE.out.none HO3.out)).mono ?_
 rintro e w4 ⟨v4,code4,es4,rfl,_,hc4,ho4⟩
 have hc4:code4=11:=by
  rcases hc4 with⟨_,h⟩|⟨h,_⟩
  ·exact absurd h (no_two es4)
  ·exact h
 subst hc4
 have HO4:=Lib.hid (HO3.out.trans ho4)
 clear ho4
 go_wp2_with fail
 refine(readq_any ⟨#[100,97,121,115,32,51,10]⟩ (by decide) w4 (HE.out.none HO4.out)).mono ?_
 rintro e w5 ⟨v5,code5,es5,rfl,_,hc5,ho5⟩
 have hc5:code5=11:=by
  rcases hc5 with⟨_,h⟩|⟨h,_⟩
  ·exact absurd h (no_days es5)
  ·exact h
 subst hc5
 have HO5:=Lib.hid (HO4.out.trans ho5)
 clear ho5
 go_wp2_with fail
 go_ret
 exact⟨rfl,HO5.out⟩
end Go.Proofs.YtpdlbmieciabmaaGreatDoor
