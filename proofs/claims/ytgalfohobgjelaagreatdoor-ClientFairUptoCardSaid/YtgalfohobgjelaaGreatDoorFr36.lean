/- What is proved here:several parts. how a head that comes in as an argument is opened. Conditions:what comes in can be read. · how lists of ballots,and pairs of numbers,that come in as arguments are opened. Conditions:what comes in can be read. · how the client laws' arguments are opened:slices within records,worlds,slices of bytes. Conditions:what comes in can be read. · how the client laws' acts are opened. Conditions:what comes in can be read. -/
import Derived.Test.YtgalfohobgjelaaGreatDoorFr01
import Derived.Test.YtgalfohobgjelaaGreatDoorFr09
import Derived.Test.YtgalfohobgjelaaGreatDoorFr16
import Derived.Test.YtgalfohobgjelaaGreatDoorFr19
import Derived.Test.YtgalfohobgjelaaGreatDoorFr31
import Derived.Test.YtgalfohobgjelaaGreatDoorFr33
namespace Go.Proofs.YtgalfohobgjelaaGreatDoor
open Go.ChangeShapes Go.WideShapes Go.ChangeAt Go.RowKit Go.Deep
section
variable {H:Type} {enc:TypeId×Value→H} {w:World} {base b0:Nat} {spare:Nat→Bool} {held:Bool} {r:Reach} {v:Value} {d:DataW H} {p:List MemPlace}
theorem q_i64 {n:Nat} {c:Value} {x:DataW H×List MemPlace} (h:DataW.trod enc Tryz.prog w base spare held n 3 [c]=some x):∃a:Int,c= .int .i64 a∧In a:=by
 obtain⟨m,hc,_,hw⟩:=DataW.trod_int Tryz.underlying3 h
 exact⟨m,(List.cons.inj hc).1,by simpa [In,Lit.wf,IntKind.min,IntKind.max,IntKind.signed,IntKind.bits] using hw⟩
end
end Go.Proofs.YtgalfohobgjelaaGreatDoor
namespace Go.Proofs.YtgalfohobgjelaaGreatDoor
open Go.ChangeShapes Go.WideShapes Go.ChangeAt Go.RowKit Go.Deep
section
variable {H:Type} {enc:TypeId×Value→H} {w:World} {base b0:Nat} {spare:Nat→Bool} {held:Bool} {r:Reach} {v:Value} {d:DataW H} {p:List MemPlace}
theorem v_u8 {n:Nat} {c:Value} {x:DataW H×List MemPlace} (h:DataW.trod enc Tryz.prog w base spare held n 5 [c]=some x):∃m:Nat,c= .int .u8 (m:Int)∧m<256:=by
 obtain⟨m,hc,_,hw⟩:=DataW.trod_int Tryz.underlying5 h
 have hb:0≤m∧m≤255:=by simpa [Lit.wf,IntKind.min,IntKind.max,IntKind.signed,IntKind.bits] using hw
 exact⟨m.toNat,by rw [(List.cons.inj hc).1];congr 1;omega,by omega⟩
theorem v_u16 {n:Nat} {c:Value} {x:DataW H×List MemPlace} (h:DataW.trod enc Tryz.prog w base spare held n 25 [c]=some x):∃m:Nat,c= .int .u16 (m:Int)∧m<65536:=by
 obtain⟨m,hc,_,hw⟩:=DataW.trod_int Tryz.underlying25 h
 have hb:0≤m∧m≤65535:=by simpa [Lit.wf,IntKind.min,IntKind.max,IntKind.signed,IntKind.bits] using hw
 exact⟨m.toNat,by rw [(List.cons.inj hc).1];congr 1;omega,by omega⟩
end
end Go.Proofs.YtgalfohobgjelaaGreatDoor
namespace Go.Proofs.YtgalfohobgjelaaGreatDoor
open Go.ChangeShapes Go.WideShapes Go.ChangeAt Go.RowKit Go.Deep
theorem bulk_pos {H:Type} (d:DataW H):1≤Rows.uptoBulk d:=by
 cases d with
 |lit l=>cases l<;>simp [Rows.uptoBulk]
 |_=>simp [Rows.uptoBulk]
theorem bulk_all {H:Type}:∀(l:List (DataW H)),l.length≤Rows.uptoBulkAll l
 | []=>Nat.zero_le _
 |d::l=>by
  have h1:=bulk_pos d
  have h2:=bulk_all l
  simp only [Rows.uptoBulkAll,List.length_cons]
  omega
section
variable {H:Type} {enc:TypeId×Value→H} {P:Program} {w:World} {base:Nat} {spare:Nat→Bool} {held:Bool}
theorem open_trodB {α:Type} {Q:α→Prop} {M:α→Nat} (f:α→List Value) (s:Nat) (hs0:0<s) {t e:TypeId} {fuel:Nat} {x:DataW H×List MemPlace} (hf:∀x,(f x).length=s) (ht:P.underlying t=some (.slice e)) (hC:P.cellsOf e=s)
  (hread:∀n cs x,DataW.trod enc P w base spare held n e cs=some x→∃y:α,cs=f y∧Q y∧M y≤Rows.uptoBulk x.1)
  {c0:Value} (hf0:DataW.trod enc P w base spare held fuel t [c0]=some x):∃A n c L,c0= .slice A n c∧Arg f s w A n L∧n≤maxLen∧n≤c∧c≤maxLen∧(∀y∈L,Q y∧M y≤Rows.uptoBulk x.1)∧L.length≤Rows.uptoBulk x.1:=by
 rcases open_slice ht hf0 with⟨hcs,_⟩|⟨a,len,cap,m,n,D,Pl,hcs,hb,hl,hm,hmm,hx,hi⟩
 ·simp at hcs
  subst hcs
  exact⟨none,0,0, [],rfl,⟨rfl,fun i t h=>by simp at h⟩,by unfold maxLen;omega,Nat.le_refl _,Nat.zero_le _,fun y hy=> (by cases hy),Nat.zero_le _⟩
 ·simp at hcs
  subst hcs
  have hd:x.1= .slice ((List.range len).map D) ((List.range (m - len)).map fun j=>D (len+j)):=by rw [hx]
  have hml:len≤m:=by rw [hmm];split<;>omega
  have hspot0:0<len→a.spot=none:=fun hl0=>by
   obtain⟨cs',hc,htr⟩:=hi 0 (by omega)
   obtain⟨y,rfl,hq,_⟩:=hread _ _ _ htr
   rw [hC] at hc
   obtain⟨_,hcl,hat⟩:=World.cells?_some hc
   have h1:w.cell? ((a.add (0 * s)).add 0)=(f y)[0]? :=hat 0 hs0
   rw [List.getElem?_eq_getElem (by rw [hf];exact hs0)] at h1
   have h2:=cell_spot h1
   simpa [Addr.add] using h2
  have key:∀i,i<len→∃y:α,(Q y∧M y≤Rows.uptoBulk x.1)∧a.spot=none∧a.block<w.heap.size∧∀j,j<s→w.cell? ⟨a.block,a.off+i * s+j,none⟩=(f y)[j]? :=by
   intro i hil
   obtain⟨cs',hc,htr⟩:=hi i (by omega)
   obtain⟨y,rfl,hq,hm0⟩:=hread _ _ _ htr
   have hm1:M y≤Rows.uptoBulk x.1:=by
    refine Nat.le_trans hm0 ?_
    rw [hd]
    simp only [Rows.uptoBulk]
    have:=bulk_mem (l:=(List.range len).map D) (List.mem_map.2 ⟨i,List.mem_range.2 hil,rfl⟩)
    omega
   rw [hC] at hc
   obtain⟨_,hcl,hat⟩:=World.cells?_some hc
   have hcell:∀j,j<s→w.cell? ((a.add (i * s)).add j)=(f y)[j]? :=fun j hj=>hat j hj
   have hspot:∀j,j<s→((a.add (i * s)).add j).spot=none:=fun j hj=>by
    have h1:=hcell j hj
    rw [List.getElem?_eq_getElem (by rw [hf];exact hj)] at h1
    exact cell_spot h1
   have hblk:a.block<w.heap.size:=by
    have h1:=hcell 0 hs0
    rw [List.getElem?_eq_getElem (by rw [hf];exact hs0)] at h1
    have:=World.block_lt_of_cell? w _ h1
    rw [(add_off _ _).2,(add_off _ _).2] at this
    exact this
   refine⟨y,⟨hq,hm1⟩,?_,hblk,fun j hj=> ?_⟩
   ·exact hspot0 (by omega)
   ·rw [←hcell j hj,addr_none (hspot j hj),(add_off _ _).1,(add_off _ _).2,(add_off _ _).1,(add_off _ _).2]
  obtain⟨L,hL,hget⟩:=list_of len key
  refine⟨some a,len,cap,L,rfl,⟨hL,fun i y hy=> ?_⟩,by omega,hl,hm,fun y hy=> ?_,?_⟩
  ·obtain⟨_,h1,h2,h3⟩:=hget i y hy
   exact⟨a.block,a.off,by rw [←addr_none h1],h2,h3⟩
  ·obtain⟨i,hi'⟩:=List.getElem?_of_mem hy
   exact(hget i y hi').1
  ·rw [hL,hd]
   have:=bulk_all ((List.range len).map D)
   simp only [List.length_map,List.length_range] at this
   simp only [Rows.uptoBulk]
   omega
end
section
variable {H:Type} {enc:TypeId×Value→H} {w:World} {base b0:Nat} {spare:Nat→Bool} {held:Bool} {r:Reach} {v:Value} {d:DataW H} {p:List MemPlace}
def u8C (x:UInt8):List Value:= [.int .u8 (x.toNat:Int)]
theorem w_u8 {n:Nat} {cs:List Value} {x:DataW H×List MemPlace} (h:DataW.trod enc Tryz.prog w base spare held n 5 cs=some x):∃y:UInt8,cs=u8C y∧True:=by
 obtain⟨m,hc,_,hw⟩:=DataW.trod_int Tryz.underlying5 h
 have hb:0≤m∧m≤255:=by simpa [Lit.wf,IntKind.min,IntKind.max,IntKind.signed,IntKind.bits] using hw
 refine⟨UInt8.ofNat m.toNat,?_,trivial⟩
 rw [hc]
 unfold u8C
 rw [UInt8.toNat_ofNat']
 congr 2
 omega
theorem arg_kd {A:Option Addr} {n:Nat} {L:List UInt8} (h:Arg u8C 1 w A n L):KdAt w A L:=fun j x hx=>by
 obtain⟨bk,off,hA,_,hc⟩:=h.2 j x hx
 have h0:=hc 0 (by omega)
 rw [Nat.mul_one,Nat.add_zero] at h0
 exact⟨bk,off,hA,h0⟩
theorem u8s_trod {n:Nat} {c:Value} {x:DataW H×List MemPlace} (h:DataW.trod enc Tryz.prog w base spare held n 22 [c]=some x):∃(A:Option Addr) (k:Nat) (L:List UInt8),c= .slice A L.length k∧KdAt w A L∧L.length≤Rows.uptoBulk x.1:=by
 obtain⟨A,m,k,L,rfl,hA,_,_,_,_,hl⟩:=open_trodB (P:=Tryz.prog) (Q:=fun _=>True) (M:=fun _=>0) u8C 1 (by omega) (fun _=>rfl) Tryz.underlying22 (by kernel_rfl) (fun n cs x hx=>by
  obtain⟨y,h1,h2⟩:=w_u8 hx
  exact⟨y,h1,h2,Nat.zero_le _⟩) h
 exact⟨A,k,L,by rw [hA.1],arg_kd hA,hl⟩
set_option maxRecDepth 100000 in
theorem wd_open (hv:Value.okWide Tryz.prog w r b0 24 v) (h:DataW.Trod enc Tryz.prog w base spare held 24 v d p):∃(e:Wd) (kA:Option Addr) (kc:Nat),v= .agg (wdC e kA kc)∧e.Ok∧KdAt w kA e.kinds∧e.kinds.length≤Rows.uptoBulk d:=by
 have hagg:∃cs,v= .agg cs:=by
  have hv':=hv
  simp only [Value.okWide,Tryz.underlying24] at hv'
  obtain⟨cs,h1,_⟩:=hv'
  exact⟨cs,h1⟩
 obtain⟨cs,rfl⟩:=hagg
 obtain⟨fuel,hf⟩:=h
 obtain⟨xs,m,_,hx,hcl,hlen,hg⟩:=DataW.trod_struct Tryz.underlying24 hf
 have e3:Tryz.prog.cellsOf 24=3:=by kernel_rfl
 have e1:Tryz.prog.cellsOf 5=1:=by kernel_rfl
 have e2:Tryz.prog.cellsOf 22=1:=by kernel_rfl
 have hl:(Value.agg cs).cells.toList.length=3:=hcl.trans e3
 obtain⟨l⟩:=cs
 simp only [Value.cells] at hl hg
 match l,hl with
 | [c0,c1,c2],_=>
   match xs,hlen with
   | [y0,y1,y2],_=>
     have h0:=hg 0 _ rfl
     have h1:=hg 1 _ rfl
     have h2:=hg 2 _ rfl
     clear hg
     simp [e1,e2] at h0 h1 h2
     obtain⟨x,rfl,bx⟩:=v_u8 h0
     obtain⟨kA,kc,ks,rfl,hk,hkl⟩:=u8s_trod h1
     obtain⟨y,rfl,by'⟩:=v_u8 h2
     refine⟨⟨x,ks,y⟩,kA,kc,rfl,⟨bx,by'⟩,hk,?_⟩
     have hd:d= .agg [y0.1,y1.1,y2.1]:=by simpa using congrArg Prod.fst hx
     rw [hd]
     simp only [Rows.uptoBulk,Rows.uptoBulkAll]
     show ks.length≤_
     omega
end
end Go.Proofs.YtgalfohobgjelaaGreatDoor
namespace Go.Proofs.YtgalfohobgjelaaGreatDoor
open Go.ChangeShapes Go.WideShapes Go.ChangeAt Go.RowKit Go.Deep
section
variable {H:Type} {enc:TypeId×Value→H} {w:World} {base b0:Nat} {spare:Nat→Bool} {held:Bool} {r:Reach} {v:Value} {d:DataW H} {p:List MemPlace}
theorem w_bool {n:Nat} {c:Value} {x:DataW H×List MemPlace} (h:DataW.trod enc Tryz.prog w base spare held n 4 [c]=some x):∃b:Bool,c= .bool b:=by
 obtain⟨b,hc,_⟩:=DataW.trod_bool Tryz.underlying4 h
 exact⟨b,(List.cons.inj hc).1⟩
set_option maxRecDepth 100000 in
theorem w_bend {n:Nat} {cs:List Value} {x:DataW H×List MemPlace} (h:DataW.trod enc Tryz.prog w base spare held n 68 cs=some x):∃a b:Int,cs= [.int .i64 a,.int .i64 b]∧In a∧In b:=by
 obtain⟨xs,m,_,_,hcl,hlen,hg⟩:=DataW.trod_array Tryz.underlying68 h
 have e2:Tryz.prog.cellsOf 68=2:=by kernel_rfl
 have e1:Tryz.prog.cellsOf 3=1:=by kernel_rfl
 rw [e2] at hcl
 match cs,hcl with
 | [c0,c1],_=>
   match xs,hlen with
   | [y0,y1],_=>
     have h0:=hg 0 (by omega)
     have h1:=hg 1 (by omega)
     simp [e1] at h0 h1
     obtain⟨a,rfl,ia⟩:=q_i64 h0
     obtain⟨b,rfl,ib⟩:=q_i64 h1
     exact⟨a,b,rfl,ia,ib⟩
set_option maxRecDepth 100000 in
theorem q_act {n:Nat} {cs:List Value} {x:DataW H×List MemPlace} (h:DataW.trod enc Tryz.prog w base spare held n 70 cs=some x):∃a:Ac,cs=(acC a).toList∧a.Ok:=by
 obtain⟨xs,m,_,hx,hcl,hlen,hg⟩:=DataW.trod_struct Tryz.underlying70 h
 have ei:Tryz.prog.cellsOf 3=1:=by kernel_rfl
 have eb:Tryz.prog.cellsOf 4=1:=by kernel_rfl
 have eu:Tryz.prog.cellsOf 25=1:=by kernel_rfl
 have e2:Tryz.prog.cellsOf 68=2:=by kernel_rfl
 have e9:Tryz.prog.cellsOf 70=9:=by kernel_rfl
 rw [e9] at hcl
 match cs,hcl with
 | [c0,c1,c2,c3,c4,c5,c6,c7,c8],_=>
   match xs,hlen with
   | [y0,y1,y2,y3,y4,y5,y6,y7],_=>
     have h0:=hg 0 _ rfl
     have h1:=hg 1 _ rfl
     have h2:=hg 2 _ rfl
     have h3:=hg 3 _ rfl
     have h4:=hg 4 _ rfl
     have h5:=hg 5 _ rfl
     have h6:=hg 6 _ rfl
     have h7:=hg 7 _ rfl
     clear hg
     simp [ei,eb,eu,e2] at h0 h1 h2 h3 h4 h5 h6 h7
     obtain⟨a0,rfl,i0⟩:=q_i64 h0
     obtain⟨a1,rfl,i1⟩:=q_i64 h1
     obtain⟨a2,rfl,i2⟩:=q_i64 h2
     obtain⟨a3,rfl,i3⟩:=q_i64 h3
     obtain⟨a4,rfl⟩:=w_bool h4
     obtain⟨a5,rfl,i5⟩:=v_u16 h5
     obtain⟨a6,rfl,i6⟩:=v_u16 h6
     obtain⟨a7,a8,e,i7,i8⟩:=w_bend h7
     simp only [List.cons.injEq,and_true] at e
     obtain⟨rfl,rfl⟩:=e
     exact⟨⟨a0,a1,a2,a3,a4,a5,a6,a7,a8⟩,rfl,i0,i1,i2,i3,i5,i6,i7,i8⟩
theorem acC_len (a:Ac):(acC a).toList.length=9:=rfl
set_option maxRecDepth 100000 in
theorem acts_open (hv:Value.okWide Tryz.prog w r b0 65 v) (h:DataW.Trod enc Tryz.prog w base spare held 65 v d p):∃L:List Ac,AcSl w v L∧∀a∈L,a.Ok:=by
 obtain⟨A,n,c,L,rfl,hA,hn,hc,hcm,hL⟩:=open_argB (Q:=Ac.Ok) (M:=fun _=>0) (fun a=> (acC a).toList) 9 (by omega) acC_len Tryz.underlying65 (by kernel_rfl) (fun n cs x hx=>by
  obtain⟨b,h1,h2⟩:=q_act hx
  exact⟨b,h1,h2,Nat.zero_le _⟩) hv h
 unfold maxLen at hcm
 refine⟨L,⟨A,c,by rw [hA.1],by rw [hA.1];exact hc,hcm,fun i b hb=> ?_⟩,fun b hb=> (hL b hb).1⟩
 obtain⟨bk,off,e,hlt,hcell⟩:=hA.2 i b hb
 exact⟨bk,off,e,hlt,fun j x hj=>by rw [hcell j (List.getElem?_eq_some_iff.1 hj).1];exact hj⟩
end
end Go.Proofs.YtgalfohobgjelaaGreatDoor
