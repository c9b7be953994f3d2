/- What is proved here: a part of the proof that 'probitylaw31.ClientPlays' answers true. Conditions: each theorem's own. -/
import Derived.Test.YtgalfohobgjelaaGreatDoorPy35
set_option maxRecDepth 100000
set_option maxHeartbeats 8000000
namespace Go.Proofs.YtgalfohobgjelaaGreatDoor
section
open Go.ChangeShapes Go.WideShapes Go.ChangeAt Go.RowKit Go.Deep
section
variable {H:Type} {enc:TypeId×Value→H} {w:World} {base b0:Nat} {spare:Nat→Bool} {held:Bool} {r:Reach} {v:Value} {d:DataW H} {p:List MemPlace}
theorem w_bool{n:Nat}{c:Value}{x:DataW H×List MemPlace}(h:DataW.trod enc Tryz.prog w base spare held n 4 [c]=some x):∃b:Bool,c= .bool b:=by
 obtain⟨b,hc,_⟩:=DataW.trod_bool Tryz.underlying4 h
 exact⟨b,(List.cons.inj hc).1⟩
theorem w_bend{n:Nat}{cs:List Value}{x:DataW H×List MemPlace}(h:DataW.trod enc Tryz.prog w base spare held n 68 cs=some x):∃a b:Int,cs=[.int .i64 a,.int .i64 b]∧In a∧In b:=by
 obtain⟨xs,m,_,_,hcl,hlen,hg⟩:=DataW.trod_array Tryz.underlying68 h
 have e2:Tryz.prog.cellsOf 68=2:=by kernel_rfl
 have e1:Tryz.prog.cellsOf 3=1:=by kernel_rfl
 rw[e2] at hcl
 match cs,hcl with
 |[c0,c1],_=>
  match xs,hlen with
  |[y0,y1],_=>
   have h0:=hg 0 (by omega)
   have h1:=hg 1 (by omega)
   simp[e1] at h0 h1
   obtain⟨a,rfl,ia⟩:=Ωlh h0
   obtain⟨b,rfl,ib⟩:=Ωlh h1
   exact⟨a,b,rfl,ia,ib⟩
theorem q_act{n:Nat}{cs:List Value}{x:DataW H×List MemPlace}(h:DataW.trod enc Tryz.prog w base spare held n 70 cs=some x):∃a:Ac,cs=(acC a).toList∧a.Ok:=by
 obtain⟨xs,m,_,hx,hcl,hlen,hg⟩:=DataW.trod_struct Tryz.underlying70 h
 have ei:Tryz.prog.cellsOf 3=1:=by kernel_rfl
 have eb:Tryz.prog.cellsOf 4=1:=by kernel_rfl
 have eu:Tryz.prog.cellsOf 25=1:=by kernel_rfl
 have e2:Tryz.prog.cellsOf 68=2:=by kernel_rfl
 have e9:Tryz.prog.cellsOf 70=9:=by kernel_rfl
 rw[e9] at hcl
 match cs,hcl with
 |[c0,c1,c2,c3,c4,c5,c6,c7,c8],_=>
  match xs,hlen with
  |[y0,y1,y2,y3,y4,y5,y6,y7],_=>
   have h0:=hg 0 _ rfl
   have h1:=hg 1 _ rfl
   have h2:=hg 2 _ rfl
   have h3:=hg 3 _ rfl
   have h4:=hg 4 _ rfl
   have h5:=hg 5 _ rfl
   have h6:=hg 6 _ rfl
   have h7:=hg 7 _ rfl
   clear hg
   simp[ei,eb,eu,e2] at h0 h1 h2 h3 h4 h5 h6 h7
   obtain⟨a0,rfl,i0⟩:=Ωlh h0
   obtain⟨a1,rfl,i1⟩:=Ωlh h1
   obtain⟨a2,rfl,i2⟩:=Ωlh h2
   obtain⟨a3,rfl,i3⟩:=Ωlh h3
   obtain⟨a4,rfl⟩:=w_bool h4
   obtain⟨a5,rfl,i5⟩:=Ωna h5
   obtain⟨a6,rfl,i6⟩:=Ωna h6
   obtain⟨a7,a8,e,i7,i8⟩:=w_bend h7
   simp only[List.cons.injEq,and_true] at e
   obtain⟨rfl,rfl⟩:=e
   exact⟨⟨a0,a1,a2,a3,a4,a5,a6,a7,a8⟩,rfl,i0,i1,i2,i3,i5,i6,i7,i8⟩
theorem acC_len(a:Ac):(acC a).toList.length =9:=rfl
theorem acts_open(hv:Value.okWide Tryz.prog w r b0 65 v)(h:DataW.Trod enc Tryz.prog w base spare held 65 v d p):∃L:List Ac,AcSl w v L∧∀a∈L,a.Ok:=by
 obtain⟨A,n,c,L,rfl,hA,hn,hc,hcm,hL⟩:=open_argB (Q:=Ac.Ok) (M:=fun _=>0) (fun a=>(acC a).toList) 9 (by omega) acC_len Tryz.underlying65 (by kernel_rfl) (fun n cs x hx=>by
  obtain⟨b,h1,h2⟩:=q_act hx
  exact⟨b,h1,h2,Ωoh _⟩) hv h
 unfold maxLen at hcm
 refine⟨L,⟨A,c,by rw[hA.1],by rw[hA.1];exact hc,hcm,fun i b hb=> ?_⟩,fun b hb=>(hL b hb).1⟩
 obtain⟨bk,off,e,hlt,hcell⟩:=hA.2 i b hb
 exact⟨bk,off,e,hlt,fun j x hj=>by rw[hcell j (Ωnx.1 hj).1];exact hj⟩
end
end
end Go.Proofs.YtgalfohobgjelaaGreatDoor
