/-What is proved here:several parts. what the listed variables give a call:the table of powers and the two errors;and a world that holds them. No conditions. · how the content of a bid by numbers is opened. Conditions:what comes in can be read. -/
import Derived.Test.YtpdlbmieciabmaaGreatDoorPk02
import Derived.Test.YtpdlbmieciabmaaGreatDoorPk12
import Derived.Test.YtpdlbmieciabmaaGreatDoorPk24
import Derived.Test.YtpdlbmieciabmaaGreatDoorCards
import Derived.Test.YtpdlbmieciabmaaGreatDoorTie
import Derived.Deep.DeepHandedRow
import Derived.Lib.LaidTab
import Derived.LaidSub
import Derived.ChangeMaps5
import Derived.OpenShut
import Derived.RowKitTokens
import Derived.LaidLaws
import Derived.Stop.ErrReads
namespace Go.Proofs.YtpdlbmieciabmaaGreatDoor
open Go.ChangeShapes Go.WideShapes Go.ChangeAt Go.RowKit
theorem gPow:Tryz.prog.globalNamed pow10=some 3:=by kernel_rfl
theorem gPowType:(Tryz.prog.globals[3]?).map (·.type)=some 232:=by kernel_rfl
theorem cellsPow:Tryz.prog.cellsOf 232=20:=by kernel_rfl
theorem cellsU64:Tryz.prog.cellsOf 143=1:=by kernel_rfl
theorem gRange:Tryz.prog.globalNamed "strconv.ErrRange" =some 2:=by kernel_rfl
theorem gSyntax:Tryz.prog.globalNamed "strconv.ErrSyntax" =some 1:=by kernel_rfl
theorem gRangeType:(Tryz.prog.globals[2]?).map (·.type)=some 134:=by kernel_rfl
theorem gSyntaxType:(Tryz.prog.globals[1]?).map (·.type)=some 134:=by kernel_rfl
theorem cellsErr:Tryz.prog.cellsOf 239=1:=by kernel_rfl
theorem cellsStr:Tryz.prog.cellsOf 9=1:=by kernel_rfl
theorem starErr: "*" ++ "errors.errorString" = "*errors.errorString" :=by decide
theorem rowErr(u:TypeId)(h:Tryz.prog.typeName? 3 u=some "*errors.errorString"):u=237:=
 typeName_ptr_named (nm:= "errors.errorString") (by rw[starErr];kernel_rfl) (by kernel_rfl) (by decide) u (by rw[starErr];exact h)
def listed:List (String×DataW Unit):=[("math/bits.deBruijn32tab",Rows.laid_math_bits_deBruijn32tab),("math/bits.deBruijn64tab",Rows.laid_math_bits_deBruijn64tab),("internal/strconv.uint64pow10",Rows.laid_internal_strconv_uint64pow10),("unicode/utf8.acceptRanges",Rows.laid_unicode_utf8_acceptRanges),("strconv.ErrRange",Rows.laid_strconv_ErrRange),("strconv.ErrSyntax",Rows.laid_strconv_ErrSyntax),("unicode/utf8.first",Rows.laid_unicode_utf8_first)]
theorem table{W:World}(h:laidMetH Tryz.prog listed W):Tab W:=by
 have h1:=h.filter (fun x=>x.1==pow10)
 have h2:laidMetH Tryz.prog [(pow10,Lib.tabData .u64 Lib.pow10Tab)] W:=h1
 exact Lib.tabIs_of_head (rest:=[]) gPow gPowType Tryz.underlying232 Tryz.underlying143 cellsU64 cellsPow h2
set_option maxRecDepth 100000 in
theorem sentinels{W:World}(h:laidMetH Tryz.prog listed W):(∃tp p,W.var? Tryz.prog "strconv.ErrRange" =some #[.iface tp p])∧(∃tp p,W.var? Tryz.prog "strconv.ErrSyntax" =some #[.iface tp p]):=by
 have h1:=h.filter (fun x=>x.1== "strconv.ErrRange" ||x.1== "strconv.ErrSyntax")
 have h2:laidMet Tryz.prog [("strconv.ErrRange",Rows.laid_strconv_ErrRange),("strconv.ErrSyntax",Rows.laid_strconv_ErrSyntax)] W:=h1
 obtain⟨ps,⟨g0,t0,cs0,f0,p0,q0,hg0,ht0,hv0,hd0,⟨g1,t1,cs1,f1,p1,q1,hg1,ht1,hv1,hd1,hq1,e1⟩,e0⟩,hnd,hrows⟩:=h2
 obtain rfl:=Option.some.inj (gRange.symm.trans hg0)
 obtain rfl:=Option.some.inj (gSyntax.symm.trans hg1)
 obtain rfl:=Option.some.inj (gRangeType.symm.trans ht0)
 obtain rfl:=Option.some.inj (gSyntaxType.symm.trans ht1)
 have hq1' :q1=[]:=hq1
 subst hq1'
 subst e1
 subst e0
 obtain⟨l0⟩:=cs0
 obtain⟨l1⟩:=cs1
 have ok0:∀u v,l0=[.iface u v]→Value.okWide Tryz.prog W .any 0 u v:=fun u v e=>by
  subst e
  exact(hrows 2 0 (by simp[MemPlace.row])).2 u v (by simpa using World.var?_cell hg0 hv0 0)
 have ok1:∀u v,l1=[.iface u v]→Value.okWide Tryz.prog W .any 0 u v:=fun u v e=>by
  subst e
  exact(hrows 1 0 (by simp[MemPlace.row])).2 u v (by simpa using World.var?_cell hg1 hv1 0)
 obtain⟨a0,s0,rfl,_⟩:=errorString_of_trod Tryz.underlying134 rowErr Tryz.underlying237 Tryz.underlying239 rfl rfl Tryz.underlying9 cellsErr cellsStr hd0 ok0
 obtain⟨a1,s1,rfl,_⟩:=errorString_of_trod Tryz.underlying134 rowErr Tryz.underlying237 Tryz.underlying239 rfl rfl Tryz.underlying9 cellsErr cellsStr hd1 ok1
 exact⟨⟨_,_,hv0⟩,⟨_,_,hv1⟩⟩
theorem env_of{W:World}(h:laidMetH Tryz.prog listed W)(hs:W.ShapedOpen Tryz.prog):Env W:=⟨table h,(sentinels h).2,(sentinels h).1,hs⟩
def layCells(cs:Array Value):Obj→Obj
 | .cells _ t frozen=> .cells cs t frozen
 |o=>o
abbrev rangeS:ByteArray:=⟨#[118,97,108,117,101,32,111,117,116,32,111,102,32,114,97,110,103,101]⟩
abbrev syntaxS:ByteArray:=⟨#[105,110,118,97,108,105,100,32,115,121,110,116,97,120]⟩
noncomputable def low:Nat:=(World.holding Tryz.prog default ⟨#[],#[],[]⟩).heap.size
noncomputable def laidWorld(os:Os):World:=
 {World.holding Tryz.prog os ⟨#[.cells #[.string rangeS] 239,.cells #[.string syntaxS] 239],#[],[]⟩ with heap:=(((((((World.holding Tryz.prog os ⟨#[.cells #[.string rangeS] 239,.cells #[.string syntaxS] 239],#[],[]⟩).heap.modify 8 (layCells #[.int .u8 0,.int .u8 1,.int .u8 28,.int .u8 2,.int .u8 29,.int .u8 14,.int .u8 24,.int .u8 3,.int .u8 30,.int .u8 22,.int .u8 20,.int .u8 15,.int .u8 25,.int .u8 17,.int .u8 4,.int .u8 8,.int .u8 31,.int .u8 27,.int .u8 13,.int .u8 23,.int .u8 21,.int .u8 19,.int .u8 16,.int .u8 7,.int .u8 26,.int .u8 12,.int .u8 18,.int .u8 6,.int .u8 11,.int .u8 5,.int .u8 10,.int .u8 9])).modify 9 (layCells #[.int .u8 0,.int .u8 1,.int .u8 56,.int .u8 2,.int .u8 57,.int .u8 49,.int .u8 28,.int .u8 3,.int .u8 61,.int .u8 58,.int .u8 42,.int .u8 50,.int .u8 38,.int .u8 29,.int .u8 17,.int .u8 4,.int .u8 62,.int .u8 47,.int .u8 59,.int .u8 36,.int .u8 45,.int .u8 43,.int .u8 51,.int .u8 22,.int .u8 53,.int .u8 39,.int .u8 33,.int .u8 30,.int .u8 24,.int .u8 18,.int .u8 12,.int .u8 5,.int .u8 63,.int .u8 55,.int .u8 48,.int .u8 27,.int .u8 60,.int .u8 41,.int .u8 37,.int .u8 16,.int .u8 46,.int .u8 35,.int .u8 44,.int .u8 21,.int .u8 52,.int .u8 32,.int .u8 23,.int .u8 11,.int .u8 54,.int .u8 26,.int .u8 40,.int .u8 15,.int .u8 34,.int .u8 20,.int .u8 31,.int .u8 10,.int .u8 25,.int .u8 14,.int .u8 19,.int .u8 9,.int .u8 13,.int .u8 8,.int .u8 7,.int .u8 6])).modify 3 (layCells #[.int .u64 1,.int .u64 10,.int .u64 100,.int .u64 1000,.int .u64 10000,.int .u64 100000,.int .u64 1000000,.int .u64 10000000,.int .u64 100000000,.int .u64 1000000000,.int .u64 10000000000,.int .u64 100000000000,.int .u64 1000000000000,.int .u64 10000000000000,.int .u64 100000000000000,.int .u64 1000000000000000,.int .u64 10000000000000000,.int .u64 100000000000000000,.int .u64 1000000000000000000,.int .u64 10000000000000000000])).modify 2 (layCells #[.iface 237 (.pointer (some ⟨low,0,none⟩))])).modify 1 (layCells #[.iface 237 (.pointer (some ⟨low+1,0,none⟩))])).modify 7 (layCells #[.int .u8 128,.int .u8 191,.int .u8 160,.int .u8 191,.int .u8 128,.int .u8 159,.int .u8 144,.int .u8 191,.int .u8 128,.int .u8 143,.int .u8 0,.int .u8 0,.int .u8 0,.int .u8 0,.int .u8 0,.int .u8 0,.int .u8 0,.int .u8 0,.int .u8 0,.int .u8 0,.int .u8 0,.int .u8 0,.int .u8 0,.int .u8 0,.int .u8 0,.int .u8 0,.int .u8 0,.int .u8 0,.int .u8 0,.int .u8 0,.int .u8 0,.int .u8 0])).modify 6 (layCells (Go.Pinned.utf8FirstZ.map (fun(n:Nat)=>Value.int .u8 (n:Int))).toArray)}
end Go.Proofs.YtpdlbmieciabmaaGreatDoor
namespace Go.Proofs.YtpdlbmieciabmaaGreatDoor
open Go.ChangeShapes Go.WideShapes Go.ChangeAt Go.RowKit Go.Deep
theorem bulk_pos{H:Type}(d:DataW H):1≤Rows.uptoBulk d:=by
 cases d with
 |lit l=>cases l<;>simp[Rows.uptoBulk]
 |_=>simp[Rows.uptoBulk]
theorem bulk_all{H:Type}:∀(l:List (DataW H)),l.length≤Rows.uptoBulkAll l
 |[]=>Nat.zero_le _
 |d::l=>by
  have h1:=bulk_pos d
  have h2:=bulk_all l
  simp only[Rows.uptoBulkAll,List.length_cons]
  omega
section
variable {H:Type} {enc:TypeId×Value→H} {P:Program} {w:World} {base:Nat} {spare:Nat→Bool} {held:Bool}
theorem open_trodB{α:Type}{Q:α→Prop}{M:α→Nat}(f:α→List Value)(s:Nat)(hs0:0<s){t e:TypeId}{fuel:Nat}{x:DataW H×List MemPlace}(hf:∀x,(f x).length =s)(ht:P.underlying t=some (.slice e))(hC:P.cellsOf e=s)
  (hread:∀n cs x,DataW.trod enc P w base spare held n e cs=some x→∃y:α,cs=f y∧Q y∧M y≤Rows.uptoBulk x.1)
  {c0:Value} (hf0:DataW.trod enc P w base spare held fuel t [c0]=some x):∃A n c L,c0= .slice A n c∧Arg f s w A n L∧n≤maxLen∧n≤c∧c≤maxLen∧(∀y∈L,Q y∧M y≤Rows.uptoBulk x.1)∧L.length≤Rows.uptoBulk x.1:=by
 rcases open_slice ht hf0 with⟨hcs,_⟩|⟨a,len,cap,m,n,D,Pl,hcs,hb,hl,hm,hmm,hx,hi⟩
 ·simp at hcs
  subst hcs
  exact⟨none,0,0,[],rfl,⟨rfl,fun i t h=>by simp at h⟩,by unfold maxLen;omega,Nat.le_refl _,Nat.zero_le _,fun y hy=>(by cases hy),Nat.zero_le _⟩
 ·simp at hcs
  subst hcs
  have hd:x.1= .slice ((List.range len).map D) ((List.range (m-len)).map fun j=>D (len+j)):=by rw[hx]
  have hml:len≤m:=by rw[hmm];split<;>omega
  have hspot0:0<len→a.spot=none:=fun hl0=>by
   obtain⟨cs',hc,htr⟩:=hi 0 (by omega)
   obtain⟨y,rfl,hq,_⟩:=hread _ _ _ htr
   rw[hC] at hc
   obtain⟨_,hcl,hat⟩:=World.cells?_some hc
   have h1:w.cell? ((a.add (0*s)).add 0)=(f y)[0]? :=hat 0 hs0
   rw[List.getElem?_eq_getElem (by rw[hf];exact hs0)] at h1
   have h2:=cell_spot h1
   simpa [Addr.add] using h2
  have key:∀i,i<len→∃y:α,(Q y∧M y≤Rows.uptoBulk x.1)∧a.spot=none∧a.block<w.heap.size∧∀j,j<s→w.cell? ⟨a.block,a.off+i*s+j,none⟩=(f y)[j]? :=by
   intro i hil
   obtain⟨cs',hc,htr⟩:=hi i (by omega)
   obtain⟨y,rfl,hq,hm0⟩:=hread _ _ _ htr
   have hm1:M y≤Rows.uptoBulk x.1:=by
    refine Nat.le_trans hm0 ?_
    rw[hd]
    simp only[Rows.uptoBulk]
    have:=bulk_mem (l:=(List.range len).map D) (List.mem_map.2 ⟨i,List.mem_range.2 hil,rfl⟩)
    omega
   rw[hC] at hc
   obtain⟨_,hcl,hat⟩:=World.cells?_some hc
   have hcell:∀j,j<s→w.cell? ((a.add (i*s)).add j)=(f y)[j]? :=fun j hj=>hat j hj
   have hspot:∀j,j<s→((a.add (i*s)).add j).spot =none:=fun j hj=>by
    have h1:=hcell j hj
    rw[List.getElem?_eq_getElem (by rw[hf];exact hj)] at h1
    exact cell_spot h1
   have hblk:a.block<w.heap.size:=by
    have h1:=hcell 0 hs0
    rw[List.getElem?_eq_getElem (by rw[hf];exact hs0)] at h1
    have:=World.block_lt_of_cell? w _ h1
    rw[(add_off _ _).2,(add_off _ _).2] at this
    exact this
   refine⟨y,⟨hq,hm1⟩,?_,hblk,fun j hj=> ?_⟩
   ·exact hspot0 (by omega)
   ·rw[←hcell j hj,addr_none (hspot j hj),(add_off _ _).1,(add_off _ _).2,(add_off _ _).1,(add_off _ _).2]
  obtain⟨L,hL,hget⟩:=list_of len key
  refine⟨some a,len,cap,L,rfl,⟨hL,fun i y hy=> ?_⟩,by omega,hl,hm,fun y hy=> ?_,?_⟩
  ·obtain⟨_,h1,h2,h3⟩:=hget i y hy
   exact⟨a.block,a.off,by rw[←addr_none h1],h2,h3⟩
  ·obtain⟨i,hi'⟩:=List.getElem?_of_mem hy
   exact(hget i y hi').1
  ·rw[hL,hd]
   have:=bulk_all ((List.range len).map D)
   simp only[List.length_map,List.length_range] at this
   simp only[Rows.uptoBulk]
   omega
end
section
variable {H:Type} {enc:TypeId×Value→H} {w:World} {base b0:Nat} {spare:Nat→Bool} {held:Bool} {r:Reach} {v:Value} {d:DataW H} {p:List MemPlace}
theorem o_i64{n:Nat}{cs:List Value}{x:DataW H×List MemPlace}(h:DataW.trod enc Tryz.prog w base spare held n 3 cs=some x):∃a:Int,cs=inC a∧In a:=by
 obtain⟨m,hc,_,hw⟩:=DataW.trod_int Tryz.underlying3 h
 exact⟨m,hc,by simpa [In,Lit.wf,IntKind.min,IntKind.max,IntKind.signed,IntKind.bits] using hw⟩
theorem trod_i64{n:Nat}{c:Value}{x:DataW H×List MemPlace}(h:DataW.trod enc Tryz.prog w base spare held n 3 [c]=some x):∃a:Int,c= .int .i64 a∧In a:=by
 obtain⟨a,e,ha⟩:=o_i64 h
 exact⟨a,(List.cons.inj e).1,ha⟩
set_option maxRecDepth 100000 in
theorem o_pair{n:Nat}{cs:List Value}{x:DataW H×List MemPlace}(h:DataW.trod enc Tryz.prog w base spare held n 92 cs=some x):∃y:Int×Int,cs=prC y∧In y.1∧In y.2:=by
 obtain⟨xs,m,_,_,hcl,hlen,hg⟩:=DataW.trod_array Tryz.underlying92 h
 have e2:Tryz.prog.cellsOf 92=2:=by kernel_rfl
 have e1:Tryz.prog.cellsOf 3=1:=by kernel_rfl
 rw[e2] at hcl
 match cs,hcl with
 |[c0,c1],_=>
  match xs,hlen with
  |[y0,y1],_=>
   have h0:=hg 0 (by omega)
   have h1:=hg 1 (by omega)
   simp[e1] at h0 h1
   obtain⟨a,rfl,ia⟩:=trod_i64 h0
   obtain⟨b,rfl,ib⟩:=trod_i64 h1
   exact⟨(a,b),rfl,ia,ib⟩
theorem arg_sl{α:Type}{f:α→List Value}{s n c:Nat}{A:Option Addr}{L:List α}(h:Arg f s w A n L)(hf:∀x,(f x).length =s)(hn:n≤c)(hc:c≤maxLen):SlOf f s w (.slice A n c) L:=by
 unfold maxLen at hc
 refine⟨A,c,by rw[h.1],by rw[h.1];exact hn,hc,fun i y hy=> ?_⟩
 obtain⟨bk,off,e,hlt,hcell⟩:=h.2 i y hy
 exact⟨bk,off,e,hlt,fun j x hj=>by rw[hcell j (by rw[←hf y];exact(List.getElem?_eq_some_iff.1 hj).1)];exact hj⟩
theorem o_pairs{n:Nat}{c:Value}{x:DataW H×List MemPlace}(h:DataW.trod enc Tryz.prog w base spare held n 89 [c]=some x):∃L:List (Int×Int),SlOf prC 2 w c L∧∀y∈L,In y.1∧In y.2:=by
 obtain⟨A,m,k,L,rfl,hA,_,hn,hc,hQ,_⟩:=open_trodB (P:=Tryz.prog) (Q:=fun y:Int×Int=>In y.1∧In y.2) (M:=fun _=>0) prC 2 (by omega) (fun _=>rfl) Tryz.underlying89 (by kernel_rfl) (fun n cs x hx=>by
  obtain⟨y,h1,h2⟩:=o_pair hx
  exact⟨y,h1,h2,Nat.zero_le _⟩) h
 exact⟨L,arg_sl hA (fun _=>rfl) hn hc,fun y hy=>(hQ y hy).1⟩
theorem o_ints{n:Nat}{c:Value}{x:DataW H×List MemPlace}(h:DataW.trod enc Tryz.prog w base spare held n 38 [c]=some x):∃L:List Int,SlOf inC 1 w c L∧∀y∈L,In y:=by
 obtain⟨A,m,k,L,rfl,hA,_,hn,hc,hQ,_⟩:=open_trodB (P:=Tryz.prog) (Q:=In) (M:=fun _=>0) inC 1 (by omega) (fun _=>rfl) Tryz.underlying38 (by kernel_rfl) (fun n cs x hx=>by
  obtain⟨y,h1,h2⟩:=o_i64 hx
  exact⟨y,h1,h2,Nat.zero_le _⟩) h
 exact⟨L,arg_sl hA (fun _=>rfl) hn hc,fun y hy=>(hQ y hy).1⟩
def lnC(y:Value×Li):List Value:=[.int .i64 y.2.lot,.int .i64 y.2.price,y.1]
def LnQ(w:World)(y:Value×Li):Prop:=SlOf prC 2 w y.1 y.2.values∧In y.2.lot∧In y.2.price∧∀p∈y.2.values,In p.1∧In p.2
set_option maxRecDepth 100000 in
theorem o_line{n:Nat}{cs:List Value}{x:DataW H×List MemPlace}(h:DataW.trod enc Tryz.prog w base spare held n 91 cs=some x):∃y:Value×Li,cs=lnC y∧LnQ w y:=by
 obtain⟨xs,m,_,hx,hcl,hlen,hg⟩:=DataW.trod_struct Tryz.underlying91 h
 have ei:Tryz.prog.cellsOf 3=1:=by kernel_rfl
 have es:Tryz.prog.cellsOf 89=1:=by kernel_rfl
 have e3:Tryz.prog.cellsOf 91=3:=by kernel_rfl
 rw[e3] at hcl
 match cs,hcl with
 |[c0,c1,c2],_=>
  match xs,hlen with
  |[y0,y1,y2],_=>
   have h0:=hg 0 _ rfl
   have h1:=hg 1 _ rfl
   have h2:=hg 2 _ rfl
   clear hg
   simp[ei,es] at h0 h1 h2
   obtain⟨a,rfl,ia⟩:=trod_i64 h0
   obtain⟨b,rfl,ib⟩:=trod_i64 h1
   obtain⟨L,hL,hQ⟩:=o_pairs h2
   exact⟨(c2,⟨a,b,L⟩),rfl,hL,ia,ib,hQ⟩
theorem map_at{α β:Type}{f:α→β}{L:List α}{i:Nat}{b:β}(h:(L.map f)[i]? =some b):∃a,L[i]? =some a∧f a=b:=by
 rw[List.getElem?_map] at h
 cases hl:L[i]? with
 |none=>rw[hl] at h;cases h
 |some a=>
  rw[hl] at h
  exact⟨a,rfl,Option.some.inj h⟩
theorem o_lines{n:Nat}{c:Value}{x:DataW H×List MemPlace}(h:DataW.trod enc Tryz.prog w base spare held n 24 [c]=some x):∃ls:List Li,LnSl w c ls∧∀l∈ls,In l.lot∧In l.price∧∀v∈l.values,In v.1∧In v.2:=by
 obtain⟨A,m,k,L,rfl,hA,_,hn,hc,hQ,_⟩:=open_trodB (P:=Tryz.prog) (Q:=LnQ w) (M:=fun _=>0) lnC 3 (by omega) (fun _=>rfl) Tryz.underlying24 (by kernel_rfl) (fun n cs x hx=>by
  obtain⟨y,h1,h2⟩:=o_line hx
  exact⟨y,h1,h2,Nat.zero_le _⟩) h
 unfold maxLen at hc
 refine⟨L.map (·.2),⟨A,k,by rw[List.length_map,hA.1],by rw[List.length_map,hA.1];exact hn,hc,fun i l hl=> ?_⟩,fun l hl=> ?_⟩
 ·obtain⟨y,hy,rfl⟩:=map_at hl
  obtain⟨bk,off,e,hlt,hcell⟩:=hA.2 i y hy
  exact⟨bk,off,y.1,e,hlt,hcell 0 (by omega),hcell 1 (by omega),hcell 2 (by omega),(hQ y (List.mem_of_getElem? hy)).1.1⟩
 ·obtain⟨y,hy,rfl⟩:=List.mem_map.1 hl
  exact(hQ y hy).1.2
def rsC(y:Value×List Int):List Value:=[y.1]
theorem o_one{n:Nat}{cs:List Value}{x:DataW H×List MemPlace}(h:DataW.trod enc Tryz.prog w base spare held n 38 cs=some x):∃c,cs=[c]:=by
 rcases open_slice (P:=Tryz.prog) Tryz.underlying38 h with⟨hcs,_⟩|⟨a,len,cap,m,n,D,Pl,hcs,_⟩
 ·exact⟨_,hcs⟩
 ·exact⟨_,hcs⟩
theorem o_rebs{n:Nat}{c:Value}{x:DataW H×List MemPlace}(h:DataW.trod enc Tryz.prog w base spare held n 25 [c]=some x):∃rs:List (List Int),RsSl w c rs∧∀r∈rs,∀a∈r,In a:=by
 obtain⟨A,m,k,L,rfl,hA,_,hn,hc,hQ,_⟩:=open_trodB (P:=Tryz.prog) (Q:=fun y:Value×List Int=>SlOf inC 1 w y.1 y.2∧∀a∈y.2,In a) (M:=fun _=>0) rsC 1 (by omega) (fun _=>rfl) Tryz.underlying25 (by kernel_rfl) (fun n cs x hx=>by
  obtain⟨c,rfl⟩:=o_one hx
  obtain⟨L,h1,h2⟩:=o_ints hx
  exact⟨(c,L),rfl,⟨h1,h2⟩,Nat.zero_le _⟩) h
 unfold maxLen at hc
 refine⟨L.map (·.2),⟨A,k,by rw[List.length_map,hA.1],by rw[List.length_map,hA.1];exact hn,hc,fun i l hl=> ?_⟩,fun l hl=> ?_⟩
 ·obtain⟨y,hy,rfl⟩:=map_at hl
  obtain⟨bk,off,e,hlt,hcell⟩:=hA.2 i y hy
  have h0:=hcell 0 (by omega)
  rw[Nat.mul_one,Nat.add_zero] at h0
  exact⟨bk,off,y.1,e,hlt,h0,(hQ y (List.mem_of_getElem? hy)).1.1⟩
 ·obtain⟨y,hy,rfl⟩:=List.mem_map.1 hl
  exact(hQ y hy).1.2
set_option maxRecDepth 100000 in
theorem of_open(hv:Value.okWide Tryz.prog w r b0 27 v)(h:DataW.Trod enc Tryz.prog w base spare held 27 v d p):∃o:Of,OfAt w v o∧o.Ok:=by
 have hagg:∃cs,v= .agg cs:=by
  have hv' :=hv
  simp only[Value.okWide,Tryz.underlying27] at hv'
  obtain⟨cs,h1,_⟩:=hv'
  exact⟨cs,h1⟩
 obtain⟨cs,rfl⟩:=hagg
 obtain⟨fuel,hf⟩:=h
 obtain⟨xs,m,_,hx,hcl,hlen,hg⟩:=DataW.trod_struct Tryz.underlying27 hf
 have e2:Tryz.prog.cellsOf 27=2:=by kernel_rfl
 have ea:Tryz.prog.cellsOf 24=1:=by kernel_rfl
 have eb:Tryz.prog.cellsOf 25=1:=by kernel_rfl
 have hl:(Value.agg cs).cells.toList.length =2:=hcl.trans e2
 obtain⟨l⟩:=cs
 simp only[Value.cells] at hl hg
 match l,hl with
 |[c0,c1],_=>
  match xs,hlen with
  |[y0,y1],_=>
   have h0:=hg 0 _ rfl
   have h1:=hg 1 _ rfl
   clear hg
   simp[ea,eb] at h0 h1
   obtain⟨ls,hls,hlq⟩:=o_lines h0
   obtain⟨rs,hrs,hrq⟩:=o_rebs h1
   exact⟨⟨ls,rs⟩,⟨c0,c1,rfl,hls,hrs⟩,⟨hlq,hrq⟩⟩
end
end Go.Proofs.YtpdlbmieciabmaaGreatDoor
