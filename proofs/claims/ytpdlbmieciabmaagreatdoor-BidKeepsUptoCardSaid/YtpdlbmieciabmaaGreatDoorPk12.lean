/-What is proved here:several parts. slices of records in memory,those that come in and those that a call makes;contents of bids in memory. No conditions. · records that a call makes and appends,one by one,in slices of its own:lots with values,rebates,rows of words. Conditions:there are few. · how a text is split into rows of words,and a row of words read as numbers,step by step,in plain Lean;no program in sight. No conditions. · what a call finds in the library's variables,and the library's cutting,splitting and reading of texts. Conditions:the library's variables hold what their initialisers lay;the texts are short. -/
import Derived.Test.YtpdlbmieciabmaaGreatDoorPk02
import Derived.Test.YtpdlbmieciabmaaGreatDoorPk05
import Derived.Test.YtpdlbmieciabmaaGreatDoorPk11
import Derived.Deep.MidRow
import Derived.Deep.RegionLaw
import Derived.Deep.AppendLies
import Derived.Maps.AppendAt
import Derived.Lib.SplitLaws
namespace Go.Proofs.YtpdlbmieciabmaaGreatDoor
open Go.RowKit
theorem rng_stay{w w' :World}{g o:Nat}{cs:List Value}(h:w.rangeAt g o cs)(ho:Only NoneOf w w'):w'.rangeAt g o cs:=fun j v hj=>ho.cell_some (h j v hj) (fun e=>e)
def SlOf{α:Type}(c:α→List Value)(k:Nat)(w:World)(v:Value)(P:List α):Prop:=
 ∃A cap,v= .slice A P.length cap∧P.length≤cap∧cap≤9223372036854775807∧∀(i:Nat) (p:α),P[i]? =some p→∃g o,A=some ⟨g,o,none⟩∧g<w.heap.size∧w.rangeAt g (o+i*k) (c p)
theorem SlOf.only{α:Type}{c:α→List Value}{k:Nat}{w w' :World}{v:Value}{P:List α}(h:SlOf c k w v P)(ho:Only NoneOf w w'):SlOf c k w' v P:=by
 obtain⟨A,cap,hv,h1,h2,h3⟩:=h
 refine⟨A,cap,hv,h1,h2,fun i p hp=> ?_⟩
 obtain⟨g,o,hA,hg,hr⟩:=h3 i p hp
 exact⟨g,o,hA,Nat.lt_of_lt_of_le hg ho.size,rng_stay hr ho⟩
theorem SlOf.empty{α:Type}(c:α→List Value)(k:Nat)(w:World):SlOf c k w (.slice none 0 0) []:=⟨none,0,rfl,Nat.le_refl _,by omega,fun i p hp=>by simp at hp⟩
def OwnOf{α:Type}(t:TypeId)(c:α→List Value)(k:Nat)(w:World)(base:Nat)(v:Value)(n:Nat)(P:List α):Prop:=w.ownsRow base t k v n (P.flatMap c)
theorem OwnOf.sl{α:Type}{t:TypeId}{c:α→List Value}{k:Nat}(hc:∀p,(c p).length =k){w:World}{base:Nat}{v:Value}{P:List α}(h:OwnOf t c k w base v P.length P):SlOf c k w v P:=by
 rcases h.2 with⟨rfl,h0⟩|⟨g,cap,cur,rfl,hb,hh,hcap,hm,hs,ht⟩
 ·have hP0:P=[]:=List.eq_nil_of_length_eq_zero h0
  subst hP0
  exact SlOf.empty c k w
 ·rw[maxLen_val] at hm
  refine⟨some ⟨g,0,none⟩,cap,rfl,hcap,hm,fun i p hp=>⟨g,0,rfl,Blk.lt (t:=t) hh,fun j x hj=> ?_⟩⟩
  have hj2:j<k:=by
   have:=(List.getElem?_eq_some_iff.1 hj).1
   rw[hc] at this;exact this
  have h1:=flat_get hc P i j hj2 p hp
  have h2:=World.ownsRow.cells h rfl (i*k+j) x (h1.trans hj)
  rw[Addr.add_mid,Nat.zero_add] at h2
  rw[Nat.zero_add]
  exact h2
theorem OwnOf.keep{α:Type}{t:TypeId}{c:α→List Value}{k:Nat}{S:Nat→Prop}{w w' :World}{base n:Nat}{v:Value}{P:List α}(h:OwnOf t c k w base v n P)(ho:Only S w w')(hne:∀b,v.ownBlock=some b→¬S b):OwnOf t c k w' base v n P:=own_only h ho hne
def vlC(v:Vl):List Value:=[.string v.name,.int .i64 v.n]
structure Ec where
 lot:Int
 price:Int
 v:Value
def ecC(e:Ec):List Value:=[.int .i64 0,.int .i64 e.lot,.int .i64 0,.int .i64 e.price,e.v]
structure Rc where
 v:Value
 pc:Int
def rcC(r:Rc):List Value:=[r.v,.int .i64 r.pc]
def inC(n:Int):List Value:=[.int .i64 n]
def shC(p:Int×Int):List Value:=[.int .i64 p.1,.int .i64 p.2]
theorem vlC_len(v:Vl):(vlC v).length =2:=rfl
theorem ecC_len(e:Ec):(ecC e).length =5:=rfl
theorem rcC_len(r:Rc):(rcC r).length =2:=rfl
theorem inC_len(n:Int):(inC n).length =1:=rfl
theorem shC_len(p:Int×Int):(shC p).length =2:=rfl
def EcR(w:World)(c:Ec)(e:En):Prop:=c.lot=e.lot∧c.price=e.price∧SlOf vlC 2 w c.v e.values
def EnSl(w:World)(v:Value)(es:List En):Prop:=∃L:List Ec,L.length=es.length∧SlOf ecC 5 w v L∧∀(i:Nat) (c:Ec) (e:En),L[i]? =some c→es[i]? =some e→EcR w c e
def RcR(w:World)(c:Rc)(r:Rb):Prop:=c.pc=r.pc∧SlOf inC 1 w c.v r.lots
def RbSl(w:World)(v:Value)(rs:List Rb):Prop:=∃L:List Rc,L.length=rs.length∧SlOf rcC 2 w v L∧∀(i:Nat) (c:Rc) (r:Rb),L[i]? =some c→rs[i]? =some r→RcR w c r
theorem EcR.only{w w' :World}{c:Ec}{e:En}(h:EcR w c e)(ho:Only NoneOf w w'):EcR w' c e:=⟨h.1,h.2.1,h.2.2.only ho⟩
theorem RcR.only{w w' :World}{c:Rc}{r:Rb}(h:RcR w c r)(ho:Only NoneOf w w'):RcR w' c r:=⟨h.1,h.2.only ho⟩
theorem EnSl.only{w w' :World}{v:Value}{es:List En}(h:EnSl w v es)(ho:Only NoneOf w w'):EnSl w' v es:=by
 obtain⟨L,h1,h2,h3⟩:=h
 exact⟨L,h1,h2.only ho,fun i c e hc he=>(h3 i c e hc he).only ho⟩
theorem RbSl.only{w w' :World}{v:Value}{rs:List Rb}(h:RbSl w v rs)(ho:Only NoneOf w w'):RbSl w' v rs:=by
 obtain⟨L,h1,h2,h3⟩:=h
 exact⟨L,h1,h2.only ho,fun i c e hc he=>(h3 i c e hc he).only ho⟩
theorem EnSl.at_{w:World}{A:Option Addr}{n cap:Nat}{es:List En}(h:EnSl w (.slice A n cap) es):n=es.length∧n≤cap∧cap≤9223372036854775807∧∀(i:Nat) (e:En),es[i]? =some e→∃g o c,A=some ⟨g,o,none⟩∧g<w.heap.size∧w.rangeAt g (o+i*5) (ecC c)∧EcR w c e:=by
 obtain⟨L,h1,⟨A',cap',hv,h2,h3,h4⟩,h5⟩:=h
 obtain⟨rfl,rfl,rfl⟩:=hv
 refine⟨h1,h2,h3,fun i e he=> ?_⟩
 have hi:i<L.length:=by rw[h1];exact(List.getElem?_eq_some_iff.1 he).1
 obtain⟨c,hc⟩:∃c,L[i]? =some c:=⟨_,List.getElem?_eq_getElem hi⟩
 obtain⟨g,o,h6,h7,h8⟩:=h4 i c hc
 exact⟨g,o,c,h6,h7,h8,h5 i c e hc he⟩
theorem RbSl.at_{w:World}{A:Option Addr}{n cap:Nat}{rs:List Rb}(h:RbSl w (.slice A n cap) rs):n=rs.length∧n≤cap∧cap≤9223372036854775807∧∀(i:Nat) (r:Rb),rs[i]? =some r→∃g o c,A=some ⟨g,o,none⟩∧g<w.heap.size∧w.rangeAt g (o+i*2) (rcC c)∧RcR w c r:=by
 obtain⟨L,h1,⟨A',cap',hv,h2,h3,h4⟩,h5⟩:=h
 obtain⟨rfl,rfl,rfl⟩:=hv
 refine⟨h1,h2,h3,fun i r hr=> ?_⟩
 have hi:i<L.length:=by rw[h1];exact(List.getElem?_eq_some_iff.1 hr).1
 obtain⟨c,hc⟩:∃c,L[i]? =some c:=⟨_,List.getElem?_eq_getElem hi⟩
 obtain⟨g,o,h6,h7,h8⟩:=h4 i c hc
 exact⟨g,o,c,h6,h7,h8,h5 i c r hc hr⟩
end Go.Proofs.YtpdlbmieciabmaaGreatDoor
namespace Go.Proofs.YtpdlbmieciabmaaGreatDoor
open Go.RowKit Go.Shelf
def aph(ts:Array TypeId)(t:TypeId)(vs:Array Value):Sem Value:=Builtin.append_ ts t vs
theorem aph_eq(ts:Array TypeId)(t:TypeId)(vs:Array Value):Builtin.append_ ts t vs=aph ts t vs:=rfl
def RecI(t:TypeId)(k B:Nat):Prop:=∃ie z,Tryz.prog.info? t=some ie∧ie.size=k∧ie.zero=some z∧z.cells.size=k∧ie.bytes=B
theorem recI_of{t:TypeId}{k B:Nat}(h1:(Tryz.prog.info? t).map (·.size)=some k)(h2:((Tryz.prog.info? t).bind (·.zero)).map (fun z=>z.cells.size)=some k)(h3:(Tryz.prog.info? t).map (·.bytes)=some B):RecI t k B:=by
 cases hie:Tryz.prog.info? t with
 |none=>simp[hie] at h1
 |some ie=>
  simp only[hie,Option.map_some,Option.some.injEq,Option.bind_some] at h1 h2 h3
  cases hz:ie.zero with
  |none=>simp[hz] at h2
  |some z=>
   simp only[hz,Option.map_some,Option.some.injEq] at h2
   exact⟨ie,z,hie,h1,hz,h2,h3⟩
theorem run_append_rec{α:Type}{T t:TypeId}{k B:Nat}{c:α→List Value}(hT:Tryz.prog.underlying T=some (.slice t))(hI:RecI t k B)(hk:0<k)(hB:B≤128)(hc:∀p,(c p).length =k)(W:World)(base:Nat)(v:Value)(P:List α)(p:α)(h1:∀u∈c p,u.oneCell' =true)(hown:OwnOf t c k W base v P.length P)(N:Nat)(hsrc:Blk W N t (c p).toArray)(hn:P.length≤1000000000)(hb:base≤W.heap.size)(ty:TypeId):
  ∃A cap W',(aph #[T,T] ty #[v,.slice (some ⟨N,0,none⟩) 1 1]).run Tryz.prog W= .ok (.slice A (P.length+1) cap) W'∧OwnOf t c k W' base (.slice A (P.length+1) cap) (P.length+1) (P++[p])∧W.grownBy W' v.ownBlock∧((Value.slice A (P.length+1) cap).ownBlock =v.ownBlock∨(Value.slice A (P.length+1) cap).ownBlock =some W.heap.size):=by
 obtain⟨ie,z,hie,hsz,hz,hzc,hby⟩:=hI
 have hnews:∀j x,(c p)[j]? =some x→W.cell? ((⟨N,0,none⟩:Addr).add j)=some x:=fun j x hj=>by
  rw[Addr.add_mid,Nat.zero_add,hsrc.cell]
  simpa using hj
 have hmul:(P.length+1)*B≤(P.length+1)*128:=Nat.mul_le_mul (Nat.le_refl _) hB
 obtain⟨v',W',hr,h2,h3,_,h5⟩:=run_append_own_at (P:=Tryz.prog) W base T ty t ie z k B hT hie hz hsz hby hzc hk v P.length (P.flatMap c) hown ⟨N,0,none⟩ 1 1 (c p) (by rw[hc,Nat.one_mul]) hnews h1 (by rw[maxLen_val];omega) (by omega) hb
 obtain⟨A,cap',e,_,_⟩:=own_form' h2
 subst e
 exact⟨A,cap',W',hr,by unfold OwnOf;rw[List.flatMap_append,List.flatMap_cons,List.flatMap_nil,List.append_nil];exact h2,h3,h5⟩
def SlT{α:Type}(t:TypeId)(c:α→List Value)(k:Nat)(w:World)(v:Value)(P:List α):Prop:=
 ∃A cap,v= .slice A P.length cap∧P.length≤cap∧cap≤9223372036854775807∧∀(i:Nat) (p:α),P[i]? =some p→∃g o cur,A=some ⟨g,o,none⟩∧Blk w g t cur∧w.rangeAt g (o+i*k) (c p)
theorem SlT.sl{α:Type}{t:TypeId}{c:α→List Value}{k:Nat}{w:World}{v:Value}{P:List α}(h:SlT t c k w v P):SlOf c k w v P:=by
 obtain⟨A,cap,hv,h1,h2,h3⟩:=h
 refine⟨A,cap,hv,h1,h2,fun i p hp=> ?_⟩
 obtain⟨g,o,cur,hA,hb,hr⟩:=h3 i p hp
 exact⟨g,o,hA,hb.lt,hr⟩
theorem SlT.keep{α:Type}{t:TypeId}{c:α→List Value}{k:Nat}{S:Nat→Prop}{w w' :World}{v:Value}{P:List α}(h:SlT t c k w v P)(ho:Only S w w')(hS:∀g cur,Blk w g t cur→v.ownBlock=some g→¬S g):SlT t c k w' v P:=by
 obtain⟨A,cap,hv,h1,h2,h3⟩:=h
 refine⟨A,cap,hv,h1,h2,fun i p hp=> ?_⟩
 obtain⟨g,o,cur,hA,hb,hr⟩:=h3 i p hp
 have hg:¬S g:=hS g cur hb (by rw[hv,hA];rfl)
 exact⟨g,o,cur,hA,hb.only ho hg,fun j x hj=>ho.cell_some (hr j x hj) hg⟩
theorem SlT.none_{α:Type}{t:TypeId}{c:α→List Value}{k:Nat}{w w' :World}{v:Value}{P:List α}(h:SlT t c k w v P)(ho:Only NoneOf w w'):SlT t c k w' v P:=h.keep ho (fun _ _ _ _ e=>e)
theorem OwnOf.slT{α:Type}{t:TypeId}{c:α→List Value}{k:Nat}(hc:∀p,(c p).length =k){w:World}{base:Nat}{v:Value}{P:List α}(h:OwnOf t c k w base v P.length P):SlT t c k w v P:=by
 have hs:=OwnOf.sl hc h
 obtain⟨A,cap,hv,h1,h2,h3⟩:=hs
 refine⟨A,cap,hv,h1,h2,fun i p hp=> ?_⟩
 obtain⟨g,o,hA,hg,hr⟩:=h3 i p hp
 rcases h.2 with⟨h0,h9⟩|⟨g',cap',cur,h0,hb,hh,_⟩
 ·rw[List.eq_nil_of_length_eq_zero h9] at hp
  simp at hp
 ·rw[hv,hA] at h0
  cases h0
  exact⟨g,0,cur,hA,hh,hr⟩
theorem OwnOf.nil{α:Type}(t:TypeId)(c:α→List Value)(k:Nat)(w:World)(base:Nat):OwnOf t c k w base (.slice none 0 0) 0 []:=⟨(by simp),.inl ⟨rfl,rfl⟩⟩
theorem OwnOf.cur{α:Type}{t:TypeId}{c:α→List Value}{k:Nat}{w w' :World}{base n C:Nat}{v:Value}{L:List α}(h:OwnOf t c k w base v n L)(ho:Only (·=C) w w')(hC:C<base):OwnOf t c k w' base v n L:=OwnOf.keep h ho (fun b hb e=>by
 have:=(own_ge h hb).1
 have e' :b=C:=e
 omega)
theorem SlT.drop{α:Type}{t:TypeId}{c:α→List Value}{k:Nat}{w:World}{g o n cap:Nat}{P:List α}(h:SlT t c k w (.slice (some ⟨g,o,none⟩) n cap) P)(j:Nat)(hj:j≤P.length):SlT t c k w (.slice (some ⟨g,o+j*k,none⟩) (n-j) (cap-j)) (P.drop j):=by
 obtain⟨A,cap',hv,h1,h2,h3⟩:=h
 cases hv
 refine⟨_,_,by rw[List.length_drop],by rw[List.length_drop];omega,by omega,fun i p hp=> ?_⟩
 rw[List.getElem?_drop] at hp
 obtain⟨g',o',cur,hA,hb,hr⟩:=h3 (j+i) p hp
 cases hA
 refine⟨g,_,cur,rfl,hb,?_⟩
 rw[show o+j*k+i*k=o+(j+i)*k by rw[Nat.add_mul,Nat.add_assoc]]
 exact hr
def strC(t:ByteArray):List Value:=[.string t]
def valC(v:Value):List Value:=[v]
theorem strC_len(t:ByteArray):(strC t).length =1:=rfl
theorem valC_len(v:Value):(valC v).length =1:=rfl
def RowsOwn(w:World)(base:Nat)(v:Value)(n:Nat)(rows:List (List ByteArray)):Prop:=∃L:List Value,L.length=rows.length∧OwnOf 72 valC 1 w base v n L∧∀(i:Nat) (u:Value) (r:List ByteArray),L[i]? =some u→rows[i]? =some r→SlT 9 strC 1 w u r
def RowsSl(w:World)(v:Value)(rows:List (List ByteArray)):Prop:=∃A cap,v= .slice A rows.length cap∧rows.length≤cap∧cap≤9223372036854775807∧∀(i:Nat) (r:List ByteArray),rows[i]? =some r→∃g o u,A=some ⟨g,o,none⟩∧w.cell? ⟨g,o+i,none⟩=some u∧SlT 9 strC 1 w u r
theorem RowsOwn.sl{w:World}{base:Nat}{v:Value}{rows:List (List ByteArray)}(h:RowsOwn w base v rows.length rows):RowsSl w v rows:=by
 obtain⟨L,hl,h1,h2⟩:=h
 rw[←hl] at h1
 obtain⟨A,cap,hv,h3,h4,h5⟩:=OwnOf.sl valC_len h1
 refine⟨A,cap,by rw[hv,hl],by omega,h4,fun i r hr=> ?_⟩
 have hi:i<L.length:=by rw[hl];exact(List.getElem?_eq_some_iff.1 hr).1
 obtain⟨u,hu⟩:∃u,L[i]? =some u:=⟨_,List.getElem?_eq_getElem hi⟩
 obtain⟨g,o,hA,_,hrg⟩:=h5 i u hu
 exact⟨g,o,u,hA,by simpa using hrg 0 u rfl,h2 i u r hu hr⟩
theorem RowsOwn.nil(w:World)(base:Nat):RowsOwn w base (.slice none 0 0) 0 []:=⟨[],rfl,OwnOf.nil _ _ _ _ _,fun i u r h _=>by simp at h⟩
theorem RowsOwn.keep{S:Nat→Prop}{w w' :World}{base n:Nat}{v:Value}{rows:List (List ByteArray)}(h:RowsOwn w base v n rows)(ho:Only S w w')(h1:∀b,v.ownBlock=some b→¬S b)(h2:∀b cur,Blk w b 9 cur→¬S b):RowsOwn w' base v n rows:=by
 obtain⟨L,hl,k1,k2⟩:=h
 exact⟨L,hl,OwnOf.keep k1 ho h1,fun i u r hu hr=>(k2 i u r hu hr).keep ho (fun g cur hb _=>h2 g cur hb)⟩
theorem rowsI:RecI 72 1 24:=recI_of (by kernel_rfl) (by kernel_rfl) (by kernel_rfl)
theorem val_one(u:Value)(h:u.oneCell' =true):∀x∈valC u,x.oneCell' =true:=fun x hx=>by
 obtain rfl:=List.mem_singleton.1 hx
 exact h
end Go.Proofs.YtpdlbmieciabmaaGreatDoor
namespace Go.Proofs.YtpdlbmieciabmaaGreatDoor
theorem textG_nil{p:List Ln}(h:textG p=[]):p=[]:=by
 cases p with
 |nil=>rfl
 |cons x q=>
  rw[textG_cons] at h
  exact absurd (congrArg List.length h) (by have:=List.length_pos_iff.2 (lineOf_ne x);simp only[List.length_nil,List.length_append];omega)
def SplI(s:List UInt8)(rows:List (List ByteArray))(r:List UInt8):Prop:=(∀x∈rows,x≠[])∧rowsW rows+r.length≤s.length∧∀p,IsTx s p→rows.map rowD=(p.take rows.length).map rowOf∧r=textG (p.drop rows.length)
theorem SplI.new(s:List UInt8):SplI s [] s:=⟨fun x h=>(by cases h),(by simp[rowsW]),fun p h=>⟨rfl,h.2⟩⟩
theorem SplI.done{s:List UInt8}{rows:List (List ByteArray)}(h:SplI s rows []):SplitR s rows true:=by
 refine⟨h.1,fun p hp=> ?_,by have:=h.2.1;simpa using this⟩
 obtain⟨h1,h2⟩:=h.2.2 p hp
 have h3:=textG_nil h2.symm
 have h4:=congrArg List.length h3
 rw[List.length_drop,List.length_nil] at h4
 exact⟨rfl,by rw[h1,List.take_of_length_le (by omega)]⟩
theorem cut_len{r a b:List UInt8}(h:Lib.cut r [10]=(a,b,true)):a.length+1+b.length=r.length∧r=a++10::b:=by
 unfold Lib.cut at h
 rcases Lib.index_spec r [10] with⟨h1,_⟩|⟨i,h1,_,h3,_⟩
 ·rw[h1,if_neg (by omega)] at h
  cases h
 ·rw[h1,if_pos (by omega)] at h
  simp only[Prod.mk.injEq,and_true,Int.toNat_natCast,List.length_singleton] at h
  obtain⟨rfl,rfl⟩:=h
  have h4:=Lib.occAt_head rfl h3
  obtain⟨h5,h6⟩:=List.getElem?_eq_some_iff.1 h4
  refine⟨by rw[List.length_take,List.length_drop];omega,?_⟩
  rw[←h6,←List.drop_eq_getElem_cons h5,List.take_append_drop]
theorem line_split{x:Ln}{q:List Ln}(hx:LineOk x):Lib.cut (lineOf x++textG q) [10]=(x.1++wordsN x.2,textG q,true):=by
 have e:lineOf x++textG q=(x.1++wordsN x.2)++10::textG q:=by unfold lineOf lineL;simp
 rw[e]
 refine cut_line fun c hc=> ?_
 rcases List.mem_append.1 hc with hc|hc
 ·exact mid_end hx.1 c hc
 ·exact words_end hx.2 c hc
theorem SplI.fail{s r a b:List UInt8}{rows:List (List ByteArray)}(h:SplI s rows r)(hr:r≠[])(hc:Lib.cut r [10]=(a,b,false)):SplitR s [] false:=by
 refine⟨fun x hx=>(by cases hx),fun p hp=> ?_,by simp[rowsW]⟩
 obtain⟨_,h2⟩:=h.2.2 p hp
 cases e:p.drop rows.length with
 |nil=>rw[e] at h2;exact absurd h2 hr
 |cons x q=>
  rw[e,textG_cons] at h2
  rw[h2,line_split (hp.1 x (List.mem_of_mem_drop (by rw[e];simp)))] at hc
  cases hc
def rowB(t:ByteArray):List ByteArray:=Lib.splitB blankB 0 (Lib.countB t blankB) t
theorem rowB_len(t:ByteArray):(rowB t).length =Lib.countB t blankB+1:=Lib.splitB_all blankB (by decide) 0 _ t rfl
theorem SplI.step{s r a b:List UInt8}{rows:List (List ByteArray)}(h:SplI s rows r)(hr:r≠[])(hc:Lib.cut r [10]=(a,b,true)){t:ByteArray}(ht:t.data.toList=a):SplI s (rows++[rowB t]) b:=by
 obtain⟨l1,l2⟩:=cut_len hc
 refine⟨fun x hx=> ?_,?_,fun p hp=> ?_⟩
 ·rcases List.mem_append.1 hx with hx|hx
  ·exact h.1 x hx
  ·obtain rfl:=List.mem_singleton.1 hx
   intro e
   have:=rowB_len t
   rw[e] at this
   cases this
 ·have h2:=h.2.1
  rw[rowsW_snoc,show rowW (rowB t)=t.size+1 from split_room _ t,size_list,ht]
  omega
 ·obtain⟨h1,h2⟩:=h.2.2 p hp
  cases e:p.drop rows.length with
  |nil=>rw[e] at h2;exact absurd h2 hr
  |cons x q=>
   have hx:=hp.1 x (List.mem_of_mem_drop (by rw[e];simp))
   rw[e,textG_cons] at h2
   rw[h2,line_split hx] at hc
   simp only[Prod.mk.injEq,and_true] at hc
   obtain⟨rfl,rfl⟩:=hc
   have hlt:rows.length<p.length:=by
    have:=congrArg List.length e
    rw[List.length_drop,List.length_cons] at this
    omega
   have hd:=List.drop_eq_getElem_cons hlt
   rw[e] at hd
   simp only[List.cons.injEq] at hd
   obtain⟨k1,k2⟩:=split_words x.2 x.1 t (mid_blank hx.1) hx.2 ht
   refine⟨?_,?_⟩
   ·rw[List.length_append,List.length_singleton,List.take_add_one,List.getElem?_eq_getElem hlt,Option.toList_some,←hd.1,List.map_append,List.map_append,h1]
    congr 1
    simp only[List.map_cons,List.map_nil]
    congr 1
    unfold rowB rowOf
    rw[k1,k2]
   ·rw[List.length_append,List.length_singleton,←hd.2]
def NumI(ws:List (List UInt8))(k:Nat)(ns:List Int):Prop:=ns.length=k∧(∀n∈ns,In n)∧∀ms:List Int,(∀m∈ms,In m)→ws=ms.map Lib.itoa→ns=ms.take k
theorem NumI.new(ws:List (List UInt8)):NumI ws 0 []:=⟨rfl,fun n h=>(by cases h),fun ms _ _=>by simp⟩
theorem NumI.step{ws:List (List UInt8)}{k:Nat}{ns:List Int}(h:NumI ws k ns){w:List UInt8}(hw:ws[k]? =some w){n:Int}(hn:In n)(hu:∀m,In m→w=Lib.itoa m→n=m):NumI ws (k+1) (ns++[n]):=by
 obtain⟨h1,h2,h3⟩:=h
 refine⟨by simp[h1],fun m hm=> ?_,fun ms hms e=> ?_⟩
 ·rcases List.mem_append.1 hm with hm|hm
  ·exact h2 m hm
  ·obtain rfl:=List.mem_singleton.1 hm
   exact hn
 ·rw[e,List.getElem?_map] at hw
  cases hk:ms[k]? with
  |none=>rw[hk] at hw;cases hw
  |some m=>
   rw[hk] at hw
   simp only[Option.map_some,Option.some.injEq] at hw
   rw[List.take_add_one,hk,Option.toList_some,←h3 ms hms e,hu m (hms m (List.mem_of_getElem? hk)) hw.symm]
theorem NumI.done{ws:List (List UInt8)}{ns:List Int}(h:NumI ws ws.length ns):NumsR ws ns true:=by
 obtain⟨h1,h2,h3⟩:=h
 refine⟨h2,fun ms hms e=>⟨rfl,?_⟩,by omega⟩
 have h4:=h3 ms hms e
 rw[e,List.length_map,List.take_of_length_le (Nat.le_refl _)] at h4
 exact h4
theorem NumI.fail{ws:List (List UInt8)}{k:Nat}{w:List UInt8}(hw:ws[k]? =some w)(hu:∀m,In m→w≠Lib.itoa m):NumsR ws [] false:=by
 refine⟨fun n h=>(by cases h),fun ms hms e=> ?_,Nat.zero_le _⟩
 rw[e,List.getElem?_map] at hw
 cases hk:ms[k]? with
 |none=>rw[hk] at hw;cases hw
 |some m=>
  rw[hk] at hw
  simp only[Option.map_some,Option.some.injEq] at hw
  exact absurd hw.symm (hu m (hms m (List.mem_of_getElem? hk)))
theorem atoi_in{l:List UInt8}{v:Int}(h:Lib.atoiAll l= .ok v):In v:=by
 rw[←Lib.parseIntB_64] at h
 have:=Lib.parseIntB_bounds h
 unfold In
 have e:((2^(64-1):Nat):Int)=9223372036854775808:=by decide
 omega
end Go.Proofs.YtpdlbmieciabmaaGreatDoor
namespace Go.Proofs.YtpdlbmieciabmaaGreatDoor
open Go.RowKit Go.Shelf
structure Env(w:World):Prop where
 tab:Tab w
 syn:∃tp p,w.var? Tryz.prog "strconv.ErrSyntax" =some #[.iface tp p]
 rng:∃tp p,w.var? Tryz.prog "strconv.ErrRange" =some #[.iface tp p]
 shp:w.ShapedOpen Tryz.prog
theorem var_only{w w' :World}{n:String}{cs:Array Value}(ho:Only NoneOf w w')(h:w.var? Tryz.prog n=some cs):w'.var? Tryz.prog n=some cs:=by
 have hb:Below w.heap.size w w' :=Only.below ho (Nat.le_refl _) (fun _ e=>e.elim)
 unfold World.var? at h⊢
 obtain⟨g,hg,h⟩:=Option.bind_eq_some_iff.1 h
 rw[hg]
 simp only[Option.bind_some]
 have hlt:g<w.heap.size:=by
  rcases Nat.lt_or_ge g w.heap.size with h1|h1
  ·exact h1
  ·rw[Array.getElem?_eq_none h1] at h;cases h
 rw[hb.block g hlt]
 exact h
theorem Env.none{w w' :World}(h:Env w)(ho:Only NoneOf w w'):Env w' :=by
 obtain⟨t,⟨a,b,hs⟩,⟨c,d,hr⟩,hp⟩:=h
 have hb:Below w.heap.size w w' :=Only.below ho (Nat.le_refl _) (fun _ e=>e.elim)
 exact⟨t.none ho,⟨a,b,var_only ho hs⟩,⟨c,d,var_only ho hr⟩,hp.keptBut (hb.frame (fun _=>False)) (fun _ e=>e.elim)⟩
theorem cut_any(s:ByteArray)(hs:s.size≤4000000000)(w:World)(h:Env w):Calls Tryz.prog 67 #[.string s,.string ⟨#[10]⟩] w fun e w' =>∃a b:ByteArray,∃ok,e= .returned (.tuple #[.string a,.string b,.bool ok])∧Lib.cut s.data.toList [10]=(a.data.toList,b.data.toList,ok)∧Only NoneOf w w' :=
 (Tryz.strings_Cut_shaped s ⟨#[10]⟩ w h.shp (by omega)).mono fun e w' h=>by
  obtain⟨rfl,n,rfl⟩:=h
  exact⟨_,_,_,rfl,rfl,(Only.refl _ _).drewN n⟩
theorem split_any(s:ByteArray)(hs:s.size≤4000000000)(w:World)(h:Env w):Calls Tryz.prog 68 #[.string s,.string blankB] w fun e w' =>∃A cap,e= .returned (.slice A (rowB s).length cap)∧SlT 9 strC 1 w' (.slice A (rowB s).length cap) (rowB s)∧Only NoneOf w w' :=
 (Tryz.strings_Split_shaped s blankB w h.shp (by omega) (by decide)).mono fun e w' h=>by
  obtain⟨rfl,rfl⟩:=h
  have hl:=rowB_len s
  have hc:Lib.countB s blankB≤s.size:=Lib.countB_le blankB (by decide) s.size s (Nat.le_refl _)
  refine⟨some ⟨w.heap.size,0,none⟩,(rowB s).length,by rw[hl],⟨_,_,rfl,Nat.le_refl _,by omega,fun i p hp=> ?_⟩,(Only.refl _ _).alloc _⟩
  have hb:=Blk.new w 9 ((Lib.splitB blankB 0 (Lib.countB s blankB) s).map Value.string).toArray
  refine⟨w.heap.size,0,_,rfl,hb,fun j v hv=> ?_⟩
  have hj:j=0:=by
   have:=(List.getElem?_eq_some_iff.1 hv).1
   rw[strC_len] at this
   omega
  subst hj
  have hv' :v= .string p:=by simpa [strC] using hv.symm
  subst hv'
  have h2:(rowB s)[i]? =some p:=hp
  unfold rowB at h2
  rw[hb.cell]
  simp[List.getElem?_map,h2]
theorem atoi_any(s:ByteArray)(hs:s.size≤4000000000)(w:World)(h:Env w):Calls Tryz.prog 69 #[.string s] w fun e w' =>∃v:Int,∃ev,e= .returned (.tuple #[.int .i64 v,ev])∧((ev= .nilIface∧In v∧∀m,In m→s.data.toList=Lib.itoa m→v=m)∨((∃N,ev= .iface 198 (.pointer (some ⟨N,0,none⟩)))∧∀m,In m→s.data.toList≠Lib.itoa m))∧Only NoneOf w w' :=by
 obtain⟨_,⟨tp,p,h1⟩,⟨tq,q,h2⟩,_⟩:=h
 cases hr:Lib.atoiAll s.data.toList
 ·rename_i v
  refine(Tryz.strconv_Atoi_ok s (by omega) v hr w).mono ?_
  rintro e w' ⟨rfl,h3⟩
  refine⟨v,_,rfl,.inl ⟨rfl,atoi_in hr,fun m hm e=> ?_⟩,?_⟩
  ·rw[e,atoi_itoa hm] at hr
   cases hr
   rfl
  ·rcases h3 with rfl|⟨t,rfl⟩
   ·exact Only.refl _ _
   ·exact Only.of_below (Lib.bytesWorld_below _ _ _) _
 ·refine(Tryz.strconv_Atoi_syntax_var s (by omega) hr tp p w h1).mono ?_
  rintro e w' ⟨N,rfl,_,_,hb⟩
  refine⟨_,_,rfl,.inr ⟨⟨N,rfl⟩,fun m hm e=> ?_⟩,Only.of_below hb _⟩
  rw[e,atoi_itoa hm] at hr
  cases hr
 ·refine(Tryz.strconv_Atoi_range_var s (by omega) hr tq q w h2).mono ?_
  rintro e w' ⟨N,rfl,_,_,hb⟩
  refine⟨_,_,rfl,.inr ⟨⟨N,rfl⟩,fun m hm e=> ?_⟩,Only.of_below hb _⟩
  rw[e,atoi_itoa hm] at hr
  cases hr
end Go.Proofs.YtpdlbmieciabmaaGreatDoor
