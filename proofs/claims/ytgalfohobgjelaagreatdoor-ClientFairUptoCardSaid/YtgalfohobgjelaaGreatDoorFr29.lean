/- What is proved here:several parts. a client notes that its bid was sent. Conditions:the bid is well and short;the table of powers of ten lies. · the steps to a leaf,by the program,the lowest one first. Conditions:the index lies below the size,which is at most 1000. · whether a path is right,by the program. Conditions:the head is of at most 1000 leaves,the text is short,the hashes have 32 bytes. -/
import Derived.Test.YtgalfohobgjelaaGreatDoorFr18
import Derived.Test.YtgalfohobgjelaaGreatDoorFr20
import Derived.Test.YtgalfohobgjelaaGreatDoorFr23
import Derived.Test.YtgalfohobgjelaaGreatDoorFr28
import Derived.BigRegion
namespace Go.Proofs.YtgalfohobgjelaaGreatDoor
open Go.RowKit Go.Shelf
theorem CliAt.recell {w w':World} {base:Nat} {c c':Cli} (h:CliAt w base c) (ho:Only (fun k=>k=c.C) w w') (hb:Blk w' c.C tCli (cliC c').toArray) (e1:c'.C=c.C) (e2:c'.pv=c.pv) (e3:c'.P=c.P) (e4:c'.vv=c.vv) (e5:c'.votes=c.votes) (e6:c'.mv=c.mv) (e7:c'.seen=c.seen) (e8:c'.head=c.head):CliAt w' base c':=by
 refine⟨by rw [e1];exact hb,by rw [e1];exact h.lo,by rw [e8];exact h.hok,?_,?_,by rw [e5];exact h.ok,?_,by rw [e7];exact h.sok⟩
 ·rw [e2,e3];exact own_only h.pers ho (fun k hk e=>h.ne_pv (by rw [hk,e]))
 ·rw [e4,e5];exact own_only h.votes ho (fun k hk e=>h.ne_vv (by rw [hk,e]))
 ·rw [e6,e7];exact h.seen.only ho (fun k hk e=>h.ne_mv (by rw [hk,e]))
theorem recell_step {w w':World} {c c':Cli} (ho:Only (fun k=>k=c.C) w w') (e1:c'.C=c.C) (e2:c'.pv=c.pv) (e4:c'.vv=c.vv) (e6:c'.mv=c.mv):CliStep w w' c c':=
 ⟨ho.mono (fun k _ hk=> .inl hk),fun k hk=> .inl (by
  rcases hk with hk|hk|hk|hk
  ·exact .inl (by rw [hk,e1])
  ·exact .inr (.inl (by rw [←e2];exact hk))
  ·exact .inr (.inr (.inl (by rw [←e4];exact hk)))
  ·exact .inr (.inr (.inr (by rw [←e6];exact hk))))⟩
def encT (d:Bd):ByteArray:=⟨(encB d).toArray⟩
set_option maxRecDepth 100000 in
set_option maxHeartbeats 1000000 in
theorem csent_any (d:Bd) (hd:d.Ok) {qA pA:Option Addr} {qk pk:Nat} {w:World} (hq:IntSl w qA d.qc) (hp:IntSl w pA d.pc) (ht:Tab w) (base:Nat) (c:Cli) (h:CliAt w base c):
  Calls Tryz.prog 32 #[.pointer (some ⟨c.C,0,none⟩),.agg (bdCells d qA pA qk pk)] w fun e w'=>e= .returned (.tuple #[])∧CliAt w' base { c with sent:=true,text:=encT d,rc:=false}∧CliStep w w' c { c with sent:=true,text:=encT d,rc:=false}:=by
 have ho0:Only NoneOf w (w.alloc (.cells (bdCells d qA pA qk pk) tBid)):=(Only.refl _ _).alloc _
 have hen:∀W,Only NoneOf w W→Calls Tryz.prog 64 #[.agg (bdCells d qA pA qk pk)] W (RetStr (encB d) W):=fun W ho=>bencode_any d hd (hq.none_ ho) (hp.none_ ho) (ht.none ho)
 have hen0:=hen _ ho0
 have H:=Lib.hid h
 have HEN:=Lib.hid hen0
 have HO0:=Lib.hid ho0
 clear h hq hp ht hen hen0 ho0
 go_enter Tryz.func32,Tryz.ntmps32
 go_wp2_with fail
 refine HEN.out.mono ?_
 rintro e w2 ⟨t,rfl,ht,ho2⟩
 obtain rfl:t=encT d:=ba_ext ht
 have hc:=H.out.nn (HO0.out.trans ho2)
 have hl:=hc.hok.root
 have b1:=cli_put_sent hc.blk true
 have b2:=cli_put_text b1 (encT d)
 have b3:=cli_put_rc b2 hl false
 have s1:=cli_sent hc.blk
 have s2:=cli_text b1
 have s3:=cli_rc b2 hl
 have f1:=hc.blk.frozen 7
 have f2:=b1.frozen 8
 have f3:=b2.frozen 44
 have hon:Only (fun k=>k=c.C) w2 (((w2.setCell ⟨c.C,7,none⟩ (.bool true)).setCell ⟨c.C,8,none⟩ (.string (encT d))).setCell ⟨c.C,44,none⟩ (.bool false)):=(((Only.refl (fun k=>k=c.C) w2).setCell (p:=⟨c.C,7,none⟩) (.inl rfl) _).setCell (p:=⟨c.C,8,none⟩) (.inl rfl) _).setCell (p:=⟨c.C,44,none⟩) (.inl rfl) _
 have hfin:=hc.recell (c':= { c with sent:=true,text:=encT d,rc:=false}) hon b3 rfl rfl rfl rfl rfl rfl rfl rfl
 have hst:=(CliStep.nn (c:=c) (HO0.out.trans ho2)).trans (recell_step (c':= { c with sent:=true,text:=encT d,rc:=false}) hon rfl rfl rfl rfl)
 have HFIN:=Lib.hid hfin
 have HST:=Lib.hid hst
 clear hc b1 b2 b3 hon hfin hst ht ho2
 go_wp2_with fail
 go_end0
 exact⟨rfl,HFIN.out,HST.out⟩
end Go.Proofs.YtgalfohobgjelaaGreatDoor
namespace Go.Proofs.YtgalfohobgjelaaGreatDoor
open Go.RowKit Go.Shelf
def stC (b:Bool):List Value:= [.bool b]
theorem stC_len (b:Bool):(stC b).length=1:=rfl
def StOwn (w:World) (base:Nat) (v:Value) (n:Nat) (L:List Bool):Prop:=w.ownsRow base 155 1 v n (L.flatMap stC)
theorem stC_get (L:List Bool) (i:Nat):(L.flatMap stC)[i]? =(L[i]?).map Value.bool:=by
 induction L generalizing i with
 |nil=>simp
 |cons x l ih=>
  rw [List.flatMap_cons]
  cases i with
  |zero=>rfl
  |succ i=>show(l.flatMap stC)[i]? =_;rw [ih];rfl
theorem StOwn.cell {w:World} {base g cap n:Nat} {L:List Bool} (h:StOwn w base (.slice (some ⟨g,0,none⟩) n cap) n L) {i:Nat} {b:Bool} (hi:L[i]? =some b):w.cell? ⟨g,i,none⟩=some (.bool b):=by
 have h2:=World.ownsRow.cells h rfl i (.bool b) (by rw [stC_get,hi];rfl)
 rw [Addr.add_mid,Nat.zero_add] at h2
 exact h2
theorem own_frozen {w:World} {base g cap n size:Nat} {e:TypeId} {xs:List Value} (h:w.ownsRow base e size (.slice (some ⟨g,0,none⟩) n cap) n xs) (i:Nat):w.frozen? ⟨g,i,none⟩=false:=by
 rcases h.2 with⟨h0,_⟩|⟨g',cap',cur,hv,hb,hh,_⟩
 ·simp at h0
 ·simp only [Value.slice.injEq,Option.some.injEq,Addr.mk.injEq,and_true,true_and] at hv
  obtain⟨rfl,rfl⟩:=hv
  exact Blk.frozen (t:=e) hh i
theorem step_info:∃ie z,Tryz.prog.info? 155=some ie∧ie.size=1∧ie.zero=some z∧z.cells.size=1∧ie.bytes≤100:=by
 have h1:(Tryz.prog.info? 155).map (·.size)=some 1:=by kernel_rfl
 have h2:((Tryz.prog.info? 155).bind (·.zero)).isSome=true:=by kernel_rfl
 have h3:(Tryz.prog.info? 155).map (fun i=>decide (i.bytes≤100))=some true:=by kernel_rfl
 have h4:((Tryz.prog.info? 155).bind (·.zero)).map (fun z=>z.cells.size)=some 1:=by kernel_rfl
 cases hie:Tryz.prog.info? 155 with
 |none=>simp [hie] at h1
 |some ie=>
  simp only [hie,Option.map_some,Option.some.injEq,Option.bind_some,decide_eq_true_eq] at h1 h2 h3 h4
  obtain⟨z,hz⟩:=Option.isSome_iff_exists.1 h2
  simp only [hz,Option.map_some,Option.some.injEq] at h4
  exact⟨ie,z,rfl,h1,hz,h4,h3⟩
def swapL (L:List Bool) (i j:Nat):List Bool:=(L.set i (L.getD j false)).set j (L.getD i false)
theorem StOwn.swap {w:World} {base g cap n i j:Nat} {L:List Bool} {a b:Bool} (h:StOwn w base (.slice (some ⟨g,0,none⟩) n cap) n L) (ha:L[i]? =some a) (hb:L[j]? =some b):
  StOwn ((w.setCell ⟨g,i,none⟩ (.bool b)).setCell ⟨g,j,none⟩ (.bool a)) base (.slice (some ⟨g,0,none⟩) n cap) n (swapL L i j):=by
 have h1:=World.ownsRow.stored h i (.bool b)
 have h2:=World.ownsRow.stored h1.1 j (.bool a)
 have e:∀(M:List Bool) (k:Nat) (x:Bool),(M.flatMap stC).set k (.bool x)=(M.set k x).flatMap stC:=fun M k x=>by
  apply List.ext_getElem?
  intro q
  rw [stC_get,List.getElem?_set,List.getElem?_set,stC_get]
  have hl:(M.flatMap stC).length=M.length:=by rw [flat_len stC_len];omega
  rw [hl]
  split
  ·split<;>rfl
  ·rfl
 have hsw:swapL L i j=(L.set i b).set j a:=by
  unfold swapL
  rw [List.getD_eq_getElem?_getD,List.getD_eq_getElem?_getD,ha,hb]
  rfl
 rw [hsw]
 unfold StOwn
 rw [←e,←e]
 exact h2.1
theorem getD_swap (L:List Bool) {i j:Nat} (hi:i<L.length) (hj:j<L.length) (k:Nat):(swapL L i j)[k]? =if k=j then L[i]? else if k=i then L[j]? else L[k]? :=by
 unfold swapL
 rw [List.getElem?_set,List.getElem?_set,List.length_set]
 by_cases e:k=j
 ·subst e
  rw [if_pos rfl,if_pos hj,if_pos rfl,List.getD_eq_getElem?_getD,List.getElem?_eq_getElem hi];rfl
 ·rw [if_neg (Ne.symm e),if_neg e]
  by_cases e2:k=i
  ·subst e2
   rw [if_pos rfl,if_pos hi,if_pos rfl,List.getD_eq_getElem?_getD,List.getElem?_eq_getElem hj];rfl
  ·rw [if_neg (Ne.symm e2),if_neg e2]
def RevR (L M:List Bool) (k:Nat):Prop:=M.length=L.length∧∀q,M[q]? =if q<k∨L.length≤q+k then L.reverse[q]? else L[q]?
theorem RevR.zero (L:List Bool):RevR L L 0:=⟨rfl,fun q=>by
 split
 ·rename_i h
  have:L.length≤q:=by omega
  rw [List.getElem?_eq_none (by omega),List.getElem?_eq_none (by rw [List.length_reverse];omega)]
 ·rfl⟩
theorem RevR.next {L M:List Bool} {k:Nat} (h:RevR L M k) (hk:2 * k+1<L.length):RevR L (swapL M k (L.length - 1 - k)) (k+1):=by
 refine⟨by unfold swapL;rw [List.length_set,List.length_set,h.1],fun q=> ?_⟩
 rw [getD_swap M (by rw [h.1];omega) (by rw [h.1];omega)]
 have r:∀q,q<L.length→L.reverse[q]? =L[L.length - 1 - q]? :=fun q hq=>List.getElem?_reverse hq
 by_cases e:q=L.length - 1 - k
 ·rw [if_pos e,h.2,if_neg (by omega),if_pos (by omega),r q (by omega)]
  congr 1;omega
 ·rw [if_neg e]
  by_cases e2:q=k
  ·rw [if_pos e2,h.2,if_neg (by omega),if_pos (by omega),r q (by omega)]
   congr 1;omega
  ·rw [if_neg e2,h.2]
   by_cases e3:q<k∨L.length≤q+k
   ·rw [if_pos e3,if_pos (by omega)]
   ·rw [if_neg e3,if_neg (by omega)]
theorem RevR.done {L M:List Bool} {k:Nat} (h:RevR L M k) (hk:L.length≤2 * k+1):M=L.reverse:=by
 apply List.ext_getElem?
 intro q
 rw [h.2]
 by_cases e:q<k∨L.length≤q+k
 ·rw [if_pos e]
 ·rw [if_neg e,List.getElem?_reverse (by omega)]
  congr 1;omega
set_option maxRecDepth 100000 in
set_option maxHeartbeats 2000000 in
theorem reverse_any (L:List Bool) (hn:L.length≤100000) (base:Nat) (v:Value) (w:World) (h:StOwn w base v L.length L):
  Calls Tryz.prog 152 #[v] w fun e w'=>e= .returned (.tuple #[])∧StOwn w' base v L.length L.reverse∧Only (fun k=>v.ownBlock=some k) w w':=by
 rcases Nat.eq_zero_or_pos L.length with h0|hpos
 ·have hL:L= []:=List.eq_nil_of_length_eq_zero h0
  subst hL
  obtain⟨A,cap,rfl,hc1,hc2⟩:=own_form' h
  have H:=Lib.hid h
  clear h h0
  go_enter Tryz.func152,Tryz.ntmps152
  go_wp2_with fail
  go_loopw [2,3] (fun iv jv wr=>iv= .int .i64 0∧jv= .int .i64 (-1)∧wr=w) (fun _ _ _=>0)
  case atStart=>exact⟨rfl,rfl,rfl⟩
  case round=>
   obtain⟨rfl,rfl,rfl⟩:=hrel
   go_wp2_with fail
   go_end0
   exact⟨rfl,H.out,Only.refl _ _⟩
 ·obtain⟨g,cap,rfl,hg1,hg2,hg3,hg4⟩:=own_form h hpos
  have H:=Lib.hid h
  clear h
  go_enter Tryz.func152,Tryz.ntmps152
  go_wp2_with fail
  go_loopw [2,3] (fun iv jv wr=> ∃(k:Nat) (M:List Bool),iv= .int .i64 (k:Int)∧jv= .int .i64 ((L.length:Int) - 1 - (k:Int))∧2 * k≤L.length+1∧RevR L M k∧StOwn wr base (.slice (some ⟨g,0,none⟩) L.length cap) L.length M∧Only (fun q=>q=g) w wr) (fun iv _ _=>L.length - (intOf iv).toNat)
  case atStart=>exact⟨0,L,rfl,by go_num,by omega,RevR.zero L,H.out,Only.refl _ _⟩
  case round=>
   obtain⟨k,M,rfl,rfl,hk,hR,hown,ho⟩:=hrel
   by_cases hlt:2 * k+1<L.length
   ·obtain⟨j,ej⟩:∃j,j=L.length - 1 - k:=⟨_,rfl⟩
    have ej2:(L.length:Int) - 1 - (k:Int)=(j:Int):=by omega
    rw [ej2]
    obtain⟨a,ha⟩:∃a,M[k]? =some a:=⟨_,List.getElem?_eq_getElem (by rw [hR.1];omega)⟩
    obtain⟨b,hb⟩:∃b,M[j]? =some b:=⟨_,List.getElem?_eq_getElem (by rw [hR.1];omega)⟩
    have c1:=hown.cell ha
    have c2:=hown.cell hb
    have f1:=own_frozen hown k
    have f2:=own_frozen hown j
    have d1:decide ((k:Int) < (j:Int))=true:=decide_eq_true (by omega)
    have d2:k<j:=by omega
    have k0:(0:Int)≤(k:Int):=by omega
    have j0:(0:Int)≤(j:Int):=by omega
    have k1:(k:Int) < (L.length:Int):=by omega
    have j1:(j:Int) < (L.length:Int):=by omega
    have j2:j≤100000:=by omega
    have HN:=Lib.hid (And.intro (hR.next hlt) (And.intro (hown.swap ha hb) (show Only (fun q=>q=g) w ((wr.setCell ⟨g,k,none⟩ (.bool b)).setCell ⟨g,j,none⟩ (.bool a)) from(ho.setCell (p:=⟨g,k,none⟩) (.inl rfl) _).setCell (p:=⟨g,j,none⟩) (.inl rfl) _)))
    have EJ:=Lib.hid ej
    clear ho hown hR ha hb ej ej2 hk hlt
    go_wp2_with fail
    go_region
    have hs:((j:Int) - 1)=(L.length:Int) - 1 - ((k+1:Nat):Int):=by have:=EJ.out;omega
    have HS:=Lib.hid hs
    clear c1 c2 f1 f2 hs
    go_wp2_with fail
    go_roundw
    case rel=>exact⟨k+1,swapL M k j,by go_num,by rw [←HS.out],by have:=EJ.out;omega,by rw [EJ.out];exact HN.out.1,by rw [EJ.out];exact(EJ.out▸HN.out.2.1),HN.out.2.2.drew⟩
    case measure=>simp [intOf];omega
   ·have d1:decide ((k:Int) < (L.length:Int) - 1 - (k:Int))=false:=decide_eq_false (by omega)
    have hd:=hR.done (by omega)
    have HN:=Lib.hid (And.intro hd (And.intro hown ho))
    clear hd hown ho hR hk hlt
    go_wp2_with fail
    go_end0
    refine⟨rfl,?_,HN.out.2.2.mono (fun q _ e=>by rw [e];rfl)⟩
    rw [←HN.out.1]
    exact HN.out.2.1
def WyR (i n a m:Nat) (L:List Bool):Prop:=∃f,m≤f∧f≤1000∧wayF n i n=L++wayF f a m
theorem WyR.len {i n a m:Nat} {L:List Bool} (h:WyR i n a m L) (hn:n≤1000):L.length≤1000:=by
 obtain⟨f,_,_,e⟩:=h
 have h1:=congrArg List.length e
 rw [way_len,List.length_append] at h1
 have:=depthF_le n i n
 omega
theorem WyR.left {i n a m:Nat} {L:List Bool} (h:WyR i n a m L) (h1:1<m) (hk:a<halfN m):WyR i n a (halfN m) (L++ [false]):=by
 obtain⟨f,hf,hf2,e⟩:=h
 have hs:=halfN_spec (n:=m) (by omega) (by omega)
 obtain⟨g,rfl⟩:∃g,f=g+1:=⟨f - 1,by omega⟩
 refine⟨g,by omega,by omega,?_⟩
 rw [e,List.append_assoc,show wayF (g+1) a m=if m≤1 then [] else if a<halfN m then false::wayF g a (halfN m) else true::wayF g (a - halfN m) (m - halfN m) from rfl,if_neg (by omega),if_pos hk]
 rfl
theorem WyR.right {i n a m:Nat} {L:List Bool} (h:WyR i n a m L) (h1:1<m) (hk:¬a<halfN m):WyR i n (a - halfN m) (m - halfN m) (L++ [true]):=by
 obtain⟨f,hf,hf2,e⟩:=h
 have hs:=halfN_spec (n:=m) (by omega) (by omega)
 obtain⟨g,rfl⟩:∃g,f=g+1:=⟨f - 1,by omega⟩
 refine⟨g,by omega,by omega,?_⟩
 rw [e,List.append_assoc,show wayF (g+1) a m=if m≤1 then [] else if a<halfN m then false::wayF g a (halfN m) else true::wayF g (a - halfN m) (m - halfN m) from rfl,if_neg (by omega),if_neg hk]
 rfl
theorem WyR.done {i n a m:Nat} {L:List Bool} (h:WyR i n a m L) (h1:m≤1):L=wayF n i n:=by
 obtain⟨f,hf,hf2,e⟩:=h
 rw [e]
 have:wayF f a m= []:=by cases f with
  |zero=>rfl
  |succ f=>unfold wayF;rw [if_pos h1]
 rw [this,List.append_nil]
theorem newS (W:World) (b:Bool):(W.alloc (.cells #[.bool b] 155)).heap[W.heap.size]? =some (.cells #[.bool b] 155 (0,0)):=Blk.new W _ _
set_option maxRecDepth 100000 in
set_option maxHeartbeats 4000000 in
theorem way_any (i n:Nat) (hi:i<n) (hn:n≤1000) (w:World):Calls Tryz.prog 105 #[.int .i64 (i:Int),.int .i64 (n:Int)] w fun e w'=> ∃ov,e= .returned ov∧StOwn w' w.heap.size ov (wayF n i n).reverse.length (wayF n i n).reverse∧Only NoneOf w w':=by
 obtain⟨ie,zz,hie,hsz,hz,hzc,hby⟩:=step_info
 have HIE:=Lib.hid hie
 have HSZ:=Lib.hid hsz
 have HZZ:=Lib.hid hz
 have HZC:=Lib.hid hzc
 have HBY:=Lib.hid hby
 have H0:Hid (WyR i n i n []):=Lib.hid ⟨n,Nat.le_refl _,hn,rfl⟩
 clear hie hsz hz hzc hby
 go_enter Tryz.func105,Tryz.ntmps105
 go_wp2_with fail
 go_loopw [0,1,5] (fun iv nv ov wr=> ∃(a m:Nat) (L:List Bool),iv= .int .i64 (a:Int)∧nv= .int .i64 (m:Int)∧a<m∧m≤1000∧WyR i n a m L∧StOwn wr w.heap.size ov L.length L∧Only NoneOf w wr) (fun _ nv _ _=> (intOf nv).toNat)
 case atStart=>exact⟨i,n, [],rfl,rfl,hi,hn,H0.out,⟨rfl,.inl ⟨rfl,rfl⟩⟩,Only.refl _ _⟩
 case round=>
  obtain⟨a,m,L,rfl,rfl,ham,hm,hW,hown,ho⟩:=hrel
  obtain⟨out,hout⟩:∃out:Value,out=u5:=⟨_,rfl⟩
  subst hout
  have hLl:=hW.len hn
  by_cases h1:1<m
  ·have d1:decide (1< (m:Int))=true:=decide_eq_true (by omega)
   have hsp:=halfN_spec (n:=m) (by omega) (by omega)
   obtain⟨k,ek⟩:∃k,k=halfN m:=⟨_,rfl⟩
   have HH:Hid (∀W,Calls Tryz.prog 83 #[.int .i64 (m:Int)] W fun e w'=>e= .returned (.int .i64 (k:Int))∧w'=W):=Lib.hid (fun W=>by rw [ek];exact half_any m (by omega) (by omega) W)
   by_cases hk:a<k
   ·have d2:decide ((a:Int) < (k:Int))=true:=decide_eq_true (by omega)
    have HW:Hid (WyR i n a k (L++ [false])):=Lib.hid (by rw [ek];exact hW.left h1 (by rw [←ek];exact hk))
    rw [←ek] at hsp
    have HOWN:=Lib.hid hown
    have HO:=Lib.hid ho
    clear ek hW hown ho
    go_wp2_with fail
    refine(HH.out _).mono ?_
    rintro e1 w1 ⟨rfl,rfl⟩
    go_wp2_with (at_builtin;refine wpList_append_lies _ rfl _ _ 152 rfl w.heap.size 155 ie zz 1 ie.bytes Tryz.underlying152 HIE.out HZZ.out HSZ.out rfl HZC.out (by omega) out L.length (L.flatMap stC) rfl (World.ownsRow.alloc HOWN.out _) _ 1 1 (stC false) rfl rfl (World.news_of_block (cs:= #[.bool false]) (t:=155) (fr:=(0,0)) (newS _ false)) (by simp [stC,Value.oneCell']) (by omega) (by rw [maxLen_val];omega) (by have:=HBY.out;exact Nat.le_trans (Nat.mul_le_mul (show L.length+1≤2000 by omega) this) (by omega)) (Only.size (Only.alloc HO.out _)) _ rfl ?_;intro g8 cap8 w8 hown8 hgrow8 hat8 hlt8)
    have hS8:Only NoneOf w w8:=(Only.alloc HO.out _).grown hgrow8 (fun j e=> .inr (own_ge HOWN.out e).1)
    have HF:=Lib.hid hS8
    have HWN:=Lib.hid hown8
    clear hgrow8 hat8 hlt8 hown8 hS8
    go_wp2_with fail
    go_roundw
    case rel=>exact⟨a,k,L++ [false],rfl,rfl,hk,by omega,HW.out,by unfold StOwn;rw [List.length_append,List.flatMap_append];exact HWN.out,HF.out⟩
    case measure=>simp [intOf];omega
   ·have d2:decide ((a:Int) < (k:Int))=false:=decide_eq_false (by omega)
    have HW:Hid (WyR i n (a - k) (m - k) (L++ [true])):=Lib.hid (by rw [ek];exact hW.right h1 (by rw [←ek];exact hk))
    rw [←ek] at hsp
    have HOWN:=Lib.hid hown
    have HO:=Lib.hid ho
    clear ek hW hown ho
    go_wp2_with fail
    refine(HH.out _).mono ?_
    rintro e1 w1 ⟨rfl,rfl⟩
    go_wp2_with (at_builtin;refine wpList_append_lies _ rfl _ _ 152 rfl w.heap.size 155 ie zz 1 ie.bytes Tryz.underlying152 HIE.out HZZ.out HSZ.out rfl HZC.out (by omega) out L.length (L.flatMap stC) rfl (World.ownsRow.alloc HOWN.out _) _ 1 1 (stC true) rfl rfl (World.news_of_block (cs:= #[.bool true]) (t:=155) (fr:=(0,0)) (newS _ true)) (by simp [stC,Value.oneCell']) (by omega) (by rw [maxLen_val];omega) (by have:=HBY.out;exact Nat.le_trans (Nat.mul_le_mul (show L.length+1≤2000 by omega) this) (by omega)) (Only.size (Only.alloc HO.out _)) _ rfl ?_;intro g8 cap8 w8 hown8 hgrow8 hat8 hlt8)
    have hS8:Only NoneOf w w8:=(Only.alloc HO.out _).grown hgrow8 (fun j e=> .inr (own_ge HOWN.out e).1)
    have HF:=Lib.hid hS8
    have HWN:=Lib.hid hown8
    clear hgrow8 hat8 hlt8 hown8 hS8
    go_wp2_with fail
    go_roundw
    case rel=>exact⟨a - k,m - k,L++ [true],by go_num,by go_num,by omega,by omega,HW.out,by unfold StOwn;rw [List.length_append,List.flatMap_append];exact HWN.out,HF.out⟩
    case measure=>simp [intOf];omega
  ·have d1:decide (1< (m:Int))=false:=decide_eq_false (by omega)
   have hd:=hW.done (by omega)
   have hrv:Calls Tryz.prog 152 #[out] wr fun e w'=>e= .returned (.tuple #[])∧StOwn w' w.heap.size out L.length L.reverse∧Only (fun k=>out.ownBlock=some k) wr w':=reverse_any L (by omega) w.heap.size out wr hown
   have HRV:=Lib.hid hrv
   have HD:=Lib.hid hd
   have HO:=Lib.hid ho
   have HGE:Hid (∀k,out.ownBlock=some k→w.heap.size≤k):=Lib.hid (fun k hk=> (own_ge hown hk).1)
   clear hrv hd ho hown hW
   go_wp2_with fail
   refine HRV.out.mono ?_
   rintro e1 w1 ⟨rfl,hown1,ho1⟩
   have HF:=Lib.hid (And.intro hown1 (HO.out.trans' ho1 (fun q hq e=>by have:=HGE.out q e;omega)))
   clear hown1 ho1 HRV
   go_wp2_with fail
   go_ret
   refine⟨_,rfl,?_,HF.out.2⟩
   rw [←HD.out,List.length_reverse]
   exact HF.out.1
end Go.Proofs.YtgalfohobgjelaaGreatDoor
namespace Go.Proofs.YtgalfohobgjelaaGreatDoor
open Go.RowKit Go.Shelf
attribute [local go_sem ↓ high] haLoad_eq
def ckP (r:Hs) (s:Nat) (i:Int) (l:List UInt8) (Q:List Hs):Bool:=
 if i<0 then false else if(s:Int)≤i then false else if Q.length=depthF s i.toNat s then(upF s (leafL l) i.toNat s Q.reverse==r) else false
structure CpS (w:World) (B:Nat) (h:Hd) (v:Value) (Q:List Hs) (W:World):Prop where
 a:HdAt W B h
 r:W.rangeAt B 1 (h.root.map bv)
 l:HaSl W v Q
 only:Only NoneOf w W
theorem CpS.keep {w:World} {B:Nat} {h:Hd} {v:Value} {Q:List Hs} {W W':World} (hh:CpS w B h v Q W) (ho:Only NoneOf W W'):CpS w B h v Q W':=
 ⟨Blk.only hh.a ho (fun e=>e),rng_only hh.r ho,hh.l.only ho,hh.only.trans ho⟩
theorem CpS.new {w:World} {h:Hd} {v:Value} {Q:List Hs} (hs:HaSl w v Q):CpS w w.heap.size h v Q (w.alloc (.cells (hdC h).toArray 37)):=
 ⟨Blk.new w _ _,range_root (blk_range (Blk.new w tHd (hdC h).toArray)),hs.only ((Only.refl _ _).alloc _),(Only.refl _ _).alloc _⟩
end Go.Proofs.YtgalfohobgjelaaGreatDoor
namespace Go.Proofs.YtgalfohobgjelaaGreatDoor
open Go.RowKit Go.Shelf
attribute [local go_sem ↓ high] haLoad_eq haStore_eq
def foldK (x:Hs) (S:List Bool) (Q:List Hs) (k:Nat):Hs:=((S.zip Q).take k).foldl (fun y sh=>stepH sh.1 sh.2 y) x
theorem foldK_next {x:Hs} {S:List Bool} {Q:List Hs} {k:Nat} {s:Bool} {t:Hs} (hs:S[k]? =some s) (ht:Q[k]? =some t):foldK x S Q (k+1)=stepH s t (foldK x S Q k):=by
 unfold foldK
 have h:(S.zip Q)[k]? =some (s,t):=by rw [List.getElem?_zip_eq_some];exact⟨hs,ht⟩
 rw [List.take_add_one,h,List.foldl_append]
 rfl
theorem foldK_len {x:Hs} (hx:x.length=32) (S:List Bool) (Q:List Hs) (k:Nat):(foldK x S Q k).length=32:=by
 unfold foldK
 generalize (S.zip Q).take k=l
 induction l generalizing x with
 |nil=>exact hx
 |cons a l ih=>exact ih (by show(stepH a.1 a.2 x).length=32;unfold stepH;split<;>exact nodeL_len _ _)
theorem foldK_all {f i n:Nat} {x:Hs} {Q:List Hs} (h:Q.length=depthF f i n):foldK x (wayF f i n).reverse Q Q.length=upF f x i n Q.reverse:=by
 unfold foldK
 rw [up_fold h,List.take_of_length_le (by rw [List.length_zip];omega)]
structure CqS (w:World) (B X:Nat) (h:Hd) (v sv:Value) (Q:List Hs) (S:List Bool) (y:Hs) (W:World):Prop where
 a:HdAt W B h
 r:W.rangeAt B 1 (h.root.map bv)
 l:HaSl W v Q
 s:StOwn W w.heap.size sv S.length S
 y:HaAt W X y
 only:Only NoneOf w W
theorem CqS.keep {w:World} {B X:Nat} {h:Hd} {v sv:Value} {Q:List Hs} {S:List Bool} {y:Hs} {W W':World} (hh:CqS w B X h v sv Q S y W) (ho:Only NoneOf W W'):CqS w B X h v sv Q S y W':=
 ⟨Blk.only hh.a ho (fun e=>e),rng_only hh.r ho,hh.l.only ho,own_only hh.s ho (fun _ _ e=>e),Blk.only hh.y ho (fun e=>e),hh.only.trans ho⟩
theorem CqS.put {w:World} {B X:Nat} {h:Hd} {v sv:Value} {Q:List Hs} {S:List Bool} {y m:Hs} {W:World} (hh:CqS w B X h v sv Q S y W) (hB:B<X) (hX:w.heap.size≤X) (hs:HaSl w v Q) (hy:y.length=32) (hm:m.length=32):CqS w B X h v sv Q S m (W.setCells X 0 (m.map bv)):=by
 have hne:=own_blk_ne hh.s hh.y (by decide)
 have ho:Only NoneOf w (W.setCells X 0 (m.map bv)):=only_setCells hh.only X 0 (.inr hX) _
 have ha:HdAt (W.setCells X 0 (m.map bv)) B h:=Blk.farCells (by omega) _ 0 hh.a
 exact⟨ha,range_root (blk_range ha),hs.only ho,own_only hh.s (only_setCells (S:=fun k=>k=X) (Only.refl _ _) X 0 (.inl rfl) _) (fun k hk e=>hne (by rw [hk,e])),hh.y.put hy hm,ho⟩
set_option maxRecDepth 100000 in
set_option maxHeartbeats 4000000 in
theorem checkpath_any (h:Hd) (s:Nat) (hs:h.size=(s:Int)) (hs2:s≤1000) (hl:h.root.length=32) (i:Int) (x:ByteArray) (hx:x.size≤17592186044416) (Q:List Hs) (hok:HsOk Q) (v:Value) (w:World) (hv':HaSl w v Q):
  Calls Tryz.prog 62 #[.agg (hdC h).toArray,.int .i64 i,.string x,v] w fun e w'=>e= .returned (.bool (ckP h.root s i x.data.toList Q))∧Only NoneOf w w':=by
 obtain⟨A,cap,rfl,hlc,hcm,hA⟩:=id hv'
 have hS0:=CpS.new (h:=h) hv'
 obtain⟨B,eB⟩:∃B,B=w.heap.size:=⟨_,rfl⟩
 rw [←eB] at hS0
 have HS0:=Lib.hid hS0
 have EB:=Lib.hid eB
 have HSZ:=Lib.hid hs
 have HL:=Lib.hid hl
 clear hS0 eB
 by_cases h1:i<0
 ·have hc:ckP h.root s i x.data.toList Q=false:=by unfold ckP;rw [if_pos h1]
  rw [hc]
  have d1:decide (i<0)=true:=decide_eq_true h1
  clear hc hv' h1 hs hA
  go_enter Tryz.func62,Tryz.ntmps62
  go_upto_region 1 with(fail)
  rw [←EB.out]
  refine wp_gen (CpS w B h (.slice A Q.length cap) Q) HS0.out ?_
  intro Z hZ
  have HO:=Lib.hid hZ.only
  clear hZ HS0
  go_wp2_with fail
  go_ret
  exact⟨rfl,HO.out⟩
 ·have d1:decide (i<0)=false:=decide_eq_false h1
  by_cases h2:(s:Int)≤i
  ·have hc:ckP h.root s i x.data.toList Q=false:=by unfold ckP;rw [if_neg h1,if_pos h2]
   rw [hc]
   have d2:decide ((s:Int)≤i)=true:=decide_eq_true h2
   clear hc hv' h1 h2 hs hA
   go_enter Tryz.func62,Tryz.ntmps62
   go_upto_region 1 with(fail)
   rw [←EB.out]
   refine wp_gen (CpS w B h (.slice A Q.length cap) Q) HS0.out ?_
   intro Z hZ
   have c0:Z.cell? ⟨B,0,none⟩=some (.int .i64 (s:Int)):=by rw [←HSZ.out];exact Blk.cell hZ.a 0
   have HO:=Lib.hid hZ.only
   clear hZ HS0
   go_wp2_with fail
   go_ret
   exact⟨rfl,HO.out⟩
  ·have d2:decide ((s:Int)≤i)=false:=decide_eq_false h2
   obtain⟨j,rfl⟩:∃j:Nat,i=(j:Int):=⟨i.toNat,by omega⟩
   have d2n:decide (s≤j)=false:=decide_eq_false (by omega)
   have d2m:¬s≤j:=by omega
   obtain⟨S,eS⟩:∃S,S=(wayF s j s).reverse:=⟨_,rfl⟩
   have hSl:S.length=depthF s j s:=by rw [eS,List.length_reverse,way_len]
   have hSle:=depthF_le s j s
   have hway:∀W,Calls Tryz.prog 105 #[.int .i64 (j:Int),.int .i64 (s:Int)] W fun e w'=> ∃ov,e= .returned ov∧StOwn w' W.heap.size ov S.length S∧Only NoneOf W w':=fun W=>by rw [eS];exact way_any j s (by omega) hs2 W
   have HWY:=Lib.hid hway
   have hck:ckP h.root s (j:Int) x.data.toList Q=if Q.length=S.length then(upF s (leafL x.data.toList) j s Q.reverse==h.root) else false:=by
    unfold ckP
    rw [if_neg h1,if_neg h2,Int.toNat_natCast,hSl]
   rw [hck]
   by_cases h3:Q.length=S.length
   ·have d3:((S.length:Int)==(Q.length:Int))=true:=by simp [h3]
    have d4:((S.length:Int) !=(Q.length:Int))=false:=by simp [h3]
    rw [if_pos h3]
    obtain⟨y,ey⟩:∃y,y=leafL x.data.toList:=⟨_,rfl⟩
    have hy:y.length=32:=by rw [ey];exact leafL_len _
    have hfin:upF s y j s Q.reverse=foldK y S Q Q.length:=by rw [eS,foldK_all (by rw [h3,hSl])]
    have hleaf:∀W,Calls Tryz.prog 106 #[.string x] W fun e w'=>e= .returned (hv y)∧Only NoneOf W w':=fun W=>by rw [ey];exact tleaf_any x W hx
    rw [←ey,hfin]
    have HF:=Lib.hid hleaf
    have HY:=Lib.hid hy
    have HA:=Lib.hid hA
    have HV:=Lib.hid hv'
    have HOK:=Lib.hid hok
    have H3:=Lib.hid h3
    have hQ:Q.length≤1000:=by omega
    clear hleaf hway ey hck hfin h3 hok hv' h1 h2 hs hx hA eS hSl hSle hy
    go_enter Tryz.func62,Tryz.ntmps62
    go_upto_region 1 with(fail)
    rw [←EB.out]
    refine wp_gen (CpS w B h (.slice A Q.length cap) Q) HS0.out ?_
    intro Z hZ
    have c0:Z.cell? ⟨B,0,none⟩=some (.int .i64 (s:Int)):=by rw [←HSZ.out];exact Blk.cell hZ.a 0
    have HZ:=Lib.hid hZ
    clear hZ HS0
    go_wp2_with fail
    refine(HWY.out _).mono ?_
    rintro e1 w1 ⟨sv,rfl,hsv,ho1⟩
    obtain⟨sA,scap,rfl,hsc1,hsc2⟩:=own_form' hsv
    rw [maxLen_val] at hsc2
    have HW1:=Lib.hid (And.intro (HZ.out.keep ho1) (own_lower hsv HZ.out.only.size))
    clear hsv ho1 c0 HZ HWY
    go_wp2_with fail
    refine(HF.out _).mono ?_
    rintro e2 w2 ⟨rfl,ho2⟩
    have hstn:=fresh_store w2 y HY.out
    have hO2:Only NoneOf w1 ((w2.alloc (.cells zeroLit 35)).setCells w2.heap.size 0 (y.map bv)):=ho2.trans (only_setCells ((Only.refl _ w2).alloc _) w2.heap.size 0 (.inr (Nat.le_refl _)) (y.map bv))
    have hlt:B<w2.heap.size:=Nat.lt_of_lt_of_le (Blk.lt HW1.out.1.a) ho2.size
    have hwX:w.heap.size≤w2.heap.size:=Nat.le_trans HW1.out.1.only.size ho2.size
    obtain⟨X,eX⟩:∃X,X=w2.heap.size:=⟨_,rfl⟩
    have hat:HaAt ((w2.alloc (.cells zeroLit 35)).setCells w2.heap.size 0 (y.map bv)) w2.heap.size y:=(fresh_at w2).put rfl HY.out
    rw [←eX] at hO2 hlt hat hwX
    have hC0:CqS w B X h (.slice A Q.length cap) (.slice sA S.length scap) Q S (foldK y S Q 0) ((w2.alloc (.cells zeroLit 35)).setCells X 0 (y.map bv)):=
     have hk:=HW1.out.1.keep hO2
     ⟨hk.a,hk.r,hk.l,own_only HW1.out.2 hO2 (fun _ _ e=>e),hat,hk.only⟩
    have HC0:=Lib.hid hC0
    have EX:=Lib.hid eX
    clear hO2 hat hC0 ho2 eX HW1 HF
    go_upto_region 7 with(fail)
    rw [←EX.out]
    refine wp_gen (CqS w B X h (.slice A Q.length cap) (.slice sA S.length scap) Q S (foldK y S Q 0)) HC0.out ?_
    intro Y hY
    have HYY:=Lib.hid hY
    clear hY HC0 hstn EX
    go_wp2_with fail
    go_loopw [34] (fun kv wr=> ∃k:Nat,kv= .int .i64 (k:Int)∧k≤Q.length∧CqS w B X h (.slice A Q.length cap) (.slice sA S.length scap) Q S (foldK y S Q k) wr) (fun kv _=>Q.length - (intOf kv).toNat)
    case atStart=>exact⟨0,rfl,by omega,HYY.out⟩
    case round=>
     obtain⟨k,rfl,hk,hC⟩:=hrel
     have hSQ:(S.length:Int)=(Q.length:Int):=by rw [H3.out]
     have HSQ:=Lib.hid hSQ
     by_cases hlt2:k<Q.length
     ·have d5:decide ((k:Int) < (S.length:Int))=true:=decide_eq_true (by omega)
      have d6:k<S.length:=by have:=H3.out;omega
      obtain⟨sb,hsb⟩:∃b,S[k]? =some b:=⟨_,List.getElem?_eq_getElem d6⟩
      obtain⟨t,ht⟩:∃t,Q[k]? =some t:=⟨_,List.getElem?_eq_getElem hlt2⟩
      have htl:=HOK.out t (List.mem_of_getElem? ht)
      obtain⟨g,o,rfl,hg,hr⟩:=HA.out k t ht
      have hr:w.rangeAt g (o+k * 32) (t.map bv):=hr
      have hnx:=foldK_next (x:=y) hsb ht
      obtain⟨sg,scap2,esv,hs1,hs2,hs3,hs4⟩:=own_form hC.s (by omega)
      simp only [Value.slice.injEq,true_and] at esv
      obtain⟨rfl,rfl⟩:=esv
      have cs:wr.cell? ⟨sg,k,none⟩=some (.bool sb):=StOwn.cell hC.s hsb
      have k0:(0:Int)≤(k:Int):=by omega
      have k1:(k:Int) < (S.length:Int):=by omega
      have k2:(k:Int) < (Q.length:Int):=by omega
      have hal:=hC.keep ((Only.refl NoneOf wr).alloc (.cells #[.bool sb] 155))
      have HC:=Lib.hid hC
      have HNX:=Lib.hid hnx
      have HR:=Lib.hid hr
      have HTL:=Lib.hid htl
      clear hC hnx hr htl hsb ht hg
      cases sb with
      |true=>
       have hk1:(foldK y S Q k).length=32:=foldK_len HY.out S Q k
       obtain⟨z,ez⟩:∃z,z=foldK y S Q k:=⟨_,rfl⟩
       have hnx2:foldK y S Q (k+1)=nodeL t z:=by rw [HNX.out,ez];rfl
       obtain⟨m,em⟩:∃m,m=foldK y S Q (k+1):=⟨_,rfl⟩
       have hml:m.length=32:=by rw [em];exact foldK_len HY.out S Q _
       rw [←em] at hnx2
       rw [←ez] at hk1
       have hnode:∀W,Calls Tryz.prog 84 #[hv t,hv z] W fun e w'=>e= .returned (hv m)∧Only NoneOf W w':=fun W=>by rw [hnx2];exact tnode_any _ _ (by first|exact hk1|exact HTL.out) (by first|exact hk1|exact HTL.out) W
       have hC1:=HC.out.keep ((Only.refl NoneOf wr).alloc (.cells #[.bool true] 155))
       rw [←ez] at hC1
       have HN:=Lib.hid hnode
       have HC1:=Lib.hid hC1
       have HML:=Lib.hid hml
       have HK1:=Lib.hid hk1
       have EM:=Lib.hid em
       clear hnode hC1 hml hk1 em hnx2 ez HNX
       go_upto_region 11 with(fail)
       refine wp_gen (CqS w B X h (.slice (some ⟨g,o,none⟩) Q.length cap) (.slice (some ⟨sg,0,none⟩) S.length scap) Q S z) HC1.out ?_
       intro V hVV
       obtain⟨ft,hfx⟩:=family (CqS w B X h (.slice (some ⟨g,o,none⟩) Q.length cap) (.slice (some ⟨sg,0,none⟩) S.length scap) Q S z) (W0:=V.drew) (hVV.keep (Only.refl NoneOf V).drew)
       obtain⟨F,hI,hF0,hF,hFS⟩:=hfx
       have f1:∀q,(haLoad (.pointer (some ⟨X,0,none⟩))).run Tryz.prog (F q)= .ok (hv z) (F q):=fun q=>ha_load (hFS q).y.range HK1.out
       have f2:∀q,(haLoad (.pointer (some ⟨g,o+k * 32,none⟩))).run Tryz.prog (F q)= .ok (hv t) (F q):=fun q=>ha_load (rng_only HR.out (hFS q).only) HTL.out
       have D1:Hid (∀q,Calls Tryz.prog 84 #[hv t,hv z] (F q) fun e w'=>e= .returned (hv m)∧∃q',w'=F q'):=Lib.hid (fun q=> (HN.out _).mono (fun e w' hh=> ⟨hh.1,(hF w').1 ((hFS q).keep hh.2)⟩))
       have HFF:=Lib.hid hF
       have HF0:=Lib.hid hF0
       clear hF hF0 hFS hVV cs
       refine wp_region_family_tail F 6 (by kernel_rfl) (by kernel_rfl) HF0.out ?_
       simp only [List.take_succ_cons,List.take_zero,List.drop_succ_cons,List.drop_zero]
       repeat(go_big_quiet_step (with_reducible exact D1.out _))
       refine wpQuiet_nil ?_
       intro w9 hw9
       have hS9:=(HFF.out w9).2 hw9
       have hst:=ha_store hS9.y HK1.out HML.out
       have HP:=Lib.hid (hS9.put hlt hwX HV.out HK1.out HML.out)
       clear hw9 hS9 f1 f2
       go_wp2_with fail
       go_roundw
       case rel=>exact⟨k+1,by go_num,by omega,by rw [←EM.out];exact HP.out⟩
       case measure=>simp [intOf];omega
      |false=>
       have hk1:(foldK y S Q k).length=32:=foldK_len HY.out S Q k
       obtain⟨z,ez⟩:∃z,z=foldK y S Q k:=⟨_,rfl⟩
       have hnx2:foldK y S Q (k+1)=nodeL z t:=by rw [HNX.out,ez];rfl
       obtain⟨m,em⟩:∃m,m=foldK y S Q (k+1):=⟨_,rfl⟩
       have hml:m.length=32:=by rw [em];exact foldK_len HY.out S Q _
       rw [←em] at hnx2
       rw [←ez] at hk1
       have hnode:∀W,Calls Tryz.prog 84 #[hv z,hv t] W fun e w'=>e= .returned (hv m)∧Only NoneOf W w':=fun W=>by rw [hnx2];exact tnode_any _ _ (by first|exact hk1|exact HTL.out) (by first|exact hk1|exact HTL.out) W
       have hC1:=HC.out.keep ((Only.refl NoneOf wr).alloc (.cells #[.bool false] 155))
       rw [←ez] at hC1
       have HN:=Lib.hid hnode
       have HC1:=Lib.hid hC1
       have HML:=Lib.hid hml
       have HK1:=Lib.hid hk1
       have EM:=Lib.hid em
       clear hnode hC1 hml hk1 em hnx2 ez HNX
       go_upto_region 12 with(fail)
       refine wp_gen (CqS w B X h (.slice (some ⟨g,o,none⟩) Q.length cap) (.slice (some ⟨sg,0,none⟩) S.length scap) Q S z) HC1.out ?_
       intro V hVV
       obtain⟨ft,hfx⟩:=family (CqS w B X h (.slice (some ⟨g,o,none⟩) Q.length cap) (.slice (some ⟨sg,0,none⟩) S.length scap) Q S z) (W0:=V.drew) (hVV.keep (Only.refl NoneOf V).drew)
       obtain⟨F,hI,hF0,hF,hFS⟩:=hfx
       have f1:∀q,(haLoad (.pointer (some ⟨X,0,none⟩))).run Tryz.prog (F q)= .ok (hv z) (F q):=fun q=>ha_load (hFS q).y.range HK1.out
       have f2:∀q,(haLoad (.pointer (some ⟨g,o+k * 32,none⟩))).run Tryz.prog (F q)= .ok (hv t) (F q):=fun q=>ha_load (rng_only HR.out (hFS q).only) HTL.out
       have D1:Hid (∀q,Calls Tryz.prog 84 #[hv z,hv t] (F q) fun e w'=>e= .returned (hv m)∧∃q',w'=F q'):=Lib.hid (fun q=> (HN.out _).mono (fun e w' hh=> ⟨hh.1,(hF w').1 ((hFS q).keep hh.2)⟩))
       have HFF:=Lib.hid hF
       have HF0:=Lib.hid hF0
       clear hF hF0 hFS hVV cs
       refine wp_region_family_tail F 6 (by kernel_rfl) (by kernel_rfl) HF0.out ?_
       simp only [List.take_succ_cons,List.take_zero,List.drop_succ_cons,List.drop_zero]
       repeat(go_big_quiet_step (with_reducible exact D1.out _))
       refine wpQuiet_nil ?_
       intro w9 hw9
       have hS9:=(HFF.out w9).2 hw9
       have hst:=ha_store hS9.y HK1.out HML.out
       have HP:=Lib.hid (hS9.put hlt hwX HV.out HK1.out HML.out)
       clear hw9 hS9 f1 f2
       go_wp2_with fail
       go_roundw
       case rel=>exact⟨k+1,by go_num,by omega,by rw [←EM.out];exact HP.out⟩
       case measure=>simp [intOf];omega
     ·obtain rfl:k=Q.length:=by omega
      have d5:decide ((Q.length:Int) < (S.length:Int))=false:=decide_eq_false (by omega)
      have d6:¬Q.length<S.length:=by have:=H3.out;omega
      obtain⟨u,eu⟩:∃u,u=foldK y S Q Q.length:=⟨_,rfl⟩
      have hul:u.length=32:=by rw [eu];exact foldK_len HY.out S Q _
      rw [←eu] at hC
      have EU:=Lib.hid eu
      have l1:(haLoad (.pointer (some ⟨X,0,none⟩))).run Tryz.prog wr= .ok (hv u) wr:=ha_load hC.y.range hul
      have l2:(haLoad (.pointer (some ⟨B,1,none⟩))).run Tryz.prog wr= .ok (hv h.root) wr:=ha_load hC.r HL.out
      have g1:∀p q,(eqGuard .eql 35 p q (hv u) (hv h.root)).run Tryz.prog wr= .ok () wr:=fun p q=>run_eqGuard_agg _ _ _ _ _ _ _ (by kernel_rfl)
      have e1:(binOp .eql 35 (hv u) (hv h.root)).run Tryz.prog wr= .ok (.bool (u==h.root)) wr:=eql_hash u h.root hul HL.out wr
      have HO:=Lib.hid hC.only
      clear hC eu hul hlt2 hk hSQ
      go_wp2_with fail
      go_ret
      exact⟨ret_bool (by rw [EU.out]),HO.out⟩
   ·have d3:((S.length:Int)==(Q.length:Int))=false:=by rw [beq_eq_false_iff_ne];omega
    have d4:((S.length:Int) !=(Q.length:Int))=true:=by simp only [bne,d3];rfl
    rw [if_neg h3]
    clear hway hck h3 hok hv' h1 h2 hs hx hA eS hSl hSle
    go_enter Tryz.func62,Tryz.ntmps62
    go_upto_region 1 with(fail)
    rw [←EB.out]
    refine wp_gen (CpS w B h (.slice A Q.length cap) Q) HS0.out ?_
    intro Z hZ
    have c0:Z.cell? ⟨B,0,none⟩=some (.int .i64 (s:Int)):=by rw [←HSZ.out];exact Blk.cell hZ.a 0
    have HZ:=Lib.hid hZ
    clear hZ HS0
    go_wp2_with fail
    refine(HWY.out _).mono ?_
    rintro e1 w1 ⟨sv,rfl,hsv,ho1⟩
    obtain⟨sA,scap,rfl,hsc1,hsc2⟩:=own_form' hsv
    have HO:=Lib.hid (HZ.out.only.trans ho1)
    clear hsv ho1 HZ c0
    go_wp2_with fail
    go_ret
    exact⟨rfl,HO.out⟩
end Go.Proofs.YtgalfohobgjelaaGreatDoor
