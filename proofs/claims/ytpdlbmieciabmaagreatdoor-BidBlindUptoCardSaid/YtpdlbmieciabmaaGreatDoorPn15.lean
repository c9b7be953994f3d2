/-What is proved here:several parts. a text is split into rows of words,and words read as numbers,by the bids' code. Conditions:the texts are short;the library's variables hold what their initialisers lay. · the parts of a split:which numbers are below the order,the powers of a number by an iterator,products and sums in the field. Conditions:the numbers are in range. -/
import Derived.Test.YtpdlbmieciabmaaGreatDoorPn07
import Derived.Test.YtpdlbmieciabmaaGreatDoorPn08
import Derived.Test.YtpdlbmieciabmaaGreatDoorPn11
import Derived.Test.YtpdlbmieciabmaaGreatDoorPn12
import Derived.Test.YtpdlbmieciabmaaGreatDoorPn14
import Derived.WalkSmall
namespace Go.Proofs.YtpdlbmieciabmaaGreatDoor
open Go.RowKit Go.Shelf
attribute [local go_sem ↓ high] aph_eq
def strSz:Value→Nat
 | .string s=>s.size
 |_=>0
theorem run_append_row(W:World)(base:Nat)(v:Value)(rows:List (List ByteArray))(u:Value)(r:List ByteArray)(hu:u.oneCell' =true)(h:RowsOwn W base v rows.length rows)(hr:SlT 9 strC 1 W u r)(hn:rows.length≤1000000000)(hb:base≤W.heap.size)(N:Nat)(hsrc:Blk W N 72 #[u])(ty:TypeId):
  ∃A cap W',(aph #[106,106] ty #[v,.slice (some ⟨N,0,none⟩) 1 1]).run Tryz.prog W= .ok (.slice A (rows.length+1) cap) W'∧RowsOwn W' base (.slice A (rows.length+1) cap) (rows.length+1) (rows++[r])∧Only (TS base W [72]) W W' :=by
 obtain⟨L,h1,h2,h3⟩:=h
 rw[←h1] at h2
 obtain⟨A,cap,W',hrun,k1,k2,_⟩:=run_append_rec (T:=106) Tryz.underlying106 rowsI (by omega) (by omega) valC_len W base v L u (val_one u hu) h2 N hsrc (by omega) hb ty
 rw[h1] at hrun k1
 have ho:Only (fun k=>v.ownBlock=some k) W W' :=(Only.refl _ _).grown k2 (fun b e=> .inl e)
 have hk:∀{x:Value} {q:List ByteArray},SlT 9 strC 1 W x q→SlT 9 strC 1 W' x q:=fun hx=>hx.keep ho (fun g cur hb _ e=>own_blk_ne h2 hb (by decide) e)
 refine⟨A,cap,W',hrun,⟨L++[u],by simp[h1],k1,fun i x q hx hq=> ?_⟩,grown_ts k2 h2⟩
 rcases Nat.lt_or_ge i L.length with hi|hi
 ·rw[List.getElem?_append_left hi] at hx
  rw[List.getElem?_append_left (by omega)] at hq
  exact hk (h3 i x q hx hq)
 ·rw[List.getElem?_append_right hi] at hx
  rw[List.getElem?_append_right (by omega),←h1] at hq
  cases hz:i-L.length with
  |zero=>
   rw[hz] at hx hq
   simp only[List.getElem?_cons_zero,Option.some.injEq] at hx hq
   subst hx
   subst hq
   exact hk hr
  |succ z=>rw[hz] at hx;simp at hx
structure SplS(s:ByteArray)(w:World)(v:Value)(r:ByteArray)(rows:List (List ByteArray))(W:World):Prop where
 inv:SplI s.data.toList rows r.data.toList
 own:RowsOwn W w.heap.size v rows.length rows
 only:Only NoneOf w W
def SplitE(s:ByteArray)(w:World)(e:Ending)(w' :World):Prop:=∃rows ok rv,e= .returned (.tuple #[rv,.bool ok])∧SplitR s.data.toList rows ok∧RowsOwn w' w.heap.size rv rows.length rows∧Only NoneOf w w'
theorem SplitE.mk{s:ByteArray}{w w' :World}{rows:List (List ByteArray)}{ok:Bool}{rv:Value}(h1:SplitR s.data.toList rows ok)(h2:RowsOwn w' w.heap.size rv rows.length rows)(h3:Only NoneOf w w'):SplitE s w (.returned (.tuple #[rv,.bool ok])) w' :=⟨rows,ok,rv,rfl,h1,h2,h3⟩
def NumsE(ws:List ByteArray)(w:World)(e:Ending)(w' :World):Prop:=∃ns ok rv,e= .returned (.tuple #[rv,.bool ok])∧NumsR (rowD ws) ns ok∧OwnOf 3 inC 1 w' w.heap.size rv ns.length ns∧Only NoneOf w w'
theorem NumsE.mk{ws:List ByteArray}{w w' :World}{ns:List Int}{ok:Bool}{rv:Value}(h1:NumsR (rowD ws) ns ok)(h2:OwnOf 3 inC 1 w' w.heap.size rv ns.length ns)(h3:Only NoneOf w w'):NumsE ws w (.returned (.tuple #[rv,.bool ok])) w' :=⟨ns,ok,rv,rfl,h1,h2,h3⟩
theorem rows_small{s:List UInt8}{rows:List (List ByteArray)}{r:List UInt8}(h:SplI s rows r):rows.length≤s.length∧r.length≤s.length:=by
 have h1:=h.2.1
 have h2:∀l:List (List ByteArray),(∀x∈l,x≠[])→l.length≤rowsW l:=by
  intro l
  induction l with
  |nil=>intro _;exact Nat.zero_le _
  |cons x l ih=>
   intro hx
   have e:rowsW (x::l)=rowW x+rowsW l:=by unfold rowsW;simp
   have k1:=ih (fun y hy=>hx y (by simp[hy]))
   have k2:=rowW_len x
   have k3:=List.length_pos_iff.2 (hx x (by simp))
   rw[e,List.length_cons]
   omega
 have h3:=h2 rows h.1
 omega
set_option maxRecDepth 100000 in
set_option maxHeartbeats 1000000 in
theorem bsplit_any(s:ByteArray)(hs:s.size≤900000000)(w:World)(he:Env w):Calls Tryz.prog 39 #[.string s] w (SplitE s w):=by
 have HE:=Lib.hid he
 have hsl:=size_list s
 clear he
 go_enter Tryz.func39,Tryz.ntmps39
 go_wp2_with fail
 go_loopw [0,4] (fun sv v wr=>∃rows r,sv= .string r∧SplS s w v r rows wr) (fun sv _ _=>strSz sv)
 case atStart=>exact⟨[],s,rfl,SplI.new _,RowsOwn.nil _ _,Only.refl _ _⟩
 case round=>
  obtain⟨rows,r,rfl,hS⟩:=hrel
  have hsm:=rows_small hS.inv
  have hrl:=size_list r
  by_cases h0:r=⟨#[]⟩
  ·subst h0
   have HF:=Lib.hid (SplI.done hS.inv)
   have HS:=Lib.hid hS
   clear hS hsm hrl hsl
   go_wp2_with fail
   go_ret2
   exact SplitE.mk HF.out HS.out.own HS.out.only
  ·have b1:=tx_someF h0
   have hne:r.data.toList≠[]:=fun e=>h0 (ba_ext e)
   have HNE:=Lib.hid hne
   have HS:=Lib.hid hS
   clear hS h0 hne
   go_wp2_with fail
   refine(cut_any r (by omega) _ (HE.out.none HS.out.only)).mono ?_
   rintro e w1 ⟨a,b,ok,rfl,hcut,ho1⟩
   have HO1:=Lib.hid (HS.out.only.trans ho1)
   have HC:=Lib.hid hcut
   cases ok
   ·have HF:=Lib.hid (SplI.fail HS.out.inv HNE.out HC.out)
    clear ho1 hcut
    go_wp2_with fail
    go_ret2
    exact SplitE.mk HF.out (RowsOwn.nil _ _) HO1.out
   ·have hcl:=(cut_len HC.out).1
    have hal:=size_list a
    have hbl:=size_list b
    have HOWN:=Lib.hid (HS.out.own.keep ho1 (fun _ _ e=>e) (fun _ _ _ e=>e))
    clear ho1 hcut
    go_wp2_with fail
    refine(split_any a (by omega) _ (HE.out.none HO1.out)).mono ?_
    rintro e w2 ⟨A2,cap2,rfl,hrow,ho2⟩
    have HO2:=Lib.hid (HO1.out.trans ho2)
    have hown2:=HOWN.out.keep ho2 (fun _ _ e=>e) (fun _ _ _ e=>e)
    have hx:Only NoneOf w2 (w2.alloc (.cells #[.slice A2 (rowB a).length cap2] 72)):=(Only.refl _ _).alloc _
    obtain⟨A',cap',W',hr,k1,k2⟩:=run_append_row (w2.alloc (.cells #[.slice A2 (rowB a).length cap2] 72)) w.heap.size _ rows (.slice A2 (rowB a).length cap2) (rowB a) rfl (hown2.keep hx (fun _ _ e=>e) (fun _ _ _ e=>e)) (hrow.none_ hx) (by omega) (Nat.le_trans HO2.out.size hx.size) w2.heap.size (Blk.new w2 _ _) 106
    have HSN:Hid (SplS s w (.slice A' (rows.length+1) cap') b (rows++[rowB a]) W'):=Lib.hid ⟨SplI.step HS.out.inv HNE.out HC.out rfl,by rw[List.length_append,List.length_singleton];exact k1,only_base (HO2.out.trans hx) (ts_base k2) (Nat.le_refl _)⟩
    have hmes:strSz (.string b)<strSz (.string r):=by
     show b.size<r.size
     omega
    have HM:=Lib.hid hmes
    clear k1 k2 hown2 hx hrow ho2 hmes
    go_wp2_with fail
    go_roundw
    case rel=>exact⟨_,b,rfl,HSN.out⟩
    case measure=>exact HM.out
theorem intI:RecI 3 1 8:=recI_of (by kernel_rfl) (by kernel_rfl) (by kernel_rfl)
theorem inC_one(n:Int):∀u∈inC n,u.oneCell' =true:=fun u hu=>by
 obtain rfl:=List.mem_singleton.1 hu
 rfl
theorem run_append_int(W:World)(base:Nat)(v:Value)(ns:List Int)(n:Int)(h:OwnOf 3 inC 1 W base v ns.length ns)(hn:ns.length≤1000000000)(hb:base≤W.heap.size)(N:Nat)(hsrc:Blk W N 3 #[.int .i64 n])(ty:TypeId):
  ∃A cap W',(aph #[38,38] ty #[v,.slice (some ⟨N,0,none⟩) 1 1]).run Tryz.prog W= .ok (.slice A (ns.length+1) cap) W'∧OwnOf 3 inC 1 W' base (.slice A (ns.length+1) cap) (ns.length+1) (ns++[n])∧Only (TS base W [3]) W W' :=by
 obtain⟨A,cap,W',hrun,k1,k2,_⟩:=run_append_rec (T:=38) Tryz.underlying38 intI (by omega) (by omega) inC_len W base v ns n (inC_one n) h N hsrc hn hb ty
 exact⟨A,cap,W',hrun,k1,grown_ts k2 h⟩
theorem rowD_get{r:List ByteArray}{k:Nat}{t:ByteArray}(h:r[k]? =some t):(rowD r)[k]? =some t.data.toList:=by unfold rowD;rw[List.getElem?_map,h];rfl
set_option maxRecDepth 100000 in
set_option maxHeartbeats 1000000 in
theorem bnumbers_any(ws:List ByteArray)(hws:∀t∈ws,t.size≤1000000000)(hl:ws.length≤1000000000)(v:Value)(w:World)(h:SlT 9 strC 1 w v ws)(he:Env w):Calls Tryz.prog 40 #[v] w (NumsE ws w):=by
 have HE:=Lib.hid he
 obtain⟨A,cap,rfl,hc1,hc2,hat⟩:=h
 have HAT:=Lib.hid hat
 have HWS:=Lib.hid hws
 clear he hat hws
 go_enter Tryz.func40,Tryz.ntmps40
 go_wp2_with fail
 go_loopw [4,11] (fun v i wr=>∃(k:Nat) (ns:List Int),i= .int .i64 k∧k≤ws.length∧NumI (rowD ws) k ns∧OwnOf 3 inC 1 wr w.heap.size v ns.length ns∧Only NoneOf w wr) (fun _ i _=>ws.length-(intOf i).toNat)
 case atStart=>exact⟨0,[],rfl,Nat.zero_le _,NumI.new _,OwnOf.nil _ _ _ _ _,Only.refl _ _⟩
 case round=>
  obtain⟨k,ns,rfl,hk,hI,hown,ho⟩:=hrel
  have HI:=Lib.hid hI
  have HOWN:=Lib.hid hown
  have HO:=Lib.hid ho
  have HNL:=Lib.hid hI.1
  clear hI hown ho
  by_cases hlt:k<ws.length
  ·obtain⟨t,ht⟩:∃t,ws[k]? =some t:=⟨_,List.getElem?_eq_getElem hlt⟩
   obtain⟨g,o,cur,rfl,_,hr⟩:=HAT.out k t ht
   have hts:=HWS.out t (List.mem_of_getElem? ht)
   have c0:wr.cell? ⟨g,o+k,none⟩=some (.string t):=HO.out.cell_some (by simpa using hr 0 _ rfl) (fun e=>e)
   have ik:(k:Int)<ws.length:=by omega
   have HT:=Lib.hid (rowD_get ht)
   clear ht hr
   go_wp2_with fail
   refine(atoi_any t (by omega) _ (HE.out.none HO.out)).mono ?_
   rintro e w1 ⟨n,ev,rfl,hcase,ho1⟩
   have HO1:=Lib.hid (HO.out.trans ho1)
   rcases hcase with⟨rfl,hn,hu⟩|⟨⟨N,rfl⟩,hu⟩
   ·have hown1:=OwnOf.keep HOWN.out ho1 (fun _ _ e=>e)
    have hx:Only NoneOf w1 (w1.alloc (.cells #[.int .i64 n] 3)):=(Only.refl _ _).alloc _
    obtain⟨A',cap',W',hrn,k1,k2⟩:=run_append_int (w1.alloc (.cells #[.int .i64 n] 3)) w.heap.size _ ns n (OwnOf.keep hown1 hx (fun _ _ e=>e)) (by have:=HNL.out;omega) (Nat.le_trans HO1.out.size hx.size) w1.heap.size (Blk.new w1 _ _) 38
    have HN:=Lib.hid (HI.out.step HT.out hn hu)
    have HK:Hid (OwnOf 3 inC 1 W' w.heap.size (.slice A' (ns.length+1) cap') (ns++[n]).length (ns++[n])):=Lib.hid (by rw[List.length_append,List.length_singleton];exact k1)
    have HO2:=Lib.hid (only_base (HO1.out.trans hx) (ts_base k2) (Nat.le_refl _))
    clear k1 k2 hown1 hx hn hu ho1
    go_wp2_with fail
    go_roundw
    case rel=>exact⟨k+1,ns++[n],by go_num,by omega,HN.out,HK.out,HO2.out⟩
    case measure=>simp[intOf];omega
   ·have HF:=Lib.hid (NumI.fail HT.out hu)
    clear ho1 hu
    go_wp2_with fail
    go_ret2
    exact NumsE.mk HF.out (OwnOf.nil _ _ _ _ _) HO1.out
  ·obtain rfl:k=ws.length:=by omega
   have ik:¬(ws.length:Int)<ws.length:=by omega
   have hD:=HI.out
   have e1:ws.length=(rowD ws).length :=by unfold rowD;rw[List.length_map]
   rw[e1] at hD
   have HD:=Lib.hid hD.done
   clear hD e1
   go_wp2_with fail
   go_ret2
   exact NumsE.mk HD.out HOWN.out HO.out
end Go.Proofs.YtpdlbmieciabmaaGreatDoor
namespace Go.Proofs.YtpdlbmieciabmaaGreatDoor
open Go.RowKit Go.Shelf
attribute [local go_sem] Oper.semAt_some
attribute [local go_sem ↓ high] aph_eq
theorem mulQ(a b:Nat)(ha:a≤9223372036854775807)(hb:b≤9223372036854775807)(w:World):Calls Tryz.prog 100 #[.int .i64 (a:Int),.int .i64 (b:Int),.int .i64 1152921504606845789] w fun e w' =>e= .returned (.int .i64 ((a*b%lagN:Nat):Int))∧∃k,w' =w.drewN k:=by
 have h:=fMul_any (a:Int) (b:Int) 1152921504606845789 (by omega) (by omega) (by omega) (by omega) (by omega) (by omega) w
 rwa [show(a:Int)*(b:Int)%1152921504606845789=((a*b%lagN:Nat):Int) by rw[Int.natCast_emod,Int.natCast_mul];rfl] at h
theorem addQ(a b:Nat)(ha:a≤9223372036854775807)(hb:b≤9223372036854775807)(w:World):Calls Tryz.prog 99 #[.int .i64 (a:Int),.int .i64 (b:Int),.int .i64 1152921504606845789] w fun e w' =>e= .returned (.int .i64 (((a+b)%lagN:Nat):Int))∧w' =w:=by
 have h:=fAdd_any (a:Int) (b:Int) 1152921504606845789 (by omega) (by omega) (by omega) (by omega) (by omega) (by omega) w
 rwa [show((a:Int)+(b:Int))%1152921504606845789=(((a+b)%lagN:Nat):Int) by rw[Int.natCast_emod,Int.natCast_add];rfl] at h
theorem powI_g(c:Nat):powI 4 c 2305843009213691579=gp c:=by
 have e:res 4 2305843009213691579=4:=rfl
 have e2:Int.toNat 2305843009213691579=P0:=rfl
 unfold powI gp pw
 rw[e,e2]
theorem powG(c:Nat)(hc:c≤9223372036854775807)(w:World):Calls Tryz.prog 97 #[.int .i64 4,.int .i64 (c:Int),.int .i64 2305843009213691579] w fun e w' =>e= .returned (.int .i64 ((gp c:Nat):Int))∧Only NoneOf w w' :=by
 have h:=fpow_any 4 c 2305843009213691579 (by omega) (by omega) hc (by omega) (by omega) w
 rwa [powI_g] at h
theorem below_any(n:Nat)(h:n<lagN)(w:World):Calls Tryz.prog 96 #[.int .i64 (n:Int)] w fun e w' =>e= .returned (.bool true)∧w' =w:=by
 have n0:(0:Int)≤(n:Int):=by omega
 have n1:(n:Int)<1152921504606845789:=by have h2:n<1152921504606845789:=h;omega
 clear h
 go_enter Tryz.func96,Tryz.ntmps96
 go_wp2_with fail
 go_ret
 exact⟨rfl,rfl⟩
def CfAt(w:World)(v:Value)(cs:List Nat):Prop:=∃A cap,v= .slice A cs.length cap∧∀(i c:Nat),cs[i]? =some c→∃g o,A=some ⟨g,o,none⟩∧g<w.heap.size∧w.cell? ⟨g,o+i,none⟩=some (.int .i64 (c:Int))
theorem CfAt.only{w w' :World}{v:Value}{cs:List Nat}(h:CfAt w v cs)(ho:Only NoneOf w w'):CfAt w' v cs:=by
 obtain⟨A,cap,e,h2⟩:=h
 refine⟨A,cap,e,fun i c hc=> ?_⟩
 obtain⟨g,o,e2,hg,h3⟩:=h2 i c hc
 exact⟨g,o,e2,Nat.lt_of_lt_of_le hg ho.size,ho.cell_some h3 (fun e=>e)⟩
set_option maxRecDepth 100000 in
theorem selected_any(cs:List Nat)(hc:∀c∈cs,c<lagN)(hl:cs.length≤1000)(v:Value)(w:World)(h:CfAt w v cs):Calls Tryz.prog 95 #[v,.func (.func 96) #[] #[]] w fun e w' =>∃y,e= .returned (.tuple #[y,.slice none 0 0])∧Only NoneOf w w' :=by
 obtain⟨A,cap,rfl,hat⟩:=h
 have HAT:=Lib.hid hat
 have HC:=Lib.hid hc
 clear hat hc
 go_enter Tryz.func95,Tryz.ntmps95
 go_wp2_with fail
 go_loopw [4,5,10] (fun y z i wr=>∃j:Nat,z= .slice none 0 0∧i= .int .i64 j∧j≤cs.length∧OwnOf 3 inC 1 wr w.heap.size y j ((cs.take j).map fun c:Nat=>(c:Int))∧Only NoneOf w wr) (fun _ _ i _=>cs.length-(intOf i).toNat)
 case atStart=>exact⟨0,rfl,rfl,Nat.zero_le _,OwnOf.nil _ _ _ _ _,Only.refl _ _⟩
 case round=>
  obtain⟨j,rfl,rfl,hj,hown,ho⟩:=hrel
  by_cases hlt:j<cs.length
  ·obtain⟨x,hx⟩:∃x,cs[j]? =some x:=⟨_,List.getElem?_eq_getElem hlt⟩
   obtain⟨g,o,rfl,hg,hr⟩:=HAT.out j x hx
   have c0:wr.cell? ⟨g,o+j,none⟩=some (.int .i64 (x:Int)):=ho.cell_some hr (fun e=>e)
   have hb:=fun W=>below_any x (HC.out x (List.mem_of_getElem? hx)) W
   have hen:(cs.take (j+1)).map (fun c:Nat=>(c:Int))=(cs.take j).map (fun c:Nat=>(c:Int))++[(x:Int)]:=by rw[List.take_add_one,hx,Option.toList_some,List.map_append];rfl
   have hlj:((cs.take j).map fun c:Nat=>(c:Int)).length =j:=by rw[List.length_map,List.length_take];omega
   have how2:OwnOf 3 inC 1 wr w.heap.size u4 ((cs.take j).map fun c:Nat=>(c:Int)).length ((cs.take j).map fun c:Nat=>(c:Int)):=by rw[hlj];exact hown
   obtain⟨A2,cap2,W2,hrun,hown2,ho2⟩:=run_append_int (wr.alloc (.cells #[.int .i64 (x:Int)] 3)) w.heap.size u4 _ (x:Int) (OwnOf.keep how2 ((Only.refl NoneOf _).alloc _) (fun _ _ e=>e)) (by rw[hlj];omega) (by have:=ho.size;simp;omega) wr.heap.size (Blk.new wr _ _) 38
   rw[hlj] at hrun hown2
   have hO2:Only NoneOf w W2:=only_base (ho.alloc _) (ts_base ho2) (Nat.le_refl _)
   have HEN:=Lib.hid hen
   have HB:=Lib.hid hb
   have HOWN2:=Lib.hid hown2
   have HO2:=Lib.hid hO2
   have ij:(j:Int)<(cs.length:Int):=by omega
   have j0:(0:Int)≤(j:Int):=by omega
   have wj:IntKind.i64.wrap ((j:Int)+1)=(j:Int)+1:=IntWalk.i64_in _ (by omega)
   clear hx hb hen hown how2 hown2 ho2 hO2 ho hr
   go_wp2_with fail
   refine(HB.out _).mono ?_
   rintro e w1 ⟨rfl,rfl⟩
   go_wp2_with fail
   go_roundw
   case rel=>exact⟨j+1,rfl,rfl,by omega,by rw[HEN.out];exact HOWN2.out,HO2.out⟩
   case measure=>simp[intOf];omega
  ·obtain rfl:j=cs.length:=by omega
   have ij:¬(cs.length:Int)<(cs.length:Int):=by omega
   have HO:=Lib.hid ho
   clear ho hown
   go_wp2_with fail
   go_ret2
   exact⟨⟨_,rfl⟩,HO.out⟩
theorem powers_any(x:Int)(w:World):Calls Tryz.prog 98 #[.int .i64 x] w fun e w' =>e= .returned (.func (.func 123) #[] #[.pointer (some ⟨w.heap.size,0,none⟩)])∧w' =w.alloc (.cells #[.int .i64 x] 3):=by
 go_enter Tryz.func98,Tryz.ntmps98
 go_wp2_with fail
 go_ret
 exact⟨rfl,rfl⟩
theorem keptA_lt{A:Nat}{W W' :World}(h:KeptA A W W')(hA:A<W.heap.size):A<W'.heap.size:=by
 rcases Nat.lt_or_ge A W'.heap.size with h1|h1
 ·exact h1
 ·have h2:W'.heap[A]? =W.heap[A]? :=h
  rw[Array.getElem?_eq_none h1,Array.getElem?_eq_getElem hA] at h2
  cases h2
theorem powS_lt(x k:Nat):x^k%lagN≤9223372036854775807:=by
 have h:x^k%lagN<lagN:=Nat.mod_lt _ (by decide)
 have h2:lagN=1152921504606845789:=rfl
 omega
set_option maxRecDepth 100000 in
set_option maxHeartbeats 1000000 in
theorem powers_ends(n A N x:Nat)(hN:N≤4611686018427387904)(hx:x≤9223372036854775807)(w:World)(hA:w.cell? ⟨A,0,none⟩=some (.int .i64 (x:Int))):
  SeqEnds Fence.wide n Tryz.prog 123 #[.pointer (some ⟨A,0,none⟩)] (fun k=> #[.int .i64 k,.int .i64 ((x^k%lagN:Nat):Int)]) (KeptA A) N w:=by
 intro l J Jx W hW hJ hJx hlt hY hj
 have hAw:=World.block_lt_of_cell? w _ hA
 have cA:=(hW.cell (p:=⟨A,0,none⟩) hAw).trans hA
 refine callsIn_of_wp Tryz.func123 rfl trivial ?_ rfl
 simp only[Tryz.ntmps123,List.size_toArray,List.length_cons,List.length_nil,Nat.reduceAdd,Nat.reduceSub,Array.replicate_succ,Array.replicate_zero,List.push_toArray,List.append_toArray,List.nil_append,List.cons_append]
 have HJ:=Lib.hid hJ
 have HLT:=Lib.hid hlt
 have HY:=Lib.hid hY
 have HJ0:=Lib.hid hj
 clear hJ hJx hlt hY hj hA
 gi_wp2
 gi_loopw [3,4] (fun v p wr=>∃k:Nat,v= .int .i64 k∧p= .int .i64 ((x^k%lagN:Nat):Int)∧J k wr∧KeptA A W wr∧A<wr.heap.size) (fun v _ _=>N-(intOf v).toNat)
 case atStart=>exact⟨0,rfl,rfl,HJ0.out,rfl,Nat.lt_of_lt_of_le hAw hW.size⟩
 case round=>
  obtain⟨k,rfl,rfl,hjk,hkp,hAr⟩:=hrel
  have hkN:=HLT.out k wr hjk
  obtain⟨fn,tmps,assign,body,hy,hR⟩:=HY.out k wr hjk
  obtain⟨p,ep⟩:∃p,p=x^k%lagN:=⟨_,rfl⟩
  rw[←ep] at hy⊢
  have hp:p≤9223372036854775807:=by rw[ep];exact powS_lt x k
  have EP:=Lib.hid ep
  have HR:=Lib.hid hR
  have HKP:=Lib.hid hkp
  clear hjk hR hkp ep
  gi_wp2
  refine⟨(fun h=>by cases h),HR.out.mono ?_⟩
  rintro e w4 (⟨rfl,hJ4,hk4⟩|⟨rfl,hJx4⟩)
  ·have hk5:=keptA_t HKP.out hk4
   have hA4:=keptA_lt hk4 hAr
   have c4:w4.cell? ⟨A,0,none⟩=some (.int .i64 (x:Int)):=(hk5.cell 0).trans cA
   have HK5:=Lib.hid hk5
   have HJ4:=Lib.hid hJ4
   have HA4:=Lib.hid hA4
   have k0:(0:Int)≤(k:Int):=by omega
   have k1:(k:Int)≤4611686018427387904:=by omega
   clear hk5 hJ4 hA4 hk4
   gi_wp2
   refine⟨trivial,(fun h=>by cases h),(callsIn_wide.2 (mulQ p x hp hx w4)).mono ?_⟩
   rintro e w5 ⟨rfl,q,rfl⟩
   have e1:p*x%lagN=x^(k+1)%lagN:=step_power EP.out
   rw[e1]
   have hJ5:J (k+1) (w4.drewN q):=HJ.out _ _ _ none HJ4.out (grown_of_only ((Only.refl NoneOf w4).drewN q)) (fun r e=>by cases e)
   have HJ5:=Lib.hid hJ5
   clear e1 hJ5
   gi_wp2
   go_roundw
   case rel=>exact⟨k+1,by go_num,rfl,HJ5.out,HK5.out,HA4.out⟩
   case measure=>simp[intOf];omega
  ·gi_wp2
   go_end0
   exact⟨⟨_,rfl⟩,_,hJx4⟩
end Go.Proofs.YtpdlbmieciabmaaGreatDoor
