/-What is proved here:the contents of a bid made from numbers,by the reference's code. Conditions:the numbers are ints. -/
import Derived.Test.YtpdlbmieciabmaaGreatDoorPk18
import Derived.Test.YtpdlbmieciabmaaGreatDoorPk23
import Derived.Deep.RegionLaw
namespace Go.Proofs.YtpdlbmieciabmaaGreatDoor
open Go.RowKit Go.Shelf
attribute [local go_sem ↓ high] aph_eq
abbrev tOf:TypeId:=27
abbrev tEnt:TypeId:=37
abbrev tRbt:TypeId:=86
def prC(p:Int×Int):List Value:=[.int .i64 p.1,.int .i64 p.2]
def LnSl(w:World)(v:Value)(ls:List Li):Prop:=∃A cap,v= .slice A ls.length cap∧ls.length≤cap∧cap≤9223372036854775807∧∀(i:Nat) (l:Li),ls[i]? =some l→∃g o u,A=some ⟨g,o,none⟩∧g<w.heap.size∧w.cell? ⟨g,o+i*3,none⟩=some (.int .i64 l.lot)∧w.cell? ⟨g,o+i*3+1,none⟩=some (.int .i64 l.price)∧w.cell? ⟨g,o+i*3+2,none⟩=some u∧SlOf prC 2 w u l.values
def RsSl(w:World)(v:Value)(rs:List (List Int)):Prop:=∃A cap,v= .slice A rs.length cap∧rs.length≤cap∧cap≤9223372036854775807∧∀(i:Nat) (r:List Int),rs[i]? =some r→∃g o u,A=some ⟨g,o,none⟩∧g<w.heap.size∧w.cell? ⟨g,o+i,none⟩=some u∧SlOf inC 1 w u r
def OfAt(w:World)(ov:Value)(o:Of):Prop:=∃ev rv,ov= .agg #[ev,rv]∧LnSl w ev o.entries∧RsSl w rv o.rebates
theorem LnSl.only{w w' :World}{v:Value}{ls:List Li}(h:LnSl w v ls)(ho:Only NoneOf w w'):LnSl w' v ls:=by
 obtain⟨A,cap,h1,h2,h3,h4⟩:=h
 refine⟨A,cap,h1,h2,h3,fun i l hl=> ?_⟩
 obtain⟨g,o,u,e1,e2,e3,e4,e5,e6⟩:=h4 i l hl
 exact⟨g,o,u,e1,Nat.lt_of_lt_of_le e2 ho.size,ho.cell_some e3 (fun e=>e),ho.cell_some e4 (fun e=>e),ho.cell_some e5 (fun e=>e),e6.only ho⟩
theorem RsSl.only{w w' :World}{v:Value}{rs:List (List Int)}(h:RsSl w v rs)(ho:Only NoneOf w w'):RsSl w' v rs:=by
 obtain⟨A,cap,h1,h2,h3,h4⟩:=h
 refine⟨A,cap,h1,h2,h3,fun i l hl=> ?_⟩
 obtain⟨g,o,u,e1,e2,e5,e6⟩:=h4 i l hl
 exact⟨g,o,u,e1,Nat.lt_of_lt_of_le e2 ho.size,ho.cell_some e5 (fun e=>e),e6.only ho⟩
theorem OfAt.only{w w' :World}{ov:Value}{o:Of}(h:OfAt w ov o)(ho:Only NoneOf w w'):OfAt w' ov o:=by
 obtain⟨ev,rv,h1,h2,h3⟩:=h
 exact⟨ev,rv,h1,h2.only ho,h3.only ho⟩
theorem pr_at{w:World}{u:Value}{ps:List (Int×Int)}(h:SlOf prC 2 w u ps):∃A cap,u= .slice A ps.length cap∧∀(j:Nat) (p:Int×Int),ps[j]? =some p→∃g o,A=some ⟨g,o,none⟩∧g<w.heap.size∧w.cell? ⟨g,o+j*2,none⟩=some (.int .i64 p.1)∧w.cell? ⟨g,o+j*2+1,none⟩=some (.int .i64 p.2):=by
 obtain⟨A,cap,h1,_,_,h4⟩:=h
 refine⟨A,cap,h1,fun j p hp=> ?_⟩
 obtain⟨g,o,hA,hg,hr⟩:=h4 j p hp
 exact⟨g,o,hA,hg,hr 0 _ rfl,hr 1 _ rfl⟩
theorem take_at{α:Type}{l:List α}{m k:Nat}{x:α}(h:(l.take m)[k]? =some x):l[k]? =some x∧k<m:=by
 rw[List.getElem?_take] at h
 split at h
 ·rename_i hk
  exact⟨h,hk⟩
 ·cases h
structure MkS(w:World)(O:Nat)(ev rv:Value)(v:Value)(es:List En)(W:World):Prop where
 box:Blk W O tOf #[ev,rv]
 own:EnOwn W w.heap.size v es.length es
 only:Only NoneOf w W
def MkE(w:World)(wild:Bool)(o:Of)(e:Ending)(w' :World):Prop:=∃ev rv,e= .returned (.tuple #[ev,rv])∧EnOwn w' w.heap.size ev (mkEs wild o).length (mkEs wild o)∧RbOwn w' w.heap.size rv (mkRs o).length (mkRs o)∧Only NoneOf w w'
abbrev Hi(R:Nat):Nat→Prop:=fun i=>R≤i
theorem EnOwnL.low{w w' :World}{base n:Nat}{v:Value}{es:List En}{L:List Ec}(h:EnOwnL w base v n es L)(ho:Only (Hi w.heap.size) w w'):EnOwnL w' base v n es L:=
 ⟨h.len,OwnOf.keep h.own ho (fun b hb e=>by
  have:=(own_ge h.own hb).2
  have e' :w.heap.size≤b:=e
  omega),fun i c e hc he=>⟨(h.ent i c e hc he).1,(h.ent i c e hc he).2.1,OwnOf.keep (h.ent i c e hc he).2.2 ho (fun b hb e=>by
  have:=(own_ge (h.ent i c _ hc he).2.2 hb).2
  have e' :w.heap.size≤b:=e
  omega)⟩,h.dist⟩
theorem Blk.hi{w w' :World}{g R:Nat}{t:TypeId}{cs:Array Value}(h:Blk w g t cs)(ho:Only (Hi R) w w')(hg:g<R):Blk w' g t cs:=h.only ho (fun e=>by have e' :R≤g:=e;omega)
theorem hi_none{w X W:World}{R:Nat}(h:Only NoneOf w X)(ho:Only (Hi R) X W)(hR:w.heap.size≤R):Only NoneOf w W:=h.trans' ho (fun i hi e=>by have e' :R≤i:=e;omega)
structure MvS(w6:World)(R:Nat)(lot price:Int)(lv:Value)(vs:List Vl)(W:World):Prop where
 ent:Blk W R tEnt #[.int .i64 0,.int .i64 lot,.int .i64 0,.int .i64 price,lv]
 vals:OwnOf 84 vlC 2 W (R+1) lv vs.length vs
 low:Only (Hi R) w6 W
theorem MvS.none_{w6 W W' :World}{R:Nat}{lot price:Int}{lv:Value}{vs:List Vl}(h:MvS w6 R lot price lv vs W)(ho:Only NoneOf W W'):MvS w6 R lot price lv vs W' :=⟨h.ent.only ho (fun e=>e),OwnOf.keep h.vals ho (fun _ _ e=>e),h.low.trans' ho (fun _ _ e=>e.elim)⟩
theorem vals_step{w6 W:World}{R:Nat}{lot price:Int}{lv:Value}{vs:List Vl}(h:MvS w6 R lot price lv vs W)(x:Vl)(hn:vs.length≤1000000000)(ty:TypeId):
  ∃A cap W2,(aph #[35,35] ty #[lv,.slice (some ⟨W.heap.size,0,none⟩) 1 1]).run Tryz.prog (W.alloc (.cells #[.string x.name,.int .i64 x.n] 84))= .ok (.slice A (vs.length+1) cap) W2∧W2.cell? ⟨R,4,none⟩=some lv∧W2.frozen? ⟨R,4,none⟩=false∧MvS w6 R lot price (.slice A (vs.length+1) cap) (vs++[x]) (W2.setCell ⟨R,4,none⟩ (.slice A (vs.length+1) cap)):=by
 have hx:Only NoneOf W (W.alloc (.cells #[.string x.name,.int .i64 x.n] 84)):=(Only.refl _ _).alloc _
 have hRW:=Blk.lt h.ent
 have h2:=h.none_ hx
 obtain⟨A,cap,W2,hrun,k1,k2,_⟩:=run_append_rec (T:=35) Tryz.underlying35 valueI (by omega) (by omega) vlC_len (W.alloc (.cells #[.string x.name,.int .i64 x.n] 84)) (R+1) lv vs x (vlC_one x) h2.vals W.heap.size (Blk.new W _ _) hn (Nat.le_trans hRW hx.size) ty
 have ho:=grown_ts k2 h2.vals
 have hb2:Blk W2 R tEnt #[.int .i64 0,.int .i64 lot,.int .i64 0,.int .i64 price,lv]:=h2.ent.only ho (fun e=>by have:=e.1;omega)
 have hset:Only (fun i=>i=R) W2 (W2.setCell ⟨R,4,none⟩ (.slice A (vs.length+1) cap)):=(Only.refl (fun i=>i=R) W2).setCell (p:=⟨R,4,none⟩) (.inl rfl) _
 refine⟨A,cap,W2,hrun,hb2.cell 4,hb2.frozen 4,Blk.set_ hb2 4 _,?_,(h2.low.trans' ho (fun i _ e=>by have:=e.1;show R≤i;omega)).trans' hset (fun i _ e=>by have e' :i=R:=e;show R≤i;omega)⟩
 rw[List.length_append,List.length_singleton]
 exact OwnOf.keep k1 hset (fun b hb e=>by
  have:=(own_ge k1 hb).1
  have e' :b=R:=e
  omega)
theorem ent_step{w w6 W:World}{O R:Nat}{ev rv V lv:Value}{es:List En}{lot price:Int}{vs:List Vl}(hS:MkS w O ev rv V es w6)(hR:R=w6.heap.size)(h:MvS w6 R lot price lv vs W)(hn:es.length≤1000000000)(ty:TypeId):
  ∃A cap W2,(aph #[31,31] ty #[V,.slice (some ⟨W.heap.size,0,none⟩) 1 1]).run Tryz.prog (W.alloc (.cells #[.int .i64 0,.int .i64 lot,.int .i64 0,.int .i64 price,lv] tEnt))= .ok (.slice A (es.length+1) cap) W2∧MkS w O ev rv (.slice A (es.length+1) cap) (es++[⟨lot,price,vs⟩]) W2:=by
 obtain⟨L,hL⟩:=hS.own
 have hlow:Only (Hi w6.heap.size) w6 W:=by rw[←hR];exact h.low
 have hwR:w.heap.size≤R:=by rw[hR];exact hS.only.size
 have hOR:O<R:=by rw[hR];exact Blk.lt hS.box
 have hx:Only NoneOf W (W.alloc (.cells #[.int .i64 0,.int .i64 lot,.int .i64 0,.int .i64 price,lv] tEnt)):=(Only.refl _ _).alloc _
 have h2:=h.none_ hx
 have hL2:=(hL.low hlow).keep hx (fun _ _ e=>e.elim)
 have hbox:=(hS.box.hi h.low hOR).only hx (fun e=>e)
 have hon:=(hi_none hS.only h.low hwR).trans hx
 obtain⟨A,cap,W2,hrun,k1,k2⟩:=run_append_lotL _ w.heap.size V es L ⟨lot,price,lv⟩ ⟨lot,price,vs⟩ hL2 ⟨rfl,rfl,own_base h2.vals (by omega)⟩ (fun i d hd b hb e=>by
  have hi:i<L.length:=(List.getElem?_eq_some_iff.1 hd).1
  have hi2:i<es.length:=by rw[←hL.len];exact hi
  have a1:=(own_ge h.vals hb).1
  have a2:=(own_ge (hL.ent i d _ hd (List.getElem?_eq_getElem hi2)).2.2 e).2
  omega) W.heap.size (Blk.new W _ _) hn hon.size ty
 refine⟨A,cap,W2,hrun,hbox.only k2 (fun e=>absurd (e.2 _ _ hbox) (by decide)),by rw[List.length_append,List.length_singleton];exact k1,hon.trans' k2 (fun i hi e=>by have:=e.1;omega)⟩
structure MrS(w:World)(O:Nat)(ev rv Ev:Value)(es:List En)(v:Value)(rs:List Rb)(W:World):Prop where
 box:Blk W O tOf #[ev,rv]
 ent:EnOwn W w.heap.size Ev es.length es
 own:RbOwn W w.heap.size v rs.length rs
 only:Only NoneOf w W
theorem MrS.none_{w W W' :World}{O:Nat}{ev rv Ev v:Value}{es:List En}{rs:List Rb}(h:MrS w O ev rv Ev es v rs W)(ho:Only NoneOf W W'):MrS w O ev rv Ev es v rs W' :=⟨h.box.only ho (fun e=>e),h.ent.keep ho (fun _ _ e=>e.elim),h.own.none_ ho,h.only.trans ho⟩
theorem reb_step{w W:World}{O:Nat}{ev rv Ev v:Value}{es:List En}{rs:List Rb}(h:MrS w O ev rv Ev es v rs W)(c:Rc)(r:Rb)(hc:c.pc=r.pc∧SlT 3 inC 1 W c.v r.lots)(hn:rs.length≤1000000000)(ty:TypeId):
  ∃A cap W2,(aph #[32,32] ty #[v,.slice (some ⟨W.heap.size,0,none⟩) 1 1]).run Tryz.prog (W.alloc (.cells #[c.v,.int .i64 c.pc] tRbt))= .ok (.slice A (rs.length+1) cap) W2∧MrS w O ev rv Ev es (.slice A (rs.length+1) cap) (rs++[r]) W2:=by
 have hx:Only NoneOf W (W.alloc (.cells #[c.v,.int .i64 c.pc] tRbt)):=(Only.refl _ _).alloc _
 have h2:=h.none_ hx
 obtain⟨A,cap,W2,hrun,k1,k2⟩:=run_append_reb _ w.heap.size v rs c r h2.own ⟨hc.1,hc.2.none_ hx⟩ W.heap.size (Blk.new W _ _) hn h2.only.size ty
 refine⟨A,cap,W2,hrun,h2.box.only k2 (fun e=>absurd (e.2 _ _ h2.box) (by decide)),h2.ent.ts k2 (by decide) (by decide),by rw[List.length_append,List.length_singleton];exact k1,h2.only.trans' k2 (fun i hi e=>by have:=e.1;omega)⟩
theorem own_zero{α:Type}{t:TypeId}{c:α→List Value}{k:Nat}{W:World}{G base:Nat}(hb:Blk W G t #[])(h:base≤G):OwnOf t c k W base (.slice (some ⟨G,0,none⟩) 0 0) 0 []:=⟨by simp,.inr ⟨G,0,#[],rfl,h,hb,Nat.le_refl _,by rw[maxLen_val];omega,by simp,by simp⟩⟩
theorem reb_cons{X Y:World}{N:Nat}{x:Int}{u:Value}{ns:List Int}(hN:N=X.heap.size)(hY:Only NoneOf X Y)(hNb:Blk Y N tRbt #[.slice none 0 0,.int .i64 x])(hu:SlOf inC 1 Y u ns)(hn:ns.length≤1000000000)(ty:TypeId):
  ∃A cap W4,(aph #[38,38] ty #[.slice (some ⟨Y.heap.size,0,none⟩) 0 0,u]).run Tryz.prog (Y.alloc (.cells #[] 3))= .ok (.slice A ns.length cap) W4∧W4.cell? ⟨N,0,none⟩=some (.slice none 0 0)∧W4.frozen? ⟨N,0,none⟩=false∧Only NoneOf X (W4.setCell ⟨N,0,none⟩ (.slice A ns.length cap))∧Blk (W4.setCell ⟨N,0,none⟩ (.slice A ns.length cap)) N tRbt #[.slice A ns.length cap,.int .i64 x]∧SlT 3 inC 1 (W4.setCell ⟨N,0,none⟩ (.slice A ns.length cap)) (.slice A ns.length cap) ns:=by
 have hx:Only NoneOf Y (Y.alloc (.cells #[] 3)):=(Only.refl _ _).alloc _
 have hNY:=Blk.lt hNb
 have hz:OwnOf 3 inC 1 (Y.alloc (.cells #[] 3)) Y.heap.size (.slice (some ⟨Y.heap.size,0,none⟩) 0 0) ([]:List Int).length []:=own_zero (Blk.new Y _ _) (Nat.le_refl _)
 obtain⟨A,cap,W4,hrun,k1,k2⟩:=run_append_sl (T:=38) Tryz.underlying38 intI (by omega) (by omega) inC_len inC_one (Y.alloc (.cells #[] 3)) Y.heap.size (.slice (some ⟨Y.heap.size,0,none⟩) 0 0) u [] ns hz (hu.only hx) (by simp only[List.length_nil];omega) hx.size ty
 have h0:([]:List Int).length +ns.length=ns.length:=by simp
 rw[h0,List.nil_append] at k1
 rw[h0] at hrun
 have ho:Only (fun k=>(Value.slice (some ⟨Y.heap.size,0,none⟩) 0 0).ownBlock =some k) (Y.alloc (.cells #[] 3)) W4:=(Only.refl _ _).grown k2 (fun b e=> .inl e)
 have hb4:Blk W4 N tRbt #[.slice none 0 0,.int .i64 x]:=(hNb.only hx (fun e=>e)).only ho (fun e=>by have:=(own_ge hz e).1;omega)
 have hset:Only (fun i=>i=N) W4 (W4.setCell ⟨N,0,none⟩ (.slice A ns.length cap)):=(Only.refl (fun i=>i=N) W4).setCell (p:=⟨N,0,none⟩) (.inl rfl) _
 have hXs:=hY.size
 have k3:=OwnOf.keep k1 hset (fun b hb e=>by
  have:=(own_ge k1 hb).1
  have e' :b=N:=e
  omega)
 exact⟨A,cap,W4,hrun,hb4.cell 0,hb4.frozen 0,((hY.trans hx).trans' ho (fun i hi e=>by have:=(own_ge hz e).1;omega)).trans' hset (fun i hi e=>by have e' :i=N:=e;omega),Blk.set_ hb4 0 _,OwnOf.slT inC_len k3⟩
set_option maxRecDepth 100000 in
set_option maxHeartbeats 4000000 in
theorem make16_any(o:Of)(hok:o.Ok)(wild:Bool)(ov:Value)(w:World)(h:OfAt w ov o):Calls Tryz.prog 10 #[ov,.bool wild] w (MkE w wild o):=by
 obtain⟨ev,rv,rfl,hln,hrs⟩:=h
 obtain⟨A,cap,rfl,hc1,hc2,hat⟩:=hln
 obtain⟨B,bap,rfl,hb1,hb2,hbt⟩:=hrs
 obtain⟨O,eO⟩:∃O,O=w.heap.size:=⟨_,rfl⟩
 have hst:MkS w O (.slice A o.entries.length cap) (.slice B o.rebates.length bap) (.slice none 0 0) [] (w.alloc (.cells #[.slice A o.entries.length cap,.slice B o.rebates.length bap] tOf)):=⟨by rw[eO];exact Blk.new w _ _,EnOwn.nil _ _,(Only.refl _ _).alloc _⟩
 obtain⟨T,eT⟩:∃T,T=o.entries.take 6:=⟨_,rfl⟩
 have hTl:T.length=min 6 o.entries.length:=by rw[eT,List.length_take]
 have HAT:=Lib.hid hat
 have HBT:=Lib.hid hbt
 have HST:=Lib.hid hst
 have EO:=Lib.hid eO
 have ET:=Lib.hid eT
 have HTL:=Lib.hid hTl
 have HOK:=Lib.hid hok
 have hwO:w.heap.size≤O:=by omega
 clear hat hbt hst eO eT hTl hok
 go_enter Tryz.func10,Tryz.ntmps10
 go_wp2_with fail
 rw[←EO.out]
 go_loopw [6,7] (fun v i wr=>∃k:Nat,i= .int .i64 k∧k≤T.length∧MkS w O (.slice A o.entries.length cap) (.slice B o.rebates.length bap) v ((T.take k).map (mkE wild)) wr) (fun _ i _=>T.length-(intOf i).toNat)
 case atStart=>exact⟨0,rfl,Nat.zero_le _,HST.out⟩
 case round=>
  obtain⟨k,rfl,hk,hS⟩:=hrel
  obtain⟨w6,rfl⟩:∃x,x=wr:=⟨_,rfl⟩
  have hel:((T.take k).map (mkE wild)).length =k:=by rw[List.length_map,List.length_take];omega
  have b0:w6.cell? ⟨O,0,none⟩=some (.slice A o.entries.length cap):=hS.box.cell 0
  have hown:=hS.own
  rw[hel] at hown
  obtain⟨V,vap,rfl,hd1,hd2⟩:=hown.form
  have HOWN:=Lib.hid hown
  have HS:=Lib.hid hS
  clear hS hown
  by_cases hlt:k<T.length
  ·obtain⟨l,hl⟩:∃l,T[k]? =some l:=⟨_,List.getElem?_eq_getElem hlt⟩
   obtain⟨hl2,hk6⟩:=take_at (by rw[←ET.out];exact hl)
   obtain⟨g,of,u,rfl,hg,c0,c1,c2,hps⟩:=HAT.out k l hl2
   obtain⟨A2,cap2,rfl,hpat⟩:=pr_at hps
   have hkl:=(List.getElem?_eq_some_iff.1 hl2).1
   have i1:(k:Int)<(o.entries.length:Int):=by omega
   have i6:(k:Int)<6:=by omega
   have i0:(0:Int)≤(k:Int):=by omega
   have d0:=HS.out.only.cell_some c0 (fun e=>e)
   have d1:=HS.out.only.cell_some c1 (fun e=>e)
   have d2:=HS.out.only.cell_some c2 (fun e=>e)
   obtain⟨R,eR⟩:∃R,R=w6.heap.size:=⟨_,rfl⟩
   obtain⟨Z,eZ⟩:∃Z,Z=(w6.alloc (.cells #[.int .i64 0,.int .i64 0,.int .i64 0,.int .i64 0,.slice none 0 0] tEnt)).drew :=⟨_,rfl⟩
   have hZ:Only NoneOf w6 Z:=by rw[eZ];exact((Only.refl _ _).alloc _).drew
   have hRZ:Blk Z R tEnt #[.int .i64 0,.int .i64 0,.int .i64 0,.int .i64 0,.slice none 0 0]:=by rw[eZ,eR];exact Blk.drew (Blk.new w6 _ _)
   have z0:=hZ.cell_some d0 (fun e=>e)
   have z1:=hZ.cell_some d1 (fun e=>e)
   have z2:=hZ.cell_some b0 (fun e=>e)
   rw[eZ] at z0 z1 z2
   go_upto_region 5 with(fail)
   go_region
   have hR0:Blk (w6.alloc (.cells #[.int .i64 0,.int .i64 l.lot,.int .i64 0,.int .i64 l.price,.slice none 0 0] tEnt)).drew R tEnt #[.int .i64 0,.int .i64 l.lot,.int .i64 0,.int .i64 l.price,.slice none 0 0]:=by rw[eR];exact Blk.drew (Blk.new w6 _ _)
   obtain⟨P,eP⟩:∃P,P=l.values.take 5:=⟨_,rfl⟩
   have hPl:P.length=min 5 l.values.length:=by rw[eP,List.length_take]
   have HV0:Hid (MvS w6 R l.lot l.price (.slice none 0 0) [] (w6.alloc (.cells #[.int .i64 0,.int .i64 l.lot,.int .i64 0,.int .i64 l.price,.slice none 0 0] tEnt)).drew):=Lib.hid ⟨hR0,OwnOf.nil _ _ _ _ _,((Only.refl _ _).alloc _).drew⟩
   have hOR:O<R:=by rw[eR];exact Blk.lt HS.out.box
   have hwR:w.heap.size≤R:=by omega
   have HPA:=Lib.hid hpat
   have HC2:=Lib.hid c2
   have HLO:=Lib.hid (HOK.out.ent l (List.mem_of_getElem? hl2))
   have ER:=Lib.hid eR
   have EP:=Lib.hid eP
   have HPL:=Lib.hid hPl
   have HLL:=Lib.hid hl
   clear hR0 hZ hRZ eZ z0 z1 z2 d0 d1 d2 c0 c1 c2 b0 hpat hps hl hl2 eP hPl eR
   go_wp2_with fail
   rw[←ER.out]
   go_loopw [9] (fun i W=>∃(j:Nat) (lv:Value),i= .int .i64 j∧j≤P.length∧MvS w6 R l.lot l.price lv ((P.take j).map (mkV wild)) W) (fun i _=>P.length-(intOf i).toNat)
   case atStart=>exact⟨0,_,rfl,Nat.zero_le _,HV0.out⟩
   case round=>
    obtain⟨j,lv,rfl,hj,hV⟩:=hrel
    obtain⟨vs,evs⟩:∃vs,vs=(P.take j).map (mkV wild):=⟨_,rfl⟩
    rw[←evs] at hV
    have hvl:vs.length=j:=by rw[evs,List.length_map,List.length_take];omega
    have hvs:vs.length≤1000000000:=by have:=HPL.out;omega
    have HVL:=Lib.hid hvl
    have EVS:=Lib.hid evs
    clear evs hvl
    have HVV:=Lib.hid hV
    have hoW:=hi_none HS.out.only hV.low hwR
    have b0:wr.cell? ⟨O,0,none⟩=some (.slice (some ⟨g,of,none⟩) o.entries.length cap):=(HS.out.box.hi hV.low hOR).cell 0
    have d2:=hoW.cell_some HC2.out (fun e=>e)
    have HOW:=Lib.hid hoW
    obtain⟨Lv,lcap,rfl,hlc1,hlc2⟩:=own_form' hV.vals
    clear hV hoW
    by_cases hlj:j<P.length
    ·obtain⟨p,hp⟩:∃p,P[j]? =some p:=⟨_,List.getElem?_eq_getElem hlj⟩
     obtain⟨hp2,hj5⟩:=take_at (by rw[←EP.out];exact hp)
     obtain⟨g2,o2,rfl,hg2,e0,e1⟩:=HPA.out j p hp2
     have hjl:=(List.getElem?_eq_some_iff.1 hp2).1
     have j1:(j:Int)<(l.values.length:Int):=by omega
     have j5:(j:Int)<5:=by omega
     have j0:(0:Int)≤(j:Int):=by omega
     have f0:=HOW.out.cell_some e0 (fun e=>e)
     have HE1:=Lib.hid e1
     have hpi:=HLO.out.2.2 p (List.mem_of_getElem? hp2)
     have HPI:=Lib.hid hpi
     obtain⟨m,em⟩:∃m,m=if wild then p.1 else p.1%6:=⟨_,rfl⟩
     have hmin:In m:=by
      rw[em]
      cases wild with
      |true=>exact hpi.1
      |false=>
       have h1:=Int.emod_nonneg p.1 (show(6:Int)≠0 by omega)
       have h2:=Int.emod_lt_of_pos p.1 (show(0:Int)<6 by omega)
       show In (p.1%6)
       unfold In
       omega
     have hnx:(P.take (j+1)).map (mkV wild)=vs++[⟨nameT m,p.2⟩]:=by
      rw[List.take_add_one,hp,Option.toList_some,List.map_append,em,EVS.out]
      rfl
     have HNX:=Lib.hid hnx
     have HMI:=Lib.hid hmin
     have EM:=Lib.hid em
     have HPP:=Lib.hid hp
     have i1:(k:Int)<(o.entries.length:Int):=by omega
     have i0:(0:Int)≤(k:Int):=by omega
     clear hp hp2 e0 e1 hnx hmin em hpi
     go_upto_if 64 with(fail)
     go_cut [10] from 38 to 84 (fun c wx=>c= .int .i64 m∧wr=wx)
     case first=>
      cases wild with
      |true=>
       have hm:m=p.1:=by rw[EM.out];rfl
       subst hm
       go_wp2_with fail
       go_meet
       case rel=>exact⟨rfl,rfl⟩
      |false=>
       have hm:m=p.1%6:=by rw[EM.out];rfl
       go_wp2_with fail
       refine(mod04_any p.1 6 HPI.out.1 (by omega) (by omega) _).mono ?_
       rintro e w3 ⟨rfl,rfl⟩
       rw[←hm]
       go_wp2_with fail
       go_meet
       case rel=>exact⟨by rw[hm],rfl⟩
     case rest=>
     obtain⟨rfl,rfl⟩:=hcut
     have r4:wr.cell? ⟨R,4,none⟩=some (.slice Lv vs.length lcap):=HVV.out.ent.cell 4
     have wj:IntKind.i64.wrap ((j:Int)+1)=(j:Int)+1:=IntWalk.i64_in _ (by omega)
     have e1:=HOW.out.cell_some HE1.out (fun e=>e)
     go_upto_region 12 with(fail)
     go_region_law (first
      |(go_simp;go_at_call 34;refine(name_any m HMI.out wr.drew).mono ?_;rintro e5 w5 ⟨rfl,ho5⟩;have hd5:Only NoneOf wr w5:=((Only.refl NoneOf wr).drew).trans ho5;have hx5:Only NoneOf wr (w5.alloc (.cells #[.string (nameT m),.int .i64 p.2] 84)):=hd5.alloc _;have b5:=hd5.cell_some b0 (fun e=>e);have d5:=hd5.cell_some d2 (fun e=>e);have g5:=hd5.cell_some e1 (fun e=>e);have r5:=hd5.cell_some r4 (fun e=>e);have b6:=hx5.cell_some b0 (fun e=>e);have d6:=hx5.cell_some d2 (fun e=>e);have g6:=hx5.cell_some e1 (fun e=>e);have r6:=hx5.cell_some r4 (fun e=>e);obtain⟨A7,cap7,W2,hrun,q0,q1,hnew⟩:=vals_step (HVV.out.none_ hd5) ⟨nameT m,p.2⟩ hvs 35;have HNEW:=Lib.hid hnew;clear hnew ho5 hd5 hx5))
     all_goals
      go_wp2_with fail
      go_roundw
      case rel=>exact⟨j+1,_,by go_num,by omega,by rw[HNX.out];exact HNEW.out⟩
      case measure=>simp[intOf];omega
    ·have hjP:j=P.length:=by omega
     have hPl:=HPL.out
     have hE:=HVV.out.ent
     have q0:=hE.cell 0
     have q1:=hE.cell 1
     have q2:=hE.cell 2
     have q3:=hE.cell 3
     have q4:=hE.cell 4
     obtain⟨es,ees⟩:∃es,es=(T.take k).map (mkE wild):=⟨_,rfl⟩
     have hS2:=HS.out
     rw[←ees] at hS2
     have hel2:es.length=k:=by rw[ees];exact hel
     obtain⟨A8,cap8,W8,hrun,hnew⟩:=ent_step hS2 ER.out HVV.out (by omega) 31
     rw[hel2] at hrun hnew
     have hnx:(T.take (k+1)).map (mkE wild)=es++[⟨l.lot,l.price,vs⟩]:=by
      rw[List.take_add_one,HLL.out,Option.toList_some,List.map_append,ees,EVS.out,hjP,List.take_length,EP.out]
      rfl
     have HNX:=Lib.hid hnx
     have HNEW:=Lib.hid hnew
     have i1:(k:Int)<(o.entries.length:Int):=by omega
     have i0:(0:Int)≤(k:Int):=by omega
     have wk:IntKind.i64.wrap ((k:Int)+1)=(k:Int)+1:=IntWalk.i64_in _ (by omega)
     clear hnx hnew hS2 hE ees
     by_cases hjl:j<l.values.length
     ·have j1:(j:Int)<(l.values.length:Int):=by omega
      have j5:¬(j:Int)<5:=by omega
      go_wp2_with fail
      go_roundw
      case rel=>exact⟨k+1,rfl,by omega,by rw[HNX.out];exact HNEW.out⟩
      case measure=>simp[intOf];omega
     ·have j1:¬(j:Int)<(l.values.length:Int):=by omega
      go_wp2_with fail
      go_roundw
      case rel=>exact⟨k+1,rfl,by omega,by rw[HNX.out];exact HNEW.out⟩
      case measure=>simp[intOf];omega
  ·have hkT:k=T.length:=by omega
   have htl:=HTL.out
   have hMR:MrS w O (.slice A o.entries.length cap) (.slice B o.rebates.length bap) (.slice V k vap) (mkEs wild o) (.slice none 0 0) [] w6:=⟨HS.out.box,by have h:=HS.out.own;have e:T.take k=o.entries.take 6:=(List.take_of_length_le (by omega)).trans ET.out;rw[e] at h;exact h,RbOwn.nil _ _,HS.out.only⟩
   have HMR:=Lib.hid hMR
   clear hMR
   obtain⟨Ve,eVe⟩:∃Ve,Ve=Value.slice V k vap:=⟨_,rfl⟩
   obtain⟨Q,eQ⟩:∃Q,Q=o.rebates.take 4:=⟨_,rfl⟩
   have hQl:Q.length=min 4 o.rebates.length:=by rw[eQ,List.length_take]
   have HQL:=Lib.hid hQl
   have EQ:=Lib.hid eQ
   clear hQl eQ
   have hgg:((k:Int)<(o.entries.length:Int)∧¬(k:Int)<6)∨¬(k:Int)<(o.entries.length:Int):=by
    by_cases hkl:k<o.entries.length
    ·exact .inl ⟨by omega,by omega⟩
    ·exact .inr (by omega)
   rw[←eVe]
   rw[←eVe] at HMR
   clear eVe
   rcases hgg with⟨i1,i6⟩|i1
   all_goals
    go_wp2_with fail
    go_loopw [11,12] (fun v i wr=>∃k:Nat,i= .int .i64 k∧k≤Q.length∧MrS w O (.slice A o.entries.length cap) (.slice B o.rebates.length bap) Ve (mkEs wild o) v ((Q.take k).map mkR) wr) (fun _ i _=>Q.length-(intOf i).toNat)
    case atStart=>exact⟨0,rfl,Nat.zero_le _,HMR.out⟩
    case round=>
     obtain⟨k2,rfl,hk2,hM⟩:=hrel
     obtain⟨rs,ers⟩:∃rs,rs=(Q.take k2).map mkR:=⟨_,rfl⟩
     rw[←ers] at hM
     have hrl:rs.length=k2:=by rw[ers,List.length_map,List.length_take];omega
     have hql:=HQL.out
     have b1:wr.cell? ⟨O,1,none⟩=some (.slice B o.rebates.length bap):=hM.box.cell 1
     obtain⟨V2,vap2,rfl,hv1,hv2⟩:=hM.own.form
     have HM:=Lib.hid hM
     have ERS:=Lib.hid ers
     clear hM ers
     by_cases hlt2:k2<Q.length
     ·obtain⟨r,hr⟩:∃r,Q[k2]? =some r:=⟨_,List.getElem?_eq_getElem hlt2⟩
      obtain⟨hr2,hk4⟩:=take_at (by rw[←EQ.out];exact hr)
      obtain⟨g,of,u,rfl,hg,c0,hns⟩:=HBT.out k2 r hr2
      have hkl:=(List.getElem?_eq_some_iff.1 hr2).1
      have n1:(k2:Int)<(o.rebates.length:Int):=by omega
      have n4:(k2:Int)<4:=by omega
      have n0:(0:Int)≤(k2:Int):=by omega
      have wk2:IntKind.i64.wrap ((k2:Int)+1)=(k2:Int)+1:=IntWalk.i64_in _ (by omega)
      have hnx:(Q.take (k2+1)).map mkR=rs++[mkR r]:=by
       rw[List.take_add_one,hr,Option.toList_some,List.map_append,ERS.out]
       rfl
      have HNX:=Lib.hid hnx
      clear hnx hr hr2
      obtain⟨N,eN⟩:∃N,N=wr.heap.size:=⟨_,rfl⟩
      have hx1:Only NoneOf wr (wr.alloc (.cells #[.slice none 0 0,.int .i64 0] tRbt)):=(Only.refl _ _).alloc _
      have hN1:Blk (wr.alloc (.cells #[.slice none 0 0,.int .i64 0] tRbt)) N tRbt #[.slice none 0 0,.int .i64 0]:=by rw[eN];exact Blk.new wr _ _
      have c01:=HM.out.only.cell_some c0 (fun e=>e)
      have c02:=hx1.cell_some c01 (fun e=>e)
      have b2:=hx1.cell_some b1 (fun e=>e)
      obtain⟨D,dap,rfl,hd1,hd2,hdt⟩:=hns
      cases r with
      |nil=>
       have hM1:=HM.out.none_ hx1
       obtain⟨A9,cap9,W9,hrun,hnew⟩:=reb_step hM1 ⟨.slice none 0 0,0⟩ (mkR []) ⟨rfl,⟨none,0,rfl,Nat.le_refl _,by omega,fun i p h=>by cases h⟩⟩ (by omega) 32
       have m0:=hN1.cell 0
       have m1:=hN1.cell 1
       rw[eN] at m0 m1
       rw[hrl,World.size_alloc] at hrun
       rw[hrl] at hnew
       have HNEW:=Lib.hid hnew
       clear hnew hM1 hN1 hx1
       go_wp2_with fail
       go_roundw
       case rel=>exact⟨k2+1,rfl,by omega,by rw[HNX.out];exact HNEW.out⟩
       case measure=>simp[intOf];omega
      |cons x xs=>
       obtain⟨g2,o2,rfl,hg2,hx0⟩:=hdt 0 x rfl
       have x0:w.cell? ⟨g2,o2,none⟩=some (.int .i64 x):=hx0 0 _ rfl
       have x1:=HM.out.only.cell_some x0 (fun e=>e)
       have x2:=hx1.cell_some x1 (fun e=>e)
       have hz0:=hN1.cell 1
       have hf0:=hN1.frozen 1
       obtain⟨Y,eY⟩:∃Y,Y=wr.alloc (.cells #[.slice none 0 0,.int .i64 x] tRbt):=⟨_,rfl⟩
       have hY0:Only NoneOf wr Y:=by rw[eY];exact(Only.refl _ _).alloc _
       have hNY:Blk Y N tRbt #[.slice none 0 0,.int .i64 x]:=by rw[eY,eN];exact Blk.new wr _ _
       have c03:=hY0.cell_some c01 (fun e=>e)
       have b3:=hY0.cell_some b1 (fun e=>e)
       rw[eN] at hz0 hf0
       go_upto_region 21 with(fail)
       rw[←eY]
       have hYd:Only NoneOf wr Y.drew:=hY0.drew
       have hYa:Only NoneOf wr (Y.alloc (.cells #[] 3)):=hY0.alloc _
       have c04:=hYd.cell_some c01 (fun e=>e)
       have b4:=hYd.cell_some b1 (fun e=>e)
       have c05:=hYa.cell_some c01 (fun e=>e)
       have b5:=hYa.cell_some b1 (fun e=>e)
       have c06:=hYa.drew.cell_some c01 (fun e=>e)
       have b6:=hYa.drew.cell_some b1 (fun e=>e)
       have mi0:(0:Int)≤min ((xs.length:Int)+1) 6:=by omega
       have hxd:xs.length+1≤dap:=hd1
       have mi1:min ((xs.length:Int)+1) 6≤(dap:Int):=by omega
       have mi2:(1:Int)≤max (min ((xs.length:Int)+1) 6) 0:=by omega
       have mi3:(min ((xs.length:Int)+1) 6).toNat -1=min 5 xs.length:=by omega
       have hu:SlOf inC 1 Y.drew (.slice (if dap=1 then some ⟨g2,o2,none⟩ else some ⟨g2,o2+1,none⟩) (min 5 xs.length) (dap-1)) (xs.take 5):=by
        refine⟨_,_,by rw[List.length_take],by rw[List.length_take];omega,by omega,fun i n hn=> ?_⟩
        obtain⟨hn1,_⟩:=take_at hn
        obtain⟨g3,o3,e3,hg3,hc3⟩:=hdt (i+1) n hn1
        cases e3
        have hil:=(List.getElem?_eq_some_iff.1 hn1).1
        refine⟨g2,o2+1,by rw[if_neg (by omega)],Nat.lt_of_lt_of_le hg3 (HM.out.only.trans hYd).size,?_⟩
        have h:=SlOf.only (w' :=Y.drew) ⟨some ⟨g2,o2,none⟩,dap,rfl,hd1,hd2,hdt⟩ (HM.out.only.trans hYd)
        obtain⟨A5,cap5,e5,_,_,h5⟩:=h
        cases e5
        obtain⟨g6,o6,e6,_,hc6⟩:=h5 (i+1) n hn1
        cases e6
        rw[show o2+1+i*1=o2+(i+1)*1 by omega]
        exact hc6
       obtain⟨A9,cap9,W9,hrun9,p0,p1,hX9,hB9,hT9⟩:=reb_cons eN hYd (Blk.drew hNY) hu (by rw[List.length_take];omega) 38
       have hrun9' :(aph #[38,38] 38 #[.slice (some ⟨Y.heap.size,0,none⟩) 0 0,.slice (if dap=1 then some ⟨g2,o2,none⟩ else some ⟨g2,o2+1,none⟩) (min 5 xs.length) (dap-1)]).run Tryz.prog (Y.alloc (.cells #[] 3)).drew = .ok (.slice A9 (xs.take 5).length cap9) W9:=hrun9
       have hM9:=HM.out.none_ hX9
       obtain⟨A8,cap8,W8,hrun,hnew⟩:=reb_step hM9 ⟨.slice A9 (xs.take 5).length cap9,x⟩ (mkR (x::xs)) ⟨rfl,hT9⟩ (by omega) 32
       have m0:=hB9.cell 0
       have m1:=hB9.cell 1
       obtain⟨l9,el9⟩:∃n,n=(xs.take 5).length :=⟨_,rfl⟩
       rw[←el9] at hrun hrun9' m0 m1
       rw[eN] at m0 m1 p0 p1 hrun
       rw[hrl,World.size_setCell] at hrun
       rw[hrl] at hnew
       have HNEW:=Lib.hid hnew
       clear eY hnew hM9 hX9 hB9 hT9 hrun9 hu el9 hdt
       go_region
       go_wp2_with fail
       go_roundw
       case rel=>exact⟨k2+1,rfl,by omega,by rw[HNX.out];exact HNEW.out⟩
       case measure=>simp[intOf];omega
     ·have hk2q:k2=Q.length:=by omega
      have el:rs.length=min 4 o.rebates.length:=by omega
      have hEnd:MkE w wild o (.returned (.tuple #[Ve,.slice V2 (min 4 o.rebates.length) vap2])) wr:=by
       have e2:Q.take k2=Q:=List.take_of_length_le (by omega)
       have e:rs=mkRs o:=by rw[ERS.out,e2,EQ.out];rfl
       have h:=HM.out
       rw[el] at h
       exact⟨Ve,_,rfl,h.ent,by rw[←e];exact h.own,h.only⟩
      have HEnd:=Lib.hid hEnd
      clear hEnd
      by_cases hkl:k2<o.rebates.length
      ·have n1:(k2:Int)<(o.rebates.length:Int):=by omega
       have n4:¬(k2:Int)<4:=by omega
       go_wp2_with fail
       go_ret2
       exact HEnd.out
      ·have n1:¬(k2:Int)<(o.rebates.length:Int):=by omega
       go_wp2_with fail
       go_ret2
       exact HEnd.out
end Go.Proofs.YtpdlbmieciabmaaGreatDoor
