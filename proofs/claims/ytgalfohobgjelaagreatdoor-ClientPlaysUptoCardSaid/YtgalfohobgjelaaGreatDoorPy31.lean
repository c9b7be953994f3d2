/- What is proved here: a part of the proof that 'probitylaw31.ClientPlays' answers true. Conditions: each theorem's own. -/
import Derived.Test.YtgalfohobgjelaaGreatDoorPy30
set_option maxRecDepth 100000
set_option maxHeartbeats 8000000
namespace Go.Proofs.YtgalfohobgjelaaGreatDoor
section
open Go.RowKit Go.Shelf
def zbVt(parts:Array (Nat×Value)):Sem Value:=Instr.build 43 parts
theorem zbVt_eq(parts:Array (Nat×Value)):Instr.build 43 parts=zbVt parts:=rfl
def zbHa(parts:Array (Nat×Value)):Sem Value:=Instr.build 35 parts
theorem zbHa_eq(parts:Array (Nat×Value)):Instr.build 35 parts=zbHa parts:=rfl
def zbPs(parts:Array (Nat×Value)):Sem Value:=Instr.build 67 parts
theorem zbPs_eq(parts:Array (Nat×Value)):Instr.build 67 parts=zbPs parts:=rfl
def zbBl(parts:Array (Nat×Value)):Sem Value:=Instr.build 57 parts
theorem zbBl_eq(parts:Array (Nat×Value)):Instr.build 57 parts=zbBl parts:=rfl
def psSt(p v:Value):Sem Unit:=Instr.storeAt 67 p v
theorem psSt_eq(p v:Value):Instr.storeAt 67 p v=psSt p v:=rfl
def blSt(p v:Value):Sem Unit:=Instr.storeAt 57 p v
theorem blSt_eq(p v:Value):Instr.storeAt 57 p v=blSt p v:=rfl
def AcSl(w:World)(v:Value)(L:List Ac):Prop:=
 ∃A cap,v= .slice A L.length cap∧L.length≤cap∧cap≤9223372036854775807∧∀(i:Nat) (a:Ac),L[i]? =some a→∃g o,A=some ⟨g,o,none⟩∧g<w.heap.size∧w.rangeAt g (o+i*9) (acC a).toList
theorem AcSl.only{w w' :World}{v:Value}{L:List Ac}(h:AcSl w v L)(ho:Only Ωa w w'):AcSl w' v L:=by
 obtain⟨A,cap,hv,h1,h2,h3⟩:=h
 refine⟨A,cap,hv,h1,h2,fun i e he=> ?_⟩
 obtain⟨g,o,hA,hg,hr⟩:=h3 i e he
 exact⟨g,o,hA,ΩnT hg ho.size,Ωcq hr ho⟩
def acLd(v:Value):Sem Value:=Instr.loadAt 70 v
theorem Ωmp(v:Value):Instr.loadAt 70 v=acLd v:=rfl
theorem ac_ld{W:World}{g o:Nat}{a:Ac}(h:W.rangeAt g o (acC a).toList):(acLd (.pointer (some ⟨g,o,none⟩))).run Tryz.prog W= .ok (.agg (acC a)) W:=
 ΩoG W g o 70 (acC a).toList _ h Tryz.underlying70 rfl (by kernel_rfl)
end
section
open Go.RowKit Go.Shelf
abbrev tMd:TypeId:=124
structure Md where
 M:Nat
 id:Int
 pv:Value
 P:List Pers
 bv:Value
 bn:Nat
 bcs:List Value
 head:Hd
 vv:Value
 votes:List Vt
 rc:Bool
def mdA(c:Md):List Value:=[.int .i64 c.id,c.pv,.int .i64 0,.slice none 0 0,.slice none 0 0,.int .i64 0,.int .i64 0,c.bv]
def mdC(c:Md):List Value:=mdA c++(hdC c.head++[c.vv,.bool c.rc])
theorem ΩlS{c:Md}(hl:c.head.root.length=32):(mdC c).length =43:=by simp[mdC,mdA,Ωo hl]
def Ωmr(w:World)(n:Nat)(cs:List Value)(sent:Bool)(t:ByteArray):Prop:=
 (n=0∧sent=false)∨∃(k:Nat) (ys:List Value) (q:Int) (G:Nat),n=k+1∧ys.length=k*5∧cs=ys++(Ωae (bidW q) (some ⟨G,0,none⟩) none 1 0).toList∧sent=true∧t=encT (bidW q)∧Blk w G 3 #[.int .i64 4]
theorem Ωmr.only{S:Nat→Prop}{w w' :World}{n:Nat}{cs:List Value}{sent:Bool}{t:ByteArray}(h:Ωmr w n cs sent t)(ho:Only S w w')(hI:∀G cs,Blk w G 3 cs→¬S G):Ωmr w' n cs sent t:=by
 rcases h with h|⟨k,ys,q,G,h1,h2,h3,h4,h5,h6⟩
 ·exact .inl h
 ·exact .inr ⟨k,ys,q,G,h1,h2,h3,h4,h5,h6.only ho (hI G _ h6)⟩
structure MdAt(w:World)(base:Nat)(c:Md)(sent:Bool)(t:ByteArray):Prop where
 blk:Blk w c.M tMd (mdC c).toArray
 lo:base≤c.M
 hok:c.head.Ok
 pers:ΩT w base c.pv c.P.length c.P
 bids:w.ownsRow base tBid 5 c.bv c.bn c.bcs
 last:Ωmr w c.bn c.bcs sent t
 votes:ΩH w base c.vv c.votes.length c.votes
 ok:Ω4 c.votes
def Md.foot(c:Md)(k:Nat):Prop:=k=c.M∨c.pv.ownBlock=some k∨c.bv.ownBlock=some k∨c.vv.ownBlock=some k
section
variable {w w' :World} {base:Nat} {c:Md} {sent:Bool} {t:ByteArray}
theorem MdAt.keep{S:Nat→Prop}(h:MdAt w base c sent t)(ho:Only S w w')(hS:∀k,c.foot k→¬S k)(hI:∀G cs,Blk w G 3 cs→¬S G):MdAt w' base c sent t:=
 ⟨h.blk.only ho (hS _ (.inl rfl)),h.lo,h.hok,Ωe h.pers ho (fun k hk=>hS k (.inr (.inl hk))),Ωe h.bids ho (fun k hk=>hS k (.inr (.inr (.inl hk)))),h.last.only ho hI,Ωe h.votes ho (fun k hk=>hS k (.inr (.inr (.inr hk)))),h.ok⟩
theorem MdAt.nn(h:MdAt w base c sent t)(ho:Only Ωa w w'):MdAt w' base c sent t:=h.keep ho (fun _ _ e=>e) (fun _ _ _ e=>e)
theorem MdAt.foot_in(h:MdAt w base c sent t){k:Nat}(hk:c.foot k):base≤k∧k<w.heap.size:=by
 rcases hk with rfl|hk|hk|hk
 ·exact⟨h.lo,Blk.lt h.blk⟩
 ·exact ΩJ h.pers hk
 ·exact ΩJ h.bids hk
 ·exact ΩJ h.votes hk
theorem MdAt.ne_pv(h:MdAt w base c sent t):c.pv.ownBlock≠some c.M:=Ωi h.pers h.blk (by decide)
theorem MdAt.ne_bv(h:MdAt w base c sent t):c.bv.ownBlock≠some c.M:=Ωi h.bids h.blk (by decide)
theorem MdAt.ne_vv(h:MdAt w base c sent t):c.vv.ownBlock≠some c.M:=Ωi h.votes h.blk (by decide)
theorem MdAt.pv_bv(h:MdAt w base c sent t){k:Nat}(hk:c.pv.ownBlock=some k):c.bv.ownBlock≠some k:=Ωdz h.pers h.bids (by decide) hk
theorem MdAt.pv_vv(h:MdAt w base c sent t){k:Nat}(hk:c.pv.ownBlock=some k):c.vv.ownBlock≠some k:=Ωdz h.pers h.votes (by decide) hk
theorem MdAt.bv_vv(h:MdAt w base c sent t){k:Nat}(hk:c.bv.ownBlock=some k):c.vv.ownBlock≠some k:=Ωdz h.bids h.votes (by decide) hk
theorem MdAt.off{g:Nat}{y:TypeId}{cs:Array Value}(h:MdAt w base c sent t)(hb:Blk w g y cs)(h1:tMd≠y)(h2:67≠y)(h3:43≠y)(h4:tBid≠y):¬c.foot g:=fun hk=>by
 rcases hk with hk|hk|hk|hk
 ·exact Blk.ne_ h.blk hb h1 hk.symm
 ·exact Ωi h.pers hb h2 hk
 ·exact Ωi h.bids hb h4 hk
 ·exact Ωi h.votes hb h3 hk
end
section
variable {w:World} {c:Md}
theorem ΩjU{g:Nat}(h:Blk w g tMd (mdC c).toArray){k:Nat}{v:Value}(hk:(mdC c)[k]? =some v):w.cell? ⟨g,k,none⟩=some v:=by
 rw[Blk.cell h];simpa using hk
theorem ΩkF(hl:c.head.root.length=32)(j:Nat):(mdC c)[41+j]? =[c.vv,.bool c.rc][j]? :=by
 unfold mdC
 rw[ΩnM (by show 8≤_;omega),show(mdA c).length =8 from rfl,ΩnM (by rw[Ωo hl];omega),Ωo hl]
 congr 1;omega
theorem Ωii(j:Nat)(hj:j<8):(mdC c)[j]? =(mdA c)[j]? :=by
 unfold mdC
 rw[Ωn1 (by show j<8;omega)]
theorem md_id{g:Nat}(h:Blk w g tMd (mdC c).toArray):w.cell? ⟨g,0,none⟩=some (.int .i64 c.id):=ΩjU h (Ωii 0 (by omega))
theorem Ωih{g:Nat}(h:Blk w g tMd (mdC c).toArray):w.cell? ⟨g,7,none⟩=some c.bv:=ΩjU h (Ωii 7 (by omega))
theorem ΩfQ{g:Nat}(h:Blk w g tMd (mdC c).toArray):w.rangeAt g 1 [c.pv,.int .i64 0,.slice none 0 0,.slice none 0 0,.int .i64 0,.int .i64 0]:=fun j v hj=>by
 have hj2:=(Ωnx.1 hj).1
 simp only[ΩnD,Ωn8] at hj2
 refine ΩjU h ((Ωii (1+j) (by omega)).trans ?_)
 match j,hj2 with
 |0,_|1,_|2,_|3,_|4,_|5,_=>exact hj
theorem md_size{g:Nat}(h:Blk w g tMd (mdC c).toArray):w.cell? ⟨g,8,none⟩=some (.int .i64 c.head.size):=by
 refine ΩjU h ?_
 unfold mdC
 rw[ΩnM (by show 8≤8;omega)]
 rfl
theorem Ωnd{g:Nat}(h:Blk w g tMd (mdC c).toArray):w.rangeAt g 8 (hdC c.head):=fun j v hj=>by
 have hj2:=(Ωnx.1 hj).1
 refine ΩjU h ?_
 unfold mdC
 rw[ΩnM (by show 8≤8+j;omega),show(mdA c).length =8 from rfl,Nat.add_sub_cancel_left,Ωn1 hj2]
 exact hj
theorem Ωig{g:Nat}(h:Blk w g tMd (mdC c).toArray)(hl:c.head.root.length=32):w.cell? ⟨g,41,none⟩=some c.vv:=ΩjU h (ΩkF hl 0)
theorem Ωm4{g:Nat}(h:Blk w g tMd (mdC c).toArray)(hl:c.head.root.length=32):w.cell? ⟨g,42,none⟩=some (.bool c.rc):=ΩjU h (ΩkF hl 1)
theorem Ωje(hl:c.head.root.length=32)(j:Nat)(hj:j<2)(v:Value):(mdC c).set (41+j) v=mdA c++(hdC c.head++([c.vv,.bool c.rc].set j v)):=by
 unfold mdC
 rw[Ωof _ _ (by show 8≤_;omega),show(mdA c).length =8 from rfl,Ωof _ _ (by rw[Ωo hl];omega),Ωo hl]
 congr 3;omega
theorem mset_head(j:Nat)(hj:j<8)(v:Value):(mdC c).set j v=(mdA c).set j v++(hdC c.head++[c.vv,.bool c.rc]):=by
 unfold mdC
 rw[List.set_append_left _ _ (by show j<8;omega)]
theorem Ωij{g k:Nat}{cs ds:List Value}{v:Value}(h:Blk w g tMd cs.toArray)(e:cs.set k v=ds):Blk (w.setCell ⟨g,k,none⟩ v) g tMd ds.toArray:=by
 have h1:=Blk.set_ h k v
 rw[show(cs.toArray).setIfInBounds k v=ds.toArray by rw[ΩnX,e]] at h1
 exact h1
theorem md_put_votes{g:Nat}(h:Blk w g tMd (mdC c).toArray)(hl:c.head.root.length=32)(v:Value)(L:List Vt):Blk (w.setCell ⟨g,41,none⟩ v) g tMd (mdC {c with vv:=v,votes:=L}).toArray :=Ωij h (Ωje hl 0 (by omega) v)
theorem Ωjh{g:Nat}(h:Blk w g tMd (mdC c).toArray)(hl:c.head.root.length=32)(b:Bool):Blk (w.setCell ⟨g,42,none⟩ (.bool b)) g tMd (mdC {c with rc:=b}).toArray :=Ωij h (Ωje hl 1 (by omega) _)
theorem md_put_bids{g:Nat}(h:Blk w g tMd (mdC c).toArray)(v:Value)(n:Nat)(cs:List Value):Blk (w.setCell ⟨g,7,none⟩ v) g tMd (mdC {c with bv:=v,bn:=n,bcs:=cs}).toArray :=Ωij h (mset_head 7 (by omega) _)
theorem md_put_head{g:Nat}(h:Blk w g tMd (mdC c).toArray)(hl:c.head.root.length=32)(x:Hd)(hx:x.root.length=32):Blk (w.setCells g 8 (hdC x)) g tMd (mdC {c with head:=x}).toArray :=by
 have h1:=Blk.setCells (hdC x) 8 h
 have e:ΩaN (mdC c) 8 (hdC x)=mdC {c with head:=x}:=by
  rw[Ωbr _ _ _ (by rw[ΩlS hl,Ωo hx];omega),Ωo hx]
  unfold mdC
  have e1:(mdA c++(hdC c.head++[c.vv,Value.bool c.rc])).take 8=mdA c:=by rw[Ωom (by exact Ωnv 8)];rfl
  have e2:(mdA c++(hdC c.head++[c.vv,Value.bool c.rc])).drop (8+33)=[c.vv,Value.bool c.rc]:=by
   rw[←List.drop_drop,show(mdA c++(hdC c.head++[c.vv,Value.bool c.rc])).drop 8=hdC c.head++[c.vv,Value.bool c.rc] from rfl,List.drop_append,Ωo hl,Ωoi (by rw[Ωo hl];exact Ωnv _)]
   rfl
  rw[e1,e2,ΩoA]
  rfl
 rw[e] at h1
 exact h1
theorem md_store_head{W:World}{c:Md}{h:Hd}(hb:Blk W c.M tMd (mdC c).toArray)(hl:c.head.root.length=32)(hx:h.root.length=32):(ΩbJ (.pointer (some ⟨c.M,8,none⟩)) (.agg (hdC h).toArray)).run Tryz.prog W= .ok () (W.setCells c.M 8 (hdC h)):=
 run_storeAt_mid (P:=Tryz.prog) W c.M 8 37 (hdC h).toArray (hb.there 8 _ (by rw[ΩnJ,Ωo hx,ΩnJ,ΩlS hl];omega)) (by rw[ΩnJ,Ωo hx];kernel_rfl) (all_oneCell_toArray (Ωil h))
end
def ΩU(w w' :World)(c c' :Md):Prop:=Only c.foot w w'∧∀k,c'.foot k→c.foot k∨w.heap.size≤k
theorem ΩU.refl(w:World)(c:Md):ΩU w w c c:=⟨Only.refl _ _,fun _ h=> .inl h⟩
theorem ΩU.trans{w w' w'' :World}{c c' c'' :Md}(h:ΩU w w' c c')(k:ΩU w' w'' c' c''):ΩU w w'' c c'' :=
 ⟨h.1.trans' k.1 (fun i hi hf=>by rcases h.2 i hf with h1|h1;exact h1;omega),fun i hi=>by
  rcases k.2 i hi with h1|h1
  ·exact h.2 i h1
  ·exact .inr (Ωnz h.1.size h1)⟩
theorem ΩU.nn{w w' :World}{c:Md}(h:Only Ωa w w'):ΩU w w' c c:=⟨h.mono (fun _ _ e=>e.elim),fun _ h=> .inl h⟩
theorem ΩU.only{w0 w w' :World}{base:Nat}{c c' :Md}{sent:Bool}{t:ByteArray}(h:ΩU w w' c c')(hc:MdAt w base c sent t)(h0:Only Ωa w0 w)(hb:w0.heap.size≤base):Only Ωa w0 w' :=
 h0.trans' h.1 (fun i hi hf=>by have:=(hc.foot_in hf).1;omega)
def Ωfz(c:Md)(v:Value):Prop:=∀a n cap,v= .slice (some a) n cap→¬c.foot a.block
theorem MdAt.recell{w w' :World}{base:Nat}{c c' :Md}{sent:Bool}{t:ByteArray}(h:MdAt w base c sent t)(ho:Only (fun k=>k=c.M) w w')(hb:Blk w' c.M tMd (mdC c').toArray)(e1:c'.M=c.M)(e2:c'.pv=c.pv)(e3:c'.P=c.P)(e4:c'.vv=c.vv)(e5:c'.votes=c.votes)(e6:c'.bv=c.bv)(e7:c'.bn=c.bn)(e9:c'.bcs=c.bcs)(e8:c'.head.Ok):MdAt w' base c' sent t:=by
 refine⟨by rw[e1];exact hb,by rw[e1];exact h.lo,e8,?_,?_,?_,?_,by rw[e5];exact h.ok⟩
 ·rw[e2,e3];exact Ωe h.pers ho (fun k hk e=>h.ne_pv (by rw[hk,e]))
 ·rw[e6,e7,e9];exact Ωe h.bids ho (fun k hk e=>h.ne_bv (by rw[hk,e]))
 ·rw[e7,e9];exact h.last.only ho (fun G cs hG e=>Blk.ne_ h.blk hG (by decide) e.symm)
 ·rw[e4,e5];exact Ωe h.votes ho (fun k hk e=>h.ne_vv (by rw[hk,e]))
theorem Ωfu{w w' :World}{c c' :Md}(ho:Only (fun k=>k=c.M) w w')(e1:c'.M=c.M)(e2:c'.pv=c.pv)(e4:c'.vv=c.vv)(e6:c'.bv=c.bv):ΩU w w' c c' :=
 ⟨ho.mono (fun k _ hk=> .inl hk),fun k hk=> .inl (by
  rcases hk with hk|hk|hk|hk
  ·exact .inl (by rw[hk,e1])
  ·exact .inr (.inl (by rw[←e2];exact hk))
  ·exact .inr (.inr (.inl (by rw[←e6];exact hk)))
  ·exact .inr (.inr (.inr (by rw[←e4];exact hk))))⟩
end
section
open Go.RowKit Go.Shelf
attribute [local go_sem ↓ high] Ωaj ΩcG Ωlf
theorem Ωjv(a b:Vt):eqVt a b=eqVt b a:=by rw[Ωoy,Ωcy,Ωcy];exact eq_comm
def Md.took(c:Md)(vv:Value)(V:List Vt):Md:={c with vv:=vv,votes:=V}
structure MtS(w:World)(base:Nat)(c:Md)(sent:Bool)(t:ByteArray)(V:List Vt)(vv:Value)(W:World):Prop where
 at_:MdAt W base (c.took vv V) sent t
 step:ΩU w W c (c.took vv V)
theorem MtS.keep{w:World}{base:Nat}{c:Md}{sent:Bool}{t:ByteArray}{V:List Vt}{vv:Value}{W W' :World}(h:MtS w base c sent t V vv W)(ho:Only Ωa W W'):MtS w base c sent t V vv W' :=⟨h.at_.nn ho,h.step.trans (ΩU.nn ho)⟩
theorem mt_made{w W W8:World}{base:Nat}{c:Md}{sent:Bool}{t:ByteArray}{V V' :List Vt}{vv vv' :Value}(h:MtS w base c sent t V vv W)(hok:Ω4 V')(hown:ΩH W8 base vv' V'.length V')(hg:W.grownBy W8 vv.ownBlock)(hblk:vv'.ownBlock=vv.ownBlock∨vv'.ownBlock=some W.heap.size):MtS w base c sent t V' vv' (W8.setCell ⟨c.M,41,none⟩ vv'):=by
 have ho1:Only (fun k=>vv.ownBlock=some k) W W8:=(Only.refl _ W).grown hg (fun k e=> .inl e)
 have ho2:Only (fun k=>k=c.M) W8 (W8.setCell ⟨c.M,41,none⟩ vv'):=(Only.refl (fun k=>k=c.M) W8).setCell (p:=⟨c.M,41,none⟩) (.inl rfl) _
 have hb8:Blk W8 c.M tMd (mdC (c.took vv V)).toArray :=Blk.grown h.at_.blk hg (fun e=>h.at_.ne_vv e.symm)
 have hp8:ΩT W8 base c.pv c.P.length c.P:=Ωe h.at_.pers ho1 (fun k hk e=>h.at_.pv_vv hk e)
 have hd8:W8.ownsRow base tBid 5 c.bv c.bn c.bcs:=Ωe h.at_.bids ho1 (fun k hk e=>h.at_.bv_vv hk e)
 have hl8:Ωmr W8 c.bn c.bcs sent t:=h.at_.last.only ho1 (fun G cs hG e=>Ωi h.at_.votes hG (by decide) e)
 have h1:MdAt (W8.setCell ⟨c.M,41,none⟩ vv') base (c.took vv' V') sent t:=
  ⟨md_put_votes (c:=c.took vv V) hb8 h.at_.hok.root vv' V',h.at_.lo,h.at_.hok,Ωe hp8 ho2 (fun k hk e=>Ωi hp8 hb8 (by decide) (by rw[←e];exact hk)),Ωe hd8 ho2 (fun k hk e=>Ωi hd8 hb8 (by decide) (by rw[←e];exact hk)),hl8.only ho2 (fun G cs hG e=>Blk.ne_ hb8 hG (by decide) e.symm),Ωe hown ho2 (fun k hk e=>Ωi hown hb8 (by decide) (by rw[←e];exact hk)),hok⟩
 refine⟨h1,h.step.trans ⟨(ho1.mono (fun k _ e=> .inr (.inr (.inr e)))).trans' ho2 (fun k _ e=> .inl e),fun k hk=> ?_⟩⟩
 rcases hk with hk|hk|hk|hk
 ·exact .inl (.inl hk)
 ·exact .inl (.inr (.inl hk))
 ·exact .inl (.inr (.inr (.inl hk)))
 ·rcases hblk with e|e
  ·exact .inl (.inr (.inr (.inr (by rw[←hk];exact e.symm))))
  ·right
   have hk' :vv'.ownBlock=some k:=hk
   rw[e] at hk'
   cases hk'
   exact Ωnv _
theorem take_fold_len(M:List Vt):∀(L:List Vt),(L.foldl ΩaM M).length≤M.length+L.length:=fun L=>by
 rw[←ΩaW]
 unfold ΩA
 have:=ΩbX L M
 rw[ΩnA]
 omega
theorem new_vote(W:World)(x:Vt)(hl:x.head.root.length=32):ΩH (W.alloc (.cells (vtC x).toArray tVt)) W.heap.size (.slice (some ⟨W.heap.size,0,none⟩) 1 1) 1 [x]:=by
 unfold ΩH
 have e:[x].flatMap vtC=vtC x:=by simp
 rw[e]
 exact⟨by rw[Ω0 hl],.inr ⟨W.heap.size,1,(vtC x).toArray,rfl,Ωnv _,Blk.new W _ _,Ωnv _,by rw[Ωg];omega,by rw[ΩnJ,Ω0 hl],ΩnI (by rw[Ω0 hl];omega)⟩⟩
theorem Ωjd(c:Md)(base:Nat){sent:Bool}{t:ByteArray}(L:List Vt)(hok:Ω4 L)(hL:L.length≤1000)(hn:c.votes.length≤50000)(sv:Value)(w:World)(h:MdAt w base c sent t)(_hb:base≤w.heap.size)(hs:VtSl w sv L)(ha:Ωfz c sv):
  Calls Tryz.prog 94 #[.pointer (some ⟨c.M,0,none⟩),sv] w fun e w' =>e= .returned (.tuple #[])∧∃vv,MtS w base c sent t (ΩA c.votes L) vv w' :=by
 obtain⟨sA,scap,rfl,hlc,hcm,_⟩:=id hs
 have h0:MtS w base c sent t c.votes c.vv w:=⟨h,ΩU.refl w c⟩
 have hvs:∀W,Only c.foot w W→VtSl W (.slice sA L.length scap) L:=fun W ho=>hs.step ho (fun a n cap e=>ha a n cap e)
 obtain⟨M,eM⟩:∃M,M=c.M:=⟨_,rfl⟩
 have H0:=Θ h0
 have HVS:=Θ hvs
 have HOK:=Θ hok
 have HCO:=Θ h.ok
 have HRT:=Θ h.hok.root
 have EM:=Θ eM
 rw[←eM]
 clear h0 hvs hok h hs ha eM
 go_enter Tryz.func94,Tryz.ntmps94
 go_wp2_with fail
 go_loopw [4] (fun i wr=>∃(k:Nat) (vv:Value),i= .int .i64 (k:Int)∧k≤L.length∧MtS w base c sent t ((L.take k).foldl ΩaM c.votes) vv wr) (fun i _=>L.length-(intOf i).toNat)
 case atStart=>exact⟨0,_,rfl,Ωoh _,H0.out⟩
 case round=>
  clear H0
  obtain⟨k,vv,rfl,hk,hK⟩:=hrel
  by_cases hlt:k<L.length
  ·obtain⟨x,hx⟩:∃x,L[k]? =some x:=⟨_,Ωnu hlt⟩
   have xo:=HOK.out x (ΩnE hx)
   obtain⟨V,eV⟩:∃V,V=(L.take k).foldl ΩaM c.votes:=⟨_,rfl⟩
   rw[←eV] at hK
   have hfold:(L.take (k+1)).foldl ΩaM c.votes=ΩaM V x:=by
    rw[ΩnO,hx,ΩnS,List.foldl_append,←eV];rfl
   obtain⟨n,en⟩:∃n,n=V.length:=⟨_,rfl⟩
   have hn2:n≤60000:=by
    have h1:=take_fold_len c.votes (L.take k)
    rw[←eV,←en,ΩnB] at h1
    omega
   have hv9:ΩH wr base vv V.length V:=hK.at_.votes
   obtain⟨vA,vcap,rfl,hvc1,hvc2⟩:=Ωt hv9
   clear hv9
   have c41:wr.cell? ⟨M,41,none⟩=some (.slice vA n vcap):=by rw[EM.out,en];exact Ωig hK.at_.blk HRT.out
   have ik:(k:Int)<(L.length:Int):=by omega
   have ik0:(0:Int)≤(k:Int):=by omega
   have d1:decide ((k:Int)<(L.length:Int))=true:=ΩnG ik
   have hvo:Ω4 V:=hK.at_.ok
   obtain⟨wo,rfl⟩:∃wo:World,wo=wr:=⟨_,rfl⟩
   have HK:=Θ hK
   have HX:=Θ hx
   have HXO:=Θ xo
   have HFO:=Θ hfold
   have EN:=Θ en
   have HVO:=Θ hvo
   clear hK hx xo eV hfold en hvo
   go_wp2_with fail
   go_loopw [5,6] (fun b j wi=>∃m:Nat,j= .int .i64 (m:Int)∧m≤n∧b= .bool ((V.take m).any (eqVt x))∧Only Ωa wo wi) (fun _ j _=>n-(intOf j).toNat)
   case atStart=>exact⟨0,rfl,Ωoh _,rfl,Only.refl _ _⟩
   case round=>
    obtain⟨m,rfl,hm,rfl,hO⟩:=hrel
    obtain⟨β,eβ⟩:∃β,β=(V.take m).any (eqVt x):=⟨_,rfl⟩
    rw[←eβ]
    have e41:wr.cell? ⟨M,41,none⟩=some (.slice vA n vcap):=hO.cell_some c41 (fun e=>e)
    have HB:=Θ eβ
    have HO:=Θ hO
    clear eβ hO
    by_cases hml:m<n
    ·obtain⟨y,hy⟩:∃y,V[m]? =some y:=⟨_,Ωnu (by rw[←EN.out];exact hml)⟩
     have yo:=HVO.out y (ΩnE hy)
     have him:(m:Int)<(n:Int):=by omega
     have him0:(0:Int)≤(m:Int):=by omega
     have hsl9:VtSl wo (.slice vA V.length vcap) V:=ΩH.sl HK.out.at_.votes HVO.out
     obtain⟨A',cap',hA',_,_,hr⟩:=hsl9.only HO.out
     clear hsl9
     obtain⟨g,o,hA2,hg,hry⟩:=hr m y hy
     simp only[Value.slice.injEq] at hA'
     obtain⟨rfl,-,rfl⟩:=hA'
     subst hA2
     obtain⟨A3,cap3,hA3,_,_,hr3⟩:=(HVS.out wo HK.out.step.1).only HO.out
     obtain⟨g3,o3,hA4,hg3,hrx⟩:=hr3 k x HX.out
     simp only[Value.slice.injEq] at hA3
     obtain⟨rfl,-,rfl⟩:=hA3
     subst hA4
     have hstep:(V.take (m+1)).any (eqVt x)=(β||eqVt x y):=by
      rw[ΩnO,hy,ΩnS,List.any_append,←HB.out]
      simp
     have r0:∀q,(Ωbm (.pointer (some ⟨g,o+m*36,none⟩))).run Tryz.prog (wr.drewN q)= .ok (.agg (vtC y).toArray) (wr.drewN q):=fun q=>ΩX (Ωu hry ((Only.refl _ _).drewN q)) yo.head.root
     have r1:∀q,(Ωbm (.pointer (some ⟨g3,o3+k*36,none⟩))).run Tryz.prog (wr.drewN q)= .ok (.agg (vtC x).toArray) (wr.drewN q):=fun q=>ΩX (Ωu hrx ((Only.refl _ _).drewN q)) HXO.out.head.root
     have q0:=fun W=>eql_vt y x yo.head.root HXO.out.head.root W
     have q1:∀a b W,(eqGuard .eql 43 a b (.agg (vtC y).toArray) (.agg (vtC x).toArray)).run Tryz.prog W= .ok () W:=fun a b W=>run_eqGuard_agg _ _ _ _ _ _ _ (by kernel_rfl)
     have HS:=Θ hstep
     have dm:decide ((m:Int)<(n:Int))=true:=ΩnG him
     cases he:eqVt y x with
     |false=>
      rw[he] at q0
      have hx9:eqVt x y=false:=by rw[Ωjv,he]
      have HX9:=Θ hx9
      clear hy yo hr hr3 hry hrx hstep he hx9
      go_upto_region 7 with(fail)
      go_quiet (fail)
      all_goals
       go_wp2_with fail
       go_roundw
       case rel=>exact⟨m+1,by go_num,by omega,by rw[HS.out,HX9.out,Bool.or_false],by first|exact HO.out.drewN _|exact HO.out.drew|exact HO.out⟩
       case measure=>simp[intOf];omega
     |true=>
      rw[he] at q0
      have hx9:eqVt x y=true:=by rw[Ωjv,he]
      have HX9:=Θ hx9
      clear hy yo hr hr3 hry hrx hstep he hx9
      go_upto_region 7 with(fail)
      go_quiet (fail)
      all_goals
       go_wp2_with fail
       go_roundw
       case rel=>exact⟨m+1,by go_num,by omega,by rw[HS.out,HX9.out,Bool.or_true],by first|exact HO.out.drewN _|exact HO.out.drew|exact HO.out⟩
       case measure=>simp[intOf];omega
    ·obtain rfl:m=n:=by omega
     have dm:decide ((m:Int)<(m:Int))=false:=Ωny (by omega)
     have him:¬(m:Int)<(m:Int):=by omega
     have hβ:β=hasB V x:=by rw[HB.out,EN.out,Ωok];rfl
     cases β with
     |true=>
      have hnew:ΩaM V x=V:=by unfold ΩaM;rw[ΩnV hβ.symm]
      have hfin:MtS w base c sent t ((L.take (k+1)).foldl ΩaM c.votes) (.slice vA V.length vcap) wr:=by rw[HFO.out,hnew];exact HK.out.keep HO.out
      have HF:=Θ hfin
      clear hnew hfin hβ
      go_wp2_with fail
      go_roundw
      case rel=>exact⟨k+1,_,by go_num,by omega,HF.out⟩
      case measure=>simp[intOf];omega
     |false=>
      have hnew:ΩaM V x=V++[x]:=by unfold ΩaM;rw[ΩnU (by rw[←hβ];exact Bool.false_ne_true)]
      have hKr:=HK.out.keep HO.out
      obtain⟨A3,cap3,hA3,_,_,hr3⟩:=HVS.out wr hKr.step.1
      obtain⟨g3,o3,hA4,hg3,hrx⟩:=hr3 k x HX.out
      simp only[Value.slice.injEq] at hA3
      obtain⟨rfl,-,rfl⟩:=hA3
      subst hA4
      have hld:=ΩX (Ωu hrx ((Only.refl Ωa wr).drew)) HXO.out.head.root
      have hbs:=Ωg9 x HXO.out.head.root
      have hoX:Only Ωa wr (wr.alloc (.cells (vtC x).toArray tVt)).drew :=((Only.refl _ _).alloc _).drew
      have hKX:=hKr.keep hoX
      have hsrc:ΩH (wr.alloc (.cells (vtC x).toArray tVt)).drew wr.heap.size (.slice (some ⟨wr.heap.size,0,none⟩) 1 1) 1 [x]:=Ωe (new_vote wr x HXO.out.head.root) ((Only.refl _ _).drew) (fun _ _ e=>e)
      obtain⟨rA,rc,W2,hr2,hp2,hg2,hat2⟩:=ΩdM (wr.alloc (.cells (vtC x).toArray tVt)).drew base wr.heap.size (.slice vA V.length vcap) (.slice (some ⟨wr.heap.size,0,none⟩) 1 1) V [x] (fun v hv=>by rw[Ωou.1 hv];exact HXO.out) hKX.at_.votes hsrc (by rw[←EN.out];simp;omega) (by have h1:=hKX.at_.foot_in (k:=c.M) (.inl rfl);have h2:base≤c.M:=h1.1;have h3:=h1.2;have h4:(c.took (.slice vA V.length vcap) V).M =c.M:=rfl;omega) 32
      rw[←EN.out,Ωlf] at hr2
      have e41x:((wr.alloc (.cells (vtC x).toArray tVt)).drew).cell? ⟨M,41,none⟩=some (.slice vA m vcap):=hoX.cell_some e41 (fun e=>e)
      have hb2:Blk W2 c.M tMd (mdC (c.took (.slice vA V.length vcap) V)).toArray :=Blk.grown hKX.at_.blk hg2 (fun e=>hKX.at_.ne_vv e.symm)
      have e2:W2.cell? ⟨M,41,none⟩=some (.slice vA m vcap):=by rw[EM.out,EN.out];exact Ωig hb2 HRT.out
      have f2:=hb2.frozen 41
      rw[←EM.out] at f2
      have hvok:Ω4 (V++[x]):=fun v hv=>by
       rcases ΩoH.1 hv with hv|hv
       ·exact HVO.out v hv
       ·rw[Ωou.1 hv];exact HXO.out
      have hfin:=mt_made hKX hvok hp2 hg2 hat2
      have hl2:(V++[x]).length =m+1:=by rw[ΩnA,←EN.out];rfl
      rw[hl2] at hr2 hfin
      rw[←hnew,←HFO.out,←EM.out] at hfin
      have HF:=Θ hfin
      clear hnew hKr hr3 hrx hKX hsrc hp2 hg2 hat2 hb2 hvok hfin hl2 hβ hoX
      go_upto_region 10 with(fail)
      go_region
      go_wp2_with fail
      go_roundw
      case rel=>exact⟨k+1,_,by go_num,by omega,HF.out⟩
      case measure=>simp[intOf];omega
  ·obtain rfl:k=L.length:=by omega
   have d1:decide ((L.length:Int)<(L.length:Int))=false:=Ωny (by omega)
   rw[Ωok,←ΩaW] at hK
   have HK:=Θ hK
   clear hK
   go_wp2_with fail
   go_end0
   exact⟨rfl,vv,HK.out⟩
end
section
open Go.RowKit Go.Shelf
attribute [local go_sem ↓ high] ΩG Ωaq ΩQ Ωd3
structure BrL(w:World)(B:Nat)(pv:Value)(P:List Pers)(L:List Vt)(k:Nat)(o:Option Hd)(W:World):Prop where
 s:Blk W B 50 #[pv,.int .i64 0,.slice none 0 0,.slice none 0 0,.int .i64 0,.int .i64 0]
 r:HdAt W (B+1) hd0
 b:HdAt W (B+1+1) (hdOr o)
 ok:(hdOr o).Ok
 best:Ωai (fun h=>h∈(L.take k).map (·.head)) (fun h=>Ωba P h L) o
 only:Only Ωa w W
theorem BrL.more{w:World}{B:Nat}{pv:Value}{P:List Pers}{L:List Vt}{k k' :Nat}{o o' :Option Hd}{W W' :World}(h:BrL w B pv P L k o W)(ho:Only Ωa W W')(hb:HdAt W' (B+1+1) (hdOr o'))(hk:(hdOr o').Ok)(hbest:Ωai (fun h=>h∈(L.take k').map (·.head)) (fun h=>Ωba P h L) o'):BrL w B pv P L k' o' W' :=
 ⟨h.s.only ho (fun e=>e),Blk.only h.r ho (fun e=>e),hb,hk,hbest,h.only.trans ho⟩
theorem BrL.put{w:World}{B:Nat}{pv:Value}{P:List Pers}{L:List Vt}{k k' :Nat}{o:Option Hd}{x:Hd}{W:World}(h:BrL w B pv P L k o W)(hwB:w.heap.size≤B)(hx:x.Ok)(hbest:Ωai (fun h=>h∈(L.take k').map (·.head)) (fun h=>Ωba P h L) (some x)):BrL w B pv P L k' (some x) (W.setCells (B+1+1) 0 (hdC x)):=
 ⟨h.s.farCells (by omega) _ 0,Blk.farCells (by omega) _ 0 h.r,Ωj h.b (by rw[ΩnJ,Ωo h.ok.root,Ωo hx.root]),hx,hbest,Ωb h.only (B+1+1) 0 (.inr (by omega)) _⟩
theorem Ωhu(P:List Pers)(hP:ΩS P)(hlen:P.length≤1000)(pv:Value)(L:List Vt)(hok:Ω4 L)(hL:L.length≤100000)(sv:Value)(w:World)(hp:Ωa6 w pv P)(hs:VtSl w sv L):
  Calls Tryz.prog 95 #[setV pv,sv] w fun e w' =>∃o,Ωai (fun h=>h∈L.map (·.head)) (fun h=>Ωba P h L) o∧e= .returned (.tuple #[.agg (hdC (hdOr o)).toArray,.bool o.isSome])∧Only Ωa w w' :=by
 have hct:∀(h:Hd) (ok:h.Ok) W,Only Ωa w W→Calls Tryz.prog 140 #[.agg #[pv,.int .i64 0,.slice none 0 0,.slice none 0 0,.int .i64 0,.int .i64 0],.agg (hdC h).toArray,sv] W fun e w' =>e= .returned (.bool (Ωba P h L))∧Only Ωa W w' :=fun h ok W ho=>rqcert_any P hP hlen pv h ok L hok hL sv W (hp.only ho) (hs.only ho)
 obtain⟨A,cap,rfl,hlc,hcm,hA⟩:=hs
 obtain⟨B,eB⟩:∃B,B=w.heap.size:=⟨_,rfl⟩
 obtain⟨X,eX⟩:∃X,X=((w.alloc (.cells #[pv,.int .i64 0,.slice none 0 0,.slice none 0 0,.int .i64 0,.int .i64 0] 50)).alloc (.cells hd0C 37)).alloc (.cells hd0C 37):=⟨_,rfl⟩
 have hS0:BrL w B pv P L 0 none X:=by
  have h2:=Blk.new (w.alloc (.cells #[pv,.int .i64 0,.slice none 0 0,.slice none 0 0,.int .i64 0,.int .i64 0] 50)) tHd hd0C
  have h3:=Blk.new ((w.alloc (.cells #[pv,.int .i64 0,.slice none 0 0,.slice none 0 0,.int .i64 0,.int .i64 0] 50)).alloc (.cells hd0C 37)) tHd hd0C
  rw[Ωnw,←eB] at h2
  rw[Ωnw,Ωnw,←eB] at h3
  rw[Ωim] at h2 h3
  rw[Ωim] at eX
  refine⟨by rw[eX,eB];exact((Blk.new w _ _).alloc _).alloc _,by rw[eX];exact h2.alloc _,by rw[eX];exact h3,⟨⟨by decide,by decide⟩,rfl⟩,fun h hh=>(by simp at hh),by rw[eX];exact(((Only.refl _ _).alloc _).alloc _).alloc _⟩
 have hwB:w.heap.size≤B:=by omega
 have HS0:=Θ hS0
 have HCT:=Θ hct
 have HA:=Θ hA
 have HOK:=Θ hok
 have EX:=Θ eX
 have EB:=Θ eB
 clear hS0 hct hA hok eX eB hp hP hlen
 unfold setV
 have hnw:=Ωal
 go_enter Tryz.func95,Tryz.ntmps95
 go_upto_region 2 with(fail)
 rw[←EB.out,←EX.out]
 clear EX EB
 go_wp2_with fail
 go_loopw [7,8,9,10] (fun fv i _ _ wr=>∃(k:Nat) (o:Option Hd),i= .int .i64 k∧k≤L.length∧fv= .bool o.isSome∧BrL w B pv P L k o wr) (fun _ i _ _ _=>L.length-(intOf i).toNat)
 case atStart=>exact⟨0,none,rfl,Ωoh _,rfl,HS0.out⟩
 case round=>
  obtain⟨k,o,rfl,hk,rfl,hS⟩:=hrel
  have HS:=Θ hS
  clear hS
  by_cases hlt:k<L.length
  ·obtain⟨v,hv⟩:∃v,L[k]? =some v:=⟨_,Ωnu hlt⟩
   obtain⟨g,og,hA',hg,hr⟩:=HA.out k v hv
   subst hA'
   have vo:=HOK.out v (ΩnE hv)
   have hl:=vo.head.root
   have ik:(k:Int)<(L.length:Int):=by omega
   have ik0:(0:Int)≤(k:Int):=by omega
   have hr0:=Ωu (Ω8 hr hl) HS.out.only
   obtain⟨h,eh⟩:∃h,h=v.head:=⟨_,rfl⟩
   have hko:h.Ok:=by rw[eh];exact vo.head
   rw[←eh] at hr0 hl
   have l1:=ΩC hr0 hl
   obtain⟨N,eN⟩:∃N,N=wr.heap.size:=⟨_,rfl⟩
   have hb0:Blk (wr.alloc (.cells hd0C 37)) N tHd hd0C:=by rw[eN];exact Blk.new wr _ _
   have hst:=Ωax hb0 rfl hl
   rw[eN] at hst
   have hb1:HdAt ((wr.alloc (.cells hd0C 37)).setCells N 0 (hdC h)) N h:=Ωj hb0 (by rw[Ωo hl];rfl)
   have hO7:Only Ωa wr ((wr.alloc (.cells hd0C 37)).setCells N 0 (hdC h)):=Ωb ((Only.refl _ _).alloc _) N 0 (.inr (by omega)) _
   have zS:BrL w B pv P L k o ((wr.alloc (.cells hd0C 37)).setCells N 0 (hdC h)):=HS.out.more hO7 (Blk.only HS.out.b hO7 (fun e=>e)) HS.out.ok HS.out.best
   have hDD:∀y,(y∈(L.take k).map (·.head)∨y=h)↔y∈(L.take (k+1)).map (·.head):=fun y=>by
    rw[ΩnO,hv,ΩnS,Ωow,ΩoH,eh]
    simp
   have hND:N≠B+1+1∧N≠B:=by have h1:=HS.out.b.lt;omega
   have hnw:=Ωal
   have ZS:=Θ zS
   have Z1:=Θ hb1
   have HDD:=Θ hDD
   have EN:=Θ eN
   have HKO:=Θ hko
   clear zS hb0 hb1 hDD eN hO7 hr hr0 hko eh vo hv HS
   go_upto_region 7 with(fail)
   rw[←EN.out]
   refine Ωf (fun Z=>BrL w B pv P L k o Z∧HdAt Z N h) ⟨ZS.out,Z1.out⟩ ?_
   rintro Z ⟨zs,zn⟩
   clear l1 hst hnw ZS Z1
   have n0:Z.cell? ⟨N,0,none⟩=some (.int .i64 h.size):=zn.cell 0
   have b0:Z.cell? ⟨B+1+1,0,none⟩=some (.int .i64 (hdOr o).size):=zs.b.cell 0
   have rn:=Ωet (ΩD (Ωd zn)) hl
   have rb:=Ωet (ΩD (Ωd zs.b)) zs.ok.root
   rw[ΩnR] at rn rb
   have hles:=rless_any h.root (hdOr o).root hl zs.ok.root Z
   obtain⟨c,ec⟩:∃c,c=Ωba P h L:=⟨_,rfl⟩
   have hcer:∀W,Only Ωa Z W→Calls Tryz.prog 140 #[.agg #[pv,.int .i64 0,.slice none 0 0,.slice none 0 0,.int .i64 0,.int .i64 0],.agg (hdC h).toArray,.slice (some ⟨g,og,none⟩) L.length cap] W fun e w' =>e= .returned (.bool c)∧Only Ωa W w' :=fun W ho=>by rw[ec];exact HCT.out h HKO.out W (zs.only.trans ho)
   have hld:∀W,Only Ωa Z W→(Ωa4 (.pointer (some ⟨N,0,none⟩))).run Tryz.prog W= .ok (.agg (hdC h).toArray) W:=fun W hZW=>ΩC (Ωd (Blk.only zn hZW (fun e=>e))) hl
   have hst:∀W,Only Ωa Z W→(ΩbJ (.pointer (some ⟨B+1+1,0,none⟩)) (.agg (hdC h).toArray)).run Tryz.prog W= .ok () (W.setCells (B+1+1) 0 (hdC h)):=fun W hZW=>Ωax (Blk.only zs.b hZW (fun e=>e)) (by rw[ΩnJ,Ωo zs.ok.root]) hl
   have hset:∀W,Only Ωa Z W→W.cell? ⟨B,0,none⟩=some pv∧W.cell? ⟨B,1,none⟩=some (.int .i64 0)∧W.cell? ⟨B,2,none⟩=some (.slice none 0 0)∧W.cell? ⟨B,3,none⟩=some (.slice none 0 0)∧W.cell? ⟨B,4,none⟩=some (.int .i64 0)∧W.cell? ⟨B,5,none⟩=some (.int .i64 0):=fun W hZW=>by
    have h:=zs.s.only hZW (fun e=>e)
    exact⟨h.cell 0,h.cell 1,h.cell 2,h.cell 3,h.cell 4,h.cell 5⟩
   have hno:∀W,Only Ωa Z W→(Ωd0 o h=false∨c=false)→BrL w B pv P L (k+1) o W:=fun W hZW ht=>by
    refine zs.more hZW (Blk.only zs.b hZW (fun e=>e)) zs.ok ?_
    cases hc:c with
    |false=>exact(zs.best.skip (x:=h) (by rw[←ec];exact hc)).congr HDD.out
    |true=>
     rcases ht with ht|ht
     ·have:=(zs.best.step (x:=h) (by rw[←ec];exact hc)).congr HDD.out
      rw[ht,ΩnU (by decide)] at this
      exact this
     ·rw[hc] at ht;cases ht
   have hyes:∀W,Only Ωa Z W→Ωd0 o h=true→c=true→BrL w B pv P L (k+1) (some h) (W.setCells (B+1+1) 0 (hdC h)):=fun W hZW ht hc=>by
    have:=(zs.best.step (x:=h) (by rw[←ec];exact hc)).congr HDD.out
    rw[ht,ΩnV rfl] at this
    exact(zs.more hZW (Blk.only zs.b hZW (fun e=>e)) zs.ok zs.best).put hwB HKO.out this
   have HLES:=Θ hles
   have HCER:=Θ hcer
   have HLD:=Θ hld
   have HST:=Θ hst
   have HSET:=Θ hset
   have HNO:=Θ hno
   have HYES:=Θ hyes
   clear hles hcer hld hst hset hno hyes zs zn ec HDD HKO
   cases o with
   |none=>
    have HTK:Hid (Ωd0 none h=true):=Θ rfl
    clear HLES
    obtain⟨s0,s1,s2,s3,s4,s5⟩:=HSET.out Z (Only.refl _ _)
    have hld:=HLD.out Z (Only.refl _ _)
    go_wp2_with fail
    refine(HCER.out Z (Only.refl _ _)).mono ?_
    rintro e8 w8 ⟨rfl,ho8⟩
    have HO8:=Θ (Only.trans (Only.refl _ _) ho8)
    clear s0 s1 s2 s3 s4 s5 hld ho8
    cases c with
    |true=>
     have hld:=HLD.out w8 HO8.out
     have hst:=HST.out w8 HO8.out
     have HNEW:=Θ (HYES.out w8 HO8.out HTK.out rfl)
     go_wp2_with fail
     go_roundw
     case rel=>exact⟨k+1,some h,by go_num,by omega,rfl,HNEW.out⟩
     case measure=>simp[intOf];omega
    |false=>
     have HNEW:=Θ (HNO.out w8 HO8.out (.inr rfl))
     go_wp2_with fail
     go_roundw
     case rel=>exact⟨k+1,none,by go_num,by omega,rfl,HNEW.out⟩
     case measure=>simp[intOf];omega
   |some c0=>
    have b1:Z.cell? ⟨B+1+1,0,none⟩=some (.int .i64 c0.size):=b0
    have rb1:(ΩfO (.pointer (some ⟨B+1+1,1,none⟩))).run Tryz.prog Z= .ok (hv c0.root) Z:=rb
    have HLES2:Hid (Calls Tryz.prog 139 #[hv h.root,hv c0.root] Z fun e w' =>e= .returned (.bool (ΩbI h.root c0.root))∧Only Ωa Z w'):=Θ HLES.out
    clear b0 rb HLES
    rcases Int.lt_trichotomy c0.size h.size with hlt2|heq|hgt
    ·have HTK:Hid (Ωd0 (some c0) h=true):=Θ (by unfold Ωd0 Ωed;simp[hlt2])
     have d1:decide (c0.size<h.size)=true:=ΩnG hlt2
     have d2:(h.size==c0.size)=false:=by simp;omega
     clear HLES2 hlt2
     obtain⟨s0,s1,s2,s3,s4,s5⟩:=HSET.out Z (Only.refl _ _)
     have hld:=HLD.out Z (Only.refl _ _)
     go_wp2_with fail
     refine(HCER.out Z (Only.refl _ _)).mono ?_
     rintro e8 w8 ⟨rfl,ho8⟩
     have HO8:=Θ (Only.trans (Only.refl _ _) ho8)
     clear s0 s1 s2 s3 s4 s5 hld ho8
     cases c with
     |true=>
      have hld:=HLD.out w8 HO8.out
      have hst:=HST.out w8 HO8.out
      have HNEW:=Θ (HYES.out w8 HO8.out HTK.out rfl)
      go_wp2_with fail
      go_roundw
      case rel=>exact⟨k+1,some h,by go_num,by omega,rfl,HNEW.out⟩
      case measure=>simp[intOf];omega
     |false=>
      have HNEW:=Θ (HNO.out w8 HO8.out (.inr rfl))
      go_wp2_with fail
      go_roundw
      case rel=>exact⟨k+1,some c0,by go_num,by omega,rfl,HNEW.out⟩
      case measure=>simp[intOf];omega
    ·have d1:decide (c0.size<h.size)=false:=Ωny (by omega)
     have d2:(h.size==c0.size)=true:=by simp[heq]
     have htk:Ωd0 (some c0) h=ΩbI h.root c0.root:=by unfold Ωd0 Ωed;simp[heq]
     obtain⟨β,hβ⟩:∃β,β=ΩbI h.root c0.root:=⟨_,rfl⟩
     rw[←hβ] at HLES2 htk
     have HTK:=Θ htk
     clear heq hβ htk
     go_wp2_with fail
     refine HLES2.out.mono ?_
     rintro e6 w6 ⟨rfl,ho6⟩
     have HO6:=Θ ho6
     clear ho6 HLES2
     cases β with
     |true=>
      obtain⟨s0,s1,s2,s3,s4,s5⟩:=HSET.out w6 HO6.out
      have hld:=HLD.out w6 HO6.out
      go_wp2_with fail
      refine(HCER.out w6 HO6.out).mono ?_
      rintro e8 w8 ⟨rfl,ho8⟩
      have HO8:=Θ (Only.trans HO6.out ho8)
      clear s0 s1 s2 s3 s4 s5 hld ho8
      cases c with
      |true=>
       have hld:=HLD.out w8 HO8.out
       have hst:=HST.out w8 HO8.out
       have HNEW:=Θ (HYES.out w8 HO8.out HTK.out rfl)
       go_wp2_with fail
       go_roundw
       case rel=>exact⟨k+1,some h,by go_num,by omega,rfl,HNEW.out⟩
       case measure=>simp[intOf];omega
      |false=>
       have HNEW:=Θ (HNO.out w8 HO8.out (.inr rfl))
       go_wp2_with fail
       go_roundw
       case rel=>exact⟨k+1,some c0,by go_num,by omega,rfl,HNEW.out⟩
       case measure=>simp[intOf];omega
     |false=>
      have HNEW:=Θ (HNO.out w6 HO6.out (.inl HTK.out))
      go_wp2_with fail
      go_roundw
      case rel=>exact⟨k+1,some c0,by go_num,by omega,rfl,HNEW.out⟩
      case measure=>simp[intOf];omega
    ·have HTK:Hid (Ωd0 (some c0) h=false):=Θ (by show(decide (c0.size<h.size)||decide (h.size=c0.size)&&ΩbI h.root c0.root)=false;rw[Ωny (show¬c0.size<h.size by omega),Ωny (show¬h.size=c0.size by omega)];rfl)
     have d1:decide (c0.size<h.size)=false:=Ωny (by omega)
     have d2:(h.size==c0.size)=false:=by simp;omega
     clear HLES2 hgt
     have HNEW:=Θ (HNO.out Z (Only.refl _ _) (.inl HTK.out))
     go_wp2_with fail
     go_roundw
     case rel=>exact⟨k+1,some c0,by go_num,by omega,rfl,HNEW.out⟩
     case measure=>simp[intOf];omega
  ·obtain rfl:k=L.length:=by omega
   have hfin:=HS.out.best
   rw[Ωok] at hfin
   have hld:=ΩC (Ωd HS.out.b) HS.out.ok.root
   have hst:=Ωax HS.out.r (by kernel_rfl) HS.out.ok.root
   have hb8:HdAt (wr.setCells (B+1) 0 (hdC (hdOr o))) (B+1) (hdOr o):=Ωj HS.out.r (by rw[Ωo HS.out.ok.root];rfl)
   have ho8:Only Ωa w (wr.setCells (B+1) 0 (hdC (hdOr o))):=Ωb HS.out.only (B+1) 0 (.inr (by omega)) _
   have HFIN:=Θ hfin
   have HB8:=Θ hb8
   have HO8:=Θ ho8
   have HKK:=Θ HS.out.ok.root
   clear hfin hb8 ho8
   go_wp2_with fail
   refine bodyPost_ret (v:= .tuple #[.agg (hdC (hdOr o)).toArray,.bool o.isSome]) (ΩjQ rfl rfl rfl HB8.out HKK.out) rfl ⟨o,HFIN.out,rfl,HO8.out⟩
end
section
open Go.RowKit Go.Shelf
attribute [local go_sem ↓ high] Ωcm
end
section
open Go.RowKit Go.Shelf
end
section
open Go.RowKit Go.Shelf
attribute [local go_sem ↓ high] Ωbh ΩG Ωaq ΩQ ΩaB
noncomputable def Ωbo(o:Option Hd)(old:Hd)(Q:List Hs):Hd:=if Ωat o old Q=0 then hdOr o else old
structure MuS(w:World)(base N:Nat)(c c9:Md)(sent:Bool)(t:ByteArray)(n:Hd)(W:World):Prop where
 at_:MdAt W base c9 sent t
 step:ΩU w W c c9
 hd:HdAt W N n
theorem MuS.keep{w:World}{base N:Nat}{c c9:Md}{sent:Bool}{t:ByteArray}{n:Hd}{W W' :World}(h:MuS w base N c c9 sent t n W)(ho:Only Ωa W W'):MuS w base N c c9 sent t n W' :=⟨h.at_.nn ho,h.step.trans (ΩU.nn ho),Blk.only h.hd ho (fun e=>e)⟩
def Md.rehead(c:Md)(x:Hd):Md:={c with head:=x}
theorem md_root{w:World}{c:Md}{g:Nat}(h:Blk w g tMd (mdC c).toArray)(_hl:c.head.root.length=32):w.rangeAt g 9 (c.head.root.map bv):=ΩD (Ωnd h)
theorem MdAt.rehead{W:World}{base:Nat}{c:Md}{sent:Bool}{t:ByteArray}(h:MdAt W base c sent t){x:Hd}(hx:x.Ok):MdAt (W.setCells c.M 8 (hdC x)) base (c.rehead x) sent t∧ΩU W (W.setCells c.M 8 (hdC x)) c (c.rehead x):=by
 have ho:Only (fun k=>k=c.M) W (W.setCells c.M 8 (hdC x)):=Ωb (S:=fun k=>k=c.M) (Only.refl _ _) c.M 8 (.inl rfl) _
 exact⟨h.recell (c' :=c.rehead x) ho (md_put_head h.blk h.hok.root x hx.root) rfl rfl rfl rfl rfl rfl rfl rfl hx,Ωfu (c' :=c.rehead x) ho rfl rfl rfl rfl⟩
theorem mTake_any(c:Md)(base:Nat){sent:Bool}{t:ByteArray}(hP:ΩS c.P)(hlen:c.P.length≤1000)(hsm:Ωah c.head)(L:List Vt)(hok:Ω4 L)(hsv:ΩcW L)(hL:L.length≤1000)(hn:c.votes.length≤50000)(sv:Value)(Q:List Hs)(hqok:HsOk Q)(hQ:Q.length≤100000)(qv:Value)(w:World)(h:MdAt w base c sent t)(hb:base≤w.heap.size)(hs:VtSl w sv L)(ha:Ωfz c sv)(hq:HaSl w qv Q)(hqa:Ωfz c qv):
  Calls Tryz.prog 56 #[.pointer (some ⟨c.M,0,none⟩),sv,qv] w fun e w' =>∃o,ΩbH c.P L o∧e= .returned (.int .i64 (Ωat o c.head Q))∧∃vv,MdAt w' base ((c.took vv (ΩA c.votes L)).rehead (Ωbo o c.head Q)) sent t∧ΩU w w' c ((c.took vv (ΩA c.votes L)).rehead (Ωbo o c.head Q)):=by
 have htk:=Ωjd c base L hok hL hn sv w h hb hs ha
 obtain⟨qA,qcap,rfl,_,_,_⟩:=id hq
 obtain⟨sA,scap,rfl,_,_,_⟩:=id hs
 have HTK:=Θ htk
 have HOK:=Θ hok
 have HSV:=Θ hsv
 have HS:=Θ (And.intro hs ha)
 have HQ:=Θ (And.intro hq hqa)
 have HQOK:=Θ hqok
 have HPO:=Θ hP
 obtain⟨old,eold⟩:∃old,old=c.head:=⟨_,rfl⟩
 have HSM:Hid (Ωah old):=Θ (by rw[eold];exact hsm)
 have HKR:Hid (old.root.length=32):=Θ (by rw[eold];exact h.hok.root)
 rw[←eold]
 have EO:=Θ eold
 clear htk hok hsv hq hqa hqok hsm h hs ha hP eold
 have hnw:=Ωal
 obtain⟨M,eM⟩:∃M,M=c.M:=⟨_,rfl⟩
 have EM:=Θ eM
 rw[←eM] at HTK⊢
 clear eM
 go_enter Tryz.func56,Tryz.ntmps56
 go_wp2_with fail
 refine HTK.out.mono ?_
 rintro e5 w5 ⟨rfl,vv,hT5⟩
 obtain⟨c9,ec9⟩:∃c9:Md,c9=c.took vv (ΩA c.votes L):=⟨_,rfl⟩
 have h9:MdAt w5 base c9 sent t∧ΩU w w5 c c9:=by rw[ec9];exact⟨hT5.at_,hT5.step⟩
 have hM9:c9.M=M:=by rw[ec9,EM.out];rfl
 have hp9:c9.pv=c.pv∧c9.P=c.P∧c9.head=old:=by rw[ec9,EO.out];exact⟨rfl,rfl,rfl⟩
 have hbs:Calls Tryz.prog 95 #[setV c9.pv,.slice sA L.length scap] w5 fun e w' =>∃o,ΩbH c.P L o∧e= .returned (.tuple #[.agg (hdC (hdOr o)).toArray,.bool o.isSome])∧Only Ωa w5 w' :=by
  have hpo:=h9.1.pers
  rw[hp9.2.1] at hpo
  exact Ωhu c.P HPO.out hlen c9.pv L HOK.out (by omega) _ w5 (ΩT.sl hpo) (HS.out.1.step h9.2.1 (fun a n cap e=>HS.out.2 a n cap e))
 have hsl:=ΩcH (pv:=c9.pv) (ΩfQ h9.1.blk)
 rw[hM9] at hsl
 have HBS:=Θ hbs
 have H9:=Θ h9
 have HM9:=Θ hM9
 have HH9:=Θ hp9.2.2
 have EC9:=Θ ec9
 clear hT5 ec9 h9 hM9 hp9 hbs HTK
 go_wp2_with fail
 refine HBS.out.mono ?_
 rintro e6 w6 ⟨o,hbo,rfl,ho6⟩
 have hho:=Ωhb HOK.out hbo
 have hhs:=ΩbY HSV.out hbo
 obtain⟨n,en⟩:∃n,n=hdOr o:=⟨_,rfl⟩
 rw[←en] at hho hhs⊢
 have hnl:=hho.root
 have hst:=Ωa9 w6 hnl
 have ho7:Only Ωa w6 ((w6.alloc (.cells hd0C 37)).setCells w6.heap.size 0 (hdC n)):=Ωb ((Only.refl _ _).alloc _) w6.heap.size 0 (.inr (Ωnv _)) _
 have ha7:HdAt ((w6.alloc (.cells hd0C 37)).setCells w6.heap.size 0 (hdC n)) w6.heap.size n:=Ωj (Blk.new w6 _ _) (by rw[Ωo hnl];rfl)
 obtain⟨N,eN⟩:∃N,N=w6.heap.size:=⟨_,rfl⟩
 rw[←eN] at ho7 ha7
 have H7:Hid (MuS w base N c c9 sent t n ((w6.alloc (.cells hd0C 37)).setCells N 0 (hdC n))):=Θ ⟨H9.out.1.nn (ho6.trans ho7),H9.out.2.trans (ΩU.nn (ho6.trans ho7)),ha7⟩
 have EN:=Θ eN
 have EHN:=Θ en
 have HBO:Hid (ΩbH c.P L o):=Θ hbo
 have HHO:=Θ hho
 have HHS:=Θ hhs
 clear ho6 ho7 ha7 eN en hbo hho hhs H9 HBS hsl
 go_upto_region 3 with(fail)
 rw[←EN.out]
 refine Ωf (MuS w base N c c9 sent t n) H7.out ?_
 clear H7 EN hst hnw
 intro Z hZ
 obtain⟨s1,es1,hs1⟩:=HHS.out
 obtain⟨s2,es2,hs2⟩:=HSM.out
 have HFIN:Hid (∀W,MuS w base N c c9 sent t n W→Ωat o old Q≠0→∃vv,MdAt W base ((c.took vv (ΩA c.votes L)).rehead (Ωbo o old Q)) sent t∧ΩU w W c ((c.took vv (ΩA c.votes L)).rehead (Ωbo o old Q))):=Θ (fun W hW hr=>⟨vv,by
  have e:(c.took vv (ΩA c.votes L)).rehead (Ωbo o old Q)=c9:=by unfold Ωbo;rw[ΩnU hr,EC9.out,EO.out];rfl
  rw[e]
  exact⟨hW.at_,hW.step⟩⟩)
 have HSAME:Hid (∀W,MuS w base N c c9 sent t n W→n=old→Ωat o old Q=0→∃vv,MdAt W base ((c.took vv (ΩA c.votes L)).rehead (Ωbo o old Q)) sent t∧ΩU w W c ((c.took vv (ΩA c.votes L)).rehead (Ωbo o old Q))):=Θ (fun W hW hr hz=>⟨vv,by
  have e:(c.took vv (ΩA c.votes L)).rehead (Ωbo o old Q)=c9:=by unfold Ωbo;rw[ΩnV hz,←EHN.out,hr,EC9.out,EO.out];rfl
  rw[e]
  exact⟨hW.at_,hW.step⟩⟩)
 have HSET:Hid (∀W,MuS w base N c c9 sent t n W→Ωat o old Q=0→(ΩbJ (.pointer (some ⟨M,8,none⟩)) (.agg (hdC n).toArray)).run Tryz.prog W= .ok () (W.setCells M 8 (hdC n))∧∃vv,MdAt (W.setCells M 8 (hdC n)) base ((c.took vv (ΩA c.votes L)).rehead (Ωbo o old Q)) sent t∧ΩU w (W.setCells M 8 (hdC n)) c ((c.took vv (ΩA c.votes L)).rehead (Ωbo o old Q))):=Θ (fun W hW hr=>by
  have h1:=md_store_head (c:=c9) hW.at_.blk hW.at_.hok.root HHO.out.root
  have h2:=hW.at_.rehead HHO.out
  rw[HM9.out] at h1 h2
  refine⟨h1,vv,?_⟩
  have e:(c.took vv (ΩA c.votes L)).rehead (Ωbo o old Q)=c9.rehead n:=by unfold Ωbo;rw[ΩnV hr,EC9.out,EHN.out]
  rw[e]
  exact⟨h2.1,hW.step.trans h2.2⟩)
 have HCG:Hid (s2<s1→∀W,MuS w base N c c9 sent t n W→Calls Tryz.prog 96 #[.agg (hdC old).toArray,.agg (hdC n).toArray,.slice qA Q.length qcap] W fun e w' =>e= .returned (.bool (ckL s2 s1 old.root n.root Q))∧Only Ωa W w'):=Θ (fun hlt W hW=>rcheckgrowth_any old n s2 s1 es2 es1 hlt hs1 HKR.out HHO.out.root Q HQOK.out hQ _ W (HQ.out.1.step hW.step.1 (fun a n cap e=>HQ.out.2 a n cap e)))
 have HCELL:Hid (∀W,MuS w base N c c9 sent t n W→W.cell? ⟨N,0,none⟩=some (.int .i64 (s1:Int))∧W.cell? ⟨M,8,none⟩=some (.int .i64 (s2:Int))∧(ΩL (.pointer (some ⟨N,1,none⟩))).run Tryz.prog W= .ok (hv n.root) W∧(ΩL (.pointer (some ⟨M,9,none⟩))).run Tryz.prog W= .ok (hv old.root) W∧(Ωa4 (.pointer (some ⟨N,0,none⟩))).run Tryz.prog W= .ok (.agg (hdC n).toArray) W∧(Ωa4 (.pointer (some ⟨M,8,none⟩))).run Tryz.prog W= .ok (.agg (hdC old).toArray) W):=Θ (fun W hW=>by
  have hrl:=hW.at_.hok.root
  have b:=hW.at_.blk
  rw[HM9.out] at b
  refine⟨by rw[←es1];exact Blk.cell hW.hd 0,?_,Ωp (ΩD (Ωd hW.hd)) HHO.out.root,?_,ΩC (Ωd hW.hd) HHO.out.root,?_⟩
  ·have h1:=md_size b
   rw[HH9.out,es2] at h1
   exact h1
  ·have h1:=Ωp (md_root b hrl) hrl
   rw[HH9.out] at h1
   exact h1
  ·have h1:=ΩC (Ωnd b) hrl
   rw[HH9.out] at h1
   exact h1)
 have HZ:=Θ hZ
 clear hZ
 cases o with
 |none=>
  go_wp2_with fail
  go_ret
  exact⟨none,HBO.out,rfl,HFIN.out _ HZ.out (by show(24:Int)≠0;decide)⟩
 |some m=>
  have hm:n=m:=EHN.out
  have hres:Ωat (some m) old Q=if(s1:Int)<(s2:Int) then 32 else if(s1:Int)=(s2:Int) then(if n.root=old.root then 0 else 44) else if ckL s2 s1 old.root n.root Q=true then 0 else 41:=by
   rw[←hm]
   unfold Ωat
   simp only[es1,es2,Ωoj]
  have HRES:=Θ hres
  clear hm hres
  obtain⟨z1,z2,-,-,-,-⟩:=HCELL.out Z HZ.out
  by_cases g1:s1<s2
  ·have d1:decide ((s1:Int)<(s2:Int))=true:=ΩnG (by omega)
   have hr:Ωat (some m) old Q=32:=by rw[HRES.out,ΩnV (by omega)]
   have HR:=Θ hr
   clear hr
   go_upto_region 5 with(fail)
   go_quiet (fail)
   go_wp2_with fail
   go_ret
   exact⟨some m,HBO.out,ΩB HR.out.symm,HFIN.out _ (HZ.out.keep ((Only.refl _ _).drewN _)) (by rw[HR.out];decide)⟩
  ·have d1:decide ((s1:Int)<(s2:Int))=false:=Ωny (by omega)
   have i1:¬(s1:Int)<(s2:Int):=by omega
   go_upto_region 5 with(fail)
   go_quiet (fail)
   go_upto_region 7 with(fail)
   refine Ωf (MuS w base N c c9 sent t n) (HZ.out.keep ((Only.refl _ _).drewN _)) ?_
   clear z1 z2 HZ d1
   intro Z2 hZ2
   obtain⟨z1,z2,l1,l2,l3,l4⟩:=HCELL.out Z2 hZ2
   have HZ:=Θ hZ2
   clear hZ2
   by_cases g2:s1=s2
   ·have d2:((s1:Int)==(s2:Int))=true:=by simp[g2]
    clear l1 l2 l3 l4
    go_quiet (fail)
    go_upto_region 8 with(fail)
    refine Ωf (MuS w base N c c9 sent t n) (HZ.out.keep ((Only.refl _ _).drewN _)) ?_
    clear z1 z2 HZ d2
    intro Z3 hZ3
    have q1:=fun W=>Ωjb n.root old.root HHO.out.root HKR.out W
    have q2:∀x y W,(eqGuard .neq 35 x y (hv n.root) (hv old.root)).run Tryz.prog W= .ok () W:=fun x y W=>run_eqGuard_agg _ _ _ _ _ _ _ (by kernel_rfl)
    have l1:∀q,(ΩL (.pointer (some ⟨N,1,none⟩))).run Tryz.prog (Z3.drewN q)= .ok (hv n.root) (Z3.drewN q):=fun q=>(HCELL.out _ (hZ3.keep ((Only.refl _ _).drewN q))).2.2.1
    have l2:∀q,(ΩL (.pointer (some ⟨M,9,none⟩))).run Tryz.prog (Z3.drewN q)= .ok (hv old.root) (Z3.drewN q):=fun q=>(HCELL.out _ (hZ3.keep ((Only.refl _ _).drewN q))).2.2.2.1
    have HZ:=Θ hZ3
    clear hZ3
    cases hβ:(n.root==old.root) with
    |true=>
     have hr:Ωat (some m) old Q=0:=by rw[HRES.out,ΩnU (by omega),ΩnV (by omega),ΩnV (beq_iff_eq.1 hβ)]
     have hno:n=old:=by
      have e1:n.size=old.size:=by rw[es1,es2,g2]
      have e2:n.root=old.root:=beq_iff_eq.1 hβ
      cases n
      cases old
      simp only at e1 e2
      rw[e1,e2]
     rw[hβ] at q1
     have HR:=Θ hr
     have HNO:=Θ hno
     clear hr hno g1 g2 hβ
     go_quiet (fail)
     go_wp2_with fail
     go_ret
     exact⟨some m,HBO.out,ΩB HR.out.symm,HSAME.out _ (HZ.out.keep ((Only.refl _ _).drewN _)) HNO.out HR.out⟩
    |false=>
     have hr:Ωat (some m) old Q=44:=by rw[HRES.out,ΩnU (by omega),ΩnV (by omega),ΩnU (ΩnL.1 hβ)]
     rw[hβ] at q1
     have HR:=Θ hr
     clear hr g1 g2 hβ
     go_quiet (fail)
     go_wp2_with fail
     go_ret
     exact⟨some m,HBO.out,ΩB HR.out.symm,HFIN.out _ (HZ.out.keep ((Only.refl _ _).drewN _)) (by rw[HR.out];decide)⟩
   ·have d2:((s1:Int)==(s2:Int))=false:=by rw[ΩnL];omega
    have d3:s2<s1:=by omega
    clear l1 l2 l3 l4
    go_quiet (fail)
    go_upto_region 11 with(fail)
    refine Ωf (MuS w base N c c9 sent t n) (HZ.out.keep ((Only.refl _ _).drewN _)) ?_
    clear z1 z2 HZ d2
    intro Z3 hZ3
    have hcg:=HCG.out d3
    obtain⟨β,eβ⟩:∃β,β=ckL s2 s1 old.root n.root Q:=⟨_,rfl⟩
    rw[←eβ] at hcg
    have hr0:Ωat (some m) old Q=if β=true then 0 else 41:=by rw[HRES.out,ΩnU (by omega),ΩnU (by omega),eβ]
    have HC:=Θ hcg
    have HR0:=Θ hr0
    have hZ4:=hZ3.keep (Only.refl _ _).drew
    have l3:∀W,MuS w base N c c9 sent t n W→(Ωa4 (.pointer (some ⟨N,0,none⟩))).run Tryz.prog W= .ok (.agg (hdC n).toArray) W:=fun W h=>(HCELL.out _ h).2.2.2.2.1
    have l4:∀W,MuS w base N c c9 sent t n W→(Ωa4 (.pointer (some ⟨M,8,none⟩))).run Tryz.prog W= .ok (.agg (hdC old).toArray) W:=fun W h=>(HCELL.out _ h).2.2.2.2.2
    clear hcg hr0 eβ g1 g2 d3
    go_region_held3 (fun W=>MuS w base N c c9 sent t n W) (first|(with_reducible assumption))
     (first
      |(go_at_call 96;(with_reducible refine(HC.out _ (by with_reducible assumption)).mono ?_);rintro e3 w3 ⟨rfl,ho3⟩;have hS3:=MuS.keep (by with_reducible assumption) ho3;clear ho3))
    all_goals
     have HS3:=Θ hS3
     clear hS3 l3 l4 hZ3 hZ4
     cases β with
     |true=>
      have hr:Ωat (some m) old Q=0:=by rw[HR0.out];rfl
      have hss:=HSET.out _ HS3.out hr
      have hst:=hss.1
      have l5:=(HCELL.out _ HS3.out).2.2.2.2.1
      have HSS:=Θ hss.2
      have HR:=Θ hr
      clear hr hss
      go_wp2_with fail
      go_ret
      exact⟨some m,HBO.out,ΩB HR.out.symm,HSS.out⟩
     |false=>
      have hr:Ωat (some m) old Q=41:=by rw[HR0.out];rfl
      have HR:=Θ hr
      clear hr
      go_wp2_with fail
      go_ret
      exact⟨some m,HBO.out,ΩB HR.out.symm,HFIN.out _ HS3.out (by rw[HR.out];decide)⟩
end
end Go.Proofs.YtgalfohobgjelaaGreatDoor
