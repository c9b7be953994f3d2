/- What is proved here:several parts. several parts. events are signed,by the program and by the reference. Conditions:names and texts are short;the table of powers of ten reads as its initialiser lays it. · signatures of events are verified,by the program and by the reference. Conditions:name and text are short;the table of powers of ten reads as its initialiser lays it. · the worlds,bids and lists of events that the client's laws make from numbers,in plain Lean;no program in sight. No conditions. · the writer of bids,a struct about a builder of strings:it takes strings and bytes,and tells what it holds. Condition:what it holds is shorter than 2^47 bytes. · a string's text in hexadecimal,by the bids' code. Condition:the string is short. · the writer of bids writes a line:a word and ints. Conditions:the texts are short,the ints lie apart from the writer's blocks. -/
import Derived.Test.YtgalfohobgjelaaGreatDoorFr04
import Derived.Test.YtgalfohobgjelaaGreatDoorFr08
import Derived.Test.YtgalfohobgjelaaGreatDoorFr09
import Derived.Test.YtgalfohobgjelaaGreatDoorFr16
import Derived.Test.YtgalfohobgjelaaGreatDoorFr17
import Derived.Test.YtgalfohobgjelaaGreatDoorFr19
import Derived.Test.YtgalfohobgjelaaGreatDoorFr24
import Derived.BigRegion
import Derived.Lib.UnsafeStr
namespace Go.Proofs.YtgalfohobgjelaaGreatDoor
open Go.RowKit Go.Shelf
attribute [local go_sem ↓ high] evStore_eq evLoad_eq
noncomputable def signE (x:Int) (e:Ev):Ev:= { e with r:=(gp (nonce (expo x) (evText e)):Int),s:=(sigS x (evText e) (nonce (expo x) (evText e)):Int)}
theorem signE_ok {e:Ev} (h:e.Ok) (x:Int):(signE x e).Ok:=by
 have h1:=pw_lt 4 (nonce (expo x) (evText e))
 have h2:=sigS_lt x (evText e) (nonce (expo x) (evText e))
 rw [P0_val] at h1
 rw [Q0_val] at h2
 refine⟨h.seq,h.kind,h.who,h.time,h.bidder,h.lot,h.n,h.other,h.sx,h.sy,h.prev,⟨?_,?_⟩,⟨?_,?_⟩⟩
 ·show _≤(gp _:Int);omega
 ·show(gp _:Int)≤_;unfold gp;omega
 ·show _≤(sigS _ _ _:Int);omega
 ·show(sigS _ _ _:Int)≤_;omega
theorem text_len {e:Ev} (he:e.Ok) (hn:e.name.size≤4398046511104) (hx:e.text.size≤4398046511104):(evText e).length≤17592186044416:=by
 have l1:=numsL_len e.nums he.nums_in
 have l2:=hexL_len e.prev
 have l3:=quoL_len e.name.data.toList (by rw [←size_list];omega)
 have l4:=quoL_len e.text.data.toList (by rw [←size_list];omega)
 rw [←size_list] at l3 l4
 rw [he.prev] at l2
 have l5:e.nums.length=10:=rfl
 unfold evText
 simp only [List.length_append,List.length_cons,List.length_nil]
 omega
set_option maxRecDepth 100000 in
set_option maxHeartbeats 4000000 in
theorem rsignE_any (x:Int) (e:Ev) (he:e.Ok) (hn:e.name.size≤4398046511104) (hx:e.text.size≤4398046511104) (w:World):Calls Tryz.prog 38 #[.int .i64 x,.agg (evC e).toArray] w fun e' w'=>e'= .returned (.agg (evC (signE x e)).toArray)∧Only NoneOf w w':=by
 have hlen:=text_len he hn hx
 have htx:∀W,Only NoneOf w W→Calls Tryz.prog 67 #[.agg (evC e).toArray] W (RetStr (evText e) W):=fun W ho=>revtext_any e he (by omega) (by omega) W
 have hsg:∀(t:ByteArray) W,t.data.toList=evText e→Calls Tryz.prog 70 #[.int .i64 x,.string t] W fun e' w'=>e'= .returned (.agg #[.int .i64 (signE x e).r,.int .i64 (signE x e).s])∧Only NoneOf W w':=fun t W h=>by
  have h1:=rsign_any x t W (by rw [size_list,h];exact hlen)
  rw [h] at h1
  exact h1
 obtain⟨B,eB⟩:∃B,B=w.heap.size:=⟨_,rfl⟩
 have hat:EvAt ((w.alloc (.cells (evC e).toArray tEv)).alloc (.cells (evC blank0).toArray tEv)) B e∧EvAt ((w.alloc (.cells (evC e).toArray tEv)).alloc (.cells (evC blank0).toArray tEv)) (B+1) blank0∧Only NoneOf w ((w.alloc (.cells (evC e).toArray tEv)).alloc (.cells (evC blank0).toArray tEv)):=by
  have h1:=Blk.new (w.alloc (.cells (evC e).toArray tEv)) tEv (evC blank0).toArray
  rw [World.size_alloc,←eB] at h1
  exact⟨by rw [eB];exact(Blk.new w _ _).alloc _,h1,((Only.refl _ _).alloc _).alloc _⟩
 obtain⟨f,ef⟩:∃f,f=signE x e:=⟨_,rfl⟩
 have hf:f.Ok:=by rw [ef];exact signE_ok he x
 have hfe:({ ({ e with r:=f.r}:Ev) with s:=f.s}:Ev)=f:=by rw [ef];rfl
 rw [←ef] at hsg⊢
 have hwB:w.heap.size≤B:=by omega
 have HAT:=Lib.hid hat
 have HTX:=Lib.hid htx
 have HSG:=Lib.hid hsg
 have HF:=Lib.hid hf
 have HFE:=Lib.hid hfe
 have HP:=Lib.hid he.prev
 have HEB:=Lib.hid eB
 clear hat htx hsg he hn hx hlen hf hfe ef eB
 go_enter Tryz.func38,Tryz.ntmps38
 go_upto_region 1 with(fail)
 rw [←HEB.out]
 refine wp_gen (fun Z=>EvAt Z B e∧EvAt Z (B+1) blank0∧Only NoneOf w Z) HAT.out ?_
 rintro Z ⟨hE,hZ,hO⟩
 have hl:=ev_load hE HP.out
 have HE:=Lib.hid hE
 have HZ:=Lib.hid hZ
 have HO:=Lib.hid hO
 clear hE hZ hO HAT
 go_wp2_with fail
 refine(HTX.out Z HO.out).mono ?_
 rintro e1 w1 ⟨t,rfl,ht,ho1⟩
 have HS1:=Lib.hid (fun W=>HSG.out t W ht)
 have HO1:=Lib.hid ho1
 clear hl ho1 ht HTX HSG
 go_wp2_with fail
 refine(HS1.out w1).mono ?_
 rintro e2 w2 ⟨rfl,ho2⟩
 have hE2:=(HE.out.only HO1.out (fun e=>e)).only ho2 (fun e=>e)
 have hZ2:=(HZ.out.only HO1.out (fun e=>e)).only ho2 (fun e=>e)
 have hO2:=(HO.out.trans HO1.out).trans ho2
 have c44:=(ev_sig hE2 HP.out).1
 have c45:=(ev_sig hE2 HP.out).2
 have f44:=Blk.frozen hE2 44
 have hE3:EvAt (w2.setCell ⟨B,44,none⟩ (.int .i64 f.r)) B { e with r:=f.r}:=ev_set hE2 (set_sig e HP.out _).1
 have f45:=Blk.frozen hE3 45
 have hE4:EvAt ((w2.setCell ⟨B,44,none⟩ (.int .i64 f.r)).setCell ⟨B,45,none⟩ (.int .i64 f.s)) B f:=by
  have h1:=ev_set hE3 (set_sig { e with r:=f.r} HP.out f.s).2
  rw [HFE.out] at h1
  exact h1
 have hZ4:=Blk.far (p:=⟨B,45,none⟩) (Blk.far (p:=⟨B,44,none⟩) hZ2 (show B+1≠B by omega) (.int .i64 f.r)) (show B+1≠B by omega) (.int .i64 f.s)
 have hO4:=(hO2.setCell (p:=⟨B,44,none⟩) (.inr hwB) (.int .i64 f.r)).setCell (p:=⟨B,45,none⟩) (.inr hwB) (.int .i64 f.s)
 have HE4:=Lib.hid hE4
 have HZ4:=Lib.hid hZ4
 have HO4:=Lib.hid hO4
 clear hE2 hZ2 hO2 hE3 hE4 hZ4 hO4 HE HZ HO HO1 ho2 HFE
 go_upto_region 2 with(fail)
 refine wp_gen (fun Z=>EvAt Z B f∧EvAt Z (B+1) blank0∧Only NoneOf w Z) ⟨HE4.out,HZ4.out,HO4.out⟩ ?_
 rintro Z4 ⟨hE5,hZ5,hO5⟩
 have hl5:=ev_load hE5 HF.out.prev
 have hst:=ev_store (cs:=evC blank0) hZ5 rfl (e:=f) HF.out.prev
 have HZ6:=Lib.hid (setCells_own hZ5 (ds:=evC f) (by rw [evC_len HF.out.prev];rfl))
 have HO6:=Lib.hid (only_setCells hO5 (B+1) 0 (.inr (by omega)) (evC f))
 have hinf:(Tryz.prog.info? 79).map (·.size)=some (evC f).toArray.size:=by rw [List.size_toArray,evC_len HF.out.prev];kernel_rfl
 have HINF:=Lib.hid hinf
 clear c44 c45 f44 f45 hE5 hZ5 hO5 HE4 HZ4 HO4 hinf
 go_wp2_with fail
 refine bodyPost_ret (v:= .agg (evC f).toArray) (results_blk rfl rfl HZ6.out Tryz.underlying79 rfl HINF.out) rfl ⟨rfl,HO6.out⟩
end Go.Proofs.YtgalfohobgjelaaGreatDoor
namespace Go.Proofs.YtgalfohobgjelaaGreatDoor
open Go.RowKit Go.Shelf
attribute [local go_sem ↓ high] evStore_eq evLoad_eq
def idxN (who:Int):Nat→List Pers→Option Nat
 |_, []=>none
 |k,p::l=>if p.id=who then some k else idxN who (k+1) l
def idxV:Option Nat→Int
 |some k=> (k:Int)
 |none=> -1
noncomputable def verL (P:List Pers) (e:Ev):Int:=
 match P with
 | []=>35
 |p::l=>if p.id=e.who then(if goodB p.pub (evText e) e.r e.s=true then 0 else 21) else verL l e
theorem verL_none (e:Ev):∀(P:List Pers) (k:Nat),idxN e.who k P=none→verL P e=35
 | [],_,_=>rfl
 |p::l,k,h=>by
  unfold idxN at h
  by_cases hp:p.id=e.who
  ·rw [if_pos hp] at h;cases h
  ·rw [if_neg hp] at h
   rw [verL,if_neg hp]
   exact verL_none e l (k+1) h
theorem verL_some (e:Ev):∀(P:List Pers) (k j:Nat),idxN e.who k P=some j→k≤j∧∃p,P[j - k]? =some p∧p.id=e.who∧verL P e=if goodB p.pub (evText e) e.r e.s=true then 0 else 21
 | [],_,_,h=>by cases h
 |p::l,k,j,h=>by
  unfold idxN at h
  by_cases hp:p.id=e.who
  ·rw [if_pos hp,Option.some.injEq] at h
   subst h
   exact⟨Nat.le_refl _,p,by rw [Nat.sub_self];rfl,hp,by rw [verL,if_pos hp]⟩
  ·rw [if_neg hp] at h
   obtain⟨h1,q,h2,h3,h4⟩:=verL_some e l (k+1) j h
   refine⟨by omega,q,?_,h3,?_⟩
   ·rw [show j - k=(j - (k+1)) +1 by omega];exact h2
   ·rw [verL,if_neg hp];exact h4
set_option maxRecDepth 100000 in
theorem same_who (p:Pers) (B:Nat) (e:Ev) (w:World) (hE:EvAt w B e):Calls Tryz.prog 102 #[.agg #[.int .i64 p.id,.int .i64 p.role,.int .i64 p.pub],.pointer (some ⟨B,0,none⟩)] w fun e' w'=>e'= .returned (.bool (p.id==e.who))∧Only NoneOf w w':=by
 have hlt:=hE.lt
 have h2:(w.alloc (.cells #[.int .i64 p.id,.int .i64 p.role,.int .i64 p.pub] 67)).cell? ⟨B,2,none⟩=some (.int .i64 e.who):=ev_cell (Blk.alloc hE _) 2
 have HLT:=Lib.hid hlt
 clear hE hlt
 go_enter Tryz.func102,Tryz.ntmps102
 go_wp2_with fail
 go_ret
 exact⟨rfl,(Only.refl _ _).alloc _⟩
set_option maxRecDepth 100000 in
set_option maxHeartbeats 1000000 in
theorem index_any (P:List Pers) (e:Ev) (B:Nat) (pv:Value) (w:World) (hp:PerSl w pv P) (he:EvAt w B e):Calls Tryz.prog 101 #[pv,.func (.func 102) #[] #[.pointer (some ⟨B,0,none⟩)]] w fun e' w'=>e'= .returned (.int .i64 (idxV (idxN e.who 0 P)))∧Only NoneOf w w':=by
 obtain⟨A,cap,rfl,hlc,hcm,hA⟩:=hp
 have HA:=Lib.hid hA
 have HE:=Lib.hid he
 clear hA he
 go_enter Tryz.func101,Tryz.ntmps101
 go_wp2_with fail
 go_loopw [8] (fun i wr=> ∃k:Nat,i= .int .i64 k∧k≤P.length∧idxN e.who 0 P=idxN e.who k (P.drop k)∧Only NoneOf w wr) (fun i _=>P.length - (intOf i).toNat)
 case atStart=>exact⟨0,rfl,by omega,rfl,Only.refl _ _⟩
 case round=>
  obtain⟨k,rfl,hk,hst,ho⟩:=hrel
  by_cases hlt:k<P.length
  ·obtain⟨p,hp⟩:∃p,P[k]? =some p:=⟨_,List.getElem?_eq_getElem hlt⟩
   obtain⟨g,o,rfl,hg,hr⟩:=HA.out k p hp
   have hr2:=range_only hr ho
   have c0:wr.cell? ⟨g,o+k * 3,none⟩=some (.int .i64 p.id):=hr2 0 _ rfl
   have c1:wr.cell? ⟨g,o+k * 3+1,none⟩=some (.int .i64 p.role):=hr2 1 _ rfl
   have c2:wr.cell? ⟨g,o+k * 3+2,none⟩=some (.int .i64 p.pub):=hr2 2 _ rfl
   have hd:P.drop k=p::P.drop (k+1):=by rw [List.drop_eq_getElem_cons hlt];rw [List.getElem?_eq_getElem hlt] at hp;rw [Option.some.inj hp]
   rw [hd] at hst
   have ik:(k:Int) < (P.length:Int):=by omega
   have ik0:(0:Int)≤(k:Int):=by omega
   have HST:=Lib.hid hst
   have HO:=Lib.hid ho
   clear hst ho hp hr hr2 hd
   go_wp2_with fail
   refine(same_who p B e wr (HE.out.only HO.out (fun e=>e))).mono ?_
   rintro e1 w1 ⟨rfl,ho1⟩
   have HO1:=Lib.hid (HO.out.trans ho1)
   clear ho1 c0 c1 c2
   by_cases hw:p.id=e.who
   ·have hb:(p.id==e.who)=true:=beq_iff_eq.2 hw
    rw [hb]
    have hres:idxN e.who 0 P=some k:=by rw [HST.out,idxN,if_pos hw]
    have HRES:=Lib.hid hres
    clear hb hres hw
    go_wp2_with fail
    go_ret
    exact⟨by rw [HRES.out];rfl,HO1.out⟩
   ·have hb:(p.id==e.who)=false:=beq_eq_false_iff_ne.2 hw
    rw [hb]
    have hres:idxN e.who 0 P=idxN e.who (k+1) (P.drop (k+1)):=by rw [HST.out,idxN,if_neg hw]
    have HRES:=Lib.hid hres
    clear hb hres hw
    go_wp2_with fail
    go_roundw
    case rel=>exact⟨k+1,by go_num,by omega,HRES.out,HO1.out⟩
    case measure=>simp [intOf];omega
  ·obtain rfl:k=P.length:=by omega
   have hres:idxN e.who 0 P=none:=by rw [hst,List.drop_length,idxN]
   have HRES:=Lib.hid hres
   have HO:=Lib.hid ho
   clear hst ho hres
   go_wp2_with fail
   go_ret
   exact⟨by rw [HRES.out];rfl,HO.out⟩
structure VeS (w:World) (B:Nat) (pv:Value) (P:List Pers) (e:Ev) (Z:World):Prop where
 pers:Z.cell? ⟨B,0,none⟩=some pv
 sl:PerSl Z pv P
 ev:EvAt Z (B+1) e
 only:Only NoneOf w Z
theorem VeS.keep {w Z Z':World} {B:Nat} {pv:Value} {P:List Pers} {e:Ev} (h:VeS w B pv P e Z) (ho:Only NoneOf Z Z'):VeS w B pv P e Z':=
 ⟨ho.cell_some h.pers (fun e=>e),h.sl.only ho,h.ev.only ho (fun e=>e),h.only.trans ho⟩
theorem VeS.new (w:World) (pv v1 v2 v3 v4 v5:Value) (P:List Pers) (e:Ev) (hp:PerSl w pv P) (B:Nat) (hB:B=w.heap.size):VeS w B pv P e ((w.alloc (.cells #[pv,v1,v2,v3,v4,v5] 50)).alloc (.cells (evC e).toArray 79)):=by
 have h1:=Blk.new (w.alloc (.cells #[pv,v1,v2,v3,v4,v5] 50)) tEv (evC e).toArray
 rw [World.size_alloc,←hB] at h1
 have h2:=(Blk.new w 50 #[pv,v1,v2,v3,v4,v5]).alloc (.cells (evC e).toArray 79)
 rw [←hB] at h2
 exact⟨h2.cell 0,hp.only (((Only.refl _ _).alloc _).alloc _),h1,((Only.refl _ _).alloc _).alloc _⟩
set_option maxRecDepth 100000 in
set_option maxHeartbeats 4000000 in
theorem everify_any (P:List Pers) (pv v1 v2 v3 v4 v5:Value) (e:Ev) (he:e.Ok) (hn:e.name.size≤4398046511104) (hx:e.text.size≤4398046511104) (w:World) (hp:PerSl w pv P) (hpub:∀p∈P,In p.pub) (ht:Tab w):
  Calls Tryz.prog 61 #[.agg #[pv,v1,v2,v3,v4,v5],.agg (evC e).toArray] w fun e' w'=>e'= .returned (.int .i64 (verL P e))∧Only NoneOf w w':=by
 obtain⟨B,eB⟩:∃B,B=w.heap.size:=⟨_,rfl⟩
 have hV:=VeS.new w pv v1 v2 v3 v4 v5 P e hp B eB
 have hmf:∀(fn:Fn) (first cap:Array Value) (w:World),(Instr.makeFunc fn first cap).run Tryz.prog w= .ok (.func fn first cap) w:=fun _ _ _ _=>rfl
 have HV:=Lib.hid hV
 have HT:=Lib.hid ht
 have HE:=Lib.hid he
 have HN:=Lib.hid hn
 have HX:=Lib.hid hx
 have HEB:=Lib.hid eB
 have HPUB:=Lib.hid hpub
 clear hV hp ht he hn hx eB hpub
 go_enter Tryz.func61,Tryz.ntmps61
 go_upto_region 1 with(fail)
 rw [←HEB.out]
 refine wp_gen (VeS w B pv P e) HV.out ?_
 intro Z hZ
 have c0:=hZ.pers
 have HZ:=Lib.hid hZ
 clear hZ HV
 go_wp2_with fail
 refine(index_any P e (B+1) pv Z HZ.out.sl HZ.out.ev).mono ?_
 rintro e1 w1 ⟨rfl,ho1⟩
 have HZ1:=Lib.hid (HZ.out.keep ho1)
 clear ho1 HZ c0
 cases hi:idxN e.who 0 P with
 |none=>
  have hres:=verL_none e P 0 hi
  have HRES:=Lib.hid hres
  have e0:idxV none= -1:=rfl
  rw [e0]
  clear hres hi
  go_wp2_with fail
  go_ret
  exact⟨by rw [HRES.out];rfl,HZ1.out.only⟩
 |some k=>
  obtain⟨_,p,hpk,hid,hres⟩:=verL_some e P 0 k hi
  rw [Nat.sub_zero] at hpk
  obtain⟨A,cap,rfl,hlc,hcm,hA⟩:=HZ1.out.sl
  obtain⟨g,o,rfl,hg,hr⟩:=hA k p hpk
  have hk:k<P.length:=(List.getElem?_eq_some_iff.1 hpk).1
  have e0:idxV (some k)=(k:Int):=rfl
  rw [e0]
  have k0:¬(k:Int) <0:=by omega
  have k1:(0:Int)≤(k:Int):=by omega
  have k2:(k:Int) < (P.length:Int):=by omega
  have kd:decide ((k:Int) <0)=false:=decide_eq_false k0
  obtain⟨T,hT⟩:∃T:ByteArray,T.data.toList=evText e:=⟨⟨(evText e).toArray⟩,by simp⟩
  have hts:T.size≤17592186044416:=by
   have l1:=numsL_len e.nums HE.out.nums_in
   have l2:=hexL_len e.prev
   have hn:=HN.out
   have hx:=HX.out
   have l3:=quoL_len e.name.data.toList (by rw [←size_list];omega)
   have l4:=quoL_len e.text.data.toList (by rw [←size_list];omega)
   rw [←size_list] at l3 l4
   rw [HE.out.prev] at l2
   have l5:e.nums.length=10:=rfl
   rw [size_list,hT]
   unfold evText
   simp only [List.length_append,List.length_cons,List.length_nil]
   omega
  have hpp:=HPUB.out p (List.mem_of_getElem? hpk)
  have f1:∀W,VeS w B (.slice (some ⟨g,o,none⟩) P.length cap) P e W→Calls Tryz.prog 104 #[.agg (evC e).toArray] W (fun e' w'=>e'= .returned (.string T)∧Only NoneOf W w'):=fun W h=> (etext_any e HE.out (by have:=HN.out;omega) (by have:=HX.out;omega) W (HT.out.none h.only)).mono (by rintro e' w' ⟨t,rfl,ht,ho⟩;exact⟨by rw [bytes_ext (ht.trans hT.symm)],ho⟩)
  obtain⟨gb,egb⟩:∃b,b=goodB p.pub (evText e) e.r e.s:=⟨_,rfl⟩
  have f2:∀W,Calls Tryz.prog 103 #[.int .i64 p.pub,.string T,.agg #[.int .i64 e.r,.int .i64 e.s]] W (fun e' w'=>e'= .returned (.bool gb)∧Only NoneOf W w'):=fun W=>by
   rw [egb,←hT]
   exact sverify_any p.pub e.r e.s T W hts hpp.1 hpp.2 HE.out.r.1 HE.out.r.2
  have cp:∀W,VeS w B (.slice (some ⟨g,o,none⟩) P.length cap) P e W→W.cell? ⟨g,o+k * 3+2,none⟩=some (.int .i64 p.pub):=fun W h=>by
   obtain⟨A',cap',hv,_,_,h3⟩:=h.sl
   obtain⟨g',o',hA',_,hr'⟩:=h3 k p hpk
   simp only [Value.slice.injEq] at hv
   rw [←hv.1] at hA'
   simp only [Option.some.injEq,Addr.mk.injEq,and_true] at hA'
   obtain⟨rfl,rfl⟩:=hA'
   exact hr' 2 _ rfl
  have cb:∀W,VeS w B (.slice (some ⟨g,o,none⟩) P.length cap) P e W→W.cell? ⟨B,0,none⟩=some (.slice (some ⟨g,o,none⟩) P.length cap):=fun W h=>h.pers
  have cl:∀W,VeS w B (.slice (some ⟨g,o,none⟩) P.length cap) P e W→(evLoad (.pointer (some ⟨B+1,0,none⟩))).run Tryz.prog W= .ok (.agg (evC e).toArray) W:=fun W h=>ev_load h.ev HE.out.prev
  have c44:∀W,VeS w B (.slice (some ⟨g,o,none⟩) P.length cap) P e W→W.cell? ⟨B+1,44,none⟩=some (.int .i64 e.r):=fun W h=> (ev_sig h.ev HE.out.prev).1
  have c45:∀W,VeS w B (.slice (some ⟨g,o,none⟩) P.length cap) P e W→W.cell? ⟨B+1,45,none⟩=some (.int .i64 e.s):=fun W h=> (ev_sig h.ev HE.out.prev).2
  have hS:=HZ1.out.keep (Only.refl _ _).drew
  have HKP:Hid (∀W W',VeS w B (.slice (some ⟨g,o,none⟩) P.length cap) P e W→Only NoneOf W W'→VeS w B (.slice (some ⟨g,o,none⟩) P.length cap) P e W'):=Lib.hid (fun W W' h ho=>h.keep ho)
  have F1:=Lib.hid f1
  have F2:=Lib.hid f2
  have HRES:=Lib.hid hres
  have HGB:=Lib.hid egb
  clear f1 f2 hres egb hpp hts hT hpk hid hi hA hr hk HZ1 e0
  go_upto_region 4 with(fail)
  go_region_held3 (fun w'=>VeS w B (.slice (some ⟨g,o,none⟩) P.length cap) P e w') (first|assumption)
   (first
    |(go_at_call 104;refine(F1.out _ (by assumption)).mono ?_;rintro e2 w2 ⟨rfl,ho2⟩;have hS2:=HKP.out _ _ (by assumption) ho2;clear ho2)
    |(go_at_call 103;refine(F2.out _).mono ?_;rintro e3 w3 ⟨rfl,ho3⟩;have hS3:=HKP.out _ _ (by assumption) ho3;clear ho3))
  all_goals
   have hr:=HRES.out
   rw [←HGB.out] at hr
   cases gb with
   |true=>
    rw [if_pos rfl] at hr
    have HR:=Lib.hid hr
    clear hr
    go_wp2_with fail
    go_ret
    exact⟨by rw [HR.out];rfl,hS3.only⟩
   |false=>
    rw [if_neg (by simp)] at hr
    have HR:=Lib.hid hr
    clear hr
    go_wp2_with fail
    go_ret
    exact⟨by rw [HR.out];rfl,hS3.only⟩
end Go.Proofs.YtgalfohobgjelaaGreatDoor
namespace Go.Proofs.YtgalfohobgjelaaGreatDoor
def wordsN (l:List Int):List UInt8:=l.flatMap (fun n=>32::Lib.itoa n)
def lineL (word:List UInt8) (l:List Int):List UInt8:=word++wordsN l++ [10]
structure Bd where
 bidder:Int
 qt:ByteArray
 qc:List Int
 pt:ByteArray
 pc:List Int
def wBid:List UInt8:= [98,105,100]
def wQuality:List UInt8:= [113,117,97,108,105,116,121]
def wPrice:List UInt8:= [112,114,105,99,101]
def encB (b:Bd):List UInt8:=lineL wBid [b.bidder] ++lineL wQuality b.qc++lineL (hexL b.qt.data.toList) [] ++lineL wPrice b.pc++lineL (hexL b.pt.data.toList) []
def bidW (n:Int):Bd:=⟨60,⟨#[113,UInt8.ofNat (97+ (n % 4).toNat)]⟩, [4],⟨#[]⟩, []⟩
def bidT (n:Int):ByteArray:=⟨(encB (bidW n)).toArray⟩
structure Wd where
 off:Nat
 kinds:List UInt8
 fork:Nat
structure Wd.Ok (d:Wd):Prop where
 off:d.off<256
 fork:d.fork<256
def Wd.n (d:Wd):Nat:=1+d.off % 7
noncomputable def bidder (k:Nat):Pers:=⟨(k:Int),4,(pub (secI k):Int)⟩
noncomputable def setW (d:Wd):List Pers:=setB d.n++ [bidder 60,bidder 61]
def textAns:ByteArray:=⟨#[97,110,115,119,101,114]⟩
def evRaw (d:Wd) (second:Bool) (k:Nat) (last:Hs) (x:Nat):Ev:=
 { seq:=(k:Int),kind:=if x % 4=0 then 3 else 4,who:=if x % 4=0 then 50 else 60+ ((x % 4 / 3:Nat):Int),time:=(k:Int),bidder:=0,lot:=0,n:=if second=true∧d.fork % 12≤k then 1 else 0,other:=0,name:=⟨#[]⟩,text:=if x % 4=0 then textAns else bidT ((x / 4:Nat):Int),sx:=0,sy:=0,prev:=last,r:=0,s:=0}
noncomputable def evAt (d:Wd) (second:Bool) (k:Nat) (last:Hs) (x:Nat):Ev:=signE (secI (evRaw d second k last x).who) (evRaw d second k last x)
noncomputable def evsGo (d:Wd) (second:Bool):Nat→Hs→List UInt8→List Ev
 |_,_, []=> []
 |k,last,x::l=>evAt d second k last x.toNat::evsGo d second (k+1) (hashE (evAt d second k last x.toNat)) l
noncomputable def evsW (d:Wd) (second:Bool):List Ev:=evsGo d second 0 zeroH (d.kinds.take 12)
noncomputable def lastE (last:Hs):List Ev→Hs
 | []=>last
 |e::l=>lastE (hashE e) l
theorem lastE_snoc (e:Ev):∀(l:List Ev) (last:Hs),lastE last (l++ [e])=hashE e
 | [],_=>rfl
 |x::l,last=>by rw [List.cons_append];exact lastE_snoc e l _
theorem evsGo_snoc (d:Wd) (second:Bool) (x:UInt8):∀(l:List UInt8) (k:Nat) (last:Hs),evsGo d second k last (l++ [x])=evsGo d second k last l++ [evAt d second (k+l.length) (lastE last (evsGo d second k last l)) x.toNat]
 | [],k,last=>rfl
 |y::l,k,last=>by
  rw [List.cons_append]
  simp only [evsGo]
  rw [evsGo_snoc d second x l,List.cons_append,List.length_cons]
  simp only [lastE]
  rw [show k+1+l.length=k+ (l.length+1) by omega]
theorem evsGo_len (d:Wd) (second:Bool):∀(l:List UInt8) (k:Nat) (last:Hs),(evsGo d second k last l).length=l.length
 | [],_,_=>rfl
 |x::l,k,last=>by simp only [evsGo,List.length_cons,evsGo_len d second l]
theorem bidT_size (n:Int):(bidT n).size≤60:=by
 have h:∀k:Fin 4,((encB ⟨60,⟨#[113,UInt8.ofNat (97+k.val)]⟩, [4],⟨#[]⟩, []⟩).toArray).size≤60:=by decide+kernel
 have hk:(n % 4).toNat<4:=by omega
 exact h ⟨(n % 4).toNat,hk⟩
theorem evRaw_ok (d:Wd) (second:Bool) (k:Nat) (hk:k≤2000) (last:Hs) (hl:last.length=32) (x:Nat):(evRaw d second k last x).Ok:=by
 have h3:x % 4 / 3≤1:=by omega
 refine⟨?_,?_,?_,?_,?_,?_,?_,?_,?_,?_,hl,?_,?_⟩
 all_goals(unfold evRaw In;simp only)
 any_goals (constructor<;>omega)
 all_goals(split<;>constructor<;>omega)
theorem evRaw_short (d:Wd) (second:Bool) (k:Nat) (last:Hs) (x:Nat):(evRaw d second k last x).name.size≤100∧(evRaw d second k last x).text.size≤100:=by
 unfold evRaw
 simp only
 refine⟨by decide,?_⟩
 split
 ·decide
 ·exact Nat.le_trans (bidT_size _) (by omega)
noncomputable def leavesE (l:List Ev):List ByteArray:=l.map (fun e=> ⟨(evCode e).toArray⟩)
end Go.Proofs.YtgalfohobgjelaaGreatDoor
namespace Go.Proofs.YtgalfohobgjelaaGreatDoor
open Go.RowKit Go.Shelf
theorem lies_writer:liesAt Tryz.prog Tryz.prog.depth 163 (2 / Tryz.prog.cellsOf 163) 0 161 1=true:=by kernel_rfl
set_option maxRecDepth 100000 in
set_option maxHeartbeats 400000 in
theorem wcheck_any {B b:Nat} {bs:List Value} {w:World} (h:Lib.IsBuilder 163 5 B b bs w):
  Calls Tryz.prog 179 #[.pointer (some ⟨b,0,none⟩)] w fun e w'=>e= .returned (.tuple #[])∧Lib.BuilderAt 163 5 B b (.pointer (some ⟨b,0,none⟩)) bs w'∧Below B w w':=by
 obtain⟨j,hj,hjs⟩:=Option.map_eq_some_iff.1 size_builder
 rcases h with h|h
 ·have c0:=h.cell0
  have f0:=h.frozen0
  have hsh:=h.shape
  have hto:=fun W (hW:World.shape? W b=some (163,2))=>Lib.run_to_unsafe (P:=Tryz.prog) W ⟨b,0,none⟩ Tryz.underlying159 Tryz.underlying239 hj (by rw [hjs];decide) hW (Nat.zero_lt_succ 1)
  have hfr:=Lib.run_from_unsafe (P:=Tryz.prog) w ⟨b,0,none⟩ Tryz.underlying239 Tryz.underlying159 hj hsh lies_writer
  have h1:=hto w hsh
  have HH:=Lib.hid h
  clear h hto hsh
  go_enter Tryz.func179,Tryz.ntmps179
  go_wp2_with fail
  rw [run_callFunc_extern Tryz.func195 (by kernel_rfl) (by kernel_rfl) (by kernel_rfl) (e:=Extern.AbiNoEscape.same) (by kernel_rfl)]
  rw [Lib.run_noEscape]
  simp only [Result.andThen]
  rw [Oper.upon_value]
  go_wp2_with fail
  go_end0
  have hu:=HH.out.used (.pointer (some ⟨b,0,none⟩))
  exact⟨rfl,hu,(Below.refl _ _).setCell (p:=⟨b,0,none⟩) HH.out.1 _⟩
 ·have c0:=h.cell0
  have hne:=Lib.run_neq_ptr_same (P:=Tryz.prog) w ⟨b,0,none⟩ Tryz.underlying159 hj
  have HH:=Lib.hid h
  clear h
  go_enter Tryz.func179,Tryz.ntmps179
  go_wp2_with fail
  go_end0
  exact⟨rfl,HH.out,Below.refl _ _⟩
set_option maxRecDepth 100000 in
set_option maxHeartbeats 1000000 in
theorem wwb_any {B b:Nat} {l:List UInt8} {c:UInt8} {w:World} (h:Lib.IsBuilder 163 5 B b (Lib.byteCells l) w) (hlen:l.length+1≤140737488355328) (hBw:B≤w.heap.size):
  Calls Tryz.prog 156 #[.pointer (some ⟨b,0,none⟩),.int .u8 (c.toNat:Int)] w fun e w'=>e= .returned .nilIface∧Lib.IsBuilder 163 5 B b (Lib.byteCells (l++ [c])) w'∧Below B w w':=by
 obtain⟨i0,hi,hz0,hz1,hz2⟩:=info_parts Tryz.info5
 have H:=Lib.hid h
 clear h
 go_enter Tryz.func156,Tryz.ntmps156
 go_wp2_with fail
 refine(wcheck_any H.out).mono ?_
 rintro e w1 ⟨rfl,h1,hb1⟩
 obtain⟨hB,v,hbk,hown,hne⟩:=h1
 have c0:w1.cell? ⟨b,0,none⟩=some (.pointer (some ⟨b,0,none⟩)):=by rw [Lib.cell_of_heap hbk];rfl
 have c1:w1.cell? ⟨b,1,none⟩=some v:=by rw [Lib.cell_of_heap hbk];rfl
 have hlt:b<w1.heap.size:=(Array.getElem?_eq_some_iff.1 hbk).1
 have hsz:=hb1.size
 have HBK:=Lib.hid hbk
 have HOWN:=Lib.hid hown
 have HNE:=Lib.hid hne
 have HB1:=Lib.hid hb1
 rw [Lib.byteCells_length] at HOWN
 clear hbk hown hne hb1
 go_wp2_with (at_builtin;refine wpList_append_own _ rfl _ _ 22 rfl B 5 i0 (.int .u8 0) 1 1 Tryz.underlying22 hi hz0 hz1 hz2 rfl (by decide) _ _ _ rfl (HOWN.out.alloc _) ⟨w1.heap.size,0,none⟩ 1 1 [.int .u8 (c.toNat:Int)] rfl rfl (fun j u hj=>by match j,hj with|0,hj=>simp at hj;subst hj;simp [Addr.add]) (fun u hu=>by simp at hu;subst hu;rfl) (by unfold maxLen;omega) (by omega) (by simp;omega) ?_;intro v' w2 hown' hgrow _;have hb2:w2.heap[b]? =some (.cells #[.pointer (some ⟨b,0,none⟩),v] 163 (0,0)):=(by rw [hgrow.block b (by simp;omega) (fun e=>HNE.out e.symm),Lib.alloc_old w1 _ b hlt];exact HBK.out);obtain⟨ao,cap,hv',hcc,hcm⟩:=own_form' hown';subst hv';have d0:w2.cell? ⟨b,0,none⟩=some (.pointer (some ⟨b,0,none⟩)):=(by rw [Lib.cell_of_heap hb2];rfl);have d1:w2.cell? ⟨b,1,none⟩=some v:=(by rw [Lib.cell_of_heap hb2];rfl);have f1:w2.frozen? ⟨b,1,none⟩=false:=Lib.frozen_of_heap hb2 1;have HB2:=Lib.hid hb2;have HOW2:=Lib.hid hown';have HGR:=Lib.hid hgrow;clear hb2 hown' hgrow)
 go_ret
 refine⟨rfl,.inr ?_,?_⟩
 ·refine Lib.BuilderAt.put (T:=163) (e:=5) hB HB2.out (bs':=Lib.byteCells (l++ [c])) ?_ (by decide)
  have h:=HOW2.out
  have e:Lib.byteCells (l++ [c])=Lib.byteCells l++ [.int .u8 (c.toNat:Int)]:=by simp [Lib.byteCells]
  rw [Lib.byteCells_length,List.length_append,e]
  exact h
 ·exact((HB1.out.alloc (by have:=HB1.out.size;omega) _).grown HGR.out (by have:=HB1.out.size;simp;omega) (fun k hk=> (HOWN.out.lt k hk).1)).setCell (p:=⟨b,1,none⟩) hB _
theorem cellsByte:Tryz.prog.cellsOf 5=1:=by kernel_rfl
set_option maxRecDepth 100000 in
set_option maxHeartbeats 1000000 in
theorem wstring_any {B b:Nat} {l:List UInt8} {w:World} (h:Lib.IsBuilder 163 5 B b (Lib.byteCells l) w) (h0:l≠ []):
  Calls Tryz.prog 111 #[.pointer (some ⟨b,0,none⟩)] w fun e w'=>e= .returned (.string ⟨l.toArray⟩)∧Below B w w':=by
 obtain⟨p,hB,v,hbk,hown,hne⟩:∃p,Lib.BuilderAt 163 5 B b p (Lib.byteCells l) w:=by
  rcases h with h|h
  ·exact⟨_,h⟩
  ·exact⟨_,h⟩
 have hl0:l.length≠0:=by simpa using h0
 rw [Lib.byteCells_length] at hown
 obtain⟨g,cap,cur,rfl,hbg,hg,hnc,hcm,hcs,htake⟩:∃g cap cur,v= .slice (some ⟨g,0,none⟩) l.length cap∧B≤g∧w.heap[g]? =some (.cells cur 5 (0,0))∧l.length≤cap∧cap≤maxLen∧cur.size=cap * 1∧cur.toList.take (l.length * 1)=Lib.byteCells l:=by
  rcases hown.2 with⟨_,hz⟩|⟨g,cap,cur,hv,r⟩
  ·exact absurd hz hl0
  ·exact⟨g,cap,cur,hv,r⟩
 rw [maxLen_val] at hcm
 have c1:w.drew.cell? ⟨b,1,none⟩=some (.slice (some ⟨g,0,none⟩) l.length cap):=by
  have h1:w.drew.heap[b]? =some (.cells #[p,.slice (some ⟨g,0,none⟩) l.length cap] 163 (0,0)):=hbk
  rw [Lib.cell_of_heap h1];rfl
 have hSD:(Builtin.unsafeSliceData_ #[22] 206 #[.slice (some ⟨g,0,none⟩) l.length cap]).run Tryz.prog w.drew= .ok (.pointer (some ⟨g,0,none⟩)) w.drew:=
  Lib.run_unsafeSliceData_row _ _ _ _ _ _ (by omega)
 have hUS:(Builtin.unsafeString_ #[206,3] 9 #[.pointer (some ⟨g,0,none⟩),.int .i64 l.length]).run Tryz.prog w.drew= .ok (.string ⟨l.toArray⟩) (w.drew.freeze ⟨g,0,none⟩ l.length):=by
  refine Lib.run_unsafeString_row w.drew 206 3 9 5 Tryz.underlying206 cellsByte g cur.size (by have hg':w.drew.heap[g]? =some (.cells cur 5 (0,0)):=hg;simp [World.shape?,hg']) l h0 (by omega) (by omega) ?_
  intro j x hx
  exact hown.cells (g:=g) rfl j (.int .u8 x.toNat) (by simp [Lib.byteCells,hx])
 clear hown hg htake hcs hbk h hne
 go_enter Tryz.func111,Tryz.ntmps111
 go_wp2_with fail
 go_region
 all_goals
  go_wp2_with fail
  go_ret
  exact⟨rfl,Lib.below_freeze (Below.drew (Below.refl B w)) (p:=⟨g,0,none⟩) hbg _⟩
set_option maxRecDepth 100000 in
set_option maxHeartbeats 1000000 in
theorem wstring_none {b:Nat} {w:World} (h:w.cell? ⟨b,1,none⟩=some (.slice none 0 0)):
  Calls Tryz.prog 111 #[.pointer (some ⟨b,0,none⟩)] w fun e w'=>e= .returned (.string ⟨#[]⟩)∧Only NoneOf w w':=by
 have c1:w.drew.cell? ⟨b,1,none⟩=some (.slice none 0 0):=h
 have hSD:(Builtin.unsafeSliceData_ #[22] 206 #[.slice none 0 0]).run Tryz.prog w.drew= .ok (.pointer none) w.drew:=rfl
 have hUS:(Builtin.unsafeString_ #[206,3] 9 #[.pointer none,.int .i64 0]).run Tryz.prog w.drew= .ok (.string .empty) w.drew:=Lib.run_unsafeString_none _ _ _ _ _
 clear h
 go_enter Tryz.func111,Tryz.ntmps111
 go_wp2_with fail
 go_region
 all_goals
  go_wp2_with fail
  go_ret
  exact⟨rfl,(Only.refl _ _).drew⟩
end Go.Proofs.YtgalfohobgjelaaGreatDoor
namespace Go.Proofs.YtgalfohobgjelaaGreatDoor
open Go.RowKit Go.Shelf
set_option maxRecDepth 100000 in
set_option maxHeartbeats 1000000 in
theorem bhex_any (t:ByteArray) (hl:t.size≤1000000) (w:World):Calls Tryz.prog 110 #[.string t] w (RetStr (hexL t.data.toList) w):=by
 obtain⟨h,eh⟩:∃h,h=t.data.toList:=⟨_,rfl⟩
 have hlen:h.length=t.size:=by rw [eh,size_list]
 have hb0:=Lib.fresh_isBuilder 163 5 w
 have ho0:Only NoneOf w (w.alloc (.cells #[.pointer none,.slice none 0 0] 163)):=(Only.refl _ _).alloc _
 have hc0:(w.alloc (.cells #[.pointer none,.slice none 0 0] 163)).cell? ⟨w.heap.size,1,none⟩=some (.slice none 0 0):=Blk.cell (Blk.new w 163 #[.pointer none,.slice none 0 0]) 1
 have HB0:=Lib.hid hb0
 have HO0:=Lib.hid ho0
 have HC0:=Lib.hid hc0
 have HL:=Lib.hid hl
 have HLEN:=Lib.hid hlen
 have EH:=Lib.hid eh
 rw [←eh]
 clear hb0 ho0 hl eh hc0 hlen
 go_enter Tryz.func110,Tryz.ntmps110
 go_wp2_with fail
 obtain⟨Y,eY⟩:∃Y,Y=w.alloc (.cells #[.pointer none,.slice none 0 0] 163):=⟨_,rfl⟩
 have hb1:=HB0.out
 have ho1:=HO0.out
 have hc1:=HC0.out
 rw [←eY] at hb1 ho1 hc1
 rw [←eY]
 obtain⟨B,eB⟩:∃B,B=w.heap.size:=⟨_,rfl⟩
 rw [←eB] at hb1 hc1⊢
 have HB1:=Lib.hid hb1
 have HO1:=Lib.hid ho1
 have HC1:=Lib.hid hc1
 have hBw:w.heap.size≤B:=by omega
 have hBY:B≤Y.heap.size:=by rw [eY,eB];simp
 clear hb1 ho1 hc1 eY eB HB0 HO0 HC0
 go_loopw [7] (fun i wr=> ∃k:Nat,i= .int .i64 k∧k≤t.size∧Lib.IsBuilder 163 5 B B (Lib.byteCells (hexL (h.take k))) wr∧Only NoneOf w wr∧B≤wr.heap.size∧(k=0→wr.cell? ⟨B,1,none⟩=some (.slice none 0 0))) (fun i _=>t.size - (intOf i).toNat)
 case atStart=>exact⟨0,rfl,by omega,by simpa [hexL,Lib.byteCells] using HB1.out,HO1.out,hBY,fun _=>HC1.out⟩
 case round=>
  obtain⟨k,rfl,hk,hb,ho,hB,hz⟩:=hrel
  have HB:=Lib.hid hb
  have HO:=Lib.hid ho
  have HZ:=Lib.hid hz
  clear hb ho hz
  by_cases hlt:k<t.size
  ·obtain⟨x,hx⟩:∃x,h[k]? =some x:=⟨_,List.getElem?_eq_getElem (by have:=HLEN.out;omega)⟩
   have hix:t.data[k]? =some x:=by have e:=EH.out;rw [e] at hx;simpa using hx
   have hnx:hexL (h.take (k+1))=hexL (h.take k) ++ [hexC (x.toNat / 16)] ++ [hexC (x.toNat % 16)]:=by
    rw [List.take_add_one,hx,Option.toList_some,hexL_snoc]
   have hlk:(hexL (h.take k)).length≤2000000:=by rw [hexL_len,List.length_take];have:=HL.out;omega
   have hx256:=x.toNat_lt
   have ik:(k:Int) <t.size:=by omega
   have hk6:k≤1000000:=by have:=HL.out;omega
   have hts:t[k]'hlt=x:=by
    have e:t.data[k]? =some (t[k]'hlt):=Array.getElem?_eq_getElem _
    rw [hix] at e
    exact(Option.some.inj e).symm
   have HNX:=Lib.hid hnx
   clear hnx hx hix
   go_wp2_with fail
   refine(wwb_any HB.out (by omega) hB).mono ?_
   rintro e w1 ⟨rfl,hb1,hbel1⟩
   rw [hexD_idx] at hb1
   have ho1:=HO.out.below' hbel1 hBw
   have hB1:B≤w1.heap.size:=Nat.le_trans hB hbel1.size
   have HB1:=Lib.hid hb1
   have HO1:=Lib.hid ho1
   clear hb1 ho1 hbel1
   go_wp2_with fail
   refine(wwb_any HB1.out (by rw [List.length_append,List.length_singleton];omega) hB1).mono ?_
   rintro e w2 ⟨rfl,hb2,hbel2⟩
   rw [hexD_idx,←HNX.out] at hb2
   have ho2:=HO1.out.below' hbel2 hBw
   have hB2:B≤w2.heap.size:=Nat.le_trans hB1 hbel2.size
   have HB2:=Lib.hid hb2
   have HO2:=Lib.hid ho2
   clear hb2 ho2 hbel2
   go_wp2_with fail
   go_roundw
   case rel=>exact⟨k+1,by go_num,by omega,HB2.out,HO2.out,hB2,fun h=>by omega⟩
   case measure=>simp [intOf];omega
  ·have hall:h.take k=h:=List.take_of_length_le (by have:=HLEN.out;omega)
   rw [hall] at HB
   have ik:¬(k:Int) <t.size:=by omega
   clear hall
   by_cases hk0:k=0
   ·have hh:h= []:=List.eq_nil_of_length_eq_zero (by have:=HLEN.out;omega)
    have hc:=HZ.out hk0
    have HC:=Lib.hid hc
    clear hc HZ
    go_wp2_with fail
    refine(wstring_none HC.out).mono ?_
    rintro e w1 ⟨rfl,hon⟩
    have HO1:=Lib.hid (HO.out.trans hon)
    clear hon
    go_wp2_with fail
    go_ret
    exact RetStr.mk (by rw [hh];rfl) HO1.out
   ·have hh:hexL h≠ []:=fun e=>by
     have e2:=congrArg List.length e
     rw [hexL_len] at e2
     have:=HLEN.out
     simp only [List.length_nil] at e2
     omega
    have HH:=Lib.hid hh
    clear hh HZ
    go_wp2_with fail
    refine(wstring_any HB.out HH.out).mono ?_
    rintro e w1 ⟨rfl,hbel⟩
    have HO1:=Lib.hid (HO.out.below' hbel hBw)
    clear hbel
    go_wp2_with fail
    go_ret
    exact RetStr.mk (by simp) HO1.out
end Go.Proofs.YtgalfohobgjelaaGreatDoor
namespace Go.Proofs.YtgalfohobgjelaaGreatDoor
open Go.RowKit Go.Shelf
abbrev tWr:TypeId:=163
def WB (C b:Nat) (p:Value) (l:List UInt8) (w:World):Prop:=b<C∧C≤w.heap.size∧∃v,Blk w b tWr #[p,v]∧w.ownsRow C 5 1 v l.length (Lib.byteCells l)
abbrev selfP (b:Nat):Value:= .pointer (some ⟨b,0,none⟩)
def WBu (C b:Nat) (l:List UInt8) (w:World):Prop:=WB C b (.pointer none) l w∨WB C b (selfP b) l w
def WS (C b:Nat):Nat→Prop:=fun k=>k=b∨C≤k
theorem WB.at_ {C b:Nat} {p:Value} {l:List UInt8} {w:World} (h:WB C b p l w):Lib.BuilderAt tWr 5 b b p (Lib.byteCells l) w:=by
 obtain⟨h1,h2,v,hb,ho⟩:=h
 refine⟨Nat.le_refl _,v,hb,?_,fun e=>by have:=(own_ge ho e).1;omega⟩
 rw [Lib.byteCells_length]
 obtain⟨hl,ho⟩:=ho
 refine⟨hl,?_⟩
 rcases ho with h|⟨g,cap,cur,e1,e2,r⟩
 ·exact .inl h
 ·exact .inr ⟨g,cap,cur,e1,by omega,r⟩
theorem WB.none_ {C b:Nat} {p:Value} {l:List UInt8} {w w':World} (h:WB C b p l w) (ho:Only NoneOf w w'):WB C b p l w':=by
 obtain⟨h1,h2,v,hb,hw⟩:=h
 exact⟨h1,Nat.le_trans h2 ho.size,v,hb.only ho (fun h=>h.elim),own_only hw ho (fun _ _ h=>h.elim)⟩
theorem WBu.none_ {C b:Nat} {l:List UInt8} {w w':World} (h:WBu C b l w) (ho:Only NoneOf w w'):WBu C b l w':=h.imp (·.none_ ho) (·.none_ ho)
theorem WB.put {C b:Nat} {p:Value} {l:List UInt8} {w:World} (h:WB C b p l w):WB C b (selfP b) l (w.setCell ⟨b,0,none⟩ (selfP b)):=by
 obtain⟨h1,h2,v,hb,hw⟩:=h
 refine⟨h1,by simpa using h2,v,Blk.set_ hb 0 _,own_far hw (p:=⟨b,0,none⟩) (fun e=>by have:=(own_ge hw e).1;simp only at this;omega) _⟩
set_option maxRecDepth 100000 in
set_option maxHeartbeats 400000 in
theorem ccheckC {C b:Nat} {l:List UInt8} {w:World} (h:WBu C b l w):
  Calls Tryz.prog 179 #[.pointer (some ⟨b,0,none⟩)] w fun e w'=>e= .returned (.tuple #[])∧WB C b (selfP b) l w'∧Only (WS C b) w w':=by
 obtain⟨j,hj,hjs⟩:=Option.map_eq_some_iff.1 size_builder
 rcases h with h0|h0
 ·have h:=h0.at_
  have c0:=h.cell0
  have f0:=h.frozen0
  have hsh:=h.shape
  have hto:=fun W (hW:World.shape? W b=some (163,2))=>Lib.run_to_unsafe (P:=Tryz.prog) W ⟨b,0,none⟩ Tryz.underlying159 Tryz.underlying239 hj (by rw [hjs];decide) hW (Nat.zero_lt_succ 1)
  have hfr:=Lib.run_from_unsafe (P:=Tryz.prog) w ⟨b,0,none⟩ Tryz.underlying239 Tryz.underlying159 hj hsh lies_writer
  have h1:=hto w hsh
  have HH:=Lib.hid h0
  clear h hto hsh h0
  go_enter Tryz.func179,Tryz.ntmps179
  go_wp2_with fail
  rw [run_callFunc_extern Tryz.func195 (by kernel_rfl) (by kernel_rfl) (by kernel_rfl) (e:=Extern.AbiNoEscape.same) (by kernel_rfl)]
  rw [Lib.run_noEscape]
  simp only [Result.andThen]
  rw [Oper.upon_value]
  go_wp2_with fail
  go_end0
  exact⟨rfl,HH.out.put,(Only.refl _ _).setCell (p:=⟨b,0,none⟩) (.inl (.inl rfl)) _⟩
 ·have c0:=h0.at_.cell0
  have hne:=Lib.run_neq_ptr_same (P:=Tryz.prog) w ⟨b,0,none⟩ Tryz.underlying159 hj
  have HH:=Lib.hid h0
  clear h0
  go_enter Tryz.func179,Tryz.ntmps179
  go_wp2_with fail
  go_end0
  exact⟨rfl,HH.out,Only.refl _ _⟩
set_option maxRecDepth 100000 in
set_option maxHeartbeats 400000 in
theorem wwriteC {C b:Nat} {l:List UInt8} {s:ByteArray} {w:World} (h:WBu C b l w) (hlen:l.length+s.size≤140737488355328):
  Calls Tryz.prog 155 #[.pointer (some ⟨b,0,none⟩),.string s] w fun e w'=>e= .returned (.tuple #[.int .i64 s.size,.nilIface])∧WB C b (selfP b) (l++s.data.toList) w'∧Only (WS C b) w w':=by
 obtain⟨i0,hi,hz0,hz1,hz2⟩:=info_parts Tryz.info5
 have H:=Lib.hid h
 clear h
 go_enter Tryz.func155,Tryz.ntmps155
 go_wp2_with fail
 refine(ccheckC H.out).mono ?_
 rintro e w1 ⟨rfl,h1,hb1⟩
 obtain⟨hbC,hCs,v,hbk,hown⟩:=h1
 have c1:w1.cell? ⟨b,1,none⟩=some v:=hbk.cell 1
 have hne:v.ownBlock≠some b:=fun e=>by have:=(own_ge hown e).1;omega
 have HBK:=Lib.hid hbk
 have HOWN:=Lib.hid hown
 have HNE:=Lib.hid hne
 have HB1:=Lib.hid hb1
 clear hbk hown hne hb1
 go_wp2_with (at_builtin;refine Lib.wpList_append_own_string _ rfl _ _ 22 9 rfl C 5 i0 Tryz.underlying22 Tryz.underlying9 hi hz0 hz1 hz2 _ _ _ rfl HOWN.out s rfl (by unfold maxLen;omega) (by omega) (by omega) ?_;intro v' w2 hown' hgrow _;have hb2:Blk w2 b tWr #[selfP b,v]:=HBK.out.grown hgrow (fun e=>HNE.out e.symm);obtain⟨ao,cap,hv',hcc,hcm⟩:=own_form' hown';subst hv';have d1:=hb2.cell 1;have f1:=hb2.frozen 1;have HB2:=Lib.hid hb2;have HOW2:=Lib.hid hown';have HGR:=Lib.hid hgrow;clear hb2 hown' hgrow)
 go_ret2
 refine⟨rfl,?_,?_⟩
 ·have hw:=HOW2.out
  have hne2:(Value.slice ao (l.length+s.size) cap).ownBlock≠some b:=fun e=>by have:=(own_ge hw e).1;omega
  refine⟨hbC,by have:=HGR.out.size;simp;omega,_,Blk.set_ HB2.out 1 _,?_⟩
  have e:Lib.byteCells (l++s.data.toList)=Lib.byteCells l++Lib.strCells s:=by simp [Lib.byteCells,Lib.strCells]
  rw [List.length_append,e,←size_list]
  exact own_far hw (p:=⟨b,1,none⟩) hne2 _
 ·exact(HB1.out.grown HGR.out (fun k hk=> .inl (.inr (own_ge HOWN.out hk).1))).setCell (p:=⟨b,1,none⟩) (.inl (.inl rfl)) _
def IntsW (C b:Nat) (A:Option Addr) (ns:List Int) (w:World):Prop:=ns= []∨∃g o,A=some ⟨g,o,none⟩∧g<C∧g≠b∧g<w.heap.size∧∀(j:Nat) (x:Int),ns[j]? =some x→w.cell? ⟨g,o+j,none⟩=some (.int .i64 x)
theorem IntsW.keep {C b:Nat} {A:Option Addr} {ns:List Int} {w w':World} (h:IntsW C b A ns w) (ho:Only (WS C b) w w'):IntsW C b A ns w':=by
 rcases h with h|⟨g,o,hA,h1,h2,h3,h4⟩
 ·exact .inl h
 ·refine .inr ⟨g,o,hA,h1,h2,Nat.lt_of_lt_of_le h3 ho.size,fun j x hx=> ?_⟩
  exact ho.cell_some (h4 j x hx) (fun h=>by rcases h with h|h<;>simp only at h<;>omega)
theorem tab_ws {C b:Nat} {w w':World} (h:Tab w) (hb:3<b) (hC:b<C) (ho:Only (WS C b) w w'):Tab w':=h.only ho (fun k hk=>by rcases hk with hk|hk<;>omega)
theorem wordsN_snoc (l:List Int) (x:Int):wordsN (l++ [x])=wordsN l++ [32] ++Lib.itoa x:=by simp [wordsN]
theorem wordsN_len:∀(l:List Int),(∀x∈l,In x)→(wordsN l).length≤22 * l.length
 | [],_=>by simp [wordsN]
 |x::l,h=>by
  have h1:=wordsN_len l (fun y hy=>h y (by simp [hy]))
  have h2:=itoa_len (h x (by simp)).1 (h x (by simp)).2
  have e:wordsN (x::l)=(32::Lib.itoa x) ++wordsN l:=rfl
  rw [e,List.length_append,List.length_cons,List.length_cons]
  omega
set_option maxRecDepth 100000 in
set_option maxHeartbeats 1000000 in
theorem line_any {C b:Nat} {l:List UInt8} (word:ByteArray) (hwd:word.size≤10000000) {A:Option Addr} {cap:Nat} {ns:List Int} {w:World} (h:WBu C b l w) (hns:ns.length≤1000000) (hin:∀x∈ns,In x) (hA:IntsW C b A ns w) (ht:Tab w) (hgb:3<b) (hlen:l.length≤1000000000):
  Calls Tryz.prog 109 #[.pointer (some ⟨b,0,none⟩),.string word,.slice A ns.length cap] w fun e w'=>e= .returned (.tuple #[])∧WB C b (selfP b) (l++lineL word.data.toList ns) w'∧Only (WS C b) w w':=by
 have hmf:∀(fn:Fn) (first cap:Array Value) (w:World),(Instr.makeFunc fn first cap).run Tryz.prog w= .ok (.func fn first cap) w:=fun _ _ _ _=>rfl
 have hbC:b<C:=by rcases h with h|h<;>exact h.1
 have H:=Lib.hid h
 have q32:(⟨#[32]⟩:ByteArray).size=1:=rfl
 have q10:(⟨#[10]⟩:ByteArray).size=1:=rfl
 have HIN:=Lib.hid hin
 have HA:=Lib.hid hA
 have HT:=Lib.hid ht
 have hwl:word.data.toList.length=word.size:=by rw [size_list]
 clear h hin hA ht
 go_enter Tryz.func109,Tryz.ntmps109
 go_wp2_with fail
 refine(wwriteC H.out (by omega)).mono ?_
 rintro e w1 ⟨rfl,h1,ho1⟩
 have H1:=Lib.hid h1
 have HO1:=Lib.hid ho1
 clear h1 ho1
 go_wp2_with fail
 go_loopw [18] (fun i wr=> ∃k:Nat,i= .int .i64 k∧k≤ns.length∧WB C b (selfP b) (l++ (word.data.toList++wordsN (ns.take k))) wr∧Only (WS C b) w wr) (fun i _=>ns.length - (intOf i).toNat)
 case atStart=>exact⟨0,rfl,by omega,by simpa [wordsN] using H1.out,HO1.out⟩
 case round=>
  obtain⟨k,rfl,hk,hb,ho⟩:=hrel
  have HB:=Lib.hid hb
  have HO:=Lib.hid ho
  clear hb ho
  have hwk:(wordsN (ns.take k)).length≤22 * k:=by
   have:=wordsN_len (ns.take k) (fun x hx=>HIN.out x (List.mem_of_mem_take hx))
   rw [List.length_take] at this
   omega
  by_cases hlt:k<ns.length
  ·obtain⟨x,hx⟩:∃x,ns[k]? =some x:=⟨_,List.getElem?_eq_getElem hlt⟩
   have hmem:x∈ns:=List.mem_of_getElem? hx
   have hxi:=HIN.out x hmem
   obtain⟨g,o,rfl,hc⟩:∃g o,A=some ⟨g,o,none⟩∧wr.cell? ⟨g,o+k,none⟩=some (.int .i64 x):=by
    rcases HA.out.keep HO.out with h|⟨g,o,e,_,_,_,hc⟩
    ·rw [h] at hlt;simp at hlt
    ·exact⟨g,o,e,hc k x hx⟩
   have hnx:wordsN (ns.take (k+1))=wordsN (ns.take k) ++ [32] ++Lib.itoa x:=by rw [List.take_add_one,hx,Option.toList_some,wordsN_snoc]
   have ik:(k:Int) <ns.length:=by omega
   have HNX:=Lib.hid hnx
   clear hnx hx hmem
   go_wp2_with fail
   refine(wwriteC (.inr HB.out) (by simp;omega)).mono ?_
   rintro e w2 ⟨rfl,h2,ho2⟩
   have H2:=Lib.hid h2
   have HO2:=Lib.hid (HO.out.trans ho2)
   have HT2:=Lib.hid (tab_ws HT.out hgb hbC HO2.out)
   clear h2 ho2
   go_wp2_with fail
   refine(itoa_any x hxi.1 hxi.2 w2 HT2.out).mono ?_
   rintro e w3 ⟨t3,rfl,ht3,ho3⟩
   have H3:=Lib.hid (H2.out.none_ ho3)
   have HO3:=Lib.hid (HO2.out.trans' ho3 (fun _ _ h=>h.elim))
   have hz3:t3.size≤21:=by rw [size_list,ht3];exact itoa_len hxi.1 hxi.2
   have HT3:=Lib.hid ht3
   clear ho3 ht3
   go_wp2_with fail
   refine(wwriteC (.inr H3.out) (by simp;omega)).mono ?_
   rintro e w4 ⟨rfl,h4,ho4⟩
   have H4:=Lib.hid h4
   have HO4:=Lib.hid (HO3.out.trans ho4)
   clear h4 ho4
   go_wp2_with fail
   go_roundw
   case rel=>exact⟨k+1,by go_num,by omega,by have:=H4.out;rw [HT3.out] at this;rw [HNX.out];simpa using this,HO4.out⟩
   case measure=>simp [intOf];omega
  ·have hall:ns.take k=ns:=List.take_of_length_le (by omega)
   rw [hall] at HB hwk
   have ik:¬(k:Int) <ns.length:=by omega
   clear hall
   go_wp2_with fail
   refine(wwriteC (.inr HB.out) (by simp;omega)).mono ?_
   rintro e w2 ⟨rfl,h2,ho2⟩
   have H2:=Lib.hid h2
   have HO2:=Lib.hid (HO.out.trans ho2)
   clear h2 ho2
   go_wp2_with fail
   go_end0
   exact⟨rfl,by have:=H2.out;unfold lineL;simpa using this,HO2.out⟩
end Go.Proofs.YtgalfohobgjelaaGreatDoor
