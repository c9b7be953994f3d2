/- What is proved here:several parts. slices of hashes,those that come in and those that a call makes. Conditions:hashes have 32 bytes. · how many hashes a path and a growth have,by the reference. Conditions:the sizes are at most a thousand. · growths and paths,by the reference. Conditions:there are few texts,and they are short. · what a check of growth finds,in plain Lean:the program's way and the reference's are one. No conditions. -/
import Derived.Test.YtgalfohobgjelaaGreatDoorFr04
import Derived.Test.YtgalfohobgjelaaGreatDoorFr09
import Derived.Test.YtgalfohobgjelaaGreatDoorFr17
import Derived.Great.BuildSlice
import Derived.Deep.AppendLies
import Derived.Deep.DeepCutAuto
namespace Go.Proofs.YtgalfohobgjelaaGreatDoor
open Go.RowKit Go.Shelf
def hbC (h:Hs):List Value:=h.map bv
theorem hbC_one (h:Hs):∀u∈hbC h,u.oneCell'=true:=bvs_one h
def HsOk (L:List Hs):Prop:=∀h∈L,h.length=32
def HaSl (w:World) (v:Value) (L:List Hs):Prop:=
 ∃A cap,v= .slice A L.length cap∧L.length≤cap∧cap≤9223372036854775807∧∀(i:Nat) (h:Hs),L[i]? =some h→∃g o,A=some ⟨g,o,none⟩∧g<w.heap.size∧w.rangeAt g (o+i * 32) (hbC h)
theorem HaSl.only {w w':World} {v:Value} {L:List Hs} (h:HaSl w v L) (ho:Only NoneOf w w'):HaSl w' v L:=by
 obtain⟨A,cap,hv,h1,h2,h3⟩:=h
 refine⟨A,cap,hv,h1,h2,fun i p hp=> ?_⟩
 obtain⟨g,o,hA,hg,hr⟩:=h3 i p hp
 exact⟨g,o,hA,Nat.lt_of_lt_of_le hg ho.size,rng_only hr ho⟩
theorem HaSl.nil (w:World):HaSl w (.slice none 0 0) []:=⟨none,0,rfl,Nat.le_refl _,by omega,fun i s h=>by simp at h⟩
theorem HaSl.take {w:World} {g o n cap k:Nat} {L:List Hs} (h:HaSl w (.slice (some ⟨g,o,none⟩) n cap) L) (hk:k≤L.length):HaSl w (.slice (some ⟨g,o,none⟩) k cap) (L.take k):=by
 obtain⟨A,cap',e,h1,h2,h3⟩:=h
 simp only [Value.slice.injEq] at e
 obtain⟨rfl,rfl,rfl⟩:=e
 refine⟨some ⟨g,o,none⟩,cap,by rw [List.length_take,Nat.min_eq_left hk],by rw [List.length_take];omega,h2,fun i s hs=> ?_⟩
 rw [List.getElem?_take] at hs
 split at hs
 ·exact h3 i s hs
 ·cases hs
def HaOwn (w:World) (base:Nat) (v:Value) (n:Nat) (L:List Hs):Prop:=w.ownsRow base 35 32 v n (L.flatMap hbC)
theorem hbs_len:∀(L:List Hs) (_:HsOk L),(L.flatMap hbC).length=L.length * 32
 | [],_=>rfl
 |x::l,h=>by
  rw [List.flatMap_cons,List.length_append,hbs_len l (fun p hp=>h p (by simp [hp])),List.length_cons]
  have:(hbC x).length=32:=by unfold hbC;rw [List.length_map];exact h x (by simp)
  omega
theorem hbs_get:∀(L:List Hs) (_:HsOk L) (i j:Nat) (_:j<32) (p:Hs) (_:L[i]? =some p),(L.flatMap hbC)[i * 32+j]? =(hbC p)[j]?
 | [],_,_,_,_,_,h=>by simp at h
 |x::l,hf,i,j,hj,p,hp=>by
  have hx:(hbC x).length=32:=by unfold hbC;rw [List.length_map];exact hf x (by simp)
  cases i with
  |zero=>
   simp at hp;subst hp
   simp only [List.flatMap_cons,Nat.zero_mul,Nat.zero_add]
   rw [List.getElem?_append_left (by rw [hx];exact hj)]
  |succ i=>
   simp only [List.flatMap_cons]
   rw [List.getElem?_append_right (by rw [hx];omega),hx,show(i+1) * 32+j - 32=i * 32+j by omega]
   exact hbs_get l (fun q hq=>hf q (by simp [hq])) i j hj p (by simpa using hp)
theorem HaOwn.sl {w:World} {base:Nat} {v:Value} {L:List Hs} (h:HaOwn w base v L.length L) (hok:HsOk L):HaSl w v L:=by
 rcases h.2 with⟨rfl,h0⟩|⟨g,cap,cur,rfl,hb,hh,hc,hm,hs,ht⟩
 ·have hP0:L= []:=List.eq_nil_of_length_eq_zero h0
  subst hP0
  exact HaSl.nil w
 ·rw [maxLen_val] at hm
  refine⟨some ⟨g,0,none⟩,cap,rfl,hc,hm,fun i p hp=> ⟨g,0,rfl,Blk.lt (t:=35) hh,fun j x hj=> ?_⟩⟩
  have hj2:j<32:=by
   have:=(List.getElem?_eq_some_iff.1 hj).1
   unfold hbC at this
   rwa [List.length_map,hok p (List.mem_of_getElem? hp)] at this
  have h1:=hbs_get L hok i j hj2 p hp
  have h2:=World.ownsRow.cells h rfl (i * 32+j) x (h1.trans hj)
  rw [Addr.add_mid,Nat.zero_add] at h2
  rw [Nat.zero_add]
  exact h2
theorem HaOwn.nil (w:World) (base:Nat):HaOwn w base (.slice none 0 0) 0 []:=⟨rfl,.inl ⟨rfl,rfl⟩⟩
theorem own_lower {w:World} {base base':Nat} {e:TypeId} {size n:Nat} {v:Value} {xs:List Value} (h:w.ownsRow base e size v n xs) (hb:base'≤base):w.ownsRow base' e size v n xs:=by
 refine⟨h.1,?_⟩
 rcases h.2 with h0|⟨g,cap,cur,h1,h2,h3⟩
 ·exact .inl h0
 ·exact .inr ⟨g,cap,cur,h1,Nat.le_trans hb h2,h3⟩
theorem hash_info:∃ie z,Tryz.prog.info? 35=some ie∧ie.size=32∧ie.zero=some z∧z.cells.size=32∧ie.bytes≤100:=by
 have h1:(Tryz.prog.info? 35).map (·.size)=some 32:=by kernel_rfl
 have h2:((Tryz.prog.info? 35).bind (·.zero)).isSome=true:=by kernel_rfl
 have h3:(Tryz.prog.info? 35).map (fun i=>decide (i.bytes≤100))=some true:=by kernel_rfl
 have h4:((Tryz.prog.info? 35).bind (·.zero)).map (fun z=>z.cells.size)=some 32:=by kernel_rfl
 cases hie:Tryz.prog.info? 35 with
 |none=>simp [hie] at h1
 |some ie=>
  simp only [hie,Option.map_some,Option.some.injEq,Option.bind_some,decide_eq_true_eq] at h1 h2 h3 h4
  obtain⟨z,hz⟩:=Option.isSome_iff_exists.1 h2
  simp only [hz,Option.map_some,Option.some.injEq] at h4
  exact⟨ie,z,rfl,h1,hz,h4,h3⟩
def haBs1 (parts:Array (Nat×Value)):Sem Value:=Instr.buildSlice 59 1 parts
theorem haBs1_eq (parts:Array (Nat×Value)):Instr.buildSlice 59 1 parts=haBs1 parts:=rfl
theorem haBs1_run (h:Hs) (hl:h.length=32) (W:World):(haBs1 #[(0,hv h)]).run Tryz.prog W= .ok (.slice (some ⟨W.heap.size,0,none⟩) 1 1) (W.alloc (.cells (h.map bv).toArray 35)):=by
 obtain⟨ie,z,hie,hsz,hz,hzc,hby⟩:=hash_info
 have h32:(h.map bv).length=32:=by rw [List.length_map,hl]
 have e:([hv h].flatMap fun u=>u.cells.toList).toArray=(h.map bv).toArray:=by simp [Value.cells,hv]
 have h9:∀C:Array Value,C.size=32→Instr.fill (fun i=>some (i * 32,32)) C [(0,hv h)]=some (h.map bv).toArray:=fun C hC=>by
  have h8:=Great.fill_whole (s:=32) (by omega) [hv h] C (by intro u hu;simp only [List.mem_cons,List.not_mem_nil,or_false] at hu;subst hu;show(h.map bv).toArray.size=32;rw [List.size_toArray,h32]) (by rw [hC];rfl)
  rw [e] at h8
  exact h8
 exact run_buildSlice (P:=Tryz.prog) W 59 35 1 #[(0,hv h)] (h.map bv).toArray ie z Tryz.underlying59 hie hz (by rw [hsz];omega) (by rw [hsz];omega) (by rw [hsz];exact h9 _ (by simp))
theorem newH (W:World) (h:Hs):(W.alloc (.cells (h.map bv).toArray 35)).heap[W.heap.size]? =some (.cells (h.map bv).toArray 35 (0,0)):=Blk.new W _ _
end Go.Proofs.YtgalfohobgjelaaGreatDoor
namespace Go.Proofs.YtgalfohobgjelaaGreatDoor
open Go.RowKit Go.Shelf
theorem depthF_le:∀(f i n:Nat),depthF f i n≤f
 |0,_,_=>Nat.le_refl _
 |f+1,i,n=>by
  unfold depthF
  have h1:=depthF_le f i (halfN n)
  have h2:=depthF_le f (i - halfN n) (n - halfN n)
  split
  ·omega
  ·split<;>omega
end Go.Proofs.YtgalfohobgjelaaGreatDoor
namespace Go.Proofs.YtgalfohobgjelaaGreatDoor
open Go.RowKit Go.Shelf
attribute [local go_sem ↓ high] haBs1_eq
theorem growF_ok:∀(f:Nat) (l:List (List UInt8)) (m:Nat) (b:Bool),HsOk (growF f l m b)
 |0,_,_,_=>fun _ h=>by cases h
 |f+1,l,m,b=>by
  have h1:=growF_ok f (l.take (halfN l.length)) m b
  have h2:=growF_ok f (l.drop (halfN l.length)) (m - halfN l.length) false
  intro h hh
  unfold growF at hh
  split at hh
  ·split at hh
   ·cases hh
   ·rw [List.mem_singleton.1 hh];exact rootL_len _
  ·split at hh
   ·rcases List.mem_cons.1 hh with rfl|hh
    ·exact rootL_len _
    ·exact h1 h hh
   ·rcases List.mem_cons.1 hh with rfl|hh
    ·exact rootL_len _
    ·exact h2 h hh
theorem growF_len:∀(f:Nat) (l:List (List UInt8)) (m:Nat) (b:Bool),(growF f l m b).length≤f
 |0,_,_,_=>Nat.le_refl _
 |f+1,l,m,b=>by
  have h1:=growF_len f (l.take (halfN l.length)) m b
  have h2:=growF_len f (l.drop (halfN l.length)) (m - halfN l.length) false
  unfold growF
  split
  ·split<;>simp
  ·split<;> (rw [List.length_cons];omega)
theorem txs_take (L:List ByteArray) (k:Nat):txs (L.take k)=(txs L).take k:=List.map_take
theorem txs_drop (L:List ByteArray) (k:Nat):txs (L.drop k)=(txs L).drop k:=List.map_drop
theorem own_oneH {W:World} {g base:Nat} {h:Hs} (hb:Blk W g 35 (h.map bv).toArray) (hl:h.length=32) (hg:base≤g):W.ownsRow base 35 32 (.slice (some ⟨g,0,none⟩) 1 1) 1 (hbC h):=
 ⟨by unfold hbC;rw [List.length_map,hl],.inr ⟨g,1,(h.map bv).toArray,rfl,hg,hb,Nat.le_refl _,by rw [maxLen_val];omega,by rw [List.size_toArray,List.length_map,hl],by unfold hbC;rw [show(h.map bv).toArray.toList=h.map bv from rfl];exact List.take_of_length_le (by rw [List.length_map,hl];omega)⟩⟩
set_option maxRecDepth 100000 in
set_option maxHeartbeats 4000000 in
theorem rgrow_any:∀(f:Nat) (L:List ByteArray) (m:Nat) (whole:Bool) (_:L.length≤f) (_:f≤1000) (_:ShortTs L) (_:1≤m) (_:m≤L.length) (v:Value) (w:World) (_:StSl w v L),
  Calls Tryz.prog 51 #[v,.int .i64 (m:Int),.bool whole] w fun e w'=> ∃gv,e= .returned gv∧HaOwn w' w.heap.size gv (growF f (txs L) m whole).length (growF f (txs L) m whole).reverse∧Only NoneOf w w'
 |0,L,m,whole,hf,_,_,h1,h2,_,_,_=>by omega
 |f+1,L,m,whole,hf,hf2,hsh,h1,h2,v,w,hs=>by
  obtain⟨A,cap,rfl,hlc,hcm,hA⟩:=id hs
  obtain⟨s0,hs0⟩:∃s,L[0]? =some s:=⟨_,List.getElem?_eq_getElem (by omega)⟩
  obtain⟨g,o,rfl,hc0⟩:=hA 0 s0 hs0
  have hg0:growF (f+1) (txs L) m whole=if m=L.length then(if whole then [] else [rootL (txs L)]) else if m≤halfN L.length then rootL ((txs L).drop (halfN L.length))::growF f ((txs L).take (halfN L.length)) m whole else rootL ((txs L).take (halfN L.length))::growF f ((txs L).drop (halfN L.length)) (m - halfN L.length) false:=by
   rw [←txs_len L];rfl
  by_cases he:m=L.length
  ·have c1:((m:Int)==(L.length:Int))=true:=by simp [he]
   rw [if_pos he] at hg0
   cases whole with
   |true=>
    rw [hg0]
    clear hg0 hA hs hs0 hc0 he
    go_enter Tryz.func51,Tryz.ntmps51
    go_wp2_with fail
    go_ret
    exact⟨_,rfl,HaOwn.nil w _,Only.refl _ _⟩
   |false=>
    rw [hg0]
    obtain⟨a,ea⟩:∃a,a=rootL (txs L):=⟨_,rfl⟩
    have hal:a.length=32:=by rw [ea];exact rootL_len _
    have hroot:Calls Tryz.prog 42 #[.slice (some ⟨g,o,none⟩) L.length cap] w fun e w'=>e= .returned (hv a)∧Only NoneOf w w':=by rw [ea];exact rroot_any L.length L (Nat.le_refl _) (by omega) hsh _ w hs
    have hbs:=haBs1_run a hal
    have HR:=Lib.hid hroot
    have HAL:=Lib.hid hal
    rw [←ea]
    clear hroot hal ea hg0 hA hs hs0 hc0 he
    go_enter Tryz.func51,Tryz.ntmps51
    go_wp2_with fail
    refine HR.out.mono ?_
    rintro e1 w1 ⟨rfl,ho1⟩
    have HO1:=Lib.hid ho1
    clear ho1
    go_wp2_with fail
    go_ret
    refine⟨_,rfl,?_,HO1.out.alloc _⟩
    have h:=own_oneH (base:=w.heap.size) (Blk.new w1 35 (a.map bv).toArray) HAL.out HO1.out.size
    unfold HaOwn
    simpa using h
  ·have c1:((m:Int)==(L.length:Int))=false:=by rw [beq_eq_false_iff_ne];omega
   rw [if_neg he] at hg0
   have hsp:=halfN_spec (n:=L.length) (by omega) (by omega)
   obtain⟨k,ek⟩:∃k,k=halfN L.length:=⟨_,rfl⟩
   have HH:Hid (∀W,Calls Tryz.prog 60 #[.int .i64 (L.length:Int)] W fun e w'=>e= .returned (.int .i64 (k:Int))∧w'=W):=Lib.hid (fun W=>by rw [ek];exact rhalf_any L.length (by omega) (by omega) W)
   rw [←ek] at hsp hg0
   have ik0:(0:Int)≤(k:Int):=by omega
   have ik1:(k:Int)≤(cap:Int):=by omega
   have ik2:(k:Int)≤(L.length:Int):=by omega
   have il:(L.length:Int)≤(cap:Int):=by omega
   have nk:¬cap=k:=by omega
   by_cases hk:m≤k
   ·have c2:decide ((m:Int)≤(k:Int))=true:=decide_eq_true (by omega)
    obtain⟨LG,eLG⟩:∃LG,LG=growF f (txs (L.take k)) m whole:=⟨_,rfl⟩
    obtain⟨a,ea⟩:∃a,a=rootL (txs (L.drop k)):=⟨_,rfl⟩
    have hal:a.length=32:=by rw [ea];exact rootL_len _
    have hLG:HsOk LG:=by rw [eLG];exact growF_ok _ _ _ _
    have hLl:LG.length≤f:=by rw [eLG];exact growF_len _ _ _ _
    have hg1:growF (f+1) (txs L) m whole=a::LG:=by rw [hg0,if_pos hk,ea,eLG,txs_take,txs_drop,ek]
    have hrec:∀W,Only NoneOf w W→Calls Tryz.prog 51 #[(.slice (some ⟨g,o,none⟩) k cap),.int .i64 (m:Int),.bool whole] W fun e w'=> ∃gv,e= .returned gv∧HaOwn w' w.heap.size gv LG.length LG.reverse∧Only NoneOf W w':=fun W ho=>by
     have h:=rgrow_any f (L.take k) m whole (by rw [List.length_take];omega) (by omega) (fun s h=>hsh s (by first|exact List.mem_of_mem_take h|exact List.mem_of_mem_drop h)) (by omega) (by rw [List.length_take];omega) _ W ((hs.only ho).take (by omega))
     rw [←eLG] at h
     exact h.mono (fun e w' ⟨gv,h1,h2,h3⟩=> ⟨gv,h1,own_lower h2 ho.size,h3⟩)
    have hroot:∀W,Only NoneOf w W→Calls Tryz.prog 42 #[(.slice (some ⟨g,o+k,none⟩) (L.length - k) (cap - k))] W fun e w'=>e= .returned (hv a)∧Only NoneOf W w':=fun W ho=>by
     rw [ea]
     exact rroot_any L.length (L.drop k) (by rw [List.length_drop];omega) (by rw [List.length_drop];omega) (fun s h=>hsh s (by first|exact List.mem_of_mem_take h|exact List.mem_of_mem_drop h)) _ W ((hs.only ho).drop (by omega))
    obtain⟨ie,zz,hie,hsz,hz,hzc,hby⟩:=hash_info
    have HIE:=Lib.hid hie
    have HSZ:=Lib.hid hsz
    have HZZ:=Lib.hid hz
    have HZC:=Lib.hid hzc
    have HBY:=Lib.hid hby
    have hbs:=haBs1_run a hal
    have GC:=Lib.hid hrec
    have RC:=Lib.hid hroot
    have HAL:=Lib.hid hal
    have HLG:=Lib.hid hLG
    rw [hg1]
    have hS0:Only NoneOf w w.drew:=(Only.refl _ _).drew
    have hx:True:=trivial
    clear hrec hroot hal hLG hg0 hg1 ea eLG ek hie hsz hz hzc hby hA hs hs0 hc0 he
    go_enter Tryz.func51,Tryz.ntmps51
    go_wp2_with fail
    refine(HH.out _).mono ?_
    rintro e1 w1 ⟨rfl,rfl⟩
    go_upto_region 7 with(fail)
    go_region_held3 (fun W=>Only NoneOf w1 W) (first|(with_reducible assumption)|(with_reducible exact Only.alloc (by with_reducible assumption) _))
     (first
      |(refine step_append_lies _ (by rfl) _ _ _ (by rfl) w1.heap.size 35 ie zz 32 ie.bytes Tryz.underlying59 HIE.out HZZ.out HSZ.out rfl HZC.out (by omega) gv LG.length (LG.reverse.flatMap hbC) (by rfl) (World.ownsRow.alloc hown6 _) _ 1 1 (hbC a) (by rfl) (by unfold hbC;rw [List.length_map,HAL.out]) (World.news_of_block (cs:=(a.map bv).toArray) (t:=35) (fr:=(0,0)) (newH _ a)) (hbC_one a) (by omega) (by rw [maxLen_val];omega) (by have:=HBY.out;exact Nat.le_trans (Nat.mul_le_mul (show LG.length+1≤2000 by omega) this) (by omega)) (Only.size (by with_reducible first|assumption|exact Only.alloc (by assumption) _)) _ rfl ?_;intro g8 cap8 w8 hown8 hgrow8 hat8 hlt8;have hS8:Only NoneOf w1 w8:=(Only.alloc hS6 _).grown hgrow8 (fun j e=> .inr (own_ge hown6 e).1);clear hgrow8 hat8 hlt8)
      |(go_at_call 51;(with_reducible refine(GC.out _ (by assumption)).mono ?_);rintro e5 w5 ⟨gv,rfl,hown5,ho5⟩;have hS5:=Only.trans (by with_reducible assumption) ho5)
      |(go_at_call 42;(with_reducible refine(RC.out _ (by assumption)).mono ?_);rintro e6 w6 ⟨rfl,ho6⟩;have hS6:=Only.trans (by with_reducible assumption) ho6;have hown6:=own_only hown5 ho6 (fun _ _ e=>e)))
    all_goals
     have HF:=Lib.hid hS8
     have HW:=Lib.hid hown8
     clear hown8 hS8
     go_wp2_with fail
     go_ret
     refine⟨_,rfl,?_,HF.out⟩
     have h:=HW.out
     unfold HaOwn
     rw [List.reverse_cons,List.flatMap_append]
     simpa using h
   ·have c2:decide ((m:Int)≤(k:Int))=false:=decide_eq_false (by omega)
    have kmk:(m:Int) - (k:Int)=((m - k:Nat):Int):=by omega
    obtain⟨LG,eLG⟩:∃LG,LG=growF f (txs (L.drop k)) (m - k) false:=⟨_,rfl⟩
    obtain⟨a,ea⟩:∃a,a=rootL (txs (L.take k)):=⟨_,rfl⟩
    have hal:a.length=32:=by rw [ea];exact rootL_len _
    have hLG:HsOk LG:=by rw [eLG];exact growF_ok _ _ _ _
    have hLl:LG.length≤f:=by rw [eLG];exact growF_len _ _ _ _
    have hg1:growF (f+1) (txs L) m whole=a::LG:=by rw [hg0,if_neg hk,ea,eLG,txs_take,txs_drop,ek]
    have hrec:∀W,Only NoneOf w W→Calls Tryz.prog 51 #[(.slice (some ⟨g,o+k,none⟩) (L.length - k) (cap - k)),.int .i64 ((m:Int) - (k:Int)),.bool false] W fun e w'=> ∃gv,e= .returned gv∧HaOwn w' w.heap.size gv LG.length LG.reverse∧Only NoneOf W w':=fun W ho=>by
     have h:=rgrow_any f (L.drop k) (m - k) false (by rw [List.length_drop];omega) (by omega) (fun s h=>hsh s (by first|exact List.mem_of_mem_take h|exact List.mem_of_mem_drop h)) (by omega) (by rw [List.length_drop];omega) _ W ((hs.only ho).drop (by omega))
     rw [←eLG,←kmk] at h
     exact h.mono (fun e w' ⟨gv,h1,h2,h3⟩=> ⟨gv,h1,own_lower h2 ho.size,h3⟩)
    have hroot:∀W,Only NoneOf w W→Calls Tryz.prog 42 #[(.slice (some ⟨g,o,none⟩) k cap)] W fun e w'=>e= .returned (hv a)∧Only NoneOf W w':=fun W ho=>by
     rw [ea]
     exact rroot_any L.length (L.take k) (by rw [List.length_take];omega) (by rw [List.length_take];omega) (fun s h=>hsh s (by first|exact List.mem_of_mem_take h|exact List.mem_of_mem_drop h)) _ W ((hs.only ho).take (by omega))
    obtain⟨ie,zz,hie,hsz,hz,hzc,hby⟩:=hash_info
    have HIE:=Lib.hid hie
    have HSZ:=Lib.hid hsz
    have HZZ:=Lib.hid hz
    have HZC:=Lib.hid hzc
    have HBY:=Lib.hid hby
    have hbs:=haBs1_run a hal
    have GC:=Lib.hid hrec
    have RC:=Lib.hid hroot
    have HAL:=Lib.hid hal
    have HLG:=Lib.hid hLG
    rw [hg1]
    have hS0:Only NoneOf w w.drew:=(Only.refl _ _).drew
    have hx:IntKind.i64.wrap ((m:Int) - (k:Int))=(m:Int) - (k:Int):=IntWalk.i64_in _ (by omega)
    clear kmk hrec hroot hal hLG hg0 hg1 ea eLG ek hie hsz hz hzc hby hA hs hs0 hc0 he
    go_enter Tryz.func51,Tryz.ntmps51
    go_wp2_with fail
    refine(HH.out _).mono ?_
    rintro e1 w1 ⟨rfl,rfl⟩
    go_upto_region 8 with(fail)
    go_region_held3 (fun W=>Only NoneOf w1 W) (first|(with_reducible assumption)|(with_reducible exact Only.alloc (by with_reducible assumption) _))
     (first
      |(refine step_append_lies _ (by rfl) _ _ _ (by rfl) w1.heap.size 35 ie zz 32 ie.bytes Tryz.underlying59 HIE.out HZZ.out HSZ.out rfl HZC.out (by omega) gv LG.length (LG.reverse.flatMap hbC) (by rfl) (World.ownsRow.alloc hown6 _) _ 1 1 (hbC a) (by rfl) (by unfold hbC;rw [List.length_map,HAL.out]) (World.news_of_block (cs:=(a.map bv).toArray) (t:=35) (fr:=(0,0)) (newH _ a)) (hbC_one a) (by omega) (by rw [maxLen_val];omega) (by have:=HBY.out;exact Nat.le_trans (Nat.mul_le_mul (show LG.length+1≤2000 by omega) this) (by omega)) (Only.size (by with_reducible first|assumption|exact Only.alloc (by assumption) _)) _ rfl ?_;intro g8 cap8 w8 hown8 hgrow8 hat8 hlt8;have hS8:Only NoneOf w1 w8:=(Only.alloc hS6 _).grown hgrow8 (fun j e=> .inr (own_ge hown6 e).1);clear hgrow8 hat8 hlt8)
      |(go_at_call 51;(with_reducible refine(GC.out _ (by assumption)).mono ?_);rintro e5 w5 ⟨gv,rfl,hown5,ho5⟩;have hS5:=Only.trans (by with_reducible assumption) ho5)
      |(go_at_call 42;(with_reducible refine(RC.out _ (by assumption)).mono ?_);rintro e6 w6 ⟨rfl,ho6⟩;have hS6:=Only.trans (by with_reducible assumption) ho6;have hown6:=own_only hown5 ho6 (fun _ _ e=>e)))
    all_goals
     have HF:=Lib.hid hS8
     have HW:=Lib.hid hown8
     clear hown8 hS8
     go_wp2_with fail
     go_ret
     refine⟨_,rfl,?_,HF.out⟩
     have h:=HW.out
     unfold HaOwn
     rw [List.reverse_cons,List.flatMap_append]
     simpa using h
def growL (l:List (List UInt8)) (m:Nat):List Hs:=if m=0∨m=l.length then [] else(growF l.length l m true).reverse
theorem growL_ok (l:List (List UInt8)) (m:Nat):HsOk (growL l m):=by
 unfold growL
 split
 ·exact fun _ h=>by cases h
 ·exact fun h hh=>growF_ok _ _ _ _ h (List.mem_reverse.1 hh)
set_option maxHeartbeats 2000000 in
theorem rgrowth_any (L:List ByteArray) (m:Nat) (hm:m≤L.length) (hl:L.length≤1000) (hsh:ShortTs L) (v:Value) (w:World) (hs:StSl w v L):
  Calls Tryz.prog 21 #[v,.int .i64 (m:Int)] w fun e w'=> ∃gv,e= .returned (.tuple #[gv,.bool true])∧HaOwn w' w.heap.size gv (growL (txs L) m).length (growL (txs L) m)∧Only NoneOf w w':=by
 obtain⟨A,cap,rfl,hlc,hcm,_⟩:=id hs
 have d1:decide ((m:Int) <0)=false:=decide_eq_false (by omega)
 have d2:decide ((L.length:Int) < (m:Int))=false:=decide_eq_false (by omega)
 by_cases h0:m=0
 ·have hg:growL (txs L) m= []:=by unfold growL;rw [if_pos (.inl h0)]
  have d3:((m:Int)==0)=true:=by simp [h0]
  rw [hg]
  clear hg hs h0
  go_enter Tryz.func21,Tryz.ntmps21
  go_wp2_with fail
  go_ret2
  exact⟨_,rfl,HaOwn.nil w _,Only.refl _ _⟩
 ·have d3:((m:Int)==0)=false:=by rw [beq_eq_false_iff_ne];omega
  by_cases hn:m=L.length
  ·have hg:growL (txs L) m= []:=by unfold growL;rw [if_pos (.inr (by rw [txs_len];exact hn))]
   have d4:((m:Int)==(L.length:Int))=true:=by simp [hn]
   rw [hg]
   clear hg hs hn
   go_enter Tryz.func21,Tryz.ntmps21
   go_wp2_with fail
   go_ret2
   exact⟨_,rfl,HaOwn.nil w _,Only.refl _ _⟩
  ·have hg:growL (txs L) m=(growF L.length (txs L) m true).reverse:=by unfold growL;rw [if_neg (by rw [txs_len];omega),txs_len]
   have d4:((m:Int)==(L.length:Int))=false:=by rw [beq_eq_false_iff_ne];omega
   have hgr:=rgrow_any L.length L m true (Nat.le_refl _) hl hsh (by omega) hm _ w hs
   rw [hg,List.length_reverse]
   have HG:=Lib.hid hgr
   clear hg hgr hs hn
   go_enter Tryz.func21,Tryz.ntmps21
   go_wp2_with fail
   refine HG.out.mono ?_
   rintro e1 w1 ⟨gv,rfl,hown,ho⟩
   have HF:=Lib.hid (And.intro hown ho)
   clear hown ho
   go_wp2_with fail
   go_ret2
   exact⟨_,rfl,HF.out.1,HF.out.2⟩
end Go.Proofs.YtgalfohobgjelaaGreatDoor
namespace Go.Proofs.YtgalfohobgjelaaGreatDoor
open Go.RowKit Go.Shelf
attribute [local go_sem ↓ high] haBs1_eq
theorem pathF_ok:∀(f:Nat) (l:List (List UInt8)) (i:Nat),HsOk (pathF f l i)
 |0,_,_=>fun _ h=>by cases h
 |f+1,l,i=>by
  have h1:=pathF_ok f (l.take (halfN l.length)) i
  have h2:=pathF_ok f (l.drop (halfN l.length)) (i - halfN l.length)
  intro h hh
  unfold pathF at hh
  split at hh
  ·cases hh
  ·split at hh
   ·rcases List.mem_cons.1 hh with rfl|hh
    ·exact rootL_len _
    ·exact h1 h hh
   ·rcases List.mem_cons.1 hh with rfl|hh
    ·exact rootL_len _
    ·exact h2 h hh
theorem pathF_len:∀(f:Nat) (l:List (List UInt8)) (i:Nat),(pathF f l i).length≤f
 |0,_,_=>Nat.le_refl _
 |f+1,l,i=>by
  have h1:=pathF_len f (l.take (halfN l.length)) i
  have h2:=pathF_len f (l.drop (halfN l.length)) (i - halfN l.length)
  unfold pathF
  split
  ·simp
  ·split<;> (rw [List.length_cons];omega)
set_option maxRecDepth 100000 in
set_option maxHeartbeats 4000000 in
theorem rpath_any:∀(f:Nat) (L:List ByteArray) (i:Nat) (_:L.length≤f) (_:f≤1000) (_:ShortTs L) (_:i<L.length) (v:Value) (w:World) (_:StSl w v L),
  Calls Tryz.prog 29 #[v,.int .i64 (i:Int)] w fun e w'=> ∃gv,e= .returned (.tuple #[gv,.bool true])∧HaOwn w' w.heap.size gv (pathF f (txs L) i).length (pathF f (txs L) i).reverse∧Only NoneOf w w'
 |0,L,i,hf,_,_,h1,_,_,_=>by omega
 |f+1,L,i,hf,hf2,hsh,h1,v,w,hs=>by
  obtain⟨A,cap,rfl,hlc,hcm,hA⟩:=id hs
  obtain⟨s0,hs0⟩:∃s,L[0]? =some s:=⟨_,List.getElem?_eq_getElem (by omega)⟩
  obtain⟨g,o,rfl,hc0⟩:=hA 0 s0 hs0
  have hg0:pathF (f+1) (txs L) i=if L.length≤1 then [] else if i<halfN L.length then rootL ((txs L).drop (halfN L.length))::pathF f ((txs L).take (halfN L.length)) i else rootL ((txs L).take (halfN L.length))::pathF f ((txs L).drop (halfN L.length)) (i - halfN L.length):=by
   rw [←txs_len L];rfl
  have d1:decide ((i:Int) <0)=false:=decide_eq_false (by omega)
  have d2:decide ((L.length:Int)≤(i:Int))=false:=decide_eq_false (by omega)
  by_cases he:L.length≤1
  ·have c1:((L.length:Int)==1)=true:=by simp;omega
   rw [hg0,if_pos he]
   clear hg0 hA hs hs0 hc0 he
   go_enter Tryz.func29,Tryz.ntmps29
   go_wp2_with fail
   go_ret2
   exact⟨_,rfl,HaOwn.nil w _,Only.refl _ _⟩
  ·have c1:((L.length:Int)==1)=false:=by rw [beq_eq_false_iff_ne];omega
   rw [if_neg he] at hg0
   have hsp:=halfN_spec (n:=L.length) (by omega) (by omega)
   obtain⟨k,ek⟩:∃k,k=halfN L.length:=⟨_,rfl⟩
   have HH:Hid (∀W,Calls Tryz.prog 60 #[.int .i64 (L.length:Int)] W fun e w'=>e= .returned (.int .i64 (k:Int))∧w'=W):=Lib.hid (fun W=>by rw [ek];exact rhalf_any L.length (by omega) (by omega) W)
   rw [←ek] at hsp hg0
   have ik0:(0:Int)≤(k:Int):=by omega
   have ik1:(k:Int)≤(cap:Int):=by omega
   have ik2:(k:Int)≤(L.length:Int):=by omega
   have il:(L.length:Int)≤(cap:Int):=by omega
   have nk:¬cap=k:=by omega
   by_cases hk:i<k
   ·have c2:decide ((i:Int) < (k:Int))=true:=decide_eq_true (by omega)
    obtain⟨LG,eLG⟩:∃LG,LG=pathF f (txs (L.take k)) i:=⟨_,rfl⟩
    obtain⟨a,ea⟩:∃a,a=rootL (txs (L.drop k)):=⟨_,rfl⟩
    have hal:a.length=32:=by rw [ea];exact rootL_len _
    have hLG:HsOk LG:=by rw [eLG];exact pathF_ok _ _ _
    have hLl:LG.length≤f:=by rw [eLG];exact pathF_len _ _ _
    have hg1:pathF (f+1) (txs L) i=a::LG:=by rw [hg0,if_pos hk,ea,eLG,txs_take,txs_drop,ek]
    have hrec:∀W,Only NoneOf w W→Calls Tryz.prog 29 #[(.slice (some ⟨g,o,none⟩) k cap),.int .i64 (i:Int)] W fun e w'=> ∃gv,e= .returned (.tuple #[gv,.bool true])∧HaOwn w' w.heap.size gv LG.length LG.reverse∧Only NoneOf W w':=fun W ho=>by
     have h:=rpath_any f (L.take k) i (by rw [List.length_take];omega) (by omega) (fun s h=>hsh s (by first|exact List.mem_of_mem_take h|exact List.mem_of_mem_drop h)) (by rw [List.length_take];omega) _ W ((hs.only ho).take (by omega))
     rw [←eLG] at h
     exact h.mono (fun e w' ⟨gv,h1,h2,h3⟩=> ⟨gv,h1,own_lower h2 ho.size,h3⟩)
    have hroot:∀W,Only NoneOf w W→Calls Tryz.prog 42 #[(.slice (some ⟨g,o+k,none⟩) (L.length - k) (cap - k))] W fun e w'=>e= .returned (hv a)∧Only NoneOf W w':=fun W ho=>by
     rw [ea]
     exact rroot_any L.length (L.drop k) (by rw [List.length_drop];omega) (by rw [List.length_drop];omega) (fun s h=>hsh s (by first|exact List.mem_of_mem_take h|exact List.mem_of_mem_drop h)) _ W ((hs.only ho).drop (by omega))
    obtain⟨ie,zz,hie,hsz,hz,hzc,hby⟩:=hash_info
    have HIE:=Lib.hid hie
    have HSZ:=Lib.hid hsz
    have HZZ:=Lib.hid hz
    have HZC:=Lib.hid hzc
    have HBY:=Lib.hid hby
    have hbs:=haBs1_run a hal
    have GC:=Lib.hid hrec
    have RC:=Lib.hid hroot
    have HAL:=Lib.hid hal
    have HLG:=Lib.hid hLG
    rw [hg1]
    have hx:True:=trivial
    clear hrec hroot hal hLG hg0 hg1 ea eLG ek hie hsz hz hzc hby hA hs hs0 hc0 he
    go_enter Tryz.func29,Tryz.ntmps29
    go_wp2_with fail
    refine(HH.out _).mono ?_
    rintro e1 w1 ⟨rfl,rfl⟩
    go_wp2_with fail
    refine(GC.out _ (Only.refl _ _)).mono ?_
    rintro e5 w5 ⟨gv,rfl,hown5,hS5⟩
    have HS5:=Lib.hid hS5
    have HO5:=Lib.hid hown5
    clear hown5 hS5
    go_wp2_with (at_builtin;fail)
    refine(RC.out _ HS5.out).mono ?_
    rintro e6 w6 ⟨rfl,ho6⟩
    have hS6:=HS5.out.trans ho6
    have hown6:=own_only HO5.out ho6 (fun _ _ e=>e)
    go_wp2_with (at_builtin;refine wpList_append_lies _ rfl _ _ 59 rfl w1.heap.size 35 ie zz 32 ie.bytes Tryz.underlying59 HIE.out HZZ.out HSZ.out rfl HZC.out (by omega) gv LG.length (LG.reverse.flatMap hbC) rfl (World.ownsRow.alloc hown6 _) _ 1 1 (hbC a) rfl (by unfold hbC;rw [List.length_map,HAL.out]) (World.news_of_block (cs:=(a.map bv).toArray) (t:=35) (fr:=(0,0)) (newH _ a)) (hbC_one a) (by omega) (by rw [maxLen_val];omega) (by have:=HBY.out;exact Nat.le_trans (Nat.mul_le_mul (show LG.length+1≤2000 by omega) this) (by omega)) (Only.size (Only.alloc hS6 _)) _ rfl ?_;intro g8 cap8 w8 hown8 hgrow8 hat8 hlt8)
    have hS8:Only NoneOf w1 w8:=(Only.alloc hS6 _).grown hgrow8 (fun j e=> .inr (own_ge hown6 e).1)
    clear hgrow8 hat8 hlt8 hown6 hS6 ho6
    have HF:=Lib.hid hS8
    have HW:=Lib.hid hown8
    clear hown8 hS8
    go_wp2_with fail
    go_ret2
    refine⟨_,rfl,?_,HF.out⟩
    have h:=HW.out
    unfold HaOwn
    rw [List.reverse_cons,List.flatMap_append]
    simpa using h
   ·have c2:decide ((i:Int) < (k:Int))=false:=decide_eq_false (by omega)
    have kmk:(i:Int) - (k:Int)=((i - k:Nat):Int):=by omega
    obtain⟨LG,eLG⟩:∃LG,LG=pathF f (txs (L.drop k)) (i - k):=⟨_,rfl⟩
    obtain⟨a,ea⟩:∃a,a=rootL (txs (L.take k)):=⟨_,rfl⟩
    have hal:a.length=32:=by rw [ea];exact rootL_len _
    have hLG:HsOk LG:=by rw [eLG];exact pathF_ok _ _ _
    have hLl:LG.length≤f:=by rw [eLG];exact pathF_len _ _ _
    have hg1:pathF (f+1) (txs L) i=a::LG:=by rw [hg0,if_neg hk,ea,eLG,txs_take,txs_drop,ek]
    have hrec:∀W,Only NoneOf w W→Calls Tryz.prog 29 #[(.slice (some ⟨g,o+k,none⟩) (L.length - k) (cap - k)),.int .i64 ((i:Int) - (k:Int))] W fun e w'=> ∃gv,e= .returned (.tuple #[gv,.bool true])∧HaOwn w' w.heap.size gv LG.length LG.reverse∧Only NoneOf W w':=fun W ho=>by
     have h:=rpath_any f (L.drop k) (i - k) (by rw [List.length_drop];omega) (by omega) (fun s h=>hsh s (by first|exact List.mem_of_mem_take h|exact List.mem_of_mem_drop h)) (by rw [List.length_drop];omega) _ W ((hs.only ho).drop (by omega))
     rw [←eLG,←kmk] at h
     exact h.mono (fun e w' ⟨gv,h1,h2,h3⟩=> ⟨gv,h1,own_lower h2 ho.size,h3⟩)
    have hroot:∀W,Only NoneOf w W→Calls Tryz.prog 42 #[(.slice (some ⟨g,o,none⟩) k cap)] W fun e w'=>e= .returned (hv a)∧Only NoneOf W w':=fun W ho=>by
     rw [ea]
     exact rroot_any L.length (L.take k) (by rw [List.length_take];omega) (by rw [List.length_take];omega) (fun s h=>hsh s (by first|exact List.mem_of_mem_take h|exact List.mem_of_mem_drop h)) _ W ((hs.only ho).take (by omega))
    obtain⟨ie,zz,hie,hsz,hz,hzc,hby⟩:=hash_info
    have HIE:=Lib.hid hie
    have HSZ:=Lib.hid hsz
    have HZZ:=Lib.hid hz
    have HZC:=Lib.hid hzc
    have HBY:=Lib.hid hby
    have hbs:=haBs1_run a hal
    have GC:=Lib.hid hrec
    have RC:=Lib.hid hroot
    have HAL:=Lib.hid hal
    have HLG:=Lib.hid hLG
    rw [hg1]
    have hx:IntKind.i64.wrap ((i:Int) - (k:Int))=(i:Int) - (k:Int):=IntWalk.i64_in _ (by omega)
    clear kmk hrec hroot hal hLG hg0 hg1 ea eLG ek hie hsz hz hzc hby hA hs hs0 hc0 he
    go_enter Tryz.func29,Tryz.ntmps29
    go_wp2_with fail
    refine(HH.out _).mono ?_
    rintro e1 w1 ⟨rfl,rfl⟩
    go_wp2_with fail
    refine(GC.out _ (Only.refl _ _)).mono ?_
    rintro e5 w5 ⟨gv,rfl,hown5,hS5⟩
    have HS5:=Lib.hid hS5
    have HO5:=Lib.hid hown5
    clear hown5 hS5
    go_wp2_with (at_builtin;fail)
    refine(RC.out _ HS5.out).mono ?_
    rintro e6 w6 ⟨rfl,ho6⟩
    have hS6:=HS5.out.trans ho6
    have hown6:=own_only HO5.out ho6 (fun _ _ e=>e)
    go_wp2_with (at_builtin;refine wpList_append_lies _ rfl _ _ 59 rfl w1.heap.size 35 ie zz 32 ie.bytes Tryz.underlying59 HIE.out HZZ.out HSZ.out rfl HZC.out (by omega) gv LG.length (LG.reverse.flatMap hbC) rfl (World.ownsRow.alloc hown6 _) _ 1 1 (hbC a) rfl (by unfold hbC;rw [List.length_map,HAL.out]) (World.news_of_block (cs:=(a.map bv).toArray) (t:=35) (fr:=(0,0)) (newH _ a)) (hbC_one a) (by omega) (by rw [maxLen_val];omega) (by have:=HBY.out;exact Nat.le_trans (Nat.mul_le_mul (show LG.length+1≤2000 by omega) this) (by omega)) (Only.size (Only.alloc hS6 _)) _ rfl ?_;intro g8 cap8 w8 hown8 hgrow8 hat8 hlt8)
    have hS8:Only NoneOf w1 w8:=(Only.alloc hS6 _).grown hgrow8 (fun j e=> .inr (own_ge hown6 e).1)
    clear hgrow8 hat8 hlt8 hown6 hS6 ho6
    have HF:=Lib.hid hS8
    have HW:=Lib.hid hown8
    clear hown8 hS8
    go_wp2_with fail
    go_ret2
    refine⟨_,rfl,?_,HF.out⟩
    have h:=HW.out
    unfold HaOwn
    rw [List.reverse_cons,List.flatMap_append]
    simpa using h
end Go.Proofs.YtgalfohobgjelaaGreatDoor
namespace Go.Proofs.YtgalfohobgjelaaGreatDoor
open Go.RowKit Go.Shelf
attribute [local go_sem ↓ high] haLoad_eq haStore_eq
abbrev zeroLit:Array Value:= #[.int .u8 0,.int .u8 0,.int .u8 0,.int .u8 0,.int .u8 0,.int .u8 0,.int .u8 0,.int .u8 0,.int .u8 0,.int .u8 0,.int .u8 0,.int .u8 0,.int .u8 0,.int .u8 0,.int .u8 0,.int .u8 0,.int .u8 0,.int .u8 0,.int .u8 0,.int .u8 0,.int .u8 0,.int .u8 0,.int .u8 0,.int .u8 0,.int .u8 0,.int .u8 0,.int .u8 0,.int .u8 0,.int .u8 0,.int .u8 0,.int .u8 0,.int .u8 0]
theorem fresh_at (W:World):HaAt (W.alloc (.cells zeroLit 35)) W.heap.size zeroH:=Blk.new W _ _
theorem fresh_store (W:World) (t:Hs) (ht:t.length=32):(haStore (.pointer (some ⟨W.heap.size,0,none⟩)) (hv t)).run Tryz.prog (W.alloc (.cells #[.int .u8 0,.int .u8 0,.int .u8 0,.int .u8 0,.int .u8 0,.int .u8 0,.int .u8 0,.int .u8 0,.int .u8 0,.int .u8 0,.int .u8 0,.int .u8 0,.int .u8 0,.int .u8 0,.int .u8 0,.int .u8 0,.int .u8 0,.int .u8 0,.int .u8 0,.int .u8 0,.int .u8 0,.int .u8 0,.int .u8 0,.int .u8 0,.int .u8 0,.int .u8 0,.int .u8 0,.int .u8 0,.int .u8 0,.int .u8 0,.int .u8 0,.int .u8 0] 35))= .ok () ((W.alloc (.cells zeroLit 35)).setCells W.heap.size 0 (t.map bv)):=ha_store (fresh_at W) rfl ht
end Go.Proofs.YtgalfohobgjelaaGreatDoor
namespace Go.Proofs.YtgalfohobgjelaaGreatDoor
def ckB (m n:Nat) (o r:Hs) (Q:List Hs):Bool:=if Q.length=manyF n m n true then((bothF n m n true o Q.reverse).1==o && (bothF n m n true o Q.reverse).2==r) else false
def ckW (z:Hs) (m n:Nat) (o r:Hs) (Q:List Hs):Bool:=
 (walkF z n m n true o (Q,true)).2.2 && ((walkF z n m n true o (Q,true)).2.1.isEmpty && ((walkF z n m n true o (Q,true)).1.1==o && (walkF z n m n true o (Q,true)).1.2==r))
theorem ckW_eq (z:Hs) (m n:Nat) (o r:Hs) (Q:List Hs):ckW z m n o r Q=ckB m n o r Q:=by
 unfold ckW ckB
 by_cases h1:Q.length<manyF n m n true
 ·rw [walk_short z n m n true o Q h1,if_neg (by omega),Bool.false_and]
 ·rw [walk_enough z n m n true o Q (by omega)]
  by_cases h2:Q.length=manyF n m n true
  ·rw [if_pos h2,←h2,List.take_length,List.drop_length]
   rfl
  ·rw [if_neg h2]
   have h3:(Q.drop (manyF n m n true)).isEmpty=false:=by
    rw [List.isEmpty_eq_false_iff]
    intro h
    have:=congrArg List.length h
    rw [List.length_drop] at this
    simp at this
    omega
   rw [h3]
   simp
end Go.Proofs.YtgalfohobgjelaaGreatDoor
