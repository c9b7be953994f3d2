/- What is proved here:several parts. several parts. persons in memory,those that come in and those that a call makes. No conditions. · heads and votes as plain data,officers,which votes count;plain laws. No conditions. · heads and votes in memory:loads,stores,slices. Conditions:roots have 32 bytes. · slices of votes that the call made:one put in another's place,read,cleared. Conditions:roots have 32 bytes. · several parts. maps in memory,told by what stands at each key;no function of the program. No conditions. · how two structs are compared,field by field. No conditions. -/
import Derived.Test.YtgalfohobgjelaaGreatDoorFr01
import Derived.Test.YtgalfohobgjelaaGreatDoorFr02
import Derived.Test.YtgalfohobgjelaaGreatDoorFr08
import Derived.Deep.MidRow
import Derived.Deep.RegionLaw
import Derived.Deep.AppendLies
import Derived.Deep.DeepCutAuto
import Derived.Deep.RegionHeld3
import Derived.Laws.CopyRow
import Derived.Maps.RangeWalk
import Derived.WideKeyEntry
import Derived.DeepKeys4
import Derived.Laws.StructEq
import Derived.Stop.BytesEq
namespace Go.Proofs.YtgalfohobgjelaaGreatDoor
open Go.RowKit
theorem rng_only {w w':World} {g o:Nat} {cs:List Value} (h:w.rangeAt g o cs) (ho:Only NoneOf w w'):w'.rangeAt g o cs:=fun j v hj=>ho.cell_some (h j v hj) (fun e=>e)
structure Pers where
 id:Int
 role:Int
 pub:Int
def persC (p:Pers):List Value:= [.int .i64 p.id,.int .i64 p.role,.int .i64 p.pub]
def PerSl (w:World) (v:Value) (P:List Pers):Prop:=
 ∃A cap,v= .slice A P.length cap∧P.length≤cap∧cap≤9223372036854775807∧∀(i:Nat) (p:Pers),P[i]? =some p→∃g o,A=some ⟨g,o,none⟩∧g<w.heap.size∧w.rangeAt g (o+i * 3) (persC p)
theorem PerSl.only {w w':World} {v:Value} {P:List Pers} (h:PerSl w v P) (ho:Only NoneOf w w'):PerSl w' v P:=by
 obtain⟨A,cap,hv,h1,h2,h3⟩:=h
 refine⟨A,cap,hv,h1,h2,fun i p hp=> ?_⟩
 obtain⟨g,o,hA,hg,hr⟩:=h3 i p hp
 exact⟨g,o,hA,Nat.lt_of_lt_of_le hg ho.size,rng_only hr ho⟩
theorem persC_len (p:Pers):(persC p).length=3:=rfl
def PerOwn (w:World) (base:Nat) (v:Value) (n:Nat) (P:List Pers):Prop:=w.ownsRow base 67 3 v n (P.flatMap persC)
theorem PerOwn.sl {w:World} {base:Nat} {v:Value} {P:List Pers} (h:PerOwn w base v P.length P):PerSl w v P:=by
 rcases h.2 with⟨rfl,h0⟩|⟨g,cap,cur,rfl,hb,hh,hc,hm,hs,ht⟩
 ·have hP0:P= []:=List.eq_nil_of_length_eq_zero h0
  subst hP0
  exact⟨none,0,rfl,Nat.le_refl _,by omega,fun i e he=>by simp at he⟩
 ·rw [maxLen_val] at hm
  refine⟨some ⟨g,0,none⟩,cap,rfl,hc,hm,fun i p hp=> ⟨g,0,rfl,Blk.lt (t:=67) hh,fun j x hj=> ?_⟩⟩
  have hj2:j<3:=(List.getElem?_eq_some_iff.1 hj).1
  have h1:=flat_get persC_len P i j hj2 p hp
  have h2:=World.ownsRow.cells h rfl (i * 3+j) x (h1.trans hj)
  rw [Addr.add_mid,Nat.zero_add] at h2
  rw [Nat.zero_add]
  exact h2
theorem pers_info3:∃ie z,Tryz.prog.info? 67=some ie∧ie.size=3∧ie.zero=some z∧z.cells.size=3∧ie.bytes=24:=by
 have h1:(Tryz.prog.info? 67).map (·.size)=some 3:=by kernel_rfl
 have h2:((Tryz.prog.info? 67).bind (·.zero)).isSome=true:=by kernel_rfl
 have h3:(Tryz.prog.info? 67).map (·.bytes)=some 24:=by kernel_rfl
 have h4:((Tryz.prog.info? 67).bind (·.zero)).map (fun z=>z.cells.size)=some 3:=by kernel_rfl
 cases hie:Tryz.prog.info? 67 with
 |none=>simp [hie] at h1
 |some ie=>
  simp only [hie,Option.map_some,Option.some.injEq,Option.bind_some] at h1 h2 h3 h4
  obtain⟨z,hz⟩:=Option.isSome_iff_exists.1 h2
  simp only [hz,Option.map_some,Option.some.injEq] at h4
  exact⟨ie,z,rfl,h1,hz,h4,h3⟩
end Go.Proofs.YtgalfohobgjelaaGreatDoor
namespace Go.Proofs.YtgalfohobgjelaaGreatDoor
structure Hd where
 size:Int
 root:List UInt8
structure Hd.Ok (h:Hd):Prop where
 size:In h.size
 root:h.root.length=32
def hdC (h:Hd):List Value:= .int .i64 h.size::h.root.map bv
theorem hdC_len {h:Hd} (hl:h.root.length=32):(hdC h).length=33:=by simp [hdC,hl]
structure Vt where
 who:Int
 head:Hd
 r:Int
 s:Int
structure Vt.Ok (v:Vt):Prop where
 who:In v.who
 head:v.head.Ok
 r:In v.r
 s:In v.s
def vtC (v:Vt):List Value:= .int .i64 v.who::(hdC v.head++ [.int .i64 v.r,.int .i64 v.s])
theorem vtC_len {v:Vt} (hl:v.head.root.length=32):(vtC v).length=36:=by simp [vtC,hdC_len hl]
def hdText (h:Hd):List UInt8:= [104,101,97,100,32] ++Lib.itoa h.size++ [32] ++hexL h.root
noncomputable def cnts (p:Pers) (v:Vt):Bool:=v.who==p.id && goodB p.pub (hdText v.head) v.r v.s
def offGo (seen:List Int):List Pers→List Pers
 | []=> []
 |p::l=>if p.id ∉ seen∧p.role=2 then p::offGo (p.id::seen) l else offGo (p.id::seen) l
def offs (P:List Pers):List Pers:=offGo [] P
theorem offGo_seen:∀(P:List Pers) (seen:List Int),∀p∈offGo seen P,p.id ∉ seen
 | [],_,_,h=>by cases h
 |q::l,seen,p,h=>by
  unfold offGo at h
  split at h
  ·rename_i hq
   rcases List.mem_cons.1 h with rfl|h
   ·exact hq.1
   ·exact fun hm=>offGo_seen l _ p h (List.mem_cons_of_mem _ hm)
  ·exact fun hm=>offGo_seen l _ p h (List.mem_cons_of_mem _ hm)
theorem offGo_apart:∀(P:List Pers) (seen:List Int),(offGo seen P).Pairwise (fun p q=>p.id≠q.id)
 | [],_=>List.Pairwise.nil
 |q::l,seen=>by
  unfold offGo
  split
  ·refine List.pairwise_cons.2 ⟨fun p hp h=> ?_,offGo_apart l _⟩
   exact offGo_seen l _ p hp (by rw [←h];exact List.mem_cons_self ..)
  ·exact offGo_apart l _
theorem offs_apart (P:List Pers):(offs P).Pairwise (fun p q=>p.id≠q.id):=offGo_apart P []
theorem offGo_sub:∀(P:List Pers) (seen:List Int),∀p∈offGo seen P,p∈P
 | [],_,_,h=>by cases h
 |q::l,seen,p,h=>by
  unfold offGo at h
  split at h
  ·rcases List.mem_cons.1 h with rfl|h
   ·exact List.mem_cons_self ..
   ·exact List.mem_cons_of_mem _ (offGo_sub l _ p h)
  ·exact List.mem_cons_of_mem _ (offGo_sub l _ p h)
theorem offs_sub (P:List Pers):∀p∈offs P,p∈P:=offGo_sub P []
theorem offGo_len:∀(P:List Pers) (seen:List Int),(offGo seen P).length≤P.length
 | [],_=>Nat.le_refl _
 |q::l,seen=>by
  unfold offGo
  have:=offGo_len l (q.id::seen)
  split<;>simp only [List.length_cons] <;>omega
theorem offs_len (P:List Pers):(offs P).length≤P.length:=offGo_len P []
theorem offGo_take:∀(P:List Pers) (seen:List Int) (k:Nat) (p:Pers),P[k]? =some p→
  offGo seen (P.take (k+1))=offGo seen (P.take k) ++ (if(p.id ∉ (P.take k).map (·.id)∧p.id ∉ seen)∧p.role=2 then [p] else [])
 | [],_,_,_,h=>by simp at h
 |q::l,seen,0,p,h=>by
  simp at h;subst h
  simp only [List.take_succ_cons,List.take_zero,offGo,List.map_nil,List.not_mem_nil,not_false_eq_true,true_and,List.nil_append]
 |q::l,seen,k+1,p,h=>by
  have ih:=offGo_take l (q.id::seen) k p (by simpa using h)
  simp only [List.take_succ_cons,List.map_cons,List.mem_cons,not_or]
  rw [offGo,ih]
  have e:(if(p.id ∉ (l.take k).map (·.id)∧p.id ∉ q.id::seen)∧p.role=2 then [p] else [])=(if((¬p.id=q.id∧p.id ∉ (l.take k).map (·.id))∧p.id ∉ seen)∧p.role=2 then [p] else []):=by
   congr 1
   simp only [List.mem_cons,not_or,eq_iff_iff]
   constructor<;> (rintro⟨⟨h1,h2⟩,h3⟩;exact⟨by first|exact⟨⟨h2.1,h1⟩,h2.2⟩|exact⟨h1.2,h1.1,h2⟩,h3⟩)
  rw [e]
  rw [show offGo seen (q::l.take k)=if q.id ∉ seen∧q.role=2 then q::offGo (q.id::seen) (l.take k) else offGo (q.id::seen) (l.take k) from rfl]
  by_cases hq:q.id ∉ seen∧q.role=2
  ·rw [if_pos hq,if_pos hq];rfl
  ·rw [if_neg hq,if_neg hq]
theorem offs_take {P:List Pers} {k:Nat} {p:Pers} (h:P[k]? =some p):
  offs (P.take (k+1))=offs (P.take k) ++ (if p.id ∉ (P.take k).map (·.id)∧p.role=2 then [p] else []):=by
 unfold offs
 rw [offGo_take P [] k p h]
 simp
def need (n:Nat):Nat:=2 * (n / 3) +n % 3 * 2 / 3+1
noncomputable def eqHd (a b:Hd):Bool:= @decide (a=b) (Classical.propDecidable _)
theorem eqHd_true {a b:Hd}:eqHd a b=true ↔ a=b:=by unfold eqHd;simp
theorem eqHd_false {a b:Hd}:eqHd a b=false ↔ a≠b:=by unfold eqHd;simp
noncomputable def votesFor (O:List Pers) (l:List Vt) (h:Hd):Nat:=O.countP (fun p=>l.any (fun v=>eqHd v.head h && cnts p v))
noncomputable def certB (P:List Pers) (h:Hd) (l:List Vt):Bool:=decide (need (offs P).length≤votesFor (offs P) l h)
end Go.Proofs.YtgalfohobgjelaaGreatDoor
namespace Go.Proofs.YtgalfohobgjelaaGreatDoor
open Go.RowKit
abbrev tHd:TypeId:=37
abbrev tVt:TypeId:=43
def hdLoad (v:Value):Sem Value:=Instr.loadAt 37 v
theorem hdLoad_eq (v:Value):Instr.loadAt 37 v=hdLoad v:=rfl
def hdStore (p v:Value):Sem Unit:=Instr.storeAt 37 p v
theorem hdStore_eq (p v:Value):Instr.storeAt 37 p v=hdStore p v:=rfl
def hdNew:Sem Value:=Instr.alloc 37 true (.tuple #[])
theorem hdNew_eq:Instr.alloc 37 true (.tuple #[])=hdNew:=rfl
def vtLoad (v:Value):Sem Value:=Instr.loadAt 43 v
theorem vtLoad_eq (v:Value):Instr.loadAt 43 v=vtLoad v:=rfl
def vtStore (p v:Value):Sem Unit:=Instr.storeAt 43 p v
theorem vtStore_eq (p v:Value):Instr.storeAt 43 p v=vtStore p v:=rfl
def vtNew:Sem Value:=Instr.alloc 43 true (.tuple #[])
theorem vtNew_eq:Instr.alloc 43 true (.tuple #[])=vtNew:=rfl
def rootLoad (v:Value):Sem Value:=Instr.loadAt 35 v
theorem rootLoad_eq (v:Value):Instr.loadAt 35 v=rootLoad v:=rfl
def sgLoad (v:Value):Sem Value:=Instr.loadAt 41 v
theorem sgLoad_eq (v:Value):Instr.loadAt 41 v=sgLoad v:=rfl
def vtBs1 (parts:Array (Nat×Value)):Sem Value:=Instr.buildSlice 32 1 parts
theorem vtBs1_eq (parts:Array (Nat×Value)):Instr.buildSlice 32 1 parts=vtBs1 parts:=rfl
def rootZ:List UInt8:=List.replicate 32 0
def hd0:Hd:=⟨0,rootZ⟩
def vt0:Vt:=⟨0,hd0,0,0⟩
def hd0C:Array Value:=(hdC hd0).toArray
def vt0C:Array Value:=(vtC vt0).toArray
theorem hd_load {W:World} {g o:Nat} {h:Hd} (hr:W.rangeAt g o (hdC h)) (hl:h.root.length=32):(hdLoad (.pointer (some ⟨g,o,none⟩))).run Tryz.prog W= .ok (.agg (hdC h).toArray) W:=
 run_loadAt_mid W g o 37 (hdC h) _ hr Tryz.underlying37 rfl (by rw [hdC_len hl];kernel_rfl)
theorem vt_load {W:World} {g o:Nat} {v:Vt} (hr:W.rangeAt g o (vtC v)) (hl:v.head.root.length=32):(vtLoad (.pointer (some ⟨g,o,none⟩))).run Tryz.prog W= .ok (.agg (vtC v).toArray) W:=
 run_loadAt_mid W g o 43 (vtC v) _ hr Tryz.underlying43 rfl (by rw [vtC_len hl];kernel_rfl)
theorem root_load {W:World} {g o:Nat} {l:List UInt8} (hr:W.rangeAt g o (l.map bv)) (hl:l.length=32):(rootLoad (.pointer (some ⟨g,o,none⟩))).run Tryz.prog W= .ok (hv l) W:=
 run_loadAt_mid W g o 35 (l.map bv) _ hr Tryz.underlying35 rfl (by rw [List.length_map,hl];kernel_rfl)
theorem sg_load {W:World} {g o:Nat} {r s:Int} (hr:W.rangeAt g o [.int .i64 r,.int .i64 s]):(sgLoad (.pointer (some ⟨g,o,none⟩))).run Tryz.prog W= .ok (sgv r s) W:=
 run_loadAt_mid W g o 41 [.int .i64 r,.int .i64 s] _ hr Tryz.underlying41 rfl (by kernel_rfl)
theorem hdC_one (h:Hd):∀u∈hdC h,u.oneCell'=true:=fun u hu=>by
 unfold hdC at hu
 rcases List.mem_cons.1 hu with rfl|hu
 ·rfl
 ·obtain⟨x,_,rfl⟩:=List.mem_map.1 hu;rfl
theorem vtC_one (v:Vt):∀u∈vtC v,u.oneCell'=true:=fun u hu=>by
 unfold vtC at hu
 rcases List.mem_cons.1 hu with rfl|hu
 ·rfl
 ·rcases List.mem_append.1 hu with hu|hu
  ·exact hdC_one _ _ hu
  ·simp only [List.mem_cons,List.not_mem_nil,or_false] at hu
   rcases hu with rfl|rfl<;>rfl
theorem hd_store {W:World} {b:Nat} {cs:Array Value} {h:Hd} (hb:Blk W b tHd cs) (hs:cs.size=33) (hl:h.root.length=32):(hdStore (.pointer (some ⟨b,0,none⟩)) (.agg (hdC h).toArray)).run Tryz.prog W= .ok () (W.setCells b 0 (hdC h)):=
 run_storeAt_mid (P:=Tryz.prog) W b 0 37 (hdC h).toArray (hb.there 0 _ (by rw [List.size_toArray,hdC_len hl,hs];exact Nat.le_refl _)) (by rw [List.size_toArray,hdC_len hl];kernel_rfl) (all_oneCell_toArray (hdC_one h))
theorem vt_store {W:World} {b:Nat} {cs:Array Value} {v:Vt} (hb:Blk W b tVt cs) (hs:cs.size=36) (hl:v.head.root.length=32):(vtStore (.pointer (some ⟨b,0,none⟩)) (.agg (vtC v).toArray)).run Tryz.prog W= .ok () (W.setCells b 0 (vtC v)):=
 run_storeAt_mid (P:=Tryz.prog) W b 0 43 (vtC v).toArray (hb.there 0 _ (by rw [List.size_toArray,vtC_len hl,hs];exact Nat.le_refl _)) (by rw [List.size_toArray,vtC_len hl];kernel_rfl) (all_oneCell_toArray (vtC_one v))
theorem hdNew_run (W:World):hdNew.run Tryz.prog W= .ok (.pointer (some ⟨W.heap.size,0,none⟩)) (W.alloc (.cells hd0C 37)):=by kernel_rfl
theorem vtNew_run (W:World):vtNew.run Tryz.prog W= .ok (.pointer (some ⟨W.heap.size,0,none⟩)) (W.alloc (.cells vt0C 43)):=by kernel_rfl
theorem filled_whole {W:World} {b:Nat} {t:TypeId} {cs:Array Value} (h:Blk W b t cs) {ds:List Value} (hl:ds.length=cs.size):Blk (W.setCells b 0 ds) b t ds.toArray:=by
 have h1:Blk W b t cs.toList.toArray:=by rw [Array.toArray_toList];exact h
 exact h1.filled ds (by rw [Array.length_toList];exact hl)
def VtAt (w:World) (B:Nat) (v:Vt):Prop:=Blk w B tVt (vtC v).toArray
def HdAt (w:World) (B:Nat) (h:Hd):Prop:=Blk w B tHd (hdC h).toArray
theorem blk_range {w:World} {B:Nat} {t:TypeId} {cs:List Value} (h:Blk w B t cs.toArray):w.rangeAt B 0 cs:=fun j v hj=>by rw [Nat.zero_add,h.cell];simpa using hj
theorem range_head {w:World} {g o:Nat} {v:Vt} (hr:w.rangeAt g o (vtC v)) (_hl:v.head.root.length=32):w.rangeAt g (o+1) (hdC v.head):=fun j x hj=>by
 have h1:=hr (1+j) x (by
  have hj2:=(List.getElem?_eq_some_iff.1 hj).1
  unfold vtC
  rw [show 1+j=j+1 by omega,List.getElem?_cons_succ,List.getElem?_append_left hj2]
  exact hj)
 rw [show o+1+j=o+ (1+j) by omega]
 exact h1
theorem range_sig {w:World} {g o:Nat} {v:Vt} (hr:w.rangeAt g o (vtC v)) (hl:v.head.root.length=32):w.rangeAt g (o+34) [.int .i64 v.r,.int .i64 v.s]:=fun j x hj=>by
 have h1:=hr (34+j) x (by
  unfold vtC
  rw [show 34+j=(33+j) +1 by omega,List.getElem?_cons_succ,List.getElem?_append_right (by rw [hdC_len hl];omega),hdC_len hl,show 33+j - 33=j by omega]
  exact hj)
 rw [show o+34+j=o+ (34+j) by omega]
 exact h1
theorem range_root {w:World} {g o:Nat} {h:Hd} (hr:w.rangeAt g o (hdC h)):w.rangeAt g (o+1) (h.root.map bv):=fun j x hj=>by
 have h1:=hr (1+j) x (by unfold hdC;rw [show 1+j=j+1 by omega,List.getElem?_cons_succ];exact hj)
 rw [show o+1+j=o+ (1+j) by omega]
 exact h1
def VtSl (w:World) (v:Value) (L:List Vt):Prop:=
 ∃A cap,v= .slice A L.length cap∧L.length≤cap∧cap≤9223372036854775807∧∀(i:Nat) (e:Vt),L[i]? =some e→∃g o,A=some ⟨g,o,none⟩∧g<w.heap.size∧w.rangeAt g (o+i * 36) (vtC e)
theorem VtSl.only {w w':World} {v:Value} {L:List Vt} (h:VtSl w v L) (ho:Only NoneOf w w'):VtSl w' v L:=by
 obtain⟨A,cap,hv,h1,h2,h3⟩:=h
 refine⟨A,cap,hv,h1,h2,fun i p hp=> ?_⟩
 obtain⟨g,o,hA,hg,hr⟩:=h3 i p hp
 exact⟨g,o,hA,Nat.lt_of_lt_of_le hg ho.size,rng_only hr ho⟩
def VtsOk (L:List Vt):Prop:=∀v∈L,v.Ok
def VtOwn (w:World) (base:Nat) (v:Value) (n:Nat) (L:List Vt):Prop:=w.ownsRow base 43 36 v n (L.flatMap vtC)
theorem vts_len:∀(L:List Vt) (_:VtsOk L),(L.flatMap vtC).length=L.length * 36
 | [],_=>rfl
 |x::l,h=>by
  rw [List.flatMap_cons,List.length_append,vtC_len (h x (by simp)).head.root,vts_len l (fun p hp=>h p (by simp [hp])),List.length_cons]
  omega
theorem vts_get:∀(L:List Vt) (_:VtsOk L) (i j:Nat) (_:j<36) (p:Vt) (_:L[i]? =some p),(L.flatMap vtC)[i * 36+j]? =(vtC p)[j]?
 | [],_,_,_,_,_,h=>by simp at h
 |x::l,hf,i,j,hj,p,hp=>by
  have hx:=vtC_len (hf x (by simp)).head.root
  cases i with
  |zero=>
   simp at hp;subst hp
   simp only [List.flatMap_cons,Nat.zero_mul,Nat.zero_add]
   rw [List.getElem?_append_left (by rw [hx];exact hj)]
  |succ i=>
   simp only [List.flatMap_cons]
   rw [List.getElem?_append_right (by rw [hx];omega),hx,show(i+1) * 36+j - 36=i * 36+j by omega]
   exact vts_get l (fun q hq=>hf q (by simp [hq])) i j hj p (by simpa using hp)
theorem VtOwn.sl {w:World} {base:Nat} {v:Value} {L:List Vt} (h:VtOwn w base v L.length L) (hok:VtsOk L):VtSl w v L:=by
 rcases h.2 with⟨rfl,h0⟩|⟨g,cap,cur,rfl,hb,hh,hc,hm,hs,ht⟩
 ·have hP0:L= []:=List.eq_nil_of_length_eq_zero h0
  subst hP0
  exact⟨none,0,rfl,Nat.le_refl _,by omega,fun i e he=>by simp at he⟩
 ·rw [maxLen_val] at hm
  refine⟨some ⟨g,0,none⟩,cap,rfl,hc,hm,fun i p hp=> ⟨g,0,rfl,Blk.lt (t:=43) hh,fun j x hj=> ?_⟩⟩
  have hj2:j<36:=by
   have:=(List.getElem?_eq_some_iff.1 hj).1
   rwa [vtC_len (hok p (List.mem_of_getElem? hp)).head.root] at this
  have h1:=vts_get L hok i j hj2 p hp
  have h2:=World.ownsRow.cells h rfl (i * 36+j) x (h1.trans hj)
  rw [Addr.add_mid,Nat.zero_add] at h2
  rw [Nat.zero_add]
  exact h2
theorem vt_info:∃ie z,Tryz.prog.info? 43=some ie∧ie.size=36∧ie.zero=some z∧z.cells.size=36∧ie.bytes≤100:=by
 have h1:(Tryz.prog.info? 43).map (·.size)=some 36:=by kernel_rfl
 have h2:((Tryz.prog.info? 43).bind (·.zero)).isSome=true:=by kernel_rfl
 have h3:(Tryz.prog.info? 43).map (fun i=>decide (i.bytes≤100))=some true:=by kernel_rfl
 have h4:((Tryz.prog.info? 43).bind (·.zero)).map (fun z=>z.cells.size)=some 36:=by kernel_rfl
 cases hie:Tryz.prog.info? 43 with
 |none=>simp [hie] at h1
 |some ie=>
  simp only [hie,Option.map_some,Option.some.injEq,Option.bind_some,decide_eq_true_eq] at h1 h2 h3 h4
  obtain⟨z,hz⟩:=Option.isSome_iff_exists.1 h2
  simp only [hz,Option.map_some,Option.some.injEq] at h4
  exact⟨ie,z,rfl,h1,hz,h4,h3⟩
end Go.Proofs.YtgalfohobgjelaaGreatDoor
namespace Go.Proofs.YtgalfohobgjelaaGreatDoor
open Go.RowKit
def vtF (v:Vt):List Value:=if v.head.root.length=32 then vtC v else List.replicate 36 undef
theorem vtF_len (v:Vt):(vtF v).length=36:=by
 unfold vtF
 split
 ·exact vtC_len (by assumption)
 ·simp
theorem vtF_of {v:Vt} (h:v.head.root.length=32):vtF v=vtC v:=by unfold vtF;rw [if_pos h]
theorem flat_vtF {M:List Vt} (hM:VtsOk M):M.flatMap vtF=M.flatMap vtC:=by
 induction M with
 |nil=>rfl
 |cons e l ih=>
  rw [List.flatMap_cons,List.flatMap_cons,vtF_of (hM e (by simp)).head.root,ih (fun x hx=>hM x (by simp [hx]))]
theorem vstores_cells (vs:List Value):∀(w:World) (g o:Nat),stores w g o vs=w.setCells g o vs:=by
 induction vs with
 |nil=>intro w g o;rfl
 |cons v l ih=>intro w g o;simp only [stores,World.setCells];exact ih _ _ _
theorem vts_set {M:List Vt} (hM:VtsOk M) {v:Vt} (hv:v.Ok) (i:Nat):VtsOk (M.set i v):=fun x hx=>by
 rcases List.mem_or_eq_of_mem_set hx with h|rfl
 ·exact hM x h
 ·exact hv
theorem VtOwn.put {w:World} {base g cap i:Nat} {M:List Vt} {v:Vt} (h:VtOwn w base (.slice (some ⟨g,0,none⟩) M.length cap) M.length M) (hM:VtsOk M) (hi:i<M.length) (hv:v.Ok):
  VtOwn (w.setCells g (i * 36) (vtC v)) base (.slice (some ⟨g,0,none⟩) M.length cap) M.length (M.set i v):=by
 unfold VtOwn at h⊢
 rw [←flat_vtF hM] at h
 rw [←flat_vtF (vts_set hM hv i),←vtF_of hv.head.root,←vstores_cells]
 exact own_put vtF_len v h hi
theorem VtOwn.range {w:World} {base g cap n m i:Nat} {M:List Vt} {v:Vt} (h:VtOwn w base (.slice (some ⟨g,0,none⟩) n cap) m M) (hM:VtsOk M) (hv:M[i]? =some v):w.rangeAt g (i * 36) (vtC v):=fun j x hj=>by
 have hj2:j<36:=by
  have:=(List.getElem?_eq_some_iff.1 hj).1
  rw [vtC_len (hM v (List.mem_of_getElem? hv)).head.root] at this;exact this
 have h1:=vts_get M hM i j hj2 v hv
 have h2:=World.ownsRow.cells h rfl (i * 36+j) x (h1.trans hj)
 rw [Addr.add_mid,Nat.zero_add] at h2
 exact h2
theorem vown_there {w:World} {base g cap n:Nat} {e:TypeId} {size:Nat} {xs:List Value} (h:w.ownsRow base e size (.slice (some ⟨g,0,none⟩) n cap) n xs) {o m:Nat} (hm:o+m≤n * size):w.there g o m:=by
 rcases h.2 with⟨h0,_⟩|⟨g',cap',cur,hv,hb,hh,hc,hx,hs,ht⟩
 ·simp at h0
 ·simp only [Value.slice.injEq,Option.some.injEq,Addr.mk.injEq,and_true,true_and] at hv
  obtain⟨rfl,rfl⟩:=hv
  exact Blk.there (t:=e) (cs:=cur) hh o m (by rw [hs];exact Nat.le_trans hm (Nat.mul_le_mul_right _ hc))
theorem vt_store_own {w:World} {base g cap i:Nat} {M:List Vt} {v:Vt} (h:VtOwn w base (.slice (some ⟨g,0,none⟩) M.length cap) M.length M) (hi:i<M.length) (hv:v.Ok):
  (vtStore (.pointer (some ⟨g,i * 36,none⟩)) (.agg (vtC v).toArray)).run Tryz.prog w= .ok () (w.setCells g (i * 36) (vtC v)):=by
 have h36:(vtC v).toArray.size=36:=by rw [List.size_toArray,vtC_len hv.head.root]
 have h1:i * 36+36≤M.length * 36:=by
  have:(i+1) * 36≤M.length * 36:=Nat.mul_le_mul_right _ hi
  omega
 exact run_storeAt_mid (P:=Tryz.prog) w g (i * 36) 43 (vtC v).toArray (vown_there h (by rw [h36];exact h1)) (by rw [h36];kernel_rfl) (all_oneCell_toArray (vtC_one v))
theorem zero_vt (w:World):(zeroValue 43).run Tryz.prog w= .ok (.agg vt0C) w:=by kernel_rfl
def clrZ (n:Nat):List Value:=(Builtin.zeroCells vt0C n).toList
theorem clrZ_len (n:Nat):(clrZ n).length=n * 36:=by
 unfold clrZ Builtin.zeroCells
 rw [Array.length_toList,Array.size_map,Array.size_range]
 rfl
theorem vt0_one:∀k:Fin 36,(vt0C[k.val]!).oneCell'=true:=by decide+kernel
theorem clrZ_one (n:Nat):∀v∈clrZ n,v.oneCell'=true:=fun v hv=>by
 unfold clrZ Builtin.zeroCells at hv
 rw [Array.toList_map,List.mem_map] at hv
 obtain⟨i,_,rfl⟩:=hv
 exact vt0_one ⟨i % 36,Nat.mod_lt _ (by omega)⟩
theorem run_clear_any {P:Program} {w w':World} {t e:TypeId} {z:Value} (ty:TypeId) (ht:P.underlying t=some (.slice e)) (hv:∀w,(zeroValue e).run P w= .ok z w) (a:Addr) (m c:Nat)
  (hst:(storeCells a (Builtin.zeroCells z.cells (m+1)).toList).run P w= .ok () w'):(Builtin.clear_ #[t] ty #[.slice (some a) (m+1) c]).run P w= .ok (.tuple #[]) w':=by
 simp [Builtin.clear_,run_underlying ht,hv,hst]
theorem run_clear_vts (w:World) (ty:TypeId) (g o n c:Nat) (hn:0<n) (hc:w.there g o (n * 36)):
  (Builtin.clear_ #[32] ty #[.slice (some ⟨g,o,none⟩) n c]).run Tryz.prog w= .ok (.tuple #[]) (w.setCells g o (clrZ n)):=by
 have hst:=run_storeCells_cells (P:=Tryz.prog) g o (clrZ n) 0 w (fun j hj=>by rw [clrZ_len] at hj;rw [Nat.add_zero];exact(hc j hj).1) (fun j hj=>by rw [clrZ_len] at hj;rw [Nat.add_zero];exact(hc j hj).2) (clrZ_one n)
 simp only [Nat.add_zero] at hst
 obtain⟨m,rfl⟩:∃m,n=m+1:=⟨n - 1,by omega⟩
 exact run_clear_any ty Tryz.underlying32 zero_vt _ m c hst
theorem VtOwn.cut {w:World} {base g cap n m:Nat} {M:List Vt} (h:VtOwn w base (.slice (some ⟨g,0,none⟩) n cap) n M) (hM:VtsOk M) (hm:m≤n) (vs:List Value):VtOwn (w.setCells g (m * 36) vs) base (.slice (some ⟨g,0,none⟩) m cap) m (M.take m):=by
 have hl:=h.1
 rw [vts_len M hM] at hl
 have hn:M.length=n:=by omega
 have h1:=own_shrink h hm
 have ht:(M.flatMap vtC).take (m * 36)=(M.take m).flatMap vtC:=by
  rw [←flat_vtF hM,flat_take vtF_len,flat_vtF (fun x hx=>hM x (List.mem_of_mem_take hx))]
 rw [ht] at h1
 refine⟨h1.1,.inr ?_⟩
 rcases h1.2 with⟨hv,_⟩|⟨g',cap',cur,hv,hb,hh,hc,hx,hs,ht2⟩
 ·simp at hv
 ·simp only [Value.slice.injEq,Option.some.injEq,Addr.mk.injEq,and_true,true_and] at hv
  obtain⟨rfl,rfl⟩:=hv
  have hB:Blk w g 43 cur.toList.toArray:=by rw [Array.toArray_toList];exact hh
  have h2:=Blk.setCells vs (m * 36) hB
  have hlen:∀(vs xs:List Value) (o:Nat),(setMany xs o vs).length=xs.length∧(setMany xs o vs).take o=xs.take o:=by
   intro vs
   induction vs with
   |nil=>intro xs o;exact⟨rfl,rfl⟩
   |cons a l ih=>
    intro xs o
    obtain⟨i1,i2⟩:=ih (xs.set o a) (o+1)
    refine⟨by rw [setMany,i1,List.length_set],?_⟩
    have h3:=congrArg (List.take o) i2
    rw [List.take_take,List.take_take,Nat.min_eq_left (by omega)] at h3
    rw [setMany,h3,List.take_set_of_le (Nat.le_refl _)]
  refine⟨g,cap,(setMany cur.toList (m * 36) vs).toArray,rfl,hb,h2,hc,hx,?_,?_⟩
  ·rw [List.size_toArray,(hlen _ _ _).1,Array.length_toList,hs]
  ·rw [(hlen _ _ _).2];exact ht2
end Go.Proofs.YtgalfohobgjelaaGreatDoor
namespace Go.Proofs.YtgalfohobgjelaaGreatDoor
open Go.RowKit
open Go.Maps (Keyed)
open Go.WideMaps (KeyLaw)
def Rv (v:Value):Option (DataW Value×List MemPlace):=some (.held v, [])
noncomputable def eqv (x y:Value):Bool:= @decide (x=y) (Classical.propDecidable _)
theorem eqv_true {x y:Value}:eqv x y=true ↔ x=y:=by unfold eqv;simp
theorem eqv_false {x y:Value}:eqv x y=false ↔ x≠y:=by unfold eqv;simp
theorem eqv_self (x:Value):eqv x x=true:=eqv_true.2 rfl
noncomputable def put1 (f:Value→Option Value) (key v:Value):Value→Option Value:=fun x=>if eqv x key then some v else f x
theorem put1_same (f:Value→Option Value) (key v:Value):put1 f key v key=some v:=by unfold put1;rw [eqv_self];rfl
theorem put1_other {f:Value→Option Value} {key v x:Value} (h:x≠key):put1 f key v x=f x:=by unfold put1;rw [eqv_false.2 h];rfl
structure Tells (P:Program) (k:TypeId) (D:DataW Value) (f:Value→Option Value):Prop where
 key:∀key,f key≠none→∃kl,Go.keyOf P k key=some kl
 at_:∀key kl,Go.keyOf P k key=some kl→Maps.has D kl=(f key).isSome∧∀v,f key=some v→∀z,D.atKey kl z= .held v
def MapV (w:World) (P:Program) (k:TypeId) (b n:Nat) (f:Value→Option Value):Prop:=∃D,w.ownsMap P k Rv b n D∧Tells P k D f
section
variable {P:Program} {k:TypeId} {w:World} {b n:Nat} {f:Value→Option Value}
theorem MapV.made (w:World) (P:Program) (k:TypeId):MapV (w.alloc (.map #[] 0)) P k w.heap.size 0 (fun _=>none):=
 ⟨_,World.ownsMap_made w P k Rv,⟨fun key h=> (h rfl).elim,fun key kl _=> ⟨rfl,fun v h=>by cases h⟩⟩⟩
theorem MapV.lt (h:MapV w P k b n f):b<w.heap.size:=by obtain⟨D,h,_⟩:=h;exact h.lt
theorem MapV.grown {w':World} {row:Option Nat} (h:MapV w P k b n f) (hg:w.grownBy w' row) (hne:some b≠row):MapV w' P k b n f:=by
 obtain⟨D,h,t⟩:=h
 exact⟨D,h.kept hg hne,t⟩
theorem MapV.only {S:Nat→Prop} {w':World} (h:MapV w P k b n f) (ho:Only S w w') (hb:¬S b):MapV w' P k b n f:=by
 obtain⟨D,h,t⟩:=h
 have hlt:=h.lt
 obtain⟨es,clock,hh,F,hs,hD⟩:=h
 exact⟨D,⟨es,clock,(ho.block b hlt hb).trans hh,F,hs,hD⟩,t⟩
theorem MapV.congr {g:Value→Option Value} (h:MapV w P k b n f) (e:∀x,f x=g x):MapV w P k b n g:=by
 rw [show g=f from funext fun x=> (e x).symm];exact h
theorem MapV.look_any (c:Bool) (h:MapV w P k b n f) (K:Keyed P k) {t e:TypeId} (ht:P.underlying t=some (.map k e)) {z:Value} (hz:(zeroValue e).run P w= .ok z w) {key:Value} {kl:Lit} (hkey:Go.keyOf P k key=some kl):
  (Instr.lookup t (.map (some b)) key c).run P w= .ok (if c then .tuple #[(f key).getD z,.bool (f key).isSome] else(f key).getD z) w:=by
 obtain⟨D,⟨es,clock,hb,F,_,rfl⟩,t0⟩:=h
 obtain⟨h1,h2⟩:=t0.at_ key kl hkey
 rcases Maps.fit_look c K ht hz hb F hkey with⟨hrun,_,hat⟩|⟨e0,y,_,_,hrun,hRv,hat,_⟩
 ·rw [Maps.has_false_of_atKey hat] at h1
  cases hf:f key with
  |none=>rw [hrun];rfl
  |some v=>rw [hf] at h1;cases h1
 ·rw [Maps.has_true_of_atKey hat] at h1
  cases hf:f key with
  |none=>rw [hf] at h1;cases h1
  |some v=>
   have h3:=(h2 v hf (.held z)).symm.trans (hat (.held z))
   unfold Rv at hRv
   cases hRv
   simp only [DataW.held.injEq] at h3
   rw [hrun,h3]
   rfl
theorem MapV.look (h:MapV w P k b n f) (K:Keyed P k) {t e:TypeId} (ht:P.underlying t=some (.map k e)) {z:Value} (hz:(zeroValue e).run P w= .ok z w) {key:Value} {kl:Lit} (hkey:Go.keyOf P k key=some kl):
  (Instr.lookup t (.map (some b)) key false).run P w= .ok ((f key).getD z) w:=h.look_any false K ht hz hkey
theorem MapV.look_ok (h:MapV w P k b n f) (K:Keyed P k) {t e:TypeId} (ht:P.underlying t=some (.map k e)) {z:Value} (hz:(zeroValue e).run P w= .ok z w) {key:Value} {kl:Lit} (hkey:Go.keyOf P k key=some kl):
  (Instr.lookup t (.map (some b)) key true).run P w= .ok (.tuple #[(f key).getD z,.bool (f key).isSome]) w:=h.look_any true K ht hz hkey
theorem Tells.put {D:DataW Value} (t:Tells P k D f) (hm:Maps.IsMap D) (K:Keyed P k) {key:Value} {kl:Lit} (hkey:Go.keyOf P k key=some kl) (v:Value):Tells P k (D.put kl (.held v)) (put1 f key v):=by
 refine⟨fun x hx=> ?_,fun x xl hx=> ?_⟩
 ·by_cases e:x=key
  ·rw [e];exact⟨kl,hkey⟩
  ·rw [put1_other e] at hx;exact t.key x hx
 ·by_cases e:x=key
  ·subst e
   obtain rfl:xl=kl:=Option.some.inj (hx.symm.trans hkey)
   rw [put1_same]
   refine⟨Maps.has_put_same hm (K.key hkey) _,fun v' hv' z=> ?_⟩
   cases hv'
   exact Maps.atKey_put_same hm (K.key hkey) _ _
  ·have hne:xl≠kl:=fun h=>e (K.inj hx (h▸hkey))
   rw [put1_other e,Maps.has_put_other hne]
   refine⟨(t.at_ x xl hx).1,fun v' hv' z=> ?_⟩
   rw [Maps.atKey_put_other hne]
   exact(t.at_ x xl hx).2 v' hv' z
theorem isMap_own {D:DataW Value} (h:w.ownsMap P k Rv b n D):Maps.IsMap D:=by
 obtain⟨es,clock,_,_,_,rfl⟩:=h
 exact⟨_,rfl⟩
noncomputable def mapPut (P:Program) (t:TypeId) (b:Nat) (key v:Value) (w:World):World:=
 match(Instr.mapUpdate t (.map (some b)) key v).run P w with
 | .ok _ w'=>w'
 | .halt _ w'=>w'
theorem MapV.put (h:MapV w P k b n f) (K:Keyed P k) {t e:TypeId} (ht:P.underlying t=some (.map k e)) (hn:n<maxLen) {key:Value} {kl:Lit} (hkey:Go.keyOf P k key=some kl) (v:Value):
  (Instr.mapUpdate t (.map (some b)) key v).run P w= .ok () (mapPut P t b key v w)∧MapV (mapPut P t b key v w) P k b (n+1) (put1 f key v)∧w.grownBy (mapPut P t b key v w) (some b):=by
 obtain⟨D,h,t0⟩:=h
 obtain⟨w',hrun,ho,hg⟩:=h.update K ht hn (val:=v) hkey (d:= .held v) (ps:= []) rfl
 have e:mapPut P t b key v w=w':=by unfold mapPut;rw [hrun]
 rw [e]
 exact⟨hrun,⟨_,ho,t0.put (isMap_own h) K hkey v⟩,hg⟩
theorem MapV.entry (h:MapV w P k b n f) (K:KeyLaw P k) {t e:TypeId} (ht:P.underlying t=some (.map k e)) (hn:n<maxLen) {z:Value} (hz:∀u:World,(zeroValue e).run P u= .ok z u) {key:Value} {kl:Lit} (hkey:Go.keyOf P k key=some kl):
  ∃(v0:Value) (st:Nat) (w1:World),(Instr.mapEntry t (.map (some b)) key).run P w= .ok (.tuple #[v0,.int .i64 (st:Int)]) w1∧w.grownBy w1 (some b)∧
   ∀(w2:World) (val:Value),w1.grownBy w2 none→∃w3,(Instr.entryStore t (.map (some b)) (.int .i64 (st:Int)) val).run P w2= .ok () w3∧MapV w3 P k b (n+1) (put1 f key val)∧w2.grownBy w3 (some b):=by
 have h0:=h
 obtain⟨D,⟨es,clock,hb,F,hs,hD⟩,t0⟩:=h
 obtain⟨v0,st,es1,clock1,hrun,_,hst⟩:=WideElems.entry_then_store K ht hz hb F hkey
 have hlt:b<w.heap.size:=h0.lt
 refine⟨v0,st,ChangeMaps.setBlock w b (.map es1 clock1),hrun,⟨rfl,rfl,rfl,by simp [ChangeMaps.setBlock],fun i _ hi=>ChangeMaps.heap_setBlock_other hb _ (fun e=>hi (by rw [e]))⟩,fun w2 val hg=> ?_⟩
 have hw2:w2.heap[b]? =some (.map es1 clock1):=(hg.block b (by simpa [ChangeMaps.setBlock] using hlt) (by simp)).trans (ChangeMaps.heap_setBlock_same hb _)
 obtain⟨es',clock',hrun2,hrun3⟩:=hst w2 val hw2
 obtain⟨hr,hm,_⟩:=h0.put (Keyed.of_law K) ht hn hkey val
 have hw':mapPut P t b key val w=ChangeMaps.setBlock w b (.map es' clock'):=by
  rw [hrun3] at hr
  injection hr with _ hr
  exact hr.symm
 rw [hw'] at hm
 refine⟨_,hrun2,?_,⟨rfl,rfl,rfl,by simp [ChangeMaps.setBlock],fun i _ hi=>ChangeMaps.heap_setBlock_other hw2 _ (fun e=>hi (by rw [e]))⟩⟩
 obtain⟨D',⟨es2,clock2,hb2,F2,hs2,hD2⟩,t2⟩:=hm
 rw [ChangeMaps.heap_setBlock_same hb] at hb2
 exact⟨D',⟨es2,clock2,(ChangeMaps.heap_setBlock_same hw2 _).trans hb2,F2,hs2,hD2⟩,t2⟩
theorem MapV.entry_look (h:MapV w P k b n f) (K:KeyLaw P k) {t e:TypeId} (ht:P.underlying t=some (.map k e)) (hn:n<maxLen) {z:Value} (hz:∀u:World,(zeroValue e).run P u= .ok z u) {key:Value} {kl:Lit} (hkey:Go.keyOf P k key=some kl) {r:Value} {w1:World}
  (hrun:(Instr.mapEntry t (.map (some b)) key).run P w= .ok r w1):(Instr.lookup t (.map (some b)) key false).run P w1= .ok ((f key).getD z) w1:=by
 have h0:=h
 obtain⟨D,⟨es,clock,hb,F,hs,hD⟩,t0⟩:=h
 have hlk:=h0.look (Keyed.of_law K) ht (hz w) hkey
 rcases K.find w hkey es.toList F.keys with⟨h1,h2⟩|⟨j,e0,h1,h2,h3⟩
 ·have hr2:(Instr.mapEntry t (.map (some b)) key).run P w= .ok (.tuple #[z,goInt clock]) (ChangeMaps.setBlock w b (.map (es.push ⟨key,z,clock⟩) (clock+1))):=by
   simp [Instr.mapEntry,run_underlying ht,MapKept.run_getObj_map hb,K.check w false hkey,h1,hz,MapKept.run_setObj_map _ hb,Result.andThen,ChangeMaps.setBlock]
  have hr3:(Instr.mapUpdate t (.map (some b)) key z).run P w= .ok () (ChangeMaps.setBlock w b (.map (es.push ⟨key,z,clock⟩) (clock+1))):=by
   simp [Instr.mapUpdate,run_underlying ht,MapKept.run_getObj_map hb,K.check w false hkey,h1,MapKept.run_setObj_map _ hb,Result.andThen,ChangeMaps.setBlock]
  have hr4:(Instr.lookup t (.map (some b)) key false).run P w= .ok z w:=by
   simp [Instr.lookup,run_underlying ht,MapKept.run_getObj_map hb,K.check w _ hkey,h1,hz,Result.andThen]
  rw [hr4] at hlk
  have hv:z=(f key).getD z:=by injection hlk
  obtain⟨hp1,hp2,_⟩:=h0.put (Keyed.of_law K) ht hn hkey z
  have e1:mapPut P t b key z w=w1:=by
   have ha:=hr3.symm.trans hp1
   have hb2:=hr2.symm.trans hrun
   injection ha with _ ha
   injection hb2 with _ hb2
   rw [←ha,hb2]
  rw [e1] at hp2
  rw [hp2.look (Keyed.of_law K) ht (hz w1) hkey,put1_same,←hv]
  rfl
 ·have hj:es[j]? =some e0:=by simpa using h2
  have hsame:es.modify j (fun e=> { e with key:=key})=es:=by
   apply Array.ext'
   rw [Array.toList_modify,ChangeMaps.modify_eq_set _ _ _ _ h2]
   have he:({ e0 with key:=key}:MapEntry)=e0:=by rw [←h3]
   rw [he]
   exact WideElems.set_self _ _ _ h2
  have hr2:(Instr.mapEntry t (.map (some b)) key).run P w= .ok (.tuple #[e0.val,goInt e0.born]) (ChangeMaps.setBlock w b (.map es clock)):=by
   simp [Instr.mapEntry,run_underlying ht,MapKept.run_getObj_map hb,K.check w false hkey,h1,hj,h3,K.stays w hkey,hsame,MapKept.run_setObj_map _ hb,Result.andThen,ChangeMaps.setBlock]
  have e1:ChangeMaps.setBlock w b (.map es clock)=w1:=by
   have hb2:=hr2.symm.trans hrun
   injection hb2
  rw [←e1]
  have hm1:MapV (ChangeMaps.setBlock w b (.map es clock)) P k b n f:=⟨D,⟨es,clock,ChangeMaps.heap_setBlock_same hb _,F,hs,hD⟩,t0⟩
  exact hm1.look (Keyed.of_law K) ht (hz _) hkey
def RangeV (w:World) (P:Program) (k:TypeId) (b r n:Nat) (f:Value→Option Value) (left:Value→Bool) (cnt:Nat):Prop:=
 ∃D leftL,w.ranges P k Rv b r n D leftL cnt∧Tells P k D f∧∀key kl,Go.keyOf P k key=some kl→leftL kl=left key
theorem RangeV.map {r:Nat} {left:Value→Bool} {cnt:Nat} (h:RangeV w P k b r n f left cnt):MapV w P k b n f:=by
 obtain⟨D,_,h,t,_⟩:=h
 exact⟨D,h.owns,t⟩
theorem RangeV.left_eq {r:Nat} {left:Value→Bool} {cnt:Nat} (h:RangeV w P k b r n f left cnt):w.rangeLeft b r=cnt:=by
 obtain⟨D,_,h,t,_⟩:=h
 exact h.left_eq
theorem RangeV.cnt_le {r:Nat} {left:Value→Bool} {cnt:Nat} (h:RangeV w P k b r n f left cnt):cnt≤n:=by
 obtain⟨D,l,⟨es,clock,since,seen,c0,hb,F,hs,hD,hr,ho,hc,_⟩,_⟩:=h
 rw [←hc]
 exact Nat.le_trans (by unfold leftOf;exact Array.size_filter_le) hs
theorem RangeV.lt {r:Nat} {left:Value→Bool} {cnt:Nat} (h:RangeV w P k b r n f left cnt):r<w.heap.size:=by
 obtain⟨D,_,h,t,_⟩:=h
 exact h.lt
theorem RangeV.only {S:Nat→Prop} {w':World} {r:Nat} {left:Value→Bool} {cnt:Nat} (h:RangeV w P k b r n f left cnt) (ho:Only S w w') (hb:¬S b) (hr:¬S r):RangeV w' P k b r n f left cnt:=by
 have h1:=h.map.lt
 have h2:=h.lt
 obtain⟨D,l,⟨es,clock,since,seen,c0,hb',F,hs,hD,hr',rest⟩,t⟩:=h
 exact⟨D,l,⟨es,clock,since,seen,c0,(ho.block b h1 hb).trans hb',F,hs,hD,(ho.block r h2 hr).trans hr',rest⟩,t⟩
theorem MapV.range (h:MapV w P k b n f) (K:Keyed P k) {t e:TypeId} (ht:P.underlying t=some (.map k e)):
  ∃w',(Instr.range t (.map (some b))).run P w= .ok (.pointer (some ⟨w.heap.size,0,none⟩)) w'∧(∃cnt,RangeV w' P k b w.heap.size n f (fun x=> (f x).isSome) cnt)∧Only NoneOf w w'∧w'.heap.size=w.heap.size+1:=by
 obtain⟨D,h,t0⟩:=h
 obtain⟨w',hrun,hr,hg,hs⟩:=h.range K ht
 exact⟨w',hrun,⟨_,D,_,hr,t0,fun key kl hkey=> (t0.at_ key kl hkey).1⟩,(Only.refl _ _).grown hg (fun k e=>by cases e),hs⟩
theorem RangeV.next {r:Nat} {left:Value→Bool} {cnt:Nat} (h:RangeV w P k b r n f left cnt) (K:Keyed P k) (ty:TypeId):
  (cnt=0∧(∀key,f key≠none→left key=false)∧(Instr.next (.pointer (some ⟨r,0,none⟩)) false ty).run P w= .ok (.tuple #[.bool false]) w)∨
  ∃key v w' cnt',f key=some v∧left key=true∧(Instr.next (.pointer (some ⟨r,0,none⟩)) false ty).run P w= .ok (.tuple #[.bool true,key,v]) w'∧
   RangeV w' P k b r n f (fun x=>left x && !eqv x key) cnt'∧cnt'<cnt∧w.grownBy w' (some r)∧w'.heap.size=w.heap.size∧(Instr.entry (.pointer (some ⟨r,0,none⟩))).run P w'= .ok (.tuple #[key,v]) w':=by
 obtain⟨D,l,h,t,hl⟩:=h
 rcases h.next K ty with⟨h0,hf,hrun⟩|⟨key,v,kl,y,w',cnt',hkey,hlk,hv,hat,hrun,hrg,hlt,hgr,hsz,hen⟩
 ·refine .inl ⟨h0,fun key hk=> ?_,hrun⟩
  obtain⟨kl,hkl⟩:=t.key key hk
  rw [←hl key kl hkl];exact hf kl
 ·obtain⟨h1,h2⟩:=t.at_ key kl hkey
  rw [Maps.has_true_of_atKey hat] at h1
  cases hfk:f key with
  |none=>rw [hfk] at h1;cases h1
  |some v'=>
   have h3:=(h2 v' hfk (.held v)).symm.trans (hat (.held v))
   unfold Rv at hv
   cases hv
   simp only [DataW.held.injEq] at h3
   subst h3
   refine .inr ⟨key,v',w',cnt',hfk,by rw [←hl key kl hkey];exact hlk,hrun,⟨D,_,hrg,t,fun x xl hx=> ?_⟩,hlt,hgr,hsz,hen⟩
   rw [hl x xl hx]
   congr 2
   by_cases e:x=key
   ·subst e
    obtain rfl:xl=kl:=Option.some.inj (hx.symm.trans hkey)
    rw [eqv_self];exact WideAt.sameKey_self (K.key hx)
   ·rw [eqv_false.2 e]
    exact Maps.sameKey_ne (fun h=>e (K.inj hx (h▸hkey)))
end
section
variable {P:Program} (w:World) {ops:Array Oper} {rest:List Oper} {o:Oper} {a:Act} {Q:Exit→Act→World→Prop}
theorem wpList_put (hg:o.guard=none) (m x v:Operand) (t:TypeId) (hop:o.op=Op.mapUpdate t m x v)
  (k e:TypeId) (K:Keyed P k) (ht:P.underlying t=some (.map k e)) (b n:Nat) (f:Value→Option Value)
  (hm:a.eval m= .map (some b)) (hown:MapV w P k b n f) (hn:n<maxLen) (key val:Value) (kl:Lit) (hx:a.eval x=key) (hv:a.eval v=val) (hkey:Go.keyOf P k key=some kl)
  (hK:∀w',MapV w' P k b (n+1) (put1 f key val)→w.grownBy w' (some b)→wpList P ops Q rest (a.put o.dst undef) w'):
  wpList P ops Q (o::rest) a w:=by
 refine wpList_plain hg fun K' hK'=> ?_
 obtain⟨hrun,r1,r2⟩:=hown.put K ht hn hkey val
 unfold Oper.wp
 simp [execOp,hop,hm,hx,hv,hrun,Result.andThen]
 exact hK' _ _ (hK _ r1 r2)
theorem wpList_rangeV (hg:o.guard=none) (m:Operand) (t:TypeId) (hop:o.op=Op.range t m) (k e:TypeId) (K:Keyed P k) (ht:P.underlying t=some (.map k e)) (b n:Nat) (f:Value→Option Value)
  (hm:a.eval m= .map (some b)) (hown:MapV w P k b n f)
  (hK:∀w' cnt,RangeV w' P k b w.heap.size n f (fun x=> (f x).isSome) cnt→Only NoneOf w w'→w'.heap.size=w.heap.size+1→wpList P ops Q rest (a.put o.dst (.pointer (some ⟨w.heap.size,0,none⟩))) w'):
  wpList P ops Q (o::rest) a w:=by
 refine wpList_plain hg fun K' hK'=> ?_
 obtain⟨w',hrun,⟨cnt,r1⟩,r2,r3⟩:=hown.range K ht
 unfold Oper.wp
 simp [execOp,hop,hm,hrun,Result.andThen]
 exact hK' _ _ (hK w' cnt r1 r2 r3)
theorem wpList_nextV (hg:o.guard=none) (it:Operand) (hop:o.op=Op.next it false) (k:TypeId) (K:Keyed P k) (b r n:Nat) (f:Value→Option Value) (left:Value→Bool) (cnt:Nat)
  (hit:a.eval it= .pointer (some ⟨r,0,none⟩)) (h:RangeV w P k b r n f left cnt)
  (hDone:cnt=0→(∀key,f key≠none→left key=false)→wpList P ops Q rest (a.put o.dst (.tuple #[.bool false])) w)
  (hMore:∀(key v:Value) (w':World) (cnt':Nat),f key=some v→left key=true→RangeV w' P k b r n f (fun x=>left x && !eqv x key) cnt'→cnt'<cnt→
   w.grownBy w' (some r)→w'.heap.size=w.heap.size→(Instr.entry (.pointer (some ⟨r,0,none⟩))).run P w'= .ok (.tuple #[key,v]) w'→wpList P ops Q rest (a.put o.dst (.tuple #[.bool true,key,v])) w'):
  wpList P ops Q (o::rest) a w:=by
 refine wpList_plain hg fun K' hK'=> ?_
 unfold Oper.wp
 rcases h.next K o.type with⟨h0,hl,hrun⟩|⟨key,v,w',cnt',hf,hlk,hrun,hrg,hlt,hgr,hsz,hen⟩
 ·simp [execOp,hop,hit,hrun,Result.andThen]
  exact hK' _ _ (hDone h0 hl)
 ·simp [execOp,hop,hit,hrun,Result.andThen]
  exact hK' _ _ (hMore key v w' cnt' hf hlk hrg hlt hgr hsz hen)
end
end Go.Proofs.YtgalfohobgjelaaGreatDoor
namespace Go.Proofs.YtgalfohobgjelaaGreatDoor
open Go.RowKit
section
variable {P:Program} {w:World}
def eqT (d:Nat) (xs ys:Array Value):List (String×TypeId×Nat)→Sem Bool
 | []=>pure true
 |(n,t,o)::fs=>
  if n≠ "_" then do
   let a ←Go.part t xs o
   let b ←Go.part t ys o
   let r ←Op.equalIn d t a b
   if(!r)=true then pure false else eqT d xs ys fs
  else eqT d xs ys fs
theorem eqT_fields (d:Nat) (xs ys:Array Value):∀fs:List Field,Op.eqFields d xs ys fs=eqT d xs ys (fs.map fun f=> (f.name,f.type,f.offset))
 | []=>rfl
 |f::fs=>by
  simp only [Op.eqFields,List.map_cons,eqT]
  rw [eqT_fields d xs ys fs]
theorem eqT_cons {d:Nat} {xs ys:Array Value} {n:String} {t:TypeId} {o:Nat} {l:List (String×TypeId×Nat)} {a b:Value} {r s:Bool} (hn:n≠ "_") (ha:(Go.part t xs o).run P w= .ok a w) (hb:(Go.part t ys o).run P w= .ok b w)
  (he:(Op.equalIn d t a b).run P w= .ok r w) (hr:(eqT d xs ys l).run P w= .ok s w):(eqT d xs ys ((n,t,o)::l)).run P w= .ok (r && s) w:=by
 unfold eqT
 rw [if_pos hn]
 simp only [Sem.run_bind,ha,hb,he,Result.andThen_ok]
 cases r
 ·simp
 ·simpa using hr
theorem eqT_nil {d:Nat} {xs ys:Array Value}:(eqT d xs ys []).run P w= .ok true w:=rfl
theorem part_one {t:TypeId} {xs:Array Value} {o:Nat} {v:Value} (ha:(isAgg t).run P w= .ok false w) (hv:xs[o]? =some v):(Go.part t xs o).run P w= .ok v w:=by
 simp [Go.part,ha,hv]
theorem part_agg {t:TypeId} {xs:Array Value} {o n:Nat} (ha:(isAgg t).run P w= .ok true w) (hs:(sizeOf t).run P w= .ok n w):(Go.part t xs o).run P w= .ok (.agg (xs.extract o (o+n))) w:=by
 simp [Go.part,ha,hs]
theorem eq_struct {d:Nat} {t:TypeId} {xs ys:Array Value} {l:List (String×TypeId×Nat)} {r:Bool} (ht:P.underlying t=some (.struct (P.fieldsOf t))) (hp:P.stoodInHeld t=false) (hl:(P.fieldsOf t).toList.map (fun f=> (f.name,f.type,f.offset))=l)
  (h:(eqT d xs ys l).run P w= .ok r w):(Op.equalIn (d+1) t (.agg xs) (.agg ys)).run P w= .ok r w:=by
 rw [run_equalIn_agg w d t xs ys ht hp,eqT_fields,hl]
 exact h
end
theorem agg_int (w:World):(isAgg 3).run Tryz.prog w= .ok false w:=by kernel_rfl
theorem eq_int {d:Nat} (a b:Int) (w:World):(Op.equalIn (d+1) 3 (.int .i64 a) (.int .i64 b)).run Tryz.prog w= .ok (a==b) w:=run_equalIn_int w d 3 .i64 .i64 a b Tryz.underlying3
end Go.Proofs.YtgalfohobgjelaaGreatDoor
