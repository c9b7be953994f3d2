/- What is proved here:several parts. the officers of a setup,by the program. Conditions:the persons' numbers are ints,there are few. · the officers of a setup,by the reference. Conditions:the persons' numbers are ints,there are few. -/
import Derived.Test.YtgalfohobgjelaaGreatDoorFr09
import Derived.BigQuiet
import Derived.Deep.QuietTactic
namespace Go.Proofs.YtgalfohobgjelaaGreatDoor
open Go.RowKit
open Go.Maps (Keyed)
def setV (pv:Value):Value:= .agg #[pv,.int .i64 0,.slice none 0 0,.slice none 0 0,.int .i64 0,.int .i64 0]
structure Pers.Ok (p:Pers):Prop where
 id:In p.id
 role:In p.role
 pub:In p.pub
def PersOk (P:List Pers):Prop:=∀p∈P,p.Ok
theorem PersOk.offs {P:List Pers} (h:PersOk P):PersOk (offs P):=fun p hp=>h p (offs_sub P p hp)
theorem int_law:Keyed Tryz.prog 3:=Go.Maps.int_keyed Tryz.underlying3
theorem wf_in {n:Int} (h:In n):(Lit.int .i64 n).wf=true:=by
 obtain⟨a,b⟩:=h
 simp [Lit.wf,IntKind.min,IntKind.max,IntKind.signed,IntKind.bits,a,b]
theorem key_int {n:Int} (h:In n):Go.keyOf Tryz.prog 3 (.int .i64 n)=some (.int .i64 n):=Go.Maps.keyOf_int_mk Tryz.underlying3 (wf_in h)
theorem zero_bool (w:World):(zeroValue 4).run Tryz.prog w= .ok (.bool false) w:=by kernel_rfl
noncomputable def seenF (ids:List Int):Value→Option Value:=fun x=>if ids.any (fun id=>eqv x (.int .i64 id))=true then some (.bool true) else none
theorem seenF_nil:seenF []=fun _=>none:=by funext x;unfold seenF;simp
theorem seenF_in {ids:List Int} {id:Int} (h:id∈ids):seenF ids (.int .i64 id)=some (.bool true):=by
 unfold seenF
 rw [if_pos (List.any_eq_true.2 ⟨id,h,eqv_self _⟩)]
theorem seenF_out {ids:List Int} {id:Int} (h:id ∉ ids):seenF ids (.int .i64 id)=none:=by
 unfold seenF
 rw [if_neg]
 intro hh
 obtain⟨i,hi,e⟩:=List.any_eq_true.1 hh
 have:=eqv_true.1 e
 cases this
 exact h hi
theorem seenF_put (ids:List Int) (id:Int) (x:Value):put1 (seenF ids) (.int .i64 id) (.bool true) x=seenF (ids++ [id]) x:=by
 by_cases e:x= .int .i64 id
 ·subst e
  rw [put1_same,seenF_in (by simp)]
 ·rw [put1_other e]
  unfold seenF
  rw [List.any_append]
  simp [eqv_false.2 e]
structure OfS (w:World) (b:Nat) (P:List Pers) (k:Nat) (ov:Value) (W:World):Prop where
 map:MapV W Tryz.prog 3 b k (seenF ((P.take k).map (·.id)))
 own:PerOwn W w.heap.size ov (offs (P.take k)).length (offs (P.take k))
 only:Only NoneOf w W
theorem own_map_ne {w:World} {base:Nat} {e:TypeId} {size n m:Nat} {v:Value} {xs:List Value} {P:Program} {k:TypeId} {b:Nat} {f:Value→Option Value} (h:w.ownsRow base e size v n xs) (hm:MapV w P k b m f):v.ownBlock≠some b:=by
 rcases h.2 with⟨rfl,_⟩|⟨g,cap,cur,rfl,_,hh,_⟩
 ·simp [Value.ownBlock]
 ·intro he
  have:g=b:=by simpa [Value.ownBlock] using he
  subst this
  obtain⟨D,⟨es,clock,hb,_⟩,_⟩:=hm
  rw [hh] at hb
  cases hb
set_option maxRecDepth 100000 in
set_option maxHeartbeats 4000000 in
theorem qofficers_any (P:List Pers) (hP:PersOk P) (hlen:P.length≤1000) (pv:Value) (w:World) (hp:PerSl w pv P):Calls Tryz.prog 87 #[setV pv] w fun e w'=> ∃ov,e= .returned ov∧PerSl w' ov (offs P)∧Only NoneOf w w':=by
 obtain⟨ie,z,hie,hsz,hz,hzc,hby⟩:=pers_info3
 obtain⟨A,cap,rfl,hlc,hcm,hA⟩:=hp
 unfold setV
 obtain⟨b,eb⟩:∃b,b=w.heap.size+1:=⟨_,rfl⟩
 have hs0:OfS w b P 0 (.slice none 0 0) ((w.alloc (.cells #[.slice A P.length cap,.int .i64 0,.slice none 0 0,.slice none 0 0,.int .i64 0,.int .i64 0] 50)).alloc (.map #[] 0)):=by
  have h1:=MapV.made (w.alloc (.cells #[.slice A P.length cap,.int .i64 0,.slice none 0 0,.slice none 0 0,.int .i64 0,.int .i64 0] 50)) Tryz.prog 3
  rw [World.size_alloc,←eb] at h1
  refine⟨?_,⟨rfl,.inl ⟨rfl,rfl⟩⟩,((Only.refl _ _).alloc _).alloc _⟩
  rw [List.take_zero,List.map_nil,seenF_nil]
  exact h1
 have HS0:=Lib.hid hs0
 have HA:=Lib.hid hA
 have HPO:=Lib.hid hP
 have HIE:=Lib.hid hie
 have HSZ:=Lib.hid hsz
 have HZ:=Lib.hid hz
 have HZC:=Lib.hid hzc
 have HBY:=Lib.hid hby
 have HEB:=Lib.hid eb
 have hwb:w.heap.size≤b:=by omega
 clear hs0 hA hP hie hsz hz hzc hby eb
 have hmm:= @run_makeMap Tryz.prog
 go_enter Tryz.func87,Tryz.ntmps87
 go_upto_region 2 with(fail)
 rw [←HEB.out]
 refine wp_gen (fun Y=>OfS w b P 0 (.slice none 0 0) Y∧Y.cell? ⟨w.heap.size,0,none⟩=some (.slice A P.length cap)) ⟨HS0.out,((Blk.new w 50 #[.slice A P.length cap,.int .i64 0,.slice none 0 0,.slice none 0 0,.int .i64 0,.int .i64 0]).alloc _).cell 0⟩ ?_
 rintro Y ⟨hY,cY⟩
 have HY:=Lib.hid hY
 clear hY HS0 hmm
 go_wp2_with fail
 go_loopw [4,11] (fun ov i wr=> ∃k:Nat,i= .int .i64 k∧k≤P.length∧OfS w b P k ov wr) (fun _ i _=>P.length - (intOf i).toNat)
 case atStart=>exact⟨0,rfl,Nat.zero_le _,HY.out⟩
 case round=>
  obtain⟨k,rfl,hk,hS⟩:=hrel
  by_cases hlt:k<P.length
  ·obtain⟨p,hp⟩:∃p,P[k]? =some p:=⟨_,List.getElem?_eq_getElem hlt⟩
   obtain⟨g,o,hA',hg,hr⟩:=HA.out k p hp
   subst hA'
   have hpo:=HPO.out p (List.mem_of_getElem? hp)
   have hr2:=rng_only hr hS.only
   have ik:(k:Int) < (P.length:Int):=by omega
   have c0:wr.cell? ⟨g,o+k * 3,none⟩=some (.int .i64 p.id):=hr2 0 _ rfl
   have c1:wr.cell? ⟨g,o+k * 3+1,none⟩=some (.int .i64 p.role):=hr2 1 _ rfl
   have c2:wr.cell? ⟨g,o+k * 3+2,none⟩=some (.int .i64 p.pub):=hr2 2 _ rfl
   have htk:=offs_take hp
   have hid:(P.take (k+1)).map (·.id)=(P.take k).map (·.id) ++ [p.id]:=by
    rw [List.take_add_one,hp,Option.toList_some,List.map_append];rfl
   have hm1:∀o,MapV (wr.alloc o) Tryz.prog 3 b k (seenF ((P.take k).map (·.id))):=fun o=>hS.map.only ((Only.refl NoneOf _).alloc o) (fun e=>e)
   have hkey:=key_int hpo.id
   have HS:=Lib.hid hS
   have HTK:=Lib.hid htk
   have HID:=Lib.hid hid
   have HM1:=Lib.hid hm1
   have HKEY:=Lib.hid hkey
   clear hS htk hid hm1 hkey hr hr2
   by_cases hseen:p.id∈(P.take k).map (·.id)
   ·have hlk:∀o,(Instr.lookup 193 (.map (some b)) (.int .i64 p.id) false).run Tryz.prog (wr.alloc o)= .ok (.bool true) (wr.alloc o):=fun o=>by
     rw [(HM1.out o).look int_law Tryz.underlying193 (zero_bool _) HKEY.out,seenF_in hseen];rfl
    have hn:¬(p.id ∉ (P.take k).map (·.id)∧p.role=2):=fun h=>h.1 hseen
    have HN:=Lib.hid hn
    clear hseen hn
    go_wp2_with (first
     |(at_mapUpdate;refine wpList_put _ rfl _ _ _ 193 rfl 3 4 int_law Tryz.underlying193 b k _ rfl (HM1.out _) (by rw [maxLen_val];omega) _ _ _ rfl rfl HKEY.out ?_;intro w1 hown1 hgrow1))
    have hnew:OfS w b P (k+1) u4 w1:=by
     refine⟨?_,?_,((HS.out.only.alloc _).grown hgrow1 (fun j e=>by cases e;exact .inr hwb))⟩
     ·rw [HID.out];exact hown1.congr (seenF_put _ _)
     ·rw [HTK.out,if_neg HN.out,List.append_nil]
      exact World.ownsRow.kept (World.ownsRow.alloc (show World.ownsRow wr _ _ _ _ _ _ from HS.out.own) _) hgrow1 (.inr (own_map_ne HS.out.own HS.out.map))
    have HNEW:=Lib.hid hnew
    clear hown1 hgrow1 hnew c0 c1 c2 hlk
    go_roundw
    case rel=>exact⟨k+1,by go_num,by omega,HNEW.out⟩
    case measure=>simp [intOf];omega
   ·have hlk:∀o,(Instr.lookup 193 (.map (some b)) (.int .i64 p.id) false).run Tryz.prog (wr.alloc o)= .ok (.bool false) (wr.alloc o):=fun o=>by
     rw [(HM1.out o).look int_law Tryz.underlying193 (zero_bool _) HKEY.out,seenF_out hseen];rfl
    by_cases hrole:p.role=2
    ·have hr2:(p.role==2)=true:=beq_iff_eq.2 hrole
     have hn:p.id ∉ (P.take k).map (·.id)∧p.role=2:=⟨hseen,hrole⟩
     have HN:=Lib.hid hn
     clear hseen hn hrole
     have hcells:(offs (P.take (k+1))).flatMap persC=(offs (P.take k)).flatMap persC++ [.int .i64 p.id,.int .i64 p.role,.int .i64 p.pub]:=by
      rw [HTK.out,if_pos HN.out,List.flatMap_append,List.flatMap_cons,List.flatMap_nil,List.append_nil];rfl
     have hol:(offs (P.take k)).length≤k:=Nat.le_trans (offs_len _) (List.length_take_le _ _)
     have hol1:(offs (P.take (k+1))).length=(offs (P.take k)).length+1:=by rw [HTK.out,if_pos HN.out,List.length_append];rfl
     have hsz:=HS.out.only.size
     have HCELLS:=Lib.hid hcells
     have HOL1:=Lib.hid hol1
     have HC2:Hid (∀o w2,World.grownBy ((wr.alloc (.cells #[.int .i64 p.id,.int .i64 p.role,.int .i64 p.pub] 67)).alloc o) w2 (Value.ownBlock u4)→w2.cell? ⟨wr.heap.size,0,none⟩=some (.int .i64 p.id)):=Lib.hid (fun o w2 hg=>by
      rw [hg.cell_far ⟨wr.heap.size,0,none⟩ (by simp;omega) (fun e=>by have:=(World.ownsRow.lt (show World.ownsRow wr _ _ _ _ _ _ from HS.out.own) _ e.symm).2;simp at this)]
      exact((Blk.new wr 67 #[.int .i64 p.id,.int .i64 p.role,.int .i64 p.pub]).alloc o).cell 0)
     have hm2all:∀o o',MapV ((wr.alloc o).alloc o') Tryz.prog 3 b k (seenF ((P.take k).map (·.id))):=fun o o'=> (HM1.out o).only ((Only.refl NoneOf _).alloc o') (fun e=>e)
     clear hcells hol1
     go_wp2_with (first
      |(at_builtin;refine wpList_append_lies _ rfl _ _ 46 rfl w.heap.size 67 ie z 3 24 Tryz.underlying46 HIE.out HZ.out HSZ.out HBY.out HZC.out (by omega) u4 _ _ rfl ((HS.out.own.alloc _).alloc _) ⟨wr.heap.size+1,0,none⟩ 1 1 [.int .i64 p.id,.int .i64 p.role,.int .i64 p.pub] rfl rfl (World.news_of_block (cs:= #[.int .i64 p.id,.int .i64 p.role,.int .i64 p.pub]) (t:=67) (fr:=(0,0)) (by have h9:=heap_alloc_new (wr.alloc (.cells #[.int .i64 p.id,.int .i64 p.role,.int .i64 p.pub] 67)) (.cells #[.int .i64 p.id,.int .i64 p.role,.int .i64 p.pub] 67);rw [World.size_alloc] at h9;exact h9)) (by simp [Value.oneCell']) (by omega) (by rw [maxLen_val];omega) (by omega) (by simp;omega) (wr.heap.size+1+1) (by simp) ?_;intro g2 cap2 w2 hown2 hgrow2 hat2 hlt2;have hm2:=(hm2all _ _).grown hgrow2 (Ne.symm (own_map_ne HS.out.own HS.out.map));have hc2:=HC2.out _ w2 hgrow2)
      |(at_mapUpdate;refine wpList_put _ rfl _ _ _ 193 rfl 3 4 int_law Tryz.underlying193 b k _ rfl hm2 (by rw [maxLen_val];omega) _ _ _ rfl rfl HKEY.out ?_;intro w1 hown1 hgrow1))
     have hnew:OfS w b P (k+1) (.slice (some ⟨g2,0,none⟩) ((offs (P.take k)).length+1) cap2) w1:=by
      refine⟨?_,?_,(((HS.out.only.alloc _).alloc _).grown hgrow2 (fun j e=> .inr (World.ownsRow.lt (show World.ownsRow wr _ _ _ _ _ _ from HS.out.own) _ e).1)).grown hgrow1 (fun j e=>by cases e;exact .inr hwb)⟩
      ·rw [HID.out];exact hown1.congr (seenF_put _ _)
      ·unfold PerOwn
       rw [HCELLS.out,HOL1.out]
       exact World.ownsRow.kept hown2 hgrow1 (.inr (own_map_ne hown2 hm2))
     have HNEW:=Lib.hid hnew
     clear hown1 hgrow1 hown2 hgrow2 hm2 hc2 hm2all hnew c0 c1 c2 hlk hr2 hat2 hlt2
     go_roundw
     case rel=>exact⟨k+1,by go_num,by omega,HNEW.out⟩
     case measure=>simp [intOf];omega
    ·have hr2:(p.role==2)=false:=beq_eq_false_iff_ne.2 hrole
     have hn:¬(p.id ∉ (P.take k).map (·.id)∧p.role=2):=fun h=>hrole h.2
     have HN:=Lib.hid hn
     clear hseen hn hrole
     go_wp2_with (first
      |(at_mapUpdate;refine wpList_put _ rfl _ _ _ 193 rfl 3 4 int_law Tryz.underlying193 b k _ rfl (HM1.out _) (by rw [maxLen_val];omega) _ _ _ rfl rfl HKEY.out ?_;intro w1 hown1 hgrow1))
     have hnew:OfS w b P (k+1) u4 w1:=by
      refine⟨?_,?_,((HS.out.only.alloc _).grown hgrow1 (fun j e=>by cases e;exact .inr hwb))⟩
      ·rw [HID.out];exact hown1.congr (seenF_put _ _)
      ·rw [HTK.out,if_neg HN.out,List.append_nil]
       exact World.ownsRow.kept (World.ownsRow.alloc (show World.ownsRow wr _ _ _ _ _ _ from HS.out.own) _) hgrow1 (.inr (own_map_ne HS.out.own HS.out.map))
     have HNEW:=Lib.hid hnew
     clear hown1 hgrow1 hnew c0 c1 c2 hlk hr2
     go_roundw
     case rel=>exact⟨k+1,by go_num,by omega,HNEW.out⟩
     case measure=>simp [intOf];omega
  ·obtain rfl:k=P.length:=by omega
   have hall:P.take P.length=P:=List.take_length
   have hown:=hS.own
   rw [hall] at hown
   have HSL:=Lib.hid (hown.sl)
   have HO:=Lib.hid hS.only
   clear hS hown hall
   go_wp2_with fail
   go_ret
   exact⟨_,rfl,HSL.out,HO.out⟩
end Go.Proofs.YtgalfohobgjelaaGreatDoor
namespace Go.Proofs.YtgalfohobgjelaaGreatDoor
open Go.RowKit
end Go.Proofs.YtgalfohobgjelaaGreatDoor
