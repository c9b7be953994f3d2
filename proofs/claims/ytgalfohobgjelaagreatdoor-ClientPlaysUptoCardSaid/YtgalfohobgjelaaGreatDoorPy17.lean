/- What is proved here: a part of the proof that 'probitylaw31.ClientPlays' answers true. Conditions: each theorem's own. -/
import Derived.Test.YtgalfohobgjelaaGreatDoorPy16
set_option maxRecDepth 100000
set_option maxHeartbeats 8000000
namespace Go.Proofs.YtgalfohobgjelaaGreatDoor
section
open Go.RowKit Go.Shelf
attribute [local go_sem ↓ high] Ωip
theorem ΩdE:∀(f:Nat) (l:List (List UInt8)) (m:Nat) (b:Bool),HsOk (Ωcj f l m b)
 |0,_,_,_=>fun _ h=>by cases h
 |f+1,l,m,b=>by
  have h1:=ΩdE f (l.take (Ωh l.length)) m b
  have h2:=ΩdE f (l.drop (Ωh l.length)) (m-Ωh l.length) false
  intro h hh
  unfold Ωcj at hh
  split at hh
  ·split at hh
   ·cases hh
   ·rw[Ωou.1 hh];exact ΩF _
  ·split at hh
   ·rcases Ωn3.1 hh with rfl|hh
    ·exact ΩF _
    ·exact h1 h hh
   ·rcases Ωn3.1 hh with rfl|hh
    ·exact ΩF _
    ·exact h2 h hh
theorem Ωcu:∀(f:Nat) (l:List (List UInt8)) (m:Nat) (b:Bool),(Ωcj f l m b).length≤f
 |0,_,_,_=>Ωnv _
 |f+1,l,m,b=>by
  have h1:=Ωcu f (l.take (Ωh l.length)) m b
  have h2:=Ωcu f (l.drop (Ωh l.length)) (m-Ωh l.length) false
  unfold Ωcj
  split
  ·split<;>simp
  ·split<;>(rw[ΩnD];omega)
theorem ΩfJ(L:List ByteArray)(k:Nat):txs (L.take k)=(txs L).take k:=List.map_take
theorem ΩfK(L:List ByteArray)(k:Nat):txs (L.drop k)=(txs L).drop k:=List.map_drop
theorem own_oneH{W:World}{g base:Nat}{h:Hs}(hb:Blk W g 35 (h.map bv).toArray)(hl:h.length=32)(hg:base≤g):W.ownsRow base 35 32 (.slice (some ⟨g,0,none⟩) 1 1) 1 (hbC h):=
 ⟨by unfold hbC;rw[ΩnN,hl],.inr ⟨g,1,(h.map bv).toArray,rfl,hg,hb,Ωnv _,by rw[Ωg];omega,by rw[ΩnJ,ΩnN,hl],by unfold hbC;rw[show(h.map bv).toArray.toList =h.map bv from rfl];exact ΩnI (by rw[ΩnN,hl];omega)⟩⟩
theorem Ωgq:∀(f:Nat) (L:List ByteArray) (m:Nat) (whole:Bool) (_:L.length≤f) (_:f≤1000) (_:Ωb7 L) (_:1≤m) (_:m≤L.length) (v:Value) (w:World) (_:StSl w v L),
  Calls Tryz.prog 51 #[v,.int .i64 (m:Int),.bool whole] w fun e w' =>∃gv,e= .returned gv∧ΩO w' w.heap.size gv (Ωcj f (txs L) m whole).length (Ωcj f (txs L) m whole).reverse∧Only Ωa w w'
 |0,L,m,whole,hf,_,_,h1,h2,_,_,_=>by omega
 |f+1,L,m,whole,hf,hf2,hsh,h1,h2,v,w,hs=>by
  obtain⟨A,cap,rfl,hlc,hcm,hA⟩:=id hs
  obtain⟨s0,hs0⟩:∃s,L[0]? =some s:=⟨_,Ωnu (by omega)⟩
  obtain⟨g,o,rfl,hc0⟩:=hA 0 s0 hs0
  have hg0:Ωcj (f+1) (txs L) m whole=if m=L.length then(if whole then [] else [ΩN (txs L)]) else if m≤Ωh L.length then ΩN ((txs L).drop (Ωh L.length))::Ωcj f ((txs L).take (Ωh L.length)) m whole else ΩN ((txs L).take (Ωh L.length))::Ωcj f ((txs L).drop (Ωh L.length)) (m-Ωh L.length) false:=by
   rw[←Ωb0 L];rfl
  by_cases he:m=L.length
  ·have c1:((m:Int)==(L.length:Int))=true:=by simp[he]
   rw[ΩnV he] at hg0
   cases whole with
   |true=>
    rw[hg0]
    clear hg0 hA hs hs0 hc0 he
    go_enter Tryz.func51,Tryz.ntmps51
    go_wp2_with fail
    go_ret
    exact⟨_,rfl,ΩO.nil w _,Only.refl _ _⟩
   |false=>
    rw[hg0]
    obtain⟨a,ea⟩:∃a,a=ΩN (txs L):=⟨_,rfl⟩
    have hal:a.length=32:=by rw[ea];exact ΩF _
    have hroot:Calls Tryz.prog 42 #[.slice (some ⟨g,o,none⟩) L.length cap] w fun e w' =>e= .returned (hv a)∧Only Ωa w w' :=by rw[ea];exact Ωbi L.length L (Ωnv _) (by omega) hsh _ w hs
    have hbs:=Ωb3 a hal
    have HR:=Θ hroot
    have HAL:=Θ hal
    rw[←ea]
    clear hroot hal ea hg0 hA hs hs0 hc0 he
    go_enter Tryz.func51,Tryz.ntmps51
    go_wp2_with fail
    refine HR.out.mono ?_
    rintro e1 w1 ⟨rfl,ho1⟩
    have HO1:=Θ ho1
    clear ho1
    go_wp2_with fail
    go_ret
    refine⟨_,rfl,?_,HO1.out.alloc _⟩
    have h:=own_oneH (base:=w.heap.size) (Blk.new w1 35 (a.map bv).toArray) HAL.out HO1.out.size
    unfold ΩO
    simpa using h
  ·have c1:((m:Int)==(L.length:Int))=false:=by rw[ΩnL];omega
   rw[ΩnU he] at hg0
   have hsp:=Ω3 (n:=L.length) (by omega) (by omega)
   obtain⟨k,ek⟩:∃k,k=Ωh L.length:=⟨_,rfl⟩
   have HH:Hid (∀W,Calls Tryz.prog 60 #[.int .i64 (L.length:Int)] W fun e w' =>e= .returned (.int .i64 (k:Int))∧w' =W):=Θ (fun W=>by rw[ek];exact Ωb1 L.length (by omega) (by omega) W)
   rw[←ek] at hsp hg0
   have ik0:(0:Int)≤(k:Int):=by omega
   have ik1:(k:Int)≤(cap:Int):=by omega
   have ik2:(k:Int)≤(L.length:Int):=by omega
   have il:(L.length:Int)≤(cap:Int):=by omega
   have nk:¬cap=k:=by omega
   by_cases hk:m≤k
   ·have c2:decide ((m:Int)≤(k:Int))=true:=ΩnG (by omega)
    obtain⟨LG,eLG⟩:∃LG,LG=Ωcj f (txs (L.take k)) m whole:=⟨_,rfl⟩
    obtain⟨a,ea⟩:∃a,a=ΩN (txs (L.drop k)):=⟨_,rfl⟩
    have hal:a.length=32:=by rw[ea];exact ΩF _
    have hLG:HsOk LG:=by rw[eLG];exact ΩdE _ _ _ _
    have hLl:LG.length≤f:=by rw[eLG];exact Ωcu _ _ _ _
    have hg1:Ωcj (f+1) (txs L) m whole=a::LG:=by rw[hg0,ΩnV hk,ea,eLG,ΩfJ,ΩfK,ek]
    have hrec:∀W,Only Ωa w W→Calls Tryz.prog 51 #[(.slice (some ⟨g,o,none⟩) k cap),.int .i64 (m:Int),.bool whole] W fun e w' =>∃gv,e= .returned gv∧ΩO w' w.heap.size gv LG.length LG.reverse∧Only Ωa W w' :=fun W ho=>by
     have h:=Ωgq f (L.take k) m whole (by rw[ΩnB];omega) (by omega) (fun s h=>hsh s (by first|exact ΩnY h|exact Ωor h)) (by omega) (by rw[ΩnB];omega) _ W ((hs.only ho).take (by omega))
     rw[←eLG] at h
     exact h.mono (fun e w' ⟨gv,h1,h2,h3⟩=>⟨gv,h1,ΩE h2 ho.size,h3⟩)
    have hroot:∀W,Only Ωa w W→Calls Tryz.prog 42 #[(.slice (some ⟨g,o+k,none⟩) (L.length-k) (cap-k))] W fun e w' =>e= .returned (hv a)∧Only Ωa W w' :=fun W ho=>by
     rw[ea]
     exact Ωbi L.length (L.drop k) (by rw[Ωn4];omega) (by rw[Ωn4];omega) (fun s h=>hsh s (by first|exact ΩnY h|exact Ωor h)) _ W ((hs.only ho).drop (by omega))
    obtain⟨ie,zz,hie,hsz,hz,hzc,hby⟩:=Ωct
    have HIE:=Θ hie
    have HSZ:=Θ hsz
    have HZZ:=Θ hz
    have HZC:=Θ hzc
    have HBY:=Θ hby
    have hbs:=Ωb3 a hal
    have GC:=Θ hrec
    have RC:=Θ hroot
    have HAL:=Θ hal
    have HLG:=Θ hLG
    rw[hg1]
    have hS0:Only Ωa w w.drew:=(Only.refl _ _).drew
    have hx:True:=trivial
    clear hrec hroot hal hLG hg0 hg1 ea eLG ek hie hsz hz hzc hby hA hs hs0 hc0 he
    go_enter Tryz.func51,Tryz.ntmps51
    go_wp2_with fail
    refine(HH.out _).mono ?_
    rintro e1 w1 ⟨rfl,rfl⟩
    go_upto_region 7 with(fail)
    go_region_held3 (fun W=>Only Ωa w1 W) (first|(with_reducible assumption)|(with_reducible exact Only.alloc (by with_reducible assumption) _))
     (first
      |(refine step_append_lies _ (by rfl) _ _ _ (by rfl) w1.heap.size 35 ie zz 32 ie.bytes Tryz.underlying59 HIE.out HZZ.out HSZ.out rfl HZC.out (by omega) gv LG.length (LG.reverse.flatMap hbC) (by rfl) (World.ownsRow.alloc hown6 _) _ 1 1 (hbC a) (by rfl) (by unfold hbC;rw[ΩnN,HAL.out]) (World.news_of_block (cs:=(a.map bv).toArray) (t:=35) (fr:=(0,0)) (newH _ a)) (ΩgM a) (by omega) (by rw[Ωg];omega) (by have:=HBY.out;exact Ωnz (Ωov (show LG.length+1≤2000 by omega) this) (by omega)) (Only.size (by with_reducible first|assumption|exact Only.alloc (by assumption) _)) _ rfl ?_;intro g8 cap8 w8 hown8 hgrow8 hat8 hlt8;have hS8:Only Ωa w1 w8:=(Only.alloc hS6 _).grown hgrow8 (fun j e=> .inr (ΩJ hown6 e).1);clear hgrow8 hat8 hlt8)
      |(go_at_call 51;(with_reducible refine(GC.out _ (by assumption)).mono ?_);rintro e5 w5 ⟨gv,rfl,hown5,ho5⟩;have hS5:=Only.trans (by with_reducible assumption) ho5)
      |(go_at_call 42;(with_reducible refine(RC.out _ (by assumption)).mono ?_);rintro e6 w6 ⟨rfl,ho6⟩;have hS6:=Only.trans (by with_reducible assumption) ho6;have hown6:=Ωe hown5 ho6 (fun _ _ e=>e)))
    all_goals
     have HF:=Θ hS8
     have HW:=Θ hown8
     clear hown8 hS8
     go_wp2_with fail
     go_ret
     refine⟨_,rfl,?_,HF.out⟩
     have h:=HW.out
     unfold ΩO
     rw[List.reverse_cons,Ωn2]
     simpa using h
   ·have c2:decide ((m:Int)≤(k:Int))=false:=Ωny (by omega)
    have kmk:(m:Int)-(k:Int)=((m-k:Nat):Int):=by omega
    obtain⟨LG,eLG⟩:∃LG,LG=Ωcj f (txs (L.drop k)) (m-k) false:=⟨_,rfl⟩
    obtain⟨a,ea⟩:∃a,a=ΩN (txs (L.take k)):=⟨_,rfl⟩
    have hal:a.length=32:=by rw[ea];exact ΩF _
    have hLG:HsOk LG:=by rw[eLG];exact ΩdE _ _ _ _
    have hLl:LG.length≤f:=by rw[eLG];exact Ωcu _ _ _ _
    have hg1:Ωcj (f+1) (txs L) m whole=a::LG:=by rw[hg0,ΩnU hk,ea,eLG,ΩfJ,ΩfK,ek]
    have hrec:∀W,Only Ωa w W→Calls Tryz.prog 51 #[(.slice (some ⟨g,o+k,none⟩) (L.length-k) (cap-k)),.int .i64 ((m:Int)-(k:Int)),.bool false] W fun e w' =>∃gv,e= .returned gv∧ΩO w' w.heap.size gv LG.length LG.reverse∧Only Ωa W w' :=fun W ho=>by
     have h:=Ωgq f (L.drop k) (m-k) false (by rw[Ωn4];omega) (by omega) (fun s h=>hsh s (by first|exact ΩnY h|exact Ωor h)) (by omega) (by rw[Ωn4];omega) _ W ((hs.only ho).drop (by omega))
     rw[←eLG,←kmk] at h
     exact h.mono (fun e w' ⟨gv,h1,h2,h3⟩=>⟨gv,h1,ΩE h2 ho.size,h3⟩)
    have hroot:∀W,Only Ωa w W→Calls Tryz.prog 42 #[(.slice (some ⟨g,o,none⟩) k cap)] W fun e w' =>e= .returned (hv a)∧Only Ωa W w' :=fun W ho=>by
     rw[ea]
     exact Ωbi L.length (L.take k) (by rw[ΩnB];omega) (by rw[ΩnB];omega) (fun s h=>hsh s (by first|exact ΩnY h|exact Ωor h)) _ W ((hs.only ho).take (by omega))
    obtain⟨ie,zz,hie,hsz,hz,hzc,hby⟩:=Ωct
    have HIE:=Θ hie
    have HSZ:=Θ hsz
    have HZZ:=Θ hz
    have HZC:=Θ hzc
    have HBY:=Θ hby
    have hbs:=Ωb3 a hal
    have GC:=Θ hrec
    have RC:=Θ hroot
    have HAL:=Θ hal
    have HLG:=Θ hLG
    rw[hg1]
    have hS0:Only Ωa w w.drew:=(Only.refl _ _).drew
    have hx:IntKind.i64.wrap ((m:Int)-(k:Int))=(m:Int)-(k:Int):=ΩnH _ (by omega)
    clear kmk hrec hroot hal hLG hg0 hg1 ea eLG ek hie hsz hz hzc hby hA hs hs0 hc0 he
    go_enter Tryz.func51,Tryz.ntmps51
    go_wp2_with fail
    refine(HH.out _).mono ?_
    rintro e1 w1 ⟨rfl,rfl⟩
    go_upto_region 8 with(fail)
    go_region_held3 (fun W=>Only Ωa w1 W) (first|(with_reducible assumption)|(with_reducible exact Only.alloc (by with_reducible assumption) _))
     (first
      |(refine step_append_lies _ (by rfl) _ _ _ (by rfl) w1.heap.size 35 ie zz 32 ie.bytes Tryz.underlying59 HIE.out HZZ.out HSZ.out rfl HZC.out (by omega) gv LG.length (LG.reverse.flatMap hbC) (by rfl) (World.ownsRow.alloc hown6 _) _ 1 1 (hbC a) (by rfl) (by unfold hbC;rw[ΩnN,HAL.out]) (World.news_of_block (cs:=(a.map bv).toArray) (t:=35) (fr:=(0,0)) (newH _ a)) (ΩgM a) (by omega) (by rw[Ωg];omega) (by have:=HBY.out;exact Ωnz (Ωov (show LG.length+1≤2000 by omega) this) (by omega)) (Only.size (by with_reducible first|assumption|exact Only.alloc (by assumption) _)) _ rfl ?_;intro g8 cap8 w8 hown8 hgrow8 hat8 hlt8;have hS8:Only Ωa w1 w8:=(Only.alloc hS6 _).grown hgrow8 (fun j e=> .inr (ΩJ hown6 e).1);clear hgrow8 hat8 hlt8)
      |(go_at_call 51;(with_reducible refine(GC.out _ (by assumption)).mono ?_);rintro e5 w5 ⟨gv,rfl,hown5,ho5⟩;have hS5:=Only.trans (by with_reducible assumption) ho5)
      |(go_at_call 42;(with_reducible refine(RC.out _ (by assumption)).mono ?_);rintro e6 w6 ⟨rfl,ho6⟩;have hS6:=Only.trans (by with_reducible assumption) ho6;have hown6:=Ωe hown5 ho6 (fun _ _ e=>e)))
    all_goals
     have HF:=Θ hS8
     have HW:=Θ hown8
     clear hown8 hS8
     go_wp2_with fail
     go_ret
     refine⟨_,rfl,?_,HF.out⟩
     have h:=HW.out
     unfold ΩO
     rw[List.reverse_cons,Ωn2]
     simpa using h
def ΩbC(l:List (List UInt8))(m:Nat):List Hs:=if m=0∨m=l.length then [] else(Ωcj l.length l m true).reverse
theorem growL_ok(l:List (List UInt8))(m:Nat):HsOk (ΩbC l m):=by
 unfold ΩbC
 split
 ·exact fun _ h=>by cases h
 ·exact fun h hh=>ΩdE _ _ _ _ h (List.mem_reverse.1 hh)
theorem Ωgp(L:List ByteArray)(m:Nat)(hm:m≤L.length)(hl:L.length≤1000)(hsh:Ωb7 L)(v:Value)(w:World)(hs:StSl w v L):
  Calls Tryz.prog 21 #[v,.int .i64 (m:Int)] w fun e w' =>∃gv,e= .returned (.tuple #[gv,.bool true])∧ΩO w' w.heap.size gv (ΩbC (txs L) m).length (ΩbC (txs L) m)∧Only Ωa w w' :=by
 obtain⟨A,cap,rfl,hlc,hcm,_⟩:=id hs
 have d1:decide ((m:Int)<0)=false:=Ωny (by omega)
 have d2:decide ((L.length:Int)<(m:Int))=false:=Ωny (by omega)
 by_cases h0:m=0
 ·have hg:ΩbC (txs L) m=[]:=by unfold ΩbC;rw[ΩnV (.inl h0)]
  have d3:((m:Int)==0)=true:=by simp[h0]
  rw[hg]
  clear hg hs h0
  go_enter Tryz.func21,Tryz.ntmps21
  go_wp2_with fail
  go_ret2
  exact⟨_,rfl,ΩO.nil w _,Only.refl _ _⟩
 ·have d3:((m:Int)==0)=false:=by rw[ΩnL];omega
  by_cases hn:m=L.length
  ·have hg:ΩbC (txs L) m=[]:=by unfold ΩbC;rw[ΩnV (.inr (by rw[Ωb0];exact hn))]
   have d4:((m:Int)==(L.length:Int))=true:=by simp[hn]
   rw[hg]
   clear hg hs hn
   go_enter Tryz.func21,Tryz.ntmps21
   go_wp2_with fail
   go_ret2
   exact⟨_,rfl,ΩO.nil w _,Only.refl _ _⟩
  ·have hg:ΩbC (txs L) m=(Ωcj L.length (txs L) m true).reverse :=by unfold ΩbC;rw[ΩnU (by rw[Ωb0];omega),Ωb0]
   have d4:((m:Int)==(L.length:Int))=false:=by rw[ΩnL];omega
   have hgr:=Ωgq L.length L m true (Ωnv _) hl hsh (by omega) hm _ w hs
   rw[hg,Ωog]
   have HG:=Θ hgr
   clear hg hgr hs hn
   go_enter Tryz.func21,Tryz.ntmps21
   go_wp2_with fail
   refine HG.out.mono ?_
   rintro e1 w1 ⟨gv,rfl,hown,ho⟩
   have HF:=Θ (And.intro hown ho)
   clear hown ho
   go_wp2_with fail
   go_ret2
   exact⟨_,rfl,HF.out.1,HF.out.2⟩
end
section
open Go.RowKit Go.Shelf
attribute [local go_sem ↓ high] Ωip
theorem Ωey:∀(f:Nat) (l:List (List UInt8)) (i:Nat),HsOk (Ωch f l i)
 |0,_,_=>fun _ h=>by cases h
 |f+1,l,i=>by
  have h1:=Ωey f (l.take (Ωh l.length)) i
  have h2:=Ωey f (l.drop (Ωh l.length)) (i-Ωh l.length)
  intro h hh
  unfold Ωch at hh
  split at hh
  ·cases hh
  ·split at hh
   ·rcases Ωn3.1 hh with rfl|hh
    ·exact ΩF _
    ·exact h1 h hh
   ·rcases Ωn3.1 hh with rfl|hh
    ·exact ΩF _
    ·exact h2 h hh
theorem Ωdd:∀(f:Nat) (l:List (List UInt8)) (i:Nat),(Ωch f l i).length≤f
 |0,_,_=>Ωnv _
 |f+1,l,i=>by
  have h1:=Ωdd f (l.take (Ωh l.length)) i
  have h2:=Ωdd f (l.drop (Ωh l.length)) (i-Ωh l.length)
  unfold Ωch
  split
  ·simp
  ·split<;>(rw[ΩnD];omega)
theorem Ωgm:∀(f:Nat) (L:List ByteArray) (i:Nat) (_:L.length≤f) (_:f≤1000) (_:Ωb7 L) (_:i<L.length) (v:Value) (w:World) (_:StSl w v L),
  Calls Tryz.prog 29 #[v,.int .i64 (i:Int)] w fun e w' =>∃gv,e= .returned (.tuple #[gv,.bool true])∧ΩO w' w.heap.size gv (Ωch f (txs L) i).length (Ωch f (txs L) i).reverse∧Only Ωa w w'
 |0,L,i,hf,_,_,h1,_,_,_=>by omega
 |f+1,L,i,hf,hf2,hsh,h1,v,w,hs=>by
  obtain⟨A,cap,rfl,hlc,hcm,hA⟩:=id hs
  obtain⟨s0,hs0⟩:∃s,L[0]? =some s:=⟨_,Ωnu (by omega)⟩
  obtain⟨g,o,rfl,hc0⟩:=hA 0 s0 hs0
  have hg0:Ωch (f+1) (txs L) i=if L.length≤1 then [] else if i<Ωh L.length then ΩN ((txs L).drop (Ωh L.length))::Ωch f ((txs L).take (Ωh L.length)) i else ΩN ((txs L).take (Ωh L.length))::Ωch f ((txs L).drop (Ωh L.length)) (i-Ωh L.length):=by
   rw[←Ωb0 L];rfl
  have d1:decide ((i:Int)<0)=false:=Ωny (by omega)
  have d2:decide ((L.length:Int)≤(i:Int))=false:=Ωny (by omega)
  by_cases he:L.length≤1
  ·have c1:((L.length:Int)==1)=true:=by simp;omega
   rw[hg0,ΩnV he]
   clear hg0 hA hs hs0 hc0 he
   go_enter Tryz.func29,Tryz.ntmps29
   go_wp2_with fail
   go_ret2
   exact⟨_,rfl,ΩO.nil w _,Only.refl _ _⟩
  ·have c1:((L.length:Int)==1)=false:=by rw[ΩnL];omega
   rw[ΩnU he] at hg0
   have hsp:=Ω3 (n:=L.length) (by omega) (by omega)
   obtain⟨k,ek⟩:∃k,k=Ωh L.length:=⟨_,rfl⟩
   have HH:Hid (∀W,Calls Tryz.prog 60 #[.int .i64 (L.length:Int)] W fun e w' =>e= .returned (.int .i64 (k:Int))∧w' =W):=Θ (fun W=>by rw[ek];exact Ωb1 L.length (by omega) (by omega) W)
   rw[←ek] at hsp hg0
   have ik0:(0:Int)≤(k:Int):=by omega
   have ik1:(k:Int)≤(cap:Int):=by omega
   have ik2:(k:Int)≤(L.length:Int):=by omega
   have il:(L.length:Int)≤(cap:Int):=by omega
   have nk:¬cap=k:=by omega
   by_cases hk:i<k
   ·have c2:decide ((i:Int)<(k:Int))=true:=ΩnG (by omega)
    obtain⟨LG,eLG⟩:∃LG,LG=Ωch f (txs (L.take k)) i:=⟨_,rfl⟩
    obtain⟨a,ea⟩:∃a,a=ΩN (txs (L.drop k)):=⟨_,rfl⟩
    have hal:a.length=32:=by rw[ea];exact ΩF _
    have hLG:HsOk LG:=by rw[eLG];exact Ωey _ _ _
    have hLl:LG.length≤f:=by rw[eLG];exact Ωdd _ _ _
    have hg1:Ωch (f+1) (txs L) i=a::LG:=by rw[hg0,ΩnV hk,ea,eLG,ΩfJ,ΩfK,ek]
    have hrec:∀W,Only Ωa w W→Calls Tryz.prog 29 #[(.slice (some ⟨g,o,none⟩) k cap),.int .i64 (i:Int)] W fun e w' =>∃gv,e= .returned (.tuple #[gv,.bool true])∧ΩO w' w.heap.size gv LG.length LG.reverse∧Only Ωa W w' :=fun W ho=>by
     have h:=Ωgm f (L.take k) i (by rw[ΩnB];omega) (by omega) (fun s h=>hsh s (by first|exact ΩnY h|exact Ωor h)) (by rw[ΩnB];omega) _ W ((hs.only ho).take (by omega))
     rw[←eLG] at h
     exact h.mono (fun e w' ⟨gv,h1,h2,h3⟩=>⟨gv,h1,ΩE h2 ho.size,h3⟩)
    have hroot:∀W,Only Ωa w W→Calls Tryz.prog 42 #[(.slice (some ⟨g,o+k,none⟩) (L.length-k) (cap-k))] W fun e w' =>e= .returned (hv a)∧Only Ωa W w' :=fun W ho=>by
     rw[ea]
     exact Ωbi L.length (L.drop k) (by rw[Ωn4];omega) (by rw[Ωn4];omega) (fun s h=>hsh s (by first|exact ΩnY h|exact Ωor h)) _ W ((hs.only ho).drop (by omega))
    obtain⟨ie,zz,hie,hsz,hz,hzc,hby⟩:=Ωct
    have HIE:=Θ hie
    have HSZ:=Θ hsz
    have HZZ:=Θ hz
    have HZC:=Θ hzc
    have HBY:=Θ hby
    have hbs:=Ωb3 a hal
    have GC:=Θ hrec
    have RC:=Θ hroot
    have HAL:=Θ hal
    have HLG:=Θ hLG
    rw[hg1]
    have hx:True:=trivial
    clear hrec hroot hal hLG hg0 hg1 ea eLG ek hie hsz hz hzc hby hA hs hs0 hc0 he
    go_enter Tryz.func29,Tryz.ntmps29
    go_wp2_with fail
    refine(HH.out _).mono ?_
    rintro e1 w1 ⟨rfl,rfl⟩
    go_wp2_with fail
    refine(GC.out _ (Only.refl _ _)).mono ?_
    rintro e5 w5 ⟨gv,rfl,hown5,hS5⟩
    have HS5:=Θ hS5
    have HO5:=Θ hown5
    clear hown5 hS5
    go_wp2_with (at_builtin;fail)
    refine(RC.out _ HS5.out).mono ?_
    rintro e6 w6 ⟨rfl,ho6⟩
    have hS6:=HS5.out.trans ho6
    have hown6:=Ωe HO5.out ho6 (fun _ _ e=>e)
    go_wp2_with (at_builtin;refine wpList_append_lies _ rfl _ _ 59 rfl w1.heap.size 35 ie zz 32 ie.bytes Tryz.underlying59 HIE.out HZZ.out HSZ.out rfl HZC.out (by omega) gv LG.length (LG.reverse.flatMap hbC) rfl (World.ownsRow.alloc hown6 _) _ 1 1 (hbC a) rfl (by unfold hbC;rw[ΩnN,HAL.out]) (World.news_of_block (cs:=(a.map bv).toArray) (t:=35) (fr:=(0,0)) (newH _ a)) (ΩgM a) (by omega) (by rw[Ωg];omega) (by have:=HBY.out;exact Ωnz (Ωov (show LG.length+1≤2000 by omega) this) (by omega)) (Only.size (Only.alloc hS6 _)) _ rfl ?_;intro g8 cap8 w8 hown8 hgrow8 hat8 hlt8)
    have hS8:Only Ωa w1 w8:=(Only.alloc hS6 _).grown hgrow8 (fun j e=> .inr (ΩJ hown6 e).1)
    clear hgrow8 hat8 hlt8 hown6 hS6 ho6
    have HF:=Θ hS8
    have HW:=Θ hown8
    clear hown8 hS8
    go_wp2_with fail
    go_ret2
    refine⟨_,rfl,?_,HF.out⟩
    have h:=HW.out
    unfold ΩO
    rw[List.reverse_cons,Ωn2]
    simpa using h
   ·have c2:decide ((i:Int)<(k:Int))=false:=Ωny (by omega)
    have kmk:(i:Int)-(k:Int)=((i-k:Nat):Int):=by omega
    obtain⟨LG,eLG⟩:∃LG,LG=Ωch f (txs (L.drop k)) (i-k):=⟨_,rfl⟩
    obtain⟨a,ea⟩:∃a,a=ΩN (txs (L.take k)):=⟨_,rfl⟩
    have hal:a.length=32:=by rw[ea];exact ΩF _
    have hLG:HsOk LG:=by rw[eLG];exact Ωey _ _ _
    have hLl:LG.length≤f:=by rw[eLG];exact Ωdd _ _ _
    have hg1:Ωch (f+1) (txs L) i=a::LG:=by rw[hg0,ΩnU hk,ea,eLG,ΩfJ,ΩfK,ek]
    have hrec:∀W,Only Ωa w W→Calls Tryz.prog 29 #[(.slice (some ⟨g,o+k,none⟩) (L.length-k) (cap-k)),.int .i64 ((i:Int)-(k:Int))] W fun e w' =>∃gv,e= .returned (.tuple #[gv,.bool true])∧ΩO w' w.heap.size gv LG.length LG.reverse∧Only Ωa W w' :=fun W ho=>by
     have h:=Ωgm f (L.drop k) (i-k) (by rw[Ωn4];omega) (by omega) (fun s h=>hsh s (by first|exact ΩnY h|exact Ωor h)) (by rw[Ωn4];omega) _ W ((hs.only ho).drop (by omega))
     rw[←eLG,←kmk] at h
     exact h.mono (fun e w' ⟨gv,h1,h2,h3⟩=>⟨gv,h1,ΩE h2 ho.size,h3⟩)
    have hroot:∀W,Only Ωa w W→Calls Tryz.prog 42 #[(.slice (some ⟨g,o,none⟩) k cap)] W fun e w' =>e= .returned (hv a)∧Only Ωa W w' :=fun W ho=>by
     rw[ea]
     exact Ωbi L.length (L.take k) (by rw[ΩnB];omega) (by rw[ΩnB];omega) (fun s h=>hsh s (by first|exact ΩnY h|exact Ωor h)) _ W ((hs.only ho).take (by omega))
    obtain⟨ie,zz,hie,hsz,hz,hzc,hby⟩:=Ωct
    have HIE:=Θ hie
    have HSZ:=Θ hsz
    have HZZ:=Θ hz
    have HZC:=Θ hzc
    have HBY:=Θ hby
    have hbs:=Ωb3 a hal
    have GC:=Θ hrec
    have RC:=Θ hroot
    have HAL:=Θ hal
    have HLG:=Θ hLG
    rw[hg1]
    have hx:IntKind.i64.wrap ((i:Int)-(k:Int))=(i:Int)-(k:Int):=ΩnH _ (by omega)
    clear kmk hrec hroot hal hLG hg0 hg1 ea eLG ek hie hsz hz hzc hby hA hs hs0 hc0 he
    go_enter Tryz.func29,Tryz.ntmps29
    go_wp2_with fail
    refine(HH.out _).mono ?_
    rintro e1 w1 ⟨rfl,rfl⟩
    go_wp2_with fail
    refine(GC.out _ (Only.refl _ _)).mono ?_
    rintro e5 w5 ⟨gv,rfl,hown5,hS5⟩
    have HS5:=Θ hS5
    have HO5:=Θ hown5
    clear hown5 hS5
    go_wp2_with (at_builtin;fail)
    refine(RC.out _ HS5.out).mono ?_
    rintro e6 w6 ⟨rfl,ho6⟩
    have hS6:=HS5.out.trans ho6
    have hown6:=Ωe HO5.out ho6 (fun _ _ e=>e)
    go_wp2_with (at_builtin;refine wpList_append_lies _ rfl _ _ 59 rfl w1.heap.size 35 ie zz 32 ie.bytes Tryz.underlying59 HIE.out HZZ.out HSZ.out rfl HZC.out (by omega) gv LG.length (LG.reverse.flatMap hbC) rfl (World.ownsRow.alloc hown6 _) _ 1 1 (hbC a) rfl (by unfold hbC;rw[ΩnN,HAL.out]) (World.news_of_block (cs:=(a.map bv).toArray) (t:=35) (fr:=(0,0)) (newH _ a)) (ΩgM a) (by omega) (by rw[Ωg];omega) (by have:=HBY.out;exact Ωnz (Ωov (show LG.length+1≤2000 by omega) this) (by omega)) (Only.size (Only.alloc hS6 _)) _ rfl ?_;intro g8 cap8 w8 hown8 hgrow8 hat8 hlt8)
    have hS8:Only Ωa w1 w8:=(Only.alloc hS6 _).grown hgrow8 (fun j e=> .inr (ΩJ hown6 e).1)
    clear hgrow8 hat8 hlt8 hown6 hS6 ho6
    have HF:=Θ hS8
    have HW:=Θ hown8
    clear hown8 hS8
    go_wp2_with fail
    go_ret2
    refine⟨_,rfl,?_,HF.out⟩
    have h:=HW.out
    unfold ΩO
    rw[List.reverse_cons,Ωn2]
    simpa using h
end
section
open Go.RowKit Go.Shelf
attribute [local go_sem ↓ high] ΩaB ΩaF
structure UpS(w:World)(B:Nat)(x:Hs)(v:Value)(Q:List Hs)(W:World):Prop where
 x:HaAt W B x
 r:HaAt W (B+1) Ωr
 l:HaSl W v Q
 only:Only Ωa w W
theorem UpS.keep{w:World}{B:Nat}{x:Hs}{v:Value}{Q:List Hs}{W W' :World}(h:UpS w B x v Q W)(ho:Only Ωa W W'):UpS w B x v Q W' :=
 ⟨Blk.only h.x ho (fun e=>e),Blk.only h.r ho (fun e=>e),h.l.only ho,h.only.trans ho⟩
theorem UpS.new{w:World}{x:Hs}{v:Value}{Q:List Hs}(h:HaSl w v Q):UpS w w.heap.size x v Q ((w.alloc (.cells (x.map bv).toArray 35)).alloc (.cells (Array.replicate 32 (.int .u8 0)) 35)):=by
 have h2:=Blk.new (w.alloc (.cells (x.map bv).toArray 35)) tHa (Array.replicate 32 (.int .u8 0))
 rw[Ωnw] at h2
 have ho:Only Ωa w ((w.alloc (.cells (x.map bv).toArray 35)).alloc (.cells (Array.replicate 32 (.int .u8 0)) 35)):=((Only.refl _ _).alloc _).alloc _
 refine⟨(Blk.new w _ _).alloc _,?_,h.only ho,ho⟩
 unfold HaAt
 rw[ΩaL]
 exact h2
theorem depth_nil{f i n:Nat}{Q:List Hs}(hn:n≤1)(h:Q.length=Ωac f i n):Q=[]:=by
 apply ΩnZ
 rw[h]
 cases f with
 |zero=>rfl
 |succ f=>unfold Ωac;rw[ΩnV hn]
theorem upF_nil(f:Nat)(x:Hs)(i n:Nat):upF f x i n []=x:=by cases f<;>rfl
theorem rup_zero(f:Nat)(x:Hs)(i n:Nat)(Q:List Hs)(v:Value)(w:World)(hx:x.length=32)(hn:n≤1)(hq:Q.length=Ωac f i n)(hs:HaSl w v Q):
  Calls Tryz.prog 144 #[hv x,.int .i64 (i:Int),.int .i64 (n:Int),v] w fun e w' =>e= .returned (hv (upF f x i n Q.reverse))∧Only Ωa w w' :=by
 have hQ:=depth_nil hn hq
 subst hQ
 rw[List.reverse_nil,upF_nil]
 have d1:decide ((n:Int)≤1)=true:=ΩnG (by omega)
 have hS0:=UpS.new (x:=x) hs
 obtain⟨B,eB⟩:∃B,B=w.heap.size:=⟨_,rfl⟩
 rw[←eB] at hS0
 have HS0:=Θ hS0
 have EB:=Θ eB
 have HX:=Θ hx
 clear hS0 eB hx hs hq hn
 go_enter Tryz.func144,Tryz.ntmps144
 go_upto_region 1 with(fail)
 rw[←EB.out]
 refine Ωf (UpS w B x v []) HS0.out ?_
 intro Z hZ
 have hld:=Ωp hZ.x.range HX.out
 have hst:=ΩK hZ.r rfl HX.out
 have HB2:=Θ (hZ.r.put rfl HX.out)
 have HO2:=Θ (Ωb hZ.only (B+1) 0 (.inr (by have:=EB.out;omega)) (x.map bv))
 clear hZ HS0
 go_wp2_with fail
 refine bodyPost_ret (v:=hv x) (Ωn rfl rfl HB2.out Tryz.underlying35 rfl (Ωa0 HX.out)) rfl ⟨rfl,HO2.out⟩
theorem Ωgb:∀(f:Nat) (x:Hs) (i n:Nat) (q:List Hs),x.length=32→(upF f x i n q).length =32
 |0,_,_,_,_,h=>h
 |f+1,x,i,n,[],h=>h
 |f+1,x,i,n,t::q,h=>by
  unfold upF
  split
  ·exact h
  ·split<;>exact Ωa3 _ _
abbrev Ωw:Array Value:= #[.int .u8 0,.int .u8 0,.int .u8 0,.int .u8 0,.int .u8 0,.int .u8 0,.int .u8 0,.int .u8 0,.int .u8 0,.int .u8 0,.int .u8 0,.int .u8 0,.int .u8 0,.int .u8 0,.int .u8 0,.int .u8 0,.int .u8 0,.int .u8 0,.int .u8 0,.int .u8 0,.int .u8 0,.int .u8 0,.int .u8 0,.int .u8 0,.int .u8 0,.int .u8 0,.int .u8 0,.int .u8 0,.int .u8 0,.int .u8 0,.int .u8 0,.int .u8 0]
theorem ΩaI(W:World):HaAt (W.alloc (.cells Ωw 35)) W.heap.size Ωr:=Blk.new W _ _
theorem ΩaT(W:World)(t:Hs)(ht:t.length=32):(ΩaS (.pointer (some ⟨W.heap.size,0,none⟩)) (hv t)).run Tryz.prog (W.alloc (.cells #[.int .u8 0,.int .u8 0,.int .u8 0,.int .u8 0,.int .u8 0,.int .u8 0,.int .u8 0,.int .u8 0,.int .u8 0,.int .u8 0,.int .u8 0,.int .u8 0,.int .u8 0,.int .u8 0,.int .u8 0,.int .u8 0,.int .u8 0,.int .u8 0,.int .u8 0,.int .u8 0,.int .u8 0,.int .u8 0,.int .u8 0,.int .u8 0,.int .u8 0,.int .u8 0,.int .u8 0,.int .u8 0,.int .u8 0,.int .u8 0,.int .u8 0,.int .u8 0] 35))= .ok () ((W.alloc (.cells Ωw 35)).setCells W.heap.size 0 (t.map bv)):=ΩK (ΩaI W) rfl ht
theorem ΩjP:∀(f:Nat) (x:Hs) (i n:Nat) (Q:List Hs) (v:Value) (w:World) (_:x.length=32) (_:n≤f) (_:i<n) (_:f≤1000) (_:HsOk Q) (_:Q.length=Ωac f i n) (_:HaSl w v Q),
  Calls Tryz.prog 144 #[hv x,.int .i64 (i:Int),.int .i64 (n:Int),v] w fun e w' =>e= .returned (hv (upF f x i n Q.reverse))∧Only Ωa w w'
 |0,x,i,n,Q,v,w,hx,hf,hi,_,_,_,_=>by omega
 |f+1,x,i,n,Q,v,w,hx,hf,hi,hm0,hok,hq,hs=>by
  by_cases hn:n≤1
  ·exact rup_zero (f+1) x i n Q v w hx hn hq hs
  ·have hd:Ωac (f+1) i n=if i<Ωh n then 1+Ωac f i (Ωh n) else 1+Ωac f (i-Ωh n) (n-Ωh n):=by
    show(if n≤1 then _ else _)=_
    rw[ΩnU hn]
   have hsp:=Ω3 (n:=n) (by omega) (by omega)
   obtain⟨k,ek⟩:∃k,k=Ωh n:=⟨_,rfl⟩
   rw[←ek] at hd hsp
   obtain⟨q,eq⟩:∃q,Q.length=q+1:=⟨Q.length-1,by split at hd<;>omega⟩
   obtain⟨t,ht⟩:∃t,Q[q]? =some t:=⟨_,Ωnu (by omega)⟩
   have htl:t.length=32:=hok t (ΩnE ht)
   have hrev:Q.reverse=t::(Q.take q).reverse :=by
    have h1:Q=Q.take q++[t]:=by
     have h2:Q.take (q+1)=Q.take q++[t]:=by rw[ΩnO,ht];rfl
     rw[←h2,ΩnI (by omega)]
    rw[show Q.reverse=(Q.take q++[t]).reverse from by rw[←h1],List.reverse_append];rfl
   have hS0:=UpS.new (x:=x) hs
   obtain⟨A,cap,rfl,hlc,hcm,hA⟩:=id hs
   obtain⟨g,o,rfl,hg,hrg⟩:=hA q t ht
   have hrg:w.rangeAt g (o+q*32) (t.map bv):=hrg
   obtain⟨B,eB⟩:∃B,B=w.heap.size:=⟨_,rfl⟩
   rw[←eB] at hS0
   have HS0:=Θ hS0
   have EB:=Θ eB
   have HH:Hid (∀W,Calls Tryz.prog 60 #[.int .i64 (n:Int)] W fun e w' =>e= .returned (.int .i64 (k:Int))∧w' =W):=Θ (fun W=>by rw[ek];exact Ωb1 n (by omega) (by omega) W)
   have d1:decide ((n:Int)≤1)=false:=Ωny (by omega)
   have kw:IntKind.i64.wrap ((Q.length:Int)-1)=(q:Int):=by rw[show(Q.length:Int)-1=(q:Int) by omega];exact ΩnH _ (by omega)
   have q0:(0:Int)≤(q:Int):=by omega
   have q1:(q:Int)<(Q.length:Int):=by omega
   have q2:(q:Int)≤(cap:Int):=by omega
   clear hS0 eB ht hg
   by_cases hik:i<k
   ·rw[ΩnV hik] at hd
    obtain⟨a,ea⟩:∃a,a=upF f x i k (Q.take q).reverse :=⟨_,rfl⟩
    have hal:a.length=32:=by rw[ea];exact Ωgb _ _ _ _ _ hx
    have hm:upF (f+1) x i n Q.reverse=Ωbf a t:=by rw[hrev];show(if n≤1 then _ else _)=_;rw[ΩnU hn,ΩnV (by rw[←ek];exact hik),←ek,ea]
    obtain⟨m,em⟩:∃m,m=upF (f+1) x i n Q.reverse:=⟨_,rfl⟩
    have hml:m.length=32:=by rw[em];exact Ωgb _ _ _ _ _ hx
    rw[←em] at hm⊢
    have r1:∀W,HaSl W (.slice (some ⟨g,o,none⟩) Q.length cap) Q→Calls Tryz.prog 144 #[hv x,.int .i64 (i:Int),.int .i64 (k:Int),.slice (some ⟨g,o,none⟩) q cap] W fun e w' =>e= .returned (hv a)∧Only Ωa W w' :=fun W h=>by
     have h2:=h.take (k:=q) (by omega)
     have h3:=ΩjP f x i k (Q.take q) _ W hx (by omega) (by omega) (by omega) (fun s h=>hok s (ΩnY h)) (by rw[ΩnB];omega) h2
     rw[←ea] at h3
     exact h3
    have r3:∀W,Calls Tryz.prog 73 #[hv a,hv t] W fun e w' =>e= .returned (hv m)∧Only Ωa W w' :=fun W=>by rw[hm];exact Ωcp _ _ (by assumption) (by assumption) W
    have cd:decide ((i:Int)<(k:Int))=true:=ΩnG (by omega)
    have R1:=Θ r1
    have R3:=Θ r3
    have HAL:=Θ hal
    have HML:=Θ hml
    have HTL:=Θ htl
    have HX:=Θ hx
    have HRG:=Θ hrg
    clear r1 r3 hal hml htl hx hrg hm em ea hrev hq hok ek hs hA
    go_enter Tryz.func144,Tryz.ntmps144
    go_upto_region 1 with(fail)
    rw[←EB.out]
    refine Ωf (UpS w B x (.slice (some ⟨g,o,none⟩) Q.length cap) Q) HS0.out ?_
    intro Z hZ
    have hrt:Z.rangeAt g (o+q*32) (t.map bv):=Ωu HRG.out hZ.only
    have hldt:=Ωp hrt HTL.out
    have HZ:=Θ hZ
    clear hZ HS0 hrt
    go_wp2_with fail
    refine(HH.out _).mono ?_
    rintro e1 w1 ⟨rfl,rfl⟩
    have hstn:=ΩaT w1 t HTL.out
    have HT0:=Θ (And.intro (HZ.out.keep (Ωb ((Only.refl _ w1).alloc (.cells Ωw 35)) w1.heap.size 0 (.inr (Ωnv _)) (t.map bv))) ((ΩaI w1).put rfl HTL.out))
    go_upto_region 7 with(fail)
    refine Ωf (fun W=>UpS w B x (.slice (some ⟨g,o,none⟩) Q.length cap) Q W∧HaAt W w1.heap.size t) HT0.out ?_
    intro Z hZ
    obtain⟨ft,hfx⟩:=Ωbp (fun W=>UpS w B x (.slice (some ⟨g,o,none⟩) Q.length cap) Q W∧HaAt W w1.heap.size t) (W0:=Z.drew) ⟨hZ.1.keep (Only.refl _ _).drew,Blk.only hZ.2 (Only.refl Ωa Z).drew (fun e=>e)⟩
    obtain⟨F,hI,hF0,hF,hFS⟩:=hfx
    have D1:Hid (∀y,Calls Tryz.prog 144 #[hv x,.int .i64 (i:Int),.int .i64 (k:Int),.slice (some ⟨g,o,none⟩) q cap] (F y) fun e w' =>e= .returned (hv a)∧∃z,w' =F z):=Θ (fun y=>(R1.out _ (hFS y).1.l).mono (fun e w' hh=>⟨hh.1,(hF w').1 ⟨(hFS y).1.keep hh.2,Blk.only (hFS y).2 hh.2 (fun e=>e)⟩⟩))
    have D3:Hid (∀y,Calls Tryz.prog 73 #[hv a,hv t] (F y) fun e w' =>e= .returned (hv m)∧∃z,w' =F z):=Θ (fun y=>(R3.out _).mono (fun e w' hh=>⟨hh.1,(hF w').1 ⟨(hFS y).1.keep hh.2,Blk.only (hFS y).2 hh.2 (fun e=>e)⟩⟩))
    have L1:∀y,(ΩL (.pointer (some ⟨B,0,none⟩))).run Tryz.prog (F y)= .ok (hv x) (F y):=fun y=>Ωp (hFS y).1.x.range HX.out
    have L2:∀y,(ΩL (.pointer (some ⟨w1.heap.size,0,none⟩))).run Tryz.prog (F y)= .ok (hv t) (F y):=fun y=>Ωp (hFS y).2.range HTL.out
    have HF:=Θ hF
    have HF0:=Θ hF0
    clear hF hF0 hFS R1 R3
    refine Ωs F 7 (by kernel_rfl) (by kernel_rfl) HF0.out ?_
    simp only[Ωoc,Ωoz,Ωon,List.drop_zero]
    repeat(go_big_quiet_step (first|(with_reducible exact D1.out _)|(with_reducible exact D3.out _)))
    refine wpQuiet_nil ?_
    intro w9 hw9
    have hS9:=(HF.out w9).2 hw9
    have hst:=ΩK hS9.1.r rfl HML.out
    have HB2:=Θ (hS9.1.r.put rfl HML.out)
    have HO2:=Θ (Ωb hS9.1.only (B+1) 0 (.inr (by have:=EB.out;omega)) (m.map bv))
    clear hw9 hS9
    go_wp2_with fail
    refine bodyPost_ret (v:=hv m) (Ωn rfl rfl HB2.out Tryz.underlying35 rfl (Ωa0 HML.out)) rfl ⟨rfl,HO2.out⟩
   ·rw[ΩnU hik] at hd
    have ki:(i:Int)-(k:Int)=((i-k:Nat):Int):=by omega
    have kn:(n:Int)-(k:Int)=((n-k:Nat):Int):=by omega
    obtain⟨a,ea⟩:∃a,a=upF f x (i-k) (n-k) (Q.take q).reverse :=⟨_,rfl⟩
    have hal:a.length=32:=by rw[ea];exact Ωgb _ _ _ _ _ hx
    have hm:upF (f+1) x i n Q.reverse=Ωbf t a:=by rw[hrev];show(if n≤1 then _ else _)=_;rw[ΩnU hn,ΩnU (by rw[←ek];exact hik),←ek,ea]
    obtain⟨m,em⟩:∃m,m=upF (f+1) x i n Q.reverse:=⟨_,rfl⟩
    have hml:m.length=32:=by rw[em];exact Ωgb _ _ _ _ _ hx
    rw[←em] at hm⊢
    have r1:∀W,HaSl W (.slice (some ⟨g,o,none⟩) Q.length cap) Q→Calls Tryz.prog 144 #[hv x,.int .i64 ((i:Int)-(k:Int)),.int .i64 ((n:Int)-(k:Int)),.slice (some ⟨g,o,none⟩) q cap] W fun e w' =>e= .returned (hv a)∧Only Ωa W w' :=fun W h=>by
     have h2:=h.take (k:=q) (by omega)
     rw[ki,kn]
     have h3:=ΩjP f x (i-k) (n-k) (Q.take q) _ W hx (by omega) (by omega) (by omega) (fun s h=>hok s (ΩnY h)) (by rw[ΩnB];omega) h2
     rw[←ea] at h3
     exact h3
    have r3:∀W,Calls Tryz.prog 73 #[hv t,hv a] W fun e w' =>e= .returned (hv m)∧Only Ωa W w' :=fun W=>by rw[hm];exact Ωcp _ _ (by assumption) (by assumption) W
    have cd:decide ((i:Int)<(k:Int))=false:=Ωny (by omega)
    have wi:IntKind.i64.wrap ((i:Int)-(k:Int))=(i:Int)-(k:Int):=ΩnH _ (by omega)
    have wn:IntKind.i64.wrap ((n:Int)-(k:Int))=(n:Int)-(k:Int):=ΩnH _ (by omega)
    have R1:=Θ r1
    have R3:=Θ r3
    have HAL:=Θ hal
    have HML:=Θ hml
    have HTL:=Θ htl
    have HX:=Θ hx
    have HRG:=Θ hrg
    clear r1 r3 hal hml htl hx hrg hm em ea hrev hq hok ek ki kn hs hA
    go_enter Tryz.func144,Tryz.ntmps144
    go_upto_region 1 with(fail)
    rw[←EB.out]
    refine Ωf (UpS w B x (.slice (some ⟨g,o,none⟩) Q.length cap) Q) HS0.out ?_
    intro Z hZ
    have hrt:Z.rangeAt g (o+q*32) (t.map bv):=Ωu HRG.out hZ.only
    have hldt:=Ωp hrt HTL.out
    have HZ:=Θ hZ
    clear hZ HS0 hrt
    go_wp2_with fail
    refine(HH.out _).mono ?_
    rintro e1 w1 ⟨rfl,rfl⟩
    have hstn:=ΩaT w1 t HTL.out
    have HT0:=Θ (And.intro (HZ.out.keep (Ωb ((Only.refl _ w1).alloc (.cells Ωw 35)) w1.heap.size 0 (.inr (Ωnv _)) (t.map bv))) ((ΩaI w1).put rfl HTL.out))
    go_upto_region 8 with(fail)
    refine Ωf (fun W=>UpS w B x (.slice (some ⟨g,o,none⟩) Q.length cap) Q W∧HaAt W w1.heap.size t) HT0.out ?_
    intro Z hZ
    obtain⟨ft,hfx⟩:=Ωbp (fun W=>UpS w B x (.slice (some ⟨g,o,none⟩) Q.length cap) Q W∧HaAt W w1.heap.size t) (W0:=Z.drew) ⟨hZ.1.keep (Only.refl _ _).drew,Blk.only hZ.2 (Only.refl Ωa Z).drew (fun e=>e)⟩
    obtain⟨F,hI,hF0,hF,hFS⟩:=hfx
    have D1:Hid (∀y,Calls Tryz.prog 144 #[hv x,.int .i64 ((i:Int)-(k:Int)),.int .i64 ((n:Int)-(k:Int)),.slice (some ⟨g,o,none⟩) q cap] (F y) fun e w' =>e= .returned (hv a)∧∃z,w' =F z):=Θ (fun y=>(R1.out _ (hFS y).1.l).mono (fun e w' hh=>⟨hh.1,(hF w').1 ⟨(hFS y).1.keep hh.2,Blk.only (hFS y).2 hh.2 (fun e=>e)⟩⟩))
    have D3:Hid (∀y,Calls Tryz.prog 73 #[hv t,hv a] (F y) fun e w' =>e= .returned (hv m)∧∃z,w' =F z):=Θ (fun y=>(R3.out _).mono (fun e w' hh=>⟨hh.1,(hF w').1 ⟨(hFS y).1.keep hh.2,Blk.only (hFS y).2 hh.2 (fun e=>e)⟩⟩))
    have L1:∀y,(ΩL (.pointer (some ⟨B,0,none⟩))).run Tryz.prog (F y)= .ok (hv x) (F y):=fun y=>Ωp (hFS y).1.x.range HX.out
    have L2:∀y,(ΩL (.pointer (some ⟨w1.heap.size,0,none⟩))).run Tryz.prog (F y)= .ok (hv t) (F y):=fun y=>Ωp (hFS y).2.range HTL.out
    have HF:=Θ hF
    have HF0:=Θ hF0
    clear hF hF0 hFS R1 R3
    refine Ωs F 11 (by kernel_rfl) (by kernel_rfl) HF0.out ?_
    simp only[Ωoc,Ωoz,Ωon,List.drop_zero]
    repeat(go_big_quiet_step (first|(with_reducible exact D1.out _)|(with_reducible exact D3.out _)))
    refine wpQuiet_nil ?_
    intro w9 hw9
    have hS9:=(HF.out w9).2 hw9
    have hst:=ΩK hS9.1.r rfl HML.out
    have HB2:=Θ (hS9.1.r.put rfl HML.out)
    have HO2:=Θ (Ωb hS9.1.only (B+1) 0 (.inr (by have:=EB.out;omega)) (m.map bv))
    clear hw9 hS9
    go_wp2_with fail
    refine bodyPost_ret (v:=hv m) (Ωn rfl rfl HB2.out Tryz.underlying35 rfl (Ωa0 HML.out)) rfl ⟨rfl,HO2.out⟩
end
section
def ckB(m n:Nat)(o r:Hs)(Q:List Hs):Bool:=if Q.length=ΩaP n m n true then((ΩaG n m n true o Q.reverse).1 ==o&&(ΩaG n m n true o Q.reverse).2 ==r) else false
def ckW(z:Hs)(m n:Nat)(o r:Hs)(Q:List Hs):Bool:=
 (ΩM z n m n true o (Q,true)).2.2 &&((ΩM z n m n true o (Q,true)).2.1.isEmpty &&((ΩM z n m n true o (Q,true)).1.1 ==o&&(ΩM z n m n true o (Q,true)).1.2 ==r))
theorem ckW_eq(z:Hs)(m n:Nat)(o r:Hs)(Q:List Hs):ckW z m n o r Q=ckB m n o r Q:=by
 unfold ckW ckB
 by_cases h1:Q.length<ΩaP n m n true
 ·rw[Ωho z n m n true o Q h1,ΩnU (by omega),Bool.false_and]
 ·rw[ΩcF z n m n true o Q (by omega)]
  by_cases h2:Q.length=ΩaP n m n true
  ·rw[ΩnV h2,←h2,Ωok,List.drop_length]
   rfl
  ·rw[ΩnU h2]
   have h3:(Q.drop (ΩaP n m n true)).isEmpty =false:=by
    rw[List.isEmpty_eq_false_iff]
    intro h
    have:=congrArg List.length h
    rw[Ωn4] at this
    simp at this
    omega
   rw[h3]
   simp
theorem Ωdr:∀(f m n:Nat) (whole:Bool) (o:Hs) (q:List Hs),o.length=32→HsOk q→q.length=ΩaP f m n whole→(ΩaG f m n whole o q).1.length =32∧(ΩaG f m n whole o q).2.length =32
 |0,_,_,_,o,_,ho,_,_=>⟨ho,ho⟩
 |f+1,m,n,whole,o,q,ho,hq,hl=>by
  unfold ΩaG
  unfold ΩaP at hl
  by_cases he:m=n
  ·rw[ΩnV he] at hl
   rw[ΩnV he]
   cases whole with
   |true=>exact⟨ho,ho⟩
   |false=>
    match q,hl,hq with
    |[t],_,hq=>exact⟨hq t (by simp),hq t (by simp)⟩
  ·rw[ΩnU he] at hl
   rw[ΩnU he]
   by_cases hk:m≤Ωh n
   ·rw[ΩnV hk] at hl
    rw[ΩnV hk]
    exact⟨(Ωdr f m (Ωh n) whole o q.tail ho (fun h hh=>hq h (List.mem_of_mem_tail hh)) (by rw[List.length_tail];omega)).1,Ωa3 _ _⟩
   ·rw[ΩnU hk]
    exact⟨Ωa3 _ _,Ωa3 _ _⟩
end
end Go.Proofs.YtgalfohobgjelaaGreatDoor
