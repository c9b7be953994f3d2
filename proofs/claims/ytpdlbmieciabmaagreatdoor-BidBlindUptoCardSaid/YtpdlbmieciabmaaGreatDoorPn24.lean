/-What is proved here:several parts. what is known while a bid is made and laid into the two blocks of a call's results,in any order. No conditions. · rebates that a call makes and appends,one by one. Conditions:there are few. · texts of made contents are short,and told by what they hold,in plain Lean;no program in sight. Conditions:the numbers are ints. · a remainder,a name by a number,and a text that is bent,by the reference's code. Conditions:the numbers are ints,the text is short. -/
import Derived.Test.YtpdlbmieciabmaaGreatDoorPn08
import Derived.Test.YtpdlbmieciabmaaGreatDoorPn12
import Derived.Test.YtpdlbmieciabmaaGreatDoorPn13
import Derived.Test.YtpdlbmieciabmaaGreatDoorPn14
import Derived.Test.YtpdlbmieciabmaaGreatDoorPn15
import Derived.Test.YtpdlbmieciabmaaGreatDoorPn18
import Derived.Test.YtpdlbmieciabmaaGreatDoorPn23
import Derived.WalkSmall
import Derived.Deep.Quiet
import Derived.Deep.RegionHeld3
import Derived.BigRegion
import Derived.Deep.DeepCutAuto
namespace Go.Proofs.YtpdlbmieciabmaaGreatDoor
open Go.RowKit Go.Shelf
structure Jx where
 M:Nat
 p0:Nat
 p1:Nat
 p2:Nat
 S:Nat
 T:Nat
section
variable {w X:World} {R:Nat} {pv:List (Nat×Value)} {ix:Jx} {m:Mde} {vals:Nat→Value} {L:Array Bool} {W W' :World} {i:Nat} {u:Value}
end
end Go.Proofs.YtpdlbmieciabmaaGreatDoor
namespace Go.Proofs.YtpdlbmieciabmaaGreatDoor
open Go.RowKit Go.Shelf
theorem rebI:RecI 86 2 32:=recI_of (by kernel_rfl) (by kernel_rfl) (by kernel_rfl)
theorem rcC_one(c:Rc)(h:c.v.oneCell' =true):∀u∈rcC c,u.oneCell' =true:=fun u hu=>by
 unfold rcC at hu
 simp only[List.mem_cons,List.not_mem_nil,or_false] at hu
 rcases hu with rfl|rfl
 ·exact h
 ·rfl
def RbOwn(w:World)(base:Nat)(v:Value)(n:Nat)(rs:List Rb):Prop:=∃L:List Rc,L.length=rs.length∧OwnOf 86 rcC 2 w base v n L∧∀(i:Nat) (c:Rc) (r:Rb),L[i]? =some c→rs[i]? =some r→c.pc=r.pc∧SlT 3 inC 1 w c.v r.lots
theorem RbOwn.nil(w:World)(base:Nat):RbOwn w base (.slice none 0 0) 0 []:=⟨[],rfl,OwnOf.nil _ _ _ _ _,fun i c e h _=>by simp at h⟩
theorem RbOwn.form{w:World}{base n:Nat}{v:Value}{rs:List Rb}(h:RbOwn w base v n rs):∃A cap,v= .slice A n cap∧n≤cap∧cap≤maxLen:=by
 obtain⟨L,_,h2,_⟩:=h
 exact own_form' h2
theorem RbOwn.sl{w:World}{base:Nat}{v:Value}{rs:List Rb}(h:RbOwn w base v rs.length rs):RbSl w v rs:=by
 obtain⟨L,h1,h2,h3⟩:=h
 rw[←h1] at h2
 refine⟨L,h1,OwnOf.sl rcC_len h2,fun i c e hc he=> ?_⟩
 obtain⟨k1,k2⟩:=h3 i c e hc he
 exact⟨k1,k2.sl⟩
theorem RbOwn.none_{w w' :World}{base n:Nat}{v:Value}{rs:List Rb}(h:RbOwn w base v n rs)(ho:Only NoneOf w w'):RbOwn w' base v n rs:=by
 obtain⟨L,h1,h2,h3⟩:=h
 exact⟨L,h1,OwnOf.keep h2 ho (fun _ _ e=>e),fun i c e hc he=>⟨(h3 i c e hc he).1,(h3 i c e hc he).2.none_ ho⟩⟩
theorem slT_one{α:Type}{t:TypeId}{c:α→List Value}{k:Nat}{w:World}{v:Value}{P:List α}(h:SlT t c k w v P):v.oneCell' =true:=by
 obtain⟨A,cap,rfl,_⟩:=h
 rfl
theorem run_append_reb(W:World)(base:Nat)(v:Value)(rs:List Rb)(c:Rc)(r:Rb)(h:RbOwn W base v rs.length rs)(hc:c.pc=r.pc∧SlT 3 inC 1 W c.v r.lots)(N:Nat)(hsrc:Blk W N 86 (rcC c).toArray)(hn:rs.length≤1000000000)(hb:base≤W.heap.size)(ty:TypeId):
  ∃A cap W',(aph #[32,32] ty #[v,.slice (some ⟨N,0,none⟩) 1 1]).run Tryz.prog W= .ok (.slice A (rs.length+1) cap) W'∧RbOwn W' base (.slice A (rs.length+1) cap) (rs.length+1) (rs++[r])∧Only (TS base W [86]) W W' :=by
 obtain⟨L,h1,h2,h3⟩:=h
 rw[←h1] at h2
 obtain⟨A,cap,W',hr,k1,k2,_⟩:=run_append_rec (T:=32) Tryz.underlying32 rebI (by omega) (by omega) rcC_len W base v L c (rcC_one c (slT_one hc.2)) h2 N hsrc (by omega) hb ty
 rw[h1] at hr k1
 have ho:=grown_ts k2 h2
 refine⟨A,cap,W',hr,⟨L++[c],by simp[h1],k1,fun i d f hd hf=> ?_⟩,ho⟩
 rcases Nat.lt_or_ge i L.length with hi|hi
 ·rw[List.getElem?_append_left hi] at hd
  rw[List.getElem?_append_left (by omega)] at hf
  obtain⟨a1,a2⟩:=h3 i d f hd hf
  exact⟨a1,a2.ts ho (by decide)⟩
 ·rw[List.getElem?_append_right hi] at hd
  rw[List.getElem?_append_right (by omega),←h1] at hf
  cases hq:i-L.length with
  |zero=>
   rw[hq] at hd hf
   simp only[List.getElem?_cons_zero,Option.some.injEq] at hd hf
   subst hd
   subst hf
   exact⟨hc.1,hc.2.ts ho (by decide)⟩
  |succ q=>rw[hq] at hd;simp at hd
theorem EnOwn.ts{w w' :World}{base base' n:Nat}{ts:List TypeId}{v:Value}{es:List En}(h:EnOwn w base v n es)(ho:Only (TS base' w ts) w w')(h1:37∉ts)(h2:84∉ts):EnOwn w' base v n es:=h.keep ho (fun _ _ hs=>⟨fun hb=>h1 (hs.2 _ _ hb),fun hb=>h2 (hs.2 _ _ hb)⟩)
end Go.Proofs.YtpdlbmieciabmaaGreatDoor
namespace Go.Proofs.YtpdlbmieciabmaaGreatDoor
theorem wordsB_len:∀(ns:List Int),(∀n∈ns,In n)→(wordsN ns).length≤22*ns.length
 |[],_=>by simp[wordsN]
 |n::ns,h=>by
  have ih:=wordsB_len ns (fun m hm=>h m (by simp[hm]))
  have h1:=itoa_len (h n (by simp)).1 (h n (by simp)).2
  have e:wordsN (n::ns)=32::Lib.itoa n++wordsN ns:=by unfold wordsN;simp
  rw[e,List.length_append,List.length_cons,List.length_cons]
  omega
theorem lineOf_len(x:Ln)(h:∀n∈x.2,In n):(lineOf x).length≤x.1.length+22*x.2.length+1:=by
 have h1:=wordsB_len x.2 h
 unfold lineOf lineL
 rw[List.length_append,List.length_append,List.length_singleton]
 omega
theorem textG_len{K:Nat}:∀(p:List Ln),(∀x∈p,(lineOf x).length≤K)→(textG p).length≤p.length*K
 |[],_=>by simp[textG]
 |x::p,h=>by
  have ih:=textG_len p (fun y hy=>h y (by simp[hy]))
  have h1:=h x (by simp)
  rw[textG_cons,List.length_append,List.length_cons,Nat.add_mul]
  omega
theorem qLines_len:∀(es:List En),(∀e∈es,e.values.length≤5)→(qLines es).length≤es.length*6
 |[],_=>by simp[qLines]
 |e::es,h=>by
  have ih:=qLines_len es (fun y hy=>h y (by simp[hy]))
  have h1:=h e (by simp)
  have e:qLines (e::es)=eLines e++qLines es:=by unfold qLines;simp
  rw[e,List.length_append,List.length_cons]
  unfold eLines
  rw[List.length_cons,List.length_map]
  omega
theorem mkEs_mem{wild:Bool}{o:Of}{e:En}(h:e∈mkEs wild o):e.values.length≤5∧∀v∈e.values,v.name.size≤9:=by
 obtain⟨l,_,rfl⟩:=List.mem_map.1 h
 refine⟨mkE_vals wild l,fun v hv=> ?_⟩
 obtain⟨p,_,rfl⟩:=List.mem_map.1 hv
 exact mkV_name wild p
theorem mkEs_text{o:Of}(h:o.Ok)(wild:Bool):(textG (qLines (mkEs wild o))).length≤4000:=by
 have h1:(textG (qLines (mkEs wild o))).length≤(qLines (mkEs wild o)).length *40:=textG_len _ (fun x hx=>by
  obtain⟨e,he,hx⟩:=List.mem_flatMap.1 hx
  have hin:=mkEs_in h wild e he
  unfold eLines at hx
  rcases List.mem_cons.1 hx with rfl|hx
  ·have:=lineOf_len (wLot,[e.lot]) (fun n hn=>by rw[List.mem_singleton.1 hn];exact hin.1)
   have e1:((wLot,[e.lot]):Ln).1.length =3:=rfl
   have e2:((wLot,[e.lot]):Ln).2.length =1:=rfl
   rw[e1,e2] at this
   omega
  ·obtain⟨v,hv,rfl⟩:=List.mem_map.1 hx
   have h9:=(mkEs_mem he).2 v hv
   have:=lineOf_len (vLine v) (fun n hn=>by rw[List.mem_singleton.1 hn];exact hin.2.2 v hv)
   have e1:(vLine v).1.length =v.name.size:=by simp[vLine]
   have e2:(vLine v).2.length =1:=rfl
   rw[e1,e2] at this
   omega)
 have h2:=qLines_len (mkEs wild o) (fun e he=>(mkEs_mem he).1)
 have h3:=mkEs_len wild o
 omega
theorem mkPr_text{o:Of}(h:o.Ok)(wild:Bool):(pricL (mkEs wild o) (mkRs o)).length≤2000:=by
 have h1:(textG (pLines (mkEs wild o) (mkRs o))).length≤(pLines (mkEs wild o) (mkRs o)).length *150:=textG_len _ (fun x hx=>by
  unfold pLines at hx
  rcases List.mem_append.1 hx with hx|hx
  ·obtain⟨e,he,rfl⟩:=List.mem_map.1 hx
   have hin:=mkEs_in h wild e he
   have:=lineOf_len (pLine e) (fun n hn=>by
    rcases List.mem_cons.1 hn with rfl|hn
    ·exact hin.1
    ·rw[List.mem_singleton.1 hn];exact hin.2.1)
   have e1:(pLine e).1.length =3:=rfl
   have e2:(pLine e).2.length =2:=rfl
   rw[e1,e2] at this
   omega
  ·obtain⟨r,hr,rfl⟩:=List.mem_map.1 hx
   have hin:=mkRs_in h r hr
   obtain⟨l,_,rfl⟩:=List.mem_map.1 hr
   have h5:=mkR_lots l
   have:=lineOf_len (rLine (mkR l)) (fun n hn=>by
    rcases List.mem_cons.1 hn with rfl|hn
    ·exact hin.1
    ·exact hin.2 n hn)
   have e1:(rLine (mkR l)).2.length =(mkR l).lots.length +1:=rfl
   have e2:(rLine (mkR l)).1.length =6:=rfl
   rw[e1,e2] at this
   omega)
 have h2:(pLines (mkEs wild o) (mkRs o)).length≤10:=by
  unfold pLines
  have:=mkEs_len wild o
  have:=mkRs_len o
  rw[List.length_append,List.length_map,List.length_map]
  omega
 unfold pricL
 omega
theorem qualL_len{o:Of}(h:o.Ok)(wild:Bool):(qualL (mkEs wild o)).length≤4000:=by
 have:=mkEs_text h wild
 unfold qualL
 split
 ·exact this
 ·simp
end Go.Proofs.YtpdlbmieciabmaaGreatDoor
namespace Go.Proofs.YtpdlbmieciabmaaGreatDoor
open Go.RowKit Go.Shelf
theorem mod04_any(n m:Int)(_hn:In n)(hm:0<m)(hm2:m≤2000000000000000000)(w:World):Calls Tryz.prog 33 #[.int .i64 n,.int .i64 m] w fun e w' =>e= .returned (.int .i64 (n%m))∧w' =w:=by
 obtain⟨r,er⟩:∃r,r=n.tmod m:=⟨_,rfl⟩
 have hr1: -m<r∧r<m:=by
  rw[er];exact⟨Int.lt_tmod_of_pos n hm,Int.tmod_lt_of_pos n hm⟩
 have hr2:n%m=if r<0 then r+m else r:=by
  rw[er,Int.tmod_eq_emod]
  have:=Int.emod_nonneg n (show m≠0 by omega)
  have:=Int.emod_lt_of_pos n hm
  have hab:(m.natAbs:Int)=m:=by omega
  split<;>split<;>omega
 have hr3:(r+m).tmod m=n%m:=by
  rw[Int.tmod_eq_emod_of_nonneg (by omega),hr2]
  split
  ·exact Int.emod_eq_of_lt (by omega) (by omega)
  ·rw[Int.add_emod_right];exact Int.emod_eq_of_lt (by omega) (by omega)
 have hr4:0≤n%m∧n%m<m:=⟨Int.emod_nonneg n (by omega),Int.emod_lt_of_pos n hm⟩
 obtain⟨g,eg⟩:∃g,g=n%m:=⟨_,rfl⟩
 rw[←eg] at hr3 hr4⊢
 have e1:IntKind.i64.wrap (n.tmod m)=r:=by rw[←er];exact IntWalk.i64_in _ (by omega)
 have e2:IntKind.i64.wrap (r+m)=r+m:=IntWalk.i64_in _ (by omega)
 have e3:IntKind.i64.wrap ((r+m).tmod m)=g:=by rw[hr3];exact IntWalk.i64_in _ (by omega)
 have e4:IntKind.i64.wrap r=r:=IntWalk.i64_in _ (by omega)
 have e5:IntKind.i64.wrap g=g:=IntWalk.i64_in _ (by omega)
 have e0:¬m=0:=by omega
 have er' :=er.symm
 clear eg er hr2 hr1 hr4 hm hm2
 go_enter Tryz.func33,Tryz.ntmps33
 go_wp2_with fail
 exact⟨rfl,_,results_tmp rfl _ _ _,rfl,rfl⟩
theorem name_cell(m:Nat)(h:m<10):(#[.string ⟨#[100,97,121,115]⟩,.string ⟨#[115,116,97,102,102]⟩,.string ⟨#[115,105,122,101]⟩,.string ⟨#[113,117,97,108,105,116,121]⟩,.string ⟨#[97]⟩,.string ⟨#[100,97,121,115]⟩,.string ⟨#[108,111,116]⟩,.string ⟨#[116,119,111,32,119,111,114,100,115]⟩,.string ⟨#[]⟩,.string ⟨#[65]⟩]:Array Value)[m]? =some (.string ⟨(nameN m).toArray⟩):=by
 match m,h with
 |0,_=>rfl
 |1,_=>rfl
 |2,_=>rfl
 |3,_=>rfl
 |4,_=>rfl
 |5,_=>rfl
 |6,_=>rfl
 |7,_=>rfl
 |8,_=>rfl
 |9,_=>rfl
set_option maxRecDepth 100000 in
set_option maxHeartbeats 1000000 in
theorem name_any(n:Int)(hn:In n)(w:World):Calls Tryz.prog 34 #[.int .i64 n] w fun e w' =>e= .returned (.string (nameT n))∧Only NoneOf w w' :=by
 obtain⟨m,em⟩:∃m:Nat,n%10=(m:Int):=⟨(n%10).toNat,by have:=Int.emod_nonneg n (show(10:Int)≠0 by omega);omega⟩
 have hm:m<10:=by
  have:=Int.emod_lt_of_pos n (show(0:Int)<10 by omega)
  omega
 have hc:(w.alloc (.cells #[.string ⟨#[100,97,121,115]⟩,.string ⟨#[115,116,97,102,102]⟩,.string ⟨#[115,105,122,101]⟩,.string ⟨#[113,117,97,108,105,116,121]⟩,.string ⟨#[97]⟩,.string ⟨#[100,97,121,115]⟩,.string ⟨#[108,111,116]⟩,.string ⟨#[116,119,111,32,119,111,114,100,115]⟩,.string ⟨#[]⟩,.string ⟨#[65]⟩] 9)).cell? ⟨w.heap.size,m,none⟩=some (.string (nameT n)):=by
  rw[(Blk.new w _ _).cell,name_cell m hm]
  unfold nameT
  rw[em,Int.toNat_natCast]
 have m4:∀W,Calls Tryz.prog 33 #[.int .i64 n,.int .i64 10] W fun e w' =>e= .returned (.int .i64 (m:Int))∧w' =W:=fun W=>by rw[←em];exact mod04_any n 10 hn (by omega) (by omega) W
 have M4:=Lib.hid m4
 have im:(m:Int)<10:=by omega
 have im0:(0:Int)≤(m:Int):=by omega
 obtain⟨X,eX⟩:∃X,X=w.alloc (.cells #[.string ⟨#[100,97,121,115]⟩,.string ⟨#[115,116,97,102,102]⟩,.string ⟨#[115,105,122,101]⟩,.string ⟨#[113,117,97,108,105,116,121]⟩,.string ⟨#[97]⟩,.string ⟨#[100,97,121,115]⟩,.string ⟨#[108,111,116]⟩,.string ⟨#[116,119,111,32,119,111,114,100,115]⟩,.string ⟨#[]⟩,.string ⟨#[65]⟩] 9):=⟨_,rfl⟩
 rw[←eX] at hc
 have HX:=Lib.hid (show Only NoneOf w X by rw[eX];exact(Only.refl _ _).alloc _)
 have EX:=Lib.hid eX
 clear m4 em eX
 go_enter Tryz.func34,Tryz.ntmps34
 go_wp2_with fail
 rw[←EX.out]
 refine(M4.out _).mono ?_
 rintro e w1 ⟨rfl,rfl⟩
 go_wp2_with fail
 go_ret
 exact⟨rfl,HX.out⟩
end Go.Proofs.YtpdlbmieciabmaaGreatDoor
