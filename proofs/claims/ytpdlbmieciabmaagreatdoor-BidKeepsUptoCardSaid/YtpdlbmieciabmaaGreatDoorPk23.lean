/-What is proved here:several parts. rebates that a call makes and appends,one by one. Conditions:there are few. · texts of made contents are short,and told by what they hold,in plain Lean;no program in sight. Conditions:the numbers are ints. · a remainder,a name by a number,and a text that is bent,by the reference's code. Conditions:the numbers are ints,the text is short. · a quality text is read,by the bids' code. Conditions:the text is short;the library's variables hold what their initialisers lay. -/
import Derived.Test.YtpdlbmieciabmaaGreatDoorPk08
import Derived.Test.YtpdlbmieciabmaaGreatDoorPk11
import Derived.Test.YtpdlbmieciabmaaGreatDoorPk12
import Derived.Test.YtpdlbmieciabmaaGreatDoorPk13
import Derived.Test.YtpdlbmieciabmaaGreatDoorPk17
import Derived.WalkSmall
import Derived.Deep.Quiet
import Derived.Deep.RegionHeld3
import Derived.BigRegion
import Derived.Deep.DeepCutAuto
import Derived.Deep.Upon
namespace Go.Proofs.YtpdlbmieciabmaaGreatDoor
open Go.RowKit Go.Shelf
theorem rebI:RecI 86 2 32:=recI_of (by kernel_rfl) (by kernel_rfl) (by kernel_rfl)
theorem rcC_one(c:Rc)(h:c.v.oneCell' =true):∀u∈rcC c,u.oneCell' =true:=fun u hu=>by
 unfold rcC at hu
 simp only[List.mem_cons,List.not_mem_nil,or_false] at hu
 rcases hu with rfl|rfl
 ·exact h
 ·rfl
def RbOwn(w:World)(base:Nat)(v:Value)(n:Nat)(rs:List Rb):Prop:=∃L:List Rc,L.length=rs.length∧OwnOf 86 rcC 2 w base v n L∧∀(i:Nat) (c:Rc) (r:Rb),L[i]? =some c→rs[i]? =some r→c.pc=r.pc∧SlT 3 inC 1 w c.v r.lots
theorem RbOwn.nil(w:World)(base:Nat):RbOwn w base (.slice none 0 0) 0 []:=⟨[],rfl,OwnOf.nil _ _ _ _ _,fun i c e h _=>by simp at h⟩
theorem RbOwn.form{w:World}{base n:Nat}{v:Value}{rs:List Rb}(h:RbOwn w base v n rs):∃A cap,v= .slice A n cap∧n≤cap∧cap≤maxLen:=by
 obtain⟨L,_,h2,_⟩:=h
 exact own_form' h2
theorem RbOwn.sl{w:World}{base:Nat}{v:Value}{rs:List Rb}(h:RbOwn w base v rs.length rs):RbSl w v rs:=by
 obtain⟨L,h1,h2,h3⟩:=h
 rw[←h1] at h2
 refine⟨L,h1,OwnOf.sl rcC_len h2,fun i c e hc he=> ?_⟩
 obtain⟨k1,k2⟩:=h3 i c e hc he
 exact⟨k1,k2.sl⟩
theorem RbOwn.none_{w w' :World}{base n:Nat}{v:Value}{rs:List Rb}(h:RbOwn w base v n rs)(ho:Only NoneOf w w'):RbOwn w' base v n rs:=by
 obtain⟨L,h1,h2,h3⟩:=h
 exact⟨L,h1,OwnOf.keep h2 ho (fun _ _ e=>e),fun i c e hc he=>⟨(h3 i c e hc he).1,(h3 i c e hc he).2.none_ ho⟩⟩
theorem slT_one{α:Type}{t:TypeId}{c:α→List Value}{k:Nat}{w:World}{v:Value}{P:List α}(h:SlT t c k w v P):v.oneCell' =true:=by
 obtain⟨A,cap,rfl,_⟩:=h
 rfl
theorem run_append_reb(W:World)(base:Nat)(v:Value)(rs:List Rb)(c:Rc)(r:Rb)(h:RbOwn W base v rs.length rs)(hc:c.pc=r.pc∧SlT 3 inC 1 W c.v r.lots)(N:Nat)(hsrc:Blk W N 86 (rcC c).toArray)(hn:rs.length≤1000000000)(hb:base≤W.heap.size)(ty:TypeId):
  ∃A cap W',(aph #[32,32] ty #[v,.slice (some ⟨N,0,none⟩) 1 1]).run Tryz.prog W= .ok (.slice A (rs.length+1) cap) W'∧RbOwn W' base (.slice A (rs.length+1) cap) (rs.length+1) (rs++[r])∧Only (TS base W [86]) W W' :=by
 obtain⟨L,h1,h2,h3⟩:=h
 rw[←h1] at h2
 obtain⟨A,cap,W',hr,k1,k2,_⟩:=run_append_rec (T:=32) Tryz.underlying32 rebI (by omega) (by omega) rcC_len W base v L c (rcC_one c (slT_one hc.2)) h2 N hsrc (by omega) hb ty
 rw[h1] at hr k1
 have ho:=grown_ts k2 h2
 refine⟨A,cap,W',hr,⟨L++[c],by simp[h1],k1,fun i d f hd hf=> ?_⟩,ho⟩
 rcases Nat.lt_or_ge i L.length with hi|hi
 ·rw[List.getElem?_append_left hi] at hd
  rw[List.getElem?_append_left (by omega)] at hf
  obtain⟨a1,a2⟩:=h3 i d f hd hf
  exact⟨a1,a2.ts ho (by decide)⟩
 ·rw[List.getElem?_append_right hi] at hd
  rw[List.getElem?_append_right (by omega),←h1] at hf
  cases hq:i-L.length with
  |zero=>
   rw[hq] at hd hf
   simp only[List.getElem?_cons_zero,Option.some.injEq] at hd hf
   subst hd
   subst hf
   exact⟨hc.1,hc.2.ts ho (by decide)⟩
  |succ q=>rw[hq] at hd;simp at hd
theorem EnOwn.ts{w w' :World}{base base' n:Nat}{ts:List TypeId}{v:Value}{es:List En}(h:EnOwn w base v n es)(ho:Only (TS base' w ts) w w')(h1:37∉ts)(h2:84∉ts):EnOwn w' base v n es:=h.keep ho (fun _ _ hs=>⟨fun hb=>h1 (hs.2 _ _ hb),fun hb=>h2 (hs.2 _ _ hb)⟩)
end Go.Proofs.YtpdlbmieciabmaaGreatDoor
namespace Go.Proofs.YtpdlbmieciabmaaGreatDoor
theorem wordsB_len:∀(ns:List Int),(∀n∈ns,In n)→(wordsN ns).length≤22*ns.length
 |[],_=>by simp[wordsN]
 |n::ns,h=>by
  have ih:=wordsB_len ns (fun m hm=>h m (by simp[hm]))
  have h1:=itoa_len (h n (by simp)).1 (h n (by simp)).2
  have e:wordsN (n::ns)=32::Lib.itoa n++wordsN ns:=by unfold wordsN;simp
  rw[e,List.length_append,List.length_cons,List.length_cons]
  omega
theorem lineOf_len(x:Ln)(h:∀n∈x.2,In n):(lineOf x).length≤x.1.length+22*x.2.length+1:=by
 have h1:=wordsB_len x.2 h
 unfold lineOf lineL
 rw[List.length_append,List.length_append,List.length_singleton]
 omega
theorem textG_len{K:Nat}:∀(p:List Ln),(∀x∈p,(lineOf x).length≤K)→(textG p).length≤p.length*K
 |[],_=>by simp[textG]
 |x::p,h=>by
  have ih:=textG_len p (fun y hy=>h y (by simp[hy]))
  have h1:=h x (by simp)
  rw[textG_cons,List.length_append,List.length_cons,Nat.add_mul]
  omega
theorem qLines_len:∀(es:List En),(∀e∈es,e.values.length≤5)→(qLines es).length≤es.length*6
 |[],_=>by simp[qLines]
 |e::es,h=>by
  have ih:=qLines_len es (fun y hy=>h y (by simp[hy]))
  have h1:=h e (by simp)
  have e:qLines (e::es)=eLines e++qLines es:=by unfold qLines;simp
  rw[e,List.length_append,List.length_cons]
  unfold eLines
  rw[List.length_cons,List.length_map]
  omega
theorem mkEs_mem{wild:Bool}{o:Of}{e:En}(h:e∈mkEs wild o):e.values.length≤5∧∀v∈e.values,v.name.size≤9:=by
 obtain⟨l,_,rfl⟩:=List.mem_map.1 h
 refine⟨mkE_vals wild l,fun v hv=> ?_⟩
 obtain⟨p,_,rfl⟩:=List.mem_map.1 hv
 exact mkV_name wild p
theorem mkEs_text{o:Of}(h:o.Ok)(wild:Bool):(textG (qLines (mkEs wild o))).length≤4000:=by
 have h1:(textG (qLines (mkEs wild o))).length≤(qLines (mkEs wild o)).length *40:=textG_len _ (fun x hx=>by
  obtain⟨e,he,hx⟩:=List.mem_flatMap.1 hx
  have hin:=mkEs_in h wild e he
  unfold eLines at hx
  rcases List.mem_cons.1 hx with rfl|hx
  ·have:=lineOf_len (wLot,[e.lot]) (fun n hn=>by rw[List.mem_singleton.1 hn];exact hin.1)
   have e1:((wLot,[e.lot]):Ln).1.length =3:=rfl
   have e2:((wLot,[e.lot]):Ln).2.length =1:=rfl
   rw[e1,e2] at this
   omega
  ·obtain⟨v,hv,rfl⟩:=List.mem_map.1 hx
   have h9:=(mkEs_mem he).2 v hv
   have:=lineOf_len (vLine v) (fun n hn=>by rw[List.mem_singleton.1 hn];exact hin.2.2 v hv)
   have e1:(vLine v).1.length =v.name.size:=by simp[vLine]
   have e2:(vLine v).2.length =1:=rfl
   rw[e1,e2] at this
   omega)
 have h2:=qLines_len (mkEs wild o) (fun e he=>(mkEs_mem he).1)
 have h3:=mkEs_len wild o
 omega
theorem mkPr_text{o:Of}(h:o.Ok)(wild:Bool):(pricL (mkEs wild o) (mkRs o)).length≤2000:=by
 have h1:(textG (pLines (mkEs wild o) (mkRs o))).length≤(pLines (mkEs wild o) (mkRs o)).length *150:=textG_len _ (fun x hx=>by
  unfold pLines at hx
  rcases List.mem_append.1 hx with hx|hx
  ·obtain⟨e,he,rfl⟩:=List.mem_map.1 hx
   have hin:=mkEs_in h wild e he
   have:=lineOf_len (pLine e) (fun n hn=>by
    rcases List.mem_cons.1 hn with rfl|hn
    ·exact hin.1
    ·rw[List.mem_singleton.1 hn];exact hin.2.1)
   have e1:(pLine e).1.length =3:=rfl
   have e2:(pLine e).2.length =2:=rfl
   rw[e1,e2] at this
   omega
  ·obtain⟨r,hr,rfl⟩:=List.mem_map.1 hx
   have hin:=mkRs_in h r hr
   obtain⟨l,_,rfl⟩:=List.mem_map.1 hr
   have h5:=mkR_lots l
   have:=lineOf_len (rLine (mkR l)) (fun n hn=>by
    rcases List.mem_cons.1 hn with rfl|hn
    ·exact hin.1
    ·exact hin.2 n hn)
   have e1:(rLine (mkR l)).2.length =(mkR l).lots.length +1:=rfl
   have e2:(rLine (mkR l)).1.length =6:=rfl
   rw[e1,e2] at this
   omega)
 have h2:(pLines (mkEs wild o) (mkRs o)).length≤10:=by
  unfold pLines
  have:=mkEs_len wild o
  have:=mkRs_len o
  rw[List.length_append,List.length_map,List.length_map]
  omega
 unfold pricL
 omega
theorem qualL_len{o:Of}(h:o.Ok)(wild:Bool):(qualL (mkEs wild o)).length≤4000:=by
 have:=mkEs_text h wild
 unfold qualL
 split
 ·exact this
 ·simp
end Go.Proofs.YtpdlbmieciabmaaGreatDoor
namespace Go.Proofs.YtpdlbmieciabmaaGreatDoor
open Go.RowKit Go.Shelf
theorem mod04_any(n m:Int)(_hn:In n)(hm:0<m)(hm2:m≤2000000000000000000)(w:World):Calls Tryz.prog 33 #[.int .i64 n,.int .i64 m] w fun e w' =>e= .returned (.int .i64 (n%m))∧w' =w:=by
 obtain⟨r,er⟩:∃r,r=n.tmod m:=⟨_,rfl⟩
 have hr1: -m<r∧r<m:=by
  rw[er];exact⟨Int.lt_tmod_of_pos n hm,Int.tmod_lt_of_pos n hm⟩
 have hr2:n%m=if r<0 then r+m else r:=by
  rw[er,Int.tmod_eq_emod]
  have:=Int.emod_nonneg n (show m≠0 by omega)
  have:=Int.emod_lt_of_pos n hm
  have hab:(m.natAbs:Int)=m:=by omega
  split<;>split<;>omega
 have hr3:(r+m).tmod m=n%m:=by
  rw[Int.tmod_eq_emod_of_nonneg (by omega),hr2]
  split
  ·exact Int.emod_eq_of_lt (by omega) (by omega)
  ·rw[Int.add_emod_right];exact Int.emod_eq_of_lt (by omega) (by omega)
 have hr4:0≤n%m∧n%m<m:=⟨Int.emod_nonneg n (by omega),Int.emod_lt_of_pos n hm⟩
 obtain⟨g,eg⟩:∃g,g=n%m:=⟨_,rfl⟩
 rw[←eg] at hr3 hr4⊢
 have e1:IntKind.i64.wrap (n.tmod m)=r:=by rw[←er];exact IntWalk.i64_in _ (by omega)
 have e2:IntKind.i64.wrap (r+m)=r+m:=IntWalk.i64_in _ (by omega)
 have e3:IntKind.i64.wrap ((r+m).tmod m)=g:=by rw[hr3];exact IntWalk.i64_in _ (by omega)
 have e4:IntKind.i64.wrap r=r:=IntWalk.i64_in _ (by omega)
 have e5:IntKind.i64.wrap g=g:=IntWalk.i64_in _ (by omega)
 have e0:¬m=0:=by omega
 have er' :=er.symm
 clear eg er hr2 hr1 hr4 hm hm2
 go_enter Tryz.func33,Tryz.ntmps33
 go_wp2_with fail
 exact⟨rfl,_,results_tmp rfl _ _ _,rfl,rfl⟩
theorem name_cell(m:Nat)(h:m<10):(#[.string ⟨#[100,97,121,115]⟩,.string ⟨#[115,116,97,102,102]⟩,.string ⟨#[115,105,122,101]⟩,.string ⟨#[113,117,97,108,105,116,121]⟩,.string ⟨#[97]⟩,.string ⟨#[100,97,121,115]⟩,.string ⟨#[108,111,116]⟩,.string ⟨#[116,119,111,32,119,111,114,100,115]⟩,.string ⟨#[]⟩,.string ⟨#[65]⟩]:Array Value)[m]? =some (.string ⟨(nameN m).toArray⟩):=by
 match m,h with
 |0,_=>rfl
 |1,_=>rfl
 |2,_=>rfl
 |3,_=>rfl
 |4,_=>rfl
 |5,_=>rfl
 |6,_=>rfl
 |7,_=>rfl
 |8,_=>rfl
 |9,_=>rfl
set_option maxRecDepth 100000 in
set_option maxHeartbeats 1000000 in
theorem name_any(n:Int)(hn:In n)(w:World):Calls Tryz.prog 34 #[.int .i64 n] w fun e w' =>e= .returned (.string (nameT n))∧Only NoneOf w w' :=by
 obtain⟨m,em⟩:∃m:Nat,n%10=(m:Int):=⟨(n%10).toNat,by have:=Int.emod_nonneg n (show(10:Int)≠0 by omega);omega⟩
 have hm:m<10:=by
  have:=Int.emod_lt_of_pos n (show(0:Int)<10 by omega)
  omega
 have hc:(w.alloc (.cells #[.string ⟨#[100,97,121,115]⟩,.string ⟨#[115,116,97,102,102]⟩,.string ⟨#[115,105,122,101]⟩,.string ⟨#[113,117,97,108,105,116,121]⟩,.string ⟨#[97]⟩,.string ⟨#[100,97,121,115]⟩,.string ⟨#[108,111,116]⟩,.string ⟨#[116,119,111,32,119,111,114,100,115]⟩,.string ⟨#[]⟩,.string ⟨#[65]⟩] 9)).cell? ⟨w.heap.size,m,none⟩=some (.string (nameT n)):=by
  rw[(Blk.new w _ _).cell,name_cell m hm]
  unfold nameT
  rw[em,Int.toNat_natCast]
 have m4:∀W,Calls Tryz.prog 33 #[.int .i64 n,.int .i64 10] W fun e w' =>e= .returned (.int .i64 (m:Int))∧w' =W:=fun W=>by rw[←em];exact mod04_any n 10 hn (by omega) (by omega) W
 have M4:=Lib.hid m4
 have im:(m:Int)<10:=by omega
 have im0:(0:Int)≤(m:Int):=by omega
 obtain⟨X,eX⟩:∃X,X=w.alloc (.cells #[.string ⟨#[100,97,121,115]⟩,.string ⟨#[115,116,97,102,102]⟩,.string ⟨#[115,105,122,101]⟩,.string ⟨#[113,117,97,108,105,116,121]⟩,.string ⟨#[97]⟩,.string ⟨#[100,97,121,115]⟩,.string ⟨#[108,111,116]⟩,.string ⟨#[116,119,111,32,119,111,114,100,115]⟩,.string ⟨#[]⟩,.string ⟨#[65]⟩] 9):=⟨_,rfl⟩
 rw[←eX] at hc
 have HX:=Lib.hid (show Only NoneOf w X by rw[eX];exact(Only.refl _ _).alloc _)
 have EX:=Lib.hid eX
 clear m4 em eX
 go_enter Tryz.func34,Tryz.ntmps34
 go_wp2_with fail
 rw[←EX.out]
 refine(M4.out _).mono ?_
 rintro e w1 ⟨rfl,rfl⟩
 go_wp2_with fail
 go_ret
 exact⟨rfl,HX.out⟩
end Go.Proofs.YtpdlbmieciabmaaGreatDoor
namespace Go.Proofs.YtpdlbmieciabmaaGreatDoor
open Go.RowKit Go.Shelf
attribute [local go_sem ↓ high] aph_eq
def QRdE(s:ByteArray)(w:World)(e:Ending)(w' :World):Prop:=∃rv code es,e= .returned (.tuple #[rv,.int .i64 code])∧EnOwn w' w.heap.size rv es.length es∧((code=0∧QRd s.data.toList es)∨(code=11∧es=[]∧∀fs,¬QRd s.data.toList fs))∧Only NoneOf w w'
theorem QRdE.bad{s:ByteArray}{w w' :World}(h:∀fs,¬QRd s.data.toList fs)(ho:Only NoneOf w w'):QRdE s w (.returned (.tuple #[.slice none 0 0,.int .i64 11])) w' :=⟨_,_,[],rfl,EnOwn.nil _ _,.inr ⟨rfl,rfl,h⟩,ho⟩
theorem QRdE.ok{s:ByteArray}{w w' :World}{rv:Value}{es:List En}(h:QRd s.data.toList es)(k:EnOwn w' w.heap.size rv es.length es)(ho:Only NoneOf w w'):QRdE s w (.returned (.tuple #[rv,.int .i64 0])) w' :=⟨_,_,es,rfl,k,.inl ⟨rfl,h⟩,ho⟩
structure QxS(s:ByteArray)(w:World)(rows:List (List ByteArray))(lines v:Value)(k:Nat)(es:List En)(W:World):Prop where
 inv:QI s.data.toList k es
 room:QB rows k es
 own:EnOwn W w.heap.size v es.length es
 rows:RowsOwn W w.heap.size lines rows.length rows
 only:Only NoneOf w W
set_option maxRecDepth 100000 in
set_option maxHeartbeats 4000000 in
theorem readq_any(s:ByteArray)(hs:s.size≤4000000)(w:World)(he:Env w):Calls Tryz.prog 32 #[.string s] w (QRdE s w):=by
 have HE:=Lib.hid he
 clear he
 go_enter Tryz.func32,Tryz.ntmps32
 go_wp2_with fail
 refine(bsplit_any s (by omega) w HE.out).mono ?_
 rintro e w1 ⟨rows,ok,rv,rfl,hsp,hown,ho1⟩
 obtain⟨A,cap,rfl,hc1,hc2,_⟩:=hown.sl
 have hst:QxS s w rows (.slice A rows.length cap) (.slice none 0 0) 0 [] w1:=⟨QI.new _,QB.new _,EnOwn.nil _ _,hown,ho1⟩
 have HST:=Lib.hid hst
 have HSP:=Lib.hid hsp
 clear hsp hown ho1 hst
 go_wp2_with fail
 go_loopw [6,19] (fun v i wr=>∃(k:Nat) (es:List En),i= .int .i64 k∧k≤rows.length∧QxS s w rows (.slice A rows.length cap) v k es wr) (fun _ i _=>rows.length-(intOf i).toNat)
 case atStart=>exact⟨0,[],rfl,Nat.zero_le _,HST.out⟩
 case round=>
  obtain⟨k,es,rfl,hk,hS⟩:=hrel
  have HS:=Lib.hid hS
  obtain⟨A2,cap2,rfl,hd1,hd2⟩:=hS.own.form
  clear hS
  by_cases hlt:k<rows.length
  ·obtain⟨r,hr⟩:∃r,rows[k]? =some r:=⟨_,List.getElem?_eq_getElem hlt⟩
   have hne:=HSP.out.1 r (List.mem_of_getElem? hr)
   obtain⟨t,r,rfl⟩:∃t q,r=t::q:=by
    cases r with
    |nil=>exact absurd rfl hne
    |cons t q=>exact⟨t,q,rfl⟩
   obtain⟨A',cap',e',_,_,hrw⟩:=HS.out.rows.sl
   cases e'
   obtain⟨g,o,u,rfl,c0,hsl⟩:=hrw k (t::r) hr
   obtain⟨A3,cap3,rfl,hf1,hf2,hat⟩:=id hsl
   obtain⟨g3,o3,cur3,rfl,hb3,hr3⟩:=hat 0 t rfl
   have t0:wr.cell? ⟨g3,o3,none⟩=some (.string t):=by simpa using hr3 0 _ rfl
   have ik:(k:Int)<rows.length:=by omega
   rw[List.length_cons] at hf1
   have HR:=Lib.hid hr
   have HSL:=Lib.hid hsl
   clear hr hrw hsl hat hr3 hne hb3
   have hrl:r.length≤1000000000:=by
    have h1:=rowsW_take_le rows (k+1)
    rw[rowsW_take HR.out] at h1
    have h2:=HSP.out.2.2
    have h3:=rowW_len (t::r)
    have h4:=size_list s
    rw[List.length_cons] at h3
    omega
   have hrs:∀x∈r,x.size≤1000000000:=fun x hx=>by
    have h1:=rowsW_take_le rows (k+1)
    rw[rowsW_take HR.out] at h1
    have h2:=HSP.out.2.2
    have h3:=rowW_mem (r:=t::r) (t:=x) (by simp[hx])
    have h4:=size_list s
    omega
   have HRS:=Lib.hid hrs
   clear hrs
   by_cases hr0:r=[]
   ·subst hr0
    go_wp2_with fail
    all_goals
     refine(bnumbers_any [] HRS.out (by omega) _ wr ⟨_,_,rfl,Nat.zero_le _,by omega,fun i p h=>by simp at h⟩ (HE.out.none HS.out.only)).mono ?_
     rintro e w2 ⟨ns,fine,nv,rfl,hn,hnv,ho2⟩
     obtain⟨A4,cap4,rfl,hg1,hg2⟩:=own_form' hnv
     have hns:ns=[]:=List.eq_nil_of_length_eq_zero (by have:=hn.2.2;simpa [rowD] using this)
     subst hns
     have HF:=Lib.hid (HS.out.inv.no HSP.out HR.out hn (.inr (.inl (by simp))))
     have HO2:=Lib.hid (HS.out.only.trans ho2)
     clear hn ho2 hnv
     cases fine
     all_goals
      go_wp2_with fail
      go_ret2
      exact QRdE.bad HF.out HO2.out
   ·have hc3:¬cap3=1:=fun e=>hr0 (List.eq_nil_of_length_eq_zero (by omega))
    have hsl1:=HSL.out.drop 1 (by simp)
    rw[List.drop_one,List.tail_cons,List.length_cons,Nat.add_sub_cancel,Nat.one_mul] at hsl1
    have HSL1:=Lib.hid hsl1
    clear hsl1
    go_wp2_with fail
    refine(bnumbers_any r HRS.out hrl _ wr HSL1.out (HE.out.none HS.out.only)).mono ?_
    rintro e w2 ⟨ns,fine,nv,rfl,hn,hnown,ho2⟩
    obtain⟨A4,cap4,rfl,hg1,hg2⟩:=own_form' hnown
    have HN:=Lib.hid hn
    have HNO:=Lib.hid hnown
    have HO2:=Lib.hid ho2
    have t2:w2.cell? ⟨g3,o3,none⟩=some (.string t):=ho2.cell_some t0 (fun e=>e)
    clear hn hnown ho2 t0 c0
    cases fine with
    |false=>
     have HF:=Lib.hid (HS.out.inv.no HSP.out HR.out HN.out (.inl rfl))
     go_wp2_with fail
     go_ret2
     exact QRdE.bad HF.out (HS.out.only.trans HO2.out)
    |true=>
     by_cases h1:ns.length=1
     ·obtain⟨n,rfl⟩:=List.length_eq_one_iff.1 h1
      obtain⟨g4,cap5,e4,_,hg4,_,_⟩:=own_form HNO.out (by simp)
      simp only[Value.slice.injEq,List.length_singleton,true_and] at e4
      obtain⟨rfl,rfl⟩:=e4
      have n0:w2.cell? ⟨g4,0,none⟩=some (.int .i64 n):=by
       have:=World.ownsRow.cells HNO.out rfl 0 (.int .i64 n) rfl
       simpa [Addr.add_mid] using this
      have hn1:((List.length [n]:Nat):Int)=1:=rfl
      by_cases ht:t=lotB
      ·have b1:=tx_litT (lot_eq.1 ht)
       unfold wLot at b1
       have HQ:=Lib.hid (HS.out.inv.lot HSP.out HR.out HN.out (lot_eq.1 ht))
       have HB:=Lib.hid (HS.out.room.lot HR.out HN.out (lot_eq.1 ht))
       have hel:=qLines_ge es
       have hel2:=textG_ge (qLines es)
       have hel3:=HS.out.room
       unfold QB at hel3
       have hel4:=rowsW_take_le rows k
       have hel5:=HSP.out.2.2
       have hel6:=size_list s
       have hesl:es.length≤1000000000:=by omega
       have hx:Only NoneOf w2 (w2.alloc (.cells #[.int .i64 0,.int .i64 n,.int .i64 0,.int .i64 0,.slice none 0 0] 37)):=(Only.refl _ _).alloc _
       obtain⟨A5,cap5,W',hrun,k1,k2⟩:=run_append_lot (w2.alloc (.cells #[.int .i64 0,.int .i64 n,.int .i64 0,.int .i64 0,.slice none 0 0] 37)) w.heap.size (.slice A2 es.length cap2) es ⟨n,0,.slice none 0 0⟩ ⟨n,0,[]⟩ (HS.out.own.none_ (HO2.out.trans hx)) ⟨rfl,rfl,OwnOf.nil _ _ _ _ _⟩ (fun _ _ _ _ _ _ e=>by cases e) w2.heap.size (Blk.new w2 _ _) hesl (Nat.le_trans (HS.out.only.trans HO2.out).size hx.size) 31
       have HNEW:Hid (QxS s w rows (.slice (some ⟨g,o,none⟩) rows.length cap) (.slice A5 (es.length+1) cap5) (k+1) (es++[⟨n,0,[]⟩]) W'):=Lib.hid ⟨HQ.out,HB.out,by rw[List.length_append,List.length_singleton];exact k1,(HS.out.rows.keep (HO2.out.trans hx) (fun _ _ e=>e) (fun _ _ _ e=>e)).ts k2 (by decide) (by decide),only_base (HS.out.only.trans (HO2.out.trans hx)) (ts_base k2) (Nat.le_refl _)⟩
       clear k1 k2 hx hel hel2 hel3 hel4 hel5 hel6 ht h1
       go_wp2_with fail
       go_roundw
       case rel=>exact⟨k+1,_,by go_num,by omega,HNEW.out⟩
       case measure=>simp[intOf];omega
      ·have b1:=tx_litF (fun e=>ht (lot_eq.2 e))
       unfold wLot at b1
       by_cases h0:es=[]
       ·have HF:=Lib.hid (HS.out.inv.no HSP.out HR.out HN.out (.inr (.inr ⟨fun e=>ht (lot_eq.2 e),h0⟩)))
        subst h0
        clear ht h1
        go_wp2_with fail
        go_ret2
        exact QRdE.bad HF.out (HS.out.only.trans HO2.out)
       ·obtain⟨es0,x,rfl⟩:∃a b,es=a++[b]:=⟨es.dropLast,es.getLast h0,(List.dropLast_concat_getLast h0).symm⟩
        have hl:(es0++[x]).length =es0.length+1:=by simp
        have hQ:=HS.out.inv.val HSP.out HR.out HN.out (fun e=>ht (lot_eq.2 e))
        have hB:=HS.out.room.val HR.out HN.out
        have HQ:=Lib.hid hQ
        have HB:=Lib.hid hB
        have hel:=qLines_vals (es:=es0++[x]) (e:=x) (by simp)
        have hel2:=textG_ge (qLines (es0++[x]))
        have hel3:=HS.out.room
        unfold QB at hel3
        have hel4:=rowsW_take_le rows k
        have hel5:=HSP.out.2.2
        have hel6:=size_list s
        have hvl:x.values.length≤1000000000:=by omega
        obtain⟨G,rfl⟩:∃G,A2=some ⟨G,0,none⟩:=by
         obtain⟨L,hL⟩:=HS.out.own
         obtain⟨G,c,e5,_⟩:=own_form hL.own (by rw[hl];omega)
         simp only[Value.slice.injEq] at e5
         exact⟨G,e5.1⟩
        have hen:=HS.out.own.none_ HO2.out
        rw[hl] at hen
        obtain⟨A6,k6,hc6,hf6,happ⟩:=run_append_value w2 w.heap.size G cap2 es0 x ⟨t,n⟩ hen hvl (HS.out.only.trans HO2.out).size w2.heap.size 35
        have hx:Only NoneOf w2 (w2.alloc (.cells #[.string t,.int .i64 n] 84)).drew :=((Only.refl _ _).alloc _).drew
        obtain⟨A7,k7,W',hrun,hf7,hc7,hen7,ho7⟩:=happ _ hx ((Blk.new w2 _ _).drew)
        have HNEW:Hid (QxS s w rows (.slice (some ⟨g,o,none⟩) rows.length cap) (.slice (some ⟨G,0,none⟩) (es0.length+1) cap2) (k+1) (es0++[{x with values:=x.values++[⟨t,n⟩]}]) (W'.setCell ⟨G,es0.length*5+4,none⟩ (.slice A7 (x.values.length+1) k7))):=Lib.hid ⟨HQ.out,HB.out,by rw[List.length_append,List.length_singleton];exact hen7,(HS.out.rows.keep HO2.out (fun _ _ e=>e) (fun _ _ _ e=>e)).ts ho7 (by decide) (by decide),only_base (HS.out.only.trans HO2.out) (ts_base ho7) (Nat.le_refl _)⟩
        have c6:=hx.cell_some hc6 (fun e=>e)
        have c7:=hx.cell_some t2 (fun e=>e)
        have c8:=hx.cell_some n0 (fun e=>e)
        have l0:(es0.length:Int)<(es0.length:Int)+1:=by omega
        have l1:(0:Int)≤(es0.length:Int):=by omega
        have hesl:es0.length≤1000000000:=by
         have:=qLines_ge (es0++[x])
         omega
        have l2:IntKind.i64.wrap (es0.length:Int)=(es0.length:Int):=IntWalk.i64_in _ (by omega)
        clear happ hen hx hen7 ho7 hel hel2 hel3 hel4 hel5 hel6 ht h1 h0 hQ hB hvl
        rw[hl] at hd1⊢
        go_upto_region 12 with(fail)
        go_region
        go_wp2_with fail
        go_roundw
        case rel=>exact⟨k+1,_,by go_num,by omega,by have:=HNEW.out;exact this⟩
        case measure=>simp[intOf];omega
     ·have d1:((ns.length:Int)==1)=false:=by
       rw[beq_eq_false_iff_ne]
       omega
      have HF:=Lib.hid (HS.out.inv.no HSP.out HR.out HN.out (.inr (.inl h1)))
      go_wp2_with fail
      go_ret2
      exact QRdE.bad HF.out (HS.out.only.trans HO2.out)
  ·obtain rfl:k=rows.length:=by omega
   have ik:¬(rows.length:Int)<rows.length:=by omega
   obtain⟨hq1,hq2⟩:=QI.all HSP.out HS.out.inv
   have HQ1:=Lib.hid hq1
   have HQ2:=Lib.hid hq2
   have hen:=HS.out.own.sl
   have hrm:=HS.out.room
   unfold QB at hrm
   have hel4:=rowsW_take_le rows rows.length
   have hel5:=HSP.out.2.2
   have hel6:=size_list s
   have htx:(textG (qLines es)).length≤100000000:=by omega
   have HEN:=Lib.hid hen
   clear hq1 hq2 hen hrm hel4 hel5 hel6
   cases ok with
   |false=>
    have HF:=Lib.hid (fun fs hq=>(by have:=(HQ2.out fs hq).1;cases this):∀fs,¬QRd s.data.toList fs)
    go_wp2_with fail
    go_ret2
    exact QRdE.bad HF.out HS.out.only
   |true=>
    go_wp2_with fail
    refine(right_any es _ wr HEN.out).mono ?_
    rintro e w2 ⟨rfl,ho2⟩
    have HO2:=Lib.hid ho2
    clear ho2
    cases hrt:rightL es with
    |false=>
     have HF:=Lib.hid (fun fs hq=>(by have:=(HQ2.out fs hq).2.1;rw[hrt] at this;cases this):∀fs,¬QRd s.data.toList fs)
     clear hrt
     go_wp2_with fail
     go_ret2
     exact QRdE.bad HF.out (HS.out.only.trans HO2.out)
    |true=>
     have HRT:=Lib.hid hrt
     clear hrt
     go_wp2_with fail
     refine(quality_any es (fun e he=>(HS.out.inv.1 e he).1) htx _ w2 (HEN.out.only HO2.out) (HE.out.none (HS.out.only.trans HO2.out)).tab).mono ?_
     rintro e w3 ⟨u,rfl,hu,ho3⟩
     have HO3:=Lib.hid (HO2.out.trans ho3)
     have HU:=Lib.hid hu
     clear hu ho3
     by_cases heq:u=s
     ·have b1:=tx_listT heq
      have HF:=Lib.hid (HQ1.out HRT.out (by rw[←HU.out,heq]))
      have HOW:=Lib.hid (HS.out.own.none_ HO3.out)
      clear heq
      go_wp2_with fail
      go_ret2
      exact QRdE.ok HF.out HOW.out (HS.out.only.trans HO3.out)
     ·have b1:=tx_listF heq
      have HF:=Lib.hid (fun fs hq=>heq (ba_ext (by have:=(HQ2.out fs hq).2.2.1;rw[HU.out,this])):∀fs,¬QRd s.data.toList fs)
      clear heq
      go_wp2_with fail
      go_ret2
      exact QRdE.bad HF.out (HS.out.only.trans HO3.out)
end Go.Proofs.YtpdlbmieciabmaaGreatDoor
