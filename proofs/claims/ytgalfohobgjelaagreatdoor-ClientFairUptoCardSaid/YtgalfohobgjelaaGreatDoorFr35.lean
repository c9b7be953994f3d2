/- What is proved here:several parts. the law on officers whose right votes are all for one list:they are not blamed,or a vote that they have not made verifies. Conditions:the world's numbers are bytes,the acts are well;the table of powers of ten lies. · what the rows of this seat share:what the listed table gives,and a world that holds the listed tables. No conditions. -/
import Derived.Test.YtgalfohobgjelaaGreatDoorFr01
import Derived.Test.YtgalfohobgjelaaGreatDoorFr04
import Derived.Test.YtgalfohobgjelaaGreatDoorFr33
import Derived.Test.YtgalfohobgjelaaGreatDoorFr34
import Derived.Deep.DeepCutAuto
import Derived.Test.YtgalfohobgjelaaGreatDoorCards
import Derived.Test.YtgalfohobgjelaaGreatDoorTie
import Derived.Deep.DeepHandedRow
import Derived.Lib.LaidTab
import Derived.LaidSub
import Derived.ChangeMaps5
import Derived.OpenShut
namespace Go.Proofs.YtgalfohobgjelaaGreatDoor
open Go.RowKit Go.Shelf
attribute [local go_sem ↓ high] wdLoad_eq acLd_eq clLoad_eq clStore_eq clNew_eq vtLoad_eq vtStore_eq vtNew_eq psSt_eq
abbrev tPs:TypeId:=67
theorem ps_store {W:World} {g:Nat} {cs:Array Value} (h:Blk W g tPs cs) (hs:cs.size=3) (p:Pers):(psSt (.pointer (some ⟨g,0,none⟩)) (.agg #[.int .i64 p.id,.int .i64 p.role,.int .i64 p.pub])).run Tryz.prog W= .ok () (W.setCells g 0 (persC p)):=
 run_storeAt_mid (P:=Tryz.prog) W g 0 tPs (persC p).toArray (h.there 0 3 (by omega)) (by kernel_rfl) (by simp [persC,Value.oneCell'])
theorem ps_stored {W:World} {g:Nat} {cs:Array Value} (h:Blk W g tPs cs) (hs:cs.size=3) (p:Pers):Blk (W.setCells g 0 (persC p)) g tPs (persC p).toArray:=filled_whole h (by rw [hs];rfl)
theorem ps_load {W:World} {g:Nat} {p:Pers} (h:Blk W g tPs (persC p).toArray):W.cell? ⟨g,0,none⟩=some (.int .i64 p.id)∧W.cell? ⟨g,1,none⟩=some (.int .i64 p.role)∧W.cell? ⟨g,2,none⟩=some (.int .i64 p.pub):=⟨h.cell 0,h.cell 1,h.cell 2⟩
theorem field_pers (A:Option Addr) (n c:Nat) (W:World):(Instr.field tSu (.agg #[.slice A n c,.int .i64 0,.slice none 0 0,.slice none 0 0,.int .i64 0,.int .i64 0]) 0).run Tryz.prog W= .ok (.slice A n c) W:=by kernel_rfl
theorem Has.far {w0 W W':World} {base C top:Nat} {s:Vw} {S:Nat→Prop} (h:Has w0 base C top s W) (ho:Only S W W') (hS:∀k,S k→top≤k∧w0.heap.size≤k):Has w0 base C top s W':=by
 obtain⟨c,h1,h2,h3,h4,h5,h6,h7,h8,h9⟩:=h
 exact⟨c,h1,h2,h3.keep ho (fun k hk hs=>by have:=h9 k hk;have:=hS k hs;omega),h4,Nat.le_trans h5 ho.size,Nat.le_trans h6 ho.size,h7.trans' ho (fun k hk hs=>by have:=hS k hs;omega),h8,h9⟩
theorem Has.lo_top {w0 W:World} {base C top:Nat} {s:Vw} (h:Has w0 base C top s W):w0.heap.size≤top:=by
 obtain⟨c,h1,h2,h3,h4,h5,h6,h7,h8,h9⟩:=h
 have:=h9 c.C (.inl rfl)
 have:=(h3.foot_in (k:=c.C) (.inl rfl)).1
 omega
theorem or16 (y id:Nat) (hy:y<65536) (hid:id≤7):bits .or .u16 (y:Int) (IntKind.u16.wrap (2 ^ id))=((y|||2 ^ id:Nat):Int):=by
 have hp:(2:Nat) ^ id<65536:=by
  match id,hid with
  |0,_|1,_|2,_|3,_|4,_|5,_|6,_|7,_=>decide
 obtain⟨z,ez⟩:∃z:Nat,z=2 ^ id:=⟨_,rfl⟩
 have e0:((2:Int) ^ id)=(z:Int):=by rw [ez];simp
 rw [e0]
 rw [←ez] at hp⊢
 have e1:IntKind.u16.wrap (z:Int)=(z:Int):=by rw [IntKind.wrap_u16];omega
 rw [e1]
 show IntKind.u16.wrap ((BitVec.ofInt 16 (y:Int)|||BitVec.ofInt 16 (z:Int)).toNat:Int)=_
 have e:(BitVec.ofInt 16 (y:Int)|||BitVec.ofInt 16 (z:Int)).toNat=y|||z:=by
  rw [BitVec.toNat_or,show BitVec.ofInt 16 (y:Int)=BitVec.ofNat 16 y by simp,show BitVec.ofInt 16 (z:Int)=BitVec.ofNat 16 z by simp,BitVec.toNat_ofNat,BitVec.toNat_ofNat,Nat.mod_eq_of_lt hy,Nat.mod_eq_of_lt hp]
 rw [e,IntKind.wrap_u16]
 have:=Nat.or_lt_two_pow (n:=16) hy hp
 omega
theorem setB_mem {m:Nat} {p:Pers} (h:p∈setB m):p=clerk∨∃j,p=offAt j:=by
 unfold setB at h
 rcases List.mem_cons.1 h with h|h
 ·exact .inl h
 ·obtain⟨j,_,rfl⟩:=List.mem_map.1 h
  exact .inr ⟨_,rfl⟩
theorem setW_id {d:Wd} {p:Pers} {id:Nat} (h:p∈setW d) (hid:id≤7) (he:p.id=(id:Int)):p=offAt id:=by
 rcases setW_mem h with h|rfl|rfl
 ·rcases setB_mem h with rfl|⟨j,rfl⟩
  ·have h5:(50:Int)=(id:Int):=he
   omega
  ·have h5:(j:Int)=(id:Int):=he
   have h6:j=id:=by omega
   rw [h6]
 ·have h5:((60:Nat):Int)=(id:Int):=he
  omega
 ·have h5:((61:Nat):Int)=(id:Int):=he
  omega
theorem setW_there {d:Wd} {id:Nat} (h1:1≤id) (h2:id≤d.n):offAt id∈setW d:=by
 unfold setW setB
 refine List.mem_append_left _ (List.mem_cons_of_mem _ (List.mem_map.2 ⟨id - 1,List.mem_range.2 (by omega),?_⟩))
 rw [Nat.sub_add_cancel h1]
structure FaA (w:World) (B Pb base C top:Nat) (d:Wd) (kA:Option Addr) (kc:Nat) (pv:Value) (id k:Nat) (W:World):Prop where
 wd:Blk W B tWd (wdC d kA kc)
 ps:∃q:Pers,Blk W Pb tPs (persC q).toArray∧((∀p∈(setW d).take k,p.id≠(id:Int))∨q=offAt id)
 cl:Has w base C top (keV d) W
 sl:∃b,PerOwn W b pv (setW d).length (setW d)∧Pb<b
 pb:B<base∧top≤Pb∧w.heap.size≤Pb
theorem FaA.keep {w:World} {B Pb base C top:Nat} {d:Wd} {kA:Option Addr} {kc:Nat} {pv:Value} {id k:Nat} {W W':World} (h:FaA w B Pb base C top d kA kc pv id k W) (ho:Only NoneOf W W'):FaA w B Pb base C top d kA kc pv id k W':=by
 obtain⟨q,h1,h2⟩:=h.ps
 obtain⟨b,h3,h4⟩:=h.sl
 exact⟨h.wd.only ho (fun e=>e),⟨q,h1.only ho (fun e=>e),h2⟩,h.cl.keep ho,⟨b,own_only h3 ho (fun _ _ e=>e),h4⟩,h.pb⟩
theorem FaA.skip {w:World} {B Pb base C top:Nat} {d:Wd} {kA:Option Addr} {kc:Nat} {pv:Value} {id k:Nat} {W:World} {p:Pers} (h:FaA w B Pb base C top d kA kc pv id k W) (hp:(setW d)[k]? =some p) (he:p.id≠(id:Int)):FaA w B Pb base C top d kA kc pv id (k+1) W:=by
 obtain⟨q,h1,h2⟩:=h.ps
 refine⟨h.wd,⟨q,h1,?_⟩,h.cl,h.sl,h.pb⟩
 rcases h2 with h2|h2
 ·refine .inl (fun x hx=> ?_)
  rw [List.take_add_one,hp,Option.toList_some] at hx
  rcases List.mem_append.1 hx with hx|hx
  ·exact h2 x hx
  ·rw [List.mem_singleton.1 hx];exact he
 ·exact .inr h2
theorem FaA.hit {w:World} {B Pb base C top:Nat} {d:Wd} {kA:Option Addr} {kc:Nat} {pv:Value} {id k:Nat} {W:World} {p:Pers} (h:FaA w B Pb base C top d kA kc pv id k W) (hp:p=offAt id):FaA w B Pb base C top d kA kc pv id (k+1) (W.setCells Pb 0 (persC p)):=by
 obtain⟨q,h1,h2⟩:=h.ps
 obtain⟨b,h3,h4⟩:=h.sl
 have ho:Only (fun i=>i=Pb) W (W.setCells Pb 0 (persC p)):=only_setCells (S:=fun i=>i=Pb) (Only.refl _ _) Pb 0 (.inl rfl) _
 exact⟨h.wd.only ho (fun e=>Blk.ne_ h.wd h1 (by decide) e),⟨p,ps_stored h1 rfl p,.inr hp⟩,h.cl.far ho (fun k hk=>by have:=h.pb;omega),⟨b,own_only h3 ho (fun k hk e=>by have:=own_ge h3 hk;omega),h4⟩,h.pb⟩
structure FaL (w:World) (B Pb base lo mid C:Nat) (d:Wd) (kA:Option Addr) (kc:Nat) (id:Nat) (s:Vw) (W:World):Prop where
 wd:Blk W B tWd (wdC d kA kc)
 ps:Blk W Pb tPs (persC (offAt id)).toArray
 pb:B<base∧lo≤Pb∧Pb<mid
 cl:∃top,HasG w base lo mid C top s W
theorem FaL.keep {w:World} {B Pb base lo mid C:Nat} {d:Wd} {kA:Option Addr} {kc:Nat} {id:Nat} {s:Vw} {W W':World} (h:FaL w B Pb base lo mid C d kA kc id s W) (ho:Only NoneOf W W'):FaL w B Pb base lo mid C d kA kc id s W':=by
 obtain⟨top,h1⟩:=h.cl
 exact⟨h.wd.only ho (fun e=>e),h.ps.only ho (fun e=>e),h.pb,top,h1.keep ho⟩
structure FaM (w:World) (B Pb base mid C:Nat) (d:Wd) (kA:Option Addr) (kc:Nat) (id:Nat) (s:Vw) (N1 top:Nat) (a:Ac) (W:World):Prop where
 wd:Blk W B tWd (wdC d kA kc)
 ps:Blk W Pb tPs (persC (offAt id)).toArray
 ac:Blk W N1 tAc (acC a)
 cl:HasG w base Pb mid C top s W
 lo:top≤N1
theorem FaM.keep {w:World} {B Pb base mid C:Nat} {d:Wd} {kA:Option Addr} {kc:Nat} {id:Nat} {s:Vw} {N1 top:Nat} {a:Ac} {W W':World} (h:FaM w B Pb base mid C d kA kc id s N1 top a W) (ho:Only NoneOf W W'):FaM w B Pb base mid C d kA kc id s N1 top a W':=
 ⟨h.wd.only ho (fun e=>e),h.ps.only ho (fun e=>e),h.ac.only ho (fun e=>e),h.cl.keep ho,h.lo⟩
theorem FaM.put {w:World} {B Pb base mid C:Nat} {d:Wd} {kA:Option Addr} {kc:Nat} {id:Nat} {s:Vw} {N1 top:Nat} {a a':Ac} {W W':World} (h:FaM w B Pb base mid C d kA kc id s N1 top a W) (ho:Only (fun i=>i=N1) W W') (hb:Blk W' N1 tAc (acC a')):FaM w B Pb base mid C d kA kc id s N1 top a' W':=
 ⟨h.wd.only ho (fun e=>Blk.ne_ h.wd h.ac (by decide) e),h.ps.only ho (fun e=>Blk.ne_ h.ps h.ac (by decide) e),hb,h.cl.far ho (fun k hk=> ⟨.inr (.inl (by have:=h.lo;omega)),by
  obtain⟨c,h1,h2,h3,h4,h5,h6,h7,h8,h9,h10⟩:=h.cl
  have:=(h5 c.C (.inl rfl)).1
  have:=(h3.foot_in (k:=c.C) (.inl rfl)).1
  have:=h.lo
  omega⟩),h.lo⟩
structure FaX (w:World) (B Pb base mid C:Nat) (d:Wd) (kA:Option Addr) (kc:Nat) (id:Nat) (s:Vw) (N1 top:Nat) (a:Ac) (N2:Nat) (x:Cl) (G:Nat) (gv rv:Value) (W:World):Prop where
 m:FaM w B Pb base mid C d kA kc id s N1 top a W
 cl:ClB W N2 x.what x.bid (some ⟨G,0,none⟩) 1 x.ev gv rv
 km:KeM top x G gv rv W
theorem FaX.keep {w:World} {B Pb base mid C:Nat} {d:Wd} {kA:Option Addr} {kc:Nat} {id:Nat} {s:Vw} {N1 top:Nat} {a:Ac} {N2:Nat} {x:Cl} {G:Nat} {gv rv:Value} {W W':World} (h:FaX w B Pb base mid C d kA kc id s N1 top a N2 x G gv rv W) (ho:Only NoneOf W W'):FaX w B Pb base mid C d kA kc id s N1 top a N2 x G gv rv W':=
 ⟨h.m.keep ho,h.cl.only ho (fun e=>e),h.km.keep ho⟩
set_option maxRecDepth 100000 in
set_option maxHeartbeats 4000000 in
theorem fair_law (d:Wd) (hd:d.Ok) (kA:Option Addr) (kc:Nat) (S:List Ac) (hS:∀a∈S,a.Ok) (sv:Value) (who:Nat) (hwho:who<256) (w:World) (hsv:AcSl w sv S) (hkd:KdAt w kA d.kinds) (hkl:d.kinds.length≤1000000000) (ht:Tab w):
  Calls Tryz.prog 6 #[.agg (wdC d kA kc),sv,.int .u8 (who:Int)] w fun e w'=>e= .returned (.bool true)∧Only NoneOf w w':=by
 obtain⟨B,eB⟩:∃B,B=w.heap.size:=⟨_,rfl⟩
 have hS0:Blk (w.alloc (.cells (wdC d kA kc) tWd)) B tWd (wdC d kA kc)∧Only NoneOf w (w.alloc (.cells (wdC d kA kc) tWd)):=⟨by rw [eB];exact Blk.new w _ _,(Only.refl _ _).alloc _⟩
 obtain⟨WV,eWV⟩:∃v:Array Value,v=wdC d kA kc:=⟨_,rfl⟩
 obtain⟨off,eoff⟩:∃n,n=d.off:=⟨_,rfl⟩
 have hoff:off<256:=by rw [eoff];exact hd.off
 have hsan:∀W,Only NoneOf w W→Calls Tryz.prog 11 #[] W fun e w'=>e= .returned (.bool true)∧Only NoneOf W w':=fun W ho=>sanity31 W (ht.none ho)
 have hset:∀W,Calls Tryz.prog 18 #[.agg WV] W fun e' w'=> ∃pv,e'= .returned (setV pv)∧PerOwn w' W.heap.size pv (setW d).length (setW d)∧Only NoneOf W w':=fun W=>by
  rw [eWV]
  exact wsetup_own d hd kA kc W
 have hnew:∀W pv,Only NoneOf w W→PerSl W pv (setW d)→Calls Tryz.prog 17 #[.int .i64 60,setV pv] W fun e w'=> ∃C,e= .returned (.pointer (some ⟨C,0,none⟩))∧Has w W.heap.size C w'.heap.size (keV d) w'∧Only NoneOf W w':=fun W pv h hp=>has_new w 60 (setW d) (setW_len d) pv W h hp
 obtain⟨idn,eid⟩:∃n,n=1+who % (1+off % 7):=⟨_,rfl⟩
 have hid0:1≤idn:=by omega
 have hidn:idn≤d.n:=by
  unfold Wd.n
  rw [←eoff]
  have:=Nat.mod_lt who (show 0<1+off % 7 by omega)
  omega
 have hid7:idn≤7:=Nat.le_trans hidn (wdn_le d)
 have eidI:(idn:Int)=1+ (who:Int) % (1+ (off:Int) % 7):=by rw [eid];push_cast;rfl
 have HS0:=Lib.hid hS0
 have EB:=Lib.hid eB
 have EWV:=Lib.hid eWV
 have EOFF:=Lib.hid eoff
 have HSAN:=Lib.hid hsan
 have HSET:=Lib.hid hset
 have HNEW:=Lib.hid hnew
 have HKD:=Lib.hid hkd
 have HT:=Lib.hid ht
 have HSV:=Lib.hid hsv
 have HSO:=Lib.hid hS
 have EID:=Lib.hid eidI
 obtain⟨sA,scap,rfl,hsl,hsm,_⟩:=id hsv
 clear hS0 eB eWV eoff hsan hset hnew hkd ht hsv hS eid eidI
 go_enter Tryz.func6,Tryz.ntmps6
 go_upto_region 1 with(fail)
 rw [←EB.out]
 refine wp_gen (fun Z=>Blk Z B tWd (wdC d kA kc)∧Only NoneOf w Z) HS0.out ?_
 clear HS0
 rintro Z ⟨hB,hO⟩
 have HZ:=Lib.hid (And.intro hB hO)
 clear hB hO
 go_wp2_with fail
 refine(HSAN.out _ HZ.out.2).mono ?_
 rintro e1 w1 ⟨rfl,ho1⟩
 have hB1:=HZ.out.1.only ho1 (fun e=>e)
 have l0:w1.cell? ⟨B,0,none⟩=some (.int .u8 (off:Int)):=by rw [EOFF.out];exact hB1.cell 0
 have H1:=Lib.hid (And.intro hB1 (HZ.out.2.trans ho1))
 have m7:¬(1+ (off:Int) % 7=0):=by omega
 have m8:0≤(who:Int) % (1+ (off:Int) % 7)∧(who:Int) % (1+ (off:Int) % 7) <7:=by have:=EID.out;omega
 obtain⟨m8,m9⟩:=m8
 clear hB1 ho1 HZ
 go_upto_region 3 with(fail)
 rw [←EID.out]
 have l1:=wd_load H1.out.1
 rw [←EWV.out] at l1
 clear l0 m7 m8 m9
 go_wp2_with fail
 refine(HSET.out _).mono ?_
 rintro e2 w2 ⟨pv,rfl,hp2,ho2⟩
 have H2:=Lib.hid (And.intro (H1.out.1.only ho2 (fun e=>e)) (And.intro (H1.out.2.trans ho2) (PerOwn.sl hp2)))
 clear ho2 hp2 H1 l1
 go_wp2_with fail
 refine(HNEW.out _ _ H2.out.2.1 H2.out.2.2).mono ?_
 rintro e3 w3 ⟨C,rfl,hh3,ho3⟩
 obtain⟨base,ebase⟩:∃b,b=w2.heap.size:=⟨_,rfl⟩
 obtain⟨Pb,ePb⟩:∃b,b=w3.heap.size:=⟨_,rfl⟩
 rw [←ebase,←ePb] at hh3
 have ho4:Only NoneOf w3 (w3.alloc (.cells #[.int .i64 0,.int .i64 0,.int .i64 0] tPs)):=(Only.refl _ _).alloc _
 have hb4:Blk (w3.alloc (.cells #[.int .i64 0,.int .i64 0,.int .i64 0] tPs)) Pb tPs (persC ⟨0,0,0⟩).toArray:=by rw [ePb];exact Blk.new w3 _ _
 have hB4:=(H2.out.1.only ho3 (fun e=>e)).only ho4 (fun e=>e)
 have hBb:B<base:=by rw [ebase];exact H2.out.1.lt
 have H4:=Lib.hid (And.intro hB4 (And.intro hb4 (hh3.keep ho4)))
 have EPB:=Lib.hid ePb
 clear hh3 ho3 ho4 hb4 hB4 ebase ePb H2 HNEW
 go_upto_region 5 with(fail)
 rw [←EPB.out]
 refine wp_gen (fun Z=>Blk Z B tWd (wdC d kA kc)∧Blk Z Pb tPs (persC ⟨0,0,0⟩).toArray∧Has w base C Pb (keV d) Z) H4.out ?_
 clear H4 EPB
 rintro Z ⟨z1,z2,z3⟩
 have l1:=wd_load z1
 rw [←EWV.out] at l1
 have HZ:=Lib.hid (And.intro z1 (And.intro z2 z3))
 clear z1 z2 z3
 go_wp2_with fail
 refine(HSET.out _).mono ?_
 rintro e5 w5 ⟨pv5,rfl,hp5,ho5⟩
 obtain⟨pA,pc,rfl,hpc1,hpc2⟩:=own_form' hp5
 obtain⟨N,eN⟩:∃N,N=(setW d).length:=⟨_,rfl⟩
 have hN1:N≤1000:=by rw [eN];exact setW_len d
 have hlt5:=HZ.out.2.1.lt
 have hwPb:=HZ.out.2.2.lo_top
 have hA0:FaA w B Pb base C Pb d kA kc (.slice pA (setW d).length pc) idn 0 w5:=⟨HZ.out.1.only ho5 (fun e=>e),⟨⟨0,0,0⟩,HZ.out.2.1.only ho5 (fun e=>e),.inl (fun p hp=>by simp at hp)⟩,HZ.out.2.2.keep ho5,⟨_,hp5,hlt5⟩,hBb,Nat.le_refl _,hwPb⟩
 rw [←eN] at hA0⊢
 have HA0:=Lib.hid hA0
 have EN:=Lib.hid eN
 have hfd:=field_pers pA N pc
 clear hp5 ho5 HZ hA0 l1 HSET eN hlt5 hwPb
 unfold setV
 go_wp2_with fail
 clear hfd
 go_loopw [38] (fun i wr=> ∃k:Nat,i= .int .i64 (k:Int)∧k≤N∧FaA w B Pb base C Pb d kA kc (.slice pA N pc) idn k wr) (fun i _=>N - (intOf i).toNat)
 case atStart=>exact⟨0,rfl,Nat.zero_le _,HA0.out⟩
 case round=>
  clear HA0
  obtain⟨k,rfl,hkN,hK⟩:=hrel
  by_cases hlt:k<N
  ·have dd:decide ((k:Int) < (N:Int))=true:=decide_eq_true (by omega)
   have ik:(k:Int) < (N:Int):=by omega
   have ik0:(0:Int)≤(k:Int):=by omega
   obtain⟨p,hp⟩:∃p,(setW d)[k]? =some p:=⟨_,List.getElem?_eq_getElem (by rw [←EN.out];exact hlt)⟩
   obtain⟨bq,hbq,_⟩:=hK.sl
   rw [EN.out] at hbq
   obtain⟨A',cap',e',_,_,hr⟩:=PerOwn.sl hbq
   obtain⟨g,o,hA,hg,hrp⟩:=hr k p hp
   simp only [Value.slice.injEq] at e'
   obtain⟨rfl, -,rfl⟩:=e'
   subst hA
   have c0:wr.cell? ⟨g,o+k * 3,none⟩=some (.int .i64 p.id):=hrp 0 _ rfl
   have c1:wr.cell? ⟨g,o+k * 3+1,none⟩=some (.int .i64 p.role):=hrp 1 _ rfl
   have c2:wr.cell? ⟨g,o+k * 3+2,none⟩=some (.int .i64 p.pub):=hrp 2 _ rfl
   have hst:=ps_store (Blk.new wr tPs #[.int .i64 0,.int .i64 0,.int .i64 0]) rfl p
   have ho7:Only NoneOf wr ((wr.alloc (.cells #[.int .i64 0,.int .i64 0,.int .i64 0] tPs)).setCells wr.heap.size 0 (persC p)):=only_setCells ((Only.refl _ _).alloc _) _ _ (.inr (Nat.le_refl _)) _
   have hb7:=ps_stored (Blk.new wr tPs #[.int .i64 0,.int .i64 0,.int .i64 0]) rfl p
   obtain⟨n0,en0⟩:∃n,n=wr.heap.size:=⟨_,rfl⟩
   have hK7:=hK.keep ho7
   rw [←en0] at hb7 hK7
   have H7:=Lib.hid (And.intro hK7 hb7)
   have EN0:=Lib.hid en0
   have HP:=Lib.hid hp
   clear hK hK7 hb7 ho7 hr hrp hbq hp en0
   go_upto_region 8 with(fail)
   rw [←EN0.out]
   refine wp_gen (fun W=>FaA w B Pb base C Pb d kA kc (.slice (some ⟨g,o,none⟩) N pc) idn k W∧Blk W n0 tPs (persC p).toArray) H7.out ?_
   clear H7 EN0 hst c0 c1 c2
   rintro Y ⟨y1,y2⟩
   obtain⟨c0,c1,c2⟩:=ps_load y2
   by_cases he:p.id=(idn:Int)
   ·have de:(p.id==(idn:Int))=true:=beq_iff_eq.2 he
    have hpo:=setW_id (List.mem_of_getElem? HP.out) hid7 he
    obtain⟨q,hq1,hq2⟩:=y1.ps
    have hst9:=ps_store hq1 rfl p
    have HK2:=Lib.hid (y1.hit hpo)
    clear y1 y2 hq1 hq2 hpo he
    go_wp2_with fail
    go_roundw
    case rel=>exact⟨k+1,by go_num,by omega,HK2.out⟩
    case measure=>simp [intOf];omega
   ·have de:(p.id==(idn:Int))=false:=beq_eq_false_iff_ne.2 he
    have HK2:=Lib.hid (y1.skip HP.out he)
    clear y1 y2
    go_wp2_with fail
    go_roundw
    case rel=>exact⟨k+1,by go_num,by omega,HK2.out⟩
    case measure=>simp [intOf];omega
  ·have dd:decide ((k:Int) < (N:Int))=false:=decide_eq_false (by omega)
   have hps:Blk wr Pb tPs (persC (offAt idn)).toArray:=by
    obtain⟨q,hq1,hq2⟩:=hK.ps
    rcases hq2 with hq2|rfl
    ·refine absurd rfl (hq2 (offAt idn) ?_)
     rw [List.take_of_length_le (by rw [←EN.out];omega)]
     exact setW_there hid0 hidn
    ·exact hq1
   obtain⟨mid,emid⟩:∃m,m=wr.heap.size:=⟨_,rfl⟩
   have hL0:FaL w B Pb base Pb mid C d kA kc idn (keV d) wr:=⟨hK.wd,hps,⟨hK.pb.1,Nat.le_refl _,by rw [emid];exact hps.lt⟩,_,by rw [emid];exact hK.cl.gap (Only.refl _ _)⟩
   have HL0:=Lib.hid hL0
   clear hK hps hL0 emid
   go_wp2_with fail
   clear dd hlt hkN
   go_loopw [13,14] (fun fv i wr=> ∃(k:Nat) (f:Bool) (s:Vw),fv= .bool f∧i= .int .i64 (k:Int)∧k≤16∧k≤S.length∧FaV d idn k f s∧FaL w B Pb base Pb mid C d kA kc idn s wr) (fun _ i _=>16 - (intOf i).toNat)
   case atStart=>exact⟨0,false,keV d,rfl,rfl,by omega,by omega,⟨rfl,Nat.le_refl _,hd0_small,fun _ v hv=> (by cases hv)⟩,HL0.out⟩
   case round=>
    clear HL0
    obtain⟨k,f,s,rfl,rfl,hk16,hkS,hV,hL⟩:=hrel
    have HV:=Lib.hid hV
    have HL:=Lib.hid hL
    clear hV hL
    by_cases hlt:k<S.length∧k<16
    ·obtain⟨hlt,hl16⟩:=hlt
     have d1:decide ((k:Int) < (S.length:Int))=true:=decide_eq_true (by omega)
     have d2:decide ((k:Int) <16)=true:=decide_eq_true (by omega)
     have ik:(k:Int) < (S.length:Int):=by omega
     have ik0:(0:Int)≤(k:Int):=by omega
     obtain⟨a,hak⟩:∃a,S[k]? =some a:=⟨_,List.getElem?_eq_getElem hlt⟩
     have haok:=HSO.out a (List.mem_of_getElem? hak)
     have how:Only NoneOf w wr:=by
      obtain⟨top,h1⟩:=HL.out.cl
      exact h1.only
     obtain⟨gA,oA,hgA,hrA⟩:∃g o,sA=some ⟨g,o,none⟩∧wr.rangeAt g (o+k * 9) (acC a).toList:=by
      obtain⟨A,cap,e9,_,_,h9⟩:=HSV.out.only how
      cases e9
      obtain⟨g,o,h1,_,h2⟩:=h9 k a hak
      exact⟨g,o,h1,h2⟩
     subst hgA
     have hac:=ac_ld hrA
     obtain⟨N1,eN1⟩:∃n,n=wr.heap.size:=⟨_,rfl⟩
     have hb1:Blk (wr.alloc (.cells (acC a) tAc)) N1 tAc (acC a):=by rw [eN1];exact Blk.new wr _ _
     have hL1:=HL.out.keep ((Only.refl _ wr).alloc (.cells (acC a) tAc))
     have hbl1:∃top,FaM w B Pb base mid C d kA kc idn s N1 top a (wr.alloc (.cells (acC a) tAc)):=by
      obtain⟨top,h1⟩:=HL.out.cl
      exact⟨top,hL1.wd,hL1.ps,hb1,h1.keep ((Only.refl _ wr).alloc _),by rw [eN1];exact h1.tp⟩
     obtain⟨top,hM1⟩:=hbl1
     have H1:=Lib.hid hM1
     have EN1:=Lib.hid eN1
     have HAO:=Lib.hid haok
     have HPB:=Lib.hid HL.out.pb
     clear hL1 hb1 hM1 eN1 haok how hrA hak HL
     go_upto_region 16 with(fail)
     rw [←EN1.out]
     refine wp_gen (FaM w B Pb base mid C d kA kc idn s N1 top a) H1.out ?_
     clear H1 EN1 hac
     intro Y hY
     have c4:Y.cell? ⟨N1,4,none⟩=some (.bool a.second):=hY.ac.cell 4
     go_upto_if 63 with(fail)
     go_cut [] from 63 to 70 (fun wx=>FaM w B Pb base mid C d kA kc idn s N1 top (actF a idn) wx)
     case first=>
      have c6:Y.cell? ⟨N1,6,none⟩=some (.int .u16 (a.wrong:Int)):=hY.ac.cell 6
      cases hsec:a.second with
      |true=>
       go_upto_region 17 with(fail)
       have f6:=hY.ac.frozen 6
       have hor:=or16 a.wrong idn HAO.out.wrong hid7
       have hb6:Blk (Y.setCell ⟨N1,6,none⟩ (.int .u16 (bits .or .u16 (a.wrong:Int) (IntKind.u16.wrap (2 ^ idn))))).drew N1 tAc (acC (actF a idn)):=by
        have h1:=Blk.set_ hY.ac 6 (.int .u16 (bits .or .u16 (a.wrong:Int) (IntKind.u16.wrap (2 ^ idn))))
        have e:(acC a).setIfInBounds 6 (.int .u16 (bits .or .u16 (a.wrong:Int) (IntKind.u16.wrap (2 ^ idn))))=acC (actF a idn):=by
         rw [hor]
         unfold actF
         rw [if_pos hsec]
         rfl
        rw [e] at h1
        exact h1.drew
       have HF:=Lib.hid (hY.put (((Only.refl (fun i=>i=N1) Y).setCell (p:=⟨N1,6,none⟩) (.inl rfl) (.int .u16 (bits .or .u16 (a.wrong:Int) (IntKind.u16.wrap (2 ^ idn))))).drew) hb6)
       clear hb6 hY hsec hor
       go_region
       go_wp2_with fail
       go_meet
       case rel=>exact HF.out
      |false=>
       have ha:actF a idn=a:=by unfold actF;rw [hsec];rfl
       have HY:=Lib.hid hY
       have HA:=Lib.hid ha
       clear hY ha hsec
       go_wp2_with fail
       go_meet
       case rel=>rw [HA.out];exact HY.out
     case rest=>
     have hM:=hcut
     obtain⟨a',ea'⟩:∃a',a'=actF a idn:=⟨_,rfl⟩
     rw [←ea'] at hM
     obtain⟨x,ex⟩:∃x,x=makeW d a':=⟨_,rfl⟩
     have hao:a'.Ok:=by rw [ea'];exact actF_ok HAO.out hid7
     have hxo:x.Ok:=by rw [ex];exact makeW_ok d a' hao
     have hld:=wd_load hM.wd
     rw [←EWV.out] at hld
     have hac:=ac_ld (blk_range (cs:=(acC a').toList) hM.ac)
     obtain⟨AV,eAV⟩:∃v:Array Value,v=acC a':=⟨_,rfl⟩
     rw [←eAV] at hac
     have hmk:Calls Tryz.prog 23 #[.agg WV,.agg AV] wc fun e w'=> ∃G gv rv,e= .returned (.agg (clL x.what x.bid (some ⟨G,0,none⟩) 1 x.ev gv rv).toArray)∧KeM wc.heap.size x G gv rv w'∧Only NoneOf wc w':=by
      rw [EWV.out,eAV,ex]
      refine(wmake_any d hd a' hao kA kc wc (HKD.out.none_ hM.cl.only) hkl (HT.out.none hM.cl.only)).mono ?_
      rintro e w' ⟨G,gv,rv,h1,h2,h3,h4,h5,h6⟩
      exact⟨G,gv,rv,h1,⟨h3,h2,h4,h5⟩,h6⟩
     have HMK:=Lib.hid hmk
     have HM:=Lib.hid hM
     have EX:=Lib.hid ex
     have EA:=Lib.hid ea'
     have HXO:=Lib.hid hxo
     have HAO2:=Lib.hid hao
     have hnw:=clNew_run
     clear hcut hM ex ea' hxo hao hmk eAV HAO
     go_wp2_with fail
     refine HMK.out.mono ?_
     rintro e3 w3 ⟨G,gv,rv,rfl,hk3,ho3⟩
     have hz:Blk (w3.alloc (.cells cl0.toArray tCl)) w3.heap.size tCl cl0.toArray:=Blk.new w3 _ _
     have hst:=cl_store (wh:=x.what) (b:=x.bid) (A:=some ⟨G,0,none⟩) (k:=1) (gv:=gv) (rv:=rv) hz cl0_len HXO.out.ev.prev hk3.one1 hk3.one2
     have hcl:=cl_stored (wh:=x.what) (b:=x.bid) (A:=some ⟨G,0,none⟩) (k:=1) (gv:=gv) (rv:=rv) hz cl0_len HXO.out.ev.prev
     have ho4:Only NoneOf w3 ((w3.alloc (.cells cl0.toArray tCl)).setCells w3.heap.size 0 (clL x.what x.bid (some ⟨G,0,none⟩) 1 x.ev gv rv)):=only_setCells ((Only.refl _ _).alloc _) _ _ (.inr (Nat.le_refl _)) _
     obtain⟨N2,eN2⟩:∃n,n=w3.heap.size:=⟨_,rfl⟩
     have hX4:FaX w B Pb base mid C d kA kc idn s N1 top a' N2 x G gv rv ((w3.alloc (.cells cl0.toArray tCl)).setCells N2 0 (clL x.what x.bid (some ⟨G,0,none⟩) 1 x.ev gv rv)):=by
      rw [eN2]
      exact⟨HM.out.keep (ho3.trans ho4),hcl,(hk3.lower HM.out.cl.tp).keep ho4⟩
     have H4:=Lib.hid hX4
     have EN2:=Lib.hid eN2
     clear hX4 ho4 hcl hz hk3 ho3 eN2 HMK HM hld hac
     go_upto_region 19 with(fail)
     rw [←EN2.out]
     refine wp_gen (FaX w B Pb base mid C d kA kc idn s N1 top a' N2 x G gv rv) H4.out ?_
     clear H4 EN2 hst hnw
     intro V hV
     obtain⟨vA,vc,rfl,_⟩:=own_form' hV.km.vt
     have v53:=cl_votes hV.cl HXO.out.ev.prev
     have HVV:=Lib.hid hV
     clear hV
     obtain⟨vn,evn⟩:∃n,n=x.votes.length:=⟨_,rfl⟩
     rw [←evn] at v53
     have hvn:vn≤1000:=by rw [evn];exact HXO.out.vlen
     have EVN:=Lib.hid evn
     clear evn
     go_wp2_with fail
     clear v53
     obtain⟨wo,rfl⟩:∃wo:World,wo=V:=⟨_,rfl⟩
     go_loopw [13,76] (fun fv i wr=> ∃j:Nat,i= .int .i64 (j:Int)∧j≤vn∧fv= .bool (forgO idn a' f (x.votes.take j))∧Only NoneOf wo wr) (fun _ i _=>vn - (intOf i).toNat)
     case atStart=>exact⟨0,rfl,Nat.zero_le _,by unfold forgO;simp,Only.refl _ _⟩
     case round=>
      obtain⟨j,rfl,hjn,rfl,hO⟩:=hrel
      obtain⟨β,eβ⟩:∃β,β=forgO idn a' f (x.votes.take j):=⟨_,rfl⟩
      rw [←eβ]
      have HB:=Lib.hid eβ
      have HO:=Lib.hid hO
      clear eβ hO
      by_cases hjl:j<vn
      ·have dj:decide ((j:Int) < (vn:Int))=true:=decide_eq_true (by omega)
       have ij:(j:Int) < (vn:Int):=by omega
       have ij0:(0:Int)≤(j:Int):=by omega
       obtain⟨v,hv⟩:∃v,x.votes[j]? =some v:=⟨_,List.getElem?_eq_getElem (by rw [←EVN.out];exact hjl)⟩
       have vo:=HXO.out.votes v (List.mem_of_getElem? hv)
       obtain⟨A',cap',hA',_,_,hr⟩:=(VtOwn.sl HVV.out.km.vt HXO.out.votes).only HO.out
       obtain⟨g,o,hA2,hg,hrv⟩:=hr j v hv
       simp only [Value.slice.injEq] at hA'
       obtain⟨rfl, -,rfl⟩:=hA'
       subst hA2
       have hvl:=vo.head.root
       have hld:=vt_load hrv hvl
       have hnw:=vtNew_run
       have hst:=vt_store (Blk.new wr tVt vt0C) (by kernel_rfl) hvl
       have ho5:Only NoneOf wr ((wr.alloc (.cells vt0C tVt)).setCells wr.heap.size 0 (vtC v)):=only_setCells ((Only.refl _ _).alloc _) _ _ (.inr (Nat.le_refl _)) _
       have hb5:VtAt ((wr.alloc (.cells vt0C tVt)).setCells wr.heap.size 0 (vtC v)) wr.heap.size v:=filled_whole (Blk.new wr tVt vt0C) (by rw [vtC_len hvl];rfl)
       have hstep:forgO idn a' f (x.votes.take (j+1))=(β||forgB idn a' v):=by
        rw [HB.out]
        unfold forgO
        rw [List.take_add_one,hv,Option.toList_some,List.any_append,Bool.or_assoc]
        simp
       obtain⟨N3,eN3⟩:∃n,n=wr.heap.size:=⟨_,rfl⟩
       rw [←eN3] at hb5
       have hox:Only NoneOf wo ((wr.alloc (.cells vt0C tVt)).setCells N3 0 (vtC v)):=by rw [eN3];exact HO.out.trans ho5
       have H5:=Lib.hid (And.intro hox hb5)
       have EN3:=Lib.hid eN3
       have HVO:=Lib.hid vo
       have HS:=Lib.hid hstep
       clear hr hrv hv vo ho5 hb5 hox hstep eN3 HO
       go_upto_region 22 with(fail)
       rw [←EN3.out]
       refine wp_gen (fun W=>Only NoneOf wo W∧VtAt W N3 v) H5.out ?_
       clear H5 EN3 hst hnw hld
       rintro Y5 ⟨hO,hv5⟩
       have HO:=Lib.hid hO
       cases β with
       |true=>
        have hn:forgO idn a' f (x.votes.take (j+1))=true:=by rw [HS.out,Bool.true_or]
        have HN:=Lib.hid hn
        clear hn hO hv5
        go_wp2_with fail
        go_roundw
        case rel=>exact⟨j+1,by go_num,by omega,by rw [HN.out],HO.out⟩
        case measure=>simp [intOf];omega
       |false=>
        have v0:Y5.cell? ⟨N3,0,none⟩=some (.int .i64 v.who):=hv5.cell 0
        have w6:Y5.cell? ⟨N1,6,none⟩=some (.int .u16 (a'.wrong:Int)):=hO.cell_some (HVV.out.m.ac.cell 6) (fun e=>e)
        cases hw:(v.who==(idn:Int)) with
        |false=>
         have hn:forgO idn a' f (x.votes.take (j+1))=false:=by rw [HS.out,Bool.false_or];unfold forgB;rw [hw];rfl
         have HN:=Lib.hid hn
         clear hn hO hv5
         go_wp2_with fail
         go_roundw
         case rel=>exact⟨j+1,by go_num,by omega,by rw [HN.out],HO.out⟩
         case measure=>simp [intOf];omega
        |true=>
         have hwe:v.who=(idn:Int):=beq_iff_eq.1 hw
         have by1:=bit16 a'.wrong idn
         cases hbw:bitW a'.wrong idn with
         |false=>
          rw [hbw] at by1
          have hn:forgO idn a' f (x.votes.take (j+1))=false:=by rw [HS.out,Bool.false_or];unfold forgB;rw [hbw];simp
          have HN:=Lib.hid hn
          clear hn hO hv5 hwe
          go_wp2_with fail
          go_roundw
          case rel=>exact⟨j+1,by go_num,by omega,by rw [HN.out],HO.out⟩
          case measure=>simp [intOf];omega
         |true=>
          rw [hbw] at by1
          obtain⟨γ,eγ⟩:∃γ,γ=cnts (offAt idn) v:=⟨_,rfl⟩
          have hn:forgO idn a' f (x.votes.take (j+1))=γ:=by rw [HS.out,Bool.false_or];unfold forgB;rw [hw,hbw,eγ];rfl
          obtain⟨pp,epp⟩:∃pp:Int,pp=(offAt idn).pub:=⟨_,rfl⟩
          have hct:Calls Tryz.prog 24 #[.agg #[.int .i64 (idn:Int),.int .i64 2,.int .i64 pp],.agg (vtC v).toArray] Y5 fun e w'=>e= .returned (.bool γ)∧Only NoneOf Y5 w':=by
           rw [eγ,epp]
           exact fcounts_any (offAt idn) (setW_ok d (offAt idn) (setW_there hid0 hidn)) v HVO.out Y5
          obtain⟨p0,p1,p2⟩:=ps_load (HVV.out.m.ps.only hO (fun e=>e))
          rw [←epp] at p2
          have p0':Y5.cell? ⟨Pb,0,none⟩=some (.int .i64 (idn:Int)):=p0
          have p1':Y5.cell? ⟨Pb,1,none⟩=some (.int .i64 2):=p1
          have hld:=vt_load (blk_range hv5) hvl
          have HCT:=Lib.hid hct
          have HN:=Lib.hid hn
          clear hn hO hv5 hct eγ epp p0 p1 hwe
          go_wp2_with fail
          refine HCT.out.mono ?_
          rintro e6 w6' ⟨rfl,ho6⟩
          have HO6:=Lib.hid (HO.out.trans ho6)
          clear ho6 p0' p1' p2 hld v0 w6
          go_wp2_with fail
          go_roundw
          case rel=>exact⟨j+1,by go_num,by omega,by rw [HN.out],HO6.out⟩
          case measure=>simp [intOf];omega
      ·obtain rfl:j=vn:=by omega
       have dj:decide ((j:Int) < (j:Int))=false:=decide_eq_false (by omega)
       have hXX:=HVV.out.keep HO.out
       have hβ:β=forgO idn a' f x.votes:=by rw [HB.out,EVN.out,List.take_length]
       have hld:=cl_load hXX.cl HXO.out.ev.prev
       have hqc:x.bid.qc= [4]:=by rw [EX.out];rfl
       have hP:=HV.out.P
       have hdo:Calls Tryz.prog 25 #[.pointer (some ⟨C,0,none⟩),.agg (clL x.what x.bid (some ⟨G,0,none⟩) 1 x.ev gv (.slice vA x.votes.length vc)).toArray] wr fun e w'=>e= .returned (.int .i64 (doRes s x))∧HasG w base Pb mid C w'.heap.size (doNext s x) w'∧NearH base Pb mid top wr w'∧SmallH (doNext s x).head:=
        hag_do w HT.out (by rw [hP];exact setW_ok d) (by rw [hP];exact setW_pub d) (by rw [hP];exact setW_len d) HV.out.head (by have:=HV.out.len;omega) x HXO.out _ 1 gv _ wr hXX.m.cl (by rw [hqc];exact com_int hXX.km.com) (hXX.km.pf.sl HXO.out.proof) (abT_own hXX.km.pf (Nat.le_refl _)) (hXX.km.vt.sl HXO.out.votes) (abT_own hXX.km.vt (Nat.le_refl _))
       have HDO:=Lib.hid hdo
       have HXX:=Lib.hid hXX
       have HBE:=Lib.hid hβ
       clear hXX hβ hdo hqc hP
       go_wp2_with fail
       refine HDO.out.mono ?_
       rintro e7 w7 ⟨rfl,hG7,hN7,hS7⟩
       have hV7:FaV d idn (k+1) β (doNext s x):=by
        rw [HBE.out,EX.out,EA.out]
        rw [EX.out,EA.out] at hS7
        exact HV.out.step hS7
       have hL7:FaL w B Pb base Pb mid C d kA kc idn (doNext s x) w7:=⟨hN7.blk HXX.out.m.wd (.inl HPB.out.1),hN7.blk HXX.out.m.ps (.inr (.inr HPB.out.2)),HPB.out,_,hG7⟩
       have HV7:=Lib.hid hV7
       have HL7:=Lib.hid hL7
       clear hG7 hN7 hS7 hV7 hL7 hld
       go_wp2_with fail
       go_roundw
       case rel=>exact⟨k+1,β,doNext s x,rfl,by go_num,by omega,by omega,HV7.out,HL7.out⟩
       case measure=>simp [intOf];omega
    ·have hcl:∃top,HasG w base Pb mid C top s wr:=HL.out.cl
     obtain⟨top,hG⟩:=hcl
     have hbl:=has_blames w HT.out (by rw [HV.out.P];exact setW_ok d) (by rw [HV.out.P];exact setW_len d) (by have:=HV.out.len;omega) wr hG.has
     have HBL:=Lib.hid hbl
     have HOW:=Lib.hid hG.only
     have hdd:(decide ((k:Int) < (S.length:Int))=false∧¬(k:Int) < (S.length:Int))∨(decide ((k:Int) < (S.length:Int))=true∧(k:Int) < (S.length:Int)∧decide ((k:Int) <16)=false∧¬(k:Int) <16):=by
      by_cases h1:k<S.length
      ·exact .inr ⟨decide_eq_true (by omega),by omega,decide_eq_false (by omega),by omega⟩
      ·exact .inl ⟨decide_eq_false (by omega),by omega⟩
     clear hbl hG hlt
     rcases hdd with⟨d1,i1⟩|⟨d1,i1,d2,i2⟩
     all_goals
      go_wp2_with fail
      refine HBL.out.mono ?_
      rintro e8 w8 ⟨ov,rfl,hov,ho8⟩
      obtain⟨bA,bcap,rfl,hbc1,hbc2,hbA⟩:=hov
      obtain⟨bn,ebn⟩:∃n,n=(blL s.P s.votes).length:=⟨_,rfl⟩
      have hbn:bn≤1000:=by
       rw [ebn]
       show(clashO agT s.votes (offs s.P)).length≤1000
       refine Nat.le_trans (clashO_len _ _ _) (Nat.le_trans (offs_len _) ?_)
       rw [HV.out.P]
       exact setW_len d
      rw [←ebn]
      have HBA:=Lib.hid hbA
      have EBN:=Lib.hid ebn
      have HO8:=Lib.hid (HOW.out.trans ho8)
      clear hbA ebn ho8 hbc1 HBL HOW HL
      go_wp2_with fail
      obtain⟨wo,rfl⟩:∃wo:World,wo=w8:=⟨_,rfl⟩
      go_loopw [107] (fun i wr=> ∃j:Nat,i= .int .i64 (j:Int)∧j≤bn∧Only NoneOf wo wr) (fun i _=>bn - (intOf i).toNat)
      case atStart=>exact⟨0,rfl,Nat.zero_le _,Only.refl _ _⟩
      case round=>
       obtain⟨j,rfl,hjn,hO⟩:=hrel
       by_cases hjl:j<bn
       ·have dj:decide ((j:Int) < (bn:Int))=true:=decide_eq_true (by omega)
        have ij:(j:Int) < (bn:Int):=by omega
        have ij0:(0:Int)≤(j:Int):=by omega
        obtain⟨b,hb⟩:∃b,(blL s.P s.votes)[j]? =some b:=⟨_,List.getElem?_eq_getElem (by rw [←EBN.out];exact hjl)⟩
        obtain⟨g,o,rfl,hg,hrb⟩:=HBA.out j b hb
        have b0:wr.cell? ⟨g,o+j * 4,none⟩=some (.int .i64 b.who):=hO.cell_some (hrb 0 _ rfl) (fun e=>e)
        have b1:wr.cell? ⟨g,o+j * 4+1,none⟩=some (.int .i64 44):=hO.cell_some (hrb 1 _ rfl) (fun e=>e)
        have b2:wr.cell? ⟨g,o+j * 4+2,none⟩=some (.string (vtT b.a)):=hO.cell_some (hrb 2 _ rfl) (fun e=>e)
        have b3:wr.cell? ⟨g,o+j * 4+3,none⟩=some (.string (vtT b.b)):=hO.cell_some (hrb 3 _ rfl) (fun e=>e)
        have HO:=Lib.hid hO
        have HMEM:=Lib.hid (List.mem_of_getElem? hb)
        clear hrb hb hO
        cases hw:(b.who==(idn:Int)) with
        |false=>
         clear HMEM
         go_wp2_with fail
         go_roundw
         case rel=>exact⟨j+1,by go_num,by omega,HO.out.trans ((Only.refl _ _).alloc _)⟩
         case measure=>simp [intOf];omega
        |true=>
         cases f with
         |false=>exact absurd (beq_iff_eq.1 hw) (HV.out.blame HMEM.out)
         |true=>
          clear HMEM
          go_wp2_with fail
          go_roundw
          case rel=>exact⟨j+1,by go_num,by omega,HO.out.trans ((Only.refl _ _).alloc _)⟩
          case measure=>simp [intOf];omega
       ·obtain rfl:j=bn:=by omega
        have dj:decide ((j:Int) < (j:Int))=false:=decide_eq_false (by omega)
        have HF:=Lib.hid (HO8.out.trans hO)
        clear hO
        go_wp2_with fail
        go_ret
        exact⟨rfl,HF.out⟩
end Go.Proofs.YtgalfohobgjelaaGreatDoor
namespace Go.Proofs.YtgalfohobgjelaaGreatDoor
open Go.ChangeShapes Go.WideShapes Go.ChangeAt Go.RowKit
theorem gPow:Tryz.prog.globalNamed pow10=some 3:=by kernel_rfl
theorem gPowType:(Tryz.prog.globals[3]?).map (·.type)=some 260:=by kernel_rfl
theorem cellsPow:Tryz.prog.cellsOf 260=20:=by kernel_rfl
theorem cellsU64:Tryz.prog.cellsOf 179=1:=by kernel_rfl
def listed:List (String×DataW Unit):= [("math/bits.deBruijn32tab",Rows.laid_math_bits_deBruijn32tab),("math/bits.deBruijn64tab",Rows.laid_math_bits_deBruijn64tab),("internal/strconv.uint64pow10",Rows.laid_internal_strconv_uint64pow10)]
theorem table {W:World} (h:laidMetH Tryz.prog listed W):Tab W:=by
 have h1:=h.filter (fun x=>x.1==pow10)
 have h2:laidMetH Tryz.prog [(pow10,Lib.tabData .u64 Lib.pow10Tab)] W:=h1
 exact Lib.tabIs_of_head (rest:= []) gPow gPowType Tryz.underlying260 Tryz.underlying179 cellsU64 cellsPow h2
def layCells (cs:Array Value):Obj→Obj
 | .cells _ t frozen=> .cells cs t frozen
 |o=>o
noncomputable def laidWorld (os:Os):World:=
 { World.holding Tryz.prog os ⟨#[], #[], []⟩ with heap:=(((World.holding Tryz.prog os ⟨#[], #[], []⟩).heap.modify 4 (layCells #[.int .u8 0,.int .u8 1,.int .u8 28,.int .u8 2,.int .u8 29,.int .u8 14,.int .u8 24,.int .u8 3,.int .u8 30,.int .u8 22,.int .u8 20,.int .u8 15,.int .u8 25,.int .u8 17,.int .u8 4,.int .u8 8,.int .u8 31,.int .u8 27,.int .u8 13,.int .u8 23,.int .u8 21,.int .u8 19,.int .u8 16,.int .u8 7,.int .u8 26,.int .u8 12,.int .u8 18,.int .u8 6,.int .u8 11,.int .u8 5,.int .u8 10,.int .u8 9])).modify 5 (layCells #[.int .u8 0,.int .u8 1,.int .u8 56,.int .u8 2,.int .u8 57,.int .u8 49,.int .u8 28,.int .u8 3,.int .u8 61,.int .u8 58,.int .u8 42,.int .u8 50,.int .u8 38,.int .u8 29,.int .u8 17,.int .u8 4,.int .u8 62,.int .u8 47,.int .u8 59,.int .u8 36,.int .u8 45,.int .u8 43,.int .u8 51,.int .u8 22,.int .u8 53,.int .u8 39,.int .u8 33,.int .u8 30,.int .u8 24,.int .u8 18,.int .u8 12,.int .u8 5,.int .u8 63,.int .u8 55,.int .u8 48,.int .u8 27,.int .u8 60,.int .u8 41,.int .u8 37,.int .u8 16,.int .u8 46,.int .u8 35,.int .u8 44,.int .u8 21,.int .u8 52,.int .u8 32,.int .u8 23,.int .u8 11,.int .u8 54,.int .u8 26,.int .u8 40,.int .u8 15,.int .u8 34,.int .u8 20,.int .u8 31,.int .u8 10,.int .u8 25,.int .u8 14,.int .u8 19,.int .u8 9,.int .u8 13,.int .u8 8,.int .u8 7,.int .u8 6])).modify 3 (layCells #[.int .u64 1,.int .u64 10,.int .u64 100,.int .u64 1000,.int .u64 10000,.int .u64 100000,.int .u64 1000000,.int .u64 10000000,.int .u64 100000000,.int .u64 1000000000,.int .u64 10000000000,.int .u64 100000000000,.int .u64 1000000000000,.int .u64 10000000000000,.int .u64 100000000000000,.int .u64 1000000000000000,.int .u64 10000000000000000,.int .u64 100000000000000000,.int .u64 1000000000000000000,.int .u64 10000000000000000000])}
end Go.Proofs.YtgalfohobgjelaaGreatDoor
