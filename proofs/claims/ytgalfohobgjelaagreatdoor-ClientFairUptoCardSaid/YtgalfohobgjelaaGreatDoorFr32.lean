/- What is proved here:several parts. paths of leaves that are not there;the bid of a number lies in a block of the call's own. No conditions. · heads and votes put into blocks that a region which draws its order makes anywhere. Conditions:roots have 32 bytes. · an act by numbers becomes a call. Conditions:the world's numbers are bytes;the table of powers of ten lies. -/
import Derived.Test.YtgalfohobgjelaaGreatDoorFr09
import Derived.Test.YtgalfohobgjelaaGreatDoorFr31
import Derived.Deep.DeepCutAuto
namespace Go.Proofs.YtgalfohobgjelaaGreatDoor
open Go.RowKit Go.Shelf
theorem rpath_out (i len cap:Nat) (A:Option Addr) (hi:len≤i) (_hl:len≤1000) (hi2:i≤1000) (w:World):
  Calls Tryz.prog 29 #[.slice A len cap,.int .i64 (i:Int)] w fun e w'=>e= .returned (.tuple #[.slice none 0 0,.bool false])∧Only NoneOf w w':=by
 have d1:decide ((i:Int) <0)=false:=decide_eq_false (by omega)
 have d2:decide ((len:Int)≤(i:Int))=true:=decide_eq_true (by omega)
 have i2:(len:Int)≤(i:Int):=by omega
 have hO:Only NoneOf w w.drew:=(Only.refl _ _).drew
 have hO1:Only NoneOf w w:=Only.refl _ _
 go_enter Tryz.func29,Tryz.ntmps29
 go_wp2_with fail
 go_ret2
 exact⟨rfl,by first|assumption|exact hO.drew⟩
set_option maxRecDepth 100000 in
set_option maxHeartbeats 1000000 in
theorem rbid31_own (n:Int) (hn:In n) (w:World):Calls Tryz.prog 31 #[.int .i64 n] w fun e w'=> ∃g,e= .returned (.agg (bdCells (bidW n) (some ⟨g,0,none⟩) none 1 0))∧w.heap.size≤g∧Blk w' g 3 #[.int .i64 4]∧Only NoneOf w w':=by
 have hmd:∀W,Calls Tryz.prog 16 #[.int .i64 n,.int .i64 4] W fun e w'=>e= .returned (.int .i64 (n % 4))∧w'=W:=fun W=>mod04_any n 4 hn (by omega) (by omega) W
 obtain⟨q,eq⟩:∃q:Nat,q=(n % 4).toNat:=⟨_,rfl⟩
 have hq:n % 4=(q:Int):=by omega
 have hq4:q<4:=by omega
 rw [hq] at hmd
 obtain⟨c,ec⟩:∃c,c=UInt8.ofNat (97+q):=⟨_,rfl⟩
 have hc:(c.toNat:Int)=97+ (q:Int):=by rw [ec];simp [UInt8.toNat_ofNat];omega
 have hqt:(bidW n).qt=⟨#[113]⟩ ++ ⟨#[c]⟩:=by
  show(⟨#[113,UInt8.ofNat (97+ (n % 4).toNat)]⟩:ByteArray)=_
  rw [←eq,←ec];rfl
 have w1:IntKind.i64.wrap (97+ (q:Int))=(c.toNat:Int):=by rw [←hc];exact IntWalk.i64_in _ (by have:=c.toNat_lt;omega)
 have w2:IntKind.u8.wrap (c.toNat:Int)=(c.toNat:Int):=by have:=c.toNat_lt;rw [IntKind.wrap_u8];omega
 have w3:(c.toNat:Int) % 256=(c.toNat:Int):=by have:=c.toNat_lt;omega
 have L1:(⟨[c].toArray⟩:ByteArray).size=1:=rfl
 have HMD:=Lib.hid hmd
 have HQT:=Lib.hid hqt
 unfold bdCells
 rw [hqt]
 clear hmd hq eq hc ec hqt
 have tok:True:=trivial
 have hby:BytesAt ((w.alloc (.cells #[.int .i64 0,.string ⟨#[]⟩,.slice none 0 0,.string ⟨#[]⟩,.slice none 0 0] tBid)).alloc (.cells #[.int .u8 (c.toNat:Int)] 5)) (w.heap.size+1) 0 [c]:=by
  have h:=blk_bytes (Blk.new (w.alloc (.cells #[.int .i64 0,.string ⟨#[]⟩,.slice none 0 0,.string ⟨#[]⟩,.slice none 0 0] tBid)) 5 ([c].map bv).toArray)
  rw [World.size_alloc] at h
  exact h
 have HBY:=Lib.hid hby
 clear hby
 go_enter Tryz.func31,Tryz.ntmps31
 go_wp2_with fail
 refine(HMD.out _).mono ?_
 rintro e1 v1 ⟨rfl,rfl⟩
 go_wp2_with (have _t:=tok;refine wpList_convert_back rfl 22 9 5 (.tmp 7) rfl (w.heap.size+1) 0 1 1 rfl [c] rfl HBY.out Tryz.underlying22 Tryz.underlying5 Tryz.underlying9 ?_;clear tok _t)
 have hinf:(Tryz.prog.info? tBid).map (·.size)=some 5:=by kernel_rfl
 refine bodyPost_ret (v:= .agg #[.int .i64 60,.string ((⟨#[113]⟩:ByteArray) ++ ⟨#[c]⟩),.slice (some ⟨w.heap.size+1+1,0,none⟩) 1 1,.string ⟨#[]⟩,.slice none 0 0]) (results_blk rfl rfl (((Blk.new w _ _).alloc _).alloc _) Tryz.underlying75 rfl (by simpa using hinf)) rfl ⟨w.heap.size+1+1,rfl,by omega,?_,(((Only.refl _ _).alloc _).alloc _).alloc _⟩
 have h:=Blk.new ((w.alloc (.cells #[.int .i64 60,.string ((⟨#[113]⟩:ByteArray) ++ ⟨#[c]⟩),.slice (some ⟨w.heap.size+1+1,0,none⟩) 1 1,.string ⟨#[]⟩,.slice none 0 0] tBid)).alloc (.cells #[.int .u8 (c.toNat:Int)] 5)) 3 #[.int .i64 4]
 rw [World.size_alloc,World.size_alloc] at h
 exact h
end Go.Proofs.YtgalfohobgjelaaGreatDoor
namespace Go.Proofs.YtgalfohobgjelaaGreatDoor
open Go.RowKit
def ZBl (t:TypeId) (cs:Array Value) (X W:World) (N:Nat):Prop:=Blk W N t cs∧X.heap.size≤N
section
variable {t:TypeId} {cs:Array Value} {X W W':World} {N M:Nat}
theorem ZBl.new (h:Only NoneOf X W):ZBl t cs X (W.alloc (.cells cs t)) W.heap.size:=⟨Blk.new W t cs,h.size⟩
theorem ZBl.newd (h:Only NoneOf X W):ZBl t cs X (W.alloc (.cells cs t)).drew W.heap.size:=⟨(Blk.new W t cs).drew,h.size⟩
theorem ZBl.step (h:ZBl t cs X W N) (ho:Only NoneOf W W'):ZBl t cs X W' N:=⟨Blk.only h.1 ho (fun e=>e),h.2⟩
theorem ZBl.keep (h:ZBl t cs X W N) (ho:Only NoneOf X W) (vs:List Value):Only NoneOf X (W.setCells N 0 vs):=only_setCells ho N 0 (.inr h.2) vs
end
end Go.Proofs.YtgalfohobgjelaaGreatDoor
namespace Go.Proofs.YtgalfohobgjelaaGreatDoor
open Go.RowKit Go.Shelf
def clBd (parts:Array (Nat×Value)):Sem Value:=Instr.build 81 parts
theorem clBd_eq (parts:Array (Nat×Value)):Instr.build 81 parts=clBd parts:=rfl
theorem clBd_run (wh:Int) (b:Bd) (A:Option Addr) (rA:Option Addr) (rn rc:Nat) (W:World) (_hp:b.pc.length=0):(clBd #[(0,.int .i64 wh),(1,.agg (bdCells b A none 1 0)),(4,.slice rA rn rc)]).run Tryz.prog W= .ok (.agg (clL wh b A 1 blank0 (.slice none 0 0) (.slice rA rn rc)).toArray) W:=
 run_build (P:=Tryz.prog) W 81 _ _ (by kernel_rfl)
attribute [local go_sem ↓ high] wdLoad_eq evLoad_eq evStore_eq clLoad_eq clStore_eq clNew_eq clBd_eq
structure MkW (w:World) (B:Nat) (d:Wd) (kA:Option Addr) (kc:Nat) (a:Ac) (W:World):Prop where
 wd:Blk W B tWd (wdC d kA kc)
 ac:Blk W (B+1) tAc (acC a)
 res:Blk W (B+2) tCl cl0.toArray
 only:Only NoneOf w W
theorem MkW.keep {w:World} {B:Nat} {d:Wd} {kA:Option Addr} {kc:Nat} {a:Ac} {W W':World} (h:MkW w B d kA kc a W) (ho:Only NoneOf W W'):MkW w B d kA kc a W':=
 ⟨h.wd.only ho (fun e=>e),h.ac.only ho (fun e=>e),h.res.only ho (fun e=>e),h.only.trans ho⟩
structure MkT (w:World) (B:Nat) (d:Wd) (kA:Option Addr) (kc:Nat) (a:Ac) (eA:Option Addr) (ec:Nat) (lA:Option Addr) (lc n:Nat) (W:World):Prop where
 arg:MkW w B d kA kc a W
 ev:EvSl W (.slice eA n ec) (evsW d a.second)
 l:StSl W (.slice lA n lc) (lvW d a.second)
theorem MkT.keep {w:World} {B:Nat} {d:Wd} {kA:Option Addr} {kc:Nat} {a:Ac} {eA:Option Addr} {ec:Nat} {lA:Option Addr} {lc n:Nat} {W W':World} (h:MkT w B d kA kc a eA ec lA lc n W) (ho:Only NoneOf W W'):MkT w B d kA kc a eA ec lA lc n W':=
 ⟨h.arg.keep ho,h.ev.only ho,h.l.only ho⟩
structure MkV (w X:World) (N G:Nat) (wh:Int) (b:Bd) (e:Ev) (gv rv:Value) (L:List Vt) (W:World):Prop where
 only:Only NoneOf X W
 nx:X.heap.size≤N
 cl:ClB W N wh b (some ⟨G,0,none⟩) 1 e gv rv
 lo:w.heap.size≤G
 com:Blk W G 3 #[.int .i64 4]
 own:VtOwn W w.heap.size rv L.length L
 ok:e.prev.length=32
section
variable {w X:World} {N G:Nat} {wh:Int} {b:Bd} {e e':Ev} {gv gv' rv:Value} {L:List Vt} {W W':World}
theorem MkV.keep (h:MkV w X N G wh b e gv rv L W) (ho:Only NoneOf W W'):MkV w X N G wh b e gv rv L W':=
 ⟨h.only.trans ho,h.nx,h.cl.only ho (fun e=>e),h.lo,h.com.only ho (fun e=>e),own_only h.own ho (fun _ _ e=>e),h.ok⟩
theorem MkV.put (h:MkV w X N G wh b e gv rv L W) (ho:Only (fun k=>k=N) W W') (hc:ClB W' N wh b (some ⟨G,0,none⟩) 1 e' gv' rv) (hk:e'.prev.length=32):MkV w X N G wh b e' gv' rv L W':=
 ⟨h.only.trans' ho (fun k hk e=>by have:=h.nx;omega),h.nx,hc,h.lo,h.com.only ho (fun e=>Blk.ne_ h.com h.cl (by decide) e),own_only h.own ho (fun k hk e=>own_blk_ne h.own h.cl (by decide) (by rw [hk,e])),hk⟩
theorem MkV.made {cs:List Value} (ho:Only NoneOf X W) (hz:ZBl tCl cl0.toArray X W N) (hlo:w.heap.size≤G) (hcom:Blk W G 3 #[.int .i64 4]) (hown:VtOwn W w.heap.size rv L.length L) (hcs:cs=clL wh b (some ⟨G,0,none⟩) 1 blank0 (.slice none 0 0) rv):MkV w X N G wh b blank0 (.slice none 0 0) rv L (W.setCells N 0 cs):=by
 subst hcs
 have h1:Only (fun k=>k=N) W (W.setCells N 0 (clL wh b (some ⟨G,0,none⟩) 1 blank0 (.slice none 0 0) rv)):=only_setCells (S:=fun k=>k=N) (Only.refl _ _) N 0 (.inl rfl) _
 exact⟨only_setCells ho N 0 (.inr hz.2) _,hz.2,cl_stored hz.1 cl0_len rfl,hlo,hcom.only h1 (fun e=>Blk.ne_ hcom hz.1 (by decide) e),own_only hown h1 (fun k hk e=>own_blk_ne hown hz.1 (by decide) (by rw [hk,e])),rfl⟩
structure MkG (w X:World) (N G:Nat) (wh:Int) (b:Bd) (e:Ev) (gv rv:Value) (L:List Vt) (Q:List Hs) (W:World):Prop where
 v:MkV w X N G wh b e gv rv L W
 pf:HaOwn W w.heap.size gv Q.length Q
theorem MkG.put {Q:List Hs} (h:MkG w X N G wh b e gv rv L Q W) (ho:Only (fun k=>k=N) W W') (hc:ClB W' N wh b (some ⟨G,0,none⟩) 1 e' gv rv) (hk:e'.prev.length=32):MkG w X N G wh b e' gv rv L Q W':=
 ⟨h.v.put ho hc hk,own_only h.pf ho (fun k hk e=>own_blk_ne h.pf h.v.cl (by decide) (by rw [hk,e]))⟩
theorem MkV.proof {Q:List Hs} (h:MkV w X N G wh b e gv rv L W) (hp:HaOwn W w.heap.size gv' Q.length Q):MkG w X N G wh b e gv' rv L Q (W.setCell ⟨N,52,none⟩ gv'):=by
 have h1:Only (fun k=>k=N) W (W.setCell ⟨N,52,none⟩ gv'):=(Only.refl (fun k=>k=N) W).setCell (p:=⟨N,52,none⟩) (.inl rfl) _
 exact⟨h.put h1 (cl_put_proof h.cl h.ok gv') h.ok,own_only hp h1 (fun k hk e=>own_blk_ne hp h.cl (by decide) (by rw [hk,e]))⟩
end
def slSt (p v:Value):Sem Unit:=Instr.storeAt 59 p v
theorem slSt_eq (p v:Value):Instr.storeAt 59 p v=slSt p v:=rfl
theorem slSt_run {w X:World} {N G:Nat} {wh:Int} {b:Bd} {e:Ev} {gv rv:Value} {L:List Vt} {W:World} (h:MkV w X N G wh b e gv rv L W) (A:Option Addr) (n c:Nat):(slSt (.pointer (some ⟨N,52,none⟩)) (.slice A n c)).run Tryz.prog W= .ok () (W.setCell ⟨N,52,none⟩ (.slice A n c)):=
 run_storeAt_mid (P:=Tryz.prog) W N 52 59 #[.slice A n c] (h.cl.there 52 1 (by simp [clL_len h.ok])) (by kernel_rfl) (all_oneCell_toArray (cs:= [.slice A n c]) (fun v hv=>by rw [List.mem_singleton.1 hv];rfl))
theorem zb_cl {X:World} {wh:Int} {b:Bd} {A:Option Addr} {rA:Option Addr} {rn rc:Nat} (W:World) (N:Nat) (hz:ZBl tCl cl0.toArray X W N):(clStore (.pointer (some ⟨N,0,none⟩)) (.agg (clL wh b A 1 blank0 (.slice none 0 0) (.slice rA rn rc)).toArray)).run Tryz.prog W= .ok () (W.setCells N 0 (clL wh b A 1 blank0 (.slice none 0 0) (.slice rA rn rc))):=cl_store hz.1 cl0_len rfl rfl rfl
attribute [local go_sem ↓ high] slSt_eq
theorem proofW_ok (d:Wd) (a:Ac):HsOk (proofW d a):=by
 unfold proofW
 simp only
 split
 ·exact growL_ok _ _
 ·split
  ·exact fun _ h=>by cases h
  ·split
   ·exact fun h hh=>pathF_ok _ _ _ h (List.mem_reverse.1 hh)
   ·exact fun _ h=>by cases h
theorem proofW_len (d:Wd) (a:Ac):(proofW d a).length≤1000:=by
 have h0:=lvW_le d a.second
 have h1:=Int.emod_lt_of_pos a.size (show(0:Int) < ((lvW d a.second).length:Int) +1 by omega)
 unfold proofW
 simp only
 split
 ·have h2:=growL_len (txs ((lvW d a.second).take (a.size % (((lvW d a.second).length:Int) +1)).toNat)) (a.from_ % (((a.size % (((lvW d a.second).length:Int) +1)).toNat:Int) +1)).toNat
  rw [txs_len,List.length_take] at h2
  omega
 ·split
  ·exact Nat.zero_le _
  ·split
   ·rw [List.length_reverse]
    have h2:=pathF_len (a.size % (((lvW d a.second).length:Int) +1)).toNat (txs ((lvW d a.second).take (a.size % (((lvW d a.second).length:Int) +1)).toNat)) (a.n % ((lvW d a.second).length:Int)).toNat
    omega
   ·exact Nat.zero_le _
set_option maxRecDepth 100000 in
set_option maxHeartbeats 4000000 in
theorem wmake_any (d:Wd) (hd:d.Ok) (a:Ac) (ha:a.Ok) (kA:Option Addr) (kc:Nat) (w:World) (hkd:KdAt w kA d.kinds) (hkl:d.kinds.length≤1000000000) (ht:Tab w):
  Calls Tryz.prog 23 #[.agg (wdC d kA kc),.agg (acC a)] w fun e' w'=> ∃(G:Nat) (gv rv:Value),e'= .returned (.agg (clL (makeW d a).what (makeW d a).bid (some ⟨G,0,none⟩) 1 (makeW d a).ev gv rv).toArray)∧w.heap.size≤G∧Blk w' G 3 #[.int .i64 4]∧HaOwn w' w.heap.size gv (makeW d a).proof.length (makeW d a).proof∧VtOwn w' w.heap.size rv (makeW d a).votes.length (makeW d a).votes∧Only NoneOf w w':=by
 obtain⟨B,eB⟩:∃B,B=w.heap.size:=⟨_,rfl⟩
 have hA0:MkW w B d kA kc a (((w.alloc (.cells (wdC d kA kc) tWd)).alloc (.cells (acC a) tAc)).alloc (.cells cl0.toArray tCl)):=by
  have h1:=(Blk.new (w.alloc (.cells (wdC d kA kc) tWd)) tAc (acC a)).alloc (.cells cl0.toArray tCl)
  have h2:=Blk.new ((w.alloc (.cells (wdC d kA kc) tWd)).alloc (.cells (acC a) tAc)) tCl cl0.toArray
  rw [World.size_alloc] at h1
  rw [World.size_alloc,World.size_alloc] at h2
  rw [eB]
  exact⟨((Blk.new w _ _).alloc _).alloc _,h1,h2,(((Only.refl _ _).alloc _).alloc _).alloc _⟩
 obtain⟨WV,eWV⟩:∃v:Array Value,v=wdC d kA kc:=⟨_,rfl⟩
 obtain⟨n,en⟩:∃n,n=(lvW d a.second).length:=⟨_,rfl⟩
 have hn:n≤12:=by rw [en];exact lvW_le d a.second
 have eev:(evsW d a.second).length=n:=by rw [en,lvW_len]
 have hevs:∀W,MkW w B d kA kc a W→Calls Tryz.prog 13 #[.agg WV,.bool a.second] W fun e' w'=> ∃A cap,e'= .returned (.slice A n cap)∧EvSl w' (.slice A n cap) (evsW d a.second)∧Only NoneOf W w':=fun W h=>by
  rw [eWV]
  exact(wevents_any d hd a.second kA kc W (hkd.none_ h.only) hkl (ht.none h.only)).mono (fun e' w' ⟨rv,h1,h2,h3⟩=>by
   have h4:=h2.sl (fun e he=> (evsW_ok he).1.prev)
   obtain⟨A,cap,rfl,h5⟩:=id h4
   rw [eev] at h1 h4
   exact⟨A,cap,h1,h4,h3⟩)
 have hlvs:∀W rv,EvSl W rv (evsW d a.second)→Calls Tryz.prog 12 #[rv] W fun e' w'=> ∃A cap,e'= .returned (.slice A n cap)∧StSl w' (.slice A n cap) (lvW d a.second)∧n≤cap∧Only NoneOf W w':=fun W rv h=>
  (rleaves_any (evsW d a.second) (fun e he=>evsW_ok he) (by have:=evsW_le d a.second;omega) rv W h).mono (fun e' w' ⟨lv,h1,h2,h3⟩=>by
   rw [eev] at h2
   obtain⟨A,cap,rfl,h4,h5⟩:=own_form' h2
   have h6:TxOwn w' W.heap.size (.slice A n cap) (lvW d a.second).length (lvW d a.second):=by rw [←en];exact h2
   exact⟨A,cap,h1,h6.sl,h4,h3⟩)
 obtain⟨sz,esz⟩:∃s:Nat,s=(a.size % ((n:Int) +1)).toNat:=⟨_,rfl⟩
 have hsz0:a.size % ((n:Int) +1)=(sz:Int):=by
  have:=Int.emod_nonneg a.size (show((n:Int) +1)≠0 by omega)
  omega
 have hszn:sz≤n:=by
  have:=Int.emod_lt_of_pos a.size (show(0:Int) < (n:Int) +1 by omega)
  omega
 obtain⟨wh,ewh⟩:∃m:Nat,m=(a.what % 6).toNat:=⟨_,rfl⟩
 have hwh0:a.what % 6=(wh:Int):=by omega
 have hwh:wh<6:=by omega
 obtain⟨b,eb⟩:∃b,b=bidW a.n:=⟨_,rfl⟩
 obtain⟨hh,ehh⟩:∃h,h=hdOf ((lvW d a.second).take sz):=⟨_,rfl⟩
 have hok:hh.Ok:=by rw [ehh];exact hdOf_ok (by rw [List.length_take];omega)
 have m1:∀W,Calls Tryz.prog 16 #[.int .i64 a.size,.int .i64 ((n:Int) +1)] W fun e w'=>e= .returned (.int .i64 (sz:Int))∧w'=W:=fun W=>by rw [←hsz0];exact mod04_any _ _ ha.size (by omega) (by omega) W
 have m2:∀W,Calls Tryz.prog 16 #[.int .i64 a.what,.int .i64 6] W fun e w'=>e= .returned (.int .i64 (wh:Int))∧w'=W:=fun W=>by rw [←hwh0];exact mod04_any _ _ ha.what (by omega) (by omega) W
 have hbid:∀W,Calls Tryz.prog 31 #[.int .i64 a.n] W fun e w'=> ∃g,e= .returned (.agg (bdCells b (some ⟨g,0,none⟩) none 1 0))∧W.heap.size≤g∧Blk w' g 3 #[.int .i64 4]∧Only NoneOf W w':=fun W=>by rw [eb];exact rbid31_own a.n ha.n W
 have HA0:=Lib.hid hA0
 have EB:=Lib.hid eB
 have EWV:=Lib.hid eWV
 have EN:=Lib.hid en
 have HEVS:=Lib.hid hevs
 have HLVS:=Lib.hid hlvs
 have ESZ:=Lib.hid esz
 have EWH:=Lib.hid hwh0
 have EBB:=Lib.hid eb
 have EHH:=Lib.hid ehh
 have HOK:=Lib.hid hok
 have M1:=Lib.hid m1
 have M2:=Lib.hid m2
 have HB:=Lib.hid hbid
 have HEV:=Lib.hid eev
 have hn1:IntKind.i64.wrap ((n:Int) +1)=(n:Int) +1:=IntWalk.i64_in _ (by omega)
 have HKD:=Lib.hid hkd
 have HT:=Lib.hid ht
 clear hA0 eB eWV en hevs hlvs esz hsz0 ewh hwh0 eb ehh hok m1 m2 hbid eev hkd ht
 go_enter Tryz.func23,Tryz.ntmps23
 have hnw:=clNew_run
 go_upto_region 1 with(fail)
 rw [←EB.out]
 refine wp_gen (MkW w B d kA kc a) HA0.out ?_
 clear HA0
 intro Z hZ
 have l1:=wd_load hZ.wd
 rw [←EWV.out] at l1
 have c4:=hZ.ac.cell 4
 simp only [List.getElem?_toArray,List.getElem?_cons_zero,List.getElem?_cons_succ] at c4
 have HZ:=Lib.hid hZ
 clear hZ
 go_wp2_with fail
 refine(HEVS.out _ HZ.out).mono ?_
 rintro e1 w1 ⟨eA,ec,rfl,he1,ho1⟩
 have H1:=Lib.hid (And.intro he1 (HZ.out.keep ho1))
 clear he1 ho1 l1 c4 HZ
 go_wp2_with fail
 refine(HLVS.out _ _ H1.out.1).mono ?_
 rintro e2 w2 ⟨lA,lc,rfl,hl2,hlc,ho2⟩
 have h2:MkT w B d kA kc a eA ec lA lc n w2:=⟨H1.out.2.keep ho2,H1.out.1.only ho2,hl2⟩
 have c2:=h2.arg.ac.cell 2
 simp only [List.getElem?_toArray,List.getElem?_cons_zero,List.getElem?_cons_succ] at c2
 have H2:=Lib.hid h2
 clear hl2 ho2 H1 h2
 go_wp2_with fail
 refine(M1.out _).mono ?_
 rintro e3 w3 ⟨rfl,rfl⟩
 clear c2
 go_upto_region 4 with(fail)
 have hbp:b.pc.length=0:=by rw [EBB.out];rfl
 obtain⟨X,eX⟩:∃X:World,X=w3:=⟨_,rfl⟩
 rw [←eX] at H2⊢
 clear eX
 have hS0:Only NoneOf X X:=Only.refl _ _
 have hS1:Only NoneOf X X.drew:=(Only.refl _ _).drew
 have hld:∀W,Only NoneOf X W→(wdLoad (.pointer (some ⟨B,0,none⟩))).run Tryz.prog W= .ok (.agg WV) W:=fun W h=>by rw [EWV.out];exact wd_load (H2.out.arg.keep h).wd
 have c0:∀W,Only NoneOf X W→W.cell? ⟨B+1,0,none⟩=some (.int .i64 a.what):=fun W h=> (H2.out.arg.keep h).ac.cell 0
 have c1:∀W,Only NoneOf X W→W.cell? ⟨B+1,1,none⟩=some (.int .i64 a.n):=fun W h=> (H2.out.arg.keep h).ac.cell 1
 have c5:∀W,Only NoneOf X W→W.cell? ⟨B+1,5,none⟩=some (.int .u16 (a.bits:Int)):=fun W h=> (H2.out.arg.keep h).ac.cell 5
 have c6:∀W,Only NoneOf X W→W.cell? ⟨B+1,6,none⟩=some (.int .u16 (a.wrong:Int)):=fun W h=> (H2.out.arg.keep h).ac.cell 6
 have k5:∀W,Only NoneOf X W→Calls Tryz.prog 15 #[.slice lA sz lc] W fun e' w'=>e'= .returned (.agg (hdC hh).toArray)∧Only NoneOf W w':=fun W h=>by
  have h1:=(H2.out.keep h).l.first (k:=sz) (by rw [←EN.out];exact hszn)
  rw [EHH.out]
  exact rheadof_any _ (by rw [List.length_take];omega) (short_take (lvW_short d a.second) sz) _ W h1
 obtain⟨vl,evl⟩:∃n,n=(votesW d hh a.bits a.wrong).length:=⟨_,rfl⟩
 have k6:∀W,Only NoneOf X W→Calls Tryz.prog 14 #[.agg WV,.agg (hdC hh).toArray,.int .u16 (a.bits:Int),.int .u16 (a.wrong:Int)] W fun e' w'=> ∃A cap,e'= .returned (.slice A vl cap)∧VtOwn w' w.heap.size (.slice A vl cap) vl (votesW d hh a.bits a.wrong)∧Only NoneOf W w':=fun W h=>by
  rw [EWV.out]
  exact(wvotes_any d hd hh HOK.out a.bits a.wrong ha.bits ha.wrong kA kc W).mono (fun e w' ⟨rv,g1,g2,g3⟩=>by
   obtain⟨A,cap,rfl,_⟩:=own_form' g2
   rw [←evl] at g1 g2
   exact⟨A,cap,g1,own_lower g2 (H2.out.arg.only.trans h).size,g3⟩)
 have HAL:Hid (∀W o,Only NoneOf X W→Only NoneOf X (W.alloc o)):=Lib.hid (fun W o h=>h.alloc _)
 have HALD:Hid (∀(W:World) o,Only NoneOf X W.drew→Only NoneOf X (W.alloc o).drew):=Lib.hid (fun W o h=>Only.alloc h o)
 have HSW:Hid (∀W,Only NoneOf X W→w.heap.size≤W.heap.size):=Lib.hid (fun W h=> (H2.out.arg.only.trans h).size)
 have z1:∀W,Only NoneOf X W→ZBl tCl cl0.toArray X (W.alloc (.cells cl0.toArray tCl)) W.heap.size:=fun W h=>ZBl.new h
 have k1:∀(W:World) N vs,ZBl tCl cl0.toArray X W N→Only NoneOf X W→Only NoneOf X (W.setCells N 0 vs):=fun W N vs hz ho=>ZBl.keep hz ho vs
 have a1:∀(W:World) o,Only NoneOf X W→Only NoneOf X (W.alloc o):=fun W o h=>h.alloc o
 have zd:ZBl tCl cl0.toArray X (X.alloc (.cells cl0.toArray tCl)).drew X.heap.size:=ZBl.newd hS0
 have zs:=fun(W:World) N A rA rn rc=>zb_cl (X:=X) (wh:=(wh:Int)) (b:=b) (A:=A) (rA:=rA) (rn:=rn) (rc:=rc) W N
 have hbr:=fun(A rA:Option Addr) (rn rc:Nat) (W:World)=>clBd_run (wh:Int) b A rA rn rc W hbp
 have K5:=Lib.hid k5
 have K6:=Lib.hid k6
 have EVL:=Lib.hid evl
 have iz0:(0:Int)≤(sz:Int):=by omega
 have iz1:(sz:Int)≤(lc:Int):=by omega
 clear k5 k6 evl hbp
 go_cut [8] (fun p wx=> ∃N G rv,p= .pointer (some ⟨N,0,none⟩)∧MkV w X N G wh b blank0 (.slice none 0 0) rv (votesW d hh a.bits a.wrong) wx)
 case first=>
  go_region_held3 (fun W=>Only NoneOf X W) (first|(with_reducible assumption)|(with_reducible exact HAL.out _ _ (by with_reducible assumption))|(with_reducible exact HALD.out _ _ (by with_reducible assumption))|(simp [*]))
   (first
    |(go_at_call 16;(with_reducible refine(M2.out _).mono ?_);rintro e6 w6 ⟨rfl,rfl⟩)
    |(go_at_call 31;(with_reducible refine(HB.out _).mono ?_);rintro e7 w7 ⟨G,rfl,hG,hb7,ho7⟩;have hGw:=Nat.le_trans (HSW.out _ (by with_reducible first|assumption|exact HALD.out _ _ (by with_reducible assumption))) hG;clear hG;have hS7:=Only.trans (by with_reducible first|assumption|exact HALD.out _ _ (by with_reducible assumption)) ho7;(try(have y1:ZBl tCl cl0.toArray X w7 X.heap.size:=ZBl.step zd ho7));clear ho7)
    |(go_at_call 15;(with_reducible refine(K5.out _ (by with_reducible first|assumption|exact HAL.out _ _ (by with_reducible assumption))).mono ?_);rintro e8 w8 ⟨rfl,ho8⟩;have hS8:=Only.trans (by with_reducible first|assumption|exact HAL.out _ _ (by with_reducible assumption)) ho8;(try(have y2:ZBl tCl cl0.toArray X w8 X.heap.size:=ZBl.step y1 ho8));(try(have y3:ZBl tCl cl0.toArray X w8 w7.heap.size:=ZBl.step (z1 w7 hS7) ho8));have hb8:=Blk.only (by first|exact hb7|exact hb7.alloc _) ho8 (fun e=>e);clear ho8)
    |(go_at_call 14;(with_reducible refine(K6.out _ (by with_reducible first|assumption|exact HAL.out _ _ (by with_reducible assumption))).mono ?_);rintro e9 w9 ⟨rA,rc,rfl,hv9,ho9⟩;have hS9:=Only.trans (by with_reducible first|assumption|exact HAL.out _ _ (by with_reducible assumption)) ho9;(try(have y4:ZBl tCl cl0.toArray X w9 X.heap.size:=ZBl.step y2 ho9));(try(have y5:ZBl tCl cl0.toArray X w9 w7.heap.size:=ZBl.step y3 ho9));(try(have y6:ZBl tCl cl0.toArray X w9 w8.heap.size:=ZBl.step (z1 w8 hS8) ho9));have hb9:=Blk.only (by first|exact hb8|exact hb8.alloc _) ho9 (fun e=>e);clear ho9))
  all_goals
   clear hnw zs c0 c1 c5 c6 hld hbr
   go_wp2_with fail
   go_meet
   case rel=>exact⟨_,_,_,rfl,MkV.made (by simp [*]) (by simp [*]) hGw (by first|exact hb9|exact hb9.alloc _) (by rw [EVL.out] at hv9⊢;first|exact hv9|exact World.ownsRow.alloc hv9 _) rfl⟩
 case rest=>
 obtain⟨N,G,rv,rfl,hV⟩:=hcut
 obtain⟨L,eL⟩:∃L,L=votesW d hh a.bits a.wrong:=⟨_,rfl⟩
 rw [←eL] at hV
 have HV:=Lib.hid hV
 have EL:=Lib.hid eL
 clear eL hS0 hS1 hld c0 c1 c5 c6 HAL HALD HSW z1 k1 a1 zd zs hbr K5 K6 hnw
 have d0:=cl_what hV.cl
 have hwi:(wh:Int) <4 ↔ wh<4:=by omega
 clear hV
 obtain⟨fm,efm⟩:∃f:Nat,f=(a.from_ % ((sz:Int) +1)).toNat:=⟨_,rfl⟩
 have hfm0:a.from_ % ((sz:Int) +1)=(fm:Int):=by
  have:=Int.emod_nonneg a.from_ (show((sz:Int) +1)≠0 by omega)
  omega
 have hfms:fm≤sz:=by
  have:=Int.emod_lt_of_pos a.from_ (show(0:Int) < (sz:Int) +1 by omega)
  omega
 obtain⟨Q1,eQ1⟩:∃Q:List Hs,Q=if wh<4 then growL (txs ((lvW d a.second).take sz)) fm else []:=⟨_,rfl⟩
 have m3:∀W,Calls Tryz.prog 16 #[.int .i64 a.from_,.int .i64 ((sz:Int) +1)] W fun e w'=>e= .returned (.int .i64 (fm:Int))∧w'=W:=fun W=>by rw [←hfm0];exact mod04_any _ _ ha.from_ (by omega) (by omega) W
 have grw:wh<4→∀W,Only NoneOf X W→Calls Tryz.prog 21 #[.slice lA sz lc,.int .i64 (fm:Int)] W fun e w'=> ∃A cap,e= .returned (.tuple #[.slice A Q1.length cap,.bool true])∧HaOwn w' w.heap.size (.slice A Q1.length cap) Q1.length Q1∧Only NoneOf W w':=fun h4 W h=>by
  have h1:=(H2.out.keep h).l.first (k:=sz) (by rw [←EN.out];exact hszn)
  rw [if_pos h4] at eQ1
  refine(rgrowth_any _ fm (by rw [List.length_take,←EN.out];omega) (by rw [List.length_take];omega) (short_take (lvW_short d a.second) sz) _ W h1).mono ?_
  rintro e w' ⟨gv,g1,g2,g3⟩
  rw [←eQ1] at g2
  obtain⟨A,cap,rfl,_⟩:=own_form' g2
  exact⟨A,cap,g1,own_lower g2 (H2.out.arg.only.trans h).size,g3⟩
 have EQ1:=Lib.hid eQ1
 have EFM:=Lib.hid efm
 have M3:=Lib.hid m3
 have GRW:=Lib.hid grw
 have HXC:Hid (∀W v,Only NoneOf X W→Only NoneOf X (W.setCell ⟨N,52,none⟩ v)):=Lib.hid (fun W v h=>h.setCell (p:=⟨N,52,none⟩) (.inr HV.out.nx) v)
 have hs1:IntKind.i64.wrap ((sz:Int) +1)=(sz:Int) +1:=IntWalk.i64_in _ (by omega)
 clear eQ1 efm hfm0 m3 grw
 go_upto_if 41 with(fail)
 go_cut [] (fun wx=> ∃gv,MkG w X N G wh b blank0 gv rv L Q1 wx)
 case first=>
  by_cases h4:wh<4
  ·have dd:decide ((wh:Int) <4)=true:=decide_eq_true (by omega)
   go_upto_region 6 with(fail)
   have hS0:Only NoneOf X wc:=HV.out.only
   have hS1:Only NoneOf X wc.drew:=HV.out.only.drew
   have c3:∀W,Only NoneOf X W→W.cell? ⟨B+1,3,none⟩=some (.int .i64 a.from_):=fun W h=> (H2.out.arg.keep h).ac.cell 3
   have hst:∀W A n c,MkV w X N G wh b blank0 (.slice none 0 0) rv L W→(slSt (.pointer (some ⟨N,52,none⟩)) (.slice A n c)).run Tryz.prog W= .ok () (W.setCell ⟨N,52,none⟩ (.slice A n c)):=fun W A n c h=>slSt_run h A n c
   have G4:=Lib.hid (GRW.out h4)
   clear d0 hwi
   go_region_held3 (fun W=>Only NoneOf X W) (first|(with_reducible assumption)|(with_reducible exact HXC.out _ _ (by with_reducible assumption))|(simp [*]))
    (first
     |(go_at_call 16;(with_reducible refine(M3.out _).mono ?_);rintro e6 w6 ⟨rfl,rfl⟩)
     |(go_at_call 21;(with_reducible refine(G4.out _ (by with_reducible assumption)).mono ?_);rintro e7 w7 ⟨gA,gc,rfl,hq7,ho7⟩;have hV7:=MkV.keep (MkV.keep HV.out (Only.refl NoneOf _).drew) ho7;have hS7:=hV7.only;clear ho7))
   all_goals
    clear hst c3
    go_wp2_with fail
    go_meet
    case rel=>exact⟨_,MkV.proof hV7 hq7⟩
  ·have dd:decide ((wh:Int) <4)=false:=decide_eq_false (by omega)
   have hG:MkG w X N G wh b blank0 (.slice none 0 0) rv L Q1 wc:=⟨HV.out,by rw [EQ1.out,if_neg h4];exact HaOwn.nil _ _⟩
   have HG:=Lib.hid hG
   clear hG hwi
   go_wp2_with fail
   go_meet
   case rel=>exact⟨_,HG.out⟩
 case rest=>
 obtain⟨gv1,hG1⟩:=hcut
 have d0:=cl_what hG1.v.cl
 have HG1:=Lib.hid hG1
 clear hG1 HV M3 GRW
 obtain⟨E,eE⟩:∃E,E=eventW d a:=⟨_,rfl⟩
 obtain⟨P,eP⟩:∃P,P=proofW d a:=⟨_,rfl⟩
 have EE:=Lib.hid eE
 have EP:=Lib.hid eP
 clear eE eP
 obtain⟨cb,ecb⟩:∃c:Bool,c=decide (4≤wh∧n≠0):=⟨_,rfl⟩
 go_upto_region 7 with(fail)
 go_cut [62] (fun c wx=>c= .bool cb∧MkG w X N G wh b blank0 gv1 rv L Q1 wx)
 case first=>
  by_cases h4:wh<4
  ·have dd:decide ((4:Int)≤(wh:Int))=false:=decide_eq_false (by omega)
   have hc:cb=false:=by rw [ecb];exact decide_eq_false (by omega)
   clear hwi ecb
   go_wp2_with fail
   go_meet
   case rel=>exact⟨by rw [hc],HG1.out⟩
  ·have dd:decide ((4:Int)≤(wh:Int))=true:=decide_eq_true (by omega)
   by_cases hn0:n=0
   ·have d2:decide ((0:Int) < (n:Int))=false:=decide_eq_false (by omega)
    have d3:decide (0<n)=false:=decide_eq_false (by omega)
    have hc:cb=false:=by rw [ecb];exact decide_eq_false (by omega)
    clear hwi ecb hn0
    go_wp2_with fail
    go_meet
    case rel=>exact⟨by rw [hc],HG1.out⟩
   ·have d2:decide ((0:Int) < (n:Int))=true:=decide_eq_true (by omega)
    have d3:decide (0<n)=true:=decide_eq_true (by omega)
    have hc:cb=true:=by rw [ecb];exact decide_eq_true (by omega)
    clear hwi ecb hn0
    go_wp2_with fail
    go_meet
    case rel=>exact⟨by rw [hc],HG1.out⟩
 case rest=>
 obtain⟨rfl,hG1⟩:=hcut
 have HG1:=Lib.hid hG1
 clear hG1 d0
 go_upto_if 62 with(fail)
 go_cut [] (fun wx=> ∃gv,MkG w X N G wh b E gv rv L P wx)
 case first=>
  by_cases hc:4≤wh∧n≠0
  ·have hc1:cb=true:=by rw [ecb];exact decide_eq_true hc
   obtain⟨h4,hn0⟩:=hc
   clear ecb hwi
   subst hc1
   obtain⟨m,em⟩:∃m:Nat,m=(a.n % (n:Int)).toNat:=⟨_,rfl⟩
   have hm0:a.n % (n:Int)=(m:Int):=by
    have:=Int.emod_nonneg a.n (show(n:Int)≠0 by omega)
    omega
   have hmn:m<n:=by
    have:=Int.emod_lt_of_pos a.n (show(0:Int) < (n:Int) by omega)
    omega
   obtain⟨e0,he0⟩:∃e,(evsW d a.second)[m]? =some e:=⟨_,List.getElem?_eq_getElem (by rw [HEV.out];exact hmn)⟩
   have heo:=(evsW_ok (List.mem_of_getElem? he0)).1.prev
   have hts:=(evsW_ok (List.mem_of_getElem? he0)).2.2
   have L1:(⟨#[32]⟩:ByteArray).size=1:=rfl
   obtain⟨Q2,eQ2⟩:∃Q:List Hs,Q=if m<sz then(pathF sz (txs ((lvW d a.second).take sz)) m).reverse else []:=⟨_,rfl⟩
   have hP:P=Q2:=by
    rw [EP.out,eQ2]
    unfold proofW
    simp only [EWH.out,←EN.out]
    rw [if_neg (by omega),if_neg hn0,←em,←ESZ.out]
   have hE:E=if a.n.tmod 7=6 then { e0 with text:=e0.text++ ⟨#[32]⟩} else e0:=by
    rw [EE.out]
    unfold eventW
    rw [if_neg (by rw [EWH.out,←EN.out];omega),←EN.out,←em,he0]
    rfl
   have m4:∀W,Calls Tryz.prog 16 #[.int .i64 a.n,.int .i64 (n:Int)] W fun e w'=>e= .returned (.int .i64 (m:Int))∧w'=W:=fun W=>by rw [←hm0];exact mod04_any _ _ ha.n (by omega) (by omega) W
   have pth:∀W,Only NoneOf X W→Calls Tryz.prog 29 #[.slice lA sz lc,.int .i64 (m:Int)] W fun e w'=> ∃A cap ok,e= .returned (.tuple #[.slice A Q2.length cap,.bool ok])∧HaOwn w' w.heap.size (.slice A Q2.length cap) Q2.length Q2∧Only NoneOf W w':=fun W h=>by
    have h1:=(H2.out.keep h).l.first (k:=sz) (by rw [←EN.out];exact hszn)
    by_cases hms:m<sz
    ·rw [if_pos hms] at eQ2
     refine(rpath_any sz _ m (by rw [List.length_take];omega) (by omega) (short_take (lvW_short d a.second) sz) (by rw [List.length_take,←EN.out];omega) _ W h1).mono ?_
     rintro e w' ⟨gv,g1,g2,g3⟩
     have g4:HaOwn w' W.heap.size gv Q2.length Q2:=by rw [eQ2,List.length_reverse];exact g2
     obtain⟨A,cap,rfl,_⟩:=own_form' g4
     exact⟨A,cap,true,g1,own_lower g4 (H2.out.arg.only.trans h).size,g3⟩
    ·rw [if_neg hms] at eQ2
     rw [eQ2]
     exact(rpath_out m sz lc lA (by omega) (by omega) (by omega) W).mono (fun e w' ⟨g1,g2⟩=> ⟨none,0,false,g1,HaOwn.nil _ _,g2⟩)
   have c1:=(H2.out.arg.keep HG1.out.v.only).ac.cell 1
   simp only [List.getElem?_toArray,List.getElem?_cons_zero,List.getElem?_cons_succ] at c1
   have M4:=Lib.hid m4
   have PTH:=Lib.hid pth
   have HE:=Lib.hid hE
   have HP:=Lib.hid hP
   have HEO:=Lib.hid heo
   have HM:=Lib.hid he0
   clear m4 pth hE hP hm0 em eQ2 heo
   go_wp2_with fail
   refine(M4.out _).mono ?_
   rintro e4 w4 ⟨rfl,rfl⟩
   obtain⟨gE,oE,hgE,hrE⟩:∃g o,eA=some ⟨g,o,none⟩∧w4.rangeAt g (o+m * 46) (evC e0):=by
    obtain⟨A,cap,e9,_,_,h9⟩:=(H2.out.keep HG1.out.v.only).ev
    cases e9
    obtain⟨g,o,h1,_,h2⟩:=h9 m e0 he0
    exact⟨g,o,h1,h2⟩
   subst hgE
   have hle:=ev_load_at hrE HEO.out
   have hse:=cl_store_ev HG1.out.v.cl HG1.out.v.ok HEO.out
   have im:(m:Int) < (n:Int):=by omega
   have im0:(0:Int)≤(m:Int):=by omega
   have h9:MkG w X N G wh b e0 gv1 rv L Q1 (w4.setCells N 6 (evC e0)):=HG1.out.put (only_setCells (S:=fun k=>k=N) (Only.refl _ _) N 6 (.inl rfl) _) (cl_put_ev HG1.out.v.cl HG1.out.v.ok HEO.out) HEO.out
   have H9:=Lib.hid h9
   clear h9 hrE he0 c1
   go_upto_region 10 with(fail)
   refine wp_gen (MkG w X N G wh b e0 gv1 rv L Q1) H9.out ?_
   clear H9 hle hse
   intro Y hY
   have HY:=Lib.hid hY
   have hst:∀W A n c,MkV w X N G wh b e0 gv1 rv L W→(slSt (.pointer (some ⟨N,52,none⟩)) (.slice A n c)).run Tryz.prog W= .ok () (W.setCell ⟨N,52,none⟩ (.slice A n c)):=fun W A n c h=>slSt_run h A n c
   have HST:=Lib.hid hst
   clear hY hst
   go_wp2_with fail
   refine(PTH.out _ HY.out.v.only).mono ?_
   rintro e5 w5 ⟨pA,pc,pk,rfl,hp5,ho5⟩
   have h5:=HY.out.v.keep ho5
   have hs5:=HST.out w5 pA Q2.length pc h5
   have h6:=h5.proof hp5
   have c1:=(H2.out.arg.keep h6.v.only).ac.cell 1
   simp only [List.getElem?_toArray,List.getElem?_cons_zero,List.getElem?_cons_succ] at c1
   have t1:=cl_text h6.v.cl
   have t2:=h6.v.cl.frozen 15
   have H6:=Lib.hid h6
   have tm0:IntKind.i64.wrap (a.n.tmod 7)=a.n.tmod 7:=IntWalk.i64_in _ (by
    have h1:=Int.lt_tmod_of_pos a.n (show(0:Int) <7 by omega)
    have h2:=Int.tmod_lt_of_pos a.n (show(0:Int) <7 by omega)
    omega)
   clear h5 h6 hp5 ho5
   by_cases h7:a.n.tmod 7=6
   ·have tm1:(a.n.tmod 7==6)=true:=by rw [beq_iff_eq];exact h7
    have h8:MkG w X N G wh b { e0 with text:=e0.text++ ⟨#[32]⟩} (.slice pA Q2.length pc) rv L Q2 ((w5.setCell ⟨N,52,none⟩ (.slice pA Q2.length pc)).setCell ⟨N,15,none⟩ (.string (e0.text++ ⟨#[32]⟩))):=H6.out.put ((Only.refl (fun k=>k=N) _).setCell (p:=⟨N,15,none⟩) (.inl rfl) _) (cl_put_text H6.out.v.cl _) HEO.out
    have hE2:=HE.out
    rw [if_pos h7] at hE2
    have H8:=Lib.hid h8
    have HE2:=Lib.hid hE2
    clear h8 hE2 h7
    go_wp2_with fail
    go_meet
    case rel=>exact⟨_,by rw [HE2.out,HP.out];exact H8.out⟩
   ·have tm1:(a.n.tmod 7==6)=false:=by rw [beq_eq_false_iff_ne];exact h7
    have hE2:=HE.out
    rw [if_neg h7] at hE2
    have HE2:=Lib.hid hE2
    clear hE2 h7
    go_wp2_with fail
    go_meet
    case rel=>exact⟨_,by rw [HE2.out,HP.out];exact H6.out⟩
  ·have hc0:cb=false:=by rw [ecb];exact decide_eq_false hc
   have hE:E=blank0:=by
    rw [EE.out]
    unfold eventW
    rw [if_pos (by rw [EWH.out,←EN.out];omega)]
   have hP:P=Q1:=by
    rw [EP.out,EQ1.out]
    unfold proofW
    simp only [EWH.out,←EN.out]
    by_cases h4:wh<4
    ·rw [if_pos h4,if_pos (by omega),EFM.out,ESZ.out]
    ·rw [if_neg h4,if_neg (by omega),if_pos (by omega)]
   clear hwi ecb hc
   subst hc0
   have HEE:=Lib.hid hE
   have HPP:=Lib.hid hP
   clear hE hP
   go_wp2_with fail
   go_meet
   case rel=>exact⟨_,by rw [HEE.out,HPP.out];exact HG1.out⟩
 case rest=>
 obtain⟨gv2,hG2⟩:=hcut
 have b7:=(H2.out.arg.keep hG2.v.only).ac.cell 7
 have b8:=(H2.out.arg.keep hG2.v.only).ac.cell 8
 simp only [List.getElem?_toArray,List.getElem?_cons_zero,List.getElem?_cons_succ] at b7 b8
 have HG2:=Lib.hid hG2
 clear hG2 HG1
 obtain⟨P2,eP2⟩:∃Q:List Hs,Q=if 0≤a.b0 then bentL P a.b0 a.b1 else P:=⟨_,rfl⟩
 have hpok:HsOk P:=by rw [EP.out];exact proofW_ok d a
 have hpl:P.length≤1000:=by rw [EP.out];exact proofW_len d a
 have HPO:=Lib.hid hpok
 have HPL:=Lib.hid hpl
 have EP2:=Lib.hid eP2
 clear hpok hpl eP2
 obtain⟨zb,ezb⟩:∃c:Bool,decide (0≤a.b0)=c:=⟨_,rfl⟩
 go_upto_if 95 with(fail)
 go_cut [] (fun wx=> ∃gv,MkG w X N G wh b E gv rv L P2 wx)
 case first=>
  obtain⟨g2A,g2c,rfl,_⟩:=own_form' HG2.out.pf
  by_cases h0:0≤a.b0
  ·have hz:zb=true:=by rw [←ezb];exact decide_eq_true h0
   clear ezb
   subst hz
   have p52:=cl_proof HG2.out.v.cl HG2.out.v.ok
   have hq2:P2=bentL P a.b0 a.b1:=by rw [EP2.out,if_pos h0]
   have hsl:=HG2.out.pf.sl HPO.out
   have bnt:∀W,Only NoneOf X W→HaSl W (.slice g2A P.length g2c) P→Calls Tryz.prog 52 #[.slice g2A P.length g2c,.agg #[.int .i64 a.b0,.int .i64 a.b1]] W fun e w'=> ∃A cap,e= .returned (.slice A P2.length cap)∧HaOwn w' w.heap.size (.slice A P2.length cap) P2.length P2∧Only NoneOf W w':=fun W ho h=>by
    refine(bent_any P HPO.out HPL.out _ a.b0 a.b1 ha.b0 ha.b1 W h).mono ?_
    rintro e w' ⟨rv,g1,g2,g3⟩
    rw [←hq2] at g2
    obtain⟨A,cap,rfl,_⟩:=own_form' g2
    exact⟨A,cap,g1,own_lower g2 (H2.out.arg.only.trans ho).size,g3⟩
   have HBN:=Lib.hid bnt
   have HSL:=Lib.hid hsl
   have hst:∀W A n c,MkV w X N G wh b E (.slice g2A P.length g2c) rv L W→(slSt (.pointer (some ⟨N,52,none⟩)) (.slice A n c)).run Tryz.prog W= .ok () (W.setCell ⟨N,52,none⟩ (.slice A n c)):=fun W A n c h=>slSt_run h A n c
   have HST:=Lib.hid hst
   clear bnt hsl hst hq2 h0
   go_wp2_with fail
   refine(HBN.out _ HG2.out.v.only HSL.out).mono ?_
   rintro e6 w6 ⟨pA,pc,rfl,hp6,ho6⟩
   have h6:=HG2.out.v.keep ho6
   have hs6:=HST.out w6 pA P2.length pc h6
   have h7:=h6.proof hp6
   have H7:=Lib.hid h7
   clear h6 h7 hp6 ho6 p52
   go_wp2_with fail
   go_meet
   case rel=>exact⟨_,H7.out⟩
  ·have hz:zb=false:=by rw [←ezb];exact decide_eq_false h0
   clear ezb
   subst hz
   have hq2:P2=P:=by rw [EP2.out,if_neg h0]
   have HQ2:=Lib.hid hq2
   clear hq2 h0
   go_wp2_with fail
   go_meet
   case rel=>exact⟨_,by rw [HQ2.out];exact HG2.out⟩
 case rest=>
 obtain⟨gv3,hG3⟩:=hcut
 obtain⟨g3A,g3c,rfl,_⟩:=own_form' hG3.pf
 obtain⟨rA,rc,rfl,_⟩:=own_form' hG3.v.own
 have hld:=cl_load hG3.v.cl hG3.v.ok
 have hrs:=(H2.out.arg.keep hG3.v.only).res
 have hst:(clStore (.pointer (some ⟨B+2,0,none⟩)) (.agg (clL (wh:Int) b (some ⟨G,0,none⟩) 1 E (.slice g3A P2.length g3c) (.slice rA L.length rc)).toArray)).run Tryz.prog wc= .ok () (wc.setCells (B+2) 0 (clL (wh:Int) b (some ⟨G,0,none⟩) 1 E (.slice g3A P2.length g3c) (.slice rA L.length rc))):=cl_store hrs cl0_len hG3.v.ok rfl rfl
 have h1:Only (fun k=>k=B+2) wc (wc.setCells (B+2) 0 (clL (wh:Int) b (some ⟨G,0,none⟩) 1 E (.slice g3A P2.length g3c) (.slice rA L.length rc))):=only_setCells (S:=fun k=>k=B+2) (Only.refl _ _) (B+2) 0 (.inl rfl) _
 have hfin:ClB (wc.setCells (B+2) 0 (clL (wh:Int) b (some ⟨G,0,none⟩) 1 E (.slice g3A P2.length g3c) (.slice rA L.length rc))) (B+2) (wh:Int) b (some ⟨G,0,none⟩) 1 E (.slice g3A P2.length g3c) (.slice rA L.length rc)∧Blk (wc.setCells (B+2) 0 (clL (wh:Int) b (some ⟨G,0,none⟩) 1 E (.slice g3A P2.length g3c) (.slice rA L.length rc))) G 3 #[.int .i64 4]∧HaOwn (wc.setCells (B+2) 0 (clL (wh:Int) b (some ⟨G,0,none⟩) 1 E (.slice g3A P2.length g3c) (.slice rA L.length rc))) w.heap.size (.slice g3A P2.length g3c) P2.length P2∧VtOwn (wc.setCells (B+2) 0 (clL (wh:Int) b (some ⟨G,0,none⟩) 1 E (.slice g3A P2.length g3c) (.slice rA L.length rc))) w.heap.size (.slice rA L.length rc) L.length L∧Only NoneOf w (wc.setCells (B+2) 0 (clL (wh:Int) b (some ⟨G,0,none⟩) 1 E (.slice g3A P2.length g3c) (.slice rA L.length rc))):=
  ⟨cl_stored hrs cl0_len hG3.v.ok,hG3.v.com.only h1 (fun e=>Blk.ne_ hG3.v.com hrs (by decide) e),own_only hG3.pf h1 (fun k hk e=>own_blk_ne hG3.pf hrs (by decide) (by rw [hk,e])),own_only hG3.v.own h1 (fun k hk e=>own_blk_ne hG3.v.own hrs (by decide) (by rw [hk,e])),only_setCells (H2.out.arg.only.trans hG3.v.only) (B+2) 0 (.inr (by rw [EB.out];omega)) _⟩
 have hlo:=hG3.v.lo
 have HFIN:=Lib.hid hfin
 have hmk:wh=(makeW d a).what∧b=(makeW d a).bid∧E=(makeW d a).ev∧P2=(makeW d a).proof∧L=(makeW d a).votes:=by
  refine⟨EWH.out.symm,EBB.out,EE.out,?_,?_⟩
  ·rw [EP2.out,EP.out];rfl
  ·rw [EL.out,EHH.out,ESZ.out,EN.out];rfl
 have HMK:=Lib.hid hmk
 have HPK:=Lib.hid hG3.v.ok
 clear hrs h1 hfin hmk hG3 hwi ezb
 go_wp2_with fail
 have hinf:(Tryz.prog.info? tCl).map (·.size)=some 54:=by kernel_rfl
 refine bodyPost_ret (v:= .agg (clL (wh:Int) b (some ⟨G,0,none⟩) 1 E (.slice g3A P2.length g3c) (.slice rA L.length rc)).toArray) (results_blk rfl rfl HFIN.out.1 Tryz.underlying81 rfl (by rw [List.size_toArray,clL_len HPK.out];exact hinf)) rfl ⟨G,.slice g3A P2.length g3c,.slice rA L.length rc,?_,hlo,HFIN.out.2.1,?_,?_,HFIN.out.2.2.2.2⟩
 ·rw [←HMK.out.1,←HMK.out.2.1,←HMK.out.2.2.1]
 ·rw [←HMK.out.2.2.2.1];exact HFIN.out.2.2.1
 ·rw [←HMK.out.2.2.2.2];exact HFIN.out.2.2.2.1
end Go.Proofs.YtgalfohobgjelaaGreatDoor
