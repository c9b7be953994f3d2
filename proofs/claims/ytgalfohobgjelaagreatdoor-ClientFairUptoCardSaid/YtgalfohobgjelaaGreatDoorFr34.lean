/- What is proved here:several parts. the check of the client laws answers true. Condition:the table of powers of ten reads as its initialiser lays it. · the law on what clients keep. Conditions:the world's numbers are bytes,the acts are well;the table of powers of ten lies. -/
import Derived.Test.YtgalfohobgjelaaGreatDoorFr28
import Derived.Test.YtgalfohobgjelaaGreatDoorFr31
import Derived.Test.YtgalfohobgjelaaGreatDoorFr32
import Derived.Test.YtgalfohobgjelaaGreatDoorFr33
import Derived.Deep.DeepCutAuto
namespace Go.Proofs.YtgalfohobgjelaaGreatDoor
open Go.RowKit Go.Shelf
attribute [local go_sem ↓ high] wdLoad_eq hdLoad_eq hdNew_eq hdStore_eq
def sAb:List ByteArray:= [⟨#[97]⟩,⟨#[98]⟩]
def sAbc:List ByteArray:= [⟨#[97]⟩,⟨#[98]⟩,⟨#[99]⟩]
def sAbx:List ByteArray:= [⟨#[97]⟩,⟨#[98]⟩,⟨#[120]⟩]
theorem sAbc_short:ShortTs sAbc:=fun x hx=>by
 simp only [sAbc,List.mem_cons,List.not_mem_nil,or_false] at hx
 rcases hx with rfl|rfl|rfl<;>decide
theorem sAbx_short:ShortTs sAbx:=fun x hx=>by
 simp only [sAbx,List.mem_cons,List.not_mem_nil,or_false] at hx
 rcases hx with rfl|rfl|rfl<;>decide
theorem sAb_short:ShortTs sAb:=fun x hx=>by
 simp only [sAb,List.mem_cons,List.not_mem_nil,or_false] at hx
 rcases hx with rfl|rfl<;>decide
theorem blk_st {W:World} {G:Nat} {cs:Array Value} (L:List ByteArray) (h:Blk W G 9 cs) (cap:Nat) (hc:L.length≤cap) (hm:cap≤1000) (e:∀(i:Nat) (p:ByteArray),L[i]? =some p→cs[i]? =some (Value.string p)):StSl W (.slice (some ⟨G,0,none⟩) L.length cap) L:=
 ⟨_,cap,rfl,hc,by omega,fun i p hp=> ⟨G,0,rfl,by
  rw [Nat.zero_add,h.cell];exact e i p hp⟩⟩
structure SnP (w:World) (base C top B G:Nat) (s:Vw) (W:World):Prop where
 has:Has w base C top s W
 wd:Blk W B tWd (wdC wd3 none 0)
 l:Blk W G 9 #[.string ⟨#[97]⟩,.string ⟨#[98]⟩,.string ⟨#[99]⟩]
theorem SnP.keep {w:World} {base C top B G:Nat} {s:Vw} {W W':World} (h:SnP w base C top B G s W) (ho:Only NoneOf W W'):SnP w base C top B G s W':=
 ⟨h.has.keep ho,h.wd.only ho (fun e=>e),h.l.only ho (fun e=>e)⟩
theorem SnP.two {w:World} {base C top B G:Nat} {s:Vw} {W:World} (h:SnP w base C top B G s W):StSl W (.slice (some ⟨G,0,none⟩) 2 3) sAb:=
 blk_st sAb h.l 3 (by decide) (by omega) (fun i p hp=>by
  match i,hp with
  |0,rfl|1,rfl=>rfl)
theorem SnP.three {w:World} {base C top B G:Nat} {s:Vw} {W:World} (h:SnP w base C top B G s W):StSl W (.slice (some ⟨G,0,none⟩) 3 3) sAbc:=
 blk_st sAbc h.l 3 (by decide) (by omega) (fun i p hp=>by
  match i,hp with
  |0,rfl|1,rfl|2,rfl=>rfl)
theorem new_three (W:World):StSl (W.alloc (.cells #[.string ⟨#[97]⟩,.string ⟨#[98]⟩,.string ⟨#[120]⟩] 9)) (.slice (some ⟨W.heap.size,0,none⟩) 3 3) sAbx:=
 blk_st sAbx (Blk.new W _ _) 3 (by decide) (by omega) (fun i p hp=>by
  match i,hp with
  |0,rfl|1,rfl|2,rfl=>rfl)
structure SnS (w:World) (base C top B A1 A2 A3:Nat) (a b x:Hd) (gv:Value) (Q:List Hs) (s:Vw) (W:World):Prop where
 has:Has w base C top s W
 wd:Blk W B tWd (wdC wd3 none 0)
 g:HaOwn W w.heap.size gv Q.length Q
 a:HdAt W A1 a
 b:HdAt W A2 b
 x:HdAt W A3 x
section
variable {w:World} {base C top B A1 A2 A3:Nat} {a b x:Hd} {gv:Value} {Q:List Hs} {s s':Vw} {W W':World}
theorem SnS.keep (h:SnS w base C top B A1 A2 A3 a b x gv Q s W) (ho:Only NoneOf W W'):SnS w base C top B A1 A2 A3 a b x gv Q s W':=
 ⟨h.has.keep ho,h.wd.only ho (fun e=>e),own_only h.g ho (fun _ _ e=>e),Blk.only h.a ho (fun e=>e),Blk.only h.b ho (fun e=>e),Blk.only h.x ho (fun e=>e)⟩
theorem SnS.near {top':Nat} (h:SnS w base C top B A1 A2 A3 a b x gv Q s W) (hn:Near base W W') (hh:Has w base C top' s' W'):SnS w base C top' B A1 A2 A3 a b x gv Q s' W':=
 ⟨hh,hn.blk h.wd (by decide) (by decide) (by decide),hn.own h.g (by decide) (by decide) (by decide),hn.blk h.a (by decide) (by decide) (by decide),hn.blk h.b (by decide) (by decide) (by decide),hn.blk h.x (by decide) (by decide) (by decide)⟩
end
theorem haSl_nil (W:World):HaSl W (.slice none 0 0) []:=⟨none,0,rfl,Nat.le_refl _,by omega,fun i p hp=>by simp at hp⟩
theorem vtOwn_nil (W:World) (b:Nat):VtOwn W b (.slice none 0 0) 0 []:=⟨rfl,.inl ⟨rfl,rfl⟩⟩
theorem san_head (w:World) (ht:Tab w) {base C top B A1 A2 A3:Nat} {a b x:Hd} {gv:Value} {Q:List Hs} {s:Vw} {W:World} (hZ:SnS w base C top B A1 A2 A3 a b x gv Q s W) (hP:s.P=setW wd3) (hsm:SmallH s.head) (hn:s.votes.length≤1000) (L:List Vt) (hok:VtsOk L) (hsv:SmallV L) (hL:L.length≤1000) (h:Option Hd) (hbest:∀o,BestL (setW wd3) L o→o=h) (sv:Value) (hs:VtOwn W top sv L.length L) (q:List Hs) (hqok:HsOk q) (hql:q.length≤1000) (qv:Value) (hq:HaSl W qv q) (hqa:Off base W qv) (s':Vw) (hs': { s with votes:=takeV s.votes L,head:=hdNext h (knownH s.head) q s.head}=s') (n:Int) (hr:hdRes h (knownH s.head) q=n):
  Calls Tryz.prog 19 #[.pointer (some ⟨C,0,none⟩),sv,qv] W fun e w'=>e= .returned (.int .i64 n)∧∃top',SnS w base C top' B A1 A2 A3 a b x gv Q s' w':=by
 refine(has_head w ht (by rw [hP];exact setW_ok _) (by rw [hP];exact setW_len _) hsm L hok hsv hL (by omega) sv q hqok (by omega) qv W hZ.has (hs.sl hok) (offV_top hs (Nat.le_refl _)) hq hqa).mono ?_
 rintro e w' ⟨o,ho,he,hh,hnr⟩
 rw [hP] at ho
 have:=hbest o ho
 subst this
 rw [hs'] at hh
 rw [hr] at he
 exact⟨he,_,hZ.near hnr hh⟩
def ab:Hd:=hdOf sAb
def abc:Hd:=hdOf sAbc
def abx:Hd:=hdOf sAbx
theorem ab_ok:ab.Ok:=hdOf_ok (by decide)
theorem abc_ok:abc.Ok:=hdOf_ok (by decide)
theorem abx_ok:abx.Ok:=hdOf_ok (by decide)
theorem known_ab:knownH ab=ab:=by unfold knownH;rw [if_neg (by decide)]
theorem known_abc:knownH abc=abc:=by unfold knownH;rw [if_neg (by decide)]
theorem known_hd0:knownH hd0=⟨0,rootL []⟩:=by unfold knownH;rw [if_pos (show hd0.size=0 from rfl)]
theorem ab_rt:ab.root=rootL (txs sAb):=rfl
theorem abc_rt:abc.root=rootL (txs sAbc):=rfl
theorem abx_rt:abx.root=rootL (txs sAbx):=rfl
theorem txs_abc:txs sAbc= [[97], [98], [99]]:=rfl
theorem txs_abx:txs sAbx= [[97], [98], [120]]:=rfl
theorem abc_root:abc.root=rootL [[97], [98], [99]]:=by rw [abc_rt,txs_abc]
theorem abx_root:abx.root=rootL [[97], [98], [120]]:=by rw [abx_rt,txs_abx]
theorem root_abx:abc.root≠abx.root:=by
 rw [abc_root,abx_root]
 exact beq_eq_false_iff_ne.1 roots_differ
theorem ne_abx:abc≠abx:=fun e=>root_abx (by rw [e])
theorem size_ab:ab.size=2:=rfl
theorem size_abc:abc.size=3:=rfl
theorem size_abx:abx.size=3:=rfl
theorem ne_ab_abc:ab≠abc:=fun e=>by have:=congrArg Hd.size e;rw [size_ab,size_abc] at this;omega
theorem ne_ab_abx:ab≠abx:=fun e=>by have:=congrArg Hd.size e;rw [size_ab,size_abx] at this;omega
theorem res1:hdRes (some ab) (knownH hd0) []=0:=by
 rw [known_hd0]
 unfold hdRes
 simp only
 rw [size_ab,if_neg (by decide),if_neg (by decide),if_pos]
 exact ckL_zero _ _
theorem res2:hdRes (some abc) (knownH ab) (growL (txs sAbc) 2)=0:=by
 rw [known_ab]
 unfold hdRes
 simp only
 rw [size_ab,size_abc,if_neg (by decide),if_neg (by decide),if_pos]
 have h:=ckL_grow (txs sAbc) 2 (by rw [txs_len];show 3≤1000000;omega) (by rw [txs_len];show 2<3;omega)
 have e1:(txs sAbc).length=3:=rfl
 have e2:(txs sAbc).take 2=txs sAb:=rfl
 rw [e1,e2,←ab_rt,←abc_rt] at h
 exact h
theorem res3:hdRes (some ab) (knownH abc) []=32:=by
 rw [known_abc]
 unfold hdRes
 simp only
 rw [size_ab,size_abc,if_pos (by decide)]
theorem res4:hdRes (some abx) (knownH abc) []=44:=by
 rw [known_abc]
 unfold hdRes
 simp only
 rw [size_abx,size_abc,if_neg (by decide),if_pos rfl,if_neg (Ne.symm root_abx)]
noncomputable def sn0:Vw:=⟨60,setW wd3,false,⟨#[]⟩,hd0, [],false⟩
noncomputable def sn1:Vw:= { sn0 with votes:= [vAt ab 1,vAt ab 2,vAt ab 3],head:=ab}
noncomputable def sn2:Vw:= { sn0 with votes:= [vAt ab 1,vAt ab 2,vAt ab 3,vAt abc 1,vAt abc 2,vAt abc 3],head:=abc}
noncomputable def sn4:Vw:= { sn0 with votes:= [vAt ab 1,vAt ab 2,vAt ab 3,vAt abc 1,vAt abc 2,vAt abc 3,vAt abx 2,vAt abx 3,vAt abx 4],head:=abc}
theorem sn_0: { sn0 with votes:=takeV sn0.votes [],head:=hdNext none (knownH sn0.head) [] sn0.head}=sn0:=by
 unfold hdNext hdRes
 simp only
 rw [if_neg (by decide)]
 rfl
theorem sn_1: { sn0 with votes:=takeV sn0.votes (votesW wd3 ab 14 0),head:=hdNext (some ab) (knownH sn0.head) [] sn0.head}=sn1:=by
 have h1:hdNext (some ab) (knownH sn0.head) [] sn0.head=ab:=by
  unfold hdNext
  rw [show sn0.head=hd0 from rfl,if_pos res1]
  rfl
 rw [h1,votes14,show takeV sn0.votes _=_ from take_one ab]
 rfl
theorem sn_2: { sn1 with votes:=takeV sn1.votes (votesW wd3 abc 14 0),head:=hdNext (some abc) (knownH sn1.head) (growL (txs sAbc) 2) sn1.head}=sn2:=by
 have h1:hdNext (some abc) (knownH sn1.head) (growL (txs sAbc) 2) sn1.head=abc:=by
  unfold hdNext
  rw [show sn1.head=ab from rfl,if_pos res2]
  rfl
 rw [h1,votes14,show takeV sn1.votes _=_ from take_two ne_ab_abc]
 rfl
theorem sn_3: { sn2 with votes:=takeV sn2.votes (votesW wd3 ab 14 0),head:=hdNext (some ab) (knownH sn2.head) [] sn2.head}=sn2:=by
 have h1:hdNext (some ab) (knownH sn2.head) [] sn2.head=abc:=by
  unfold hdNext
  rw [show sn2.head=abc from rfl,res3,if_neg (by decide)]
 rw [h1,votes14,show takeV sn2.votes _=_ from take_again]
 rfl
theorem sn_4: { sn2 with votes:=takeV sn2.votes (votesW wd3 abx 28 0),head:=hdNext (some abx) (knownH sn2.head) [] sn2.head}=sn4:=by
 have h1:hdNext (some abx) (knownH sn2.head) [] sn2.head=abc:=by
  unfold hdNext
  rw [show sn2.head=abc from rfl,res4,if_neg (by decide)]
 rw [h1,votes28,show takeV sn2.votes _=_ from take_three ne_ab_abx ne_abx]
 rfl
theorem bl_2:blL sn2.P sn2.votes= []:=blames_none (a:=ab) (b:=abc) (by rw [size_ab,size_abc];decide)
theorem bl_4:blL sn4.P sn4.votes= [⟨2,vAt abc 2,vAt abx 2⟩,⟨3,vAt abc 3,vAt abx 3⟩]:=blames_two (a:=ab) (b:=abc) (x:=abx) (by rw [size_ab,size_abc];decide) (by rw [size_ab,size_abx];decide) (by rw [size_abc,size_abx]) ne_abx
set_option maxRecDepth 100000 in
set_option maxHeartbeats 4000000 in
theorem sanity31 (w:World) (ht:Tab w):Calls Tryz.prog 11 #[] w fun e w'=>e= .returned (.bool true)∧Only NoneOf w w':=by
 obtain⟨B,eB⟩:∃B,B=w.heap.size:=⟨_,rfl⟩
 have hS0:Blk (w.alloc (.cells #[.int .u8 3,.slice none 0 0,.int .u8 0] 24)) B tWd (wdC wd3 none 0)∧Only NoneOf w (w.alloc (.cells #[.int .u8 3,.slice none 0 0,.int .u8 0] 24)):=⟨by rw [eB];exact Blk.new w _ _,(Only.refl _ _).alloc _⟩
 obtain⟨WV,eWV⟩:∃v:Array Value,v=wdC wd3 none 0:=⟨_,rfl⟩
 have hset:∀W,Calls Tryz.prog 18 #[.agg WV] W fun e' w'=> ∃pv,e'= .returned (setV pv)∧PerSl w' pv (setW wd3)∧Only NoneOf W w':=fun W=>by rw [eWV];exact wsetup_any wd3 wd3_ok none 0 W
 have hv14:∀(h:Hd) W,h.Ok→Calls Tryz.prog 14 #[.agg WV,.agg (hdC h).toArray,.int .u16 14,.int .u16 0] W fun e' w'=> ∃rv,e'= .returned rv∧VtOwn w' W.heap.size rv (votesW wd3 h 14 0).length (votesW wd3 h 14 0)∧Only NoneOf W w':=fun h W ok=>by rw [eWV];exact wvotes_any wd3 wd3_ok h ok 14 0 (by omega) (by omega) none 0 W
 have hv28:∀(h:Hd) W,h.Ok→Calls Tryz.prog 14 #[.agg WV,.agg (hdC h).toArray,.int .u16 28,.int .u16 0] W fun e' w'=> ∃rv,e'= .returned rv∧VtOwn w' W.heap.size rv (votesW wd3 h 28 0).length (votesW wd3 h 28 0)∧Only NoneOf W w':=fun h W ok=>by rw [eWV];exact wvotes_any wd3 wd3_ok h ok 28 0 (by omega) (by omega) none 0 W
 have hnew:∀W pv,Only NoneOf w W→PerSl W pv (setW wd3)→Calls Tryz.prog 17 #[.int .i64 60,setV pv] W fun e w'=> ∃C,e= .returned (.pointer (some ⟨C,0,none⟩))∧Has w W.heap.size C w'.heap.size sn0 w'∧Only NoneOf W w':=fun W pv ho hp=>has_new w 60 (setW wd3) (setW_len _) pv W ho hp
 obtain⟨a,ea⟩:∃h,h=ab:=⟨_,rfl⟩
 obtain⟨b,eb⟩:∃h,h=abc:=⟨_,rfl⟩
 obtain⟨x,ex⟩:∃h,h=abx:=⟨_,rfl⟩
 obtain⟨Q,eQ⟩:∃q,q=growL (txs sAbc) 2:=⟨_,rfl⟩
 have hha:∀W base C top G,SnP w base C top B G sn0 W→Calls Tryz.prog 15 #[.slice (some ⟨G,0,none⟩) 2 3] W fun e w'=>e= .returned (.agg (hdC a).toArray)∧Only NoneOf W w':=fun W _ _ _ _ h=>by rw [ea];exact rheadof_any sAb (by decide) sAb_short _ W h.two
 have hhb:∀W base C top G,SnP w base C top B G sn0 W→Calls Tryz.prog 15 #[.slice (some ⟨G,0,none⟩) 3 3] W fun e w'=>e= .returned (.agg (hdC b).toArray)∧Only NoneOf W w':=fun W _ _ _ _ h=>by rw [eb];exact rheadof_any sAbc (by decide) sAbc_short _ W h.three
 have hhx:∀W:World,Calls Tryz.prog 15 #[.slice (some ⟨W.heap.size,0,none⟩) 3 3] (W.alloc (.cells #[.string ⟨#[97]⟩,.string ⟨#[98]⟩,.string ⟨#[120]⟩] 9)) fun e w'=>e= .returned (.agg (hdC x).toArray)∧Only NoneOf (W.alloc (.cells #[.string ⟨#[97]⟩,.string ⟨#[98]⟩,.string ⟨#[120]⟩] 9)) w':=fun W=>by rw [ex];exact rheadof_any sAbx (by decide) sAbx_short _ _ (new_three W)
 have hgr:∀W base C top G,SnP w base C top B G sn0 W→Calls Tryz.prog 21 #[.slice (some ⟨G,0,none⟩) 3 3,.int .i64 2] W fun e w'=> ∃gv,e= .returned (.tuple #[gv,.bool true])∧HaOwn w' W.heap.size gv Q.length Q∧Only NoneOf W w':=fun W _ _ _ _ h=>by rw [eQ];exact rgrowth_any sAbc 2 (by decide) (by decide) sAbc_short _ W h.three
 have la:a.root.length=32:=by rw [ea];exact ab_ok.root
 have lb:b.root.length=32:=by rw [eb];exact abc_ok.root
 have lx:x.root.length=32:=by rw [ex];exact abx_ok.root
 have oa:a.Ok:=by rw [ea];exact ab_ok
 have ob:b.Ok:=by rw [eb];exact abc_ok
 have ox:x.Ok:=by rw [ex];exact abx_ok
 have qok:HsOk Q:=by
  rw [eQ]
  unfold growL
  split
  ·exact fun _ h=>by cases h
  ·exact fun h hh=>growF_ok _ _ _ _ h (List.mem_reverse.1 hh)
 have qlen:Q.length≤1000:=by
  rw [eQ]
  unfold growL
  split
  ·exact Nat.zero_le _
  ·rw [List.length_reverse]
   exact Nat.le_trans (growF_len _ _ _ _) (by decide)
 have k0:∀W base C top A1 A2 A3 gv,SnS w base C top B A1 A2 A3 a b x gv Q sn0 W→Calls Tryz.prog 19 #[.pointer (some ⟨C,0,none⟩),.slice none 0 0,.slice none 0 0] W fun e w'=>e= .returned (.int .i64 24)∧∃top',SnS w base C top' B A1 A2 A3 a b x gv Q sn0 w':=fun W base C top A1 A2 A3 gv hZ=>
  san_head w ht hZ rfl hd0_small (by decide) [] (fun _ h=>by cases h) (fun _ h=>by cases h) (by decide) none (fun o ho=>best_nil _ ho) _ (vtOwn_nil _ _) [] (fun _ h=>by cases h) (by decide) _ (haSl_nil _) (off_nil _ _) _ sn_0 24 rfl
 have k1:∀W base C top A1 A2 A3 gv sv,SnS w base C top B A1 A2 A3 a b x gv Q sn0 W→VtOwn W top sv (votesW wd3 a 14 0).length (votesW wd3 a 14 0)→Calls Tryz.prog 19 #[.pointer (some ⟨C,0,none⟩),sv,.slice none 0 0] W fun e w'=>e= .returned (.int .i64 0)∧∃top',SnS w base C top' B A1 A2 A3 a b x gv Q sn1 w':=fun W base C top A1 A2 A3 gv sv hZ hs=>by
  subst ea
  exact san_head w ht hZ rfl hd0_small (by decide) _ (votesW_ok _ oa _ _) (votesW_small _ (hdOf_small (by decide)) _ _) (Nat.le_trans (votesW_len _ _ _ _) (by decide)) (some ab) (fun o ho=>best14 _ ho) sv hs [] (fun _ h=>by cases h) (by decide) _ (haSl_nil _) (off_nil _ _) _ sn_1 0 res1
 have k2:∀W base C top A1 A2 A3 gv sv,SnS w base C top B A1 A2 A3 a b x gv Q sn1 W→VtOwn W top sv (votesW wd3 b 14 0).length (votesW wd3 b 14 0)→Calls Tryz.prog 19 #[.pointer (some ⟨C,0,none⟩),sv,gv] W fun e w'=>e= .returned (.int .i64 0)∧∃top',SnS w base C top' B A1 A2 A3 a b x gv Q sn2 w':=fun W base C top A1 A2 A3 gv sv hZ hs=>by
  subst eb
  have h2:=res2
  have h3:=sn_2
  rw [←eQ] at h2 h3
  exact san_head w ht hZ rfl (hdOf_small (by decide)) (by show(3:Nat)≤1000;omega) _ (votesW_ok _ ob _ _) (votesW_small _ (hdOf_small (by decide)) _ _) (Nat.le_trans (votesW_len _ _ _ _) (by decide)) (some abc) (fun o ho=>best14 _ ho) sv hs Q qok qlen _ (hZ.g.sl qok) (off_own hZ.g (by decide) (by decide) (by decide)) _ h3 0 h2
 have k3:∀W base C top A1 A2 A3 gv sv,SnS w base C top B A1 A2 A3 a b x gv Q sn2 W→VtOwn W top sv (votesW wd3 a 14 0).length (votesW wd3 a 14 0)→Calls Tryz.prog 19 #[.pointer (some ⟨C,0,none⟩),sv,.slice none 0 0] W fun e w'=>e= .returned (.int .i64 32)∧∃top',SnS w base C top' B A1 A2 A3 a b x gv Q sn2 w':=fun W base C top A1 A2 A3 gv sv hZ hs=>by
  subst ea
  exact san_head w ht hZ rfl (hdOf_small (by decide)) (by show(6:Nat)≤1000;omega) _ (votesW_ok _ oa _ _) (votesW_small _ (hdOf_small (by decide)) _ _) (Nat.le_trans (votesW_len _ _ _ _) (by decide)) (some ab) (fun o ho=>best14 _ ho) sv hs [] (fun _ h=>by cases h) (by decide) _ (haSl_nil _) (off_nil _ _) _ sn_3 32 res3
 have k4:∀W base C top A1 A2 A3 gv sv,SnS w base C top B A1 A2 A3 a b x gv Q sn2 W→VtOwn W top sv (votesW wd3 x 28 0).length (votesW wd3 x 28 0)→Calls Tryz.prog 19 #[.pointer (some ⟨C,0,none⟩),sv,.slice none 0 0] W fun e w'=>e= .returned (.int .i64 44)∧∃top',SnS w base C top' B A1 A2 A3 a b x gv Q sn4 w':=fun W base C top A1 A2 A3 gv sv hZ hs=>by
  subst ex
  exact san_head w ht hZ rfl (hdOf_small (by decide)) (by show(6:Nat)≤1000;omega) _ (votesW_ok _ ox _ _) (votesW_small _ (hdOf_small (by decide)) _ _) (Nat.le_trans (votesW_len _ _ _ _) (by decide)) (some abx) (fun o ho=>best28 _ ho) sv hs [] (fun _ h=>by cases h) (by decide) _ (haSl_nil _) (off_nil _ _) _ sn_4 44 res4
 have kb2:∀W base C top A1 A2 A3 gv,SnS w base C top B A1 A2 A3 a b x gv Q sn2 W→Calls Tryz.prog 20 #[.pointer (some ⟨C,0,none⟩)] W fun e w'=> ∃ov,e= .returned ov∧BlSl w' ov []∧Only NoneOf W w':=fun W base C top A1 A2 A3 gv hZ=>by
  rw [←bl_2]
  exact has_blames w ht (setW_ok _) (setW_len _) (by show(6:Nat)≤100000;omega) W hZ.has
 have kb4:∀W base C top A1 A2 A3 gv,SnS w base C top B A1 A2 A3 a b x gv Q sn4 W→Calls Tryz.prog 20 #[.pointer (some ⟨C,0,none⟩)] W fun e w'=> ∃ov,e= .returned ov∧BlSl w' ov [⟨2,vAt abc 2,vAt abx 2⟩,⟨3,vAt abc 3,vAt abx 3⟩]∧Only NoneOf W w':=fun W base C top A1 A2 A3 gv hZ=>by
  rw [←bl_4]
  exact has_blames w ht (setW_ok _) (setW_len _) (by show(9:Nat)≤100000;omega) W hZ.has
 have HS0:=Lib.hid hS0
 have EB:=Lib.hid eB
 have EWV:=Lib.hid eWV
 have HSET:=Lib.hid hset
 have HV14:=Lib.hid hv14
 have HV28:=Lib.hid hv28
 have HNEW:=Lib.hid hnew
 have HHA:=Lib.hid hha
 have HHB:=Lib.hid hhb
 have HHX:=Lib.hid hhx
 have HGR:=Lib.hid hgr
 have LA:=Lib.hid la
 have LB:=Lib.hid lb
 have LX:=Lib.hid lx
 have OA:=Lib.hid oa
 have OB:=Lib.hid ob
 have OX:=Lib.hid ox
 have K0:=Lib.hid k0
 have K1:=Lib.hid k1
 have K2:=Lib.hid k2
 have K3:=Lib.hid k3
 have K4:=Lib.hid k4
 have KB2:=Lib.hid kb2
 have KB4:=Lib.hid kb4
 clear hS0 eB eWV hset hv14 hv28 hnew hha hhb hhx hgr la lb lx oa ob ox k0 k1 k2 k3 k4 kb2 kb4 ea eb ex eQ qok qlen ht
 go_enter Tryz.func11,Tryz.ntmps11
 go_upto_region 2 with(fail)
 rw [←EB.out]
 refine wp_gen (fun Z=>Blk Z B tWd (wdC wd3 none 0)∧Only NoneOf w Z) HS0.out ?_
 clear HS0
 rintro Z ⟨hB,hO⟩
 have l1:=wd_load hB
 rw [←EWV.out] at l1
 have HZ:=Lib.hid (And.intro hB hO)
 clear hB hO
 go_wp2_with fail
 refine(HSET.out _).mono ?_
 rintro e1 w1 ⟨pv,rfl,hpv,ho1⟩
 have H1:=Lib.hid (And.intro hpv (And.intro (HZ.out.1.only ho1 (fun e=>e)) (HZ.out.2.trans ho1)))
 clear hpv ho1 l1 HZ
 go_wp2_with fail
 refine(HNEW.out _ _ H1.out.2.2 H1.out.1).mono ?_
 rintro e2 w2 ⟨C,rfl,hh2,ho2⟩
 obtain⟨G,eG⟩:∃G,G=w2.heap.size:=⟨_,rfl⟩
 obtain⟨base,ebase⟩:∃n,n=w1.heap.size:=⟨_,rfl⟩
 rw [←ebase] at hh2
 have hP0:SnP w base C w2.heap.size B G sn0 (w2.alloc (.cells #[.string ⟨#[97]⟩,.string ⟨#[98]⟩,.string ⟨#[99]⟩] 9)):=
  ⟨hh2.keep ((Only.refl _ _).alloc _),(H1.out.2.1.only ho2 (fun e=>e)).alloc _,by rw [eG];exact Blk.new w2 _ _⟩
 have HP0:=Lib.hid hP0
 have EG:=Lib.hid eG
 clear hP0 hh2 ho2 H1 eG ebase
 go_upto_region 4 with(fail)
 rw [←EG.out]
 rw [←EG.out] at HP0
 refine wp_gen (SnP w base C G B G sn0) HP0.out ?_
 clear HP0
 intro Z hZ
 have HZ:=Lib.hid hZ
 clear hZ EG
 go_wp2_with fail
 refine(HHA.out _ _ _ _ _ HZ.out).mono ?_
 rintro e3 w3 ⟨rfl,ho3⟩
 have HZ3:=Lib.hid (HZ.out.keep ho3)
 clear ho3 HZ
 go_wp2_with fail
 refine(HHB.out _ _ _ _ _ HZ3.out).mono ?_
 rintro e4 w4 ⟨rfl,ho4⟩
 have HZ4:=Lib.hid (HZ3.out.keep ho4)
 clear ho4 HZ3
 go_wp2_with fail
 refine(HHX.out _).mono ?_
 rintro e5 w5 ⟨rfl,ho5⟩
 have HZ5:=Lib.hid (HZ4.out.keep (((Only.refl NoneOf _).alloc _).trans ho5))
 clear ho5 HZ4
 obtain⟨W3,ew3,st1,st2,st3,f1,f2,f3,o3⟩:=three_heads w5 LA.out LB.out LX.out w5.heap.size (w5.heap.size+1) (w5.heap.size+1+1) rfl rfl rfl
 subst ew3
 have hnw:=hdNew_run
 obtain⟨A1,eA1⟩:∃n,n=w5.heap.size:=⟨_,rfl⟩
 have hS5:SnS w base C G B A1 (A1+1) (A1+1+1) a b x (.slice none 0 0) [] sn0 (((((w5.alloc (.cells hd0C tHd)).alloc (.cells hd0C tHd)).alloc (.cells hd0C tHd)).setCells w5.heap.size 0 (hdC a)).setCells (w5.heap.size+1) 0 (hdC b)|>.setCells (w5.heap.size+1+1) 0 (hdC x)):=by
  have h:=HZ5.out.keep o3
  rw [eA1]
  exact⟨h.has,h.wd,⟨rfl,.inl ⟨rfl,rfl⟩⟩,f1,f2,f3⟩
 have HP5:=Lib.hid (And.intro (HZ5.out.keep o3) hS5)
 have EA1:=Lib.hid eA1
 clear f1 f2 f3 o3 hS5 eA1 HZ5
 go_upto_region 5 with(fail)
 rw [←EA1.out]
 rw [←EA1.out] at HP5
 refine wp_gen (fun W=>SnP w base C G B G sn0 W∧SnS w base C G B A1 (A1+1) (A1+1+1) a b x (.slice none 0 0) [] sn0 W) HP5.out ?_
 clear HP5 st1 st2 st3 hnw EA1
 intro Y hY
 have HY:=Lib.hid hY
 clear hY
 go_wp2_with fail
 refine(HGR.out _ _ _ _ _ HY.out.1).mono ?_
 rintro e6 w6 ⟨gv,rfl,hgv,ho6⟩
 have hS6:SnS w base C G B A1 (A1+1) (A1+1+1) a b x gv Q sn0 w6:=by
  have h:=HY.out.2.keep ho6
  exact⟨h.has,h.wd,own_lower hgv (HY.out.2.has.only).size,h.a,h.b,h.x⟩
 have H6:=Lib.hid hS6
 clear hgv ho6 hS6 HY
 go_wp2_with fail
 refine(K0.out _ _ _ _ _ _ _ _ H6.out).mono ?_
 rintro e7 w7 ⟨rfl,t7,hS7⟩
 have lw:=wd_load hS7.wd
 rw [←EWV.out] at lw
 have lh:=hd_load (blk_range hS7.a) LA.out
 have H7:=Lib.hid hS7
 clear hS7 H6
 go_wp2_with fail
 refine(HV14.out _ _ OA.out).mono ?_
 rintro e8 w8 ⟨v8,rfl,hv8,ho8⟩
 have H8:=Lib.hid (And.intro (H7.out.keep ho8) (own_lower hv8 H7.out.has.size))
 clear hv8 ho8 lw lh H7
 go_wp2_with fail
 refine(K1.out _ _ _ _ _ _ _ _ _ H8.out.1 H8.out.2).mono ?_
 rintro e9 w9 ⟨rfl,t9,hS9⟩
 have lw:=wd_load hS9.wd
 rw [←EWV.out] at lw
 have lh:=hd_load (blk_range hS9.b) LB.out
 have H9:=Lib.hid hS9
 clear hS9 H8
 go_wp2_with fail
 refine(HV14.out _ _ OB.out).mono ?_
 rintro e10 w10 ⟨v10,rfl,hv10,ho10⟩
 have H10:=Lib.hid (And.intro (H9.out.keep ho10) (own_lower hv10 H9.out.has.size))
 clear hv10 ho10 lw lh H9
 go_wp2_with fail
 refine(K2.out _ _ _ _ _ _ _ _ _ H10.out.1 H10.out.2).mono ?_
 rintro e11 w11 ⟨rfl,t11,hS11⟩
 have lw:=wd_load hS11.wd
 rw [←EWV.out] at lw
 have lh:=hd_load (blk_range hS11.a) LA.out
 have H11:=Lib.hid hS11
 clear hS11 H10
 go_wp2_with fail
 refine(HV14.out _ _ OA.out).mono ?_
 rintro e12 w12 ⟨v12,rfl,hv12,ho12⟩
 have H12:=Lib.hid (And.intro (H11.out.keep ho12) (own_lower hv12 H11.out.has.size))
 clear hv12 ho12 lw lh H11
 go_wp2_with fail
 refine(K3.out _ _ _ _ _ _ _ _ _ H12.out.1 H12.out.2).mono ?_
 rintro e13 w13 ⟨rfl,t13,hS13⟩
 have H13:=Lib.hid hS13
 clear hS13 H12
 go_wp2_with fail
 refine(KB2.out _ _ _ _ _ _ _ _ H13.out).mono ?_
 rintro e14 w14 ⟨o14,rfl,hb14,ho14⟩
 obtain⟨bA,bcap,rfl,_,_,_⟩:=hb14
 have hS14:=H13.out.keep ho14
 have lw:=wd_load hS14.wd
 rw [←EWV.out] at lw
 have lh:=hd_load (blk_range hS14.x) LX.out
 have H14:=Lib.hid hS14
 clear hS14 ho14 H13
 go_wp2_with fail
 refine(HV28.out _ _ OX.out).mono ?_
 rintro e15 w15 ⟨v15,rfl,hv15,ho15⟩
 have H15:=Lib.hid (And.intro (H14.out.keep ho15) (own_lower hv15 H14.out.has.size))
 clear hv15 ho15 lw lh H14
 go_wp2_with fail
 refine(K4.out _ _ _ _ _ _ _ _ _ H15.out.1 H15.out.2).mono ?_
 rintro e16 w16 ⟨rfl,t16,hS16⟩
 have H16:=Lib.hid hS16
 clear hS16 H15
 go_wp2_with fail
 refine(KB4.out _ _ _ _ _ _ _ _ H16.out).mono ?_
 rintro e17 w17 ⟨o17,rfl,hb17,ho17⟩
 obtain⟨cA,ccap,rfl,c1,c2,c3⟩:=hb17
 obtain⟨g,o,rfl,hg,r1⟩:=c3 0 _ rfl
 obtain⟨g',o',e',_,r2⟩:=c3 1 _ rfl
 cases e'
 have q1:=r1 0 _ rfl
 have q2:=r1 1 _ rfl
 have q3:=r2 0 _ rfl
 simp only [Nat.zero_mul,Nat.add_zero,Nat.one_mul] at q1 q2 q3
 have HF:=Lib.hid (H16.out.keep ho17).has.only
 clear c3 r1 r2 ho17 H16
 go_wp2_with fail
 go_ret
 exact⟨rfl,HF.out⟩
end Go.Proofs.YtgalfohobgjelaaGreatDoor
namespace Go.Proofs.YtgalfohobgjelaaGreatDoor
open Go.RowKit Go.Shelf
attribute [local go_sem ↓ high] wdLoad_eq suLoad_eq suStore_eq zbPs_eq psSt_eq acLd_eq clLoad_eq clStore_eq clNew_eq zbVt_eq zbHa_eq zbBl_eq blSt_eq vtStore_eq haStore_eq
noncomputable def keV (d:Wd):Vw:=⟨60,setW d,false,⟨#[]⟩,hd0, [],false⟩
structure KeM (b:Nat) (x:Cl) (G:Nat) (gv rv:Value) (W:World):Prop where
 com:Blk W G 3 #[.int .i64 4]
 lo:b≤G
 pf:HaOwn W b gv x.proof.length x.proof
 vt:VtOwn W b rv x.votes.length x.votes
theorem KeM.keep {b:Nat} {x:Cl} {G:Nat} {gv rv:Value} {W W':World} (h:KeM b x G gv rv W) (ho:Only NoneOf W W'):KeM b x G gv rv W':=
 ⟨h.com.only ho (fun e=>e),h.lo,own_only h.pf ho (fun _ _ e=>e),own_only h.vt ho (fun _ _ e=>e)⟩
theorem KeM.one1 {b:Nat} {x:Cl} {G:Nat} {gv rv:Value} {W:World} (h:KeM b x G gv rv W):gv.oneCell'=true:=by
 obtain⟨A,c,rfl,_⟩:=own_form' h.pf
 rfl
theorem KeM.one2 {b:Nat} {x:Cl} {G:Nat} {gv rv:Value} {W:World} (h:KeM b x G gv rv W):rv.oneCell'=true:=by
 obtain⟨A,c,rfl,_⟩:=own_form' h.vt
 rfl
theorem KeM.lower {b b':Nat} {x:Cl} {G:Nat} {gv rv:Value} {W:World} (h:KeM b x G gv rv W) (hb:b'≤b):KeM b' x G gv rv W:=⟨h.com,Nat.le_trans hb h.lo,own_lower h.pf hb,own_lower h.vt hb⟩
theorem com_int {W:World} {G:Nat} (h:Blk W G 3 #[.int .i64 4]):IntSl W (some ⟨G,0,none⟩) [4]:=
 .inr ⟨G,0,rfl,h.lt,fun j x hx=>by
  match j,hx with
  |0,hx=>
   simp only [List.getElem?_cons_zero,Option.some.injEq] at hx
   subst hx
   exact h.cell 0⟩
theorem blank0_ok:blank0.Ok:=by
 refine⟨?_,?_,?_,?_,?_,?_,?_,?_,?_,?_,?_,?_,?_⟩
 all_goals first|exact⟨by decide,by decide⟩|rfl
theorem eventW_ok (d:Wd) (a:Ac):(eventW d a).Ok∧(eventW d a).name.size≤200∧(eventW d a).text.size≤200:=by
 unfold eventW
 split
 ·exact⟨blank0_ok,by decide,by decide⟩
 ·rename_i h0
  have hn:(lvW d a.second).length≠0:=fun e=>h0 (.inr e)
  obtain⟨e0,he0⟩:∃e,(evsW d a.second)[(a.n % ((lvW d a.second).length:Int)).toNat]? =some e:=⟨_,List.getElem?_eq_getElem (by
   have h1:=Int.emod_nonneg a.n (show((lvW d a.second).length:Int)≠0 by omega)
   have h2:=Int.emod_lt_of_pos a.n (show(0:Int) < ((lvW d a.second).length:Int) by omega)
   rw [←lvW_len]
   omega)⟩
  have hk:=evsW_ok (List.mem_of_getElem? he0)
  rw [he0]
  simp only [Option.getD_some]
  split
  ·refine⟨{ hk.1 with},Nat.le_trans hk.2.1 (by omega),?_⟩
   show(e0.text++ (⟨#[32]⟩:ByteArray)).size≤200
   rw [ByteArray.size_append]
   have h3:=hk.2.2
   show e0.text.size+1≤200
   omega
  ·exact⟨hk.1,Nat.le_trans hk.2.1 (by omega),Nat.le_trans hk.2.2 (by omega)⟩
theorem makeW_ok (d:Wd) (a:Ac) (_ha:a.Ok):(makeW d a).Ok:=by
 have hl:((lvW d a.second).take (a.size % (((lvW d a.second).length:Int) +1)).toNat).length≤1000:=by
  rw [List.length_take]
  have:=lvW_le d a.second
  omega
 refine⟨⟨by show 0≤a.what % 6;omega,by show a.what % 6<6;omega⟩,bidW_ok _,rfl,(eventW_ok d a).1,Nat.le_trans (eventW_ok d a).2.1 (by omega),Nat.le_trans (eventW_ok d a).2.2 (by omega),?_,?_,votesW_ok d (hdOf_ok hl) _ _,votesW_small d (hdOf_small hl) _ _,Nat.le_trans (votesW_len _ _ _ _) (by omega),_,fun v hv=>votesW_head hv⟩
 ·show HsOk (if 0≤a.b0 then bentL (proofW d a) a.b0 a.b1 else proofW d a)
  split
  ·exact bentL_ok (proofW_ok d a) _ _
  ·exact proofW_ok d a
 ·show(if 0≤a.b0 then bentL (proofW d a) a.b0 a.b1 else proofW d a).length≤100000
  have h1:=proofW_len d a
  split
  ·have h2:=bentL_len (Q:=proofW d a) a.b0 a.b1
   omega
  ·omega
end Go.Proofs.YtgalfohobgjelaaGreatDoor
