/- What is proved here:several parts. the setup that the laws on quorums use,with the persons in a block of its own. Condition:the number is an int. · several parts. the reference's number and its quoted text. Conditions:texts are short. · the reference lays an event's ten numbers in a slice. Conditions:none. · the reference's text of an event. Conditions:name and text are short. · codes of events,by the reference. Conditions:names and texts are short. · hashes of events,by the reference. Conditions:names and texts are short. · one thing of an event changed,in plain Lean;no program in sight. No conditions. · the reference changes one thing of an event. Conditions:name and text are short. -/
import Derived.Test.YtgalfohobgjelaaGreatDoorFr11
import Derived.Test.YtgalfohobgjelaaGreatDoorFr12
import Derived.Test.YtgalfohobgjelaaGreatDoorFr16
import Derived.Test.YtgalfohobgjelaaGreatDoorFr19
import Derived.BigQuiet
namespace Go.Proofs.YtgalfohobgjelaaGreatDoor
open Go.RowKit Go.Shelf
attribute [local go_sem ↓ high] suStore_eq
set_option maxRecDepth 100000 in
set_option maxHeartbeats 4000000 in
theorem setup_own (n:Int) (hn:In n) (w:World):Calls Tryz.prog 44 #[.int .i64 n,.bool false] w fun e' w'=> ∃pv,e'= .returned (setV pv)∧PerOwn w' w.heap.size pv (nOff n+1) (setB (nOff n))∧Only NoneOf w w':=by
 obtain⟨ie,z,hie,hsz,hz,hzc,hby⟩:=pers_info3
 obtain⟨n0,n1⟩:=hn
 obtain⟨R,eR⟩:∃R,R=w.heap.size:=⟨_,rfl⟩
 obtain⟨G,eG⟩:∃G,G=R+1:=⟨_,rfl⟩
 obtain⟨V,eV⟩:∃V,V=G+1:=⟨_,rfl⟩
 obtain⟨pc,epc⟩:∃x:Int,x=(pub (secI 50):Int):=⟨_,rfl⟩
 obtain⟨X,eX⟩:∃X,X=(((w.alloc (.cells #[.slice none 0 0,.int .i64 0,.slice none 0 0,.slice none 0 0,.int .i64 0,.int .i64 0] 50)).alloc (.cells #[.int .i64 50,.int .i64 1,.int .i64 pc] 67)).alloc (.cells #[.slice none 0 0,.int .i64 0,.slice none 0 0,.slice none 0 0,.int .i64 0,.int .i64 0] 50)).setCells V 0 [.slice (some ⟨G,0,none⟩) 1 1,.int .i64 0,.slice none 0 0,.slice none 0 0,.int .i64 0,.int .i64 0]:=⟨_,rfl⟩
 have h3:Blk (((w.alloc (.cells #[.slice none 0 0,.int .i64 0,.slice none 0 0,.slice none 0 0,.int .i64 0,.int .i64 0] 50)).alloc (.cells #[.int .i64 50,.int .i64 1,.int .i64 pc] 67)).alloc (.cells #[.slice none 0 0,.int .i64 0,.slice none 0 0,.slice none 0 0,.int .i64 0,.int .i64 0] 50)) V tSu #[.slice none 0 0,.int .i64 0,.slice none 0 0,.slice none 0 0,.int .i64 0,.int .i64 0]:=by
  have h3:=Blk.new ((w.alloc (.cells #[.slice none 0 0,.int .i64 0,.slice none 0 0,.slice none 0 0,.int .i64 0,.int .i64 0] 50)).alloc (.cells #[.int .i64 50,.int .i64 1,.int .i64 pc] 67)) tSu #[.slice none 0 0,.int .i64 0,.slice none 0 0,.slice none 0 0,.int .i64 0,.int .i64 0]
  rw [World.size_alloc,World.size_alloc,←eR,←eG,←eV] at h3
  exact h3
 have hst0:=su_store (n:=1) (c:=1) (A:=some ⟨G,0,none⟩) h3 rfl
 have hs0:StS w R V 0 (.slice (some ⟨G,0,none⟩) 1 1) X:=by
  have h2:=Blk.new (w.alloc (.cells #[.slice none 0 0,.int .i64 0,.slice none 0 0,.slice none 0 0,.int .i64 0,.int .i64 0] 50)) 67 #[.int .i64 50,.int .i64 1,.int .i64 pc]
  rw [World.size_alloc,←eR,←eG] at h2
  refine⟨by rw [eX];exact Blk.farCells (by omega) _ 0 (by rw [eR];exact((Blk.new w _ _).alloc _).alloc _),by rw [eX];exact filled_whole h3 rfl,⟨rfl,.inr ⟨G,1, #[.int .i64 50,.int .i64 1,.int .i64 pc],rfl,by omega,by rw [eX];exact Blk.farCells (by omega) _ 0 (h2.alloc _),Nat.le_refl _,by rw [maxLen_val];omega,rfl,?_⟩⟩,by rw [eX];exact only_setCells ((((Only.refl _ _).alloc _).alloc _).alloc _) V 0 (.inr (by omega)) _⟩
  rw [epc]
  rfl
 have hsec:=fun W=>secret_any 50 (by omega) (by omega) W
 have hpub:∀W,Calls Tryz.prog 45 #[.int .i64 (secI 50)] W fun e' w'=>e'= .returned (.int .i64 pc)∧w'=W:=fun W=>by rw [epc];exact rpub_any _ W
 have HS0:=Lib.hid hs0
 have HSEC:=Lib.hid hsec
 have HPUB:=Lib.hid hpub
 have HIE:=Lib.hid hie
 have HSZ:=Lib.hid hsz
 have HZ:=Lib.hid hz
 have HZC:=Lib.hid hzc
 have HBY:=Lib.hid hby
 have EX:=Lib.hid eX
 have ER:=Lib.hid eR
 have EG:=Lib.hid eG
 have EV:=Lib.hid eV
 have hwR:w.heap.size≤R∧R≠V∧w.heap.size≤V:=by omega
 obtain⟨hwR1,hRV,hwV⟩:=hwR
 rw [eG,eV,eG,eR] at hst0
 clear hs0 hsec hpub hie hsz hz hzc hby eX eR eG eV epc h3
 unfold setV
 go_enter Tryz.func44,Tryz.ntmps44
 go_wp2_with fail
 refine(HSEC.out _).mono ?_
 rintro e1 w1 ⟨rfl,rfl⟩
 go_wp2_with fail
 refine(HPUB.out _).mono ?_
 rintro e2 w2 ⟨rfl,rfl⟩
 go_upto_region 2 with(fail)
 clear hst0
 rw [←ER.out,←EG.out,←EV.out,←EX.out]
 clear HSEC HPUB
 refine wp_gen (StS w R V 0 (.slice (some ⟨G,0,none⟩) 1 1)) HS0.out ?_
 intro Y hY
 have HY:=Lib.hid hY
 clear hY HS0
 go_wp2_with fail
 go_loopw [6] (fun i wr=> ∃(q:Nat) (pv:Value),i= .int .i64 (q:Int)∧1≤q∧q≤nOff n+1∧StS w R V (q - 1) pv wr) (fun i _=>14 - (intOf i).toNat)
 case atStart=>exact⟨1,_,rfl,by omega,by omega,HY.out⟩
 case round=>
  obtain⟨q,pv,rfl,hq1,hq2,hS⟩:=hrel
  have hno:=nOff_le n
  by_cases hlt:q≤nOff n
  ·have hle:(q:Int)≤min n 13:=by unfold nOff at hlt;omega
   obtain⟨m,rfl⟩:∃m,q=m+1:=⟨q - 1,by omega⟩
   rw [Nat.add_sub_cancel] at hS
   obtain⟨k,ek⟩:∃k:Nat,k=m+1:=⟨_,rfl⟩
   rw [←ek] at hle⊢
   obtain⟨pk,epk⟩:∃x:Int,x=(pub (secI k):Int):=⟨_,rfl⟩
   have hpc:persC (offAt k)= [.int .i64 (k:Int),.int .i64 2,.int .i64 pk]:=by rw [epk];rfl
   have hsec:∀W,Calls Tryz.prog 39 #[.int .i64 (k:Int)] W fun e' w'=>e'= .returned (.int .i64 (secI (k:Int)))∧w'=W:=fun W=>secret_any (k:Int) (by omega) (by omega) W
   have hpub:∀W,Calls Tryz.prog 45 #[.int .i64 (secI (k:Int))] W fun e' w'=>e'= .returned (.int .i64 pk)∧w'=W:=fun W=>by rw [epk];exact rpub_any _ W
   have hcells:(setB (m+1)).flatMap persC=(setB m).flatMap persC++ [.int .i64 (k:Int),.int .i64 2,.int .i64 pk]:=by
    rw [setB_snoc,List.flatMap_append,List.flatMap_cons,List.flatMap_nil,List.append_nil,←ek,hpc]
   have c0:wr.cell? ⟨V,0,none⟩=some pv:=hS.st.cell 0
   have HS:=Lib.hid hS
   have HSEC:=Lib.hid hsec
   have HPUB:=Lib.hid hpub
   have HCELLS:=Lib.hid hcells
   have hall:∀o,((wr.alloc o).drew).ownsRow w.heap.size 67 3 pv (m+1) ((setB m).flatMap persC):=fun o=>World.ownsRow.alloc HS.out.own o
   have hne:pv.ownBlock≠some V:=own_blk_ne HS.out.own HS.out.st (by decide)
   have hneR:pv.ownBlock≠some R:=own_blk_ne HS.out.own HS.out.res (by decide)
   have hgr:∀o w1,(((wr.alloc o).drew).grownBy w1 pv.ownBlock)→Blk w1 V tSu #[pv,.int .i64 0,.slice none 0 0,.slice none 0 0,.int .i64 0,.int .i64 0]∧Blk w1 R tSu #[.slice none 0 0,.int .i64 0,.slice none 0 0,.slice none 0 0,.int .i64 0,.int .i64 0]∧Only NoneOf w w1:=fun o w1 hg=>
    ⟨((HS.out.st.alloc o).drew).grown hg (Ne.symm hne),((HS.out.res.alloc o).drew).grown hg (Ne.symm hneR),((HS.out.only.alloc o).drew).grown hg (fun j e=> .inr (own_ge HS.out.own e).1)⟩
   have HALL:=Lib.hid hall
   have HGR:=Lib.hid hgr
   have HSZZ:=Lib.hid HS.out.only.size
   have ca:∀o,(wr.alloc o).cell? ⟨V,0,none⟩=some pv:=fun o=> (HS.out.st.alloc o).cell 0
   have HEK:=Lib.hid ek
   have hkm:k≤13∧m≤12:=by omega
   obtain⟨hk13,hm12⟩:=hkm
   clear hS hsec hpub hcells hpc hall hne hneR hgr epk ek hq1 hq2 hlt
   go_upto_region 5 with(fail)
   go_region_law (first
    |(refine step_append_lies _ (by rfl) _ _ _ (by rfl) w.heap.size 67 ie z 3 24 Tryz.underlying46 HIE.out HZ.out HSZ.out HBY.out HZC.out (by omega) pv (m+1) ((setB m).flatMap persC) (by rfl) (HALL.out _) ⟨wr.heap.size,0,none⟩ 1 1 [.int .i64 (k:Int),.int .i64 2,.int .i64 pk] (by rfl) (by rfl) (World.news_of_block (cs:= #[.int .i64 (k:Int),.int .i64 2,.int .i64 pk]) (t:=67) (fr:=(0,0)) (heap_alloc_new wr _)) (by simp [Value.oneCell']) (by omega) (by rw [maxLen_val];omega) (by omega) (by have:=HSZZ.out;simp;omega) (wr.heap.size+1) (by simp) ?_;intro g cap w1 hown1 hgrow hat hlt1;have hb1:=HGR.out _ w1 hgrow;have hf1:=hb1.1.frozen 0;have hc1:=hb1.1.cell 0;simp only [List.getElem?_toArray,List.getElem?_cons_zero] at hc1)
    |(go_simp;go_at_call 39;refine(HSEC.out _).mono ?_;rintro e1 w3 ⟨rfl,rfl⟩)
    |(go_simp;go_at_call 45;refine(HPUB.out _).mono ?_;rintro e2 w2 ⟨rfl,rfl⟩))
   all_goals
    have hgne:(Value.slice (some ⟨g,0,none⟩) (m+1+1) cap).ownBlock≠some V:=own_blk_ne hown1 hb1.1 (by decide)
    have hnew:StS w R V (m+1) (.slice (some ⟨g,0,none⟩) (m+1+1) cap) (w1.setCell ⟨V,0,none⟩ (.slice (some ⟨g,0,none⟩) (m+1+1) cap)):=by
     refine⟨Blk.far (p:=⟨V,0,none⟩) hb1.2.1 hRV _,Blk.set_ hb1.1 0 _,?_,hb1.2.2.setCell (p:=⟨V,0,none⟩) (.inr hwV) _⟩
     unfold PerOwn
     rw [HCELLS.out]
     exact own_far hown1 (p:=⟨V,0,none⟩) hgne _
    have HNEW:=Lib.hid hnew
    clear hb1 hgne hnew hown1 hgrow hat hlt1 hf1 hc1 ca c0
    go_wp2_with fail
    go_roundw
    case rel=>exact⟨k+1,_,by go_num,by omega,by have:=HEK.out;unfold nOff;omega,by rw [Nat.add_sub_cancel,HEK.out];exact HNEW.out⟩
    case measure=>simp [intOf];omega
  ·have hqe:q=nOff n+1:=by omega
   have hle:¬(q:Int)≤min n 13:=by rw [hqe];unfold nOff;omega
   rw [hqe,Nat.add_sub_cancel] at hS
   have hsl:PerSl wr pv (setB (nOff n)):=PerOwn.sl (by rw [setB_len];exact hS.own)
   obtain⟨N,eN⟩:∃N,N=nOff n+1:=⟨_,rfl⟩
   have hown:=hS.own
   rw [←eN] at hown
   obtain⟨pA,pcap,rfl,_,_⟩:=own_form' hown
   have r0:=hS.res.cell 0
   have r1:=hS.res.cell 1
   have r2:=hS.res.cell 2
   have r3:=hS.res.cell 3
   have r4:=hS.res.cell 4
   have r5:=hS.res.cell 5
   have c0:=hS.st.cell 0
   have c1:=hS.st.cell 1
   have c2:=hS.st.cell 2
   have c3:=hS.st.cell 3
   have c4:=hS.st.cell 4
   have c5:=hS.st.cell 5
   simp only [List.getElem?_toArray,List.getElem?_cons_zero,List.getElem?_cons_succ] at c0 c1 c2 c3 c4 c5 r0 r1 r2 r3 r4 r5
   have hinf:(Tryz.prog.info? tSu).map (·.size)=some 6:=by kernel_rfl
   have hb2:Blk (wr.setCells R 0 [.slice pA N pcap,.int .i64 0,.slice none 0 0,.slice none 0 0,.int .i64 0,.int .i64 0]) R tSu #[.slice pA N pcap,.int .i64 0,.slice none 0 0,.slice none 0 0,.int .i64 0,.int .i64 0]:=filled_whole hS.res rfl
   have hst:=su_store (n:=N) (c:=pcap) (A:=pA) hS.res rfl
   have ho2:Only NoneOf w (wr.setCells R 0 [.slice pA N pcap,.int .i64 0,.slice none 0 0,.slice none 0 0,.int .i64 0,.int .i64 0]):=only_setCells hS.only R 0 (.inr hwR1) _
   have hsl2:PerOwn (wr.setCells R 0 [.slice pA N pcap,.int .i64 0,.slice none 0 0,.slice none 0 0,.int .i64 0,.int .i64 0]) w.heap.size (.slice pA N pcap) (nOff n+1) (setB (nOff n)):=by
    have h1:=own_blk_ne hown hS.res (by decide)
    have h2:PerOwn (wr.setCells R 0 [.slice pA N pcap,.int .i64 0,.slice none 0 0,.slice none 0 0,.int .i64 0,.int .i64 0]) w.heap.size (.slice pA N pcap) N (setB (nOff n)):=
     own_only hown (only_setCells (S:=fun k=>k=R) (Only.refl _ _) R 0 (.inl rfl) _) (fun k hk e=>h1 (by rw [hk,e]))
    rw [←eN];exact h2
   have HB2:=Lib.hid hb2
   have HO2:=Lib.hid ho2
   have HSL:=Lib.hid hsl2
   have HI:=Lib.hid hinf
   clear hS hsl hsl2 hb2 ho2 hinf hown eN hqe hq1 hq2 hlt
   go_wp2_with fail
   refine bodyPost_ret (v:= .agg #[.slice pA N pcap,.int .i64 0,.slice none 0 0,.slice none 0 0,.int .i64 0,.int .i64 0]) (results_blk rfl rfl HB2.out Tryz.underlying50 rfl (by simpa using HI.out)) rfl ⟨_,rfl,HSL.out,HO2.out⟩
end Go.Proofs.YtgalfohobgjelaaGreatDoor
namespace Go.Proofs.YtgalfohobgjelaaGreatDoor
open Go.RowKit Go.Shelf
theorem rnumber_any (n:Int) (h0: -9223372036854775808≤n) (h1:n≤9223372036854775807) (w:World):Calls Tryz.prog 66 #[.int .i64 n] w (RetStr (Lib.itoa n) w):=by
 have ht:=fun W=>text_one n h0 h1 W
 have HT:=Lib.hid ht
 clear ht h0 h1
 go_enter Tryz.func66,Tryz.ntmps66
 go_wp2_with fail
 refine(HT.out w).mono ?_
 rintro e1 w1 ⟨t,rfl,htl,ho⟩
 have HO:=Lib.hid ho
 have HL:=Lib.hid htl
 clear ho htl
 go_wp2_with fail
 refine⟨rfl,_,results_tmp rfl _ _ _,?_⟩
 exact RetStr.mk HL.out HO.out
theorem rstr_any (s:ByteArray) (hs:s.size≤8796093022208) (w:World):Calls Tryz.prog 116 #[.string s] w (RetStr (quoL s.data.toList) w):=by
 have hn:=fun W=>rnumber_any (s.size:Int) (by omega) (by omega) W
 have HN:=Lib.hid hn
 have HS:=Lib.hid hs
 clear hn hs
 go_enter Tryz.func116,Tryz.ntmps116
 go_wp2_with fail
 refine(HN.out w).mono ?_
 rintro e1 w1 ⟨t,rfl,htl,ho⟩
 have HO:=Lib.hid ho
 have HL:=Lib.hid htl
 have hil:=itoa_len (n:=(s.size:Int)) (by have:=HS.out;omega) (by have:=HS.out;omega)
 rw [←htl,←size_list] at hil
 have hs1:t.size+1≤9223372036854775807:=by omega
 have hs2:t.size+1+s.size≤9223372036854775807:=by have:=HS.out;omega
 clear ho htl hil
 go_wp2_with fail
 refine⟨rfl,_,results_tmp rfl _ _ _,?_⟩
 refine RetStr.mk ?_ HO.out
 unfold quoL
 rw [←size_list,←HL.out]
 simp
end Go.Proofs.YtgalfohobgjelaaGreatDoor
namespace Go.Proofs.YtgalfohobgjelaaGreatDoor
open Go.RowKit Go.Shelf
set_option maxRecDepth 100000 in
set_option maxHeartbeats 2000000 in
theorem rnumbers_any (e:Ev) (w:World):Calls Tryz.prog 115 #[.agg (evC e).toArray] w fun e' w'=> ∃g,e'= .returned (.slice (some ⟨g,0,none⟩) 10 10)∧g<w'.heap.size∧IntsAt w' g e.nums∧Only NoneOf w w':=by
 obtain⟨B,eB⟩:∃B,B=w.heap.size:=⟨_,rfl⟩
 obtain⟨X,eX⟩:∃X,X=w.alloc (.cells (evC e).toArray tEv):=⟨_,rfl⟩
 have hat:EvAt X B e:=by rw [eX,eB];exact Blk.new w _ _
 have hox:Only NoneOf w X:=by rw [eX];exact(Only.refl _ _).alloc _
 have HOX:=Lib.hid hox
 have c0:X.cell? ⟨B,0,none⟩=some (.int .i64 e.seq):=ev_cell hat 0
 have c1:X.cell? ⟨B,1,none⟩=some (.int .i64 e.kind):=ev_cell hat 1
 have c2:X.cell? ⟨B,2,none⟩=some (.int .i64 e.who):=ev_cell hat 2
 have c3:X.cell? ⟨B,3,none⟩=some (.int .i64 e.time):=ev_cell hat 3
 have c4:X.cell? ⟨B,4,none⟩=some (.int .i64 e.bidder):=ev_cell hat 4
 have c5:X.cell? ⟨B,5,none⟩=some (.int .i64 e.lot):=ev_cell hat 5
 have c6:X.cell? ⟨B,6,none⟩=some (.int .i64 e.n):=ev_cell hat 6
 have c7:X.cell? ⟨B,7,none⟩=some (.int .i64 e.other):=ev_cell hat 7
 have c10:X.cell? ⟨B,10,none⟩=some (.int .i64 e.sx):=ev_cell hat 10
 have c11:X.cell? ⟨B,11,none⟩=some (.int .i64 e.sy):=ev_cell hat 11
 have HB:Hid (Blk (X.alloc (.cells (e.nums.map (fun x=>Value.int .i64 x)).toArray 3)) X.heap.size 3 (e.nums.map (fun x=>Value.int .i64 x)).toArray):=Lib.hid (Blk.new X _ _)
 rw [eX,eB] at c0 c1 c2 c3 c4 c5 c6 c7 c10 c11
 rw [eX] at HB HOX
 clear hat hox eX X eB B
 go_enter Tryz.func115,Tryz.ntmps115
 go_wp2_with fail
 refine⟨rfl,_,results_tmp rfl _ _ _,?_⟩
 have hb:=HB.out
 rw [World.size_alloc] at hb
 exact⟨w.heap.size+1,rfl,hb.lt,ints_of hb,HOX.out.alloc _⟩
end Go.Proofs.YtgalfohobgjelaaGreatDoor
namespace Go.Proofs.YtgalfohobgjelaaGreatDoor
open Go.RowKit Go.Shelf
attribute [local go_sem ↓ high] evStore_eq evLoad_eq
def preL (ns:List Int):List UInt8:=ns.flatMap fun n=>32::Lib.itoa n
theorem preL_nums:∀ns:List Int,ns≠ []→preL ns=32::numsL ns
 | [],h=>absurd rfl h
 | [n],_=>by simp [preL,numsL]
 |n::m::l,_=>by
  have ih:=preL_nums (m::l) (by simp)
  unfold preL at ih⊢
  rw [List.flatMap_cons,ih,numsL]
  simp
theorem preL_len (ns:List Int) (h:∀n∈ns,In n):(preL ns).length≤22 * ns.length:=by
 induction ns with
 |nil=>simp [preL]
 |cons n l ih=>
  have h1:=itoa_len (h n (by simp)).1 (h n (by simp)).2
  have h2:=ih (fun x hx=>h x (by simp [hx]))
  unfold preL at h2⊢
  rw [List.flatMap_cons,List.length_append,List.length_cons,List.length_cons]
  omega
theorem preL_snoc (ns:List Int) (k:Nat) (x:Int) (hx:ns[k]? =some x):preL (ns.take (k+1))=preL (ns.take k) ++32::Lib.itoa x:=by
 unfold preL
 rw [List.take_add_one,hx,Option.toList_some,List.flatMap_append]
 simp
set_option maxRecDepth 100000 in
set_option maxHeartbeats 2000000 in
theorem revtext_any (e:Ev) (he:e.Ok) (hn:e.name.size≤8796093022208) (hx:e.text.size≤8796093022208) (w:World):Calls Tryz.prog 67 #[.agg (evC e).toArray] w (RetStr (evText e) w):=by
 have hat:EvAt (w.alloc (.cells (evC e).toArray tEv)) w.heap.size e:=Blk.new w _ _
 have hox:Only NoneOf w (w.alloc (.cells (evC e).toArray tEv)):=(Only.refl _ _).alloc _
 have hld:=ev_load hat he.prev
 have HAT:=Lib.hid hat
 have HOX:=Lib.hid hox
 have HE:=Lib.hid he
 have HN:=Lib.hid hn
 have HX:=Lib.hid hx
 clear hat hox he hn hx
 go_enter Tryz.func67,Tryz.ntmps67
 go_wp2_with fail
 refine(rnumbers_any e _).mono ?_
 rintro e1 w1 ⟨g,rfl,hg,hi,ho⟩
 have hat1:=HAT.out.only ho (fun e=>e)
 obtain⟨B,eB⟩:∃B,B=w.heap.size:=⟨_,rfl⟩
 rw [←eB] at hat1⊢
 have HAT1:=Lib.hid hat1
 have HI:=Lib.hid hi
 have HO1:=Lib.hid (HOX.out.trans ho)
 clear hat1 hi ho HAT HOX hld eB
 go_wp2_with fail
 go_loopw [3,5] (fun v i wr=> ∃(k:Nat) (s:ByteArray),i= .int .i64 k∧v= .string s∧k≤10∧s.data.toList=evWord.data.toList++preL (e.nums.take k)∧Only NoneOf w1 wr) (fun _ i _=>10 - (intOf i).toNat)
 case atStart=>exact⟨0,evWord,rfl,rfl,by omega,by simp [preL],Only.refl _ _⟩
 case round=>
  obtain⟨k,s,rfl,rfl,hk,hs,ho⟩:=hrel
  have HO:=Lib.hid ho
  have HS:=Lib.hid hs
  clear ho hs
  by_cases hlt:k<10
  ·obtain⟨x,hx⟩:∃x,e.nums[k]? =some x:=⟨_,List.getElem?_eq_getElem hlt⟩
   have hc:=HO.out.cell_some (HI.out k x hx) (fun e=>e)
   have hix:=HE.out.nums_in x (List.mem_of_getElem? hx)
   have hsl:s.size≤300:=by
    have h1:=preL_len (e.nums.take k) (fun y hy=>HE.out.nums_in y (List.mem_of_mem_take hy))
    have h2:=List.length_take_le k e.nums
    rw [size_list,HS.out,List.length_append]
    have h3:evWord.data.toList.length=5:=rfl
    omega
   have HNX:=Lib.hid (preL_snoc e.nums k x hx)
   have ik:(k:Int) <10:=by omega
   have hs1:s.size+1≤9223372036854775807:=by omega
   have HIX:=Lib.hid hix
   clear hx hix
   go_wp2_with fail
   refine(rnumber_any x (HIX.out).1 (HIX.out).2 wr).mono ?_
   rintro e2 w2 ⟨t,rfl,htl,ho2⟩
   have hil:=itoa_len (HIX.out).1 (HIX.out).2
   rw [←htl,←size_list] at hil
   have hs2:s.size+1+t.size≤9223372036854775807:=by omega
   have HT:=Lib.hid htl
   have HO2:=Lib.hid (HO.out.trans ho2)
   clear htl ho2 hil
   go_wp2_with fail
   go_roundw
   case rel=>
    refine⟨k+1,_,by go_num,rfl,by omega,?_,HO2.out⟩
    rw [HNX.out,←HT.out,ByteArray.data_append,ByteArray.data_append,Array.toList_append,Array.toList_append,HS.out]
    simp
   case measure=>simp [intOf];omega
  ·obtain rfl:k=10:=by omega
   have ik:¬((10:Nat):Int) <10:=by omega
   have hall:e.nums.take 10=e.nums:=List.take_of_length_le (Nat.le_refl _)
   rw [hall,preL_nums _ (by simp [Ev.nums])] at HS
   have hsl:s.size≤300:=by
    have h1:=numsL_len e.nums HE.out.nums_in
    have h2:e.nums.length=10:=rfl
    have h3:evWord.data.toList.length=5:=rfl
    rw [size_list,HS.out,List.length_append,List.length_cons]
    omega
   have hat2:=HAT1.out.only HO.out (fun e=>e)
   have hS:EvAt wr B e∧wr.rangeAt B 12 (e.prev.map bv)∧Only NoneOf w wr:=⟨hat2,ev_range hat2,HO1.out.trans HO.out⟩
   have c8:∀W,EvAt W B e∧W.rangeAt B 12 (e.prev.map bv)∧Only NoneOf w W→W.cell? ⟨B,8,none⟩=some (.string e.name):=fun W h=>ev_cell h.1 8
   have c9:∀W,EvAt W B e∧W.rangeAt B 12 (e.prev.map bv)∧Only NoneOf w W→W.cell? ⟨B,9,none⟩=some (.string e.text):=fun W h=>ev_cell h.1 9
   have HS2:=Lib.hid hS
   clear hat2 hS
   have hu:=Tryz.underlying35
   have hi:=(show(Tryz.prog.info? 35).map (·.size)=some (e.prev.map bv).length by rw [List.length_map,HE.out.prev];kernel_rfl)
   have HKEEP:Hid (∀W W',EvAt W B e∧W.rangeAt B 12 (e.prev.map bv)∧Only NoneOf w W→Only NoneOf W W'→EvAt W' B e∧W'.rangeAt B 12 (e.prev.map bv)∧Only NoneOf w W'):=Lib.hid (fun W W' h ho=> ⟨h.1.only ho (fun e=>e),ev_range (h.1.only ho (fun e=>e)),h.2.2.trans ho⟩)
   have hS:=HKEEP.out _ _ HS2.out (Only.refl _ _).drew
   have hN:=HN.out
   have hX:=HX.out
   obtain⟨A2,hA2⟩:∃A:ByteArray,A.data.toList=hexL e.prev:=⟨⟨(hexL e.prev).toArray⟩,by simp⟩
   obtain⟨A3,hA3⟩:∃A:ByteArray,A.data.toList=quoL e.name.data.toList:=⟨⟨(quoL e.name.data.toList).toArray⟩,by simp⟩
   obtain⟨A4,hA4⟩:∃A:ByteArray,A.data.toList=quoL e.text.data.toList:=⟨⟨(quoL e.text.data.toList).toArray⟩,by simp⟩
   have z2:A2.size=64:=by rw [size_list,hA2,hexL_len,HE.out.prev]
   have z3:A3.size≤e.name.size+22:=by
    have h:=quoL_len e.name.data.toList (by rw [←size_list];omega)
    rw [←hA3,←size_list,←size_list] at h;exact h
   have z4:A4.size≤e.text.size+22:=by
    have h:=quoL_len e.text.data.toList (by rw [←size_list];omega)
    rw [←hA4,←size_list,←size_list] at h;exact h
   have y1:¬9223372036854775807<s.size+1:=by omega
   have y2:¬9223372036854775807<s.size+1+A2.size:=by omega
   have y3:¬9223372036854775807<s.size+1+A2.size+1:=by omega
   have y4:¬9223372036854775807<s.size+1+A2.size+1+A3.size:=by omega
   have y5:¬9223372036854775807<s.size+1+A2.size+1+A3.size+1:=by omega
   have y6:¬9223372036854775807<s.size+1+A2.size+1+A3.size+1+A4.size:=by omega
   have f2:∀W,Calls Tryz.prog 93 #[.agg (e.prev.map bv).toArray] W (fun e' w'=>e'= .returned (.string A2)∧Only NoneOf W w'):=fun W=> (rtext09_any e.prev HE.out.prev W).mono (by rintro e' w' ⟨t,rfl,ht,ho⟩;exact⟨by rw [bytes_ext (ht.trans hA2.symm)],ho⟩)
   have f3:∀W,Calls Tryz.prog 116 #[.string e.name] W (fun e' w'=>e'= .returned (.string A3)∧Only NoneOf W w'):=fun W=> (rstr_any e.name hN W).mono (by rintro e' w' ⟨t,rfl,ht,ho⟩;exact⟨by rw [bytes_ext (ht.trans hA3.symm)],ho⟩)
   have f4:∀W,Calls Tryz.prog 116 #[.string e.text] W (fun e' w'=>e'= .returned (.string A4)∧Only NoneOf W w'):=fun W=> (rstr_any e.text hX W).mono (by rintro e' w' ⟨t,rfl,ht,ho⟩;exact⟨by rw [bytes_ext (ht.trans hA4.symm)],ho⟩)
   have F2:=Lib.hid f2
   have F3:=Lib.hid f3
   have F4:=Lib.hid f4
   have HA2:=Lib.hid hA2
   have HA3:=Lib.hid hA3
   have HA4:=Lib.hid hA4
   clear f2 f3 f4 hA2 hA3 hA4 z2 z3 z4 hN hX hsl
   go_upto_region 7 with(fail)
   go_region_held3 (fun w'=>EvAt w' B e∧w'.rangeAt B 12 (e.prev.map bv)∧Only NoneOf w w') (first|assumption)
    (first
     |(go_at_call 93;refine(F2.out _).mono ?_;rintro e2 w2 ⟨rfl,ho2⟩;have hS2:=HKEEP.out _ _ (by assumption) ho2;clear ho2)
     |(go_at_call 116;(with_reducible refine(F3.out _).mono ?_);rintro e3 w3 ⟨rfl,ho3⟩;have hS3:=HKEEP.out _ _ (by assumption) ho3;clear ho3)
     |(go_at_call 116;(with_reducible refine(F4.out _).mono ?_);rintro e4 w4 ⟨rfl,ho4⟩;have hS4:=HKEEP.out _ _ (by assumption) ho4;clear ho4))
   go_wp2_with fail
   refine⟨rfl,_,results_tmp rfl _ _ _,?_⟩
   refine RetStr.mk ?_ hS4.2.2
   rw [evText]
   simp only [ByteArray.data_append,Array.toList_append,HA2.out,HA3.out,HA4.out,HS.out]
   simp [evWord]
end Go.Proofs.YtgalfohobgjelaaGreatDoor
namespace Go.Proofs.YtgalfohobgjelaaGreatDoor
open Go.RowKit Go.Shelf
attribute [local go_sem ↓ high] evLoad_eq
set_option maxRecDepth 100000 in
set_option maxHeartbeats 4000000 in
theorem rencode_any (e:Ev) (he:e.Ok) (hn:e.name.size≤8796093022208) (hx:e.text.size≤8796093022208) (w:World):Calls Tryz.prog 36 #[.agg (evC e).toArray] w (RetStr (evCode e) w):=by
 obtain⟨B,eB⟩:∃B,B=w.heap.size:=⟨_,rfl⟩
 obtain⟨X,eX⟩:∃X,X=w.alloc (.cells (evC e).toArray tEv):=⟨_,rfl⟩
 have hat:EvAt X B e:=by rw [eX,eB];exact Blk.new w _ _
 have hox:Only NoneOf w X:=by rw [eX];exact(Only.refl _ _).alloc _
 have hS:EvAt X.drew B e∧Only NoneOf w X.drew:=⟨hat.drew,hox.drew⟩
 have c44:∀W,EvAt W B e∧Only NoneOf w W→W.cell? ⟨B,44,none⟩=some (.int .i64 e.r):=fun W h=> (ev_sig h.1 he.prev).1
 have c45:∀W,EvAt W B e∧Only NoneOf w W→W.cell? ⟨B,45,none⟩=some (.int .i64 e.s):=fun W h=> (ev_sig h.1 he.prev).2
 have cld:∀W,EvAt W B e∧Only NoneOf w W→(evLoad (.pointer (some ⟨B,0,none⟩))).run Tryz.prog W= .ok (.agg (evC e).toArray) W:=fun W h=>ev_load h.1 he.prev
 obtain⟨A2,hA2⟩:∃A:ByteArray,A.data.toList=Lib.itoa e.r:=⟨⟨(Lib.itoa e.r).toArray⟩,by simp⟩
 obtain⟨A3,hA3⟩:∃A:ByteArray,A.data.toList=Lib.itoa e.s:=⟨⟨(Lib.itoa e.s).toArray⟩,by simp⟩
 obtain⟨A4,hA4⟩:∃A:ByteArray,A.data.toList=evText e:=⟨⟨(evText e).toArray⟩,by simp⟩
 have z2:A2.size≤21:=by rw [size_list,hA2];exact itoa_len he.r.1 he.r.2
 have z3:A3.size≤21:=by rw [size_list,hA3];exact itoa_len he.s.1 he.s.2
 have z4:A4.size≤17592186044416+400:=by
  rw [size_list,hA4]
  have l1:=numsL_len e.nums he.nums_in
  have l2:=hexL_len e.prev
  have l3:=quoL_len e.name.data.toList (by rw [←size_list];omega)
  have l4:=quoL_len e.text.data.toList (by rw [←size_list];omega)
  rw [←size_list] at l3 l4
  rw [he.prev] at l2
  have l5:e.nums.length=10:=rfl
  unfold evText
  simp only [List.length_append,List.length_cons,List.length_nil]
  omega
 have y1:¬9223372036854775807<A2.size+1:=by omega
 have y2:¬9223372036854775807<A2.size+1+A3.size:=by omega
 have y3:¬9223372036854775807<A2.size+1+A3.size+1:=by omega
 have y4:¬9223372036854775807<A2.size+1+A3.size+1+A4.size:=by omega
 have f2:∀W,Calls Tryz.prog 66 #[.int .i64 e.r] W (fun e' w'=>e'= .returned (.string A2)∧Only NoneOf W w'):=fun W=> (rnumber_any e.r he.r.1 he.r.2 W).mono (by rintro e' w' ⟨t,rfl,ht,ho⟩;exact⟨by rw [bytes_ext (ht.trans hA2.symm)],ho⟩)
 have f3:∀W,Calls Tryz.prog 66 #[.int .i64 e.s] W (fun e' w'=>e'= .returned (.string A3)∧Only NoneOf W w'):=fun W=> (rnumber_any e.s he.s.1 he.s.2 W).mono (by rintro e' w' ⟨t,rfl,ht,ho⟩;exact⟨by rw [bytes_ext (ht.trans hA3.symm)],ho⟩)
 have f4:∀W,Calls Tryz.prog 67 #[.agg (evC e).toArray] W (fun e' w'=>e'= .returned (.string A4)∧Only NoneOf W w'):=fun W=> (revtext_any e he hn hx W).mono (by rintro e' w' ⟨t,rfl,ht,ho⟩;exact⟨by rw [bytes_ext (ht.trans hA4.symm)],ho⟩)
 have hcode:A2.data.toList++ [32] ++A3.data.toList++ [32] ++A4.data.toList=evCode e:=by
  rw [hA2,hA3,hA4]
  simp [evCode,numsL]
 have HCODE:=Lib.hid hcode
 have HS:=Lib.hid hS
 have F2:=Lib.hid f2
 have F3:=Lib.hid f3
 have F4:=Lib.hid f4
 have EX:=Lib.hid eX
 have EB:=Lib.hid eB
 have HKEEP:Hid (∀W W',EvAt W B e∧Only NoneOf w W→Only NoneOf W W'→EvAt W' B e∧Only NoneOf w W'):=Lib.hid (fun W W' h ho=> ⟨h.1.only ho (fun e=>e),h.2.trans ho⟩)
 clear hat hox hS f2 f3 f4 eX eB he hn hx z2 z3 z4 hA2 hA3 hA4 hcode
 go_enter Tryz.func36,Tryz.ntmps36
 go_wp2_with fail
 rw [←EX.out,←EB.out]
 clear EX EB
 have hS:=HS.out
 go_region_held3 (fun w'=>EvAt w' B e∧Only NoneOf w w') (first|assumption)
  (first
   |(go_at_call 66;(with_reducible refine(F2.out _).mono ?_);rintro e2 w2 ⟨rfl,ho2⟩;have hS2:=HKEEP.out _ _ (by assumption) ho2;clear ho2)
   |(go_at_call 66;(with_reducible refine(F3.out _).mono ?_);rintro e3 w3 ⟨rfl,ho3⟩;have hS3:=HKEEP.out _ _ (by assumption) ho3;clear ho3)
   |(go_at_call 67;refine(F4.out _).mono ?_;rintro e4 w4 ⟨rfl,ho4⟩;have hS4:=HKEEP.out _ _ (by assumption) ho4;clear ho4))
 go_wp2_with fail
 refine⟨rfl,_,results_tmp rfl _ _ _,?_⟩
 refine RetStr.mk ?_ hS4.2
 rw [←HCODE.out]
 simp only [ByteArray.data_append,Array.toList_append]
end Go.Proofs.YtgalfohobgjelaaGreatDoor
namespace Go.Proofs.YtgalfohobgjelaaGreatDoor
open Go.RowKit Go.Shelf
attribute [local go_sem ↓ high] evLoad_eq
set_option maxRecDepth 100000 in
set_option maxHeartbeats 2000000 in
theorem revhash_any (e:Ev) (he:e.Ok) (hn:e.name.size≤8796093022208) (hx:e.text.size≤8796093022208) (w:World):Calls Tryz.prog 40 #[.agg (evC e).toArray] w fun e' w'=>e'= .returned (hv (hashE e))∧Only NoneOf w w':=by
 have hat:EvAt (w.alloc (.cells (evC e).toArray 79)) w.heap.size e:=Blk.new w _ _
 have hal:∀W o,EvAt W w.heap.size e→EvAt (W.alloc o) w.heap.size e:=fun W o h=>Blk.alloc h o
 have cld:∀W,EvAt W w.heap.size e→(evLoad (.pointer (some ⟨w.heap.size,0,none⟩))).run Tryz.prog W= .ok (.agg (evC e).toArray) W:=fun W h=>ev_load h he.prev
 have henc:∀W,Calls Tryz.prog 36 #[.agg (evC e).toArray] W (RetStr (evCode e) W):=fun W=>rencode_any e he hn hx W
 have hcl:=evCode_len he hn hx
 have hl:=hashE_len e
 have hi:(Tryz.prog.info? 35).map (·.size)=some ((hashE e).map bv).toArray.size:=by rw [List.size_toArray,List.length_map,hl];kernel_rfl
 have hone:((hashE e).map bv).toArray.all (·.oneCell')=true:=all_oneCell_toArray (bvs_one _)
 have HENC:=Lib.hid henc
 have HCL:=Lib.hid hcl
 have HL:=Lib.hid hl
 have HI:=Lib.hid hi
 have HONE:=Lib.hid hone
 clear henc hcl hl hi hone he hn hx
 go_enter Tryz.func40,Tryz.ntmps40
 go_wp2_with fail
 have hb0:=Blk.new (w.alloc (.cells (evC e).toArray 79)) 35 (Array.replicate 32 (.int .u8 0))
 rw [World.size_alloc] at hb0
 have ho0:Only NoneOf w ((w.alloc (.cells (evC e).toArray 79)).alloc (.cells (Array.replicate 32 (.int .u8 0)) 35)):=((Only.refl _ _).alloc _).alloc _
 refine calls_gen (fun Y=>Blk Y (w.heap.size+1) 35 (Array.replicate 32 (.int .u8 0))∧Only NoneOf w Y) ⟨hb0,ho0⟩ ?_
 rintro Y ⟨hb1,ho1⟩
 clear hb0 ho0 cld hal hat
 refine(HENC.out Y).mono ?_
 rintro e1 w1 ⟨t,rfl,htl,ho2⟩
 have hb2:=hb1.only ho2 (fun e=>e)
 have hts:t.size≤35184372088832:=by rw [size_list,htl];have:=HCL.out;omega
 have hsum:=rsum_any t
 rw [htl] at hsum
 have HB2:=Lib.hid hb2
 have HO2:=Lib.hid (ho1.trans ho2)
 have HSUM:=Lib.hid hsum
 clear hb1 ho1 ho2 htl hb2 hsum
 go_wp2_with fail
 refine(HSUM.out w1 hts).mono ?_
 rintro e2 w2 ⟨rfl,ho3⟩
 have hb3:=HB2.out.only ho3 (fun e=>e)
 have hth:w2.there (w.heap.size+1) 0 ((hashE e).map bv).toArray.size:=hb3.there 0 _ (by rw [List.size_toArray,List.length_map,HL.out];simp)
 have HB3:=Lib.hid hb3
 have HO3:=Lib.hid (HO2.out.trans ho3)
 have HTH:=Lib.hid hth
 clear hb3 hth ho3
 have tok:True:=trivial
 go_wp2_with (have _t:=tok;refine wpList_store_mid rfl 35 (.tmp 2) (.tmp 5) rfl (w.heap.size+1) 0 ((hashE e).map bv).toArray rfl rfl HTH.out HI.out HONE.out ?_;clear tok _t)
 have hb4:=HB3.out
 rw [←List.toArray_replicate] at hb4
 have hb5:=hb4.filled ((hashE e).map bv).toArray.toList (by simp [HL.out])
 refine bodyPost_ret (v:=hv (hashE e)) (results_blk rfl rfl hb5 Tryz.underlying35 rfl (by simpa using HI.out)) rfl ⟨rfl,only_setCells HO3.out _ _ (.inr (by omega)) _⟩
end Go.Proofs.YtgalfohobgjelaaGreatDoor
namespace Go.Proofs.YtgalfohobgjelaaGreatDoor
end Go.Proofs.YtgalfohobgjelaaGreatDoor
namespace Go.Proofs.YtgalfohobgjelaaGreatDoor
open Go.RowKit Go.Shelf
attribute [local go_sem ↓ high] evStore_eq evLoad_eq
theorem ev_set {W:World} {B:Nat} {e f:Ev} {i:Nat} {v:Value} (h:EvAt W B e) (hs:(evC e).set i v=evC f):EvAt (W.setCell ⟨B,i,none⟩ v) B f:=by
 have h1:=Blk.set_ h i v
 rw [List.setIfInBounds_toArray,hs] at h1
 exact h1
theorem set_sig (e:Ev) (hp:e.prev.length=32) (v:Int):(evC e).set 44 (.int .i64 v)=evC { e with r:=v}∧(evC e).set 45 (.int .i64 v)=evC { e with s:=v}:=by
 unfold evC
 constructor
 ·rw [List.set_append_right _ _ (by simp)]
  simp only [List.length_cons,List.length_nil]
  rw [List.set_append_right _ _ (by simp [hp])]
  simp [hp]
 ·rw [List.set_append_right _ _ (by simp)]
  simp only [List.length_cons,List.length_nil]
  rw [List.set_append_right _ _ (by simp [hp])]
  simp [hp]
end Go.Proofs.YtgalfohobgjelaaGreatDoor
