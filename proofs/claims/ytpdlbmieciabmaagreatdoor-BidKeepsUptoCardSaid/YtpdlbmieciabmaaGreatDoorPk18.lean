/-What is proved here:a price text,by the bids' code. Conditions:the text is short,the numbers are ints. -/
import Derived.Test.YtpdlbmieciabmaaGreatDoorPk13
import Derived.Test.YtpdlbmieciabmaaGreatDoorPk17
import Derived.Deep.Upon
namespace Go.Proofs.YtpdlbmieciabmaaGreatDoor
open Go.RowKit Go.Shelf
attribute [local go_sem ↓ high] aph_eq
theorem run_append_sl{α:Type}{T t:TypeId}{k B:Nat}{c:α→List Value}(hT:Tryz.prog.underlying T=some (.slice t))(hI:RecI t k B)(hk:0<k)(hB:B≤128)(hc:∀p,(c p).length =k)(h1:∀p,∀u∈c p,u.oneCell' =true)(W:World)(base:Nat)(v u:Value)(M N:List α)(hown:OwnOf t c k W base v M.length M)(hsrc:SlOf c k W u N)(hn:M.length+N.length≤1000000000)(hb:base≤W.heap.size)(ty:TypeId):
  ∃A cap W',(aph #[T,T] ty #[v,u]).run Tryz.prog W= .ok (.slice A (M.length+N.length) cap) W'∧OwnOf t c k W' base (.slice A (M.length+N.length) cap) (M.length+N.length) (M++N)∧W.grownBy W' v.ownBlock:=by
 obtain⟨ie,z,hie,hsz,hz,hzc,hby⟩:=hI
 obtain⟨A0,cap0,rfl,hc1,hc2,hA⟩:=hsrc
 by_cases h0:N=[]
 ·subst h0
  obtain⟨A,cap,rfl,g1,g2⟩:=own_form' hown
  rw[List.append_nil]
  have hs:Src Tryz.prog ie.size T (.slice A0 0 cap0) 0 [] W:=by
   cases A0 with
   |none=>exact Src.ofNil W hT cap0
   |some a=>exact Src.ofSlice W hT a 0 cap0 [] (by rw[Nat.zero_mul];rfl) (fun j u h=>by simp at h) (fun u h=>by cases h)
  exact⟨A,cap,W,run_append_nothing W _ _ ty t ie hT hie A M.length cap g1 _ hs,hown,⟨rfl,rfl,rfl,Nat.le_refl _,fun _ _ _=>rfl⟩⟩
 ·obtain⟨q,hq⟩:∃q,N[0]? =some q:=by
   cases N with
   |nil=>exact absurd rfl h0
   |cons x l=>exact⟨x,rfl⟩
  obtain⟨g,o,rfl,_,_⟩:=hA 0 q hq
  have hl:(N.flatMap c).length =N.length*k:=flat_len hc N
  have hnews:∀j x,(N.flatMap c)[j]? =some x→W.cell? ((⟨g,o,none⟩:Addr).add j)=some x:=fun j x hj=>by
   have hlt:=(List.getElem?_eq_some_iff.1 hj).1
   rw[hl] at hlt
   have hjk:j/k<N.length:=Nat.div_lt_of_lt_mul (by rw[Nat.mul_comm];exact hlt)
   obtain⟨p,hp⟩:∃p,N[j/k]? =some p:=⟨_,List.getElem?_eq_getElem hjk⟩
   obtain⟨g',o',e,_,hr⟩:=hA (j/k) p hp
   cases e
   have hdm:j/k*k+j%k=j:=by rw[Nat.mul_comm];exact Nat.div_add_mod j k
   have h2:=flat_get hc N (j/k) (j%k) (Nat.mod_lt _ hk) p hp
   rw[hdm,hj] at h2
   have h3:=hr (j%k) x h2.symm
   rw[show o+j/k*k+j%k=o+j by omega] at h3
   rw[Addr.add_mid]
   exact h3
  have h1' :∀u∈N.flatMap c,u.oneCell' =true:=fun u hu=>by
   obtain⟨p,_,hp⟩:=List.mem_flatMap.1 hu
   exact h1 p u hp
  have hmul:(M.length+N.length)*B≤(M.length+N.length)*128:=Nat.mul_le_mul (Nat.le_refl _) hB
  obtain⟨v',W',hr,h2,h3,_,h5⟩:=run_append_own_at (P:=Tryz.prog) W base T ty t ie z k B hT hie hz hsz hby hzc hk v M.length (M.flatMap c) hown ⟨g,o,none⟩ N.length cap0 (N.flatMap c) hl hnews h1' (by rw[maxLen_val];omega) (by omega) hb
  obtain⟨A,cap',e,_,_⟩:=own_form' h2
  subst e
  exact⟨A,cap',W',hr,by unfold OwnOf;rw[List.flatMap_append];exact h2,h3⟩
theorem OwnOf.one{α:Type}{t:TypeId}{c:α→List Value}{k:Nat}{W:World}{N base:Nat}{p:α}(hb:Blk W N t (c p).toArray)(hc:(c p).length =k)(h:base≤N):OwnOf t c k W base (.slice (some ⟨N,0,none⟩) 1 1) 1 [p]:=by
 refine⟨by simp[hc],.inr ⟨N,1,(c p).toArray,rfl,h,hb,Nat.le_refl _,by rw[maxLen_val];omega,by simp[hc],by simp[←hc]⟩⟩
theorem rb_at{w:World}{v:Value}{rs:List Rb}(h:RbSl w v rs):∃A cap,v= .slice A rs.length cap∧rs.length≤cap∧cap≤9223372036854775807∧∀(i:Nat) (r:Rb),rs[i]? =some r→∃g o u,A=some ⟨g,o,none⟩∧g<w.heap.size∧w.cell? ⟨g,o+i*2,none⟩=some u∧w.cell? ⟨g,o+i*2+1,none⟩=some (.int .i64 r.pc)∧SlOf inC 1 w u r.lots:=by
 obtain⟨A,n,cap,rfl⟩:∃A n cap,v= .slice A n cap:=by
  obtain⟨L,_,⟨A,cap,hv,_⟩,_⟩:=h
  exact⟨_,_,_,hv⟩
 obtain⟨rfl,h1,h2,h3⟩:=h.at_
 refine⟨A,cap,rfl,h1,h2,fun i r hr=> ?_⟩
 obtain⟨g,o,c,hA,hg,hrg,e1,e2⟩:=h3 i r hr
 refine⟨g,o,c.v,hA,hg,hrg 0 _ rfl,?_,e2⟩
 rw[←e1]
 exact hrg 1 _ rfl
theorem intsU_own{W:World}{B base n cap:Nat}{A:Option Addr}{ns:List Int}(h:OwnOf 3 inC 1 W base (.slice A n cap) ns.length ns)(hB:B<base):IntsU B A ns W:=by
 rcases h.2 with⟨_,h0⟩|⟨g,cap',cur,hv,hb,hh,_⟩
 ·exact .inl (List.eq_nil_of_length_eq_zero h0)
 ·simp only[Value.slice.injEq] at hv
  obtain⟨rfl,_,_⟩:=hv
  refine .inr ⟨g,0,cur,rfl,by omega,hh,fun j x hx=> ?_⟩
  have t1:=flat_get inC_len ns j 0 (by omega) x hx
  have t2:=World.ownsRow.cells h rfl (j*1+0) (.int .i64 x) (by rw[t1];rfl)
  rw[Addr.add_mid] at t2
  simpa using t2
theorem pl_take_le(es:List En)(rs:List Rb)(k:Nat):(textG ((es.take k).map pLine)).length≤(pricL es rs).length :=by
 have h:=take_text_le (es.map pLine) k
 rw[←List.map_take] at h
 rw[pric_split,List.length_append]
 omega
theorem rl_take_le(es:List En)(rs:List Rb)(k:Nat):(textG (es.map pLine)++textG ((rs.take k).map rLine)).length≤(pricL es rs).length :=by
 have h:=take_text_le (rs.map rLine) k
 rw[←List.map_take] at h
 rw[pric_split,List.length_append,List.length_append]
 omega
theorem words_ge:∀ns:List Int,ns.length≤(wordsN ns).length
 |[]=>Nat.zero_le _
 |n::ns=>by
  have:=words_ge ns
  rw[wordsN_cons]
  simp only[List.length_cons,List.length_append]
  omega
theorem lots_le{es:List En}{rs:List Rb}{r:Rb}(h:r∈rs):r.lots.length+1≤(pricL es rs).length :=by
 have h1:=textG_ge_mem (p:=pLines es rs) (x:=rLine r) (by unfold pLines;exact List.mem_append_right _ (List.mem_map_of_mem h))
 have h2:=words_ge (r.pc::r.lots)
 unfold rLine lineOf lineL at h1
 simp only[List.length_append,List.length_cons] at h1 h2
 unfold pricL
 omega
theorem in_two{a b:Int}(h:In a)(k:In b):∀x∈[a,b],In x:=fun x hx=>by
 simp only[List.mem_cons,List.not_mem_nil,or_false] at hx
 rcases hx with rfl|rfl
 ·exact h
 ·exact k
theorem intsU_two{W:World}{B g:Nat}{a b:Int}(hb:Blk W g 3 #[.int .i64 a,.int .i64 b])(hg:g≠B):IntsU B (some ⟨g,0,none⟩) [a,b] W:=
 .inr ⟨g,0,_,rfl,hg,hb,fun j x hx=>by
  match j,hx with
  |0,hx=>
   simp only[List.getElem?_cons_zero,Option.some.injEq] at hx
   subst hx
   exact hb.cell 0
  |1,hx=>
   simp only[List.getElem?_cons_succ,List.getElem?_cons_zero,Option.some.injEq] at hx
   subst hx
   exact hb.cell 1⟩
set_option maxRecDepth 100000 in
set_option maxHeartbeats 2000000 in
theorem prices_any(es:List En)(rs:List Rb)(hin:∀e∈es,EnIn e)(hrn:∀r∈rs,RbIn r)(hl:(pricL es rs).length≤100000000)(v u:Value)(w:World)(h:EnSl w v es)(hrb:RbSl w u rs)(ht:Tab w):Calls Tryz.prog 15 #[v,u] w (RetStr (pricL es rs) w):=by
 obtain⟨A,cap,rfl,hc1,hc2,hat⟩:=en_at h
 obtain⟨A1,cap1,rfl,hb1,hb2,hrat⟩:=rb_at hrb
 have HAT:=Lib.hid hat
 have HRT:=Lib.hid hrat
 have HT:=Lib.hid ht
 have HIN:=Lib.hid hin
 have HRN:=Lib.hid hrn
 have hgl:=tab_lt ht
 obtain⟨B,eB⟩:∃B,B=w.heap.size:=⟨_,rfl⟩
 have hst:=QlS.start w w (Only.refl _ _)
 rw[←eB] at hst
 have HST:=Lib.hid hst
 have hwB:w.heap.size≤B:=by omega
 have HEB:=Lib.hid eB
 have hgb:3<B:=by omega
 clear hat hrat h hrb ht hin hrn hst eB
 go_enter Tryz.func15,Tryz.ntmps15
 go_wp2_with fail
 rw[←HEB.out]
 go_loopw [14] (fun i wr=>∃k:Nat,i= .int .i64 k∧k≤es.length∧QlS w B (textG ((es.take k).map pLine)) wr) (fun i _=>es.length-(intOf i).toNat)
 case atStart=>exact⟨0,rfl,Nat.zero_le _,HST.out⟩
 case round=>
  obtain⟨k,rfl,hk,hS⟩:=hrel
  have HS:=Lib.hid hS
  clear hS
  by_cases hlt:k<es.length
  ·obtain⟨x,hx⟩:∃x,es[k]? =some x:=⟨_,List.getElem?_eq_getElem hlt⟩
   obtain⟨g,o,u,rfl,hg,c0,c1,c2,c3,c4,hvs⟩:=HAT.out k x hx
   obtain⟨A2,cap2,rfl,hd1,hd2,_⟩:=vl_at hvs
   have ho:=HS.out.only
   have d0:=ho.cell_some c0 (fun e=>e)
   have d1:=ho.cell_some c1 (fun e=>e)
   have d2:=ho.cell_some c2 (fun e=>e)
   have d3:=ho.cell_some c3 (fun e=>e)
   have d4:=ho.cell_some c4 (fun e=>e)
   have HXI:=Lib.hid (HIN.out x (List.mem_of_getElem? hx))
   have HX:=Lib.hid (p_text_snoc hx)
   have hpk:=pl_take_le es rs k
   have ik:(k:Int)<es.length:=by omega
   obtain⟨lot,elot⟩:∃n,n=x.lot:=⟨_,rfl⟩
   obtain⟨pr,epr⟩:∃n,n=x.price:=⟨_,rfl⟩
   have hI:=Blk.new (wr.alloc (.cells #[.int .i64 0,.int .i64 lot,.int .i64 0,.int .i64 pr,.slice A2 x.values.length cap2] 37)) 3 #[.int .i64 lot,.int .i64 pr]
   rw[World.size_alloc] at hI
   have hBw:B<wr.heap.size:=by
    have:=HS.out.wr
    rcases this with h|h<;>exact Nat.lt_of_lt_of_le (Nat.lt_succ_self B) h.2.1
   have hox:Only NoneOf wr ((wr.alloc (.cells #[.int .i64 0,.int .i64 lot,.int .i64 0,.int .i64 pr,.slice A2 x.values.length cap2] 37)).alloc (.cells #[.int .i64 lot,.int .i64 pr] 3)):=((Only.refl _ _).alloc _).alloc _
   have HI:=Lib.hid hI
   have HOX:=Lib.hid hox
   rw[←elot] at d1
   rw[←epr] at d3
   have HEL:=Lib.hid elot
   have HEP:=Lib.hid epr
   clear hx hvs c0 c1 c2 c3 c4 hI hox ho elot epr
   go_wp2_with fail
   refine(lineU_any (C:=B+1) (ns:=[lot,pr]) lotB (by decide) (HS.out.keep HOX.out).wr (by simp) (in_two (by rw[HEL.out];exact HXI.out.1) (by rw[HEP.out];exact HXI.out.2.1)) (intsU_two HI.out (by omega)) (HT.out.none (HS.out.only.trans HOX.out)) hgb (by omega)).mono ?_
   rintro e w2 ⟨rfl,h2,ho2⟩
   have HS2:=Lib.hid ((HS.out.keep HOX.out).line (x:=(wLot,[lot,pr])) hwB h2 ho2)
   clear h2 ho2 d0 d1 d2 d3 d4
   go_wp2_with fail
   go_roundw
   case rel=>exact⟨k+1,by go_num,by omega,by have:=HS2.out;rw[HEL.out,HEP.out] at this;rw[HX.out];exact this⟩
   case measure=>simp[intOf];omega
  ·obtain rfl:k=es.length:=by omega
   have ik:¬(es.length:Int)<es.length:=by omega
   have hall:=HS.out
   rw[List.take_of_length_le (Nat.le_refl _)] at hall
   have HG:=Lib.hid hall
   clear hall
   go_wp2_with fail
   go_loopw [28] (fun i wr=>∃k:Nat,i= .int .i64 k∧k≤rs.length∧QlS w B (textG (es.map pLine)++textG ((rs.take k).map rLine)) wr) (fun i _=>rs.length-(intOf i).toNat)
   case atStart=>exact⟨0,rfl,Nat.zero_le _,by simpa [textG] using HG.out⟩
   case round=>
    obtain⟨k,rfl,hk,hS⟩:=hrel
    have HS:=Lib.hid hS
    clear hS
    by_cases hlt:k<rs.length
    ·obtain⟨x,hx⟩:∃x,rs[k]? =some x:=⟨_,List.getElem?_eq_getElem hlt⟩
     obtain⟨g,o,u,rfl,hg,c0,c1,hvs⟩:=HRT.out k x hx
     obtain⟨A2,cap2,rfl,hd1,hd2,_⟩:=id hvs
     have ho:=HS.out.only
     have d0:=ho.cell_some c0 (fun e=>e)
     have d1:=ho.cell_some c1 (fun e=>e)
     have hxm:=List.mem_of_getElem? hx
     have HXI:=Lib.hid (HRN.out x hxm)
     have hll:=lots_le (es:=es) hxm
     have HX:=Lib.hid (r_text_snoc hx)
     have hpk:=rl_take_le es rs k
     have ik:(k:Int)<rs.length:=by omega
     obtain⟨pc,epc⟩:∃n,n=x.pc:=⟨_,rfl⟩
     have hI:=Blk.new (wr.alloc (.cells #[.slice A2 x.lots.length cap2,.int .i64 pc] 86)) 3 #[.int .i64 pc]
     rw[World.size_alloc] at hI
     have hBw:B<wr.heap.size:=by
      have:=HS.out.wr
      rcases this with h|h<;>exact Nat.lt_of_lt_of_le (Nat.lt_succ_self B) h.2.1
     have hox:Only NoneOf wr ((wr.alloc (.cells #[.slice A2 x.lots.length cap2,.int .i64 pc] 86)).alloc (.cells #[.int .i64 pc] 3)):=((Only.refl _ _).alloc _).alloc _
     obtain⟨A3,cap3,W',hrun,k1,k2⟩:=run_append_sl (T:=38) Tryz.underlying38 intI (by omega) (by omega) inC_len inC_one ((wr.alloc (.cells #[.slice A2 x.lots.length cap2,.int .i64 pc] 86)).alloc (.cells #[.int .i64 pc] 3)) (wr.heap.size+1) (.slice (some ⟨wr.heap.size+1,0,none⟩) 1 1) (.slice A2 x.lots.length cap2) [pc] x.lots (OwnOf.one (p:=pc) hI rfl (Nat.le_refl _)) (hvs.only (ho.trans hox)) (by simp only[List.length_singleton];omega) (by simp) 38
     rw[show [pc].length +x.lots.length=x.lots.length+1 by rw[List.length_singleton];omega] at hrun k1
     have hoW:Only NoneOf wr W' :=hox.grown k2 (fun b e=> .inr (by cases e;simp))
     have HEC:=Lib.hid epc
     rw[←epc] at d1
     have HOX:=Lib.hid hoW
     have HI:Hid (IntsU B A3 (pc::x.lots) W'):=Lib.hid (intsU_own (ns:=[pc]++x.lots) (B:=B) (by rw[List.length_append,show [pc].length +x.lots.length=x.lots.length+1 by rw[List.length_singleton];omega];exact k1) (by omega))
     have hE:=Blk.new wr 86 #[.slice A2 x.lots.length cap2,.int .i64 pc]
     have e0:∀o,(wr.alloc (.cells #[.slice A2 x.lots.length cap2,.int .i64 pc] 86)).alloc o=(wr.alloc (.cells #[.slice A2 x.lots.length cap2,.int .i64 pc] 86)).alloc o→((wr.alloc (.cells #[.slice A2 x.lots.length cap2,.int .i64 pc] 86)).alloc o).cell? ⟨wr.heap.size,0,none⟩=some (.slice A2 x.lots.length cap2):=fun o _=>(hE.alloc o).cell 0
     clear hx hvs c0 c1 hI hox hoW ho hxm epc k1 k2 hE
     go_wp2_with fail
     refine(lineU_any (C:=B+1) (ns:=pc::x.lots) ⟨#[114,101,98,97,116,101]⟩ (by decide) (HS.out.keep HOX.out).wr (by rw[List.length_cons];omega) (by rw[HEC.out];exact fun n hn=>by rcases List.mem_cons.1 hn with rfl|hn;exact HXI.out.1;exact HXI.out.2 n hn) HI.out (HT.out.none (HS.out.only.trans HOX.out)) hgb (by omega)).mono ?_
     rintro e w2 ⟨rfl,h2,ho2⟩
     have HS2:=Lib.hid ((HS.out.keep HOX.out).line (x:=(wRebate,pc::x.lots)) hwB h2 ho2)
     clear h2 ho2 d0 d1
     go_wp2_with fail
     go_roundw
     case rel=>exact⟨k+1,by go_num,by omega,by have:=HS2.out;rw[HEC.out,List.append_assoc] at this;rw[HX.out];exact this⟩
     case measure=>simp[intOf];omega
    ·obtain rfl:k=rs.length:=by omega
     have ik:¬(rs.length:Int)<rs.length:=by omega
     have hall:=HS.out
     rw[List.take_of_length_le (Nat.le_refl _),←pric_split] at hall
     have HG:=Lib.hid hall
     clear hall
     by_cases h0:pricL es rs=[]
     ·have c1:=HG.out.none_ h0
      go_wp2_with fail
      refine(wstring_none (b:=B) c1).mono ?_
      rintro e w3 ⟨rfl,ho3⟩
      go_wp2_with fail
      go_ret
      exact RetStr.mk (by rw[h0]) (HG.out.only.trans ho3)
     ·go_wp2_with fail
      refine(wstring_any (B:=B) (b:=B) (l:=pricL es rs) (by rcases HG.out.wr with h|h;exact .inl (wb_at h);exact .inr (wb_at h)) h0).mono ?_
      rintro e w3 ⟨rfl,hb⟩
      go_wp2_with fail
      go_ret
      exact RetStr.mk (by simp) (HG.out.only.below' hb hwB)
end Go.Proofs.YtpdlbmieciabmaaGreatDoor
