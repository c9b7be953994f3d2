/-What is proved here:several parts. lots with values that a call makes:a lot is appended,a value is appended to the last lot. Conditions:there are few. · a text is split into rows of words,and words read as numbers,by the bids' code. Conditions:the texts are short;the library's variables hold what their initialisers lay. -/
import Derived.Test.YtpdlbmieciabmaaGreatDoorPk11
import Derived.Test.YtpdlbmieciabmaaGreatDoorPk12
import Derived.WalkSmall
namespace Go.Proofs.YtpdlbmieciabmaaGreatDoor
open Go.RowKit Go.Shelf
theorem only_base{w W W' :World}{base:Nat}(h:Only NoneOf w W)(k:Only (fun i=>base≤i) W W')(hb:w.heap.size≤base):Only NoneOf w W' :=h.trans' k (fun i hi hs=>by omega)
def TS(base:Nat)(w:World)(ts:List TypeId):Nat→Prop:=fun i=>base≤i∧∀t cur,Blk w i t cur→t∈ts
theorem ts_trans{base:Nat}{ts:List TypeId}{w w1 w2:World}(h:Only (TS base w ts) w w1)(k:Only (TS base w1 ts) w1 w2):Only (TS base w ts) w w2:=by
 refine⟨k.os.trans h.os,k.tape.trans h.tape,k.output.trans h.output,Nat.le_trans h.size k.size,fun i hi hn=> ?_⟩
 have e:=h.block i hi hn
 refine(k.block i (Nat.lt_of_lt_of_le hi h.size) (fun hs=>hn ⟨hs.1,fun t cur hb=>hs.2 t cur (e.trans hb)⟩)).trans e
theorem ts_mono{base:Nat}{ts us:List TypeId}{w w' :World}(h:Only (TS base w ts) w w')(hs:∀t∈ts,t∈us):Only (TS base w us) w w' :=h.mono (fun _ _ k=>⟨k.1,fun t cur hb=>hs t (k.2 t cur hb)⟩)
theorem ts_none{base:Nat}{ts:List TypeId}{w w' :World}(h:Only NoneOf w w'):Only (TS base w ts) w w' :=h.mono (fun _ _ e=>e.elim)
theorem ts_base{base:Nat}{ts:List TypeId}{w w' :World}(h:Only (TS base w ts) w w'):Only (fun i=>base≤i) w w' :=h.mono (fun _ _ k=>k.1)
theorem Blk.ty{w:World}{g:Nat}{t t' :TypeId}{cs cs' :Array Value}(h:Blk w g t cs)(h' :Blk w g t' cs'):t=t' :=Classical.byContradiction fun hne=>Blk.ne_ h h' hne rfl
theorem own_there{w:World}{base n size k:Nat}{e:TypeId}{v:Value}{xs:List Value}(h:w.ownsRow base e size v n xs)(hk:v.ownBlock=some k):∃cur,Blk w k e cur:=by
 rcases h.2 with⟨rfl,_⟩|⟨g,cap,cur,rfl,_,hh,_⟩
 ·cases hk
 ·cases hk
  exact⟨cur,hh⟩
theorem ts_set{base:Nat}{ts:List TypeId}{w:World}{g j:Nat}{t:TypeId}{cur:Array Value}(hb:Blk w g t cur)(hg:base≤g)(ht:t∈ts)(u:Value):Only (TS base w ts) w (w.setCell ⟨g,j,none⟩ u):=
 (Only.refl _ w).setCell (p:=⟨g,j,none⟩) (.inl ⟨hg,fun t' cur' hb' =>by rw[←hb.ty hb'];exact ht⟩) u
theorem grown_ts{w W:World}{base:Nat}{v:Value}{t:TypeId}{k n:Nat}{xs:List Value}(hg:w.grownBy W v.ownBlock)(h:w.ownsRow base t k v n xs):Only (TS base w [t]) w W:=(Only.refl _ _).grown hg (fun b e=> .inl ⟨(h.lt b e).1,fun t' cur' hb=>by
 obtain⟨cur,hc⟩:=own_there h e
 rw[hb.ty hc]
 simp⟩)
theorem OwnOf.ts{α:Type}{t:TypeId}{c:α→List Value}{k:Nat}{w w' :World}{base base' n:Nat}{ts:List TypeId}{v:Value}{L:List α}(h:OwnOf t c k w base v n L)(ho:Only (TS base' w ts) w w')(ht:t∉ts):OwnOf t c k w' base v n L:=OwnOf.keep h ho (fun b hb hs=>by
 obtain⟨cur,hc⟩:=own_there h hb
 exact ht (hs.2 t cur hc))
theorem SlT.ts{α:Type}{t:TypeId}{c:α→List Value}{k:Nat}{w w' :World}{base:Nat}{ts:List TypeId}{v:Value}{L:List α}(h:SlT t c k w v L)(ho:Only (TS base w ts) w w')(ht:t∉ts):SlT t c k w' v L:=h.keep ho (fun _ _ hb _ hs=>ht (hs.2 _ _ hb))
theorem RowsOwn.ts{w w' :World}{base base' n:Nat}{ts:List TypeId}{v:Value}{rows:List (List ByteArray)}(h:RowsOwn w base v n rows)(ho:Only (TS base' w ts) w w')(h1:72∉ts)(h2:9∉ts):RowsOwn w' base v n rows:=by
 obtain⟨L,hl,k1,k2⟩:=h
 exact⟨L,hl,k1.ts ho h1,fun i u r hu hr=>(k2 i u r hu hr).ts ho h2⟩
theorem flat_put{α:Type}{c:α→List Value}{k:Nat}(hc:∀p,(c p).length =k){j:Nat}(hj:j<k){u:Value}{p' :α}:∀(L:List α) (i:Nat) (p:α),L[i]? =some p→(c p).set j u=c p'→(L.flatMap c).set (i*k+j) u=(L.set i p').flatMap c
 |[],_,_,h,_=>by simp at h
 |x::L,0,p,h,e=>by
  simp only[List.getElem?_cons_zero,Option.some.injEq] at h
  subst h
  rw[List.flatMap_cons,List.set_cons_zero,List.flatMap_cons,Nat.zero_mul,Nat.zero_add,List.set_append_left _ _ (by rw[hc];exact hj),e]
 |x::L,i+1,p,h,e=>by
  rw[List.flatMap_cons,List.set_cons_succ,List.flatMap_cons,List.set_append_right _ _ (by rw[hc,Nat.add_mul];omega),hc,show(i+1)*k+j-k=i*k+j by rw[Nat.add_mul];omega]
  rw[flat_put hc hj L i p (by simpa using h) e]
theorem OwnOf.set1{α:Type}{t:TypeId}{c:α→List Value}{k:Nat}(hc:∀p,(c p).length =k){w:World}{base g n m cap i j:Nat}{L:List α}{p p' :α}{u:Value}(h:OwnOf t c k w base (.slice (some ⟨g,0,none⟩) n cap) n L)(hj:j<k)(hp:L[i]? =some p)(he:(c p).set j u=c p')(hm:m=i*k+j):OwnOf t c k (w.setCell ⟨g,m,none⟩ u) base (.slice (some ⟨g,0,none⟩) n cap) n (L.set i p'):=by
 have h1:=own_stores [u] m h
 unfold OwnOf
 rw[←flat_put hc hj L i p hp he,←hm]
 exact h1
structure EnOwnL(w:World)(base:Nat)(v:Value)(n:Nat)(es:List En)(L:List Ec):Prop where
 len:L.length=es.length
 own:OwnOf 37 ecC 5 w base v n L
 ent:∀(i:Nat) (c:Ec) (e:En),L[i]? =some c→es[i]? =some e→c.lot=e.lot∧c.price=e.price∧OwnOf 84 vlC 2 w base c.v e.values.length e.values
 dist:∀(i j:Nat) (c d:Ec),i<j→L[i]? =some c→L[j]? =some d→∀b,d.v.ownBlock=some b→c.v.ownBlock≠some b
def EnOwn(w:World)(base:Nat)(v:Value)(n:Nat)(es:List En):Prop:=∃L,EnOwnL w base v n es L
theorem EnOwn.nil(w:World)(base:Nat):EnOwn w base (.slice none 0 0) 0 []:=⟨[],rfl,OwnOf.nil _ _ _ _ _,fun i c e h _=>by simp at h,fun i j c d _ h _=>by simp at h⟩
theorem entry_ne_value:37≠84:=by decide
theorem EnOwnL.keep{S:Nat→Prop}{w w' :World}{base n:Nat}{v:Value}{es:List En}{L:List Ec}(h:EnOwnL w base v n es L)(ho:Only S w w')(hS:∀b cur,S b→¬Blk w b 37 cur∧¬Blk w b 84 cur):EnOwnL w' base v n es L:=by
 obtain⟨h1,h2,h3,h4⟩:=h
 refine⟨h1,OwnOf.keep h2 ho (fun b hb hs=> ?_),fun i c e hc he=> ?_,h4⟩
 ·obtain⟨cur,hk⟩:=own_there h2 hb
  exact(hS b cur hs).1 hk
 ·obtain⟨k1,k2,k3⟩:=h3 i c e hc he
  refine⟨k1,k2,OwnOf.keep k3 ho (fun b hb hs=> ?_)⟩
  obtain⟨cur,hk⟩:=own_there k3 hb
  exact(hS b cur hs).2 hk
theorem EnOwn.keep{S:Nat→Prop}{w w' :World}{base n:Nat}{v:Value}{es:List En}(h:EnOwn w base v n es)(ho:Only S w w')(hS:∀b cur,S b→¬Blk w b 37 cur∧¬Blk w b 84 cur):EnOwn w' base v n es:=by
 obtain⟨L,hL⟩:=h
 exact⟨L,hL.keep ho hS⟩
theorem EnOwn.none_{w w' :World}{base n:Nat}{v:Value}{es:List En}(h:EnOwn w base v n es)(ho:Only NoneOf w w'):EnOwn w' base v n es:=h.keep ho (fun _ _ e=>e.elim)
theorem EnOwn.sl{w:World}{base:Nat}{v:Value}{es:List En}(h:EnOwn w base v es.length es):EnSl w v es:=by
 obtain⟨L,h1,h2,h3,h4⟩:=h
 rw[←h1] at h2
 refine⟨L,h1,OwnOf.sl ecC_len h2,fun i c e hc he=> ?_⟩
 obtain⟨k1,k2,k3⟩:=h3 i c e hc he
 exact⟨k1,k2,OwnOf.sl vlC_len k3⟩
theorem EnOwn.form{w:World}{base n:Nat}{v:Value}{es:List En}(h:EnOwn w base v n es):∃A cap,v= .slice A n cap∧n≤cap∧cap≤maxLen:=by
 obtain⟨L,_,h2,_⟩:=h
 exact own_form' h2
theorem entryI:RecI 37 5 56:=recI_of (by kernel_rfl) (by kernel_rfl) (by kernel_rfl)
theorem valueI:RecI 84 2 24:=recI_of (by kernel_rfl) (by kernel_rfl) (by kernel_rfl)
theorem ecC_one(c:Ec)(h:c.v.oneCell' =true):∀u∈ecC c,u.oneCell' =true:=fun u hu=>by
 unfold ecC at hu
 simp only[List.mem_cons,List.not_mem_nil,or_false] at hu
 rcases hu with rfl|rfl|rfl|rfl|rfl
 ·rfl
 ·rfl
 ·rfl
 ·rfl
 ·exact h
theorem vlC_one(v:Vl):∀u∈vlC v,u.oneCell' =true:=fun u hu=>by
 unfold vlC at hu
 simp only[List.mem_cons,List.not_mem_nil,or_false] at hu
 rcases hu with rfl|rfl
 ·rfl
 ·rfl
theorem own_one{w:World}{base n:Nat}{e:TypeId}{k:Nat}{v:Value}{xs:List Value}(h:w.ownsRow base e k v n xs):v.oneCell' =true:=by
 obtain⟨A,cap,rfl,_⟩:=own_form' h
 rfl
theorem run_append_lotL(W:World)(base:Nat)(v:Value)(es:List En)(L:List Ec)(c:Ec)(e:En)(hL:EnOwnL W base v es.length es L)(hc:c.lot=e.lot∧c.price=e.price∧OwnOf 84 vlC 2 W base c.v e.values.length e.values)(hfr:∀(i:Nat) (d:Ec),L[i]? =some d→∀b,c.v.ownBlock=some b→d.v.ownBlock≠some b)(N:Nat)(hsrc:Blk W N 37 (ecC c).toArray)(hn:es.length≤1000000000)(hb:base≤W.heap.size)(ty:TypeId):
  ∃A cap W',(aph #[31,31] ty #[v,.slice (some ⟨N,0,none⟩) 1 1]).run Tryz.prog W= .ok (.slice A (es.length+1) cap) W'∧EnOwn W' base (.slice A (es.length+1) cap) (es.length+1) (es++[e])∧Only (TS base W [37]) W W' :=by
 obtain⟨h1,h2,h3,h4⟩:=hL
 rw[←h1] at h2
 obtain⟨A,cap,W',hr,k1,k2,_⟩:=run_append_rec (T:=31) Tryz.underlying31 entryI (by omega) (by omega) ecC_len W base v L c (ecC_one c (own_one hc.2.2)) h2 N hsrc (by omega) hb ty
 rw[h1] at hr k1
 have ho:Only (fun k=>v.ownBlock=some k) W W' :=(Only.refl _ _).grown k2 (fun b e=> .inl e)
 have hv:∀{m:Nat} {u:Value} {xs:List Value},W.ownsRow base 84 2 u m xs→W'.ownsRow base 84 2 u m xs:=fun hu=>own_only hu ho (fun b hb e=>own_own_ne h2 hu entry_ne_value e hb)
 refine⟨A,cap,W',hr,⟨L++[c],by simp[h1],k1,fun i d f hd hf=> ?_,fun i j d f hij hd hf b hb=> ?_⟩,grown_ts k2 h2⟩
 ·rcases Nat.lt_or_ge i L.length with hi|hi
  ·rw[List.getElem?_append_left hi] at hd
   rw[List.getElem?_append_left (by omega)] at hf
   obtain⟨a1,a2,a3⟩:=h3 i d f hd hf
   exact⟨a1,a2,hv a3⟩
  ·rw[List.getElem?_append_right hi] at hd
   rw[List.getElem?_append_right (by omega),←h1] at hf
   cases hq:i-L.length with
   |zero=>
    rw[hq] at hd hf
    simp only[List.getElem?_cons_zero,Option.some.injEq] at hd hf
    subst hd
    subst hf
    exact⟨hc.1,hc.2.1,hv hc.2.2⟩
   |succ q=>rw[hq] at hd;simp at hd
 ·have hjl:j<(L++[c]).length :=(List.getElem?_eq_some_iff.1 hf).1
  rw[List.length_append,List.length_singleton] at hjl
  have hi:i<L.length:=by omega
  rw[List.getElem?_append_left hi] at hd
  rcases Nat.lt_or_ge j L.length with hj|hj
  ·rw[List.getElem?_append_left hj] at hf
   exact h4 i j d f hij hd hf b hb
  ·rw[List.getElem?_append_right hj,show j-L.length=0 by omega] at hf
   simp only[List.getElem?_cons_zero,Option.some.injEq] at hf
   subst hf
   exact hfr i d hd b hb
theorem run_append_lot(W:World)(base:Nat)(v:Value)(es:List En)(c:Ec)(e:En)(h:EnOwn W base v es.length es)(hc:c.lot=e.lot∧c.price=e.price∧OwnOf 84 vlC 2 W base c.v e.values.length e.values)(hfr:∀L,EnOwnL W base v es.length es L→∀(i:Nat) (d:Ec),L[i]? =some d→∀b,c.v.ownBlock=some b→d.v.ownBlock≠some b)(N:Nat)(hsrc:Blk W N 37 (ecC c).toArray)(hn:es.length≤1000000000)(hb:base≤W.heap.size)(ty:TypeId):
  ∃A cap W',(aph #[31,31] ty #[v,.slice (some ⟨N,0,none⟩) 1 1]).run Tryz.prog W= .ok (.slice A (es.length+1) cap) W'∧EnOwn W' base (.slice A (es.length+1) cap) (es.length+1) (es++[e])∧Only (TS base W [37]) W W' :=by
 obtain⟨L,hL⟩:=h
 exact run_append_lotL W base v es L c e hL hc (hfr L hL) N hsrc hn hb ty
theorem run_append_value(W:World)(base g cap:Nat)(es:List En)(e:En)(x:Vl)(h:EnOwn W base (.slice (some ⟨g,0,none⟩) (es.length+1) cap) (es.length+1) (es++[e]))(hn:e.values.length≤1000000000)(hb:base≤W.heap.size)(N:Nat)(ty:TypeId):
  ∃A k,W.cell? ⟨g,es.length*5+4,none⟩=some (.slice A e.values.length k)∧W.frozen? ⟨g,es.length*5+4,none⟩=false∧∀W1,Only NoneOf W W1→Blk W1 N 84 (vlC x).toArray→∃A' k' W',(aph #[35,35] ty #[.slice A e.values.length k,.slice (some ⟨N,0,none⟩) 1 1]).run Tryz.prog W1= .ok (.slice A' (e.values.length+1) k') W'∧W'.frozen? ⟨g,es.length*5+4,none⟩=false∧W'.cell? ⟨g,es.length*5+4,none⟩=some (.slice A e.values.length k)∧EnOwn (W'.setCell ⟨g,es.length*5+4,none⟩ (.slice A' (e.values.length+1) k')) base (.slice (some ⟨g,0,none⟩) (es.length+1) cap) (es.length+1) (es++[{e with values:=e.values++[x]}])∧Only (TS base W [37,84]) W (W'.setCell ⟨g,es.length*5+4,none⟩ (.slice A' (e.values.length+1) k')):=by
 obtain⟨L,h1,h2,h3,h4⟩:=h
 rw[List.length_append,List.length_singleton] at h1
 obtain⟨c,hc⟩:∃c,L[es.length]? =some c:=⟨_,List.getElem?_eq_getElem (by omega)⟩
 have he:(es++[e])[es.length]? =some e:=by rw[List.getElem?_append_right (Nat.le_refl _),Nat.sub_self];rfl
 obtain⟨a1,a2,a3⟩:=h3 _ c e hc he
 obtain⟨A,k,hcv,hk1,hk2⟩:=own_form' a3
 have hblk:∃cur,Blk W g 37 cur∧base≤g:=by
  rcases h2.2 with⟨h0,_⟩|⟨g',cap',cur,h0,hbg,hh,_⟩
  ·cases h0
  ·cases h0
   exact⟨cur,hh,hbg⟩
 obtain⟨cur,hblk,hbg⟩:=hblk
 have hcell:W.cell? ⟨g,es.length*5+4,none⟩=some (.slice A e.values.length k):=by
  have t1:=flat_get ecC_len L es.length 4 (by omega) c hc
  have t2:=World.ownsRow.cells h2 rfl (es.length*5+4) c.v (by rw[t1];rfl)
  rw[Addr.add_mid,Nat.zero_add] at t2
  rw[t2,hcv]
 refine⟨A,k,hcell,Blk.frozen hblk _,fun W1 hW1 hsrc=> ?_⟩
 have b2:=OwnOf.keep h2 hW1 (fun _ _ e=>e)
 have b3:=OwnOf.keep a3 hW1 (fun _ _ e=>e)
 obtain⟨A',k',W',hr,k1,k2,k3⟩:=run_append_rec (T:=35) Tryz.underlying35 valueI (by omega) (by omega) vlC_len W1 base c.v e.values x (vlC_one x) b3 N hsrc hn (Nat.le_trans hb hW1.size) ty
 have ho:Only (fun i=>c.v.ownBlock=some i) W1 W' :=(Only.refl _ _).grown k2 (fun b e=> .inl e)
 have b2' :OwnOf 37 ecC 5 W' base (.slice (some ⟨g,0,none⟩) (es.length+1) cap) (es.length+1) L:=OwnOf.keep b2 ho (fun b hb e=>own_own_ne b2 b3 entry_ne_value hb e)
 have hblk1:=hblk.only hW1 (fun e=>e)
 have hblk' :Blk W' g 37 cur:=hblk1.only ho (fun e=>own_blk_ne b3 hblk1 (Ne.symm entry_ne_value) e)
 have ho2:Only (fun i=>i=g) W' (W'.setCell ⟨g,es.length*5+4,none⟩ (.slice A' (e.values.length+1) k')):=(Only.refl (fun i=>i=g) W').setCell (p:=⟨g,es.length*5+4,none⟩) (.inl rfl) _
 have hvk:∀{m:Nat} {u:Value} {xs:List Value},W'.ownsRow base 84 2 u m xs→(W'.setCell ⟨g,es.length*5+4,none⟩ (.slice A' (e.values.length+1) k')).ownsRow base 84 2 u m xs:=fun hu=>own_only hu ho2 (fun b hb e=>own_blk_ne hu hblk' (Ne.symm entry_ne_value) (by rw[hb,e]))
 have hcell' :W'.cell? ⟨g,es.length*5+4,none⟩=some (.slice A e.values.length k):=by
  have t1:=flat_get ecC_len L es.length 4 (by omega) c hc
  have t2:=World.ownsRow.cells b2' rfl (es.length*5+4) c.v (by rw[t1];rfl)
  rw[Addr.add_mid,Nat.zero_add] at t2
  rw[t2,hcv]
 rw[hcv] at hr
 refine⟨A',k',W',hr,Blk.frozen hblk' _,hcell',⟨L.set es.length {c with v:= .slice A' (e.values.length+1) k'},by simp[h1],OwnOf.set1 ecC_len (p' :={c with v:= .slice A' (e.values.length+1) k'}) b2' (by omega:4<5) hc rfl rfl,fun i d f hd hf=> ?_,fun i j d f hij hd hf b hb=> ?_⟩,?_⟩
 ·by_cases hi:i=es.length
  ·subst hi
   rw[List.getElem?_set_self (by omega)] at hd
   rw[List.getElem?_append_right (Nat.le_refl _),Nat.sub_self] at hf
   simp only[List.getElem?_cons_zero,Option.some.injEq] at hd hf
   subst hd
   subst hf
   refine⟨a1,a2,?_⟩
   show OwnOf _ _ _ _ _ _ (e.values++[x]).length _
   rw[List.length_append,List.length_singleton]
   exact hvk k1
  ·rw[List.getElem?_set_ne (fun e=>hi e.symm)] at hd
   have hil:i<es.length:=by
    have:=(List.getElem?_eq_some_iff.1 hd).1
    omega
   have hf' :(es++[e])[i]? =some f:=by
    rw[List.getElem?_append_left hil] at hf⊢
    exact hf
   obtain⟨q1,q2,q3⟩:=h3 i d f hd hf'
   have q4:=OwnOf.keep q3 hW1 (fun _ _ e=>e)
   exact⟨q1,q2,hvk (OwnOf.keep q4 ho (fun b hb e=>h4 i es.length d c hil hd hc b e hb))⟩
 ·have hjl:j<L.length:=by
   have:=(List.getElem?_eq_some_iff.1 hf).1
   rw[List.length_set] at this
   exact this
  have hil:i≠es.length:=by omega
  rw[List.getElem?_set_ne (fun e=>hil e.symm)] at hd
  by_cases hj:j=es.length
  ·subst hj
   rw[List.getElem?_set_self (by omega)] at hf
   simp only[Option.some.injEq] at hf
   subst hf
   rcases k3 with e1|e1
   ·exact h4 i es.length d c hij hd hc b (by rw[←e1];exact hb)
   ·intro e2
    have e3:(Value.slice A' (e.values.length+1) k').ownBlock =some b:=hb
    rw[e1] at e3
    simp only[Option.some.injEq] at e3
    have hf' :∃f,(es++[e])[i]? =some f:=⟨_,List.getElem?_eq_getElem (by rw[List.length_append,List.length_singleton];omega)⟩
    obtain⟨f,hf'⟩:=hf'
    obtain⟨_,_,q3⟩:=h3 i d f hd hf'
    have:=(World.ownsRow.lt (OwnOf.keep q3 hW1 (fun _ _ e=>e)) b e2).2
    omega
  ·rw[List.getElem?_set_ne (fun e=>hj e.symm)] at hf
   exact h4 i j d f hij hd hf b hb
 ·exact ts_trans (ts_trans (ts_none hW1) (ts_mono (grown_ts k2 b3) (fun t ht=>by obtain rfl:=List.mem_singleton.1 ht;simp))) (ts_set hblk' hbg (by simp) _)
end Go.Proofs.YtpdlbmieciabmaaGreatDoor
namespace Go.Proofs.YtpdlbmieciabmaaGreatDoor
open Go.RowKit Go.Shelf
attribute [local go_sem ↓ high] aph_eq
def strSz:Value→Nat
 | .string s=>s.size
 |_=>0
theorem run_append_row(W:World)(base:Nat)(v:Value)(rows:List (List ByteArray))(u:Value)(r:List ByteArray)(hu:u.oneCell' =true)(h:RowsOwn W base v rows.length rows)(hr:SlT 9 strC 1 W u r)(hn:rows.length≤1000000000)(hb:base≤W.heap.size)(N:Nat)(hsrc:Blk W N 72 #[u])(ty:TypeId):
  ∃A cap W',(aph #[106,106] ty #[v,.slice (some ⟨N,0,none⟩) 1 1]).run Tryz.prog W= .ok (.slice A (rows.length+1) cap) W'∧RowsOwn W' base (.slice A (rows.length+1) cap) (rows.length+1) (rows++[r])∧Only (TS base W [72]) W W' :=by
 obtain⟨L,h1,h2,h3⟩:=h
 rw[←h1] at h2
 obtain⟨A,cap,W',hrun,k1,k2,_⟩:=run_append_rec (T:=106) Tryz.underlying106 rowsI (by omega) (by omega) valC_len W base v L u (val_one u hu) h2 N hsrc (by omega) hb ty
 rw[h1] at hrun k1
 have ho:Only (fun k=>v.ownBlock=some k) W W' :=(Only.refl _ _).grown k2 (fun b e=> .inl e)
 have hk:∀{x:Value} {q:List ByteArray},SlT 9 strC 1 W x q→SlT 9 strC 1 W' x q:=fun hx=>hx.keep ho (fun g cur hb _ e=>own_blk_ne h2 hb (by decide) e)
 refine⟨A,cap,W',hrun,⟨L++[u],by simp[h1],k1,fun i x q hx hq=> ?_⟩,grown_ts k2 h2⟩
 rcases Nat.lt_or_ge i L.length with hi|hi
 ·rw[List.getElem?_append_left hi] at hx
  rw[List.getElem?_append_left (by omega)] at hq
  exact hk (h3 i x q hx hq)
 ·rw[List.getElem?_append_right hi] at hx
  rw[List.getElem?_append_right (by omega),←h1] at hq
  cases hz:i-L.length with
  |zero=>
   rw[hz] at hx hq
   simp only[List.getElem?_cons_zero,Option.some.injEq] at hx hq
   subst hx
   subst hq
   exact hk hr
  |succ z=>rw[hz] at hx;simp at hx
structure SplS(s:ByteArray)(w:World)(v:Value)(r:ByteArray)(rows:List (List ByteArray))(W:World):Prop where
 inv:SplI s.data.toList rows r.data.toList
 own:RowsOwn W w.heap.size v rows.length rows
 only:Only NoneOf w W
def SplitE(s:ByteArray)(w:World)(e:Ending)(w' :World):Prop:=∃rows ok rv,e= .returned (.tuple #[rv,.bool ok])∧SplitR s.data.toList rows ok∧RowsOwn w' w.heap.size rv rows.length rows∧Only NoneOf w w'
theorem SplitE.mk{s:ByteArray}{w w' :World}{rows:List (List ByteArray)}{ok:Bool}{rv:Value}(h1:SplitR s.data.toList rows ok)(h2:RowsOwn w' w.heap.size rv rows.length rows)(h3:Only NoneOf w w'):SplitE s w (.returned (.tuple #[rv,.bool ok])) w' :=⟨rows,ok,rv,rfl,h1,h2,h3⟩
def NumsE(ws:List ByteArray)(w:World)(e:Ending)(w' :World):Prop:=∃ns ok rv,e= .returned (.tuple #[rv,.bool ok])∧NumsR (rowD ws) ns ok∧OwnOf 3 inC 1 w' w.heap.size rv ns.length ns∧Only NoneOf w w'
theorem NumsE.mk{ws:List ByteArray}{w w' :World}{ns:List Int}{ok:Bool}{rv:Value}(h1:NumsR (rowD ws) ns ok)(h2:OwnOf 3 inC 1 w' w.heap.size rv ns.length ns)(h3:Only NoneOf w w'):NumsE ws w (.returned (.tuple #[rv,.bool ok])) w' :=⟨ns,ok,rv,rfl,h1,h2,h3⟩
theorem rows_small{s:List UInt8}{rows:List (List ByteArray)}{r:List UInt8}(h:SplI s rows r):rows.length≤s.length∧r.length≤s.length:=by
 have h1:=h.2.1
 have h2:∀l:List (List ByteArray),(∀x∈l,x≠[])→l.length≤rowsW l:=by
  intro l
  induction l with
  |nil=>intro _;exact Nat.zero_le _
  |cons x l ih=>
   intro hx
   have e:rowsW (x::l)=rowW x+rowsW l:=by unfold rowsW;simp
   have k1:=ih (fun y hy=>hx y (by simp[hy]))
   have k2:=rowW_len x
   have k3:=List.length_pos_iff.2 (hx x (by simp))
   rw[e,List.length_cons]
   omega
 have h3:=h2 rows h.1
 omega
set_option maxRecDepth 100000 in
set_option maxHeartbeats 1000000 in
theorem bsplit_any(s:ByteArray)(hs:s.size≤900000000)(w:World)(he:Env w):Calls Tryz.prog 39 #[.string s] w (SplitE s w):=by
 have HE:=Lib.hid he
 have hsl:=size_list s
 clear he
 go_enter Tryz.func39,Tryz.ntmps39
 go_wp2_with fail
 go_loopw [0,4] (fun sv v wr=>∃rows r,sv= .string r∧SplS s w v r rows wr) (fun sv _ _=>strSz sv)
 case atStart=>exact⟨[],s,rfl,SplI.new _,RowsOwn.nil _ _,Only.refl _ _⟩
 case round=>
  obtain⟨rows,r,rfl,hS⟩:=hrel
  have hsm:=rows_small hS.inv
  have hrl:=size_list r
  by_cases h0:r=⟨#[]⟩
  ·subst h0
   have HF:=Lib.hid (SplI.done hS.inv)
   have HS:=Lib.hid hS
   clear hS hsm hrl hsl
   go_wp2_with fail
   go_ret2
   exact SplitE.mk HF.out HS.out.own HS.out.only
  ·have b1:=tx_someF h0
   have hne:r.data.toList≠[]:=fun e=>h0 (ba_ext e)
   have HNE:=Lib.hid hne
   have HS:=Lib.hid hS
   clear hS h0 hne
   go_wp2_with fail
   refine(cut_any r (by omega) _ (HE.out.none HS.out.only)).mono ?_
   rintro e w1 ⟨a,b,ok,rfl,hcut,ho1⟩
   have HO1:=Lib.hid (HS.out.only.trans ho1)
   have HC:=Lib.hid hcut
   cases ok
   ·have HF:=Lib.hid (SplI.fail HS.out.inv HNE.out HC.out)
    clear ho1 hcut
    go_wp2_with fail
    go_ret2
    exact SplitE.mk HF.out (RowsOwn.nil _ _) HO1.out
   ·have hcl:=(cut_len HC.out).1
    have hal:=size_list a
    have hbl:=size_list b
    have HOWN:=Lib.hid (HS.out.own.keep ho1 (fun _ _ e=>e) (fun _ _ _ e=>e))
    clear ho1 hcut
    go_wp2_with fail
    refine(split_any a (by omega) _ (HE.out.none HO1.out)).mono ?_
    rintro e w2 ⟨A2,cap2,rfl,hrow,ho2⟩
    have HO2:=Lib.hid (HO1.out.trans ho2)
    have hown2:=HOWN.out.keep ho2 (fun _ _ e=>e) (fun _ _ _ e=>e)
    have hx:Only NoneOf w2 (w2.alloc (.cells #[.slice A2 (rowB a).length cap2] 72)):=(Only.refl _ _).alloc _
    obtain⟨A',cap',W',hr,k1,k2⟩:=run_append_row (w2.alloc (.cells #[.slice A2 (rowB a).length cap2] 72)) w.heap.size _ rows (.slice A2 (rowB a).length cap2) (rowB a) rfl (hown2.keep hx (fun _ _ e=>e) (fun _ _ _ e=>e)) (hrow.none_ hx) (by omega) (Nat.le_trans HO2.out.size hx.size) w2.heap.size (Blk.new w2 _ _) 106
    have HSN:Hid (SplS s w (.slice A' (rows.length+1) cap') b (rows++[rowB a]) W'):=Lib.hid ⟨SplI.step HS.out.inv HNE.out HC.out rfl,by rw[List.length_append,List.length_singleton];exact k1,only_base (HO2.out.trans hx) (ts_base k2) (Nat.le_refl _)⟩
    have hmes:strSz (.string b)<strSz (.string r):=by
     show b.size<r.size
     omega
    have HM:=Lib.hid hmes
    clear k1 k2 hown2 hx hrow ho2 hmes
    go_wp2_with fail
    go_roundw
    case rel=>exact⟨_,b,rfl,HSN.out⟩
    case measure=>exact HM.out
theorem intI:RecI 3 1 8:=recI_of (by kernel_rfl) (by kernel_rfl) (by kernel_rfl)
theorem inC_one(n:Int):∀u∈inC n,u.oneCell' =true:=fun u hu=>by
 obtain rfl:=List.mem_singleton.1 hu
 rfl
theorem run_append_int(W:World)(base:Nat)(v:Value)(ns:List Int)(n:Int)(h:OwnOf 3 inC 1 W base v ns.length ns)(hn:ns.length≤1000000000)(hb:base≤W.heap.size)(N:Nat)(hsrc:Blk W N 3 #[.int .i64 n])(ty:TypeId):
  ∃A cap W',(aph #[38,38] ty #[v,.slice (some ⟨N,0,none⟩) 1 1]).run Tryz.prog W= .ok (.slice A (ns.length+1) cap) W'∧OwnOf 3 inC 1 W' base (.slice A (ns.length+1) cap) (ns.length+1) (ns++[n])∧Only (TS base W [3]) W W' :=by
 obtain⟨A,cap,W',hrun,k1,k2,_⟩:=run_append_rec (T:=38) Tryz.underlying38 intI (by omega) (by omega) inC_len W base v ns n (inC_one n) h N hsrc hn hb ty
 exact⟨A,cap,W',hrun,k1,grown_ts k2 h⟩
theorem rowD_get{r:List ByteArray}{k:Nat}{t:ByteArray}(h:r[k]? =some t):(rowD r)[k]? =some t.data.toList:=by unfold rowD;rw[List.getElem?_map,h];rfl
set_option maxRecDepth 100000 in
set_option maxHeartbeats 1000000 in
theorem bnumbers_any(ws:List ByteArray)(hws:∀t∈ws,t.size≤1000000000)(hl:ws.length≤1000000000)(v:Value)(w:World)(h:SlT 9 strC 1 w v ws)(he:Env w):Calls Tryz.prog 40 #[v] w (NumsE ws w):=by
 have HE:=Lib.hid he
 obtain⟨A,cap,rfl,hc1,hc2,hat⟩:=h
 have HAT:=Lib.hid hat
 have HWS:=Lib.hid hws
 clear he hat hws
 go_enter Tryz.func40,Tryz.ntmps40
 go_wp2_with fail
 go_loopw [4,11] (fun v i wr=>∃(k:Nat) (ns:List Int),i= .int .i64 k∧k≤ws.length∧NumI (rowD ws) k ns∧OwnOf 3 inC 1 wr w.heap.size v ns.length ns∧Only NoneOf w wr) (fun _ i _=>ws.length-(intOf i).toNat)
 case atStart=>exact⟨0,[],rfl,Nat.zero_le _,NumI.new _,OwnOf.nil _ _ _ _ _,Only.refl _ _⟩
 case round=>
  obtain⟨k,ns,rfl,hk,hI,hown,ho⟩:=hrel
  have HI:=Lib.hid hI
  have HOWN:=Lib.hid hown
  have HO:=Lib.hid ho
  have HNL:=Lib.hid hI.1
  clear hI hown ho
  by_cases hlt:k<ws.length
  ·obtain⟨t,ht⟩:∃t,ws[k]? =some t:=⟨_,List.getElem?_eq_getElem hlt⟩
   obtain⟨g,o,cur,rfl,_,hr⟩:=HAT.out k t ht
   have hts:=HWS.out t (List.mem_of_getElem? ht)
   have c0:wr.cell? ⟨g,o+k,none⟩=some (.string t):=HO.out.cell_some (by simpa using hr 0 _ rfl) (fun e=>e)
   have ik:(k:Int)<ws.length:=by omega
   have HT:=Lib.hid (rowD_get ht)
   clear ht hr
   go_wp2_with fail
   refine(atoi_any t (by omega) _ (HE.out.none HO.out)).mono ?_
   rintro e w1 ⟨n,ev,rfl,hcase,ho1⟩
   have HO1:=Lib.hid (HO.out.trans ho1)
   rcases hcase with⟨rfl,hn,hu⟩|⟨⟨N,rfl⟩,hu⟩
   ·have hown1:=OwnOf.keep HOWN.out ho1 (fun _ _ e=>e)
    have hx:Only NoneOf w1 (w1.alloc (.cells #[.int .i64 n] 3)):=(Only.refl _ _).alloc _
    obtain⟨A',cap',W',hrn,k1,k2⟩:=run_append_int (w1.alloc (.cells #[.int .i64 n] 3)) w.heap.size _ ns n (OwnOf.keep hown1 hx (fun _ _ e=>e)) (by have:=HNL.out;omega) (Nat.le_trans HO1.out.size hx.size) w1.heap.size (Blk.new w1 _ _) 38
    have HN:=Lib.hid (HI.out.step HT.out hn hu)
    have HK:Hid (OwnOf 3 inC 1 W' w.heap.size (.slice A' (ns.length+1) cap') (ns++[n]).length (ns++[n])):=Lib.hid (by rw[List.length_append,List.length_singleton];exact k1)
    have HO2:=Lib.hid (only_base (HO1.out.trans hx) (ts_base k2) (Nat.le_refl _))
    clear k1 k2 hown1 hx hn hu ho1
    go_wp2_with fail
    go_roundw
    case rel=>exact⟨k+1,ns++[n],by go_num,by omega,HN.out,HK.out,HO2.out⟩
    case measure=>simp[intOf];omega
   ·have HF:=Lib.hid (NumI.fail HT.out hu)
    clear ho1 hu
    go_wp2_with fail
    go_ret2
    exact NumsE.mk HF.out (OwnOf.nil _ _ _ _ _) HO1.out
  ·obtain rfl:k=ws.length:=by omega
   have ik:¬(ws.length:Int)<ws.length:=by omega
   have hD:=HI.out
   have e1:ws.length=(rowD ws).length :=by unfold rowD;rw[List.length_map]
   rw[e1] at hD
   have HD:=Lib.hid hD.done
   clear hD e1
   go_wp2_with fail
   go_ret2
   exact NumsE.mk HD.out HOWN.out HO.out
end Go.Proofs.YtpdlbmieciabmaaGreatDoor
