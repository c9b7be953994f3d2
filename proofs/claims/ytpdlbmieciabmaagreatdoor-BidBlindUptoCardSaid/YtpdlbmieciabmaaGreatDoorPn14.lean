/-What is proved here:several parts. what a call finds in the library's variables,and the library's cutting,splitting and reading of texts. Conditions:the library's variables hold what their initialisers lay;the texts are short. · lots with values that a call makes:a lot is appended,a value is appended to the last lot. Conditions:there are few. -/
import Derived.Test.YtpdlbmieciabmaaGreatDoorPn06
import Derived.Test.YtpdlbmieciabmaaGreatDoorPn13
namespace Go.Proofs.YtpdlbmieciabmaaGreatDoor
open Go.RowKit Go.Shelf
structure Env(w:World):Prop where
 tab:Tab w
 syn:∃tp p,w.var? Tryz.prog "strconv.ErrSyntax" =some #[.iface tp p]
 rng:∃tp p,w.var? Tryz.prog "strconv.ErrRange" =some #[.iface tp p]
 shp:w.ShapedOpen Tryz.prog
theorem var_only{w w' :World}{n:String}{cs:Array Value}(ho:Only NoneOf w w')(h:w.var? Tryz.prog n=some cs):w'.var? Tryz.prog n=some cs:=by
 have hb:Below w.heap.size w w' :=Only.below ho (Nat.le_refl _) (fun _ e=>e.elim)
 unfold World.var? at h⊢
 obtain⟨g,hg,h⟩:=Option.bind_eq_some_iff.1 h
 rw[hg]
 simp only[Option.bind_some]
 have hlt:g<w.heap.size:=by
  rcases Nat.lt_or_ge g w.heap.size with h1|h1
  ·exact h1
  ·rw[Array.getElem?_eq_none h1] at h;cases h
 rw[hb.block g hlt]
 exact h
theorem Env.none{w w' :World}(h:Env w)(ho:Only NoneOf w w'):Env w' :=by
 obtain⟨t,⟨a,b,hs⟩,⟨c,d,hr⟩,hp⟩:=h
 have hb:Below w.heap.size w w' :=Only.below ho (Nat.le_refl _) (fun _ e=>e.elim)
 exact⟨t.none ho,⟨a,b,var_only ho hs⟩,⟨c,d,var_only ho hr⟩,hp.keptBut (hb.frame (fun _=>False)) (fun _ e=>e.elim)⟩
theorem cut_any(s:ByteArray)(hs:s.size≤4000000000)(w:World)(h:Env w):Calls Tryz.prog 67 #[.string s,.string ⟨#[10]⟩] w fun e w' =>∃a b:ByteArray,∃ok,e= .returned (.tuple #[.string a,.string b,.bool ok])∧Lib.cut s.data.toList [10]=(a.data.toList,b.data.toList,ok)∧Only NoneOf w w' :=
 (Tryz.strings_Cut_shaped s ⟨#[10]⟩ w h.shp (by omega)).mono fun e w' h=>by
  obtain⟨rfl,n,rfl⟩:=h
  exact⟨_,_,_,rfl,rfl,(Only.refl _ _).drewN n⟩
theorem split_any(s:ByteArray)(hs:s.size≤4000000000)(w:World)(h:Env w):Calls Tryz.prog 68 #[.string s,.string blankB] w fun e w' =>∃A cap,e= .returned (.slice A (rowB s).length cap)∧SlT 9 strC 1 w' (.slice A (rowB s).length cap) (rowB s)∧Only NoneOf w w' :=
 (Tryz.strings_Split_shaped s blankB w h.shp (by omega) (by decide)).mono fun e w' h=>by
  obtain⟨rfl,rfl⟩:=h
  have hl:=rowB_len s
  have hc:Lib.countB s blankB≤s.size:=Lib.countB_le blankB (by decide) s.size s (Nat.le_refl _)
  refine⟨some ⟨w.heap.size,0,none⟩,(rowB s).length,by rw[hl],⟨_,_,rfl,Nat.le_refl _,by omega,fun i p hp=> ?_⟩,(Only.refl _ _).alloc _⟩
  have hb:=Blk.new w 9 ((Lib.splitB blankB 0 (Lib.countB s blankB) s).map Value.string).toArray
  refine⟨w.heap.size,0,_,rfl,hb,fun j v hv=> ?_⟩
  have hj:j=0:=by
   have:=(List.getElem?_eq_some_iff.1 hv).1
   rw[strC_len] at this
   omega
  subst hj
  have hv' :v= .string p:=by simpa [strC] using hv.symm
  subst hv'
  have h2:(rowB s)[i]? =some p:=hp
  unfold rowB at h2
  rw[hb.cell]
  simp[List.getElem?_map,h2]
theorem atoi_any(s:ByteArray)(hs:s.size≤4000000000)(w:World)(h:Env w):Calls Tryz.prog 69 #[.string s] w fun e w' =>∃v:Int,∃ev,e= .returned (.tuple #[.int .i64 v,ev])∧((ev= .nilIface∧In v∧∀m,In m→s.data.toList=Lib.itoa m→v=m)∨((∃N,ev= .iface 198 (.pointer (some ⟨N,0,none⟩)))∧∀m,In m→s.data.toList≠Lib.itoa m))∧Only NoneOf w w' :=by
 obtain⟨_,⟨tp,p,h1⟩,⟨tq,q,h2⟩,_⟩:=h
 cases hr:Lib.atoiAll s.data.toList
 ·rename_i v
  refine(Tryz.strconv_Atoi_ok s (by omega) v hr w).mono ?_
  rintro e w' ⟨rfl,h3⟩
  refine⟨v,_,rfl,.inl ⟨rfl,atoi_in hr,fun m hm e=> ?_⟩,?_⟩
  ·rw[e,atoi_itoa hm] at hr
   cases hr
   rfl
  ·rcases h3 with rfl|⟨t,rfl⟩
   ·exact Only.refl _ _
   ·exact Only.of_below (Lib.bytesWorld_below _ _ _) _
 ·refine(Tryz.strconv_Atoi_syntax_var s (by omega) hr tp p w h1).mono ?_
  rintro e w' ⟨N,rfl,_,_,hb⟩
  refine⟨_,_,rfl,.inr ⟨⟨N,rfl⟩,fun m hm e=> ?_⟩,Only.of_below hb _⟩
  rw[e,atoi_itoa hm] at hr
  cases hr
 ·refine(Tryz.strconv_Atoi_range_var s (by omega) hr tq q w h2).mono ?_
  rintro e w' ⟨N,rfl,_,_,hb⟩
  refine⟨_,_,rfl,.inr ⟨⟨N,rfl⟩,fun m hm e=> ?_⟩,Only.of_below hb _⟩
  rw[e,atoi_itoa hm] at hr
  cases hr
end Go.Proofs.YtpdlbmieciabmaaGreatDoor
namespace Go.Proofs.YtpdlbmieciabmaaGreatDoor
open Go.RowKit Go.Shelf
theorem only_base{w W W' :World}{base:Nat}(h:Only NoneOf w W)(k:Only (fun i=>base≤i) W W')(hb:w.heap.size≤base):Only NoneOf w W' :=h.trans' k (fun i hi hs=>by omega)
def TS(base:Nat)(w:World)(ts:List TypeId):Nat→Prop:=fun i=>base≤i∧∀t cur,Blk w i t cur→t∈ts
theorem ts_trans{base:Nat}{ts:List TypeId}{w w1 w2:World}(h:Only (TS base w ts) w w1)(k:Only (TS base w1 ts) w1 w2):Only (TS base w ts) w w2:=by
 refine⟨k.os.trans h.os,k.tape.trans h.tape,k.output.trans h.output,Nat.le_trans h.size k.size,fun i hi hn=> ?_⟩
 have e:=h.block i hi hn
 refine(k.block i (Nat.lt_of_lt_of_le hi h.size) (fun hs=>hn ⟨hs.1,fun t cur hb=>hs.2 t cur (e.trans hb)⟩)).trans e
theorem ts_mono{base:Nat}{ts us:List TypeId}{w w' :World}(h:Only (TS base w ts) w w')(hs:∀t∈ts,t∈us):Only (TS base w us) w w' :=h.mono (fun _ _ k=>⟨k.1,fun t cur hb=>hs t (k.2 t cur hb)⟩)
theorem ts_none{base:Nat}{ts:List TypeId}{w w' :World}(h:Only NoneOf w w'):Only (TS base w ts) w w' :=h.mono (fun _ _ e=>e.elim)
theorem ts_base{base:Nat}{ts:List TypeId}{w w' :World}(h:Only (TS base w ts) w w'):Only (fun i=>base≤i) w w' :=h.mono (fun _ _ k=>k.1)
theorem Blk.ty{w:World}{g:Nat}{t t' :TypeId}{cs cs' :Array Value}(h:Blk w g t cs)(h' :Blk w g t' cs'):t=t' :=Classical.byContradiction fun hne=>Blk.ne_ h h' hne rfl
theorem own_there{w:World}{base n size k:Nat}{e:TypeId}{v:Value}{xs:List Value}(h:w.ownsRow base e size v n xs)(hk:v.ownBlock=some k):∃cur,Blk w k e cur:=by
 rcases h.2 with⟨rfl,_⟩|⟨g,cap,cur,rfl,_,hh,_⟩
 ·cases hk
 ·cases hk
  exact⟨cur,hh⟩
theorem ts_set{base:Nat}{ts:List TypeId}{w:World}{g j:Nat}{t:TypeId}{cur:Array Value}(hb:Blk w g t cur)(hg:base≤g)(ht:t∈ts)(u:Value):Only (TS base w ts) w (w.setCell ⟨g,j,none⟩ u):=
 (Only.refl _ w).setCell (p:=⟨g,j,none⟩) (.inl ⟨hg,fun t' cur' hb' =>by rw[←hb.ty hb'];exact ht⟩) u
theorem grown_ts{w W:World}{base:Nat}{v:Value}{t:TypeId}{k n:Nat}{xs:List Value}(hg:w.grownBy W v.ownBlock)(h:w.ownsRow base t k v n xs):Only (TS base w [t]) w W:=(Only.refl _ _).grown hg (fun b e=> .inl ⟨(h.lt b e).1,fun t' cur' hb=>by
 obtain⟨cur,hc⟩:=own_there h e
 rw[hb.ty hc]
 simp⟩)
theorem OwnOf.ts{α:Type}{t:TypeId}{c:α→List Value}{k:Nat}{w w' :World}{base base' n:Nat}{ts:List TypeId}{v:Value}{L:List α}(h:OwnOf t c k w base v n L)(ho:Only (TS base' w ts) w w')(ht:t∉ts):OwnOf t c k w' base v n L:=OwnOf.keep h ho (fun b hb hs=>by
 obtain⟨cur,hc⟩:=own_there h hb
 exact ht (hs.2 t cur hc))
theorem SlT.ts{α:Type}{t:TypeId}{c:α→List Value}{k:Nat}{w w' :World}{base:Nat}{ts:List TypeId}{v:Value}{L:List α}(h:SlT t c k w v L)(ho:Only (TS base w ts) w w')(ht:t∉ts):SlT t c k w' v L:=h.keep ho (fun _ _ hb _ hs=>ht (hs.2 _ _ hb))
theorem RowsOwn.ts{w w' :World}{base base' n:Nat}{ts:List TypeId}{v:Value}{rows:List (List ByteArray)}(h:RowsOwn w base v n rows)(ho:Only (TS base' w ts) w w')(h1:72∉ts)(h2:9∉ts):RowsOwn w' base v n rows:=by
 obtain⟨L,hl,k1,k2⟩:=h
 exact⟨L,hl,k1.ts ho h1,fun i u r hu hr=>(k2 i u r hu hr).ts ho h2⟩
theorem flat_put{α:Type}{c:α→List Value}{k:Nat}(hc:∀p,(c p).length =k){j:Nat}(hj:j<k){u:Value}{p' :α}:∀(L:List α) (i:Nat) (p:α),L[i]? =some p→(c p).set j u=c p'→(L.flatMap c).set (i*k+j) u=(L.set i p').flatMap c
 |[],_,_,h,_=>by simp at h
 |x::L,0,p,h,e=>by
  simp only[List.getElem?_cons_zero,Option.some.injEq] at h
  subst h
  rw[List.flatMap_cons,List.set_cons_zero,List.flatMap_cons,Nat.zero_mul,Nat.zero_add,List.set_append_left _ _ (by rw[hc];exact hj),e]
 |x::L,i+1,p,h,e=>by
  rw[List.flatMap_cons,List.set_cons_succ,List.flatMap_cons,List.set_append_right _ _ (by rw[hc,Nat.add_mul];omega),hc,show(i+1)*k+j-k=i*k+j by rw[Nat.add_mul];omega]
  rw[flat_put hc hj L i p (by simpa using h) e]
theorem OwnOf.set1{α:Type}{t:TypeId}{c:α→List Value}{k:Nat}(hc:∀p,(c p).length =k){w:World}{base g n m cap i j:Nat}{L:List α}{p p' :α}{u:Value}(h:OwnOf t c k w base (.slice (some ⟨g,0,none⟩) n cap) n L)(hj:j<k)(hp:L[i]? =some p)(he:(c p).set j u=c p')(hm:m=i*k+j):OwnOf t c k (w.setCell ⟨g,m,none⟩ u) base (.slice (some ⟨g,0,none⟩) n cap) n (L.set i p'):=by
 have h1:=own_stores [u] m h
 unfold OwnOf
 rw[←flat_put hc hj L i p hp he,←hm]
 exact h1
structure EnOwnL(w:World)(base:Nat)(v:Value)(n:Nat)(es:List En)(L:List Ec):Prop where
 len:L.length=es.length
 own:OwnOf 37 ecC 5 w base v n L
 ent:∀(i:Nat) (c:Ec) (e:En),L[i]? =some c→es[i]? =some e→c.lot=e.lot∧c.price=e.price∧OwnOf 84 vlC 2 w base c.v e.values.length e.values
 dist:∀(i j:Nat) (c d:Ec),i<j→L[i]? =some c→L[j]? =some d→∀b,d.v.ownBlock=some b→c.v.ownBlock≠some b
def EnOwn(w:World)(base:Nat)(v:Value)(n:Nat)(es:List En):Prop:=∃L,EnOwnL w base v n es L
theorem EnOwn.nil(w:World)(base:Nat):EnOwn w base (.slice none 0 0) 0 []:=⟨[],rfl,OwnOf.nil _ _ _ _ _,fun i c e h _=>by simp at h,fun i j c d _ h _=>by simp at h⟩
theorem entry_ne_value:37≠84:=by decide
theorem EnOwnL.keep{S:Nat→Prop}{w w' :World}{base n:Nat}{v:Value}{es:List En}{L:List Ec}(h:EnOwnL w base v n es L)(ho:Only S w w')(hS:∀b cur,S b→¬Blk w b 37 cur∧¬Blk w b 84 cur):EnOwnL w' base v n es L:=by
 obtain⟨h1,h2,h3,h4⟩:=h
 refine⟨h1,OwnOf.keep h2 ho (fun b hb hs=> ?_),fun i c e hc he=> ?_,h4⟩
 ·obtain⟨cur,hk⟩:=own_there h2 hb
  exact(hS b cur hs).1 hk
 ·obtain⟨k1,k2,k3⟩:=h3 i c e hc he
  refine⟨k1,k2,OwnOf.keep k3 ho (fun b hb hs=> ?_)⟩
  obtain⟨cur,hk⟩:=own_there k3 hb
  exact(hS b cur hs).2 hk
theorem EnOwn.keep{S:Nat→Prop}{w w' :World}{base n:Nat}{v:Value}{es:List En}(h:EnOwn w base v n es)(ho:Only S w w')(hS:∀b cur,S b→¬Blk w b 37 cur∧¬Blk w b 84 cur):EnOwn w' base v n es:=by
 obtain⟨L,hL⟩:=h
 exact⟨L,hL.keep ho hS⟩
theorem EnOwn.none_{w w' :World}{base n:Nat}{v:Value}{es:List En}(h:EnOwn w base v n es)(ho:Only NoneOf w w'):EnOwn w' base v n es:=h.keep ho (fun _ _ e=>e.elim)
theorem EnOwn.sl{w:World}{base:Nat}{v:Value}{es:List En}(h:EnOwn w base v es.length es):EnSl w v es:=by
 obtain⟨L,h1,h2,h3,h4⟩:=h
 rw[←h1] at h2
 refine⟨L,h1,OwnOf.sl ecC_len h2,fun i c e hc he=> ?_⟩
 obtain⟨k1,k2,k3⟩:=h3 i c e hc he
 exact⟨k1,k2,OwnOf.sl vlC_len k3⟩
theorem EnOwn.form{w:World}{base n:Nat}{v:Value}{es:List En}(h:EnOwn w base v n es):∃A cap,v= .slice A n cap∧n≤cap∧cap≤maxLen:=by
 obtain⟨L,_,h2,_⟩:=h
 exact own_form' h2
theorem entryI:RecI 37 5 56:=recI_of (by kernel_rfl) (by kernel_rfl) (by kernel_rfl)
theorem valueI:RecI 84 2 24:=recI_of (by kernel_rfl) (by kernel_rfl) (by kernel_rfl)
theorem ecC_one(c:Ec)(h:c.v.oneCell' =true):∀u∈ecC c,u.oneCell' =true:=fun u hu=>by
 unfold ecC at hu
 simp only[List.mem_cons,List.not_mem_nil,or_false] at hu
 rcases hu with rfl|rfl|rfl|rfl|rfl
 ·rfl
 ·rfl
 ·rfl
 ·rfl
 ·exact h
theorem vlC_one(v:Vl):∀u∈vlC v,u.oneCell' =true:=fun u hu=>by
 unfold vlC at hu
 simp only[List.mem_cons,List.not_mem_nil,or_false] at hu
 rcases hu with rfl|rfl
 ·rfl
 ·rfl
theorem own_one{w:World}{base n:Nat}{e:TypeId}{k:Nat}{v:Value}{xs:List Value}(h:w.ownsRow base e k v n xs):v.oneCell' =true:=by
 obtain⟨A,cap,rfl,_⟩:=own_form' h
 rfl
theorem run_append_lotL(W:World)(base:Nat)(v:Value)(es:List En)(L:List Ec)(c:Ec)(e:En)(hL:EnOwnL W base v es.length es L)(hc:c.lot=e.lot∧c.price=e.price∧OwnOf 84 vlC 2 W base c.v e.values.length e.values)(hfr:∀(i:Nat) (d:Ec),L[i]? =some d→∀b,c.v.ownBlock=some b→d.v.ownBlock≠some b)(N:Nat)(hsrc:Blk W N 37 (ecC c).toArray)(hn:es.length≤1000000000)(hb:base≤W.heap.size)(ty:TypeId):
  ∃A cap W',(aph #[31,31] ty #[v,.slice (some ⟨N,0,none⟩) 1 1]).run Tryz.prog W= .ok (.slice A (es.length+1) cap) W'∧EnOwn W' base (.slice A (es.length+1) cap) (es.length+1) (es++[e])∧Only (TS base W [37]) W W' :=by
 obtain⟨h1,h2,h3,h4⟩:=hL
 rw[←h1] at h2
 obtain⟨A,cap,W',hr,k1,k2,_⟩:=run_append_rec (T:=31) Tryz.underlying31 entryI (by omega) (by omega) ecC_len W base v L c (ecC_one c (own_one hc.2.2)) h2 N hsrc (by omega) hb ty
 rw[h1] at hr k1
 have ho:Only (fun k=>v.ownBlock=some k) W W' :=(Only.refl _ _).grown k2 (fun b e=> .inl e)
 have hv:∀{m:Nat} {u:Value} {xs:List Value},W.ownsRow base 84 2 u m xs→W'.ownsRow base 84 2 u m xs:=fun hu=>own_only hu ho (fun b hb e=>own_own_ne h2 hu entry_ne_value e hb)
 refine⟨A,cap,W',hr,⟨L++[c],by simp[h1],k1,fun i d f hd hf=> ?_,fun i j d f hij hd hf b hb=> ?_⟩,grown_ts k2 h2⟩
 ·rcases Nat.lt_or_ge i L.length with hi|hi
  ·rw[List.getElem?_append_left hi] at hd
   rw[List.getElem?_append_left (by omega)] at hf
   obtain⟨a1,a2,a3⟩:=h3 i d f hd hf
   exact⟨a1,a2,hv a3⟩
  ·rw[List.getElem?_append_right hi] at hd
   rw[List.getElem?_append_right (by omega),←h1] at hf
   cases hq:i-L.length with
   |zero=>
    rw[hq] at hd hf
    simp only[List.getElem?_cons_zero,Option.some.injEq] at hd hf
    subst hd
    subst hf
    exact⟨hc.1,hc.2.1,hv hc.2.2⟩
   |succ q=>rw[hq] at hd;simp at hd
 ·have hjl:j<(L++[c]).length :=(List.getElem?_eq_some_iff.1 hf).1
  rw[List.length_append,List.length_singleton] at hjl
  have hi:i<L.length:=by omega
  rw[List.getElem?_append_left hi] at hd
  rcases Nat.lt_or_ge j L.length with hj|hj
  ·rw[List.getElem?_append_left hj] at hf
   exact h4 i j d f hij hd hf b hb
  ·rw[List.getElem?_append_right hj,show j-L.length=0 by omega] at hf
   simp only[List.getElem?_cons_zero,Option.some.injEq] at hf
   subst hf
   exact hfr i d hd b hb
theorem run_append_lot(W:World)(base:Nat)(v:Value)(es:List En)(c:Ec)(e:En)(h:EnOwn W base v es.length es)(hc:c.lot=e.lot∧c.price=e.price∧OwnOf 84 vlC 2 W base c.v e.values.length e.values)(hfr:∀L,EnOwnL W base v es.length es L→∀(i:Nat) (d:Ec),L[i]? =some d→∀b,c.v.ownBlock=some b→d.v.ownBlock≠some b)(N:Nat)(hsrc:Blk W N 37 (ecC c).toArray)(hn:es.length≤1000000000)(hb:base≤W.heap.size)(ty:TypeId):
  ∃A cap W',(aph #[31,31] ty #[v,.slice (some ⟨N,0,none⟩) 1 1]).run Tryz.prog W= .ok (.slice A (es.length+1) cap) W'∧EnOwn W' base (.slice A (es.length+1) cap) (es.length+1) (es++[e])∧Only (TS base W [37]) W W' :=by
 obtain⟨L,hL⟩:=h
 exact run_append_lotL W base v es L c e hL hc (hfr L hL) N hsrc hn hb ty
theorem run_append_value(W:World)(base g cap:Nat)(es:List En)(e:En)(x:Vl)(h:EnOwn W base (.slice (some ⟨g,0,none⟩) (es.length+1) cap) (es.length+1) (es++[e]))(hn:e.values.length≤1000000000)(hb:base≤W.heap.size)(N:Nat)(ty:TypeId):
  ∃A k,W.cell? ⟨g,es.length*5+4,none⟩=some (.slice A e.values.length k)∧W.frozen? ⟨g,es.length*5+4,none⟩=false∧∀W1,Only NoneOf W W1→Blk W1 N 84 (vlC x).toArray→∃A' k' W',(aph #[35,35] ty #[.slice A e.values.length k,.slice (some ⟨N,0,none⟩) 1 1]).run Tryz.prog W1= .ok (.slice A' (e.values.length+1) k') W'∧W'.frozen? ⟨g,es.length*5+4,none⟩=false∧W'.cell? ⟨g,es.length*5+4,none⟩=some (.slice A e.values.length k)∧EnOwn (W'.setCell ⟨g,es.length*5+4,none⟩ (.slice A' (e.values.length+1) k')) base (.slice (some ⟨g,0,none⟩) (es.length+1) cap) (es.length+1) (es++[{e with values:=e.values++[x]}])∧Only (TS base W [37,84]) W (W'.setCell ⟨g,es.length*5+4,none⟩ (.slice A' (e.values.length+1) k')):=by
 obtain⟨L,h1,h2,h3,h4⟩:=h
 rw[List.length_append,List.length_singleton] at h1
 obtain⟨c,hc⟩:∃c,L[es.length]? =some c:=⟨_,List.getElem?_eq_getElem (by omega)⟩
 have he:(es++[e])[es.length]? =some e:=by rw[List.getElem?_append_right (Nat.le_refl _),Nat.sub_self];rfl
 obtain⟨a1,a2,a3⟩:=h3 _ c e hc he
 obtain⟨A,k,hcv,hk1,hk2⟩:=own_form' a3
 have hblk:∃cur,Blk W g 37 cur∧base≤g:=by
  rcases h2.2 with⟨h0,_⟩|⟨g',cap',cur,h0,hbg,hh,_⟩
  ·cases h0
  ·cases h0
   exact⟨cur,hh,hbg⟩
 obtain⟨cur,hblk,hbg⟩:=hblk
 have hcell:W.cell? ⟨g,es.length*5+4,none⟩=some (.slice A e.values.length k):=by
  have t1:=flat_get ecC_len L es.length 4 (by omega) c hc
  have t2:=World.ownsRow.cells h2 rfl (es.length*5+4) c.v (by rw[t1];rfl)
  rw[Addr.add_mid,Nat.zero_add] at t2
  rw[t2,hcv]
 refine⟨A,k,hcell,Blk.frozen hblk _,fun W1 hW1 hsrc=> ?_⟩
 have b2:=OwnOf.keep h2 hW1 (fun _ _ e=>e)
 have b3:=OwnOf.keep a3 hW1 (fun _ _ e=>e)
 obtain⟨A',k',W',hr,k1,k2,k3⟩:=run_append_rec (T:=35) Tryz.underlying35 valueI (by omega) (by omega) vlC_len W1 base c.v e.values x (vlC_one x) b3 N hsrc hn (Nat.le_trans hb hW1.size) ty
 have ho:Only (fun i=>c.v.ownBlock=some i) W1 W' :=(Only.refl _ _).grown k2 (fun b e=> .inl e)
 have b2' :OwnOf 37 ecC 5 W' base (.slice (some ⟨g,0,none⟩) (es.length+1) cap) (es.length+1) L:=OwnOf.keep b2 ho (fun b hb e=>own_own_ne b2 b3 entry_ne_value hb e)
 have hblk1:=hblk.only hW1 (fun e=>e)
 have hblk' :Blk W' g 37 cur:=hblk1.only ho (fun e=>own_blk_ne b3 hblk1 (Ne.symm entry_ne_value) e)
 have ho2:Only (fun i=>i=g) W' (W'.setCell ⟨g,es.length*5+4,none⟩ (.slice A' (e.values.length+1) k')):=(Only.refl (fun i=>i=g) W').setCell (p:=⟨g,es.length*5+4,none⟩) (.inl rfl) _
 have hvk:∀{m:Nat} {u:Value} {xs:List Value},W'.ownsRow base 84 2 u m xs→(W'.setCell ⟨g,es.length*5+4,none⟩ (.slice A' (e.values.length+1) k')).ownsRow base 84 2 u m xs:=fun hu=>own_only hu ho2 (fun b hb e=>own_blk_ne hu hblk' (Ne.symm entry_ne_value) (by rw[hb,e]))
 have hcell' :W'.cell? ⟨g,es.length*5+4,none⟩=some (.slice A e.values.length k):=by
  have t1:=flat_get ecC_len L es.length 4 (by omega) c hc
  have t2:=World.ownsRow.cells b2' rfl (es.length*5+4) c.v (by rw[t1];rfl)
  rw[Addr.add_mid,Nat.zero_add] at t2
  rw[t2,hcv]
 rw[hcv] at hr
 refine⟨A',k',W',hr,Blk.frozen hblk' _,hcell',⟨L.set es.length {c with v:= .slice A' (e.values.length+1) k'},by simp[h1],OwnOf.set1 ecC_len (p' :={c with v:= .slice A' (e.values.length+1) k'}) b2' (by omega:4<5) hc rfl rfl,fun i d f hd hf=> ?_,fun i j d f hij hd hf b hb=> ?_⟩,?_⟩
 ·by_cases hi:i=es.length
  ·subst hi
   rw[List.getElem?_set_self (by omega)] at hd
   rw[List.getElem?_append_right (Nat.le_refl _),Nat.sub_self] at hf
   simp only[List.getElem?_cons_zero,Option.some.injEq] at hd hf
   subst hd
   subst hf
   refine⟨a1,a2,?_⟩
   show OwnOf _ _ _ _ _ _ (e.values++[x]).length _
   rw[List.length_append,List.length_singleton]
   exact hvk k1
  ·rw[List.getElem?_set_ne (fun e=>hi e.symm)] at hd
   have hil:i<es.length:=by
    have:=(List.getElem?_eq_some_iff.1 hd).1
    omega
   have hf' :(es++[e])[i]? =some f:=by
    rw[List.getElem?_append_left hil] at hf⊢
    exact hf
   obtain⟨q1,q2,q3⟩:=h3 i d f hd hf'
   have q4:=OwnOf.keep q3 hW1 (fun _ _ e=>e)
   exact⟨q1,q2,hvk (OwnOf.keep q4 ho (fun b hb e=>h4 i es.length d c hil hd hc b e hb))⟩
 ·have hjl:j<L.length:=by
   have:=(List.getElem?_eq_some_iff.1 hf).1
   rw[List.length_set] at this
   exact this
  have hil:i≠es.length:=by omega
  rw[List.getElem?_set_ne (fun e=>hil e.symm)] at hd
  by_cases hj:j=es.length
  ·subst hj
   rw[List.getElem?_set_self (by omega)] at hf
   simp only[Option.some.injEq] at hf
   subst hf
   rcases k3 with e1|e1
   ·exact h4 i es.length d c hij hd hc b (by rw[←e1];exact hb)
   ·intro e2
    have e3:(Value.slice A' (e.values.length+1) k').ownBlock =some b:=hb
    rw[e1] at e3
    simp only[Option.some.injEq] at e3
    have hf' :∃f,(es++[e])[i]? =some f:=⟨_,List.getElem?_eq_getElem (by rw[List.length_append,List.length_singleton];omega)⟩
    obtain⟨f,hf'⟩:=hf'
    obtain⟨_,_,q3⟩:=h3 i d f hd hf'
    have:=(World.ownsRow.lt (OwnOf.keep q3 hW1 (fun _ _ e=>e)) b e2).2
    omega
  ·rw[List.getElem?_set_ne (fun e=>hj e.symm)] at hf
   exact h4 i j d f hij hd hf b hb
 ·exact ts_trans (ts_trans (ts_none hW1) (ts_mono (grown_ts k2 b3) (fun t ht=>by obtain rfl:=List.mem_singleton.1 ht;simp))) (ts_set hblk' hbg (by simp) _)
end Go.Proofs.YtpdlbmieciabmaaGreatDoor
