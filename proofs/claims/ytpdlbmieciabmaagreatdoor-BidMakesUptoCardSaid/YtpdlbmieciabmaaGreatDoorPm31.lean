/-What is proved here:the check that each law runs first holds. Conditions:the library's variables hold what their initialisers lay. -/
import Derived.Test.YtpdlbmieciabmaaGreatDoorPm19
import Derived.Test.YtpdlbmieciabmaaGreatDoorPm27
namespace Go.Proofs.YtpdlbmieciabmaaGreatDoor
open Go.RowKit Go.Shelf
theorem sl_blk{α:Type}{c:α→List Value}{k:Nat}(hc:∀p,(c p).length =k){w:World}{g:Nat}{t:TypeId}{P:List α}{n m:Nat}(hb:Blk w g t (P.flatMap c).toArray)(hn:P.length=n)(hm:n≤m)(hx:m≤9223372036854775807):SlOf c k w (.slice (some ⟨g,0,none⟩) n m) P:=by
 subst hn
 refine⟨_,_,rfl,hm,hx,fun i p hp=>⟨g,0,rfl,hb.lt,fun j v hv=> ?_⟩⟩
 have hj:j<k:=by
  have:=(List.getElem?_eq_some_iff.1 hv).1
  rw[hc] at this;exact this
 rw[Nat.zero_add,hb.cell]
 have h1:=flat_get hc P i j hj p hp
 simpa using h1.trans hv
theorem q_first{s:List UInt8}{fs:List En}(h:QRd s fs)(hs:s≠[]):∃n r,In n∧s=[108,111,116,32]++(Lib.itoa n++10::r):=by
 obtain⟨_,h2,h3⟩:=h
 cases fs with
 |nil=>exact absurd h3 hs
 |cons e fs=>
  refine⟨e.lot,textG (e.values.map vLine++qLines fs),(h2 e (by simp)).1.1,?_⟩
  have e1:qLines (e::fs)=(wLot,[e.lot])::(e.values.map vLine++qLines fs):=by unfold qLines eLines;simp
  rw[h3,e1,textG_cons,line_word]
  rfl
theorem no_two(fs:List En):¬QRd [108,111,116,32,48,50,10] fs:=fun h=>by
 obtain⟨n,r,hn,e⟩:=q_first h (by simp)
 have e1:Lib.itoa n++10::r=[48,50]++10::[]:=by simpa using e.symm
 obtain⟨e2,_⟩:=mid_sep (itoa_mid hn) (by decide:∀c∈([48,50]:List UInt8),mid c=true) mid10 mid10 e1
 have h1:=atoi_itoa hn
 rw[e2] at h1
 have h2:Lib.atoiAll [48,50]= .ok 2:=by decide+kernel
 rw[h2] at h1
 cases h1
 exact absurd e2 (by decide+kernel)
theorem no_days(fs:List En):¬QRd [100,97,121,115,32,51,10] fs:=fun h=>by
 obtain⟨n,r,hn,e⟩:=q_first h (by simp)
 simp at e
def es1:List En:=[⟨2,0,[⟨⟨#[100,97,121,115]⟩,30⟩,⟨⟨#[115,116,97,102,102]⟩,5⟩]⟩]
def es2:List En:=[⟨1,70,[]⟩,⟨2,80,[]⟩]
def rs2:List Rb:=[⟨[1,2],5⟩]
def bd1:Bd:=⟨7,⟨#[97]⟩,[4],⟨#[]⟩,[]⟩
theorem es1_text:qualL es1=[108,111,116,32,50,10,100,97,121,115,32,51,48,10,115,116,97,102,102,32,53,10]:=by decide+kernel
theorem es1_len:(textG (qLines es1)).length≤100000000:=by decide+kernel
theorem es2_text:pricL es2 rs2=[108,111,116,32,49,32,55,48,10,108,111,116,32,50,32,56,48,10,114,101,98,97,116,101,32,53,32,49,32,50,10]:=by decide+kernel
theorem bd1_text:encB bd1=[98,105,100,32,55,10,113,117,97,108,105,116,121,32,52,10,54,49,10,112,114,105,99,101,10,10]:=by decide+kernel
theorem in_small{n:Int}(h0:0≤n)(h1:n≤1000):In n:=by unfold In;omega
theorem es1_in:∀e∈es1,EnIn e:=fun e he=>by
 obtain rfl:=List.mem_singleton.1 he
 refine⟨in_small (by decide) (by decide),in_small (by decide) (by decide),fun v hv=> ?_⟩
 simp only[List.mem_cons,List.not_mem_nil,or_false] at hv
 rcases hv with rfl|rfl
 ·exact in_small (by decide) (by decide)
 ·exact in_small (by decide) (by decide)
theorem es2_in:∀e∈es2,EnIn e:=fun e he=>by
 unfold es2 at he
 simp only[List.mem_cons,List.not_mem_nil,or_false] at he
 rcases he with rfl|rfl
 ·exact⟨in_small (by decide) (by decide),in_small (by decide) (by decide),fun v hv=>by cases hv⟩
 ·exact⟨in_small (by decide) (by decide),in_small (by decide) (by decide),fun v hv=>by cases hv⟩
theorem rs2_in:∀r∈rs2,RbIn r:=fun r hr=>by
 obtain rfl:=List.mem_singleton.1 hr
 refine⟨in_small (by decide) (by decide),fun n hn=> ?_⟩
 simp only[List.mem_cons,List.not_mem_nil,or_false] at hn
 rcases hn with rfl|rfl
 ·exact in_small (by decide) (by decide)
 ·exact in_small (by decide) (by decide)
theorem bd1_ok:bd1.Ok:=⟨in_small (by decide) (by decide),in_one (in_small (by decide) (by decide)),fun x hx=>(by cases hx),by decide,by decide,by decide,by decide⟩
theorem es2_at(w:World):EnSl (((w.alloc (.cells #[.int .i64 0,.int .i64 1,.int .i64 0,.int .i64 70,.slice none 0 0,.int .i64 0,.int .i64 2,.int .i64 0,.int .i64 80,.slice none 0 0] 37)).alloc (.cells #[.int .i64 1,.int .i64 2] 3)).alloc (.cells #[.slice (some ⟨w.heap.size+1,0,none⟩) 2 2,.int .i64 5] 86)) (.slice (some ⟨w.heap.size,0,none⟩) 2 2) es2∧RbSl (((w.alloc (.cells #[.int .i64 0,.int .i64 1,.int .i64 0,.int .i64 70,.slice none 0 0,.int .i64 0,.int .i64 2,.int .i64 0,.int .i64 80,.slice none 0 0] 37)).alloc (.cells #[.int .i64 1,.int .i64 2] 3)).alloc (.cells #[.slice (some ⟨w.heap.size+1,0,none⟩) 2 2,.int .i64 5] 86)) (.slice (some ⟨w.heap.size+1+1,0,none⟩) 1 1) rs2:=by
 obtain⟨w2,e2⟩:∃w2,w2=w.alloc (.cells #[.int .i64 0,.int .i64 1,.int .i64 0,.int .i64 70,.slice none 0 0,.int .i64 0,.int .i64 2,.int .i64 0,.int .i64 80,.slice none 0 0] 37):=⟨_,rfl⟩
 have h1:Blk w2 w.heap.size 37 #[.int .i64 0,.int .i64 1,.int .i64 0,.int .i64 70,.slice none 0 0,.int .i64 0,.int .i64 2,.int .i64 0,.int .i64 80,.slice none 0 0]:=by rw[e2];exact Blk.new w _ _
 have hz2:w2.heap.size=w.heap.size+1:=by rw[e2];simp
 rw[←e2]
 obtain⟨w3,e3⟩:∃w3,w3=w2.alloc (.cells #[.int .i64 1,.int .i64 2] 3):=⟨_,rfl⟩
 have h2:Blk w3 (w.heap.size+1) 3 #[.int .i64 1,.int .i64 2]:=by rw[e3,←hz2];exact Blk.new w2 _ _
 have hz3:w3.heap.size=w.heap.size+1+1:=by rw[e3,←hz2];simp
 have h1' :Blk w3 w.heap.size 37 #[.int .i64 0,.int .i64 1,.int .i64 0,.int .i64 70,.slice none 0 0,.int .i64 0,.int .i64 2,.int .i64 0,.int .i64 80,.slice none 0 0]:=by rw[e3];exact h1.alloc _
 rw[←e3]
 have h3:=Blk.new w3 86 #[.slice (some ⟨w.heap.size+1,0,none⟩) 2 2,.int .i64 5]
 rw[hz3] at h3
 refine⟨⟨[⟨1,70,.slice none 0 0⟩,⟨2,80,.slice none 0 0⟩],rfl,sl_blk ecC_len (h1'.alloc _) rfl (by omega) (by omega),fun i c e hc he=> ?_⟩,⟨[⟨.slice (some ⟨w.heap.size+1,0,none⟩) 2 2,5⟩],rfl,sl_blk rcC_len h3 rfl (by omega) (by omega),fun i c e hc he=> ?_⟩⟩
 ·match i,hc,he with
  |0,hc,he=>
   simp only[es2,List.getElem?_cons_zero,Option.some.injEq] at hc he
   subst hc
   subst he
   exact⟨rfl,rfl,SlOf.empty _ _ _⟩
  |1,hc,he=>
   simp only[es2,List.getElem?_cons_succ,List.getElem?_cons_zero,Option.some.injEq] at hc he
   subst hc
   subst he
   exact⟨rfl,rfl,SlOf.empty _ _ _⟩
  |i+2,hc,_=>simp at hc
 ·match i,hc,he with
  |0,hc,he=>
   simp only[rs2,List.getElem?_cons_zero,Option.some.injEq] at hc he
   subst hc
   subst he
   exact⟨rfl,sl_blk inC_len (P:=[1,2]) (h2.alloc _) rfl (by omega) (by omega)⟩
  |i+1,hc,_=>simp at hc
theorem bd1_at(w:World):IntSl (w.alloc (.cells #[.int .i64 4] 3)) (some ⟨w.heap.size,0,none⟩) bd1.qc:= .inr ⟨w.heap.size,0,rfl,by simp,fun j x hx=>by
 match j,hx with
 |0,hx=>
  simp only[bd1,List.getElem?_cons_zero,Option.some.injEq] at hx
  subst hx
  exact(Blk.new w _ _).cell 0
 |j+1,hx=>simp[bd1] at hx⟩
set_option maxRecDepth 100000 in
set_option maxHeartbeats 4000000 in
theorem sanity16(w:World)(he:Env w):Calls Tryz.prog 8 #[] w fun e w' =>e= .returned (.bool true)∧Only NoneOf w w' :=by
 have HE:=Lib.hid he
 obtain⟨X,eX⟩:∃X,X=(w.alloc (.cells #[.string ⟨#[100,97,121,115]⟩,.int .i64 30,.string ⟨#[115,116,97,102,102]⟩,.int .i64 5] 84)).alloc (.cells #[.int .i64 0,.int .i64 2,.int .i64 0,.int .i64 0,.slice (some ⟨w.heap.size,0,none⟩) 2 2] 37):=⟨_,rfl⟩
 have hV:Blk X w.heap.size 84 #[.string ⟨#[100,97,121,115]⟩,.int .i64 30,.string ⟨#[115,116,97,102,102]⟩,.int .i64 5]:=by rw[eX];exact(Blk.new w _ _).alloc _
 have hE:Blk X (w.heap.size+1) 37 #[.int .i64 0,.int .i64 2,.int .i64 0,.int .i64 0,.slice (some ⟨w.heap.size,0,none⟩) 2 2]:=by
  have h:=Blk.new (w.alloc (.cells #[.string ⟨#[100,97,121,115]⟩,.int .i64 30,.string ⟨#[115,116,97,102,102]⟩,.int .i64 5] 84)) 37 #[.int .i64 0,.int .i64 2,.int .i64 0,.int .i64 0,.slice (some ⟨w.heap.size,0,none⟩) 2 2]
  rw[World.size_alloc] at h
  rw[eX];exact h
 have hX:Only NoneOf w X:=by rw[eX];exact((Only.refl _ _).alloc _).alloc _
 have hes:EnSl X (.slice (some ⟨w.heap.size+1,0,none⟩) 1 1) es1:=⟨[⟨2,0,.slice (some ⟨w.heap.size,0,none⟩) 2 2⟩],rfl,sl_blk ecC_len hE rfl (by omega) (by omega),fun i c e hc he=>by
  match i,hc,he with
  |0,hc,he=>
   simp only[es1,List.getElem?_cons_zero,Option.some.injEq] at hc he
   subst hc
   subst he
   exact⟨rfl,rfl,sl_blk vlC_len (P:=[⟨⟨#[100,97,121,115]⟩,30⟩,⟨⟨#[115,116,97,102,102]⟩,5⟩]) hV rfl (by omega) (by omega)⟩
  |i+1,hc,_=>simp at hc⟩
 have HES:=Lib.hid hes
 have HX:=Lib.hid hX
 have EX:=Lib.hid eX
 clear he hV hE hX hes eX
 go_enter Tryz.func8,Tryz.ntmps8
 go_wp2_with fail
 rw[←EX.out]
 refine(quality_any es1 es1_in es1_len _ X HES.out (HE.out.none HX.out).tab).mono ?_
 rintro e w1 ⟨t1,rfl,ht1,ho1⟩
 have b1:=tx_litT (ht1.trans es1_text)
 have HO1:=Lib.hid (HX.out.trans ho1)
 clear ht1 ho1 HES HX EX
 go_wp2_with fail
 obtain⟨he2,hr2⟩:=es2_at w1
 refine(prices_any es2 rs2 es2_in rs2_in (by rw[es2_text];decide) _ _ _ he2 hr2 (HE.out.none (((HO1.out.alloc _).alloc _).alloc _)).tab).mono ?_
 rintro e w2 ⟨t2,rfl,ht2,ho2⟩
 have b2:=tx_litT (ht2.trans es2_text)
 have HO2:=Lib.hid ((((HO1.out.alloc _).alloc _).alloc _).trans ho2)
 clear ht2 ho2 he2 hr2
 go_wp2_with fail
 refine(bencode_any bd1 bd1_ok (qA:=some ⟨w2.heap.size,0,none⟩) (pA:=none) (qk:=1) (pk:=0) (bd1_at w2) (.inl rfl) (HE.out.none (HO2.out.alloc _)).tab).mono ?_
 rintro e w3 ⟨t3,rfl,ht3,ho3⟩
 have b3:=tx_litT (ht3.trans bd1_text)
 have HO3:=Lib.hid ((HO2.out.alloc _).trans ho3)
 clear ht3 ho3
 go_wp2_with fail
 refine(readq_any ⟨#[108,111,116,32,48,50,10]⟩ (by decide) w3 (HE.out.none HO3.out)).mono ?_
 rintro e w4 ⟨v4,code4,es4,rfl,_,hc4,ho4⟩
 have hc4:code4=11:=by
  rcases hc4 with⟨_,h⟩|⟨h,_⟩
  ·exact absurd h (no_two es4)
  ·exact h
 subst hc4
 have HO4:=Lib.hid (HO3.out.trans ho4)
 clear ho4
 go_wp2_with fail
 refine(readq_any ⟨#[100,97,121,115,32,51,10]⟩ (by decide) w4 (HE.out.none HO4.out)).mono ?_
 rintro e w5 ⟨v5,code5,es5,rfl,_,hc5,ho5⟩
 have hc5:code5=11:=by
  rcases hc5 with⟨_,h⟩|⟨h,_⟩
  ·exact absurd h (no_days es5)
  ·exact h
 subst hc5
 have HO5:=Lib.hid (HO4.out.trans ho5)
 clear ho5
 go_wp2_with fail
 go_ret
 exact⟨rfl,HO5.out⟩
end Go.Proofs.YtpdlbmieciabmaaGreatDoor
