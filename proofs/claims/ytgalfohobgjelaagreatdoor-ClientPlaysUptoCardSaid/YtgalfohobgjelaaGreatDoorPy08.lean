/- What is proved here: a part of the proof that 'probitylaw31.ClientPlays' answers true. Conditions: each theorem's own. -/
import Derived.Test.YtgalfohobgjelaaGreatDoorPy07
import Derived.WalkSmall
import Derived.ChangeAgain
import Derived.Laws.CopyRow
set_option maxRecDepth 100000
set_option maxHeartbeats 8000000
namespace Go.Proofs.YtgalfohobgjelaaGreatDoor
section
open Go.RowKit Go.Shelf
open Classical in
noncomputable def memB(a:Int):Bool:=decide (memI a)
open Classical in
noncomputable def ΩcQ(key:Int)(text:List UInt8)(r s:Int):Bool:=decide (Good key text r s)
theorem Ωbz{a:Int}:memB a=true↔memI a:=by unfold memB;simp
theorem Ωcv{key:Int}{text:List UInt8}{r s:Int}:ΩcQ key text r s=true↔Good key text r s:=by unfold ΩcQ;simp
theorem ΩlQ{a:Int}(h0:0<a)(h1:a<2305843009213691579):memB a=decide (powI a Q0 2305843009213691579=1):=by
 obtain⟨k,rfl⟩:∃k:Nat,a=(k:Int):=⟨a.toNat,by omega⟩
 rw[ΩlK,Ωoy,Ωbz,decide_eq_true_iff]
 constructor
 ·rintro⟨k',e,h⟩
  obtain rfl:k=k' :=by omega
  exact h.2.2
 ·intro h
  exact⟨k,rfl,by omega,by rw[ΩdR];omega,h⟩
theorem ΩkE{a:Int}(h:¬0<a):memB a=false:=by
 rw[Bool.eq_false_iff,Ne,Ωbz]
 rintro⟨k,rfl,hk,_⟩
 omega
theorem Ωjg{a:Int}(h:¬a<2305843009213691579):memB a=false:=by
 rw[Bool.eq_false_iff,Ne,Ωbz]
 rintro⟨k,rfl,_,hk,_⟩
 rw[ΩdR] at hk
 omega
theorem ΩlR{a:Int}(h:memB a=true):0<a∧a<2305843009213691579:=by
 obtain⟨k,rfl,hk0,hk,_⟩:=Ωbz.1 h
 rw[ΩdR] at hk
 omega
theorem ΩgQ(a:Int)(h0: -9223372036854775808≤a)(h1:a≤9223372036854775807)(w:World):Calls Tryz.prog 146 #[.int .i64 a] w fun e w' =>e= .returned (.bool (memB a))∧Only Ωa w w' :=by
 by_cases p0:0<a
 ·by_cases p1:a<2305843009213691579
  ·have hp:=Ωiq a Q0 2305843009213691579 h0 h1 (by rw[ΩaU];omega) (by omega) (by omega) w
   have hm:=ΩlQ p0 p1
   rw[Ωhg] at hp
   obtain⟨v,ev⟩:∃v,v=powI a Q0 2305843009213691579:=⟨_,rfl⟩
   rw[←ev] at hp hm
   rw[hm]
   have hv:(decide ((v:Int)=1))=decide (v=1):=by rw[decide_eq_decide];omega
   have HP:=Θ hp
   have HV:=Θ hv
   clear hp hm ev hv h0 h1
   go_enter Tryz.func146,Tryz.ntmps146
   go_wp2_with fail
   refine HP.out.mono ?_
   rintro e w1 ⟨rfl,ho⟩
   have HO:=Θ ho
   clear ho
   by_cases hv1:v=1
   ·subst hv1
    go_wp2_with fail
    go_ret
    exact⟨rfl,HO.out⟩
   ·have hv2:¬(v:Int)=1:=by omega
    go_wp2_with fail
    go_ret
    exact⟨by simp[hv1];omega,HO.out⟩
  ·rw[Ωjg p1]
   go_enter Tryz.func146,Tryz.ntmps146
   go_wp2_with fail
   go_ret
   exact⟨rfl,Only.refl _ _⟩
 ·rw[ΩkE p0]
  go_enter Tryz.func146,Tryz.ntmps146
  go_wp2_with fail
  go_ret
  exact⟨rfl,Only.refl _ _⟩
theorem ΩgP{key r s:Int}{text:List UInt8}(h:memB key=false):ΩcQ key text r s=false:=by
 rw[Bool.eq_false_iff,Ne,Ωcv]
 rintro⟨h1,_⟩
 rw[Ωbz.2 h1] at h;cases h
theorem Ωjo{key r s:Int}{text:List UInt8}(h:memB r=false):ΩcQ key text r s=false:=by
 rw[Bool.eq_false_iff,Ne,Ωcv]
 rintro⟨_,h1,_⟩
 rw[Ωbz.2 h1] at h;cases h
theorem ΩgO{key r s:Int}{text:List UInt8}(h:s<0∨¬s<1152921504606845789):ΩcQ key text r s=false:=by
 rw[Bool.eq_false_iff,Ne,Ωcv]
 rintro⟨_,_,h1,h2,_⟩
 rw[Ωhg] at h2
 omega
theorem Ωl7{key r s:Int}{text:List UInt8}(hk:memB key=true)(hr:memB r=true)(h0:0≤s)(h1:s<1152921504606845789):ΩcQ key text r s=decide ((gp s.toNat:Int)=r*(powI key (chal r key text) 2305843009213691579:Int)%2305843009213691579):=by
 obtain⟨k,rfl,hkm⟩:=Ωbz.1 hk
 obtain⟨ρ,rfl,hrm⟩:=Ωbz.1 hr
 rw[ΩlK,Ωoy,Ωcv,decide_eq_true_iff]
 have e:((ρ*pw k (chal ρ k text)%P0:Nat):Int)=(ρ:Int)*(pw k (chal ρ k text):Int)%2305843009213691579:=by
  have h:((ρ*pw k (chal ρ k text):Nat):Int)=(ρ:Int)*(pw k (chal ρ k text):Int):=by simp
  rw[←h,ΩdR]
  omega
 rw[←e]
 constructor
 ·rintro⟨_,_,_,_,h⟩
  rw[h]
  rfl
 ·intro h
  refine⟨⟨k,rfl,hkm⟩,⟨ρ,rfl,hrm⟩,h0,by rw[Ωhg];exact h1,?_⟩
  exact Int.ofNat_inj.1 h
end
section
open Go.RowKit Go.Shelf
theorem Ωgc(key r sg:Int)(s:ByteArray)(w:World)(hs:s.size≤17592186044416)(k0: -9223372036854775808≤key)(k1:key≤9223372036854775807)(r0: -9223372036854775808≤r)(r1:r≤9223372036854775807):
  Calls Tryz.prog 103 #[.int .i64 key,.string s,sgv r sg] w fun e w' =>e= .returned (.bool (ΩcQ key s.data.toList r sg))∧Only Ωa w w' :=by
 have hmk:=fun W=>ΩgQ key k0 k1 W
 have hmr:=fun W=>ΩgQ r r0 r1 W
 unfold sgv
 by_cases hk:memB key=true
 ·rw[hk] at hmk
  by_cases hr:memB r=true
  ·rw[hr] at hmr
   by_cases hs0:sg<0
   ·rw[ΩgO (.inl hs0)]
    have HMK:=Θ hmk
    have HMR:=Θ hmr
    clear hmk hmr
    go_enter Tryz.func103,Tryz.ntmps103
    go_wp2_with fail
    refine(HMK.out _).mono ?_
    rintro e w1 ⟨rfl,ho1⟩
    have hb1:Blk w1 w.heap.size tSig #[.int .i64 r,.int .i64 sg]:=(Blk.new w _ _).only ho1 (fun e=>e)
    have c0:=hb1.cell 0
    have HB1:=Θ hb1
    have HO1:=Θ (((Only.refl Ωa w).alloc _).trans ho1)
    clear hb1 ho1
    go_wp2_with fail
    refine(HMR.out _).mono ?_
    rintro e w2 ⟨rfl,ho2⟩
    have c1:=(HB1.out.only ho2 (fun e=>e)).cell 1
    have HO2:=Θ (HO1.out.trans ho2)
    clear ho2
    go_wp2_with fail
    go_ret
    exact⟨rfl,HO2.out⟩
   ·by_cases hs1:sg<1152921504606845789
    ·have hg:=Ωl7 (text:=s.data.toList) hk hr (by omega) hs1
     have hri:=ΩlR hr
     rw[hg]
     have hc:=fun W=>schal_any r key s W hs
     have hcl:=Ωj7 r key s.data.toList
     rw[ΩaU] at hcl
     obtain⟨c,ec⟩:∃c,c=chal r key s.data.toList:=⟨_,rfl⟩
     rw[←ec] at hc hcl⊢
     obtain⟨σ,eσ⟩:∃σ:Nat,σ=sg.toNat:=⟨_,rfl⟩
     rw[←eσ]
     have eσ2:(σ:Int)=sg:=by omega
     have hp1:=fun W=>Ωiq 4 σ 2305843009213691579 (by omega) (by omega) (by omega) (by omega) (by omega) W
     rw[Ωic,eσ2] at hp1
     obtain⟨g,eg⟩:∃g,g=gp σ:=⟨_,rfl⟩
     rw[←eg] at hp1⊢
     have hp2:=fun W=>Ωiq key c 2305843009213691579 k0 k1 (by omega) (by omega) (by omega) W
     have hpl:powI key c 2305843009213691579<2305843009213691579:=ΩoL _ (by decide)
     obtain⟨q,eq⟩:∃q,q=powI key c 2305843009213691579:=⟨_,rfl⟩
     rw[←eq] at hp2 hpl⊢
     have hmul:=fun W=>ΩkR r q 2305843009213691579 (by omega) (by omega) (by omega) (by omega) (by omega) (by omega) W
     obtain⟨m,em⟩:∃m,m=r*(q:Int)%2305843009213691579:=⟨_,rfl⟩
     rw[←em] at hmul⊢
     have HMK:=Θ hmk
     have HMR:=Θ hmr
     have HC:=Θ hc
     have HP1:=Θ hp1
     have HP2:=Θ hp2
     have HMUL:=Θ hmul
     clear hmk hmr hg ec hc hp1 hp2 hmul eg eq em eσ eσ2 k0 k1 r0 r1 hk hr
     go_enter Tryz.func103,Tryz.ntmps103
     go_wp2_with fail
     refine(HMK.out _).mono ?_
     rintro e w1 ⟨rfl,ho1⟩
     have hb1:Blk w1 w.heap.size tSig #[.int .i64 r,.int .i64 sg]:=(Blk.new w _ _).only ho1 (fun e=>e)
     have c0:=hb1.cell 0
     have HB1:=Θ hb1
     have HO1:=Θ (((Only.refl Ωa w).alloc _).trans ho1)
     clear hb1 ho1
     go_wp2_with fail
     refine(HMR.out _).mono ?_
     rintro e w2 ⟨rfl,ho2⟩
     have hb2:=HB1.out.only ho2 (fun e=>e)
     have c1:=hb2.cell 1
     have d0:=hb2.cell 0
     have HB2:=Θ hb2
     have HO2:=Θ (HO1.out.trans ho2)
     clear ho2 hb2
     go_wp2_with fail
     refine(HC.out _).mono ?_
     rintro e w3 ⟨rfl,ho3⟩
     obtain⟨B,eB⟩:∃B,B=w.heap.size:=⟨_,rfl⟩
     rw[←eB] at HB2⊢
     have hb3:=HB2.out.only ho3 (fun e=>e)
     have e0:w3.cell? ⟨B,0,none⟩=some (.int .i64 r):=hb3.cell 0
     have e1:w3.cell? ⟨B,1,none⟩=some (.int .i64 sg):=hb3.cell 1
     have HB3:=Θ hb3
     have HO3:=Θ (HO2.out.trans ho3)
     clear ho3 hb3 c0 c1 d0 eB HB1 HB2 hs0
     go_wp2_with fail
     go_region_held3 (fun w' =>w'.cell? ⟨B,0,none⟩=some (.int .i64 r)∧w'.cell? ⟨B,1,none⟩=some (.int .i64 sg)) (first|assumption|exact⟨e0,e1⟩|(refine⟨?_,?_⟩<;>assumption)|go_keep)
      (first
       |(go_at_call 148;(with_reducible refine(HP1.out _).mono ?_);rintro e w4 ⟨rfl,ho4⟩;have HO4:Hid (Only Ωa w w4):=Θ (HO3.out.trans (Ωby ho4));have s0:=(Ωby ho4).cell_some e0 (fun e=>e);have s1:=(Ωby ho4).cell_some e1 (fun e=>e);clear ho4)
       |(go_at_call 148;(with_reducible refine(HP2.out _).mono ?_);rintro e w5 ⟨rfl,ho5⟩;have HO5:Hid (Only Ωa w w5):=Θ (HO4.out.trans ho5);have s2:=ho5.cell_some s0 (fun e=>e);have s3:=ho5.cell_some s1 (fun e=>e);clear ho5)
       |(go_at_call 149;(with_reducible refine(HMUL.out _).mono ?_);rintro e w6 ⟨rfl,k6,rfl⟩))
     all_goals
      go_wp2_with fail
      go_ret
      first
       |exact⟨rfl,ΩdA HO5.out _⟩
       |exact⟨rfl,HO5.out⟩
    ·rw[ΩgO (.inr hs1)]
     have HMK:=Θ hmk
     have HMR:=Θ hmr
     clear hmk hmr
     go_enter Tryz.func103,Tryz.ntmps103
     go_wp2_with fail
     refine(HMK.out _).mono ?_
     rintro e w1 ⟨rfl,ho1⟩
     have hb1:Blk w1 w.heap.size tSig #[.int .i64 r,.int .i64 sg]:=(Blk.new w _ _).only ho1 (fun e=>e)
     have c0:=hb1.cell 0
     have HB1:=Θ hb1
     have HO1:=Θ (((Only.refl Ωa w).alloc _).trans ho1)
     clear hb1 ho1
     go_wp2_with fail
     refine(HMR.out _).mono ?_
     rintro e w2 ⟨rfl,ho2⟩
     have c1:=(HB1.out.only ho2 (fun e=>e)).cell 1
     have HO2:=Θ (HO1.out.trans ho2)
     clear ho2
     go_wp2_with fail
     go_ret
     exact⟨rfl,HO2.out⟩
  ·have hr' :memB r=false:=by simpa using hr
   rw[Ωjo hr']
   rw[hr'] at hmr
   have HMK:=Θ hmk
   have HMR:=Θ hmr
   clear hmk hmr
   go_enter Tryz.func103,Tryz.ntmps103
   go_wp2_with fail
   refine(HMK.out _).mono ?_
   rintro e w1 ⟨rfl,ho1⟩
   have hb1:Blk w1 w.heap.size tSig #[.int .i64 r,.int .i64 sg]:=(Blk.new w _ _).only ho1 (fun e=>e)
   have c0:=hb1.cell 0
   have HO1:=Θ (((Only.refl Ωa w).alloc _).trans ho1)
   clear hb1 ho1
   go_wp2_with fail
   refine(HMR.out _).mono ?_
   rintro e w2 ⟨rfl,ho2⟩
   have HO2:=Θ (HO1.out.trans ho2)
   clear ho2
   go_wp2_with fail
   go_ret
   exact⟨rfl,HO2.out⟩
 ·have hk' :memB key=false:=by simpa using hk
  rw[ΩgP hk']
  rw[hk'] at hmk
  have HMK:=Θ hmk
  clear hmk hmr
  go_enter Tryz.func103,Tryz.ntmps103
  go_wp2_with fail
  refine(HMK.out _).mono ?_
  rintro e w1 ⟨rfl,ho1⟩
  have HO1:=Θ (((Only.refl Ωa w).alloc _).trans ho1)
  clear ho1
  go_wp2_with fail
  go_ret
  exact⟨rfl,HO1.out⟩
end
section
open Go.RowKit Go.Shelf
theorem Ωgn(a:Int)(h0: -9223372036854775808≤a)(h1:a≤9223372036854775807)(w:World):Calls Tryz.prog 89 #[.int .i64 a] w fun e w' =>e= .returned (.bool (memB a))∧w' =w:=by
 by_cases p0:0<a
 ·by_cases p1:a<2305843009213691579
  ·have hp:=Ωes a Q0 2305843009213691579 h0 h1 (by rw[ΩaU];omega) (by omega) (by omega) w
   have hm:=ΩlQ p0 p1
   rw[Ωhg] at hp
   obtain⟨v,ev⟩:∃v,v=powI a Q0 2305843009213691579:=⟨_,rfl⟩
   rw[←ev] at hp hm
   rw[hm]
   have HP:=Θ hp
   have p2:1≤a:=by omega
   clear hp hm ev h0 h1
   go_enter Tryz.func89,Tryz.ntmps89
   go_wp2_with fail
   refine HP.out.mono ?_
   rintro e w1 ⟨rfl,hw1⟩
   subst hw1
   by_cases hv1:v=1
   ·subst hv1
    go_wp2_with fail
    go_ret
    exact⟨rfl,rfl⟩
   ·have hv2:¬(v:Int)=1:=by omega
    go_wp2_with fail
    go_ret
    exact⟨by simp[hv1];omega,rfl⟩
  ·rw[Ωjg p1]
   have p2:1≤a:=by omega
   go_enter Tryz.func89,Tryz.ntmps89
   go_wp2_with fail
   go_ret
   exact⟨rfl,rfl⟩
 ·rw[ΩkE p0]
  have p2:¬1≤a:=by omega
  go_enter Tryz.func89,Tryz.ntmps89
  go_wp2_with fail
  go_ret
  exact⟨rfl,rfl⟩
theorem Ωd2(key r sg:Int)(s:ByteArray)(w:World)(hs:s.size≤17592186044416)(k0: -9223372036854775808≤key)(k1:key≤9223372036854775807)(r0: -9223372036854775808≤r)(r1:r≤9223372036854775807):
  Calls Tryz.prog 53 #[.int .i64 key,.string s,sgv r sg] w fun e w' =>e= .returned (.bool (ΩcQ key s.data.toList r sg))∧Only Ωa w w' :=by
 have hmk:=fun W=>Ωgn key k0 k1 W
 have hmr:=fun W=>Ωgn r r0 r1 W
 unfold sgv
 have hgk:=fun h=>ΩgP (key:=key) (r:=r) (s:=sg) (text:=s.data.toList) h
 have hgr:=fun h=>Ωjo (key:=key) (r:=r) (s:=sg) (text:=s.data.toList) h
 have hgs:=fun h=>ΩgO (key:=key) (r:=r) (s:=sg) (text:=s.data.toList) h
 have hgo:=fun hk hr=>Ωl7 (key:=key) (r:=r) (s:=sg) (text:=s.data.toList) hk hr
 have hri:=fun h=>ΩlR (a:=r) h
 obtain⟨bk,ebk⟩:∃b,b=memB key:=⟨_,rfl⟩
 obtain⟨br,ebr⟩:∃b,b=memB r:=⟨_,rfl⟩
 rw[←ebk] at hmk hgk hgo
 rw[←ebr] at hmr hgr hgo hri
 obtain⟨X,eX⟩:∃X,X=w.alloc (.cells #[.int .i64 r,.int .i64 sg] tSig):=⟨_,rfl⟩
 obtain⟨B,eB⟩:∃B,B=w.heap.size:=⟨_,rfl⟩
 have hb:=Blk.new w tSig #[.int .i64 r,.int .i64 sg]
 have hx:Only Ωa w X:=by rw[eX];exact(Only.refl _ _).alloc _
 rw[←eX,←eB] at hb
 have c0:X.cell? ⟨B,0,none⟩=some (.int .i64 r):=hb.cell 0
 have c1:X.cell? ⟨B,1,none⟩=some (.int .i64 sg):=hb.cell 1
 have HB:=Θ hb
 have HX:=Θ hx
 have HMK:=Θ hmk
 have HMR:=Θ hmr
 have HGK:=Θ hgk
 have HGR:=Θ hgr
 have HGS:=Θ hgs
 have HGO:=Θ hgo
 have HRI:=Θ hri
 have EX:=Θ eX
 have EB:=Θ eB
 have HK0:=Θ (And.intro k0 k1)
 clear hb hx hmk hmr hgk hgr hgs hgo hri eX eB ebk ebr k0 k1 r0 r1
 go_enter Tryz.func53,Tryz.ntmps53
 go_wp2_with fail
 rw[←EX.out,←EB.out]
 clear EX EB
 refine(HMK.out _).mono ?_
 rintro e w1 ⟨rfl,hw1⟩
 subst hw1
 go_wp2_with fail
 refine(HMR.out _).mono ?_
 rintro e w2 ⟨rfl,hw2⟩
 subst hw2
 cases bk
 ·go_wp2_with fail
  go_ret
  exact⟨Ωad (HGK.out (by simp)).symm,HX.out⟩
 cases br
 ·go_wp2_with fail
  go_ret
  exact⟨Ωad (HGR.out (by simp)).symm,HX.out⟩
 by_cases hs0:sg<0
 ·go_wp2_with fail
  go_ret
  exact⟨Ωad (HGS.out (.inl hs0)).symm,HX.out⟩
 by_cases hs1:sg<1152921504606845789
 ·have hs2:¬1152921504606845789≤sg:=by omega
  have hg:=HGO.out (by simp) (by simp) (by omega) hs1
  have hri:=HRI.out (by simp)
  have hk01:=HK0.out
  have hc:=fun W=>Ωi1 r key s W hs
  have hcl:=Ωj7 r key s.data.toList
  rw[ΩaU] at hcl
  obtain⟨c,ec⟩:∃c,c=chal r key s.data.toList:=⟨_,rfl⟩
  rw[←ec] at hc hcl hg
  obtain⟨σ,eσ⟩:∃σ:Nat,σ=sg.toNat:=⟨_,rfl⟩
  rw[←eσ] at hg
  have eσ2:(σ:Int)=sg:=by omega
  have hp1:=fun W=>Ωes 4 σ 2305843009213691579 (by omega) (by omega) (by omega) (by omega) (by omega) W
  rw[Ωic,eσ2] at hp1
  obtain⟨g,eg⟩:∃g,g=gp σ:=⟨_,rfl⟩
  rw[←eg] at hp1 hg
  have hp2:=fun W=>Ωes key c 2305843009213691579 hk01.1 hk01.2 (by omega) (by omega) (by omega) W
  have hpl:powI key c 2305843009213691579<2305843009213691579:=ΩoL _ (by decide)
  obtain⟨q,eq⟩:∃q,q=powI key c 2305843009213691579:=⟨_,rfl⟩
  rw[←eq] at hp2 hpl hg
  have hmul:=fun W=>Ωeu r q 2305843009213691579 (by omega) (by omega) (by omega) (by omega) (by omega) (by omega) W
  obtain⟨m,em⟩:∃m,m=r*(q:Int)%2305843009213691579:=⟨_,rfl⟩
  rw[←em] at hmul hg
  have HG:=Θ hg
  have HC:=Θ hc
  have HP1:=Θ hp1
  have HP2:=Θ hp2
  have HMUL:=Θ hmul
  clear hc hp1 hp2 hmul hg ec eg eq em eσ eσ2 hk01 hri
  go_wp2_with fail
  refine(HC.out _).mono ?_
  rintro e w3 ⟨rfl,ho3⟩
  have hb3:=HB.out.only ho3 (fun e=>e)
  have e0:w3.cell? ⟨B,0,none⟩=some (.int .i64 r):=hb3.cell 0
  have e1:w3.cell? ⟨B,1,none⟩=some (.int .i64 sg):=hb3.cell 1
  have HO3:=Θ (HX.out.trans ho3)
  clear ho3 hb3 c0 c1
  go_wp2_with fail
  go_region_held3 (fun w' =>w'.cell? ⟨B,0,none⟩=some (.int .i64 r)∧w'.cell? ⟨B,1,none⟩=some (.int .i64 sg)) (first|assumption|exact⟨e0,e1⟩|(refine⟨?_,?_⟩<;>assumption)|go_keep)
   (first
    |(go_at_call 74;(with_reducible refine(HP1.out _).mono ?_);rintro e w4 ⟨rfl,hw4⟩;subst hw4)
    |(go_at_call 74;(with_reducible refine(HP2.out _).mono ?_);rintro e w5 ⟨rfl,hw5⟩;subst hw5)
    |(go_at_call 91;(with_reducible refine(HMUL.out _).mono ?_);rintro e w6 ⟨rfl,hw6⟩;subst hw6))
  all_goals
   go_wp2_with fail
   go_ret
   exact⟨Ωad HG.out.symm,ΩdA HO3.out _⟩
 ·have hs2:1152921504606845789≤sg:=by omega
  go_wp2_with fail
  go_ret
  exact⟨Ωad (HGS.out (.inr (by omega))).symm,HX.out⟩
end
section
open Go.RowKit Go.Shelf
theorem stext_any(r s:Int)(hr:In r)(hs:In s)(w:World)(ht:Tab w):Calls Tryz.prog 137 #[sgv r s] w (Ωq (Ωc6 r s) w):=by
 unfold sgv
 obtain⟨r0,r1⟩:=hr
 obtain⟨s0,s1⟩:=hs
 have hb:=Blk.new w tSig #[.int .i64 r,.int .i64 s]
 have c0:(w.alloc (.cells #[.int .i64 r,.int .i64 s] tSig)).cell? ⟨w.heap.size,0,none⟩=some (.int .i64 r):=hb.cell 0
 have c1:(w.alloc (.cells #[.int .i64 r,.int .i64 s] tSig)).cell? ⟨w.heap.size,1,none⟩=some (.int .i64 s):=hb.cell 1
 have hx:Only Ωa w (w.alloc (.cells #[.int .i64 r,.int .i64 s] tSig)):=(Only.refl _ _).alloc _
 have htx:=ht.none hx
 obtain⟨B,eB⟩:∃B,B=w.heap.size:=⟨_,rfl⟩
 obtain⟨X,eX⟩:∃X,X=w.alloc (.cells #[.int .i64 r,.int .i64 s] tSig):=⟨_,rfl⟩
 rw[←eX,←eB] at c0 c1
 rw[←eX] at hx htx
 have HX:=Θ hx
 have HT:=Θ htx
 have HTD:=Θ (show Tab X.drew from htx)
 have HR:=Θ (fun W hW=>ΩdC r r0 r1 W hW)
 have HS:=Θ (fun W hW=>ΩdC s s0 s1 W hW)
 have hlr:=ΩV r0 r1
 have hls:=ΩV s0 s1
 go_enter Tryz.func137,Tryz.ntmps137
 go_wp2_with fail
 rw[←eX,←eB]
 clear eX eB hb hx htx ht r0 r1 s0 s1
 go_region_held3 (fun w' =>w'.cell? ⟨B,0,none⟩=some (.int .i64 r)∧w'.cell? ⟨B,1,none⟩=some (.int .i64 s)) (first|assumption|exact⟨c0,c1⟩|(refine⟨?_,?_⟩<;>assumption)|go_keep)
  (first
   |(go_at_call 154;(with_reducible refine(HR.out _ (by first|exact HT.out|exact HTD.out)).mono ?_);rintro e w4 ⟨t4,rfl,ht4,ho4⟩;have HO4:Hid (Only Ωa X w4):=Θ (Ωby ho4);have hz4:t4.size≤21:=(by rw[Ωc,ht4];exact hlr);have hq4:¬9223372036854775807<t4.size+1:=(by omega);have HT4:=Θ ht4;have HTB:=Θ (HT.out.none HO4.out);have d0:=HO4.out.cell_some c0 (fun e=>e);have d1:=HO4.out.cell_some c1 (fun e=>e);clear ho4 ht4)
   |(go_at_call 154;(with_reducible refine(HS.out _ HTB.out).mono ?_);rintro e w5 ⟨t5,rfl,ht5,ho5⟩;have HO5:Hid (Only Ωa X w5):=Θ (HO4.out.trans ho5);have hz5:t5.size≤21:=(by rw[Ωc,ht5];exact hls);have hq5:¬9223372036854775807<t4.size+1+t5.size:=(by omega);have HT5:=Θ ht5;have f0:=HO5.out.cell_some c0 (fun e=>e);have f1:=HO5.out.cell_some c1 (fun e=>e);clear ho5 ht5))
 all_goals
  go_wp2_with fail
  go_ret
  first
   |exact Ωq.mk (by rw[ΩnP,ΩnP,ΩnQ,ΩnQ,HT4.out,HT5.out];simp[Ωc6]) (HX.out.trans HO5.out)
end
section
open Go.RowKit Go.Shelf
def DecI(m u:Nat)(out:List UInt8):Prop:=(u≠0→Lib.decDigits m=Lib.decDigits u++out)∧(u=0→Lib.decDigits m=out)
theorem DecI.len{m u:Nat}{out:List UInt8}(h:DecI m u out)(hm:m<18446744073709551616):out.length≤20:=by
 have:=Ωdp hm
 by_cases h0:u=0
 ·rw[h.2 h0] at this;exact this
 ·rw[h.1 h0,ΩnA] at this;omega
theorem DecI.step{m u:Nat}{out:List UInt8}(h:DecI m u out)(hu:u≠0):DecI m (u/10) (UInt8.ofNat (48+u%10)::out):=by
 have h1:=h.1 hu
 by_cases h10:u<10
 ·rw[Ωb4 h10] at h1
  refine⟨fun h=>by omega,fun _=> ?_⟩
  rw[h1,Nat.mod_eq_of_lt h10];rfl
 ·rw[Ωj4 h10] at h1
  refine⟨fun _=> ?_,fun h=>by omega⟩
  rw[h1];simp
theorem tm10(v:Int)(u:Nat)(h:v=(u:Int)∨v= -(u:Int)):∃e:Int,v.tmod 10=e∧(e=((u%10:Nat):Int)∨e= -((u%10:Nat):Int)):=by
 refine⟨_,rfl,?_⟩
 rw[Int.tmod_eq_emod]
 split<;>omega
theorem td10(v:Int)(u:Nat)(s:Bool)(h:v=if s then-(u:Int) else(u:Int)):v.tdiv 10=if s then-((u/10:Nat):Int) else((u/10:Nat):Int):=by
 rw[Int.tdiv_eq_ediv]
 have hs:Int.sign 10=1:=rfl
 cases s
 ·simp at h;simp;subst h;split<;>omega
 ·simp at h;simp;subst h;split<;>omega
theorem Ωnb(d:Nat)(h:d<10):IntKind.u8.wrap (48+(d:Int))=((UInt8.ofNat (48+d)).toNat :Int):=by
 rw[of_digit h]
 simp[IntKind.wrap,IntKind.bits,IntKind.signed]
 omega
def DecR(m:Nat)(sg:Bool)(w:World)(o v:Value)(wr:World):Prop:=
 ∃(t:ByteArray) (u:Nat),o= .string t∧v= .int .i64 (if sg then-(u:Int) else(u:Int))∧u≤9223372036854775808∧(sg=false→u≤9223372036854775807)∧DecI m u t.data.toList∧Only Ωa w wr
theorem Ωku(n:Int)(hn:In n)(w:World):Calls Tryz.prog 172 #[.int .i64 n] w (Ωq (Lib.itoa n) w):=by
 obtain⟨n0,n1⟩:=hn
 by_cases hz:n=0
 ·subst hz
  go_enter Tryz.func172,Tryz.ntmps172
  go_wp2_with fail
  go_ret
  exact Ωq.mk (by decide+kernel) (Only.refl _ _)
 ·obtain⟨m,em⟩:∃m,m=n.natAbs:=⟨_,rfl⟩
  obtain⟨sg,esg⟩:∃sg:Bool,sg=decide (n<0):=⟨_,rfl⟩
  have hnm:n=if sg then-(m:Int) else(m:Int):=by
   rw[esg,em];simp only[decide_eq_true_eq];split<;>omega
  have hm:m<18446744073709551616:=by omega
  have hi:Lib.itoa n=if sg then 45::Lib.decDigits m else Lib.decDigits m:=by
   unfold Lib.itoa
   rw[esg,em];simp only[decide_eq_true_eq];split
   ·rfl
   ·rw[show n.toNat=n.natAbs by omega]
  have HI:=Θ hi
  have HNM:=Θ hnm
  have ESG:=Θ esg
  have EM:=Θ em
  clear hi hnm esg em
  go_enter Tryz.func172,Tryz.ntmps172
  go_wp2_with fail
  rw[show(n==0)=false by simpa using hz]
  go_loopw [3,4] (fun o v wr=>DecR m sg w o v wr) (fun _ v _=>(intOf v).natAbs)
  case atStart=>
   have:=ESG.out
   have h2:=HNM.out
   refine⟨_,m,rfl,by rw[←h2],by have:=EM.out;omega,fun hf=>by rw[hf] at h2;simp at h2;omega,⟨fun _=>by simp,fun h0=>by have:=EM.out;omega⟩,Only.refl _ _⟩
  case round=>
   obtain⟨t,u,rfl,rfl,hu,hu2,hd,ho⟩:=hrel
   have hl:=hd.len hm
   have hts:t.size≤20:=by rw[Ωc];exact hl
   obtain⟨v,ev⟩:∃v,v=if sg then-(u:Int) else(u:Int):=⟨_,rfl⟩
   rw[←ev]
   have hv:v=(u:Int)∨v= -(u:Int):=by rw[ev];split<;>simp
   have hvb: -9223372036854775808≤v∧v≤9223372036854775807:=by
    rw[ev];split
    ·omega
    ·have:=hu2 (by simpa using ‹¬sg=true›);omega
   obtain⟨hv0,hv1⟩:=hvb
   by_cases h0:u=0
   ·have v0:v=0:=by omega
    have hdd:=hd.2 h0
    have HD:=Θ hdd
    have HO:=Θ ho
    clear ev hv hd hdd ho hu2
    subst v0
    cases hsg:sg with
    |false=>
     have hn0:¬n<0:=by have:=ESG.out;rw[hsg] at this;simpa using this.symm
     rw[hsg] at HI
     go_wp2_with fail
     go_ret
     refine Ωq.mk ?_ HO.out
     rw[HI.out,HD.out];rfl
    |true=>
     have hn0:n<0:=by have:=ESG.out;rw[hsg] at this;simpa using this.symm
     have hq:¬9223372036854775807<1+t.size:=by omega
     rw[hsg] at HI
     go_wp2_with fail
     go_ret
     refine Ωq.mk ?_ HO.out
     rw[HI.out,HD.out,ΩnP,ΩnQ];rfl
   ·obtain⟨e,em1,he⟩:=tm10 v u hv
    have htd:=td10 v u sg ev
    have hst:=hd.step h0
    have hu8:=Ωnb (u%10) (by omega)
    obtain⟨d,ed⟩:∃d,d=u%10:=⟨_,rfl⟩
    obtain⟨q,eq⟩:∃q,q=u/10:=⟨_,rfl⟩
    rw[←ed] at he hst hu8
    rw[←eq] at htd hst
    obtain⟨z,ez⟩:∃z,z=v.tdiv 10:=⟨_,rfl⟩
    have hzb: -9223372036854775808≤z∧z≤9223372036854775807:=by rw[ez,htd];split<;>omega
    obtain⟨c,ec⟩:∃c,c=UInt8.ofNat (48+d):=⟨_,rfl⟩
    rw[←ec] at hst hu8
    have w1:IntKind.i64.wrap (v.tmod 10)=e:=by rw[em1];exact ΩnH _ (by omega)
    have w2:IntKind.i64.wrap (v.tdiv 10)=z:=by rw[←ez];exact ΩnH _ hzb
    have w3:IntKind.i64.wrap (48+(d:Int))=48+(d:Int):=ΩnH _ (by omega)
    have hnv:¬v=0:=by omega
    have hq:¬9223372036854775807<1+t.size:=by omega
    have hu8' :(48+(d:Int))%256=(c.toNat:Int):=by rw[←hu8];simp[IntKind.wrap,IntKind.bits,IntKind.signed]
    have ez' :=ez.symm
    have w5:IntKind.i64.wrap z=z:=ΩnH _ hzb
    have hby:ΩI (wr.alloc (.cells #[.int .u8 (c.toNat:Int)] 5)) wr.heap.size 0 [c]:=Ωds (Blk.new wr 5 #[bv c])
    have HBY:=Θ hby
    have HO:=Θ ho
    have HST:=Θ hst
    have HTD:=Θ (ez.trans htd)
    have HU2:=Θ hu2
    have EQ:=Θ eq
    have EV:=Θ ev
    have hms:(intOf (.int .i64 z)).natAbs <(intOf (.int .i64 v)).natAbs :=by
     show z.natAbs<v.natAbs
     rw[ez,htd,ev,eq]
     split<;>omega
    have HMS:=Θ hms
    have tok:True:=trivial
    have L1:(⟨[c].toArray⟩:ByteArray).size =1:=rfl
    have fin:∀W,Only Ωa w W→DecR m sg w (.string ((⟨[c].toArray⟩:ByteArray)++t)) (.int .i64 z) W:=fun W hW=>by
     refine⟨_,q,rfl,by rw[HTD.out],by have:=EQ.out;omega,fun h=>by have:=EQ.out;have:=HU2.out h;omega,?_,hW⟩
     rw[ΩnP,ΩnQ]
     exact HST.out
    have FIN:=Θ fin
    by_cases hneg:e<0
    ·have w4:IntKind.i64.wrap (-e)=(d:Int):=by rw[show-e=(d:Int) by omega];exact ΩnH _ (by omega)
     clear hd ho hst htd ec ed eq hby hu2 ev hms fin hv he hl ez hzb
     go_wp2_with (have _t:=tok;refine Ωy rfl 22 9 5 (.tmp 20) rfl wr.heap.size 0 1 1 rfl [c] rfl HBY.out Tryz.underlying22 Tryz.underlying5 Tryz.underlying9 ?_;clear tok _t)
     go_roundw
     case rel=>first|exact FIN.out _ (HO.out.alloc _)|exact⟨_,_,_,_,_,_,_,_,_,_,_,_,_,_,_,_,_,_,_,_,FIN.out _ (HO.out.alloc _),rfl⟩
     case measure=>exact HMS.out
    ·obtain rfl:e=(d:Int):=by omega
     clear hd ho hst htd ec ed eq hby hu2 ev hms fin hv he hl ez hzb
     go_wp2_with (have _t:=tok;refine Ωy rfl 22 9 5 (.tmp 20) rfl wr.heap.size 0 1 1 rfl [c] rfl HBY.out Tryz.underlying22 Tryz.underlying5 Tryz.underlying9 ?_;clear tok _t)
     go_roundw
     case rel=>first|exact FIN.out _ (HO.out.alloc _)|exact⟨_,_,_,_,_,_,_,_,_,_,_,_,_,_,_,_,_,_,_,_,FIN.out _ (HO.out.alloc _),rfl⟩
     case measure=>exact HMS.out
end
section
open Go.RowKit Go.Shelf
theorem rtext_any(r s:Int)(hr:In r)(hs:In s)(w:World):Calls Tryz.prog 145 #[sgv r s] w (Ωq (Ωc6 r s) w):=by
 unfold sgv
 obtain⟨r0,r1⟩:=hr
 obtain⟨s0,s1⟩:=hs
 have hb:=Blk.new w tSig #[.int .i64 r,.int .i64 s]
 have c0:(w.alloc (.cells #[.int .i64 r,.int .i64 s] tSig)).cell? ⟨w.heap.size,0,none⟩=some (.int .i64 r):=hb.cell 0
 have c1:(w.alloc (.cells #[.int .i64 r,.int .i64 s] tSig)).cell? ⟨w.heap.size,1,none⟩=some (.int .i64 s):=hb.cell 1
 have hx:Only Ωa w (w.alloc (.cells #[.int .i64 r,.int .i64 s] tSig)):=(Only.refl _ _).alloc _
 obtain⟨B,eB⟩:∃B,B=w.heap.size:=⟨_,rfl⟩
 obtain⟨X,eX⟩:∃X,X=w.alloc (.cells #[.int .i64 r,.int .i64 s] tSig):=⟨_,rfl⟩
 rw[←eX,←eB] at c0 c1
 rw[←eX] at hx
 have HX:=Θ hx
 have HR:=Θ (fun W=>Ωku r ⟨r0,r1⟩ W)
 have HS:=Θ (fun W=>Ωku s ⟨s0,s1⟩ W)
 have hlr:=ΩV r0 r1
 have hls:=ΩV s0 s1
 go_enter Tryz.func145,Tryz.ntmps145
 go_wp2_with fail
 rw[←eX,←eB]
 clear eX eB hb hx r0 r1 s0 s1
 go_region_held3 (fun w' =>w'.cell? ⟨B,0,none⟩=some (.int .i64 r)∧w'.cell? ⟨B,1,none⟩=some (.int .i64 s)) (first|assumption|exact⟨c0,c1⟩|(refine⟨?_,?_⟩<;>assumption)|go_keep)
  (first
   |(go_at_call 172;(with_reducible refine(HR.out _).mono ?_);rintro e w4 ⟨t4,rfl,ht4,ho4⟩;have HO4:Hid (Only Ωa X w4):=Θ (Ωby ho4);have hz4:t4.size≤21:=(by rw[Ωc,ht4];exact hlr);have hq4:¬9223372036854775807<t4.size+1:=(by omega);have HT4:=Θ ht4;have d0:=HO4.out.cell_some c0 (fun e=>e);have d1:=HO4.out.cell_some c1 (fun e=>e);clear ho4 ht4)
   |(go_at_call 172;(with_reducible refine(HS.out _).mono ?_);rintro e w5 ⟨t5,rfl,ht5,ho5⟩;have HO5:Hid (Only Ωa X w5):=Θ (HO4.out.trans ho5);have hz5:t5.size≤21:=(by rw[Ωc,ht5];exact hls);have hq5:¬9223372036854775807<t4.size+1+t5.size:=(by omega);have HT5:=Θ ht5;have f0:=HO5.out.cell_some c0 (fun e=>e);have f1:=HO5.out.cell_some c1 (fun e=>e);clear ho5 ht5))
 all_goals
  go_wp2_with fail
  go_ret
  first
   |exact Ωq.mk (by rw[ΩnP,ΩnP,ΩnQ,ΩnQ,HT4.out,HT5.out];simp[Ωc6]) (HX.out.trans HO5.out)
end
section
open Go.RowKit
theorem Ωu{w w' :World}{g o:Nat}{cs:List Value}(h:w.rangeAt g o cs)(ho:Only Ωa w w'):w'.rangeAt g o cs:=fun j v hj=>ho.cell_some (h j v hj) (fun e=>e)
structure Pers where
 id:Int
 role:Int
 pub:Int
def Ωbx(p:Pers):List Value:=[.int .i64 p.id,.int .i64 p.role,.int .i64 p.pub]
def Ωa6(w:World)(v:Value)(P:List Pers):Prop:=
 ∃A cap,v= .slice A P.length cap∧P.length≤cap∧cap≤9223372036854775807∧∀(i:Nat) (p:Pers),P[i]? =some p→∃g o,A=some ⟨g,o,none⟩∧g<w.heap.size∧w.rangeAt g (o+i*3) (Ωbx p)
theorem Ωa6.only{w w' :World}{v:Value}{P:List Pers}(h:Ωa6 w v P)(ho:Only Ωa w w'):Ωa6 w' v P:=by
 obtain⟨A,cap,hv,h1,h2,h3⟩:=h
 refine⟨A,cap,hv,h1,h2,fun i p hp=> ?_⟩
 obtain⟨g,o,hA,hg,hr⟩:=h3 i p hp
 exact⟨g,o,hA,ΩnT hg ho.size,Ωu hr ho⟩
theorem Ωex(p:Pers):(Ωbx p).length =3:=rfl
def ΩT(w:World)(base:Nat)(v:Value)(n:Nat)(P:List Pers):Prop:=w.ownsRow base 67 3 v n (P.flatMap Ωbx)
theorem ΩT.sl{w:World}{base:Nat}{v:Value}{P:List Pers}(h:ΩT w base v P.length P):Ωa6 w v P:=by
 rcases h.2 with⟨rfl,h0⟩|⟨g,cap,cur,rfl,hb,hh,hc,hm,hs,ht⟩
 ·have hP0:P=[]:=ΩnZ h0
  subst hP0
  exact⟨none,0,rfl,Ωnv _,by omega,fun i e he=>by simp at he⟩
 ·rw[Ωg] at hm
  refine⟨some ⟨g,0,none⟩,cap,rfl,hc,hm,fun i p hp=>⟨g,0,rfl,Blk.lt (t:=67) hh,fun j x hj=> ?_⟩⟩
  have hj2:j<3:=(Ωnx.1 hj).1
  have h1:=Ωit Ωex P i j hj2 p hp
  have h2:=World.ownsRow.cells h rfl (i*3+j) x (h1.trans hj)
  rw[ΩoK,ΩnR] at h2
  rw[ΩnR]
  exact h2
theorem Ωcr:∃ie z,Tryz.prog.info? 67=some ie∧ie.size=3∧ie.zero=some z∧z.cells.size=3∧ie.bytes=24:=by
 have h1:(Tryz.prog.info? 67).map (·.size)=some 3:=by kernel_rfl
 have h2:((Tryz.prog.info? 67).bind (·.zero)).isSome =true:=by kernel_rfl
 have h3:(Tryz.prog.info? 67).map (·.bytes)=some 24:=by kernel_rfl
 have h4:((Tryz.prog.info? 67).bind (·.zero)).map (fun z=>z.cells.size)=some 3:=by kernel_rfl
 cases hie:Tryz.prog.info? 67 with
 |none=>simp[hie] at h1
 |some ie=>
  simp only[hie,Ωoe,Option.some.injEq,Option.bind_some] at h1 h2 h3 h4
  obtain⟨z,hz⟩:=Option.isSome_iff_exists.1 h2
  simp only[hz,Ωoe,Option.some.injEq] at h4
  exact⟨ie,z,rfl,h1,hz,h4,h3⟩
end
section
structure Hd where
 size:Int
 root:List UInt8
structure Hd.Ok(h:Hd):Prop where
 size:In h.size
 root:h.root.length=32
def hdC(h:Hd):List Value:= .int .i64 h.size::h.root.map bv
theorem Ωo{h:Hd}(hl:h.root.length=32):(hdC h).length =33:=by simp[hdC,hl]
structure Vt where
 who:Int
 head:Hd
 r:Int
 s:Int
structure Vt.Ok(v:Vt):Prop where
 who:In v.who
 head:v.head.Ok
 r:In v.r
 s:In v.s
def vtC(v:Vt):List Value:= .int .i64 v.who::(hdC v.head++[.int .i64 v.r,.int .i64 v.s])
theorem Ω0{v:Vt}(hl:v.head.root.length=32):(vtC v).length =36:=by simp[vtC,Ωo hl]
def ΩbB(h:Hd):List UInt8:=[104,101,97,100,32]++Lib.itoa h.size++[32]++hexL h.root
noncomputable def cnts(p:Pers)(v:Vt):Bool:=v.who==p.id&&ΩcQ p.pub (ΩbB v.head) v.r v.s
def ΩcO(seen:List Int):List Pers→List Pers
 |[]=>[]
 |p::l=>if p.id∉seen∧p.role=2 then p::ΩcO (p.id::seen) l else ΩcO (p.id::seen) l
def offs(P:List Pers):List Pers:=ΩcO [] P
theorem Ωe9:∀(P:List Pers) (seen:List Int),∀p∈ΩcO seen P,p.id∉seen
 |[],_,_,h=>by cases h
 |q::l,seen,p,h=>by
  unfold ΩcO at h
  split at h
  ·rename_i hq
   rcases Ωn3.1 h with rfl|h
   ·exact hq.1
   ·exact fun hm=>Ωe9 l _ p h (List.mem_cons_of_mem _ hm)
  ·exact fun hm=>Ωe9 l _ p h (List.mem_cons_of_mem _ hm)
theorem Ωd8:∀(P:List Pers) (seen:List Int),(ΩcO seen P).Pairwise (fun p q=>p.id≠q.id)
 |[],_=>List.Pairwise.nil
 |q::l,seen=>by
  unfold ΩcO
  split
  ·refine List.pairwise_cons.2 ⟨fun p hp h=> ?_,Ωd8 l _⟩
   exact Ωe9 l _ p hp (by rw[←h];exact List.mem_cons_self ..)
  ·exact Ωd8 l _
theorem Ωe8(P:List Pers):(offs P).Pairwise (fun p q=>p.id≠q.id):=Ωd8 P []
theorem Ωgx:∀(P:List Pers) (seen:List Int),∀p∈ΩcO seen P,p∈P
 |[],_,_,h=>by cases h
 |q::l,seen,p,h=>by
  unfold ΩcO at h
  split at h
  ·rcases Ωn3.1 h with rfl|h
   ·exact List.mem_cons_self ..
   ·exact List.mem_cons_of_mem _ (Ωgx l _ p h)
  ·exact List.mem_cons_of_mem _ (Ωgx l _ p h)
theorem offs_sub(P:List Pers):∀p∈offs P,p∈P:=Ωgx P []
theorem Ωja:∀(P:List Pers) (seen:List Int),(ΩcO seen P).length≤P.length
 |[],_=>Ωnv _
 |q::l,seen=>by
  unfold ΩcO
  have:=Ωja l (q.id::seen)
  split<;>simp only[ΩnD]<;>omega
theorem Ωce(P:List Pers):(offs P).length≤P.length:=Ωja P []
theorem ΩhE:∀(P:List Pers) (seen:List Int) (k:Nat) (p:Pers),P[k]? =some p→
  ΩcO seen (P.take (k+1))=ΩcO seen (P.take k)++(if(p.id∉(P.take k).map (·.id)∧p.id∉seen)∧p.role=2 then [p] else [])
 |[],_,_,_,h=>by simp at h
 |q::l,seen,0,p,h=>by
  simp at h;subst h
  simp only[Ωoc,Ωoz,ΩcO,List.map_nil,Ωol,not_false_eq_true,true_and,ΩoD]
 |q::l,seen,k+1,p,h=>by
  have ih:=ΩhE l (q.id::seen) k p (by simpa using h)
  simp only[Ωoc,ΩoF,Ωn3,not_or]
  rw[ΩcO,ih]
  have e:(if(p.id∉(l.take k).map (·.id)∧p.id∉q.id::seen)∧p.role=2 then [p] else [])=(if((¬p.id=q.id∧p.id∉(l.take k).map (·.id))∧p.id∉seen)∧p.role=2 then [p] else []):=by
   congr 1
   simp only[Ωn3,not_or,eq_iff_iff]
   constructor<;>(rintro⟨⟨h1,h2⟩,h3⟩;exact⟨by first|exact⟨⟨h2.1,h1⟩,h2.2⟩|exact⟨h1.2,h1.1,h2⟩,h3⟩)
  rw[e]
  rw[show ΩcO seen (q::l.take k)=if q.id∉seen∧q.role=2 then q::ΩcO (q.id::seen) (l.take k) else ΩcO (q.id::seen) (l.take k) from rfl]
  by_cases hq:q.id∉seen∧q.role=2
  ·rw[ΩnV hq,ΩnV hq];rfl
  ·rw[ΩnU hq,ΩnU hq]
theorem Ωi9{P:List Pers}{k:Nat}{p:Pers}(h:P[k]? =some p):
  offs (P.take (k+1))=offs (P.take k)++(if p.id∉(P.take k).map (·.id)∧p.role=2 then [p] else []):=by
 unfold offs
 rw[ΩhE P [] k p h]
 simp
def need(n:Nat):Nat:=2*(n/3)+n%3*2/3+1
noncomputable def eqHd(a b:Hd):Bool:= @decide (a=b) (Classical.propDecidable _)
theorem Ωas{a b:Hd}:eqHd a b=true↔a=b:=by unfold eqHd;simp
theorem Ωfm{a b:Hd}:eqHd a b=false↔a≠b:=by unfold eqHd;simp
noncomputable def Ω1(O:List Pers)(l:List Vt)(h:Hd):Nat:=O.countP (fun p=>l.any (fun v=>eqHd v.head h&&cnts p v))
noncomputable def Ωba(P:List Pers)(h:Hd)(l:List Vt):Bool:=decide (need (offs P).length≤Ω1 (offs P) l h)
end
section
open Go.RowKit
abbrev tHd:TypeId:=37
abbrev tVt:TypeId:=43
def Ωa4(v:Value):Sem Value:=Instr.loadAt 37 v
theorem ΩG(v:Value):Instr.loadAt 37 v=Ωa4 v:=rfl
def ΩbJ(p v:Value):Sem Unit:=Instr.storeAt 37 p v
theorem ΩQ(p v:Value):Instr.storeAt 37 p v=ΩbJ p v:=rfl
def Ωne:Sem Value:=Instr.alloc 37 true (.tuple #[])
theorem Ωaq:Instr.alloc 37 true (.tuple #[])=Ωne:=rfl
def Ωbm(v:Value):Sem Value:=Instr.loadAt 43 v
theorem Ωaj(v:Value):Instr.loadAt 43 v=Ωbm v:=rfl
def Ωf7(p v:Value):Sem Unit:=Instr.storeAt 43 p v
theorem ΩaV(p v:Value):Instr.storeAt 43 p v=Ωf7 p v:=rfl
def Ωm8:Sem Value:=Instr.alloc 43 true (.tuple #[])
theorem Ωb9:Instr.alloc 43 true (.tuple #[])=Ωm8:=rfl
def ΩfO(v:Value):Sem Value:=Instr.loadAt 35 v
theorem Ωd3(v:Value):Instr.loadAt 35 v=ΩfO v:=rfl
def Ωgj(v:Value):Sem Value:=Instr.loadAt 41 v
theorem Ωgi(v:Value):Instr.loadAt 41 v=Ωgj v:=rfl
def Ωm9(parts:Array (Nat×Value)):Sem Value:=Instr.buildSlice 32 1 parts
theorem ΩcG(parts:Array (Nat×Value)):Instr.buildSlice 32 1 parts=Ωm9 parts:=rfl
def Ωnc:List UInt8:=List.replicate 32 0
def hd0:Hd:=⟨0,Ωnc⟩
def vt0:Vt:=⟨0,hd0,0,0⟩
def hd0C:Array Value:=(hdC hd0).toArray
def vt0C:Array Value:=(vtC vt0).toArray
theorem ΩC{W:World}{g o:Nat}{h:Hd}(hr:W.rangeAt g o (hdC h))(hl:h.root.length=32):(Ωa4 (.pointer (some ⟨g,o,none⟩))).run Tryz.prog W= .ok (.agg (hdC h).toArray) W:=
 ΩoG W g o 37 (hdC h) _ hr Tryz.underlying37 rfl (by rw[Ωo hl];kernel_rfl)
theorem ΩX{W:World}{g o:Nat}{v:Vt}(hr:W.rangeAt g o (vtC v))(hl:v.head.root.length=32):(Ωbm (.pointer (some ⟨g,o,none⟩))).run Tryz.prog W= .ok (.agg (vtC v).toArray) W:=
 ΩoG W g o 43 (vtC v) _ hr Tryz.underlying43 rfl (by rw[Ω0 hl];kernel_rfl)
theorem Ωet{W:World}{g o:Nat}{l:List UInt8}(hr:W.rangeAt g o (l.map bv))(hl:l.length=32):(ΩfO (.pointer (some ⟨g,o,none⟩))).run Tryz.prog W= .ok (hv l) W:=
 ΩoG W g o 35 (l.map bv) _ hr Tryz.underlying35 rfl (by rw[ΩnN,hl];kernel_rfl)
theorem Ωgh{W:World}{g o:Nat}{r s:Int}(hr:W.rangeAt g o [.int .i64 r,.int .i64 s]):(Ωgj (.pointer (some ⟨g,o,none⟩))).run Tryz.prog W= .ok (sgv r s) W:=
 ΩoG W g o 41 [.int .i64 r,.int .i64 s] _ hr Tryz.underlying41 rfl (by kernel_rfl)
theorem Ωil(h:Hd):∀u∈hdC h,u.oneCell' =true:=fun u hu=>by
 unfold hdC at hu
 rcases Ωn3.1 hu with rfl|hu
 ·rfl
 ·obtain⟨x,_,rfl⟩:=Ωos.1 hu;rfl
theorem Ωc2(v:Vt):∀u∈vtC v,u.oneCell' =true:=fun u hu=>by
 unfold vtC at hu
 rcases Ωn3.1 hu with rfl|hu
 ·rfl
 ·rcases ΩoH.1 hu with hu|hu
  ·exact Ωil _ _ hu
  ·simp only[Ωn3,Ωol,or_false] at hu
   rcases hu with rfl|rfl<;>rfl
theorem Ωax{W:World}{b:Nat}{cs:Array Value}{h:Hd}(hb:Blk W b tHd cs)(hs:cs.size=33)(hl:h.root.length=32):(ΩbJ (.pointer (some ⟨b,0,none⟩)) (.agg (hdC h).toArray)).run Tryz.prog W= .ok () (W.setCells b 0 (hdC h)):=
 run_storeAt_mid (P:=Tryz.prog) W b 0 37 (hdC h).toArray (hb.there 0 _ (by rw[ΩnJ,Ωo hl,hs];exact Ωnv _)) (by rw[ΩnJ,Ωo hl];kernel_rfl) (all_oneCell_toArray (Ωil h))
theorem Ωek{W:World}{b:Nat}{cs:Array Value}{v:Vt}(hb:Blk W b tVt cs)(hs:cs.size=36)(hl:v.head.root.length=32):(Ωf7 (.pointer (some ⟨b,0,none⟩)) (.agg (vtC v).toArray)).run Tryz.prog W= .ok () (W.setCells b 0 (vtC v)):=
 run_storeAt_mid (P:=Tryz.prog) W b 0 43 (vtC v).toArray (hb.there 0 _ (by rw[ΩnJ,Ω0 hl,hs];exact Ωnv _)) (by rw[ΩnJ,Ω0 hl];kernel_rfl) (all_oneCell_toArray (Ωc2 v))
theorem Ωal(W:World):Ωne.run Tryz.prog W= .ok (.pointer (some ⟨W.heap.size,0,none⟩)) (W.alloc (.cells hd0C 37)):=by kernel_rfl
theorem ΩbZ(W:World):Ωm8.run Tryz.prog W= .ok (.pointer (some ⟨W.heap.size,0,none⟩)) (W.alloc (.cells vt0C 43)):=by kernel_rfl
theorem Ωj{W:World}{b:Nat}{t:TypeId}{cs:Array Value}(h:Blk W b t cs){ds:List Value}(hl:ds.length=cs.size):Blk (W.setCells b 0 ds) b t ds.toArray:=by
 have h1:Blk W b t cs.toList.toArray:=by rw[Array.toArray_toList];exact h
 exact h1.filled ds (by rw[Array.length_toList];exact hl)
def VtAt(w:World)(B:Nat)(v:Vt):Prop:=Blk w B tVt (vtC v).toArray
def HdAt(w:World)(B:Nat)(h:Hd):Prop:=Blk w B tHd (hdC h).toArray
theorem Ωd{w:World}{B:Nat}{t:TypeId}{cs:List Value}(h:Blk w B t cs.toArray):w.rangeAt B 0 cs:=fun j v hj=>by rw[ΩnR,h.cell];simpa using hj
theorem Ω8{w:World}{g o:Nat}{v:Vt}(hr:w.rangeAt g o (vtC v))(_hl:v.head.root.length=32):w.rangeAt g (o+1) (hdC v.head):=fun j x hj=>by
 have h1:=hr (1+j) x (by
  have hj2:=(Ωnx.1 hj).1
  unfold vtC
  rw[show 1+j=j+1 by omega,ΩnK,Ωn1 hj2]
  exact hj)
 rw[show o+1+j=o+(1+j) by omega]
 exact h1
theorem Ωdb{w:World}{g o:Nat}{v:Vt}(hr:w.rangeAt g o (vtC v))(hl:v.head.root.length=32):w.rangeAt g (o+34) [.int .i64 v.r,.int .i64 v.s]:=fun j x hj=>by
 have h1:=hr (34+j) x (by
  unfold vtC
  rw[show 34+j=(33+j)+1 by omega,ΩnK,ΩnM (by rw[Ωo hl];omega),Ωo hl,show 33+j-33=j by omega]
  exact hj)
 rw[show o+34+j=o+(34+j) by omega]
 exact h1
theorem ΩD{w:World}{g o:Nat}{h:Hd}(hr:w.rangeAt g o (hdC h)):w.rangeAt g (o+1) (h.root.map bv):=fun j x hj=>by
 have h1:=hr (1+j) x (by unfold hdC;rw[show 1+j=j+1 by omega,ΩnK];exact hj)
 rw[show o+1+j=o+(1+j) by omega]
 exact h1
def VtSl(w:World)(v:Value)(L:List Vt):Prop:=
 ∃A cap,v= .slice A L.length cap∧L.length≤cap∧cap≤9223372036854775807∧∀(i:Nat) (e:Vt),L[i]? =some e→∃g o,A=some ⟨g,o,none⟩∧g<w.heap.size∧w.rangeAt g (o+i*36) (vtC e)
theorem VtSl.only{w w' :World}{v:Value}{L:List Vt}(h:VtSl w v L)(ho:Only Ωa w w'):VtSl w' v L:=by
 obtain⟨A,cap,hv,h1,h2,h3⟩:=h
 refine⟨A,cap,hv,h1,h2,fun i p hp=> ?_⟩
 obtain⟨g,o,hA,hg,hr⟩:=h3 i p hp
 exact⟨g,o,hA,ΩnT hg ho.size,Ωu hr ho⟩
def Ω4(L:List Vt):Prop:=∀v∈L,v.Ok
def ΩH(w:World)(base:Nat)(v:Value)(n:Nat)(L:List Vt):Prop:=w.ownsRow base 43 36 v n (L.flatMap vtC)
theorem ΩdX:∀(L:List Vt) (_:Ω4 L),(L.flatMap vtC).length =L.length*36
 |[],_=>rfl
 |x::l,h=>by
  rw[ΩnW,ΩnA,Ω0 (h x (by simp)).head.root,ΩdX l (fun p hp=>h p (by simp[hp])),ΩnD]
  omega
theorem ΩhX:∀(L:List Vt) (_:Ω4 L) (i j:Nat) (_:j<36) (p:Vt) (_:L[i]? =some p),(L.flatMap vtC)[i*36+j]? =(vtC p)[j]?
 |[],_,_,_,_,_,h=>by simp at h
 |x::l,hf,i,j,hj,p,hp=>by
  have hx:=Ω0 (hf x (by simp)).head.root
  cases i with
  |zero=>
   simp at hp;subst hp
   simp only[ΩnW,Nat.zero_mul,ΩnR]
   rw[Ωn1 (by rw[hx];exact hj)]
  |succ i=>
   simp only[ΩnW]
   rw[ΩnM (by rw[hx];omega),hx,show(i+1)*36+j-36=i*36+j by omega]
   exact ΩhX l (fun q hq=>hf q (by simp[hq])) i j hj p (by simpa using hp)
theorem ΩH.sl{w:World}{base:Nat}{v:Value}{L:List Vt}(h:ΩH w base v L.length L)(hok:Ω4 L):VtSl w v L:=by
 rcases h.2 with⟨rfl,h0⟩|⟨g,cap,cur,rfl,hb,hh,hc,hm,hs,ht⟩
 ·have hP0:L=[]:=ΩnZ h0
  subst hP0
  exact⟨none,0,rfl,Ωnv _,by omega,fun i e he=>by simp at he⟩
 ·rw[Ωg] at hm
  refine⟨some ⟨g,0,none⟩,cap,rfl,hc,hm,fun i p hp=>⟨g,0,rfl,Blk.lt (t:=43) hh,fun j x hj=> ?_⟩⟩
  have hj2:j<36:=by
   have:=(Ωnx.1 hj).1
   rwa [Ω0 (hok p (ΩnE hp)).head.root] at this
  have h1:=ΩhX L hok i j hj2 p hp
  have h2:=World.ownsRow.cells h rfl (i*36+j) x (h1.trans hj)
  rw[ΩoK,ΩnR] at h2
  rw[ΩnR]
  exact h2
theorem ΩdY:∃ie z,Tryz.prog.info? 43=some ie∧ie.size=36∧ie.zero=some z∧z.cells.size=36∧ie.bytes≤100:=by
 have h1:(Tryz.prog.info? 43).map (·.size)=some 36:=by kernel_rfl
 have h2:((Tryz.prog.info? 43).bind (·.zero)).isSome =true:=by kernel_rfl
 have h3:(Tryz.prog.info? 43).map (fun i=>decide (i.bytes≤100))=some true:=by kernel_rfl
 have h4:((Tryz.prog.info? 43).bind (·.zero)).map (fun z=>z.cells.size)=some 36:=by kernel_rfl
 cases hie:Tryz.prog.info? 43 with
 |none=>simp[hie] at h1
 |some ie=>
  simp only[hie,Ωoe,Option.some.injEq,Option.bind_some,decide_eq_true_eq] at h1 h2 h3 h4
  obtain⟨z,hz⟩:=Option.isSome_iff_exists.1 h2
  simp only[hz,Ωoe,Option.some.injEq] at h4
  exact⟨ie,z,rfl,h1,hz,h4,h3⟩
end
section
open Go.RowKit
def vtF(v:Vt):List Value:=if v.head.root.length=32 then vtC v else List.replicate 36 undef
theorem Ωlv(v:Vt):(vtF v).length =36:=by
 unfold vtF
 split
 ·exact Ω0 (by assumption)
 ·simp
theorem Ωmy{v:Vt}(h:v.head.root.length=32):vtF v=vtC v:=by unfold vtF;rw[ΩnV h]
theorem ΩfW{M:List Vt}(hM:Ω4 M):M.flatMap vtF=M.flatMap vtC:=by
 induction M with
 |nil=>rfl
 |cons e l ih=>
  rw[ΩnW,ΩnW,Ωmy (hM e (by simp)).head.root,ih (fun x hx=>hM x (by simp[hx]))]
theorem Ωel(vs:List Value):∀(w:World) (g o:Nat),ΩiU w g o vs=w.setCells g o vs:=by
 induction vs with
 |nil=>intro w g o;rfl
 |cons v l ih=>intro w g o;simp only[ΩiU,World.setCells];exact ih _ _ _
theorem Ωls{M:List Vt}(hM:Ω4 M){v:Vt}(hv:v.Ok)(i:Nat):Ω4 (M.set i v):=fun x hx=>by
 rcases List.mem_or_eq_of_mem_set hx with h|rfl
 ·exact hM x h
 ·exact hv
theorem ΩH.put{w:World}{base g cap i:Nat}{M:List Vt}{v:Vt}(h:ΩH w base (.slice (some ⟨g,0,none⟩) M.length cap) M.length M)(hM:Ω4 M)(hi:i<M.length)(hv:v.Ok):
  ΩH (w.setCells g (i*36) (vtC v)) base (.slice (some ⟨g,0,none⟩) M.length cap) M.length (M.set i v):=by
 unfold ΩH at h⊢
 rw[←ΩfW hM] at h
 rw[←ΩfW (Ωls hM hv i),←Ωmy hv.head.root,←Ωel]
 exact ΩlL Ωlv v h hi
theorem ΩH.range{w:World}{base g cap n m i:Nat}{M:List Vt}{v:Vt}(h:ΩH w base (.slice (some ⟨g,0,none⟩) n cap) m M)(hM:Ω4 M)(hv:M[i]? =some v):w.rangeAt g (i*36) (vtC v):=fun j x hj=>by
 have hj2:j<36:=by
  have:=(Ωnx.1 hj).1
  rw[Ω0 (hM v (ΩnE hv)).head.root] at this;exact this
 have h1:=ΩhX M hM i j hj2 v hv
 have h2:=World.ownsRow.cells h rfl (i*36+j) x (h1.trans hj)
 rw[ΩoK,ΩnR] at h2
 exact h2
theorem Ωe0{w:World}{base g cap n:Nat}{e:TypeId}{size:Nat}{xs:List Value}(h:w.ownsRow base e size (.slice (some ⟨g,0,none⟩) n cap) n xs){o m:Nat}(hm:o+m≤n*size):w.there g o m:=by
 rcases h.2 with⟨h0,_⟩|⟨g',cap',cur,hv,hb,hh,hc,hx,hs,ht⟩
 ·simp at h0
 ·simp only[Value.slice.injEq,Option.some.injEq,Addr.mk.injEq,and_true,true_and] at hv
  obtain⟨rfl,rfl⟩:=hv
  exact Blk.there (t:=e) (cs:=cur) hh o m (by rw[hs];exact Ωnz hm (Nat.mul_le_mul_right _ hc))
theorem vt_store_own{w:World}{base g cap i:Nat}{M:List Vt}{v:Vt}(h:ΩH w base (.slice (some ⟨g,0,none⟩) M.length cap) M.length M)(hi:i<M.length)(hv:v.Ok):
  (Ωf7 (.pointer (some ⟨g,i*36,none⟩)) (.agg (vtC v).toArray)).run Tryz.prog w= .ok () (w.setCells g (i*36) (vtC v)):=by
 have h36:(vtC v).toArray.size =36:=by rw[ΩnJ,Ω0 hv.head.root]
 have h1:i*36+36≤M.length*36:=by
  have:(i+1)*36≤M.length*36:=Nat.mul_le_mul_right _ hi
  omega
 exact run_storeAt_mid (P:=Tryz.prog) w g (i*36) 43 (vtC v).toArray (Ωe0 h (by rw[h36];exact h1)) (by rw[h36];kernel_rfl) (all_oneCell_toArray (Ωc2 v))
theorem zero_vt(w:World):(zeroValue 43).run Tryz.prog w= .ok (.agg vt0C) w:=by kernel_rfl
def clrZ(n:Nat):List Value:=(Builtin.zeroCells vt0C n).toList
theorem ΩkX(n:Nat):(clrZ n).length =n*36:=by
 unfold clrZ Builtin.zeroCells
 rw[Array.length_toList,Array.size_map,Array.size_range]
 rfl
theorem vt0_one:∀k:Fin 36,(vt0C[k.val]!).oneCell' =true:=by decide+kernel
theorem clrZ_one(n:Nat):∀v∈clrZ n,v.oneCell' =true:=fun v hv=>by
 unfold clrZ Builtin.zeroCells at hv
 rw[Array.toList_map,Ωos] at hv
 obtain⟨i,_,rfl⟩:=hv
 exact vt0_one ⟨i%36,ΩoL _ (by omega)⟩
theorem run_clear_any{P:Program}{w w' :World}{t e:TypeId}{z:Value}(ty:TypeId)(ht:P.underlying t=some (.slice e))(hv:∀w,(zeroValue e).run P w= .ok z w)(a:Addr)(m c:Nat)
  (hst:(storeCells a (Builtin.zeroCells z.cells (m+1)).toList).run P w= .ok () w'):(Builtin.clear_ #[t] ty #[.slice (some a) (m+1) c]).run P w= .ok (.tuple #[]) w' :=by
 simp[Builtin.clear_,run_underlying ht,hv,hst]
theorem run_clear_vts(w:World)(ty:TypeId)(g o n c:Nat)(hn:0<n)(hc:w.there g o (n*36)):
  (Builtin.clear_ #[32] ty #[.slice (some ⟨g,o,none⟩) n c]).run Tryz.prog w= .ok (.tuple #[]) (w.setCells g o (clrZ n)):=by
 have hst:=run_storeCells_cells (P:=Tryz.prog) g o (clrZ n) 0 w (fun j hj=>by rw[ΩkX] at hj;rw[Nat.add_zero];exact(hc j hj).1) (fun j hj=>by rw[ΩkX] at hj;rw[Nat.add_zero];exact(hc j hj).2) (clrZ_one n)
 simp only[Nat.add_zero] at hst
 obtain⟨m,rfl⟩:∃m,n=m+1:=⟨n-1,by omega⟩
 exact run_clear_any ty Tryz.underlying32 zero_vt _ m c hst
theorem ΩH.cut{w:World}{base g cap n m:Nat}{M:List Vt}(h:ΩH w base (.slice (some ⟨g,0,none⟩) n cap) n M)(hM:Ω4 M)(hm:m≤n)(vs:List Value):ΩH (w.setCells g (m*36) vs) base (.slice (some ⟨g,0,none⟩) m cap) m (M.take m):=by
 have hl:=h.1
 rw[ΩdX M hM] at hl
 have hn:M.length=n:=by omega
 have h1:=own_shrink h hm
 have ht:(M.flatMap vtC).take (m*36)=(M.take m).flatMap vtC:=by
  rw[←ΩfW hM,Ωjp Ωlv,ΩfW (fun x hx=>hM x (ΩnY hx))]
 rw[ht] at h1
 refine⟨h1.1,.inr ?_⟩
 rcases h1.2 with⟨hv,_⟩|⟨g',cap',cur,hv,hb,hh,hc,hx,hs,ht2⟩
 ·simp at hv
 ·simp only[Value.slice.injEq,Option.some.injEq,Addr.mk.injEq,and_true,true_and] at hv
  obtain⟨rfl,rfl⟩:=hv
  have hB:Blk w g 43 cur.toList.toArray:=by rw[Array.toArray_toList];exact hh
  have h2:=Blk.setCells vs (m*36) hB
  have hlen:∀(vs xs:List Value) (o:Nat),(ΩaN xs o vs).length =xs.length∧(ΩaN xs o vs).take o=xs.take o:=by
   intro vs
   induction vs with
   |nil=>intro xs o;exact⟨rfl,rfl⟩
   |cons a l ih=>
    intro xs o
    obtain⟨i1,i2⟩:=ih (xs.set o a) (o+1)
    refine⟨by rw[ΩaN,i1,ΩoE],?_⟩
    have h3:=congrArg (List.take o) i2
    rw[List.take_take,List.take_take,Nat.min_eq_left (by omega)] at h3
    rw[ΩaN,h3,List.take_set_of_le (Ωnv _)]
  refine⟨g,cap,(ΩaN cur.toList (m*36) vs).toArray,rfl,hb,h2,hc,hx,?_,?_⟩
  ·rw[ΩnJ,(hlen _ _ _).1,Array.length_toList,hs]
  ·rw[(hlen _ _ _).2];exact ht2
end
end Go.Proofs.YtgalfohobgjelaaGreatDoor
