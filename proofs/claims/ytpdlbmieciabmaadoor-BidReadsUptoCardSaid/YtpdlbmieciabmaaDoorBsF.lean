/- What is proved here: the law on what was written and read again. Conditions: the numbers are ints. -/
import Derived.Test.YtpdlbmieciabmaaDoorBsB
import Derived.Test.YtpdlbmieciabmaaDoorBsO
import Derived.Test.YtpdlbmieciabmaaDoorBrZ
import Derived.Test.YtpdlbmieciabmaaDoorBsE
import Derived.Test.YtpdlbmieciabmaaDoorBrX
import Derived.Test.YtpdlbmieciabmaaDoorBsP
import Derived.Test.YtpdlbmieciabmaaDoorBsC
import Derived.Deep.RegionLaw
namespace Go.Proofs.YtpdlbmieciabmaaDoor
open Go.RowKit Go.Shelf
attribute [local go_sem ↓ high] aph_eq
/-- Two slices of lots that a call fills. -/
structure RdS (w : World) (av bv : Value) (La Lb : List Ec) (W : World) : Prop where
  a : OwnOf tEnt ecC 5 W w.heap.size av La.length La
  b : OwnOf tEnt ecC 5 W w.heap.size bv Lb.length Lb
  dist : ∀ x, av.ownBlock = some x → bv.ownBlock ≠ some x
  only : Only NoneOf w W
theorem RdS.swap {w : World} {av bv : Value} {La Lb : List Ec} {W : World} (h : RdS w av bv La Lb W) : RdS w bv av Lb La W := ⟨h.b, h.a, fun x e k => h.dist x k e, h.only⟩
theorem RdS.none_ {w : World} {av bv : Value} {La Lb : List Ec} {W W' : World} (h : RdS w av bv La Lb W) (ho : Only NoneOf W W') : RdS w av bv La Lb W' := ⟨OwnOf.keep h.a ho (fun _ _ e => e), OwnOf.keep h.b ho (fun _ _ e => e), h.dist, h.only.trans ho⟩
theorem rd_a {w : World} {av bv : Value} {La Lb : List Ec} {W : World} (h : RdS w av bv La Lb W) (c : Ec) (hv : c.v.oneCell' = true) (hn : La.length ≤ 1000000000) (ty : TypeId) :
    ∃ A cap W2, (aph #[29, 29] ty #[av, .slice (some ⟨W.heap.size, 0, none⟩) 1 1]).run Tryd.prog (W.alloc (.cells #[.int .i64 0, .int .i64 c.lot, .int .i64 0, .int .i64 c.price, c.v] tEnt)) = .ok (.slice A (La.length + 1) cap) W2 ∧ RdS w (.slice A (La.length + 1) cap) bv (La ++ [c]) Lb W2 ∧ Only (fun k => av.ownBlock = some k) W W2 := by
  have hx : Only NoneOf W (W.alloc (.cells #[.int .i64 0, .int .i64 c.lot, .int .i64 0, .int .i64 c.price, c.v] tEnt)) := (Only.refl _ _).alloc _
  have h2 := h.none_ hx
  obtain ⟨A, cap, W2, hrun, k1, k2, k3⟩ := run_append_rec (T := 29) Tryd.underlying29 entryI (by omega) (by omega) ecC_len (W.alloc (.cells #[.int .i64 0, .int .i64 c.lot, .int .i64 0, .int .i64 c.price, c.v] tEnt)) w.heap.size av La c (ecC_one c hv) h2.a W.heap.size (Blk.new W _ _) hn h2.only.size ty
  have ho : Only (fun k => av.ownBlock = some k) (W.alloc (.cells #[.int .i64 0, .int .i64 c.lot, .int .i64 0, .int .i64 c.price, c.v] tEnt)) W2 := (Only.refl _ _).grown k2 (fun b e => .inl e)
  have hoW : Only (fun k => av.ownBlock = some k) W W2 := by
    refine Only.trans' (S := fun k => av.ownBlock = some k) ?_ ho (fun _ _ e => e)
    exact (Only.refl _ _).alloc _
  refine ⟨A, cap, W2, hrun, ⟨by rw [List.length_append, List.length_singleton]; exact k1, OwnOf.keep h2.b ho (fun b hb e => h.dist b e hb), fun x hx' hb' => ?_, h2.only.trans' ho (fun i hi e => by have := (own_ge h.a e).1; omega)⟩, hoW⟩
  rcases k3 with k3 | k3
  · rw [k3] at hx'
    exact h.dist x hx' hb'
  · rw [k3] at hx'
    have h3 := (own_ge h2.b hb').2
    have h4 := Option.some.inj hx'
    omega
theorem rd_sl {w W : World} {av : Value} {L0 : List Ec} {es : List En} (f : Ec → Ec) (g : En → En) (hl : L0.length = es.length) (h : OwnOf tEnt ecC 5 W w.heap.size av (L0.map f).length (L0.map f)) (hr : ∀ (i : Nat) (c : Ec) (e : En), L0[i]? = some c → es[i]? = some e → EcR W (f c) (g e)) : EnSl W av (es.map g) := by
  refine ⟨L0.map f, by rw [List.length_map, List.length_map, hl], OwnOf.sl ecC_len h, fun i c e hc he => ?_⟩
  rw [List.getElem?_map] at hc he
  cases h1 : L0[i]? with
  | none => rw [h1] at hc; cases hc
  | some c0 =>
    cases h2 : es[i]? with
    | none => rw [h2] at he; cases he
    | some e0 =>
      rw [h1] at hc
      rw [h2] at he
      cases hc
      cases he
      exact hr i c0 e0 h1 h2
def caE (c : Ec) : Ec := ⟨c.lot, 0, c.v⟩
def cbE (c : Ec) : Ec := ⟨c.lot, c.price, .slice none 0 0⟩
set_option maxRecDepth 100000 in
set_option maxHeartbeats 4000000 in
theorem breads_law (o : Of) (hok : o.Ok) (ov : Value) (w : World) (he : Env w) (h : OfAt w ov o) : Calls Tryd.prog 5 #[ov] w (fun e w' => e = .returned (.bool true) ∧ Only NoneOf w w') := by
  obtain ⟨O, eO⟩ : ∃ O, O = w.heap.size := ⟨_, rfl⟩
  have hov := h
  obtain ⟨ev, rv, rfl, _, _⟩ := h
  obtain ⟨X, eX⟩ : ∃ X, X = w.alloc (.cells #[ev, rv] tOf) := ⟨_, rfl⟩
  have hX : Only NoneOf w X := by rw [eX]; exact (Only.refl _ _).alloc _
  have hb : Blk X O tOf #[ev, rv] := by rw [eX, eO]; exact Blk.new w _ _
  have HXW := Lib.hid hX
  have HB := Lib.hid hb
  have HOX := Lib.hid (hov.only hX)
  have HEX := Lib.hid (he.none hX)
  have EX := Lib.hid eX
  have EO := Lib.hid eO
  clear hX hb hov eX eO
  go_enter Tryd.func5, Tryd.ntmps5
  go_wp2_with fail
  rw [← EX.out]
  rw [← EO.out]
  refine (sanity16 X HEX.out).mono ?_
  rintro e w1 ⟨rfl, ho1⟩
  have c0 := ho1.cell_some (HB.out.cell 0) (fun e => e)
  have c1 := ho1.cell_some (HB.out.cell 1) (fun e => e)
  have HO1 := Lib.hid ho1
  clear ho1
  go_wp2_with fail
  refine (make16_any o hok false (.agg #[ev, rv]) w1 (HOX.out.only HO1.out)).mono ?_
  rintro e w2 ⟨ev2, rv2, rfl, hen, hrb, ho2⟩
  have HEN := Lib.hid hen.sl
  have HRB := Lib.hid hrb.sl
  have HO2 := Lib.hid (HO1.out.trans ho2)
  obtain ⟨es, ees⟩ : ∃ es, es = mkEs false o := ⟨_, rfl⟩
  obtain ⟨rs, ers⟩ : ∃ rs, rs = mkRs o := ⟨_, rfl⟩
  have hin : ∀ e ∈ es, EnIn e := by rw [ees]; exact mkEs_in hok false
  have hrn : ∀ r ∈ rs, RbIn r := by rw [ers]; exact mkRs_in hok
  have hright : rightL es = true := by rw [ees]; exact mkEs_right o
  have hlen : (pricL es rs).length ≤ 2000 := by rw [ees, ers]; exact mkPr_text hok false
  have hql : (textG (qLines es)).length ≤ 4000 := by rw [ees]; exact mkEs_text hok false
  have hqq : (qualL es).length ≤ 4000 := by rw [ees]; exact qualL_len hok false
  have hes : es.length ≤ 6 := by rw [ees]; exact mkEs_len false o
  have hrl : rs.length ≤ 4 ∧ ∀ r ∈ rs, r.lots.length ≤ 1000000000 := by
    rw [ers]
    refine ⟨mkRs_len o, fun r hr => ?_⟩
    obtain ⟨l, _, rfl⟩ := List.mem_map.1 hr
    have := mkR_lots l
    omega
  rw [← ees] at HEN
  rw [← ers] at HRB
  have HIN := Lib.hid hin
  have HRN := Lib.hid hrn
  have HRI := Lib.hid hright
  have HLEN := Lib.hid hlen
  have HQL := Lib.hid hql
  have HQQ := Lib.hid hqq
  have HES := Lib.hid hes
  have HRL := Lib.hid hrl
  obtain ⟨L0, hL0, ⟨A, cap, rfl, hc1, hc2, hat⟩, hL1⟩ := HEN.out
  rw [hL0] at hc1
  have HAT := Lib.hid hat
  have HL1 := Lib.hid hL1
  have HL0 := Lib.hid hL0
  have hst : RdS w2 (.slice none 0 0) (.slice none 0 0) [] [] w2 := ⟨OwnOf.nil _ _ _ _ _, OwnOf.nil _ _ _ _ _, fun x h => (by cases h), Only.refl _ _⟩
  have HST := Lib.hid hst
  rw [hL0] at HEN
  clear hen hrb ho2 hin hrn hlen c0 c1 hright hql hqq hes hrl ees ers hat hL1 hst
  go_wp2_with fail
  go_loopw [6, 7, 23] (fun av bv i wr => ∃ k : Nat, i = .int .i64 k ∧ k ≤ L0.length ∧ RdS w2 av bv ((L0.take k).map caE) ((L0.take k).map cbE) wr) (fun _ _ i _ => L0.length - (intOf i).toNat)
  case atStart => exact ⟨0, rfl, Nat.zero_le _, HST.out⟩
  case round =>
    obtain ⟨k, rfl, hk, hS⟩ := hrel
    have hes6 := HES.out
    have hl0 := HL0.out
    obtain ⟨La, ela⟩ : ∃ La, La = (L0.take k).map caE := ⟨_, rfl⟩
    obtain ⟨Lb, elb⟩ : ∃ Lb, Lb = (L0.take k).map cbE := ⟨_, rfl⟩
    have hla : La.length = k := by rw [ela, List.length_map, List.length_take]; omega
    have hlb : Lb.length = k := by rw [elb, List.length_map, List.length_take]; omega
    rw [← ela, ← elb] at hS
    have HS := Lib.hid hS
    have ELA := Lib.hid ela
    have ELB := Lib.hid elb
    have HLA := Lib.hid hla
    have HLB := Lib.hid hlb
    clear hS ela elb hla hlb
    by_cases hlt : k < L0.length
    · obtain ⟨c, hc⟩ : ∃ c, L0[k]? = some c := ⟨_, List.getElem?_eq_getElem hlt⟩
      obtain ⟨g, of, rfl, hg, hr⟩ := HAT.out k c hc
      have hxa : (L0.take (k + 1)).map caE = La ++ [caE c] := by rw [List.take_add_one, hc, Option.toList_some, List.map_append, ELA.out]; rfl
      have hxb : (L0.take (k + 1)).map cbE = Lb ++ [cbE c] := by rw [List.take_add_one, hc, Option.toList_some, List.map_append, ELB.out]; rfl
      have HXA := Lib.hid hxa
      have HXB := Lib.hid hxb
      obtain ⟨e0, he0⟩ : ∃ e, es[k]? = some e := ⟨_, List.getElem?_eq_getElem (by omega)⟩
      obtain ⟨A9, n9, cap9, e9⟩ : ∃ A n cap, c.v = .slice A n cap := by
        obtain ⟨A9, cap9, e9, _⟩ := (HL1.out k c e0 hc he0).2.2
        exact ⟨_, _, _, e9⟩
      obtain ⟨lot, price, u⟩ := c
      have e9' : u = .slice A9 n9 cap9 := e9
      subst e9'
      have d0 : wr.cell? ⟨g, of + k * 5, none⟩ = some (.int .i64 0) := HS.out.only.cell_some (hr 0 _ rfl) (fun e => e)
      have d1 : wr.cell? ⟨g, of + k * 5 + 1, none⟩ = some (.int .i64 lot) := HS.out.only.cell_some (hr 1 _ rfl) (fun e => e)
      have d2 : wr.cell? ⟨g, of + k * 5 + 2, none⟩ = some (.int .i64 0) := HS.out.only.cell_some (hr 2 _ rfl) (fun e => e)
      have d3 : wr.cell? ⟨g, of + k * 5 + 3, none⟩ = some (.int .i64 price) := HS.out.only.cell_some (hr 3 _ rfl) (fun e => e)
      have d4 : wr.cell? ⟨g, of + k * 5 + 4, none⟩ = some (Value.slice A9 n9 cap9) := HS.out.only.cell_some (hr 4 _ rfl) (fun e => e)
      obtain ⟨E, eE⟩ : ∃ E, E = wr.heap.size := ⟨_, rfl⟩
      obtain ⟨W1, eW1⟩ : ∃ W1, W1 = wr.alloc (.cells #[.int .i64 0, .int .i64 lot, .int .i64 0, .int .i64 price, .slice A9 n9 cap9] tEnt) := ⟨_, rfl⟩
      have hE1 : Blk W1 E tEnt #[.int .i64 0, .int .i64 lot, .int .i64 0, .int .i64 price, .slice A9 n9 cap9] := by rw [eW1, eE]; exact Blk.new wr _ _
      have hS1 := HS.out.none_ (show Only NoneOf wr W1 by rw [eW1]; exact (Only.refl _ _).alloc _)
      obtain ⟨A2, cap2, W2, hrun, hS2, ho2⟩ := rd_a hS1 ⟨lot, 0, .slice A9 n9 cap9⟩ rfl (by have := HLA.out; omega) 29
      have hE2 : Blk W2 E tEnt #[.int .i64 0, .int .i64 lot, .int .i64 0, .int .i64 price, .slice A9 n9 cap9] := hE1.only ho2 (fun e => by have := (own_ge HS.out.a e).2; omega)
      obtain ⟨A3, cap3, W3, hrun3, hS3, _⟩ := rd_a hS2.swap ⟨lot, price, .slice none 0 0⟩ rfl (by have := HLB.out; omega) 29
      have f1 := hE1.cell 1
      have f4 := hE1.cell 4
      have g1 := hE2.cell 1
      have g3 := hE2.cell 3
      rw [HLA.out] at hrun hS2 hS3
      rw [HLB.out] at hrun3 hS3
      have HS3 := Lib.hid hS3.swap
      have EW1 := Lib.hid eW1
      have EE := Lib.hid eE
      have i1 : (k : Int) < (L0.length : Int) := by omega
      have i0 : (0 : Int) ≤ (k : Int) := by omega
      have wk : IntKind.i64.wrap ((k : Int) + 1) = (k : Int) + 1 := IntWalk.i64_in _ (by omega)
      clear hE1 hE2 hS1 hS2 hS3 ho2 hxa hxb hc hr he0 eW1 eE
      go_upto_region 7 with (fail)
      rw [← EW1.out]
      rw [← EE.out]
      go_wp2_with fail
      go_roundw
      case rel => exact ⟨k + 1, rfl, by omega, by rw [HXA.out, HXB.out]; exact HS3.out⟩
      case measure => simp [intOf]; omega
    · obtain rfl : k = L0.length := by omega
      have hS := HS.out
      rw [ELA.out, ELB.out, List.take_length] at hS
      have ha : EnSl wr u6 (es.map noPr) := rd_sl caE noPr HL0.out hS.a (fun i c e hc he => by
        have h := (HL1.out i c e hc he).only hS.only
        exact ⟨h.1, rfl, h.2.2⟩)
      have hb : EnSl wr u7 (es.map noVl) := rd_sl cbE noVl HL0.out hS.b (fun i c e hc he => by
        have h := (HL1.out i c e hc he)
        exact ⟨h.1, h.2.1, none, 0, rfl, Nat.le_refl _, by omega, fun j x hx => by cases hx⟩)
      have HA := Lib.hid ha
      have HBB := Lib.hid hb
      have HW := Lib.hid hS.only
      clear hS ha hb HLA HLB ELA ELB HS
      have i1 : ¬ ((L0.length : Nat) : Int) < (L0.length : Int) := by omega
      have i2 : ¬ (L0.length : Int) < (es.length : Int) := by omega
      go_wp2_with fail
      refine (quality_any es HIN.out (by have := HQL.out; omega) _ wr (HEN.out.only HW.out) (HEX.out.none (HO2.out.trans HW.out)).tab).mono ?_
      rintro e w3 ⟨s, rfl, hs, ho3⟩
      have hsz : s.size ≤ 4000 := by rw [size_list, hs]; exact HQQ.out
      have HSS := Lib.hid hs
      have HO3 := Lib.hid (HW.out.trans ho3)
      have HV3 := Lib.hid ho3
      clear hs ho3
      go_wp2_with fail
      refine (readq_any s (by omega) w3 (HEX.out.none (HO2.out.trans HO3.out))).mono ?_
      rintro e w4 ⟨xv, c1, xs, rfl, hx, hc, ho4⟩
      obtain ⟨rfl, rfl⟩ := q_two hc (.inl ⟨rfl, by rw [HSS.out]; exact q_back HIN.out HRI.out⟩)
      have HX := Lib.hid hx.sl
      have HO4 := Lib.hid (HO3.out.trans ho4)
      have HV4 := Lib.hid (HV3.out.trans ho4)
      clear hx hc ho4
      go_wp2_with fail
      refine (prices_any es rs HIN.out HRN.out (by have := HLEN.out; omega) _ _ w4 (HEN.out.only HO4.out) (HRB.out.only HO4.out) (HEX.out.none (HO2.out.trans HO4.out)).tab).mono ?_
      rintro e w5 ⟨s2, rfl, hs2, ho5⟩
      have hsz2 : s2.size ≤ 2000 := by rw [size_list, hs2]; exact HLEN.out
      have HSS2 := Lib.hid hs2
      have HO5 := Lib.hid (HO4.out.trans ho5)
      have HV5 := Lib.hid (HV4.out.trans ho5)
      have HX5 := Lib.hid (HX.out.only ho5)
      clear hs2 ho5
      go_wp2_with fail
      refine (readp_any s2 (by omega) w5 (HEX.out.none (HO2.out.trans HO5.out))).mono ?_
      rintro e w6 ⟨yv, zv, c2, ys, us, rfl, hy, hz, hc, ho6⟩
      obtain ⟨rfl, rfl, rfl⟩ := p_two hc (.inl ⟨rfl, by rw [HSS2.out]; exact p_back HIN.out HRN.out⟩)
      have HY := Lib.hid hy.sl
      have HZ := Lib.hid hz.sl
      have HO6 := Lib.hid (HO5.out.trans ho6)
      have HV6 := Lib.hid (HV5.out.trans ho6)
      have HX6 := Lib.hid (HX5.out.only ho6)
      clear hy hz hc ho6
      go_wp2_with fail
      refine (entries_same (es.map noPr) (by rw [List.length_map]; have := HES.out; omega) _ _ w6 HX6.out (HA.out.only HV6.out)).mono ?_
      rintro e w7 ⟨rfl, ho7⟩
      have HO7 := Lib.hid ho7
      clear ho7
      go_wp2_with fail
      refine (entries_same (es.map noVl) (by rw [List.length_map]; have := HES.out; omega) _ _ w7 (HY.out.only HO7.out) (HBB.out.only (HV6.out.trans HO7.out))).mono ?_
      rintro e w8 ⟨rfl, ho8⟩
      have HO8 := Lib.hid (HO7.out.trans ho8)
      clear ho8
      go_wp2_with fail
      refine (rebates_same _ (by have := HRL.out.1; omega) HRL.out.2 _ _ w8 (HZ.out.only HO8.out) (HRB.out.only (HO6.out.trans HO8.out))).mono ?_
      rintro e w9 ⟨rfl, ho9⟩
      have HO9 := Lib.hid ((HO6.out.trans HO8.out).trans ho9)
      clear ho9
      go_wp2_with fail
      go_ret
      exact ⟨rfl, (HXW.out.trans HO2.out).trans HO9.out⟩
end Go.Proofs.YtpdlbmieciabmaaDoor
