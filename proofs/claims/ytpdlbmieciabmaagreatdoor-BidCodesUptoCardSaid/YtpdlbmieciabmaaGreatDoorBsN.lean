/- What is proved here: the law on texts of bids. Conditions: the numbers are ints, the lists and the text are short. -/
import Derived.Test.YtpdlbmieciabmaaGreatDoorBsL
import Derived.Test.YtpdlbmieciabmaaGreatDoorBrZ
import Derived.Test.YtpdlbmieciabmaaGreatDoorBsM
import Derived.Test.YtpdlbmieciabmaaGreatDoorB2
import Derived.Deep.RegionLaw
namespace Go.Proofs.YtpdlbmieciabmaaGreatDoor
open Go.RowKit Go.Shelf
theorem int_sl {w : World} {k : Nat} {A : Option Addr} {ns : List Int} (h : SlOf inC 1 w (.slice A ns.length k) ns) : IntSl w A ns := by
  cases ns with
  | nil => exact .inl rfl
  | cons m ns =>
    obtain ⟨A', cap, e, _, _, h4⟩ := h
    cases e
    obtain ⟨g, o, rfl, hg, _⟩ := h4 0 m rfl
    refine .inr ⟨g, o, rfl, hg, fun j x hx => ?_⟩
    obtain ⟨g2, o2, e2, _, hr⟩ := h4 j x hx
    cases e2
    have := hr 0 _ rfl
    simpa using this
theorem d_two {s : List UInt8} {a b : Bd} {c d : Int} (h : (c = 0 ∧ BRd s a) ∨ (c = 11 ∧ a = bd0 ∧ ∀ x, ¬ BRd s x)) (k : (d = 0 ∧ BRd s b) ∨ (d = 11 ∧ b = bd0 ∧ ∀ x, ¬ BRd s x)) : c = d ∧ a = b := by
  rcases h with ⟨rfl, h⟩ | ⟨rfl, rfl, h⟩ <;> rcases k with ⟨rfl, k⟩ | ⟨rfl, rfl, k⟩
  · exact ⟨rfl, h.inj k⟩
  · exact (k _ h).elim
  · exact (h _ k).elim
  · exact ⟨rfl, rfl⟩
theorem d_small {t : ByteArray} {a : Bd} {c : Int} (ht : t.size ≤ 49000000) (h : (c = 0 ∧ BRd t.data.toList a) ∨ (c = 11 ∧ a = bd0 ∧ ∀ x, ¬ BRd t.data.toList x)) : a.qc.length ≤ 1000000000 ∧ a.pc.length ≤ 1000000000 := by
  rcases h with ⟨_, _, h⟩ | ⟨_, rfl, _⟩
  · have e : t.size = (encB a).length := by rw [size_list, h]
    have h1 := words_ge a.qc
    have h2 := words_ge a.pc
    unfold encB lineL at e
    simp only [List.length_append] at e
    omega
  · exact ⟨by show (0 : Nat) ≤ _; omega, by show (0 : Nat) ≤ _; omega⟩
/-- Five texts. -/
def fiveC (b r s : ByteArray) : List ByteArray := [b, r, s ++ r, r ++ s, s ++ s]
theorem fiveC_size {s b r : ByteArray} {n : Nat} (hs : s.size ≤ 23500000) (hb : b.size ≤ s.size + 1) (hr : r.size ≤ 1048576) {t : ByteArray} (h : (fiveC b r s)[n]? = some t) : t.size ≤ 49000000 := by
  have hm := List.mem_of_getElem? h
  simp only [fiveC, List.mem_cons, List.not_mem_nil, or_false] at hm
  rcases hm with rfl | rfl | rfl | rfl | rfl
  · omega
  · omega
  · rw [ByteArray.size_append]; omega
  · rw [ByteArray.size_append]; omega
  · rw [ByteArray.size_append]; omega
/-- The argument, and nothing turned. -/
structure CdS (X : World) (P : Nat) (cs : Array Value) (W : World) : Prop where
  blk : Blk W P tPl cs
  only : Only NoneOf X W
theorem CdS.keep {X W W' : World} {P : Nat} {cs : Array Value} (h : CdS X P cs W) (ho : Only NoneOf W W') : CdS X P cs W' := ⟨h.blk.only ho (fun e => e), h.only.trans ho⟩
set_option maxRecDepth 100000 in
set_option maxHeartbeats 4000000 in
theorem bcodes_law (n : Int) (hn : In n) (t0 t1 raw : ByteArray) (hraw : raw.size ≤ 1048576) (F G : List Int) (hF : ∀ x ∈ F, In x) (hG : ∀ x ∈ G, In x) (hl : F.length + G.length ≤ 1048576) (fA oA : Option Addr) (fk ok : Nat) (q0 q1 q2 : Int) (h0 : In q0) (h1 : In q1) (w : World) (he : Env w) (hf : SlOf inC 1 w (.slice fA F.length fk) F) (hg : SlOf inC 1 w (.slice oA G.length ok) G) : Calls Tryz.prog 5 #[.agg #[.int .i64 n, .string t0, .string t1, .slice fA F.length fk, .slice oA G.length ok, .string raw, .int .i64 q0, .int .i64 q1, .int .i64 q2]] w (fun e w' => e = .returned (.bool true) ∧ Only NoneOf w w') := by
  obtain ⟨P, eP⟩ : ∃ P, P = w.heap.size := ⟨_, rfl⟩
  obtain ⟨X, eX⟩ : ∃ X, X = w.alloc (.cells #[.int .i64 n, .string t0, .string t1, .slice fA F.length fk, .slice oA G.length ok, .string raw, .int .i64 q0, .int .i64 q1, .int .i64 q2] tPl) := ⟨_, rfl⟩
  have hX : Only NoneOf w X := by rw [eX]; exact (Only.refl _ _).alloc _
  have HP := Lib.hid (show Blk X P tPl #[.int .i64 n, .string t0, .string t1, .slice fA F.length fk, .slice oA G.length ok, .string raw, .int .i64 q0, .int .i64 q1, .int .i64 q2] by rw [eX, eP]; exact Blk.new w _ _)
  have HXW := Lib.hid hX
  have HE := Lib.hid (he.none hX)
  have HF := Lib.hid (hf.only hX)
  have HG := Lib.hid (hg.only hX)
  have EX := Lib.hid eX
  have EP := Lib.hid eP
  clear hX eX eP hf hg he
  go_enter Tryz.func5, Tryz.ntmps5
  go_wp2_with fail
  rw [← EX.out]
  rw [← EP.out]
  refine (sanity16 X HE.out).mono ?_
  rintro e w1 ⟨rfl, ho1⟩
  have HO1 := Lib.hid ho1
  have c0 := HO1.out.cell_some (HP.out.cell 0) (fun e => e)
  have c1 := HO1.out.cell_some (HP.out.cell 1) (fun e => e)
  have c2 := HO1.out.cell_some (HP.out.cell 2) (fun e => e)
  have c3 := HO1.out.cell_some (HP.out.cell 3) (fun e => e)
  have c4 := HO1.out.cell_some (HP.out.cell 4) (fun e => e)
  have c5 := HO1.out.cell_some (HP.out.cell 5) (fun e => e)
  have c6 := HO1.out.cell_some (HP.out.cell 6) (fun e => e)
  have c7 := HO1.out.cell_some (HP.out.cell 7) (fun e => e)
  have c8 := HO1.out.cell_some (HP.out.cell 8) (fun e => e)
  clear ho1
  go_wp2_with fail
  refine (pbid_any n t0 t1 raw fA oA F.length fk G.length ok q0 q1 q2 w1).mono ?_
  rintro e w2 ⟨qt, pt, rfl, hqt, hpt, ho2⟩
  obtain ⟨D, eD⟩ : ∃ D, D = w2.heap.size := ⟨_, rfl⟩
  obtain ⟨Y, eY⟩ : ∃ Y, Y = w2.alloc (.cells #[.int .i64 n, .string qt, .slice fA F.length fk, .string pt, .slice oA G.length ok] tBid) := ⟨_, rfl⟩
  have HD := Lib.hid (show Blk Y D tBid #[.int .i64 n, .string qt, .slice fA F.length fk, .string pt, .slice oA G.length ok] by rw [eY, eD]; exact Blk.new w2 _ _)
  have HOY := Lib.hid (show Only NoneOf X Y by rw [eY]; exact (HO1.out.trans ho2).alloc _)
  have hok : (⟨n, qt, F, pt, G⟩ : Bd).Ok := ⟨hn, hF, hG, by show qt.size ≤ 50000000; omega, by show pt.size ≤ 50000000; omega, by show F.length ≤ 50000000; omega, by show G.length ≤ 50000000; omega⟩
  have hlen := encB_len hok
  have hlen2 : (encB ⟨n, qt, F, pt, G⟩).length ≤ 23500000 := by
    have h : (encB ⟨n, qt, F, pt, G⟩).length ≤ 22 * (F.length + G.length) + 2 * (qt.size + pt.size) + 100 := hlen
    omega
  have HLEN := Lib.hid hlen2
  have HOK := Lib.hid hok
  have EY := Lib.hid eY
  have ED := Lib.hid eD
  clear hok hlen hlen2 eY eD ho2 c0 c1 c2 c3 c4 c5 c6 c7 c8
  go_wp2_with fail
  rw [← EY.out]
  rw [← ED.out]
  refine (bencode_any ⟨n, qt, F, pt, G⟩ HOK.out (int_sl (HF.out.only HOY.out)) (int_sl (HG.out.only HOY.out)) (HE.out.none HOY.out).tab).mono ?_
  rintro e w3 ⟨s, rfl, hs, ho3⟩
  have hsz : s.size ≤ 23500000 := by rw [size_list, hs]; exact HLEN.out
  have HS := Lib.hid hs
  have HO3 := Lib.hid (HOY.out.trans ho3)
  have HD3 := Lib.hid (HD.out.only ho3 (fun e => e))
  clear hs ho3
  go_wp2_with fail
  refine (pdec_any s (by omega) w3 (HE.out.none HO3.out)).mono ?_
  rintro e w4 ⟨v, code, b', rfl, hown, hc, ho4⟩
  have hBR : BRd s.data.toList ⟨n, qt, F, pt, G⟩ := ⟨⟨hn, hF, hG⟩, HS.out⟩
  obtain ⟨rfl, rfl⟩ := d_two hc (.inl ⟨rfl, hBR⟩)
  obtain ⟨qv', pv', rfl, hq', hp'⟩ := hown
  obtain ⟨xA, xk, rfl, _, _⟩ := own_form' hq'
  obtain ⟨yA, yk, rfl, _, _⟩ := own_form' hp'
  obtain ⟨E, eE⟩ : ∃ E, E = w4.heap.size := ⟨_, rfl⟩
  obtain ⟨Z, eZ⟩ : ∃ Z, Z = w4.alloc (.cells #[.int .i64 n, .string qt, .slice xA F.length xk, .string pt, .slice yA G.length yk] tBid) := ⟨_, rfl⟩
  have hZ : Only NoneOf w4 Z := by rw [eZ]; exact (Only.refl _ _).alloc _
  have HEE := Lib.hid (show Blk Z E tBid #[.int .i64 n, .string qt, .slice xA F.length xk, .string pt, .slice yA G.length yk] by rw [eZ, eE]; exact Blk.new w4 _ _)
  have HZ := Lib.hid ((HO3.out.trans ho4).trans hZ)
  have HDZ := Lib.hid ((HD3.out.only ho4 (fun e => e)).only hZ (fun e => e))
  have HBE : Hid (BdIn Z (.agg #[.int .i64 n, .string qt, .slice xA F.length xk, .string pt, .slice yA G.length yk]) ⟨n, qt, F, pt, G⟩) := Lib.hid ⟨_, _, rfl, (OwnOf.sl inC_len hq').only hZ, (OwnOf.sl inC_len hp').only hZ⟩
  have HBD : Hid (BdIn Z (.agg #[.int .i64 n, .string qt, .slice fA F.length fk, .string pt, .slice oA G.length ok]) ⟨n, qt, F, pt, G⟩) := Lib.hid ⟨_, _, rfl, HF.out.only HZ.out, HG.out.only HZ.out⟩
  have dz0 := HDZ.out.cell 0
  have dz1 := HDZ.out.cell 1
  have dz2 := HDZ.out.cell 2
  have dz3 := HDZ.out.cell 3
  have dz4 := HDZ.out.cell 4
  have EZ := Lib.hid eZ
  have EE := Lib.hid eE
  rw [eZ] at dz0 dz1 dz2 dz3 dz4
  clear hc hBR hq' hp' ho4 hZ eZ eE
  go_wp2_with fail
  rw [← EZ.out]
  rw [← EE.out]
  refine (rencode16_any ⟨n, qt, F, pt, G⟩ HOK.out (int_sl (HF.out.only HZ.out)) (int_sl (HG.out.only HZ.out))).mono ?_
  rintro e w5 ⟨s2, rfl, hs2, ho5⟩
  obtain rfl : s = s2 := ba_ext (HS.out.trans hs2.symm)
  have HO5 := Lib.hid ho5
  have dd0 := HO5.out.cell_some (HDZ.out.cell 0) (fun e => e)
  have dd1 := HO5.out.cell_some (HDZ.out.cell 1) (fun e => e)
  have dd2 := HO5.out.cell_some (HDZ.out.cell 2) (fun e => e)
  have dd3 := HO5.out.cell_some (HDZ.out.cell 3) (fun e => e)
  have dd4 := HO5.out.cell_some (HDZ.out.cell 4) (fun e => e)
  have ee0 := HO5.out.cell_some (HEE.out.cell 0) (fun e => e)
  have ee1 := HO5.out.cell_some (HEE.out.cell 1) (fun e => e)
  have ee2 := HO5.out.cell_some (HEE.out.cell 2) (fun e => e)
  have ee3 := HO5.out.cell_some (HEE.out.cell 3) (fun e => e)
  have ee4 := HO5.out.cell_some (HEE.out.cell 4) (fun e => e)
  clear hs2 ho5 dz0 dz1 dz2 dz3 dz4
  go_wp2_with fail
  refine (sbid_any ⟨n, qt, F, pt, G⟩ (by show F.length ≤ _; omega) (by show G.length ≤ _; omega) _ _ w5 (HBE.out.only HO5.out) (HBD.out.only HO5.out)).mono ?_
  rintro e w6 ⟨rfl, ho6⟩
  have HO6 := Lib.hid (HO5.out.trans ho6)
  have df0 := HO6.out.cell_some (HDZ.out.cell 0) (fun e => e)
  have df1 := HO6.out.cell_some (HDZ.out.cell 1) (fun e => e)
  have df2 := HO6.out.cell_some (HDZ.out.cell 2) (fun e => e)
  have df3 := HO6.out.cell_some (HDZ.out.cell 3) (fun e => e)
  have df4 := HO6.out.cell_some (HDZ.out.cell 4) (fun e => e)
  clear ho6 dd0 dd1 dd2 dd3 dd4 ee0 ee1 ee2 ee3 ee4
  go_wp2_with fail
  refine (receipt16_any ⟨n, qt, F, pt, G⟩ HOK.out (int_sl (HF.out.only (HZ.out.trans HO6.out))) (int_sl (HG.out.only (HZ.out.trans HO6.out))) (HE.out.none (HZ.out.trans HO6.out)).tab).mono ?_
  rintro e w7 ⟨rfl, ho7⟩
  have hsum := rsum_any s w7 (by omega)
  rw [HS.out] at hsum
  have HSUM := Lib.hid hsum
  have HO7 := Lib.hid (HO6.out.trans ho7)
  clear ho7 hsum df0 df1 df2 df3 df4
  go_wp2_with fail
  refine (HSUM.out).mono ?_
  rintro e w8 ⟨rfl, ho8⟩
  have HO8 := Lib.hid ((HZ.out.trans HO7.out).trans ho8)
  have hne := fun W => neq_hs (shaL (encB ⟨n, qt, F, pt, G⟩)) (shaL_len _) W
  clear ho8
  have m1 : ¬ 9223372036854775807 < s.size + raw.size := by omega
  have m2 : ¬ 9223372036854775807 < raw.size + s.size := by omega
  have m3 : ¬ 9223372036854775807 < s.size + s.size := by omega
  go_upto_region 7 with (fail)
  obtain ⟨PC, ePC⟩ : ∃ PC : Array Value, PC = #[.int .i64 n, .string t0, .string t1, .slice fA F.length fk, .slice oA G.length ok, .string raw, .int .i64 q0, .int .i64 q1, .int .i64 q2] := ⟨_, rfl⟩
  have hS : CdS X P PC w8.drew := ⟨by rw [ePC]; exact (HP.out.only HO8.out (fun e => e)).only ((Only.refl NoneOf w8).drew) (fun e => e), HO8.out.drew⟩
  have l5 : ∀ W, CdS X P PC W → W.cell? ⟨P, 5, none⟩ = some (.string raw) := fun W h => by have h2 := h.blk.cell 5; rw [ePC] at h2; exact h2
  have l6 : ∀ W, CdS X P PC W → W.cell? ⟨P, 6, none⟩ = some (.int .i64 q0) := fun W h => by have h2 := h.blk.cell 6; rw [ePC] at h2; exact h2
  have l7 : ∀ W, CdS X P PC W → W.cell? ⟨P, 7, none⟩ = some (.int .i64 q1) := fun W h => by have h2 := h.blk.cell 7; rw [ePC] at h2; exact h2
  have l8 : ∀ W, CdS X P PC W → W.cell? ⟨P, 8, none⟩ = some (.int .i64 q2) := fun W h => by have h2 := h.blk.cell 8; rw [ePC] at h2; exact h2
  have HKP : Hid (∀ W W', CdS X P PC W → Only NoneOf W W' → CdS X P PC W') := Lib.hid (fun W W' h ho => h.keep ho)
  have HAL : Hid (∀ W o, CdS X P PC W → CdS X P PC (W.alloc o)) := Lib.hid (fun W o h => h.keep ((Only.refl _ _).alloc o))
  have HBT : Hid (∀ W, Calls Tryz.prog 25 #[.string s, .agg #[.int .i64 q0, .int .i64 q1, .int .i64 q2]] W fun e w' => ∃ t, e = .returned (.string t) ∧ t.size ≤ s.size + 1 ∧ Only NoneOf W w') := Lib.hid (fun W => bent16_any s (by omega) q0 q1 q2 h0 h1 W)
  clear ePC
  go_cut [62, 63, 64] from 45 (fun v l i wx => l = .int .i64 5 ∧ i = .int .i64 0 ∧ ∃ (b : ByteArray) (g : Nat), v = .slice (some ⟨g, 0, none⟩) 5 5 ∧ b.size ≤ s.size + 1 ∧ Blk wx g 9 #[.string b, .string raw, .string (s ++ raw), .string (raw ++ s), .string (s ++ s)] ∧ Only NoneOf X wx)
  case first =>
    go_region_held3 (fun w' => CdS X P PC w') (first | assumption | exact HAL.out _ _ (by assumption))
      (first
        | (go_at_call 25; refine (HBT.out _).mono ?_; rintro e2 w2 ⟨b, rfl, hbs, ho2⟩; have hS2 := HKP.out _ _ (by assumption) ho2; clear ho2))
    all_goals
      go_wp2_with fail
      go_meet
      case rel => exact ⟨rfl, rfl, _, _, rfl, hbs, Blk.new _ _ _, (HAL.out _ _ hS2).only⟩
  case rest =>
    obtain ⟨rfl, rfl, b, Q, rfl, hbs, hQ, hV⟩ := hcut
    obtain ⟨V, rfl⟩ : ∃ x, x = wc := ⟨_, rfl⟩
    have hst : Hid (∀ (n : Nat) (t : ByteArray), (fiveC b raw s)[n]? = some t → t.size ≤ 49000000) := Lib.hid (fun n t h => fiveC_size hsz hbs hraw h)
    have HV := Lib.hid hV
    have HQ := Lib.hid hQ
    clear hV hQ hS l5 l6 l7 l8
    go_wp2_with fail
    go_loopw [64] (fun i W => ∃ k : Nat, i = .int .i64 k ∧ k ≤ 5 ∧ Only NoneOf V W) (fun i _ => 5 - (intOf i).toNat)
    case atStart => exact ⟨0, rfl, Nat.zero_le _, Only.refl _ _⟩
    case round =>
      obtain ⟨k, rfl, hk, hW⟩ := hrel
      have HW := Lib.hid hW
      clear hW
      by_cases hlt : k < 5
      · obtain ⟨t, ht⟩ : ∃ t, (fiveC b raw s)[k]? = some t := ⟨_, List.getElem?_eq_getElem (show k < (fiveC b raw s).length from hlt)⟩
        have hts := hst.out k t ht
        have cy : V.cell? ⟨Q, k, none⟩ = some (.string t) := by
          rw [HQ.out.cell]
          match k, hlt, ht with
          | 0, _, ht => cases ht; rfl
          | 1, _, ht => cases ht; rfl
          | 2, _, ht => cases ht; rfl
          | 3, _, ht => cases ht; rfl
          | 4, _, ht => cases ht; rfl
        have cw := HW.out.cell_some cy (fun e => e)
        have i5 : (k : Int) < 5 := by omega
        have i0 : (0 : Int) ≤ (k : Int) := by omega
        have wk : IntKind.i64.wrap ((k : Int) + 1) = (k : Int) + 1 := IntWalk.i64_in _ (by omega)
        clear cy ht
        go_wp2_with fail
        refine (pdec_any t hts wr (HE.out.none (HV.out.trans HW.out))).mono ?_
        rintro e v1 ⟨va, k1, b1, rfl, hown1, hc1, hv1⟩
        obtain ⟨qa1, pa1, rfl, hq1, hp1⟩ := hown1
        obtain ⟨x1, xk1, rfl, _, _⟩ := own_form' hq1
        obtain ⟨y1, yk1, rfl, _, _⟩ := own_form' hp1
        have hsm := d_small hts hc1
        obtain ⟨E1, eE1⟩ : ∃ E1, E1 = v1.heap.size := ⟨_, rfl⟩
        obtain ⟨Z1, eZ1⟩ : ∃ Z1, Z1 = v1.alloc (.cells #[.int .i64 b1.bidder, .string b1.qt, .slice x1 b1.qc.length xk1, .string b1.pt, .slice y1 b1.pc.length yk1] tBid) := ⟨_, rfl⟩
        have hz1 : Only NoneOf v1 Z1 := by rw [eZ1]; exact (Only.refl _ _).alloc _
        have HB1 := Lib.hid (show Blk Z1 E1 tBid #[.int .i64 b1.bidder, .string b1.qt, .slice x1 b1.qc.length xk1, .string b1.pt, .slice y1 b1.pc.length yk1] by rw [eZ1, eE1]; exact Blk.new v1 _ _)
        have HI1 : Hid (BdIn Z1 (.agg #[.int .i64 b1.bidder, .string b1.qt, .slice x1 b1.qc.length xk1, .string b1.pt, .slice y1 b1.pc.length yk1]) b1) := Lib.hid ⟨_, _, rfl, (OwnOf.sl inC_len hq1).only hz1, (OwnOf.sl inC_len hp1).only hz1⟩
        have HV1 := Lib.hid (hv1.trans hz1)
        have HC1 := Lib.hid hc1
        have EZ1 := Lib.hid eZ1
        have EE1 := Lib.hid eE1
        clear hq1 hp1 hc1 hv1 hz1 eZ1 eE1
        go_wp2_with fail
        rw [← EZ1.out]
        rw [← EE1.out]
        refine (rdecode_any t (by omega) Z1).mono ?_
        rintro e v2 ⟨vb, k2, b2, rfl, hown2, hc2, hv2⟩
        obtain ⟨rfl, rfl⟩ := d_two HC1.out hc2
        obtain ⟨qa2, pa2, rfl, hq2, hp2⟩ := hown2
        obtain ⟨x2, xk2, rfl, _, _⟩ := own_form' hq2
        obtain ⟨y2, yk2, rfl, _, _⟩ := own_form' hp2
        obtain ⟨E2, eE2⟩ : ∃ E2, E2 = v2.heap.size := ⟨_, rfl⟩
        obtain ⟨Z2, eZ2⟩ : ∃ Z2, Z2 = v2.alloc (.cells #[.int .i64 b1.bidder, .string b1.qt, .slice x2 b1.qc.length xk2, .string b1.pt, .slice y2 b1.pc.length yk2] tBid) := ⟨_, rfl⟩
        have hz2 : Only NoneOf v2 Z2 := by rw [eZ2]; exact (Only.refl _ _).alloc _
        have HI2 : Hid (BdIn Z2 (.agg #[.int .i64 b1.bidder, .string b1.qt, .slice x2 b1.qc.length xk2, .string b1.pt, .slice y2 b1.pc.length yk2]) b1) := Lib.hid ⟨_, _, rfl, (OwnOf.sl inC_len hq2).only hz2, (OwnOf.sl inC_len hp2).only hz2⟩
        have HV2 := Lib.hid (hv2.trans hz2)
        have hB1 := HB1.out.only HV2.out (fun e => e)
        have z0 := hB1.cell 0
        have z1 := hB1.cell 1
        have z2 := hB1.cell 2
        have z3 := hB1.cell 3
        have z4 := hB1.cell 4
        rw [eZ2] at z0 z1 z2 z3 z4
        have EZ2 := Lib.hid eZ2
        clear hq2 hp2 hc2 hv2 hz2 eZ2 eE2 hB1
        go_wp2_with fail
        rw [← EZ2.out]
        refine (sbid_any b1 hsm.1 hsm.2 _ _ Z2 (HI1.out.only HV2.out) HI2.out).mono ?_
        rintro e v3 ⟨rfl, hv3⟩
        have HV3 := Lib.hid hv3
        clear hv3 z0 z1 z2 z3 z4
        go_wp2_with fail
        go_roundw
        case rel => exact ⟨k + 1, rfl, by omega, ((HW.out.trans HV1.out).trans HV2.out).trans HV3.out⟩
        case measure => simp [intOf]; omega
      · obtain rfl : k = 5 := by omega
        go_wp2_with fail
        go_ret
        exact ⟨rfl, (HXW.out.trans HV.out).trans HW.out⟩
end Go.Proofs.YtpdlbmieciabmaaGreatDoor
