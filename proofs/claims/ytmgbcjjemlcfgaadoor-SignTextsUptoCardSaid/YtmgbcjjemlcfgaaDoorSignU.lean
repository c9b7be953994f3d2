/- What is proved here: the law on the texts of signatures answers true. Conditions: the library's variables hold what their initialisers lay; the numbers are ints; the text is short. -/
import Derived.Test.YtmgbcjjemlcfgaaDoorSignP
import Derived.Test.YtmgbcjjemlcfgaaDoorSignN
import Derived.BigRegion
namespace Go.Proofs.YtmgbcjjemlcfgaaDoor
open Go.RowKit Go.Shelf
/-- The readings of one text are alike. -/
theorem ends_alike {l : List UInt8} {e1 : Ending} (h1 : ReadEnd l e1) : ∃ r s b, e1 = .returned (.tuple #[sgv r s, .bool b]) ∧ ∀ e2, ReadEnd l e2 → e2 = .returned (.tuple #[sgv r s, .bool b]) := by
  rcases h1 with ⟨r, s, h, rfl⟩ | ⟨h, rfl⟩
  · exact ⟨r, s, true, rfl, fun _ h2 => read_in h h2⟩
  · exact ⟨0, 0, false, rfl, fun _ h2 => read_out h h2⟩
theorem textOf_len {r s : Int} (hr : In r) (hs : In s) : 1 ≤ (textOf r s).length ∧ (textOf r s).length ≤ 43 := by
  have h1 := itoa_len hr.1 hr.2
  have h2 := itoa_len hs.1 hs.2
  unfold textOf
  rw [List.length_append, List.length_cons]
  omega
theorem Buf.at_ {w : World} {e : TypeId} {g n c : Nat} {l : List UInt8} (h : Buf w e (.slice (some ⟨g, 0, none⟩) n c) l) {i : Nat} (hi : i < n) : (∃ x, w.cell? ⟨g, i, none⟩ = some (bv x)) ∧ w.frozen? ⟨g, i, none⟩ = false := by
  obtain ⟨g', cap', cur, lo, hi', hv, hh, hcs, hc, hm, hz, ht⟩ := h
  simp only [Value.slice.injEq, Option.some.injEq, Addr.mk.injEq, and_true] at hv
  obtain ⟨rfl, rfl, rfl⟩ := hv
  have hb : Buf w e (.slice (some ⟨g, 0, none⟩) l.length c) l := ⟨g, c, cur, lo, hi', rfl, hh, hcs, hc, hm, hz, ht⟩
  refine ⟨⟨l[i], ?_⟩, ?_⟩
  · have h1 := hb.bytes i _ (List.getElem?_eq_getElem hi)
    rwa [Nat.zero_add] at h1
  · unfold World.frozen?
    simp only [hh]
    rcases hz with hz | hz
    · simp; omega
    · simp [hz]
theorem Buf.put_ {w : World} {e : TypeId} {g n c : Nat} {l : List UInt8} (h : Buf w e (.slice (some ⟨g, 0, none⟩) n c) l) (i : Nat) (y : UInt8) : Buf (w.setCell ⟨g, i, none⟩ (bv y)) e (.slice (some ⟨g, 0, none⟩) n c) (l.set i y) := by
  obtain ⟨g', cap', cur, lo, hi', hv, hh, hcs, hc, hm, hz, ht⟩ := h
  simp only [Value.slice.injEq, Option.some.injEq, Addr.mk.injEq, and_true] at hv
  obtain ⟨rfl, rfl, rfl⟩ := hv
  refine ⟨g, c, cur.setIfInBounds i (bv y), lo, hi', by rw [List.length_set], ?_, by simpa using hcs, by rw [List.length_set]; exact hc, hm, hz, ?_⟩
  · simp [World.setCell, Array.getElem?_modify, hh]
  · rw [Array.toList_setIfInBounds, List.length_set, List.take_set, ht, List.map_set]
theorem edit_place {a : Int} {n : Nat} (hn0 : 1 ≤ n) (hn : n ≤ 1048576) : ∃ i : Nat, i < n ∧ (wrap64 (a.tmod (n : Int) + (n : Int))).tmod (n : Int) = (i : Int) := by
  have h1 : -(n : Int) < a.tmod (n : Int) ∧ a.tmod (n : Int) < (n : Int) := by
    have hl := Int.tmod_lt_of_pos a (show (0 : Int) < (n : Int) by omega)
    have hg := Int.lt_tmod_of_pos a (show (0 : Int) < (n : Int) by omega)
    exact ⟨hg, hl⟩
  have h2 : wrap64 (a.tmod (n : Int) + (n : Int)) = a.tmod (n : Int) + (n : Int) := by unfold wrap64; omega
  rw [h2, Int.tmod_eq_emod_of_nonneg (by omega)]
  have h3 := Int.emod_nonneg (a.tmod (n : Int) + (n : Int)) (show (n : Int) ≠ 0 by omega)
  have h4 := Int.emod_lt_of_pos (a.tmod (n : Int) + (n : Int)) (show (0 : Int) < (n : Int) by omega)
  exact ⟨((a.tmod (n : Int) + (n : Int)) % (n : Int)).toNat, by omega, by omega⟩
abbrev tEdit : TypeId := 38
set_option maxRecDepth 100000 in
set_option maxHeartbeats 2000000 in
theorem texts_any (r s : Int) (T : ByteArray) (at' : Int) (y : UInt8) (hr : In r) (hs : In s) (hat : In at') (hT : T.size ≤ 1048576) (w : World) (he : Env w) :
    Calls Tryd.prog 8 #[.int .i64 r, .int .i64 s, .agg #[.string T, .int .i64 at', .int .u8 (y.toNat : Int)]] w fun e w' => e = .returned (.bool true) ∧ Only NoneOf w w' := by
  have hq := Blk.new w tEdit #[.string T, .int .i64 at', .int .u8 (y.toNat : Int)]
  have hlen := textOf_len hr hs
  have htx := fun W hW => stext_any r s hr hs W hW
  have hrx := fun W => rtext_any r s hr hs W
  have hrd := fun (u : ByteArray) (hu : u.size ≤ 1048576) W hW => sread_any u hu W hW
  have hrr := fun (u : ByteArray) (hu : u.size ≤ 1048576) W => rread_any u hu W
  have hit : IsText (textOf r s) r s := ⟨hr, hs, rfl⟩
  unfold sgv at htx hrx
  obtain ⟨B, eB⟩ : ∃ B, B = w.heap.size := ⟨_, rfl⟩
  obtain ⟨X, eX⟩ : ∃ X, X = w.alloc (.cells #[.string T, .int .i64 at', .int .u8 (y.toNat : Int)] tEdit) := ⟨_, rfl⟩
  have hx : Only NoneOf w X := by rw [eX]; exact (Only.refl _ _).alloc _
  rw [← eX, ← eB] at hq
  have HQ := Lib.hid hq
  have HX := Lib.hid hx
  have HE := Lib.hid he
  have HTX := Lib.hid htx
  have HRX := Lib.hid hrx
  have HRD := Lib.hid hrd
  have HRR := Lib.hid hrr
  have HIT := Lib.hid hit
  have HLEN := Lib.hid hlen
  have EX := Lib.hid eX
  have EB := Lib.hid eB
  have HAT := Lib.hid hat
  clear hq hx he htx hrx hrd hrr hit hlen eX eB hr hs hat
  go_enter Tryd.func8, Tryd.ntmps8
  go_wp2_with fail
  rw [← EX.out, ← EB.out]
  clear EX EB
  refine (sanity_any X (HE.out.none HX.out)).mono ?_
  rintro e w1 ⟨rfl, ho1⟩
  have HO1 := Lib.hid (HX.out.trans ho1)
  have HQ1 := Lib.hid (HQ.out.only ho1 (fun e => e))
  clear ho1
  have hb1 := Blk.new w1 tSig #[.int .i64 r, .int .i64 s]
  have c0 := hb1.cell 0
  have c1 := hb1.cell 1
  have HB1 := Lib.hid hb1
  clear hb1
  go_wp2_with fail
  have ho2 : Only NoneOf w (w1.alloc (.cells #[.int .i64 r, .int .i64 s] tSig)) := HO1.out.alloc _
  have hq2 := HQ1.out.alloc (.cells #[.int .i64 r, .int .i64 s] tSig)
  obtain ⟨G, eG⟩ : ∃ G, G = w1.heap.size := ⟨_, rfl⟩
  obtain ⟨Y, eY⟩ : ∃ Y, Y = w1.alloc (.cells #[.int .i64 r, .int .i64 s] tSig) := ⟨_, rfl⟩
  have hy := HB1.out
  rw [← eY, ← eG] at hy
  rw [← eY] at ho2 hq2
  rw [← eY, ← eG]
  have HYO := Lib.hid ho2
  have HYQ := Lib.hid hq2
  have HYB := Lib.hid hy
  clear c0 c1 HB1 HQ1 ho2 hq2 hy eG eY
  refine (HTX.out Y (HE.out.none HYO.out).tab).mono ?_
  rintro e w3 ⟨t, rfl, ht, ho3⟩
  have hts : t.size ≤ 43 := by rw [size_list, ht]; exact HLEN.out.2
  have htp : 1 ≤ t.size := by rw [size_list, ht]; exact HLEN.out.1
  have HB3 := Lib.hid (HYB.out.only ho3 (fun e => e))
  have HQ3 := Lib.hid (HYQ.out.only ho3 (fun e => e))
  have HO3 := Lib.hid (HYO.out.trans ho3)
  have HT := Lib.hid ht
  clear ho3 ht HYB HYQ HYO
  go_wp2_with fail
  refine (HRD.out t (by omega) w3 (HE.out.none HO3.out)).mono ?_
  rintro e w4 ⟨hE, ho4⟩
  rw [HT.out] at hE
  obtain rfl := read_in HIT.out hE
  unfold sgv
  have hb4 := (HB3.out.only ho4 (fun e => e)).alloc (.cells #[.int .i64 r, .int .i64 s] tSig)
  have c0 := hb4.cell 0
  have c1 := hb4.cell 1
  have hy4 := Blk.new w4 tSig #[.int .i64 r, .int .i64 s]
  have hq4 := (HQ3.out.only ho4 (fun e => e)).alloc (.cells #[.int .i64 r, .int .i64 s] tSig)
  have ho4' := (HO3.out.trans ho4).alloc (.cells #[.int .i64 r, .int .i64 s] tSig)
  have HB4 := Lib.hid hb4
  have HY4 := Lib.hid hy4
  have HQ4 := Lib.hid hq4
  have HO4 := Lib.hid ho4'
  clear hE ho4 hb4 hy4 hq4 ho4' HB3 HQ3 HO3
  go_wp2_with fail
  obtain ⟨G4, eG4⟩ : ∃ G, G = w4.heap.size := ⟨_, rfl⟩
  obtain ⟨Y4, eY4⟩ : ∃ Y, Y = w4.alloc (.cells #[.int .i64 r, .int .i64 s] tSig) := ⟨_, rfl⟩
  rw [← eY4, ← eG4] at HY4
  rw [← eY4] at HB4 HQ4 HO4 c0 c1
  rw [← eY4, ← eG4]
  clear eG4 eY4
  refine (HRX.out Y4).mono ?_
  rintro e w5 ⟨t2, rfl, ht2, ho5⟩
  have htt : t2 = t := (bytes_eq (by rw [ht2])).trans (bytes_eq (t := t) (l := textOf r s) HT.out).symm
  subst htt
  have hb5 := HB4.out.only ho5 (fun e => e)
  have hy5 := HY4.out.only ho5 (fun e => e)
  have c2 := hb5.cell 0
  have c3 := hb5.cell 1
  have c4 := hy5.cell 0
  have c5 := hy5.cell 1
  have HQ5 := Lib.hid (HQ4.out.only ho5 (fun e => e))
  have HO5 := Lib.hid (HO4.out.trans ho5)
  clear ht2 ho5 hb5 hy5 c0 c1 HB4 HY4 HQ4 HO4
  have i1 : (1 : Int) ≤ (t2.size : Int) := by omega
  have i2 : ¬ (t2.size : Int) = 0 := by omega
  have i3 : ((t2.size : Int) == 0) = false := by rw [beq_eq_false_iff_ne]; omega
  have tok1 : True := trivial
  go_wp2_with (have _t := tok1; refine wpList_convert_string rfl 9 42 5 (.tmp 48) rfl t2 rfl Tryd.underlying9 Tryd.underlying42 Tryd.underlying5 (by unfold maxLen; omega) w5 w5.heap.size rfl (Only.refl NoneOf _) ?_; intro g1 c1 w6 hb6 ho6 hg1a hg1b hc1 hc1m; clear tok1 _t)
  have hq6 := HQ5.out.only ho6.out (fun e => e)
  have q0 := hq6.cell 0
  have q1 := hq6.cell 1
  have q2 := hq6.cell 2
  simp only [List.getElem?_toArray, List.getElem?_cons_succ, List.getElem?_cons_zero] at q0 q1 q2
  obtain ⟨i, hi, ei⟩ := edit_place (a := at') htp (Nat.le_trans hts (by omega))
  obtain ⟨⟨xi, ci⟩, fi⟩ := hb6.out.at_ hi
  have j0 : 0 ≤ (i : Int) := by omega
  have j1 : (i : Int) < (t2.size : Int) := by omega
  have HQ6 := Lib.hid hq6
  have HO6 := Lib.hid (HO5.out.trans ho6.out)
  have HB6 := hb6
  unfold maxLen at hc1m
  clear hq6 hb6 ho6 c2 c3 c4 c5
  go_region
  go_wp2_with fail
  have hb7 := (HB6.out.put_ i y).drewN 1
  have hq7 := (HQ6.out.far (p := ⟨g1, i, none⟩) (show B ≠ g1 from fun e => by have := HQ5.out.lt; omega) (bv y)).drew
  have ho7 := (HO6.out.setCell (p := ⟨g1, i, none⟩) (.inr (Nat.le_trans HO5.out.size hg1a)) (bv y)).drew
  refine wp_gen (fun Y => Buf Y 5 (.slice (some ⟨g1, 0, none⟩) t2.size c1) (t2.data.toList.set i y) ∧ Blk Y B tEdit #[.string T, .int .i64 at', .int .u8 (y.toNat : Int)] ∧ Only NoneOf w Y) ⟨hb7, hq7, ho7⟩ ?_
  rintro Z ⟨hbZ, hqZ, hoZ⟩
  clear hb7 hq7 ho7 HB6 HQ6 HO6 ci fi q0 q1 q2 ei j0 j1
  obtain ⟨U, hU, hUz⟩ : ∃ U : ByteArray, U.size = t2.size ∧ ∀ W, Buf W 5 (.slice (some ⟨g1, 0, none⟩) t2.size c1) (t2.data.toList.set i y) → (convert 42 9 (.slice (some ⟨g1, 0, none⟩) t2.size c1)).run Tryd.prog W = .ok (.string U) W :=
    ⟨⟨(t2.data.toList.set i y).toArray⟩, by rw [size_list]; simp, fun W hW => run_back hW.bytes (by simp)⟩
  have r1 := hUz Z.drew (hbZ.drewN 1)
  have q0 := hqZ.cell 0
  simp only [List.getElem?_toArray, List.getElem?_cons_zero] at q0
  have z1 : ¬ 9223372036854775807 < t2.size + 1 := by omega
  have z2 : ¬ 9223372036854775807 < 1 + t2.size := by omega
  have HUS := Lib.hid hU
  have HOZ := Lib.hid hoZ
  clear hbZ hqZ hoZ hU hUz
  go_region
  have hG := (Blk.new Z 9 #[.string T, .string U, .string (t2 ++ ⟨#[48]⟩), .string (⟨#[48]⟩ ++ t2), .string (t2.extract 1 t2.size), .string (⟨#[46]⟩ ++ t2)]).drew
  have hGo : Only NoneOf w (Z.alloc (.cells #[.string T, .string U, .string (t2 ++ ⟨#[48]⟩), .string (⟨#[48]⟩ ++ t2), .string (t2.extract 1 t2.size), .string (⟨#[46]⟩ ++ t2)] 9)).drew := (HOZ.out.alloc _).drew
  have hpick : ∀ (wr : World) (k : Nat) (G : Nat), k < 6 → Blk wr G 9 #[.string T, .string U, .string (t2 ++ ⟨#[48]⟩), .string (⟨#[48]⟩ ++ t2), .string (t2.extract 1 t2.size), .string (⟨#[46]⟩ ++ t2)] → ∃ x : ByteArray, wr.cell? ⟨G, k, none⟩ = some (.string x) ∧ x.size ≤ 1048576 := by
    intro wr k G hk hb
    have hu := HUS.out
    have e1 : (⟨#[48]⟩ : ByteArray).size = 1 := rfl
    have e2 : (⟨#[46]⟩ : ByteArray).size = 1 := rfl
    match k, hk with
    | 0, _ => exact ⟨_, hb.cell 0, hT⟩
    | 1, _ => exact ⟨_, hb.cell 1, by omega⟩
    | 2, _ => exact ⟨_, hb.cell 2, by rw [ByteArray.size_append]; omega⟩
    | 3, _ => exact ⟨_, hb.cell 3, by rw [ByteArray.size_append]; omega⟩
    | 4, _ => exact ⟨_, hb.cell 4, by rw [ByteArray.size_extract]; omega⟩
    | 5, _ => exact ⟨_, hb.cell 5, by rw [ByteArray.size_append]; omega⟩
  go_wp2_with fail
  obtain ⟨G7, eG7⟩ : ∃ g, g = Z.heap.size := ⟨_, rfl⟩
  rw [← eG7] at hG ⊢
  obtain ⟨cs, ecs⟩ : ∃ cs : Array Value, cs = #[.string T, .string U, .string (t2 ++ ⟨#[48]⟩), .string (⟨#[48]⟩ ++ t2), .string (t2.extract 1 t2.size), .string (⟨#[46]⟩ ++ t2)] := ⟨_, rfl⟩
  rw [← ecs] at hG hGo ⊢
  have HPICK : Hid (∀ (wr : World) (k : Nat), k < 6 → Blk wr G7 9 cs → ∃ x : ByteArray, wr.cell? ⟨G7, k, none⟩ = some (.string x) ∧ x.size ≤ 1048576) := Lib.hid (fun wr k hk hb => hpick wr k G7 hk (by rw [ecs] at hb; exact hb))
  have HG := Lib.hid hG
  have HGO := Lib.hid hGo
  clear hpick hG hGo ecs eG7 r1 q0 z1 z2
  go_loopw [79] (fun v wr => ∃ k : Nat, v = .int .i64 k ∧ k ≤ 6 ∧ Blk wr G7 9 cs ∧ Only NoneOf w wr) (fun v _ => 6 - (intOf v).toNat)
  case atStart => exact ⟨0, rfl, by omega, HG.out, HGO.out⟩
  case round =>
    obtain ⟨k, rfl, hk, hB, hO⟩ := hrel
    have HBk := Lib.hid hB
    have HOk := Lib.hid hO
    clear hB hO
    by_cases hlt : k < 6
    · obtain ⟨x, hx, hxs⟩ := HPICK.out wr k hlt HBk.out
      have ik : (k : Int) < 6 := by omega
      have ik0 : 0 ≤ (k : Int) := by omega
      go_wp2_with fail
      refine (HRD.out x hxs wr (HE.out.none HOk.out)).mono ?_
      rintro e u1 ⟨hE1, hu1⟩
      obtain ⟨a, b, f, rfl, hE2⟩ := ends_alike hE1
      unfold sgv at hE2 ⊢
      have hO1 := (HOk.out.trans hu1).alloc (.cells #[.int .i64 a, .int .i64 b] tSig)
      have hB1 := (HBk.out.only hu1 (fun e => e)).alloc (.cells #[.int .i64 a, .int .i64 b] tSig)
      have hY1 := Blk.new u1 tSig #[.int .i64 a, .int .i64 b]
      have HO1' := Lib.hid hO1
      have HB1' := Lib.hid hB1
      have HY1 := Lib.hid hY1
      have HE2 := Lib.hid hE2
      clear hE1 hE2 hu1 hO1 hB1 hY1 hx
      go_wp2_with fail
      refine (HRR.out x hxs _).mono ?_
      rintro e u2 ⟨hE3, hu2⟩
      obtain rfl := HE2.out e hE3
      have hO2 := (HO1'.out.trans hu2).alloc (.cells #[.int .i64 a, .int .i64 b] tSig)
      have hB2 := (HB1'.out.only hu2 (fun e => e)).alloc (.cells #[.int .i64 a, .int .i64 b] tSig)
      have hY2 := (HY1.out.only hu2 (fun e => e)).alloc (.cells #[.int .i64 a, .int .i64 b] tSig)
      have hV2 := Blk.new u2 tSig #[.int .i64 a, .int .i64 b]
      have c2 := hY2.cell 0
      have c3 := hY2.cell 1
      have c4 := hV2.cell 0
      have c5 := hV2.cell 1
      have HO2' := Lib.hid hO2
      have HB2' := Lib.hid hB2
      clear hE3 hu2 hO2 hB2 hY2 hV2
      go_wp2_with fail
      go_roundw
      case rel => exact ⟨k + 1, by go_num, by omega, HB2'.out, HO2'.out⟩
      case measure => simp [intOf]; omega
    · have ik : ¬ (k : Int) < 6 := by omega
      go_wp2_with fail
      go_ret
      exact ⟨rfl, HOk.out⟩
end Go.Proofs.YtmgbcjjemlcfgaaDoor
